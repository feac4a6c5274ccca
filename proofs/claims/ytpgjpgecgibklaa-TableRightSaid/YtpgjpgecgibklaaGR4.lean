/- Contracts of functions, and plain laws: several texts, joined. -/
import Derived.Test.YtpgjpgecgibklaaGR3
import Derived.Test.YtpgjpgecgibklaaGV1
import Derived.Lib.Builder
import Derived.Lib.UnsafeStr
import Derived.Laws.Externs
import Derived.Test.YtpgjpgecgibklaaGR1
import Derived.Test.YtpgjpgecgibklaaGK2
set_option linter.unusedVariables false
set_option linter.unusedSimpArgs false
set_option maxRecDepth 100000
set_option maxHeartbeats 2000000
namespace Fk
open Go Go.Proofs Go.RowKit
theorem nb1_map (l : List Nat) : l.flatMap b1 = l.map fun x : Nat => Value.int .u8 (x : Int) := by
  induction l with
  | nil => rfl
  | cons x l ih => rw [List.flatMap_cons, ih]; rfl
theorem Ct.call0 {P : Program} {f : FuncId} {args : Array Value} {w : World} {Φ K : Value → World → Prop} (h : Ct P f args w Φ) (hk : ∀ v w', Φ v w' → K v w') : CallW P [] f args K w :=
  ⟨.inl ⟨h.1, h.2.mono fun e w' he => by cases e <;> first | exact ⟨(fun b hb => by cases hb), hk _ _ he⟩ | exact he.elim⟩⟩
structure BldS (w0 w : World) (n : Nat) (used : Bool) (a : Option Addr) (c : Nat) (bs : List Nat) : Prop where
  blk : Blk w n 285 [.pointer (if used = true then some ⟨n, 0, none⟩ else none), .slice a bs.length c]
  md : Md [] w0 w
  nlo : w0.heap.size ≤ n
  own : OwnL w w0.heap.size 5 1 b1 a c bs
  ne : ∀ A, a = some A → A.block ≠ n
  nz : a = none ∨ c ≠ 0
theorem eqPtrSame (w : World) (a : Addr) (o1 o2 : Operand) : (eqS .neq 283 o1 o2 (.pointer (some a)) (.pointer (some a))).run Try.prog w = .ok (.bool false) w := by
  have hi : (Try.prog.info? 285).isSome = true := by kernel_rfl
  obtain ⟨j, hj⟩ := Option.isSome_iff_exists.1 hi
  have h := Go.Lib.run_neq_ptr_same (P := Try.prog) w (tp := 283) (te := 285) a (by kernel_rfl) hj
  have hg : Try.prog.eqGuardType Try.prog.depth 283 = false := by kernel_rfl
  unfold eqS eqGuard
  simp only [Sem.run_bind]
  simp [hg, h]
theorem Blk.shape {w : World} {n : Nat} {ty : TypeId} {l : List Value} (h : Blk w n ty l) : w.shape? n = some (ty, l.length) := by
  unfold World.shape?
  rw [h]
  simp
theorem f229_ok {w0 w : World} {n : Nat} {u : Bool} {a : Option Addr} {c : Nat} {bs : List Nat} (S : BldS w0 w n u a c bs) : Ct Try.prog 229 #[.pointer (some ⟨n, 0, none⟩)] w fun v w' => (v = .tuple #[] ∧ BldS w0 w' n true a c bs) ∧ Md [n] w w' := by
  apply f229_in
  refine NN_in <| S.blk.ld' rfl <| opP_in ?_
  cases u with
  | false =>
    simp only [Bool.false_eq_true, if_false]
    refine RunW_in0 (eqNilP (P := Try.prog) none w _ _ 283 285 (by kernel_rfl) (by kernel_rfl)).1 <| opB_in <| If_in (fun _ => ?_) fun h => by cases h
    have hi : (Try.prog.info? 285).isSome = true := by kernel_rfl
    obtain ⟨j, hj⟩ := Option.isSome_iff_exists.1 hi
    have hsz : (Try.prog.info? 285).map (·.size) = some 2 := by kernel_rfl
    rw [hj] at hsz
    have hsz' : j.size = 2 := by simpa using hsz
    have hsh := S.blk.shape
    refine RunW_in0 (Go.Lib.run_to_unsafe (P := Try.prog) w (src := 283) (dst := 303) (t := 285) ⟨n, 0, none⟩ (by kernel_rfl) (by kernel_rfl) hj (by omega) hsh (by simp)) ?_
    have hc := run_callFunc_extern (P := Try.prog) (f := 234) (fn := Try.f234) Try.func234 (by kernel_rfl) (by kernel_rfl) (e := Extern.AbiNoEscape.same) (by kernel_rfl) (by kernel_rfl) #[.pointer (some ⟨n, 0, none⟩)] w
    rw [Go.Lib.run_noEscape] at hc
    refine ⟨.inr ⟨_, _, hc, fun _ _ => rfl, ?_⟩⟩
    refine RunW_in0 (Go.Lib.run_from_unsafe (P := Try.prog) w (src := 303) (dst := 283) (u := 285) ⟨n, 0, none⟩ (by kernel_rfl) (by kernel_rfl) hj hsh (by kernel_rfl)) <| opP_in <| NN_in ?_
    rw [ad0']
    have m := Md_setCells (w := w) n 0 [.pointer (some ⟨n, 0, none⟩)]
    have b' := S.blk.set (j := 0) (by simp) (.pointer (some ⟨n, 0, none⟩))
    exact ⟨by simp, S.blk.wr (by simp), ⟨by trivial, b', S.md.old m (by simp; exact S.nlo), S.nlo, S.own.mdD m (fun A hA => by simp; exact S.ne A hA), S.ne, S.nz⟩, m⟩
  | true =>
    simp only [if_true]
    refine RunW_in0 (eqNilP (P := Try.prog) (some ⟨n, 0, none⟩) w _ _ 283 285 (by kernel_rfl) (by kernel_rfl)).1 <| opB_in <| If_in (fun h => by cases h) fun _ => NN_in <| S.blk.ld' rfl <| opP_in ?_
    simp only [if_true]
    exact RunW_in0 (eqPtrSame w ⟨n, 0, none⟩ _ _) <| opB_in <| If_in (fun h => by cases h) fun _ => ⟨⟨by trivial, S⟩, Md.refl _ _⟩
theorem f218_ok {w0 w : World} {n : Nat} {u : Bool} {a : Option Addr} {c : Nat} {bs : List Nat} (S : BldS w0 w n u a c bs) (x : Nat) (hl : bs.length < 2 ^ 30) : Ct Try.prog 218 #[.pointer (some ⟨n, 0, none⟩), .int .u8 x] w fun v w' => ∃ a' c', BldS w0 w' n true a' c' (bs ++ [x]) := by
  apply f218_in
  refine (f229_ok S).callD (by simp) (by simp) ?_
  rintro v w2 ⟨rfl, S2⟩ m2
  refine opTu_in <| SzIs_in rfl <| NN_in <| S2.blk.ld' rfl <| opL_in ?_
  refine app_one rowT51 encb1 x rfl S2.own S2.md.size (by simp) (by simp) (by simp [maxLen]; omega) (by omega) fun a' c' w12 o12 m12 hA => opL_in <| NN_in ?_
  rw [ad0']
  have hnd : n ∉ (a.map (·.block)).toList := fun hd => by obtain ⟨A, hA', e⟩ := mem_blk hd; exact S.ne A hA' e
  have b12 := S2.blk.md m12 hnd
  have hlt := S2.blk.lt
  have md12 : Md [] w0 w12 := S2.md.old m12 (fun d hd => by obtain ⟨A, hA', rfl⟩ := mem_blk hd; exact (S2.own.lt hA').1)
  have m := Md_setCells (w := w12) n 1 [.slice a' (bs ++ [x]).length c']
  have ne' : ∀ A, a' = some A → A.block ≠ n := fun A h e => by
    rcases hA A h with h1 | h1
    · exact S.ne A h1 e
    · omega
  have b' := b12.set (j := 1) (by simp) (.slice a' (bs ++ [x]).length c')
  have hcap := o12.cap
  exact ⟨by simp, b12.wr (by simp), a', c', ⟨b', md12.old m (by simp; exact S.nlo), S.nlo, o12.mdD m (fun A hA => by simp; exact ne' A hA), ne', .inr (by simp at hcap; omega)⟩⟩
theorem Md_freeze (w : World) (g n : Nat) : Md [g] w (w.freeze ⟨g, 0, none⟩ n) := by
  unfold World.freeze
  split
  · exact Md.refl _ _
  · refine ⟨rfl, rfl, rfl, by simp, fun k hk hm => ?_⟩
    have hne : ¬ g = k := fun e => hm (by simp [e])
    simp [Array.getElem?_modify, hne]
theorem f219_ok {w0 w : World} {n : Nat} {u : Bool} {a : Option Addr} {c : Nat} {bs : List Nat} (S : BldS w0 w n u a c bs) (hb : ∀ x ∈ bs, x < 256) (hl : bs.length < 2 ^ 30) : Ct Try.prog 219 #[.pointer (some ⟨n, 0, none⟩)] w fun v w' => v = .string (bytesOf bs) ∧ Md [] w0 w' := by
  apply f219_in
  have hnd : n ∉ (a.map (·.block)).toList := fun hd => by obtain ⟨A, hA', e⟩ := mem_blk hd; exact S.ne A hA' e
  have hbk : ∀ {w' : World}, Md (a.map (·.block)).toList w.drew w' → Blk w' n 285 [.pointer (if u = true then some ⟨n, 0, none⟩ else none), .slice a bs.length c] := fun hm => (S.blk.md (Md_drew w) (by simp)).md hm hnd
  have lo : ∀ d ∈ (a.map (·.block)).toList, w0.heap.size ≤ d := fun d hd => by obtain ⟨A, hA', rfl⟩ := mem_blk hd; exact (S.own.lt hA').1
  refine ⟨fun w' => Md (a.map (·.block)).toList w.drew w', Md.refl _ _, NN_in ?_⟩
  show ∃ v3, _ ∧ _
  refine ⟨_, fun w' hm => (hbk hm).ld' rfl rfl, opL_in <| NN_in ?_⟩
  show ∃ v3, _ ∧ _
  refine ⟨_, fun w' hm => (hbk hm).ld' rfl rfl, opL_in <| Bd_e rfl ?_⟩
  have md := S.md.trans (Md_drew w)
  cases ha : a with
  | none =>
    have h0 : bs = [] := by
      rcases S.own.2 with ⟨_, h⟩ | ⟨g, _, _, hv, _⟩
      · exact List.eq_nil_of_length_eq_zero h
      · simp [ha] at hv
    subst h0
    refine RunW_in0 (Go.Lib.run_unsafeSliceData_nil (P := Try.prog) w.drew _ _ _ _) <| opP_in ⟨Md.refl _ _, ?_⟩
    exact RunW_in0 (Go.Lib.run_unsafeString_none (P := Try.prog) w.drew 296 3 9 none) <| opStr_in ⟨Md.refl _ _, rfl, md⟩
  | some A =>
    have hc0 : c ≠ 0 := by rcases S.nz with h | h; rw [ha] at h; cases h; exact h
    refine RunW_in0 (Go.Lib.run_unsafeSliceData_row (P := Try.prog) w.drew _ _ A bs.length c hc0) <| opP_in ⟨Md.refl _ _, ?_⟩
    have own := S.own.md (Md_drew w)
    rw [ha] at own
    by_cases hbs : bs = []
    · subst hbs
      exact RunW_in0 (Go.Lib.run_unsafeString_none (P := Try.prog) w.drew 296 3 9 (some A)) <| opStr_in ⟨Md.refl _ _, rfl, md⟩
    · rcases own.2 with ⟨hv, _⟩ | ⟨g, cap, cur, hv, hbg, hg, hnc, hcm, hcs, htk⟩
      · simp at hv
      · simp only [Value.slice.injEq, Option.some.injEq] at hv
        obtain ⟨rfl, _, rfl⟩ := hv
        have hsh : w.drew.shape? g = some (5, cur.size) := by
          unfold World.shape?
          rw [hg]
        have hlen : (bs.map UInt8.ofNat).length = bs.length := by simp
        have hrun := Go.Lib.run_unsafeString_row (P := Try.prog) w.drew 296 3 9 5 (by kernel_rfl) (by kernel_rfl) g cur.size hsh (bs.map UInt8.ofNat) (by simpa using hbs) (by rw [hlen]; omega) (by rw [hlen]; omega) (fun j x hx => by
          rw [List.getElem?_map] at hx
          obtain ⟨y, hy, rfl⟩ := Option.map_eq_some_iff.1 hx
          obtain ⟨B, hB, hcl⟩ := own.cells j (.int .u8 (y : Int)) (by rw [nb1_map, List.getElem?_map, hy]; rfl)
          injection hB with hB
          subst hB
          have hy256 := hb y (List.mem_of_getElem? hy)
          rw [hcl]
          simp
          omega)
        rw [hlen] at hrun
        have mf := Md_freeze w.drew g bs.length
        refine RunW_in hrun (fun b hb => by cases hb) <| opStr_in ⟨by simpa using mf, rfl, md.old mf (by simp; exact hbg)⟩
def byteG : List Bool → Nat → Nat → Nat
  | [], _, acc => acc
  | h :: hs, i, acc => byteG hs (i + 1) (if h = true then acc ||| 2 ^ i else acc)
theorem byteG_bit (j : Nat) : ∀ (ch : List Bool) (i acc : Nat), (byteG ch i acc).testBit j = true ↔ acc.testBit j = true ∨ (i ≤ j ∧ ch[j - i]? = some true)
  | [], i, acc => by simp [byteG]
  | h :: hs, i, acc => by
    unfold byteG
    rw [byteG_bit j hs (i + 1)]
    by_cases hj : j = i
    · subst hj
      cases h with
      | true => simp [Nat.testBit_or]
      | false => simp; intro h2; omega
    · have e2 : (i + 1 ≤ j ∧ hs[j - (i + 1)]? = some true) ↔ (i ≤ j ∧ (h :: hs)[j - i]? = some true) := by
        constructor
        · rintro ⟨h1, h2⟩
          refine ⟨by omega, ?_⟩
          rw [show j - i = (j - (i + 1)) + 1 by omega, List.getElem?_cons_succ]; exact h2
        · rintro ⟨h1, h2⟩
          refine ⟨by omega, ?_⟩
          rw [show j - i = (j - (i + 1)) + 1 by omega, List.getElem?_cons_succ] at h2; exact h2
      rw [e2]
      cases h with
      | true => have hij : ¬ i = j := fun e => hj e.symm; simp [Nat.testBit_or, Nat.testBit_two_pow, hij]
      | false => simp
theorem byteG_lt : ∀ (ch : List Bool) (i acc : Nat), acc < 256 → i + ch.length ≤ 8 → byteG ch i acc < 256
  | [], i, acc, h, _ => h
  | h :: hs, i, acc, ha, hi => by
    simp only [List.length_cons] at hi
    unfold byteG
    refine byteG_lt hs _ _ ?_ (by omega)
    split
    · have h2 : 2 ^ i < 2 ^ 8 := Nat.pow_lt_pow_right (by decide) (by omega)
      exact Nat.or_lt_two_pow (n := 8) ha h2
    · exact ha
def chunk (N : List Bool) (q : Nat) : List Bool := (N.drop (8 * q)).take 8
/-- Marks, eight to a byte. -/
def keyL (N : List Bool) (m : Nat) : List Nat := (List.range m).map fun q => byteG (chunk N q) 0 0
def keyN (n : Nat) : Nat := (n + 7) / 8
theorem keyL_succ (N : List Bool) (m : Nat) : keyL N (m + 1) = keyL N m ++ [byteG (chunk N m) 0 0] := by
  unfold keyL
  rw [List.range_succ, List.map_append]
  rfl
theorem keyL_lt (N : List Bool) (m : Nat) : ∀ x ∈ keyL N m, x < 256 := fun x hx => by
  simp only [keyL, List.mem_map, List.mem_range] at hx
  obtain ⟨q, _, rfl⟩ := hx
  exact byteG_lt _ _ _ (by decide) (by unfold chunk; rw [List.length_take]; omega)
theorem keyL_inj {N N' : List Bool} (hl : N.length = N'.length) (h : keyL N (keyN N.length) = keyL N' (keyN N.length)) : N = N' := by
  apply List.ext_getElem hl
  intro i h1 h2
  have hq : i / 8 < keyN N.length := by unfold keyN; omega
  have e := congrArg (fun l => l[i / 8]?) h
  simp only [keyL, List.getElem?_map, List.getElem?_range hq, Option.map_some, Option.some.injEq] at e
  have b1 := byteG_bit (i % 8) (chunk N (i / 8)) 0 0
  have b2 := byteG_bit (i % 8) (chunk N' (i / 8)) 0 0
  rw [e] at b1
  have b3 := b1.symm.trans b2
  simp only [Nat.zero_testBit, Bool.false_eq_true, false_or, Nat.zero_le, true_and, Nat.sub_zero] at b3
  have hc : ∀ (M : List Bool), (chunk M (i / 8))[i % 8]? = M[i]? := fun M => by
    unfold chunk
    rw [List.getElem?_take, if_pos (Nat.mod_lt _ (by decide)), List.getElem?_drop]
    congr 1; omega
  rw [hc, hc, List.getElem?_eq_getElem h1, List.getElem?_eq_getElem h2] at b3
  simp at b3
  revert b3
  cases N[i] <;> cases N'[i] <;> simp
theorem orB8 (x y : Nat) (hx : x < 256) (hy : y < 256) : IntKind.wrap .u8 ((BitVec.toNat (BitVec.ofInt 8 (x : Int) ||| BitVec.ofInt 8 (y : Int)) : Nat) : Int) = ((x ||| y : Nat) : Int) := by
  have h : x ||| y < 2 ^ 8 := Nat.or_lt_two_pow hx hy
  have e : BitVec.toNat (BitVec.ofInt 8 (x : Int) ||| BitVec.ofInt 8 (y : Int)) = x ||| y := by
    rw [BitVec.toNat_or, BitVec.ofInt_natCast, BitVec.ofInt_natCast, BitVec.toNat_ofNat, BitVec.toNat_ofNat, Nat.mod_eq_of_lt (by omega), Nat.mod_eq_of_lt (by omega)]
  rw [e, IntKind.wrap_u8]
  generalize x ||| y = m at *
  omega
theorem pow8 (j : Nat) (hj : j < 8) : IntKind.wrap .u8 (1 * 2 ^ min (Int.toNat (j : Int)) 8) = ((2 ^ j : Nat) : Int) := by
  have h2 : 2 ^ j < 2 ^ 8 := Nat.pow_lt_pow_right (by decide) hj
  have h1 : (2 : Int) ^ j = ((2 ^ j : Nat) : Int) := by simp
  rw [Int.toNat_natCast, Nat.min_eq_left (by omega), Int.one_mul, h1, IntKind.wrap_u8]
  generalize 2 ^ j = m at *
  omega
theorem size41 (w : World) : (Go.sizeOf 4).run Try.prog w = .ok 1 w := by
  have h : (Try.prog.info? 4).map (·.size) = some 1 := by kernel_rfl
  cases hi : Try.prog.info? 4 with
  | none => simp [hi] at h
  | some i => simp [hi] at h; simp [Go.sizeOf, typeInfo, hi, h]
theorem nslice_mid {P : Program} {t e : TypeId} (ht : P.underlying t = some (.slice e)) (hs : ∀ w, (Go.sizeOf e).run P w = .ok 1 w) (w : World) (a : Option Addr) (n c lo hi : Nat) (h : lo ≤ hi) (h2 : hi ≤ c) :
    (Instr.sliceAt t (.slice a n c) (some (.int .i64 (lo : Int))) (some (.int .i64 (hi : Int))) none).run P w = .ok (.slice (if c = lo then a else a.map (·.add (lo * 1))) (hi - lo) (c - lo)) w := by
  have he : P.elem t = e := by simp [Program.elem, ht]
  have ht' : P.underlying t = some (.slice (P.elem t)) := by rw [he]; exact ht
  rw [run_sliceAt_slice w t _ _ _ _ ht', run_slice_lh w t a n c ht' .i64 .i64 lo hi (by omega) (by omega) (by omega), he, hs w]
  simp [Result.andThen, sliced]
theorem f169_ok (N : List Bool) (A : Option Addr) (C bx : Nat) (hl : N.length ≤ 20000) (w : World) (hx : OwnL w bx 4 1 bE A C N) :
    Ct Try.prog 169 #[.slice A N.length C] w fun v w' => v = .string (bytesOf (keyL N (keyN N.length))) ∧ Md [] w w' := by
  apply f169_in
  refine Nw_i ?_
  have ma : Md [] w (w.alloc (.cells #[.pointer none, .slice none 0 0] 285)) := Md.alloc w _
  have S0 : BldS w (w.alloc (.cells #[.pointer none, .slice none 0 0] 285)) w.heap.size false none 0 [] := ⟨Blk.new w _ 285, ma, Nat.le_refl _, OwnL.nil .., (fun A hA => by cases hA), .inl rfl⟩
  refine LoopP_in (fun mm us vs w' => ∃ (q : Nat) (u : Bool) (a : Option Addr) (c : Nat), us = [.int .i64 ((8 * q : Nat) : Int)] ∧ mm = keyN N.length - q ∧ q ≤ keyN N.length ∧ BldS w w' w.heap.size u a c (keyL N q)) (keyN N.length)
    ⟨0, false, none, 0, rfl, rfl, by omega, S0⟩ ?_
  rintro mm us vs w6 ⟨q, u, a, c, rfl, hmm, hq, S⟩
  have hkl : (keyL N q).length = q := by simp [keyL]
  refine opI_in <| Bd_e rfl <| Bd_in fun b9 hb9 => If_in (fun hb => ?_) fun hb => ?_
  case refine_2 =>
    have hqe : q = keyN N.length := by
      have : ¬ ((8 * q : Nat) : Int) < (N.length : Int) := by rw [hb9] at hb; exact of_decide_eq_false hb
      unfold keyN at hq ⊢
      omega
    subst hqe
    refine (f219_ok S (keyL_lt N _) (by rw [hkl]; unfold keyN; omega)).call0 ?_
    rintro v w42 ⟨rfl, m42⟩
    exact opStr_in ⟨rfl, m42⟩
  have hlt : 8 * q < N.length := by rw [hb9] at hb; have : ((8 * q : Nat) : Int) < (N.length : Int) := of_decide_eq_true hb; omega
  have hcap := hx.cap
  have hxw := hx.md S.md
  refine Bd_e (y := ((8 * q + 8 : Nat) : Int)) (by rw [IntKind.wrap_i64]; omega) <| Bd_e rfl <| Bd_e (y := ((min (8 * q + 8) N.length : Nat) : Int)) (by split <;> omega) ?_
  refine RunW_in0 (nslice_mid (e := 4) (by kernel_rfl) size41 _ _ _ _ (8 * q) (min (8 * q + 8) N.length) (by omega) (by omega)) <| opL_in ?_
  have hch : chunk N q = (N.drop (8 * q)).take (min (8 * q + 8) N.length - 8 * q) := by
    unfold chunk
    by_cases h8 : 8 * q + 8 ≤ N.length
    · rw [Nat.min_eq_left h8]; congr 1; omega
    · rw [Nat.min_eq_right (by omega), List.take_of_length_le (by simp; omega), List.take_of_length_le (by simp)]
  have hcl : (chunk N q).length = min (8 * q + 8) N.length - 8 * q := by rw [hch]; simp; omega
  have hrow : RowAt w6 (if C = 8 * q then A else A.map (·.add (8 * q * 1))) 1 bE (chunk N q) := by
    rw [if_neg (by omega), hch]
    exact ((hxw.row encbE).drop (8 * q)).take _
  rw [← hcl]
  refine Bd_e rfl ?_
  refine LoopP_in (fun mm us vs w' => ∃ (i acc : Nat), us = [.int .u8 acc, .int .i64 i] ∧ mm = (chunk N q).length - i ∧ i ≤ (chunk N q).length ∧ byteG ((chunk N q).drop i) i acc = byteG (chunk N q) 0 0 ∧ acc < 256 ∧ w' = w6) (chunk N q).length
    ⟨0, 0, rfl, rfl, by omega, by simp, by omega, rfl⟩ ?_
  rintro m2 us vs w22 ⟨i, acc, rfl, hm2, hi, hacc, ha256, rfl⟩
  refine opI_in <| opI_in <| Bd_in fun b25 hb25 => If_in (fun hb => ?_) fun hb => ?_
  · have hic : i < (chunk N q).length := by rw [hb25] at hb; have : (i : Int) < ((chunk N q).length : Int) := of_decide_eq_true hb; omega
    rw [List.drop_eq_getElem_cons hic] at hacc
    rw [show byteG ((chunk N q)[i] :: (chunk N q).drop (i + 1)) i acc = byteG ((chunk N q).drop (i + 1)) (i + 1) (if (chunk N q)[i] = true then acc ||| 2 ^ i else acc) from rfl] at hacc
    refine Jn_in (fun us vs w' => ∃ (acc' : Nat) (z : Bool), us = [.int .u8 acc', .int .i64 i, .bool z] ∧ byteG ((chunk N q).drop (i + 1)) (i + 1) acc' = byteG (chunk N q) 0 0 ∧ acc' < 256 ∧ w' = w22) ?_ ?_
    · rintro us vs w28 ⟨acc', z, rfl, q1, q2, rfl⟩
      exact opI_in <| opI_in <| opB_in <| Bd_e (inc_i64 (by omega)) ⟨(chunk N q).length - (i + 1), by omega, i + 1, acc', rfl, rfl, by omega, q1, q2, rfl⟩
    refine ⟨hrow.ix hic, hrow.ld1 hic rfl <| opB_in <| If_in (fun hz => ?_) fun hz => ?_⟩
    · rw [if_pos hz] at hacc
      have h8 : 2 ^ i < 2 ^ 8 := Nat.pow_lt_pow_right (by decide) (by omega)
      exact ⟨by omega, Bd_e (pow8 i (by omega)) <| Bd_e (orB8 acc (2 ^ i) ha256 h8) ⟨_, _, rfl, hacc, Nat.or_lt_two_pow (n := 8) ha256 h8, rfl⟩⟩
    · rw [if_neg (by rw [hz]; simp)] at hacc
      exact ⟨acc, _, rfl, hacc, ha256, rfl⟩
  · have hic : i = (chunk N q).length := by
      have : ¬ (i : Int) < ((chunk N q).length : Int) := by rw [hb25] at hb; exact of_decide_eq_false hb
      omega
    subst hic
    rw [List.drop_of_length_le (Nat.le_refl _)] at hacc
    have hacc : acc = byteG (chunk N q) 0 0 := hacc
    refine (f218_ok S acc (by rw [hkl]; unfold keyN at hq; omega)).call0 ?_
    rintro v w39 ⟨a', c', S'⟩
    refine Bd_e (y := ((8 * (q + 1) : Nat) : Int)) (by rw [IntKind.wrap_i64]; omega) ⟨keyN N.length - (q + 1), by unfold keyN at *; omega, q + 1, true, a', c', rfl, rfl, by unfold keyN at *; omega, ?_⟩
    rw [keyL_succ, ← hacc]
    exact S'
end Fk
set_option linter.unusedVariables false
set_option linter.unusedSimpArgs false
set_option maxRecDepth 100000
set_option maxHeartbeats 2000000
namespace Fk
open Go Go.Proofs Go.RowKit
theorem own_at {α : Type} {w : World} {b e s c : Nat} {enc : α → List Value} {a : Option Addr} {l : List α} (h : OwnL w b e s enc a c l) {A : Addr} (hA : a = some A) : ∃ cur, w.heap[A.block]? = some (.cells cur e (0, 0)) := by
  rcases h.2 with ⟨hv, _⟩ | ⟨g, cap, cur, hv, _, hg, _⟩
  · subst hA; simp at hv
  · simp only [Value.slice.injEq] at hv
    rw [hA] at hv
    have : A = ⟨g, 0, none⟩ := by have := hv.1; injection this
    subst this
    exact ⟨cur, hg⟩
theorem own_apt2 {α β : Type} {w : World} {b1 b2 : Nat} {e1 e2 : TypeId} {s1 s2 : Nat} {enc1 : α → List Value} {enc2 : β → List Value} {a b : Option Addr} {c d : Nat} {l : List α} {m : List β} (h1 : OwnL w b1 e1 s1 enc1 a c l) (h2 : OwnL w b2 e2 s2 enc2 b d m) (hne : e1 ≠ e2) : Apt a b := by
  intro A B hA hB e
  obtain ⟨c1, h3⟩ := own_at h1 hA
  obtain ⟨c2, h4⟩ := own_at h2 hB
  rw [e, h4] at h3
  injection h3 with h3
  injection h3 with _ h
  exact hne h.symm
theorem own_nblk {α : Type} {w : World} {b e s c n : Nat} {ty : TypeId} {enc : α → List Value} {a : Option Addr} {l : List α} {vs : List Value} (h : OwnL w b e s enc a c l) (hb : Blk w n ty vs) (hne : e ≠ ty) : ∀ A, a = some A → A.block ≠ n := fun A hA e' => by
  obtain ⟨c1, h3⟩ := own_at h hA
  rw [e', hb] at h3
  injection h3 with h3
  injection h3 with _ h
  exact hne h.symm
theorem own_nmap {α K V : Type} {w : World} {b e s c m : Nat} {enc : α → List Value} {a : Option Addr} {l : List α} {kv : K → Value} {vv : V → Value} {es : List (K × V)} (h : OwnL w b e s enc a c l) (hb : MapAt w m kv vv es) : ∀ A, a = some A → A.block ≠ m := fun A hA e' => by
  obtain ⟨c1, h3⟩ := own_at h hA
  obtain ⟨es, cl, h4, _⟩ := hb
  rw [e', h4] at h3
  cases h3
theorem beqB (a b : ByteArray) : (a == b) = decide (a = b) := by
  rw [Bool.eq_iff_iff, MapKept.bytes_beq]; simp
theorem eqStr : EqT Try.prog 9 (fun s : ByteArray => .string s) 1 := by
  intro d w a b hd
  obtain ⟨d, rfl⟩ := Nat.exists_eq_add_of_le' hd
  have hu : Try.prog.underlying 9 = some .string := by kernel_rfl
  simp only [Op.equalIn, Sem.run_bind, run_underlying hu, Result.andThen_ok]
  simp [beqB]
theorem mapStr : MapT Try.prog 218 9 3 .string (fun s : ByteArray => .string s) (fun x : Int => .int .i64 x) where
  hm := by kernel_rfl
  hk := by kernel_rfl
  eq := fun d w a b hd => eqStr d w a b (by omega)
  now := fun a b => .inr (by
    show some (a == b) = _
    rw [beqB])
  check := fun em w k => by
    have hu : Try.prog.underlying 9 = some .string := by kernel_rfl
    show (Instr.checkKey em (9999 + 1) 9 (.string k)).run Try.prog w = _
    unfold Instr.checkKey
    simp only [Sem.run_bind, run_underlying hu, Result.andThen_ok]
    rfl
theorem zero3 (w : World) : (zeroValue 3).run Try.prog w = .ok (.int .i64 0) w := by
  have h : (Try.prog.info? 3).bind (·.zero) = some (.int .i64 0) := by kernel_rfl
  cases hi : Try.prog.info? 3 with
  | none => simp [hi] at h
  | some i =>
    simp [hi] at h
    simp [zeroValue, typeInfo, hi, h]
structure Rb where
  a : Option Addr
  c : Nat
  N : List Bool
def rbE (p : Rb) : List Value := [.slice p.a p.N.length p.c]
theorem encrb : Enc 1 rbE := ⟨fun _ => rfl, by intro x v hv; simp [rbE] at hv; subst hv; rfl⟩
theorem rowT219 : RowT Try.prog 219 222 1 24 := RowT.of (by kernel_rfl) (by kernel_rfl) (by kernel_rfl) (by omega)
def keyS (N : List Bool) : ByteArray := bytesOf (keyL N (keyN N.length))
def ents (l : List Rb) (i : Nat) : List (ByteArray × Int) := match l with
  | [] => []
  | p :: r => (keyS p.N, (i : Int)) :: ents r (i + 1)
theorem ents_snoc (p : Rb) : ∀ (l : List Rb) (i : Nat), ents (l ++ [p]) i = ents l i ++ [(keyS p.N, ((i + l.length : Nat) : Int))]
  | [], i => by simp [ents]
  | q :: r, i => by
    simp only [List.cons_append, ents, ents_snoc p r (i + 1), List.length_cons]
    congr 4
    omega
/-- The place of marks that are there. -/
def idxB (N : List Bool) : List (List Bool) → Nat → Option Nat
  | [], _ => none
  | M :: r, i => if N = M then some i else idxB N r (i + 1)
theorem keyS_inj {N N' : List Bool} (hl : N.length = N'.length) (h : keyS N = keyS N') : N = N' := by
  refine keyL_inj hl ?_
  unfold keyS at h
  rw [← hl] at h
  have e : ∀ (l : List Nat), (∀ x ∈ l, x < 256) → (bytesOf l).data.toList.map (·.toNat) = l := fun l hl => by
    simp only [bytesOf, List.toList_toArray, List.map_map]
    have : ∀ x ∈ l, ((fun x : UInt8 => x.toNat) ∘ UInt8.ofNat) x = x := fun x hx => by simp; have := hl x hx; omega
    rw [List.map_congr_left this, List.map_id']
  have h1 := e _ (keyL_lt N (keyN N.length))
  have h2 := e _ (keyL_lt N' (keyN N.length))
  rw [← h1, ← h2, h]
theorem find_ents {N : List Bool} : ∀ (l : List Rb) (i : Nat), (∀ p ∈ l, p.N.length = N.length) → findI (keyS N) (ents l i) i = (idxB N (l.map (·.N)) i).map (fun j : Nat => (j, (j : Int)))
  | [], i, _ => rfl
  | p :: r, i, h => by
    simp only [ents, findI, List.map_cons, idxB]
    by_cases c : N = p.N
    · rw [if_pos (by rw [c]), if_pos c]; rfl
    · rw [if_neg (fun e => c (keyS_inj (h p (by simp)).symm e)), if_neg c]
      exact find_ents r (i + 1) fun q hq => h q (by simp [hq])
structure Bkp (L : List Nat) (w0 w : World) (n m : Nat) (a : Option Addr) (c : Nat) (l : List Rb) : Prop where
  blk : Blk w n 221 [.map (some m), .slice a l.length c]
  md : Md [] w0 w
  nlo : w0.heap.size ≤ n
  mlo : w0.heap.size ≤ m
  map : MapAt w m (fun s : ByteArray => .string s) (fun x : Int => .int .i64 x) (ents l 0)
  own : OwnL w w0.heap.size 222 1 rbE a c l
  rows : ∀ p ∈ l, OwnL w w0.heap.size 4 1 bE p.a p.c p.N
  nm : n ≠ m
  nl : ∀ b ∈ L, b < w.heap.size ∧ b ≠ n ∧ b ≠ m ∧ ∀ A, a = some A → A.block ≠ b
/-- What a book is of: its blocks. -/
def fpB (n m : Nat) (a : Option Addr) : List Nat := n :: m :: (a.map (·.block)).toList
section
variable {L : List Nat} {w0 w w' : World} {n m c : Nat} {a : Option Addr} {l : List Rb}
theorem Bkp.md0 (S : Bkp L w0 w n m a c l) (hm : Md [] w w') : Bkp L w0 w' n m a c l :=
  ⟨S.blk.md hm (by simp), S.md.trans hm, S.nlo, S.mlo, S.map.md hm (by simp), S.own.md hm, fun p hp => (S.rows p hp).md hm, S.nm, fun b hb => ⟨by have := (S.nl b hb).1; have := hm.size; omega, (S.nl b hb).2⟩⟩
/-- Another row's blocks change: those of another kind than the book's. -/
theorem Bkp.mdI {b0 c2 : Nat} {x : Option Addr} {xs : List Int} (S : Bkp L w0 w n m a c l) (o : OwnL w b0 3 1 i1 x c2 xs) (hlo : w0.heap.size ≤ b0) (hm : Md (x.map (·.block)).toList w w') : Bkp L w0 w' n m a c l := by
  have hx : ∀ d ∈ (x.map (·.block)).toList, ∃ A, x = some A ∧ A.block = d := fun d hd => mem_blk hd
  refine ⟨S.blk.md hm (fun hd => ?_), S.md.old hm (fun d hd => ?_), S.nlo, S.mlo, S.map.md hm (fun hd => ?_), S.own.mdD hm (fun A hA hd => ?_), fun p hp => (S.rows p hp).mdD hm (fun A hA hd => ?_), S.nm, fun b hb => ⟨by have := (S.nl b hb).1; have := hm.size; omega, (S.nl b hb).2⟩⟩
  · obtain ⟨A, hA, e⟩ := hx _ hd; exact own_nblk o S.blk (by decide) A hA e
  · obtain ⟨A, hA, e⟩ := hx _ hd; have := (o.lt hA).1; omega
  · obtain ⟨A, hA, e⟩ := hx _ hd; exact own_nmap o S.map A hA e
  · obtain ⟨B, hB, e⟩ := hx _ hd; exact own_apt2 o S.own (by decide) B A hB hA e
  · obtain ⟨B, hB, e⟩ := hx _ hd; exact own_apt2 o (S.rows p hp) (by decide) B A hB hA e
end
theorem f168_ok {L : List Nat} {w0 w : World} {n m c : Nat} {a : Option Addr} {l : List Rb} (S : Bkp L w0 w n m a c l) (N : List Bool) (pa : Option Addr) (pc : Nat) (hN : OwnL w w0.heap.size 4 1 bE pa pc N) (hlen : ∀ p ∈ l, p.N.length = N.length) (hl : l.length < 2 ^ 30) :
    Ct Try.prog 168 #[.pointer (some ⟨n, 0, none⟩), .string (keyS N), .slice pa N.length pc] w fun v w' =>
      (match idxB N (l.map (·.N)) 0 with
        | some i => v = .tuple #[.int .i64 (i : Int), .bool false] ∧ Bkp L w0 w' n m a c l
        | none => v = .tuple #[.int .i64 (l.length : Int), .bool true] ∧ ∃ a' c', Bkp L w0 w' n m a' c' (l ++ [⟨pa, pc, N⟩])) ∧ Md (fpB n m a) w w' := by
  apply f168_in
  have hfi := find_ents l 0 hlen
  refine NN_in <| S.blk.ld' rfl <| opM_in ?_
  refine RunW_in0 (mapStr.lookup S.map (keyS N) (.int .i64 0) (zero3 w)) <| opTu_in ?_
  rw [hfi]
  cases hx : idxB N (l.map (·.N)) 0 with
  | some i =>
    refine opI_in <| opB_in <| SzIs_in rfl <| Jn_in (fun us vs w' => us = [.int .i64 (i : Int)] ∧ w' = w) ?_ ?_
    · rintro us vs w11 ⟨rfl, rfl⟩
      exact opI_in <| Bd_e (y := false) rfl ⟨⟨rfl, S⟩, Md.refl _ _⟩
    · exact Bd_e (y := false) rfl <| If_in (fun h => by cases h) fun _ => ⟨rfl, rfl⟩
  | none =>
    refine opI_in <| opB_in <| SzIs_in rfl <| Jn_in (fun us vs w' => us = [.int .i64 (l.length : Int)] ∧ (∃ a' c', Bkp L w0 w' n m a' c' (l ++ [⟨pa, pc, N⟩])) ∧ Md (fpB n m a) w w') ?_ ?_
    · rintro us vs w11 ⟨rfl, h1, h2⟩
      exact opI_in <| Bd_e (y := true) rfl ⟨⟨rfl, h1⟩, h2⟩
    · refine Bd_e (y := true) rfl <| If_in (fun _ => ?_) fun h => by cases h
      refine NN_in <| S.blk.ld' rfl <| opL_in <| Bd_e rfl <| NN_in <| S.blk.ld' rfl <| opM_in ?_
      rw [hx] at hfi
      obtain ⟨w25, hrun, hmap, m25⟩ := mapStr.add S.map (keyS N) (l.length : Int) hfi
      refine RunU_in hrun (fun b hb => by cases hb) <| NN_in ?_
      have hnd : n ∉ [m] := by simp; exact S.nm
      have b25 := S.blk.md m25 hnd
      have o25 := S.own.mdD m25 (fun A hA => by simp; exact own_nmap S.own S.map A hA)
      have N25 := hN.mdD m25 (fun A hA => by simp; exact own_nmap hN S.map A hA)
      have rows25 : ∀ p ∈ l, OwnL w25 w0.heap.size 4 1 bE p.a p.c p.N := fun p hp => (S.rows p hp).mdD m25 (fun A hA => by simp; exact own_nmap (S.rows p hp) S.map A hA)
      have md25 : Md [] w0 w25 := S.md.old m25 (by simp; exact S.mlo)
      refine b25.ld' rfl <| opL_in ?_
      refine app_one rowT219 encrb ⟨pa, pc, N⟩ rfl o25 md25.size (by simp) (by simp) (by simp [maxLen]; omega) (by omega) fun a' c' w34 o34 m34 hA34 => opL_in <| NN_in ?_
      have hna : ∀ d ∈ (a.map (·.block)).toList, ∃ A, a = some A ∧ A.block = d := fun d hd => mem_blk hd
      have b34 := b25.md m34 (fun hd => by obtain ⟨A, hA, e⟩ := hna _ hd; exact own_nblk o25 b25 (by decide) A hA e)
      have map34 := hmap.md m34 (fun hd => by obtain ⟨A, hA, e⟩ := hna _ hd; exact own_nmap o25 hmap A hA e)
      have md34 : Md [] w0 w34 := md25.old m34 (fun d hd => by obtain ⟨A, hA, rfl⟩ := hna _ hd; exact (o25.lt hA).1)
      have keep : ∀ {y : Option Addr} {cy : Nat} {M : List Bool}, OwnL w25 w0.heap.size 4 1 bE y cy M → OwnL w34 w0.heap.size 4 1 bE y cy M := fun h => (own_keep h m34 hA34 (own_apt2 o25 h (by decide))).1
      have N34 := keep N25
      have mS := Md_setCells (w := w34) n 1 [.slice a' (l ++ [(⟨pa, pc, N⟩ : Rb)]).length c']
      have bS := b34.set (j := 1) (by simp) (.slice a' (l ++ [(⟨pa, pc, N⟩ : Rb)]).length c')
      have o34' := o34.mdD mS (fun A hA => by simp; exact own_nblk o34 b34 (by decide) A hA)
      have sz25 := m25.size
      have sz34 := m34.size
      have szS := mS.size
      refine ⟨by simp, by rw [ad0']; exact b34.wr (by simp), rfl, ⟨a', c', ⟨by rw [ad0']; exact bS, by rw [ad0']; exact md34.old mS (by simp; exact S.nlo), S.nlo, S.mlo, by rw [ad0']; have := map34.md mS (by simp; exact S.nm.symm); rw [ents_snoc]; simpa using this, by rw [ad0']; exact o34', fun p hp => ?_, S.nm, fun b hb => ?_⟩⟩, ?_⟩
      · rw [ad0']
        rcases List.mem_append.1 hp with h | h
        · have := keep (rows25 p h)
          exact this.mdD mS (fun A hA => by simp; exact own_nblk this b34 (by decide) A hA)
        · simp at h; subst h
          exact N34.mdD mS (fun A hA => by simp; exact own_nblk N34 b34 (by decide) A hA)
      · obtain ⟨h1, h2, h3, h4⟩ := S.nl b hb
        rw [ad0']
        refine ⟨by omega, h2, h3, fun A hA e => ?_⟩
        rcases hA34 A hA with h | h
        · exact h4 A h e
        · omega
      · rw [ad0']
        have q1 : Md (fpB n m a) w w25 := m25.mono (by unfold fpB; simp)
        have q2 : Md (fpB n m a) w25 w34 := m34.mono (by unfold fpB; intro x hx; simp at hx ⊢; exact .inr (.inr hx))
        have q3 : Md (fpB n m a) w34 _ := mS.mono (by unfold fpB; simp)
        exact (q1.trans q2).trans q3
end Fk
set_option linter.unusedVariables false
set_option linter.unusedSimpArgs false
set_option maxRecDepth 100000
set_option maxHeartbeats 2000000
namespace Fk
open Go Go.Proofs Go.RowKit
abbrev setKV (q : Q4) : Value := .agg #[.int .u64 q.1, .int .u64 q.2.1, .int .u64 q.2.2.1, .int .u64 q.2.2.2]
theorem eqSet : EqT Try.prog 28 setKV 2 := by
  intro d w a b hd
  obtain ⟨d, rfl⟩ := Nat.exists_eq_add_of_le' hd
  have h26 : (Try.prog.info? 26).isSome = true := by kernel_rfl
  obtain ⟨i26, hi26⟩ := Option.isSome_iff_exists.1 h26
  have e := run_equal_ints (P := Try.prog) (w := w) (t := 28) (e := 26) (q := .u64) (n := 4) (by kernel_rfl) hi26 (by kernel_rfl) (by kernel_rfl) .u64 [a.1, a.2.1, a.2.2.1, a.2.2.2] [b.1, b.2.1, b.2.2.1, b.2.2.2] rfl rfl d
  refine e.trans ?_
  congr 1
  obtain ⟨a1, a2, a3, a4⟩ := a
  obtain ⟨b1, b2, b3, b4⟩ := b
  rw [Bool.eq_iff_iff]
  simp
theorem size26 (w : World) : (Go.sizeOf 26).run Try.prog w = .ok 1 w := by
  have h : (Try.prog.info? 26).map (·.size) = some 1 := by kernel_rfl
  cases hi : Try.prog.info? 26 with
  | none => rw [hi] at h; cases h
  | some i => rw [hi] at h; simp [Go.sizeOf, typeInfo, hi]; simpa using h
theorem checkSet (em : Bool) (w : World) (k : Q4) : (Instr.checkKey em (9999 + 1) 28 (setKV k)).run Try.prog w = .ok () w := by
  have u28 : Try.prog.underlying 28 = some (.array 4 26) := by kernel_rfl
  have u26 : Try.prog.underlying 26 = some (.int .u64) := by kernel_rfl
  have a26 : isAggT Try.prog 26 = false := by kernel_rfl
  have c1 : ∀ (x : Int), (Instr.checkKey em 9999 26 (.int .u64 x)).run Try.prog w = .ok () w := fun x => by
    show (Instr.checkKey em (9998 + 1) 26 (.int .u64 x)).run Try.prog w = _
    unfold Instr.checkKey
    simp only [Sem.run_bind, run_underlying u26, Result.andThen_ok]
    rfl
  have p0 : (part 26 #[Value.int .u64 k.1, .int .u64 k.2.1, .int .u64 k.2.2.1, .int .u64 k.2.2.2] 0).run Try.prog w = .ok (.int .u64 k.1) w := part_cell u26 a26 rfl
  have p1 : (part 26 #[Value.int .u64 k.1, .int .u64 k.2.1, .int .u64 k.2.2.1, .int .u64 k.2.2.2] 1).run Try.prog w = .ok (.int .u64 k.2.1) w := part_cell u26 a26 rfl
  have p2 : (part 26 #[Value.int .u64 k.1, .int .u64 k.2.1, .int .u64 k.2.2.1, .int .u64 k.2.2.2] 2).run Try.prog w = .ok (.int .u64 k.2.2.1) w := part_cell u26 a26 rfl
  have p3 : (part 26 #[Value.int .u64 k.1, .int .u64 k.2.1, .int .u64 k.2.2.1, .int .u64 k.2.2.2] 3).run Try.prog w = .ok (.int .u64 k.2.2.2) w := part_cell u26 a26 rfl
  unfold Instr.checkKey
  simp only [Sem.run_bind, run_underlying u28, Result.andThen_ok]
  rw [Std.Legacy.Range.forIn_eq_forIn_range']
  simp [List.range', size26, Result.andThen, p0, p1, p2, p3, c1]
theorem mapSet : MapT Try.prog 282 28 3 (.array 4 26) setKV (fun x : Int => .int .i64 x) where
  hm := by kernel_rfl
  hk := by kernel_rfl
  eq := fun d w a b hd => eqSet d w a b (by omega)
  now := fun a b => .inl rfl
  check := fun em w k => checkSet em w k
section
variable {K V : Type} [DecidableEq K] {P : Program} {mt kt et : TypeId} {d : TypeDesc} {kv : K → Value} {vv : V → Value}
theorem MapT.lookup1 (T : MapT P mt kt et d kv vv) {w : World} {r : Nat} {l : List (K × V)} (h : MapAt w r kv vv l) (k : K) (z : Value) (hz : (zeroValue et).run P w = .ok z w) :
    (Instr.lookup mt (.map (some r)) (kv k) false).run P w = .ok (((findI k l 0).map fun p => vv p.2).getD z) w := by
  obtain ⟨es, clock, hb, he⟩ := h
  have hf := T.find w k es.toList l he
  cases hfi : findI k l 0 with
  | none => simp [Instr.lookup, run_underlying T.hm, MapKept.run_getObj_map hb, T.check, hf, hfi, hz, Result.andThen]
  | some p => simp [Instr.lookup, run_underlying T.hm, MapKept.run_getObj_map hb, T.check, hf, hfi, hz, Result.andThen]
end
theorem findI_some {K V : Type} [DecidableEq K] {k : K} : ∀ {l : List (K × V)} {i : Nat} {p : Nat × V}, findI k l i = some p → (k, p.2) ∈ l
  | [], _, _, h => by simp [findI] at h
  | q :: l, i, p, h => by
    simp only [findI] at h
    split at h
    · rename_i hk
      injection h with h
      subst h
      rw [hk]; simp
    · exact List.mem_cons_of_mem _ (findI_some h)
/-- Do all sets fit? -/
def fitsN (c : Cl) (l : List Ns) : Bool := l.all (fun x => x.k != 1 || c.fits x.q) && c.right
theorem f166_ok (c : Cl) (hc : c.ok) (st : Int) (l : List Ns) (pa : Option Addr) (pc : Nat) (w : World) (hr : RowAt w pa 8 nsE l) (hlen : l.length ≤ 20000) :
    Ct Try.prog 166 #[.agg #[.int .i64 st, .slice pa l.length pc], .agg c.v] w fun v w' => v = .bool (fitsN c l) ∧ Md [] w w' := by
  apply f166_in
  intro n1 hn1 n2 hn2 w3 h3 hL3
  refine Nw_i <| Bd_e rfl ?_
  have ma : Md [] w3 (w3.alloc (.map #[] 0)) := Md.alloc w3 _
  have hM0 : MapAt (w3.alloc (.map #[] 0)) w3.heap.size setKV (fun x : Int => .int .i64 x) [] := MapAt.new w3 _ _
  have g5 : Good [n2, n1] w (w3.alloc (.map #[] 0)) := Good.tr ⟨h3, hL3⟩ ma
  have hnl : ∀ b ∈ [n2, n1], b ≠ w3.heap.size := fun b hb => by have := hL3 b hb; omega
  have hm0 : w.heap.size ≤ w3.heap.size := h3.size
  generalize w3.heap.size = m at *
  refine LoopP_in (fun mm us vs w' => ∃ (i : Nat) (b : Bool) (kn : List (Q4 × Int)), us = [.bool b, .int .i64 i] ∧ mm = l.length - i ∧ i ≤ l.length ∧ Good [n2, n1] w w' ∧ MapAt w' m setKV (fun x : Int => .int .i64 x) kn ∧ (∀ p ∈ kn, p.2 = 1 ∧ c.fits p.1 = true) ∧ (∀ x ∈ l.take i, (x.k != 1 || c.fits x.q) = true)) l.length
    ⟨0, _, [], rfl, rfl, by omega, g5, hM0, by simp, by simp⟩ ?_
  rintro mm us vs w10 ⟨i, b11, kn, rfl, hmm, hi, g10, hM, hkn, htk⟩
  refine opB_in <| opI_in <| Bd_in fun b13 hb13 => If_in (fun hb => ?_) fun hb => ?_
  case refine_2 =>
    have hil : i = l.length := by
      have : ¬ (i : Int) < (l.length : Int) := by rw [hb13] at hb; exact of_decide_eq_false hb
      omega
    subst hil
    rw [List.take_length] at htk
    refine ⟨hc.size, in44 c hc g10 fun w53 g53 => ⟨?_, g53.1⟩⟩
    unfold fitsN
    rw [List.all_eq_true.2 htk]
    rfl
  have hil : i < l.length := by rw [hb13] at hb; have : (i : Int) < (l.length : Int) := of_decide_eq_true hb
                                omega
  have next : c.fits l[i].q = true ∨ l[i].k ≠ 1 → ∀ x ∈ l.take (i + 1), (x.k != 1 || c.fits x.q) = true := fun h x hx => by
    rw [List.take_succ_eq_append_getElem hil] at hx
    rcases List.mem_append.1 hx with hx | hx
    · exact htk x hx
    · simp at hx; subst hx
      rcases h with h | h
      · simp [h]
      · simp [h]
  refine Jn_in (fun us vs w' => ∃ (b : Bool) (kn : List (Q4 × Int)), us = [.bool b] ∧ Good [n2, n1] w w' ∧ MapAt w' m setKV (fun x : Int => .int .i64 x) kn ∧ (∀ p ∈ kn, p.2 = 1 ∧ c.fits p.1 = true) ∧ (∀ x ∈ l.take (i + 1), (x.k != 1 || c.fits x.q) = true)) ?_ ?_
  · rintro us vs w16 ⟨b, kn', rfl, q1, q2, q3, q4⟩
    exact opB_in <| Bd_e (inc_i64 (by omega)) ⟨l.length - (i + 1), by omega, i + 1, b, kn', rfl, rfl, by omega, q1, q2, q3, q4⟩
  refine ⟨(hr.md g10.1).ix hil, (hr.md g10.1).ld8 hil ?_⟩
  intro n36 hn36
  have hmlt := hM.lt
  refine Bd_in fun b37 hb37 w38 h38 hL38 => ?_
  have m38 : Md [] w10 w38 := h38.fresh (by simp; exact hn36)
  have g38 : Good [n36, n2, n1] w w38 := ⟨g10.1.trans m38, hL38⟩
  have hM38 := hM.md m38 (by simp)
  have down : ∀ {w' : World}, Good [n36, n2, n1] w w' → Good [n2, n1] w w' := fun h => ⟨h.1, fun b hb => h.2 b (by simp at hb ⊢; exact .inr hb)⟩
  refine Gd_to (fun x w' => w' = w38 ∧ (b37 = true → x = ((findI l[i].q kn 0).map fun p => p.2).getD 0)) (fun x43 w44 hJ => ?_) (fun fin hc' => ?_) fun hc' => ⟨rfl, fun h => by rw [h] at hc'; cases hc'⟩
  case refine_2 =>
    refine RunW_in0 (mapSet.lookup1 hM38 l[i].q (.int .i64 0) (zero3 w38)) ?_
    cases hfi : findI l[i].q kn 0 with
    | none => exact opI_in <| fin _ _ ⟨rfl, fun _ => by rw [hfi]; rfl⟩
    | some p => exact opI_in <| fin _ _ ⟨rfl, fun _ => by rw [hfi]; rfl⟩
  obtain ⟨rfl, h43⟩ := hJ
  refine Bd_in fun b45 hb45 => Bd_in fun b46 hb46 => If_in (fun hb => ?_) fun hb => ?_
  · have hk : b37 = true ∧ x43 = 0 := by
      rw [hb46, hb45] at hb
      cases h : b37 with
      | false => rw [h] at hb; cases hb
      | true => rw [h] at hb; exact ⟨rfl, by simpa using hb⟩
    have hk1 : l[i].k = 1 := by have := hk.1; rw [hb37] at this; simpa using this
    have hnone : findI l[i].q kn 0 = none := by
      cases hfi : findI l[i].q kn 0 with
      | none => rfl
      | some p =>
        have h1 := h43 hk.1
        rw [hfi] at h1
        have := (hkn _ (findI_some hfi)).1
        simp at h1
        omega
    refine ⟨hc.size, ?_⟩
    refine (f46_ok c hc l[i].q w44).call g38.2 ?_
    rintro v w48 rfl m48
    have g48 := g38.tr m48
    have hM48 := hM38.md m48 (by simp)
    refine opB_in <| Bd_in fun b50 hb50 => If_in (fun hb2 => ?_) fun hb2 => ?_
    · have hno : c.fits l[i].q = false := by rw [hb50] at hb2; simpa using hb2
      refine ⟨?_, g48.1⟩
      have : l.all (fun x => x.k != 1 || c.fits x.q) = false := by
        rw [List.all_eq_false]
        exact ⟨l[i], List.getElem_mem hil, by simp [hk1, hno]⟩
      unfold fitsN
      rw [this]; rfl
    · have hyes : c.fits l[i].q = true := by rw [hb50] at hb2; simpa using hb2
      obtain ⟨w51, hrun, hmap, m51⟩ := mapSet.add hM48 l[i].q (1 : Int) hnone
      refine RunU_in hrun (fun b hb => m51.blk b (g48.2 b hb) (by
        simp at hb ⊢
        rcases hb with rfl | rfl | rfl
        · omega
        · exact hnl _ (by simp)
        · exact hnl _ (by simp))) ?_
      refine ⟨b11, kn ++ [(l[i].q, 1)], rfl, ⟨g48.1.old m51 (by simp; exact hm0), fun b hb => Nat.lt_of_lt_of_le (g48.2 b (by simp at hb ⊢; exact .inr hb)) m51.size⟩, hmap, fun p hp => ?_, next (.inl hyes)⟩
      rcases List.mem_append.1 hp with h | h
      · exact hkn p h
      · simp at h; subst h; exact ⟨rfl, hyes⟩
  · refine ⟨b11, kn, rfl, down g38, hM38, hkn, next ?_⟩
    by_cases hk1 : l[i].k = 1
    · left
      have hb37' : b37 = true := by rw [hb37]; simp [hk1]
      have hx : x43 ≠ 0 := by
        intro e
        rw [hb46, hb45, hb37', e] at hb
        simp at hb
      have h1 := h43 hb37'
      cases hfi : findI l[i].q kn 0 with
      | none => rw [hfi] at h1; exact absurd h1 hx
      | some p => exact (hkn _ (findI_some hfi)).2
    · exact .inr hk1
end Fk
set_option linter.unusedVariables false
set_option linter.unusedSimpArgs false
set_option maxRecDepth 100000
set_option maxHeartbeats 2000000
namespace Fk
open Go Go.Proofs Go.RowKit
abbrev DP := List (List Bool) × List Int
/-- Where one byte leads. -/
def oneB (l : List Ns) (b : Nat) (N : List Bool) (p : DP) : DP :=
  if byL b N l = [] then (p.1, p.2 ++ [-1]) else
    match idxB (dst l (byL b N l)) p.1 0 with
    | some i => (p.1, p.2 ++ [(i : Int)])
    | none => (p.1 ++ [dst l (byL b N l)], p.2 ++ [(p.1.length : Int)])
/-- One state's row; none if there are too many. -/
def dRow (l : List Ns) (most : Nat) : List Nat → List Bool → DP → Option DP
  | [], _, p => some p
  | b :: bs, N, p => if most < (oneB l b N p).1.length then none else dRow l most bs N (oneB l b N p)
def dAll (l : List Ns) (most : Nat) (F : List Nat) : Nat → Nat → DP → Option DP
  | 0, _, p => some p
  | f + 1, i, p => match p.1[i]? with
    | none => some p
    | some N => (dRow l most F N p).bind (dAll l most F f (i + 1))
def Cl.firsts (c : Cl) : List Nat := (List.range c.m.toNat).map fun k : Nat => (c.first k).1.toNat
abbrev Dm := Int × List Int × List Int
def tagL (l : List Ns) (all : List (List Bool)) : List Int := all.map fun N => tagF N l (-1)
def dBld (st : Int) (l : List Ns) (c : Cl) (most : Int) : Dm × Int :=
  if nfRight st l = true ∧ fitsN c l = true ∧ 1 ≤ most ∧ most ≤ 5000 then
    match dAll l most.toNat c.firsts (most.toNat + 1) 0 ([dst l [st]], []) with
    | none => ((0, [], []), 40)
    | some p => ((c.m, p.2, tagL l p.1), 0)
  else ((0, [], []), 2)
structure Ls (L : List Nat) (wb w : World) (n m : Nat) (a : Option Addr) (c : Nat) (B : List Rb) (na : Option Addr) (nc : Nat) (nx : List Int) (ta : Option Addr) (tc : Nat) (tg : List Int) : Prop where
  S : Bkp L wb w n m a c B
  nx : OwnL w wb.heap.size 3 1 i1 na nc nx
  tg : OwnL w wb.heap.size 3 1 i1 ta tc tg
  ap : Apt na ta
  l1 : ∀ b ∈ L, ∀ A, na = some A → A.block ≠ b
  l2 : ∀ b ∈ L, ∀ A, ta = some A → A.block ≠ b
  l3 : ∀ p ∈ B, ∀ A, p.a = some A → ∀ b ∈ L, A.block ≠ b
section
variable {L : List Nat} {wb w w' : World} {n m c nc tc : Nat} {a na ta : Option Addr} {B : List Rb} {nx tg : List Int}
theorem Ls.md0 (h : Ls L wb w n m a c B na nc nx ta tc tg) (hm : Md [] w w') : Ls L wb w' n m a c B na nc nx ta tc tg :=
  ⟨h.S.md0 hm, h.nx.md hm, h.tg.md hm, h.ap, h.l1, h.l2, h.l3⟩
theorem Ls.lt (h : Ls L wb w n m a c B na nc nx ta tc tg) : ∀ b ∈ L, b < w.heap.size := fun b hb => (h.S.nl b hb).1
/-- One of the names' blocks changes. -/
theorem Ls.mdL {n0 : Nat} (h : Ls L wb w n m a c B na nc nx ta tc tg) (h0 : n0 ∈ L) (hlo : wb.heap.size ≤ n0) (hm : Md [n0] w w') : Ls L wb w' n m a c B na nc nx ta tc tg := by
  obtain ⟨q1, q2, q3, q4⟩ := h.S.nl n0 h0
  refine ⟨⟨h.S.blk.md hm (by simp; exact fun e => q2 e.symm), h.S.md.old hm (by simp; exact hlo), h.S.nlo, h.S.mlo, h.S.map.md hm (by simp; exact fun e => q3 e.symm), h.S.own.mdD hm (fun A hA => by simp; exact q4 A hA), fun p hp => (h.S.rows p hp).mdD hm (fun A hA => by simp; exact h.l3 p hp A hA n0 h0), h.S.nm, fun b hb => ⟨by have := h.lt b hb; have := hm.size; omega, (h.S.nl b hb).2⟩⟩, h.nx.mdD hm (fun A hA => by simp; exact h.l1 n0 h0 A hA), h.tg.mdD hm (fun A hA => by simp; exact h.l2 n0 h0 A hA), h.ap, h.l1, h.l2, h.l3⟩
theorem Ls.addN {n0 : Nat} (h : Ls L wb w n m a c B na nc nx ta tc tg) (h0 : n0 ∈ L) (hlo : wb.heap.size ≤ n0) (x : Int) (hl : nx.length < 2 ^ 30) {K : Option Addr → Nat → Nat → World → Prop}
    (kk : ∀ na' nc' w', Ls L wb w' n m a c B na' nc' (nx ++ [x]) ta tc tg → K na' (nx ++ [x]).length nc' w') :
    Nw (.cells #[.int .i64 x] 3) w fun b w' => RunW Try.prog L (Builtin.append_ #[52, 52] 52 #[.slice na nx.length nc, .slice (some (Addr.mk b 0 none)) 1 1]) (fun v w'' => opL v fun a' n' c' => Up [n0] L w'' fun w3 => K a' n' c' w3) w' := by
  refine app_one rowT52 enci1 x rfl h.nx h.S.md.size h.lt h.l1 (by simp [maxLen]; omega) (by omega) fun a' c' w' o hm hA => opL_in fun w3 h3 _ => kk a' c' w3 ?_
  have S' := h.S.mdI h.nx (Nat.le_refl _) hm
  obtain ⟨t', ap'⟩ := own_keep h.tg hm hA h.ap
  exact Ls.mdL ⟨S', o, t', ap', fun b hb A hA' => by
    rcases hA A hA' with h1 | h1
    · exact h.l1 b hb A h1
    · have := h.lt b hb; omega, h.l2, h.l3⟩ h0 hlo h3
theorem Ls.addT {n0 : Nat} (h : Ls L wb w n m a c B na nc nx ta tc tg) (h0 : n0 ∈ L) (hlo : wb.heap.size ≤ n0) (x : Int) (hl : tg.length < 2 ^ 30) {K : Option Addr → Nat → Nat → World → Prop}
    (kk : ∀ ta' tc' w', Ls L wb w' n m a c B na nc nx ta' tc' (tg ++ [x]) → K ta' (tg ++ [x]).length tc' w') :
    Nw (.cells #[.int .i64 x] 3) w fun b w' => RunW Try.prog L (Builtin.append_ #[52, 52] 52 #[.slice ta tg.length tc, .slice (some (Addr.mk b 0 none)) 1 1]) (fun v w'' => opL v fun a' n' c' => Up [n0] L w'' fun w3 => K a' n' c' w3) w' := by
  refine app_one rowT52 enci1 x rfl h.tg h.S.md.size h.lt h.l2 (by simp [maxLen]; omega) (by omega) fun a' c' w' o hm hA => opL_in fun w3 h3 _ => kk a' c' w3 ?_
  have S' := h.S.mdI h.tg (Nat.le_refl _) hm
  obtain ⟨t', ap'⟩ := own_keep h.nx hm hA h.ap.symm
  exact Ls.mdL ⟨S', t', o, ap'.symm, h.l1, fun b hb A hA' => by
    rcases hA A hA' with h1 | h1
    · exact h.l2 b hb A h1
    · have := h.lt b hb; omega, h.l3⟩ h0 hlo h3
theorem fpB_own {A : Option Addr} {cc : Nat} {xs : List Int} (S : Bkp L wb w n m a c B) (o : OwnL w wb.heap.size 3 1 i1 A cc xs) (hm : Md (fpB n m a) w w') : OwnL w' wb.heap.size 3 1 i1 A cc xs := o.mdD hm fun X hX hd => by
  unfold fpB at hd
  simp only [List.mem_cons] at hd
  rcases hd with hd | hd | hd
  · exact own_nblk o S.blk (by decide) X hX hd
  · exact own_nmap o S.map X hX hd
  · obtain ⟨Y, hY, e⟩ := mem_blk hd
    exact own_apt2 o S.own (by decide) X Y hX hY e.symm
theorem fpB_L (S : Bkp L wb w n m a c B) : ∀ b ∈ L, b ∉ fpB n m a := fun b hb hd => by
  obtain ⟨_, q2, q3, q4⟩ := S.nl b hb
  unfold fpB at hd
  simp only [List.mem_cons] at hd
  rcases hd with hd | hd | hd
  · exact q2 hd
  · exact q3 hd
  · obtain ⟨Y, hY, e⟩ := mem_blk hd
    exact q4 Y hY e
/-- A state is placed. -/
theorem Ls.place (h : Ls L wb w n m a c B na nc nx ta tc tg) (N : List Bool) (pa : Option Addr) (pc b0 : Nat) (hN : OwnL w b0 4 1 bE pa pc N) (hb0 : wb.heap.size ≤ b0) (hbL : ∀ b ∈ L, b < b0) (hlen : ∀ p ∈ B, p.N.length = N.length) (hl : B.length < 2 ^ 30) {K : Int → Bool → World → Prop}
    (k1 : ∀ i w', idxB N (B.map (·.N)) 0 = some i → Ls L wb w' n m a c B na nc nx ta tc tg → K (i : Int) false w')
    (k2 : ∀ a' c' w', idxB N (B.map (·.N)) 0 = none → Ls L wb w' n m a' c' (B ++ [⟨pa, pc, N⟩]) na nc nx ta tc tg → K (B.length : Int) true w') :
    CallW Try.prog L 168 #[.pointer (some (Addr.mk n 0 none)), .string (keyS N), .slice pa N.length pc] (fun v w' => opTu v fun cs => opI .i64 (nthD cs.toList 0) fun x => opB (nthD cs.toList 1) fun b => SzIs cs.size 2 (K x b w')) w := by
  refine (f168_ok h.S N pa pc (hN.down hb0) hlen hl).callD h.lt (fpB_L h.S) ?_
  intro v w' hv hm
  have o1 := fpB_own h.S h.nx hm
  have o2 := fpB_own h.S h.tg hm
  cases hx : idxB N (B.map (·.N)) 0 with
  | some i =>
    rw [hx] at hv
    obtain ⟨rfl, S'⟩ := hv
    exact opTu_in <| opI_in <| opB_in <| SzIs_in rfl <| k1 i w' hx ⟨S', o1, o2, h.ap, h.l1, h.l2, h.l3⟩
  | none =>
    rw [hx] at hv
    obtain ⟨rfl, a', c', S'⟩ := hv
    refine opTu_in <| opI_in <| opB_in <| SzIs_in rfl <| k2 a' c' w' hx ⟨S', o1, o2, h.ap, h.l1, h.l2, fun p hp => ?_⟩
    rcases List.mem_append.1 hp with hp | hp
    · exact h.l3 p hp
    · simp at hp; subst hp
      intro A hA b hb e
      have := (hN.lt hA).1
      have := hbL b hb
      simp only at hA
      omega
end
end Fk
set_option linter.unusedVariables false
set_option linter.unusedSimpArgs false
set_option maxRecDepth 100000
set_option maxHeartbeats 4000000
namespace Fk
open Go Go.Proofs Go.RowKit
def L67 (st : Int) (pa : Option Addr) (pn pc : Nat) (n1 n2 n3 n69 n : Nat) (fa : Option Addr) (fn : Nat) (many most : Int) (nt : Nat) (R : Value → World → Prop) (w : World) : Prop :=
  LoopP (fun l72 l73 J74 w75 => opI IntKind.i64 (nthD l72 (0 : Nat)) fun x76 => opI IntKind.i64 (nthD l72 (1 : Nat)) fun x77 => opAg (nthD l73 (0 : Nat)) fun cs78 => opI IntKind.i64
  (nthD (Array.toList cs78) (0 : Nat)) fun x79 => opL (nthD (Array.toList cs78) (1 : Nat)) fun a80 n81 n82 => opL (nthD (Array.toList cs78) (2 : Nat)) fun a83 n84 n85 => SzIs
  (Array.size cs78) (3 : Nat) (opAg (nthD l73 (1 : Nat)) fun cs86 => opI IntKind.i64 (nthD (Array.toList cs86) (0 : Nat)) fun x87 => opL (nthD (Array.toList cs86) (1 : Nat)) fun a88
  n89 n90 => opL (nthD (Array.toList cs86) (2 : Nat)) fun a91 n92 n93 => SzIs (Array.size cs86) (3 : Nat) (NN (some (Addr.mk n (0 : Nat) none)) fun A94 => Ld w75 (Addr.add A94 (1 :
  Nat)) fun v95 => opL v95 fun a96 n97 n98 => Bd ((n97 : Nat) : Int) fun x99 => Bd (decide (x77 < x99)) fun b100 => If b100 (Bd ((fn : Nat) : Int) fun x101 => LoopP (fun l102 l103
  J104 w105 => opI IntKind.i64 (nthD l102 (0 : Nat)) fun x106 => opI IntKind.i64 (nthD l102 (1 : Nat)) fun x107 => opAg (nthD l103 (0 : Nat)) fun cs108 => opI IntKind.i64 (nthD
  (Array.toList cs108) (0 : Nat)) fun x109 => opL (nthD (Array.toList cs108) (1 : Nat)) fun a110 n111 n112 => opL (nthD (Array.toList cs108) (2 : Nat)) fun a113 n114 n115 => SzIs
  (Array.size cs108) (3 : Nat) (opAg (nthD l103 (1 : Nat)) fun cs116 => opI IntKind.i64 (nthD (Array.toList cs116) (0 : Nat)) fun x117 => opL (nthD (Array.toList cs116) (1 : Nat))
  fun a118 n119 n120 => opL (nthD (Array.toList cs116) (2 : Nat)) fun a121 n122 n123 => SzIs (Array.size cs116) (3 : Nat) (Bd (decide (x107 < x101)) fun b124 => If b124 (Jn (fun l125
  l126 w127 => opI IntKind.i64 (nthD l125 (0 : Nat)) fun x128 => opAg (nthD l126 (0 : Nat)) fun cs129 => opI IntKind.i64 (nthD (Array.toList cs129) (0 : Nat)) fun x130 => opL (nthD
  (Array.toList cs129) (1 : Nat)) fun a131 n132 n133 => opL (nthD (Array.toList cs129) (2 : Nat)) fun a134 n135 n136 => SzIs (Array.size cs129) (3 : Nat) (opAg (nthD l126 (1 : Nat))
  fun cs137 => opI IntKind.i64 (nthD (Array.toList cs137) (0 : Nat)) fun x138 => opL (nthD (Array.toList cs137) (1 : Nat)) fun a139 n140 n141 => opL (nthD (Array.toList cs137) (2 :
  Nat)) fun a142 n143 n144 => SzIs (Array.size cs137) (3 : Nat) (Bd (IntKind.wrap IntKind.i64 (x107 + (1 : Int))) fun x145 => J104 [Value.int IntKind.i64 x128, Value.int IntKind.i64
  x145] [Value.agg #[Value.int IntKind.i64 x130, Value.slice a131 n132 n133, Value.slice a134 n135 n136], Value.agg #[Value.int IntKind.i64 x138, Value.slice a139 n140 n141,
  Value.slice a142 n143 n144]] w127))) fun J146 => IxOk x107 fn fa ∧ Ld w105 (adAt fa x107 (1 : Nat)) fun v147 => opI IntKind.u8 v147 fun x148 => Dr (World.drew w105) fun J149 => NN
  (some (Addr.mk n (0 : Nat) none)) fun A150 => ∃ v151, (∀ (w152 : World), J149 w152 → Ld w152 (Addr.add A150 (1 : Nat)) fun v154 => v154 = v151) ∧ opL v151 fun a155 n156 n157 =>
  IxOk x77 n156 a155 ∧ ∃ v158, (∀ (w159 : World), J149 w159 → Ld w159 (adAt a155 x77 (1 : Nat)) fun v161 => v161 = v158) ∧ opL v158 fun a162 n163 n164 => CallW Try.prog [n69, n3, n2,
  n1] (171 : Nat) #[Value.agg #[Value.int IntKind.i64 st, Value.slice pa pn pc], Value.slice a162 n163 n164, Value.int IntKind.u8 x148] (fun v165 w166 => opL v165 fun a167 n168 n169
  => J149 w166 ∧ Bd ((n168 : Nat) : Int) fun x170 => Bd (x170 == (0 : Int)) fun b171 => If b171 (Nw (Obj.cells #[Value.int IntKind.i64 (-1 : Int)] (3 : Nat)) w166 fun n172 w173 =>
  RunW Try.prog [n69, n3, n2, n1] (Builtin.append_ #[(52 : Nat), (52 : Nat)] (52 : Nat) #[Value.slice a118 n119 n120, Value.slice (some (Addr.mk n172 (0 : Nat) none)) (1 : Nat) (1 :
  Nat)]) (fun v174 w175 => opL v174 fun a176 n177 n178 => Up [n69] [n69, n3, n2, n1] w175 fun w179 => J146 [Value.int IntKind.i64 x106] [Value.agg #[Value.int IntKind.i64 x109,
  Value.slice a110 n111 n112, Value.slice a113 n114 n115], Value.agg #[Value.int IntKind.i64 x117, Value.slice a176 n177 n178, Value.slice a121 n122 n123]] w179) w173) (CallW
  Try.prog [n69, n3, n2, n1] (167 : Nat) #[Value.agg #[Value.int IntKind.i64 st, Value.slice pa pn pc], Value.slice a167 n168 n169] (fun v180 w181 => opL v180 fun a182 n183 n184 =>
  CallW Try.prog [n69, n3, n2, n1] (169 : Nat) #[Value.slice a182 n183 n184] (fun v185 w186 => opStr v185 fun s187 => CallW Try.prog [n69, n3, n2, n1] (168 : Nat) #[Value.pointer
  (some (Addr.mk n (0 : Nat) none)), Value.string s187, Value.slice a182 n183 n184] (fun v188 w189 => opTu v188 fun cs190 => opI IntKind.i64 (nthD (Array.toList cs190) (0 : Nat)) fun
  x191 => opB (nthD (Array.toList cs190) (1 : Nat)) fun b192 => SzIs (Array.size cs190) (2 : Nat) (Jn (fun l193 l194 w195 => opAg (nthD l194 (0 : Nat)) fun cs196 => opI IntKind.i64
  (nthD (Array.toList cs196) (0 : Nat)) fun x197 => opL (nthD (Array.toList cs196) (1 : Nat)) fun a198 n199 n200 => opL (nthD (Array.toList cs196) (2 : Nat)) fun a201 n202 n203 =>
  SzIs (Array.size cs196) (3 : Nat) (NN (some (Addr.mk n (0 : Nat) none)) fun A204 => Ld w195 (Addr.add A204 (1 : Nat)) fun v205 => opL v205 fun a206 n207 n208 => Bd ((n207 : Nat) :
  Int) fun x209 => Bd (decide (x209 > most)) fun b210 => If b210 (Up [n3] [n69, n3, n2, n1] w195 fun w211 => R (Value.tuple #[Value.agg #[Value.int IntKind.i64 (0 : Int), Value.slice
  none (0 : Nat) (0 : Nat), Value.slice none (0 : Nat) (0 : Nat)], Value.int IntKind.i64 (40 : Int)]) w211) (Nw (Obj.cells #[Value.int IntKind.i64 x191] (3 : Nat)) w195 fun n212 w213
  => RunW Try.prog [n69, n3, n2, n1] (Builtin.append_ #[(52 : Nat), (52 : Nat)] (52 : Nat) #[Value.slice a198 n199 n200, Value.slice (some (Addr.mk n212 (0 : Nat) none)) (1 : Nat) (1
  : Nat)]) (fun v214 w215 => opL v214 fun a216 n217 n218 => Up [n69] [n69, n3, n2, n1] w215 fun w219 => J146 [Value.int IntKind.i64 x106] [Value.agg #[Value.int IntKind.i64 x109,
  Value.slice a110 n111 n112, Value.slice a113 n114 n115], Value.agg #[Value.int IntKind.i64 x197, Value.slice a216 n217 n218, Value.slice a201 n202 n203]] w219) w213))) fun J220 =>
  If b192 (CallW Try.prog [n69, n3, n2, n1] (170 : Nat) #[Value.agg #[Value.int IntKind.i64 st, Value.slice pa pn pc], Value.slice a182 n183 n184] (fun v221 w222 => opI IntKind.i64
  v221 fun x223 => Nw (Obj.cells #[Value.int IntKind.i64 x223] (3 : Nat)) w222 fun n224 w225 => RunW Try.prog [n69, n3, n2, n1] (Builtin.append_ #[(52 : Nat), (52 : Nat)] (52 : Nat)
  #[Value.slice a121 n122 n123, Value.slice (some (Addr.mk n224 (0 : Nat) none)) (1 : Nat) (1 : Nat)]) (fun v226 w227 => opL v226 fun a228 n229 n230 => Up [n69] [n69, n3, n2, n1]
  w227 fun w231 => J220 [] [Value.agg #[Value.int IntKind.i64 x117, Value.slice a118 n119 n120, Value.slice a228 n229 n230]] w231) w225) (World.drew w189) ∧ CallW Try.prog [n69, n3,
  n2, n1] (170 : Nat) #[Value.agg #[Value.int IntKind.i64 st, Value.slice pa pn pc], Value.slice a182 n183 n184] (fun v232 w233 => opI IntKind.i64 v232 fun x234 => (Nw (Obj.cells
  #[Value.int IntKind.i64 x234] (3 : Nat)) w233 fun n235 w236 => RunW Try.prog [n69, n3, n2, n1] (Builtin.append_ #[(52 : Nat), (52 : Nat)] (52 : Nat) #[Value.slice a121 n122 n123,
  Value.slice (some (Addr.mk n235 (0 : Nat) none)) (1 : Nat) (1 : Nat)]) (fun v237 w238 => opL v237 fun a239 n240 n241 => Up [n69] [n69, n3, n2, n1] w238 fun w242 => J220 []
  [Value.agg #[Value.int IntKind.i64 x117, Value.slice a118 n119 n120, Value.slice a239 n240 n241]] w242) w236) ∧ Nw (Obj.cells #[Value.int IntKind.i64 x234] (3 : Nat)) w233 fun n243
  w244 => RunW Try.prog [n69, n3, n2, n1] (Builtin.append_ #[(52 : Nat), (52 : Nat)] (52 : Nat) #[Value.slice a121 n122 n123, Value.slice (some (Addr.mk n243 (0 : Nat) none)) (1 :
  Nat) (1 : Nat)]) (fun v245 w246 => opL v245 fun a247 n248 n249 => Up [n69] [n69, n3, n2, n1] w246 fun w250 => J220 [] [Value.agg #[Value.int IntKind.i64 x117, Value.slice a118 n119
  n120, Value.slice a247 n248 n249]] w250) w244) (World.drew w189)) (J220 [] [Value.agg #[Value.int IntKind.i64 x117, Value.slice a118 n119 n120, Value.slice a121 n122 n123]] w189)))
  w186) w181) w166)) (World.drew w105)) (Bd (IntKind.wrap IntKind.i64 (x77 + (1 : Int))) fun x251 => J74 [Value.int IntKind.i64 x106, Value.int IntKind.i64 x251] [Value.agg
  #[Value.int IntKind.i64 x109, Value.slice a110 n111 n112, Value.slice a113 n114 n115], Value.agg #[Value.int IntKind.i64 x117, Value.slice a118 n119 n120, Value.slice a121 n122
  n123]] w105)))) [Value.int IntKind.i64 x76, Value.int IntKind.i64 (0 : Int)] [Value.agg #[Value.int IntKind.i64 x79, Value.slice a80 n81 n82, Value.slice a83 n84 n85], Value.agg
  #[Value.int IntKind.i64 x87, Value.slice a88 n89 n90, Value.slice a91 n92 n93]] w75) (Up [n3] [n69, n3, n2, n1] w75 fun w252 => R (Value.tuple #[Value.agg #[Value.int IntKind.i64
  x87, Value.slice a88 n89 n90, Value.slice a91 n92 n93], Value.int IntKind.i64 (0 : Int)]) w252)))) [Value.int IntKind.i64 (0 : Int), Value.int IntKind.i64 (0 : Int)] [Value.agg
  #[Value.int IntKind.i64 (0 : Int), Value.slice none (0 : Nat) (0 : Nat), Value.slice none (0 : Nat) (0 : Nat)], Value.agg #[Value.int IntKind.i64 many, Value.slice none (0 : Nat)
  (0 : Nat), Value.slice (some (Addr.mk nt (0 : Nat) none)) (1 : Nat) (1 : Nat)]] w
theorem byL_len (b : Nat) : ∀ (N : List Bool) (l : List Ns), (byL b N l).length ≤ l.length
  | [], l => by rw [show byL b [] l = [] by cases l <;> rfl]; simp
  | h :: hs, [] => by simp [byL]
  | h :: hs, x :: xs => by
    have := byL_len b hs xs
    unfold byL
    split
    · simp; omega
    · simp; omega
theorem Ls.placeU {L : List Nat} {wb w : World} {n m c nc tc : Nat} {a na ta : Option Addr} {B : List Rb} {nx tg : List Int} (h : Ls L wb w n m a c B na nc nx ta tc tg) (N : List Bool) (pa : Option Addr) (pc b0 : Nat) (hN : OwnL w b0 4 1 bE pa pc N) (hb0 : wb.heap.size ≤ b0) (hbL : ∀ b ∈ L, b < b0) (hlen : ∀ p ∈ B, p.N.length = N.length) (hl : B.length < 2 ^ 30) {K : Int → Bool → World → Prop}
    (k : ∀ x b a' c' B' w', Ls L wb w' n m a' c' B' na nc nx ta tc tg → (b = false ∧ B' = B ∧ ∃ i : Nat, idxB N (B.map (·.N)) 0 = some i ∧ x = (i : Int)) ∨ (b = true ∧ B' = B ++ [⟨pa, pc, N⟩] ∧ idxB N (B.map (·.N)) 0 = none ∧ x = (B.length : Int)) → K x b w') :
    CallW Try.prog L 168 #[.pointer (some (Addr.mk n 0 none)), .string (keyS N), .slice pa N.length pc] (fun v w' => opTu v fun cs => opI .i64 (nthD cs.toList 0) fun x => opB (nthD cs.toList 1) fun b => SzIs cs.size 2 (K x b w')) w :=
  h.place N pa pc b0 hN hb0 hbL hlen hl (fun i w' hi h' => k _ _ a c B w' h' (.inl ⟨rfl, rfl, i, hi, rfl⟩)) fun a' c' w' hi h' => k _ _ a' c' _ w' h' (.inr ⟨rfl, rfl, hi, rfl⟩)
theorem l67_ok {w0 wb w : World} {n1 n2 n3 n69 n m nt : Nat} (st : Int) (l : List Ns) (pa : Option Addr) (pc : Nat) (fa : Option Addr) (F : List Nat) (many most : Int) {a0 : Option Addr} {c0 : Nat} {p0 : Rb} {R : Value → World → Prop}
    (hr : RowAt wb pa 8 nsE l) (hl : OkL l) (hlen : l.length ≤ 20000) (hF : RowAt wb fa 1 b1 F) (hF8 : ∀ x ∈ F, x < 256) (hFl : F.length ≤ 256) (hm1 : 1 ≤ most) (hm2 : most ≤ 5000)
    (h0 : Md [] w0 wb) (hn3 : w0.heap.size ≤ n3) (hn69 : wb.heap.size ≤ n69) (hp0 : p0.N.length = l.length)
    (S : Ls [n69, n3, n2, n1] wb w n m a0 c0 [p0] none 0 [] (some ⟨nt, 0, none⟩) 1 [tagF p0.N l (-1)])
    (hR40 : dAll l most.toNat F (most.toNat + 1) 0 ([p0.N], []) = none → ∀ w', Md [] w0 w' → R (.tuple #[.agg #[.int .i64 0, .slice none 0 0, .slice none 0 0], .int .i64 40]) w')
    (hR0 : ∀ p na nc ta tc w', dAll l most.toNat F (most.toNat + 1) 0 ([p0.N], []) = some p → OwnL w' wb.heap.size 3 1 i1 na nc p.2 → OwnL w' wb.heap.size 3 1 i1 ta tc (tagL l p.1) → Apt na ta → Md [] w0 w' → R (.tuple #[.agg #[.int .i64 many, .slice na p.2.length nc, .slice ta (tagL l p.1).length tc], .int .i64 0]) w') :
    L67 st pa l.length pc n1 n2 n3 n69 n fa F.length many most nt R w := by
  unfold L67
  generalize hT : dAll l most.toNat F (most.toNat + 1) 0 ([p0.N], []) = T at *
  generalize hM : most.toNat = M at *
  have hMm : most = (M : Int) := by omega
  refine LoopP_in (fun mm us vs w' => ∃ (i : Nat) (a : Option Addr) (c : Nat) (B : List Rb) (na : Option Addr) (nc : Nat) (nx : List Int) (ta : Option Addr) (tc : Nat) (tg : List Int),
      us = [.int .i64 0, .int .i64 i] ∧ vs = [.agg #[.int .i64 0, .slice none 0 0, .slice none 0 0], .agg #[.int .i64 many, .slice na nx.length nc, .slice ta tg.length tc]] ∧ Ls [n69, n3, n2, n1] wb w' n m a c B na nc nx ta tc tg ∧ tg = tagL l (B.map (·.N)) ∧
      B.length ≤ M ∧ i ≤ B.length ∧ mm = M + 1 - i ∧ (∀ p ∈ B, p.N.length = l.length) ∧ nx.length ≤ i * 256 ∧ dAll l M F mm i (B.map (·.N), nx) = T) (M + 1)
    ⟨0, a0, c0, [p0], none, 0, [], _, 1, _, rfl, rfl, S, rfl, by simp; omega, by omega, rfl, by simpa using hp0, by simp, hT⟩ ?_
  rintro mm us vs w75 ⟨i, a, c, B, na, nc, nx, ta, tc, tg, rfl, rfl, S75, htg, hBM, hi, hmm, hBl, hnx, hD⟩
  refine opI_in <| opI_in <| opAg_in <| opI_in <| opL_in <| opL_in <| SzIs_in rfl <| opAg_in <| opI_in <| opL_in <| opL_in <| SzIs_in rfl <| NN_in <| S75.S.blk.ld' rfl <| opL_in <| Bd_e rfl <| Bd_in fun b100 hb100 => If_in (fun hb => ?_) fun hb => ?_
  case refine_2 =>
    have hib : i = B.length := by
      have : ¬ (i : Int) < (B.length : Int) := by rw [hb100] at hb; exact of_decide_eq_false hb
      omega
    subst hib
    obtain ⟨mm', rfl⟩ : ∃ k, mm = k + 1 := ⟨mm - 1, by omega⟩
    have e : T = some (B.map (·.N), nx) := by
      rw [← hD]
      simp [dAll]
    intro w' hm _
    have hS := S75.md0 (Md.refl _ _)
    have o1 := S75.nx.mdD hm (fun A hA => by simp; exact S75.l1 n3 (by simp) A hA)
    have o2 := S75.tg.mdD hm (fun A hA => by simp; exact S75.l2 n3 (by simp) A hA)
    subst htg
    exact hR0 (B.map (·.N), nx) na nc ta tc w' e o1 o2 S75.ap ((h0.trans S75.S.md).old hm (by simp; exact hn3))
  have hib : i < B.length := by rw [hb100] at hb; have : (i : Int) < (B.length : Int) := of_decide_eq_true hb
                                omega
  obtain ⟨mm', rfl⟩ : ∃ k, mm = k + 1 := ⟨mm - 1, by omega⟩
  have hN : (B.map (·.N))[i]? = some B[i].N := by rw [List.getElem?_map, List.getElem?_eq_getElem hib]; rfl
  have hD' : (dRow l M F B[i].N (B.map (·.N), nx)).bind (dAll l M F mm' (i + 1)) = T := by
    rw [← hD]
    simp only [dAll, hN]
  have hNl : B[i].N.length = l.length := hBl _ (List.getElem_mem hib)
  generalize hNN : B[i].N = N at *
  refine Bd_e rfl ?_
  refine LoopP_in (fun m2 us vs w' => ∃ (j : Nat) (a : Option Addr) (c : Nat) (B : List Rb) (na : Option Addr) (nc : Nat) (nx : List Int) (ta : Option Addr) (tc : Nat) (tg : List Int),
      us = [.int .i64 0, .int .i64 j] ∧ vs = [.agg #[.int .i64 0, .slice none 0 0, .slice none 0 0], .agg #[.int .i64 many, .slice na nx.length nc, .slice ta tg.length tc]] ∧ Ls [n69, n3, n2, n1] wb w' n m a c B na nc nx ta tc tg ∧ tg = tagL l (B.map (·.N)) ∧
      B.length ≤ M ∧ (B.map (·.N))[i]? = some N ∧ j ≤ F.length ∧ m2 = F.length - j ∧ (∀ p ∈ B, p.N.length = l.length) ∧ nx.length ≤ i * 256 + j ∧ (dRow l M (F.drop j) N (B.map (·.N), nx)).bind (dAll l M F mm' (i + 1)) = T) F.length
    ⟨0, a, c, B, na, nc, nx, ta, tc, tg, rfl, rfl, S75, htg, hBM, hN, by omega, rfl, hBl, hnx, hD'⟩ ?_
  clear hD' hD hN hNN hBl hnx htg S75 hib hb hb100 hi hBM
  clear a c B na nc nx ta tc tg
  rintro m2 us vs w105 ⟨j, a, c, B, na, nc, nx, ta, tc, tg, rfl, rfl, S105, htg, hBM, hN, hj, hm2', hBl, hnx, hD⟩
  have hib : i < B.length := by
    have := (List.getElem?_eq_some_iff.1 hN).1
    simpa using this
  have hNi : B[i].N = N := by
    rw [List.getElem?_map, List.getElem?_eq_getElem hib] at hN
    simpa using hN
  refine opI_in <| opI_in <| opAg_in <| opI_in <| opL_in <| opL_in <| SzIs_in rfl <| opAg_in <| opI_in <| opL_in <| opL_in <| SzIs_in rfl <| Bd_in fun b124 hb124 => If_in (fun hb => ?_) fun hb => ?_
  case refine_2 =>
    have hjF : j = F.length := by
      have : ¬ (j : Int) < (F.length : Int) := by rw [hb124] at hb; exact of_decide_eq_false hb
      omega
    subst hjF
    rw [List.drop_of_length_le (Nat.le_refl _)] at hD
    exact Bd_e (inc_i64 (by omega)) ⟨mm', by omega, i + 1, a, c, B, na, nc, nx, ta, tc, tg, rfl, rfl, S105, htg, hBM, by omega, by omega, hBl, by omega, hD⟩
  have hjF : j < F.length := by rw [hb124] at hb; have : (j : Int) < (F.length : Int) := of_decide_eq_true hb
                                omega
  rw [List.drop_eq_getElem_cons hjF] at hD
  have hb256 := hF8 _ (List.getElem_mem hjF)
  have hFix := (hF.md S105.S.md).ix hjF
  have hFld := fun {K : Value → Prop} => (hF.md S105.S.md).ld1 (K := K) hjF rfl
  generalize F[j] = b at *
  refine Jn_in (fun us vs w' => ∃ (a : Option Addr) (c : Nat) (B : List Rb) (na : Option Addr) (nc : Nat) (nx : List Int) (ta : Option Addr) (tc : Nat) (tg : List Int),
      us = [.int .i64 0] ∧ vs = [.agg #[.int .i64 0, .slice none 0 0, .slice none 0 0], .agg #[.int .i64 many, .slice na nx.length nc, .slice ta tg.length tc]] ∧ Ls [n69, n3, n2, n1] wb w' n m a c B na nc nx ta tc tg ∧ tg = tagL l (B.map (·.N)) ∧
      B.length ≤ M ∧ (B.map (·.N))[i]? = some N ∧ (∀ p ∈ B, p.N.length = l.length) ∧ nx.length ≤ i * 256 + (j + 1) ∧ (dRow l M (F.drop (j + 1)) N (B.map (·.N), nx)).bind (dAll l M F mm' (i + 1)) = T) ?_ ?_
  · rintro us vs w127 ⟨a, c, B, na, nc, nx, ta, tc, tg, rfl, rfl, q1, q2, q3, q4, q5, q6, q7⟩
    exact opI_in <| opAg_in <| opI_in <| opL_in <| opL_in <| SzIs_in rfl <| opAg_in <| opI_in <| opL_in <| opL_in <| SzIs_in rfl <| Bd_e (inc_i64 (by omega)) ⟨F.length - (j + 1), by omega, j + 1, a, c, B, na, nc, nx, ta, tc, tg, rfl, rfl, q1, q2, q3, q4, by omega, rfl, q5, q6, q7⟩
  refine ⟨hFix, hFld <| opI_in ?_⟩
  have Sd := S105.md0 (Md_drew w105)
  refine ⟨fun w' => Md [] w105.drew w', Md.refl _ _, NN_in ?_⟩
  show ∃ v, _ ∧ _
  refine ⟨_, fun w' hm => (Sd.md0 hm).S.blk.ld' rfl rfl, opL_in ⟨(Sd.S.own.row encrb).ix hib, ?_⟩⟩
  show ∃ v, _ ∧ _
  refine ⟨_, fun w' hm => ((Sd.md0 hm).S.own.row encrb).ld1 hib rfl rfl, opL_in ?_⟩
  have hrow := (Sd.S.rows _ (List.getElem_mem hib)).row encbE
  have hnl : B[i].N.length = l.length := by rw [hNi]; exact hNl
  refine (f171_ok st l pa B[i].a pc B[i].c B[i].N b hb256 w105.drew (hr.md Sd.S.md) hrow hnl hlen).call Sd.lt ?_
  rintro v w166 ⟨A, C, rfl, own⟩ m166
  have S166 := Sd.md0 m166
  rw [hNi] at own ⊢
  refine opL_in ⟨m166, Bd_e rfl <| Bd_in fun b171 hb171 => If_in (fun hb => ?_) fun hb => ?_⟩
  · have hnil : byL b N l = [] := by rw [hb171] at hb; exact List.eq_nil_of_length_eq_zero (by have := of_decide_eq_true hb; omega)
    have e1 : oneB l b N (B.map (·.N), nx) = (B.map (·.N), nx ++ [-1]) := by unfold oneB; rw [if_pos hnil]
    have hlt : ¬ M < (oneB l b N (B.map (·.N), nx)).1.length := by rw [e1]; simp; omega
    unfold dRow at hD
    rw [if_neg hlt, e1] at hD
    exact S166.addN (n0 := n69) (by simp) hn69 (-1) (by omega) fun na' nc' w' S' => ⟨a, c, B, na', nc', nx ++ [-1], ta, tc, tg, rfl, rfl, S', htg, hBM, hN, hBl, by simp; omega, hD⟩
  · have hnn : byL b N l ≠ [] := fun e => by rw [hb171, e] at hb; simp at hb
    have htl := byL_len b N l
    have hin := byL_in hl b N
    have lt166 := S166.lt
    refine (f167_ok st l pa A pc C _ (byL b N l) w166 (hr.md S166.S.md) own hl hlen (by omega) hin).call lt166 ?_
    rintro v w181 ⟨A2, C2, rfl, own2⟩ m181
    have S181 := S166.md0 m181
    have hdl : (dst l (byL b N l)).length = l.length := (dst_ok hl hin).1
    refine opL_in ?_
    refine (f169_ok (dst l (byL b N l)) A2 C2 _ (by omega) w181 own2).call S181.lt ?_
    rintro v w186 rfl m186
    have S186 := S181.md0 m186
    refine opStr_in ?_
    have ob : wb.heap.size ≤ w166.heap.size := S166.S.md.size
    refine S186.placeU (dst l (byL b N l)) A2 C2 w166.heap.size (own2.md m186) ob lt166 (fun p hp => by rw [hBl p hp, hdl]) (by omega) ?_
    intro x191 b192 a' c' B' w189 S189 hcase
    have e1 : oneB l b N (B.map (·.N), nx) = (B'.map (·.N), nx ++ [x191]) := by
      unfold oneB
      rw [if_neg hnn]
      rcases hcase with ⟨_, rfl, k, h1, rfl⟩ | ⟨_, rfl, h1, rfl⟩
      · simp only [h1]
      · simp only [h1]; simp
    have hB'l : ∀ p ∈ B', p.N.length = l.length := by
      rcases hcase with ⟨_, rfl, _⟩ | ⟨_, rfl, _⟩
      · exact hBl
      · intro p hp
        rcases List.mem_append.1 hp with h | h
        · exact hBl p h
        · simp at h; subst h; exact hdl
    have hN' : (B'.map (·.N))[i]? = some N := by
      rcases hcase with ⟨_, rfl, _⟩ | ⟨_, rfl, _⟩
      · exact hN
      · rw [List.map_append, List.getElem?_append_left (by simpa using hib)]; exact hN
    have hB'2 : B'.length ≤ M + 1 := by
      rcases hcase with ⟨_, rfl, _⟩ | ⟨_, rfl, _⟩
      · omega
      · simp; omega
    have htl2 : tg.length ≤ M := by rw [htg]; simp [tagL]; exact hBM
    refine Jn_in (fun us vs w' => ∃ (ta : Option Addr) (tc : Nat) (tg : List Int), us = [] ∧ vs = [.agg #[.int .i64 many, .slice na nx.length nc, .slice ta tg.length tc]] ∧ Ls [n69, n3, n2, n1] wb w' n m a' c' B' na nc nx ta tc tg ∧ tg = tagL l (B'.map (·.N))) ?_ ?_
    · rintro us vs w195 ⟨ta', tc', tg', rfl, rfl, S195, htg'⟩
      refine opAg_in <| opI_in <| opL_in <| opL_in <| SzIs_in rfl <| NN_in <| S195.S.blk.ld' rfl <| opL_in <| Bd_e rfl <| Bd_in fun b210 hb210 => If_in (fun hb => ?_) fun hb => ?_
      · have hlt : M < (oneB l b N (B.map (·.N), nx)).1.length := by
          rw [hb210] at hb
          have : (B'.length : Int) > most := of_decide_eq_true hb
          rw [e1]; simp; omega
        unfold dRow at hD
        rw [if_pos hlt] at hD
        intro w' hm _
        exact hR40 (by rw [← hD]; rfl) w' ((h0.trans S195.S.md).old hm (by simp; exact hn3))
      · have hle : B'.length ≤ M := by
          rw [hb210] at hb
          have : ¬ (B'.length : Int) > most := of_decide_eq_false hb
          omega
        have hlt : ¬ M < (oneB l b N (B.map (·.N), nx)).1.length := by rw [e1]; simp; omega
        unfold dRow at hD
        rw [if_neg hlt, e1] at hD
        exact S195.addN (n0 := n69) (by simp) hn69 x191 (by omega) fun na' nc' w' S' => ⟨a', c', B', na', nc', nx ++ [x191], ta', tc', tg', rfl, rfl, S', htg', hle, hN', hB'l, by simp; omega, hD⟩
    · rcases hcase with ⟨rfl, rfl, _⟩ | ⟨rfl, rfl, _⟩
      · exact If_in (fun h => by cases h) fun _ => ⟨ta, tc, tg, rfl, rfl, S189, htg⟩
      · refine If_in (fun _ => ?_) fun h => by cases h
        have htg2 : tg ++ [tagF (dst l (byL b N l)) l (-1)] = tagL l ((B ++ [(⟨A2, C2, dst l (byL b N l)⟩ : Rb)]).map (fun p : Rb => p.N)) := by rw [htg]; simp [tagL]
        have Sq := S189.md0 (Md_drew w189)
        have call170 := fun {K : Value → World → Prop} (hk : ∀ v w', v = .int .i64 (tagF (dst l (byL b N l)) l (-1)) → Md [] w189.drew w' → K v w') =>
          (f170_ok st l pa A2 pc C2 (dst l (byL b N l)) w189.drew (hr.md Sq.S.md) ((((own2.md m186).row encbE).md (Md.refl _ _)).mdD (Md.refl [] _) (by simp) |> fun _ => (Sq.S.rows ⟨A2, C2, dst l (byL b N l)⟩ (by simp)).row encbE) hdl hlen).call Sq.lt (K := K) hk
        have app := fun {w' : World} {K : Option Addr → Nat → Nat → World → Prop} (hm : Md [] w189.drew w') kk => (Sq.md0 hm).addT (n0 := n69) (by simp) hn69 (tagF (dst l (byL b N l)) l (-1)) (by omega) (K := K) kk
        refine ⟨call170 fun v w' e hm => ?_, call170 fun v w' e hm => ?_⟩
        · subst e
          exact opI_in <| app hm fun ta' tc' w' S' => ⟨ta', tc', _, rfl, rfl, S', htg2⟩
        · subst e
          exact opI_in ⟨app hm fun ta' tc' w' S' => ⟨ta', tc', _, rfl, rfl, S', htg2⟩, app hm fun ta' tc' w' S' => ⟨ta', tc', _, rfl, rfl, S', htg2⟩⟩
end Fk
set_option linter.unusedVariables false
set_option linter.unusedSimpArgs false
set_option maxRecDepth 100000
set_option maxHeartbeats 4000000
namespace Fk
open Go Go.Proofs Go.RowKit
theorem made51 (m : Nat) (w : World) (hm : m < 2 ^ 20) : ∃ w', (Instr.makeSlice 51 (.int .i64 (m : Int)) (.int .i64 (m : Int))).run Try.prog w = .ok (.slice (some ⟨w.heap.size, 0, none⟩) m m) w' ∧ OwnL w' w.heap.size 5 1 b1 (some ⟨w.heap.size, 0, none⟩) m (List.replicate m 0) ∧ Md [] w w' := by
  have h5 : (Try.prog.info? 5).isSome = true := by kernel_rfl
  obtain ⟨i5, hi5⟩ := Option.isSome_iff_exists.1 h5
  have hz5 : (Try.prog.info? 5).bind (·.zero) = some (.int .u8 0) := by kernel_rfl
  have hs5 : (Try.prog.info? 5).map (fun i => (i.size, i.bytes)) = some (1, 1) := by kernel_rfl
  rw [hi5] at hz5 hs5
  simp only [Option.bind_some, Option.map_some, Option.some.injEq, Prod.mk.injEq] at hz5 hs5
  obtain ⟨w3, hrun, hown, hgr⟩ := run_makeSlice_full (P := Try.prog) w w.heap.size 51 5 i5 (.int .u8 0) 1 (by kernel_rfl) hi5 hz5 hs5.1 .i64 .i64 m (by omega) (by rw [hs5.2]; omega) (by simp [maxLen]; omega) (Nat.le_refl _)
  refine ⟨w3, hrun, ?_, Md_of_grown hgr⟩
  have hmc : (madeCells (Value.int .u8 0).cells (m * 1)).toList = (List.replicate m 0).flatMap b1 := by
    rw [nb1_map, List.map_replicate, Nat.mul_one]
    exact toList_madeCells_one _ m
  unfold OwnL
  rw [← hmc, List.length_replicate]; exact hown
theorem right_m {c : Cl} (hc : c.ok) (h : c.right = true) : 1 ≤ c.m ∧ c.m ≤ 256 := by
  rw [right_iff hc] at h
  unfold Cl.rightR at h
  simp only [Bool.and_eq_true, decide_eq_true_eq] at h
  exact ⟨h.1.1.1, h.1.1.2⟩
theorem first_b (c : Cl) (k : Int) : 0 ≤ (c.first k).1 ∧ (c.first k).1 < 256 := by
  unfold Cl.first
  split
  · split
    · exact ⟨by simp, by simp; omega⟩
    · simp
  · simp
theorem firsts_len (c : Cl) : c.firsts.length = c.m.toNat := by simp [Cl.firsts]
theorem firsts_get (c : Cl) {i : Nat} (h : i < c.firsts.length) : c.firsts[i] = (c.first i).1.toNat := by simp [Cl.firsts]
theorem firsts_lt (c : Cl) : ∀ x ∈ c.firsts, x < 256 := fun x hx => by
  simp only [Cl.firsts, List.mem_map] at hx
  obtain ⟨k, _, rfl⟩ := hx
  have := first_b c k
  omega
section
variable {L : List Nat} {wb w w' : World} {n m c nc tc : Nat} {a na ta : Option Addr} {B : List Rb} {nx tg : List Int}
theorem Ls.name {n0 : Nat} (h : Ls L wb w n m a c B na nc nx ta tc tg) (h0 : w.heap.size ≤ n0) (hm : Md [] w w') (hL : ∀ b ∈ n0 :: L, b < w'.heap.size) : Ls (n0 :: L) wb w' n m a c B na nc nx ta tc tg := by
  have h' := h.md0 hm
  have S := h'.S
  refine ⟨⟨S.blk, S.md, S.nlo, S.mlo, S.map, S.own, S.rows, S.nm, fun b hb => ?_⟩, h'.nx, h'.tg, h'.ap, fun b hb A hA => ?_, fun b hb A hA => ?_, fun p hp A hA b hb => ?_⟩
  · refine ⟨hL b hb, ?_⟩
    rcases List.mem_cons.1 hb with rfl | hb
    · exact ⟨by have := h.S.blk.lt; omega, by have := h.S.map.lt; omega, fun A hA => by have := (h.S.own.lt hA).2; omega⟩
    · exact (h.S.nl b hb).2
  · rcases List.mem_cons.1 hb with rfl | hb
    · have := (h.nx.lt hA).2; omega
    · exact h.l1 b hb A hA
  · rcases List.mem_cons.1 hb with rfl | hb
    · have := (h.tg.lt hA).2; omega
    · exact h.l2 b hb A hA
  · rcases List.mem_cons.1 hb with rfl | hb
    · have := ((h.S.rows p hp).lt hA).2; omega
    · exact h.l3 p hp A hA b hb
theorem Ls.lit (h : Ls L wb w n m a c B none 0 [] none 0 []) (x : Int) : Ls L wb (w.alloc (.cells #[.int .i64 x] 3)) n m a c B none 0 [] (some ⟨w.heap.size, 0, none⟩) 1 [x] := by
  have ma : Md [] w (w.alloc (.cells #[.int .i64 x] 3)) := Md.alloc w _
  have h' := h.md0 ma
  refine ⟨h'.S, h'.nx, OwnL.lit (P := Try.prog) (base := wb.heap.size) enci1 w 3 [x] #[.int .i64 x] h.S.md.size (by simp [maxLen]) rfl, (fun A B hA => by cases hA), h'.l1, fun b hb A hA => ?_, h'.l3⟩
  injection hA with hA; subst hA
  have := h.lt b hb
  simp; omega
end
def dmV (d : Dm) (na : Option Addr) (nc : Nat) (ta : Option Addr) (tc : Nat) : Value := .agg #[.int .i64 d.1, .slice na d.2.1.length nc, .slice ta d.2.2.length tc]
def DmOut (w w' : World) (r : Dm × Int) (v : Value) : Prop := (∃ na nc ta tc, v = .tuple #[dmV r.1 na nc ta tc, .int .i64 r.2] ∧ OwnL w' w.heap.size 3 1 i1 na nc r.1.2.1 ∧ OwnL w' w.heap.size 3 1 i1 ta tc r.1.2.2 ∧ Apt na ta) ∧ Md [] w w'
theorem DmOut.err {w w' : World} (e : Int) (h : Md [] w w') : DmOut w w' ((0, [], []), e) (.tuple #[.agg #[.int .i64 0, .slice none 0 0, .slice none 0 0], .int .i64 e]) :=
  ⟨⟨none, 0, none, 0, rfl, OwnL.nil _ _ _ _ _, OwnL.nil _ _ _ _ _, fun A B hA => by cases hA⟩, h⟩
theorem f67_ok (st : Int) (l : List Ns) (pa : Option Addr) (pc : Nat) (c : Cl) (hc : c.ok) (most : Int) (w : World) (hr : RowAt w pa 8 nsE l) (hl : l.length < 2 ^ 60) :
    Ct Try.prog 67 #[.agg #[.int .i64 st, .slice pa l.length pc], .agg c.v, .int .i64 most] w fun v w' => DmOut w w' (dBld st l c most) v := by
  apply f67_in
  intro n1 hn1 n2 hn2 n3 hn3 w4 h4 hL4
  have g4 : Good [n3, n2, n1] w w4 := ⟨h4, hL4⟩
  refine (f81_ok st l pa pc w4 (hr.md h4) hl).call hL4 ?_
  rintro v w6 rfl m6
  have g6 := g4.tr m6
  refine opB_in <| Bd_in fun b8 hb8 => ⟨fun _ => hc.size, ?_⟩
  refine Gd_to (fun b w' => (nfRight st l = true → b = fitsN c l) ∧ Good [n3, n2, n1] w w') (fun b14 w15 hJ => ?_) (fun fin hcn => ?_) (fun hcn => ⟨(fun h => by rw [hb8, h] at hcn; cases hcn), g6⟩)
  case refine_2 =>
    have hn : nfRight st l = true := by rw [hb8] at hcn; simpa using hcn
    have hlen := (okL_of_right hn).2.2.2.1
    refine (f166_ok c hc st l pa pc w6 (hr.md g6.1) hlen).call g6.2 ?_
    rintro v w12 rfl m12
    exact opB_in <| fin _ _ ⟨fun _ => rfl, g6.tr m12⟩
  obtain ⟨h14, g15⟩ := hJ
  refine Bd_in fun b16 hb16 => Bd_in fun b17 hb17 => Bd_in fun b18 hb18 => Bd_in fun b19 hb19 => Bd_in fun b20 hb20 => Bd_in fun b21 hb21 => ?_
  have e21 : b21 = true ↔ ¬ (nfRight st l = true ∧ fitsN c l = true ∧ 1 ≤ most ∧ most ≤ 5000) := by
    rw [hb21, hb20, hb19, hb18, hb17, hb16, hb8]
    cases hn : nfRight st l with
    | false => simp
    | true =>
      rw [h14 hn]
      cases fitsN c l with
      | false => simp
      | true =>
        by_cases c1 : most < 1
        · simp [c1]; try omega
        · by_cases c2 : most > 5000
          · simp [c1, c2]; try omega
          · simp [c1, c2]; try omega
  refine If_in (fun hb w22 h22 _ => ?_) fun hb => ?_
  · have : dBld st l c most = ((0, [], []), 2) := by unfold dBld; rw [if_neg (e21.1 hb)]
    rw [this]
    exact DmOut.err 2 (g15.1.old h22 (by simp; exact hn3))
  have hcond : nfRight st l = true ∧ fitsN c l = true ∧ 1 ≤ most ∧ most ≤ 5000 := Classical.byContradiction fun h => by have := e21.2 h; rw [hb] at this; cases this
  have ebld : dBld st l c most = (match dAll l most.toNat c.firsts (most.toNat + 1) 0 ([dst l [st]], []) with | none => ((0, [], []), 40) | some p => ((c.m, p.2, tagL l p.1), 0)) := by unfold dBld; rw [if_pos hcond] <;> cases dAll l most.toNat c.firsts (most.toNat + 1) 0 ([dst l [st]], []) <;> rfl
  rw [ebld]
  clear ebld
  obtain ⟨hright, hfit, hm1, hm2⟩ := hcond
  obtain ⟨hok, hst0, hst1, hlen, _⟩ := okL_of_right hright
  have hcr : c.right = true := by unfold fitsN at hfit; rw [Bool.and_eq_true] at hfit; exact hfit.2
  obtain ⟨cm1, cm2⟩ := right_m hc hcr
  refine BdO_in hc.many <| opI_in ?_
  have hcm : c.m = ((c.m.toNat : Nat) : Int) := by omega
  obtain ⟨w26, r26, o26, m26⟩ := made51 c.m.toNat w15 (by omega)
  rw [← hcm] at r26
  have l15 := g15.2
  refine RunW_in r26 (fun b hb => m26.blk b (l15 b hb) (by simp)) <| opL_in <| Bd_e rfl ?_
  have hfl := firsts_len c
  generalize hfa : (some (Addr.mk w15.heap.size 0 none)) = fa at *
  have hfab : ∀ A, fa = some A → A.block = w15.heap.size := fun A hA => by rw [← hfa] at hA; injection hA with hA; subst hA; rfl
  refine LoopP_in (fun mm us vs w' => ∃ (i : Nat) (xs : List Nat), us = [.int .i64 i] ∧ mm = c.m.toNat - i ∧ i ≤ c.m.toNat ∧ OwnL w' w15.heap.size 5 1 b1 fa c.m.toNat xs ∧ xs.length = c.m.toNat ∧ (∀ j, j < i → xs[j]? = c.firsts[j]?) ∧ Md [] w15 w') c.m.toNat
    ⟨0, List.replicate c.m.toNat 0, rfl, rfl, by omega, o26, by simp, fun j hj => by omega, m26⟩ ?_
  rintro mm us vs w34 ⟨i, xs, rfl, hmm, hi, o34, hxl, hxs, m34⟩
  have g34 : Good [n3, n2, n1] w w34 := g15.tr m34
  refine opI_in <| Bd_in fun b36 hb36 => If_in (fun hb => ?_) fun hb => ?_
  · have him : i < c.m.toNat := by rw [hb36] at hb; have : (i : Int) < (c.m.toNat : Int) := of_decide_eq_true hb
                                   omega
    refine ⟨hc.size, ?_⟩
    refine (f42_ok c hc i w34).call g34.2 ?_
    rintro v w38 rfl m38
    refine opTu_in <| opI_in <| opB_in <| SzIs_in rfl ?_
    have fb := first_b c i
    have o38 := o34.md m38
    have hix := (o38.row encb1).ix (i := i) (by omega)
    obtain ⟨A, hA, p1, p2, p3, p4, p5, p6⟩ := o38.put encb1 (by omega) (show i < xs.length by omega) (c.first i).1.toNat
    rw [hxl] at hix
    have m15_38 := m34.trans m38
    have eb : b1 (c.first i).1.toNat = [.int .u8 (c.first i).1] := by unfold b1; rw [Int.toNat_of_nonneg fb.1]
    rw [eb] at p5 p6
    have hAb := hfab A hA
    have hmem : ¬ Addr.block (adAt fa (i : Int) 1) ∈ [n3, n2, n1] := by
      rw [p3, hAb]
      intro hb
      have := l15 _ hb
      omega
    refine ⟨hix, hmem, p4, Bd_e (inc_i64 (by omega)) ⟨c.m.toNat - (i + 1), by omega, i + 1, xs.set i (c.first i).1.toNat, rfl, rfl, by omega, p5, by simpa using hxl, fun j hj => ?_, m15_38.old p6 (by simp; omega)⟩⟩
    by_cases hji : j = i
    · subst hji
      rw [List.getElem?_set_self (by omega), List.getElem?_eq_getElem (by omega), firsts_get]
    · rw [List.getElem?_set_ne (by omega)]
      exact hxs j (by omega)
  have him : i = c.m.toNat := by
    have : ¬ (i : Int) < (c.m.toNat : Int) := by rw [hb36] at hb; exact of_decide_eq_false hb
    omega
  subst him
  have hxf : xs = c.firsts := by
    apply List.ext_getElem?
    intro j
    by_cases hj : j < c.m.toNat
    · exact hxs j hj
    · rw [List.getElem?_eq_none (by omega), List.getElem?_eq_none (by omega)]
  subst hxf
  have hF := o34.row encb1
  have hr34 := hr.md g34.1
  refine Nw_i <| Nw_i <| Nw_i ?_
  have ma : Md [] w34 (w34.alloc (.map #[] 0)) := Md.alloc w34 _
  have hM0 : MapAt (w34.alloc (.map #[] 0)) w34.heap.size (fun s : ByteArray => .string s) (fun x : Int => .int .i64 x) [] := MapAt.new w34 _ _
  have hm43 := hM0.lt
  have sza := ma.size
  have g44 := g34.tr ma
  generalize hw44 : w34.alloc (.map #[] 0) = w44 at *
  have mb : Md [] w44 (w44.alloc (.cells #[.map (some w34.heap.size), .slice none 0 0] 221)) := Md.alloc w44 _
  have bb := Blk.new w44 #[.map (some w34.heap.size), .slice none 0 0] 221
  have hb45 := bb.lt
  have szb := mb.size
  have g46 := g44.tr mb
  generalize hw46 : w44.alloc (.cells #[.map (some w34.heap.size), .slice none 0 0] 221) = w46 at *
  have B46 : Bkp [n3, n2, n1] w34 w46 w44.heap.size w34.heap.size none 0 [] :=
    ⟨bb, ma.trans mb, by omega, Nat.le_refl _, hM0.md mb (by simp), OwnL.nil _ _ _ _ _, by simp, by omega, fun b hb => ⟨g46.2 b hb, by have := g44.2 b hb; omega, by have := g34.2 b hb; omega, fun A hA => by cases hA⟩⟩
  have S46 : Ls [n3, n2, n1] w34 w46 w44.heap.size w34.heap.size none 0 [] none 0 [] none 0 [] := ⟨B46, OwnL.nil _ _ _ _ _, OwnL.nil _ _ _ _ _, (fun A B hA => by cases hA), (fun b hb A hA => by cases hA), (fun b hb A hA => by cases hA), by simp⟩
  have mc : Md [] w46 (w46.alloc (.cells #[.int .i64 st] 3)) := Md.alloc w46 _
  have olc : OwnL (w46.alloc (.cells #[.int .i64 st] 3)) w46.heap.size 3 1 i1 (some ⟨w46.heap.size, 0, none⟩) 1 [st] := OwnL.lit (P := Try.prog) (base := w46.heap.size) enci1 w46 3 [st] #[.int .i64 st] (Nat.le_refl _) (by simp [maxLen]) rfl
  have S48 := S46.md0 mc
  have hb48 : ∀ b ∈ [n3, n2, n1], b < (w46.alloc (.cells #[.int .i64 st] 3)).heap.size := S48.lt
  have hin : ∀ x ∈ [st], 0 ≤ x ∧ x < l.length := by simp; omega
  refine (f167_ok st l pa _ pc 1 _ [st] _ (hr34.md S48.S.md) olc hok hlen (by simp) hin).call S48.lt ?_
  rintro v w50 ⟨A, C, rfl, own⟩ m50
  have S50 := S48.md0 m50
  have hdl : (dst l [st]).length = l.length := (dst_ok hok hin).1
  refine opL_in <| (f169_ok (dst l [st]) A C _ (by omega) w50 own).call S50.lt ?_
  rintro v w55 rfl m55
  have S55 := S50.md0 m55
  refine opStr_in ?_
  refine S55.placeU (dst l [st]) A C _ (own.md m55) S48.S.md.size hb48 (by simp) (by simp) ?_
  intro x60 b61 a' c' B' w58 S58 hcase
  obtain ⟨rfl, rfl, rfl⟩ : b61 = true ∧ B' = [⟨A, C, dst l [st]⟩] ∧ x60 = 0 := by
    rcases hcase with ⟨_, _, k, h1, _⟩ | ⟨h1, h2, _, h3⟩
    · simp [idxB] at h1
    · exact ⟨h1, by simpa using h2, by simpa using h3⟩
  have Sq := S58.md0 (Md_drew w58)
  have hrow : ∀ {L : List Nat} {w' : World} {n m : Nat} {a na ta : Option Addr} {c nc tc : Nat} {nx tg : List Int}, Ls L w34 w' n m a c [⟨A, C, dst l [st]⟩] na nc nx ta tc tg → RowAt w' A 1 bE (dst l [st]) := fun h => (h.S.rows ⟨A, C, dst l [st]⟩ (by simp)).row encbE
  have call170 := fun {L : List Nat} {w' : World} {n m : Nat} {a na ta : Option Addr} {c nc tc : Nat} {nx tg : List Int} (h : Ls L w34 w' n m a c [⟨A, C, dst l [st]⟩] na nc nx ta tc tg) {K : Value → World → Prop} (hk : ∀ v w'', v = .int .i64 (tagF (dst l [st]) l (-1)) → Md [] w' w'' → K v w'') =>
    (f170_ok st l pa A pc C (dst l [st]) w' (hr34.md h.S.md) (hrow h) hdl hlen).call h.lt (K := K) hk
  have h0 : Md [] w w34 := g34.1
  have loop := fun {n69 n m nt : Nat} {a0 : Option Addr} {c0 : Nat} {w' : World} (hn69 : w34.heap.size ≤ n69) (S : Ls [n69, n3, n2, n1] w34 w' n m a0 c0 [⟨A, C, dst l [st]⟩] none 0 [] (some ⟨nt, 0, none⟩) 1 [tagF (dst l [st]) l (-1)]) =>
    l67_ok (p0 := ⟨A, C, dst l [st]⟩) st l pa pc fa c.firsts c.m most hr34 hok hlen hF (firsts_lt c) (by omega) hm1 hm2 h0 hn3 hn69 hdl S
      (R := fun v w' => DmOut w w' (match dAll l most.toNat c.firsts (most.toNat + 1) 0 ([dst l [st]], []) with | none => ((0, [], []), 40) | some p => ((c.m, p.2, tagL l p.1), 0)) v)
      (fun e w' hm => by simp only at e; rw [e]; exact DmOut.err 40 hm)
      (fun p na nc ta tc w' e o1 o2 ap hm => by simp only at e; rw [e]; exact ⟨⟨na, nc, ta, tc, rfl, o1.down h0.size, o2.down h0.size, ap⟩, hm⟩)
  rw [hfl] at loop
  have lo58 : ∀ {w' : World}, Md [] w34 w' → ∀ n, w'.heap.size ≤ n → w34.heap.size ≤ n := fun hm n hn => by have := hm.size; omega
  refine BdO_in hc.many <| opI_in ⟨?_, ?_⟩
  · refine call170 Sq fun v w65 e m65 => ?_
    subst e
    have S65 := Sq.md0 m65
    refine opI_in ⟨Nw_i ?_, ?_⟩
    · intro n69 hn69 w70 m70 hL70 w71 m71 hL71
      have S70 := (S65.lit (tagF (dst l [st]) l (-1))).name hn69 m70 hL70
      have hlo := lo58 (S65.lit (tagF (dst l [st]) l (-1))).S.md n69 hn69
      exact loop hlo (S70.mdL (by simp) hlo m71)
    · intro n69 hn69 w70 m70 hL70
      have hlo := lo58 S65.S.md n69 hn69
      have S70 := (S65.name hn69 m70 hL70).lit (tagF (dst l [st]) l (-1))
      exact Nw_i fun w71 m71 hL71 => loop hlo (S70.mdL (by simp) hlo m71)
  · intro n69 hn69 w70 m70 hL70
    have hlo := lo58 Sq.S.md n69 hn69
    refine call170 (Sq.name hn69 m70 hL70) fun v w65 e m65 => ?_
    subst e
    have S70 := ((Sq.name hn69 m70 hL70).md0 m65).lit (tagF (dst l [st]) l (-1))
    exact opI_in <| Nw_i fun w71 m71 hL71 => loop hlo (S70.mdL (by simp) hlo m71)
end Fk
set_option linter.unusedVariables false
set_option linter.unusedSimpArgs false
set_option maxRecDepth 100000
set_option maxHeartbeats 4000000
namespace Fk
open Go Go.Proofs Go.RowKit
def dNext (dm : Int) (nx : List Int) (at' x : Int) : Int := if 0 ≤ at' then nx.getD (at' * dm + x).toNat (-1) else at'
def dTag (tg : List Int) (a : Int) : Int := if 0 ≤ a then tg.getD a.toNat (-1) else -1
structure DrOk (dm : Int) (nx tg : List Int) : Prop where
  m1 : 1 ≤ dm
  m2 : dm ≤ 256
  t1 : 1 ≤ tg.length
  t2 : tg.length ≤ 5000
  nl : (nx.length : Int) = dm * tg.length
  tag : ∀ x ∈ tg, -1 ≤ x ∧ x < 200
  nxt : ∀ x ∈ nx, -1 ≤ x ∧ x < tg.length
theorem drOk {dm : Int} {nx tg : List Int} (h : dRight dm nx tg = true) : DrOk dm nx tg := by
  simp only [dRight, Bool.and_eq_true, decide_eq_true_eq, List.all_eq_true] at h
  exact ⟨h.1.1.1, h.1.1.2.1, h.1.1.2.2.1, h.1.1.2.2.2.1, h.1.1.2.2.2.2, h.1.2, h.2⟩
theorem DrOk.ix {dm : Int} {nx tg : List Int} (h : DrOk dm nx tg) {a x : Int} (h1 : 0 ≤ a) (h2 : a < tg.length) (h3 : 0 ≤ x) (h4 : x < dm) : 0 ≤ a * dm + x ∧ a * dm + x < nx.length ∧ a * dm ≤ 2000000 ∧ 0 ≤ a * dm := by
  have hm1 := h.m1
  have hm2 := h.m2
  have ht2 := h.t2
  have e1 : 0 ≤ a * dm := Int.mul_nonneg h1 (by omega)
  have e2 : (a + 1) * dm ≤ tg.length * dm := Int.mul_le_mul_of_nonneg_right (by omega) (by omega)
  have e3 : (a + 1) * dm = a * dm + dm := by rw [Int.add_mul, Int.one_mul]
  have e4 : (tg.length : Int) * dm = dm * tg.length := Int.mul_comm _ _
  have e5 : dm * (tg.length : Int) ≤ 256 * 5000 := Int.mul_le_mul hm2 (by omega) (by omega) (by omega)
  have := h.nl
  omega
theorem DrOk.next {dm : Int} {nx tg : List Int} (h : DrOk dm nx tg) {a x : Int} (h2 : a < tg.length) (h3 : 0 ≤ x) (h4 : x < dm) : dNext dm nx a x < tg.length := by
  unfold dNext
  split
  · rename_i h1
    obtain ⟨q1, q2, _⟩ := h.ix h1 h2 h3 h4
    have hlt : (a * dm + x).toNat < nx.length := by omega
    rw [List.getD_eq_getElem?_getD, List.getElem?_eq_getElem hlt]
    exact (h.nxt _ (List.getElem_mem hlt)).2
  · exact h2
end Fk
set_option linter.unusedVariables false
set_option linter.unusedSimpArgs false
set_option maxRecDepth 100000
set_option maxHeartbeats 4000000
namespace Fk
open Go Go.Proofs Go.RowKit
structure Lr (L : List Nat) (wb w : World) (a : Option Addr) (c : Nat) (B : List Rb) (na : Option Addr) (nc : Nat) (nx : List Int) (ta : Option Addr) (tc : Nat) (tg : List Int) : Prop where
  md : Md [] wb w
  own : OwnL w wb.heap.size 222 1 rbE a c B
  rows : ∀ p ∈ B, OwnL w wb.heap.size 4 1 bE p.a p.c p.N
  nx : OwnL w wb.heap.size 3 1 i1 na nc nx
  tg : OwnL w wb.heap.size 3 1 i1 ta tc tg
  ap : Apt na ta
  lt : ∀ b ∈ L, b < w.heap.size
  l0 : ∀ b ∈ L, ∀ A, a = some A → A.block ≠ b
  l1 : ∀ b ∈ L, ∀ A, na = some A → A.block ≠ b
  l2 : ∀ b ∈ L, ∀ A, ta = some A → A.block ≠ b
  l3 : ∀ p ∈ B, ∀ A, p.a = some A → ∀ b ∈ L, A.block ≠ b
section
variable {L : List Nat} {wb w w' : World} {c nc tc : Nat} {a na ta : Option Addr} {B : List Rb} {nx tg : List Int}
theorem Lr.md0 (h : Lr L wb w a c B na nc nx ta tc tg) (hm : Md [] w w') : Lr L wb w' a c B na nc nx ta tc tg :=
  ⟨h.md.trans hm, h.own.md hm, fun p hp => (h.rows p hp).md hm, h.nx.md hm, h.tg.md hm, h.ap, fun b hb => Nat.lt_of_lt_of_le (h.lt b hb) hm.size, h.l0, h.l1, h.l2, h.l3⟩
theorem Lr.mdL {n0 : Nat} (h : Lr L wb w a c B na nc nx ta tc tg) (h0 : n0 ∈ L) (hlo : wb.heap.size ≤ n0) (hm : Md [n0] w w') : Lr L wb w' a c B na nc nx ta tc tg :=
  ⟨h.md.old hm (by simp; exact hlo), h.own.mdD hm (fun A hA => by simp; exact h.l0 n0 h0 A hA), fun p hp => (h.rows p hp).mdD hm (fun A hA => by simp; exact h.l3 p hp A hA n0 h0), h.nx.mdD hm (fun A hA => by simp; exact h.l1 n0 h0 A hA), h.tg.mdD hm (fun A hA => by simp; exact h.l2 n0 h0 A hA), h.ap, fun b hb => Nat.lt_of_lt_of_le (h.lt b hb) hm.size, h.l0, h.l1, h.l2, h.l3⟩
theorem Lr.mdI {b0 c2 : Nat} {x : Option Addr} {xs : List Int} (h : Lr L wb w a c B na nc nx ta tc tg) (o : OwnL w b0 3 1 i1 x c2 xs) (hlo : wb.heap.size ≤ b0) (hm : Md (x.map (·.block)).toList w w') : Md [] wb w' ∧ OwnL w' wb.heap.size 222 1 rbE a c B ∧ ∀ p ∈ B, OwnL w' wb.heap.size 4 1 bE p.a p.c p.N := by
  refine ⟨h.md.old hm (fun d hd => ?_), h.own.mdD hm (fun A hA hd => ?_), fun p hp => (h.rows p hp).mdD hm (fun A hA hd => ?_)⟩
  · obtain ⟨A, hA, e⟩ := mem_blk hd; have := (o.lt hA).1; omega
  · obtain ⟨X, hX, e⟩ := mem_blk hd; exact own_apt2 o h.own (by decide) X A hX hA e
  · obtain ⟨X, hX, e⟩ := mem_blk hd; exact own_apt2 o (h.rows p hp) (by decide) X A hX hA e
theorem Lr.addN {n0 : Nat} (h : Lr L wb w a c B na nc nx ta tc tg) (h0 : n0 ∈ L) (hlo : wb.heap.size ≤ n0) (x : Int) (hl : nx.length < 2 ^ 30) {K : Option Addr → Nat → Nat → World → Prop}
    (kk : ∀ na' nc' w', Lr L wb w' a c B na' nc' (nx ++ [x]) ta tc tg → K na' (nx ++ [x]).length nc' w') :
    Nw (.cells #[.int .i64 x] 3) w fun b w' => RunW Try.prog L (Builtin.append_ #[52, 52] 52 #[.slice na nx.length nc, .slice (some (Addr.mk b 0 none)) 1 1]) (fun v w'' => opL v fun a' n' c' => Up [n0] L w'' fun w3 => K a' n' c' w3) w' := by
  refine app_one rowT52 enci1 x rfl h.nx h.md.size h.lt h.l1 (by simp [maxLen]; omega) (by omega) fun a' c' w' o hm hA => opL_in fun w3 h3 _ => kk a' c' w3 ?_
  obtain ⟨m', o', r'⟩ := h.mdI h.nx (Nat.le_refl _) hm
  obtain ⟨t', ap'⟩ := own_keep h.tg hm hA h.ap
  exact Lr.mdL ⟨m', o', r', o, t', ap', fun b hb => Nat.lt_of_lt_of_le (h.lt b hb) hm.size, h.l0, fun b hb A hA' => by
    rcases hA A hA' with h1 | h1
    · exact h.l1 b hb A h1
    · have := h.lt b hb; omega, h.l2, h.l3⟩ h0 hlo h3
theorem Lr.addT {n0 : Nat} (h : Lr L wb w a c B na nc nx ta tc tg) (h0 : n0 ∈ L) (hlo : wb.heap.size ≤ n0) (x : Int) (hl : tg.length < 2 ^ 30) {K : Option Addr → Nat → Nat → World → Prop}
    (kk : ∀ ta' tc' w', Lr L wb w' a c B na nc nx ta' tc' (tg ++ [x]) → K ta' (tg ++ [x]).length tc' w') :
    Nw (.cells #[.int .i64 x] 3) w fun b w' => RunW Try.prog L (Builtin.append_ #[52, 52] 52 #[.slice ta tg.length tc, .slice (some (Addr.mk b 0 none)) 1 1]) (fun v w'' => opL v fun a' n' c' => Up [n0] L w'' fun w3 => K a' n' c' w3) w' := by
  refine app_one rowT52 enci1 x rfl h.tg h.md.size h.lt h.l2 (by simp [maxLen]; omega) (by omega) fun a' c' w' o hm hA => opL_in fun w3 h3 _ => kk a' c' w3 ?_
  obtain ⟨m', o', r'⟩ := h.mdI h.tg (Nat.le_refl _) hm
  obtain ⟨t', ap'⟩ := own_keep h.nx hm hA h.ap.symm
  exact Lr.mdL ⟨m', o', r', t', o, ap'.symm, fun b hb => Nat.lt_of_lt_of_le (h.lt b hb) hm.size, h.l0, h.l1, fun b hb A hA' => by
    rcases hA A hA' with h1 | h1
    · exact h.l2 b hb A h1
    · have := h.lt b hb; omega, h.l3⟩ h0 hlo h3
end
end Fk
set_option linter.unusedVariables false
set_option linter.unusedSimpArgs false
namespace Fk
open Go Go.Proofs Go.RowKit
def cntK (k : Int) (n s : Nat) : Nat := (if k = 1 ∨ k = 4 then 1 else if k = 3 then n - 1 else 0) + s
/-- How many states trees make. -/
def Fo.cnt : Fo → Nat
  | .nil => 0
  | .cons k _ _ _ _ q r => cntK k q.len q.cnt + r.cnt
def Fo.cnt1 : Fo → Nat
  | .nil => 0
  | .cons k _ _ _ _ q r => cntK k q.len q.cnt
theorem len_zero : ∀ {f : Fo}, f.len = 0 → f = .nil
  | .nil, _ => rfl
  | .cons _ _ _ _ _ _ r, h => by simp [Fo.len] at h
theorem nodeOk_inv {k : Int} {z : Bool} {n : Nat} (h : nodeOk k z n = true) : (k = 0 ∧ n = 0 ∧ z = true) ∨ (k = 1 ∧ n = 0 ∧ z = false) ∨ (k = 2 ∧ 2 ≤ n ∧ z = true) ∨ (k = 3 ∧ 2 ≤ n ∧ z = true) ∨ (k = 4 ∧ n = 1 ∧ z = true) := by
  unfold nodeOk at h
  cases z <;> simp at h ⊢ <;> omega
theorem mst_min (most : Nat) (l : List Ns) (x : Ns) (h : l.length ≤ most + 1) : (mst most l x).length = min (l.length + 1) (most + 1) := by
  unfold mst
  split
  · simp; omega
  · omega
theorem tw_min (most : Nat) : ∀ f : Fo, f.right = true →
    (∀ p : List Ns × Int, p.1.length ≤ most + 1 → ((tw most f).cat p).1.length = min (p.1.length + f.cnt) (most + 1)) ∧
    (∀ (to : Int) (l : List Ns), l.length ≤ most + 1 → ((tw most f).alt to l).1.length = min (l.length + (f.cnt + (f.len - 1))) (most + 1) ∧ (((tw most f).alt to l).2 = none ↔ f.len = 0)) ∧
    (∀ p : List Ns × Int, p.1.length ≤ most + 1 → ((tw most f).one p).1.length = min (p.1.length + f.cnt1) (most + 1))
  | .nil, _ => by
    refine ⟨fun p h => ?_, fun to l h => ⟨?_, by simp [tw, Fo.len]⟩, fun p h => ?_⟩
    · show p.1.length = _; simp [Fo.cnt]; omega
    · show l.length = _; simp [Fo.cnt, Fo.len]; omega
    · show p.1.length = _; simp [Fo.cnt1]; omega
  | .cons k a b c d q r, hr => by
    simp only [Fo.right, Bool.and_eq_true] at hr
    obtain ⟨q1, q2, q3⟩ := tw_min most q hr.1.2
    obtain ⟨r1, r2, r3⟩ := tw_min most r hr.2
    have hn := nodeOk_inv hr.1.1
    have one : ∀ p : List Ns × Int, p.1.length ≤ most + 1 → (twOne most k a b c d (tw most q) p).1.length = min (p.1.length + cntK k q.len q.cnt) (most + 1) := by
      intro p hp
      unfold twOne
      split
      · omega
      · rename_i hfull
        rcases hn with ⟨rfl, h2, _⟩ | ⟨rfl, h2, _⟩ | ⟨rfl, h2, _⟩ | ⟨rfl, h2, _⟩ | ⟨rfl, h2, _⟩
        · have := len_zero h2; subst this
          simp [cntK, Fo.cnt]; omega
        · have := len_zero h2; subst this
          simp only [if_true, cntK, Fo.cnt]
          have := mst_min most p.1 ⟨1, a, b, c, d, p.2, 0, 0⟩ hp
          simpa [pst] using this
        · simp [cntK]; have := q1 p hp; simpa using this
        · simp [cntK]
          rw [(q2 p.2 p.1 hp).1]
          omega
        · have hq : q.cnt1 = q.cnt := by
            cases q with
            | nil => simp [Fo.len] at h2
            | cons k' a' b' c' d' q' r' =>
              have hr' : r' = .nil := len_zero (by simp [Fo.len] at h2; omega)
              subst hr'
              simp [Fo.cnt, Fo.cnt1]
          simp [cntK, setA_len]
          have h1 := mst_min most p.1 (spl 0 p.2) hp
          have h3 := q3 (pst most p.1 (spl 0 p.2)) (by simp only [pst]; omega)
          simp only [pst] at h3 ⊢
          rw [h3, h1, hq]
          omega
    refine ⟨fun p hp => ?_, fun to l hl => ⟨?_, ?_⟩, fun p hp => one p hp⟩
    · have h1 := r1 p hp
      have h2 := one ((tw most r).cat p) (by omega)
      show (twOne most k a b c d (tw most q) ((tw most r).cat p)).1.length = _
      rw [h2, h1]
      simp only [Fo.cnt]
      omega
    · have h1 := r2 to l hl
      have h2 := one (((tw most r).alt to l).1, to) (by simp only; omega)
      simp only at h2
      show (twAlt most _ _ to l).1.length = _
      unfold twAlt
      simp only [Fo.cnt, Fo.len]
      cases hq : ((tw most r).alt to l).2 with
      | none =>
        have := h1.2.1 hq
        have hrn := len_zero this
        subst hrn
        simp only
        rw [h2, h1.1]
        simp [Fo.len, Fo.cnt]; omega
      | some at' =>
        have : ¬ r.len = 0 := fun h => by rw [h1.2.2 h] at hq; cases hq
        simp only
        have h3 := mst_min most (twOne most k a b c d (tw most q) (((tw most r).alt to l).1, to)).1 (spl (twOne most k a b c d (tw most q) (((tw most r).alt to l).1, to)).2 at') (by omega)
        show (mst most _ _).length = _
        rw [h3, h2, h1.1]
        omega
    · show (twAlt most _ _ to l).2 = none ↔ _
      unfold twAlt
      simp only [Fo.len]
      cases ((tw most r).alt to l).2 <;> simp
theorem mst_agree {most M : Nat} {l : List Ns} (x : Ns) (h : l.length ≤ most) (hM : most ≤ M) : mst most l x = mst M l x := by
  unfold mst
  rw [if_pos h, if_pos (by omega)]
/-- Where the cap is not met it does not matter. -/
theorem tw_agree {most M : Nat} (hM : most ≤ M) : ∀ f : Fo, f.right = true →
    (∀ p : List Ns × Int, p.1.length + f.cnt ≤ most → (tw most f).cat p = (tw M f).cat p) ∧
    (∀ (to : Int) (l : List Ns), l.length + (f.cnt + (f.len - 1)) ≤ most → (tw most f).alt to l = (tw M f).alt to l) ∧
    (∀ p : List Ns × Int, p.1.length + f.cnt1 ≤ most → (tw most f).one p = (tw M f).one p)
  | .nil, _ => ⟨fun p h => rfl, fun to l h => rfl, fun p h => rfl⟩
  | .cons k a b c d q r, hr => by
    have hr0 := hr
    simp only [Fo.right, Bool.and_eq_true] at hr
    obtain ⟨q1, q2, q3⟩ := tw_agree hM q hr.1.2
    obtain ⟨r1, r2, r3⟩ := tw_agree hM r hr.2
    have hn := nodeOk_inv hr.1.1
    have one : ∀ p : List Ns × Int, p.1.length + cntK k q.len q.cnt ≤ most → twOne most k a b c d (tw most q) p = twOne M k a b c d (tw M q) p := by
      intro p hp
      unfold twOne
      rw [if_neg (show ¬ p.1.length > most by omega), if_neg (show ¬ p.1.length > M by omega)]
      rcases hn with ⟨rfl, h2, _⟩ | ⟨rfl, h2, _⟩ | ⟨rfl, h2, _⟩ | ⟨rfl, h2, _⟩ | ⟨rfl, h2, _⟩
      · simp
      · simp only [if_true]
        unfold pst
        rw [mst_agree _ (by omega) hM]
      · simp [cntK] at hp ⊢; exact q1 p hp
      · simp [cntK] at hp ⊢
        have := q2 p.2 p.1 (by omega)
        rw [this]
        exact ⟨rfl, rfl⟩
      · have hq : q.cnt1 = q.cnt := by
          cases q with
          | nil => simp [Fo.len] at h2
          | cons k' a' b' c' d' q' r' =>
            have hr' : r' = .nil := len_zero (by simp [Fo.len] at h2; omega)
            subst hr'
            simp [Fo.cnt, Fo.cnt1]
        simp [cntK] at hp ⊢
        have h1 : pst most p.1 (spl 0 p.2) = pst M p.1 (spl 0 p.2) := by unfold pst; rw [mst_agree _ (by omega) hM]
        have h2 := mst_min M p.1 (spl 0 p.2) (by omega)
        rw [h1]
        have h3 := q3 (pst M p.1 (spl 0 p.2)) (by simp only [pst]; omega)
        rw [h3]
        exact ⟨rfl, rfl⟩
    refine ⟨fun p hp => ?_, fun to l hl => ?_, fun p hp => one p hp⟩
    · simp only [Fo.cnt] at hp
      have h1 := (tw_min M r hr.2).1 p (by omega)
      show twOne most k a b c d (tw most q) ((tw most r).cat p) = twOne M k a b c d (tw M q) ((tw M r).cat p)
      rw [r1 p (by omega)]
      exact one _ (by omega)
    · simp only [Fo.cnt, Fo.len] at hl
      have h1 := (tw_min M r hr.2).2.1 to l (by omega)
      show twAlt most _ _ to l = twAlt M _ _ to l
      unfold twAlt
      dsimp only
      rw [r2 to l (by omega)]
      have h2 := one (((tw M r).alt to l).1, to) (by simp only; omega)
      rw [h2]
      have h3 := (tw_min M (.cons k a b c d q r) hr0).2.2 (((tw M r).alt to l).1, to) (by simp only; omega)
      change (twOne M k a b c d (tw M q) (((tw M r).alt to l).1, to)).1.length = _ at h3
      simp only [Fo.cnt1] at h3
      cases hq : ((tw M r).alt to l).2 with
      | none => rfl
      | some at' =>
        have : ¬ r.len = 0 := fun h => by rw [h1.2.2 h] at hq; cases hq
        simp only [pst]
        rw [mst_agree _ (by omega) hM]
end Fk
set_option linter.unusedVariables false
set_option linter.unusedSimpArgs false
set_option maxRecDepth 100000
set_option maxHeartbeats 2000000
namespace Fk
open Go Go.Proofs Go.RowKit
structure RS (w0 w : World) (a : Option Addr) (c : Nat) (l : List Ns) : Prop where
  md : Md [] w0 w
  own : OwnL w w0.heap.size 103 8 nsE a c l
/-- A row of states that one appends to, from a world on. -/
structure Sq (w0 wb : World) (pa : Option Addr) (n1 : Nat) (w : World) (a : Option Addr) (c : Nat) (l : List Ns) : Prop where
  rs : RS w0 w a c l
  md : Md (pa.map (·.block)).toList wb w
  rel : ∀ A, a = some A → pa = some A ∨ wb.heap.size ≤ A.block
  nlt : n1 < wb.heap.size
  np : ∀ A, pa = some A → A.block ≠ n1
section
variable {w0 wb w : World} {pa a : Option Addr} {n1 c : Nat} {l : List Ns}
theorem Sq.ln (S : Sq w0 wb pa n1 w a c l) : ∀ b ∈ [n1], b < w.heap.size := fun b hb => by simp at hb; subst hb; have := S.nlt; have := S.md.size; omega
theorem Sq.la (S : Sq w0 wb pa n1 w a c l) : ∀ b ∈ [n1], ∀ A, a = some A → A.block ≠ b := fun b hb A hA e => by
  simp at hb; subst hb
  rcases S.rel A hA with h | h
  · exact S.np A h e
  · have := S.nlt; omega
theorem Sq.step (S : Sq w0 wb pa n1 w a c l) {w' : World} {a' : Option Addr} {c' : Nat} {l' : List Ns} (h : RS w0 w' a' c' l') (hm : Md (a.map (·.block)).toList w w') (hA : ∀ A, a' = some A → a = some A ∨ w.heap.size ≤ A.block) : Sq w0 wb pa n1 w' a' c' l' :=
  ⟨h, S.md.row hm S.rel, fun A h1 => by
    rcases hA A h1 with h2 | h2
    · exact S.rel A h2
    · have := S.md.size; right; omega, S.nlt, S.np⟩
end
theorem mst_fit {most : Nat} {l : List Ns} {x : Ns} (h : l.length ≤ most) : mst most l x = l ++ [x] := by unfold mst; rw [if_pos h]
theorem pst_fit {most : Nat} {l : List Ns} {x : Ns} (h : l.length ≤ most) : pst most l x = (l ++ [x], (l.length : Int)) := by unfold pst; rw [mst_fit h]; simp
theorem twOne_len_fit {k a b c d : Int} {q : Fo} (hn : nodeOk k (z4 a b c d) q.len = true) (hq : q.right = true) (p : List Ns × Int) (h : p.1.length + cntK k q.len q.cnt ≤ 20000) : (twOne 20000 k a b c d (tw 20000 q) p).1.length = p.1.length + cntK k q.len q.cnt := by
  have h1 := (tw_min 20000 (.cons k a b c d q .nil) (by simp [Fo.right, hn, hq])).2.2 p (by omega)
  change (twOne 20000 k a b c d (tw 20000 q) p).1.length = _ at h1
  rw [h1]
  simp only [Fo.cnt1]
  omega
end Fk
