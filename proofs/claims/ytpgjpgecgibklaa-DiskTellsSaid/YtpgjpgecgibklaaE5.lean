/- Disks: their calls met, what an operation does, disks that were played. -/
import Derived.Test.YtpgjpgecgibklaaE4
set_option linter.unusedVariables false
set_option linter.unusedSimpArgs false
set_option maxRecDepth 100000
namespace Fk
open Go Go.Proofs Go.RowKit
/-- A disk that was made since w0, no more was turned. -/
structure DS (w0 w : World) (n : Nat) (d : Dk) (F : List Nat) : Prop where
  dk : Dsk w n d F
  md : Md [] w0 w
  lo : ∀ b ∈ F, w0.heap.size ≤ b
/-- Blocks that are there, and are none of the disk's. -/
def LF (L : List Nat) (w : World) (F : List Nat) : Prop := ∀ b ∈ L, b < w.heap.size ∧ b ∉ F
theorem LF.nil (w : World) (F : List Nat) : LF [] w F := fun b hb => by cases hb
theorem LF.fr {L F F' : List Nat} {w w' : World} (h : LF L w F) (hf : Fr w F F') (hs : w.heap.size ≤ w'.heap.size) : LF L w' F' := fun b hb => by
  obtain ⟨h1, h2⟩ := h b hb
  refine ⟨by omega, fun hm => ?_⟩
  rcases hf b hm with h3 | h3
  · exact h2 h3
  · omega
theorem LF.md {L F : List Nat} {w w' : World} (h : LF L w F) (hs : w.heap.size ≤ w'.heap.size) : LF L w' F := fun b hb => ⟨by have := (h b hb).1; omega, (h b hb).2⟩
theorem LF.swap {L F : List Nat} {w : World} (h : LF L w F) (hF : ∀ b ∈ F, b < w.heap.size) : LF F w L := fun b hb => ⟨hF b hb, fun hm => (h b hm).2 hb⟩
theorem Fr.sub {w : World} {F F' : List Nat} (h : ∀ b ∈ F', b ∈ F) : Fr w F F' := fun b hb => .inl (h b hb)
section
variable {w0 w : World} {n : Nat} {d : Dk} {F L : List Nat}
theorem DS.step {w' : World} {d' : Dk} {F' : List Nat} (S : DS w0 w n d F) (h : Dsk w' n d' F') (hm : Md F w w') (hf : Fr w F F') : DS w0 w' n d' F' :=
  ⟨h, S.md.old hm S.lo, fun b hb => by rcases hf b hb with h | h; exact S.lo b h; have := S.md.size; omega⟩
theorem DS.md0 {w' : World} (S : DS w0 w n d F) (hm : Md [] w w') : DS w0 w' n d F := ⟨S.dk.md0 hm, S.md.trans hm, S.lo⟩
theorem DS.drew (S : DS w0 w n d F) : DS w0 w.drew n d F := S.md0 (Md_drew w)
theorem DS.other {w' : World} {G : List Nat} (S : DS w0 w n d F) (hm : Md G w w') (hG : LF F w G) (hg : ∀ b ∈ G, w0.heap.size ≤ b) : DS w0 w' n d F :=
  ⟨S.dk.md hm fun b hb => (hG b hb).2, S.md.old hm hg, S.lo⟩
theorem in114 (S : DS w0 w n d F) (hL : LF L w F) (i : Int) {a : Option Addr} {c m : Nat} {b : List Nat} (hm : m = b.length) (hbb : ∀ x ∈ b, x < 256) (hbl : b.length < 2 ^ 40) (hpd : d.pd.length < 2 ^ 30) (hr : RowAt w a 1 b1 b) (hab : ∀ A, a = some A → A.block ∉ F) {K : Int → World → Prop}
    (k : ∀ F' w', DS w0 w' n (d.write i b).1 F' → Md F w w' → Fr w F F' → LF L w' F' → K (d.write i b).2 w') :
    CallW Try.prog L 114 #[.pointer (some ⟨n, 0, none⟩), .int .i64 i, .slice a m c] (fun v w' => opI .i64 v fun x => K x w') w := by
  subst hm
  refine (f114_ok n d F i a c b hbb hbl hpd w S.dk hr hab).callD (fun b hb => (hL b hb).1) (fun b hb => (hL b hb).2) ?_
  rintro v w' ⟨rfl, F', h1, h2⟩ h'
  exact opI_in (k F' w' (S.step h1 h' h2) h' h2 (hL.fr h2 h'.size))
theorem in106 (S : DS w0 w n d F) (hL : LF L w F) (keep torn : Int) (hpd : d.pd.length < 2 ^ 30) {K : World → Prop}
    (k : ∀ F' w', DS w0 w' n (d.crash keep torn) F' → Md F w w' → Fr w F F' → LF L w' F' → K w') :
    CallW Try.prog L 106 #[.pointer (some ⟨n, 0, none⟩), .int .i64 keep, .int .i64 torn] (fun v w' => opTu v fun cs => SzIs (Array.size cs) 0 (K w')) w := by
  refine (f106_ok n d F keep torn (by omega) w S.dk).callD (fun b hb => (hL b hb).1) (fun b hb => (hL b hb).2) ?_
  rintro v w' ⟨rfl, F', h1, h2⟩ h'
  exact opTu_in <| SzIs_in rfl (k F' w' (S.step h1 h' (Fr.sub h2)) h' (Fr.sub h2) (hL.fr (Fr.sub h2) h'.size))
theorem in102 (S : DS w0 w n d F) (hL : LF L w F) (x : Int) (hx : x ≤ 9223372036854775807) {K : World → Prop} (k : ∀ w', DS w0 w' n (d.arm x) F → Md F w w' → LF L w' F → K w') :
    CallW Try.prog L 102 #[.pointer (some ⟨n, 0, none⟩), .int .i64 x] (fun v w' => opTu v fun cs => SzIs (Array.size cs) 0 (K w')) w := by
  refine (f102_ok n d F x hx w S.dk).callD (fun b hb => (hL b hb).1) (fun b hb => (hL b hb).2) ?_
  rintro v w' ⟨rfl, h1⟩ h'
  exact opTu_in <| SzIs_in rfl (k w' (S.step h1 h' (Fr.refl _ _)) h' (hL.md h'.size))
theorem in103 (S : DS w0 w n d F) (hL : LF L w F) {K : Int → World → Prop} (k : ∀ F' w', DS w0 w' n d.flush.1 F' → Md F w w' → Fr w F F' → LF L w' F' → K d.flush.2 w') :
    CallW Try.prog L 103 #[.pointer (some ⟨n, 0, none⟩)] (fun v w' => opI .i64 v fun x => K x w') w := by
  refine (f103_ok n d F w S.dk).callD (fun b hb => (hL b hb).1) (fun b hb => (hL b hb).2) ?_
  rintro v w' ⟨rfl, F', h1, h2⟩ h'
  exact opI_in (k F' w' (S.step h1 h' (Fr.sub h2)) h' (Fr.sub h2) (hL.fr (Fr.sub h2) h'.size))
theorem in104' (S : DS w0 w n d F) (hL : ∀ b ∈ L, b < w.heap.size) {K : Option Addr → Nat → Nat → World → Prop}
    (k : ∀ a c w', DS w0 w' n d F → Md [] w w' → OwnL w' w.heap.size 5 1 b1 a c d.all → K a d.all.length c w') :
    CallW Try.prog L 104 #[.pointer (some ⟨n, 0, none⟩)] (fun v w' => opL v fun a n c => K a n c w') w :=
  in104 S.dk hL fun a c w' _ hm ho => k a c w' (S.md0 hm) hm ho
theorem in108 (S : DS w0 w n d F) (hL : ∀ b ∈ L, b < w.heap.size) {K : Int → World → Prop} (k : ∀ w', DS w0 w' n d F → Md [] w w' → K (d.pd.length : Int) w') :
    CallW Try.prog L 108 #[.pointer (some ⟨n, 0, none⟩)] (fun v w' => opI .i64 v fun x => K x w') w := by
  refine (f108_ok n d F w S.dk).call hL ?_
  rintro v w' rfl h'
  exact opI_in (k w' (S.md0 h') h')
theorem in112 (S : DS w0 w n d F) (hL : ∀ b ∈ L, b < w.heap.size) {K : Int → World → Prop} (k : ∀ w', DS w0 w' n d F → Md [] w w' → K (d.bl.length : Int) w') :
    CallW Try.prog L 112 #[.pointer (some ⟨n, 0, none⟩)] (fun v w' => opI .i64 v fun x => K x w') w := by
  refine (f112_ok n d F w S.dk).call hL ?_
  rintro v w' rfl h'
  exact opI_in (k w' (S.md0 h') h')
theorem in109 (hm : Md [] w0 w) (x : Nat) (h1 : 1 ≤ x) (h2 : x ≤ 65536) (hL : ∀ b ∈ L, b < w.heap.size) {K : Option Addr → Int → World → Prop}
    (k : ∀ n F w', DS w0 w' n (newDk x) F → Md [] w w' → (∀ b ∈ F, w.heap.size ≤ b) → K (some ⟨n, 0, none⟩) 0 w') :
    CallW Try.prog L 109 #[.int .i64 x] (fun v w' => opTu v fun cs => opP (nthD (Array.toList cs) 0) fun a => opI .i64 (nthD (Array.toList cs) 1) fun e => SzIs (Array.size cs) 2 (K a e w')) w := by
  refine (f109_ok x w).call hL ?_
  rintro v w' h h'
  rcases h with ⟨_, _, n, F, rfl, hd, hF⟩ | ⟨hno, _⟩
  · rw [Int.toNat_natCast] at hd
    exact opTu_in <| opP_in <| opI_in <| SzIs_in rfl (k n F w' ⟨hd, hm.trans h', fun b hb => by have := hF b hb; have := hm.size; omega⟩ h' hF)
  · exact absurd ⟨by omega, by omega⟩ hno
end
/-! ### Operations -/
structure Op20 where
  k : Nat
  n : Int
  m : Int
  c : Nat
  l : Nat
  u : Bool
def opBytes (c n : Nat) : List Nat := (List.range n).map fun i => (c + i) % 256
theorem opBytes_lt (c n : Nat) : ∀ x ∈ opBytes c n, x < 256 := by
  intro x hx
  obtain ⟨i, _, rfl⟩ := List.mem_map.1 hx
  exact Nat.mod_lt _ (by omega)
theorem opBytes_len (c n : Nat) : (opBytes c n).length = n := by simp [opBytes]
def Op20.bytes (o : Op20) : List Nat := opBytes o.c (if o.u = true then 64 else o.l)
structure Op20.ok (o : Op20) : Prop where
  n : o.n ≤ 9223372036854775807
  c : o.c < 256
  l : o.l < 256
theorem Op20.len {o : Op20} (h : o.ok) : o.bytes.length < 256 := by have := h.l; unfold Op20.bytes; rw [opBytes_len]; split <;> omega
def Op20.v (o : Op20) : Value := .agg #[.int .u8 o.k, .int .i64 o.n, .int .i64 o.m, .int .u8 o.c, .int .u8 o.l, .bool o.u]
theorem f110_ok (o : Op20) (ho : o.ok) (w : World) : Ct Try.prog 110 #[o.v] w fun v w' => (∃ a c C, v = .slice a o.bytes.length c ∧ o.bytes.length ≤ c ∧ OwnL w' w.heap.size 5 1 b1 a C o.bytes) ∧ Md [] w w' := by
  apply f110_in
  intro n1 hn1
  have hl := ho.l
  have hc := ho.c
  refine Bd_e (wrap_byte ho.l) ?_
  have eb : o.bytes = opBytes o.c (if o.u = true then 64 else o.l) := rfl
  rw [eb, opBytes_len]
  generalize hN : (if o.u = true then 64 else o.l) = N
  have hN256 : N < 256 := by rw [← hN]; split <;> omega
  refine Jn_in (fun us vs w' => us = [.int .i64 N] ∧ Md [] w w' ∧ n1 < w'.heap.size) ?_ ?_
  case refine_2 =>
    refine If_in (fun h w27 h27 hL27 => ?_) fun h w27 h27 hL27 => ?_
    · exact ⟨by rw [← hN, if_pos h]; rfl, h27, hL27 n1 (by simp)⟩
    · exact ⟨by rw [← hN, if_neg (by simp [h])], h27, hL27 n1 (by simp)⟩
  rintro us vs w5 ⟨rfl, m5, hl5⟩
  refine opI_in fun n7 w8 e7 e8 => ?_
  subst e7; subst e8
  have hma : Md [] w5 (w5.alloc (.cells #[.int .u8 (o.c : Int)] 5)) := Md.alloc w5 _
  have hrow : RowAt (w5.alloc (.cells #[.int .u8 (o.c : Int)] 5)) (some ⟨w5.heap.size, 0, none⟩) 1 b1 [o.c] := (OwnL.lit (P := Try.prog) (base := w5.heap.size) encb1 w5 5 [o.c] _ (Nat.le_refl _) (by simp [maxLen]) rfl).row encb1
  refine (f193_ok o.c ho.c _ 1 N (by omega) _ hrow).call (fun b hb => by simp at hb; subst hb; simp; omega) ?_
  rintro v w10 ⟨a, c, C, rfl, hNc, hown⟩ h10
  refine opL_in <| Bd_e rfl ?_
  have hsz : w5.heap.size ≤ (w5.alloc (.cells #[.int .u8 (o.c : Int)] 5)).heap.size := hma.size
  have hown' := hown.down hsz
  refine LoopP_in (fun m us vs w' => ∃ (i : Nat) (l : List Nat), us = [.int .i64 i] ∧ m = N - i ∧ i ≤ N ∧ l.length = N ∧ (∀ j x, l[j]? = some x → x = if j < i then (o.c + j) % 256 else o.c) ∧ OwnL w' w5.heap.size 5 1 b1 a C l ∧ Md [] w w') N
    ⟨0, _, rfl, rfl, by omega, by simp, fun j x hx => by simp [List.getElem?_replicate] at hx; simp [hx.2.symm], hown', (m5.trans hma).trans h10⟩ ?_
  rintro m us vs w18 ⟨i, l, rfl, rfl, hi, hll, hlj, ol, m18⟩
  refine opI_in <| Bd_in fun b20 hb20 => If_in (fun h => ?_) fun h => ?_
  · have hi' : i < l.length := by rw [hb20] at h; have : i < N := by simpa using h
                                  omega
    have hix : IxOk (i : Int) N a := by rw [← hll]; exact (ol.row encb1).ix hi'
    have hval := hlj i l[i] (List.getElem?_eq_getElem hi')
    rw [if_neg (by omega)] at hval
    refine ⟨hix, (ol.row encb1).ld1 hi' rfl <| opI_in <| Bd_e (y := (i : Int)) (by rw [IntKind.wrap_u8]; omega) <| Bd_e (y := (((o.c + i) % 256 : Nat) : Int)) (by rw [hval, IntKind.wrap_u8]; omega) ⟨hix, ?_⟩⟩
    obtain ⟨B, hB, hB1, hB2, hB3, hWr, ho', hmd⟩ := ol.put encb1 (by omega) hi' ((o.c + i) % 256)
    refine ⟨by rw [hB3]; simp; omega, hWr, Bd_e (inc_i64 (by omega)) ⟨N - (i + 1), by omega, i + 1, _, rfl, rfl, by omega, by rw [List.length_set, hll], ?_, ho', m18.old hmd (by have := m5.size; simp; omega)⟩⟩
    intro j x hx
    rw [List.getElem?_set] at hx
    by_cases hji : i = j
    · subst hji
      rw [if_pos rfl, if_pos hi'] at hx
      cases hx
      rw [if_pos (by omega)]
    · rw [if_neg hji] at hx
      have := hlj j x hx
      rw [this]
      by_cases h1 : j < i
      · rw [if_pos h1, if_pos (by omega)]
      · rw [if_neg h1, if_neg (by omega)]
  · have hi' : i = N := by rw [hb20] at h; have : ¬ i < N := by simpa using h
                           omega
    subst hi'
    have hle : l = opBytes o.c i := by
      apply List.ext_getElem?
      intro j
      rcases Nat.lt_or_ge j i with hj | hj
      · have := hlj j l[j] (List.getElem?_eq_getElem (by omega))
        rw [if_pos hj] at this
        rw [List.getElem?_eq_getElem (by omega), this]
        simp [opBytes, hj]
      · rw [List.getElem?_eq_none (by omega), List.getElem?_eq_none (by rw [opBytes_len]; exact hj)]
    rw [hle] at ol
    exact ⟨⟨a, c, C, rfl, hNc, ol.down m5.size⟩, m18⟩
def Dk.does (d : Dk) (o : Op20) : Dk × Int :=
  if o.k = 1 then d.write o.n o.bytes else if o.k = 2 then d.flush else if o.k = 3 then (d.arm o.n, 0) else if o.k = 4 then (d.crash o.n o.m, 0) else (d, 0)
theorem f105_ok (n : Nat) (d : Dk) (F : List Nat) (o : Op20) (ho : o.ok) (hpd : d.pd.length < 2 ^ 30) (w : World) (h : Dsk w n d F) :
    Ct Try.prog 105 #[.pointer (some ⟨n, 0, none⟩), o.v] w fun v w' => (v = .int .i64 (d.does o).2 ∧ ∃ F', Dsk w' n (d.does o).1 F' ∧ Fr w F F') ∧ Md F w w' := by
  apply f105_in
  intro n1 hn1
  have hn1F : ∀ {w'}, w.heap.size ≤ w'.heap.size → n1 < w'.heap.size → LF [n1] w' F := by
    intro w' _ hlt b hb
    simp at hb; subst hb
    exact ⟨hlt, fun hm => by have := h.lt _ hm; omega⟩
  have frw : ∀ {w' : World} {F' : List Nat}, Md [] w w' → Fr w' F F' → Fr w F F' := fun hm hf b hb => (hf b hb).imp id fun h => by have := hm.size; omega
  refine Jn_in (fun us vs w' => (d.does o).2 = 0 ∧ (∃ b6 b7 b8 : Bool, us = [.int .i64 0, .bool b6, .bool b7, .bool b8]) ∧ (∃ F', Dsk w' n (d.does o).1 F' ∧ Fr w F F') ∧ Md F w w') ?_ ?_
  · rintro us vs w4 ⟨h0, ⟨b6, b7, b8, rfl⟩, hD, hm⟩
    exact opI_in <| opB_in <| opB_in <| opB_in ⟨⟨by rw [h0], hD⟩, hm⟩
  refine Bd_in fun b10 hb10 => If_in (fun h1 => ?_) fun h1 => ?_
  · have hk : o.k = 1 := by rw [hb10] at h1; have : (o.k : Int) = 1 := by simpa using h1
                            omega
    have ed : d.does o = d.write o.n o.bytes := by unfold Dk.does; rw [if_pos hk]
    rw [ed]
    refine Jn_in (fun us vs w' => us = [.int .i64 (d.write o.n o.bytes).2] ∧ (∃ F', Dsk w' n (d.write o.n o.bytes).1 F' ∧ Fr w F F') ∧ Md F w w') ?_ fun w16 h16 hL16 => ⟨fun _ => True, trivial, ?_⟩
    · rintro us vs w13 ⟨rfl, hD, hm⟩
      exact opI_in ⟨⟨rfl, hD⟩, hm⟩
    have m16 : Md [] w w16.drew := h16.trans (Md_drew _)
    refine (f110_ok o ho w16.drew).call hL16 ?_
    rintro v w19 ⟨a, c, C, rfl, hc, hown⟩ h19
    have m19 := m16.trans h19
    have hlen := Op20.len ho
    refine opL_in ⟨trivial, ?_⟩
    have hlf : LF [n1] w19 F := hn1F m19.size (by have := hL16 n1 (by simp); have := h19.size; exact Nat.lt_of_lt_of_le ‹_› ‹w16.drew.heap.size ≤ _›)
    refine (f114_ok n d F o.n a c o.bytes (opBytes_lt _ _) (by omega) hpd w19 (h.md0 m19) (hown.row encb1) (fun A hA hm => by have := (hown.lt hA).1; have := h.lt _ hm; have := m16.size; omega)).callD (fun b hb => (hlf b hb).1) (fun b hb => (hlf b hb).2) ?_
    rintro v w24 ⟨rfl, F', hd, hf⟩ h24
    exact opI_in ⟨trivial, rfl, ⟨F', hd, frw m19 hf⟩, (m19.mono (by simp)).trans h24⟩
  have hk1 : o.k ≠ 1 := by rw [hb10] at h1; have : ¬ (o.k : Int) = 1 := by simpa using h1
                           omega
  refine Bd_in fun b26 hb26 => If_in (fun h2 w27 h27 hL27 => ?_) fun h2 => ?_
  · have hk : o.k = 2 := by rw [hb26] at h2; have : (o.k : Int) = 2 := by simpa using h2
                            omega
    have ed : d.does o = d.flush := by unfold Dk.does; rw [if_neg hk1, if_pos hk]
    rw [ed]
    have hlf := hn1F h27.size (hL27 n1 (by simp))
    refine (f103_ok n d F w27 (h.md0 h27)).callD (fun b hb => (hlf b hb).1) (fun b hb => (hlf b hb).2) ?_
    rintro v w29 ⟨rfl, F', hd, hf⟩ h29
    exact opI_in ⟨⟨rfl, F', hd, Fr.sub hf⟩, (h27.mono (by simp)).trans h29⟩
  have hk2 : o.k ≠ 2 := by rw [hb26] at h2; have : ¬ (o.k : Int) = 2 := by simpa using h2
                           omega
  refine Bd_in fun b31 hb31 => If_in (fun h3 w32 h32 hL32 => ?_) fun h3 => ?_
  · have hk : o.k = 3 := by rw [hb31] at h3; have : (o.k : Int) = 3 := by simpa using h3
                            omega
    have ed : d.does o = (d.arm o.n, 0) := by unfold Dk.does; rw [if_neg hk1, if_neg hk2, if_pos hk]
    rw [ed]
    have hlf := hn1F h32.size (hL32 n1 (by simp))
    refine (f102_ok n d F o.n ho.n w32 (h.md0 h32)).callD (fun b hb => (hlf b hb).1) (fun b hb => (hlf b hb).2) ?_
    rintro v w34 ⟨rfl, hd⟩ h34
    exact opTu_in <| SzIs_in rfl ⟨rfl, ⟨_, _, _, rfl⟩, ⟨F, hd, Fr.refl _ _⟩, (h32.mono (by simp)).trans h34⟩
  have hk3 : o.k ≠ 3 := by rw [hb31] at h3; have : ¬ (o.k : Int) = 3 := by simpa using h3
                           omega
  refine Bd_in fun b36 hb36 => If_in (fun h4 w37 h37 hL37 => ?_) fun h4 w41 h41 hL41 => ?_
  · have hk : o.k = 4 := by rw [hb36] at h4; have : (o.k : Int) = 4 := by simpa using h4
                            omega
    have ed : d.does o = (d.crash o.n o.m, 0) := by unfold Dk.does; rw [if_neg hk1, if_neg hk2, if_neg hk3, if_pos hk]
    rw [ed]
    have hlf := hn1F h37.size (hL37 n1 (by simp))
    refine (f106_ok n d F o.n o.m (by omega) w37 (h.md0 h37)).callD (fun b hb => (hlf b hb).1) (fun b hb => (hlf b hb).2) ?_
    rintro v w39 ⟨rfl, F', hd, hf⟩ h39
    exact opTu_in <| SzIs_in rfl ⟨rfl, ⟨_, _, _, rfl⟩, ⟨F', hd, Fr.sub hf⟩, (h37.mono (by simp)).trans h39⟩
  · have hk4 : o.k ≠ 4 := by rw [hb36] at h4; have : ¬ (o.k : Int) = 4 := by simpa using h4
                             omega
    have ed : d.does o = (d, 0) := by unfold Dk.does; rw [if_neg hk1, if_neg hk2, if_neg hk3, if_neg hk4]
    rw [ed]
    exact ⟨rfl, ⟨_, _, _, rfl⟩, ⟨F, h.md0 h41, Fr.refl _ _⟩, h41.mono (by simp)⟩
end Fk
