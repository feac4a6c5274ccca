/- Contracts of functions, and plain laws: several texts, joined. -/
import Derived.Test.YtpgjpgecgibklaaGR1
import Derived.Test.YtpgjpgecgibklaaGV0
set_option linter.unusedVariables false
set_option linter.unusedSimpArgs false
set_option linter.unusedSectionVars false
set_option maxRecDepth 100000
set_option maxHeartbeats 1000000
namespace Fk
open Go Go.Proofs Go.RowKit
def P222E (p0 : Option Addr) (n39 : Nat) (n78 : Nat) (J191 : List Value → List Value → World → Prop) (x193 : Int) (w232 : World) (a233 : Option Addr) (n234 : Nat) (n235 : Nat) (x236 : Int) : Prop :=
  LoopP (fun l237 l238 J239 w240 => opI IntKind.i64 (nthD l237 (0 : Nat)) fun x241 => opI IntKind.i64 (nthD l237 (1 : Nat)) fun x242 => Bd (decide (x242 < x236)) fun b243 => If b243 (Jn (fun l244 l245 w246 => opI IntKind.i64 (nthD l244 (0 : Nat)) fun x247 => opI IntKind.i64 (nthD l244 (1 : Nat)) fun x248 => opI IntKind.i64 (nthD l244 (2 : Nat)) fun x249 => Bd (IntKind.wrap IntKind.i64 (x242 + (1 : Int))) fun x250 => J239 [Value.int IntKind.i64 x247, Value.int IntKind.i64 x250] [] w246) fun J251 => IxOk x242 n234 a233 ∧ Ld w240 (adAt a233 x242 (1 : Nat)) fun v252 => opI IntKind.i64 v252 fun x253 => RunW Try.prog [n39] (Instr.lookup (298 : Nat) (Value.map (some n78)) (Value.int IntKind.i64 x193) false) (fun v254 w255 => opM v254 fun a256 => RunW Try.prog [n39] (Instr.lookup (248 : Nat) (Value.map a256) (Value.int IntKind.i64 x253) false) (fun v257 w258 => opI IntKind.i64 v257 fun x259 => Bd (x259 == (1 : Int)) fun b260 => If b260 (Jn (fun l261 l262 w263 => Bd (IntKind.wrap IntKind.i64 (x241 + (1 : Int))) fun x264 => J251 [Value.int IntKind.i64 x264, Value.int IntKind.i64 x242, Value.int IntKind.i64 x253] [] w263) fun J265 => Dr (World.drew w258) fun J266 => IxOk x242 n234 a233 ∧ IxOk x241 n234 a233 ∧ ∃ v267, (∀ (w268 : World), J266 w268 → Ld w268 (adAt a233 x242 (1 : Nat)) fun v270 => v270 = v267) ∧ opI IntKind.i64 v267 fun x271 => ∃ v272, (∀ (w273 : World), J266 w273 → Ld w273 (adAt a233 x241 (1 : Nat)) fun v275 => v275 = v272) ∧ opI IntKind.i64 v272 fun x276 => IxOk x241 n234 a233 ∧ ¬Addr.block (adAt a233 x241 (1 : Nat)) ∈ [n39] ∧ Wr (World.drew w258) (adAt a233 x241 (1 : Nat)) (1 : Nat) ∧ IxOk x242 n234 a233 ∧ ¬Addr.block (adAt a233 x242 (1 : Nat)) ∈ [n39] ∧ Wr (setCells (World.drew w258) (adAt a233 x241 (1 : Nat)) (0 : Nat) [Value.int IntKind.i64 x271]) (adAt a233 x242 (1 : Nat)) (1 : Nat) ∧ J265 [] [] (setCells (setCells (World.drew w258) (adAt a233 x241 (1 : Nat)) (0 : Nat) [Value.int IntKind.i64 x271]) (adAt a233 x242 (1 : Nat)) (0 : Nat) [Value.int IntKind.i64 x276])) (J251 [Value.int IntKind.i64 x241, Value.int IntKind.i64 x242, Value.int IntKind.i64 x253] [] w258)) w255) w240) (NN p0 fun A277 => Ld w240 (Addr.add A277 (3 : Nat)) fun v278 => opL v278 fun a279 n280 n281 => IxOk x193 n280 a279 ∧ ¬Addr.block (adAt a279 x193 (1 : Nat)) ∈ [n39] ∧ Wr w240 (adAt a279 x193 (1 : Nat)) (1 : Nat) ∧ CallW Try.prog [n39] (231 : Nat) #[Value.pointer p0, Value.int IntKind.i64 x193, Value.int IntKind.i64 x241] (fun v282 w283 => opTu v282 fun cs284 => SzIs (Array.size cs284) (0 : Nat) (J191 [Value.int IntKind.i64 x193] [] w283)) (setCells w240 (adAt a279 x193 (1 : Nat)) (0 : Nat) [Value.slice a233 n234 n235]))) [Value.int IntKind.i64 (0 : Int), Value.int IntKind.i64 (0 : Int)] [] w232
def P222D (p0 : Option Addr) (J3 : List Value → List Value → World → Prop) (n39 : Nat) (n78 : Nat) (w100 : World) (a101 : Option Addr) (n102 : Nat) (x179 : Int) : Prop :=
  LoopP (fun l180 l181 J182 w183 => opI IntKind.i64 (nthD l180 (0 : Nat)) fun x184 => Bd (decide (x184 < x179)) fun b185 => If b185 (Jn (fun l186 l187 w188 => opI IntKind.i64 (nthD l186 (0 : Nat)) fun x189 => Bd (IntKind.wrap IntKind.i64 (x184 + (1 : Int))) fun x190 => J182 [Value.int IntKind.i64 x190] [] w188) fun J191 => IxOk x184 n102 a101 ∧ Ld w183 (adAt a101 x184 (1 : Nat)) fun v192 => opI IntKind.i64 v192 fun x193 => Dr (World.drew w183) fun J194 => ∃ v195, (∀ (w196 : World), J194 w196 → RunV Try.prog (Instr.lookup (298 : Nat) (Value.map (some n78)) (Value.int IntKind.i64 x193) false) v195 w196) ∧ opM v195 fun a198 => ∃ v199, (∀ (w200 : World), J194 w200 → RunV Try.prog (Builtin.len_ #[(248 : Nat)] (3 : Nat) #[Value.map a198]) v199 w200) ∧ opI IntKind.i64 v199 fun x202 => NN p0 fun A203 => ∃ v204, (∀ (w205 : World), J194 w205 → Ld w205 (Addr.add A203 (3 : Nat)) fun v207 => v207 = v204) ∧ opL v204 fun a208 n209 n210 => IxOk x193 n209 a208 ∧ ∃ v211, (∀ (w212 : World), J194 w212 → Ld w212 (adAt a208 x193 (1 : Nat)) fun v214 => v214 = v211) ∧ opL v211 fun a215 n216 n217 => Bd ↑n216 fun x218 => Bd (decide (x202 < x218)) fun b219 => If b219 (Nw (Obj.cells #[] (3 : Nat)) (World.drew w183) fun n220 w221 => NN p0 fun A222 => Ld w221 (Addr.add A222 (3 : Nat)) fun v223 => opL v223 fun a224 n225 n226 => IxOk x193 n225 a224 ∧ Ld w221 (adAt a224 x193 (1 : Nat)) fun v227 => opL v227 fun a228 n229 n230 => RunW Try.prog [n39] (Builtin.append_ #[(52 : Nat), (52 : Nat)] (52 : Nat) #[Value.slice (some { block := n220, off := (0 : Nat) }) (0 : Nat) (0 : Nat), Value.slice a228 n229 n230]) (fun v231 w232 => opL v231 fun a233 n234 n235 => Bd ↑n234 fun x236 => (P222E p0 n39 n78 J191 x193 w232 a233 n234 n235 x236)) w221) (J191 [Value.int IntKind.i64 x193] [] (World.drew w183))) (J3 [] [] w183)) [Value.int IntKind.i64 (0 : Int)] [] w100
def P222C (p0 : Option Addr) (n39 : Nat) (n78 : Nat) (J99 : List Value → List Value → World → Prop) (w100 : World) (a101 : Option Addr) (n102 : Nat) (n103 : Nat) (x104 : Int) (a128 : Option Addr) (n129 : Nat) (x131 : Int) : Prop :=
  LoopP (fun l132 l133 J134 w135 => opL (nthD l132 (0 : Nat)) fun a136 n137 n138 => opI IntKind.i64 (nthD l132 (1 : Nat)) fun x139 => Bd (decide (x139 < x131)) fun b140 => If b140 (IxOk x139 n129 a128 ∧ Ld w135 (adAt a128 x139 (1 : Nat)) fun v141 => opI IntKind.i64 v141 fun x142 => NN p0 fun A143 => Ld w135 (Addr.add A143 (4 : Nat)) fun v144 => opL v144 fun a145 n146 n147 => IxOk x142 n146 a145 ∧ Ld w135 (adAt a145 x142 (1 : Nat)) fun v148 => opI IntKind.i64 v148 fun x149 => Jn (fun l150 l151 w152 => opL (nthD l150 (0 : Nat)) fun a153 n154 n155 => RunW Try.prog [n39] (Instr.lookup (298 : Nat) (Value.map (some n78)) (Value.int IntKind.i64 x149) false) (fun v156 w157 => opM v156 fun a158 => RunU Try.prog [n39] (Instr.mapUpdate (248 : Nat) (Value.map a158) (Value.int IntKind.i64 x142) (Value.int IntKind.i64 (1 : Int))) (fun w159 => Bd (IntKind.wrap IntKind.i64 (x139 + (1 : Int))) fun x160 => J134 [Value.slice a153 n154 n155, Value.int IntKind.i64 x160] [] w159) w157) w152) fun J161 => RunW Try.prog [n39] (Instr.lookup (298 : Nat) (Value.map (some n78)) (Value.int IntKind.i64 x149) false) (fun v162 w163 => opM v162 fun a164 => RunW Try.prog [n39] (eqS BinOp.eql (248 : Nat) (Operand.tmp (92 : Nat)) (Operand.const (Value.map none)) (Value.map a164) (Value.map none)) (fun v165 w166 => opB v165 fun b167 => If b167 (Nw (Obj.map #[] (0 : Nat)) w166 fun n168 w169 => RunU Try.prog [n39] (Instr.mapUpdate (298 : Nat) (Value.map (some n78)) (Value.int IntKind.i64 x149) (Value.map (some n168))) (fun w170 => Nw (Obj.cells #[Value.int IntKind.i64 x149] (3 : Nat)) w170 fun n171 w172 => RunW Try.prog [n39] (Builtin.append_ #[(52 : Nat), (52 : Nat)] (52 : Nat) #[Value.slice a136 n137 n138, Value.slice (some { block := n171, off := (0 : Nat) }) (1 : Nat) (1 : Nat)]) (fun v173 w174 => opL v173 fun a175 n176 n177 => J161 [Value.slice a175 n176 n177] [] w174) w172) w169) (J161 [Value.slice a136 n137 n138] [] w166)) w163) w135) (Bd (IntKind.wrap IntKind.i64 (x104 + (1 : Int))) fun x178 => J99 [Value.slice a136 n137 n138, Value.int IntKind.i64 x178] [] w135)) [Value.slice a101 n102 n103, Value.int IntKind.i64 (0 : Int)] [] (World.drew w100)
def P222B (p0 : Option Addr) (J3 : List Value → List Value → World → Prop) (x38 : Int) (n39 : Nat) (n78 : Nat) (w79 : World) (a93 : Option Addr) (n94 : Nat) (x96 : Int) : Prop :=
  LoopP (fun l97 l98 J99 w100 => opL (nthD l97 (0 : Nat)) fun a101 n102 n103 => opI IntKind.i64 (nthD l97 (1 : Nat)) fun x104 => Bd (decide (x104 < x96)) fun b105 => If b105 (IxOk x104 n94 a93 ∧ Ld w100 (adAt a93 x104 (1 : Nat)) fun v106 => opI IntKind.i64 v106 fun x107 => Dr (World.drew w100) fun J108 => NN p0 fun A109 => ∃ v110, (∀ (w111 : World), J108 w111 → Ld w111 (Addr.add A109 (2 : Nat)) fun v113 => v113 = v110) ∧ opL v110 fun a114 n115 n116 => IxOk x38 n115 a114 ∧ ∃ v117, (∀ (w118 : World), J108 w118 → Ld w118 (adAt a114 x38 (1 : Nat)) fun v120 => v120 = v117) ∧ opL v117 fun a121 n122 n123 => IxOk x107 n122 a121 ∧ ∃ v124, (∀ (w125 : World), J108 w125 → Ld w125 (adAt a121 x107 (1 : Nat)) fun v127 => v127 = v124) ∧ opL v124 fun a128 n129 n130 => Bd ↑n129 fun x131 => (P222C p0 n39 n78 J99 w100 a101 n102 n103 x104 a128 n129 x131)) (Bd ↑n102 fun x179 => (P222D p0 J3 n39 n78 w100 a101 n102 x179))) [Value.slice none (0 : Nat) (0 : Nat), Value.int IntKind.i64 (0 : Int)] [] (World.drew w79)
theorem srcI_mem {M : Mch} {k s : Nat} {y : Int} : y ∈ srcI M k s ↔ ∃ x : Nat, x ≤ M.n ∧ y = x ∧ M.go x k = s := by
  unfold srcI
  simp only [List.mem_map, List.mem_filter, List.mem_range, decide_eq_true_eq]
  constructor
  · rintro ⟨x, ⟨h1, h2⟩, rfl⟩; exact ⟨x, by omega, rfl, h2⟩
  · rintro ⟨x, h1, rfl, h2⟩; exact ⟨x, ⟨by omega, h2⟩, rfl⟩
theorem srcI_nodup (M : Mch) (k s : Nat) : (srcI M k s).Nodup := by
  unfold srcI
  refine List.Pairwise.map _ (fun a b h => ?_) (List.nodup_range.filter _)
  intro e; exact h (by omega)
def vvI (M : Mch) (k : Nat) (r : List Int) : List Int := r.flatMap fun y => srcI M k y.toNat
theorem vvI_mem {M : Mch} {k : Nat} {r : List Int} (h : ∀ y ∈ r, 0 ≤ y) {y : Int} : y ∈ vvI M k r ↔ ∃ x : Nat, x ≤ M.n ∧ y = x ∧ (M.go x k : Int) ∈ r := by
  unfold vvI
  simp only [List.mem_flatMap, srcI_mem]
  constructor
  · rintro ⟨z, hz, x, h1, h2, h3⟩
    refine ⟨x, h1, h2, ?_⟩
    have := h z hz
    have e : (M.go x k : Int) = z := by omega
    rw [e]; exact hz
  · rintro ⟨x, h1, h2, h3⟩
    exact ⟨_, h3, x, h1, h2, by simp⟩
theorem vvI_nodup {M : Mch} {k : Nat} {r : List Int} (h : ∀ y ∈ r, 0 ≤ y) (hr : r.Nodup) : (vvI M k r).Nodup := by
  unfold vvI
  unfold List.Nodup
  rw [List.pairwise_flatMap]
  refine ⟨fun a _ => srcI_nodup M k _, ?_⟩
  refine List.Pairwise.imp_of_mem (fun {a b} ha hb hab x hx y hy e => ?_) hr
  obtain ⟨u, _, h1, h2⟩ := srcI_mem.1 hx
  obtain ⟨v, _, h3, h4⟩ := srcI_mem.1 hy
  have e2 : u = v := by omega
  subst e2
  have := h a ha
  have := h b hb
  exact hab (by omega)
def atI (at' : List Int) (y : Int) : Int := at'.getD y.toNat 0
def inn (at' : List Int) (V : List Int) (g : Int) : List (Int × Int) := (V.filter fun y => decide (atI at' y = g)).map fun y => (y, 1)
theorem inn_keys (at' V : List Int) (g : Int) : (inn at' V g).map (·.1) = V.filter fun y => decide (atI at' y = g) := by
  unfold inn; rw [List.map_map]; exact List.map_id' _
theorem inn_snoc (at' V : List Int) (x g : Int) : inn at' (V ++ [x]) g = if atI at' x = g then inn at' V g ++ [(x, 1)] else inn at' V g := by
  unfold inn
  rw [List.filter_append, List.map_append]
  by_cases h : atI at' x = g <;> simp [h]
theorem inn_one {at' V : List Int} {g : Int} {p : Int × Int} (h : p ∈ inn at' V g) : p.2 = 1 := by
  unfold inn at h
  obtain ⟨y, _, rfl⟩ := List.mem_map.1 h; rfl
/-- Who asks for a state of a group gets a 1, or a 0. -/
theorem inn_find (at' V : List Int) (g y : Int) : ((findI y (inn at' V g) 0).map fun p => vI p.2).getD (.int .i64 0) = .int .i64 (if y ∈ V ∧ atI at' y = g then 1 else 0) := by
  cases hf : findI y (inn at' V g) 0 with
  | none =>
    have hn : ¬ (y ∈ V ∧ atI at' y = g) := fun hh => by
      have : y ∈ (inn at' V g).map (·.1) := by rw [inn_keys]; exact List.mem_filter.2 ⟨hh.1, by simp [hh.2]⟩
      have := findI_key (j := 0).2 this
      rw [hf] at this; cases this
    rw [if_neg hn]; rfl
  | some p =>
    have h1 := findI_val hf
    have h2 : y ∈ (inn at' V g).map (·.1) := List.mem_map.2 ⟨_, h1, rfl⟩
    rw [inn_keys, List.mem_filter] at h2
    have h3 := inn_one h1
    rw [if_pos ⟨h2.1, by simpa using h2.2⟩]
    show Value.int .i64 p.2 = _
    rw [h3]
/-- No place left: so many different ones of a list are all of it. -/
theorem sub_of_len {α : Type} [DecidableEq α] {A r : List α} (hA : A.Nodup) (hs : A ⊆ r) (hl : r.length ≤ A.length) : r ⊆ A := fun y hy => by
  by_cases h : y ∈ A
  · exact h
  · have h1 : (y :: A).Nodup := List.nodup_cons.2 ⟨h, hA⟩
    have h2 : (y :: A) ⊆ r := fun z hz => by
      rcases List.mem_cons.1 hz with rfl | hz
      · exact hy
      · exact hs hz
    have := h1.length_le_of_subset h2
    rw [List.length_cons] at this
    omega
structure Hts (w : World) (b0 n78 : Nat) (at' V : List Int) (oa : Option Addr) (oc : Nat) (O : List Int) (rf : List Nat) : Prop where
  oO : OwnL w b0 3 1 i1 oa oc O
  mO : MapAt w n78 vI vM (O.zip rf)
  rl : rf.length = O.length
  n0 : b0 ≤ n78
  rb : ∀ r ∈ rf, b0 ≤ r ∧ r ≠ n78
  nd : rf.Nodup
  on : O.Nodup
  cn : ∀ (i : Nat) (g : Int) (r : Nat), O[i]? = some g → rf[i]? = some r → MapAt w r vI vI (inn at' V g)
def OM (at' W O : List Int) : Prop := ∀ g, g ∈ O ↔ ∃ x ∈ W, atI at' x = g
section
variable {w w' : World} {b0 n78 oc : Nat} {at' V O : List Int} {oa : Option Addr} {rf : List Nat}
theorem Hts.md {D : List Nat} (H : Hts w b0 n78 at' V oa oc O rf) (hm : Md D w w') (hD : ∀ d ∈ D, d < b0 ∨ w.heap.size ≤ d) (hb : b0 ≤ w.heap.size) : Hts w' b0 n78 at' V oa oc O rf := by
  refine ⟨H.oO.mdD hm fun A hA h => ?_, H.mO.md hm fun h => ?_, H.rl, H.n0, H.rb, H.nd, H.on, fun i g r h1 h2 => (H.cn i g r h1 h2).md hm fun h => ?_⟩
  · have := H.oO.lt hA
    rcases hD _ h with h | h <;> omega
  · have := H.mO.lt
    have := H.n0
    rcases hD _ h with h | h <;> omega
  · have := (H.cn i g r h1 h2).lt
    have := H.rb r (List.mem_of_getElem? h2)
    rcases hD _ h with h | h <;> omega
theorem Hts.md0 (H : Hts w b0 n78 at' V oa oc O rf) (hm : Md [] w w') (hb : b0 ≤ w.heap.size) : Hts w' b0 n78 at' V oa oc O rf := H.md hm (by simp) hb
theorem Hts.find (H : Hts w b0 n78 at' V oa oc O rf) {g : Int} (hg : g ∈ O) : ∃ i r, O[i]? = some g ∧ rf[i]? = some r ∧ findI g (O.zip rf) 0 = some (i, r) := by
  have hk : (O.zip rf).map (·.1) = O := List.map_fst_zip (by rw [H.rl]; exact Nat.le_refl _)
  obtain ⟨⟨i, r⟩, hp⟩ : ∃ p, findI g (O.zip rf) 0 = some p := Option.isSome_iff_exists.1 (findI_key.2 (by rw [hk]; exact hg))
  have h2 := (findI_at hp).2
  rw [Nat.sub_zero, List.getElem?_zip_eq_some] at h2
  exact ⟨i, r, h2.1, h2.2, hp⟩
theorem Hts.findN (H : Hts w b0 n78 at' V oa oc O rf) {g : Int} (hg : g ∉ O) : findI g (O.zip rf) 0 = none := by
  have hk : (O.zip rf).map (·.1) = O := List.map_fst_zip (by rw [H.rl]; exact Nat.le_refl _)
  exact findI_none (by rw [hk]; exact hg)
/-- One more state comes into the group in hand, from a group that is known. -/
theorem Hts.put (H : Hts w b0 n78 at' V oa oc O rf) {x : Int} (hx : x ∉ V) {i r : Nat} (h1 : O[i]? = some (atI at' x)) (h2 : rf[i]? = some r) {w' : World} (hm : Md [r] w w') (hr : MapAt w' r vI vI (inn at' V (atI at' x) ++ [(x, 1)])) :
    Hts w' b0 n78 at' (V ++ [x]) oa oc O rf := by
  have hrb := H.rb r (List.mem_of_getElem? h2)
  refine ⟨H.oO.mdD hm fun A hA h => ?_, H.mO.md hm fun h => ?_, H.rl, H.n0, H.rb, H.nd, H.on, fun j g r' h3 h4 => ?_⟩
  · have e : A.block = r := by simpa using h
    exact own_nmap H.oO (H.cn i _ r h1 h2) A hA e
  · have e : n78 = r := by simpa using h
    exact hrb.2 e.symm
  · rw [inn_snoc]
    obtain ⟨l1, e1⟩ := List.getElem?_eq_some_iff.1 h1
    obtain ⟨l2, e2⟩ := List.getElem?_eq_some_iff.1 h2
    obtain ⟨l3, e3⟩ := List.getElem?_eq_some_iff.1 h3
    obtain ⟨l4, e4⟩ := List.getElem?_eq_some_iff.1 h4
    by_cases hij : i = j
    · subst hij
      have eg : atI at' x = g := by rw [← e1, ← e3]
      have er : r = r' := by rw [← e2, ← e4]
      subst er
      rw [if_pos eg, ← eg]
      exact hr
    · have ng : ¬ atI at' x = g := fun e => hij ((List.getElem_inj (h₀ := l1) (h₁ := l3) H.on).1 (by rw [e1, e3, e]))
      have nr : ¬ r' = r := fun e => hij ((List.getElem_inj (h₀ := l2) (h₁ := l4) H.nd).1 (by rw [e2, e4, e]))
      rw [if_neg ng]
      exact (H.cn j g r' h3 h4).md hm (by simpa using nr)
end
theorem atI_get {at' : List Int} {x : Nat} (h : x < at'.length) : at'[x]'h = atI at' (x : Int) := by
  unfold atI
  rw [List.getD_eq_getElem?_getD, Int.toNat_natCast, List.getElem?_eq_getElem h]; rfl
theorem zero248 (w : World) : (zeroValue 248).run Try.prog w = .ok (.map none) w := by kernel_rfl
theorem P222C_ok {gb : Nat} {w0 ws w100 : World} {n m n39 : Nat} {M : Mch} {X Y : Value} {s : GPS} {J99 : List Value → List Value → World → Prop} {b0 n78 : Nat} {V O : List Int} {oa : Option Addr} {oc : Nat} {rf : List Nat} {x104 : Int} {a128 : Option Addr} {src : List Int}
    (S : PW gb [n39] w0 ws n m M.m X Y s) (hb0 : b0 = ws.heap.size) (m1 : Md [] ws w100) (H : Hts w100 b0 n78 s.at' V oa oc O rf) (HO : OM s.at' V O) (row : RowAt ws a128 1 i1 src) (hnd : (V ++ src).Nodup) (hsrc : ∀ y ∈ src, 0 ≤ y ∧ y < s.at'.length) (hl : (V ++ src).length < 2 ^ 20)
    (k : ∀ oa' oc' O' rf' w', Hts w' b0 n78 s.at' (V ++ src) oa' oc' O' rf' → OM s.at' (V ++ src) O' → Md [] ws w' → Bd (IntKind.wrap IntKind.i64 (x104 + 1)) fun x178 => J99 [.slice oa' O'.length oc', .int .i64 x178] [] w') :
    P222C (some ⟨n, 0, none⟩) n39 n78 J99 w100 oa O.length oc x104 a128 src.length src.length := by
  have hn39 : n39 < b0 := by rw [hb0]; exact (S.nl n39 (by simp)).1
  have L78 : ∀ {w : World}, Md [] ws w → b0 ≤ w.heap.size := fun h => by rw [hb0]; exact h.size
  have dw : Md [] w100 w100.drew := Md_drew w100
  have hsl : src.length < 2 ^ 20 := by rw [List.length_append] at hl; omega
  unfold P222C
  refine LoopP_in (fun mm us vs w' => ∃ (i : Nat) (oa : Option Addr) (oc : Nat) (O : List Int) (rf : List Nat), us = [.slice oa O.length oc, .int .i64 i] ∧ mm = src.length - i ∧ i ≤ src.length ∧ Hts w' b0 n78 s.at' (V ++ src.take i) oa oc O rf ∧ OM s.at' (V ++ src.take i) O ∧ Md [] ws w') src.length
    ⟨0, oa, oc, O, rf, rfl, rfl, by omega, by simpa using H.md0 dw (L78 m1), by simpa using HO, m1.trans dw⟩ ?_
  clear H HO m1 dw
  rintro mm us vs w135 ⟨i, oa, oc, O, rf, rfl, hmm, hi, H, HO, m1⟩
  refine opL_in <| opI_in <| Bd_in fun b140 hb140 => If_in (fun hb => ?_) fun hb => ?_
  · have hil : i < src.length := by
      rw [hb140] at hb
      have : (i : Int) < ((src.length : Nat) : Int) := of_decide_eq_true hb
      omega
    have htk := List.take_succ_eq_append_getElem hil
    obtain ⟨hx0, hxl⟩ := hsrc _ (List.getElem_mem hil)
    refine ⟨row.ix hil, (row.md m1).ld1 hil rfl <| opI_in ?_⟩
    have hxV : src[i] ∉ V ++ src.take i := fun h => by
      rw [List.nodup_append] at hnd
      obtain ⟨_, n2, n3⟩ := hnd
      rcases List.mem_append.1 h with h | h
      · exact n3 _ h _ (List.getElem_mem hil) rfl
      · rw [← List.take_append_drop i src, List.nodup_append] at n2
        exact n2.2.2 _ h _ (List.mem_iff_getElem.2 ⟨0, by simp; omega, by simp⟩) rfl
    obtain ⟨x, hx⟩ := Int.eq_ofNat_of_zero_le hx0
    rw [hx] at htk hxV hxl ⊢
    have hxl' : x < s.at'.length := by omega
    have S1 := S.md0 m1
    refine NN_in <| S1.blk.ld' rfl <| opL_in ⟨(S1.aO.row enci1).ix hxl', (S1.aO.row enci1).ld1 hxl' rfl <| opI_in ?_⟩
    rw [atI_get hxl']
    obtain ⟨g, hg⟩ : ∃ g, g = atI s.at' (x : Int) := ⟨_, rfl⟩
    rw [← hg]
    obtain ⟨V1, hV1⟩ : ∃ V1, V1 = V ++ src.take i := ⟨_, rfl⟩
    rw [← hV1] at H HO hxV
    have hV2 : V ++ src.take (i + 1) = V1 ++ [(x : Int)] := by rw [hV1, htk, List.append_assoc]
    have hV1l : V1.length < 2 ^ 20 := by
      rw [hV1]
      simp only [List.length_append, List.length_take] at hl ⊢
      omega
    obtain ⟨J, hJ⟩ : ∃ J : List Value → List Value → World → Prop, J = (fun us vs w' => ∃ (oa : Option Addr) (oc : Nat) (O : List Int) (rf : List Nat), us = [.slice oa O.length oc] ∧ Hts w' b0 n78 s.at' V1 oa oc O rf ∧ OM s.at' (V1 ++ [(x : Int)]) O ∧ Md [] ws w') := ⟨_, rfl⟩
    refine Jn_in J ?_ ?_
    · intro us vs w152 hj
      rw [hJ] at hj
      obtain ⟨oa, oc, O, rf, rfl, H, HO, m1⟩ := hj
      have hgO : g ∈ O := (HO g).2 ⟨x, by simp, hg.symm⟩
      obtain ⟨j, r, f1, f2, f3⟩ := H.find hgO
      refine opL_in <| RunW_in0 (mapIM.lookup0 H.mO g (.map none) (zero248 _)) ?_
      rw [f3]
      refine opM_in ?_
      have hr := H.cn j g r f1 f2
      have hrb := H.rb r (List.mem_of_getElem? f2)
      obtain ⟨w3, hrun, hmap, m3⟩ := mapInt.add hr (x : Int) (1 : Int) (findI_none (by rw [inn_keys]; exact fun h => hxV (List.mem_filter.1 h).1))
      refine RunU_in hrun (fun b hb => m3.blk b (by simp at hb; have := L78 m1; omega) (by simp at hb ⊢; omega)) ?_
      refine Bd_e (inc_i64 (by omega)) ⟨src.length - (i + 1), by omega, i + 1, oa, oc, O, rf, rfl, rfl, by omega, ?_, ?_, m1.old m3 (by simpa [← hb0] using hrb.1)⟩
      · rw [hV2]
        rw [hg] at f1 hmap
        exact H.put hxV f1 f2 m3 hmap
      · rw [hV2]; exact HO
    · refine RunW_in0 (mapIM.lookup0 H.mO g (.map none) (zero248 _)) ?_
      by_cases hgO : g ∈ O
      · obtain ⟨j, r, f1, f2, f3⟩ := H.find hgO
        rw [f3]
        refine opM_in <| RunW_in0 (eqNilM (some r) w135 _ _ 248 3 3 (by kernel_rfl) (by kernel_rfl)) <| opB_in <| If_f ?_
        rw [hJ]
        refine ⟨oa, oc, O, rf, rfl, H, fun g' => ?_, m1⟩
        rw [HO g']
        constructor
        · rintro ⟨y, h1, h2⟩; exact ⟨y, List.mem_append_left _ h1, h2⟩
        · rintro ⟨y, h1, h2⟩
          rcases List.mem_append.1 h1 with h1 | h1
          · exact ⟨y, h1, h2⟩
          · rw [List.mem_singleton] at h1
            subst h1
            rw [← h2, ← hg]
            exact (HO g).1 hgO
      · rw [H.findN hgO]
        refine opM_in <| RunW_in0 (eqNilM none w135 _ _ 248 3 3 (by kernel_rfl) (by kernel_rfl)) <| opB_in <| If_t ?_
        intro n168 w169 e1 e2
        subst e1; subst e2
        have ma : Md [] w135 (w135.alloc (.map #[] 0)) := Md.alloc (M := []) _ _
        have hn := MapAt.new w135 vI vI (V := Int)
        have H1 := H.md0 ma (L78 m1)
        have m2 := m1.trans ma
        have hsz : (w135.alloc (.map #[] 0)).heap.size = w135.heap.size + 1 := Array.size_push _
        obtain ⟨r, hr⟩ : ∃ r, r = w135.heap.size := ⟨_, rfl⟩
        generalize w135.alloc (.map #[] 0) = w169 at *
        rw [← hr] at hn hsz ⊢
        have hr78 : r ≠ n78 := by have := H.mO.lt; omega
        have hrrf : ∀ r' ∈ rf, r' < r := fun r' h' => by
          obtain ⟨j, hj, e⟩ := List.getElem_of_mem h'
          have hj2 : j < O.length := by rw [← H.rl]; exact hj
          have := (H.cn j O[j] r' (List.getElem?_eq_getElem hj2) (by rw [List.getElem?_eq_getElem hj, e])).lt
          omega
        obtain ⟨w3, hrun, hmap, m3⟩ := mapIM.add H1.mO g r (H1.findN hgO)
        refine RunU_in hrun (fun b hb => m3.blk b (by simp at hb; have := L78 m2; omega) (by simp at hb ⊢; have := H.n0; omega)) ?_
        have o3 := H1.oO.mdD m3 fun A hA h => own_nmap H1.oO H1.mO A hA (by simpa using h)
        have m4 := m2.old m3 (by simpa [← hb0] using H.n0)
        have hn3 := hn.md m3 (by simpa using hr78)
        have hinn3 : ∀ (i : Nat) (g : Int) (r : Nat), O[i]? = some g → rf[i]? = some r → MapAt w3 r vI vI (inn s.at' V1 g) := fun i g r h1 h2 => (H1.cn i g r h1 h2).md m3 (by simpa using (H1.rb r (List.mem_of_getElem? h2)).2)
        intro n171 w172 e1 e2
        subst e1; subst e2
        have hOl : O.length ≤ V1.length := by
          have : O ⊆ V1.map (atI s.at') := fun g hg => by
            obtain ⟨y, h1, h2⟩ := (HO g).1 hg
            exact List.mem_map.2 ⟨y, h1, h2⟩
          have := H.on.length_le_of_subset this
          rwa [List.length_map] at this
        refine app_one rowT52 enci1 g rfl o3 (L78 m4) (fun b hb => by simp at hb; have := L78 m4; omega) (fun b hb A hA e => by simp at hb; have := (o3.lt hA).1; omega) (by simp [maxLen]; omega) (by omega) (fun a' c' w5 o5 m5 hA => opL_in ?_) _ _ rfl rfl
        rw [hJ]
        have b5 : ∀ A, oa = some A → b0 ≤ A.block := fun A hA => (o3.lt hA).1
        have kp : ∀ {r' : Nat} {l : List (Int × Int)}, MapAt w3 r' vI vI l → MapAt w5 r' vI vI l := fun {r' l} h => h.md m5 fun hh => by
          obtain ⟨A, hA, e⟩ := blkO_mem hh
          exact own_nmap o3 h A hA e
        refine ⟨a', c', O ++ [g], rf ++ [r], rfl, ⟨o5, ?_, by simp [H.rl], H.n0, ?_, ?_, ?_, ?_⟩, ?_, m4.old m5 fun d hd => ?_⟩
        · rw [List.zip_append H.rl.symm]
          exact hmap.md m5 fun hh => by
            obtain ⟨A, hA, e⟩ := blkO_mem hh
            exact own_nmap o3 hmap A hA e
        · intro r' h'
          rcases List.mem_append.1 h' with h' | h'
          · exact H.rb r' h'
          · rw [List.mem_singleton] at h'
            subst h'
            exact ⟨by rw [hr]; exact L78 m1, hr78⟩
        · rw [List.nodup_append]
          exact ⟨H.nd, by simp, fun a ha b hb e => by simp at hb; have := hrrf a ha; omega⟩
        · rw [List.nodup_append]
          exact ⟨H.on, by simp, fun a ha b hb e => by simp at hb; rw [← hb, ← e] at hgO; exact hgO ha⟩
        · intro j g' r' h1 h2
          rcases Nat.lt_trichotomy j O.length with hj | hj | hj
          · rw [List.getElem?_append_left hj] at h1
            rw [List.getElem?_append_left (by rw [H.rl]; exact hj)] at h2
            exact kp (hinn3 j g' r' h1 h2)
          · subst hj
            rw [List.getElem?_append_right (by omega)] at h1
            rw [List.getElem?_append_right (by rw [H.rl]; omega), H.rl] at h2
            simp at h1 h2
            subst h1; subst h2
            have : inn s.at' V1 g = [] := by
              unfold inn
              rw [List.map_eq_nil_iff, List.filter_eq_nil_iff]
              intro y hy hh
              exact hgO ((HO g).2 ⟨y, hy, by simpa using hh⟩)
            rw [this]
            exact kp hn3
          · have := (List.getElem?_eq_some_iff.1 h1).1
            simp at this; omega
        · intro g'
          rw [List.mem_append, HO g', List.mem_singleton]
          constructor
          · rintro (⟨y, h1, h2⟩ | rfl)
            · exact ⟨y, List.mem_append_left _ h1, h2⟩
            · exact ⟨x, by simp, hg.symm⟩
          · rintro ⟨y, h1, h2⟩
            rcases List.mem_append.1 h1 with h1 | h1
            · exact .inl ⟨y, h1, h2⟩
            · rw [List.mem_singleton] at h1
              subst h1
              exact .inr (by rw [← h2, hg])
        · obtain ⟨A, hA, e⟩ := blkO_mem hd
          have := b5 A hA
          omega
  · have hil : i = src.length := by
      have : ¬ (i : Int) < ((src.length : Nat) : Int) := by rw [hb140] at hb; exact of_decide_eq_false hb
      omega
    rw [hil, List.take_length] at H HO
    exact k oa oc O rf w135 H HO m1
end Fk
set_option linter.unusedVariables false
set_option linter.unusedSimpArgs false
set_option linter.unusedSectionVars false
set_option maxRecDepth 100000
set_option maxHeartbeats 1000000
namespace Fk
open Go Go.Proofs Go.RowKit
structure SwS (P : Int → Prop) (r c : List Int) (f i : Nat) : Prop where
  pm : c.Perm r
  le : f ≤ i
  a : ∀ (j : Nat) (y : Int), j < f → c[j]? = some y → P y
  b : ∀ (j : Nat) (y : Int), f ≤ j → j < i → c[j]? = some y → ¬ P y
theorem SwS.start (P : Int → Prop) (r : List Int) : SwS P r r 0 0 := ⟨.refl _, Nat.le_refl _, fun j y h => by omega, fun j y h1 h2 => by omega⟩
theorem SwS.miss {P : Int → Prop} {r c : List Int} {f i : Nat} (h : SwS P r c f i) (hi : i < c.length) (hp : ¬ P c[i]) : SwS P r c f (i + 1) :=
  ⟨h.pm, by have := h.le; omega, h.a, fun j y h1 h2 hy => by
    by_cases e : j = i
    · subst e
      rw [List.getElem?_eq_getElem hi] at hy
      injection hy with hy
      rw [← hy]; exact hp
    · exact h.b j y h1 (by omega) hy⟩
theorem SwS.hit {P : Int → Prop} {r c : List Int} {f i : Nat} (h : SwS P r c f i) (hi : i < c.length) (hp : P c[i]) : SwS P r ((c.set f c[i]).set i (c[f]'(Nat.lt_of_le_of_lt h.le hi))) (f + 1) (i + 1) := by
  have hle := h.le
  have hf : f < c.length := by omega
  have get : ∀ j, ((c.set f c[i]).set i (c[f]'hf))[j]? = if j = i then some (c[f]'hf) else if j = f then some c[i] else c[j]? := fun j => by
    rw [List.getElem?_set, List.getElem?_set]
    by_cases e : i = j
    · subst e; simp [hi]
    · have e' : ¬ j = i := fun z => e z.symm
      by_cases e2 : f = j
      · subst e2; simp [e, e', hf]
      · have e2' : ¬ j = f := fun z => e2 z.symm
        simp [e, e', e2, e2']
  refine ⟨(List.set_set_perm hf hi).trans h.pm, by omega, fun j y h1 hy => ?_, fun j y h1 h2 hy => ?_⟩
  · rw [get] at hy
    by_cases e : j = i
    · rw [if_pos e] at hy
      have e2 : f = i := by omega
      injection hy with hy
      subst e2
      rw [← hy]; exact hp
    · rw [if_neg e] at hy
      by_cases e2 : j = f
      · rw [if_pos e2] at hy
        injection hy with hy
        rw [← hy]; exact hp
      · rw [if_neg e2] at hy
        exact h.a j y (by omega) hy
  · rw [get] at hy
    by_cases e : j = i
    · rw [if_pos e] at hy
      injection hy with hy
      rw [← hy]
      exact h.b f _ (Nat.le_refl _) (by omega) (List.getElem?_eq_getElem hf)
    · rw [if_neg e, if_neg (by omega)] at hy
      exact h.b j y (by omega) (by omega) hy
structure GpS (gb : Nat) (L : List Nat) (w0 w : World) (n m : Nat) (M : Mch) (X Y : Value) (s : GPS) (GS : List (List Int)) (ex : Nat → Nat → Nat → Prop) : Prop where
  pw : PW gb L w0 w n m M.m X Y s
  gi : GI M GS s.at' s.td ex
  pr : PR w (fpP n m s) s.G GS
  fb : FB M w (fpP n m s) X Y
theorem GpS.md0 {gb : Nat} {L : List Nat} {w0 w w' : World} {n m : Nat} {M : Mch} {X Y : Value} {s : GPS} {GS : List (List Int)} {ex : Nat → Nat → Nat → Prop} (S : GpS gb L w0 w n m M X Y s GS ex) (hm : Md [] w w') : GpS gb L w0 w' n m M X Y s GS ex :=
  ⟨S.pw.md0 hm, S.gi, S.pr.keep hm (Grw.nil _ _) (Grw.refl _ _), S.fb.keep hm (Grw.nil _ _) (Grw.refl _ _)⟩
theorem adAt_blk {A : Addr} {i : Int} {z : Nat} : (adAt (some A) i z).block = A.block := by
  show (A.add _).block = _
  exact add_block _ _
theorem P222E_ok {gb : Nat} {w0 wb w : World} {n m n39 n78 : Nat} {M : Mch} {X Y : Value} {s : GPS} {GS : List (List Int)} {k b : Nat} {Sb U : Nat → Prop} {r V at0 : List Int} {a : Option Addr} {c j rr : Nat} {ol : List (Int × Nat)}
    {J191 : List Value → List Value → World → Prop} (hM : M.ok) (hk : k < M.m) (hm256 : M.m ≤ 256) (hn12 : M.n < 2 ^ 12) (S : GpS gb [n39] w0 wb n m M X Y s GS (Exc M (atN s.at') k Sb U)) (hr : GS[b]? = some r) (mb : Md [] wb w)
    (O : OwnL w wb.heap.size 3 1 i1 a c r) (m78 : MapAt wb n78 vI vM ol) (f78 : findI (b : Int) ol 0 = some (j, rr)) (mrr : MapAt wb rr vI vI (inn at0 V b))
    (hP : ∀ x : Nat, x ≤ M.n → (x : Int) ∈ r → (((x : Int) ∈ V ∧ atI at0 x = b) ↔ Sb (M.go x k))) (h1 : ∃ y ∈ r, y ∈ V ∧ atI at0 y = b) (h2 : ∃ y ∈ r, ¬ (y ∈ V ∧ atI at0 y = b))
    (hS : ∀ u v, u ≤ M.n → v ≤ M.n → M.alike u v → (Sb u ↔ Sb v)) (hU : ∀ a, U a → a < GS.length) (hnd : s.td.length < 2 ^ 29)
    (K : ∀ s' GS' w', GpS gb [n39] w0 w' n m M X Y s' GS' (Exc M (atN s'.at') k Sb fun a => U a ∧ a ≠ b) → Md (fpP n m s) wb w' → Grw wb (fpP n m s) (fpP n m s') → GS'.length = GS.length + 1 → s'.td.length ≤ s.td.length + M.m →
      (∀ x a : Nat, x ≤ M.n → a < GS.length → a ≠ b → (atN s'.at' x = a ↔ atN s.at' x = a)) → J191 [.int .i64 b] [] w') :
    P222E (some ⟨n, 0, none⟩) n39 n78 J191 (b : Int) w a r.length c r.length := by
  have hGl : s.G.length = GS.length := S.pr.1
  have hbl : b < GS.length := (List.getElem?_eq_some_iff.1 hr).1
  have hrl := S.gi.rlen hr
  have hgl := S.gi.gl
  have hn39 : n39 < wb.heap.size ∧ n39 ∉ fpP n m s := S.pw.nl n39 (by simp)
  obtain ⟨Pp, hPp⟩ : ∃ Pp : Int → Prop, Pp = fun y => y ∈ V ∧ atI at0 y = b := ⟨_, rfl⟩
  have l78 := m78.lt
  have lrr := mrr.lt
  have hab : ∀ A, a = some A → wb.heap.size ≤ A.block := fun A hA => (O.lt hA).1
  unfold P222E
  refine LoopP_in (fun mm us vs w' => ∃ (f i : Nat) (l : List Int), us = [.int .i64 f, .int .i64 i] ∧ mm = r.length - i ∧ i ≤ r.length ∧ SwS Pp r l f i ∧ OwnL w' wb.heap.size 3 1 i1 a c l ∧ Md [] wb w') r.length
    ⟨0, 0, r, rfl, rfl, by omega, SwS.start _ _, O, mb⟩ ?_
  clear O mb
  rintro mm us vs w240 ⟨f, i, l, rfl, hmm, hi, W, O, mb⟩
  have hll : l.length = r.length := W.pm.length_eq
  refine opI_in <| opI_in <| Bd_in fun b243 hb243 => If_in (fun hb => ?_) fun hb => ?_
  · have hil : i < r.length := by
      rw [hb243] at hb
      have : (i : Int) < ((r.length : Nat) : Int) := of_decide_eq_true hb
      omega
    obtain ⟨J, hJ⟩ : ∃ J : List Value → List Value → World → Prop, J = (fun us vs w' => ∃ (f : Nat) (z : Int) (l : List Int), us = [.int .i64 f, .int .i64 i, .int .i64 z] ∧ SwS Pp r l f (i + 1) ∧ OwnL w' wb.heap.size 3 1 i1 a c l ∧ Md [] wb w') := ⟨_, rfl⟩
    refine Jn_in J ?_ ?_
    · intro us vs w246 hj
      rw [hJ] at hj
      obtain ⟨f, z, l, rfl, W, O, mb⟩ := hj
      exact opI_in <| opI_in <| opI_in <| Bd_e (inc_i64 (by omega)) ⟨r.length - (i + 1), by omega, f, i + 1, l, rfl, rfl, by omega, W, O, mb⟩
    · rw [← hll]
      have hil' : i < l.length := by omega
      have hfl : f < l.length := by have := W.le; omega
      refine ⟨(O.row enci1).ix hil', (O.row enci1).ld1 hil' rfl <| opI_in ?_⟩
      refine RunW_in0 (mapIM.lookup0 (m78.md mb (by simp)) b (.map none) (zero248 _)) ?_
      rw [f78]
      refine opM_in <| RunW_in0 (mapInt.lookup0 (mrr.md mb (by simp)) l[i] (.int .i64 0) (zero3 _)) ?_
      rw [inn_find]
      refine opI_in <| Bd_in fun b260 hb260 => If_in (fun hz => ?_) fun hz => ?_
      · have hp : Pp l[i] := by
          rw [hPp]
          rw [hb260] at hz
          refine Classical.byContradiction fun hn => ?_
          rw [if_neg hn] at hz
          simp at hz
        have W' := W.hit hil' hp
        obtain ⟨J2, hJ2⟩ : ∃ J : List Value → List Value → World → Prop, J = (fun us vs w' => ∃ (l : List Int), SwS Pp r l (f + 1) (i + 1) ∧ OwnL w' wb.heap.size 3 1 i1 a c l ∧ Md [] wb w') := ⟨_, rfl⟩
        refine Jn_in J2 ?_ ?_
        · intro us vs w263 hj
          rw [hJ2] at hj
          obtain ⟨l, W, O, mb⟩ := hj
          refine Bd_e (inc_i64 (by omega)) ?_
          rw [hJ]
          exact ⟨f + 1, _, l, rfl, W, O, mb⟩
        · have dw : Md [] w240 w240.drew := Md_drew w240
          have O1 := O.md dw
          obtain ⟨A, hA, p1, p2, p3, p4, p5, p6⟩ := O1.put enci1 (by omega) hfl (l[i])
          have hil2 : i < (l.set f l[i]).length := by simpa using hil'
          obtain ⟨A', hA', q1, q2, q3, q4, q5, q6⟩ := p5.put enci1 (by omega) hil2 (l[f])
          have ne39 : ∀ z : Int, ¬ (adAt a z 1).block ∈ [n39] := fun z hh => by
            rw [hA, adAt_blk] at hh
            have := hab A hA
            simp at hh; omega
          refine ⟨fun w' => Md [] w240 w', dw, (O.row enci1).ix hil', (O.row enci1).ix hfl, _, fun w' h' => ((O.md h').row enci1).ld1 hil' rfl rfl, opI_in ⟨_, fun w' h' => ((O.md h').row enci1).ld1 hfl rfl rfl, opI_in ⟨(O.row enci1).ix hfl, ne39 _, p4, (O.row enci1).ix hil', ne39 _, q4, ?_⟩⟩⟩
          rw [hJ2]
          refine ⟨_, W', q5, ((mb.trans dw).old p6 ?_).old q6 ?_⟩
          · intro d hd; simp at hd; have := hab A hA; omega
          · intro d hd; simp at hd; have := hab A' hA'; omega
      · have hp : ¬ Pp l[i] := by
          rw [hPp]
          rw [hb260] at hz
          intro hn
          rw [if_pos hn] at hz
          simp at hz
        rw [hJ]
        exact ⟨f, _, l, rfl, W.miss hil' hp, O, mb⟩
  · have hil : i = r.length := by
      have : ¬ (i : Int) < ((r.length : Nat) : Int) := by rw [hb243] at hb; exact of_decide_eq_false hb
      omega
    subst hil
    clear hb hb243 b243 hi hmm
    have hmem : ∀ y, y ∈ l ↔ y ∈ r := fun y => W.pm.mem_iff
    have h0 : 0 < f := by
      rcases Nat.eq_zero_or_pos f with e | e
      · obtain ⟨y, hy, hp⟩ := h1
        obtain ⟨q, hq, e2⟩ := List.getElem_of_mem ((hmem y).2 hy)
        exact absurd (by rw [hPp]; exact hp) (W.b q y (by omega) (by omega) (by rw [List.getElem?_eq_getElem hq, e2]))
      · exact e
    have hfl : f < l.length := by
      refine Classical.byContradiction fun hn => ?_
      obtain ⟨y, hy, hp⟩ := h2
      obtain ⟨q, hq, e2⟩ := List.getElem_of_mem ((hmem y).2 hy)
      have := W.a q y (by omega) (by rw [List.getElem?_eq_getElem hq, e2])
      rw [hPp] at this
      exact hp this
    have hnn : ∀ y ∈ l, ∃ x : Nat, x ≤ M.n ∧ y = x := fun y hy => S.gi.nat hr ((hmem y).1 hy)
    have hy1 : ∀ y ∈ l.take f, Sb (M.go y.toNat k) := fun y hy => by
      obtain ⟨q, hq, e⟩ := List.getElem_of_mem hy
      have hyl := List.mem_of_mem_take hy
      rw [List.length_take] at hq
      rw [List.getElem_take] at e
      have hp := W.a q y (by omega) (by rw [List.getElem?_eq_getElem (by omega), e])
      obtain ⟨x, hx, rfl⟩ := hnn y hyl
      rw [hPp] at hp
      exact (hP x hx ((hmem _).1 hyl)).1 hp
    have hy2 : ∀ y ∈ l.drop f, ¬ Sb (M.go y.toNat k) := fun y hy => by
      obtain ⟨q, hq, e⟩ := List.getElem_of_mem hy
      have hyl := List.mem_of_mem_drop hy
      rw [List.length_drop] at hq
      rw [List.getElem_drop] at e
      have hp := W.b (f + q) y (by omega) (by omega) (by rw [List.getElem?_eq_getElem (by omega), e])
      obtain ⟨x, hx, rfl⟩ := hnn y hyl
      rw [hPp] at hp
      exact fun hh => hp ((hP x hx ((hmem _).1 hyl)).2 hh)
    have S1 := S.md0 mb
    obtain ⟨A0, hA0⟩ : ∃ A0, a = some A0 := by
      obtain ⟨A, hA, _⟩ := (O.row enci1) 0 _ (List.getElem?_eq_getElem (by omega : 0 < l.length))
      exact ⟨A, hA⟩
    subst hA0
    have hAb := hab A0 rfl
    have hAf : A0.block ∉ fpP n m s := fun h => by have := (S.pw.flo _ h).2; omega
    have hbG : b < s.G.length := by omega
    obtain ⟨q1, S2, m2⟩ := S1.pw.noL.putG hbG (some A0, l.length, c)
    have hga : blkO s.ga ⊆ fpP n m s := fun z hz => by simp only [fpP, List.mem_cons, List.mem_append]; exact .inr (.inr (.inl (.inl hz)))
    rw [← hll]
    refine NN_in <| S1.pw.blk.ld' rfl <| opL_in ⟨(S1.pw.gO.row enchE).ix hbG, fun hh => ?_, q1, ?_⟩
    · obtain ⟨A, hA, _⟩ := (S1.pw.gO.row enchE) b _ (List.getElem?_eq_getElem hbG)
      rw [hA, adAt_blk] at hh
      have e : A.block = n39 := by simpa using hh
      exact hn39.2 (hga (by rw [hA, ← e]; exact blkO_some))
    · generalize hw1 : setCells w240 (adAt s.ga (b : Int) 1) 0 (hE (some A0, l.length, c)) = w1 at S2 m2
      have ew1 : setCells w240 (adAt s.ga (b : Int) 1) 0 [.slice (some A0) l.length c] = w1 := hw1
      rw [ew1]
      have mw1 : Md (fpP n m s) wb w1 := (mb.mono (by simp)).trans (m2.mono hga)
      have m2' : Md (fpP n m s) w240 w1 := m2.mono hga
      have r1 : RowAt w1 (some A0) 1 i1 l := (O.row enci1).mdD m2' fun A hA => by injection hA with hA; rw [← hA]; exact hAf
      have hG2 : ({ s with G := s.G.set b (some A0, l.length, c) } : GPS).G.length = s.G.length := by simp
      have C := f231_ok S2 (b := b) (h := f) (A0 := A0) (pc := c) (r := l) (by show (s.G.set b _)[b]? = _; rw [List.getElem?_set]; simp [hbG]) r1 hAf O.cap h0 hfl (fun y hy => by
        obtain ⟨x, hx, rfl⟩ := hnn y hy
        have := S.gi.al
        show (0 : Int) ≤ (x : Int) ∧ (x : Int) < ((s.at'.length : Nat) : Int)
        omega) (by omega) (by omega) (by show s.td.length < _; omega) (by omega) (by rw [hG2]; omega) (by show s.at'.length < _; have := S.gi.al; omega)
      refine Ct.callD C (fun d hd => ?_) (fun d hd => ?_) fun v w' hv m3 => ?_
      · have e : d = n39 := by simpa using hd
        rw [e]; exact Nat.lt_of_lt_of_le hn39.1 mw1.size
      · have e : d = n39 := by simpa using hd
        rw [e]; exact hn39.2
      · obtain ⟨rfl, ga, gc, ta, tc, td, ml, ng, nt, S3, T⟩ := hv
        refine opTu_in <| SzIs_in rfl ?_
        rw [hG2, hGl] at S3 T
        have m3' : Md (fpP n m s) w1 w' := m3
        have mAll : Md (fpP n m s) wb w' := mw1.trans m3'
        have gr : ∀ d ∈ fpP n m { s with ga := ga, gc := gc, G := (s.G.set b (some A0, l.length, c)).set b (some A0, f, f) ++ [(some (A0.add f), l.length - f, l.length - f)], at' := atSet GS.length (l.drop f) s.at', ta := ta, tc := tc, td := td, ml := ml }, d ∈ fpP n m s ∨ w1.heap.size ≤ d :=
          fpP_new ng (NewO.refl _ _) nt
        have ew : wb.heap.size ≤ w1.heap.size := mw1.size
        have hA1 : A0.block < w1.heap.size := Nat.lt_of_lt_of_le (O.lt rfl).2 m2.size
        obtain ⟨s', hs'⟩ : ∃ s', s' = ({ s with ga := ga, gc := gc, G := (s.G.set b (some A0, l.length, c)).set b (some A0, f, f) ++ [(some (A0.add f), l.length - f, l.length - f)], at' := atSet GS.length (l.drop f) s.at', ta := ta, tc := tc, td := td, ml := ml } : GPS) := ⟨_, rfl⟩
        have S3' : PW gb [] w0 w' n m M.m X Y s' := by rw [hs']; exact S3
        rw [← hs'] at gr
        have gr' : Grw wb (fpP n m s) (fpP n m s') := fun d hd => (gr d hd).imp id (by omega)
        have hA3 : A0.block ∉ fpP n m s' := fun h => by
          rcases gr _ h with h | h
          · exact hAf h
          · omega
        have hA4 : A0.block < w'.heap.size := Nat.lt_of_lt_of_le hA1 m3.size
        have r3 : RowAt w' (some A0) 1 i1 l := r1.mdD m3' fun A hA => by injection hA with hA; rw [← hA]; exact hAf
        have eG : s'.G = s.G.set b (some A0, f, f) ++ [(some (A0.add f), l.length - f, l.length - f)] := by rw [hs']; simp
        have ea : s'.at' = atSet GS.length (l.drop f) s.at' := by rw [hs']
        have et : s'.td = td := by rw [hs']
        have sp := GI.split hM S.gi hk hr W.pm h0 hfl hy1 hy2 hS hU T
        rw [← ea, ← et] at sp
        refine K s' (GS.set b (l.take f) ++ [l.drop f]) w' ⟨S3'.withL fun d hd => ?_, sp, ⟨?_, fun q p z hp hz => ?_⟩, S.fb.keep mAll (Grw.refl _ _) gr'⟩ mAll gr' (by simp) ?_ fun x q hx hq hqb => ?_
        · have e : d = n39 := by simpa using hd
          rw [e]
          refine ⟨Nat.lt_of_lt_of_le hn39.1 mAll.size, fun hh => ?_⟩
          rcases gr' _ hh with h | h
          · exact hn39.2 h
          · omega
        · rw [eG]; simp [hGl]
        · rw [eG] at hp
          rcases Nat.lt_trichotomy q GS.length with hq | hq | hq
          · rw [List.getElem?_append_left (by simpa [hGl] using hq), List.getElem?_set] at hp
            rw [List.getElem?_append_left (by simpa using hq), List.getElem?_set] at hz
            by_cases e : b = q
            · simp only [e, if_true] at hp hz
              rw [if_pos (by omega)] at hp
              rw [if_pos (by omega)] at hz
              injection hp with hp
              injection hz with hz
              rw [← hp, ← hz]
              refine ⟨by show f = (l.take f).length; rw [List.length_take]; omega, by show (l.take f).length ≤ f; rw [List.length_take]; omega, r3.take f, fun A hA _ => ?_⟩
              injection hA with hA
              rw [← hA]; exact ⟨hA4, hA3⟩
            · simp only [e, if_false] at hp hz
              obtain ⟨u1, u2, u3⟩ := S.pr.2 q p z hp hz
              exact ⟨u1, u2, u3.keep mAll (Grw.refl _ _) gr'⟩
          · subst hq
            rw [List.getElem?_append_right (by simp [hGl])] at hp
            rw [List.getElem?_append_right (by simp)] at hz
            simp [hGl] at hp hz
            rw [← hp, ← hz]
            have r4 : RowAt w' (some (A0.add f)) 1 i1 (l.drop f) := by have := r3.drop f; rw [Nat.mul_one] at this; exact this
            refine ⟨by show l.length - f = (l.drop f).length; rw [List.length_drop], by show (l.drop f).length ≤ l.length - f; rw [List.length_drop]; omega, r4, fun A hA _ => ?_⟩
            injection hA with hA
            rw [← hA, add_block]; exact ⟨hA4, hA3⟩
          · have := (List.getElem?_eq_some_iff.1 hz).1
            simp at this; omega
        · rw [et]
          have hT : td.length ≤ s.td.length + (M.m : Int).toNat := T.len
          omega
        · rw [ea]
          have hnn0 : ∀ y ∈ l.drop f, 0 ≤ y := fun y hy => by obtain ⟨x, _, rfl⟩ := hnn y (List.mem_of_mem_drop hy); omega
          unfold atN
          rw [List.getD_eq_getElem?_getD, List.getD_eq_getElem?_getD, atSet_get _ _ _ _ hnn0 (by rw [S.gi.al]; omega)]
          by_cases e : (x : Int) ∈ l.drop f
          · rw [if_pos e]
            have h3 : atN s.at' x = b := (S.gi.mem hr hx).1 ((hmem _).1 (List.mem_of_mem_drop e))
            unfold atN at h3
            rw [List.getD_eq_getElem?_getD] at h3
            rw [h3]
            simp only [Option.getD_some]
            constructor <;> intro h <;> omega
          · rw [if_neg e]
end Fk
set_option linter.unusedVariables false
set_option linter.unusedSimpArgs false
set_option linter.unusedSectionVars false
set_option maxRecDepth 100000
set_option maxHeartbeats 1000000
namespace Fk
open Go Go.Proofs Go.RowKit
theorem GI.atI {M : Mch} {GS : List (List Int)} {at' : List Int} {td : List (Int × Int)} {ex : Nat → Nat → Nat → Prop} (h : GI M GS at' td ex) {x : Nat} (hx : x ≤ M.n) : Fk.atI at' (x : Int) = (atN at' x : Int) := by
  obtain ⟨a, _, e⟩ := h.ar x hx
  rw [atN_of e]
  unfold Fk.atI
  rw [List.getD_eq_getElem?_getD, Int.toNat_natCast, e]; rfl
theorem GI.tdb {M : Mch} {GS : List (List Int)} {at' : List Int} {td : List (Int × Int)} {ex : Nat → Nat → Nat → Prop} (h : GI M GS at' td ex) (hn : td.Nodup) (hm256 : M.m ≤ 256) (hn12 : M.n < 2 ^ 12) : td.length < 2 ^ 29 := by
  have h1 := h.tdl hn
  have h2 := h.gl
  have h3 : GS.length * M.m ≤ 2 ^ 12 * 256 := Nat.mul_le_mul (by omega) hm256
  omega
theorem RowAt.ixn {α : Type} {w : World} {A : Option Addr} {size : Nat} {enc : α → List Value} {l : List α} (h : RowAt w A size enc l) {i n : Nat} (hi : i < l.length) (hn : l.length = n) : IxOk (i : Int) n A := hn ▸ h.ix hi
theorem P222D_ok {gb : Nat} {w0 w100 : World} {n m n39 n78 : Nat} {M : Mch} {X Y : Value} {s : GPS} {GS : List (List Int)} {k b0 oc : Nat} {Sb : Nat → Prop} {V O : List Int} {oa : Option Addr} {rf : List Nat} {J3 : List Value → List Value → World → Prop}
    (hM : M.ok) (hk : k < M.m) (hm256 : M.m ≤ 256) (hn12 : M.n < 2 ^ 12) (S : GpS gb [n39] w0 w100 n m M X Y s GS (Exc M (atN s.at') k Sb fun a => (a : Int) ∈ O)) (H : Hts w100 b0 n78 s.at' V oa oc O rf) (HO : OM s.at' V O) (hf : ∀ d ∈ fpP n m s, d < b0)
    (hV : ∀ x : Nat, x ≤ M.n → ((x : Int) ∈ V ↔ Sb (M.go x k))) (hVn : ∀ y ∈ V, ∃ x : Nat, x ≤ M.n ∧ y = x) (hVd : V.Nodup) (hS : ∀ u v, u ≤ M.n → v ≤ M.n → M.alike u v → (Sb u ↔ Sb v))
    (K : ∀ s' GS' w', GpS gb [n39] w0 w' n m M X Y s' GS' (fun _ _ _ => False) → Md (fpP n m s) w100 w' → Grw w100 (fpP n m s) (fpP n m s') → (M.n + 1 - GS'.length) * (M.m + 1) + s'.td.length ≤ (M.n + 1 - GS.length) * (M.m + 1) + s.td.length → J3 [] [] w') :
    P222D (some ⟨n, 0, none⟩) J3 n39 n78 w100 oa O.length O.length := by
  have hOb : ∀ g ∈ O, ∃ b : Nat, g = b ∧ b < GS.length ∧ ∃ x : Nat, x ≤ M.n ∧ (x : Int) ∈ V ∧ atN s.at' x = b := fun g hg => by
    obtain ⟨y, hy, e⟩ := (HO g).1 hg
    obtain ⟨x, hx, rfl⟩ := hVn y hy
    rw [S.gi.atI hx] at e
    obtain ⟨a, ha, e2⟩ := S.gi.ar x hx
    exact ⟨_, e.symm, by rw [atN_of e2]; exact ha, x, hx, hy, rfl⟩
  have hOl : O.length ≤ GS.length := by
    have sub : O ⊆ (List.range GS.length).map fun x : Nat => (x : Int) := fun g hg => by
      obtain ⟨b, e, hb, _⟩ := hOb g hg
      exact List.mem_map.2 ⟨b, List.mem_range.2 hb, e.symm⟩
    have := H.on.length_le_of_subset sub
    simpa using this
  have hgl0 := S.gi.gl
  unfold P222D
  refine LoopP_in (fun mm us vs w' => ∃ (i : Nat) (s' : GPS) (GS' : List (List Int)), us = [.int .i64 i] ∧ mm = O.length - i ∧ i ≤ O.length ∧ GpS gb [n39] w0 w' n m M X Y s' GS' (Exc M (atN s'.at') k Sb fun a => (a : Int) ∈ O.drop i) ∧ Md (fpP n m s) w100 w' ∧ Grw w100 (fpP n m s) (fpP n m s') ∧
      GS.length ≤ GS'.length ∧ (∀ x a : Nat, x ≤ M.n → (a : Int) ∈ O.drop i → (atN s'.at' x = a ↔ atN s.at' x = a)) ∧ (M.n + 1 - GS'.length) * (M.m + 1) + s'.td.length ≤ (M.n + 1 - GS.length) * (M.m + 1) + s.td.length) O.length
    ⟨0, s, GS, rfl, rfl, by omega, by simpa using S, Md.refl _ _, Grw.refl _ _, Nat.le_refl _, fun _ _ _ _ => Iff.rfl, Nat.le_refl _⟩ ?_
  rintro mm us vs w183 ⟨i, s', GS', rfl, hmm, hi, S', m1, g1, hGG, hat, hmu⟩
  refine opI_in <| Bd_in fun b185 hb185 => If_in (fun hb => ?_) fun hb => ?_
  · have hil : i < O.length := by
      rw [hb185] at hb
      have : (i : Int) < ((O.length : Nat) : Int) := of_decide_eq_true hb
      omega
    obtain ⟨b, hgb, hbl, hxb⟩ := hOb _ (List.getElem_mem hil)
    have hdr : O.drop i = (b : Int) :: O.drop (i + 1) := by rw [List.drop_eq_getElem_cons hil, hgb]
    obtain ⟨J, hJ⟩ : ∃ J : List Value → List Value → World → Prop, J = (fun us vs w' => us = [.int .i64 (b : Int)] ∧ ∃ (s' : GPS) (GS' : List (List Int)), GpS gb [n39] w0 w' n m M X Y s' GS' (Exc M (atN s'.at') k Sb fun a => (a : Int) ∈ O.drop (i + 1)) ∧ Md (fpP n m s) w100 w' ∧ Grw w100 (fpP n m s) (fpP n m s') ∧
      GS.length ≤ GS'.length ∧ (∀ x a : Nat, x ≤ M.n → (a : Int) ∈ O.drop (i + 1) → (atN s'.at' x = a ↔ atN s.at' x = a)) ∧ (M.n + 1 - GS'.length) * (M.m + 1) + s'.td.length ≤ (M.n + 1 - GS.length) * (M.m + 1) + s.td.length) := ⟨_, rfl⟩
    refine Jn_in J ?_ ?_
    · intro us vs w188 hj
      rw [hJ] at hj
      obtain ⟨rfl, s', GS', q1, q2, q3, q4, q5, q6⟩ := hj
      exact opI_in <| Bd_e (inc_i64 (by omega)) ⟨O.length - (i + 1), by omega, i + 1, s', GS', rfl, rfl, by omega, q1, q2, q3, q4, q5, q6⟩
    · have rowO : RowAt w183 oa 1 i1 O := (H.oO.row enci1).mdD m1 fun A hA hd => by have := (H.oO.lt hA).1; have := hf _ hd; omega
      have m78 : MapAt w183 n78 vI vM (O.zip rf) := H.mO.md m1 fun hd => by have := hf _ hd; have := H.n0; omega
      obtain ⟨j, rr, f1, f2, f3⟩ := H.find (List.getElem_mem hil)
      have mrr : MapAt w183 rr vI vI (inn s.at' V O[i]) := (H.cn j _ rr f1 f2).md m1 fun hd => by have := hf _ hd; have := (H.rb rr (List.mem_of_getElem? f2)).1; omega
      refine ⟨rowO.ix hil, rowO.ld1 hil rfl <| opI_in ?_⟩
      rw [hgb] at f3 mrr ⊢
      obtain ⟨r, hr⟩ : ∃ r, GS'[b]? = some r := ⟨_, List.getElem?_eq_getElem (by omega)⟩
      have hGl : s'.G.length = GS'.length := S'.pr.1
      have hbG : b < s'.G.length := by omega
      obtain ⟨p, hp⟩ : ∃ p, s'.G[b]? = some p := ⟨_, List.getElem?_eq_getElem hbG⟩
      have hpe : s'.G[b]'hbG = p := (List.getElem?_eq_some_iff.1 hp).2
      obtain ⟨u1, u2, u3⟩ := S'.pr.2 b p r hp hr
      have hrl := S'.gi.rlen hr
      obtain ⟨hr1, hr2, hr3⟩ := S'.gi.rg b r hr
      have hmemr : ∀ x : Nat, x ≤ M.n → ((x : Int) ∈ r ↔ atN s.at' x = b) := fun x hx => by
        rw [S'.gi.mem hr hx]
        exact hat x b hx (by rw [hdr]; simp)
      have hfl : (inn s.at' V b).length = (V.filter fun y => decide (atI s.at' y = b)).length := by unfold inn; rw [List.length_map]
      have hfs : (V.filter fun y => decide (atI s.at' y = b)) ⊆ r := fun y hy => by
        obtain ⟨h1, h2⟩ := List.mem_filter.1 hy
        obtain ⟨x, hx, rfl⟩ := hVn y h1
        have h2 := of_decide_eq_true h2
        rw [S.gi.atI hx] at h2
        exact (hmemr x hx).2 (by omega)
      have hfn : (V.filter fun y => decide (atI s.at' y = b)).Nodup := hVd.filter _
      have dw : Md [] w183 w183.drew := Md_drew w183
      refine ⟨fun w' => Md [] w183 w', dw, _, fun w' h' => ⟨mapIM.lookup0 (m78.md h' (by simp)) b (.map none) (zero248 _)⟩, ?_⟩
      rw [f3]
      refine opM_in ⟨_, fun w' h' => ⟨run_len_map (P := Try.prog) (kt := 3) (et := 3) (by kernel_rfl) (mrr.md h' (by simp))⟩, opI_in <| NN_in ⟨_, fun w' h' => (S'.pw.md0 h').blk.ld' rfl rfl, opL_in ⟨(S'.pw.gO.row enchE).ix hbG, _, fun w' h' => ((S'.pw.md0 h').gO.row enchE).ld1 hbG (by rw [hpe]; rfl) rfl, opL_in <| Bd_e rfl <| Bd_in fun b219 hb219 => If_in (fun hz => ?_) fun hz => ?_⟩⟩⟩
      · have hlt : (inn s.at' V b).length < r.length := by
          rw [hb219] at hz
          have : (((inn s.at' V b).length : Nat) : Int) < ((p.2.1 : Nat) : Int) := of_decide_eq_true hz
          omega
        intro n220 w221' e220 e221
        subst e220; subst e221
        have ma : Md [] w183.drew (w183.drew.alloc (.cells #[] 3)) := Md.alloc (M := []) _ _
        have h0 : OwnL (w183.drew.alloc (.cells #[] 3)) w183.heap.size 3 1 i1 (some ⟨w183.drew.heap.size, 0, none⟩) 0 ([] : List Int) := OwnL.lit (P := Try.prog) enci1 _ _ [] #[] (Nat.le_refl _) (by simp [maxLen]) rfl
        have mda : Md [] w183 (w183.drew.alloc (.cells #[] 3)) := dw.trans ma
        obtain ⟨w221, hw221⟩ : ∃ w, w = w183.drew.alloc (.cells #[] 3) := ⟨_, rfl⟩
        rw [← hw221] at h0 mda ⊢
        have S2 := S'.md0 mda
        refine NN_in <| S2.pw.blk.ld' rfl <| opL_in ⟨(S2.pw.gO.row enchE).ix hbG, (S2.pw.gO.row enchE).ld1 hbG (by rw [hpe]; rfl) <| opL_in ?_⟩
        have r2 : RowAt w221 p.1 1 i1 r := u3.1.md mda
        have r2s : p.1.isSome = true := by
          obtain ⟨A, hA, _⟩ := r2 0 _ (List.getElem?_eq_getElem (List.length_pos_iff.2 hr1))
          rw [hA]; rfl
        refine appR rowT52 enci1 u1 h0 r2 r2s mda.size (fun d hd => ?_) (fun d hd A hA e => ?_) (by simp [maxLen]; omega) (by simp; omega) fun a' c' w232 o5 m5 hA => ?_
        · have e : d = n39 := by simpa using hd
          rw [e]; exact Nat.lt_of_lt_of_le (S'.pw.nl n39 (by simp)).1 mda.size
        · have e' : d = n39 := by simpa using hd
          injection hA with hA
          rw [← hA] at e
          have h1 := (S'.pw.nl n39 (by simp)).1
          have h2 : w183.drew.heap.size = d := e
          have h3 : w183.drew.heap.size = w183.heap.size := rfl
          omega
        · rw [List.nil_append] at o5 ⊢
          refine opL_in <| Bd_e rfl ?_
          have m6 : Md [] w183 w232 := mda.old m5 fun d hd => by
            obtain ⟨A, hA, e⟩ := blkO_mem hd
            injection hA with hA
            rw [← e, ← hA]
            exact Nat.le_refl _
          refine P222E_ok hM hk hm256 hn12 S' hr m6 o5 m78 f3 mrr (fun x hx hxr => ?_) ?_ ?_ hS (fun a ha => ?_) (S'.gi.tdb S'.pw.nd hm256 hn12) fun s2 GS2 w2 S3 m3 g3 hl3 ht3 hc3 => ?_
          · have := (hmemr x hx).1 hxr
            rw [S.gi.atI hx, hV x hx]
            exact ⟨fun h => h.1, fun h => ⟨h, by omega⟩⟩
          · obtain ⟨x, hx, hxV, e⟩ := hxb
            exact ⟨x, (hmemr x hx).2 e, hxV, by rw [S.gi.atI hx]; omega⟩
          · refine Classical.byContradiction fun hn => ?_
            have sub : r ⊆ V.filter fun y => decide (atI s.at' y = b) := fun y hy => by
              have := Classical.byContradiction fun hh => hn ⟨y, hy, hh⟩
              exact List.mem_filter.2 ⟨this.1, by simpa using this.2⟩
            have := hr2.length_le_of_subset sub
            omega
          · obtain ⟨b', e, hb', _⟩ := hOb _ (List.mem_of_mem_drop ha)
            omega
          · rw [hJ]
            refine ⟨rfl, s2, GS2, ⟨S3.pw, S3.gi.weak fun x y j _ _ _ ⟨e1, e2, e3⟩ => ⟨e1, e2, ?_⟩, S3.pr, S3.fb⟩, m1.frD m3 g1, g1.trans g3 m1.size, by omega, fun x a hx ha => ?_, ?_⟩
            · have := e3.1
              rw [hdr] at this
              rcases List.mem_cons.1 this with h | h
              · exact absurd (by omega) e3.2
              · exact h
            · have ha' : (a : Int) ∈ O.drop i := by rw [hdr]; exact List.mem_cons_of_mem _ ha
              obtain ⟨b', e, hb', _⟩ := hOb _ (List.mem_of_mem_drop ha)
              have hne : a ≠ b := fun e => by
                have hnd := H.on
                rw [← List.take_append_drop i O, List.nodup_append, hdr, List.nodup_cons] at hnd
                exact hnd.2.1.1 (by rw [← e]; exact ha)
              exact (hc3 x a hx (by omega) hne).trans (hat x a hx ha')
            · have h1 := S3.gi.gl
              have h2 : M.n + 1 - GS'.length = (M.n + 1 - GS2.length) + 1 := by omega
              rw [h2, Nat.succ_mul] at hmu
              omega
      · have hge : r.length ≤ (inn s.at' V b).length := by
          rw [hb219] at hz
          have : ¬ (((inn s.at' V b).length : Nat) : Int) < ((p.2.1 : Nat) : Int) := of_decide_eq_false hz
          omega
        have all := sub_of_len hfn hfs (by omega)
        have hall : ∀ x : Nat, x ≤ M.n → atN s'.at' x = b → Sb (M.go x k) := fun x hx e => by
          have := all ((S'.gi.mem hr hx).2 e)
          exact (hV x hx).1 (List.mem_filter.1 this).1
        rw [hJ]
        refine ⟨rfl, s', GS', ⟨S'.pw.md0 dw, S'.gi.weak fun x y j hx hy hxy ⟨e1, e2, e3⟩ => ⟨e1, e2, ?_⟩, (S'.md0 dw).pr, (S'.md0 dw).fb⟩, m1.trans (dw.mono (by simp)), g1, hGG, fun x a hx ha => ?_, hmu⟩
        · rw [hdr] at e3
          rcases List.mem_cons.1 e3 with h | h
          · have hxb : atN s'.at' x = b := by omega
            exact absurd ⟨fun _ => hall y hy (by rw [← hxy]; exact hxb), fun _ => hall x hx hxb⟩ e2
          · exact h
        · exact hat x a hx (by rw [hdr]; exact List.mem_cons_of_mem _ ha)
  · have hil : i = O.length := by
      have : ¬ (i : Int) < ((O.length : Nat) : Int) := by rw [hb185] at hb; exact of_decide_eq_false hb
      omega
    subst hil
    refine K s' GS' w183 ⟨S'.pw, S'.gi.weak fun x y j _ _ _ ⟨_, _, e⟩ => ?_, S'.pr, S'.fb⟩ m1 g1 hmu
    rw [List.drop_length] at e
    cases e
theorem vvI_snoc {M : Mch} {k : Nat} {r : List Int} {i : Nat} (hi : i < r.length) : vvI M k (r.take (i + 1)) = vvI M k (r.take i) ++ srcI M k (r[i]).toNat := by
  unfold vvI
  rw [List.take_succ_eq_append_getElem hi, List.flatMap_append]
  simp
theorem P222B_ok {gb : Nat} {w0 ws w79 : World} {n m n39 n78 : Nat} {M : Mch} {X Y : Value} {s : GPS} {GS : List (List Int)} {k b : Nat} {r : List Int} {p : HS3} {J3 : List Value → List Value → World → Prop}
    (hM : M.ok) (hk : k < M.m) (hm256 : M.m ≤ 256) (hn12 : M.n < 2 ^ 12) (S : GpS gb [n39] w0 ws n m M X Y s GS (Exc M (atN s.at') k (fun x => atN s.at' x = b) fun _ => True)) (hr : GS[b]? = some r) (hp : s.G[b]? = some p) (m1 : Md [] ws w79) (m78 : MapAt w79 n78 vI vM ([] : List (Int × Nat))) (h78 : ws.heap.size ≤ n78)
    (K : ∀ s' GS' w', GpS gb [n39] w0 w' n m M X Y s' GS' (fun _ _ _ => False) → Md (fpP n m s) ws w' → Grw ws (fpP n m s) (fpP n m s') → (M.n + 1 - GS'.length) * (M.m + 1) + s'.td.length ≤ (M.n + 1 - GS.length) * (M.m + 1) + s.td.length → J3 [] [] w') :
    P222B (some ⟨n, 0, none⟩) J3 (k : Int) n39 n78 w79 p.1 p.2.1 p.2.1 := by
  obtain ⟨u1, u2, u3⟩ := S.pr.2 b p r hp hr
  obtain ⟨hr1, hr2, hr3⟩ := S.gi.rg b r hr
  have hrn : ∀ y ∈ r, 0 ≤ y := fun y hy => by obtain ⟨x, _, rfl⟩ := S.gi.nat hr hy; omega
  have hrl := S.gi.rlen hr
  have hal := S.gi.al
  rw [u1]
  have dw : Md [] w79 w79.drew := Md_drew w79
  obtain ⟨ya, yc, YH, eY, hYl, hYr, hYb⟩ := S.fb.bk
  have vl : ∀ r', (∀ y ∈ r', y ∈ r) → r'.Nodup → (vvI M k r').length ≤ M.n + 1 := fun r' hr' hn' => by
    have hz : ∀ y ∈ r', 0 ≤ y := fun y hy => hrn y (hr' y hy)
    have sub : vvI M k r' ⊆ (List.range (M.n + 1)).map (fun x : Nat => (x : Int)) := fun y hy => by
      obtain ⟨x, hx, rfl, _⟩ := (vvI_mem hz).1 hy
      exact List.mem_map.2 ⟨x, List.mem_range.2 (by omega), rfl⟩
    have := (vvI_nodup hz hn').length_le_of_subset sub
    simpa using this
  unfold P222B
  refine LoopP_in (fun mm us vs w' => ∃ (i : Nat) (oa : Option Addr) (oc : Nat) (O : List Int) (rf : List Nat), us = [.slice oa O.length oc, .int .i64 i] ∧ mm = r.length - i ∧ i ≤ r.length ∧ Hts w' ws.heap.size n78 s.at' (vvI M k (r.take i)) oa oc O rf ∧ OM s.at' (vvI M k (r.take i)) O ∧ Md [] ws w') r.length
    ⟨0, none, 0, [], [], rfl, rfl, by omega, ⟨OwnL.nil _ _ _ _ _, m78.md dw (by simp), rfl, h78, by simp, by simp, by simp, by simp⟩, fun g => by simp [vvI], m1.trans dw⟩ ?_
  clear m1 m78 dw
  rintro mm us vs w100 ⟨i, oa, oc, O, rf, rfl, hmm, hi, H, HO, m1⟩
  refine opL_in <| opI_in <| Bd_in fun b105 hb105 => If_in (fun hb => ?_) fun hb => ?_
  · have hil : i < r.length := by
      rw [hb105] at hb
      have : (i : Int) < ((r.length : Nat) : Int) := of_decide_eq_true hb
      omega
    have rr := u3.1.md m1
    have hti : ∀ j, ∀ y ∈ r.take j, y ∈ r := fun j y hy => List.mem_of_mem_take hy
    have hsn := vvI_snoc (M := M) (k := k) hil
    have hnd : (vvI M k (r.take (i + 1))).Nodup := vvI_nodup (fun y hy => hrn y (hti _ y hy)) (hr2.sublist (List.take_sublist _ _))
    have hvl := vl (r.take (i + 1)) (hti _) (hr2.sublist (List.take_sublist _ _))
    rw [hsn] at hnd hvl
    refine ⟨rr.ix hil, rr.ld1 hil rfl <| opI_in ?_⟩
    obtain ⟨x, hx, ex⟩ := S.gi.nat hr (List.getElem_mem hil)
    rw [ex] at hsn hnd hvl ⊢
    rw [Int.toNat_natCast] at hsn hnd hvl
    have hkY : k < YH.length := by omega
    obtain ⟨q1, B, hBl, hBr, hBs⟩ := hYb k YH[k] (List.getElem?_eq_getElem hkY)
    have hxB : x < B.length := by omega
    obtain ⟨v1, v2⟩ := hBs x B[x] (List.getElem?_eq_getElem hxB)
    refine ⟨fun w' => Md [] ws w', m1.trans (Md_drew _), NN_in ⟨_, fun w' h' => (S.pw.md0 h').blk.ld' rfl rfl, ?_⟩⟩
    rw [eY]
    refine opL_in ⟨hYr.1.ixn hkY hYl, _, fun w' h' => (hYr.1.md h').ld1 hkY rfl rfl, opL_in ⟨hBr.1.ixn hxB (by omega), _, fun w' h' => (hBr.1.md h').ld1 hxB rfl rfl, opL_in <| Bd_e rfl ?_⟩⟩
    rw [v1]
    refine P222C_ok S.pw rfl m1 H HO v2.1 hnd (fun y hy => ?_) (by omega) fun oa' oc' O' rf' w' H' HO' m' => ?_
    · obtain ⟨z, hz, rfl, _⟩ := srcI_mem.1 hy
      omega
    · rw [← hsn] at H' HO'
      exact Bd_e (inc_i64 (by omega)) ⟨r.length - (i + 1), by omega, i + 1, oa', oc', O', rf', rfl, rfl, by omega, H', HO', m'⟩
  · have hil : i = r.length := by
      have : ¬ (i : Int) < ((r.length : Nat) : Int) := by rw [hb105] at hb; exact of_decide_eq_false hb
      omega
    rw [hil, List.take_length] at H HO
    refine Bd_e rfl ?_
    have S1 := S.md0 m1
    have hVi : ∀ x : Nat, x ≤ M.n → ((x : Int) ∈ vvI M k r ↔ atN s.at' (M.go x k) = b) := fun x hx => by
      rw [vvI_mem hrn, ← S.gi.mem hr (hM.st x hx k hk)]
      constructor
      · rintro ⟨y, h1, h2, h3⟩
        have e : x = y := by omega
        rw [e]; exact h3
      · intro h; exact ⟨x, hx, rfl, h⟩
    refine P222D_ok hM hk hm256 hn12 (Sb := fun x => atN s.at' x = b) ⟨S1.pw, S1.gi.weak fun x y j hx hy hxy ⟨e1, e2, _⟩ => ⟨e1, e2, ?_⟩, S1.pr, S1.fb⟩ H HO (fun d hd => (S.pw.flo d hd).2) hVi (fun y hy => ?_) (vvI_nodup hrn hr2) (fun u v hu hv ha => ?_) fun s' GS' w' S' m' g' hmu => ?_
    · refine (HO _).2 ?_
      by_cases c : atN s.at' (M.go x k) = b
      · exact ⟨x, (hVi x hx).2 c, S.gi.atI hx⟩
      · by_cases c2 : atN s.at' (M.go y k) = b
        · exact ⟨y, (hVi y hy).2 c2, by rw [S.gi.atI hy, hxy]⟩
        · exact absurd ⟨fun h => absurd h c, fun h => absurd h c2⟩ e2
    · obtain ⟨x, hx, rfl, _⟩ := (vvI_mem hrn).1 hy
      exact ⟨x, hx, rfl⟩
    · rw [S.gi.hi.al u v hu hv ha]
    · exact K s' GS' w' S' ((m1.mono (by simp)).trans m') (fun d hd => (g' d hd).imp id (Nat.le_trans m1.size)) hmu
end Fk
set_option linter.unusedVariables false
set_option linter.unusedSimpArgs false
set_option linter.unusedSectionVars false
set_option maxRecDepth 100000
set_option maxHeartbeats 1000000
namespace Fk
open Go Go.Proofs Go.RowKit
theorem mem_eraseIdx_nd {α : Type} {l : List α} (h : l.Nodup) {i : Nat} {x : α} (hx : l[i]? = some x) {y : α} : y ∈ l.eraseIdx i ↔ y ∈ l ∧ y ≠ x := by
  obtain ⟨hi, e⟩ := List.getElem?_eq_some_iff.1 hx
  have hl : l = l.take i ++ x :: l.drop (i + 1) := by
    have := List.take_append_drop i l
    rw [List.drop_eq_getElem_cons hi, e] at this
    exact this.symm
  rw [List.eraseIdx_eq_take_drop_succ]
  rw [hl, List.nodup_append, List.nodup_cons] at h
  obtain ⟨h1, ⟨h2, h3⟩, h4⟩ := h
  constructor
  · intro hy
    rcases List.mem_append.1 hy with hy | hy
    · exact ⟨List.mem_of_mem_take hy, fun e2 => h4 y hy x (by simp) e2⟩
    · exact ⟨List.mem_of_mem_drop hy, fun e2 => h2 (e2 ▸ hy)⟩
  · rintro ⟨hy, hne⟩
    rw [hl] at hy
    rcases List.mem_append.1 hy with hy | hy
    · exact List.mem_append_left _ hy
    · rcases List.mem_cons.1 hy with hy | hy
      · exact absurd hy hne
      · exact List.mem_append_right _ hy
section
variable {gb : Nat} {L : List Nat} {w0 w w' : World} {n m : Nat} {M : Int} {X Y : Value} {s : GPS}
/-- The last one of those that are to be held is taken off. -/
theorem PW.pop (S : PW gb L w0 w n m M X Y s) {td' : List (Int × Int)} {x : Int × Int} (hs : s.td = td' ++ [x]) (w1 : World) (hw1 : w1 = setCells w ⟨n, 5, none⟩ 0 [.slice s.ta td'.length s.tc]) :
    Wr w ⟨n, 5, none⟩ 1 ∧ Blk w1 n 247 (pL M X Y m { s with td := td' }) ∧ Md [n] w w1 ∧ ∃ w2 ml', (Builtin.delete_ #[245, 297] 0 #[.map (some m), tV x]).run Try.prog w1.drew = .ok (.tuple #[]) w2 ∧ Blk w2 n 247 (pL M X Y m { s with td := td' }) ∧
      Md [m] w1.drew w2 ∧ PW gb L w0 w2 n m M X Y { s with td := td', ml := ml' } := by
  subst hw1
  have hnm := S.nm
  have m1 : Md [n] w (setCells w ⟨n, 5, none⟩ 0 [.slice s.ta td'.length s.tc]) := Md_setCells _ _ _
  have b1 : Blk (setCells w ⟨n, 5, none⟩ 0 [.slice s.ta td'.length s.tc]) n 247 (pL M X Y m { s with td := td' }) := S.blk.set (j := 5) (by simp [pL]) (.slice s.ta td'.length s.tc)
  generalize setCells w ⟨n, 5, none⟩ 0 [.slice s.ta td'.length s.tc] = w1 at *
  have dw : Md [] w1 w1.drew := Md_drew w1
  have md1 := S.mO.md m1 (by simpa using Ne.symm hnm)
  have hxm : x ∈ s.ml.map (·.1) := (S.tk x).2 (by rw [hs]; simp)
  obtain ⟨⟨i, v⟩, hf⟩ : ∃ p, findI x s.ml 0 = some p := Option.isSome_iff_exists.1 (findI_key.2 hxm)
  obtain ⟨w2, hrun, hmap, m2⟩ := mapTI.del (ty := 0) (md1.md dw (by simp)) x hf
  have hat := (findI_at hf).2
  rw [Nat.sub_zero] at hat
  have hat1 : (s.ml.map (·.1))[i]? = some x := by rw [List.getElem?_map, hat]; rfl
  have hkeys : (s.ml.eraseIdx i).map (·.1) = (s.ml.map (·.1)).eraseIdx i := by
    rw [List.eraseIdx_eq_take_drop_succ, List.eraseIdx_eq_take_drop_succ, List.map_append, List.map_take, List.map_drop]
  have mm : Md [n, m] w w2 := ((m1.mono (by simp)).trans (dw.mono (by simp))).trans (m2.mono (by simp))
  have b2 := (b1.md dw (by simp)).md m2 (by simpa using hnm)
  have hnd := S.nd
  rw [hs, List.nodup_append] at hnd
  refine ⟨S.blk.wr (by simp [pL]), b1, m1, w2, s.ml.eraseIdx i, hrun, b2, m2, ⟨b2, S.md.old mm ?_, S.nlo, S.mlo, S.glo, Nat.le_trans S.gbs mm.size, S.gO.mdD mm ?_, S.aO.mdD mm ?_, ?_, hmap, fun y => ?_, fun p hp => S.tv p (List.mem_of_mem_eraseIdx hp), hnd.1, ?_, fun b hb => ⟨Nat.lt_of_lt_of_le (S.nl b hb).1 mm.size, (S.nl b hb).2⟩⟩⟩
  · intro d hd
    simp only [List.mem_cons, List.not_mem_nil, or_false] at hd
    rcases hd with rfl | rfl
    · exact S.nlo
    · exact S.mlo
  · intro A hA hd
    simp only [List.mem_cons, List.not_mem_nil, or_false] at hd
    rcases hd with h | h
    · exact S.gn (by rw [hA, ← h]; exact blkO_some)
    · exact S.gm (by rw [hA, ← h]; exact blkO_some)
  · intro A hA hd
    simp only [List.mem_cons, List.not_mem_nil, or_false] at hd
    rcases hd with h | h
    · exact S.an (by rw [hA, ← h]; exact blkO_some)
    · exact S.am (by rw [hA, ← h]; exact blkO_some)
  · have h0 := S.tO
    rw [hs] at h0
    refine (h0.pop enctE).mdD mm ?_
    intro A hA hd
    simp only [List.mem_cons, List.not_mem_nil, or_false] at hd
    rcases hd with h | h
    · exact S.tn (by rw [hA, ← h]; exact blkO_some)
    · exact S.tm (by rw [hA, ← h]; exact blkO_some)
  · show y ∈ (s.ml.eraseIdx i).map (·.1) ↔ y ∈ td'
    rw [hkeys, mem_eraseIdx_nd S.nk hat1, S.tk y, hs, List.mem_append, List.mem_singleton]
    constructor
    · rintro ⟨h | h, h2⟩
      · exact h
      · exact absurd h h2
    · intro h
      exact ⟨.inl h, fun e => hnd.2.2 y h x (by simp) e⟩
  · show ((s.ml.eraseIdx i).map (·.1)).Nodup
    rw [hkeys]
    exact S.nk.sublist (List.eraseIdx_sublist _ _)
end
theorem size297 (w : World) : ∃ s, (Go.sizeOf 297).run Try.prog w = .ok s w := by
  have h : (Try.prog.info? 297).isSome = true := by kernel_rfl
  obtain ⟨i, hi⟩ := Option.isSome_iff_exists.1 h
  exact ⟨i.size, by simp [Go.sizeOf, typeInfo, hi]⟩
theorem RowAt.ldT {w : World} {A : Option Addr} {l : List (Int × Int)} (h : RowAt w A 2 tE l) {i : Nat} (hi : i < l.length) {K : Value → Value → Prop} (hk : K (.int .i64 l[i].1) (.int .i64 l[i].2)) :
    Ld w ((adAt A (i : Int) 2).add 0) fun v1 => Ld w ((adAt A (i : Int) 2).add 1) fun v2 => K v1 v2 := by
  obtain ⟨B, rfl, hc⟩ := h i l[i] (List.getElem?_eq_getElem hi)
  exact Ld_in (hc 0 _ rfl) <| Ld_in (hc 1 _ rfl) hk
def P222A (p0 : Option Addr) (R : Value → World → Prop) (J3 : List Value → List Value → World → Prop) (w4 : World) : Prop :=
  NN p0 fun A5 => Ld w4 (Addr.add A5 (5 : Nat)) fun v6 => opL v6 fun a7 n8 n9 => Bd ↑n8 fun x10 => Bd (decide (x10 > (0 : Int))) fun b11 => If b11 (Dr (World.drew w4) fun J12 => NN p0 fun A13 => NN p0 fun A14 => ∃ v15, (∀ (w16 : World), J12 w16 → Ld w16 (Addr.add A13 (5 : Nat)) fun v18 => v18 = v15) ∧ opL v15 fun a19 n20 n21 => ∃ v22, (∀ (w23 : World), J12 w23 → Ld w23 (Addr.add A14 (5 : Nat)) fun v25 => v25 = v22) ∧ opL v22 fun a26 n27 n28 => Bd ↑n27 fun x29 => Bd (IntKind.wrap IntKind.i64 (x29 - (1 : Int))) fun x30 => IxOk x30 n20 a19 ∧ ∃ v31, (∀ (w32 : World), J12 w32 → Ld w32 (Addr.add (adAt a19 x30 (2 : Nat)) (0 : Nat)) fun v34 => Ld w32 (Addr.add (adAt a19 x30 (2 : Nat)) (1 : Nat)) fun v35 => Value.agg #[v34, v35] = v31) ∧ opAg v31 fun cs36 => opI IntKind.i64 (nthD (Array.toList cs36) (0 : Nat)) fun x37 => opI IntKind.i64 (nthD (Array.toList cs36) (1 : Nat)) fun x38 => SzIs (Array.size cs36) (2 : Nat) (Rg (World.drew w4) fun n39 => Up [] [n39] (World.drew w4) fun w40 => J12 w40 ∧ Up [n39] [n39] w40 fun w41 => Dr (World.drew w41) fun J42 => NN p0 fun A43 => NN p0 fun A44 => ∃ v45, (∀ (w46 : World), J42 w46 → Ld w46 (Addr.add A43 (5 : Nat)) fun v48 => v48 = v45) ∧ opL v45 fun a49 n50 n51 => ∃ v52, (∀ (w53 : World), J42 w53 → Ld w53 (Addr.add A44 (5 : Nat)) fun v55 => v55 = v52) ∧ opL v52 fun a56 n57 n58 => Bd ↑n57 fun x59 => Bd (IntKind.wrap IntKind.i64 (x59 - (1 : Int))) fun x60 => ∃ v61, (∀ (w62 : World), True → RunV Try.prog (Instr.sliceAt (244 : Nat) (Value.slice a49 n50 n51) none (some (Value.int IntKind.i64 x60)) none) v61 w62) ∧ opL v61 fun a64 n65 n66 => NN p0 fun A67 => ¬Addr.block A67 ∈ [n39] ∧ Wr (World.drew w41) (Addr.add A67 (5 : Nat)) (1 : Nat) ∧ Dr (World.drew (setCells (World.drew w41) (Addr.add A67 (5 : Nat)) (0 : Nat) [Value.slice a64 n65 n66])) fun J68 => NN p0 fun A69 => ∃ v70, (∀ (w71 : World), J68 w71 → Ld w71 (Addr.add A69 (6 : Nat)) fun v73 => v73 = v70) ∧ opM v70 fun a74 => RunW Try.prog [n39] (Builtin.delete_ #[(245 : Nat), (297 : Nat)] (0 : Nat) #[Value.map a74, Value.agg #[Value.int IntKind.i64 x37, Value.int IntKind.i64 x38]]) (fun v75 w76 => opTu v75 fun cs77 => SzIs (Array.size cs77) (0 : Nat) (J68 w76 ∧ Nw (Obj.map #[] (0 : Nat)) w76 fun n78 w79 => Dr (World.drew w79) fun J80 => NN p0 fun A81 => ∃ v82, (∀ (w83 : World), J80 w83 → Ld w83 (Addr.add A81 (3 : Nat)) fun v85 => v85 = v82) ∧ opL v82 fun a86 n87 n88 => IxOk x37 n87 a86 ∧ ∃ v89, (∀ (w90 : World), J80 w90 → Ld w90 (adAt a86 x37 (1 : Nat)) fun v92 => v92 = v89) ∧ opL v89 fun a93 n94 n95 => Bd ↑n94 fun x96 => (P222B p0 J3 x38 n39 n78 w79 a93 n94 x96))) (World.drew (setCells (World.drew w41) (Addr.add A67 (5 : Nat)) (0 : Nat) [Value.slice a64 n65 n66])))) (R (Value.tuple #[]) w4)
theorem P222A_ok {gb : Nat} {w0 w4 : World} {n m : Nat} {M : Mch} {X Y : Value} {s1 : GPS} {GS1 : List (List Int)} {R : Value → World → Prop} {J3 : List Value → List Value → World → Prop} (hM : M.ok) (hm256 : M.m ≤ 256) (hn12 : M.n < 2 ^ 12) (S : GpS gb [] w0 w4 n m M X Y s1 GS1 fun _ _ _ => False)
    (K : ∀ s' GS' w', GpS gb [] w0 w' n m M X Y s' GS' (fun _ _ _ => False) → Md (fpP n m s1) w4 w' → Grw w4 (fpP n m s1) (fpP n m s') → (M.n + 1 - GS'.length) * (M.m + 1) + s'.td.length < (M.n + 1 - GS1.length) * (M.m + 1) + s1.td.length → J3 [] [] w') (K2 : s1.td = [] → R (.tuple #[]) w4) :
    P222A (some ⟨n, 0, none⟩) R J3 w4 := by
  unfold P222A
  refine NN_in <| S.pw.blk.ld' rfl <| opL_in <| Bd_e rfl <| Bd_in fun b11 hb11 => If_in (fun hb => ?_) fun hb => ?_
  · have htd : s1.td ≠ [] := by
      rw [hb11] at hb
      have h1 : ((s1.td.length : Nat) : Int) > 0 := of_decide_eq_true hb
      intro e
      rw [e] at h1
      simp at h1
    obtain ⟨td', x, htx⟩ : ∃ td' x, s1.td = td' ++ [x] := ⟨_, _, (List.dropLast_concat_getLast htd).symm⟩
    have hlen : s1.td.length = td'.length + 1 := by rw [htx]; simp
    obtain ⟨t1, t2, t3, t4⟩ := S.gi.tr x (by rw [htx]; simp)
    obtain ⟨b, hb'⟩ := Int.eq_ofNat_of_zero_le t1
    obtain ⟨k, hk'⟩ := Int.eq_ofNat_of_zero_le t3
    have hx : x = ((b : Int), (k : Int)) := by rw [← hb', ← hk']
    have hbl : b < GS1.length := by omega
    have hk : k < M.m := by omega
    have htb := S.gi.tdb S.pw.nd hm256 hn12
    have hwx : IntKind.wrap .i64 (((s1.td.length : Nat) : Int) - 1) = ((td'.length : Nat) : Int) := by rw [IntKind.wrap_i64]; omega
    have hll : td'.length < s1.td.length := by omega
    have hlast : s1.td[td'.length]'hll = x := by
      have : s1.td[td'.length]? = some x := by rw [htx, List.getElem?_append_right (by omega)]; simp
      exact (List.getElem?_eq_some_iff.1 this).2
    have d4 : Md [] w4 w4.drew := Md_drew w4
    refine ⟨fun w' => Md [] w4 w', d4, NN_in <| NN_in ⟨_, fun w' h' => (S.pw.md0 h').blk.ld' rfl rfl, opL_in ⟨_, fun w' h' => (S.pw.md0 h').blk.ld' rfl rfl, opL_in <| Bd_e rfl <| Bd_e hwx ⟨(S.pw.tO.row enctE).ix hll, _, fun w' h' => ((S.pw.md0 h').tO.row enctE).ldT hll rfl, opAg_in <| opI_in <| opI_in <| SzIs_in rfl ?_⟩⟩⟩⟩
    rw [hlast, hx]
    intro n39 hn39 w40 m40 hL40
    refine ⟨d4.trans m40, fun w41 m41 hL41 => ?_⟩
    have m41' : Md [] w4 w41 := (d4.trans m40).old m41 fun d hd => by
      have e : d = n39 := by simpa using hd
      rw [e]; exact hn39
    have h39 : n39 < w41.heap.size := hL41 n39 (by simp)
    have h39f : n39 ∉ fpP n m s1 := fun h => by have := (S.pw.flo _ h).2; have e : w4.drew.heap.size = w4.heap.size := rfl; omega
    have d41 : Md [] w41 w41.drew := Md_drew w41
    have m42 := m41'.trans d41
    have S2 := S.md0 m42
    have P2 : PW gb [n39] w0 w41.drew n m M.m X Y s1 := S2.pw.withL fun d hd => by
      have e : d = n39 := by simpa using hd
      rw [e]; exact ⟨h39, h39f⟩
    obtain ⟨q1, q2, q3, w76, ml', q4, q5, q6, q7⟩ := P2.pop htx _ rfl
    refine ⟨fun w' => Md [] w4 w', m42, NN_in <| NN_in ⟨_, fun w' h' => (S.pw.md0 h').blk.ld' rfl rfl, opL_in ⟨_, fun w' h' => (S.pw.md0 h').blk.ld' rfl rfl, opL_in <| Bd_e rfl <| Bd_e hwx ⟨_, fun w' _ => ⟨slice_front (P := Try.prog) (e := 297) (by kernel_rfl) size297 w' s1.ta s1.td.length s1.tc td'.length (by have := S.pw.tO.cap; omega)⟩, opL_in <| NN_in ⟨fun hh => ?_, ?_, ?_⟩⟩⟩⟩⟩
    · have e : n = n39 := by simpa using hh
      exact h39f (by rw [← e]; simp [fpP])
    · rw [Addr.add_lit]; exact q1
    · rw [Addr.add_lit]
      generalize hw68 : setCells w41.drew ⟨n, 0 + 5, none⟩ 0 [.slice s1.ta td'.length s1.tc] = w68
      have hw68' : setCells w41.drew ⟨n, 5, none⟩ 0 [.slice s1.ta td'.length s1.tc] = w68 := hw68
      rw [hw68'] at q2 q3 q4 q6
      have q2' := q2.md (Md_drew w68) (by simp)
      refine ⟨fun w' => Blk w' n 247 (pL M.m X Y m { s1 with td := td' }), q2', NN_in ⟨_, fun w' h' => h'.ld' rfl rfl, opM_in ?_⟩⟩
      rw [hx] at q4
      have hs68 : w41.drew.heap.size ≤ w68.drew.heap.size := Nat.le_trans q3.size (Md_drew w68).size
      refine RunW_in q4 (fun d hd => ?_) (opTu_in <| SzIs_in rfl ⟨q5, ?_⟩)
      · have e : d = n39 := by simpa using hd
        rw [e]
        refine q6.blk n39 (Nat.lt_of_lt_of_le h39 hs68) ?_
        intro hh
        have e : n39 = m := by simpa using hh
        exact h39f (by rw [e]; simp [fpP])
      · intro n78 w79 e78 e79
        subst e78; subst e79
        have sn : [n] ⊆ fpP n m s1 := fun z hz => by
          have e : z = n := by simpa using hz
          rw [e]; simp [fpP]
        have sm : [m] ⊆ fpP n m s1 := fun z hz => by
          have e : z = m := by simpa using hz
          rw [e]; simp [fpP]
        have mnm : Md (fpP n m s1) w41.drew w76 := ((q3.mono sn).trans ((Md_drew w68).mono (by simp))).trans (q6.mono sm)
        obtain ⟨s2, hs2⟩ : ∃ s2, s2 = ({ s1 with td := td', ml := ml' } : GPS) := ⟨_, rfl⟩
        have q7' : PW gb [n39] w0 w76 n m M.m X Y s2 := by rw [hs2]; exact q7
        have ef : fpP n m s2 = fpP n m s1 := by rw [hs2]; rfl
        have eG : s2.G = s1.G := by rw [hs2]
        have ea : s2.at' = s1.at' := by rw [hs2]
        have et : s2.td = td' := by rw [hs2]
        have mAll : Md (fpP n m s1) w4 w76 := (m42.mono (by simp)).trans mnm
        have gi0 := S.gi
        have nd0 := S.pw.nd
        rw [htx, hx] at gi0 nd0
        have S3 : GpS gb [n39] w0 w76 n m M X Y s2 GS1 (Exc M (atN s2.at') k (fun x => atN s2.at' x = b) fun _ => True) := by
          refine ⟨q7', ?_, ?_, ?_⟩
          · rw [ea, et]; exact gi0.pop nd0
          · rw [ef, eG]; exact S.pr.keep mAll (Grw.refl _ _) (Grw.refl _ _)
          · rw [ef]; exact S.fb.keep mAll (Grw.refl _ _) (Grw.refl _ _)
        have ma : Md [] w76 (w76.alloc (.map #[] 0)) := Md.alloc (M := []) _ _
        have hn := MapAt.new w76 vI vM (V := Nat)
        have dd := Md_drew (w76.alloc (.map #[] 0))
        have S4 := S3.md0 (ma.trans dd)
        have hbG : b < s2.G.length := by rw [S3.pr.1]; exact hbl
        obtain ⟨r, hr⟩ : ∃ r, GS1[b]? = some r := ⟨_, List.getElem?_eq_getElem hbl⟩
        refine ⟨fun w' => Md [] w76 w', ma.trans dd, NN_in ⟨_, fun w' h' => (S3.pw.md0 h').blk.ld' rfl rfl, opL_in ⟨(S3.pw.gO.row enchE).ix hbG, _, fun w' h' => ((S3.pw.md0 h').gO.row enchE).ld1 hbG rfl rfl, opL_in <| Bd_e rfl ?_⟩⟩⟩
        refine P222B_ok hM hk hm256 hn12 S3 hr (List.getElem?_eq_getElem hbG) ma hn (Nat.le_refl _) fun s' GS' w' S' m' g' hmu => ?_
        rw [ef] at m' g'
        rw [et] at hmu
        exact K s' GS' w' ⟨S'.pw.noL, S'.gi, S'.pr, S'.fb⟩ (mAll.trans m') (fun d hd => (g' d hd).imp id (Nat.le_trans mAll.size)) (by omega)
  · have htd : s1.td = [] := by
      have h1 : ¬ ((s1.td.length : Nat) : Int) > 0 := by rw [hb11] at hb; exact of_decide_eq_false hb
      exact List.eq_nil_of_length_eq_zero (by omega)
    exact K2 htd
theorem f222_loop (p0 : Option Addr) (R : Value → World → Prop) (w : World) : f222_vc p0 R w = LoopP (fun l1 l2 J3 w4 => P222A p0 R J3 w4) [] [] w := rfl
theorem f222_ok {gb : Nat} {w0 w : World} {n m : Nat} {M : Mch} {X Y : Value} {s : GPS} {GS : List (List Int)} (hM : M.ok) (hm256 : M.m ≤ 256) (hn12 : M.n < 2 ^ 12) (S : GpS gb [] w0 w n m M X Y s GS fun _ _ _ => False) :
    Ct Try.prog 222 #[.pointer (some ⟨n, 0, none⟩)] w fun v w' => (v = .tuple #[] ∧ ∃ s' GS', GpS gb [] w0 w' n m M X Y s' GS' (fun _ _ _ => False) ∧ s'.td = []) ∧ Md (fpP n m s) w w' := by
  apply f222_in
  rw [f222_loop]
  refine LoopP_in (fun mm us vs w' => us = [] ∧ vs = [] ∧ ∃ (s' : GPS) (GS' : List (List Int)), mm = (M.n + 1 - GS'.length) * (M.m + 1) + s'.td.length ∧ GpS gb [] w0 w' n m M X Y s' GS' (fun _ _ _ => False) ∧ Md (fpP n m s) w w' ∧ Grw w (fpP n m s) (fpP n m s')) _
    ⟨rfl, rfl, s, GS, rfl, S, Md.refl _ _, Grw.refl _ _⟩ ?_
  clear S
  rintro mm us vs w4 ⟨rfl, rfl, s1, GS1, rfl, S, m1, g1⟩
  exact P222A_ok hM hm256 hn12 S (fun s' GS' w' S' m' g' h => ⟨_, h, rfl, rfl, s', GS', rfl, S', m1.frD m' g1, g1.trans g' m1.size⟩) fun htd => ⟨⟨rfl, s1, GS1, S, htd⟩, m1⟩
end Fk
set_option linter.unusedVariables false
set_option linter.unusedSimpArgs false
set_option linter.unusedSectionVars false
set_option maxRecDepth 100000
set_option maxHeartbeats 1000000
namespace Fk
open Go Go.Proofs Go.RowKit
def MK (w w' : World) : Prop := ∀ (r : Nat) (es : Array MapEntry) (c : Nat), w.heap[r]? = some (.map es c) → w'.heap[r]? = some (.map es c)
theorem MK.refl (w : World) : MK w w := fun _ _ _ h => h
theorem MK.trans {a b c : World} (h : MK a b) (k : MK b c) : MK a c := fun r es cl hr => k r es cl (h r es cl hr)
theorem MK.at {K V : Type} {w w' : World} (h : MK w w') {r : Nat} {kv : K → Value} {vv : V → Value} {l : List (K × V)} (hm : MapAt w r kv vv l) : MapAt w' r kv vv l := by
  obtain ⟨es, c, h1, h2⟩ := hm
  exact ⟨es, c, h r es c h1, h2⟩
theorem MK.md {D : List Nat} {w w' : World} (hm : Md D w w') (hD : ∀ d ∈ D, w.heap.size ≤ d ∨ ∃ cs ty f, w.heap[d]? = some (.cells cs ty f)) : MK w w' := fun r es c hr => by
  rw [hm.blk r (Array.getElem?_eq_some_iff.1 hr).1 fun hd => ?_]
  · exact hr
  · rcases hD r hd with h | ⟨cs, ty, f, h⟩
    · have := (Array.getElem?_eq_some_iff.1 hr).1
      omega
    · rw [h] at hr; cases hr
theorem MK.md0 {w w' : World} (hm : Md [] w w') : MK w w' := MK.md hm (by simp)
abbrev Rw (α : Type) := Option Addr × Nat × List α
def hdr {α : Type} (r : Rw α) : HS3 := (r.1, r.2.2.length, r.2.1)
def upd {ι β : Type} [DecidableEq ι] (R : ι → β) (l : ι) (x : β) : ι → β := fun l' => if l' = l then x else R l'
theorem upd_same {ι β : Type} [DecidableEq ι] (R : ι → β) (l : ι) (x : β) : upd R l x l = x := by simp [upd]
theorem upd_ne {ι β : Type} [DecidableEq ι] (R : ι → β) {l l' : ι} (x : β) (h : l' ≠ l) : upd R l x l' = R l' := by simp [upd, h]
structure Fam {ι α : Type} (w : World) (base e : Nat) (enc : α → List Value) (R : ι → Rw α) : Prop where
  own : ∀ l, OwnL w base e 1 enc (R l).1 (R l).2.1 (R l).2.2
  apt : ∀ l l', l ≠ l' → Apt (R l).1 (R l').1
section
variable {ι α : Type} {w w' : World} {base e : Nat} {enc : α → List Value} {R : ι → Rw α}
theorem Fam.none (w : World) (base e : Nat) (enc : α → List Value) : Fam w base e enc (fun _ : ι => (none, 0, [])) := ⟨fun _ => OwnL.nil _ _ _ _ _, fun _ _ _ A B h => by cases h⟩
theorem Fam.keep {D : List Nat} (F : Fam w base e enc R) (hm : Md D w w') (hD : ∀ l A, (R l).1 = some A → A.block ∉ D) : Fam w' base e enc R := ⟨fun l => (F.own l).mdD hm (hD l), F.apt⟩
theorem Fam.md0 (F : Fam w base e enc R) (hm : Md [] w w') : Fam w' base e enc R := F.keep hm (by simp)
theorem Fam.upd [DecidableEq ι] (F : Fam w base e enc R) {l : ι} (hm : Md (blkO (R l).1) w w') {a : Option Addr} {c : Nat} {x : List α} (ho : OwnL w' base e 1 enc a c x) (hA : NewO w (R l).1 a) : Fam w' base e enc (upd R l (a, c, x)) := by
  have ne : ∀ l', l' ≠ l → Apt a (R l').1 := fun l' h A B hA' hB e => by
    rcases hA A hA' with h1 | h1
    · exact F.apt l l' (Ne.symm h) A B h1 hB e
    · have := (F.own l').lt hB
      omega
  refine ⟨fun l' => ?_, fun l1 l2 h => ?_⟩
  · by_cases e : l' = l
    · subst e; rw [upd_same]; exact ho
    · rw [upd_ne _ _ e]
      refine (F.own l').mdD hm fun A hA hd => ?_
      obtain ⟨B, hB, eb⟩ := blkO_mem hd
      exact F.apt l' l e A B hA hB eb.symm
  · by_cases e1 : l1 = l
    · subst e1
      rw [upd_same, upd_ne _ _ (Ne.symm h)]
      exact ne l2 (Ne.symm h)
    · rw [upd_ne _ _ e1]
      by_cases e2 : l2 = l
      · subst e2
        rw [upd_same]
        exact (ne l1 e1).symm
      · rw [upd_ne _ _ e2]
        exact F.apt l1 l2 h
end
inductive Lab where
  | at' : Lab
  | nx : Nat → Lab
  | gr : Nat → Lab
  | bk : Nat → Nat → Lab
  deriving DecidableEq
inductive Hab where
  | nx : Hab
  | gr : Hab
  | bk : Nat → Hab
  deriving DecidableEq
structure BM (w0 w : World) (n m : Nat) (R : Lab → Rw Int) (H : Hab → Rw HS3) (b : Rw HS3) (cs : List Value) : Prop where
  md : Md [] w0 w
  blk : Blk w n 247 cs
  nlo : w0.heap.size ≤ n
  mlo : w0.heap.size ≤ m
  mO : MapAt w m tV vI ([] : List ((Int × Int) × Int))
  fR : Fam w w0.heap.size 3 i1 R
  fH : Fam w w0.heap.size 52 hE H
  fB : OwnL w w0.heap.size 242 1 hE b.1 b.2.1 b.2.2
section
variable {w0 w w' : World} {n m : Nat} {R : Lab → Rw Int} {H : Hab → Rw HS3} {b : Rw HS3} {cs : List Value}
theorem own_cells {α : Type} {w : World} {b e s c : Nat} {enc : α → List Value} {a : Option Addr} {l : List α} (h : OwnL w b e s enc a c l) : ∀ d ∈ blkO a, w.heap.size ≤ d ∨ ∃ cs ty f, w.heap[d]? = some (.cells cs ty f) := fun d hd => by
  obtain ⟨A, hA, rfl⟩ := blkO_mem hd
  obtain ⟨cur, h⟩ := own_at h hA
  exact .inr ⟨cur, e, (0, 0), h⟩
theorem BM.md0 (S : BM w0 w n m R H b cs) (hm : Md [] w w') : BM w0 w' n m R H b cs ∧ MK w w' :=
  ⟨⟨S.md.trans hm, S.blk.md hm (by simp), S.nlo, S.mlo, S.mO.md hm (by simp), S.fR.md0 hm, S.fH.md0 hm, S.fB.md hm⟩, MK.md0 hm⟩
theorem BM.chR (S : BM w0 w n m R H b cs) (l : Lab) {a : Option Addr} {c : Nat} {x : List Int} (hm : Md (blkO (R l).1) w w') (ho : OwnL w' w0.heap.size 3 1 i1 a c x) (hA : NewO w (R l).1 a) : BM w0 w' n m (upd R l (a, c, x)) H b cs ∧ MK w w' := by
  have hk : MK w w' := MK.md hm (own_cells (S.fR.own l))
  refine ⟨⟨S.md.old hm fun d hd => ?_, S.blk.md hm fun hd => ?_, S.nlo, S.mlo, hk.at S.mO, S.fR.upd hm ho hA, S.fH.keep hm fun l' A hA' hd => ?_, S.fB.mdD hm fun A hA' hd => ?_⟩, hk⟩
  · obtain ⟨A, hA', rfl⟩ := blkO_mem hd; exact ((S.fR.own l).lt hA').1
  · obtain ⟨A, hA', e⟩ := blkO_mem hd; exact own_nblk (S.fR.own l) S.blk (by decide) A hA' e
  · obtain ⟨B, hB, e⟩ := blkO_mem hd; exact own_apt2 (S.fH.own l') (S.fR.own l) (by decide) A B hA' hB e.symm
  · obtain ⟨B, hB, e⟩ := blkO_mem hd; exact own_apt2 S.fB (S.fR.own l) (by decide) A B hA' hB e.symm
theorem BM.chH (S : BM w0 w n m R H b cs) (l : Hab) {a : Option Addr} {c : Nat} {x : List HS3} (hm : Md (blkO (H l).1) w w') (ho : OwnL w' w0.heap.size 52 1 hE a c x) (hA : NewO w (H l).1 a) : BM w0 w' n m R (upd H l (a, c, x)) b cs ∧ MK w w' := by
  have hk : MK w w' := MK.md hm (own_cells (S.fH.own l))
  refine ⟨⟨S.md.old hm fun d hd => ?_, S.blk.md hm fun hd => ?_, S.nlo, S.mlo, hk.at S.mO, S.fR.keep hm fun l' A hA' hd => ?_, S.fH.upd hm ho hA, S.fB.mdD hm fun A hA' hd => ?_⟩, hk⟩
  · obtain ⟨A, hA', rfl⟩ := blkO_mem hd; exact ((S.fH.own l).lt hA').1
  · obtain ⟨A, hA', e⟩ := blkO_mem hd; exact own_nblk (S.fH.own l) S.blk (by decide) A hA' e
  · obtain ⟨B, hB, e⟩ := blkO_mem hd; exact own_apt2 (S.fR.own l') (S.fH.own l) (by decide) A B hA' hB e.symm
  · obtain ⟨B, hB, e⟩ := blkO_mem hd; exact own_apt2 S.fB (S.fH.own l) (by decide) A B hA' hB e.symm
theorem BM.chB (S : BM w0 w n m R H b cs) {a : Option Addr} {c : Nat} {x : List HS3} (hm : Md (blkO b.1) w w') (ho : OwnL w' w0.heap.size 242 1 hE a c x) : BM w0 w' n m R H (a, c, x) cs ∧ MK w w' := by
  have hk : MK w w' := MK.md hm (own_cells S.fB)
  refine ⟨⟨S.md.old hm fun d hd => ?_, S.blk.md hm fun hd => ?_, S.nlo, S.mlo, hk.at S.mO, S.fR.keep hm fun l' A hA' hd => ?_, S.fH.keep hm fun l' A hA' hd => ?_, ho⟩, hk⟩
  · obtain ⟨A, hA', rfl⟩ := blkO_mem hd; exact (S.fB.lt hA').1
  · obtain ⟨A, hA', e⟩ := blkO_mem hd; exact own_nblk S.fB S.blk (by decide) A hA' e
  · obtain ⟨B, hB, e⟩ := blkO_mem hd; exact own_apt2 (S.fR.own l') S.fB (by decide) A B hA' hB e.symm
  · obtain ⟨B, hB, e⟩ := blkO_mem hd; exact own_apt2 (S.fH.own l') S.fB (by decide) A B hA' hB e.symm
theorem BM.nm (S : BM w0 w n m R H b cs) : n ≠ m := by
  intro e
  obtain ⟨es, c, h, _⟩ := S.mO
  have := S.blk
  unfold Blk at this
  rw [e, h] at this
  cases this
theorem BM.put (S : BM w0 w n m R H b cs) {j : Nat} (hj : j < cs.length) (v : Value) : Wr w ⟨n, j, none⟩ 1 ∧ BM w0 (setCells w ⟨n, j, none⟩ 0 [v]) n m R H b (cs.set j v) ∧ MK w (setCells w ⟨n, j, none⟩ 0 [v]) := by
  have hm : Md [n] w (setCells w ⟨n, j, none⟩ 0 [v]) := Md_setCells _ _ _
  have hk : MK w (setCells w ⟨n, j, none⟩ 0 [v]) := MK.md hm fun d hd => by
    have e : d = n := by simpa using hd
    have := S.blk
    unfold Blk at this
    rw [e]
    exact .inr ⟨_, _, _, this⟩
  refine ⟨S.blk.wr (by omega), ⟨S.md.old hm fun d hd => ?_, S.blk.set hj v, S.nlo, S.mlo, hk.at S.mO, S.fR.keep hm fun l' A hA' hd => ?_, S.fH.keep hm fun l' A hA' hd => ?_, S.fB.mdD hm fun A hA' hd => ?_⟩, hk⟩
  · have e : d = n := by simpa using hd
    rw [e]; exact S.nlo
  · exact own_nblk (S.fR.own l') S.blk (by decide) A hA' (by simpa using hd)
  · exact own_nblk (S.fH.own l') S.blk (by decide) A hA' (by simpa using hd)
  · exact own_nblk S.fB S.blk (by decide) A hA' (by simpa using hd)
/-- An element of a row is written. -/
theorem BM.setR (S : BM w0 w n m R H b cs) (l : Lab) {i : Nat} (hi : i < (R l).2.2.length) (x : Int) : Wr w (adAt (R l).1 (i : Int) 1) 1 ∧ w0.heap.size ≤ (adAt (R l).1 (i : Int) 1).block ∧
    BM w0 (setCells w (adAt (R l).1 (i : Int) 1) 0 [.int .i64 x]) n m (upd R l ((R l).1, (R l).2.1, (R l).2.2.set i x)) H b cs ∧ MK w (setCells w (adAt (R l).1 (i : Int) 1) 0 [.int .i64 x]) := by
  obtain ⟨A, hA, h1, h2, h3, h4, h5, h6⟩ := (S.fR.own l).put enci1 (by omega) hi x
  have hm : Md (blkO (R l).1) w (setCells w (adAt (R l).1 (i : Int) 1) 0 [.int .i64 x]) := h6.mono (by intro z hz; simp at hz; rw [hA, hz]; exact blkO_some)
  exact ⟨h4, by rw [h3]; exact h2, S.chR l hm h5 (NewO.refl _ _)⟩
theorem BM.setH (S : BM w0 w n m R H b cs) (l : Hab) {i : Nat} (hi : i < (H l).2.2.length) (x : HS3) : Wr w (adAt (H l).1 (i : Int) 1) 1 ∧ w0.heap.size ≤ (adAt (H l).1 (i : Int) 1).block ∧
    BM w0 (setCells w (adAt (H l).1 (i : Int) 1) 0 [.slice x.1 x.2.1 x.2.2]) n m R (upd H l ((H l).1, (H l).2.1, (H l).2.2.set i x)) b cs ∧ MK w (setCells w (adAt (H l).1 (i : Int) 1) 0 [.slice x.1 x.2.1 x.2.2]) := by
  obtain ⟨A, hA, h1, h2, h3, h4, h5, h6⟩ := (S.fH.own l).put enchE (by omega) hi x
  have hm : Md (blkO (H l).1) w (setCells w (adAt (H l).1 (i : Int) 1) 0 [.slice x.1 x.2.1 x.2.2]) := h6.mono (by intro z hz; simp at hz; rw [hA, hz]; exact blkO_some)
  exact ⟨h4, by rw [h3]; exact h2, S.chH l hm h5 (NewO.refl _ _)⟩
theorem BM.setB (S : BM w0 w n m R H b cs) {i : Nat} (hi : i < b.2.2.length) (x : HS3) : Wr w (adAt b.1 (i : Int) 1) 1 ∧ w0.heap.size ≤ (adAt b.1 (i : Int) 1).block ∧
    BM w0 (setCells w (adAt b.1 (i : Int) 1) 0 [.slice x.1 x.2.1 x.2.2]) n m R H (b.1, b.2.1, b.2.2.set i x) cs ∧ MK w (setCells w (adAt b.1 (i : Int) 1) 0 [.slice x.1 x.2.1 x.2.2]) := by
  obtain ⟨A, hA, h1, h2, h3, h4, h5, h6⟩ := S.fB.put enchE (by omega) hi x
  have hm : Md (blkO b.1) w (setCells w (adAt b.1 (i : Int) 1) 0 [.slice x.1 x.2.1 x.2.2]) := h6.mono (by intro z hz; simp at hz; rw [hA, hz]; exact blkO_some)
  exact ⟨h4, by rw [h3]; exact h2, S.chB hm h5⟩
/-- Behind a row comes one more. -/
theorem BM.appR (S : BM w0 w n m R H b cs) (l : Lab) {L : List Nat} (hL : ∀ d ∈ L, d < w0.heap.size) (x : Int) (hl : (R l).2.2.length < 2 ^ 30) {K : Value → World → Prop}
    (k : ∀ (a' : Option Addr) (c' : Nat) (w' : World), BM w0 w' n m (upd R l (a', c', (R l).2.2 ++ [x])) H b cs → MK w w' → Md (blkO (R l).1) w w' → NewO w (R l).1 a' → K (.slice a' ((R l).2.2 ++ [x]).length c') w') :
    Nw (.cells #[.int .i64 x] 3) w fun b w' => RunW Try.prog L (Builtin.append_ #[52, 52] 52 #[.slice (R l).1 (R l).2.2.length (R l).2.1, .slice (some { block := b, off := 0 }) 1 1]) K w' :=
  app_one rowT52 enci1 x rfl (S.fR.own l) S.md.size (fun d hd => Nat.lt_of_lt_of_le (hL d hd) S.md.size) (fun d hd A hA e => by have := ((S.fR.own l).lt hA).1; have := hL d hd; omega) (by simp [maxLen]; omega) (by omega)
    fun a' c' w' o' m' hA => k a' c' w' (S.chR l m' o' hA).1 (S.chR l m' o' hA).2 m' hA
theorem BM.appH (S : BM w0 w n m R H b cs) (l : Hab) {L : List Nat} (hL : ∀ d ∈ L, d < w0.heap.size) (x : HS3) (hl : (H l).2.2.length < 2 ^ 30) {K : Value → World → Prop}
    (k : ∀ (a' : Option Addr) (c' : Nat) (w' : World), BM w0 w' n m R (upd H l (a', c', (H l).2.2 ++ [x])) b cs → MK w w' → Md (blkO (H l).1) w w' → NewO w (H l).1 a' → K (.slice a' ((H l).2.2 ++ [x]).length c') w') :
    Nw (.cells #[.slice x.1 x.2.1 x.2.2] 52) w fun b w' => RunW Try.prog L (Builtin.append_ #[242, 242] 242 #[.slice (H l).1 (H l).2.2.length (H l).2.1, .slice (some { block := b, off := 0 }) 1 1]) K w' :=
  app_one rowT242 enchE x rfl (S.fH.own l) S.md.size (fun d hd => Nat.lt_of_lt_of_le (hL d hd) S.md.size) (fun d hd A hA e => by have := ((S.fH.own l).lt hA).1; have := hL d hd; omega) (by simp [maxLen]; omega) (by omega)
    fun a' c' w' o' m' hA => k a' c' w' (S.chH l m' o' hA).1 (S.chH l m' o' hA).2 m' hA
end
end Fk
set_option linter.unusedVariables false
set_option linter.unusedSimpArgs false
set_option linter.unusedSectionVars false
set_option maxRecDepth 100000
set_option maxHeartbeats 1000000
namespace Fk
open Go Go.Proofs Go.RowKit
def tagsT (M : Mch) : Nat → List Int
  | 0 => []
  | s + 1 => if M.tag s ∈ tagsT M s then tagsT M s else tagsT M s ++ [M.tag s]
def clsM (M : Mch) (x : Nat) : Nat := (tagsT M (x + 1)).idxOf (M.tag x)
section
variable {M : Mch}
theorem tagsT_nodup : ∀ s, (tagsT M s).Nodup
  | 0 => List.nodup_nil
  | s + 1 => by
    have ih := tagsT_nodup s
    simp only [tagsT]
    split
    · exact ih
    · rename_i h
      rw [List.nodup_append]
      exact ⟨ih, by simp, fun a ha b hb e => h (by simp at hb; rw [← hb, ← e]; exact ha)⟩
theorem tagsT_self (s : Nat) : M.tag s ∈ tagsT M (s + 1) := by
  simp only [tagsT]
  split
  · assumption
  · simp
theorem tagsT_get {x s : Nat} (h : x < s) : (tagsT M s)[clsM M x]? = some (M.tag x) := by
  induction s with
  | zero => omega
  | succ s ih =>
    by_cases e : x = s
    · subst e
      have hm := tagsT_self (M := M) x
      unfold clsM
      rw [List.getElem?_eq_getElem (List.idxOf_lt_length_of_mem hm), List.getElem_idxOf]
    · have := ih (by omega)
      simp only [tagsT]
      split
      · exact this
      · rw [List.getElem?_append_left (List.getElem?_eq_some_iff.1 this).1]; exact this
theorem clsM_lt {x s : Nat} (h : x < s) : clsM M x < (tagsT M s).length := (List.getElem?_eq_some_iff.1 (tagsT_get h)).1
theorem clsM_iff {x y : Nat} : clsM M x = clsM M y ↔ M.tag x = M.tag y := by
  obtain ⟨s, h1, h2⟩ : ∃ s, x < s ∧ y < s := ⟨x + y + 1, by omega, by omega⟩
  have a := tagsT_get (M := M) h1
  have b := tagsT_get (M := M) h2
  constructor
  · intro e
    rw [e, b] at a
    injection a with a
    exact a.symm
  · intro e
    obtain ⟨la, ea⟩ := List.getElem?_eq_some_iff.1 a
    obtain ⟨lb, eb⟩ := List.getElem?_eq_some_iff.1 b
    exact (List.getElem_inj (h₀ := la) (h₁ := lb) (tagsT_nodup s)).1 (by rw [ea, eb, e])
theorem clsM_old {s : Nat} (h : M.tag s ∈ tagsT M s) : (tagsT M s)[clsM M s]? = some (M.tag s) := by
  have := tagsT_get (M := M) (Nat.lt_succ_self s)
  simp only [tagsT, if_pos h] at this
  exact this
theorem clsM_new {s : Nat} (h : M.tag s ∉ tagsT M s) : clsM M s = (tagsT M s).length := by
  unfold clsM
  simp only [tagsT, if_neg h]
  rw [List.idxOf_append, if_neg h]
  simp
/-- Each of these tags is some state's. -/
theorem tagsT_ex {s : Nat} : ∀ a, a < (tagsT M s).length → ∃ x, x < s ∧ clsM M x = a := by
  induction s with
  | zero => intro a h; simp [tagsT] at h
  | succ s ih =>
    intro a h
    by_cases c : M.tag s ∈ tagsT M s
    · simp only [tagsT, if_pos c] at h
      obtain ⟨x, h1, h2⟩ := ih a h
      exact ⟨x, by omega, h2⟩
    · simp only [tagsT, if_neg c, List.length_append, List.length_singleton] at h
      by_cases e : a = (tagsT M s).length
      · exact ⟨s, by omega, by rw [clsM_new c, e]⟩
      · obtain ⟨x, h1, h2⟩ := ih a (by omega)
        exact ⟨x, by omega, h2⟩
theorem tagsT_len : ∀ s, (tagsT M s).length ≤ s
  | 0 => by simp [tagsT]
  | s + 1 => by
    have := tagsT_len s
    simp only [tagsT]
    split
    · omega
    · simp; omega
end
def ofM (M : Mch) (s : Nat) : List (Int × Int) := (tagsT M s).zipIdx.map fun p => (p.1, (p.2 : Int))
theorem ofM_keys (M : Mch) (s : Nat) : (ofM M s).map (·.1) = tagsT M s := by
  unfold ofM
  rw [List.map_map]
  exact List.zipIdx_map_fst 0 _
theorem ofM_new {M : Mch} {s : Nat} (h : M.tag s ∉ tagsT M s) : ofM M (s + 1) = ofM M s ++ [(M.tag s, ((tagsT M s).length : Int))] := by
  unfold ofM
  simp only [tagsT, if_neg h]
  rw [List.zipIdx_append]
  simp
theorem ofM_old {M : Mch} {s : Nat} (h : M.tag s ∈ tagsT M s) : ofM M (s + 1) = ofM M s := by
  unfold ofM
  simp only [tagsT, if_pos h]
theorem ofM_find {M : Mch} {s : Nat} (h : M.tag s ∈ tagsT M s) : ∃ i, findI (M.tag s) (ofM M s) 0 = some (i, (clsM M s : Int)) := by
  obtain ⟨⟨i, v⟩, hf⟩ : ∃ p, findI (M.tag s) (ofM M s) 0 = some p := Option.isSome_iff_exists.1 (findI_key.2 (by rw [ofM_keys]; exact h))
  refine ⟨i, ?_⟩
  rw [hf]
  have h2 := (findI_at hf).2
  rw [Nat.sub_zero] at h2
  unfold ofM at h2
  rw [List.getElem?_map, List.getElem?_zipIdx] at h2
  cases hT : (tagsT M s)[i]? with
  | none => rw [hT] at h2; simp at h2
  | some t =>
    rw [hT] at h2
    simp at h2
    obtain ⟨h3, h4⟩ := h2
    have h5 := clsM_old h
    obtain ⟨l1, e1⟩ := List.getElem?_eq_some_iff.1 h5
    obtain ⟨l2, e2⟩ := List.getElem?_eq_some_iff.1 hT
    have : clsM M s = i := (List.getElem_inj (h₀ := l1) (h₁ := l2) (tagsT_nodup s)).1 (by rw [e1, e2, h3])
    rw [← h4, this]
def selN (p : Nat → Nat) (s a : Nat) : List Int := ((List.range s).filter fun x => decide (p x = a)).map fun x : Nat => (x : Int)
theorem selN_succ (p : Nat → Nat) (s a : Nat) : selN p (s + 1) a = if p s = a then selN p s a ++ [(s : Int)] else selN p s a := by
  unfold selN
  rw [List.range_succ, List.filter_append, List.map_append]
  by_cases h : p s = a <;> simp [h]
theorem selN_len (p : Nat → Nat) (s a : Nat) : (selN p s a).length ≤ s := by
  unfold selN
  rw [List.length_map]
  have := List.length_filter_le (fun x => decide (p x = a)) (List.range s)
  simpa using this
def rowK (M : Mch) (s k : Nat) : List Int := (List.range M.m).map fun j => if j < k then (M.go s j : Int) else 0
theorem rowK_zero (M : Mch) (s : Nat) : rowK M s 0 = List.replicate M.m 0 := by
  unfold rowK
  have : (fun j : Nat => if j < 0 then (M.go s j : Int) else 0) = fun _ => 0 := by funext j; simp
  rw [this, List.map_const', List.length_range]
theorem rowK_len (M : Mch) (s k : Nat) : (rowK M s k).length = M.m := by simp [rowK]
theorem rowK_all (M : Mch) (s : Nat) : rowK M s M.m = rowI M s := by
  unfold rowK rowI
  apply List.map_congr_left
  intro j hj
  rw [if_pos (List.mem_range.1 hj)]
theorem rowK_succ (M : Mch) (s k : Nat) : (rowK M s k).set k (M.go s k : Int) = rowK M s (k + 1) := by
  apply List.ext_getElem?
  intro j
  rw [List.getElem?_set]
  unfold rowK
  rw [List.getElem?_map, List.getElem?_map, List.getElem?_range', List.length_map, List.length_range]
  by_cases h : k = j
  · subst h
    by_cases c : k < M.m <;> simp [c]
  · rw [if_neg h]
    by_cases c : j < M.m
    · simp only [c, if_true, Option.map_some]
      by_cases d : j < k
      · rw [if_pos d, if_pos (by omega)]
      · rw [if_neg d, if_neg (by omega)]
    · simp [c]
where List.getElem?_range' {n j : Nat} : (List.range n)[j]? = if j < n then some j else none := by
        by_cases h : j < n <;> simp [h]
end Fk
