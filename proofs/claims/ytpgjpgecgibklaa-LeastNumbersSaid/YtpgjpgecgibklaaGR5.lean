/- Contracts of functions, and plain laws: several texts, joined. -/
import Derived.Test.YtpgjpgecgibklaaGR4
import Derived.Test.YtpgjpgecgibklaaGV1
set_option linter.unusedVariables false
set_option linter.unusedSimpArgs false
set_option linter.unusedSectionVars false
set_option maxRecDepth 100000
set_option maxHeartbeats 1000000
namespace Fk
open Go Go.Proofs Go.RowKit
def P21I (p0_0 : Int) (p0_1a : Option Addr) (p0_1n : Nat) (p2a : Option Addr) (p2n : Nat) (x2 : Int) (n1 : Nat) (n94 : Nat) (a24 : Option Addr) (n25 : Nat) (a86 : Option Addr) (n87 : Nat) (J100 : List Value → List Value → World → Prop) (x102 : Int) (x103 : Int) (a91 : Option Addr) (x111 : Int) (x116 : Int) (w101 : World) : Prop :=
  LoopP (fun l117 l118 J119 w120 => opI IntKind.i64 (nthD l117 (0 : Nat)) fun x121 => opI IntKind.i64 (nthD l117 (1 : Nat)) fun x122 => Bd (decide (x122 < p0_0)) fun b123 => If b123 (Dr (World.drew w120) fun J124 => x2 ≠ (0 : Int) ∧ Bd (Int.tmod x103 x2) fun x125 => Bd (IntKind.wrap IntKind.i64 (x125 * p0_0)) fun x126 => Bd (IntKind.wrap IntKind.i64 (x126 + x122)) fun x127 => IxOk x127 p0_1n p0_1a ∧ ∃ v128, (∀ (w129 : World), J124 w129 → Ld w129 (adAt p0_1a x127 (1 : Nat)) fun v131 => v131 = v128) ∧ opI IntKind.i64 v128 fun x132 => Jn (fun l133 l134 w135 => opI IntKind.i64 (nthD l133 (0 : Nat)) fun x136 => opI IntKind.i64 (nthD l133 (1 : Nat)) fun x137 => Dr (World.drew w135) fun J138 => IxOk x103 n25 a24 ∧ ∃ v139, (∀ (w140 : World), J138 w140 → Ld w140 (adAt a24 x103 (1 : Nat)) fun v142 => v142 = v139) ∧ opI IntKind.i64 v139 fun x143 => Bd (IntKind.wrap IntKind.i64 (x143 * p0_0)) fun x144 => Bd (IntKind.wrap IntKind.i64 (x144 + x122)) fun x145 => IxOk x145 n87 a86 ∧ ¬Addr.block (adAt a86 x145 (1 : Nat)) ∈ [n94, n1] ∧ Wr (World.drew w135) (adAt a86 x145 (1 : Nat)) (1 : Nat) ∧ Bd (IntKind.wrap IntKind.i64 (x122 + (1 : Int))) fun x146 => J119 [Value.int IntKind.i64 x136, Value.int IntKind.i64 x146] [] (setCells (World.drew w135) (adAt a86 x145 (1 : Nat)) (0 : Nat) [Value.int IntKind.i64 x137])) fun J147 => Bd (decide (x132 ≥ (0 : Int))) fun b148 => If b148 (Jn (fun l149 l150 w151 => opI IntKind.i64 (nthD l149 (0 : Nat)) fun x152 => Bd (IntKind.wrap IntKind.i64 (x121 + (1 : Int))) fun x153 => IxOk x152 n25 a24 ∧ Ld w151 (adAt a24 x152 (1 : Nat)) fun v154 => opI IntKind.i64 v154 fun x155 => J147 [Value.int IntKind.i64 x153, Value.int IntKind.i64 x155] [] w151) fun J156 => Bd ↑p2n fun x157 => Bd (decide (x157 > (0 : Int))) fun b158 => Bd ↑p2n fun x159 => (b158 = true → x159 ≠ (0 : Int)) ∧ Bd (Int.tmod x121 x159) fun x161 => (b158 = true → IxOk x161 p2n p2a) ∧ Gd b158 (0 : Int) (fun J163 => Ld (World.drew w120) (adAt p2a x161 (1 : Nat)) fun v164 => opI IntKind.u8 v164 fun x165 => J163 x165 (World.drew w120)) (fun x166 w167 => Bd (Int.tmod x166 (2 : Int)) fun x168 => Bd (x168 == (1 : Int)) fun b169 => Bd (bif b158 then b169 else false) fun b170 => If b170 (Bd (IntKind.wrap IntKind.i64 (x132 + x2)) fun x171 => J156 [Value.int IntKind.i64 x171] [] w167) (J156 [Value.int IntKind.i64 x132] [] w167)) (World.drew w120)) (J147 [Value.int IntKind.i64 x121, Value.int IntKind.i64 x132] [] (World.drew w120))) (Bd (IntKind.wrap IntKind.i64 (x103 + (1 : Int))) fun x172 => J100 [Value.int IntKind.i64 x121, Value.int IntKind.i64 x172] [] w120)) [Value.int IntKind.i64 x102, Value.int IntKind.i64 (0 : Int)] [] (setCells (World.drew w101) (adAt a91 x111 (1 : Nat)) (0 : Nat) [Value.int IntKind.i64 x116])
def P21Z (p0_0 : Int) (p0_1a : Option Addr) (p0_1n : Nat) (p0_1c : Nat) (p0_2a : Option Addr) (p0_2n : Nat) (p0_2c : Nat) (x2 : Int) (n1 : Nat) (n94 : Nat) (a24 : Option Addr) (n25 : Nat) (a86 : Option Addr) (n87 : Nat) (n88 : Nat) (a91 : Option Addr) (n92 : Nat) (n93 : Nat) (R : Value → World → Prop) (w101 : World) : Prop :=
  CallW Try.prog [n94, n1] (92 : Nat) #[Value.agg #[Value.int IntKind.i64 p0_0, Value.slice p0_1a p0_1n p0_1c, Value.slice p0_2a p0_2n p0_2c]] (fun v173 w174 => opTu v173 fun cs175 => opAg (nthD (Array.toList cs175) (0 : Nat)) fun cs176 => opI IntKind.i64 (nthD (Array.toList cs176) (0 : Nat)) fun x177 => opL (nthD (Array.toList cs176) (1 : Nat)) fun a178 n179 n180 => opL (nthD (Array.toList cs176) (2 : Nat)) fun a181 n182 n183 => SzIs (Array.size cs176) (3 : Nat) (opI IntKind.i64 (nthD (Array.toList cs175) (1 : Nat)) fun x184 => SzIs (Array.size cs175) (2 : Nat) (Rg w174 fun n185 => Up [n185] [n185, n94, n1] w174 fun w186 => CallW Try.prog [n185, n94, n1] (92 : Nat) #[Value.agg #[Value.int IntKind.i64 p0_0, Value.slice a86 n87 n88, Value.slice a91 n92 n93]] (fun v187 w188 => opTu v187 fun cs189 => opAg (nthD (Array.toList cs189) (0 : Nat)) fun cs190 => opI IntKind.i64 (nthD (Array.toList cs190) (0 : Nat)) fun x191 => opL (nthD (Array.toList cs190) (1 : Nat)) fun a192 n193 n194 => opL (nthD (Array.toList cs190) (2 : Nat)) fun a195 n196 n197 => SzIs (Array.size cs190) (3 : Nat) (opI IntKind.i64 (nthD (Array.toList cs189) (1 : Nat)) fun x198 => SzIs (Array.size cs189) (2 : Nat) (Rg w188 fun n199 => Up [n199] [n199, n185, n94, n1] w188 fun w200 => Dr (World.drew w200) fun J201 => IxOk (0 : Int) n25 a24 ∧ ∃ v202, (∀ (w203 : World), J201 w203 → Ld w203 (adAt a24 (0 : Int) (1 : Nat)) fun v205 => v205 = v202) ∧ opI IntKind.i64 v202 fun x206 => IxOk x2 n25 a24 ∧ ∃ v207, (∀ (w208 : World), J201 w208 → Ld w208 (adAt a24 x2 (1 : Nat)) fun v210 => v210 = v207) ∧ opI IntKind.i64 v207 fun x211 => CallW Try.prog [n199, n185, n94, n1] (94 : Nat) #[Value.agg #[Value.int IntKind.i64 p0_0, Value.slice a86 n87 n88, Value.slice a91 n92 n93], Value.int IntKind.i64 x206, Value.int IntKind.i64 x211] (fun v212 w213 => opTu v212 fun cs214 => opB (nthD (Array.toList cs214) (0 : Nat)) fun b215 => opI IntKind.i64 (nthD (Array.toList cs214) (1 : Nat)) fun x216 => SzIs (Array.size cs214) (2 : Nat) (J201 w213 ∧ Bd (x184 == (0 : Int)) fun b217 => Bd (x198 == (0 : Int)) fun b218 => Bd (bif b217 then b218 else false) fun b219 => Bd (x216 == (0 : Int)) fun b220 => Bd (bif b219 then b220 else false) fun b221 => Bd (bif b221 then b215 else false) fun b222 => Gd b222 false (fun J223 => CallW Try.prog [n199, n185, n94, n1] (96 : Nat) #[Value.agg #[Value.int IntKind.i64 x177, Value.slice a178 n179 n180, Value.slice a181 n182 n183], Value.agg #[Value.int IntKind.i64 x191, Value.slice a192 n193 n194, Value.slice a195 n196 n197]] (fun v224 w225 => opB v224 fun b226 => J223 b226 w225) w213) (fun b227 w228 => Bd (bif b222 then b227 else false) fun b229 => Gd b229 false (fun J230 => CallW Try.prog [n199, n185, n94, n1] (91 : Nat) #[] (fun v231 w232 => opB v231 fun b233 => J230 b233 w232) w228) (fun b234 w235 => Bd (bif b229 then b234 else false) fun b236 => R (Value.bool b236) w235) w228) w213)) (World.drew w200)))) w186))) w101
def P21T (p0_0 : Int) (p0_1a : Option Addr) (p0_1n : Nat) (p0_1c : Nat) (p0_2a : Option Addr) (p0_2n : Nat) (p0_2c : Nat) (p2a : Option Addr) (p2n : Nat) (x2 : Int) (n1 : Nat) (n94 : Nat) (a24 : Option Addr) (n25 : Nat) (a86 : Option Addr) (n87 : Nat) (n88 : Nat) (a91 : Option Addr) (n92 : Nat) (n93 : Nat) (R : Value → World → Prop) (x97 : Int) (w96 : World) : Prop :=
  LoopP (fun l98 l99 J100 w101 => opI IntKind.i64 (nthD l98 (0 : Nat)) fun x102 => opI IntKind.i64 (nthD l98 (1 : Nat)) fun x103 => Bd (decide (x103 < x97)) fun b104 => If b104 (Dr (World.drew w101) fun J105 => IxOk x103 n25 a24 ∧ x2 ≠ (0 : Int) ∧ Bd (Int.tmod x103 x2) fun x106 => ∃ v107, (∀ (w108 : World), J105 w108 → Ld w108 (adAt a24 x103 (1 : Nat)) fun v110 => v110 = v107) ∧ opI IntKind.i64 v107 fun x111 => IxOk x106 p0_2n p0_2a ∧ ∃ v112, (∀ (w113 : World), J105 w113 → Ld w113 (adAt p0_2a x106 (1 : Nat)) fun v115 => v115 = v112) ∧ opI IntKind.i64 v112 fun x116 => IxOk x111 n92 a91 ∧ ¬Addr.block (adAt a91 x111 (1 : Nat)) ∈ [n94, n1] ∧ Wr (World.drew w101) (adAt a91 x111 (1 : Nat)) (1 : Nat) ∧ (P21I p0_0 p0_1a p0_1n p2a p2n x2 n1 n94 a24 n25 a86 n87 J100 x102 x103 a91 x111 x116 w101)) (P21Z p0_0 p0_1a p0_1n p0_1c p0_2a p0_2n p0_2c x2 n1 n94 a24 n25 a86 n87 n88 a91 n92 n93 R w101)) [Value.int IntKind.i64 (0 : Int), Value.int IntKind.i64 (0 : Int)] [] w96
def R3 (a : Option Addr) (c : Nat) (pl : List Int) (a86 : Option Addr) (n88 : Nat) (TN : List Int) (a91 : Option Addr) (n93 : Nat) (TT : List Int) : L3 → Rw Int
  | .f => (a, c, pl)
  | .n => (a86, n88, TN)
  | .t => (a91, n93, TT)
section
variable {wb w w' : World} {n94 n1 : Nat} {a24 a86 a91 : Option Addr} {c24 n88 n93 : Nat} {pl TN TT : List Int}
theorem LW.set {R : L3 → Rw Int} (S : LW wb w n94 R) (hn1 : n1 < wb.heap.size) (l : L3) {i : Nat} (hi : i < (R l).2.2.length) (x : Int) : Wr w (adAt (R l).1 (i : Int) 1) 1 ∧ ¬ (adAt (R l).1 (i : Int) 1).block ∈ [n94, n1] ∧
    LW wb (setCells w (adAt (R l).1 (i : Int) 1) 0 [.int .i64 x]) n94 (upd R l ((R l).1, (R l).2.1, (R l).2.2.set i x)) := by
  obtain ⟨A, hA, h1, h2, h3, h4, h5, h6⟩ := (S.fam.own l).put enci1 (by omega) hi x
  have hm : Md (blkO (R l).1) w (setCells w (adAt (R l).1 (i : Int) 1) 0 [.int .i64 x]) := h6.mono (by intro z hz; simp at hz; rw [hA, hz]; exact blkO_some)
  have hne := S.ne l A hA
  refine ⟨h4, fun hh => ?_, ⟨S.md.old hm fun d hd => ?_, S.fam.upd hm h5 (NewO.refl _ _), fun l' B hB => ?_, Nat.lt_of_lt_of_le S.lt hm.size, S.bl⟩⟩
  · rw [h3] at hh
    simp only [List.mem_cons, List.not_mem_nil, or_false] at hh
    rcases hh with h | h
    · exact hne h
    · omega
  · obtain ⟨B, hB, rfl⟩ := blkO_mem hd; exact ((S.fam.own l).lt hB).1
  · by_cases e : l' = l
    · subst e
      rw [upd_same] at hB
      exact S.ne _ B hB
    · rw [upd_ne _ _ e] at hB
      exact S.ne l' B hB
theorem LW.setN (S : LW wb w n94 (R3 a24 c24 pl a86 n88 TN a91 n93 TT)) (hn1 : n1 < wb.heap.size) {i : Nat} (hi : i < TN.length) (x : Int) : Wr w (adAt a86 (i : Int) 1) 1 ∧ ¬ (adAt a86 (i : Int) 1).block ∈ [n94, n1] ∧
    LW wb (setCells w (adAt a86 (i : Int) 1) 0 [.int .i64 x]) n94 (R3 a24 c24 pl a86 n88 (TN.set i x) a91 n93 TT) := by
  obtain ⟨h1, h2, h3⟩ := S.set hn1 .n (i := i) hi x
  refine ⟨h1, h2, ?_⟩
  have e : upd (R3 a24 c24 pl a86 n88 TN a91 n93 TT) .n (a86, n88, TN.set i x) = R3 a24 c24 pl a86 n88 (TN.set i x) a91 n93 TT := by
    funext l; cases l <;> rfl
  rw [← e]; exact h3
theorem LW.setT (S : LW wb w n94 (R3 a24 c24 pl a86 n88 TN a91 n93 TT)) (hn1 : n1 < wb.heap.size) {i : Nat} (hi : i < TT.length) (x : Int) : Wr w (adAt a91 (i : Int) 1) 1 ∧ ¬ (adAt a91 (i : Int) 1).block ∈ [n94, n1] ∧
    LW wb (setCells w (adAt a91 (i : Int) 1) 0 [.int .i64 x]) n94 (R3 a24 c24 pl a86 n88 TN a91 n93 (TT.set i x)) := by
  obtain ⟨h1, h2, h3⟩ := S.set hn1 .t (i := i) hi x
  refine ⟨h1, h2, ?_⟩
  have e : upd (R3 a24 c24 pl a86 n88 TN a91 n93 TT) .t (a91, n93, TT.set i x) = R3 a24 c24 pl a86 n88 TN a91 n93 (TT.set i x) := by
    funext l; cases l <;> rfl
  rw [← e]; exact h3
theorem LW.rowF (S : LW wb w n94 (R3 a24 c24 pl a86 n88 TN a91 n93 TT)) : RowAt w a24 1 i1 pl := (S.fam.own .f).row enci1
theorem LW.rowN (S : LW wb w n94 (R3 a24 c24 pl a86 n88 TN a91 n93 TT)) : RowAt w a86 1 i1 TN := (S.fam.own .n).row enci1
theorem LW.rowT (S : LW wb w n94 (R3 a24 c24 pl a86 n88 TN a91 n93 TT)) : RowAt w a91 1 i1 TT := (S.fam.own .t).row enci1
end
theorem tmod_nat (a b : Nat) : Int.tmod (a : Int) (b : Int) = ((a % b : Nat) : Int) := by
  rw [Int.tmod_eq_emod_of_nonneg (by omega)]; exact (Int.natCast_emod a b).symm
section
variable {wb : World} {n94 n1 : Nat} {a24 a86 a91 na ta wa : Option Addr} {c24 n88 n93 nc tc : Nat} {pl next tags : List Int} {wh : List Nat} {dm : Int}
theorem P21I_ok {w101 : World} {TN TT : List Int} {J100 : List Value → List Value → World → Prop} {s used p : Nat} {x116 : Int} (hr : dRight dm next tags = true) (h30 : tags.length ≤ 30) (h2400 : next.length ≤ 2400) (hn1 : n1 < wb.heap.size) (hrow : RowAt wb na 1 i1 next) (hwh : RowAt wb wa 1 b1 wh) (hwl : wh.length < 2 ^ 63) (P : PlO (2 * tags.length) pl)
    (S : LW wb w101 n94 (R3 a24 c24 pl a86 n88 TN a91 n93 TT)) (T : TI tags.length dm.toNat pl next tags TN TT s 0) (hs : s < 2 * tags.length) (hp : pl[s]? = some (p : Int)) (hx : x116 = tags.getD (s % tags.length) (-1)) (hu : used ≤ s * dm.toNat)
    (K : ∀ TN' TT' used' w', LW wb w' n94 (R3 a24 c24 pl a86 n88 TN' a91 n93 TT') → TI tags.length dm.toNat pl next tags TN' TT' (s + 1) 0 → used' ≤ (s + 1) * dm.toNat → J100 [.int .i64 ((used' : Nat) : Int), .int .i64 ((s + 1 : Nat) : Int)] [] w') :
    P21I dm na next.length wa wh.length (tags.length : Int) n1 n94 a24 (2 * tags.length) a86 (2 * tags.length * dm.toNat) J100 (used : Int) (s : Int) a91 (p : Int) x116 w101 := by
  have D := drOk hr
  have d1 := D.m1
  have d2 := D.m2
  have t1 := D.t1
  obtain ⟨m, hm⟩ : ∃ m, m = dm.toNat := ⟨_, rfl⟩
  have hdm : dm = (m : Int) := by omega
  rw [← hm] at T hu K ⊢
  subst hdm
  clear hm
  have hm1 : 1 ≤ m := by omega
  have hm2 : m ≤ 256 := by omega
  have hnl : next.length = tags.length * m := by
    have := D.nl
    rw [← Int.natCast_mul] at this
    rw [Nat.mul_comm]
    omega
  have hplen := P.len
  have hpN : p < 2 * tags.length := by
    have := P.rg _ (List.mem_of_getElem? hp)
    omega
  have hsl : s < pl.length := by omega
  have hpe : pl[s] = (p : Int) := (List.getElem?_eq_some_iff.1 hp).2
  have hsm : s * m ≤ 60 * 256 := Nat.mul_le_mul (by omega) hm2
  have hpm : p * m ≤ 60 * 256 := Nat.mul_le_mul (by omega) hm2
  have hmod : s % tags.length < tags.length := Nat.mod_lt _ (by omega)
  have hsmm : s % tags.length * m ≤ 60 * 256 := Nat.mul_le_mul (by omega) hm2
  have hxr : -1 ≤ x116 ∧ x116 < 200 := by
    rw [hx, List.getD_eq_getElem?_getD, List.getElem?_eq_getElem hmod]
    exact D.tag _ (List.getElem_mem hmod)
  have dw : Md [] w101 w101.drew := Md_drew w101
  obtain ⟨_, _, S0⟩ := (S.md0 dw).setT hn1 (i := p) (by rw [T.tl]; exact hpN) x116
  unfold P21I
  refine LoopP_in (fun mm us vs w' => ∃ (k used : Nat) (TN TT : List Int), us = [.int .i64 used, .int .i64 k] ∧ vs = [] ∧ mm = m - k ∧ k ≤ m ∧ LW wb w' n94 (R3 a24 c24 pl a86 n88 TN a91 n93 TT) ∧ TI tags.length m pl next tags TN TT s (k + 1) ∧ used ≤ s * m + k) m
    ⟨0, used, TN, _, rfl, rfl, rfl, by omega, S0, T.tag P hp hpN hx hxr, hu⟩ ?_
  clear S0 S T hu
  rintro mm us vs w120 ⟨k, used, TN, TT, rfl, rfl, hmm, hk, S, T, hu⟩
  refine opI_in <| opI_in <| Bd_in fun b123 hb123 => If_in (fun hb => ?_) fun hb => ?_
  · have hkm : k < m := by
      rw [hb123] at hb
      have : (k : Int) < ((m : Nat) : Int) := of_decide_eq_true hb
      omega
    have hix : s % tags.length * m + k < next.length := by
      rw [hnl]
      have : (s % tags.length + 1) * m ≤ tags.length * m := Nat.mul_le_mul_right _ hmod
      rw [Nat.succ_mul] at this
      omega
    have hw1 : IntKind.wrap .i64 (((s % tags.length : Nat) : Int) * (m : Int)) = ((s % tags.length * m : Nat) : Int) := by rw [← Int.natCast_mul, IntKind.wrap_i64]; omega
    have hw2 : IntKind.wrap .i64 (((s % tags.length * m : Nat) : Int) + (k : Int)) = ((s % tags.length * m + k : Nat) : Int) := by rw [IntKind.wrap_i64]; omega
    have hxn := D.nxt _ (List.getElem_mem hix)
    have hgd : next.getD (s % tags.length * m + k) (-1) = next[s % tags.length * m + k] := by rw [List.getD_eq_getElem?_getD, List.getElem?_eq_getElem hix]; rfl
    have dw : Md [] w120 w120.drew := Md_drew w120
    have hn0 : ((tags.length : Nat) : Int) ≠ 0 := by omega
    refine ⟨fun w' => Md [] w120 w', dw, hn0, Bd_e (tmod_nat _ _) <| Bd_e hw1 <| Bd_e hw2 ⟨hrow.ix hix, _, fun w' h' => (hrow.md (S.md.trans h')).ld1 hix rfl rfl, opI_in ?_⟩⟩
    have S1 := S.md0 dw
    obtain ⟨J, hJ⟩ : ∃ J : List Value → List Value → World → Prop, J = (fun us vs w' => ∃ (used : Nat) (v : Int), us = [.int .i64 used, .int .i64 v] ∧ used ≤ s * m + (k + 1) ∧ Tm tags.length m pl next s k v ∧ w' = w120.drew) := ⟨_, rfl⟩
    refine Jn_in J ?_ ?_
    · intro us vs w135 hj
      rw [hJ] at hj
      obtain ⟨used, v, rfl, hu', hv, rfl⟩ := hj
      have dw2 : Md [] w120.drew w120.drew.drew := Md_drew _
      have S2 := S1.md0 dw2
      have hpk : p * m + k < TN.length := by
        rw [T.nl]
        have : (p + 1) * m ≤ 2 * tags.length * m := Nat.mul_le_mul_right _ hpN
        rw [Nat.succ_mul] at this
        omega
      have hv1 : IntKind.wrap .i64 ((p : Int) * (m : Int)) = ((p * m : Nat) : Int) := by rw [← Int.natCast_mul, IntKind.wrap_i64]; omega
      have hv2 : IntKind.wrap .i64 (((p * m : Nat) : Int) + (k : Int)) = ((p * m + k : Nat) : Int) := by rw [IntKind.wrap_i64]; omega
      obtain ⟨q1, q2, S3⟩ := S2.setN hn1 hpk v
      refine opI_in <| opI_in ⟨fun w' => Md [] w120.drew w', dw2, S1.rowF.ixn hsl hplen, _, fun w' h' => (S1.rowF.md h').ld1 hsl (by rw [hpe]; rfl) rfl, opI_in <| Bd_e hv1 <| Bd_e hv2 ⟨S2.rowN.ixn hpk T.nl, q2, q1, Bd_e (inc_i64 (by omega)) ⟨m - (k + 1), by omega, k + 1, used, _, _, rfl, rfl, rfl, by omega, S3, T.go P hkm hp hpN hv, hu'⟩⟩⟩
    · refine Bd_in fun b148 hb148 => If_in (fun hz => ?_) fun hz => ?_
      · have h0 : 0 ≤ next[s % tags.length * m + k] := by rw [hb148] at hz; exact of_decide_eq_true hz
        obtain ⟨v, hv⟩ := Int.eq_ofNat_of_zero_le h0
        have hvn : v < tags.length := by omega
        obtain ⟨J2, hJ2⟩ : ∃ J : List Value → List Value → World → Prop, J = (fun us vs w' => ∃ (u : Nat), us = [.int .i64 (u : Int)] ∧ (u = v ∨ u = v + tags.length) ∧ w' = w120.drew) := ⟨_, rfl⟩
        refine Jn_in J2 ?_ ?_
        · intro us vs w151 hj
          rw [hJ2] at hj
          obtain ⟨u, rfl, huv, rfl⟩ := hj
          have hul : u < pl.length := by omega
          obtain ⟨pu, _, hpu⟩ := P.at (s := u) (by omega)
          refine opI_in <| Bd_e (inc_i64 (by omega)) ⟨S1.rowF.ixn hul hplen, S1.rowF.ld1 hul rfl <| opI_in ?_⟩
          rw [hJ]
          refine ⟨used + 1, _, rfl, by omega, .inr ⟨u, by omega, List.getElem?_eq_getElem hul, ?_⟩, rfl⟩
          rw [hgd, hv]
          have : u % tags.length = v := by
            rcases huv with rfl | rfl
            · exact Nat.mod_eq_of_lt hvn
            · rw [Nat.add_mod_right]; exact Nat.mod_eq_of_lt hvn
          rw [this]
        · rw [hv]
          have fin : ∀ (b : Bool), If b (Bd (IntKind.wrap IntKind.i64 ((v : Int) + (tags.length : Int))) fun x171 => J2 [.int .i64 x171] [] w120.drew) (J2 [.int .i64 (v : Int)] [] w120.drew) := fun b => by
            refine If_in (fun _ => Bd_e (y := ((v + tags.length : Nat) : Int)) (by rw [IntKind.wrap_i64]; omega) ?_) fun _ => ?_
            · rw [hJ2]; exact ⟨_, rfl, .inr rfl, rfl⟩
            · rw [hJ2]; exact ⟨_, rfl, .inl rfl, rfl⟩
          refine Bd_e rfl ?_
          by_cases hw0 : 0 < wh.length
          · have hml : used % wh.length < wh.length := Nat.mod_lt _ hw0
            refine Bd_t (by simpa using hw0) <| Bd_e rfl ⟨fun _ => by omega, Bd_e (tmod_nat _ _) ⟨fun _ => hwh.ix hml, Gd_t <| (hwh.md S1.md).ld1 hml rfl <| opI_in <| Bd_in fun x168 _ => Bd_in fun b169 _ => Bd_in fun b170 _ => fin b170⟩⟩
          · refine Bd_f (by simpa using hw0) <| Bd_e rfl ⟨(fun e => by cases e), Bd_in fun x161 _ => ⟨(fun e => by cases e), Gd_f <| Bd_in fun x168 _ => Bd_in fun b169 _ => Bd_in fun b170 _ => fin b170⟩⟩
      · have h0 : ¬ 0 ≤ next[s % tags.length * m + k] := by rw [hb148] at hz; exact of_decide_eq_false hz
        rw [hJ]
        refine ⟨used, _, rfl, by omega, .inl ⟨by omega, by rw [hgd]; omega⟩, rfl⟩
  · have hkm : k = m := by
      have : ¬ (k : Int) < ((m : Nat) : Int) := by rw [hb123] at hb; exact of_decide_eq_false hb
      omega
    subst hkm
    exact Bd_e (inc_i64 (by omega)) (K TN TT used w120 S T.nxt (by rw [Nat.succ_mul]; exact hu))
theorem P21Z_ok {w w101 : World} {TN TT : List Int} {Q : Value → World → Prop} (hr : dRight dm next tags = true) (h30 : tags.length ≤ 30) (h2400 : next.length ≤ 2400) (hmb : Md [] w wb) (hn1 : n1 < wb.heap.size) (hrow : RowAt w na 1 i1 next) (hrow2 : RowAt w ta 1 i1 tags) (P : PlO (2 * tags.length) pl)
    (S : LW wb w101 n94 (R3 a24 c24 pl a86 n88 TN a91 n93 TT)) (T : TI tags.length dm.toNat pl next tags TN TT (2 * tags.length) 0) (K : ∀ w', Md [] w w' → Q (.bool true) w') :
    P21Z dm na next.length nc ta tags.length tc (tags.length : Int) n1 n94 a24 (2 * tags.length) a86 (2 * tags.length * dm.toNat) n88 a91 (2 * tags.length) n93 Q w101 := by
  have D := drOk hr
  have t1 := D.t1
  have d2 := D.m2
  have d1 := D.m1
  have hg : Good [n94, n1] w w101 := ⟨hmb.trans S.md, fun d hd => by
    have := S.lt
    have := S.md.size
    simp only [List.mem_cons, List.not_mem_nil, or_false] at hd
    rcases hd with rfl | rfl <;> omega⟩
  have hl12 : tags.length < 2 ^ 12 := by omega
  have hlen := leastD_len (dm := dm) (next := next) hl12
  have hTT := T.tl
  have hTN := T.nl
  have hTNl : TN.length < 2 ^ 62 := by
    rw [hTN]
    have : 2 * tags.length * dm.toNat ≤ 60 * 256 := Nat.mul_le_mul (by omega) (by omega)
    omega
  have hpl := P.len
  have ln : tags.length < pl.length := by omega
  have l0 : 0 < pl.length := by omega
  obtain ⟨e1, e2, e3⟩ := turned_law hr h30 P T (List.getElem?_eq_getElem ln)
  have hz0 : pl[0] = 0 := (List.getElem?_eq_some_iff.1 P.z).2
  unfold P21Z
  refine in92 dm next tags na ta nc tc hg (hrow.md hg.1) (hrow2.md hg.1) (by omega) hl12 fun a c a2 c2 w174 g174 m174 r1 r2 => ?_
  refine rgU g174 fun n185 w186 g186 m186 => ?_
  have m1 := m174.trans m186
  rw [← hTN, ← hTT]
  refine in92 dm TN TT a86 a91 n88 n93 g186 (S.rowN.md m1) (S.rowT.md m1) hTNl (by omega) fun a3 c3 a4 c4 w188 g188 m188 r3 r4 => ?_
  rw [e1] at r3 r4 ⊢
  refine rgU g188 fun n199 w200 g200 m200 => ?_
  have m2 := m1.trans (m188.trans m200)
  have dw : Md [] w200 w200.drew := Md_drew w200
  have rF := S.rowF.md m2
  refine ⟨fun w' => Md [] w200 w', dw, rF.ixn (i := 0) l0 (by omega), _, fun w' h' => (rF.md h').ld1 (i := 0) l0 (by rw [hz0]; rfl) rfl, opI_in ⟨rF.ixn ln (by omega), _, fun w' h' => (rF.md h').ld1 ln rfl rfl, opI_in ?_⟩⟩
  have m3 := m2.trans dw
  refine in94 dm TN TT a86 a91 n88 n93 0 pl[tags.length] (g200.tr dw) (S.rowN.md m3) (S.rowT.md m3) hTNl (by omega) fun w213 g213 m213 => ?_
  rw [e3, e2]
  have m174' : Md [] w174 w213 := (m186.trans (m188.trans m200)).trans (dw.trans m213)
  have m188' : Md [] w188 w213 := m200.trans (dw.trans m213)
  refine ⟨dw.trans m213, Bd_e (y := true) rfl <| Bd_e (y := true) rfl <| Bd_e (y := true) rfl <| Bd_e (y := true) rfl <| Bd_e (y := true) rfl <| Bd_e (y := true) rfl <| Gd_t ?_⟩
  refine in96 _ _ _ _ _ _ a a2 a3 a4 c c2 c3 c4 g213 (r1.md m174') (r2.md m174') (r3.md m188') (r4.md m188') (by omega) (by omega) fun w225 g225 m225 => ?_
  exact Bd_e (y := true) (by simp) <| Gd_t <| in91 g225 fun w232 g232 => Bd_e (y := true) rfl (K w232 g232.1)
theorem P21T_ok {w w96 : World} {Q : Value → World → Prop} (hr : dRight dm next tags = true) (h30 : tags.length ≤ 30) (h2400 : next.length ≤ 2400) (hmb : Md [] w wb) (hn1 : n1 < wb.heap.size) (hrow : RowAt w na 1 i1 next) (hrow2 : RowAt w ta 1 i1 tags) (hwh : RowAt w wa 1 b1 wh) (hwl : wh.length < 2 ^ 63) (P : PlO (2 * tags.length) pl)
    (S : LW wb w96 n94 (R3 a24 c24 pl a86 n88 (List.replicate (2 * tags.length * dm.toNat) 0) a91 n93 (List.replicate (2 * tags.length) 0))) (K : ∀ w', Md [] w w' → Q (.bool true) w') :
    P21T dm na next.length nc ta tags.length tc wa wh.length (tags.length : Int) n1 n94 a24 (2 * tags.length) a86 (2 * tags.length * dm.toNat) n88 a91 (2 * tags.length) n93 Q ((2 * tags.length : Nat) : Int) w96 := by
  have D := drOk hr
  have t1 := D.t1
  have d2 := D.m2
  have d1 := D.m1
  have hplen := P.len
  unfold P21T
  refine LoopP_in (fun mm us vs w' => ∃ (s used : Nat) (TN TT : List Int), us = [.int .i64 used, .int .i64 s] ∧ vs = [] ∧ mm = 2 * tags.length - s ∧ s ≤ 2 * tags.length ∧ LW wb w' n94 (R3 a24 c24 pl a86 n88 TN a91 n93 TT) ∧ TI tags.length dm.toNat pl next tags TN TT s 0 ∧ used ≤ s * dm.toNat) (2 * tags.length)
    ⟨0, 0, _, _, rfl, rfl, rfl, by omega, S, TI.start t1, by omega⟩ ?_
  clear S
  rintro mm us vs w101 ⟨s, used, TN, TT, rfl, rfl, hmm, hs, S, T, hu⟩
  refine opI_in <| opI_in <| Bd_in fun b104 hb104 => If_in (fun hb => ?_) fun hb => ?_
  · have hsn : s < 2 * tags.length := by
      rw [hb104] at hb
      have : (s : Int) < ((2 * tags.length : Nat) : Int) := of_decide_eq_true hb
      omega
    have hsl : s < pl.length := by omega
    obtain ⟨p, hpN, hp⟩ := P.at hsn
    have hpe : pl[s] = (p : Int) := (List.getElem?_eq_some_iff.1 hp).2
    have hmod : s % tags.length < tags.length := Nat.mod_lt _ (by omega)
    have dw : Md [] w101 w101.drew := Md_drew w101
    have S1 := S.md0 dw
    have hn0 : ((tags.length : Nat) : Int) ≠ 0 := by omega
    have hpT : p < TT.length := by rw [T.tl]; exact hpN
    obtain ⟨q1, q2, _⟩ := S1.setT hn1 hpT tags[s % tags.length]
    have hge : tags[s % tags.length] = tags.getD (s % tags.length) (-1) := by rw [List.getD_eq_getElem?_getD, List.getElem?_eq_getElem hmod]; rfl
    refine ⟨fun w' => Md [] w101 w', dw, S.rowF.ixn hsl hplen, hn0, Bd_e (tmod_nat _ _) ⟨_, fun w' h' => (S.rowF.md h').ld1 hsl (by rw [hpe]; rfl) rfl, opI_in ⟨hrow2.ix hmod, _, fun w' h' => (hrow2.md ((hmb.trans S.md).trans h')).ld1 hmod rfl rfl, opI_in ⟨S1.rowT.ixn hpT T.tl, q2, q1, ?_⟩⟩⟩⟩
    exact P21I_ok hr h30 h2400 hn1 (hrow.md hmb) (hwh.md hmb) hwl P S T hsn hp hge hu fun TN' TT' used' w' S' T' hu' => ⟨2 * tags.length - (s + 1), by omega, s + 1, used', TN', TT', rfl, rfl, rfl, by omega, S', T', hu'⟩
  · have hsn : s = 2 * tags.length := by
      have : ¬ (s : Int) < ((2 * tags.length : Nat) : Int) := by rw [hb104] at hb; exact of_decide_eq_false hb
      omega
    subst hsn
    exact P21Z_ok hr h30 h2400 hmb hn1 hrow hrow2 P S T K
end
end Fk
set_option linter.unusedVariables false
set_option linter.unusedSimpArgs false
set_option linter.unusedSectionVars false
set_option maxRecDepth 100000
set_option maxHeartbeats 1000000
namespace Fk
open Go Go.Proofs Go.RowKit
def plI (N i : Nat) : List Int := (List.range N).map fun x => if x < i then (x : Int) else 0
theorem plI_len (N i : Nat) : (plI N i).length = N := by simp [plI]
theorem plI_zero (N : Nat) : plI N 0 = List.replicate N 0 := by
  unfold plI
  have : (fun x : Nat => if x < 0 then (x : Int) else 0) = fun _ => 0 := by funext j; simp
  rw [this, List.map_const', List.length_range]
theorem plI_all (N : Nat) : plI N N = (List.range N).map fun x : Nat => (x : Int) := by
  unfold plI
  apply List.map_congr_left
  intro j hj
  rw [if_pos (List.mem_range.1 hj)]
theorem plI_succ (N i : Nat) : (plI N i).set i (i : Int) = plI N (i + 1) := by
  apply List.ext_getElem?
  intro j
  rw [List.getElem?_set]
  unfold plI
  rw [List.getElem?_map, List.getElem?_map, List.length_map, List.length_range]
  by_cases h : i = j
  · subst h
    by_cases c : i < N
    · simp [c]
    · simp [c]
  · rw [if_neg h]
    by_cases c : j < N
    · have : (List.range N)[j]? = some j := by simp [c]
      rw [this]
      simp only [Option.map_some]
      by_cases d : j < i
      · rw [if_pos d, if_pos (by omega)]
      · rw [if_neg d, if_neg (by omega)]
    · have : (List.range N)[j]? = none := by simp; omega
      rw [this]; rfl
theorem mkW {L : List Nat} {w : World} (hL : ∀ b ∈ L, b < w.heap.size) {m : Nat} (hm : m < 2 ^ 20) {K : Value → World → Prop}
    (k : ∀ w', OwnL w' w.heap.size 3 1 i1 (some ⟨w.heap.size, 0, none⟩) m (List.replicate m (0 : Int)) → Md [] w w' → w.heap.size < w'.heap.size → K (.slice (some ⟨w.heap.size, 0, none⟩) m m) w') :
    RunW Try.prog L (Instr.makeSlice 52 (.int .i64 ((m : Nat) : Int)) (.int .i64 ((m : Nat) : Int))) K w := by
  obtain ⟨w', hrun, ho, hmd⟩ := made52 m w hm
  exact RunW_in hrun (fun d hd => hmd.blk d (hL d hd) (by simp)) (k w' ho hmd (ho.lt rfl).2)
theorem LW.of3 {wb w : World} {n94 : Nat} {a24 a86 a91 : Option Addr} {c24 n88 n93 : Nat} {pl TN TT : List Int} (md : Md [] wb w) (o1 : OwnL w wb.heap.size 3 1 i1 a24 c24 pl) (o2 : OwnL w wb.heap.size 3 1 i1 a86 n88 TN) (o3 : OwnL w wb.heap.size 3 1 i1 a91 n93 TT)
    (p12 : Apt a24 a86) (p13 : Apt a24 a91) (p23 : Apt a86 a91) (q1 : ∀ A, a24 = some A → A.block ≠ n94) (q2 : ∀ A, a86 = some A → A.block ≠ n94) (q3 : ∀ A, a91 = some A → A.block ≠ n94) (lt : n94 < w.heap.size) (bl : wb.heap.size ≤ n94) :
    LW wb w n94 (R3 a24 c24 pl a86 n88 TN a91 n93 TT) := by
  refine ⟨md, ⟨fun l => ?_, fun l l' h => ?_⟩, fun l A hA => ?_, lt, bl⟩
  · cases l
    · exact o1
    · exact o2
    · exact o3
  · cases l <;> cases l' <;> first | exact absurd rfl h | exact p12 | exact p13 | exact p23 | exact p12.symm | exact p13.symm | exact p23.symm
  · cases l
    · exact q1 A hA
    · exact q2 A hA
    · exact q3 A hA
theorem blk_is {b : Nat} {A : Addr} (h : (some (Addr.mk b 0 none) : Option Addr) = some A) : A.block = b := by
  injection h with h; rw [← h]
theorem f21_Q (dm : Int) (next tags : List Int) (ob wh : List Nat) (na ta oa wa : Option Addr) (nc tc oc wc : Nat) (w : World) {Q : Value → World → Prop} (hn : RowAt w na 1 i1 next) (ht : RowAt w ta 1 i1 tags) (ho : RowAt w oa 1 b1 ob) (hw : RowAt w wa 1 b1 wh)
    (hob : ∀ x ∈ ob, x < 256) (hol : ob.length < 2 ^ 63) (hwl : wh.length < 2 ^ 63) (htl : tags.length < 2 ^ 63) (hnl : next.length < 2 ^ 63) (K : ∀ w', Md [] w w' → Q (.bool true) w') :
    f21_vc dm na next.length nc ta tags.length tc oa ob.length oc wa wh.length wc Q w := by
  intro n1 hn1
  refine Bd_e rfl ?_
  intro w3 m3 hL3
  have g3 : Good [n1] w w3 := ⟨m3, hL3⟩
  refine in90 dm na ta next.length nc tags.length tc g3 fun w5 g5 m5 => ?_
  have aw : ∀ {w' : World}, Good [n1] w w' → CallW Try.prog [n1] 91 #[] (fun v47 w48 => opB v47 fun b49 => Q (.bool b49) w48) w' := fun g => in91 g fun w48 g48 => K w48 g48.1
  refine Bd_in fun b7 hb7 => Bd_in fun b8 hb8 => Bd_in fun b9 hb9 => ?_
  by_cases hfew : tags.length ≤ 30 ∧ next.length ≤ 2400
  · have e9 : b9 = false := by
      rw [hb9, hb7, hb8]
      have c1 : tags.length ≤ 60 := by omega
      have c2 : decide (((tags.length : Nat) : Int) > 30) = false := decide_eq_false (by omega)
      rw [c2]
      simp [c1, hfew.2]
    subst e9
    obtain ⟨h30, h2400⟩ := hfew
    refine Gd_t <| in72d dm next tags na ta nc tc g5 (hn.md g5.1) (ht.md g5.1) (by omega) (by omega) fun w15 g15 m15 => ?_
    refine Bd_e rfl <| Bd_e rfl <| If_in (fun _ => aw g15) fun hb => ?_
    have hr : dRight dm next tags = true := by
      cases h : dRight dm next tags with
      | true => rfl
      | false => rw [h] at hb; cases hb
    have D := drOk hr
    have t1 := D.t1
    have d1 := D.m1
    have d2 := D.m2
    obtain ⟨N, hN⟩ : ∃ N, N = 2 * tags.length := ⟨_, rfl⟩
    have hw2n : IntKind.wrap .i64 ((2 : Int) * ((tags.length : Nat) : Int)) = ((N : Nat) : Int) := by rw [IntKind.wrap_i64]; omega
    have hn15 : n1 < w15.heap.size := g15.2 n1 (by simp)
    refine Bd_e hw2n <| mkW g15.2 (by omega) fun w23 o23 m23 _ => opL_in <| Bd_e rfl ?_
    obtain ⟨a24, ha24⟩ : ∃ a, a = (some (Addr.mk w15.heap.size 0 none) : Option Addr) := ⟨_, rfl⟩
    rw [← ha24] at o23 ⊢
    have hne1 : ∀ {l : List Int} {w : World} {i : Nat}, OwnL w w15.heap.size 3 1 i1 a24 N l → (hi : i < l.length) → ¬ (adAt a24 (i : Int) 1).block ∈ [n1] := fun {l w i} o hi hh => by
      have e : (adAt a24 (i : Int) 1).block = n1 := by simpa using hh
      rw [ha24, adAt_blk] at e
      have e2 : w15.heap.size = n1 := e
      omega
    refine LoopP_in (fun mm us vs w' => ∃ (i : Nat), us = [.int .i64 i] ∧ mm = N - i ∧ i ≤ N ∧ OwnL w' w15.heap.size 3 1 i1 a24 N (plI N i) ∧ Md [] w15 w') N
      ⟨0, rfl, rfl, by omega, by rw [plI_zero]; exact o23, m23⟩ ?_
    clear o23 m23
    rintro mm us vs w31 ⟨i, rfl, hmm, hi, o31, m31⟩
    refine opI_in <| Bd_in fun b33 hb33 => If_in (fun hz => ?_) fun hz => ?_
    · have hiN : i < N := by
        rw [hb33] at hz
        have : (i : Int) < ((N : Nat) : Int) := of_decide_eq_true hz
        omega
      have hil : i < (plI N i).length := by rw [plI_len]; exact hiN
      obtain ⟨A, hA, p1, p2, p3, p4, p5, p6⟩ := o31.put enci1 (by omega) hil (i : Int)
      refine ⟨(o31.row enci1).ixn hil (plI_len _ _), hne1 o31 hil, p4, Bd_e (inc_i64 (by omega)) ⟨N - (i + 1), by omega, i + 1, rfl, rfl, by omega, by rw [← plI_succ]; exact p5, m31.old p6 fun d hd => by simp at hd; rw [hd]; exact p2⟩⟩
    · have hiN : i = N := by
        have : ¬ (i : Int) < ((N : Nat) : Int) := by rw [hb33] at hz; exact of_decide_eq_false hz
        omega
      rw [hiN, plI_all] at o31
      clear hmm hi hz hb33 hiN
      refine Bd_e rfl ?_
      refine LoopP_in (fun mm us vs w' => ∃ (j : Nat) (pl : List Int), us = [.int .i64 j] ∧ mm = ob.length - j ∧ j ≤ ob.length ∧ PlO N pl ∧ OwnL w' w15.heap.size 3 1 i1 a24 N pl ∧ Md [] w15 w') ob.length
        ⟨0, _, rfl, rfl, by omega, PlO.start (by omega), o31, m31⟩ ?_
      clear o31 m31
      rintro mm us vs w39 ⟨j, pl, rfl, hmm, hj, P, o39, m39⟩
      have hpl := P.len
      refine opI_in <| Bd_in fun b41 hb41 => If_in (fun hz => ?_) fun hz => ?_
      · have hjl : j < ob.length := by
          rw [hb41] at hz
          have : (j : Int) < ((ob.length : Nat) : Int) := of_decide_eq_true hz
          omega
        have hbx := hob _ (List.getElem_mem hjl)
        obtain ⟨J, hJ⟩ : ∃ J : List Value → List Value → World → Prop, J = (fun us vs w' => ∃ (x47 x48 : Int) (pl : List Int), us = [.int .i64 (j : Int), .int .u8 ((ob[j] : Nat) : Int), .int .i64 x47, .int .i64 x48] ∧ PlO N pl ∧ OwnL w' w15.heap.size 3 1 i1 a24 N pl ∧ Md [] w15 w') := ⟨_, rfl⟩
        refine Jn_in J ?_ ?_
        · intro us vs w44 hj'
          rw [hJ] at hj'
          obtain ⟨x47, x48, pl, rfl, P, o, m⟩ := hj'
          exact opI_in <| opI_in <| opI_in <| opI_in <| Bd_e (inc_len hjl hol) ⟨ob.length - (j + 1), by omega, j + 1, pl, rfl, rfl, by omega, P, o, m⟩
        · have hro := ho.md (g15.1.trans m39)
          have dw : Md [] w39 w39.drew := Md_drew w39
          have o40 := o39.md dw
          have hN0 : ((N : Nat) : Int) ≠ 0 := by omega
          have hwb : IntKind.wrap .i64 ((ob[j] : Nat) : Int) = ((ob[j] : Nat) : Int) := by rw [IntKind.wrap_i64]; omega
          have ha : j % N < pl.length := by rw [hpl]; exact Nat.mod_lt _ (by omega)
          have hb2 : ob[j] % N < pl.length := by rw [hpl]; exact Nat.mod_lt _ (by omega)
          refine ⟨hro.ix hjl, hro.ld1 hjl rfl <| opI_in ⟨fun _ => True, trivial, Bd_e hw2n ⟨hN0, Bd_e (tmod_nat _ _) <| Bd_e hwb <| Bd_e hw2n ⟨hN0, Bd_e (tmod_nat _ _) ⟨(o39.row enci1).ixn ha hpl, (o40.row enci1).ld1 ha rfl <| opI_in ?_⟩⟩⟩⟩⟩
          have stay : ∀ {w' : World}, Md [] w39 w' → J [.int .i64 (j : Int), .int .u8 ((ob[j] : Nat) : Int), .int .i64 ((j % N : Nat) : Int), .int .i64 ((ob[j] % N : Nat) : Int)] [] w' := fun {w'} hm => by
            rw [hJ]; exact ⟨_, _, pl, rfl, P, o39.md hm, m39.trans hm⟩
          refine Bd_in fun b61 hb61 => ⟨fun _ => (o39.row enci1).ixn hb2 hpl, ?_⟩
          cases b61 with
          | false => exact Gd_f <| Bd_in fun b68 _ => Bd_f rfl <| If_f (stay dw)
          | true =>
            have ha0 : pl[j % N] ≠ 0 := by
              intro e
              rw [e] at hb61
              simp at hb61
            refine Gd_t <| (o40.row enci1).ld1 hb2 rfl <| opI_in <| Bd_in fun b68 hb68 => Bd_e (y := b68) rfl <| If_in (fun hy => ?_) fun _ => stay dw
            have hb0 : pl[ob[j] % N] ≠ 0 := by
              intro e
              rw [hb68, e] at hy
              simp at hy
            have dw2 : Md [] w39.drew w39.drew.drew := Md_drew _
            have o41 := o40.md dw2
            obtain ⟨A, hA, p1, p2, p3, p4, p5, p6⟩ := o41.put enci1 (by omega) ha pl[ob[j] % N]
            have hb3 : ob[j] % N < (pl.set (j % N) pl[ob[j] % N]).length := by simpa using hb2
            obtain ⟨A', hA', q1, q2, q3, q4, q5, q6⟩ := p5.put enci1 (by omega) hb3 pl[j % N]
            refine ⟨fun w' => Md [] w39.drew w', dw2, (o39.row enci1).ixn hb2 hpl, (o39.row enci1).ixn ha hpl, _, fun w' h' => ((o40.md h').row enci1).ld1 hb2 rfl rfl, opI_in ⟨_, fun w' h' => ((o40.md h').row enci1).ld1 ha rfl rfl, opI_in ⟨(o39.row enci1).ixn ha hpl, hne1 o39 ha, p4, (o39.row enci1).ixn hb2 hpl, hne1 o39 hb2, q4, ?_⟩⟩⟩
            rw [hJ]
            exact ⟨_, _, _, rfl, P.swap ha hb2 ha0 hb0, q5, (((m39.trans dw).trans dw2).old p6 fun d hd => by simp at hd; rw [hd]; exact p2).old q6 fun d hd => by simp at hd; rw [hd]; exact q2⟩
      · -- the turned machine is laid, in one of six orders
        have hsm : N * dm.toNat ≤ 60 * 256 := Nat.mul_le_mul (by omega) (by omega)
        have hwm : IntKind.wrap .i64 (((N : Nat) : Int) * dm) = ((N * dm.toNat : Nat) : Int) := by
          have : ((N * dm.toNat : Nat) : Int) = ((N : Nat) : Int) * dm := by rw [Int.natCast_mul, Int.toNat_of_nonneg (by omega)]
          rw [← this, IntKind.wrap_i64]; omega
        have hw15 := g15.1
        have dw : Md [] w39 w39.drew := Md_drew w39
        have m40 := m39.trans dw
        have o40 := o39.md dw
        have l40 : ∀ A, a24 = some A → A.block < w39.drew.heap.size := fun A hA => (o40.lt hA).2
        have hn40 : n1 < w39.drew.heap.size := Nat.lt_of_lt_of_le hn15 m40.size
        have b40 : w15.heap.size ≤ w39.drew.heap.size := m40.size
        have tail : ∀ (n94 : Nat) (a86 a91 : Option Addr) (wX w96 : World), LW w15 wX n94 (R3 a24 N pl a86 (N * dm.toNat) (List.replicate (N * dm.toNat) 0) a91 N (List.replicate N 0)) → Md [n94] wX w96 →
            Bd (IntKind.wrap .i64 ((2 : Int) * ((tags.length : Nat) : Int))) fun x97 => P21T dm na next.length nc ta tags.length tc wa wh.length (tags.length : Int) n1 n94 a24 N a86 (N * dm.toNat) (N * dm.toNat) a91 N N Q x97 w96 := fun n94 a86 a91 wX w96 S hm => by
          refine Bd_e hw2n ?_
          rw [hN] at S P ⊢
          exact P21T_ok hr h30 h2400 hw15 hn15 hn ht hw hwl P (S.up hm) K
        refine Bd_e hw2n <| Bd_e hwm <| Bd_e hw2n ⟨?_, ?_, ?_⟩
        · refine mkW (by simpa using hn40) (by omega) fun w85 o85 m85 s85 => opL_in ⟨?_, ?_⟩
          · refine mkW (fun d hd => by have e : d = n1 := by simpa using hd
                                       rw [e]; omega) (by omega) fun w90 o90 m90 s90 => opL_in ?_
            intro n94 hn94 w95 m95 hL95 w96 m96 _
            have h95 : n94 < w95.heap.size := hL95 n94 (by simp)
            refine tail n94 _ _ w95 w96 (LW.of3 (((m40.trans m85).trans m90).trans m95) (((o40.md m85).md m90).md m95) (((o85.down b40).md m90).md m95) ((o90.down (Nat.le_trans b40 m85.size)).md m95) ?_ ?_ ?_ ?_ ?_ ?_ h95 (by have := m85.size; omega)) m96
            · intro A B hA hB; have := l40 A hA; have := blk_is hB; omega
            · intro A B hA hB; have := l40 A hA; have := blk_is hB; omega
            · intro A B hA hB; have := blk_is hA; have := blk_is hB; omega
            · intro A hA; have := l40 A hA; omega
            · intro A hA; have := blk_is hA; omega
            · intro A hA; have := blk_is hA; omega
          · intro n94 hn94 w95 m95 hL95
            have h95 : n94 < w95.heap.size := hL95 n94 (by simp)
            have z95 := m95.size
            refine mkW (fun d hd => hL95 d hd) (by omega) fun w90 o90 m90 s90 => opL_in ?_
            intro w96 m96 _
            refine tail n94 _ _ w90 w96 (LW.of3 (((m40.trans m85).trans m95).trans m90) (((o40.md m85).md m95).md m90) (((o85.down b40).md m95).md m90) (o90.down (by omega)) ?_ ?_ ?_ ?_ ?_ ?_ (by omega) (by omega)) m96
            · intro A B hA hB; have := l40 A hA; have := blk_is hB; omega
            · intro A B hA hB; have := l40 A hA; have := blk_is hB; omega
            · intro A B hA hB; have := blk_is hA; have := blk_is hB; omega
            · intro A hA; have := l40 A hA; omega
            · intro A hA; have := blk_is hA; omega
            · intro A hA; have := blk_is hA; omega
        · refine mkW (by simpa using hn40) (by omega) fun w85 o85 m85 s85 => opL_in ⟨?_, ?_⟩
          · refine mkW (fun d hd => by have e : d = n1 := by simpa using hd
                                       rw [e]; omega) (by omega) fun w90 o90 m90 s90 => opL_in ?_
            intro n94 hn94 w95 m95 hL95 w96 m96 _
            have h95 : n94 < w95.heap.size := hL95 n94 (by simp)
            refine tail n94 _ _ w95 w96 (LW.of3 (((m40.trans m85).trans m90).trans m95) (((o40.md m85).md m90).md m95) ((o90.down (Nat.le_trans b40 m85.size)).md m95) (((o85.down b40).md m90).md m95) ?_ ?_ ?_ ?_ ?_ ?_ h95 (by have := m85.size; omega)) m96
            · intro A B hA hB; have := l40 A hA; have := blk_is hB; omega
            · intro A B hA hB; have := l40 A hA; have := blk_is hB; omega
            · intro A B hA hB; have := blk_is hA; have := blk_is hB; omega
            · intro A hA; have := l40 A hA; omega
            · intro A hA; have := blk_is hA; omega
            · intro A hA; have := blk_is hA; omega
          · intro n94 hn94 w95 m95 hL95
            have h95 : n94 < w95.heap.size := hL95 n94 (by simp)
            have z95 := m95.size
            refine mkW (fun d hd => hL95 d hd) (by omega) fun w90 o90 m90 s90 => opL_in ?_
            intro w96 m96 _
            refine tail n94 _ _ w90 w96 (LW.of3 (((m40.trans m85).trans m95).trans m90) (((o40.md m85).md m95).md m90) (o90.down (by omega)) (((o85.down b40).md m95).md m90) ?_ ?_ ?_ ?_ ?_ ?_ (by omega) (by omega)) m96
            · intro A B hA hB; have := l40 A hA; have := blk_is hB; omega
            · intro A B hA hB; have := l40 A hA; have := blk_is hB; omega
            · intro A B hA hB; have := blk_is hA; have := blk_is hB; omega
            · intro A hA; have := l40 A hA; omega
            · intro A hA; have := blk_is hA; omega
            · intro A hA; have := blk_is hA; omega
        · intro n94 hn94 w95 m95 hL95
          have h95 : n94 < w95.heap.size := hL95 n94 (by simp)
          have z95 := m95.size
          have o95 := o40.md m95
          have m95' := m40.trans m95
          refine ⟨?_, ?_⟩
          · refine mkW (fun d hd => hL95 d hd) (by omega) fun w85 o85 m85 s85 => opL_in ?_
            refine mkW (fun d hd => Nat.lt_of_lt_of_le (hL95 d hd) m85.size) (by omega) fun w90 o90 m90 s90 => opL_in ?_
            intro w96 m96 _
            refine tail n94 _ _ w90 w96 (LW.of3 ((m95'.trans m85).trans m90) ((o95.md m85).md m90) ((o85.down (by omega)).md m90) (o90.down (by omega)) ?_ ?_ ?_ ?_ ?_ ?_ (by omega) (by omega)) m96
            · intro A B hA hB; have := l40 A hA; have := blk_is hB; omega
            · intro A B hA hB; have := l40 A hA; have := blk_is hB; omega
            · intro A B hA hB; have := blk_is hA; have := blk_is hB; omega
            · intro A hA; have := l40 A hA; omega
            · intro A hA; have := blk_is hA; omega
            · intro A hA; have := blk_is hA; omega
          · refine mkW (fun d hd => hL95 d hd) (by omega) fun w85 o85 m85 s85 => opL_in ?_
            refine mkW (fun d hd => Nat.lt_of_lt_of_le (hL95 d hd) m85.size) (by omega) fun w90 o90 m90 s90 => opL_in ?_
            intro w96 m96 _
            refine tail n94 _ _ w90 w96 (LW.of3 ((m95'.trans m85).trans m90) ((o95.md m85).md m90) (o90.down (by omega)) ((o85.down (by omega)).md m90) ?_ ?_ ?_ ?_ ?_ ?_ (by omega) (by omega)) m96
            · intro A B hA hB; have := l40 A hA; have := blk_is hB; omega
            · intro A B hA hB; have := l40 A hA; have := blk_is hB; omega
            · intro A B hA hB; have := blk_is hA; have := blk_is hB; omega
            · intro A hA; have := l40 A hA; omega
            · intro A hA; have := blk_is hA; omega
            · intro A hA; have := blk_is hA; omega
  · have e9 : b9 = true := by
      rw [hb9, hb7, hb8]
      by_cases c1 : tags.length ≤ 30
      · have c2 : ¬ next.length ≤ 2400 := fun h => hfew ⟨c1, h⟩
        simp [c2]
      · have c2 : decide (((tags.length : Nat) : Int) > 30) = true := decide_eq_true (by omega)
        rw [c2]
        generalize (!(decide (tags.length ≤ 60) && decide (next.length ≤ 2400))) = z
        cases z <;> rfl
    subst e9
    exact Gd_f <| Bd_e rfl <| Bd_e rfl <| If_t (aw g5)
theorem f21_ok (dm : Int) (next tags : List Int) (ob wh : List Nat) (na ta oa wa : Option Addr) (nc tc oc wc : Nat) (w : World) (hn : RowAt w na 1 i1 next) (ht : RowAt w ta 1 i1 tags) (ho : RowAt w oa 1 b1 ob) (hw : RowAt w wa 1 b1 wh)
    (hob : ∀ x ∈ ob, x < 256) (hol : ob.length < 2 ^ 63) (hwl : wh.length < 2 ^ 63) (htl : tags.length < 2 ^ 63) (hnl : next.length < 2 ^ 63) :
    Ct Try.prog 21 #[.agg #[.int .i64 dm, .slice na next.length nc, .slice ta tags.length tc], .slice oa ob.length oc, .slice wa wh.length wc] w fun v w' => v = .bool true ∧ Md [] w w' := by
  apply f21_in
  exact f21_Q dm next tags ob wh na ta oa wa nc tc oc wc w hn ht ho hw hob hol hwl htl hnl fun w' h => ⟨rfl, h⟩
end Fk
