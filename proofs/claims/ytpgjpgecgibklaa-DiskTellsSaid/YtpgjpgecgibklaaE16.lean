/- The law 'DiskTells': the disk and the reference's disk side by side; what its code does. -/
import Derived.Test.YtpgjpgecgibklaaE15
import Derived.Test.YtpgjpgecgibklaaV11
set_option linter.unusedVariables false
set_option linter.unusedSimpArgs false
set_option maxRecDepth 100000
namespace Fk
open Go Go.Proofs Go.RowKit
structure TS (w0 w : World) (n : Nat) (d : Dk) (F : List Nat) (x : Rf) (p : RfS) (s : Nat) : Prop where
  ds : DS w0 w n d F
  r : RfAt w w0.heap.size x p
  sa : Sep p.a w F
  sb : Sep p.b w F
  n1 : s < w.heap.size
  n2 : w0.heap.size ≤ s
  nF : s ∉ F
  na : ∀ A, p.a = some A → A.block ≠ s
  nb : ∀ A, p.b = some A → A.block ≠ s
section
variable {w0 w w' : World} {n : Nat} {d d' : Dk} {F F' L : List Nat} {x x' : Rf} {p p' : RfS} {s : Nat}
theorem TS.md0 (S : TS w0 w n d F x p s) (hm : Md [] w w') : TS w0 w' n d F x p s := by
  have := hm.size
  exact ⟨S.ds.md0 hm, S.r.md hm, S.sa.md this, S.sb.md this, by have := S.n1; omega, S.n2, S.nF, S.na, S.nb⟩
theorem TS.disk (S : TS w0 w n d F x p s) (h : DS w0 w' n d' F') (hm : Md F w w') (hf : Fr w F F') : TS w0 w' n d' F' x p s := by
  have := hm.size
  refine ⟨h, ⟨S.r.sf.mdD hm (fun A hA => (S.sa A hA).2), S.r.pe.mdD hm (fun A hA => (S.sb A hA).2), S.r.rf, S.r.sl, S.r.pl⟩, S.sa.fr hf this, S.sb.fr hf this, by have := S.n1; omega, S.n2, fun hs => ?_, S.na, S.nb⟩
  rcases hf _ hs with h | h
  · exact S.nF h
  · have := S.n1; omega
theorem TS.ref (S : TS w0 w n d F x p s) (hm : Md [] w w') (r : RfAt w' w0.heap.size x' p') (hn : NewS w p p') : TS w0 w' n d F x' p' s := by
  have hs := hm.size
  have hn1 := S.n1
  refine ⟨S.ds.md0 hm, r, fun A hA => ⟨(r.sf.lt hA).2, fun hF => ?_⟩, fun A hA => ⟨(r.pe.lt hA).2, fun hF => ?_⟩, by omega, S.n2, S.nF, fun A hA => ?_, fun A hA => ?_⟩
  · rcases hn.1 A hA with h | h
    · exact (S.sa A h).2 hF
    · have := S.ds.dk.lt _ hF; omega
  · rcases hn.2 A hA with h | h
    · exact (S.sb A h).2 hF
    · have := S.ds.dk.lt _ hF; omega
  · rcases hn.1 A hA with h | h
    · exact S.na A h
    · omega
  · rcases hn.2 A hA with h | h
    · exact S.nb A h
    · omega
theorem TS.other (S : TS w0 w n d F x p s) {G : List Nat} (hm : Md G w w') (hG : ∀ b ∈ G, w0.heap.size ≤ b ∧ b ∉ F ∧ (∀ A, p.a = some A → A.block ≠ b) ∧ (∀ A, p.b = some A → A.block ≠ b)) : TS w0 w' n d F x p s := by
  have hs := hm.size
  refine ⟨S.ds.other hm (fun b hb => ⟨S.ds.dk.lt b hb, fun hb' => (hG b hb').2.1 hb⟩) (fun b hb => (hG b hb).1), ⟨S.r.sf.mdD hm (fun A hA hb => (hG _ hb).2.2.1 A hA rfl), S.r.pe.mdD hm (fun A hA hb => (hG _ hb).2.2.2 A hA rfl), S.r.rf, S.r.sl, S.r.pl⟩, S.sa.md hs, S.sb.md hs, by have := S.n1; omega, S.n2, S.nF, S.na, S.nb⟩
theorem TS.up (S : TS w0 w n d F x p s) (hm : Md [s] w w') : TS w0 w' n d F x p s := S.other hm fun b hb => by
  simp at hb; subst hb
  exact ⟨S.n2, S.nF, S.na, S.nb⟩
end
theorem in121 {L : List Nat} {x : Rf} {p : RfS} {base : Nat} {w : World} (h : RfAt w base x p) (hs : ∀ i, i < x.sf.length → (x.has i).size = 64) (h20 : x.sf.length ≤ 20) (hL : ∀ b ∈ L, b < w.heap.size) {K : ByteArray → World → Prop} (k : ∀ w', Md [] w w' → K (x.all x.sf.length) w') :
    CallW Try.prog L 121 #[.agg #[.slice p.a x.sf.length p.c, .slice p.b x.pe.length p.e, .int .i64 x.rf]] (fun v w' => opStr v fun s => K s w') w := by
  refine (f121_ok x p base w h hs h20).call hL ?_
  rintro v w' rfl m
  exact opStr_in (k w' m)
/-- Each byte of a row of one's own is raised by one: the row stays one's own. -/
theorem bump {w0 w : World} {n : Nat} {d : Dk} {F : List Nat} {x : Rf} {p : RfS} {s n83 : Nat} {e : TypeId} {A : Option Addr} {C len base : Nat} {l : List Nat} (S : TS w0 w n d F x p s) (ho : OwnL w base e 1 b1 A C l) (hlen : l.length = len) (h83 : n83 < w.heap.size) (hb0 : w0.heap.size ≤ base)
    (hA : ∀ B, A = some B → B.block ∉ F ∧ (∀ Q, p.a = some Q → Q.block ≠ B.block) ∧ (∀ Q, p.b = some Q → Q.block ≠ B.block) ∧ B.block ≠ s ∧ B.block ≠ n83) (hl : len < 2 ^ 40) {K : World → Prop} (k : ∀ w', TS w0 w' n d F x p s → n83 < w'.heap.size → K w') :
    LoopP (fun l172 l173 J174 w175 => opI .i64 (nthD l172 0) fun x176 => Bd (decide (x176 < (len : Int))) fun b177 => If b177 (IxOk x176 len A ∧ Ld w175 (adAt A x176 1) fun v178 => opI .u8 v178 fun x179 => Bd (IntKind.wrap .u8 (x179 + 1)) fun x180 => IxOk x176 len A ∧ ¬ Addr.block (adAt A x176 1) ∈ [n83, s] ∧ Wr w175 (adAt A x176 1) 1 ∧ Bd (IntKind.wrap .i64 (x176 + 1)) fun x181 => J174 [.int .i64 x181] [] (setCells w175 (adAt A x176 1) 0 [.int .u8 x180])) (K w175)) [.int .i64 0] [] w := by
  refine LoopP_in (fun mm us vs w' => ∃ (j : Nat) (l : List Nat), us = [.int .i64 j] ∧ mm = len - j ∧ j ≤ len ∧ l.length = len ∧ OwnL w' base e 1 b1 A C l ∧ TS w0 w' n d F x p s ∧ n83 < w'.heap.size) len ⟨0, l, rfl, rfl, by omega, hlen, ho, S, h83⟩ ?_
  rintro mm us vs w175 ⟨j, l, rfl, rfl, hj, hlen, ho, S, h83⟩
  refine opI_in <| Bd_in fun b hb => If_in (fun h => ?_) fun h => k w175 S h83
  have hj' : j < l.length := by rw [hb] at h; have : (j : Int) < (len : Int) := by simpa using h
                                omega
  have hix := (ho.row encb1).ix hj'
  rw [hlen] at hix
  refine ⟨hix, (ho.row encb1).ld1 hj' rfl <| opI_in <| Bd_in fun x180 hx180 => ⟨hix, ?_⟩⟩
  have hx : ∃ y : Nat, x180 = (y : Int) := by
    have : 0 ≤ x180 := by rw [hx180, IntKind.wrap_u8]; omega
    exact Int.eq_ofNat_of_zero_le this
  obtain ⟨y, rfl⟩ := hx
  obtain ⟨B, hB, p1, p2, p3, p4, p5, p6⟩ := ho.put encb1 (by omega) hj' y
  obtain ⟨q1, q2, q3, q4, q5⟩ := hA B hB
  refine ⟨by rw [p3]; simp; exact ⟨q5, q4⟩, p4, Bd_e (inc_i64 (by omega)) ⟨len - (j + 1), by omega, j + 1, l.set j y, rfl, rfl, by omega, by rw [List.length_set]; exact hlen, p5, S.other p6 (fun b hb => ?_), ?_⟩⟩
  · simp at hb; subst hb
    exact ⟨by omega, q1, q2, q3⟩
  · have := p6.size
    exact Nat.lt_of_lt_of_le h83 this
end Fk
