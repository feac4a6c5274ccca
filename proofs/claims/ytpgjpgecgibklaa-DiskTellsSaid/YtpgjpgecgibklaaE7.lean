/- The laws 'DiskWhole' and 'DiskNone': what their code does. -/
import Derived.Test.YtpgjpgecgibklaaE6
set_option linter.unusedVariables false
set_option linter.unusedSimpArgs false
set_option maxRecDepth 100000
namespace Fk
open Go Go.Proofs Go.RowKit
theorem size_bytesOf (l : List Nat) : (bytesOf l).size = l.length := by simp [bytesOf, ByteArray.size]
theorem str_own {w : World} {base : Nat} {a : Option Addr} {c : Nat} {l : List Nat} (h : OwnL w base 5 1 b1 a c l) (hl : ∀ x ∈ l, x < 256) (c' : Nat) : (convert 51 9 (.slice a l.length c')).run Try.prog w = .ok (.string (bytesOf l)) w := conv_row (h.row encb1) hl _ _ rfl
theorem all_lt (d : Dk) : ∀ x ∈ d.all, x < 256 := bytesB_lt _
theorem crash_all {d : Dk} {keep torn : Int} (h : (d.pd.length : Int) ≤ keep) : (d.crash keep torn).all = d.all ∧ (d.crash keep torn).pd = [] := by
  refine ⟨?_, rfl⟩
  unfold Dk.crash Dk.all Dk.crB
  rw [List.drop_of_length_le (by omega)]
theorem crash_none {d : Dk} {keep torn : Int} (h : d.pd = []) : (d.crash keep torn).all = d.all ∧ (d.crash keep torn).pd = [] := by
  refine ⟨?_, rfl⟩
  unfold Dk.crash Dk.all Dk.crB
  rw [h, List.drop_nil]
theorem arm0_flush (d : Dk) : (d.arm 0).flush.2 = 0 ∧ (d.arm 0).flush.1.all = d.all ∧ (d.arm 0).flush.1.pd = [] := by
  have h1 : (d.arm 0).stepD = (d.arm 0, true) := by
    unfold Dk.stepD Dk.arm
    rw [if_neg (by simp)]
  have h2 : (d.arm 0).flush = ({ d.arm 0 with pd := [] }, 0) := by
    unfold Dk.flush
    rw [h1]; rfl
  rw [h2]
  exact ⟨rfl, rfl, rfl⟩
/-- Two disks, apart. -/
structure DS2 (w0 w : World) (n1 : Nat) (d1 : Dk) (F1 : List Nat) (n2 : Nat) (d2 : Dk) (F2 : List Nat) : Prop where
  a : DS w0 w n1 d1 F1
  b : DS w0 w n2 d2 F2
  x : ∀ b ∈ F2, b ∉ F1
section
variable {w0 w w' : World} {n1 : Nat} {d1 d1' : Dk} {F1 F1' : List Nat} {n2 : Nat} {d2 d2' : Dk} {F2 F2' : List Nat}
theorem DS2.stepA (S : DS2 w0 w n1 d1 F1 n2 d2 F2) (h : DS w0 w' n1 d1' F1') (hm : Md F1 w w') (hf : Fr w F1 F1') : DS2 w0 w' n1 d1' F1' n2 d2 F2 :=
  ⟨h, S.b.other hm (fun b hb => ⟨S.b.dk.lt b hb, S.x b hb⟩) S.a.lo, fun b hb hb' => by
    rcases hf b hb' with h | h
    · exact S.x b hb h
    · have := S.b.dk.lt b hb; omega⟩
theorem DS2.stepB (S : DS2 w0 w n1 d1 F1 n2 d2 F2) (h : DS w0 w' n2 d2' F2') (hm : Md F2 w w') (hf : Fr w F2 F2') : DS2 w0 w' n1 d1 F1 n2 d2' F2' :=
  ⟨S.a.other hm (fun b hb => ⟨S.a.dk.lt b hb, fun hb' => S.x b hb' hb⟩) S.b.lo, h, fun b hb hb' => by
    rcases hf b hb with h | h
    · exact S.x b h hb'
    · have := S.a.dk.lt b hb'; omega⟩
theorem DS2.md0 (S : DS2 w0 w n1 d1 F1 n2 d2 F2) (hm : Md [] w w') : DS2 w0 w' n1 d1 F1 n2 d2 F2 := ⟨S.a.md0 hm, S.b.md0 hm, S.x⟩
end
theorem f24_ok (l : List Op20) (A : Option Addr) (C : Nat) (hl : l.length < 2 ^ 63) (hC : l.length ≤ C) (hok : ∀ o ∈ l, o.ok) (keep : Nat) (hk : keep < 256) (torn more bytes : Int) (w : World) (hr : RowAt w A 6 opE l) :
    Ct Try.prog 24 #[.slice A l.length C, .int .u8 keep, .int .i64 torn, .int .i64 more, .int .i64 bytes] w fun v w' => v = .bool true ∧ Md [] w w' := by
  apply f24_in
  obtain ⟨hb8, hp40⟩ := playD_len l
  generalize hd : playD l = d at *
  refine in101 (Md.refl _ _) l rfl hl hC hok hr (by simp) fun n1 F1 w2 S1 m2 hF1 => ?_
  refine in101 m2 l rfl hl hC hok (hr.md m2) (by simp) fun n2 F2 w5 S2 m5 hF2 => ?_
  rw [hd] at S1 S2
  have S : DS2 w w5 n1 d F1 n2 d F2 := ⟨S1.md0 m5, S2, fun b hb hb' => by have := hF2 b hb; have := S1.dk.lt b hb'; omega⟩
  have hal := all_lt d
  refine in104' S.a (by simp) fun a c w8 _ m8 o8 => RunW_in0 (str_own o8 hal c) <| opStr_in ?_
  have S := S.md0 m8
  refine Bd_e (wrap_byte hk) <| Bd_e (y := 40 + (keep : Int)) (by rw [IntKind.wrap_i64]; omega) ?_
  obtain ⟨c1, c2⟩ := crash_all (d := d) (keep := 40 + (keep : Int)) (torn := torn) (by omega)
  refine in106 S.a (LF.nil _ _) _ _ (by omega) fun F1 w18 q18 m18 f18 _ => ?_
  have S := S.stepA q18 m18 f18
  generalize d.crash (40 + (keep : Int)) torn = e at *
  refine in102 S.b (LF.nil _ _) 0 (by omega) fun w21 q21 m21 _ => ?_
  have S := S.stepB q21 m21 (Fr.refl _ _)
  obtain ⟨a1, a2, a3⟩ := arm0_flush d
  refine in103 S.b (LF.nil _ _) fun F2 w24 q24 m24 f24 _ => ?_
  have S := S.stepB q24 m24 f24
  rw [a1]
  generalize (d.arm 0).flush.1 = g at *
  refine Bd_f rfl <| Gd_t <| in104' S.a (by simp) fun a c w29 _ m29 o29 => Gd_t <| RunW_in0 (str_own o29 (all_lt _) c) <| opStr_in <| Bd_f (by rw [c1]; simp) <| Bd_f rfl <| Gd_t ?_
  have S := S.md0 m29
  refine in104' S.b (by simp) fun a c w45 _ m45 o45 => Gd_t <| RunW_in0 (str_own o45 (all_lt _) c) <| opStr_in <| Bd_f (by rw [a2]; simp) <| Bd_f rfl <| If_f ?_
  have S := S.md0 m45
  obtain ⟨k1, k2⟩ := crash_none (d := e) (keep := more) (torn := bytes) c2
  obtain ⟨k3, k4⟩ := crash_none (d := g) (keep := more) (torn := bytes) a3
  refine in106 S.a (LF.nil _ _) _ _ (by rw [c2]; simp) fun F1 w60 q60 m60 f60 _ => ?_
  have S := S.stepA q60 m60 f60
  refine in106 S.b (LF.nil _ _) _ _ (by rw [a3]; simp) fun F2 w63 q63 m63 f63 _ => ?_
  have S := S.stepB q63 m63 f63
  refine in104' S.a (by simp) fun a c w66 _ m66 o66 => RunW_in0 (str_own o66 (all_lt _) c) <| opStr_in <| Bd_t (by rw [k1, c1]; simp) <| Gd_t ?_
  have S := S.md0 m66
  refine in104' S.b (by simp) fun a c w76 _ m76 o76 => Gd_t <| RunW_in0 (str_own o76 (all_lt _) c) <| opStr_in <| Bd_t (by rw [k3, a2]; simp) <| Bd_t rfl <| Gd_t ?_
  have S := S.md0 m76
  refine in108 S.a (by simp) fun w92 q92 m92 => Bd_t (by rw [k2]; rfl) <| Bd_t rfl <| Bd_e (y := 512) ?_ <| Bd_t rfl <| Bd_t rfl <| Gd_t ?_
  · rw [size_bytesOf]
    show ((d.all.length : Nat) : Int) = 512
    unfold Dk.all
    rw [bytesB_len, hb8]; rfl
  · exact in107 q92.md (by simp) fun w103 m103 _ => Bd_t rfl ⟨rfl, m103⟩
end Fk
