/- A generator of conditions, part 3: operations that turn no memory: soundness. -/
import Derived.Test.YtpgjpgecgibklaaK2
set_option linter.unusedVariables false
set_option linter.unusedSimpArgs false
namespace Fk
open Go Go.RowKit

section
variable {P : Program} {w : World}
theorem run_underlying' {t : TypeId} {d : TypeDesc} (h : P.underlying t = some d) : (underlying t).run P w = .ok d w := run_underlying h w
theorem fieldOff_run {t : TypeId} {f off : Nat} (h : fieldOff P t f = some off) (A : Addr) :
    (Instr.fieldAt t (.pointer (some A)) f).run P w = .ok (.pointer (some (A.add off))) w := by
  unfold fieldOff at h
  split at h
  · rename_i fs hu
    split at h
    · rename_i fd hf
      split at h
      · rename_i i hi
        cases hb : Nat.beq i.size 0 with
        | true => simp [hb] at h
        | false =>
          simp only [hb, cond_false, Option.some.injEq] at h
          subst h
          have hne : i.size ≠ 0 := fun e => by rw [e] at hb; simp at hb
          have hs : (Go.sizeOf fd.type).run P w = .ok i.size w := run_size (by simp [szOf, hi])
          simp only [Instr.fieldAt, Sem.run_bind, run_underlying hu, Result.andThen_ok, hf, Instr.sureAddr, Sem.run_pure, fieldPlace, hs]
          simp [hne]
      · cases h
    · cases h
  · cases h
theorem add_reg (b o off : Nat) : (⟨b, o, none⟩ : Addr).add off = ⟨b, o + off, none⟩ := by
  unfold Addr.add
  split
  · rename_i h; simp [h]
  · rfl
theorem arr_run {t : TypeId} {n sz : Nat} (h : arrOf P t = some (n, sz)) (A : Addr) (k : IntKind) (i : Int) (h0 : 0 ≤ i) (h1 : i < n) :
    (Instr.indexAt t (.pointer (some A)) (.int k i)).run P w = .ok (.pointer (some (A.add (i.toNat * sz)))) w := by
  unfold arrOf at h
  split at h
  · rename_i n' e hu
    split at h
    · rename_i sz' hsz
      simp only [Option.some.injEq, Prod.mk.injEq] at h
      obtain ⟨rfl, rfl⟩ := h
      simp only [Instr.indexAt, asIntOf, Sem.run_bind, Sem.run_pure, Result.andThen_ok, run_underlying hu, Instr.sureAddr]
      simp [h0, h1, run_size hsz]
    · cases h
  · cases h
theorem slice_run {t : TypeId} {sz : Nat} (h : sliceSz P t = some sz) (a : Option Addr) (n c : Nat) (k : IntKind) (i : Int) (hi : IxOk i n a) :
    (Instr.indexAt t (.slice a n c) (.int k i)).run P w = .ok (.pointer (some (adAt a i sz))) w := by
  obtain ⟨h0, h1, h2⟩ := hi
  obtain ⟨A, rfl⟩ := Option.isSome_iff_exists.1 h2
  unfold sliceSz at h
  split at h
  · rename_i e hu
    simp only [Instr.indexAt, asIntOf, Sem.run_bind, Sem.run_pure, Result.andThen_ok, run_underlying hu]
    simp [h0, h1, run_size h, adAt]
  · cases h
theorem str_run {t : TypeId} (h : isStrT P t = true) (s : ByteArray) (k : IntKind) (i : Int) (h0 : 0 ≤ i) (h1 : i < s.size) :
    (Instr.index t (.string s) (.int k i)).run P w = .ok (.int .u8 (byteAt s i)) w := by
  unfold isStrT at h
  split at h
  · rename_i hu
    have hlt : i.toNat < s.size := by omega
    have e : s[i.toNat]? = some (s[i.toNat]'hlt) := by simp [hlt]
    have e2 : byteAt s i = ((s[i.toNat]'hlt).toNat : Int) := by
      have hd : i.toNat < s.data.size := hlt
      have : s.data[i.toNat]? = some (s.data[i.toNat]'hd) := by simp [hd]
      simp only [byteAt, this]
      rfl
    simp only [Instr.index, asIntOf, Sem.run_bind, Sem.run_pure, Result.andThen_ok, run_underlying hu]
    simp [h0, e, e2]
  · cases h
theorem quo_run (k : IntKind) (t : TypeId) (a b : Int) (h : b ≠ 0) : (binOp .quo t (.int k a) (.int k b)).run P w = .ok (.int k (k.wrap (a.tdiv b))) w := by
  simp [binOp, Op.intDiv, h]
theorem rem_run (k : IntKind) (t : TypeId) (a b : Int) (h : b ≠ 0) : (binOp .rem t (.int k a) (.int k b)).run P w = .ok (.int k (a.tmod b)) w := by
  simp [binOp, Op.intDiv, h]
theorem shl_run (k k' : IntKind) (t : TypeId) (a b : Int) (h : 0 ≤ b) : (binOp .shl t (.int k a) (.int k' b)).run P w = .ok (.int k (k.wrap (a * 2 ^ (min b.toNat k.bits)))) w := by
  simp [binOp, Op.shift, show ¬ b < 0 by omega]
theorem shr_run (k k' : IntKind) (t : TypeId) (a b : Int) (h : 0 ≤ b) : (binOp .shr t (.int k a) (.int k' b)).run P w = .ok (.int k (a.fdiv (2 ^ (min b.toNat k.bits)))) w := by
  simp [binOp, Op.shift, show ¬ b < 0 by omega]
theorem eqGuard_run (op : BinOp) (t : TypeId) (x y : Operand) (a b : Value) (h : op ≠ .eql) (h' : op ≠ .neq) : (eqGuard op t x y a b).run P w = .ok () w := by
  unfold eqGuard
  cases op <;> first | exact absurd rfl h | exact absurd rfl h' | simp
end

theorem ctx_cons {gs : List GEnt} {γ : List GKey} {g : GEnt} (hc : Ctx gs γ) (hg : findG gs g.key = some g) (h : g.cond = true) : Ctx gs (g.key :: γ) := by
  intro k hk
  cases hk with
  | head => exact ⟨g, hg, h⟩
  | tail _ hk => exact hc k hk
theorem findGS_mem : ∀ {l : List GEnt} {t : Nat} {g : GEnt}, findGS l t = some g → g ∈ l ∧ g.slot = t
  | [], _, _, h => by cases h
  | e :: l, t, g, h => by
    simp only [findGS] at h
    cases hb : Nat.beq e.slot t with
    | true =>
      simp [hb] at h
      subst h
      exact ⟨List.mem_cons_self, Nat.eq_of_beq_eq_true hb⟩
    | false =>
      simp [hb] at h
      obtain ⟨h1, h2⟩ := findGS_mem h
      exact ⟨List.mem_cons_of_mem _ h1, h2⟩
theorem findG_key : ∀ {l : List GEnt} {k : GKey} {g : GEnt}, findG l k = some g → g.key = k
  | [], _, _, h => by cases h
  | e :: l, k, g, h => by
    simp only [findG] at h
    cases hb : gkEq e.key k with
    | true => simp [hb] at h; subst h; exact gkEq_iff.1 hb
    | false => simp [hb] at h; exact findG_key h
theorem findG_of_mem : ∀ {l : List GEnt} {g : GEnt}, nodupG l = true → g ∈ l → findG l g.key = some g
  | [], _, _, h => by cases h
  | e :: l, g, hn, h => by
    simp only [nodupG] at hn
    simp only [findG]
    cases h with
    | head => simp [gkEq_iff.2 rfl]
    | tail _ h =>
      cases hf : findG l e.key with
      | some _ => simp [hf] at hn
      | none =>
        simp only [hf] at hn
        have ih := findG_of_mem hn h
        cases hb : gkEq e.key g.key with
        | true => rw [gkEq_iff.1 hb, ih] at hf; cases hf
        | false => simpa using ih
theorem any_mem {γ : List GKey} {k : GKey} (h : γ.any (gkEq k) = true) : k ∈ γ := by
  simp only [List.any_eq_true] at h
  obtain ⟨k', hk', h⟩ := h
  rw [gkEq_iff.1 h]; exact hk'

section
variable {P : Program} {fz : Nat → Bool} {n : Nat} {s : St} {w cw : World} {a : Act} {γ : List GKey} {g : Option Bool} {o : Oper} {K : SV → Prop}
theorem pickW_sound (h : Rel n s w a cw) {c x y : Operand} (ho : o.op = .pick c x y) (hop : pickW s γ c x y K) : ∃ sv, K sv ∧ Gives P fz s γ g o a sv := by
  have key : ∀ (t : Bool) (u v : Value) , a.eval c = .bool t → (t = true → a.eval x = u) → (t = false → a.eval y = v) → ∀ cw' : World, (execOp a.eval o).run P cw' = .ok (.value (bif t then u else v)) cw' := by
    intro t u v h1 h2 h3 cw'
    simp only [execOp, ho, h1, asBool]
    cases t
    · simp [h3 rfl]
    · simp [h2 rfl]
  unfold pickW at hop
  split at hop
  · rename_i t
    split at hop
    · rename_i G hG
      obtain ⟨hmem, hslot⟩ := findGS_mem hG
      have hfind := findG_of_mem h.wfg hmem
      cases hanc : G.anc.all (fun k => γ.any (gkEq k)) with
      | false => simp [hanc] at hop
      | true =>
        simp only [hanc, cond_true] at hop
        split at hop
        · rename_i p q hx hy
          refine ⟨_, hop, fun hc _ => ⟨_, rfl, fun cw' _ => ?_⟩⟩
          have hbase : G.base = true := h.gbase _ _ hfind fun k' hk' => hc k' (any_mem (List.all_eq_true.1 hanc k' hk'))
          have hsl := (h.gslot _ _ hfind).1 hbase
          rw [hslot] at hsl
          have hev : a.eval (.tmp t) = .bool G.b := by
            obtain ⟨hlt, hx⟩ := Array.getElem?_eq_some_iff.1 hsl
            simp [Act.eval, Array.getD, hlt, hx]
          have sideT : ∀ (z : Operand) (v : Value), G.b = true → evV s (bif G.key.2 then G.key :: γ else γ) z = some v → a.eval z = v := by
            intro z v hb hz
            cases h2 : G.key.2 with
            | true =>
              simp only [h2, cond_true] at hz
              exact h.evV (ctx_cons hc (g := G) hfind (by unfold GEnt.cond; rw [hbase, h2, hb]; rfl)) hz
            | false => simp only [h2, cond_false] at hz; exact h.evV hc hz
          have sideF : ∀ (z : Operand) (v : Value), G.b = false → evV s (bif G.key.2 then γ else G.key :: γ) z = some v → a.eval z = v := by
            intro z v hb hz
            cases h2 : G.key.2 with
            | false =>
              simp only [h2, cond_false] at hz
              exact h.evV (ctx_cons hc (g := G) hfind (by unfold GEnt.cond; rw [hbase, h2, hb]; rfl)) hz
            | true => simp only [h2, cond_true] at hz; exact h.evV hc hz
          have := key G.b (.bool p) (.bool q) hev (fun hb => sideT x _ hb hx) (fun hb => sideF y _ hb hy) cw'
          rw [this]
          cases G.b <;> rfl
        · exact hop.elim
    · split at hop
      · rename_i t' p q h1 h2 h3
        refine ⟨_, hop, fun hc _ => ⟨_, rfl, fun cw' _ => ?_⟩⟩
        have := key t' _ _ (h.evV hc h1) (fun _ => h.evV hc h2) (fun _ => h.evV hc h3) cw'
        rw [this]
        cases t' <;> rfl
      · exact hop.elim
  · exact hop.elim

theorem opCore_sound (h : Rel n s w a cw) {N : Prop} (hop : opCore P fz s γ g o K N) : N ∨ ∃ sv, K sv ∧ Gives P fz s γ g o a sv := by
  have val : ∀ (sm : Sem Value) (v : Value), (∀ cw', execOp a.eval o = (do pure (.value (← sm)) : Sem Next) → sm.run P cw' = .ok v cw' → (execOp a.eval o).run P cw' = .ok (.value v) cw') := by
    intro sm v cw' he hr
    rw [he]
    simp [hr]
  unfold opCore at hop
  split at hop
  case h_1 x ho =>
    split at hop
    · rename_i sv hx
      exact .inr ⟨sv, hop, fun hc _ => ⟨a.eval x, h.evS hc hx, fun cw' _ => by simp [execOp, ho]⟩⟩
    · exact hop.elim
  case h_2 x ho =>
    split at hop
    · rename_i sv hx
      exact .inr ⟨sv, hop, fun hc _ => ⟨a.eval x, h.evS hc hx, fun cw' _ => by simp [execOp, ho]⟩⟩
    · exact hop.elim
  case h_3 c x y ho => exact .inr (pickW_sound h ho hop)
  case h_4 t x f ho =>
    split at hop
    · rename_i off k o' hf hx
      refine .inr ⟨_, hop, fun hc _ => ?_⟩
      obtain ⟨r, hr, he⟩ := h.evS hc hx
      refine ⟨_, ⟨r, hr, rfl⟩, fun cw' _ => ?_⟩
      refine val (Instr.fieldAt t (a.eval x) f) _ cw' (by simp [execOp, ho]) ?_
      rw [he, fieldOff_run hf, add_reg]
    · rename_i off A hf hx
      refine .inr ⟨_, hop, fun hc _ => ⟨_, rfl, fun cw' _ => ?_⟩⟩
      have he : a.eval x = _ := h.evS hc hx
      refine val (Instr.fieldAt t (a.eval x) f) _ cw' (by simp [execOp, ho]) ?_
      rw [he, fieldOff_run hf]
    · exact hop.elim
  case h_5 t x i ho =>
    split at hop
    case h_2 => exact hop.elim
    rename_i ik iv hi
    split at hop
    · rename_i so k o' n' sz hx ha
      split at hop
      · rename_i hcn
        cases hlt : decide (iv < (n' : Int)) with
        | false => simp [hlt] at hop
        | true =>
          simp only [hlt, cond_true] at hop
          refine .inr ⟨_, hop, fun hc _ => ?_⟩
          obtain ⟨r, hr, he⟩ := h.evS hc hx
          have h0 : 0 ≤ iv := by
            cases i with
            | const v =>
              simp only [evV, evS] at hi
              cases v <;> simp at hi <;> first | (obtain ⟨rfl, rfl⟩ := hi; simpa [constNN] using hcn) | skip
            | _ => simp [constNN] at hcn
          refine ⟨_, ⟨r, hr, rfl⟩, fun cw' _ => ?_⟩
          refine val (Instr.indexAt t (a.eval x) (a.eval i)) _ cw' (by simp [execOp, ho]) ?_
          rw [he, h.evV hc hi, arr_run ha _ _ _ h0 (of_decide_eq_true hlt), add_reg]
      · obtain ⟨h1, h2⟩ := Cn_out hop
        refine .inr ⟨_, h1, fun hc hg => ?_⟩
        obtain ⟨r, hr, he⟩ := h.evS hc hx
        refine ⟨_, ⟨r, hr, rfl⟩, fun cw' _ => ?_⟩
        refine val (Instr.indexAt t (a.eval x) (a.eval i)) _ cw' (by simp [execOp, ho]) ?_
        rw [he, h.evV hc hi, arr_run ha _ _ _ (h2 hg).1 (h2 hg).2, add_reg]
    · rename_i A n' sz _ hx ha
      obtain ⟨h1, h2⟩ := Cn_out hop
      refine .inr ⟨_, h1, fun hc hg => ⟨_, rfl, fun cw' _ => ?_⟩⟩
      have he : a.eval x = _ := h.evS hc hx
      refine val (Instr.indexAt t (a.eval x) (a.eval i)) _ cw' (by simp [execOp, ho]) ?_
      rw [he, h.evV hc hi, arr_run ha _ _ _ (h2 hg).1 (h2 hg).2]
    · rename_i a' n' _ sz hx _ hs
      obtain ⟨h1, h2⟩ := Cn_out hop
      refine .inr ⟨_, h1, fun hc hg => ⟨_, rfl, fun cw' _ => ?_⟩⟩
      have he : a.eval x = _ := h.evS hc hx
      refine val (Instr.indexAt t (a.eval x) (a.eval i)) _ cw' (by simp [execOp, ho]) ?_
      rw [he, h.evV hc hi, slice_run hs _ _ _ _ _ (h2 hg)]
    · exact hop.elim
  case h_6 x ho =>
    split at hop
    · rename_i k o' hx
      refine .inr ⟨_, hop, fun hc _ => ?_⟩
      obtain ⟨r, hr, he⟩ := h.evS hc hx
      exact ⟨_, ⟨r, hr, rfl⟩, fun cw' _ => by simp [execOp, ho, he]⟩
    · rename_i a' hx
      split at hop
      · unfold NN at hop
        split at hop
        · rename_i A
          refine .inr ⟨_, hop, fun hc _ => ⟨_, rfl, fun cw' _ => ?_⟩⟩
          have he : a.eval x = _ := h.evS hc hx
          simp [execOp, ho, he]
        · exact hop.elim
      · rename_i c
        refine .inr ⟨_, hop.2, fun hc hg => ⟨_, rfl, fun cw' _ => ?_⟩⟩
        have he : a.eval x = _ := h.evS hc hx
        have hcc : c = true := by cases c; exact absurd rfl hg; rfl
        obtain ⟨A, rfl⟩ := Option.isSome_iff_exists.1 (hop.1 hcc)
        simp [execOp, ho, he]
    · rename_i f x' y' hx
      refine .inr ⟨_, hop, fun hc _ => ⟨_, rfl, fun cw' _ => ?_⟩⟩
      have he : a.eval x = _ := h.evS hc hx
      simp [execOp, ho, he]
    · exact hop.elim
  case h_7 t x ho =>
    split at hop
    · rename_i k o' hx
      cases hf : fz k with
      | false => simp only [hf, cond_false] at hop; exact .inl hop
      | true =>
        simp only [hf, cond_true] at hop
        split at hop
        · rename_i r hr
          obtain ⟨v, hv, hrun⟩ := regLd_sound hop
          refine .inr ⟨_, hv, fun hc hg => ⟨_, rfl, fun cw' hreg => ?_⟩⟩
          obtain ⟨r', hr', he⟩ := h.evS hc hx
          rw [hr] at hr'
          cases hr'
          refine val (Instr.loadAt t (a.eval x)) _ cw' (by simp [execOp, ho]) ?_
          rw [he]
          simpa [Instr.loadAt, Instr.sureAddr] using hrun hg cw' (hreg k r hf hr)
        · exact hop.elim
    · exact .inl hop
  case h_8 t x i ho =>
    split at hop
    · rename_i sx ik iv hx hi hst
      obtain ⟨h1, h2⟩ := Cn_out hop
      refine .inr ⟨_, h1, fun hc hg => ⟨_, rfl, fun cw' _ => ?_⟩⟩
      refine val (Instr.index t (a.eval x) (a.eval i)) _ cw' (by simp [execOp, ho]) ?_
      rw [h.evV hc hx, h.evV hc hi, str_run hst _ _ _ (h2 hg).1 (h2 hg).2]
    · exact .inl hop
  case h_9 t ps ho =>
    cases hs : smallT P t with
    | false => simp only [hs, cond_false] at hop; exact .inl hop
    | true =>
      simp only [hs, cond_true] at hop
      cases hk : kn s γ o.op.operands.toList with
      | false => simp [hk] at hop
      | true =>
        simp only [hk, cond_true] at hop
        split at hop
        · rename_i cs hb
          refine .inr ⟨_, hop, fun hc _ => ⟨_, rfl, fun cw' _ => ?_⟩⟩
          rw [operands_eq h hc (by simp [ho]) hk]
          have e : (ps.map fun (i, x) => (i, rho s γ x)).toList = pm (rho s γ) ps := by simp [pm]
          simp [execOp, ho, run_build cw' t _ cs (by rw [e]; exact hb)]
        · exact hop.elim
  case h_10 t x f ho =>
    unfold fieldW at hop
    cases hsm : smallT P t with
    | true =>
      simp only [hsm, cond_true] at hop
      exact .inr (cmT_sound h (by simp [ho]) hop)
    | false =>
      simp only [hsm, cond_false] at hop
      split at hop
      · rename_i cs ft off hx hf
        split at hop
        · rename_i k hk
          obtain ⟨h1, h2⟩ := Cn_out hop
          refine .inr ⟨_, h1, fun hc hg => ⟨_, rfl, fun cw' _ => ?_⟩⟩
          obtain ⟨z, hz⟩ := h2 hg
          have hz' : cs[off]? = some (.int k z) := by simpa using hz
          refine val (Instr.field t (a.eval x) f) _ cw' (by simp [execOp, ho]) ?_
          rw [h.evV hc hx]
          unfold fieldTy at hf
          split at hf
          · rename_i fs hu
            split at hf
            · rename_i fd hfd
              simp only [Option.some.injEq, Prod.mk.injEq] at hf
              obtain ⟨rfl, rfl⟩ := hf
              unfold scI at hk
              split at hk
              · rename_i k' hku
                simp only [Option.some.injEq] at hk
                subst hk
                have ha : isAggT P fd.type = false := by simp [isAggT, hku]
                simp [Instr.field, run_underlying hu, hfd, asAgg, part, run_isAgg hku, ha, hz', rdI]
              · cases hk
            · cases hf
          · cases hf
        · exact hop.elim
      · exact hop.elim
  case h_11 t x y t' ho =>
    split at hop
    · exact .inr (cmT_sound h (by simp [ho]) hop)
    · rename_i k hk hz
      split at hop
      · rename_i k1 a1 k2 b1 hx hy
        cases hd : decide (k1 = k2) with
        | false => simp [hd] at hop
        | true =>
          simp only [hd, cond_true] at hop
          obtain rfl := kEq_of hd
          obtain ⟨h1, h2⟩ := Cn_out hop
          refine .inr ⟨_, h1, fun hc hg => ⟨_, rfl, fun cw' _ => ?_⟩⟩
          simp [execOp, ho, h.evV hc hx, h.evV hc hy, eqGuard_run, quo_run _ _ _ _ (h2 hg)]
      · exact hop.elim
    · exact .inl hop
  case h_12 t x y t' ho =>
    split at hop
    · exact .inr (cmT_sound h (by simp [ho]) hop)
    · rename_i k hk hz
      split at hop
      · rename_i k1 a1 k2 b1 hx hy
        cases hd : decide (k1 = k2) with
        | false => simp [hd] at hop
        | true =>
          simp only [hd, cond_true] at hop
          obtain rfl := kEq_of hd
          obtain ⟨h1, h2⟩ := Cn_out hop
          refine .inr ⟨_, h1, fun hc hg => ⟨_, rfl, fun cw' _ => ?_⟩⟩
          simp [execOp, ho, h.evV hc hx, h.evV hc hy, eqGuard_run, rem_run _ _ _ _ (h2 hg)]
      · exact hop.elim
    · exact .inl hop
  case h_13 t x y t' ho =>
    split at hop
    · exact .inr (cmT_sound h (by simp [ho]) hop)
    · split at hop
      · rename_i k1 a1 k2 b1 hx hy
        obtain ⟨h1, h2⟩ := Cn_out hop
        refine .inr ⟨_, h1, fun hc hg => ⟨_, rfl, fun cw' _ => ?_⟩⟩
        simp [execOp, ho, h.evV hc hx, h.evV hc hy, eqGuard_run, shl_run _ _ _ _ _ (h2 hg)]
      · exact hop.elim
  case h_14 t x y t' ho =>
    split at hop
    · exact .inr (cmT_sound h (by simp [ho]) hop)
    · split at hop
      · rename_i k1 a1 k2 b1 hx hy
        obtain ⟨h1, h2⟩ := Cn_out hop
        refine .inr ⟨_, h1, fun hc hg => ⟨_, rfl, fun cw' _ => ?_⟩⟩
        simp [execOp, ho, h.evV hc hx, h.evV hc hy, eqGuard_run, shr_run _ _ _ _ _ (h2 hg)]
      · exact hop.elim
  case h_15 =>
    cases hT : isT P o with
    | false => simp only [hT, cond_false] at hop; exact .inl hop
    | true =>
      simp only [hT, cond_true] at hop
      exact .inr (cmT_sound h (fun cs b e => by simp [isT, e] at hT) hop)
end
end Fk
