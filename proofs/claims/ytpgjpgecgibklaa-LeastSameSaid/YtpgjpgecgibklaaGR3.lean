/- Contracts of functions, and plain laws: several texts, joined. -/
import Derived.Test.YtpgjpgecgibklaaGR2
import Derived.Test.YtpgjpgecgibklaaGV0
import Derived.Test.YtpgjpgecgibklaaGR1
set_option linter.unusedVariables false
set_option linter.unusedSimpArgs false
set_option linter.unusedSectionVars false
set_option maxRecDepth 100000
set_option maxHeartbeats 1000000
namespace Fk
open Go Go.Proofs Go.RowKit
structure BH (M : Mch) (R : Lab → Rw Int) (H : Hab → Rw HS3) (b : Rw HS3) (kk : Nat) : Prop where
  bl : b.2.2.length = M.m
  hb : ∀ k, k < M.m → b.2.2[k]? = some (hdr (H (.bk k)))
  kl : ∀ k, k < kk → (H (.bk k)).2.2.length = M.n + 1
  hk : ∀ k, k < kk → ∀ s, s ≤ M.n → (H (.bk k)).2.2[s]? = some (hdr (R (.bk k s)))
  hn : ∀ s, s < (H .nx).2.2.length → (H .nx).2.2[s]? = some (hdr (R (.nx s)))
  hg : ∀ a, a < (H .gr).2.2.length → (H .gr).2.2[a]? = some (hdr (R (.gr a)))
section
variable {M : Mch} {R : Lab → Rw Int} {H : Hab → Rw HS3} {b : Rw HS3} {kk : Nat}
theorem BH.row (h : BH M R H b kk) {l : Lab} (hl : l = .at' ∨ ∃ s, l = .nx s ∧ (H .nx).2.2.length ≤ s) (x : Rw Int) : BH M (upd R l x) H b kk := by
  refine ⟨h.bl, h.hb, h.kl, fun k hk s hs => ?_, fun s hs => ?_, fun a ha => ?_⟩
  · rw [upd_ne _ _ (by rcases hl with rfl | ⟨_, rfl, _⟩ <;> simp)]; exact h.hk k hk s hs
  · rw [upd_ne _ _ (by
      rcases hl with rfl | ⟨s', rfl, hs'⟩
      · simp
      · intro e; injection e with e; omega)]; exact h.hn s hs
  · rw [upd_ne _ _ (by rcases hl with rfl | ⟨_, rfl, _⟩ <;> simp)]; exact h.hg a ha
theorem BH.bk (h : BH M R H b kk) {k s : Nat} (hk : k < kk) (hs : s ≤ M.n) (x : Rw Int) : BH M (upd R (.bk k s) x) (upd H (.bk k) ((H (.bk k)).1, (H (.bk k)).2.1, (H (.bk k)).2.2.set s (hdr x))) b kk := by
  refine ⟨h.bl, fun k' hk' => ?_, fun k' hk' => ?_, fun k' hk' s' hs' => ?_, fun s' hs' => ?_, fun a ha => ?_⟩
  · by_cases e : k' = k
    · subst e
      rw [upd_same, h.hb k' hk']
      simp [hdr]
    · rw [upd_ne _ _ (by intro e2; injection e2 with e2; exact e e2)]; exact h.hb k' hk'
  · by_cases e : k' = k
    · subst e
      rw [upd_same]
      simp only [List.length_set]
      exact h.kl k' hk'
    · rw [upd_ne _ _ (by intro e2; injection e2 with e2; exact e e2)]; exact h.kl k' hk'
  · by_cases e : k' = k
    · subst e
      rw [upd_same]
      simp only [List.getElem?_set]
      have hl := h.kl k' hk'
      by_cases e2 : s = s'
      · subst e2
        rw [upd_same, if_pos rfl, if_pos (by omega)]
      · rw [if_neg e2, upd_ne _ _ (by intro e3; injection e3 with _ e3; exact e2 e3.symm)]
        exact h.hk k' hk' s' hs'
    · rw [upd_ne _ _ (by intro e2; injection e2 with e2; exact e e2), upd_ne _ _ (by intro e2; injection e2 with e2; exact e e2)]
      exact h.hk k' hk' s' hs'
  · rw [upd_ne _ _ (by simp)] at hs' ⊢
    rw [upd_ne _ _ (by simp)]
    exact h.hn s' hs'
  · rw [upd_ne _ _ (by simp)] at ha ⊢
    rw [upd_ne _ _ (by simp)]
    exact h.hg a ha
theorem BH.pushN (h : BH M R H b kk) (a : Option Addr) (c : Nat) : BH M R (upd H .nx (a, c, (H .nx).2.2 ++ [hdr (R (.nx (H .nx).2.2.length))])) b kk := by
  refine ⟨h.bl, fun k hk => ?_, fun k hk => ?_, fun k hk s hs => ?_, fun s hs => ?_, fun a ha => ?_⟩
  · rw [upd_ne _ _ (by simp)]; exact h.hb k hk
  · rw [upd_ne _ _ (by simp)]; exact h.kl k hk
  · rw [upd_ne _ _ (by simp)]; exact h.hk k hk s hs
  · rw [upd_same] at hs ⊢
    simp only [List.length_append, List.length_singleton] at hs
    by_cases e : s = (H .nx).2.2.length
    · subst e
      rw [List.getElem?_append_right (Nat.le_refl _)]; simp
    · rw [List.getElem?_append_left (by omega)]; exact h.hn s (by omega)
  · rw [upd_ne _ _ (by simp)] at ha ⊢
    exact h.hg _ ha
theorem BH.pushG (h : BH M R H b kk) (a : Option Addr) (c : Nat) : BH M R (upd H .gr (a, c, (H .gr).2.2 ++ [hdr (R (.gr (H .gr).2.2.length))])) b kk := by
  refine ⟨h.bl, fun k hk => ?_, fun k hk => ?_, fun k hk s hs => ?_, fun s hs => ?_, fun a ha => ?_⟩
  · rw [upd_ne _ _ (by simp)]; exact h.hb k hk
  · rw [upd_ne _ _ (by simp)]; exact h.kl k hk
  · rw [upd_ne _ _ (by simp)]; exact h.hk k hk s hs
  · rw [upd_ne _ _ (by simp)] at hs ⊢
    exact h.hn _ hs
  · rw [upd_same] at ha ⊢
    simp only [List.length_append, List.length_singleton] at ha
    by_cases e : a = (H .gr).2.2.length
    · subst e
      rw [List.getElem?_append_right (Nat.le_refl _)]; simp
    · rw [List.getElem?_append_left (by omega)]; exact h.hg a (by omega)
theorem BH.gr (h : BH M R H b kk) {a : Nat} (x : Rw Int) : BH M (upd R (.gr a) x) (upd H .gr ((H .gr).1, (H .gr).2.1, (H .gr).2.2.set a (hdr x))) b kk := by
  refine ⟨h.bl, fun k hk => ?_, fun k hk => ?_, fun k hk s hs => ?_, fun s hs => ?_, fun a' ha => ?_⟩
  · rw [upd_ne _ _ (by simp)]; exact h.hb k hk
  · rw [upd_ne _ _ (by simp)]; exact h.kl k hk
  · rw [upd_ne _ _ (by simp), upd_ne _ _ (by simp)]; exact h.hk k hk s hs
  · rw [upd_ne _ _ (by simp)] at hs ⊢
    rw [upd_ne _ _ (by simp)]
    exact h.hn _ hs
  · rw [upd_same] at ha ⊢
    simp only [List.length_set] at ha
    simp only [List.getElem?_set]
    by_cases e : a = a'
    · subst e
      rw [if_pos rfl, if_pos ha, upd_same]
    · rw [if_neg e, upd_ne _ _ (by intro e2; injection e2 with e2; exact e e2.symm)]
      exact h.hg a' ha
theorem BH.newK (h : BH M R H b kk) (hk : kk < M.m) (a : Option Addr) (c : Nat) (hR : ∀ s, R (.bk kk s) = (none, 0, [])) : BH M R (upd H (.bk kk) (a, c, List.replicate (M.n + 1) (none, 0, 0))) (b.1, b.2.1, b.2.2.set kk (a, M.n + 1, c)) (kk + 1) := by
  refine ⟨by simp [h.bl], fun k hk' => ?_, fun k hk' => ?_, fun k hk' s hs => ?_, fun s hs => ?_, fun a ha => ?_⟩
  · simp only [List.getElem?_set]
    by_cases e : kk = k
    · subst e
      rw [if_pos rfl, if_pos (by rw [h.bl]; exact hk), upd_same]
      simp [hdr]
    · rw [if_neg e, upd_ne _ _ (by intro e2; injection e2 with e2; exact e e2.symm)]
      exact h.hb k hk'
  · by_cases e : kk = k
    · subst e; rw [upd_same]; simp
    · rw [upd_ne _ _ (by intro e2; injection e2 with e2; exact e e2.symm)]
      exact h.kl k (by omega)
  · by_cases e : kk = k
    · subst e
      rw [upd_same, hR s]
      simp only [List.getElem?_replicate]
      rw [if_pos (by omega)]
      rfl
    · rw [upd_ne _ _ (by intro e2; injection e2 with e2; exact e e2.symm)]
      exact h.hk k (by omega) s hs
  · rw [upd_ne _ _ (by simp)] at hs ⊢
    exact h.hn _ hs
  · rw [upd_ne _ _ (by simp)] at ha ⊢
    exact h.hg _ ha
end
structure BC (M : Mch) (R : Lab → Rw Int) (H : Hab → Rw HS3) (s : Nat) (cnt : Nat → Nat) (sn sg : Nat) : Prop where
  al : (R .at').2.2.length = M.n + 1
  av : ∀ x, x < s → (R .at').2.2[x]? = some (clsM M x : Int)
  nx : ∀ s', s' < sn → (R (.nx s')).2.2 = rowI M s'
  gr : ∀ a, (R (.gr a)).2.2 = selN (clsM M) s a
  gn : ∀ a, (tagsT M sg).length ≤ a → R (.gr a) = (none, 0, [])
  bk : ∀ k, k < M.m → ∀ s', (R (.bk k s')).2.2 = selN (fun x => M.go x k) (cnt k) s'
  nl : (H .nx).2.2.length = sn
  gl : (H .gr).2.2.length = (tagsT M sg).length
section
variable {M : Mch} {R : Lab → Rw Int} {H : Hab → Rw HS3} {s sn sg : Nat} {cnt : Nat → Nat}
theorem BC.nxRow (h : BC M R H s cnt sn sg) (x : Rw Int) : BC M (upd R (.nx sn) x) H s cnt sn sg := by
  refine ⟨?_, ?_, fun s' hs => ?_, fun a => ?_, fun a ha => ?_, fun k hk s' => ?_, h.nl, h.gl⟩
  · rw [upd_ne _ _ (by simp)]; exact h.al
  · rw [upd_ne _ _ (by simp)]; exact h.av
  · rw [upd_ne _ _ (by intro e; injection e with e; omega)]; exact h.nx s' hs
  · rw [upd_ne _ _ (by simp)]; exact h.gr a
  · rw [upd_ne _ _ (by simp)]; exact h.gn a ha
  · rw [upd_ne _ _ (by simp)]; exact h.bk k hk s'
theorem BC.bkApp {k : Nat} (h : BC M R H s (fun j => if j < k then s + 1 else s) sn sg) {a : Option Addr} {c : Nat} {x : Rw HS3} : BC M (upd R (.bk k (M.go s k)) (a, c, (R (.bk k (M.go s k))).2.2 ++ [(s : Int)])) (upd H (.bk k) x) s (fun j => if j < k + 1 then s + 1 else s) sn sg := by
  refine ⟨?_, ?_, fun s' hs => ?_, fun a => ?_, fun a ha => ?_, fun k' hk s' => ?_, ?_, ?_⟩
  · rw [upd_ne _ _ (by simp)]; exact h.al
  · rw [upd_ne _ _ (by simp)]; exact h.av
  · rw [upd_ne _ _ (by simp)]; exact h.nx s' hs
  · rw [upd_ne _ _ (by simp)]; exact h.gr a
  · rw [upd_ne _ _ (by simp)]; exact h.gn a ha
  · by_cases e : k' = k
    · subst e
      have hb := h.bk k' hk
      simp only [Nat.lt_irrefl, if_false] at hb
      rw [if_pos (Nat.lt_succ_self k'), selN_succ]
      by_cases e2 : s' = M.go s k'
      · subst e2
        rw [upd_same, if_pos rfl]
        show (R (.bk k' (M.go s k'))).2.2 ++ [(s : Int)] = _
        rw [hb]
      · rw [upd_ne _ _ (by intro e3; injection e3 with _ e3; exact e2 e3), if_neg (fun z => e2 z.symm)]
        exact hb s'
    · rw [upd_ne _ _ (by intro e3; injection e3 with e3; exact e e3), h.bk k' hk s']
      by_cases d : k' < k
      · rw [if_pos d, if_pos (by omega)]
      · rw [if_neg d, if_neg (by omega)]
  · rw [upd_ne _ _ (by simp)]; exact h.nl
  · rw [upd_ne _ _ (by simp)]; exact h.gl
theorem BC.pushN (h : BC M R H s cnt sn sg) (hr : (R (.nx sn)).2.2 = rowI M sn) (a : Option Addr) (c : Nat) (x : HS3) : BC M R (upd H .nx (a, c, (H .nx).2.2 ++ [x])) s cnt (sn + 1) sg :=
  ⟨h.al, h.av, fun s' hs => by
    by_cases e : s' = sn
    · rw [e]; exact hr
    · exact h.nx s' (by omega), h.gr, h.gn, h.bk, by rw [upd_same]; simp [h.nl], by rw [upd_ne _ _ (by simp)]; exact h.gl⟩
theorem BC.pushG (h : BC M R H s cnt sn s) (hn : M.tag s ∉ tagsT M s) (a : Option Addr) (c : Nat) (x : HS3) : BC M R (upd H .gr (a, c, (H .gr).2.2 ++ [x])) s cnt sn (s + 1) := by
  have hl : (tagsT M (s + 1)).length = (tagsT M s).length + 1 := by simp [tagsT, hn]
  exact ⟨h.al, h.av, h.nx, h.gr, fun a ha => h.gn a (by omega), h.bk, by rw [upd_ne _ _ (by simp)]; exact h.nl, by rw [upd_same, hl]; simp [h.gl]⟩
theorem BC.sameG (h : BC M R H s cnt sn s) (hn : M.tag s ∈ tagsT M s) : BC M R H s cnt sn (s + 1) := by
  have hl : tagsT M (s + 1) = tagsT M s := by simp [tagsT, hn]
  exact ⟨h.al, h.av, h.nx, h.gr, fun a ha => h.gn a (by rw [← hl]; exact ha), h.bk, h.nl, by rw [hl]; exact h.gl⟩
theorem BC.grApp (h : BC M R H s cnt sn (s + 1)) (hs : s ≤ M.n) {a a2 : Option Addr} {c c2 : Nat} {x : List HS3} (hx : x.length = (H .gr).2.2.length) :
    BC M (upd (upd R (.gr (clsM M s)) (a, c, (R (.gr (clsM M s))).2.2 ++ [(s : Int)])) .at' (a2, c2, (R .at').2.2.set s (clsM M s : Int))) (upd H .gr ((H .gr).1, (H .gr).2.1, x)) (s + 1) cnt sn (s + 1) := by
  refine ⟨?_, fun y hy => ?_, fun s' hs => ?_, fun a' => ?_, fun a' ha => ?_, fun k hk s' => ?_, ?_, ?_⟩
  · rw [upd_same]; simp [h.al]
  · rw [upd_same]
    simp only [List.getElem?_set]
    by_cases e : s = y
    · subst e
      rw [if_pos rfl, if_pos (by rw [h.al]; omega)]
    · rw [if_neg e]; exact h.av y (by omega)
  · rw [upd_ne _ _ (by simp), upd_ne _ _ (by simp)]; exact h.nx s' hs
  · rw [upd_ne _ _ (by simp), selN_succ]
    by_cases e : a' = clsM M s
    · subst e
      rw [upd_same, if_pos rfl]
      show (R (.gr (clsM M s))).2.2 ++ [(s : Int)] = _
      rw [h.gr]
    · rw [upd_ne _ _ (by intro e2; injection e2 with e2; exact e e2), if_neg (fun z => e z.symm)]; exact h.gr a'
  · have : clsM M s < (tagsT M (s + 1)).length := clsM_lt (by omega)
    rw [upd_ne _ _ (by simp), upd_ne _ _ (by intro e2; injection e2 with e2; omega)]; exact h.gn a' ha
  · rw [upd_ne _ _ (by simp), upd_ne _ _ (by simp)]; exact h.bk k hk s'
  · rw [upd_ne _ _ (by simp)]; exact h.nl
  · rw [upd_same]
    show x.length = _
    rw [hx]; exact h.gl
end
end Fk
set_option linter.unusedVariables false
set_option linter.unusedSimpArgs false
set_option linter.unusedSectionVars false
set_option maxRecDepth 100000
set_option maxHeartbeats 1000000
namespace Fk
open Go Go.Proofs Go.RowKit
def P221M (a6 : Option Addr) (n1 : Nat) (R : Value → World → Prop) (w47 : World) : Prop :=
  NN a6 fun A230 => Ld w47 (Addr.add A230 (3 : Nat)) fun v231 => opL v231 fun a232 n233 n234 => Bd ↑n233 fun x235 => LoopP (fun l236 l237 J238 w239 => opI IntKind.i64 (nthD l236 (0 : Nat)) fun x240 => Bd (decide (x240 < x235)) fun b241 => If b241 (CallW Try.prog [n1] (230 : Nat) #[Value.pointer a6, Value.int IntKind.i64 x240] (fun v242 w243 => opTu v242 fun cs244 => SzIs (Array.size cs244) (0 : Nat) (Bd (IntKind.wrap IntKind.i64 (x240 + (1 : Int))) fun x245 => J238 [Value.int IntKind.i64 x245] [] w243)) w239) (R (Value.pointer a6) w239)) [Value.int IntKind.i64 (0 : Int)] [] w47
def P221R (a6 : Option Addr) (n1 : Nat) (n41 : Nat) (J46 : List Value → List Value → World → Prop) (x48 : Int) (a53 : Option Addr) (n54 : Nat) (n55 : Nat) (x59 : Int) (w64 : World) : Prop :=
  NN a6 fun A142 => Ld w64 (Addr.add A142 (1 : Nat)) fun v143 => opL v143 fun a144 n145 n146 => Nw (Obj.cells #[Value.slice a53 n54 n55] (52 : Nat)) w64 fun n147 w148 => RunW Try.prog [n1] (Builtin.append_ #[(242 : Nat), (242 : Nat)] (242 : Nat) #[Value.slice a144 n145 n146, Value.slice (some { block := n147, off := (0 : Nat) }) (1 : Nat) (1 : Nat)]) (fun v149 w150 => opL v149 fun a151 n152 n153 => NN a6 fun A154 => ¬Addr.block A154 ∈ [n1] ∧ Wr w150 (Addr.add A154 (1 : Nat)) (1 : Nat) ∧ RunW Try.prog [n1] (Instr.lookup (248 : Nat) (Value.map (some n41)) (Value.int IntKind.i64 x59) true) (fun v155 w156 => opTu v155 fun cs157 => opI IntKind.i64 (nthD (Array.toList cs157) (0 : Nat)) fun x158 => opB (nthD (Array.toList cs157) (1 : Nat)) fun b159 => SzIs (Array.size cs157) (2 : Nat) (Jn (fun l160 l161 w162 => opI IntKind.i64 (nthD l160 (0 : Nat)) fun x163 => Dr (World.drew w162) fun J164 => NN a6 fun A165 => NN a6 fun A166 => NN a6 fun A167 => ∃ v168, (∀ (w169 : World), J164 w169 → Ld w169 (Addr.add A165 (3 : Nat)) fun v171 => v171 = v168) ∧ opL v168 fun a172 n173 n174 => ∃ v175, (∀ (w176 : World), J164 w176 → Ld w176 (Addr.add A166 (4 : Nat)) fun v178 => v178 = v175) ∧ opL v175 fun a179 n180 n181 => ∃ v182, (∀ (w183 : World), J164 w183 → Ld w183 (Addr.add A167 (3 : Nat)) fun v185 => v185 = v182) ∧ opL v182 fun a186 n187 n188 => IxOk x163 n187 a186 ∧ ∃ v189, (∀ (w190 : World), J164 w190 → Ld w190 (adAt a186 x163 (1 : Nat)) fun v192 => v192 = v189) ∧ opL v189 fun a193 n194 n195 => Nw (Obj.cells #[Value.int IntKind.i64 x48] (3 : Nat)) (World.drew w162) fun n196 w197 => J164 w197 ∧ RunW Try.prog [n1] (Builtin.append_ #[(52 : Nat), (52 : Nat)] (52 : Nat) #[Value.slice a193 n194 n195, Value.slice (some { block := n196, off := (0 : Nat) }) (1 : Nat) (1 : Nat)]) (fun v198 w199 => opL v198 fun a200 n201 n202 => J164 w199 ∧ IxOk x163 n173 a172 ∧ ¬Addr.block (adAt a172 x163 (1 : Nat)) ∈ [n1] ∧ Wr w199 (adAt a172 x163 (1 : Nat)) (1 : Nat) ∧ IxOk x48 n180 a179 ∧ ¬Addr.block (adAt a179 x48 (1 : Nat)) ∈ [n1] ∧ Wr (setCells w199 (adAt a172 x163 (1 : Nat)) (0 : Nat) [Value.slice a200 n201 n202]) (adAt a179 x48 (1 : Nat)) (1 : Nat) ∧ Bd (IntKind.wrap IntKind.i64 (x48 + (1 : Int))) fun x203 => J46 [Value.int IntKind.i64 x203] [] (setCells (setCells w199 (adAt a172 x163 (1 : Nat)) (0 : Nat) [Value.slice a200 n201 n202]) (adAt a179 x48 (1 : Nat)) (0 : Nat) [Value.int IntKind.i64 x163])) w197) fun J204 => Bd (!b159) fun b205 => If b205 (NN a6 fun A206 => Ld w156 (Addr.add A206 (3 : Nat)) fun v207 => opL v207 fun a208 n209 n210 => Bd ↑n209 fun x211 => RunU Try.prog [n1] (Instr.mapUpdate (248 : Nat) (Value.map (some n41)) (Value.int IntKind.i64 x59) (Value.int IntKind.i64 x211)) (fun w212 => NN a6 fun A213 => Ld w212 (Addr.add A213 (3 : Nat)) fun v214 => opL v214 fun a215 n216 n217 => Nw (Obj.cells #[Value.slice none (0 : Nat) (0 : Nat)] (52 : Nat)) w212 fun n218 w219 => RunW Try.prog [n1] (Builtin.append_ #[(242 : Nat), (242 : Nat)] (242 : Nat) #[Value.slice a215 n216 n217, Value.slice (some { block := n218, off := (0 : Nat) }) (1 : Nat) (1 : Nat)]) (fun v220 w221 => opL v220 fun a222 n223 n224 => NN a6 fun A225 => ¬Addr.block A225 ∈ [n1] ∧ Wr w221 (Addr.add A225 (3 : Nat)) (1 : Nat) ∧ J204 [Value.int IntKind.i64 x211] [] (setCells w221 (Addr.add A225 (3 : Nat)) (0 : Nat) [Value.slice a222 n223 n224])) w219) w156) (J204 [Value.int IntKind.i64 x158] [] w156))) (setCells w150 (Addr.add A154 (1 : Nat)) (0 : Nat) [Value.slice a151 n152 n153])) w148
def P221I (p0_0 : Int) (p0_1a : Option Addr) (p0_1n : Nat) (x2 : Int) (a6 : Option Addr) (n1 : Nat) (n41 : Nat) (J46 : List Value → List Value → World → Prop) (x48 : Int) (a53 : Option Addr) (n54 : Nat) (n55 : Nat) (x59 : Int) (x60 : Int) (w58 : World) : Prop :=
  LoopP (fun l61 l62 J63 w64 => opI IntKind.i64 (nthD l61 (0 : Nat)) fun x65 => Bd (decide (x65 < x60)) fun b66 => If b66 (IxOk x65 n54 a53 ∧ ¬Addr.block (adAt a53 x65 (1 : Nat)) ∈ [n1] ∧ Wr w64 (adAt a53 x65 (1 : Nat)) (1 : Nat) ∧ Jn (fun l67 l68 w69 => Dr (World.drew w69) fun J70 => NN a6 fun A71 => IxOk x65 n54 a53 ∧ NN a6 fun A72 => IxOk x65 n54 a53 ∧ ∃ v73, (∀ (w74 : World), J70 w74 → Ld w74 (Addr.add A71 (2 : Nat)) fun v76 => v76 = v73) ∧ opL v73 fun a77 n78 n79 => IxOk x65 n78 a77 ∧ ∃ v80, (∀ (w81 : World), J70 w81 → Ld w81 (adAt a77 x65 (1 : Nat)) fun v83 => v83 = v80) ∧ opL v80 fun a84 n85 n86 => ∃ v87, (∀ (w88 : World), J70 w88 → Ld w88 (adAt a53 x65 (1 : Nat)) fun v90 => v90 = v87) ∧ opI IntKind.i64 v87 fun x91 => ∃ v92, (∀ (w93 : World), J70 w93 → Ld w93 (Addr.add A72 (2 : Nat)) fun v95 => v95 = v92) ∧ opL v92 fun a96 n97 n98 => IxOk x65 n97 a96 ∧ ∃ v99, (∀ (w100 : World), J70 w100 → Ld w100 (adAt a96 x65 (1 : Nat)) fun v102 => v102 = v99) ∧ opL v99 fun a103 n104 n105 => ∃ v106, (∀ (w107 : World), J70 w107 → Ld w107 (adAt a53 x65 (1 : Nat)) fun v109 => v109 = v106) ∧ opI IntKind.i64 v106 fun x110 => IxOk x110 n104 a103 ∧ ∃ v111, (∀ (w112 : World), J70 w112 → Ld w112 (adAt a103 x110 (1 : Nat)) fun v114 => v114 = v111) ∧ opL v111 fun a115 n116 n117 => Nw (Obj.cells #[Value.int IntKind.i64 x48] (3 : Nat)) (World.drew w69) fun n118 w119 => J70 w119 ∧ RunW Try.prog [n1] (Builtin.append_ #[(52 : Nat), (52 : Nat)] (52 : Nat) #[Value.slice a115 n116 n117, Value.slice (some { block := n118, off := (0 : Nat) }) (1 : Nat) (1 : Nat)]) (fun v120 w121 => opL v120 fun a122 n123 n124 => J70 w121 ∧ IxOk x91 n85 a84 ∧ ¬Addr.block (adAt a84 x91 (1 : Nat)) ∈ [n1] ∧ Wr w121 (adAt a84 x91 (1 : Nat)) (1 : Nat) ∧ Bd (IntKind.wrap IntKind.i64 (x65 + (1 : Int))) fun x125 => J63 [Value.int IntKind.i64 x125] [] (setCells w121 (adAt a84 x91 (1 : Nat)) (0 : Nat) [Value.slice a122 n123 n124])) w119) fun J126 => Bd (decide (x48 < x2)) fun b127 => Bd (IntKind.wrap IntKind.i64 (x48 * p0_0)) fun x128 => Bd (IntKind.wrap IntKind.i64 (x128 + x65)) fun x129 => (b127 = true → IxOk x129 p0_1n p0_1a) ∧ Gd b127 (0 : Int) (fun J131 => Ld (setCells w64 (adAt a53 x65 (1 : Nat)) (0 : Nat) [Value.int IntKind.i64 x2]) (adAt p0_1a x129 (1 : Nat)) fun v132 => opI IntKind.i64 v132 fun x133 => J131 x133 (setCells w64 (adAt a53 x65 (1 : Nat)) (0 : Nat) [Value.int IntKind.i64 x2])) (fun x134 w135 => Bd (decide (x134 ≥ (0 : Int))) fun b136 => Bd (bif b127 then b136 else false) fun b137 => If b137 (Bd (IntKind.wrap IntKind.i64 (x48 * p0_0)) fun x138 => Bd (IntKind.wrap IntKind.i64 (x138 + x65)) fun x139 => IxOk x139 p0_1n p0_1a ∧ Ld w135 (adAt p0_1a x139 (1 : Nat)) fun v140 => opI IntKind.i64 v140 fun x141 => IxOk x65 n54 a53 ∧ ¬Addr.block (adAt a53 x65 (1 : Nat)) ∈ [n1] ∧ Wr w135 (adAt a53 x65 (1 : Nat)) (1 : Nat) ∧ J126 [] [] (setCells w135 (adAt a53 x65 (1 : Nat)) (0 : Nat) [Value.int IntKind.i64 x141])) (J126 [] [] w135)) (setCells w64 (adAt a53 x65 (1 : Nat)) (0 : Nat) [Value.int IntKind.i64 x2])) (P221R a6 n1 n41 J46 x48 a53 n54 n55 x59 w64)) [Value.int IntKind.i64 (0 : Int)] [] w58
def P221B (p0_0 : Int) (p0_1a : Option Addr) (p0_1n : Nat) (p0_2a : Option Addr) (p0_2n : Nat) (x2 : Int) (a6 : Option Addr) (n1 : Nat) (n41 : Nat) (J46 : List Value → List Value → World → Prop) (x48 : Int) (w47 : World) : Prop :=
  Dr (World.drew w47) fun J50 => RunW Try.prog [n1] (Instr.makeSlice (52 : Nat) (Value.int IntKind.i64 p0_0) (Value.int IntKind.i64 p0_0)) (fun v51 w52 => opL v51 fun a53 n54 n55 => J50 w52 ∧ Jn (fun l56 l57 w58 => opI IntKind.i64 (nthD l56 (0 : Nat)) fun x59 => Bd ↑n54 fun x60 => (P221I p0_0 p0_1a p0_1n x2 a6 n1 n41 J46 x48 a53 n54 n55 x59 x60 w58)) fun J226 => Bd (decide (x48 < x2)) fun b227 => If b227 (IxOk x48 p0_2n p0_2a ∧ Ld w52 (adAt p0_2a x48 (1 : Nat)) fun v228 => opI IntKind.i64 v228 fun x229 => J226 [Value.int IntKind.i64 x229] [] w52) (J226 [Value.int IntKind.i64 (-1 : Int)] [] w52)) (World.drew w47)
def P221O (p0_0 : Int) (p0_1a : Option Addr) (p0_1n : Nat) (p0_2a : Option Addr) (p0_2n : Nat) (x2 : Int) (a6 : Option Addr) (n1 : Nat) (n41 : Nat) (R : Value → World → Prop) (x43 : Int) (w42 : World) : Prop :=
  LoopP (fun l44 l45 J46 w47 => opI IntKind.i64 (nthD l44 (0 : Nat)) fun x48 => Bd (decide (x48 < x43)) fun b49 => If b49 (P221B p0_0 p0_1a p0_1n p0_2a p0_2n x2 a6 n1 n41 J46 x48 w47) (P221M a6 n1 R w47)) [Value.int IntKind.i64 (0 : Int)] [] w42
def P221K (p0_0 : Int) (p0_1a : Option Addr) (p0_1n : Nat) (p0_2a : Option Addr) (p0_2n : Nat) (x2 : Int) (a6 : Option Addr) (n1 : Nat) (R : Value → World → Prop) (x18 : Int) (w8 : World) (a9 : Option Addr) (n10 : Nat) (n11 : Nat) (A12 : Addr) : Prop :=
  LoopP (fun l19 l20 J21 w22 => opI IntKind.i64 (nthD l19 (0 : Nat)) fun x23 => Bd (decide (x23 < x18)) fun b24 => If b24 (Dr (World.drew w22) fun J25 => NN a6 fun A26 => Bd (IntKind.wrap IntKind.i64 (x2 + (1 : Int))) fun x27 => ∃ v28, (∀ (w29 : World), J25 w29 → Ld w29 (Addr.add A26 (2 : Nat)) fun v31 => v31 = v28) ∧ opL v28 fun a32 n33 n34 => RunW Try.prog [n1] (Instr.makeSlice (242 : Nat) (Value.int IntKind.i64 x27) (Value.int IntKind.i64 x27)) (fun v35 w36 => opL v35 fun a37 n38 n39 => J25 w36 ∧ IxOk x23 n33 a32 ∧ ¬Addr.block (adAt a32 x23 (1 : Nat)) ∈ [n1] ∧ Wr w36 (adAt a32 x23 (1 : Nat)) (1 : Nat) ∧ Bd (IntKind.wrap IntKind.i64 (x23 + (1 : Int))) fun x40 => J21 [Value.int IntKind.i64 x40] [] (setCells w36 (adAt a32 x23 (1 : Nat)) (0 : Nat) [Value.slice a37 n38 n39])) (World.drew w22)) (Nw (Obj.map #[] (0 : Nat)) w22 fun n41 w42 => Bd (IntKind.wrap IntKind.i64 (x2 + (1 : Int))) fun x43 => (P221O p0_0 p0_1a p0_1n p0_2a p0_2n x2 a6 n1 n41 R x43 w42))) [Value.int IntKind.i64 (0 : Int)] [] (setCells w8 (Addr.add A12 (2 : Nat)) (0 : Nat) [Value.slice a9 n10 n11])
def csB (mm : Int) (m : Nat) (R : Lab → Rw Int) (H : Hab → Rw HS3) (b : Rw HS3) : List Value :=
  [.int .i64 mm, .slice (H .nx).1 (H .nx).2.2.length (H .nx).2.1, .slice b.1 b.2.2.length b.2.1, .slice (H .gr).1 (H .gr).2.2.length (H .gr).2.1, .slice (R .at').1 (R .at').2.2.length (R .at').2.1, .slice none 0 0, .map (some m)]
structure BA (w1 w : World) (n m nof : Nat) (M : Mch) (R : Lab → Rw Int) (H : Hab → Rw HS3) (b : Rw HS3) (s : Nat) (cnt : Nat → Nat) (sn sg : Nat) (of : List (Int × Int)) : Prop where
  bm : BM w1 w n m R H b (csB M.m m R H b)
  bh : BH M R H b M.m
  bc : BC M R H s cnt sn sg
  oO : MapAt w nof vI vI of
  ol : w1.heap.size ≤ nof
  om : nof ≠ m
theorem csB_row {mm : Int} {m : Nat} {R : Lab → Rw Int} {H : Hab → Rw HS3} {b : Rw HS3} {l : Lab} (x : Rw Int) (h : l ≠ .at') : csB mm m (upd R l x) H b = csB mm m R H b := by
  unfold csB; rw [upd_ne _ _ (Ne.symm h)]
theorem csB_bk {mm : Int} {m : Nat} {R : Lab → Rw Int} {H : Hab → Rw HS3} {b : Rw HS3} {k : Nat} (x : Rw HS3) : csB mm m R (upd H (.bk k) x) b = csB mm m R H b := by
  unfold csB; rw [upd_ne _ _ (by simp), upd_ne _ _ (by simp)]
theorem csB_nx {mm : Int} {m : Nat} {R : Lab → Rw Int} {H : Hab → Rw HS3} {b : Rw HS3} (x : Rw HS3) : (csB mm m R H b).set 1 (.slice x.1 x.2.2.length x.2.1) = csB mm m R (upd H .nx x) b := by
  unfold csB; rw [upd_same, upd_ne _ _ (by simp)]; rfl
theorem csB_gr {mm : Int} {m : Nat} {R : Lab → Rw Int} {H : Hab → Rw HS3} {b : Rw HS3} (x : Rw HS3) : (csB mm m R H b).set 3 (.slice x.1 x.2.2.length x.2.1) = csB mm m R (upd H .gr x) b := by
  unfold csB; rw [upd_same, upd_ne _ _ (by simp)]; rfl
theorem csB_gr0 {mm : Int} {m : Nat} {R : Lab → Rw Int} {H : Hab → Rw HS3} {b : Rw HS3} {i : Nat} {x : HS3} : csB mm m R (upd H .gr ((H .gr).1, (H .gr).2.1, (H .gr).2.2.set i x)) b = csB mm m R H b := by
  unfold csB; rw [upd_same, upd_ne _ _ (by simp)]; simp
section
variable {w0 w w' : World} {n m : Nat} {R : Lab → Rw Int} {H : Hab → Rw HS3} {b : Rw HS3} {cs : List Value}
/-- What stays while a row is changed. -/
theorem BM.frR (S : BM w0 w n m R H b cs) (l : Lab) (hm : Md (blkO (R l).1) w w') : Blk w' n 247 cs ∧ (∀ l', l' ≠ l → OwnL w' w0.heap.size 3 1 i1 (R l').1 (R l').2.1 (R l').2.2) ∧ (∀ h, OwnL w' w0.heap.size 52 1 hE (H h).1 (H h).2.1 (H h).2.2) ∧ OwnL w' w0.heap.size 242 1 hE b.1 b.2.1 b.2.2 := by
  refine ⟨S.blk.md hm fun hd => ?_, fun l' hl => (S.fR.own l').mdD hm fun A hA hd => ?_, fun h => (S.fH.own h).mdD hm fun A hA hd => ?_, S.fB.mdD hm fun A hA' hd => ?_⟩
  · obtain ⟨A, hA', e⟩ := blkO_mem hd; exact own_nblk (S.fR.own l) S.blk (by decide) A hA' e
  · obtain ⟨B, hB, e⟩ := blkO_mem hd; exact S.fR.apt l' l hl A B hA hB e.symm
  · obtain ⟨B, hB, e⟩ := blkO_mem hd; exact own_apt2 (S.fH.own h) (S.fR.own l) (by decide) A B hA hB e.symm
  · obtain ⟨B, hB, e⟩ := blkO_mem hd; exact own_apt2 S.fB (S.fR.own l) (by decide) A B hA' hB e.symm
/-- Another map is written. -/
theorem BM.mapW (S : BM w0 w n m R H b cs) {r : Nat} {l : List (Int × Int)} (hr : MapAt w r vI vI l) (h0 : w0.heap.size ≤ r) (hrm : r ≠ m) (hm : Md [r] w w') : BM w0 w' n m R H b cs := by
  refine ⟨S.md.old hm (by simpa using h0), S.blk.md hm fun hd => ?_, S.nlo, S.mlo, S.mO.md hm (by simpa using Ne.symm hrm), S.fR.keep hm fun l' A hA' hd => ?_, S.fH.keep hm fun l' A hA' hd => ?_, S.fB.mdD hm fun A hA' hd => ?_⟩
  · have e : n = r := by simpa using hd
    obtain ⟨es, c, h, _⟩ := hr
    have := S.blk
    unfold Blk at this
    rw [e, h] at this
    cases this
  · exact own_nmap (S.fR.own l') hr A hA' (by simpa using hd)
  · exact own_nmap (S.fH.own l') hr A hA' (by simpa using hd)
  · exact own_nmap S.fB hr A hA' (by simpa using hd)
end
/-- A second machine, as the groups are made of it. -/
structure DmIn (M : Mch) (next tags : List Int) : Prop where
  ok : M.ok
  nl : next.length = M.n * M.m
  tl : tags.length = M.n
  m1 : 1 ≤ M.m
  m2 : M.m ≤ 256
  n1 : 1 ≤ M.n
  n2 : M.n < 2 ^ 12
  go1 : ∀ (s k : Nat), s < M.n → k < M.m → ∀ h : s * M.m + k < next.length, M.go s k = if 0 ≤ next[s * M.m + k] then (next[s * M.m + k]).toNat else M.n
  go2 : ∀ k, M.go M.n k = M.n
  tg1 : ∀ (s : Nat) (h : s < tags.length), M.tag s = tags[s]
  tg2 : M.tag M.n = -1
theorem DmIn.ix {M : Mch} {next tags : List Int} (D : DmIn M next tags) {s k : Nat} (hs : s < M.n) (hk : k < M.m) : s * M.m + k < next.length := by
  rw [D.nl]
  have : (s + 1) * M.m ≤ M.n * M.m := Nat.mul_le_mul_right _ hs
  rw [Nat.succ_mul] at this
  omega
theorem DmIn.wr {M : Mch} {next tags : List Int} (D : DmIn M next tags) {s : Nat} (hs : s ≤ M.n) : IntKind.wrap .i64 ((s : Int) * (M.m : Int)) = ((s * M.m : Nat) : Int) ∧ s * M.m < 2 ^ 21 := by
  have h1 := D.m2
  have h2 := D.n2
  have h3 : s * M.m ≤ 2 ^ 12 * 256 := Nat.mul_le_mul (by omega) h1
  refine ⟨?_, by omega⟩
  rw [← Int.natCast_mul, IntKind.wrap_i64]
  omega
section
variable {w1 : World} {n m nof n1 : Nat} {M : Mch} {next tags : List Int} {b : Rw HS3} {s : Nat} {J46 : List Value → List Value → World → Prop} {a53 : Option Addr} {n55 : Nat}
theorem BA.setNx {w : World} {R : Lab → Rw Int} {H : Hab → Rw HS3} {cnt : Nat → Nat} {sn sg : Nat} {of : List (Int × Int)} (A : BA w1 w n m nof M R H b s cnt sn sg of) {a : Option Addr} {c : Nat} {l : List Int} (hr : R (.nx sn) = (a, c, l)) {i : Nat} (hi : i < l.length) (x : Int) :
    Wr w (adAt a (i : Int) 1) 1 ∧ w1.heap.size ≤ (adAt a (i : Int) 1).block ∧ BA w1 (setCells w (adAt a (i : Int) 1) 0 [.int .i64 x]) n m nof M (upd R (.nx sn) (a, c, l.set i x)) H b s cnt sn sg of := by
  obtain ⟨q1, q2, S1, k1⟩ := A.bm.setR (.nx sn) (i := i) (by rw [hr]; exact hi) x
  rw [hr] at q1 q2 S1 k1
  refine ⟨q1, q2, ⟨?_, A.bh.row (.inr ⟨sn, rfl, by rw [A.bc.nl]; exact Nat.le_refl _⟩) _, A.bc.nxRow _, k1.at A.oO, A.ol, A.om⟩⟩
  rw [csB_row _ (by simp)]
  exact S1
theorem P221R_ok {w64 : World} {R : Lab → Rw Int} {H : Hab → Rw HS3} (D : DmIn M next tags) (hn1 : n1 < w1.heap.size) (hs : s ≤ M.n) (A : BA w1 w64 n m nof M R H b s (fun _ => s + 1) s s (ofM M s)) (hr : R (.nx s) = (a53, n55, rowI M s))
    (K : ∀ R' H' w', BA w1 w' n m nof M R' H' b (s + 1) (fun _ => s + 1) (s + 1) (s + 1) (ofM M (s + 1)) → J46 [.int .i64 ((s + 1 : Nat) : Int)] [] w') :
    P221R (some ⟨n, 0, none⟩) n1 nof J46 (s : Int) a53 M.m n55 (M.tag s) w64 := by
  have hL : ∀ d ∈ [n1], d < w1.heap.size := by simpa using hn1
  have hnn : n1 ≠ n := by have := A.bm.nlo; omega
  have hn2 := D.n2
  have hTl := tagsT_len (M := M) s
  have hrl : (rowI M s).length = M.m := by simp [rowI]
  unfold P221R
  refine NN_in <| A.bm.blk.ld' rfl <| opL_in ?_
  have hxe : hdr (R (.nx s)) = (a53, M.m, n55) := by rw [hr]; simp [hdr, hrl]
  refine A.bm.appH .nx hL (a53, M.m, n55) (by rw [A.bc.nl]; omega) fun a' c' w150 S2 k2 m2 nA => opL_in <| NN_in ⟨by simpa using Ne.symm hnn, ?_, ?_⟩
  · rw [Addr.add_lit]; exact S2.blk.wr (by simp [csB])
  · obtain ⟨_, S3, k3⟩ := S2.put (j := 1) (by simp [csB]) (.slice a' ((H .nx).2.2 ++ [((a53, M.m, n55) : HS3)]).length c')
    rw [Addr.add_lit]
    have eH : (H .nx).2.2 ++ [((a53, M.m, n55) : HS3)] = (H .nx).2.2 ++ [hdr (R (.nx (H .nx).2.2.length))] := by rw [A.bc.nl, hxe]
    rw [show (csB M.m m R H b).set 1 (.slice a' ((H .nx).2.2 ++ [((a53, M.m, n55) : HS3)]).length c') = csB M.m m R (upd H .nx (a', c', (H .nx).2.2 ++ [((a53, M.m, n55) : HS3)])) b from csB_nx (a', c', (H .nx).2.2 ++ [((a53, M.m, n55) : HS3)])] at S3
    have A3 : BA w1 (setCells w150 ⟨n, 1, none⟩ 0 [.slice a' ((H .nx).2.2 ++ [((a53, M.m, n55) : HS3)]).length c']) n m nof M R (upd H .nx (a', c', (H .nx).2.2 ++ [((a53, M.m, n55) : HS3)])) b s (fun _ => s + 1) (s + 1) s (ofM M s) :=
      ⟨S3, by rw [eH]; exact A.bh.pushN _ _, A.bc.pushN (by rw [hr]) _ _ _, k3.at (k2.at A.oO), A.ol, A.om⟩
    obtain ⟨w3, hw3⟩ : ∃ w3, w3 = setCells w150 ⟨n, 1, none⟩ 0 [.slice a' ((H .nx).2.2 ++ [((a53, M.m, n55) : HS3)]).length c'] := ⟨_, rfl⟩
    obtain ⟨H3, hH3⟩ : ∃ H3, H3 = upd H .nx (a', c', (H .nx).2.2 ++ [((a53, M.m, n55) : HS3)]) := ⟨_, rfl⟩
    rw [show setCells w150 ⟨n, 0 + 1, none⟩ 0 [.slice a' ((H .nx).2.2 ++ [((a53, M.m, n55) : HS3)]).length c'] = w3 from hw3.symm]
    rw [← hw3, ← hH3] at A3
    clear S3 k3 S2 k2 m2 nA
    refine RunW_in0 (mapInt.lookup A3.oO (M.tag s) (.int .i64 0) (zero3 _)) ?_
    obtain ⟨J, hJ⟩ : ∃ J : List Value → List Value → World → Prop, J = (fun us vs w' => us = [.int .i64 (clsM M s : Int)] ∧ ∃ R H, BA w1 w' n m nof M R H b s (fun _ => s + 1) (s + 1) (s + 1) (ofM M (s + 1))) := ⟨_, rfl⟩
    have A4 : ∀ (us vs : List Value) (w162 : World), J us vs w162 → opI .i64 (nthD us 0) fun x163 => Dr (World.drew w162) fun J164 => NN (some ⟨n, 0, none⟩) fun A165 => NN (some ⟨n, 0, none⟩) fun A166 => NN (some ⟨n, 0, none⟩) fun A167 =>
        ∃ v168, (∀ (w169 : World), J164 w169 → Ld w169 (Addr.add A165 (3 : Nat)) fun v171 => v171 = v168) ∧ opL v168 fun a172 n173 n174 => ∃ v175, (∀ (w176 : World), J164 w176 → Ld w176 (Addr.add A166 (4 : Nat)) fun v178 => v178 = v175) ∧ opL v175 fun a179 n180 n181 =>
        ∃ v182, (∀ (w183 : World), J164 w183 → Ld w183 (Addr.add A167 (3 : Nat)) fun v185 => v185 = v182) ∧ opL v182 fun a186 n187 n188 => IxOk x163 n187 a186 ∧ ∃ v189, (∀ (w190 : World), J164 w190 → Ld w190 (adAt a186 x163 (1 : Nat)) fun v192 => v192 = v189) ∧ opL v189 fun a193 n194 n195 =>
        Nw (Obj.cells #[Value.int IntKind.i64 (s : Int)] (3 : Nat)) (World.drew w162) fun n196 w197 => J164 w197 ∧ RunW Try.prog [n1] (Builtin.append_ #[(52 : Nat), (52 : Nat)] (52 : Nat) #[Value.slice a193 n194 n195, Value.slice (some { block := n196, off := 0 }) (1 : Nat) (1 : Nat)]) (fun v198 w199 =>
        opL v198 fun a200 n201 n202 => J164 w199 ∧ IxOk x163 n173 a172 ∧ ¬Addr.block (adAt a172 x163 (1 : Nat)) ∈ [n1] ∧ Wr w199 (adAt a172 x163 (1 : Nat)) (1 : Nat) ∧ IxOk (s : Int) n180 a179 ∧ ¬Addr.block (adAt a179 (s : Int) (1 : Nat)) ∈ [n1] ∧
        Wr (setCells w199 (adAt a172 x163 (1 : Nat)) (0 : Nat) [Value.slice a200 n201 n202]) (adAt a179 (s : Int) (1 : Nat)) (1 : Nat) ∧ Bd (IntKind.wrap IntKind.i64 ((s : Int) + (1 : Int))) fun x203 =>
        J46 [Value.int IntKind.i64 x203] [] (setCells (setCells w199 (adAt a172 x163 (1 : Nat)) (0 : Nat) [Value.slice a200 n201 n202]) (adAt a179 (s : Int) (1 : Nat)) (0 : Nat) [Value.int IntKind.i64 x163])) w197 := by
      clear A3 hH3 eH hxe hr A
      intro us vs w162 hj
      rw [hJ] at hj
      obtain ⟨rfl, R, H, A⟩ := hj
      refine opI_in ?_
      obtain ⟨c, hc⟩ : ∃ c, c = clsM M s := ⟨_, rfl⟩
      rw [← hc]
      have hcl : c < (H .gr).2.2.length := by rw [A.bc.gl, hc]; exact clsM_lt (Nat.lt_succ_self s)
      have hsl : s < (R .at').2.2.length := by rw [A.bc.al]; omega
      have eg : (H .gr).2.2[c] = hdr (R (.gr c)) := (List.getElem?_eq_some_iff.1 (A.bh.hg c hcl)).2
      have dw : Md [] w162 w162.drew := Md_drew w162
      have S1 := (A.bm.md0 dw)
      have fr := fun (w' : World) (hm : Md (blkO (R (.gr c)).1) w162 w') => A.bm.frR (.gr c) hm
      refine ⟨fun w' => Md (blkO (R (.gr c)).1) w162 w', dw.mono (by simp), NN_in <| NN_in <| NN_in ⟨_, fun w' h' => (fr w' h').1.ld' rfl rfl, opL_in ⟨_, fun w' h' => (fr w' h').1.ld' rfl rfl, opL_in ⟨_, fun w' h' => (fr w' h').1.ld' rfl rfl, opL_in ⟨((A.bm.fH.own .gr).row enchE).ix hcl, _, fun w' h' => (((fr w' h').2.2.1 .gr).row enchE).ld1 hcl (by rw [eg]; rfl) rfl, opL_in ?_⟩⟩⟩⟩⟩
      intro n196 w197 e1 e2
      refine ⟨by subst e2; exact (dw.trans (Md.alloc (M := []) _ _)).mono (by simp), ?_⟩
      refine S1.1.appR (.gr c) hL (s : Int) (by rw [A.bc.gr]; have := selN_len (clsM M) s c; omega) (fun a' c' w5 S5 k5 m5 nA => ?_) n196 w197 e1 e2
      have m5' : Md (blkO (R (.gr c)).1) w162 w5 := (dw.mono (by simp)).trans m5
      obtain ⟨q1, q2, S6, k6⟩ := S5.setH .gr hcl (a', ((R (.gr c)).2.2 ++ [(s : Int)]).length, c')
      obtain ⟨q3, q4, S7, k7⟩ := S6.setR .at' (i := s) (by rw [upd_ne _ _ (by simp)]; exact hsl) (c : Int)
      rw [upd_ne _ _ (by simp)] at q3 q4 S7 k7
      refine opL_in ⟨m5', ((A.bm.fH.own .gr).row enchE).ix hcl, fun hh => ?_, q1, ((A.bm.fR.own .at').row enci1).ix hsl, fun hh => ?_, q3, Bd_e (inc_i64 (by omega)) ?_⟩
      · have e : (adAt (H .gr).1 (c : Int) 1).block = n1 := by simpa using hh
        omega
      · have e : (adAt (R .at').1 (s : Int) 1).block = n1 := by simpa using hh
        omega
      · refine K _ _ _ ⟨?_, (A.bh.gr (a := c) (a', c', (R (.gr c)).2.2 ++ [(s : Int)])).row (.inl rfl) ((R .at').1, (R .at').2.1, (R .at').2.2.set s (c : Int)), ?_, k7.at (k6.at (k5.at (S1.2.at A.oO))), A.ol, A.om⟩
        · have e1 : csB M.m m R H b = csB M.m m (upd (upd R (.gr c) (a', c', (R (.gr c)).2.2 ++ [(s : Int)])) .at' ((R .at').1, (R .at').2.1, (R .at').2.2.set s (c : Int))) (upd H .gr ((H .gr).1, (H .gr).2.1, (H .gr).2.2.set c (hdr (a', c', (R (.gr c)).2.2 ++ [(s : Int)])))) b := by
            rw [csB_gr0]
            unfold csB
            rw [upd_same]
            simp
          rw [← e1]
          exact S7
        · have := A.bc.grApp hs (a := a') (a2 := (R .at').1) (c := c') (c2 := (R .at').2.1) (x := (H .gr).2.2.set c (hdr (a', c', (R (.gr c)).2.2 ++ [(s : Int)]))) (by simp)
          rw [← hc] at this
          exact this
    by_cases ht : M.tag s ∈ tagsT M s
    · obtain ⟨i, hf⟩ := ofM_find ht
      rw [hf]
      refine opTu_in <| opI_in <| opB_in <| SzIs_in rfl <| Jn_in J A4 ?_
      refine Bd_f rfl <| If_f ?_
      rw [hJ]
      refine ⟨rfl, R, H3, ⟨A3.bm, A3.bh, A3.bc.sameG ht, ?_, A3.ol, A3.om⟩⟩
      rw [ofM_old ht]; exact A3.oO
    · have hf : findI (M.tag s) (ofM M s) 0 = none := findI_none (by rw [ofM_keys]; exact ht)
      rw [hf]
      refine opTu_in <| opI_in <| opB_in <| SzIs_in rfl <| Jn_in J A4 ?_
      have hgl := A3.bc.gl
      obtain ⟨w4, hrun, hmap, m4⟩ := mapInt.add A3.oO (M.tag s) ((tagsT M s).length : Int) hf
      have S4 := A3.bm.mapW A3.oO A3.ol A3.om m4
      refine Bd_t rfl <| If_t <| NN_in <| A3.bm.blk.ld' rfl <| opL_in <| Bd_e (by rw [hgl]) <| RunU_in hrun (fun d hd => m4.blk d (Nat.lt_of_lt_of_le (hL d hd) A3.bm.md.size) (by have := hL d hd; have := A3.ol; simp; omega)) ?_
      refine NN_in <| S4.blk.ld' rfl <| opL_in ?_
      refine S4.appH .gr hL (none, 0, 0) (by rw [hgl]; omega) fun a2 c2 w5 S5 k5 m5 nA => opL_in <| NN_in ⟨by simpa using Ne.symm hnn, ?_, ?_⟩
      · rw [Addr.add_lit]; exact S5.blk.wr (by simp [csB])
      · obtain ⟨_, S6, k6⟩ := S5.put (j := 3) (by simp [csB]) (.slice a2 ((H3 .gr).2.2 ++ [((none, 0, 0) : HS3)]).length c2)
        rw [Addr.add_lit]
        have enil : R (.gr (tagsT M s).length) = (none, 0, []) := A3.bc.gn _ (Nat.le_refl _)
        have eG : (H3 .gr).2.2 ++ [((none, 0, 0) : HS3)] = (H3 .gr).2.2 ++ [hdr (R (.gr (H3 .gr).2.2.length))] := by rw [hgl, enil]; rfl
        rw [hJ]
        refine ⟨by rw [clsM_new ht], R, upd H3 .gr (a2, c2, (H3 .gr).2.2 ++ [((none, 0, 0) : HS3)]), ⟨?_, by rw [eG]; exact A3.bh.pushG _ _, A3.bc.pushG ht _ _ _, ?_, A3.ol, A3.om⟩⟩
        · rw [← csB_gr]
          exact S6
        · rw [ofM_new ht]
          exact k6.at (k5.at hmap)
end
end Fk
set_option linter.unusedVariables false
set_option linter.unusedSimpArgs false
set_option linter.unusedSectionVars false
set_option maxRecDepth 100000
set_option maxHeartbeats 1000000
namespace Fk
open Go Go.Proofs Go.RowKit
theorem rowK_get {M : Mch} {s k j : Nat} (hj : j < M.m) (hk : j < k) : (rowK M s k)[j]? = some (M.go s j : Int) := by
  unfold rowK
  rw [List.getElem?_map]
  have : (List.range M.m)[j]? = some j := by simp [hj]
  rw [this]
  simp [hk]
section
variable {w1 : World} {n m nof n1 : Nat} {M : Mch} {next tags : List Int} {b : Rw HS3} {s : Nat} {J46 : List Value → List Value → World → Prop} {a53 na ta : Option Addr} {n55 : Nat}
theorem P221I_ok {w58 : World} {R : Lab → Rw Int} {H : Hab → Rw HS3} (D : DmIn M next tags) (hn1 : n1 < w1.heap.size) (hrow : RowAt w1 na 1 i1 next) (hs : s ≤ M.n) (A : BA w1 w58 n m nof M R H b s (fun _ => s) s s (ofM M s)) (hr : R (.nx s) = (a53, n55, rowK M s 0))
    (K : ∀ R' H' w', BA w1 w' n m nof M R' H' b (s + 1) (fun _ => s + 1) (s + 1) (s + 1) (ofM M (s + 1)) → J46 [.int .i64 ((s + 1 : Nat) : Int)] [] w') :
    P221I (M.m : Int) na next.length (M.n : Int) (some ⟨n, 0, none⟩) n1 nof J46 (s : Int) a53 M.m n55 (M.tag s) (M.m : Int) w58 := by
  have hL : ∀ d ∈ [n1], d < w1.heap.size := by simpa using hn1
  have hnn : n1 ≠ n := by have := A.bm.nlo; omega
  have hn2 := D.n2
  have hm2 := D.m2
  have ne1 : ∀ {d : Nat}, w1.heap.size ≤ d → ¬ d ∈ [n1] := fun {d} h hh => by
    have e : d = n1 := by simpa using hh
    omega
  unfold P221I
  refine LoopP_in (fun mm us vs w' => ∃ (k : Nat) (R : Lab → Rw Int) (H : Hab → Rw HS3), us = [.int .i64 k] ∧ mm = M.m - k ∧ k ≤ M.m ∧ BA w1 w' n m nof M R H b s (fun j => if j < k then s + 1 else s) s s (ofM M s) ∧ R (.nx s) = (a53, n55, rowK M s k)) M.m
    ⟨0, R, H, rfl, rfl, by omega, by simpa using A, hr⟩ ?_
  clear A hr
  rintro mm us vs w64 ⟨k, R, H, rfl, hmm, hk, A, hr⟩
  refine opI_in <| Bd_in fun b66 hb66 => If_in (fun hb => ?_) fun hb => ?_
  · have hkm : k < M.m := by
      rw [hb66] at hb
      have : (k : Int) < ((M.m : Nat) : Int) := of_decide_eq_true hb
      omega
    have hkl : k < (rowK M s k).length := by rw [rowK_len]; exact hkm
    have rN := A.bm.fR.own (.nx s)
    rw [hr] at rN
    have ixk : IxOk (k : Int) M.m a53 := (rN.row enci1).ixn hkl (rowK_len _ _ _)
    obtain ⟨q1, q2, A1⟩ := A.setNx hr hkl (M.n : Int)
    refine ⟨ixk, ne1 q2, q1, ?_⟩
    obtain ⟨w65, hw65⟩ : ∃ w65, w65 = setCells w64 (adAt a53 (k : Int) 1) 0 [.int .i64 (M.n : Int)] := ⟨_, rfl⟩
    rw [← hw65] at A1 ⊢
    obtain ⟨J, hJ⟩ : ∃ J : List Value → List Value → World → Prop, J = (fun us vs w' => ∃ (R : Lab → Rw Int), BA w1 w' n m nof M R H b s (fun j => if j < k then s + 1 else s) s s (ofM M s) ∧ R (.nx s) = (a53, n55, rowK M s (k + 1))) := ⟨_, rfl⟩
    refine Jn_in J ?_ ?_
    · clear A A1 hr rN
      intro us vs w69 hj
      rw [hJ] at hj
      obtain ⟨R, A, hr⟩ := hj
      have rN := A.bm.fR.own (.nx s)
      rw [hr] at rN
      obtain ⟨g, hg⟩ : ∃ g, g = M.go s k := ⟨_, rfl⟩
      have hgn : g ≤ M.n := by rw [hg]; exact D.ok.st s hs k hkm
      have hkl1 : k < (rowK M s (k + 1)).length := by rw [rowK_len]; exact hkm
      have ekv : (rowK M s (k + 1))[k] = (g : Int) := by rw [hg]; exact (List.getElem?_eq_some_iff.1 (rowK_get hkm (Nat.lt_succ_self k))).2
      have hbl : k < b.2.2.length := by rw [A.bh.bl]; exact hkm
      have ebk : b.2.2[k] = hdr (H (.bk k)) := (List.getElem?_eq_some_iff.1 (A.bh.hb k hkm)).2
      have hgl : g < (H (.bk k)).2.2.length := by rw [A.bh.kl k hkm]; omega
      have egb : (H (.bk k)).2.2[g] = hdr (R (.bk k g)) := (List.getElem?_eq_some_iff.1 (A.bh.hk k hkm g hgn)).2
      have dw : Md [] w69 w69.drew := Md_drew w69
      have S1 := (A.bm.md0 dw)
      have fr := fun (w' : World) (hm : Md (blkO (R (.bk k g)).1) w69 w') => A.bm.frR (.bk k g) hm
      have rN' : ∀ w', Md (blkO (R (.bk k g)).1) w69 w' → OwnL w' w1.heap.size 3 1 i1 a53 n55 (rowK M s (k + 1)) := fun w' hm => by
        have := (fr w' hm).2.1 (.nx s) (by simp)
        rw [hr] at this
        exact this
      have ixk : IxOk (k : Int) M.m a53 := (rN.row enci1).ixn hkl1 (rowK_len _ _ _)
      refine ⟨fun w' => Md (blkO (R (.bk k g)).1) w69 w', dw.mono (by simp), NN_in ⟨ixk, NN_in ⟨ixk, _, fun w' h' => (fr w' h').1.ld' rfl rfl, opL_in ⟨(A.bm.fB.row enchE).ix hbl, _, fun w' h' => ((fr w' h').2.2.2.row enchE).ld1 hbl (by rw [ebk]; rfl) rfl, opL_in ⟨_, fun w' h' => ((rN' w' h').row enci1).ld1 hkl1 (by rw [ekv]; rfl) rfl, opI_in ⟨_, fun w' h' => (fr w' h').1.ld' rfl rfl, opL_in ⟨(A.bm.fB.row enchE).ix hbl, _, fun w' h' => ((fr w' h').2.2.2.row enchE).ld1 hbl (by rw [ebk]; rfl) rfl, opL_in
        ⟨_, fun w' h' => ((rN' w' h').row enci1).ld1 hkl1 (by rw [ekv]; rfl) rfl, opI_in ⟨((A.bm.fH.own (.bk k)).row enchE).ix hgl, _, fun w' h' => (((fr w' h').2.2.1 (.bk k)).row enchE).ld1 hgl (by rw [egb]; rfl) rfl, opL_in ?_⟩⟩⟩⟩⟩⟩⟩⟩⟩
      intro n118 w119 e1 e2
      refine ⟨by subst e2; exact (dw.trans (Md.alloc (M := []) _ _)).mono (by simp), ?_⟩
      have hbc := A.bc.bk k hkm g
      refine S1.1.appR (.bk k g) hL (s : Int) (by rw [hbc]; simp only [Nat.lt_irrefl, if_false]; have := selN_len (fun x => M.go x k) s g; omega) (fun a' c' w5 S5 k5 m5 nA => ?_) n118 w119 e1 e2
      have m5' : Md (blkO (R (.bk k g)).1) w69 w5 := (dw.mono (by simp)).trans m5
      obtain ⟨q1, q2, S6, k6⟩ := S5.setH (.bk k) hgl (a', ((R (.bk k g)).2.2 ++ [(s : Int)]).length, c')
      refine opL_in ⟨m5', ((A.bm.fH.own (.bk k)).row enchE).ix hgl, ne1 q2, q1, Bd_e (inc_i64 (by omega)) ⟨M.m - (k + 1), by omega, k + 1, _, _, rfl, rfl, by omega, ⟨?_, A.bh.bk hkm hgn (a', c', (R (.bk k g)).2.2 ++ [(s : Int)]), ?_, k6.at (k5.at (S1.2.at A.oO)), A.ol, A.om⟩, ?_⟩⟩
      · rw [csB_row _ (by simp), csB_bk]
        exact S6
      · rw [hg]
        exact A.bc.bkApp
      · rw [upd_ne _ _ (by simp)]
        exact hr
    · have hset : (rowK M s k).set k (M.n : Int) = (rowK M s k).set k (M.n : Int) := rfl
      have hwr := D.wr hs
      by_cases hsn : s < M.n
      · have hix := D.ix hsn hkm
        have row2 := hrow.md A1.bm.md
        have w2 : IntKind.wrap .i64 (((s * M.m : Nat) : Int) + (k : Int)) = ((s * M.m + k : Nat) : Int) := by rw [IntKind.wrap_i64]; omega
        have hgo := D.go1 s k hsn hkm hix
        refine Bd_t (by simpa using hsn) <| Bd_e hwr.1 <| Bd_e w2 ⟨fun _ => row2.ix hix, Gd_t <| row2.ld1 hix rfl <| opI_in ?_⟩
        refine Bd_in fun b136 hb136 => Bd_e (y := b136) rfl <| If_in (fun hz => ?_) fun hz => ?_
        · have h0 : 0 ≤ next[s * M.m + k] := by rw [hb136] at hz; exact of_decide_eq_true hz
          rw [if_pos h0] at hgo
          have hv : next[s * M.m + k] = (M.go s k : Int) := by rw [hgo]; exact (Int.toNat_of_nonneg h0).symm
          have hkl2 : k < ((rowK M s k).set k (M.n : Int)).length := by simpa using hkl
          obtain ⟨q3, q4, A2⟩ := A1.setNx (by rw [upd_same]) hkl2 (M.go s k : Int)
          refine Bd_e hwr.1 <| Bd_e w2 ⟨row2.ix hix, row2.ld1 hix rfl <| opI_in ⟨ixk, ne1 q4, q3, ?_⟩⟩
          rw [hv, hJ]
          refine ⟨_, A2, ?_⟩
          rw [upd_same, List.set_set, rowK_succ]
        · have h0 : ¬ 0 ≤ next[s * M.m + k] := by rw [hb136] at hz; exact of_decide_eq_false hz
          rw [if_neg h0] at hgo
          rw [hJ]
          refine ⟨_, A1, ?_⟩
          rw [upd_same, ← hgo, rowK_succ]
      · have es : s = M.n := by omega
        have hgo := D.go2 k
        rw [← es] at hgo
        refine Bd_f (by simpa using hsn) <| Bd_in fun x128 _ => Bd_in fun x129 _ => ⟨(fun e => by cases e), Gd_f <| Bd_in fun b136 _ => Bd_f rfl <| If_f ?_⟩
        rw [hJ]
        refine ⟨_, A1, ?_⟩
        rw [upd_same, ← es, ← hgo]
        rw [hgo]
        conv => lhs; rw [show (s : Int) = (M.go s k : Int) by rw [hgo]]
        rw [rowK_succ]
  · have hkm : k = M.m := by
      have : ¬ (k : Int) < ((M.m : Nat) : Int) := by rw [hb66] at hb; exact of_decide_eq_false hb
      omega
    subst hkm
    have ecnt : ∀ j, j < M.m → (if j < M.m then s + 1 else s) = s + 1 := fun j hj => if_pos hj
    refine P221R_ok D hn1 hs ⟨A.bm, A.bh, ⟨A.bc.al, A.bc.av, A.bc.nx, A.bc.gr, A.bc.gn, fun k hk s' => ?_, A.bc.nl, A.bc.gl⟩, A.oO, A.ol, A.om⟩ (by rw [hr, rowK_all]) K
    have := A.bc.bk k hk s'
    simp only [ecnt k hk] at this
    exact this
theorem P221B_ok {w47 : World} {R : Lab → Rw Int} {H : Hab → Rw HS3} (D : DmIn M next tags) (hn1 : n1 < w1.heap.size) (hrow : RowAt w1 na 1 i1 next) (hrow2 : RowAt w1 ta 1 i1 tags) (hs : s ≤ M.n) (A : BA w1 w47 n m nof M R H b s (fun _ => s) s s (ofM M s))
    (K : ∀ R' H' w', BA w1 w' n m nof M R' H' b (s + 1) (fun _ => s + 1) (s + 1) (s + 1) (ofM M (s + 1)) → J46 [.int .i64 ((s + 1 : Nat) : Int)] [] w') :
    P221B (M.m : Int) na next.length ta tags.length (M.n : Int) (some ⟨n, 0, none⟩) n1 nof J46 (s : Int) w47 := by
  have hm2 := D.m2
  have dw : Md [] w47 w47.drew := Md_drew w47
  obtain ⟨w52, hrun, ho, hm⟩ := made52 M.m w47.drew (by omega)
  have m52 : Md [] w47 w52 := dw.trans hm
  obtain ⟨S2, k2⟩ := A.bm.md0 m52
  have hsz : w1.heap.size ≤ w47.drew.heap.size := A.bm.md.size
  have hl : w47.drew.heap.size < w52.heap.size := (ho.lt rfl).2
  have A2 : BA w1 w52 n m nof M (upd R (.nx s) (some ⟨w47.drew.heap.size, 0, none⟩, M.m, List.replicate M.m (0 : Int))) H b s (fun _ => s) s s (ofM M s) := by
    have h := A.bm.chR (w' := w52) (.nx s) (m52.mono (by simp)) (ho.down hsz) (a := some ⟨w47.drew.heap.size, 0, none⟩) (fun A hA => .inr (by injection hA with hA; rw [← hA]; exact Nat.le_refl _))
    refine ⟨?_, A.bh.row (.inr ⟨s, rfl, by rw [A.bc.nl]; exact Nat.le_refl _⟩) _, A.bc.nxRow _, h.2.at A.oO, A.ol, A.om⟩
    rw [csB_row _ (by simp)]
    exact h.1
  unfold P221B
  refine ⟨fun w' => Md [] w47 w', dw, ?_⟩
  refine RunW_in hrun (fun d hd => hm.blk d ?_ (by simp)) <| opL_in ⟨m52, ?_⟩
  · have e : d = n1 := by simpa using hd
    rw [e]; omega
  · obtain ⟨J, hJ⟩ : ∃ J : List Value → List Value → World → Prop, J = (fun us vs w' => us = [.int .i64 (M.tag s)] ∧ w' = w52) := ⟨_, rfl⟩
    refine Jn_in J ?_ ?_
    · intro us vs w58 hj
      rw [hJ] at hj
      obtain ⟨rfl, rfl⟩ := hj
      refine opI_in <| Bd_e rfl ?_
      exact P221I_ok D hn1 hrow hs A2 (by rw [upd_same, rowK_zero]) K
    · have ht := D.tl
      by_cases hsn : s < M.n
      · have hst : s < tags.length := by omega
        have row2 := hrow2.md A2.bm.md
        refine Bd_t (by simpa using hsn) <| If_t ⟨row2.ix hst, row2.ld1 hst rfl <| opI_in ?_⟩
        rw [hJ]
        exact ⟨by rw [D.tg1 s hst], rfl⟩
      · have es : s = M.n := by omega
        refine Bd_f (by simpa using hsn) <| If_f ?_
        rw [hJ]
        exact ⟨by rw [es, D.tg2], rfl⟩
end
end Fk
set_option linter.unusedVariables false
set_option linter.unusedSimpArgs false
set_option linter.unusedSectionVars false
set_option maxRecDepth 100000
set_option maxHeartbeats 1000000
namespace Fk
open Go Go.Proofs Go.RowKit
section
variable {w1 : World} {n m nof n1 : Nat} {M : Mch} {next tags : List Int} {b : Rw HS3} {s : Nat} {na ta : Option Addr}
def gpB (R : Lab → Rw Int) (H : Hab → Rw HS3) : GPS := ⟨(H .gr).1, (H .gr).2.1, (H .gr).2.2, (R .at').1, (R .at').2.1, (R .at').2.2, none, 0, [], []⟩
def xB (H : Hab → Rw HS3) : Value := .slice (H .nx).1 (H .nx).2.2.length (H .nx).2.1
def yB (b : Rw HS3) : Value := .slice b.1 b.2.2.length b.2.1
def gsB (M : Mch) : List (List Int) := (List.range (tagsT M (M.n + 1)).length).map (selN (clsM M) (M.n + 1))
theorem gsB_get {M : Mch} {a : Nat} {r : List Int} (h : (gsB M)[a]? = some r) : a < (tagsT M (M.n + 1)).length ∧ r = selN (clsM M) (M.n + 1) a := by
  unfold gsB at h
  rw [List.getElem?_map] at h
  by_cases c : a < (tagsT M (M.n + 1)).length
  · simp [c] at h; exact ⟨c, h.symm⟩
  · simp [c] at h
theorem BA.toP {w : World} {R : Lab → Rw Int} {H : Hab → Rw HS3} {of : List (Int × Int)} (A : BA w1 w n m nof M R H b (M.n + 1) (fun _ => M.n + 1) (M.n + 1) (M.n + 1) of) :
    PW w1.heap.size [] w1 w n m M.m (xB H) (yB b) (gpB R H) ∧ PR w (fpP n m (gpB R H)) (H .gr).2.2 (gsB M) ∧ FB M w (fpP n m (gpB R H)) (xB H) (yB b) := by
  have S := A.bm
  have fin : ∀ d, d ∈ fpP n m (gpB R H) → d = n ∨ d = m ∨ d ∈ blkO (H .gr).1 ∨ d ∈ blkO (R .at').1 := fun d hd => by
    simp only [fpP, gpB, List.mem_cons, List.mem_append] at hd
    rcases hd with h | h | (h | h) | h
    · exact .inl h
    · exact .inr (.inl h)
    · exact .inr (.inr (.inl h))
    · exact .inr (.inr (.inr h))
    · simp [blkO] at h
  have rz : ∀ l, l ≠ Lab.at' → RowZ w (fpP n m (gpB R H)) (R l).1 i1 (R l).2.2 := fun l hl => ⟨(S.fR.own l).row enci1, fun A hA _ => ⟨((S.fR.own l).lt hA).2, fun hd => by
    rcases fin _ hd with h | h | h | h
    · exact own_nblk (S.fR.own l) S.blk (by decide) A hA h
    · exact own_nmap (S.fR.own l) S.mO A hA h
    · obtain ⟨B, hB, e⟩ := blkO_mem h; exact own_apt2 (S.fR.own l) (S.fH.own .gr) (by decide) A B hA hB e.symm
    · obtain ⟨B, hB, e⟩ := blkO_mem h; exact S.fR.apt l _ hl A B hA hB e.symm⟩⟩
  have hz : ∀ l, l ≠ Hab.gr → RowZ w (fpP n m (gpB R H)) (H l).1 hE (H l).2.2 := fun l hl => ⟨(S.fH.own l).row enchE, fun A hA _ => ⟨((S.fH.own l).lt hA).2, fun hd => by
    rcases fin _ hd with h | h | h | h
    · exact own_nblk (S.fH.own l) S.blk (by decide) A hA h
    · exact own_nmap (S.fH.own l) S.mO A hA h
    · obtain ⟨B, hB, e⟩ := blkO_mem h; exact S.fH.apt l _ hl A B hA hB e.symm
    · obtain ⟨B, hB, e⟩ := blkO_mem h; exact own_apt2 (S.fH.own l) (S.fR.own .at') (by decide) A B hA hB e.symm⟩⟩
  have bz : RowZ w (fpP n m (gpB R H)) b.1 hE b.2.2 := ⟨S.fB.row enchE, fun A hA _ => ⟨(S.fB.lt hA).2, fun hd => by
    rcases fin _ hd with h | h | h | h
    · exact own_nblk S.fB S.blk (by decide) A hA h
    · exact own_nmap S.fB S.mO A hA h
    · obtain ⟨B, hB, e⟩ := blkO_mem h; exact own_apt2 S.fB (S.fH.own .gr) (by decide) A B hA hB e.symm
    · obtain ⟨B, hB, e⟩ := blkO_mem h; exact own_apt2 S.fB (S.fR.own .at') (by decide) A B hA hB e.symm⟩⟩
  refine ⟨⟨S.blk, S.md, S.nlo, S.mlo, Nat.le_refl _, S.md.size, S.fH.own .gr, S.fR.own .at', OwnL.nil _ _ _ _ _, S.mO, by simp [gpB], by simp [gpB], List.nodup_nil, List.nodup_nil, by simp⟩, ⟨?_, fun a p r hp hr => ?_⟩, ⟨?_, ?_⟩⟩
  · rw [A.bc.gl]; simp [gsB]
  · obtain ⟨ha, rfl⟩ := gsB_get hr
    rw [A.bh.hg a (by rw [A.bc.gl]; exact ha)] at hp
    injection hp with hp
    rw [← hp, ← A.bc.gr a]
    exact ⟨rfl, (S.fR.own (.gr a)).cap, rz _ (by simp)⟩
  · refine ⟨(H .nx).1, (H .nx).2.1, (H .nx).2.2, by unfold xB; rw [A.bc.nl], A.bc.nl, hz _ (by simp), fun s q hq => ?_⟩
    have hs : s < (H .nx).2.2.length := (List.getElem?_eq_some_iff.1 hq).1
    rw [A.bh.hn s hs] at hq
    injection hq with hq
    have hr := A.bc.nx s (by rw [A.bc.nl] at hs; exact hs)
    rw [← hq]
    refine ⟨by show (R (.nx s)).2.2.length = _; rw [hr]; simp [rowI], ?_⟩
    rw [← hr]
    exact rz _ (by simp)
  · refine ⟨b.1, b.2.1, b.2.2, by unfold yB; rw [A.bh.bl], A.bh.bl, bz, fun k p hp => ?_⟩
    have hk : k < M.m := by have := (List.getElem?_eq_some_iff.1 hp).1; rw [A.bh.bl] at this; exact this
    rw [A.bh.hb k hk] at hp
    injection hp with hp
    rw [← hp]
    refine ⟨A.bh.kl k hk, (H (.bk k)).2.2, A.bh.kl k hk, hz _ (by simp), fun s q hq => ?_⟩
    have hs : s < (H (.bk k)).2.2.length := (List.getElem?_eq_some_iff.1 hq).1
    rw [A.bh.kl k hk] at hs
    rw [A.bh.hk k hk s (by omega)] at hq
    injection hq with hq
    have hr := A.bc.bk k hk s
    rw [← hq]
    refine ⟨by show (R (.bk k s)).2.2.length = _; rw [hr]; rfl, ?_⟩
    have : (R (.bk k s)).2.2 = srcI M k s := hr
    rw [← this]
    exact rz _ (by simp)
theorem selN_mem {p : Nat → Nat} {s a : Nat} {y : Int} : y ∈ selN p s a ↔ ∃ x : Nat, x < s ∧ y = x ∧ p x = a := by
  unfold selN
  simp only [List.mem_map, List.mem_filter, List.mem_range, decide_eq_true_eq]
  constructor
  · rintro ⟨x, ⟨h1, h2⟩, rfl⟩; exact ⟨x, h1, rfl, h2⟩
  · rintro ⟨x, h1, rfl, h2⟩; exact ⟨x, ⟨h1, h2⟩, rfl⟩
theorem selN_nodup (p : Nat → Nat) (s a : Nat) : (selN p s a).Nodup := by
  unfold selN
  refine List.Pairwise.map _ (fun a b h => ?_) (List.nodup_range.filter _)
  intro e; exact h (by omega)
theorem GI.start {M : Mch} (hM : M.ok) {at' : List Int} {td : List (Int × Int)} (al : at'.length = M.n + 1) (av : ∀ x, x < M.n + 1 → at'[x]? = some (clsM M x : Int)) (h1 : ∀ p ∈ td, 0 ≤ p.1 ∧ p.1 < (tagsT M (M.n + 1)).length ∧ 0 ≤ p.2 ∧ p.2 < M.m)
    (h2 : ∀ a j : Nat, a < (tagsT M (M.n + 1)).length → j < M.m → ((a : Int), (j : Int)) ∈ td) : GI M (gsB M) at' td fun _ _ _ => False := by
  have hl : (gsB M).length = (tagsT M (M.n + 1)).length := by simp [gsB]
  refine ⟨al, fun a r hr => ?_, fun x hx => ⟨clsM M x, by rw [hl]; exact clsM_lt (by omega), av x (by omega)⟩, by rw [hl]; exact h1, ?_⟩
  · obtain ⟨ha, rfl⟩ := gsB_get hr
    obtain ⟨x, hx, e⟩ := tagsT_ex a ha
    refine ⟨fun hn => ?_, selN_nodup _ _ _, fun y => ?_⟩
    · have : (x : Int) ∈ selN (clsM M) (M.n + 1) a := selN_mem.2 ⟨x, hx, rfl, e⟩
      rw [hn] at this; cases this
    · rw [selN_mem]
      constructor
      · rintro ⟨z, h3, rfl, h4⟩
        exact ⟨z, by omega, rfl, by rw [av z h3, h4]⟩
      · rintro ⟨z, h3, rfl, h4⟩
        rw [av z (by omega)] at h4
        injection h4 with h4
        exact ⟨z, by omega, rfl, by omega⟩
  · rw [hl]
    refine HI.start hM (fun s hs => ?_) (fun x y hx hy => ?_) fun a j ha hj => h2 a j ha hj
    · rw [atN_of (av s (by omega))]; exact clsM_lt (by omega)
    · rw [atN_of (av x (by omega)), atN_of (av y (by omega))]; exact clsM_iff
theorem P221M_ok {w47 : World} {R : Lab → Rw Int} {H : Hab → Rw HS3} {of : List (Int × Int)} {Q : Value → World → Prop} (D : DmIn M next tags) (hn1 : n1 < w1.heap.size) (A : BA w1 w47 n m nof M R H b (M.n + 1) (fun _ => M.n + 1) (M.n + 1) (M.n + 1) of)
    (K : ∀ X Y s GS w', GpS w1.heap.size [] w1 w' n m M X Y s GS (fun _ _ _ => False) → Q (.pointer (some ⟨n, 0, none⟩)) w') : P221M (some ⟨n, 0, none⟩) n1 Q w47 := by
  obtain ⟨S0, P0, F0⟩ := A.toP
  have hm2 := D.m2
  have hn2 := D.n2
  have hTl := tagsT_len (M := M) (M.n + 1)
  have hGl : (H .gr).2.2.length = (tagsT M (M.n + 1)).length := A.bc.gl
  obtain ⟨X, hX⟩ : ∃ X, X = xB H := ⟨_, rfl⟩
  obtain ⟨Y, hY⟩ : ∃ Y, Y = yB b := ⟨_, rfl⟩
  obtain ⟨s0, hs0⟩ : ∃ s0, s0 = gpB R H := ⟨_, rfl⟩
  have e1 : s0.G = (H .gr).2.2 := by rw [hs0]; rfl
  have e2 : s0.at' = (R .at').2.2 := by rw [hs0]; rfl
  have e3 : s0.td = [] := by rw [hs0]; rfl
  rw [← hX, ← hY, ← hs0] at S0
  rw [← hs0, ← e1] at P0
  rw [← hX, ← hY, ← hs0] at F0
  unfold P221M
  refine NN_in <| A.bm.blk.ld' rfl <| opL_in <| Bd_e rfl ?_
  refine LoopP_in (fun mm us vs w' => ∃ (i : Nat) (s : GPS), us = [.int .i64 i] ∧ mm = (H .gr).2.2.length - i ∧ i ≤ (H .gr).2.2.length ∧ PW w1.heap.size [] w1 w' n m M.m X Y s ∧ PR w' (fpP n m s) s.G (gsB M) ∧ FB M w' (fpP n m s) X Y ∧ s.G = s0.G ∧ s.at' = s0.at' ∧
      (∀ p ∈ s.td, 0 ≤ p.1 ∧ p.1 < (i : Int) ∧ 0 ≤ p.2 ∧ p.2 < M.m) ∧ (∀ a j : Nat, a < i → j < M.m → ((a : Int), (j : Int)) ∈ s.td) ∧ s.td.length ≤ i * M.m) (H .gr).2.2.length
    ⟨0, s0, rfl, rfl, by omega, S0, P0, F0, rfl, rfl, by rw [e3]; simp, fun a j h => by omega, by rw [e3]; simp⟩ ?_
  clear S0 P0 F0
  rintro mm us vs w239 ⟨i, s, rfl, hmm, hi, S, P, F, g1, g2, h1, h2, h3⟩
  refine opI_in <| Bd_in fun b241 hb241 => If_in (fun hb => ?_) fun hb => ?_
  · have hil : i < (H .gr).2.2.length := by
      rw [hb241] at hb
      have : (i : Int) < (((H .gr).2.2.length : Nat) : Int) := of_decide_eq_true hb
      omega
    have hb3 : i * M.m ≤ 2 ^ 13 * 256 := Nat.mul_le_mul (by omega) hm2
    have C := f230_ok S (i : Int) (by omega) (by omega) (by omega)
    refine Ct.callD C (fun d hd => ?_) (fun d hd => ?_) fun v w' hv m3 => ?_
    · have e : d = n1 := by simpa using hd
      rw [e]; exact Nat.lt_of_lt_of_le hn1 S.md.size
    · have e : d = n1 := by simpa using hd
      rw [e]; intro hh; have := (S.flo _ hh).1; omega
    · obtain ⟨rfl, ta, tc, td, ml, nt, S2, t1, t2, t3, t4⟩ := hv
      refine opTu_in <| SzIs_in rfl ?_
      have gr : Grw w239 (fpP n m s) (fpP n m { s with ta := ta, tc := tc, td := td, ml := ml }) := fpP_new (NewO.refl _ _) (NewO.refl _ _) nt
      refine Bd_e (inc_i64 (by omega)) ⟨(H .gr).2.2.length - (i + 1), by omega, i + 1, _, rfl, rfl, by omega, S2, P.keep m3 (Grw.refl _ _) gr, F.keep m3 (Grw.refl _ _) gr, g1, g2, fun p hp => ?_, fun a j ha hj => ?_, ?_⟩
      · rcases t2 p hp with h | ⟨h4, h5, h6⟩
        · have := h1 p h; omega
        · omega
      · by_cases e : a = i
        · subst e; exact t3 j (by omega) (by omega)
        · exact t1 _ (h2 a j (by omega) hj)
      · show td.length ≤ (i + 1) * M.m
        rw [Nat.succ_mul]; omega
  · have hil : i = (H .gr).2.2.length := by
      have : ¬ (i : Int) < (((H .gr).2.2.length : Nat) : Int) := by rw [hb241] at hb; exact of_decide_eq_false hb
      omega
    refine K X Y s (gsB M) w239 ⟨S, ?_, P, F⟩
    refine GI.start D.ok (by rw [g2, e2]; exact A.bc.al) (by rw [g2, e2]; exact A.bc.av) (fun p hp => ?_) fun a j ha hj => ?_
    · have := h1 p hp; omega
    · exact h2 a j (by omega) hj
theorem P221O_ok {w42 : World} {R : Lab → Rw Int} {H : Hab → Rw HS3} {Q : Value → World → Prop} (D : DmIn M next tags) (hn1 : n1 < w1.heap.size) (hrow : RowAt w1 na 1 i1 next) (hrow2 : RowAt w1 ta 1 i1 tags) (A : BA w1 w42 n m nof M R H b 0 (fun _ => 0) 0 0 (ofM M 0))
    (K : ∀ X Y s GS w', GpS w1.heap.size [] w1 w' n m M X Y s GS (fun _ _ _ => False) → Q (.pointer (some ⟨n, 0, none⟩)) w') : P221O (M.m : Int) na next.length ta tags.length (M.n : Int) (some ⟨n, 0, none⟩) n1 nof Q ((M.n + 1 : Nat) : Int) w42 := by
  unfold P221O
  refine LoopP_in (fun mm us vs w' => ∃ (s : Nat) (R : Lab → Rw Int) (H : Hab → Rw HS3), us = [.int .i64 s] ∧ vs = [] ∧ mm = M.n + 1 - s ∧ s ≤ M.n + 1 ∧ BA w1 w' n m nof M R H b s (fun _ => s) s s (ofM M s)) (M.n + 1)
    ⟨0, R, H, rfl, rfl, rfl, by omega, A⟩ ?_
  clear A
  rintro mm us vs w47 ⟨s, R, H, rfl, rfl, rfl, hs, A⟩
  refine opI_in <| Bd_in fun b49 hb49 => If_in (fun hb => ?_) fun hb => ?_
  · have hsl : s < M.n + 1 := by
      rw [hb49] at hb
      have : (s : Int) < ((M.n + 1 : Nat) : Int) := of_decide_eq_true hb
      omega
    exact P221B_ok D hn1 hrow hrow2 (by omega) A fun R' H' w' A' => ⟨M.n + 1 - (s + 1), by omega, s + 1, R', H', rfl, rfl, rfl, by omega, A'⟩
  · have hsl : s = M.n + 1 := by
      have : ¬ (s : Int) < ((M.n + 1 : Nat) : Int) := by rw [hb49] at hb; exact of_decide_eq_false hb
      omega
    subst hsl
    exact P221M_ok D hn1 A K
theorem csB_b0 {mm : Int} {m : Nat} {R : Lab → Rw Int} {H : Hab → Rw HS3} {b : Rw HS3} {i : Nat} {x : HS3} : csB mm m R H (b.1, b.2.1, b.2.2.set i x) = csB mm m R H b := by
  unfold csB; simp
theorem P221K_ok {w8 : World} {a9 aa : Option Addr} {n11 ac : Nat} {A12 : Addr} {Q : Value → World → Prop} (D : DmIn M next tags) (hn1 : n1 < w1.heap.size) (hrow : RowAt w1 na 1 i1 next) (hrow2 : RowAt w1 ta 1 i1 tags) {R0 : Lab → Rw Int} (hR0 : R0 = upd (fun _ => (none, 0, [])) .at' (aa, ac, List.replicate (M.n + 1) 0))
    (S : BM w1 (setCells w8 (A12.add 2) 0 [.slice a9 M.m n11]) n m R0 (fun _ => (none, 0, [])) (a9, n11, List.replicate M.m (none, 0, 0)) (csB M.m m R0 (fun _ => (none, 0, [])) (a9, n11, List.replicate M.m (none, 0, 0))))
    (K : ∀ X Y s GS w', GpS w1.heap.size [] w1 w' n m M X Y s GS (fun _ _ _ => False) → Q (.pointer (some ⟨n, 0, none⟩)) w') : P221K (M.m : Int) na next.length ta tags.length (M.n : Int) (some ⟨n, 0, none⟩) n1 Q (M.m : Int) w8 a9 M.m n11 A12 := by
  have hm2 := D.m2
  have hn2 := D.n2
  have hRb : ∀ k s, R0 (.bk k s) = (none, 0, []) := fun k s => by rw [hR0, upd_ne _ _ (by simp)]
  have hR1 : ∀ a, R0 (.gr a) = (none, 0, []) := fun k => by rw [hR0, upd_ne _ _ (by simp)]
  have ne1 : ∀ {d : Nat}, w1.heap.size ≤ d → ¬ d ∈ [n1] := fun {d} h hh => by
    have e : d = n1 := by simpa using hh
    omega
  unfold P221K
  refine LoopP_in (fun mm us vs w' => ∃ (k : Nat) (H : Hab → Rw HS3) (b : Rw HS3), us = [.int .i64 k] ∧ mm = M.m - k ∧ k ≤ M.m ∧ BM w1 w' n m R0 H b (csB M.m m R0 H b) ∧ BH M R0 H b k ∧ H .nx = (none, 0, []) ∧ H .gr = (none, 0, [])) M.m
    ⟨0, _, _, rfl, rfl, by omega, S, ⟨by simp, fun k hk => by simp [hk, hdr], fun k hk => by omega, fun k hk => by omega, fun s hs => by simp at hs, fun a ha => by simp at ha⟩, rfl, rfl⟩ ?_
  clear S
  rintro mm us vs w22 ⟨k, H, b, rfl, hmm, hk, S, B, e1, e2⟩
  refine opI_in <| Bd_in fun b24 hb24 => If_in (fun hb => ?_) fun hb => ?_
  · have hkm : k < M.m := by
      rw [hb24] at hb
      have : (k : Int) < ((M.m : Nat) : Int) := of_decide_eq_true hb
      omega
    have dw : Md [] w22 w22.drew := Md_drew w22
    obtain ⟨w36, hrun, ho, hm⟩ := made242 (M.n + 1) w22.drew (by omega)
    have m36 : Md [] w22 w36 := dw.trans hm
    have hsz : w1.heap.size ≤ w22.drew.heap.size := S.md.size
    have hkb : k < b.2.2.length := by rw [B.bl]; exact hkm
    have h36 := S.chH (w' := w36) (.bk k) (m36.mono (by simp)) (ho.down hsz) (a := some ⟨w22.drew.heap.size, 0, none⟩) (fun A hA => .inr (by injection hA with hA; rw [← hA]; exact Nat.le_refl _))
    obtain ⟨q1, q2, S3, k3⟩ := h36.1.setB hkb (some ⟨w22.drew.heap.size, 0, none⟩, M.n + 1, M.n + 1)
    refine ⟨fun w' => Md [] w22 w', dw, NN_in <| Bd_e (inc_i64 (by omega)) ⟨_, fun w' h' => (S.blk.md h' (by simp)).ld' rfl rfl, opL_in ?_⟩⟩
    refine RunW_in hrun (fun d hd => hm.blk d ?_ (by simp)) <| opL_in ⟨m36, (S.fB.row enchE).ix hkb, ne1 q2, q1, Bd_e (inc_i64 (by omega)) ⟨M.m - (k + 1), by omega, k + 1, upd H (.bk k) (some ⟨w22.drew.heap.size, 0, none⟩, M.n + 1, List.replicate (M.n + 1) (none, 0, 0)), (b.1, b.2.1, b.2.2.set k (some ⟨w22.drew.heap.size, 0, none⟩, M.n + 1, M.n + 1)), rfl, rfl, by omega, ?_, ?_, ?_, ?_⟩⟩
    · have e : d = n1 := by simpa using hd
      rw [e]; omega
    · rw [csB_bk, csB_b0]
      exact S3
    · exact B.newK hkm _ _ (hRb k)
    · rw [upd_ne _ _ (by simp)]; exact e1
    · rw [upd_ne _ _ (by simp)]; exact e2
  · have hkm : k = M.m := by
      have : ¬ (k : Int) < ((M.m : Nat) : Int) := by rw [hb24] at hb; exact of_decide_eq_false hb
      omega
    subst hkm
    intro n41 w42 en ew
    subst en; subst ew
    have ma : Md [] w22 (w22.alloc (.map #[] 0)) := Md.alloc (M := []) _ _
    have hn := MapAt.new w22 vI vI (V := Int)
    obtain ⟨S2, k2⟩ := S.md0 ma
    refine Bd_e (inc_i64 (by omega)) (P221O_ok D hn1 hrow hrow2 ⟨S2, B, ⟨?_, fun x h => by omega, fun s h => by omega, fun a => ?_, fun a _ => hR1 a, fun k hk s => ?_, by rw [e1]; rfl, by rw [e2]; rfl⟩, hn, S.md.size, ?_⟩ K)
    · rw [hR0, upd_same]; simp
    · rw [hR1]; rfl
    · rw [hRb]; rfl
    · have := S.mO.lt; omega
theorem f221_Q {w : World} {nc tc : Nat} {Q : Value → World → Prop} (D : DmIn M next tags) (hrow : RowAt w na 1 i1 next) (hrow2 : RowAt w ta 1 i1 tags)
    (K : ∀ w1 n m X Y s GS w', GpS w1.heap.size [] w1 w' n m M X Y s GS (fun _ _ _ => False) → Md [] w w1 → Q (.pointer (some ⟨n, 0, none⟩)) w') : f221_vc (M.m : Int) na next.length nc ta tags.length tc Q w := by
  have hm2 := D.m2
  have hn2 := D.n2
  intro n1 hn1
  refine Bd_e (by rw [D.tl]) ?_
  obtain ⟨J, hJ⟩ : ∃ J : List Value → List Value → World → Prop, J = (fun us vs w' => ∃ (w1 : World) (n m : Nat) (aa : Option Addr) (ac : Nat), us = [.pointer (some ⟨n, 0, none⟩)] ∧ Md [] w w1 ∧ n1 < w1.heap.size ∧
    BM w1 w' n m (upd (fun _ => (none, 0, [])) .at' (aa, ac, List.replicate (M.n + 1) 0)) (fun _ => (none, 0, [])) (none, 0, []) (csB M.m m (upd (fun _ => (none, 0, [])) .at' (aa, ac, List.replicate (M.n + 1) 0)) (fun _ => (none, 0, [])) (none, 0, []))) := ⟨_, rfl⟩
  refine Jn_in J ?_ ?_
  · intro us vs w5 hj
    rw [hJ] at hj
    obtain ⟨w1, n, m, aa, ac, rfl, m1, hn1', S⟩ := hj
    obtain ⟨w8, hrun, ho, hm⟩ := made243 M.m w5 (by omega)
    have h8 := S.chB (w' := w8) (hm.mono (by simp)) (ho.down S.md.size)
    obtain ⟨_, S9, _⟩ := h8.1.put (j := 2) (by simp [csB]) (.slice (some ⟨w5.heap.size, 0, none⟩) M.m M.m)
    have hnn : n ≠ n1 := by have := S.nlo; omega
    refine opP_in <| RunW_in hrun (fun d hd => hm.blk d ?_ (by simp)) <| opL_in <| NN_in ⟨by simpa using hnn, by rw [Addr.add_lit]; exact h8.1.blk.wr (by simp [csB]), NN_in ?_⟩
    · have e : d = n1 := by simpa using hd
      rw [e]; have := S.md.size; omega
    · have e12 : (Addr.mk n 0 none).add 2 = ⟨n, 2, none⟩ := by rw [Addr.add_lit]
      have eS : (csB M.m m (upd (fun _ => (none, 0, [])) .at' (aa, ac, List.replicate (M.n + 1) 0)) (fun _ => (none, 0, [])) (none, 0, [])).set 2 (.slice (some ⟨w5.heap.size, 0, none⟩) M.m M.m) =
          csB M.m m (upd (fun _ => (none, 0, [])) .at' (aa, ac, List.replicate (M.n + 1) 0)) (fun _ => (none, 0, [])) (some ⟨w5.heap.size, 0, none⟩, M.m, List.replicate M.m (none, 0, 0)) := by unfold csB; simp
      rw [eS, ← e12] at S9
      refine Ld_in (v := .slice (some ⟨w5.heap.size, 0, none⟩) M.m M.m) ?_ <| opL_in <| Bd_e rfl ?_
      · have := S9.blk.cell (j := 2) (v := .slice (some ⟨w5.heap.size, 0, none⟩) M.m M.m) (by unfold csB; simp)
        rw [← e12] at this
        exact this
      · exact P221K_ok D hn1' (hrow.md m1) (hrow2.md m1) rfl S9 fun X Y s GS w' G => K w1 n m X Y s GS w' G m1
  · intro w247 m247 hL
    have hn1' : n1 < w247.heap.size := hL n1 (by simp)
    have dw : Md [] w247 w247.drew := Md_drew w247
    have mk : ∀ (w3 : World) (aa : Option Addr) (ac m : Nat), Md [] w247 w3 → OwnL w3 w247.heap.size 3 1 i1 aa ac (List.replicate (M.n + 1) (0 : Int)) → MapAt w3 m tV vI ([] : List ((Int × Int) × Int)) → w247.heap.size ≤ m →
        J [.pointer (some ⟨w3.heap.size, 0, none⟩)] [] (w3.alloc (.cells #[.int .i64 M.m, .slice none 0 0, .slice none 0 0, .slice none 0 0, .slice aa (M.n + 1) ac, .slice none 0 0, .map (some m)] 247)) := fun w3 aa ac m h1 h2 h3 h4 => by
      have ma : Md [] w3 (w3.alloc (.cells #[.int .i64 M.m, .slice none 0 0, .slice none 0 0, .slice none 0 0, .slice aa (M.n + 1) ac, .slice none 0 0, .map (some m)] 247)) := Md.alloc (M := []) _ _
      rw [hJ]
      refine ⟨w247, w3.heap.size, m, aa, ac, rfl, m247, hn1', ⟨h1.trans ma, ?_, h1.size, h4, h3.md ma (by simp), ?_, Fam.none _ _ _ _, OwnL.nil _ _ _ _ _⟩⟩
      · unfold Blk csB
        rw [upd_same]
        simp only [List.length_replicate, List.length_nil]
        exact heap_alloc_new w3 _
      · exact (Fam.none w247 _ _ _).upd ((h1.trans ma).mono (by simp)) (h2.md ma) fun A hA => .inr (h2.lt hA).1
    refine ⟨fun w' => Md [] w247 w', dw, Bd_e (inc_i64 (by omega)) ⟨?_, ?_⟩⟩
    · obtain ⟨w3, hrun, ho, hm⟩ := made52 (M.n + 1) w247.drew (by omega)
      refine RunW_in hrun (fun d hd => hm.blk d ?_ (by simp)) <| opL_in ⟨dw.trans hm, ?_⟩
      · have e : d = n1 := by simpa using hd
        rw [e]; exact hn1'
      · intro n255 w256 e1 e2
        subst e1; subst e2
        have ma : Md [] w3 (w3.alloc (.map #[] 0)) := Md.alloc (M := []) _ _
        refine ⟨(dw.trans hm).trans ma, ?_⟩
        intro n257 w258 e1 e2
        subst e1; subst e2
        refine ⟨((dw.trans hm).trans ma).trans (Md.alloc (M := []) _ _), ?_⟩
        exact mk _ _ _ _ ((dw.trans hm).trans ma) (ho.md ma) (MapAt.new w3 tV vI) (dw.trans hm).size
    · intro n259 w260 e1 e2
      subst e1; subst e2
      have ma : Md [] w247.drew (w247.drew.alloc (.map #[] 0)) := Md.alloc (M := []) _ _
      obtain ⟨w3, hrun, ho, hm⟩ := made52 (M.n + 1) (w247.drew.alloc (.map #[] 0)) (by omega)
      refine ⟨dw.trans ma, RunW_in hrun (fun d hd => hm.blk d ?_ (by simp)) <| opL_in ⟨(dw.trans ma).trans hm, ?_⟩⟩
      · have e : d = n1 := by simpa using hd
        rw [e]; exact Nat.lt_of_lt_of_le hn1' (dw.trans ma).size
      · intro n266 w267 e1 e2
        subst e1; subst e2
        refine ⟨((dw.trans ma).trans hm).trans (Md.alloc (M := []) _ _), ?_⟩
        exact mk _ _ _ _ ((dw.trans ma).trans hm) (ho.down (dw.trans ma).size) ((MapAt.new w247.drew tV vI).md hm (by simp)) (Nat.le_refl _)
/-- Behind begin the groups are those of a tag each; all are to be held. -/
theorem f221_ok {w : World} {nc tc : Nat} (D : DmIn M next tags) (hrow : RowAt w na 1 i1 next) (hrow2 : RowAt w ta 1 i1 tags) :
    Ct Try.prog 221 #[.agg #[.int .i64 M.m, .slice na next.length nc, .slice ta tags.length tc]] w fun v w' => ∃ (w1 : World) (n m : Nat) (X Y : Value) (s : GPS) (GS : List (List Int)), v = .pointer (some ⟨n, 0, none⟩) ∧ GpS w1.heap.size [] w1 w' n m M X Y s GS (fun _ _ _ => False) ∧ Md [] w w1 := by
  apply f221_in
  exact f221_Q D hrow hrow2 fun w1 n m X Y s GS w' G h => ⟨w1, n, m, X, Y, s, GS, rfl, G, h⟩
end
end Fk
set_option linter.unusedVariables false
set_option linter.unusedSimpArgs false
set_option linter.unusedSectionVars false
set_option maxRecDepth 100000
set_option maxHeartbeats 1000000
namespace Fk
open Go Go.Proofs Go.RowKit
def dMch (dm : Int) (next tags : List Int) : Mch where
  n := tags.length
  m := dm.toNat
  go s k := if s < tags.length then (if 0 ≤ next.getD (s * dm.toNat + k) (-1) then (next.getD (s * dm.toNat + k) (-1)).toNat else tags.length) else tags.length
  tag s := if s < tags.length then tags.getD s (-1) else -1
theorem dIn_of {dm : Int} {next tags : List Int} (h : DrOk dm next tags) (hl : tags.length < 2 ^ 12) : DmIn (dMch dm next tags) next tags ∧ ((dMch dm next tags).m : Int) = dm := by
  have h1 := h.m1
  have h2 := h.m2
  have em : ((dMch dm next tags).m : Int) = dm := by show ((dm.toNat : Nat) : Int) = dm; omega
  have hnl : next.length = tags.length * dm.toNat := by
    have := h.nl
    rw [← em] at this
    have e : ((tags.length * dm.toNat : Nat) : Int) = ((dMch dm next tags).m : Int) * (tags.length : Int) := by
      rw [Int.natCast_mul, Int.mul_comm]; rfl
    omega
  have hst : ∀ s k, s < tags.length → k < dm.toNat → s * dm.toNat + k < next.length := fun s k hs hk => by
    rw [hnl]
    have : (s + 1) * dm.toNat ≤ tags.length * dm.toNat := Nat.mul_le_mul_right _ hs
    rw [Nat.succ_mul] at this
    omega
  refine ⟨⟨⟨fun s hs k hk => ?_, fun k hk => ?_⟩, hnl, rfl, by show 1 ≤ dm.toNat; omega, by show dm.toNat ≤ 256; omega, h.t1, hl, fun s k hs hk hx => ?_, fun k => ?_, fun s hs => ?_, ?_⟩, em⟩
  · show (if s < tags.length then _ else _) ≤ tags.length
    split
    · rename_i hs'
      have hlt := hst s k hs' hk
      rw [List.getD_eq_getElem?_getD, List.getElem?_eq_getElem hlt, Option.getD_some]
      have := (h.nxt _ (List.getElem_mem hlt)).2
      split
      · omega
      · exact Nat.le_refl _
    · exact Nat.le_refl _
  · show (if tags.length < tags.length then _ else _) = tags.length
    rw [if_neg (Nat.lt_irrefl _)]
  · have hx' : s * dm.toNat + k < next.length := hx
    show (if s < tags.length then (if 0 ≤ next.getD (s * dm.toNat + k) (-1) then (next.getD (s * dm.toNat + k) (-1)).toNat else tags.length) else tags.length) = if 0 ≤ next[s * dm.toNat + k]'hx' then (next[s * dm.toNat + k]'hx').toNat else tags.length
    rw [if_pos (show s < tags.length from hs), List.getD_eq_getElem?_getD, List.getElem?_eq_getElem hx', Option.getD_some]
  · show (if tags.length < tags.length then _ else _) = tags.length
    rw [if_neg (Nat.lt_irrefl _)]
  · show (if s < tags.length then _ else _) = _
    rw [if_pos hs, List.getD_eq_getElem?_getD, List.getElem?_eq_getElem hs]; rfl
  · show (if tags.length < tags.length then _ else _) = _
    rw [if_neg (Nat.lt_irrefl _)]
structure PD (M : Mch) (w : World) (n : Nat) (at' : List Int) : Prop where
  al : at'.length = M.n + 1
  iff : ∀ x y, x ≤ M.n → y ≤ M.n → (at'[x]? = at'[y]? ↔ M.alike x y)
  mem : ∃ (cs : List Value) (aa xa : Option Addr) (ac xc : Nat) (H : List HS3), Blk w n 247 cs ∧ cs[4]? = some (.slice aa (M.n + 1) ac) ∧ RowAt w aa 1 i1 at' ∧ cs[1]? = some (.slice xa (M.n + 1) xc) ∧ H.length = M.n + 1 ∧ RowAt w xa 1 hE H ∧
    ∀ s q, H[s]? = some q → q.2.1 = M.m ∧ RowAt w q.1 1 i1 (rowI M s)
theorem PD.md {M : Mch} {w w' : World} {n : Nat} {at' : List Int} (h : PD M w n at') (hm : Md [] w w') : PD M w' n at' := by
  obtain ⟨cs, aa, xa, ac, xc, H, h1, h2, h3, h4, h5, h6, h7⟩ := h.mem
  exact ⟨h.al, h.iff, cs, aa, xa, ac, xc, H, h1.md hm (by simp), h2, h3.md hm, h4, h5, h6.md hm, fun s q hq => ⟨(h7 s q hq).1, (h7 s q hq).2.md hm⟩⟩
theorem GpS.pd {gb : Nat} {L : List Nat} {w0 w : World} {n m : Nat} {M : Mch} {X Y : Value} {s : GPS} {GS : List (List Int)} (hM : M.ok) (S : GpS gb L w0 w n m M X Y s GS fun _ _ _ => False) (ht : s.td = []) : PD M w n s.at' := by
  obtain ⟨a, c, H, h1, h2, h3, h4⟩ := S.fb.nx
  refine ⟨S.gi.al, fun x y hx hy => ?_, pL M.m X Y m s, s.aa, a, s.ac, c, H, S.pw.blk, by rw [← S.gi.al]; rfl, S.pw.aO.row enci1, by rw [← h1]; rfl, h2, h3.1, fun s q hq => ⟨(h4 s q hq).1, (h4 s q hq).2.1⟩⟩
  rw [← S.gi.hi.final hM (fun a j _ h => by rw [ht] at h; cases h) x y hx hy]
  obtain ⟨a1, _, e1⟩ := S.gi.ar x hx
  obtain ⟨a2, _, e2⟩ := S.gi.ar y hy
  rw [atN_of e1, atN_of e2, e1, e2]
  constructor
  · intro h; injection h with h; omega
  · intro h; rw [h]
section
variable {M : Mch} {next tags : List Int} {na ta : Option Addr}
theorem f188_ok {w : World} {nc tc : Nat} (D : DmIn M next tags) (hrow : RowAt w na 1 i1 next) (hrow2 : RowAt w ta 1 i1 tags) :
    Ct Try.prog 188 #[.agg #[.int .i64 M.m, .slice na next.length nc, .slice ta tags.length tc]] w fun v w' => (∃ (n : Nat) (at' : List Int), v = .pointer (some ⟨n, 0, none⟩) ∧ PD M w' n at') ∧ Md [] w w' := by
  apply f188_in
  intro n1 hn1 w2 m2 hL2
  have hn12 : n1 < w2.heap.size := hL2 n1 (by simp)
  have h221 : Ct Try.prog 221 #[.agg #[.int .i64 M.m, .slice na next.length nc, .slice ta tags.length tc]] w2 fun v w' => (∃ (w1 : World) (n m : Nat) (X Y : Value) (s : GPS) (GS : List (List Int)), v = .pointer (some ⟨n, 0, none⟩) ∧ GpS w1.heap.size [] w1 w' n m M X Y s GS (fun _ _ _ => False) ∧ Md [] w2 w1) ∧ Md [] w2 w' :=
    (f221_ok D (hrow.md m2) (hrow2.md m2)).mono fun v w' h => by
      obtain ⟨w1, n, m, X, Y, s, GS, e, S, h1⟩ := h
      exact ⟨⟨w1, n, m, X, Y, s, GS, e, S, h1⟩, h1.trans S.pw.md⟩
  refine Ct.call h221 (by simpa using hn12) fun v w4 hv m4 => ?_
  obtain ⟨w1, n, m, X, Y, s, GS, rfl, S, h1⟩ := hv
  refine opP_in <| Ct.callD (f222_ok D.ok D.m2 D.n2 S) (fun d hd => ?_) (fun d hd hh => ?_) fun v w7 hv m7 => ?_
  · have e : d = n1 := by simpa using hd
    rw [e]; exact Nat.lt_of_lt_of_le hn12 m4.size
  · have e : d = n1 := by simpa using hd
    have h2 := (S.pw.flo _ hh).1
    have h3 := h1.size
    omega
  · obtain ⟨rfl, s', GS', S', ht⟩ := hv
    exact opTu_in <| SzIs_in rfl ⟨⟨n, s'.at', rfl, S'.pd D.ok ht⟩, (m2.trans h1).trans S'.pw.md⟩
end
def stD (tags : List Int) (a : Int) : Nat := if a < 0 then tags.length else a.toNat
end Fk
set_option linter.unusedVariables false
set_option linter.unusedSimpArgs false
set_option maxRecDepth 100000
set_option maxHeartbeats 1000000
namespace Fk
noncomputable def al (M : Mch) (x y : Nat) : Bool := @decide (M.alike x y) (Classical.propDecidable _)
theorem al_iff {M : Mch} {x y : Nat} : al M x y = true ↔ M.alike x y := by
  unfold al; exact @decide_eq_true_iff _ (Classical.propDecidable _)
noncomputable def lsAt (M : Mch) (l : List Nat) (t : Nat) : Nat := (l.map fun x => al M x t).idxOf true
noncomputable def lsStep (M : Mch) (p : List Nat × List Int) (t : Nat) : List Nat × List Int :=
  if al M t M.n = true then (p.1, p.2 ++ [-1]) else (if lsAt M p.1 t < p.1.length then p.1 else p.1 ++ [t], p.2 ++ [(lsAt M p.1 t : Int)])
noncomputable def lsRow (M : Mch) (s : Nat) (p : List Nat × List Int) : Nat → List Nat × List Int
  | 0 => p
  | k + 1 => lsStep M (lsRow M s p k) (M.go s k)
noncomputable def ls (M : Mch) : Nat → List Nat × List Int
  | 0 => ([0], [])
  | i + 1 => match (ls M i).1[i]? with
    | some s => lsRow M s (ls M i) M.m
    | none => ls M i
noncomputable def leastP (M : Mch) : List Nat × List Int := ls M (M.n + 1)
theorem lsAt_get {M : Mch} {l : List Nat} {t : Nat} (h : lsAt M l t < l.length) : ∃ x, l[lsAt M l t]? = some x ∧ M.alike x t := by
  have h' : (l.map fun x => al M x t).idxOf true < (l.map fun x => al M x t).length := by rw [List.length_map]; exact h
  have h2 := List.getElem_idxOf h'
  rw [List.getElem_map] at h2
  exact ⟨_, List.getElem?_eq_getElem h, al_iff.1 h2⟩
theorem lsAt_le {M : Mch} {l : List Nat} {t : Nat} : lsAt M l t ≤ l.length := by
  have := List.idxOf_le_length (a := true) (l := l.map fun x => al M x t)
  rwa [List.length_map] at this
theorem lsAt_none {M : Mch} {l : List Nat} {t : Nat} (h : ¬ lsAt M l t < l.length) : lsAt M l t = l.length ∧ ∀ x ∈ l, ¬ M.alike x t := by
  refine ⟨Nat.le_antisymm lsAt_le (by omega), fun x hx ha => h ?_⟩
  have : true ∈ l.map fun x => al M x t := List.mem_map.2 ⟨x, hx, al_iff.2 ha⟩
  have := List.idxOf_lt_length_of_mem this
  rwa [List.length_map] at this
/-- Met in order. -/
def metL : List Int → Int → Option Int
  | [], m => some m
  | v :: l, m => if v > m + 1 then none else metL l (max m v)
theorem metL_snoc : ∀ (l : List Int) (m v : Int), metL (l ++ [v]) m = (metL l m).bind fun m' => if v > m' + 1 then none else some (max m' v)
  | [], m, v => by simp [metL]
  | u :: l, m, v => by
    simp only [List.cons_append, metL]
    split
    · rfl
    · exact metL_snoc l _ v
/-- What is noted for one that comes to 't'. -/
def EN (M : Mch) (l : List Nat) (v : Int) (t : Nat) : Prop := (v = -1 ∧ M.alike t M.n) ∨ ∃ (j x : Nat), v = j ∧ l[j]? = some x ∧ M.alike x t ∧ ¬ M.alike t M.n
theorem EN.app {M : Mch} {l l' : List Nat} {v : Int} {t : Nat} (h : EN M l v t) : EN M (l ++ l') v t := by
  rcases h with h | ⟨j, x, h1, h2, h3⟩
  · exact .inl h
  · exact .inr ⟨j, x, h1, by rw [List.getElem?_append_left (List.getElem?_eq_some_iff.1 h2).1]; exact h2, h3⟩
structure LI (M : Mch) (p : List Nat × List Int) (c : Nat) : Prop where
  h0 : p.1[0]? = some 0
  lt : ∀ x ∈ p.1, x < M.n
  pw : ∀ (i j x y : Nat), p.1[i]? = some x → p.1[j]? = some y → M.alike x y → i = j
  nd : ∀ (j x : Nat), p.1[j]? = some x → M.alike x M.n → j = 0
  met : metL p.2 0 = some ((p.1.length : Int) - 1)
  len : p.2.length = c
  ent : ∀ (q : Nat) (v : Int), p.2[q]? = some v → ∃ s, p.1[q / M.m]? = some s ∧ EN M p.1 v (M.go s (q % M.m))
section
variable {M : Mch} {p : List Nat × List Int} {c : Nat}
theorem LI.pos (h : LI M p c) : 0 < p.1.length := (List.getElem?_eq_some_iff.1 h.h0).1
theorem LI.bound (h : LI M p c) : p.1.length ≤ M.n := by
  have hn : p.1.Nodup := by
    unfold List.Nodup
    rw [List.pairwise_iff_getElem]
    intro i j hi hj hij e
    have := h.pw i j _ _ (List.getElem?_eq_getElem hi) (List.getElem?_eq_getElem hj) (by rw [e]; exact alike_refl _)
    omega
  have sub : p.1 ⊆ List.range M.n := fun x hx => List.mem_range.2 (h.lt x hx)
  have := List.Nodup.length_le_of_subset' hn sub
  simpa using this
where List.Nodup.length_le_of_subset' : ∀ {l r : List Nat}, l.Nodup → l ⊆ r → l.length ≤ r.length := by
        intro l
        induction l with
        | nil => intro r _ _; simp
        | cons a l ih =>
          intro r hn hs
          rw [List.nodup_cons] at hn
          have ha : a ∈ r := hs (by simp)
          have := ih (r := r.erase a) hn.2 (fun x hx => by
            have hne : x ≠ a := fun e => hn.1 (e ▸ hx)
            exact (List.mem_erase_of_ne hne).2 (hs (List.mem_cons_of_mem _ hx)))
          rw [List.length_erase_of_mem ha] at this
          have := List.length_pos_of_mem ha
          simp only [List.length_cons]
          omega
theorem LI.step (hM : M.ok) (h : LI M p c) {i k s : Nat} (hk : k < M.m) (hc : c = i * M.m + k) (hs : p.1[i]? = some s) : LI M (lsStep M p (M.go s k)) (c + 1) ∧ ∃ l', (lsStep M p (M.go s k)).1 = p.1 ++ l' := by
  have hm0 : 0 < M.m := by omega
  have hdiv : c / M.m = i := by rw [hc, Nat.mul_comm, Nat.mul_add_div hm0, Nat.div_eq_of_lt hk, Nat.add_zero]
  have hmod : c % M.m = k := by rw [hc, Nat.mul_comm, Nat.mul_add_mod, Nat.mod_eq_of_lt hk]
  have hsl := h.lt s (List.mem_of_getElem? hs)
  have htn := hM.st s (by omega) k hk
  have hp := h.pos
  have ent : ∀ (l' : List Nat) (v0 : Int), EN M (p.1 ++ l') v0 (M.go s k) → ∀ (q : Nat) (v : Int), (p.2 ++ [v0])[q]? = some v → ∃ s, (p.1 ++ l')[q / M.m]? = some s ∧ EN M (p.1 ++ l') v (M.go s (q % M.m)) := fun l' v0 hv0 q v hq => by
    by_cases e : q = p.2.length
    · subst e
      rw [List.getElem?_append_right (Nat.le_refl _)] at hq
      simp at hq
      rw [h.len, hdiv, hmod]
      refine ⟨s, by rw [List.getElem?_append_left (List.getElem?_eq_some_iff.1 hs).1]; exact hs, ?_⟩
      rw [← hq]; exact hv0
    · have hql : q < p.2.length := by have := (List.getElem?_eq_some_iff.1 hq).1; simp at this; omega
      rw [List.getElem?_append_left hql] at hq
      obtain ⟨s', h1, h2⟩ := h.ent q v hq
      exact ⟨s', by rw [List.getElem?_append_left (List.getElem?_eq_some_iff.1 h1).1]; exact h1, h2.app⟩
  unfold lsStep
  by_cases c1 : al M (M.go s k) M.n = true
  · rw [if_pos c1]
    have e0 := ent [] (-1) (.inl ⟨rfl, al_iff.1 c1⟩)
    rw [List.append_nil] at e0
    refine ⟨⟨h.h0, h.lt, h.pw, h.nd, ?_, by simp [h.len], e0⟩, [], by simp⟩
    show metL (p.2 ++ [-1]) 0 = _
    rw [metL_snoc, h.met]
    show (if (-1 : Int) > (p.1.length : Int) - 1 + 1 then none else some (max ((p.1.length : Int) - 1) (-1))) = _
    rw [if_neg (by omega)]
    congr 1
    show max ((p.1.length : Int) - 1) (-1) = (p.1.length : Int) - 1
    omega
  · rw [if_neg c1]
    have c1' : ¬ M.alike (M.go s k) M.n := fun hh => c1 (al_iff.2 hh)
    by_cases c2 : lsAt M p.1 (M.go s k) < p.1.length
    · rw [if_pos c2]
      obtain ⟨x, hx, ha⟩ := lsAt_get c2
      have e0 := ent [] (lsAt M p.1 (M.go s k)) (.inr ⟨_, x, rfl, by rw [List.append_nil]; exact hx, ha, c1'⟩)
      rw [List.append_nil] at e0
      refine ⟨⟨h.h0, h.lt, h.pw, h.nd, ?_, by simp [h.len], e0⟩, [], by simp⟩
      show metL (p.2 ++ [(lsAt M p.1 (M.go s k) : Int)]) 0 = _
      rw [metL_snoc, h.met]
      show (if (lsAt M p.1 (M.go s k) : Int) > (p.1.length : Int) - 1 + 1 then none else some (max ((p.1.length : Int) - 1) (lsAt M p.1 (M.go s k) : Int))) = _
      rw [if_neg (by omega)]
      congr 1
      show max ((p.1.length : Int) - 1) (lsAt M p.1 (M.go s k) : Int) = (p.1.length : Int) - 1
      omega
    · rw [if_neg c2]
      obtain ⟨e1, hno⟩ := lsAt_none c2
      rw [e1]
      have hlt : M.go s k < M.n := by
        rcases Nat.lt_or_ge (M.go s k) M.n with hh | hh
        · exact hh
        · have : M.go s k = M.n := by omega
          exact absurd (by rw [this]; exact alike_refl _) c1'
      refine ⟨⟨?_, fun x hx => ?_, fun a b x y hx hy ha => ?_, fun j x hx ha => ?_, ?_, by simp [h.len], ent [M.go s k] _ (.inr ⟨_, M.go s k, rfl, by rw [List.getElem?_append_right (Nat.le_refl _)]; simp, alike_refl _, c1'⟩)⟩, _, rfl⟩
      · show (p.1 ++ [M.go s k])[0]? = some 0
        rw [List.getElem?_append_left hp]; exact h.h0
      · rcases List.mem_append.1 hx with hx | hx
        · exact h.lt x hx
        · rw [List.mem_singleton] at hx; rw [hx]; exact hlt
      · have cs : ∀ (a x : Nat), (p.1 ++ [M.go s k])[a]? = some x → p.1[a]? = some x ∨ (a = p.1.length ∧ x = M.go s k) := fun a x hx => by
          by_cases e : a = p.1.length
          · subst e
            rw [List.getElem?_append_right (Nat.le_refl _)] at hx
            simp at hx
            exact .inr ⟨rfl, hx.symm⟩
          · have hal : a < p.1.length := by have := (List.getElem?_eq_some_iff.1 hx).1; simp at this; omega
            rw [List.getElem?_append_left hal] at hx
            exact .inl hx
        rcases cs a x hx with hx | ⟨ea, ex⟩ <;> rcases cs b y hy with hy | ⟨eb, ey⟩
        · exact h.pw a b x y hx hy ha
        · exact absurd (by rw [← ey]; exact ha) (hno x (List.mem_of_getElem? hx))
        · exact absurd (by rw [← ex]; exact alike_symm ha) (hno y (List.mem_of_getElem? hy))
        · omega
      · by_cases e : j = p.1.length
        · subst e
          change (p.1 ++ [M.go s k])[p.1.length]? = some x at hx
          rw [List.getElem?_append_right (Nat.le_refl _)] at hx
          simp at hx
          exact absurd (by rw [hx]; exact ha) c1'
        · have hal : j < p.1.length := by have := (List.getElem?_eq_some_iff.1 hx).1; simp at this; omega
          change (p.1 ++ [M.go s k])[j]? = some x at hx
          rw [List.getElem?_append_left hal] at hx
          exact h.nd j x hx ha
      · show metL (p.2 ++ [(p.1.length : Int)]) 0 = some (((p.1 ++ [M.go s k]).length : Int) - 1)
        rw [metL_snoc, h.met]
        show (if (p.1.length : Int) > (p.1.length : Int) - 1 + 1 then none else some (max ((p.1.length : Int) - 1) (p.1.length : Int))) = _
        rw [if_neg (by omega)]
        congr 1
        simp
        omega
theorem LI.row (hM : M.ok) {i s : Nat} (h : LI M p (i * M.m)) (hs : p.1[i]? = some s) : ∀ k, k ≤ M.m → LI M (lsRow M s p k) (i * M.m + k) ∧ ∃ l', (lsRow M s p k).1 = p.1 ++ l'
  | 0, _ => ⟨h, [], by simp [lsRow]⟩
  | k + 1, hk => by
    obtain ⟨h1, l1, e1⟩ := LI.row hM h hs k (by omega)
    have hs' : (lsRow M s p k).1[i]? = some s := by rw [e1, List.getElem?_append_left (List.getElem?_eq_some_iff.1 hs).1]; exact hs
    obtain ⟨h2, l2, e2⟩ := h1.step hM (by omega) rfl hs'
    exact ⟨h2, l1 ++ l2, by show (lsStep M (lsRow M s p k) (M.go s k)).1 = _; rw [e2, e1, List.append_assoc]⟩
theorem LI.start (hn : 1 ≤ M.n) : LI M ([0], []) 0 :=
  ⟨rfl, by simp; omega, fun i j x y hx hy _ => by
    have h1 := (List.getElem?_eq_some_iff.1 hx).1
    have h2 := (List.getElem?_eq_some_iff.1 hy).1
    simp at h1 h2; omega, fun j x hx _ => by have h1 := (List.getElem?_eq_some_iff.1 hx).1; simp at h1; omega, by simp [metL], rfl, by simp⟩
theorem ls_succ {i s : Nat} (hs : (ls M i).1[i]? = some s) : ls M (i + 1) = lsRow M s (ls M i) M.m := by
  simp only [ls, hs]
theorem ls_next (hM : M.ok) {i : Nat} (h : LI M (ls M i) (i * M.m)) (hi : i < (ls M i).1.length) : LI M (ls M (i + 1)) ((i + 1) * M.m) ∧ (ls M i).1.length ≤ (ls M (i + 1)).1.length := by
  have hs := List.getElem?_eq_getElem hi
  rw [ls_succ hs, Nat.succ_mul]
  obtain ⟨h1, l', e⟩ := h.row hM hs M.m (Nat.le_refl _)
  exact ⟨h1, by rw [e]; simp⟩
theorem ls_stay {i : Nat} (h : (ls M i).1.length ≤ i) : ∀ d, ls M (i + d) = ls M i
  | 0 => rfl
  | d + 1 => by
    have ih := ls_stay h d
    show ls M ((i + d) + 1) = _
    simp only [ls]
    rw [List.getElem?_eq_none (by rw [ih]; omega)]
    exact ih
theorem ls_end {i : Nat} (h : (ls M i).1.length ≤ i) (hi : i ≤ M.n + 1) : leastP M = ls M i := by
  have := ls_stay h (M.n + 1 - i)
  unfold leastP
  rw [← this]
  congr 1
  omega
theorem ls_all (hM : M.ok) (hn : 1 ≤ M.n) : ∀ i, (i ≤ (ls M i).1.length ∧ LI M (ls M i) (i * M.m)) ∨ ∃ N, N ≤ i ∧ ls M i = ls M N ∧ N = (ls M N).1.length ∧ LI M (ls M N) (N * M.m)
  | 0 => .inl ⟨by omega, by rw [Nat.zero_mul]; exact LI.start hn⟩
  | i + 1 => by
    rcases ls_all hM hn i with ⟨h1, h2⟩ | ⟨N, h1, h2, h3, h4⟩
    · by_cases c : i < (ls M i).1.length
      · obtain ⟨h3, h4⟩ := ls_next hM h2 c
        exact .inl ⟨by omega, h3⟩
      · exact .inr ⟨i, by omega, ls_stay (by omega) 1, by omega, h2⟩
    · refine .inr ⟨N, by omega, ?_, h3, h4⟩
      have := ls_stay (M := M) (i := N) (by omega) (i + 1 - N)
      rw [show N + (i + 1 - N) = i + 1 by omega] at this
      exact this
theorem leastP_LI (hM : M.ok) (hn : 1 ≤ M.n) : LI M (leastP M) ((leastP M).1.length * M.m) := by
  rcases ls_all hM hn (M.n + 1) with ⟨h1, h2⟩ | ⟨N, h1, h2, h3, h4⟩
  · have := h2.bound
    omega
  · unfold leastP
    rw [h2, ← h3]
    exact h4
end
def Eqv (M N : Mch) (s t : Nat) : Prop := ∀ ks : List Nat, (∀ k ∈ ks, k < M.m) → M.tag (M.run ks s) = N.tag (N.run ks t)
section
variable {M N : Mch}
theorem Eqv.go {s t k : Nat} (h : Eqv M N s t) (hk : k < M.m) : Eqv M N (M.go s k) (N.go t k) := fun ks hks =>
  h (k :: ks) (fun j hj => by
    rcases List.mem_cons.1 hj with rfl | hj
    · exact hk
    · exact hks j hj)
theorem Eqv.alike (hm : M.m = N.m) {s t s' t' : Nat} (h : Eqv M N s s') (h2 : Eqv M N t t') : M.alike s t ↔ N.alike s' t' :=
  ⟨fun ha ks hk => by rw [← hm] at hk; rw [← h ks hk, ← h2 ks hk]; exact ha ks hk, fun ha ks hk => by rw [h ks hk, h2 ks hk]; exact ha ks (by rw [← hm]; exact hk)⟩
theorem Eqv.al (hm : M.m = N.m) {s t s' t' : Nat} (h : Eqv M N s s') (h2 : Eqv M N t t') : Fk.al M s t = Fk.al N s' t' := by
  rw [Bool.eq_iff_iff, al_iff, al_iff]; exact h.alike hm h2
theorem Eqv.of {R : Nat → Nat → Prop} (h1 : ∀ s t, R s t → M.tag s = N.tag t) (h2 : ∀ s t k, R s t → k < M.m → R (M.go s k) (N.go t k)) : ∀ s t, R s t → Eqv M N s t := by
  intro s t h ks hks
  induction ks generalizing s t with
  | nil => exact h1 s t h
  | cons k ks ih => exact ih _ _ (h2 s t k h (hks k (by simp))) fun j hj => hks j (by simp [hj])
def SimP (M N : Mch) (p q : List Nat × List Int) : Prop := p.2 = q.2 ∧ p.1.length = q.1.length ∧ ∀ (j x y : Nat), p.1[j]? = some x → q.1[j]? = some y → Eqv M N x y
theorem SimP.at (hm : M.m = N.m) {p q : List Nat × List Int} (h : SimP M N p q) {s t : Nat} (ht : Eqv M N s t) : lsAt M p.1 s = lsAt N q.1 t := by
  unfold lsAt
  congr 1
  apply List.ext_getElem?
  intro j
  rw [List.getElem?_map, List.getElem?_map]
  rcases Nat.lt_or_ge j p.1.length with hj | hj
  · have hj2 : j < q.1.length := by rw [← h.2.1]; exact hj
    rw [List.getElem?_eq_getElem hj, List.getElem?_eq_getElem hj2]
    exact congrArg some ((h.2.2 j _ _ (List.getElem?_eq_getElem hj) (List.getElem?_eq_getElem hj2)).al hm ht)
  · rw [List.getElem?_eq_none hj, List.getElem?_eq_none (by rw [← h.2.1]; exact hj)]; rfl
theorem SimP.step (hm : M.m = N.m) (hd : Eqv M N M.n N.n) {p q : List Nat × List Int} (h : SimP M N p q) {s t : Nat} (ht : Eqv M N s t) : SimP M N (lsStep M p s) (lsStep N q t) := by
  unfold lsStep
  rw [← h.at hm ht, ← ht.al hm hd, ← h.1, ← h.2.1]
  by_cases c : Fk.al M s M.n = true
  · rw [if_pos c, if_pos c]; exact ⟨rfl, h.2⟩
  · rw [if_neg c, if_neg c]
    by_cases c2 : lsAt M p.1 s < p.1.length
    · rw [if_pos c2, if_pos c2]; exact ⟨rfl, h.2⟩
    · rw [if_neg c2, if_neg c2]
      refine ⟨rfl, by simp [h.2.1], fun j x y hx hy => ?_⟩
      change (p.1 ++ [s])[j]? = some x at hx
      change (q.1 ++ [t])[j]? = some y at hy
      by_cases e : j < p.1.length
      · rw [List.getElem?_append_left e] at hx
        rw [List.getElem?_append_left (by rw [← h.2.1]; exact e)] at hy
        exact h.2.2 j x y hx hy
      · have e2 : j = p.1.length := by have := (List.getElem?_eq_some_iff.1 hx).1; simp at this; omega
        subst e2
        rw [List.getElem?_append_right (Nat.le_refl _)] at hx
        rw [h.2.1, List.getElem?_append_right (Nat.le_refl _)] at hy
        simp at hx hy
        rw [← hx, ← hy]; exact ht
theorem SimP.row (hm : M.m = N.m) (hd : Eqv M N M.n N.n) {p q : List Nat × List Int} (h : SimP M N p q) {s t : Nat} (ht : Eqv M N s t) : ∀ k, k ≤ M.m → SimP M N (lsRow M s p k) (lsRow N t q k)
  | 0, _ => h
  | k + 1, hk => (SimP.row hm hd h ht k (by omega)).step hm hd (ht.go (by omega))
theorem SimP.ls (hm : M.m = N.m) (hd : Eqv M N M.n N.n) (h0 : Eqv M N 0 0) : ∀ i, SimP M N (ls M i) (ls N i)
  | 0 => ⟨rfl, rfl, fun j x y hx hy => by
    have h1 := (List.getElem?_eq_some_iff.1 hx).1
    simp [Fk.ls] at h1
    subst h1
    simp [Fk.ls] at hx hy
    rw [← hx, ← hy]; exact h0⟩
  | i + 1 => by
    have ih := SimP.ls hm hd h0 i
    simp only [Fk.ls]
    rcases Nat.lt_or_ge i (Fk.ls M i).1.length with hi | hi
    · have hi2 : i < (Fk.ls N i).1.length := by rw [← ih.2.1]; exact hi
      rw [List.getElem?_eq_getElem hi, List.getElem?_eq_getElem hi2]
      rw [← hm]
      exact ih.row hm hd (ih.2.2 i _ _ (List.getElem?_eq_getElem hi) (List.getElem?_eq_getElem hi2)) M.m (Nat.le_refl _)
    · rw [List.getElem?_eq_none hi, List.getElem?_eq_none (by rw [← ih.2.1]; exact hi)]
      exact ih
end
end Fk
