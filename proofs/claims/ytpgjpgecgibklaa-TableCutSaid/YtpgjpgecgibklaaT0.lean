/- Tools for conditions: how each of their words is met. -/
import Derived.Test.YtpgjpgecgibklaaK10
import Derived.Test.YtpgjpgecgibklaaProg
import Derived.KernelRfl
set_option linter.unusedVariables false
namespace Fk
open Go Go.RowKit

/-! ### A contract -/
/-- A call comes back, with a value and a world of which R holds. -/
def Ct (P : Program) (f : FuncId) (args : Array Value) (w : World) (R : Value → World → Prop) : Prop :=
  goodFn P f = true ∧ Calls P f args w fun e w' => match e with | .returned v => R v w' | _ => False
theorem Ct.mono {P : Program} {f : FuncId} {args : Array Value} {w : World} {R R' : Value → World → Prop} (h : Ct P f args w R) (hk : ∀ v w', R v w' → R' v w') : Ct P f args w R' :=
  ⟨h.1, h.2.mono fun e w' he => by cases e <;> first | exact hk _ _ he | exact he.elim⟩
theorem Ct_of {P : Program} {rk : List Nat} {fn : Func} {f : FuncId} {args : List Value} {R : Value → World → Prop} {w : World}
    (hm : P.follows .mixedOrders = true) (hf : P.funcs[f]? = some fn) (hg : goodFn P f = true) (h : fnW P rk fn args R w) : Ct P f args.toArray w R :=
  ⟨hg, calls_of_fnW hm hf h⟩
theorem Kept_md {L : List Nat} {w w' : World} (h : Md [] w w') (hL : ∀ b ∈ L, b < w.heap.size) : Kept L w w' := fun b hb => h.blk b (hL b hb) (by simp)
theorem Ct.call {P : Program} {L : List Nat} {f : FuncId} {args : Array Value} {w : World} {Φ K : Value → World → Prop} (h : Ct P f args w fun v w' => Φ v w' ∧ Md [] w w')
    (hL : ∀ b ∈ L, b < w.heap.size) (hk : ∀ v w', Φ v w' → Md [] w w' → K v w') : CallW P L f args K w :=
  ⟨h.1, h.2.mono fun e w' he => by cases e <;> first | exact ⟨Kept_md he.2 hL, hk _ _ he.1 he.2⟩ | exact he.elim⟩

theorem Ct.callD {P : Program} {D L : List Nat} {f : FuncId} {args : Array Value} {w : World} {Φ K : Value → World → Prop} (h : Ct P f args w fun v w' => Φ v w' ∧ Md D w w')
    (hL : ∀ b ∈ L, b < w.heap.size) (hD : ∀ b ∈ L, b ∉ D) (hk : ∀ v w', Φ v w' → Md D w w' → K v w') : CallW P L f args K w :=
  ⟨h.1, h.2.mono fun e w' he => by cases e <;> first | exact ⟨fun b hb => he.2.blk b (hL b hb) (hD b hb), hk _ _ he.1 he.2⟩ | exact he.elim⟩

theorem mixedT : Go.Proofs.Try.prog.follows .mixedOrders = true := by kernel_rfl

/-! ### Words -/
theorem Bd_in {α : Type} {x : α} {K : α → Prop} (h : ∀ y, y = x → K y) : Bd x K := h x rfl
theorem Ld_in {w : World} {A : Addr} {v : Value} {K : Value → Prop} (h : w.cell? A = some v) (k : K v) : Ld w A K := by unfold Ld; rw [h]; exact k
theorem Gd_in {α : Type} {c : Bool} {d : α} {op : (α → World → Prop) → Prop} {K : α → World → Prop} {w : World} (h : c = true → op K) (k : c = false → K d w) : Gd c d op K w := ⟨h, k⟩
theorem opI_in {k : IntKind} {x : Int} {K : Int → Prop} (h : K x) : opI k (.int k x) K := by unfold opI; simp [Bd, h]
theorem opB_in {b : Bool} {K : Bool → Prop} (h : K b) : opB (.bool b) K := h
theorem opL_in {a : Option Addr} {n c : Nat} {K : Option Addr → Nat → Nat → Prop} (h : K a n c) : opL (.slice a n c) K := h
theorem opP_in {a : Option Addr} {K : Option Addr → Prop} (h : K a) : opP (.pointer a) K := h
theorem If_in {b : Bool} {A B : Prop} (h : b = true → A) (k : b = false → B) : If b A B := by
  unfold If
  cases b
  · simpa using k rfl
  · simpa using h rfl
theorem Gd_to {α : Type} {c : Bool} {d : α} {op : (α → World → Prop) → Prop} {K : α → World → Prop} {w : World} (J : α → World → Prop) (hJ : ∀ x w, J x w → K x w) (h : (∀ x w, J x w → K x w) → c = true → op K) (k : c = false → J d w) : Gd c d op K w :=
  ⟨h hJ, fun hc => hJ _ _ (k hc)⟩
theorem RunW_in {P : Program} {L : List Nat} {s : Sem Value} {K : Value → World → Prop} {w w' : World} {v : Value} (h : s.run P w = .ok v w') (hL : Kept L w w') (k : K v w') : RunW P L s K w := by
  exact ⟨by rw [h]; exact ⟨hL, k⟩⟩
theorem RunW_in0 {P : Program} {L : List Nat} {s : Sem Value} {K : Value → World → Prop} {w : World} {v : Value} (h : s.run P w = .ok v w) (k : K v w) : RunW P L s K w :=
  RunW_in h (fun _ _ => rfl) k
theorem RunU_in {P : Program} {L : List Nat} {s : Sem Unit} {K : World → Prop} {w w' : World} {u : Unit} (h : s.run P w = .ok u w') (hL : Kept L w w') (k : K w') : RunU P L s K w := by
  exact ⟨by rw [h]; exact ⟨hL, k⟩⟩
theorem Jn_in {A : List Value → List Value → World → Prop} {B : (List Value → List Value → World → Prop) → Prop} (J : List Value → List Value → World → Prop) (h : ∀ us vs w, J us vs w → A us vs w) (k : B J) : Jn A B := ⟨J, h, k⟩
theorem BdO_in {α : Type} {o : Option α} {v : α} {K : α → Prop} (h : o = some v) (k : K v) : BdO o K := by rw [h]; exact k
theorem opBig_in {cs : Array Value} {K : Array Value → Prop} (h : K cs) : opBig (.agg cs) K := h
theorem opAg_in {cs : Array Value} {K : Array Value → Prop} (h : K cs) : opAg (.agg cs) K := h
theorem opTu_in {cs : Array Value} {K : Array Value → Prop} (h : K cs) : opTu (.tuple cs) K := h
theorem opStr_in {s : ByteArray} {K : ByteArray → Prop} (h : K s) : opStr (.string s) K := h
theorem opM_in {s : Option Nat} {K : Option Nat → Prop} (h : K s) : opM (.map s) K := h
theorem LeC_in {a b : Nat} {K : Prop} (h : a ≤ b) (k : K) : LeC a b K := by unfold LeC; rw [Nat.ble_eq_true_of_le h]; exact k
theorem OkC_in {l : List Value} {n : Nat} {K : Prop} (h : okCells l n = true) (k : K) : OkC l n K := by unfold OkC; rw [h]; exact k
/-- A loop: what is so whenever it comes round, and what falls. -/
theorem LoopP_in {F : List Value → List Value → (List Value → List Value → World → Prop) → World → Prop} {us vs : List Value} {w : World}
    (I : Nat → List Value → List Value → World → Prop) (m : Nat) (h : I m us vs w) (k : ∀ m us vs w, I m us vs w → F us vs (fun us' vs' w' => ∃ m', m' < m ∧ I m' us' vs' w') w) : LoopP F us vs w :=
  ⟨I, ⟨m, h⟩, k⟩

theorem Md_drew (w : World) : Md [] w w.drew := ⟨rfl, rfl, rfl, Nat.le_refl _, fun _ _ _ => rfl⟩
/-! ### Memory -/
theorem cell_lt {w : World} {A : Addr} {v : Value} (h : w.cell? A = some v) : A.block < w.heap.size := by
  unfold World.cell? at h
  split at h
  · rename_i hb; exact (Array.getElem?_eq_some_iff.1 hb).1
  · cases h
theorem Md.cell {D : List Nat} {w w' : World} (h : Md D w w') {A : Addr} {v : Value} (hc : w.cell? A = some v) (hD : A.block ∉ D) : w'.cell? A = some v := by
  have hb := h.blk A.block (cell_lt hc) hD
  unfold World.cell? at hc ⊢
  rw [hb]
  exact hc
theorem Md.cell0 {w w' : World} (h : Md [] w w') {A : Addr} {v : Value} (hc : w.cell? A = some v) : w'.cell? A = some v := h.cell hc (by simp)
/-- What is new was not there. -/
theorem Md.fresh {D : List Nat} {w w' : World} (h : Md D w w') (hD : ∀ d ∈ D, w.heap.size ≤ d) : Md [] w w' :=
  ⟨h.os, h.tape, h.output, h.size, fun k hk _ => h.blk k hk fun hm => by have := hD k hm; omega⟩
theorem Md.old {D : List Nat} {w0 w w' : World} (h0 : Md [] w0 w) (h : Md D w w') (hD : ∀ d ∈ D, w0.heap.size ≤ d) : Md [] w0 w' :=
  ⟨h.os.trans h0.os, h.tape.trans h0.tape, h.output.trans h0.output, Nat.le_trans h0.size h.size,
    fun k hk hm => (h.blk k (Nat.lt_of_lt_of_le hk h0.size) fun hm => by have := hD k hm; omega).trans (h0.blk k hk hm)⟩
end Fk
