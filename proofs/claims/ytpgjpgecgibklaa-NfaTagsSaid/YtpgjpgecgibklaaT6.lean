/- More of the words' ways in. -/
import Derived.Test.YtpgjpgecgibklaaTT
import Derived.Test.YtpgjpgecgibklaaC10
set_option linter.unusedVariables false
namespace Fk
open Go Go.RowKit
theorem Bd_e {α : Type} {x y : α} {K : α → Prop} (h : x = y) (k : K y) : Bd x K := Bd_in fun z hz => by rw [hz, h]; exact k
theorem Bd_t {x : Bool} {K : Bool → Prop} (h : x = true) (k : K true) : Bd x K := Bd_e h k
theorem Bd_f {x : Bool} {K : Bool → Prop} (h : x = false) (k : K false) : Bd x K := Bd_e h k
theorem If_t {A B : Prop} (h : A) : If true A B := If_in (fun _ => h) fun e => by cases e
theorem If_f {A B : Prop} (h : B) : If false A B := If_in (fun e => by cases e) fun _ => h
theorem Gd_t {α : Type} {d : α} {op : (α → World → Prop) → Prop} {K : α → World → Prop} {w : World} (h : op K) : Gd true d op K w := ⟨fun _ => h, fun e => by cases e⟩
theorem Gd_f {α : Type} {d : α} {op : (α → World → Prop) → Prop} {K : α → World → Prop} {w : World} (h : K d w) : Gd false d op K w := ⟨(fun e => by cases e), fun _ => h⟩
theorem mdUp {w w' : World} {n : Nat} (hn : w.heap.size ≤ n) (hm : Md [n] w w') : Md [] w w' := hm.fresh (by simpa using hn)
theorem Good.of {L : List Nat} {w0 w1 w : World} (h : Md [] w0 w1) (g : Good L w1 w) : Good L w0 w := ⟨h.trans g.1, g.2⟩
end Fk
