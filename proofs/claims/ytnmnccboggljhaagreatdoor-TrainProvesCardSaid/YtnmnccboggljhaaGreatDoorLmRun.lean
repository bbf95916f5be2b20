/- The logical machine: the program's functions as a table. -/
import Derived.Test.YtnmnccboggljhaaGreatDoorLmV
namespace Go.Lm
open Go Go.RowKit
theorem enters_of {P : Program} {g : FuncId} {f : Func} (h : P.funcs[g]? = some f) (hb : f.body.isSome = true) (hn : (f.name == "runtime.NumGoroutine") = false) : Enters P g := by
  intro args w
  have hp : (program : Sem Program).run P w = .ok P w := rfl
  unfold callFunc
  rw [Sem.run_bind, hp, Result.andThen_ok, h]
  simp only [hn, Bool.false_eq_true, if_false]
  have : f.body.isNone = false := by cases hq : f.body with | none => rw [hq] at hb; cases hb | some c => rfl
  simp only [this, Bool.false_eq_true, if_false]
  rfl
def TabOk (P : Program) (l : List (Nat × Func)) : Prop := ∀ x ∈ l, P.funcs[x.1]? = some x.2 ∧ x.2.body.isSome = true ∧ (x.2.name == "runtime.NumGoroutine") = false
theorem TabOk.nil (P : Program) : TabOk P [] := fun x hx => by cases hx
theorem TabOk.cons {P : Program} {g : Nat} {f : Func} {l : List (Nat × Func)} (h : P.funcs[g]? = some f) (hb : f.body.isSome = true) (hn : (f.name == "runtime.NumGoroutine") = false) (k : TabOk P l) : TabOk P ((g, f) :: l) := fun x hx => by
  rcases List.mem_cons.1 hx with rfl | hx
  · exact ⟨h, hb, hn⟩
  · exact k x hx
theorem TabOk.fn {P : Program} {l : List (Nat × Func)} (h : TabOk P l) : ∀ g f, lk l g = some f → P.funcs[g]? = some f ∧ Enters P g := fun g f e => by
  obtain ⟨h1, h2, h3⟩ := h _ (lk_mem e)
  exact ⟨h1, enters_of h1 h2 h3⟩
end Go.Lm
