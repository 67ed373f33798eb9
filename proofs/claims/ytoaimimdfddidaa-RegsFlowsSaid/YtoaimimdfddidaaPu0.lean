/- Plain laws of what the functions compute, no program in sight.
   Part of the proof of Rows.RegsFlowsSaid of the program 'recoup'. -/
import Derived.Test.YtoaimimdfddidaaLb20
set_option linter.unusedVariables false
set_option linter.unusedSimpArgs false
set_option linter.unusedSectionVars false
namespace Go.RL

/-! What a slice in memory tells of its elements. -/

theorem RdS.rdAll {α : Type} {e : ET α} {H : PHeap} {A : Option Addr} {c : Nat} {xs : List α} (h : RdS e H A c xs) : ∀ x ∈ xs, ∃ cs, e.rd H cs x := by
  rcases h.2.2 with rfl | ⟨g, off, arr, T, fz, rfl, q2, q3⟩
  · intro x hx; cases hx
  · intro x hx
    obtain ⟨i, hi⟩ := List.getElem?_of_mem hx
    obtain ⟨cs, h1, _⟩ := q3 i x hi
    exact ⟨cs, h1⟩
theorem RdS.inBs {H : PHeap} {A : Option Addr} {c : Nat} {b : Nat} {xs : List (List Int)} (h : RdS (eSl (eInt .u8 b)) H A c xs) : ∀ x ∈ xs, Go.RL.inB x := by
  intro x hx
  obtain ⟨cs, A', c', _, hr⟩ := h.rdAll x hx
  exact hr.inB
end Go.RL
