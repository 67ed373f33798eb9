/- A program logic over the model's machine, part 16: quiet steps, pieces of memory, loops, calls.
   Part of the proof of Rows.RegsFlowsSaid of the program 'recoup'. -/
import Derived.Test.YtoaimimdfddidaaLb15
set_option linter.unusedVariables false
set_option linter.unusedSimpArgs false
set_option linter.unusedSectionVars false
namespace Go.RL

/-! ### functions that write into what came in -/
def dom (p : Piece) : Nat → Prop := fun b => p b ≠ none

theorem St.startX {w : World} {H : PHeap} {p : Piece} (h : ∀ b o, H b = some o → w.heap[b]? = some o) (hp : ∀ g o, p g = some o → w.heap[g]? = some o ∧ H g = none) : St (dom p) w w H [p] :=
  ⟨Ev.refl w, fun _ _ _ => rfl, h, fun q hq g o e => by
    rcases List.mem_singleton.1 hq with rfl
    exact ⟨(hp g o e).1, (hp g o e).2, .inr (by unfold dom; rw [e]; exact nofun)⟩, List.pairwise_singleton _ _⟩

theorem St.callLX {X : Nat → Prop} {w0 w w' : World} {H H1 : PHeap} {L ps : List Piece} {p p' : Piece} {i : Nat} (hS : St X w0 w H L) (hi : L[i]? = some p) (hR : St (dom p) w w' H1 (p' :: ps)) (hle : PHeap.le H H1) :
    St X w0 w' H (ps ++ L.set i p') := by
  have hpm := List.mem_of_getElem? hi
  have hil : i < L.length := (List.getElem?_eq_some_iff.1 hi).1
  have hLi : L[i] = p := by rw [List.getElem?_eq_getElem hil] at hi; injection hi
  have hnone : ∀ g o, H1 g = none → H g = some o → False := fun g o h1 h2 => by rw [hle g o h2] at h1; cases h1
  have hH : ∀ q ∈ p' :: ps, ∀ g o, q g = some o → H g = none := fun q hq g o e => by
    have h2 := (hR.own q hq g o e).2.1
    cases hh : H g with
    | none => rfl
    | some u => exact (hnone g u h2 hh).elim
  have hfr : ∀ q ∈ p' :: ps, ∀ g o, q g = some o → w0.heap.size ≤ g ∨ X g := fun q hq g o e => by
    rcases (hR.own q hq g o e).2.2 with h | h
    · exact .inl (Nat.le_trans hS.ev.size h)
    · cases hp : p g with
      | none => exact absurd hp h
      | some u => exact (hS.own p hpm g u hp).2.2
  -- other pieces of L are left alone
  have hoth : ∀ j (hj : j < L.length), j ≠ i → ∀ g o, L[j] g = some o → w'.heap[g]? = some o ∧ p g = none := by
    intro j hj hji g o e
    have hpg : p g = none := by
      cases hp : p g with
      | none => rfl
      | some u =>
        exfalso
        rcases Nat.lt_or_gt_of_ne hji with q | q
        · exact (List.pairwise_iff_getElem.1 hS.apart j i hj hil q) g o u e (by rw [hLi]; exact hp)
        · exact (List.pairwise_iff_getElem.1 hS.apart i j hil hj q) g u o (by rw [hLi]; exact hp) e
    have h1 := (hS.own _ (List.getElem_mem hj) g o e).1
    exact ⟨(hR.old g (lt_of_some h1) (by unfold dom; rw [hpg]; exact fun h => h rfl)).trans h1, hpg⟩
  -- a new piece and another one of L
  have hsep : ∀ q ∈ p' :: ps, ∀ g o, q g = some o → ∀ j (hj : j < L.length), j ≠ i → ∀ o', L[j] g = some o' → False := by
    intro q hq g o e j hj hji o' e'
    rcases (hR.own q hq g o e).2.2 with h | h
    · have := lt_of_some (hS.own _ (List.getElem_mem hj) g o' e').1
      omega
    · exact h (hoth j hj hji g o' e').2
  refine ⟨hS.ev.trans hR.ev, fun b hb hx => ?_, fun b o h => hR.imm b o (hle b o h), fun q hq g o e => ?_, ?_⟩
  · have := hS.ev.size
    refine (hR.old b (by omega) ?_).trans (hS.old b hb hx)
    intro hd
    cases hp : p b with
    | none => exact hd hp
    | some u =>
      rcases (hS.own p hpm b u hp).2.2 with h | h
      · omega
      · exact hx h
  · rcases List.mem_append.1 hq with hq | hq
    · have hq' := List.mem_cons_of_mem p' hq
      exact ⟨(hR.own q hq' g o e).1, hH q hq' g o e, hfr q hq' g o e⟩
    · obtain ⟨j, hj, hqj⟩ := List.getElem_of_mem hq
      rw [List.length_set] at hj
      rw [List.getElem_set] at hqj
      split at hqj
      · subst hqj
        exact ⟨(hR.own p' (List.mem_cons_self ..) g o e).1, hH p' (List.mem_cons_self ..) g o e, hfr p' (List.mem_cons_self ..) g o e⟩
      · rename_i hij
        subst hqj
        obtain ⟨h1, h2, h3⟩ := hS.own _ (List.getElem_mem hj) g o e
        exact ⟨(hoth j hj (fun q => hij q.symm) g o e).1, h2, h3⟩
  · rw [List.pairwise_append]
    refine ⟨(List.pairwise_cons.1 hR.apart).2, ?_, ?_⟩
    · rw [List.pairwise_iff_getElem]
      intro j k hj hk hjk g o o' e e'
      rw [List.length_set] at hj hk
      rw [List.getElem_set] at e e'
      split at e <;> split at e'
      · omega
      · rename_i h1 h2
        exact hsep p' (List.mem_cons_self ..) g o e k hk (fun q => h2 q.symm) o' e'
      · rename_i h1 h2
        exact hsep p' (List.mem_cons_self ..) g o' e' j hj (fun q => h1 q.symm) o e
      · exact (List.pairwise_iff_getElem.1 hS.apart j k hj hk hjk) g o o' e e'
    · intro q hq r hr g o o' e e'
      obtain ⟨j, hj, hrj⟩ := List.getElem_of_mem hr
      rw [List.length_set] at hj
      rw [List.getElem_set] at hrj
      split at hrj
      · subst hrj
        exact (List.pairwise_cons.1 hR.apart).1 q hq g o' o e' e
      · rename_i hij
        subst hrj
        exact hsep q (List.mem_cons_of_mem _ hq) g o e j hj (fun z => hij z.symm) o' e'
end Go.RL
