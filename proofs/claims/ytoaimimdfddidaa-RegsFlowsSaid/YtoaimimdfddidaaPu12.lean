/- Plain laws of what the functions compute, no program in sight.
   Part of the proof of Rows.RegsFlowsSaid of the program 'recoup'. -/
import Derived.Test.YtoaimimdfddidaaPu11
set_option linter.unusedVariables false
set_option linter.unusedSimpArgs false
set_option linter.unusedSectionVars false
set_option linter.unusedVariables false
namespace Go.RL

/-! regs.Run, whole. -/

structure MayP (p : GProgram) : Prop where
  r0 : 0 ≤ p.Regs
  r1 : p.Regs ≤ 256
  o0 : 0 ≤ p.Outs
  o1 : p.Outs ≤ 64
  s : p.Steps.length ≤ 65536

theorem mayP_ok (p : GProgram) : Ok (regs_may p) (fun b => b = true ↔ MayP p) := by
  unfold regs_may
  refine Ok.ite (fun h1 => ?_) fun h1 => Ok.pure ⟨fun h => (by cases h), fun h => absurd h.r0 h1⟩
  refine Ok.ite (fun h2 => ?_) fun h2 => Ok.pure ⟨fun h => (by cases h), fun h => absurd h.r1 h2⟩
  refine Ok.ite (fun h3 => ?_) fun h3 => Ok.pure ⟨fun h => (by cases h), fun h => absurd h.o0 h3⟩
  refine Ok.ite (fun h4 => ?_) fun h4 => Ok.pure ⟨fun h => (by cases h), fun h => absurd h.o1 h4⟩
  refine Ok.pure ⟨fun h => ⟨h1, h2, h3, h4, by have := of_decide_eq_true h; omega⟩, fun h => decide_eq_true (by have := h.s; omega)⟩

def AllSome (l : Rg) : Prop := ∀ o ∈ l, o ≠ none

open Classical in
noncomputable def rrV (p : GProgram) (bl : List (List Int)) : List (List Int) × Int :=
  if SameLen bl then
    (if MayP p then
      (match runM bl (sizeOf0 bl) p.Steps (List.replicate p.Regs.toNat none, List.replicate p.Outs.toNat none) with
      | some m => if AllSome m.2 then (m.2.map (fun o => Option.getD o []), 0) else ([], 2)
      | none => ([], 2))
    else ([], 2))
  else ([], 3)

theorem EvenO.none (size n : Nat) : EvenO size (List.replicate n Option.none) := by
  intro i v h
  rw [List.getElem?_replicate] at h
  split at h <;> simp at h

theorem rr_ok {p : GProgram} {bl : List (List Int)} (hb : BlOk bl) (hC : ∀ s ∈ p.Steps, isB s.C) : regs_Run p bl = some (rrV p bl) := by
  have hlim : lim = 140737488355328 := rfl
  have hsz : sizeOf0 bl ≤ lim := by
    cases bl with
    | nil => exact Nat.zero_le _
    | cons x _ => exact hb.s x (List.mem_cons_self ..)
  refine Ok.eq ?_
  unfold regs_Run
  refine Ok.bind (P := OutP (fun s => SameLen bl ∧ s = (sizeOf0 bl : Int)) (fun q => ¬ SameLen bl ∧ q = ([], 3))) ?_ ?_
  · refine for0_ok (fun j s => (∀ (i : Nat) x, i < j → bl[i]? = some x → x.length = sizeOf0 bl) ∧ (j = 0 → s = 0) ∧ (0 < j → s = (sizeOf0 bl : Int))) ⟨fun i x hi => by omega, fun _ => rfl, fun h => by omega⟩ ?_ ?_
    · rintro j s hj ⟨h1, h2, h3⟩
      refine Ok.idxN hj fun x hx => ?_
      have go : x.length = sizeOf0 bl → ∀ (i : Nat) y, i < j + 1 → bl[i]? = some y → y.length = sizeOf0 bl := by
        intro he i y hi hy
        by_cases e : i = j
        · subst e; rw [hx] at hy; cases hy; exact he
        · exact h1 i y (by omega) hy
      refine Ok.ite (fun h0 => ?_) fun h0 => ?_
      · have : j = 0 := by omega
        subst this
        rw [if_pos rfl]
        have := sizeOf0_get hx
        exact Ok.pure ⟨go this.symm, fun h => by omega, fun _ => by rw [this]⟩
      · refine Ok.ite (fun h4 => Ok.pure ⟨go ?_, fun h => by omega, fun _ => h3 (by omega)⟩) fun h4 => Ok.pure ⟨fun hS => h4 ?_, rfl⟩
        · have := h3 (by omega); omega
        · have := hS x (List.mem_of_getElem? hx); have := h3 (by omega); omega
    · rintro s ⟨h1, h2, h3⟩
      refine ⟨fun x hx => ?_, ?_⟩
      · obtain ⟨i, hi⟩ := List.getElem?_of_mem hx
        exact h1 i x (List.getElem?_eq_some_iff.1 hi).1 hi
      · cases bl with
        | nil => exact h2 rfl
        | cons _ _ => exact h3 (by simp)
  intro o ho
  unfold rrV
  match o, ho with
  | .ret q, ho => exact Ok.pure (by rw [ho.2, if_neg ho.1])
  | .fall s, ho =>
  obtain ⟨hS, rfl⟩ := ho
  rw [if_pos hS]
  refine Ok.bind (mayP_ok p) fun b hm => Ok.ite (fun hc => ?_) fun hc => Ok.pure (by rw [if_neg fun h => hc (hm.2 h)])
  have hp := hm.1 hc
  rw [if_pos hp]
  have r0 := hp.r0
  have r1 := hp.r1
  have o0 := hp.o0
  have o1 := hp.o1
  have e1 : Go.RL.mk 24 p.Regs (none : Option (List Int)) = some (List.replicate p.Regs.toNat none) := mk_of r0 (by omega)
  have e2 : Go.RL.mk 24 p.Outs (none : Option (List Int)) = some (List.replicate p.Outs.toNat none) := mk_of o0 (by omega)
  rw [e1, Option.bind_some, e2, Option.bind_some, Option.bind_some]
  refine Ok.bind (P := fun q => match runM bl (sizeOf0 bl) p.Steps (List.replicate p.Regs.toNat none, List.replicate p.Outs.toNat none) with
    | some m => q = (true, m.1, m.2)
    | none => q.1 = false) ?_ ?_
  · refine for0_ok (fun j q => q.1 = true ∧ EvenO (sizeOf0 bl) q.2.1 ∧ EvenO (sizeOf0 bl) q.2.2 ∧ runM bl (sizeOf0 bl) (p.Steps.take j) (List.replicate p.Regs.toNat none, List.replicate p.Outs.toNat none) = some (q.2.1, q.2.2)) ⟨rfl, EvenO.none _ _, EvenO.none _ _, rfl⟩ ?_ ?_
    · rintro j ⟨ok, rs, os⟩ hj ⟨h0, h1, h2, h3⟩
      have h1 : EvenO (sizeOf0 bl) rs := h1
      have h2 : EvenO (sizeOf0 bl) os := h2
      have h3 : runM bl (sizeOf0 bl) (p.Steps.take j) (List.replicate p.Regs.toNat none, List.replicate p.Outs.toNat none) = some (rs, os) := h3
      refine Ok.idxN hj fun s hs => ?_
      have key := step_ok (m := (rs, os)) hb hS hsz (hC s (List.mem_of_getElem? hs)) h1 h2
      have hdrop : p.Steps = p.Steps.take j ++ s :: p.Steps.drop (j + 1) := by
        conv => lhs; rw [← List.take_append_drop (j + 1) p.Steps]
        rw [List.take_add_one, hs]; simp
      refine Ok.bind key ?_
      rintro ⟨ok', rs', os'⟩ hq
      cases hst : stepM bl (sizeOf0 bl) s (rs, os) with
      | none =>
        rw [hst] at hq
        have hq : ok' = false := hq
        refine Ok.iteF (by rw [hq]; simp) (Ok.pure ?_)
        have : runM bl (sizeOf0 bl) p.Steps (List.replicate p.Regs.toNat none, List.replicate p.Outs.toNat none) = none := by
          rw [hdrop, runM_append, h3, Option.bind_some]
          show (stepM bl (sizeOf0 bl) s (rs, os)).bind _ = none
          rw [hst]; rfl
        show (match runM bl (sizeOf0 bl) p.Steps (List.replicate p.Regs.toNat none, List.replicate p.Outs.toNat none) with
          | some m => (ok', rs', os') = (true, m.1, m.2)
          | none => ok' = false)
        rw [this]; exact hq
      | some m' =>
        rw [hst] at hq
        obtain ⟨hq1, hq2, hq3⟩ := hq
        cases hq1
        refine Ok.iteT rfl (Ok.pure ⟨rfl, hq2, hq3, ?_⟩)
        rw [List.take_add_one, hs]
        exact runM_snoc h3 hst
    · rintro ⟨ok, rs, os⟩ ⟨h0, h1, h2, h3⟩
      rw [List.take_length] at h3
      have h0 : ok = true := h0
      subst h0
      rw [h3]
  rintro ⟨ok, rs, os⟩ hq
  cases hr : runM bl (sizeOf0 bl) p.Steps (List.replicate p.Regs.toNat none, List.replicate p.Outs.toNat none) with
  | none =>
    rw [hr] at hq
    have hq : ok = false := hq
    exact Ok.iteF (by rw [hq]; simp) (Ok.pure rfl)
  | some m =>
    rw [hr] at hq
    cases hq
    refine Ok.iteT rfl ?_
    refine Ok.bind (P := fun i => ((0 : Int) ≤ i ↔ ¬ AllSome m.2)) ?_ ?_
    · refine Ok.bind (P := OutP (fun _ => AllSome m.2) (fun i => 0 ≤ i ∧ ¬ AllSome m.2)) ?_ ?_
      · refine for0_ok (fun j _ => ∀ (i : Nat) o, i < j → m.2[i]? = some o → o ≠ none) (fun i o hi => by omega) ?_ ?_
        · intro j _ hj hI
          refine Ok.idxN hj fun o ho => Ok.ite (fun hc => Ok.pure ⟨by omega, fun h => h o (List.mem_of_getElem? ho) (by simpa using hc)⟩) fun hc => Ok.pure ?_
          intro i o' hi ho'
          by_cases e : i = j
          · subst e; rw [ho] at ho'; cases ho'; intro h; rw [h] at hc; exact hc rfl
          · exact hI i o' (by omega) ho'
        · intro _ hI o ho
          obtain ⟨i, hi⟩ := List.getElem?_of_mem ho
          exact hI i o (List.getElem?_eq_some_iff.1 hi).1 hi
      · intro o ho
        match o, ho with
        | .fall s, ho => exact Ok.pure ⟨fun h => absurd h (by decide), fun h => absurd ho h⟩
        | .ret b, ho => exact Ok.pure ⟨fun _ => ho.2, fun _ => ho.1⟩
    · intro i hi
      refine Ok.ite (fun hc => Ok.pure ?_) fun hc => Ok.pure ?_
      · exact (if_neg (hi.1 hc)).symm
      · exact (if_pos (Classical.not_not.1 fun h => hc (hi.2 h))).symm
end Go.RL
