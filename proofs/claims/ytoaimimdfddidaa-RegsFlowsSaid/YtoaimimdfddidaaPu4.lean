/- Plain laws of what the functions compute, no program in sight.
   Part of the proof of Rows.RegsFlowsSaid of the program 'recoup'. -/
import Derived.Test.YtoaimimdfddidaaPu3
set_option linter.unusedVariables false
set_option linter.unusedSimpArgs false
set_option linter.unusedSectionVars false
set_option linter.unusedVariables false
namespace Go.RL

/-! What a flow must be (P21.1): the program's May and the document's. -/

def OutP {α β : Type} (F : α → Prop) (R : β → Prop) : Out α β → Prop
  | .fall a => F a
  | .ret b => R b

/-- the first m entries are what they should be -/
def Upto (xs : List Int) (k : Int) (m : Nat) : Prop :=
  (∀ i x, i < m → xs[i]? = some x → 0 ≤ x ∧ x < k) ∧ ∀ i x y, i + 1 < m → xs[i]? = some x → xs[i + 1]? = some y → x < y
def Inc (xs : List Int) (k : Int) : Prop := Upto xs k xs.length
theorem Upto.low {xs : List Int} {k : Int} {m : Nat} (h : Upto xs k m) : ∀ i x, i < m → xs[i]? = some x → (i : Int) ≤ x
  | 0, x, hi, hx => (h.1 0 x hi hx).1
  | i + 1, x, hi, hx => by
    obtain ⟨hl, _⟩ := List.getElem?_eq_some_iff.1 hx
    have h0 : xs[i]? = some (xs[i]'(by omega)) := List.getElem?_eq_getElem (by omega)
    have := h.low i _ (by omega) h0
    have := h.2 i _ x (by omega) h0 hx
    omega
theorem Upto.le {xs : List Int} {k : Int} {m : Nat} (h : Upto xs k m) (hm : m ≤ xs.length) (hk : 0 ≤ k) : (m : Int) ≤ k := by
  cases m with
  | zero => omega
  | succ m =>
    have h0 : xs[m]? = some (xs[m]'(by omega)) := List.getElem?_eq_getElem (by omega)
    have := h.low m _ (by omega) h0
    have := (h.1 m _ (by omega) h0).2
    omega
theorem Upto.succ {xs : List Int} {k : Int} {m : Nat} {x : Int} (h : Upto xs k m) (hx : xs[m]? = some x) (h0 : 0 ≤ x) (h1 : x < k) (hp : ∀ y, 0 < m → xs[m - 1]? = some y → y < x) : Upto xs k (m + 1) := by
  refine ⟨fun i y hi hy => ?_, fun i y z hi hy hz => ?_⟩
  · by_cases e : i = m
    · subst e; rw [hx] at hy; cases hy; exact ⟨h0, h1⟩
    · exact h.1 i y (by omega) hy
  · by_cases e : i + 1 = m
    · subst e; rw [hx] at hz; cases hz; exact hp y (by omega) hy
    · exact h.2 i y z (by omega) hy hz
theorem Upto.z (xs : List Int) (k : Int) : Upto xs k 0 := ⟨fun i x hi => by omega, fun i x y hi => by omega⟩
theorem Inc.at {xs : List Int} {k : Int} (h : Inc xs k) {i : Nat} {x : Int} (hx : xs[i]? = some x) : 0 ≤ x ∧ x < k := h.1 i x (List.getElem?_eq_some_iff.1 hx).1 hx
theorem Inc.lt {xs : List Int} {k : Int} (h : Inc xs k) {i : Nat} {x y : Int} (hx : xs[i]? = some x) (hy : xs[i + 1]? = some y) : x < y := h.2 i x y (List.getElem?_eq_some_iff.1 hy).1 hx hy

structure TermsOk (l : List GTerm) (k : Int) : Prop where
  by0 : ∀ t ∈ l, t.By ≠ 0
  of : Inc (l.map (·.Of)) k

structure FMay (f : GFlow) : Prop where
  nodes : f.Nodes.length ≤ 4096
  outs : f.Outs.length ≤ 64
  ins : Inc f.Inputs 64
  terms : ∀ (n : Nat) l, f.Nodes[n]? = some l → TermsOk l ((f.Inputs.length : Int) + n)
  out : ∀ x ∈ f.Outs, 0 ≤ x ∧ x < (f.Inputs.length : Int) + f.Nodes.length
theorem FMay.insLen {f : GFlow} (h : FMay f) : f.Inputs.length ≤ 64 := by
  have := h.ins.le (Nat.le_refl _) (by omega); omega

theorem terms_ok (l : List GTerm) (k : Int) : Ok (flow_terms l k) (fun b => b = true ↔ TermsOk l k) := by
  unfold flow_terms
  refine Ok.bind (P := OutP (fun _ => TermsOk l k) (fun b => b = false ∧ ¬ TermsOk l k)) ?_ ?_
  · refine for0_ok (fun j s => (∀ i t, i < j → l[i]? = some t → t.By ≠ 0) ∧ Upto (l.map (·.Of)) k j ∧ (j = 0 → s = -1) ∧ ∀ y, 0 < j → (l.map (·.Of))[j - 1]? = some y → y = s) ⟨fun i t hi => by omega, Upto.z _ _, fun _ => rfl, fun y hy => by omega⟩ ?_ ?_
    · rintro j s hj ⟨h1, h2, h3, h4⟩
      refine Ok.idxN hj fun t ht => ?_
      have hm : (l.map (·.Of))[j]? = some t.Of := by rw [List.getElem?_map, ht]; rfl
      have hs : 0 < j → (l.map (·.Of))[j - 1]? = some s := fun h0 => by
        have e : (l.map (·.Of))[j - 1]? = some ((l.map (·.Of))[j - 1]'(by simp; omega)) := List.getElem?_eq_getElem (by simp; omega)
        rw [e, h4 _ h0 e]
      refine Ok.ite (fun hc => Ok.pure ⟨rfl, fun hT => ?_⟩) fun hc => Ok.ite (fun hc2 => Ok.pure ⟨rfl, fun hT => ?_⟩) fun hc2 => Ok.ite (fun hc3 => Ok.pure ⟨rfl, fun hT => ?_⟩) fun hc3 => Ok.pure ⟨?_, ?_, fun h => by omega, ?_⟩
      · by_cases h0 : j = 0
        · have := h3 h0; have := (hT.of.at hm).1; omega
        · have hlt := hT.of.lt (i := j - 1) (hs (by omega)) (by rw [show j - 1 + 1 = j by omega]; exact hm); omega
      · have := (hT.of.at hm).2; omega
      · exact hT.by0 t (List.mem_of_getElem? ht) hc3
      · intro i u hi hu
        by_cases e : i = j
        · subst e; rw [ht] at hu; cases hu; exact hc3
        · exact h1 i u (by omega) hu
      · refine h2.succ hm ?_ (by omega) fun y h0 hy => ?_
        · by_cases h0 : j = 0
          · have := h3 h0; omega
          · have := (h2.1 (j - 1) s (by omega) (hs (by omega))).1; omega
        · have := h4 y h0 hy; omega
      · intro y _ hy
        rw [show j + 1 - 1 = j by omega, hm] at hy; cases hy; rfl
    · rintro s ⟨h1, h2, _⟩
      refine ⟨fun t ht => ?_, by unfold Inc; rw [List.length_map]; exact h2⟩
      obtain ⟨i, hi⟩ := List.getElem?_of_mem ht
      exact h1 i t (List.getElem?_eq_some_iff.1 hi).1 hi
  · intro o ho
    match o, ho with
    | .fall s, ho => exact Ok.pure ⟨fun _ => ho, fun _ => rfl⟩
    | .ret b, ho => exact Ok.pure ⟨fun h => (by rw [ho.1] at h; cases h), fun h => absurd h ho.2⟩

theorem may_ok (f : GFlow) : Ok (flow_May f) (fun b => b = true ↔ FMay f) := by
  have fls : ∀ {b : Bool}, b = false → ¬ FMay f → (b = true ↔ FMay f) := fun h h2 => ⟨fun h' => (by rw [h] at h'; cases h'), fun h' => absurd h' h2⟩
  unfold flow_May
  refine Ok.bind (P := OutP (fun _ => Inc f.Inputs 64) (fun b => b = false ∧ ¬ Inc f.Inputs 64)) ?_ ?_
  · refine for0_ok (fun j s => Upto f.Inputs 64 j ∧ (j = 0 → s = -1) ∧ ∀ y, 0 < j → f.Inputs[j - 1]? = some y → y = s) ⟨Upto.z _ _, fun _ => rfl, fun y hy => by omega⟩ ?_ ?_
    · rintro j s hj ⟨h2, h3, h4⟩
      refine Ok.idxN hj fun t hm => ?_
      have hs : 0 < j → f.Inputs[j - 1]? = some s := fun h0 => by
        have e : f.Inputs[j - 1]? = some (f.Inputs[j - 1]'(by omega)) := List.getElem?_eq_getElem (by omega)
        rw [e, h4 _ h0 e]
      refine Ok.ite (fun hc => Ok.pure ⟨rfl, fun hT => ?_⟩) fun hc => Ok.ite (fun hc2 => Ok.pure ⟨rfl, fun hT => ?_⟩) fun hc2 => Ok.pure ⟨?_, fun h => by omega, ?_⟩
      · by_cases h0 : j = 0
        · have := h3 h0; have := (hT.at hm).1; omega
        · have hlt := hT.lt (i := j - 1) (hs (by omega)) (by rw [show j - 1 + 1 = j by omega]; exact hm); omega
      · have := (hT.at hm).2; omega
      · refine h2.succ hm ?_ (by omega) fun y h0 hy => ?_
        · by_cases h0 : j = 0
          · have := h3 h0; omega
          · have := (h2.1 (j - 1) s (by omega) (hs (by omega))).1; omega
        · have := h4 y h0 hy; omega
      · intro y _ hy
        rw [show j + 1 - 1 = j by omega, hm] at hy; cases hy; rfl
    · rintro s ⟨h2, _⟩; exact h2
  intro o ho
  match o, ho with
  | .ret b, ho => exact Ok.pure (fls ho.1 fun h => ho.2 h.ins)
  | .fall s, ho =>
  have hin : Inc f.Inputs 64 := ho
  have hil : f.Inputs.length ≤ 64 := by have := hin.le (Nat.le_refl _) (by omega); omega
  refine Ok.ite (fun hc => Ok.pure (fls rfl fun h => by have := h.nodes; omega)) fun hc1 => Ok.ite (fun hc => Ok.pure (fls rfl fun h => by have := h.outs; omega)) fun hc2 => ?_
  refine Ok.bind (P := OutP (fun _ => ∀ (n : Nat) l, f.Nodes[n]? = some l → TermsOk l ((f.Inputs.length : Int) + n)) (fun b => b = false ∧ ¬ FMay f)) ?_ ?_
  · refine for0_ok (fun j _ => ∀ (n : Nat) l, n < j → f.Nodes[n]? = some l → TermsOk l ((f.Inputs.length : Int) + n)) (fun n l hn => by omega) ?_ ?_
    · intro j s hj hI
      refine Ok.idxN hj fun l hl => ?_
      rw [w64_id (by omega) (by omega)]
      refine Ok.bind (terms_ok l _) fun b hb => Ok.ite (fun hc => Ok.pure ?_) fun hc => Ok.pure ⟨rfl, fun h => hc (hb.2 (h.terms j l hl))⟩
      intro n m hn hm
      by_cases e : n = j
      · subst e; rw [hl] at hm; cases hm; exact hb.1 hc
      · exact hI n m (by omega) hm
    · intro s hI n l hl; exact hI n l (List.getElem?_eq_some_iff.1 hl).1 hl
  intro o ho
  match o, ho with
  | .ret b, ho => exact Ok.pure (fls ho.1 ho.2)
  | .fall s, ho =>
  have hte : ∀ (n : Nat) l, f.Nodes[n]? = some l → TermsOk l ((f.Inputs.length : Int) + n) := ho
  refine Ok.bind (P := fun i => ((0 : Int) ≤ i ↔ ¬ ∀ x ∈ f.Outs, 0 ≤ x ∧ x < (f.Inputs.length : Int) + f.Nodes.length)) ?_ ?_
  · refine Ok.bind (P := OutP (fun _ => ∀ x ∈ f.Outs, 0 ≤ x ∧ x < (f.Inputs.length : Int) + f.Nodes.length) (fun i => 0 ≤ i ∧ ¬ ∀ x ∈ f.Outs, 0 ≤ x ∧ x < (f.Inputs.length : Int) + f.Nodes.length)) ?_ ?_
    · refine for0_ok (fun j _ => ∀ (n : Nat) x, n < j → f.Outs[n]? = some x → 0 ≤ x ∧ x < (f.Inputs.length : Int) + f.Nodes.length) (fun n l hn => by omega) ?_ ?_
      · intro j s hj hI
        refine Ok.idxN hj fun x hx => ?_
        refine Ok.bind (P := fun b => (b = true ↔ ¬ (0 ≤ x ∧ x < (f.Inputs.length : Int) + f.Nodes.length))) ?_ ?_
        · refine Ok.ite (fun hc => Ok.pure ⟨fun _ h => by omega, fun _ => rfl⟩) fun hc => Ok.pure ?_
          rw [w64_id (by omega) (by omega), decide_eq_true_eq]; omega
        · intro b hb
          refine Ok.ite (fun hc => Ok.pure ⟨by omega, fun h => hb.1 hc (h x (List.mem_of_getElem? hx))⟩) fun hc => Ok.pure ?_
          intro n y hn hy
          by_cases e : n = j
          · subst e; rw [hx] at hy; cases hy
            exact Classical.not_not.1 fun h => hc (hb.2 h)
          · exact hI n y (by omega) hy
      · intro s hI x hx
        obtain ⟨i, hi⟩ := List.getElem?_of_mem hx
        exact hI i x (List.getElem?_eq_some_iff.1 hi).1 hi
    · intro o ho
      match o, ho with
      | .fall s, ho => exact Ok.pure ⟨fun h => absurd h (by decide), fun h => absurd ho h⟩
      | .ret b, ho => exact Ok.pure ⟨fun _ => ho.2, fun _ => ho.1⟩
  · intro i hi
    refine Ok.pure ?_
    by_cases h0 : (0 : Int) ≤ i
    · simp only [h0, decide_true, Bool.not_true]
      exact fls rfl fun h => hi.1 h0 h.out
    · simp only [h0, decide_false, Bool.not_false, true_iff]
      exact ⟨by omega, by omega, hin, hte, Classical.not_not.1 fun h => h0 (hi.2 h)⟩

theorem refMay_ok (f : GFlow) : Ok (recoupref21_May f) (fun b => b = true ↔ FMay f) := by
  have fls : ∀ {b : Bool}, b = false → ¬ FMay f → (b = true ↔ FMay f) := fun h h2 => ⟨fun h' => (by rw [h] at h'; cases h'), fun h' => absurd h' h2⟩
  unfold recoupref21_May
  refine Ok.ite (fun hc => Ok.pure (fls rfl fun h => by have := h.nodes; omega)) fun hc1 => Ok.ite (fun hc => Ok.pure (fls rfl fun h => by have := h.outs; omega)) fun hc2 => ?_
  refine Ok.bind (P := OutP (fun _ => Inc f.Inputs 64) (fun b => b = false ∧ ¬ FMay f)) ?_ ?_
  · refine for0_ok (fun j s => Upto f.Inputs 64 j) (Upto.z _ _) ?_ ?_
    · rintro j s hj h2
      refine Ok.idxN hj fun t hm => ?_
      refine Ok.ite (fun hc => Ok.pure ⟨rfl, fun hT => by have := hT.ins.at hm; omega⟩) fun hc => ?_
      rw [idx_of rfl hm, Option.bind_some]
      refine Ok.ite (fun hc => Ok.pure ⟨rfl, fun hT => by have := hT.ins.at hm; omega⟩) fun hc3 => ?_
      refine Ok.ite (fun h0 => ?_) fun h0 => Ok.pure (h2.succ hm (by omega) (by omega) fun y h => by omega)
      rw [Option.bind_some]
      have hp : f.Inputs[j - 1]? = some (f.Inputs[j - 1]'(by omega)) := List.getElem?_eq_getElem (by omega)
      have hj2 : j ≤ 64 := by have := h2.le (by omega) (by omega); omega
      have hw : w64 ((j : Int) - 1) = ((j - 1 : Nat) : Int) := by rw [w64_id (by omega) (by omega)]; omega
      rw [hw, idx_of rfl hp, Option.bind_some]
      refine Ok.ite (fun hc4 => Ok.pure ⟨rfl, fun hT => ?_⟩) fun hc4 => Ok.pure (h2.succ hm (by omega) (by omega) fun y _ hy => ?_)
      · have := hT.ins.lt (i := j - 1) hp (by rw [show j - 1 + 1 = j by omega]; exact hm); omega
      · rw [hp] at hy; cases hy; omega
    · rintro s h2; exact h2
  intro o ho
  match o, ho with
  | .ret b, ho => exact Ok.pure (fls ho.1 ho.2)
  | .fall s, ho =>
  have hin : Inc f.Inputs 64 := ho
  have hil : f.Inputs.length ≤ 64 := by have := hin.le (Nat.le_refl _) (by omega); omega
  refine Ok.bind (P := OutP (fun _ => ∀ (n : Nat) l, f.Nodes[n]? = some l → TermsOk l ((f.Inputs.length : Int) + n)) (fun b => b = false ∧ ¬ FMay f)) ?_ ?_
  · refine for0_ok (fun j _ => ∀ (n : Nat) l, n < j → f.Nodes[n]? = some l → TermsOk l ((f.Inputs.length : Int) + n)) (fun n l hn => by omega) ?_ ?_
    · intro j s hj hI
      have hl : f.Nodes[j]? = some (f.Nodes[j]'hj) := List.getElem?_eq_getElem hj
      generalize f.Nodes[j]'hj = l at hl
      rw [w64_id (x := (f.Inputs.length : Int) + (j : Int)) (by omega) (by omega)]
      refine Ok.bind (P := OutP (fun _ => TermsOk l ((f.Inputs.length : Int) + j)) (fun c => CtlP (fun _ => False) (OutP (fun _ => False) (fun b => b = false ∧ ¬ FMay f)) c)) ?_ ?_
      · refine iter_ok (fun (s : Int) => ∃ m : Nat, s = m ∧ m ≤ l.length ∧ (∀ i t, i < m → l[i]? = some t → t.By ≠ 0) ∧ Upto (l.map (·.Of)) ((f.Inputs.length : Int) + j) m) (fun s => ((l.length : Int) - s).toNat) ?_ 0 ⟨0, rfl, by omega, fun i t hi => by omega, Upto.z _ _⟩
        rintro _ ⟨m, rfl, hm, h1, h2⟩
        rw [idx_of rfl hl, Option.bind_some]
        have hm2 : m ≤ 4160 := by have := h2.le (by simp; omega) (by omega); omega
        refine Ok.ite (fun hlt => ?_) fun hlt => Ok.pure ?_
        · rw [Option.bind_some]
          refine Ok.idxN (by omega) fun t ht => ?_
          have hmt : (l.map (·.Of))[m]? = some t.Of := by rw [List.getElem?_map, ht]; rfl
          have hws : w64 ((m : Int) + 1) = ((m + 1 : Nat) : Int) := w64_id (by omega) (by omega)
          refine Ok.ite (fun hc => Ok.pure ⟨rfl, fun hT => (hT.terms j l hl).by0 t (List.mem_of_getElem? ht) hc⟩) fun hb0 => ?_
          refine Ok.ite (fun hc => Ok.pure ⟨rfl, fun hT => by have := (hT.terms j l hl).of.at hmt; omega⟩) fun hb1 => ?_
          refine Ok.ite (fun hc => Ok.pure ⟨rfl, fun hT => by have := (hT.terms j l hl).of.at hmt; omega⟩) fun hb2 => ?_
          have go : (∀ y, 0 < m → (l.map (·.Of))[m - 1]? = some y → y < t.Of) → (∃ m' : Nat, w64 ((m : Int) + 1) = m' ∧ m' ≤ l.length ∧ (∀ i t, i < m' → l[i]? = some t → t.By ≠ 0) ∧ Upto (l.map (·.Of)) ((f.Inputs.length : Int) + j) m') ∧ ((l.length : Int) - w64 ((m : Int) + 1)).toNat < ((l.length : Int) - (m : Int)).toNat := by
            intro hp
            rw [hws]
            refine ⟨⟨m + 1, rfl, by omega, fun i u hi hu => ?_, h2.succ hmt (by omega) (by omega) hp⟩, by omega⟩
            by_cases e : i = m
            · subst e; rw [ht] at hu; cases hu; exact hb0
            · exact h1 i u (by omega) hu
          refine Ok.ite (fun h0 => ?_) fun h0 => Ok.pure (go fun y h => by omega)
          rw [Option.bind_some]
          have hp : l[m - 1]? = some (l[m - 1]'(by omega)) := List.getElem?_eq_getElem (by omega)
          have hw : w64 ((m : Int) - 1) = ((m - 1 : Nat) : Int) := by rw [w64_id (by omega) (by omega)]; omega
          rw [hw, idx_of rfl hp, Option.bind_some]
          have hpm : (l.map (·.Of))[m - 1]? = some (l[m - 1]'(by omega)).Of := by rw [List.getElem?_map, hp]; rfl
          refine Ok.ite (fun hc4 => Ok.pure ⟨rfl, fun hT => ?_⟩) fun hc4 => Ok.pure (go fun y _ hy => ?_)
          · have := (hT.terms j l hl).of.lt (i := m - 1) hpm (by rw [show m - 1 + 1 = m by omega]; exact hmt); omega
          · rw [hpm] at hy; cases hy; omega
        · have e : m = l.length := by omega
          subst e
          refine ⟨fun t ht => ?_, by unfold Inc; rw [List.length_map]; exact h2⟩
          obtain ⟨i, hi⟩ := List.getElem?_of_mem ht
          exact h1 i t (List.getElem?_eq_some_iff.1 hi).1 hi
      · intro o ho
        match o, ho with
        | .fall _, ho =>
          refine Ok.pure ?_
          intro n m hn hm
          by_cases e : n = j
          · subst e; rw [hl] at hm; cases hm; exact ho
          · exact hI n m (by omega) hm
        | .ret (.next _), ho => exact ho.elim
        | .ret (.stop (.fall _)), ho => exact ho.elim
        | .ret (.stop (.ret b)), ho => exact Ok.pure ho
    · intro s hI n l hl; exact hI n l (List.getElem?_eq_some_iff.1 hl).1 hl
  intro o ho
  match o, ho with
  | .ret b, ho => exact Ok.pure (fls ho.1 ho.2)
  | .fall s, ho =>
  have hte : ∀ (n : Nat) l, f.Nodes[n]? = some l → TermsOk l ((f.Inputs.length : Int) + n) := ho
  refine Ok.bind (P := OutP (fun _ => ∀ x ∈ f.Outs, 0 ≤ x ∧ x < (f.Inputs.length : Int) + f.Nodes.length) (fun b => b = false ∧ ¬ FMay f)) ?_ ?_
  · refine for0_ok (fun j _ => ∀ (n : Nat) x, n < j → f.Outs[n]? = some x → 0 ≤ x ∧ x < (f.Inputs.length : Int) + f.Nodes.length) (fun n l hn => by omega) ?_ ?_
    · intro j s hj hI
      refine Ok.idxN hj fun x hx => ?_
      rw [w64_id (x := (f.Inputs.length : Int) + (f.Nodes.length : Int)) (by omega) (by omega), idx_of rfl hx, Option.bind_some]
      refine Ok.ite (fun hc => Ok.pure ⟨rfl, fun h => by have := h.out x (List.mem_of_getElem? hx); omega⟩) fun hc => Ok.ite (fun hc2 => Ok.pure ⟨rfl, fun h => by have := h.out x (List.mem_of_getElem? hx); omega⟩) fun hc2 => Ok.pure ?_
      intro n y hn hy
      by_cases e : n = j
      · subst e; rw [hx] at hy; cases hy; omega
      · exact hI n y (by omega) hy
    · intro s hI x hx
      obtain ⟨i, hi⟩ := List.getElem?_of_mem hx
      exact hI i x (List.getElem?_eq_some_iff.1 hi).1 hi
  intro o ho
  match o, ho with
  | .ret b, ho => exact Ok.pure (fls ho.1 ho.2)
  | .fall s, ho => exact Ok.pure ⟨fun _ => ⟨by omega, by omega, hin, hte, ho⟩, fun _ => rfl⟩
end Go.RL
