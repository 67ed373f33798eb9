/- Plain laws of what the functions compute, no program in sight.
   Part of the proof of Rows.RegsFlowsSaid of the program 'recoup'. -/
import Derived.Test.YtoaimimdfddidaaPu15
set_option linter.unusedVariables false
set_option linter.unusedSimpArgs false
set_option linter.unusedSectionVars false
set_option linter.unusedVariables false
namespace Go.RL

/-! Give, whole: a program that makes what the flow makes, or too many values. -/

theorem GI.up {T : GFlow} {u : List Int} {i d made b b' : Nat} {s : S6} (h : GI T u i d made b s) (hb : b ≤ b') : GI T u i d made b' s :=
  ⟨h.sl, h.sc, h.r0, h.tl, h.al, h.ar, h.node, h.fresh, h.ok, h.no, fun hN => by have := h.bd hN; omega⟩

def Sb (n : Nat) : Nat → Nat
  | 0 => 0
  | i + 1 => Sb n i + (65 + n + i)
theorem Sb_eq (n : Nat) : ∀ i, 2 * Sb n i = i * (129 + 2 * n + i)
  | 0 => by simp [Sb]
  | i + 1 => by
    have := Sb_eq n i
    have e : (i + 1) * (129 + 2 * n + (i + 1)) = i * (129 + 2 * n + i) + (130 + 2 * n + 2 * i) := by
      rw [Nat.add_mul, Nat.one_mul, show 129 + 2 * n + (i + 1) = (129 + 2 * n + i) + 1 by omega, Nat.mul_add]; omega
    rw [e, Sb]; omega
theorem Sb_le {n i : Nat} (hn : n ≤ 64) (h : n + i ≤ 256) : Sb n i ≤ 57472 := by
  have := Sb_eq n i
  have : i * (129 + 2 * n + i) ≤ 256 * 449 := Nat.mul_le_mul (by omega) (by omega)
  omega

section
variable {T : GFlow} {u : List Int} {i d : Nat}

theorem ownfree_ok (hT : FMay T) (hU : Uses T u) (hi : i < T.Nodes.length) {at_ : List Int} {tk : List Bool} {r : Nat} (hr : r < 256) (htl : tk.length = 256) (hat : at_[T.Inputs.length + i]? = some (r : Int)) :
    Ok ((idx (u) ((T.Inputs.length + i : Nat) : Int)).bind fun x132821 => if x132821 = (i : Int) then ((idx at_ ((T.Inputs.length + i : Nat) : Int)).bind fun x132860 => (idx (tk) x132860).bind fun x132868 => some ((tk).set (x132860).toNat false)) else (if ((T.Inputs.length + i : Nat) : Int) = ((T.Inputs.length + i : Nat) : Int) then ((idx (u) ((T.Inputs.length + i : Nat) : Int)).bind fun x132876 => if x132876 < (0 : Int) then ((idx at_ ((T.Inputs.length + i : Nat) : Int)).bind fun x132915 => (idx (tk) x132915).bind fun x132923 => some ((tk).set (x132915).toNat false)) else (some (tk))) else (some (tk))) : Option (List Bool))
      (fun tk' => tk'.length = 256 ∧ ∀ (L : Nat → Nat → Prop) steps R, L (T.Inputs.length + i) r → GO T L steps R tk d → GO T (fun w q => L w q ∧ ¬ (w = T.Inputs.length + i ∧ ∃ y, u[w]? = some y ∧ y < 0)) steps R tk' d) := by
  have hul := hU.len
  have hu : u[T.Inputs.length + i]? = some (u[T.Inputs.length + i]'(by omega)) := List.getElem?_eq_getElem (by omega)
  generalize u[T.Inputs.length + i]'(by omega) = y at hu
  have hne : y ≠ (i : Int) := by
    intro e; subst e
    obtain ⟨l, hl, t, ht, e⟩ := hU.at_ _ _ hu (by omega) (by omega)
    rw [Int.toNat_natCast] at hl
    have := ((hT.terms i l hl).at ht).2; omega
  rw [idx_of rfl hu, Option.bind_some, if_neg hne, if_pos rfl, Option.bind_some]
  refine Ok.ite (fun hy => ?_) fun hy => Ok.pure ⟨htl, fun L steps R _ hG => hG.congr fun w q => ⟨fun h => ⟨h, ?_⟩, fun h => h.1⟩⟩
  · rw [idx_of rfl hat, Option.bind_some, idx_of rfl (List.getElem?_eq_getElem (show r < tk.length by omega)), Option.bind_some]
    refine Ok.pure ⟨by rw [List.length_set, htl], fun L steps R hL hG => ?_⟩
    rw [Int.toNat_natCast]
    refine (hG.free hL).congr fun w q => ⟨fun h => ⟨h.1, fun h2 => h.2 h2.1⟩, fun h => ⟨h.1, fun e => h.2 ⟨e, y, by rw [e]; exact hu, hy⟩⟩⟩
  · rintro ⟨rfl, y', h1, h2⟩
    rw [hu] at h1; cases h1; exact hy h2

theorem macs_ok {l : List GTerm} (hby : ∀ t ∈ l, isB t.By) {at_ : List Int} {r b : Nat} {own : Int} {z : List GStep} {k0 : Bool} (hown : idx at_ own = some (r : Int)) {a : Nat → Nat} (ha : ∀ t ∈ l, 0 ≤ t.Of ∧ at_[t.Of.toNat]? = some ((a t.Of.toNat : Nat) : Int))
    (hz : z.length ≤ 65536) (hsc : ∀ st ∈ z, isB st.C) {N : Nat} (hk : k0 = false → 256 < N) (hb : N ≤ 256 → z.length ≤ b) (hb2 : N ≤ 256 → b + l.length < 65536) :
    Ok (forN (fun (i136623 : Nat) (s136624 : List GStep × Bool) => ((idx (l) (i136623 : Int)).bind fun x136639 => (idx at_ own).bind fun x137238 => (idx at_ x136639.Of).bind fun x137240 => (app 32 (s136624.1) (([(⟨(3 : Int), x137238, x137240, x136639.By⟩ : GStep)] : List GStep))).bind fun x137242 => (if ((s136624.1).length : Int) = (65536 : Int) then (some (.next (s136624.1, false))) else (some (.next (x137242, s136624.2)))) : Option (Ctl _ _))) (fun (s136624 : List GStep × Bool) => (s136624.1, s136624.2)) ((l).length) 0 (z, k0) : Option (List GStep × Bool))
      (fun o => o.1.length ≤ 65536 ∧ (∀ st ∈ o.1, isB st.C) ∧ (o.2 = true → k0 = true ∧ o.1 = z ++ l.map (fun t => (⟨3, (r : Int), ((a t.Of.toNat : Nat) : Int), t.By⟩ : GStep))) ∧ (o.2 = false → 256 < N) ∧ (N ≤ 256 → o.1.length ≤ b + l.length)) := by
  have hlim : lim = 140737488355328 := rfl
  refine for0_ok (fun k o => o.1.length ≤ 65536 ∧ (∀ st ∈ o.1, isB st.C) ∧ (o.2 = true → k0 = true ∧ o.1 = z ++ (l.take k).map (fun t => (⟨3, (r : Int), ((a t.Of.toNat : Nat) : Int), t.By⟩ : GStep))) ∧ (o.2 = false → 256 < N) ∧ (N ≤ 256 → o.1.length ≤ b + k)) ⟨hz, hsc, fun h => ⟨h, by simp⟩, hk, fun hN => by have := hb hN; omega⟩ ?_ ?_
  · rintro k ⟨st, ok⟩ hkl ⟨h1, h2, h3, h4, h5⟩
    have h1 : st.length ≤ 65536 := h1
    refine Ok.idxN hkl fun t ht => ?_
    have htm := List.mem_of_getElem? ht
    obtain ⟨g0, g1⟩ := ha t htm
    rw [hown, Option.bind_some, idx_of (k := t.Of.toNat) (by omega) g1, Option.bind_some]
    refine Ok.app (by simp only [List.length_cons, List.length_nil]; omega) (Ok.ite (fun hf => Ok.pure ⟨h1, h2, fun h => (by cases h), fun _ => ?_, fun hN => by have := h5 hN; show st.length ≤ b + (k + 1); have : st.length ≤ b + k := this; omega⟩) fun hf => Ok.pure ⟨?_, ?_, ?_, h4, ?_⟩)
    · by_cases hN : N ≤ 256
      · have h6 : st.length ≤ b + k := h5 hN
        have := hb2 hN
        have : (st.length : Int) = 65536 := hf
        omega
      · omega
    · show (st ++ [_]).length ≤ 65536
      have : ¬ (st.length : Int) = 65536 := hf
      rw [List.length_append]; simp only [List.length_cons, List.length_nil]; omega
    · intro q hq
      rcases List.mem_append.1 hq with hq | hq
      · exact h2 q hq
      · rw [List.mem_singleton] at hq; subst hq; exact hby t htm
    · intro hok
      obtain ⟨h6, h7⟩ := h3 hok
      refine ⟨h6, ?_⟩
      have h7 : st = z ++ (l.take k).map (fun t => (⟨3, (r : Int), ((a t.Of.toNat : Nat) : Int), t.By⟩ : GStep)) := h7
      show st ++ [_] = _
      rw [List.take_add_one, ht, Option.toList_some, List.map_append, List.map_cons, List.map_nil, ← List.append_assoc, ← h7]
    · intro hN
      have : st.length ≤ b + k := h5 hN
      show (st ++ [_]).length ≤ b + (k + 1)
      rw [List.length_append]; simp only [List.length_cons, List.length_nil]; omega
  · rintro ⟨st, ok⟩ h
    rw [List.take_length] at h
    exact h
end

/-- what a program for a flow is good for -/
structure GoodP (T : GFlow) (p : GProgram) : Prop where
  may : MayP p
  c : ∀ s ∈ p.Steps, isB s.C
  outs : p.Outs = (T.Outs.length : Int)
  ex : ∀ bl, BlOk bl → SameLen bl → Within T bl → ∃ regs, runM bl (sizeOf0 bl) p.Steps (List.replicate p.Regs.toNat none, List.replicate p.Outs.toNat none) = some (regs, (outV T (valV T bl)).map some)
end Go.RL
