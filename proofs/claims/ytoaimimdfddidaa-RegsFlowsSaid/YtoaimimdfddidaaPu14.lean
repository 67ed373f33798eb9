/- Plain laws of what the functions compute, no program in sight.
   Part of the proof of Rows.RegsFlowsSaid of the program 'recoup'. -/
import Derived.Test.YtoaimimdfddidaaPu13
set_option linter.unusedVariables false
set_option linter.unusedSimpArgs false
set_option linter.unusedSectionVars false
set_option linter.unusedVariables false
namespace Go.RL

/-! Registers: what is live lies where the giver says. -/

/-- the values of a flow over blocks -/
def valV (T : GFlow) (bl : List (List Int)) : List (List Int) := flowV T.Nodes (sizeOf0 bl) (insV T bl)
theorem valV_len (T : GFlow) (bl : List (List Int)) : (valV T bl).length = T.Inputs.length + T.Nodes.length := by
  unfold valV insV; rw [flowV_len, List.length_map]
def outD (T : GFlow) (bl : List (List Int)) (d : Nat) : Rg := ((outV T (valV T bl)).take d).map some ++ List.replicate (T.Outs.length - d) none

def Ex (T : GFlow) (steps : List GStep) (R : Int) (Post : List (List Int) → Rg → Rg → Prop) : Prop :=
  ∀ bl, BlOk bl → SameLen bl → Within T bl → ∀ NR : Nat, R ≤ NR → ∃ regs outs, runM bl (sizeOf0 bl) steps (List.replicate NR none, List.replicate T.Outs.length none) = some (regs, outs) ∧ regs.length = NR ∧ Post bl regs outs

theorem Ex.step {T : GFlow} {steps : List GStep} {R R' : Int} {P Q : List (List Int) → Rg → Rg → Prop} {s : GStep} (h : Ex T steps R P) (hR : R ≤ R')
    (hs : ∀ bl regs outs, BlOk bl → SameLen bl → Within T bl → R' ≤ (regs.length : Int) → P bl regs outs → ∃ regs' outs', stepM bl (sizeOf0 bl) s (regs, outs) = some (regs', outs') ∧ regs'.length = regs.length ∧ Q bl regs' outs') : Ex T (steps ++ [s]) R' Q := by
  intro bl hb hS hW NR hN
  obtain ⟨regs, outs, h1, h2, h3⟩ := h bl hb hS hW NR (by omega)
  obtain ⟨regs', outs', g1, g2, g3⟩ := hs bl regs outs hb hS hW (by omega) h3
  exact ⟨regs', outs', runM_snoc h1 g1, by omega, g3⟩
theorem Ex.mono {T : GFlow} {steps : List GStep} {R R' : Int} {P Q : List (List Int) → Rg → Rg → Prop} (h : Ex T steps R P) (hR : R ≤ R') (hs : ∀ bl regs outs, P bl regs outs → Q bl regs outs) : Ex T steps R' Q := by
  intro bl hb hS hW NR hN
  obtain ⟨regs, outs, h1, h2, h3⟩ := h bl hb hS hW NR (by omega)
  exact ⟨regs, outs, h1, h2, hs _ _ _ h3⟩

def PL (T : GFlow) (L : Nat → Nat → Prop) (d : Nat) (bl : List (List Int)) (regs outs : Rg) : Prop :=
  (∀ v r, L v r → ∃ w, (valV T bl)[v]? = some w ∧ regs[r]? = some (some w)) ∧ outs = outD T bl d

structure GO (T : GFlow) (L : Nat → Nat → Prop) (steps : List GStep) (R : Int) (taken : List Bool) (d : Nat) : Prop where
  inj : ∀ v w r, L v r → L w r → v = w
  fn : ∀ v r q, L v r → L v q → r = q
  tk : ∀ v r, L v r → (r : Int) < R ∧ taken[r]? = some true
  on : ∀ r : Nat, taken[r]? = some true → ∃ v, L v r
  ex : Ex T steps R (PL T L d)

theorem GO.congr {T : GFlow} {L L' : Nat → Nat → Prop} {steps : List GStep} {R : Int} {taken : List Bool} {d : Nat} (h : GO T L steps R taken d) (hL : ∀ v r, L v r ↔ L' v r) : GO T L' steps R taken d := by
  have : L = L' := by funext v r; exact propext (hL v r)
  rw [← this]; exact h

theorem mxI_le (a b : Int) : a ≤ mxI a b ∧ b ≤ mxI a b ∧ (mxI a b = a ∨ mxI a b = b) := by
  unfold mxI
  split <;> omega

section
variable {T : GFlow} {L : Nat → Nat → Prop} {steps : List GStep} {R : Int} {taken : List Bool} {d r : Nat}

/-- a register is taken for a value; what has been done fills it -/
theorem GO.hold (h : GO T L steps R taken d) (hr : taken[r]? = some false) {v : Nat} (hv : ∀ q, ¬ L v q) {steps' : List GStep}
    (hex : Ex T steps' (mxI R (r + 1)) (fun bl regs outs => PL T L d bl regs outs ∧ ∃ w, (valV T bl)[v]? = some w ∧ regs[r]? = some (some w))) :
    GO T (fun w q => L w q ∨ (w = v ∧ q = r)) steps' (mxI R (r + 1)) (taken.set r true) d := by
  have hrl := (List.getElem?_eq_some_iff.1 hr).1
  have hm := mxI_le R ((r : Int) + 1)
  have hnr : ∀ w, ¬ L w r := fun w hw => by have := (h.tk w r hw).2; rw [hr] at this; cases this
  refine ⟨?_, ?_, ?_, ?_, ?_⟩
  · rintro a b q (h1 | ⟨rfl, rfl⟩) (h2 | ⟨rfl, h2⟩)
    · exact h.inj a b q h1 h2
    · subst h2; exact absurd h1 (hnr a)
    · exact absurd h2 (hnr b)
    · rfl
  · rintro a q q' (h1 | ⟨rfl, rfl⟩) (h2 | ⟨h3, h2⟩)
    · exact h.fn a q q' h1 h2
    · subst h3; exact absurd h1 (hv q)
    · exact absurd h2 (hv q')
    · rw [h2]
  · rintro a q (h1 | ⟨rfl, rfl⟩)
    · have := h.tk a q h1
      refine ⟨by omega, ?_⟩
      by_cases e : q = r
      · subst e; exact set_get hrl
      · rw [set_ne e]; exact this.2
    · exact ⟨by omega, set_get hrl⟩
  · intro q hq
    rcases get_set hq with ⟨rfl, _⟩ | ⟨_, hq⟩
    · exact ⟨v, .inr ⟨rfl, rfl⟩⟩
    · obtain ⟨w, hw⟩ := h.on q hq; exact ⟨w, .inl hw⟩
  · refine hex.mono (Int.le_refl _) fun bl regs outs hp => ⟨?_, hp.1.2⟩
    rintro a q (h1 | ⟨rfl, rfl⟩)
    · exact hp.1.1 a q h1
    · exact hp.2

theorem PL.set {bl : List (List Int)} {regs outs : Rg} {o : Option (List Int)} (h : PL T L d bl regs outs) (hr : ∀ w, ¬ L w r) : PL T L d bl (regs.set r o) outs := by
  refine ⟨fun v q hq => ?_, h.2⟩
  obtain ⟨w, h1, h2⟩ := h.1 v q hq
  refine ⟨w, h1, ?_⟩
  rw [set_ne (fun e => hr v (by rw [← e]; exact hq))]; exact h2

theorem inL_nat {n k : Nat} (h : n < k) : inL (n : Int) k := ⟨by omega, by omega⟩

theorem GO.load (hT : FMay T) (h : GO T L steps R taken d) (hr : taken[r]? = some false) {v : Nat} (hv : ∀ q, ¬ L v q) {x : Int} (hx : T.Inputs[v]? = some x) :
    GO T (fun w q => L w q ∨ (w = v ∧ q = r)) (steps ++ [⟨2, (r : Int), x, 0⟩]) (mxI R (r + 1)) (taken.set r true) d := by
  have hm := mxI_le R ((r : Int) + 1)
  have hnr : ∀ w, ¬ L w r := fun w hw => by have := (h.tk w r hw).2; rw [hr] at this; cases this
  refine h.hold hr hv (h.ex.step hm.1 fun bl regs outs hb hS hW hN hp => ?_)
  have hx0 := hT.ins.at hx
  have hx1 := hW x (List.mem_of_getElem? hx)
  have e : bl[x.toNat]? = some (bl[x.toNat]'(by omega)) := List.getElem?_eq_getElem (by omega)
  refine ⟨regs.set r (some (bl.getD x.toNat [])), outs, ?_, List.length_set, hp.set hnr, bl.getD x.toNat [], ?_, set_get (by omega)⟩
  · show stepM bl (sizeOf0 bl) ⟨2, (r : Int), x, 0⟩ (regs, outs) = _
    unfold stepM
    rw [if_neg (show ¬ (2 : Int) = 1 by decide), if_pos rfl, if_pos (show inL (r : Int) regs.length ∧ inL x bl.length from ⟨inL_nat (by omega), hx0.1, hx1⟩)]
    rfl
  · exact flowV_ins (by unfold insV; rw [List.getElem?_map, hx]; rfl)

/-- a node: cleared, then each term -/
theorem GO.node (hT : FMay T) (h : GO T L steps R taken d) (hr : taken[r]? = some false) {i : Nat} {l : List GTerm} (hl : T.Nodes[i]? = some l) (hv : ∀ q, ¬ L (T.Inputs.length + i) q)
    {a : Nat → Nat} (ha : ∀ t ∈ l, L t.Of.toNat (a t.Of.toNat)) :
    GO T (fun w q => L w q ∨ (w = T.Inputs.length + i ∧ q = r)) (steps ++ [⟨1, (r : Int), 0, 0⟩] ++ l.map (fun t => (⟨3, (r : Int), ((a t.Of.toNat : Nat) : Int), t.By⟩ : GStep))) (mxI R (r + 1)) (taken.set r true) d := by
  have hm := mxI_le R ((r : Int) + 1)
  have hnr : ∀ w, ¬ L w r := fun w hw => by have := (h.tk w r hw).2; rw [hr] at this; cases this
  have hTl := hT.terms i l hl
  refine h.hold hr hv ?_
  have key : ∀ k, k ≤ l.length → Ex T (steps ++ [⟨1, (r : Int), 0, 0⟩] ++ (l.take k).map (fun t => (⟨3, (r : Int), ((a t.Of.toNat : Nat) : Int), t.By⟩ : GStep))) (mxI R (r + 1))
      (fun bl regs outs => PL T L d bl regs outs ∧ regs[r]? = some (some (nodeV (valV T bl) (sizeOf0 bl) (l.take k)))) := by
    intro k
    induction k with
    | zero =>
      intro _
      rw [List.take_zero, List.map_nil, List.append_nil]
      refine h.ex.step hm.1 fun bl regs outs hb hS hW hN hp => ?_
      refine ⟨regs.set r (some (List.replicate (sizeOf0 bl) 0)), outs, ?_, List.length_set, hp.set hnr, set_get (by omega)⟩
      unfold stepM
      rw [if_pos rfl, if_pos (show inL (r : Int) regs.length from inL_nat (by omega))]
      rfl
    | succ k ih =>
      intro hk
      have ht : l[k]? = some (l[k]'(by omega)) := List.getElem?_eq_getElem (by omega)
      generalize l[k]'(by omega) = t at ht
      have htm := List.mem_of_getElem? ht
      rw [List.take_add_one, ht, Option.toList_some, List.map_append, List.map_cons, List.map_nil, ← List.append_assoc]
      refine (ih (by omega)).step (Int.le_refl _) fun bl regs outs hb hS hW hN hp => ?_
      obtain ⟨w, h1, h2⟩ := hp.1.1 _ _ (ha t htm)
      have hal := (List.getElem?_eq_some_iff.1 h2).1
      refine ⟨regs.set r (some (mac (nodeV (valV T bl) (sizeOf0 bl) (l.take k)) t.By w)), outs, ?_, List.length_set, hp.1.set hnr, ?_⟩
      · unfold stepM
        rw [if_neg (show ¬ (3 : Int) = 1 by decide), if_neg (show ¬ (3 : Int) = 2 by decide), if_pos rfl, if_pos (show inL (r : Int) regs.length ∧ inL ((a t.Of.toNat : Nat) : Int) regs.length from ⟨inL_nat (by omega), inL_nat hal⟩)]
        show (match regs.getD r none, regs.getD (a t.Of.toNat) none with
          | some d, some v => some (regs.set r (some (mac d t.By v)), outs)
          | _, _ => none) = _
        rw [getD_of hp.2, getD_of h2]
      · rw [set_get (by omega)]
        congr 2
        unfold nodeV
        rw [List.foldl_append, List.foldl_cons, List.foldl_nil, List.getD_eq_getElem?_getD, h1, Option.getD_some]
  have := key l.length (Nat.le_refl _)
  rw [List.take_length] at this
  refine this.mono (Int.le_refl _) fun bl regs outs hp => ⟨hp.1, _, ?_, hp.2⟩
  exact flowV_node hT (by unfold insV; rw [List.length_map]) hl

theorem GO.free (h : GO T L steps R taken d) {v : Nat} (hL : L v r) : GO T (fun w q => L w q ∧ w ≠ v) steps R (taken.set r false) d := by
  refine ⟨fun a b q h1 h2 => h.inj a b q h1.1 h2.1, fun a q q' h1 h2 => h.fn a q q' h1.1 h2.1, ?_, ?_, h.ex.mono (Int.le_refl _) fun bl regs outs hp => ⟨fun a q hq => hp.1 a q hq.1, hp.2⟩⟩
  · rintro a q ⟨h1, h2⟩
    have := h.tk a q h1
    refine ⟨this.1, ?_⟩
    rw [set_ne]; exact this.2
    intro e; subst e; exact h2 (h.inj a v q h1 hL)
  · intro q hq
    rcases get_set hq with ⟨_, e⟩ | ⟨e, hq⟩
    · cases e
    · obtain ⟨w, hw⟩ := h.on q hq
      exact ⟨w, hw, fun e2 => e (by subst e2; exact h.fn w q r hw hL)⟩

theorem outD_set {bl : List (List Int)} {o : Int} (hT : FMay T) (ho : T.Outs[d]? = some o) : (outD T bl d)[d]? = some none ∧ (outD T bl d).length = T.Outs.length ∧ ∀ w, (valV T bl)[o.toNat]? = some w → (outD T bl d).set d (some w) = outD T bl (d + 1) := by
  have hd := (List.getElem?_eq_some_iff.1 ho).1
  have hlen : (outV T (valV T bl)).length = T.Outs.length := by unfold outV; rw [List.length_map]
  have hlt : (((outV T (valV T bl)).take d).map some).length = d := by rw [List.length_map, List.length_take]; omega
  refine ⟨?_, ?_, fun w hw => ?_⟩
  · unfold outD
    rw [List.getElem?_append_right (by rw [hlt]; exact Nat.le_refl _), hlt, Nat.sub_self, List.getElem?_replicate, if_pos (by omega)]
  · unfold outD; rw [List.length_append, hlt, List.length_replicate]; omega
  · unfold outD
    have e : (outV T (valV T bl))[d]? = some w := by
      unfold outV; rw [List.getElem?_map, ho]
      show some ((valV T bl).getD o.toNat []) = some w
      rw [List.getD_eq_getElem?_getD, hw]; rfl
    rw [List.take_add_one, e, Option.toList_some, List.map_append, List.map_cons, List.map_nil, List.set_append_right _ _ (by rw [hlt]; exact Nat.le_refl _), hlt, Nat.sub_self, List.append_assoc]
    congr 1
    obtain ⟨k, hk⟩ : ∃ k, T.Outs.length - d = k + 1 := ⟨T.Outs.length - d - 1, by omega⟩
    rw [hk, show T.Outs.length - (d + 1) = k by omega, List.replicate_succ]
    rfl

theorem GO.out (hT : FMay T) (h : GO T L steps R taken d) {o : Int} (ho : T.Outs[d]? = some o) (hL : L o.toNat r) : GO T L (steps ++ [⟨4, (d : Int), (r : Int), 0⟩]) R taken (d + 1) := by
  refine ⟨h.inj, h.fn, h.tk, h.on, h.ex.step (Int.le_refl _) fun bl regs outs hb hS hW hN hp => ?_⟩
  obtain ⟨w, h1, h2⟩ := hp.1 _ _ hL
  have hrl := (List.getElem?_eq_some_iff.1 h2).1
  have hd := (List.getElem?_eq_some_iff.1 ho).1
  obtain ⟨o1, o2, o3⟩ := outD_set (bl := bl) hT ho
  have hp2 := hp.2
  subst hp2
  refine ⟨regs, (outD T bl d).set d (some w), ?_, rfl, hp.1, o3 w h1⟩
  unfold stepM
  rw [if_neg (show ¬ (4 : Int) = 1 by decide), if_neg (show ¬ (4 : Int) = 2 by decide), if_neg (show ¬ (4 : Int) = 3 by decide), if_pos rfl, if_pos (show inL (r : Int) regs.length from inL_nat hrl)]
  show (match regs.getD r none with
    | some v => if inL (d : Int) (outD T bl d).length then (match (outD T bl d).getD d none with | none => some (regs, (outD T bl d).set d (some v)) | some _ => none) else none
    | none => none) = _
  rw [getD_of h2]
  show (if inL (d : Int) (outD T bl d).length then (match (outD T bl d).getD d none with | none => some (regs, (outD T bl d).set d (some w)) | some _ => none) else none) = _
  rw [if_pos (inL_nat (by omega)), getD_of o1]

/-- more than 256 values, if every register is taken -/
theorem inj_le : ∀ (m n : Nat) (f : Nat → Nat), (∀ i, i < n → f i < m) → (∀ i j, i < n → j < n → f i = f j → i = j) → n ≤ m
  | 0, n, f, h1, _ => by
    by_cases h : n = 0
    · omega
    · have := h1 0 (by omega); omega
  | m + 1, n, f, h1, h2 => by
    by_cases h : ∃ i, i < n ∧ f i = m
    · obtain ⟨i, hi, he⟩ := h
      have := inj_le m (n - 1) (fun j => if j = i then f (n - 1) else f j) (fun j hj => ?_) (fun j k hj hk e => ?_)
      · omega
      · show (if j = i then f (n - 1) else f j) < m
        split
        · rename_i e
          have h3 := h1 (n - 1) (by omega)
          have : f (n - 1) ≠ m := fun e2 => by have := h2 (n - 1) i (by omega) hi (by omega); omega
          omega
        · rename_i e
          have h3 := h1 j (by omega)
          have : f j ≠ m := fun e2 => e (h2 j i (by omega) hi (by omega))
          omega
      · have e : (if j = i then f (n - 1) else f j) = (if k = i then f (n - 1) else f k) := e
        split at e <;> split at e
        · omega
        · have := h2 (n - 1) k (by omega) (by omega) e; omega
        · have := h2 j (n - 1) (by omega) (by omega) e; omega
        · exact h2 j k (by omega) (by omega) e
    · have := inj_le m n f (fun i hi => ?_) h2
      · omega
      · have h3 := h1 i hi
        have : f i ≠ m := fun e => h ⟨i, hi, e⟩
        omega

theorem GO.full (h : GO T L steps R taken d) (htl : taken.length = 256) {N v : Nat} (hLN : ∀ w q, L w q → w < N) (hv : ∀ q, ¬ L v q) (hvN : v < N) (hall : ∀ (i : Nat) b, taken[i]? = some b → b = true) : 256 < N := by
  have hon : ∀ r : Nat, r < 256 → ∃ w, L w r := fun r hr => h.on r (by
    have e : taken[r]? = some (taken[r]'(by omega)) := List.getElem?_eq_getElem (by omega)
    rw [e, hall r _ e])
  obtain ⟨g, hg⟩ : ∃ g : Fin 256 → Nat, ∀ r : Fin 256, L (g r) r.1 := ⟨fun r => (hon r.1 r.2).choose, fun r => (hon r.1 r.2).choose_spec⟩
  have key := inj_le N 257 (fun i => if hi : i < 256 then g ⟨i, hi⟩ else v) (fun i hi => ?_) (fun i j hi hj e => ?_)
  · omega
  · show (if hi : i < 256 then g ⟨i, hi⟩ else v) < N
    split
    · rename_i h0; exact hLN _ _ (hg ⟨i, h0⟩)
    · exact hvN
  · have e : (if hi : i < 256 then g ⟨i, hi⟩ else v) = (if hj : j < 256 then g ⟨j, hj⟩ else v) := e
    split at e <;> split at e
    · rename_i h1 h2
      have a1 := hg ⟨i, h1⟩
      have a2 := hg ⟨j, h2⟩
      rw [e] at a1
      exact h.fn _ i j a1 a2
    · rename_i h1 h2
      have a1 := hg ⟨i, h1⟩
      rw [e] at a1; exact absurd a1 (hv _)
    · rename_i h1 h2
      have a2 := hg ⟨j, h2⟩
      rw [← e] at a2; exact absurd a2 (hv _)
    · omega
end
end Go.RL
