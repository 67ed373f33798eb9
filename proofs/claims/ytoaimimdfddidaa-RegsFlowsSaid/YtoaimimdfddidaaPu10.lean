/- Plain laws of what the functions compute, no program in sight.
   Part of the proof of Rows.RegsFlowsSaid of the program 'recoup'. -/
import Derived.Test.YtoaimimdfddidaaPu9
set_option linter.unusedVariables false
set_option linter.unusedSimpArgs false
set_option linter.unusedSectionVars false
set_option linter.unusedVariables false
namespace Go.RL

/-! A trimmed flow may be, and its values are those of the flow. -/

theorem Inc.ltg {xs : List Int} {k : Int} (h : Inc xs k) : ∀ {d i : Nat} {x y : Int}, xs[i]? = some x → xs[i + d + 1]? = some y → x < y
  | 0, i, x, y, hx, hy => h.lt hx hy
  | d + 1, i, x, y, hx, hy => by
    have hl := (List.getElem?_eq_some_iff.1 hy).1
    have h0 : xs[i + d + 1]? = some (xs[i + d + 1]'(by omega)) := List.getElem?_eq_getElem (by omega)
    have h1 := Inc.ltg h hx h0
    have h2 := h.lt h0 (by rw [show i + d + 1 + 1 = i + (d + 1) + 1 by omega]; exact hy)
    omega
theorem Inc.ltn {xs : List Int} {k : Int} (h : Inc xs k) {i j : Nat} {x y : Int} (hij : i < j) (hx : xs[i]? = some x) (hy : xs[j]? = some y) : x < y :=
  h.ltg (d := j - i - 1) hx (by rw [show i + (j - i - 1) + 1 = j by omega]; exact hy)
theorem Inc.mk' {xs : List Int} {k : Int} (h1 : ∀ (i : Nat) x, xs[i]? = some x → 0 ≤ x ∧ x < k) (h2 : ∀ (i : Nat) x y, xs[i]? = some x → xs[i + 1]? = some y → x < y) : Inc xs k :=
  ⟨fun i x _ hx => h1 i x hx, fun i x y _ hx hy => h2 i x y hx hy⟩

section
variable {f t : GFlow} {sel : List Nat}
theorem Sel.get (h : Sel f t sel) {p : Nat} (hp : p < sel.length) : ∃ i, sel[p]? = some i := ⟨_, List.getElem?_eq_getElem hp⟩
theorem Sel.insLe (h : Sel f t sel) : t.Inputs.length ≤ f.Inputs.length := by
  have low : ∀ (p i : Nat), sel[p]? = some i → p ≤ i := by
    intro p
    induction p with
    | zero => intro i _; omega
    | succ p ih =>
      intro i hi
      have hl := (List.getElem?_eq_some_iff.1 hi).1
      obtain ⟨j, hj⟩ := h.get (p := p) (by omega)
      have := ih _ hj
      have := h.inc p (p + 1) _ i (by omega) hj hi
      omega
  by_cases h0 : t.Inputs.length = 0
  · omega
  · have hl := h.len
    obtain ⟨j, hj⟩ := h.get (p := t.Inputs.length - 1) (by omega)
    have := low _ _ hj
    have := (h.ins _ _ (by omega) hj).1
    omega
theorem Sel.nodesLe (h : Sel f t sel) : t.Nodes.length ≤ f.Nodes.length := by
  have hl := h.len
  have low : ∀ (p i : Nat), sel[t.Inputs.length + p]? = some i → f.Inputs.length + p ≤ i := by
    intro p
    induction p with
    | zero => intro i hi; have := (h.nodes _ _ (by omega) hi).1; omega
    | succ p ih =>
      intro i hi
      have hl := (List.getElem?_eq_some_iff.1 hi).1
      obtain ⟨j, hj⟩ := h.get (p := t.Inputs.length + p) (by omega)
      have := ih _ hj
      have := h.inc _ _ _ i (by omega) hj hi
      omega
  by_cases h0 : t.Nodes.length = 0
  · omega
  · obtain ⟨j, hj⟩ := h.get (p := t.Inputs.length + (t.Nodes.length - 1)) (by omega)
    have := low _ _ hj
    have := h.below _ _ hj
    omega
theorem Sel.pos (h : Sel f t sel) {p q i j : Nat} (hp : sel[p]? = some i) (hq : sel[q]? = some j) (hij : i < j) : p < q := by
  by_cases e : p = q
  · subst e; rw [hp] at hq; cases hq; omega
  · by_cases e2 : q < p
    · have := h.inc q p j i e2 hq hp; omega
    · omega

theorem Sel.row (h : Sel f t sel) {n : Nat} {l' : List GTerm} (hl : t.Nodes[n]? = some l') : ∃ i l, sel[t.Inputs.length + n]? = some i ∧ f.Inputs.length ≤ i ∧ f.Nodes[i - f.Inputs.length]? = some l ∧ l'.length = l.length ∧
    ∀ (k : Nat) (u u' : GTerm), l[k]? = some u → l'[k]? = some u' → u'.By = u.By ∧ 0 ≤ u'.Of ∧ ∃ o : Nat, sel[u'.Of.toNat]? = some o ∧ u.Of = (o : Int) := by
  have hlen := h.len
  have hn := (List.getElem?_eq_some_iff.1 hl).1
  obtain ⟨i, hi⟩ := h.get (p := t.Inputs.length + n) (by omega)
  obtain ⟨g1, l, l2, g2, g3, g4, g5⟩ := h.nodes _ _ (by omega) hi
  rw [show t.Inputs.length + n - t.Inputs.length = n by omega, hl] at g3
  cases g3
  exact ⟨i, l, hi, g1, g2, g4, g5⟩

theorem Sel.may (h : Sel f t sel) (hf : FMay f) : FMay t := by
  have hlen := h.len
  have hnl := h.nodesLe
  have hfn := hf.nodes
  refine ⟨by omega, by rw [h.outs.1]; exact hf.outs, ?_, ?_, ?_⟩
  · refine Inc.mk' (fun i x hx => ?_) fun i x y hx hy => ?_
    · have hi := (List.getElem?_eq_some_iff.1 hx).1
      obtain ⟨j, hj⟩ := h.get (p := i) (by omega)
      have := (h.ins i j hi hj).2
      rw [hx] at this
      exact hf.ins.at this.symm
    · have hi := (List.getElem?_eq_some_iff.1 hy).1
      obtain ⟨j, hj⟩ := h.get (p := i) (by omega)
      obtain ⟨k, hk⟩ := h.get (p := i + 1) (by omega)
      have h1 := (h.ins i j (by omega) hj).2
      have h2 := (h.ins (i + 1) k hi hk).2
      rw [hx] at h1; rw [hy] at h2
      exact hf.ins.ltn (h.inc i (i + 1) j k (by omega) hj hk) h1.symm h2.symm
  · intro n l' hl'
    obtain ⟨i, l, hi, g1, g2, g3, g4⟩ := h.row hl'
    have hT := hf.terms _ l g2
    have old : ∀ (k : Nat) (u' : GTerm), l'[k]? = some u' → ∃ u, l[k]? = some u := fun k u' hu' => ⟨_, List.getElem?_eq_getElem (by have := (List.getElem?_eq_some_iff.1 hu').1; omega)⟩
    refine ⟨fun u' hu' => ?_, Inc.mk' (fun k x hx => ?_) fun k x y hx hy => ?_⟩
    · obtain ⟨k, hk⟩ := List.getElem?_of_mem hu'
      obtain ⟨u, hu⟩ := old k u' hk
      rw [(g4 k u u' hu hk).1]
      exact hT.by0 u (List.mem_of_getElem? hu)
    · rw [List.getElem?_map] at hx
      cases hk : l'[k]? with
      | none => rw [hk] at hx; cases hx
      | some u' =>
        rw [hk] at hx; cases hx
        obtain ⟨u, hu⟩ := old k u' hk
        obtain ⟨_, q1, o, q2, q3⟩ := g4 k u u' hu hk
        have := hT.at (List.mem_of_getElem? hu)
        have := h.pos q2 hi (by omega)
        exact ⟨q1, by show u'.Of < _; omega⟩
    · rw [List.getElem?_map] at hx hy
      cases hk : l'[k]? with
      | none => rw [hk] at hx; cases hx
      | some u' =>
        cases hk2 : l'[k + 1]? with
        | none => rw [hk2] at hy; cases hy
        | some v' =>
          rw [hk] at hx; cases hx; rw [hk2] at hy; cases hy
          obtain ⟨u, hu⟩ := old k u' hk
          obtain ⟨v, hv⟩ := old (k + 1) v' hk2
          obtain ⟨_, q1, o, q2, q3⟩ := g4 k u u' hu hk
          obtain ⟨_, r1, o2, r2, r3⟩ := g4 (k + 1) v v' hv hk2
          have := hT.of.lt (i := k) (x := u.Of) (y := v.Of) (by rw [List.getElem?_map, hu]; rfl) (by rw [List.getElem?_map, hv]; rfl)
          have := h.pos q2 r2 (by omega)
          show u'.Of < v'.Of
          omega
  · intro x hx
    obtain ⟨k, hk⟩ := List.getElem?_of_mem hx
    have hkl := (List.getElem?_eq_some_iff.1 hk).1
    have ho : f.Outs[k]? = some (f.Outs[k]'(by have := h.outs.1; omega)) := List.getElem?_eq_getElem _
    obtain ⟨q1, i, q2, _⟩ := h.outs.2 k _ x ho hk
    have := (List.getElem?_eq_some_iff.1 q2).1
    exact ⟨q1, by omega⟩

theorem Sel.byb (h : Sel f t sel) (hb : ByB f) : ByB t := by
  intro l' hl' u' hu'
  obtain ⟨n, hn⟩ := List.getElem?_of_mem hl'
  obtain ⟨k, hk⟩ := List.getElem?_of_mem hu'
  obtain ⟨i, l, hi, g1, g2, g3, g4⟩ := h.row hn
  have hkl := (List.getElem?_eq_some_iff.1 hk).1
  have hu : l[k]? = some (l[k]'(by omega)) := List.getElem?_eq_getElem (by omega)
  rw [(g4 k _ u' hu hk).1]
  exact hb l (List.mem_of_getElem? g2) _ (List.mem_of_getElem? hu)
end

/-! values -/
theorem nodeV_congr {vs vs' : List (List Int)} {size : Nat} {l l' : List GTerm} (hl : l'.length = l.length)
    (h : ∀ (k : Nat) (u u' : GTerm), l[k]? = some u → l'[k]? = some u' → u'.By = u.By ∧ vs'.getD u'.Of.toNat [] = vs.getD u.Of.toNat []) : nodeV vs' size l' = nodeV vs size l := by
  unfold nodeV
  generalize List.replicate size (0 : Int) = s
  induction l generalizing l' s with
  | nil => have : l' = [] := List.eq_nil_of_length_eq_zero hl
           subst this; rfl
  | cons u l ih =>
    cases l' with
    | nil => simp at hl
    | cons u' l' =>
      have h0 := h 0 u u' rfl rfl
      rw [List.foldl_cons, List.foldl_cons, h0.1, h0.2]
      exact ih (by simpa using hl) (fun k a b ha hb => h (k + 1) a b ha hb) _

theorem flowV_snoc (nodes : List (List GTerm)) (l : List GTerm) (size : Nat) (vs : List (List Int)) : flowV (nodes ++ [l]) size vs = flowV nodes size vs ++ [nodeV (flowV nodes size vs) size l] := by
  unfold flowV; rw [List.foldl_append]; rfl
theorem flowV_pre (a b : List (List GTerm)) (size : Nat) (vs : List (List Int)) {i : Nat} {v : List Int} (h : (flowV a size vs)[i]? = some v) : (flowV (a ++ b) size vs)[i]? = some v := by
  induction b generalizing a with
  | nil => rw [List.append_nil]; exact h
  | cons l b ih =>
    rw [show a ++ l :: b = (a ++ [l]) ++ b by simp]
    refine ih _ ?_
    rw [flowV_snoc]
    exact get_snoc h
theorem flowV_ins {nodes : List (List GTerm)} {size : Nat} {vs : List (List Int)} {i : Nat} {v : List Int} (h : vs[i]? = some v) : (flowV nodes size vs)[i]? = some v := flowV_pre [] nodes size vs h
theorem flowV_node {f : GFlow} (hf : FMay f) {size : Nat} {vs : List (List Int)} (hv : vs.length = f.Inputs.length) {n : Nat} {l : List GTerm} (hl : f.Nodes[n]? = some l) :
    (flowV f.Nodes size vs)[f.Inputs.length + n]? = some (nodeV (flowV f.Nodes size vs) size l) := by
  have hn := (List.getElem?_eq_some_iff.1 hl).1
  have hsp : f.Nodes = (f.Nodes.take n ++ [l]) ++ f.Nodes.drop (n + 1) := by
    conv => lhs; rw [← List.take_append_drop (n + 1) f.Nodes]
    rw [List.take_add_one, hl]; rfl
  have hlen : (flowV (f.Nodes.take n) size vs).length = f.Inputs.length + n := by rw [flowV_len, hv, List.length_take]; omega
  have h1 : (flowV (f.Nodes.take n ++ [l]) size vs)[f.Inputs.length + n]? = some (nodeV (flowV (f.Nodes.take n) size vs) size l) := by
    rw [flowV_snoc, ← hlen]; exact get_last _ _
  have h2 := flowV_pre _ (f.Nodes.drop (n + 1)) size vs h1
  rw [← hsp] at h2
  rw [h2]
  congr 1
  refine nodeV_congr rfl fun k u u' hu hu' => ?_
  rw [hu] at hu'; cases hu'
  refine ⟨rfl, ?_⟩
  have h0 := (hf.terms n l hl).at (List.mem_of_getElem? hu)
  have hx : (flowV (f.Nodes.take n) size vs)[u.Of.toNat]? = some ((flowV (f.Nodes.take n) size vs)[u.Of.toNat]'(by omega)) := List.getElem?_eq_getElem (by omega)
  have hy : (flowV f.Nodes size vs)[u.Of.toNat]? = some ((flowV (f.Nodes.take n) size vs)[u.Of.toNat]'(by omega)) := by
    conv => lhs; rw [hsp, List.append_assoc]
    exact flowV_pre _ _ size vs hx
  rw [List.getD_eq_getElem?_getD, List.getD_eq_getElem?_getD, hx, hy]

theorem Sel.val {f t : GFlow} {sel : List Nat} (h : Sel f t sel) (hf : FMay f) (bl : List (List Int)) (size : Nat) : ∀ (p i : Nat), sel[p]? = some i → (flowV t.Nodes size (insV t bl))[p]? = (flowV f.Nodes size (insV f bl))[i]? := by
  have ht := h.may hf
  have hlen := h.len
  intro p
  induction p using Nat.strongRecOn with
  | _ p ih =>
    intro i hi
    have hp := (List.getElem?_eq_some_iff.1 hi).1
    by_cases hc : p < t.Inputs.length
    · obtain ⟨g1, g2⟩ := h.ins p i hc hi
      have hx : t.Inputs[p]? = some (t.Inputs[p]'hc) := List.getElem?_eq_getElem hc
      rw [flowV_ins (v := bl.getD (t.Inputs[p]'hc).toNat []) (by unfold insV; rw [List.getElem?_map, hx]; rfl), flowV_ins (v := bl.getD (t.Inputs[p]'hc).toNat []) (by unfold insV; rw [List.getElem?_map, ← g2, hx]; rfl)]
    · have hl : t.Nodes[p - t.Inputs.length]? = some (t.Nodes[p - t.Inputs.length]'(by omega)) := List.getElem?_eq_getElem (by omega)
      generalize t.Nodes[p - t.Inputs.length]'(by omega) = l' at hl
      obtain ⟨i', l, hi', g1, g2, g3, g4⟩ := h.row hl
      rw [show t.Inputs.length + (p - t.Inputs.length) = p by omega, hi] at hi'
      cases hi'
      have e1 := flowV_node ht (size := size) (vs := insV t bl) (by unfold insV; rw [List.length_map]) hl
      have e2 := flowV_node hf (size := size) (vs := insV f bl) (by unfold insV; rw [List.length_map]) g2
      rw [show t.Inputs.length + (p - t.Inputs.length) = p by omega] at e1
      rw [show f.Inputs.length + (i - f.Inputs.length) = i by omega] at e2
      rw [e1, e2]
      congr 1
      refine nodeV_congr g3 fun k u u' hu hu' => ?_
      obtain ⟨q0, q1, o, q2, q3⟩ := g4 k u u' hu hu'
      refine ⟨q0, ?_⟩
      have h0 := (hf.terms _ l g2).at (List.mem_of_getElem? hu)
      have := ih u'.Of.toNat (h.pos q2 hi (by omega)) o q2
      rw [List.getD_eq_getElem?_getD, List.getD_eq_getElem?_getD, this, q3, Int.toNat_natCast]

theorem Sel.out {f t : GFlow} {sel : List Nat} (h : Sel f t sel) (hf : FMay f) (bl : List (List Int)) (size : Nat) : outV t (flowV t.Nodes size (insV t bl)) = outV f (flowV f.Nodes size (insV f bl)) := by
  unfold outV
  refine list_eq_of (by rw [List.length_map, List.length_map, h.outs.1]) fun k x y hx hy => ?_
  rw [List.getElem?_map] at hx hy
  cases hk : t.Outs[k]? with
  | none => rw [hk] at hx; cases hx
  | some o' =>
    cases hk2 : f.Outs[k]? with
    | none => rw [hk2] at hy; cases hy
    | some o =>
      rw [hk] at hx; cases hx; rw [hk2] at hy; cases hy
      obtain ⟨q1, i, q2, q3⟩ := h.outs.2 k o o' hk2 hk
      show (flowV t.Nodes size (insV t bl)).getD o'.toNat [] = (flowV f.Nodes size (insV f bl)).getD o.toNat []
      rw [List.getD_eq_getElem?_getD, List.getD_eq_getElem?_getD, h.val hf bl size _ _ q2, q3, Int.toNat_natCast]

theorem Sel.within {f t : GFlow} {sel : List Nat} (h : Sel f t sel) {bl : List (List Int)} (hw : Within f bl) : Within t bl := by
  intro x hx
  obtain ⟨p, hp⟩ := List.getElem?_of_mem hx
  have hpl := (List.getElem?_eq_some_iff.1 hp).1
  have hl := h.len
  obtain ⟨i, hi⟩ := h.get (p := p) (by omega)
  have := (h.ins p i hpl hi).2
  rw [hp] at this
  exact hw x (List.mem_of_getElem? this.symm)
end Go.RL
