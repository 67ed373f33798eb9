/- Plain laws of what the functions compute, no program in sight.
   Part of the proof of Rows.RegsFlowsSaid of the program 'recoup'. -/
import Derived.Test.YtoaimimdfddidaaPu8
set_option linter.unusedVariables false
set_option linter.unusedSimpArgs false
set_option linter.unusedSectionVars false
set_option linter.unusedVariables false
namespace Go.RL

/-! FlowFresh, in plain Lean. -/

theorem Sel.n {f t : GFlow} {sel : List Nat} (h : Sel f t sel) : sel.length ≤ f.Inputs.length + f.Nodes.length := by
  have low : ∀ (p i : Nat), sel[p]? = some i → p ≤ i := by
    intro p
    induction p with
    | zero => intro i _; omega
    | succ p ih =>
      intro i hi
      have hl := (List.getElem?_eq_some_iff.1 hi).1
      have h0 : sel[p]? = some (sel[p]'(by omega)) := List.getElem?_eq_getElem (by omega)
      have := ih _ h0
      have := h.inc p (p + 1) _ i (by omega) h0 hi
      omega
  by_cases h0 : sel.length = 0
  · omega
  · have h1 : sel[sel.length - 1]? = some (sel[sel.length - 1]'(by omega)) := List.getElem?_eq_getElem (by omega)
    have := low _ _ h1
    have := h.below _ _ h1
    omega

theorem trim_sz {f : GFlow} (hs : FlSz f) : Ok (flow_Trim f) (fun r => r.1.Nodes.length ≤ lim ∧ (∀ l ∈ r.1.Nodes, l.length ≤ lim) ∧ r.1.Outs.length ≤ lim ∧ r.1.Inputs.length ≤ lim) := by
  have hlim : lim = 140737488355328 := rfl
  by_cases hf : FMay f
  · refine (trim_ok hs.t hf).mono ?_
    rintro r ⟨_, sel, hS⟩
    have h1 := hS.n
    have h2 := hS.len
    have h3 := hf.insLen
    have h4 := hf.nodes
    have h5 := hS.outs.1
    have h6 := hf.outs
    refine ⟨by omega, fun l hl => ?_, by omega, by omega⟩
    obtain ⟨p, hp⟩ := List.getElem?_of_mem hl
    have hpl := (List.getElem?_eq_some_iff.1 hp).1
    have he : sel[r.1.Inputs.length + p]? = some (sel[r.1.Inputs.length + p]'(by omega)) := List.getElem?_eq_getElem (by omega)
    obtain ⟨_, l1, l2, g1, g2, g3, _⟩ := hS.nodes _ _ (by omega) he
    rw [show r.1.Inputs.length + p - r.1.Inputs.length = p by omega, hp] at g2
    cases g2
    have := hs.t l1 (List.mem_of_getElem? g1)
    omega
  · refine Ok.of (trim_no hf) ⟨by show 0 ≤ lim; omega, fun l hl => (by cases hl), by show 0 ≤ lim; omega, by show 0 ≤ lim; omega⟩

theorem runV_sz {f : GFlow} {bl : List (List Int)} (hby : ByB f) (hb : BlOk bl) (h3 : ∀ b ∈ bl, b.length + 3 ≤ lim) : (runV f bl).1.length ≤ 64 ∧ ∀ b ∈ (runV f bl).1, b.length + 3 ≤ lim := by
  by_cases hf : FMay f
  · by_cases hs : SameLen bl ∧ Within f bl
    · rw [runV_ok hf hs.1 hs.2]
      have hsz : sizeOf0 bl + 3 ≤ lim := by
        cases bl with
        | nil => decide
        | cons x _ => exact h3 x (List.mem_cons_self ..)
      have key := (run_prog hf hby (by omega) (ins_even hf hs.1 hs.2 hb) (by unfold insV; rw [List.length_map])).2
      refine ⟨by show (outV _ _).length ≤ 64; unfold outV; rw [List.length_map]; exact hf.outs, ?_⟩
      intro b hbm
      obtain ⟨o, ho, rfl⟩ := List.mem_map.1 hbm
      have h0 := hf.out o ho
      have hl := flowV_len f.Nodes (sizeOf0 bl) (insV f bl)
      have hil : (insV f bl).length = f.Inputs.length := by unfold insV; rw [List.length_map]
      have hx : (flowV f.Nodes (sizeOf0 bl) (insV f bl))[o.toNat]? = some ((flowV f.Nodes (sizeOf0 bl) (insV f bl))[o.toNat]'(by omega)) := List.getElem?_eq_getElem (by omega)
      rw [List.getD_eq_getElem?_getD, hx, Option.getD_some, (key.at hx).1]
      exact hsz
    · rw [runV_shape hf hs]; exact ⟨by decide, fun b hb => by cases hb⟩
  · rw [runV_no hf]; exact ⟨by decide, fun b hb => by cases hb⟩

theorem mem_set {α : Type} {xs : List α} {i : Nat} {x y : α} (h : y ∈ xs.set i x) : y = x ∨ y ∈ xs := by
  rcases List.mem_or_eq_of_mem_set h with h | h
  · exact .inr h
  · exact .inl h

theorem fresh_true (f : GFlow) (bl : List (List Int)) (m : GMatrix) (hf : FlSz f) (hby : ByB f) (hb : BlOk bl) (hb3 : ∀ b ∈ bl, b.length + 3 ≤ lim) (hm : m.Data.length ≤ lim) : recouplaw21_FlowFresh f bl m := by
  have hlim : lim = 140737488355328 := rfl
  unfold recouplaw21_FlowFresh
  refine ⟨fun s => s = (f.Inputs, f.Nodes, f.Outs, bl, m.Rows, m.Cols, m.Data), ⟨_, flowCopy_eq hf, _, copyBlocks_eq hb.n hb.s, _, matCopy_eq hm, rfl⟩, ?_⟩
  rintro _ rfl
  obtain ⟨t, ht, htn, htr, hto, hti⟩ := trim_sz hf
  refine ⟨t, ht, ?_⟩
  obtain ⟨o, ho, hoi⟩ := of_ok m
  refine ⟨o, ho, _, Run_prog hby hb, ?_⟩
  have hz := runV_sz hby hb hb3
  generalize (runV f bl).1 = out at hz
  refine ⟨fun _ => True, ⟨fun s => 0 ≤ s.1 ∧ s.2.length = t.1.Nodes.length ∧ ∀ l ∈ s.2, l.length ≤ lim, fun s => ((s.2.length : Int) - s.1).toNat, ⟨Int.le_refl 0, rfl, htr⟩, ?_⟩, fun _ _ => ?_⟩
  · rintro ⟨i, ns⟩ ⟨h0, h1, h2⟩
    have h0 : 0 ≤ i := h0
    have h1 : ns.length = t.1.Nodes.length := h1
    have h2 : ∀ l ∈ ns, l.length ≤ lim := h2
    by_cases hc : i < (ns.length : Int)
    · refine (if_pos (c := (i, ns).1 < ((i, ns).2.length : Int)) hc).mpr ?_
      refine ⟨fun q => q.length = ns.length ∧ ∀ l ∈ q, l.length ≤ lim, ⟨fun s => 0 ≤ s.1 ∧ s.2.length = ns.length ∧ (∀ l ∈ s.2, l.length ≤ lim) ∧ (s.2.getD i.toNat []).length = (ns.getD i.toNat []).length, fun s => (((ns.getD i.toNat []).length : Int) - s.1).toNat, ⟨Int.le_refl 0, rfl, h2, rfl⟩, ?_⟩, ?_⟩
      · rintro ⟨k, q⟩ ⟨g0, g1, g2, g3⟩
        have g0 : 0 ≤ k := g0
        have g1 : q.length = ns.length := g1
        have g2 : ∀ l ∈ q, l.length ≤ lim := g2
        have g3 : (q.getD i.toNat []).length = (ns.getD i.toNat []).length := g3
        have hx : q[i.toNat]? = some (q[i.toNat]'(by omega)) := List.getElem?_eq_getElem (by omega)
        generalize q[i.toNat]'(by omega) = l at hx
        have hl := g2 l (List.mem_of_getElem? hx)
        have gl : l.length = (ns.getD i.toNat []).length := by rw [← g3, List.getD_eq_getElem?_getD, hx, Option.getD_some]
        have hix : idx q i = some l := idx_of (by omega) hx
        refine ⟨l, hix, ?_⟩
        by_cases hc2 : k < (l.length : Int)
        · refine (if_pos (c := (k, q).1 < (l.length : Int)) hc2).mpr ?_
          have hy : l[k.toNat]? = some (l[k.toNat]'(by omega)) := List.getElem?_eq_getElem (by omega)
          have hw : w64 (k + 1) = k + 1 := w64_id (by omega) (by omega)
          refine ⟨l, hix, _, idx_of (by show k = ((k.toNat : Nat) : Int); omega) hy, ⟨?_, ?_, ?_, ?_⟩, ?_⟩
          · show 0 ≤ w64 (k + 1); omega
          · show (q.set _ _).length = _; rw [List.length_set, g1]
          · intro l' hl'
            rcases mem_set hl' with rfl | hl'
            · rw [List.length_set]; exact hl
            · exact g2 l' hl'
          · show ((q.set i.toNat (l.set k.toNat _)).getD i.toNat []).length = _
            rw [List.getD_eq_getElem?_getD, List.getElem?_set, if_pos rfl, if_pos (by omega), Option.getD_some, List.length_set, gl]
          · show (((ns.getD i.toNat []).length : Int) - w64 (k + 1)).toNat < (((ns.getD i.toNat []).length : Int) - k).toNat
            omega
        · refine (if_neg (c := (k, q).1 < (l.length : Int)) hc2).mpr ?_
          exact ⟨g1, g2⟩
      · rintro q ⟨g1, g2⟩
        have hw : w64 (i + 1) = i + 1 := w64_id (by omega) (by omega)
        refine ⟨⟨by show 0 ≤ w64 (i + 1); omega, g1.trans h1, g2⟩, ?_⟩
        show ((q.length : Int) - w64 (i + 1)).toNat < ((ns.length : Int) - i).toNat
        omega
    · exact (if_neg (c := (i, ns).1 < ((i, ns).2.length : Int)) hc).mpr trivial
  have simple : ∀ (xs : List Int) (c : Int), xs.length ≤ lim → (∃ (I12929 : (Int × List Int) → Prop) (m12929 : (Int × List Int) → Nat), I12929 ((0 : Int), xs) ∧ ∀ (s12931 : Int × List Int), I12929 s12931 → (if s12931.1 < ((s12931.2).length : Int) then (∃ x12949, (idx (s12931.2) s12931.1) = some x12949 ∧ (I12929 (w64 (s12931.1 + 1), (s12931.2).set (s12931.1).toNat (c : Int)) ∧ m12929 (w64 (s12931.1 + 1), (s12931.2).set (s12931.1).toNat (c : Int)) < m12929 s12931)) else ((fun _ : List Int => True) (s12931.2)))) := by
    intro xs c hx
    refine ⟨fun s => 0 ≤ s.1 ∧ s.2.length = xs.length, fun s => ((xs.length : Int) - s.1).toNat, ⟨Int.le_refl 0, rfl⟩, ?_⟩
    rintro ⟨i, ys⟩ ⟨h0, h1⟩
    have h0 : 0 ≤ i := h0
    have h1 : ys.length = xs.length := h1
    by_cases hc : i < (ys.length : Int)
    · refine (if_pos (c := (i, ys).1 < ((i, ys).2.length : Int)) hc).mpr ?_
      have hy : ys[i.toNat]? = some (ys[i.toNat]'(by omega)) := List.getElem?_eq_getElem (by omega)
      have hw : w64 (i + 1) = i + 1 := w64_id (by omega) (by omega)
      refine ⟨_, idx_of (by show i = ((i.toNat : Nat) : Int); omega) hy, ⟨by show 0 ≤ w64 (i + 1); omega, by show (ys.set _ _).length = _; rw [List.length_set, h1]⟩, ?_⟩
      show ((xs.length : Int) - w64 (i + 1)).toNat < ((xs.length : Int) - i).toNat
      omega
    · exact (if_neg (c := (i, ys).1 < ((i, ys).2.length : Int)) hc).mpr trivial
  refine ⟨fun _ => True, simple _ _ hto, fun _ _ => ⟨fun _ => True, simple _ _ hti, fun _ _ => ⟨fun _ => True, ⟨fun s => 0 ≤ s.2 ∧ s.1.length ≤ 64 ∧ s.1.length = out.length ∧ ∀ b ∈ s.1, b.length + 3 ≤ lim, fun s => ((out.length : Int) - s.2).toNat, ⟨Int.le_refl 0, hz.1, rfl, hz.2⟩, ?_⟩, fun _ _ => ⟨fun _ => True, simple _ _ (by omega), fun _ _ => ?_⟩⟩⟩⟩
  · rintro ⟨bs, i⟩ ⟨h0, h1, h2, h3⟩
    have h0 : 0 ≤ i := h0
    have h1 : bs.length ≤ 64 := h1
    have h2 : bs.length = out.length := h2
    have h3 : ∀ b ∈ bs, b.length + 3 ≤ lim := h3
    by_cases hc : i < (bs.length : Int)
    · refine (if_pos (c := (bs, i).2 < ((bs, i).1.length : Int)) hc).mpr ?_
      have hw : w64 (i + 1) = i + 1 := w64_id (by omega) (by omega)
      have hx : bs[i.toNat]? = some (bs[i.toNat]'(by omega)) := List.getElem?_eq_getElem (by omega)
      refine ⟨bs, copyBlocks_eq (x := bs) (by omega) (fun b hb => by have := h3 b hb; omega), _, idx_of (by show i = ((i.toNat : Nat) : Int); omega) hx, h3 _ (List.mem_of_getElem? hx), fun ys hy _ => ?_⟩
      refine ⟨fun _ => True, ⟨fun k => i < k, fun k => ((bs.length : Int) - k).toNat, by show i < w64 (i + 1); omega, fun k hk => ?_⟩, fun _ _ => ?_⟩
      · have hk : i < k := hk
        by_cases hc2 : k < (bs.length : Int)
        · refine (if_pos (c := k < (((bs, i).1.set (bs, i).2.toNat ys).length : Int)) (by show k < ((bs.set _ ys).length : Int); rw [List.length_set]; exact hc2)).mpr ?_
          have hwk : w64 (k + 1) = k + 1 := w64_id (by omega) (by omega)
          have hb : bs[k.toNat]? = some (bs[k.toNat]'(by omega)) := List.getElem?_eq_getElem (by omega)
          generalize bs[k.toNat]'(by omega) = b at hb
          refine ⟨b, idx_of (k := k.toNat) (by omega) ?_, b, idx_of (k := k.toNat) (by omega) hb, true, ?_, ?_⟩
          · show (bs.set i.toNat ys)[k.toNat]? = some b
            rw [List.getElem?_set, if_neg (by omega)]; exact hb
          · unfold recoupref01_Same; rw [decide_eq_true rfl]
          · rw [if_pos rfl]
            refine ⟨by show i < w64 (k + 1); omega, ?_⟩
            show ((bs.length : Int) - w64 (k + 1)).toNat < ((bs.length : Int) - k).toNat
            omega
        · exact (if_neg (c := k < (((bs, i).1.set (bs, i).2.toNat ys).length : Int)) (by show ¬ k < ((bs.set _ ys).length : Int); rw [List.length_set]; exact hc2)).mpr trivial
      · refine ⟨⟨by show 0 ≤ w64 (i + 1); omega, by show (bs.set _ _).length ≤ 64; rw [List.length_set]; exact h1, by show (bs.set _ _).length = _; rw [List.length_set]; exact h2, fun b hb => ?_⟩, ?_⟩
        · rcases mem_set hb with rfl | hb
          · rw [hy]; exact h3 _ (List.mem_of_getElem? hx)
          · exact h3 b hb
        · show ((out.length : Int) - w64 (i + 1)).toNat < ((out.length : Int) - i).toNat
          omega
    · exact (if_neg (c := (bs, i).2 < ((bs, i).1.length : Int)) hc).mpr trivial
  · refine ⟨_, Run_prog hby hb, _, Run_ref hby hb, _, anch21, ?_⟩
    rw [if_pos rfl]
    refine ⟨_, flowSame_refl hf, ?_⟩
    rw [if_pos rfl]
    refine ⟨_, blocks_refl _, ?_⟩
    rw [if_pos rfl]
    refine ⟨_, like_refl _, ?_⟩
    rw [if_pos rfl]
    refine ⟨_, blocks_refl _, ?_⟩
    rw [if_pos rfl]
    exact decide_eq_true rfl
end Go.RL
