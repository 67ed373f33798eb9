/- Plain laws of what the functions compute, no program in sight.
   Part of the proof of Rows.RegsFlowsSaid of the program 'recoup'. -/
import Derived.Test.YtoaimimdfddidaaPu5
set_option linter.unusedVariables false
set_option linter.unusedSimpArgs false
set_option linter.unusedSectionVars false
set_option linter.unusedVariables false
namespace Go.RL

/-! The document's Run. -/

theorem node_ref {nodes : List (List GTerm)} {i : Nat} {l : List GTerm} (hi : nodes[i]? = some l) (hll : l.length ≤ lim) {vs : List (List Int)} {size : Nat} (hsz : size ≤ lim) (hev : Even size vs) (hl : ∀ t ∈ l, 0 ≤ t.Of ∧ t.Of < vs.length) (hb : ∀ t ∈ l, isB t.By) :
    (iter (fun (s8849 : List Int × Int) => ((idx (nodes) (i : Int)).bind fun x8861 => if s8849.2 < ((x8861).length : Int) then ((idx (nodes) (i : Int)).bind fun x8997 => (idx (x8997) s8849.2).bind fun x9006 => (idx (nodes) (i : Int)).bind fun x9014 => (idx (x9014) s8849.2).bind fun x9023 => (idx (vs) x9023.Of).bind fun x9031 => (recoupref01_Mac s8849.1 x9006.By x9031).bind fun r9047 => some (.next (r9047.1, w64 (s8849.2 + 1)))) else (some (.stop (s8849.1))) : Option (Ctl _ _))) (List.replicate size 0, (0 : Int)) : Option (List Int)) = some (nodeV vs size l) := by
  refine Ok.eq (iter_ok (fun s => ∃ m : Nat, s.2 = (m : Int) ∧ m ≤ l.length ∧ s.1 = (l.take m).foldl (fun s t => mac s t.By (vs.getD t.Of.toNat [])) (List.replicate size 0)) (fun s => ((l.length : Int) - s.2).toNat) ?_ _ ⟨0, rfl, by omega, rfl⟩)
  rintro ⟨s, _⟩ ⟨m, rfl, hm, h1⟩
  have h1 : s = (l.take m).foldl (fun s t => mac s t.By (vs.getD t.Of.toNat [])) (List.replicate size 0) := h1
  rw [idx_of rfl hi, Option.bind_some]
  have hlim : lim = 140737488355328 := rfl
  refine Ok.ite (fun hc => ?_) fun hc => Ok.pure ?_
  · have hc : (m : Int) < l.length := hc
    have ht : l[m]? = some (l[m]'(by omega)) := List.getElem?_eq_getElem (by omega)
    generalize l[m]'(by omega) = t at ht
    have hmm := List.mem_of_getElem? ht
    have h0 := hl t hmm
    have hx : vs[t.Of.toNat]? = some (vs[t.Of.toNat]'(by omega)) := List.getElem?_eq_getElem (by omega)
    generalize vs[t.Of.toNat]'(by omega) = v at hx
    have hv := hev.at hx
    have hs := nodeV_step hev (l.take m) (List.replicate size 0) (fun u hu => hl u (List.mem_of_mem_take hu)) ⟨List.length_replicate, inB.zeros _⟩
    rw [← h1] at hs
    rw [Option.bind_some, idx_of rfl ht, Option.bind_some, Option.bind_some, idx_of rfl ht, Option.bind_some, idx_of (by omega) hx, Option.bind_some, refMac_eq (hb t hmm) hv.2 (by rw [hs.1, hv.1]) (by omega), Option.bind_some]
    refine Ok.pure ⟨⟨m + 1, ?_, by omega, ?_⟩, ?_⟩
    · show w64 ((m : Int) + 1) = _
      rw [w64_id (by omega) (by omega)]; omega
    · show mac s t.By v = _
      rw [List.take_add_one, ht, Option.toList_some, List.foldl_append, ← h1, List.foldl_cons, List.foldl_nil, List.getD_eq_getElem?_getD, hx, Option.getD_some]
    · show ((l.length : Int) - w64 ((m : Int) + 1)).toNat < ((l.length : Int) - (m : Int)).toNat
      rw [w64_id (by omega) (by omega)]; omega
  · have hc : ¬ (m : Int) < l.length := hc
    have : m = l.length := by omega
    subst this
    show s = nodeV vs size l
    rw [h1, List.take_length]; rfl

theorem TermsOk.len {l : List GTerm} {k : Int} (h : TermsOk l k) (hk : 0 ≤ k) : (l.length : Int) ≤ k := by
  have := h.of.le (Nat.le_refl _) hk; rwa [List.length_map] at this

theorem nodes_ref {f : GFlow} {ins : List (List Int)} {size : Nat} (hf : FMay f) (hb : ByB f) (hsz : size ≤ lim) (hev : Even size ins) (hl : ins.length = f.Inputs.length) :
    (forN (fun (i8409 : Nat) (s8410 : List (List Int)) => ((mk 1 (size : Int) (0 : Int)).bind fun z8421 => (iter (fun (s8849 : List Int × Int) => ((idx (f.Nodes) (i8409 : Int)).bind fun x8861 => if s8849.2 < ((x8861).length : Int) then ((idx (f.Nodes) (i8409 : Int)).bind fun x8997 => (idx (x8997) s8849.2).bind fun x9006 => (idx (f.Nodes) (i8409 : Int)).bind fun x9014 => (idx (x9014) s8849.2).bind fun x9023 => (idx (s8410) x9023.Of).bind fun x9031 => (recoupref01_Mac s8849.1 x9006.By x9031).bind fun r9047 => some (.next (r9047.1, w64 (s8849.2 + 1)))) else (some (.stop (s8849.1))) : Option (Ctl _ _))) (z8421, (0 : Int)) : Option (List Int)).bind fun o8847 => (app 24 (s8410) [o8847]).bind fun z9065 => some (.next (z9065)) : Option (Ctl _ _))) (fun (s8410 : List (List Int)) => (s8410)) ((f.Nodes).length) 0 (ins) : Option (List (List Int))) = some (flowV f.Nodes size ins) ∧ Even size (flowV f.Nodes size ins) := by
  have hil := hf.insLen
  have hnl := hf.nodes
  have key := for_foldl (f := (fun (i8409 : Nat) (s8410 : List (List Int)) => ((mk 1 (size : Int) (0 : Int)).bind fun z8421 => (iter (fun (s8849 : List Int × Int) => ((idx (f.Nodes) (i8409 : Int)).bind fun x8861 => if s8849.2 < ((x8861).length : Int) then ((idx (f.Nodes) (i8409 : Int)).bind fun x8997 => (idx (x8997) s8849.2).bind fun x9006 => (idx (f.Nodes) (i8409 : Int)).bind fun x9014 => (idx (x9014) s8849.2).bind fun x9023 => (idx (s8410) x9023.Of).bind fun x9031 => (recoupref01_Mac s8849.1 x9006.By x9031).bind fun r9047 => some (.next (r9047.1, w64 (s8849.2 + 1)))) else (some (.stop (s8849.1))) : Option (Ctl (List Int × Int) (List Int)))) (z8421, (0 : Int)) : Option (List Int)).bind fun o8847 => (app 24 (s8410) [o8847]).bind fun z9065 => some (.next (z9065)) : Option (Ctl (List (List Int)) (List (List Int))))))
    (fin := fun s => s) f.Nodes (fun vs l => vs ++ [nodeV vs size l]) (fun j vs => vs.length = f.Inputs.length + j ∧ Even size vs) (s := ins) ⟨by omega, hev⟩ ?_
  · exact ⟨key.1, key.2.2⟩
  · rintro j l vs hlj ⟨h1, h2⟩
    have hj := (List.getElem?_eq_some_iff.1 hlj).1
    have hT := hf.terms j l hlj
    have hlr : ∀ t ∈ l, 0 ≤ t.Of ∧ t.Of < vs.length := fun t ht => by have := hT.at ht; omega
    refine ⟨?_, by simp; omega, h2.snoc (nodeV_even h2 hlr)⟩
    have hlim : lim = 140737488355328 := rfl
    have hll := hT.len (by omega)
    rw [mk_of (by omega) (by simpa using hsz), Option.bind_some, Int.toNat_natCast]
    refine (congrArg (fun o => Option.bind o _) (node_ref hlj (by omega) hsz h2 hlr (hb l (List.mem_of_getElem? hlj)))).trans ?_
    rw [Option.bind_some, app_of (lim_small (by simp; omega)), Option.bind_some]

theorem Run_ref {f : GFlow} {bl : List (List Int)} (hby : ByB f) (hb : BlOk bl) : recoupref21_Run f bl = some (runV f bl) := by
  refine Ok.eq ?_
  unfold recoupref21_Run
  refine Ok.bind (refMay_ok f) fun b hm => Ok.ite (fun hc => ?_) fun hc => Ok.pure (runV_no fun h => hc (hm.2 h)).symm
  have hf := hm.1 hc
  have hsz : sizeOf0 bl ≤ lim := by
    cases bl with
    | nil => exact Nat.zero_le _
    | cons x _ => exact hb.s x (List.mem_cons_self ..)
  refine Ok.bind (P := OutP (fun s => SameLen bl ∧ s = (sizeOf0 bl : Int)) (fun q => ¬ SameLen bl ∧ q = ([], 3))) ?_ ?_
  · refine for0_ok (fun j s => (∀ (i : Nat) x, i < j → bl[i]? = some x → x.length = sizeOf0 bl) ∧ (j = 0 → s = 0) ∧ (0 < j → s = (sizeOf0 bl : Int))) ⟨fun i x hi => by omega, fun _ => rfl, fun h => by omega⟩ ?_ ?_
    · rintro j s hj ⟨h1, h2, h3⟩
      have h00 : bl[0]? = some (bl[0]'(by omega)) := List.getElem?_eq_getElem (by omega)
      have h0s := sizeOf0_get h00
      rw [show idx bl 0 = some _ from idx_of (i := 0) (k := 0) rfl h00, Option.bind_some]
      refine Ok.idxN hj fun x hx => ?_
      rw [← h0s]
      refine Ok.ite (fun h4 => Ok.pure ⟨?_, fun h => by omega, fun _ => rfl⟩) fun h4 => Ok.pure ⟨fun hS => h4 ?_, rfl⟩
      · intro i y hi hy
        by_cases e : i = j
        · subst e; rw [hx] at hy; cases hy; omega
        · exact h1 i y (by omega) hy
      · have := hS x (List.mem_of_getElem? hx); omega
    · rintro s ⟨h1, h2, h3⟩
      refine ⟨fun x hx => ?_, ?_⟩
      · obtain ⟨i, hi⟩ := List.getElem?_of_mem hx
        exact h1 i x (List.getElem?_eq_some_iff.1 hi).1 hi
      · cases bl with
        | nil => exact h2 rfl
        | cons _ _ => exact h3 (by simp)
  intro o ho
  match o, ho with
  | .ret q, ho => exact Ok.pure (by rw [ho.2, runV_shape hf fun h => ho.1 h.1])
  | .fall s, ho =>
  obtain ⟨hS, rfl⟩ := ho
  refine Ok.bind (P := OutP (fun s => Within f bl ∧ s = insV f bl) (fun q => ¬ Within f bl ∧ q = ([], 3))) ?_ fun o ho => ?_
  · have hil := hf.insLen
    refine for0_ok (fun j s => (∀ (i : Nat) x, i < j → f.Inputs[i]? = some x → x < bl.length) ∧ s = (f.Inputs.take j).map (fun i => bl.getD i.toNat [])) ⟨fun i x hi => by omega, rfl⟩ ?_ ?_
    · rintro j s hj ⟨h1, rfl⟩
      refine Ok.idxN hj fun x hx => Ok.ite (fun hc => Ok.pure ⟨fun hw => by have := hw x (List.mem_of_getElem? hx); omega, rfl⟩) fun hc => ?_
      have h0 := (hf.ins.at hx).1
      have hy : bl[x.toNat]? = some (bl[x.toNat]'(by omega)) := List.getElem?_eq_getElem (by omega)
      rw [idx_of rfl hx, Option.bind_some, idx_of (by omega) hy, Option.bind_some, copy1_eq (hb.s _ (List.mem_of_getElem? hy)), Option.bind_some, app_of (lim_small (by simp; omega)), Option.bind_some]
      refine Ok.pure ⟨fun i y hi hyi => ?_, ?_⟩
      · by_cases e : i = j
        · subst e; rw [hx] at hyi; cases hyi; omega
        · exact h1 i y (by omega) hyi
      · rw [List.take_add_one, hx, Option.toList_some, List.map_append, List.map_cons, List.map_nil, List.getD_eq_getElem?_getD, hy, Option.getD_some]
    · rintro s ⟨h1, rfl⟩
      refine ⟨fun x hx => ?_, by rw [List.take_length]; rfl⟩
      obtain ⟨i, hi⟩ := List.getElem?_of_mem hx
      exact h1 i x (List.getElem?_eq_some_iff.1 hi).1 hi
  match o, ho with
  | .ret q, ho => exact Ok.pure (by rw [ho.2, runV_shape hf fun h => ho.1 h.2])
  | .fall s, ho =>
  obtain ⟨hw, rfl⟩ := ho
  have key := nodes_ref hf hby hsz (ins_even hf hS hw hb) (by unfold insV; rw [List.length_map])
  refine Ok.bindE key.1 (Ok.bindE (out_prog (size := sizeOf0 bl) hsz key.2 hf.outs (fun x hx => ?_) (fun x hx => copy1_eq hx)) (Ok.pure (runV_ok hf hS hw).symm))
  have := hf.out x hx
  rw [flowV_len]; unfold insV; rw [List.length_map]; omega
end Go.RL
