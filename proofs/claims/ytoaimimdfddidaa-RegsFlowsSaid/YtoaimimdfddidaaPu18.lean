/- Plain laws of what the functions compute, no program in sight.
   Part of the proof of Rows.RegsFlowsSaid of the program 'recoup'. -/
import Derived.Test.YtoaimimdfddidaaPu17
import Derived.KernelRfl
set_option linter.unusedVariables false
set_option linter.unusedSimpArgs false
set_option linter.unusedSectionVars false
set_option linter.unusedVariables false
namespace Go.RL

/-! RegsFlows, in plain Lean. -/

theorem give_no {f : GFlow} (hf : ¬ FMay f) : regs_Give f = some (⟨[], 0, 0, 0⟩, 2) := by
  unfold regs_Give
  rw [trim_no hf, Option.bind_some]
  exact if_neg (show ¬ (2 : Int) = 0 by decide)

theorem anch23 : recouplaw23_anchored = some true := by
  have h1 : flow_Trim ⟨[4], [[⟨0, 3⟩]], [1]⟩ = some (⟨[4], [[⟨0, 3⟩]], [1]⟩, 0) := by kernel_rfl
  have e2 : w64 ((([4] : List Int).length : Int) + (([[⟨0, 3⟩]] : List (List GTerm)).length : Int)) = ((2 : Nat) : Int) := by decide
  have hl : regs_last ⟨[4], [[⟨0, 3⟩]], [1]⟩ = some [0, 1] := by
    unfold regs_last
    dsimp only
    rw [e2, repeat_eq (by decide), Option.bind_some]
    kernel_rfl
  have hg : regs_Give ⟨[4], [[⟨0, 3⟩]], [1]⟩ = some (⟨[⟨2, 0, 4, 0⟩, ⟨1, 1, 0, 0⟩, ⟨3, 1, 0, 3⟩, ⟨4, 0, 1, 0⟩], 2, 1, 16⟩, 0) := by
    unfold regs_Give
    rw [h1, Option.bind_some]
    dsimp only
    rw [if_pos rfl, e2, repeat_eq (by decide), Option.bind_some, hl, Option.bind_some]
    kernel_rfl
  have hs : recoupref23_Same ⟨[⟨2, 0, 4, 0⟩, ⟨1, 1, 0, 0⟩, ⟨3, 1, 0, 3⟩, ⟨4, 0, 1, 0⟩], 2, 1, 16⟩ ⟨[⟨2, 0, 4, 0⟩, ⟨1, 1, 0, 0⟩, ⟨3, 1, 0, 3⟩, ⟨4, 0, 1, 0⟩], 2, 1, 16⟩ = some true := by kernel_rfl
  unfold recouplaw23_anchored
  rw [hg, Option.bind_some]
  dsimp only
  rw [if_pos rfl]
  rw [hs]
  rfl

open Classical in
theorem rrV_good {T : GFlow} {p : GProgram} (h : GoodP T p) {bl : List (List Int)} (hb : BlOk bl) (hS : SameLen bl) (hW : Within T bl) : rrV p bl = (outV T (valV T bl), 0) := by
  obtain ⟨regs, hr⟩ := h.ex bl hb hS hW
  unfold rrV
  rw [if_pos hS, if_pos h.may, hr]
  show (if AllSome ((outV T (valV T bl)).map some) then ((((outV T (valV T bl)).map some).map (fun o => Option.getD o []), 0) : List (List Int) × Int) else ([], 2)) = _
  have ha : AllSome ((outV T (valV T bl)).map some) := by
    intro o ho
    obtain ⟨v, _, rfl⟩ := List.mem_map.1 ho
    exact fun h => by cases h
  rw [if_pos ha, List.map_map]
  have : (fun o => Option.getD o []) ∘ (some : List Int → Option (List Int)) = id := by funext x; rfl
  rw [this, List.map_id]

theorem flows_true (f : GFlow) (bl : List (List Int)) (hfs : FlSz f) (hby : ByB f) (hb : BlOk bl) : recouplaw23_RegsFlows f bl := by
  have hlim : lim = 140737488355328 := rfl
  unfold recouplaw23_RegsFlows
  obtain ⟨m, hm, hmay⟩ := refMay_ok f
  by_cases hf : FMay f
  · obtain ⟨q, hq, hcase⟩ := give_ok hfs hby hf
    have hm1 : m = true := hmay.2 hf
    have hlen := hf.insLen
    have hnl := hf.nodes
    refine ⟨q, hq, m, hm, ?_⟩
    rw [if_pos hm1]
    rcases hcase with ⟨h0, T, sel, hSel, hG⟩ | ⟨rfl, h256⟩
    · refine ⟨_, Run_ref hby hb, _, rr_ok hb hG.c, ?_⟩
      rw [if_pos h0]
      refine ⟨true, anch23, ?_⟩
      rw [if_pos rfl]
      by_cases hc : SameLen bl ∧ Within f bl
      · rw [runV_ok hf hc.1 hc.2, if_pos rfl, rrV_good hG hb hc.1 (hSel.within hc.2), if_pos rfl]
        refine ⟨true, ?_, rfl⟩
        show recoupref21_Blocks (outV f (flowV f.Nodes (sizeOf0 bl) (insV f bl))) (outV T (valV T bl)) = some true
        unfold valV
        rw [hSel.out hf bl (sizeOf0 bl)]
        exact blocks_refl _
      · rw [runV_shape hf hc]
        exact (if_neg (show ¬ (3 : Int) = 0 by decide)).mpr rfl
    · refine ⟨_, Run_ref hby hb, _, rr_ok hb (fun s h => by cases h), ?_⟩
      refine (if_neg (show ¬ (4 : Int) = 0 by decide)).mpr ?_
      refine ⟨true, anch23, ?_⟩
      rw [if_pos rfl]
      refine (if_pos (show (4 : Int) = 4 from rfl)).mpr ?_
      rw [w64_id (by omega) (by omega)]
      exact decide_eq_true (by omega)
  · have hm1 : ¬ m = true := fun h => hf (hmay.1 h)
    refine ⟨_, give_no hf, m, hm, ?_⟩
    rw [if_neg hm1]
    refine ⟨true, anch23, ?_⟩
    rw [if_pos rfl]
    exact decide_eq_true rfl
end Go.RL
