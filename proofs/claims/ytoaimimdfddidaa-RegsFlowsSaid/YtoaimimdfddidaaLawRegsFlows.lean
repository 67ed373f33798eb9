/- For every flow and blocks the law RegsFlows answers true: running what Give answers is running the flow.
   Conditions: those of the given statement and no others. -/
import Derived.Test.YtoaimimdfddidaaGc3
import Derived.Test.YtoaimimdfddidaaPu18
import Derived.Test.YtoaimimdfddidaaRows
import Derived.Test.YtoaimimdfddidaaChecked
import Derived.ShutString
import Derived.ChangeOld
import Derived.Below
import Derived.OpenShut
import Derived.WalkKit
set_option linter.unusedVariables false
set_option linter.unusedSimpArgs false
set_option linter.unusedSectionVars false
set_option maxRecDepth 20000
set_option maxHeartbeats 4000000
namespace Go.Proofs.Ytoaimimdfddidaa.LRegsFlows
open Go.RL Go.ChangeShapes Go.WideShapes Go.ChangeAt Go.RowKit
theorem tr3 : TR Try.prog 3 (eInt .i64 8) (fun _ => True) := TR.int (by kernel_rfl) (by kernel_rfl)
theorem tr22 : TR Try.prog 22 (eSl (eInt .i64 8)) (SzL 8 (fun _ => True)) := TR.slice (by kernel_rfl) (by kernel_rfl) (by kernel_rfl) (by decide) tr3
theorem tr5 : TR Try.prog 5 (eInt .u8 1) (fun _ => True) := TR.int (by kernel_rfl) (by kernel_rfl)
noncomputable def Try.fld40_0 : Field := ((Try.prog.underlying 41).bind fun d => match d with | .struct fs => fs[0]? | _ => none).getD default
noncomputable def Try.fld40_1 : Field := ((Try.prog.underlying 41).bind fun d => match d with | .struct fs => fs[1]? | _ => none).getD default
theorem tr41 : TR Try.prog 41 eGTerm (fun _ => True) := by
  refine ⟨fun enc w base spare held fuel cs x h hw => ?_, by kernel_rfl⟩
  have hu : Try.prog.underlying 41 = some (.struct #[Try.fld40_0, Try.fld40_1]) := by kernel_rfl
  obtain ⟨xs, n, _, rfl, hl, hlen, hf⟩ := DataW.trod_struct hu h
  have hl' : cs.length = 2 := hl.trans (by kernel_rfl)
  match xs, hlen, cs, hl' with
  | [y0, y1], _, [v0, v1], _ =>
    obtain ⟨x0, e0, s0⟩ := tr3.rd enc w base spare held n [v0] y0 (hf 0 Try.fld40_0 rfl) (fun m hm => hw m (weights_field (i := 0) hu rfl rfl hm))
    obtain ⟨x1, e1, s1⟩ := tr5.rd enc w base spare held n [v1] y1 (hf 1 Try.fld40_1 rfl) (fun m hm => hw m (weights_field (i := 1) hu rfl rfl hm))
    obtain ⟨f0h, f0r⟩ := e0
    simp only [List.cons.injEq, and_true] at f0h
    obtain rfl := f0h
    obtain ⟨f1h, f1r⟩ := e1
    simp only [List.cons.injEq, and_true] at f1h
    obtain rfl := f1h
    exact ⟨⟨x0, x1⟩, ⟨rfl, f0r, f1r⟩, trivial⟩
theorem tr39 : TR Try.prog 39 (eSl eGTerm) (SzL 16 (fun _ => True)) := TR.slice (by kernel_rfl) (by kernel_rfl) (by kernel_rfl) (by decide) tr41
theorem tr23 : TR Try.prog 23 (eSl (eSl eGTerm)) (SzL 24 (SzL 16 (fun _ => True))) := TR.slice (by kernel_rfl) (by kernel_rfl) (by kernel_rfl) (by decide) tr39
def SzFlow (x : GFlow) : Prop := (SzL 8 (fun _ => True)) x.Inputs ∧ (SzL 24 (SzL 16 (fun _ => True))) x.Nodes ∧ (SzL 8 (fun _ => True)) x.Outs
noncomputable def Try.fld24_0 : Field := ((Try.prog.underlying 25).bind fun d => match d with | .struct fs => fs[0]? | _ => none).getD default
noncomputable def Try.fld24_1 : Field := ((Try.prog.underlying 25).bind fun d => match d with | .struct fs => fs[1]? | _ => none).getD default
noncomputable def Try.fld24_2 : Field := ((Try.prog.underlying 25).bind fun d => match d with | .struct fs => fs[2]? | _ => none).getD default
theorem tr25 : TR Try.prog 25 eGFlow (SzFlow) := by
  refine ⟨fun enc w base spare held fuel cs x h hw => ?_, by kernel_rfl⟩
  have hu : Try.prog.underlying 25 = some (.struct #[Try.fld24_0, Try.fld24_1, Try.fld24_2]) := by kernel_rfl
  obtain ⟨xs, n, _, rfl, hl, hlen, hf⟩ := DataW.trod_struct hu h
  have hl' : cs.length = 3 := hl.trans (by kernel_rfl)
  match xs, hlen, cs, hl' with
  | [y0, y1, y2], _, [v0, v1, v2], _ =>
    obtain ⟨x0, e0, s0⟩ := tr22.rd enc w base spare held n [v0] y0 (hf 0 Try.fld24_0 rfl) (fun m hm => hw m (weights_field (i := 0) hu rfl rfl hm))
    obtain ⟨x1, e1, s1⟩ := tr23.rd enc w base spare held n [v1] y1 (hf 1 Try.fld24_1 rfl) (fun m hm => hw m (weights_field (i := 1) hu rfl rfl hm))
    obtain ⟨x2, e2, s2⟩ := tr22.rd enc w base spare held n [v2] y2 (hf 2 Try.fld24_2 rfl) (fun m hm => hw m (weights_field (i := 2) hu rfl rfl hm))
    obtain ⟨f0A, f0c, f0h, f0r⟩ := e0
    simp only [List.cons.injEq, and_true] at f0h
    obtain rfl := f0h
    obtain ⟨f1A, f1c, f1h, f1r⟩ := e1
    simp only [List.cons.injEq, and_true] at f1h
    obtain rfl := f1h
    obtain ⟨f2A, f2c, f2h, f2r⟩ := e2
    simp only [List.cons.injEq, and_true] at f2h
    obtain rfl := f2h
    exact ⟨⟨x0, x1, x2⟩, ⟨_, _, _, _, _, _, rfl, f0r, f1r, f2r⟩, ⟨s0, s1, s2⟩⟩
theorem tr27 : TR Try.prog 27 (eSl (eInt .u8 1)) (SzL 1 (fun _ => True)) := TR.slice (by kernel_rfl) (by kernel_rfl) (by kernel_rfl) (by decide) tr5
theorem tr26 : TR Try.prog 26 (eSl (eSl (eInt .u8 1))) (SzL 24 (SzL 1 (fun _ => True))) := TR.slice (by kernel_rfl) (by kernel_rfl) (by kernel_rfl) (by decide) tr27
theorem recouplaw23_RegsFlows_true (x0 : GFlow) (x1 : List (List Int)) {H : PHeap} {A0_0 : Option Addr} {c0_0 : Nat} (_ : RdS (eInt .i64 8) H A0_0 c0_0 x0.Inputs) {A0_1 : Option Addr} {c0_1 : Nat} (_ : RdS (eSl eGTerm) H A0_1 c0_1 x0.Nodes) {A0_2 : Option Addr} {c0_2 : Nat} (_ : RdS (eInt .i64 8) H A0_2 c0_2 x0.Outs) {A1_0 : Option Addr} {c1_0 : Nat} (_ : RdS (eSl (eInt .u8 1)) H A1_0 c1_0 x1) (_ : SzFlow x0) (_ : SzL 24 (SzL 1 (fun _ => True)) x1) : recouplaw23_RegsFlows x0 x1 := by
  rename_i hIn hNo hOu hBl sF sB
  obtain ⟨s1, s2, s3⟩ := sF
  have hlim : lim = 140737488355328 := rfl
  have hre : reachBytes = 140737488351232 := rfl
  refine flows_true x0 x1 ⟨by have := s1.1; omega, by have := s2.1; omega, fun l hl => by have := (s2.2 l hl).1; omega, by have := s3.1; omega⟩ ?_ ⟨by have := sB.1; omega, fun b hb => by have := (sB.2 b hb).1; omega, hBl.inBs⟩
  intro l hl t ht
  obtain ⟨cs, A, c, _, hr⟩ := hNo.rdAll l hl
  obtain ⟨cs', _, _, h2⟩ := hr.rdAll t ht
  exact isB_inR.1 h2
theorem own : ownKnob Try.prog.godebug = none := by kernel_rfl
theorem laidOut : laidOutB Try.prog = true := by kernel_rfl

set_option maxRecDepth 100000 in
theorem lifted (os : Os) (started : os.Started) (H : Type) (enc : TypeId × Value → H) :
    ReturnsInHanded {} Try.checked os 4 .any (Rows.regsFlowsSpec.pre6 enc Try.prog Try.f4 Rows.regsFlowsRow.domain false) (Rows.regsFlowsSpec.post enc Try.prog Try.f4 false true false false) := by
  refine returnsInHanded_of_change_sized (C := Try.checked) own started (by kernel_rfl) Try.func4
    (ChangeSpec.witness6 (enc := enc) (C := Try.checked) false ⟨#[], #[.agg #[.slice none 0 0, .slice none 0 0, .slice none 0 0], .slice none 0 0], []⟩ 8 (by kernel_rfl) (by kernel_rfl) (by kernel_rfl) (by kernel_rfl)) ?_
  intro W base args ds gs before hval0 hW hcnd hsz0 _
  have hval : ∀ (j : Nat) t v, Try.f4.params[j]? = some t → args[j]? = some v → Value.okWide Try.prog W .any base t v := hval0
  have hW' := hW
  obtain ⟨p, q, hA0, hV, rfl, hfz, hnd⟩ := hW
  have hA : DataW.TrodAll enc Try.prog W 0 (fun _ => true) true Try.f4.params.toList args.toList ds p := hA0
  rw [Try.params4] at hA hval
  obtain ⟨v0, vs0, d0, ds0, p0, pp0, hargs, rfl, rfl, h0, q0⟩ := trodAll_cons hA
  obtain ⟨v1, vs1, d1, ds1, p1, pp1, rfl, rfl, rfl, h1, q1⟩ := trodAll_cons q0
  obtain ⟨rfl, rfl, rfl⟩ := trodAll_nil q1
  obtain rfl : args = #[v0, v1] := by cases args; simp_all
  obtain ⟨rfl, rfl⟩ := trodVars_none hV
  have hsz : (DataW.weightsEach Try.prog [25, 26] [d0, d1]).all (· ≤ reachBytes) = true := hsz0
  have k0 := h0
  have lt0 : ∀ x ∈ p0, x.block < W.heap.size := by obtain ⟨m, hm⟩ := k0; exact DataW.trod_lt m _ _ _ hm
  obtain ⟨m0, g0⟩ := h0
  obtain ⟨x0, e0, s0⟩ := tr25.rd enc W 0 _ _ m0 _ _ g0 (fun n hn => by have := List.all_eq_true.1 hsz n (DataW.weights_mem_each (j := 0) rfl rfl n hn); simpa using this)
  obtain ⟨cs0, rfl⟩ := agg_of (fs := _) (by kernel_rfl : Try.prog.underlying 25 = some (.struct #[Try.fld24_0, Try.fld24_1, Try.fld24_2])) (hval 0 25 v0 rfl rfl)
  obtain ⟨A0_0, c0_0, A0_1, c0_1, A0_2, c0_2, hcs0, r0_0, r0_1, r0_2⟩ := e0
  obtain rfl : cs0 = #[Value.slice A0_0 (x0.Inputs).length c0_0, Value.slice A0_1 (x0.Nodes).length c0_1, Value.slice A0_2 (x0.Outs).length c0_2] := by apply Array.ext'; exact hcs0
  have k1 := h1
  have lt1 : ∀ x ∈ p1, x.block < W.heap.size := by obtain ⟨m, hm⟩ := k1; exact DataW.trod_lt m _ _ _ hm
  obtain ⟨m1, g1⟩ := h1
  obtain ⟨x1, e1, s1⟩ := tr26.rd enc W 0 _ _ m1 _ _ g1 (fun n hn => by have := List.all_eq_true.1 hsz n (DataW.weights_mem_each (j := 1) rfl rfl n hn); simpa using this)
  obtain ⟨a1, len1, cap1, rfl⟩ := okWide_slice (by kernel_rfl : Try.prog.underlying 26 = some (.slice 27)) (hval 1 26 v1 rfl rfl)
  obtain ⟨A1, c1, hcs1, r1⟩ := e1
  obtain ⟨rfl, rfl, rfl⟩ : a1 = A1 ∧ len1 = (x1).length ∧ cap1 = c1 := by simpa [Value.cells] using hcs1
  clear hA0 hval0
  refine (c_recouplaw23_RegsFlows (H := hpw W) (fun _ _ h => h) r0_0 r0_1 r0_2 r1 (recouplaw23_RegsFlows_true x0 x1 r0_0 r0_1 r0_2 r1 s0 s1)).mono fun e W' h => ?_
  obtain ⟨v, rfl, rfl, hSt⟩ := Ret.out h
  have bel := hSt.below
  exact ⟨_, rfl, _, _, _, [], _, [], hW', trodAll_mk1 (shut_bool (by kernel_rfl) _), (trodAll_cons_mk (Below.trod laidOut (by kernel_rfl) (of_decide_eq_true (by kernel_rfl)) k0 bel lt0) (trodAll_cons_mk (Below.trod laidOut (by kernel_rfl) (of_decide_eq_true (by kernel_rfl)) k1 bel lt1) trodAll_mk0)), rfl, bel.frame _, fun h => by cases h⟩

theorem over : Rows.regsFlowsRow.holds Try.pinned (OpenSpec.ofChange Rows.regsFlowsSpec) :=
  OpenClaim.holds_of_wide 4 Try.f4 rfl rfl rfl rfl rfl rfl rfl ⟨rfl, rfl, rfl, rfl, rfl⟩ rfl rfl rfl rfl rfl (by kernel_rfl) Try.func4 (by kernel_rfl)
    (of_decide_eq_true (by kernel_rfl)) (by unfold Func.isWrapper; first | (rw [if_pos (by decide +kernel)]; kernel_rfl) | (rw [if_neg (by decide +kernel)]; exact ⟨rfl, rfl⟩))
    (fun os started H enc _ => lifted os started H enc)

theorem proved : Rows.RegsFlowsSaid := over
end Go.Proofs.Ytoaimimdfddidaa.LRegsFlows
