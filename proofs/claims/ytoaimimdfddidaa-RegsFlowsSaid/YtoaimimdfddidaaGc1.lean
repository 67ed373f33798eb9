/- Each function of the code, walked: it computes what its mirrored function says (part 1).
   Part of the proof of Rows.RegsFlowsSaid of the program 'recoup'. -/
import Derived.Test.YtoaimimdfddidaaGd
set_option linter.unusedVariables false
set_option linter.unusedSimpArgs false
set_option linter.unusedSectionVars false
namespace Go.RL
open Go.Proofs
set_option maxRecDepth 20000
set_option maxHeartbeats 4000000
theorem c_recoupref01_Copy {w0 : World} {H : PHeap} (hI : ∀ b o, H b = some o → w0.heap[b]? = some o) {x0 : List Int} {A0_0 : Option Addr} {c0_0 : Nat} (h0_0 : RdS (eInt .u8 1) H A0_0 c0_0 x0) {r : List Int} (hF : recoupref01_Copy x0 = some r) :
    Calls Try.prog 22 [Value.slice A0_0 (x0).length c0_0].toArray w0 (Ret (fun v w => ∃ (A0 : Option Addr) (c0 : Nat) (p0 : Piece), v = Value.slice A0 (r).length c0 ∧ St noX w0 w H [p0] ∧ OwnS (eInt .u8 1) 5 H A0 c0 r p0)) := by
  have hS := St.start hI noX
  unfold recoupref01_Copy at hF
  refine enter fi22.hfn rfl rfl rfl fun a hA => wp_seq (wp_region_lit (pr tb 1 hA rfl fun a hA => wpList_nil (tn (wp_seq (wp_region_lit (o_bsl (e := (eInt .u8 1)) (xs := ([] : List Int)) tb hA hS rfl rfl rfl .nil rfl rfl rfl rfl rfl rfl rfl rfl rfl fun a w A14 p15 hA hS hO16 hN18 => pr tb 1 hA rfl fun a hA => ?_))))))
  obtain ⟨z19, hz20, hF⟩ := bind_some hF
  refine o_app (e := (eInt .u8 1)) tb hA hS hO16 (k := 0) rfl (h0_0.src hS) hz20 rfl rfl rfl rfl rfl rfl rfl rfl rfl rfl rfl rfl rfl fun a w A21 c22 p23 hA hS hO24 hN26 => pr tb 1 hA rfl fun a hA => wpList_nil (tn (wp_ret (b_ret hA (rs := [.tmp 2]) rfl (.tmp rfl .nil) ?_)))
  obtain rfl := Option.some.inj hF
  exact ⟨_, _, _, rfl, hS, hO24⟩
theorem c_flow_terms {w0 : World} {H : PHeap} (hI : ∀ b o, H b = some o → w0.heap[b]? = some o) {x0 : List GTerm} {x1 : Int} {A0_0 : Option Addr} {c0_0 : Nat} (h0_0 : RdS eGTerm H A0_0 c0_0 x0) (hr1_0 : inR .i64 x1) {r : Bool} (hF : flow_terms x0 x1 = some r) :
    Calls Try.prog 39 [Value.slice A0_0 (x0).length c0_0, Value.int .i64 x1].toArray w0 (Ret (fun v w => v = Value.bool r ∧ St noX w0 w H [])) := by
  have hS := St.start hI noX
  unfold flow_terms at hF
  refine enter fi39.hfn rfl rfl rfl fun a hA => wp_seq (wp_region_lit (pr tb 1 hA rfl fun a hA => wpList_nil (tn (wp_seq (wp_region_lit (pr tb 1 hA rfl fun a hA => wpList_nil (tn (wp_seq (wp_seq ?_)))))))))
  refine wp_region_lit (pr tb 3 hA rfl fun a hA => wpList_nil (tn ?_))
  obtain ⟨o101, hx101, hK101⟩ := bind_some hF
  refine wp_cut1 (fun a w => ∃ (s104 : Unit), o101 = .fall s104 ∧ Fr (32, []) a [] ∧ St noX w0 w H []) ?_ ?_
  rotate_left
  · rintro a w ⟨s104, rfl, hA, hS⟩
    have hF := hK101
    refine tn (wp_seq (wp_region_lit (pr tb 1 hA rfl fun a hA => wpList_nil (tn (wp_ret (b_ret hA (rs := [.tmp 4]) rfl (.tmp rfl .nil) ?_))))))
    obtain rfl := Option.some.inj hF
    exact ⟨rfl, hS⟩
  have hF := hx101
  refine wp_block ?_
  have hbd101 : (x0).length ≤ 9223372036854775807 := (Nat.le_trans (h0_0.len rfl) (by decide))
  refine wp_for0 (n := (x0).length) (s0 := (((-1) : Int))) (fun (i102 : Nat) (s103 : Int) a w => Fr (32, []) a [(1, Value.int .i64 x1), (5, Value.int .i64 s103), (8, Value.slice A0_0 (x0).length c0_0), (9, Value.int .i64 ((x0).length : Int)), (10, Value.int .i64 (i102 : Int))] ∧ St noX w0 w H [] ∧ inR .i64 s103) hF ⟨hA.sub ⟨rfl, rfl, rfl, rfl, rfl, trivial⟩, hS, (inR_c rfl)⟩ ?_
  rintro After101 i102 s103 a w ⟨hA, hS, hr105⟩ hin101 hst101 hge101
  rcases Nat.lt_or_ge i102 ((x0).length) with hlt101 | hgt101
  rotate_left
  · have hF := congrArg some (hge101 hgt101)
    refine wp_seq (wp_region_lit (pr tb 1 hA rfl fun a hA => wpList_nil (tn (wp_seq (cF hA rfl (decide_eq_false (show ¬ ((i102 : Int) < ((x0).length : Int)) by omega)) (wp_exit (te (te (be (tn ?_))))))))))
    obtain rfl := Option.some.inj hF
    exact ⟨(()), rfl, hA.sub trivial, hS⟩
  obtain ⟨cc101, hF, hgo101⟩ := hst101 hlt101
  refine wp_seq (wp_region_lit (pr tb 1 hA rfl fun a hA => wpList_nil (tn (wp_seq (cT hA rfl (decide_eq_true (show (i102 : Int) < ((x0).length : Int) by omega)) (wp_skip (tn (wp_seq (wp_block (wp_seq (wp_region_lit ?_)))))))))))
  obtain ⟨x106, hx107, hF⟩ := bind_some hF
  refine o_idxR tb hA h0_0 hx107 rfl rfl rfl rfl rfl rfl rfl rfl fun a ad108 hA hE109 => o_ldR tb hA hS hE109 rfl rfl rfl rfl rfl rfl fun a cs110 hc111 hA => ?_
  obtain ⟨rfl, hr112, hr113⟩ := hc111
  refine o_alloc tb hA hS rfl rfl rfl fun a w g115 p116 hA hS hb117 => o_st tb hA hS hb117 rfl rfl (i := 0) rfl rfl rfl rfl rfl rfl rfl fun w p118 hS hb119 => wpList_nil (tn (wp_seq (wp_seq (wp_region_lit (pr tb 1 hA rfl fun a hA => o_ld tb hA hS hb119 rfl (i := 0) rfl rfl rfl rfl rfl rfl fun a hA => pr tb 3 hA rfl fun a hA => ?_)))))
  rcases ite_some hF with ⟨hc120, hF⟩ | ⟨hc120, hF⟩
  · have hA := hA.re (d := 18) rfl (congrArg Value.bool (decide_eq_true hc120 : _ = true))
    refine pr tb 10 hA rfl fun a hA => wpList_nil (tn (cT hA rfl rfl (wp_seq (wp_region_lit (pr tb 1 hA rfl fun a hA => wpList_nil (tn (wp_ret (tr (br (tr ?_))))))))))
    refine tr ?_
    obtain rfl := Option.some.inj hF
    have hF := congrArg some hgo101
    refine br (tr ?_)
    obtain rfl := Option.some.inj hF
    have hF := hK101
    refine tr (b_ret hA (rs := [.tmp 4]) rfl (.tmp rfl .nil) ?_)
    obtain rfl := Option.some.inj hF
    exact ⟨rfl, hS.pick (is := []) rfl (by decide)⟩
  have hA := hA.re (d := 18) rfl (congrArg Value.bool (decide_eq_false hc120 : _ = false))
  refine pr tb 1 hA rfl fun a hA => o_ld tb hA hS hb119 rfl (i := 0) rfl rfl rfl rfl rfl rfl fun a hA => pr tb 4 hA rfl fun a hA => ?_
  rcases ite_some hF with ⟨hc121, hF⟩ | ⟨hc121, hF⟩
  · have hA := hA.re (d := 24) rfl (congrArg Value.bool (decide_eq_true hc121 : _ = true))
    refine pr tb 4 hA rfl fun a hA => wpList_nil (tn (cT hA rfl rfl (wp_seq (wp_region_lit (pr tb 1 hA rfl fun a hA => wpList_nil (tn (wp_ret (tr (br (tr ?_))))))))))
    refine tr ?_
    obtain rfl := Option.some.inj hF
    have hF := congrArg some hgo101
    refine br (tr ?_)
    obtain rfl := Option.some.inj hF
    have hF := hK101
    refine tr (b_ret hA (rs := [.tmp 4]) rfl (.tmp rfl .nil) ?_)
    obtain rfl := Option.some.inj hF
    exact ⟨rfl, hS.pick (is := []) rfl (by decide)⟩
  have hA := hA.re (d := 24) rfl (congrArg Value.bool (decide_eq_false hc121 : _ = false))
  refine pr tb 1 hA rfl fun a hA => o_ld tb hA hS hb119 rfl (i := 0) rfl rfl rfl rfl rfl rfl fun a hA => pr tb 2 hA rfl fun a hA => wpList_nil (tn ?_)
  rcases ite_some hF with ⟨hc122, hF⟩ | ⟨hc122, hF⟩
  rotate_left
  · refine cF hA rfl (decide_eq_false hc122) (wp_skip (tn (wp_region_lit (pr tb 1 hA rfl fun a hA => o_ld tb hA hS hb119 rfl (i := 0) rfl rfl rfl rfl rfl rfl fun a hA => pr tb 1 hA rfl fun a hA => wpList_nil (bn (tn (wp_region_lit (pr tb 2 hA rfl fun a hA => wpList_nil ?_))))))))
    refine tn ?_
    obtain rfl := Option.some.inj hF
    have hA := hA.re (d := 10) rfl (congrArg (Value.int .i64) (w64_succ hlt101 hbd101))
    exact ⟨(x106.Of), ⟨hA.sub ⟨rfl, rfl, rfl, rfl, rfl, trivial⟩, hS.pick (is := []) rfl (by decide), hr112⟩, hlt101, hgo101⟩
  refine cT hA rfl (decide_eq_true hc122) (wp_seq (wp_region_lit (pr tb 1 hA rfl fun a hA => wpList_nil (tn (wp_ret (tr (br (tr (tr ?_)))))))))
  obtain rfl := Option.some.inj hF
  have hF := congrArg some hgo101
  refine br (tr ?_)
  obtain rfl := Option.some.inj hF
  have hF := hK101
  refine tr (b_ret hA (rs := [.tmp 4]) rfl (.tmp rfl .nil) ?_)
  obtain rfl := Option.some.inj hF
  exact ⟨rfl, hS.pick (is := []) rfl (by decide)⟩
theorem c_flow_May {w0 : World} {H : PHeap} (hI : ∀ b o, H b = some o → w0.heap[b]? = some o) {x0 : GFlow} {A0_0 : Option Addr} {c0_0 : Nat} (h0_0 : RdS (eInt .i64 8) H A0_0 c0_0 x0.Inputs) {A0_1 : Option Addr} {c0_1 : Nat} (h0_1 : RdS (eSl eGTerm) H A0_1 c0_1 x0.Nodes) {A0_2 : Option Addr} {c0_2 : Nat} (h0_2 : RdS (eInt .i64 8) H A0_2 c0_2 x0.Outs) {r : Bool} (hF : flow_May x0 = some r) :
    Calls Try.prog 23 [Value.agg #[Value.slice A0_0 (x0.Inputs).length c0_0, Value.slice A0_1 (x0.Nodes).length c0_1, Value.slice A0_2 (x0.Outs).length c0_2]].toArray w0 (Ret (fun v w => v = Value.bool r ∧ St noX w0 w H [])) := by
  have hS := St.start hI noX
  unfold flow_May at hF
  refine enter fi23.hfn rfl rfl rfl fun a hA => wp_seq (wp_region_lit (o_box hA hS rfl rfl rfl fun a w g218 p219 hA hS hb220 => pr tb 1 hA rfl fun a hA => wpList_nil (tn (wp_seq (wp_region_lit (pr tb 1 hA rfl fun a hA => wpList_nil (tn (wp_seq ?_))))))))
  refine wp_seq (wp_region_lit (pr tb 1 hA rfl fun a hA => o_ld tb hA hS hb220 rfl (i := 0) rfl rfl rfl rfl rfl rfl fun a hA => pr tb 2 hA rfl fun a hA => wpList_nil (tn ?_)))
  obtain ⟨o281, hx281, hK281⟩ := bind_some hF
  refine wp_cut1 (fun a w => ∃ (s284 : Unit), o281 = .fall s284 ∧ Fr (56, []) a [(1, Value.pointer (some ⟨g218, 0, none⟩))] ∧ St noX w0 w H [p219]) ?_ ?_
  · have hF := hx281
    refine wp_block ?_
    have hbd281 : (x0.Inputs).length ≤ 9223372036854775807 := (Nat.le_trans (h0_0.len rfl) (by decide))
    refine wp_for0 (n := (x0.Inputs).length) (s0 := (((-1) : Int))) (fun (i282 : Nat) (s283 : Int) a w => Fr (56, []) a [(1, Value.pointer (some ⟨g218, 0, none⟩)), (3, Value.int .i64 s283), (9, Value.slice A0_0 (x0.Inputs).length c0_0), (10, Value.int .i64 ((x0.Inputs).length : Int)), (11, Value.int .i64 (i282 : Int))] ∧ St noX w0 w H [p219] ∧ inR .i64 s283) hF ⟨hA.sub ⟨rfl, rfl, rfl, rfl, rfl, trivial⟩, hS, (inR_c rfl)⟩ ?_
    rintro After281 i282 s283 a w ⟨hA, hS, hr285⟩ hin281 hst281 hge281
    rcases Nat.lt_or_ge i282 ((x0.Inputs).length) with hlt281 | hgt281
    rotate_left
    · have hF := congrArg some (hge281 hgt281)
      refine wp_seq (wp_region_lit (pr tb 1 hA rfl fun a hA => wpList_nil (tn (wp_seq (cF hA rfl (decide_eq_false (show ¬ ((i282 : Int) < ((x0.Inputs).length : Int)) by omega)) (wp_exit (te (te (be (tn ?_))))))))))
      obtain rfl := Option.some.inj hF
      exact ⟨(()), rfl, hA.sub ⟨rfl, trivial⟩, hS⟩
    obtain ⟨cc281, hF, hgo281⟩ := hst281 hlt281
    refine wp_seq (wp_region_lit (pr tb 1 hA rfl fun a hA => wpList_nil (tn (wp_seq (cT hA rfl (decide_eq_true (show (i282 : Int) < ((x0.Inputs).length : Int) by omega)) (wp_skip (tn (wp_seq (wp_block (wp_seq (wp_region_lit ?_)))))))))))
    obtain ⟨x286, hx287, hF⟩ := bind_some hF
    refine o_idxR tb hA h0_0 hx287 rfl rfl rfl rfl rfl rfl rfl rfl fun a ad288 hA hE289 => o_ldR tb hA hS hE289 rfl rfl rfl rfl rfl rfl fun a cs290 hc291 hA => ?_
    obtain ⟨rfl, hr292⟩ := hc291
    refine pr tb 1 hA rfl fun a hA => wpList_nil (tn (wp_seq (wp_seq (wp_region_lit (pr tb 4 hA rfl fun a hA => ?_)))))
    rcases ite_some hF with ⟨hc293, hF⟩ | ⟨hc293, hF⟩
    · have hA := hA.re (d := 18) rfl (congrArg Value.bool (decide_eq_true hc293 : _ = true))
      refine pr tb 3 hA rfl fun a hA => wpList_nil (tn (cT hA rfl rfl (wp_seq (wp_region_lit (pr tb 1 hA rfl fun a hA => wpList_nil (tn (wp_ret (tr (br (tr ?_))))))))))
      refine tr ?_
      obtain rfl := Option.some.inj hF
      have hF := congrArg some hgo281
      refine br (tr ?_)
      obtain rfl := Option.some.inj hF
      have hF := hK281
      refine tr (b_ret hA (rs := [.tmp 2]) rfl (.tmp rfl .nil) ?_)
      obtain rfl := Option.some.inj hF
      exact ⟨rfl, hS.pick (is := []) rfl (by decide)⟩
    have hA := hA.re (d := 18) rfl (congrArg Value.bool (decide_eq_false hc293 : _ = false))
    refine pr tb 3 hA rfl fun a hA => wpList_nil (tn ?_)
    rcases ite_some hF with ⟨hc294, hF⟩ | ⟨hc294, hF⟩
    rotate_left
    · refine cF hA rfl (decide_eq_false hc294) (wp_skip (tn (wp_region_lit (pr tb 2 hA rfl fun a hA => wpList_nil (bn (tn (wp_region_lit (pr tb 2 hA rfl fun a hA => wpList_nil (tn ?_)))))))))
      obtain rfl := Option.some.inj hF
      have hA := hA.re (d := 11) rfl (congrArg (Value.int .i64) (w64_succ hlt281 hbd281))
      exact ⟨(x286), ⟨hA.sub ⟨rfl, rfl, rfl, rfl, rfl, trivial⟩, hS, hr292⟩, hlt281, hgo281⟩
    refine cT hA rfl (decide_eq_true hc294) (wp_seq (wp_region_lit (pr tb 1 hA rfl fun a hA => wpList_nil (tn (wp_ret (tr (br (tr (tr ?_)))))))))
    obtain rfl := Option.some.inj hF
    have hF := congrArg some hgo281
    refine br (tr ?_)
    obtain rfl := Option.some.inj hF
    have hF := hK281
    refine tr (b_ret hA (rs := [.tmp 2]) rfl (.tmp rfl .nil) ?_)
    obtain rfl := Option.some.inj hF
    exact ⟨rfl, hS.pick (is := []) rfl (by decide)⟩
  rintro a w ⟨s284, rfl, hA, hS⟩
  have hF := hK281
  refine tn (wp_seq (wp_seq (wp_region_lit (pr tb 1 hA rfl fun a hA => o_ld tb hA hS hb220 rfl (i := 0) rfl rfl rfl rfl rfl rfl fun a hA => pr tb 3 hA rfl fun a hA => ?_))))
  rcases ite_some hF with ⟨hc297, hF⟩ | ⟨hc297, hF⟩
  · have hA := hA.re (d := 28) rfl (congrArg Value.bool (decide_eq_true hc297 : _ = true))
    refine pr tb 5 hA rfl fun a hA => wpList_nil (tn (cT hA rfl rfl (wp_seq (wp_region_lit (pr tb 1 hA rfl fun a hA => wpList_nil (tn (wp_ret (tr (b_ret hA (rs := [.tmp 2]) rfl (.tmp rfl .nil) ?_)))))))))
    obtain rfl := Option.some.inj hF
    exact ⟨rfl, hS.pick (is := []) rfl (by decide)⟩
  have hA := hA.re (d := 28) rfl (congrArg Value.bool (decide_eq_false hc297 : _ = false))
  refine pr tb 1 hA rfl fun a hA => o_ld tb hA hS hb220 rfl (i := 0) rfl rfl rfl rfl rfl rfl fun a hA => pr tb 3 hA rfl fun a hA => wpList_nil (tn ?_)
  rcases ite_some hF with ⟨hc298, hF⟩ | ⟨hc298, hF⟩
  · refine cT hA rfl (decide_eq_true hc298) (wp_seq (wp_region_lit (pr tb 1 hA rfl fun a hA => wpList_nil (tn (wp_ret (tr (b_ret hA (rs := [.tmp 2]) rfl (.tmp rfl .nil) ?_)))))))
    obtain rfl := Option.some.inj hF
    exact ⟨rfl, hS.pick (is := []) rfl (by decide)⟩
  refine cF hA rfl (decide_eq_false hc298) (wp_skip (tn (wp_seq (wp_seq (wp_region_lit (pr tb 1 hA rfl fun a hA => o_ld tb hA hS hb220 rfl (i := 0) rfl rfl rfl rfl rfl rfl fun a hA => pr tb 2 hA rfl fun a hA => wpList_nil (tn ?_)))))))
  obtain ⟨o355, hx355, hK355⟩ := bind_some hF
  refine wp_cut1 (fun a w => ∃ (s358 : Unit), o355 = .fall s358 ∧ Fr (56, []) a [(1, Value.pointer (some ⟨g218, 0, none⟩))] ∧ St noX w0 w H [p219]) ?_ ?_
  · have hF := hx355
    refine wp_block ?_
    have hbd355 : (x0.Nodes).length ≤ 9223372036854775807 := (Nat.le_trans (h0_1.len rfl) (by decide))
    refine wp_for0 (n := (x0.Nodes).length) (s0 := (())) (fun (i356 : Nat) (s357 : Unit) a w => Fr (56, []) a [(1, Value.pointer (some ⟨g218, 0, none⟩)), (35, Value.slice A0_1 (x0.Nodes).length c0_1), (36, Value.int .i64 ((x0.Nodes).length : Int)), (37, Value.int .i64 (i356 : Int))] ∧ St noX w0 w H [p219]) hF ⟨hA.sub ⟨rfl, rfl, rfl, rfl, trivial⟩, hS⟩ ?_
    rintro After355 i356 s357 a w ⟨hA, hS⟩ hin355 hst355 hge355
    rcases Nat.lt_or_ge i356 ((x0.Nodes).length) with hlt355 | hgt355
    rotate_left
    · have hF := congrArg some (hge355 hgt355)
      refine wp_seq (wp_region_lit (pr tb 1 hA rfl fun a hA => wpList_nil (tn (wp_seq (cF hA rfl (decide_eq_false (show ¬ ((i356 : Int) < ((x0.Nodes).length : Int)) by omega)) (wp_exit (te (te (be (tn ?_))))))))))
      obtain rfl := Option.some.inj hF
      exact ⟨(()), rfl, hA.sub ⟨rfl, trivial⟩, hS⟩
    obtain ⟨cc355, hF, hgo355⟩ := hst355 hlt355
    refine wp_seq (wp_region_lit (pr tb 1 hA rfl fun a hA => wpList_nil (tn (wp_seq (cT hA rfl (decide_eq_true (show (i356 : Int) < ((x0.Nodes).length : Int) by omega)) (wp_skip (tn (wp_seq (wp_block (wp_seq (wp_region_lit ?_)))))))))))
    refine pr tb 1 hA rfl fun a hA => ?_
    obtain ⟨x359, hx360, hF⟩ := bind_some hF
    refine o_idxR tb hA h0_1 hx360 rfl rfl rfl rfl rfl rfl rfl rfl fun a ad361 hA hE362 => o_ldR tb hA hS hE362 rfl rfl rfl rfl rfl rfl fun a cs363 hc364 hA => ?_
    obtain ⟨A365, c366, rfl, hR367⟩ := hc364
    refine pr tb 2 hA rfl fun a hA => wpList_nil (tn (wp_seq (wp_region_lit (pr tb 2 hA rfl fun a hA => o_ld tb hA hS hb220 rfl (i := 0) rfl rfl rfl rfl rfl rfl fun a hA => pr tb 3 hA rfl fun a hA => ?_))))
    obtain ⟨r368, hx369, hF⟩ := bind_some hF
    refine o_call1 hA fi39 rfl rfl rfl rfl (c_flow_terms (x0 := x359) (x1 := (w64 (((x0.Inputs).length : Int) + (i356 : Int)))) hS.imm hR367 (inR_wrap _ _) hx369) fun a w v373 hres hA => ?_
    obtain ⟨rfl, hS370⟩ := hres
    have hS := hS.callL hS370 (PHeap.le.refl _)
    refine pr tb 1 hA rfl fun a hA => wpList_nil (tn ?_)
    rcases ite_some hF with ⟨hc374, hF⟩ | ⟨hc374, hF⟩
    · refine cF hA rfl (nf_of (hc374)) (wp_skip (bn (tn (wp_region_lit (pr tb 2 hA rfl fun a hA => wpList_nil (tn ?_))))))
      obtain rfl := Option.some.inj hF
      have hA := hA.re (d := 37) rfl (congrArg (Value.int .i64) (w64_succ hlt355 hbd355))
      exact ⟨(()), ⟨hA.sub ⟨rfl, rfl, rfl, rfl, trivial⟩, hS⟩, hlt355, hgo355⟩
    refine cT hA rfl (nt_of (ff_of hc374)) (wp_seq (wp_region_lit (pr tb 1 hA rfl fun a hA => wpList_nil (tn (wp_ret (br (tr (tr ?_))))))))
    obtain rfl := Option.some.inj hF
    have hF := congrArg some hgo355
    refine br (tr ?_)
    obtain rfl := Option.some.inj hF
    have hF := hK355
    refine tr (b_ret hA (rs := [.tmp 2]) rfl (.tmp rfl .nil) ?_)
    obtain rfl := Option.some.inj hF
    exact ⟨rfl, hS.pick (is := []) rfl (by decide)⟩
  rintro a w ⟨s358, rfl, hA, hS⟩
  have hF := hK355
  refine tn (wp_seq (wp_region_lit (pr tb 1 hA rfl fun a hA => o_ld tb hA hS hb220 rfl (i := 0) rfl rfl rfl rfl rfl rfl fun a hA => pr tb 1 hA rfl fun a hA => o_inl hA fi40 rfl rfl rfl rfl (enter fi40.hfn rfl rfl rfl fun a1 hA1 => wp_seq (wp_region_lit (pr tb 1 hA1 rfl fun a1 hA1 => wpList_nil (tn ?_)))))))
  refine wp_seq (wp_region_lit (pr tb 2 hA1 rfl fun a1 hA1 => ?_))
  obtain ⟨o403, hx403, hK403⟩ := bind_some hF
  refine o_call1 (R := fun v w => v = Value.int .i64 o403 ∧ St noX w0 w H [p219] ∧ inR .i64 o403) hA1 fi52 rfl rfl rfl rfl ?_ ?_
  rotate_left
  · rintro a1 w v ⟨rfl, hS, hr404⟩ hA1
    have hF := hK403
    refine pr tb 2 hA1 rfl fun a1 hA1 => wpList_nil (tn (wp_ret (b_ret hA1 (rs := [.tmp 4]) rfl (.tmp rfl .nil) ?_)))
    intro a hA
    refine pr tb 2 hA rfl fun a hA => wpList_nil (tn (wp_ret (b_ret hA (rs := [.tmp 2]) rfl (.tmp rfl .nil) ?_)))
    obtain rfl := Option.some.inj hF
    exact ⟨rfl, hS.pick (is := []) rfl (by decide)⟩
  have hF := hx403
  refine enter fi52.hfn rfl rfl rfl fun a2 hA2 => wp_seq (wp_region_lit (pr tb 1 hA2 rfl fun a2 hA2 => wpList_nil (tn (wp_seq (wp_seq (wp_region_lit (pr tb 3 hA2 rfl fun a2 hA2 => wpList_nil (tn ?_))))))))
  obtain ⟨o418, hx418, hK418⟩ := bind_some hF
  refine wp_cut1 (fun a w => ∃ (s421 : Unit), o418 = .fall s421 ∧ Fr (19, []) a [] ∧ St noX w0 w H [p219]) ?_ ?_
  rotate_left
  · rintro a w ⟨s421, rfl, hA2, hS⟩
    have hF := hK418
    refine tn (wp_seq (wp_region_lit (pr tb 1 hA2 rfl fun a2 hA2 => wpList_nil (tn (wp_ret (b_ret hA2 (rs := [.tmp 4]) rfl (.tmp rfl .nil) ?_))))))
    obtain rfl := Option.some.inj hF
    exact ⟨rfl, hS, (inR_c rfl)⟩
  have hF := hx418
  refine wp_block ?_
  have hbd418 : (x0.Outs).length ≤ 9223372036854775807 := (Nat.le_trans (h0_2.len rfl) (by decide))
  refine wp_for0 (n := (x0.Outs).length) (s0 := (())) (fun (i419 : Nat) (s420 : Unit) a w => Fr (19, []) a [(0, Value.slice A0_2 (x0.Outs).length c0_2), (1, Value.func (.func 41) #[] #[Value.pointer (some ⟨g218, 0, none⟩)]), (7, Value.int .i64 ((x0.Outs).length : Int)), (8, Value.int .i64 (i419 : Int))] ∧ St noX w0 w H [p219]) hF ⟨hA2.sub ⟨rfl, rfl, rfl, rfl, trivial⟩, hS⟩ ?_
  rintro After418 i419 s420 a w ⟨hA2, hS⟩ hin418 hst418 hge418
  rcases Nat.lt_or_ge i419 ((x0.Outs).length) with hlt418 | hgt418
  rotate_left
  · have hF := congrArg some (hge418 hgt418)
    refine wp_seq (wp_region_lit (pr tb 1 hA2 rfl fun a2 hA2 => wpList_nil (tn (wp_seq (cF hA2 rfl (decide_eq_false (show ¬ ((i419 : Int) < ((x0.Outs).length : Int)) by omega)) (wp_exit (te (te (be (tn ?_))))))))))
    obtain rfl := Option.some.inj hF
    exact ⟨(()), rfl, hA2.sub trivial, hS⟩
  obtain ⟨cc418, hF, hgo418⟩ := hst418 hlt418
  refine wp_seq (wp_region_lit (pr tb 1 hA2 rfl fun a2 hA2 => wpList_nil (tn (wp_seq (cT hA2 rfl (decide_eq_true (show (i419 : Int) < ((x0.Outs).length : Int) by omega)) (wp_skip (tn (wp_seq (wp_block (wp_seq (wp_region_lit ?_)))))))))))
  refine pr tb 2 hA2 rfl fun a2 hA2 => wpList_nil (tn (wp_seq (wp_region_lit (pr tb 3 hA2 rfl fun a2 hA2 => ?_))))
  obtain ⟨x422, hx423, hF⟩ := bind_some hF
  refine o_idxR tb hA2 h0_2 hx423 rfl rfl rfl rfl rfl rfl rfl rfl fun a2 ad424 hA2 hE425 => o_ldR tb hA2 hS hE425 rfl rfl rfl rfl rfl rfl fun a2 cs426 hc427 hA2 => ?_
  obtain ⟨rfl, hr428⟩ := hc427
  obtain ⟨o430, hx430, hK430⟩ := bind_some hF
  refine o_call1 (R := fun v w => v = Value.bool o430 ∧ St noX w0 w H [p219]) hA2 fi41 rfl rfl rfl rfl ?_ ?_
  · have hF := hx430
    refine enter fi41.hfn rfl rfl rfl fun a3 hA3 => wp_seq (wp_region_lit (pr tb 1 hA3 rfl fun a3 hA3 => wpList_nil (tn (wp_seq (wp_region_lit (pr tb 3 hA3 rfl fun a3 hA3 => ?_))))))
    rcases ite_some hF with ⟨hc431, hF⟩ | ⟨hc431, hF⟩
    · have hA3 := hA3.re (d := 6) rfl (congrArg Value.bool (decide_eq_true hc431 : _ = true))
      refine pr tb 11 hA3 rfl fun a3 hA3 => wpList_nil (tn (wp_ret (b_ret hA3 (rs := [.tmp 3]) rfl (.tmp rfl .nil) ?_)))
      obtain rfl := Option.some.inj hF
      exact ⟨rfl, hS⟩
    have hA3 := hA3.re (d := 6) rfl (congrArg Value.bool (decide_eq_false hc431 : _ = false))
    refine pr tb 2 hA3 rfl fun a3 hA3 => o_ld tb hA3 hS hb220 rfl (i := 0) rfl rfl rfl rfl rfl rfl fun a3 hA3 => pr tb 2 hA3 rfl fun a3 hA3 => o_ld tb hA3 hS hb220 rfl (i := 0) rfl rfl rfl rfl rfl rfl fun a3 hA3 => pr tb 5 hA3 rfl fun a3 hA3 => wpList_nil (tn (wp_ret (b_ret hA3 (rs := [.tmp 3]) rfl (.tmp rfl .nil) ?_)))
    obtain rfl := Option.some.inj hF
    exact ⟨rfl, hS⟩
  rintro a2 w v ⟨rfl, hS⟩ hA2
  have hF := hK430
  refine wpList_nil (tn ?_)
  rcases ite_some hF with ⟨hc432, hF⟩ | ⟨hc432, hF⟩
  rotate_left
  · refine cF hA2 rfl (ff_of hc432) (wp_skip (bn (tn (wp_region_lit (pr tb 2 hA2 rfl fun a2 hA2 => wpList_nil (tn ?_))))))
    obtain rfl := Option.some.inj hF
    have hA2 := hA2.re (d := 8) rfl (congrArg (Value.int .i64) (w64_succ hlt418 hbd418))
    exact ⟨(()), ⟨hA2.sub ⟨rfl, rfl, rfl, rfl, trivial⟩, hS⟩, hlt418, hgo418⟩
  refine cT hA2 rfl hc432 (wp_seq (wp_region_lit (pr tb 2 hA2 rfl fun a2 hA2 => wpList_nil (tn (wp_ret (br (tr (tr ?_))))))))
  obtain rfl := Option.some.inj hF
  have hF := congrArg some hgo418
  refine br (tr ?_)
  obtain rfl := Option.some.inj hF
  have hF := hK418
  refine tr (b_ret hA2 (rs := [.tmp 4]) rfl (.tmp rfl .nil) ?_)
  obtain rfl := Option.some.inj hF
  exact ⟨rfl, hS, (inR_nat (by omega))⟩
theorem c_flow_mark : ∀ (n : Nat) {w0 : World} {H : PHeap} (hI : ∀ b o, H b = some o → w0.heap[b]? = some o) {x0 : GFlow} {x1 : List Bool} {x2 : Int} {A0_0 : Option Addr} {c0_0 : Nat} (h0_0 : RdS (eInt .i64 8) H A0_0 c0_0 x0.Inputs) {A0_1 : Option Addr} {c0_1 : Nat} (h0_1 : RdS (eSl eGTerm) H A0_1 c0_1 x0.Nodes) {A0_2 : Option Addr} {c0_2 : Nat} (h0_2 : RdS (eInt .i64 8) H A0_2 c0_2 x0.Outs) {A1_0 : Option Addr} {c1_0 : Nat} {q1 : Piece} (hp1 : ∀ g o, q1 g = some o → w0.heap[g]? = some o ∧ H g = none) (h1_0 : OwnS eBool 4 H A1_0 c1_0 x1 q1) (hr2_0 : inR .i64 x2) {r : List Bool} (hF : flow_mark n x0 x1 x2 = some r),
    Calls Try.prog 24 [Value.agg #[Value.slice A0_0 (x0.Inputs).length c0_0, Value.slice A0_1 (x0.Nodes).length c0_1, Value.slice A0_2 (x0.Outs).length c0_2], Value.slice A1_0 (x1).length c1_0, Value.int .i64 x2].toArray w0 (Ret (fun v w => ∃ (p1' : Piece), v = Value.tuple #[] ∧ St (dom q1) w0 w H [p1'] ∧ OwnS eBool 4 H A1_0 c1_0 r p1' ∧ (r).length = (x1).length)) := by
  intro n
  induction n with
  | zero =>
    intros
    rename_i hF
    cases hF
  | succ n ih =>
    intro w0 H hI x0 x1 x2 A0_0 c0_0 h0_0 A0_1 c0_1 h0_1 A0_2 c0_2 h0_2 A1_0 c1_0 q1 hp1 h1_0 hr2_0 r hF
    have hS := St.startX hI hp1
    rw [flow_mark] at hF
    refine enter fi24.hfn rfl rfl rfl fun a hA => wp_seq (wp_region_lit (o_box hA hS rfl rfl rfl fun a w g130 p131 hA hS hb132 => wpList_nil (tn (wp_seq (wp_seq (wp_region_lit (pr tb 2 hA rfl fun a hA => ?_)))))))
    obtain ⟨x133, hx134, hF⟩ := bind_some hF
    refine o_idxO tb hA h1_0 hx134 rfl rfl rfl rfl rfl rfl rfl rfl fun a ad135 hA hE136 hat137 => o_ldO tb hA hS hE136 rfl (i := 1) rfl rfl rfl rfl rfl rfl fun a cs138 hc139 hA => ?_
    obtain rfl := hc139
    refine wpList_nil (tn ?_)
    rcases ite_some hF with ⟨hc140, hF⟩ | ⟨hc140, hF⟩
    · refine cT hA rfl hc140 (wp_ret (tr (b_ret hA (rs := []) rfl RV.nil ?_)))
      obtain rfl := Option.some.inj hF
      exact ⟨_, rfl, hS.pick (is := [1]) rfl (by decide), h1_0, rfl⟩
    refine cF hA rfl (ff_of hc140) (wp_skip (tn (wp_seq (wp_region_lit (pr tb 2 hA rfl fun a hA => ?_)))))
    obtain ⟨x141, hx142, hF⟩ := bind_some hF
    refine o_idxO tb hA h1_0 hx142 rfl rfl rfl rfl rfl rfl rfl rfl fun a ad143 hA hE144 hat145 => o_stO (v := Value.bool true) (y0 := true) tb hA hS h1_0 hat145 ((idx_some hx142).2.2) rfl rfl rfl (k := 1) rfl rfl rfl rfl rfl fun w p146 hS hO147 => ?_
    have hq148 : (x1).length = ((x1).set (x2).toNat true).length := (List.length_set ..).symm
    have hA := hA.re (d := 1) rfl (congrArg (fun n => Value.slice A1_0 n c1_0) hq148)
    have hA := hA.re (d := 8) rfl (congrArg (fun n => Value.slice A1_0 n c1_0) hq148)
    have hA := hA.re (d := 12) rfl (congrArg (fun n => Value.slice A1_0 n c1_0) hq148)
    refine wpList_nil (tn (wp_seq (wp_seq (wp_region_lit (pr tb 2 hA rfl fun a hA => o_ld tb hA hS hb132 rfl (i := 0) rfl rfl rfl rfl rfl rfl fun a hA => pr tb 2 hA rfl fun a hA => wpList_nil (tn ?_))))))
    rcases ite_some hF with ⟨hc149, hF⟩ | ⟨hc149, hF⟩
    · refine cT hA rfl (decide_eq_true hc149) (wp_ret (tr (b_ret hA (rs := []) rfl RV.nil ?_)))
      obtain rfl := Option.some.inj hF
      exact ⟨_, rfl, hS.pick (is := [1]) rfl (by decide), hO147, (List.length_set.trans rfl)⟩
    refine cF hA rfl (decide_eq_false hc149) (wp_skip (tn (wp_seq (wp_region_lit (pr tb 1 hA rfl fun a hA => o_ld tb hA hS hb132 rfl (i := 0) rfl rfl rfl rfl rfl rfl fun a hA => pr tb 2 hA rfl fun a hA => o_ld tb hA hS hb132 rfl (i := 0) rfl rfl rfl rfl rfl rfl fun a hA => pr tb 2 hA rfl fun a hA => ?_)))))
    obtain ⟨x150, hx151, hF⟩ := bind_some hF
    refine o_idxR tb hA h0_1 hx151 rfl rfl rfl rfl rfl rfl rfl rfl fun a ad152 hA hE153 => o_ldR tb hA hS hE153 rfl rfl rfl rfl rfl rfl fun a cs154 hc155 hA => ?_
    obtain ⟨A156, c157, rfl, hR158⟩ := hc155
    refine pr tb 2 hA rfl fun a hA => wpList_nil (tn ?_)
    obtain ⟨o217, hx217, hK217⟩ := bind_some hF
    refine wp_cut1 (fun a w => ∃ (p222 : Piece), Fr (40, []) a [(1, Value.slice A1_0 (o217).length c1_0)] ∧ St (dom q1) w0 w H [p222] ∧ OwnS eBool 4 H A1_0 c1_0 (o217) p222 ∧ (o217).length = (x1).length) ?_ ?_
    rotate_left
    · rintro a w ⟨p222, hA, hS, hO223, hl225⟩
      have hF := hK217
      refine b_end hA (rs := []) rfl RV.nil ?_
      obtain rfl := Option.some.inj hF
      exact ⟨_, rfl, hS, hO223, hl225⟩
    have hF := hx217
    refine wp_block ?_
    have hbd217 : (x150).length ≤ 9223372036854775807 := (Nat.le_trans (hR158.len rfl) (by decide))
    refine wp_for0 (n := (x150).length) (s0 := ((x1).set (x2).toNat true)) (fun (i218 : Nat) (s219 : List Bool) a w => ∃ (p228 : Piece), Fr (40, []) a [(1, Value.slice A1_0 (s219).length c1_0), (3, Value.pointer (some ⟨g130, 0, none⟩)), (28, Value.slice A156 (x150).length c157), (29, Value.int .i64 ((x150).length : Int)), (30, Value.int .i64 (i218 : Int))] ∧ St (dom q1) w0 w H [p228, p131] ∧ OwnS eBool 4 H A1_0 c1_0 (s219) p228 ∧ (s219).length = (x1).length) hF ⟨_, hA.sub ⟨rfl, rfl, rfl, rfl, rfl, trivial⟩, hS.pick (is := [1, 0]) rfl (by decide), hO147, (List.length_set.trans rfl)⟩ ?_
    rintro After217 i218 s219 a w ⟨p228, hA, hS, hO229, hl231⟩ hin217 hst217 hge217
    rcases Nat.lt_or_ge i218 ((x150).length) with hlt217 | hgt217
    rotate_left
    · have hF := congrArg some (hge217 hgt217)
      refine wp_seq (wp_region_lit (pr tb 1 hA rfl fun a hA => wpList_nil (tn (wp_seq (cF hA rfl (decide_eq_false (show ¬ ((i218 : Int) < ((x150).length : Int)) by omega)) (wp_exit (te (te (be (tn ?_))))))))))
      obtain rfl := Option.some.inj hF
      exact ⟨_, hA.sub ⟨rfl, trivial⟩, hS.pick (is := [0]) rfl (by decide), hO229, hl231⟩
    obtain ⟨cc217, hF, hgo217⟩ := hst217 hlt217
    refine wp_seq (wp_region_lit (pr tb 1 hA rfl fun a hA => wpList_nil (tn (wp_seq (cT hA rfl (decide_eq_true (show (i218 : Int) < ((x150).length : Int) by omega)) (wp_skip (tn (wp_seq (wp_block (wp_seq (wp_region_lit ?_)))))))))))
    obtain ⟨x232, hx233, hF⟩ := bind_some hF
    refine o_idxR tb hA hR158 hx233 rfl rfl rfl rfl rfl rfl rfl rfl fun a ad234 hA hE235 => o_ldR tb hA hS hE235 rfl rfl rfl rfl rfl rfl fun a cs236 hc237 hA => ?_
    obtain ⟨rfl, hr238, hr239⟩ := hc237
    refine o_alloc tb hA hS rfl rfl rfl fun a w g241 p242 hA hS hb243 => o_st tb hA hS hb243 rfl rfl (i := 0) rfl rfl rfl rfl rfl rfl rfl fun w p244 hS hb245 => wpList_nil (tn (wp_region_lit (o_ld tb hA hS hb132 rfl (i := 2) rfl rfl rfl rfl rfl rfl fun a hA => pr tb 2 hA rfl fun a hA => o_ld tb hA hS hb245 rfl (i := 0) rfl rfl rfl rfl rfl rfl fun a hA => ?_)))
    obtain ⟨r246, hx247, hF⟩ := bind_some hF
    refine o_call1 hA fi24 rfl rfl rfl rfl (ih (x0 := x0) (x1 := s219) (x2 := x232.Of) hS.imm h0_0 h0_1 h0_2 (fun g o h => ⟨(hS.own _ (List.mem_of_getElem? (i := 1) rfl) g o h).1, (hS.own _ (List.mem_of_getElem? (i := 1) rfl) g o h).2.1⟩) hO229 hr238 hx247) fun a w v254 hres hA => ?_
    obtain ⟨p251, rfl, hS248, hO252, hl253⟩ := hres
    have hS := hS.callLX (i := 1) rfl hS248 (PHeap.le.refl _)
    have hq255 : (s219).length = (r246).length := (hl253).symm
    have hA := hA.re (d := 1) rfl (congrArg (fun n => Value.slice A1_0 n c1_0) hq255)
    have hA := hA.re (d := 35) rfl (congrArg (fun n => Value.slice A1_0 n c1_0) hq255)
    refine wpList_nil (bn (tn (wp_region_lit (pr tb 2 hA rfl fun a hA => wpList_nil (tn ?_)))))
    obtain rfl := Option.some.inj hF
    have hA := hA.re (d := 30) rfl (congrArg (Value.int .i64) (w64_succ hlt217 hbd217))
    exact ⟨(r246), ⟨_, hA.sub ⟨rfl, rfl, rfl, rfl, rfl, trivial⟩, hS.pick (is := [1, 2]) rfl (by decide), hO252, (hl253.trans hl231)⟩, hlt217, hgo217⟩
theorem c_flow_Trim {w0 : World} {H : PHeap} (hI : ∀ b o, H b = some o → w0.heap[b]? = some o) {x0 : GFlow} {A0_0 : Option Addr} {c0_0 : Nat} (h0_0 : RdS (eInt .i64 8) H A0_0 c0_0 x0.Inputs) {A0_1 : Option Addr} {c0_1 : Nat} (h0_1 : RdS (eSl eGTerm) H A0_1 c0_1 x0.Nodes) {A0_2 : Option Addr} {c0_2 : Nat} (h0_2 : RdS (eInt .i64 8) H A0_2 c0_2 x0.Outs) {r : GFlow × Int} (hF : flow_Trim x0 = some r) :
    Calls Try.prog 8 [Value.agg #[Value.slice A0_0 (x0.Inputs).length c0_0, Value.slice A0_1 (x0.Nodes).length c0_1, Value.slice A0_2 (x0.Outs).length c0_2]].toArray w0 (Ret (fun v w => ∃ (A0 : Option Addr) (c0 : Nat) (p0 : Piece) (A1 : Option Addr) (c1 : Nat) (p1 : Piece) (A2 : Option Addr) (c2 : Nat) (p2 : Piece), v = Value.tuple #[Value.agg #[Value.slice A0 (r.1.Inputs).length c0, Value.slice A1 (r.1.Nodes).length c1, Value.slice A2 (r.1.Outs).length c2], Value.int .i64 r.2] ∧ St noX w0 w H [p0, p1, p2] ∧ OwnS (eInt .i64 8) 3 H A0 c0 r.1.Inputs p0 ∧ OwnD (roP eGTerm 41) 39 H A1 c1 r.1.Nodes p1 ∧ OwnS (eInt .i64 8) 3 H A2 c2 r.1.Outs p2 ∧ inR .i64 r.2)) := by
  have hS := St.start hI noX
  unfold flow_Trim at hF
  refine enter fi8.hfn rfl rfl rfl fun a hA => wp_seq (wp_region_lit (o_box hA hS rfl rfl rfl fun a w g2767 p2768 hA hS hb2769 => o_alloc tb hA hS rfl rfl rfl fun a w g2771 p2772 hA hS hb2773 => pr tb 1 hA rfl fun a hA => wpList_nil (tn (wp_scope_straight (wp_seq (wp_seq (wp_region_lit (o_ld tb hA hS hb2769 rfl (i := 1) rfl rfl rfl rfl rfl rfl fun a hA => ?_))))))))
  obtain ⟨r2774, hx2775, hF⟩ := bind_some hF
  refine o_call1 hA fi23 rfl rfl rfl rfl (c_flow_May (x0 := x0) hS.imm h0_0 h0_1 h0_2 hx2775) fun a w v2779 hres hA => ?_
  obtain ⟨rfl, hS2776⟩ := hres
  have hS := hS.callL hS2776 (PHeap.le.refl _)
  refine pr tb 1 hA rfl fun a hA => wpList_nil (tn ?_)
  rcases ite_some hF with ⟨hc2780, hF⟩ | ⟨hc2780, hF⟩
  rotate_left
  · refine cT hA rfl (nt_of (ff_of hc2780)) (wp_seq (wp_region_lit (pr tb 1 hA rfl fun a hA => o_st tb hA hS hb2773 rfl rfl (i := 0) rfl rfl rfl rfl rfl rfl rfl fun w p5529 hS hb5530 => pr tb 1 hA rfl fun a hA => wpList_nil (tn (wp_ret (tr (gr (b_ret hA (rs := [.cell 2 25, .tmp 3]) rfl (.cell rfl (hb5530.load tb hS (i := 0) rfl rfl rfl rfl) (.tmp rfl .nil)) ?_))))))))
    obtain rfl := Option.some.inj hF
    have hS := hS.nil'
    have hS := hS.nil'
    have hS := hS.nil'
    exact ⟨_, _, _, _, _, _, _, _, _, rfl, hS.pick (is := [2, 1, 0]) rfl (by decide), OwnS.nil, OwnD.nil, OwnS.nil, (inR_c rfl)⟩
  refine cF hA rfl (nf_of (hc2780)) (wp_skip (tn (wp_seq (wp_region_lit (pr tb 1 hA rfl fun a hA => o_ld tb hA hS hb2769 rfl (i := 1) rfl rfl rfl rfl rfl rfl fun a hA => pr tb 2 hA rfl fun a hA => o_ld tb hA hS hb2769 rfl (i := 1) rfl rfl rfl rfl rfl rfl fun a hA => pr tb 2 hA rfl fun a hA => ?_)))))
  obtain ⟨z2781, hz2782, hF⟩ := bind_some hF
  refine o_make (e := eBool) tb hA hS hz2782 rfl rfl rfl rfl rfl rfl rfl (fun _ => rfl) rfl rfl rfl fun a w A2783 p2784 hA hS hO2785 hN2787 => pr tb 1 hA rfl fun a hA => wpList_nil (tn (wp_seq (wp_seq (wp_region_lit (pr tb 1 hA rfl fun a hA => o_ld tb hA hS hb2769 rfl (i := 2) rfl rfl rfl rfl rfl rfl fun a hA => pr tb 2 hA rfl fun a hA => wpList_nil (tn ?_))))))
  obtain ⟨o2904, hx2904, hK2904⟩ := bind_some hF
  refine wp_cut1 (fun a w => ∃ (A2907 : Option Addr) (c2908 : Nat) (p2909 : Piece), Fr (125, []) a [(1, Value.pointer (some ⟨g2767, 0, none⟩)), (2, Value.pointer (some ⟨g2771, 0, none⟩)), (4, Value.slice A2907 (o2904).length c2908)] ∧ St noX w0 w H [p2909, p2772, p2768] ∧ OwnS eBool 4 H A2907 c2908 (o2904) p2909) ?_ ?_
  · have hF := hx2904
    refine wp_block ?_
    have hbd2904 : (x0.Outs).length ≤ 9223372036854775807 := (Nat.le_trans (h0_2.len rfl) (by decide))
    refine wp_for0 (n := (x0.Outs).length) (s0 := (z2781)) (fun (i2905 : Nat) (s2906 : List Bool) a w => ∃ (A2912 : Option Addr) (c2913 : Nat) (p2914 : Piece), Fr (125, []) a [(1, Value.pointer (some ⟨g2767, 0, none⟩)), (2, Value.pointer (some ⟨g2771, 0, none⟩)), (4, Value.slice A2912 (s2906).length c2913), (30, Value.slice A0_2 (x0.Outs).length c0_2), (31, Value.int .i64 ((x0.Outs).length : Int)), (32, Value.int .i64 (i2905 : Int))] ∧ St noX w0 w H [p2914, p2772, p2768] ∧ OwnS eBool 4 H A2912 c2913 (s2906) p2914) hF ⟨_, _, _, hA.sub ⟨rfl, rfl, rfl, rfl, rfl, rfl, trivial⟩, hS, hO2785⟩ ?_
    rintro After2904 i2905 s2906 a w ⟨A2912, c2913, p2914, hA, hS, hO2915⟩ hin2904 hst2904 hge2904
    rcases Nat.lt_or_ge i2905 ((x0.Outs).length) with hlt2904 | hgt2904
    rotate_left
    · have hF := congrArg some (hge2904 hgt2904)
      refine wp_seq (wp_region_lit (pr tb 1 hA rfl fun a hA => wpList_nil (tn (wp_seq (cF hA rfl (decide_eq_false (show ¬ ((i2905 : Int) < ((x0.Outs).length : Int)) by omega)) (wp_exit (te (te (be (tn ?_))))))))))
      obtain rfl := Option.some.inj hF
      exact ⟨_, _, _, hA.sub ⟨rfl, rfl, rfl, trivial⟩, hS, hO2915⟩
    obtain ⟨cc2904, hF, hgo2904⟩ := hst2904 hlt2904
    refine wp_seq (wp_region_lit (pr tb 1 hA rfl fun a hA => wpList_nil (tn (wp_seq (cT hA rfl (decide_eq_true (show (i2905 : Int) < ((x0.Outs).length : Int) by omega)) (wp_skip (tn (wp_seq (wp_block (wp_seq (wp_region_lit ?_)))))))))))
    obtain ⟨x2917, hx2918, hF⟩ := bind_some hF
    refine o_idxR tb hA h0_2 hx2918 rfl rfl rfl rfl rfl rfl rfl rfl fun a ad2919 hA hE2920 => o_ldR tb hA hS hE2920 rfl rfl rfl rfl rfl rfl fun a cs2921 hc2922 hA => ?_
    obtain ⟨rfl, hr2923⟩ := hc2922
    refine pr tb 1 hA rfl fun a hA => wpList_nil (tn (wp_region_lit (o_ld tb hA hS hb2769 rfl (i := 2) rfl rfl rfl rfl rfl rfl fun a hA => pr tb 2 hA rfl fun a hA => ?_)))
    obtain ⟨r2924, hx2925, hF⟩ := bind_some hF
    refine o_call1 hA fi24 rfl rfl rfl rfl (c_flow_mark (Int.toNat x2917 + 1) (x0 := x0) (x1 := s2906) (x2 := x2917) hS.imm h0_0 h0_1 h0_2 (fun g o h => ⟨(hS.own _ (List.mem_of_getElem? (i := 0) rfl) g o h).1, (hS.own _ (List.mem_of_getElem? (i := 0) rfl) g o h).2.1⟩) hO2915 hr2923 hx2925) fun a w v2932 hres hA => ?_
    obtain ⟨p2929, rfl, hS2926, hO2930, hl2931⟩ := hres
    have hS := hS.callLX (i := 0) rfl hS2926 (PHeap.le.refl _)
    have hq2933 : (s2906).length = (r2924).length := (hl2931).symm
    have hA := hA.re (d := 4) rfl (congrArg (fun n => Value.slice A2912 n c2913) hq2933)
    have hA := hA.re (d := 37) rfl (congrArg (fun n => Value.slice A2912 n c2913) hq2933)
    refine wpList_nil (bn (tn (wp_region_lit (pr tb 2 hA rfl fun a hA => wpList_nil (tn ?_)))))
    obtain rfl := Option.some.inj hF
    have hA := hA.re (d := 32) rfl (congrArg (Value.int .i64) (w64_succ hlt2904 hbd2904))
    exact ⟨(r2924), ⟨_, _, _, hA.sub ⟨rfl, rfl, rfl, rfl, rfl, rfl, trivial⟩, hS, hO2930⟩, hlt2904, hgo2904⟩
  rintro a w ⟨A2907, c2908, p2909, hA, hS, hO2910⟩
  have hF := hK2904
  refine tn (wp_seq (wp_region_lit (pr tb 2 hA rfl fun a hA => ?_)))
  obtain ⟨z2934, hz2935, hF⟩ := bind_some hF
  refine o_make (e := (eInt .i64 8)) tb hA hS hz2935 rfl rfl rfl rfl rfl rfl rfl (fun _ => ⟨rfl, (inR_c rfl)⟩) rfl rfl rfl fun a w A2936 p2937 hA hS hO2938 hN2940 => pr tb 1 hA rfl fun a hA => wpList_nil (tn (wp_seq (wp_region_lit (o_alloc tb hA hS rfl rfl rfl fun a w g2942 p2943 hA hS hb2944 => wpList_nil (tn (wp_seq (wp_region_lit (pr tb 1 hA rfl fun a hA => wpList_nil ?_))))))))
  refine tn (wp_seq (wp_label (tn (wp_seq (wp_seq (wp_region_lit (pr tb 3 hA rfl fun a hA => wpList_nil (tn ?_))))))))
  obtain ⟨o4862, hx4862, hK4862⟩ := bind_some hF
  refine wp_cut1 (fun a w => ∃ (A4865 : Option Addr) (c4866 : Nat) (p4867 : Piece) (A4870 : Option Addr) (c4871 : Nat) (p4872 : Piece) (A4875 : Option Addr) (c4876 : Nat) (p4877 : Piece) (p4880 : Piece), Fr (125, []) a [(1, Value.pointer (some ⟨g2767, 0, none⟩)), (2, Value.pointer (some ⟨g2771, 0, none⟩)), (7, Value.slice A4865 (o4862.1).length c4866), (8, Value.pointer (some ⟨g2942, 0, none⟩))] ∧ St noX w0 w H [p4867, p4872, p4877, p4880, p2772, p2768] ∧ OwnS (eInt .i64 8) 3 H A4865 c4866 (o4862.1) p4867 ∧ OwnS (eInt .i64 8) 3 H A4870 c4871 (o4862.2.1) p4872 ∧ OwnD (roP eGTerm 41) 39 H A4875 c4876 (o4862.2.2) p4877 ∧ Bx p4880 g2942 25 [Value.slice A4870 (o4862.2.1).length c4871, Value.slice A4875 (o4862.2.2).length c4876, Value.slice none 0 0]) ?_ ?_
  rotate_left
  · rintro a w ⟨A4865, c4866, p4867, A4870, c4871, p4872, A4875, c4876, p4877, p4880, hA, hS, hO4868, hO4873, hO4878, hb4881⟩
    have hF := hK4862
    refine tn (wp_seq (wp_seq (wp_region_lit (pr tb 1 hA rfl fun a hA => o_ld tb hA hS hb2769 rfl (i := 5) rfl rfl rfl rfl rfl rfl fun a hA => pr tb 2 hA rfl fun a hA => wpList_nil (tn ?_)))))
    obtain ⟨o5433, hx5433, hK5433⟩ := bind_some hF
    refine wp_cut1 (fun a w => ∃ (A5436 : Option Addr) (c5437 : Nat) (p5438 : Piece) (p5441 : Piece), Fr (125, []) a [(2, Value.pointer (some ⟨g2771, 0, none⟩)), (8, Value.pointer (some ⟨g2942, 0, none⟩))] ∧ St noX w0 w H [p5438, p4872, p4877, p5441, p2772] ∧ OwnS (eInt .i64 8) 3 H A5436 c5437 (o5433) p5438 ∧ Bx p5441 g2942 25 [Value.slice A4870 (o4862.2.1).length c4871, Value.slice A4875 (o4862.2.2).length c4876, Value.slice A5436 (o5433).length c5437]) ?_ ?_
    rotate_left
    · rintro a w ⟨A5436, c5437, p5438, p5441, hA, hS, hO5439, hb5442⟩
      have hF := hK5433
      refine tn (wp_seq (wp_region_lit (o_ld tb hA hS hb5442 rfl (i := 3) rfl rfl rfl rfl rfl rfl fun a hA => o_st tb hA hS hb2773 rfl rfl (i := 4) rfl rfl rfl rfl rfl rfl rfl fun w p5527 hS hb5528 => pr tb 1 hA rfl fun a hA => wpList_nil (tn (wp_ret (gr (b_ret hA (rs := [.cell 2 25, .tmp 3]) rfl (.cell rfl (hb5528.load tb hS (i := 4) rfl rfl rfl rfl) (.tmp rfl .nil)) ?_)))))))
      obtain rfl := Option.some.inj hF
      exact ⟨_, _, _, _, _, _, _, _, _, rfl, hS.pick (is := [1, 2, 0]) rfl (by decide), hO4873, hO4878, hO5439, (inR_c rfl)⟩
    have hF := hx5433
    refine wp_block ?_
    have hbd5433 : (x0.Outs).length ≤ 9223372036854775807 := (Nat.le_trans (h0_2.len rfl) (by decide))
    have hS := hS.nil'
    refine wp_for0 (n := (x0.Outs).length) (s0 := (([] : List Int))) (fun (i5434 : Nat) (s5435 : List Int) a w => ∃ (A5443 : Option Addr) (c5444 : Nat) (p5445 : Piece) (p5448 : Piece), Fr (125, []) a [(2, Value.pointer (some ⟨g2771, 0, none⟩)), (7, Value.slice A4865 (o4862.1).length c4866), (8, Value.pointer (some ⟨g2942, 0, none⟩)), (108, Value.slice A0_2 (x0.Outs).length c0_2), (109, Value.int .i64 ((x0.Outs).length : Int)), (110, Value.int .i64 (i5434 : Int))] ∧ St noX w0 w H [p5445, p4867, p4872, p4877, p5448, p2772] ∧ OwnS (eInt .i64 8) 3 H A5443 c5444 (s5435) p5445 ∧ Bx p5448 g2942 25 [Value.slice A4870 (o4862.2.1).length c4871, Value.slice A4875 (o4862.2.2).length c4876, Value.slice A5443 (s5435).length c5444]) hF ⟨_, _, _, _, hA.sub ⟨rfl, rfl, rfl, rfl, rfl, rfl, trivial⟩, hS.pick (is := [0, 1, 2, 3, 4, 5]) rfl (by decide), OwnS.nil, hb4881⟩ ?_
    rintro After5433 i5434 s5435 a w ⟨A5443, c5444, p5445, p5448, hA, hS, hO5446, hb5449⟩ hin5433 hst5433 hge5433
    rcases Nat.lt_or_ge i5434 ((x0.Outs).length) with hlt5433 | hgt5433
    rotate_left
    · have hF := congrArg some (hge5433 hgt5433)
      refine wp_seq (wp_region_lit (pr tb 1 hA rfl fun a hA => wpList_nil (tn (wp_seq (cF hA rfl (decide_eq_false (show ¬ ((i5434 : Int) < ((x0.Outs).length : Int)) by omega)) (wp_exit (te (te (be (tn ?_))))))))))
      obtain rfl := Option.some.inj hF
      exact ⟨_, _, _, _, hA.sub ⟨rfl, rfl, trivial⟩, hS.pick (is := [0, 2, 3, 4, 5]) rfl (by decide), hO5446, hb5449⟩
    obtain ⟨cc5433, hF, hgo5433⟩ := hst5433 hlt5433
    refine wp_seq (wp_region_lit (pr tb 1 hA rfl fun a hA => wpList_nil (tn (wp_seq (cT hA rfl (decide_eq_true (show (i5434 : Int) < ((x0.Outs).length : Int) by omega)) (wp_skip (tn (wp_seq (wp_block (wp_seq (wp_region_lit ?_)))))))))))
    obtain ⟨x5451, hx5452, hF⟩ := bind_some hF
    refine o_idxR tb hA h0_2 hx5452 rfl rfl rfl rfl rfl rfl rfl rfl fun a ad5453 hA hE5454 => o_ldR tb hA hS hE5454 rfl rfl rfl rfl rfl rfl fun a cs5455 hc5456 hA => ?_
    obtain ⟨rfl, hr5457⟩ := hc5456
    refine pr tb 1 hA rfl fun a hA => wpList_nil (tn (rx (fun b w => St noX w0 w H (bif b then [emp, p4867, p4872, p4877, p5448, p2772] else [emp, p4867, p4872, p4877, emp, p2772])) [9] (.q true [0, 1, 2, 3, 4, 5] (.e 6 (.e 7 (.q true [8] (.e 9 .z))))) hmix (by decide +kernel) ?_))
    have hS := hS.drew
    refine ⟨(hS.pickO (is := [none, some 1, some 2, some 3, some 4, some 5]) rfl (by decide)), ?_⟩
    refine qpr tb 1 hA rfl fun a hA => q_ld tb hA hb5449 rfl (i := 4) rfl rfl rfl rfl rfl rfl fun a hA => qpr tb 2 hA rfl fun a hA => ?_
    obtain ⟨x5504, hx5505, hF⟩ := bind_some hF
    refine q_idxO tb hA hO4868 hx5505 rfl rfl rfl rfl rfl rfl rfl rfl fun a ad5506 hA hE5507 hat5508 => q_ldO tb hA hE5507 rfl (i := 1) rfl rfl rfl rfl rfl rfl fun a cs5509 hc5510 hA => ?_
    obtain ⟨rfl, hr5511⟩ := hc5510
    refine wpHold_nil (o_bsl (e := (eInt .i64 8)) (xs := ([x5504] : List Int)) tb hA hS rfl rfl rfl (.cons ⟨rfl, hr5511⟩ .nil) rfl rfl rfl rfl rfl rfl rfl rfl rfl fun a w A5512 p5513 hA hS hO5514 hN5516 => wpList_nil (tn (⟨⟨fun _ => (hS.pickO (is := [none, some 2, some 3, some 4, none, some 6]) rfl (by decide)), fun _ _ => (hS.pickO (is := [none, some 2, some 3, some 4, some 5, some 6]) rfl (by decide))⟩, ?_⟩)))
    obtain ⟨z5517, hz5518, hF⟩ := bind_some hF
    refine o_app (e := (eInt .i64 8)) tb hA hS hO5446 (k := 1) rfl (hO5514.src hS (i := 0) rfl) hz5518 rfl rfl rfl rfl rfl rfl rfl rfl rfl rfl rfl rfl rfl fun a w A5519 c5520 p5521 hA hS hO5522 hN5524 => wpList_nil (tn (⟨⟨fun _ => (hS.pickO (is := [none, some 2, some 3, some 4, none, some 6]) rfl (by decide)), fun _ _ => (hS.pickO (is := [none, some 2, some 3, some 4, some 5, some 6]) rfl (by decide))⟩, ?_⟩))
    refine ⟨(hS.pickO (is := [none, some 2, some 3, some 4, some 5, some 6]) rfl (by decide)), ?_⟩
    refine qpr tb 1 hA rfl fun a hA => wpHold_nil (o_st tb hA hS hb5449 rfl rfl (i := 5) rfl rfl rfl rfl rfl rfl rfl fun w p5525 hS hb5526 => wpList_nil (tn (⟨⟨fun _ => (hS.pickO (is := [none, some 2, some 3, some 4, none, some 6]) rfl (by decide)), fun h => absurd h (by decide)⟩, ?_⟩)))
    refine bn (tn (wp_region_lit (pr tb 2 hA rfl fun a hA => wpList_nil (tn ?_))))
    obtain rfl := Option.some.inj hF
    have hA := hA.re (d := 110) rfl (congrArg (Value.int .i64) (w64_succ hlt5433 hbd5433))
    exact ⟨(z5517), ⟨_, _, _, _, hA.sub ⟨rfl, rfl, rfl, rfl, rfl, rfl, trivial⟩, hS.pick (is := [1, 2, 3, 4, 5, 6]) rfl (by decide), hO5522, hb5526⟩, hlt5433, hgo5433⟩
  have hF := hx4862
  refine wp_block ?_
  have hbd4862 : (o2904).length ≤ 9223372036854775807 := (Nat.le_trans (hO2910.len rfl) (by decide))
  have hS := hS.nil'
  have hS := hS.nil'
  refine wp_for0 (n := (o2904).length) (s0 := (z2934, (0 : Int), ([] : List Int), ([] : List (List GTerm)))) (fun (i4863 : Nat) (s4864 : List Int × Int × List Int × List (List GTerm)) a w => ∃ (A4882 : Option Addr) (c4883 : Nat) (p4884 : Piece) (A4888 : Option Addr) (c4889 : Nat) (p4890 : Piece) (A4893 : Option Addr) (c4894 : Nat) (p4895 : Piece) (p4898 : Piece), Fr (125, []) a [(1, Value.pointer (some ⟨g2767, 0, none⟩)), (2, Value.pointer (some ⟨g2771, 0, none⟩)), (7, Value.slice A4882 (s4864.1).length c4883), (8, Value.pointer (some ⟨g2942, 0, none⟩)), (9, Value.int .i64 s4864.2.1), (44, Value.slice A2907 (o2904).length c2908), (45, Value.int .i64 ((o2904).length : Int)), (46, Value.int .i64 (i4863 : Int))] ∧ St noX w0 w H [p4884, p4890, p4895, p4898, p2909, p2772, p2768] ∧ OwnS (eInt .i64 8) 3 H A4882 c4883 (s4864.1) p4884 ∧ inR .i64 s4864.2.1 ∧ OwnS (eInt .i64 8) 3 H A4888 c4889 (s4864.2.2.1) p4890 ∧ OwnD (roP eGTerm 41) 39 H A4893 c4894 (s4864.2.2.2) p4895 ∧ Bx p4898 g2942 25 [Value.slice A4888 (s4864.2.2.1).length c4889, Value.slice A4893 (s4864.2.2.2).length c4894, Value.slice none 0 0]) hF ⟨_, _, _, _, _, _, _, _, _, _, hA.sub ⟨rfl, rfl, rfl, rfl, rfl, rfl, rfl, rfl, trivial⟩, hS.pick (is := [3, 1, 0, 2, 4, 5, 6]) rfl (by decide), hO2938, (inR_c rfl), OwnS.nil, OwnD.nil, hb2944⟩ ?_
  rintro After4862 i4863 s4864 a w ⟨A4882, c4883, p4884, A4888, c4889, p4890, A4893, c4894, p4895, p4898, hA, hS, hO4885, hr4887, hO4891, hO4896, hb4899⟩ hin4862 hst4862 hge4862
  rcases Nat.lt_or_ge i4863 ((o2904).length) with hlt4862 | hgt4862
  rotate_left
  · have hF := congrArg some (hge4862 hgt4862)
    refine wp_seq (wp_region_lit (pr tb 1 hA rfl fun a hA => wpList_nil (tn (wp_seq (cF hA rfl (decide_eq_false (show ¬ ((i4863 : Int) < ((o2904).length : Int)) by omega)) (wp_exit (te (te (be (tn ?_))))))))))
    obtain rfl := Option.some.inj hF
    exact ⟨_, _, _, _, _, _, _, _, _, _, hA.sub ⟨rfl, rfl, rfl, rfl, trivial⟩, hS.pick (is := [0, 1, 2, 3, 5, 6]) rfl (by decide), hO4885, hO4891, hO4896, hb4899⟩
  obtain ⟨cc4862, hF, hgo4862⟩ := hst4862 hlt4862
  refine wp_seq (wp_region_lit (pr tb 1 hA rfl fun a hA => wpList_nil (tn (wp_seq (cT hA rfl (decide_eq_true (show (i4863 : Int) < ((o2904).length : Int) by omega)) (wp_skip (tn (wp_seq (wp_block (wp_seq (wp_region_lit ?_)))))))))))
  refine pr tb 1 hA rfl fun a hA => ?_
  obtain ⟨x4902, hx4903, hF⟩ := bind_some hF
  refine o_idxO tb hA hO2910 hx4903 rfl rfl rfl rfl rfl rfl rfl rfl fun a ad4904 hA hE4905 hat4906 => o_ldO tb hA hS hE4905 rfl (i := 4) rfl rfl rfl rfl rfl rfl fun a cs4907 hc4908 hA => ?_
  obtain rfl := hc4908
  refine pr tb 2 hA rfl fun a hA => wpList_nil (tn (wp_seq (wp_seq (wp_region_lit (pr tb 2 hA rfl fun a hA => wpList_nil (tn ?_))))))
  rcases ite_some hF with ⟨hc4909, hF⟩ | ⟨hc4909, hF⟩
  rotate_left
  · refine cT hA rfl (nt_of (ff_of hc4909)) (wp_exit (te (be (tn (wp_region_lit (pr tb 2 hA rfl fun a hA => wpList_nil (tn ?_)))))))
    obtain rfl := Option.some.inj hF
    have hA := hA.re (d := 46) rfl (congrArg (Value.int .i64) (w64_succ hlt4862 hbd4862))
    exact ⟨(s4864.1, s4864.2.1, s4864.2.2.1, s4864.2.2.2), ⟨_, _, _, _, _, _, _, _, _, _, hA.sub ⟨rfl, rfl, rfl, rfl, rfl, rfl, rfl, rfl, trivial⟩, hS, hO4885, hr4887, hO4891, hO4896, hb4899⟩, hlt4862, hgo4862⟩
  refine cF hA rfl (nf_of (hc4909)) (wp_skip (tn (wp_seq (wp_region_lit (pr tb 3 hA rfl fun a hA => ?_)))))
  obtain ⟨x4910, hx4911, hF⟩ := bind_some hF
  refine o_idxO tb hA hO4885 hx4911 rfl rfl rfl rfl rfl rfl rfl rfl fun a ad4912 hA hE4913 hat4914 => o_stO (v := Value.int .i64 s4864.2.1) (y0 := s4864.2.1) tb hA hS hO4885 hat4914 ((idx_some hx4911).2.2) ⟨rfl, hr4887⟩ rfl rfl (k := 0) rfl rfl rfl rfl rfl fun w p4915 hS hO4916 => ?_
  have hq4917 : (s4864.1).length = ((s4864.1).set ((i4863 : Int)).toNat s4864.2.1).length := (List.length_set ..).symm
  have hA := hA.re (d := 7) rfl (congrArg (fun n => Value.slice A4882 n c4883) hq4917)
  have hA := hA.re (d := 53) rfl (congrArg (fun n => Value.slice A4882 n c4883) hq4917)
  refine wpList_nil (tn (wp_seq (wp_region_lit (pr tb 3 hA rfl fun a hA => wpList_nil (tn (wp_seq (wp_seq (wp_region_lit (pr tb 2 hA rfl fun a hA => o_ld tb hA hS hb2769 rfl (i := 6) rfl rfl rfl rfl rfl rfl fun a hA => pr tb 2 hA rfl fun a hA => ?_)))))))))
  refine wpList_nil (tn ?_)
  rcases ite_some hF with ⟨hc4918, hF⟩ | ⟨hc4918, hF⟩
  · refine cT hA rfl (decide_eq_true hc4918) (wp_seq (rx (fun b w => St noX w0 w H (bif b then [p4915, emp, p4895, p4898, p2909, p2772, p2768] else [p4915, emp, p4895, emp, p2909, p2772, p2768])) [10] (.q true [0, 1, 2, 3, 4, 5, 6] (.e 7 (.e 8 (.q true [9] (.e 10 .z))))) hmix (by decide +kernel) ?_))
    have hS := hS.drew
    refine ⟨(hS.pickO (is := [some 0, none, some 2, some 3, some 4, some 5, some 6]) rfl (by decide)), ?_⟩
    refine qpr tb 1 hA rfl fun a hA => q_ld tb hA hb4899 rfl (i := 3) rfl rfl rfl rfl rfl rfl fun a hA => qpr tb 1 hA rfl fun a hA => q_ld tb hA hb2769 rfl (i := 6) rfl rfl rfl rfl rfl rfl fun a hA => qpr tb 1 hA rfl fun a hA => ?_
    obtain ⟨x4963, hx4964, hF⟩ := bind_some hF
    refine q_idxR tb hA h0_0 hx4964 rfl rfl rfl rfl rfl rfl rfl rfl fun a ad4965 hA hE4966 => q_ldR tb hA hE4966 rfl rfl rfl rfl rfl rfl fun a cs4967 hc4968 hA => ?_
    obtain ⟨rfl, hr4969⟩ := hc4968
    refine wpHold_nil (o_bsl (e := (eInt .i64 8)) (xs := ([x4963] : List Int)) tb hA hS rfl rfl rfl (.cons ⟨rfl, hr4969⟩ .nil) rfl rfl rfl rfl rfl rfl rfl rfl rfl fun a w A4970 p4971 hA hS hO4972 hN4974 => wpList_nil (tn (⟨⟨fun _ => (hS.pickO (is := [some 1, none, some 3, none, some 5, some 6, some 7]) rfl (by decide)), fun _ _ => (hS.pickO (is := [some 1, none, some 3, some 4, some 5, some 6, some 7]) rfl (by decide))⟩, ?_⟩)))
    obtain ⟨z4975, hz4976, hF⟩ := bind_some hF
    refine o_app (e := (eInt .i64 8)) tb hA hS hO4891 (k := 2) rfl (hO4972.src hS (i := 0) rfl) hz4976 rfl rfl rfl rfl rfl rfl rfl rfl rfl rfl rfl rfl rfl fun a w A4977 c4978 p4979 hA hS hO4980 hN4982 => wpList_nil (tn (⟨⟨fun _ => (hS.pickO (is := [some 1, none, some 3, none, some 5, some 6, some 7]) rfl (by decide)), fun _ _ => (hS.pickO (is := [some 1, none, some 3, some 4, some 5, some 6, some 7]) rfl (by decide))⟩, ?_⟩))
    refine ⟨(hS.pickO (is := [some 1, none, some 3, some 4, some 5, some 6, some 7]) rfl (by decide)), ?_⟩
    refine qpr tb 1 hA rfl fun a hA => wpHold_nil (o_st tb hA hS hb4899 rfl rfl (i := 4) rfl rfl rfl rfl rfl rfl rfl fun w p4983 hS hb4984 => wpList_nil (tn (⟨⟨fun _ => (hS.pickO (is := [some 1, none, some 3, none, some 5, some 6, some 7]) rfl (by decide)), fun h => absurd h (by decide)⟩, ?_⟩)))
    refine tn (wp_exit (te (be (tn (wp_region_lit (pr tb 2 hA rfl fun a hA => wpList_nil (tn ?_)))))))
    obtain rfl := Option.some.inj hF
    have hA := hA.re (d := 46) rfl (congrArg (Value.int .i64) (w64_succ hlt4862 hbd4862))
    exact ⟨((s4864.1).set ((i4863 : Int)).toNat s4864.2.1, w64 (s4864.2.1 + 1), z4975, s4864.2.2.2), ⟨_, _, _, _, _, _, _, _, _, _, hA.sub ⟨rfl, rfl, rfl, rfl, rfl, rfl, rfl, rfl, trivial⟩, hS.pick (is := [1, 2, 3, 4, 5, 6, 7]) rfl (by decide), hO4916, (inR_wrap _ _), hO4980, hO4896, hb4984⟩, hlt4862, hgo4862⟩
  refine cF hA rfl (decide_eq_false hc4918) (wp_skip (tn (wp_seq (wp_region_lit (pr tb 1 hA rfl fun a hA => wpList_nil (tn (wp_seq (wp_seq (wp_region_lit (pr tb 1 hA rfl fun a hA => o_ld tb hA hS hb2769 rfl (i := 6) rfl rfl rfl rfl rfl rfl fun a hA => ?_))))))))))
  refine pr tb 2 hA rfl fun a hA => o_ld tb hA hS hb2769 rfl (i := 6) rfl rfl rfl rfl rfl rfl fun a hA => pr tb 2 hA rfl fun a hA => ?_
  obtain ⟨x4985, hx4986, hF⟩ := bind_some hF
  refine o_idxR tb hA h0_1 hx4986 rfl rfl rfl rfl rfl rfl rfl rfl fun a ad4987 hA hE4988 => o_ldR tb hA hS hE4988 rfl rfl rfl rfl rfl rfl fun a cs4989 hc4990 hA => ?_
  obtain ⟨A4991, c4992, rfl, hR4993⟩ := hc4990
  refine pr tb 2 hA rfl fun a hA => wpList_nil (tn ?_)
  obtain ⟨o5160, hx5160, hK5160⟩ := bind_some hF
  refine wp_cut1 (fun a w => ∃ (A5163 : Option Addr) (c5164 : Nat) (p5165 : Piece), Fr (125, []) a [(1, Value.pointer (some ⟨g2767, 0, none⟩)), (2, Value.pointer (some ⟨g2771, 0, none⟩)), (7, Value.slice A4882 ((s4864.1).set ((i4863 : Int)).toNat s4864.2.1).length c4883), (8, Value.pointer (some ⟨g2942, 0, none⟩)), (9, Value.int .i64 (w64 (s4864.2.1 + 1))), (12, Value.slice A5163 (o5160).length c5164), (44, Value.slice A2907 (o2904).length c2908), (45, Value.int .i64 ((o2904).length : Int)), (46, Value.int .i64 (i4863 : Int))] ∧ St noX w0 w H [p5165, p4915, p4890, p4895, p4898, p2909, p2772, p2768] ∧ OwnS eGTerm 41 H A5163 c5164 (o5160) p5165) ?_ ?_
  rotate_left
  · rintro a w ⟨A5163, c5164, p5165, hA, hS, hO5166⟩
    have hF := hK5160
    refine tn (wp_region_lit (pr tb 1 hA rfl fun a hA => o_ld tb hA hS hb4899 rfl (i := 4) rfl rfl rfl rfl rfl rfl fun a hA => pr tb 1 hA rfl fun a hA => o_bsl (e := eHd) (xs := [((A5163, (o5160).length, c5164) : Hd)]) tb hA hS rfl rfl rfl (.cons rfl .nil) rfl rfl rfl rfl rfl rfl rfl rfl rfl fun a w A5251 p5252 hA hS hO5253 hN5255 => ?_))
    obtain ⟨z5256, hz5257, hF⟩ := bind_some hF
    refine o_appD (ro := (roP eGTerm 41)) (b := o5160) (h := ((A5163, (o5160).length, c5164) : Hd)) tb hA hS hO4896 (k := 4) (k2 := 1) (k3 := 0) rfl hO5253 rfl ⟨rfl, hO5166⟩ rfl rfl rfl hz5257 rfl rfl rfl rfl rfl rfl rfl rfl rfl rfl rfl rfl fun a w A5258 c5259 p5260 hA hS hO5261 hN5263 => pr tb 1 hA rfl fun a hA => o_st tb hA hS hb4899 rfl rfl (i := 5) rfl rfl rfl rfl rfl rfl rfl fun w p5265 hS hb5266 => wpList_nil (bn (tn (wp_region_lit (pr tb 2 hA rfl fun a hA => wpList_nil (tn ?_)))))
    obtain rfl := Option.some.inj hF
    have hA := hA.re (d := 46) rfl (congrArg (Value.int .i64) (w64_succ hlt4862 hbd4862))
    exact ⟨((s4864.1).set ((i4863 : Int)).toNat s4864.2.1, w64 (s4864.2.1 + 1), s4864.2.2.1, z5256), ⟨_, _, _, _, _, _, _, _, _, _, hA.sub ⟨rfl, rfl, rfl, rfl, rfl, rfl, rfl, rfl, trivial⟩, hS.pick (is := [2, 3, 4, 5, 6, 7, 8]) rfl (by decide), hO4916, (inR_wrap _ _), hO4891, hO5261, hb5266⟩, hlt4862, hgo4862⟩
  have hF := hx5160
  refine wp_block ?_
  have hbd5160 : (x4985).length ≤ 9223372036854775807 := (Nat.le_trans (hR4993.len rfl) (by decide))
  have hS := hS.nil'
  refine wp_for0 (n := (x4985).length) (s0 := (([] : List GTerm))) (fun (i5161 : Nat) (s5162 : List GTerm) a w => ∃ (A5168 : Option Addr) (c5169 : Nat) (p5170 : Piece), Fr (125, []) a [(1, Value.pointer (some ⟨g2767, 0, none⟩)), (2, Value.pointer (some ⟨g2771, 0, none⟩)), (7, Value.slice A4882 ((s4864.1).set ((i4863 : Int)).toNat s4864.2.1).length c4883), (8, Value.pointer (some ⟨g2942, 0, none⟩)), (9, Value.int .i64 (w64 (s4864.2.1 + 1))), (12, Value.slice A5168 (s5162).length c5169), (44, Value.slice A2907 (o2904).length c2908), (45, Value.int .i64 ((o2904).length : Int)), (46, Value.int .i64 (i4863 : Int)), (82, Value.slice A4991 (x4985).length c4992), (83, Value.int .i64 ((x4985).length : Int)), (84, Value.int .i64 (i5161 : Int))] ∧ St noX w0 w H [p5170, p4915, p4890, p4895, p4898, p2909, p2772, p2768] ∧ OwnS eGTerm 41 H A5168 c5169 (s5162) p5170) hF ⟨_, _, _, hA.sub ⟨rfl, rfl, rfl, rfl, rfl, rfl, rfl, rfl, rfl, rfl, rfl, rfl, trivial⟩, hS, OwnS.nil⟩ ?_
  rintro After5160 i5161 s5162 a w ⟨A5168, c5169, p5170, hA, hS, hO5171⟩ hin5160 hst5160 hge5160
  rcases Nat.lt_or_ge i5161 ((x4985).length) with hlt5160 | hgt5160
  rotate_left
  · have hF := congrArg some (hge5160 hgt5160)
    refine wp_seq (wp_region_lit (pr tb 1 hA rfl fun a hA => wpList_nil (tn (wp_seq (cF hA rfl (decide_eq_false (show ¬ ((i5161 : Int) < ((x4985).length : Int)) by omega)) (wp_exit (te (te (be (tn ?_))))))))))
    obtain rfl := Option.some.inj hF
    exact ⟨_, _, _, hA.sub ⟨rfl, rfl, rfl, rfl, rfl, rfl, rfl, rfl, rfl, trivial⟩, hS, hO5171⟩
  obtain ⟨cc5160, hF, hgo5160⟩ := hst5160 hlt5160
  refine wp_seq (wp_region_lit (pr tb 1 hA rfl fun a hA => wpList_nil (tn (wp_seq (cT hA rfl (decide_eq_true (show (i5161 : Int) < ((x4985).length : Int) by omega)) (wp_skip (tn (wp_seq (wp_block (wp_seq (wp_region_lit ?_)))))))))))
  obtain ⟨x5174, hx5175, hF⟩ := bind_some hF
  refine o_idxR tb hA hR4993 hx5175 rfl rfl rfl rfl rfl rfl rfl rfl fun a ad5176 hA hE5177 => o_ldR tb hA hS hE5177 rfl rfl rfl rfl rfl rfl fun a cs5178 hc5179 hA => ?_
  obtain ⟨rfl, hr5180, hr5181⟩ := hc5179
  refine o_alloc tb hA hS rfl rfl rfl fun a w g5183 p5184 hA hS hb5185 => o_st tb hA hS hb5185 rfl rfl (i := 0) rfl rfl rfl rfl rfl rfl rfl fun w p5186 hS hb5187 => wpList_nil (tn (rx (fun b w => St noX w0 w H (bif b then [p5186, emp, p4915, p4890, p4895, p4898, p2909, p2772, p2768] else [p5186, emp, p4915, p4890, p4895, p4898, p2909, p2772, p2768])) [] (.q true [0, 1, 2, 3, 4, 5, 6, 7, 8] (.e 9 (.e 10 (.q true [11] .z)))) hmix (by decide +kernel) ?_))
  have hS := hS.drew
  refine ⟨(hS.pickO (is := [some 0, none, some 2, some 3, some 4, some 5, some 6, some 7, some 8]) rfl (by decide)), ?_⟩
  refine qpr tb 3 hA rfl fun a hA => q_ld tb hA hb5187 rfl (i := 0) rfl rfl rfl rfl rfl rfl fun a hA => ?_
  obtain ⟨x5230, hx5231, hF⟩ := bind_some hF
  refine q_idxO tb hA hO4916 hx5231 rfl rfl rfl rfl rfl rfl rfl rfl fun a ad5232 hA hE5233 hat5234 => q_ldO tb hA hE5233 rfl (i := 2) rfl rfl rfl rfl rfl rfl fun a cs5235 hc5236 hA => ?_
  obtain ⟨rfl, hr5237⟩ := hc5236
  refine qpr tb 1 hA rfl fun a hA => q_ld tb hA hb5187 rfl (i := 0) rfl rfl rfl rfl rfl rfl fun a hA => qpr tb 1 hA rfl fun a hA => wpHold_nil (o_bsl (e := eGTerm) (xs := ([(⟨x5230, x5174.By⟩ : GTerm)] : List GTerm)) tb hA hS rfl rfl rfl (.cons ⟨rfl, hr5237, hr5181⟩ .nil) rfl rfl rfl rfl rfl rfl rfl rfl rfl fun a w A5238 p5239 hA hS hO5240 hN5242 => wpList_nil (tn (⟨⟨fun _ => (hS.pickO (is := [some 1, none, some 3, some 4, some 5, some 6, some 7, some 8, some 9]) rfl (by decide)), fun _ _ => (hS.pickO (is := [some 1, none, some 3, some 4, some 5, some 6, some 7, some 8, some 9]) rfl (by decide))⟩, ?_⟩)))
  obtain ⟨z5243, hz5244, hF⟩ := bind_some hF
  refine o_app (e := eGTerm) tb hA hS hO5171 (k := 2) rfl (hO5240.src hS (i := 0) rfl) hz5244 rfl rfl rfl rfl rfl rfl rfl rfl rfl rfl rfl rfl rfl fun a w A5245 c5246 p5247 hA hS hO5248 hN5250 => wpList_nil (tn (⟨⟨fun _ => (hS.pickO (is := [some 1, none, some 3, some 4, some 5, some 6, some 7, some 8, some 9]) rfl (by decide)), fun _ _ => (hS.pickO (is := [some 1, none, some 3, some 4, some 5, some 6, some 7, some 8, some 9]) rfl (by decide))⟩, ?_⟩))
  refine ⟨(hS.pickO (is := [some 1, none, some 3, some 4, some 5, some 6, some 7, some 8, some 9]) rfl (by decide)), ?_⟩
  refine qpr tb 1 hA rfl fun a hA => wpHold_nil (bn (tn (wp_region_lit (pr tb 2 hA rfl fun a hA => wpList_nil (tn ?_)))))
  obtain rfl := Option.some.inj hF
  have hA := hA.re (d := 84) rfl (congrArg (Value.int .i64) (w64_succ hlt5160 hbd5160))
  exact ⟨(z5243), ⟨_, _, _, hA.sub ⟨rfl, rfl, rfl, rfl, rfl, rfl, rfl, rfl, rfl, rfl, rfl, rfl, trivial⟩, hS.pick (is := [2, 3, 4, 5, 6, 7, 8, 9]) rfl (by decide), hO5248⟩, hlt5160, hgo5160⟩
theorem c_field_double {w0 : World} {H : PHeap} (hI : ∀ b o, H b = some o → w0.heap[b]? = some o) {x0 : Int} (hr0_0 : inR .u8 x0) {r : Int} (hF : field_double x0 = some r) :
    Calls Try.prog 58 [Value.int .u8 x0].toArray w0 (Ret (fun v w => v = Value.int .u8 r ∧ St noX w0 w H [] ∧ inR .u8 r)) := by
  have hS := St.start hI noX
  unfold field_double at hF
  refine enter fi58.hfn rfl rfl rfl fun a hA => wp_seq (wp_region_lit (pr tb 1 hA rfl fun a hA => wpList_nil (tn (wp_seq (wp_region_lit (pr tb 3 hA rfl fun a hA => wpList_nil (tn (wp_seq (wp_seq ?_)))))))))
  refine wp_region_lit (pr tb 3 hA rfl fun a hA => wpList_nil (tn ?_))
  rcases ite_some hF with ⟨hc2, hF⟩ | ⟨hc2, hF⟩
  · refine cF hA rfl (nf_of (decide_eq_true hc2)) (wp_skip (tn (wp_seq (wp_region_lit (pr tb 2 hA rfl fun a hA => wpList_nil (tn (wp_ret (b_ret hA (rs := [.tmp 2]) rfl (.tmp rfl .nil) ?_))))))))
    obtain rfl := Option.some.inj hF
    exact ⟨rfl, hS, (inR_wrap _ _)⟩
  refine cT hA rfl (nt_of (decide_eq_false hc2)) (wp_region_lit (pr tb 3 hA rfl fun a hA => wpList_nil (tn (wp_seq (wp_region_lit (pr tb 2 hA rfl fun a hA => wpList_nil (tn (wp_ret (b_ret hA (rs := [.tmp 2]) rfl (.tmp rfl .nil) ?_)))))))))
  obtain rfl := Option.some.inj hF
  exact ⟨rfl, hS, (inR_wrap _ _)⟩
theorem c_field_build {w0 : World} {H : PHeap} (hI : ∀ b o, H b = some o → w0.heap[b]? = some o)   {r : GFieldTables} (hF : field_build = some r) :
    Calls Try.prog 53 [].toArray w0 (Ret (fun v w => ∃ (v0 : Value), v = v0 ∧ St noX w0 w H [] ∧ AggP H [.a (ptA (eInt .u8 1) 510 r.exp), .a (ptA (eInt .i64 8) 256 r.log)] v0)) := by
  have hS := St.start hI noX
  unfold field_build at hF
  refine enter fi53.hfn rfl rfl rfl fun a hA => wp_seq (wp_region_lit (o_allocP (ps := [.a (ptA (eInt .u8 1) 510 (List.replicate 510 (0 : Int))), .a (ptA (eInt .i64 8) 256 (List.replicate 256 (0 : Int)))]) (css := [List.replicate 510 (Value.int .u8 0), List.replicate 256 (Value.int .i64 0)]) tb hA hS rfl (by simp [vcells]) ⟨ptA_zero (e := (eInt .u8 1)) rfl (fun _ => ⟨rfl, (inR_c rfl)⟩), ptA_zero (e := (eInt .i64 8)) rfl (fun _ => ⟨rfl, (inR_c rfl)⟩), trivial⟩ rfl rfl fun a w g113 p114 hA hS hb115 => wpList_nil (tn (wp_seq (wp_region_lit (o_allocP (ps := [.a (ptA (eInt .u8 1) 510 (List.replicate 510 (0 : Int))), .a (ptA (eInt .i64 8) 256 (List.replicate 256 (0 : Int)))]) (css := [List.replicate 510 (Value.int .u8 0), List.replicate 256 (Value.int .i64 0)]) tb hA hS rfl (by simp [vcells]) ⟨ptA_zero (e := (eInt .u8 1)) rfl (fun _ => ⟨rfl, (inR_c rfl)⟩), ptA_zero (e := (eInt .i64 8)) rfl (fun _ => ⟨rfl, (inR_c rfl)⟩), trivial⟩ rfl rfl fun a w g117 p118 hA hS hb119 => ?_))))))
  refine wpList_nil (tn (wp_seq (wp_region_lit (pr tb 1 hA rfl fun a hA => wpList_nil (tn (wp_seq (wp_seq (wp_region_lit (pr tb 1 hA rfl fun a hA => wpList_nil (tn ?_))))))))))
  obtain ⟨o183, hx183, hK183⟩ := bind_some hF
  refine wp_cut1 (fun a w => ∃ (p186 : Piece), Fr (24, []) a [(0, Value.pointer (some ⟨g113, 0, none⟩)), (1, Value.pointer (some ⟨g117, 0, none⟩))] ∧ St noX w0 w H [p186, p114] ∧ BxP H p186 g117 103 [.a (ptA (eInt .u8 1) 510 o183.1), .a (ptA (eInt .i64 8) 256 o183.2)]) ?_ ?_
  rotate_left
  · rintro a w ⟨p186, hA, hS, hb187⟩
    have hF := hK183
    refine tn (wp_seq (wp_region_lit (o_ldAll tb hA hS hb187 rfl (i := 0) rfl rfl rfl rfl rfl rfl fun a v219 hv220 hA => o_stAll tb hA hS hb115 hv220 rfl rfl (i := 1) rfl rfl rfl rfl rfl rfl rfl fun w p221 hS hb222 => wpList_nil (tn (wp_ret ?_)))))
    obtain ⟨v223, hv224, hl225⟩ := hb222.loadAll (T := 103) tb hS (i := 1) rfl rfl rfl rfl
    refine b_ret hA (rs := [.cell 0 103]) rfl (.cell rfl hl225 .nil) ?_
    obtain rfl := Option.some.inj hF
    exact ⟨_, rfl, hS.pick (is := []) rfl (by decide), hv224⟩
  have hF := hx183
  refine wp_block ?_
  have hbd183 : ((255 : Int)).toNat ≤ 9223372036854775807 := (by decide)
  refine wp_for0 (n := ((255 : Int)).toNat) (s0 := ((1 : Int), List.replicate 510 (0 : Int), List.replicate 256 (0 : Int))) (fun (i184 : Nat) (s185 : Int × List Int × List Int) a w => ∃ (p189 : Piece), Fr (24, []) a [(0, Value.pointer (some ⟨g113, 0, none⟩)), (1, Value.pointer (some ⟨g117, 0, none⟩)), (2, Value.int .u8 s185.1), (4, Value.int .i64 (i184 : Int))] ∧ St noX w0 w H [p189, p114] ∧ inR .u8 s185.1 ∧ BxP H p189 g117 103 [.a (ptA (eInt .u8 1) 510 s185.2.1), .a (ptA (eInt .i64 8) 256 s185.2.2)]) hF ⟨_, hA.sub ⟨rfl, rfl, rfl, rfl, trivial⟩, hS, (inR_c rfl), hb119⟩ ?_
  rintro After183 i184 s185 a w ⟨p189, hA, hS, hr188, hb190⟩ hin183 hst183 hge183
  rcases Nat.lt_or_ge i184 (((255 : Int)).toNat) with hlt183 | hgt183
  rotate_left
  · have hF := congrArg some (hge183 hgt183)
    refine wp_seq (wp_region_lit (pr tb 1 hA rfl fun a hA => wpList_nil (tn (wp_seq (cF hA rfl (decide_eq_false (show ¬ ((i184 : Int) < (255 : Int)) by omega)) (wp_exit (te (te (be (tn ?_))))))))))
    obtain rfl := Option.some.inj hF
    exact ⟨_, hA.sub ⟨rfl, rfl, trivial⟩, hS, hb190⟩
  obtain ⟨cc183, hF, hgo183⟩ := hst183 hlt183
  refine wp_seq (wp_region_lit (pr tb 1 hA rfl fun a hA => wpList_nil (tn (wp_seq (cT hA rfl (decide_eq_true (show (i184 : Int) < (255 : Int) by omega)) (wp_skip (tn (wp_seq (wp_block (wp_seq (wp_region_lit ?_)))))))))))
  refine pr tb 2 hA rfl fun a hA => wpList_nil (tn (wp_seq (wp_region_lit (pr tb 6 hA rfl fun a hA => ?_))))
  obtain ⟨x191, hx192, hF⟩ := bind_some hF
  refine o_idxA tb hA hb190 (k := 0) rfl rfl hx192 rfl rfl rfl rfl rfl rfl rfl rfl fun a ad193 hA hE194 had195 => o_stA (v := Value.int .u8 s185.1) (y0 := s185.1) tb hA hS hb190 (k := 0) rfl rfl hx192 had195 rfl rfl ⟨rfl, hr188⟩ (i := 0) rfl rfl rfl rfl rfl fun w p196 hS hb197 => pr tb 1 hA rfl fun a hA => ?_
  obtain ⟨x198, hx199, hF⟩ := bind_some hF
  refine o_idxA tb hA hb197 (k := 0) rfl rfl hx199 rfl rfl rfl rfl rfl rfl rfl rfl fun a ad200 hA hE201 had202 => o_stA (v := Value.int .u8 s185.1) (y0 := s185.1) tb hA hS hb197 (k := 0) rfl rfl hx199 had202 rfl rfl ⟨rfl, hr188⟩ (i := 0) rfl rfl rfl rfl rfl fun w p203 hS hb204 => wpList_nil (tn (wp_seq (wp_region_lit (pr tb 3 hA rfl fun a hA => ?_))))
  obtain ⟨x205, hx206, hF⟩ := bind_some hF
  refine o_idxA tb hA hb204 (k := 1) rfl rfl hx206 rfl rfl rfl rfl rfl rfl rfl rfl fun a ad207 hA hE208 had209 => o_stA (v := Value.int .i64 (i184 : Int)) (y0 := (i184 : Int)) tb hA hS hb204 (k := 1) rfl rfl hx206 had209 rfl rfl ⟨rfl, (inR_nat (by omega))⟩ (i := 0) rfl rfl rfl rfl rfl fun w p210 hS hb211 => wpList_nil (tn (wp_region_lit (pr tb 1 hA rfl fun a hA => ?_)))
  obtain ⟨r212, hx213, hF⟩ := bind_some hF
  refine o_call1 hA fi58 rfl rfl rfl rfl (c_field_double (x0 := s185.1) hS.imm hr188 hx213) fun a w v218 hres hA => ?_
  obtain ⟨rfl, hS214, hr217⟩ := hres
  have hS := hS.callL hS214 (PHeap.le.refl _)
  refine pr tb 1 hA rfl fun a hA => wpList_nil (bn (tn (wp_region_lit (pr tb 2 hA rfl fun a hA => wpList_nil (tn ?_)))))
  obtain rfl := Option.some.inj hF
  have hA := hA.re (d := 4) rfl (congrArg (Value.int .i64) (w64_succ hlt183 hbd183))
  exact ⟨(r212, ((s185.2.1).set ((i184 : Int)).toNat s185.1).set (w64 ((i184 : Int) + 255)).toNat s185.1, (s185.2.2).set (s185.1).toNat (i184 : Int)), ⟨_, hA.sub ⟨rfl, rfl, rfl, rfl, trivial⟩, hS, hr217, hb211⟩, hlt183, hgo183⟩
theorem c_field_Scale {w0 : World} {H : PHeap} (hI : ∀ b o, H b = some o → w0.heap[b]? = some o) {x0 : Int} {x1 : List Int} (hr0_0 : inR .u8 x0) {A1_0 : Option Addr} {c1_0 : Nat} (h1_0 : RdS (eInt .u8 1) H A1_0 c1_0 x1) {r : List Int} (hF : field_Scale x0 x1 = some r) :
    Calls Try.prog 44 [Value.int .u8 x0, Value.slice A1_0 (x1).length c1_0].toArray w0 (Ret (fun v w => ∃ (A0 : Option Addr) (c0 : Nat) (p0 : Piece), v = Value.slice A0 (r).length c0 ∧ St noX w0 w H [p0] ∧ OwnS (eInt .u8 1) 5 H A0 c0 r p0)) := by
  have hS := St.start hI noX
  unfold field_Scale at hF
  refine enter fi44.hfn rfl rfl rfl fun a hA => wp_seq (wp_region_lit (pr tb 1 hA rfl fun a hA => wpList_nil (tn (wp_seq (wp_region_lit ?_)))))
  obtain ⟨r551, hx552, hF⟩ := bind_some hF
  refine o_call1 hA fi53 rfl rfl rfl rfl (c_field_build hS.imm hx552) fun a w v558 hres hA => ?_
  obtain ⟨v556, rfl, hS553, hv557⟩ := hres
  have hS := hS.callL hS553 (PHeap.le.refl _)
  refine o_allocP (ps := [.a (ptA (eInt .u8 1) 510 (List.replicate 510 (0 : Int))), .a (ptA (eInt .i64 8) 256 (List.replicate 256 (0 : Int)))]) (css := [List.replicate 510 (Value.int .u8 0), List.replicate 256 (Value.int .i64 0)]) tb hA hS rfl (by simp [vcells]) ⟨ptA_zero (e := (eInt .u8 1)) rfl (fun _ => ⟨rfl, (inR_c rfl)⟩), ptA_zero (e := (eInt .i64 8)) rfl (fun _ => ⟨rfl, (inR_c rfl)⟩), trivial⟩ rfl rfl fun a w g560 p561 hA hS hb562 => o_stAll tb hA hS hb562 hv557 rfl rfl (i := 0) rfl rfl rfl rfl rfl rfl rfl fun w p563 hS hb564 => wpList_nil (tn (wp_seq (wp_region_lit (pr tb 2 hA rfl fun a hA => ?_))))
  obtain ⟨z565, hz566, hF⟩ := bind_some hF
  refine o_make (e := (eInt .u8 1)) tb hA hS hz566 rfl rfl rfl rfl rfl rfl rfl (fun _ => ⟨rfl, (inR_c rfl)⟩) rfl rfl rfl fun a w A567 p568 hA hS hO569 hN571 => pr tb 1 hA rfl fun a hA => wpList_nil (tn (wp_seq (wp_seq (wp_region_lit (pr tb 3 hA rfl fun a hA => wpList_nil (tn ?_))))))
  obtain ⟨o919, hx919, hK919⟩ := bind_some hF
  refine wp_cut1 (fun a w => ∃ (A922 : Option Addr) (c923 : Nat) (p924 : Piece), Fr (28, []) a [(6, Value.slice A922 (o919).length c923)] ∧ St noX w0 w H [p924] ∧ OwnS (eInt .u8 1) 5 H A922 c923 (o919) p924) ?_ ?_
  rotate_left
  · rintro a w ⟨A922, c923, p924, hA, hS, hO925⟩
    have hF := hK919
    refine tn (wp_seq (wp_region_lit (pr tb 2 hA rfl fun a hA => wpList_nil (tn (wp_ret (b_ret hA (rs := [.tmp 4]) rfl (.tmp rfl .nil) ?_))))))
    obtain rfl := Option.some.inj hF
    exact ⟨_, _, _, rfl, hS, hO925⟩
  have hF := hx919
  refine wp_block ?_
  have hbd919 : (x1).length ≤ 9223372036854775807 := (Nat.le_trans (h1_0.len rfl) (by decide))
  refine wp_for0 (n := (x1).length) (s0 := (z565)) (fun (i920 : Nat) (s921 : List Int) a w => ∃ (A927 : Option Addr) (c928 : Nat) (p929 : Piece), Fr (28, []) a [(0, Value.int .u8 x0), (5, Value.pointer (some ⟨g560, 0, none⟩)), (6, Value.slice A927 (s921).length c928), (13, Value.slice A1_0 (x1).length c1_0), (14, Value.int .i64 ((x1).length : Int)), (15, Value.int .i64 (i920 : Int))] ∧ St noX w0 w H [p929, p563] ∧ OwnS (eInt .u8 1) 5 H A927 c928 (s921) p929) hF ⟨_, _, _, hA.sub ⟨rfl, rfl, rfl, rfl, rfl, rfl, trivial⟩, hS, hO569⟩ ?_
  rintro After919 i920 s921 a w ⟨A927, c928, p929, hA, hS, hO930⟩ hin919 hst919 hge919
  rcases Nat.lt_or_ge i920 ((x1).length) with hlt919 | hgt919
  rotate_left
  · have hF := congrArg some (hge919 hgt919)
    refine wp_seq (wp_region_lit (pr tb 1 hA rfl fun a hA => wpList_nil (tn (wp_seq (cF hA rfl (decide_eq_false (show ¬ ((i920 : Int) < ((x1).length : Int)) by omega)) (wp_exit (te (te (be (tn ?_))))))))))
    obtain rfl := Option.some.inj hF
    exact ⟨_, _, _, hA.sub ⟨rfl, trivial⟩, hS.pick (is := [0]) rfl (by decide), hO930⟩
  obtain ⟨cc919, hF, hgo919⟩ := hst919 hlt919
  refine wp_seq (wp_region_lit (pr tb 1 hA rfl fun a hA => wpList_nil (tn (wp_seq (cT hA rfl (decide_eq_true (show (i920 : Int) < ((x1).length : Int) by omega)) (wp_skip (tn (wp_seq (wp_block (wp_seq (wp_region_lit ?_)))))))))))
  refine pr tb 1 hA rfl fun a hA => ?_
  obtain ⟨x932, hx933, hF⟩ := bind_some hF
  refine o_idxR tb hA h1_0 hx933 rfl rfl rfl rfl rfl rfl rfl rfl fun a ad934 hA hE935 => o_ldR tb hA hS hE935 rfl rfl rfl rfl rfl rfl fun a cs936 hc937 hA => ?_
  obtain ⟨rfl, hr938⟩ := hc937
  refine pr tb 2 hA rfl fun a hA => wpList_nil (tn (wp_region_lit (pr tb 4 hA rfl fun a hA => ?_)))
  obtain ⟨o1015, hx1015, hK1015⟩ := bind_some hF
  refine o_call1 (R := fun v w => v = Value.int .u8 o1015 ∧ St noX w0 w H [p929, p563] ∧ inR .u8 o1015) hA fi54 rfl rfl rfl rfl ?_ ?_
  rotate_left
  · rintro a w v ⟨rfl, hS, hr1016⟩ hA
    have hF := hK1015
    obtain ⟨x1093, hx1094, hF⟩ := bind_some hF
    refine o_idxO tb hA hO930 hx1094 rfl rfl rfl rfl rfl rfl rfl rfl fun a ad1095 hA hE1096 hat1097 => o_stO (v := Value.int .u8 o1015) (y0 := o1015) tb hA hS hO930 hat1097 ((idx_some hx1094).2.2) ⟨rfl, hr1016⟩ rfl rfl (k := 0) rfl rfl rfl rfl rfl fun w p1098 hS hO1099 => ?_
    have hq1100 : (s921).length = ((s921).set ((i920 : Int)).toNat o1015).length := (List.length_set ..).symm
    have hA := hA.re (d := 6) rfl (congrArg (fun n => Value.slice A927 n c928) hq1100)
    have hA := hA.re (d := 20) rfl (congrArg (fun n => Value.slice A927 n c928) hq1100)
    refine wpList_nil (bn (tn (wp_region_lit (pr tb 2 hA rfl fun a hA => wpList_nil (tn ?_)))))
    obtain rfl := Option.some.inj hF
    have hA := hA.re (d := 15) rfl (congrArg (Value.int .i64) (w64_succ hlt919 hbd919))
    exact ⟨((s921).set ((i920 : Int)).toNat o1015), ⟨_, _, _, hA.sub ⟨rfl, rfl, rfl, rfl, rfl, rfl, trivial⟩, hS, hO1099⟩, hlt919, hgo919⟩
  have hF := hx1015
  refine enter fi54.hfn rfl rfl rfl fun a1 hA1 => wp_seq (wp_region_lit (pr tb 1 hA1 rfl fun a1 hA1 => wpList_nil (tn (wp_seq (wp_seq (wp_region_lit (pr tb 3 hA1 rfl fun a1 hA1 => ?_)))))))
  rcases ite_some hF with ⟨hc1019, hF⟩ | ⟨hc1019, hF⟩
  · have hA1 := hA1.re (d := 9) rfl (congrArg Value.bool (decide_eq_true hc1019 : _ = true))
    refine pr tb 3 hA1 rfl fun a1 hA1 => wpList_nil (tn (cT hA1 rfl rfl (wp_seq (wp_region_lit (pr tb 1 hA1 rfl fun a1 hA1 => wpList_nil (tn (wp_ret (tr (b_ret hA1 (rs := [.tmp 6]) rfl (.tmp rfl .nil) ?_)))))))))
    obtain rfl := Option.some.inj hF
    exact ⟨rfl, hS, (inR_c rfl)⟩
  have hA1 := hA1.re (d := 9) rfl (congrArg Value.bool (decide_eq_false hc1019 : _ = false))
  refine pr tb 3 hA1 rfl fun a1 hA1 => wpList_nil (tn ?_)
  rcases ite_some hF with ⟨hc1020, hF⟩ | ⟨hc1020, hF⟩
  · refine cT hA1 rfl (decide_eq_true hc1020) (wp_seq (wp_region_lit (pr tb 1 hA1 rfl fun a1 hA1 => wpList_nil (tn (wp_ret (tr (b_ret hA1 (rs := [.tmp 6]) rfl (.tmp rfl .nil) ?_)))))))
    obtain rfl := Option.some.inj hF
    exact ⟨rfl, hS, (inR_c rfl)⟩
  refine cF hA1 rfl (decide_eq_false hc1020) (wp_skip (tn (wp_seq (rx (fun b w => St noX w0 w H (bif b then [p929, p563] else [p929, p563])) [] (.q true [0, 1, 2, 3, 4, 5, 6, 7, 8, 9, 10, 11, 12, 13, 14, 15, 16, 17, 18] .z) hmix (by decide +kernel) ?_))))
  have hS := hS.drew
  refine ⟨(hS.pickO (is := [some 0, some 1]) rfl (by decide)), ?_⟩
  refine qpr tb 5 hA1 rfl fun a1 hA1 => ?_
  obtain ⟨x1069, hx1070, hF⟩ := bind_some hF
  refine q_idxA tb hA1 hb564 (k := 1) rfl rfl hx1070 rfl rfl rfl rfl rfl rfl rfl rfl fun a1 ad1071 hA1 hE1072 had1073 => q_ldO tb hA1 hE1072 rfl (i := 1) rfl rfl rfl rfl rfl rfl fun a1 cs1074 hc1075 hA1 => ?_
  obtain ⟨rfl, hr1076⟩ := hc1075
  refine qpr tb 4 hA1 rfl fun a1 hA1 => ?_
  obtain ⟨x1077, hx1078, hF⟩ := bind_some hF
  refine q_idxA tb hA1 hb564 (k := 1) rfl rfl hx1078 rfl rfl rfl rfl rfl rfl rfl rfl fun a1 ad1079 hA1 hE1080 had1081 => q_ldO tb hA1 hE1080 rfl (i := 1) rfl rfl rfl rfl rfl rfl fun a1 cs1082 hc1083 hA1 => ?_
  obtain ⟨rfl, hr1084⟩ := hc1083
  refine qpr tb 3 hA1 rfl fun a1 hA1 => ?_
  obtain ⟨x1085, hx1086, hF⟩ := bind_some hF
  refine q_idxA tb hA1 hb564 (k := 0) rfl rfl hx1086 rfl rfl rfl rfl rfl rfl rfl rfl fun a1 ad1087 hA1 hE1088 had1089 => q_ldO tb hA1 hE1088 rfl (i := 1) rfl rfl rfl rfl rfl rfl fun a1 cs1090 hc1091 hA1 => ?_
  obtain ⟨rfl, hr1092⟩ := hc1091
  refine qpr tb 1 hA1 rfl fun a1 hA1 => wpHold_nil (tn (wp_ret (b_ret hA1 (rs := [.tmp 6]) rfl (.tmp rfl .nil) ?_)))
  obtain rfl := Option.some.inj hF
  exact ⟨rfl, hS, hr1092⟩
theorem c_recoupref01_Same {w0 : World} {H : PHeap} (hI : ∀ b o, H b = some o → w0.heap[b]? = some o) {x0 : List Int} {x1 : List Int} {A0_0 : Option Addr} {c0_0 : Nat} (h0_0 : RdS (eInt .u8 1) H A0_0 c0_0 x0) {A1_0 : Option Addr} {c1_0 : Nat} (h1_0 : RdS (eInt .u8 1) H A1_0 c1_0 x1) {r : Bool} (hF : recoupref01_Same x0 x1 = some r) :
    Calls Try.prog 12 [Value.slice A0_0 (x0).length c0_0, Value.slice A1_0 (x1).length c1_0].toArray w0 (Ret (fun v w => v = Value.bool r ∧ St noX w0 w H [])) := by
  have hS := St.start hI noX
  unfold recoupref01_Same at hF
  refine enter fi12.hfn rfl rfl rfl fun a hA => wp_seq (wp_region_lit (pr tb 1 hA rfl fun a hA => wpList_nil (tn (wp_seq (wp_region_lit (pr tb 1 hA rfl fun a hA => o_b2s tb hA hS h0_0 rfl rfl rfl rfl rfl rfl rfl rfl rfl fun a hA => pr tb 1 hA rfl fun a hA => o_b2s tb hA hS h1_0 rfl rfl rfl rfl rfl rfl rfl rfl rfl fun a hA => o_eqStr (neg := false) hA (RdS.inB h0_0) (RdS.inB h1_0) rfl rfl rfl rfl fun a hA => ?_))))))
  refine pr tb 1 hA rfl fun a hA => wpList_nil (tn (wp_ret (b_ret hA (rs := [.tmp 4]) rfl (.tmp rfl .nil) ?_)))
  obtain rfl := Option.some.inj hF
  exact ⟨rfl, hS⟩
theorem c_recoupref21_May {w0 : World} {H : PHeap} (hI : ∀ b o, H b = some o → w0.heap[b]? = some o) {x0 : GFlow} {A0_0 : Option Addr} {c0_0 : Nat} (h0_0 : RdS (eInt .i64 8) H A0_0 c0_0 x0.Inputs) {A0_1 : Option Addr} {c0_1 : Nat} (h0_1 : RdS (eSl eGTerm) H A0_1 c0_1 x0.Nodes) {A0_2 : Option Addr} {c0_2 : Nat} (h0_2 : RdS (eInt .i64 8) H A0_2 c0_2 x0.Outs) {r : Bool} (hF : recoupref21_May x0 = some r) :
    Calls Try.prog 19 [Value.agg #[Value.slice A0_0 (x0.Inputs).length c0_0, Value.slice A0_1 (x0.Nodes).length c0_1, Value.slice A0_2 (x0.Outs).length c0_2]].toArray w0 (Ret (fun v w => v = Value.bool r ∧ St noX w0 w H [])) := by
  have hS := St.start hI noX
  unfold recoupref21_May at hF
  refine enter fi19.hfn rfl rfl rfl fun a hA => wp_seq (wp_region_lit (o_box hA hS rfl rfl rfl fun a w g1756 p1757 hA hS hb1758 => pr tb 1 hA rfl fun a hA => wpList_nil (tn (wp_seq (wp_seq (wp_region_lit (pr tb 1 hA rfl fun a hA => o_ld tb hA hS hb1758 rfl (i := 0) rfl rfl rfl rfl rfl rfl fun a hA => pr tb 3 hA rfl fun a hA => ?_)))))))
  rcases ite_some hF with ⟨hc1761, hF⟩ | ⟨hc1761, hF⟩
  · have hA := hA.re (d := 12) rfl (congrArg Value.bool (decide_eq_true hc1761 : _ = true))
    refine pr tb 5 hA rfl fun a hA => wpList_nil (tn (cT hA rfl rfl (wp_seq (wp_region_lit (pr tb 1 hA rfl fun a hA => wpList_nil (tn (wp_ret (tr (b_ret hA (rs := [.tmp 2]) rfl (.tmp rfl .nil) ?_)))))))))
    obtain rfl := Option.some.inj hF
    exact ⟨rfl, hS.pick (is := []) rfl (by decide)⟩
  have hA := hA.re (d := 12) rfl (congrArg Value.bool (decide_eq_false hc1761 : _ = false))
  refine pr tb 1 hA rfl fun a hA => o_ld tb hA hS hb1758 rfl (i := 0) rfl rfl rfl rfl rfl rfl fun a hA => pr tb 3 hA rfl fun a hA => wpList_nil (tn ?_)
  rcases ite_some hF with ⟨hc1762, hF⟩ | ⟨hc1762, hF⟩
  · refine cT hA rfl (decide_eq_true hc1762) (wp_seq (wp_region_lit (pr tb 1 hA rfl fun a hA => wpList_nil (tn (wp_ret (tr (b_ret hA (rs := [.tmp 2]) rfl (.tmp rfl .nil) ?_)))))))
    obtain rfl := Option.some.inj hF
    exact ⟨rfl, hS.pick (is := []) rfl (by decide)⟩
  refine cF hA rfl (decide_eq_false hc1762) (wp_skip (tn (wp_seq (wp_seq (wp_region_lit (pr tb 1 hA rfl fun a hA => wpList_nil (tn ?_)))))))
  obtain ⟨o2053, hx2053, hK2053⟩ := bind_some hF
  refine wp_cut1 (fun a w => ∃ (s2056 : Unit), o2053 = .fall s2056 ∧ Fr (147, []) a [(1, Value.pointer (some ⟨g1756, 0, none⟩))] ∧ St noX w0 w H [p1757]) ?_ ?_
  · have hF := hx2053
    refine wp_block ?_
    have hbd2053 : (x0.Inputs).length ≤ 9223372036854775807 := (Nat.le_trans (h0_0.len rfl) (by decide))
    refine wp_for0 (n := (x0.Inputs).length) (s0 := (())) (fun (i2054 : Nat) (s2055 : Unit) a w => Fr (147, []) a [(1, Value.pointer (some ⟨g1756, 0, none⟩)), (3, Value.int .i64 (i2054 : Int))] ∧ St noX w0 w H [p1757]) hF ⟨hA.sub ⟨rfl, rfl, trivial⟩, hS⟩ ?_
    rintro After2053 i2054 s2055 a w ⟨hA, hS⟩ hin2053 hst2053 hge2053
    rcases Nat.lt_or_ge i2054 ((x0.Inputs).length) with hlt2053 | hgt2053
    rotate_left
    · have hF := congrArg some (hge2053 hgt2053)
      refine wp_seq (wp_seq (wp_region_lit (pr tb 2 hA rfl fun a hA => o_ld tb hA hS hb1758 rfl (i := 0) rfl rfl rfl rfl rfl rfl fun a hA => pr tb 2 hA rfl fun a hA => wpList_nil (tn (cF hA rfl (decide_eq_false (show ¬ ((i2054 : Int) < ((x0.Inputs).length : Int)) by omega)) (wp_exit (te (te (be ?_)))))))))
      refine tn ?_
      obtain rfl := Option.some.inj hF
      exact ⟨(()), rfl, hA.sub ⟨rfl, trivial⟩, hS⟩
    obtain ⟨cc2053, hF, hgo2053⟩ := hst2053 hlt2053
    refine wp_seq (wp_seq (wp_region_lit (pr tb 2 hA rfl fun a hA => o_ld tb hA hS hb1758 rfl (i := 0) rfl rfl rfl rfl rfl rfl fun a hA => pr tb 2 hA rfl fun a hA => wpList_nil (tn (cT hA rfl (decide_eq_true (show (i2054 : Int) < ((x0.Inputs).length : Int) by omega)) (wp_skip (tn (wp_seq (wp_block ?_)))))))))
    refine wp_seq (rx (fun b w => St noX w0 w H (bif b then [p1757] else [p1757])) [] (.q true [0, 1, 2, 3, 4, 5, 6, 7, 8, 9, 10, 11, 12, 13, 14, 15, 16, 17, 18, 19, 20, 21, 22, 23, 24, 25, 26, 27, 28, 29, 30, 31] .z) hmix (by decide +kernel) ?_)
    have hS := hS.drew
    refine ⟨(hS.pickO (is := [some 0]) rfl (by decide)), ?_⟩
    refine qpr tb 1 hA rfl fun a hA => q_ld tb hA hb1758 rfl (i := 0) rfl rfl rfl rfl rfl rfl fun a hA => qpr tb 1 hA rfl fun a hA => ?_
    obtain ⟨x2119, hx2120, hF⟩ := bind_some hF
    refine q_idxR tb hA h0_0 hx2120 rfl rfl rfl rfl rfl rfl rfl rfl fun a ad2121 hA hE2122 => q_ldR tb hA hE2122 rfl rfl rfl rfl rfl rfl fun a cs2123 hc2124 hA => ?_
    obtain ⟨rfl, hr2125⟩ := hc2124
    refine qpr tb 2 hA rfl fun a hA => ?_
    rcases ite_some hF with ⟨hc2126, hF⟩ | ⟨hc2126, hF⟩
    · have hA := hA.re (d := 31) rfl (congrArg Value.bool (decide_eq_true hc2126 : _ = true))
      refine qpr tb 25 hA rfl fun a hA => wpHold_nil (tn (cT hA rfl rfl (wp_seq (wp_region_lit (pr tb 1 hA rfl fun a hA => wpList_nil (tn (wp_ret (br (tr (tr ?_))))))))))
      obtain rfl := Option.some.inj hF
      have hF := congrArg some hgo2053
      refine br (tr ?_)
      obtain rfl := Option.some.inj hF
      have hF := hK2053
      refine tr (b_ret hA (rs := [.tmp 2]) rfl (.tmp rfl .nil) ?_)
      obtain rfl := Option.some.inj hF
      exact ⟨rfl, hS.pick (is := []) rfl (by decide)⟩
    have hA := hA.re (d := 31) rfl (congrArg Value.bool (decide_eq_false hc2126 : _ = false))
    refine qpr tb 1 hA rfl fun a hA => q_ld tb hA hb1758 rfl (i := 0) rfl rfl rfl rfl rfl rfl fun a hA => qpr tb 1 hA rfl fun a hA => ?_
    obtain ⟨x2127, hx2128, hF⟩ := bind_some hF
    refine q_idxR tb hA h0_0 hx2128 rfl rfl rfl rfl rfl rfl rfl rfl fun a ad2129 hA hE2130 => q_ldR tb hA hE2130 rfl rfl rfl rfl rfl rfl fun a cs2131 hc2132 hA => ?_
    obtain ⟨rfl, hr2133⟩ := hc2132
    refine qpr tb 3 hA rfl fun a hA => ?_
    rcases ite_some hF with ⟨hc2134, hF⟩ | ⟨hc2134, hF⟩
    · have hA := hA.re (d := 39) rfl (congrArg Value.bool (decide_eq_true hc2134 : _ = true))
      refine qpr tb 17 hA rfl fun a hA => wpHold_nil (tn (cT hA rfl rfl (wp_seq (wp_region_lit (pr tb 1 hA rfl fun a hA => wpList_nil (tn (wp_ret (br (tr (tr ?_))))))))))
      obtain rfl := Option.some.inj hF
      have hF := congrArg some hgo2053
      refine br (tr ?_)
      obtain rfl := Option.some.inj hF
      have hF := hK2053
      refine tr (b_ret hA (rs := [.tmp 2]) rfl (.tmp rfl .nil) ?_)
      obtain rfl := Option.some.inj hF
      exact ⟨rfl, hS.pick (is := []) rfl (by decide)⟩
    have hA := hA.re (d := 39) rfl (congrArg Value.bool (decide_eq_false hc2134 : _ = false))
    refine qpr tb 3 hA rfl fun a hA => ?_
    rcases ite_some hF with ⟨hc2135, hF⟩ | ⟨hc2135, hF⟩
    rotate_left
    · have hA := hA.re (d := 42) rfl (congrArg Value.bool (decide_eq_false hc2135 : _ = false))
      refine qpr tb 14 hA rfl fun a hA => wpHold_nil (tn (cF hA rfl rfl (wp_skip (bn (tn (wp_region_lit (pr tb 3 hA rfl fun a hA => wpList_nil (tn ?_))))))))
      obtain rfl := Option.some.inj hF
      have hA := hA.re (d := 3) rfl (congrArg (Value.int .i64) (w64_succ hlt2053 hbd2053))
      exact ⟨(()), ⟨hA.sub ⟨rfl, rfl, trivial⟩, hS⟩, hlt2053, hgo2053⟩
    have hA := hA.re (d := 42) rfl (congrArg Value.bool (decide_eq_true hc2135 : _ = true))
    refine qpr tb 1 hA rfl fun a hA => q_ld tb hA hb1758 rfl (i := 0) rfl rfl rfl rfl rfl rfl fun a hA => qpr tb 1 hA rfl fun a hA => ?_
    obtain ⟨x2136, hx2137, hF⟩ := bind_some hF
    refine q_idxR tb hA h0_0 hx2137 rfl rfl rfl rfl rfl rfl rfl rfl fun a ad2138 hA hE2139 => q_ldR tb hA hE2139 rfl rfl rfl rfl rfl rfl fun a cs2140 hc2141 hA => ?_
    obtain ⟨rfl, hr2142⟩ := hc2141
    refine qpr tb 1 hA rfl fun a hA => q_ld tb hA hb1758 rfl (i := 0) rfl rfl rfl rfl rfl rfl fun a hA => qpr tb 2 hA rfl fun a hA => ?_
    obtain ⟨x2143, hx2144, hF⟩ := bind_some hF
    refine q_idxR tb hA h0_0 hx2144 rfl rfl rfl rfl rfl rfl rfl rfl fun a ad2145 hA hE2146 => q_ldR tb hA hE2146 rfl rfl rfl rfl rfl rfl fun a cs2147 hc2148 hA => ?_
    obtain ⟨rfl, hr2149⟩ := hc2148
    refine qpr tb 3 hA rfl fun a hA => wpHold_nil (tn ?_)
    rcases ite_some hF with ⟨hc2150, hF⟩ | ⟨hc2150, hF⟩
    rotate_left
    · refine cF hA rfl (decide_eq_false hc2150) (wp_skip (bn (tn (wp_region_lit (pr tb 3 hA rfl fun a hA => wpList_nil (tn ?_))))))
      obtain rfl := Option.some.inj hF
      have hA := hA.re (d := 3) rfl (congrArg (Value.int .i64) (w64_succ hlt2053 hbd2053))
      exact ⟨(()), ⟨hA.sub ⟨rfl, rfl, trivial⟩, hS⟩, hlt2053, hgo2053⟩
    refine cT hA rfl (decide_eq_true hc2150) (wp_seq (wp_region_lit (pr tb 1 hA rfl fun a hA => wpList_nil (tn (wp_ret (br (tr (tr ?_))))))))
    obtain rfl := Option.some.inj hF
    have hF := congrArg some hgo2053
    refine br (tr ?_)
    obtain rfl := Option.some.inj hF
    have hF := hK2053
    refine tr (b_ret hA (rs := [.tmp 2]) rfl (.tmp rfl .nil) ?_)
    obtain rfl := Option.some.inj hF
    exact ⟨rfl, hS.pick (is := []) rfl (by decide)⟩
  rintro a w ⟨s2056, rfl, hA, hS⟩
  have hF := hK2053
  refine tn (wp_seq (wp_seq (wp_region_lit (pr tb 1 hA rfl fun a hA => wpList_nil (tn ?_)))))
  obtain ⟨o3095, hx3095, hK3095⟩ := bind_some hF
  refine wp_cut1 (fun a w => ∃ (s3098 : Unit), o3095 = .fall s3098 ∧ Fr (147, []) a [(1, Value.pointer (some ⟨g1756, 0, none⟩))] ∧ St noX w0 w H [p1757]) ?_ ?_
  rotate_left
  · rintro a w ⟨s3098, rfl, hA, hS⟩
    have hF := hK3095
    refine tn (wp_seq (wp_seq (wp_region_lit (pr tb 1 hA rfl fun a hA => wpList_nil (tn ?_)))))
    obtain ⟨o3459, hx3459, hK3459⟩ := bind_some hF
    refine wp_cut1 (fun a w => ∃ (s3462 : Unit), o3459 = .fall s3462 ∧ Fr (147, []) a [] ∧ St noX w0 w H []) ?_ ?_
    rotate_left
    · rintro a w ⟨s3462, rfl, hA, hS⟩
      have hF := hK3459
      refine tn (wp_seq (wp_region_lit (pr tb 1 hA rfl fun a hA => wpList_nil (tn (wp_ret (b_ret hA (rs := [.tmp 2]) rfl (.tmp rfl .nil) ?_))))))
      obtain rfl := Option.some.inj hF
      exact ⟨rfl, hS⟩
    have hF := hx3459
    refine wp_block ?_
    have hbd3459 : (x0.Outs).length ≤ 9223372036854775807 := (Nat.le_trans (h0_2.len rfl) (by decide))
    refine wp_for0 (n := (x0.Outs).length) (s0 := (())) (fun (i3460 : Nat) (s3461 : Unit) a w => Fr (147, []) a [(1, Value.pointer (some ⟨g1756, 0, none⟩)), (7, Value.int .i64 (i3460 : Int))] ∧ St noX w0 w H [p1757]) hF ⟨hA.sub ⟨rfl, rfl, trivial⟩, hS⟩ ?_
    rintro After3459 i3460 s3461 a w ⟨hA, hS⟩ hin3459 hst3459 hge3459
    rcases Nat.lt_or_ge i3460 ((x0.Outs).length) with hlt3459 | hgt3459
    rotate_left
    · have hF := congrArg some (hge3459 hgt3459)
      refine wp_seq (wp_seq (wp_region_lit (pr tb 2 hA rfl fun a hA => o_ld tb hA hS hb1758 rfl (i := 0) rfl rfl rfl rfl rfl rfl fun a hA => pr tb 2 hA rfl fun a hA => wpList_nil (tn (cF hA rfl (decide_eq_false (show ¬ ((i3460 : Int) < ((x0.Outs).length : Int)) by omega)) (wp_exit (te (te (be ?_)))))))))
      refine tn ?_
      obtain rfl := Option.some.inj hF
      exact ⟨(()), rfl, hA.sub trivial, hS.pick (is := []) rfl (by decide)⟩
    obtain ⟨cc3459, hF, hgo3459⟩ := hst3459 hlt3459
    refine wp_seq (wp_seq (wp_region_lit (pr tb 2 hA rfl fun a hA => o_ld tb hA hS hb1758 rfl (i := 0) rfl rfl rfl rfl rfl rfl fun a hA => pr tb 2 hA rfl fun a hA => wpList_nil (tn (cT hA rfl (decide_eq_true (show (i3460 : Int) < ((x0.Outs).length : Int) by omega)) (wp_skip (tn (wp_seq (wp_block ?_)))))))))
    refine wp_seq (rx (fun b w => St noX w0 w H (bif b then [p1757] else [p1757])) [] (.q true [0, 1, 2, 3, 4, 5, 6, 7, 8, 9, 10, 11, 12, 13, 14, 15, 16, 17, 18, 19, 20] .z) hmix (by decide +kernel) ?_)
    have hS := hS.drew
    refine ⟨(hS.pickO (is := [some 0]) rfl (by decide)), ?_⟩
    refine qpr tb 1 hA rfl fun a hA => q_ld tb hA hb1758 rfl (i := 0) rfl rfl rfl rfl rfl rfl fun a hA => qpr tb 1 hA rfl fun a hA => ?_
    obtain ⟨x3493, hx3494, hF⟩ := bind_some hF
    refine q_idxR tb hA h0_2 hx3494 rfl rfl rfl rfl rfl rfl rfl rfl fun a ad3495 hA hE3496 => q_ldR tb hA hE3496 rfl rfl rfl rfl rfl rfl fun a cs3497 hc3498 hA => ?_
    obtain ⟨rfl, hr3499⟩ := hc3498
    refine qpr tb 2 hA rfl fun a hA => ?_
    rcases ite_some hF with ⟨hc3500, hF⟩ | ⟨hc3500, hF⟩
    · have hA := hA.re (d := 132) rfl (congrArg Value.bool (decide_eq_true hc3500 : _ = true))
      refine qpr tb 14 hA rfl fun a hA => wpHold_nil (tn (cT hA rfl rfl (wp_seq (wp_region_lit (pr tb 1 hA rfl fun a hA => wpList_nil (tn (wp_ret (br (tr (tr ?_))))))))))
      obtain rfl := Option.some.inj hF
      have hF := congrArg some hgo3459
      refine br (tr ?_)
      obtain rfl := Option.some.inj hF
      have hF := hK3459
      refine tr (b_ret hA (rs := [.tmp 2]) rfl (.tmp rfl .nil) ?_)
      obtain rfl := Option.some.inj hF
      exact ⟨rfl, hS.pick (is := []) rfl (by decide)⟩
    have hA := hA.re (d := 132) rfl (congrArg Value.bool (decide_eq_false hc3500 : _ = false))
    refine qpr tb 1 hA rfl fun a hA => q_ld tb hA hb1758 rfl (i := 0) rfl rfl rfl rfl rfl rfl fun a hA => qpr tb 1 hA rfl fun a hA => ?_
    obtain ⟨x3501, hx3502, hF⟩ := bind_some hF
    refine q_idxR tb hA h0_2 hx3502 rfl rfl rfl rfl rfl rfl rfl rfl fun a ad3503 hA hE3504 => q_ldR tb hA hE3504 rfl rfl rfl rfl rfl rfl fun a cs3505 hc3506 hA => ?_
    obtain ⟨rfl, hr3507⟩ := hc3506
    refine qpr tb 1 hA rfl fun a hA => q_ld tb hA hb1758 rfl (i := 0) rfl rfl rfl rfl rfl rfl fun a hA => qpr tb 2 hA rfl fun a hA => q_ld tb hA hb1758 rfl (i := 0) rfl rfl rfl rfl rfl rfl fun a hA => qpr tb 4 hA rfl fun a hA => wpHold_nil (tn ?_)
    rcases ite_some hF with ⟨hc3508, hF⟩ | ⟨hc3508, hF⟩
    rotate_left
    · refine cF hA rfl (decide_eq_false hc3508) (wp_skip (bn (tn (wp_region_lit (pr tb 3 hA rfl fun a hA => wpList_nil (tn ?_))))))
      obtain rfl := Option.some.inj hF
      have hA := hA.re (d := 7) rfl (congrArg (Value.int .i64) (w64_succ hlt3459 hbd3459))
      exact ⟨(()), ⟨hA.sub ⟨rfl, rfl, trivial⟩, hS⟩, hlt3459, hgo3459⟩
    refine cT hA rfl (decide_eq_true hc3508) (wp_seq (wp_region_lit (pr tb 1 hA rfl fun a hA => wpList_nil (tn (wp_ret (br (tr (tr ?_))))))))
    obtain rfl := Option.some.inj hF
    have hF := congrArg some hgo3459
    refine br (tr ?_)
    obtain rfl := Option.some.inj hF
    have hF := hK3459
    refine tr (b_ret hA (rs := [.tmp 2]) rfl (.tmp rfl .nil) ?_)
    obtain rfl := Option.some.inj hF
    exact ⟨rfl, hS.pick (is := []) rfl (by decide)⟩
  have hF := hx3095
  refine wp_block ?_
  have hbd3095 : (x0.Nodes).length ≤ 9223372036854775807 := (Nat.le_trans (h0_1.len rfl) (by decide))
  refine wp_for0 (n := (x0.Nodes).length) (s0 := (())) (fun (i3096 : Nat) (s3097 : Unit) a w => Fr (147, []) a [(1, Value.pointer (some ⟨g1756, 0, none⟩)), (4, Value.int .i64 (i3096 : Int))] ∧ St noX w0 w H [p1757]) hF ⟨hA.sub ⟨rfl, rfl, trivial⟩, hS⟩ ?_
  rintro After3095 i3096 s3097 a w ⟨hA, hS⟩ hin3095 hst3095 hge3095
  rcases Nat.lt_or_ge i3096 ((x0.Nodes).length) with hlt3095 | hgt3095
  rotate_left
  · have hF := congrArg some (hge3095 hgt3095)
    refine wp_seq (wp_seq (wp_region_lit (pr tb 2 hA rfl fun a hA => o_ld tb hA hS hb1758 rfl (i := 0) rfl rfl rfl rfl rfl rfl fun a hA => pr tb 2 hA rfl fun a hA => wpList_nil (tn (cF hA rfl (decide_eq_false (show ¬ ((i3096 : Int) < ((x0.Nodes).length : Int)) by omega)) (wp_exit (te (te (be ?_)))))))))
    refine tn ?_
    obtain rfl := Option.some.inj hF
    exact ⟨(()), rfl, hA.sub ⟨rfl, trivial⟩, hS⟩
  obtain ⟨cc3095, hF, hgo3095⟩ := hst3095 hlt3095
  refine wp_seq (wp_seq (wp_region_lit (pr tb 2 hA rfl fun a hA => o_ld tb hA hS hb1758 rfl (i := 0) rfl rfl rfl rfl rfl rfl fun a hA => pr tb 2 hA rfl fun a hA => wpList_nil (tn (cT hA rfl (decide_eq_true (show (i3096 : Int) < ((x0.Nodes).length : Int) by omega)) (wp_skip (tn (wp_seq (wp_block ?_)))))))))
  refine wp_seq (wp_region_lit (pr tb 1 hA rfl fun a hA => wpList_nil (tn ?_)))
  obtain ⟨o3309, hx3309, hK3309⟩ := bind_some hF
  refine wp_cut1 (fun a w => ∃ (s3312 : Unit), o3309 = .fall s3312 ∧ Fr (147, []) a [(1, Value.pointer (some ⟨g1756, 0, none⟩)), (4, Value.int .i64 (i3096 : Int))] ∧ St noX w0 w H [p1757]) ?_ ?_
  rotate_left
  · rintro a w ⟨s3312, rfl, hA, hS⟩
    have hF := hK3309
    refine bn (tn (wp_region_lit (pr tb 3 hA rfl fun a hA => wpList_nil (tn ?_))))
    obtain rfl := Option.some.inj hF
    have hA := hA.re (d := 4) rfl (congrArg (Value.int .i64) (w64_succ hlt3095 hbd3095))
    exact ⟨(()), ⟨hA.sub ⟨rfl, rfl, trivial⟩, hS⟩, hlt3095, hgo3095⟩
  have hF := hx3309
  refine wp_block (wp_iter (s0 := ((0 : Int))) (fun (s3311 : Int) a w => Fr (147, []) a [(1, Value.pointer (some ⟨g1756, 0, none⟩)), (4, Value.int .i64 (i3096 : Int)), (5, Value.int .i64 s3311)] ∧ St noX w0 w H [p1757] ∧ inR .i64 s3311) hF ⟨hA.sub ⟨rfl, rfl, rfl, trivial⟩, hS, (inR_c rfl)⟩ ?_)
  rintro After3309 s3311 a w ⟨hA, hS, hr3313⟩ ⟨cc3309, hF, hgo3309⟩
  refine wp_seq (wp_seq (wp_region_lit (pr tb 2 hA rfl fun a hA => o_ld tb hA hS hb1758 rfl (i := 0) rfl rfl rfl rfl rfl rfl fun a hA => pr tb 1 hA rfl fun a hA => ?_)))
  obtain ⟨x3314, hx3315, hF⟩ := bind_some hF
  refine o_idxR tb hA h0_1 hx3315 rfl rfl rfl rfl rfl rfl rfl rfl fun a ad3316 hA hE3317 => o_ldR tb hA hS hE3317 rfl rfl rfl rfl rfl rfl fun a cs3318 hc3319 hA => ?_
  obtain ⟨A3320, c3321, rfl, hR3322⟩ := hc3319
  refine pr tb 2 hA rfl fun a hA => wpList_nil (tn ?_)
  rcases ite_some hF with ⟨hc3323, hF⟩ | ⟨hc3323, hF⟩
  rotate_left
  · refine cF hA rfl (decide_eq_false hc3323) (wp_exit (te (te ?_)))
    obtain rfl := Option.some.inj hF
    have hF := congrArg some hgo3309
    refine be (tn ?_)
    obtain rfl := Option.some.inj hF
    exact ⟨(()), rfl, hA.sub ⟨rfl, rfl, trivial⟩, hS⟩
  refine cT hA rfl (decide_eq_true hc3323) (wp_skip (tn (wp_seq (wp_block (wp_seq (wp_region_lit (pr tb 1 hA rfl fun a hA => o_ld tb hA hS hb1758 rfl (i := 0) rfl rfl rfl rfl rfl rfl fun a hA => pr tb 1 hA rfl fun a hA => ?_)))))))
  obtain ⟨x3324, hx3325, hF⟩ := bind_some hF
  refine o_idxR tb hA h0_1 hx3325 rfl rfl rfl rfl rfl rfl rfl rfl fun a ad3326 hA hE3327 => o_ldR tb hA hS hE3327 rfl rfl rfl rfl rfl rfl fun a cs3328 hc3329 hA => ?_
  obtain ⟨A3330, c3331, rfl, hR3332⟩ := hc3329
  refine pr tb 1 hA rfl fun a hA => ?_
  obtain ⟨x3333, hx3334, hF⟩ := bind_some hF
  refine o_idxR tb hA hR3332 hx3334 rfl rfl rfl rfl rfl rfl rfl rfl fun a ad3335 hA hE3336 => o_ldR tb hA hS hE3336 rfl rfl rfl rfl rfl rfl fun a cs3337 hc3338 hA => ?_
  obtain ⟨rfl, hr3339, hr3340⟩ := hc3338
  refine o_alloc tb hA hS rfl rfl rfl fun a w g3342 p3343 hA hS hb3344 => o_st tb hA hS hb3344 rfl rfl (i := 0) rfl rfl rfl rfl rfl rfl rfl fun w p3345 hS hb3346 => wpList_nil (tn (wp_seq (rx (fun b w => St noX w0 w H (bif b then [p3345, p1757] else [p3345, p1757])) [] (.q true [0, 1, 2, 3, 4, 5, 6, 7, 8, 9, 10, 11, 12, 13, 14, 15, 16, 17, 18, 19, 20, 21, 22, 23, 24, 25, 26, 27, 28, 29, 30, 31, 32, 33, 34, 35, 36] .z) hmix (by decide +kernel) ?_)))
  have hS := hS.drew
  refine ⟨(hS.pickO (is := [some 0, some 1]) rfl (by decide)), ?_⟩
  refine qpr tb 1 hA rfl fun a hA => q_ld tb hA hb3346 rfl (i := 0) rfl rfl rfl rfl rfl rfl fun a hA => qpr tb 2 hA rfl fun a hA => ?_
  rcases ite_some hF with ⟨hc3389, hF⟩ | ⟨hc3389, hF⟩
  · have hA := hA.re (d := 85) rfl (congrArg Value.bool (decide_eq_true hc3389 : _ = true))
    refine qpr tb 33 hA rfl fun a hA => wpHold_nil (tn (cT hA rfl rfl (wp_seq (wp_region_lit (pr tb 1 hA rfl fun a hA => wpList_nil (tn (wp_ret (br (tr (tr ?_))))))))))
    obtain rfl := Option.some.inj hF
    have hF := congrArg some hgo3309
    refine br (tr ?_)
    obtain rfl := Option.some.inj hF
    have hF := hK3309
    refine br (tr (tr ?_))
    obtain rfl := Option.some.inj hF
    have hF := congrArg some hgo3095
    refine br (tr ?_)
    obtain rfl := Option.some.inj hF
    have hF := hK3095
    refine tr (b_ret hA (rs := [.tmp 2]) rfl (.tmp rfl .nil) ?_)
    obtain rfl := Option.some.inj hF
    exact ⟨rfl, hS.pick (is := []) rfl (by decide)⟩
  have hA := hA.re (d := 85) rfl (congrArg Value.bool (decide_eq_false hc3389 : _ = false))
  refine qpr tb 1 hA rfl fun a hA => q_ld tb hA hb3346 rfl (i := 0) rfl rfl rfl rfl rfl rfl fun a hA => qpr tb 3 hA rfl fun a hA => ?_
  rcases ite_some hF with ⟨hc3390, hF⟩ | ⟨hc3390, hF⟩
  · have hA := hA.re (d := 90) rfl (congrArg Value.bool (decide_eq_true hc3390 : _ = true))
    refine qpr tb 28 hA rfl fun a hA => wpHold_nil (tn (cT hA rfl rfl (wp_seq (wp_region_lit (pr tb 1 hA rfl fun a hA => wpList_nil (tn (wp_ret (br (tr (tr ?_))))))))))
    obtain rfl := Option.some.inj hF
    have hF := congrArg some hgo3309
    refine br (tr ?_)
    obtain rfl := Option.some.inj hF
    have hF := hK3309
    refine br (tr (tr ?_))
    obtain rfl := Option.some.inj hF
    have hF := congrArg some hgo3095
    refine br (tr ?_)
    obtain rfl := Option.some.inj hF
    have hF := hK3095
    refine tr (b_ret hA (rs := [.tmp 2]) rfl (.tmp rfl .nil) ?_)
    obtain rfl := Option.some.inj hF
    exact ⟨rfl, hS.pick (is := []) rfl (by decide)⟩
  have hA := hA.re (d := 90) rfl (congrArg Value.bool (decide_eq_false hc3390 : _ = false))
  refine qpr tb 1 hA rfl fun a hA => q_ld tb hA hb3346 rfl (i := 0) rfl rfl rfl rfl rfl rfl fun a hA => qpr tb 1 hA rfl fun a hA => q_ld tb hA hb1758 rfl (i := 1) rfl rfl rfl rfl rfl rfl fun a hA => qpr tb 6 hA rfl fun a hA => ?_
  rcases ite_some hF with ⟨hc3391, hF⟩ | ⟨hc3391, hF⟩
  · have hA := hA.re (d := 100) rfl (congrArg Value.bool (decide_eq_true hc3391 : _ = true))
    refine qpr tb 18 hA rfl fun a hA => wpHold_nil (tn (cT hA rfl rfl (wp_seq (wp_region_lit (pr tb 1 hA rfl fun a hA => wpList_nil (tn (wp_ret (br (tr (tr ?_))))))))))
    obtain rfl := Option.some.inj hF
    have hF := congrArg some hgo3309
    refine br (tr ?_)
    obtain rfl := Option.some.inj hF
    have hF := hK3309
    refine br (tr (tr ?_))
    obtain rfl := Option.some.inj hF
    have hF := congrArg some hgo3095
    refine br (tr ?_)
    obtain rfl := Option.some.inj hF
    have hF := hK3095
    refine tr (b_ret hA (rs := [.tmp 2]) rfl (.tmp rfl .nil) ?_)
    obtain rfl := Option.some.inj hF
    exact ⟨rfl, hS.pick (is := []) rfl (by decide)⟩
  have hA := hA.re (d := 100) rfl (congrArg Value.bool (decide_eq_false hc3391 : _ = false))
  refine qpr tb 3 hA rfl fun a hA => ?_
  rcases ite_some hF with ⟨hc3392, hF⟩ | ⟨hc3392, hF⟩
  rotate_left
  · have hA := hA.re (d := 103) rfl (congrArg Value.bool (decide_eq_false hc3392 : _ = false))
    refine qpr tb 15 hA rfl fun a hA => wpHold_nil (tn (cF hA rfl rfl (wp_skip (bn (tn (wp_region_lit (pr tb 3 hA rfl fun a hA => wpList_nil (tn ?_))))))))
    obtain rfl := Option.some.inj hF
    exact ⟨(w64 (s3311 + 1)), ⟨hA.sub ⟨rfl, rfl, rfl, trivial⟩, hS.pick (is := [1]) rfl (by decide), (inR_wrap _ _)⟩, hgo3309⟩
  have hA := hA.re (d := 103) rfl (congrArg Value.bool (decide_eq_true hc3392 : _ = true))
  refine qpr tb 1 hA rfl fun a hA => q_ld tb hA hb3346 rfl (i := 0) rfl rfl rfl rfl rfl rfl fun a hA => qpr tb 1 hA rfl fun a hA => q_ld tb hA hb1758 rfl (i := 1) rfl rfl rfl rfl rfl rfl fun a hA => qpr tb 1 hA rfl fun a hA => ?_
  obtain ⟨x3393, hx3394, hF⟩ := bind_some hF
  refine q_idxR tb hA h0_1 hx3394 rfl rfl rfl rfl rfl rfl rfl rfl fun a ad3395 hA hE3396 => q_ldR tb hA hE3396 rfl rfl rfl rfl rfl rfl fun a cs3397 hc3398 hA => ?_
  obtain ⟨A3399, c3400, rfl, hR3401⟩ := hc3398
  refine qpr tb 2 hA rfl fun a hA => ?_
  obtain ⟨x3402, hx3403, hF⟩ := bind_some hF
  refine q_idxR tb hA hR3401 hx3403 rfl rfl rfl rfl rfl rfl rfl rfl fun a ad3404 hA hE3405 => qpr tb 1 hA rfl fun a hA => ?_
  have hE3406 := hE3405.field efGTerm_Of
  refine q_ldR tb hA hE3406 rfl rfl rfl rfl rfl rfl fun a cs3407 hc3408 hA => ?_
  obtain ⟨rfl, hr3409⟩ := hc3408
  refine qpr tb 3 hA rfl fun a hA => wpHold_nil (tn ?_)
  rcases ite_some hF with ⟨hc3410, hF⟩ | ⟨hc3410, hF⟩
  rotate_left
  · refine cF hA rfl (decide_eq_false hc3410) (wp_skip (bn (tn (wp_region_lit (pr tb 3 hA rfl fun a hA => wpList_nil (tn ?_))))))
    obtain rfl := Option.some.inj hF
    exact ⟨(w64 (s3311 + 1)), ⟨hA.sub ⟨rfl, rfl, rfl, trivial⟩, hS.pick (is := [1]) rfl (by decide), (inR_wrap _ _)⟩, hgo3309⟩
  refine cT hA rfl (decide_eq_true hc3410) (wp_seq (wp_region_lit (pr tb 1 hA rfl fun a hA => wpList_nil (tn (wp_ret (br (tr (tr ?_))))))))
  obtain rfl := Option.some.inj hF
  have hF := congrArg some hgo3309
  refine br (tr ?_)
  obtain rfl := Option.some.inj hF
  have hF := hK3309
  refine br (tr (tr ?_))
  obtain rfl := Option.some.inj hF
  have hF := congrArg some hgo3095
  refine br (tr ?_)
  obtain rfl := Option.some.inj hF
  have hF := hK3095
  refine tr (b_ret hA (rs := [.tmp 2]) rfl (.tmp rfl .nil) ?_)
  obtain rfl := Option.some.inj hF
  exact ⟨rfl, hS.pick (is := []) rfl (by decide)⟩
theorem c_recoupref01_Mul {w0 : World} {H : PHeap} (hI : ∀ b o, H b = some o → w0.heap[b]? = some o) {x0 : Int} {x1 : Int} (hr0_0 : inR .u8 x0) (hr1_0 : inR .u8 x1) {r : Int} (hF : recoupref01_Mul x0 x1 = some r) :
    Calls Try.prog 46 [Value.int .u8 x0, Value.int .u8 x1].toArray w0 (Ret (fun v w => v = Value.int .u8 r ∧ St noX w0 w H [] ∧ inR .u8 r)) := by
  have hS := St.start hI noX
  unfold recoupref01_Mul at hF
  refine enter fi46.hfn rfl rfl rfl fun a hA => wp_seq (wp_region_lit (pr tb 1 hA rfl fun a hA => wpList_nil (tn (wp_seq (wp_region_lit (pr tb 1 hA rfl fun a hA => wpList_nil (tn (wp_seq (wp_seq ?_)))))))))
  refine wp_region_lit (pr tb 1 hA rfl fun a hA => wpList_nil (tn ?_))
  obtain ⟨o65, hx65, hK65⟩ := bind_some hF
  refine wp_cut1 (fun a w => Fr (43, []) a [(5, Value.int .i64 o65)] ∧ St noX w0 w H [] ∧ inR .i64 o65) ?_ ?_
  · have hF := hx65
    refine wp_block ?_
    have hbd65 : ((8 : Int)).toNat ≤ 9223372036854775807 := (by decide)
    refine wp_for0 (n := ((8 : Int)).toNat) (s0 := ((0 : Int))) (fun (i66 : Nat) (s67 : Int) a w => Fr (43, []) a [(0, Value.int .u8 x0), (1, Value.int .u8 x1), (5, Value.int .i64 s67), (6, Value.int .i64 (i66 : Int))] ∧ St noX w0 w H [] ∧ inR .i64 s67) hF ⟨hA.sub ⟨rfl, rfl, rfl, rfl, trivial⟩, hS, (inR_c rfl)⟩ ?_
    rintro After65 i66 s67 a w ⟨hA, hS, hr69⟩ hin65 hst65 hge65
    rcases Nat.lt_or_ge i66 (((8 : Int)).toNat) with hlt65 | hgt65
    rotate_left
    · have hF := congrArg some (hge65 hgt65)
      refine wp_seq (wp_seq (wp_region_lit (pr tb 2 hA rfl fun a hA => wpList_nil (tn (cF hA rfl (decide_eq_false (show ¬ ((i66 : Int) < (8 : Int)) by omega)) (wp_exit (te (te (be (tn ?_))))))))))
      obtain rfl := Option.some.inj hF
      exact ⟨hA.sub ⟨rfl, trivial⟩, hS, hr69⟩
    obtain ⟨cc65, hF, hgo65⟩ := hst65 hlt65
    refine wp_seq (wp_seq (wp_region_lit (pr tb 2 hA rfl fun a hA => wpList_nil (tn (cT hA rfl (decide_eq_true (show (i66 : Int) < (8 : Int) by omega)) (wp_skip (tn (wp_seq (wp_block (wp_seq (wp_region_lit ?_)))))))))))
    refine pr tb 3 hA rfl fun a hA => o_shr hA rfl rfl (inR_pos (inR_wrap _ _) (by decide)) rfl rfl fun a hA => pr tb 2 hA rfl fun a hA => wpList_nil (tn ?_)
    rcases ite_some hF with ⟨hc70, hF⟩ | ⟨hc70, hF⟩
    rotate_left
    · refine cF hA rfl (decide_eq_false hc70) (wp_skip (bn (tn (wp_region_lit (pr tb 3 hA rfl fun a hA => wpList_nil (tn ?_))))))
      obtain rfl := Option.some.inj hF
      have hA := hA.re (d := 6) rfl (congrArg (Value.int .i64) (w64_succ hlt65 hbd65))
      exact ⟨(s67), ⟨hA.sub ⟨rfl, rfl, rfl, rfl, trivial⟩, hS, hr69⟩, hlt65, hgo65⟩
    refine cT hA rfl (decide_eq_true hc70) (wp_region_lit (pr tb 3 hA rfl fun a hA => ?_))
    have hA := hA.re (d := 20) rfl (congrArg (Value.int .i64) (wrap_up hr0_0 (by decide) (by decide)))
    refine pr tb 2 hA rfl fun a hA => o_shl hA rfl rfl (inR_pos (inR_wrap _ _) (by decide)) rfl rfl fun a hA => pr tb 2 hA rfl fun a hA => wpList_nil (bn (tn (wp_region_lit (pr tb 3 hA rfl fun a hA => wpList_nil (tn ?_)))))
    obtain rfl := Option.some.inj hF
    have hA := hA.re (d := 6) rfl (congrArg (Value.int .i64) (w64_succ hlt65 hbd65))
    exact ⟨(bXor .i64 s67 (shlI .i64 x0 (IntKind.wrap .u64 ((i66 : Int))))), ⟨hA.sub ⟨rfl, rfl, rfl, rfl, trivial⟩, hS, (inR_wrap _ _)⟩, hlt65, hgo65⟩
  rintro a w ⟨hA, hS, hr68⟩
  have hF := hK65
  refine tn (wp_seq (wp_seq (wp_region_lit (pr tb 1 hA rfl fun a hA => wpList_nil (tn ?_)))))
  obtain ⟨o81, hx81, hK81⟩ := bind_some hF
  refine wp_cut1 (fun a w => Fr (43, []) a [(5, Value.int .i64 o81)] ∧ St noX w0 w H [] ∧ inR .i64 o81) ?_ ?_
  rotate_left
  · rintro a w ⟨hA, hS, hr84⟩
    have hF := hK81
    refine tn (wp_seq (wp_region_lit (pr tb 3 hA rfl fun a hA => wpList_nil (tn (wp_ret (b_ret hA (rs := [.tmp 4]) rfl (.tmp rfl .nil) ?_))))))
    obtain rfl := Option.some.inj hF
    exact ⟨rfl, hS, (inR_wrap _ _)⟩
  have hF := hx81
  refine wp_block (wp_iter (s0 := (o65, (14 : Int))) (fun (s83 : Int × Int) a w => Fr (43, []) a [(5, Value.int .i64 s83.1), (7, Value.int .i64 s83.2)] ∧ St noX w0 w H [] ∧ inR .i64 s83.1 ∧ inR .i64 s83.2) hF ⟨hA.sub ⟨rfl, rfl, trivial⟩, hS, hr68, (inR_c rfl)⟩ ?_)
  rintro After81 s83 a w ⟨hA, hS, hr85, hr86⟩ ⟨cc81, hF, hgo81⟩
  refine wp_seq (wp_seq (wp_region_lit (pr tb 2 hA rfl fun a hA => wpList_nil (tn ?_))))
  rcases ite_some hF with ⟨hc87, hF⟩ | ⟨hc87, hF⟩
  rotate_left
  · refine cF hA rfl (decide_eq_false hc87) (wp_exit (te (te ?_)))
    obtain rfl := Option.some.inj hF
    have hF := congrArg some hgo81
    refine be (tn ?_)
    obtain rfl := Option.some.inj hF
    exact ⟨hA.sub ⟨rfl, trivial⟩, hS, hr85⟩
  refine cT hA rfl (decide_eq_true hc87) (wp_skip (tn (wp_seq (wp_block (wp_seq (wp_region_lit (pr tb 3 hA rfl fun a hA => o_shr hA rfl rfl (inR_pos (inR_wrap _ _) (by decide)) rfl rfl fun a hA => pr tb 2 hA rfl fun a hA => wpList_nil (tn ?_))))))))
  rcases ite_some hF with ⟨hc88, hF⟩ | ⟨hc88, hF⟩
  rotate_left
  · refine cF hA rfl (decide_eq_false hc88) (wp_skip (bn (tn (wp_region_lit (pr tb 3 hA rfl fun a hA => wpList_nil (tn ?_))))))
    obtain rfl := Option.some.inj hF
    exact ⟨(s83.1, w64 (s83.2 - 1)), ⟨hA.sub ⟨rfl, rfl, trivial⟩, hS, hr85, (inR_wrap _ _)⟩, hgo81⟩
  refine cT hA rfl (decide_eq_true hc88) (wp_region_lit (pr tb 4 hA rfl fun a hA => o_shl hA rfl rfl (inR_pos (inR_wrap _ _) (by decide)) rfl rfl fun a hA => pr tb 2 hA rfl fun a hA => wpList_nil (bn (tn (wp_region_lit (pr tb 3 hA rfl fun a hA => wpList_nil (tn ?_)))))))
  obtain rfl := Option.some.inj hF
  exact ⟨(bXor .i64 s83.1 (shlI .i64 285 (IntKind.wrap .u64 (w64 (s83.2 - 8)))), w64 (s83.2 - 1)), ⟨hA.sub ⟨rfl, rfl, trivial⟩, hS, (inR_wrap _ _), (inR_wrap _ _)⟩, hgo81⟩
theorem c_recoupref01_Mac {w0 : World} {H : PHeap} (hI : ∀ b o, H b = some o → w0.heap[b]? = some o) {x0 : List Int} {x1 : Int} {x2 : List Int} {A0_0 : Option Addr} {c0_0 : Nat} (h0_0 : RdS (eInt .u8 1) H A0_0 c0_0 x0) (hr1_0 : inR .u8 x1) {A2_0 : Option Addr} {c2_0 : Nat} (h2_0 : RdS (eInt .u8 1) H A2_0 c2_0 x2) {r : List Int × Int} (hF : recoupref01_Mac x0 x1 x2 = some r) :
    Calls Try.prog 27 [Value.slice A0_0 (x0).length c0_0, Value.int .u8 x1, Value.slice A2_0 (x2).length c2_0].toArray w0 (Ret (fun v w => ∃ (A0 : Option Addr) (c0 : Nat) (p0 : Piece), v = Value.tuple #[Value.slice A0 (r.1).length c0, Value.int .i64 r.2] ∧ St noX w0 w H [p0] ∧ OwnS (eInt .u8 1) 5 H A0 c0 r.1 p0 ∧ inR .i64 r.2)) := by
  have hS := St.start hI noX
  unfold recoupref01_Mac at hF
  refine enter fi27.hfn rfl rfl rfl fun a hA => wp_seq (wp_region_lit (pr tb 2 hA rfl fun a hA => wpList_nil (tn (wp_seq (wp_seq (wp_region_lit (pr tb 5 hA rfl fun a hA => wpList_nil (tn ?_))))))))
  rcases ite_some hF with ⟨hc334, hF⟩ | ⟨hc334, hF⟩
  rotate_left
  · refine cT hA rfl (nt_of (decide_eq_false hc334)) (wp_seq (wp_region_lit (pr tb 2 hA rfl fun a hA => wpList_nil (tn (wp_ret (tr (b_ret hA (rs := [.tmp 6, .tmp 7]) rfl (.tmp rfl (.tmp rfl .nil)) ?_)))))))
    obtain rfl := Option.some.inj hF
    have hS := hS.nil'
    exact ⟨_, _, _, rfl, hS, OwnS.nil, (inR_c rfl)⟩
  refine cF hA rfl (nf_of (decide_eq_true hc334)) (wp_skip (tn (wp_seq (wp_region_lit (pr tb 1 hA rfl fun a hA => wpList_nil (tn (wp_seq (wp_seq (wp_region_lit (pr tb 1 hA rfl fun a hA => wpList_nil ?_))))))))))
  refine tn ?_
  obtain ⟨o551, hx551, hK551⟩ := bind_some hF
  refine wp_cut1 (fun a w => ∃ (A554 : Option Addr) (c555 : Nat) (p556 : Piece), Fr (36, []) a [(8, Value.slice A554 (o551).length c555)] ∧ St noX w0 w H [p556] ∧ OwnS (eInt .u8 1) 5 H A554 c555 (o551) p556) ?_ ?_
  rotate_left
  · rintro a w ⟨A554, c555, p556, hA, hS, hO557⟩
    have hF := hK551
    refine tn (wp_seq (wp_region_lit (pr tb 3 hA rfl fun a hA => wpList_nil (tn (wp_ret (b_ret hA (rs := [.tmp 6, .tmp 7]) rfl (.tmp rfl (.tmp rfl .nil)) ?_))))))
    obtain rfl := Option.some.inj hF
    exact ⟨_, _, _, rfl, hS, hO557, (inR_c rfl)⟩
  have hF := hx551
  refine wp_block ?_
  have hbd551 : (x2).length ≤ 9223372036854775807 := (Nat.le_trans (h2_0.len rfl) (by decide))
  have hS := hS.nil'
  refine wp_for0 (n := (x2).length) (s0 := (([] : List Int))) (fun (i552 : Nat) (s553 : List Int) a w => ∃ (A559 : Option Addr) (c560 : Nat) (p561 : Piece), Fr (36, []) a [(0, Value.slice A0_0 (x0).length c0_0), (1, Value.int .u8 x1), (2, Value.slice A2_0 (x2).length c2_0), (8, Value.slice A559 (s553).length c560), (9, Value.int .i64 (i552 : Int))] ∧ St noX w0 w H [p561] ∧ OwnS (eInt .u8 1) 5 H A559 c560 (s553) p561) hF ⟨_, _, _, hA.sub ⟨rfl, rfl, rfl, rfl, rfl, trivial⟩, hS, OwnS.nil⟩ ?_
  rintro After551 i552 s553 a w ⟨A559, c560, p561, hA, hS, hO562⟩ hin551 hst551 hge551
  rcases Nat.lt_or_ge i552 ((x2).length) with hlt551 | hgt551
  rotate_left
  · have hF := congrArg some (hge551 hgt551)
    refine wp_seq (wp_seq (wp_region_lit (pr tb 4 hA rfl fun a hA => wpList_nil (tn (cF hA rfl (decide_eq_false (show ¬ ((i552 : Int) < ((x2).length : Int)) by omega)) (wp_exit (te (te (be (tn ?_))))))))))
    obtain rfl := Option.some.inj hF
    exact ⟨_, _, _, hA.sub ⟨rfl, trivial⟩, hS, hO562⟩
  obtain ⟨cc551, hF, hgo551⟩ := hst551 hlt551
  refine wp_seq (wp_seq (wp_region_lit (pr tb 4 hA rfl fun a hA => wpList_nil (tn (cT hA rfl (decide_eq_true (show (i552 : Int) < ((x2).length : Int) by omega)) (wp_skip (tn (wp_seq (wp_block (rx (fun b w => St noX w0 w H (bif b then [emp] else [emp])) [] (.q true [0, 1, 2, 3, 4, 5, 6, 7, 8, 9] (.e 10 (.q true [11] (.e 12 (.e 13 (.q true [14] .z)))))) hmix (by decide +kernel) ?_))))))))))
  have hS := hS.drew
  refine ⟨(hS.pickO (is := [none]) rfl (by decide)), ?_⟩
  refine qpr tb 3 hA rfl fun a hA => ?_
  obtain ⟨x633, hx634, hF⟩ := bind_some hF
  refine q_idxR tb hA h0_0 hx634 rfl rfl rfl rfl rfl rfl rfl rfl fun a ad635 hA hE636 => q_ldR tb hA hE636 rfl rfl rfl rfl rfl rfl fun a cs637 hc638 hA => ?_
  obtain ⟨rfl, hr639⟩ := hc638
  refine qpr tb 3 hA rfl fun a hA => ?_
  obtain ⟨x640, hx641, hF⟩ := bind_some hF
  refine q_idxR tb hA h2_0 hx641 rfl rfl rfl rfl rfl rfl rfl rfl fun a ad642 hA hE643 => q_ldR tb hA hE643 rfl rfl rfl rfl rfl rfl fun a cs644 hc645 hA => ?_
  obtain ⟨rfl, hr646⟩ := hc645
  refine wpHold_nil ?_
  obtain ⟨r647, hx648, hF⟩ := bind_some hF
  refine o_call1 hA fi46 rfl rfl rfl rfl (c_recoupref01_Mul (x0 := x1) (x1 := x640) hS.imm hr1_0 hr646 hx648) fun a w v653 hres hA => ?_
  obtain ⟨rfl, hS649, hr652⟩ := hres
  have hS := hS.callL hS649 (PHeap.le.refl _)
  refine wpList_nil (tn (⟨⟨fun _ => (hS.pickO (is := [none]) rfl (by decide)), fun _ _ => (hS.pickO (is := [none]) rfl (by decide))⟩, ?_⟩))
  refine ⟨(hS.pickO (is := [none]) rfl (by decide)), ?_⟩
  refine qpr tb 1 hA rfl fun a hA => wpHold_nil (o_bsl (e := (eInt .u8 1)) (xs := ([bXor .u8 x633 r647] : List Int)) tb hA hS rfl rfl rfl (.cons ⟨rfl, (inR_wrap _ _)⟩ .nil) rfl rfl rfl rfl rfl rfl rfl rfl rfl fun a w A654 p655 hA hS hO656 hN658 => wpList_nil (tn (⟨⟨fun _ => (hS.pickO (is := [none]) rfl (by decide)), fun _ _ => (hS.pickO (is := [none]) rfl (by decide))⟩, ?_⟩)))
  obtain ⟨z659, hz660, hF⟩ := bind_some hF
  refine o_app (e := (eInt .u8 1)) tb hA hS hO562 (k := 1) rfl (hO656.src hS (i := 0) rfl) hz660 rfl rfl rfl rfl rfl rfl rfl rfl rfl rfl rfl rfl rfl fun a w A661 c662 p663 hA hS hO664 hN666 => wpList_nil (tn (⟨⟨fun _ => (hS.pickO (is := [none]) rfl (by decide)), fun _ _ => (hS.pickO (is := [none]) rfl (by decide))⟩, ?_⟩))
  refine ⟨(hS.pickO (is := [none]) rfl (by decide)), ?_⟩
  refine qpr tb 1 hA rfl fun a hA => wpHold_nil (bn (tn (wp_region_lit (pr tb 3 hA rfl fun a hA => wpList_nil (tn ?_)))))
  obtain rfl := Option.some.inj hF
  have hA := hA.re (d := 9) rfl (congrArg (Value.int .i64) (w64_succ hlt551 hbd551))
  exact ⟨(z659), ⟨_, _, _, hA.sub ⟨rfl, rfl, rfl, rfl, rfl, trivial⟩, hS.pick (is := [1]) rfl (by decide), hO664⟩, hlt551, hgo551⟩
theorem c_recoupref21_Run {w0 : World} {H : PHeap} (hI : ∀ b o, H b = some o → w0.heap[b]? = some o) {x0 : GFlow} {x1 : List (List Int)} {A0_0 : Option Addr} {c0_0 : Nat} (h0_0 : RdS (eInt .i64 8) H A0_0 c0_0 x0.Inputs) {A0_1 : Option Addr} {c0_1 : Nat} (h0_1 : RdS (eSl eGTerm) H A0_1 c0_1 x0.Nodes) {A0_2 : Option Addr} {c0_2 : Nat} (h0_2 : RdS (eInt .i64 8) H A0_2 c0_2 x0.Outs) {A1_0 : Option Addr} {c1_0 : Nat} (h1_0 : RdS (eSl (eInt .u8 1)) H A1_0 c1_0 x1) {r : List (List Int) × Int} (hF : recoupref21_Run x0 x1 = some r) :
    Calls Try.prog 13 [Value.agg #[Value.slice A0_0 (x0.Inputs).length c0_0, Value.slice A0_1 (x0.Nodes).length c0_1, Value.slice A0_2 (x0.Outs).length c0_2], Value.slice A1_0 (x1).length c1_0].toArray w0 (Ret (fun v w => ∃ (A0 : Option Addr) (c0 : Nat) (p0 : Piece), v = Value.tuple #[Value.slice A0 (r.1).length c0, Value.int .i64 r.2] ∧ St noX w0 w H [p0] ∧ OwnD (roP (eInt .u8 1) 5) 27 H A0 c0 r.1 p0 ∧ inR .i64 r.2)) := by
  have hS := St.start hI noX
  unfold recoupref21_Run at hF
  refine enter fi13.hfn rfl rfl rfl fun a hA => wp_seq (wp_region_lit (o_box hA hS rfl rfl rfl fun a w g4620 p4621 hA hS hb4622 => pr tb 2 hA rfl fun a hA => wpList_nil (tn (wp_seq (wp_seq (wp_region_lit (o_ld tb hA hS hb4622 rfl (i := 0) rfl rfl rfl rfl rfl rfl fun a hA => ?_)))))))
  obtain ⟨r4623, hx4624, hF⟩ := bind_some hF
  refine o_call1 hA fi19 rfl rfl rfl rfl (c_recoupref21_May (x0 := x0) hS.imm h0_0 h0_1 h0_2 hx4624) fun a w v4628 hres hA => ?_
  obtain ⟨rfl, hS4625⟩ := hres
  have hS := hS.callL hS4625 (PHeap.le.refl _)
  refine pr tb 1 hA rfl fun a hA => wpList_nil (tn ?_)
  rcases ite_some hF with ⟨hc4629, hF⟩ | ⟨hc4629, hF⟩
  rotate_left
  · refine cT hA rfl (nt_of (ff_of hc4629)) (wp_seq (wp_region_lit (pr tb 2 hA rfl fun a hA => wpList_nil (tn (wp_ret (tr (b_ret hA (rs := [.tmp 4, .tmp 5]) rfl (.tmp rfl (.tmp rfl .nil)) ?_)))))))
    obtain rfl := Option.some.inj hF
    have hS := hS.nil'
    exact ⟨_, _, _, rfl, hS.pick (is := [0]) rfl (by decide), OwnD.nil, (inR_c rfl)⟩
  refine cF hA rfl (nf_of (hc4629)) (wp_skip (tn (wp_seq (wp_region_lit (pr tb 1 hA rfl fun a hA => wpList_nil (tn (wp_seq (wp_seq (wp_region_lit (pr tb 1 hA rfl fun a hA => wpList_nil ?_))))))))))
  refine tn ?_
  obtain ⟨o4741, hx4741, hK4741⟩ := bind_some hF
  refine wp_cut1 (fun a w => ∃ (s4744 : Int), o4741 = .fall s4744 ∧ Fr (131, []) a [(1, Value.slice A1_0 (x1).length c1_0), (2, Value.pointer (some ⟨g4620, 0, none⟩)), (6, Value.int .i64 s4744)] ∧ St noX w0 w H [p4621] ∧ inR .i64 s4744) ?_ ?_
  · have hF := hx4741
    refine wp_block ?_
    have hbd4741 : (x1).length ≤ 9223372036854775807 := (Nat.le_trans (h1_0.len rfl) (by decide))
    refine wp_for0 (n := (x1).length) (s0 := ((0 : Int))) (fun (i4742 : Nat) (s4743 : Int) a w => Fr (131, []) a [(1, Value.slice A1_0 (x1).length c1_0), (2, Value.pointer (some ⟨g4620, 0, none⟩)), (6, Value.int .i64 s4743), (7, Value.int .i64 (i4742 : Int))] ∧ St noX w0 w H [p4621] ∧ inR .i64 s4743) hF ⟨hA.sub ⟨rfl, rfl, rfl, rfl, trivial⟩, hS, (inR_c rfl)⟩ ?_
    rintro After4741 i4742 s4743 a w ⟨hA, hS, hr4746⟩ hin4741 hst4741 hge4741
    rcases Nat.lt_or_ge i4742 ((x1).length) with hlt4741 | hgt4741
    rotate_left
    · have hF := congrArg some (hge4741 hgt4741)
      refine wp_seq (wp_seq (wp_region_lit (pr tb 4 hA rfl fun a hA => wpList_nil (tn (cF hA rfl (decide_eq_false (show ¬ ((i4742 : Int) < ((x1).length : Int)) by omega)) (wp_exit (te (te (be (tn ?_))))))))))
      obtain rfl := Option.some.inj hF
      exact ⟨(s4743), rfl, hA.sub ⟨rfl, rfl, rfl, trivial⟩, hS, hr4746⟩
    obtain ⟨cc4741, hF, hgo4741⟩ := hst4741 hlt4741
    refine wp_seq (wp_seq (wp_region_lit (pr tb 4 hA rfl fun a hA => wpList_nil (tn (cT hA rfl (decide_eq_true (show (i4742 : Int) < ((x1).length : Int) by omega)) (wp_skip (tn (wp_seq (wp_block (wp_seq (wp_region_lit ?_)))))))))))
    refine pr tb 1 hA rfl fun a hA => ?_
    obtain ⟨x4747, hx4748, hF⟩ := bind_some hF
    refine o_idxR tb hA h1_0 hx4748 rfl rfl rfl rfl rfl rfl rfl rfl fun a ad4749 hA hE4750 => o_ldR tb hA hS hE4750 rfl rfl rfl rfl rfl rfl fun a cs4751 hc4752 hA => ?_
    obtain ⟨A4753, c4754, rfl, hR4755⟩ := hc4752
    refine pr tb 2 hA rfl fun a hA => wpList_nil (tn (wp_seq (wp_region_lit (pr tb 2 hA rfl fun a hA => ?_))))
    obtain ⟨x4756, hx4757, hF⟩ := bind_some hF
    refine o_idxR tb hA h1_0 hx4757 rfl rfl rfl rfl rfl rfl rfl rfl fun a ad4758 hA hE4759 => o_ldR tb hA hS hE4759 rfl rfl rfl rfl rfl rfl fun a cs4760 hc4761 hA => ?_
    obtain ⟨A4762, c4763, rfl, hR4764⟩ := hc4761
    refine pr tb 3 hA rfl fun a hA => wpList_nil (tn ?_)
    rcases ite_some hF with ⟨hc4765, hF⟩ | ⟨hc4765, hF⟩
    · refine cF hA rfl (nf_of (decide_eq_true hc4765)) (wp_skip (bn (tn (wp_region_lit (pr tb 3 hA rfl fun a hA => wpList_nil (tn ?_))))))
      obtain rfl := Option.some.inj hF
      have hA := hA.re (d := 7) rfl (congrArg (Value.int .i64) (w64_succ hlt4741 hbd4741))
      exact ⟨(((x4747).length : Int)), ⟨hA.sub ⟨rfl, rfl, rfl, rfl, trivial⟩, hS, (inR_nat (Nat.le_trans (hR4755.len rfl) (by decide)))⟩, hlt4741, hgo4741⟩
    refine cT hA rfl (nt_of (decide_eq_false hc4765)) (wp_seq (wp_region_lit (pr tb 2 hA rfl fun a hA => wpList_nil (tn (wp_ret (br (tr (tr ?_))))))))
    obtain rfl := Option.some.inj hF
    have hF := congrArg some hgo4741
    refine br (tr ?_)
    obtain rfl := Option.some.inj hF
    have hF := hK4741
    refine tr (b_ret hA (rs := [.tmp 4, .tmp 5]) rfl (.tmp rfl (.tmp rfl .nil)) ?_)
    obtain rfl := Option.some.inj hF
    have hS := hS.nil'
    exact ⟨_, _, _, rfl, hS.pick (is := [0]) rfl (by decide), OwnD.nil, (inR_c rfl)⟩
  rintro a w ⟨s4744, rfl, hA, hS, hr4745⟩
  have hF := hK4741
  refine tn (wp_seq (wp_region_lit (pr tb 1 hA rfl fun a hA => wpList_nil (tn (wp_seq (wp_seq (wp_region_lit (pr tb 1 hA rfl fun a hA => wpList_nil (tn ?_)))))))))
  obtain ⟨o5047, hx5047, hK5047⟩ := bind_some hF
  refine wp_cut1 (fun a w => ∃ (s5050 : List (List Int)), o5047 = .fall s5050 ∧ ∃ (A5051 : Option Addr) (c5052 : Nat) (p5053 : Piece), Fr (131, []) a [(2, Value.pointer (some ⟨g4620, 0, none⟩)), (6, Value.int .i64 s4744), (8, Value.slice A5051 (s5050).length c5052)] ∧ St noX w0 w H [p5053, p4621] ∧ OwnD (roP (eInt .u8 1) 5) 27 H A5051 c5052 (s5050) p5053) ?_ ?_
  · have hF := hx5047
    refine wp_block ?_
    have hbd5047 : (x0.Inputs).length ≤ 9223372036854775807 := (Nat.le_trans (h0_0.len rfl) (by decide))
    have hS := hS.nil'
    refine wp_for0 (n := (x0.Inputs).length) (s0 := (([] : List (List Int)))) (fun (i5048 : Nat) (s5049 : List (List Int)) a w => ∃ (A5056 : Option Addr) (c5057 : Nat) (p5058 : Piece), Fr (131, []) a [(1, Value.slice A1_0 (x1).length c1_0), (2, Value.pointer (some ⟨g4620, 0, none⟩)), (6, Value.int .i64 s4744), (8, Value.slice A5056 (s5049).length c5057), (9, Value.int .i64 (i5048 : Int))] ∧ St noX w0 w H [p5058, p4621] ∧ OwnD (roP (eInt .u8 1) 5) 27 H A5056 c5057 (s5049) p5058) hF ⟨_, _, _, hA.sub ⟨rfl, rfl, rfl, rfl, rfl, trivial⟩, hS, OwnD.nil⟩ ?_
    rintro After5047 i5048 s5049 a w ⟨A5056, c5057, p5058, hA, hS, hO5059⟩ hin5047 hst5047 hge5047
    rcases Nat.lt_or_ge i5048 ((x0.Inputs).length) with hlt5047 | hgt5047
    rotate_left
    · have hF := congrArg some (hge5047 hgt5047)
      refine wp_seq (wp_seq (wp_region_lit (pr tb 2 hA rfl fun a hA => o_ld tb hA hS hb4622 rfl (i := 1) rfl rfl rfl rfl rfl rfl fun a hA => pr tb 2 hA rfl fun a hA => wpList_nil (tn (cF hA rfl (decide_eq_false (show ¬ ((i5048 : Int) < ((x0.Inputs).length : Int)) by omega)) (wp_exit (te (te (be ?_)))))))))
      refine tn ?_
      obtain rfl := Option.some.inj hF
      exact ⟨(s5049), rfl, _, _, _, hA.sub ⟨rfl, rfl, rfl, trivial⟩, hS, hO5059⟩
    obtain ⟨cc5047, hF, hgo5047⟩ := hst5047 hlt5047
    refine wp_seq (wp_seq (wp_region_lit (pr tb 2 hA rfl fun a hA => o_ld tb hA hS hb4622 rfl (i := 1) rfl rfl rfl rfl rfl rfl fun a hA => pr tb 2 hA rfl fun a hA => wpList_nil (tn (cT hA rfl (decide_eq_true (show (i5048 : Int) < ((x0.Inputs).length : Int) by omega)) (wp_skip (tn (wp_seq (wp_block ?_)))))))))
    refine wp_seq (wp_seq (wp_region_lit (pr tb 1 hA rfl fun a hA => o_ld tb hA hS hb4622 rfl (i := 1) rfl rfl rfl rfl rfl rfl fun a hA => pr tb 1 hA rfl fun a hA => ?_)))
    obtain ⟨x5062, hx5063, hF⟩ := bind_some hF
    refine o_idxR tb hA h0_0 hx5063 rfl rfl rfl rfl rfl rfl rfl rfl fun a ad5064 hA hE5065 => o_ldR tb hA hS hE5065 rfl rfl rfl rfl rfl rfl fun a cs5066 hc5067 hA => ?_
    obtain ⟨rfl, hr5068⟩ := hc5067
    refine pr tb 3 hA rfl fun a hA => wpList_nil (tn ?_)
    rcases ite_some hF with ⟨hc5069, hF⟩ | ⟨hc5069, hF⟩
    · refine cT hA rfl (decide_eq_true hc5069) (wp_seq (wp_region_lit (pr tb 2 hA rfl fun a hA => wpList_nil (tn (wp_ret (tr (br (tr (tr ?_)))))))))
      obtain rfl := Option.some.inj hF
      have hF := congrArg some hgo5047
      refine br (tr ?_)
      obtain rfl := Option.some.inj hF
      have hF := hK5047
      refine tr (b_ret hA (rs := [.tmp 4, .tmp 5]) rfl (.tmp rfl (.tmp rfl .nil)) ?_)
      obtain rfl := Option.some.inj hF
      have hS := hS.nil'
      exact ⟨_, _, _, rfl, hS.pick (is := [0]) rfl (by decide), OwnD.nil, (inR_c rfl)⟩
    refine cF hA rfl (decide_eq_false hc5069) (wp_skip (tn (wp_region_lit (pr tb 3 hA rfl fun a hA => o_ld tb hA hS hb4622 rfl (i := 1) rfl rfl rfl rfl rfl rfl fun a hA => pr tb 1 hA rfl fun a hA => ?_))))
    obtain ⟨x5071, hx5072, hF⟩ := bind_some hF
    refine o_idxR tb hA h0_0 hx5072 rfl rfl rfl rfl rfl rfl rfl rfl fun a ad5073 hA hE5074 => o_ldR tb hA hS hE5074 rfl rfl rfl rfl rfl rfl fun a cs5075 hc5076 hA => ?_
    obtain ⟨rfl, hr5077⟩ := hc5076
    obtain ⟨x5078, hx5079, hF⟩ := bind_some hF
    refine o_idxR tb hA h1_0 hx5079 rfl rfl rfl rfl rfl rfl rfl rfl fun a ad5080 hA hE5081 => o_ldR tb hA hS hE5081 rfl rfl rfl rfl rfl rfl fun a cs5082 hc5083 hA => ?_
    obtain ⟨A5084, c5085, rfl, hR5086⟩ := hc5083
    obtain ⟨r5087, hx5088, hF⟩ := bind_some hF
    refine o_call1 hA fi22 rfl rfl rfl rfl (c_recoupref01_Copy (x0 := x5078) hS.imm hR5086 hx5088) fun a w v5097 hres hA => ?_
    obtain ⟨A5092, c5093, p5094, rfl, hS5089, hO5095⟩ := hres
    have hS := hS.callL hS5089 (PHeap.le.refl _)
    refine o_bsl (e := eHd) (xs := [((A5092, (r5087).length, c5093) : Hd)]) tb hA hS rfl rfl rfl (.cons rfl .nil) rfl rfl rfl rfl rfl rfl rfl rfl rfl fun a w A5098 p5099 hA hS hO5100 hN5102 => ?_
    obtain ⟨z5103, hz5104, hF⟩ := bind_some hF
    refine o_appD (ro := (roP (eInt .u8 1) 5)) (b := r5087) (h := ((A5092, (r5087).length, c5093) : Hd)) tb hA hS hO5059 (k := 2) (k2 := 1) (k3 := 0) rfl hO5100 rfl ⟨rfl, hO5095⟩ rfl rfl rfl hz5104 rfl rfl rfl rfl rfl rfl rfl rfl rfl rfl rfl rfl fun a w A5105 c5106 p5107 hA hS hO5108 hN5110 => pr tb 1 hA rfl fun a hA => wpList_nil (bn (tn (wp_region_lit (pr tb 3 hA rfl fun a hA => wpList_nil (tn ?_)))))
    obtain rfl := Option.some.inj hF
    have hA := hA.re (d := 9) rfl (congrArg (Value.int .i64) (w64_succ hlt5047 hbd5047))
    exact ⟨(z5103), ⟨_, _, _, hA.sub ⟨rfl, rfl, rfl, rfl, rfl, trivial⟩, hS.pick (is := [2, 3]) rfl (by decide), hO5108⟩, hlt5047, hgo5047⟩
  rintro a w ⟨s5050, rfl, A5051, c5052, p5053, hA, hS, hO5054⟩
  have hF := hK5047
  refine tn (wp_seq (wp_seq (wp_region_lit (pr tb 1 hA rfl fun a hA => wpList_nil (tn ?_)))))
  obtain ⟨o8408, hx8408, hK8408⟩ := bind_some hF
  refine wp_cut1 (fun a w => ∃ (A8411 : Option Addr) (c8412 : Nat) (p8413 : Piece), Fr (131, []) a [(2, Value.pointer (some ⟨g4620, 0, none⟩)), (8, Value.slice A8411 (o8408).length c8412)] ∧ St noX w0 w H [p8413, p4621] ∧ OwnD (roP (eInt .u8 1) 5) 27 H A8411 c8412 (o8408) p8413) ?_ ?_
  rotate_left
  · rintro a w ⟨A8411, c8412, p8413, hA, hS, hO8414⟩
    have hF := hK8408
    refine tn (wp_seq (wp_region_lit (pr tb 1 hA rfl fun a hA => wpList_nil (tn (wp_seq (wp_seq (wp_region_lit (pr tb 1 hA rfl fun a hA => wpList_nil (tn ?_)))))))))
    obtain ⟨o9178, hx9178, hK9178⟩ := bind_some hF
    refine wp_cut1 (fun a w => ∃ (A9181 : Option Addr) (c9182 : Nat) (p9183 : Piece), Fr (131, []) a [(13, Value.slice A9181 (o9178).length c9182)] ∧ St noX w0 w H [p9183] ∧ OwnD (roP (eInt .u8 1) 5) 27 H A9181 c9182 (o9178) p9183) ?_ ?_
    rotate_left
    · rintro a w ⟨A9181, c9182, p9183, hA, hS, hO9184⟩
      have hF := hK9178
      refine tn (wp_seq (wp_region_lit (pr tb 3 hA rfl fun a hA => wpList_nil (tn (wp_ret (b_ret hA (rs := [.tmp 4, .tmp 5]) rfl (.tmp rfl (.tmp rfl .nil)) ?_))))))
      obtain rfl := Option.some.inj hF
      exact ⟨_, _, _, rfl, hS, hO9184, (inR_c rfl)⟩
    have hF := hx9178
    refine wp_block ?_
    have hbd9178 : (x0.Outs).length ≤ 9223372036854775807 := (Nat.le_trans (h0_2.len rfl) (by decide))
    have hS := hS.nil'
    refine wp_for0 (n := (x0.Outs).length) (s0 := (([] : List (List Int)))) (fun (i9179 : Nat) (s9180 : List (List Int)) a w => ∃ (A9186 : Option Addr) (c9187 : Nat) (p9188 : Piece), Fr (131, []) a [(2, Value.pointer (some ⟨g4620, 0, none⟩)), (8, Value.slice A8411 (o8408).length c8412), (13, Value.slice A9186 (s9180).length c9187), (14, Value.int .i64 (i9179 : Int))] ∧ St noX w0 w H [p9188, p8413, p4621] ∧ OwnD (roP (eInt .u8 1) 5) 27 H A9186 c9187 (s9180) p9188) hF ⟨_, _, _, hA.sub ⟨rfl, rfl, rfl, rfl, trivial⟩, hS, OwnD.nil⟩ ?_
    rintro After9178 i9179 s9180 a w ⟨A9186, c9187, p9188, hA, hS, hO9189⟩ hin9178 hst9178 hge9178
    rcases Nat.lt_or_ge i9179 ((x0.Outs).length) with hlt9178 | hgt9178
    rotate_left
    · have hF := congrArg some (hge9178 hgt9178)
      refine wp_seq (wp_seq (wp_region_lit (pr tb 2 hA rfl fun a hA => o_ld tb hA hS hb4622 rfl (i := 2) rfl rfl rfl rfl rfl rfl fun a hA => pr tb 2 hA rfl fun a hA => wpList_nil (tn (cF hA rfl (decide_eq_false (show ¬ ((i9179 : Int) < ((x0.Outs).length : Int)) by omega)) (wp_exit (te (te (be ?_)))))))))
      refine tn ?_
      obtain rfl := Option.some.inj hF
      exact ⟨_, _, _, hA.sub ⟨rfl, trivial⟩, hS.pick (is := [0]) rfl (by decide), hO9189⟩
    obtain ⟨cc9178, hF, hgo9178⟩ := hst9178 hlt9178
    refine wp_seq (wp_seq (wp_region_lit (pr tb 2 hA rfl fun a hA => o_ld tb hA hS hb4622 rfl (i := 2) rfl rfl rfl rfl rfl rfl fun a hA => pr tb 2 hA rfl fun a hA => wpList_nil (tn (cT hA rfl (decide_eq_true (show (i9179 : Int) < ((x0.Outs).length : Int) by omega)) (wp_skip (tn (wp_seq (wp_block ?_)))))))))
    refine wp_region_lit (pr tb 3 hA rfl fun a hA => o_ld tb hA hS hb4622 rfl (i := 2) rfl rfl rfl rfl rfl rfl fun a hA => pr tb 1 hA rfl fun a hA => ?_)
    obtain ⟨x9192, hx9193, hF⟩ := bind_some hF
    refine o_idxR tb hA h0_2 hx9193 rfl rfl rfl rfl rfl rfl rfl rfl fun a ad9194 hA hE9195 => o_ldR tb hA hS hE9195 rfl rfl rfl rfl rfl rfl fun a cs9196 hc9197 hA => ?_
    obtain ⟨rfl, hr9198⟩ := hc9197
    obtain ⟨x9199, hx9200, hF⟩ := bind_some hF
    refine o_idxD tb hA hO8414 hx9200 rfl rfl rfl rfl rfl rfl rfl rfl fun a ad9201 hA hE9202 hat9203 => o_ldD tb hA hS hE9202 rfl (i := 1) rfl rfl rfl rfl rfl fun a A9204 c9205 q9206 hd9207 ho9208 hl9209 hO9210 hA => ?_
    have hO9210 : OwnS (eInt .u8 1) 5 H A9204 c9205 x9199 q9206 := hO9210
    obtain ⟨Hb9211, hSb9211, hleb9211, hplb9211⟩ := hS.freezeT (i := 1) rfl
    have hRb9212 := hO9210.rd2 (hl9209.trans hplb9211) hleb9211
    obtain ⟨r9213, hx9214, hF⟩ := bind_some hF
    refine o_call1 hA fi22 rfl rfl rfl rfl (c_recoupref01_Copy (x0 := x9199) hSb9211.imm hRb9212 hx9214) fun a w v9223 hres hA => ?_
    obtain ⟨A9218, c9219, p9220, rfl, hS9215, hO9221⟩ := hres
    have hS := hS.callL hS9215 hleb9211
    have hO9224 := hO9221.flat (H' := H) (fun _ _ _ _ h => h)
    refine o_bsl (e := eHd) (xs := [((A9218, (r9213).length, c9219) : Hd)]) tb hA hS rfl rfl rfl (.cons rfl .nil) rfl rfl rfl rfl rfl rfl rfl rfl rfl fun a w A9225 p9226 hA hS hO9227 hN9229 => ?_
    obtain ⟨z9230, hz9231, hF⟩ := bind_some hF
    refine o_appD (ro := (roP (eInt .u8 1) 5)) (b := r9213) (h := ((A9218, (r9213).length, c9219) : Hd)) tb hA hS hO9189 (k := 2) (k2 := 1) (k3 := 0) rfl hO9227 rfl ⟨rfl, hO9224⟩ rfl rfl rfl hz9231 rfl rfl rfl rfl rfl rfl rfl rfl rfl rfl rfl rfl fun a w A9232 c9233 p9234 hA hS hO9235 hN9237 => pr tb 1 hA rfl fun a hA => wpList_nil (bn (tn (wp_region_lit (pr tb 3 hA rfl fun a hA => wpList_nil (tn ?_)))))
    obtain rfl := Option.some.inj hF
    have hA := hA.re (d := 14) rfl (congrArg (Value.int .i64) (w64_succ hlt9178 hbd9178))
    exact ⟨(z9230), ⟨_, _, _, hA.sub ⟨rfl, rfl, rfl, rfl, trivial⟩, hS.pick (is := [2, 3, 4]) rfl (by decide), hO9235⟩, hlt9178, hgo9178⟩
  have hF := hx8408
  refine wp_block ?_
  have hbd8408 : (x0.Nodes).length ≤ 9223372036854775807 := (Nat.le_trans (h0_1.len rfl) (by decide))
  refine wp_for0 (n := (x0.Nodes).length) (s0 := (s5050)) (fun (i8409 : Nat) (s8410 : List (List Int)) a w => ∃ (A8416 : Option Addr) (c8417 : Nat) (p8418 : Piece), Fr (131, []) a [(2, Value.pointer (some ⟨g4620, 0, none⟩)), (6, Value.int .i64 s4744), (8, Value.slice A8416 (s8410).length c8417), (10, Value.int .i64 (i8409 : Int))] ∧ St noX w0 w H [p8418, p4621] ∧ OwnD (roP (eInt .u8 1) 5) 27 H A8416 c8417 (s8410) p8418) hF ⟨_, _, _, hA.sub ⟨rfl, rfl, rfl, rfl, trivial⟩, hS, hO5054⟩ ?_
  rintro After8408 i8409 s8410 a w ⟨A8416, c8417, p8418, hA, hS, hO8419⟩ hin8408 hst8408 hge8408
  rcases Nat.lt_or_ge i8409 ((x0.Nodes).length) with hlt8408 | hgt8408
  rotate_left
  · have hF := congrArg some (hge8408 hgt8408)
    refine wp_seq (wp_seq (wp_region_lit (pr tb 2 hA rfl fun a hA => o_ld tb hA hS hb4622 rfl (i := 1) rfl rfl rfl rfl rfl rfl fun a hA => pr tb 2 hA rfl fun a hA => wpList_nil (tn (cF hA rfl (decide_eq_false (show ¬ ((i8409 : Int) < ((x0.Nodes).length : Int)) by omega)) (wp_exit (te (te (be ?_)))))))))
    refine tn ?_
    obtain rfl := Option.some.inj hF
    exact ⟨_, _, _, hA.sub ⟨rfl, rfl, trivial⟩, hS, hO8419⟩
  obtain ⟨cc8408, hF, hgo8408⟩ := hst8408 hlt8408
  refine wp_seq (wp_seq (wp_region_lit (pr tb 2 hA rfl fun a hA => o_ld tb hA hS hb4622 rfl (i := 1) rfl rfl rfl rfl rfl rfl fun a hA => pr tb 2 hA rfl fun a hA => wpList_nil (tn (cT hA rfl (decide_eq_true (show (i8409 : Int) < ((x0.Nodes).length : Int) by omega)) (wp_skip (tn (wp_seq (wp_block ?_)))))))))
  refine wp_seq (wp_region_lit (pr tb 1 hA rfl fun a hA => ?_))
  obtain ⟨z8421, hz8422, hF⟩ := bind_some hF
  refine o_make (e := (eInt .u8 1)) tb hA hS hz8422 rfl rfl rfl rfl rfl rfl rfl (fun _ => ⟨rfl, (inR_c rfl)⟩) rfl rfl rfl fun a w A8423 p8424 hA hS hO8425 hN8427 => pr tb 1 hA rfl fun a hA => wpList_nil (tn (wp_seq (wp_seq (wp_region_lit (pr tb 1 hA rfl fun a hA => wpList_nil (tn ?_))))))
  obtain ⟨o8847, hx8847, hK8847⟩ := bind_some hF
  refine wp_cut1 (fun a w => ∃ (A8850 : Option Addr) (c8851 : Nat) (p8852 : Piece), Fr (131, []) a [(2, Value.pointer (some ⟨g4620, 0, none⟩)), (6, Value.int .i64 s4744), (8, Value.slice A8416 (s8410).length c8417), (10, Value.int .i64 (i8409 : Int)), (11, Value.slice A8850 (o8847).length c8851)] ∧ St noX w0 w H [p8852, p8418, p4621] ∧ OwnS (eInt .u8 1) 5 H A8850 c8851 (o8847) p8852) ?_ ?_
  rotate_left
  · rintro a w ⟨A8850, c8851, p8852, hA, hS, hO8853⟩
    have hF := hK8847
    refine tn (wp_region_lit (pr tb 2 hA rfl fun a hA => o_bsl (e := eHd) (xs := [((A8850, (o8847).length, c8851) : Hd)]) tb hA hS rfl rfl rfl (.cons rfl .nil) rfl rfl rfl rfl rfl rfl rfl rfl rfl fun a w A9060 p9061 hA hS hO9062 hN9064 => ?_))
    obtain ⟨z9065, hz9066, hF⟩ := bind_some hF
    refine o_appD (ro := (roP (eInt .u8 1) 5)) (b := o8847) (h := ((A8850, (o8847).length, c8851) : Hd)) tb hA hS hO8419 (k := 2) (k2 := 1) (k3 := 0) rfl hO9062 rfl ⟨rfl, hO8853⟩ rfl rfl rfl hz9066 rfl rfl rfl rfl rfl rfl rfl rfl rfl rfl rfl rfl fun a w A9067 c9068 p9069 hA hS hO9070 hN9072 => pr tb 1 hA rfl fun a hA => wpList_nil (bn (tn (wp_region_lit (pr tb 3 hA rfl fun a hA => wpList_nil (tn ?_)))))
    obtain rfl := Option.some.inj hF
    have hA := hA.re (d := 10) rfl (congrArg (Value.int .i64) (w64_succ hlt8408 hbd8408))
    exact ⟨(z9065), ⟨_, _, _, hA.sub ⟨rfl, rfl, rfl, rfl, trivial⟩, hS.pick (is := [2, 3]) rfl (by decide), hO9070⟩, hlt8408, hgo8408⟩
  have hF := hx8847
  refine wp_block (wp_iter (s0 := (z8421, (0 : Int))) (fun (s8849 : List Int × Int) a w => ∃ (A8855 : Option Addr) (c8856 : Nat) (p8857 : Piece), Fr (131, []) a [(2, Value.pointer (some ⟨g4620, 0, none⟩)), (6, Value.int .i64 s4744), (8, Value.slice A8416 (s8410).length c8417), (10, Value.int .i64 (i8409 : Int)), (11, Value.slice A8855 (s8849.1).length c8856), (12, Value.int .i64 s8849.2)] ∧ St noX w0 w H [p8857, p8418, p4621] ∧ OwnS (eInt .u8 1) 5 H A8855 c8856 (s8849.1) p8857 ∧ inR .i64 s8849.2) hF ⟨_, _, _, hA.sub ⟨rfl, rfl, rfl, rfl, rfl, rfl, trivial⟩, hS, hO8425, (inR_c rfl)⟩ ?_)
  rintro After8847 s8849 a w ⟨A8855, c8856, p8857, hA, hS, hO8858, hr8860⟩ ⟨cc8847, hF, hgo8847⟩
  refine wp_seq (wp_seq (wp_region_lit (pr tb 2 hA rfl fun a hA => o_ld tb hA hS hb4622 rfl (i := 2) rfl rfl rfl rfl rfl rfl fun a hA => pr tb 1 hA rfl fun a hA => ?_)))
  obtain ⟨x8861, hx8862, hF⟩ := bind_some hF
  refine o_idxR tb hA h0_1 hx8862 rfl rfl rfl rfl rfl rfl rfl rfl fun a ad8863 hA hE8864 => o_ldR tb hA hS hE8864 rfl rfl rfl rfl rfl rfl fun a cs8865 hc8866 hA => ?_
  obtain ⟨A8867, c8868, rfl, hR8869⟩ := hc8866
  refine pr tb 2 hA rfl fun a hA => wpList_nil (tn ?_)
  rcases ite_some hF with ⟨hc8870, hF⟩ | ⟨hc8870, hF⟩
  rotate_left
  · refine cF hA rfl (decide_eq_false hc8870) (wp_exit (te (te ?_)))
    obtain rfl := Option.some.inj hF
    have hF := congrArg some hgo8847
    refine be (tn ?_)
    obtain rfl := Option.some.inj hF
    exact ⟨_, _, _, hA.sub ⟨rfl, rfl, rfl, rfl, rfl, trivial⟩, hS, hO8858⟩
  refine cT hA rfl (decide_eq_true hc8870) (wp_skip (tn (wp_seq (wp_block (rx (fun b w => St noX w0 w H (bif b then [p8857, p8418, p4621] else [p8857, p8418, p4621])) [] (.q true [0, 1, 2, 3, 4, 5, 6, 7, 8, 9, 10, 11, 12, 13, 14, 15, 16, 17, 18, 19, 20, 21] (.e 22 (.q true [23, 24, 25, 26] .z))) hmix (by decide +kernel) ?_)))))
  have hS := hS.drew
  refine ⟨(hS.pickO (is := [some 0, some 1, some 2]) rfl (by decide)), ?_⟩
  refine qpr tb 2 hA rfl fun a hA => q_ld tb hA hb4622 rfl (i := 2) rfl rfl rfl rfl rfl rfl fun a hA => qpr tb 1 hA rfl fun a hA => ?_
  obtain ⟨x8997, hx8998, hF⟩ := bind_some hF
  refine q_idxR tb hA h0_1 hx8998 rfl rfl rfl rfl rfl rfl rfl rfl fun a ad8999 hA hE9000 => q_ldR tb hA hE9000 rfl rfl rfl rfl rfl rfl fun a cs9001 hc9002 hA => ?_
  obtain ⟨A9003, c9004, rfl, hR9005⟩ := hc9002
  refine qpr tb 1 hA rfl fun a hA => ?_
  obtain ⟨x9006, hx9007, hF⟩ := bind_some hF
  refine q_idxR tb hA hR9005 hx9007 rfl rfl rfl rfl rfl rfl rfl rfl fun a ad9008 hA hE9009 => qpr tb 1 hA rfl fun a hA => ?_
  have hE9010 := hE9009.field efGTerm_By
  refine q_ldR tb hA hE9010 rfl rfl rfl rfl rfl rfl fun a cs9011 hc9012 hA => ?_
  obtain ⟨rfl, hr9013⟩ := hc9012
  refine qpr tb 2 hA rfl fun a hA => q_ld tb hA hb4622 rfl (i := 2) rfl rfl rfl rfl rfl rfl fun a hA => qpr tb 1 hA rfl fun a hA => ?_
  obtain ⟨x9014, hx9015, hF⟩ := bind_some hF
  refine q_idxR tb hA h0_1 hx9015 rfl rfl rfl rfl rfl rfl rfl rfl fun a ad9016 hA hE9017 => q_ldR tb hA hE9017 rfl rfl rfl rfl rfl rfl fun a cs9018 hc9019 hA => ?_
  obtain ⟨A9020, c9021, rfl, hR9022⟩ := hc9019
  refine qpr tb 1 hA rfl fun a hA => ?_
  obtain ⟨x9023, hx9024, hF⟩ := bind_some hF
  refine q_idxR tb hA hR9022 hx9024 rfl rfl rfl rfl rfl rfl rfl rfl fun a ad9025 hA hE9026 => qpr tb 1 hA rfl fun a hA => ?_
  have hE9027 := hE9026.field efGTerm_Of
  refine q_ldR tb hA hE9027 rfl rfl rfl rfl rfl rfl fun a cs9028 hc9029 hA => ?_
  obtain ⟨rfl, hr9030⟩ := hc9029
  obtain ⟨x9031, hx9032, hF⟩ := bind_some hF
  refine q_idxD tb hA hO8419 hx9032 rfl rfl rfl rfl rfl rfl rfl rfl fun a ad9033 hA hE9034 hat9035 => q_ldD tb hA hE9034 rfl (i := 1) rfl rfl rfl rfl rfl fun a A9036 c9037 q9038 hd9039 ho9040 hl9041 hO9042 hA => ?_
  have hO9042 : OwnS (eInt .u8 1) 5 H A9036 c9037 x9031 q9038 := hO9042
  refine wpHold_nil ?_
  obtain ⟨Hb9043, hSb9043, hleb9043, hplb9043⟩ := hS.freezeT (i := 0) rfl
  have hRb9044 := hO8858.rd2 hplb9043 hleb9043
  obtain ⟨Hb9045, hSb9045, hleb9045, hplb9045⟩ := hSb9043.freezeT (i := 1) rfl
  have hRb9046 := (hO9042.mono hleb9043).rd2 (hl9041.trans hplb9045) hleb9045
  obtain ⟨r9047, hx9048, hF⟩ := bind_some hF
  refine o_call1 hA fi27 rfl rfl rfl rfl (c_recoupref01_Mac (x0 := s8849.1) (x1 := x9006.By) (x2 := x9031) hSb9045.imm (hRb9044.mono hleb9045) hr9013 hRb9046 hx9048) fun a w v9058 hres hA => ?_
  obtain ⟨A9052, c9053, p9054, rfl, hS9049, hO9055, hr9057⟩ := hres
  have hS := hS.callL hS9049 (hleb9043.trans hleb9045)
  have hO9059 := hO9055.flat (H' := H) (fun _ _ _ _ h => h)
  refine wpList_nil (tn (⟨⟨fun _ => (hS.pickO (is := [some 1, some 2, some 3]) rfl (by decide)), fun _ _ => (hS.pickO (is := [some 1, some 2, some 3]) rfl (by decide))⟩, ?_⟩))
  refine ⟨(hS.pickO (is := [some 1, some 2, some 3]) rfl (by decide)), ?_⟩
  refine qpr tb 4 hA rfl fun a hA => wpHold_nil (bn (tn (wp_region_lit (pr tb 3 hA rfl fun a hA => wpList_nil (tn ?_)))))
  obtain rfl := Option.some.inj hF
  exact ⟨(r9047.1, w64 (s8849.2 + 1)), ⟨_, _, _, hA.sub ⟨rfl, rfl, rfl, rfl, rfl, rfl, trivial⟩, hS.pick (is := [0, 2, 3]) rfl (by decide), hO9059, (inR_wrap _ _)⟩, hgo8847⟩
theorem c_recoupref21_Blocks {w0 : World} {H : PHeap} (hI : ∀ b o, H b = some o → w0.heap[b]? = some o) {x0 : List (List Int)} {x1 : List (List Int)} {A0_0 : Option Addr} {c0_0 : Nat} (h0_0 : RdS (eSl (eInt .u8 1)) H A0_0 c0_0 x0) {A1_0 : Option Addr} {c1_0 : Nat} (h1_0 : RdS (eSl (eInt .u8 1)) H A1_0 c1_0 x1) {r : Bool} (hF : recoupref21_Blocks x0 x1 = some r) :
    Calls Try.prog 16 [Value.slice A0_0 (x0).length c0_0, Value.slice A1_0 (x1).length c1_0].toArray w0 (Ret (fun v w => v = Value.bool r ∧ St noX w0 w H [])) := by
  have hS := St.start hI noX
  unfold recoupref21_Blocks at hF
  refine enter fi16.hfn rfl rfl rfl fun a hA => wp_seq (wp_region_lit (pr tb 1 hA rfl fun a hA => wpList_nil (tn (wp_seq (wp_seq (wp_region_lit (pr tb 5 hA rfl fun a hA => wpList_nil (tn ?_))))))))
  rcases ite_some hF with ⟨hc154, hF⟩ | ⟨hc154, hF⟩
  rotate_left
  · refine cT hA rfl (nt_of (decide_eq_false hc154)) (wp_seq (wp_region_lit (pr tb 1 hA rfl fun a hA => wpList_nil (tn (wp_ret (tr (b_ret hA (rs := [.tmp 4]) rfl (.tmp rfl .nil) ?_)))))))
    obtain rfl := Option.some.inj hF
    exact ⟨rfl, hS⟩
  refine cF hA rfl (nf_of (decide_eq_true hc154)) (wp_skip (tn (wp_seq (wp_seq (wp_region_lit (pr tb 1 hA rfl fun a hA => wpList_nil (tn ?_)))))))
  obtain ⟨o230, hx230, hK230⟩ := bind_some hF
  refine wp_cut1 (fun a w => ∃ (s233 : Unit), o230 = .fall s233 ∧ Fr (27, []) a [] ∧ St noX w0 w H []) ?_ ?_
  rotate_left
  · rintro a w ⟨s233, rfl, hA, hS⟩
    have hF := hK230
    refine tn (wp_seq (wp_region_lit (pr tb 1 hA rfl fun a hA => wpList_nil (tn (wp_ret (b_ret hA (rs := [.tmp 4]) rfl (.tmp rfl .nil) ?_))))))
    obtain rfl := Option.some.inj hF
    exact ⟨rfl, hS⟩
  have hF := hx230
  refine wp_block ?_
  have hbd230 : (x0).length ≤ 9223372036854775807 := (Nat.le_trans (h0_0.len rfl) (by decide))
  refine wp_for0 (n := (x0).length) (s0 := (())) (fun (i231 : Nat) (s232 : Unit) a w => Fr (27, []) a [(0, Value.slice A0_0 (x0).length c0_0), (1, Value.slice A1_0 (x1).length c1_0), (5, Value.int .i64 (i231 : Int))] ∧ St noX w0 w H []) hF ⟨hA.sub ⟨rfl, rfl, rfl, trivial⟩, hS⟩ ?_
  rintro After230 i231 s232 a w ⟨hA, hS⟩ hin230 hst230 hge230
  rcases Nat.lt_or_ge i231 ((x0).length) with hlt230 | hgt230
  rotate_left
  · have hF := congrArg some (hge230 hgt230)
    refine wp_seq (wp_seq (wp_region_lit (pr tb 4 hA rfl fun a hA => wpList_nil (tn (cF hA rfl (decide_eq_false (show ¬ ((i231 : Int) < ((x0).length : Int)) by omega)) (wp_exit (te (te (be (tn ?_))))))))))
    obtain rfl := Option.some.inj hF
    exact ⟨(()), rfl, hA.sub trivial, hS⟩
  obtain ⟨cc230, hF, hgo230⟩ := hst230 hlt230
  refine wp_seq (wp_seq (wp_region_lit (pr tb 4 hA rfl fun a hA => wpList_nil (tn (cT hA rfl (decide_eq_true (show (i231 : Int) < ((x0).length : Int) by omega)) (wp_skip (tn (wp_seq (wp_block (wp_seq (rx (fun b w => St noX w0 w H (bif b then [] else [])) [] (.q true [0, 1, 2, 3, 4, 5, 6, 7] (.e 8 (.q true [9] .z))) hmix (by decide +kernel) ?_)))))))))))
  have hS := hS.drew
  refine ⟨(hS.pickO (is := []) rfl (by decide)), ?_⟩
  refine qpr tb 2 hA rfl fun a hA => ?_
  obtain ⟨x282, hx283, hF⟩ := bind_some hF
  refine q_idxR tb hA h0_0 hx283 rfl rfl rfl rfl rfl rfl rfl rfl fun a ad284 hA hE285 => q_ldR tb hA hE285 rfl rfl rfl rfl rfl rfl fun a cs286 hc287 hA => ?_
  obtain ⟨A288, c289, rfl, hR290⟩ := hc287
  refine qpr tb 2 hA rfl fun a hA => ?_
  obtain ⟨x291, hx292, hF⟩ := bind_some hF
  refine q_idxR tb hA h1_0 hx292 rfl rfl rfl rfl rfl rfl rfl rfl fun a ad293 hA hE294 => q_ldR tb hA hE294 rfl rfl rfl rfl rfl rfl fun a cs295 hc296 hA => ?_
  obtain ⟨A297, c298, rfl, hR299⟩ := hc296
  refine wpHold_nil ?_
  obtain ⟨r300, hx301, hF⟩ := bind_some hF
  refine o_call1 hA fi12 rfl rfl rfl rfl (c_recoupref01_Same (x0 := x282) (x1 := x291) hS.imm hR290 hR299 hx301) fun a w v305 hres hA => ?_
  obtain ⟨rfl, hS302⟩ := hres
  have hS := hS.callL hS302 (PHeap.le.refl _)
  refine wpList_nil (tn (⟨⟨fun _ => (hS.pickO (is := []) rfl (by decide)), fun _ _ => (hS.pickO (is := []) rfl (by decide))⟩, ?_⟩))
  refine ⟨(hS.pickO (is := []) rfl (by decide)), ?_⟩
  refine qpr tb 1 hA rfl fun a hA => wpHold_nil (tn ?_)
  rcases ite_some hF with ⟨hc306, hF⟩ | ⟨hc306, hF⟩
  · refine cF hA rfl (nf_of (hc306)) (wp_skip (bn (tn (wp_region_lit (pr tb 3 hA rfl fun a hA => wpList_nil (tn ?_))))))
    obtain rfl := Option.some.inj hF
    have hA := hA.re (d := 5) rfl (congrArg (Value.int .i64) (w64_succ hlt230 hbd230))
    exact ⟨(()), ⟨hA.sub ⟨rfl, rfl, rfl, trivial⟩, hS⟩, hlt230, hgo230⟩
  refine cT hA rfl (nt_of (ff_of hc306)) (wp_seq (wp_region_lit (pr tb 1 hA rfl fun a hA => wpList_nil (tn (wp_ret (br (tr (tr ?_))))))))
  obtain rfl := Option.some.inj hF
  have hF := congrArg some hgo230
  refine br (tr ?_)
  obtain rfl := Option.some.inj hF
  have hF := hK230
  refine tr (b_ret hA (rs := [.tmp 4]) rfl (.tmp rfl .nil) ?_)
  obtain rfl := Option.some.inj hF
  exact ⟨rfl, hS⟩
theorem c_bits_Mul64 {w0 : World} {H : PHeap} (hI : ∀ b o, H b = some o → w0.heap[b]? = some o) {x0 : Int} {x1 : Int} (hr0_0 : inR .u64 x0) (hr1_0 : inR .u64 x1) {r : Int × Int} (hF : bits_Mul64 x0 x1 = some r) :
    Calls Try.prog 56 [Value.int .u64 x0, Value.int .u64 x1].toArray w0 (Ret (fun v w => v = Value.tuple #[Value.int .u64 r.1, Value.int .u64 r.2] ∧ St noX w0 w H [] ∧ inR .u64 r.1 ∧ inR .u64 r.2)) := by
  have hS := St.start hI noX
  unfold bits_Mul64 at hF
  refine enter fi56.hfn rfl rfl rfl fun a hA => wp_seq (wp_region_lit (pr tb 2 hA rfl fun a hA => wpList_nil (tn (wp_seq (wp_region_lit (pr tb 3 hA rfl fun a hA => wpList_nil (tn (wp_seq (wp_region_lit ?_)))))))))
  refine pr tb 3 hA rfl fun a hA => wpList_nil (tn (wp_seq (wp_region_lit (pr tb 3 hA rfl fun a hA => wpList_nil (tn (wp_seq (wp_region_lit (pr tb 3 hA rfl fun a hA => wpList_nil (tn ?_)))))))))
  refine wp_seq (wp_region_lit (pr tb 4 hA rfl fun a hA => wpList_nil (tn (wp_seq (wp_region_lit (pr tb 7 hA rfl fun a hA => wpList_nil (tn (wp_seq (wp_region_lit (pr tb 3 hA rfl fun a hA => ?_))))))))))
  refine wpList_nil (tn (wp_seq (wp_region_lit (pr tb 3 hA rfl fun a hA => wpList_nil (tn (wp_seq (wp_region_lit (pr tb 6 hA rfl fun a hA => wpList_nil (tn (wp_seq ?_))))))))))
  refine wp_region_lit (pr tb 9 hA rfl fun a hA => wpList_nil (tn (wp_seq (wp_region_lit (pr tb 4 hA rfl fun a hA => wpList_nil (tn (wp_ret (b_ret hA (rs := [.tmp 4, .tmp 5]) rfl (.tmp rfl (.tmp rfl .nil)) ?_))))))))
  obtain rfl := Option.some.inj hF
  exact ⟨rfl, hS, (inR_wrap _ _), (inR_wrap _ _)⟩
theorem c_bits_Mul {w0 : World} {H : PHeap} (hI : ∀ b o, H b = some o → w0.heap[b]? = some o) {x0 : Int} {x1 : Int} (hr0_0 : inR .u64 x0) (hr1_0 : inR .u64 x1) {r : Int × Int} (hF : bits_Mul x0 x1 = some r) :
    Calls Try.prog 47 [Value.int .u64 x0, Value.int .u64 x1].toArray w0 (Ret (fun v w => v = Value.tuple #[Value.int .u64 r.1, Value.int .u64 r.2] ∧ St noX w0 w H [] ∧ inR .u64 r.1 ∧ inR .u64 r.2)) := by
  have hS := St.start hI noX
  unfold bits_Mul at hF
  refine enter fi47.hfn rfl rfl rfl fun a hA => wp_seq (wp_region_lit (pr tb 2 hA rfl fun a hA => wpList_nil (tn (wp_seq (cF hA rfl rfl (wp_skip (tn (wp_seq (wp_region_lit (pr tb 2 hA rfl fun a hA => ?_))))))))))
  obtain ⟨r9, hx10, hF⟩ := bind_some hF
  refine o_call1 hA fi56 rfl rfl rfl rfl (c_bits_Mul64 (x0 := x0) (x1 := x1) hS.imm hr0_0 hr1_0 hx10) fun a w v16 hres hA => ?_
  obtain ⟨rfl, hS11, hr14, hr15⟩ := hres
  have hS := hS.callL hS11 (PHeap.le.refl _)
  refine pr tb 5 hA rfl fun a hA => wpList_nil (tn (wp_seq (wp_region_lit (pr tb 4 hA rfl fun a hA => wpList_nil (tn (wp_ret (b_ret hA (rs := [.tmp 4, .tmp 5]) rfl (.tmp rfl (.tmp rfl .nil)) ?_)))))))
  obtain rfl := Option.some.inj hF
  exact ⟨rfl, hS, hr14, hr15⟩
theorem c_slices_Repeat_int_int {w0 : World} {H : PHeap} (hI : ∀ b o, H b = some o → w0.heap[b]? = some o) {x0 : List Int} {x1 : Int} {A0_0 : Option Addr} {c0_0 : Nat} (h0_0 : RdS (eInt .i64 8) H A0_0 c0_0 x0) (hr1_0 : inR .i64 x1) {r : List Int} (hF : slices_Repeat_int_int x0 x1 = some r) :
    Calls Try.prog 29 [Value.slice A0_0 (x0).length c0_0, Value.int .i64 x1].toArray w0 (Ret (fun v w => ∃ (A0 : Option Addr) (c0 : Nat) (p0 : Piece), v = Value.slice A0 (r).length c0 ∧ St noX w0 w H [p0] ∧ OwnS (eInt .i64 8) 3 H A0 c0 r p0)) := by
  have hS := St.start hI noX
  unfold slices_Repeat_int_int at hF
  refine enter fi29.hfn rfl rfl rfl fun a hA => wp_seq (wp_region_lit (pr tb 1 hA rfl fun a hA => wpList_nil (tn (wp_seq (wp_seq (wp_region_lit (pr tb 2 hA rfl fun a hA => wpList_nil (tn ?_))))))))
  rcases ite_some hF with ⟨hc200, hF⟩ | ⟨hc200, hF⟩
  · refine cT hA rfl (decide_eq_true hc200) ?_
    cases hF
  refine cF hA rfl (decide_eq_false hc200) (wp_skip (tn (wp_seq (wp_region_lit (pr tb 5 hA rfl fun a hA => ?_)))))
  obtain ⟨r201, hx202, hF⟩ := bind_some hF
  refine o_call1 hA fi47 rfl rfl rfl rfl (c_bits_Mul (x0 := (IntKind.wrap .u64 (((x0).length : Int)))) (x1 := (IntKind.wrap .u64 (x1))) hS.imm (inR_wrap _ _) (inR_wrap _ _) hx202) fun a w v208 hres hA => ?_
  obtain ⟨rfl, hS203, hr206, hr207⟩ := hres
  have hS := hS.callL hS203 (PHeap.le.refl _)
  refine pr tb 5 hA rfl fun a hA => wpList_nil (tn (wp_seq (wp_seq (wp_region_lit (pr tb 3 hA rfl fun a hA => ?_)))))
  rcases ite_some hF with ⟨hc211, hF⟩ | ⟨hc211, hF⟩
  · have hA := hA.re (d := 23) rfl (congrArg Value.bool (decide_eq_true hc211 : _ = true))
    refine pr tb 3 hA rfl fun a hA => wpList_nil (tn (cT hA rfl rfl ?_))
    cases hF
  have hA := hA.re (d := 23) rfl (congrArg Value.bool (decide_eq_false hc211 : _ = false))
  refine pr tb 3 hA rfl fun a hA => wpList_nil (tn ?_)
  rcases ite_some hF with ⟨hc212, hF⟩ | ⟨hc212, hF⟩
  · refine cT hA rfl (decide_eq_true hc212) ?_
    cases hF
  refine cF hA rfl (decide_eq_false hc212) (wp_skip (tn (wp_seq (wp_region_lit (pr tb 2 hA rfl fun a hA => ?_)))))
  obtain ⟨z213, hz214, hF⟩ := bind_some hF
  refine o_make (e := (eInt .i64 8)) tb hA hS hz214 rfl rfl rfl rfl rfl rfl rfl (fun _ => ⟨rfl, (inR_c rfl)⟩) rfl rfl rfl fun a w A215 p216 hA hS hO217 hN219 => pr tb 1 hA rfl fun a hA => wpList_nil (tn (wp_seq (wp_region_lit (pr tb 2 hA rfl fun a hA => ?_))))
  have hm224 := cpy_le (m := (x0).length) (show (0 : Int).toNat + (z213).length ≤ (z213).length by simp) (hO217.len rfl)
  refine o_copy tb hA hS hO217 (k := 0) rfl (SubO.all hO217) (by decide) (show (0 : Int).toNat + (z213).length ≤ (z213).length by simp) (h0_0.src hS) rfl rfl rfl rfl rfl rfl rfl rfl fun a w p222 hA hS hO223 => ?_
  have hq225 : (z213).length = (cpy (z213) 0 (min (x0).length (z213).length) (x0)).length := (cpy_len (show (0 : Int).toNat + (z213).length ≤ (z213).length by simp)).symm
  have hA := hA.re (d := 7) rfl (congrArg (fun n => Value.slice A215 n ((z213).length)) hq225)
  have hA := hA.re (d := 30) rfl (congrArg (fun n => Value.slice A215 n ((z213).length)) hq225)
  have hA := hA.re (d := 31) rfl (congrArg (fun n => Value.slice A215 n ((z213).length)) hq225)
  refine pr tb 1 hA rfl fun a hA => wpList_nil (tn ?_)
  obtain ⟨o334, hx334, hK334⟩ := bind_some hF
  refine wp_cut (fun a w => ∃ (A337 : Option Addr) (c338 : Nat) (p339 : Piece), Fr (48, []) a [(7, Value.slice A337 (o334).length c338)] ∧ St noX w0 w H [p339] ∧ OwnS (eInt .i64 8) 3 H A337 c338 (o334) p339) ?_ ?_
  rotate_left
  · rintro a w ⟨A337, c338, p339, hA, hS, hO340⟩
    have hF := hK334
    refine wp_seq (wp_region_lit (pr tb 2 hA rfl fun a hA => wpList_nil (tn (wp_ret (b_ret hA (rs := [.tmp 4]) rfl (.tmp rfl .nil) ?_)))))
    obtain rfl := Option.some.inj hF
    exact ⟨_, _, _, rfl, hS, hO340⟩
  have hF := hx334
  refine wp_block (wp_iter (s0 := (cpy (z213) 0 (min (x0).length (z213).length) (x0), ((min (x0).length (z213).length : Nat) : Int))) (fun (s336 : List Int × Int) a w => ∃ (A342 : Option Addr) (c343 : Nat) (p344 : Piece), Fr (48, []) a [(7, Value.slice A342 (s336.1).length c343), (8, Value.int .i64 s336.2)] ∧ St noX w0 w H [p344] ∧ OwnS (eInt .i64 8) 3 H A342 c343 (s336.1) p344 ∧ inR .i64 s336.2) hF ⟨_, _, _, hA.sub ⟨rfl, rfl, trivial⟩, hS, hO223, (inR_nat hm224)⟩ ?_)
  rintro After334 s336 a w ⟨A342, c343, p344, hA, hS, hO345, hr347⟩ ⟨cc334, hF, hgo334⟩
  refine wp_seq (wp_seq (wp_region_lit (pr tb 4 hA rfl fun a hA => wpList_nil (tn ?_))))
  rcases ite_some hF with ⟨hc348, hF⟩ | ⟨hc348, hF⟩
  rotate_left
  · refine cF hA rfl (decide_eq_false hc348) (wp_exit (te (te ?_)))
    obtain rfl := Option.some.inj hF
    have hF := congrArg some hgo334
    refine be (tn ?_)
    obtain rfl := Option.some.inj hF
    exact ⟨_, _, _, hA.sub ⟨rfl, trivial⟩, hS, hO345⟩
  refine cT hA rfl (decide_eq_true hc348) (wp_skip (tn (wp_block (rx (fun b w => St noX w0 w H (bif b then [emp] else [emp])) [] (.q true [0, 1, 2, 3, 4, 5, 6] (.e 7 (.q true [8, 9] .z))) hmix (by decide +kernel) ?_))))
  have hS := hS.drew
  refine ⟨(hS.pickO (is := [none]) rfl (by decide)), ?_⟩
  refine qpr tb 3 hA rfl fun a hA => ?_
  obtain ⟨y381, hs382, hF⟩ := bind_some hF
  refine q_slO tb hA hO345 hs382 rfl rfl rfl rfl (fun _ => rfl) rfl rfl rfl rfl rfl rfl fun a A383 c384 hA hU385 => qpr tb 2 hA rfl fun a hA => ?_
  obtain ⟨y386, hs387, hF⟩ := bind_some hF
  refine q_slO tb hA hO345 hs387 rfl rfl rfl rfl (fun _ => rfl) rfl rfl rfl rfl rfl rfl fun a A388 c389 hA hU390 => wpHold_nil ?_
  have hm395 := cpy_le (m := (y386).length) (sl_fit hs382) (hO345.len rfl)
  refine o_copy tb hA hS hO345 (k := 0) rfl hU385 (sl_some hs382).1 (sl_fit hs382) (hO345.srcSub hS (k := 0) rfl hs387 hU390) rfl rfl rfl rfl rfl rfl rfl rfl fun a w p393 hA hS hO394 => ?_
  have hq396 : (s336.1).length = (cpy (s336.1) s336.2 (min (y386).length (y381).length) (y386)).length := (cpy_len (sl_fit hs382)).symm
  have hA := hA.re (d := 7) rfl (congrArg (fun n => Value.slice A342 n c343) hq396)
  have hA := hA.re (d := 35) rfl (congrArg (fun n => Value.slice A342 n c343) hq396)
  have hA := hA.re (d := 39) rfl (congrArg (fun n => Value.slice A342 n c343) hq396)
  have hA := hA.re (d := 42) rfl (congrArg (fun n => Value.slice A342 n c343) hq396)
  refine wpList_nil (tn (⟨⟨fun _ => (hS.pickO (is := [none]) rfl (by decide)), fun _ _ => (hS.pickO (is := [none]) rfl (by decide))⟩, ?_⟩))
  refine ⟨(hS.pickO (is := [none]) rfl (by decide)), ?_⟩
  refine qpr tb 2 hA rfl fun a hA => wpHold_nil (bn (tn ?_))
  obtain rfl := Option.some.inj hF
  exact ⟨(cpy (s336.1) s336.2 (min (y386).length (y381).length) (y386), w64 (s336.2 + ((min (y386).length (y381).length : Nat) : Int))), ⟨_, _, _, hA.sub ⟨rfl, rfl, trivial⟩, hS, hO394, (inR_wrap _ _)⟩, hgo334⟩
theorem c_regs_last {w0 : World} {H : PHeap} (hI : ∀ b o, H b = some o → w0.heap[b]? = some o) {x0 : GFlow} {A0_0 : Option Addr} {c0_0 : Nat} (h0_0 : RdS (eInt .i64 8) H A0_0 c0_0 x0.Inputs) {A0_1 : Option Addr} {c0_1 : Nat} (h0_1 : RdS (eSl eGTerm) H A0_1 c0_1 x0.Nodes) {A0_2 : Option Addr} {c0_2 : Nat} (h0_2 : RdS (eInt .i64 8) H A0_2 c0_2 x0.Outs) {r : List Int} (hF : regs_last x0 = some r) :
    Calls Try.prog 30 [Value.agg #[Value.slice A0_0 (x0.Inputs).length c0_0, Value.slice A0_1 (x0.Nodes).length c0_1, Value.slice A0_2 (x0.Outs).length c0_2]].toArray w0 (Ret (fun v w => ∃ (A0 : Option Addr) (c0 : Nat) (p0 : Piece), v = Value.slice A0 (r).length c0 ∧ St noX w0 w H [p0] ∧ OwnS (eInt .i64 8) 3 H A0 c0 r p0)) := by
  have hS := St.start hI noX
  unfold regs_last at hF
  refine enter fi30.hfn rfl rfl rfl fun a hA => wp_seq (wp_region_lit (o_box hA hS rfl rfl rfl fun a w g718 p719 hA hS hb720 => pr tb 1 hA rfl fun a hA => wpList_nil (tn (wp_seq (wp_region_lit (o_bsl (e := (eInt .i64 8)) (xs := ([((-1) : Int)] : List Int)) tb hA hS rfl rfl rfl (.cons ⟨rfl, (inR_c rfl)⟩ .nil) rfl rfl rfl rfl rfl rfl rfl rfl rfl fun a w A721 p722 hA hS hO723 hN725 => pr tb 1 hA rfl fun a hA => o_ld tb hA hS hb720 rfl (i := 1) rfl rfl rfl rfl rfl rfl fun a hA => pr tb 2 hA rfl fun a hA => ?_))))))
  refine o_ld tb hA hS hb720 rfl (i := 1) rfl rfl rfl rfl rfl rfl fun a hA => pr tb 2 hA rfl fun a hA => ?_
  obtain ⟨Hb726, hSb726, hleb726, hplb726⟩ := hS.freezeT (i := 0) rfl
  have hRb727 := hO723.rd2 hplb726 hleb726
  obtain ⟨r728, hx729, hF⟩ := bind_some hF
  refine o_call1 hA fi29 rfl rfl rfl rfl (c_slices_Repeat_int_int (x0 := ([((-1) : Int)] : List Int)) (x1 := (w64 (((x0.Inputs).length : Int) + ((x0.Nodes).length : Int)))) hSb726.imm hRb727 (inR_wrap _ _) hx729) fun a w v738 hres hA => ?_
  obtain ⟨A733, c734, p735, rfl, hS730, hO736⟩ := hres
  have hS := hS.callL hS730 hleb726
  have hO739 := hO736.flat (H' := H) (fun _ _ _ _ h => h)
  refine pr tb 1 hA rfl fun a hA => wpList_nil (tn (wp_seq (wp_seq (wp_region_lit (pr tb 1 hA rfl fun a hA => o_ld tb hA hS hb720 rfl (i := 2) rfl rfl rfl rfl rfl rfl fun a hA => pr tb 2 hA rfl fun a hA => wpList_nil (tn ?_))))))
  obtain ⟨o1256, hx1256, hK1256⟩ := bind_some hF
  refine wp_cut1 (fun a w => ∃ (A1259 : Option Addr) (c1260 : Nat) (p1261 : Piece), Fr (55, []) a [(1, Value.pointer (some ⟨g718, 0, none⟩)), (3, Value.slice A1259 (o1256).length c1260)] ∧ St noX w0 w H [p1261, p719] ∧ OwnS (eInt .i64 8) 3 H A1259 c1260 (o1256) p1261) ?_ ?_
  rotate_left
  · rintro a w ⟨A1259, c1260, p1261, hA, hS, hO1262⟩
    have hF := hK1256
    refine tn (wp_seq (wp_seq (wp_region_lit (pr tb 1 hA rfl fun a hA => o_ld tb hA hS hb720 rfl (i := 1) rfl rfl rfl rfl rfl rfl fun a hA => pr tb 2 hA rfl fun a hA => wpList_nil (tn ?_)))))
    obtain ⟨o1405, hx1405, hK1405⟩ := bind_some hF
    refine wp_cut1 (fun a w => ∃ (A1408 : Option Addr) (c1409 : Nat) (p1410 : Piece), Fr (55, []) a [(3, Value.slice A1408 (o1405).length c1409)] ∧ St noX w0 w H [p1410] ∧ OwnS (eInt .i64 8) 3 H A1408 c1409 (o1405) p1410) ?_ ?_
    rotate_left
    · rintro a w ⟨A1408, c1409, p1410, hA, hS, hO1411⟩
      have hF := hK1405
      refine tn (wp_seq (wp_region_lit (pr tb 2 hA rfl fun a hA => wpList_nil (tn (wp_ret (b_ret hA (rs := [.tmp 2]) rfl (.tmp rfl .nil) ?_))))))
      obtain rfl := Option.some.inj hF
      exact ⟨_, _, _, rfl, hS, hO1411⟩
    have hF := hx1405
    refine wp_block ?_
    have hbd1405 : (x0.Outs).length ≤ 9223372036854775807 := (Nat.le_trans (h0_2.len rfl) (by decide))
    refine wp_for0 (n := (x0.Outs).length) (s0 := (o1256)) (fun (i1406 : Nat) (s1407 : List Int) a w => ∃ (A1413 : Option Addr) (c1414 : Nat) (p1415 : Piece), Fr (55, []) a [(1, Value.pointer (some ⟨g718, 0, none⟩)), (3, Value.slice A1413 (s1407).length c1414), (41, Value.slice A0_2 (x0.Outs).length c0_2), (42, Value.int .i64 ((x0.Outs).length : Int)), (43, Value.int .i64 (i1406 : Int))] ∧ St noX w0 w H [p1415, p719] ∧ OwnS (eInt .i64 8) 3 H A1413 c1414 (s1407) p1415) hF ⟨_, _, _, hA.sub ⟨rfl, rfl, rfl, rfl, rfl, trivial⟩, hS, hO1262⟩ ?_
    rintro After1405 i1406 s1407 a w ⟨A1413, c1414, p1415, hA, hS, hO1416⟩ hin1405 hst1405 hge1405
    rcases Nat.lt_or_ge i1406 ((x0.Outs).length) with hlt1405 | hgt1405
    rotate_left
    · have hF := congrArg some (hge1405 hgt1405)
      refine wp_seq (wp_region_lit (pr tb 1 hA rfl fun a hA => wpList_nil (tn (wp_seq (cF hA rfl (decide_eq_false (show ¬ ((i1406 : Int) < ((x0.Outs).length : Int)) by omega)) (wp_exit (te (te (be (tn ?_))))))))))
      obtain rfl := Option.some.inj hF
      exact ⟨_, _, _, hA.sub ⟨rfl, trivial⟩, hS.pick (is := [0]) rfl (by decide), hO1416⟩
    obtain ⟨cc1405, hF, hgo1405⟩ := hst1405 hlt1405
    refine wp_seq (wp_region_lit (pr tb 1 hA rfl fun a hA => wpList_nil (tn (wp_seq (cT hA rfl (decide_eq_true (show (i1406 : Int) < ((x0.Outs).length : Int) by omega)) (wp_skip (tn (wp_seq (wp_block (wp_seq (wp_region_lit ?_)))))))))))
    obtain ⟨x1418, hx1419, hF⟩ := bind_some hF
    refine o_idxR tb hA h0_2 hx1419 rfl rfl rfl rfl rfl rfl rfl rfl fun a ad1420 hA hE1421 => o_ldR tb hA hS hE1421 rfl rfl rfl rfl rfl rfl fun a cs1422 hc1423 hA => ?_
    obtain ⟨rfl, hr1424⟩ := hc1423
    refine pr tb 1 hA rfl fun a hA => wpList_nil (tn (wp_region_lit (pr tb 3 hA rfl fun a hA => o_ld tb hA hS hb720 rfl (i := 1) rfl rfl rfl rfl rfl rfl fun a hA => pr tb 1 hA rfl fun a hA => ?_)))
    obtain ⟨x1425, hx1426, hF⟩ := bind_some hF
    refine o_idxO tb hA hO1416 hx1426 rfl rfl rfl rfl rfl rfl rfl rfl fun a ad1427 hA hE1428 hat1429 => o_stO (v := Value.int .i64 ((x0.Nodes).length : Int)) (y0 := ((x0.Nodes).length : Int)) tb hA hS hO1416 hat1429 ((idx_some hx1426).2.2) ⟨rfl, (inR_nat (Nat.le_trans (h0_1.len rfl) (by decide)))⟩ rfl rfl (k := 0) rfl rfl rfl rfl rfl fun w p1430 hS hO1431 => ?_
    have hq1432 : (s1407).length = ((s1407).set (x1418).toNat ((x0.Nodes).length : Int)).length := (List.length_set ..).symm
    have hA := hA.re (d := 3) rfl (congrArg (fun n => Value.slice A1413 n c1414) hq1432)
    have hA := hA.re (d := 47) rfl (congrArg (fun n => Value.slice A1413 n c1414) hq1432)
    refine wpList_nil (bn (tn (wp_region_lit (pr tb 2 hA rfl fun a hA => wpList_nil (tn ?_)))))
    obtain rfl := Option.some.inj hF
    have hA := hA.re (d := 43) rfl (congrArg (Value.int .i64) (w64_succ hlt1405 hbd1405))
    exact ⟨((s1407).set (x1418).toNat ((x0.Nodes).length : Int)), ⟨_, _, _, hA.sub ⟨rfl, rfl, rfl, rfl, rfl, trivial⟩, hS, hO1431⟩, hlt1405, hgo1405⟩
  have hF := hx1256
  refine wp_block ?_
  have hbd1256 : (x0.Nodes).length ≤ 9223372036854775807 := (Nat.le_trans (h0_1.len rfl) (by decide))
  refine wp_for0 (n := (x0.Nodes).length) (s0 := (r728)) (fun (i1257 : Nat) (s1258 : List Int) a w => ∃ (A1264 : Option Addr) (c1265 : Nat) (p1266 : Piece), Fr (55, []) a [(1, Value.pointer (some ⟨g718, 0, none⟩)), (3, Value.slice A1264 (s1258).length c1265), (20, Value.slice A0_1 (x0.Nodes).length c0_1), (21, Value.int .i64 ((x0.Nodes).length : Int)), (22, Value.int .i64 (i1257 : Int))] ∧ St noX w0 w H [p1266, p719] ∧ OwnS (eInt .i64 8) 3 H A1264 c1265 (s1258) p1266) hF ⟨_, _, _, hA.sub ⟨rfl, rfl, rfl, rfl, rfl, trivial⟩, hS.pick (is := [0, 2]) rfl (by decide), hO739⟩ ?_
  rintro After1256 i1257 s1258 a w ⟨A1264, c1265, p1266, hA, hS, hO1267⟩ hin1256 hst1256 hge1256
  rcases Nat.lt_or_ge i1257 ((x0.Nodes).length) with hlt1256 | hgt1256
  rotate_left
  · have hF := congrArg some (hge1256 hgt1256)
    refine wp_seq (wp_region_lit (pr tb 1 hA rfl fun a hA => wpList_nil (tn (wp_seq (cF hA rfl (decide_eq_false (show ¬ ((i1257 : Int) < ((x0.Nodes).length : Int)) by omega)) (wp_exit (te (te (be (tn ?_))))))))))
    obtain rfl := Option.some.inj hF
    exact ⟨_, _, _, hA.sub ⟨rfl, rfl, trivial⟩, hS, hO1267⟩
  obtain ⟨cc1256, hF, hgo1256⟩ := hst1256 hlt1256
  refine wp_seq (wp_region_lit (pr tb 1 hA rfl fun a hA => wpList_nil (tn (wp_seq (cT hA rfl (decide_eq_true (show (i1257 : Int) < ((x0.Nodes).length : Int) by omega)) (wp_skip (tn (wp_seq (wp_block (wp_seq (wp_region_lit ?_)))))))))))
  refine pr tb 1 hA rfl fun a hA => ?_
  obtain ⟨x1269, hx1270, hF⟩ := bind_some hF
  refine o_idxR tb hA h0_1 hx1270 rfl rfl rfl rfl rfl rfl rfl rfl fun a ad1271 hA hE1272 => o_ldR tb hA hS hE1272 rfl rfl rfl rfl rfl rfl fun a cs1273 hc1274 hA => ?_
  obtain ⟨A1275, c1276, rfl, hR1277⟩ := hc1274
  refine pr tb 2 hA rfl fun a hA => wpList_nil (tn (wp_seq (wp_region_lit (pr tb 3 hA rfl fun a hA => wpList_nil (tn ?_)))))
  obtain ⟨o1331, hx1331, hK1331⟩ := bind_some hF
  refine wp_cut1 (fun a w => ∃ (A1334 : Option Addr) (c1335 : Nat) (p1336 : Piece), Fr (55, []) a [(1, Value.pointer (some ⟨g718, 0, none⟩)), (3, Value.slice A1334 (o1331).length c1335), (20, Value.slice A0_1 (x0.Nodes).length c0_1), (21, Value.int .i64 ((x0.Nodes).length : Int)), (22, Value.int .i64 (i1257 : Int))] ∧ St noX w0 w H [p1336, p719] ∧ OwnS (eInt .i64 8) 3 H A1334 c1335 (o1331) p1336) ?_ ?_
  rotate_left
  · rintro a w ⟨A1334, c1335, p1336, hA, hS, hO1337⟩
    have hF := hK1331
    refine bn (tn (wp_region_lit (pr tb 2 hA rfl fun a hA => wpList_nil (tn ?_))))
    obtain rfl := Option.some.inj hF
    have hA := hA.re (d := 22) rfl (congrArg (Value.int .i64) (w64_succ hlt1256 hbd1256))
    exact ⟨(o1331), ⟨_, _, _, hA.sub ⟨rfl, rfl, rfl, rfl, rfl, trivial⟩, hS, hO1337⟩, hlt1256, hgo1256⟩
  have hF := hx1331
  refine wp_block ?_
  have hbd1331 : (x1269).length ≤ 9223372036854775807 := (Nat.le_trans (hR1277.len rfl) (by decide))
  refine wp_for0 (n := (x1269).length) (s0 := (s1258)) (fun (i1332 : Nat) (s1333 : List Int) a w => ∃ (A1339 : Option Addr) (c1340 : Nat) (p1341 : Piece), Fr (55, []) a [(1, Value.pointer (some ⟨g718, 0, none⟩)), (3, Value.slice A1339 (s1333).length c1340), (4, Value.int .i64 (i1257 : Int)), (20, Value.slice A0_1 (x0.Nodes).length c0_1), (21, Value.int .i64 ((x0.Nodes).length : Int)), (22, Value.int .i64 (i1257 : Int)), (27, Value.slice A1275 (x1269).length c1276), (28, Value.int .i64 ((x1269).length : Int)), (29, Value.int .i64 (i1332 : Int))] ∧ St noX w0 w H [p1341, p719] ∧ OwnS (eInt .i64 8) 3 H A1339 c1340 (s1333) p1341) hF ⟨_, _, _, hA.sub ⟨rfl, rfl, rfl, rfl, rfl, rfl, rfl, rfl, rfl, trivial⟩, hS, hO1267⟩ ?_
  rintro After1331 i1332 s1333 a w ⟨A1339, c1340, p1341, hA, hS, hO1342⟩ hin1331 hst1331 hge1331
  rcases Nat.lt_or_ge i1332 ((x1269).length) with hlt1331 | hgt1331
  rotate_left
  · have hF := congrArg some (hge1331 hgt1331)
    refine wp_seq (wp_region_lit (pr tb 1 hA rfl fun a hA => wpList_nil (tn (wp_seq (cF hA rfl (decide_eq_false (show ¬ ((i1332 : Int) < ((x1269).length : Int)) by omega)) (wp_exit (te (te (be (tn ?_))))))))))
    obtain rfl := Option.some.inj hF
    exact ⟨_, _, _, hA.sub ⟨rfl, rfl, rfl, rfl, rfl, trivial⟩, hS, hO1342⟩
  obtain ⟨cc1331, hF, hgo1331⟩ := hst1331 hlt1331
  refine wp_seq (wp_region_lit (pr tb 1 hA rfl fun a hA => wpList_nil (tn (wp_seq (cT hA rfl (decide_eq_true (show (i1332 : Int) < ((x1269).length : Int) by omega)) (wp_skip (tn (wp_seq (wp_block (wp_seq (wp_region_lit ?_)))))))))))
  obtain ⟨x1344, hx1345, hF⟩ := bind_some hF
  refine o_idxR tb hA hR1277 hx1345 rfl rfl rfl rfl rfl rfl rfl rfl fun a ad1346 hA hE1347 => o_ldR tb hA hS hE1347 rfl rfl rfl rfl rfl rfl fun a cs1348 hc1349 hA => ?_
  obtain ⟨rfl, hr1350, hr1351⟩ := hc1349
  refine o_alloc tb hA hS rfl rfl rfl fun a w g1353 p1354 hA hS hb1355 => o_st tb hA hS hb1355 rfl rfl (i := 0) rfl rfl rfl rfl rfl rfl rfl fun w p1356 hS hb1357 => wpList_nil (tn (wp_region_lit (pr tb 2 hA rfl fun a hA => o_ld tb hA hS hb1357 rfl (i := 0) rfl rfl rfl rfl rfl rfl fun a hA => pr tb 1 hA rfl fun a hA => ?_)))
  obtain ⟨x1358, hx1359, hF⟩ := bind_some hF
  refine o_idxO tb hA hO1342 hx1359 rfl rfl rfl rfl rfl rfl rfl rfl fun a ad1360 hA hE1361 hat1362 => o_stO (v := Value.int .i64 (i1257 : Int)) (y0 := (i1257 : Int)) tb hA hS hO1342 hat1362 ((idx_some hx1359).2.2) ⟨rfl, (inR_nat (by omega))⟩ rfl rfl (k := 1) rfl rfl rfl rfl rfl fun w p1363 hS hO1364 => ?_
  have hq1365 : (s1333).length = ((s1333).set (x1344.Of).toNat (i1257 : Int)).length := (List.length_set ..).symm
  have hA := hA.re (d := 3) rfl (congrArg (fun n => Value.slice A1339 n c1340) hq1365)
  have hA := hA.re (d := 33) rfl (congrArg (fun n => Value.slice A1339 n c1340) hq1365)
  refine wpList_nil (bn (tn (wp_region_lit (pr tb 2 hA rfl fun a hA => wpList_nil (tn ?_)))))
  obtain rfl := Option.some.inj hF
  have hA := hA.re (d := 29) rfl (congrArg (Value.int .i64) (w64_succ hlt1331 hbd1331))
  exact ⟨((s1333).set (x1344.Of).toNat (i1257 : Int)), ⟨_, _, _, hA.sub ⟨rfl, rfl, rfl, rfl, rfl, rfl, rfl, rfl, rfl, trivial⟩, hS.pick (is := [1, 2]) rfl (by decide), hO1364⟩, hlt1331, hgo1331⟩
theorem c_slices_Index_bool_bool {w0 : World} {H : PHeap} (hI : ∀ b o, H b = some o → w0.heap[b]? = some o) {x0 : List Bool} {x1 : Bool} {A0_0 : Option Addr} {c0_0 : Nat} (h0_0 : RdS eBool H A0_0 c0_0 x0) {r : Int} (hF : slices_Index_bool_bool x0 x1 = some r) :
    Calls Try.prog 57 [Value.slice A0_0 (x0).length c0_0, Value.bool x1].toArray w0 (Ret (fun v w => v = Value.int .i64 r ∧ St noX w0 w H [] ∧ inR .i64 r)) := by
  have hS := St.start hI noX
  unfold slices_Index_bool_bool at hF
  refine enter fi57.hfn rfl rfl rfl fun a hA => wp_seq (wp_region_lit (pr tb 1 hA rfl fun a hA => wpList_nil (tn (wp_seq (wp_seq (wp_region_lit (pr tb 3 hA rfl fun a hA => wpList_nil (tn ?_))))))))
  obtain ⟨o30, hx30, hK30⟩ := bind_some hF
  refine wp_cut1 (fun a w => ∃ (s33 : Unit), o30 = .fall s33 ∧ Fr (19, []) a [] ∧ St noX w0 w H []) ?_ ?_
  rotate_left
  · rintro a w ⟨s33, rfl, hA, hS⟩
    have hF := hK30
    refine tn (wp_seq (wp_region_lit (pr tb 1 hA rfl fun a hA => wpList_nil (tn (wp_ret (b_ret hA (rs := [.tmp 4]) rfl (.tmp rfl .nil) ?_))))))
    obtain rfl := Option.some.inj hF
    exact ⟨rfl, hS, (inR_c rfl)⟩
  have hF := hx30
  refine wp_block ?_
  have hbd30 : (x0).length ≤ 9223372036854775807 := (Nat.le_trans (h0_0.len rfl) (by decide))
  refine wp_for0 (n := (x0).length) (s0 := (())) (fun (i31 : Nat) (s32 : Unit) a w => Fr (19, []) a [(0, Value.slice A0_0 (x0).length c0_0), (1, Value.bool x1), (7, Value.int .i64 ((x0).length : Int)), (8, Value.int .i64 (i31 : Int))] ∧ St noX w0 w H []) hF ⟨hA.sub ⟨rfl, rfl, rfl, rfl, trivial⟩, hS⟩ ?_
  rintro After30 i31 s32 a w ⟨hA, hS⟩ hin30 hst30 hge30
  rcases Nat.lt_or_ge i31 ((x0).length) with hlt30 | hgt30
  rotate_left
  · have hF := congrArg some (hge30 hgt30)
    refine wp_seq (wp_region_lit (pr tb 1 hA rfl fun a hA => wpList_nil (tn (wp_seq (cF hA rfl (decide_eq_false (show ¬ ((i31 : Int) < ((x0).length : Int)) by omega)) (wp_exit (te (te (be (tn ?_))))))))))
    obtain rfl := Option.some.inj hF
    exact ⟨(()), rfl, hA.sub trivial, hS⟩
  obtain ⟨cc30, hF, hgo30⟩ := hst30 hlt30
  refine wp_seq (wp_region_lit (pr tb 1 hA rfl fun a hA => wpList_nil (tn (wp_seq (cT hA rfl (decide_eq_true (show (i31 : Int) < ((x0).length : Int) by omega)) (wp_skip (tn (wp_seq (wp_block (wp_seq (wp_region_lit ?_)))))))))))
  refine pr tb 2 hA rfl fun a hA => wpList_nil (tn (wp_seq (wp_region_lit (pr tb 3 hA rfl fun a hA => ?_))))
  obtain ⟨x34, hx35, hF⟩ := bind_some hF
  refine o_idxR tb hA h0_0 hx35 rfl rfl rfl rfl rfl rfl rfl rfl fun a ad36 hA hE37 => o_ldR tb hA hS hE37 rfl rfl rfl rfl rfl rfl fun a cs38 hc39 hA => ?_
  obtain rfl := hc39
  refine pr tb 1 hA rfl fun a hA => wpList_nil (tn ?_)
  rcases ite_some hF with ⟨hc40, hF⟩ | ⟨hc40, hF⟩
  rotate_left
  · refine cF hA rfl (decide_eq_false hc40) (wp_skip (bn (tn (wp_region_lit (pr tb 2 hA rfl fun a hA => wpList_nil (tn ?_))))))
    obtain rfl := Option.some.inj hF
    have hA := hA.re (d := 8) rfl (congrArg (Value.int .i64) (w64_succ hlt30 hbd30))
    exact ⟨(()), ⟨hA.sub ⟨rfl, rfl, rfl, rfl, trivial⟩, hS⟩, hlt30, hgo30⟩
  refine cT hA rfl (decide_eq_true hc40) (wp_seq (wp_region_lit (pr tb 2 hA rfl fun a hA => wpList_nil (tn (wp_ret (br (tr (tr ?_))))))))
  obtain rfl := Option.some.inj hF
  have hF := congrArg some hgo30
  refine br (tr ?_)
  obtain rfl := Option.some.inj hF
  have hF := hK30
  refine tr (b_ret hA (rs := [.tmp 4]) rfl (.tmp rfl .nil) ?_)
  obtain rfl := Option.some.inj hF
  exact ⟨rfl, hS, (inR_nat (by omega))⟩
end Go.RL
