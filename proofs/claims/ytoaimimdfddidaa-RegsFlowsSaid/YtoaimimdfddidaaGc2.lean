/- Each function of the code, walked: it computes what its mirrored function says (part 2).
   Part of the proof of Rows.RegsFlowsSaid of the program 'recoup'. -/
import Derived.Test.YtoaimimdfddidaaGc1
set_option linter.unusedVariables false
set_option linter.unusedSimpArgs false
set_option linter.unusedSectionVars false
namespace Go.RL
open Go.Proofs
set_option maxRecDepth 20000
set_option maxHeartbeats 4000000
theorem c_regs_Give {w0 : World} {H : PHeap} (hI : ∀ b o, H b = some o → w0.heap[b]? = some o) {x0 : GFlow} {A0_0 : Option Addr} {c0_0 : Nat} (h0_0 : RdS (eInt .i64 8) H A0_0 c0_0 x0.Inputs) {A0_1 : Option Addr} {c0_1 : Nat} (h0_1 : RdS (eSl eGTerm) H A0_1 c0_1 x0.Nodes) {A0_2 : Option Addr} {c0_2 : Nat} (h0_2 : RdS (eInt .i64 8) H A0_2 c0_2 x0.Outs) {r : GProgram × Int} (hF : regs_Give x0 = some r) :
    Calls Try.prog 18 [Value.agg #[Value.slice A0_0 (x0.Inputs).length c0_0, Value.slice A0_1 (x0.Nodes).length c0_1, Value.slice A0_2 (x0.Outs).length c0_2]].toArray w0 (Ret (fun v w => ∃ (A0 : Option Addr) (c0 : Nat) (p0 : Piece), v = Value.tuple #[Value.agg #[Value.slice A0 (r.1.Steps).length c0, Value.int .i64 r.1.Regs, Value.int .i64 r.1.Outs, Value.int .u64 r.1.Reads], Value.int .i64 r.2] ∧ St noX w0 w H [p0] ∧ OwnS eGStep 80 H A0 c0 r.1.Steps p0 ∧ inR .i64 r.1.Regs ∧ inR .i64 r.1.Outs ∧ inR .u64 r.1.Reads ∧ inR .i64 r.2)) := by
  have hS := St.start hI noX
  unfold regs_Give at hF
  refine enter fi18.hfn rfl rfl rfl fun a hA => wp_seq (wp_region_lit (o_box hA hS rfl rfl rfl fun a w g71745 p71746 hA hS hb71747 => o_alloc tb hA hS rfl rfl rfl fun a w g71749 p71750 hA hS hb71751 => pr tb 1 hA rfl fun a hA => wpList_nil (tn (wp_seq (wp_region_lit (o_ld tb hA hS hb71747 rfl (i := 1) rfl rfl rfl rfl rfl rfl fun a hA => ?_))))))
  obtain ⟨r71752, hx71753, hF⟩ := bind_some hF
  refine o_call1 hA fi8 rfl rfl rfl rfl (c_flow_Trim (x0 := x0) hS.imm h0_0 h0_1 h0_2 hx71753) fun a w v71773 hres hA => ?_
  obtain ⟨A71757, c71758, p71759, A71762, c71763, p71764, A71767, c71768, p71769, rfl, hS71754, hO71760, hO71765, hO71770, hr71772⟩ := hres
  have hS := hS.callL hS71754 (PHeap.le.refl _)
  refine pr tb 3 hA rfl fun a hA => o_alloc tb hA hS rfl rfl rfl fun a w g71775 p71776 hA hS hb71777 => o_st tb hA hS hb71777 rfl rfl (i := 0) rfl rfl rfl rfl rfl rfl rfl fun w p71778 hS hb71779 => pr tb 1 hA rfl fun a hA => wpList_nil (tn (wp_seq (wp_seq (wp_region_lit (pr tb 2 hA rfl fun a hA => wpList_nil (tn ?_))))))
  rcases ite_some hF with ⟨hc71780, hF⟩ | ⟨hc71780, hF⟩
  rotate_left
  · refine cT hA rfl (nt_of (decide_eq_false hc71780)) (wp_seq (wp_region_lit (pr tb 2 hA rfl fun a hA => o_st tb hA hS hb71751 rfl rfl (i := 4) rfl rfl rfl rfl rfl rfl rfl fun w p143488 hS hb143489 => pr tb 1 hA rfl fun a hA => wpList_nil (tn (wp_ret (tr (b_ret hA (rs := [.cell 2 55, .tmp 3]) rfl (.cell rfl (hb143489.load tb hS (i := 4) rfl rfl rfl rfl) (.tmp rfl .nil)) ?_)))))))
    obtain rfl := Option.some.inj hF
    have hS := hS.nil'
    exact ⟨_, _, _, rfl, hS.pick (is := [0]) rfl (by decide), OwnS.nil, (inR_c rfl), (inR_c rfl), (inR_c rfl), hr71772⟩
  refine cF hA rfl (nf_of (decide_eq_true hc71780)) (wp_skip (tn (wp_seq (rx (fun b w => St noX w0 w H (bif b then [p71778, p71759, p71764, p71769, p71750, p71746] else [p71778, p71759, p71764, p71769, p71750, p71746])) [] (.q true [0, 2, 3, 4, 5, 6, 7, 8] (.e 1 (.e 9 (.q true [10] (.e 11 (.q true [12] .z)))))) hmix (by decide +kernel) ?_))))
  have hS := hS.drew
  refine ⟨(hS.pickO (is := [some 0, some 1, some 2, some 3, some 4, some 5]) rfl (by decide)), ?_⟩
  refine q_ld tb hA hb71779 rfl (i := 0) rfl rfl rfl rfl rfl rfl fun a hA => qpr tb 1 hA rfl fun a hA => q_ld tb hA hb71779 rfl (i := 0) rfl rfl rfl rfl rfl rfl fun a hA => qpr tb 2 hA rfl fun a hA => q_ld tb hA hb71779 rfl (i := 0) rfl rfl rfl rfl rfl rfl fun a hA => qpr tb 2 hA rfl fun a hA => wpHold_nil (o_bsl (e := (eInt .i64 8)) (xs := ([((-1) : Int)] : List Int)) tb hA hS rfl rfl rfl (.cons ⟨rfl, (inR_c rfl)⟩ .nil) rfl rfl rfl rfl rfl rfl rfl rfl rfl fun a w A71831 p71832 hA hS hO71833 hN71835 => wpList_nil (tn (⟨⟨fun _ => (hS.pickO (is := [some 1, some 2, some 3, some 4, some 5, some 6]) rfl (by decide)), fun _ _ => (hS.pickO (is := [some 1, some 2, some 3, some 4, some 5, some 6]) rfl (by decide))⟩, ?_⟩)))
  obtain ⟨Hb71836, hSb71836, hleb71836, hplb71836⟩ := hS.freezeT (i := 0) rfl
  have hRb71837 := hO71833.rd2 hplb71836 hleb71836
  obtain ⟨r71838, hx71839, hF⟩ := bind_some hF
  refine o_call1 hA fi29 rfl rfl rfl rfl (c_slices_Repeat_int_int (x0 := ([((-1) : Int)] : List Int)) (x1 := (w64 (((r71752.1.Inputs).length : Int) + ((r71752.1.Nodes).length : Int)))) hSb71836.imm hRb71837 (inR_wrap _ _) hx71839) fun a w v71848 hres hA => ?_
  obtain ⟨A71843, c71844, p71845, rfl, hS71840, hO71846⟩ := hres
  have hS := hS.callL hS71840 hleb71836
  have hO71849 := hO71846.flat (H' := H) (fun _ _ _ _ h => h)
  refine wpList_nil (tn (⟨⟨fun _ => (hS.pickO (is := [some 2, some 3, some 4, some 5, some 6, some 7]) rfl (by decide)), fun _ _ => (hS.pickO (is := [some 2, some 3, some 4, some 5, some 6, some 7]) rfl (by decide))⟩, ?_⟩))
  refine ⟨(hS.pickO (is := [some 2, some 3, some 4, some 5, some 6, some 7]) rfl (by decide)), ?_⟩
  refine q_bldP (H := H) (ps := [.v [Value.slice none 0 0, Value.slice none 0 0, Value.slice none 0 0, Value.slice none 0 0, Value.int .i64 0, Value.int .i64 0, Value.int .u64 0], .a (ptA eBool 256 (List.replicate 256 false)), .v [Value.slice none 0 0, Value.bool false]]) (ps' := [.v [Value.slice A71757 (r71752.1.Inputs).length c71758, Value.slice A71762 (r71752.1.Nodes).length c71763, Value.slice A71767 (r71752.1.Outs).length c71768, Value.slice none 0 0, Value.int .i64 0, Value.int .i64 0, Value.int .u64 0], .a (ptA eBool 256 (List.replicate 256 false)), .v [Value.slice A71843 (r71838).length c71844, Value.bool true]]) (css := [[Value.slice none 0 0, Value.slice none 0 0, Value.slice none 0 0, Value.slice none 0 0, Value.int .i64 0, Value.int .i64 0, Value.int .u64 0], List.replicate 256 (Value.bool false), [Value.slice none 0 0, Value.bool false]]) tb hA rfl rfl rfl (by simp [vcells]) ⟨rfl, ptA_zero (e := eBool) rfl (fun _ => rfl), rfl, trivial⟩ rfl rfl rfl rfl fun a v71850 hv71851 hA => ?_
  refine wpHold_nil (o_boxP hA hS rfl hv71851 rfl rfl fun a w g71853 p71854 hA hS hb71855 => wpList_nil (tn (⟨⟨fun _ => (hS.pickO (is := [some 3, some 4, some 5, some 6, some 7, some 8]) rfl (by decide)), fun _ _ => (hS.pickO (is := [some 3, some 4, some 5, some 6, some 7, some 8]) rfl (by decide))⟩, ?_⟩)))
  refine ⟨(hS.pickO (is := [some 3, some 4, some 5, some 6, some 7, some 8]) rfl (by decide)), ?_⟩
  refine qpr tb 1 hA rfl fun a hA => wpHold_nil (tn (wp_seq (wp_region_lit (o_ld tb hA hS hb71779 rfl (i := 3) rfl rfl rfl rfl rfl rfl fun a hA => ?_))))
  obtain ⟨Hb71856, hSb71856, hleb71856, hplb71856⟩ := hS.freezeT (i := 4) rfl
  have hRb71857 := hO71760.rd2 hplb71856 hleb71856
  obtain ⟨Hb71858, hSb71858, hleb71858, hplb71858⟩ := hSb71856.freezeT (i := 5) rfl
  have hRb71859 : RdS (eSl eGTerm) Hb71858 A71762 c71763 r71752.1.Nodes := (hO71765.mono hleb71856).rd2 hplb71858 hleb71858
  obtain ⟨Hb71860, hSb71860, hleb71860, hplb71860⟩ := hSb71858.freezeT (i := 6) rfl
  have hRb71861 := (hO71770.mono (hleb71856.trans hleb71858)).rd2 hplb71860 hleb71860
  obtain ⟨r71862, hx71863, hF⟩ := bind_some hF
  refine o_call1 hA fi30 rfl rfl rfl rfl (c_regs_last (x0 := r71752.1) hSb71860.imm (hRb71857.mono (hleb71858.trans hleb71860)) (hRb71859.mono hleb71860) hRb71861 hx71863) fun a w v71872 hres hA => ?_
  obtain ⟨A71867, c71868, p71869, rfl, hS71864, hO71870⟩ := hres
  have hS := hS.callL hS71864 ((hleb71856.trans hleb71858).trans hleb71860)
  have hO71873 := hO71870.flat (H' := H) (fun _ _ _ _ h => h)
  refine pr tb 1 hA rfl fun a hA => wpList_nil (tn (wp_seq (wp_seq (wp_region_lit (pr tb 1 hA rfl fun a hA => o_ld tb hA hS hb71779 rfl (i := 4) rfl rfl rfl rfl rfl rfl fun a hA => pr tb 2 hA rfl fun a hA => wpList_nil (tn ?_))))))
  obtain ⟨o127463, hx127463, hK127463⟩ := bind_some hF
  refine wp_cut1 (fun a w => ∃ (s127466 : List GStep × Int × Int × List Bool × List Int × Bool), o127463 = .fall s127466 ∧ ∃ (A127467 : Option Addr) (c127468 : Nat) (p127469 : Piece) (A127474 : Option Addr) (c127475 : Nat) (p127476 : Piece) (p127479 : Piece), Fr (91, []) a [(2, Value.pointer (some ⟨g71749, 0, none⟩)), (4, Value.pointer (some ⟨g71775, 0, none⟩)), (6, Value.pointer (some ⟨g71853, 0, none⟩))] ∧ St noX w0 w H [p127469, p127476, p127479, p71778, p71759, p71764, p71769, p71750] ∧ OwnS eGStep 80 H A127467 c127468 (s127466.1) p127469 ∧ inR .i64 s127466.2.1 ∧ inR .u64 s127466.2.2.1 ∧ OwnS (eInt .i64 8) 3 H A127474 c127475 (s127466.2.2.2.2.1) p127476 ∧ BxP H p127479 g71853 73 [.v [Value.slice A71757 (r71752.1.Inputs).length c71758, Value.slice A71762 (r71752.1.Nodes).length c71763, Value.slice A71767 (r71752.1.Outs).length c71768, Value.slice A127467 (s127466.1).length c127468, Value.int .i64 s127466.2.1, Value.int .i64 0, Value.int .u64 s127466.2.2.1], .a (ptA eBool 256 s127466.2.2.2.1), .v [Value.slice A127474 (s127466.2.2.2.2.1).length c127475, Value.bool s127466.2.2.2.2.2]]) ?_ ?_
  rotate_left
  · rintro a w ⟨s127466, rfl, A127467, c127468, p127469, A127474, c127475, p127476, p127479, hA, hS, hO127470, hr127472, hr127473, hO127477, hb127480⟩
    have hF := hK127463
    refine tn (wp_seq (wp_seq (wp_region_lit (pr tb 1 hA rfl fun a hA => o_ld tb hA hS hb71779 rfl (i := 3) rfl rfl rfl rfl rfl rfl fun a hA => pr tb 2 hA rfl fun a hA => wpList_nil (tn ?_)))))
    obtain ⟨o142651, hx142651, hK142651⟩ := bind_some hF
    refine wp_cut1 (fun a w => ∃ (A142654 : Option Addr) (c142655 : Nat) (p142656 : Piece) (A142661 : Option Addr) (c142662 : Nat) (p142663 : Piece) (p142666 : Piece), Fr (91, []) a [(2, Value.pointer (some ⟨g71749, 0, none⟩)), (4, Value.pointer (some ⟨g71775, 0, none⟩)), (6, Value.pointer (some ⟨g71853, 0, none⟩))] ∧ St noX w0 w H [p142656, p142663, p142666, p71778, p71759, p71764, p71769, p71750] ∧ OwnS eGStep 80 H A142654 c142655 (o142651.1) p142656 ∧ inR .i64 o142651.2.1 ∧ inR .u64 o142651.2.2.1 ∧ OwnS (eInt .i64 8) 3 H A142661 c142662 (o142651.2.2.2.2.1) p142663 ∧ BxP H p142666 g71853 73 [.v [Value.slice A71757 (r71752.1.Inputs).length c71758, Value.slice A71762 (r71752.1.Nodes).length c71763, Value.slice A71767 (r71752.1.Outs).length c71768, Value.slice A142654 (o142651.1).length c142655, Value.int .i64 o142651.2.1, Value.int .i64 0, Value.int .u64 o142651.2.2.1], .a (ptA eBool 256 o142651.2.2.2.1), .v [Value.slice A142661 (o142651.2.2.2.2.1).length c142662, Value.bool o142651.2.2.2.2.2]]) ?_ ?_
    rotate_left
    · rintro a w ⟨A142654, c142655, p142656, A142661, c142662, p142663, p142666, hA, hS, hO142657, hr142659, hr142660, hO142664, hb142667⟩
      have hF := hK142651
      refine tn (wp_seq (wp_seq (wp_region_lit (pr tb 3 hA rfl fun a hA => o_ldP tb hA hS hb142667 rfl (i := 2) rfl rfl rfl rfl rfl rfl fun a hA => pr tb 1 hA rfl fun a hA => wpList_nil (tn ?_)))))
      rcases ite_some hF with ⟨hc143480, hF⟩ | ⟨hc143480, hF⟩
      rotate_left
      · refine cT hA rfl (nt_of (ff_of hc143480)) (wp_seq (wp_region_lit (pr tb 1 hA rfl fun a hA => o_st tb hA hS hb71751 rfl rfl (i := 7) rfl rfl rfl rfl rfl rfl rfl fun w p143485 hS hb143486 => pr tb 1 hA rfl fun a hA => wpList_nil (tn (wp_ret (tr (b_ret hA (rs := [.cell 2 55, .tmp 3]) rfl (.cell rfl (hb143486.load tb hS (i := 7) rfl rfl rfl rfl) (.tmp rfl .nil)) ?_)))))))
        obtain rfl := Option.some.inj hF
        have hS := hS.nil'
        exact ⟨_, _, _, rfl, hS.pick (is := [0]) rfl (by decide), OwnS.nil, (inR_c rfl), (inR_c rfl), (inR_c rfl), (inR_c rfl)⟩
      refine cF hA rfl (nf_of (hc143480)) (wp_skip (tn (wp_seq (wp_region_lit (pr tb 2 hA rfl fun a hA => o_ld tb hA hS hb71779 rfl (i := 3) rfl rfl rfl rfl rfl rfl fun a hA => pr tb 4 hA rfl fun a hA => o_stP (ps' := [.v [Value.slice A71757 (r71752.1.Inputs).length c71758, Value.slice A71762 (r71752.1.Nodes).length c71763, Value.slice A71767 (r71752.1.Outs).length c71768, Value.slice A142654 (o142651.1).length c142655, Value.int .i64 o142651.2.1, Value.int .i64 ((r71752.1.Outs).length : Int), Value.int .u64 o142651.2.2.1], .a (ptA eBool 256 o142651.2.2.2.1), .v [Value.slice A142661 (o142651.2.2.2.2.1).length c142662, Value.bool o142651.2.2.2.2.2]]) tb hA hS hb142667 rfl rfl (i := 2) rfl rfl rfl rfl rfl rfl rfl fun w p143481 hS hb143482 => ?_)))))
      refine wpList_nil (tn (wp_seq (wp_region_lit (pr tb 3 hA rfl fun a hA => o_ldP tb hA hS hb143482 rfl (i := 2) rfl rfl rfl rfl rfl rfl fun a hA => o_st tb hA hS hb71751 rfl rfl (i := 7) rfl rfl rfl rfl rfl rfl rfl fun w p143483 hS hb143484 => pr tb 1 hA rfl fun a hA => wpList_nil (tn (wp_ret (b_ret hA (rs := [.cell 2 55, .tmp 3]) rfl (.cell rfl (hb143484.load tb hS (i := 7) rfl rfl rfl rfl) (.tmp rfl .nil)) ?_)))))))
      obtain rfl := Option.some.inj hF
      exact ⟨_, _, _, rfl, hS.pick (is := [0]) rfl (by decide), hO142657, hr142659, (inR_nat (Nat.le_trans (hO71770.len rfl) (by decide))), hr142660, (inR_c rfl)⟩
    have hF := hx142651
    refine wp_block ?_
    have hbd142651 : (r71752.1.Outs).length ≤ 9223372036854775807 := (Nat.le_trans (hO71770.len rfl) (by decide))
    refine wp_for0 (n := (r71752.1.Outs).length) (s0 := (s127466.1, s127466.2.1, s127466.2.2.1, s127466.2.2.2.1, s127466.2.2.2.2.1, s127466.2.2.2.2.2)) (fun (i142652 : Nat) (s142653 : List GStep × Int × Int × List Bool × List Int × Bool) a w => ∃ (A142668 : Option Addr) (c142669 : Nat) (p142670 : Piece) (A142675 : Option Addr) (c142676 : Nat) (p142677 : Piece) (p142680 : Piece), Fr (91, []) a [(2, Value.pointer (some ⟨g71749, 0, none⟩)), (4, Value.pointer (some ⟨g71775, 0, none⟩)), (6, Value.pointer (some ⟨g71853, 0, none⟩)), (52, Value.slice A71767 (r71752.1.Outs).length c71768), (53, Value.int .i64 ((r71752.1.Outs).length : Int)), (54, Value.int .i64 (i142652 : Int))] ∧ St noX w0 w H [p142670, p142677, p142680, p71778, p71759, p71764, p71769, p71750] ∧ OwnS eGStep 80 H A142668 c142669 (s142653.1) p142670 ∧ inR .i64 s142653.2.1 ∧ inR .u64 s142653.2.2.1 ∧ OwnS (eInt .i64 8) 3 H A142675 c142676 (s142653.2.2.2.2.1) p142677 ∧ BxP H p142680 g71853 73 [.v [Value.slice A71757 (r71752.1.Inputs).length c71758, Value.slice A71762 (r71752.1.Nodes).length c71763, Value.slice A71767 (r71752.1.Outs).length c71768, Value.slice A142668 (s142653.1).length c142669, Value.int .i64 s142653.2.1, Value.int .i64 0, Value.int .u64 s142653.2.2.1], .a (ptA eBool 256 s142653.2.2.2.1), .v [Value.slice A142675 (s142653.2.2.2.2.1).length c142676, Value.bool s142653.2.2.2.2.2]]) hF ⟨_, _, _, _, _, _, _, hA.sub ⟨rfl, rfl, rfl, rfl, rfl, rfl, trivial⟩, hS, hO127470, hr127472, hr127473, hO127477, hb127480⟩ ?_
    rintro After142651 i142652 s142653 a w ⟨A142668, c142669, p142670, A142675, c142676, p142677, p142680, hA, hS, hO142671, hr142673, hr142674, hO142678, hb142681⟩ hin142651 hst142651 hge142651
    rcases Nat.lt_or_ge i142652 ((r71752.1.Outs).length) with hlt142651 | hgt142651
    rotate_left
    · have hF := congrArg some (hge142651 hgt142651)
      refine wp_seq (wp_region_lit (pr tb 1 hA rfl fun a hA => wpList_nil (tn (wp_seq (cF hA rfl (decide_eq_false (show ¬ ((i142652 : Int) < ((r71752.1.Outs).length : Int)) by omega)) (wp_exit (te (te (be (tn ?_))))))))))
      obtain rfl := Option.some.inj hF
      exact ⟨_, _, _, _, _, _, _, hA.sub ⟨rfl, rfl, rfl, trivial⟩, hS, hO142671, hr142673, hr142674, hO142678, hb142681⟩
    obtain ⟨cc142651, hF, hgo142651⟩ := hst142651 hlt142651
    refine wp_seq (wp_region_lit (pr tb 1 hA rfl fun a hA => wpList_nil (tn (wp_seq (cT hA rfl (decide_eq_true (show (i142652 : Int) < ((r71752.1.Outs).length : Int) by omega)) (wp_skip (tn (wp_seq (wp_block (wp_seq (wp_region_lit ?_)))))))))))
    refine pr tb 1 hA rfl fun a hA => ?_
    obtain ⟨x142682, hx142683, hF⟩ := bind_some hF
    refine o_idxO tb hA hO71770 hx142683 rfl rfl rfl rfl rfl rfl rfl rfl fun a ad142684 hA hE142685 hat142686 => o_ldO tb hA hS hE142685 rfl (i := 6) rfl rfl rfl rfl rfl rfl fun a cs142687 hc142688 hA => ?_
    obtain ⟨rfl, hr142689⟩ := hc142688
    refine pr tb 2 hA rfl fun a hA => wpList_nil (tn (wp_seq (wp_region_lit (pr tb 2 hA rfl fun a hA => ?_))))
    obtain ⟨o143230, hx143230, hK143230⟩ := bind_some hF
    refine o_call1 (R := fun v w => ∃ (A143231 : Option Addr) (c143232 : Nat) (p143233 : Piece) (A143238 : Option Addr) (c143239 : Nat) (p143240 : Piece) (p143243 : Piece), v = Value.tuple #[] ∧ St noX w0 w H [p143233, p143240, p143243, p71778, p71759, p71764, p71769, p71750] ∧ OwnS eGStep 80 H A143231 c143232 (o143230.1) p143233 ∧ inR .i64 o143230.2.1 ∧ inR .u64 o143230.2.2.1 ∧ OwnS (eInt .i64 8) 3 H A143238 c143239 (o143230.2.2.2.2.1) p143240 ∧ BxP H p143243 g71853 73 [.v [Value.slice A71757 (r71752.1.Inputs).length c71758, Value.slice A71762 (r71752.1.Nodes).length c71763, Value.slice A71767 (r71752.1.Outs).length c71768, Value.slice A143231 (o143230.1).length c143232, Value.int .i64 o143230.2.1, Value.int .i64 0, Value.int .u64 o143230.2.2.1], .a (ptA eBool 256 o143230.2.2.2.1), .v [Value.slice A143238 (o143230.2.2.2.2.1).length c143239, Value.bool o143230.2.2.2.2.2]]) hA fi32 rfl rfl rfl rfl ?_ ?_
    rotate_left
    · rintro a w v ⟨A143231, c143232, p143233, A143238, c143239, p143240, p143243, rfl, hS, hO143234, hr143236, hr143237, hO143241, hb143244⟩ hA
      have hF := hK143230
      refine wpList_nil (tn (wp_region_lit (pr tb 5 hA rfl fun a hA => o_ldP tb hA hS hb143244 rfl (i := 2) rfl rfl rfl rfl rfl rfl fun a hA => pr tb 1 hA rfl fun a hA => ?_)))
      obtain ⟨x143420, hx143421, hF⟩ := bind_some hF
      refine o_idxO tb hA hO143241 hx143421 rfl rfl rfl rfl rfl rfl rfl rfl fun a ad143422 hA hE143423 hat143424 => o_ldO tb hA hS hE143423 rfl (i := 1) rfl rfl rfl rfl rfl rfl fun a cs143425 hc143426 hA => ?_
      obtain ⟨rfl, hr143427⟩ := hc143426
      refine pr tb 1 hA rfl fun a hA => o_inl hA fi33 rfl rfl rfl rfl (enter fi33.hfn rfl rfl rfl fun a1 hA1 => wp_seq (wp_region_lit (o_box hA1 hS rfl rfl rfl fun a1 w g143429 p143430 hA1 hS hb143431 => wpList_nil (tn (wp_seq (wp_seq (wp_region_lit (pr tb 4 hA1 rfl fun a1 hA1 => o_ldP tb hA1 hS hb143244 rfl (i := 3) rfl rfl rfl rfl rfl rfl fun a1 hA1 => ?_))))))))
      refine pr tb 2 hA1 rfl fun a1 hA1 => wpList_nil (tn ?_)
      rcases ite_some hF with ⟨hc143432, hF⟩ | ⟨hc143432, hF⟩
      · refine cT hA1 rfl (decide_eq_true hc143432) (wp_seq (wp_region_lit (pr tb 3 hA1 rfl fun a1 hA1 => o_stP (ps' := [.v [Value.slice A71757 (r71752.1.Inputs).length c71758, Value.slice A71762 (r71752.1.Nodes).length c71763, Value.slice A71767 (r71752.1.Outs).length c71768, Value.slice A143231 (o143230.1).length c143232, Value.int .i64 o143230.2.1, Value.int .i64 0, Value.int .u64 o143230.2.2.1], .a (ptA eBool 256 o143230.2.2.2.1), .v [Value.slice A143238 (o143230.2.2.2.2.1).length c143239, Value.bool false]]) tb hA1 hS hb143244 rfl rfl (i := 3) rfl rfl rfl rfl rfl rfl rfl fun w p143433 hS hb143434 => ?_)))
        refine wpList_nil (tn (wp_ret (tr (b_ret hA1 (rs := []) rfl RV.nil ?_))))
        intro a hA
        refine wpList_nil (bn (tn (wp_region_lit (pr tb 2 hA rfl fun a hA => wpList_nil (tn ?_)))))
        obtain rfl := Option.some.inj hF
        have hA := hA.re (d := 54) rfl (congrArg (Value.int .i64) (w64_succ hlt142651 hbd142651))
        exact ⟨(o143230.1, o143230.2.1, o143230.2.2.1, o143230.2.2.2.1, o143230.2.2.2.2.1, false), ⟨_, _, _, _, _, _, _, hA.sub ⟨rfl, rfl, rfl, rfl, rfl, rfl, trivial⟩, hS.pick (is := [1, 2, 3, 4, 5, 6, 7, 8]) rfl (by decide), hO143234, hr143236, hr143237, hO143241, hb143434⟩, hlt142651, hgo142651⟩
      refine cF hA1 rfl (decide_eq_false hc143432) (wp_skip (tn (rx (fun b w => St noX w0 w H (bif b then [p143430, emp, p143240, p143243, p71778, p71759, p71764, p71769, p71750] else [p143430, emp, p143240, emp, p71778, p71759, p71764, p71769, p71750])) [12] (.q true [0, 1, 2, 3, 4, 5, 6] (.e 7 (.e 8 (.q false [9, 10] (.q true [11] (.e 12 .z)))))) hmix (by decide +kernel) ?_)))
      have hS := hS.drew
      refine ⟨(hS.pickO (is := [some 0, none, some 2, some 3, some 4, some 5, some 6, some 7, some 8]) rfl (by decide)), ?_⟩
      refine qpr tb 5 hA1 rfl fun a1 hA1 => q_ldP tb hA1 hb143244 rfl (i := 3) rfl rfl rfl rfl rfl rfl fun a1 hA1 => q_ld tb hA1 hb143431 rfl (i := 0) rfl rfl rfl rfl rfl rfl fun a1 hA1 => wpHold_nil (o_bsl (e := eGStep) (xs := ([(⟨(4 : Int), (i142652 : Int), x143420, (0 : Int)⟩ : GStep)] : List GStep)) tb hA1 hS rfl rfl rfl (.cons ⟨rfl, (inR_c rfl), (inR_nat (by omega)), hr143427, (inR_c rfl)⟩ .nil) rfl rfl rfl rfl rfl rfl rfl rfl rfl fun a1 w A143465 p143466 hA1 hS hO143467 hN143469 => wpList_nil (tn (⟨⟨fun _ => (hS.pickO (is := [some 1, none, some 3, none, some 5, some 6, some 7, some 8, some 9]) rfl (by decide)), fun _ _ => (hS.pickO (is := [some 1, none, some 3, some 4, some 5, some 6, some 7, some 8, some 9]) rfl (by decide))⟩, ?_⟩)))
      obtain ⟨z143470, hz143471, hF⟩ := bind_some hF
      refine o_app (e := eGStep) tb hA1 hS hO143234 (k := 2) rfl (hO143467.src hS (i := 0) rfl) hz143471 rfl rfl rfl rfl rfl rfl rfl rfl rfl rfl rfl rfl rfl fun a1 w A143472 c143473 p143474 hA1 hS hO143475 hN143477 => wpList_nil (tn (⟨⟨fun _ => (hS.pickO (is := [some 1, none, some 3, none, some 5, some 6, some 7, some 8, some 9]) rfl (by decide)), fun _ _ => (hS.pickO (is := [some 1, none, some 3, some 4, some 5, some 6, some 7, some 8, some 9]) rfl (by decide))⟩, ?_⟩))
      refine ⟨(hS.pickO (is := [some 1, none, some 3, none, some 5, some 6, some 7, some 8, some 9]) rfl (by decide)), ?_⟩
      refine qpr tb 2 hA1 rfl fun a1 hA1 => wpHold_nil (⟨(hS.pickO (is := [some 1, none, some 3, some 4, some 5, some 6, some 7, some 8, some 9]) rfl (by decide)), ?_⟩)
      refine qpr tb 1 hA1 rfl fun a1 hA1 => wpHold_nil (o_stP (ps' := [.v [Value.slice A71757 (r71752.1.Inputs).length c71758, Value.slice A71762 (r71752.1.Nodes).length c71763, Value.slice A71767 (r71752.1.Outs).length c71768, Value.slice A143472 (z143470).length c143473, Value.int .i64 o143230.2.1, Value.int .i64 0, Value.int .u64 o143230.2.2.1], .a (ptA eBool 256 o143230.2.2.2.1), .v [Value.slice A143238 (o143230.2.2.2.2.1).length c143239, Value.bool o143230.2.2.2.2.2]]) tb hA1 hS hb143244 rfl rfl (i := 4) rfl rfl rfl rfl rfl rfl rfl fun w p143478 hS hb143479 => wpList_nil (tn (⟨⟨fun _ => (hS.pickO (is := [some 1, none, some 3, none, some 5, some 6, some 7, some 8, some 9]) rfl (by decide)), fun h => absurd h (by decide)⟩, ?_⟩)))
      refine b_end hA1 (rs := []) rfl RV.nil ?_
      intro a hA
      refine wpList_nil (bn (tn (wp_region_lit (pr tb 2 hA rfl fun a hA => wpList_nil (tn ?_)))))
      obtain rfl := Option.some.inj hF
      have hA := hA.re (d := 54) rfl (congrArg (Value.int .i64) (w64_succ hlt142651 hbd142651))
      exact ⟨(z143470, o143230.2.1, o143230.2.2.1, o143230.2.2.2.1, o143230.2.2.2.2.1, o143230.2.2.2.2.2), ⟨_, _, _, _, _, _, _, hA.sub ⟨rfl, rfl, rfl, rfl, rfl, rfl, trivial⟩, hS.pick (is := [2, 3, 4, 5, 6, 7, 8, 9]) rfl (by decide), hO143475, hr143236, hr143237, hO143241, hb143479⟩, hlt142651, hgo142651⟩
    have hF := hx143230
    refine enter fi32.hfn rfl rfl rfl fun a1 hA1 => wp_seq (wp_seq (wp_region_lit (pr tb 5 hA1 rfl fun a1 hA1 => o_ldP tb hA1 hS hb142681 rfl (i := 2) rfl rfl rfl rfl rfl rfl fun a1 hA1 => pr tb 3 hA1 rfl fun a1 hA1 => ?_)))
    rcases ite_some hF with ⟨hc143255, hF⟩ | ⟨hc143255, hF⟩
    · have hA1 := hA1.re (d := 13) rfl (congrArg Value.bool (decide_eq_true hc143255 : _ = true))
      refine pr tb 9 hA1 rfl fun a1 hA1 => wpList_nil (tn (cT hA1 rfl rfl (wp_ret (tr (b_ret hA1 (rs := []) rfl RV.nil ?_)))))
      obtain rfl := Option.some.inj hF
      exact ⟨_, _, _, _, _, _, _, rfl, hS, hO142671, hr142673, hr142674, hO142678, hb142681⟩
    have hA1 := hA1.re (d := 13) rfl (congrArg Value.bool (decide_eq_false hc143255 : _ = false))
    refine pr tb 3 hA1 rfl fun a1 hA1 => o_ldP tb hA1 hS hb142681 rfl (i := 2) rfl rfl rfl rfl rfl rfl fun a1 hA1 => pr tb 1 hA1 rfl fun a1 hA1 => ?_
    obtain ⟨x143256, hx143257, hF⟩ := bind_some hF
    refine o_idxO tb hA1 hO142678 hx143257 rfl rfl rfl rfl rfl rfl rfl rfl fun a1 ad143258 hA1 hE143259 hat143260 => o_ldO tb hA1 hS hE143259 rfl (i := 1) rfl rfl rfl rfl rfl rfl fun a1 cs143261 hc143262 hA1 => ?_
    obtain ⟨rfl, hr143263⟩ := hc143262
    refine pr tb 2 hA1 rfl fun a1 hA1 => wpList_nil (tn ?_)
    rcases ite_some hF with ⟨hc143264, hF⟩ | ⟨hc143264, hF⟩
    · refine cT hA1 rfl (decide_eq_true hc143264) (wp_ret (tr (b_ret hA1 (rs := []) rfl RV.nil ?_)))
      obtain rfl := Option.some.inj hF
      exact ⟨_, _, _, _, _, _, _, rfl, hS, hO142671, hr142673, hr142674, hO142678, hb142681⟩
    refine cF hA1 rfl (decide_eq_false hc143264) (wp_skip (tn (wp_seq (wp_region_lit (pr tb 2 hA1 rfl fun a1 hA1 => o_inl hA1 fi48 rfl rfl rfl rfl (enter fi48.hfn rfl rfl rfl fun a2 hA2 => wp_seq (wp_region_lit (pr tb 3 hA2 rfl fun a2 hA2 => o_slA tb hA2 rfl rfl rfl rfl rfl rfl fun a2 hA2 => ?_))))))))
    have hA2 := hA2.re (d := 8) rfl (congrArg (fun n => Value.slice (some ⟨g71853, 7, none⟩) n 256) (hb142681.alen (k := 1) rfl).symm)
    obtain ⟨Hb143265, hSb143265, hleb143265, hplb143265⟩ := hS.freezeT (i := 2) rfl
    have hRb143266 := hb142681.rd2 (k := 1) rfl rfl rfl hplb143265 hleb143265
    obtain ⟨r143267, hx143268, hF⟩ := bind_some hF
    refine o_call1 hA2 fi57 rfl rfl rfl rfl (c_slices_Index_bool_bool (x0 := s142653.2.2.2.1) (x1 := false) hSb143265.imm hRb143266 hx143268) fun a2 w v143273 hres hA2 => ?_
    obtain ⟨rfl, hS143269, hr143272⟩ := hres
    have hS := hS.callL hS143269 hleb143265
    refine pr tb 1 hA2 rfl fun a2 hA2 => wpList_nil (tn ?_)
    obtain ⟨o143277, hx143277, hK143277⟩ := bind_some hF
    refine wp_cut (fun a w => ∃ (p143279 : Piece), Fr (39, []) a [(0, Value.pointer (some ⟨g71853, 0, none⟩)), (1, Value.int .i64 x142682), (4, Value.int .i64 o143277.1)] ∧ St noX w0 w H [p142670, p142677, p143279, p71778, p71759, p71764, p71769, p71750] ∧ inR .i64 o143277.1 ∧ BxP H p143279 g71853 73 [.v [Value.slice A71757 (r71752.1.Inputs).length c71758, Value.slice A71762 (r71752.1.Nodes).length c71763, Value.slice A71767 (r71752.1.Outs).length c71768, Value.slice A142668 (s142653.1).length c142669, Value.int .i64 s142653.2.1, Value.int .i64 0, Value.int .u64 s142653.2.2.1], .a (ptA eBool 256 s142653.2.2.2.1), .v [Value.slice A142675 (s142653.2.2.2.2.1).length c142676, Value.bool o143277.2]]) ?_ ?_
    · have hF := hx143277
      refine wp_seq (wp_region_lit (pr tb 2 hA2 rfl fun a2 hA2 => wpList_nil (tn ?_)))
      rcases ite_some hF with ⟨hc143281, hF⟩ | ⟨hc143281, hF⟩
      rotate_left
      · refine cF hA2 rfl (decide_eq_false hc143281) (wp_skip (tn ?_))
        obtain rfl := Option.some.inj hF
        exact ⟨_, hA2.sub ⟨rfl, rfl, rfl, trivial⟩, hS, hr143272, hb142681⟩
      refine cT hA2 rfl (decide_eq_true hc143281) (wp_region_lit (pr tb 3 hA2 rfl fun a2 hA2 => o_stP (ps' := [.v [Value.slice A71757 (r71752.1.Inputs).length c71758, Value.slice A71762 (r71752.1.Nodes).length c71763, Value.slice A71767 (r71752.1.Outs).length c71768, Value.slice A142668 (s142653.1).length c142669, Value.int .i64 s142653.2.1, Value.int .i64 0, Value.int .u64 s142653.2.2.1], .a (ptA eBool 256 s142653.2.2.2.1), .v [Value.slice A142675 (s142653.2.2.2.2.1).length c142676, Value.bool false]]) tb hA2 hS hb142681 rfl rfl (i := 2) rfl rfl rfl rfl rfl rfl rfl fun w p143282 hS hb143283 => ?_))
      refine pr tb 1 hA2 rfl fun a2 hA2 => wpList_nil (tn ?_)
      obtain rfl := Option.some.inj hF
      exact ⟨_, hA2.sub ⟨rfl, rfl, rfl, trivial⟩, hS, (inR_c rfl), hb143283⟩
    rintro a w ⟨p143279, hA2, hS, hr143278, hb143280⟩
    have hF := hK143277
    refine wp_seq (rx (fun b w => St noX w0 w H (bif b then [p142670, p142677, p143279, p71778, p71759, p71764, p71769, p71750] else [p142670, emp, emp, p71778, p71759, p71764, p71769, p71750])) [11, 13] (.q true [0, 1] (.q false [2, 3, 4] (.q true [5] (.q false [6, 7, 8, 9] (.q true [10] (.e 11 (.q false [12] (.e 13 .z)))))))) hmix (by decide +kernel) ?_)
    have hS := hS.drew
    refine ⟨(hS.pickO (is := [some 0, some 1, some 2, some 3, some 4, some 5, some 6, some 7]) rfl (by decide)), ?_⟩
    refine qpr tb 2 hA2 rfl fun a2 hA2 => wpHold_nil (⟨(hS.pickO (is := [some 0, none, none, some 3, some 4, some 5, some 6, some 7]) rfl (by decide)), ?_⟩)
    refine qpr tb 3 hA2 rfl fun a2 hA2 => wpHold_nil (⟨(hS.pickO (is := [some 0, some 1, some 2, some 3, some 4, some 5, some 6, some 7]) rfl (by decide)), ?_⟩)
    refine q_ldP tb hA2 hb143280 rfl (i := 2) rfl rfl rfl rfl rfl rfl fun a2 hA2 => wpHold_nil (⟨(hS.pickO (is := [some 0, none, none, some 3, some 4, some 5, some 6, some 7]) rfl (by decide)), ?_⟩)
    refine qpr tb 4 hA2 rfl fun a2 hA2 => wpHold_nil (⟨(hS.pickO (is := [some 0, some 1, some 2, some 3, some 4, some 5, some 6, some 7]) rfl (by decide)), ?_⟩)
    obtain ⟨x143316, hx143317, hF⟩ := bind_some hF
    refine q_idxA tb hA2 hb143280 (k := 1) rfl rfl hx143317 rfl rfl rfl rfl rfl rfl rfl rfl fun a2 ad143318 hA2 hE143319 had143320 => wpHold_nil (o_stA (v := Value.bool true) (y0 := true) tb hA2 hS hb143280 (k := 1) rfl rfl hx143317 had143320 rfl rfl rfl (i := 2) rfl rfl rfl rfl rfl fun w p143321 hS hb143322 => wpList_nil (tn (⟨⟨fun _ => (hS.pickO (is := [some 0, none, none, some 3, some 4, some 5, some 6, some 7]) rfl (by decide)), fun h => absurd h (by decide)⟩, ?_⟩)))
    refine ⟨(hS.pickO (is := [some 0, none, none, some 3, some 4, some 5, some 6, some 7]) rfl (by decide)), ?_⟩
    obtain ⟨x143323, hx143324, hF⟩ := bind_some hF
    refine q_idxO tb hA2 hO142678 hx143324 rfl rfl rfl rfl rfl rfl rfl rfl fun a2 ad143325 hA2 hE143326 hat143327 => wpHold_nil (o_stO (v := Value.int .i64 o143277.1) (y0 := o143277.1) tb hA2 hS hO142678 hat143327 ((idx_some hx143324).2.2) ⟨rfl, hr143278⟩ rfl rfl (k := 1) rfl rfl rfl rfl rfl fun w p143328 hS hO143329 => ?_)
    have hq143330 : (s142653.2.2.2.2.1).length = ((s142653.2.2.2.2.1).set (x142682).toNat o143277.1).length := (List.length_set ..).symm
    have hA1 := hA1.re (d := 17) rfl (congrArg (fun n => Value.slice A142675 n c142676) hq143330)
    have hA2 := hA2.re (d := 20) rfl (congrArg (fun n => Value.slice A142675 n c142676) hq143330)
    have hb143331 : BxP H p143321 g71853 73 [.v [Value.slice A71757 (r71752.1.Inputs).length c71758, Value.slice A71762 (r71752.1.Nodes).length c71763, Value.slice A71767 (r71752.1.Outs).length c71768, Value.slice A142668 (s142653.1).length c142669, Value.int .i64 s142653.2.1, Value.int .i64 0, Value.int .u64 s142653.2.2.1], .a (ptA eBool 256 ((s142653.2.2.2.1).set (o143277.1).toNat true)), .v [Value.slice A142675 ((s142653.2.2.2.2.1).set (x142682).toNat o143277.1).length c142676, Value.bool o143277.2]] := Eq.mp (by rw [← hq143330] <;> rfl) hb143322
    refine wpList_nil (tn (⟨⟨fun _ => (hS.pickO (is := [some 0, none, none, some 3, some 4, some 5, some 6, some 7]) rfl (by decide)), fun h => absurd h (by decide)⟩, ?_⟩))
    refine tn (wp_region_lit (pr tb 5 hA2 rfl fun a2 hA2 => o_ldP tb hA2 hS hb143331 rfl (i := 2) rfl rfl rfl rfl rfl rfl fun a2 hA2 => pr tb 6 hA2 rfl fun a2 hA2 => o_stP (ps' := [.v [Value.slice A71757 (r71752.1.Inputs).length c71758, Value.slice A71762 (r71752.1.Nodes).length c71763, Value.slice A71767 (r71752.1.Outs).length c71768, Value.slice A142668 (s142653.1).length c142669, Value.int .i64 (mxI s142653.2.1 (w64 (o143277.1 + 1))), Value.int .i64 0, Value.int .u64 s142653.2.2.1], .a (ptA eBool 256 ((s142653.2.2.2.1).set (o143277.1).toNat true)), .v [Value.slice A142675 ((s142653.2.2.2.2.1).set (x142682).toNat o143277.1).length c142676, Value.bool o143277.2]]) tb hA2 hS hb143331 rfl rfl (i := 2) rfl rfl rfl rfl rfl rfl rfl fun w p143332 hS hb143333 => ?_))
    refine wpList_nil (b_end hA2 (rs := []) rfl RV.nil ?_)
    intro a1 hA1
    refine wpList_nil (tn (wp_seq (wp_region_lit (pr tb 4 hA1 rfl fun a1 hA1 => o_ldP tb hA1 hS hb143333 rfl (i := 2) rfl rfl rfl rfl rfl rfl fun a1 hA1 => pr tb 1 hA1 rfl fun a1 hA1 => ?_))))
    obtain ⟨x143334, hx143335, hF⟩ := bind_some hF
    refine o_idxO tb hA1 hO71760 hx143335 rfl rfl rfl rfl rfl rfl rfl rfl fun a1 ad143336 hA1 hE143337 hat143338 => o_ldO tb hA1 hS hE143337 rfl (i := 4) rfl rfl rfl rfl rfl rfl fun a1 cs143339 hc143340 hA1 => ?_
    obtain ⟨rfl, hr143341⟩ := hc143340
    refine pr tb 1 hA1 rfl fun a1 hA1 => wpList_nil (tn (wp_seq (wp_region_lit (pr tb 4 hA1 rfl fun a1 hA1 => o_ldP tb hA1 hS hb143333 rfl (i := 2) rfl rfl rfl rfl rfl rfl fun a1 hA1 => pr tb 1 hA1 rfl fun a1 hA1 => ?_))))
    obtain ⟨x143342, hx143343, hF⟩ := bind_some hF
    refine o_idxO tb hA1 hO143329 hx143343 rfl rfl rfl rfl rfl rfl rfl rfl fun a1 ad143344 hA1 hE143345 hat143346 => o_ldO tb hA1 hS hE143345 rfl (i := 1) rfl rfl rfl rfl rfl rfl fun a1 cs143347 hc143348 hA1 => ?_
    obtain ⟨rfl, hr143349⟩ := hc143348
    refine pr tb 2 hA1 rfl fun a1 hA1 => o_inl hA1 fi33 rfl rfl rfl rfl (enter fi33.hfn rfl rfl rfl fun a2 hA2 => wp_seq (wp_region_lit (o_box hA2 hS rfl rfl rfl fun a2 w g143351 p143352 hA2 hS hb143353 => wpList_nil (tn (wp_seq (wp_seq (wp_region_lit (pr tb 4 hA2 rfl fun a2 hA2 => o_ldP tb hA2 hS hb143333 rfl (i := 3) rfl rfl rfl rfl rfl rfl fun a2 hA2 => ?_))))))))
    refine pr tb 2 hA2 rfl fun a2 hA2 => wpList_nil (tn ?_)
    rcases ite_some hF with ⟨hc143354, hF⟩ | ⟨hc143354, hF⟩
    · refine cT hA2 rfl (decide_eq_true hc143354) (wp_seq (wp_region_lit (pr tb 3 hA2 rfl fun a2 hA2 => o_stP (ps' := [.v [Value.slice A71757 (r71752.1.Inputs).length c71758, Value.slice A71762 (r71752.1.Nodes).length c71763, Value.slice A71767 (r71752.1.Outs).length c71768, Value.slice A142668 (s142653.1).length c142669, Value.int .i64 (mxI s142653.2.1 (w64 (o143277.1 + 1))), Value.int .i64 0, Value.int .u64 s142653.2.2.1], .a (ptA eBool 256 ((s142653.2.2.2.1).set (o143277.1).toNat true)), .v [Value.slice A142675 ((s142653.2.2.2.2.1).set (x142682).toNat o143277.1).length c142676, Value.bool false]]) tb hA2 hS hb143333 rfl rfl (i := 3) rfl rfl rfl rfl rfl rfl rfl fun w p143355 hS hb143356 => ?_)))
      refine wpList_nil (tn (wp_ret (tr (b_ret hA2 (rs := []) rfl RV.nil ?_))))
      intro a1 hA1
      refine wpList_nil (tn (rx (fun b w => St noX w0 w H (bif b then [p143352, p142670, p143328, p143355, p71778, p71759, p71764, p71769, p71750] else [p143352, p142670, p143328, emp, p71778, p71759, p71764, p71769, p71750])) [11] (.q true [0, 1, 2, 3, 4, 5, 6, 7] (.q false [8, 9] (.q true [10] (.e 11 .z)))) hmix (by decide +kernel) ?_))
      have hS := hS.drew
      refine ⟨(hS.pickO (is := [some 0, some 1, some 2, some 3, some 4, some 5, some 6, some 7, some 8]) rfl (by decide)), ?_⟩
      refine qpr tb 4 hA1 rfl fun a1 hA1 => q_ldP tb hA1 hb143356 rfl (i := 3) rfl rfl rfl rfl rfl rfl fun a1 hA1 => qpr tb 1 hA1 rfl fun a1 hA1 => ?_
      rcases ite_some hF with ⟨hz143363, hF⟩ | ⟨hz143363, hF⟩
      rotate_left
      · cases hF
      refine q_shl hA1 rfl rfl hz143363 rfl rfl fun a1 hA1 => qpr tb 1 hA1 rfl fun a1 hA1 => wpHold_nil (⟨(hS.pickO (is := [some 0, some 1, some 2, none, some 4, some 5, some 6, some 7, some 8]) rfl (by decide)), ?_⟩)
      refine qpr tb 2 hA1 rfl fun a1 hA1 => wpHold_nil (⟨(hS.pickO (is := [some 0, some 1, some 2, some 3, some 4, some 5, some 6, some 7, some 8]) rfl (by decide)), ?_⟩)
      refine qpr tb 1 hA1 rfl fun a1 hA1 => wpHold_nil (o_stP (ps' := [.v [Value.slice A71757 (r71752.1.Inputs).length c71758, Value.slice A71762 (r71752.1.Nodes).length c71763, Value.slice A71767 (r71752.1.Outs).length c71768, Value.slice A142668 (s142653.1).length c142669, Value.int .i64 (mxI s142653.2.1 (w64 (o143277.1 + 1))), Value.int .i64 0, Value.int .u64 (bOr .u64 s142653.2.2.1 (shlI .u64 1 x143334))], .a (ptA eBool 256 ((s142653.2.2.2.1).set (o143277.1).toNat true)), .v [Value.slice A142675 ((s142653.2.2.2.2.1).set (x142682).toNat o143277.1).length c142676, Value.bool false]]) tb hA1 hS hb143356 rfl rfl (i := 3) rfl rfl rfl rfl rfl rfl rfl fun w p143364 hS hb143365 => ?_)
      refine wpList_nil (tn (⟨⟨fun _ => (hS.pickO (is := [some 0, some 1, some 2, none, some 4, some 5, some 6, some 7, some 8]) rfl (by decide)), fun h => absurd h (by decide)⟩, ?_⟩))
      refine b_end hA1 (rs := []) rfl RV.nil ?_
      obtain rfl := Option.some.inj hF
      exact ⟨_, _, _, _, _, _, _, rfl, hS.pick (is := [1, 2, 3, 4, 5, 6, 7, 8]) rfl (by decide), hO142671, (inR_mxI hr142673 (inR_wrap _ _)), (inR_wrap _ _), hO143329, hb143365⟩
    refine cF hA2 rfl (decide_eq_false hc143354) (wp_skip (tn (rx (fun b w => St noX w0 w H (bif b then [p143352, emp, p143328, p143332, p71778, p71759, p71764, p71769, p71750] else [p143352, emp, p143328, emp, p71778, p71759, p71764, p71769, p71750])) [12] (.q true [0, 1, 2, 3, 4, 5, 6] (.e 7 (.e 8 (.q false [9, 10] (.q true [11] (.e 12 .z)))))) hmix (by decide +kernel) ?_)))
    have hS := hS.drew
    refine ⟨(hS.pickO (is := [some 0, none, some 2, some 3, some 4, some 5, some 6, some 7, some 8]) rfl (by decide)), ?_⟩
    refine qpr tb 5 hA2 rfl fun a2 hA2 => q_ldP tb hA2 hb143333 rfl (i := 3) rfl rfl rfl rfl rfl rfl fun a2 hA2 => q_ld tb hA2 hb143353 rfl (i := 0) rfl rfl rfl rfl rfl rfl fun a2 hA2 => wpHold_nil (o_bsl (e := eGStep) (xs := ([(⟨(2 : Int), x143342, x143334, (0 : Int)⟩ : GStep)] : List GStep)) tb hA2 hS rfl rfl rfl (.cons ⟨rfl, (inR_c rfl), hr143349, hr143341, (inR_c rfl)⟩ .nil) rfl rfl rfl rfl rfl rfl rfl rfl rfl fun a2 w A143396 p143397 hA2 hS hO143398 hN143400 => wpList_nil (tn (⟨⟨fun _ => (hS.pickO (is := [some 1, none, some 3, none, some 5, some 6, some 7, some 8, some 9]) rfl (by decide)), fun _ _ => (hS.pickO (is := [some 1, none, some 3, some 4, some 5, some 6, some 7, some 8, some 9]) rfl (by decide))⟩, ?_⟩)))
    obtain ⟨z143401, hz143402, hF⟩ := bind_some hF
    refine o_app (e := eGStep) tb hA2 hS hO142671 (k := 2) rfl (hO143398.src hS (i := 0) rfl) hz143402 rfl rfl rfl rfl rfl rfl rfl rfl rfl rfl rfl rfl rfl fun a2 w A143403 c143404 p143405 hA2 hS hO143406 hN143408 => wpList_nil (tn (⟨⟨fun _ => (hS.pickO (is := [some 1, none, some 3, none, some 5, some 6, some 7, some 8, some 9]) rfl (by decide)), fun _ _ => (hS.pickO (is := [some 1, none, some 3, some 4, some 5, some 6, some 7, some 8, some 9]) rfl (by decide))⟩, ?_⟩))
    refine ⟨(hS.pickO (is := [some 1, none, some 3, none, some 5, some 6, some 7, some 8, some 9]) rfl (by decide)), ?_⟩
    refine qpr tb 2 hA2 rfl fun a2 hA2 => wpHold_nil (⟨(hS.pickO (is := [some 1, none, some 3, some 4, some 5, some 6, some 7, some 8, some 9]) rfl (by decide)), ?_⟩)
    refine qpr tb 1 hA2 rfl fun a2 hA2 => wpHold_nil (o_stP (ps' := [.v [Value.slice A71757 (r71752.1.Inputs).length c71758, Value.slice A71762 (r71752.1.Nodes).length c71763, Value.slice A71767 (r71752.1.Outs).length c71768, Value.slice A143403 (z143401).length c143404, Value.int .i64 (mxI s142653.2.1 (w64 (o143277.1 + 1))), Value.int .i64 0, Value.int .u64 s142653.2.2.1], .a (ptA eBool 256 ((s142653.2.2.2.1).set (o143277.1).toNat true)), .v [Value.slice A142675 ((s142653.2.2.2.2.1).set (x142682).toNat o143277.1).length c142676, Value.bool o143277.2]]) tb hA2 hS hb143333 rfl rfl (i := 4) rfl rfl rfl rfl rfl rfl rfl fun w p143409 hS hb143410 => ?_)
    refine wpList_nil (tn (⟨⟨fun _ => (hS.pickO (is := [some 1, none, some 3, none, some 5, some 6, some 7, some 8, some 9]) rfl (by decide)), fun h => absurd h (by decide)⟩, ?_⟩))
    refine b_end hA2 (rs := []) rfl RV.nil ?_
    intro a1 hA1
    refine wpList_nil (tn (rx (fun b w => St noX w0 w H (bif b then [p143397, p143352, p143405, p143328, p143409, p71778, p71759, p71764, p71769, p71750] else [p143397, p143352, p143405, p143328, emp, p71778, p71759, p71764, p71769, p71750])) [11] (.q true [0, 1, 2, 3, 4, 5, 6, 7] (.q false [8, 9] (.q true [10] (.e 11 .z)))) hmix (by decide +kernel) ?_))
    have hS := hS.drew
    refine ⟨(hS.pickO (is := [some 0, some 1, some 2, some 3, some 4, some 5, some 6, some 7, some 8, some 9]) rfl (by decide)), ?_⟩
    refine qpr tb 4 hA1 rfl fun a1 hA1 => q_ldP tb hA1 hb143410 rfl (i := 4) rfl rfl rfl rfl rfl rfl fun a1 hA1 => qpr tb 1 hA1 rfl fun a1 hA1 => ?_
    rcases ite_some hF with ⟨hz143417, hF⟩ | ⟨hz143417, hF⟩
    rotate_left
    · cases hF
    refine q_shl hA1 rfl rfl hz143417 rfl rfl fun a1 hA1 => qpr tb 1 hA1 rfl fun a1 hA1 => wpHold_nil (⟨(hS.pickO (is := [some 0, some 1, some 2, some 3, none, some 5, some 6, some 7, some 8, some 9]) rfl (by decide)), ?_⟩)
    refine qpr tb 2 hA1 rfl fun a1 hA1 => wpHold_nil (⟨(hS.pickO (is := [some 0, some 1, some 2, some 3, some 4, some 5, some 6, some 7, some 8, some 9]) rfl (by decide)), ?_⟩)
    refine qpr tb 1 hA1 rfl fun a1 hA1 => wpHold_nil (o_stP (ps' := [.v [Value.slice A71757 (r71752.1.Inputs).length c71758, Value.slice A71762 (r71752.1.Nodes).length c71763, Value.slice A71767 (r71752.1.Outs).length c71768, Value.slice A143403 (z143401).length c143404, Value.int .i64 (mxI s142653.2.1 (w64 (o143277.1 + 1))), Value.int .i64 0, Value.int .u64 (bOr .u64 s142653.2.2.1 (shlI .u64 1 x143334))], .a (ptA eBool 256 ((s142653.2.2.2.1).set (o143277.1).toNat true)), .v [Value.slice A142675 ((s142653.2.2.2.2.1).set (x142682).toNat o143277.1).length c142676, Value.bool o143277.2]]) tb hA1 hS hb143410 rfl rfl (i := 4) rfl rfl rfl rfl rfl rfl rfl fun w p143418 hS hb143419 => ?_)
    refine wpList_nil (tn (⟨⟨fun _ => (hS.pickO (is := [some 0, some 1, some 2, some 3, none, some 5, some 6, some 7, some 8, some 9]) rfl (by decide)), fun h => absurd h (by decide)⟩, ?_⟩))
    refine b_end hA1 (rs := []) rfl RV.nil ?_
    obtain rfl := Option.some.inj hF
    exact ⟨_, _, _, _, _, _, _, rfl, hS.pick (is := [2, 3, 4, 5, 6, 7, 8, 9]) rfl (by decide), hO143406, (inR_mxI hr142673 (inR_wrap _ _)), (inR_wrap _ _), hO143329, hb143419⟩
  have hF := hx127463
  refine wp_block ?_
  have hbd127463 : (r71752.1.Nodes).length ≤ 9223372036854775807 := (Nat.le_trans (hO71765.len' rfl) (by decide))
  have hS := hS.nil'
  refine wp_for0 (n := (r71752.1.Nodes).length) (s0 := (([] : List GStep), (0 : Int), (0 : Int), List.replicate 256 false, r71838, true)) (fun (i127464 : Nat) (s127465 : List GStep × Int × Int × List Bool × List Int × Bool) a w => ∃ (A127481 : Option Addr) (c127482 : Nat) (p127483 : Piece) (A127488 : Option Addr) (c127489 : Nat) (p127490 : Piece) (p127493 : Piece), Fr (91, []) a [(2, Value.pointer (some ⟨g71749, 0, none⟩)), (4, Value.pointer (some ⟨g71775, 0, none⟩)), (6, Value.pointer (some ⟨g71853, 0, none⟩)), (7, Value.slice A71867 (r71862).length c71868), (36, Value.int .i64 ((r71752.1.Nodes).length : Int)), (37, Value.int .i64 (i127464 : Int))] ∧ St noX w0 w H [p127483, p127490, p71869, p127493, p71778, p71759, p71764, p71769, p71750] ∧ OwnS eGStep 80 H A127481 c127482 (s127465.1) p127483 ∧ inR .i64 s127465.2.1 ∧ inR .u64 s127465.2.2.1 ∧ OwnS (eInt .i64 8) 3 H A127488 c127489 (s127465.2.2.2.2.1) p127490 ∧ BxP H p127493 g71853 73 [.v [Value.slice A71757 (r71752.1.Inputs).length c71758, Value.slice A71762 (r71752.1.Nodes).length c71763, Value.slice A71767 (r71752.1.Outs).length c71768, Value.slice A127481 (s127465.1).length c127482, Value.int .i64 s127465.2.1, Value.int .i64 0, Value.int .u64 s127465.2.2.1], .a (ptA eBool 256 s127465.2.2.2.1), .v [Value.slice A127488 (s127465.2.2.2.2.1).length c127489, Value.bool s127465.2.2.2.2.2]]) hF ⟨_, _, _, _, _, _, _, hA.sub ⟨rfl, rfl, rfl, rfl, rfl, rfl, trivial⟩, hS.pick (is := [0, 3, 1, 2, 5, 6, 7, 8, 9]) rfl (by decide), OwnS.nil, (inR_c rfl), (inR_c rfl), hO71849, hb71855⟩ ?_
  rintro After127463 i127464 s127465 a w ⟨A127481, c127482, p127483, A127488, c127489, p127490, p127493, hA, hS, hO127484, hr127486, hr127487, hO127491, hb127494⟩ hin127463 hst127463 hge127463
  rcases Nat.lt_or_ge i127464 ((r71752.1.Nodes).length) with hlt127463 | hgt127463
  rotate_left
  · have hF := congrArg some (hge127463 hgt127463)
    refine wp_seq (wp_region_lit (pr tb 1 hA rfl fun a hA => wpList_nil (tn (wp_seq (cF hA rfl (decide_eq_false (show ¬ ((i127464 : Int) < ((r71752.1.Nodes).length : Int)) by omega)) (wp_exit (te (te (be (tn ?_))))))))))
    obtain rfl := Option.some.inj hF
    exact ⟨(s127465.1, s127465.2.1, s127465.2.2.1, s127465.2.2.2.1, s127465.2.2.2.2.1, s127465.2.2.2.2.2), rfl, _, _, _, _, _, _, _, hA.sub ⟨rfl, rfl, rfl, trivial⟩, hS.pick (is := [0, 1, 3, 4, 5, 6, 7, 8]) rfl (by decide), hO127484, hr127486, hr127487, hO127491, hb127494⟩
  obtain ⟨cc127463, hF, hgo127463⟩ := hst127463 hlt127463
  refine wp_seq (wp_region_lit (pr tb 1 hA rfl fun a hA => wpList_nil (tn (wp_seq (cT hA rfl (decide_eq_true (show (i127464 : Int) < ((r71752.1.Nodes).length : Int) by omega)) (wp_skip (tn (wp_seq (wp_block (wp_seq (wp_region_lit ?_)))))))))))
  refine pr tb 2 hA rfl fun a hA => wpList_nil (tn (wp_seq (wp_region_lit (pr tb 3 hA rfl fun a hA => o_inl hA fi31 rfl rfl rfl rfl (enter fi31.hfn rfl rfl rfl fun a1 hA1 => wp_seq (wp_region_lit (o_box hA1 hS rfl rfl rfl fun a1 w g127497 p127498 hA1 hS hb127499 => o_box hA1 hS rfl rfl rfl fun a1 w g127501 p127502 hA1 hS hb127503 => o_box hA1 hS rfl rfl rfl fun a1 w g127505 p127506 hA1 hS hb127507 => ?_)))))))
  refine wpList_nil (tn (wp_seq (rx (fun b w => St noX w0 w H (bif b then [p127506, p127502, p127498, p127483, p127490, p71869, p127493, p71778, p71759, p71764, p71769, p71750] else [p127506, p127502, p127498, p127483, p127490, p71869, p127493, p71778, p71759, p71764, p71769, p71750])) [] (.q true [0, 1, 2, 3, 4, 5, 6, 7, 8] .z) hmix (by decide +kernel) ?_)))
  have hS := hS.drew
  refine ⟨(hS.pickO (is := [some 0, some 1, some 2, some 3, some 4, some 5, some 6, some 7, some 8, some 9, some 10, some 11]) rfl (by decide)), ?_⟩
  refine q_ld tb hA1 hb127499 rfl (i := 2) rfl rfl rfl rfl rfl rfl fun a1 hA1 => qpr tb 3 hA1 rfl fun a1 hA1 => q_ldP tb hA1 hb127494 rfl (i := 6) rfl rfl rfl rfl rfl rfl fun a1 hA1 => q_ld tb hA1 hb127503 rfl (i := 1) rfl rfl rfl rfl rfl rfl fun a1 hA1 => ?_
  obtain ⟨x127532, hx127533, hF⟩ := bind_some hF
  refine q_idxD tb hA1 hO71765 hx127533 rfl rfl rfl rfl rfl rfl rfl rfl fun a1 ad127534 hA1 hE127535 hat127536 => q_ldD tb hA1 hE127535 rfl (i := 9) rfl rfl rfl rfl rfl fun a1 A127537 c127538 q127539 hd127540 ho127541 hl127542 hO127543 hA1 => ?_
  have hO127543 : OwnS eGTerm 41 H A127537 c127538 x127532 q127539 := hO127543
  refine qpr tb 1 hA1 rfl fun a1 hA1 => wpHold_nil (tn (wp_seq (wp_seq (wp_region_lit (pr tb 3 hA1 rfl fun a1 hA1 => wpList_nil (tn ?_))))))
  obtain ⟨o129511, hx129511, hK129511⟩ := bind_some hF
  refine wp_cut1 (fun a w => ∃ (A129514 : Option Addr) (c129515 : Nat) (p129516 : Piece) (A129521 : Option Addr) (c129522 : Nat) (p129523 : Piece) (p129526 : Piece), Fr (97, []) a [(3, Value.pointer (some ⟨g127497, 0, none⟩)), (4, Value.pointer (some ⟨g127501, 0, none⟩)), (5, Value.pointer (some ⟨g127505, 0, none⟩)), (6, Value.slice A127537 (x127532).length c127538)] ∧ St noX w0 w H [p129516, p129523, p127506, p127502, p127498, p71869, p129526, p71778, p71759, p71764, p71769, p71750] ∧ OwnS eGStep 80 H A129514 c129515 (o129511.1) p129516 ∧ inR .i64 o129511.2.1 ∧ inR .u64 o129511.2.2.1 ∧ OwnS (eInt .i64 8) 3 H A129521 c129522 (o129511.2.2.2.2.1) p129523 ∧ BxP H p129526 g71853 73 [.v [Value.slice A71757 (r71752.1.Inputs).length c71758, Value.slice A71762 (r71752.1.Nodes).length c71763, Value.slice A71767 (r71752.1.Outs).length c71768, Value.slice A129514 (o129511.1).length c129515, Value.int .i64 o129511.2.1, Value.int .i64 0, Value.int .u64 o129511.2.2.1], .a (ptA eBool 256 o129511.2.2.2.1), .v [Value.slice A129521 (o129511.2.2.2.2.1).length c129522, Value.bool o129511.2.2.2.2.2]]) ?_ ?_
  · have hF := hx129511
    refine wp_block ?_
    have hbd129511 : (x127532).length ≤ 9223372036854775807 := (Nat.le_trans (hO127543.len rfl) (by decide))
    refine wp_for0 (n := (x127532).length) (s0 := (s127465.1, s127465.2.1, s127465.2.2.1, s127465.2.2.2.1, s127465.2.2.2.2.1, s127465.2.2.2.2.2)) (fun (i129512 : Nat) (s129513 : List GStep × Int × Int × List Bool × List Int × Bool) a w => ∃ (A129528 : Option Addr) (c129529 : Nat) (p129530 : Piece) (A129535 : Option Addr) (c129536 : Nat) (p129537 : Piece) (p129540 : Piece), Fr (97, []) a [(3, Value.pointer (some ⟨g127497, 0, none⟩)), (4, Value.pointer (some ⟨g127501, 0, none⟩)), (5, Value.pointer (some ⟨g127505, 0, none⟩)), (6, Value.slice A127537 (x127532).length c127538), (23, Value.slice A127537 (x127532).length c127538), (24, Value.int .i64 ((x127532).length : Int)), (25, Value.int .i64 (i129512 : Int))] ∧ St noX w0 w H [p129530, p129537, p127506, p127502, p127498, p71869, p129540, p71778, p71759, p71764, p71769, p71750] ∧ OwnS eGStep 80 H A129528 c129529 (s129513.1) p129530 ∧ inR .i64 s129513.2.1 ∧ inR .u64 s129513.2.2.1 ∧ OwnS (eInt .i64 8) 3 H A129535 c129536 (s129513.2.2.2.2.1) p129537 ∧ BxP H p129540 g71853 73 [.v [Value.slice A71757 (r71752.1.Inputs).length c71758, Value.slice A71762 (r71752.1.Nodes).length c71763, Value.slice A71767 (r71752.1.Outs).length c71768, Value.slice A129528 (s129513.1).length c129529, Value.int .i64 s129513.2.1, Value.int .i64 0, Value.int .u64 s129513.2.2.1], .a (ptA eBool 256 s129513.2.2.2.1), .v [Value.slice A129535 (s129513.2.2.2.2.1).length c129536, Value.bool s129513.2.2.2.2.2]]) hF ⟨_, _, _, _, _, _, _, hA1.sub ⟨rfl, rfl, rfl, rfl, rfl, rfl, rfl, trivial⟩, hS.pick (is := [3, 4, 0, 1, 2, 5, 6, 7, 8, 9, 10, 11]) rfl (by decide), hO127484, hr127486, hr127487, hO127491, hb127494⟩ ?_
    rintro After129511 i129512 s129513 a w ⟨A129528, c129529, p129530, A129535, c129536, p129537, p129540, hA1, hS, hO129531, hr129533, hr129534, hO129538, hb129541⟩ hin129511 hst129511 hge129511
    rcases Nat.lt_or_ge i129512 ((x127532).length) with hlt129511 | hgt129511
    rotate_left
    · have hF := congrArg some (hge129511 hgt129511)
      refine wp_seq (wp_region_lit (pr tb 1 hA1 rfl fun a1 hA1 => wpList_nil (tn (wp_seq (cF hA1 rfl (decide_eq_false (show ¬ ((i129512 : Int) < ((x127532).length : Int)) by omega)) (wp_exit (te (te (be (tn ?_))))))))))
      obtain rfl := Option.some.inj hF
      exact ⟨_, _, _, _, _, _, _, hA1.sub ⟨rfl, rfl, rfl, rfl, trivial⟩, hS, hO129531, hr129533, hr129534, hO129538, hb129541⟩
    obtain ⟨cc129511, hF, hgo129511⟩ := hst129511 hlt129511
    refine wp_seq (wp_region_lit (pr tb 1 hA1 rfl fun a1 hA1 => wpList_nil (tn (wp_seq (cT hA1 rfl (decide_eq_true (show (i129512 : Int) < ((x127532).length : Int) by omega)) (wp_skip (tn (wp_seq (wp_block (wp_seq (wp_region_lit ?_)))))))))))
    obtain ⟨x129542, hx129543, hF⟩ := bind_some hF
    refine o_idxO tb hA1 hO127543 hx129543 rfl rfl rfl rfl rfl rfl rfl rfl fun a1 ad129544 hA1 hE129545 hat129546 => o_ldO tb hA1 hS (hE129545.up hl127542) rfl (i := 9) rfl rfl rfl rfl rfl rfl fun a1 cs129547 hc129548 hA1 => ?_
    obtain ⟨rfl, hr129549, hr129550⟩ := hc129548
    refine o_alloc tb hA1 hS rfl rfl rfl fun a1 w g129552 p129553 hA1 hS hb129554 => o_st tb hA1 hS hb129554 rfl rfl (i := 0) rfl rfl rfl rfl rfl rfl rfl fun w p129555 hS hb129556 => wpList_nil (tn (wp_region_lit (o_ld tb hA1 hS hb127499 rfl (i := 5) rfl rfl rfl rfl rfl rfl fun a1 hA1 => pr tb 1 hA1 rfl fun a1 hA1 => o_ld tb hA1 hS hb129556 rfl (i := 0) rfl rfl rfl rfl rfl rfl fun a1 hA1 => ?_)))
    obtain ⟨o129732, hx129732, hK129732⟩ := bind_some hF
    refine o_call1 (R := fun v w => ∃ (A129733 : Option Addr) (c129734 : Nat) (p129735 : Piece) (A129740 : Option Addr) (c129741 : Nat) (p129742 : Piece) (p129745 : Piece), v = Value.tuple #[] ∧ St noX w0 w H [p129735, p129742, p129555, p127506, p127502, p127498, p71869, p129745, p71778, p71759, p71764, p71769, p71750] ∧ OwnS eGStep 80 H A129733 c129734 (o129732.1) p129735 ∧ inR .i64 o129732.2.1 ∧ inR .u64 o129732.2.2.1 ∧ OwnS (eInt .i64 8) 3 H A129740 c129741 (o129732.2.2.2.2.1) p129742 ∧ BxP H p129745 g71853 73 [.v [Value.slice A71757 (r71752.1.Inputs).length c71758, Value.slice A71762 (r71752.1.Nodes).length c71763, Value.slice A71767 (r71752.1.Outs).length c71768, Value.slice A129733 (o129732.1).length c129734, Value.int .i64 o129732.2.1, Value.int .i64 0, Value.int .u64 o129732.2.2.1], .a (ptA eBool 256 o129732.2.2.2.1), .v [Value.slice A129740 (o129732.2.2.2.2.1).length c129741, Value.bool o129732.2.2.2.2.2]]) hA1 fi32 rfl rfl rfl rfl ?_ ?_
    rotate_left
    · rintro a1 w v ⟨A129733, c129734, p129735, A129740, c129741, p129742, p129745, rfl, hS, hO129736, hr129738, hr129739, hO129743, hb129746⟩ hA1
      have hF := hK129732
      refine wpList_nil (bn (tn (wp_region_lit (pr tb 2 hA1 rfl fun a1 hA1 => wpList_nil (tn ?_)))))
      obtain rfl := Option.some.inj hF
      have hA1 := hA1.re (d := 25) rfl (congrArg (Value.int .i64) (w64_succ hlt129511 hbd129511))
      exact ⟨(o129732.1, o129732.2.1, o129732.2.2.1, o129732.2.2.2.1, o129732.2.2.2.2.1, o129732.2.2.2.2.2), ⟨_, _, _, _, _, _, _, hA1.sub ⟨rfl, rfl, rfl, rfl, rfl, rfl, rfl, trivial⟩, hS.pick (is := [0, 1, 3, 4, 5, 6, 7, 8, 9, 10, 11, 12]) rfl (by decide), hO129736, hr129738, hr129739, hO129743, hb129746⟩, hlt129511, hgo129511⟩
    have hF := hx129732
    refine enter fi32.hfn rfl rfl rfl fun a2 hA2 => wp_seq (wp_seq (wp_region_lit (pr tb 5 hA2 rfl fun a2 hA2 => o_ldP tb hA2 hS hb129541 rfl (i := 7) rfl rfl rfl rfl rfl rfl fun a2 hA2 => pr tb 3 hA2 rfl fun a2 hA2 => ?_)))
    rcases ite_some hF with ⟨hc129757, hF⟩ | ⟨hc129757, hF⟩
    · have hA2 := hA2.re (d := 13) rfl (congrArg Value.bool (decide_eq_true hc129757 : _ = true))
      refine pr tb 9 hA2 rfl fun a2 hA2 => wpList_nil (tn (cT hA2 rfl rfl (wp_ret (tr (b_ret hA2 (rs := []) rfl RV.nil ?_)))))
      obtain rfl := Option.some.inj hF
      exact ⟨_, _, _, _, _, _, _, rfl, hS.pick (is := [1, 2, 0, 3, 4, 5, 6, 7, 8, 9, 10, 11, 12]) rfl (by decide), hO129531, hr129533, hr129534, hO129538, hb129541⟩
    have hA2 := hA2.re (d := 13) rfl (congrArg Value.bool (decide_eq_false hc129757 : _ = false))
    refine pr tb 3 hA2 rfl fun a2 hA2 => o_ldP tb hA2 hS hb129541 rfl (i := 7) rfl rfl rfl rfl rfl rfl fun a2 hA2 => pr tb 1 hA2 rfl fun a2 hA2 => ?_
    obtain ⟨x129758, hx129759, hF⟩ := bind_some hF
    refine o_idxO tb hA2 hO129538 hx129759 rfl rfl rfl rfl rfl rfl rfl rfl fun a2 ad129760 hA2 hE129761 hat129762 => o_ldO tb hA2 hS hE129761 rfl (i := 2) rfl rfl rfl rfl rfl rfl fun a2 cs129763 hc129764 hA2 => ?_
    obtain ⟨rfl, hr129765⟩ := hc129764
    refine pr tb 2 hA2 rfl fun a2 hA2 => wpList_nil (tn ?_)
    rcases ite_some hF with ⟨hc129766, hF⟩ | ⟨hc129766, hF⟩
    · refine cT hA2 rfl (decide_eq_true hc129766) (wp_ret (tr (b_ret hA2 (rs := []) rfl RV.nil ?_)))
      obtain rfl := Option.some.inj hF
      exact ⟨_, _, _, _, _, _, _, rfl, hS.pick (is := [1, 2, 0, 3, 4, 5, 6, 7, 8, 9, 10, 11, 12]) rfl (by decide), hO129531, hr129533, hr129534, hO129538, hb129541⟩
    refine cF hA2 rfl (decide_eq_false hc129766) (wp_skip (tn (wp_seq (wp_region_lit (pr tb 2 hA2 rfl fun a2 hA2 => o_inl hA2 fi48 rfl rfl rfl rfl (enter fi48.hfn rfl rfl rfl fun a3 hA3 => wp_seq (wp_region_lit (pr tb 3 hA3 rfl fun a3 hA3 => o_slA tb hA3 rfl rfl rfl rfl rfl rfl fun a3 hA3 => ?_))))))))
    have hA3 := hA3.re (d := 8) rfl (congrArg (fun n => Value.slice (some ⟨g71853, 7, none⟩) n 256) (hb129541.alen (k := 1) rfl).symm)
    obtain ⟨Hb129767, hSb129767, hleb129767, hplb129767⟩ := hS.freezeT (i := 7) rfl
    have hRb129768 := hb129541.rd2 (k := 1) rfl rfl rfl hplb129767 hleb129767
    obtain ⟨r129769, hx129770, hF⟩ := bind_some hF
    refine o_call1 hA3 fi57 rfl rfl rfl rfl (c_slices_Index_bool_bool (x0 := s129513.2.2.2.1) (x1 := false) hSb129767.imm hRb129768 hx129770) fun a3 w v129775 hres hA3 => ?_
    obtain ⟨rfl, hS129771, hr129774⟩ := hres
    have hS := hS.callL hS129771 hleb129767
    refine pr tb 1 hA3 rfl fun a3 hA3 => wpList_nil (tn ?_)
    obtain ⟨o129779, hx129779, hK129779⟩ := bind_some hF
    refine wp_cut (fun a w => ∃ (p129781 : Piece), Fr (39, []) a [(0, Value.pointer (some ⟨g71853, 0, none⟩)), (1, Value.int .i64 x129542.Of), (4, Value.int .i64 o129779.1)] ∧ St noX w0 w H [p129555, p129530, p129537, p127506, p127502, p127498, p71869, p129781, p71778, p71759, p71764, p71769, p71750] ∧ inR .i64 o129779.1 ∧ BxP H p129781 g71853 73 [.v [Value.slice A71757 (r71752.1.Inputs).length c71758, Value.slice A71762 (r71752.1.Nodes).length c71763, Value.slice A71767 (r71752.1.Outs).length c71768, Value.slice A129528 (s129513.1).length c129529, Value.int .i64 s129513.2.1, Value.int .i64 0, Value.int .u64 s129513.2.2.1], .a (ptA eBool 256 s129513.2.2.2.1), .v [Value.slice A129535 (s129513.2.2.2.2.1).length c129536, Value.bool o129779.2]]) ?_ ?_
    · have hF := hx129779
      refine wp_seq (wp_region_lit (pr tb 2 hA3 rfl fun a3 hA3 => wpList_nil (tn ?_)))
      rcases ite_some hF with ⟨hc129783, hF⟩ | ⟨hc129783, hF⟩
      rotate_left
      · refine cF hA3 rfl (decide_eq_false hc129783) (wp_skip (tn ?_))
        obtain rfl := Option.some.inj hF
        exact ⟨_, hA3.sub ⟨rfl, rfl, rfl, trivial⟩, hS, hr129774, hb129541⟩
      refine cT hA3 rfl (decide_eq_true hc129783) (wp_region_lit (pr tb 3 hA3 rfl fun a3 hA3 => o_stP (ps' := [.v [Value.slice A71757 (r71752.1.Inputs).length c71758, Value.slice A71762 (r71752.1.Nodes).length c71763, Value.slice A71767 (r71752.1.Outs).length c71768, Value.slice A129528 (s129513.1).length c129529, Value.int .i64 s129513.2.1, Value.int .i64 0, Value.int .u64 s129513.2.2.1], .a (ptA eBool 256 s129513.2.2.2.1), .v [Value.slice A129535 (s129513.2.2.2.2.1).length c129536, Value.bool false]]) tb hA3 hS hb129541 rfl rfl (i := 7) rfl rfl rfl rfl rfl rfl rfl fun w p129784 hS hb129785 => ?_))
      refine pr tb 1 hA3 rfl fun a3 hA3 => wpList_nil (tn ?_)
      obtain rfl := Option.some.inj hF
      exact ⟨_, hA3.sub ⟨rfl, rfl, rfl, trivial⟩, hS, (inR_c rfl), hb129785⟩
    rintro a w ⟨p129781, hA3, hS, hr129780, hb129782⟩
    have hF := hK129779
    refine wp_seq (rx (fun b w => St noX w0 w H (bif b then [p129555, p129530, p129537, p127506, p127502, p127498, p71869, p129781, p71778, p71759, p71764, p71769, p71750] else [p129555, p129530, emp, p127506, p127502, p127498, p71869, emp, p71778, p71759, p71764, p71769, p71750])) [11, 13] (.q true [0, 1] (.q false [2, 3, 4] (.q true [5] (.q false [6, 7, 8, 9] (.q true [10] (.e 11 (.q false [12] (.e 13 .z)))))))) hmix (by decide +kernel) ?_)
    have hS := hS.drew
    refine ⟨(hS.pickO (is := [some 0, some 1, some 2, some 3, some 4, some 5, some 6, some 7, some 8, some 9, some 10, some 11, some 12]) rfl (by decide)), ?_⟩
    refine qpr tb 2 hA3 rfl fun a3 hA3 => wpHold_nil (⟨(hS.pickO (is := [some 0, some 1, none, some 3, some 4, some 5, some 6, none, some 8, some 9, some 10, some 11, some 12]) rfl (by decide)), ?_⟩)
    refine qpr tb 3 hA3 rfl fun a3 hA3 => wpHold_nil (⟨(hS.pickO (is := [some 0, some 1, some 2, some 3, some 4, some 5, some 6, some 7, some 8, some 9, some 10, some 11, some 12]) rfl (by decide)), ?_⟩)
    refine q_ldP tb hA3 hb129782 rfl (i := 7) rfl rfl rfl rfl rfl rfl fun a3 hA3 => wpHold_nil (⟨(hS.pickO (is := [some 0, some 1, none, some 3, some 4, some 5, some 6, none, some 8, some 9, some 10, some 11, some 12]) rfl (by decide)), ?_⟩)
    refine qpr tb 4 hA3 rfl fun a3 hA3 => wpHold_nil (⟨(hS.pickO (is := [some 0, some 1, some 2, some 3, some 4, some 5, some 6, some 7, some 8, some 9, some 10, some 11, some 12]) rfl (by decide)), ?_⟩)
    obtain ⟨x129818, hx129819, hF⟩ := bind_some hF
    refine q_idxA tb hA3 hb129782 (k := 1) rfl rfl hx129819 rfl rfl rfl rfl rfl rfl rfl rfl fun a3 ad129820 hA3 hE129821 had129822 => wpHold_nil (o_stA (v := Value.bool true) (y0 := true) tb hA3 hS hb129782 (k := 1) rfl rfl hx129819 had129822 rfl rfl rfl (i := 7) rfl rfl rfl rfl rfl fun w p129823 hS hb129824 => wpList_nil (tn (⟨⟨fun _ => (hS.pickO (is := [some 0, some 1, none, some 3, some 4, some 5, some 6, none, some 8, some 9, some 10, some 11, some 12]) rfl (by decide)), fun h => absurd h (by decide)⟩, ?_⟩)))
    refine ⟨(hS.pickO (is := [some 0, some 1, none, some 3, some 4, some 5, some 6, none, some 8, some 9, some 10, some 11, some 12]) rfl (by decide)), ?_⟩
    obtain ⟨x129825, hx129826, hF⟩ := bind_some hF
    refine q_idxO tb hA3 hO129538 hx129826 rfl rfl rfl rfl rfl rfl rfl rfl fun a3 ad129827 hA3 hE129828 hat129829 => wpHold_nil (o_stO (v := Value.int .i64 o129779.1) (y0 := o129779.1) tb hA3 hS hO129538 hat129829 ((idx_some hx129826).2.2) ⟨rfl, hr129780⟩ rfl rfl (k := 2) rfl rfl rfl rfl rfl fun w p129830 hS hO129831 => ?_)
    have hq129832 : (s129513.2.2.2.2.1).length = ((s129513.2.2.2.2.1).set (x129542.Of).toNat o129779.1).length := (List.length_set ..).symm
    have hA2 := hA2.re (d := 17) rfl (congrArg (fun n => Value.slice A129535 n c129536) hq129832)
    have hA3 := hA3.re (d := 20) rfl (congrArg (fun n => Value.slice A129535 n c129536) hq129832)
    have hb129833 : BxP H p129823 g71853 73 [.v [Value.slice A71757 (r71752.1.Inputs).length c71758, Value.slice A71762 (r71752.1.Nodes).length c71763, Value.slice A71767 (r71752.1.Outs).length c71768, Value.slice A129528 (s129513.1).length c129529, Value.int .i64 s129513.2.1, Value.int .i64 0, Value.int .u64 s129513.2.2.1], .a (ptA eBool 256 ((s129513.2.2.2.1).set (o129779.1).toNat true)), .v [Value.slice A129535 ((s129513.2.2.2.2.1).set (x129542.Of).toNat o129779.1).length c129536, Value.bool o129779.2]] := Eq.mp (by rw [← hq129832] <;> rfl) hb129824
    refine wpList_nil (tn (⟨⟨fun _ => (hS.pickO (is := [some 0, some 1, none, some 3, some 4, some 5, some 6, none, some 8, some 9, some 10, some 11, some 12]) rfl (by decide)), fun h => absurd h (by decide)⟩, ?_⟩))
    refine tn (wp_region_lit (pr tb 5 hA3 rfl fun a3 hA3 => o_ldP tb hA3 hS hb129833 rfl (i := 7) rfl rfl rfl rfl rfl rfl fun a3 hA3 => pr tb 6 hA3 rfl fun a3 hA3 => o_stP (ps' := [.v [Value.slice A71757 (r71752.1.Inputs).length c71758, Value.slice A71762 (r71752.1.Nodes).length c71763, Value.slice A71767 (r71752.1.Outs).length c71768, Value.slice A129528 (s129513.1).length c129529, Value.int .i64 (mxI s129513.2.1 (w64 (o129779.1 + 1))), Value.int .i64 0, Value.int .u64 s129513.2.2.1], .a (ptA eBool 256 ((s129513.2.2.2.1).set (o129779.1).toNat true)), .v [Value.slice A129535 ((s129513.2.2.2.2.1).set (x129542.Of).toNat o129779.1).length c129536, Value.bool o129779.2]]) tb hA3 hS hb129833 rfl rfl (i := 7) rfl rfl rfl rfl rfl rfl rfl fun w p129834 hS hb129835 => ?_))
    refine wpList_nil (b_end hA3 (rs := []) rfl RV.nil ?_)
    intro a2 hA2
    refine wpList_nil (tn (wp_seq (wp_region_lit (pr tb 4 hA2 rfl fun a2 hA2 => o_ldP tb hA2 hS hb129835 rfl (i := 7) rfl rfl rfl rfl rfl rfl fun a2 hA2 => pr tb 1 hA2 rfl fun a2 hA2 => ?_))))
    obtain ⟨x129836, hx129837, hF⟩ := bind_some hF
    refine o_idxO tb hA2 hO71760 hx129837 rfl rfl rfl rfl rfl rfl rfl rfl fun a2 ad129838 hA2 hE129839 hat129840 => o_ldO tb hA2 hS hE129839 rfl (i := 9) rfl rfl rfl rfl rfl rfl fun a2 cs129841 hc129842 hA2 => ?_
    obtain ⟨rfl, hr129843⟩ := hc129842
    refine pr tb 1 hA2 rfl fun a2 hA2 => wpList_nil (tn (wp_seq (wp_region_lit (pr tb 4 hA2 rfl fun a2 hA2 => o_ldP tb hA2 hS hb129835 rfl (i := 7) rfl rfl rfl rfl rfl rfl fun a2 hA2 => pr tb 1 hA2 rfl fun a2 hA2 => ?_))))
    obtain ⟨x129844, hx129845, hF⟩ := bind_some hF
    refine o_idxO tb hA2 hO129831 hx129845 rfl rfl rfl rfl rfl rfl rfl rfl fun a2 ad129846 hA2 hE129847 hat129848 => o_ldO tb hA2 hS hE129847 rfl (i := 2) rfl rfl rfl rfl rfl rfl fun a2 cs129849 hc129850 hA2 => ?_
    obtain ⟨rfl, hr129851⟩ := hc129850
    refine pr tb 2 hA2 rfl fun a2 hA2 => o_inl hA2 fi33 rfl rfl rfl rfl (enter fi33.hfn rfl rfl rfl fun a3 hA3 => wp_seq (wp_region_lit (o_box hA3 hS rfl rfl rfl fun a3 w g129853 p129854 hA3 hS hb129855 => wpList_nil (tn (wp_seq (wp_seq (wp_region_lit (pr tb 4 hA3 rfl fun a3 hA3 => o_ldP tb hA3 hS hb129835 rfl (i := 8) rfl rfl rfl rfl rfl rfl fun a3 hA3 => ?_))))))))
    refine pr tb 2 hA3 rfl fun a3 hA3 => wpList_nil (tn ?_)
    rcases ite_some hF with ⟨hc129856, hF⟩ | ⟨hc129856, hF⟩
    · refine cT hA3 rfl (decide_eq_true hc129856) (wp_seq (wp_region_lit (pr tb 3 hA3 rfl fun a3 hA3 => o_stP (ps' := [.v [Value.slice A71757 (r71752.1.Inputs).length c71758, Value.slice A71762 (r71752.1.Nodes).length c71763, Value.slice A71767 (r71752.1.Outs).length c71768, Value.slice A129528 (s129513.1).length c129529, Value.int .i64 (mxI s129513.2.1 (w64 (o129779.1 + 1))), Value.int .i64 0, Value.int .u64 s129513.2.2.1], .a (ptA eBool 256 ((s129513.2.2.2.1).set (o129779.1).toNat true)), .v [Value.slice A129535 ((s129513.2.2.2.2.1).set (x129542.Of).toNat o129779.1).length c129536, Value.bool false]]) tb hA3 hS hb129835 rfl rfl (i := 8) rfl rfl rfl rfl rfl rfl rfl fun w p129857 hS hb129858 => ?_)))
      refine wpList_nil (tn (wp_ret (tr (b_ret hA3 (rs := []) rfl RV.nil ?_))))
      intro a2 hA2
      refine wpList_nil (tn (rx (fun b w => St noX w0 w H (bif b then [p129854, p129555, p129530, p129830, p127506, p127502, p127498, p71869, p129857, p71778, p71759, p71764, p71769, p71750] else [p129854, p129555, p129530, p129830, p127506, p127502, p127498, p71869, emp, p71778, p71759, p71764, p71769, p71750])) [11] (.q true [0, 1, 2, 3, 4, 5, 6, 7] (.q false [8, 9] (.q true [10] (.e 11 .z)))) hmix (by decide +kernel) ?_))
      have hS := hS.drew
      refine ⟨(hS.pickO (is := [some 0, some 1, some 2, some 3, some 4, some 5, some 6, some 7, some 8, some 9, some 10, some 11, some 12, some 13]) rfl (by decide)), ?_⟩
      refine qpr tb 4 hA2 rfl fun a2 hA2 => q_ldP tb hA2 hb129858 rfl (i := 8) rfl rfl rfl rfl rfl rfl fun a2 hA2 => qpr tb 1 hA2 rfl fun a2 hA2 => ?_
      rcases ite_some hF with ⟨hz129865, hF⟩ | ⟨hz129865, hF⟩
      rotate_left
      · cases hF
      refine q_shl hA2 rfl rfl hz129865 rfl rfl fun a2 hA2 => qpr tb 1 hA2 rfl fun a2 hA2 => wpHold_nil (⟨(hS.pickO (is := [some 0, some 1, some 2, some 3, some 4, some 5, some 6, some 7, none, some 9, some 10, some 11, some 12, some 13]) rfl (by decide)), ?_⟩)
      refine qpr tb 2 hA2 rfl fun a2 hA2 => wpHold_nil (⟨(hS.pickO (is := [some 0, some 1, some 2, some 3, some 4, some 5, some 6, some 7, some 8, some 9, some 10, some 11, some 12, some 13]) rfl (by decide)), ?_⟩)
      refine qpr tb 1 hA2 rfl fun a2 hA2 => wpHold_nil (o_stP (ps' := [.v [Value.slice A71757 (r71752.1.Inputs).length c71758, Value.slice A71762 (r71752.1.Nodes).length c71763, Value.slice A71767 (r71752.1.Outs).length c71768, Value.slice A129528 (s129513.1).length c129529, Value.int .i64 (mxI s129513.2.1 (w64 (o129779.1 + 1))), Value.int .i64 0, Value.int .u64 (bOr .u64 s129513.2.2.1 (shlI .u64 1 x129836))], .a (ptA eBool 256 ((s129513.2.2.2.1).set (o129779.1).toNat true)), .v [Value.slice A129535 ((s129513.2.2.2.2.1).set (x129542.Of).toNat o129779.1).length c129536, Value.bool false]]) tb hA2 hS hb129858 rfl rfl (i := 8) rfl rfl rfl rfl rfl rfl rfl fun w p129866 hS hb129867 => ?_)
      refine wpList_nil (tn (⟨⟨fun _ => (hS.pickO (is := [some 0, some 1, some 2, some 3, some 4, some 5, some 6, some 7, none, some 9, some 10, some 11, some 12, some 13]) rfl (by decide)), fun h => absurd h (by decide)⟩, ?_⟩))
      refine b_end hA2 (rs := []) rfl RV.nil ?_
      obtain rfl := Option.some.inj hF
      exact ⟨_, _, _, _, _, _, _, rfl, hS.pick (is := [2, 3, 1, 4, 5, 6, 7, 8, 9, 10, 11, 12, 13]) rfl (by decide), hO129531, (inR_mxI hr129533 (inR_wrap _ _)), (inR_wrap _ _), hO129831, hb129867⟩
    refine cF hA3 rfl (decide_eq_false hc129856) (wp_skip (tn (rx (fun b w => St noX w0 w H (bif b then [p129854, p129555, emp, p129830, p127506, p127502, p127498, p71869, p129834, p71778, p71759, p71764, p71769, p71750] else [p129854, p129555, emp, p129830, p127506, p127502, p127498, p71869, emp, p71778, p71759, p71764, p71769, p71750])) [12] (.q true [0, 1, 2, 3, 4, 5, 6] (.e 7 (.e 8 (.q false [9, 10] (.q true [11] (.e 12 .z)))))) hmix (by decide +kernel) ?_)))
    have hS := hS.drew
    refine ⟨(hS.pickO (is := [some 0, some 1, none, some 3, some 4, some 5, some 6, some 7, some 8, some 9, some 10, some 11, some 12, some 13]) rfl (by decide)), ?_⟩
    refine qpr tb 5 hA3 rfl fun a3 hA3 => q_ldP tb hA3 hb129835 rfl (i := 8) rfl rfl rfl rfl rfl rfl fun a3 hA3 => q_ld tb hA3 hb129855 rfl (i := 0) rfl rfl rfl rfl rfl rfl fun a3 hA3 => wpHold_nil (o_bsl (e := eGStep) (xs := ([(⟨(2 : Int), x129844, x129836, (0 : Int)⟩ : GStep)] : List GStep)) tb hA3 hS rfl rfl rfl (.cons ⟨rfl, (inR_c rfl), hr129851, hr129843, (inR_c rfl)⟩ .nil) rfl rfl rfl rfl rfl rfl rfl rfl rfl fun a3 w A129898 p129899 hA3 hS hO129900 hN129902 => wpList_nil (tn (⟨⟨fun _ => (hS.pickO (is := [some 1, some 2, none, some 4, some 5, some 6, some 7, some 8, none, some 10, some 11, some 12, some 13, some 14]) rfl (by decide)), fun _ _ => (hS.pickO (is := [some 1, some 2, none, some 4, some 5, some 6, some 7, some 8, some 9, some 10, some 11, some 12, some 13, some 14]) rfl (by decide))⟩, ?_⟩)))
    obtain ⟨z129903, hz129904, hF⟩ := bind_some hF
    refine o_app (e := eGStep) tb hA3 hS hO129531 (k := 3) rfl (hO129900.src hS (i := 0) rfl) hz129904 rfl rfl rfl rfl rfl rfl rfl rfl rfl rfl rfl rfl rfl fun a3 w A129905 c129906 p129907 hA3 hS hO129908 hN129910 => wpList_nil (tn (⟨⟨fun _ => (hS.pickO (is := [some 1, some 2, none, some 4, some 5, some 6, some 7, some 8, none, some 10, some 11, some 12, some 13, some 14]) rfl (by decide)), fun _ _ => (hS.pickO (is := [some 1, some 2, none, some 4, some 5, some 6, some 7, some 8, some 9, some 10, some 11, some 12, some 13, some 14]) rfl (by decide))⟩, ?_⟩))
    refine ⟨(hS.pickO (is := [some 1, some 2, none, some 4, some 5, some 6, some 7, some 8, none, some 10, some 11, some 12, some 13, some 14]) rfl (by decide)), ?_⟩
    refine qpr tb 2 hA3 rfl fun a3 hA3 => wpHold_nil (⟨(hS.pickO (is := [some 1, some 2, none, some 4, some 5, some 6, some 7, some 8, some 9, some 10, some 11, some 12, some 13, some 14]) rfl (by decide)), ?_⟩)
    refine qpr tb 1 hA3 rfl fun a3 hA3 => wpHold_nil (o_stP (ps' := [.v [Value.slice A71757 (r71752.1.Inputs).length c71758, Value.slice A71762 (r71752.1.Nodes).length c71763, Value.slice A71767 (r71752.1.Outs).length c71768, Value.slice A129905 (z129903).length c129906, Value.int .i64 (mxI s129513.2.1 (w64 (o129779.1 + 1))), Value.int .i64 0, Value.int .u64 s129513.2.2.1], .a (ptA eBool 256 ((s129513.2.2.2.1).set (o129779.1).toNat true)), .v [Value.slice A129535 ((s129513.2.2.2.2.1).set (x129542.Of).toNat o129779.1).length c129536, Value.bool o129779.2]]) tb hA3 hS hb129835 rfl rfl (i := 9) rfl rfl rfl rfl rfl rfl rfl fun w p129911 hS hb129912 => ?_)
    refine wpList_nil (tn (⟨⟨fun _ => (hS.pickO (is := [some 1, some 2, none, some 4, some 5, some 6, some 7, some 8, none, some 10, some 11, some 12, some 13, some 14]) rfl (by decide)), fun h => absurd h (by decide)⟩, ?_⟩))
    refine b_end hA3 (rs := []) rfl RV.nil ?_
    intro a2 hA2
    refine wpList_nil (tn (rx (fun b w => St noX w0 w H (bif b then [p129899, p129854, p129555, p129907, p129830, p127506, p127502, p127498, p71869, p129911, p71778, p71759, p71764, p71769, p71750] else [p129899, p129854, p129555, p129907, p129830, p127506, p127502, p127498, p71869, emp, p71778, p71759, p71764, p71769, p71750])) [11] (.q true [0, 1, 2, 3, 4, 5, 6, 7] (.q false [8, 9] (.q true [10] (.e 11 .z)))) hmix (by decide +kernel) ?_))
    have hS := hS.drew
    refine ⟨(hS.pickO (is := [some 0, some 1, some 2, some 3, some 4, some 5, some 6, some 7, some 8, some 9, some 10, some 11, some 12, some 13, some 14]) rfl (by decide)), ?_⟩
    refine qpr tb 4 hA2 rfl fun a2 hA2 => q_ldP tb hA2 hb129912 rfl (i := 9) rfl rfl rfl rfl rfl rfl fun a2 hA2 => qpr tb 1 hA2 rfl fun a2 hA2 => ?_
    rcases ite_some hF with ⟨hz129919, hF⟩ | ⟨hz129919, hF⟩
    rotate_left
    · cases hF
    refine q_shl hA2 rfl rfl hz129919 rfl rfl fun a2 hA2 => qpr tb 1 hA2 rfl fun a2 hA2 => wpHold_nil (⟨(hS.pickO (is := [some 0, some 1, some 2, some 3, some 4, some 5, some 6, some 7, some 8, none, some 10, some 11, some 12, some 13, some 14]) rfl (by decide)), ?_⟩)
    refine qpr tb 2 hA2 rfl fun a2 hA2 => wpHold_nil (⟨(hS.pickO (is := [some 0, some 1, some 2, some 3, some 4, some 5, some 6, some 7, some 8, some 9, some 10, some 11, some 12, some 13, some 14]) rfl (by decide)), ?_⟩)
    refine qpr tb 1 hA2 rfl fun a2 hA2 => wpHold_nil (o_stP (ps' := [.v [Value.slice A71757 (r71752.1.Inputs).length c71758, Value.slice A71762 (r71752.1.Nodes).length c71763, Value.slice A71767 (r71752.1.Outs).length c71768, Value.slice A129905 (z129903).length c129906, Value.int .i64 (mxI s129513.2.1 (w64 (o129779.1 + 1))), Value.int .i64 0, Value.int .u64 (bOr .u64 s129513.2.2.1 (shlI .u64 1 x129836))], .a (ptA eBool 256 ((s129513.2.2.2.1).set (o129779.1).toNat true)), .v [Value.slice A129535 ((s129513.2.2.2.2.1).set (x129542.Of).toNat o129779.1).length c129536, Value.bool o129779.2]]) tb hA2 hS hb129912 rfl rfl (i := 9) rfl rfl rfl rfl rfl rfl rfl fun w p129920 hS hb129921 => ?_)
    refine wpList_nil (tn (⟨⟨fun _ => (hS.pickO (is := [some 0, some 1, some 2, some 3, some 4, some 5, some 6, some 7, some 8, none, some 10, some 11, some 12, some 13, some 14]) rfl (by decide)), fun h => absurd h (by decide)⟩, ?_⟩))
    refine b_end hA2 (rs := []) rfl RV.nil ?_
    obtain rfl := Option.some.inj hF
    exact ⟨_, _, _, _, _, _, _, rfl, hS.pick (is := [3, 4, 2, 5, 6, 7, 8, 9, 10, 11, 12, 13, 14]) rfl (by decide), hO129908, (inR_mxI hr129533 (inR_wrap _ _)), (inR_wrap _ _), hO129831, hb129921⟩
  rintro a w ⟨A129514, c129515, p129516, A129521, c129522, p129523, p129526, hA1, hS, hO129517, hr129519, hr129520, hO129524, hb129527⟩
  have hF := hK129511
  refine tn (wp_seq (rx (fun b w => St noX w0 w H (bif b then [p129516, p129523, p127506, p127502, p127498, p71869, p129526, p71778, p71759, p71764, p71769, p71750] else [p129516, p129523, p127506, p127502, p127498, p71869, p129526, p71778, p71759, p71764, p71769, p71750])) [9] (.q true [0, 1, 2, 3, 4, 5, 6, 7] (.e 8 (.e 9 .z))) hmix (by decide +kernel) ?_))
  have hS := hS.drew
  refine ⟨(hS.pickO (is := [some 0, some 1, some 2, some 3, some 4, some 5, some 6, some 7, some 8, some 9, some 10, some 11]) rfl (by decide)), ?_⟩
  refine q_ld tb hA1 hb127499 rfl (i := 4) rfl rfl rfl rfl rfl rfl fun a1 hA1 => qpr tb 3 hA1 rfl fun a1 hA1 => q_ldP tb hA1 hb129527 rfl (i := 6) rfl rfl rfl rfl rfl rfl fun a1 hA1 => qpr tb 1 hA1 rfl fun a1 hA1 => q_ld tb hA1 hb127503 rfl (i := 3) rfl rfl rfl rfl rfl rfl fun a1 hA1 => qpr tb 1 hA1 rfl fun a1 hA1 => wpHold_nil (o_alloc tb hA1 hS rfl rfl rfl fun a1 w g129935 p129936 hA1 hS hb129937 => wpList_nil (tn (⟨⟨fun _ => (hS.pickO (is := [some 1, some 2, some 3, some 4, some 5, some 6, some 7, some 8, some 9, some 10, some 11, some 12]) rfl (by decide)), fun _ _ => (hS.pickO (is := [some 1, some 2, some 3, some 4, some 5, some 6, some 7, some 8, some 9, some 10, some 11, some 12]) rfl (by decide))⟩, ?_⟩)))
  refine o_st tb hA1 hS hb129937 rfl rfl (i := 0) rfl rfl rfl rfl rfl rfl rfl fun w p129938 hS hb129939 => wpList_nil (tn (⟨⟨fun _ => (hS.pickO (is := [some 1, some 2, some 3, some 4, some 5, some 6, some 7, some 8, some 9, some 10, some 11, some 12]) rfl (by decide)), fun h => absurd h (by decide)⟩, ?_⟩))
  refine tn (wp_seq (wp_region_lit (o_ld tb hA1 hS hb127499 rfl (i := 5) rfl rfl rfl rfl rfl rfl fun a1 hA1 => o_ld tb hA1 hS hb129939 rfl (i := 0) rfl rfl rfl rfl rfl rfl fun a1 hA1 => o_inl hA1 fi48 rfl rfl rfl rfl (enter fi48.hfn rfl rfl rfl fun a2 hA2 => wp_seq (wp_region_lit (pr tb 3 hA2 rfl fun a2 hA2 => o_slA tb hA2 rfl rfl rfl rfl rfl rfl fun a2 hA2 => ?_))))))
  have hA2 := hA2.re (d := 8) rfl (congrArg (fun n => Value.slice (some ⟨g71853, 7, none⟩) n 256) (hb129527.alen (k := 1) rfl).symm)
  obtain ⟨Hb129940, hSb129940, hleb129940, hplb129940⟩ := hS.freezeT (i := 7) rfl
  have hRb129941 := hb129527.rd2 (k := 1) rfl rfl rfl hplb129940 hleb129940
  obtain ⟨r129942, hx129943, hF⟩ := bind_some hF
  refine o_call1 hA2 fi57 rfl rfl rfl rfl (c_slices_Index_bool_bool (x0 := o129511.2.2.2.1) (x1 := false) hSb129940.imm hRb129941 hx129943) fun a2 w v129948 hres hA2 => ?_
  obtain ⟨rfl, hS129944, hr129947⟩ := hres
  have hS := hS.callL hS129944 hleb129940
  refine pr tb 1 hA2 rfl fun a2 hA2 => wpList_nil (tn ?_)
  obtain ⟨o129952, hx129952, hK129952⟩ := bind_some hF
  refine wp_cut (fun a w => ∃ (p129954 : Piece), Fr (39, []) a [(0, Value.pointer (some ⟨g71853, 0, none⟩)), (1, Value.int .i64 (w64 (((r71752.1.Inputs).length : Int) + (i127464 : Int)))), (4, Value.int .i64 o129952.1)] ∧ St noX w0 w H [p129938, p129516, p129523, p127506, p127502, p127498, p71869, p129954, p71778, p71759, p71764, p71769, p71750] ∧ inR .i64 o129952.1 ∧ BxP H p129954 g71853 73 [.v [Value.slice A71757 (r71752.1.Inputs).length c71758, Value.slice A71762 (r71752.1.Nodes).length c71763, Value.slice A71767 (r71752.1.Outs).length c71768, Value.slice A129514 (o129511.1).length c129515, Value.int .i64 o129511.2.1, Value.int .i64 0, Value.int .u64 o129511.2.2.1], .a (ptA eBool 256 o129511.2.2.2.1), .v [Value.slice A129521 (o129511.2.2.2.2.1).length c129522, Value.bool o129952.2]]) ?_ ?_
  · have hF := hx129952
    refine wp_seq (wp_region_lit (pr tb 2 hA2 rfl fun a2 hA2 => wpList_nil (tn ?_)))
    rcases ite_some hF with ⟨hc129956, hF⟩ | ⟨hc129956, hF⟩
    rotate_left
    · refine cF hA2 rfl (decide_eq_false hc129956) (wp_skip (tn ?_))
      obtain rfl := Option.some.inj hF
      exact ⟨_, hA2.sub ⟨rfl, rfl, rfl, trivial⟩, hS, hr129947, hb129527⟩
    refine cT hA2 rfl (decide_eq_true hc129956) (wp_region_lit (pr tb 3 hA2 rfl fun a2 hA2 => o_stP (ps' := [.v [Value.slice A71757 (r71752.1.Inputs).length c71758, Value.slice A71762 (r71752.1.Nodes).length c71763, Value.slice A71767 (r71752.1.Outs).length c71768, Value.slice A129514 (o129511.1).length c129515, Value.int .i64 o129511.2.1, Value.int .i64 0, Value.int .u64 o129511.2.2.1], .a (ptA eBool 256 o129511.2.2.2.1), .v [Value.slice A129521 (o129511.2.2.2.2.1).length c129522, Value.bool false]]) tb hA2 hS hb129527 rfl rfl (i := 7) rfl rfl rfl rfl rfl rfl rfl fun w p129957 hS hb129958 => ?_))
    refine pr tb 1 hA2 rfl fun a2 hA2 => wpList_nil (tn ?_)
    obtain rfl := Option.some.inj hF
    exact ⟨_, hA2.sub ⟨rfl, rfl, rfl, trivial⟩, hS, (inR_c rfl), hb129958⟩
  rintro a w ⟨p129954, hA2, hS, hr129953, hb129955⟩
  have hF := hK129952
  refine wp_seq (rx (fun b w => St noX w0 w H (bif b then [p129938, p129516, p129523, p127506, p127502, p127498, p71869, p129954, p71778, p71759, p71764, p71769, p71750] else [p129938, p129516, emp, p127506, p127502, p127498, p71869, emp, p71778, p71759, p71764, p71769, p71750])) [11, 13] (.q true [0, 1] (.q false [2, 3, 4] (.q true [5] (.q false [6, 7, 8, 9] (.q true [10] (.e 11 (.q false [12] (.e 13 .z)))))))) hmix (by decide +kernel) ?_)
  have hS := hS.drew
  refine ⟨(hS.pickO (is := [some 0, some 1, some 2, some 3, some 4, some 5, some 6, some 7, some 8, some 9, some 10, some 11, some 12]) rfl (by decide)), ?_⟩
  refine qpr tb 2 hA2 rfl fun a2 hA2 => wpHold_nil (⟨(hS.pickO (is := [some 0, some 1, none, some 3, some 4, some 5, some 6, none, some 8, some 9, some 10, some 11, some 12]) rfl (by decide)), ?_⟩)
  refine qpr tb 3 hA2 rfl fun a2 hA2 => wpHold_nil (⟨(hS.pickO (is := [some 0, some 1, some 2, some 3, some 4, some 5, some 6, some 7, some 8, some 9, some 10, some 11, some 12]) rfl (by decide)), ?_⟩)
  refine q_ldP tb hA2 hb129955 rfl (i := 7) rfl rfl rfl rfl rfl rfl fun a2 hA2 => wpHold_nil (⟨(hS.pickO (is := [some 0, some 1, none, some 3, some 4, some 5, some 6, none, some 8, some 9, some 10, some 11, some 12]) rfl (by decide)), ?_⟩)
  refine qpr tb 4 hA2 rfl fun a2 hA2 => wpHold_nil (⟨(hS.pickO (is := [some 0, some 1, some 2, some 3, some 4, some 5, some 6, some 7, some 8, some 9, some 10, some 11, some 12]) rfl (by decide)), ?_⟩)
  obtain ⟨x129991, hx129992, hF⟩ := bind_some hF
  refine q_idxA tb hA2 hb129955 (k := 1) rfl rfl hx129992 rfl rfl rfl rfl rfl rfl rfl rfl fun a2 ad129993 hA2 hE129994 had129995 => wpHold_nil (o_stA (v := Value.bool true) (y0 := true) tb hA2 hS hb129955 (k := 1) rfl rfl hx129992 had129995 rfl rfl rfl (i := 7) rfl rfl rfl rfl rfl fun w p129996 hS hb129997 => wpList_nil (tn (⟨⟨fun _ => (hS.pickO (is := [some 0, some 1, none, some 3, some 4, some 5, some 6, none, some 8, some 9, some 10, some 11, some 12]) rfl (by decide)), fun h => absurd h (by decide)⟩, ?_⟩)))
  refine ⟨(hS.pickO (is := [some 0, some 1, none, some 3, some 4, some 5, some 6, none, some 8, some 9, some 10, some 11, some 12]) rfl (by decide)), ?_⟩
  obtain ⟨x129998, hx129999, hF⟩ := bind_some hF
  refine q_idxO tb hA2 hO129524 hx129999 rfl rfl rfl rfl rfl rfl rfl rfl fun a2 ad130000 hA2 hE130001 hat130002 => wpHold_nil (o_stO (v := Value.int .i64 o129952.1) (y0 := o129952.1) tb hA2 hS hO129524 hat130002 ((idx_some hx129999).2.2) ⟨rfl, hr129953⟩ rfl rfl (k := 2) rfl rfl rfl rfl rfl fun w p130003 hS hO130004 => ?_)
  have hq130005 : (o129511.2.2.2.2.1).length = ((o129511.2.2.2.2.1).set (w64 (((r71752.1.Inputs).length : Int) + (i127464 : Int))).toNat o129952.1).length := (List.length_set ..).symm
  have hA2 := hA2.re (d := 20) rfl (congrArg (fun n => Value.slice A129521 n c129522) hq130005)
  have hb130006 : BxP H p129996 g71853 73 [.v [Value.slice A71757 (r71752.1.Inputs).length c71758, Value.slice A71762 (r71752.1.Nodes).length c71763, Value.slice A71767 (r71752.1.Outs).length c71768, Value.slice A129514 (o129511.1).length c129515, Value.int .i64 o129511.2.1, Value.int .i64 0, Value.int .u64 o129511.2.2.1], .a (ptA eBool 256 ((o129511.2.2.2.1).set (o129952.1).toNat true)), .v [Value.slice A129521 ((o129511.2.2.2.2.1).set (w64 (((r71752.1.Inputs).length : Int) + (i127464 : Int))).toNat o129952.1).length c129522, Value.bool o129952.2]] := Eq.mp (by rw [← hq130005] <;> rfl) hb129997
  refine wpList_nil (tn (⟨⟨fun _ => (hS.pickO (is := [some 0, some 1, none, some 3, some 4, some 5, some 6, none, some 8, some 9, some 10, some 11, some 12]) rfl (by decide)), fun h => absurd h (by decide)⟩, ?_⟩))
  refine tn (wp_region_lit (pr tb 5 hA2 rfl fun a2 hA2 => o_ldP tb hA2 hS hb130006 rfl (i := 7) rfl rfl rfl rfl rfl rfl fun a2 hA2 => pr tb 6 hA2 rfl fun a2 hA2 => o_stP (ps' := [.v [Value.slice A71757 (r71752.1.Inputs).length c71758, Value.slice A71762 (r71752.1.Nodes).length c71763, Value.slice A71767 (r71752.1.Outs).length c71768, Value.slice A129514 (o129511.1).length c129515, Value.int .i64 (mxI o129511.2.1 (w64 (o129952.1 + 1))), Value.int .i64 0, Value.int .u64 o129511.2.2.1], .a (ptA eBool 256 ((o129511.2.2.2.1).set (o129952.1).toNat true)), .v [Value.slice A129521 ((o129511.2.2.2.2.1).set (w64 (((r71752.1.Inputs).length : Int) + (i127464 : Int))).toNat o129952.1).length c129522, Value.bool o129952.2]]) tb hA2 hS hb130006 rfl rfl (i := 7) rfl rfl rfl rfl rfl rfl rfl fun w p130007 hS hb130008 => ?_))
  refine wpList_nil (b_end hA2 (rs := []) rfl RV.nil ?_)
  intro a1 hA1
  refine wpList_nil (tn (wp_seq (rx (fun b w => St noX w0 w H (bif b then [p129938, emp, p130003, p127506, p127502, p127498, p71869, emp, p71778, p71759, p71764, p71769, p71750] else [p129938, emp, p130003, p127506, p127502, p127498, p71869, emp, p71778, p71759, p71764, p71769, p71750])) [] (.q true [0, 1, 2, 3, 5] (.e 4 (.q true [6, 7, 8] (.e 9 .z)))) hmix (by decide +kernel) ?_)))
  have hS := hS.drew
  refine ⟨(hS.pickO (is := [some 0, none, some 2, some 3, some 4, some 5, some 6, none, some 8, some 9, some 10, some 11, some 12]) rfl (by decide)), ?_⟩
  refine q_ld tb hA1 hb127499 rfl (i := 5) rfl rfl rfl rfl rfl rfl fun a1 hA1 => q_ld tb hA1 hb127499 rfl (i := 5) rfl rfl rfl rfl rfl rfl fun a1 hA1 => qpr tb 2 hA1 rfl fun a1 hA1 => q_ld tb hA1 hb129939 rfl (i := 0) rfl rfl rfl rfl rfl rfl fun a1 hA1 => wpHold_nil (o_ldP tb hA1 hS hb130008 rfl (i := 7) rfl rfl rfl rfl rfl rfl fun a1 hA1 => wpList_nil (tn (⟨⟨fun _ => (hS.pickO (is := [some 0, none, some 2, some 3, some 4, some 5, some 6, none, some 8, some 9, some 10, some 11, some 12]) rfl (by decide)), fun _ _ => (hS.pickO (is := [some 0, none, some 2, some 3, some 4, some 5, some 6, none, some 8, some 9, some 10, some 11, some 12]) rfl (by decide))⟩, ?_⟩)))
  refine ⟨(hS.pickO (is := [some 0, none, some 2, some 3, some 4, some 5, some 6, none, some 8, some 9, some 10, some 11, some 12]) rfl (by decide)), ?_⟩
  obtain ⟨x130189, hx130190, hF⟩ := bind_some hF
  refine q_idxO tb hA1 hO130004 hx130190 rfl rfl rfl rfl rfl rfl rfl rfl fun a1 ad130191 hA1 hE130192 hat130193 => q_ldO tb hA1 hE130192 rfl (i := 2) rfl rfl rfl rfl rfl rfl fun a1 cs130194 hc130195 hA1 => ?_
  obtain ⟨rfl, hr130196⟩ := hc130195
  refine qpr tb 1 hA1 rfl fun a1 hA1 => wpHold_nil (o_inl hA1 fi33 rfl rfl rfl rfl (enter fi33.hfn rfl rfl rfl fun a2 hA2 => wp_seq (wp_region_lit (o_box hA2 hS rfl rfl rfl fun a2 w g130198 p130199 hA2 hS hb130200 => wpList_nil (tn (wp_seq (wp_seq (wp_region_lit (pr tb 4 hA2 rfl fun a2 hA2 => ?_)))))))))
  refine o_ldP tb hA2 hS hb130008 rfl (i := 8) rfl rfl rfl rfl rfl rfl fun a2 hA2 => pr tb 2 hA2 rfl fun a2 hA2 => wpList_nil (tn ?_)
  rcases ite_some hF with ⟨hc130201, hF⟩ | ⟨hc130201, hF⟩
  · refine cT hA2 rfl (decide_eq_true hc130201) (wp_seq (wp_region_lit (pr tb 3 hA2 rfl fun a2 hA2 => o_stP (ps' := [.v [Value.slice A71757 (r71752.1.Inputs).length c71758, Value.slice A71762 (r71752.1.Nodes).length c71763, Value.slice A71767 (r71752.1.Outs).length c71768, Value.slice A129514 (o129511.1).length c129515, Value.int .i64 (mxI o129511.2.1 (w64 (o129952.1 + 1))), Value.int .i64 0, Value.int .u64 o129511.2.2.1], .a (ptA eBool 256 ((o129511.2.2.2.1).set (o129952.1).toNat true)), .v [Value.slice A129521 ((o129511.2.2.2.2.1).set (w64 (((r71752.1.Inputs).length : Int) + (i127464 : Int))).toNat o129952.1).length c129522, Value.bool false]]) tb hA2 hS hb130008 rfl rfl (i := 8) rfl rfl rfl rfl rfl rfl rfl fun w p130202 hS hb130203 => ?_)))
    refine wpList_nil (tn (wp_ret (tr (b_ret hA2 (rs := []) rfl RV.nil ?_))))
    intro a1 hA1
    refine wpList_nil (tn (⟨⟨fun _ => (hS.pickO (is := [some 1, none, some 3, some 4, some 5, some 6, some 7, none, some 9, some 10, some 11, some 12, some 13]) rfl (by decide)), fun _ _ => (hS.pickO (is := [some 1, none, some 3, some 4, some 5, some 6, some 7, none, some 9, some 10, some 11, some 12, some 13]) rfl (by decide))⟩, ?_⟩))
    refine tn (wp_seq (wp_seq (wp_region_lit (pr tb 3 hA1 rfl fun a1 hA1 => wpList_nil (tn ?_)))))
    obtain ⟨o131448, hx131448, hK131448⟩ := bind_some hF
    refine wp_cut1 (fun a w => ∃ (p131451 : Piece), Fr (97, []) a [(3, Value.pointer (some ⟨g127497, 0, none⟩)), (4, Value.pointer (some ⟨g127501, 0, none⟩)), (5, Value.pointer (some ⟨g127505, 0, none⟩)), (6, Value.slice A127537 (x127532).length c127538), (9, Value.pointer (some ⟨g129935, 0, none⟩))] ∧ St noX w0 w H [p129938, p129516, p130003, p127506, p127502, p127498, p71869, p131451, p71778, p71759, p71764, p71769, p71750] ∧ BxP H p131451 g71853 73 [.v [Value.slice A71757 (r71752.1.Inputs).length c71758, Value.slice A71762 (r71752.1.Nodes).length c71763, Value.slice A71767 (r71752.1.Outs).length c71768, Value.slice A129514 (o129511.1).length c129515, Value.int .i64 (mxI o129511.2.1 (w64 (o129952.1 + 1))), Value.int .i64 0, Value.int .u64 o129511.2.2.1], .a (ptA eBool 256 ((o129511.2.2.2.1).set (o129952.1).toNat true)), .v [Value.slice A129521 ((o129511.2.2.2.2.1).set (w64 (((r71752.1.Inputs).length : Int) + (i127464 : Int))).toNat o129952.1).length c129522, Value.bool false]]) ?_ ?_
    · have hF := hx131448
      refine wp_block ?_
      have hbd131448 : (x127532).length ≤ 9223372036854775807 := (Nat.le_trans (hO127543.len rfl) (by decide))
      refine wp_for0 (n := (x127532).length) (s0 := (())) (fun (i131449 : Nat) (s131450 : Unit) a w => ∃ (p131453 : Piece), Fr (97, []) a [(3, Value.pointer (some ⟨g127497, 0, none⟩)), (4, Value.pointer (some ⟨g127501, 0, none⟩)), (5, Value.pointer (some ⟨g127505, 0, none⟩)), (6, Value.slice A127537 (x127532).length c127538), (9, Value.pointer (some ⟨g129935, 0, none⟩)), (55, Value.slice A127537 (x127532).length c127538), (56, Value.int .i64 ((x127532).length : Int)), (57, Value.int .i64 (i131449 : Int))] ∧ St noX w0 w H [p129938, p129516, p130003, p127506, p127502, p127498, p71869, p131453, p71778, p71759, p71764, p71769, p71750] ∧ BxP H p131453 g71853 73 [.v [Value.slice A71757 (r71752.1.Inputs).length c71758, Value.slice A71762 (r71752.1.Nodes).length c71763, Value.slice A71767 (r71752.1.Outs).length c71768, Value.slice A129514 (o129511.1).length c129515, Value.int .i64 (mxI o129511.2.1 (w64 (o129952.1 + 1))), Value.int .i64 0, Value.int .u64 o129511.2.2.1], .a (ptA eBool 256 ((o129511.2.2.2.1).set (o129952.1).toNat true)), .v [Value.slice A129521 ((o129511.2.2.2.2.1).set (w64 (((r71752.1.Inputs).length : Int) + (i127464 : Int))).toNat o129952.1).length c129522, Value.bool false]]) hF ⟨_, hA1.sub ⟨rfl, rfl, rfl, rfl, rfl, rfl, rfl, rfl, trivial⟩, hS.pick (is := [1, 2, 3, 4, 5, 6, 7, 8, 9, 10, 11, 12, 13]) rfl (by decide), hb130203⟩ ?_
      rintro After131448 i131449 s131450 a w ⟨p131453, hA1, hS, hb131454⟩ hin131448 hst131448 hge131448
      rcases Nat.lt_or_ge i131449 ((x127532).length) with hlt131448 | hgt131448
      rotate_left
      · have hF := congrArg some (hge131448 hgt131448)
        refine wp_seq (wp_region_lit (pr tb 1 hA1 rfl fun a1 hA1 => wpList_nil (tn (wp_seq (cF hA1 rfl (decide_eq_false (show ¬ ((i131449 : Int) < ((x127532).length : Int)) by omega)) (wp_exit (te (te (be (tn ?_))))))))))
        obtain rfl := Option.some.inj hF
        exact ⟨_, hA1.sub ⟨rfl, rfl, rfl, rfl, rfl, trivial⟩, hS, hb131454⟩
      obtain ⟨cc131448, hF, hgo131448⟩ := hst131448 hlt131448
      refine wp_seq (wp_region_lit (pr tb 1 hA1 rfl fun a1 hA1 => wpList_nil (tn (wp_seq (cT hA1 rfl (decide_eq_true (show (i131449 : Int) < ((x127532).length : Int) by omega)) (wp_skip (tn (wp_seq (wp_block (wp_seq (wp_region_lit ?_)))))))))))
      obtain ⟨x131455, hx131456, hF⟩ := bind_some hF
      refine o_idxO tb hA1 hO127543 hx131456 rfl rfl rfl rfl rfl rfl rfl rfl fun a1 ad131457 hA1 hE131458 hat131459 => o_ldO tb hA1 hS (hE131458.up hl127542) rfl (i := 10) rfl rfl rfl rfl rfl rfl fun a1 cs131460 hc131461 hA1 => ?_
      obtain ⟨rfl, hr131462, hr131463⟩ := hc131461
      refine o_alloc tb hA1 hS rfl rfl rfl fun a1 w g131465 p131466 hA1 hS hb131467 => o_st tb hA1 hS hb131467 rfl rfl (i := 0) rfl rfl rfl rfl rfl rfl rfl fun w p131468 hS hb131469 => wpList_nil (tn (rx (fun b w => St noX w0 w H (bif b then [p131468, p129938, p129516, p130003, p127506, p127502, p127498, p71869, emp, p71778, p71759, p71764, p71769, p71750] else [p131468, p129938, p129516, p130003, p127506, p127502, p127498, p71869, emp, p71778, p71759, p71764, p71769, p71750])) [] (.q true [0, 1, 2, 3, 5, 8, 9, 10, 12, 13, 16, 17] (.alt 4 (.q true [6, 7] (.e 11 (.q true [14, 15, 18] (.e 19 .z)))) (.e 11 (.q true [14, 15] (.e 4 (.q true [6, 7, 18] (.e 19 .z))))))) hmix (by decide +kernel) ?_))
      have hS := hS.drew
      refine ⟨(hS.pickO (is := [some 0, some 1, some 2, some 3, some 4, some 5, some 6, some 7, none, some 9, some 10, some 11, some 12, some 13]) rfl (by decide)), ?_⟩
      refine q_ld tb hA1 hb127499 rfl (i := 6) rfl rfl rfl rfl rfl rfl fun a1 hA1 => q_ld tb hA1 hb127499 rfl (i := 6) rfl rfl rfl rfl rfl rfl fun a1 hA1 => qpr tb 2 hA1 rfl fun a1 hA1 => q_ld tb hA1 hb129939 rfl (i := 1) rfl rfl rfl rfl rfl rfl fun a1 hA1 => q_ld tb hA1 hb127499 rfl (i := 6) rfl rfl rfl rfl rfl rfl fun a1 hA1 => qpr tb 3 hA1 rfl fun a1 hA1 => q_ld tb hA1 hb131469 rfl (i := 0) rfl rfl rfl rfl rfl rfl fun a1 hA1 => qpr tb 1 hA1 rfl fun a1 hA1 => q_ld tb hA1 hb131469 rfl (i := 0) rfl rfl rfl rfl rfl rfl fun a1 hA1 => wpHold_nil ?_
      obtain ⟨x131660, hx131661, hF⟩ := bind_some hF
      obtain ⟨x131662, hx131663, hF⟩ := bind_some hF
      refine ⟨?_, ?_⟩
      · refine o_ldP tb hA1 hS hb131454 rfl (i := 8) rfl rfl rfl rfl rfl rfl fun a1 hA1 => wpList_nil (tn (⟨⟨fun _ => (hS.pickO (is := [some 0, some 1, some 2, some 3, some 4, some 5, some 6, some 7, none, some 9, some 10, some 11, some 12, some 13]) rfl (by decide)), fun _ _ => (hS.pickO (is := [some 0, some 1, some 2, some 3, some 4, some 5, some 6, some 7, none, some 9, some 10, some 11, some 12, some 13]) rfl (by decide))⟩, ?_⟩))
        refine ⟨(hS.pickO (is := [some 0, some 1, some 2, some 3, some 4, some 5, some 6, some 7, none, some 9, some 10, some 11, some 12, some 13]) rfl (by decide)), ?_⟩
        refine q_idxO tb hA1 hO130004 hx131661 rfl rfl rfl rfl rfl rfl rfl rfl fun a1 ad131664 hA1 hE131665 hat131666 => q_ldO tb hA1 hE131665 rfl (i := 3) rfl rfl rfl rfl rfl rfl fun a1 cs131667 hc131668 hA1 => ?_
        obtain ⟨rfl, hr131669⟩ := hc131668
        refine wpHold_nil (o_ldP tb hA1 hS hb131454 rfl (i := 8) rfl rfl rfl rfl rfl rfl fun a1 hA1 => wpList_nil (tn (⟨⟨fun _ => (hS.pickO (is := [some 0, some 1, some 2, some 3, some 4, some 5, some 6, some 7, none, some 9, some 10, some 11, some 12, some 13]) rfl (by decide)), fun _ _ => (hS.pickO (is := [some 0, some 1, some 2, some 3, some 4, some 5, some 6, some 7, none, some 9, some 10, some 11, some 12, some 13]) rfl (by decide))⟩, ?_⟩)))
        refine ⟨(hS.pickO (is := [some 0, some 1, some 2, some 3, some 4, some 5, some 6, some 7, none, some 9, some 10, some 11, some 12, some 13]) rfl (by decide)), ?_⟩
        refine q_idxO tb hA1 hO130004 hx131663 rfl rfl rfl rfl rfl rfl rfl rfl fun a1 ad131670 hA1 hE131671 hat131672 => q_ldO tb hA1 hE131671 rfl (i := 3) rfl rfl rfl rfl rfl rfl fun a1 cs131673 hc131674 hA1 => ?_
        obtain ⟨rfl, hr131675⟩ := hc131674
        refine qpr tb 1 hA1 rfl fun a1 hA1 => wpHold_nil (o_inl hA1 fi33 rfl rfl rfl rfl (enter fi33.hfn rfl rfl rfl fun a2 hA2 => wp_seq (wp_region_lit (o_box hA2 hS rfl rfl rfl fun a2 w g131677 p131678 hA2 hS hb131679 => wpList_nil (tn (wp_seq (wp_seq (wp_region_lit (pr tb 4 hA2 rfl fun a2 hA2 => ?_)))))))))
        refine o_ldP tb hA2 hS hb131454 rfl (i := 9) rfl rfl rfl rfl rfl rfl fun a2 hA2 => pr tb 2 hA2 rfl fun a2 hA2 => wpList_nil (tn (cT hA2 rfl (decide_eq_true hc130201) (wp_seq (wp_region_lit (pr tb 3 hA2 rfl fun a2 hA2 => o_stP (ps' := [.v [Value.slice A71757 (r71752.1.Inputs).length c71758, Value.slice A71762 (r71752.1.Nodes).length c71763, Value.slice A71767 (r71752.1.Outs).length c71768, Value.slice A129514 (o129511.1).length c129515, Value.int .i64 (mxI o129511.2.1 (w64 (o129952.1 + 1))), Value.int .i64 0, Value.int .u64 o129511.2.2.1], .a (ptA eBool 256 ((o129511.2.2.2.1).set (o129952.1).toNat true)), .v [Value.slice A129521 ((o129511.2.2.2.2.1).set (w64 (((r71752.1.Inputs).length : Int) + (i127464 : Int))).toNat o129952.1).length c129522, Value.bool false]]) tb hA2 hS hb131454 rfl rfl (i := 9) rfl rfl rfl rfl rfl rfl rfl fun w p131680 hS hb131681 => ?_)))))
        refine wpList_nil (tn (wp_ret (tr (b_ret hA2 (rs := []) rfl RV.nil ?_))))
        intro a1 hA1
        refine wpList_nil (tn (⟨⟨fun _ => (hS.pickO (is := [some 1, some 2, some 3, some 4, some 5, some 6, some 7, some 8, none, some 10, some 11, some 12, some 13, some 14]) rfl (by decide)), fun _ _ => (hS.pickO (is := [some 1, some 2, some 3, some 4, some 5, some 6, some 7, some 8, none, some 10, some 11, some 12, some 13, some 14]) rfl (by decide))⟩, ?_⟩))
        refine bn (tn (wp_region_lit (pr tb 2 hA1 rfl fun a1 hA1 => wpList_nil (tn ?_))))
        obtain rfl := Option.some.inj hF
        have hA1 := hA1.re (d := 57) rfl (congrArg (Value.int .i64) (w64_succ hlt131448 hbd131448))
        exact ⟨(()), ⟨_, hA1.sub ⟨rfl, rfl, rfl, rfl, rfl, rfl, rfl, rfl, trivial⟩, hS.pick (is := [2, 3, 4, 5, 6, 7, 8, 9, 10, 11, 12, 13, 14]) rfl (by decide), hb131681⟩, hlt131448, hgo131448⟩
      refine o_ldP tb hA1 hS hb131454 rfl (i := 8) rfl rfl rfl rfl rfl rfl fun a1 hA1 => wpList_nil (tn (⟨⟨fun _ => (hS.pickO (is := [some 0, some 1, some 2, some 3, some 4, some 5, some 6, some 7, none, some 9, some 10, some 11, some 12, some 13]) rfl (by decide)), fun _ _ => (hS.pickO (is := [some 0, some 1, some 2, some 3, some 4, some 5, some 6, some 7, none, some 9, some 10, some 11, some 12, some 13]) rfl (by decide))⟩, ?_⟩))
      refine ⟨(hS.pickO (is := [some 0, some 1, some 2, some 3, some 4, some 5, some 6, some 7, none, some 9, some 10, some 11, some 12, some 13]) rfl (by decide)), ?_⟩
      refine q_idxO tb hA1 hO130004 hx131663 rfl rfl rfl rfl rfl rfl rfl rfl fun a1 ad131682 hA1 hE131683 hat131684 => q_ldO tb hA1 hE131683 rfl (i := 3) rfl rfl rfl rfl rfl rfl fun a1 cs131685 hc131686 hA1 => ?_
      obtain ⟨rfl, hr131687⟩ := hc131686
      refine wpHold_nil (o_ldP tb hA1 hS hb131454 rfl (i := 8) rfl rfl rfl rfl rfl rfl fun a1 hA1 => wpList_nil (tn (⟨⟨fun _ => (hS.pickO (is := [some 0, some 1, some 2, some 3, some 4, some 5, some 6, some 7, none, some 9, some 10, some 11, some 12, some 13]) rfl (by decide)), fun _ _ => (hS.pickO (is := [some 0, some 1, some 2, some 3, some 4, some 5, some 6, some 7, none, some 9, some 10, some 11, some 12, some 13]) rfl (by decide))⟩, ?_⟩)))
      refine ⟨(hS.pickO (is := [some 0, some 1, some 2, some 3, some 4, some 5, some 6, some 7, none, some 9, some 10, some 11, some 12, some 13]) rfl (by decide)), ?_⟩
      refine q_idxO tb hA1 hO130004 hx131661 rfl rfl rfl rfl rfl rfl rfl rfl fun a1 ad131688 hA1 hE131689 hat131690 => q_ldO tb hA1 hE131689 rfl (i := 3) rfl rfl rfl rfl rfl rfl fun a1 cs131691 hc131692 hA1 => ?_
      obtain ⟨rfl, hr131693⟩ := hc131692
      refine qpr tb 1 hA1 rfl fun a1 hA1 => wpHold_nil (o_inl hA1 fi33 rfl rfl rfl rfl (enter fi33.hfn rfl rfl rfl fun a2 hA2 => wp_seq (wp_region_lit (o_box hA2 hS rfl rfl rfl fun a2 w g131695 p131696 hA2 hS hb131697 => wpList_nil (tn (wp_seq (wp_seq (wp_region_lit (pr tb 4 hA2 rfl fun a2 hA2 => ?_)))))))))
      refine o_ldP tb hA2 hS hb131454 rfl (i := 9) rfl rfl rfl rfl rfl rfl fun a2 hA2 => pr tb 2 hA2 rfl fun a2 hA2 => wpList_nil (tn (cT hA2 rfl (decide_eq_true hc130201) (wp_seq (wp_region_lit (pr tb 3 hA2 rfl fun a2 hA2 => o_stP (ps' := [.v [Value.slice A71757 (r71752.1.Inputs).length c71758, Value.slice A71762 (r71752.1.Nodes).length c71763, Value.slice A71767 (r71752.1.Outs).length c71768, Value.slice A129514 (o129511.1).length c129515, Value.int .i64 (mxI o129511.2.1 (w64 (o129952.1 + 1))), Value.int .i64 0, Value.int .u64 o129511.2.2.1], .a (ptA eBool 256 ((o129511.2.2.2.1).set (o129952.1).toNat true)), .v [Value.slice A129521 ((o129511.2.2.2.2.1).set (w64 (((r71752.1.Inputs).length : Int) + (i127464 : Int))).toNat o129952.1).length c129522, Value.bool false]]) tb hA2 hS hb131454 rfl rfl (i := 9) rfl rfl rfl rfl rfl rfl rfl fun w p131698 hS hb131699 => ?_)))))
      refine wpList_nil (tn (wp_ret (tr (b_ret hA2 (rs := []) rfl RV.nil ?_))))
      intro a1 hA1
      refine wpList_nil (tn (⟨⟨fun _ => (hS.pickO (is := [some 1, some 2, some 3, some 4, some 5, some 6, some 7, some 8, none, some 10, some 11, some 12, some 13, some 14]) rfl (by decide)), fun _ _ => (hS.pickO (is := [some 1, some 2, some 3, some 4, some 5, some 6, some 7, some 8, none, some 10, some 11, some 12, some 13, some 14]) rfl (by decide))⟩, ?_⟩))
      refine bn (tn (wp_region_lit (pr tb 2 hA1 rfl fun a1 hA1 => wpList_nil (tn ?_))))
      obtain rfl := Option.some.inj hF
      have hA1 := hA1.re (d := 57) rfl (congrArg (Value.int .i64) (w64_succ hlt131448 hbd131448))
      exact ⟨(()), ⟨_, hA1.sub ⟨rfl, rfl, rfl, rfl, rfl, rfl, rfl, rfl, trivial⟩, hS.pick (is := [2, 3, 4, 5, 6, 7, 8, 9, 10, 11, 12, 13, 14]) rfl (by decide), hb131699⟩, hlt131448, hgo131448⟩
    rintro a w ⟨p131451, hA1, hS, hb131452⟩
    have hF := hK131448
    refine tn (wp_seq (wp_region_lit (pr tb 2 hA1 rfl fun a1 hA1 => wpList_nil (tn (wp_seq (wp_seq (wp_region_lit (pr tb 3 hA1 rfl fun a1 hA1 => wpList_nil (tn ?_)))))))))
    obtain ⟨o132322, hx132322, hK132322⟩ := bind_some hF
    refine wp_cut1 (fun a w => ∃ (p132325 : Piece), Fr (97, []) a [(9, Value.pointer (some ⟨g129935, 0, none⟩)), (12, Value.func (.func 49) #[] #[Value.pointer (some ⟨g127505, 0, none⟩), Value.pointer (some ⟨g127501, 0, none⟩), Value.pointer (some ⟨g129935, 0, none⟩), Value.pointer (some ⟨g127497, 0, none⟩)])] ∧ St noX w0 w H [p129938, p129516, p130003, p127506, p127502, p127498, p71869, p132325, p71778, p71759, p71764, p71769, p71750] ∧ BxP H p132325 g71853 73 [.v [Value.slice A71757 (r71752.1.Inputs).length c71758, Value.slice A71762 (r71752.1.Nodes).length c71763, Value.slice A71767 (r71752.1.Outs).length c71768, Value.slice A129514 (o129511.1).length c129515, Value.int .i64 (mxI o129511.2.1 (w64 (o129952.1 + 1))), Value.int .i64 0, Value.int .u64 o129511.2.2.1], .a (ptA eBool 256 o132322), .v [Value.slice A129521 ((o129511.2.2.2.2.1).set (w64 (((r71752.1.Inputs).length : Int) + (i127464 : Int))).toNat o129952.1).length c129522, Value.bool false]]) ?_ ?_
    rotate_left
    · rintro a w ⟨p132325, hA1, hS, hb132326⟩
      have hF := hK132322
      refine tn (wp_region_lit (pr tb 1 hA1 rfl fun a1 hA1 => o_ld tb hA1 hS hb129939 rfl (i := 0) rfl rfl rfl rfl rfl rfl fun a1 hA1 => ?_))
      obtain ⟨o132782, hx132782, hK132782⟩ := bind_some hF
      refine o_call1 (R := fun v w => ∃ (p132783 : Piece), v = Value.tuple #[] ∧ St noX w0 w H [p129938, p129516, p130003, p127506, p127502, p127498, p71869, p132783, p71778, p71759, p71764, p71769, p71750] ∧ BxP H p132783 g71853 73 [.v [Value.slice A71757 (r71752.1.Inputs).length c71758, Value.slice A71762 (r71752.1.Nodes).length c71763, Value.slice A71767 (r71752.1.Outs).length c71768, Value.slice A129514 (o129511.1).length c129515, Value.int .i64 (mxI o129511.2.1 (w64 (o129952.1 + 1))), Value.int .i64 0, Value.int .u64 o129511.2.2.1], .a (ptA eBool 256 o132782), .v [Value.slice A129521 ((o129511.2.2.2.2.1).set (w64 (((r71752.1.Inputs).length : Int) + (i127464 : Int))).toNat o129952.1).length c129522, Value.bool false]]) hA1 fi49 rfl rfl rfl rfl ?_ ?_
      rotate_left
      · rintro a1 w v ⟨p132783, rfl, hS, hb132784⟩ hA1
        have hF := hK132782
        refine wpList_nil (b_end hA1 (rs := []) rfl RV.nil ?_)
        intro a hA
        refine wpList_nil (tn (wp_seq (wp_region_lit (pr tb 3 hA rfl fun a hA => o_ldP tb hA hS hb132784 rfl (i := 7) rfl rfl rfl rfl rfl rfl fun a hA => pr tb 1 hA rfl fun a hA => wpList_nil (tn (cT hA rfl rfl (wp_seq (wp_region_lit (pr tb 1 hA rfl fun a hA => ?_)))))))))
        refine o_st tb hA hS hb71751 rfl rfl (i := 12) rfl rfl rfl rfl rfl rfl rfl fun w p132930 hS hb132931 => pr tb 1 hA rfl fun a hA => wpList_nil (tn (wp_ret (br (tr (tr ?_)))))
        obtain rfl := Option.some.inj hF
        have hF := congrArg some hgo127463
        refine br (tr ?_)
        obtain rfl := Option.some.inj hF
        have hF := hK127463
        refine tr (b_ret hA (rs := [.cell 2 55, .tmp 3]) rfl (.cell rfl (hb132931.load tb hS (i := 12) rfl rfl rfl rfl) (.tmp rfl .nil)) ?_)
        obtain rfl := Option.some.inj hF
        have hS := hS.nil'
        exact ⟨_, _, _, rfl, hS.pick (is := [0]) rfl (by decide), OwnS.nil, (inR_c rfl), (inR_c rfl), (inR_c rfl), (inR_c rfl)⟩
      have hF := hx132782
      refine enter fi49.hfn rfl rfl rfl fun a2 hA2 => wp_seq (rx (fun b w => St noX w0 w H (bif b then [p129938, p129516, p130003, p127506, p127502, p127498, p71869, p132325, p71778, p71759, p71764, p71769, p71750] else [p129938, p129516, p130003, p127506, p127502, p127498, p71869, p132325, p71778, p71759, p71764, p71769, p71750])) [] (.q true [0, 1, 2, 3, 4, 5, 6, 7, 8, 9, 10, 11, 12, 13, 14, 15, 16, 17] .z) hmix (by decide +kernel) ?_)
      have hS := hS.drew
      refine ⟨(hS.pickO (is := [some 0, some 1, some 2, some 3, some 4, some 5, some 6, some 7, some 8, some 9, some 10, some 11, some 12]) rfl (by decide)), ?_⟩
      refine q_ld tb hA2 hb127507 rfl (i := 3) rfl rfl rfl rfl rfl rfl fun a2 hA2 => qpr tb 1 hA2 rfl fun a2 hA2 => ?_
      obtain ⟨x132821, hx132822, hF⟩ := bind_some hF
      refine q_idxO tb hA2 hO71873 hx132822 rfl rfl rfl rfl rfl rfl rfl rfl fun a2 ad132823 hA2 hE132824 hat132825 => q_ldO tb hA2 hE132824 rfl (i := 6) rfl rfl rfl rfl rfl rfl fun a2 cs132826 hc132827 hA2 => ?_
      obtain ⟨rfl, hr132828⟩ := hc132827
      refine q_ld tb hA2 hb127503 rfl (i := 4) rfl rfl rfl rfl rfl rfl fun a2 hA2 => qpr tb 2 hA2 rfl fun a2 hA2 => ?_
      rcases ite_some hF with ⟨hc132829, hF⟩ | ⟨hc132829, hF⟩
      · have hA2 := hA2.re (d := 12) rfl (congrArg Value.bool (decide_eq_true hc132829 : _ = true))
        refine qpr tb 11 hA2 rfl fun a2 hA2 => wpHold_nil (tn (cT hA2 rfl rfl (rx (fun b w => St noX w0 w H (bif b then [p129938, p129516, p130003, p127506, p127502, p127498, p71869, p132325, p71778, p71759, p71764, p71769, p71750] else [p129938, p129516, p130003, p127506, p127502, p127498, p71869, emp, p71778, p71759, p71764, p71769, p71750])) [11] (.q true [0, 1, 2, 3, 4, 5, 6, 7] (.q false [8, 9] (.q true [10] (.e 11 .z)))) hmix (by decide +kernel) ?_)))
        have hS := hS.drew
        refine ⟨(hS.pickO (is := [some 0, some 1, some 2, some 3, some 4, some 5, some 6, some 7, some 8, some 9, some 10, some 11, some 12]) rfl (by decide)), ?_⟩
        refine q_ld tb hA2 hb127499 rfl (i := 5) rfl rfl rfl rfl rfl rfl fun a2 hA2 => q_ld tb hA2 hb127499 rfl (i := 5) rfl rfl rfl rfl rfl rfl fun a2 hA2 => qpr tb 2 hA2 rfl fun a2 hA2 => q_ldP tb hA2 hb132326 rfl (i := 7) rfl rfl rfl rfl rfl rfl fun a2 hA2 => qpr tb 1 hA2 rfl fun a2 hA2 => ?_
        obtain ⟨x132860, hx132861, hF⟩ := bind_some hF
        refine q_idxO tb hA2 hO130004 hx132861 rfl rfl rfl rfl rfl rfl rfl rfl fun a2 ad132862 hA2 hE132863 hat132864 => q_ldO tb hA2 hE132863 rfl (i := 2) rfl rfl rfl rfl rfl rfl fun a2 cs132865 hc132866 hA2 => ?_
        obtain ⟨rfl, hr132867⟩ := hc132866
        refine wpHold_nil (⟨(hS.pickO (is := [some 0, some 1, some 2, some 3, some 4, some 5, some 6, none, some 8, some 9, some 10, some 11, some 12]) rfl (by decide)), ?_⟩)
        refine qpr tb 2 hA2 rfl fun a2 hA2 => wpHold_nil (⟨(hS.pickO (is := [some 0, some 1, some 2, some 3, some 4, some 5, some 6, some 7, some 8, some 9, some 10, some 11, some 12]) rfl (by decide)), ?_⟩)
        obtain ⟨x132868, hx132869, hF⟩ := bind_some hF
        refine q_idxA tb hA2 hb132326 (k := 1) rfl rfl hx132869 rfl rfl rfl rfl rfl rfl rfl rfl fun a2 ad132870 hA2 hE132871 had132872 => wpHold_nil (o_stA (v := Value.bool false) (y0 := false) tb hA2 hS hb132326 (k := 1) rfl rfl hx132869 had132872 rfl rfl rfl (i := 7) rfl rfl rfl rfl rfl fun w p132873 hS hb132874 => wpList_nil (tn (⟨⟨fun _ => (hS.pickO (is := [some 0, some 1, some 2, some 3, some 4, some 5, some 6, none, some 8, some 9, some 10, some 11, some 12]) rfl (by decide)), fun h => absurd h (by decide)⟩, ?_⟩)))
        refine b_end hA2 (rs := []) rfl RV.nil ?_
        obtain rfl := Option.some.inj hF
        exact ⟨_, rfl, hS, hb132874⟩
      have hA2 := hA2.re (d := 12) rfl (congrArg Value.bool (decide_eq_false hc132829 : _ = false))
      refine qpr tb 1 hA2 rfl fun a2 hA2 => q_ld tb hA2 hb129939 rfl (i := 0) rfl rfl rfl rfl rfl rfl fun a2 hA2 => qpr tb 2 hA2 rfl fun a2 hA2 => ?_
      rcases ite_some hF with ⟨hc132875, hF⟩ | ⟨hc132875, hF⟩
      rotate_left
      · have hA2 := hA2.re (d := 16) rfl (congrArg Value.bool (decide_eq_false hc132875 : _ = false))
        refine qpr tb 7 hA2 rfl fun a2 hA2 => wpHold_nil (tn (cF hA2 rfl rfl (wp_skip (b_end hA2 (rs := []) rfl RV.nil ?_))))
        obtain rfl := Option.some.inj hF
        exact ⟨_, rfl, hS, hb132326⟩
      have hA2 := hA2.re (d := 16) rfl (congrArg Value.bool (decide_eq_true hc132875 : _ = true))
      refine q_ld tb hA2 hb127507 rfl (i := 3) rfl rfl rfl rfl rfl rfl fun a2 hA2 => qpr tb 1 hA2 rfl fun a2 hA2 => ?_
      obtain ⟨x132876, hx132877, hF⟩ := bind_some hF
      refine q_idxO tb hA2 hO71873 hx132877 rfl rfl rfl rfl rfl rfl rfl rfl fun a2 ad132878 hA2 hE132879 hat132880 => q_ldO tb hA2 hE132879 rfl (i := 6) rfl rfl rfl rfl rfl rfl fun a2 cs132881 hc132882 hA2 => ?_
      obtain ⟨rfl, hr132883⟩ := hc132882
      refine qpr tb 3 hA2 rfl fun a2 hA2 => wpHold_nil (tn ?_)
      rcases ite_some hF with ⟨hc132884, hF⟩ | ⟨hc132884, hF⟩
      rotate_left
      · refine cF hA2 rfl (decide_eq_false hc132884) (wp_skip (b_end hA2 (rs := []) rfl RV.nil ?_))
        obtain rfl := Option.some.inj hF
        exact ⟨_, rfl, hS, hb132326⟩
      refine cT hA2 rfl (decide_eq_true hc132884) (rx (fun b w => St noX w0 w H (bif b then [p129938, p129516, p130003, p127506, p127502, p127498, p71869, p132325, p71778, p71759, p71764, p71769, p71750] else [p129938, p129516, p130003, p127506, p127502, p127498, p71869, emp, p71778, p71759, p71764, p71769, p71750])) [11] (.q true [0, 1, 2, 3, 4, 5, 6, 7] (.q false [8, 9] (.q true [10] (.e 11 .z)))) hmix (by decide +kernel) ?_)
      have hS := hS.drew
      refine ⟨(hS.pickO (is := [some 0, some 1, some 2, some 3, some 4, some 5, some 6, some 7, some 8, some 9, some 10, some 11, some 12]) rfl (by decide)), ?_⟩
      refine q_ld tb hA2 hb127499 rfl (i := 5) rfl rfl rfl rfl rfl rfl fun a2 hA2 => q_ld tb hA2 hb127499 rfl (i := 5) rfl rfl rfl rfl rfl rfl fun a2 hA2 => qpr tb 2 hA2 rfl fun a2 hA2 => q_ldP tb hA2 hb132326 rfl (i := 7) rfl rfl rfl rfl rfl rfl fun a2 hA2 => qpr tb 1 hA2 rfl fun a2 hA2 => ?_
      obtain ⟨x132915, hx132916, hF⟩ := bind_some hF
      refine q_idxO tb hA2 hO130004 hx132916 rfl rfl rfl rfl rfl rfl rfl rfl fun a2 ad132917 hA2 hE132918 hat132919 => q_ldO tb hA2 hE132918 rfl (i := 2) rfl rfl rfl rfl rfl rfl fun a2 cs132920 hc132921 hA2 => ?_
      obtain ⟨rfl, hr132922⟩ := hc132921
      refine wpHold_nil (⟨(hS.pickO (is := [some 0, some 1, some 2, some 3, some 4, some 5, some 6, none, some 8, some 9, some 10, some 11, some 12]) rfl (by decide)), ?_⟩)
      refine qpr tb 2 hA2 rfl fun a2 hA2 => wpHold_nil (⟨(hS.pickO (is := [some 0, some 1, some 2, some 3, some 4, some 5, some 6, some 7, some 8, some 9, some 10, some 11, some 12]) rfl (by decide)), ?_⟩)
      obtain ⟨x132923, hx132924, hF⟩ := bind_some hF
      refine q_idxA tb hA2 hb132326 (k := 1) rfl rfl hx132924 rfl rfl rfl rfl rfl rfl rfl rfl fun a2 ad132925 hA2 hE132926 had132927 => wpHold_nil (o_stA (v := Value.bool false) (y0 := false) tb hA2 hS hb132326 (k := 1) rfl rfl hx132924 had132927 rfl rfl rfl (i := 7) rfl rfl rfl rfl rfl fun w p132928 hS hb132929 => wpList_nil (tn (⟨⟨fun _ => (hS.pickO (is := [some 0, some 1, some 2, some 3, some 4, some 5, some 6, none, some 8, some 9, some 10, some 11, some 12]) rfl (by decide)), fun h => absurd h (by decide)⟩, ?_⟩)))
      refine b_end hA2 (rs := []) rfl RV.nil ?_
      obtain rfl := Option.some.inj hF
      exact ⟨_, rfl, hS, hb132929⟩
    have hF := hx132322
    refine wp_block ?_
    have hbd132322 : (x127532).length ≤ 9223372036854775807 := (Nat.le_trans (hO127543.len rfl) (by decide))
    refine wp_for0 (n := (x127532).length) (s0 := ((o129511.2.2.2.1).set (o129952.1).toNat true)) (fun (i132323 : Nat) (s132324 : List Bool) a w => ∃ (p132327 : Piece), Fr (97, []) a [(9, Value.pointer (some ⟨g129935, 0, none⟩)), (12, Value.func (.func 49) #[] #[Value.pointer (some ⟨g127505, 0, none⟩), Value.pointer (some ⟨g127501, 0, none⟩), Value.pointer (some ⟨g129935, 0, none⟩), Value.pointer (some ⟨g127497, 0, none⟩)]), (83, Value.slice A127537 (x127532).length c127538), (84, Value.int .i64 ((x127532).length : Int)), (85, Value.int .i64 (i132323 : Int))] ∧ St noX w0 w H [p129938, p129516, p130003, p127506, p127502, p127498, p71869, p132327, p71778, p71759, p71764, p71769, p71750] ∧ BxP H p132327 g71853 73 [.v [Value.slice A71757 (r71752.1.Inputs).length c71758, Value.slice A71762 (r71752.1.Nodes).length c71763, Value.slice A71767 (r71752.1.Outs).length c71768, Value.slice A129514 (o129511.1).length c129515, Value.int .i64 (mxI o129511.2.1 (w64 (o129952.1 + 1))), Value.int .i64 0, Value.int .u64 o129511.2.2.1], .a (ptA eBool 256 s132324), .v [Value.slice A129521 ((o129511.2.2.2.2.1).set (w64 (((r71752.1.Inputs).length : Int) + (i127464 : Int))).toNat o129952.1).length c129522, Value.bool false]]) hF ⟨_, hA1.sub ⟨rfl, rfl, rfl, rfl, rfl, trivial⟩, hS, hb131452⟩ ?_
    rintro After132322 i132323 s132324 a w ⟨p132327, hA1, hS, hb132328⟩ hin132322 hst132322 hge132322
    rcases Nat.lt_or_ge i132323 ((x127532).length) with hlt132322 | hgt132322
    rotate_left
    · have hF := congrArg some (hge132322 hgt132322)
      refine wp_seq (wp_region_lit (pr tb 1 hA1 rfl fun a1 hA1 => wpList_nil (tn (wp_seq (cF hA1 rfl (decide_eq_false (show ¬ ((i132323 : Int) < ((x127532).length : Int)) by omega)) (wp_exit (te (te (be (tn ?_))))))))))
      obtain rfl := Option.some.inj hF
      exact ⟨_, hA1.sub ⟨rfl, rfl, trivial⟩, hS, hb132328⟩
    obtain ⟨cc132322, hF, hgo132322⟩ := hst132322 hlt132322
    refine wp_seq (wp_region_lit (pr tb 1 hA1 rfl fun a1 hA1 => wpList_nil (tn (wp_seq (cT hA1 rfl (decide_eq_true (show (i132323 : Int) < ((x127532).length : Int) by omega)) (wp_skip (tn (wp_seq (wp_block (wp_seq (wp_region_lit ?_)))))))))))
    obtain ⟨x132329, hx132330, hF⟩ := bind_some hF
    refine o_idxO tb hA1 hO127543 hx132330 rfl rfl rfl rfl rfl rfl rfl rfl fun a1 ad132331 hA1 hE132332 hat132333 => o_ldO tb hA1 hS (hE132332.up hl127542) rfl (i := 10) rfl rfl rfl rfl rfl rfl fun a1 cs132334 hc132335 hA1 => ?_
    obtain ⟨rfl, hr132336, hr132337⟩ := hc132335
    refine o_alloc tb hA1 hS rfl rfl rfl fun a1 w g132339 p132340 hA1 hS hb132341 => o_st tb hA1 hS hb132341 rfl rfl (i := 0) rfl rfl rfl rfl rfl rfl rfl fun w p132342 hS hb132343 => wpList_nil (tn (wp_region_lit (pr tb 2 hA1 rfl fun a1 hA1 => o_ld tb hA1 hS hb132343 rfl (i := 0) rfl rfl rfl rfl rfl rfl fun a1 hA1 => ?_)))
    obtain ⟨o132489, hx132489, hK132489⟩ := bind_some hF
    refine o_call1 (R := fun v w => ∃ (p132490 : Piece), v = Value.tuple #[] ∧ St noX w0 w H [p132342, p129938, p129516, p130003, p127506, p127502, p127498, p71869, p132490, p71778, p71759, p71764, p71769, p71750] ∧ BxP H p132490 g71853 73 [.v [Value.slice A71757 (r71752.1.Inputs).length c71758, Value.slice A71762 (r71752.1.Nodes).length c71763, Value.slice A71767 (r71752.1.Outs).length c71768, Value.slice A129514 (o129511.1).length c129515, Value.int .i64 (mxI o129511.2.1 (w64 (o129952.1 + 1))), Value.int .i64 0, Value.int .u64 o129511.2.2.1], .a (ptA eBool 256 o132489), .v [Value.slice A129521 ((o129511.2.2.2.2.1).set (w64 (((r71752.1.Inputs).length : Int) + (i127464 : Int))).toNat o129952.1).length c129522, Value.bool false]]) hA1 fi49 rfl rfl rfl rfl ?_ ?_
    rotate_left
    · rintro a1 w v ⟨p132490, rfl, hS, hb132491⟩ hA1
      have hF := hK132489
      refine wpList_nil (bn (tn (wp_region_lit (pr tb 2 hA1 rfl fun a1 hA1 => wpList_nil (tn ?_)))))
      obtain rfl := Option.some.inj hF
      have hA1 := hA1.re (d := 85) rfl (congrArg (Value.int .i64) (w64_succ hlt132322 hbd132322))
      exact ⟨(o132489), ⟨_, hA1.sub ⟨rfl, rfl, rfl, rfl, rfl, trivial⟩, hS.pick (is := [1, 2, 3, 4, 5, 6, 7, 8, 9, 10, 11, 12, 13]) rfl (by decide), hb132491⟩, hlt132322, hgo132322⟩
    have hF := hx132489
    refine enter fi49.hfn rfl rfl rfl fun a2 hA2 => wp_seq (rx (fun b w => St noX w0 w H (bif b then [p132342, p129938, p129516, p130003, p127506, p127502, p127498, p71869, p132327, p71778, p71759, p71764, p71769, p71750] else [p132342, p129938, p129516, p130003, p127506, p127502, p127498, p71869, p132327, p71778, p71759, p71764, p71769, p71750])) [] (.q true [0, 1, 2, 3, 4, 5, 6, 7, 8, 9, 10, 11, 12, 13, 14, 15, 16, 17] .z) hmix (by decide +kernel) ?_)
    have hS := hS.drew
    refine ⟨(hS.pickO (is := [some 0, some 1, some 2, some 3, some 4, some 5, some 6, some 7, some 8, some 9, some 10, some 11, some 12, some 13]) rfl (by decide)), ?_⟩
    refine q_ld tb hA2 hb127507 rfl (i := 4) rfl rfl rfl rfl rfl rfl fun a2 hA2 => qpr tb 1 hA2 rfl fun a2 hA2 => ?_
    obtain ⟨x132528, hx132529, hF⟩ := bind_some hF
    refine q_idxO tb hA2 hO71873 hx132529 rfl rfl rfl rfl rfl rfl rfl rfl fun a2 ad132530 hA2 hE132531 hat132532 => q_ldO tb hA2 hE132531 rfl (i := 7) rfl rfl rfl rfl rfl rfl fun a2 cs132533 hc132534 hA2 => ?_
    obtain ⟨rfl, hr132535⟩ := hc132534
    refine q_ld tb hA2 hb127503 rfl (i := 5) rfl rfl rfl rfl rfl rfl fun a2 hA2 => qpr tb 2 hA2 rfl fun a2 hA2 => ?_
    rcases ite_some hF with ⟨hc132536, hF⟩ | ⟨hc132536, hF⟩
    · have hA2 := hA2.re (d := 12) rfl (congrArg Value.bool (decide_eq_true hc132536 : _ = true))
      refine qpr tb 11 hA2 rfl fun a2 hA2 => wpHold_nil (tn (cT hA2 rfl rfl (rx (fun b w => St noX w0 w H (bif b then [p132342, p129938, p129516, p130003, p127506, p127502, p127498, p71869, p132327, p71778, p71759, p71764, p71769, p71750] else [p132342, p129938, p129516, p130003, p127506, p127502, p127498, p71869, emp, p71778, p71759, p71764, p71769, p71750])) [11] (.q true [0, 1, 2, 3, 4, 5, 6, 7] (.q false [8, 9] (.q true [10] (.e 11 .z)))) hmix (by decide +kernel) ?_)))
      have hS := hS.drew
      refine ⟨(hS.pickO (is := [some 0, some 1, some 2, some 3, some 4, some 5, some 6, some 7, some 8, some 9, some 10, some 11, some 12, some 13]) rfl (by decide)), ?_⟩
      refine q_ld tb hA2 hb127499 rfl (i := 6) rfl rfl rfl rfl rfl rfl fun a2 hA2 => q_ld tb hA2 hb127499 rfl (i := 6) rfl rfl rfl rfl rfl rfl fun a2 hA2 => qpr tb 2 hA2 rfl fun a2 hA2 => q_ldP tb hA2 hb132328 rfl (i := 8) rfl rfl rfl rfl rfl rfl fun a2 hA2 => qpr tb 1 hA2 rfl fun a2 hA2 => ?_
      obtain ⟨x132567, hx132568, hF⟩ := bind_some hF
      refine q_idxO tb hA2 hO130004 hx132568 rfl rfl rfl rfl rfl rfl rfl rfl fun a2 ad132569 hA2 hE132570 hat132571 => q_ldO tb hA2 hE132570 rfl (i := 3) rfl rfl rfl rfl rfl rfl fun a2 cs132572 hc132573 hA2 => ?_
      obtain ⟨rfl, hr132574⟩ := hc132573
      refine wpHold_nil (⟨(hS.pickO (is := [some 0, some 1, some 2, some 3, some 4, some 5, some 6, some 7, none, some 9, some 10, some 11, some 12, some 13]) rfl (by decide)), ?_⟩)
      refine qpr tb 2 hA2 rfl fun a2 hA2 => wpHold_nil (⟨(hS.pickO (is := [some 0, some 1, some 2, some 3, some 4, some 5, some 6, some 7, some 8, some 9, some 10, some 11, some 12, some 13]) rfl (by decide)), ?_⟩)
      obtain ⟨x132575, hx132576, hF⟩ := bind_some hF
      refine q_idxA tb hA2 hb132328 (k := 1) rfl rfl hx132576 rfl rfl rfl rfl rfl rfl rfl rfl fun a2 ad132577 hA2 hE132578 had132579 => wpHold_nil (o_stA (v := Value.bool false) (y0 := false) tb hA2 hS hb132328 (k := 1) rfl rfl hx132576 had132579 rfl rfl rfl (i := 8) rfl rfl rfl rfl rfl fun w p132580 hS hb132581 => wpList_nil (tn (⟨⟨fun _ => (hS.pickO (is := [some 0, some 1, some 2, some 3, some 4, some 5, some 6, some 7, none, some 9, some 10, some 11, some 12, some 13]) rfl (by decide)), fun h => absurd h (by decide)⟩, ?_⟩)))
      refine b_end hA2 (rs := []) rfl RV.nil ?_
      obtain rfl := Option.some.inj hF
      exact ⟨_, rfl, hS, hb132581⟩
    have hA2 := hA2.re (d := 12) rfl (congrArg Value.bool (decide_eq_false hc132536 : _ = false))
    refine qpr tb 1 hA2 rfl fun a2 hA2 => q_ld tb hA2 hb129939 rfl (i := 1) rfl rfl rfl rfl rfl rfl fun a2 hA2 => qpr tb 2 hA2 rfl fun a2 hA2 => ?_
    rcases ite_some hF with ⟨hc132582, hF⟩ | ⟨hc132582, hF⟩
    rotate_left
    · have hA2 := hA2.re (d := 16) rfl (congrArg Value.bool (decide_eq_false hc132582 : _ = false))
      refine qpr tb 7 hA2 rfl fun a2 hA2 => wpHold_nil (tn (cF hA2 rfl rfl (wp_skip (b_end hA2 (rs := []) rfl RV.nil ?_))))
      obtain rfl := Option.some.inj hF
      exact ⟨_, rfl, hS, hb132328⟩
    have hA2 := hA2.re (d := 16) rfl (congrArg Value.bool (decide_eq_true hc132582 : _ = true))
    refine q_ld tb hA2 hb127507 rfl (i := 4) rfl rfl rfl rfl rfl rfl fun a2 hA2 => qpr tb 1 hA2 rfl fun a2 hA2 => ?_
    obtain ⟨x132583, hx132584, hF⟩ := bind_some hF
    refine q_idxO tb hA2 hO71873 hx132584 rfl rfl rfl rfl rfl rfl rfl rfl fun a2 ad132585 hA2 hE132586 hat132587 => q_ldO tb hA2 hE132586 rfl (i := 7) rfl rfl rfl rfl rfl rfl fun a2 cs132588 hc132589 hA2 => ?_
    obtain ⟨rfl, hr132590⟩ := hc132589
    refine qpr tb 3 hA2 rfl fun a2 hA2 => wpHold_nil (tn ?_)
    rcases ite_some hF with ⟨hc132591, hF⟩ | ⟨hc132591, hF⟩
    rotate_left
    · refine cF hA2 rfl (decide_eq_false hc132591) (wp_skip (b_end hA2 (rs := []) rfl RV.nil ?_))
      obtain rfl := Option.some.inj hF
      exact ⟨_, rfl, hS, hb132328⟩
    refine cT hA2 rfl (decide_eq_true hc132591) (rx (fun b w => St noX w0 w H (bif b then [p132342, p129938, p129516, p130003, p127506, p127502, p127498, p71869, p132327, p71778, p71759, p71764, p71769, p71750] else [p132342, p129938, p129516, p130003, p127506, p127502, p127498, p71869, emp, p71778, p71759, p71764, p71769, p71750])) [11] (.q true [0, 1, 2, 3, 4, 5, 6, 7] (.q false [8, 9] (.q true [10] (.e 11 .z)))) hmix (by decide +kernel) ?_)
    have hS := hS.drew
    refine ⟨(hS.pickO (is := [some 0, some 1, some 2, some 3, some 4, some 5, some 6, some 7, some 8, some 9, some 10, some 11, some 12, some 13]) rfl (by decide)), ?_⟩
    refine q_ld tb hA2 hb127499 rfl (i := 6) rfl rfl rfl rfl rfl rfl fun a2 hA2 => q_ld tb hA2 hb127499 rfl (i := 6) rfl rfl rfl rfl rfl rfl fun a2 hA2 => qpr tb 2 hA2 rfl fun a2 hA2 => q_ldP tb hA2 hb132328 rfl (i := 8) rfl rfl rfl rfl rfl rfl fun a2 hA2 => qpr tb 1 hA2 rfl fun a2 hA2 => ?_
    obtain ⟨x132622, hx132623, hF⟩ := bind_some hF
    refine q_idxO tb hA2 hO130004 hx132623 rfl rfl rfl rfl rfl rfl rfl rfl fun a2 ad132624 hA2 hE132625 hat132626 => q_ldO tb hA2 hE132625 rfl (i := 3) rfl rfl rfl rfl rfl rfl fun a2 cs132627 hc132628 hA2 => ?_
    obtain ⟨rfl, hr132629⟩ := hc132628
    refine wpHold_nil (⟨(hS.pickO (is := [some 0, some 1, some 2, some 3, some 4, some 5, some 6, some 7, none, some 9, some 10, some 11, some 12, some 13]) rfl (by decide)), ?_⟩)
    refine qpr tb 2 hA2 rfl fun a2 hA2 => wpHold_nil (⟨(hS.pickO (is := [some 0, some 1, some 2, some 3, some 4, some 5, some 6, some 7, some 8, some 9, some 10, some 11, some 12, some 13]) rfl (by decide)), ?_⟩)
    obtain ⟨x132630, hx132631, hF⟩ := bind_some hF
    refine q_idxA tb hA2 hb132328 (k := 1) rfl rfl hx132631 rfl rfl rfl rfl rfl rfl rfl rfl fun a2 ad132632 hA2 hE132633 had132634 => wpHold_nil (o_stA (v := Value.bool false) (y0 := false) tb hA2 hS hb132328 (k := 1) rfl rfl hx132631 had132634 rfl rfl rfl (i := 8) rfl rfl rfl rfl rfl fun w p132635 hS hb132636 => wpList_nil (tn (⟨⟨fun _ => (hS.pickO (is := [some 0, some 1, some 2, some 3, some 4, some 5, some 6, some 7, none, some 9, some 10, some 11, some 12, some 13]) rfl (by decide)), fun h => absurd h (by decide)⟩, ?_⟩)))
    refine b_end hA2 (rs := []) rfl RV.nil ?_
    obtain rfl := Option.some.inj hF
    exact ⟨_, rfl, hS, hb132636⟩
  refine cF hA2 rfl (decide_eq_false hc130201) (wp_skip (tn (rx (fun b w => St noX w0 w H (bif b then [p130199, p129938, emp, p130003, p127506, p127502, p127498, p71869, p130007, p71778, p71759, p71764, p71769, p71750] else [p130199, p129938, emp, p130003, p127506, p127502, p127498, p71869, emp, p71778, p71759, p71764, p71769, p71750])) [12] (.q true [0, 1, 2, 3, 4, 5, 6] (.e 7 (.e 8 (.q false [9, 10] (.q true [11] (.e 12 .z)))))) hmix (by decide +kernel) ?_)))
  have hS := hS.drew
  refine ⟨(hS.pickO (is := [some 0, some 1, none, some 3, some 4, some 5, some 6, some 7, some 8, some 9, some 10, some 11, some 12, some 13]) rfl (by decide)), ?_⟩
  refine qpr tb 5 hA2 rfl fun a2 hA2 => q_ldP tb hA2 hb130008 rfl (i := 8) rfl rfl rfl rfl rfl rfl fun a2 hA2 => q_ld tb hA2 hb130200 rfl (i := 0) rfl rfl rfl rfl rfl rfl fun a2 hA2 => wpHold_nil (o_bsl (e := eGStep) (xs := ([(⟨(1 : Int), x130189, (0 : Int), (0 : Int)⟩ : GStep)] : List GStep)) tb hA2 hS rfl rfl rfl (.cons ⟨rfl, (inR_c rfl), hr130196, (inR_c rfl), (inR_c rfl)⟩ .nil) rfl rfl rfl rfl rfl rfl rfl rfl rfl fun a2 w A132963 p132964 hA2 hS hO132965 hN132967 => wpList_nil (tn (⟨⟨fun _ => (hS.pickO (is := [some 1, some 2, none, some 4, some 5, some 6, some 7, some 8, none, some 10, some 11, some 12, some 13, some 14]) rfl (by decide)), fun _ _ => (hS.pickO (is := [some 1, some 2, none, some 4, some 5, some 6, some 7, some 8, some 9, some 10, some 11, some 12, some 13, some 14]) rfl (by decide))⟩, ?_⟩)))
  obtain ⟨z132968, hz132969, hF⟩ := bind_some hF
  refine o_app (e := eGStep) tb hA2 hS hO129517 (k := 3) rfl (hO132965.src hS (i := 0) rfl) hz132969 rfl rfl rfl rfl rfl rfl rfl rfl rfl rfl rfl rfl rfl fun a2 w A132970 c132971 p132972 hA2 hS hO132973 hN132975 => wpList_nil (tn (⟨⟨fun _ => (hS.pickO (is := [some 1, some 2, none, some 4, some 5, some 6, some 7, some 8, none, some 10, some 11, some 12, some 13, some 14]) rfl (by decide)), fun _ _ => (hS.pickO (is := [some 1, some 2, none, some 4, some 5, some 6, some 7, some 8, some 9, some 10, some 11, some 12, some 13, some 14]) rfl (by decide))⟩, ?_⟩))
  refine ⟨(hS.pickO (is := [some 1, some 2, none, some 4, some 5, some 6, some 7, some 8, none, some 10, some 11, some 12, some 13, some 14]) rfl (by decide)), ?_⟩
  refine qpr tb 2 hA2 rfl fun a2 hA2 => wpHold_nil (⟨(hS.pickO (is := [some 1, some 2, none, some 4, some 5, some 6, some 7, some 8, some 9, some 10, some 11, some 12, some 13, some 14]) rfl (by decide)), ?_⟩)
  refine qpr tb 1 hA2 rfl fun a2 hA2 => wpHold_nil (o_stP (ps' := [.v [Value.slice A71757 (r71752.1.Inputs).length c71758, Value.slice A71762 (r71752.1.Nodes).length c71763, Value.slice A71767 (r71752.1.Outs).length c71768, Value.slice A132970 (z132968).length c132971, Value.int .i64 (mxI o129511.2.1 (w64 (o129952.1 + 1))), Value.int .i64 0, Value.int .u64 o129511.2.2.1], .a (ptA eBool 256 ((o129511.2.2.2.1).set (o129952.1).toNat true)), .v [Value.slice A129521 ((o129511.2.2.2.2.1).set (w64 (((r71752.1.Inputs).length : Int) + (i127464 : Int))).toNat o129952.1).length c129522, Value.bool o129952.2]]) tb hA2 hS hb130008 rfl rfl (i := 9) rfl rfl rfl rfl rfl rfl rfl fun w p132976 hS hb132977 => ?_)
  refine wpList_nil (tn (⟨⟨fun _ => (hS.pickO (is := [some 1, some 2, none, some 4, some 5, some 6, some 7, some 8, none, some 10, some 11, some 12, some 13, some 14]) rfl (by decide)), fun h => absurd h (by decide)⟩, ?_⟩))
  refine b_end hA2 (rs := []) rfl RV.nil ?_
  intro a1 hA1
  refine wpList_nil (tn (⟨⟨fun _ => (hS.pickO (is := [some 2, none, some 4, some 5, some 6, some 7, some 8, none, some 10, some 11, some 12, some 13, some 14]) rfl (by decide)), fun _ _ => (hS.pickO (is := [some 2, none, some 4, some 5, some 6, some 7, some 8, none, some 10, some 11, some 12, some 13, some 14]) rfl (by decide))⟩, ?_⟩))
  refine tn (wp_seq (wp_seq (wp_region_lit (pr tb 3 hA1 rfl fun a1 hA1 => wpList_nil (tn ?_)))))
  obtain ⟨o136622, hx136622, hK136622⟩ := bind_some hF
  refine wp_cut1 (fun a w => ∃ (A136625 : Option Addr) (c136626 : Nat) (p136627 : Piece) (p136630 : Piece), Fr (97, []) a [(3, Value.pointer (some ⟨g127497, 0, none⟩)), (4, Value.pointer (some ⟨g127501, 0, none⟩)), (5, Value.pointer (some ⟨g127505, 0, none⟩)), (6, Value.slice A127537 (x127532).length c127538), (9, Value.pointer (some ⟨g129935, 0, none⟩))] ∧ St noX w0 w H [p136627, p129938, p130003, p127506, p127502, p127498, p71869, p136630, p71778, p71759, p71764, p71769, p71750] ∧ OwnS eGStep 80 H A136625 c136626 (o136622.1) p136627 ∧ BxP H p136630 g71853 73 [.v [Value.slice A71757 (r71752.1.Inputs).length c71758, Value.slice A71762 (r71752.1.Nodes).length c71763, Value.slice A71767 (r71752.1.Outs).length c71768, Value.slice A136625 (o136622.1).length c136626, Value.int .i64 (mxI o129511.2.1 (w64 (o129952.1 + 1))), Value.int .i64 0, Value.int .u64 o129511.2.2.1], .a (ptA eBool 256 ((o129511.2.2.2.1).set (o129952.1).toNat true)), .v [Value.slice A129521 ((o129511.2.2.2.2.1).set (w64 (((r71752.1.Inputs).length : Int) + (i127464 : Int))).toNat o129952.1).length c129522, Value.bool o136622.2]]) ?_ ?_
  · have hF := hx136622
    refine wp_block ?_
    have hbd136622 : (x127532).length ≤ 9223372036854775807 := (Nat.le_trans (hO127543.len rfl) (by decide))
    refine wp_for0 (n := (x127532).length) (s0 := (z132968, o129952.2)) (fun (i136623 : Nat) (s136624 : List GStep × Bool) a w => ∃ (A136632 : Option Addr) (c136633 : Nat) (p136634 : Piece) (p136637 : Piece), Fr (97, []) a [(3, Value.pointer (some ⟨g127497, 0, none⟩)), (4, Value.pointer (some ⟨g127501, 0, none⟩)), (5, Value.pointer (some ⟨g127505, 0, none⟩)), (6, Value.slice A127537 (x127532).length c127538), (9, Value.pointer (some ⟨g129935, 0, none⟩)), (55, Value.slice A127537 (x127532).length c127538), (56, Value.int .i64 ((x127532).length : Int)), (57, Value.int .i64 (i136623 : Int))] ∧ St noX w0 w H [p136634, p129938, p130003, p127506, p127502, p127498, p71869, p136637, p71778, p71759, p71764, p71769, p71750] ∧ OwnS eGStep 80 H A136632 c136633 (s136624.1) p136634 ∧ BxP H p136637 g71853 73 [.v [Value.slice A71757 (r71752.1.Inputs).length c71758, Value.slice A71762 (r71752.1.Nodes).length c71763, Value.slice A71767 (r71752.1.Outs).length c71768, Value.slice A136632 (s136624.1).length c136633, Value.int .i64 (mxI o129511.2.1 (w64 (o129952.1 + 1))), Value.int .i64 0, Value.int .u64 o129511.2.2.1], .a (ptA eBool 256 ((o129511.2.2.2.1).set (o129952.1).toNat true)), .v [Value.slice A129521 ((o129511.2.2.2.2.1).set (w64 (((r71752.1.Inputs).length : Int) + (i127464 : Int))).toNat o129952.1).length c129522, Value.bool s136624.2]]) hF ⟨_, _, _, _, hA1.sub ⟨rfl, rfl, rfl, rfl, rfl, rfl, rfl, rfl, trivial⟩, hS.pick (is := [3, 2, 4, 5, 6, 7, 8, 9, 10, 11, 12, 13, 14]) rfl (by decide), hO132973, hb132977⟩ ?_
    rintro After136622 i136623 s136624 a w ⟨A136632, c136633, p136634, p136637, hA1, hS, hO136635, hb136638⟩ hin136622 hst136622 hge136622
    rcases Nat.lt_or_ge i136623 ((x127532).length) with hlt136622 | hgt136622
    rotate_left
    · have hF := congrArg some (hge136622 hgt136622)
      refine wp_seq (wp_region_lit (pr tb 1 hA1 rfl fun a1 hA1 => wpList_nil (tn (wp_seq (cF hA1 rfl (decide_eq_false (show ¬ ((i136623 : Int) < ((x127532).length : Int)) by omega)) (wp_exit (te (te (be (tn ?_))))))))))
      obtain rfl := Option.some.inj hF
      exact ⟨_, _, _, _, hA1.sub ⟨rfl, rfl, rfl, rfl, rfl, trivial⟩, hS, hO136635, hb136638⟩
    obtain ⟨cc136622, hF, hgo136622⟩ := hst136622 hlt136622
    refine wp_seq (wp_region_lit (pr tb 1 hA1 rfl fun a1 hA1 => wpList_nil (tn (wp_seq (cT hA1 rfl (decide_eq_true (show (i136623 : Int) < ((x127532).length : Int) by omega)) (wp_skip (tn (wp_seq (wp_block (wp_seq (wp_region_lit ?_)))))))))))
    obtain ⟨x136639, hx136640, hF⟩ := bind_some hF
    refine o_idxO tb hA1 hO127543 hx136640 rfl rfl rfl rfl rfl rfl rfl rfl fun a1 ad136641 hA1 hE136642 hat136643 => o_ldO tb hA1 hS (hE136642.up hl127542) rfl (i := 10) rfl rfl rfl rfl rfl rfl fun a1 cs136644 hc136645 hA1 => ?_
    obtain ⟨rfl, hr136646, hr136647⟩ := hc136645
    refine o_alloc tb hA1 hS rfl rfl rfl fun a1 w g136649 p136650 hA1 hS hb136651 => o_st tb hA1 hS hb136651 rfl rfl (i := 0) rfl rfl rfl rfl rfl rfl rfl fun w p136652 hS hb136653 => wpList_nil (tn (rx (fun b w => St noX w0 w H (bif b then [p136652, emp, p129938, p130003, p127506, p127502, p127498, p71869, emp, p71778, p71759, p71764, p71769, p71750] else [p136652, emp, p129938, p130003, p127506, p127502, p127498, p71869, emp, p71778, p71759, p71764, p71769, p71750])) [] (.q true [0, 1, 2, 3, 5, 8, 9, 10, 12, 13, 16, 17] (.alt 4 (.q true [6, 7] (.e 11 (.q true [14, 15, 18] (.e 19 .z)))) (.e 11 (.q true [14, 15] (.e 4 (.q true [6, 7, 18] (.e 19 .z))))))) hmix (by decide +kernel) ?_))
    have hS := hS.drew
    refine ⟨(hS.pickO (is := [some 0, none, some 2, some 3, some 4, some 5, some 6, some 7, none, some 9, some 10, some 11, some 12, some 13]) rfl (by decide)), ?_⟩
    refine q_ld tb hA1 hb127499 rfl (i := 6) rfl rfl rfl rfl rfl rfl fun a1 hA1 => q_ld tb hA1 hb127499 rfl (i := 6) rfl rfl rfl rfl rfl rfl fun a1 hA1 => qpr tb 2 hA1 rfl fun a1 hA1 => q_ld tb hA1 hb129939 rfl (i := 2) rfl rfl rfl rfl rfl rfl fun a1 hA1 => q_ld tb hA1 hb127499 rfl (i := 6) rfl rfl rfl rfl rfl rfl fun a1 hA1 => qpr tb 3 hA1 rfl fun a1 hA1 => q_ld tb hA1 hb136653 rfl (i := 0) rfl rfl rfl rfl rfl rfl fun a1 hA1 => qpr tb 1 hA1 rfl fun a1 hA1 => q_ld tb hA1 hb136653 rfl (i := 0) rfl rfl rfl rfl rfl rfl fun a1 hA1 => wpHold_nil ?_
    obtain ⟨x137238, hx137239, hF⟩ := bind_some hF
    obtain ⟨x137240, hx137241, hF⟩ := bind_some hF
    obtain ⟨x137242, hx137243, hF⟩ := bind_some hF
    refine ⟨?_, ?_⟩
    · refine o_ldP tb hA1 hS hb136638 rfl (i := 8) rfl rfl rfl rfl rfl rfl fun a1 hA1 => wpList_nil (tn (⟨⟨fun _ => (hS.pickO (is := [some 0, none, some 2, some 3, some 4, some 5, some 6, some 7, none, some 9, some 10, some 11, some 12, some 13]) rfl (by decide)), fun _ _ => (hS.pickO (is := [some 0, none, some 2, some 3, some 4, some 5, some 6, some 7, none, some 9, some 10, some 11, some 12, some 13]) rfl (by decide))⟩, ?_⟩))
      refine ⟨(hS.pickO (is := [some 0, none, some 2, some 3, some 4, some 5, some 6, some 7, none, some 9, some 10, some 11, some 12, some 13]) rfl (by decide)), ?_⟩
      refine q_idxO tb hA1 hO130004 hx137239 rfl rfl rfl rfl rfl rfl rfl rfl fun a1 ad137244 hA1 hE137245 hat137246 => q_ldO tb hA1 hE137245 rfl (i := 3) rfl rfl rfl rfl rfl rfl fun a1 cs137247 hc137248 hA1 => ?_
      obtain ⟨rfl, hr137249⟩ := hc137248
      refine wpHold_nil (o_ldP tb hA1 hS hb136638 rfl (i := 8) rfl rfl rfl rfl rfl rfl fun a1 hA1 => wpList_nil (tn (⟨⟨fun _ => (hS.pickO (is := [some 0, none, some 2, some 3, some 4, some 5, some 6, some 7, none, some 9, some 10, some 11, some 12, some 13]) rfl (by decide)), fun _ _ => (hS.pickO (is := [some 0, none, some 2, some 3, some 4, some 5, some 6, some 7, none, some 9, some 10, some 11, some 12, some 13]) rfl (by decide))⟩, ?_⟩)))
      refine ⟨(hS.pickO (is := [some 0, none, some 2, some 3, some 4, some 5, some 6, some 7, none, some 9, some 10, some 11, some 12, some 13]) rfl (by decide)), ?_⟩
      refine q_idxO tb hA1 hO130004 hx137241 rfl rfl rfl rfl rfl rfl rfl rfl fun a1 ad137250 hA1 hE137251 hat137252 => q_ldO tb hA1 hE137251 rfl (i := 3) rfl rfl rfl rfl rfl rfl fun a1 cs137253 hc137254 hA1 => ?_
      obtain ⟨rfl, hr137255⟩ := hc137254
      refine qpr tb 1 hA1 rfl fun a1 hA1 => wpHold_nil (o_inl hA1 fi33 rfl rfl rfl rfl (enter fi33.hfn rfl rfl rfl fun a2 hA2 => wp_seq (wp_region_lit (o_box hA2 hS rfl rfl rfl fun a2 w g137257 p137258 hA2 hS hb137259 => wpList_nil (tn (wp_seq (wp_seq (wp_region_lit (pr tb 4 hA2 rfl fun a2 hA2 => ?_)))))))))
      refine o_ldP tb hA2 hS hb136638 rfl (i := 9) rfl rfl rfl rfl rfl rfl fun a2 hA2 => pr tb 2 hA2 rfl fun a2 hA2 => wpList_nil (tn ?_)
      rcases ite_some hF with ⟨hc137260, hF⟩ | ⟨hc137260, hF⟩
      · refine cT hA2 rfl (decide_eq_true hc137260) (wp_seq (wp_region_lit (pr tb 3 hA2 rfl fun a2 hA2 => o_stP (ps' := [.v [Value.slice A71757 (r71752.1.Inputs).length c71758, Value.slice A71762 (r71752.1.Nodes).length c71763, Value.slice A71767 (r71752.1.Outs).length c71768, Value.slice A136632 (s136624.1).length c136633, Value.int .i64 (mxI o129511.2.1 (w64 (o129952.1 + 1))), Value.int .i64 0, Value.int .u64 o129511.2.2.1], .a (ptA eBool 256 ((o129511.2.2.2.1).set (o129952.1).toNat true)), .v [Value.slice A129521 ((o129511.2.2.2.2.1).set (w64 (((r71752.1.Inputs).length : Int) + (i127464 : Int))).toNat o129952.1).length c129522, Value.bool false]]) tb hA2 hS hb136638 rfl rfl (i := 9) rfl rfl rfl rfl rfl rfl rfl fun w p137261 hS hb137262 => ?_)))
        refine wpList_nil (tn (wp_ret (tr (b_ret hA2 (rs := []) rfl RV.nil ?_))))
        intro a1 hA1
        refine wpList_nil (tn (⟨⟨fun _ => (hS.pickO (is := [some 1, none, some 3, some 4, some 5, some 6, some 7, some 8, none, some 10, some 11, some 12, some 13, some 14]) rfl (by decide)), fun _ _ => (hS.pickO (is := [some 1, none, some 3, some 4, some 5, some 6, some 7, some 8, none, some 10, some 11, some 12, some 13, some 14]) rfl (by decide))⟩, ?_⟩))
        refine bn (tn (wp_region_lit (pr tb 2 hA1 rfl fun a1 hA1 => wpList_nil (tn ?_))))
        obtain rfl := Option.some.inj hF
        have hA1 := hA1.re (d := 57) rfl (congrArg (Value.int .i64) (w64_succ hlt136622 hbd136622))
        exact ⟨(s136624.1, false), ⟨_, _, _, _, hA1.sub ⟨rfl, rfl, rfl, rfl, rfl, rfl, rfl, rfl, trivial⟩, hS.pick (is := [2, 3, 4, 5, 6, 7, 8, 9, 10, 11, 12, 13, 14]) rfl (by decide), hO136635, hb137262⟩, hlt136622, hgo136622⟩
      refine cF hA2 rfl (decide_eq_false hc137260) (wp_skip (tn (rx (fun b w => St noX w0 w H (bif b then [p137258, p136652, emp, p129938, p130003, p127506, p127502, p127498, p71869, p136637, p71778, p71759, p71764, p71769, p71750] else [p137258, p136652, emp, p129938, p130003, p127506, p127502, p127498, p71869, emp, p71778, p71759, p71764, p71769, p71750])) [12] (.q true [0, 1, 2, 3, 4, 5, 6] (.e 7 (.e 8 (.q false [9, 10] (.q true [11] (.e 12 .z)))))) hmix (by decide +kernel) ?_)))
      have hS := hS.drew
      refine ⟨(hS.pickO (is := [some 0, some 1, none, some 3, some 4, some 5, some 6, some 7, some 8, some 9, some 10, some 11, some 12, some 13, some 14]) rfl (by decide)), ?_⟩
      refine qpr tb 5 hA2 rfl fun a2 hA2 => q_ldP tb hA2 hb136638 rfl (i := 9) rfl rfl rfl rfl rfl rfl fun a2 hA2 => q_ld tb hA2 hb137259 rfl (i := 0) rfl rfl rfl rfl rfl rfl fun a2 hA2 => wpHold_nil (o_bsl (e := eGStep) (xs := ([(⟨(3 : Int), x137238, x137240, x136639.By⟩ : GStep)] : List GStep)) tb hA2 hS rfl rfl rfl (.cons ⟨rfl, (inR_c rfl), hr137249, hr137255, hr136647⟩ .nil) rfl rfl rfl rfl rfl rfl rfl rfl rfl fun a2 w A137289 p137290 hA2 hS hO137291 hN137293 => wpList_nil (tn (⟨⟨fun _ => (hS.pickO (is := [some 1, some 2, none, some 4, some 5, some 6, some 7, some 8, some 9, none, some 11, some 12, some 13, some 14, some 15]) rfl (by decide)), fun _ _ => (hS.pickO (is := [some 1, some 2, none, some 4, some 5, some 6, some 7, some 8, some 9, some 10, some 11, some 12, some 13, some 14, some 15]) rfl (by decide))⟩, ?_⟩)))
      refine o_app (e := eGStep) tb hA2 hS hO136635 (k := 3) rfl (hO137291.src hS (i := 0) rfl) hx137243 rfl rfl rfl rfl rfl rfl rfl rfl rfl rfl rfl rfl rfl fun a2 w A137294 c137295 p137296 hA2 hS hO137297 hN137299 => wpList_nil (tn (⟨⟨fun _ => (hS.pickO (is := [some 1, some 2, none, some 4, some 5, some 6, some 7, some 8, some 9, none, some 11, some 12, some 13, some 14, some 15]) rfl (by decide)), fun _ _ => (hS.pickO (is := [some 1, some 2, none, some 4, some 5, some 6, some 7, some 8, some 9, some 10, some 11, some 12, some 13, some 14, some 15]) rfl (by decide))⟩, ?_⟩))
      refine ⟨(hS.pickO (is := [some 1, some 2, none, some 4, some 5, some 6, some 7, some 8, some 9, none, some 11, some 12, some 13, some 14, some 15]) rfl (by decide)), ?_⟩
      refine qpr tb 2 hA2 rfl fun a2 hA2 => wpHold_nil (⟨(hS.pickO (is := [some 1, some 2, none, some 4, some 5, some 6, some 7, some 8, some 9, some 10, some 11, some 12, some 13, some 14, some 15]) rfl (by decide)), ?_⟩)
      refine qpr tb 1 hA2 rfl fun a2 hA2 => wpHold_nil (o_stP (ps' := [.v [Value.slice A71757 (r71752.1.Inputs).length c71758, Value.slice A71762 (r71752.1.Nodes).length c71763, Value.slice A71767 (r71752.1.Outs).length c71768, Value.slice A137294 (x137242).length c137295, Value.int .i64 (mxI o129511.2.1 (w64 (o129952.1 + 1))), Value.int .i64 0, Value.int .u64 o129511.2.2.1], .a (ptA eBool 256 ((o129511.2.2.2.1).set (o129952.1).toNat true)), .v [Value.slice A129521 ((o129511.2.2.2.2.1).set (w64 (((r71752.1.Inputs).length : Int) + (i127464 : Int))).toNat o129952.1).length c129522, Value.bool s136624.2]]) tb hA2 hS hb136638 rfl rfl (i := 10) rfl rfl rfl rfl rfl rfl rfl fun w p137300 hS hb137301 => ?_)
      refine wpList_nil (tn (⟨⟨fun _ => (hS.pickO (is := [some 1, some 2, none, some 4, some 5, some 6, some 7, some 8, some 9, none, some 11, some 12, some 13, some 14, some 15]) rfl (by decide)), fun h => absurd h (by decide)⟩, ?_⟩))
      refine b_end hA2 (rs := []) rfl RV.nil ?_
      intro a1 hA1
      refine wpList_nil (tn (⟨⟨fun _ => (hS.pickO (is := [some 2, none, some 4, some 5, some 6, some 7, some 8, some 9, none, some 11, some 12, some 13, some 14, some 15]) rfl (by decide)), fun _ _ => (hS.pickO (is := [some 2, none, some 4, some 5, some 6, some 7, some 8, some 9, none, some 11, some 12, some 13, some 14, some 15]) rfl (by decide))⟩, ?_⟩))
      refine bn (tn (wp_region_lit (pr tb 2 hA1 rfl fun a1 hA1 => wpList_nil (tn ?_))))
      obtain rfl := Option.some.inj hF
      have hA1 := hA1.re (d := 57) rfl (congrArg (Value.int .i64) (w64_succ hlt136622 hbd136622))
      exact ⟨(x137242, s136624.2), ⟨_, _, _, _, hA1.sub ⟨rfl, rfl, rfl, rfl, rfl, rfl, rfl, rfl, trivial⟩, hS.pick (is := [3, 4, 5, 6, 7, 8, 9, 10, 11, 12, 13, 14, 15]) rfl (by decide), hO137297, hb137301⟩, hlt136622, hgo136622⟩
    refine o_ldP tb hA1 hS hb136638 rfl (i := 8) rfl rfl rfl rfl rfl rfl fun a1 hA1 => wpList_nil (tn (⟨⟨fun _ => (hS.pickO (is := [some 0, none, some 2, some 3, some 4, some 5, some 6, some 7, none, some 9, some 10, some 11, some 12, some 13]) rfl (by decide)), fun _ _ => (hS.pickO (is := [some 0, none, some 2, some 3, some 4, some 5, some 6, some 7, none, some 9, some 10, some 11, some 12, some 13]) rfl (by decide))⟩, ?_⟩))
    refine ⟨(hS.pickO (is := [some 0, none, some 2, some 3, some 4, some 5, some 6, some 7, none, some 9, some 10, some 11, some 12, some 13]) rfl (by decide)), ?_⟩
    refine q_idxO tb hA1 hO130004 hx137241 rfl rfl rfl rfl rfl rfl rfl rfl fun a1 ad137302 hA1 hE137303 hat137304 => q_ldO tb hA1 hE137303 rfl (i := 3) rfl rfl rfl rfl rfl rfl fun a1 cs137305 hc137306 hA1 => ?_
    obtain ⟨rfl, hr137307⟩ := hc137306
    refine wpHold_nil (o_ldP tb hA1 hS hb136638 rfl (i := 8) rfl rfl rfl rfl rfl rfl fun a1 hA1 => wpList_nil (tn (⟨⟨fun _ => (hS.pickO (is := [some 0, none, some 2, some 3, some 4, some 5, some 6, some 7, none, some 9, some 10, some 11, some 12, some 13]) rfl (by decide)), fun _ _ => (hS.pickO (is := [some 0, none, some 2, some 3, some 4, some 5, some 6, some 7, none, some 9, some 10, some 11, some 12, some 13]) rfl (by decide))⟩, ?_⟩)))
    refine ⟨(hS.pickO (is := [some 0, none, some 2, some 3, some 4, some 5, some 6, some 7, none, some 9, some 10, some 11, some 12, some 13]) rfl (by decide)), ?_⟩
    refine q_idxO tb hA1 hO130004 hx137239 rfl rfl rfl rfl rfl rfl rfl rfl fun a1 ad137308 hA1 hE137309 hat137310 => q_ldO tb hA1 hE137309 rfl (i := 3) rfl rfl rfl rfl rfl rfl fun a1 cs137311 hc137312 hA1 => ?_
    obtain ⟨rfl, hr137313⟩ := hc137312
    refine qpr tb 1 hA1 rfl fun a1 hA1 => wpHold_nil (o_inl hA1 fi33 rfl rfl rfl rfl (enter fi33.hfn rfl rfl rfl fun a2 hA2 => wp_seq (wp_region_lit (o_box hA2 hS rfl rfl rfl fun a2 w g137315 p137316 hA2 hS hb137317 => wpList_nil (tn (wp_seq (wp_seq (wp_region_lit (pr tb 4 hA2 rfl fun a2 hA2 => ?_)))))))))
    refine o_ldP tb hA2 hS hb136638 rfl (i := 9) rfl rfl rfl rfl rfl rfl fun a2 hA2 => pr tb 2 hA2 rfl fun a2 hA2 => wpList_nil (tn ?_)
    rcases ite_some hF with ⟨hc137318, hF⟩ | ⟨hc137318, hF⟩
    · refine cT hA2 rfl (decide_eq_true hc137318) (wp_seq (wp_region_lit (pr tb 3 hA2 rfl fun a2 hA2 => o_stP (ps' := [.v [Value.slice A71757 (r71752.1.Inputs).length c71758, Value.slice A71762 (r71752.1.Nodes).length c71763, Value.slice A71767 (r71752.1.Outs).length c71768, Value.slice A136632 (s136624.1).length c136633, Value.int .i64 (mxI o129511.2.1 (w64 (o129952.1 + 1))), Value.int .i64 0, Value.int .u64 o129511.2.2.1], .a (ptA eBool 256 ((o129511.2.2.2.1).set (o129952.1).toNat true)), .v [Value.slice A129521 ((o129511.2.2.2.2.1).set (w64 (((r71752.1.Inputs).length : Int) + (i127464 : Int))).toNat o129952.1).length c129522, Value.bool false]]) tb hA2 hS hb136638 rfl rfl (i := 9) rfl rfl rfl rfl rfl rfl rfl fun w p137319 hS hb137320 => ?_)))
      refine wpList_nil (tn (wp_ret (tr (b_ret hA2 (rs := []) rfl RV.nil ?_))))
      intro a1 hA1
      refine wpList_nil (tn (⟨⟨fun _ => (hS.pickO (is := [some 1, none, some 3, some 4, some 5, some 6, some 7, some 8, none, some 10, some 11, some 12, some 13, some 14]) rfl (by decide)), fun _ _ => (hS.pickO (is := [some 1, none, some 3, some 4, some 5, some 6, some 7, some 8, none, some 10, some 11, some 12, some 13, some 14]) rfl (by decide))⟩, ?_⟩))
      refine bn (tn (wp_region_lit (pr tb 2 hA1 rfl fun a1 hA1 => wpList_nil (tn ?_))))
      obtain rfl := Option.some.inj hF
      have hA1 := hA1.re (d := 57) rfl (congrArg (Value.int .i64) (w64_succ hlt136622 hbd136622))
      exact ⟨(s136624.1, false), ⟨_, _, _, _, hA1.sub ⟨rfl, rfl, rfl, rfl, rfl, rfl, rfl, rfl, trivial⟩, hS.pick (is := [2, 3, 4, 5, 6, 7, 8, 9, 10, 11, 12, 13, 14]) rfl (by decide), hO136635, hb137320⟩, hlt136622, hgo136622⟩
    refine cF hA2 rfl (decide_eq_false hc137318) (wp_skip (tn (rx (fun b w => St noX w0 w H (bif b then [p137316, p136652, emp, p129938, p130003, p127506, p127502, p127498, p71869, p136637, p71778, p71759, p71764, p71769, p71750] else [p137316, p136652, emp, p129938, p130003, p127506, p127502, p127498, p71869, emp, p71778, p71759, p71764, p71769, p71750])) [12] (.q true [0, 1, 2, 3, 4, 5, 6] (.e 7 (.e 8 (.q false [9, 10] (.q true [11] (.e 12 .z)))))) hmix (by decide +kernel) ?_)))
    have hS := hS.drew
    refine ⟨(hS.pickO (is := [some 0, some 1, none, some 3, some 4, some 5, some 6, some 7, some 8, some 9, some 10, some 11, some 12, some 13, some 14]) rfl (by decide)), ?_⟩
    refine qpr tb 5 hA2 rfl fun a2 hA2 => q_ldP tb hA2 hb136638 rfl (i := 9) rfl rfl rfl rfl rfl rfl fun a2 hA2 => q_ld tb hA2 hb137317 rfl (i := 0) rfl rfl rfl rfl rfl rfl fun a2 hA2 => wpHold_nil (o_bsl (e := eGStep) (xs := ([(⟨(3 : Int), x137238, x137240, x136639.By⟩ : GStep)] : List GStep)) tb hA2 hS rfl rfl rfl (.cons ⟨rfl, (inR_c rfl), hr137313, hr137307, hr136647⟩ .nil) rfl rfl rfl rfl rfl rfl rfl rfl rfl fun a2 w A137347 p137348 hA2 hS hO137349 hN137351 => wpList_nil (tn (⟨⟨fun _ => (hS.pickO (is := [some 1, some 2, none, some 4, some 5, some 6, some 7, some 8, some 9, none, some 11, some 12, some 13, some 14, some 15]) rfl (by decide)), fun _ _ => (hS.pickO (is := [some 1, some 2, none, some 4, some 5, some 6, some 7, some 8, some 9, some 10, some 11, some 12, some 13, some 14, some 15]) rfl (by decide))⟩, ?_⟩)))
    refine o_app (e := eGStep) tb hA2 hS hO136635 (k := 3) rfl (hO137349.src hS (i := 0) rfl) hx137243 rfl rfl rfl rfl rfl rfl rfl rfl rfl rfl rfl rfl rfl fun a2 w A137352 c137353 p137354 hA2 hS hO137355 hN137357 => wpList_nil (tn (⟨⟨fun _ => (hS.pickO (is := [some 1, some 2, none, some 4, some 5, some 6, some 7, some 8, some 9, none, some 11, some 12, some 13, some 14, some 15]) rfl (by decide)), fun _ _ => (hS.pickO (is := [some 1, some 2, none, some 4, some 5, some 6, some 7, some 8, some 9, some 10, some 11, some 12, some 13, some 14, some 15]) rfl (by decide))⟩, ?_⟩))
    refine ⟨(hS.pickO (is := [some 1, some 2, none, some 4, some 5, some 6, some 7, some 8, some 9, none, some 11, some 12, some 13, some 14, some 15]) rfl (by decide)), ?_⟩
    refine qpr tb 2 hA2 rfl fun a2 hA2 => wpHold_nil (⟨(hS.pickO (is := [some 1, some 2, none, some 4, some 5, some 6, some 7, some 8, some 9, some 10, some 11, some 12, some 13, some 14, some 15]) rfl (by decide)), ?_⟩)
    refine qpr tb 1 hA2 rfl fun a2 hA2 => wpHold_nil (o_stP (ps' := [.v [Value.slice A71757 (r71752.1.Inputs).length c71758, Value.slice A71762 (r71752.1.Nodes).length c71763, Value.slice A71767 (r71752.1.Outs).length c71768, Value.slice A137352 (x137242).length c137353, Value.int .i64 (mxI o129511.2.1 (w64 (o129952.1 + 1))), Value.int .i64 0, Value.int .u64 o129511.2.2.1], .a (ptA eBool 256 ((o129511.2.2.2.1).set (o129952.1).toNat true)), .v [Value.slice A129521 ((o129511.2.2.2.2.1).set (w64 (((r71752.1.Inputs).length : Int) + (i127464 : Int))).toNat o129952.1).length c129522, Value.bool s136624.2]]) tb hA2 hS hb136638 rfl rfl (i := 10) rfl rfl rfl rfl rfl rfl rfl fun w p137358 hS hb137359 => ?_)
    refine wpList_nil (tn (⟨⟨fun _ => (hS.pickO (is := [some 1, some 2, none, some 4, some 5, some 6, some 7, some 8, some 9, none, some 11, some 12, some 13, some 14, some 15]) rfl (by decide)), fun h => absurd h (by decide)⟩, ?_⟩))
    refine b_end hA2 (rs := []) rfl RV.nil ?_
    intro a1 hA1
    refine wpList_nil (tn (⟨⟨fun _ => (hS.pickO (is := [some 2, none, some 4, some 5, some 6, some 7, some 8, some 9, none, some 11, some 12, some 13, some 14, some 15]) rfl (by decide)), fun _ _ => (hS.pickO (is := [some 2, none, some 4, some 5, some 6, some 7, some 8, some 9, none, some 11, some 12, some 13, some 14, some 15]) rfl (by decide))⟩, ?_⟩))
    refine bn (tn (wp_region_lit (pr tb 2 hA1 rfl fun a1 hA1 => wpList_nil (tn ?_))))
    obtain rfl := Option.some.inj hF
    have hA1 := hA1.re (d := 57) rfl (congrArg (Value.int .i64) (w64_succ hlt136622 hbd136622))
    exact ⟨(x137242, s136624.2), ⟨_, _, _, _, hA1.sub ⟨rfl, rfl, rfl, rfl, rfl, rfl, rfl, rfl, trivial⟩, hS.pick (is := [3, 4, 5, 6, 7, 8, 9, 10, 11, 12, 13, 14, 15]) rfl (by decide), hO137355, hb137359⟩, hlt136622, hgo136622⟩
  rintro a w ⟨A136625, c136626, p136627, p136630, hA1, hS, hO136628, hb136631⟩
  have hF := hK136622
  refine tn (wp_seq (wp_region_lit (pr tb 2 hA1 rfl fun a1 hA1 => wpList_nil (tn (wp_seq (wp_seq (wp_region_lit (pr tb 3 hA1 rfl fun a1 hA1 => wpList_nil (tn ?_)))))))))
  obtain ⟨o137982, hx137982, hK137982⟩ := bind_some hF
  refine wp_cut1 (fun a w => ∃ (p137985 : Piece), Fr (97, []) a [(9, Value.pointer (some ⟨g129935, 0, none⟩)), (12, Value.func (.func 49) #[] #[Value.pointer (some ⟨g127505, 0, none⟩), Value.pointer (some ⟨g127501, 0, none⟩), Value.pointer (some ⟨g129935, 0, none⟩), Value.pointer (some ⟨g127497, 0, none⟩)])] ∧ St noX w0 w H [p136627, p129938, p130003, p127506, p127502, p127498, p71869, p137985, p71778, p71759, p71764, p71769, p71750] ∧ BxP H p137985 g71853 73 [.v [Value.slice A71757 (r71752.1.Inputs).length c71758, Value.slice A71762 (r71752.1.Nodes).length c71763, Value.slice A71767 (r71752.1.Outs).length c71768, Value.slice A136625 (o136622.1).length c136626, Value.int .i64 (mxI o129511.2.1 (w64 (o129952.1 + 1))), Value.int .i64 0, Value.int .u64 o129511.2.2.1], .a (ptA eBool 256 o137982), .v [Value.slice A129521 ((o129511.2.2.2.2.1).set (w64 (((r71752.1.Inputs).length : Int) + (i127464 : Int))).toNat o129952.1).length c129522, Value.bool o136622.2]]) ?_ ?_
  rotate_left
  · rintro a w ⟨p137985, hA1, hS, hb137986⟩
    have hF := hK137982
    refine tn (wp_region_lit (pr tb 1 hA1 rfl fun a1 hA1 => o_ld tb hA1 hS hb129939 rfl (i := 1) rfl rfl rfl rfl rfl rfl fun a1 hA1 => ?_))
    obtain ⟨o138442, hx138442, hK138442⟩ := bind_some hF
    refine o_call1 (R := fun v w => ∃ (p138443 : Piece), v = Value.tuple #[] ∧ St noX w0 w H [p136627, p129938, p130003, p127506, p127502, p127498, p71869, p138443, p71778, p71759, p71764, p71769, p71750] ∧ BxP H p138443 g71853 73 [.v [Value.slice A71757 (r71752.1.Inputs).length c71758, Value.slice A71762 (r71752.1.Nodes).length c71763, Value.slice A71767 (r71752.1.Outs).length c71768, Value.slice A136625 (o136622.1).length c136626, Value.int .i64 (mxI o129511.2.1 (w64 (o129952.1 + 1))), Value.int .i64 0, Value.int .u64 o129511.2.2.1], .a (ptA eBool 256 o138442), .v [Value.slice A129521 ((o129511.2.2.2.2.1).set (w64 (((r71752.1.Inputs).length : Int) + (i127464 : Int))).toNat o129952.1).length c129522, Value.bool o136622.2]]) hA1 fi49 rfl rfl rfl rfl ?_ ?_
    rotate_left
    · rintro a1 w v ⟨p138443, rfl, hS, hb138444⟩ hA1
      have hF := hK138442
      refine wpList_nil (b_end hA1 (rs := []) rfl RV.nil ?_)
      intro a hA
      refine wpList_nil (tn (wp_seq (wp_region_lit (pr tb 3 hA rfl fun a hA => o_ldP tb hA hS hb138444 rfl (i := 7) rfl rfl rfl rfl rfl rfl fun a hA => pr tb 1 hA rfl fun a hA => wpList_nil (tn ?_)))))
      rcases ite_some hF with ⟨hc138590, hF⟩ | ⟨hc138590, hF⟩
      · refine cF hA rfl (nf_of (hc138590)) (wp_skip (bn (tn (wp_region_lit (pr tb 2 hA rfl fun a hA => wpList_nil (tn ?_))))))
        obtain rfl := Option.some.inj hF
        have hA := hA.re (d := 37) rfl (congrArg (Value.int .i64) (w64_succ hlt127463 hbd127463))
        exact ⟨(o136622.1, mxI o129511.2.1 (w64 (o129952.1 + 1)), o129511.2.2.1, o138442, (o129511.2.2.2.2.1).set (w64 (((r71752.1.Inputs).length : Int) + (i127464 : Int))).toNat o129952.1, o136622.2), ⟨_, _, _, _, _, _, _, hA.sub ⟨rfl, rfl, rfl, rfl, rfl, rfl, trivial⟩, hS.pick (is := [0, 2, 6, 7, 8, 9, 10, 11, 12]) rfl (by decide), hO136628, (inR_mxI hr129519 (inR_wrap _ _)), hr129520, hO130004, hb138444⟩, hlt127463, hgo127463⟩
      refine cT hA rfl (nt_of (ff_of hc138590)) (wp_seq (wp_region_lit (pr tb 1 hA rfl fun a hA => o_st tb hA hS hb71751 rfl rfl (i := 12) rfl rfl rfl rfl rfl rfl rfl fun w p138591 hS hb138592 => pr tb 1 hA rfl fun a hA => wpList_nil (tn (wp_ret (br (tr (tr ?_))))))))
      obtain rfl := Option.some.inj hF
      have hF := congrArg some hgo127463
      refine br (tr ?_)
      obtain rfl := Option.some.inj hF
      have hF := hK127463
      refine tr (b_ret hA (rs := [.cell 2 55, .tmp 3]) rfl (.cell rfl (hb138592.load tb hS (i := 12) rfl rfl rfl rfl) (.tmp rfl .nil)) ?_)
      obtain rfl := Option.some.inj hF
      have hS := hS.nil'
      exact ⟨_, _, _, rfl, hS.pick (is := [0]) rfl (by decide), OwnS.nil, (inR_c rfl), (inR_c rfl), (inR_c rfl), (inR_c rfl)⟩
    have hF := hx138442
    refine enter fi49.hfn rfl rfl rfl fun a2 hA2 => wp_seq (rx (fun b w => St noX w0 w H (bif b then [p136627, p129938, p130003, p127506, p127502, p127498, p71869, p137985, p71778, p71759, p71764, p71769, p71750] else [p136627, p129938, p130003, p127506, p127502, p127498, p71869, p137985, p71778, p71759, p71764, p71769, p71750])) [] (.q true [0, 1, 2, 3, 4, 5, 6, 7, 8, 9, 10, 11, 12, 13, 14, 15, 16, 17] .z) hmix (by decide +kernel) ?_)
    have hS := hS.drew
    refine ⟨(hS.pickO (is := [some 0, some 1, some 2, some 3, some 4, some 5, some 6, some 7, some 8, some 9, some 10, some 11, some 12]) rfl (by decide)), ?_⟩
    refine q_ld tb hA2 hb127507 rfl (i := 3) rfl rfl rfl rfl rfl rfl fun a2 hA2 => qpr tb 1 hA2 rfl fun a2 hA2 => ?_
    obtain ⟨x138481, hx138482, hF⟩ := bind_some hF
    refine q_idxO tb hA2 hO71873 hx138482 rfl rfl rfl rfl rfl rfl rfl rfl fun a2 ad138483 hA2 hE138484 hat138485 => q_ldO tb hA2 hE138484 rfl (i := 6) rfl rfl rfl rfl rfl rfl fun a2 cs138486 hc138487 hA2 => ?_
    obtain ⟨rfl, hr138488⟩ := hc138487
    refine q_ld tb hA2 hb127503 rfl (i := 4) rfl rfl rfl rfl rfl rfl fun a2 hA2 => qpr tb 2 hA2 rfl fun a2 hA2 => ?_
    rcases ite_some hF with ⟨hc138489, hF⟩ | ⟨hc138489, hF⟩
    · have hA2 := hA2.re (d := 12) rfl (congrArg Value.bool (decide_eq_true hc138489 : _ = true))
      refine qpr tb 11 hA2 rfl fun a2 hA2 => wpHold_nil (tn (cT hA2 rfl rfl (rx (fun b w => St noX w0 w H (bif b then [p136627, p129938, p130003, p127506, p127502, p127498, p71869, p137985, p71778, p71759, p71764, p71769, p71750] else [p136627, p129938, p130003, p127506, p127502, p127498, p71869, emp, p71778, p71759, p71764, p71769, p71750])) [11] (.q true [0, 1, 2, 3, 4, 5, 6, 7] (.q false [8, 9] (.q true [10] (.e 11 .z)))) hmix (by decide +kernel) ?_)))
      have hS := hS.drew
      refine ⟨(hS.pickO (is := [some 0, some 1, some 2, some 3, some 4, some 5, some 6, some 7, some 8, some 9, some 10, some 11, some 12]) rfl (by decide)), ?_⟩
      refine q_ld tb hA2 hb127499 rfl (i := 5) rfl rfl rfl rfl rfl rfl fun a2 hA2 => q_ld tb hA2 hb127499 rfl (i := 5) rfl rfl rfl rfl rfl rfl fun a2 hA2 => qpr tb 2 hA2 rfl fun a2 hA2 => q_ldP tb hA2 hb137986 rfl (i := 7) rfl rfl rfl rfl rfl rfl fun a2 hA2 => qpr tb 1 hA2 rfl fun a2 hA2 => ?_
      obtain ⟨x138520, hx138521, hF⟩ := bind_some hF
      refine q_idxO tb hA2 hO130004 hx138521 rfl rfl rfl rfl rfl rfl rfl rfl fun a2 ad138522 hA2 hE138523 hat138524 => q_ldO tb hA2 hE138523 rfl (i := 2) rfl rfl rfl rfl rfl rfl fun a2 cs138525 hc138526 hA2 => ?_
      obtain ⟨rfl, hr138527⟩ := hc138526
      refine wpHold_nil (⟨(hS.pickO (is := [some 0, some 1, some 2, some 3, some 4, some 5, some 6, none, some 8, some 9, some 10, some 11, some 12]) rfl (by decide)), ?_⟩)
      refine qpr tb 2 hA2 rfl fun a2 hA2 => wpHold_nil (⟨(hS.pickO (is := [some 0, some 1, some 2, some 3, some 4, some 5, some 6, some 7, some 8, some 9, some 10, some 11, some 12]) rfl (by decide)), ?_⟩)
      obtain ⟨x138528, hx138529, hF⟩ := bind_some hF
      refine q_idxA tb hA2 hb137986 (k := 1) rfl rfl hx138529 rfl rfl rfl rfl rfl rfl rfl rfl fun a2 ad138530 hA2 hE138531 had138532 => wpHold_nil (o_stA (v := Value.bool false) (y0 := false) tb hA2 hS hb137986 (k := 1) rfl rfl hx138529 had138532 rfl rfl rfl (i := 7) rfl rfl rfl rfl rfl fun w p138533 hS hb138534 => wpList_nil (tn (⟨⟨fun _ => (hS.pickO (is := [some 0, some 1, some 2, some 3, some 4, some 5, some 6, none, some 8, some 9, some 10, some 11, some 12]) rfl (by decide)), fun h => absurd h (by decide)⟩, ?_⟩)))
      refine b_end hA2 (rs := []) rfl RV.nil ?_
      obtain rfl := Option.some.inj hF
      exact ⟨_, rfl, hS, hb138534⟩
    have hA2 := hA2.re (d := 12) rfl (congrArg Value.bool (decide_eq_false hc138489 : _ = false))
    refine qpr tb 1 hA2 rfl fun a2 hA2 => q_ld tb hA2 hb129939 rfl (i := 1) rfl rfl rfl rfl rfl rfl fun a2 hA2 => qpr tb 2 hA2 rfl fun a2 hA2 => ?_
    rcases ite_some hF with ⟨hc138535, hF⟩ | ⟨hc138535, hF⟩
    rotate_left
    · have hA2 := hA2.re (d := 16) rfl (congrArg Value.bool (decide_eq_false hc138535 : _ = false))
      refine qpr tb 7 hA2 rfl fun a2 hA2 => wpHold_nil (tn (cF hA2 rfl rfl (wp_skip (b_end hA2 (rs := []) rfl RV.nil ?_))))
      obtain rfl := Option.some.inj hF
      exact ⟨_, rfl, hS, hb137986⟩
    have hA2 := hA2.re (d := 16) rfl (congrArg Value.bool (decide_eq_true hc138535 : _ = true))
    refine q_ld tb hA2 hb127507 rfl (i := 3) rfl rfl rfl rfl rfl rfl fun a2 hA2 => qpr tb 1 hA2 rfl fun a2 hA2 => ?_
    obtain ⟨x138536, hx138537, hF⟩ := bind_some hF
    refine q_idxO tb hA2 hO71873 hx138537 rfl rfl rfl rfl rfl rfl rfl rfl fun a2 ad138538 hA2 hE138539 hat138540 => q_ldO tb hA2 hE138539 rfl (i := 6) rfl rfl rfl rfl rfl rfl fun a2 cs138541 hc138542 hA2 => ?_
    obtain ⟨rfl, hr138543⟩ := hc138542
    refine qpr tb 3 hA2 rfl fun a2 hA2 => wpHold_nil (tn ?_)
    rcases ite_some hF with ⟨hc138544, hF⟩ | ⟨hc138544, hF⟩
    rotate_left
    · refine cF hA2 rfl (decide_eq_false hc138544) (wp_skip (b_end hA2 (rs := []) rfl RV.nil ?_))
      obtain rfl := Option.some.inj hF
      exact ⟨_, rfl, hS, hb137986⟩
    refine cT hA2 rfl (decide_eq_true hc138544) (rx (fun b w => St noX w0 w H (bif b then [p136627, p129938, p130003, p127506, p127502, p127498, p71869, p137985, p71778, p71759, p71764, p71769, p71750] else [p136627, p129938, p130003, p127506, p127502, p127498, p71869, emp, p71778, p71759, p71764, p71769, p71750])) [11] (.q true [0, 1, 2, 3, 4, 5, 6, 7] (.q false [8, 9] (.q true [10] (.e 11 .z)))) hmix (by decide +kernel) ?_)
    have hS := hS.drew
    refine ⟨(hS.pickO (is := [some 0, some 1, some 2, some 3, some 4, some 5, some 6, some 7, some 8, some 9, some 10, some 11, some 12]) rfl (by decide)), ?_⟩
    refine q_ld tb hA2 hb127499 rfl (i := 5) rfl rfl rfl rfl rfl rfl fun a2 hA2 => q_ld tb hA2 hb127499 rfl (i := 5) rfl rfl rfl rfl rfl rfl fun a2 hA2 => qpr tb 2 hA2 rfl fun a2 hA2 => q_ldP tb hA2 hb137986 rfl (i := 7) rfl rfl rfl rfl rfl rfl fun a2 hA2 => qpr tb 1 hA2 rfl fun a2 hA2 => ?_
    obtain ⟨x138575, hx138576, hF⟩ := bind_some hF
    refine q_idxO tb hA2 hO130004 hx138576 rfl rfl rfl rfl rfl rfl rfl rfl fun a2 ad138577 hA2 hE138578 hat138579 => q_ldO tb hA2 hE138578 rfl (i := 2) rfl rfl rfl rfl rfl rfl fun a2 cs138580 hc138581 hA2 => ?_
    obtain ⟨rfl, hr138582⟩ := hc138581
    refine wpHold_nil (⟨(hS.pickO (is := [some 0, some 1, some 2, some 3, some 4, some 5, some 6, none, some 8, some 9, some 10, some 11, some 12]) rfl (by decide)), ?_⟩)
    refine qpr tb 2 hA2 rfl fun a2 hA2 => wpHold_nil (⟨(hS.pickO (is := [some 0, some 1, some 2, some 3, some 4, some 5, some 6, some 7, some 8, some 9, some 10, some 11, some 12]) rfl (by decide)), ?_⟩)
    obtain ⟨x138583, hx138584, hF⟩ := bind_some hF
    refine q_idxA tb hA2 hb137986 (k := 1) rfl rfl hx138584 rfl rfl rfl rfl rfl rfl rfl rfl fun a2 ad138585 hA2 hE138586 had138587 => wpHold_nil (o_stA (v := Value.bool false) (y0 := false) tb hA2 hS hb137986 (k := 1) rfl rfl hx138584 had138587 rfl rfl rfl (i := 7) rfl rfl rfl rfl rfl fun w p138588 hS hb138589 => wpList_nil (tn (⟨⟨fun _ => (hS.pickO (is := [some 0, some 1, some 2, some 3, some 4, some 5, some 6, none, some 8, some 9, some 10, some 11, some 12]) rfl (by decide)), fun h => absurd h (by decide)⟩, ?_⟩)))
    refine b_end hA2 (rs := []) rfl RV.nil ?_
    obtain rfl := Option.some.inj hF
    exact ⟨_, rfl, hS, hb138589⟩
  have hF := hx137982
  refine wp_block ?_
  have hbd137982 : (x127532).length ≤ 9223372036854775807 := (Nat.le_trans (hO127543.len rfl) (by decide))
  refine wp_for0 (n := (x127532).length) (s0 := ((o129511.2.2.2.1).set (o129952.1).toNat true)) (fun (i137983 : Nat) (s137984 : List Bool) a w => ∃ (p137987 : Piece), Fr (97, []) a [(9, Value.pointer (some ⟨g129935, 0, none⟩)), (12, Value.func (.func 49) #[] #[Value.pointer (some ⟨g127505, 0, none⟩), Value.pointer (some ⟨g127501, 0, none⟩), Value.pointer (some ⟨g129935, 0, none⟩), Value.pointer (some ⟨g127497, 0, none⟩)]), (83, Value.slice A127537 (x127532).length c127538), (84, Value.int .i64 ((x127532).length : Int)), (85, Value.int .i64 (i137983 : Int))] ∧ St noX w0 w H [p136627, p129938, p130003, p127506, p127502, p127498, p71869, p137987, p71778, p71759, p71764, p71769, p71750] ∧ BxP H p137987 g71853 73 [.v [Value.slice A71757 (r71752.1.Inputs).length c71758, Value.slice A71762 (r71752.1.Nodes).length c71763, Value.slice A71767 (r71752.1.Outs).length c71768, Value.slice A136625 (o136622.1).length c136626, Value.int .i64 (mxI o129511.2.1 (w64 (o129952.1 + 1))), Value.int .i64 0, Value.int .u64 o129511.2.2.1], .a (ptA eBool 256 s137984), .v [Value.slice A129521 ((o129511.2.2.2.2.1).set (w64 (((r71752.1.Inputs).length : Int) + (i127464 : Int))).toNat o129952.1).length c129522, Value.bool o136622.2]]) hF ⟨_, hA1.sub ⟨rfl, rfl, rfl, rfl, rfl, trivial⟩, hS, hb136631⟩ ?_
  rintro After137982 i137983 s137984 a w ⟨p137987, hA1, hS, hb137988⟩ hin137982 hst137982 hge137982
  rcases Nat.lt_or_ge i137983 ((x127532).length) with hlt137982 | hgt137982
  rotate_left
  · have hF := congrArg some (hge137982 hgt137982)
    refine wp_seq (wp_region_lit (pr tb 1 hA1 rfl fun a1 hA1 => wpList_nil (tn (wp_seq (cF hA1 rfl (decide_eq_false (show ¬ ((i137983 : Int) < ((x127532).length : Int)) by omega)) (wp_exit (te (te (be (tn ?_))))))))))
    obtain rfl := Option.some.inj hF
    exact ⟨_, hA1.sub ⟨rfl, rfl, trivial⟩, hS, hb137988⟩
  obtain ⟨cc137982, hF, hgo137982⟩ := hst137982 hlt137982
  refine wp_seq (wp_region_lit (pr tb 1 hA1 rfl fun a1 hA1 => wpList_nil (tn (wp_seq (cT hA1 rfl (decide_eq_true (show (i137983 : Int) < ((x127532).length : Int) by omega)) (wp_skip (tn (wp_seq (wp_block (wp_seq (wp_region_lit ?_)))))))))))
  obtain ⟨x137989, hx137990, hF⟩ := bind_some hF
  refine o_idxO tb hA1 hO127543 hx137990 rfl rfl rfl rfl rfl rfl rfl rfl fun a1 ad137991 hA1 hE137992 hat137993 => o_ldO tb hA1 hS (hE137992.up hl127542) rfl (i := 10) rfl rfl rfl rfl rfl rfl fun a1 cs137994 hc137995 hA1 => ?_
  obtain ⟨rfl, hr137996, hr137997⟩ := hc137995
  refine o_alloc tb hA1 hS rfl rfl rfl fun a1 w g137999 p138000 hA1 hS hb138001 => o_st tb hA1 hS hb138001 rfl rfl (i := 0) rfl rfl rfl rfl rfl rfl rfl fun w p138002 hS hb138003 => wpList_nil (tn (wp_region_lit (pr tb 2 hA1 rfl fun a1 hA1 => o_ld tb hA1 hS hb138003 rfl (i := 0) rfl rfl rfl rfl rfl rfl fun a1 hA1 => ?_)))
  obtain ⟨o138149, hx138149, hK138149⟩ := bind_some hF
  refine o_call1 (R := fun v w => ∃ (p138150 : Piece), v = Value.tuple #[] ∧ St noX w0 w H [p138002, p136627, p129938, p130003, p127506, p127502, p127498, p71869, p138150, p71778, p71759, p71764, p71769, p71750] ∧ BxP H p138150 g71853 73 [.v [Value.slice A71757 (r71752.1.Inputs).length c71758, Value.slice A71762 (r71752.1.Nodes).length c71763, Value.slice A71767 (r71752.1.Outs).length c71768, Value.slice A136625 (o136622.1).length c136626, Value.int .i64 (mxI o129511.2.1 (w64 (o129952.1 + 1))), Value.int .i64 0, Value.int .u64 o129511.2.2.1], .a (ptA eBool 256 o138149), .v [Value.slice A129521 ((o129511.2.2.2.2.1).set (w64 (((r71752.1.Inputs).length : Int) + (i127464 : Int))).toNat o129952.1).length c129522, Value.bool o136622.2]]) hA1 fi49 rfl rfl rfl rfl ?_ ?_
  rotate_left
  · rintro a1 w v ⟨p138150, rfl, hS, hb138151⟩ hA1
    have hF := hK138149
    refine wpList_nil (bn (tn (wp_region_lit (pr tb 2 hA1 rfl fun a1 hA1 => wpList_nil (tn ?_)))))
    obtain rfl := Option.some.inj hF
    have hA1 := hA1.re (d := 85) rfl (congrArg (Value.int .i64) (w64_succ hlt137982 hbd137982))
    exact ⟨(o138149), ⟨_, hA1.sub ⟨rfl, rfl, rfl, rfl, rfl, trivial⟩, hS.pick (is := [1, 2, 3, 4, 5, 6, 7, 8, 9, 10, 11, 12, 13]) rfl (by decide), hb138151⟩, hlt137982, hgo137982⟩
  have hF := hx138149
  refine enter fi49.hfn rfl rfl rfl fun a2 hA2 => wp_seq (rx (fun b w => St noX w0 w H (bif b then [p138002, p136627, p129938, p130003, p127506, p127502, p127498, p71869, p137987, p71778, p71759, p71764, p71769, p71750] else [p138002, p136627, p129938, p130003, p127506, p127502, p127498, p71869, p137987, p71778, p71759, p71764, p71769, p71750])) [] (.q true [0, 1, 2, 3, 4, 5, 6, 7, 8, 9, 10, 11, 12, 13, 14, 15, 16, 17] .z) hmix (by decide +kernel) ?_)
  have hS := hS.drew
  refine ⟨(hS.pickO (is := [some 0, some 1, some 2, some 3, some 4, some 5, some 6, some 7, some 8, some 9, some 10, some 11, some 12, some 13]) rfl (by decide)), ?_⟩
  refine q_ld tb hA2 hb127507 rfl (i := 4) rfl rfl rfl rfl rfl rfl fun a2 hA2 => qpr tb 1 hA2 rfl fun a2 hA2 => ?_
  obtain ⟨x138188, hx138189, hF⟩ := bind_some hF
  refine q_idxO tb hA2 hO71873 hx138189 rfl rfl rfl rfl rfl rfl rfl rfl fun a2 ad138190 hA2 hE138191 hat138192 => q_ldO tb hA2 hE138191 rfl (i := 7) rfl rfl rfl rfl rfl rfl fun a2 cs138193 hc138194 hA2 => ?_
  obtain ⟨rfl, hr138195⟩ := hc138194
  refine q_ld tb hA2 hb127503 rfl (i := 5) rfl rfl rfl rfl rfl rfl fun a2 hA2 => qpr tb 2 hA2 rfl fun a2 hA2 => ?_
  rcases ite_some hF with ⟨hc138196, hF⟩ | ⟨hc138196, hF⟩
  · have hA2 := hA2.re (d := 12) rfl (congrArg Value.bool (decide_eq_true hc138196 : _ = true))
    refine qpr tb 11 hA2 rfl fun a2 hA2 => wpHold_nil (tn (cT hA2 rfl rfl (rx (fun b w => St noX w0 w H (bif b then [p138002, p136627, p129938, p130003, p127506, p127502, p127498, p71869, p137987, p71778, p71759, p71764, p71769, p71750] else [p138002, p136627, p129938, p130003, p127506, p127502, p127498, p71869, emp, p71778, p71759, p71764, p71769, p71750])) [11] (.q true [0, 1, 2, 3, 4, 5, 6, 7] (.q false [8, 9] (.q true [10] (.e 11 .z)))) hmix (by decide +kernel) ?_)))
    have hS := hS.drew
    refine ⟨(hS.pickO (is := [some 0, some 1, some 2, some 3, some 4, some 5, some 6, some 7, some 8, some 9, some 10, some 11, some 12, some 13]) rfl (by decide)), ?_⟩
    refine q_ld tb hA2 hb127499 rfl (i := 6) rfl rfl rfl rfl rfl rfl fun a2 hA2 => q_ld tb hA2 hb127499 rfl (i := 6) rfl rfl rfl rfl rfl rfl fun a2 hA2 => qpr tb 2 hA2 rfl fun a2 hA2 => q_ldP tb hA2 hb137988 rfl (i := 8) rfl rfl rfl rfl rfl rfl fun a2 hA2 => qpr tb 1 hA2 rfl fun a2 hA2 => ?_
    obtain ⟨x138227, hx138228, hF⟩ := bind_some hF
    refine q_idxO tb hA2 hO130004 hx138228 rfl rfl rfl rfl rfl rfl rfl rfl fun a2 ad138229 hA2 hE138230 hat138231 => q_ldO tb hA2 hE138230 rfl (i := 3) rfl rfl rfl rfl rfl rfl fun a2 cs138232 hc138233 hA2 => ?_
    obtain ⟨rfl, hr138234⟩ := hc138233
    refine wpHold_nil (⟨(hS.pickO (is := [some 0, some 1, some 2, some 3, some 4, some 5, some 6, some 7, none, some 9, some 10, some 11, some 12, some 13]) rfl (by decide)), ?_⟩)
    refine qpr tb 2 hA2 rfl fun a2 hA2 => wpHold_nil (⟨(hS.pickO (is := [some 0, some 1, some 2, some 3, some 4, some 5, some 6, some 7, some 8, some 9, some 10, some 11, some 12, some 13]) rfl (by decide)), ?_⟩)
    obtain ⟨x138235, hx138236, hF⟩ := bind_some hF
    refine q_idxA tb hA2 hb137988 (k := 1) rfl rfl hx138236 rfl rfl rfl rfl rfl rfl rfl rfl fun a2 ad138237 hA2 hE138238 had138239 => wpHold_nil (o_stA (v := Value.bool false) (y0 := false) tb hA2 hS hb137988 (k := 1) rfl rfl hx138236 had138239 rfl rfl rfl (i := 8) rfl rfl rfl rfl rfl fun w p138240 hS hb138241 => wpList_nil (tn (⟨⟨fun _ => (hS.pickO (is := [some 0, some 1, some 2, some 3, some 4, some 5, some 6, some 7, none, some 9, some 10, some 11, some 12, some 13]) rfl (by decide)), fun h => absurd h (by decide)⟩, ?_⟩)))
    refine b_end hA2 (rs := []) rfl RV.nil ?_
    obtain rfl := Option.some.inj hF
    exact ⟨_, rfl, hS, hb138241⟩
  have hA2 := hA2.re (d := 12) rfl (congrArg Value.bool (decide_eq_false hc138196 : _ = false))
  refine qpr tb 1 hA2 rfl fun a2 hA2 => q_ld tb hA2 hb129939 rfl (i := 2) rfl rfl rfl rfl rfl rfl fun a2 hA2 => qpr tb 2 hA2 rfl fun a2 hA2 => ?_
  rcases ite_some hF with ⟨hc138242, hF⟩ | ⟨hc138242, hF⟩
  rotate_left
  · have hA2 := hA2.re (d := 16) rfl (congrArg Value.bool (decide_eq_false hc138242 : _ = false))
    refine qpr tb 7 hA2 rfl fun a2 hA2 => wpHold_nil (tn (cF hA2 rfl rfl (wp_skip (b_end hA2 (rs := []) rfl RV.nil ?_))))
    obtain rfl := Option.some.inj hF
    exact ⟨_, rfl, hS, hb137988⟩
  have hA2 := hA2.re (d := 16) rfl (congrArg Value.bool (decide_eq_true hc138242 : _ = true))
  refine q_ld tb hA2 hb127507 rfl (i := 4) rfl rfl rfl rfl rfl rfl fun a2 hA2 => qpr tb 1 hA2 rfl fun a2 hA2 => ?_
  obtain ⟨x138243, hx138244, hF⟩ := bind_some hF
  refine q_idxO tb hA2 hO71873 hx138244 rfl rfl rfl rfl rfl rfl rfl rfl fun a2 ad138245 hA2 hE138246 hat138247 => q_ldO tb hA2 hE138246 rfl (i := 7) rfl rfl rfl rfl rfl rfl fun a2 cs138248 hc138249 hA2 => ?_
  obtain ⟨rfl, hr138250⟩ := hc138249
  refine qpr tb 3 hA2 rfl fun a2 hA2 => wpHold_nil (tn ?_)
  rcases ite_some hF with ⟨hc138251, hF⟩ | ⟨hc138251, hF⟩
  rotate_left
  · refine cF hA2 rfl (decide_eq_false hc138251) (wp_skip (b_end hA2 (rs := []) rfl RV.nil ?_))
    obtain rfl := Option.some.inj hF
    exact ⟨_, rfl, hS, hb137988⟩
  refine cT hA2 rfl (decide_eq_true hc138251) (rx (fun b w => St noX w0 w H (bif b then [p138002, p136627, p129938, p130003, p127506, p127502, p127498, p71869, p137987, p71778, p71759, p71764, p71769, p71750] else [p138002, p136627, p129938, p130003, p127506, p127502, p127498, p71869, emp, p71778, p71759, p71764, p71769, p71750])) [11] (.q true [0, 1, 2, 3, 4, 5, 6, 7] (.q false [8, 9] (.q true [10] (.e 11 .z)))) hmix (by decide +kernel) ?_)
  have hS := hS.drew
  refine ⟨(hS.pickO (is := [some 0, some 1, some 2, some 3, some 4, some 5, some 6, some 7, some 8, some 9, some 10, some 11, some 12, some 13]) rfl (by decide)), ?_⟩
  refine q_ld tb hA2 hb127499 rfl (i := 6) rfl rfl rfl rfl rfl rfl fun a2 hA2 => q_ld tb hA2 hb127499 rfl (i := 6) rfl rfl rfl rfl rfl rfl fun a2 hA2 => qpr tb 2 hA2 rfl fun a2 hA2 => q_ldP tb hA2 hb137988 rfl (i := 8) rfl rfl rfl rfl rfl rfl fun a2 hA2 => qpr tb 1 hA2 rfl fun a2 hA2 => ?_
  obtain ⟨x138282, hx138283, hF⟩ := bind_some hF
  refine q_idxO tb hA2 hO130004 hx138283 rfl rfl rfl rfl rfl rfl rfl rfl fun a2 ad138284 hA2 hE138285 hat138286 => q_ldO tb hA2 hE138285 rfl (i := 3) rfl rfl rfl rfl rfl rfl fun a2 cs138287 hc138288 hA2 => ?_
  obtain ⟨rfl, hr138289⟩ := hc138288
  refine wpHold_nil (⟨(hS.pickO (is := [some 0, some 1, some 2, some 3, some 4, some 5, some 6, some 7, none, some 9, some 10, some 11, some 12, some 13]) rfl (by decide)), ?_⟩)
  refine qpr tb 2 hA2 rfl fun a2 hA2 => wpHold_nil (⟨(hS.pickO (is := [some 0, some 1, some 2, some 3, some 4, some 5, some 6, some 7, some 8, some 9, some 10, some 11, some 12, some 13]) rfl (by decide)), ?_⟩)
  obtain ⟨x138290, hx138291, hF⟩ := bind_some hF
  refine q_idxA tb hA2 hb137988 (k := 1) rfl rfl hx138291 rfl rfl rfl rfl rfl rfl rfl rfl fun a2 ad138292 hA2 hE138293 had138294 => wpHold_nil (o_stA (v := Value.bool false) (y0 := false) tb hA2 hS hb137988 (k := 1) rfl rfl hx138291 had138294 rfl rfl rfl (i := 8) rfl rfl rfl rfl rfl fun w p138295 hS hb138296 => wpList_nil (tn (⟨⟨fun _ => (hS.pickO (is := [some 0, some 1, some 2, some 3, some 4, some 5, some 6, some 7, none, some 9, some 10, some 11, some 12, some 13]) rfl (by decide)), fun h => absurd h (by decide)⟩, ?_⟩)))
  refine b_end hA2 (rs := []) rfl RV.nil ?_
  obtain rfl := Option.some.inj hF
  exact ⟨_, rfl, hS, hb138296⟩
theorem c_recoupref23_Same {w0 : World} {H : PHeap} (hI : ∀ b o, H b = some o → w0.heap[b]? = some o) {x0 : GProgram} {x1 : GProgram} {A0_0 : Option Addr} {c0_0 : Nat} (h0_0 : RdS eGStep H A0_0 c0_0 x0.Steps) (hr0_1 : inR .i64 x0.Regs) (hr0_2 : inR .i64 x0.Outs) (hr0_3 : inR .u64 x0.Reads) {A1_0 : Option Addr} {c1_0 : Nat} (h1_0 : RdS eGStep H A1_0 c1_0 x1.Steps) (hr1_1 : inR .i64 x1.Regs) (hr1_2 : inR .i64 x1.Outs) (hr1_3 : inR .u64 x1.Reads) {r : Bool} (hF : recoupref23_Same x0 x1 = some r) :
    Calls Try.prog 34 [Value.agg #[Value.slice A0_0 (x0.Steps).length c0_0, Value.int .i64 x0.Regs, Value.int .i64 x0.Outs, Value.int .u64 x0.Reads], Value.agg #[Value.slice A1_0 (x1.Steps).length c1_0, Value.int .i64 x1.Regs, Value.int .i64 x1.Outs, Value.int .u64 x1.Reads]].toArray w0 (Ret (fun v w => v = Value.bool r ∧ St noX w0 w H [])) := by
  have hS := St.start hI noX
  unfold recoupref23_Same at hF
  refine enter fi34.hfn rfl rfl rfl fun a hA => wp_seq (wp_region_lit (o_box hA hS rfl rfl rfl fun a w g146 p147 hA hS hb148 => o_box hA hS rfl rfl rfl fun a w g150 p151 hA hS hb152 => pr tb 1 hA rfl fun a hA => wpList_nil (tn (wp_seq (wp_seq (wp_region_lit (pr tb 1 hA rfl fun a hA => o_ld tb hA hS hb148 rfl (i := 1) rfl rfl rfl rfl rfl rfl fun a hA => ?_)))))))
  refine pr tb 2 hA rfl fun a hA => o_ld tb hA hS hb152 rfl (i := 0) rfl rfl rfl rfl rfl rfl fun a hA => pr tb 3 hA rfl fun a hA => ?_
  rcases ite_some hF with ⟨hc157, hF⟩ | ⟨hc157, hF⟩
  rotate_left
  · have hA := hA.re (d := 13) rfl (congrArg Value.bool (nt_of (decide_eq_false hc157) : _ = true))
    refine pr tb 20 hA rfl fun a hA => wpList_nil (tn (cT hA rfl rfl (wp_seq (wp_region_lit (pr tb 1 hA rfl fun a hA => wpList_nil (tn (wp_ret (tr (b_ret hA (rs := [.tmp 4]) rfl (.tmp rfl .nil) ?_)))))))))
    obtain rfl := Option.some.inj hF
    exact ⟨rfl, hS.pick (is := []) rfl (by decide)⟩
  have hA := hA.re (d := 13) rfl (congrArg Value.bool (nf_of (decide_eq_true hc157) : _ = false))
  refine pr tb 1 hA rfl fun a hA => o_ld tb hA hS hb148 rfl (i := 1) rfl rfl rfl rfl rfl rfl fun a hA => pr tb 1 hA rfl fun a hA => o_ld tb hA hS hb152 rfl (i := 0) rfl rfl rfl rfl rfl rfl fun a hA => pr tb 3 hA rfl fun a hA => ?_
  rcases ite_some hF with ⟨hc158, hF⟩ | ⟨hc158, hF⟩
  rotate_left
  · have hA := hA.re (d := 20) rfl (congrArg Value.bool (nt_of (decide_eq_false hc158) : _ = true))
    refine pr tb 13 hA rfl fun a hA => wpList_nil (tn (cT hA rfl rfl (wp_seq (wp_region_lit (pr tb 1 hA rfl fun a hA => wpList_nil (tn (wp_ret (tr (b_ret hA (rs := [.tmp 4]) rfl (.tmp rfl .nil) ?_)))))))))
    obtain rfl := Option.some.inj hF
    exact ⟨rfl, hS.pick (is := []) rfl (by decide)⟩
  have hA := hA.re (d := 20) rfl (congrArg Value.bool (nf_of (decide_eq_true hc158) : _ = false))
  refine pr tb 1 hA rfl fun a hA => o_ld tb hA hS hb148 rfl (i := 1) rfl rfl rfl rfl rfl rfl fun a hA => pr tb 1 hA rfl fun a hA => o_ld tb hA hS hb152 rfl (i := 0) rfl rfl rfl rfl rfl rfl fun a hA => pr tb 3 hA rfl fun a hA => ?_
  rcases ite_some hF with ⟨hc159, hF⟩ | ⟨hc159, hF⟩
  rotate_left
  · have hA := hA.re (d := 27) rfl (congrArg Value.bool (nt_of (decide_eq_false hc159) : _ = true))
    refine pr tb 6 hA rfl fun a hA => wpList_nil (tn (cT hA rfl rfl (wp_seq (wp_region_lit (pr tb 1 hA rfl fun a hA => wpList_nil (tn (wp_ret (tr (b_ret hA (rs := [.tmp 4]) rfl (.tmp rfl .nil) ?_)))))))))
    obtain rfl := Option.some.inj hF
    exact ⟨rfl, hS.pick (is := []) rfl (by decide)⟩
  have hA := hA.re (d := 27) rfl (congrArg Value.bool (nf_of (decide_eq_true hc159) : _ = false))
  refine pr tb 1 hA rfl fun a hA => o_ld tb hA hS hb148 rfl (i := 1) rfl rfl rfl rfl rfl rfl fun a hA => pr tb 1 hA rfl fun a hA => o_ld tb hA hS hb152 rfl (i := 0) rfl rfl rfl rfl rfl rfl fun a hA => pr tb 2 hA rfl fun a hA => wpList_nil (tn ?_)
  rcases ite_some hF with ⟨hc160, hF⟩ | ⟨hc160, hF⟩
  rotate_left
  · refine cT hA rfl (nt_of (decide_eq_false hc160)) (wp_seq (wp_region_lit (pr tb 1 hA rfl fun a hA => wpList_nil (tn (wp_ret (tr (b_ret hA (rs := [.tmp 4]) rfl (.tmp rfl .nil) ?_)))))))
    obtain rfl := Option.some.inj hF
    exact ⟨rfl, hS.pick (is := []) rfl (by decide)⟩
  refine cF hA rfl (nf_of (decide_eq_true hc160)) (wp_skip (tn (wp_seq (wp_seq (wp_region_lit (pr tb 1 hA rfl fun a hA => wpList_nil (tn ?_)))))))
  obtain ⟨o224, hx224, hK224⟩ := bind_some hF
  refine wp_cut1 (fun a w => ∃ (s227 : Unit), o224 = .fall s227 ∧ Fr (52, []) a [] ∧ St noX w0 w H []) ?_ ?_
  rotate_left
  · rintro a w ⟨s227, rfl, hA, hS⟩
    have hF := hK224
    refine tn (wp_seq (wp_region_lit (pr tb 1 hA rfl fun a hA => wpList_nil (tn (wp_ret (b_ret hA (rs := [.tmp 4]) rfl (.tmp rfl .nil) ?_))))))
    obtain rfl := Option.some.inj hF
    exact ⟨rfl, hS⟩
  have hF := hx224
  refine wp_block ?_
  have hbd224 : (x0.Steps).length ≤ 9223372036854775807 := (Nat.le_trans (h0_0.len rfl) (by decide))
  refine wp_for0 (n := (x0.Steps).length) (s0 := (())) (fun (i225 : Nat) (s226 : Unit) a w => Fr (52, []) a [(2, Value.pointer (some ⟨g146, 0, none⟩)), (3, Value.pointer (some ⟨g150, 0, none⟩)), (5, Value.int .i64 (i225 : Int))] ∧ St noX w0 w H [p151, p147]) hF ⟨hA.sub ⟨rfl, rfl, rfl, trivial⟩, hS⟩ ?_
  rintro After224 i225 s226 a w ⟨hA, hS⟩ hin224 hst224 hge224
  rcases Nat.lt_or_ge i225 ((x0.Steps).length) with hlt224 | hgt224
  rotate_left
  · have hF := congrArg some (hge224 hgt224)
    refine wp_seq (wp_seq (wp_region_lit (pr tb 2 hA rfl fun a hA => o_ld tb hA hS hb148 rfl (i := 1) rfl rfl rfl rfl rfl rfl fun a hA => pr tb 2 hA rfl fun a hA => wpList_nil (tn (cF hA rfl (decide_eq_false (show ¬ ((i225 : Int) < ((x0.Steps).length : Int)) by omega)) (wp_exit (te (te (be ?_)))))))))
    refine tn ?_
    obtain rfl := Option.some.inj hF
    exact ⟨(()), rfl, hA.sub trivial, hS.pick (is := []) rfl (by decide)⟩
  obtain ⟨cc224, hF, hgo224⟩ := hst224 hlt224
  refine wp_seq (wp_seq (wp_region_lit (pr tb 2 hA rfl fun a hA => o_ld tb hA hS hb148 rfl (i := 1) rfl rfl rfl rfl rfl rfl fun a hA => pr tb 2 hA rfl fun a hA => wpList_nil (tn (cT hA rfl (decide_eq_true (show (i225 : Int) < ((x0.Steps).length : Int) by omega)) (wp_skip (tn (wp_seq (wp_block ?_)))))))))
  refine wp_seq (rx (fun b w => St noX w0 w H (bif b then [p151, p147] else [p151, p147])) [] (.q true [0, 1, 2, 3, 4, 5, 6, 7, 8, 9, 10] .z) hmix (by decide +kernel) ?_)
  have hS := hS.drew
  refine ⟨(hS.pickO (is := [some 0, some 1]) rfl (by decide)), ?_⟩
  refine qpr tb 1 hA rfl fun a hA => q_ld tb hA hb148 rfl (i := 1) rfl rfl rfl rfl rfl rfl fun a hA => qpr tb 1 hA rfl fun a hA => ?_
  obtain ⟨x268, hx269, hF⟩ := bind_some hF
  refine q_idxR tb hA h0_0 hx269 rfl rfl rfl rfl rfl rfl rfl rfl fun a ad270 hA hE271 => q_ldR tb hA hE271 rfl rfl rfl rfl rfl rfl fun a cs272 hc273 hA => ?_
  obtain ⟨rfl, hr274, hr275, hr276, hr277⟩ := hc273
  refine qpr tb 1 hA rfl fun a hA => q_ld tb hA hb152 rfl (i := 0) rfl rfl rfl rfl rfl rfl fun a hA => qpr tb 1 hA rfl fun a hA => ?_
  obtain ⟨x278, hx279, hF⟩ := bind_some hF
  refine q_idxR tb hA h1_0 hx279 rfl rfl rfl rfl rfl rfl rfl rfl fun a ad280 hA hE281 => q_ldR tb hA hE281 rfl rfl rfl rfl rfl rfl fun a cs282 hc283 hA => ?_
  obtain ⟨rfl, hr284, hr285, hr286, hr287⟩ := hc283
  refine q_eqS (neg := true) tb hA se80 rfl rfl rfl rfl rfl fun a hA => wpHold_nil (tn ?_)
  rcases ite_some hF with ⟨hc288, hF⟩ | ⟨hc288, hF⟩
  · refine cF hA rfl (nf_of (hc288)) (wp_skip (bn (tn (wp_region_lit (pr tb 3 hA rfl fun a hA => wpList_nil (tn ?_))))))
    obtain rfl := Option.some.inj hF
    have hA := hA.re (d := 5) rfl (congrArg (Value.int .i64) (w64_succ hlt224 hbd224))
    exact ⟨(()), ⟨hA.sub ⟨rfl, rfl, rfl, trivial⟩, hS⟩, hlt224, hgo224⟩
  refine cT hA rfl (nt_of (ff_of hc288)) (wp_seq (wp_region_lit (pr tb 1 hA rfl fun a hA => wpList_nil (tn (wp_ret (br (tr (tr ?_))))))))
  obtain rfl := Option.some.inj hF
  have hF := congrArg some hgo224
  refine br (tr ?_)
  obtain rfl := Option.some.inj hF
  have hF := hK224
  refine tr (b_ret hA (rs := [.tmp 4]) rfl (.tmp rfl .nil) ?_)
  obtain rfl := Option.some.inj hF
  exact ⟨rfl, hS.pick (is := []) rfl (by decide)⟩
theorem c_recouplaw23_anchored {w0 : World} {H : PHeap} (hI : ∀ b o, H b = some o → w0.heap[b]? = some o)   {r : Bool} (hF : recouplaw23_anchored = some r) :
    Calls Try.prog 20 [].toArray w0 (Ret (fun v w => ∃ (H' : PHeap), v = Value.bool r ∧ St noX w0 w H' [] ∧ Ext w0 H H')) := by
  have hS := St.start hI noX
  unfold recouplaw23_anchored at hF
  refine enter fi20.hfn rfl rfl rfl fun a hA => wp_seq (wp_region_lit (pr tb 1 hA rfl fun a hA => wpList_nil (tn (wp_seq (wp_region_lit (o_bsl (e := (eInt .i64 8)) (xs := ([(4 : Int)] : List Int)) tb hA hS rfl rfl rfl (.cons ⟨rfl, (inR_c rfl)⟩ .nil) rfl rfl rfl rfl rfl rfl rfl rfl rfl fun a w A67 p68 hA hS hO69 hN71 => pr tb 1 hA rfl fun a hA => o_bsl (e := eGTerm) (xs := ([(⟨(0 : Int), (3 : Int)⟩ : GTerm)] : List GTerm)) tb hA hS rfl rfl rfl (.cons ⟨rfl, (inR_c rfl), (inR_c rfl)⟩ .nil) rfl rfl rfl rfl rfl rfl rfl rfl rfl fun a w A72 p73 hA hS hO74 hN76 => ?_))))))
  obtain ⟨H77, hS, hle77, hX77, hpl77⟩ := hS.freezeG (i := 0) rfl
  have hR77 := hO74.rd2 hpl77 hle77
  have hX77 := (Ext.refl w0 H).trans hX77
  refine o_bsl (e := (eSl eGTerm)) (xs := ([([(⟨(0 : Int), (3 : Int)⟩ : GTerm)] : List GTerm)] : List (List GTerm))) tb hA hS rfl rfl rfl (.cons ⟨_, _, rfl, hR77⟩ .nil) rfl rfl rfl rfl rfl rfl rfl rfl rfl fun a w A79 p80 hA hS hO81 hN83 => o_bsl (e := (eInt .i64 8)) (xs := ([(1 : Int)] : List Int)) tb hA hS rfl rfl rfl (.cons ⟨rfl, (inR_c rfl)⟩ .nil) rfl rfl rfl rfl rfl rfl rfl rfl rfl fun a w A84 p85 hA hS hO86 hN88 => pr tb 1 hA rfl fun a hA => ?_
  obtain ⟨Hb89, hSb89, hleb89, hplb89⟩ := hS.freezeT (i := 3) rfl
  have hRb90 := (hO69.mono hle77).rd2 hplb89 hleb89
  obtain ⟨Hb91, hSb91, hleb91, hplb91⟩ := hSb89.freezeT (i := 1) rfl
  have hRb92 := (hO81.mono hleb89).rd2 hplb91 hleb91
  obtain ⟨Hb93, hSb93, hleb93, hplb93⟩ := hSb91.freezeT (i := 0) rfl
  have hRb94 := (hO86.mono (hleb89.trans hleb91)).rd2 hplb93 hleb93
  obtain ⟨r95, hx96, hF⟩ := bind_some hF
  refine o_call1 hA fi18 rfl rfl rfl rfl (c_regs_Give (x0 := (⟨([(4 : Int)] : List Int), ([([(⟨(0 : Int), (3 : Int)⟩ : GTerm)] : List GTerm)] : List (List GTerm)), ([(1 : Int)] : List Int)⟩ : GFlow)) hSb93.imm (hRb90.mono (hleb91.trans hleb93)) (hRb92.mono hleb93) hRb94 hx96) fun a w v109 hres hA => ?_
  obtain ⟨A100, c101, p102, rfl, hS97, hO103, hr105, hr106, hr107, hr108⟩ := hres
  have hS := hS.callL hS97 ((hleb89.trans hleb91).trans hleb93)
  have hO110 := hO103.flat (H' := H77) (fun _ _ _ _ h => h)
  refine pr tb 3 hA rfl fun a hA => o_alloc tb hA hS rfl rfl rfl fun a w g112 p113 hA hS hb114 => o_st tb hA hS hb114 rfl rfl (i := 0) rfl rfl rfl rfl rfl rfl rfl fun w p115 hS hb116 => pr tb 1 hA rfl fun a hA => wpList_nil (tn (wp_seq (wp_region_lit (pr tb 3 hA rfl fun a hA => ?_))))
  rcases ite_some hF with ⟨hc117, hF⟩ | ⟨hc117, hF⟩
  rotate_left
  · have hA := hA.re (d := 15) rfl (congrArg Value.bool (decide_eq_false hc117 : _ = false))
    refine pr tb 10 hA rfl fun a hA => wpList_nil (tn (wp_ret (b_ret hA (rs := [.tmp 0]) rfl (.tmp rfl .nil) ?_)))
    obtain rfl := Option.some.inj hF
    exact ⟨H77, rfl, hS.pick (is := []) rfl (by decide), hX77⟩
  have hA := hA.re (d := 15) rfl (congrArg Value.bool (decide_eq_true hc117 : _ = true))
  refine o_ld tb hA hS hb116 rfl (i := 0) rfl rfl rfl rfl rfl rfl fun a hA => pr tb 4 hA rfl fun a hA => o_bsl (e := eGStep) (xs := ([(⟨(2 : Int), (0 : Int), (4 : Int), (0 : Int)⟩ : GStep), (⟨(1 : Int), (1 : Int), (0 : Int), (0 : Int)⟩ : GStep), (⟨(3 : Int), (1 : Int), (0 : Int), (3 : Int)⟩ : GStep), (⟨(4 : Int), (0 : Int), (1 : Int), (0 : Int)⟩ : GStep)] : List GStep)) tb hA hS rfl rfl rfl (.cons ⟨rfl, (inR_c rfl), (inR_c rfl), (inR_c rfl), (inR_c rfl)⟩ (.cons ⟨rfl, (inR_c rfl), (inR_c rfl), (inR_c rfl), (inR_c rfl)⟩ (.cons ⟨rfl, (inR_c rfl), (inR_c rfl), (inR_c rfl), (inR_c rfl)⟩ (.cons ⟨rfl, (inR_c rfl), (inR_c rfl), (inR_c rfl), (inR_c rfl)⟩ .nil)))) rfl rfl rfl rfl rfl rfl rfl rfl rfl fun a w A118 p119 hA hS hO120 hN122 => ?_
  refine pr tb 1 hA rfl fun a hA => ?_
  obtain ⟨Hb123, hSb123, hleb123, hplb123⟩ := hS.freezeT (i := 2) rfl
  have hRb124 := hO110.rd2 hplb123 hleb123
  obtain ⟨Hb125, hSb125, hleb125, hplb125⟩ := hSb123.freezeT (i := 0) rfl
  have hRb126 := (hO120.mono hleb123).rd2 hplb125 hleb125
  obtain ⟨r127, hx128, hF⟩ := bind_some hF
  refine o_call1 hA fi34 rfl rfl rfl rfl (c_recoupref23_Same (x0 := r95.1) (x1 := (⟨([(⟨(2 : Int), (0 : Int), (4 : Int), (0 : Int)⟩ : GStep), (⟨(1 : Int), (1 : Int), (0 : Int), (0 : Int)⟩ : GStep), (⟨(3 : Int), (1 : Int), (0 : Int), (3 : Int)⟩ : GStep), (⟨(4 : Int), (0 : Int), (1 : Int), (0 : Int)⟩ : GStep)] : List GStep), (2 : Int), (1 : Int), (16 : Int)⟩ : GProgram)) hSb125.imm (hRb124.mono hleb125) hr105 hr106 hr107 hRb126 (inR_c rfl) (inR_c rfl) (inR_c rfl) hx128) fun a w v132 hres hA => ?_
  obtain ⟨rfl, hS129⟩ := hres
  have hS := hS.callL hS129 (hleb123.trans hleb125)
  refine pr tb 2 hA rfl fun a hA => wpList_nil (tn (wp_ret (b_ret hA (rs := [.tmp 0]) rfl (.tmp rfl .nil) ?_)))
  obtain rfl := Option.some.inj hF
  exact ⟨H77, rfl, hS.pick (is := []) rfl (by decide), hX77⟩
theorem c_regs_may {w0 : World} {H : PHeap} (hI : ∀ b o, H b = some o → w0.heap[b]? = some o) {x0 : GProgram} {A0_0 : Option Addr} {c0_0 : Nat} (h0_0 : RdS eGStep H A0_0 c0_0 x0.Steps) (hr0_1 : inR .i64 x0.Regs) (hr0_2 : inR .i64 x0.Outs) (hr0_3 : inR .u64 x0.Reads) {r : Bool} (hF : regs_may x0 = some r) :
    Calls Try.prog 35 [Value.agg #[Value.slice A0_0 (x0.Steps).length c0_0, Value.int .i64 x0.Regs, Value.int .i64 x0.Outs, Value.int .u64 x0.Reads]].toArray w0 (Ret (fun v w => v = Value.bool r ∧ St noX w0 w H [])) := by
  have hS := St.start hI noX
  unfold regs_may at hF
  refine enter fi35.hfn rfl rfl rfl fun a hA => wp_seq (wp_region_lit (o_box hA hS rfl rfl rfl fun a w g10 p11 hA hS hb12 => pr tb 1 hA rfl fun a hA => wpList_nil (tn (wp_seq (wp_region_lit (pr tb 1 hA rfl fun a hA => o_ld tb hA hS hb12 rfl (i := 0) rfl rfl rfl rfl rfl rfl fun a hA => pr tb 2 hA rfl fun a hA => ?_))))))
  rcases ite_some hF with ⟨hc13, hF⟩ | ⟨hc13, hF⟩
  rotate_left
  · have hA := hA.re (d := 6) rfl (congrArg Value.bool (decide_eq_false hc13 : _ = false))
    refine pr tb 21 hA rfl fun a hA => wpList_nil (tn (wp_ret (b_ret hA (rs := [.tmp 2]) rfl (.tmp rfl .nil) ?_)))
    obtain rfl := Option.some.inj hF
    exact ⟨rfl, hS.pick (is := []) rfl (by decide)⟩
  have hA := hA.re (d := 6) rfl (congrArg Value.bool (decide_eq_true hc13 : _ = true))
  refine pr tb 1 hA rfl fun a hA => o_ld tb hA hS hb12 rfl (i := 0) rfl rfl rfl rfl rfl rfl fun a hA => pr tb 3 hA rfl fun a hA => ?_
  rcases ite_some hF with ⟨hc14, hF⟩ | ⟨hc14, hF⟩
  rotate_left
  · have hA := hA.re (d := 11) rfl (congrArg Value.bool (decide_eq_false hc14 : _ = false))
    refine pr tb 16 hA rfl fun a hA => wpList_nil (tn (wp_ret (b_ret hA (rs := [.tmp 2]) rfl (.tmp rfl .nil) ?_)))
    obtain rfl := Option.some.inj hF
    exact ⟨rfl, hS.pick (is := []) rfl (by decide)⟩
  have hA := hA.re (d := 11) rfl (congrArg Value.bool (decide_eq_true hc14 : _ = true))
  refine pr tb 1 hA rfl fun a hA => o_ld tb hA hS hb12 rfl (i := 0) rfl rfl rfl rfl rfl rfl fun a hA => pr tb 3 hA rfl fun a hA => ?_
  rcases ite_some hF with ⟨hc15, hF⟩ | ⟨hc15, hF⟩
  rotate_left
  · have hA := hA.re (d := 16) rfl (congrArg Value.bool (decide_eq_false hc15 : _ = false))
    refine pr tb 11 hA rfl fun a hA => wpList_nil (tn (wp_ret (b_ret hA (rs := [.tmp 2]) rfl (.tmp rfl .nil) ?_)))
    obtain rfl := Option.some.inj hF
    exact ⟨rfl, hS.pick (is := []) rfl (by decide)⟩
  have hA := hA.re (d := 16) rfl (congrArg Value.bool (decide_eq_true hc15 : _ = true))
  refine pr tb 1 hA rfl fun a hA => o_ld tb hA hS hb12 rfl (i := 0) rfl rfl rfl rfl rfl rfl fun a hA => pr tb 3 hA rfl fun a hA => ?_
  rcases ite_some hF with ⟨hc16, hF⟩ | ⟨hc16, hF⟩
  · have hA := hA.re (d := 21) rfl (congrArg Value.bool (decide_eq_true hc16 : _ = true))
    refine pr tb 1 hA rfl fun a hA => o_ld tb hA hS hb12 rfl (i := 0) rfl rfl rfl rfl rfl rfl fun a hA => pr tb 4 hA rfl fun a hA => wpList_nil (tn (wp_ret (b_ret hA (rs := [.tmp 2]) rfl (.tmp rfl .nil) ?_)))
    obtain rfl := Option.some.inj hF
    exact ⟨rfl, hS.pick (is := []) rfl (by decide)⟩
  have hA := hA.re (d := 21) rfl (congrArg Value.bool (decide_eq_false hc16 : _ = false))
  refine pr tb 6 hA rfl fun a hA => wpList_nil (tn (wp_ret (b_ret hA (rs := [.tmp 2]) rfl (.tmp rfl .nil) ?_)))
  obtain rfl := Option.some.inj hF
  exact ⟨rfl, hS.pick (is := []) rfl (by decide)⟩
theorem c_regs_in {w0 : World} {H : PHeap} (hI : ∀ b o, H b = some o → w0.heap[b]? = some o) {x0 : Int} {x1 : List (List Int)} (hr0_0 : inR .i64 x0) {A1_0 : Option Addr} {c1_0 : Nat} (h1_0 : RdS (eSl (eInt .u8 1)) H A1_0 c1_0 x1) {r : Bool} (hF : regs_in x0 x1 = some r) :
    Calls Try.prog 50 [Value.int .i64 x0, Value.slice A1_0 (x1).length c1_0].toArray w0 (Ret (fun v w => v = Value.bool r ∧ St noX w0 w H [])) := by
  have hS := St.start hI noX
  unfold regs_in at hF
  refine enter fi50.hfn rfl rfl rfl fun a hA => wp_seq (wp_region_lit (pr tb 1 hA rfl fun a hA => wpList_nil (tn (wp_seq (wp_region_lit (pr tb 3 hA rfl fun a hA => ?_))))))
  rcases ite_some hF with ⟨hc2, hF⟩ | ⟨hc2, hF⟩
  · have hA := hA.re (d := 7) rfl (congrArg Value.bool (decide_eq_true hc2 : _ = true))
    refine pr tb 6 hA rfl fun a hA => wpList_nil (tn (wp_ret (b_ret hA (rs := [.tmp 4]) rfl (.tmp rfl .nil) ?_)))
    obtain rfl := Option.some.inj hF
    exact ⟨rfl, hS⟩
  have hA := hA.re (d := 7) rfl (congrArg Value.bool (decide_eq_false hc2 : _ = false))
  refine pr tb 6 hA rfl fun a hA => wpList_nil (tn (wp_ret (b_ret hA (rs := [.tmp 4]) rfl (.tmp rfl .nil) ?_)))
  obtain rfl := Option.some.inj hF
  exact ⟨rfl, hS⟩
end Go.RL
