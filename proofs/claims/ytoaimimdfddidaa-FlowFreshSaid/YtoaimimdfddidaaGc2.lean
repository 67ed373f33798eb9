/- Each function of the code, walked: it computes what its mirrored function says (part 2).
   Part of the proof of Rows.FlowFreshSaid of the program 'recoup'. -/
import Derived.Test.YtoaimimdfddidaaGc1
set_option linter.unusedVariables false
set_option linter.unusedSimpArgs false
set_option linter.unusedSectionVars false
namespace Go.RL
open Go.Proofs
set_option maxRecDepth 20000
set_option maxHeartbeats 4000000
theorem c_recoupref21_Same {w0 : World} {H : PHeap} (hI : ∀ b o, H b = some o → w0.heap[b]? = some o) {x0 : GFlow} {x1 : GFlow} {A0_0 : Option Addr} {c0_0 : Nat} (h0_0 : RdS (eInt .i64 8) H A0_0 c0_0 x0.Inputs) {A0_1 : Option Addr} {c0_1 : Nat} (h0_1 : RdS (eSl eGTerm) H A0_1 c0_1 x0.Nodes) {A0_2 : Option Addr} {c0_2 : Nat} (h0_2 : RdS (eInt .i64 8) H A0_2 c0_2 x0.Outs) {A1_0 : Option Addr} {c1_0 : Nat} (h1_0 : RdS (eInt .i64 8) H A1_0 c1_0 x1.Inputs) {A1_1 : Option Addr} {c1_1 : Nat} (h1_1 : RdS (eSl eGTerm) H A1_1 c1_1 x1.Nodes) {A1_2 : Option Addr} {c1_2 : Nat} (h1_2 : RdS (eInt .i64 8) H A1_2 c1_2 x1.Outs) {r : Bool} (hF : recoupref21_Same x0 x1 = some r) :
    Calls Try.prog 15 [Value.agg #[Value.slice A0_0 (x0.Inputs).length c0_0, Value.slice A0_1 (x0.Nodes).length c0_1, Value.slice A0_2 (x0.Outs).length c0_2], Value.agg #[Value.slice A1_0 (x1.Inputs).length c1_0, Value.slice A1_1 (x1.Nodes).length c1_1, Value.slice A1_2 (x1.Outs).length c1_2]].toArray w0 (Ret (fun v w => v = Value.bool r ∧ St noX w0 w H [])) := by
  have hS := St.start hI noX
  unfold recoupref21_Same at hF
  refine enter fi15.hfn rfl rfl rfl fun a hA => wp_seq (wp_region_lit (o_box hA hS rfl rfl rfl fun a w g876 p877 hA hS hb878 => o_box hA hS rfl rfl rfl fun a w g880 p881 hA hS hb882 => pr tb 1 hA rfl fun a hA => wpList_nil (tn (wp_seq (wp_seq (wp_region_lit (pr tb 1 hA rfl fun a hA => o_ld tb hA hS hb878 rfl (i := 1) rfl rfl rfl rfl rfl rfl fun a hA => ?_)))))))
  refine pr tb 1 hA rfl fun a hA => o_ld tb hA hS hb882 rfl (i := 0) rfl rfl rfl rfl rfl rfl fun a hA => ?_
  obtain ⟨r898, hx899, hF⟩ := bind_some hF
  refine o_call1 hA fi28 rfl rfl rfl rfl (c_recoupref11_Ints (x0 := x0.Inputs) (x1 := x1.Inputs) hS.imm h0_0 h1_0 hx899) fun a w v903 hres hA => ?_
  obtain ⟨rfl, hS900⟩ := hres
  have hS := hS.callL hS900 (PHeap.le.refl _)
  refine pr tb 2 hA rfl fun a hA => ?_
  rcases ite_some hF with ⟨hc904, hF⟩ | ⟨hc904, hF⟩
  rotate_left
  · have hA := hA.re (d := 13) rfl (congrArg Value.bool (nt_of (ff_of hc904) : _ = true))
    refine pr tb 16 hA rfl fun a hA => wpList_nil (tn (cT hA rfl rfl (wp_seq (wp_region_lit (pr tb 1 hA rfl fun a hA => wpList_nil (tn (wp_ret (tr (b_ret hA (rs := [.tmp 4]) rfl (.tmp rfl .nil) ?_)))))))))
    obtain rfl := Option.some.inj hF
    exact ⟨rfl, hS.pick (is := []) rfl (by decide)⟩
  have hA := hA.re (d := 13) rfl (congrArg Value.bool (nf_of (hc904) : _ = false))
  refine pr tb 1 hA rfl fun a hA => o_ld tb hA hS hb878 rfl (i := 1) rfl rfl rfl rfl rfl rfl fun a hA => pr tb 1 hA rfl fun a hA => o_ld tb hA hS hb882 rfl (i := 0) rfl rfl rfl rfl rfl rfl fun a hA => ?_
  obtain ⟨r905, hx906, hF⟩ := bind_some hF
  refine o_call1 hA fi28 rfl rfl rfl rfl (c_recoupref11_Ints (x0 := x0.Outs) (x1 := x1.Outs) hS.imm h0_2 h1_2 hx906) fun a w v910 hres hA => ?_
  obtain ⟨rfl, hS907⟩ := hres
  have hS := hS.callL hS907 (PHeap.le.refl _)
  refine pr tb 3 hA rfl fun a hA => ?_
  rcases ite_some hF with ⟨hc911, hF⟩ | ⟨hc911, hF⟩
  rotate_left
  · have hA := hA.re (d := 21) rfl (congrArg Value.bool (nt_of (ff_of hc911) : _ = true))
    refine pr tb 8 hA rfl fun a hA => wpList_nil (tn (cT hA rfl rfl (wp_seq (wp_region_lit (pr tb 1 hA rfl fun a hA => wpList_nil (tn (wp_ret (tr (b_ret hA (rs := [.tmp 4]) rfl (.tmp rfl .nil) ?_)))))))))
    obtain rfl := Option.some.inj hF
    exact ⟨rfl, hS.pick (is := []) rfl (by decide)⟩
  have hA := hA.re (d := 21) rfl (congrArg Value.bool (nf_of (hc911) : _ = false))
  refine pr tb 1 hA rfl fun a hA => o_ld tb hA hS hb878 rfl (i := 1) rfl rfl rfl rfl rfl rfl fun a hA => pr tb 2 hA rfl fun a hA => o_ld tb hA hS hb882 rfl (i := 0) rfl rfl rfl rfl rfl rfl fun a hA => pr tb 3 hA rfl fun a hA => wpList_nil (tn ?_)
  rcases ite_some hF with ⟨hc912, hF⟩ | ⟨hc912, hF⟩
  rotate_left
  · refine cT hA rfl (nt_of (decide_eq_false hc912)) (wp_seq (wp_region_lit (pr tb 1 hA rfl fun a hA => wpList_nil (tn (wp_ret (tr (b_ret hA (rs := [.tmp 4]) rfl (.tmp rfl .nil) ?_)))))))
    obtain rfl := Option.some.inj hF
    exact ⟨rfl, hS.pick (is := []) rfl (by decide)⟩
  refine cF hA rfl (nf_of (decide_eq_true hc912)) (wp_skip (tn (wp_seq (wp_seq (wp_region_lit (pr tb 1 hA rfl fun a hA => wpList_nil (tn ?_)))))))
  obtain ⟨o1330, hx1330, hK1330⟩ := bind_some hF
  refine wp_cut1 (fun a w => ∃ (s1333 : Unit), o1330 = .fall s1333 ∧ Fr (77, []) a [] ∧ St noX w0 w H []) ?_ ?_
  rotate_left
  · rintro a w ⟨s1333, rfl, hA, hS⟩
    have hF := hK1330
    refine tn (wp_seq (wp_region_lit (pr tb 1 hA rfl fun a hA => wpList_nil (tn (wp_ret (b_ret hA (rs := [.tmp 4]) rfl (.tmp rfl .nil) ?_))))))
    obtain rfl := Option.some.inj hF
    exact ⟨rfl, hS⟩
  have hF := hx1330
  refine wp_block ?_
  have hbd1330 : (x0.Nodes).length ≤ 9223372036854775807 := (Nat.le_trans (h0_1.len rfl) (by decide))
  refine wp_for0 (n := (x0.Nodes).length) (s0 := (())) (fun (i1331 : Nat) (s1332 : Unit) a w => Fr (77, []) a [(2, Value.pointer (some ⟨g876, 0, none⟩)), (3, Value.pointer (some ⟨g880, 0, none⟩)), (5, Value.int .i64 (i1331 : Int))] ∧ St noX w0 w H [p881, p877]) hF ⟨hA.sub ⟨rfl, rfl, rfl, trivial⟩, hS⟩ ?_
  rintro After1330 i1331 s1332 a w ⟨hA, hS⟩ hin1330 hst1330 hge1330
  rcases Nat.lt_or_ge i1331 ((x0.Nodes).length) with hlt1330 | hgt1330
  rotate_left
  · have hF := congrArg some (hge1330 hgt1330)
    refine wp_seq (wp_seq (wp_region_lit (pr tb 2 hA rfl fun a hA => o_ld tb hA hS hb878 rfl (i := 1) rfl rfl rfl rfl rfl rfl fun a hA => pr tb 2 hA rfl fun a hA => wpList_nil (tn (cF hA rfl (decide_eq_false (show ¬ ((i1331 : Int) < ((x0.Nodes).length : Int)) by omega)) (wp_exit (te (te (be ?_)))))))))
    refine tn ?_
    obtain rfl := Option.some.inj hF
    exact ⟨(()), rfl, hA.sub trivial, hS.pick (is := []) rfl (by decide)⟩
  obtain ⟨cc1330, hF, hgo1330⟩ := hst1330 hlt1330
  refine wp_seq (wp_seq (wp_region_lit (pr tb 2 hA rfl fun a hA => o_ld tb hA hS hb878 rfl (i := 1) rfl rfl rfl rfl rfl rfl fun a hA => pr tb 2 hA rfl fun a hA => wpList_nil (tn (cT hA rfl (decide_eq_true (show (i1331 : Int) < ((x0.Nodes).length : Int) by omega)) (wp_skip (tn (wp_seq (wp_block ?_)))))))))
  refine wp_seq (wp_seq (rx (fun b w => St noX w0 w H (bif b then [p881, p877] else [p881, p877])) [] (.q true [0, 1, 2, 3, 4, 5, 6, 7, 8, 9, 10, 11, 12] .z) hmix (by decide +kernel) ?_))
  have hS := hS.drew
  refine ⟨(hS.pickO (is := [some 0, some 1]) rfl (by decide)), ?_⟩
  refine qpr tb 1 hA rfl fun a hA => q_ld tb hA hb878 rfl (i := 1) rfl rfl rfl rfl rfl rfl fun a hA => qpr tb 1 hA rfl fun a hA => ?_
  obtain ⟨x1370, hx1371, hF⟩ := bind_some hF
  refine q_idxR tb hA h0_1 hx1371 rfl rfl rfl rfl rfl rfl rfl rfl fun a ad1372 hA hE1373 => q_ldR tb hA hE1373 rfl rfl rfl rfl rfl rfl fun a cs1374 hc1375 hA => ?_
  obtain ⟨A1376, c1377, rfl, hR1378⟩ := hc1375
  refine qpr tb 2 hA rfl fun a hA => q_ld tb hA hb882 rfl (i := 0) rfl rfl rfl rfl rfl rfl fun a hA => qpr tb 1 hA rfl fun a hA => ?_
  obtain ⟨x1379, hx1380, hF⟩ := bind_some hF
  refine q_idxR tb hA h1_1 hx1380 rfl rfl rfl rfl rfl rfl rfl rfl fun a ad1381 hA hE1382 => q_ldR tb hA hE1382 rfl rfl rfl rfl rfl rfl fun a cs1383 hc1384 hA => ?_
  obtain ⟨A1385, c1386, rfl, hR1387⟩ := hc1384
  refine qpr tb 2 hA rfl fun a hA => wpHold_nil (tn ?_)
  rcases ite_some hF with ⟨hc1388, hF⟩ | ⟨hc1388, hF⟩
  rotate_left
  · refine cT hA rfl (nt_of (decide_eq_false hc1388)) (wp_seq (wp_region_lit (pr tb 1 hA rfl fun a hA => wpList_nil (tn (wp_ret (tr (br (tr (tr ?_)))))))))
    obtain rfl := Option.some.inj hF
    have hF := congrArg some hgo1330
    refine br (tr ?_)
    obtain rfl := Option.some.inj hF
    have hF := hK1330
    refine tr (b_ret hA (rs := [.tmp 4]) rfl (.tmp rfl .nil) ?_)
    obtain rfl := Option.some.inj hF
    exact ⟨rfl, hS.pick (is := []) rfl (by decide)⟩
  refine cF hA rfl (nf_of (decide_eq_true hc1388)) (wp_skip (tn (wp_seq (wp_region_lit (pr tb 1 hA rfl fun a hA => wpList_nil (tn ?_))))))
  obtain ⟨o1631, hx1631, hK1631⟩ := bind_some hF
  refine wp_cut1 (fun a w => ∃ (s1634 : Unit), o1631 = .fall s1634 ∧ Fr (77, []) a [(2, Value.pointer (some ⟨g876, 0, none⟩)), (3, Value.pointer (some ⟨g880, 0, none⟩)), (5, Value.int .i64 (i1331 : Int))] ∧ St noX w0 w H [p881, p877]) ?_ ?_
  rotate_left
  · rintro a w ⟨s1634, rfl, hA, hS⟩
    have hF := hK1631
    refine bn (tn (wp_region_lit (pr tb 3 hA rfl fun a hA => wpList_nil (tn ?_))))
    obtain rfl := Option.some.inj hF
    have hA := hA.re (d := 5) rfl (congrArg (Value.int .i64) (w64_succ hlt1330 hbd1330))
    exact ⟨(()), ⟨hA.sub ⟨rfl, rfl, rfl, trivial⟩, hS⟩, hlt1330, hgo1330⟩
  have hF := hx1631
  refine wp_block (wp_iter (s0 := ((0 : Int))) (fun (s1633 : Int) a w => Fr (77, []) a [(2, Value.pointer (some ⟨g876, 0, none⟩)), (3, Value.pointer (some ⟨g880, 0, none⟩)), (5, Value.int .i64 (i1331 : Int)), (6, Value.int .i64 s1633)] ∧ St noX w0 w H [p881, p877] ∧ inR .i64 s1633) hF ⟨hA.sub ⟨rfl, rfl, rfl, rfl, trivial⟩, hS, (inR_c rfl)⟩ ?_)
  rintro After1631 s1633 a w ⟨hA, hS, hr1635⟩ ⟨cc1631, hF, hgo1631⟩
  refine wp_seq (wp_seq (wp_region_lit (pr tb 2 hA rfl fun a hA => o_ld tb hA hS hb878 rfl (i := 1) rfl rfl rfl rfl rfl rfl fun a hA => pr tb 1 hA rfl fun a hA => ?_)))
  obtain ⟨x1636, hx1637, hF⟩ := bind_some hF
  refine o_idxR tb hA h0_1 hx1637 rfl rfl rfl rfl rfl rfl rfl rfl fun a ad1638 hA hE1639 => o_ldR tb hA hS hE1639 rfl rfl rfl rfl rfl rfl fun a cs1640 hc1641 hA => ?_
  obtain ⟨A1642, c1643, rfl, hR1644⟩ := hc1641
  refine pr tb 2 hA rfl fun a hA => wpList_nil (tn ?_)
  rcases ite_some hF with ⟨hc1645, hF⟩ | ⟨hc1645, hF⟩
  rotate_left
  · refine cF hA rfl (decide_eq_false hc1645) (wp_exit (te (te ?_)))
    obtain rfl := Option.some.inj hF
    have hF := congrArg some hgo1631
    refine be (tn ?_)
    obtain rfl := Option.some.inj hF
    exact ⟨(()), rfl, hA.sub ⟨rfl, rfl, rfl, trivial⟩, hS⟩
  refine cT hA rfl (decide_eq_true hc1645) (wp_skip (tn (wp_seq (wp_block (wp_seq (rx (fun b w => St noX w0 w H (bif b then [p881, p877] else [p881, p877])) [] (.q true [0, 1, 2, 3, 4, 5, 6, 7, 8, 9, 10, 11, 12, 13, 14, 15, 16] .z) hmix (by decide +kernel) ?_))))))
  have hS := hS.drew
  refine ⟨(hS.pickO (is := [some 0, some 1]) rfl (by decide)), ?_⟩
  refine qpr tb 1 hA rfl fun a hA => q_ld tb hA hb878 rfl (i := 1) rfl rfl rfl rfl rfl rfl fun a hA => qpr tb 1 hA rfl fun a hA => ?_
  obtain ⟨x1714, hx1715, hF⟩ := bind_some hF
  refine q_idxR tb hA h0_1 hx1715 rfl rfl rfl rfl rfl rfl rfl rfl fun a ad1716 hA hE1717 => q_ldR tb hA hE1717 rfl rfl rfl rfl rfl rfl fun a cs1718 hc1719 hA => ?_
  obtain ⟨A1720, c1721, rfl, hR1722⟩ := hc1719
  refine qpr tb 1 hA rfl fun a hA => ?_
  obtain ⟨x1723, hx1724, hF⟩ := bind_some hF
  refine q_idxR tb hA hR1722 hx1724 rfl rfl rfl rfl rfl rfl rfl rfl fun a ad1725 hA hE1726 => q_ldR tb hA hE1726 rfl rfl rfl rfl rfl rfl fun a cs1727 hc1728 hA => ?_
  obtain ⟨rfl, hr1729, hr1730⟩ := hc1728
  refine qpr tb 1 hA rfl fun a hA => q_ld tb hA hb882 rfl (i := 0) rfl rfl rfl rfl rfl rfl fun a hA => qpr tb 1 hA rfl fun a hA => ?_
  obtain ⟨x1731, hx1732, hF⟩ := bind_some hF
  refine q_idxR tb hA h1_1 hx1732 rfl rfl rfl rfl rfl rfl rfl rfl fun a ad1733 hA hE1734 => q_ldR tb hA hE1734 rfl rfl rfl rfl rfl rfl fun a cs1735 hc1736 hA => ?_
  obtain ⟨A1737, c1738, rfl, hR1739⟩ := hc1736
  refine qpr tb 1 hA rfl fun a hA => ?_
  obtain ⟨x1740, hx1741, hF⟩ := bind_some hF
  refine q_idxR tb hA hR1739 hx1741 rfl rfl rfl rfl rfl rfl rfl rfl fun a ad1742 hA hE1743 => q_ldR tb hA hE1743 rfl rfl rfl rfl rfl rfl fun a cs1744 hc1745 hA => ?_
  obtain ⟨rfl, hr1746, hr1747⟩ := hc1745
  refine q_eqS (neg := true) tb hA se41 rfl rfl rfl rfl rfl fun a hA => wpHold_nil (tn ?_)
  rcases ite_some hF with ⟨hc1748, hF⟩ | ⟨hc1748, hF⟩
  · refine cF hA rfl (nf_of (hc1748)) (wp_skip (bn (tn (wp_region_lit (pr tb 3 hA rfl fun a hA => wpList_nil (tn ?_))))))
    obtain rfl := Option.some.inj hF
    exact ⟨(w64 (s1633 + 1)), ⟨hA.sub ⟨rfl, rfl, rfl, rfl, trivial⟩, hS, (inR_wrap _ _)⟩, hgo1631⟩
  refine cT hA rfl (nt_of (ff_of hc1748)) (wp_seq (wp_region_lit (pr tb 1 hA rfl fun a hA => wpList_nil (tn (wp_ret (br (tr (tr ?_))))))))
  obtain rfl := Option.some.inj hF
  have hF := congrArg some hgo1631
  refine br (tr ?_)
  obtain rfl := Option.some.inj hF
  have hF := hK1631
  refine br (tr (tr ?_))
  obtain rfl := Option.some.inj hF
  have hF := congrArg some hgo1330
  refine br (tr ?_)
  obtain rfl := Option.some.inj hF
  have hF := hK1330
  refine tr (b_ret hA (rs := [.tmp 4]) rfl (.tmp rfl .nil) ?_)
  obtain rfl := Option.some.inj hF
  exact ⟨rfl, hS.pick (is := []) rfl (by decide)⟩
theorem c_recouplaw21_anchored {w0 : World} {H : PHeap} (hI : ∀ b o, H b = some o → w0.heap[b]? = some o)   {r : Bool} (hF : recouplaw21_anchored = some r) :
    Calls Try.prog 14 [].toArray w0 (Ret (fun v w => ∃ (H' : PHeap), v = Value.bool r ∧ St noX w0 w H' [] ∧ Ext w0 H H')) := by
  have hS := St.start hI noX
  unfold recouplaw21_anchored at hF
  refine enter fi14.hfn rfl rfl rfl fun a hA => wp_seq (wp_region_lit (pr tb 1 hA rfl fun a hA => wpList_nil (tn (wp_seq (wp_region_lit (o_bsl (e := (eInt .u8 1)) (xs := ([(0 : Int), (3 : Int)] : List Int)) tb hA hS rfl rfl rfl (.cons ⟨rfl, (inR_c rfl)⟩ (.cons ⟨rfl, (inR_c rfl)⟩ .nil)) rfl rfl rfl rfl rfl rfl rfl rfl rfl fun a w A93 p94 hA hS hO95 hN97 => pr tb 1 hA rfl fun a hA => ?_))))))
  obtain ⟨Hb98, hSb98, hleb98, hplb98⟩ := hS.freezeT (i := 0) rfl
  have hRb99 := hO95.rd2 hplb98 hleb98
  obtain ⟨r100, hx101, hF⟩ := bind_some hF
  refine o_call1 hA fi9 rfl rfl rfl rfl (c_flow_Of (x0 := (⟨(1 : Int), (2 : Int), ([(0 : Int), (3 : Int)] : List Int)⟩ : GMatrix)) hSb98.imm (inR_c rfl) (inR_c rfl) hRb99 hx101) fun a w v121 hres hA => ?_
  obtain ⟨A105, c106, p107, A110, c111, p112, A115, c116, p117, rfl, hS102, hO108, hO113, hO118, hr120⟩ := hres
  have hS := hS.callL hS102 hleb98
  have hO122 := hO108.flat (H' := H) (fun _ _ _ _ h => h)
  have hO123 := hO113.flat (H' := H) (fun _ _ _ _ h => h)
  have hO124 := hO118.flat (H' := H) (fun _ _ _ _ h => h)
  refine pr tb 3 hA rfl fun a hA => o_alloc tb hA hS rfl rfl rfl fun a w g126 p127 hA hS hb128 => o_st tb hA hS hb128 rfl rfl (i := 0) rfl rfl rfl rfl rfl rfl rfl fun w p129 hS hb130 => pr tb 1 hA rfl fun a hA => wpList_nil (tn (wp_seq (wp_region_lit (pr tb 3 hA rfl fun a hA => ?_))))
  rcases ite_some hF with ⟨hc131, hF⟩ | ⟨hc131, hF⟩
  rotate_left
  · have hA := hA.re (d := 11) rfl (congrArg Value.bool (decide_eq_false hc131 : _ = false))
    refine pr tb 14 hA rfl fun a hA => wpList_nil (tn (wp_ret (b_ret hA (rs := [.tmp 0]) rfl (.tmp rfl .nil) ?_)))
    obtain rfl := Option.some.inj hF
    exact ⟨H, rfl, hS.pick (is := []) rfl (by decide), (Ext.refl w0 H)⟩
  have hA := hA.re (d := 11) rfl (congrArg Value.bool (decide_eq_true hc131 : _ = true))
  refine o_ld tb hA hS hb130 rfl (i := 0) rfl rfl rfl rfl rfl rfl fun a hA => o_bsl (e := (eInt .i64 8)) (xs := ([(1 : Int)] : List Int)) tb hA hS rfl rfl rfl (.cons ⟨rfl, (inR_c rfl)⟩ .nil) rfl rfl rfl rfl rfl rfl rfl rfl rfl fun a w A132 p133 hA hS hO134 hN136 => pr tb 1 hA rfl fun a hA => o_bsl (e := eGTerm) (xs := ([(⟨(0 : Int), (3 : Int)⟩ : GTerm)] : List GTerm)) tb hA hS rfl rfl rfl (.cons ⟨rfl, (inR_c rfl), (inR_c rfl)⟩ .nil) rfl rfl rfl rfl rfl rfl rfl rfl rfl fun a w A137 p138 hA hS hO139 hN141 => ?_
  obtain ⟨H142, hS, hle142, hX142, hpl142⟩ := hS.freezeG (i := 0) rfl
  have hR142 := hO139.rd2 hpl142 hle142
  have hX142 := (Ext.refl w0 H).trans hX142
  refine o_bsl (e := (eSl eGTerm)) (xs := ([([(⟨(0 : Int), (3 : Int)⟩ : GTerm)] : List GTerm)] : List (List GTerm))) tb hA hS rfl rfl rfl (.cons ⟨_, _, rfl, hR142⟩ .nil) rfl rfl rfl rfl rfl rfl rfl rfl rfl fun a w A144 p145 hA hS hO146 hN148 => o_bsl (e := (eInt .i64 8)) (xs := ([(1 : Int)] : List Int)) tb hA hS rfl rfl rfl (.cons ⟨rfl, (inR_c rfl)⟩ .nil) rfl rfl rfl rfl rfl rfl rfl rfl rfl fun a w A149 p150 hA hS hO151 hN153 => pr tb 1 hA rfl fun a hA => ?_
  obtain ⟨Hb154, hSb154, hleb154, hplb154⟩ := hS.freezeT (i := 5) rfl
  have hRb155 := (hO122.mono hle142).rd2 hplb154 hleb154
  obtain ⟨Hb156, hSb156, hleb156, hplb156⟩ := hSb154.freezeT (i := 6) rfl
  have hRb157 : RdS (eSl eGTerm) Hb156 A110 c111 r100.1.Nodes := (hO123.mono (hle142.trans hleb154)).rd2 hplb156 hleb156
  obtain ⟨Hb158, hSb158, hleb158, hplb158⟩ := hSb156.freezeT (i := 7) rfl
  have hRb159 := (hO124.mono ((hle142.trans hleb154).trans hleb156)).rd2 hplb158 hleb158
  obtain ⟨Hb160, hSb160, hleb160, hplb160⟩ := hSb158.freezeT (i := 3) rfl
  have hRb161 := (hO134.mono (((hle142.trans hleb154).trans hleb156).trans hleb158)).rd2 hplb160 hleb160
  obtain ⟨Hb162, hSb162, hleb162, hplb162⟩ := hSb160.freezeT (i := 1) rfl
  have hRb163 := (hO146.mono (((hleb154.trans hleb156).trans hleb158).trans hleb160)).rd2 hplb162 hleb162
  obtain ⟨Hb164, hSb164, hleb164, hplb164⟩ := hSb162.freezeT (i := 0) rfl
  have hRb165 := (hO151.mono ((((hleb154.trans hleb156).trans hleb158).trans hleb160).trans hleb162)).rd2 hplb164 hleb164
  obtain ⟨r166, hx167, hF⟩ := bind_some hF
  refine o_call1 hA fi15 rfl rfl rfl rfl (c_recoupref21_Same (x0 := r100.1) (x1 := (⟨([(1 : Int)] : List Int), ([([(⟨(0 : Int), (3 : Int)⟩ : GTerm)] : List GTerm)] : List (List GTerm)), ([(1 : Int)] : List Int)⟩ : GFlow)) hSb164.imm (hRb155.mono ((((hleb156.trans hleb158).trans hleb160).trans hleb162).trans hleb164)) (hRb157.mono (((hleb158.trans hleb160).trans hleb162).trans hleb164)) (hRb159.mono ((hleb160.trans hleb162).trans hleb164)) (hRb161.mono (hleb162.trans hleb164)) (hRb163.mono hleb164) hRb165 hx167) fun a w v171 hres hA => ?_
  obtain ⟨rfl, hS168⟩ := hres
  have hS := hS.callL hS168 (((((hleb154.trans hleb156).trans hleb158).trans hleb160).trans hleb162).trans hleb164)
  refine pr tb 2 hA rfl fun a hA => ?_
  rcases ite_some hF with ⟨hc172, hF⟩ | ⟨hc172, hF⟩
  rotate_left
  · have hA := hA.re (d := 21) rfl (congrArg Value.bool (ff_of hc172 : _ = false))
    refine pr tb 4 hA rfl fun a hA => wpList_nil (tn (wp_ret (b_ret hA (rs := [.tmp 0]) rfl (.tmp rfl .nil) ?_)))
    obtain rfl := Option.some.inj hF
    exact ⟨H142, rfl, hS.pick (is := []) rfl (by decide), hX142⟩
  have hA := hA.re (d := 21) rfl (congrArg Value.bool (hc172 : _ = true))
  refine o_ld tb hA hS hb130 rfl (i := 4) rfl rfl rfl rfl rfl rfl fun a hA => ?_
  obtain ⟨Hb173, hSb173, hleb173, hplb173⟩ := hS.freezeT (i := 5) rfl
  have hRb174 := (hO122.mono hle142).rd2 hplb173 hleb173
  obtain ⟨Hb175, hSb175, hleb175, hplb175⟩ := hSb173.freezeT (i := 6) rfl
  have hRb176 : RdS (eSl eGTerm) Hb175 A110 c111 r100.1.Nodes := (hO123.mono (hle142.trans hleb173)).rd2 hplb175 hleb175
  obtain ⟨Hb177, hSb177, hleb177, hplb177⟩ := hSb175.freezeT (i := 7) rfl
  have hRb178 := (hO124.mono ((hle142.trans hleb173).trans hleb175)).rd2 hplb177 hleb177
  obtain ⟨r179, hx180, hF⟩ := bind_some hF
  refine o_call1 hA fi23 rfl rfl rfl rfl (c_flow_May (x0 := r100.1) hSb177.imm (hRb174.mono (hleb175.trans hleb177)) (hRb176.mono hleb177) hRb178 hx180) fun a w v184 hres hA => ?_
  obtain ⟨rfl, hS181⟩ := hres
  have hS := hS.callL hS181 ((hleb173.trans hleb175).trans hleb177)
  refine pr tb 2 hA rfl fun a hA => wpList_nil (tn (wp_ret (b_ret hA (rs := [.tmp 0]) rfl (.tmp rfl .nil) ?_)))
  obtain rfl := Option.some.inj hF
  exact ⟨H142, rfl, hS.pick (is := []) rfl (by decide), hX142⟩
theorem c_recoupref21_Blocks {w0 : World} {H : PHeap} (hI : ∀ b o, H b = some o → w0.heap[b]? = some o) {x0 : List (List Int)} {x1 : List (List Int)} {A0_0 : Option Addr} {c0_0 : Nat} (h0_0 : RdS (eSl (eInt .u8 1)) H A0_0 c0_0 x0) {A1_0 : Option Addr} {c1_0 : Nat} (h1_0 : RdS (eSl (eInt .u8 1)) H A1_0 c1_0 x1) {r : Bool} (hF : recoupref21_Blocks x0 x1 = some r) :
    Calls Try.prog 16 [Value.slice A0_0 (x0).length c0_0, Value.slice A1_0 (x1).length c1_0].toArray w0 (Ret (fun v w => v = Value.bool r ∧ St noX w0 w H [])) := by
  have hS := St.start hI noX
  unfold recoupref21_Blocks at hF
  refine enter fi16.hfn rfl rfl rfl fun a hA => wp_seq (wp_region_lit (pr tb 1 hA rfl fun a hA => wpList_nil (tn (wp_seq (wp_seq (wp_region_lit (pr tb 5 hA rfl fun a hA => wpList_nil (tn ?_))))))))
  rcases ite_some hF with ⟨hc154, hF⟩ | ⟨hc154, hF⟩
  rotate_left
  · refine cT hA rfl (nt_of (decide_eq_false hc154)) (wp_seq (wp_region_lit (pr tb 1 hA rfl fun a hA => wpList_nil (tn (wp_ret (tr (b_ret hA (rs := [.tmp 4]) rfl (.tmp rfl .nil) ?_)))))))
    obtain rfl := Option.some.inj hF
    exact ⟨rfl, hS⟩
  refine cF hA rfl (nf_of (decide_eq_true hc154)) (wp_skip (tn (wp_seq (wp_seq (wp_region_lit (pr tb 1 hA rfl fun a hA => wpList_nil (tn ?_)))))))
  obtain ⟨o230, hx230, hK230⟩ := bind_some hF
  refine wp_cut1 (fun a w => ∃ (s233 : Unit), o230 = .fall s233 ∧ Fr (27, []) a [] ∧ St noX w0 w H []) ?_ ?_
  rotate_left
  · rintro a w ⟨s233, rfl, hA, hS⟩
    have hF := hK230
    refine tn (wp_seq (wp_region_lit (pr tb 1 hA rfl fun a hA => wpList_nil (tn (wp_ret (b_ret hA (rs := [.tmp 4]) rfl (.tmp rfl .nil) ?_))))))
    obtain rfl := Option.some.inj hF
    exact ⟨rfl, hS⟩
  have hF := hx230
  refine wp_block ?_
  have hbd230 : (x0).length ≤ 9223372036854775807 := (Nat.le_trans (h0_0.len rfl) (by decide))
  refine wp_for0 (n := (x0).length) (s0 := (())) (fun (i231 : Nat) (s232 : Unit) a w => Fr (27, []) a [(0, Value.slice A0_0 (x0).length c0_0), (1, Value.slice A1_0 (x1).length c1_0), (5, Value.int .i64 (i231 : Int))] ∧ St noX w0 w H []) hF ⟨hA.sub ⟨rfl, rfl, rfl, trivial⟩, hS⟩ ?_
  rintro After230 i231 s232 a w ⟨hA, hS⟩ hin230 hst230 hge230
  rcases Nat.lt_or_ge i231 ((x0).length) with hlt230 | hgt230
  rotate_left
  · have hF := congrArg some (hge230 hgt230)
    refine wp_seq (wp_seq (wp_region_lit (pr tb 4 hA rfl fun a hA => wpList_nil (tn (cF hA rfl (decide_eq_false (show ¬ ((i231 : Int) < ((x0).length : Int)) by omega)) (wp_exit (te (te (be (tn ?_))))))))))
    obtain rfl := Option.some.inj hF
    exact ⟨(()), rfl, hA.sub trivial, hS⟩
  obtain ⟨cc230, hF, hgo230⟩ := hst230 hlt230
  refine wp_seq (wp_seq (wp_region_lit (pr tb 4 hA rfl fun a hA => wpList_nil (tn (cT hA rfl (decide_eq_true (show (i231 : Int) < ((x0).length : Int) by omega)) (wp_skip (tn (wp_seq (wp_block (wp_seq (rx (fun b w => St noX w0 w H (bif b then [] else [])) [] (.q true [0, 1, 2, 3, 4, 5, 6, 7] (.e 8 (.q true [9] .z))) hmix (by decide +kernel) ?_)))))))))))
  have hS := hS.drew
  refine ⟨(hS.pickO (is := []) rfl (by decide)), ?_⟩
  refine qpr tb 2 hA rfl fun a hA => ?_
  obtain ⟨x282, hx283, hF⟩ := bind_some hF
  refine q_idxR tb hA h0_0 hx283 rfl rfl rfl rfl rfl rfl rfl rfl fun a ad284 hA hE285 => q_ldR tb hA hE285 rfl rfl rfl rfl rfl rfl fun a cs286 hc287 hA => ?_
  obtain ⟨A288, c289, rfl, hR290⟩ := hc287
  refine qpr tb 2 hA rfl fun a hA => ?_
  obtain ⟨x291, hx292, hF⟩ := bind_some hF
  refine q_idxR tb hA h1_0 hx292 rfl rfl rfl rfl rfl rfl rfl rfl fun a ad293 hA hE294 => q_ldR tb hA hE294 rfl rfl rfl rfl rfl rfl fun a cs295 hc296 hA => ?_
  obtain ⟨A297, c298, rfl, hR299⟩ := hc296
  refine wpHold_nil ?_
  obtain ⟨r300, hx301, hF⟩ := bind_some hF
  refine o_call1 hA fi12 rfl rfl rfl rfl (c_recoupref01_Same (x0 := x282) (x1 := x291) hS.imm hR290 hR299 hx301) fun a w v305 hres hA => ?_
  obtain ⟨rfl, hS302⟩ := hres
  have hS := hS.callL hS302 (PHeap.le.refl _)
  refine wpList_nil (tn (⟨⟨fun _ => (hS.pickO (is := []) rfl (by decide)), fun _ _ => (hS.pickO (is := []) rfl (by decide))⟩, ?_⟩))
  refine ⟨(hS.pickO (is := []) rfl (by decide)), ?_⟩
  refine qpr tb 1 hA rfl fun a hA => wpHold_nil (tn ?_)
  rcases ite_some hF with ⟨hc306, hF⟩ | ⟨hc306, hF⟩
  · refine cF hA rfl (nf_of (hc306)) (wp_skip (bn (tn (wp_region_lit (pr tb 3 hA rfl fun a hA => wpList_nil (tn ?_))))))
    obtain rfl := Option.some.inj hF
    have hA := hA.re (d := 5) rfl (congrArg (Value.int .i64) (w64_succ hlt230 hbd230))
    exact ⟨(()), ⟨hA.sub ⟨rfl, rfl, rfl, trivial⟩, hS⟩, hlt230, hgo230⟩
  refine cT hA rfl (nt_of (ff_of hc306)) (wp_seq (wp_region_lit (pr tb 1 hA rfl fun a hA => wpList_nil (tn (wp_ret (br (tr (tr ?_))))))))
  obtain rfl := Option.some.inj hF
  have hF := congrArg some hgo230
  refine br (tr ?_)
  obtain rfl := Option.some.inj hF
  have hF := hK230
  refine tr (b_ret hA (rs := [.tmp 4]) rfl (.tmp rfl .nil) ?_)
  obtain rfl := Option.some.inj hF
  exact ⟨rfl, hS⟩
theorem c_recoupref03_Like {w0 : World} {H : PHeap} (hI : ∀ b o, H b = some o → w0.heap[b]? = some o) {x0 : GMatrix} {x1 : GMatrix} (hr0_0 : inR .i64 x0.Rows) (hr0_1 : inR .i64 x0.Cols) {A0_2 : Option Addr} {c0_2 : Nat} (h0_2 : RdS (eInt .u8 1) H A0_2 c0_2 x0.Data) (hr1_0 : inR .i64 x1.Rows) (hr1_1 : inR .i64 x1.Cols) {A1_2 : Option Addr} {c1_2 : Nat} (h1_2 : RdS (eInt .u8 1) H A1_2 c1_2 x1.Data) {r : Bool} (hF : recoupref03_Like x0 x1 = some r) :
    Calls Try.prog 17 [Value.agg #[Value.int .i64 x0.Rows, Value.int .i64 x0.Cols, Value.slice A0_2 (x0.Data).length c0_2], Value.agg #[Value.int .i64 x1.Rows, Value.int .i64 x1.Cols, Value.slice A1_2 (x1.Data).length c1_2]].toArray w0 (Ret (fun v w => v = Value.bool r ∧ St noX w0 w H [])) := by
  have hS := St.start hI noX
  unfold recoupref03_Like at hF
  refine enter fi17.hfn rfl rfl rfl fun a hA => wp_seq (wp_region_lit (o_box hA hS rfl rfl rfl fun a w g18 p19 hA hS hb20 => o_box hA hS rfl rfl rfl fun a w g22 p23 hA hS hb24 => pr tb 1 hA rfl fun a hA => wpList_nil (tn (wp_seq (wp_region_lit (pr tb 1 hA rfl fun a hA => o_ld tb hA hS hb20 rfl (i := 1) rfl rfl rfl rfl rfl rfl fun a hA => pr tb 1 hA rfl fun a hA => ?_))))))
  refine o_ld tb hA hS hb24 rfl (i := 0) rfl rfl rfl rfl rfl rfl fun a hA => pr tb 2 hA rfl fun a hA => ?_
  rcases ite_some hF with ⟨hc25, hF⟩ | ⟨hc25, hF⟩
  rotate_left
  · have hA := hA.re (d := 10) rfl (congrArg Value.bool (decide_eq_false hc25 : _ = false))
    refine pr tb 14 hA rfl fun a hA => wpList_nil (tn (wp_ret (b_ret hA (rs := [.tmp 4]) rfl (.tmp rfl .nil) ?_)))
    obtain rfl := Option.some.inj hF
    exact ⟨rfl, hS.pick (is := []) rfl (by decide)⟩
  have hA := hA.re (d := 10) rfl (congrArg Value.bool (decide_eq_true hc25 : _ = true))
  refine pr tb 1 hA rfl fun a hA => o_ld tb hA hS hb20 rfl (i := 1) rfl rfl rfl rfl rfl rfl fun a hA => pr tb 1 hA rfl fun a hA => o_ld tb hA hS hb24 rfl (i := 0) rfl rfl rfl rfl rfl rfl fun a hA => pr tb 3 hA rfl fun a hA => ?_
  rcases ite_some hF with ⟨hc26, hF⟩ | ⟨hc26, hF⟩
  rotate_left
  · have hA := hA.re (d := 17) rfl (congrArg Value.bool (decide_eq_false hc26 : _ = false))
    refine pr tb 7 hA rfl fun a hA => wpList_nil (tn (wp_ret (b_ret hA (rs := [.tmp 4]) rfl (.tmp rfl .nil) ?_)))
    obtain rfl := Option.some.inj hF
    exact ⟨rfl, hS.pick (is := []) rfl (by decide)⟩
  have hA := hA.re (d := 17) rfl (congrArg Value.bool (decide_eq_true hc26 : _ = true))
  refine pr tb 1 hA rfl fun a hA => o_ld tb hA hS hb20 rfl (i := 1) rfl rfl rfl rfl rfl rfl fun a hA => pr tb 1 hA rfl fun a hA => o_ld tb hA hS hb24 rfl (i := 0) rfl rfl rfl rfl rfl rfl fun a hA => ?_
  obtain ⟨r27, hx28, hF⟩ := bind_some hF
  refine o_call1 hA fi12 rfl rfl rfl rfl (c_recoupref01_Same (x0 := x0.Data) (x1 := x1.Data) hS.imm h0_2 h1_2 hx28) fun a w v32 hres hA => ?_
  obtain ⟨rfl, hS29⟩ := hres
  have hS := hS.callL hS29 (PHeap.le.refl _)
  refine pr tb 2 hA rfl fun a hA => wpList_nil (tn (wp_ret (b_ret hA (rs := [.tmp 4]) rfl (.tmp rfl .nil) ?_)))
  obtain rfl := Option.some.inj hF
  exact ⟨rfl, hS.pick (is := []) rfl (by decide)⟩
theorem c_recouplaw21_FlowFresh {w0 : World} {H : PHeap} (hI : ∀ b o, H b = some o → w0.heap[b]? = some o) {x0 : GFlow} {x1 : List (List Int)} {x2 : GMatrix} {A0_0 : Option Addr} {c0_0 : Nat} (h0_0 : RdS (eInt .i64 8) H A0_0 c0_0 x0.Inputs) {A0_1 : Option Addr} {c0_1 : Nat} (h0_1 : RdS (eSl eGTerm) H A0_1 c0_1 x0.Nodes) {A0_2 : Option Addr} {c0_2 : Nat} (h0_2 : RdS (eInt .i64 8) H A0_2 c0_2 x0.Outs) {A1_0 : Option Addr} {c1_0 : Nat} (h1_0 : RdS (eSl (eInt .u8 1)) H A1_0 c1_0 x1) (hr2_0 : inR .i64 x2.Rows) (hr2_1 : inR .i64 x2.Cols) {A2_2 : Option Addr} {c2_2 : Nat} (h2_2 : RdS (eInt .u8 1) H A2_2 c2_2 x2.Data) (hF : recouplaw21_FlowFresh x0 x1 x2) :
    Calls Try.prog 3 [Value.agg #[Value.slice A0_0 (x0.Inputs).length c0_0, Value.slice A0_1 (x0.Nodes).length c0_1, Value.slice A0_2 (x0.Outs).length c0_2], Value.slice A1_0 (x1).length c1_0, Value.agg #[Value.int .i64 x2.Rows, Value.int .i64 x2.Cols, Value.slice A2_2 (x2.Data).length c2_2]].toArray w0 (Ret (fun v w => v = Value.bool true ∧ St noX w0 w H [])) := by
  have hS := St.start hI noX
  unfold recouplaw21_FlowFresh at hF
  refine enter fi3.hfn rfl rfl rfl fun a hA => wp_seq (wp_region_lit (o_box hA hS rfl rfl rfl fun a w g7770 p7771 hA hS hb7772 => o_box hA hS rfl rfl rfl fun a w g7774 p7775 hA hS hb7776 => pr tb 1 hA rfl fun a hA => wpList_nil (tn ?_)))
  obtain ⟨K9751, hF, hK9751⟩ := hF
  refine wp_cut (fun a w => ∃ (s9752 : List Int × List (List GTerm) × List Int × List (List Int) × Int × Int × List Int), K9751 s9752 ∧ ∃ (g9754 : Nat) (p9755 : Piece) (A9757 : Option Addr) (c9758 : Nat) (p9759 : Piece) (A9762 : Option Addr) (c9763 : Nat) (p9764 : Piece) (A9767 : Option Addr) (c9768 : Nat) (p9769 : Piece) (A9772 : Option Addr) (c9773 : Nat) (p9774 : Piece) (g9778 : Nat) (p9779 : Piece) (A9783 : Option Addr) (c9784 : Nat) (p9785 : Piece), Fr (180, []) a [(1, Value.slice A1_0 (x1).length c1_0), (3, Value.pointer (some ⟨g7770, 0, none⟩)), (5, Value.pointer (some ⟨g7774, 0, none⟩)), (6, Value.bool false), (7, Value.pointer (some ⟨g9754, 0, none⟩)), (8, Value.slice A9772 (s9752.2.2.2.1).length c9773), (9, Value.pointer (some ⟨g9778, 0, none⟩))] ∧ St noX w0 w H [p9759, p9764, p9769, p9755, p9774, p9785, p9779, p7775, p7771] ∧ OwnS (eInt .i64 8) 3 H A9757 c9758 (s9752.1) p9759 ∧ OwnD (roP eGTerm 41) 39 H A9762 c9763 (s9752.2.1) p9764 ∧ OwnS (eInt .i64 8) 3 H A9767 c9768 (s9752.2.2.1) p9769 ∧ Bx p9755 g9754 25 [Value.slice A9757 (s9752.1).length c9758, Value.slice A9762 (s9752.2.1).length c9763, Value.slice A9767 (s9752.2.2.1).length c9768] ∧ OwnD (roP (eInt .u8 1) 5) 27 H A9772 c9773 (s9752.2.2.2.1) p9774 ∧ inR .i64 s9752.2.2.2.2.1 ∧ inR .i64 s9752.2.2.2.2.2.1 ∧ OwnS (eInt .u8 1) 5 H A9783 c9784 (s9752.2.2.2.2.2.2) p9785 ∧ Bx p9779 g9778 29 [Value.int .i64 s9752.2.2.2.2.1, Value.int .i64 s9752.2.2.2.2.2.1, Value.slice A9783 (s9752.2.2.2.2.2.2).length c9784]) ?_ ?_
  · refine rx (fun b w => St noX w0 w H (bif b then [p7775, p7771] else [p7775, p7771])) [8, 10] (.q true [0] (.q false [2, 4] (.alt 1 (.alt 3 (.alt 5 (.alt 6 (.e 7 (.e 8 (.q false [9] (.e 10 .z)))) (.e 7 (.e 6 (.e 8 (.q false [9] (.e 10 .z)))))) (.alt 6 (.alt 5 (.e 7 (.e 8 (.q false [9] (.e 10 .z)))) (.e 7 (.e 5 (.e 8 (.q false [9] (.e 10 .z)))))) (.e 7 (.alt 5 (.e 6 (.e 8 (.q false [9] (.e 10 .z)))) (.e 6 (.e 5 (.e 8 (.q false [9] (.e 10 .z))))))))) (.alt 6 (.alt 3 (.alt 5 (.e 7 (.e 8 (.q false [9] (.e 10 .z)))) (.e 7 (.e 5 (.e 8 (.q false [9] (.e 10 .z)))))) (.e 7 (.e 3 (.e 5 (.e 8 (.q false [9] (.e 10 .z))))))) (.e 7 (.alt 3 (.alt 5 (.e 6 (.e 8 (.q false [9] (.e 10 .z)))) (.e 6 (.e 5 (.e 8 (.q false [9] (.e 10 .z)))))) (.e 6 (.e 3 (.e 5 (.e 8 (.q false [9] (.e 10 .z)))))))))) (.alt 6 (.alt 1 (.alt 3 (.alt 5 (.e 7 (.e 8 (.q false [9] (.e 10 .z)))) (.e 7 (.e 5 (.e 8 (.q false [9] (.e 10 .z)))))) (.e 7 (.e 3 (.e 5 (.e 8 (.q false [9] (.e 10 .z))))))) (.e 7 (.e 1 (.e 3 (.e 5 (.e 8 (.q false [9] (.e 10 .z)))))))) (.e 7 (.alt 1 (.alt 3 (.alt 5 (.e 6 (.e 8 (.q false [9] (.e 10 .z)))) (.e 6 (.e 5 (.e 8 (.q false [9] (.e 10 .z)))))) (.e 6 (.e 3 (.e 5 (.e 8 (.q false [9] (.e 10 .z))))))) (.e 6 (.e 1 (.e 3 (.e 5 (.e 8 (.q false [9] (.e 10 .z))))))))))))) hmix (by decide +kernel) ?_
    have hS := hS.drew
    refine ⟨(hS.pickO (is := [some 0, some 1]) rfl (by decide)), ?_⟩
    refine q_ld tb hA hb7772 rfl (i := 1) rfl rfl rfl rfl rfl rfl fun a hA => wpHold_nil (⟨(hS.pickO (is := [some 0, some 1]) rfl (by decide)), ?_⟩)
    refine qpr tb 1 hA rfl fun a hA => q_ld tb hA hb7776 rfl (i := 0) rfl rfl rfl rfl rfl rfl fun a hA => wpHold_nil ?_
    obtain ⟨x11161, hx11162, hF⟩ := hF
    obtain ⟨x11163, hx11164, hF⟩ := hF
    obtain ⟨x11165, hx11166, hF⟩ := hF
    refine ⟨?_, ?_, ?_⟩
    · refine o_call1 hA fi5 rfl rfl rfl rfl (c_recoupref21_Copy (x0 := x0) hS.imm h0_0 h0_1 h0_2 hx11162) fun a w v11185 hres hA => ?_
      obtain ⟨A11170, c11171, p11172, A11175, c11176, p11177, A11180, c11181, p11182, rfl, hS11167, hO11173, hO11178, hO11183⟩ := hres
      have hS := hS.callL hS11167 (PHeap.le.refl _)
      refine wpList_nil (tn (⟨⟨fun _ => (hS.pickO (is := [some 3, some 4]) rfl (by decide)), fun _ _ => (hS.pickO (is := [some 3, some 4]) rfl (by decide))⟩, ?_⟩))
      refine ⟨?_, ?_, ?_⟩
      · refine o_call1 hA fi6 rfl rfl rfl rfl (c_recoupref21_CopyBlocks (x0 := x1) hS.imm h1_0 hx11164) fun a w v11194 hres hA => ?_
        obtain ⟨A11189, c11190, p11191, rfl, hS11186, hO11192⟩ := hres
        have hS := hS.callL hS11186 (PHeap.le.refl _)
        refine wpList_nil (tn (⟨⟨fun _ => (hS.pickO (is := [some 4, some 5]) rfl (by decide)), fun _ _ => (hS.pickO (is := [some 4, some 5]) rfl (by decide))⟩, ?_⟩))
        refine ⟨?_, ?_, ?_⟩
        · refine o_call1 hA fi7 rfl rfl rfl rfl (c_recoupref03_Copy (x0 := x2) hS.imm hr2_0 hr2_1 h2_2 hx11166) fun a w v11205 hres hA => ?_
          obtain ⟨A11200, c11201, p11202, rfl, hS11195, hr11198, hr11199, hO11203⟩ := hres
          have hS := hS.callL hS11195 (PHeap.le.refl _)
          refine wpList_nil (tn (⟨⟨fun _ => (hS.pickO (is := [some 5, some 6]) rfl (by decide)), fun _ _ => (hS.pickO (is := [some 5, some 6]) rfl (by decide))⟩, ?_⟩))
          refine ⟨?_, ?_⟩
          · refine o_alloc tb hA hS rfl rfl rfl fun a w g11207 p11208 hA hS hb11209 => wpList_nil (tn (⟨⟨fun _ => (hS.pickO (is := [some 6, some 7]) rfl (by decide)), fun _ _ => (hS.pickO (is := [some 6, some 7]) rfl (by decide))⟩, ?_⟩))
            refine o_alloc tb hA hS rfl rfl rfl fun a w g11211 p11212 hA hS hb11213 => wpList_nil (tn (⟨⟨fun _ => (hS.pickO (is := [some 7, some 8]) rfl (by decide)), fun _ _ => (hS.pickO (is := [some 7, some 8]) rfl (by decide))⟩, ?_⟩))
            refine o_st tb hA hS hb11209 rfl rfl (i := 1) rfl rfl rfl rfl rfl rfl rfl fun w p11214 hS hb11215 => wpList_nil (tn (⟨⟨fun _ => (hS.pickO (is := [some 7, some 8]) rfl (by decide)), fun h => absurd h (by decide)⟩, ?_⟩))
            refine ⟨(hS.pickO (is := [some 7, some 8]) rfl (by decide)), ?_⟩
            refine qpr tb 1 hA rfl fun a hA => wpHold_nil (o_st tb hA hS hb11213 rfl rfl (i := 0) rfl rfl rfl rfl rfl rfl rfl fun w p11216 hS hb11217 => wpList_nil (tn (⟨⟨fun _ => (hS.pickO (is := [some 7, some 8]) rfl (by decide)), fun h => absurd h (by decide)⟩, ?_⟩)))
            refine tn ?_
            exact ⟨(x11161.Inputs, x11161.Nodes, x11161.Outs, x11163, x11165.Rows, x11165.Cols, x11165.Data), hF, _, _, _, _, _, _, _, _, _, _, _, _, _, _, _, _, _, _, _, hA.sub ⟨rfl, rfl, rfl, rfl, rfl, rfl, rfl, trivial⟩, hS.pick (is := [4, 5, 6, 1, 3, 2, 0, 7, 8]) rfl (by decide), hO11173, hO11178, hO11183, hb11215, hO11192, hr11198, hr11199, hO11203, hb11217⟩
          refine o_alloc tb hA hS rfl rfl rfl fun a w g11219 p11220 hA hS hb11221 => wpList_nil (tn (⟨⟨fun _ => (hS.pickO (is := [some 6, some 7]) rfl (by decide)), fun _ _ => (hS.pickO (is := [some 6, some 7]) rfl (by decide))⟩, ?_⟩))
          refine o_alloc tb hA hS rfl rfl rfl fun a w g11223 p11224 hA hS hb11225 => wpList_nil (tn (⟨⟨fun _ => (hS.pickO (is := [some 7, some 8]) rfl (by decide)), fun _ _ => (hS.pickO (is := [some 7, some 8]) rfl (by decide))⟩, ?_⟩))
          refine o_st tb hA hS hb11225 rfl rfl (i := 0) rfl rfl rfl rfl rfl rfl rfl fun w p11226 hS hb11227 => wpList_nil (tn (⟨⟨fun _ => (hS.pickO (is := [some 7, some 8]) rfl (by decide)), fun h => absurd h (by decide)⟩, ?_⟩))
          refine ⟨(hS.pickO (is := [some 7, some 8]) rfl (by decide)), ?_⟩
          refine qpr tb 1 hA rfl fun a hA => wpHold_nil (o_st tb hA hS hb11221 rfl rfl (i := 1) rfl rfl rfl rfl rfl rfl rfl fun w p11228 hS hb11229 => wpList_nil (tn (⟨⟨fun _ => (hS.pickO (is := [some 7, some 8]) rfl (by decide)), fun h => absurd h (by decide)⟩, ?_⟩)))
          refine tn ?_
          exact ⟨(x11161.Inputs, x11161.Nodes, x11161.Outs, x11163, x11165.Rows, x11165.Cols, x11165.Data), hF, _, _, _, _, _, _, _, _, _, _, _, _, _, _, _, _, _, _, _, hA.sub ⟨rfl, rfl, rfl, rfl, rfl, rfl, rfl, trivial⟩, hS.pick (is := [4, 5, 6, 0, 3, 2, 1, 7, 8]) rfl (by decide), hO11173, hO11178, hO11183, hb11227, hO11192, hr11198, hr11199, hO11203, hb11229⟩
        · refine o_alloc tb hA hS rfl rfl rfl fun a w g11231 p11232 hA hS hb11233 => wpList_nil (tn (⟨⟨fun _ => (hS.pickO (is := [some 5, some 6]) rfl (by decide)), fun _ _ => (hS.pickO (is := [some 5, some 6]) rfl (by decide))⟩, ?_⟩))
          refine ⟨?_, ?_⟩
          · refine o_call1 hA fi7 rfl rfl rfl rfl (c_recoupref03_Copy (x0 := x2) hS.imm hr2_0 hr2_1 h2_2 hx11166) fun a w v11244 hres hA => ?_
            obtain ⟨A11239, c11240, p11241, rfl, hS11234, hr11237, hr11238, hO11242⟩ := hres
            have hS := hS.callL hS11234 (PHeap.le.refl _)
            refine wpList_nil (tn (⟨⟨fun _ => (hS.pickO (is := [some 6, some 7]) rfl (by decide)), fun _ _ => (hS.pickO (is := [some 6, some 7]) rfl (by decide))⟩, ?_⟩))
            refine o_alloc tb hA hS rfl rfl rfl fun a w g11246 p11247 hA hS hb11248 => wpList_nil (tn (⟨⟨fun _ => (hS.pickO (is := [some 7, some 8]) rfl (by decide)), fun _ _ => (hS.pickO (is := [some 7, some 8]) rfl (by decide))⟩, ?_⟩))
            refine o_st tb hA hS hb11233 rfl rfl (i := 2) rfl rfl rfl rfl rfl rfl rfl fun w p11249 hS hb11250 => wpList_nil (tn (⟨⟨fun _ => (hS.pickO (is := [some 7, some 8]) rfl (by decide)), fun h => absurd h (by decide)⟩, ?_⟩))
            refine ⟨(hS.pickO (is := [some 7, some 8]) rfl (by decide)), ?_⟩
            refine qpr tb 1 hA rfl fun a hA => wpHold_nil (o_st tb hA hS hb11248 rfl rfl (i := 0) rfl rfl rfl rfl rfl rfl rfl fun w p11251 hS hb11252 => wpList_nil (tn (⟨⟨fun _ => (hS.pickO (is := [some 7, some 8]) rfl (by decide)), fun h => absurd h (by decide)⟩, ?_⟩)))
            refine tn ?_
            exact ⟨(x11161.Inputs, x11161.Nodes, x11161.Outs, x11163, x11165.Rows, x11165.Cols, x11165.Data), hF, _, _, _, _, _, _, _, _, _, _, _, _, _, _, _, _, _, _, _, hA.sub ⟨rfl, rfl, rfl, rfl, rfl, rfl, rfl, trivial⟩, hS.pick (is := [4, 5, 6, 2, 3, 1, 0, 7, 8]) rfl (by decide), hO11173, hO11178, hO11183, hb11250, hO11192, hr11237, hr11238, hO11242, hb11252⟩
          refine o_alloc tb hA hS rfl rfl rfl fun a w g11254 p11255 hA hS hb11256 => wpList_nil (tn (⟨⟨fun _ => (hS.pickO (is := [some 6, some 7]) rfl (by decide)), fun _ _ => (hS.pickO (is := [some 6, some 7]) rfl (by decide))⟩, ?_⟩))
          refine o_call1 hA fi7 rfl rfl rfl rfl (c_recoupref03_Copy (x0 := x2) hS.imm hr2_0 hr2_1 h2_2 hx11166) fun a w v11267 hres hA => ?_
          obtain ⟨A11262, c11263, p11264, rfl, hS11257, hr11260, hr11261, hO11265⟩ := hres
          have hS := hS.callL hS11257 (PHeap.le.refl _)
          refine wpList_nil (tn (⟨⟨fun _ => (hS.pickO (is := [some 7, some 8]) rfl (by decide)), fun _ _ => (hS.pickO (is := [some 7, some 8]) rfl (by decide))⟩, ?_⟩))
          refine o_st tb hA hS hb11233 rfl rfl (i := 2) rfl rfl rfl rfl rfl rfl rfl fun w p11268 hS hb11269 => wpList_nil (tn (⟨⟨fun _ => (hS.pickO (is := [some 7, some 8]) rfl (by decide)), fun h => absurd h (by decide)⟩, ?_⟩))
          refine ⟨(hS.pickO (is := [some 7, some 8]) rfl (by decide)), ?_⟩
          refine qpr tb 1 hA rfl fun a hA => wpHold_nil (o_st tb hA hS hb11256 rfl rfl (i := 1) rfl rfl rfl rfl rfl rfl rfl fun w p11270 hS hb11271 => wpList_nil (tn (⟨⟨fun _ => (hS.pickO (is := [some 7, some 8]) rfl (by decide)), fun h => absurd h (by decide)⟩, ?_⟩)))
          refine tn ?_
          exact ⟨(x11161.Inputs, x11161.Nodes, x11161.Outs, x11163, x11165.Rows, x11165.Cols, x11165.Data), hF, _, _, _, _, _, _, _, _, _, _, _, _, _, _, _, _, _, _, _, hA.sub ⟨rfl, rfl, rfl, rfl, rfl, rfl, rfl, trivial⟩, hS.pick (is := [4, 5, 6, 2, 3, 0, 1, 7, 8]) rfl (by decide), hO11173, hO11178, hO11183, hb11269, hO11192, hr11260, hr11261, hO11265, hb11271⟩
        refine o_alloc tb hA hS rfl rfl rfl fun a w g11273 p11274 hA hS hb11275 => wpList_nil (tn (⟨⟨fun _ => (hS.pickO (is := [some 5, some 6]) rfl (by decide)), fun _ _ => (hS.pickO (is := [some 5, some 6]) rfl (by decide))⟩, ?_⟩))
        refine ⟨?_, ?_⟩
        · refine o_call1 hA fi7 rfl rfl rfl rfl (c_recoupref03_Copy (x0 := x2) hS.imm hr2_0 hr2_1 h2_2 hx11166) fun a w v11286 hres hA => ?_
          obtain ⟨A11281, c11282, p11283, rfl, hS11276, hr11279, hr11280, hO11284⟩ := hres
          have hS := hS.callL hS11276 (PHeap.le.refl _)
          refine wpList_nil (tn (⟨⟨fun _ => (hS.pickO (is := [some 6, some 7]) rfl (by decide)), fun _ _ => (hS.pickO (is := [some 6, some 7]) rfl (by decide))⟩, ?_⟩))
          refine o_alloc tb hA hS rfl rfl rfl fun a w g11288 p11289 hA hS hb11290 => wpList_nil (tn (⟨⟨fun _ => (hS.pickO (is := [some 7, some 8]) rfl (by decide)), fun _ _ => (hS.pickO (is := [some 7, some 8]) rfl (by decide))⟩, ?_⟩))
          refine o_st tb hA hS hb11290 rfl rfl (i := 0) rfl rfl rfl rfl rfl rfl rfl fun w p11291 hS hb11292 => wpList_nil (tn (⟨⟨fun _ => (hS.pickO (is := [some 7, some 8]) rfl (by decide)), fun h => absurd h (by decide)⟩, ?_⟩))
          refine ⟨(hS.pickO (is := [some 7, some 8]) rfl (by decide)), ?_⟩
          refine qpr tb 1 hA rfl fun a hA => wpHold_nil (o_st tb hA hS hb11275 rfl rfl (i := 2) rfl rfl rfl rfl rfl rfl rfl fun w p11293 hS hb11294 => wpList_nil (tn (⟨⟨fun _ => (hS.pickO (is := [some 7, some 8]) rfl (by decide)), fun h => absurd h (by decide)⟩, ?_⟩)))
          refine tn ?_
          exact ⟨(x11161.Inputs, x11161.Nodes, x11161.Outs, x11163, x11165.Rows, x11165.Cols, x11165.Data), hF, _, _, _, _, _, _, _, _, _, _, _, _, _, _, _, _, _, _, _, hA.sub ⟨rfl, rfl, rfl, rfl, rfl, rfl, rfl, trivial⟩, hS.pick (is := [4, 5, 6, 0, 3, 1, 2, 7, 8]) rfl (by decide), hO11173, hO11178, hO11183, hb11292, hO11192, hr11279, hr11280, hO11284, hb11294⟩
        refine o_alloc tb hA hS rfl rfl rfl fun a w g11296 p11297 hA hS hb11298 => wpList_nil (tn (⟨⟨fun _ => (hS.pickO (is := [some 6, some 7]) rfl (by decide)), fun _ _ => (hS.pickO (is := [some 6, some 7]) rfl (by decide))⟩, ?_⟩))
        refine o_call1 hA fi7 rfl rfl rfl rfl (c_recoupref03_Copy (x0 := x2) hS.imm hr2_0 hr2_1 h2_2 hx11166) fun a w v11309 hres hA => ?_
        obtain ⟨A11304, c11305, p11306, rfl, hS11299, hr11302, hr11303, hO11307⟩ := hres
        have hS := hS.callL hS11299 (PHeap.le.refl _)
        refine wpList_nil (tn (⟨⟨fun _ => (hS.pickO (is := [some 7, some 8]) rfl (by decide)), fun _ _ => (hS.pickO (is := [some 7, some 8]) rfl (by decide))⟩, ?_⟩))
        refine o_st tb hA hS hb11298 rfl rfl (i := 1) rfl rfl rfl rfl rfl rfl rfl fun w p11310 hS hb11311 => wpList_nil (tn (⟨⟨fun _ => (hS.pickO (is := [some 7, some 8]) rfl (by decide)), fun h => absurd h (by decide)⟩, ?_⟩))
        refine ⟨(hS.pickO (is := [some 7, some 8]) rfl (by decide)), ?_⟩
        refine qpr tb 1 hA rfl fun a hA => wpHold_nil (o_st tb hA hS hb11275 rfl rfl (i := 2) rfl rfl rfl rfl rfl rfl rfl fun w p11312 hS hb11313 => wpList_nil (tn (⟨⟨fun _ => (hS.pickO (is := [some 7, some 8]) rfl (by decide)), fun h => absurd h (by decide)⟩, ?_⟩)))
        refine tn ?_
        exact ⟨(x11161.Inputs, x11161.Nodes, x11161.Outs, x11163, x11165.Rows, x11165.Cols, x11165.Data), hF, _, _, _, _, _, _, _, _, _, _, _, _, _, _, _, _, _, _, _, hA.sub ⟨rfl, rfl, rfl, rfl, rfl, rfl, rfl, trivial⟩, hS.pick (is := [4, 5, 6, 1, 3, 0, 2, 7, 8]) rfl (by decide), hO11173, hO11178, hO11183, hb11311, hO11192, hr11302, hr11303, hO11307, hb11313⟩
      · refine o_alloc tb hA hS rfl rfl rfl fun a w g11315 p11316 hA hS hb11317 => wpList_nil (tn (⟨⟨fun _ => (hS.pickO (is := [some 4, some 5]) rfl (by decide)), fun _ _ => (hS.pickO (is := [some 4, some 5]) rfl (by decide))⟩, ?_⟩))
        refine ⟨?_, ?_⟩
        · refine o_call1 hA fi6 rfl rfl rfl rfl (c_recoupref21_CopyBlocks (x0 := x1) hS.imm h1_0 hx11164) fun a w v11326 hres hA => ?_
          obtain ⟨A11321, c11322, p11323, rfl, hS11318, hO11324⟩ := hres
          have hS := hS.callL hS11318 (PHeap.le.refl _)
          refine wpList_nil (tn (⟨⟨fun _ => (hS.pickO (is := [some 5, some 6]) rfl (by decide)), fun _ _ => (hS.pickO (is := [some 5, some 6]) rfl (by decide))⟩, ?_⟩))
          refine ⟨?_, ?_⟩
          · refine o_call1 hA fi7 rfl rfl rfl rfl (c_recoupref03_Copy (x0 := x2) hS.imm hr2_0 hr2_1 h2_2 hx11166) fun a w v11337 hres hA => ?_
            obtain ⟨A11332, c11333, p11334, rfl, hS11327, hr11330, hr11331, hO11335⟩ := hres
            have hS := hS.callL hS11327 (PHeap.le.refl _)
            refine wpList_nil (tn (⟨⟨fun _ => (hS.pickO (is := [some 6, some 7]) rfl (by decide)), fun _ _ => (hS.pickO (is := [some 6, some 7]) rfl (by decide))⟩, ?_⟩))
            refine o_alloc tb hA hS rfl rfl rfl fun a w g11339 p11340 hA hS hb11341 => wpList_nil (tn (⟨⟨fun _ => (hS.pickO (is := [some 7, some 8]) rfl (by decide)), fun _ _ => (hS.pickO (is := [some 7, some 8]) rfl (by decide))⟩, ?_⟩))
            refine o_st tb hA hS hb11317 rfl rfl (i := 3) rfl rfl rfl rfl rfl rfl rfl fun w p11342 hS hb11343 => wpList_nil (tn (⟨⟨fun _ => (hS.pickO (is := [some 7, some 8]) rfl (by decide)), fun h => absurd h (by decide)⟩, ?_⟩))
            refine ⟨(hS.pickO (is := [some 7, some 8]) rfl (by decide)), ?_⟩
            refine qpr tb 1 hA rfl fun a hA => wpHold_nil (o_st tb hA hS hb11341 rfl rfl (i := 0) rfl rfl rfl rfl rfl rfl rfl fun w p11344 hS hb11345 => wpList_nil (tn (⟨⟨fun _ => (hS.pickO (is := [some 7, some 8]) rfl (by decide)), fun h => absurd h (by decide)⟩, ?_⟩)))
            refine tn ?_
            exact ⟨(x11161.Inputs, x11161.Nodes, x11161.Outs, x11163, x11165.Rows, x11165.Cols, x11165.Data), hF, _, _, _, _, _, _, _, _, _, _, _, _, _, _, _, _, _, _, _, hA.sub ⟨rfl, rfl, rfl, rfl, rfl, rfl, rfl, trivial⟩, hS.pick (is := [4, 5, 6, 3, 2, 1, 0, 7, 8]) rfl (by decide), hO11173, hO11178, hO11183, hb11343, hO11324, hr11330, hr11331, hO11335, hb11345⟩
          refine o_alloc tb hA hS rfl rfl rfl fun a w g11347 p11348 hA hS hb11349 => wpList_nil (tn (⟨⟨fun _ => (hS.pickO (is := [some 6, some 7]) rfl (by decide)), fun _ _ => (hS.pickO (is := [some 6, some 7]) rfl (by decide))⟩, ?_⟩))
          refine o_call1 hA fi7 rfl rfl rfl rfl (c_recoupref03_Copy (x0 := x2) hS.imm hr2_0 hr2_1 h2_2 hx11166) fun a w v11360 hres hA => ?_
          obtain ⟨A11355, c11356, p11357, rfl, hS11350, hr11353, hr11354, hO11358⟩ := hres
          have hS := hS.callL hS11350 (PHeap.le.refl _)
          refine wpList_nil (tn (⟨⟨fun _ => (hS.pickO (is := [some 7, some 8]) rfl (by decide)), fun _ _ => (hS.pickO (is := [some 7, some 8]) rfl (by decide))⟩, ?_⟩))
          refine o_st tb hA hS hb11317 rfl rfl (i := 3) rfl rfl rfl rfl rfl rfl rfl fun w p11361 hS hb11362 => wpList_nil (tn (⟨⟨fun _ => (hS.pickO (is := [some 7, some 8]) rfl (by decide)), fun h => absurd h (by decide)⟩, ?_⟩))
          refine ⟨(hS.pickO (is := [some 7, some 8]) rfl (by decide)), ?_⟩
          refine qpr tb 1 hA rfl fun a hA => wpHold_nil (o_st tb hA hS hb11349 rfl rfl (i := 1) rfl rfl rfl rfl rfl rfl rfl fun w p11363 hS hb11364 => wpList_nil (tn (⟨⟨fun _ => (hS.pickO (is := [some 7, some 8]) rfl (by decide)), fun h => absurd h (by decide)⟩, ?_⟩)))
          refine tn ?_
          exact ⟨(x11161.Inputs, x11161.Nodes, x11161.Outs, x11163, x11165.Rows, x11165.Cols, x11165.Data), hF, _, _, _, _, _, _, _, _, _, _, _, _, _, _, _, _, _, _, _, hA.sub ⟨rfl, rfl, rfl, rfl, rfl, rfl, rfl, trivial⟩, hS.pick (is := [4, 5, 6, 3, 2, 0, 1, 7, 8]) rfl (by decide), hO11173, hO11178, hO11183, hb11362, hO11324, hr11353, hr11354, hO11358, hb11364⟩
        refine o_alloc tb hA hS rfl rfl rfl fun a w g11366 p11367 hA hS hb11368 => wpList_nil (tn (⟨⟨fun _ => (hS.pickO (is := [some 5, some 6]) rfl (by decide)), fun _ _ => (hS.pickO (is := [some 5, some 6]) rfl (by decide))⟩, ?_⟩))
        refine o_call1 hA fi6 rfl rfl rfl rfl (c_recoupref21_CopyBlocks (x0 := x1) hS.imm h1_0 hx11164) fun a w v11377 hres hA => ?_
        obtain ⟨A11372, c11373, p11374, rfl, hS11369, hO11375⟩ := hres
        have hS := hS.callL hS11369 (PHeap.le.refl _)
        refine wpList_nil (tn (⟨⟨fun _ => (hS.pickO (is := [some 6, some 7]) rfl (by decide)), fun _ _ => (hS.pickO (is := [some 6, some 7]) rfl (by decide))⟩, ?_⟩))
        refine o_call1 hA fi7 rfl rfl rfl rfl (c_recoupref03_Copy (x0 := x2) hS.imm hr2_0 hr2_1 h2_2 hx11166) fun a w v11388 hres hA => ?_
        obtain ⟨A11383, c11384, p11385, rfl, hS11378, hr11381, hr11382, hO11386⟩ := hres
        have hS := hS.callL hS11378 (PHeap.le.refl _)
        refine wpList_nil (tn (⟨⟨fun _ => (hS.pickO (is := [some 7, some 8]) rfl (by decide)), fun _ _ => (hS.pickO (is := [some 7, some 8]) rfl (by decide))⟩, ?_⟩))
        refine o_st tb hA hS hb11317 rfl rfl (i := 3) rfl rfl rfl rfl rfl rfl rfl fun w p11389 hS hb11390 => wpList_nil (tn (⟨⟨fun _ => (hS.pickO (is := [some 7, some 8]) rfl (by decide)), fun h => absurd h (by decide)⟩, ?_⟩))
        refine ⟨(hS.pickO (is := [some 7, some 8]) rfl (by decide)), ?_⟩
        refine qpr tb 1 hA rfl fun a hA => wpHold_nil (o_st tb hA hS hb11368 rfl rfl (i := 2) rfl rfl rfl rfl rfl rfl rfl fun w p11391 hS hb11392 => wpList_nil (tn (⟨⟨fun _ => (hS.pickO (is := [some 7, some 8]) rfl (by decide)), fun h => absurd h (by decide)⟩, ?_⟩)))
        refine tn ?_
        exact ⟨(x11161.Inputs, x11161.Nodes, x11161.Outs, x11163, x11165.Rows, x11165.Cols, x11165.Data), hF, _, _, _, _, _, _, _, _, _, _, _, _, _, _, _, _, _, _, _, hA.sub ⟨rfl, rfl, rfl, rfl, rfl, rfl, rfl, trivial⟩, hS.pick (is := [4, 5, 6, 3, 1, 0, 2, 7, 8]) rfl (by decide), hO11173, hO11178, hO11183, hb11390, hO11375, hr11381, hr11382, hO11386, hb11392⟩
      refine o_alloc tb hA hS rfl rfl rfl fun a w g11394 p11395 hA hS hb11396 => wpList_nil (tn (⟨⟨fun _ => (hS.pickO (is := [some 4, some 5]) rfl (by decide)), fun _ _ => (hS.pickO (is := [some 4, some 5]) rfl (by decide))⟩, ?_⟩))
      refine ⟨?_, ?_⟩
      · refine o_call1 hA fi6 rfl rfl rfl rfl (c_recoupref21_CopyBlocks (x0 := x1) hS.imm h1_0 hx11164) fun a w v11405 hres hA => ?_
        obtain ⟨A11400, c11401, p11402, rfl, hS11397, hO11403⟩ := hres
        have hS := hS.callL hS11397 (PHeap.le.refl _)
        refine wpList_nil (tn (⟨⟨fun _ => (hS.pickO (is := [some 5, some 6]) rfl (by decide)), fun _ _ => (hS.pickO (is := [some 5, some 6]) rfl (by decide))⟩, ?_⟩))
        refine ⟨?_, ?_⟩
        · refine o_call1 hA fi7 rfl rfl rfl rfl (c_recoupref03_Copy (x0 := x2) hS.imm hr2_0 hr2_1 h2_2 hx11166) fun a w v11416 hres hA => ?_
          obtain ⟨A11411, c11412, p11413, rfl, hS11406, hr11409, hr11410, hO11414⟩ := hres
          have hS := hS.callL hS11406 (PHeap.le.refl _)
          refine wpList_nil (tn (⟨⟨fun _ => (hS.pickO (is := [some 6, some 7]) rfl (by decide)), fun _ _ => (hS.pickO (is := [some 6, some 7]) rfl (by decide))⟩, ?_⟩))
          refine o_alloc tb hA hS rfl rfl rfl fun a w g11418 p11419 hA hS hb11420 => wpList_nil (tn (⟨⟨fun _ => (hS.pickO (is := [some 7, some 8]) rfl (by decide)), fun _ _ => (hS.pickO (is := [some 7, some 8]) rfl (by decide))⟩, ?_⟩))
          refine o_st tb hA hS hb11420 rfl rfl (i := 0) rfl rfl rfl rfl rfl rfl rfl fun w p11421 hS hb11422 => wpList_nil (tn (⟨⟨fun _ => (hS.pickO (is := [some 7, some 8]) rfl (by decide)), fun h => absurd h (by decide)⟩, ?_⟩))
          refine ⟨(hS.pickO (is := [some 7, some 8]) rfl (by decide)), ?_⟩
          refine qpr tb 1 hA rfl fun a hA => wpHold_nil (o_st tb hA hS hb11396 rfl rfl (i := 3) rfl rfl rfl rfl rfl rfl rfl fun w p11423 hS hb11424 => wpList_nil (tn (⟨⟨fun _ => (hS.pickO (is := [some 7, some 8]) rfl (by decide)), fun h => absurd h (by decide)⟩, ?_⟩)))
          refine tn ?_
          exact ⟨(x11161.Inputs, x11161.Nodes, x11161.Outs, x11163, x11165.Rows, x11165.Cols, x11165.Data), hF, _, _, _, _, _, _, _, _, _, _, _, _, _, _, _, _, _, _, _, hA.sub ⟨rfl, rfl, rfl, rfl, rfl, rfl, rfl, trivial⟩, hS.pick (is := [4, 5, 6, 0, 2, 1, 3, 7, 8]) rfl (by decide), hO11173, hO11178, hO11183, hb11422, hO11403, hr11409, hr11410, hO11414, hb11424⟩
        refine o_alloc tb hA hS rfl rfl rfl fun a w g11426 p11427 hA hS hb11428 => wpList_nil (tn (⟨⟨fun _ => (hS.pickO (is := [some 6, some 7]) rfl (by decide)), fun _ _ => (hS.pickO (is := [some 6, some 7]) rfl (by decide))⟩, ?_⟩))
        refine o_call1 hA fi7 rfl rfl rfl rfl (c_recoupref03_Copy (x0 := x2) hS.imm hr2_0 hr2_1 h2_2 hx11166) fun a w v11439 hres hA => ?_
        obtain ⟨A11434, c11435, p11436, rfl, hS11429, hr11432, hr11433, hO11437⟩ := hres
        have hS := hS.callL hS11429 (PHeap.le.refl _)
        refine wpList_nil (tn (⟨⟨fun _ => (hS.pickO (is := [some 7, some 8]) rfl (by decide)), fun _ _ => (hS.pickO (is := [some 7, some 8]) rfl (by decide))⟩, ?_⟩))
        refine o_st tb hA hS hb11428 rfl rfl (i := 1) rfl rfl rfl rfl rfl rfl rfl fun w p11440 hS hb11441 => wpList_nil (tn (⟨⟨fun _ => (hS.pickO (is := [some 7, some 8]) rfl (by decide)), fun h => absurd h (by decide)⟩, ?_⟩))
        refine ⟨(hS.pickO (is := [some 7, some 8]) rfl (by decide)), ?_⟩
        refine qpr tb 1 hA rfl fun a hA => wpHold_nil (o_st tb hA hS hb11396 rfl rfl (i := 3) rfl rfl rfl rfl rfl rfl rfl fun w p11442 hS hb11443 => wpList_nil (tn (⟨⟨fun _ => (hS.pickO (is := [some 7, some 8]) rfl (by decide)), fun h => absurd h (by decide)⟩, ?_⟩)))
        refine tn ?_
        exact ⟨(x11161.Inputs, x11161.Nodes, x11161.Outs, x11163, x11165.Rows, x11165.Cols, x11165.Data), hF, _, _, _, _, _, _, _, _, _, _, _, _, _, _, _, _, _, _, _, hA.sub ⟨rfl, rfl, rfl, rfl, rfl, rfl, rfl, trivial⟩, hS.pick (is := [4, 5, 6, 1, 2, 0, 3, 7, 8]) rfl (by decide), hO11173, hO11178, hO11183, hb11441, hO11403, hr11432, hr11433, hO11437, hb11443⟩
      refine o_alloc tb hA hS rfl rfl rfl fun a w g11445 p11446 hA hS hb11447 => wpList_nil (tn (⟨⟨fun _ => (hS.pickO (is := [some 5, some 6]) rfl (by decide)), fun _ _ => (hS.pickO (is := [some 5, some 6]) rfl (by decide))⟩, ?_⟩))
      refine o_call1 hA fi6 rfl rfl rfl rfl (c_recoupref21_CopyBlocks (x0 := x1) hS.imm h1_0 hx11164) fun a w v11456 hres hA => ?_
      obtain ⟨A11451, c11452, p11453, rfl, hS11448, hO11454⟩ := hres
      have hS := hS.callL hS11448 (PHeap.le.refl _)
      refine wpList_nil (tn (⟨⟨fun _ => (hS.pickO (is := [some 6, some 7]) rfl (by decide)), fun _ _ => (hS.pickO (is := [some 6, some 7]) rfl (by decide))⟩, ?_⟩))
      refine o_call1 hA fi7 rfl rfl rfl rfl (c_recoupref03_Copy (x0 := x2) hS.imm hr2_0 hr2_1 h2_2 hx11166) fun a w v11467 hres hA => ?_
      obtain ⟨A11462, c11463, p11464, rfl, hS11457, hr11460, hr11461, hO11465⟩ := hres
      have hS := hS.callL hS11457 (PHeap.le.refl _)
      refine wpList_nil (tn (⟨⟨fun _ => (hS.pickO (is := [some 7, some 8]) rfl (by decide)), fun _ _ => (hS.pickO (is := [some 7, some 8]) rfl (by decide))⟩, ?_⟩))
      refine o_st tb hA hS hb11447 rfl rfl (i := 2) rfl rfl rfl rfl rfl rfl rfl fun w p11468 hS hb11469 => wpList_nil (tn (⟨⟨fun _ => (hS.pickO (is := [some 7, some 8]) rfl (by decide)), fun h => absurd h (by decide)⟩, ?_⟩))
      refine ⟨(hS.pickO (is := [some 7, some 8]) rfl (by decide)), ?_⟩
      refine qpr tb 1 hA rfl fun a hA => wpHold_nil (o_st tb hA hS hb11396 rfl rfl (i := 3) rfl rfl rfl rfl rfl rfl rfl fun w p11470 hS hb11471 => wpList_nil (tn (⟨⟨fun _ => (hS.pickO (is := [some 7, some 8]) rfl (by decide)), fun h => absurd h (by decide)⟩, ?_⟩)))
      refine tn ?_
      exact ⟨(x11161.Inputs, x11161.Nodes, x11161.Outs, x11163, x11165.Rows, x11165.Cols, x11165.Data), hF, _, _, _, _, _, _, _, _, _, _, _, _, _, _, _, _, _, _, _, hA.sub ⟨rfl, rfl, rfl, rfl, rfl, rfl, rfl, trivial⟩, hS.pick (is := [4, 5, 6, 2, 1, 0, 3, 7, 8]) rfl (by decide), hO11173, hO11178, hO11183, hb11469, hO11454, hr11460, hr11461, hO11465, hb11471⟩
    · refine o_alloc tb hA hS rfl rfl rfl fun a w g11473 p11474 hA hS hb11475 => wpList_nil (tn (⟨⟨fun _ => (hS.pickO (is := [some 1, some 2]) rfl (by decide)), fun _ _ => (hS.pickO (is := [some 1, some 2]) rfl (by decide))⟩, ?_⟩))
      refine ⟨?_, ?_⟩
      · refine o_call1 hA fi5 rfl rfl rfl rfl (c_recoupref21_Copy (x0 := x0) hS.imm h0_0 h0_1 h0_2 hx11162) fun a w v11494 hres hA => ?_
        obtain ⟨A11479, c11480, p11481, A11484, c11485, p11486, A11489, c11490, p11491, rfl, hS11476, hO11482, hO11487, hO11492⟩ := hres
        have hS := hS.callL hS11476 (PHeap.le.refl _)
        refine wpList_nil (tn (⟨⟨fun _ => (hS.pickO (is := [some 4, some 5]) rfl (by decide)), fun _ _ => (hS.pickO (is := [some 4, some 5]) rfl (by decide))⟩, ?_⟩))
        refine ⟨?_, ?_⟩
        · refine o_call1 hA fi6 rfl rfl rfl rfl (c_recoupref21_CopyBlocks (x0 := x1) hS.imm h1_0 hx11164) fun a w v11503 hres hA => ?_
          obtain ⟨A11498, c11499, p11500, rfl, hS11495, hO11501⟩ := hres
          have hS := hS.callL hS11495 (PHeap.le.refl _)
          refine wpList_nil (tn (⟨⟨fun _ => (hS.pickO (is := [some 5, some 6]) rfl (by decide)), fun _ _ => (hS.pickO (is := [some 5, some 6]) rfl (by decide))⟩, ?_⟩))
          refine ⟨?_, ?_⟩
          · refine o_call1 hA fi7 rfl rfl rfl rfl (c_recoupref03_Copy (x0 := x2) hS.imm hr2_0 hr2_1 h2_2 hx11166) fun a w v11514 hres hA => ?_
            obtain ⟨A11509, c11510, p11511, rfl, hS11504, hr11507, hr11508, hO11512⟩ := hres
            have hS := hS.callL hS11504 (PHeap.le.refl _)
            refine wpList_nil (tn (⟨⟨fun _ => (hS.pickO (is := [some 6, some 7]) rfl (by decide)), fun _ _ => (hS.pickO (is := [some 6, some 7]) rfl (by decide))⟩, ?_⟩))
            refine o_alloc tb hA hS rfl rfl rfl fun a w g11516 p11517 hA hS hb11518 => wpList_nil (tn (⟨⟨fun _ => (hS.pickO (is := [some 7, some 8]) rfl (by decide)), fun _ _ => (hS.pickO (is := [some 7, some 8]) rfl (by decide))⟩, ?_⟩))
            refine o_st tb hA hS hb11475 rfl rfl (i := 6) rfl rfl rfl rfl rfl rfl rfl fun w p11519 hS hb11520 => wpList_nil (tn (⟨⟨fun _ => (hS.pickO (is := [some 7, some 8]) rfl (by decide)), fun h => absurd h (by decide)⟩, ?_⟩))
            refine ⟨(hS.pickO (is := [some 7, some 8]) rfl (by decide)), ?_⟩
            refine qpr tb 1 hA rfl fun a hA => wpHold_nil (o_st tb hA hS hb11518 rfl rfl (i := 0) rfl rfl rfl rfl rfl rfl rfl fun w p11521 hS hb11522 => wpList_nil (tn (⟨⟨fun _ => (hS.pickO (is := [some 7, some 8]) rfl (by decide)), fun h => absurd h (by decide)⟩, ?_⟩)))
            refine tn ?_
            exact ⟨(x11161.Inputs, x11161.Nodes, x11161.Outs, x11163, x11165.Rows, x11165.Cols, x11165.Data), hF, _, _, _, _, _, _, _, _, _, _, _, _, _, _, _, _, _, _, _, hA.sub ⟨rfl, rfl, rfl, rfl, rfl, rfl, rfl, trivial⟩, hS.pick (is := [3, 4, 5, 6, 2, 1, 0, 7, 8]) rfl (by decide), hO11482, hO11487, hO11492, hb11520, hO11501, hr11507, hr11508, hO11512, hb11522⟩
          refine o_alloc tb hA hS rfl rfl rfl fun a w g11524 p11525 hA hS hb11526 => wpList_nil (tn (⟨⟨fun _ => (hS.pickO (is := [some 6, some 7]) rfl (by decide)), fun _ _ => (hS.pickO (is := [some 6, some 7]) rfl (by decide))⟩, ?_⟩))
          refine o_call1 hA fi7 rfl rfl rfl rfl (c_recoupref03_Copy (x0 := x2) hS.imm hr2_0 hr2_1 h2_2 hx11166) fun a w v11537 hres hA => ?_
          obtain ⟨A11532, c11533, p11534, rfl, hS11527, hr11530, hr11531, hO11535⟩ := hres
          have hS := hS.callL hS11527 (PHeap.le.refl _)
          refine wpList_nil (tn (⟨⟨fun _ => (hS.pickO (is := [some 7, some 8]) rfl (by decide)), fun _ _ => (hS.pickO (is := [some 7, some 8]) rfl (by decide))⟩, ?_⟩))
          refine o_st tb hA hS hb11475 rfl rfl (i := 6) rfl rfl rfl rfl rfl rfl rfl fun w p11538 hS hb11539 => wpList_nil (tn (⟨⟨fun _ => (hS.pickO (is := [some 7, some 8]) rfl (by decide)), fun h => absurd h (by decide)⟩, ?_⟩))
          refine ⟨(hS.pickO (is := [some 7, some 8]) rfl (by decide)), ?_⟩
          refine qpr tb 1 hA rfl fun a hA => wpHold_nil (o_st tb hA hS hb11526 rfl rfl (i := 1) rfl rfl rfl rfl rfl rfl rfl fun w p11540 hS hb11541 => wpList_nil (tn (⟨⟨fun _ => (hS.pickO (is := [some 7, some 8]) rfl (by decide)), fun h => absurd h (by decide)⟩, ?_⟩)))
          refine tn ?_
          exact ⟨(x11161.Inputs, x11161.Nodes, x11161.Outs, x11163, x11165.Rows, x11165.Cols, x11165.Data), hF, _, _, _, _, _, _, _, _, _, _, _, _, _, _, _, _, _, _, _, hA.sub ⟨rfl, rfl, rfl, rfl, rfl, rfl, rfl, trivial⟩, hS.pick (is := [3, 4, 5, 6, 2, 0, 1, 7, 8]) rfl (by decide), hO11482, hO11487, hO11492, hb11539, hO11501, hr11530, hr11531, hO11535, hb11541⟩
        refine o_alloc tb hA hS rfl rfl rfl fun a w g11543 p11544 hA hS hb11545 => wpList_nil (tn (⟨⟨fun _ => (hS.pickO (is := [some 5, some 6]) rfl (by decide)), fun _ _ => (hS.pickO (is := [some 5, some 6]) rfl (by decide))⟩, ?_⟩))
        refine o_call1 hA fi6 rfl rfl rfl rfl (c_recoupref21_CopyBlocks (x0 := x1) hS.imm h1_0 hx11164) fun a w v11554 hres hA => ?_
        obtain ⟨A11549, c11550, p11551, rfl, hS11546, hO11552⟩ := hres
        have hS := hS.callL hS11546 (PHeap.le.refl _)
        refine wpList_nil (tn (⟨⟨fun _ => (hS.pickO (is := [some 6, some 7]) rfl (by decide)), fun _ _ => (hS.pickO (is := [some 6, some 7]) rfl (by decide))⟩, ?_⟩))
        refine o_call1 hA fi7 rfl rfl rfl rfl (c_recoupref03_Copy (x0 := x2) hS.imm hr2_0 hr2_1 h2_2 hx11166) fun a w v11565 hres hA => ?_
        obtain ⟨A11560, c11561, p11562, rfl, hS11555, hr11558, hr11559, hO11563⟩ := hres
        have hS := hS.callL hS11555 (PHeap.le.refl _)
        refine wpList_nil (tn (⟨⟨fun _ => (hS.pickO (is := [some 7, some 8]) rfl (by decide)), fun _ _ => (hS.pickO (is := [some 7, some 8]) rfl (by decide))⟩, ?_⟩))
        refine o_st tb hA hS hb11475 rfl rfl (i := 6) rfl rfl rfl rfl rfl rfl rfl fun w p11566 hS hb11567 => wpList_nil (tn (⟨⟨fun _ => (hS.pickO (is := [some 7, some 8]) rfl (by decide)), fun h => absurd h (by decide)⟩, ?_⟩))
        refine ⟨(hS.pickO (is := [some 7, some 8]) rfl (by decide)), ?_⟩
        refine qpr tb 1 hA rfl fun a hA => wpHold_nil (o_st tb hA hS hb11545 rfl rfl (i := 2) rfl rfl rfl rfl rfl rfl rfl fun w p11568 hS hb11569 => wpList_nil (tn (⟨⟨fun _ => (hS.pickO (is := [some 7, some 8]) rfl (by decide)), fun h => absurd h (by decide)⟩, ?_⟩)))
        refine tn ?_
        exact ⟨(x11161.Inputs, x11161.Nodes, x11161.Outs, x11163, x11165.Rows, x11165.Cols, x11165.Data), hF, _, _, _, _, _, _, _, _, _, _, _, _, _, _, _, _, _, _, _, hA.sub ⟨rfl, rfl, rfl, rfl, rfl, rfl, rfl, trivial⟩, hS.pick (is := [3, 4, 5, 6, 1, 0, 2, 7, 8]) rfl (by decide), hO11482, hO11487, hO11492, hb11567, hO11552, hr11558, hr11559, hO11563, hb11569⟩
      refine o_alloc tb hA hS rfl rfl rfl fun a w g11571 p11572 hA hS hb11573 => wpList_nil (tn (⟨⟨fun _ => (hS.pickO (is := [some 2, some 3]) rfl (by decide)), fun _ _ => (hS.pickO (is := [some 2, some 3]) rfl (by decide))⟩, ?_⟩))
      refine o_call1 hA fi5 rfl rfl rfl rfl (c_recoupref21_Copy (x0 := x0) hS.imm h0_0 h0_1 h0_2 hx11162) fun a w v11592 hres hA => ?_
      obtain ⟨A11577, c11578, p11579, A11582, c11583, p11584, A11587, c11588, p11589, rfl, hS11574, hO11580, hO11585, hO11590⟩ := hres
      have hS := hS.callL hS11574 (PHeap.le.refl _)
      refine wpList_nil (tn (⟨⟨fun _ => (hS.pickO (is := [some 5, some 6]) rfl (by decide)), fun _ _ => (hS.pickO (is := [some 5, some 6]) rfl (by decide))⟩, ?_⟩))
      refine o_call1 hA fi6 rfl rfl rfl rfl (c_recoupref21_CopyBlocks (x0 := x1) hS.imm h1_0 hx11164) fun a w v11601 hres hA => ?_
      obtain ⟨A11596, c11597, p11598, rfl, hS11593, hO11599⟩ := hres
      have hS := hS.callL hS11593 (PHeap.le.refl _)
      refine wpList_nil (tn (⟨⟨fun _ => (hS.pickO (is := [some 6, some 7]) rfl (by decide)), fun _ _ => (hS.pickO (is := [some 6, some 7]) rfl (by decide))⟩, ?_⟩))
      refine o_call1 hA fi7 rfl rfl rfl rfl (c_recoupref03_Copy (x0 := x2) hS.imm hr2_0 hr2_1 h2_2 hx11166) fun a w v11612 hres hA => ?_
      obtain ⟨A11607, c11608, p11609, rfl, hS11602, hr11605, hr11606, hO11610⟩ := hres
      have hS := hS.callL hS11602 (PHeap.le.refl _)
      refine wpList_nil (tn (⟨⟨fun _ => (hS.pickO (is := [some 7, some 8]) rfl (by decide)), fun _ _ => (hS.pickO (is := [some 7, some 8]) rfl (by decide))⟩, ?_⟩))
      refine o_st tb hA hS hb11475 rfl rfl (i := 6) rfl rfl rfl rfl rfl rfl rfl fun w p11613 hS hb11614 => wpList_nil (tn (⟨⟨fun _ => (hS.pickO (is := [some 7, some 8]) rfl (by decide)), fun h => absurd h (by decide)⟩, ?_⟩))
      refine ⟨(hS.pickO (is := [some 7, some 8]) rfl (by decide)), ?_⟩
      refine qpr tb 1 hA rfl fun a hA => wpHold_nil (o_st tb hA hS hb11573 rfl rfl (i := 5) rfl rfl rfl rfl rfl rfl rfl fun w p11615 hS hb11616 => wpList_nil (tn (⟨⟨fun _ => (hS.pickO (is := [some 7, some 8]) rfl (by decide)), fun h => absurd h (by decide)⟩, ?_⟩)))
      refine tn ?_
      exact ⟨(x11161.Inputs, x11161.Nodes, x11161.Outs, x11163, x11165.Rows, x11165.Cols, x11165.Data), hF, _, _, _, _, _, _, _, _, _, _, _, _, _, _, _, _, _, _, _, hA.sub ⟨rfl, rfl, rfl, rfl, rfl, rfl, rfl, trivial⟩, hS.pick (is := [2, 3, 4, 6, 1, 0, 5, 7, 8]) rfl (by decide), hO11580, hO11585, hO11590, hb11614, hO11599, hr11605, hr11606, hO11610, hb11616⟩
    refine o_alloc tb hA hS rfl rfl rfl fun a w g11618 p11619 hA hS hb11620 => wpList_nil (tn (⟨⟨fun _ => (hS.pickO (is := [some 1, some 2]) rfl (by decide)), fun _ _ => (hS.pickO (is := [some 1, some 2]) rfl (by decide))⟩, ?_⟩))
    refine ⟨?_, ?_⟩
    · refine o_call1 hA fi5 rfl rfl rfl rfl (c_recoupref21_Copy (x0 := x0) hS.imm h0_0 h0_1 h0_2 hx11162) fun a w v11639 hres hA => ?_
      obtain ⟨A11624, c11625, p11626, A11629, c11630, p11631, A11634, c11635, p11636, rfl, hS11621, hO11627, hO11632, hO11637⟩ := hres
      have hS := hS.callL hS11621 (PHeap.le.refl _)
      refine wpList_nil (tn (⟨⟨fun _ => (hS.pickO (is := [some 4, some 5]) rfl (by decide)), fun _ _ => (hS.pickO (is := [some 4, some 5]) rfl (by decide))⟩, ?_⟩))
      refine ⟨?_, ?_⟩
      · refine o_call1 hA fi6 rfl rfl rfl rfl (c_recoupref21_CopyBlocks (x0 := x1) hS.imm h1_0 hx11164) fun a w v11648 hres hA => ?_
        obtain ⟨A11643, c11644, p11645, rfl, hS11640, hO11646⟩ := hres
        have hS := hS.callL hS11640 (PHeap.le.refl _)
        refine wpList_nil (tn (⟨⟨fun _ => (hS.pickO (is := [some 5, some 6]) rfl (by decide)), fun _ _ => (hS.pickO (is := [some 5, some 6]) rfl (by decide))⟩, ?_⟩))
        refine ⟨?_, ?_⟩
        · refine o_call1 hA fi7 rfl rfl rfl rfl (c_recoupref03_Copy (x0 := x2) hS.imm hr2_0 hr2_1 h2_2 hx11166) fun a w v11659 hres hA => ?_
          obtain ⟨A11654, c11655, p11656, rfl, hS11649, hr11652, hr11653, hO11657⟩ := hres
          have hS := hS.callL hS11649 (PHeap.le.refl _)
          refine wpList_nil (tn (⟨⟨fun _ => (hS.pickO (is := [some 6, some 7]) rfl (by decide)), fun _ _ => (hS.pickO (is := [some 6, some 7]) rfl (by decide))⟩, ?_⟩))
          refine o_alloc tb hA hS rfl rfl rfl fun a w g11661 p11662 hA hS hb11663 => wpList_nil (tn (⟨⟨fun _ => (hS.pickO (is := [some 7, some 8]) rfl (by decide)), fun _ _ => (hS.pickO (is := [some 7, some 8]) rfl (by decide))⟩, ?_⟩))
          refine o_st tb hA hS hb11663 rfl rfl (i := 0) rfl rfl rfl rfl rfl rfl rfl fun w p11664 hS hb11665 => wpList_nil (tn (⟨⟨fun _ => (hS.pickO (is := [some 7, some 8]) rfl (by decide)), fun h => absurd h (by decide)⟩, ?_⟩))
          refine ⟨(hS.pickO (is := [some 7, some 8]) rfl (by decide)), ?_⟩
          refine qpr tb 1 hA rfl fun a hA => wpHold_nil (o_st tb hA hS hb11620 rfl rfl (i := 6) rfl rfl rfl rfl rfl rfl rfl fun w p11666 hS hb11667 => wpList_nil (tn (⟨⟨fun _ => (hS.pickO (is := [some 7, some 8]) rfl (by decide)), fun h => absurd h (by decide)⟩, ?_⟩)))
          refine tn ?_
          exact ⟨(x11161.Inputs, x11161.Nodes, x11161.Outs, x11163, x11165.Rows, x11165.Cols, x11165.Data), hF, _, _, _, _, _, _, _, _, _, _, _, _, _, _, _, _, _, _, _, hA.sub ⟨rfl, rfl, rfl, rfl, rfl, rfl, rfl, trivial⟩, hS.pick (is := [3, 4, 5, 0, 2, 1, 6, 7, 8]) rfl (by decide), hO11627, hO11632, hO11637, hb11665, hO11646, hr11652, hr11653, hO11657, hb11667⟩
        refine o_alloc tb hA hS rfl rfl rfl fun a w g11669 p11670 hA hS hb11671 => wpList_nil (tn (⟨⟨fun _ => (hS.pickO (is := [some 6, some 7]) rfl (by decide)), fun _ _ => (hS.pickO (is := [some 6, some 7]) rfl (by decide))⟩, ?_⟩))
        refine o_call1 hA fi7 rfl rfl rfl rfl (c_recoupref03_Copy (x0 := x2) hS.imm hr2_0 hr2_1 h2_2 hx11166) fun a w v11682 hres hA => ?_
        obtain ⟨A11677, c11678, p11679, rfl, hS11672, hr11675, hr11676, hO11680⟩ := hres
        have hS := hS.callL hS11672 (PHeap.le.refl _)
        refine wpList_nil (tn (⟨⟨fun _ => (hS.pickO (is := [some 7, some 8]) rfl (by decide)), fun _ _ => (hS.pickO (is := [some 7, some 8]) rfl (by decide))⟩, ?_⟩))
        refine o_st tb hA hS hb11671 rfl rfl (i := 1) rfl rfl rfl rfl rfl rfl rfl fun w p11683 hS hb11684 => wpList_nil (tn (⟨⟨fun _ => (hS.pickO (is := [some 7, some 8]) rfl (by decide)), fun h => absurd h (by decide)⟩, ?_⟩))
        refine ⟨(hS.pickO (is := [some 7, some 8]) rfl (by decide)), ?_⟩
        refine qpr tb 1 hA rfl fun a hA => wpHold_nil (o_st tb hA hS hb11620 rfl rfl (i := 6) rfl rfl rfl rfl rfl rfl rfl fun w p11685 hS hb11686 => wpList_nil (tn (⟨⟨fun _ => (hS.pickO (is := [some 7, some 8]) rfl (by decide)), fun h => absurd h (by decide)⟩, ?_⟩)))
        refine tn ?_
        exact ⟨(x11161.Inputs, x11161.Nodes, x11161.Outs, x11163, x11165.Rows, x11165.Cols, x11165.Data), hF, _, _, _, _, _, _, _, _, _, _, _, _, _, _, _, _, _, _, _, hA.sub ⟨rfl, rfl, rfl, rfl, rfl, rfl, rfl, trivial⟩, hS.pick (is := [3, 4, 5, 1, 2, 0, 6, 7, 8]) rfl (by decide), hO11627, hO11632, hO11637, hb11684, hO11646, hr11675, hr11676, hO11680, hb11686⟩
      refine o_alloc tb hA hS rfl rfl rfl fun a w g11688 p11689 hA hS hb11690 => wpList_nil (tn (⟨⟨fun _ => (hS.pickO (is := [some 5, some 6]) rfl (by decide)), fun _ _ => (hS.pickO (is := [some 5, some 6]) rfl (by decide))⟩, ?_⟩))
      refine o_call1 hA fi6 rfl rfl rfl rfl (c_recoupref21_CopyBlocks (x0 := x1) hS.imm h1_0 hx11164) fun a w v11699 hres hA => ?_
      obtain ⟨A11694, c11695, p11696, rfl, hS11691, hO11697⟩ := hres
      have hS := hS.callL hS11691 (PHeap.le.refl _)
      refine wpList_nil (tn (⟨⟨fun _ => (hS.pickO (is := [some 6, some 7]) rfl (by decide)), fun _ _ => (hS.pickO (is := [some 6, some 7]) rfl (by decide))⟩, ?_⟩))
      refine o_call1 hA fi7 rfl rfl rfl rfl (c_recoupref03_Copy (x0 := x2) hS.imm hr2_0 hr2_1 h2_2 hx11166) fun a w v11710 hres hA => ?_
      obtain ⟨A11705, c11706, p11707, rfl, hS11700, hr11703, hr11704, hO11708⟩ := hres
      have hS := hS.callL hS11700 (PHeap.le.refl _)
      refine wpList_nil (tn (⟨⟨fun _ => (hS.pickO (is := [some 7, some 8]) rfl (by decide)), fun _ _ => (hS.pickO (is := [some 7, some 8]) rfl (by decide))⟩, ?_⟩))
      refine o_st tb hA hS hb11690 rfl rfl (i := 2) rfl rfl rfl rfl rfl rfl rfl fun w p11711 hS hb11712 => wpList_nil (tn (⟨⟨fun _ => (hS.pickO (is := [some 7, some 8]) rfl (by decide)), fun h => absurd h (by decide)⟩, ?_⟩))
      refine ⟨(hS.pickO (is := [some 7, some 8]) rfl (by decide)), ?_⟩
      refine qpr tb 1 hA rfl fun a hA => wpHold_nil (o_st tb hA hS hb11620 rfl rfl (i := 6) rfl rfl rfl rfl rfl rfl rfl fun w p11713 hS hb11714 => wpList_nil (tn (⟨⟨fun _ => (hS.pickO (is := [some 7, some 8]) rfl (by decide)), fun h => absurd h (by decide)⟩, ?_⟩)))
      refine tn ?_
      exact ⟨(x11161.Inputs, x11161.Nodes, x11161.Outs, x11163, x11165.Rows, x11165.Cols, x11165.Data), hF, _, _, _, _, _, _, _, _, _, _, _, _, _, _, _, _, _, _, _, hA.sub ⟨rfl, rfl, rfl, rfl, rfl, rfl, rfl, trivial⟩, hS.pick (is := [3, 4, 5, 2, 1, 0, 6, 7, 8]) rfl (by decide), hO11627, hO11632, hO11637, hb11712, hO11697, hr11703, hr11704, hO11708, hb11714⟩
    refine o_alloc tb hA hS rfl rfl rfl fun a w g11716 p11717 hA hS hb11718 => wpList_nil (tn (⟨⟨fun _ => (hS.pickO (is := [some 2, some 3]) rfl (by decide)), fun _ _ => (hS.pickO (is := [some 2, some 3]) rfl (by decide))⟩, ?_⟩))
    refine o_call1 hA fi5 rfl rfl rfl rfl (c_recoupref21_Copy (x0 := x0) hS.imm h0_0 h0_1 h0_2 hx11162) fun a w v11737 hres hA => ?_
    obtain ⟨A11722, c11723, p11724, A11727, c11728, p11729, A11732, c11733, p11734, rfl, hS11719, hO11725, hO11730, hO11735⟩ := hres
    have hS := hS.callL hS11719 (PHeap.le.refl _)
    refine wpList_nil (tn (⟨⟨fun _ => (hS.pickO (is := [some 5, some 6]) rfl (by decide)), fun _ _ => (hS.pickO (is := [some 5, some 6]) rfl (by decide))⟩, ?_⟩))
    refine o_call1 hA fi6 rfl rfl rfl rfl (c_recoupref21_CopyBlocks (x0 := x1) hS.imm h1_0 hx11164) fun a w v11746 hres hA => ?_
    obtain ⟨A11741, c11742, p11743, rfl, hS11738, hO11744⟩ := hres
    have hS := hS.callL hS11738 (PHeap.le.refl _)
    refine wpList_nil (tn (⟨⟨fun _ => (hS.pickO (is := [some 6, some 7]) rfl (by decide)), fun _ _ => (hS.pickO (is := [some 6, some 7]) rfl (by decide))⟩, ?_⟩))
    refine o_call1 hA fi7 rfl rfl rfl rfl (c_recoupref03_Copy (x0 := x2) hS.imm hr2_0 hr2_1 h2_2 hx11166) fun a w v11757 hres hA => ?_
    obtain ⟨A11752, c11753, p11754, rfl, hS11747, hr11750, hr11751, hO11755⟩ := hres
    have hS := hS.callL hS11747 (PHeap.le.refl _)
    refine wpList_nil (tn (⟨⟨fun _ => (hS.pickO (is := [some 7, some 8]) rfl (by decide)), fun _ _ => (hS.pickO (is := [some 7, some 8]) rfl (by decide))⟩, ?_⟩))
    refine o_st tb hA hS hb11718 rfl rfl (i := 5) rfl rfl rfl rfl rfl rfl rfl fun w p11758 hS hb11759 => wpList_nil (tn (⟨⟨fun _ => (hS.pickO (is := [some 7, some 8]) rfl (by decide)), fun h => absurd h (by decide)⟩, ?_⟩))
    refine ⟨(hS.pickO (is := [some 7, some 8]) rfl (by decide)), ?_⟩
    refine qpr tb 1 hA rfl fun a hA => wpHold_nil (o_st tb hA hS hb11620 rfl rfl (i := 6) rfl rfl rfl rfl rfl rfl rfl fun w p11760 hS hb11761 => wpList_nil (tn (⟨⟨fun _ => (hS.pickO (is := [some 7, some 8]) rfl (by decide)), fun h => absurd h (by decide)⟩, ?_⟩)))
    refine tn ?_
    exact ⟨(x11161.Inputs, x11161.Nodes, x11161.Outs, x11163, x11165.Rows, x11165.Cols, x11165.Data), hF, _, _, _, _, _, _, _, _, _, _, _, _, _, _, _, _, _, _, _, hA.sub ⟨rfl, rfl, rfl, rfl, rfl, rfl, rfl, trivial⟩, hS.pick (is := [2, 3, 4, 5, 1, 0, 6, 7, 8]) rfl (by decide), hO11725, hO11730, hO11735, hb11759, hO11744, hr11750, hr11751, hO11755, hb11761⟩
  rintro a w ⟨s9752, hF, g9754, p9755, A9757, c9758, p9759, A9762, c9763, p9764, A9767, c9768, p9769, A9772, c9773, p9774, g9778, p9779, A9783, c9784, p9785, hA, hS, hO9760, hO9765, hO9770, hb9756, hO9775, hr9781, hr9782, hO9786, hb9780⟩
  have hF := hK9751 s9752 hF
  refine wp_seq (wp_region_lit (o_ld tb hA hS hb9756 rfl (i := 3) rfl rfl rfl rfl rfl rfl fun a hA => ?_))
  obtain ⟨Hb11762, hSb11762, hleb11762, hplb11762⟩ := hS.freezeT (i := 0) rfl
  have hRb11763 := hO9760.rd2 hplb11762 hleb11762
  obtain ⟨Hb11764, hSb11764, hleb11764, hplb11764⟩ := hSb11762.freezeT (i := 1) rfl
  have hRb11765 : RdS (eSl eGTerm) Hb11764 A9762 c9763 s9752.2.1 := (hO9765.mono hleb11762).rd2 hplb11764 hleb11764
  obtain ⟨Hb11766, hSb11766, hleb11766, hplb11766⟩ := hSb11764.freezeT (i := 2) rfl
  have hRb11767 := (hO9770.mono (hleb11762.trans hleb11764)).rd2 hplb11766 hleb11766
  obtain ⟨r11768, hx11769, hF⟩ := hF
  refine o_call1 hA fi8 rfl rfl rfl rfl (c_flow_Trim (x0 := (⟨s9752.1, s9752.2.1, s9752.2.2.1⟩ : GFlow)) hSb11766.imm (hRb11763.mono (hleb11764.trans hleb11766)) (hRb11765.mono hleb11766) hRb11767 hx11769) fun a w v11789 hres hA => ?_
  obtain ⟨A11773, c11774, p11775, A11778, c11779, p11780, A11783, c11784, p11785, rfl, hS11770, hO11776, hO11781, hO11786, hr11788⟩ := hres
  have hS := hS.callL hS11770 ((hleb11762.trans hleb11764).trans hleb11766)
  have hO11790 := hO11776.flat (H' := H) (fun _ _ _ _ h => h)
  have hO11791 := hO11781.flat (H' := H) (fun _ _ _ _ h => h)
  have hO11792 := hO11786.flat (H' := H) (fun _ _ _ _ h => h)
  refine pr tb 3 hA rfl fun a hA => o_alloc tb hA hS rfl rfl rfl fun a w g11794 p11795 hA hS hb11796 => o_st tb hA hS hb11796 rfl rfl (i := 0) rfl rfl rfl rfl rfl rfl rfl fun w p11797 hS hb11798 => pr tb 1 hA rfl fun a hA => wpList_nil (tn (wp_seq (wp_region_lit (o_ld tb hA hS hb9780 rfl (i := 10) rfl rfl rfl rfl rfl rfl fun a hA => ?_))))
  obtain ⟨Hb11799, hSb11799, hleb11799, hplb11799⟩ := hS.freezeT (i := 9) rfl
  have hRb11800 := hO9786.rd2 hplb11799 hleb11799
  obtain ⟨r11801, hx11802, hF⟩ := hF
  refine o_call1 hA fi9 rfl rfl rfl rfl (c_flow_Of (x0 := (⟨s9752.2.2.2.2.1, s9752.2.2.2.2.2.1, s9752.2.2.2.2.2.2⟩ : GMatrix)) hSb11799.imm hr9781 hr9782 hRb11800 hx11802) fun a w v11822 hres hA => ?_
  obtain ⟨A11806, c11807, p11808, A11811, c11812, p11813, A11816, c11817, p11818, rfl, hS11803, hO11809, hO11814, hO11819, hr11821⟩ := hres
  have hS := hS.callL hS11803 hleb11799
  have hO11823 := hO11809.flat (H' := H) (fun _ _ _ _ h => h)
  have hO11824 := hO11814.flat (H' := H) (fun _ _ _ _ h => h)
  have hO11825 := hO11819.flat (H' := H) (fun _ _ _ _ h => h)
  refine pr tb 3 hA rfl fun a hA => o_alloc tb hA hS rfl rfl rfl fun a w g11827 p11828 hA hS hb11829 => o_st tb hA hS hb11829 rfl rfl (i := 0) rfl rfl rfl rfl rfl rfl rfl fun w p11830 hS hb11831 => pr tb 1 hA rfl fun a hA => wpList_nil (tn (wp_seq (wp_region_lit (o_ld tb hA hS hb9756 rfl (i := 11) rfl rfl rfl rfl rfl rfl fun a hA => pr tb 1 hA rfl fun a hA => ?_))))
  obtain ⟨H11832, hS, hle11832, hX11832, hpl11832⟩ := hS.freezeG (i := 8) rfl
  have hR11832 := hO9760.rd2 hpl11832 hle11832
  have hX11832 := (Ext.refl w0 H).trans hX11832
  obtain ⟨H11834, hS, hle11834, hX11834, hpl11834⟩ := hS.freezeG (i := 9) rfl
  have hR11834 := (hO9765.mono hle11832).rd2 hpl11834 hle11834
  have hR11834 : RdS (eSl eGTerm) H11834 A9762 c9763 s9752.2.1 := hR11834
  have hX11834 := hX11832.trans hX11834
  obtain ⟨H11836, hS, hle11836, hX11836, hpl11836⟩ := hS.freezeG (i := 10) rfl
  have hR11836 := (hO9770.mono (hle11832.trans hle11834)).rd2 hpl11836 hle11836
  have hX11836 := hX11834.trans hX11836
  obtain ⟨H11838, hS, hle11838, hX11838, hpl11838⟩ := hS.freezeG (i := 12) rfl
  have hR11838 := (hO9775.mono ((hle11832.trans hle11834).trans hle11836)).rd2 hpl11838 hle11838
  have hR11838 : RdS (eSl (eInt .u8 1)) H11838 A9772 c9773 s9752.2.2.2.1 := hR11838
  have hX11838 := hX11836.trans hX11838
  obtain ⟨r11840, hx11841, hF⟩ := hF
  refine o_call1 hA fi10 rfl rfl rfl rfl (c_flow_Run (x0 := (⟨s9752.1, s9752.2.1, s9752.2.2.1⟩ : GFlow)) (x1 := s9752.2.2.2.1) hS.imm (hR11832.mono ((hle11834.trans hle11836).trans hle11838)) (hR11834.mono (hle11836.trans hle11838)) (hR11836.mono hle11838) hR11838 hx11841) fun a w v11851 hres hA => ?_
  obtain ⟨H11844, A11845, c11846, p11847, rfl, hS11842, hX11843, hO11848, hr11850⟩ := hres
  have hX11853 := hX11838.later hS.ev.size hX11843
  have hle11852 := hX11843.le
  have hS := hS.callX hS11842 hX11843
  refine pr tb 5 hA rfl fun a hA => wpList_nil (tn (wp_seq (wp_seq (wp_region_lit (pr tb 1 hA rfl fun a hA => wpList_nil (tn ?_))))))
  obtain ⟨K12653, hF, hK12653⟩ := hF
  refine wp_cut1 (fun a w => ∃ (s12656 : List (List GTerm)), K12653 s12656 ∧ ∃ (A12657 : Option Addr) (c12658 : Nat) (p12659 : Piece) (p12662 : Piece), Fr (180, []) a [(1, Value.slice A1_0 (x1).length c1_0), (3, Value.pointer (some ⟨g7770, 0, none⟩)), (5, Value.pointer (some ⟨g7774, 0, none⟩)), (7, Value.pointer (some ⟨g9754, 0, none⟩)), (8, Value.slice A9772 (s9752.2.2.2.1).length c9773), (9, Value.pointer (some ⟨g9778, 0, none⟩)), (10, Value.pointer (some ⟨g11794, 0, none⟩)), (12, Value.pointer (some ⟨g11827, 0, none⟩)), (14, Value.slice A11845 (r11840.1).length c11846)] ∧ St noX w0 w H11844 [p12659, p11847, p11830, p11808, p11813, p11818, p12662, p11775, p11785, p9755, p9785, p9779, p7775, p7771] ∧ OwnD (roP eGTerm 41) 39 H11844 A12657 c12658 (s12656) p12659 ∧ Bx p12662 g11794 25 [Value.slice A11773 (r11768.1.Inputs).length c11774, Value.slice A12657 (s12656).length c12658, Value.slice A11783 (r11768.1.Outs).length c11784]) ?_ ?_
  · refine wp_block ?_
    obtain ⟨I12653, m12653, hIz12653, hIs12653⟩ := hF
    refine wp_iterP (s0 := ((0 : Int), r11768.1.Nodes)) I12653 m12653 (fun (s12655 : Int × List (List GTerm)) a w => ∃ (A12665 : Option Addr) (c12666 : Nat) (p12667 : Piece) (p12670 : Piece), Fr (180, []) a [(1, Value.slice A1_0 (x1).length c1_0), (3, Value.pointer (some ⟨g7770, 0, none⟩)), (5, Value.pointer (some ⟨g7774, 0, none⟩)), (7, Value.pointer (some ⟨g9754, 0, none⟩)), (8, Value.slice A9772 (s9752.2.2.2.1).length c9773), (9, Value.pointer (some ⟨g9778, 0, none⟩)), (10, Value.pointer (some ⟨g11794, 0, none⟩)), (12, Value.pointer (some ⟨g11827, 0, none⟩)), (14, Value.slice A11845 (r11840.1).length c11846), (16, Value.int .i64 s12655.1)] ∧ St noX w0 w H11844 [p12667, p11847, p11830, p11808, p11813, p11818, p12670, p11775, p11785, p9755, p9785, p9779, p7775, p7771] ∧ inR .i64 s12655.1 ∧ OwnD (roP eGTerm 41) 39 H11844 A12665 c12666 (s12655.2) p12667 ∧ Bx p12670 g11794 25 [Value.slice A11773 (r11768.1.Inputs).length c11774, Value.slice A12665 (s12655.2).length c12666, Value.slice A11783 (r11768.1.Outs).length c11784]) hIz12653 ⟨_, _, _, _, hA.sub ⟨rfl, rfl, rfl, rfl, rfl, rfl, rfl, rfl, rfl, rfl, trivial⟩, hS.pick (is := [7, 0, 1, 2, 3, 4, 5, 6, 8, 12, 14, 15, 16, 17]) rfl (by decide), (inR_c rfl), (hO11791.mono ((((hle11832.trans hle11834).trans hle11836).trans hle11838).trans hle11852)), hb11798⟩ ?_
    rintro s12655 a w ⟨A12665, c12666, p12667, p12670, hA, hS, hr12664, hO12668, hb12671⟩ hIi12653
    have hF := hIs12653 s12655 hIi12653
    refine wp_seq (wp_seq (wp_region_lit (pr tb 2 hA rfl fun a hA => o_ld tb hA hS hb12671 rfl (i := 6) rfl rfl rfl rfl rfl rfl fun a hA => pr tb 2 hA rfl fun a hA => wpList_nil (tn ?_))))
    rcases iteP hF with ⟨hc12672, hF⟩ | ⟨hc12672, hF⟩
    rotate_left
    · refine cF hA rfl (decide_eq_false hc12672) (wp_exit (te (te (be (tn ?_)))))
      exact ⟨(s12655.2), hF, _, _, _, _, hA.sub ⟨rfl, rfl, rfl, rfl, rfl, rfl, rfl, rfl, rfl, trivial⟩, hS, hO12668, hb12671⟩
    refine cT hA rfl (decide_eq_true hc12672) (wp_skip (tn (wp_seq (wp_block (wp_seq (wp_region_lit (pr tb 1 hA rfl fun a hA => wpList_nil (tn ?_))))))))
    obtain ⟨K12767, hF, hK12767⟩ := hF
    refine wp_cut1 (fun a w => ∃ (s12770 : List (List GTerm)), K12767 s12770 ∧ ∃ (A12771 : Option Addr) (c12772 : Nat) (p12773 : Piece) (p12776 : Piece), Fr (180, []) a [(1, Value.slice A1_0 (x1).length c1_0), (3, Value.pointer (some ⟨g7770, 0, none⟩)), (5, Value.pointer (some ⟨g7774, 0, none⟩)), (7, Value.pointer (some ⟨g9754, 0, none⟩)), (8, Value.slice A9772 (s9752.2.2.2.1).length c9773), (9, Value.pointer (some ⟨g9778, 0, none⟩)), (10, Value.pointer (some ⟨g11794, 0, none⟩)), (12, Value.pointer (some ⟨g11827, 0, none⟩)), (14, Value.slice A11845 (r11840.1).length c11846), (16, Value.int .i64 s12655.1)] ∧ St noX w0 w H11844 [p12773, p11847, p11830, p11808, p11813, p11818, p12776, p11775, p11785, p9755, p9785, p9779, p7775, p7771] ∧ OwnD (roP eGTerm 41) 39 H11844 A12771 c12772 (s12770) p12773 ∧ Bx p12776 g11794 25 [Value.slice A11773 (r11768.1.Inputs).length c11774, Value.slice A12771 (s12770).length c12772, Value.slice A11783 (r11768.1.Outs).length c11784]) ?_ ?_
    rotate_left
    · rintro a w ⟨s12770, hF, A12771, c12772, p12773, p12776, hA, hS, hO12774, hb12777⟩
      have hF := hK12767 s12770 hF
      refine bn (tn (wp_region_lit (pr tb 3 hA rfl fun a hA => wpList_nil (tn ?_))))
      exact ⟨(w64 (s12655.1 + 1), s12770), ⟨_, _, _, _, hA.sub ⟨rfl, rfl, rfl, rfl, rfl, rfl, rfl, rfl, rfl, rfl, trivial⟩, hS, (inR_wrap _ _), hO12774, hb12777⟩, hF.1, hF.2⟩
    refine wp_block ?_
    obtain ⟨I12767, m12767, hIz12767, hIs12767⟩ := hF
    refine wp_iterP (s0 := ((0 : Int), s12655.2)) I12767 m12767 (fun (s12769 : Int × List (List GTerm)) a w => ∃ (A12779 : Option Addr) (c12780 : Nat) (p12781 : Piece) (p12784 : Piece), Fr (180, []) a [(1, Value.slice A1_0 (x1).length c1_0), (3, Value.pointer (some ⟨g7770, 0, none⟩)), (5, Value.pointer (some ⟨g7774, 0, none⟩)), (7, Value.pointer (some ⟨g9754, 0, none⟩)), (8, Value.slice A9772 (s9752.2.2.2.1).length c9773), (9, Value.pointer (some ⟨g9778, 0, none⟩)), (10, Value.pointer (some ⟨g11794, 0, none⟩)), (12, Value.pointer (some ⟨g11827, 0, none⟩)), (14, Value.slice A11845 (r11840.1).length c11846), (16, Value.int .i64 s12655.1), (17, Value.int .i64 s12769.1)] ∧ St noX w0 w H11844 [p12781, p11847, p11830, p11808, p11813, p11818, p12784, p11775, p11785, p9755, p9785, p9779, p7775, p7771] ∧ inR .i64 s12769.1 ∧ OwnD (roP eGTerm 41) 39 H11844 A12779 c12780 (s12769.2) p12781 ∧ Bx p12784 g11794 25 [Value.slice A11773 (r11768.1.Inputs).length c11774, Value.slice A12779 (s12769.2).length c12780, Value.slice A11783 (r11768.1.Outs).length c11784]) hIz12767 ⟨_, _, _, _, hA.sub ⟨rfl, rfl, rfl, rfl, rfl, rfl, rfl, rfl, rfl, rfl, rfl, trivial⟩, hS, (inR_c rfl), hO12668, hb12671⟩ ?_
    rintro s12769 a w ⟨A12779, c12780, p12781, p12784, hA, hS, hr12778, hO12782, hb12785⟩ hIi12767
    have hF := hIs12767 s12769 hIi12767
    refine wp_seq (wp_seq (wp_region_lit (pr tb 2 hA rfl fun a hA => o_ld tb hA hS hb12785 rfl (i := 6) rfl rfl rfl rfl rfl rfl fun a hA => pr tb 1 hA rfl fun a hA => ?_)))
    obtain ⟨x12786, hx12787, hF⟩ := hF
    refine o_idxD tb hA hO12782 hx12787 rfl rfl rfl rfl rfl rfl rfl rfl fun a ad12788 hA hE12789 hat12790 => o_ldD tb hA hS hE12789 rfl (i := 0) rfl rfl rfl rfl rfl fun a A12791 c12792 q12793 hd12794 ho12795 hl12796 hO12797 hA => ?_
    have hO12797 : OwnS eGTerm 41 H11844 A12791 c12792 x12786 q12793 := hO12797
    refine pr tb 2 hA rfl fun a hA => wpList_nil (tn ?_)
    rcases iteP hF with ⟨hc12798, hF⟩ | ⟨hc12798, hF⟩
    rotate_left
    · refine cF hA rfl (decide_eq_false hc12798) (wp_exit (te (te (be (tn ?_)))))
      exact ⟨(s12769.2), hF, _, _, _, _, hA.sub ⟨rfl, rfl, rfl, rfl, rfl, rfl, rfl, rfl, rfl, rfl, trivial⟩, hS, hO12782, hb12785⟩
    refine cT hA rfl (decide_eq_true hc12798) (wp_skip (tn (wp_seq (wp_block (wp_region_lit (pr tb 1 hA rfl fun a hA => o_ld tb hA hS hb12785 rfl (i := 6) rfl rfl rfl rfl rfl rfl fun a hA => pr tb 1 hA rfl fun a hA => ?_))))))
    obtain ⟨x12799, hx12800, hF⟩ := hF
    refine o_idxD tb hA hO12782 hx12800 rfl rfl rfl rfl rfl rfl rfl rfl fun a ad12801 hA hE12802 hat12803 => o_ldD tb hA hS hE12802 rfl (i := 0) rfl rfl rfl rfl rfl fun a A12804 c12805 q12806 hd12807 ho12808 hl12809 hO12810 hA => ?_
    have hO12810 : OwnS eGTerm 41 H11844 A12804 c12805 x12799 q12806 := hO12810
    refine pr tb 2 hA rfl fun a hA => ?_
    obtain ⟨x12811, hx12812, hF⟩ := hF
    refine o_idxO tb hA hO12810 hx12812 rfl rfl rfl rfl rfl rfl rfl rfl fun a ad12813 hA hE12814 hat12815 => o_stDD (ro := (roP eGTerm 41)) (v := Value.agg #[Value.int .i64 77, Value.int .u8 0]) (y0 := (⟨(77 : Int), (0 : Int)⟩ : GTerm)) tb hA hS hO12782 hx12800 hat12803 hd12807 hat12815 (idx_some hx12812).2.2 ⟨rfl, (inR_c rfl), (inR_c rfl)⟩ rfl rfl (k := 0) rfl rfl rfl rfl rfl fun w p12816 hS hO12817 => ?_
    have hq12818 : (s12769.2).length = ((s12769.2).set (s12655.1).toNat ((x12799).set (s12769.1).toNat (⟨(77 : Int), (0 : Int)⟩ : GTerm))).length := (List.length_set ..).symm
    have hA := hA.re (d := 59) rfl (congrArg (fun n => Value.slice A12779 n c12780) hq12818)
    have hA := hA.re (d := 68) rfl (congrArg (fun n => Value.slice A12779 n c12780) hq12818)
    have hb12819 : Bx p12784 g11794 25 [Value.slice A11773 (r11768.1.Inputs).length c11774, Value.slice A12779 ((s12769.2).set (s12655.1).toNat ((x12799).set (s12769.1).toNat (⟨(77 : Int), (0 : Int)⟩ : GTerm))).length c12780, Value.slice A11783 (r11768.1.Outs).length c11784] := Eq.mp (by rw [← hq12818] <;> rfl) hb12785
    have hO12817 : OwnD (roP eGTerm 41) 39 H11844 A12779 c12780 ((s12769.2).set (s12655.1).toNat ((x12799).set (s12769.1).toNat (⟨(77 : Int), (0 : Int)⟩ : GTerm))) p12816 := hO12817
    refine wpList_nil (bn (tn (wp_region_lit (pr tb 3 hA rfl fun a hA => wpList_nil (tn ?_)))))
    exact ⟨(w64 (s12769.1 + 1), (s12769.2).set (s12655.1).toNat ((x12799).set (s12769.1).toNat (⟨(77 : Int), (0 : Int)⟩ : GTerm))), ⟨_, _, _, _, hA.sub ⟨rfl, rfl, rfl, rfl, rfl, rfl, rfl, rfl, rfl, rfl, rfl, trivial⟩, hS, (inR_wrap _ _), hO12817, hb12819⟩, hF.1, hF.2⟩
  rintro a w ⟨s12656, hF, A12657, c12658, p12659, p12662, hA, hS, hO12660, hb12663⟩
  have hF := hK12653 s12656 hF
  refine tn (wp_seq (wp_seq (wp_region_lit (pr tb 1 hA rfl fun a hA => wpList_nil (tn ?_)))))
  obtain ⟨K12929, hF, hK12929⟩ := hF
  refine wp_cut1 (fun a w => ∃ (s12932 : List Int), K12929 s12932 ∧ ∃ (A12933 : Option Addr) (c12934 : Nat) (p12935 : Piece) (p12938 : Piece), Fr (180, []) a [(1, Value.slice A1_0 (x1).length c1_0), (3, Value.pointer (some ⟨g7770, 0, none⟩)), (5, Value.pointer (some ⟨g7774, 0, none⟩)), (7, Value.pointer (some ⟨g9754, 0, none⟩)), (8, Value.slice A9772 (s9752.2.2.2.1).length c9773), (9, Value.pointer (some ⟨g9778, 0, none⟩)), (10, Value.pointer (some ⟨g11794, 0, none⟩)), (12, Value.pointer (some ⟨g11827, 0, none⟩)), (14, Value.slice A11845 (r11840.1).length c11846)] ∧ St noX w0 w H11844 [p12935, p12659, p11847, p11830, p11808, p11813, p11818, p12938, p11775, p9755, p9785, p9779, p7775, p7771] ∧ OwnS (eInt .i64 8) 3 H11844 A12933 c12934 (s12932) p12935 ∧ Bx p12938 g11794 25 [Value.slice A11773 (r11768.1.Inputs).length c11774, Value.slice A12657 (s12656).length c12658, Value.slice A12933 (s12932).length c12934]) ?_ ?_
  · refine wp_block ?_
    obtain ⟨I12929, m12929, hIz12929, hIs12929⟩ := hF
    refine wp_iterP (s0 := ((0 : Int), r11768.1.Outs)) I12929 m12929 (fun (s12931 : Int × List Int) a w => ∃ (A12941 : Option Addr) (c12942 : Nat) (p12943 : Piece) (p12946 : Piece), Fr (180, []) a [(1, Value.slice A1_0 (x1).length c1_0), (3, Value.pointer (some ⟨g7770, 0, none⟩)), (5, Value.pointer (some ⟨g7774, 0, none⟩)), (7, Value.pointer (some ⟨g9754, 0, none⟩)), (8, Value.slice A9772 (s9752.2.2.2.1).length c9773), (9, Value.pointer (some ⟨g9778, 0, none⟩)), (10, Value.pointer (some ⟨g11794, 0, none⟩)), (12, Value.pointer (some ⟨g11827, 0, none⟩)), (14, Value.slice A11845 (r11840.1).length c11846), (18, Value.int .i64 s12931.1)] ∧ St noX w0 w H11844 [p12943, p12659, p11847, p11830, p11808, p11813, p11818, p12946, p11775, p9755, p9785, p9779, p7775, p7771] ∧ inR .i64 s12931.1 ∧ OwnS (eInt .i64 8) 3 H11844 A12941 c12942 (s12931.2) p12943 ∧ Bx p12946 g11794 25 [Value.slice A11773 (r11768.1.Inputs).length c11774, Value.slice A12657 (s12656).length c12658, Value.slice A12941 (s12931.2).length c12942]) hIz12929 ⟨_, _, _, _, hA.sub ⟨rfl, rfl, rfl, rfl, rfl, rfl, rfl, rfl, rfl, rfl, trivial⟩, hS.pick (is := [8, 0, 1, 2, 3, 4, 5, 6, 7, 9, 10, 11, 12, 13]) rfl (by decide), (inR_c rfl), (hO11792.mono ((((hle11832.trans hle11834).trans hle11836).trans hle11838).trans hle11852)), hb12663⟩ ?_
    rintro s12931 a w ⟨A12941, c12942, p12943, p12946, hA, hS, hr12940, hO12944, hb12947⟩ hIi12929
    have hF := hIs12929 s12931 hIi12929
    refine wp_seq (wp_seq (wp_region_lit (pr tb 2 hA rfl fun a hA => o_ld tb hA hS hb12947 rfl (i := 7) rfl rfl rfl rfl rfl rfl fun a hA => pr tb 2 hA rfl fun a hA => wpList_nil (tn ?_))))
    rcases iteP hF with ⟨hc12948, hF⟩ | ⟨hc12948, hF⟩
    rotate_left
    · refine cF hA rfl (decide_eq_false hc12948) (wp_exit (te (te (be (tn ?_)))))
      exact ⟨(s12931.2), hF, _, _, _, _, hA.sub ⟨rfl, rfl, rfl, rfl, rfl, rfl, rfl, rfl, rfl, trivial⟩, hS, hO12944, hb12947⟩
    refine cT hA rfl (decide_eq_true hc12948) (wp_skip (tn (wp_seq (wp_block (wp_region_lit (pr tb 1 hA rfl fun a hA => o_ld tb hA hS hb12947 rfl (i := 7) rfl rfl rfl rfl rfl rfl fun a hA => pr tb 1 hA rfl fun a hA => ?_))))))
    obtain ⟨x12949, hx12950, hF⟩ := hF
    refine o_idxO tb hA hO12944 hx12950 rfl rfl rfl rfl rfl rfl rfl rfl fun a ad12951 hA hE12952 hat12953 => o_stO (v := Value.int .i64 (-1)) (y0 := ((-1) : Int)) tb hA hS hO12944 hat12953 ((idx_some hx12950).2.2) ⟨rfl, (inR_c rfl)⟩ rfl rfl (k := 0) rfl rfl rfl rfl rfl fun w p12954 hS hO12955 => ?_
    have hq12956 : (s12931.2).length = ((s12931.2).set (s12931.1).toNat ((-1) : Int)).length := (List.length_set ..).symm
    have hA := hA.re (d := 77) rfl (congrArg (fun n => Value.slice A12941 n c12942) hq12956)
    have hA := hA.re (d := 83) rfl (congrArg (fun n => Value.slice A12941 n c12942) hq12956)
    have hb12957 : Bx p12946 g11794 25 [Value.slice A11773 (r11768.1.Inputs).length c11774, Value.slice A12657 (s12656).length c12658, Value.slice A12941 ((s12931.2).set (s12931.1).toNat ((-1) : Int)).length c12942] := Eq.mp (by rw [← hq12956] <;> rfl) hb12947
    refine wpList_nil (bn (tn (wp_region_lit (pr tb 3 hA rfl fun a hA => wpList_nil (tn ?_)))))
    exact ⟨(w64 (s12931.1 + 1), (s12931.2).set (s12931.1).toNat ((-1) : Int)), ⟨_, _, _, _, hA.sub ⟨rfl, rfl, rfl, rfl, rfl, rfl, rfl, rfl, rfl, rfl, trivial⟩, hS, (inR_wrap _ _), hO12955, hb12957⟩, hF.1, hF.2⟩
  rintro a w ⟨s12932, hF, A12933, c12934, p12935, p12938, hA, hS, hO12936, hb12939⟩
  have hF := hK12929 s12932 hF
  refine tn (wp_seq (wp_seq (wp_region_lit (pr tb 1 hA rfl fun a hA => wpList_nil (tn ?_)))))
  obtain ⟨K13065, hF, hK13065⟩ := hF
  refine wp_cut1 (fun a w => ∃ (s13068 : List Int), K13065 s13068 ∧ ∃ (A13069 : Option Addr) (c13070 : Nat) (p13071 : Piece), Fr (180, []) a [(1, Value.slice A1_0 (x1).length c1_0), (3, Value.pointer (some ⟨g7770, 0, none⟩)), (5, Value.pointer (some ⟨g7774, 0, none⟩)), (7, Value.pointer (some ⟨g9754, 0, none⟩)), (8, Value.slice A9772 (s9752.2.2.2.1).length c9773), (9, Value.pointer (some ⟨g9778, 0, none⟩)), (12, Value.pointer (some ⟨g11827, 0, none⟩)), (14, Value.slice A11845 (r11840.1).length c11846)] ∧ St noX w0 w H11844 [p13071, p11847, p11830, p11808, p11813, p11818, p9755, p9785, p9779, p7775, p7771] ∧ OwnS (eInt .i64 8) 3 H11844 A13069 c13070 (s13068) p13071) ?_ ?_
  · refine wp_block ?_
    obtain ⟨I13065, m13065, hIz13065, hIs13065⟩ := hF
    refine wp_iterP (s0 := ((0 : Int), r11768.1.Inputs)) I13065 m13065 (fun (s13067 : Int × List Int) a w => ∃ (A13075 : Option Addr) (c13076 : Nat) (p13077 : Piece) (p13080 : Piece), Fr (180, []) a [(1, Value.slice A1_0 (x1).length c1_0), (3, Value.pointer (some ⟨g7770, 0, none⟩)), (5, Value.pointer (some ⟨g7774, 0, none⟩)), (7, Value.pointer (some ⟨g9754, 0, none⟩)), (8, Value.slice A9772 (s9752.2.2.2.1).length c9773), (9, Value.pointer (some ⟨g9778, 0, none⟩)), (10, Value.pointer (some ⟨g11794, 0, none⟩)), (12, Value.pointer (some ⟨g11827, 0, none⟩)), (14, Value.slice A11845 (r11840.1).length c11846), (19, Value.int .i64 s13067.1)] ∧ St noX w0 w H11844 [p13077, p12935, p12659, p11847, p11830, p11808, p11813, p11818, p13080, p9755, p9785, p9779, p7775, p7771] ∧ inR .i64 s13067.1 ∧ OwnS (eInt .i64 8) 3 H11844 A13075 c13076 (s13067.2) p13077 ∧ Bx p13080 g11794 25 [Value.slice A13075 (s13067.2).length c13076, Value.slice A12657 (s12656).length c12658, Value.slice A12933 (s12932).length c12934]) hIz13065 ⟨_, _, _, _, hA.sub ⟨rfl, rfl, rfl, rfl, rfl, rfl, rfl, rfl, rfl, rfl, trivial⟩, hS.pick (is := [8, 0, 1, 2, 3, 4, 5, 6, 7, 9, 10, 11, 12, 13]) rfl (by decide), (inR_c rfl), (hO11790.mono ((((hle11832.trans hle11834).trans hle11836).trans hle11838).trans hle11852)), hb12939⟩ ?_
    rintro s13067 a w ⟨A13075, c13076, p13077, p13080, hA, hS, hr13074, hO13078, hb13081⟩ hIi13065
    have hF := hIs13065 s13067 hIi13065
    refine wp_seq (wp_seq (wp_region_lit (pr tb 2 hA rfl fun a hA => o_ld tb hA hS hb13081 rfl (i := 8) rfl rfl rfl rfl rfl rfl fun a hA => pr tb 2 hA rfl fun a hA => wpList_nil (tn ?_))))
    rcases iteP hF with ⟨hc13082, hF⟩ | ⟨hc13082, hF⟩
    rotate_left
    · refine cF hA rfl (decide_eq_false hc13082) (wp_exit (te (te (be (tn ?_)))))
      exact ⟨(s13067.2), hF, _, _, _, hA.sub ⟨rfl, rfl, rfl, rfl, rfl, rfl, rfl, rfl, trivial⟩, hS.pick (is := [0, 3, 4, 5, 6, 7, 9, 10, 11, 12, 13]) rfl (by decide), hO13078⟩
    refine cT hA rfl (decide_eq_true hc13082) (wp_skip (tn (wp_seq (wp_block (wp_region_lit (pr tb 1 hA rfl fun a hA => o_ld tb hA hS hb13081 rfl (i := 8) rfl rfl rfl rfl rfl rfl fun a hA => pr tb 1 hA rfl fun a hA => ?_))))))
    obtain ⟨x13083, hx13084, hF⟩ := hF
    refine o_idxO tb hA hO13078 hx13084 rfl rfl rfl rfl rfl rfl rfl rfl fun a ad13085 hA hE13086 hat13087 => o_stO (v := Value.int .i64 (-2)) (y0 := ((-2) : Int)) tb hA hS hO13078 hat13087 ((idx_some hx13084).2.2) ⟨rfl, (inR_c rfl)⟩ rfl rfl (k := 0) rfl rfl rfl rfl rfl fun w p13088 hS hO13089 => ?_
    have hq13090 : (s13067.2).length = ((s13067.2).set (s13067.1).toNat ((-2) : Int)).length := (List.length_set ..).symm
    have hA := hA.re (d := 88) rfl (congrArg (fun n => Value.slice A13075 n c13076) hq13090)
    have hA := hA.re (d := 94) rfl (congrArg (fun n => Value.slice A13075 n c13076) hq13090)
    have hb13091 : Bx p13080 g11794 25 [Value.slice A13075 ((s13067.2).set (s13067.1).toNat ((-2) : Int)).length c13076, Value.slice A12657 (s12656).length c12658, Value.slice A12933 (s12932).length c12934] := Eq.mp (by rw [← hq13090] <;> rfl) hb13081
    refine wpList_nil (bn (tn (wp_region_lit (pr tb 3 hA rfl fun a hA => wpList_nil (tn ?_)))))
    exact ⟨(w64 (s13067.1 + 1), (s13067.2).set (s13067.1).toNat ((-2) : Int)), ⟨_, _, _, _, hA.sub ⟨rfl, rfl, rfl, rfl, rfl, rfl, rfl, rfl, rfl, rfl, trivial⟩, hS, (inR_wrap _ _), hO13089, hb13091⟩, hF.1, hF.2⟩
  rintro a w ⟨s13068, hF, A13069, c13070, p13071, hA, hS, hO13072⟩
  have hF := hK13065 s13068 hF
  refine tn (wp_seq (wp_seq (wp_region_lit (pr tb 1 hA rfl fun a hA => wpList_nil (tn ?_)))))
  obtain ⟨K14959, hF, hK14959⟩ := hF
  refine wp_cut1 (fun a w => ∃ (s14962 : Unit), K14959 s14962 ∧ Fr (180, []) a [(1, Value.slice A1_0 (x1).length c1_0), (3, Value.pointer (some ⟨g7770, 0, none⟩)), (5, Value.pointer (some ⟨g7774, 0, none⟩)), (7, Value.pointer (some ⟨g9754, 0, none⟩)), (8, Value.slice A9772 (s9752.2.2.2.1).length c9773), (9, Value.pointer (some ⟨g9778, 0, none⟩)), (12, Value.pointer (some ⟨g11827, 0, none⟩))] ∧ St noX w0 w H11844 [p11830, p11808, p11813, p11818, p9755, p9785, p9779, p7775, p7771]) ?_ ?_
  · refine wp_block ?_
    obtain ⟨I14959, m14959, hIz14959, hIs14959⟩ := hF
    refine wp_iterP (s0 := (r11840.1, (0 : Int))) I14959 m14959 (fun (s14961 : List (List Int) × Int) a w => ∃ (A14963 : Option Addr) (c14964 : Nat) (p14965 : Piece), Fr (180, []) a [(1, Value.slice A1_0 (x1).length c1_0), (3, Value.pointer (some ⟨g7770, 0, none⟩)), (5, Value.pointer (some ⟨g7774, 0, none⟩)), (7, Value.pointer (some ⟨g9754, 0, none⟩)), (8, Value.slice A9772 (s9752.2.2.2.1).length c9773), (9, Value.pointer (some ⟨g9778, 0, none⟩)), (12, Value.pointer (some ⟨g11827, 0, none⟩)), (14, Value.slice A14963 (s14961.1).length c14964), (20, Value.int .i64 s14961.2)] ∧ St noX w0 w H11844 [p14965, p11830, p11808, p11813, p11818, p9755, p9785, p9779, p7775, p7771] ∧ OwnD (roP (eInt .u8 1) 5) 27 H11844 A14963 c14964 (s14961.1) p14965 ∧ inR .i64 s14961.2) hIz14959 ⟨_, _, _, hA.sub ⟨rfl, rfl, rfl, rfl, rfl, rfl, rfl, rfl, rfl, trivial⟩, hS.pick (is := [1, 2, 3, 4, 5, 6, 7, 8, 9, 10]) rfl (by decide), hO11848, (inR_c rfl)⟩ ?_
    rintro s14961 a w ⟨A14963, c14964, p14965, hA, hS, hO14966, hr14968⟩ hIi14959
    have hF := hIs14959 s14961 hIi14959
    refine wp_seq (wp_seq (wp_region_lit (pr tb 4 hA rfl fun a hA => wpList_nil (tn ?_))))
    rcases iteP hF with ⟨hc14969, hF⟩ | ⟨hc14969, hF⟩
    rotate_left
    · refine cF hA rfl (decide_eq_false hc14969) (wp_exit (te (te (be (tn ?_)))))
      exact ⟨(()), hF, hA.sub ⟨rfl, rfl, rfl, rfl, rfl, rfl, rfl, trivial⟩, hS.pick (is := [1, 2, 3, 4, 5, 6, 7, 8, 9]) rfl (by decide)⟩
    refine cT hA rfl (decide_eq_true hc14969) (wp_skip (tn (wp_seq (wp_block (wp_seq (wp_region_lit (pr tb 1 hA rfl fun a hA => ?_)))))))
    obtain ⟨Hb14970, hSb14970, hleb14970, hplb14970⟩ := hS.freezeT (i := 0) rfl
    have hRb14971 : RdS (eSl (eInt .u8 1)) Hb14970 A14963 c14964 s14961.1 := hO14966.rd2 hplb14970 hleb14970
    obtain ⟨r14972, hx14973, hF⟩ := hF
    refine o_call1 hA fi6 rfl rfl rfl rfl (c_recoupref21_CopyBlocks (x0 := s14961.1) hSb14970.imm hRb14971 hx14973) fun a w v14982 hres hA => ?_
    obtain ⟨A14977, c14978, p14979, rfl, hS14974, hO14980⟩ := hres
    have hS := hS.callL hS14974 hleb14970
    have hO14983 := hO14980.flat (H' := H11844) (fun _ _ _ _ h => h)
    refine pr tb 1 hA rfl fun a hA => wpList_nil (tn (wp_seq (wp_region_lit (pr tb 2 hA rfl fun a hA => ?_))))
    obtain ⟨x14984, hx14985, hF⟩ := hF
    refine o_idxD tb hA hO14966 hx14985 rfl rfl rfl rfl rfl rfl rfl rfl fun a ad14986 hA hE14987 hat14988 => o_ldD tb hA hS hE14987 rfl (i := 1) rfl rfl rfl rfl rfl fun a A14989 c14990 q14991 hd14992 ho14993 hl14994 hO14995 hA => ?_
    have hO14995 : OwnS (eInt .u8 1) 5 H11844 A14989 c14990 x14984 q14991 := hO14995
    refine pr tb 3 hA rfl fun a hA => ?_
    obtain ⟨q15004, rst15005, hS15006, hO15007, hback15008⟩ := hS.row (k := 1) hO14966 hx14985 hat14988 hd14992 rfl
    have hO15007 : OwnS (eInt .u8 1) 5 H11844 A14989 c14990 x14984 q15004 := hO15007
    obtain ⟨hl14996, hF⟩ := hF
    refine o_call1 hA fi11 rfl rfl rfl rfl (c_recoupref01_Spoil (x0 := x14984) (x1 := (IntKind.wrap .u8 (w64 (s14961.2 + 1)))) hS15006.imm (fun g o h => ⟨(hS15006.own _ (List.mem_of_getElem? (i := 0) rfl) g o h).1, (hS15006.own _ (List.mem_of_getElem? (i := 0) rfl) g o h).2.1⟩) hO15007 (inR_wrap _ _) (ok_recoupref01_Spoil hl14996 (inR_wrap _ _))) fun a w v15003 hres hA => ?_
    obtain ⟨rfl, ys14997, p15000, hS15001, hO15002, hlen14998⟩ := hres
    have hin14999 := hO15002.inB
    have hF := hF ys14997 hlen14998 hin14999
    have hS15006 := hS15006.callLX (i := 0) rfl hS15001 (PHeap.le.refl _)
    obtain ⟨p15009, hS, hO15010⟩ := hback15008 w ys14997 _ hS15006 hO15002 hlen14998
    have hq15011 : (s14961.1).length = ((s14961.1).set (s14961.2).toNat ys14997).length := (List.length_set ..).symm
    have hA := hA.re (d := 14) rfl (congrArg (fun n => Value.slice A14963 n c14964) hq15011)
    have hA := hA.re (d := 98) rfl (congrArg (fun n => Value.slice A14963 n c14964) hq15011)
    have hA := hA.re (d := 103) rfl (congrArg (fun n => Value.slice A14963 n c14964) hq15011)
    have hA := hA.re (d := 105) rfl (congrArg (fun n => Value.slice A14963 n c14964) hq15011)
    have hO15010 : OwnD (roP (eInt .u8 1) 5) 27 H11844 A14963 c14964 ((s14961.1).set (s14961.2).toNat ys14997) p15009 := hO15010
    refine wpList_nil (tn (wp_seq (wp_region_lit (pr tb 3 hA rfl fun a hA => wpList_nil (tn ?_)))))
    obtain ⟨K15225, hF, hK15225⟩ := hF
    refine wp_cut1 (fun a w => ∃ (s15228 : Unit), K15225 s15228 ∧ Fr (180, []) a [(1, Value.slice A1_0 (x1).length c1_0), (3, Value.pointer (some ⟨g7770, 0, none⟩)), (5, Value.pointer (some ⟨g7774, 0, none⟩)), (7, Value.pointer (some ⟨g9754, 0, none⟩)), (8, Value.slice A9772 (s9752.2.2.2.1).length c9773), (9, Value.pointer (some ⟨g9778, 0, none⟩)), (12, Value.pointer (some ⟨g11827, 0, none⟩)), (14, Value.slice A14963 ((s14961.1).set (s14961.2).toNat ys14997).length c14964), (20, Value.int .i64 s14961.2)] ∧ St noX w0 w H11844 [p15009, p11830, p11808, p11813, p11818, p9755, p9785, p9779, p7775, p7771]) ?_ ?_
    rotate_left
    · rintro a w ⟨s15228, hF, hA, hS⟩
      have hF := hK15225 s15228 hF
      refine bn (tn (wp_region_lit (pr tb 3 hA rfl fun a hA => wpList_nil (tn ?_))))
      exact ⟨((s14961.1).set (s14961.2).toNat ys14997, w64 (s14961.2 + 1)), ⟨_, _, _, hA.sub ⟨rfl, rfl, rfl, rfl, rfl, rfl, rfl, rfl, rfl, trivial⟩, hS, hO15010, (inR_wrap _ _)⟩, hF.1, hF.2⟩
    refine wp_block ?_
    obtain ⟨I15225, m15225, hIz15225, hIs15225⟩ := hF
    refine wp_iterP (s0 := (w64 (s14961.2 + 1))) I15225 m15225 (fun (s15227 : Int) a w => Fr (180, []) a [(1, Value.slice A1_0 (x1).length c1_0), (3, Value.pointer (some ⟨g7770, 0, none⟩)), (5, Value.pointer (some ⟨g7774, 0, none⟩)), (7, Value.pointer (some ⟨g9754, 0, none⟩)), (8, Value.slice A9772 (s9752.2.2.2.1).length c9773), (9, Value.pointer (some ⟨g9778, 0, none⟩)), (12, Value.pointer (some ⟨g11827, 0, none⟩)), (14, Value.slice A14963 ((s14961.1).set (s14961.2).toNat ys14997).length c14964), (20, Value.int .i64 s14961.2), (21, Value.slice A14977 (r14972).length c14978), (22, Value.int .i64 s15227)] ∧ St noX w0 w H11844 [p14979, p15009, p11830, p11808, p11813, p11818, p9755, p9785, p9779, p7775, p7771] ∧ inR .i64 s15227) hIz15225 ⟨hA.sub ⟨rfl, rfl, rfl, rfl, rfl, rfl, rfl, rfl, rfl, rfl, rfl, trivial⟩, hS, (inR_wrap _ _)⟩ ?_
    rintro s15227 a w ⟨hA, hS, hr15229⟩ hIi15225
    have hF := hIs15225 s15227 hIi15225
    refine wp_seq (wp_seq (wp_region_lit (pr tb 4 hA rfl fun a hA => wpList_nil (tn ?_))))
    rcases iteP hF with ⟨hc15230, hF⟩ | ⟨hc15230, hF⟩
    rotate_left
    · refine cF hA rfl (decide_eq_false hc15230) (wp_exit (te (te (be (tn ?_)))))
      exact ⟨(()), hF, hA.sub ⟨rfl, rfl, rfl, rfl, rfl, rfl, rfl, rfl, rfl, trivial⟩, hS.pick (is := [1, 2, 3, 4, 5, 6, 7, 8, 9, 10]) rfl (by decide)⟩
    refine cT hA rfl (decide_eq_true hc15230) (wp_skip (tn (wp_seq (wp_block (wp_seq (rx (fun b w => St noX w0 w H11844 (bif b then [p14979, p15009, p11830, p11808, p11813, p11818, p9755, p9785, p9779, p7775, p7771] else [p14979, p15009, p11830, p11808, p11813, p11818, p9755, p9785, p9779, p7775, p7771])) [] (.q true [0, 1, 2, 3, 4, 5, 6, 7] (.e 8 (.q true [9] .z))) hmix (by decide +kernel) ?_))))))
    have hS := hS.drew
    refine ⟨(hS.pickO (is := [some 0, some 1, some 2, some 3, some 4, some 5, some 6, some 7, some 8, some 9, some 10]) rfl (by decide)), ?_⟩
    refine qpr tb 2 hA rfl fun a hA => ?_
    obtain ⟨x15299, hx15300, hF⟩ := hF
    refine q_idxD tb hA hO15010 hx15300 rfl rfl rfl rfl rfl rfl rfl rfl fun a ad15301 hA hE15302 hat15303 => q_ldD tb hA hE15302 rfl (i := 1) rfl rfl rfl rfl rfl fun a A15304 c15305 q15306 hd15307 ho15308 hl15309 hO15310 hA => ?_
    have hO15310 : OwnS (eInt .u8 1) 5 H11844 A15304 c15305 x15299 q15306 := hO15310
    refine qpr tb 2 hA rfl fun a hA => ?_
    obtain ⟨x15311, hx15312, hF⟩ := hF
    refine q_idxD tb hA hO14983 hx15312 rfl rfl rfl rfl rfl rfl rfl rfl fun a ad15313 hA hE15314 hat15315 => q_ldD tb hA hE15314 rfl (i := 0) rfl rfl rfl rfl rfl fun a A15316 c15317 q15318 hd15319 ho15320 hl15321 hO15322 hA => ?_
    have hO15322 : OwnS (eInt .u8 1) 5 H11844 A15316 c15317 x15311 q15318 := hO15322
    refine wpHold_nil ?_
    obtain ⟨Hb15323, hSb15323, hleb15323, hplb15323⟩ := hS.freezeT (i := 1) rfl
    have hRb15324 := hO15310.rd2 (hl15309.trans hplb15323) hleb15323
    obtain ⟨Hb15325, hSb15325, hleb15325, hplb15325⟩ := hSb15323.freezeT (i := 0) rfl
    have hRb15326 := (hO15322.mono hleb15323).rd2 (hl15321.trans hplb15325) hleb15325
    obtain ⟨r15327, hx15328, hF⟩ := hF
    refine o_call1 hA fi12 rfl rfl rfl rfl (c_recoupref01_Same (x0 := x15299) (x1 := x15311) hSb15325.imm (hRb15324.mono hleb15325) hRb15326 hx15328) fun a w v15332 hres hA => ?_
    obtain ⟨rfl, hS15329⟩ := hres
    have hS := hS.callL hS15329 (hleb15323.trans hleb15325)
    refine wpList_nil (tn (⟨⟨fun _ => (hS.pickO (is := [some 0, some 1, some 2, some 3, some 4, some 5, some 6, some 7, some 8, some 9, some 10]) rfl (by decide)), fun _ _ => (hS.pickO (is := [some 0, some 1, some 2, some 3, some 4, some 5, some 6, some 7, some 8, some 9, some 10]) rfl (by decide))⟩, ?_⟩))
    refine ⟨(hS.pickO (is := [some 0, some 1, some 2, some 3, some 4, some 5, some 6, some 7, some 8, some 9, some 10]) rfl (by decide)), ?_⟩
    refine qpr tb 1 hA rfl fun a hA => wpHold_nil (tn ?_)
    rcases iteP hF with ⟨hc15333, hF⟩ | ⟨hc15333, hF⟩
    · refine cF hA rfl (nf_of (hc15333)) (wp_skip (bn (tn (wp_region_lit (pr tb 3 hA rfl fun a hA => wpList_nil (tn ?_))))))
      exact ⟨(w64 (s15227 + 1)), ⟨hA.sub ⟨rfl, rfl, rfl, rfl, rfl, rfl, rfl, rfl, rfl, rfl, rfl, trivial⟩, hS, (inR_wrap _ _)⟩, hF.1, hF.2⟩
    refine cT hA rfl (nt_of (ff_of hc15333)) (wp_seq (wp_region_lit (pr tb 1 hA rfl fun a hA => wpList_nil (tn (wp_ret (br (tr (tr (br (tr (br ?_)))))))))))
    refine tr (tr (br (tr (tr (b_ret hA (rs := [.tmp 6]) rfl (.tmp rfl .nil) ?_)))))
    exact ⟨congrArg Value.bool hF, (hS.pick (is := []) rfl (by decide)).lower ((((hle11832.trans hle11834).trans hle11836).trans hle11838).trans hle11852)⟩
  rintro a w ⟨s14962, hF, hA, hS⟩
  have hF := hK14959 s14962 hF
  refine tn (wp_seq (wp_seq (wp_region_lit (pr tb 1 hA rfl fun a hA => wpList_nil (tn ?_)))))
  obtain ⟨K15441, hF, hK15441⟩ := hF
  refine wp_cut1 (fun a w => ∃ (s15444 : List Int), K15441 s15444 ∧ ∃ (A15445 : Option Addr) (c15446 : Nat) (p15447 : Piece), Fr (180, []) a [(1, Value.slice A1_0 (x1).length c1_0), (3, Value.pointer (some ⟨g7770, 0, none⟩)), (5, Value.pointer (some ⟨g7774, 0, none⟩)), (7, Value.pointer (some ⟨g9754, 0, none⟩)), (8, Value.slice A9772 (s9752.2.2.2.1).length c9773), (9, Value.pointer (some ⟨g9778, 0, none⟩))] ∧ St noX w0 w H11844 [p15447, p9755, p9785, p9779, p7775, p7771] ∧ OwnS (eInt .i64 8) 3 H11844 A15445 c15446 (s15444) p15447) ?_ ?_
  · refine wp_block ?_
    obtain ⟨I15441, m15441, hIz15441, hIs15441⟩ := hF
    refine wp_iterP (s0 := ((0 : Int), r11801.1.Inputs)) I15441 m15441 (fun (s15443 : Int × List Int) a w => ∃ (A15451 : Option Addr) (c15452 : Nat) (p15453 : Piece) (p15456 : Piece), Fr (180, []) a [(1, Value.slice A1_0 (x1).length c1_0), (3, Value.pointer (some ⟨g7770, 0, none⟩)), (5, Value.pointer (some ⟨g7774, 0, none⟩)), (7, Value.pointer (some ⟨g9754, 0, none⟩)), (8, Value.slice A9772 (s9752.2.2.2.1).length c9773), (9, Value.pointer (some ⟨g9778, 0, none⟩)), (12, Value.pointer (some ⟨g11827, 0, none⟩)), (23, Value.int .i64 s15443.1)] ∧ St noX w0 w H11844 [p15453, p15456, p11813, p11818, p9755, p9785, p9779, p7775, p7771] ∧ inR .i64 s15443.1 ∧ OwnS (eInt .i64 8) 3 H11844 A15451 c15452 (s15443.2) p15453 ∧ Bx p15456 g11827 25 [Value.slice A15451 (s15443.2).length c15452, Value.slice A11811 (r11801.1.Nodes).length c11812, Value.slice A11816 (r11801.1.Outs).length c11817]) hIz15441 ⟨_, _, _, _, hA.sub ⟨rfl, rfl, rfl, rfl, rfl, rfl, rfl, rfl, trivial⟩, hS.pick (is := [1, 0, 2, 3, 4, 5, 6, 7, 8]) rfl (by decide), (inR_c rfl), (hO11823.mono ((((hle11832.trans hle11834).trans hle11836).trans hle11838).trans hle11852)), hb11831⟩ ?_
    rintro s15443 a w ⟨A15451, c15452, p15453, p15456, hA, hS, hr15450, hO15454, hb15457⟩ hIi15441
    have hF := hIs15441 s15443 hIi15441
    refine wp_seq (wp_seq (wp_region_lit (pr tb 2 hA rfl fun a hA => o_ld tb hA hS hb15457 rfl (i := 1) rfl rfl rfl rfl rfl rfl fun a hA => pr tb 2 hA rfl fun a hA => wpList_nil (tn ?_))))
    rcases iteP hF with ⟨hc15458, hF⟩ | ⟨hc15458, hF⟩
    rotate_left
    · refine cF hA rfl (decide_eq_false hc15458) (wp_exit (te (te (be (tn ?_)))))
      exact ⟨(s15443.2), hF, _, _, _, hA.sub ⟨rfl, rfl, rfl, rfl, rfl, rfl, trivial⟩, hS.pick (is := [0, 4, 5, 6, 7, 8]) rfl (by decide), hO15454⟩
    refine cT hA rfl (decide_eq_true hc15458) (wp_skip (tn (wp_seq (wp_block (wp_region_lit (pr tb 1 hA rfl fun a hA => o_ld tb hA hS hb15457 rfl (i := 1) rfl rfl rfl rfl rfl rfl fun a hA => pr tb 1 hA rfl fun a hA => ?_))))))
    obtain ⟨x15459, hx15460, hF⟩ := hF
    refine o_idxO tb hA hO15454 hx15460 rfl rfl rfl rfl rfl rfl rfl rfl fun a ad15461 hA hE15462 hat15463 => o_stO (v := Value.int .i64 70) (y0 := (70 : Int)) tb hA hS hO15454 hat15463 ((idx_some hx15460).2.2) ⟨rfl, (inR_c rfl)⟩ rfl rfl (k := 0) rfl rfl rfl rfl rfl fun w p15464 hS hO15465 => ?_
    have hq15466 : (s15443.2).length = ((s15443.2).set (s15443.1).toNat (70 : Int)).length := (List.length_set ..).symm
    have hA := hA.re (d := 133) rfl (congrArg (fun n => Value.slice A15451 n c15452) hq15466)
    have hA := hA.re (d := 139) rfl (congrArg (fun n => Value.slice A15451 n c15452) hq15466)
    have hb15467 : Bx p15456 g11827 25 [Value.slice A15451 ((s15443.2).set (s15443.1).toNat (70 : Int)).length c15452, Value.slice A11811 (r11801.1.Nodes).length c11812, Value.slice A11816 (r11801.1.Outs).length c11817] := Eq.mp (by rw [← hq15466] <;> rfl) hb15457
    refine wpList_nil (bn (tn (wp_region_lit (pr tb 3 hA rfl fun a hA => wpList_nil (tn ?_)))))
    exact ⟨(w64 (s15443.1 + 1), (s15443.2).set (s15443.1).toNat (70 : Int)), ⟨_, _, _, _, hA.sub ⟨rfl, rfl, rfl, rfl, rfl, rfl, rfl, rfl, trivial⟩, hS, (inR_wrap _ _), hO15465, hb15467⟩, hF.1, hF.2⟩
  rintro a w ⟨s15444, hF, A15445, c15446, p15447, hA, hS, hO15448⟩
  have hF := hK15441 s15444 hF
  refine tn (wp_seq (wp_region_lit (o_ld tb hA hS hb9756 rfl (i := 1) rfl rfl rfl rfl rfl rfl fun a hA => pr tb 1 hA rfl fun a hA => ?_)))
  obtain ⟨r15468, hx15469, hF⟩ := hF
  refine o_call1 hA fi10 rfl rfl rfl rfl (c_flow_Run (x0 := (⟨s9752.1, s9752.2.1, s9752.2.2.1⟩ : GFlow)) (x1 := s9752.2.2.2.1) hS.imm (hR11832.mono (((hle11834.trans hle11836).trans hle11838).trans hle11852)) (hR11834.mono ((hle11836.trans hle11838).trans hle11852)) (hR11836.mono (hle11838.trans hle11852)) (hR11838.mono hle11852) hx15469) fun a w v15479 hres hA => ?_
  obtain ⟨H15472, A15473, c15474, p15475, rfl, hS15470, hX15471, hO15476, hr15478⟩ := hres
  have hX15481 := hX11853.later hS.ev.size hX15471
  have hle15480 := hX15471.le
  have hS := hS.callX hS15470 hX15471
  refine pr tb 5 hA rfl fun a hA => wpList_nil (tn (wp_seq (wp_region_lit (o_ld tb hA hS hb7772 rfl (i := 6) rfl rfl rfl rfl rfl rfl fun a hA => pr tb 1 hA rfl fun a hA => ?_))))
  obtain ⟨r15482, hx15483, hF⟩ := hF
  refine o_call1 hA fi13 rfl rfl rfl rfl (c_recoupref21_Run (x0 := x0) (x1 := x1) hS.imm (h0_0.mono (((((hle11832.trans hle11834).trans hle11836).trans hle11838).trans hle11852).trans hle15480)) (h0_1.mono (((((hle11832.trans hle11834).trans hle11836).trans hle11838).trans hle11852).trans hle15480)) (h0_2.mono (((((hle11832.trans hle11834).trans hle11836).trans hle11838).trans hle11852).trans hle15480)) (h1_0.mono (((((hle11832.trans hle11834).trans hle11836).trans hle11838).trans hle11852).trans hle15480)) hx15483) fun a w v15493 hres hA => ?_
  obtain ⟨A15487, c15488, p15489, rfl, hS15484, hO15490, hr15492⟩ := hres
  have hS := hS.callL hS15484 (PHeap.le.refl _)
  refine pr tb 5 hA rfl fun a hA => wpList_nil (tn (wp_seq (wp_region_lit ?_)))
  obtain ⟨r15494, hx15495, hF⟩ := hF
  refine o_call1 hA fi14 rfl rfl rfl rfl (c_recouplaw21_anchored hS.imm hx15495) fun a w v15499 hres hA => ?_
  obtain ⟨H15498, rfl, hS15496, hX15497⟩ := hres
  have hX15501 := hX15481.later hS.ev.size hX15497
  have hle15500 := hX15497.le
  have hS := hS.callX hS15496 hX15497
  refine pr tb 1 hA rfl fun a hA => ?_
  rcases iteP hF with ⟨hc15502, hF⟩ | ⟨hc15502, hF⟩
  rotate_left
  · have hA := hA.re (d := 155) rfl (congrArg Value.bool (ff_of hc15502 : _ = false))
    refine pr tb 25 hA rfl fun a hA => wpList_nil (tn (wp_ret (b_ret hA (rs := [.tmp 6]) rfl (.tmp rfl .nil) ?_)))
    exact ⟨congrArg Value.bool hF, (hS.pick (is := []) rfl (by decide)).lower ((((((hle11832.trans hle11834).trans hle11836).trans hle11838).trans hle11852).trans hle15480).trans hle15500)⟩
  have hA := hA.re (d := 155) rfl (congrArg Value.bool (hc15502 : _ = true))
  refine o_ld tb hA hS hb9756 rfl (i := 3) rfl rfl rfl rfl rfl rfl fun a hA => o_ld tb hA hS hb7772 rfl (i := 7) rfl rfl rfl rfl rfl rfl fun a hA => ?_
  obtain ⟨r15503, hx15504, hF⟩ := hF
  refine o_call1 hA fi15 rfl rfl rfl rfl (c_recoupref21_Same (x0 := (⟨s9752.1, s9752.2.1, s9752.2.2.1⟩ : GFlow)) (x1 := x0) hS.imm (hR11832.mono (((((hle11834.trans hle11836).trans hle11838).trans hle11852).trans hle15480).trans hle15500)) (hR11834.mono ((((hle11836.trans hle11838).trans hle11852).trans hle15480).trans hle15500)) (hR11836.mono (((hle11838.trans hle11852).trans hle15480).trans hle15500)) (h0_0.mono ((((((hle11832.trans hle11834).trans hle11836).trans hle11838).trans hle11852).trans hle15480).trans hle15500)) (h0_1.mono ((((((hle11832.trans hle11834).trans hle11836).trans hle11838).trans hle11852).trans hle15480).trans hle15500)) (h0_2.mono ((((((hle11832.trans hle11834).trans hle11836).trans hle11838).trans hle11852).trans hle15480).trans hle15500)) hx15504) fun a w v15508 hres hA => ?_
  obtain ⟨rfl, hS15505⟩ := hres
  have hS := hS.callL hS15505 (PHeap.le.refl _)
  refine pr tb 2 hA rfl fun a hA => ?_
  rcases iteP hF with ⟨hc15509, hF⟩ | ⟨hc15509, hF⟩
  rotate_left
  · have hA := hA.re (d := 160) rfl (congrArg Value.bool (ff_of hc15509 : _ = false))
    refine pr tb 20 hA rfl fun a hA => wpList_nil (tn (wp_ret (b_ret hA (rs := [.tmp 6]) rfl (.tmp rfl .nil) ?_)))
    exact ⟨congrArg Value.bool hF, (hS.pick (is := []) rfl (by decide)).lower ((((((hle11832.trans hle11834).trans hle11836).trans hle11838).trans hle11852).trans hle15480).trans hle15500)⟩
  have hA := hA.re (d := 160) rfl (congrArg Value.bool (hc15509 : _ = true))
  refine pr tb 2 hA rfl fun a hA => ?_
  obtain ⟨r15510, hx15511, hF⟩ := hF
  refine o_call1 hA fi16 rfl rfl rfl rfl (c_recoupref21_Blocks (x0 := s9752.2.2.2.1) (x1 := x1) hS.imm (hR11838.mono ((hle11852.trans hle15480).trans hle15500)) (h1_0.mono ((((((hle11832.trans hle11834).trans hle11836).trans hle11838).trans hle11852).trans hle15480).trans hle15500)) hx15511) fun a w v15515 hres hA => ?_
  obtain ⟨rfl, hS15512⟩ := hres
  have hS := hS.callL hS15512 (PHeap.le.refl _)
  refine pr tb 2 hA rfl fun a hA => ?_
  rcases iteP hF with ⟨hc15516, hF⟩ | ⟨hc15516, hF⟩
  rotate_left
  · have hA := hA.re (d := 165) rfl (congrArg Value.bool (ff_of hc15516 : _ = false))
    refine pr tb 15 hA rfl fun a hA => wpList_nil (tn (wp_ret (b_ret hA (rs := [.tmp 6]) rfl (.tmp rfl .nil) ?_)))
    exact ⟨congrArg Value.bool hF, (hS.pick (is := []) rfl (by decide)).lower ((((((hle11832.trans hle11834).trans hle11836).trans hle11838).trans hle11852).trans hle15480).trans hle15500)⟩
  have hA := hA.re (d := 165) rfl (congrArg Value.bool (hc15516 : _ = true))
  refine o_ld tb hA hS hb9780 rfl (i := 5) rfl rfl rfl rfl rfl rfl fun a hA => o_ld tb hA hS hb7776 rfl (i := 6) rfl rfl rfl rfl rfl rfl fun a hA => ?_
  obtain ⟨Hb15517, hSb15517, hleb15517, hplb15517⟩ := hS.freezeT (i := 4) rfl
  have hRb15518 := (hO9786.mono ((((((hle11832.trans hle11834).trans hle11836).trans hle11838).trans hle11852).trans hle15480).trans hle15500)).rd2 hplb15517 hleb15517
  obtain ⟨r15519, hx15520, hF⟩ := hF
  refine o_call1 hA fi17 rfl rfl rfl rfl (c_recoupref03_Like (x0 := (⟨s9752.2.2.2.2.1, s9752.2.2.2.2.2.1, s9752.2.2.2.2.2.2⟩ : GMatrix)) (x1 := x2) hSb15517.imm hr9781 hr9782 hRb15518 hr2_0 hr2_1 (h2_2.mono (((((((hle11832.trans hle11834).trans hle11836).trans hle11838).trans hle11852).trans hle15480).trans hle15500).trans hleb15517)) hx15520) fun a w v15524 hres hA => ?_
  obtain ⟨rfl, hS15521⟩ := hres
  have hS := hS.callL hS15521 hleb15517
  refine pr tb 2 hA rfl fun a hA => ?_
  rcases iteP hF with ⟨hc15525, hF⟩ | ⟨hc15525, hF⟩
  rotate_left
  · have hA := hA.re (d := 170) rfl (congrArg Value.bool (ff_of hc15525 : _ = false))
    refine pr tb 10 hA rfl fun a hA => wpList_nil (tn (wp_ret (b_ret hA (rs := [.tmp 6]) rfl (.tmp rfl .nil) ?_)))
    exact ⟨congrArg Value.bool hF, (hS.pick (is := []) rfl (by decide)).lower ((((((hle11832.trans hle11834).trans hle11836).trans hle11838).trans hle11852).trans hle15480).trans hle15500)⟩
  have hA := hA.re (d := 170) rfl (congrArg Value.bool (hc15525 : _ = true))
  refine pr tb 2 hA rfl fun a hA => ?_
  obtain ⟨Hb15526, hSb15526, hleb15526, hplb15526⟩ := hS.freezeT (i := 1) rfl
  have hRb15527 : RdS (eSl (eInt .u8 1)) Hb15526 A15473 c15474 r15468.1 := (hO15476.mono hle15500).rd2 hplb15526 hleb15526
  obtain ⟨Hb15528, hSb15528, hleb15528, hplb15528⟩ := hSb15526.freezeT (i := 0) rfl
  have hRb15529 : RdS (eSl (eInt .u8 1)) Hb15528 A15487 c15488 r15482.1 := (hO15490.mono (hle15500.trans hleb15526)).rd2 hplb15528 hleb15528
  obtain ⟨r15530, hx15531, hF⟩ := hF
  refine o_call1 hA fi16 rfl rfl rfl rfl (c_recoupref21_Blocks (x0 := r15468.1) (x1 := r15482.1) hSb15528.imm (hRb15527.mono hleb15528) hRb15529 hx15531) fun a w v15535 hres hA => ?_
  obtain ⟨rfl, hS15532⟩ := hres
  have hS := hS.callL hS15532 (hleb15526.trans hleb15528)
  refine pr tb 2 hA rfl fun a hA => ?_
  rcases iteP hF with ⟨hc15536, hF⟩ | ⟨hc15536, hF⟩
  · have hA := hA.re (d := 175) rfl (congrArg Value.bool (hc15536 : _ = true))
    refine pr tb 5 hA rfl fun a hA => wpList_nil (tn (wp_ret (b_ret hA (rs := [.tmp 6]) rfl (.tmp rfl .nil) ?_)))
    exact ⟨congrArg Value.bool hF, (hS.pick (is := []) rfl (by decide)).lower ((((((hle11832.trans hle11834).trans hle11836).trans hle11838).trans hle11852).trans hle15480).trans hle15500)⟩
  have hA := hA.re (d := 175) rfl (congrArg Value.bool (ff_of hc15536 : _ = false))
  refine pr tb 5 hA rfl fun a hA => wpList_nil (tn (wp_ret (b_ret hA (rs := [.tmp 6]) rfl (.tmp rfl .nil) ?_)))
  exact ⟨congrArg Value.bool hF, (hS.pick (is := []) rfl (by decide)).lower ((((((hle11832.trans hle11834).trans hle11836).trans hle11838).trans hle11852).trans hle15480).trans hle15500)⟩
end Go.RL
