/- Each function of the code, walked: it computes what its mirrored function says (part 3).
   Part of the proof of Rows.RegsFlowsSaid of the program 'recoup'. -/
import Derived.Test.YtoaimimdfddidaaGc2
set_option linter.unusedVariables false
set_option linter.unusedSimpArgs false
set_option linter.unusedSectionVars false
namespace Go.RL
open Go.Proofs
set_option maxRecDepth 20000
set_option maxHeartbeats 4000000
theorem c_regs_Run {w0 : World} {H : PHeap} (hI : ∀ b o, H b = some o → w0.heap[b]? = some o) {x0 : GProgram} {x1 : List (List Int)} {A0_0 : Option Addr} {c0_0 : Nat} (h0_0 : RdS eGStep H A0_0 c0_0 x0.Steps) (hr0_1 : inR .i64 x0.Regs) (hr0_2 : inR .i64 x0.Outs) (hr0_3 : inR .u64 x0.Reads) {A1_0 : Option Addr} {c1_0 : Nat} (h1_0 : RdS (eSl (eInt .u8 1)) H A1_0 c1_0 x1) {r : List (List Int) × Int} (hF : regs_Run x0 x1 = some r) :
    Calls Try.prog 21 [Value.agg #[Value.slice A0_0 (x0.Steps).length c0_0, Value.int .i64 x0.Regs, Value.int .i64 x0.Outs, Value.int .u64 x0.Reads], Value.slice A1_0 (x1).length c1_0].toArray w0 (Ret (fun v w => ∃ (A0 : Option Addr) (c0 : Nat) (p0 : Piece), v = Value.tuple #[Value.slice A0 (r.1).length c0, Value.int .i64 r.2] ∧ St noX w0 w H [p0] ∧ OwnD (roP (eInt .u8 1) 5) 27 H A0 c0 r.1 p0 ∧ inR .i64 r.2)) := by
  have hS := St.start hI noX
  unfold regs_Run at hF
  refine enter fi21.hfn rfl rfl rfl fun a hA => wp_seq (wp_region_lit (o_box hA hS rfl rfl rfl fun a w g16436 p16437 hA hS hb16438 => pr tb 2 hA rfl fun a hA => wpList_nil (tn (wp_scope_straight (wp_seq (wp_region_lit (pr tb 2 hA rfl fun a hA => o_box hA hS rfl rfl rfl fun a w g16440 p16441 hA hS hb16442 => pr tb 1 hA rfl fun a hA => ?_)))))))
  refine wpList_nil (tn (wp_seq (wp_seq (wp_region_lit (pr tb 3 hA rfl fun a hA => wpList_nil (tn ?_))))))
  obtain ⟨o16537, hx16537, hK16537⟩ := bind_some hF
  refine wp_cut1 (fun a w => ∃ (s16540 : Int), o16537 = .fall s16540 ∧ ∃ (p16542 : Piece), Fr (78, []) a [(2, Value.pointer (some ⟨g16436, 0, none⟩)), (6, Value.pointer (some ⟨g16440, 0, none⟩))] ∧ St noX w0 w H [p16542, p16437] ∧ inR .i64 s16540 ∧ Bx p16542 g16440 84 [Value.slice none 0 0, Value.slice none 0 0, Value.slice A1_0 (x1).length c1_0, Value.int .i64 s16540]) ?_ ?_
  · have hF := hx16537
    refine wp_block ?_
    have hbd16537 : (x1).length ≤ 9223372036854775807 := (Nat.le_trans (h1_0.len rfl) (by decide))
    refine wp_for0 (n := (x1).length) (s0 := ((0 : Int))) (fun (i16538 : Nat) (s16539 : Int) a w => ∃ (p16545 : Piece), Fr (78, []) a [(2, Value.pointer (some ⟨g16436, 0, none⟩)), (6, Value.pointer (some ⟨g16440, 0, none⟩)), (15, Value.slice A1_0 (x1).length c1_0), (16, Value.int .i64 ((x1).length : Int)), (17, Value.int .i64 (i16538 : Int))] ∧ St noX w0 w H [p16545, p16437] ∧ inR .i64 s16539 ∧ Bx p16545 g16440 84 [Value.slice none 0 0, Value.slice none 0 0, Value.slice A1_0 (x1).length c1_0, Value.int .i64 s16539]) hF ⟨_, hA.sub ⟨rfl, rfl, rfl, rfl, rfl, trivial⟩, hS, (inR_c rfl), hb16442⟩ ?_
    rintro After16537 i16538 s16539 a w ⟨p16545, hA, hS, hr16544, hb16546⟩ hin16537 hst16537 hge16537
    rcases Nat.lt_or_ge i16538 ((x1).length) with hlt16537 | hgt16537
    rotate_left
    · have hF := congrArg some (hge16537 hgt16537)
      refine wp_seq (wp_region_lit (pr tb 1 hA rfl fun a hA => wpList_nil (tn (wp_seq (cF hA rfl (decide_eq_false (show ¬ ((i16538 : Int) < ((x1).length : Int)) by omega)) (wp_exit (te (te (be (tn ?_))))))))))
      obtain rfl := Option.some.inj hF
      exact ⟨(s16539), rfl, _, hA.sub ⟨rfl, rfl, trivial⟩, hS, hr16544, hb16546⟩
    obtain ⟨cc16537, hF, hgo16537⟩ := hst16537 hlt16537
    refine wp_seq (wp_region_lit (pr tb 1 hA rfl fun a hA => wpList_nil (tn (wp_seq (cT hA rfl (decide_eq_true (show (i16538 : Int) < ((x1).length : Int) by omega)) (wp_skip (tn (wp_seq (wp_block (wp_seq (wp_region_lit ?_)))))))))))
    refine pr tb 1 hA rfl fun a hA => ?_
    obtain ⟨x16547, hx16548, hF⟩ := bind_some hF
    refine o_idxR tb hA h1_0 hx16548 rfl rfl rfl rfl rfl rfl rfl rfl fun a ad16549 hA hE16550 => o_ldR tb hA hS hE16550 rfl rfl rfl rfl rfl rfl fun a cs16551 hc16552 hA => ?_
    obtain ⟨A16553, c16554, rfl, hR16555⟩ := hc16552
    refine pr tb 2 hA rfl fun a hA => wpList_nil (tn (wp_seq (wp_seq (wp_region_lit (pr tb 2 hA rfl fun a hA => wpList_nil (tn ?_))))))
    rcases ite_some hF with ⟨hc16556, hF⟩ | ⟨hc16556, hF⟩
    · refine cT hA rfl (decide_eq_true hc16556) (wp_region_lit (pr tb 5 hA rfl fun a hA => o_st tb hA hS hb16546 rfl rfl (i := 0) rfl rfl rfl rfl rfl rfl rfl fun w p16557 hS hb16558 => wpList_nil (tn (wp_seq (wp_region_lit (pr tb 5 hA rfl fun a hA => o_ld tb hA hS hb16558 rfl (i := 0) rfl rfl rfl rfl rfl rfl fun a hA => pr tb 1 hA rfl fun a hA => wpList_nil (tn ?_)))))))
      rcases ite_some hF with ⟨hc16559, hF⟩ | ⟨hc16559, hF⟩
      · refine cF hA rfl (nf_of (decide_eq_true hc16559)) (wp_skip (bn (tn (wp_region_lit (pr tb 2 hA rfl fun a hA => wpList_nil (tn ?_))))))
        obtain rfl := Option.some.inj hF
        have hA := hA.re (d := 17) rfl (congrArg (Value.int .i64) (w64_succ hlt16537 hbd16537))
        exact ⟨(((x16547).length : Int)), ⟨_, hA.sub ⟨rfl, rfl, rfl, rfl, rfl, trivial⟩, hS, (inR_nat (Nat.le_trans (hR16555.len rfl) (by decide))), hb16558⟩, hlt16537, hgo16537⟩
      refine cT hA rfl (nt_of (decide_eq_false hc16559)) (wp_seq (wp_region_lit (pr tb 2 hA rfl fun a hA => wpList_nil (tn (wp_ret (br (tr (tr ?_))))))))
      obtain rfl := Option.some.inj hF
      have hF := congrArg some hgo16537
      refine br (tr ?_)
      obtain rfl := Option.some.inj hF
      have hF := hK16537
      refine tr (gr (b_ret hA (rs := [.tmp 4, .tmp 5]) rfl (.tmp rfl (.tmp rfl .nil)) ?_))
      obtain rfl := Option.some.inj hF
      have hS := hS.nil'
      exact ⟨_, _, _, rfl, hS.pick (is := [0]) rfl (by decide), OwnD.nil, (inR_c rfl)⟩
    refine cF hA rfl (decide_eq_false hc16556) (wp_skip (tn (wp_seq (wp_region_lit (pr tb 5 hA rfl fun a hA => o_ld tb hA hS hb16546 rfl (i := 0) rfl rfl rfl rfl rfl rfl fun a hA => pr tb 1 hA rfl fun a hA => wpList_nil (tn ?_))))))
    rcases ite_some hF with ⟨hc16561, hF⟩ | ⟨hc16561, hF⟩
    · refine cF hA rfl (nf_of (decide_eq_true hc16561)) (wp_skip (bn (tn (wp_region_lit (pr tb 2 hA rfl fun a hA => wpList_nil (tn ?_))))))
      obtain rfl := Option.some.inj hF
      have hA := hA.re (d := 17) rfl (congrArg (Value.int .i64) (w64_succ hlt16537 hbd16537))
      exact ⟨(s16539), ⟨_, hA.sub ⟨rfl, rfl, rfl, rfl, rfl, trivial⟩, hS, hr16544, hb16546⟩, hlt16537, hgo16537⟩
    refine cT hA rfl (nt_of (decide_eq_false hc16561)) (wp_seq (wp_region_lit (pr tb 2 hA rfl fun a hA => wpList_nil (tn (wp_ret (br (tr (tr ?_))))))))
    obtain rfl := Option.some.inj hF
    have hF := congrArg some hgo16537
    refine br (tr ?_)
    obtain rfl := Option.some.inj hF
    have hF := hK16537
    refine tr (gr (b_ret hA (rs := [.tmp 4, .tmp 5]) rfl (.tmp rfl (.tmp rfl .nil)) ?_))
    obtain rfl := Option.some.inj hF
    have hS := hS.nil'
    exact ⟨_, _, _, rfl, hS.pick (is := [0]) rfl (by decide), OwnD.nil, (inR_c rfl)⟩
  rintro a w ⟨s16540, rfl, p16542, hA, hS, hr16541, hb16543⟩
  have hF := hK16537
  refine tn (wp_seq (wp_seq (wp_region_lit (o_ld tb hA hS hb16438 rfl (i := 1) rfl rfl rfl rfl rfl rfl fun a hA => ?_))))
  obtain ⟨r16563, hx16564, hF⟩ := bind_some hF
  refine o_call1 hA fi35 rfl rfl rfl rfl (c_regs_may (x0 := x0) hS.imm h0_0 hr0_1 hr0_2 hr0_3 hx16564) fun a w v16568 hres hA => ?_
  obtain ⟨rfl, hS16565⟩ := hres
  have hS := hS.callL hS16565 (PHeap.le.refl _)
  refine pr tb 1 hA rfl fun a hA => wpList_nil (tn ?_)
  rcases ite_some hF with ⟨hc16569, hF⟩ | ⟨hc16569, hF⟩
  rotate_left
  · refine cT hA rfl (nt_of (ff_of hc16569)) (wp_seq (wp_region_lit (pr tb 2 hA rfl fun a hA => wpList_nil (tn (wp_ret (tr (gr (b_ret hA (rs := [.tmp 4, .tmp 5]) rfl (.tmp rfl (.tmp rfl .nil)) ?_))))))))
    obtain rfl := Option.some.inj hF
    have hS := hS.nil'
    exact ⟨_, _, _, rfl, hS.pick (is := [0]) rfl (by decide), OwnD.nil, (inR_c rfl)⟩
  refine cF hA rfl (nf_of (hc16569)) (wp_skip (tn ?_))
  obtain ⟨o16747, hx16747, hK16747⟩ := bind_some hF
  refine wp_cut (fun a w => ∃ (A16748 : Option Addr) (c16749 : Nat) (p16750 : Piece) (A16753 : Option Addr) (c16754 : Nat) (p16755 : Piece) (p16758 : Piece), Fr (78, []) a [(2, Value.pointer (some ⟨g16436, 0, none⟩)), (6, Value.pointer (some ⟨g16440, 0, none⟩))] ∧ St noX w0 w H [p16750, p16755, p16758, p16437] ∧ OwnD (roN (eInt .u8 1) 5) 27 H A16748 c16749 (o16747.1) p16750 ∧ OwnD (roN (eInt .u8 1) 5) 27 H A16753 c16754 (o16747.2) p16755 ∧ Bx p16758 g16440 84 [Value.slice A16748 (o16747.1).length c16749, Value.slice A16753 (o16747.2).length c16754, Value.slice A1_0 (x1).length c1_0, Value.int .i64 s16540]) ?_ ?_
  · have hF := hx16747
    refine rx (fun b w => St noX w0 w H (bif b then [emp, p16437] else [emp, p16437])) [10, 13] (.q true [0] (.q false [1] (.q true [2, 3] (.q false [5, 6] (.alt 4 (.q false [8] (.q true [9] (.alt 7 (.e 10 (.q false [11, 12] (.e 13 .z))) (.e 10 (.e 7 (.q false [11, 12] (.e 13 .z))))))) (.e 7 (.e 4 (.q false [8] (.q true [9] (.e 10 (.q false [11, 12] (.e 13 .z)))))))))))) hmix (by decide +kernel) ?_
    have hS := hS.drew
    refine ⟨(hS.pickO (is := [none, some 1]) rfl (by decide)), ?_⟩
    refine qpr tb 1 hA rfl fun a hA => wpHold_nil (⟨(hS.pickO (is := [none, some 1]) rfl (by decide)), ?_⟩)
    refine qpr tb 1 hA rfl fun a hA => wpHold_nil (⟨(hS.pickO (is := [none, some 1]) rfl (by decide)), ?_⟩)
    refine qpr tb 1 hA rfl fun a hA => q_ld tb hA hb16438 rfl (i := 1) rfl rfl rfl rfl rfl rfl fun a hA => wpHold_nil (⟨(hS.pickO (is := [none, some 1]) rfl (by decide)), ?_⟩)
    refine qpr tb 1 hA rfl fun a hA => q_ld tb hA hb16438 rfl (i := 1) rfl rfl rfl rfl rfl rfl fun a hA => wpHold_nil ?_
    obtain ⟨x16896, hx16897, hF⟩ := bind_some hF
    obtain ⟨x16898, hx16899, hF⟩ := bind_some hF
    refine ⟨?_, ?_⟩
    · refine o_makeD (ro := (roN (eInt .u8 1) 5)) tb hA hS hx16897 rfl rfl rfl rfl rfl rfl rfl rfl (fun _ => ⟨rfl, rfl⟩) rfl rfl fun a w A16900 p16901 hA hS hO16902 hN16904 => wpList_nil (tn (⟨⟨fun _ => (hS.pickO (is := [none, some 2]) rfl (by decide)), fun _ _ => (hS.pickO (is := [none, some 2]) rfl (by decide))⟩, ?_⟩))
      refine ⟨(hS.pickO (is := [none, some 2]) rfl (by decide)), ?_⟩
      refine qpr tb 1 hA rfl fun a hA => wpHold_nil (⟨(hS.pickO (is := [none, some 2]) rfl (by decide)), ?_⟩)
      refine qpr tb 1 hA rfl fun a hA => wpHold_nil ?_
      refine ⟨?_, ?_⟩
      · refine o_makeD (ro := (roN (eInt .u8 1) 5)) tb hA hS hx16899 rfl rfl rfl rfl rfl rfl rfl rfl (fun _ => ⟨rfl, rfl⟩) rfl rfl fun a w A16905 p16906 hA hS hO16907 hN16909 => wpList_nil (tn (⟨⟨fun _ => (hS.pickO (is := [none, some 3]) rfl (by decide)), fun _ _ => (hS.pickO (is := [none, some 3]) rfl (by decide))⟩, ?_⟩))
        refine o_st tb hA hS hb16543 rfl rfl (i := 2) rfl rfl rfl rfl rfl rfl rfl fun w p16910 hS hb16911 => wpList_nil (tn (⟨⟨fun _ => (hS.pickO (is := [none, some 3]) rfl (by decide)), fun h => absurd h (by decide)⟩, ?_⟩))
        refine ⟨(hS.pickO (is := [none, some 3]) rfl (by decide)), ?_⟩
        refine qpr tb 2 hA rfl fun a hA => wpHold_nil (o_st tb hA hS hb16911 rfl rfl (i := 2) rfl rfl rfl rfl rfl rfl rfl fun w p16912 hS hb16913 => wpList_nil (tn (⟨⟨fun _ => (hS.pickO (is := [none, some 3]) rfl (by decide)), fun h => absurd h (by decide)⟩, ?_⟩)))
        refine tn ?_
        obtain rfl := Option.some.inj hF
        exact ⟨_, _, _, _, _, _, _, hA.sub ⟨rfl, rfl, trivial⟩, hS.pick (is := [1, 0, 2, 3]) rfl (by decide), hO16902, hO16907, hb16913⟩
      refine o_st tb hA hS hb16543 rfl rfl (i := 1) rfl rfl rfl rfl rfl rfl rfl fun w p16914 hS hb16915 => wpList_nil (tn (⟨⟨fun _ => (hS.pickO (is := [none, some 2]) rfl (by decide)), fun h => absurd h (by decide)⟩, ?_⟩))
      refine o_makeD (ro := (roN (eInt .u8 1) 5)) tb hA hS hx16899 rfl rfl rfl rfl rfl rfl rfl rfl (fun _ => ⟨rfl, rfl⟩) rfl rfl fun a w A16916 p16917 hA hS hO16918 hN16920 => wpList_nil (tn (⟨⟨fun _ => (hS.pickO (is := [none, some 3]) rfl (by decide)), fun _ _ => (hS.pickO (is := [none, some 3]) rfl (by decide))⟩, ?_⟩))
      refine ⟨(hS.pickO (is := [none, some 3]) rfl (by decide)), ?_⟩
      refine qpr tb 2 hA rfl fun a hA => wpHold_nil (o_st tb hA hS hb16915 rfl rfl (i := 2) rfl rfl rfl rfl rfl rfl rfl fun w p16921 hS hb16922 => wpList_nil (tn (⟨⟨fun _ => (hS.pickO (is := [none, some 3]) rfl (by decide)), fun h => absurd h (by decide)⟩, ?_⟩)))
      refine tn ?_
      obtain rfl := Option.some.inj hF
      exact ⟨_, _, _, _, _, _, _, hA.sub ⟨rfl, rfl, trivial⟩, hS.pick (is := [1, 0, 2, 3]) rfl (by decide), hO16902, hO16918, hb16922⟩
    refine o_makeD (ro := (roN (eInt .u8 1) 5)) tb hA hS hx16899 rfl rfl rfl rfl rfl rfl rfl rfl (fun _ => ⟨rfl, rfl⟩) rfl rfl fun a w A16923 p16924 hA hS hO16925 hN16927 => wpList_nil (tn (⟨⟨fun _ => (hS.pickO (is := [none, some 2]) rfl (by decide)), fun _ _ => (hS.pickO (is := [none, some 2]) rfl (by decide))⟩, ?_⟩))
    refine o_makeD (ro := (roN (eInt .u8 1) 5)) tb hA hS hx16897 rfl rfl rfl rfl rfl rfl rfl rfl (fun _ => ⟨rfl, rfl⟩) rfl rfl fun a w A16928 p16929 hA hS hO16930 hN16932 => wpList_nil (tn (⟨⟨fun _ => (hS.pickO (is := [none, some 3]) rfl (by decide)), fun _ _ => (hS.pickO (is := [none, some 3]) rfl (by decide))⟩, ?_⟩))
    refine ⟨(hS.pickO (is := [none, some 3]) rfl (by decide)), ?_⟩
    refine qpr tb 1 hA rfl fun a hA => wpHold_nil (⟨(hS.pickO (is := [none, some 3]) rfl (by decide)), ?_⟩)
    refine qpr tb 1 hA rfl fun a hA => wpHold_nil (o_st tb hA hS hb16543 rfl rfl (i := 2) rfl rfl rfl rfl rfl rfl rfl fun w p16933 hS hb16934 => wpList_nil (tn (⟨⟨fun _ => (hS.pickO (is := [none, some 3]) rfl (by decide)), fun h => absurd h (by decide)⟩, ?_⟩)))
    refine ⟨(hS.pickO (is := [none, some 3]) rfl (by decide)), ?_⟩
    refine qpr tb 2 hA rfl fun a hA => wpHold_nil (o_st tb hA hS hb16934 rfl rfl (i := 2) rfl rfl rfl rfl rfl rfl rfl fun w p16935 hS hb16936 => wpList_nil (tn (⟨⟨fun _ => (hS.pickO (is := [none, some 3]) rfl (by decide)), fun h => absurd h (by decide)⟩, ?_⟩)))
    refine tn ?_
    obtain rfl := Option.some.inj hF
    exact ⟨_, _, _, _, _, _, _, hA.sub ⟨rfl, rfl, trivial⟩, hS, hO16930, hO16925, hb16936⟩
  rintro a w ⟨A16748, c16749, p16750, A16753, c16754, p16755, p16758, hA, hS, hO16751, hO16756, hb16759⟩
  have hF := hK16747
  refine wp_seq (wp_region_lit (pr tb 1 hA rfl fun a hA => wpList_nil (tn (wp_seq (wp_label (tn (wp_seq (wp_seq (wp_region_lit (pr tb 1 hA rfl fun a hA => o_ld tb hA hS hb16438 rfl (i := 3) rfl rfl rfl rfl rfl rfl fun a hA => ?_))))))))))
  refine pr tb 2 hA rfl fun a hA => wpList_nil (tn ?_)
  obtain ⟨o30146, hx30146, hK30146⟩ := bind_some hF
  refine wp_cut1 (fun a w => ∃ (A30149 : Option Addr) (c30150 : Nat) (p30151 : Piece) (A30154 : Option Addr) (c30155 : Nat) (p30156 : Piece) (p30159 : Piece), Fr (78, []) a [(6, Value.pointer (some ⟨g16440, 0, none⟩)), (9, Value.bool o30146.1)] ∧ St noX w0 w H [p30151, p30156, p30159] ∧ OwnD (roN (eInt .u8 1) 5) 27 H A30149 c30150 (o30146.2.1) p30151 ∧ OwnD (roN (eInt .u8 1) 5) 27 H A30154 c30155 (o30146.2.2) p30156 ∧ Bx p30159 g16440 84 [Value.slice A30149 (o30146.2.1).length c30150, Value.slice A30154 (o30146.2.2).length c30155, Value.slice A1_0 (x1).length c1_0, Value.int .i64 s16540]) ?_ ?_
  rotate_left
  · rintro a w ⟨A30149, c30150, p30151, A30154, c30155, p30156, p30159, hA, hS, hO30152, hO30157, hb30160⟩
    have hF := hK30146
    refine tn (wp_seq (wp_seq (wp_region_lit (pr tb 3 hA rfl fun a hA => ?_))))
    rcases ite_some hF with ⟨hc32803, hF⟩ | ⟨hc32803, hF⟩
    rotate_left
    · have hA := hA.re (d := 67) rfl (congrArg Value.bool (nt_of (ff_of hc32803) : _ = true))
      refine pr tb 6 hA rfl fun a hA => wpList_nil (tn (cT hA rfl rfl (wp_seq (wp_region_lit (pr tb 2 hA rfl fun a hA => wpList_nil (tn (wp_ret (tr (gr (b_ret hA (rs := [.tmp 4, .tmp 5]) rfl (.tmp rfl (.tmp rfl .nil)) ?_))))))))))
      obtain rfl := Option.some.inj hF
      have hS := hS.nil'
      exact ⟨_, _, _, rfl, hS.pick (is := [0]) rfl (by decide), OwnD.nil, (inR_c rfl)⟩
    have hA := hA.re (d := 67) rfl (congrArg Value.bool (nf_of (hc32803) : _ = false))
    refine pr tb 3 hA rfl fun a hA => o_ld tb hA hS hb30160 rfl (i := 2) rfl rfl rfl rfl rfl rfl fun a hA => o_inl hA fi37 rfl rfl rfl rfl (enter fi37.hfn rfl rfl rfl fun a1 hA1 => wp_seq (wp_region_lit (pr tb 1 hA1 rfl fun a1 hA1 => wpList_nil (tn (wp_seq (wp_region_lit (pr tb 2 hA1 rfl fun a1 hA1 => ?_)))))))
    obtain ⟨o32836, hx32836, hK32836⟩ := bind_some hF
    refine o_call1 (R := fun v w => v = Value.int .i64 o32836 ∧ St noX w0 w H [p30151, p30156, p30159] ∧ inR .i64 o32836) hA1 fi51 rfl rfl rfl rfl ?_ ?_
    rotate_left
    · rintro a1 w v ⟨rfl, hS, hr32837⟩ hA1
      have hF := hK32836
      refine pr tb 2 hA1 rfl fun a1 hA1 => wpList_nil (tn (wp_ret (b_ret hA1 (rs := [.tmp 4]) rfl (.tmp rfl .nil) ?_)))
      intro a hA
      refine pr tb 1 hA rfl fun a hA => wpList_nil (tn ?_)
      rcases ite_some hF with ⟨hc32870, hF⟩ | ⟨hc32870, hF⟩
      · refine cT hA rfl (decide_eq_true hc32870) (wp_seq (wp_region_lit (pr tb 2 hA rfl fun a hA => wpList_nil (tn (wp_ret (tr (gr (b_ret hA (rs := [.tmp 4, .tmp 5]) rfl (.tmp rfl (.tmp rfl .nil)) ?_))))))))
        obtain rfl := Option.some.inj hF
        have hS := hS.nil'
        exact ⟨_, _, _, rfl, hS.pick (is := [0]) rfl (by decide), OwnD.nil, (inR_c rfl)⟩
      refine cF hA rfl (decide_eq_false hc32870) (wp_skip (tn (wp_seq (wp_region_lit (pr tb 3 hA rfl fun a hA => o_ld tb hA hS hb30160 rfl (i := 2) rfl rfl rfl rfl rfl rfl fun a hA => pr tb 2 hA rfl fun a hA => wpList_nil (tn (wp_ret (gr ?_))))))))
      have hA := hA.re (d := 4) rfl (congrArg (fun n => Value.slice A30154 n c30155) (List.length_map (fun o => Option.getD o [])).symm)
      refine b_ret hA (rs := [.tmp 4, .tmp 5]) rfl (.tmp rfl (.tmp rfl .nil)) ?_
      obtain rfl := Option.some.inj hF
      exact ⟨_, _, _, rfl, hS.pick (is := [1]) rfl (by decide), hO30157.unN, (inR_c rfl)⟩
    have hF := hx32836
    refine enter fi51.hfn rfl rfl rfl fun a2 hA2 => wp_seq (wp_region_lit (pr tb 1 hA2 rfl fun a2 hA2 => wpList_nil (tn (wp_seq (wp_seq (wp_region_lit (pr tb 3 hA2 rfl fun a2 hA2 => wpList_nil (tn ?_))))))))
    obtain ⟨o32853, hx32853, hK32853⟩ := bind_some hF
    refine wp_cut1 (fun a w => ∃ (s32856 : Unit), o32853 = .fall s32856 ∧ Fr (19, []) a [] ∧ St noX w0 w H [p30151, p30156, p30159]) ?_ ?_
    rotate_left
    · rintro a w ⟨s32856, rfl, hA2, hS⟩
      have hF := hK32853
      refine tn (wp_seq (wp_region_lit (pr tb 1 hA2 rfl fun a2 hA2 => wpList_nil (tn (wp_ret (b_ret hA2 (rs := [.tmp 4]) rfl (.tmp rfl .nil) ?_))))))
      obtain rfl := Option.some.inj hF
      exact ⟨rfl, hS, (inR_c rfl)⟩
    have hF := hx32853
    refine wp_block ?_
    have hbd32853 : (o30146.2.2).length ≤ 9223372036854775807 := (Nat.le_trans (hO30157.len' rfl) (by decide))
    refine wp_for0 (n := (o30146.2.2).length) (s0 := (())) (fun (i32854 : Nat) (s32855 : Unit) a w => Fr (19, []) a [(0, Value.slice A30154 (o30146.2.2).length c30155), (1, Value.func (.func 38) #[] #[]), (7, Value.int .i64 ((o30146.2.2).length : Int)), (8, Value.int .i64 (i32854 : Int))] ∧ St noX w0 w H [p30151, p30156, p30159]) hF ⟨hA2.sub ⟨rfl, rfl, rfl, rfl, trivial⟩, hS⟩ ?_
    rintro After32853 i32854 s32855 a w ⟨hA2, hS⟩ hin32853 hst32853 hge32853
    rcases Nat.lt_or_ge i32854 ((o30146.2.2).length) with hlt32853 | hgt32853
    rotate_left
    · have hF := congrArg some (hge32853 hgt32853)
      refine wp_seq (wp_region_lit (pr tb 1 hA2 rfl fun a2 hA2 => wpList_nil (tn (wp_seq (cF hA2 rfl (decide_eq_false (show ¬ ((i32854 : Int) < ((o30146.2.2).length : Int)) by omega)) (wp_exit (te (te (be (tn ?_))))))))))
      obtain rfl := Option.some.inj hF
      exact ⟨(()), rfl, hA2.sub trivial, hS⟩
    obtain ⟨cc32853, hF, hgo32853⟩ := hst32853 hlt32853
    refine wp_seq (wp_region_lit (pr tb 1 hA2 rfl fun a2 hA2 => wpList_nil (tn (wp_seq (cT hA2 rfl (decide_eq_true (show (i32854 : Int) < ((o30146.2.2).length : Int) by omega)) (wp_skip (tn (wp_seq (wp_block (wp_seq (wp_region_lit ?_)))))))))))
    refine pr tb 2 hA2 rfl fun a2 hA2 => wpList_nil (tn (wp_seq (wp_region_lit (pr tb 3 hA2 rfl fun a2 hA2 => ?_))))
    obtain ⟨x32857, hx32858, hF⟩ := bind_some hF
    refine o_idxD tb hA2 hO30157 hx32858 rfl rfl rfl rfl rfl rfl rfl rfl fun a2 ad32859 hA2 hE32860 hat32861 => o_ldD tb hA2 hS hE32860 rfl (i := 1) rfl rfl rfl rfl rfl fun a2 A32862 c32863 q32864 hd32865 ho32866 hl32867 hO32868 hA2 => ?_
    have hO32868 : OwnS (eInt .u8 1) 5 H A32862 c32863 (x32857.getD []) q32864 := hO32868
    refine o_inl hA2 fi38 rfl rfl rfl rfl (enter fi38.hfn rfl rfl rfl fun a3 hA3 => wp_seq (wp_region_lit (pr tb 1 hA3 rfl fun a3 hA3 => wpList_nil (tn (wp_seq (wp_region_lit (pr tb 2 hA3 rfl fun a3 hA3 => ?_)))))))
    have hA3 := hA3.re (d := 4) rfl (congrArg (fun b => Value.bool b) (roN_nil ho32866))
    refine pr tb 1 hA3 rfl fun a3 hA3 => wpList_nil (tn (wp_ret (b_ret hA3 (rs := [.tmp 2]) rfl (.tmp rfl .nil) ?_)))
    intro a2 hA2
    refine wpList_nil (tn ?_)
    rcases ite_some hF with ⟨hc32869, hF⟩ | ⟨hc32869, hF⟩
    rotate_left
    · refine cF hA2 rfl (ff_of hc32869) (wp_skip (bn (tn (wp_region_lit (pr tb 2 hA2 rfl fun a2 hA2 => wpList_nil (tn ?_))))))
      obtain rfl := Option.some.inj hF
      have hA2 := hA2.re (d := 8) rfl (congrArg (Value.int .i64) (w64_succ hlt32853 hbd32853))
      exact ⟨(()), ⟨hA2.sub ⟨rfl, rfl, rfl, rfl, trivial⟩, hS⟩, hlt32853, hgo32853⟩
    refine cT hA2 rfl hc32869 (wp_seq (wp_region_lit (pr tb 2 hA2 rfl fun a2 hA2 => wpList_nil (tn (wp_ret (br (tr (tr ?_))))))))
    obtain rfl := Option.some.inj hF
    have hF := congrArg some hgo32853
    refine br (tr ?_)
    obtain rfl := Option.some.inj hF
    have hF := hK32853
    refine tr (b_ret hA2 (rs := [.tmp 4]) rfl (.tmp rfl .nil) ?_)
    obtain rfl := Option.some.inj hF
    exact ⟨rfl, hS, (inR_nat (by omega))⟩
  have hF := hx30146
  refine wp_block ?_
  have hbd30146 : (x0.Steps).length ≤ 9223372036854775807 := (Nat.le_trans (h0_0.len rfl) (by decide))
  refine wp_for0 (n := (x0.Steps).length) (s0 := (true, o16747.1, o16747.2)) (fun (i30147 : Nat) (s30148 : Bool × List (Option (List Int)) × List (Option (List Int))) a w => ∃ (A30161 : Option Addr) (c30162 : Nat) (p30163 : Piece) (A30166 : Option Addr) (c30167 : Nat) (p30168 : Piece) (p30171 : Piece), Fr (78, []) a [(6, Value.pointer (some ⟨g16440, 0, none⟩)), (9, Value.bool s30148.1), (53, Value.slice A0_0 (x0.Steps).length c0_0), (54, Value.int .i64 ((x0.Steps).length : Int)), (55, Value.int .i64 (i30147 : Int))] ∧ St noX w0 w H [p30163, p30168, p30171] ∧ OwnD (roN (eInt .u8 1) 5) 27 H A30161 c30162 (s30148.2.1) p30163 ∧ OwnD (roN (eInt .u8 1) 5) 27 H A30166 c30167 (s30148.2.2) p30168 ∧ Bx p30171 g16440 84 [Value.slice A30161 (s30148.2.1).length c30162, Value.slice A30166 (s30148.2.2).length c30167, Value.slice A1_0 (x1).length c1_0, Value.int .i64 s16540]) hF ⟨_, _, _, _, _, _, _, hA.sub ⟨rfl, rfl, rfl, rfl, rfl, trivial⟩, hS.pick (is := [0, 1, 2]) rfl (by decide), hO16751, hO16756, hb16759⟩ ?_
  rintro After30146 i30147 s30148 a w ⟨A30161, c30162, p30163, A30166, c30167, p30168, p30171, hA, hS, hO30164, hO30169, hb30172⟩ hin30146 hst30146 hge30146
  rcases Nat.lt_or_ge i30147 ((x0.Steps).length) with hlt30146 | hgt30146
  rotate_left
  · have hF := congrArg some (hge30146 hgt30146)
    refine wp_seq (wp_region_lit (pr tb 1 hA rfl fun a hA => wpList_nil (tn (wp_seq (cF hA rfl (decide_eq_false (show ¬ ((i30147 : Int) < ((x0.Steps).length : Int)) by omega)) (wp_exit (te (te (be (tn ?_))))))))))
    obtain rfl := Option.some.inj hF
    exact ⟨_, _, _, _, _, _, _, hA.sub ⟨rfl, rfl, trivial⟩, hS, hO30164, hO30169, hb30172⟩
  obtain ⟨cc30146, hF, hgo30146⟩ := hst30146 hlt30146
  refine wp_seq (wp_region_lit (pr tb 1 hA rfl fun a hA => wpList_nil (tn (wp_seq (cT hA rfl (decide_eq_true (show (i30147 : Int) < ((x0.Steps).length : Int) by omega)) (wp_skip (tn (wp_seq (wp_block (wp_seq (wp_region_lit ?_)))))))))))
  obtain ⟨x30173, hx30174, hF⟩ := bind_some hF
  refine o_idxR tb hA h0_0 hx30174 rfl rfl rfl rfl rfl rfl rfl rfl fun a ad30175 hA hE30176 => o_ldR tb hA hS hE30176 rfl rfl rfl rfl rfl rfl fun a cs30177 hc30178 hA => ?_
  obtain ⟨rfl, hr30179, hr30180, hr30181, hr30182⟩ := hc30178
  refine o_alloc tb hA hS rfl rfl rfl fun a w g30184 p30185 hA hS hb30186 => o_st tb hA hS hb30186 rfl rfl (i := 0) rfl rfl rfl rfl rfl rfl rfl fun w p30187 hS hb30188 => wpList_nil (tn (wp_seq (wp_region_lit (pr tb 1 hA rfl fun a hA => o_ld tb hA hS hb30188 rfl (i := 0) rfl rfl rfl rfl rfl rfl fun a hA => ?_))))
  obtain ⟨o31489, hx31489, hK31489⟩ := bind_some hF
  refine o_call1 (R := fun v w => ∃ (A31490 : Option Addr) (c31491 : Nat) (p31492 : Piece) (A31495 : Option Addr) (c31496 : Nat) (p31497 : Piece) (p31500 : Piece), v = Value.bool o31489.1 ∧ St noX w0 w H [p31492, p31497, p30187, p31500] ∧ OwnD (roN (eInt .u8 1) 5) 27 H A31490 c31491 (o31489.2.1) p31492 ∧ OwnD (roN (eInt .u8 1) 5) 27 H A31495 c31496 (o31489.2.2) p31497 ∧ Bx p31500 g16440 84 [Value.slice A31490 (o31489.2.1).length c31491, Value.slice A31495 (o31489.2.2).length c31496, Value.slice A1_0 (x1).length c1_0, Value.int .i64 s16540]) hA fi36 rfl rfl rfl rfl ?_ ?_
  rotate_left
  · rintro a w v ⟨A31490, c31491, p31492, A31495, c31496, p31497, p31500, rfl, hS, hO31493, hO31498, hb31501⟩ hA
    have hF := hK31489
    refine pr tb 1 hA rfl fun a hA => wpList_nil (tn (wp_seq (wp_region_lit (pr tb 2 hA rfl fun a hA => wpList_nil (tn ?_)))))
    rcases ite_some hF with ⟨hc32802, hF⟩ | ⟨hc32802, hF⟩
    · refine cF hA rfl (nf_of (hc32802)) (wp_skip (bn (tn (wp_region_lit (pr tb 2 hA rfl fun a hA => wpList_nil (tn ?_))))))
      obtain rfl := Option.some.inj hF
      have hA := hA.re (d := 55) rfl (congrArg (Value.int .i64) (w64_succ hlt30146 hbd30146))
      exact ⟨(o31489.1, o31489.2.1, o31489.2.2), ⟨_, _, _, _, _, _, _, hA.sub ⟨rfl, rfl, rfl, rfl, rfl, trivial⟩, hS.pick (is := [0, 1, 3]) rfl (by decide), hO31493, hO31498, hb31501⟩, hlt30146, hgo30146⟩
    refine cT hA rfl (nt_of (ff_of hc32802)) (wp_exit (bo rfl (te (te ?_))))
    obtain rfl := Option.some.inj hF
    have hF := congrArg some hgo30146
    refine be (tn ?_)
    obtain rfl := Option.some.inj hF
    exact ⟨_, _, _, _, _, _, _, hA.sub ⟨rfl, rfl, trivial⟩, hS.pick (is := [0, 1, 3]) rfl (by decide), hO31493, hO31498, hb31501⟩
  have hF := hx31489
  refine enter fi36.hfn rfl rfl rfl fun a1 hA1 => wp_seq (wp_region_lit (o_box hA1 hS rfl rfl rfl fun a1 w g31503 p31504 hA1 hS hb31505 => pr tb 1 hA1 rfl fun a1 hA1 => wpList_nil (tn (wp_seq (wp_seq (wp_region_lit (pr tb 1 hA1 rfl fun a1 hA1 => o_ld tb hA1 hS hb31505 rfl (i := 0) rfl rfl rfl rfl rfl rfl fun a1 hA1 => wpList_nil ?_)))))))
  refine tn (wp_block (wp_seq (wp_region_lit (pr tb 2 hA1 rfl fun a1 hA1 => wpList_nil (tn ?_)))))
  rcases ite_some hF with ⟨hc31506, hF⟩ | ⟨hc31506, hF⟩
  · refine cT hA1 rfl (decide_eq_true hc31506) (wp_seq (wp_seq (rx (fun b w => St noX w0 w H (bif b then [p31504, p30187, p30163, p30168, p30171] else [p31504, p30187, p30163, p30168, p30171])) [] (.q true [0, 1, 2, 3, 4, 5] (.e 6 (.q true [7] .z))) hmix (by decide +kernel) ?_)))
    have hS := hS.drew
    refine ⟨(hS.pickO (is := [some 0, some 1, some 2, some 3, some 4]) rfl (by decide)), ?_⟩
    refine qpr tb 1 hA1 rfl fun a1 hA1 => q_ld tb hA1 hb31505 rfl (i := 0) rfl rfl rfl rfl rfl rfl fun a1 hA1 => qpr tb 3 hA1 rfl fun a1 hA1 => q_ld tb hA1 hb30172 rfl (i := 4) rfl rfl rfl rfl rfl rfl fun a1 hA1 => wpHold_nil ?_
    have hA1 := hA1.re (d := 16) rfl (congrArg (fun n => Value.slice A30161 n c30162) (List.length_map (fun o => Option.getD o [])).symm)
    obtain ⟨Hb31523, hSb31523, hleb31523, hplb31523⟩ := hS.freezeT (i := 2) rfl
    have hRb31524 : RdS (eSl (eInt .u8 1)) Hb31523 A30161 c30162 ((s30148.2.1).map (fun o => Option.getD o [])) := RdS.unN (hO30164.rd2 hplb31523 hleb31523)
    obtain ⟨r31525, hx31526, hF⟩ := bind_some hF
    refine o_call1 hA1 fi50 rfl rfl rfl rfl (c_regs_in (x0 := x30173.D) (x1 := ((s30148.2.1).map (fun o => Option.getD o []))) hSb31523.imm hr30180 hRb31524 hx31526) fun a1 w v31530 hres hA1 => ?_
    obtain ⟨rfl, hS31527⟩ := hres
    have hA1 := hA1.re (d := 16) rfl (congrArg (fun n => Value.slice A30161 n c30162) (List.length_map (fun o => Option.getD o [])))
    have hS := hS.callL hS31527 hleb31523
    refine wpList_nil (tn (⟨⟨fun _ => (hS.pickO (is := [some 0, some 1, some 2, some 3, some 4]) rfl (by decide)), fun _ _ => (hS.pickO (is := [some 0, some 1, some 2, some 3, some 4]) rfl (by decide))⟩, ?_⟩))
    refine ⟨(hS.pickO (is := [some 0, some 1, some 2, some 3, some 4]) rfl (by decide)), ?_⟩
    refine qpr tb 1 hA1 rfl fun a1 hA1 => wpHold_nil (tn ?_)
    rcases ite_some hF with ⟨hc31531, hF⟩ | ⟨hc31531, hF⟩
    rotate_left
    · refine cT hA1 rfl (nt_of (ff_of hc31531)) (wp_seq (wp_region_lit (pr tb 1 hA1 rfl fun a1 hA1 => wpList_nil (tn (wp_ret (tr (br (tr (b_ret hA1 (rs := [.tmp 4]) rfl (.tmp rfl .nil) ?_)))))))))
      obtain rfl := Option.some.inj hF
      exact ⟨_, _, _, _, _, _, _, rfl, hS.pick (is := [2, 3, 1, 4]) rfl (by decide), hO30164, hO30169, hb30172⟩
    refine cF hA1 rfl (nf_of (hc31531)) (wp_skip (tn (rx (fun b w => St noX w0 w H (bif b then [p31504, p30187, p30163, p30168, p30171] else [p31504, p30187, emp, p30168, p30171])) [12] (.q true [0, 1, 2, 3, 4, 5, 6, 7, 8, 9] (.e 10 (.q true [11] (.e 12 .z)))) hmix (by decide +kernel) ?_)))
    have hS := hS.drew
    refine ⟨(hS.pickO (is := [some 0, some 1, some 2, some 3, some 4]) rfl (by decide)), ?_⟩
    refine qpr tb 3 hA1 rfl fun a1 hA1 => q_ld tb hA1 hb30172 rfl (i := 4) rfl rfl rfl rfl rfl rfl fun a1 hA1 => qpr tb 1 hA1 rfl fun a1 hA1 => q_ld tb hA1 hb31505 rfl (i := 0) rfl rfl rfl rfl rfl rfl fun a1 hA1 => qpr tb 3 hA1 rfl fun a1 hA1 => q_ld tb hA1 hb30172 rfl (i := 4) rfl rfl rfl rfl rfl rfl fun a1 hA1 => wpHold_nil ?_
    obtain ⟨z31566, hz31567, hF⟩ := bind_some hF
    refine o_make (e := (eInt .u8 1)) tb hA1 hS hz31567 rfl rfl rfl rfl rfl rfl rfl (fun _ => ⟨rfl, (inR_c rfl)⟩) rfl rfl rfl fun a1 w A31568 p31569 hA1 hS hO31570 hN31572 => wpList_nil (tn (⟨⟨fun _ => (hS.pickO (is := [some 1, some 2, none, some 4, some 5]) rfl (by decide)), fun _ _ => (hS.pickO (is := [some 1, some 2, some 3, some 4, some 5]) rfl (by decide))⟩, ?_⟩))
    refine ⟨(hS.pickO (is := [some 1, some 2, some 3, some 4, some 5]) rfl (by decide)), ?_⟩
    obtain ⟨x31573, hx31574, hF⟩ := bind_some hF
    refine q_idxD tb hA1 hO30164 hx31574 rfl rfl rfl rfl rfl rfl rfl rfl fun a1 ad31575 hA1 hE31576 hat31577 => wpHold_nil (o_stD (ro := (roN (eInt .u8 1) 5)) (b := (some z31566)) (h := ((A31568, (z31566).length, (z31566).length) : Hd)) tb hA1 hS hO30164 hx31574 hat31577 ⟨hN31572, rfl, hO31570⟩ rfl rfl (k := 3) (k2 := 0) rfl rfl rfl rfl rfl rfl rfl fun w p31578 hS hO31579 => ?_)
    have hq31581 : (s30148.2.1).length = ((s30148.2.1).set (x30173.D).toNat (some z31566)).length := (List.length_set ..).symm
    have hA1 := hA1.re (d := 16) rfl (congrArg (fun n => Value.slice A30161 n c30162) hq31581)
    have hA1 := hA1.re (d := 22) rfl (congrArg (fun n => Value.slice A30161 n c30162) hq31581)
    have hb31582 : Bx p30171 g16440 84 [Value.slice A30161 ((s30148.2.1).set (x30173.D).toNat (some z31566)).length c30162, Value.slice A30166 (s30148.2.2).length c30167, Value.slice A1_0 (x1).length c1_0, Value.int .i64 s16540] := Eq.mp (by rw [← hq31581] <;> rfl) hb30172
    refine wpList_nil (tn (⟨⟨fun _ => (hS.pickO (is := [some 1, some 2, none, some 4, some 5]) rfl (by decide)), fun h => absurd h (by decide)⟩, ?_⟩))
    refine bn (tn (wp_seq (wp_region_lit (pr tb 1 hA1 rfl fun a1 hA1 => wpList_nil (tn (wp_ret (b_ret hA1 (rs := [.tmp 4]) rfl (.tmp rfl .nil) ?_)))))))
    obtain rfl := Option.some.inj hF
    exact ⟨_, _, _, _, _, _, _, rfl, hS.pick (is := [3, 4, 2, 5]) rfl (by decide), hO31579, hO30169, hb31582⟩
  refine cF hA1 rfl (decide_eq_false hc31506) (wp_seq (wp_region_lit (pr tb 2 hA1 rfl fun a1 hA1 => wpList_nil (tn ?_))))
  rcases ite_some hF with ⟨hc31583, hF⟩ | ⟨hc31583, hF⟩
  · refine cT hA1 rfl (decide_eq_true hc31583) (wp_seq (wp_seq (rx (fun b w => St noX w0 w H (bif b then [p31504, p30187, p30163, p30168, p30171] else [p31504, p30187, p30163, p30168, p30171])) [] (.q true [0, 1, 2, 3, 4, 5] (.e 6 (.q true [7, 8, 9, 10, 11, 12, 13, 14] (.e 15 (.q true [16, 17] .z))))) hmix (by decide +kernel) ?_)))
    have hS := hS.drew
    refine ⟨(hS.pickO (is := [some 0, some 1, some 2, some 3, some 4]) rfl (by decide)), ?_⟩
    refine qpr tb 1 hA1 rfl fun a1 hA1 => q_ld tb hA1 hb31505 rfl (i := 0) rfl rfl rfl rfl rfl rfl fun a1 hA1 => qpr tb 3 hA1 rfl fun a1 hA1 => q_ld tb hA1 hb30172 rfl (i := 4) rfl rfl rfl rfl rfl rfl fun a1 hA1 => wpHold_nil ?_
    have hA1 := hA1.re (d := 38) rfl (congrArg (fun n => Value.slice A30161 n c30162) (List.length_map (fun o => Option.getD o [])).symm)
    obtain ⟨Hb31660, hSb31660, hleb31660, hplb31660⟩ := hS.freezeT (i := 2) rfl
    have hRb31661 : RdS (eSl (eInt .u8 1)) Hb31660 A30161 c30162 ((s30148.2.1).map (fun o => Option.getD o [])) := RdS.unN (hO30164.rd2 hplb31660 hleb31660)
    obtain ⟨r31662, hx31663, hF⟩ := bind_some hF
    refine o_call1 hA1 fi50 rfl rfl rfl rfl (c_regs_in (x0 := x30173.D) (x1 := ((s30148.2.1).map (fun o => Option.getD o []))) hSb31660.imm hr30180 hRb31661 hx31663) fun a1 w v31667 hres hA1 => ?_
    obtain ⟨rfl, hS31664⟩ := hres
    have hA1 := hA1.re (d := 38) rfl (congrArg (fun n => Value.slice A30161 n c30162) (List.length_map (fun o => Option.getD o [])))
    have hS := hS.callL hS31664 hleb31660
    refine wpList_nil (tn (⟨⟨fun _ => (hS.pickO (is := [some 0, some 1, some 2, some 3, some 4]) rfl (by decide)), fun _ _ => (hS.pickO (is := [some 0, some 1, some 2, some 3, some 4]) rfl (by decide))⟩, ?_⟩))
    refine ⟨(hS.pickO (is := [some 0, some 1, some 2, some 3, some 4]) rfl (by decide)), ?_⟩
    refine qpr tb 2 hA1 rfl fun a1 hA1 => ?_
    rcases ite_some hF with ⟨hc31668, hF⟩ | ⟨hc31668, hF⟩
    rotate_left
    · have hA1 := hA1.re (d := 41) rfl (congrArg Value.bool (nt_of (ff_of hc31668) : _ = true))
      refine qpr tb 6 hA1 rfl fun a1 hA1 => wpHold_nil (pr tb 1 hA1 rfl fun a1 hA1 => wpList_nil (tn (⟨⟨fun _ => (hS.pickO (is := [some 0, some 1, some 2, some 3, some 4]) rfl (by decide)), fun _ _ => (hS.pickO (is := [some 0, some 1, some 2, some 3, some 4]) rfl (by decide))⟩, ?_⟩)))
      refine ⟨(hS.pickO (is := [some 0, some 1, some 2, some 3, some 4]) rfl (by decide)), ?_⟩
      refine qpr tb 2 hA1 rfl fun a1 hA1 => wpHold_nil (tn (cT hA1 rfl rfl (wp_seq (wp_region_lit (pr tb 1 hA1 rfl fun a1 hA1 => wpList_nil (tn (wp_ret (tr (br (tr ?_))))))))))
      refine b_ret hA1 (rs := [.tmp 4]) rfl (.tmp rfl .nil) ?_
      obtain rfl := Option.some.inj hF
      exact ⟨_, _, _, _, _, _, _, rfl, hS.pick (is := [2, 3, 1, 4]) rfl (by decide), hO30164, hO30169, hb30172⟩
    have hA1 := hA1.re (d := 41) rfl (congrArg Value.bool (nf_of (hc31668) : _ = false))
    refine qpr tb 1 hA1 rfl fun a1 hA1 => q_ld tb hA1 hb31505 rfl (i := 0) rfl rfl rfl rfl rfl rfl fun a1 hA1 => qpr tb 3 hA1 rfl fun a1 hA1 => q_ld tb hA1 hb30172 rfl (i := 4) rfl rfl rfl rfl rfl rfl fun a1 hA1 => wpHold_nil ?_
    obtain ⟨r31669, hx31670, hF⟩ := bind_some hF
    refine o_call1 hA1 fi50 rfl rfl rfl rfl (c_regs_in (x0 := x30173.S) (x1 := x1) hS.imm hr30181 h1_0 hx31670) fun a1 w v31674 hres hA1 => ?_
    obtain ⟨rfl, hS31671⟩ := hres
    have hS := hS.callL hS31671 (PHeap.le.refl _)
    refine wpList_nil (tn (⟨⟨fun _ => (hS.pickO (is := [some 0, some 1, some 2, some 3, some 4]) rfl (by decide)), fun _ _ => (hS.pickO (is := [some 0, some 1, some 2, some 3, some 4]) rfl (by decide))⟩, ?_⟩))
    refine ⟨(hS.pickO (is := [some 0, some 1, some 2, some 3, some 4]) rfl (by decide)), ?_⟩
    refine qpr tb 2 hA1 rfl fun a1 hA1 => wpHold_nil (tn ?_)
    rcases ite_some hF with ⟨hc31675, hF⟩ | ⟨hc31675, hF⟩
    rotate_left
    · refine cT hA1 rfl (nt_of (ff_of hc31675)) (wp_seq (wp_region_lit (pr tb 1 hA1 rfl fun a1 hA1 => wpList_nil (tn (wp_ret (tr (br (tr (b_ret hA1 (rs := [.tmp 4]) rfl (.tmp rfl .nil) ?_)))))))))
      obtain rfl := Option.some.inj hF
      exact ⟨_, _, _, _, _, _, _, rfl, hS.pick (is := [2, 3, 1, 4]) rfl (by decide), hO30164, hO30169, hb30172⟩
    refine cF hA1 rfl (nf_of (hc31675)) (wp_skip (tn (rx (fun b w => St noX w0 w H (bif b then [p31504, p30187, p30163, p30168, p30171] else [p31504, p30187, emp, p30168, p30171])) [21] (.q true [0, 1, 2, 3, 4, 5, 6, 7, 8, 9, 11, 12, 13, 14, 15, 16, 17, 18] (.e 10 (.e 19 (.q true [20] (.e 21 .z))))) hmix (by decide +kernel) ?_)))
    have hS := hS.drew
    refine ⟨(hS.pickO (is := [some 0, some 1, some 2, some 3, some 4]) rfl (by decide)), ?_⟩
    refine qpr tb 3 hA1 rfl fun a1 hA1 => q_ld tb hA1 hb30172 rfl (i := 4) rfl rfl rfl rfl rfl rfl fun a1 hA1 => qpr tb 1 hA1 rfl fun a1 hA1 => q_ld tb hA1 hb31505 rfl (i := 0) rfl rfl rfl rfl rfl rfl fun a1 hA1 => qpr tb 3 hA1 rfl fun a1 hA1 => q_ld tb hA1 hb30172 rfl (i := 4) rfl rfl rfl rfl rfl rfl fun a1 hA1 => qpr tb 3 hA1 rfl fun a1 hA1 => q_ld tb hA1 hb30172 rfl (i := 4) rfl rfl rfl rfl rfl rfl fun a1 hA1 => qpr tb 1 hA1 rfl fun a1 hA1 => q_ld tb hA1 hb31505 rfl (i := 0) rfl rfl rfl rfl rfl rfl fun a1 hA1 => ?_
    obtain ⟨x31744, hx31745, hF⟩ := bind_some hF
    refine q_idxR tb hA1 h1_0 hx31745 rfl rfl rfl rfl rfl rfl rfl rfl fun a1 ad31746 hA1 hE31747 => q_ldR tb hA1 hE31747 rfl rfl rfl rfl rfl rfl fun a1 cs31748 hc31749 hA1 => ?_
    obtain ⟨A31750, c31751, rfl, hR31752⟩ := hc31749
    refine wpHold_nil ?_
    obtain ⟨z31753, hz31754, hF⟩ := bind_some hF
    refine o_makeC (e := (eInt .u8 1)) tb hA1 hS hz31754 rfl rfl rfl rfl rfl rfl rfl (fun _ => ⟨rfl, (inR_c rfl)⟩) rfl rfl rfl fun a1 w A31755 p31756 hA1 hS hO31757 hN31759 => wpList_nil (tn (⟨⟨fun _ => (hS.pickO (is := [some 1, some 2, none, some 4, some 5]) rfl (by decide)), fun _ _ => (hS.pickO (is := [some 1, some 2, some 3, some 4, some 5]) rfl (by decide))⟩, ?_⟩))
    obtain ⟨z31760, hz31761, hF⟩ := bind_some hF
    refine o_app (e := (eInt .u8 1)) tb hA1 hS hO31757 (k := 0) rfl (hR31752.src hS) hz31761 rfl rfl rfl rfl rfl rfl rfl rfl rfl rfl rfl rfl rfl fun a1 w A31762 c31763 p31764 hA1 hS hO31765 hN31767 => wpList_nil (tn (⟨⟨fun _ => (hS.pickO (is := [some 1, some 2, none, some 4, some 5]) rfl (by decide)), fun _ _ => (hS.pickO (is := [some 1, some 2, some 3, some 4, some 5]) rfl (by decide))⟩, ?_⟩))
    refine ⟨(hS.pickO (is := [some 1, some 2, some 3, some 4, some 5]) rfl (by decide)), ?_⟩
    obtain ⟨x31768, hx31769, hF⟩ := bind_some hF
    refine q_idxD tb hA1 hO30164 hx31769 rfl rfl rfl rfl rfl rfl rfl rfl fun a1 ad31770 hA1 hE31771 hat31772 => wpHold_nil (o_stD (ro := (roN (eInt .u8 1) 5)) (b := (some z31760)) (h := ((A31762, (z31760).length, c31763) : Hd)) tb hA1 hS hO30164 hx31769 hat31772 ⟨(hN31767 hN31759), rfl, hO31765⟩ rfl rfl (k := 3) (k2 := 0) rfl rfl rfl rfl rfl rfl rfl fun w p31773 hS hO31774 => ?_)
    have hq31776 : (s30148.2.1).length = ((s30148.2.1).set (x30173.D).toNat (some z31760)).length := (List.length_set ..).symm
    have hA1 := hA1.re (d := 38) rfl (congrArg (fun n => Value.slice A30161 n c30162) hq31776)
    have hA1 := hA1.re (d := 54) rfl (congrArg (fun n => Value.slice A30161 n c30162) hq31776)
    have hb31777 : Bx p30171 g16440 84 [Value.slice A30161 ((s30148.2.1).set (x30173.D).toNat (some z31760)).length c30162, Value.slice A30166 (s30148.2.2).length c30167, Value.slice A1_0 (x1).length c1_0, Value.int .i64 s16540] := Eq.mp (by rw [← hq31776] <;> rfl) hb30172
    refine wpList_nil (tn (⟨⟨fun _ => (hS.pickO (is := [some 1, some 2, none, some 4, some 5]) rfl (by decide)), fun h => absurd h (by decide)⟩, ?_⟩))
    refine bn (tn (wp_seq (wp_region_lit (pr tb 1 hA1 rfl fun a1 hA1 => wpList_nil (tn (wp_ret (b_ret hA1 (rs := [.tmp 4]) rfl (.tmp rfl .nil) ?_)))))))
    obtain rfl := Option.some.inj hF
    exact ⟨_, _, _, _, _, _, _, rfl, hS.pick (is := [3, 4, 2, 5]) rfl (by decide), hO31774, hO30169, hb31777⟩
  refine cF hA1 rfl (decide_eq_false hc31583) (wp_seq (wp_region_lit (pr tb 2 hA1 rfl fun a1 hA1 => wpList_nil (tn ?_))))
  rcases ite_some hF with ⟨hc31778, hF⟩ | ⟨hc31778, hF⟩
  rotate_left
  · refine cF hA1 rfl (decide_eq_false hc31778) (wp_seq (wp_region_lit (pr tb 2 hA1 rfl fun a1 hA1 => wpList_nil (tn ?_))))
    rcases ite_some hF with ⟨hc32430, hF⟩ | ⟨hc32430, hF⟩
    rotate_left
    · refine cF hA1 rfl (decide_eq_false hc32430) (wp_seq (wp_region_lit (pr tb 1 hA1 rfl fun a1 hA1 => wpList_nil (tn (wp_ret (br (tr (b_ret hA1 (rs := [.tmp 4]) rfl (.tmp rfl .nil) ?_))))))))
      obtain rfl := Option.some.inj hF
      exact ⟨_, _, _, _, _, _, _, rfl, hS.pick (is := [2, 3, 1, 4]) rfl (by decide), hO30164, hO30169, hb30172⟩
    refine cT hA1 rfl (decide_eq_true hc32430) (wp_seq (wp_seq (rx (fun b w => St noX w0 w H (bif b then [p31504, p30187, p30163, p30168, p30171] else [p31504, p30187, p30163, p30168, p30171])) [] (.q true [0, 1, 2, 3, 4, 5] (.e 6 (.q true [7, 8, 9, 10, 11, 12, 13, 14, 15, 16, 17, 18, 19, 20, 21, 22, 23, 24, 25] (.e 26 (.q true [27, 28, 29, 30, 31, 32, 33, 34, 35, 36, 37, 38, 39] .z))))) hmix (by decide +kernel) ?_)))
    have hS := hS.drew
    refine ⟨(hS.pickO (is := [some 0, some 1, some 2, some 3, some 4]) rfl (by decide)), ?_⟩
    refine qpr tb 1 hA1 rfl fun a1 hA1 => q_ld tb hA1 hb31505 rfl (i := 0) rfl rfl rfl rfl rfl rfl fun a1 hA1 => qpr tb 3 hA1 rfl fun a1 hA1 => q_ld tb hA1 hb30172 rfl (i := 4) rfl rfl rfl rfl rfl rfl fun a1 hA1 => wpHold_nil ?_
    have hA1 := hA1.re (d := 153) rfl (congrArg (fun n => Value.slice A30161 n c30162) (List.length_map (fun o => Option.getD o [])).symm)
    obtain ⟨Hb32647, hSb32647, hleb32647, hplb32647⟩ := hS.freezeT (i := 2) rfl
    have hRb32648 : RdS (eSl (eInt .u8 1)) Hb32647 A30161 c30162 ((s30148.2.1).map (fun o => Option.getD o [])) := RdS.unN (hO30164.rd2 hplb32647 hleb32647)
    obtain ⟨r32649, hx32650, hF⟩ := bind_some hF
    refine o_call1 hA1 fi50 rfl rfl rfl rfl (c_regs_in (x0 := x30173.S) (x1 := ((s30148.2.1).map (fun o => Option.getD o []))) hSb32647.imm hr30181 hRb32648 hx32650) fun a1 w v32654 hres hA1 => ?_
    obtain ⟨rfl, hS32651⟩ := hres
    have hA1 := hA1.re (d := 153) rfl (congrArg (fun n => Value.slice A30161 n c30162) (List.length_map (fun o => Option.getD o [])))
    have hS := hS.callL hS32651 hleb32647
    refine wpList_nil (tn (⟨⟨fun _ => (hS.pickO (is := [some 0, some 1, some 2, some 3, some 4]) rfl (by decide)), fun _ _ => (hS.pickO (is := [some 0, some 1, some 2, some 3, some 4]) rfl (by decide))⟩, ?_⟩))
    refine ⟨(hS.pickO (is := [some 0, some 1, some 2, some 3, some 4]) rfl (by decide)), ?_⟩
    refine qpr tb 2 hA1 rfl fun a1 hA1 => ?_
    rcases ite_some hF with ⟨hc32655, hF⟩ | ⟨hc32655, hF⟩
    rotate_left
    · have hA1 := hA1.re (d := 156) rfl (congrArg Value.bool (nt_of (ff_of hc32655) : _ = true))
      refine qpr tb 17 hA1 rfl fun a1 hA1 => wpHold_nil (pr tb 1 hA1 rfl fun a1 hA1 => wpList_nil (tn (⟨⟨fun _ => (hS.pickO (is := [some 0, some 1, some 2, some 3, some 4]) rfl (by decide)), fun _ _ => (hS.pickO (is := [some 0, some 1, some 2, some 3, some 4]) rfl (by decide))⟩, ?_⟩)))
      refine ⟨(hS.pickO (is := [some 0, some 1, some 2, some 3, some 4]) rfl (by decide)), ?_⟩
      refine qpr tb 13 hA1 rfl fun a1 hA1 => wpHold_nil (tn (cT hA1 rfl rfl (wp_seq (wp_region_lit (pr tb 1 hA1 rfl fun a1 hA1 => wpList_nil (tn (wp_ret (tr (br (tr ?_))))))))))
      refine b_ret hA1 (rs := [.tmp 4]) rfl (.tmp rfl .nil) ?_
      obtain rfl := Option.some.inj hF
      exact ⟨_, _, _, _, _, _, _, rfl, hS.pick (is := [2, 3, 1, 4]) rfl (by decide), hO30164, hO30169, hb30172⟩
    have hA1 := hA1.re (d := 156) rfl (congrArg Value.bool (nf_of (hc32655) : _ = false))
    refine qpr tb 3 hA1 rfl fun a1 hA1 => q_ld tb hA1 hb30172 rfl (i := 4) rfl rfl rfl rfl rfl rfl fun a1 hA1 => qpr tb 1 hA1 rfl fun a1 hA1 => q_ld tb hA1 hb31505 rfl (i := 0) rfl rfl rfl rfl rfl rfl fun a1 hA1 => ?_
    obtain ⟨x32656, hx32657, hF⟩ := bind_some hF
    refine q_idxD tb hA1 hO30164 hx32657 rfl rfl rfl rfl rfl rfl rfl rfl fun a1 ad32658 hA1 hE32659 hat32660 => q_ldD tb hA1 hE32659 rfl (i := 2) rfl rfl rfl rfl rfl fun a1 A32661 c32662 q32663 hd32664 ho32665 hl32666 hO32667 hA1 => ?_
    have hO32667 : OwnS (eInt .u8 1) 5 H A32661 c32662 (x32656.getD []) q32663 := hO32667
    refine qpr tb 1 hA1 rfl fun a1 hA1 => ?_
    have hA1 := hA1.re (d := 165) rfl (congrArg (fun b => Value.bool b) (roN_nil ho32665))
    refine qpr tb 2 hA1 rfl fun a1 hA1 => ?_
    rcases ite_some hF with ⟨hc32668, hF⟩ | ⟨hc32668, hF⟩
    · have hA1 := hA1.re (d := 167) rfl (congrArg Value.bool (hc32668 : _ = true))
      refine qpr tb 6 hA1 rfl fun a1 hA1 => wpHold_nil (pr tb 1 hA1 rfl fun a1 hA1 => wpList_nil (tn (⟨⟨fun _ => (hS.pickO (is := [some 0, some 1, some 2, some 3, some 4]) rfl (by decide)), fun _ _ => (hS.pickO (is := [some 0, some 1, some 2, some 3, some 4]) rfl (by decide))⟩, ?_⟩)))
      refine ⟨(hS.pickO (is := [some 0, some 1, some 2, some 3, some 4]) rfl (by decide)), ?_⟩
      refine qpr tb 13 hA1 rfl fun a1 hA1 => wpHold_nil (tn (cT hA1 rfl rfl (wp_seq (wp_region_lit (pr tb 1 hA1 rfl fun a1 hA1 => wpList_nil (tn (wp_ret (tr (br (tr ?_))))))))))
      refine b_ret hA1 (rs := [.tmp 4]) rfl (.tmp rfl .nil) ?_
      obtain rfl := Option.some.inj hF
      exact ⟨_, _, _, _, _, _, _, rfl, hS.pick (is := [2, 3, 1, 4]) rfl (by decide), hO30164, hO30169, hb30172⟩
    have hA1 := hA1.re (d := 167) rfl (congrArg Value.bool (ff_of hc32668 : _ = false))
    refine qpr tb 1 hA1 rfl fun a1 hA1 => q_ld tb hA1 hb31505 rfl (i := 0) rfl rfl rfl rfl rfl rfl fun a1 hA1 => qpr tb 3 hA1 rfl fun a1 hA1 => q_ld tb hA1 hb30172 rfl (i := 4) rfl rfl rfl rfl rfl rfl fun a1 hA1 => wpHold_nil ?_
    have hA1 := hA1.re (d := 173) rfl (congrArg (fun n => Value.slice A30166 n c30167) (List.length_map (fun o => Option.getD o [])).symm)
    obtain ⟨Hb32669, hSb32669, hleb32669, hplb32669⟩ := hS.freezeT (i := 3) rfl
    have hRb32670 : RdS (eSl (eInt .u8 1)) Hb32669 A30166 c30167 ((s30148.2.2).map (fun o => Option.getD o [])) := RdS.unN (hO30169.rd2 hplb32669 hleb32669)
    obtain ⟨r32671, hx32672, hF⟩ := bind_some hF
    refine o_call1 hA1 fi50 rfl rfl rfl rfl (c_regs_in (x0 := x30173.D) (x1 := ((s30148.2.2).map (fun o => Option.getD o []))) hSb32669.imm hr30180 hRb32670 hx32672) fun a1 w v32676 hres hA1 => ?_
    obtain ⟨rfl, hS32673⟩ := hres
    have hA1 := hA1.re (d := 173) rfl (congrArg (fun n => Value.slice A30166 n c30167) (List.length_map (fun o => Option.getD o [])))
    have hS := hS.callL hS32673 hleb32669
    refine wpList_nil (tn (⟨⟨fun _ => (hS.pickO (is := [some 0, some 1, some 2, some 3, some 4]) rfl (by decide)), fun _ _ => (hS.pickO (is := [some 0, some 1, some 2, some 3, some 4]) rfl (by decide))⟩, ?_⟩))
    refine ⟨(hS.pickO (is := [some 0, some 1, some 2, some 3, some 4]) rfl (by decide)), ?_⟩
    refine qpr tb 3 hA1 rfl fun a1 hA1 => ?_
    rcases ite_some hF with ⟨hc32677, hF⟩ | ⟨hc32677, hF⟩
    rotate_left
    · have hA1 := hA1.re (d := 177) rfl (congrArg Value.bool (nt_of (ff_of hc32677) : _ = true))
      refine qpr tb 10 hA1 rfl fun a1 hA1 => wpHold_nil (tn (cT hA1 rfl rfl (wp_seq (wp_region_lit (pr tb 1 hA1 rfl fun a1 hA1 => wpList_nil (tn (wp_ret (tr (br (tr ?_))))))))))
      refine b_ret hA1 (rs := [.tmp 4]) rfl (.tmp rfl .nil) ?_
      obtain rfl := Option.some.inj hF
      exact ⟨_, _, _, _, _, _, _, rfl, hS.pick (is := [2, 3, 1, 4]) rfl (by decide), hO30164, hO30169, hb30172⟩
    have hA1 := hA1.re (d := 177) rfl (congrArg Value.bool (nf_of (hc32677) : _ = false))
    refine qpr tb 3 hA1 rfl fun a1 hA1 => q_ld tb hA1 hb30172 rfl (i := 4) rfl rfl rfl rfl rfl rfl fun a1 hA1 => qpr tb 1 hA1 rfl fun a1 hA1 => q_ld tb hA1 hb31505 rfl (i := 0) rfl rfl rfl rfl rfl rfl fun a1 hA1 => ?_
    obtain ⟨x32678, hx32679, hF⟩ := bind_some hF
    refine q_idxD tb hA1 hO30169 hx32679 rfl rfl rfl rfl rfl rfl rfl rfl fun a1 ad32680 hA1 hE32681 hat32682 => q_ldD tb hA1 hE32681 rfl (i := 3) rfl rfl rfl rfl rfl fun a1 A32683 c32684 q32685 hd32686 ho32687 hl32688 hO32689 hA1 => ?_
    have hO32689 : OwnS (eInt .u8 1) 5 H A32683 c32684 (x32678.getD []) q32685 := hO32689
    refine qpr tb 1 hA1 rfl fun a1 hA1 => ?_
    have hA1 := hA1.re (d := 186) rfl (congrArg (fun b => Value.bool (!b)) (roN_nil ho32687))
    refine qpr tb 1 hA1 rfl fun a1 hA1 => wpHold_nil (tn ?_)
    rcases ite_some hF with ⟨hc32690, hF⟩ | ⟨hc32690, hF⟩
    rotate_left
    · refine cT hA1 rfl (nt_of (ff_of hc32690)) (wp_seq (wp_region_lit (pr tb 1 hA1 rfl fun a1 hA1 => wpList_nil (tn (wp_ret (tr (br (tr (b_ret hA1 (rs := [.tmp 4]) rfl (.tmp rfl .nil) ?_)))))))))
      obtain rfl := Option.some.inj hF
      exact ⟨_, _, _, _, _, _, _, rfl, hS.pick (is := [2, 3, 1, 4]) rfl (by decide), hO30164, hO30169, hb30172⟩
    refine cF hA1 rfl (nf_of (hc32690)) (wp_skip (tn (rx (fun b w => St noX w0 w H (bif b then [p31504, p30187, p30163, p30168, p30171] else [p31504, p30187, p30163, emp, p30171])) [21] (.q true [0, 1, 2, 3, 4, 5, 6, 7, 8, 9, 11, 12, 13, 14, 15, 16, 17, 18] (.e 10 (.e 19 (.q true [20] (.e 21 .z))))) hmix (by decide +kernel) ?_)))
    have hS := hS.drew
    refine ⟨(hS.pickO (is := [some 0, some 1, some 2, some 3, some 4]) rfl (by decide)), ?_⟩
    refine qpr tb 3 hA1 rfl fun a1 hA1 => q_ld tb hA1 hb30172 rfl (i := 4) rfl rfl rfl rfl rfl rfl fun a1 hA1 => qpr tb 1 hA1 rfl fun a1 hA1 => q_ld tb hA1 hb31505 rfl (i := 0) rfl rfl rfl rfl rfl rfl fun a1 hA1 => qpr tb 3 hA1 rfl fun a1 hA1 => q_ld tb hA1 hb30172 rfl (i := 4) rfl rfl rfl rfl rfl rfl fun a1 hA1 => qpr tb 3 hA1 rfl fun a1 hA1 => q_ld tb hA1 hb30172 rfl (i := 4) rfl rfl rfl rfl rfl rfl fun a1 hA1 => qpr tb 1 hA1 rfl fun a1 hA1 => q_ld tb hA1 hb31505 rfl (i := 0) rfl rfl rfl rfl rfl rfl fun a1 hA1 => ?_
    obtain ⟨x32765, hx32766, hF⟩ := bind_some hF
    refine q_idxD tb hA1 hO30164 hx32766 rfl rfl rfl rfl rfl rfl rfl rfl fun a1 ad32767 hA1 hE32768 hat32769 => q_ldD tb hA1 hE32768 rfl (i := 2) rfl rfl rfl rfl rfl fun a1 A32770 c32771 q32772 hd32773 ho32774 hl32775 hO32776 hA1 => ?_
    have hO32776 : OwnS (eInt .u8 1) 5 H A32770 c32771 (x32765.getD []) q32772 := hO32776
    refine wpHold_nil ?_
    obtain ⟨z32777, hz32778, hF⟩ := bind_some hF
    refine o_makeC (e := (eInt .u8 1)) tb hA1 hS hz32778 rfl rfl rfl rfl rfl rfl rfl (fun _ => ⟨rfl, (inR_c rfl)⟩) rfl rfl rfl fun a1 w A32779 p32780 hA1 hS hO32781 hN32783 => wpList_nil (tn (⟨⟨fun _ => (hS.pickO (is := [some 1, some 2, some 3, none, some 5]) rfl (by decide)), fun _ _ => (hS.pickO (is := [some 1, some 2, some 3, some 4, some 5]) rfl (by decide))⟩, ?_⟩))
    obtain ⟨z32784, hz32785, hF⟩ := bind_some hF
    refine o_app (e := (eInt .u8 1)) tb hA1 hS hO32781 (k := 0) rfl (hO32776.srcLe hl32775 hS (i := 3) rfl) hz32785 rfl rfl rfl rfl rfl rfl rfl rfl rfl rfl rfl rfl rfl fun a1 w A32786 c32787 p32788 hA1 hS hO32789 hN32791 => wpList_nil (tn (⟨⟨fun _ => (hS.pickO (is := [some 1, some 2, some 3, none, some 5]) rfl (by decide)), fun _ _ => (hS.pickO (is := [some 1, some 2, some 3, some 4, some 5]) rfl (by decide))⟩, ?_⟩))
    refine ⟨(hS.pickO (is := [some 1, some 2, some 3, some 4, some 5]) rfl (by decide)), ?_⟩
    obtain ⟨x32792, hx32793, hF⟩ := bind_some hF
    refine q_idxD tb hA1 hO30169 hx32793 rfl rfl rfl rfl rfl rfl rfl rfl fun a1 ad32794 hA1 hE32795 hat32796 => wpHold_nil (o_stD (ro := (roN (eInt .u8 1) 5)) (b := (some z32784)) (h := ((A32786, (z32784).length, c32787) : Hd)) tb hA1 hS hO30169 hx32793 hat32796 ⟨(hN32791 hN32783), rfl, hO32789⟩ rfl rfl (k := 4) (k2 := 0) rfl rfl rfl rfl rfl rfl rfl fun w p32797 hS hO32798 => ?_)
    have hq32800 : (s30148.2.2).length = ((s30148.2.2).set (x30173.D).toNat (some z32784)).length := (List.length_set ..).symm
    have hA1 := hA1.re (d := 173) rfl (congrArg (fun n => Value.slice A30166 n c30167) hq32800)
    have hA1 := hA1.re (d := 181) rfl (congrArg (fun n => Value.slice A30166 n c30167) hq32800)
    have hA1 := hA1.re (d := 191) rfl (congrArg (fun n => Value.slice A30166 n c30167) hq32800)
    have hb32801 : Bx p30171 g16440 84 [Value.slice A30161 (s30148.2.1).length c30162, Value.slice A30166 ((s30148.2.2).set (x30173.D).toNat (some z32784)).length c30167, Value.slice A1_0 (x1).length c1_0, Value.int .i64 s16540] := Eq.mp (by rw [← hq32800] <;> rfl) hb30172
    refine wpList_nil (tn (⟨⟨fun _ => (hS.pickO (is := [some 1, some 2, some 3, none, some 5]) rfl (by decide)), fun h => absurd h (by decide)⟩, ?_⟩))
    refine bn (tn (wp_seq (wp_region_lit (pr tb 1 hA1 rfl fun a1 hA1 => wpList_nil (tn (wp_ret (b_ret hA1 (rs := [.tmp 4]) rfl (.tmp rfl .nil) ?_)))))))
    obtain rfl := Option.some.inj hF
    exact ⟨_, _, _, _, _, _, _, rfl, hS.pick (is := [3, 4, 2, 5]) rfl (by decide), hO30164, hO32798, hb32801⟩
  refine cT hA1 rfl (decide_eq_true hc31778) (wp_seq (wp_seq (rx (fun b w => St noX w0 w H (bif b then [p31504, p30187, p30163, p30168, p30171] else [p31504, p30187, p30163, p30168, p30171])) [] (.q true [0, 1, 2, 3, 4, 5] (.e 6 (.q true [7, 8, 9, 10, 11, 12, 13, 14] (.e 15 (.q true [16, 17, 18, 19, 20, 21, 22, 23, 24, 25, 26, 27, 28, 29, 30, 31, 32, 33, 34, 35, 36, 37, 38, 39] .z))))) hmix (by decide +kernel) ?_)))
  have hS := hS.drew
  refine ⟨(hS.pickO (is := [some 0, some 1, some 2, some 3, some 4]) rfl (by decide)), ?_⟩
  refine qpr tb 1 hA1 rfl fun a1 hA1 => q_ld tb hA1 hb31505 rfl (i := 0) rfl rfl rfl rfl rfl rfl fun a1 hA1 => qpr tb 3 hA1 rfl fun a1 hA1 => q_ld tb hA1 hb30172 rfl (i := 4) rfl rfl rfl rfl rfl rfl fun a1 hA1 => wpHold_nil ?_
  have hA1 := hA1.re (d := 79) rfl (congrArg (fun n => Value.slice A30161 n c30162) (List.length_map (fun o => Option.getD o [])).symm)
  obtain ⟨Hb31995, hSb31995, hleb31995, hplb31995⟩ := hS.freezeT (i := 2) rfl
  have hRb31996 : RdS (eSl (eInt .u8 1)) Hb31995 A30161 c30162 ((s30148.2.1).map (fun o => Option.getD o [])) := RdS.unN (hO30164.rd2 hplb31995 hleb31995)
  obtain ⟨r31997, hx31998, hF⟩ := bind_some hF
  refine o_call1 hA1 fi50 rfl rfl rfl rfl (c_regs_in (x0 := x30173.D) (x1 := ((s30148.2.1).map (fun o => Option.getD o []))) hSb31995.imm hr30180 hRb31996 hx31998) fun a1 w v32002 hres hA1 => ?_
  obtain ⟨rfl, hS31999⟩ := hres
  have hA1 := hA1.re (d := 79) rfl (congrArg (fun n => Value.slice A30161 n c30162) (List.length_map (fun o => Option.getD o [])))
  have hS := hS.callL hS31999 hleb31995
  refine wpList_nil (tn (⟨⟨fun _ => (hS.pickO (is := [some 0, some 1, some 2, some 3, some 4]) rfl (by decide)), fun _ _ => (hS.pickO (is := [some 0, some 1, some 2, some 3, some 4]) rfl (by decide))⟩, ?_⟩))
  refine ⟨(hS.pickO (is := [some 0, some 1, some 2, some 3, some 4]) rfl (by decide)), ?_⟩
  refine qpr tb 2 hA1 rfl fun a1 hA1 => ?_
  rcases ite_some hF with ⟨hc32003, hF⟩ | ⟨hc32003, hF⟩
  rotate_left
  · have hA1 := hA1.re (d := 82) rfl (congrArg Value.bool (nt_of (ff_of hc32003) : _ = true))
    refine qpr tb 6 hA1 rfl fun a1 hA1 => wpHold_nil (pr tb 1 hA1 rfl fun a1 hA1 => wpList_nil (tn (⟨⟨fun _ => (hS.pickO (is := [some 0, some 1, some 2, some 3, some 4]) rfl (by decide)), fun _ _ => (hS.pickO (is := [some 0, some 1, some 2, some 3, some 4]) rfl (by decide))⟩, ?_⟩)))
    refine ⟨(hS.pickO (is := [some 0, some 1, some 2, some 3, some 4]) rfl (by decide)), ?_⟩
    refine qpr tb 24 hA1 rfl fun a1 hA1 => wpHold_nil (tn (cT hA1 rfl rfl (wp_seq (wp_region_lit (pr tb 1 hA1 rfl fun a1 hA1 => wpList_nil (tn (wp_ret (tr (br (tr ?_))))))))))
    refine b_ret hA1 (rs := [.tmp 4]) rfl (.tmp rfl .nil) ?_
    obtain rfl := Option.some.inj hF
    exact ⟨_, _, _, _, _, _, _, rfl, hS.pick (is := [2, 3, 1, 4]) rfl (by decide), hO30164, hO30169, hb30172⟩
  have hA1 := hA1.re (d := 82) rfl (congrArg Value.bool (nf_of (hc32003) : _ = false))
  refine qpr tb 1 hA1 rfl fun a1 hA1 => q_ld tb hA1 hb31505 rfl (i := 0) rfl rfl rfl rfl rfl rfl fun a1 hA1 => qpr tb 3 hA1 rfl fun a1 hA1 => q_ld tb hA1 hb30172 rfl (i := 4) rfl rfl rfl rfl rfl rfl fun a1 hA1 => wpHold_nil ?_
  have hA1 := hA1.re (d := 88) rfl (congrArg (fun n => Value.slice A30161 n c30162) (List.length_map (fun o => Option.getD o [])).symm)
  obtain ⟨Hb32004, hSb32004, hleb32004, hplb32004⟩ := hS.freezeT (i := 2) rfl
  have hRb32005 : RdS (eSl (eInt .u8 1)) Hb32004 A30161 c30162 ((s30148.2.1).map (fun o => Option.getD o [])) := RdS.unN (hO30164.rd2 hplb32004 hleb32004)
  obtain ⟨r32006, hx32007, hF⟩ := bind_some hF
  refine o_call1 hA1 fi50 rfl rfl rfl rfl (c_regs_in (x0 := x30173.S) (x1 := ((s30148.2.1).map (fun o => Option.getD o []))) hSb32004.imm hr30181 hRb32005 hx32007) fun a1 w v32011 hres hA1 => ?_
  obtain ⟨rfl, hS32008⟩ := hres
  have hA1 := hA1.re (d := 88) rfl (congrArg (fun n => Value.slice A30161 n c30162) (List.length_map (fun o => Option.getD o [])))
  have hS := hS.callL hS32008 hleb32004
  refine wpList_nil (tn (⟨⟨fun _ => (hS.pickO (is := [some 0, some 1, some 2, some 3, some 4]) rfl (by decide)), fun _ _ => (hS.pickO (is := [some 0, some 1, some 2, some 3, some 4]) rfl (by decide))⟩, ?_⟩))
  refine ⟨(hS.pickO (is := [some 0, some 1, some 2, some 3, some 4]) rfl (by decide)), ?_⟩
  refine qpr tb 3 hA1 rfl fun a1 hA1 => ?_
  rcases ite_some hF with ⟨hc32012, hF⟩ | ⟨hc32012, hF⟩
  rotate_left
  · have hA1 := hA1.re (d := 92) rfl (congrArg Value.bool (nt_of (ff_of hc32012) : _ = true))
    refine qpr tb 21 hA1 rfl fun a1 hA1 => wpHold_nil (tn (cT hA1 rfl rfl (wp_seq (wp_region_lit (pr tb 1 hA1 rfl fun a1 hA1 => wpList_nil (tn (wp_ret (tr (br (tr ?_))))))))))
    refine b_ret hA1 (rs := [.tmp 4]) rfl (.tmp rfl .nil) ?_
    obtain rfl := Option.some.inj hF
    exact ⟨_, _, _, _, _, _, _, rfl, hS.pick (is := [2, 3, 1, 4]) rfl (by decide), hO30164, hO30169, hb30172⟩
  have hA1 := hA1.re (d := 92) rfl (congrArg Value.bool (nf_of (hc32012) : _ = false))
  refine qpr tb 3 hA1 rfl fun a1 hA1 => q_ld tb hA1 hb30172 rfl (i := 4) rfl rfl rfl rfl rfl rfl fun a1 hA1 => qpr tb 1 hA1 rfl fun a1 hA1 => q_ld tb hA1 hb31505 rfl (i := 0) rfl rfl rfl rfl rfl rfl fun a1 hA1 => ?_
  obtain ⟨x32013, hx32014, hF⟩ := bind_some hF
  refine q_idxD tb hA1 hO30164 hx32014 rfl rfl rfl rfl rfl rfl rfl rfl fun a1 ad32015 hA1 hE32016 hat32017 => q_ldD tb hA1 hE32016 rfl (i := 2) rfl rfl rfl rfl rfl fun a1 A32018 c32019 q32020 hd32021 ho32022 hl32023 hO32024 hA1 => ?_
  have hO32024 : OwnS (eInt .u8 1) 5 H A32018 c32019 (x32013.getD []) q32020 := hO32024
  refine qpr tb 1 hA1 rfl fun a1 hA1 => ?_
  have hA1 := hA1.re (d := 101) rfl (congrArg (fun b => Value.bool b) (roN_nil ho32022))
  refine qpr tb 2 hA1 rfl fun a1 hA1 => ?_
  rcases ite_some hF with ⟨hc32025, hF⟩ | ⟨hc32025, hF⟩
  · have hA1 := hA1.re (d := 103) rfl (congrArg Value.bool (hc32025 : _ = true))
    refine qpr tb 10 hA1 rfl fun a1 hA1 => wpHold_nil (tn (cT hA1 rfl rfl (wp_seq (wp_region_lit (pr tb 1 hA1 rfl fun a1 hA1 => wpList_nil (tn (wp_ret (tr (br (tr ?_))))))))))
    refine b_ret hA1 (rs := [.tmp 4]) rfl (.tmp rfl .nil) ?_
    obtain rfl := Option.some.inj hF
    exact ⟨_, _, _, _, _, _, _, rfl, hS.pick (is := [2, 3, 1, 4]) rfl (by decide), hO30164, hO30169, hb30172⟩
  have hA1 := hA1.re (d := 103) rfl (congrArg Value.bool (ff_of hc32025 : _ = false))
  refine qpr tb 3 hA1 rfl fun a1 hA1 => q_ld tb hA1 hb30172 rfl (i := 4) rfl rfl rfl rfl rfl rfl fun a1 hA1 => qpr tb 1 hA1 rfl fun a1 hA1 => q_ld tb hA1 hb31505 rfl (i := 0) rfl rfl rfl rfl rfl rfl fun a1 hA1 => ?_
  obtain ⟨x32026, hx32027, hF⟩ := bind_some hF
  refine q_idxD tb hA1 hO30164 hx32027 rfl rfl rfl rfl rfl rfl rfl rfl fun a1 ad32028 hA1 hE32029 hat32030 => q_ldD tb hA1 hE32029 rfl (i := 2) rfl rfl rfl rfl rfl fun a1 A32031 c32032 q32033 hd32034 ho32035 hl32036 hO32037 hA1 => ?_
  have hO32037 : OwnS (eInt .u8 1) 5 H A32031 c32032 (x32026.getD []) q32033 := hO32037
  refine qpr tb 1 hA1 rfl fun a1 hA1 => ?_
  have hA1 := hA1.re (d := 112) rfl (congrArg (fun b => Value.bool b) (roN_nil ho32035))
  refine qpr tb 1 hA1 rfl fun a1 hA1 => wpHold_nil (tn ?_)
  rcases ite_some hF with ⟨hc32038, hF⟩ | ⟨hc32038, hF⟩
  · refine cT hA1 rfl hc32038 (wp_seq (wp_region_lit (pr tb 1 hA1 rfl fun a1 hA1 => wpList_nil (tn (wp_ret (tr (br (tr (b_ret hA1 (rs := [.tmp 4]) rfl (.tmp rfl .nil) ?_)))))))))
    obtain rfl := Option.some.inj hF
    exact ⟨_, _, _, _, _, _, _, rfl, hS.pick (is := [2, 3, 1, 4]) rfl (by decide), hO30164, hO30169, hb30172⟩
  refine cF hA1 rfl (ff_of hc32038) (wp_skip (tn (wp_seq (rx (fun b w => St noX w0 w H (bif b then [p31504, p30187, p30163, p30168, p30171] else [p31504, p30187, p30163, p30168, p30171])) [] (.q true [0, 1, 2, 3, 4, 5, 6, 7, 8, 9, 12] (.e 10 (.q true [11] .z))) hmix (by decide +kernel) ?_))))
  have hS := hS.drew
  refine ⟨(hS.pickO (is := [some 0, some 1, some 2, some 3, some 4]) rfl (by decide)), ?_⟩
  refine qpr tb 1 hA1 rfl fun a1 hA1 => q_ld tb hA1 hb31505 rfl (i := 0) rfl rfl rfl rfl rfl rfl fun a1 hA1 => qpr tb 3 hA1 rfl fun a1 hA1 => q_ld tb hA1 hb30172 rfl (i := 4) rfl rfl rfl rfl rfl rfl fun a1 hA1 => qpr tb 1 hA1 rfl fun a1 hA1 => q_ld tb hA1 hb31505 rfl (i := 0) rfl rfl rfl rfl rfl rfl fun a1 hA1 => ?_
  obtain ⟨x32091, hx32092, hF⟩ := bind_some hF
  refine q_idxD tb hA1 hO30164 hx32092 rfl rfl rfl rfl rfl rfl rfl rfl fun a1 ad32093 hA1 hE32094 hat32095 => q_ldD tb hA1 hE32094 rfl (i := 2) rfl rfl rfl rfl rfl fun a1 A32096 c32097 q32098 hd32099 ho32100 hl32101 hO32102 hA1 => ?_
  have hO32102 : OwnS (eInt .u8 1) 5 H A32096 c32097 (x32091.getD []) q32098 := hO32102
  refine qpr tb 1 hA1 rfl fun a1 hA1 => wpHold_nil ?_
  obtain ⟨Hb32103, hSb32103, hleb32103, hplb32103⟩ := hS.freezeT (i := 2) rfl
  have hRb32104 := hO32102.rd2 (hl32101.trans hplb32103) hleb32103
  obtain ⟨r32105, hx32106, hF⟩ := bind_some hF
  refine o_call1 hA1 fi44 rfl rfl rfl rfl (c_field_Scale (x0 := x30173.C) (x1 := (x32091.getD [])) hSb32103.imm hr30182 hRb32104 hx32106) fun a1 w v32115 hres hA1 => ?_
  obtain ⟨A32110, c32111, p32112, rfl, hS32107, hO32113⟩ := hres
  have hS := hS.callL hS32107 hleb32103
  have hO32116 := hO32113.flat (H' := H) (fun _ _ _ _ h => h)
  refine wpList_nil (tn (⟨⟨fun _ => (hS.pickO (is := [some 1, some 2, some 3, some 4, some 5]) rfl (by decide)), fun _ _ => (hS.pickO (is := [some 1, some 2, some 3, some 4, some 5]) rfl (by decide))⟩, ?_⟩))
  refine ⟨(hS.pickO (is := [some 1, some 2, some 3, some 4, some 5]) rfl (by decide)), ?_⟩
  refine qpr tb 1 hA1 rfl fun a1 hA1 => wpHold_nil (tn ?_)
  obtain ⟨o32318, hx32318, hK32318⟩ := bind_some hF
  refine wp_cut1 (fun a w => ∃ (A32321 : Option Addr) (c32322 : Nat) (p32323 : Piece) (p32326 : Piece), Fr (209, []) a [] ∧ St noX w0 w H [p32323, p30187, p30168, p32326] ∧ OwnD (roN (eInt .u8 1) 5) 27 H A32321 c32322 (o32318) p32323 ∧ Bx p32326 g16440 84 [Value.slice A32321 (o32318).length c32322, Value.slice A30166 (s30148.2.2).length c30167, Value.slice A1_0 (x1).length c1_0, Value.int .i64 s16540]) ?_ ?_
  rotate_left
  · rintro a w ⟨A32321, c32322, p32323, p32326, hA1, hS, hO32324, hb32327⟩
    have hF := hK32318
    refine bn (tn (wp_seq (wp_region_lit (pr tb 1 hA1 rfl fun a1 hA1 => wpList_nil (tn (wp_ret (b_ret hA1 (rs := [.tmp 4]) rfl (.tmp rfl .nil) ?_)))))))
    obtain rfl := Option.some.inj hF
    exact ⟨_, _, _, _, _, _, _, rfl, hS.pick (is := [0, 2, 1, 3]) rfl (by decide), hO32324, hO30169, hb32327⟩
  have hF := hx32318
  refine wp_block ?_
  have hbd32318 : (r32105).length ≤ 9223372036854775807 := (Nat.le_trans (hO32116.len rfl) (by decide))
  refine wp_for0 (n := (r32105).length) (s0 := (s30148.2.1)) (fun (i32319 : Nat) (s32320 : List (Option (List Int))) a w => ∃ (A32328 : Option Addr) (c32329 : Nat) (p32330 : Piece) (p32333 : Piece), Fr (209, []) a [(0, Value.pointer (some ⟨g16440, 0, none⟩)), (3, Value.pointer (some ⟨g31503, 0, none⟩)), (124, Value.slice A32110 (r32105).length c32111), (125, Value.int .i64 ((r32105).length : Int)), (126, Value.int .i64 (i32319 : Int))] ∧ St noX w0 w H [p32330, p32112, p31504, p30187, p30168, p32333] ∧ OwnD (roN (eInt .u8 1) 5) 27 H A32328 c32329 (s32320) p32330 ∧ Bx p32333 g16440 84 [Value.slice A32328 (s32320).length c32329, Value.slice A30166 (s30148.2.2).length c30167, Value.slice A1_0 (x1).length c1_0, Value.int .i64 s16540]) hF ⟨_, _, _, _, hA1.sub ⟨rfl, rfl, rfl, rfl, rfl, trivial⟩, hS.pick (is := [3, 0, 1, 2, 4, 5]) rfl (by decide), hO30164, hb30172⟩ ?_
  rintro After32318 i32319 s32320 a w ⟨A32328, c32329, p32330, p32333, hA1, hS, hO32331, hb32334⟩ hin32318 hst32318 hge32318
  rcases Nat.lt_or_ge i32319 ((r32105).length) with hlt32318 | hgt32318
  rotate_left
  · have hF := congrArg some (hge32318 hgt32318)
    refine wp_seq (wp_region_lit (pr tb 1 hA1 rfl fun a1 hA1 => wpList_nil (tn (wp_seq (cF hA1 rfl (decide_eq_false (show ¬ ((i32319 : Int) < ((r32105).length : Int)) by omega)) (wp_exit (te (te (be (tn ?_))))))))))
    obtain rfl := Option.some.inj hF
    exact ⟨_, _, _, _, hA1.sub trivial, hS.pick (is := [0, 3, 4, 5]) rfl (by decide), hO32331, hb32334⟩
  obtain ⟨cc32318, hF, hgo32318⟩ := hst32318 hlt32318
  refine wp_seq (wp_region_lit (pr tb 1 hA1 rfl fun a1 hA1 => wpList_nil (tn (wp_seq (cT hA1 rfl (decide_eq_true (show (i32319 : Int) < ((r32105).length : Int) by omega)) (wp_skip (tn (wp_seq (wp_block (wp_seq (wp_region_lit ?_)))))))))))
  refine pr tb 1 hA1 rfl fun a1 hA1 => ?_
  obtain ⟨x32335, hx32336, hF⟩ := bind_some hF
  refine o_idxO tb hA1 hO32116 hx32336 rfl rfl rfl rfl rfl rfl rfl rfl fun a1 ad32337 hA1 hE32338 hat32339 => o_ldO tb hA1 hS hE32338 rfl (i := 1) rfl rfl rfl rfl rfl rfl fun a1 cs32340 hc32341 hA1 => ?_
  obtain ⟨rfl, hr32342⟩ := hc32341
  refine pr tb 2 hA1 rfl fun a1 hA1 => wpList_nil (tn (rx (fun b w => St noX w0 w H (bif b then [p32330, p32112, p31504, p30187, p30168, p32333] else [emp, p32112, p31504, p30187, p30168, p32333])) [14] (.q true [0, 1, 2, 3, 4, 5, 6, 7, 8, 9, 10, 11, 12, 13] (.e 14 .z)) hmix (by decide +kernel) ?_))
  have hS := hS.drew
  refine ⟨(hS.pickO (is := [some 0, some 1, some 2, some 3, some 4, some 5]) rfl (by decide)), ?_⟩
  refine qpr tb 3 hA1 rfl fun a1 hA1 => q_ld tb hA1 hb32334 rfl (i := 5) rfl rfl rfl rfl rfl rfl fun a1 hA1 => qpr tb 1 hA1 rfl fun a1 hA1 => q_ld tb hA1 hb31505 rfl (i := 2) rfl rfl rfl rfl rfl rfl fun a1 hA1 => ?_
  obtain ⟨x32401, hx32402, hF⟩ := bind_some hF
  refine q_idxD tb hA1 hO32331 hx32402 rfl rfl rfl rfl rfl rfl rfl rfl fun a1 ad32403 hA1 hE32404 hat32405 => q_ldD tb hA1 hE32404 rfl (i := 0) rfl rfl rfl rfl rfl fun a1 A32406 c32407 q32408 hd32409 ho32410 hl32411 hO32412 hA1 => ?_
  have hO32412 : OwnS (eInt .u8 1) 5 H A32406 c32407 (x32401.getD []) q32408 := hO32412
  refine qpr tb 1 hA1 rfl fun a1 hA1 => ?_
  obtain ⟨x32413, hx32414, hF⟩ := bind_some hF
  refine q_idxO tb hA1 hO32412 hx32414 rfl rfl rfl rfl rfl rfl rfl rfl fun a1 ad32415 hA1 hE32416 hat32417 => q_ldO tb hA1 (hE32416.up hl32411) rfl (i := 0) rfl rfl rfl rfl rfl rfl fun a1 cs32418 hc32419 hA1 => ?_
  obtain ⟨rfl, hr32420⟩ := hc32419
  refine qpr tb 2 hA1 rfl fun a1 hA1 => ?_
  obtain ⟨x32421, hx32422, hF⟩ := bind_some hF
  refine q_idxO tb hA1 hO32412 hx32422 rfl rfl rfl rfl rfl rfl rfl rfl fun a1 ad32423 hA1 hE32424 hat32425 => wpHold_nil (o_stDD (ro := (roN (eInt .u8 1) 5)) (v := Value.int .u8 (bXor .u8 x32413 x32335)) (y0 := bXor .u8 x32413 x32335) tb hA1 hS hO32331 hx32402 hat32405 hd32409 hat32425 (idx_some hx32422).2.2 ⟨rfl, (inR_wrap _ _)⟩ rfl rfl (k := 0) rfl rfl rfl rfl rfl fun w p32426 hS hO32427 => ?_)
  have hq32428 : (s32320).length = ((s32320).set (x30173.D).toNat ((x32401).map fun _ => ((x32401.getD [])).set ((i32319 : Int)).toNat (bXor .u8 x32413 x32335))).length := (List.length_set ..).symm
  have hA1 := hA1.re (d := 134) rfl (congrArg (fun n => Value.slice A32328 n c32329) hq32428)
  have hb32429 : Bx p32333 g16440 84 [Value.slice A32328 ((s32320).set (x30173.D).toNat ((x32401).map fun _ => ((x32401.getD [])).set ((i32319 : Int)).toNat (bXor .u8 x32413 x32335))).length c32329, Value.slice A30166 (s30148.2.2).length c30167, Value.slice A1_0 (x1).length c1_0, Value.int .i64 s16540] := Eq.mp (by rw [← hq32428] <;> rfl) hb32334
  have hO32427 : OwnD (roN (eInt .u8 1) 5) 27 H A32328 c32329 ((s32320).set (x30173.D).toNat ((x32401).map fun _ => ((x32401.getD [])).set ((i32319 : Int)).toNat (bXor .u8 x32413 x32335))) p32426 := hO32427
  refine wpList_nil (tn (⟨⟨fun _ => (hS.pickO (is := [none, some 1, some 2, some 3, some 4, some 5]) rfl (by decide)), fun h => absurd h (by decide)⟩, ?_⟩))
  refine bn (tn (wp_region_lit (pr tb 2 hA1 rfl fun a1 hA1 => wpList_nil (tn ?_))))
  obtain rfl := Option.some.inj hF
  have hA1 := hA1.re (d := 126) rfl (congrArg (Value.int .i64) (w64_succ hlt32318 hbd32318))
  exact ⟨((s32320).set (x30173.D).toNat ((x32401).map fun _ => ((x32401.getD [])).set ((i32319 : Int)).toNat (bXor .u8 x32413 x32335))), ⟨_, _, _, _, hA1.sub ⟨rfl, rfl, rfl, rfl, rfl, trivial⟩, hS, hO32427, hb32429⟩, hlt32318, hgo32318⟩
theorem c_recouplaw23_RegsFlows {w0 : World} {H : PHeap} (hI : ∀ b o, H b = some o → w0.heap[b]? = some o) {x0 : GFlow} {x1 : List (List Int)} {A0_0 : Option Addr} {c0_0 : Nat} (h0_0 : RdS (eInt .i64 8) H A0_0 c0_0 x0.Inputs) {A0_1 : Option Addr} {c0_1 : Nat} (h0_1 : RdS (eSl eGTerm) H A0_1 c0_1 x0.Nodes) {A0_2 : Option Addr} {c0_2 : Nat} (h0_2 : RdS (eInt .i64 8) H A0_2 c0_2 x0.Outs) {A1_0 : Option Addr} {c1_0 : Nat} (h1_0 : RdS (eSl (eInt .u8 1)) H A1_0 c1_0 x1) (hF : recouplaw23_RegsFlows x0 x1) :
    Calls Try.prog 4 [Value.agg #[Value.slice A0_0 (x0.Inputs).length c0_0, Value.slice A0_1 (x0.Nodes).length c0_1, Value.slice A0_2 (x0.Outs).length c0_2], Value.slice A1_0 (x1).length c1_0].toArray w0 (Ret (fun v w => v = Value.bool true ∧ St noX w0 w H [])) := by
  have hS := St.start hI noX
  unfold recouplaw23_RegsFlows at hF
  refine enter fi4.hfn rfl rfl rfl fun a hA => wp_seq (wp_region_lit (o_box hA hS rfl rfl rfl fun a w g102 p103 hA hS hb104 => pr tb 1 hA rfl fun a hA => wpList_nil (tn (wp_seq (wp_region_lit (o_ld tb hA hS hb104 rfl (i := 0) rfl rfl rfl rfl rfl rfl fun a hA => ?_))))))
  obtain ⟨r105, hx106, hF⟩ := hF
  refine o_call1 hA fi18 rfl rfl rfl rfl (c_regs_Give (x0 := x0) hS.imm h0_0 h0_1 h0_2 hx106) fun a w v119 hres hA => ?_
  obtain ⟨A110, c111, p112, rfl, hS107, hO113, hr115, hr116, hr117, hr118⟩ := hres
  have hS := hS.callL hS107 (PHeap.le.refl _)
  refine pr tb 3 hA rfl fun a hA => o_alloc tb hA hS rfl rfl rfl fun a w g121 p122 hA hS hb123 => o_st tb hA hS hb123 rfl rfl (i := 0) rfl rfl rfl rfl rfl rfl rfl fun w p124 hS hb125 => pr tb 1 hA rfl fun a hA => wpList_nil (tn (wp_seq (wp_seq (wp_region_lit (o_ld tb hA hS hb104 rfl (i := 2) rfl rfl rfl rfl rfl rfl fun a hA => ?_)))))
  obtain ⟨r126, hx127, hF⟩ := hF
  refine o_call1 hA fi19 rfl rfl rfl rfl (c_recoupref21_May (x0 := x0) hS.imm h0_0 h0_1 h0_2 hx127) fun a w v131 hres hA => ?_
  obtain ⟨rfl, hS128⟩ := hres
  have hS := hS.callL hS128 (PHeap.le.refl _)
  refine pr tb 1 hA rfl fun a hA => wpList_nil (tn ?_)
  rcases iteP hF with ⟨hc132, hF⟩ | ⟨hc132, hF⟩
  rotate_left
  · refine cT hA rfl (nt_of (ff_of hc132)) (wp_seq (wp_region_lit ?_))
    obtain ⟨r192, hx193, hF⟩ := hF
    refine o_call1 hA fi20 rfl rfl rfl rfl (c_recouplaw23_anchored hS.imm hx193) fun a w v197 hres hA => ?_
    obtain ⟨H196, rfl, hS194, hX195⟩ := hres
    have hX199 := (Ext.refl w0 H).later hS.ev.size hX195
    have hle198 := hX195.le
    have hS := hS.callX hS194 hX195
    refine pr tb 1 hA rfl fun a hA => ?_
    rcases iteP hF with ⟨hc200, hF⟩ | ⟨hc200, hF⟩
    · have hA := hA.re (d := 20) rfl (congrArg Value.bool (hc200 : _ = true))
      refine pr tb 4 hA rfl fun a hA => wpList_nil (tn (wp_ret (tr (b_ret hA (rs := [.tmp 4]) rfl (.tmp rfl .nil) ?_))))
      exact ⟨congrArg Value.bool hF, (hS.pick (is := []) rfl (by decide)).lower hle198⟩
    have hA := hA.re (d := 20) rfl (congrArg Value.bool (ff_of hc200 : _ = false))
    refine pr tb 4 hA rfl fun a hA => wpList_nil (tn (wp_ret (tr (b_ret hA (rs := [.tmp 4]) rfl (.tmp rfl .nil) ?_))))
    exact ⟨congrArg Value.bool hF, (hS.pick (is := []) rfl (by decide)).lower hle198⟩
  refine cF hA rfl (nf_of (hc132)) (wp_skip (tn (wp_seq (wp_region_lit (o_ld tb hA hS hb104 rfl (i := 2) rfl rfl rfl rfl rfl rfl fun a hA => pr tb 1 hA rfl fun a hA => ?_)))))
  obtain ⟨r133, hx134, hF⟩ := hF
  refine o_call1 hA fi13 rfl rfl rfl rfl (c_recoupref21_Run (x0 := x0) (x1 := x1) hS.imm h0_0 h0_1 h0_2 h1_0 hx134) fun a w v144 hres hA => ?_
  obtain ⟨A138, c139, p140, rfl, hS135, hO141, hr143⟩ := hres
  have hS := hS.callL hS135 (PHeap.le.refl _)
  refine pr tb 5 hA rfl fun a hA => wpList_nil (tn (wp_seq (wp_region_lit (o_ld tb hA hS hb125 rfl (i := 1) rfl rfl rfl rfl rfl rfl fun a hA => pr tb 1 hA rfl fun a hA => ?_))))
  obtain ⟨Hb145, hSb145, hleb145, hplb145⟩ := hS.freezeT (i := 2) rfl
  have hRb146 := hO113.rd2 hplb145 hleb145
  obtain ⟨r147, hx148, hF⟩ := hF
  refine o_call1 hA fi21 rfl rfl rfl rfl (c_regs_Run (x0 := r105.1) (x1 := x1) hSb145.imm hRb146 hr115 hr116 hr117 (h1_0.mono hleb145) hx148) fun a w v158 hres hA => ?_
  obtain ⟨A152, c153, p154, rfl, hS149, hO155, hr157⟩ := hres
  have hS := hS.callL hS149 hleb145
  have hO159 := hO155.flat (H' := H) (fun _ _ _ _ h => h)
  refine pr tb 5 hA rfl fun a hA => wpList_nil (tn (wp_seq (wp_seq (wp_region_lit (pr tb 2 hA rfl fun a hA => wpList_nil (tn ?_))))))
  rcases iteP hF with ⟨hc160, hF⟩ | ⟨hc160, hF⟩
  rotate_left
  · refine cT hA rfl (nt_of (decide_eq_false hc160)) (wp_seq (wp_region_lit ?_))
    obtain ⟨r182, hx183, hF⟩ := hF
    refine o_call1 hA fi20 rfl rfl rfl rfl (c_recouplaw23_anchored hS.imm hx183) fun a w v187 hres hA => ?_
    obtain ⟨H186, rfl, hS184, hX185⟩ := hres
    have hX189 := (Ext.refl w0 H).later hS.ev.size hX185
    have hle188 := hX185.le
    have hS := hS.callX hS184 hX185
    refine pr tb 1 hA rfl fun a hA => ?_
    rcases iteP hF with ⟨hc190, hF⟩ | ⟨hc190, hF⟩
    rotate_left
    · have hA := hA.re (d := 39) rfl (congrArg Value.bool (ff_of hc190 : _ = false))
      refine pr tb 14 hA rfl fun a hA => wpList_nil (tn (wp_ret (tr (b_ret hA (rs := [.tmp 4]) rfl (.tmp rfl .nil) ?_))))
      exact ⟨congrArg Value.bool hF, (hS.pick (is := []) rfl (by decide)).lower hle188⟩
    have hA := hA.re (d := 39) rfl (congrArg Value.bool (hc190 : _ = true))
    refine pr tb 4 hA rfl fun a hA => ?_
    rcases iteP hF with ⟨hc191, hF⟩ | ⟨hc191, hF⟩
    rotate_left
    · have hA := hA.re (d := 43) rfl (congrArg Value.bool (decide_eq_false hc191 : _ = false))
      refine pr tb 10 hA rfl fun a hA => wpList_nil (tn (wp_ret (tr (b_ret hA (rs := [.tmp 4]) rfl (.tmp rfl .nil) ?_))))
      exact ⟨congrArg Value.bool hF, (hS.pick (is := []) rfl (by decide)).lower hle188⟩
    have hA := hA.re (d := 43) rfl (congrArg Value.bool (decide_eq_true hc191 : _ = true))
    refine pr tb 1 hA rfl fun a hA => o_ld tb hA hS hb104 rfl (i := 4) rfl rfl rfl rfl rfl rfl fun a hA => pr tb 2 hA rfl fun a hA => o_ld tb hA hS hb104 rfl (i := 4) rfl rfl rfl rfl rfl rfl fun a hA => pr tb 5 hA rfl fun a hA => wpList_nil (tn (wp_ret (tr (b_ret hA (rs := [.tmp 4]) rfl (.tmp rfl .nil) ?_))))
    exact ⟨congrArg Value.bool hF, (hS.pick (is := []) rfl (by decide)).lower hle188⟩
  refine cF hA rfl (nf_of (decide_eq_true hc160)) (wp_skip (tn (wp_seq (wp_region_lit ?_))))
  obtain ⟨r161, hx162, hF⟩ := hF
  refine o_call1 hA fi20 rfl rfl rfl rfl (c_recouplaw23_anchored hS.imm hx162) fun a w v166 hres hA => ?_
  obtain ⟨H165, rfl, hS163, hX164⟩ := hres
  have hX168 := (Ext.refl w0 H).later hS.ev.size hX164
  have hle167 := hX164.le
  have hS := hS.callX hS163 hX164
  refine pr tb 1 hA rfl fun a hA => ?_
  rcases iteP hF with ⟨hc169, hF⟩ | ⟨hc169, hF⟩
  rotate_left
  · have hA := hA.re (d := 54) rfl (congrArg Value.bool (ff_of hc169 : _ = false))
    refine pr tb 13 hA rfl fun a hA => wpList_nil (tn (wp_ret (b_ret hA (rs := [.tmp 4]) rfl (.tmp rfl .nil) ?_)))
    exact ⟨congrArg Value.bool hF, (hS.pick (is := []) rfl (by decide)).lower hle167⟩
  have hA := hA.re (d := 54) rfl (congrArg Value.bool (hc169 : _ = true))
  refine pr tb 3 hA rfl fun a hA => ?_
  rcases iteP hF with ⟨hc170, hF⟩ | ⟨hc170, hF⟩
  rotate_left
  · have hA := hA.re (d := 57) rfl (congrArg Value.bool (nt_of (decide_eq_false hc170) : _ = true))
    refine pr tb 10 hA rfl fun a hA => wpList_nil (tn (wp_ret (b_ret hA (rs := [.tmp 4]) rfl (.tmp rfl .nil) ?_)))
    exact ⟨congrArg Value.bool hF, (hS.pick (is := []) rfl (by decide)).lower hle167⟩
  have hA := hA.re (d := 57) rfl (congrArg Value.bool (nf_of (decide_eq_true hc170) : _ = false))
  refine pr tb 3 hA rfl fun a hA => ?_
  rcases iteP hF with ⟨hc171, hF⟩ | ⟨hc171, hF⟩
  rotate_left
  · have hA := hA.re (d := 60) rfl (congrArg Value.bool (decide_eq_false hc171 : _ = false))
    refine pr tb 7 hA rfl fun a hA => wpList_nil (tn (wp_ret (b_ret hA (rs := [.tmp 4]) rfl (.tmp rfl .nil) ?_)))
    exact ⟨congrArg Value.bool hF, (hS.pick (is := []) rfl (by decide)).lower hle167⟩
  have hA := hA.re (d := 60) rfl (congrArg Value.bool (decide_eq_true hc171 : _ = true))
  refine pr tb 2 hA rfl fun a hA => ?_
  obtain ⟨Hb172, hSb172, hleb172, hplb172⟩ := hS.freezeT (i := 1) rfl
  have hRb173 : RdS (eSl (eInt .u8 1)) Hb172 A138 c139 r133.1 := (hO141.mono hle167).rd2 hplb172 hleb172
  obtain ⟨Hb174, hSb174, hleb174, hplb174⟩ := hSb172.freezeT (i := 0) rfl
  have hRb175 : RdS (eSl (eInt .u8 1)) Hb174 A152 c153 r147.1 := (hO159.mono (hle167.trans hleb172)).rd2 hplb174 hleb174
  obtain ⟨r176, hx177, hF⟩ := hF
  refine o_call1 hA fi16 rfl rfl rfl rfl (c_recoupref21_Blocks (x0 := r133.1) (x1 := r147.1) hSb174.imm (hRb173.mono hleb174) hRb175 hx177) fun a w v181 hres hA => ?_
  obtain ⟨rfl, hS178⟩ := hres
  have hS := hS.callL hS178 (hleb172.trans hleb174)
  refine pr tb 4 hA rfl fun a hA => wpList_nil (tn (wp_ret (b_ret hA (rs := [.tmp 4]) rfl (.tmp rfl .nil) ?_)))
  exact ⟨congrArg Value.bool hF, (hS.pick (is := []) rfl (by decide)).lower hle167⟩
end Go.RL
