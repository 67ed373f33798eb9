/- Plain laws of what the functions compute, no program in sight.
   Part of the proof of Rows.RegsFlowsSaid of the program 'recoup'. -/
import Derived.Test.YtoaimimdfddidaaPu7
set_option linter.unusedVariables false
set_option linter.unusedSimpArgs false
set_option linter.unusedSectionVars false
set_option linter.unusedVariables false
namespace Go.RL

/-! Of answers; copies are what they copy; Same and Blocks and Like compare. -/

theorem right_ok (m : GMatrix) : Ok (matrix_Right m) (fun b => b = true → 0 ≤ m.Rows ∧ m.Rows ≤ 64 ∧ 0 ≤ m.Cols ∧ m.Cols ≤ 64 ∧ (m.Data.length : Int) = m.Rows * m.Cols) := by
  unfold matrix_Right
  have side : ∀ x : Int, Ok (matrix_side x) (fun b => b = true → 0 ≤ x ∧ x ≤ 64) := by
    intro x; unfold matrix_side
    exact Ok.ite (fun h => Ok.pure fun h2 => ⟨h, of_decide_eq_true h2⟩) fun h => Ok.pure fun h => by cases h
  refine Ok.bind (side _) fun b hb => Ok.ite (fun hc => ?_) fun hc => Ok.pure fun h => by cases h
  refine Ok.bind (side _) fun b2 hb2 => Ok.ite (fun hc2 => Ok.pure fun h => ?_) fun hc => Ok.pure fun h => by cases h
  have h1 := hb hc
  have h2 := hb2 hc2
  have h3 := of_decide_eq_true h
  have : 0 ≤ m.Rows * m.Cols := Int.mul_nonneg h1.1 h2.1
  have : m.Rows * m.Cols ≤ 64 * 64 := Int.mul_le_mul h1.2 h2.2 h2.1 (by omega)
  rw [w64_id (by omega) (by omega)] at h3
  exact ⟨h1.1, h1.2, h2.1, h2.2, h3⟩

theorem of_ok (m : GMatrix) : Ok (flow_Of m) (fun r => r.1.Inputs.length ≤ 64) := by
  have hlim : lim = 140737488355328 := rfl
  unfold flow_Of
  refine Ok.bind (right_ok m) fun b hb => Ok.ite (fun hc => ?_) fun hc => Ok.pure (by show 0 ≤ 64; omega)
  obtain ⟨r0, r1, c0, c1, hd⟩ := hb hc
  obtain ⟨R, hR⟩ := Int.eq_ofNat_of_zero_le r0
  obtain ⟨C, hC⟩ := Int.eq_ofNat_of_zero_le c0
  rw [hR, hC] at hd ⊢
  rw [hR] at r1
  rw [hC] at c1
  rw [Int.toNat_natCast, Int.toNat_natCast]
  have hd' : m.Data.length = R * C := by exact_mod_cast hd
  have hC64 : C ≤ 64 := by omega
  have hR64 : R ≤ 64 := by omega
  refine Ok.mk (by omega) (by omega) ?_
  rw [Int.toNat_natCast]
  refine Ok.bind (P := fun q => q.1.length = C ∧ q.2.length ≤ C) ?_ ?_
  · refine for0_ok (fun j s => s.1.length = C ∧ s.2.length ≤ j) ⟨List.length_replicate, Nat.zero_le _⟩ ?_ ?_
    · rintro j ⟨at_, is⟩ hj ⟨h1, h2⟩
      have h1 : at_.length = C := h1
      have h2 : is.length ≤ j := h2
      refine Ok.bind (P := fun (q : List Int × List Int) => q.1.length = C ∧ q.2.length ≤ j + 1) ?_ fun q hq => Ok.pure ⟨hq.1, hq.2⟩
      refine for0_ok (fun _ _ => True) trivial ?_ ?_
      · intro i _ hi _
        have hij : i * C + j < m.Data.length := by
          rw [hd']
          calc i * C + j < i * C + C := by omega
            _ = (i + 1) * C := by rw [Nat.add_mul, Nat.one_mul]
            _ ≤ R * C := Nat.mul_le_mul_right C hi
        have hi2 : i * C ≤ 64 * 64 := Nat.mul_le_mul (by omega) hC64
        have e1 : w64 ((i : Int) * (C : Int)) = ((i * C : Nat) : Int) := by
          rw [show (i : Int) * (C : Int) = ((i * C : Nat) : Int) by push_cast; rfl, w64_id (by omega) (by omega)]
        have e2 : w64 (((i * C : Nat) : Int) + (j : Int)) = ((i * C + j : Nat) : Int) := by rw [w64_id (by omega) (by omega)]; push_cast; rfl
        rw [e1, e2]
        refine Ok.idxN hij fun x hx => Ok.ite (fun _ => Ok.pure trivial) fun _ => ?_
        refine Ok.idxN (show j < at_.length by omega) fun a ha => Ok.app (by simp only [List.length_cons, List.length_nil]; omega) (Ok.pure ⟨by rw [List.length_set]; exact h1, by simp; omega⟩)
      · intro _ _; exact ⟨h1, by show is.length ≤ j + 1; omega⟩
    · rintro ⟨at_, is⟩ h; exact h
  rintro ⟨at_, is⟩ ⟨h1, h2⟩
  have h1 : at_.length = C := h1
  have h2 : is.length ≤ C := h2
  refine Ok.bind (P := fun _ => True) ?_ fun q _ => Ok.pure (by show is.length ≤ 64; omega)
  refine for0_ok (fun j s => s.1.length = j ∧ s.2.length = j) ⟨rfl, rfl⟩ ?_ fun _ _ => trivial
  rintro j ⟨ns, os⟩ hj ⟨h3, h4⟩
  have h3 : ns.length = j := h3
  have h4 : os.length = j := h4
  have hj1 : j * C ≤ 64 * 64 := Nat.mul_le_mul (by omega) hC64
  have hj2 : (j + 1) * C ≤ R * C := Nat.mul_le_mul_right C hj
  have hj3 : R * C ≤ 64 * 64 := Nat.mul_le_mul hR64 hC64
  have hj4 : (j + 1) * C = j * C + C := by rw [Nat.add_mul, Nat.one_mul]
  have e1 : w64 ((j : Int) * (C : Int)) = ((j * C : Nat) : Int) := by
    rw [show (j : Int) * (C : Int) = ((j * C : Nat) : Int) by push_cast; rfl, w64_id (by omega) (by omega)]
  have e0 : w64 ((j : Int) + 1) = ((j + 1 : Nat) : Int) := by rw [w64_id (by omega) (by omega)]; push_cast; rfl
  have e2 : w64 (((j + 1 : Nat) : Int) * (C : Int)) = (((j + 1) * C : Nat) : Int) := by
    rw [show ((j + 1 : Nat) : Int) * (C : Int) = (((j + 1) * C : Nat) : Int) by push_cast; rfl, w64_id (by omega) (by omega)]
  rw [e1, e0, e2]
  have hsl : sl m.Data ((j * C : Nat) : Int) (((j + 1) * C : Nat) : Int) = some ((m.Data.drop (j * C)).take C) := by
    unfold sl
    rw [if_pos ⟨by omega, by omega, by omega⟩, Int.toNat_natCast, Int.toNat_natCast]
    congr 2; omega
  rw [hsl, Option.bind_some]
  have hyl : ((m.Data.drop (j * C)).take C).length = C := by rw [List.length_take, List.length_drop]; omega
  generalize (m.Data.drop (j * C)).take C = y at hyl
  refine Ok.bind (P := fun _ => True) ?_ fun l _ => ?_
  · refine for0_ok (fun k s => s.length ≤ k) (Nat.zero_le _) ?_ fun _ _ => trivial
    intro k s hk hs
    refine Ok.idxN hk fun x hx => Ok.ite (fun _ => Ok.pure (by show s.length ≤ k + 1; omega)) fun _ => ?_
    exact Ok.idxN (show k < at_.length by omega) fun a ha => Ok.app (by simp only [List.length_cons, List.length_nil]; omega) (Ok.pure (by show (s ++ [_]).length ≤ k + 1; rw [List.length_append]; simp; omega))
  · refine Ok.app (by simp only [List.length_cons, List.length_nil]; omega) (Ok.app (lim_small (by simp; omega)) (Ok.pure ⟨by simp [h3], by simp [h4]⟩))

theorem copyBlocks_eq {x : List (List Int)} (h : x.length * 24 ≤ lim) (h2 : ∀ b ∈ x, b.length ≤ lim) : recoupref21_CopyBlocks x = some x := by
  unfold recoupref21_CopyBlocks
  refine Ok.eq (Ok.bindE (r := x) ?_ (Ok.pure rfl))
  have := for_map (f := (fun (i206 : Nat) (s207 : List (List Int)) => ((idx (x) (i206 : Int)).bind fun x219 => (recoupref01_Copy x219).bind fun r228 => (app 24 (s207) [r228]).bind fun z244 => some (.next (z244)) : Option (Ctl (List (List Int)) (List (List Int)))))) (fin := fun s => s) x (fun b => b) (fun j b s hb hs => ?_)
  · rw [List.map_id'] at this; exact this
  · have hj := (List.getElem?_eq_some_iff.1 hb).1
    rw [idx_of rfl hb, Option.bind_some, copy1_eq (h2 b (List.mem_of_getElem? hb)), Option.bind_some, app_of (by simp only [List.length_cons, List.length_nil]; omega), Option.bind_some]

structure FlSz (f : GFlow) : Prop where
  i : f.Inputs.length * 8 ≤ lim
  n : f.Nodes.length * 24 ≤ lim
  t : ∀ l ∈ f.Nodes, l.length * 16 ≤ lim
  o : f.Outs.length * 8 ≤ lim

theorem flowCopy_eq {f : GFlow} (h : FlSz f) : recoupref21_Copy f = some f := by
  unfold recoupref21_Copy
  refine Ok.eq (Ok.bindE (r := f.Nodes) ?_ ?_)
  · have := for_map (f := (fun (i793 : Nat) (s794 : List (List GTerm)) => ((idx (f.Nodes) (i793 : Int)).bind fun x811 => (app 16 (([] : List GTerm)) (x811)).bind fun z820 => (app 24 (s794) [z820]).bind fun z833 => some (.next (z833)) : Option (Ctl (List (List GTerm)) (List (List GTerm)))))) (fin := fun s => s) f.Nodes (fun b => b) (fun j b s hb hs => ?_)
    · rw [List.map_id'] at this; exact this
    · have hj := (List.getElem?_eq_some_iff.1 hb).1
      have := h.n
      rw [idx_of rfl hb, Option.bind_some, app_of (by have := h.t b (List.mem_of_getElem? hb); simpa using this), Option.bind_some, app_of (by simp only [List.length_cons, List.length_nil]; omega), Option.bind_some]
      rfl
  · refine Ok.app (by have := h.i; simpa using this) (Ok.app (by have := h.o; simpa using this) (Ok.pure rfl))

theorem matCopy_eq {m : GMatrix} (h : m.Data.length ≤ lim) : recoupref03_Copy m = some m := by
  unfold recoupref03_Copy; rw [copy1_eq h, Option.bind_some]

theorem list_eq_of {α : Type} {xs ys : List α} (hl : xs.length = ys.length) (h : ∀ (i : Nat) x y, xs[i]? = some x → ys[i]? = some y → x = y) : xs = ys := by
  apply List.ext_getElem?
  intro i
  by_cases hi : i < xs.length
  · rw [List.getElem?_eq_getElem hi, List.getElem?_eq_getElem (by omega)]
    congr 1
    exact h i _ _ (List.getElem?_eq_getElem hi) (List.getElem?_eq_getElem (by omega))
  · rw [List.getElem?_eq_none (by omega), List.getElem?_eq_none (by omega)]

theorem blocks_refl (x : List (List Int)) : recoupref21_Blocks x x = some true := by
  unfold recoupref21_Blocks
  rw [if_pos rfl]
  refine Ok.eq (Ok.bind (P := OutP (fun _ => True) (fun _ => False)) ?_ fun o ho => ?_)
  · refine for0_ok (fun _ _ => True) trivial ?_ (fun _ _ => trivial)
    intro j _ hj _
    refine Ok.idxN hj fun b hb => ?_
    rw [idx_of rfl hb, Option.bind_some]
    unfold recoupref01_Same
    rw [Option.bind_some]
    exact Ok.ite (fun _ => Ok.pure trivial) fun h => absurd (decide_eq_true rfl) h
  · match o, ho with
    | .fall _, _ => exact Ok.pure rfl

theorem ints_refl (x : List Int) : recoupref11_Ints x x = some true := by
  unfold recoupref11_Ints
  rw [if_pos rfl]
  refine Ok.eq (Ok.bind (P := OutP (fun _ => True) (fun _ => False)) ?_ fun o ho => ?_)
  · refine for0_ok (fun _ _ => True) trivial ?_ (fun _ _ => trivial)
    intro j _ hj _
    refine Ok.idxN hj fun b hb => ?_
    rw [idx_of rfl hb, Option.bind_some]
    exact Ok.ite (fun _ => Ok.pure trivial) fun h => absurd rfl h
  · match o, ho with
    | .fall _, _ => exact Ok.pure rfl

theorem flowSame_refl {f : GFlow} (h : FlSz f) : recoupref21_Same f f = some true := by
  unfold recoupref21_Same
  have hlim : lim = 140737488355328 := rfl
  refine Ok.eq (Ok.bindE (ints_refl _) (Ok.iteT rfl (Ok.bindE (ints_refl _) (Ok.iteT rfl (Ok.iteT rfl (Ok.bind (P := OutP (fun _ => True) (fun _ => False)) ?_ fun o ho => ?_))))))
  · refine for0_ok (fun _ _ => True) trivial ?_ (fun _ _ => trivial)
    intro j _ hj _
    refine Ok.idxN hj fun l hl => ?_
    have hll := h.t l (List.mem_of_getElem? hl)
    rw [idx_of rfl hl, Option.bind_some]
    refine Ok.iteT rfl (Ok.bind (P := OutP (fun _ => True) (fun _ => False)) ?_ fun o ho => ?_)
    · refine iter_ok (fun (s : Int) => ∃ m : Nat, s = (m : Int) ∧ m ≤ l.length) (fun s => ((l.length : Int) - s).toNat) ?_ 0 ⟨0, rfl, Nat.zero_le _⟩
      rintro _ ⟨m, rfl, hm⟩
      rw [Option.bind_some]
      refine Ok.ite (fun hc => ?_) fun hc => Ok.pure trivial
      rw [Option.bind_some]
      refine Ok.idxN (by omega) fun t ht => ?_
      rw [Option.bind_some, idx_of rfl ht, Option.bind_some]
      refine Ok.iteT (by simp) (Ok.pure ?_)
      show (∃ m' : Nat, w64 ((m : Int) + 1) = (m' : Int) ∧ m' ≤ l.length) ∧ ((l.length : Int) - w64 ((m : Int) + 1)).toNat < ((l.length : Int) - (m : Int)).toNat
      rw [w64_id (by omega) (by omega)]
      exact ⟨⟨m + 1, by push_cast; rfl, by omega⟩, by omega⟩
    · match o, ho with
      | .fall _, _ => exact Ok.pure trivial
  · match o, ho with
    | .fall _, _ => exact Ok.pure rfl

theorem like_refl (m : GMatrix) : recoupref03_Like m m = some true := by
  unfold recoupref03_Like
  rw [if_pos rfl, if_pos rfl]
  unfold recoupref01_Same
  rw [Option.bind_some, decide_eq_true rfl]

theorem anch21 : recouplaw21_anchored = some true := by
  unfold recouplaw21_anchored
  have h1 : flow_Of (⟨(1 : Int), (2 : Int), ([(0 : Int), (3 : Int)] : List Int)⟩ : GMatrix) = some (⟨[1], [[⟨0, 3⟩]], [1]⟩, 0) := by kernel_rfl
  have h2 : flow_May ⟨[1], [[⟨0, 3⟩]], [1]⟩ = some true := by kernel_rfl
  rw [h1, Option.bind_some, if_pos rfl]
  refine Ok.eq (Ok.bindE (flowSame_refl ⟨by decide, by decide, by decide, by decide⟩) (Ok.iteT rfl (Ok.bindE h2 (Ok.pure rfl))))
end Go.RL
