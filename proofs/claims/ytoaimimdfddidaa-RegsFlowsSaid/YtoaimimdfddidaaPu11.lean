/- Plain laws of what the functions compute, no program in sight.
   Part of the proof of Rows.RegsFlowsSaid of the program 'recoup'. -/
import Derived.Test.YtoaimimdfddidaaPu10
set_option linter.unusedVariables false
set_option linter.unusedSimpArgs false
set_option linter.unusedSectionVars false
set_option linter.unusedVariables false
namespace Go.RL

/-! The machine of registers: what regs.Run does, step by step. -/

abbrev Rg : Type := List (Option (List Int))
def inL (n : Int) (k : Nat) : Prop := 0 ≤ n ∧ n < (k : Int)
instance (n : Int) (k : Nat) : Decidable (inL n k) := inferInstanceAs (Decidable (_ ∧ _))

def stepM (bl : List (List Int)) (size : Nat) (s : GStep) (m : Rg × Rg) : Option (Rg × Rg) :=
  if s.Kind = 1 then (if inL s.D m.1.length then some (m.1.set s.D.toNat (some (List.replicate size 0)), m.2) else none)
  else if s.Kind = 2 then (if inL s.D m.1.length ∧ inL s.S bl.length then some (m.1.set s.D.toNat (some (bl.getD s.S.toNat [])), m.2) else none)
  else if s.Kind = 3 then (if inL s.D m.1.length ∧ inL s.S m.1.length then
      match m.1.getD s.D.toNat none, m.1.getD s.S.toNat none with
      | some d, some v => some (m.1.set s.D.toNat (some (mac d s.C v)), m.2)
      | _, _ => none
    else none)
  else if s.Kind = 4 then (if inL s.S m.1.length then
      match m.1.getD s.S.toNat none with
      | some v => if inL s.D m.2.length then (match m.2.getD s.D.toNat none with | none => some (m.1, m.2.set s.D.toNat (some v)) | some _ => none) else none
      | none => none
    else none)
  else none

def runM (bl : List (List Int)) (size : Nat) : List GStep → Rg × Rg → Option (Rg × Rg)
  | [], m => some m
  | s :: ss, m => (stepM bl size s m).bind (runM bl size ss)
theorem runM_append (bl : List (List Int)) (size : Nat) : ∀ (a b : List GStep) (m : Rg × Rg), runM bl size (a ++ b) m = (runM bl size a m).bind (runM bl size b)
  | [], b, m => rfl
  | s :: a, b, m => by
    show (stepM bl size s m).bind (runM bl size (a ++ b)) = ((stepM bl size s m).bind (runM bl size a)).bind (runM bl size b)
    cases stepM bl size s m with
    | none => rfl
    | some m' => exact runM_append bl size a b m'
theorem runM_snoc {bl : List (List Int)} {size : Nat} {a : List GStep} {s : GStep} {m m' m'' : Rg × Rg} (h : runM bl size a m = some m') (hs : stepM bl size s m' = some m'') : runM bl size (a ++ [s]) m = some m'' := by
  rw [runM_append, h, Option.bind_some]
  show (stepM bl size s m').bind (runM bl size []) = _
  rw [hs]; rfl

def EvenO (size : Nat) (rs : Rg) : Prop := ∀ (i : Nat) v, rs[i]? = some (some v) → v.length = size ∧ inB v
theorem EvenO.set {size : Nat} {rs : Rg} (h : EvenO size rs) {i : Nat} {v : List Int} (hv : v.length = size ∧ inB v) : EvenO size (rs.set i (some v)) := by
  intro j w hw
  rw [List.getElem?_set] at hw
  split at hw
  · split at hw
    · cases hw; exact hv
    · cases hw
  · exact h j w hw

theorem in_eq (n : Int) (l : Rg) : regs_in n (l.map (fun o => Option.getD o [])) = some (decide (inL n l.length)) := by
  unfold regs_in inL
  by_cases h : 0 ≤ n
  · rw [if_pos h, List.length_map]; simp [h]
  · rw [if_neg h]; simp [h]
theorem in_eq2 (n : Int) (l : List (List Int)) : regs_in n l = some (decide (inL n l.length)) := by
  unfold regs_in inL
  by_cases h : 0 ≤ n
  · rw [if_pos h]; simp [h]
  · rw [if_neg h]; simp [h]

theorem xmac_loop {rs : Rg} {D : Int} {d r : List Int} (hD : inL D rs.length) (hd : rs[D.toNat]? = some (some d)) (hl : r.length = d.length) :
    (forN (fun (i32319 : Nat) (s32320 : List (Option (List Int))) => ((idx (r) (i32319 : Int)).bind fun x32335 => (idx (s32320) D).bind fun x32401 => (idx ((x32401.getD [])) (i32319 : Int)).bind fun x32413 => (idx ((x32401.getD [])) (i32319 : Int)).bind fun x32421 => some (.next ((s32320).set (D).toNat ((x32401).map fun _ => ((x32401.getD [])).set ((i32319 : Int)).toNat (bXor .u8 x32413 x32335)))) : Option (Ctl _ _))) (fun (s32320 : List (Option (List Int))) => (s32320)) ((r).length) 0 (rs) : Option (List (Option (List Int)))) = some (rs.set D.toNat (some (List.zipWith (bXor .u8) d r))) := by
  refine Ok.eq (for0_ok (fun j s => ∃ d', s = rs.set D.toNat (some d') ∧ d'.length = d.length ∧ (∀ i : Nat, i < j → d'[i]? = (List.zipWith (bXor .u8) d r)[i]?) ∧ ∀ i : Nat, j ≤ i → d'[i]? = d[i]?) ⟨d, ?_, rfl, fun i hi => by omega, fun _ _ => rfl⟩ ?_ ?_)
  · apply List.ext_getElem?
    intro i
    rw [List.getElem?_set]
    split
    · rename_i e; subst e; rw [hd, if_pos (by have := hD.1; have := hD.2; omega)]
    · rfl
  · rintro j s hj ⟨d', rfl, h1, h2, h3⟩
    refine Ok.idxN hj fun x hx => ?_
    have hDl : D.toNat < rs.length := by have := hD.1; have := hD.2; omega
    have hg : (rs.set D.toNat (some d'))[D.toNat]? = some (some d') := by rw [List.getElem?_set, if_pos rfl, if_pos hDl]
    have hy : d[j]? = some (d[j]'(by omega)) := List.getElem?_eq_getElem (by omega)
    have hy' : d'[j]? = some (d[j]'(by omega)) := (h3 j (Nat.le_refl _)).trans hy
    rw [idx_of (k := D.toNat) (by have := hD.1; omega) hg, Option.bind_some, Option.getD_some, idx_of rfl hy', Option.bind_some, Option.bind_some]
    refine Ok.pure ⟨d'.set j (bXor .u8 (d[j]'(by omega)) x), ?_, by rw [List.length_set, h1], fun i hi => ?_, fun i hi => ?_⟩
    · rw [List.set_set, Int.toNat_natCast]; rfl
    · rw [List.getElem?_set]
      split
      · rename_i e; subst e; rw [if_pos (by omega), List.getElem?_zipWith, hy, hx]
      · exact h2 i (by omega)
    · rw [List.getElem?_set, if_neg (by omega)]; exact h3 i (by omega)
  · rintro s ⟨d', rfl, h1, h2, _⟩
    congr 2
    apply List.ext_getElem?
    intro i
    by_cases hi : i < r.length
    · exact h2 i hi
    · rw [List.getElem?_eq_none (by omega), List.getElem?_eq_none (by simp; omega)]

def StepQ (size : Nat) (m : Rg × Rg) (r : Option (Rg × Rg)) (o : Bool × Rg × Rg) : Prop :=
  match r with
  | some m' => o = (true, m'.1, m'.2) ∧ EvenO size m'.1 ∧ EvenO size m'.2
  | none => o.1 = false

theorem getD_of {rs : Rg} {i : Nat} {o : Option (List Int)} (h : rs[i]? = some o) : rs.getD i none = o := by rw [List.getD_eq_getElem?_getD, h]; rfl

theorem step_ok {bl : List (List Int)} {size : Nat} (hb : BlOk bl) (hs : ∀ b ∈ bl, b.length = size) (hsz : size ≤ lim) {s : GStep} (hC : isB s.C) {m : Rg × Rg} (h1 : EvenO size m.1) (h2 : EvenO size m.2) :
    Ok (if s.Kind = (1 : Int) then ((regs_in s.D ((m.1).map (fun o => Option.getD o []))).bind fun r31525 => if r31525 = true then ((mk 1 (size : Int) (0 : Int)).bind fun z31566 => (idx (m.1) s.D).bind fun x31573 => some (true, (m.1).set (s.D).toNat (some z31566), m.2)) else (some (false, m.1, m.2))) else (if s.Kind = (2 : Int) then ((regs_in s.D ((m.1).map (fun o => Option.getD o []))).bind fun r31662 => if r31662 = true then ((regs_in s.S bl).bind fun r31669 => if r31669 = true then ((idx (bl) s.S).bind fun x31744 => (mk 1 (size : Int) (0 : Int)).bind fun z31753 => (app 1 (([] : List Int)) (x31744)).bind fun z31760 => (idx (m.1) s.D).bind fun x31768 => some (true, (m.1).set (s.D).toNat (some z31760), m.2)) else (some (false, m.1, m.2))) else (some (false, m.1, m.2))) else (if s.Kind = (3 : Int) then ((regs_in s.D ((m.1).map (fun o => Option.getD o []))).bind fun r31997 => if r31997 = true then ((regs_in s.S ((m.1).map (fun o => Option.getD o []))).bind fun r32006 => if r32006 = true then ((idx (m.1) s.D).bind fun x32013 => if x32013.isNone = true then (some (false, m.1, m.2)) else ((idx (m.1) s.S).bind fun x32026 => if x32026.isNone = true then (some (false, m.1, m.2)) else ((idx (m.1) s.S).bind fun x32091 => (field_Scale s.C (x32091.getD [])).bind fun r32105 => (forN (fun (i32319 : Nat) (s32320 : List (Option (List Int))) => ((idx (r32105) (i32319 : Int)).bind fun x32335 => (idx (s32320) s.D).bind fun x32401 => (idx ((x32401.getD [])) (i32319 : Int)).bind fun x32413 => (idx ((x32401.getD [])) (i32319 : Int)).bind fun x32421 => some (.next ((s32320).set (s.D).toNat ((x32401).map fun _ => ((x32401.getD [])).set ((i32319 : Int)).toNat (bXor .u8 x32413 x32335)))) : Option (Ctl _ _))) (fun (s32320 : List (Option (List Int))) => (s32320)) ((r32105).length) 0 (m.1) : Option (List (Option (List Int)))).bind fun o32318 => some (true, o32318, m.2)))) else (some (false, m.1, m.2))) else (some (false, m.1, m.2))) else (if s.Kind = (4 : Int) then ((regs_in s.S ((m.1).map (fun o => Option.getD o []))).bind fun r32649 => if r32649 = true then ((idx (m.1) s.S).bind fun x32656 => if x32656.isNone = true then (some (false, m.1, m.2)) else ((regs_in s.D ((m.2).map (fun o => Option.getD o []))).bind fun r32671 => if r32671 = true then ((idx (m.2) s.D).bind fun x32678 => if x32678.isNone = true then ((idx (m.1) s.S).bind fun x32765 => (mk 1 (size : Int) (0 : Int)).bind fun z32777 => (app 1 (([] : List Int)) ((x32765.getD []))).bind fun z32784 => (idx (m.2) s.D).bind fun x32792 => some (true, m.1, (m.2).set (s.D).toNat (some z32784))) else (some (false, m.1, m.2))) else (some (false, m.1, m.2)))) else (some (false, m.1, m.2))) else (some (false, m.1, m.2))))) : Option (Bool × List (Option (List Int)) × List (Option (List Int))))
      (StepQ size m (stepM bl size s m)) := by
  have ix : ∀ {rs : Rg} {n : Int}, inL n rs.length → ∃ o, idx rs n = some o ∧ rs[n.toNat]? = some o := by
    intro rs n h
    have e : rs[n.toNat]? = some (rs[n.toNat]'(by have := h.1; have := h.2; omega)) := List.getElem?_eq_getElem _
    exact ⟨_, idx_of (by have := h.1; omega) e, e⟩
  have zz : Go.RL.mk 1 (size : Int) (0 : Int) = some (List.replicate size 0) := by rw [mk_of (by omega) (by simpa using hsz), Int.toNat_natCast]
  unfold stepM
  refine Ok.ite (fun k1 => ?_) fun k1 => ?_
  · rw [if_pos k1, in_eq, Option.bind_some]
    by_cases c1 : inL s.D m.1.length
    · rw [if_pos c1]
      obtain ⟨o, e1, e2⟩ := ix c1
      refine Ok.iteT (decide_eq_true c1) ?_
      rw [zz, Option.bind_some, e1, Option.bind_some]
      exact Ok.pure ⟨rfl, h1.set ⟨List.length_replicate, inB.zeros _⟩, h2⟩
    · rw [if_neg c1]
      exact Ok.iteF (by simpa using c1) (Ok.pure rfl)
  rw [if_neg k1]
  refine Ok.ite (fun k2 => ?_) fun k2 => ?_
  · rw [if_pos k2, in_eq, Option.bind_some]
    by_cases c1 : inL s.D m.1.length
    · refine Ok.iteT (decide_eq_true c1) ?_
      rw [in_eq2, Option.bind_some]
      by_cases c2 : inL s.S bl.length
      · rw [if_pos (show inL s.D m.1.length ∧ inL s.S bl.length from ⟨c1, c2⟩)]
        obtain ⟨o, e1, e2⟩ := ix c1
        have e : bl[s.S.toNat]? = some (bl[s.S.toNat]'(by have := c2.1; have := c2.2; omega)) := List.getElem?_eq_getElem _
        have hm := List.mem_of_getElem? e
        refine Ok.iteT (decide_eq_true c2) ?_
        rw [idx_of (k := s.S.toNat) (by have := c2.1; omega) e, Option.bind_some, zz, Option.bind_some, app_of (by have := hb.s _ hm; simpa using this), Option.bind_some, e1, Option.bind_some]
        refine Ok.pure ⟨?_, h1.set ?_, h2⟩
        · rw [List.getD_eq_getElem?_getD, e]; rfl
        · rw [List.getD_eq_getElem?_getD, e]; exact ⟨hs _ hm, hb.b _ hm⟩
      · rw [if_neg (show ¬ (inL s.D m.1.length ∧ inL s.S bl.length) from fun h => c2 h.2)]
        exact Ok.iteF (by simpa using c2) (Ok.pure rfl)
    · rw [if_neg (show ¬ (inL s.D m.1.length ∧ inL s.S bl.length) from fun h => c1 h.1)]
      exact Ok.iteF (by simpa using c1) (Ok.pure rfl)
  rw [if_neg k2]
  refine Ok.ite (fun k3 => ?_) fun k3 => ?_
  · rw [if_pos k3, in_eq, Option.bind_some]
    by_cases c1 : inL s.D m.1.length
    · refine Ok.iteT (decide_eq_true c1) ?_
      rw [in_eq, Option.bind_some]
      by_cases c2 : inL s.S m.1.length
      · rw [if_pos (show inL s.D m.1.length ∧ inL s.S m.1.length from ⟨c1, c2⟩)]
        obtain ⟨o, e1, e2⟩ := ix c1
        obtain ⟨o2, e3, e4⟩ := ix c2
        refine Ok.iteT (decide_eq_true c2) ?_
        rw [e1, Option.bind_some, e3, Option.bind_some, getD_of e2, getD_of e4]
        cases o with
        | none => exact Ok.iteT rfl (Ok.pure rfl)
        | some d =>
          refine Ok.iteF (by simp) ?_
          cases o2 with
          | none => exact Ok.iteT rfl (Ok.pure rfl)
          | some v =>
            refine Ok.iteF (by simp) ?_
            have hd := h1 _ _ e2
            have hv := h1 _ _ e4
            rw [Option.bind_some, Option.getD_some, scale_eq hC hv.2 (by omega), Option.bind_some]
            refine Ok.bindE (xmac_loop (rs := m.1) c1 e2 (by rw [List.length_map]; omega)) (Ok.pure ⟨?_, h1.set ⟨?_, mac_inB _ _ _⟩, h2⟩)
            · rw [mac_scale]
            · rw [mac_len (by omega)]; exact hv.1
      · rw [if_neg (show ¬ (inL s.D m.1.length ∧ inL s.S m.1.length) from fun h => c2 h.2)]
        exact Ok.iteF (by simpa using c2) (Ok.pure rfl)
    · rw [if_neg (show ¬ (inL s.D m.1.length ∧ inL s.S m.1.length) from fun h => c1 h.1)]
      exact Ok.iteF (by simpa using c1) (Ok.pure rfl)
  rw [if_neg k3]
  refine Ok.ite (fun k4 => ?_) fun k4 => ?_
  · rw [if_pos k4, in_eq, Option.bind_some]
    by_cases c1 : inL s.S m.1.length
    · refine Ok.iteT (decide_eq_true c1) ?_
      rw [if_pos c1]
      obtain ⟨o, e1, e2⟩ := ix c1
      rw [e1, Option.bind_some, getD_of e2]
      cases o with
      | none => exact Ok.iteT rfl (Ok.pure rfl)
      | some v =>
        refine Ok.iteF (by simp) ?_
        rw [in_eq, Option.bind_some]
        have hv := h1 _ _ e2
        show Ok _ (StepQ size m (if inL s.D m.2.length then _ else none))
        by_cases c2 : inL s.D m.2.length
        · rw [if_pos c2]
          refine Ok.iteT (decide_eq_true c2) ?_
          obtain ⟨o2, e3, e4⟩ := ix c2
          rw [e3, Option.bind_some, getD_of e4]
          cases o2 with
          | none =>
            refine Ok.iteT rfl ?_
            rw [Option.bind_some, zz, Option.bind_some, Option.getD_some, app_of (by have := hv.1; simp; omega), Option.bind_some, Option.bind_some]
            exact Ok.pure ⟨rfl, h1, h2.set hv⟩
          | some w => exact Ok.iteF (by simp) (Ok.pure rfl)
        · rw [if_neg c2]
          exact Ok.iteF (by simpa using c2) (Ok.pure rfl)
    · rw [if_neg c1]
      exact Ok.iteF (by simpa using c1) (Ok.pure rfl)
  · rw [if_neg k4]
    exact Ok.pure rfl
end Go.RL
