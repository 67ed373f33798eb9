/- Plain laws of what the functions compute, no program in sight.
   Part of the proof of Rows.RegsFlowsSaid of the program 'recoup'. -/
import Derived.Test.YtoaimimdfddidaaPu2
set_option linter.unusedVariables false
set_option linter.unusedSimpArgs false
set_option linter.unusedSectionVars false
namespace Go.RL

/-! Loops that fill, map or fold; the scaling of a block. -/

theorem for_map {α β ρ : Type} {f : Nat → List β → Option (Ctl (List β) ρ)} {fin : List β → ρ} (xs : List α) (h : α → β)
    (hs : ∀ j x s, xs[j]? = some x → s.length = j → f j s = some (.next (s ++ [h x]))) : forN f fin xs.length 0 [] = some (fin (xs.map h)) := by
  have := (for_foldl (f := f) (fin := fin) xs (fun s x => s ++ [h x]) (fun j s => s.length = j) (s := []) rfl (fun j x s hx hl => ⟨hs j x s hx hl, by simp [hl]⟩)).1
  rw [this]
  have key : ∀ (ys : List α) (s : List β), ys.foldl (fun s x => s ++ [h x]) s = s ++ ys.map h := by
    intro ys
    induction ys with
    | nil => intro s; simp
    | cons y ys ih => intro s; rw [List.foldl_cons, ih]; simp
  rw [key]; rfl

theorem for_fill {α ρ : Type} {f : Nat → List α → Option (Ctl (List α) ρ)} {fin : List α → ρ} (z : List α) (n : Nat) (hn : n = z.length) (g : Nat → α)
    (hs : ∀ j s, j < z.length → s.length = z.length → s[j]? = z[j]? → f j s = some (.next (s.set j (g j)))) : forN f fin n 0 z = some (fin ((List.range z.length).map g)) := by
  subst hn
  refine Ok.eq (for0_ok (fun j s => s.length = z.length ∧ (∀ i, i < j → s[i]? = some (g i)) ∧ ∀ i, j ≤ i → s[i]? = z[i]?) ⟨rfl, fun i hi => by omega, fun i _ => rfl⟩ ?_ ?_)
  · rintro j s hj ⟨h1, h2, h3⟩
    refine Ok.of (hs j s hj h1 (h3 j (Nat.le_refl _))) ⟨by rw [List.length_set, h1], fun i hi => ?_, fun i hi => ?_⟩
    · rw [List.getElem?_set]
      split
      · rename_i e; subst e; rw [if_pos (by omega)]
      · exact h2 i (by omega)
    · rw [List.getElem?_set, if_neg (by omega)]; exact h3 i (by omega)
  · rintro s ⟨h1, h2, _⟩
    congr 1
    apply List.ext_getElem?
    intro i
    by_cases hi : i < z.length
    · rw [h2 i hi, List.getElem?_map, List.getElem?_range hi]; rfl
    · rw [List.getElem?_eq_none (by omega), List.getElem?_eq_none (by simp; omega)]

theorem range_map {α β : Type} {xs : List α} {g : Nat → β} {h : α → β} {n : Nat} (hn : n = xs.length) (e : ∀ i x, xs[i]? = some x → g i = h x) : (List.range n).map g = xs.map h := by
  subst hn
  apply List.ext_getElem?
  intro i
  by_cases hi : i < xs.length
  · rw [List.getElem?_map, List.getElem?_range hi, List.getElem?_map, List.getElem?_eq_getElem hi]
    exact congrArg some (e i _ (List.getElem?_eq_getElem hi))
  · rw [List.getElem?_eq_none (by simp; omega), List.getElem?_eq_none (by simp; omega)]

theorem isB_inR {x : Int} : inR .u8 x ↔ isB x := by
  unfold inR isB
  constructor
  · rintro ⟨h1, h2⟩
    have e1 : IntKind.min .u8 = 0 := rfl
    have e2 : IntKind.max .u8 = 255 := rfl
    rw [e1] at h1; rw [e2] at h2; omega
  · rintro ⟨h1, h2⟩
    have e1 : IntKind.min .u8 = 0 := rfl
    have e2 : IntKind.max .u8 = 255 := rfl
    rw [e1, e2]; omega
theorem inB.at {xs : List Int} (h : inB xs) {i : Nat} {x : Int} (hx : xs[i]? = some x) : isB x := isB_inR.1 (h x (List.mem_of_getElem? hx))

theorem bXor_isB (a b : Int) : isB (bXor .u8 a b) := isB_inR.1 (inR_wrap .u8 _)

theorem scale_eq {c : Int} {v : List Int} (hc : isB c) (hv : inB v) (hl : v.length ≤ lim) : field_Scale c v = some (v.map (gm c)) := by
  unfold field_Scale
  refine Ok.eq (Ok.bindE build_tabs (Ok.mk (by omega) (by simpa using hl) (Ok.bindE (r := v.map (gm c)) ?_ (Ok.pure rfl))))
  rw [show ((v.length : Nat) : Int).toNat = v.length by simp]
  rw [for_fill (List.replicate v.length (0 : Int)) v.length (by simp) (fun i => gm c (v.getD i 0))]
  · congr 1
    rw [List.length_replicate]
    exact range_map rfl (fun i x hx => by rw [List.getD_eq_getElem?_getD, hx]; rfl)
  · intro j s hj hs _
    rw [List.length_replicate] at hj hs
    have hx : v[j]? = some (v[j]'hj) := List.getElem?_eq_getElem hj
    rw [idx_of rfl hx, Option.bind_some]
    have hm := tab_mul hc (hv.at hx)
    refine (congrArg (fun o => Option.bind o _) hm).trans ?_
    show (idx s (j : Int)).bind _ = _
    rw [idx_of rfl (List.getElem?_eq_getElem (show j < s.length by omega)), Option.bind_some]
    simp only [Int.toNat_natCast, List.getD_eq_getElem?_getD, hx, Option.getD_some]

/-- s and c times v, place by place -/
def mac (s : List Int) (c : Int) (v : List Int) : List Int := List.zipWith (fun a b => bXor .u8 a (gm c b)) s v
theorem mac_len {s v : List Int} {c : Int} (h : s.length = v.length) : (mac s c v).length = v.length := by unfold mac; rw [List.length_zipWith, h, Nat.min_self]
theorem mac_get {s v : List Int} {c : Int} {i : Nat} {a b : Int} (ha : s[i]? = some a) (hb : v[i]? = some b) : (mac s c v)[i]? = some (bXor .u8 a (gm c b)) := by
  unfold mac; rw [List.getElem?_zipWith, ha, hb]
theorem mac_inB (s v : List Int) (c : Int) : inB (mac s c v) := by
  intro x hx
  obtain ⟨i, hi⟩ := List.getElem?_of_mem hx
  unfold mac at hi
  rw [List.getElem?_zipWith] at hi
  split at hi
  · cases hi; exact isB_inR.2 (bXor_isB _ _)
  · cases hi

/-- the program's way -/
theorem xor_loop {s r : List Int} {fin : List Int → List Int} (hfin : fin = fun s => s) (hl : r.length = s.length) :
    (forN (fun (i7046 : Nat) (s7047 : List Int) => ((idx (r) (i7046 : Int)).bind fun x7058 => (idx (s7047) (i7046 : Int)).bind fun x7066 => (idx (s7047) (i7046 : Int)).bind fun x7074 => some (.next ((s7047).set ((i7046 : Int)).toNat (bXor .u8 x7066 x7058))) : Option (Ctl _ _))) fin r.length 0 s : Option (List Int))
      = some (List.zipWith (bXor .u8) s r) := by
  subst hfin
  rw [for_fill s r.length hl (fun i => bXor .u8 (s.getD i 0) (r.getD i 0))]
  · congr 1
    apply List.ext_getElem?
    intro i
    rw [List.getElem?_zipWith]
    by_cases hi : i < s.length
    · rw [List.getElem?_map, List.getElem?_range hi, List.getElem?_eq_getElem hi, List.getElem?_eq_getElem (show i < r.length by omega)]
      simp [List.getD_eq_getElem?_getD, List.getElem?_eq_getElem hi, List.getElem?_eq_getElem (show i < r.length by omega)]
    · rw [List.getElem?_eq_none (by simp; omega), List.getElem?_eq_none (show s.length ≤ i by omega)]
  · intro j t hj ht htj
    have hx : r[j]? = some (r[j]'(by omega)) := List.getElem?_eq_getElem (by omega)
    have hy : s[j]? = some (s[j]'(by omega)) := List.getElem?_eq_getElem (by omega)
    rw [idx_of rfl hx, Option.bind_some, idx_of rfl (htj.trans hy), Option.bind_some, Option.bind_some]
    simp [List.getD_eq_getElem?_getD, hx, hy]
theorem mac_scale (s v : List Int) (c : Int) : List.zipWith (bXor .u8) s (v.map (gm c)) = mac s c v := by
  unfold mac; rw [List.zipWith_map_right]

/-- the document's way -/
theorem refMac_eq {s v : List Int} {c : Int} (hc : isB c) (hv : inB v) (hl : s.length = v.length) (hm : v.length ≤ lim) : recoupref01_Mac s c v = some (mac s c v, 0) := by
  unfold recoupref01_Mac
  rw [if_pos (by omega)]
  refine Ok.eq (Ok.bindE (r := mac s c v) ?_ (Ok.pure rfl))
  have key := (for_foldl (f := (fun (i552 : Nat) (s553 : List Int) => ((idx (s) (i552 : Int)).bind fun x633 => (idx (v) (i552 : Int)).bind fun x640 => (recoupref01_Mul c x640).bind fun r647 => (app 1 (s553) (([bXor .u8 x633 r647] : List Int))).bind fun z659 => some (.next (z659)) : Option (Ctl (List Int) (List Int))))) (fin := fun s => s) (s.zip v) (fun q x => q ++ [bXor .u8 x.1 (gm c x.2)]) (fun j q => q.length = j) (s := []) rfl ?_).1
  · rw [List.length_zip, hl, Nat.min_self] at key
    rw [key]
    have key : ∀ (ys : List (Int × Int)) (s : List Int), ys.foldl (fun q x => q ++ [bXor .u8 x.1 (gm c x.2)]) s = s ++ ys.map (fun x => bXor .u8 x.1 (gm c x.2)) := by
      intro ys
      induction ys with
      | nil => intro s; simp
      | cons y ys ih => intro s; rw [List.foldl_cons, ih]; simp
    rw [key]
    unfold mac
    congr 1
    rw [List.nil_append, List.zip, List.map_zipWith]
  · rintro j ⟨a, b⟩ q hx hq
    have hj : j < s.length := by
      have := (List.getElem?_eq_some_iff.1 hx).1; rw [List.length_zip] at this; omega
    have h2 := List.getElem?_zip_eq_some.1 hx
    refine ⟨?_, by simp [hq]⟩
    rw [idx_of rfl h2.1, Option.bind_some, idx_of rfl h2.2, Option.bind_some, refMul_eq hc (hv.at h2.2), Option.bind_some, app_of (by simp; omega), Option.bind_some]
end Go.RL
