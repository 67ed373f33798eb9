/- A program logic over the model's machine, part 11: quiet steps, pieces of memory, loops, calls.
   Part of the proof of Rows.RegsFlowsSaid of the program 'recoup'. -/
import Derived.Test.YtoaimimdfddidaaLb10
set_option linter.unusedVariables false
set_option linter.unusedSimpArgs false
set_option linter.unusedSectionVars false
namespace Go.RL

theorem inR_up {k k' : IntKind} {x : Int} (h : inR k x) (h1 : k'.min ≤ k.min) (h2 : k.max ≤ k'.max) : inR k' x := ⟨Int.le_trans h1 h.1, Int.le_trans h.2 h2⟩
theorem wrap_in {k : IntKind} {x : Int} (h : inR k x) : k.wrap x = x := by
  unfold inR at h
  cases k <;> simp [IntKind.wrap, IntKind.min, IntKind.max, IntKind.signed, IntKind.bits] at h ⊢ <;> (try split) <;> omega
theorem wrap_up {k k' : IntKind} {x : Int} (h : inR k x) (h1 : k'.min ≤ k.min) (h2 : k.max ≤ k'.max) : k'.wrap x = x := wrap_in (inR_up h h1 h2)
theorem inR_pos {k : IntKind} {x : Int} (h : inR k x) (h1 : 0 ≤ k.min) : 0 ≤ x := Int.le_trans h1 h.1
theorem toNat_le {x : Int} (h : inR .i64 x) : x.toNat ≤ 9223372036854775807 := by have := inR_i64 h; omega
theorem inR_tmod {k : IntKind} {x y : Int} (h : inR k x) : inR k (Int.tmod x y) := by
  have h1 : k.min ≤ 0 := by cases k <;> decide
  have h2 : 0 ≤ k.max := by cases k <;> decide
  unfold inR at *
  have key : ∀ a b : Int, 0 ≤ a → 0 ≤ Int.tmod a b ∧ Int.tmod a b ≤ a := by
    intro a b ha
    refine ⟨Int.tmod_nonneg b ha, ?_⟩
    obtain ⟨n, rfl⟩ := Int.eq_ofNat_of_zero_le ha
    rcases Int.le_total 0 b with hb | hb
    · obtain ⟨m, rfl⟩ := Int.eq_ofNat_of_zero_le hb
      have := Nat.mod_le n m
      show ((n % m : Nat) : Int) ≤ n
      omega
    · obtain ⟨m, hm⟩ := Int.eq_ofNat_of_zero_le (show 0 ≤ -b by omega)
      have hb' : b = -(m : Int) := by omega
      subst hb'
      rw [Int.tmod_neg]
      have := Nat.mod_le n m
      show ((n % m : Nat) : Int) ≤ n
      omega
  rcases Int.le_total 0 x with q | q
  · have := key x y q
    omega
  · have h3 := key (-x) y (by omega)
    rw [Int.neg_tmod] at h3
    omega

theorem St.nil' {X : Nat → Prop} {w0 w : World} {H : PHeap} {L : List Piece} (hS : St X w0 w H L) : St X w0 w H (emp :: L) :=
  ⟨hS.ev, hS.old, hS.imm, fun p hp g o e => by
    rcases List.mem_cons.1 hp with rfl | hp
    · cases e
    · exact hS.own p hp g o e, List.Pairwise.cons (fun q _ g o o' e _ => by cases e) hS.apart⟩

/-- some of the pieces, in another order, nothing at some places -/
def picksO (L : List Piece) : List (Option Nat) → Option (List Piece)
  | [] => some []
  | none :: is => match picksO L is with
    | some ps => some (emp :: ps)
    | none => none
  | some i :: is =>
    match L[i]?, picksO L is with
    | some p, some ps => some (p :: ps)
    | _, _ => none

theorem picksO_get {L : List Piece} : ∀ {is : List (Option Nat)} {L' : List Piece}, picksO L is = some L' → L'.length = is.length ∧
    ∀ j (hj : j < is.length) (hj' : j < L'.length) g o, L'[j] g = some o → ∃ i, is[j] = some i ∧ L[i]? = some L'[j]
  | [], L', h => by simp [picksO] at h; subst h; exact ⟨rfl, fun j hj => absurd hj (by simp)⟩
  | none :: is, L', h => by
    unfold picksO at h
    split at h
    · rename_i ps hps
      injection h with h
      subst h
      obtain ⟨h1, h2⟩ := picksO_get hps
      refine ⟨by simp [h1], fun j hj hj' g o e => ?_⟩
      cases j with
      | zero => cases e
      | succ j => simpa using h2 j (by simpa using hj) (by simpa using hj') g o (by simpa using e)
    · cases h
  | some i :: is, L', h => by
    unfold picksO at h
    split at h
    · rename_i p ps hp hps
      injection h with h
      subst h
      obtain ⟨h1, h2⟩ := picksO_get hps
      refine ⟨by simp [h1], fun j hj hj' g o e => ?_⟩
      cases j with
      | zero => exact ⟨i, rfl, hp⟩
      | succ j => simpa using h2 j (by simpa using hj) (by simpa using hj') g o (by simpa using e)
    · cases h

theorem St.pickO {X : Nat → Prop} {w0 w : World} {H : PHeap} {L L' : List Piece} {is : List (Option Nat)} (hS : St X w0 w H L) (h : picksO L is = some L') (hn : (is.filterMap id).Nodup) : St X w0 w H L' := by
  obtain ⟨hl, hg⟩ := picksO_get h
  have hne : ∀ j k (hj : j < is.length) (hk : k < is.length), j < k → ∀ i, is[j] = some i → is[k] = some i → False := by
    intro j k hj hk hjk i e1 e2
    clear hg hl h
    induction is generalizing j k with
    | nil => simp at hj
    | cons x is ih =>
      cases k with
      | zero => omega
      | succ k =>
        cases j with
        | zero =>
          simp at e1 e2
          subst e1
          simp only [List.filterMap_cons, id, List.nodup_cons] at hn
          exact hn.1 (List.mem_filterMap.2 ⟨some i, by rw [← e2]; exact List.getElem_mem _, rfl⟩)
        | succ j =>
          have hn' : (is.filterMap id).Nodup := by
            cases x with
            | none => simpa using hn
            | some y => simp only [List.filterMap_cons, id, List.nodup_cons] at hn; exact hn.2
          exact ih hn' j k (by simpa using hj) (by simpa using hk) (by omega) (by simpa using e1) (by simpa using e2)
  refine ⟨hS.ev, hS.old, hS.imm, fun p hp g o e => ?_, ?_⟩
  · obtain ⟨j, hj, hpj⟩ := List.getElem_of_mem hp
    subst hpj
    obtain ⟨i, _, h2⟩ := hg j (by omega) hj g o e
    exact hS.own _ (List.mem_of_getElem? h2) g o e
  · rw [List.pairwise_iff_getElem]
    intro j k hj hk hjk g u u' e e'
    obtain ⟨i1, a1, a2⟩ := hg j (by omega) hj _ _ e
    obtain ⟨i2, b1, b2⟩ := hg k (by omega) hk _ _ e'
    have hne' : i1 ≠ i2 := by
      rintro rfl
      exact hne j k (by omega) (by omega) hjk _ a1 b1
    obtain ⟨c1, c2⟩ := List.getElem?_eq_some_iff.1 a2
    obtain ⟨d1, d2⟩ := List.getElem?_eq_some_iff.1 b2
    rcases Nat.lt_or_gt_of_ne hne' with q | q
    · exact (List.pairwise_iff_getElem.1 hS.apart _ _ c1 d1 q) _ _ _ (by rw [c2]; exact e) (by rw [d2]; exact e')
    · exact (List.pairwise_iff_getElem.1 hS.apart _ _ d1 c1 q) _ _ _ (by rw [d2]; exact e') (by rw [c2]; exact e)

theorem St.freezeE {w0 w : World} {H : PHeap} {L : List Piece} {i : Nat} {p : Piece} (hS : St noX w0 w H L) (h : L[i]? = some p) :
    ∃ H', St noX w0 w H' (L.set i emp) ∧ PHeap.le H H' ∧ Ext w0 H H' ∧ ∀ {α : Type} (e : ET α) (T : TypeId) (A : Option Addr) (c : Nat) (xs : List α), OwnS e T H A c xs p → RdS e H' A c xs := by
  obtain ⟨h1, h2⟩ := hS.freeze h
  exact ⟨H.with p, h1, h2, hS.ext h, fun e T A c xs ho => ho.rd h2⟩

theorem OwnS.flat {α : Type} {e : ET α} {T : TypeId} {H H' : PHeap} {A : Option Addr} {c : Nat} {xs : List α} {p : Piece} (h : OwnS e T H A c xs p)
    (hf : ∀ h h' cs x, e.rd h cs x → e.rd h' cs x) : OwnS e T H' A c xs p := by
  refine h.imp id ?_
  rintro ⟨g, arr, q1, q2, q3, q4, q5, q6⟩
  exact ⟨g, arr, q1, q2, q3, q4, q5, fun i x hx => by obtain ⟨cs, r1, r2⟩ := q6 i x hx; exact ⟨cs, hf _ _ _ _ r1, r2⟩⟩
theorem RdS.flat {α : Type} {e : ET α} {H : PHeap} {A : Option Addr} {c : Nat} {xs : List α} (h : RdS e H A c xs) : RdS e H A c xs := h

section
variable {P : Program} {tab : List (Nat × TE)} {ops : Array Oper} {Q : Exit → Act → World → Prop} {a : Act} {w w0 : World} {rest : List Oper} {c : Cfg} {l : List (Nat × Value)}
variable {X : Nat → Prop} {H : PHeap} {L : List Piece} {ty : TypeId} {pos : String} {after : Array Edge} {gu : Option (Nat × Bool)}
variable {C : World → Prop} {KQ : Act → Prop}

theorem wp_cut1 {x : Code} (M : Act → World → Prop) (h : x.wp P (Exit.then M Q) a w) (hy : ∀ a w, M a w → Q .normal a w) : x.wp P Q a w :=
  wp_mono h fun e a w q => by cases e <;> first | exact hy _ _ q | exact q
theorem wp_cut2 {x y z : Code} (M : Act → World → Prop) (h : x.wp P (Exit.then (fun a w => y.wp P (Exit.then M Q) a w) Q) a w) (hz : ∀ a w, M a w → z.wp P Q a w) : (Code.seq x (Code.seq y z)).wp P Q a w :=
  wp_seq (wp_mono h fun e a w q => by
    cases e with
    | normal => exact wp_cut M q hz
    | _ => exact q)

theorem o_inl {f d : Nat} {x : Operand} {fn : Func} {xs ts : Array _} {vs fi ca : List Value} (hA : Fr c a l) (hf : FI P f fn)
    (hc : callee l x = some (f, fi, ca)) (hx : evs l xs.toList = some vs) (hw : gd ops l ⟨some d, .call ⟨.value x, xs, ts⟩, ty, pos, after, gu⟩ = some true) (hd : Nat.blt d c.1 = true)
    (hC : Calls P f (fi ++ vs ++ ca).toArray w (Ret fun v w => ∀ a, Fr c a ((d, v) :: l) → wpList P ops Q rest a w)) :
    wpList P ops Q (⟨some d, .call ⟨.value x, xs, ts⟩, ty, pos, after, gu⟩ :: rest) a w := o_call1 hA hf hc hx hw hd hC fun a _ _ hR hA => hR a hA

theorem o_inl0 {f : Nat} {x : Operand} {fn : Func} {xs ts : Array _} {vs fi ca : List Value} (hA : Fr c a l) (hf : FI P f fn)
    (hc : callee l x = some (f, fi, ca)) (hx : evs l xs.toList = some vs) (hw : gd ops l ⟨none, .call ⟨.value x, xs, ts⟩, ty, pos, after, gu⟩ = some true)
    (hC : Calls P f (fi ++ vs ++ ca).toArray w (Ret fun _ w => wpList P ops Q rest a w)) :
    wpList P ops Q (⟨none, .call ⟨.value x, xs, ts⟩, ty, pos, after, gu⟩ :: rest) a w := o_call hA hf hc hx hw hC fun _ _ hR => hR

/-! ### division, shifts by a count that varies -/
theorem run_quo {k : IntKind} {x y : Int} (xt : TypeId) (hy : y ≠ 0) (w : World) : (binOp .quo xt (.int k x) (.int k y)).run P w = .ok (.int k (k.wrap (x.tdiv y))) w := by
  simp [binOp, Op.intDiv, hy]
theorem run_rem {k : IntKind} {x y : Int} (xt : TypeId) (hy : y ≠ 0) (w : World) : (binOp .rem xt (.int k x) (.int k y)).run P w = .ok (.int k (x.tmod y)) w := by
  simp [binOp, Op.intDiv, hy]
theorem run_shl {k k' : IntKind} {x y : Int} (xt : TypeId) (hy : 0 ≤ y) (w : World) : (binOp .shl xt (.int k x) (.int k' y)).run P w = .ok (.int k (shlI k x y)) w := by
  have : ¬ y < 0 := by omega
  simp [binOp, Op.shift, this, shlI]
theorem run_shr {k k' : IntKind} {x y : Int} (xt : TypeId) (hy : 0 ≤ y) (w : World) : (binOp .shr xt (.int k x) (.int k' y)).run P w = .ok (.int k (shrI k x y)) w := by
  have : ¬ y < 0 := by omega
  simp [binOp, Op.shift, this, shrI, fdiv_pow]

theorem o_quo {d : Nat} {xt yt : TypeId} {x y : Operand} {k : IntKind} {i j : Int} (hA : Fr c a l) (hx : ev l x = some (.int k i)) (hy : ev l y = some (.int k j)) (h0 : j ≠ 0) (hd : Nat.blt d c.1 = true)
    (hw : gd ops l ⟨some d, .binOp .quo xt x y yt, ty, pos, after, gu⟩ = some true) (K : ∀ a, Fr c a ((d, .int k (k.wrap (i.tdiv j))) :: l) → wpList P ops Q rest a w) :
    wpList P ops Q (⟨some d, .binOp .quo xt x y yt, ty, pos, after, gu⟩ :: rest) a w := by
  refine stepv (w' := w) (gd_spec hA hw) ?_ (K _ (hA.put hd _))
  simp [execOp, hA.eval hx, hA.eval hy, run_eqg_int, run_quo xt h0]
theorem o_rem {d : Nat} {xt yt : TypeId} {x y : Operand} {k : IntKind} {i j : Int} (hA : Fr c a l) (hx : ev l x = some (.int k i)) (hy : ev l y = some (.int k j)) (h0 : j ≠ 0) (hd : Nat.blt d c.1 = true)
    (hw : gd ops l ⟨some d, .binOp .rem xt x y yt, ty, pos, after, gu⟩ = some true) (K : ∀ a, Fr c a ((d, .int k (i.tmod j)) :: l) → wpList P ops Q rest a w) :
    wpList P ops Q (⟨some d, .binOp .rem xt x y yt, ty, pos, after, gu⟩ :: rest) a w := by
  refine stepv (w' := w) (gd_spec hA hw) ?_ (K _ (hA.put hd _))
  simp [execOp, hA.eval hx, hA.eval hy, run_eqg_int, run_rem xt h0]
theorem o_shl {d : Nat} {xt yt : TypeId} {x y : Operand} {k k' : IntKind} {i j : Int} (hA : Fr c a l) (hx : ev l x = some (.int k i)) (hy : ev l y = some (.int k' j)) (h0 : 0 ≤ j) (hd : Nat.blt d c.1 = true)
    (hw : gd ops l ⟨some d, .binOp .shl xt x y yt, ty, pos, after, gu⟩ = some true) (K : ∀ a, Fr c a ((d, .int k (shlI k i j)) :: l) → wpList P ops Q rest a w) :
    wpList P ops Q (⟨some d, .binOp .shl xt x y yt, ty, pos, after, gu⟩ :: rest) a w := by
  refine stepv (w' := w) (gd_spec hA hw) ?_ (K _ (hA.put hd _))
  simp [execOp, hA.eval hx, hA.eval hy, run_eqg_int, run_shl xt h0]
theorem o_shr {d : Nat} {xt yt : TypeId} {x y : Operand} {k k' : IntKind} {i j : Int} (hA : Fr c a l) (hx : ev l x = some (.int k i)) (hy : ev l y = some (.int k' j)) (h0 : 0 ≤ j) (hd : Nat.blt d c.1 = true)
    (hw : gd ops l ⟨some d, .binOp .shr xt x y yt, ty, pos, after, gu⟩ = some true) (K : ∀ a, Fr c a ((d, .int k (shrI k i j)) :: l) → wpList P ops Q rest a w) :
    wpList P ops Q (⟨some d, .binOp .shr xt x y yt, ty, pos, after, gu⟩ :: rest) a w := by
  refine stepv (w' := w) (gd_spec hA hw) ?_ (K _ (hA.put hd _))
  simp [execOp, hA.eval hx, hA.eval hy, run_eqg_int, run_shr xt h0]
end
end Go.RL
