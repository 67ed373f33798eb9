/- A program logic over the model's machine, part 9: quiet steps, pieces of memory, loops, calls.
   Part of the proof of Rows.RegsFlowsSaid of the program 'recoup'. -/
import Derived.Test.YtoaimimdfddidaaLb8
import Derived.Deep.Quiet
set_option linter.unusedVariables false
set_option linter.unusedSimpArgs false
set_option linter.unusedSectionVars false
namespace Go.RL

/-! ### slicing what is read -/
def optI (l : List (Nat × Value)) (o : Option Operand) (d : Int) : Option Int :=
  match o with
  | none => some d
  | some x => match ev l x with | some (.int _ i) => some i | _ => none

section
variable {P : Program} {tab : List (Nat × TE)} {ops : Array Oper} {Q : Exit → Act → World → Prop} {a : Act} {w w0 : World} {rest : List Oper} {c : Cfg} {l : List (Nat × Value)}
variable {X : Nat → Prop} {H : PHeap} {L : List Piece} {ty : TypeId} {pos : String} {after : Array Edge} {gu : Option (Nat × Bool)}
variable {α : Type} {e : ET α} {xs ys : List α} {A : Option Addr} {cp : Nat} {p : Piece} {Tb : TypeId}

theorem optI_eval (hA : Fr c a l) {o : Option Operand} {d i : Int} (h : optI l o d = some i) :
    (o = none ∧ i = d) ∨ ∃ k, o.map a.eval = some (.int k i) := by
  unfold optI at h
  split at h
  · injection h with h; exact .inl ⟨rfl, h.symm⟩
  · rename_i x
    split at h
    · rename_i k i' hx
      injection h with h
      subst h
      exact .inr ⟨k, by simp [hA.eval hx]⟩
    · cases h

theorem run_slG {T el : Nat} {x : Operand} {lo hi mx : Option Operand} {te se : TE} {i j : Int} (hT : TabOK P tab) (hA : Fr c a l) (r1 : xs.length ≤ cp) (hs : sl xs i j = some ys)
    (hx : ev l x = some (.slice A xs.length cp)) (hlo : optI l lo 0 = some i) (hhi : optI l hi xs.length = some j) (hmx : optI l mx j = some j) (hmh : hi = none → mx = none)
    (ht : tk T tab = some te) (hk : te.tk = .slice el) (hse : tk el tab = some se) :
    ∃ A' cp', (ys = [] ∨ A' = A.map (·.add (i.toNat * se.size))) ∧ ∀ w, (Instr.sliceAt T (a.eval x) (lo.map a.eval) (hi.map a.eval) (mx.map a.eval)).run P w = .ok (.slice A' ys.length cp') w := by
  obtain ⟨h0, h1, h2, rfl, hlen⟩ := sl_some hs
  have hu := (hT T te ht).slice hk
  have hsize : ∀ w1 : World, (sizeOf el).run P w1 = .ok se.size w1 := fun w1 => run_size (hT el se hse) w1
  obtain ⟨m, hm⟩ : ∃ m : Nat, j.toNat ≤ m ∧ m ≤ cp ∧ ∀ w, (Instr.sliceBounds true xs.length cp (lo.map a.eval) (hi.map a.eval) (mx.map a.eval)).run P w = .ok (i.toNat, j.toNat, m) w := by
    have hj0 : 0 ≤ j := by omega
    rcases optI_eval hA hmx with ⟨rfl, _⟩ | ⟨km, hm⟩
    · refine ⟨cp, by omega, Nat.le_refl _, fun w => ?_⟩
      rcases optI_eval hA hhi with ⟨rfl, hj⟩ | ⟨kh, hh⟩
      · subst hj
        rcases optI_eval hA hlo with ⟨rfl, hi'⟩ | ⟨kl, hl⟩
        · subst hi'; simp [Instr.sliceBounds]
        · simp [Instr.sliceBounds, hl, Instr.sliceBound, asIntOf, h0, h1]
      · rcases optI_eval hA hlo with ⟨rfl, hi'⟩ | ⟨kl, hl⟩
        · subst hi'
          have : j ≤ (cp : Int) := by omega
          simp [Instr.sliceBounds, hh, Instr.sliceBound, asIntOf, hj0, this]
        · have h3 : j ≤ (cp : Int) := by omega
          have h4 : i ≤ max j 0 := by omega
          simp [Instr.sliceBounds, hh, hl, Instr.sliceBound, asIntOf, hj0, h3, h0, h4]
    · have hhi' : hi ≠ none := fun e' => by rw [hmh e'] at hm; simp at hm
      refine ⟨j.toNat, Nat.le_refl _, by omega, fun w => ?_⟩
      rcases optI_eval hA hhi with ⟨e', _⟩ | ⟨kh, hh⟩
      · exact absurd e' hhi'
      · have h3 : j ≤ (cp : Int) := by omega
        have h5 : j ≤ max j 0 := by omega
        rcases optI_eval hA hlo with ⟨rfl, hi'⟩ | ⟨kl, hl⟩
        · subst hi'
          simp [Instr.sliceBounds, hh, hm, Instr.sliceBound, asIntOf, hj0, h3, h5]
        · have h4 : i ≤ max j 0 := by omega
          simp [Instr.sliceBounds, hh, hl, hm, Instr.sliceBound, asIntOf, hj0, h3, h5, h0, h4]
  obtain ⟨m1, m2, m3⟩ := hm
  refine ⟨if m = i.toNat then A else A.map (·.add (i.toNat * se.size)), m - i.toNat, ?_, fun w => ?_⟩
  · by_cases hij : i.toNat = j.toNat
    · left
      apply List.eq_nil_of_length_eq_zero
      rw [hlen]; omega
    · right
      rw [if_neg (by omega)]
  · have e1 : (Instr.sliceAt T (a.eval x) (lo.map a.eval) (hi.map a.eval) (mx.map a.eval)) = Instr.sliceAt T (.slice A xs.length cp) (lo.map a.eval) (hi.map a.eval) (mx.map a.eval) := by rw [hA.eval hx]
    rw [e1, hlen]
    simp only [Instr.sliceAt, Sem.run_bind, run_und hu, Result.andThen_ok, Instr.slice, m3, hsize, Sem.run_pure]


theorem run_slR {T el : Nat} {x : Operand} {lo hi mx : Option Operand} {te se : TE} {i j : Int} (hT : TabOK P tab) (hA : Fr c a l) (hr : RdS e H A cp xs) (hs : sl xs i j = some ys)
    (hx : ev l x = some (.slice A xs.length cp)) (hlo : optI l lo 0 = some i) (hhi : optI l hi xs.length = some j) (hmx : optI l mx j = some j) (hmh : hi = none → mx = none)
    (ht : tk T tab = some te) (hk : te.tk = .slice el) (hse : tk el tab = some se) (hn : se.size = e.n) :
    ∃ A' cp', RdS e H A' cp' ys ∧ ∀ w, (Instr.sliceAt T (a.eval x) (lo.map a.eval) (hi.map a.eval) (mx.map a.eval)).run P w = .ok (.slice A' ys.length cp') w := by
  obtain ⟨h0, h1, h2, rfl, hlen⟩ := sl_some hs
  obtain ⟨r1, r2, r3⟩ := hr
  have hu := (hT T te ht).slice hk
  have hsize : ∀ w1 : World, (sizeOf el).run P w1 = .ok se.size w1 := fun w1 => run_size (hT el se hse) w1
  obtain ⟨m, hm⟩ : ∃ m : Nat, j.toNat ≤ m ∧ m ≤ cp ∧ ∀ w, (Instr.sliceBounds true xs.length cp (lo.map a.eval) (hi.map a.eval) (mx.map a.eval)).run P w = .ok (i.toNat, j.toNat, m) w := by
    have hj0 : 0 ≤ j := by omega
    rcases optI_eval hA hmx with ⟨rfl, _⟩ | ⟨km, hm⟩
    · refine ⟨cp, by omega, Nat.le_refl _, fun w => ?_⟩
      rcases optI_eval hA hhi with ⟨rfl, hj⟩ | ⟨kh, hh⟩
      · subst hj
        rcases optI_eval hA hlo with ⟨rfl, hi'⟩ | ⟨kl, hl⟩
        · subst hi'; simp [Instr.sliceBounds]
        · simp [Instr.sliceBounds, hl, Instr.sliceBound, asIntOf, h0, h1]
      · rcases optI_eval hA hlo with ⟨rfl, hi'⟩ | ⟨kl, hl⟩
        · subst hi'
          have : j ≤ (cp : Int) := by omega
          simp [Instr.sliceBounds, hh, Instr.sliceBound, asIntOf, hj0, this]
        · have h3 : j ≤ (cp : Int) := by omega
          have h4 : i ≤ max j 0 := by omega
          simp [Instr.sliceBounds, hh, hl, Instr.sliceBound, asIntOf, hj0, h3, h0, h4]
    · have hhi' : hi ≠ none := fun e' => by rw [hmh e'] at hm; simp at hm
      refine ⟨j.toNat, Nat.le_refl _, by omega, fun w => ?_⟩
      rcases optI_eval hA hhi with ⟨e', _⟩ | ⟨kh, hh⟩
      · exact absurd e' hhi'
      · have h3 : j ≤ (cp : Int) := by omega
        have h5 : j ≤ max j 0 := by omega
        rcases optI_eval hA hlo with ⟨rfl, hi'⟩ | ⟨kl, hl⟩
        · subst hi'
          simp [Instr.sliceBounds, hh, hm, Instr.sliceBound, asIntOf, hj0, h3, h5]
        · have h4 : i ≤ max j 0 := by omega
          simp [Instr.sliceBounds, hh, hl, hm, Instr.sliceBound, asIntOf, hj0, h3, h5, h0, h4]
  obtain ⟨m1, m2, m3⟩ := hm
  refine ⟨if m = i.toNat then A else A.map (·.add (i.toNat * se.size)), m - i.toNat, ⟨by rw [hlen]; omega, ?_, ?_⟩, fun w => ?_⟩
  · rw [hlen]
    exact Nat.le_trans (Nat.mul_le_mul_right _ (by omega)) r2
  · rcases r3 with rfl | ⟨g, off, arr, T', fz, rfl, q2, q3⟩
    · left; simp
    · by_cases hij : i.toNat = j.toNat
      · left
        apply List.eq_nil_of_length_eq_zero
        rw [hlen]; omega
      · right
        have hmi : m ≠ i.toNat := by omega
        refine ⟨g, off + i.toNat * se.size, arr, T', fz, by simp [hmi, add_eq], q2, fun t x ht' => ?_⟩
        have htl : t < j.toNat - i.toNat := by
          have := (List.getElem?_eq_some_iff.1 ht').1
          rw [hlen] at this; exact this
        rw [List.getElem?_take, if_pos htl, List.getElem?_drop] at ht'
        obtain ⟨cs, c1, c2⟩ := q3 _ _ ht'
        refine ⟨cs, c1, fun u v hv => ?_⟩
        have := c2 u v hv
        rw [Nat.add_mul] at this
        rw [hn, show off + i.toNat * e.n + t * e.n + u = off + (i.toNat * e.n + t * e.n) + u from by omega]
        exact this
  · have e1 : (Instr.sliceAt T (a.eval x) (lo.map a.eval) (hi.map a.eval) (mx.map a.eval)) = Instr.sliceAt T (.slice A xs.length cp) (lo.map a.eval) (hi.map a.eval) (mx.map a.eval) := by rw [hA.eval hx]
    rw [e1, hlen]
    simp only [Instr.sliceAt, Sem.run_bind, run_und hu, Result.andThen_ok, Instr.slice, m3, hsize, Sem.run_pure]

theorem o_slR {d T el : Nat} {x : Operand} {lo hi mx : Option Operand} {te se : TE} {i j : Int} (hT : TabOK P tab) (hA : Fr c a l) (hr : RdS e H A cp xs) (hs : sl xs i j = some ys)
    (hx : ev l x = some (.slice A xs.length cp)) (hlo : optI l lo 0 = some i) (hhi : optI l hi xs.length = some j) (hmx : optI l mx j = some j) (hmh : hi = none → mx = none)
    (ht : tk T tab = some te) (hk : te.tk = .slice el) (hse : tk el tab = some se) (hn : se.size = e.n) (hd : Nat.blt d c.1 = true)
    (hw : gd ops l ⟨some d, .slice T x lo hi mx, ty, pos, after, gu⟩ = some true)
    (K : ∀ a A cp, Fr c a ((d, .slice A ys.length cp) :: l) → RdS e H A cp ys → wpList P ops Q rest a w) :
    wpList P ops Q (⟨some d, .slice T x lo hi mx, ty, pos, after, gu⟩ :: rest) a w := by
  obtain ⟨A', cp', q1, q2⟩ := run_slR hT hA hr hs hx hlo hhi hmx hmh ht hk hse hn
  refine stepv (w' := w) (gd_spec hA hw) ?_ (K _ _ _ (hA.put hd _) q1)
  simp [execOp, q2]
end
end Go.RL
