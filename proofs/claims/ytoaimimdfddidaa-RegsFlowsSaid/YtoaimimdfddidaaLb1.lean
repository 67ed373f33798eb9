/- A program logic over the model's machine, part 1: quiet steps, pieces of memory, loops, calls.
   Part of the proof of Rows.RegsFlowsSaid of the program 'recoup'. -/
import Derived.Tactics
import Derived.KernelRfl
import Derived.Below
import Derived.Deep.LoopGhost
set_option linter.unusedVariables false
set_option linter.unusedSimpArgs false
set_option linter.unusedSectionVars false
namespace Go.RL

/-! ### frames: the slots that are known -/
def lk : Nat → List (Nat × Value) → Option Value
  | _, [] => none
  | t, (s, v) :: l => bif Nat.beq t s then some v else lk t l

abbrev Cfg := Nat × List Deferred

structure Fr (c : Cfg) (a : Act) (l : List (Nat × Value)) : Prop where
  defers : a.defers = c.2
  size : a.tmps.size = c.1
  get : ∀ t v, lk t l = some v → a.tmps[t]? = some v

def ev (l : List (Nat × Value)) : Operand → Option Value
  | .tmp t => lk t l
  | .const v => some v
  | .global g => some (.pointer (some ⟨g, 0, none⟩))
  | .func f => some (.func (.func f) #[] #[])

section
variable {c : Cfg} {a : Act} {l : List (Nat × Value)}
theorem Fr.eval (h : Fr c a l) {x : Operand} {v : Value} (hx : ev l x = some v) : a.eval x = v := by
  cases x with
  | tmp t =>
    have := h.get t v hx
    simp [Act.eval, Array.getD_eq_getD_getElem?, this]
  | const u => simpa [ev, Act.eval] using hx
  | global g => simpa [ev, Act.eval] using hx
  | func f => simpa [ev, Act.eval] using hx

theorem lk_cons_ne {t s : Nat} {v : Value} (h : t ≠ s) : lk t ((s, v) :: l) = lk t l := by
  have : Nat.beq t s = false := by
    cases hb : Nat.beq t s with
    | false => rfl
    | true => exact absurd (Nat.eq_of_beq_eq_true hb) h
  simp [lk, this]

theorem lk_cons_eq {t : Nat} {v : Value} : lk t ((t, v) :: l) = some v := by
  have : Nat.beq t t = true := Nat.beq_refl t
  simp [lk, this]

theorem Fr.put (h : Fr c a l) {d : Nat} (hd : Nat.blt d c.1 = true) (v : Value) : Fr c (a.put (some d) v) ((d, v) :: l) := by
  have hlt : d < a.tmps.size := by rw [h.size]; exact Nat.le_of_ble_eq_true hd
  refine ⟨h.defers, by simp [Act.put, h.size], fun t u ht => ?_⟩
  by_cases e : t = d
  · subst e
    rw [lk_cons_eq] at ht
    injection ht with ht
    subst ht
    simp [Act.put, hlt]
  · rw [lk_cons_ne e] at ht
    have := h.get t u ht
    simp only [Act.put]
    rw [Array.getElem?_setIfInBounds_ne (Ne.symm e)]
    exact this

/-- a known Bool is what has been found out -/
theorem Fr.re (h : Fr c a l) {d : Nat} {u v : Value} (hl : lk d l = some u) (e : u = v) : Fr c a ((d, v) :: l) := by
  refine ⟨h.defers, h.size, fun t x ht => ?_⟩
  by_cases q : t = d
  · subst q
    rw [lk_cons_eq] at ht
    injection ht with ht
    subst ht
    subst e
    exact h.get _ _ hl
  · rw [lk_cons_ne q] at ht
    exact h.get _ _ ht

/-- fewer slots -/
def sub (l : List (Nat × Value)) : List (Nat × Value) → Prop
  | [] => True
  | (t, v) :: r => lk t l = some v ∧ sub l r

theorem sub_get {l : List (Nat × Value)} : ∀ {r : List (Nat × Value)}, sub l r → ∀ t v, lk t r = some v → lk t l = some v
  | [], _, t, v, h => by simp [lk] at h
  | (s, u) :: r, ⟨h0, hr⟩, t, v, h => by
    by_cases e : t = s
    · subst e
      rw [lk_cons_eq] at h
      injection h with h
      subst h
      exact h0
    · rw [lk_cons_ne e] at h
      exact sub_get hr t v h

theorem Fr.sub (h : Fr c a l) {r : List (Nat × Value)} (hs : RL.sub l r) : Fr c a r :=
  ⟨h.defers, h.size, fun t v ht => h.get t v (sub_get hs t v ht)⟩
end

/-! ### entering a function -/
def argsL : Nat → List Value → List (Nat × Value)
  | _, [] => []
  | k, v :: vs => (k, v) :: argsL (k + 1) vs

theorem argsL_get : ∀ (vs : List Value) (k t : Nat) (v : Value), lk t (argsL k vs) = some v → k ≤ t ∧ vs[t - k]? = some v
  | [], k, t, v, h => by simp [argsL, lk] at h
  | u :: vs, k, t, v, h => by
    by_cases e : t = k
    · subst e
      simp only [argsL] at h
      rw [lk_cons_eq] at h
      exact ⟨Nat.le_refl _, by simpa using h⟩
    · simp only [argsL] at h
      rw [lk_cons_ne e] at h
      obtain ⟨h1, h2⟩ := argsL_get vs (k + 1) t v h
      refine ⟨by omega, ?_⟩
      have : t - k = (t - (k + 1)) + 1 := by omega
      rw [this]
      simpa using h2

theorem enter {P : Program} {f : FuncId} {fn : Func} {cd : Code} {N : Nat} {vs : List Value} {w : World} {R : Ending → World → Prop}
    (hf : P.funcs[f]? = some fn) (hb : fn.body = some cd) (hN : fn.ntmps = N) (hle : Nat.ble vs.length N = true)
    (h : ∀ a, Fr (N, []) a (argsL 0 vs) → cd.wp P (bodyPost P fn R) a w) : Calls P f vs.toArray w R := by
  have hle' : vs.length ≤ N := Nat.le_of_ble_eq_true hle
  refine calls_of_wp hf hb (h _ ⟨rfl, ?_, fun t v ht => ?_⟩)
  · simp [hN]; omega
  · obtain ⟨_, h2⟩ := argsL_get vs 0 t v ht
    have hlt : t < vs.length := by
      rcases Nat.lt_or_ge t vs.length with q | q
      · exact q
      · rw [Nat.sub_zero, List.getElem?_eq_none q] at h2; cases h2
    simp only [Nat.sub_zero] at h2
    rw [Array.getElem?_append_left (by simpa using hlt)]
    simpa using h2

/-! ### one operation -/
section
variable {P : Program} {ops : Array Oper} {Q : Exit → Act → World → Prop} {a : Act} {w w' : World} {rest : List Oper} {o : Oper} {c : Cfg} {l : List (Nat × Value)}

theorem stepv {v : Value} (hw : Region.wanted o (yielded ops a.tmps) = true) (hr : (execOp a.eval o).run P w = .ok (.value v) w')
    (K : wpList P ops Q rest (a.put o.dst v) w') : wpList P ops Q (o :: rest) a w := by
  unfold wpList
  rw [if_pos hw]
  refine .inl ?_
  unfold Oper.wp
  rw [hr]
  exact K

theorem steps (hw : Region.wanted o (yielded ops a.tmps) = true) (hr : (execOp a.eval o).run P w = .ok .skip w')
    (K : wpList P ops Q rest (a.put o.dst undef) w') : wpList P ops Q (o :: rest) a w := by
  unfold wpList
  rw [if_pos hw]
  refine .inl ?_
  unfold Oper.wp
  rw [hr]
  exact K

theorem stepno (hw : Region.wanted o (yielded ops a.tmps) = false) (K : wpList P ops Q rest (a.put o.dst undef) w) : wpList P ops Q (o :: rest) a w := by
  unfold wpList
  rw [if_neg (by rw [hw]; exact Bool.noConfusion)]
  exact K

/-- is an operation wanted, by what is known: none: not known -/
def gd (ops : Array Oper) (l : List (Nat × Value)) (o : Oper) : Option Bool :=
  match o.guard with
  | none => some true
  | some (j, b) =>
    match ops.toList[j]? with
    | some oj =>
      match oj.dst with
      | some d =>
        match lk d l with
        | some (.bool t) => some (t == b)
        | some (.tuple _) => some false
        | _ => none
      | none => none
    | none => none

theorem gd_spec (h : Fr c a l) {t : Bool} (hg : gd ops l o = some t) : Region.wanted o (yielded ops a.tmps) = t := by
  unfold gd at hg
  unfold Region.wanted
  split at hg
  · rename_i e
    injection hg with hg
    subst hg
    rw [e]
  · rename_i j b e
    rw [e]
    split at hg
    · rename_i oj hj
      split at hg
      · rename_i d hd
        split at hg
        · rename_i u hu
          injection hg with hg
          subst hg
          have hj' : ops[j]? = some oj := by simpa using hj
          have := h.get _ _ hu
          simp [yielded, hj', hd, this]
        · rename_i u hu
          injection hg with hg
          subst hg
          have hj' : ops[j]? = some oj := by simpa using hj
          have := h.get _ _ hu
          simp [yielded, hj', hd, this]
        · cases hg
      · cases hg
    · cases hg
end
end Go.RL
