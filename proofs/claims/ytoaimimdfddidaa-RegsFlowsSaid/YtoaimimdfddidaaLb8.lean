/- A program logic over the model's machine, part 8: quiet steps, pieces of memory, loops, calls.
   Part of the proof of Rows.RegsFlowsSaid of the program 'recoup'. -/
import Derived.Test.YtoaimimdfddidaaLb7
set_option linter.unusedVariables false
set_option linter.unusedSimpArgs false
set_option linter.unusedSectionVars false
namespace Go.RL

inductive Ctl (σ ρ : Type) where
  | next (s : σ) | stop (r : ρ)
inductive Out (α β : Type) where
  | fall (a : α) | ret (b : β)

def Ctl.go {σ ρ : Type} (c : Ctl σ ρ) (K : σ → Prop) (r : ρ) : Prop := match c with | .next s => K s | .stop q => q = r

def forN {σ ρ : Type} (f : Nat → σ → Option (Ctl σ ρ)) (fin : σ → ρ) : Nat → Nat → σ → Option ρ
  | 0, _, s => some (fin s)
  | k + 1, i, s => match f i s with
    | none => none
    | some (.next s') => forN f fin k (i + 1) s'
    | some (.stop r) => some r

def iterN {σ ρ : Type} (f : σ → Option (Ctl σ ρ)) : Nat → σ → Option ρ
  | 0, _ => none
  | k + 1, s => match f s with
    | none => none
    | some (.next s') => iterN f k s'
    | some (.stop r) => some r

theorem iterN_mono {σ ρ : Type} {f : σ → Option (Ctl σ ρ)} {r : ρ} : ∀ {k : Nat} {s : σ} (m : Nat), iterN f k s = some r → iterN f (k + m) s = some r
  | 0, s, m, h => by simp [iterN] at h
  | k + 1, s, m, h => by
    rw [Nat.add_right_comm]
    simp only [iterN] at h ⊢
    split at h
    · cases h
    · rename_i s' e; exact iterN_mono m h
    · exact h

open Classical in
noncomputable def iter {σ ρ : Type} (f : σ → Option (Ctl σ ρ)) (s : σ) : Option ρ :=
  if h : ∃ r, ∃ k, iterN f k s = some r then some h.choose else none

theorem iter_some {σ ρ : Type} {f : σ → Option (Ctl σ ρ)} {s : σ} {r : ρ} : iter f s = some r ↔ ∃ k, iterN f k s = some r := by
  constructor
  · intro h
    unfold iter at h
    split at h
    · rename_i q
      injection h with h
      rw [← h]
      exact q.choose_spec
    · cases h
  · rintro ⟨k, hk⟩
    have q : ∃ r, ∃ k, iterN f k s = some r := ⟨r, k, hk⟩
    unfold iter
    rw [dif_pos q]
    obtain ⟨m, hm⟩ := q.choose_spec
    have h1 := iterN_mono m hk
    have h2 := iterN_mono k hm
    rw [Nat.add_comm] at h2
    rw [h1] at h2
    exact h2.symm

theorem iter_eq {σ ρ : Type} (f : σ → Option (Ctl σ ρ)) (s : σ) : iter f s = match f s with
    | none => none
    | some (.next s') => iter f s'
    | some (.stop r) => some r := by
  apply Option.ext
  intro r
  rw [iter_some]
  constructor
  · rintro ⟨k, hk⟩
    cases k with
    | zero => simp [iterN] at hk
    | succ k =>
      simp only [iterN] at hk
      split at hk
      · cases hk
      · exact iter_some.2 ⟨k, hk⟩
      · exact hk
  · intro h
    split at h
    · cases h
    · rename_i s' e
      obtain ⟨k, hk⟩ := iter_some.1 h
      exact ⟨k + 1, by simp only [iterN, e]; exact hk⟩
    · rename_i q e
      exact ⟨1, by simp only [iterN, e]; exact h⟩

/-! ### control -/
section
variable {P : Program} {Q : Exit → Act → World → Prop} {a : Act} {w : World} {nx : Act → World → Prop} {id id' : Nat}

theorem tn (h : nx a w) : Exit.then nx Q .normal a w := h
theorem te (h : Q (.exit id) a w) : Exit.then nx Q (.exit id) a w := h
theorem tr (h : Q .ret a w) : Exit.then nx Q .ret a w := h
theorem bn (h : Q .normal a w) : Exit.inBlock id Q .normal a w := h
theorem be (h : Q .normal a w) : Exit.inBlock id Q (.exit id) a w := by simp [Exit.inBlock, h]
theorem bo (hne : Nat.beq id' id = false) (h : Q (.exit id') a w) : Exit.inBlock id Q (.exit id') a w := by
  have : id' ≠ id := fun e => by rw [e, Nat.beq_refl] at hne; cases hne
  simp [Exit.inBlock, this, h]
theorem br (h : Q .ret a w) : Exit.inBlock id Q .ret a w := h

theorem wp_cut {x y : Code} (M : Act → World → Prop) (h : x.wp P (Exit.then M Q) a w) (hy : ∀ a w, M a w → y.wp P Q a w) : (Code.seq x y).wp P Q a w :=
  wp_seq (wp_mono h fun e a w q => by cases e <;> first | exact hy _ _ q | exact q)

theorem cT {c : Cfg} {l : List (Nat × Value)} {x : Operand} {b : Bool} {s t : Code} (hA : Fr c a l) (hx : ev l x = some (.bool b)) (hb : b = true) (h : s.wp P Q a w) : (Code.cond x s t).wp P Q a w :=
  wp_cond_true (by rw [hA.eval hx, hb]) h
theorem cF {c : Cfg} {l : List (Nat × Value)} {x : Operand} {b : Bool} {s t : Code} (hA : Fr c a l) (hx : ev l x = some (.bool b)) (hb : b = false) (h : t.wp P Q a w) : (Code.cond x s t).wp P Q a w :=
  wp_cond_false (by rw [hA.eval hx, hb]) h

theorem wp_forN {σ ρ : Type} {body : Code} {f : Nat → σ → Option (Ctl σ ρ)} {fin : σ → ρ} {r : ρ} {n i0 : Nat} {s0 : σ} (I : Nat → σ → Act → World → Prop)
    (hF : forN f fin (n - i0) i0 s0 = some r) (hi : i0 ≤ n) (h0 : I i0 s0 a w)
    (round : ∀ (After : σ → Prop) i s a w, I i s a w → i0 ≤ i → i ≤ n → (i < n → ∃ c, f i s = some c ∧ c.go After r) → (n ≤ i → fin s = r) →
      body.wp P (Exit.then (fun a w => ∃ s, I (i + 1) s a w ∧ i < n ∧ After s) Q) a w) : (Code.loop body).wp P Q a w := by
  refine wp_loop_ghost (fun k a w => ∃ i s, I i s a w ∧ i0 ≤ i ∧ i ≤ n ∧ forN f fin (n - i) i s = some r ∧ k = n - i) (n - i0) ⟨i0, s0, h0, Nat.le_refl _, hi, hF, rfl⟩ ?_
  rintro k a w ⟨i, s, hI, hi0, hin, hf, rfl⟩
  refine wp_mono (round (fun s' => forN f fin (n - (i + 1)) (i + 1) s' = some r) i s a w hI hi0 hin (fun hlt => ?_) (fun hge => ?_)) fun e a w q => ?_
  · have : n - i = (n - (i + 1)) + 1 := by omega
    rw [this] at hf
    simp only [forN] at hf
    split at hf
    · cases hf
    · rename_i s' e; exact ⟨_, e, hf⟩
    · rename_i q e; injection hf with hf; exact ⟨_, e, hf⟩
  · have : n - i = 0 := by omega
    rw [this] at hf
    simp only [forN] at hf
    injection hf
  · cases e with
    | normal =>
      obtain ⟨s', hI', hlt, hA⟩ := q
      exact ⟨n - (i + 1), by omega, i + 1, s', hI', by omega, by omega, hA, rfl⟩
    | _ => exact q

theorem wp_iter {σ ρ : Type} {body : Code} {f : σ → Option (Ctl σ ρ)} {r : ρ} {s0 : σ} (I : σ → Act → World → Prop)
    (hF : iter f s0 = some r) (h0 : I s0 a w)
    (round : ∀ (After : σ → Prop) s a w, I s a w → (∃ c, f s = some c ∧ c.go After r) →
      body.wp P (Exit.then (fun a w => ∃ s, I s a w ∧ After s) Q) a w) : (Code.loop body).wp P Q a w := by
  obtain ⟨n, hn⟩ := iter_some.1 hF
  refine wp_loop_ghost (fun k a w => ∃ s, I s a w ∧ iterN f k s = some r) n ⟨s0, h0, hn⟩ ?_
  rintro k a w ⟨s, hI, hf⟩
  cases k with
  | zero => simp [iterN] at hf
  | succ k =>
    refine wp_mono (round (fun s' => iterN f k s' = some r) s a w hI ?_) fun e a w q => ?_
    · simp only [iterN] at hf
      split at hf
      · cases hf
      · rename_i s' e; exact ⟨_, e, hf⟩
      · rename_i q e; injection hf with hf; exact ⟨_, e, hf⟩
    · cases e with
      | normal =>
        obtain ⟨s', hI', hA⟩ := q
        exact ⟨k, Nat.lt_succ_self _, s', hI', hA⟩
      | _ => exact q
end

/-! ### following what a function comes to -/
theorem ite_some {α : Type} {c : Prop} [Decidable c] {x y : Option α} {r : α} (h : (if c then x else y) = some r) : (c ∧ x = some r) ∨ (¬ c ∧ y = some r) := by
  split at h
  · exact .inl ⟨‹_›, h⟩
  · exact .inr ⟨‹_›, h⟩
theorem bind_some {α β : Type} {x : Option α} {f : α → Option β} {r : β} (h : x.bind f = some r) : ∃ a, x = some a ∧ f a = some r := by
  cases x with
  | none => cases h
  | some a => exact ⟨a, rfl, h⟩
theorem ff_of {b : Bool} (h : ¬ b = true) : b = false := by cases b <;> simp_all
theorem nt_of {b : Bool} (h : b = false) : (!b) = true := by rw [h]; rfl
theorem nf_of {b : Bool} (h : b = true) : (!b) = false := by rw [h]; rfl

/-! ### calls and results -/
structure FI (P : Program) (f : Nat) (fn : Func) : Prop where
  hfn : P.funcs[f]? = some fn
  hbody : fn.body.isNone = false
  hname : (fn.name == "runtime.NumGoroutine") = false

def Ret (R : Value → World → Prop) : Ending → World → Prop
  | .returned v, w => R v w
  | _, _ => False

section
variable {P : Program} {ops : Array Oper} {Q : Exit → Act → World → Prop} {a : Act} {w : World} {rest : List Oper} {c : Cfg} {l : List (Nat × Value)}
variable {ty : TypeId} {pos : String} {after : Array Edge} {gu : Option (Nat × Bool)}

theorem run_callFunc {f : Nat} {fn : Func} (hf : FI P f fn) (vs : Array Value) (w : World) : (callFunc f vs).run P w = .ok (.enter f vs) w := by
  simp only [callFunc, Sem.run_bind, run_program, Result.andThen_ok, hf.hfn, hf.hbody, hf.hname, Bool.false_eq_true, if_false, Sem.run_pure]

def callee (l : List (Nat × Value)) (x : Operand) : Option (Nat × List Value × List Value) :=
  match ev l x with
  | some (.func (.func f) fi ca) => some (f, fi.toList, ca.toList)
  | _ => none

theorem o_call {f : Nat} {x : Operand} {fn : Func} {xs ts : Array _} {vs fi ca : List Value} {R : Value → World → Prop} {ds : Option Nat} (hA : Fr c a l) (hf : FI P f fn)
    (hc : callee l x = some (f, fi, ca)) (hx : evs l xs.toList = some vs) (hw : gd ops l ⟨ds, .call ⟨.value x, xs, ts⟩, ty, pos, after, gu⟩ = some true)
    (hC : Calls P f (fi ++ vs ++ ca).toArray w (Ret R))
    (K : ∀ w v, R v w → wpList P ops Q rest (a.put ds v) w) :
    wpList P ops Q (⟨ds, .call ⟨.value x, xs, ts⟩, ty, pos, after, gu⟩ :: rest) a w := by
  have hev : ev l x = some (.func (.func f) fi.toArray ca.toArray) := by
    unfold callee at hc
    split at hc
    · rename_i f' fi' ca' e
      injection hc with hc
      injection hc with h1 hc
      injection hc with h2 h3
      subst h1; subst h2; subst h3
      simpa using e
    · cases hc
  have hargs : xs.map a.eval = vs.toArray := by rw [← evs_spec hA hx, ← Array.toList_map]
  unfold wpList
  rw [if_pos (gd_spec hA hw)]
  refine .inl ?_
  unfold Oper.wp
  have : (execOp a.eval ⟨ds, .call ⟨.value x, xs, ts⟩, ty, pos, after, gu⟩).run P w = .ok (.enter f (fi ++ vs ++ ca).toArray) w := by
    simp only [execOp, resolve, hA.eval hev, Deferred.ofValue, pure_bind, hargs, invoke]
    have e : (fi.toArray ++ vs.toArray ++ ca.toArray) = (fi ++ vs ++ ca).toArray := by simp
    rw [e]
    exact run_callFunc hf _ w
  rw [this]
  show Calls P f (fi ++ vs ++ ca).toArray w _
  refine hC.mono fun e w' he => ?_
  cases e with
  | returned v => exact K w' v he
  | panicked _ => exact he.elim
  | outgrown => exact he.elim

def pack : List Value → Value
  | [v] => v
  | vs => .tuple vs.toArray

inductive RV (P : Program) (w : World) (l : List (Nat × Value)) : List ResultVar → List Value → Prop where
  | nil : RV P w l [] []
  | tmp {t : Nat} {v : Value} {rs : List ResultVar} {vs : List Value} (h : lk t l = some v) (r : RV P w l rs vs) : RV P w l (.tmp t :: rs) (v :: vs)
  | cell {t T : Nat} {ad : Addr} {v : Value} {rs : List ResultVar} {vs : List Value} (h : lk t l = some (.pointer (some ad))) (hl : (loadVar T ad).run P w = .ok v w) (r : RV P w l rs vs) : RV P w l (.cell t T :: rs) (v :: vs)

def rvf (tmps : Array Value) : ResultVar → Sem Value
  | .tmp t => pure (tmps.getD t undef)
  | .cell a t => do loadVar t (← asAddr (tmps.getD a undef))

theorem results_eq (fn : Func) (tmps : Array Value) : results fn tmps = (do let vs ← fn.results.mapM (rvf tmps); pure (if h : vs.size = 1 then vs[0] else .tuple vs)) := by
  have : rvf tmps = (fun x => (match x with
    | .tmp t => (Pure.pure (tmps.getD t undef) : Sem Value)
    | .cell a t => do loadVar t (← asAddr (tmps.getD a undef)))) := by
    funext x
    cases x <;> rfl
  rw [this]
  rfl

theorem run_RV (hA : Fr c a l) : ∀ {rs : List ResultVar} {vs : List Value}, RV P w l rs vs → (rs.mapM (rvf a.tmps)).run P w = .ok vs w := by
  intro rs vs h
  induction h with
  | nil => rfl
  | tmp h r ih =>
    have hg := hA.get _ _ h
    rw [List.mapM_cons]
    simp only [Sem.run_bind, ih, rvf, Array.getD_eq_getD_getElem?, hg, Option.getD_some, Sem.run_pure, Result.andThen_ok]
  | cell h hl r ih =>
    have hg := hA.get _ _ h
    rw [List.mapM_cons]
    simp only [Sem.run_bind, ih, rvf, Array.getD_eq_getD_getElem?, hg, Option.getD_some, Sem.run_pure, Result.andThen_ok, asAddr, hl]

theorem run_results {fn : Func} (hA : Fr c a l) {rs : List ResultVar} {vs : List Value} (hr : fn.results = rs.toArray) (h : RV P w l rs vs) : (results fn a.tmps).run P w = .ok (pack vs) w := by
  have h1 := run_RV (P := P) hA h
  rw [results_eq, hr]
  have e : rs.toArray.mapM (rvf a.tmps) = List.toArray <$> rs.mapM (rvf a.tmps) := List.mapM_toArray ..
  rw [Sem.run_bind, e, Sem.run_map, h1]
  simp only [Result.andThen_ok, Sem.run_pure]
  match vs with
  | [] => rfl
  | [v] => rfl
  | u :: v :: vs => simp [pack]

theorem b_ret {fn : Func} {R : Value → World → Prop} {l : List (Nat × Value)} {N : Nat} (hA : Fr (N, []) a l) {rs : List ResultVar} {vs : List Value} (hr : fn.results = rs.toArray) (h : RV P w l rs vs) (hR : R (pack vs) w) :
    bodyPost P fn (Ret R) .ret a w := ⟨hA.defers, _, run_results hA hr h, hR⟩
theorem b_end {fn : Func} {R : Value → World → Prop} {l : List (Nat × Value)} {N : Nat} (hA : Fr (N, []) a l) {rs : List ResultVar} {vs : List Value} (hr : fn.results = rs.toArray) (h : RV P w l rs vs) (hR : R (pack vs) w) :
    bodyPost P fn (Ret R) .normal a w := ⟨hA.defers, _, run_results hA hr h, hR⟩

theorem Bx.load {X : Nat → Prop} {w0 : World} {H : PHeap} {L : List Piece} {tab : List (Nat × TE)} {T g off i : Nat} {p : Piece} {T' : TypeId} {cs : List Value} {e : TE} {v : Value} (hT : TabOK P tab) (hS : St X w0 w H L)
    (hb : Bx p g T' cs) (hp : L[i]? = some p) (ht : tk T tab = some e) (h1 : e.one = true) (hv : ldv e cs off = some v) : (loadVar T ⟨g, off, none⟩).run P w = .ok v w := by
  obtain ⟨q1, q2⟩ := ldv_spec hv (fun ha => TE.one_spec h1 ha)
  unfold Bx at hb
  subst hb
  have hg := hS.get hp sing_get
  exact run_loadVar (hT T e ht) q1 (fun j u hu => by
    rw [cell_of hg]
    have hj : j < e.size := by rw [← q1]; exact (List.getElem?_eq_some_iff.1 hu).1
    simpa [List.getElem?_take, hj] using hu) q2
end
end Go.RL
