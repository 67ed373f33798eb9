/- A program logic over the model's machine, part 13: quiet steps, pieces of memory, loops, calls.
   Part of the proof of Rows.RegsFlowsSaid of the program 'recoup'. -/
import Derived.Test.YtoaimimdfddidaaLb12
import Derived.Laws.StructEq
set_option linter.unusedVariables false
set_option linter.unusedSimpArgs false
set_option linter.unusedSectionVars false
namespace Go.RL

/-! ### structs compared -/
structure SE (P : Program) (t : TypeId) (fs : List (Nat × Nat)) : Prop where
  hs : P.underlying t = some (.struct (P.fieldsOf t))
  hp : P.stoodInHeld t = false
  hm : P.eqGuardType P.depth t = false
  hf : (P.fieldsOf t).toList.map (fun f => (f.type, f.offset)) = fs
  hn : (P.fieldsOf t).toList.all (fun f => f.name != "_") = true

def eqC (tab : List (Nat × TE)) (cx cy : List Value) : List (Nat × Nat) → Option Bool
  | [] => some true
  | (t, off) :: r =>
    match tk t tab, cx[off]?, cy[off]?, eqC tab cx cy r with
    | some ⟨.int _, _, _, _⟩, some (.int k a), some (.int k' b), some q => bif ikEq k k' then some (decide (a = b) && q) else none
    | some ⟨.bool, _, _, _⟩, some (.bool a), some (.bool b), some q => some ((a == b) && q)
    | _, _, _, _ => none

section
variable {P : Program} {tab : List (Nat × TE)} {ops : Array Oper} {Q : Exit → Act → World → Prop} {a : Act} {w w0 : World} {rest : List Oper} {c : Cfg} {l : List (Nat × Value)}
variable {X : Nat → Prop} {H : PHeap} {L : List Piece} {ty : TypeId} {pos : String} {after : Array Edge} {gu : Option (Nat × Bool)}
variable {α : Type} {e : ET α} {xs ys zs : List α} {A A' : Option Addr} {cp : Nat} {p : Piece} {Tb : TypeId}
variable {C : World → Prop} {KQ : Act → Prop}

theorem run_eqC (hT : TabOK P tab) {cx cy : List Value} (d : Nat) : ∀ {fl : List Field} {q : Bool}, eqC tab cx cy (fl.map fun f => (f.type, f.offset)) = some q → fl.all (fun f => f.name != "_") = true →
    (Op.eqFields (d + 1) cx.toArray cy.toArray fl).run P w = .ok q w
  | [], q, h, _ => by
    simp only [List.map_nil, eqC] at h
    injection h with h
    subst h
    simp [Op.eqFields]
  | f :: fl, q, h, hn => by
    simp only [List.all_cons, Bool.and_eq_true] at hn
    obtain ⟨hn1, hn2⟩ := hn
    have hn1' : f.name ≠ "_" := by simpa using hn1
    simp only [List.map_cons, eqC] at h
    split at h
    · rename_i kt z s b k x k' y r h1 h2 h3 h4
      cases hk : ikEq k k' with
      | false => rw [hk] at h; cases h
      | true =>
        rw [hk] at h
        obtain rfl := ikEq_spec hk
        injection h with h
        subst h
        have hu := (hT _ _ h1).int rfl
        have ih := run_eqC hT d h4 hn2
        simp only [Op.eqFields, if_pos hn1', part, Sem.run_bind, run_isAgg (hT _ _ h1), TK.isAgg, Result.andThen_ok, Bool.false_eq_true, if_false, List.getElem?_toArray, h2, h3, Sem.run_pure,
          run_equalIn_int w d f.type k kt x y hu]
        by_cases hxy : x = y
        · subst hxy
          simp only [beq_self_eq_true, Bool.not_true, Bool.false_eq_true, if_false, ih, decide_true, Bool.true_and]
        · have : (x == y) = false := by simpa using hxy
          simp only [this, Bool.not_false, if_true, Sem.run_pure, decide_eq_false hxy, Bool.false_and]
    · rename_i z s b x y r h1 h2 h3 h4
      injection h with h
      subst h
      have hu := (hT _ _ h1).bool rfl
      have ih := run_eqC hT d h4 hn2
      simp only [Op.eqFields, if_pos hn1', part, Sem.run_bind, run_isAgg (hT _ _ h1), TK.isAgg, Result.andThen_ok, Bool.false_eq_true, if_false, List.getElem?_toArray, h2, h3, Sem.run_pure,
        run_eqB' hu x y]
      cases hxy : (x == y) with
      | true => simp only [Bool.not_true, Bool.false_eq_true, if_false, ih, Bool.true_and]
      | false => simp only [Bool.not_false, if_true, Sem.run_pure, Bool.false_and]
    · cases h

theorem run_eqS (hT : TabOK P tab) {t : TypeId} {fs : List (Nat × Nat)} (hse : SE P t fs) {cx cy : List Value} {q : Bool} (h : eqC tab cx cy fs = some q) (x y : Operand) :
    (eqGuard .eql t x y (.agg cx.toArray) (.agg cy.toArray)).run P w = .ok () w ∧ (eqGuard .neq t x y (.agg cx.toArray) (.agg cy.toArray)).run P w = .ok () w ∧
    (binOp .eql t (.agg cx.toArray) (.agg cy.toArray)).run P w = .ok (.bool q) w ∧ (binOp .neq t (.agg cx.toArray) (.agg cy.toArray)).run P w = .ok (.bool (!q)) w := by
  have key : (Op.equalIn 10000 t (.agg cx.toArray) (.agg cy.toArray)).run P w = .ok q w := by
    rw [run_equalIn_struct w 9999 t _ _ hse.hs hse.hp]
    exact run_eqC hT 9998 (by rw [hse.hf]; exact h) hse.hn
  refine ⟨run_eqGuard_agg w .eql t x y _ _ hse.hm, run_eqGuard_agg w .neq t x y _ _ hse.hm, ?_, ?_⟩
  · rw [run_eql_struct, key]; rfl
  · rw [run_neq_struct, key]; rfl

def aggOf : Option Value → Option (List Value)
  | some (.agg cs) => some cs.toList
  | _ => none
theorem aggOf_some {o : Option Value} {cs : List Value} (h : aggOf o = some cs) : o = some (.agg cs.toArray) := by
  unfold aggOf at h
  split at h
  · injection h with h
    subst h
    rfl
  · cases h

theorem o_eqS {d : Nat} {neg : Bool} {t yt : TypeId} {x y : Operand} {fs : List (Nat × Nat)} {cx cy : List Value} {q : Bool} (hT : TabOK P tab) (hA : Fr c a l) (hse : SE P t fs)
    (hx : aggOf (ev l x) = some cx) (hy : aggOf (ev l y) = some cy) (hq : eqC tab cx cy fs = some q) (hd : Nat.blt d c.1 = true)
    (hw : gd ops l ⟨some d, .binOp (bif neg then .neq else .eql) t x y yt, ty, pos, after, gu⟩ = some true)
    (K : ∀ a, Fr c a ((d, .bool (bif neg then !q else q)) :: l) → wpList P ops Q rest a w) :
    wpList P ops Q (⟨some d, .binOp (bif neg then .neq else .eql) t x y yt, ty, pos, after, gu⟩ :: rest) a w := by
  obtain ⟨h1, h2, h3, h4⟩ := run_eqS (w := w) hT hse hq x y
  refine stepv (w' := w) (gd_spec hA hw) ?_ (K _ (hA.put hd _))
  cases neg
  · simp [execOp, hA.eval (aggOf_some hx), hA.eval (aggOf_some hy), h1, h3]
  · simp [execOp, hA.eval (aggOf_some hx), hA.eval (aggOf_some hy), h2, h4]

theorem q_eqS {d : Nat} {neg : Bool} {t yt : TypeId} {x y : Operand} {fs : List (Nat × Nat)} {cx cy : List Value} {q : Bool} (hT : TabOK P tab) (hA : Fr c a l) (hse : SE P t fs)
    (hx : aggOf (ev l x) = some cx) (hy : aggOf (ev l y) = some cy) (hq : eqC tab cx cy fs = some q) (hd : Nat.blt d c.1 = true)
    (hw : gd ops l ⟨some d, .binOp (bif neg then .neq else .eql) t x y yt, ty, pos, after, gu⟩ = some true)
    (K : ∀ a, Fr c a ((d, .bool (bif neg then !q else q)) :: l) → wpHold P ops C KQ rest a) :
    wpHold P ops C KQ (⟨some d, .binOp (bif neg then .neq else .eql) t x y yt, ty, pos, after, gu⟩ :: rest) a := by
  refine qstep hA hw (fun w _ => ?_) (K _ (hA.put hd _))
  obtain ⟨h1, h2, h3, h4⟩ := run_eqS (w := w) hT hse hq x y
  cases neg
  · simp [execOp, hA.eval (aggOf_some hx), hA.eval (aggOf_some hy), h1, h3]
  · simp [execOp, hA.eval (aggOf_some hx), hA.eval (aggOf_some hy), h2, h4]

/-! ### parts of a slice of the call's own, and copies -/
def SubO (A : Option Addr) (n : Nat) (i : Int) (A' : Option Addr) (ys : List α) : Prop := ys = [] ∨ ∃ g, A = some ⟨g, 0, none⟩ ∧ A' = some ⟨g, i.toNat * n, none⟩

/-- what a copy leaves: m places from i on -/
def cpy (xs : List α) (i : Int) (m : Nat) (zs : List α) : List α := xs.take i.toNat ++ (zs.take m ++ xs.drop (i.toNat + m))

theorem SrcOK.take (h : SrcOK e H w A zs) (m : Nat) : SrcOK e H w A (zs.take m) := by
  rcases h with rfl | ⟨g, off, arr, T, fz, q1, q2, q3⟩
  · exact .inl (by simp)
  · exact .inr ⟨g, off, arr, T, fz, q1, q2, fun i x hx => by
      rw [List.getElem?_take] at hx
      split at hx
      · exact q3 i x hx
      · cases hx⟩

theorem OwnS.srcSub {k : Nat} {i j : Int} (h : OwnS e Tb H A cp xs p) (hS : St X w0 w H L) (hp : L[k]? = some p) (hs : sl xs i j = some ys) (hsub : SubO A e.n i A' ys) : SrcOK e H w A' ys := by
  rcases hsub with rfl | ⟨g, rfl, rfl⟩
  · exact .inl rfl
  · obtain ⟨s1, s2, s3, s4, s5⟩ := sl_some hs
    rcases h with ⟨_, rfl, _⟩ | ⟨g', arr, e1, rfl, _, _, _, q6⟩
    · left
      rw [s4]
      simp
    · injection e1 with e1
      injection e1 with e1 _ _
      subst e1
      refine .inr ⟨g, _, arr, Tb, (0, 0), rfl, hS.get hp sing_get, fun t x hx => ?_⟩
      rw [s4, List.getElem?_take] at hx
      split at hx
      · rw [List.getElem?_drop] at hx
        obtain ⟨cs, r1, r2⟩ := q6 _ x hx
        refine ⟨cs, r1, fun u v hv => ?_⟩
        have := r2 u v hv
        rw [Nat.zero_add, Nat.add_mul] at this
        rw [show i.toNat * e.n + t * e.n + u = i.toNat * e.n + t * e.n + u from rfl]
        exact this
      · cases hx

theorem SubO.all (h : OwnS e Tb H A cp xs p) : SubO A e.n 0 A xs := by
  rcases h with ⟨_, rfl, _⟩ | ⟨g', arr, e1, _⟩
  · exact .inl rfl
  · exact .inr ⟨g', e1, by rw [e1]; simp⟩

theorem Cells.cpy {arr : Array Value} {fs : List (List Value)} {i m : Nat} (h : Cells e H arr 0 xs) (hfs : fs.length = (zs.take m).length) (hfl : fs.flatten.length = (zs.take m).length * e.n)
    (hf : ∀ (j : Nat) x cs, (zs.take m)[j]? = some x → fs[j]? = some cs → e.rd H cs x) (hm : m ≤ zs.length) (him : i + m ≤ xs.length) (hle : xs.length * e.n ≤ arr.size) :
    Cells e H (stv arr.toList (i * e.n) fs.flatten).toArray 0 (RL.cpy xs (i : Int) m zs) := by
  have hlm : (zs.take m).length = m := by simp; omega
  rw [hlm] at hfs hfl
  have hfit : i * e.n + fs.flatten.length ≤ arr.toList.length := by
    have : (i + m) * e.n ≤ xs.length * e.n := Nat.mul_le_mul_right _ him
    rw [Nat.add_mul] at this
    rw [hfl, Array.length_toList]
    omega
  have hz : Cells e H fs.flatten.toArray 0 (zs.take m) := Cells.of_flat (off := 0) (by rw [hlm]; exact hfs) hf (fun j v hv => by simpa using hv)
  unfold RL.cpy
  simp only [Int.toNat_natCast]
  have hti : (xs.take i).length = i := by simp; omega
  refine Cells.append (fun j x hx => ?_) ?_
  · have hj : j < i := by
      have := (List.getElem?_eq_some_iff.1 hx).1
      rw [hti] at this
      exact this
    rw [List.getElem?_take, if_pos hj] at hx
    obtain ⟨cs, r1, r2⟩ := h j x hx
    refine ⟨cs, r1, fun u v hv => ?_⟩
    have hu : u < e.n := by rw [← e.len r1]; exact (List.getElem?_eq_some_iff.1 hv).1
    have h1 : (j + 1) * e.n ≤ i * e.n := Nat.mul_le_mul_right _ hj
    rw [Nat.add_mul] at h1
    have := r2 u v hv
    simp only [Nat.zero_add, List.getElem?_toArray] at this ⊢
    rw [stv_get _ _ _ _ hfit, if_neg (by omega), Array.getElem?_toList]
    exact this
  · rw [hti]
    refine Cells.append (fun j x hx => ?_) (fun j x hx => ?_)
    · obtain ⟨cs, r1, r2⟩ := hz j x hx
      refine ⟨cs, r1, fun u v hv => ?_⟩
      have := r2 u v hv
      simp only [Nat.zero_add, List.getElem?_toArray] at this ⊢
      have hlt : j * e.n + u < fs.flatten.length := (List.getElem?_eq_some_iff.1 this).1
      rw [stv_get _ _ _ _ hfit, if_pos (by omega)]
      rw [show i * e.n + j * e.n + u - i * e.n = j * e.n + u from by omega]
      exact this
    · rw [hlm]
      rw [List.getElem?_drop] at hx
      obtain ⟨cs, r1, r2⟩ := h _ x hx
      refine ⟨cs, r1, fun u v hv => ?_⟩
      have := r2 u v hv
      simp only [Nat.zero_add, List.getElem?_toArray, Nat.add_mul] at this ⊢
      rw [stv_get _ _ _ _ hfit, if_neg (by rw [hfl]; omega), Array.getElem?_toList]
      exact this

theorem cpy_length {i : Int} {m : Nat} (hm : m ≤ zs.length) (him : i.toNat + m ≤ xs.length) : (cpy xs i m zs).length = xs.length := by
  simp [cpy]
  omega

theorem run_slO {T el : Nat} {x : Operand} {lo hi mx : Option Operand} {te se : TE} {i j : Int} (hT : TabOK P tab) (hA : Fr c a l) (hr : OwnS e Tb H A cp xs p) (hs : sl xs i j = some ys)
    (hx : ev l x = some (.slice A xs.length cp)) (hlo : optI l lo 0 = some i) (hhi : optI l hi xs.length = some j) (hmx : optI l mx j = some j) (hmh : hi = none → mx = none)
    (ht : tk T tab = some te) (hk : te.tk = .slice el) (hse : tk el tab = some se) (hn : se.size = e.n) :
    ∃ A' cp', SubO A e.n i A' ys ∧ ∀ w, (Instr.sliceAt T (a.eval x) (lo.map a.eval) (hi.map a.eval) (mx.map a.eval)).run P w = .ok (.slice A' ys.length cp') w := by
  obtain ⟨A', cp', q1, q2⟩ := run_slG hT hA hr.le.1 hs hx hlo hhi hmx hmh ht hk hse
  refine ⟨A', cp', ?_, q2⟩
  rcases q1 with rfl | rfl
  · exact .inl rfl
  · rcases hr with ⟨_, rfl, _⟩ | ⟨g, arr, rfl, _⟩
    · left
      obtain ⟨_, _, _, s4, _⟩ := sl_some hs
      rw [s4]
      simp
    · right
      exact ⟨g, rfl, by simp [add_eq, hn]⟩

theorem o_slO {d T el : Nat} {x : Operand} {lo hi mx : Option Operand} {te se : TE} {i j : Int} (hT : TabOK P tab) (hA : Fr c a l) (hr : OwnS e Tb H A cp xs p) (hs : sl xs i j = some ys)
    (hx : ev l x = some (.slice A xs.length cp)) (hlo : optI l lo 0 = some i) (hhi : optI l hi xs.length = some j) (hmx : optI l mx j = some j) (hmh : hi = none → mx = none)
    (ht : tk T tab = some te) (hk : te.tk = .slice el) (hse : tk el tab = some se) (hn : se.size = e.n) (hd : Nat.blt d c.1 = true)
    (hw : gd ops l ⟨some d, .slice T x lo hi mx, ty, pos, after, gu⟩ = some true)
    (K : ∀ a A' cp', Fr c a ((d, .slice A' ys.length cp') :: l) → SubO A e.n i A' ys → wpList P ops Q rest a w) :
    wpList P ops Q (⟨some d, .slice T x lo hi mx, ty, pos, after, gu⟩ :: rest) a w := by
  obtain ⟨A', cp', q1, q2⟩ := run_slO hT hA hr hs hx hlo hhi hmx hmh ht hk hse hn
  refine stepv (w' := w) (gd_spec hA hw) ?_ (K _ A' cp' (hA.put hd _) q1)
  simp [execOp, q2]
theorem q_slO {d T el : Nat} {x : Operand} {lo hi mx : Option Operand} {te se : TE} {i j : Int} (hT : TabOK P tab) (hA : Fr c a l) (hr : OwnS e Tb H A cp xs p) (hs : sl xs i j = some ys)
    (hx : ev l x = some (.slice A xs.length cp)) (hlo : optI l lo 0 = some i) (hhi : optI l hi xs.length = some j) (hmx : optI l mx j = some j) (hmh : hi = none → mx = none)
    (ht : tk T tab = some te) (hk : te.tk = .slice el) (hse : tk el tab = some se) (hn : se.size = e.n) (hd : Nat.blt d c.1 = true)
    (hw : gd ops l ⟨some d, .slice T x lo hi mx, ty, pos, after, gu⟩ = some true)
    (K : ∀ a A' cp', Fr c a ((d, .slice A' ys.length cp') :: l) → SubO A e.n i A' ys → wpHold P ops C KQ rest a) :
    wpHold P ops C KQ (⟨some d, .slice T x lo hi mx, ty, pos, after, gu⟩ :: rest) a := by
  obtain ⟨A', cp', q1, q2⟩ := run_slO hT hA hr hs hx hlo hhi hmx hmh ht hk hse hn
  refine qstep hA hw (fun w _ => ?_) (K _ A' cp' (hA.put hd _) q1)
  simp [execOp, q2]

/-- the empty slice of a slice: nothing that is anyone's -/
theorem o_sl00 {d T el : Nat} {x : Operand} {n : Nat} {te : TE} (hT : TabOK P tab) (hA : Fr c a l)
    (hx : ev l x = some (.slice A n cp)) (ht : tk T tab = some te) (hk : te.tk = .slice el) {se : TE} (hse : tk el tab = some se) (hd : Nat.blt d c.1 = true)
    (hw : gd ops l ⟨some d, .slice T x none (some (.const (.int .i64 0))) (some (.const (.int .i64 0))), ty, pos, after, gu⟩ = some true)
    (K : ∀ a A', Fr c a ((d, .slice A' 0 0) :: l) → wpList P ops Q rest a w) :
    wpList P ops Q (⟨some d, .slice T x none (some (.const (.int .i64 0))) (some (.const (.int .i64 0))), ty, pos, after, gu⟩ :: rest) a w := by
  have hu := (hT T te ht).slice hk
  have hsize : ∀ w1 : World, (sizeOf el).run P w1 = .ok se.size w1 := fun w1 => run_size (hT el se hse) w1
  refine stepv (v := .slice A 0 0) (w' := w) (gd_spec hA hw) ?_ (K _ _ (hA.put hd _))
  have hc : a.eval (.const (.int .i64 0)) = .int .i64 0 := rfl
  simp [execOp, hA.eval hx, hc, Instr.sliceAt, run_und hu, Instr.slice, Instr.sliceBounds, Instr.sliceBound, asIntOf, hsize]

theorem run_first' {size m n c' : Nat} {A2 : Option Addr} (hs : SrcOK e H w A2 zs) (hn : size = e.n) (hm : m = zs.length) : ∃ fs : List (List Value),
    (Builtin.firstCells size m (.slice A2 n c')).run P w = .ok fs.flatten.toArray w ∧ fs.length = zs.length ∧ fs.flatten.length = zs.length * e.n ∧
    (∀ (i : Nat) x cs, zs[i]? = some x → fs[i]? = some cs → e.rd H cs x) ∧ ∀ v ∈ fs.flatten, v.oneCell' = true := by
  subst hm
  obtain ⟨fs, h1, h2⟩ := run_src (P := P) (c' := c') hs hn
  refine ⟨fs, ?_, h2⟩
  rw [← h1]
  cases A2 <;> rfl

theorem run_copy {T1 T2 m n c1 c2 : Nat} {A1 A2 : Option Addr} {size : Nat} {fs : List Value} (hu : P.underlying T1 = some (.slice Tb)) (hsz : (sizeOf Tb).run P w = .ok size w)
    (hf : (Builtin.firstCells size (min n m) (.slice A2 n c2)).run P w = .ok fs.toArray w) {w' : World}
    (hst : ∀ ad, A1 = some ad → (storeCells ad fs).run P w = .ok () w') (hw : A1 = none → w' = w) :
    (Builtin.copy_ #[T1, T2] ty #[.slice A1 m c1, .slice A2 n c2]).run P w = .ok (.int .i64 (min n m : Nat)) w' := by
  have hf' : (Builtin.firstCells size (n.min m) (.slice A2 n c2)).run P w = .ok fs.toArray w := hf
  cases A1 with
  | none =>
    obtain rfl := hw rfl
    simp only [Builtin.copy_, List.getElem?_toArray, List.getElem?_cons_zero, List.getElem?_cons_succ, Sem.run_bind, run_und hu, Result.andThen_ok, Builtin.lenOf, Sem.run_pure, hsz, hf']
    rfl
  | some ad =>
    have h1 := hst ad rfl
    simp only [Builtin.copy_, List.getElem?_toArray, List.getElem?_cons_zero, List.getElem?_cons_succ, Sem.run_bind, run_und hu, Result.andThen_ok, Builtin.lenOf, Sem.run_pure, hsz, hf', h1]
    rfl

theorem o_copy {d k T1 T2 : Nat} {x y : Operand} {te se : TE} {A1 A2 : Option Addr} {c1 c2 : Nat} {i : Int} {us : List α} (hT : TabOK P tab) (hA : Fr c a l) (hS : St X w0 w H L) (hr : OwnS e Tb H A cp xs p) (hp : L[k]? = some p)
    (hsub : SubO A e.n i A1 us) (h0 : 0 ≤ i) (hfit : i.toNat + us.length ≤ xs.length) (hs : SrcOK e H w A2 zs) (hx : ev l x = some (.slice A1 us.length c1)) (hy : ev l y = some (.slice A2 zs.length c2))
    (ht : tk T1 tab = some te) (hk : te.tk = .slice Tb) (hse : tk Tb tab = some se) (hn : se.size = e.n) (hd : Nat.blt d c.1 = true)
    (hw : gd ops l ⟨some d, .call ⟨.builtin .copy, #[x, y], #[T1, T2]⟩, ty, pos, after, gu⟩ = some true)
    (K : ∀ a w p, Fr c a ((d, .int .i64 (min zs.length us.length : Nat)) :: l) → St X w0 w H (L.set k p) → OwnS e Tb H A cp (cpy xs i (min zs.length us.length) zs) p → wpList P ops Q rest a w) :
    wpList P ops Q (⟨some d, .call ⟨.builtin .copy, #[x, y], #[T1, T2]⟩, ty, pos, after, gu⟩ :: rest) a w := by
  have hu := (hT T1 te ht).slice hk
  have hsz : ∀ w1 : World, (sizeOf Tb).run P w1 = .ok e.n w1 := fun w1 => by rw [run_size (hT Tb se hse), hn]
  obtain ⟨n, rfl⟩ := Int.eq_ofNat_of_zero_le h0
  simp only [Int.toNat_natCast] at hfit
  have hkL : k < L.length := (List.getElem?_eq_some_iff.1 hp).1
  have hm : (zs.take (min zs.length us.length)).length = min zs.length us.length := by simp [Nat.min_assoc, Nat.min_comm]
  obtain ⟨fs, r1, f1, f2, f3, f5⟩ := run_first' (P := P) (size := e.n) (m := min zs.length us.length) (n := zs.length) (c' := c2) (hs.take (min zs.length us.length)) rfl hm.symm
  rw [hm] at f2
  rcases hr with ⟨rfl, rfl, rfl⟩ | ⟨g, arr, rfl, rfl, q3, q4, q5, q6⟩
  · have hus : us = [] := List.eq_nil_of_length_eq_zero (by simp only [List.length_nil] at hfit; omega)
    subst hus
    have hfs : fs.flatten = [] := List.eq_nil_of_length_eq_zero (by simp [f2])
    have hset : L.set k emp = L := by
      apply List.ext_getElem?
      intro j
      rw [List.getElem?_set]
      split
      · rename_i e1; subst e1; exact hp.symm
      · rfl
    refine stepv (w' := w) (gd_spec hA hw) ?_ (K _ w emp (hA.put hd _) (by rw [hset]; exact hS) (.inl ⟨rfl, by simp [cpy], rfl⟩))
    have := run_copy (ty := ty) (T2 := T2) (m := ([] : List α).length) (c1 := c1) hu (hsz w) r1 (w' := w) (A1 := A1) (fun ad _ => by rw [hfs]; rfl) (fun _ => rfl)
    simp only [execOp, resolve, invoke, builtin, List.map_toArray, List.map_cons, List.map_nil, hA.eval hx, hA.eval hy, pure_bind, Sem.run_bind, this, Result.andThen_ok, Sem.run_pure]
  · obtain ⟨w', s1, s0, s2⟩ : ∃ w', (∀ ad, A1 = some ad → (storeCells ad fs.flatten).run P w = .ok () w') ∧ (A1 = none → w' = w) ∧
        St X w0 w' H (L.set k (sing g (.cells (stv arr.toList (n * e.n) fs.flatten).toArray Tb (0, 0)))) := by
      rcases hsub with rfl | ⟨g', e1, rfl⟩
      · have hfs : fs.flatten = [] := List.eq_nil_of_length_eq_zero (by simp [f2])
        refine ⟨w, fun ad _ => by rw [hfs]; rfl, fun _ => rfl, ?_⟩
        rw [hfs]
        have : L.set k (sing g (.cells (stv arr.toList (n * e.n) []).toArray Tb (0, 0))) = L := by
          apply List.ext_getElem?
          intro j
          rw [List.getElem?_set]
          split
          · rename_i e1; subst e1; rw [hp]; simp [stv]
          · rfl
        rw [this]
        exact hS
      · injection e1 with e1
        injection e1 with e1 _ _
        subst e1
        have hfit' : n * e.n + 0 + fs.flatten.length ≤ arr.toList.length := by
          have h1 : (n + us.length) * e.n ≤ cp * e.n := Nat.mul_le_mul_right _ (by omega)
          have h2 : min zs.length us.length * e.n ≤ us.length * e.n := Nat.mul_le_mul_right _ (by omega)
          rw [Nat.add_mul] at h1
          have h3 : arr.toList.length = cp * e.n := by rw [Array.length_toList]; exact q3
          rw [f2, h3]
          omega
        obtain ⟨w', s1, s2⟩ := run_stores (P := P) (i := k) (g := g) (T := Tb) fs.flatten arr.toList (n * e.n) 0 hkL hS hp (by rw [Array.toArray_toList]; exact sing_get) hfit' f5
        rw [upd_sing] at s2
        exact ⟨w', fun ad e2 => by injection e2 with e2; subst e2; exact s1, fun e2 => (by cases e2), by simpa using s2⟩
    refine stepv (w' := w') (gd_spec hA hw) ?_ (K _ w' _ (hA.put hd _) s2 (.inr ⟨g, _, rfl, rfl, by simp [stv_length, q3], ?_, ?_, ?_⟩))
    · have := run_copy (ty := ty) (T2 := T2) (m := us.length) (c1 := c1) hu (hsz w) r1 s1 s0
      simp only [execOp, resolve, invoke, builtin, List.map_toArray, List.map_cons, List.map_nil, hA.eval hx, hA.eval hy, pure_bind, Sem.run_bind, this, Result.andThen_ok, Sem.run_pure]
    · rw [cpy_length (by omega) (by simp; omega)]; exact q4
    · rw [cpy_length (by omega) (by simp; omega)]; exact q5
    · exact q6.cpy (by simpa using f1) (by rw [hm]; exact f2) f3 (by omega) (by omega) (by rw [q3]; exact Nat.mul_le_mul_right _ q4)

theorem cpy_le {m i u x : Nat} (h : i + u ≤ x) (hx : x ≤ 140737488355328) : min m u ≤ 9223372036854775807 := by omega
theorem sl_fit {lo hi : Int} (h : sl xs lo hi = some ys) : lo.toNat + ys.length ≤ xs.length := by
  obtain ⟨h1, h2, h3, _, h5⟩ := sl_some h
  omega
theorem RdS.of_nil (h : RdS e H A cp xs) (hn : A.isNone = true) : xs = [] := by
  rcases h.2.2 with h | ⟨g, off, arr, T, fz, rfl, _⟩
  · exact h
  · cases hn
theorem cpy_len {us : List α} {i : Int} (h : i.toNat + us.length ≤ xs.length) : (cpy xs i (min zs.length us.length) zs).length = xs.length := cpy_length (by omega) (by omega)
end
end Go.RL
