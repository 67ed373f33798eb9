/- A program logic over the model's machine, part 10: quiet steps, pieces of memory, loops, calls.
   Part of the proof of Rows.RegsFlowsSaid of the program 'recoup'. -/
import Derived.Test.YtoaimimdfddidaaLb9
set_option linter.unusedVariables false
set_option linter.unusedSimpArgs false
set_option linter.unusedSectionVars false
namespace Go.RL

/-! ### numbers -/
theorem inR_wrap (k : IntKind) (x : Int) : inR k (k.wrap x) := by
  unfold inR
  cases k <;> simp [IntKind.wrap, IntKind.min, IntKind.max, IntKind.signed, IntKind.bits] <;> (try split) <;> omega
theorem inR_c {k : IntKind} {x : Int} (h : (decide (k.min ≤ x) && decide (x ≤ k.max)) = true) : inR k x := by
  simp only [Bool.and_eq_true, decide_eq_true_eq] at h
  exact h
theorem inR_nat {n : Nat} (h : n ≤ 9223372036854775807) : inR .i64 (n : Int) := by
  simp [inR, IntKind.min, IntKind.max, IntKind.signed, IntKind.bits]; omega
theorem inR_i64 {x : Int} (h : inR .i64 x) : -9223372036854775808 ≤ x ∧ x ≤ 9223372036854775807 := by
  simp [inR, IntKind.min, IntKind.max, IntKind.signed, IntKind.bits] at h; omega
theorem inR_u8 {x : Int} (h : inR .u8 x) : 0 ≤ x ∧ x ≤ 255 := by
  simp [inR, IntKind.min, IntKind.max, IntKind.signed, IntKind.bits] at h; omega
theorem inR_u64 {x : Int} (h : inR .u64 x) : 0 ≤ x ∧ x ≤ 18446744073709551615 := by
  simp [inR, IntKind.min, IntKind.max, IntKind.signed, IntKind.bits] at h; omega
theorem inR_u32 {x : Int} (h : inR .u32 x) : 0 ≤ x ∧ x ≤ 4294967295 := by
  simp [inR, IntKind.min, IntKind.max, IntKind.signed, IntKind.bits] at h; omega
theorem inR_shr {k : IntKind} {x y : Int} (h : inR k x) : inR k (shrI k x y) := by
  unfold inR shrI at *
  generalize min y.toNat k.bits = n
  have h2 : (0 : Int) < 2 ^ n := Int.pow_pos (by omega)
  have hmin : k.min ≤ 0 := by cases k <;> decide
  have hmax : 0 ≤ k.max := by cases k <;> decide
  constructor
  · rw [Int.le_ediv_iff_mul_le h2]
    have h4 : k.min * 2 ^ n ≤ k.min * 1 := Int.mul_le_mul_of_nonpos_left hmin (by omega)
    omega
  · have : x / 2 ^ n ≤ k.max / 2 ^ n := Int.ediv_le_ediv h2 h.2
    have h3 : k.max / 2 ^ n ≤ k.max := Int.ediv_le_self _ hmax
    omega
theorem w64_id {x : Int} (h1 : -9223372036854775808 ≤ x) (h2 : x ≤ 9223372036854775807) : w64 x = x := by
  simp [w64, IntKind.wrap, IntKind.signed, IntKind.bits]; split <;> omega
theorem w64_succ {i n : Nat} (h : i < n) (hn : n ≤ 9223372036854775807) : w64 ((i : Int) + 1) = ((i + 1 : Nat) : Int) := by
  rw [w64_id (by omega) (by omega)]; omega

theorem RdS.len {α : Type} {e : ET α} {H : PHeap} {A : Option Addr} {c : Nat} {xs : List α} (h : RdS e H A c xs) (hb : Nat.blt 0 e.bytes = true) : xs.length ≤ 140737488355328 := by
  have h1 := h.2.1
  have h2 : 0 < e.bytes := Nat.le_of_ble_eq_true hb
  have : xs.length * 1 ≤ xs.length * e.bytes := Nat.mul_le_mul_left _ h2
  simp only [lim] at h1
  omega
theorem OwnS.len {α : Type} {e : ET α} {T : TypeId} {H : PHeap} {A : Option Addr} {c : Nat} {xs : List α} {p : Piece} (h : OwnS e T H A c xs p) (hb : Nat.blt 0 e.bytes = true) : xs.length ≤ 140737488355328 := by
  have h1 := h.le.2
  have h2 : 0 < e.bytes := Nat.le_of_ble_eq_true hb
  have : xs.length * 1 ≤ xs.length * e.bytes := Nat.mul_le_mul_left _ h2
  simp only [lim] at h1
  omega

/-- what a list of values reads as -/
inductive RdL {α : Type} (e : ET α) (H : PHeap) : List Value → List α → Prop where
  | nil : RdL e H [] []
  | cons {v : Value} {x : α} {vs : List Value} {xs : List α} (h : e.rd H (vcells v) x) (r : RdL e H vs xs) : RdL e H (v :: vs) (x :: xs)

section
variable {P : Program} {tab : List (Nat × TE)} {ops : Array Oper} {Q : Exit → Act → World → Prop} {a : Act} {w w0 : World} {rest : List Oper} {c : Cfg} {l : List (Nat × Value)}
variable {X : Nat → Prop} {H : PHeap} {L : List Piece} {ty : TypeId} {pos : String} {after : Array Edge} {gu : Option (Nat × Bool)}
variable {α : Type} {e : ET α} {xs ys : List α} {A : Option Addr} {cp : Nat} {p : Piece} {Tb : TypeId}

def seqN : Nat → List (Nat × Operand) → Bool
  | _, [] => true
  | k, (i, _) :: r => Nat.beq i k && seqN (k + 1) r

theorem evp_snd : ∀ {k : Nat} {parts : List (Nat × Operand)} {ps : List (Nat × Value)}, evp l parts = some ps → seqN k parts = true → ps = (((ps.map (·.2)).zipIdx k).map (fun (v, i) => (i, v)))
  | k, [], ps, h, _ => by simp [evp] at h; subst h; rfl
  | k, (i, x) :: r, ps, h, hs => by
    unfold evp at h
    split at h
    · rename_i v vs h1 h2
      injection h with h
      subst h
      simp only [seqN, Bool.and_eq_true] at hs
      have hi : i = k := Nat.eq_of_beq_eq_true hs.1
      have ih := evp_snd (k := k + 1) h2 hs.2
      subst hi
      simp only [List.map_cons, List.zipIdx_cons]
      congr 1
    · cases h

theorem fill_seq {size n : Nat} : ∀ (vs : List Value) (k : Nat) (cs : List Value), (∀ v ∈ vs, (vcells v).length = size) → k * size + vs.length * size ≤ cs.length →
    ∃ out : List Value, Instr.fill (fun i => some (i * size, size)) cs.toArray ((vs.zipIdx k).map fun (v, i) => (i, v)) = some out.toArray ∧ out.length = cs.length ∧
      (∀ i u, i < k * size → cs[i]? = some u → out[i]? = some u) ∧ ∀ i v, vs[i]? = some v → ∀ j u, (vcells v)[j]? = some u → out[(k + i) * size + j]? = some u
  | [], k, cs, _, _ => ⟨cs, rfl, rfl, fun _ _ _ h => h, fun i v h => by simp at h⟩
  | v :: vs, k, cs, hs, hl => by
    have h1 := hs v (List.mem_cons_self ..)
    have hsz : v.cells.size = size := by rw [← h1, ← vcells_eq]; simp
    simp only [List.length_cons, Nat.add_mul, Nat.one_mul] at hl
    have hfit : k * size + (vcells v).length ≤ cs.length := by omega
    obtain ⟨out, o1, o2, o3, o4⟩ := fill_seq (size := size) (n := n) vs (k + 1) (stv cs (k * size) (vcells v)) (fun u hu => hs u (List.mem_cons_of_mem _ hu)) (by rw [stv_length, Nat.add_mul]; omega)
    refine ⟨out, ?_, by rw [o2, stv_length], fun i u hi hu => ?_, fun i u hu j x hx => ?_⟩
    · simp only [List.zipIdx_cons, List.map_cons, Instr.fill]
      rw [if_neg]
      · rw [← Array.foldl_toList, Array.toList_zipIdx, vcells_eq, stv_fold]
        exact o1
      · simp [hsz]; omega
    · refine o3 i u (by rw [Nat.add_mul]; omega) ?_
      rw [stv_get _ _ _ _ hfit, if_neg (by omega)]
      exact hu
    · cases i with
      | zero =>
        simp only [List.getElem?_cons_zero, Option.some.injEq] at hu
        subst hu
        have hj : j < (vcells v).length := (List.getElem?_eq_some_iff.1 hx).1
        simp only [Nat.add_zero]
        refine o3 _ x (by rw [Nat.add_mul]; omega) ?_
        rw [stv_get _ _ _ _ hfit, if_pos (by omega)]
        rw [show k * size + j - k * size = j from by omega]
        exact hx
      | succ i =>
        have := o4 i u (by simpa using hu) j x hx
        rw [show k + (i + 1) = k + 1 + i from by omega]
        exact this

theorem RdL.length : ∀ {vs : List Value} {xs : List α}, RdL e H vs xs → vs.length = xs.length
  | _, _, .nil => rfl
  | _, _, .cons _ r => by simp [r.length]
theorem RdL.all : ∀ {vs : List Value} {xs : List α}, RdL e H vs xs → ∀ v ∈ vs, (vcells v).length = e.n
  | _, _, .nil, v, hv => by cases hv
  | _, _, .cons h r, v, hv => by
    rcases List.mem_cons.1 hv with rfl | hv
    · exact e.len h
    · exact r.all v hv
theorem RdL.get : ∀ {vs : List Value} {xs : List α}, RdL e H vs xs → ∀ (i : Nat) (x : α), xs[i]? = some x → ∃ v, vs[i]? = some v ∧ e.rd H (vcells v) x
  | _, _, .nil, i, x, hx => by simp at hx
  | _, _, .cons h r, i, x, hx => by
    cases i with
    | zero => simp at hx; subst hx; exact ⟨_, rfl, h⟩
    | succ i => simpa using r.get i x (by simpa using hx)

/-- a slice that is written out -/
theorem o_bsl {d T el n : Nat} {parts : Array (Nat × Operand)} {te se : TE} {ps : List (Nat × Value)} (hT : TabOK P tab) (hA : Fr c a l) (hS : St X w0 w H L)
    (hx : evp l parts.toList = some ps) (hq : seqN 0 parts.toList = true) (hn0 : ps.length = n) (hv : RdL e H (ps.map (·.2)) xs)
    (ht : tk T tab = some te) (hk : te.tk = .slice el) (hse : tk el tab = some se) (hn : se.size = e.n) (hb : Nat.ble (n * se.bytes) 1000000 = true) (hb2 : se.bytes = e.bytes)
    (hs0 : Nat.ble (n * se.size) 10000 = true) (hd : Nat.blt d c.1 = true)
    (hw : gd ops l ⟨some d, .buildSlice T n parts, ty, pos, after, gu⟩ = some true)
    (K : ∀ a w A p, Fr c a ((d, .slice A xs.length xs.length) :: l) → St X w0 w H (p :: L) → OwnS e el H A xs.length xs p → A.isNone = false → wpList P ops Q rest a w) :
    wpList P ops Q (⟨some d, .buildSlice T n parts, ty, pos, after, gu⟩ :: rest) a w := by
  have hu := (hT T te ht).slice hk
  have hsize := run_size (hT el se hse) w
  have hzero := run_zero (hT el se hse) w
  have hs0' := Nat.le_of_ble_eq_true hs0
  have hb' := Nat.le_of_ble_eq_true hb
  have hxl : xs.length = n := by rw [← hv.length, List.length_map, hn0]
  have hpz := evp_snd (k := 0) hx hq
  have hvs : ∀ v ∈ ps.map (·.2), (vcells v).length = se.size := fun v hv' => (hv.all v hv').trans hn.symm
  -- the cells at first
  obtain ⟨z, hz⟩ : ∃ z : List Value, ((Array.range (n * se.size)).map ((if n * se.size = 0 then #[] else se.zero.cells)[· % (if n * se.size = 0 then #[] else se.zero.cells).size]!)) = z.toArray ∧ z.length = n * se.size := ⟨_, Array.toArray_toList.symm, by simp⟩
  obtain ⟨out, o1, o2, _, o4⟩ := fill_seq (size := se.size) (n := n) (ps.map (·.2)) 0 z hvs (by rw [hz.2, List.length_map, hn0]; omega)
  rw [← hpz] at o1
  refine stepv (v := .slice (some ⟨w.heap.size, 0, none⟩) n n) (w' := { w with heap := w.heap.push (.cells out.toArray el (0, 0)) }) (gd_spec hA hw) ?_ ?_
  · have h1 : ¬ (n * se.size > 2 ^ 24) := by omega
    have hparts : (parts.map fun x => (x.1, a.eval x.2)).toList = ps := by rw [← evp_spec hA hx]; simp
    have hms : (Instr.buildSlice T n (parts.map fun x => (x.1, a.eval x.2))).run P w = .ok (.slice (some ⟨w.heap.size, 0, none⟩) n n) { w with heap := w.heap.push (.cells out.toArray el (0, 0)) } := by
      simp only [Instr.buildSlice, Sem.run_bind, run_und hu, Result.andThen_ok, hsize, if_neg h1, hparts]
      by_cases h2 : n * se.size = 0
      · rw [if_pos h2] at hz
        rw [if_pos h2]
        simp only [Sem.run_bind, Sem.run_pure, Result.andThen_ok]
        rw [hz.1, o1]
        rfl
      · rw [if_neg h2] at hz
        rw [if_neg h2]
        simp only [Sem.run_bind, hzero, Sem.run_pure, Result.andThen_ok]
        rw [hz.1, o1]
        rfl
    simp only [execOp]
    rw [Sem.run_bind, hms]
    rfl
  · have hb3 : xs.length * se.bytes ≤ 1000000 := by rw [hxl]; exact hb'
    have hA' : Fr c (a.put (some d) (.slice (some ⟨w.heap.size, 0, none⟩) n n)) ((d, .slice (some ⟨w.heap.size, 0, none⟩) xs.length xs.length) :: l) := by
      rw [hxl]; exact hA.put hd _
    refine K _ _ (some ⟨w.heap.size, 0, none⟩) (sing w.heap.size (.cells out.toArray el (0, 0))) hA' (hS.alloc _) (.inr ⟨w.heap.size, out.toArray, rfl, rfl, by rw [hxl]; simp [o2, hz.2, hn], Nat.le_refl _, by rw [← hb2]; simp only [lim]; omega, fun i x hi => ?_⟩) rfl
    obtain ⟨v, v1, v2⟩ := hv.get i x hi
    refine ⟨vcells v, v2, fun j u hu => ?_⟩
    have := o4 i v v1 j u hu
    simp only [Nat.zero_add, hn] at this
    simpa using this

theorem o_call1 {f d : Nat} {x : Operand} {fn : Func} {xs ts : Array _} {vs fi ca : List Value} {R : Value → World → Prop} (hA : Fr c a l) (hf : FI P f fn)
    (hc : callee l x = some (f, fi, ca)) (hx : evs l xs.toList = some vs) (hw : gd ops l ⟨some d, .call ⟨.value x, xs, ts⟩, ty, pos, after, gu⟩ = some true) (hd : Nat.blt d c.1 = true)
    (hC : Calls P f (fi ++ vs ++ ca).toArray w (Ret R))
    (K : ∀ a w v, R v w → Fr c a ((d, v) :: l) → wpList P ops Q rest a w) :
    wpList P ops Q (⟨some d, .call ⟨.value x, xs, ts⟩, ty, pos, after, gu⟩ :: rest) a w :=
  o_call hA hf hc hx hw hC fun w v hR => K _ w v hR (hA.put hd v)

/-- a call that is followed into its body: what comes behind it is what its result goes to -/
theorem o_in {f d : Nat} {x : Operand} {fn : Func} {xs ts : Array _} {vs fi ca : List Value} (hA : Fr c a l) (hf : FI P f fn)
    (hc : callee l x = some (f, fi, ca)) (hx : evs l xs.toList = some vs) (hw : gd ops l ⟨some d, .call ⟨.value x, xs, ts⟩, ty, pos, after, gu⟩ = some true) (hd : Nat.blt d c.1 = true)
    (R : Value → World → Prop) (hC : Calls P f (fi ++ vs ++ ca).toArray w (Ret R))
    (K : ∀ a w v, R v w → Fr c a ((d, v) :: l) → wpList P ops Q rest a w) :
    wpList P ops Q (⟨some d, .call ⟨.value x, xs, ts⟩, ty, pos, after, gu⟩ :: rest) a w := o_call1 hA hf hc hx hw hd hC K
end
end Go.RL
