/- A program logic over the model's machine, part 7: quiet steps, pieces of memory, loops, calls.
   Part of the proof of Rows.RegsFlowsSaid of the program 'recoup'. -/
import Derived.Test.YtoaimimdfddidaaLb6
set_option linter.unusedVariables false
set_option linter.unusedSimpArgs false
set_option linter.unusedSectionVars false
namespace Go.RL

def sl {α : Type} (xs : List α) (lo hi : Int) : Option (List α) :=
  if 0 ≤ lo ∧ lo ≤ hi ∧ hi ≤ xs.length then some ((xs.drop lo.toNat).take (hi.toNat - lo.toNat)) else none
theorem sl_some {α : Type} {xs ys : List α} {lo hi : Int} (h : sl xs lo hi = some ys) : 0 ≤ lo ∧ lo ≤ hi ∧ hi ≤ xs.length ∧ ys = (xs.drop lo.toNat).take (hi.toNat - lo.toNat) ∧ ys.length = hi.toNat - lo.toNat := by
  unfold sl at h
  split at h
  · rename_i q
    injection h with h
    subst h
    refine ⟨q.1, q.2.1, q.2.2, rfl, ?_⟩
    simp
    omega
  · cases h

def app {α : Type} (b : Nat) (xs ys : List α) : Option (List α) := if (xs.length + ys.length) * b ≤ lim then some (xs ++ ys) else none
theorem app_some {α : Type} {b : Nat} {xs ys zs : List α} (h : app b xs ys = some zs) : (xs.length + ys.length) * b ≤ lim ∧ zs = xs ++ ys := by
  unfold app at h
  split at h
  · injection h with h; exact ⟨‹_›, h.symm⟩
  · cases h
def mk {α : Type} (b : Nat) (n : Int) (z : α) : Option (List α) := if 0 ≤ n ∧ n.toNat * b ≤ lim then some (List.replicate n.toNat z) else none
theorem mk_some {α : Type} {b : Nat} {n : Int} {z : α} {zs : List α} (h : mk b n z = some zs) : 0 ≤ n ∧ n.toNat * b ≤ lim ∧ zs = List.replicate n.toNat z := by
  unfold mk at h
  split at h
  · rename_i q; injection h with h; exact ⟨q.1, q.2, h.symm⟩
  · cases h

section
variable {P : Program} {tab : List (Nat × TE)} {ops : Array Oper} {Q : Exit → Act → World → Prop} {a : Act} {w w0 : World} {rest : List Oper} {c : Cfg} {l : List (Nat × Value)}
variable {X : Nat → Prop} {H : PHeap} {L : List Piece} {ty : TypeId} {pos : String} {after : Array Edge} {gu : Option (Nat × Bool)}
variable {α : Type} {e : ET α} {xs ys zs : List α} {A : Option Addr} {cp : Nat} {p : Piece} {Tb : TypeId}

theorem o_app {d k T1 T2 : Nat} {x y : Operand} {te te2 se : TE} {A2 : Option Addr} {c2 : Nat} (hT : TabOK P tab) (hA : Fr c a l) (hS : St X w0 w H L) (hr : OwnS e Tb H A cp xs p) (hp : L[k]? = some p)
    (hs : SrcOK e H w A2 ys) (hz : app e.bytes xs ys = some zs) (hx : ev l x = some (.slice A xs.length cp)) (hy : ev l y = some (.slice A2 ys.length c2))
    (ht : tk T1 tab = some te) (hk : te.tk = .slice Tb) (ht2 : tk T2 tab = some te2) (hk2 : te2.tk = .slice Tb) (hse : tk Tb tab = some se) (hn : se.size = e.n) (hb : se.bytes = e.bytes)
    (hz0 : (vcells se.zero).length = se.size) (hpos : Nat.blt 0 se.bytes = true) (hd : Nat.blt d c.1 = true)
    (hw : gd ops l ⟨some d, .call ⟨.builtin .append, #[x, y], #[T1, T2]⟩, ty, pos, after, gu⟩ = some true)
    (K : ∀ a w A' cp p, Fr c a ((d, .slice A' zs.length cp) :: l) → St X w0 w H (L.set k p) → OwnS e Tb H A' cp zs p → (A.isNone = false → A'.isNone = false) → wpList P ops Q rest a w) :
    wpList P ops Q (⟨some d, .call ⟨.builtin .append, #[x, y], #[T1, T2]⟩, ty, pos, after, gu⟩ :: rest) a w := by
  obtain ⟨hlim, rfl⟩ := app_some hz
  obtain ⟨A', c', p', w', r1, r2, r3, r4⟩ := run_app (P := P) (ty := ty) (c2 := c2) hT hS hr hp hs ht hk hse hn hb hz0 (Nat.le_of_ble_eq_true hpos) ht2 hk2 hlim
  refine stepv (w' := w') (gd_spec hA hw) ?_ (K _ _ _ _ _ (hA.put hd _) r2 r3 r4)
  simp [execOp, resolve, invoke, builtin, hA.eval hx, hA.eval hy, r1]

theorem range_mod (z : Array Value) (n m : Nat) (hz : z.size = m) : ∀ j v, j < n * m → z[j % m]? = some v → ((Array.range (n * m)).map (z[· % z.size]!))[j]? = some v := by
  intro j v hj hv
  subst hz
  have hz0 : 0 < z.size := by
    rcases Nat.eq_zero_or_pos z.size with h | h
    · rw [h] at hj; simp at hj
    · exact h
  have := (Array.getElem?_eq_some_iff.1 hv)
  obtain ⟨h1, h2⟩ := this
  simp [hj, getElem!_pos, h1, h2]

theorem o_make {d T el : Nat} {x y : Operand} {te se : TE} {k k' : IntKind} {i : Int} {z : α} (hT : TabOK P tab) (hA : Fr c a l) (hS : St X w0 w H L)
    (hm : mk e.bytes i z = some zs) (hx : ev l x = some (.int k i)) (hy : ev l y = some (.int k' i))
    (ht : tk T tab = some te) (hk : te.tk = .slice el) (hse : tk el tab = some se) (hn : se.size = e.n) (hb : se.bytes = e.bytes) (hz : ∀ h, e.rd h (vcells se.zero) z)
    (hpos : Nat.blt 0 se.bytes = true) (hd : Nat.blt d c.1 = true)
    (hw : gd ops l ⟨some d, .makeSlice T x y, ty, pos, after, gu⟩ = some true)
    (K : ∀ a w A p, Fr c a ((d, .slice A zs.length zs.length) :: l) → St X w0 w H (p :: L) → OwnS e el H A zs.length zs p → A.isNone = false → wpList P ops Q rest a w) :
    wpList P ops Q (⟨some d, .makeSlice T x y, ty, pos, after, gu⟩ :: rest) a w := by
  obtain ⟨h0, h1, rfl⟩ := mk_some hm
  obtain ⟨n, rfl⟩ := Int.eq_ofNat_of_zero_le h0
  simp only [Int.toNat_natCast] at h1
  have hu := (hT T te ht).slice hk
  obtain ⟨ti, hi, hiz, his, hib⟩ := (hT el se hse).get
  have hti : ∀ w1 : World, (typeInfo el).run P w1 = .ok ti w1 := fun w1 => by simp [typeInfo, hi]
  have hzero : ∀ w1 : World, (zeroValue el).run P w1 = .ok se.zero w1 := fun w1 => run_zero (hT el se hse) w1
  have hsize : ∀ w1 : World, (sizeOf el).run P w1 = .ok se.size w1 := fun w1 => run_size (hT el se hse) w1
  have hpos' : 0 < se.bytes := Nat.le_of_ble_eq_true hpos
  have hzl := e.len (hz H)
  have hzc : se.zero.cells.size = e.n := by rw [← hzl, ← vcells_eq]; simp
  have hnb : n * ti.bytes ≤ lim := by rw [hib, hb]; exact h1
  have hn62 : n ≤ lim := by
    have : n * 1 ≤ n * ti.bytes := Nat.mul_le_mul_left _ (by rw [hib]; omega)
    omega
  have hwrap : IntKind.i64.wrap (n : Int) = n := by
    simp only [lim] at hn62
    simp [IntKind.wrap, IntKind.signed, IntKind.bits]
    omega
  have hbig : ¬ ((2 : Int) ^ 48 < (ti.bytes : Int) * n) := by
    have : ((n * ti.bytes : Nat) : Int) ≤ (lim : Int) := by exact_mod_cast hnb
    simp only [lim] at this
    rw [Int.natCast_mul, Int.mul_comm] at this
    have h2 : ((140737488355328 : Nat) : Int) = 140737488355328 := rfl
    omega
  have hbig' : ¬ ((ti.bytes : Int) * n > 2 ^ 48) := hbig
  refine stepv (v := .slice (some ⟨w.heap.size, 0, none⟩) n n) (w' := { w with heap := w.heap.push (.cells ((Array.range (n * se.size)).map (se.zero.cells[· % se.zero.cells.size]!)) el (0, 0)) }) (gd_spec hA hw) ?_ ?_
  · simp only [execOp, hA.eval hx, hA.eval hy]
    have hms : (Instr.makeSlice T (.int k (n : Int)) (.int k' (n : Int))).run P w = .ok (.slice (some ⟨w.heap.size, 0, none⟩) n n) { w with heap := w.heap.push (.cells ((Array.range (n * se.size)).map (se.zero.cells[· % se.zero.cells.size]!)) el (0, 0)) } := by
      have hl0 : ¬ ((n : Int) < 0) := by omega
      have htl : (decide ((n : Int) < 0) || decide ((ti.bytes : Int) * n > 2 ^ 48)) = false := by simp only [decide_eq_false hl0, decide_eq_false hbig', Bool.or_self]
      simp only [Instr.makeSlice, Sem.run_bind, run_und hu, Result.andThen_ok, asInt, asIntOf, Sem.run_pure, hti, hwrap, htl]
      have hgt : decide ((n : Int) > n) = false := by simp
      simp only [decide_eq_false hl0, hgt, Bool.or_self, Bool.false_eq_true, if_false, Sem.run_bind, run_askRoom, Result.andThen_ok, hsize, Int.toNat_natCast]
      by_cases hn0 : n * se.size = 0
      · simp only [hn0, if_true, Sem.run_pure, Result.andThen_ok, Sem.run_bind, newRow, run_newObj]
        have hr0 : ∀ f : Nat → Value, (Array.range 0).map f = #[] := fun f => by simp
        rw [hr0, hr0]
      · simp only [if_neg hn0, Sem.run_bind, hzero, Sem.run_pure, Result.andThen_ok, newRow, run_newObj]
    rw [Sem.run_bind, hms]
    rfl
  · have hlr : (List.replicate (n : Int).toNat z).length = n := by simp
    refine K _ _ (some ⟨w.heap.size, 0, none⟩) (sing w.heap.size (.cells ((Array.range (n * se.size)).map (se.zero.cells[· % se.zero.cells.size]!)) el (0, 0))) (by rw [hlr]; exact hA.put hd (.slice (some ⟨w.heap.size, 0, none⟩) n n)) (hS.alloc _) (.inr ⟨w.heap.size, _, rfl, rfl, by rw [hn, hlr]; simp, by simp, by rw [hlr]; exact h1, ?_⟩) rfl
    intro j x hj
    have hjn : j < n := by
      have := (List.getElem?_eq_some_iff.1 hj).1
      simpa using this
    have hxz : x = z := by
      rw [Int.toNat_natCast, List.getElem?_replicate] at hj
      rw [if_pos hjn] at hj
      injection hj with hj; exact hj.symm
    subst hxz
    refine ⟨vcells se.zero, hz H, fun m v hv => ?_⟩
    have hm : m < e.n := by rw [← hzl]; exact (List.getElem?_eq_some_iff.1 hv).1
    rw [hn]
    have hlt : j * e.n + m < n * e.n := by
      have : (j + 1) * e.n ≤ n * e.n := Nat.mul_le_mul_right _ (by omega)
      rw [Nat.add_mul] at this
      omega
    refine range_mod se.zero.cells n e.n hzc _ v (by omega) ?_
    rw [show 0 + j * e.n + m = m + e.n * j from by rw [Nat.mul_comm]; omega, Nat.add_mul_mod_self_left, Nat.mod_eq_of_lt hm]
    rw [← vcells_eq] at hv
    simpa using hv

end
end Go.RL
