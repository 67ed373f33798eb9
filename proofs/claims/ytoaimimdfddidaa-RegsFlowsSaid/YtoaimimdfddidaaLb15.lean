/- A program logic over the model's machine, part 15: quiet steps, pieces of memory, loops, calls.
   Part of the proof of Rows.RegsFlowsSaid of the program 'recoup'. -/
import Derived.Test.YtoaimimdfddidaaLb14
set_option linter.unusedVariables false
set_option linter.unusedSimpArgs false
set_option linter.unusedSectionVars false
namespace Go.RL

section
variable {P : Program} {tab : List (Nat × TE)} {ops : Array Oper} {Q : Exit → Act → World → Prop} {a : Act} {w w0 : World} {rest : List Oper} {c : Cfg} {l : List (Nat × Value)}
variable {X : Nat → Prop} {H : PHeap} {L : List Piece} {ty : TypeId} {pos : String} {after : Array Edge} {gu : Option (Nat × Bool)}
variable {α : Type} {e : ET α} {xs ys zs : List α} {A : Option Addr} {cp : Nat} {p : Piece} {Tb : TypeId}
theorem o_makeC {d T el : Nat} {x y : Operand} {te se : TE} {k k' : IntKind} {i : Int} {z : α} (hT : TabOK P tab) (hA : Fr c a l) (hS : St X w0 w H L)
    (hm : mk e.bytes i z = some zs) (hx : ev l x = some (.int k 0)) (hy : ev l y = some (.int k' i))
    (ht : tk T tab = some te) (hk : te.tk = .slice el) (hse : tk el tab = some se) (hn : se.size = e.n) (hb : se.bytes = e.bytes) (hz : ∀ h, e.rd h (vcells se.zero) z)
    (hpos : Nat.blt 0 se.bytes = true) (hd : Nat.blt d c.1 = true)
    (hw : gd ops l ⟨some d, .makeSlice T x y, ty, pos, after, gu⟩ = some true)
    (K : ∀ a w A p, Fr c a ((d, .slice A 0 zs.length) :: l) → St X w0 w H (p :: L) → OwnS e el H A zs.length ([] : List α) p → A.isNone = false → wpList P ops Q rest a w) :
    wpList P ops Q (⟨some d, .makeSlice T x y, ty, pos, after, gu⟩ :: rest) a w := by
  obtain ⟨h0, h1, rfl⟩ := mk_some hm
  obtain ⟨n, rfl⟩ := Int.eq_ofNat_of_zero_le h0
  simp only [Int.toNat_natCast] at h1
  have hu := (hT T te ht).slice hk
  obtain ⟨ti, hi, hiz, his, hib⟩ := (hT el se hse).get
  have hti : ∀ w1 : World, (typeInfo el).run P w1 = .ok ti w1 := fun w1 => by simp [typeInfo, hi]
  have hzero : ∀ w1 : World, (zeroValue el).run P w1 = .ok se.zero w1 := fun w1 => run_zero (hT el se hse) w1
  have hsize : ∀ w1 : World, (sizeOf el).run P w1 = .ok se.size w1 := fun w1 => run_size (hT el se hse) w1
  have hpos' : 0 < se.bytes := Nat.le_of_ble_eq_true hpos
  have hzl := e.len (hz H)
  have hzc : se.zero.cells.size = e.n := by rw [← hzl, ← vcells_eq]; simp
  have hnb : n * ti.bytes ≤ lim := by rw [hib, hb]; exact h1
  have hn62 : n ≤ lim := by
    have : n * 1 ≤ n * ti.bytes := Nat.mul_le_mul_left _ (by rw [hib]; omega)
    omega
  have hwrap : IntKind.i64.wrap (n : Int) = n := by
    simp only [lim] at hn62
    simp [IntKind.wrap, IntKind.signed, IntKind.bits]
    omega
  have hbig : ¬ ((2 : Int) ^ 48 < (ti.bytes : Int) * n) := by
    have : ((n * ti.bytes : Nat) : Int) ≤ (lim : Int) := by exact_mod_cast hnb
    simp only [lim] at this
    rw [Int.natCast_mul, Int.mul_comm] at this
    have h2 : ((140737488355328 : Nat) : Int) = 140737488355328 := rfl
    omega
  have hbig' : ¬ ((ti.bytes : Int) * n > 2 ^ 48) := hbig
  refine stepv (v := .slice (some ⟨w.heap.size, 0, none⟩) 0 n) (w' := { w with heap := w.heap.push (.cells ((Array.range (n * se.size)).map (se.zero.cells[· % se.zero.cells.size]!)) el (0, 0)) }) (gd_spec hA hw) ?_ ?_
  · simp only [execOp, hA.eval hx, hA.eval hy]
    have hms : (Instr.makeSlice T (.int k 0) (.int k' (n : Int))).run P w = .ok (.slice (some ⟨w.heap.size, 0, none⟩) 0 n) { w with heap := w.heap.push (.cells ((Array.range (n * se.size)).map (se.zero.cells[· % se.zero.cells.size]!)) el (0, 0)) } := by
      have hl0 : ¬ ((n : Int) < 0) := by omega
      have hw0 : IntKind.i64.wrap 0 = 0 := by decide
      have htl : (decide ((0 : Int) < 0) || decide ((ti.bytes : Int) * 0 > 2 ^ 48)) = false := by simp
      have hgt : decide ((0 : Int) > n) = false := by simp
      have hbg : decide ((ti.bytes : Int) * n > 2 ^ 48) = false := decide_eq_false hbig'
      simp only [Instr.makeSlice, Sem.run_bind, run_und hu, Result.andThen_ok, asInt, asIntOf, Sem.run_pure, hti, hwrap, hw0, htl]
      have h00 : decide ((0 : Int) < 0) = false := rfl
      simp only [decide_eq_false hl0, hgt, hbg, h00, Bool.or_self, Bool.false_or, Bool.or_false, Bool.false_eq_true, if_false, Sem.run_bind, run_askRoom, Result.andThen_ok, hsize, Int.toNat_natCast, Int.toNat_zero]
      by_cases hn0 : n * se.size = 0
      · simp only [hn0, if_true, Sem.run_pure, Result.andThen_ok, Sem.run_bind, newRow, run_newObj]
        have hr0 : ∀ f : Nat → Value, (Array.range 0).map f = #[] := fun f => by simp
        rw [hr0, hr0]
      · simp only [if_neg hn0, Sem.run_bind, hzero, Sem.run_pure, Result.andThen_ok, newRow, run_newObj]
    rw [Sem.run_bind, hms]
    rfl
  · have hlr : (List.replicate (n : Int).toNat z).length = n := by simp
    refine K _ _ (some ⟨w.heap.size, 0, none⟩) (sing w.heap.size (.cells ((Array.range (n * se.size)).map (se.zero.cells[· % se.zero.cells.size]!)) el (0, 0))) (by rw [hlr]; exact hA.put hd (.slice (some ⟨w.heap.size, 0, none⟩) 0 n)) (hS.alloc _) (.inr ⟨w.heap.size, _, rfl, rfl, by rw [hn, hlr]; simp, Nat.zero_le _, by simp [lim], Cells.nil⟩) rfl
end
end Go.RL
