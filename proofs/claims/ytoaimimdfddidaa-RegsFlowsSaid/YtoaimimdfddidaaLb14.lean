/- A program logic over the model's machine, part 14: quiet steps, pieces of memory, loops, calls.
   Part of the proof of Rows.RegsFlowsSaid of the program 'recoup'. -/
import Derived.Test.YtoaimimdfddidaaLb13
import Derived.Laws.BytesArg
set_option linter.unusedVariables false
set_option linter.unusedSimpArgs false
set_option linter.unusedSectionVars false
namespace Go.RL

/-! ### bytes as strings -/
def toS (xs : List Int) : ByteArray := xs.foldl (fun r n => r.push (UInt8.ofNat n.toNat)) ByteArray.empty
def inB (xs : List Int) : Prop := ∀ x ∈ xs, inR .u8 x

theorem toS_list (xs : List Int) : (toS xs).toList = xs.map (fun n => UInt8.ofNat n.toNat) := by
  rw [ByteArray.toList_eq, toS, foldl_push_bytes]
  simp [ByteArray.empty, ByteArray.emptyWithCapacity]
  rfl

theorem toS_inj {xs ys : List Int} (hx : inB xs) (hy : inB ys) : ((toS xs).toList == (toS ys).toList) = decide (xs = ys) := by
  rw [toS_list, toS_list]
  by_cases h : xs = ys
  · subst h
    simp
  · have : ¬ (xs.map (fun n => UInt8.ofNat n.toNat) = ys.map (fun n => UInt8.ofNat n.toNat)) := by
      intro he
      apply h
      clear h
      induction xs generalizing ys with
      | nil => cases ys with
        | nil => rfl
        | cons y ys => simp at he
      | cons x xs ih =>
        cases ys with
        | nil => simp at he
        | cons y ys =>
          simp only [List.map_cons, List.cons.injEq] at he
          have h1 := inR_u8 (hx x (List.mem_cons_self ..))
          have h2 := inR_u8 (hy y (List.mem_cons_self ..))
          have h3 : x.toNat = y.toNat := by
            have := congrArg UInt8.toNat he.1
            rw [UInt8.toNat_ofNat', UInt8.toNat_ofNat'] at this
            omega
          have h4 : x = y := by omega
          rw [h4, ih (fun z hz => hx z (List.mem_cons_of_mem _ hz)) (fun z hz => hy z (List.mem_cons_of_mem _ hz)) he.2]
    simp [h, this]

section
variable {P : Program} {tab : List (Nat × TE)} {ops : Array Oper} {Q : Exit → Act → World → Prop} {a : Act} {w w0 : World} {rest : List Oper} {c : Cfg} {l : List (Nat × Value)}
variable {X : Nat → Prop} {H : PHeap} {L : List Piece} {ty : TypeId} {pos : String} {after : Array Edge} {gu : Option (Nat × Bool)}
variable {xs ys : List Int} {A : Option Addr} {cp : Nat} {b : Nat}

theorem RdS.inB (h : RdS (eInt .u8 b) H A cp xs) : inB xs := by
  rcases h.2.2 with rfl | ⟨g, off, arr, T, fz, rfl, q2, q3⟩
  · intro x hx; cases hx
  · intro x hx
    obtain ⟨i, hi, hxi⟩ := List.getElem_of_mem hx
    obtain ⟨cs, ⟨_, r1⟩, _⟩ := q3 i x (by rw [List.getElem?_eq_getElem hi, hxi])
    exact r1

theorem TOK.str {t : Nat} {e : TE} (h : TOK P t e) (hk : e.tk = .str) : P.underlying t = some .string := by
  obtain ⟨d, h1, h2⟩ := h.desc
  rw [hk] at h2
  cases d <;> simp [absD] at h2
  exact h1

theorem o_b2s {d T1 T2 el : Nat} {x : Operand} {te te2 se : TE} (hT : TabOK P tab) (hA : Fr c a l) (hS : St X w0 w H L) (hr : RdS (eInt .u8 b) H A cp xs) (hx : ev l x = some (.slice A xs.length cp))
    (ht : tk T1 tab = some te) (hk : te.tk = .slice el) (hse : tk el tab = some se) (hsk : se.tk = .int .u8) (ht2 : tk T2 tab = some te2) (hk2 : te2.tk = .str) (hd : Nat.blt d c.1 = true)
    (hw : gd ops l ⟨some d, .convert T1 T2 x, ty, pos, after, gu⟩ = some true)
    (K : ∀ a, Fr c a ((d, .string (toS xs)) :: l) → wpList P ops Q rest a w) :
    wpList P ops Q (⟨some d, .convert T1 T2 x, ty, pos, after, gu⟩ :: rest) a w := by
  have h1 := (hT _ _ ht).slice hk
  have h2 := (hT _ _ hse).int hsk
  have h3 := (hT _ _ ht2).str hk2
  have key : (convert T1 T2 (.slice A xs.length cp)).run P w = .ok (.string (toS xs)) w := by
    rcases hr.2.2 with rfl | ⟨g, off, arr, T, fz, rfl, q2, q3⟩
    · cases A with
      | none => exact run_convert_bytes_nil (w := w) T1 el h1 h2 _ _ T2 h3
      | some ad =>
        rw [run_convert_bytes_string w T1 T2 el _ _ _ h1 h2 h3, run_bytesToString w ad _ _ [] (by simp [loadCells, loadCellsFrom])]
        rfl
    · rw [run_convert_bytes_string w T1 T2 el _ _ _ h1 h2 h3, run_bytesToString w _ _ _ xs ?_]
      · rfl
      · have := run_loadFrom (P := P) (w := w) (g := g) (off := off) xs.length 0 #[] (xs.map (Value.int .u8)) (by simp) (fun j v hv => by
          rw [cell_of (hS.imm _ _ q2)]
          rw [List.getElem?_map] at hv
          cases hxj : xs[j]? with
          | none => rw [hxj] at hv; cases hv
          | some x0 =>
            rw [hxj] at hv
            injection hv with hv
            subst hv
            obtain ⟨cs, ⟨rfl, _⟩, r2⟩ := q3 j x0 hxj
            have := r2 0 _ rfl
            simpa [eInt] using this)
        simpa [loadCells] using this
  refine stepv (w' := w) (gd_spec hA hw) ?_ (K _ (hA.put hd _))
  simp [execOp, hA.eval hx, key]

theorem o_eqStr {d : Nat} {neg : Bool} {t yt : TypeId} {x y : Operand} (hA : Fr c a l) (hbx : inB xs) (hby : inB ys)
    (hx : ev l x = some (.string (toS xs))) (hy : ev l y = some (.string (toS ys))) (hd : Nat.blt d c.1 = true)
    (hw : gd ops l ⟨some d, .binOp (bif neg then .neq else .eql) t x y yt, ty, pos, after, gu⟩ = some true)
    (K : ∀ a, Fr c a ((d, .bool (bif neg then !decide (xs = ys) else decide (xs = ys))) :: l) → wpList P ops Q rest a w) :
    wpList P ops Q (⟨some d, .binOp (bif neg then .neq else .eql) t x y yt, ty, pos, after, gu⟩ :: rest) a w := by
  refine stepv (w' := w) (gd_spec hA hw) ?_ (K _ (hA.put hd _))
  have h := toS_inj hbx hby
  cases neg
  · simp only [execOp, cond_false, hA.eval hx, hA.eval hy, eqGuard, binOp, Op.stringOp, h]
    simp
  · simp only [execOp, cond_true, hA.eval hx, hA.eval hy, eqGuard, binOp, Op.stringOp, h]
    simp
end
end Go.RL
