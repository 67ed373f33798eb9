/- A program logic over the model's machine, part 4: quiet steps, pieces of memory, loops, calls.
   Part of the proof of Rows.RegsFlowsSaid of the program 'recoup'. -/
import Derived.Test.YtoaimimdfddidaaLb3
set_option linter.unusedVariables false
set_option linter.unusedSimpArgs false
set_option linter.unusedSectionVars false
namespace Go.RL

/-! ### what a call of a function that changes nothing leaves -/
structure Ext (w0 : World) (H H' : PHeap) : Prop where
  le : PHeap.le H H'
  fresh : ∀ b, H' b ≠ none → H b ≠ none ∨ w0.heap.size ≤ b
theorem Ext.refl (w0 : World) (H : PHeap) : Ext w0 H H := ⟨PHeap.le.refl H, fun _ h => .inl h⟩
theorem Ext.trans {w0 : World} {H H' H'' : PHeap} (h : Ext w0 H H') (k : Ext w0 H' H'') : Ext w0 H H'' :=
  ⟨h.le.trans k.le, fun b hb => (k.fresh b hb).elim (h.fresh b) .inr⟩
theorem Ext.later {w0 w : World} {H H' H'' : PHeap} (h : Ext w0 H H') (hs : w0.heap.size ≤ w.heap.size) (k : Ext w H' H'') : Ext w0 H H'' :=
  ⟨h.le.trans k.le, fun b hb => (k.fresh b hb).elim (h.fresh b) fun q => .inr (Nat.le_trans hs q)⟩

section
variable {X : Nat → Prop} {w0 w w' : World} {H H' H1 : PHeap} {L L' ps : List Piece}

theorem St.ext (hS : St noX w0 w H L) {i : Nat} {p : Piece} (h : L[i]? = some p) : Ext w0 H (H.with p) := by
  refine ⟨PHeap.with_le fun g o e => (hS.own p (List.mem_of_getElem? h) g o e).2.1, fun b hb => ?_⟩
  cases hp : p b with
  | none => simp only [PHeap.with, hp] at hb; exact .inl hb
  | some o => exact .inr ((hS.own _ (List.mem_of_getElem? h) b o hp).2.2.resolve_right (fun q => q))

theorem St.callL (hS : St X w0 w H L) (hR : St noX w w' H1 ps) (hle : PHeap.le H H1) : St X w0 w' H (ps ++ L) := by
  refine ⟨hS.ev.trans hR.ev, fun b hb hx => ?_, fun b o h => hR.imm b o (hle b o h), fun p hp g o e => ?_, ?_⟩
  · have := hS.ev.size
    exact (hR.old b (by omega) (fun q => q)).trans (hS.old b hb hx)
  · rcases List.mem_append.1 hp with hp | hp
    · obtain ⟨h1, h2, h3⟩ := hR.own p hp g o e
      have h3' : w.heap.size ≤ g := h3.resolve_right (fun q => q)
      refine ⟨h1, ?_, .inl (Nat.le_trans hS.ev.size h3')⟩
      cases hh : H g with
      | none => rfl
      | some u => rw [hle g u hh] at h2; cases h2
    · obtain ⟨h1, h2, h3⟩ := hS.own p hp g o e
      exact ⟨(hR.old g (lt_of_some h1) (fun q => q)).trans h1, h2, h3⟩
  · rw [List.pairwise_append]
    refine ⟨hR.apart, hS.apart, fun p hp q hq g o o' e e' => ?_⟩
    have h1 := (hR.own p hp g o e).2.2.resolve_right (fun q => q)
    have h2 := lt_of_some (hS.own q hq g o' e').1
    omega

theorem St.callX (hS : St X w0 w H L) (hR : St noX w w' H' ps) (hX : Ext w H H') : St X w0 w' H' (ps ++ L) := by
  have h0 := hS.callL hR hX.le
  refine ⟨h0.ev, h0.old, hR.imm, fun p hp g o e => ?_, h0.apart⟩
  obtain ⟨h1, _, h3⟩ := h0.own p hp g o e
  refine ⟨h1, ?_, h3⟩
  rcases List.mem_append.1 hp with hp | hp
  · exact (hR.own p hp g o e).2.1
  · obtain ⟨q1, q2, _⟩ := hS.own p hp g o e
    cases hh : H' g with
    | none => rfl
    | some u =>
      exfalso
      rcases hX.fresh g (by rw [hh]; exact nofun) with q | q
      · exact q q2
      · have := lt_of_some q1
        omega
end

/-! ### boxes -/
def Bx (p : Piece) (g : Nat) (T : TypeId) (cs : List Value) : Prop := p = sing g (.cells cs.toArray T (0, 0))

def ldv (e : TE) (cs : List Value) (off : Nat) : Option Value :=
  match e.tk.isAgg with
  | true => bif Nat.ble (off + e.size) cs.length then some (.agg ((cs.drop off).take e.size).toArray) else none
  | false => cs[off]?

section
variable {P : Program} {tab : List (Nat × TE)} {ops : Array Oper} {Q : Exit → Act → World → Prop} {a : Act} {w w0 : World} {rest : List Oper} {c : Cfg} {l : List (Nat × Value)}
variable {X : Nat → Prop} {H : PHeap} {L : List Piece} {ty : TypeId} {pos : String} {after : Array Edge} {gu : Option (Nat × Bool)}

theorem o_alloc {d T : Nat} {e : TE} (hT : TabOK P tab) (hA : Fr c a l) (hS : St X w0 w H L) (ht : tk T tab = some e) (hd : Nat.blt d c.1 = true)
    (hw : gd ops l ⟨some d, .alloc T, ty, pos, after, gu⟩ = some true)
    (K : ∀ a w g p, Fr c a ((d, .pointer (some ⟨g, 0, none⟩)) :: l) → St X w0 w H (p :: L) → Bx p g T (vcells e.zero) → wpList P ops Q rest a w) :
    wpList P ops Q (⟨some d, .alloc T, ty, pos, after, gu⟩ :: rest) a w := by
  refine stepv (v := .pointer (some ⟨w.heap.size, 0, none⟩)) (gd_spec hA hw) ?_ (K _ _ _ _ (hA.put hd _) (hS.alloc _) rfl)
  simp [execOp, Instr.alloc, run_zero (hT T e ht), newVar, newRow, ← vcells_eq]

theorem o_box {d T : Nat} {x : Operand} {v : Value} (hA : Fr c a l) (hS : St X w0 w H L) (hx : ev l x = some v) (hd : Nat.blt d c.1 = true)
    (hw : gd ops l ⟨some d, .box T x, ty, pos, after, gu⟩ = some true)
    (K : ∀ a w g p, Fr c a ((d, .pointer (some ⟨g, 0, none⟩)) :: l) → St X w0 w H (p :: L) → Bx p g T (vcells v) → wpList P ops Q rest a w) :
    wpList P ops Q (⟨some d, .box T x, ty, pos, after, gu⟩ :: rest) a w := by
  refine stepv (v := .pointer (some ⟨w.heap.size, 0, none⟩)) (gd_spec hA hw) ?_ (K _ _ _ _ (hA.put hd _) (hS.alloc _) rfl)
  simp [execOp, Instr.box, hA.eval hx, newVar, newRow, ← vcells_eq]

theorem add_eq (g off n : Nat) : (Addr.mk g off none).add n = ⟨g, off + n, none⟩ := by
  unfold Addr.add
  split
  · rename_i h; subst h; rfl
  · rfl

/-- loading cells that are known -/
theorem run_loadFrom {g off : Nat} : ∀ (n i : Nat) (acc : Array Value) (cs : List Value), cs.length = n → (∀ j v, cs[j]? = some v → w.cell? ⟨g, off + (i + j), none⟩ = some v) →
    (loadCellsFrom ⟨g, off, none⟩ i n acc).run P w = .ok (acc ++ cs.toArray) w
  | 0, i, acc, cs, hl, hc => by
    have : cs = [] := List.eq_nil_of_length_eq_zero hl
    subst this
    simp [loadCellsFrom]
  | n + 1, i, acc, [], hl, hc => by cases hl
  | n + 1, i, acc, v :: cs, hl, hc => by
    have h0 := hc 0 v rfl
    have ih := run_loadFrom n (i + 1) (acc.push v) cs (by simpa using hl) (fun j u hu => by
      have := hc (j + 1) u (by simpa using hu)
      rw [show i + 1 + j = i + (j + 1) from by omega]; exact this)
    simp only [Nat.add_zero] at h0
    simp [loadCellsFrom, add_eq, h0, ih]

theorem run_loadVar {g off T : Nat} {e : TE} (hT : TOK P T e) {cs : List Value} (hl : cs.length = e.size) (hc : ∀ j v, cs[j]? = some v → w.cell? ⟨g, off + j, none⟩ = some v) {v : Value}
    (hv : (match e.tk.isAgg with | true => some (.agg cs.toArray) | false => cs[0]?) = some v) : (loadVar T ⟨g, off, none⟩).run P w = .ok v w := by
  cases ha : e.tk.isAgg with
  | true =>
    rw [ha] at hv
    injection hv with hv
    subst hv
    have := run_loadFrom (P := P) (w := w) (g := g) (off := off) e.size 0 #[] cs hl (fun j v h => by simpa using hc j v h)
    simp [loadVar, run_isAgg hT, run_size hT, ha, loadCells, this]
  | false =>
    rw [ha] at hv
    have := hc 0 v hv
    simp at this
    simp [loadVar, run_isAgg hT, ha, this]

theorem ldv_spec {e : TE} {cs : List Value} {off : Nat} {v : Value} (h : ldv e cs off = some v) (h1 : e.tk.isAgg = false → e.size = 1) :
    ((cs.drop off).take e.size).length = e.size ∧ (match e.tk.isAgg with | true => some (.agg ((cs.drop off).take e.size).toArray) | false => ((cs.drop off).take e.size)[0]?) = some v := by
  unfold ldv at h
  split at h
  · rename_i ha
    cases hb : Nat.ble (off + e.size) cs.length with
    | false => rw [hb] at h; cases h
    | true =>
      rw [hb] at h
      have := Nat.le_of_ble_eq_true hb
      exact ⟨by simp; omega, h⟩
  · rename_i ha
    have hs := h1 ha
    rw [hs]
    have hlt : off < cs.length := (List.getElem?_eq_some_iff.1 h).1
    refine ⟨by simp; omega, ?_⟩
    simp [List.getElem?_take, h]

def TE.one (e : TE) : Bool := match e.tk.isAgg with | true => true | false => Nat.beq e.size 1
theorem TE.one_spec {e : TE} (h : e.one = true) (ha : e.tk.isAgg = false) : e.size = 1 := by
  unfold TE.one at h
  rw [ha] at h
  exact Nat.eq_of_beq_eq_true h

theorem o_ld {d T g off i : Nat} {x : Operand} {p : Piece} {T' : TypeId} {cs : List Value} {e : TE} {v : Value} (hT : TabOK P tab) (hA : Fr c a l) (hS : St X w0 w H L)
    (hb : Bx p g T' cs) (hx : ev l x = some (.pointer (some ⟨g, off, none⟩))) (hp : L[i]? = some p) (ht : tk T tab = some e) (h1 : e.one = true)
    (hv : ldv e cs off = some v) (hd : Nat.blt d c.1 = true) (hw : gd ops l ⟨some d, .load T x, ty, pos, after, gu⟩ = some true)
    (K : ∀ a, Fr c a ((d, v) :: l) → wpList P ops Q rest a w) :
    wpList P ops Q (⟨some d, .load T x, ty, pos, after, gu⟩ :: rest) a w := by
  refine stepv (gd_spec hA hw) ?_ (K _ (hA.put hd v))
  obtain ⟨q1, q2⟩ := ldv_spec hv (fun ha => TE.one_spec h1 ha)
  unfold Bx at hb
  subst hb
  have hg := hS.get hp sing_get
  have := run_loadVar (P := P) (w := w) (g := g) (off := off) (hT T e ht) q1 (fun j u hu => by
    rw [cell_of hg]
    have hj : j < e.size := by rw [← q1]; exact (List.getElem?_eq_some_iff.1 hu).1
    simpa [List.getElem?_take, hj] using hu) q2
  simp [execOp, Instr.loadAt, Instr.sureAddr, hA.eval hx, this]

/-- storing cells -/
theorem run_stores {g : Nat} {T : TypeId} {i : Nat} : ∀ (vs : List Value) {w : World} {L : List Piece} {p : Piece} (cs : List Value) (off k : Nat), i < L.length → St X w0 w H L → L[i]? = some p → p g = some (.cells cs.toArray T (0, 0)) →
    off + k + vs.length ≤ cs.length → (∀ v ∈ vs, v.oneCell' = true) →
    ∃ w', (storeCells ⟨g, off, none⟩ vs k).run P w = .ok () w' ∧ St X w0 w' H (L.set i (p.upd g (.cells (stv cs (off + k) vs).toArray T (0, 0))))
  | [], w, L, p, cs, off, k, hi, hS, hp, hpg, hl, h1 => by
    refine ⟨w, by simp [storeCells], ?_⟩
    have : L.set i (p.upd g (.cells (stv cs (off + k) []).toArray T (0, 0))) = L := by
      have hup : p.upd g (.cells (stv cs (off + k) []).toArray T (0, 0)) = p := by
        funext b
        by_cases hb : b = g
        · subst hb; rw [upd_get]; exact hpg.symm
        · rw [upd_ne hb]
      rw [hup]
      apply List.ext_getElem?
      intro j
      rw [List.getElem?_set]
      split
      · rename_i e; subst e
        simp [hi, hp]
        have := hp
        rw [List.getElem?_eq_getElem hi] at this
        injection this with this
        exact this.symm
      · rfl
    rw [this]
    exact hS
  | v :: vs, w, L, p, cs, off, k, hi, hS, hp, hpg, hl, h1 => by
    have hg := hS.get hp hpg
    have hlt : off + k < cs.length := by simp at hl; omega
    have hS1 := hS.set1 (off := off + k) hp hpg v
    have harr : (cs.toArray.setIfInBounds (off + k) v) = (cs.set (off + k) v).toArray := by simp
    rw [harr] at hS1
    obtain ⟨w', r1, r2⟩ := run_stores (g := g) (T := T) (i := i) vs (cs.set (off + k) v) off (k + 1) (by simpa using hi) hS1 (by rw [List.getElem?_set]; simp [hi]) (p := p.upd g (.cells (cs.set (off + k) v).toArray T (0, 0))) upd_get (by simp at hl ⊢; omega) (fun u hu => h1 u (List.mem_cons_of_mem _ hu))
    refine ⟨w', ?_, ?_⟩
    · have hcell : w.cell? ⟨g, off + k, none⟩ = some cs[off + k] := by rw [cell_of hg]; simp [hlt]
      have hfr : w.frozen? ⟨g, off + k, none⟩ = false := frozen_of hg
      simp [storeCells, add_eq, run_store P w _ v .plain (h1 v (List.mem_cons_self ..)), hcell, hfr, r1]
    · rw [List.set_set] at r2
      have hupp : ∀ o o' : Obj, (PHeap.upd p g o).upd g o' = PHeap.upd p g o' := by
        intro o o'
        funext b
        by_cases hb : b = g
        · subst hb; rw [upd_get, upd_get]
        · rw [upd_ne hb, upd_ne hb, upd_ne hb]
      rw [hupp] at r2
      exact r2

theorem o_st {T g off i : Nat} {x y : Operand} {p : Piece} {T' : TypeId} {cs : List Value} {e : TE} {v : Value} {ds : Option Nat} (hT : TabOK P tab) (hA : Fr c a l) (hS : St X w0 w H L)
    (hb : Bx p g T' cs) (hx : ev l x = some (.pointer (some ⟨g, off, none⟩))) (hy : ev l y = some v) (hp : L[i]? = some p) (ht : tk T tab = some e)
    (hsz : (vcells v).length = e.size) (hone : (vcells v).all Value.oneCell' = true) (hle : Nat.ble (off + e.size) cs.length = true) (hds : ds = none)
    (hw : gd ops l ⟨ds, .store T x y, ty, pos, after, gu⟩ = some true)
    (K : ∀ w p, St X w0 w H (L.set i p) → Bx p g T' (stv cs off (vcells v)) → wpList P ops Q rest a w) :
    wpList P ops Q (⟨ds, .store T x y, ty, pos, after, gu⟩ :: rest) a w := by
  subst hds
  unfold Bx at hb
  subst hb
  have hi : i < L.length := (List.getElem?_eq_some_iff.1 hp).1
  obtain ⟨w', r1, r2⟩ := run_stores (P := P) (i := i) (vcells v) cs off 0 hi hS hp sing_get (by have := Nat.le_of_ble_eq_true hle; omega) (by simpa using hone)
  rw [upd_sing] at r2
  refine steps (gd_spec hA hw) (w' := w') ?_ (K w' _ r2 rfl)
  have hsz' : v.cells.size = e.size := by rw [← hsz, ← vcells_eq]; simp
  simp [execOp, Instr.storeAt, Instr.sureAddr, hA.eval hx, hA.eval hy, storeVar, run_size (hT T e ht), hsz', vcells_eq, r1]
end
end Go.RL
