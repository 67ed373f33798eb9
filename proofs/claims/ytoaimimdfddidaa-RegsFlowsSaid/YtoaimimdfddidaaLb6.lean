/- A program logic over the model's machine, part 6: quiet steps, pieces of memory, loops, calls.
   Part of the proof of Rows.RegsFlowsSaid of the program 'recoup'. -/
import Derived.Test.YtoaimimdfddidaaLb5
set_option linter.unusedVariables false
set_option linter.unusedSimpArgs false
set_option linter.unusedSectionVars false
namespace Go.RL

/-! ### append, make, slice literals, slicing -/
def SrcOK {α : Type} (e : ET α) (H : PHeap) (w : World) (A : Option Addr) (xs : List α) : Prop :=
  xs = [] ∨ ∃ g off arr T fz, A = some ⟨g, off, none⟩ ∧ w.heap[g]? = some (.cells arr T fz) ∧ Cells e H arr off xs

section
variable {P : Program} {tab : List (Nat × TE)} {ops : Array Oper} {Q : Exit → Act → World → Prop} {a : Act} {w w0 : World} {rest : List Oper} {c : Cfg} {l : List (Nat × Value)}
variable {X : Nat → Prop} {H : PHeap} {L : List Piece} {ty : TypeId} {pos : String} {after : Array Edge} {gu : Option (Nat × Bool)}
variable {α : Type} {e : ET α} {xs ys : List α} {A : Option Addr} {cp : Nat} {p : Piece} {Tb : TypeId}

theorem RdS.src (h : RdS e H A cp xs) (hS : St X w0 w H L) : SrcOK e H w A xs := by
  obtain ⟨_, _, h3⟩ := h
  refine h3.imp id ?_
  rintro ⟨g, off, arr, T, fz, q1, q2, q3⟩
  exact ⟨g, off, arr, T, fz, q1, hS.imm _ _ q2, q3⟩
theorem OwnS.src {i : Nat} (h : OwnS e Tb H A cp xs p) (hS : St X w0 w H L) (hp : L[i]? = some p) : SrcOK e H w A xs := by
  rcases h with ⟨_, rfl, _⟩ | ⟨g, arr, q1, rfl, _, _, _, q6⟩
  · exact .inl rfl
  · exact .inr ⟨g, 0, arr, Tb, (0, 0), q1, hS.get hp sing_get, q6⟩

/-- the cells of a list of elements -/
theorem Cells.flat {arr : Array Value} {off : Nat} (h : Cells e H arr off xs) : ∃ fs : List (List Value), fs.length = xs.length ∧ fs.flatten.length = xs.length * e.n ∧
    (∀ (i : Nat) x cs, xs[i]? = some x → fs[i]? = some cs → e.rd H cs x) ∧ (∀ j v, fs.flatten[j]? = some v → arr[off + j]? = some v) ∧ ∀ v ∈ fs.flatten, v.oneCell' = true := by
  induction xs generalizing off with
  | nil => exact ⟨[], rfl, by simp, fun i x cs h => by simp at h, fun j v h => by simp at h, fun v h => by simp at h⟩
  | cons x xs ih =>
    have h' : Cells e H arr (off + e.n) xs := fun i y hy => by
      obtain ⟨cs, h1, h2⟩ := h (i + 1) y (by simpa using hy)
      refine ⟨cs, h1, fun j v hv => ?_⟩
      have := h2 j v hv
      rw [Nat.add_mul] at this
      rw [show off + e.n + i * e.n + j = off + (i * e.n + 1 * e.n) + j from by omega]
      exact this
    obtain ⟨fs, f1, f2, f3, f4, f5⟩ := ih h'
    obtain ⟨cs, h1, h2⟩ := h 0 x rfl
    have hl := e.len h1
    refine ⟨cs :: fs, by simp [f1], by simp [f2, hl, Nat.add_mul]; omega, fun i y ds hy hds => ?_, fun j v hv => ?_, fun v hv => ?_⟩
    · cases i with
      | zero => simp at hy hds; subst hy; subst hds; exact h1
      | succ i => exact f3 i y ds (by simpa using hy) (by simpa using hds)
    · simp only [List.flatten_cons] at hv
      rw [List.getElem?_append] at hv
      split at hv
      · have := h2 j v hv
        simpa using this
      · have := f4 _ v hv
        rw [show off + e.n + (j - cs.length) = off + j from by omega] at this
        exact this
    · simp only [List.flatten_cons, List.mem_append] at hv
      exact hv.elim (e.one h1 v) (f5 v)

theorem Cells.of_flat {fs : List (List Value)} {arr : Array Value} {off : Nat} (f1 : fs.length = xs.length) (f3 : ∀ (i : Nat) x cs, xs[i]? = some x → fs[i]? = some cs → e.rd H cs x)
    (f4 : ∀ j v, fs.flatten[j]? = some v → arr[off + j]? = some v) : Cells e H arr off xs := by
  induction xs generalizing off fs with
  | nil => exact Cells.nil
  | cons x xs ih =>
    match fs, f1 with
    | cs :: fs, f1 =>
      have h1 := f3 0 x cs rfl rfl
      have hl := e.len h1
      have ih' := ih (fs := fs) (off := off + e.n) (by simpa using f1) (fun i y ds hy hds => f3 (i + 1) y ds (by simpa using hy) (by simpa using hds))
        (fun j v hv => by
          have := f4 (cs.length + j) v (by simp [List.flatten_cons, List.getElem?_append, hv])
          rw [hl] at this
          rw [show off + e.n + j = off + (e.n + j) from by omega]
          exact this)
      intro i y hy
      cases i with
      | zero =>
        simp at hy
        subst hy
        refine ⟨cs, h1, fun j v hv => ?_⟩
        have hj : j < cs.length := (List.getElem?_eq_some_iff.1 hv).1
        have := f4 j v (by simp only [List.flatten_cons]; rw [List.getElem?_append_left hj]; exact hv)
        simpa using this
      | succ i =>
        obtain ⟨ds, d1, d2⟩ := ih' i y (by simpa using hy)
        refine ⟨ds, d1, fun j v hv => ?_⟩
        have := d2 j v hv
        rw [Nat.add_mul]
        rw [show off + (i * e.n + 1 * e.n) + j = off + e.n + i * e.n + j from by omega]
        exact this

theorem Cells.append {arr : Array Value} {off : Nat} (h : Cells e H arr off xs) (k : Cells e H arr (off + xs.length * e.n) ys) : Cells e H arr off (xs ++ ys) := by
  intro i x hx
  rw [List.getElem?_append] at hx
  split at hx
  · exact h i x hx
  · rename_i hge
    obtain ⟨cs, h1, h2⟩ := k _ x hx
    refine ⟨cs, h1, fun j v hv => ?_⟩
    have := h2 j v hv
    have e1 : i * e.n = xs.length * e.n + (i - xs.length) * e.n := by
      rw [← Nat.add_mul]; congr 1; omega
    rw [e1]
    rw [← Nat.add_assoc] 
    exact this

theorem Cells.ext {arr brr : Array Value} {off off' : Nat} (h : Cells e H arr off xs) (hq : ∀ j v, j < xs.length * e.n → arr[off + j]? = some v → brr[off' + j]? = some v) : Cells e H brr off' xs := by
  intro i x hx
  obtain ⟨cs, h1, h2⟩ := h i x hx
  refine ⟨cs, h1, fun j v hv => ?_⟩
  have hj : j < cs.length := (List.getElem?_eq_some_iff.1 hv).1
  rw [e.len h1] at hj
  have hi : i < xs.length := (List.getElem?_eq_some_iff.1 hx).1
  have : (i + 1) * e.n ≤ xs.length * e.n := Nat.mul_le_mul_right _ (by omega)
  rw [Nat.add_mul] at this
  have := hq (i * e.n + j) v (by omega) (by rw [← Nat.add_assoc]; exact h2 j v hv)
  rw [← Nat.add_assoc] at this
  exact this

theorem run_first {size : Nat} {g off : Nat} {fs : List Value} {m c' : Nat} (hl : fs.length = m * size) (hc : ∀ j v, fs[j]? = some v → w.cell? ⟨g, off + j, none⟩ = some v) :
    (Builtin.firstCells size m (.slice (some ⟨g, off, none⟩) m c')).run P w = .ok fs.toArray w := by
  have := run_loadFrom (P := P) (w := w) (g := g) (off := off) (m * size) 0 #[] fs hl (fun j v h => by simpa using hc j v h)
  simpa [Builtin.firstCells, loadCells] using this

theorem run_src {size : Nat} {A : Option Addr} {c' : Nat} (hs : SrcOK e H w A ys) (hn : size = e.n) : ∃ fs : List (List Value),
    (Builtin.firstCells size ys.length (.slice A ys.length c')).run P w = .ok fs.flatten.toArray w ∧ fs.length = ys.length ∧ fs.flatten.length = ys.length * e.n ∧
    (∀ (i : Nat) x cs, ys[i]? = some x → fs[i]? = some cs → e.rd H cs x) ∧ ∀ v ∈ fs.flatten, v.oneCell' = true := by
  subst hn
  rcases hs with rfl | ⟨g, off, arr, T, fz, rfl, q2, q3⟩
  · refine ⟨[], ?_, rfl, by simp, fun i x cs h => by simp at h, fun v h => by simp at h⟩
    cases A with
    | none => rfl
    | some ad => simp [Builtin.firstCells, loadCells, loadCellsFrom]
  · obtain ⟨fs, f1, f2, f3, f4, f5⟩ := q3.flat
    exact ⟨fs, run_first f2 (fun j v hv => by rw [cell_of q2]; exact f4 j v hv), f1, f2, f3, f5⟩

theorem oneCell_zero (n : Nat) (z : Array Value) : (Builtin.zeroCells z n).size = n * z.size := by simp [Builtin.zeroCells]

theorem grow_le : ∀ (rounds newLen c : Nat), newLen ≤ c + c → Builtin.growBy newLen rounds c ≤ 4 * c + 4 * 768 * rounds ∨ True := fun _ _ _ _ => .inr trivial

theorem growBy_le (newLen : Nat) : ∀ (r c B : Nat), c ≤ B → newLen ≤ B → Builtin.growBy newLen r c ≤ B + (B + 768) / 4
  | 0, c, B, h, _ => by simp [Builtin.growBy]; omega
  | r + 1, c, B, h, hn => by
    simp only [Builtin.growBy]
    split
    · omega
    · rename_i hlt
      by_cases hc : c + (c + 768) / 4 ≤ B
      · exact growBy_le newLen r _ B hc hn
      · -- the next round ends it
        cases r with
        | zero => simp [Builtin.growBy]; omega
        | succ r =>
          simp only [Builtin.growBy]
          rw [if_pos (by omega)]
          omega

theorem nextcap_le (need old : Nat) (h : old < need) : Builtin.nextslicecap need old ≤ 2 * need := by
  unfold Builtin.nextslicecap
  split
  · omega
  · split
    · omega
    · have := growBy_le need 4 old need (by omega) (Nat.le_refl _)
      omega

/-- append onto a slice of the call's own -/
theorem run_app {k T1 T2 : Nat} {te se : TE} (hT : TabOK P tab) (hS : St X w0 w H L) (hr : OwnS e Tb H A cp xs p) (hp : L[k]? = some p) {A2 : Option Addr} {c2 : Nat}
    (hs : SrcOK e H w A2 ys) (ht : tk T1 tab = some te) (hk : te.tk = .slice Tb) (hse : tk Tb tab = some se) (hn : se.size = e.n) (hb : se.bytes = e.bytes)
    (hz : (vcells se.zero).length = se.size) (hpos : 0 < se.bytes)
    {te2 : TE} (ht2 : tk T2 tab = some te2) (hk2 : te2.tk = .slice Tb) (hlim : (xs.length + ys.length) * e.bytes ≤ lim) :
    ∃ A' c' p' w', (Builtin.append_ #[T1, T2] ty #[.slice A xs.length cp, .slice A2 ys.length c2]).run P w = .ok (.slice A' (xs ++ ys).length c') w' ∧
      St X w0 w' H (L.set k p') ∧ OwnS e Tb H A' c' (xs ++ ys) p' ∧ (A.isNone = false → A'.isNone = false) := by
  have hu := (hT T1 te ht).slice hk
  have hu2 := (hT T2 te2 ht2).slice hk2
  obtain ⟨i, hi, hiz, his, hib⟩ := (hT Tb se hse).get
  have hsz : (sizeOf Tb).run P w = .ok e.n w := by rw [run_size (hT Tb se hse), hn]
  have hkL : k < L.length := (List.getElem?_eq_some_iff.1 hp).1
  obtain ⟨fs, r1, f1, f2, f3, f5⟩ := run_src (P := P) (size := e.n) (c' := c2) hs rfl
  have hlen : (xs ++ ys).length = xs.length + ys.length := List.length_append
  rw [hlen]
  by_cases hroom : xs.length + ys.length ≤ cp
  · -- room
    rcases hr with ⟨rfl, rfl, rfl⟩ | ⟨g, arr, rfl, rfl, q3, q4, q5, q6⟩
    · have hy : ys = [] := by
        simpa using hroom
      subst hy
      refine ⟨A, 0, emp, w, ?_, ?_, OwnS.nil, id⟩
      · simp only [List.length_nil] at r1
        have hfs : fs.flatten = [] := List.eq_nil_of_length_eq_zero (by simpa using f2)
        simp [Builtin.append_, run_und hu, run_und hu2, hsz, Builtin.lenOf, r1, hfs]
        cases A <;> simp [storeCells]
      · have : L.set k emp = L := by
          apply List.ext_getElem?
          intro j
          rw [List.getElem?_set]
          split
          · rename_i e1; subst e1; exact hp.symm
          · rfl
        rw [this]
        exact hS
    · have hfit : xs.length * e.n + ys.length * e.n ≤ cp * e.n := by rw [← Nat.add_mul]; exact Nat.mul_le_mul_right _ hroom
      obtain ⟨w', s1, s2⟩ := run_stores (P := P) (i := k) (g := g) (T := Tb) fs.flatten arr.toList (xs.length * e.n) 0 hkL hS hp (by rw [Array.toArray_toList]; exact sing_get) (by simp [q3, f2]; omega) f5
      rw [upd_sing] at s2
      refine ⟨some ⟨g, 0, none⟩, cp, _, w', ?_, s2, .inr ⟨g, _, rfl, rfl, ?_, by omega, by rw [hlen]; exact hlim, ?_⟩, fun _ => rfl⟩
      · simp [Builtin.append_, run_und hu, run_und hu2, hsz, Builtin.lenOf, r1, hroom, add_eq, s1]
      · simp [stv_length, q3]
      · have hfit' : xs.length * e.n + fs.flatten.length ≤ arr.toList.length := by simp [q3, f2]; omega
        refine Cells.append (q6.ext fun j v hj hv => ?_) (Cells.of_flat f1 f3 fun j v hv => ?_)
        · simp only [Nat.zero_add, Nat.add_zero, List.getElem?_toArray] at hv ⊢
          rw [stv_get _ _ _ _ hfit', if_neg (by omega)]
          simpa using hv
        · have hj : j < fs.flatten.length := (List.getElem?_eq_some_iff.1 hv).1
          simp only [Nat.zero_add, Nat.add_zero, List.getElem?_toArray]
          rw [stv_get _ _ _ _ hfit', if_pos (by omega)]
          rw [show xs.length * e.n + j - xs.length * e.n = j from by omega]
          exact hv
  · -- a new block
    have hle := hr.le
    have hnc := nextcap_le (xs.length + ys.length) cp (by omega)
    have hcapb : ¬ (281474976710656 < Builtin.nextslicecap (xs.length + ys.length) cp * i.bytes) := by
      have h1 : Builtin.nextslicecap (xs.length + ys.length) cp * i.bytes ≤ 2 * (xs.length + ys.length) * i.bytes := Nat.mul_le_mul_right _ hnc
      rw [hib, hb] at h1 ⊢
      rw [Nat.mul_assoc] at h1
      simp only [lim] at hlim
      omega
    -- the old elements
    have hold : ∃ gs : List (List Value), (Builtin.firstCells e.n xs.length (.slice A xs.length cp)).run P w = .ok gs.flatten.toArray w ∧ gs.length = xs.length ∧ gs.flatten.length = xs.length * e.n ∧
        (∀ (i : Nat) x cs, xs[i]? = some x → gs[i]? = some cs → e.rd H cs x) ∧ ∀ v ∈ gs.flatten, v.oneCell' = true := run_src (hr.src hS hp) rfl
    obtain ⟨gs, g1, g2, g3, g4, _⟩ := hold
    have hQ : ∀ w1 : World, w1.heap = w.heap → (Builtin.firstCells e.n xs.length (.slice A xs.length cp)).run P w1 = .ok gs.flatten.toArray w1 ∧ (Builtin.firstCells e.n ys.length (.slice A2 ys.length c2)).run P w1 = .ok fs.flatten.toArray w1 := by
      intro w1 hw1
      have hsrc1 : ∀ {zs : List α} {B : Option Addr}, SrcOK e H w B zs → SrcOK e H w1 B zs := by
        intro zs B h
        refine h.imp id ?_
        rintro ⟨g, off, arr, T, fz, q1, q2, q3⟩
        exact ⟨g, off, arr, T, fz, q1, by rw [hw1]; exact q2, q3⟩
      have key : ∀ {zs : List α} {B : Option Addr} {cB : Nat} {hs : List Value}, (Builtin.firstCells e.n zs.length (.slice B zs.length cB)).run P w = .ok hs.toArray w →
          SrcOK e H w B zs → (Builtin.firstCells e.n zs.length (.slice B zs.length cB)).run P w1 = .ok hs.toArray w1 := by
        intro zs B cB hs hrun hsrc
        rcases hsrc with rfl | ⟨g, off, arr, T, fz, rfl, q2, q3⟩
        · cases B with
          | none =>
            simp [Builtin.firstCells] at hrun ⊢
            exact hrun
          | some ad =>
            simp [Builtin.firstCells, loadCells, loadCellsFrom] at hrun ⊢
            exact hrun
        · obtain ⟨ks, k1, k2, k3, k4, k5⟩ := q3.flat
          have e1 := run_first (P := P) (w := w) (c' := cB) k2 (fun j v hv => by rw [cell_of q2]; exact k4 j v hv)
          have e2 := run_first (P := P) (w := w1) (c' := cB) k2 (fun j v hv => by rw [cell_of (by rw [hw1]; exact q2)]; exact k4 j v hv)
          rw [hrun] at e1
          injection e1 with e1 _
          rw [e2, e1]
      exact ⟨key g1 (hr.src hS hp), key r1 hs⟩
    generalize hq : (Question.appendCap (xs.length + ys.length) cp Tb).cut (w.tape w.drawn (Question.appendCap (xs.length + ys.length) cp Tb)) = newCap
    have hcap : xs.length + ys.length ≤ newCap := by rw [← hq]; simp only [Question.cut]; exact Nat.le_add_right _ _
    obtain ⟨o1, o2⟩ := hQ { w with drawn := w.drawn + 1 } rfl
    have hS2 := (hS.drew.alloc (.cells (gs.flatten.toArray ++ fs.flatten.toArray ++ Builtin.zeroCells se.zero.cells (newCap - (xs.length + ys.length))) Tb (0, 0)))
    -- the old block is let go
    have hS3 : St X w0 { w with drawn := w.drawn + 1, heap := w.heap.push (.cells (gs.flatten.toArray ++ fs.flatten.toArray ++ Builtin.zeroCells se.zero.cells (newCap - (xs.length + ys.length))) Tb (0, 0)) } H
        (L.set k (sing w.heap.size (.cells (gs.flatten.toArray ++ fs.flatten.toArray ++ Builtin.zeroCells se.zero.cells (newCap - (xs.length + ys.length))) Tb (0, 0)))) := by
      refine ⟨hS2.ev, hS2.old, hS2.imm, fun q hq' g o eq => ?_, ?_⟩
      · rcases List.mem_or_eq_of_mem_set hq' with h | h
        · exact hS2.own q (List.mem_cons_of_mem _ h) g o eq
        · subst h
          exact hS2.own _ (List.mem_cons_self ..) g o eq
      · have hap := hS.apart
        rw [List.pairwise_iff_getElem] at hap ⊢
        have hlt : ∀ j (hj : j < L.length) g o, L[j] g = some o → g < w.heap.size := fun j hj g o ej => lt_of_some (hS.own _ (List.getElem_mem hj) g o ej).1
        intro j m hj hm hjm g o o' e1 e2
        rw [List.length_set] at hj hm
        rw [List.getElem_set] at e1 e2
        split at e1 <;> split at e2
        · omega
        · obtain ⟨rfl, _⟩ := sing_some e1
          have := hlt m hm _ _ e2
          omega
        · obtain ⟨rfl, _⟩ := sing_some e2
          have := hlt j hj _ _ e1
          omega
        · exact hap j m hj hm hjm g o o' e1 e2
    refine ⟨some ⟨w.heap.size, 0, none⟩, newCap, _, _, ?_, hS3, .inr ⟨w.heap.size, _, rfl, rfl, ?_, by omega, by rw [hlen]; exact hlim, ?_⟩, fun _ => rfl⟩
    · have hforced : (Question.appendCap (xs.length + ys.length) cp Tb).forced = false := rfl
      have hzero : ∀ w1 : World, (zeroValue Tb).run P w1 = .ok se.zero w1 := fun w1 => run_zero (hT Tb se hse) w1
      have hcap' : Builtin.nextslicecap (xs.length + ys.length) cp * i.bytes ≤ 281474976710656 := Nat.not_lt.mp hcapb
      have hb0 : i.bytes ≠ 0 := by rw [hib]; omega
      have hti : ∀ w1 : World, (typeInfo Tb).run P w1 = .ok i w1 := fun w1 => by simp [typeInfo, hi]
      have hcapN : ¬ (2 ^ 48 < Builtin.nextslicecap (xs.length + ys.length) cp * i.bytes) := by omega
      simp [Builtin.append_, run_und hu, run_und hu2, hsz, Builtin.lenOf, hroom, hti, hb0, hcapN, hforced, hq, hzero, newRow]
      rw [show (Builtin.firstCells e.n xs.length (.slice A xs.length cp)).run P w.drew = .ok gs.flatten.toArray w.drew from o1, Result.andThen_ok,
        show (Builtin.firstCells e.n ys.length (.slice A2 ys.length c2)).run P w.drew = .ok fs.flatten.toArray w.drew from o2, Result.andThen_ok]
      simp only [← Array.append_assoc, List.append_toArray]
      rfl
    · have hz' : se.zero.cells.size = e.n := by rw [← hn, ← hz, ← vcells_eq]; simp
      simp only [Array.size_append, List.size_toArray, g3, f2, oneCell_zero, hz']
      rw [← Nat.add_mul, ← Nat.add_mul]
      congr 1
      omega
    · refine Cells.append (Cells.of_flat g2 g4 fun j v hv => ?_) (Cells.of_flat f1 f3 fun j v hv => ?_)
      · have hj : j < gs.flatten.length := (List.getElem?_eq_some_iff.1 hv).1
        rw [Array.append_assoc, Array.getElem?_append_left (by simpa using hj)]
        simpa using hv
      · have hj : j < fs.flatten.length := (List.getElem?_eq_some_iff.1 hv).1
        rw [Array.append_assoc, Array.getElem?_append_right (by simp [g3])]
        simp only [List.size_toArray, g3]
        rw [show 0 + xs.length * e.n + j - xs.length * e.n = j from by omega]
        rw [Array.getElem?_append_left (by simpa using hj)]
        simpa using hv
end
end Go.RL
