/- A program logic over the model's machine, part 17: quiet steps, pieces of memory, loops, calls.
   Part of the proof of Rows.RegsFlowsSaid of the program 'recoup'. -/
import Derived.Test.YtoaimimdfddidaaLb16
set_option linter.unusedVariables false
set_option linter.unusedSimpArgs false
set_option linter.unusedSectionVars false
namespace Go.RL
set_option linter.unusedVariables false

/-! ### variables with arrays in them: parts -/
structure Pt where
  n : Nat
  ok : PHeap → List Value → Prop
  len : ∀ {h cs}, ok h cs → cs.length = n
  mono : ∀ {h h' cs}, PHeap.le h h' → ok h cs → ok h' cs
  one : ∀ {h cs}, ok h cs → ∀ v ∈ cs, v.oneCell' = true

/-- an array of elements -/
def ptA {α : Type} (e : ET α) (n : Nat) (xs : List α) : Pt where
  n := n * e.n
  ok := fun h cs => cs.length = n * e.n ∧ xs.length = n ∧ Cells e h cs.toArray 0 xs
  len := fun h => h.1
  mono := fun hle h => ⟨h.1, h.2.1, h.2.2.mono hle⟩
  one := by
    rintro h cs ⟨h1, h2, h3⟩ v hv
    obtain ⟨j, hj, rfl⟩ := List.getElem_of_mem hv
    have hn : 0 < e.n := by
      rcases Nat.eq_zero_or_pos e.n with q | q
      · rw [q, Nat.mul_zero] at h1; omega
      · exact q
    have hi : j / e.n < xs.length := by
      rw [h2, Nat.div_lt_iff_lt_mul hn, ← h1]; exact hj
    obtain ⟨ds, d1, d2⟩ := h3 (j / e.n) xs[j / e.n] (by simp [hi])
    have hl := e.len d1
    have hm : j % e.n < ds.length := by rw [hl]; exact Nat.mod_lt _ hn
    have := d2 (j % e.n) ds[j % e.n] (by simp [hm])
    rw [show 0 + j / e.n * e.n + j % e.n = j from by rw [Nat.zero_add, Nat.mul_comm]; exact Nat.div_add_mod j e.n] at this
    simp [hj] at this
    rw [this]
    exact e.one d1 _ (List.getElem_mem hm)

inductive Pd where
  | v (vs : List Value)
  | a (p : Pt)

def Pd.n : Pd → Nat
  | .v vs => vs.length
  | .a p => p.n
def Pd.ok (h : PHeap) : Pd → List Value → Prop
  | .v vs, cs => cs = vs
  | .a p, cs => p.ok h cs
theorem Pd.len {h : PHeap} : ∀ {p : Pd} {cs : List Value}, p.ok h cs → cs.length = p.n
  | .v _, _, rfl => rfl
  | .a p, _, h => p.len h
theorem Pd.mono {h h' : PHeap} (hle : PHeap.le h h') : ∀ {p : Pd} {cs : List Value}, p.ok h cs → p.ok h' cs
  | .v _, _, h => h
  | .a p, _, h => p.mono hle h

def Al (h : PHeap) : List Pd → List (List Value) → Prop
  | [], [] => True
  | p :: ps, cs :: css => p.ok h cs ∧ Al h ps css
  | _, _ => False
theorem Al.mono {h h' : PHeap} (hle : PHeap.le h h') : ∀ {ps : List Pd} {css : List (List Value)}, Al h ps css → Al h' ps css
  | [], [], _ => trivial
  | p :: ps, cs :: css, ⟨h1, h2⟩ => ⟨Pd.mono hle h1, Al.mono hle h2⟩
  | [], _ :: _, h => h.elim
  | _ :: _, [], h => h.elim

/-- where a part begins -/
def offP : List Pd → Nat → Nat
  | _, 0 => 0
  | [], _ + 1 => 0
  | p :: ps, k + 1 => p.n + offP ps k
def sumP : List Pd → Nat
  | [] => 0
  | p :: ps => p.n + sumP ps

theorem Al.sum {h : PHeap} : ∀ {ps : List Pd} {css : List (List Value)}, Al h ps css → css.flatten.length = sumP ps
  | [], [], _ => rfl
  | p :: ps, cs :: css, ⟨h1, h2⟩ => by simp [sumP, Pd.len h1]; simpa using h2.sum
  | [], _ :: _, h => h.elim
  | _ :: _, [], h => h.elim

theorem Al.at {h : PHeap} : ∀ {ps : List Pd} {css : List (List Value)} {k : Nat} {p : Pd}, Al h ps css → ps[k]? = some p →
    ∃ pre cs post, css = pre ++ cs :: post ∧ pre.flatten.length = offP ps k ∧ p.ok h cs ∧ ∀ p' cs', p'.ok h cs' → Al h (ps.set k p') (pre ++ cs' :: post)
  | [], _, k, p, _, hk => by simp at hk
  | q :: ps, [], k, p, h, _ => h.elim
  | q :: ps, cs :: css, 0, p, ⟨h1, h2⟩, hk => by
    simp at hk; subst hk
    exact ⟨[], cs, css, rfl, rfl, h1, fun p' cs' h' => ⟨h', h2⟩⟩
  | q :: ps, cs :: css, k + 1, p, ⟨h1, h2⟩, hk => by
    obtain ⟨pre, ds, post, e1, e2, e3, e4⟩ := h2.at (by simpa using hk)
    refine ⟨cs :: pre, ds, post, by rw [e1]; rfl, by simp [offP, Pd.len h1]; simpa using e2, e3, fun p' cs' h' => ⟨h1, e4 p' cs' h'⟩⟩

def BxP (H : PHeap) (p : Piece) (g : Nat) (T : TypeId) (ps : List Pd) : Prop := ∃ css, Al H ps css ∧ Bx p g T css.flatten
def AggP (H : PHeap) (ps : List Pd) (v : Value) : Prop := ∃ css, Al H ps css ∧ v = .agg css.flatten.toArray
theorem BxP.mono {H H' : PHeap} {p : Piece} {g : Nat} {T : TypeId} {ps : List Pd} (h : BxP H p g T ps) (hle : PHeap.le H H') : BxP H' p g T ps := by
  obtain ⟨css, h1, h2⟩ := h; exact ⟨css, h1.mono hle, h2⟩
theorem AggP.mono {H H' : PHeap} {v : Value} {ps : List Pd} (h : AggP H ps v) (hle : PHeap.le H H') : AggP H' ps v := by
  obtain ⟨css, h1, h2⟩ := h; exact ⟨css, h1.mono hle, h2⟩

theorem stv_mid (a b c vs : List Value) (o : Nat) (h : o + vs.length ≤ b.length) : stv (a ++ (b ++ c)) (a.length + o) vs = a ++ (stv b o vs ++ c) := by
  apply List.ext_getElem?
  intro j
  rw [stv_get _ _ _ _ (by simp; omega)]
  by_cases h1 : j < a.length
  · rw [if_neg (by omega), List.getElem?_append_left h1, List.getElem?_append_left h1]
  · rw [List.getElem?_append_right (l₁ := a) (l₂ := stv b o vs ++ c) (by omega)]
    by_cases h2 : j - a.length < b.length
    · rw [List.getElem?_append_left (l₁ := stv b o vs) (by rw [stv_length]; exact h2), stv_get vs b o _ h]
      by_cases h3 : a.length + o ≤ j ∧ j < a.length + o + vs.length
      · rw [if_pos h3, if_pos (by omega)]
        congr 1
        omega
      · rw [if_neg h3, if_neg (by omega), List.getElem?_append_right (by omega), List.getElem?_append_left h2]
    · rw [if_neg (by omega), List.getElem?_append_right (by omega), List.getElem?_append_right (by omega), List.getElem?_append_right (by rw [stv_length]; omega), stv_length]

/-- cells put into a part of plain values -/
def putP : List Pd → Nat → List Value → Option (List Pd)
  | [], _, _ => none
  | .v vs :: ps, off, us => bif Nat.ble (off + us.length) vs.length then some (.v (stv vs off us) :: ps) else (bif Nat.blt off vs.length then none else
      match putP ps (off - vs.length) us with | some r => some (.v vs :: r) | none => none)
  | .a p :: ps, off, us => bif Nat.blt off p.n then none else
      match putP ps (off - p.n) us with | some r => some (.a p :: r) | none => none
theorem blt_ge {a b : Nat} (h : Nat.blt a b = false) : b ≤ a := by
  rcases Nat.lt_or_ge a b with q | q
  · have : Nat.blt a b = true := Nat.ble_eq_true_of_le q
    rw [this] at h; cases h
  · exact q
theorem Al.put {H : PHeap} : ∀ {ps ps' : List Pd} {css : List (List Value)} {off : Nat} {us : List Value}, Al H ps css → putP ps off us = some ps' →
    ∃ css', Al H ps' css' ∧ stv css.flatten off us = css'.flatten ∧ off + us.length ≤ css.flatten.length
  | [], _, _, _, _, _, h => by simp [putP] at h
  | .v vs :: ps, ps', [], off, us, h, _ => h.elim
  | .a p :: ps, ps', [], off, us, h, _ => h.elim
  | .v vs :: ps, ps', cs :: css, off, us, ⟨h1, h2⟩, h => by
    have h1' : cs = vs := h1
    subst h1'
    simp only [putP] at h
    cases hb : Nat.ble (off + us.length) cs.length with
    | true =>
      rw [hb] at h
      simp only [cond_true] at h
      injection h with h
      subst h
      have hle := Nat.le_of_ble_eq_true hb
      refine ⟨stv cs off us :: css, ⟨rfl, h2⟩, ?_, by simp; omega⟩
      have := stv_mid [] cs css.flatten us off hle
      simpa using this
    | false =>
      rw [hb] at h
      simp only [cond_false] at h
      cases hb2 : Nat.blt off cs.length with
      | true => rw [hb2] at h; cases h
      | false =>
        rw [hb2] at h
        simp only [cond_false] at h
        split at h
        · rename_i r hr
          injection h with h
          subst h
          obtain ⟨css', a1, a2, a3⟩ := h2.put hr
          have hge := blt_ge hb2
          refine ⟨cs :: css', ⟨rfl, a1⟩, ?_, by simp at a3 ⊢; omega⟩
          simp only [List.flatten_cons]
          rw [← a2]
          have := stv_mid cs css.flatten [] us (off - cs.length) a3
          simp only [List.append_nil] at this
          rw [show cs.length + (off - cs.length) = off from by omega] at this
          exact this
        · cases h
  | .a p :: ps, ps', cs :: css, off, us, ⟨h1, h2⟩, h => by
    have hl : cs.length = p.n := p.len h1
    simp only [putP] at h
    cases hb2 : Nat.blt off p.n with
    | true => rw [hb2] at h; cases h
    | false =>
      rw [hb2] at h
      simp only [cond_false] at h
      split at h
      · rename_i r hr
        injection h with h
        subst h
        obtain ⟨css', a1, a2, a3⟩ := h2.put hr
        have hge := blt_ge hb2
        refine ⟨cs :: css', ⟨h1, a1⟩, ?_, by simp at a3 ⊢; omega⟩
        simp only [List.flatten_cons]
        rw [← a2]
        have := stv_mid cs css.flatten [] us (off - p.n) a3
        simp only [List.append_nil] at this
        rw [show cs.length + (off - p.n) = off from by omega] at this
        exact this
      · cases h

/-- cells got out of a part of plain values -/
def getP (te : TE) : List Pd → Nat → Option Value
  | [], _ => none
  | .v vs :: ps, off => bif Nat.blt off vs.length then ldv te vs off else getP te ps (off - vs.length)
  | .a p :: ps, off => bif Nat.blt off p.n then none else getP te ps (off - p.n)
theorem ldv_pre {te : TE} {cs ds : List Value} {off : Nat} {v : Value} (h : ldv te ds off = some v) : ldv te (cs ++ ds) (cs.length + off) = some v := by
  unfold ldv at h ⊢
  split at h
  · cases hb : Nat.ble (off + te.size) ds.length with
    | false => rw [hb] at h; cases h
    | true =>
      rw [hb] at h
      have := Nat.le_of_ble_eq_true hb
      have hb' : Nat.ble (cs.length + off + te.size) (cs ++ ds).length = true := Nat.ble_eq_true_of_le (by simp; omega)
      rw [hb']
      simp only [cond_true] at h ⊢
      rw [← h, ← List.drop_drop, List.drop_left]
  · rw [List.getElem?_append_right (by omega)]
    simpa using h
theorem ldv_post {te : TE} {cs ds : List Value} {off : Nat} {v : Value} (h : ldv te cs off = some v) : ldv te (cs ++ ds) off = some v := by
  unfold ldv at h ⊢
  split at h
  · cases hb : Nat.ble (off + te.size) cs.length with
    | false => rw [hb] at h; cases h
    | true =>
      rw [hb] at h
      have := Nat.le_of_ble_eq_true hb
      have hb' : Nat.ble (off + te.size) (cs ++ ds).length = true := Nat.ble_eq_true_of_le (by simp; omega)
      rw [hb']
      simp only [cond_true] at h ⊢
      rw [← h, List.drop_append_of_le_length (by omega), List.take_append_of_le_length (by simp; omega)]
  · have := (List.getElem?_eq_some_iff.1 h).1
    rw [List.getElem?_append_left this]
    exact h
theorem Al.get {H : PHeap} {te : TE} : ∀ {ps : List Pd} {css : List (List Value)} {off : Nat} {v : Value}, Al H ps css → getP te ps off = some v → ldv te css.flatten off = some v
  | [], _, _, _, _, h => by simp [getP] at h
  | .v _ :: _, [], _, _, h, _ => h.elim
  | .a _ :: _, [], _, _, h, _ => h.elim
  | .v vs :: ps, cs :: css, off, v, ⟨h1, h2⟩, h => by
    have h1' : cs = vs := h1
    subst h1'
    simp only [getP] at h
    simp only [List.flatten_cons]
    cases hb : Nat.blt off cs.length with
    | true => rw [hb] at h; exact ldv_post h
    | false =>
      rw [hb] at h
      have := ldv_pre (cs := cs) (h2.get h)
      rw [show cs.length + (off - cs.length) = off from by have := blt_ge hb; omega] at this
      exact this
  | .a p :: ps, cs :: css, off, v, ⟨h1, h2⟩, h => by
    have hl : cs.length = p.n := p.len h1
    simp only [getP] at h
    simp only [List.flatten_cons]
    cases hb : Nat.blt off p.n with
    | true => rw [hb] at h; cases h
    | false =>
      rw [hb] at h
      have := ldv_pre (cs := cs) (h2.get h)
      rw [hl, show p.n + (off - p.n) = off from by have := blt_ge hb; omega] at this
      exact this

section
variable {P : Program} {tab : List (Nat × TE)} {ops : Array Oper} {Q : Exit → Act → World → Prop} {a : Act} {w w0 : World} {rest : List Oper} {c : Cfg} {l : List (Nat × Value)}
variable {X : Nat → Prop} {H : PHeap} {L : List Piece} {ty : TypeId} {pos : String} {after : Array Edge} {gu : Option (Nat × Bool)}
variable {C : World → Prop} {KQ : Act → Prop} {α : Type} {e : ET α} {xs : List α} {p : Piece} {ps ps' : List Pd}

theorem run_idxA {T el n : Nat} {te se : TE} (hT : TabOK P tab) (ht : tk T tab = some te) (hk : te.tk = .arr n el) (hs : tk el tab = some se) {k : IntKind} {i : Int} {ad : Addr} (h0 : 0 ≤ i) (h1 : i < n) :
    (Instr.indexAt T (.pointer (some ad)) (.int k i)).run P w = .ok (.pointer (some (ad.add (i.toNat * se.size)))) w := by
  have hu := (hT T te ht).arr hk
  simp [Instr.indexAt, asIntOf, run_und hu, Instr.sureAddr, h0, h1, run_size (hT el se hs)]

theorem BxP.po {g off n k : Nat} {T : TypeId} {i : Int} {x : α} (hb : BxP H p g T ps) (hk : ps[k]? = some (.a (ptA e n xs))) (ho : offP ps k = off) (hi : idx xs i = some x) :
    PO e H p ⟨g, off + i.toNat * e.n, none⟩ x ∧ 0 ≤ i ∧ i < n := by
  obtain ⟨css, h1, h2⟩ := hb
  obtain ⟨pre, cs, post, e1, e2, e3, e4⟩ := h1.at hk
  obtain ⟨c1, c2, c3⟩ := (e3 : cs.length = n * e.n ∧ xs.length = n ∧ Cells e H cs.toArray 0 xs)
  obtain ⟨i0, i1, i2⟩ := idx_some hi
  obtain ⟨ds, d1, d2⟩ := c3 _ _ i1
  refine ⟨⟨g, _, css.flatten.toArray, T, (0, 0), ds, rfl, ?_, d1, fun j v hv => ?_⟩, i0, by omega⟩
  · unfold Bx at h2; subst h2; exact sing_get
  · have := d2 j v hv
    simp only [Nat.zero_add, List.getElem?_toArray] at this ⊢
    have hlt := (List.getElem?_eq_some_iff.1 this).1
    rw [e1, List.flatten_append, List.flatten_cons, List.getElem?_append_right (by omega), e2, ho, List.getElem?_append_left (by omega)]
    rw [show off + i.toNat * e.n + j - off = i.toNat * e.n + j from by omega]
    exact this

theorem o_idxA {d T el n g off k : Nat} {T' : TypeId} {x y : Operand} {te se : TE} {kd : IntKind} {i : Int} {x0 : α} (hT : TabOK P tab) (hA : Fr c a l) (hb : BxP H p g T' ps) (hk : ps[k]? = some (.a (ptA e n xs))) (ho : offP ps k = off)
    (hi : idx xs i = some x0) (hx : ev l x = some (.pointer (some ⟨g, off, none⟩))) (hy : ev l y = some (.int kd i)) (ht : tk T tab = some te) (hka : te.tk = .arr n el) (hs : tk el tab = some se) (hn : se.size = e.n) (hd : Nat.blt d c.1 = true)
    (hw : gd ops l ⟨some d, .indexAddr T x y, ty, pos, after, gu⟩ = some true)
    (K : ∀ a ad, Fr c a ((d, .pointer (some ad)) :: l) → PO e H p ad x0 → ad = ⟨g, off + i.toNat * e.n, none⟩ → wpList P ops Q rest a w) :
    wpList P ops Q (⟨some d, .indexAddr T x y, ty, pos, after, gu⟩ :: rest) a w := by
  obtain ⟨q1, q2, q3⟩ := hb.po hk ho hi
  refine stepv (w' := w) (gd_spec hA hw) ?_ (K _ _ (hA.put hd _) q1 rfl)
  have := run_idxA (P := P) (w := w) hT ht hka hs (k := kd) (ad := ⟨g, off, none⟩) q2 q3
  rw [add_eq, hn] at this
  simp [execOp, hA.eval hx, hA.eval hy, this]
theorem q_idxA {d T el n g off k : Nat} {T' : TypeId} {x y : Operand} {te se : TE} {kd : IntKind} {i : Int} {x0 : α} (hT : TabOK P tab) (hA : Fr c a l) (hb : BxP H p g T' ps) (hk : ps[k]? = some (.a (ptA e n xs))) (ho : offP ps k = off)
    (hi : idx xs i = some x0) (hx : ev l x = some (.pointer (some ⟨g, off, none⟩))) (hy : ev l y = some (.int kd i)) (ht : tk T tab = some te) (hka : te.tk = .arr n el) (hs : tk el tab = some se) (hn : se.size = e.n) (hd : Nat.blt d c.1 = true)
    (hw : gd ops l ⟨some d, .indexAddr T x y, ty, pos, after, gu⟩ = some true)
    (K : ∀ a ad, Fr c a ((d, .pointer (some ad)) :: l) → PO e H p ad x0 → ad = ⟨g, off + i.toNat * e.n, none⟩ → wpHold P ops C KQ rest a) :
    wpHold P ops C KQ (⟨some d, .indexAddr T x y, ty, pos, after, gu⟩ :: rest) a := by
  obtain ⟨q1, q2, q3⟩ := hb.po hk ho hi
  refine qstep hA hw (fun w _ => ?_) (K _ _ (hA.put hd _) q1 rfl)
  have := run_idxA (P := P) (w := w) hT ht hka hs (k := kd) (ad := ⟨g, off, none⟩) q2 q3
  rw [add_eq, hn] at this
  simp [execOp, hA.eval hx, hA.eval hy, this]

/-- a store of cells into a box of parts -/
theorem o_stG {T g off i : Nat} {x y : Operand} {T' : TypeId} {te : TE} {v : Value} {css : List (List Value)} {css' : List (List Value)} {ds : Option Nat} (hT : TabOK P tab) (hA : Fr c a l) (hS : St X w0 w H L)
    (hb : Bx p g T' css.flatten) (hx : ev l x = some (.pointer (some ⟨g, off, none⟩))) (hy : ev l y = some v) (hp : L[i]? = some p) (ht : tk T tab = some te)
    (hsz : (vcells v).length = te.size) (hone : ∀ u ∈ vcells v, u.oneCell' = true) (hle : off + te.size ≤ css.flatten.length) (hst : stv css.flatten off (vcells v) = css'.flatten) (hds : ds = none)
    (hw : gd ops l ⟨ds, .store T x y, ty, pos, after, gu⟩ = some true)
    (K : ∀ w p, St X w0 w H (L.set i p) → Bx p g T' css'.flatten → wpList P ops Q rest a w) :
    wpList P ops Q (⟨ds, .store T x y, ty, pos, after, gu⟩ :: rest) a w :=
  o_st hT hA hS hb hx hy hp ht hsz (by simpa [List.all_eq_true] using hone) (Nat.ble_eq_true_of_le hle) hds hw fun w p hS hb => K w p hS (by rw [← hst]; exact hb)

theorem o_stA {T g off i k n : Nat} {x y : Operand} {T' : TypeId} {te : TE} {v : Value} {ad : Addr} {j : Int} {y0 x0 : α} {ds : Option Nat} (hT : TabOK P tab) (hA : Fr c a l) (hS : St X w0 w H L) (hb : BxP H p g T' ps) (hk : ps[k]? = some (.a (ptA e n xs))) (ho : offP ps k = off)
    (hi : idx xs j = some x0) (had : ad = ⟨g, off + j.toNat * e.n, none⟩) (hx : ev l x = some (.pointer (some ad))) (hy : ev l y = some v) (hv : e.rd H (vcells v) y0) (hp : L[i]? = some p) (ht : tk T tab = some te) (hn : te.size = e.n) (hds : ds = none)
    (hw : gd ops l ⟨ds, .store T x y, ty, pos, after, gu⟩ = some true)
    (K : ∀ w p, St X w0 w H (L.set i p) → BxP H p g T' (ps.set k (.a (ptA e n (xs.set j.toNat y0)))) → wpList P ops Q rest a w) :
    wpList P ops Q (⟨ds, .store T x y, ty, pos, after, gu⟩ :: rest) a w := by
  subst had
  obtain ⟨css, h1, h2⟩ := hb
  obtain ⟨pre, cs, post, e1, e2, e3, e4⟩ := h1.at hk
  obtain ⟨c1, c2, c3⟩ := (e3 : cs.length = n * e.n ∧ xs.length = n ∧ Cells e H cs.toArray 0 xs)
  obtain ⟨i0, i1, i2⟩ := idx_some hi
  have hl := e.len hv
  have hmul : (j.toNat + 1) * e.n ≤ n * e.n := Nat.mul_le_mul_right _ (by omega)
  rw [Nat.add_mul] at hmul
  have hfl : css.flatten.length = off + (cs.length + post.flatten.length) := by rw [e1, List.flatten_append, List.length_append, e2, ho]; simp
  refine o_stG (off := off + j.toNat * e.n) (css' := pre ++ (stv cs (j.toNat * e.n) (vcells v)) :: post) hT hA hS h2 hx hy hp ht (by rw [hl, hn]) (fun u hu => e.one hv u hu) (by rw [hfl, hn]; omega) ?_ hds hw
    (fun w p hS hb => K w p hS ⟨_, e4 (.a (ptA e n (xs.set j.toNat y0))) _ ⟨by rw [stv_length, c1], by simp [c2], ?_⟩, hb⟩)
  · rw [e1, List.flatten_append, List.flatten_append, List.flatten_cons, List.flatten_cons]
    have := stv_mid pre.flatten cs post.flatten (vcells v) (j.toNat * e.n) (by omega)
    rw [e2, ho] at this
    exact this
  · have := c3.set (i := j.toNat) i2 hv (by simp [c1, c2])
    simpa using this

theorem o_stP {T g off i : Nat} {x y : Operand} {T' : TypeId} {te : TE} {v : Value} {ds : Option Nat} (hT : TabOK P tab) (hA : Fr c a l) (hS : St X w0 w H L) (hb : BxP H p g T' ps)
    (hx : ev l x = some (.pointer (some ⟨g, off, none⟩))) (hy : ev l y = some v) (hp : L[i]? = some p) (ht : tk T tab = some te)
    (hsz : (vcells v).length = te.size) (hone : (vcells v).all Value.oneCell' = true) (hput : putP ps off (vcells v) = some ps') (hds : ds = none)
    (hw : gd ops l ⟨ds, .store T x y, ty, pos, after, gu⟩ = some true)
    (K : ∀ w p, St X w0 w H (L.set i p) → BxP H p g T' ps' → wpList P ops Q rest a w) :
    wpList P ops Q (⟨ds, .store T x y, ty, pos, after, gu⟩ :: rest) a w := by
  obtain ⟨css, h1, h2⟩ := hb
  obtain ⟨css', a1, a2, a3⟩ := h1.put hput
  exact o_stG hT hA hS h2 hx hy hp ht hsz (by simpa [List.all_eq_true] using hone) (by rw [← hsz]; exact a3) a2 hds hw fun w p hS hb => K w p hS ⟨css', a1, hb⟩

theorem BxP.loadV {T g off i : Nat} {T' : TypeId} {te : TE} {v : Value} (hT : TabOK P tab) (hS : St X w0 w H L) (hb : BxP H p g T' ps) (hp : L[i]? = some p) (ht : tk T tab = some te) (h1 : te.one = true)
    (hv : getP te ps off = some v) : (loadVar T ⟨g, off, none⟩).run P w = .ok v w := by
  obtain ⟨css, a1, a2⟩ := hb
  exact Bx.load hT hS a2 hp ht h1 (a1.get hv)
theorem o_ldP {d T g off i : Nat} {x : Operand} {T' : TypeId} {te : TE} {v : Value} (hT : TabOK P tab) (hA : Fr c a l) (hS : St X w0 w H L)
    (hb : BxP H p g T' ps) (hx : ev l x = some (.pointer (some ⟨g, off, none⟩))) (hp : L[i]? = some p) (ht : tk T tab = some te) (h1 : te.one = true)
    (hv : getP te ps off = some v) (hd : Nat.blt d c.1 = true) (hw : gd ops l ⟨some d, .load T x, ty, pos, after, gu⟩ = some true)
    (K : ∀ a, Fr c a ((d, v) :: l) → wpList P ops Q rest a w) :
    wpList P ops Q (⟨some d, .load T x, ty, pos, after, gu⟩ :: rest) a w := by
  obtain ⟨css, a1, a2⟩ := hb
  exact o_ld hT hA hS a2 hx hp ht h1 (a1.get hv) hd hw K
theorem q_ldP {d T g off i : Nat} {x : Operand} {T' : TypeId} {te : TE} {v : Value} (hT : TabOK P tab) (hA : Fr c a l)
    (hb : BxP H p g T' ps) (hx : ev l x = some (.pointer (some ⟨g, off, none⟩))) (hp : L[i]? = some p) (ht : tk T tab = some te) (h1 : te.one = true)
    (hv : getP te ps off = some v) (hd : Nat.blt d c.1 = true) (hw : gd ops l ⟨some d, .load T x, ty, pos, after, gu⟩ = some true)
    (K : ∀ a, Fr c a ((d, v) :: l) → wpHold P ops (fun w => St X w0 w H L) KQ rest a) :
    wpHold P ops (fun w => St X w0 w H L) KQ (⟨some d, .load T x, ty, pos, after, gu⟩ :: rest) a := by
  obtain ⟨css, a1, a2⟩ := hb
  exact q_ld hT hA a2 hx hp ht h1 (a1.get hv) hd hw K

/-! whole variables with arrays in them -/
theorem BxP.loadAll {T g i : Nat} {T' : TypeId} {te : TE} (hT : TabOK P tab) (hS : St X w0 w H L) (hb : BxP H p g T' ps) (hp : L[i]? = some p) (ht : tk T tab = some te) (hag : te.tk.isAgg = true) (hsz : sumP ps = te.size) :
    ∃ v, AggP H ps v ∧ (loadVar T ⟨g, 0, none⟩).run P w = .ok v w := by
  obtain ⟨css, a1, a2⟩ := hb
  have hl := a1.sum
  refine ⟨_, ⟨css, a1, rfl⟩, Bx.load hT hS a2 hp ht (by unfold TE.one; rw [hag]) ?_⟩
  unfold ldv
  rw [hag]
  have : Nat.ble (0 + te.size) css.flatten.length = true := Nat.ble_eq_true_of_le (by omega)
  simp only [this, cond_true, List.drop_zero]
  rw [List.take_of_length_le (by omega)]
theorem o_ldAll {d T g i : Nat} {x : Operand} {T' : TypeId} {te : TE} (hT : TabOK P tab) (hA : Fr c a l) (hS : St X w0 w H L)
    (hb : BxP H p g T' ps) (hx : ev l x = some (.pointer (some ⟨g, 0, none⟩))) (hp : L[i]? = some p) (ht : tk T tab = some te) (hag : te.tk.isAgg = true) (hsz : sumP ps = te.size) (hd : Nat.blt d c.1 = true)
    (hw : gd ops l ⟨some d, .load T x, ty, pos, after, gu⟩ = some true)
    (K : ∀ a v, AggP H ps v → Fr c a ((d, v) :: l) → wpList P ops Q rest a w) :
    wpList P ops Q (⟨some d, .load T x, ty, pos, after, gu⟩ :: rest) a w := by
  obtain ⟨v, h1, h2⟩ := hb.loadAll (P := P) hT hS hp ht hag hsz
  refine stepv (w' := w) (gd_spec hA hw) ?_ (K _ v h1 (hA.put hd _))
  simp [execOp, Instr.loadAt, Instr.sureAddr, hA.eval hx, h2]

theorem Al.one {H : PHeap} : ∀ {ps : List Pd} {css : List (List Value)}, Al H ps css → (ps.all fun p => match p with | .v vs => vs.all Value.oneCell' | .a _ => true) = true → ∀ v ∈ css.flatten, v.oneCell' = true
  | [], [], _, _, v, hv => by simp at hv
  | p :: ps, cs :: css, ⟨h1, h2⟩, h, v, hv => by
    simp only [List.all_cons, Bool.and_eq_true] at h
    simp only [List.flatten_cons, List.mem_append] at hv
    rcases hv with hv | hv
    · cases p with
      | v vs =>
        have h1' : cs = vs := h1
        subst h1'
        have := h.1
        simp only [List.all_eq_true] at this
        exact this v hv
      | a p => exact p.one h1 v hv
    · exact h2.one h.2 v hv
  | [], _ :: _, h, _, _, _ => h.elim
  | _ :: _, [], h, _, _, _ => h.elim
def oneP (ps : List Pd) : Bool := ps.all fun p => match p with | .v vs => vs.all Value.oneCell' | .a _ => true

theorem stv_all : ∀ (vs cs : List Value), cs.length = vs.length → stv cs 0 vs = vs := fun vs cs h => by
  apply List.ext_getElem?
  intro j
  rw [stv_get _ _ _ _ (by omega)]
  by_cases hj : j < vs.length
  · rw [if_pos (by omega)]; simp
  · rw [if_neg (by omega), List.getElem?_eq_none (by omega), List.getElem?_eq_none (by omega)]

theorem o_stAll {T g i : Nat} {x y : Operand} {T' : TypeId} {te : TE} {v : Value} {ds : Option Nat} (hT : TabOK P tab) (hA : Fr c a l) (hS : St X w0 w H L) (hb : BxP H p g T' ps) (hv : AggP H ps' v)
    (hx : ev l x = some (.pointer (some ⟨g, 0, none⟩))) (hy : ev l y = some v) (hp : L[i]? = some p) (ht : tk T tab = some te)
    (hsz : sumP ps' = te.size) (hsz2 : sumP ps = te.size) (hone : oneP ps' = true) (hds : ds = none)
    (hw : gd ops l ⟨ds, .store T x y, ty, pos, after, gu⟩ = some true)
    (K : ∀ w p, St X w0 w H (L.set i p) → BxP H p g T' ps' → wpList P ops Q rest a w) :
    wpList P ops Q (⟨ds, .store T x y, ty, pos, after, gu⟩ :: rest) a w := by
  obtain ⟨css, a1, a2⟩ := hb
  obtain ⟨css', b1, rfl⟩ := hv
  have l1 := a1.sum
  have l2 := b1.sum
  refine o_stG (off := 0) (css' := css') hT hA hS a2 hx hy hp ht (by simp only [vcells]; omega) (fun u hu => b1.one hone u (by simpa [vcells] using hu)) (by omega) ?_ hds hw fun w p hS hb => K w p hS ⟨css', b1, hb⟩
  simp only [vcells]
  exact stv_all _ _ (by omega)

theorem o_boxP {d T : Nat} {x : Operand} {v : Value} (hA : Fr c a l) (hS : St X w0 w H L) (hx : ev l x = some v) (hv : AggP H ps v) (hd : Nat.blt d c.1 = true)
    (hw : gd ops l ⟨some d, .box T x, ty, pos, after, gu⟩ = some true)
    (K : ∀ a w g p, Fr c a ((d, .pointer (some ⟨g, 0, none⟩)) :: l) → St X w0 w H (p :: L) → BxP H p g T ps → wpList P ops Q rest a w) :
    wpList P ops Q (⟨some d, .box T x, ty, pos, after, gu⟩ :: rest) a w := by
  obtain ⟨css, b1, rfl⟩ := hv
  exact o_box hA hS hx hd hw fun a w g p hA hS hb => K a w g p hA hS ⟨css, b1, hb⟩

theorem ptA_zero {n : Nat} {v : Value} {z : α} (h1 : e.n = 1) (hz : ∀ h, e.rd h [v] z) {h : PHeap} : Pd.ok h (.a (ptA e n (List.replicate n z))) (List.replicate n v) := by
  refine ⟨by simp [h1], by simp, fun i x hx => ⟨[v], ?_, fun j u hu => ?_⟩⟩
  · rw [List.getElem?_replicate] at hx
    split at hx
    · injection hx with hx; rw [← hx]; exact hz h
    · cases hx
  · have hi : i < n := by have := (List.getElem?_eq_some_iff.1 hx).1; simpa using this
    cases j with
    | zero =>
      simp only [List.getElem?_cons_zero, Option.some.injEq] at hu
      subst hu
      simp [h1, hi]
    | succ j => simp at hu

theorem o_allocP {d T : Nat} {te : TE} {css : List (List Value)} (hT : TabOK P tab) (hA : Fr c a l) (hS : St X w0 w H L) (ht : tk T tab = some te) (hz : vcells te.zero = css.flatten) (hal : Al H ps css) (hd : Nat.blt d c.1 = true)
    (hw : gd ops l ⟨some d, .alloc T, ty, pos, after, gu⟩ = some true)
    (K : ∀ a w g p, Fr c a ((d, .pointer (some ⟨g, 0, none⟩)) :: l) → St X w0 w H (p :: L) → BxP H p g T ps → wpList P ops Q rest a w) :
    wpList P ops Q (⟨some d, .alloc T, ty, pos, after, gu⟩ :: rest) a w :=
  o_alloc hT hA hS ht hd hw fun a w g p hA hS hb => K a w g p hA hS ⟨css, hal, by rw [← hz]; exact hb⟩

/-- fields put into the zero value of a struct with arrays in it -/
def fillP (fs : List (Nat × Nat × Nat)) : List Pd → List (Nat × Value) → Option (List Pd)
  | ps, [] => some ps
  | ps, (i, v) :: r =>
    match fs[i]? with
    | some (_, off, sz) => bif Nat.beq (vcells v).length sz then (match putP ps off (vcells v) with | some ps' => fillP fs ps' r | none => none) else none
    | none => none
theorem fillP_spec {fs : List (Nat × Nat × Nat)} : ∀ {r : List (Nat × Value)} {ps ps' : List Pd} {css : List (List Value)}, Al H ps css → fillP fs ps r = some ps' →
    ∃ css', Al H ps' css' ∧ fillS fs css.flatten r = some css'.flatten
  | [], ps, ps', css, h, hf => by simp only [fillP] at hf; injection hf with hf; subst hf; exact ⟨css, h, rfl⟩
  | (i, v) :: r, ps, ps', css, h, hf => by
    simp only [fillP] at hf
    split at hf
    · rename_i t off sz hi
      cases hb : Nat.beq (vcells v).length sz with
      | false => rw [hb] at hf; cases hf
      | true =>
        rw [hb] at hf
        simp only [cond_true] at hf
        split at hf
        · rename_i ps2 h2
          obtain ⟨css2, a1, a2, a3⟩ := h.put h2
          obtain ⟨css', b1, b2⟩ := fillP_spec a1 hf
          refine ⟨css', b1, ?_⟩
          have hsz := Nat.eq_of_beq_eq_true hb
          have hle : Nat.ble (off + sz) css.flatten.length = true := Nat.ble_eq_true_of_le (by rw [← hsz]; exact a3)
          simp only [fillS, hi, hb, hle, Bool.and_self, cond_true, a2]
          exact b2
        · cases hf
    · cases hf

theorem run_bldP {t : Nat} {parts : Array (Nat × Operand)} {te : TE} {fs : List (Nat × Nat × Nat)} {css : List (List Value)} {pv : List (Nat × Value)} (hT : TabOK P tab) (hA : Fr c a l) (ht : tk t tab = some te) (hk : te.tk = .struct fs)
    (hall : (fs.all (fun f => Nat.blt 0 f.2.2)) = true) (hz : vcells te.zero = css.flatten) (hal : Al H ps css) (hx : evp l parts.toList = some pv) (hf : fillP fs ps pv = some ps') :
    ∃ v, AggP H ps' v ∧ ∀ w, (execOp a.eval ⟨none, .build t parts, ty, pos, after, gu⟩).run P w = .ok (.value v) w := by
  obtain ⟨css', b1, b2⟩ := fillP_spec hal hf
  refine ⟨_, ⟨css', b1, rfl⟩, fun w => ?_⟩
  have hv : pev tab l (.build t parts) = some (.agg css'.flatten.toArray) := by
    obtain ⟨tk0, z, s, b⟩ := te
    simp only at hk hz
    subst hk
    simp only [pev, hx, ht, hall, cond_true, hz, b2]
  exact pev_spec hT hA (o := ⟨none, .build t parts, ty, pos, after, gu⟩) hv w
theorem o_bldP {d t : Nat} {parts : Array (Nat × Operand)} {te : TE} {fs : List (Nat × Nat × Nat)} {css : List (List Value)} {pv : List (Nat × Value)} (hT : TabOK P tab) (hA : Fr c a l) (ht : tk t tab = some te) (hk : te.tk = .struct fs)
    (hall : (fs.all (fun f => Nat.blt 0 f.2.2)) = true) (hz : vcells te.zero = css.flatten) (hal : Al H ps css) (hx : evp l parts.toList = some pv) (hf : fillP fs ps pv = some ps') (hd : Nat.blt d c.1 = true)
    (hw : gd ops l ⟨some d, .build t parts, ty, pos, after, gu⟩ = some true)
    (K : ∀ a v, AggP H ps' v → Fr c a ((d, v) :: l) → wpList P ops Q rest a w) :
    wpList P ops Q (⟨some d, .build t parts, ty, pos, after, gu⟩ :: rest) a w := by
  obtain ⟨v, h1, h2⟩ := run_bldP (P := P) (ty := ty) (pos := pos) (after := after) (gu := gu) hT hA ht hk hall hz hal hx hf
  exact stepv (w' := w) (gd_spec hA hw) (h2 w) (K _ v h1 (hA.put hd _))
theorem q_bldP {d t : Nat} {parts : Array (Nat × Operand)} {te : TE} {fs : List (Nat × Nat × Nat)} {css : List (List Value)} {pv : List (Nat × Value)} (hT : TabOK P tab) (hA : Fr c a l) (ht : tk t tab = some te) (hk : te.tk = .struct fs)
    (hall : (fs.all (fun f => Nat.blt 0 f.2.2)) = true) (hz : vcells te.zero = css.flatten) (hal : Al H ps css) (hx : evp l parts.toList = some pv) (hf : fillP fs ps pv = some ps') (hd : Nat.blt d c.1 = true)
    (hw : gd ops l ⟨some d, .build t parts, ty, pos, after, gu⟩ = some true)
    (K : ∀ a v, AggP H ps' v → Fr c a ((d, v) :: l) → wpHold P ops C KQ rest a) :
    wpHold P ops C KQ (⟨some d, .build t parts, ty, pos, after, gu⟩ :: rest) a := by
  obtain ⟨v, h1, h2⟩ := run_bldP (P := P) (ty := ty) (pos := pos) (after := after) (gu := gu) hT hA ht hk hall hz hal hx hf
  exact qstep hA hw (fun w _ => h2 w) (K _ v h1 (hA.put hd _))

/-- an array in a variable, as a slice -/
theorem run_slA {T el n : Nat} {te se : TE} {x : Operand} {ad : Addr} (hT : TabOK P tab) (hA : Fr c a l) (hx : ev l x = some (.pointer (some ad))) (ht : tk T tab = some te) (hk : te.tk = .arr n el) (hs : tk el tab = some se) (w : World) :
    (Instr.sliceAt T (a.eval x) none none none).run P w = .ok (.slice (some ad) n n) w := by
  have hu := (hT T te ht).arr hk
  have hz := run_size (hT el se hs) w
  by_cases h0 : n = 0
  · subst h0
    simp [Instr.sliceAt, run_und hu, hA.eval hx, Instr.sureAddr, Instr.sliceBounds, hz]
  · simp [Instr.sliceAt, run_und hu, hA.eval hx, Instr.sureAddr, Instr.sliceBounds, hz, h0]
    unfold Addr.add
    simp
theorem o_slA {d T el n : Nat} {te se : TE} {x : Operand} {ad : Addr} (hT : TabOK P tab) (hA : Fr c a l) (hx : ev l x = some (.pointer (some ad))) (ht : tk T tab = some te) (hk : te.tk = .arr n el) (hs : tk el tab = some se) (hd : Nat.blt d c.1 = true)
    (hw : gd ops l ⟨some d, .slice T x none none none, ty, pos, after, gu⟩ = some true) (K : ∀ a, Fr c a ((d, .slice (some ad) n n) :: l) → wpList P ops Q rest a w) :
    wpList P ops Q (⟨some d, .slice T x none none none, ty, pos, after, gu⟩ :: rest) a w := by
  refine stepv (w' := w) (gd_spec hA hw) ?_ (K _ (hA.put hd _))
  have := run_slA (P := P) hT hA hx ht hk hs w
  simp [execOp, this]
theorem q_slA {d T el n : Nat} {te se : TE} {x : Operand} {ad : Addr} (hT : TabOK P tab) (hA : Fr c a l) (hx : ev l x = some (.pointer (some ad))) (ht : tk T tab = some te) (hk : te.tk = .arr n el) (hs : tk el tab = some se) (hd : Nat.blt d c.1 = true)
    (hw : gd ops l ⟨some d, .slice T x none none none, ty, pos, after, gu⟩ = some true) (K : ∀ a, Fr c a ((d, .slice (some ad) n n) :: l) → wpHold P ops C KQ rest a) :
    wpHold P ops C KQ (⟨some d, .slice T x none none none, ty, pos, after, gu⟩ :: rest) a := by
  refine qstep hA hw (fun w _ => ?_) (K _ (hA.put hd _))
  have := run_slA (P := P) hT hA hx ht hk hs w
  simp [execOp, this]

theorem BxP.rd {g off n k : Nat} {T : TypeId} (hb : BxP H p g T ps) (hk : ps[k]? = some (.a (ptA e n xs))) (ho : offP ps k = off) (hn : Nat.ble (n * e.bytes) lim = true) (hle : PHeap.le H (H.with p)) : RdS e (H.with p) (some ⟨g, off, none⟩) n xs := by
  obtain ⟨css, h1, h2⟩ := hb
  obtain ⟨pre, cs, post, e1, e2, e3, e4⟩ := h1.at hk
  obtain ⟨c1, c2, c3⟩ := (e3 : cs.length = n * e.n ∧ xs.length = n ∧ Cells e H cs.toArray 0 xs)
  unfold Bx at h2
  subst h2
  refine ⟨by omega, by rw [c2]; exact Nat.le_of_ble_eq_true hn, .inr ⟨g, off, _, T, (0, 0), rfl, PHeap.with_get sing_get, ?_⟩⟩
  refine Cells.ext (c3.mono hle) fun j v hj hv => ?_
  simp only [Nat.zero_add, List.getElem?_toArray] at hv ⊢
  have hlt := (List.getElem?_eq_some_iff.1 hv).1
  rw [e1, List.flatten_append, List.flatten_cons, List.getElem?_append_right (by omega), e2, ho, List.getElem?_append_left (by omega)]
  rw [show off + j - off = j from by omega]
  exact hv
theorem BxP.alen {g n k : Nat} {T : TypeId} (hb : BxP H p g T ps) (hk : ps[k]? = some (.a (ptA e n xs))) : xs.length = n := by
  obtain ⟨css, h1, h2⟩ := hb
  obtain ⟨pre, cs, post, e1, e2, e3, e4⟩ := h1.at hk
  exact e3.2.1
theorem AggP.alen {n k : Nat} {v : Value} (hb : AggP H ps v) (hk : ps[k]? = some (.a (ptA e n xs))) : xs.length = n := by
  obtain ⟨css, h1, h2⟩ := hb
  obtain ⟨pre, cs, post, e1, e2, e3, e4⟩ := h1.at hk
  exact e3.2.1
end
end Go.RL
