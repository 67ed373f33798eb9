/- A program logic over the model's machine, part 5: quiet steps, pieces of memory, loops, calls.
   Part of the proof of Rows.RegsFlowsSaid of the program 'recoup'. -/
import Derived.Test.YtoaimimdfddidaaLb4
set_option linter.unusedVariables false
set_option linter.unusedSimpArgs false
set_option linter.unusedSectionVars false
namespace Go.RL

/-! ### elements of slices, as data -/
structure ET (α : Type) where
  n : Nat
  bytes : Nat
  rd : PHeap → List Value → α → Prop
  len : ∀ {h cs x}, rd h cs x → cs.length = n
  mono : ∀ {h h' cs x}, PHeap.le h h' → rd h cs x → rd h' cs x
  one : ∀ {h cs x}, rd h cs x → ∀ v ∈ cs, v.oneCell' = true

def lim : Nat := 140737488355328

def Cells {α : Type} (e : ET α) (H : PHeap) (arr : Array Value) (off : Nat) (xs : List α) : Prop :=
  ∀ i x, xs[i]? = some x → ∃ cs, e.rd H cs x ∧ ∀ j v, cs[j]? = some v → arr[off + i * e.n + j]? = some v

def RdS {α : Type} (e : ET α) (H : PHeap) (A : Option Addr) (c : Nat) (xs : List α) : Prop :=
  xs.length ≤ c ∧ xs.length * e.bytes ≤ lim ∧ (xs = [] ∨ ∃ g off arr T fz, A = some ⟨g, off, none⟩ ∧ H g = some (.cells arr T fz) ∧ Cells e H arr off xs)

def OwnS {α : Type} (e : ET α) (T : TypeId) (H : PHeap) (A : Option Addr) (c : Nat) (xs : List α) (p : Piece) : Prop :=
  (c = 0 ∧ xs = [] ∧ p = emp) ∨
  ∃ g arr, A = some ⟨g, 0, none⟩ ∧ p = sing g (.cells arr T (0, 0)) ∧ arr.size = c * e.n ∧ xs.length ≤ c ∧ xs.length * e.bytes ≤ lim ∧ Cells e H arr 0 xs

def inR (k : IntKind) (x : Int) : Prop := k.min ≤ x ∧ x ≤ k.max
instance inR.dec (k : IntKind) (x : Int) : Decidable (inR k x) := inferInstanceAs (Decidable (_ ∧ _))

def eInt (k : IntKind) (b : Nat) : ET Int where
  n := 1
  bytes := b
  rd := fun _ cs x => cs = [.int k x] ∧ inR k x
  len := by rintro h cs x ⟨rfl, _⟩; rfl
  mono := fun _ h => h
  one := by rintro h cs x ⟨rfl, _⟩ v hv; simp at hv; subst hv; rfl
def eBool : ET Bool where
  n := 1
  bytes := 1
  rd := fun _ cs x => cs = [.bool x]
  len := by rintro h cs x rfl; rfl
  mono := fun _ h => h
  one := by rintro h cs x rfl v hv; simp at hv; subst hv; rfl

section
variable {α : Type} {e : ET α} {H H' : PHeap} {arr : Array Value} {off : Nat} {xs ys : List α} {A : Option Addr} {c : Nat} {T : TypeId} {p : Piece}

theorem Cells.mono (h : Cells e H arr off xs) (hle : PHeap.le H H') : Cells e H' arr off xs := fun i x hx => by
  obtain ⟨cs, h1, h2⟩ := h i x hx
  exact ⟨cs, e.mono hle h1, h2⟩
theorem Cells.nil : Cells e H arr off [] := fun i x hx => by simp at hx

theorem RdS.mono (h : RdS e H A c xs) (hle : PHeap.le H H') : RdS e H' A c xs := by
  obtain ⟨h1, h2, h3⟩ := h
  refine ⟨h1, h2, h3.imp id ?_⟩
  rintro ⟨g, off, arr, T, fz, q1, q2, q3⟩
  exact ⟨g, off, arr, T, fz, q1, hle _ _ q2, q3.mono hle⟩
theorem OwnS.mono (h : OwnS e T H A c xs p) (hle : PHeap.le H H') : OwnS e T H' A c xs p := by
  refine h.imp id ?_
  rintro ⟨g, arr, q1, q2, q3, q4, q5, q6⟩
  exact ⟨g, arr, q1, q2, q3, q4, q5, q6.mono hle⟩
theorem RdS.nil : RdS e H A c [] := ⟨Nat.zero_le _, by simp [lim], .inl rfl⟩
theorem OwnS.nil : OwnS e T H A 0 [] emp := .inl ⟨rfl, rfl, rfl⟩
theorem OwnS.le (h : OwnS e T H A c xs p) : xs.length ≤ c ∧ xs.length * e.bytes ≤ lim := by
  rcases h with ⟨rfl, rfl, _⟩ | ⟨g, arr, _, _, _, q4, q5, _⟩
  · simp [lim]
  · exact ⟨q4, q5⟩

/-- a slice of the call's own, read as others are, once it stays as it is -/
theorem OwnS.rd (h : OwnS e T H A c xs p) (hle : PHeap.le H (H.with p)) : RdS e (H.with p) A c xs := by
  rcases h with ⟨rfl, rfl, rfl⟩ | ⟨g, arr, q1, q2, q3, q4, q5, q6⟩
  · exact RdS.nil
  · refine ⟨q4, q5, .inr ⟨g, 0, arr, T, (0, 0), q1, ?_, q6.mono hle⟩⟩
    subst q2
    exact PHeap.with_get sing_get
end

/-- slices as elements -/
def eSl {α : Type} (e : ET α) : ET (List α) where
  n := 1
  bytes := 24
  rd := fun h cs xs => ∃ A c, cs = [.slice A xs.length c] ∧ RdS e h A c xs
  len := by rintro h cs x ⟨A, c, rfl, _⟩; rfl
  mono := by rintro h h' cs x hle ⟨A, c, rfl, q⟩; exact ⟨A, c, rfl, q.mono hle⟩
  one := by rintro h cs x ⟨A, c, rfl, _⟩ v hv; simp at hv; subst hv; rfl

/-! ### reads -/
def idx {α : Type} (xs : List α) (i : Int) : Option α := if 0 ≤ i then xs[i.toNat]? else none
theorem idx_nat {α : Type} (xs : List α) (i : Nat) : idx xs (i : Int) = xs[i]? := by simp [idx]
theorem idx_some {α : Type} {xs : List α} {i : Int} {x : α} (h : idx xs i = some x) : 0 ≤ i ∧ xs[i.toNat]? = some x ∧ i.toNat < xs.length := by
  unfold idx at h
  split at h
  · rename_i h0; exact ⟨h0, h, (List.getElem?_eq_some_iff.1 h).1⟩
  · cases h

def PR {α : Type} (e : ET α) (H : PHeap) (ad : Addr) (x : α) : Prop :=
  ∃ g off arr T fz cs, ad = ⟨g, off, none⟩ ∧ H g = some (.cells arr T fz) ∧ e.rd H cs x ∧ ∀ j v, cs[j]? = some v → arr[off + j]? = some v

def PO {α : Type} (e : ET α) (H : PHeap) (p : Piece) (ad : Addr) (x : α) : Prop :=
  ∃ g off arr T fz cs, ad = ⟨g, off, none⟩ ∧ p g = some (.cells arr T fz) ∧ e.rd H cs x ∧ ∀ j v, cs[j]? = some v → arr[off + j]? = some v

def ofc (agg : Bool) (cs : List Value) : Value := match agg with | true => .agg cs.toArray | false => cs.headD undef

/-- the address of element i of a slice of the call's own -/
def AtO (A : Option Addr) (n : Nat) (i : Nat) (ad : Addr) : Prop := ∃ g, A = some ⟨g, 0, none⟩ ∧ ad = ⟨g, i * n, none⟩

section
variable {P : Program} {tab : List (Nat × TE)} {ops : Array Oper} {Q : Exit → Act → World → Prop} {a : Act} {w w0 : World} {rest : List Oper} {c : Cfg} {l : List (Nat × Value)}
variable {X : Nat → Prop} {H : PHeap} {L : List Piece} {ty : TypeId} {pos : String} {after : Array Edge} {gu : Option (Nat × Bool)}
variable {α : Type} {e : ET α} {xs : List α}

theorem run_index {T el : Nat} {te se : TE} (hT : TabOK P tab) (ht : tk T tab = some te) (hk : te.tk = .slice el) (hs : tk el tab = some se) {k : IntKind} {i : Int} {ad : Addr} {n cp : Nat}
    (h0 : 0 ≤ i) (h1 : i < n) : (Instr.indexAt T (.slice (some ad) n cp) (.int k i)).run P w = .ok (.pointer (some (ad.add (i.toNat * se.size)))) w := by
  have hu := (hT T te ht).slice hk
  simp [Instr.indexAt, asIntOf, run_und hu, run_size (hT el se hs), h0, h1]

theorem o_idxR {d T el : Nat} {x y : Operand} {A : Option Addr} {cp : Nat} {te se : TE} {k : IntKind} {i : Int} {x0 : α} (hT : TabOK P tab) (hA : Fr c a l)
    (hr : RdS e H A cp xs) (hi : idx xs i = some x0) (hx : ev l x = some (.slice A xs.length cp)) (hy : ev l y = some (.int k i))
    (ht : tk T tab = some te) (hk : te.tk = .slice el) (hs : tk el tab = some se) (hn : se.size = e.n) (hd : Nat.blt d c.1 = true)
    (hw : gd ops l ⟨some d, .indexAddr T x y, ty, pos, after, gu⟩ = some true)
    (K : ∀ a ad, Fr c a ((d, .pointer (some ad)) :: l) → PR e H ad x0 → wpList P ops Q rest a w) :
    wpList P ops Q (⟨some d, .indexAddr T x y, ty, pos, after, gu⟩ :: rest) a w := by
  obtain ⟨h0, h1, h2⟩ := idx_some hi
  obtain ⟨_, _, h3⟩ := hr
  rcases h3 with rfl | ⟨g, off, arr, T', fz, rfl, q2, q3⟩
  · simp at h1
  · obtain ⟨cs, r1, r2⟩ := q3 _ _ h1
    refine stepv (v := .pointer (some ⟨g, off + i.toNat * e.n, none⟩)) (w' := w) (gd_spec hA hw) ?_ (K _ _ (hA.put hd _) ⟨g, _, arr, T', fz, cs, rfl, q2, r1, r2⟩)
    have := run_index (P := P) (w := w) hT ht hk hs (k := k) (ad := ⟨g, off, none⟩) (n := xs.length) (cp := cp) h0 (by omega)
    rw [add_eq, hn] at this
    simp [execOp, hA.eval hx, hA.eval hy, this]

theorem o_idxO {d T el : Nat} {x y : Operand} {A : Option Addr} {cp : Nat} {p : Piece} {te se : TE} {k : IntKind} {i : Int} {x0 : α} {Tb : TypeId} (hT : TabOK P tab) (hA : Fr c a l)
    (hr : OwnS e Tb H A cp xs p) (hi : idx xs i = some x0) (hx : ev l x = some (.slice A xs.length cp)) (hy : ev l y = some (.int k i))
    (ht : tk T tab = some te) (hk : te.tk = .slice el) (hs : tk el tab = some se) (hn : se.size = e.n) (hd : Nat.blt d c.1 = true)
    (hw : gd ops l ⟨some d, .indexAddr T x y, ty, pos, after, gu⟩ = some true)
    (K : ∀ a ad, Fr c a ((d, .pointer (some ad)) :: l) → PO e H p ad x0 → AtO A e.n i.toNat ad → wpList P ops Q rest a w) :
    wpList P ops Q (⟨some d, .indexAddr T x y, ty, pos, after, gu⟩ :: rest) a w := by
  obtain ⟨h0, h1, h2⟩ := idx_some hi
  rcases hr with ⟨_, rfl, _⟩ | ⟨g, arr, rfl, rfl, q3, q4, q5, q6⟩
  · simp at h1
  · obtain ⟨cs, r1, r2⟩ := q6 _ _ h1
    simp only [Nat.zero_add] at r2
    refine stepv (v := .pointer (some ⟨g, i.toNat * e.n, none⟩)) (w' := w) (gd_spec hA hw) ?_ (K _ _ (hA.put hd _) ⟨g, _, arr, Tb, (0, 0), cs, rfl, sing_get, r1, r2⟩ ⟨g, rfl, rfl⟩)
    have := run_index (P := P) (w := w) hT ht hk hs (k := k) (ad := ⟨g, 0, none⟩) (n := xs.length) (cp := cp) h0 (by omega)
    rw [add_eq, hn] at this
    simp only [Nat.zero_add] at this
    simp [execOp, hA.eval hx, hA.eval hy, this]

theorem ofc_spec {te : TE} {cs : List Value} (hl : cs.length = te.size) (h1 : te.one = true) :
    (match te.tk.isAgg with | true => some (.agg cs.toArray) | false => cs[0]?) = some (ofc te.tk.isAgg cs) := by
  cases ha : te.tk.isAgg with
  | true => rfl
  | false =>
    have := TE.one_spec h1 ha
    rw [this] at hl
    match cs, hl with
    | [v], _ => rfl

theorem o_ldR {d T : Nat} {x : Operand} {ad : Addr} {te : TE} {x0 : α} (hT : TabOK P tab) (hA : Fr c a l) (hS : St X w0 w H L)
    (hr : PR e H ad x0) (hx : ev l x = some (.pointer (some ad))) (ht : tk T tab = some te) (h1 : te.one = true) (hn : te.size = e.n) (hd : Nat.blt d c.1 = true)
    (hw : gd ops l ⟨some d, .load T x, ty, pos, after, gu⟩ = some true)
    (K : ∀ a cs, e.rd H cs x0 → Fr c a ((d, ofc te.tk.isAgg cs) :: l) → wpList P ops Q rest a w) :
    wpList P ops Q (⟨some d, .load T x, ty, pos, after, gu⟩ :: rest) a w := by
  obtain ⟨g, off, arr, T', fz, cs, rfl, q2, q3, q4⟩ := hr
  have hl : cs.length = te.size := (e.len q3).trans hn.symm
  refine stepv (v := ofc te.tk.isAgg cs) (w' := w) (gd_spec hA hw) ?_ (K _ cs q3 (hA.put hd _))
  have hg := hS.imm _ _ q2
  have := run_loadVar (P := P) (w := w) (g := g) (off := off) (hT T te ht) hl (fun j v hv => by rw [cell_of hg]; exact q4 j v hv) (ofc_spec hl h1)
  simp [execOp, Instr.loadAt, Instr.sureAddr, hA.eval hx, this]

theorem o_ldO {d T i : Nat} {x : Operand} {ad : Addr} {p : Piece} {te : TE} {x0 : α} (hT : TabOK P tab) (hA : Fr c a l) (hS : St X w0 w H L)
    (hr : PO e H p ad x0) (hx : ev l x = some (.pointer (some ad))) (hp : L[i]? = some p) (ht : tk T tab = some te) (h1 : te.one = true) (hn : te.size = e.n) (hd : Nat.blt d c.1 = true)
    (hw : gd ops l ⟨some d, .load T x, ty, pos, after, gu⟩ = some true)
    (K : ∀ a cs, e.rd H cs x0 → Fr c a ((d, ofc te.tk.isAgg cs) :: l) → wpList P ops Q rest a w) :
    wpList P ops Q (⟨some d, .load T x, ty, pos, after, gu⟩ :: rest) a w := by
  obtain ⟨g, off, arr, T', fz, cs, rfl, q2, q3, q4⟩ := hr
  have hl : cs.length = te.size := (e.len q3).trans hn.symm
  refine stepv (v := ofc te.tk.isAgg cs) (w' := w) (gd_spec hA hw) ?_ (K _ cs q3 (hA.put hd _))
  have hg := hS.get hp q2
  have := run_loadVar (P := P) (w := w) (g := g) (off := off) (hT T te ht) hl (fun j v hv => by rw [cell_of hg]; exact q4 j v hv) (ofc_spec hl h1)
  simp [execOp, Instr.loadAt, Instr.sureAddr, hA.eval hx, this]

/-- a field of an element -/
def EF {α β : Type} (e : ET α) (f : ET β) (off : Nat) (get : α → β) : Prop :=
  ∀ h cs x, e.rd h cs x → ∃ ds, f.rd h ds (get x) ∧ ∀ j v, ds[j]? = some v → cs[off + j]? = some v
theorem PR.field {β : Type} {f : ET β} {off : Nat} {get : α → β} {ad : Addr} {x0 : α} (h : PR e H ad x0) (hf : EF e f off get) : PR f H (ad.add off) (get x0) := by
  obtain ⟨g, o, arr, T, fz, cs, rfl, q2, q3, q4⟩ := h
  obtain ⟨ds, r1, r2⟩ := hf _ _ _ q3
  exact ⟨g, o + off, arr, T, fz, ds, add_eq _ _ _, q2, r1, fun j v hv => by rw [Nat.add_assoc]; exact q4 _ _ (r2 j v hv)⟩
theorem PO.field {β : Type} {f : ET β} {off : Nat} {get : α → β} {ad : Addr} {p : Piece} {x0 : α} (h : PO e H p ad x0) (hf : EF e f off get) : PO f H p (ad.add off) (get x0) := by
  obtain ⟨g, o, arr, T, fz, cs, rfl, q2, q3, q4⟩ := h
  obtain ⟨ds, r1, r2⟩ := hf _ _ _ q3
  exact ⟨g, o + off, arr, T, fz, ds, add_eq _ _ _, q2, r1, fun j v hv => by rw [Nat.add_assoc]; exact q4 _ _ (r2 j v hv)⟩

/-! ### stores into a slice of the call's own -/
theorem stv_get : ∀ (vs cs : List Value) (off j : Nat), off + vs.length ≤ cs.length → (stv cs off vs)[j]? = if off ≤ j ∧ j < off + vs.length then vs[j - off]? else cs[j]?
  | [], cs, off, j, _ => by rw [if_neg (by simp only [List.length_nil]; omega)]; rfl
  | v :: vs, cs, off, j, h => by
    simp only [List.length_cons] at h
    rw [stv, stv_get vs _ _ _ (by simp; omega)]
    by_cases e : j = off
    · subst e
      rw [if_neg (by omega), if_pos (by simp)]
      rw [List.getElem?_set]
      simp
      first | done | omega
    · by_cases h1 : off + 1 ≤ j ∧ j < off + 1 + vs.length
      · rw [if_pos h1, if_pos (by simp; omega)]
        have : j - off = (j - (off + 1)) + 1 := by omega
        rw [this, List.getElem?_cons_succ]
      · rw [if_neg h1, if_neg (by simp; omega), List.getElem?_set, if_neg (by omega)]

theorem Cells.set {arr : Array Value} {cs : List Value} {i : Nat} {y : α} (h : Cells e H arr 0 xs) (hi : i < xs.length) (hy : e.rd H cs y) (hle : (xs.length) * e.n ≤ arr.size) :
    Cells e H (stv arr.toList (i * e.n) cs).toArray 0 (xs.set i y) := by
  have hl := e.len hy
  have hmul : (i + 1) * e.n ≤ xs.length * e.n := Nat.mul_le_mul_right _ (by omega)
  have hfit : i * e.n + cs.length ≤ arr.toList.length := by
    rw [hl, Array.length_toList]
    rw [Nat.add_mul] at hmul
    omega
  intro j x hx
  rw [List.getElem?_set] at hx
  split at hx
  · rename_i e1
    subst e1
    simp [hi] at hx
    subst hx
    refine ⟨cs, hy, fun k v hv => ?_⟩
    have hk : k < cs.length := (List.getElem?_eq_some_iff.1 hv).1
    simp only [Nat.zero_add, List.getElem?_toArray]
    rw [stv_get _ _ _ _ hfit, if_pos (by omega)]
    rw [show i * e.n + k - i * e.n = k from by omega]
    exact hv
  · rename_i e1
    obtain ⟨ds, h1, h2⟩ := h j x hx
    refine ⟨ds, h1, fun k v hv => ?_⟩
    have hk : k < ds.length := (List.getElem?_eq_some_iff.1 hv).1
    rw [e.len h1] at hk
    have := h2 k v hv
    simp only [Nat.zero_add, List.getElem?_toArray] at this ⊢
    rw [stv_get _ _ _ _ hfit, if_neg, Array.getElem?_toList]
    · exact this
    · rw [hl]
      rcases Nat.lt_or_gt_of_ne e1 with q | q
      · have : (i + 1) * e.n ≤ j * e.n := Nat.mul_le_mul_right _ (by omega)
        rw [Nat.add_mul] at this
        omega
      · have : (j + 1) * e.n ≤ i * e.n := Nat.mul_le_mul_right _ (by omega)
        rw [Nat.add_mul] at this
        omega

theorem o_stO {T k i : Nat} {x y : Operand} {ad : Addr} {A : Option Addr} {cp : Nat} {p : Piece} {Tb : TypeId} {te : TE} {v : Value} {y0 : α} {ds : Option Nat} (hT : TabOK P tab) (hA : Fr c a l) (hS : St X w0 w H L)
    (hr : OwnS e Tb H A cp xs p) (hat : AtO A e.n i ad) (hi : i < xs.length) (hv : e.rd H (vcells v) y0) (hx : ev l x = some (.pointer (some ad))) (hy : ev l y = some v) (hp : L[k]? = some p)
    (ht : tk T tab = some te) (hn : te.size = e.n) (hds : ds = none)
    (hw : gd ops l ⟨ds, .store T x y, ty, pos, after, gu⟩ = some true)
    (K : ∀ w p, St X w0 w H (L.set k p) → OwnS e Tb H A cp (xs.set i y0) p → wpList P ops Q rest a w) :
    wpList P ops Q (⟨ds, .store T x y, ty, pos, after, gu⟩ :: rest) a w := by
  subst hds
  obtain ⟨g, hg1, rfl⟩ := hat
  rcases hr with ⟨_, rfl, _⟩ | ⟨g', arr, rfl, rfl, q3, q4, q5, q6⟩
  · simp at hi
  · injection hg1 with hg1
    injection hg1 with hg1 _ _
    subst hg1
    have hlen := e.len hv
    have hfit : i * e.n + (vcells v).length ≤ arr.toList.length := by
      have hmul : (i + 1) * e.n ≤ cp * e.n := Nat.mul_le_mul_right _ (by omega)
      rw [Nat.add_mul] at hmul
      rw [hlen, Array.length_toList, q3]
      omega
    have hk : k < L.length := (List.getElem?_eq_some_iff.1 hp).1
    obtain ⟨w', r1, r2⟩ := run_stores (P := P) (i := k) (g := g') (T := Tb) (vcells v) arr.toList (i * e.n) 0 hk hS hp (by rw [Array.toArray_toList]; exact sing_get) (by omega) (fun u hu => e.one hv u hu)
    rw [upd_sing] at r2
    refine steps (gd_spec hA hw) (w' := w') ?_ (K w' _ r2 (.inr ⟨g', _, rfl, rfl, ?_, by simpa using q4, by simpa using q5, ?_⟩))
    · have hsz' : v.cells.size = te.size := by
        rw [hn, ← hlen, ← vcells_eq]; simp
      simp [execOp, Instr.storeAt, Instr.sureAddr, hA.eval hx, hA.eval hy, storeVar, run_size (hT T te ht), hsz', vcells_eq, r1]
    · simp [stv_length, q3]
    · simp only [Nat.add_zero]
      exact q6.set hi hv (by rw [q3]; exact Nat.mul_le_mul_right _ q4)
end
end Go.RL
