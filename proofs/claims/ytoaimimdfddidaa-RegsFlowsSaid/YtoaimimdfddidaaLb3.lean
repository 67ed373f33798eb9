/- A program logic over the model's machine, part 3: quiet steps, pieces of memory, loops, calls.
   Part of the proof of Rows.RegsFlowsSaid of the program 'recoup'. -/
import Derived.Test.YtoaimimdfddidaaLb2
set_option linter.unusedVariables false
set_option linter.unusedSimpArgs false
set_option linter.unusedSectionVars false
namespace Go.RL

/-! ### runs of operations that touch no memory -/
def pevn (tab : List (Nat × TE)) (ops : Array Oper) (N : Nat) : Nat → List (Nat × Value) → List Oper → Option (List (Nat × Value) × List Oper)
  | 0, l, os => some (l, os)
  | _ + 1, _, [] => none
  | n + 1, l, o :: os =>
    match gd ops l o with
    | some true =>
      match pev tab l o.op, o.dst with
      | some v, some d => bif Nat.blt d N then pevn tab ops N n ((d, v) :: l) os else none
      | _, _ => none
    | some false =>
      match o.dst with
      | some d => bif Nat.blt d N then pevn tab ops N n ((d, undef) :: l) os else none
      | none => pevn tab ops N n l os
    | none => none

section
variable {P : Program} {tab : List (Nat × TE)} {ops : Array Oper} {Q : Exit → Act → World → Prop} {a : Act} {w : World} {rest os : List Oper} {c : Cfg} {l l' : List (Nat × Value)}

theorem pr (hT : TabOK P tab) : ∀ (n : Nat) {a : Act} {l : List (Nat × Value)} {os : List Oper}, Fr c a l → pevn tab ops c.1 n l os = some (l', rest) →
    (∀ a, Fr c a l' → wpList P ops Q rest a w) → wpList P ops Q os a w
  | 0, a, l, os, hA, h, K => by
    simp only [pevn] at h
    injection h with h
    injection h with h1 h2
    subst h1; subst h2
    exact K _ hA
  | n + 1, a, l, [], hA, h, K => by simp [pevn] at h
  | n + 1, a, l, o :: os, hA, h, K => by
    simp only [pevn] at h
    split at h
    · rename_i hg
      split at h
      · rename_i v d hv hd
        cases hb : Nat.blt d c.1 with
        | false => rw [hb] at h; cases h
        | true =>
          rw [hb] at h
          refine stepv (gd_spec hA hg) (pev_spec hT hA hv w) ?_
          rw [hd]
          exact pr hT n (hA.put hb v) h K
      · cases h
    · rename_i hg
      split at h
      · rename_i d hd
        cases hb : Nat.blt d c.1 with
        | false => rw [hb] at h; cases h
        | true =>
          rw [hb] at h
          refine stepno (gd_spec hA hg) ?_
          rw [hd]
          exact pr hT n (hA.put hb undef) h K
      · rename_i hd
        refine stepno (gd_spec hA hg) ?_
        rw [hd]
        exact pr hT n hA h K
    · cases h
end

/-! ### the heap: what stays as it is (H), and what is the call's own (L) -/
abbrev PHeap := Nat → Option Obj
def PHeap.le (h h' : PHeap) : Prop := ∀ b o, h b = some o → h' b = some o
theorem PHeap.le.refl (h : PHeap) : PHeap.le h h := fun _ _ e => e
theorem PHeap.le.trans {a b c : PHeap} (h : PHeap.le a b) (k : PHeap.le b c) : PHeap.le a c := fun x o e => k x o (h x o e)
/-- a piece of the heap that is the call's own -/
abbrev Piece := PHeap
def emp : Piece := fun _ => none
def sing (g : Nat) (o : Obj) : Piece := fun b => bif Nat.beq b g then some o else none
def PHeap.upd (p : PHeap) (g : Nat) (o : Obj) : PHeap := fun b => bif Nat.beq b g then some o else p b
theorem beq_ff {b g : Nat} (h : b ≠ g) : Nat.beq b g = false := by
  cases hb : Nat.beq b g with
  | false => rfl
  | true => exact absurd (Nat.eq_of_beq_eq_true hb) h
theorem sing_get {g : Nat} {o : Obj} : sing g o g = some o := by simp [sing, Nat.beq_refl]
theorem sing_some {g b : Nat} {o u : Obj} (h : sing g o b = some u) : b = g ∧ u = o := by
  unfold sing at h
  cases hb : Nat.beq b g with
  | false => rw [hb] at h; cases h
  | true =>
    rw [hb] at h
    exact ⟨Nat.eq_of_beq_eq_true hb, by injection h with h; exact h.symm⟩
theorem upd_get {p : PHeap} {g : Nat} {o : Obj} : p.upd g o g = some o := by simp [PHeap.upd, Nat.beq_refl]
theorem upd_ne {p : PHeap} {g b : Nat} {o : Obj} (h : b ≠ g) : p.upd g o b = p b := by simp [PHeap.upd, beq_ff h]
theorem upd_sing {g : Nat} {o u : Obj} : (sing g o).upd g u = sing g u := by
  funext b
  by_cases h : b = g
  · subst h; rw [upd_get, sing_get]
  · rw [upd_ne h]; simp [sing, beq_ff h]

structure Ev (w0 w : World) : Prop where
  os : w.os = w0.os
  tape : w.tape = w0.tape
  output : w.output = w0.output
  size : w0.heap.size ≤ w.heap.size
theorem Ev.refl (w : World) : Ev w w := ⟨rfl, rfl, rfl, Nat.le_refl _⟩
theorem Ev.trans {a b c : World} (h : Ev a b) (k : Ev b c) : Ev a c := ⟨k.os.trans h.os, k.tape.trans h.tape, k.output.trans h.output, Nat.le_trans h.size k.size⟩

def noX : Nat → Prop := fun _ => False

structure St (X : Nat → Prop) (w0 w : World) (H : PHeap) (L : List Piece) : Prop where
  ev : Ev w0 w
  old : ∀ b, b < w0.heap.size → ¬ X b → w.heap[b]? = w0.heap[b]?
  imm : ∀ b o, H b = some o → w.heap[b]? = some o
  own : ∀ p ∈ L, ∀ g o, p g = some o → w.heap[g]? = some o ∧ H g = none ∧ (w0.heap.size ≤ g ∨ X g)
  apart : L.Pairwise fun p q => ∀ g o o', p g = some o → q g = some o' → False

theorem lt_of_some {w : World} {b : Nat} {o : Obj} (h : w.heap[b]? = some o) : b < w.heap.size := by
  rcases Nat.lt_or_ge b w.heap.size with q | q
  · exact q
  · rw [Array.getElem?_eq_none q] at h; cases h

section
variable {X : Nat → Prop} {w0 w : World} {H H' : PHeap} {L L' : List Piece}

theorem St.start {w : World} {H : PHeap} (h : ∀ b o, H b = some o → w.heap[b]? = some o) (X : Nat → Prop) : St X w w H [] :=
  ⟨Ev.refl w, fun _ _ _ => rfl, h, fun _ hp => (by cases hp), List.Pairwise.nil⟩

theorem St.lower (hS : St X w0 w H L) (hle : PHeap.le H' H) : St X w0 w H' L :=
  ⟨hS.ev, hS.old, fun b o h => hS.imm b o (hle b o h), fun p hp g o e => (by
    obtain ⟨h1, h2, h3⟩ := hS.own p hp g o e
    refine ⟨h1, ?_, h3⟩
    cases hh : H' g with
    | none => rfl
    | some x => rw [hle g x hh] at h2; cases h2), hS.apart⟩

theorem St.drew (hS : St X w0 w H L) : St X w0 { w with drawn := w.drawn + 1 } H L := ⟨⟨hS.ev.os, hS.ev.tape, hS.ev.output, hS.ev.size⟩, hS.old, hS.imm, hS.own, hS.apart⟩

theorem St.alloc (hS : St X w0 w H L) (o : Obj) : St X w0 { w with heap := w.heap.push o } H (sing w.heap.size o :: L) := by
  refine ⟨⟨hS.ev.os, hS.ev.tape, hS.ev.output, ?_⟩, fun b hb hx => ?_, fun b u h => ?_, fun p hp g u e => ?_, ?_⟩
  · have := hS.ev.size
    simp only [Array.size_push]
    omega
  · have := hS.ev.size
    rw [Array.getElem?_push, if_neg (by omega)]
    exact hS.old b hb hx
  · have h1 := hS.imm b u h
    have := lt_of_some h1
    rw [Array.getElem?_push, if_neg (by omega)]
    exact h1
  · cases hp with
    | head =>
      obtain ⟨rfl, rfl⟩ := sing_some e
      refine ⟨by simp, ?_, .inl hS.ev.size⟩
      cases hh : H w.heap.size with
      | none => rfl
      | some x => exact absurd (lt_of_some (hS.imm _ _ hh)) (by omega)
    | tail _ hp =>
      obtain ⟨h1, h2, h3⟩ := hS.own p hp g u e
      have := lt_of_some h1
      refine ⟨?_, h2, h3⟩
      rw [Array.getElem?_push, if_neg (by omega)]
      exact h1
  · refine List.Pairwise.cons (fun q hq g u u' e e' => ?_) hS.apart
    obtain ⟨rfl, rfl⟩ := sing_some e
    have := lt_of_some (hS.own q hq _ _ e').1
    omega

theorem St.get {i : Nat} {g : Nat} {o : Obj} {p : Piece} (hS : St X w0 w H L) (h : L[i]? = some p) (hp : p g = some o) : w.heap[g]? = some o :=
  (hS.own _ (List.mem_of_getElem? h) g o hp).1

theorem cell_of {w : World} {g off : Nat} {arr : Array Value} {T : TypeId} {fz : Nat × Nat} (h : w.heap[g]? = some (.cells arr T fz)) : w.cell? ⟨g, off, none⟩ = arr[off]? := by
  simp [World.cell?, h]
theorem frozen_of {w : World} {g off : Nat} {arr : Array Value} {T : TypeId} (h : w.heap[g]? = some (.cells arr T (0, 0))) : w.frozen? ⟨g, off, none⟩ = false := by
  simp [World.frozen?, h]

/-- one piece's object turned -/
theorem St.turn {i : Nat} {g : Nat} {o o' : Obj} {p : Piece} {w' : World} (hS : St X w0 w H L) (h : L[i]? = some p) (hp : p g = some o)
    (hos : w'.os = w.os) (ht : w'.tape = w.tape) (hout : w'.output = w.output) (hsz : w'.heap.size = w.heap.size)
    (hg : w'.heap[g]? = some o') (hb : ∀ b, b ≠ g → w'.heap[b]? = w.heap[b]?) : St X w0 w' H (L.set i (p.upd g o')) := by
  have hown := hS.own _ (List.mem_of_getElem? h) g o hp
  have hi : i < L.length := by
    rcases Nat.lt_or_ge i L.length with q | q
    · exact q
    · rw [List.getElem?_eq_none q] at h; cases h
  have hLi : L[i] = p := by rw [List.getElem?_eq_getElem hi] at h; injection h
  -- other pieces lie in other blocks
  have hne : ∀ j (hj : j < L.length), j ≠ i → ∀ g' u u', L[j] g' = some u → p g' = some u' → False := by
    intro j hj hji g' u u' e e'
    rcases Nat.lt_or_gt_of_ne hji with q | q
    · exact (List.pairwise_iff_getElem.1 hS.apart j i hj hi q) g' u u' e (by rw [hLi]; exact e')
    · exact (List.pairwise_iff_getElem.1 hS.apart i j hi hj q) g' u' u (by rw [hLi]; exact e') e
  have hup : ∀ b u, p.upd g o' b = some u → ∃ u', p b = some u' := by
    intro b u e
    by_cases hbg : b = g
    · subst hbg; exact ⟨_, hp⟩
    · rw [upd_ne hbg] at e; exact ⟨_, e⟩
  refine ⟨⟨hos.trans hS.ev.os, ht.trans hS.ev.tape, hout.trans hS.ev.output, by rw [hsz]; exact hS.ev.size⟩, fun b hb' hx => ?_, fun b u hu => ?_, fun q hq g' u e => ?_, ?_⟩
  · have : b ≠ g := by
      rintro rfl
      rcases hown.2.2 with q | q
      · omega
      · exact hx q
    rw [hb b this]
    exact hS.old b hb' hx
  · have : b ≠ g := by rintro rfl; rw [hown.2.1] at hu; cases hu
    rw [hb b this]
    exact hS.imm b u hu
  · obtain ⟨j, hj, hpj⟩ := List.getElem_of_mem hq
    rw [List.length_set] at hj
    rw [List.getElem_set] at hpj
    split at hpj
    · rename_i hij
      subst hpj
      by_cases hbg : g' = g
      · subst hbg
        rw [upd_get] at e
        injection e with e
        subst e
        exact ⟨hg, hown.2.1, hown.2.2⟩
      · rw [upd_ne hbg] at e
        obtain ⟨h1, h2, h3⟩ := hS.own p (List.mem_of_getElem? h) g' u e
        exact ⟨by rw [hb g' hbg]; exact h1, h2, h3⟩
    · rename_i hij
      subst hpj
      have hgg : g' ≠ g := by
        rintro rfl
        exact hne j (by simpa using hj) (fun e' => hij e'.symm) _ _ _ e hp
      obtain ⟨h1, h2, h3⟩ := hS.own _ (List.getElem_mem hj) g' u e
      exact ⟨by rw [hb g' hgg]; exact h1, h2, h3⟩
  · rw [List.pairwise_iff_getElem]
    intro j k hj hk hjk g' u u' e e'
    rw [List.length_set] at hj hk
    rw [List.getElem_set] at e e'
    split at e <;> split at e'
    · omega
    · rename_i h1 h2
      obtain ⟨v, hv⟩ := hup _ _ e
      exact hne k hk (fun q => h2 q.symm) _ _ _ e' hv
    · rename_i h1 h2
      obtain ⟨v, hv⟩ := hup _ _ e'
      exact hne j hj (fun q => h1 q.symm) _ _ _ e hv
    · exact (List.pairwise_iff_getElem.1 hS.apart j k hj hk hjk) _ _ _ e e'

theorem St.set1 {i : Nat} {g off : Nat} {arr : Array Value} {T : TypeId} {p : Piece} (hS : St X w0 w H L) (h : L[i]? = some p) (hp : p g = some (.cells arr T (0, 0))) (v : Value) :
    St X w0 (w.setCell ⟨g, off, none⟩ v) H (L.set i (p.upd g (.cells (arr.setIfInBounds off v) T (0, 0)))) := by
  have hg := hS.get h hp
  refine hS.turn h hp rfl rfl rfl (by simp [World.setCell]) ?_ (fun b hb => ?_)
  · simp [World.setCell, Array.getElem?_modify, hg]
  · simp only [World.setCell, Array.getElem?_modify]
    rw [if_neg (fun e => hb e.symm)]

/-- some of the pieces, in another order -/
def picks (L : List Piece) : List Nat → Option (List Piece)
  | [] => some []
  | i :: is =>
    match L[i]?, picks L is with
    | some p, some ps => some (p :: ps)
    | _, _ => none

theorem picks_get : ∀ {is : List Nat} {L' : List Piece}, picks L is = some L' → L'.length = is.length ∧ ∀ j (hj : j < is.length) (hj' : j < L'.length), L[is[j]]? = some L'[j]
  | [], L', h => by simp [picks] at h; subst h; exact ⟨rfl, fun j hj => absurd hj (by simp)⟩
  | i :: is, L', h => by
    unfold picks at h
    split at h
    · rename_i p ps hp hps
      injection h with h
      subst h
      obtain ⟨h1, h2⟩ := picks_get hps
      refine ⟨by simp [h1], fun j hj hj' => ?_⟩
      cases j with
      | zero => simpa using hp
      | succ j => simpa using h2 j (by simpa using hj) (by simpa using hj')
    · cases h

theorem St.pick {is : List Nat} (hS : St X w0 w H L) (h : picks L is = some L') (hn : is.Nodup) : St X w0 w H L' := by
  obtain ⟨hl, hg⟩ := picks_get h
  refine ⟨hS.ev, hS.old, hS.imm, fun p hp g o e => ?_, ?_⟩
  · obtain ⟨j, hj, hpj⟩ := List.getElem_of_mem hp
    have := hg j (by omega) hj
    rw [hpj] at this
    exact hS.own p (List.mem_of_getElem? this) g o e
  · rw [List.pairwise_iff_getElem]
    intro j k hj hk hjk g u u' e e'
    have h1 := hg j (by omega) hj
    have h2 := hg k (by omega) hk
    have hne : is[j]'(by omega) ≠ is[k]'(by omega) := (List.pairwise_iff_getElem.1 hn) j k (by omega) (by omega) hjk
    obtain ⟨a1, a2⟩ := List.getElem?_eq_some_iff.1 h1
    obtain ⟨b1, b2⟩ := List.getElem?_eq_some_iff.1 h2
    rcases Nat.lt_or_gt_of_ne hne with q | q
    · exact (List.pairwise_iff_getElem.1 hS.apart _ _ a1 b1 q) _ _ _ (by rw [a2]; exact e) (by rw [b2]; exact e')
    · exact (List.pairwise_iff_getElem.1 hS.apart _ _ b1 a1 q) _ _ _ (by rw [b2]; exact e') (by rw [a2]; exact e)

/-- a piece becomes part of what stays -/
def PHeap.with (H : PHeap) (p : Piece) : PHeap := fun b => match p b with | some o => some o | none => H b

theorem PHeap.with_le {H : PHeap} {p : Piece} (h : ∀ g o, p g = some o → H g = none) : PHeap.le H (H.with p) := by
  intro b u e
  simp only [PHeap.with]
  cases hp : p b with
  | none => exact e
  | some o => rw [h b o hp] at e; cases e

theorem PHeap.with_get {H : PHeap} {p : Piece} {g : Nat} {o : Obj} (h : p g = some o) : (H.with p) g = some o := by
  simp [PHeap.with, h]
theorem PHeap.with_ple {H : PHeap} {p : Piece} : PHeap.le p (H.with p) := fun _ _ h => PHeap.with_get h

theorem St.freeze {i : Nat} {p : Piece} (hS : St X w0 w H L) (h : L[i]? = some p) : St X w0 w (H.with p) (L.set i emp) ∧ PHeap.le H (H.with p) := by
  have hi : i < L.length := by
    rcases Nat.lt_or_ge i L.length with q | q
    · exact q
    · rw [List.getElem?_eq_none q] at h; cases h
  have hLi : L[i] = p := by rw [List.getElem?_eq_getElem hi] at h; injection h
  have hle : PHeap.le H (H.with p) := PHeap.with_le fun g o e => (hS.own p (List.mem_of_getElem? h) g o e).2.1
  refine ⟨⟨hS.ev, hS.old, fun b u e => ?_, fun q hq g u e => ?_, ?_⟩, hle⟩
  · simp only [PHeap.with] at e
    split at e
    · rename_i o hp
      injection e with e
      subst e
      exact hS.get h hp
    · exact hS.imm b u e
  · obtain ⟨j, hj, hqj⟩ := List.getElem_of_mem hq
    rw [List.length_set] at hj
    rw [List.getElem_set] at hqj
    split at hqj
    · rw [← hqj] at e; cases e
    · rename_i hij
      subst hqj
      obtain ⟨h1, h2, h3⟩ := hS.own _ (List.getElem_mem hj) g u e
      refine ⟨h1, ?_, h3⟩
      simp only [PHeap.with]
      cases hp : p g with
      | none => exact h2
      | some o =>
        exfalso
        rcases Nat.lt_or_gt_of_ne hij with q | q
        · exact (List.pairwise_iff_getElem.1 hS.apart i j hi hj q) _ _ _ (by rw [hLi]; exact hp) e
        · exact (List.pairwise_iff_getElem.1 hS.apart j i hj hi q) _ _ _ e (by rw [hLi]; exact hp)
  · rw [List.pairwise_iff_getElem]
    intro j k hj hk hjk g u u' e e'
    rw [List.length_set] at hj hk
    rw [List.getElem_set] at e e'
    split at e
    · cases e
    · split at e'
      · cases e'
      · exact (List.pairwise_iff_getElem.1 hS.apart j k hj hk hjk) _ _ _ e e'
end
end Go.RL
