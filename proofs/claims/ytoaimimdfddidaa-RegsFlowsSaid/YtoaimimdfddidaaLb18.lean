/- A program logic over the model's machine, part 18: quiet steps, pieces of memory, loops, calls.
   Part of the proof of Rows.RegsFlowsSaid of the program 'recoup'. -/
import Derived.Test.YtoaimimdfddidaaLb17
set_option linter.unusedVariables false
set_option linter.unusedSimpArgs false
set_option linter.unusedSectionVars false
namespace Go.RL
set_option linter.unusedVariables false

/-! ### pieces put together -/
def Dj (p q : Piece) : Prop := ∀ g o o', p g = some o → q g = some o' → False
theorem Dj.symm {p q : Piece} (h : Dj p q) : Dj q p := fun g o o' a b => h g o' o b a
def joinL : List Piece → Piece
  | [] => emp
  | p :: ps => fun b => match p b with | some o => some o | none => joinL ps b

theorem joinL_some : ∀ {qs : List Piece} {g : Nat} {o : Obj}, joinL qs g = some o → ∃ q ∈ qs, q g = some o
  | [], g, o, h => by cases h
  | p :: ps, g, o, h => by
    simp only [joinL] at h
    split at h
    · rename_i u hu
      injection h with h; subst h
      exact ⟨p, List.mem_cons_self .., hu⟩
    · obtain ⟨q, h1, h2⟩ := joinL_some h
      exact ⟨q, List.mem_cons_of_mem _ h1, h2⟩
theorem joinL_get : ∀ {qs : List Piece} {q : Piece} {g : Nat} {o : Obj}, qs.Pairwise Dj → q ∈ qs → q g = some o → joinL qs g = some o
  | p :: ps, q, g, o, hp, hq, h => by
    rcases List.mem_cons.1 hq with rfl | hq
    · simp [joinL, h]
    · obtain ⟨h1, h2⟩ := List.pairwise_cons.1 hp
      simp only [joinL]
      cases hh : p g with
      | some u => exact (h1 q hq g u o hh h).elim
      | none => exact joinL_get h2 hq h
theorem joinL_le {qs : List Piece} {q : Piece} (hp : qs.Pairwise Dj) (hq : q ∈ qs) : PHeap.le q (joinL qs) := fun _ _ h => joinL_get hp hq h
theorem joinL_dj {qs : List Piece} {p : Piece} (h : ∀ q ∈ qs, Dj p q) : Dj p (joinL qs) := fun g o o' h1 h2 => by
  obtain ⟨q, hq, h3⟩ := joinL_some h2
  exact h q hq g o o' h1 h3

section
variable {X : Nat → Prop} {w0 w w' : World} {H H' : PHeap} {L L' : List Piece}

/-- other pieces, made of the same cells -/
theorem St.re (hS : St X w0 w H L) (hp : L'.Pairwise Dj) (hs : ∀ q ∈ L', ∀ g o, q g = some o → ∃ p ∈ L, p g = some o) : St X w0 w H L' :=
  ⟨hS.ev, hS.old, hS.imm, fun q hq g o h => by
    obtain ⟨p, h1, h2⟩ := hs q hq g o h
    exact hS.own p h1 g o h2, hp⟩
theorem St.pw (hS : St X w0 w H L) : L.Pairwise Dj := hS.apart

theorem St.out {k : Nat} {p : Piece} (hS : St X w0 w H L) (h : L[k]? = some p) : St X w0 w H (p :: L.set k emp) := by
  have hk : k < L.length := (List.getElem?_eq_some_iff.1 h).1
  have hLk : L[k] = p := by rw [List.getElem?_eq_getElem hk] at h; injection h
  refine hS.re (List.pairwise_cons.2 ⟨fun q hq => ?_, ?_⟩) fun q hq g o hg => ?_
  · obtain ⟨j, hj, hqj⟩ := List.getElem_of_mem hq
    rw [List.length_set] at hj
    rw [List.getElem_set] at hqj
    split at hqj
    · subst hqj; intro g o o' _ e; cases e
    · rename_i hkj
      subst hqj
      rcases Nat.lt_or_gt_of_ne hkj with q' | q'
      · have := List.pairwise_iff_getElem.1 hS.apart k j hk hj q'
        rw [hLk] at this; exact this
      · have := List.pairwise_iff_getElem.1 hS.apart j k hj hk q'
        rw [hLk] at this; exact Dj.symm this
  · rw [List.pairwise_iff_getElem]
    intro i j hi hj hij g o o' e e'
    rw [List.length_set] at hi hj
    rw [List.getElem_set] at e e'
    split at e
    · cases e
    · split at e'
      · cases e'
      · exact List.pairwise_iff_getElem.1 hS.apart i j hi hj hij g o o' e e'
  · rcases List.mem_cons.1 hq with rfl | hq
    · exact ⟨q, List.mem_of_getElem? h, hg⟩
    · obtain ⟨j, hj, hqj⟩ := List.getElem_of_mem hq
      rw [List.length_set] at hj
      rw [List.getElem_set] at hqj
      split at hqj
      · subst hqj; cases hg
      · subst hqj; exact ⟨_, List.getElem_mem hj, hg⟩

theorem St.in_ {k : Nat} {p : Piece} (hS : St X w0 w H (p :: L)) (h : L[k]? = some emp) : St X w0 w H (L.set k p) := by
  have hk : k < L.length := (List.getElem?_eq_some_iff.1 h).1
  obtain ⟨h1, h2⟩ := List.pairwise_cons.1 hS.apart
  refine hS.re ?_ fun q hq g o hg => ?_
  · rw [List.pairwise_iff_getElem]
    intro i j hi hj hij
    rw [List.length_set] at hi hj
    rw [List.getElem_set, List.getElem_set]
    split <;> split
    · omega
    · exact h1 _ (List.getElem_mem hj)
    · exact Dj.symm (h1 _ (List.getElem_mem hi))
    · exact List.pairwise_iff_getElem.1 h2 i j hi hj hij
  · rcases List.mem_or_eq_of_mem_set hq with hq | rfl
    · exact ⟨q, List.mem_cons_of_mem _ hq, hg⟩
    · exact ⟨q, List.mem_cons_self .., hg⟩

theorem St.unj {qs : List Piece} (hS : St X w0 w H (joinL qs :: L)) (hp : qs.Pairwise Dj) : St X w0 w H (qs ++ L) := by
  obtain ⟨h1, h2⟩ := List.pairwise_cons.1 hS.apart
  refine hS.re (List.pairwise_append.2 ⟨hp, h2, fun q hq r hr g o o' e e' => h1 r hr g o o' (joinL_get hp hq e) e'⟩) fun q hq g o hg => ?_
  rcases List.mem_append.1 hq with hq | hq
  · exact ⟨_, List.mem_cons_self .., joinL_get hp hq hg⟩
  · exact ⟨q, List.mem_cons_of_mem _ hq, hg⟩
theorem St.rej {qs : List Piece} (hS : St X w0 w H (qs ++ L)) : St X w0 w H (joinL qs :: L) := by
  obtain ⟨h1, h2, h3⟩ := List.pairwise_append.1 hS.apart
  refine hS.re (List.pairwise_cons.2 ⟨fun r hr => Dj.symm (joinL_dj fun q hq => Dj.symm (h3 q hq r hr)), h2⟩) fun q hq g o hg => ?_
  rcases List.mem_cons.1 hq with rfl | hq
  · obtain ⟨q', h4, h5⟩ := joinL_some hg
    exact ⟨q', List.mem_append_left _ h4, h5⟩
  · exact ⟨q, List.mem_append_right _ hq, hg⟩
theorem St.perm (hS : St X w0 w H L) (hp : L.Perm L') : St X w0 w H L' :=
  hS.re (hp.pairwise hS.apart fun h => Dj.symm h) fun q hq g o hg => ⟨q, hp.symm.subset hq, hg⟩
theorem St.pw_left {qs : List Piece} (hS : St X w0 w H (qs ++ L)) : qs.Pairwise Dj := (List.pairwise_append.1 hS.apart).1
theorem St.tail {p : Piece} (hS : St X w0 w H (p :: L)) : St X w0 w H L :=
  hS.re (List.pairwise_cons.1 hS.apart).2 fun q hq g o hg => ⟨q, List.mem_cons_of_mem _ hq, hg⟩

theorem St.freezeG {i : Nat} {p : Piece} (hS : St noX w0 w H L) (h : L[i]? = some p) :
    ∃ H', St noX w0 w H' (L.set i emp) ∧ PHeap.le H H' ∧ Ext w0 H H' ∧ PHeap.le p H' := by
  obtain ⟨h1, h2⟩ := hS.freeze h
  exact ⟨H.with p, h1, h2, hS.ext h, PHeap.with_ple⟩
/-- the same for a while alone -/
theorem St.freezeT {i : Nat} {p : Piece} (hS : St X w0 w H L) (h : L[i]? = some p) :
    ∃ H', St X w0 w H' (L.set i emp) ∧ PHeap.le H H' ∧ PHeap.le p H' := by
  obtain ⟨h1, h2⟩ := hS.freeze h
  exact ⟨H.with p, h1, h2, PHeap.with_ple⟩
end

theorem OwnS.rd2 {α : Type} {e : ET α} {T : TypeId} {H H' : PHeap} {A : Option Addr} {c : Nat} {xs : List α} {p : Piece} (h : OwnS e T H A c xs p) (hp : PHeap.le p H') (hle : PHeap.le H H') : RdS e H' A c xs := by
  rcases h with ⟨rfl, rfl, rfl⟩ | ⟨g, arr, q1, q2, q3, q4, q5, q6⟩
  · exact RdS.nil
  · subst q2
    exact ⟨q4, q5, .inr ⟨g, 0, arr, T, (0, 0), q1, hp _ _ sing_get, q6.mono hle⟩⟩

/-! ### headers of slices, as data -/
abbrev Hd := Option Addr × Nat × Nat
def Hd.v (h : Hd) : Value := .slice h.1 h.2.1 h.2.2
def eHd : ET Hd where
  n := 1
  bytes := 24
  rd := fun _ cs x => cs = [x.v]
  len := by rintro h cs x rfl; rfl
  mono := fun _ h => h
  one := by rintro h cs x rfl v hv; simp at hv; subst hv; rfl

/-- slices, or nil -/
def eSlN {α : Type} (e : ET α) : ET (Option (List α)) where
  n := 1
  bytes := 24
  rd := fun h cs ox => match ox with
    | none => cs = [.slice none 0 0]
    | some xs => ∃ A c, cs = [.slice A xs.length c] ∧ RdS e h A c xs ∧ A.isNone = false
  len := by
    rintro h cs (_ | xs) hh
    · rw [hh]; rfl
    · obtain ⟨A, c, rfl, _⟩ := hh; rfl
  mono := by
    rintro h h' cs (_ | xs) hle hh
    · exact hh
    · obtain ⟨A, c, rfl, q, q2⟩ := hh; exact ⟨A, c, rfl, q.mono hle, q2⟩
  one := by
    rintro h cs (_ | xs) hh v hv
    · rw [hh] at hv; simp at hv; subst hv; rfl
    · obtain ⟨A, c, rfl, _⟩ := hh; simp at hv; subst hv; rfl

/-- how a row of the call's own reads -/
structure RO (α β : Type) where
  e : ET α
  T : TypeId
  to : β → List α
  put : β → List α → β
  er : ET β
  own : PHeap → Hd → β → Piece → Prop
  toS : ∀ {H h b p}, own H h b p → OwnS e T H h.1 h.2.2 (to b) p ∧ h.2.1 = (to b).length
  mono : ∀ {H H' h b p}, PHeap.le H H' → own H h b p → own H' h b p
  puts : ∀ {H h b p ys p'}, own H h b p → OwnS e T H h.1 h.2.2 ys p' → ys.length = (to b).length → own H h (put b ys) p'
  rds : ∀ {H H' h b p}, own H h b p → PHeap.le p H' → PHeap.le H H' → er.rd H' [h.v] b
  ern : er.n = 1
  erb : er.bytes = 24

def roP {α : Type} (e : ET α) (T : TypeId) : RO α (List α) where
  e := e
  T := T
  to := id
  put := fun _ ys => ys
  er := eSl e
  own := fun H h xs p => h.2.1 = xs.length ∧ OwnS e T H h.1 h.2.2 xs p
  toS := fun h => ⟨h.2, h.1⟩
  mono := fun hle h => ⟨h.1, h.2.mono hle⟩
  puts := fun h h' hl => ⟨h.1.trans hl.symm, h'⟩
  rds := by
    rintro H H' ⟨A, n, c⟩ b p ⟨h1, h2⟩ hp hle
    simp only at h1 h2
    subst h1
    exact ⟨A, c, rfl, h2.rd2 hp hle⟩
  ern := rfl
  erb := rfl

def roN {α : Type} (e : ET α) (T : TypeId) : RO α (Option (List α)) where
  e := e
  T := T
  to := fun ox => ox.getD []
  put := fun ox ys => ox.map fun _ => ys
  er := eSlN e
  own := fun H h ox p => match ox with
    | none => h = (none, 0, 0) ∧ p = emp
    | some xs => h.1.isNone = false ∧ h.2.1 = xs.length ∧ OwnS e T H h.1 h.2.2 xs p
  toS := by
    rintro H h (_ | xs) p hh
    · obtain ⟨rfl, rfl⟩ := hh; exact ⟨OwnS.nil, rfl⟩
    · exact ⟨hh.2.2, hh.2.1⟩
  mono := by
    rintro H H' h (_ | xs) p hle hh
    · exact hh
    · exact ⟨hh.1, hh.2.1, hh.2.2.mono hle⟩
  puts := by
    rintro H h (_ | xs) p ys p' hh ho hl
    · obtain ⟨rfl, rfl⟩ := hh
      refine ⟨rfl, ?_⟩
      rcases ho with ⟨_, _, h3⟩ | ⟨g, arr, h1, _⟩
      · exact h3
      · cases h1
    · exact ⟨hh.1, hh.2.1.trans hl.symm, ho⟩
  rds := by
    rintro H H' ⟨A, n, c⟩ (_ | xs) p hh hp hle
    · obtain ⟨h1, _⟩ := hh
      simp only [Prod.mk.injEq] at h1
      obtain ⟨rfl, rfl, rfl⟩ := h1
      rfl
    · obtain ⟨h0, h1, h2⟩ := hh
      simp only at h0 h1 h2
      subst h1
      exact ⟨A, c, rfl, h2.rd2 hp hle, h0⟩
  ern := rfl
  erb := rfl

theorem roN_nil {α : Type} {e : ET α} {T : TypeId} {H : PHeap} {h : Hd} {ox : Option (List α)} {p : Piece} (hh : (roN e T).own H h ox p) : h.1.isNone = ox.isNone := by
  cases ox with
  | none => obtain ⟨rfl, _⟩ := hh; rfl
  | some xs => exact hh.1

section
variable {α β : Type}
def RowsO (ro : RO α β) (H : PHeap) : List Hd → List β → List Piece → Prop
  | [], [], [] => True
  | h :: hs, b :: bs, p :: ps => ro.own H h b p ∧ RowsO ro H hs bs ps
  | _, _, _ => False

variable {ro : RO α β} {H H' : PHeap}
theorem RowsO.mono (hle : PHeap.le H H') : ∀ {hs : List Hd} {bs : List β} {ps : List Piece}, RowsO ro H hs bs ps → RowsO ro H' hs bs ps
  | [], [], [], _ => trivial
  | h :: hs, b :: bs, p :: ps, ⟨h1, h2⟩ => ⟨ro.mono hle h1, RowsO.mono hle h2⟩
  | [], [], _ :: _, h => h.elim
  | [], _ :: _, [], h => h.elim
  | [], _ :: _, _ :: _, h => h.elim
  | _ :: _, [], _, h => by cases ‹List Piece› <;> exact h.elim
  | _ :: _, _ :: _, [], h => h.elim
theorem RowsO.lens : ∀ {hs : List Hd} {bs : List β} {ps : List Piece}, RowsO ro H hs bs ps → hs.length = bs.length ∧ ps.length = bs.length
  | [], [], [], _ => ⟨rfl, rfl⟩
  | h :: hs, b :: bs, p :: ps, ⟨h1, h2⟩ => by have := h2.lens; simp [this]
  | [], [], _ :: _, h => h.elim
  | [], _ :: _, [], h => h.elim
  | [], _ :: _, _ :: _, h => h.elim
  | _ :: _, [], _, h => by cases ‹List Piece› <;> exact h.elim
  | _ :: _, _ :: _, [], h => h.elim
theorem RowsO.snoc : ∀ {hs : List Hd} {bs : List β} {ps : List Piece} {h : Hd} {b : β} {p : Piece}, RowsO ro H hs bs ps → ro.own H h b p → RowsO ro H (hs ++ [h]) (bs ++ [b]) (ps ++ [p])
  | [], [], [], h, b, p, _, h1 => ⟨h1, trivial⟩
  | _ :: _, _ :: _, _ :: _, h, b, p, ⟨h1, h2⟩, h3 => ⟨h1, h2.snoc h3⟩
  | [], [], _ :: _, _, _, _, h, _ => h.elim
  | [], _ :: _, [], _, _, _, h, _ => h.elim
  | [], _ :: _, _ :: _, _, _, _, h, _ => h.elim
  | _ :: _, [], _, _, _, _, h, _ => by cases ‹List Piece› <;> exact h.elim
  | _ :: _, _ :: _, [], _, _, _, h, _ => h.elim
theorem RowsO.at : ∀ {hs : List Hd} {bs : List β} {ps : List Piece} {i : Nat} {b : β}, RowsO ro H hs bs ps → bs[i]? = some b →
    ∃ h p, hs[i]? = some h ∧ ps[i]? = some p ∧ ro.own H h b p
  | h :: hs, b :: bs, p :: ps, 0, x, ⟨h1, h2⟩, hx => by simp at hx; subst hx; exact ⟨h, p, rfl, rfl, h1⟩
  | h :: hs, b :: bs, p :: ps, i + 1, x, ⟨h1, h2⟩, hx => by simpa using h2.at (by simpa using hx)
  | [], [], [], _, _, _, hx => by simp at hx
  | [], [], _ :: _, _, _, h, _ => h.elim
  | [], _ :: _, [], _, _, h, _ => h.elim
  | [], _ :: _, _ :: _, _, _, h, _ => h.elim
  | _ :: _, [], _, _, _, h, _ => by cases ‹List Piece› <;> exact h.elim
  | _ :: _, _ :: _, [], _, _, h, _ => h.elim
theorem RowsO.set : ∀ {hs : List Hd} {bs : List β} {ps : List Piece} {i : Nat} {h : Hd} {b : β} {p : Piece}, RowsO ro H hs bs ps → ro.own H h b p → RowsO ro H (hs.set i h) (bs.set i b) (ps.set i p)
  | [], [], [], _, _, _, _, _, _ => trivial
  | h :: hs, b :: bs, p :: ps, 0, _, _, _, ⟨h1, h2⟩, h3 => ⟨h3, h2⟩
  | h :: hs, b :: bs, p :: ps, i + 1, _, _, _, ⟨h1, h2⟩, h3 => ⟨h1, h2.set h3⟩
  | [], [], _ :: _, _, _, _, _, h, _ => h.elim
  | [], _ :: _, [], _, _, _, _, h, _ => h.elim
  | [], _ :: _, _ :: _, _, _, _, _, h, _ => h.elim
  | _ :: _, [], _, _, _, _, _, h, _ => by cases ‹List Piece› <;> exact h.elim
  | _ :: _, _ :: _, [], _, _, _, _, h, _ => h.elim
theorem RowsO.repl {h : Hd} {b : β} {p : Piece} (h1 : ro.own H h b p) : ∀ n, RowsO ro H (List.replicate n h) (List.replicate n b) (List.replicate n p)
  | 0 => trivial
  | n + 1 => ⟨h1, RowsO.repl h1 n⟩

/-- a list of rows, all of it the call's own -/
def OwnD (ro : RO α β) (T1 : TypeId) (H : PHeap) (A : Option Addr) (c : Nat) (bs : List β) (p : Piece) : Prop :=
  ∃ hs ps p0, OwnS eHd T1 H A c hs p0 ∧ RowsO ro H hs bs ps ∧ (p0 :: ps).Pairwise Dj ∧ p = joinL (p0 :: ps)

variable {T1 : TypeId} {A : Option Addr} {c : Nat} {bs : List β} {p : Piece}
theorem OwnD.mono (h : OwnD ro T1 H A c bs p) (hle : PHeap.le H H') : OwnD ro T1 H' A c bs p := by
  obtain ⟨hs, ps, p0, h1, h2, h3, h4⟩ := h
  exact ⟨hs, ps, p0, h1.mono hle, h2.mono hle, h3, h4⟩
theorem OwnD.nil : OwnD ro T1 H A 0 [] emp := by
  refine ⟨[], [], emp, OwnS.nil, trivial, by simp, ?_⟩
  funext b; rfl
theorem OwnD.le (h : OwnD ro T1 H A c bs p) : bs.length ≤ c ∧ bs.length * 24 ≤ lim := by
  obtain ⟨hs, ps, p0, h1, h2, h3, h4⟩ := h
  have := h1.le
  have hl := h2.lens
  simp only [eHd] at this
  omega
theorem OwnD.len (h : OwnD ro T1 H A c bs p) : bs.length ≤ 140737488355328 := by
  have := h.le.2
  simp only [lim] at this
  omega
theorem RowsO.er (hle : PHeap.le H H') : ∀ {hs : List Hd} {bs : List β} {ps : List Piece}, RowsO ro H hs bs ps → (∀ q ∈ ps, PHeap.le q H') → ∀ (i : Nat) b, bs[i]? = some b → ∃ h, hs[i]? = some h ∧ ro.er.rd H' [h.v] b := by
  intro hs bs ps h hq i b hb
  obtain ⟨h', p, h1, h2, h3⟩ := h.at hb
  exact ⟨h', h1, ro.rds h3 (hq p (List.mem_of_getElem? h2)) hle⟩
theorem Cells.hd {arr : Array Value} {off : Nat} {hs : List Hd} (h : Cells eHd H arr off hs) (hr : ∀ (i : Nat) b, bs[i]? = some b → ∃ h, hs[i]? = some h ∧ ro.er.rd H' [h.v] b) : Cells ro.er H' arr off bs := by
  intro i b hb
  obtain ⟨h', h1, h2⟩ := hr i b hb
  obtain ⟨cs, c1, c2⟩ := h i h' h1
  have c1' : cs = [h'.v] := c1
  subst c1'
  refine ⟨_, h2, fun j v hv => ?_⟩
  have := c2 j v hv
  rw [ro.ern]
  exact this
theorem OwnD.rd2 (h : OwnD ro T1 H A c bs p) (hp : PHeap.le p H') (hle : PHeap.le H H') : RdS ro.er H' A c bs := by
  obtain ⟨hs, ps, p0, h1, h2, h3, rfl⟩ := h
  have hl := h2.lens
  rcases h1 with ⟨rfl, rfl, rfl⟩ | ⟨g, arr, q1, q2, q3, q4, q5, q6⟩
  · have : bs = [] := List.eq_nil_of_length_eq_zero (by simpa using hl.1.symm)
    subst this
    exact RdS.nil
  · refine ⟨by omega, by rw [ro.erb]; simp only [eHd] at q5; omega, .inr ⟨g, 0, arr, T1, (0, 0), q1, hp _ _ (joinL_get h3 (List.mem_cons_self ..) (by rw [q2]; exact sing_get)), ?_⟩⟩
    exact q6.hd (h2.er hle fun q hq => (joinL_le h3 (List.mem_cons_of_mem _ hq)).trans hp)
end

section
variable {P : Program} {tab : List (Nat × TE)} {ops : Array Oper} {Q : Exit → Act → World → Prop} {a : Act} {w w0 : World} {rest : List Oper} {c : Cfg} {l : List (Nat × Value)}
variable {X : Nat → Prop} {H H' : PHeap} {L : List Piece} {ty : TypeId} {pos : String} {after : Array Edge} {gu : Option (Nat × Bool)}
variable {C : World → Prop} {KQ : Act → Prop} {α β : Type} {ro : RO α β} {bs zs : List β} {p q : Piece} {A : Option Addr} {cp : Nat} {T1 : TypeId}

/-- the deep list becomes a list of rows that stay -/
theorem St.shallow {k : Nat} (hS : St noX w0 w H L) (h : L[k]? = some p) (ho : OwnD ro T1 H A cp bs p) :
    ∃ H' p0, St noX w0 w H' (L.set k p0) ∧ PHeap.le H H' ∧ Ext w0 H H' ∧ OwnS ro.er T1 H' A cp bs p0 := by
  obtain ⟨hs, ps, p0, h1, h2, h3, rfl⟩ := ho
  have s1 := (hS.out h).unj h3
  -- the rows in front
  have s2 : St noX w0 w H (ps ++ (p0 :: L.set k emp)) := s1.perm (List.perm_middle (l₁ := ps) (a := p0) (l₂ := L.set k emp)).symm
  have s3 := s2.rej
  obtain ⟨H', f1, f2, f3, f4⟩ := s3.freezeG (i := 0) rfl
  have f5 := f1.tail
  have hk : k < L.length := (List.getElem?_eq_some_iff.1 h).1
  have f6 := f5.in_ (k := k) (by simp [hk])
  refine ⟨H', p0, by simpa using f6, f2, f3, ?_⟩
  have hl := h2.lens
  have hpw : ps.Pairwise Dj := (List.pairwise_cons.1 h3).2
  rcases h1 with ⟨rfl, rfl, rfl⟩ | ⟨g, arr, q1, q2, q3, q4, q5, q6⟩
  · have : bs = [] := List.eq_nil_of_length_eq_zero (by simpa using hl.1.symm)
    subst this
    exact OwnS.nil
  · refine .inr ⟨g, arr, q1, q2, by rw [ro.ern]; exact q3, by omega, by rw [ro.erb]; simp only [eHd] at q5; omega, ?_⟩
    exact q6.hd (h2.er f2 fun q hq => (joinL_le hpw hq).trans f4)

/-- an element's address in a deep list -/
def PD (ro : RO α β) (H : PHeap) (p : Piece) (ad : Addr) (b : β) : Prop :=
  ∃ g off arr T h q, ad = ⟨g, off, none⟩ ∧ p g = some (.cells arr T (0, 0)) ∧ arr[off]? = some (Hd.v h) ∧ ro.own H h b q ∧ PHeap.le q p

theorem OwnD.idx {i : Int} {b : β} (ho : OwnD ro T1 H A cp bs p) (hi : idx bs i = some b) : ∃ g, A = some ⟨g, 0, none⟩ ∧ PD ro H p ⟨g, i.toNat, none⟩ b ∧ 0 ≤ i ∧ i < bs.length := by
  obtain ⟨hs, ps, p0, h1, h2, h3, rfl⟩ := ho
  obtain ⟨i0, i1, i2⟩ := idx_some hi
  obtain ⟨h, q, e1, e2, e3⟩ := h2.at i1
  rcases h1 with ⟨_, rfl, _⟩ | ⟨g, arr, rfl, q2, q3, q4, q5, q6⟩
  · simp at e1
  · obtain ⟨cs, d1, d2⟩ := q6 _ _ e1
    have d1' : cs = [h.v] := d1
    subst d1'
    have := d2 0 _ rfl
    simp only [eHd, Nat.mul_one, Nat.zero_add, Nat.add_zero] at this
    refine ⟨g, rfl, ⟨g, i.toNat, arr, T1, h, q, rfl, joinL_get h3 (List.mem_cons_self ..) (by rw [q2]; exact sing_get), this, e3, joinL_le h3 (List.mem_cons_of_mem _ (List.mem_of_getElem? e2))⟩, i0, by omega⟩

theorem o_idxD {d T el : Nat} {x y : Operand} {te se : TE} {k : IntKind} {i : Int} {b : β} (hT : TabOK P tab) (hA : Fr c a l)
    (hr : OwnD ro T1 H A cp bs p) (hi : idx bs i = some b) (hx : ev l x = some (.slice A bs.length cp)) (hy : ev l y = some (.int k i))
    (ht : tk T tab = some te) (hk : te.tk = .slice el) (hs : tk el tab = some se) (hn : se.size = 1) (hd : Nat.blt d c.1 = true)
    (hw : gd ops l ⟨some d, .indexAddr T x y, ty, pos, after, gu⟩ = some true)
    (K : ∀ a ad, Fr c a ((d, .pointer (some ad)) :: l) → PD ro H p ad b → AtO A 1 i.toNat ad → wpList P ops Q rest a w) :
    wpList P ops Q (⟨some d, .indexAddr T x y, ty, pos, after, gu⟩ :: rest) a w := by
  obtain ⟨g, rfl, h1, h0, h2⟩ := hr.idx hi
  refine stepv (v := .pointer (some ⟨g, i.toNat, none⟩)) (w' := w) (gd_spec hA hw) ?_ (K _ _ (hA.put hd _) h1 ⟨g, rfl, by rw [Nat.mul_one]⟩)
  have := run_index (P := P) (w := w) hT ht hk hs (k := k) (ad := ⟨g, 0, none⟩) (n := bs.length) (cp := cp) h0 h2
  rw [add_eq, hn, Nat.mul_one, Nat.zero_add] at this
  simp [execOp, hA.eval hx, hA.eval hy, this]
theorem q_idxD {d T el : Nat} {x y : Operand} {te se : TE} {k : IntKind} {i : Int} {b : β} (hT : TabOK P tab) (hA : Fr c a l)
    (hr : OwnD ro T1 H A cp bs p) (hi : idx bs i = some b) (hx : ev l x = some (.slice A bs.length cp)) (hy : ev l y = some (.int k i))
    (ht : tk T tab = some te) (hk : te.tk = .slice el) (hs : tk el tab = some se) (hn : se.size = 1) (hd : Nat.blt d c.1 = true)
    (hw : gd ops l ⟨some d, .indexAddr T x y, ty, pos, after, gu⟩ = some true)
    (K : ∀ a ad, Fr c a ((d, .pointer (some ad)) :: l) → PD ro H p ad b → AtO A 1 i.toNat ad → wpHold P ops C KQ rest a) :
    wpHold P ops C KQ (⟨some d, .indexAddr T x y, ty, pos, after, gu⟩ :: rest) a := by
  obtain ⟨g, rfl, h1, h0, h2⟩ := hr.idx hi
  refine qstep (v := .pointer (some ⟨g, i.toNat, none⟩)) hA hw (fun w _ => ?_) (K _ _ (hA.put hd _) h1 ⟨g, rfl, by rw [Nat.mul_one]⟩)
  have := run_index (P := P) (w := w) hT ht hk hs (k := k) (ad := ⟨g, 0, none⟩) (n := bs.length) (cp := cp) h0 h2
  rw [add_eq, hn, Nat.mul_one, Nat.zero_add] at this
  simp [execOp, hA.eval hx, hA.eval hy, this]

/-- the header that lies at an address -/
def HdA (p : Piece) (ad : Addr) (h : Hd) : Prop := ∃ g off arr T, ad = ⟨g, off, none⟩ ∧ p g = some (.cells arr T (0, 0)) ∧ arr[off]? = some (Hd.v h)

theorem PD.load {T i : Nat} {te : TE} {ad : Addr} {b : β} (hT : TabOK P tab) (hr : PD ro H p ad b) (hp : L[i]? = some p) (ht : tk T tab = some te) (ha : te.tk.isAgg = false) :
    ∃ A c q, HdA p ad (A, (ro.to b).length, c) ∧ ro.own H (A, (ro.to b).length, c) b q ∧ PHeap.le q p ∧ OwnS ro.e ro.T H A c (ro.to b) q ∧ ∀ w, St X w0 w H' L → (loadVar T ad).run P w = .ok (.slice A (ro.to b).length c) w := by
  obtain ⟨g, off, arr, T', ⟨A, n, cc⟩, q, rfl, e1, e2, e3, e4⟩ := hr
  obtain ⟨f1, f2⟩ := ro.toS e3
  simp only at f1 f2
  subst f2
  refine ⟨A, cc, q, ⟨g, off, arr, T', rfl, e1, e2⟩, e3, e4, f1, fun w hS => ?_⟩
  have hg := hS.get hp e1
  have hc : w.cell? ⟨g, off, none⟩ = some (.slice A (ro.to b).length cc) := by rw [cell_of hg]; exact e2
  simp [loadVar, run_isAgg (hT T te ht), ha, hc]
theorem o_ldD {d T i : Nat} {x : Operand} {ad : Addr} {te : TE} {b : β} (hT : TabOK P tab) (hA : Fr c a l) (hS : St X w0 w H' L)
    (hr : PD ro H p ad b) (hx : ev l x = some (.pointer (some ad))) (hp : L[i]? = some p) (ht : tk T tab = some te) (ha : te.tk.isAgg = false) (hd : Nat.blt d c.1 = true)
    (hw : gd ops l ⟨some d, .load T x, ty, pos, after, gu⟩ = some true)
    (K : ∀ a A cp q, HdA p ad (A, (ro.to b).length, cp) → ro.own H (A, (ro.to b).length, cp) b q → PHeap.le q p → OwnS ro.e ro.T H A cp (ro.to b) q → Fr c a ((d, .slice A (ro.to b).length cp) :: l) → wpList P ops Q rest a w) :
    wpList P ops Q (⟨some d, .load T x, ty, pos, after, gu⟩ :: rest) a w := by
  obtain ⟨A, cc, q, e0, e1, e2, e3, e4⟩ := hr.load (P := P) (X := X) (w0 := w0) (H' := H') hT hp ht ha
  refine stepv (w' := w) (gd_spec hA hw) ?_ (K _ A cc q e0 e1 e2 e3 (hA.put hd _))
  simp [execOp, Instr.loadAt, Instr.sureAddr, hA.eval hx, e4 w hS]
theorem q_ldD {d T i : Nat} {x : Operand} {ad : Addr} {te : TE} {b : β} (hT : TabOK P tab) (hA : Fr c a l)
    (hr : PD ro H p ad b) (hx : ev l x = some (.pointer (some ad))) (hp : L[i]? = some p) (ht : tk T tab = some te) (ha : te.tk.isAgg = false) (hd : Nat.blt d c.1 = true)
    (hw : gd ops l ⟨some d, .load T x, ty, pos, after, gu⟩ = some true)
    (K : ∀ a A cp q, HdA p ad (A, (ro.to b).length, cp) → ro.own H (A, (ro.to b).length, cp) b q → PHeap.le q p → OwnS ro.e ro.T H A cp (ro.to b) q → Fr c a ((d, .slice A (ro.to b).length cp) :: l) → wpHold P ops (fun w => St X w0 w H' L) KQ rest a) :
    wpHold P ops (fun w => St X w0 w H' L) KQ (⟨some d, .load T x, ty, pos, after, gu⟩ :: rest) a := by
  obtain ⟨A, cc, q, e0, e1, e2, e3, e4⟩ := hr.load (P := P) (X := X) (w0 := w0) (H' := H') hT hp ht ha
  refine qstep hA hw (fun w hS => ?_) (K _ A cc q e0 e1 e2 e3 (hA.put hd _))
  simp [execOp, Instr.loadAt, Instr.sureAddr, hA.eval hx, e4 w hS]

/-- reads of a row's elements: the row lies in a greater piece -/
theorem PO.up {e : ET α} {ad : Addr} {x : α} (h : PO e H q ad x) (hle : PHeap.le q p) : PO e H p ad x := by
  obtain ⟨g, off, arr, T, fz, cs, h1, h2, h3, h4⟩ := h
  exact ⟨g, off, arr, T, fz, cs, h1, hle _ _ h2, h3, h4⟩

theorem set_emp {k : Nat} (hk : k < L.length) : (L.set k emp)[k]? = some emp := by simp [hk]
theorem set_set_emp {k : Nat} {p : Piece} : (L.set k emp).set k p = L.set k p := List.set_set ..

theorem Hd.v_inj {h h' : Hd} (e : Hd.v h = Hd.v h') : h = h' := by
  obtain ⟨A, n, c⟩ := h
  obtain ⟨A', n', c'⟩ := h'
  simp only [Hd.v, Value.slice.injEq] at e
  obtain ⟨rfl, rfl, rfl⟩ := e
  rfl
theorem hd_at {hs : List Hd} {ps : List Piece} {p0 : Piece} {i : Nat} {ad : Addr} {h : Hd} (h1 : OwnS eHd T1 H A cp hs p0) (h3 : (p0 :: ps).Pairwise Dj) (hh : HdA (joinL (p0 :: ps)) ad h) (hat : AtO A 1 i ad) (hi : i < hs.length) : hs[i]? = some h := by
  obtain ⟨g, off, arr, T, rfl, e2, e3⟩ := hh
  obtain ⟨g', rfl, e5⟩ := hat
  simp only [Nat.mul_one] at e5
  injection e5 with e5 e6 _
  subst e5; subst e6
  rcases h1 with ⟨_, rfl, _⟩ | ⟨g', arr', q1, q2, q3, q4, q5, q6⟩
  · simp at hi
  · injection q1 with q1; injection q1 with q1 _ _
    subst q1
    have := joinL_get h3 (List.mem_cons_self ..) (by rw [q2]; exact sing_get)
    rw [this] at e2
    injection e2 with e2
    injection e2 with e2 _ _
    subst e2
    obtain ⟨cs, d1, d2⟩ := q6 off hs[off] (by simp [hi])
    have d1' : cs = [hs[off].v] := d1
    subst d1'
    have := d2 0 _ rfl
    simp only [eHd, Nat.mul_one, Nat.zero_add, Nat.add_zero] at this
    rw [e3] at this
    injection this with this
    rw [Hd.v_inj this]
    simp [hi]

theorem set_self {γ : Type} {xs : List γ} {i : Nat} {x : γ} (h : xs[i]? = some x) : xs.set i x = xs := by
  apply List.ext_getElem?
  intro m
  rw [List.getElem?_set]
  split
  · rename_i e; subst e
    have := (List.getElem?_eq_some_iff.1 h).1
    simp [this]
    have := (List.getElem?_eq_some_iff.1 h).2
    exact this.symm
  · rfl

/-- a store into a row of a deep list -/
theorem o_stDD {T k j : Nat} {i : Int} {x y : Operand} {ad adl : Addr} {Ar : Option Addr} {cr nr : Nat} {te : TE} {v : Value} {b : β} {y0 : α} {ds : Option Nat} (hT : TabOK P tab) (hA : Fr c a l) (hS : St X w0 w H L)
    (hr : OwnD ro T1 H A cp bs p) (hi : idx bs i = some b) (hl : AtO A 1 i.toNat adl) (hh : HdA p adl (Ar, nr, cr)) (hat : AtO Ar ro.e.n j ad)
    (hj : j < (ro.to b).length) (hv : ro.e.rd H (vcells v) y0) (hx : ev l x = some (.pointer (some ad))) (hy : ev l y = some v) (hp : L[k]? = some p)
    (ht : tk T tab = some te) (hn : te.size = ro.e.n) (hds : ds = none)
    (hw : gd ops l ⟨ds, .store T x y, ty, pos, after, gu⟩ = some true)
    (K : ∀ w p, St X w0 w H (L.set k p) → OwnD ro T1 H A cp (bs.set i.toNat (ro.put b ((ro.to b).set j y0))) p → wpList P ops Q rest a w) :
    wpList P ops Q (⟨ds, .store T x y, ty, pos, after, gu⟩ :: rest) a w := by
  obtain ⟨_, hi, _⟩ := idx_some hi
  generalize i.toNat = i at *
  obtain ⟨hs, ps, p0, h1, h2, h3, rfl⟩ := hr
  obtain ⟨h', q, f1, f2, f3⟩ := h2.at hi
  have e0 := hd_at h1 h3 hh hl (List.getElem?_eq_some_iff.1 f1).1
  rw [e0] at f1; injection f1 with f1; subst f1
  have hk : k < L.length := (List.getElem?_eq_some_iff.1 hp).1
  have s1 := (hS.out hp).unj h3
  have hil : i < ps.length := (List.getElem?_eq_some_iff.1 f2).1
  have hget : ((p0 :: ps) ++ L.set k emp)[i + 1]? = some q := by rw [List.getElem?_append_left (by simp; omega)]; simpa using f2
  obtain ⟨g1, g2⟩ := ro.toS f3
  refine o_stO (k := i + 1) hT hA s1 g1 hat hj hv hx hy hget ht hn hds hw fun w q' hS' hO' => ?_
  have hset : ((p0 :: ps) ++ L.set k emp).set (i + 1) q' = (p0 :: ps.set i q') ++ L.set k emp := by
    rw [List.set_append_left _ _ (by simp; omega)]; rfl
  rw [hset] at hS'
  have hpw := hS'.pw_left
  have s2 := hS'.rej.in_ (k := k) (set_emp hk)
  rw [set_set_emp] at s2
  refine K w _ s2 ⟨hs, ps.set i q', p0, h1, ?_, hpw, rfl⟩
  have := h2.set (i := i) (ro.puts f3 hO' (by simp))
  rw [set_self e0] at this
  exact this

/-- a row of one's own put into a deep list -/
theorem o_stD {T k k2 : Nat} {i : Int} {x y : Operand} {ad : Addr} {te : TE} {b b0 : β} {h : Hd} {ds : Option Nat} (hT : TabOK P tab) (hA : Fr c a l) (hS : St X w0 w H L)
    (hr : OwnD ro T1 H A cp bs p) (hi : idx bs i = some b0) (hat : AtO A 1 i.toNat ad) (hrow : ro.own H h b q) (hx : ev l x = some (.pointer (some ad))) (hy : ev l y = some h.v)
    (hp : L[k]? = some p) (hq : L[k2]? = some q) (hne : Nat.beq k k2 = false) (ht : tk T tab = some te) (hn : te.size = 1) (hds : ds = none)
    (hw : gd ops l ⟨ds, .store T x y, ty, pos, after, gu⟩ = some true)
    (K : ∀ w p, St X w0 w H ((L.set k2 emp).set k p) → OwnD ro T1 H A cp (bs.set i.toNat b) p → wpList P ops Q rest a w) :
    wpList P ops Q (⟨ds, .store T x y, ty, pos, after, gu⟩ :: rest) a w := by
  obtain ⟨_, hi, hlt⟩ := idx_some hi
  generalize i.toNat = i at *
  obtain ⟨hs, ps, p0, h1, h2, h3, rfl⟩ := hr
  have hl := h2.lens
  have hk : k < L.length := (List.getElem?_eq_some_iff.1 hp).1
  have hkk : k ≠ k2 := fun e => by rw [e, Nat.beq_refl] at hne; cases hne
  have s1 := (hS.out hp).unj h3
  refine o_stO (e := eHd) (k := 0) (i := i) hT hA s1 h1 hat (by omega) (rfl : eHd.rd H (vcells h.v) h) hx hy rfl ht hn hds hw fun w p0' hS' hO' => ?_
  have hset : ((p0 :: ps) ++ L.set k emp).set 0 p0' = (p0' :: ps) ++ L.set k emp := rfl
  rw [hset] at hS'
  -- the old row falls away, the new one comes in its place
  have s2 : St X w0 w H ((L.set k emp) ++ (p0' :: ps)) := hS'.perm List.perm_append_comm
  have hk2 : k2 < L.length := (List.getElem?_eq_some_iff.1 hq).1
  have s3 := s2.out (k := k2) (p := q) (by rw [List.getElem?_append_left (by simpa using hk2), List.getElem?_set, if_neg hkk]; exact hq)
  rw [List.set_append_left _ _ (by simpa using hk2)] at s3
  have s4 : St X w0 w H ((q :: p0' :: ps) ++ ((L.set k emp).set k2 emp)) := by
    refine s3.perm ?_
    exact (List.perm_append_comm (l₁ := (L.set k emp).set k2 emp) (l₂ := p0' :: ps)).cons q
  have hil : i < ps.length := by omega
  -- the pieces of the new list
  have s5 : St X w0 w H ((p0' :: ps.set i q) ++ ((L.set k emp).set k2 emp)) := by
    have hpw := s4.apart
    refine s4.re ?_ fun r hr g o hg => ?_
    · have hA1 := List.pairwise_append.1 hpw
      obtain ⟨a1, a2, a3⟩ := hA1
      obtain ⟨b1, b2⟩ := List.pairwise_cons.1 a1
      obtain ⟨b3, b4⟩ := List.pairwise_cons.1 b2
      refine List.pairwise_append.2 ⟨List.pairwise_cons.2 ⟨fun r hr => ?_, ?_⟩, a2, fun r hr r' hr' => ?_⟩
      · rcases List.mem_or_eq_of_mem_set hr with hr | rfl
        · exact b3 r hr
        · exact Dj.symm (b1 p0' (List.mem_cons_self ..))
      · rw [List.pairwise_iff_getElem]
        intro m n hm hn hmn
        rw [List.length_set] at hm hn
        rw [List.getElem_set, List.getElem_set]
        split <;> split
        · omega
        · exact b1 _ (List.mem_cons_of_mem _ (List.getElem_mem hn))
        · exact Dj.symm (b1 _ (List.mem_cons_of_mem _ (List.getElem_mem hm)))
        · exact List.pairwise_iff_getElem.1 b4 m n hm hn hmn
      · rcases List.mem_cons.1 hr with rfl | hr
        · exact a3 _ (List.mem_cons_of_mem _ (List.mem_cons_self ..)) r' hr'
        · rcases List.mem_or_eq_of_mem_set hr with hr | rfl
          · exact a3 _ (List.mem_cons_of_mem _ (List.mem_cons_of_mem _ hr)) r' hr'
          · exact a3 _ (List.mem_cons_self ..) r' hr'
    · rcases List.mem_append.1 hr with hr | hr
      · rcases List.mem_cons.1 hr with rfl | hr
        · exact ⟨r, by simp, hg⟩
        · rcases List.mem_or_eq_of_mem_set hr with hr | rfl
          · exact ⟨r, by simp [hr], hg⟩
          · exact ⟨r, by simp, hg⟩
      · exact ⟨r, List.mem_append_right _ hr, hg⟩
  have hpw := s5.pw_left
  have s6 := s5.rej.in_ (k := k) (by rw [List.getElem?_set, if_neg (Ne.symm hkk)]; exact set_emp hk)
  have e1 : ((L.set k emp).set k2 emp).set k (joinL (p0' :: ps.set i q)) = (L.set k2 emp).set k (joinL (p0' :: ps.set i q)) := by
    rw [List.set_comm _ _ hkk, List.set_set]
  rw [e1] at s6
  exact K w _ s6 ⟨hs.set i h, ps.set i q, p0', hO', h2.set hrow, hpw, rfl⟩

/-- a list of nil rows -/
theorem o_makeD {d T el : Nat} {x y : Operand} {te se : TE} {k k' : IntKind} {i : Int} {z : β} (hT : TabOK P tab) (hA : Fr c a l) (hS : St X w0 w H L)
    (hm : mk 24 i z = some zs) (hx : ev l x = some (.int k i)) (hy : ev l y = some (.int k' i))
    (ht : tk T tab = some te) (hk : te.tk = .slice el) (hse : tk el tab = some se) (hn : se.size = 1) (hb : se.bytes = 24) (hz : se.zero = .slice none 0 0) (hz0 : ∀ H, ro.own H (none, 0, 0) z emp)
    (hd : Nat.blt d c.1 = true)
    (hw : gd ops l ⟨some d, .makeSlice T x y, ty, pos, after, gu⟩ = some true)
    (K : ∀ a w A p, Fr c a ((d, .slice A zs.length zs.length) :: l) → St X w0 w H (p :: L) → OwnD ro el H A zs.length zs p → A.isNone = false → wpList P ops Q rest a w) :
    wpList P ops Q (⟨some d, .makeSlice T x y, ty, pos, after, gu⟩ :: rest) a w := by
  obtain ⟨h0, h1, rfl⟩ := mk_some hm
  refine o_make (e := eHd) (z := ((none, 0, 0) : Hd)) (zs := List.replicate i.toNat (none, 0, 0)) hT hA hS ?_ hx hy ht hk hse hn hb (fun h => by rw [hz]; rfl) (by rw [hb]; rfl) hd hw fun a w A p hA hS hO hN => ?_
  · unfold mk; rw [if_pos ⟨h0, h1⟩]
  · simp only [List.length_replicate] at hA hO K ⊢
    have s1 : St X w0 w H ((p :: List.replicate i.toNat emp) ++ L) := by
      refine hS.re ?_ fun r hr g o hg => ?_
      · obtain ⟨a1, a2⟩ := List.pairwise_cons.1 hS.apart
        refine List.pairwise_append.2 ⟨List.pairwise_cons.2 ⟨fun r hr => ?_, ?_⟩, a2, fun r hr r' hr' => ?_⟩
        · obtain rfl := List.eq_of_mem_replicate hr
          intro g o o' _ e; cases e
        · rw [List.pairwise_iff_getElem]
          intro m n hm hn hmn g o o' e _
          simp at e; cases e
        · rcases List.mem_cons.1 hr with rfl | hr
          · exact a1 r' hr'
          · obtain rfl := List.eq_of_mem_replicate hr
            intro g o o' e _; cases e
      · rcases List.mem_append.1 hr with hr | hr
        · rcases List.mem_cons.1 hr with rfl | hr
          · exact ⟨r, by simp, hg⟩
          · obtain rfl := List.eq_of_mem_replicate hr
            cases hg
        · exact ⟨r, by simp [hr], hg⟩
    exact K a w A _ hA s1.rej ⟨_, _, _, hO, RowsO.repl (hz0 H) _, s1.pw_left, rfl⟩ hN

/-- a row of one's own put behind a deep list -/
theorem o_appD {d k k2 k3 : Nat} {T2 : Nat} {x y : Operand} {te te2 se : TE} {A2 : Option Addr} {c2 : Nat} {h : Hd} {b : β} {p3 : Piece} {T1' : Nat} (hT : TabOK P tab) (hA : Fr c a l) (hS : St X w0 w H L) (hr : OwnD ro T1 H A cp bs p) (hp : L[k]? = some p)
    (hlit : OwnS eHd T1 H A2 c2 [h] p3) (h3 : L[k3]? = some p3) (hrow : ro.own H h b q) (hq : L[k2]? = some q) (hne : Nat.beq k k2 = false) (hne3 : Nat.beq k k3 = false)
    (hz : app 24 bs [b] = some zs) (hx : ev l x = some (.slice A bs.length cp)) (hy : ev l y = some (.slice A2 1 c2))
    (ht : tk T1' tab = some te) (hk : te.tk = .slice T1) (ht2 : tk T2 tab = some te2) (hk2 : te2.tk = .slice T1) (hse : tk T1 tab = some se) (hn : se.size = 1) (hb : se.bytes = 24)
    (hz0 : (vcells se.zero).length = 1) (hd : Nat.blt d c.1 = true)
    (hw : gd ops l ⟨some d, .call ⟨.builtin .append, #[x, y], #[T1', T2]⟩, ty, pos, after, gu⟩ = some true)
    (K : ∀ a w A' cp p, Fr c a ((d, .slice A' zs.length cp) :: l) → St X w0 w H ((L.set k2 emp).set k p) → OwnD ro T1 H A' cp zs p → (A.isNone = false → A'.isNone = false) → wpList P ops Q rest a w) :
    wpList P ops Q (⟨some d, .call ⟨.builtin .append, #[x, y], #[T1', T2]⟩, ty, pos, after, gu⟩ :: rest) a w := by
  obtain ⟨hlim, rfl⟩ := app_some hz
  obtain ⟨hs, ps, p0, h1, h2, hpw, rfl⟩ := hr
  have hl := h2.lens
  have hkL : k < L.length := (List.getElem?_eq_some_iff.1 hp).1
  have hk2L : k2 < L.length := (List.getElem?_eq_some_iff.1 hq).1
  have hkk : k ≠ k2 := fun e => by rw [e, Nat.beq_refl] at hne; cases hne
  have hkk3 : k ≠ k3 := fun e => by rw [e, Nat.beq_refl] at hne3; cases hne3
  have s1 := (hS.out hp).unj hpw
  have hsrc : SrcOK eHd H w A2 [h] := by
    refine hlit.src (i := ps.length + 1 + k3) s1 ?_
    rw [List.getElem?_append_right (by simp only [List.length_cons]; omega)]
    simp only [List.length_cons]
    rw [show ps.length + 1 + k3 - (ps.length + 1) = k3 from by omega, List.getElem?_set, if_neg hkk3]
    exact h3
  obtain ⟨A', c', p0', w', r1, r2, r3, r4⟩ := run_app (P := P) (ty := ty) (T1 := T1') (T2 := T2) (c2 := c2) hT s1 h1 (k := 0) rfl hsrc ht hk hse hn hb (by rw [hz0, hn]) (by omega) ht2 hk2 (by simp only [eHd, List.length_singleton] at hlim ⊢; omega)
  have hset : ((p0 :: ps) ++ L.set k emp).set 0 p0' = (p0' :: ps) ++ L.set k emp := rfl
  rw [hset] at r2
  have s2 : St X w0 w' H ((L.set k emp) ++ (p0' :: ps)) := r2.perm List.perm_append_comm
  have s3 := s2.out (k := k2) (p := q) (by rw [List.getElem?_append_left (by simpa using hk2L), List.getElem?_set, if_neg hkk]; exact hq)
  rw [List.set_append_left _ _ (by simpa using hk2L)] at s3
  have s4 : St X w0 w' H ((p0' :: (ps ++ [q])) ++ ((L.set k emp).set k2 emp)) := by
    refine s3.perm ?_
    have e1 : (q :: ((L.set k emp).set k2 emp ++ p0' :: ps)).Perm (q :: ((p0' :: ps) ++ (L.set k emp).set k2 emp)) := List.perm_append_comm.cons q
    refine e1.trans ?_
    have e2 : (q :: ((p0' :: ps) ++ (L.set k emp).set k2 emp)).Perm ((p0' :: ps) ++ q :: (L.set k emp).set k2 emp) := (List.perm_middle (l₁ := p0' :: ps)).symm
    refine e2.trans ?_
    have e3 : (p0' :: ps) ++ q :: (L.set k emp).set k2 emp = (p0' :: (ps ++ [q])) ++ (L.set k emp).set k2 emp := by simp
    rw [e3]
  have hpw' := s4.pw_left
  have s5 := s4.rej.in_ (k := k) (by rw [List.getElem?_set, if_neg (Ne.symm hkk)]; exact set_emp hkL)
  have e1 : ((L.set k emp).set k2 emp).set k (joinL (p0' :: (ps ++ [q]))) = (L.set k2 emp).set k (joinL (p0' :: (ps ++ [q]))) := by
    rw [List.set_comm _ _ hkk, List.set_set]
  rw [e1] at s5
  refine stepv (w' := w') (gd_spec hA hw) ?_ (K _ _ A' c' _ (hA.put hd (.slice A' (bs ++ [b]).length c')) s5 ⟨hs ++ [h], ps ++ [q], p0', r3, h2.snoc hrow, hpw', rfl⟩ r4)
  have e4 : (hs ++ [h]).length = (bs ++ [b]).length := by simp [hl.1]
  rw [e4, hl.1] at r1
  have r1' : (Builtin.append_ #[T1', T2] ty #[.slice A bs.length cp, .slice A2 1 c2]).run P w = .ok (.slice A' (bs ++ [b]).length c') w' := r1
  simp only [execOp, resolve, invoke, builtin, hA.eval hx, hA.eval hy]
  simp [r1', hA.eval hx, hA.eval hy, builtin]
end
end Go.RL
