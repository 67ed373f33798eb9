/- Plain laws of what the functions compute, no program in sight.
   Part of the proof of Rows.RegsFlowsSaid of the program 'recoup'. -/
import Derived.Test.YtoaimimdfddidaaPu0
set_option linter.unusedVariables false
set_option linter.unusedSimpArgs false
set_option linter.unusedSectionVars false
namespace Go.RL

/-! A logic for the mirrored functions: `Ok o Q` says that o answers, and that what it answers meets Q. -/

def Ok {α : Type} (o : Option α) (Q : α → Prop) : Prop := ∃ r, o = some r ∧ Q r

theorem Ok.of {α : Type} {o : Option α} {r : α} {Q : α → Prop} (h : o = some r) (hq : Q r) : Ok o Q := ⟨r, h, hq⟩
theorem Ok.pure {α : Type} {r : α} {Q : α → Prop} (hq : Q r) : Ok (some r) Q := ⟨r, rfl, hq⟩
theorem Ok.mono {α : Type} {o : Option α} {P Q : α → Prop} (h : Ok o P) (hi : ∀ x, P x → Q x) : Ok o Q := by
  obtain ⟨r, h1, h2⟩ := h; exact ⟨r, h1, hi r h2⟩
theorem Ok.bind {α β : Type} {o : Option α} {k : α → Option β} {P : α → Prop} {Q : β → Prop} (h : Ok o P) (hk : ∀ x, P x → Ok (k x) Q) : Ok (o.bind k) Q := by
  obtain ⟨r, h1, h2⟩ := h; subst h1; exact hk r h2
theorem Ok.bindE {α β : Type} {o : Option α} {k : α → Option β} {r : α} {Q : β → Prop} (h : o = some r) (hk : Ok (k r) Q) : Ok (o.bind k) Q := by
  subst h; exact hk
theorem Ok.iteT {α : Type} {c : Prop} [Decidable c] {a b : Option α} {Q : α → Prop} (h : c) (ha : Ok a Q) : Ok (if c then a else b) Q := by rw [if_pos h]; exact ha
theorem Ok.iteF {α : Type} {c : Prop} [Decidable c] {a b : Option α} {Q : α → Prop} (h : ¬c) (hb : Ok b Q) : Ok (if c then a else b) Q := by rw [if_neg h]; exact hb
theorem Ok.ite {α : Type} {c : Prop} [Decidable c] {a b : Option α} {Q : α → Prop} (ha : c → Ok a Q) (hb : ¬c → Ok b Q) : Ok (if c then a else b) Q := by
  by_cases h : c
  · rw [if_pos h]; exact ha h
  · rw [if_neg h]; exact hb h
theorem Ok.eq {α : Type} {o : Option α} {r : α} (h : Ok o (fun x => x = r)) : o = some r := by obtain ⟨q, h1, h2⟩ := h; rw [h1, h2]
theorem Ok.and {α : Type} {o : Option α} {P Q : α → Prop} (h : Ok o P) (h' : Ok o Q) : Ok o (fun x => P x ∧ Q x) := by
  obtain ⟨r, h1, h2⟩ := h; obtain ⟨q, h3, h4⟩ := h'; rw [h1] at h3; cases h3; exact ⟨r, h1, h2, h4⟩

/-- what a round of a loop leaves -/
def CtlP {σ ρ : Type} (N : σ → Prop) (S : ρ → Prop) : Ctl σ ρ → Prop
  | .next s => N s
  | .stop r => S r

theorem forN_ok {σ ρ : Type} {f : Nat → σ → Option (Ctl σ ρ)} {fin : σ → ρ} {Q : ρ → Prop} (I : Nat → σ → Prop) : ∀ (n i : Nat) (s : σ), I i s →
    (∀ j s, i ≤ j → j < i + n → I j s → Ok (f j s) (CtlP (I (j + 1)) Q)) → (∀ s, I (i + n) s → Q (fin s)) → Ok (forN f fin n i s) Q
  | 0, i, s, h0, _, hf => ⟨_, rfl, hf s h0⟩
  | n + 1, i, s, h0, hs, hf => by
    obtain ⟨c, hc, hq⟩ := hs i s (Nat.le_refl _) (by omega) h0
    unfold forN
    rw [hc]
    match c, hq with
    | .next s', hq => exact forN_ok I n (i + 1) s' hq (fun j s h1 h2 h3 => hs j s (by omega) (by omega) h3) (fun s h => hf s (by rw [show i + (n + 1) = i + 1 + n by omega]; exact h))
    | .stop r, hq => exact ⟨r, rfl, hq⟩

/-- from 0 -/
theorem for0_ok {σ ρ : Type} {f : Nat → σ → Option (Ctl σ ρ)} {fin : σ → ρ} {Q : ρ → Prop} {n : Nat} {s : σ} (I : Nat → σ → Prop) (h0 : I 0 s)
    (hs : ∀ j s, j < n → I j s → Ok (f j s) (CtlP (I (j + 1)) Q)) (hf : ∀ s, I n s → Q (fin s)) : Ok (forN f fin n 0 s) Q :=
  forN_ok I n 0 s h0 (fun j s _ h2 h3 => hs j s (by omega) h3) (fun s h => hf s (by rw [Nat.zero_add] at h; exact h))

theorem iter_ok {σ ρ : Type} {f : σ → Option (Ctl σ ρ)} {Q : ρ → Prop} (I : σ → Prop) (m : σ → Nat)
    (hs : ∀ s, I s → Ok (f s) (CtlP (fun s' => I s' ∧ m s' < m s) Q)) : ∀ (s : σ), I s → Ok (iter f s) Q := by
  suffices h : ∀ k s, m s < k → I s → Ok (iter f s) Q from fun s h0 => h (m s + 1) s (Nat.lt_succ_self _) h0
  intro k
  induction k with
  | zero => intro s h; omega
  | succ k ih =>
    intro s hk hI
    obtain ⟨c, hc, hq⟩ := hs s hI
    rw [iter_eq, hc]
    match c, hq with
    | .next s', hq => exact ih s' (by have := hq.2; omega) hq.1
    | .stop r, hq => exact ⟨r, rfl, hq⟩

/-- a loop over a list, in one go -/
theorem for_foldl {α σ ρ : Type} {f : Nat → σ → Option (Ctl σ ρ)} {fin : σ → ρ} (xs : List α) (g : σ → α → σ) (I : Nat → σ → Prop) {s : σ} (h0 : I 0 s)
    (hs : ∀ j x s, xs[j]? = some x → I j s → f j s = some (.next (g s x)) ∧ I (j + 1) (g s x)) :
    forN f fin xs.length 0 s = some (fin (xs.foldl g s)) ∧ I xs.length (xs.foldl g s) := by
  have key : ∀ (ys : List α) (i : Nat) (s : σ), (∀ j, ys[j]? = xs[i + j]?) → I i s → forN f fin ys.length i s = some (fin (ys.foldl g s)) ∧ I (i + ys.length) (ys.foldl g s) := by
    intro ys
    induction ys with
    | nil => intro i s _ h; exact ⟨rfl, h⟩
    | cons y ys ih =>
      intro i s hys hI
      have h1 := hs i y s (by have := hys 0; simpa using this.symm) hI
      have h2 := ih (i + 1) (g s y) (fun j => by have := hys (j + 1); rw [List.getElem?_cons_succ] at this; rw [this]; congr 1; omega) h1.2
      constructor
      · show forN f fin (ys.length + 1) i s = _
        unfold forN
        rw [h1.1]
        exact h2.1
      · rw [List.length_cons, show i + (ys.length + 1) = i + 1 + ys.length by omega]; exact h2.2
  have := key xs 0 s (fun j => by rw [Nat.zero_add]) h0
  rw [Nat.zero_add] at this
  exact this

theorem idx_of {α : Type} {xs : List α} {i : Int} {k : Nat} {x : α} (hi : i = (k : Int)) (hx : xs[k]? = some x) : idx xs i = some x := by subst hi; rw [idx_nat, hx]
theorem Ok.idx {α β : Type} {xs : List α} {i : Int} {k : α → Option β} {Q : β → Prop} (h0 : 0 ≤ i) (h1 : i < xs.length) (hk : ∀ x, xs[i.toNat]? = some x → Ok (k x) Q) : Ok ((idx xs i).bind k) Q := by
  have hx : xs[i.toNat]? = some (xs[i.toNat]'(by omega)) := List.getElem?_eq_getElem (by omega)
  exact Ok.bindE (by rw [Go.RL.idx, if_pos h0]; exact hx) (hk _ hx)
theorem Ok.idxN {α β : Type} {xs : List α} {i : Nat} {k : α → Option β} {Q : β → Prop} (h1 : i < xs.length) (hk : ∀ x, xs[i]? = some x → Ok (k x) Q) : Ok ((Go.RL.idx xs (i : Int)).bind k) Q :=
  Ok.idx (by omega) (by omega) (fun x hx => hk x (by simpa using hx))
theorem Ok.app {α β : Type} {xs ys : List α} {b : Nat} {k : List α → Option β} {Q : β → Prop} (h : (xs.length + ys.length) * b ≤ lim) (hk : Ok (k (xs ++ ys)) Q) : Ok ((Go.RL.app b xs ys).bind k) Q :=
  Ok.bindE (by rw [Go.RL.app, if_pos h]) hk
theorem Ok.mk {α β : Type} {n : Int} {z : α} {b : Nat} {k : List α → Option β} {Q : β → Prop} (h0 : 0 ≤ n) (h : n.toNat * b ≤ lim) (hk : Ok (k (List.replicate n.toNat z)) Q) : Ok ((Go.RL.mk b n z).bind k) Q :=
  Ok.bindE (by rw [Go.RL.mk, if_pos ⟨h0, h⟩]) hk
theorem app_of {α : Type} {xs ys : List α} {b : Nat} (h : (xs.length + ys.length) * b ≤ lim) : Go.RL.app b xs ys = some (xs ++ ys) := by rw [Go.RL.app, if_pos h]
theorem mk_of {α : Type} {n : Int} {z : α} {b : Nat} (h0 : 0 ≤ n) (h : n.toNat * b ≤ lim) : Go.RL.mk b n z = some (List.replicate n.toNat z) := by rw [Go.RL.mk, if_pos ⟨h0, h⟩]

theorem w64n {n : Nat} (h : n ≤ 9223372036854775807) : w64 (n : Int) = (n : Int) := w64_id (by omega) (by omega)
theorem reach_lim : reachBytes + 4096 ≤ lim := by decide
end Go.RL
