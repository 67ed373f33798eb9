/- A program logic over the model's machine, part 12: quiet steps, pieces of memory, loops, calls.
   Part of the proof of Rows.RegsFlowsSaid of the program 'recoup'. -/
import Derived.Test.YtoaimimdfddidaaLb11
import Derived.OrdersHeld
import Derived.StillTail
import Derived.Scope
import Derived.Deep.RegionHeld3
set_option linter.unusedVariables false
set_option linter.unusedSimpArgs false
set_option linter.unusedSectionVars false
namespace Go.RL

/-! ### regions that draw their order, with operations that do something among them -/
section
variable {P : Program} {ops : Array Oper} {Q : Exit → Act → World → Prop} {md : Region.Mode} {a : Act} {w : World} {S : Bool → World → Prop} {tl : Nat → Bool}

/-- whatever order is picked; what each operation keeps -/
def wpT (P : Program) (md : Region.Mode) (ops : Array Oper) (Q : Exit → Act → World → Prop) (S : Bool → World → Prop) (tl : Nat → Bool) : Nat → Array Bool → Act → World → Prop
  | 0, listed, a, w => Region.ready md ops listed = [] ∧ Q .normal a w
  | fuel + 1, listed, a, w =>
    (Region.ready md ops listed = [] → Q .normal a w) ∧
    ∀ i ∈ Region.ready md ops listed, wpOp P ops Q i (fun a' w' => ((S false w → S false w') ∧ (tl i = false → S true w → S true w')) ∧ wpT P md ops Q S tl fuel (listed.setIfInBounds i true) a' w') a w

theorem wpT_any : ∀ (fuel : Nat) (listed : Array Bool) (a : Act) (w : World), wpT P md ops Q S tl fuel listed a w → wpAny P md ops Q fuel listed a w
  | 0, _, _, _, h => h
  | fuel + 1, _, _, _, h => ⟨h.1, fun i hi => wpOp_mono (fun a' w' h' => wpT_any fuel _ a' w' h'.2) (h.2 i hi)⟩

theorem getD_f {listed : Array Bool} {i : Nat} (h : listed.getD i true = false) : listed.getD i false = false := by
  rcases Nat.lt_or_ge i listed.size with q | q
  · simp [q] at h ⊢
    exact h
  · simp [Array.getElem?_eq_none q] at h

theorem wpT_first {i : Nat} {oi : Oper} {v : Value} {b : Bool} (hi : ops[i]? = some oi) (hsel : ∀ (j : Nat) (o : Oper) cs b, ops[j]? = some o → o.op ≠ .select cs b)
    (hQ : ∀ c a w, Q (.panic c) (a.put oi.dst v) w → Q (.panic c) a w) (hti : tl i = false)
    (htl : b = true → ∀ j oj, tl j = true → ops[j]? = some oj → ∃ e ∈ oj.after, Region.binds md e = true ∧ e.on = i) :
    ∀ (fuel : Nat) (listed : Array Bool) (a : Act) (w : World),
      (∀ j oj, ops[j]? = some oj → j ≠ i → listed.getD j true = false → (∀ e ∈ oj.after, Region.binds md e = true → e.on ≠ i) → oi.apart ops oj = true) →
      i ∈ Region.ready md ops listed → YieldsIf P ops (S b) oi v a → S b w →
      wpT P md ops Q S tl fuel (listed.setIfInBounds i true) (a.put oi.dst v) w → wpT P md ops Q S tl (fuel + 1) listed a w := by
  intro fuel
  induction fuel with
  | zero =>
    intro listed a w _ hr hy hS H
    refine ⟨fun h => (by rw [h] at hr; cases hr), fun j hj => ?_⟩
    by_cases hji : j = i
    · subst hji; exact hy.wpOp hi hS ⟨⟨id, fun _ => id⟩, H⟩
    · have := ready_mono hj hji
      rw [H.1] at this
      cases this
  | succ fuel ih =>
    intro listed a w hfree hr hy hS H
    refine ⟨fun h => (by rw [h] at hr; cases hr), fun j hj => ?_⟩
    by_cases hji : j = i
    · subst hji; exact hy.wpOp hi hS ⟨⟨id, fun _ => id⟩, H⟩
    · have h1 := H.2 j (ready_mono hj hji)
      obtain ⟨hjun, oj, hoj, hall⟩ := mem_ready.1 hj
      have hun := (mem_ready.1 hr).1
      have hnot : ∀ e ∈ oj.after, Region.binds md e = true → e.on ≠ i := fun e he hb heq => by
        have h1 := hall e he hb
        rw [heq, getD_f hun] at h1
        cases h1
      have h2 := wpOp_putIf (S := S b) hoj (hfree j oj hoj hji hjun hnot) (fun cs b => hsel i oi cs b hi) (fun cs b => hsel j oj cs b hoj) hQ hy h1
      have hfree' : ∀ k ok, ops[k]? = some ok → k ≠ i → (listed.setIfInBounds j true).getD k true = false →
          (∀ e ∈ ok.after, Region.binds md e = true → e.on ≠ i) → oi.apart ops ok = true := fun k ok hk hki hun hno => by
        refine hfree k ok hk hki ?_ hno
        by_cases hjk : j = k
        · subst hjk; exact hjun
        · rw [getD_set_ne true hjk] at hun; exact hun
      refine wpOp_mono (fun a' w' h3 => ⟨h3.2.1, ih (listed.setIfInBounds j true) a' w' hfree' (ready_mono hr (Ne.symm hji)) h3.1 ?_ ?_⟩) h2
      · cases b with
        | false => exact h3.2.1.1 hS
        | true =>
          refine h3.2.1.2 ?_ hS
          cases ht : tl j with
          | false => rfl
          | true =>
            obtain ⟨e, he, hb, hon⟩ := htl rfl j oj ht hoj
            exact absurd hon (hnot e he hb)
      · rw [Array.setIfInBounds_comm _ _ hji]
        exact h3.2.2

/-- the operations of a list, in an order of one's own, each leaving the world alone -/
def wpHold (P : Program) (ops : Array Oper) (C : World → Prop) (KQ : Act → Prop) : List Oper → Act → Prop
  | [], a => KQ a
  | o :: r, a => ∃ v, YieldsIf P ops C o v a ∧ wpHold P ops C KQ r (a.put o.dst v)

theorem wpHold_nil {C : World → Prop} {KQ : Act → Prop} {a : Act} (h : KQ a) : wpHold P ops C KQ [] a := h

def nth : List Oper → Nat → Option Oper
  | [], _ => none
  | o :: _, 0 => some o
  | _ :: r, n + 1 => nth r n
theorem nth_eq : ∀ (l : List Oper) (i : Nat), nth l i = l[i]?
  | [], i => by simp [nth]
  | o :: r, 0 => by simp [nth]
  | o :: r, n + 1 => by simp [nth, nth_eq r n]
def sel (l : List Oper) : List Nat → List Oper
  | [] => []
  | i :: is => match nth l i with
    | some o => o :: sel l is
    | none => sel l is

/-- the walk: runs of operations that leave the world alone (level, their numbers), and single ones that do not; where two may come up, both ways -/
inductive Tr where
  | z
  | q (b : Bool) (is : List Nat) (t : Tr)
  | e (i : Nat) (t : Tr)
  | alt (i : Nat) (t : Tr) (u : Tr)

def Mx (P : Program) (l : List Oper) (Q : Exit → Act → World → Prop) (S : Bool → World → Prop) (tl : Nat → Bool) : Tr → Act → World → Prop
  | .z, a, w => Q .normal a w
  | .q b is r, a, w => S b w ∧ wpHold P l.toArray (S b) (fun a' => Mx P l Q S tl r a' w) (sel l is) a
  | .e i r, a, w => wpList P l.toArray (Exit.then (fun a' w' => ((S false w → S false w') ∧ (tl i = false → S true w → S true w')) ∧ Mx P l Q S tl r a' w') (NoPanic Q)) (sel l [i]) a w
  | .alt i r s, a, w => wpList P l.toArray (Exit.then (fun a' w' => ((S false w → S false w') ∧ (tl i = false → S true w → S true w')) ∧ Mx P l Q S tl r a' w') (NoPanic Q)) (sel l [i]) a w ∧ Mx P l Q S tl s a w

def waitsD (md : Region.Mode) (ops : Array Oper) (i : Nat) (j : Nat) : Bool :=
  match ops[j]? with
  | some oj => oj.after.any fun e => Region.binds md e && e.on == i
  | none => true

def chkL (md : Region.Mode) (ops : Array Oper) (tls : List Nat) (b : Bool) (k : Array Bool → Bool) : List Nat → Array Bool → Bool
  | [], listed => k listed
  | i :: is, listed => ((Region.ready md ops listed).contains i && Region.free md ops listed i && !tls.contains i && (!b || tls.all (waitsD md ops i)) && decide (i < ops.size)) && chkL md ops tls b k is (listed.setIfInBounds i true)

def cnt : Tr → Nat
  | .z => 0
  | .q _ is r => is.length + cnt r
  | .e _ r => 1 + cnt r
  | .alt _ r _ => 1 + cnt r

def firsts : Tr → List Nat
  | .e i _ => [i]
  | .alt i _ s => i :: firsts s
  | _ => []
def isE : Tr → Bool
  | .e _ _ => true
  | .alt _ _ s => isE s
  | _ => false

def chk (md : Region.Mode) (ops : Array Oper) (tls : List Nat) : Bool → Tr → Array Bool → Bool
  | _, .z, listed => (Region.ready md ops listed).isEmpty
  | _, .q b is r, listed => chkL md ops tls b (chk md ops tls true r) is listed
  | top, .e i r, listed => (!top || decide (Region.ready md ops listed = [i])) && chk md ops tls true r (listed.setIfInBounds i true)
  | top, .alt i r s, listed => (!top || decide (Region.ready md ops listed = i :: firsts s)) && isE s && Nat.beq (cnt s) (1 + cnt r) && chk md ops tls true r (listed.setIfInBounds i true) && chk md ops tls false s listed
end
section
variable {P : Program} {ops : Array Oper} {Q : Exit → Act → World → Prop} {md : Region.Mode} {a : Act} {w : World} {S : Bool → World → Prop} {tl : Nat → Bool}

theorem upon_then {o : Oper} {nx nx' : Act → World → Prop} (h : o.wp P a w nx (Exit.then nx' Q)) : o.wp P a w nx Q := by
  unfold Oper.wp at *
  generalize (execOp a.eval o).run P w = r at *
  cases r with
  | ok n w' =>
    cases n <;> simp only [Oper.upon] at h ⊢ <;>
      first
        | exact h
        | exact Calls.mono h (fun e w'' he => by cases e <;> exact he)
  | halt x w' => cases x <;> simp only [Oper.upon] at h ⊢ <;> exact h

theorem wpOp_of_list {i : Nat} {o : Oper} {nx : Act → World → Prop} (hi : ops[i]? = some o) (h : wpList P ops (Exit.then nx Q) [o] a w) : wpOp P ops Q i nx a w := by
  unfold wpList at h
  unfold wpOp
  simp only [hi]
  split
  · rename_i hw
    rw [if_pos hw] at h
    rcases h with h | ⟨h1, h2⟩
    · exact .inl (upon_then (nx' := nx) h)
    · exact .inr ⟨h1, h2⟩
  · rename_i hw
    rw [if_neg hw] at h
    exact h

theorem sel_cons {l : List Oper} {i : Nat} {is : List Nat} (h : i < l.length) : sel l (i :: is) = l[i] :: sel l is := by
  simp [sel, nth_eq, h]

theorem mx_q {l : List Oper} {tls : List Nat} {b : Bool} {r : Tr} (hsel : Region.noSelect l.toArray = true)
    (ih : ∀ listed a w, chk .any l.toArray tls true r listed = true → Mx P l Q S tls.contains r a w → wpT P .any l.toArray (NoPanic Q) S tls.contains (cnt r) listed a w) :
    ∀ (is : List Nat) (listed : Array Bool) (a : Act) (w : World), chkL .any l.toArray tls b (chk .any l.toArray tls true r) is listed = true →
      S b w → wpHold P l.toArray (S b) (fun a' => Mx P l Q S tls.contains r a' w) (sel l is) a →
      wpT P .any l.toArray (NoPanic Q) S tls.contains (is.length + cnt r) listed a w
  | [], listed, a, w, hc, hS, h => by
    simp only [chkL] at hc
    simp only [List.length_nil, Nat.zero_add]
    exact ih _ _ _ hc h
  | i :: is, listed, a, w, hc, hS, h => by
    simp only [chkL, Bool.and_eq_true, decide_eq_true_eq] at hc
    obtain ⟨⟨⟨⟨⟨h1, h2⟩, h3⟩, h4⟩, h5⟩, h6⟩ := hc
    have h5' : i < l.length := by simpa using h5
    rw [sel_cons h5'] at h
    obtain ⟨v, hy, hk⟩ := h
    have hi : l.toArray[i]? = some l[i] := by simp [h5']
    have := wpT_first (Q := NoPanic Q) (tl := tls.contains) (b := b) hi (Region.noSelect_spec hsel) (fun c a w h => h) (by simpa using h3) (fun hb j oj hj hoj => by
        subst hb
        simp only [Bool.not_true, Bool.false_or, List.all_eq_true] at h4
        have hj' : j ∈ tls := by simpa using hj
        have := h4 j hj'
        unfold waitsD at this
        rw [hoj] at this
        obtain ⟨e, he, hb⟩ := Array.any_eq_true'.1 this
        simp only [Bool.and_eq_true, beq_iff_eq] at hb
        exact ⟨e, he, hb.1, hb.2⟩) (is.length + cnt r) listed a w (Region.free_spec hi h2) (by simpa using h1) hy hS (mx_q hsel ih is _ _ _ h6 hS hk)
    rw [List.length_cons, show is.length + 1 + cnt r = is.length + cnt r + 1 from by omega]
    exact this

theorem mx_e {l : List Oper} {i : Nat} {listed : Array Bool} {nx : Act → World → Prop} {rs : List Nat} (h1 : Region.ready .any l.toArray listed = rs) (hi : i ∈ rs)
    (h : wpList P l.toArray (Exit.then nx (NoPanic Q)) (sel l [i]) a w) : wpOp P l.toArray (NoPanic Q) i nx a w := by
  have hmem : i ∈ Region.ready .any l.toArray listed := by rw [h1]; exact hi
  obtain ⟨_, o, ho, _⟩ := mem_ready.1 hmem
  have hlt : i < l.length := by have := (Array.getElem?_eq_some_iff.1 ho).1; simpa using this
  have heq : o = l[i] := by
    have : l.toArray[i]? = some l[i] := by simp [hlt]
    rw [this] at ho
    injection ho with ho
    exact ho.symm
  rw [sel_cons hlt, ← heq] at h
  exact wpOp_of_list ho h

/-- of the ways that lie open, each -/
theorem mx_alts {l : List Oper} {tls : List Nat} {rs : List Nat} {n : Nat} {listed : Array Bool} (hr : Region.ready .any l.toArray listed = rs)
    (ih : ∀ (r : Tr) (i : Nat) (a : Act) (w : World), cnt r = n → chk .any l.toArray tls true r (listed.setIfInBounds i true) = true → Mx P l Q S tls.contains r a w → wpT P .any l.toArray (NoPanic Q) S tls.contains n (listed.setIfInBounds i true) a w) :
    ∀ (s : Tr) (a : Act) (w : World), isE s = true → cnt s = n + 1 → (∀ j ∈ firsts s, j ∈ rs) → chk .any l.toArray tls false s listed = true → Mx P l Q S tls.contains s a w →
    ∀ j ∈ firsts s, wpOp P l.toArray (NoPanic Q) j (fun a' w' => ((S false w → S false w') ∧ (tls.contains j = false → S true w → S true w')) ∧ wpT P .any l.toArray (NoPanic Q) S tls.contains n (listed.setIfInBounds j true) a' w') a w
  | .z, _, _, he, _, _, _, _, _, _ => by simp [isE] at he
  | .q .., _, _, he, _, _, _, _, _, _ => by simp [isE] at he
  | .e i r, a, w, he, hn, hf, hc, h, j, hj => by
    simp only [firsts, List.mem_singleton] at hj
    subst hj
    simp only [chk, Bool.not_false, Bool.true_or, Bool.true_and] at hc
    simp only [cnt] at hn
    exact wpOp_mono (fun a' w' h' => ⟨h'.1, ih r j a' w' (by omega) hc h'.2⟩) (mx_e hr (hf j (by simp [firsts])) h)
  | .alt i r s, a, w, he, hn, hf, hc, h, j, hj => by
    simp only [chk, Bool.not_false, Bool.true_or, Bool.true_and, Bool.and_eq_true] at hc
    obtain ⟨⟨⟨h1, h2⟩, h3⟩, h4⟩ := hc
    have h2' := Nat.eq_of_beq_eq_true h2
    simp only [cnt] at hn
    rcases List.mem_cons.1 (by simpa [firsts] using hj : j ∈ i :: firsts s) with rfl | hj
    · exact wpOp_mono (fun a' w' h' => ⟨h'.1, ih r j a' w' (by omega) h3 h'.2⟩) (mx_e hr (hf j (by simp [firsts])) h.1)
    · exact mx_alts hr ih s a w h1 (by omega) (fun k hk => hf k (by simp [firsts, hk])) h4 h.2 j hj

theorem cnt_pos : ∀ {s : Tr}, isE s = true → 0 < cnt s
  | .e _ _, _ => by simp only [cnt]; omega
  | .alt _ _ _, _ => by simp only [cnt]; omega
  | .z, h => by simp [isE] at h
  | .q .., h => by simp [isE] at h

theorem mx_top {l : List Oper} {tls : List Nat} {rs : List Nat} {n : Nat} {listed : Array Bool} (s : Tr) (a : Act) (w : World) (he : isE s = true) (hn : cnt s = n + 1) (hr : Region.ready .any l.toArray listed = firsts s)
    (ih : ∀ (r : Tr) (i : Nat) (a : Act) (w : World), cnt r = n → chk .any l.toArray tls true r (listed.setIfInBounds i true) = true → Mx P l Q S tls.contains r a w → wpT P .any l.toArray (NoPanic Q) S tls.contains n (listed.setIfInBounds i true) a w)
    (hc : chk .any l.toArray tls false s listed = true) (h : Mx P l Q S tls.contains s a w) : wpT P .any l.toArray (NoPanic Q) S tls.contains (n + 1) listed a w := by
  have hne : firsts s ≠ [] := by cases s <;> simp [isE] at he <;> simp [firsts]
  exact ⟨fun h0 => (by rw [hr] at h0; exact (hne h0).elim), fun j hj => mx_alts hr ih s a w he hn (fun j hj => hj) hc h j (by rw [hr] at hj; exact hj)⟩

theorem chk_q {md : Region.Mode} {ops : Array Oper} {tls : List Nat} {b top : Bool} {is : List Nat} {r : Tr} {listed : Array Bool} (h : chk md ops tls top (.q b is r) listed = true) : chkL md ops tls b (chk md ops tls true r) is listed = true := by
  simpa [chk] using h

theorem mx_wpT {l : List Oper} {tls : List Nat} (hsel : Region.noSelect l.toArray = true) : ∀ (n : Nat) (r : Tr) (listed : Array Bool) (a : Act) (w : World), cnt r = n → chk .any l.toArray tls true r listed = true →
    Mx P l Q S tls.contains r a w → wpT P .any l.toArray (NoPanic Q) S tls.contains n listed a w := by
  intro n
  induction n using Nat.strongRecOn with
  | _ n ih =>
    intro r
    induction r with
    | z =>
      intro listed a w hn hc h
      simp only [cnt] at hn
      subst hn
      simp only [chk, List.isEmpty_iff] at hc
      exact ⟨hc, h⟩
    | q b is r ihr =>
      intro listed a w hn hc h
      simp only [cnt] at hn
      rw [← hn]
      refine mx_q hsel (fun listed a w hc h => ?_) is listed a w (chk_q hc) h.1 h.2
      by_cases h0 : is.length = 0
      · have h1 : cnt r = n := by omega
        rw [h1]
        exact ihr listed a w h1 hc h
      · exact ih (cnt r) (by omega) r listed a w rfl hc h
    | e i r ihr =>
      intro listed a w hn hc h
      simp only [cnt] at hn
      obtain rfl : n = cnt r + 1 := by omega
      simp only [chk, Bool.not_true, Bool.false_or, Bool.and_eq_true, decide_eq_true_eq] at hc
      refine mx_top (rs := []) (.e i r) a w rfl (by simp only [cnt]; omega) hc.1 (fun r' j a w hn hc h => ih (cnt r) (by omega) r' _ a w hn hc h) (by simp [chk, hc.2]) h
    | alt i r s ihr ihs =>
      intro listed a w hn hc h
      simp only [cnt] at hn
      obtain rfl : n = cnt r + 1 := by omega
      simp only [chk, Bool.not_true, Bool.false_or, Bool.and_eq_true, decide_eq_true_eq] at hc
      obtain ⟨⟨⟨⟨h0, h1⟩, h2⟩, h3⟩, h4⟩ := hc
      refine mx_top (rs := []) (.alt i r s) a w (by simp [isE, h1]) (by simp only [cnt]; omega) h0 (fun r' j a w hn hc h => ih (cnt r) (by omega) r' _ a w hn hc h) (by simp [chk, h1, h2, h3, h4]) h

def okR (l : List Oper) (tls : List Nat) (r : Tr) : Bool := Region.noSelect l.toArray && (Nat.beq (cnt r) l.length && chk .any l.toArray tls true r (Array.replicate l.length false))

/-- the rule -/
theorem rx {id : Nat} {l : List Oper} (S : Bool → World → Prop) (tls : List Nat) (r : Tr) (hm : P.follows .mixedOrders = true) (hB : okR l tls r = true)
    (h : Mx P l Q S tls.contains r a { w with drawn := w.drawn + 1 }) : (Code.region id l.toArray true).wp P Q a w := by
  unfold okR at hB
  simp only [Bool.and_eq_true] at hB
  obtain ⟨h1, h2, h3⟩ := hB
  refine wp_region_noPanic (wp_region_any hm (wpT_any (S := S) (tl := tls.contains) _ _ _ _ ?_))
  have := mx_wpT h1 _ r _ a _ rfl h3 h
  rw [Nat.eq_of_beq_eq_true h2] at this
  simpa using this
end

section
variable {P : Program} {tab : List (Nat × TE)} {ops : Array Oper} {Q : Exit → Act → World → Prop} {a : Act} {w w0 : World} {rest : List Oper} {c : Cfg} {l : List (Nat × Value)}
variable {X : Nat → Prop} {H : PHeap} {L : List Piece} {ty : TypeId} {pos : String} {after : Array Edge} {gu : Option (Nat × Bool)}
variable {α : Type} {e : ET α} {xs ys : List α} {A : Option Addr} {cp : Nat} {p : Piece} {Tb : TypeId}
/-! ### regions that draw their order: all quiet -/
variable {C : World → Prop} {KQ : Act → Prop}

theorem qstep {o : Oper} {v : Value} (hA : Fr c a l) (hw : gd ops l o = some true) (hr : ∀ w, C w → (execOp a.eval o).run P w = .ok (.value v) w)
    (K : wpHold P ops C KQ rest (a.put o.dst v)) : wpHold P ops C KQ (o :: rest) a := ⟨v, .inl ⟨gd_spec hA hw, hr⟩, K⟩

theorem qno {o : Oper} (hA : Fr c a l) (hw : gd ops l o = some false) (K : wpHold P ops C KQ rest (a.put o.dst undef)) : wpHold P ops C KQ (o :: rest) a :=
  ⟨undef, .inr ⟨gd_spec hA hw, rfl⟩, K⟩

theorem qpr {rest : List Oper} {l' : List (Nat × Value)} (hT : TabOK P tab) : ∀ (n : Nat) {a : Act} {l : List (Nat × Value)} {os : List Oper}, Fr c a l → pevn tab ops c.1 n l os = some (l', rest) →
    (∀ a, Fr c a l' → wpHold P ops C KQ rest a) → wpHold P ops C KQ os a
  | 0, a, l, os, hA, h, K => by
    simp only [pevn] at h
    injection h with h
    injection h with h1 h2
    subst h1; subst h2
    exact K _ hA
  | n + 1, a, l, [], hA, h, K => by simp [pevn] at h
  | n + 1, a, l, o :: os, hA, h, K => by
    simp only [pevn] at h
    split at h
    · rename_i hg
      split at h
      · rename_i v d hv hd
        cases hb : Nat.blt d c.1 with
        | false => rw [hb] at h; cases h
        | true =>
          rw [hb] at h
          refine qstep hA hg (fun w _ => pev_spec hT hA hv w) ?_
          rw [hd]
          exact qpr hT n (hA.put hb v) h K
      · cases h
    · rename_i hg
      split at h
      · rename_i d hd
        cases hb : Nat.blt d c.1 with
        | false => rw [hb] at h; cases h
        | true =>
          rw [hb] at h
          refine qno hA hg ?_
          rw [hd]
          exact qpr hT n (hA.put hb undef) h K
      · rename_i hd
        refine qno hA hg ?_
        rw [hd]
        exact qpr hT n hA h K
    · cases h

theorem q_idxR {d T el : Nat} {x y : Operand} {te se : TE} {k : IntKind} {i : Int} {x0 : α} (hT : TabOK P tab) (hA : Fr c a l)
    (hr : RdS e H A cp xs) (hi : idx xs i = some x0) (hx : ev l x = some (.slice A xs.length cp)) (hy : ev l y = some (.int k i))
    (ht : tk T tab = some te) (hk : te.tk = .slice el) (hs : tk el tab = some se) (hn : se.size = e.n) (hd : Nat.blt d c.1 = true)
    (hw : gd ops l ⟨some d, .indexAddr T x y, ty, pos, after, gu⟩ = some true)
    (K : ∀ a ad, Fr c a ((d, .pointer (some ad)) :: l) → PR e H ad x0 → wpHold P ops C KQ rest a) :
    wpHold P ops C KQ (⟨some d, .indexAddr T x y, ty, pos, after, gu⟩ :: rest) a := by
  obtain ⟨h0, h1, h2⟩ := idx_some hi
  obtain ⟨_, _, h3⟩ := hr
  rcases h3 with rfl | ⟨g, off, arr, T', fz, rfl, q2, q3⟩
  · simp at h1
  · obtain ⟨cs, r1, r2⟩ := q3 _ _ h1
    refine qstep (v := .pointer (some ⟨g, off + i.toNat * e.n, none⟩)) hA hw (fun w _ => ?_) (K _ _ (hA.put hd _) ⟨g, _, arr, T', fz, cs, rfl, q2, r1, r2⟩)
    have := run_index (P := P) (w := w) hT ht hk hs (k := k) (ad := ⟨g, off, none⟩) (n := xs.length) (cp := cp) h0 (by omega)
    rw [add_eq, hn] at this
    simp [execOp, hA.eval hx, hA.eval hy, this]

theorem q_idxO {d T el : Nat} {x y : Operand} {te se : TE} {k : IntKind} {i : Int} {x0 : α} (hT : TabOK P tab) (hA : Fr c a l)
    (hr : OwnS e Tb H A cp xs p) (hi : idx xs i = some x0) (hx : ev l x = some (.slice A xs.length cp)) (hy : ev l y = some (.int k i))
    (ht : tk T tab = some te) (hk : te.tk = .slice el) (hs : tk el tab = some se) (hn : se.size = e.n) (hd : Nat.blt d c.1 = true)
    (hw : gd ops l ⟨some d, .indexAddr T x y, ty, pos, after, gu⟩ = some true)
    (K : ∀ a ad, Fr c a ((d, .pointer (some ad)) :: l) → PO e H p ad x0 → AtO A e.n i.toNat ad → wpHold P ops C KQ rest a) :
    wpHold P ops C KQ (⟨some d, .indexAddr T x y, ty, pos, after, gu⟩ :: rest) a := by
  obtain ⟨h0, h1, h2⟩ := idx_some hi
  rcases hr with ⟨_, rfl, _⟩ | ⟨g, arr, rfl, rfl, q3, q4, q5, q6⟩
  · simp at h1
  · obtain ⟨cs, r1, r2⟩ := q6 _ _ h1
    simp only [Nat.zero_add] at r2
    refine qstep (v := .pointer (some ⟨g, i.toNat * e.n, none⟩)) hA hw (fun w _ => ?_) (K _ _ (hA.put hd _) ⟨g, _, arr, Tb, (0, 0), cs, rfl, sing_get, r1, r2⟩ ⟨g, rfl, rfl⟩)
    have := run_index (P := P) (w := w) hT ht hk hs (k := k) (ad := ⟨g, 0, none⟩) (n := xs.length) (cp := cp) h0 (by omega)
    rw [add_eq, hn] at this
    simp only [Nat.zero_add] at this
    simp [execOp, hA.eval hx, hA.eval hy, this]

theorem q_ldR {d T : Nat} {x : Operand} {ad : Addr} {te : TE} {x0 : α} (hT : TabOK P tab) (hA : Fr c a l)
    (hr : PR e H ad x0) (hx : ev l x = some (.pointer (some ad))) (ht : tk T tab = some te) (h1 : te.one = true) (hn : te.size = e.n) (hd : Nat.blt d c.1 = true)
    (hw : gd ops l ⟨some d, .load T x, ty, pos, after, gu⟩ = some true)
    (K : ∀ a cs, e.rd H cs x0 → Fr c a ((d, ofc te.tk.isAgg cs) :: l) → wpHold P ops (fun w => St X w0 w H L) KQ rest a) :
    wpHold P ops (fun w => St X w0 w H L) KQ (⟨some d, .load T x, ty, pos, after, gu⟩ :: rest) a := by
  obtain ⟨g, off, arr, T', fz, cs, rfl, q2, q3, q4⟩ := hr
  have hl : cs.length = te.size := (e.len q3).trans hn.symm
  refine qstep (v := ofc te.tk.isAgg cs) hA hw (fun w hS => ?_) (K _ cs q3 (hA.put hd _))
  have hg := hS.imm _ _ q2
  have := run_loadVar (P := P) (w := w) (g := g) (off := off) (hT T te ht) hl (fun j v hv => by rw [cell_of hg]; exact q4 j v hv) (ofc_spec hl h1)
  simp [execOp, Instr.loadAt, Instr.sureAddr, hA.eval hx, this]

theorem q_ldO {d T i : Nat} {x : Operand} {ad : Addr} {te : TE} {x0 : α} (hT : TabOK P tab) (hA : Fr c a l)
    (hr : PO e H p ad x0) (hx : ev l x = some (.pointer (some ad))) (hp : L[i]? = some p) (ht : tk T tab = some te) (h1 : te.one = true) (hn : te.size = e.n) (hd : Nat.blt d c.1 = true)
    (hw : gd ops l ⟨some d, .load T x, ty, pos, after, gu⟩ = some true)
    (K : ∀ a cs, e.rd H cs x0 → Fr c a ((d, ofc te.tk.isAgg cs) :: l) → wpHold P ops (fun w => St X w0 w H L) KQ rest a) :
    wpHold P ops (fun w => St X w0 w H L) KQ (⟨some d, .load T x, ty, pos, after, gu⟩ :: rest) a := by
  obtain ⟨g, off, arr, T', fz, cs, rfl, q2, q3, q4⟩ := hr
  have hl : cs.length = te.size := (e.len q3).trans hn.symm
  refine qstep (v := ofc te.tk.isAgg cs) hA hw (fun w hS => ?_) (K _ cs q3 (hA.put hd _))
  have hg := hS.get hp q2
  have := run_loadVar (P := P) (w := w) (g := g) (off := off) (hT T te ht) hl (fun j v hv => by rw [cell_of hg]; exact q4 j v hv) (ofc_spec hl h1)
  simp [execOp, Instr.loadAt, Instr.sureAddr, hA.eval hx, this]

theorem q_ld {d T g off i : Nat} {x : Operand} {T' : TypeId} {cs : List Value} {te : TE} {v : Value} (hT : TabOK P tab) (hA : Fr c a l)
    (hb : Bx p g T' cs) (hx : ev l x = some (.pointer (some ⟨g, off, none⟩))) (hp : L[i]? = some p) (ht : tk T tab = some te) (h1 : te.one = true)
    (hv : ldv te cs off = some v) (hd : Nat.blt d c.1 = true) (hw : gd ops l ⟨some d, .load T x, ty, pos, after, gu⟩ = some true)
    (K : ∀ a, Fr c a ((d, v) :: l) → wpHold P ops (fun w => St X w0 w H L) KQ rest a) :
    wpHold P ops (fun w => St X w0 w H L) KQ (⟨some d, .load T x, ty, pos, after, gu⟩ :: rest) a := by
  refine qstep hA hw (fun w hS => ?_) (K _ (hA.put hd v))
  have := Bx.load (P := P) hT hS hb hp ht h1 hv
  simp [execOp, Instr.loadAt, Instr.sureAddr, hA.eval hx, this]

theorem q_slR {d T el : Nat} {x : Operand} {lo hi mx : Option Operand} {te se : TE} {i j : Int} (hT : TabOK P tab) (hA : Fr c a l) (hr : RdS e H A cp xs) (hs : sl xs i j = some ys)
    (hx : ev l x = some (.slice A xs.length cp)) (hlo : optI l lo 0 = some i) (hhi : optI l hi xs.length = some j) (hmx : optI l mx j = some j) (hmh : hi = none → mx = none)
    (ht : tk T tab = some te) (hk : te.tk = .slice el) (hse : tk el tab = some se) (hn : se.size = e.n) (hd : Nat.blt d c.1 = true)
    (hw : gd ops l ⟨some d, .slice T x lo hi mx, ty, pos, after, gu⟩ = some true)
    (K : ∀ a A cp, Fr c a ((d, .slice A ys.length cp) :: l) → RdS e H A cp ys → wpHold P ops C KQ rest a) :
    wpHold P ops C KQ (⟨some d, .slice T x lo hi mx, ty, pos, after, gu⟩ :: rest) a := by
  obtain ⟨A', cp', q1, q2⟩ := run_slR hT hA hr hs hx hlo hhi hmx hmh ht hk hse hn
  refine qstep hA hw (fun w _ => ?_) (K _ _ _ (hA.put hd _) q1)
  simp [execOp, q2]

theorem q_quo {d : Nat} {xt yt : TypeId} {x y : Operand} {k : IntKind} {i j : Int} (hA : Fr c a l) (hx : ev l x = some (.int k i)) (hy : ev l y = some (.int k j)) (h0 : j ≠ 0) (hd : Nat.blt d c.1 = true)
    (hw : gd ops l ⟨some d, .binOp .quo xt x y yt, ty, pos, after, gu⟩ = some true) (K : ∀ a, Fr c a ((d, .int k (k.wrap (i.tdiv j))) :: l) → wpHold P ops C KQ rest a) :
    wpHold P ops C KQ (⟨some d, .binOp .quo xt x y yt, ty, pos, after, gu⟩ :: rest) a :=
  qstep hA hw (fun w _ => by simp [execOp, hA.eval hx, hA.eval hy, run_eqg_int, run_quo xt h0]) (K _ (hA.put hd _))
theorem q_rem {d : Nat} {xt yt : TypeId} {x y : Operand} {k : IntKind} {i j : Int} (hA : Fr c a l) (hx : ev l x = some (.int k i)) (hy : ev l y = some (.int k j)) (h0 : j ≠ 0) (hd : Nat.blt d c.1 = true)
    (hw : gd ops l ⟨some d, .binOp .rem xt x y yt, ty, pos, after, gu⟩ = some true) (K : ∀ a, Fr c a ((d, .int k (i.tmod j)) :: l) → wpHold P ops C KQ rest a) :
    wpHold P ops C KQ (⟨some d, .binOp .rem xt x y yt, ty, pos, after, gu⟩ :: rest) a :=
  qstep hA hw (fun w _ => by simp [execOp, hA.eval hx, hA.eval hy, run_eqg_int, run_rem xt h0]) (K _ (hA.put hd _))
theorem q_shl {d : Nat} {xt yt : TypeId} {x y : Operand} {k k' : IntKind} {i j : Int} (hA : Fr c a l) (hx : ev l x = some (.int k i)) (hy : ev l y = some (.int k' j)) (h0 : 0 ≤ j) (hd : Nat.blt d c.1 = true)
    (hw : gd ops l ⟨some d, .binOp .shl xt x y yt, ty, pos, after, gu⟩ = some true) (K : ∀ a, Fr c a ((d, .int k (shlI k i j)) :: l) → wpHold P ops C KQ rest a) :
    wpHold P ops C KQ (⟨some d, .binOp .shl xt x y yt, ty, pos, after, gu⟩ :: rest) a :=
  qstep hA hw (fun w _ => by simp [execOp, hA.eval hx, hA.eval hy, run_eqg_int, run_shl xt h0]) (K _ (hA.put hd _))
theorem q_shr {d : Nat} {xt yt : TypeId} {x y : Operand} {k k' : IntKind} {i j : Int} (hA : Fr c a l) (hx : ev l x = some (.int k i)) (hy : ev l y = some (.int k' j)) (h0 : 0 ≤ j) (hd : Nat.blt d c.1 = true)
    (hw : gd ops l ⟨some d, .binOp .shr xt x y yt, ty, pos, after, gu⟩ = some true) (K : ∀ a, Fr c a ((d, .int k (shrI k i j)) :: l) → wpHold P ops C KQ rest a) :
    wpHold P ops C KQ (⟨some d, .binOp .shr xt x y yt, ty, pos, after, gu⟩ :: rest) a :=
  qstep hA hw (fun w _ => by simp [execOp, hA.eval hx, hA.eval hy, run_eqg_int, run_shr xt h0]) (K _ (hA.put hd _))
end

section
variable {Q : Exit → Act → World → Prop} {a : Act} {w : World} {id : Nat}
theorem gn (h : Q .normal a w) : Exit.noGoto Q .normal a w := h
theorem ge (h : Q (.exit id) a w) : Exit.noGoto Q (.exit id) a w := h
theorem gr (h : Q .ret a w) : Exit.noGoto Q .ret a w := h
end
end Go.RL
