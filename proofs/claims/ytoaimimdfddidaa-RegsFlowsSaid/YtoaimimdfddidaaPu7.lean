/- Plain laws of what the functions compute, no program in sight.
   Part of the proof of Rows.RegsFlowsSaid of the program 'recoup'. -/
import Derived.Test.YtoaimimdfddidaaPu6
set_option linter.unusedVariables false
set_option linter.unusedSimpArgs false
set_option linter.unusedSectionVars false
set_option linter.unusedVariables false
namespace Go.RL

/-! Trim: what hangs on what comes out is kept, with its values. -/

/-- what value x is made of is wanted -/
def Kids (f : GFlow) (w : List Bool) (x : Nat) : Prop := ∀ l, f.Inputs.length ≤ x → f.Nodes[x - f.Inputs.length]? = some l → ∀ t ∈ l, w[t.Of.toNat]? = some true
def Sub (w w' : List Bool) : Prop := w'.length = w.length ∧ ∀ i : Nat, w[i]? = some true → w'[i]? = some true
theorem Sub.refl (w : List Bool) : Sub w w := ⟨rfl, fun _ h => h⟩
theorem Sub.trans {a b c : List Bool} (h : Sub a b) (h' : Sub b c) : Sub a c := ⟨by rw [h'.1, h.1], fun i hi => h'.2 i (h.2 i hi)⟩
theorem Kids.mono {f : GFlow} {w w' : List Bool} {x : Nat} (h : Kids f w x) (hs : Sub w w') : Kids f w' x := fun l hl he t ht => hs.2 _ (h l hl he t ht)
theorem Sub.set (w : List Bool) (i : Nat) : Sub w (w.set i true) := by
  refine ⟨List.length_set, fun j hj => ?_⟩
  rw [List.getElem?_set]
  split
  · rename_i e; subst e; rw [if_pos (List.getElem?_eq_some_iff.1 hj).1]
  · exact hj

def MarkQ (f : GFlow) (w : List Bool) (x : Nat) (w' : List Bool) : Prop :=
  Sub w w' ∧ w'[x]? = some true ∧ ∀ y : Nat, w'[y]? = some true → w[y]? ≠ some true → Kids f w' y

theorem mark_ok {f : GFlow} (hf : FMay f) : ∀ (n : Nat) (w : List Bool) (x : Nat), x < n → x < w.length → w.length = f.Inputs.length + f.Nodes.length → Ok (flow_mark n f w (x : Int)) (MarkQ f w x)
  | 0, w, x, h, _, _ => by omega
  | n + 1, w, x, hn, hx, hw => by
    have hil := hf.insLen
    have hnl := hf.nodes
    unfold flow_mark
    refine Ok.idxN hx fun b hb => Ok.ite (fun hc => Ok.pure ?_) fun hc => ?_
    · subst hc; exact ⟨Sub.refl w, hb, fun y h h' => absurd h h'⟩
    rw [idx_of rfl hb, Option.bind_some, Int.toNat_natCast]
    have hset : (w.set x true)[x]? = some true := by rw [List.getElem?_set, if_pos rfl, if_pos hx]
    have hne : ∀ y : Nat, y ≠ x → (w.set x true)[y]? = some true → w[y]? = some true := fun y hy h => by rw [List.getElem?_set, if_neg (by omega)] at h; exact h
    refine Ok.ite (fun hi => Ok.pure ⟨Sub.set w x, hset, fun y h h' => ?_⟩) fun hi => ?_
    · by_cases e : y = x
      · subst e; intro l hl; omega
      · exact absurd (hne y e h) h'
    have hk : x - f.Inputs.length < f.Nodes.length := by omega
    have hwx : w64 ((x : Int) - (f.Inputs.length : Int)) = ((x - f.Inputs.length : Nat) : Int) := by rw [w64_id (by omega) (by omega)]; omega
    rw [hwx]
    refine Ok.idxN hk fun l hl => ?_
    have hT := hf.terms _ l hl
    refine Ok.bind (P := MarkQ f w x) ?_ (fun w' h => Ok.pure h)
    refine for0_ok (fun j s => Sub (w.set x true) s ∧ (∀ (i : Nat) t, i < j → l[i]? = some t → s[t.Of.toNat]? = some true) ∧ ∀ y : Nat, y ≠ x → s[y]? = some true → w[y]? ≠ some true → Kids f s y) ⟨Sub.refl _, fun i t hi => by omega, fun y hy h h' => absurd (hne y hy h) h'⟩ ?_ ?_
    · rintro j s hj ⟨h1, h2, h3⟩
      refine Ok.idxN hj fun t ht => ?_
      have h0 := hT.at (List.mem_of_getElem? ht)
      have hlen : s.length = w.length := by rw [h1.1, List.length_set]
      obtain ⟨o, ho⟩ := Int.eq_ofNat_of_zero_le h0.1
      rw [ho]
      refine Ok.bind (mark_ok hf n s o (by omega) (by omega) (by omega)) fun s' hq => Ok.pure ⟨h1.trans hq.1, fun i u hi hu => ?_, fun y hy h h' => ?_⟩
      · by_cases e : i = j
        · subst e; rw [ht] at hu; cases hu; rw [ho]; exact hq.2.1
        · exact hq.1.2 _ (h2 i u (by omega) hu)
      · by_cases e : s[y]? = some true
        · exact (h3 y hy e h').mono hq.1
        · exact hq.2.2 y h e
    · rintro s ⟨h1, h2, h3⟩
      refine ⟨(Sub.set w x).trans h1, h1.2 _ hset, fun y h h' => ?_⟩
      by_cases e : y = x
      · subst e
        intro l' _ he t ht
        rw [hl] at he; cases he
        obtain ⟨i, hi⟩ := List.getElem?_of_mem ht
        exact h2 i t (List.getElem?_eq_some_iff.1 hi).1 hi
      · exact h3 y e h h'

/-- what is kept, in order: sel says where each value of the new flow comes from -/
structure SelI (f : GFlow) (is : List Int) (ns : List (List GTerm)) (sel : List Nat) : Prop where
  len : sel.length = is.length + ns.length
  inc : ∀ (p q : Nat) (i j : Nat), p < q → sel[p]? = some i → sel[q]? = some j → i < j
  ins : ∀ (p i : Nat), p < is.length → sel[p]? = some i → i < f.Inputs.length ∧ is[p]? = f.Inputs[i]?
  nodes : ∀ (p i : Nat), is.length ≤ p → sel[p]? = some i → f.Inputs.length ≤ i ∧ ∃ l l', f.Nodes[i - f.Inputs.length]? = some l ∧ ns[p - is.length]? = some l' ∧ l'.length = l.length ∧
    ∀ (k : Nat) (u u' : GTerm), l[k]? = some u → l'[k]? = some u' → u'.By = u.By ∧ 0 ≤ u'.Of ∧ ∃ o : Nat, sel[u'.Of.toNat]? = some o ∧ u.Of = (o : Int)
structure Sel (f t : GFlow) (sel : List Nat) : Prop extends SelI f t.Inputs t.Nodes sel where
  outs : t.Outs.length = f.Outs.length ∧ ∀ (k : Nat) (o o' : Int), f.Outs[k]? = some o → t.Outs[k]? = some o' → 0 ≤ o' ∧ ∃ i : Nat, sel[o'.toNat]? = some i ∧ o = (i : Int)
  below : ∀ (p i : Nat), sel[p]? = some i → i < f.Inputs.length + f.Nodes.length

theorem snoc_get {α : Type} {xs : List α} {x y : α} {p : Nat} (h : (xs ++ [x])[p]? = some y) : (p < xs.length ∧ xs[p]? = some y) ∨ (p = xs.length ∧ y = x) := by
  by_cases hp : p < xs.length
  · rw [List.getElem?_append_left hp] at h; exact .inl ⟨hp, h⟩
  · rw [List.getElem?_append_right (by omega)] at h
    right
    have h2 := (List.getElem?_eq_some_iff.1 h).1
    simp at h2
    have hp2 : p = xs.length := by omega
    subst hp2
    rw [Nat.sub_self] at h; simp at h
    exact ⟨rfl, h.symm⟩
theorem get_snoc {α : Type} {xs : List α} {x y : α} {p : Nat} (h : xs[p]? = some y) : (xs ++ [x])[p]? = some y := by
  rw [List.getElem?_append_left (List.getElem?_eq_some_iff.1 h).1]; exact h
theorem get_last {α : Type} (xs : List α) (x : α) : (xs ++ [x])[xs.length]? = some x := by
  rw [List.getElem?_append_right (Nat.le_refl _), Nat.sub_self]; rfl

/-- the state of Trim's loop -/
structure TrI (f : GFlow) (w : List Bool) (i : Nat) (at_ : List Int) (next : Int) (is : List Int) (ns : List (List GTerm)) (sel : List Nat) : Prop where
  n : next = (sel.length : Int)
  le : sel.length ≤ i
  from_ : ∀ (p j : Nat), sel[p]? = some j → j < i ∧ w[j]? = some true
  to : ∀ (j : Nat), j < i → w[j]? = some true → ∃ p : Nat, sel[p]? = some j ∧ at_[j]? = some (p : Int)
  al : at_.length = w.length
  em : i ≤ f.Inputs.length → ns = []
  s : SelI f is ns sel
  nl : ns.length ≤ i - f.Inputs.length

theorem trim_ok {f : GFlow} (hsz : ∀ l ∈ f.Nodes, l.length * 16 ≤ lim) (hf : FMay f) : Ok (flow_Trim f) (fun r => r.2 = 0 ∧ ∃ sel, Sel f r.1 sel) := by
  have hil := hf.insLen
  have hnl := hf.nodes
  have hol := hf.outs
  have hlim : lim = 140737488355328 := rfl
  unfold flow_Trim
  refine Ok.bind (may_ok f) fun b hb => Ok.iteT (hb.2 hf) ?_
  rw [w64_id (x := (f.Inputs.length : Int) + (f.Nodes.length : Int)) (by omega) (by omega)]
  refine Ok.mk (by omega) (by omega) ?_
  refine Ok.bind (P := fun w => w.length = f.Inputs.length + f.Nodes.length ∧ (∀ x ∈ f.Outs, w[x.toNat]? = some true) ∧ ∀ y : Nat, w[y]? = some true → Kids f w y) ?_ ?_
  · refine for0_ok (fun j w => w.length = f.Inputs.length + f.Nodes.length ∧ (∀ (i : Nat) x, i < j → f.Outs[i]? = some x → w[x.toNat]? = some true) ∧ ∀ y : Nat, w[y]? = some true → Kids f w y) ⟨by rw [List.length_replicate]; omega, fun i x hi => by omega, fun y hy => ?_⟩ ?_ ?_
    · rw [List.getElem?_replicate] at hy; split at hy <;> cases hy
    · rintro j w hj ⟨h1, h2, h3⟩
      refine Ok.idxN hj fun x hx => ?_
      have h0 := hf.out x (List.mem_of_getElem? hx)
      obtain ⟨o, rfl⟩ := Int.eq_ofNat_of_zero_le h0.1
      refine Ok.bind (mark_ok hf _ w o (by omega) (by omega) h1) fun w' hq => Ok.pure ⟨by rw [hq.1.1, h1], fun i y hi hy => ?_, fun y hy => ?_⟩
      · by_cases e : i = j
        · subst e; rw [hx] at hy; cases hy; exact hq.2.1
        · exact hq.1.2 _ (h2 i y (by omega) hy)
      · by_cases e : w[y]? = some true
        · exact (h3 y e).mono hq.1
        · exact hq.2.2 y hy e
    · rintro w ⟨h1, h2, h3⟩
      refine ⟨h1, fun x hx => ?_, h3⟩
      obtain ⟨i, hi⟩ := List.getElem?_of_mem hx
      exact h2 i x (List.getElem?_eq_some_iff.1 hi).1 hi
  rintro w ⟨hwl, hwo, hwk⟩
  refine Ok.mk (by omega) (by omega) ?_
  rw [show ((w.length : Nat) : Int).toNat = w.length by omega]
  refine Ok.bind (P := fun q => ∃ sel, TrI f w w.length q.1 (sel.length : Int) q.2.1 q.2.2 sel) ?_ ?_
  · refine for0_ok (fun i s => ∃ sel, TrI f w i s.1 s.2.1 s.2.2.1 s.2.2.2 sel) ⟨[], rfl, Nat.zero_le _, fun p j h => by simp at h, fun j hj => by omega, List.length_replicate, fun _ => rfl, ⟨rfl, fun p q i j h h' => by simp at h', fun p i h h' => by simp at h', fun p i h h' => by simp at h'⟩, Nat.zero_le _⟩ ?_ ?_
    · rintro i ⟨at_, next, is, ns⟩ hi ⟨sel, hI⟩
      have hI : TrI f w i at_ next is ns sel := hI
      have hslen := hI.s.len
      have hle := hI.le
      refine Ok.idxN hi fun b hb => Ok.ite (fun hc => ?_) fun hc => Ok.pure ⟨sel, ?_⟩
      · subst hc
        have hia : i < at_.length := by rw [hI.al]; exact hi
        refine Ok.idxN hia fun a ha => ?_
        have hw1 : w64 (next + 1) = ((sel.length + 1 : Nat) : Int) := by rw [hI.n, w64_id (by omega) (by omega)]; omega
        have frm : ∀ (p j : Nat), (sel ++ [i])[p]? = some j → j < i + 1 ∧ w[j]? = some true := by
          intro p j h
          rcases snoc_get h with ⟨_, h⟩ | ⟨_, rfl⟩
          · have := hI.from_ p j h; exact ⟨by omega, this.2⟩
          · exact ⟨by omega, hb⟩
        have tto : ∀ (j : Nat), j < i + 1 → w[j]? = some true → ∃ p : Nat, (sel ++ [i])[p]? = some j ∧ (at_.set i next)[j]? = some (p : Int) := by
          intro j hj h
          by_cases e : j = i
          · subst e; exact ⟨sel.length, get_last _ _, by rw [List.getElem?_set, if_pos rfl, if_pos hia, hI.n]⟩
          · obtain ⟨p, h1, h2⟩ := hI.to j (by omega) h
            exact ⟨p, get_snoc h1, by rw [List.getElem?_set, if_neg (by omega)]; exact h2⟩
        have inc' : ∀ (p q : Nat) (j k : Nat), p < q → (sel ++ [i])[p]? = some j → (sel ++ [i])[q]? = some k → j < k := by
          intro p q j k hpq h1 h2
          rcases snoc_get h2 with ⟨hq, h2⟩ | ⟨hq, rfl⟩
          · rw [List.getElem?_append_left (by omega)] at h1; exact hI.s.inc p q j k hpq h1 h2
          · rw [List.getElem?_append_left (by omega)] at h1; exact (hI.from_ p j h1).1
        rw [Int.toNat_natCast]
        refine Ok.ite (fun hlt => ?_) fun hlt => ?_
        · have hlt' : i < f.Inputs.length := by omega
          refine Ok.idxN hlt' fun x hx => Ok.app (by show _ ≤ lim; simp only [List.length_cons, List.length_nil]; omega) (Ok.pure ⟨sel ++ [i], ?_⟩)
          have hns : ns = [] := hI.em (by omega)
          subst hns
          refine ⟨by rw [List.length_append]; exact hw1, by rw [List.length_append]; simp; omega, frm, tto, by rw [List.length_set]; exact hI.al, fun _ => rfl, ⟨by simp; omega, inc', fun p j hp h => ?_, fun p j hp h => ?_⟩, Nat.zero_le _⟩
          · rcases snoc_get h with ⟨hp2, h⟩ | ⟨hp2, rfl⟩
            · have hp3 : p < is.length := by simp at hslen; omega
              have := hI.s.ins p j hp3 h
              exact ⟨this.1, by rw [List.getElem?_append_left hp3]; exact this.2⟩
            · refine ⟨hlt', ?_⟩
              have : p = is.length := by simp at hslen; omega
              subst this
              rw [get_last, hx]
          · rcases snoc_get h with ⟨hp2, h⟩ | ⟨hp2, rfl⟩
            · simp at hslen hp; omega
            · simp at hslen hp; omega
        · have hk : i - f.Inputs.length < f.Nodes.length := by omega
          have hwx : w64 ((i : Int) - (f.Inputs.length : Int)) = ((i - f.Inputs.length : Nat) : Int) := by rw [w64_id (by omega) (by omega)]; omega
          rw [hwx]
          refine Ok.idxN hk fun l hl => ?_
          have hT := hf.terms _ l hl
          have hll := hsz l (List.mem_of_getElem? hl)
          have hkids := hwk i hb l (by omega) hl
          refine Ok.bind (P := fun l' => l'.length = l.length ∧ ∀ (k : Nat) (u u' : GTerm), l[k]? = some u → l'[k]? = some u' → u'.By = u.By ∧ 0 ≤ u'.Of ∧ ∃ o : Nat, sel[u'.Of.toNat]? = some o ∧ u.Of = (o : Int)) ?_ ?_
          · refine for0_ok (fun j l' => l'.length = j ∧ ∀ (k : Nat) (u u' : GTerm), l[k]? = some u → l'[k]? = some u' → u'.By = u.By ∧ 0 ≤ u'.Of ∧ ∃ o : Nat, sel[u'.Of.toNat]? = some o ∧ u.Of = (o : Int)) ⟨rfl, fun k u u' _ h => by simp at h⟩ ?_ ?_
            · rintro j l' hj ⟨h1, h2⟩
              refine Ok.idxN hj fun u hu => ?_
              have hum := List.mem_of_getElem? hu
              have h0 := hT.at hum
              obtain ⟨p, hp1, hp2⟩ := hI.to u.Of.toNat (by omega) (hkids u hum)
              rw [idx_of (k := u.Of.toNat) (x := (p : Int)) (by omega) (by rw [List.getElem?_set, if_neg (by omega)]; exact hp2), Option.bind_some]
              refine Ok.app (by simp only [List.length_cons, List.length_nil]; omega) (Ok.pure ⟨by simp [h1], fun k v v' hv hv' => ?_⟩)
              rcases snoc_get hv' with ⟨hk1, hv'⟩ | ⟨hk1, rfl⟩
              · exact h2 k v v' hv hv'
              · subst hk1; rw [h1, hu] at hv; cases hv
                exact ⟨rfl, by show (0 : Int) ≤ (p : Int); omega, u.Of.toNat, by rw [Int.toNat_natCast]; exact hp1, by omega⟩
            · rintro l' ⟨h1, h2⟩; exact ⟨h1, h2⟩
          rintro l' ⟨hl1, hl2⟩
          have hnle := hI.nl
          refine Ok.app (lim_small (by simp; omega)) (Ok.pure ⟨sel ++ [i], ?_⟩)
          refine ⟨by rw [List.length_append]; exact hw1, by rw [List.length_append]; simp; omega, frm, tto, by rw [List.length_set]; exact hI.al, fun h => by omega, ⟨by simp; omega, inc', fun p j hp h => ?_, fun p j hp h => ?_⟩, by simp; omega⟩
          · rcases snoc_get h with ⟨hp2, h⟩ | ⟨hp2, rfl⟩
            · exact hI.s.ins p j hp h
            · have hp : p < is.length := hp; omega
          · rcases snoc_get h with ⟨hp2, h⟩ | ⟨hp2, rfl⟩
            · obtain ⟨g1, l1, l2, g2, g3, g4, g5⟩ := hI.s.nodes p j hp h
              exact ⟨g1, l1, l2, g2, get_snoc g3, g4, fun k u u' hu hu' => by
                obtain ⟨q1, q2, o, q3, q4⟩ := g5 k u u' hu hu'
                exact ⟨q1, q2, o, get_snoc q3, q4⟩⟩
            · refine ⟨by omega, l, l', hl, ?_, hl1, fun k u u' hu hu' => ?_⟩
              · rw [show p - is.length = ns.length by omega]; exact get_last _ _
              · obtain ⟨q1, q2, o, q3, q4⟩ := hl2 k u u' hu hu'
                exact ⟨q1, q2, o, get_snoc q3, q4⟩
      · have hb' : ¬ w[i]? = some true := fun h => by rw [hb] at h; cases h; exact hc rfl
        have hnle := hI.nl
        refine ⟨hI.n, by omega, fun p j h => ?_, fun j hj h => ?_, hI.al, fun h => hI.em (by omega), hI.s, by show ns.length ≤ i + 1 - f.Inputs.length; omega⟩
        · have := hI.from_ p j h; exact ⟨by omega, this.2⟩
        · by_cases e : j = i
          · subst e; exact absurd h hb'
          · exact hI.to j (by omega) h
    · rintro ⟨at_, next, is, ns⟩ ⟨sel, hI⟩
      have hI : TrI f w w.length at_ next is ns sel := hI
      have := hI.n
      subst this
      exact ⟨sel, hI⟩
  rintro ⟨at_, is, ns⟩ ⟨sel, hI⟩
  have hI : TrI f w w.length at_ (sel.length : Int) is ns sel := hI
  refine Ok.bind (P := fun os => os.length = f.Outs.length ∧ ∀ (k : Nat) (o o' : Int), f.Outs[k]? = some o → os[k]? = some o' → 0 ≤ o' ∧ ∃ i : Nat, sel[o'.toNat]? = some i ∧ o = (i : Int)) ?_ ?_
  · refine for0_ok (fun j os => os.length = j ∧ ∀ (k : Nat) (o o' : Int), f.Outs[k]? = some o → os[k]? = some o' → 0 ≤ o' ∧ ∃ i : Nat, sel[o'.toNat]? = some i ∧ o = (i : Int)) ⟨rfl, fun k u u' _ h => by simp at h⟩ ?_ ?_
    · rintro j os hj ⟨h1, h2⟩
      refine Ok.idxN hj fun o ho => ?_
      have h0 := hf.out o (List.mem_of_getElem? ho)
      obtain ⟨p, hp1, hp2⟩ := hI.to o.toNat (by omega) (hwo o (List.mem_of_getElem? ho))
      rw [idx_of (k := o.toNat) (x := (p : Int)) (by omega) hp2, Option.bind_some]
      refine Ok.app (by simp only [List.length_cons, List.length_nil]; omega) (Ok.pure ⟨by simp [h1], fun k v v' hv hv' => ?_⟩)
      rcases snoc_get hv' with ⟨hk1, hv'⟩ | ⟨hk1, rfl⟩
      · exact h2 k v v' hv hv'
      · subst hk1; rw [h1, ho] at hv; cases hv
        exact ⟨by omega, o.toNat, by rw [Int.toNat_natCast]; exact hp1, by omega⟩
    · rintro os h; exact h
  rintro os ⟨ho1, ho2⟩
  refine Ok.pure ⟨rfl, sel, hI.s, ⟨ho1, ho2⟩, fun p i h => ?_⟩
  have := (hI.from_ p i h).1; omega

theorem trim_no {f : GFlow} (hf : ¬ FMay f) : flow_Trim f = some (⟨[], [], []⟩, 2) := by
  refine Ok.eq ?_
  unfold flow_Trim
  exact Ok.bind (may_ok f) fun b hb => Ok.iteF (fun h => hf (hb.1 h)) (Ok.pure rfl)
end Go.RL
