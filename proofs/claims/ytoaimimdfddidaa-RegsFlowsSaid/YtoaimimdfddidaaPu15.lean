/- Plain laws of what the functions compute, no program in sight.
   Part of the proof of Rows.RegsFlowsSaid of the program 'recoup'. -/
import Derived.Test.YtoaimimdfddidaaPu14
set_option linter.unusedVariables false
set_option linter.unusedSimpArgs false
set_option linter.unusedSectionVars false
set_option linter.unusedVariables false
namespace Go.RL

/-! Give: loads, and what is done with at a node. -/

abbrev S6 : Type := List GStep × Int × Int × List Bool × List Int × Bool
def Lv (at_ u : List Int) (i : Nat) (v r : Nat) : Prop := at_[v]? = some (r : Int) ∧ ∃ y, u[v]? = some y ∧ (i : Int) ≤ y

structure GI (T : GFlow) (u : List Int) (i d made b : Nat) (s : S6) : Prop where
  sl : s.1.length ≤ 65536
  sc : ∀ st ∈ s.1, isB st.C
  r0 : 0 ≤ s.2.1 ∧ s.2.1 ≤ 256
  tl : s.2.2.2.1.length = 256
  al : s.2.2.2.2.1.length = T.Inputs.length + T.Nodes.length
  ar : ∀ (v : Nat) (x : Int), s.2.2.2.2.1[v]? = some x → -1 ≤ x ∧ x < 256
  node : ∀ v : Nat, T.Inputs.length ≤ v → v < T.Inputs.length + made → ∃ x : Nat, s.2.2.2.2.1[v]? = some (x : Int)
  fresh : ∀ v : Nat, T.Inputs.length + made ≤ v → v < T.Inputs.length + T.Nodes.length → s.2.2.2.2.1[v]? = some (-1)
  ok : s.2.2.2.2.2 = true → GO T (Lv s.2.2.2.2.1 u i) s.1 s.2.1 s.2.2.2.1 d
  no : s.2.2.2.2.2 = false → 256 < T.Inputs.length + T.Nodes.length
  bd : T.Inputs.length + T.Nodes.length ≤ 256 → s.1.length ≤ b

theorem Lv.lt {T : GFlow} {u at_ : List Int} {i : Nat} (hl : at_.length = T.Inputs.length + T.Nodes.length) : ∀ w q, Lv at_ u i w q → w < T.Inputs.length + T.Nodes.length := by
  rintro w q ⟨h, _⟩
  have := (List.getElem?_eq_some_iff.1 h).1; omega
theorem isB0 : isB 0 := ⟨by omega, by omega⟩

/-- the least free register, or the giver gives up -/
theorem hold_ok {T : GFlow} {u : List Int} {i d made b : Nat} {s : S6} (h : GI T u i d made b s) {v : Nat} (hv : v < T.Inputs.length + T.Nodes.length) (hat : s.2.2.2.2.1[v]? = some (-1)) :
    Ok ((slices_Index_bool_bool s.2.2.2.1 false).bind fun r129769 => (if r129769 < (0 : Int) then (some ((0 : Int), false)) else (some (r129769, s.2.2.2.2.2)) : Option (Int × Bool)))
      (fun o => ∃ r : Nat, r < 256 ∧ o.1 = (r : Int) ∧ (o.2 = true → s.2.2.2.2.2 = true ∧ s.2.2.2.1[r]? = some false) ∧ (o.2 = false → 256 < T.Inputs.length + T.Nodes.length)) := by
  refine Ok.bind (index_ok s.2.2.2.1) ?_
  rintro r (⟨rfl, hall⟩ | ⟨k, rfl, hk⟩)
  · refine Ok.iteT (by decide) (Ok.pure ⟨0, by decide, rfl, fun h => (by cases h), fun _ => ?_⟩)
    cases hs : s.2.2.2.2.2 with
    | false => exact h.no hs
    | true =>
      refine (h.ok hs).full h.tl (Lv.lt h.al) (v := v) ?_ hv hall
      rintro q ⟨h1, _⟩
      rw [hat] at h1
      have := Option.some.inj h1; omega
  · have hkl := (List.getElem?_eq_some_iff.1 hk).1
    have := h.tl
    refine Ok.iteF (by omega) (Ok.pure ⟨k, by omega, rfl, fun h2 => ⟨h2, hk⟩, fun h2 => h.no h2⟩)

theorem load_ok {T : GFlow} {u : List Int} {i d made b : Nat} {s : S6} (hT : FMay T) (h : GI T u i d made b s) {v : Nat} (hv : v < T.Inputs.length + T.Nodes.length) (hvm : T.Inputs.length ≤ v → v < T.Inputs.length + made)
    (hu : ∃ y, u[v]? = some y ∧ (i : Int) ≤ y) (hb : T.Inputs.length + T.Nodes.length ≤ 256 → b < 65536) :
    Ok (if ((T.Inputs).length : Int) ≤ (v : Int) then (some (s.1, s.2.1, s.2.2.1, s.2.2.2.1, s.2.2.2.2.1, s.2.2.2.2.2)) else ((idx (s.2.2.2.2.1) (v : Int)).bind fun x129758 => if (0 : Int) ≤ x129758 then (some (s.1, s.2.1, s.2.2.1, s.2.2.2.1, s.2.2.2.2.1, s.2.2.2.2.2)) else ((slices_Index_bool_bool s.2.2.2.1 false).bind fun r129769 => (if r129769 < (0 : Int) then (some ((0 : Int), false)) else (some (r129769, s.2.2.2.2.2)) : Option (Int × Bool)).bind fun o129779 => (idx (s.2.2.2.1) o129779.1).bind fun x129818 => (idx (s.2.2.2.2.1) (v : Int)).bind fun x129825 => (idx (T.Inputs) (v : Int)).bind fun x129836 => (idx ((s.2.2.2.2.1).set ((v : Int)).toNat o129779.1) (v : Int)).bind fun x129844 => if ((s.1).length : Int) = (65536 : Int) then (if 0 ≤ x129836 then (some (s.1, mxI s.2.1 (w64 (o129779.1 + 1)), bOr .u64 s.2.2.1 (shlI .u64 1 x129836), (s.2.2.2.1).set (o129779.1).toNat true, (s.2.2.2.2.1).set ((v : Int)).toNat o129779.1, false)) else none) else ((app 32 (s.1) (([(⟨(2 : Int), x129844, x129836, (0 : Int)⟩ : GStep)] : List GStep))).bind fun z129903 => if 0 ≤ x129836 then (some (z129903, mxI s.2.1 (w64 (o129779.1 + 1)), bOr .u64 s.2.2.1 (shlI .u64 1 x129836), (s.2.2.2.1).set (o129779.1).toNat true, (s.2.2.2.2.1).set ((v : Int)).toNat o129779.1, o129779.2)) else none))) : Option S6)
      (fun s' => GI T u i d made (if v < T.Inputs.length then b + 1 else b) s' ∧ (∃ x : Nat, s'.2.2.2.2.1[v]? = some (x : Int)) ∧ ∀ w x : Nat, s.2.2.2.2.1[w]? = some (x : Int) → s'.2.2.2.2.1[w]? = some (x : Int)) := by
  have hlim : lim = 140737488355328 := rfl
  refine Ok.ite (fun hc => Ok.pure ⟨?_, h.node v (by omega) (hvm (by omega)), fun w x hx => hx⟩) fun hc => ?_
  · rw [if_neg (by omega)]; exact h
  have hvi : v < T.Inputs.length := by omega
  rw [if_pos hvi]
  have hal := h.al
  have hx : s.2.2.2.2.1[v]? = some (s.2.2.2.2.1[v]'(by omega)) := List.getElem?_eq_getElem (by omega)
  generalize s.2.2.2.2.1[v]'(by omega) = x at hx
  have hxr := h.ar v x hx
  rw [idx_of rfl hx, Option.bind_some]
  refine Ok.ite (fun h0 => Ok.pure ⟨⟨h.sl, h.sc, h.r0, h.tl, h.al, h.ar, h.node, h.fresh, h.ok, h.no, fun hN => by have := h.bd hN; show s.1.length ≤ b + 1; omega⟩, ⟨x.toNat, by show s.2.2.2.2.1[v]? = _; rw [hx]; congr 1; omega⟩, fun w x hx => hx⟩) fun h0 => ?_
  have hx1 : x = -1 := by omega
  subst hx1
  have key := hold_ok h hv hx
  obtain ⟨ix, e1, ⟨r, hr, er, hok, hno⟩⟩ := key
  obtain ⟨g, eg, hg⟩ : ∃ g, slices_Index_bool_bool s.2.2.2.1 false = some g ∧ (if g < (0 : Int) then (some ((0 : Int), false)) else (some (g, s.2.2.2.2.2)) : Option (Int × Bool)) = some ix := by
    cases hq : slices_Index_bool_bool s.2.2.2.1 false with
    | none => rw [hq] at e1; cases e1
    | some g => rw [hq] at e1; exact ⟨g, rfl, e1⟩
  rw [eg, Option.bind_some, hg, Option.bind_some]
  obtain ⟨r', k'⟩ := ix
  have er : r' = (r : Int) := er
  subst er
  have hok : k' = true → s.2.2.2.2.2 = true ∧ s.2.2.2.1[r]? = some false := hok
  have hno : k' = false → 256 < T.Inputs.length + T.Nodes.length := hno
  have htl := h.tl
  refine Ok.idxN (show r < s.2.2.2.1.length by omega) fun tk htk => ?_
  rw [Option.bind_some]
  refine Ok.idxN hvi fun bk hbk => ?_
  have hbr := hT.ins.at hbk
  rw [Int.toNat_natCast]
  have hset : (s.2.2.2.2.1.set v (r : Int))[v]? = some (r : Int) := set_get (by omega)
  rw [idx_of rfl hset, Option.bind_some]
  have hw : w64 ((r : Int) + 1) = (r : Int) + 1 := w64_id (by omega) (by omega)
  rw [hw, if_pos hbr.1]
  have hm := mxI_le s.2.1 ((r : Int) + 1)
  have hr0 := h.r0
  have ar' : ∀ (w : Nat) (x : Int), (s.2.2.2.2.1.set v (r : Int))[w]? = some x → -1 ≤ x ∧ x < 256 := fun w x hw => by
    rcases get_set hw with ⟨_, rfl⟩ | ⟨_, hw⟩
    · omega
    · exact h.ar w x hw
  have node' : ∀ w : Nat, T.Inputs.length ≤ w → w < T.Inputs.length + made → ∃ x : Nat, (s.2.2.2.2.1.set v (r : Int))[w]? = some (x : Int) := fun w h1 h2 => by
    rw [set_ne (by omega)]; exact h.node w h1 h2
  have fresh' : ∀ w : Nat, T.Inputs.length + made ≤ w → w < T.Inputs.length + T.Nodes.length → (s.2.2.2.2.1.set v (r : Int))[w]? = some (-1) := fun w h1 h2 => by
    rw [set_ne (by omega)]; exact h.fresh w h1 h2
  have keep : ∀ w x : Nat, s.2.2.2.2.1[w]? = some (x : Int) → (s.2.2.2.2.1.set v (r : Int))[w]? = some (x : Int) := fun w x hw => by
    rw [set_ne]
    · exact hw
    · intro e; subst e; rw [hx] at hw; have := Option.some.inj hw; omega
  refine Ok.ite (fun hfull => Ok.pure ⟨⟨h.sl, h.sc, ⟨by show 0 ≤ mxI _ _; omega, by show mxI _ _ ≤ 256; omega⟩, by show (s.2.2.2.1.set _ _).length = 256; rw [List.length_set, htl], by show (s.2.2.2.2.1.set _ _).length = _; rw [List.length_set, hal], ar', node', fresh', fun h => (by cases h), fun _ => ?_, fun hN => by have := h.bd hN; show s.1.length ≤ b + 1; omega⟩, ⟨r, hset⟩, keep⟩) fun hfull => ?_
  · by_cases hN : T.Inputs.length + T.Nodes.length ≤ 256
    · have := h.bd hN; have := hb hN; omega
    · omega
  have hsl := h.sl
  refine Ok.app (by simp only [List.length_cons, List.length_nil]; omega) ?_
  rw [if_pos hbr.1]
  refine Ok.pure ⟨⟨by show (s.1 ++ [_]).length ≤ 65536; rw [List.length_append]; simp only [List.length_cons, List.length_nil]; omega, fun st hst => ?_, ⟨by show 0 ≤ mxI _ _; omega, by show mxI _ _ ≤ 256; omega⟩, by show (s.2.2.2.1.set _ _).length = 256; rw [List.length_set, htl], by show (s.2.2.2.2.1.set _ _).length = _; rw [List.length_set, hal], ar', node', fresh', fun hk => ?_, fun hk => hno hk, fun hN => by have := h.bd hN; show (s.1 ++ [_]).length ≤ b + 1; rw [List.length_append]; simp only [List.length_cons, List.length_nil]; omega⟩, ⟨r, hset⟩, keep⟩
  · rcases List.mem_append.1 hst with hst | hst
    · exact h.sc st hst
    · rw [List.mem_singleton] at hst; subst hst; exact isB0
  · obtain ⟨hk1, hk2⟩ := hok hk
    have hGO := (h.ok hk1).load hT hk2 (v := v) (fun q hq => by have h1 := hq.1; rw [hx] at h1; have := Option.some.inj h1; omega) hbk
    rw [Int.toNat_natCast]
    refine hGO.congr fun w q => ⟨?_, ?_⟩
    · rintro (⟨h1, h2⟩ | ⟨rfl, rfl⟩)
      · exact ⟨keep w q h1, h2⟩
      · exact ⟨hset, hu⟩
    · rintro ⟨h1, h2⟩
      rcases get_set h1 with ⟨rfl, e⟩ | ⟨_, h1⟩
      · exact .inr ⟨rfl, by omega⟩
      · exact .inl ⟨h1, h2⟩

/-- what a node has used for the last time is free -/

theorem dones_ok {T : GFlow} {u at_ : List Int} {tk0 : List Bool} {i d : Nat} {l : List GTerm} {k0 : Int} (hT : FMay T) (hU : Uses T u) (hl : T.Nodes[i]? = some l) (htl : tk0.length = 256)
    (hat : ∀ t ∈ l, ∃ x : Nat, at_[t.Of.toNat]? = some (x : Int) ∧ x < 256) :
    Ok (forN (fun (i132323 : Nat) (s132324 : List Bool) => ((idx (l) (i132323 : Int)).bind fun x132329 => ((idx (u) x132329.Of).bind fun x132528 => if x132528 = (i : Int) then ((idx at_ x132329.Of).bind fun x132567 => (idx (s132324) x132567).bind fun x132575 => some ((s132324).set (x132567).toNat false)) else (if x132329.Of = ((T.Inputs.length + i : Nat) : Int) then ((idx (u) x132329.Of).bind fun x132583 => if x132583 < (0 : Int) then ((idx at_ x132329.Of).bind fun x132622 => (idx (s132324) x132622).bind fun x132630 => some ((s132324).set (x132622).toNat false)) else (some (s132324))) else (some (s132324))) : Option (List Bool)).bind fun o132489 => some (.next (o132489)) : Option (Ctl _ _))) (fun (s132324 : List Bool) => (s132324)) ((l).length) 0 tk0 : Option (List Bool))
      (fun tk => tk.length = 256 ∧ ∀ (L : Nat → Nat → Prop) steps R, (∀ t ∈ l, ∀ x : Nat, u[t.Of.toNat]? = some (i : Int) → at_[t.Of.toNat]? = some (x : Int) → L t.Of.toNat x) → GO T L steps R tk0 d → GO T (fun w q => L w q ∧ ¬ ∃ t ∈ l, t.Of.toNat = w ∧ u[w]? = some (i : Int)) steps R tk d) := by
  have hTl := hT.terms i l hl
  have hul := hU.len
  have hi := (List.getElem?_eq_some_iff.1 hl).1
  refine for0_ok (fun k tk => tk.length = 256 ∧ ∀ (L : Nat → Nat → Prop) steps R, (∀ t ∈ l, ∀ x : Nat, u[t.Of.toNat]? = some (i : Int) → at_[t.Of.toNat]? = some (x : Int) → L t.Of.toNat x) → GO T L steps R tk0 d → GO T (fun w q => L w q ∧ ¬ ∃ (k' : Nat) (t : GTerm), k' < k ∧ l[k']? = some t ∧ t.Of.toNat = w ∧ u[w]? = some (i : Int)) steps R tk d) ⟨htl, fun L steps R _ hG => hG.congr fun w q => ⟨fun h => ⟨h, fun ⟨k', t, hk, _⟩ => by omega⟩, fun h => h.1⟩⟩ ?_ ?_
  · rintro k tk hk ⟨h1, h2⟩
    refine Ok.idxN hk fun t ht => ?_
    have htm := List.mem_of_getElem? ht
    have h0 := hTl.at htm
    obtain ⟨x, hx, hx2⟩ := hat t htm
    have hu : u[t.Of.toNat]? = some (u[t.Of.toNat]'(by omega)) := List.getElem?_eq_getElem (by omega)
    generalize u[t.Of.toNat]'(by omega) = y at hu
    rw [idx_of (k := t.Of.toNat) (by omega) hu, Option.bind_some]
    by_cases hy : y = (i : Int)
    · subst hy
      rw [if_pos rfl, idx_of (k := t.Of.toNat) (by omega) hx, Option.bind_some, idx_of rfl (List.getElem?_eq_getElem (show x < tk.length by omega)), Option.bind_some, Option.bind_some]
      refine Ok.pure ⟨by rw [List.length_set, h1], fun L steps R hL hG => ?_⟩
      have g := h2 L steps R hL hG
      rw [Int.toNat_natCast]
      have g2 := g.free (v := t.Of.toNat) (r := x) ⟨hL t htm x hu hx, ?_⟩
      · refine g2.congr fun w q => ⟨fun hw => ⟨hw.1.1, ?_⟩, fun hw => ⟨⟨hw.1, ?_⟩, ?_⟩⟩
        · rintro ⟨k', t', e1, e2, e3, e4⟩
          by_cases e : k' = k
          · subst e; rw [ht] at e2; cases e2; exact hw.2 e3.symm
          · exact hw.1.2 ⟨k', t', by omega, e2, e3, e4⟩
        · rintro ⟨k', t', e1, e2, e3, e4⟩
          exact hw.2 ⟨k', t', by omega, e2, e3, e4⟩
        · intro e; subst e; exact hw.2 ⟨k, t, by omega, ht, rfl, hu⟩
      · rintro ⟨k', t', e1, e2, e3, e4⟩
        have := hTl.of.ltn (i := k') (j := k) (x := t'.Of) (y := t.Of) e1 (by rw [List.getElem?_map, e2]; rfl) (by rw [List.getElem?_map, ht]; rfl)
        have := (hTl.at (List.mem_of_getElem? e2)).1
        omega
    · rw [if_neg hy, if_neg (show ¬ t.Of = ((T.Inputs.length + i : Nat) : Int) by omega), Option.bind_some]
      refine Ok.pure ⟨h1, fun L steps R hL hG => (h2 L steps R hL hG).congr fun w q => ⟨fun hw => ⟨hw.1, ?_⟩, fun hw => ⟨hw.1, ?_⟩⟩⟩
      · rintro ⟨k', t', e1, e2, e3, e4⟩
        by_cases e : k' = k
        · subst e; rw [ht] at e2; cases e2
          rw [← e3, hu] at e4; exact hy (Option.some.inj e4)
        · exact hw.2 ⟨k', t', by omega, e2, e3, e4⟩
      · rintro ⟨k', t', e1, e2, e3, e4⟩
        exact hw.2 ⟨k', t', by omega, e2, e3, e4⟩
  · rintro tk ⟨h1, h2⟩
    refine ⟨h1, fun L steps R hL hG => (h2 L steps R hL hG).congr fun w q => ⟨fun hw => ⟨hw.1, ?_⟩, fun hw => ⟨hw.1, ?_⟩⟩⟩
    · rintro ⟨t, ht, e3, e4⟩
      obtain ⟨k', hk'⟩ := List.getElem?_of_mem ht
      exact hw.2 ⟨k', t, (List.getElem?_eq_some_iff.1 hk').1, hk', e3, e4⟩
    · rintro ⟨k', t, _, e2, e3, e4⟩
      exact hw.2 ⟨t, List.mem_of_getElem? e2, e3, e4⟩
end Go.RL
