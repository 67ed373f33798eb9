/- Plain laws of what the functions compute, no program in sight.
   Part of the proof of Rows.RegsFlowsSaid of the program 'recoup'. -/
import Derived.Test.YtoaimimdfddidaaPu16
set_option linter.unusedVariables false
set_option linter.unusedSimpArgs false
set_option linter.unusedSectionVars false
set_option linter.unusedVariables false
set_option maxHeartbeats 1000000
namespace Go.RL

/-! Give, whole. -/

theorem give_ok {f : GFlow} (hfs : FlSz f) (hby0 : ByB f) (hf : FMay f) :
    Ok (regs_Give f) (fun q => (q.2 = 0 ∧ ∃ T sel, Sel f T sel ∧ GoodP T q.1) ∨ (q = (⟨[], 0, 0, 0⟩, 4) ∧ 256 < f.Inputs.length + f.Nodes.length)) := by
  have hlim : lim = 140737488355328 := rfl
  unfold regs_Give
  refine Ok.bind (trim_ok hfs.t hf) ?_
  rintro ⟨T, e⟩ ⟨he, sel, hSel⟩
  have he : e = 0 := he
  subst he
  have hSel : Sel f T sel := hSel
  have hT := hSel.may hf
  have hby := hSel.byb hby0
  have hil := hT.insLen
  have hnl := hT.nodes
  have hol := hT.outs
  have hN : T.Inputs.length + T.Nodes.length ≤ f.Inputs.length + f.Nodes.length := by have := hSel.insLe; have := hSel.nodesLe; omega
  refine Ok.iteT rfl ?_
  dsimp only
  show Ok ((slices_Repeat_int_int ([((-1) : Int)] : List Int) (w64 (((T.Inputs).length : Int) + ((T.Nodes).length : Int)))).bind _) _
  rw [w64_id (x := (T.Inputs.length : Int) + (T.Nodes.length : Int)) (by omega) (by omega), show (T.Inputs.length : Int) + (T.Nodes.length : Int) = ((T.Inputs.length + T.Nodes.length : Nat) : Int) by omega, repeat_eq (by omega), Option.bind_some]
  refine Ok.bind (last_ok hT) fun u hU => ?_
  have hul := hU.len
  refine Ok.bind (P := OutP (fun s => GI T u T.Nodes.length 0 T.Nodes.length (Sb T.Inputs.length T.Nodes.length) s) (fun q => q = (⟨[], 0, 0, 0⟩, 4) ∧ 256 < T.Inputs.length + T.Nodes.length)) ?_ ?_
  · refine for0_ok (fun i s => GI T u i 0 i (Sb T.Inputs.length i) s) ?_ ?_ (fun s h => h)
    · refine ⟨by show 0 ≤ 65536; omega, fun st h => (by cases h), ⟨Int.le_refl 0, by show (0 : Int) ≤ 256; omega⟩, List.length_replicate, List.length_replicate, fun v x h => ?_, fun v h1 h2 => by omega, fun v h1 h2 => ?_, fun _ => ⟨?_, ?_, ?_, ?_, ?_⟩, fun h => (by cases h), fun _ => Nat.zero_le _⟩
      · have h : (List.replicate (T.Inputs.length + T.Nodes.length) (-1 : Int))[v]? = some x := h
        rw [List.getElem?_replicate] at h; split at h <;> cases h; omega
      · show (List.replicate (T.Inputs.length + T.Nodes.length) (-1 : Int))[v]? = _
        rw [List.getElem?_replicate, if_pos h2]
      all_goals
        have no : ∀ v r, ¬ Lv (List.replicate (T.Inputs.length + T.Nodes.length) (-1 : Int)) u 0 v r := by
          rintro v r ⟨h, _⟩
          rw [List.getElem?_replicate] at h
          split at h
          · have := Option.some.inj h; omega
          · cases h
      · intro v w r h; exact absurd h (no v r)
      · intro v r q h; exact absurd h (no v r)
      · intro v r h; exact absurd h (no v r)
      · intro r h
        have h : (List.replicate 256 false)[r]? = some true := h
        rw [List.getElem?_replicate] at h; split at h <;> cases h
      · intro bl hb hS hW NR hNR
        refine ⟨List.replicate NR none, List.replicate T.Outs.length none, rfl, List.length_replicate, fun v r h => absurd h (no v r), ?_⟩
        unfold outD; simp
    · rintro i s hi hG
      have hi : i < T.Nodes.length := hi
      refine Ok.idxN hi fun l hl => ?_
      have hl : T.Nodes[i]? = some l := hl
      have hTl := hT.terms i l hl
      have hbl : ∀ t ∈ l, isB t.By := hby l (List.mem_of_getElem? hl)
      have hll := hTl.len (by omega)
      have eo : w64 ((T.Inputs.length : Int) + (i : Int)) = ((T.Inputs.length + i : Nat) : Int) := by rw [w64_id (by omega) (by omega)]; omega
      rw [eo]
      have hbS : T.Inputs.length + T.Nodes.length ≤ 256 → Sb T.Inputs.length i ≤ 57472 := fun h => Sb_le hil (by omega)
      -- the loads
      refine Ok.bind (P := fun s' => GI T u i 0 i (Sb T.Inputs.length i + T.Inputs.length) s' ∧ ∀ t ∈ l, ∃ x : Nat, s'.2.2.2.2.1[t.Of.toNat]? = some (x : Int)) ?_ ?_
      · refine for0_ok (fun k s' => GI T u i 0 i (Sb T.Inputs.length i + min k T.Inputs.length) s' ∧ ∀ (k' : Nat) t, k' < k → l[k']? = some t → ∃ x : Nat, s'.2.2.2.2.1[t.Of.toNat]? = some (x : Int)) ⟨hG.up (by omega), fun k' t hk => by omega⟩ ?_ ?_
        · rintro k s' hk ⟨h1, h2⟩
          refine Ok.idxN hk fun t ht => ?_
          have htm := List.mem_of_getElem? ht
          have h0 := hTl.at htm
          obtain ⟨v, hv⟩ := Int.eq_ofNat_of_zero_le h0.1
          rw [hv]
          have hkv : (k : Int) ≤ t.Of := (show Upto (l.map (·.Of)) ((T.Inputs.length : Int) + i) (l.map (·.Of)).length from hTl.of).low k t.Of (by rw [List.length_map]; exact hk) (by rw [List.getElem?_map, ht]; rfl)
          have huv : u[v]? = some (u[v]'(by omega)) := List.getElem?_eq_getElem (by omega)
          refine Ok.bind (load_ok (T := T) hT h1 (v := v) (by omega) (fun _ => by omega) ⟨_, huv, hU.late i l hl t htm _ (by rw [hv]; exact huv)⟩ (fun hN => by have := hbS hN; omega)) ?_
          rintro s'' ⟨g1, g2, g3⟩
          refine Ok.pure ⟨g1.up ?_, fun k' t' hk' ht' => ?_⟩
          · split <;> omega
          · by_cases e : k' = k
            · subst e; rw [ht] at ht'; cases ht'; rw [hv]; exact g2
            · obtain ⟨x, hx⟩ := h2 k' t' (by omega) ht'
              exact ⟨x, g3 _ x hx⟩
        · rintro s' ⟨h1, h2⟩
          refine ⟨h1.up (by omega), fun t ht => ?_⟩
          obtain ⟨k, hk⟩ := List.getElem?_of_mem ht
          exact h2 k t (List.getElem?_eq_some_iff.1 hk).1 hk
      rintro ⟨st, R, rd, tk, at_, ok⟩ ⟨hG, hat⟩
      have hsl : st.length ≤ 65536 := hG.sl
      have htl : tk.length = 256 := hG.tl
      have hal : at_.length = T.Inputs.length + T.Nodes.length := hG.al
      have har : ∀ (v : Nat) (x : Int), at_[v]? = some x → -1 ≤ x ∧ x < 256 := hG.ar
      have hat : ∀ t ∈ l, ∃ x : Nat, at_[t.Of.toNat]? = some (x : Int) := hat
      have hbd : T.Inputs.length + T.Nodes.length ≤ 256 → st.length ≤ Sb T.Inputs.length i + T.Inputs.length := hG.bd
      have hr0 : 0 ≤ R ∧ R ≤ 256 := hG.r0
      have hfr : at_[T.Inputs.length + i]? = some (-1) := hG.fresh _ (by omega) (by omega)
      -- hold
      obtain ⟨ix, e1, ⟨r, hr, er, hok, hno⟩⟩ := hold_ok hG (v := T.Inputs.length + i) (by omega) hfr
      obtain ⟨g, eg, hg⟩ : ∃ g, slices_Index_bool_bool tk false = some g ∧ (if g < (0 : Int) then (some ((0 : Int), false)) else (some (g, ok)) : Option (Int × Bool)) = some ix := by
        cases hq : slices_Index_bool_bool tk false with
        | none => have e1 : (slices_Index_bool_bool tk false).bind _ = some ix := e1
                  rw [hq] at e1; cases e1
        | some g => have e1 : (slices_Index_bool_bool tk false).bind _ = some ix := e1
                    rw [hq] at e1; exact ⟨g, rfl, e1⟩
      show Ok ((slices_Index_bool_bool tk false).bind _) _
      rw [eg, Option.bind_some]
      show Ok ((if g < (0 : Int) then (some ((0 : Int), false)) else (some (g, ok)) : Option (Int × Bool)).bind _) _
      rw [hg, Option.bind_some]
      obtain ⟨r', k'⟩ := ix
      have er : r' = (r : Int) := er
      subst er
      have hok : k' = true → ok = true ∧ tk[r]? = some false := hok
      have hno : k' = false → 256 < T.Inputs.length + T.Nodes.length := hno
      refine Ok.idxN (show r < tk.length by omega) fun tkr htk => ?_
      refine Ok.idxN (show T.Inputs.length + i < at_.length by omega) fun ao hao => ?_
      show Ok ((idx ((at_).set (((T.Inputs.length + i : Nat) : Int)).toNat (r : Int)) ((T.Inputs.length + i : Nat) : Int)).bind _) _
      rw [Int.toNat_natCast, Int.toNat_natCast]
      have hset : (at_.set (T.Inputs.length + i) (r : Int))[T.Inputs.length + i]? = some (r : Int) := set_get (by omega)
      have hown : idx (at_.set (T.Inputs.length + i) (r : Int)) ((T.Inputs.length + i : Nat) : Int) = some (r : Int) := idx_of rfl hset
      have hat' : ∀ t ∈ l, ∃ x : Nat, (at_.set (T.Inputs.length + i) (r : Int))[t.Of.toNat]? = some (x : Int) ∧ x < 256 := by
        intro t ht
        obtain ⟨x, hx⟩ := hat t ht
        have := hTl.at ht
        refine ⟨x, by rw [set_ne (by omega)]; exact hx, ?_⟩
        have := (har _ _ hx).2; omega
      have hw : w64 ((r : Int) + 1) = (r : Int) + 1 := w64_id (by omega) (by omega)
      refine Ok.bindE hown ?_
      have hdone := dones_ok (d := 0) (k0 := 0) (tk0 := tk.set r true) hT hU hl (by rw [List.length_set, htl]) hat'
      refine Ok.ite (fun hfull => ?_) fun hfull => ?_
      · have h256 : 256 < T.Inputs.length + T.Nodes.length := by
          by_cases hN : T.Inputs.length + T.Nodes.length ≤ 256
          · have := hbd hN; have := hbS hN
            have hfull : (st.length : Int) = 65536 := hfull
            omega
          · omega
        refine Ok.bind (P := fun _ => True) ?_ fun _ _ => ?_
        · refine for0_ok (fun _ _ => True) trivial ?_ fun _ _ => trivial
          intro k _ hk _
          refine Ok.idxN hk fun t ht => ?_
          obtain ⟨x, hx, _⟩ := hat' t (List.mem_of_getElem? ht)
          have := hTl.at (List.mem_of_getElem? ht)
          rw [hown, Option.bind_some, idx_of (k := t.Of.toNat) (by omega) hx, Option.bind_some]
          exact Ok.pure trivial
        refine Ok.bind hdone ?_
        rintro tk2 ⟨g1, _⟩
        refine Ok.bind (ownfree_ok (T := T) (d := 0) hT hU hi hr g1 hset) fun tk3 _ => Ok.pure ⟨rfl, h256⟩
      · have hfull : ¬ (st.length : Int) = 65536 := hfull
        refine Ok.app (by show (st.length + _) * 32 ≤ lim; simp only [List.length_cons, List.length_nil]; omega) ?_
        show Ok ((forN _ _ _ 0 (st ++ [⟨1, (r : Int), 0, 0⟩], k')).bind _) _
        have ha : ∀ t ∈ l, 0 ≤ t.Of ∧ (at_.set (T.Inputs.length + i) (r : Int))[t.Of.toNat]? = some (((fun v => (at_.getD v 0).toNat) t.Of.toNat : Nat) : Int) := by
          intro t ht
          obtain ⟨x, hx⟩ := hat t ht
          have := hTl.at ht
          refine ⟨this.1, ?_⟩
          rw [set_ne (by omega), hx]
          show some (x : Int) = some (((at_.getD t.Of.toNat 0).toNat : Nat) : Int)
          rw [List.getD_eq_getElem?_getD, hx, Option.getD_some, Int.toNat_natCast]
        have hsc' : ∀ q ∈ st ++ [(⟨1, (r : Int), 0, 0⟩ : GStep)], isB q.C := by
          intro q hq
          rcases List.mem_append.1 hq with hq | hq
          · exact hG.sc q hq
          · rw [List.mem_singleton] at hq; subst hq; exact isB0
        refine Ok.bind (macs_ok (l := l) (at_ := at_.set (T.Inputs.length + i) (r : Int)) (r := r) (own := ((T.Inputs.length + i : Nat) : Int)) (a := fun v => (at_.getD v 0).toNat) (z := st ++ [(⟨1, (r : Int), 0, 0⟩ : GStep)]) (k0 := k') hbl hown ha (by rw [List.length_append]; simp only [List.length_cons, List.length_nil]; omega) hsc' (N := T.Inputs.length + T.Nodes.length) hno (b := Sb T.Inputs.length i + T.Inputs.length + 1) (fun hN => by have := hbd hN; rw [List.length_append]; simp only [List.length_cons, List.length_nil]; omega) (fun hN => by have := hbS hN; omega)) ?_
        rintro ⟨st', k2⟩ ⟨m1, m2, m3, m4, m5⟩
        have m1 : st'.length ≤ 65536 := m1
        have m3 : k2 = true → k' = true ∧ st' = st ++ [(⟨1, (r : Int), 0, 0⟩ : GStep)] ++ l.map (fun t => (⟨3, (r : Int), (((fun v => (at_.getD v 0).toNat) t.Of.toNat : Nat) : Int), t.By⟩ : GStep)) := m3
        have m4 : k2 = false → 256 < T.Inputs.length + T.Nodes.length := m4
        have m5 : T.Inputs.length + T.Nodes.length ≤ 256 → st'.length ≤ Sb T.Inputs.length i + T.Inputs.length + 1 + l.length := m5
        refine Ok.bind hdone ?_
        rintro tk2 ⟨g1, g2⟩
        refine Ok.bind (ownfree_ok (T := T) (d := 0) hT hU hi hr g1 hset) ?_
        rintro tk3 ⟨g3, g4⟩
        refine Ok.ite (fun hk2 => Ok.pure ?_) fun hk2 => Ok.pure ⟨rfl, m4 (by
          have hk2 : ¬ k2 = true := hk2
          cases k2
          · rfl
          · exact absurd rfl hk2)⟩
        have hk2 : k2 = true := hk2
        obtain ⟨hk', hst⟩ := m3 hk2
        obtain ⟨hok1, hok2⟩ := hok hk'
        have hm := mxI_le R ((r : Int) + 1)
        have hGO := (hG.ok hok1).node hT hok2 hl (fun q hq => by have h1 := hq.1; rw [show (st, R, rd, tk, at_, ok).2.2.2.2.1 = at_ from rfl, hfr] at h1; have := Option.some.inj h1; omega) (a := fun v => (at_.getD v 0).toNat) (fun t ht => by
          obtain ⟨x, hx⟩ := hat t ht
          have h0 := hTl.at ht
          have hut : u[t.Of.toNat]? = some (u[t.Of.toNat]'(by omega)) := List.getElem?_eq_getElem (by omega)
          refine ⟨?_, _, hut, hU.late i l hl t ht _ hut⟩
          show at_[t.Of.toNat]? = some (((at_.getD t.Of.toNat 0).toNat : Nat) : Int)
          rw [List.getD_eq_getElem?_getD, hx, Option.getD_some, Int.toNat_natCast])
        have hGO2 := g2 _ _ _ (fun t ht x hux hxx => by
          have h0 := hTl.at ht
          rw [set_ne (by omega)] at hxx
          exact .inl ⟨hxx, _, hux, Int.le_refl _⟩) hGO
        have hGO3 := g4 _ _ _ ⟨.inr ⟨rfl, rfl⟩, by
          rintro ⟨t, ht, e, _⟩
          have := hTl.at ht; omega⟩ hGO2
        have hlen : T.Inputs.length + T.Nodes.length ≤ 256 → st'.length ≤ Sb T.Inputs.length (i + 1) := fun hN => by
          have := m5 hN
          show st'.length ≤ Sb T.Inputs.length i + (65 + T.Inputs.length + i); omega
        refine ⟨m1, m2, ⟨by show 0 ≤ mxI R (w64 ((r : Int) + 1)); rw [hw]; omega, by show mxI R (w64 ((r : Int) + 1)) ≤ 256; rw [hw]; omega⟩, g3, by show (at_.set _ _).length = _; rw [List.length_set, hal], fun v x hv => ?_, fun v h1 h2 => ?_, fun v h1 h2 => ?_, fun _ => ?_, m4, hlen⟩
        · rcases get_set hv with ⟨_, rfl⟩ | ⟨_, hv⟩
          · omega
          · exact har v x hv
        · show ∃ x : Nat, (at_.set (T.Inputs.length + i) (r : Int))[v]? = some (x : Int)
          by_cases e : v = T.Inputs.length + i
          · subst e; exact ⟨r, hset⟩
          · rw [set_ne e]; exact hG.node v h1 (by omega)
        · show (at_.set (T.Inputs.length + i) (r : Int))[v]? = some (-1)
          rw [set_ne (by omega)]; exact hG.fresh v (by omega) h2
        · show GO T (Lv (at_.set (T.Inputs.length + i) (r : Int)) u (i + 1)) st' (mxI R (w64 ((r : Int) + 1))) tk3 0
          rw [hw, hst]
          refine hGO3.congr fun w q => ⟨?_, ?_⟩
          · rintro ⟨⟨hL | ⟨rfl, rfl⟩, h2⟩, h3⟩
            · obtain ⟨h4, y, h5, h6⟩ := hL
              have h4 : at_[w]? = some (q : Int) := h4
              have hne : w ≠ T.Inputs.length + i := by
                intro e; subst e; rw [hfr] at h4; have := Option.some.inj h4; omega
              refine ⟨by rw [set_ne hne]; exact h4, y, h5, ?_⟩
              by_cases e : y = (i : Int)
              · subst e
                obtain ⟨l', hl', t, ht, e2⟩ := hU.at_ w _ h5 (by omega) (by omega)
                rw [Int.toNat_natCast, hl] at hl'; cases hl'
                exact absurd ⟨t, ht, by omega, h5⟩ h2
              · omega
            · have huo : u[T.Inputs.length + i]? = some (u[T.Inputs.length + i]'(by omega)) := List.getElem?_eq_getElem (by omega)
              generalize u[T.Inputs.length + i]'(by omega) = y at huo
              refine ⟨hset, y, huo, ?_⟩
              have h0 : ¬ y < 0 := fun h => h3 ⟨rfl, y, huo, h⟩
              have hrg := hU.rng _ _ huo
              by_cases hyn : y < T.Nodes.length
              · obtain ⟨l', hl', t, ht, e2⟩ := hU.at_ _ _ huo (by omega) hyn
                have := ((hT.terms _ l' hl').at ht).2; omega
              · omega
          · rintro ⟨h1, y, h5, h6⟩
            rcases get_set h1 with ⟨rfl, e⟩ | ⟨hne, h1⟩
            · refine ⟨⟨.inr ⟨rfl, by omega⟩, ?_⟩, ?_⟩
              · rintro ⟨t, ht, e2, _⟩
                have := hTl.at ht; omega
              · rintro ⟨_, y', h7, h8⟩
                rw [h5] at h7; cases h7; omega
            · refine ⟨⟨.inl ⟨h1, y, h5, by omega⟩, ?_⟩, fun h => hne h.1⟩
              rintro ⟨t, ht, e2, h7⟩
              rw [h5] at h7; cases h7; omega
  intro o ho
  match o, ho with
  | .ret q, ho => exact Ok.pure (.inr ⟨ho.1, by have := ho.2; omega⟩)
  | .fall s, ho =>
  have hG0 : GI T u T.Nodes.length 0 T.Nodes.length (Sb T.Inputs.length T.Nodes.length) s := ho
  have hbS : T.Inputs.length + T.Nodes.length ≤ 256 → Sb T.Inputs.length T.Nodes.length ≤ 57472 := fun h => Sb_le hil h
  refine Ok.bind (P := fun s => GI T u T.Nodes.length T.Outs.length T.Nodes.length (Sb T.Inputs.length T.Nodes.length + 2 * T.Outs.length) s) ?_ ?_
  · refine for0_ok (fun d s => GI T u T.Nodes.length d T.Nodes.length (Sb T.Inputs.length T.Nodes.length + 2 * d) s) hG0 ?_ fun s h => h
    rintro d s hd hG
    refine Ok.idxN hd fun o ho => ?_
    have h0 := hT.out o (List.mem_of_getElem? ho)
    obtain ⟨v, rfl⟩ := Int.eq_ofNat_of_zero_le h0.1
    have huv := hU.outs _ (List.mem_of_getElem? ho)
    rw [Int.toNat_natCast] at huv
    refine Ok.bind (load_ok (T := T) hT hG (v := v) (by omega) (fun _ => by omega) ⟨_, huv, Int.le_refl _⟩ (fun hN => by have := hbS hN; omega)) ?_
    rintro ⟨st, R, rd, tk, at_, ok⟩ ⟨g1, ⟨x, g2⟩, _⟩
    have g1 := g1.up (b' := Sb T.Inputs.length T.Nodes.length + 2 * d + 1) (by split <;> omega)
    have g2 : at_[v]? = some (x : Int) := g2
    have hsl : st.length ≤ 65536 := g1.sl
    refine Ok.bindE (idx_of rfl g2) ?_
    refine Ok.ite (fun hf => Ok.pure ⟨hsl, g1.sc, g1.r0, g1.tl, g1.al, g1.ar, g1.node, g1.fresh, fun h => (by cases h), fun _ => ?_, fun hN => by have := g1.bd hN; have h5 : st.length ≤ Sb T.Inputs.length T.Nodes.length + 2 * d + 1 := this; show st.length ≤ _; omega⟩) fun hf => ?_
    · by_cases hN : T.Inputs.length + T.Nodes.length ≤ 256
      · have h5 : st.length ≤ Sb T.Inputs.length T.Nodes.length + 2 * d + 1 := g1.bd hN
        have := hbS hN
        have hf : (st.length : Int) = 65536 := hf
        omega
      · omega
    · have hf : ¬ (st.length : Int) = 65536 := hf
      refine Ok.app (by show (st.length + _) * 32 ≤ lim; simp only [List.length_cons, List.length_nil]; omega) (Ok.pure ?_)
      refine ⟨by show (st ++ [_]).length ≤ 65536; rw [List.length_append]; simp only [List.length_cons, List.length_nil]; omega, fun q hq => ?_, g1.r0, g1.tl, g1.al, g1.ar, g1.node, g1.fresh, fun hk => ?_, g1.no, fun hN => ?_⟩
      · rcases List.mem_append.1 hq with hq | hq
        · exact g1.sc q hq
        · rw [List.mem_singleton] at hq; subst hq; exact isB0
      · exact (g1.ok hk).out hT ho (r := x) ⟨by rw [Int.toNat_natCast]; exact g2, _, by rw [Int.toNat_natCast]; exact huv, Int.le_refl _⟩
      · have h5 : st.length ≤ Sb T.Inputs.length T.Nodes.length + 2 * d + 1 := g1.bd hN
        show (st ++ [_]).length ≤ _
        rw [List.length_append]; simp only [List.length_cons, List.length_nil]; omega
  · rintro ⟨st, R, rd, tk, at_, ok⟩ hG
    refine Ok.ite (fun hk => Ok.pure (.inl ⟨rfl, T, sel, hSel, ?_⟩)) fun hk => Ok.pure (.inr ⟨rfl, ?_⟩)
    · have hGO := hG.ok hk
      refine ⟨⟨hG.r0.1, hG.r0.2, by show 0 ≤ (T.Outs.length : Int); omega, by show (T.Outs.length : Int) ≤ 64; omega, hG.sl⟩, hG.sc, rfl, fun bl hb hS hW => ?_⟩
      have hR : 0 ≤ R := hG.r0.1
      obtain ⟨regs, outs, h1, h2, h3⟩ := hGO.ex bl hb hS hW R.toNat (by show R ≤ _; omega)
      refine ⟨regs, ?_⟩
      show runM bl (sizeOf0 bl) st (List.replicate R.toNat none, List.replicate ((T.Outs.length : Int)).toNat none) = _
      rw [Int.toNat_natCast, h1, h3.2]
      unfold outD
      rw [Nat.sub_self, List.replicate_zero, List.append_nil, List.take_of_length_le (by unfold outV; rw [List.length_map]; exact Nat.le_refl _)]
    · have := hG.no (by
        have hk : ¬ ok = true := hk
        show ok = false
        cases ok
        · rfl
        · exact absurd rfl hk)
      omega
end Go.RL
