/- A program logic over the model's machine, part 19: quiet steps, pieces of memory, loops, calls.
   Part of the proof of Rows.RegsFlowsSaid of the program 'recoup'. -/
import Derived.Test.YtoaimimdfddidaaLb18
set_option linter.unusedVariables false
set_option linter.unusedSimpArgs false
set_option linter.unusedSectionVars false
namespace Go.RL
set_option linter.unusedVariables false

theorem BxP.rd2 {α : Type} {e : ET α} {H H' : PHeap} {p : Piece} {ps : List Pd} {xs : List α} {g off n k : Nat} {T : TypeId} (hb : BxP H p g T ps) (hk : ps[k]? = some (.a (ptA e n xs))) (ho : offP ps k = off) (hn : Nat.ble (n * e.bytes) lim = true) (hp : PHeap.le p H') (hle : PHeap.le H H') : RdS e H' (some ⟨g, off, none⟩) n xs := by
  obtain ⟨css, h1, h2⟩ := hb
  obtain ⟨pre, cs, post, e1, e2, e3, e4⟩ := h1.at hk
  obtain ⟨c1, c2, c3⟩ := (e3 : cs.length = n * e.n ∧ xs.length = n ∧ Cells e H cs.toArray 0 xs)
  unfold Bx at h2
  subst h2
  refine ⟨by omega, by rw [c2]; exact Nat.le_of_ble_eq_true hn, .inr ⟨g, off, _, T, (0, 0), rfl, hp _ _ sing_get, ?_⟩⟩
  refine Cells.ext (c3.mono hle) fun j v hj hv => ?_
  simp only [Nat.zero_add, List.getElem?_toArray] at hv ⊢
  have hlt := (List.getElem?_eq_some_iff.1 hv).1
  rw [e1, List.flatten_append, List.flatten_cons, List.getElem?_append_right (by omega), e2, ho, List.getElem?_append_left (by omega)]
  rw [show off + j - off = j from by omega]
  exact hv

section
variable {α β : Type} {ro : RO α β} {H : PHeap} {T1 : TypeId} {A : Option Addr} {cp : Nat} {bs : List β} {p : Piece}
theorem OwnD.len' (h : OwnD ro T1 H A cp bs p) (_ : Nat.blt 0 24 = true) : bs.length ≤ 140737488355328 := h.len
theorem RowsO.unN {e : ET α} {T : TypeId} : ∀ {hs : List Hd} {os : List (Option (List α))} {ps : List Piece}, RowsO (roN e T) H hs os ps → RowsO (roP e T) H hs (os.map (·.getD [])) ps
  | [], [], [], _ => trivial
  | h :: hs, none :: os, p :: ps, ⟨h1, h2⟩ => by
    obtain ⟨rfl, rfl⟩ := h1
    exact ⟨⟨rfl, OwnS.nil⟩, h2.unN⟩
  | h :: hs, some xs :: os, p :: ps, ⟨h1, h2⟩ => ⟨h1.2, h2.unN⟩
  | [], [], _ :: _, h => h.elim
  | [], _ :: _, [], h => h.elim
  | [], _ :: _, _ :: _, h => h.elim
  | _ :: _, [], _, h => by cases ‹List Piece› <;> exact h.elim
  | _ :: _, _ :: _, [], h => h.elim
theorem OwnD.unN {e : ET α} {T : TypeId} {os : List (Option (List α))} (h : OwnD (roN e T) T1 H A cp os p) : OwnD (roP e T) T1 H A cp (os.map (·.getD [])) p := by
  obtain ⟨hs, ps, p0, h1, h2, h3, h4⟩ := h
  exact ⟨hs, ps, p0, h1, h2.unN, h3, h4⟩
theorem RdS.unN {e : ET α} {os : List (Option (List α))} (h : RdS (eSlN e) H A cp os) : RdS (eSl e) H A cp (os.map (·.getD [])) := by
  obtain ⟨h1, h2, h3⟩ := h
  refine ⟨by simpa using h1, by rw [List.length_map]; exact h2, ?_⟩
  rcases h3 with rfl | ⟨g, off, arr, T, fz, q1, q2, q3⟩
  · exact .inl rfl
  · refine .inr ⟨g, off, arr, T, fz, q1, q2, fun i x hx => ?_⟩
    rw [List.getElem?_map, Option.map_eq_some_iff] at hx
    obtain ⟨ox, hx, rfl⟩ := hx
    obtain ⟨cs, c1, c2⟩ := q3 i ox hx
    refine ⟨cs, ?_, c2⟩
    cases ox with
    | none => exact ⟨none, 0, c1, RdS.nil⟩
    | some xs => obtain ⟨A, c, r1, r2, _⟩ := c1; exact ⟨A, c, r1, r2⟩

variable {X : Nat → Prop} {w0 w w' : World} {L : List Piece}
theorem RowsO.flatP {e : ET α} {T : TypeId} {H' : PHeap} (hf : ∀ h h' cs x, e.rd h cs x → e.rd h' cs x) : ∀ {hs : List Hd} {os : List (List α)} {ps : List Piece}, RowsO (roP e T) H hs os ps → RowsO (roP e T) H' hs os ps
  | [], [], [], _ => trivial
  | h :: hs, xs :: os, p :: ps, ⟨h1, h2⟩ => ⟨⟨h1.1, h1.2.flat hf⟩, h2.flatP hf⟩
  | [], [], _ :: _, h => h.elim
  | [], _ :: _, [], h => h.elim
  | [], _ :: _, _ :: _, h => h.elim
  | _ :: _, [], _, h => by cases ‹List Piece› <;> exact h.elim
  | _ :: _, _ :: _, [], h => h.elim
theorem OwnD.flat {e : ET α} {T : TypeId} {H' : PHeap} {os : List (List α)} (h : OwnD (roP e T) T1 H A cp os p) (hf : ∀ h h' cs x, e.rd h cs x → e.rd h' cs x) : OwnD (roP e T) T1 H' A cp os p := by
  obtain ⟨hs, ps, p0, h1, h2, h3, h4⟩ := h
  exact ⟨hs, ps, p0, h1.flat (fun _ _ _ _ h => h), h2.flatP hf, h3, h4⟩

/-- a row of a deep list, taken out for a while -/
theorem St.row {k : Nat} {i : Int} {b : β} {adl : Addr} {Ar : Option Addr} {nr cr : Nat} (hS : St X w0 w H L) (hr : OwnD ro T1 H A cp bs p) (hi : idx bs i = some b) (hl : AtO A 1 i.toNat adl) (hh : HdA p adl (Ar, nr, cr)) (hp : L[k]? = some p) :
    ∃ q rest, St X w0 w H (q :: L.set k rest) ∧ OwnS ro.e ro.T H Ar cr (ro.to b) q ∧
      ∀ w' ys q', St X w0 w' H (q' :: L.set k rest) → OwnS ro.e ro.T H Ar cr ys q' → ys.length = (ro.to b).length → ∃ p', St X w0 w' H (L.set k p') ∧ OwnD ro T1 H A cp (bs.set i.toNat (ro.put b ys)) p' := by
  obtain ⟨_, hi, _⟩ := idx_some hi
  generalize i.toNat = i at *
  obtain ⟨hs, ps, p0, h1, h2, h3, rfl⟩ := hr
  obtain ⟨h', q, f1, f2, f3⟩ := h2.at hi
  have e0 := hd_at h1 h3 hh hl (List.getElem?_eq_some_iff.1 f1).1
  rw [e0] at f1; injection f1 with f1; subst f1
  have hk : k < L.length := (List.getElem?_eq_some_iff.1 hp).1
  have hil : i < ps.length := (List.getElem?_eq_some_iff.1 f2).1
  have s1 := (hS.out hp).unj h3
  have s2 := s1.out (k := i + 1) (p := q) (by rw [List.getElem?_append_left (by simp; omega)]; simpa using f2)
  have hset : ((p0 :: ps) ++ L.set k emp).set (i + 1) emp = (p0 :: ps.set i emp) ++ L.set k emp := by
    rw [List.set_append_left _ _ (by simp; omega)]; rfl
  rw [hset] at s2
  have s3 : St X w0 w H ((p0 :: ps.set i emp) ++ (q :: L.set k emp)) := s2.perm (List.perm_middle (l₁ := p0 :: ps.set i emp)).symm
  have hpw := s3.pw_left
  have s4 := s3.rej.in_ (k := k + 1) (by simpa using set_emp hk)
  have e1 : (q :: L.set k emp).set (k + 1) (joinL (p0 :: ps.set i emp)) = q :: L.set k (joinL (p0 :: ps.set i emp)) := by simp [List.set_set]
  rw [e1] at s4
  refine ⟨q, _, s4, (ro.toS f3).1, fun w' ys q' hS' hO' hlen => ?_⟩
  have t1 := hS'.out (k := k + 1) (p := joinL (p0 :: ps.set i emp)) (by simp [hk])
  have e2 : (q' :: L.set k (joinL (p0 :: ps.set i emp))).set (k + 1) emp = q' :: L.set k emp := by simp [List.set_set]
  rw [e2] at t1
  have t2 := t1.unj hpw
  have t3 : St X w0 w' H (q' :: ((p0 :: ps.set i emp) ++ L.set k emp)) := t2.perm (List.perm_middle (l₁ := p0 :: ps.set i emp))
  have t4 := t3.in_ (k := i + 1) (by rw [List.getElem?_append_left (by simp; omega)]; simp [hil])
  have e3 : ((p0 :: ps.set i emp) ++ L.set k emp).set (i + 1) q' = (p0 :: ps.set i q') ++ L.set k emp := by
    rw [List.set_append_left _ _ (by simp; omega)]; simp [List.set_set]
  rw [e3] at t4
  have hpw' := t4.pw_left
  have t5 := t4.rej.in_ (k := k) (set_emp hk)
  rw [set_set_emp] at t5
  refine ⟨_, t5, hs, ps.set i q', p0, h1, ?_, hpw', rfl⟩
  have := h2.set (i := i) (ro.puts f3 hO' hlen)
  rw [set_self e0] at this
  exact this
end

theorem wp_for0 {P : Program} {Q : Exit → Act → World → Prop} {a : Act} {w : World} {σ ρ : Type} {body : Code} {f : Nat → σ → Option (Ctl σ ρ)} {fin : σ → ρ} {r : ρ} {n : Nat} {s0 : σ} (I : Nat → σ → Act → World → Prop)
    (hF : forN f fin n 0 s0 = some r) (h0 : I 0 s0 a w)
    (round : ∀ (After : σ → Prop) i s a w, I i s a w → i ≤ n → (i < n → ∃ c, f i s = some c ∧ c.go After r) → (n ≤ i → fin s = r) →
      body.wp P (Exit.then (fun a w => ∃ s, I (i + 1) s a w ∧ i < n ∧ After s) Q) a w) : (Code.loop body).wp P Q a w :=
  wp_forN (i0 := 0) I hF (Nat.zero_le _) h0 fun A i s a w h _ => round A i s a w h

theorem OwnS.srcLe {α : Type} {e : ET α} {X : Nat → Prop} {w0 w : World} {H H' : PHeap} {L : List Piece} {T : TypeId} {A : Option Addr} {c i : Nat} {xs : List α} {p q : Piece} (h : OwnS e T H A c xs q) (hle : PHeap.le q p) (hS : St X w0 w H' L) (hp : L[i]? = some p) : SrcOK e H w A xs := by
  rcases h with ⟨_, rfl, _⟩ | ⟨g, arr, q1, q2, _, _, _, q6⟩
  · exact .inl rfl
  · exact .inr ⟨g, 0, arr, T, (0, 0), q1, hS.get hp (hle _ _ (by rw [q2]; exact sing_get)), q6⟩

theorem inR_mxI {k : IntKind} {a b : Int} (ha : inR k a) (hb : inR k b) : inR k (mxI a b) := by unfold mxI; split <;> assumption
theorem inR_mnI {k : IntKind} {a b : Int} (ha : inR k a) (hb : inR k b) : inR k (mnI a b) := by unfold mnI; split <;> assumption

theorem OwnS.take {α : Type} {e : ET α} {H : PHeap} {T : TypeId} {A : Option Addr} {c : Nat} {xs : List α} {p : Piece} (h : OwnS e T H A c xs p) (n : Nat) : OwnS e T H A c (xs.take n) p := by
  rcases h with ⟨rfl, rfl, rfl⟩ | ⟨g, arr, q1, q2, q3, q4, q5, q6⟩
  · exact .inl ⟨rfl, by simp, rfl⟩
  · have hl : (xs.take n).length ≤ xs.length := by simp [List.length_take]; omega
    refine .inr ⟨g, arr, q1, q2, q3, by omega, Nat.le_trans (Nat.mul_le_mul_right _ hl) q5, fun i x hx => q6 i x ?_⟩
    rw [List.getElem?_take] at hx
    split at hx
    · exact hx
    · cases hx

section
variable {P : Program} {tab : List (Nat × TE)} {ops : Array Oper} {Q : Exit → Act → World → Prop} {a : Act} {w w0 : World} {rest : List Oper} {c : Cfg} {l : List (Nat × Value)}
variable {X : Nat → Prop} {H : PHeap} {L : List Piece} {ty : TypeId} {pos : String} {after : Array Edge} {gu : Option (Nat × Bool)}
variable {α : Type} {e : ET α} {xs ys zs : List α} {A : Option Addr} {cp : Nat} {p : Piece} {Tb : TypeId}
theorem run_appN {k T1 T2 : Nat} {te se : TE} (hT : TabOK P tab) (hS : St X w0 w H L) (hr : OwnS e Tb H A cp xs p) (hp : L[k]? = some p) {A2 : Option Addr} {c2 : Nat}
    (hs : SrcOK e H w A2 ys) (ht : tk T1 tab = some te) (hk : te.tk = .slice Tb) (hse : tk Tb tab = some se) (hn : se.size = e.n) (hb : se.bytes = e.bytes)
    (hz : (vcells se.zero).length = se.size) (hpos : 0 < se.bytes)
    {te2 : TE} (ht2 : tk T2 tab = some te2) (hk2 : te2.tk = .slice Tb) (hlim : (xs.length + ys.length) * e.bytes ≤ lim) (hroom : ¬ xs.length + ys.length ≤ cp) :
    ∃ A' c' p' w', (Builtin.append_ #[T1, T2] ty #[.slice A xs.length cp, .slice A2 ys.length c2]).run P w = .ok (.slice A' (xs ++ ys).length c') w' ∧
      St X w0 w' H (p' :: L) ∧ OwnS e Tb H A' c' (xs ++ ys) p' := by
  have hu := (hT T1 te ht).slice hk
  have hu2 := (hT T2 te2 ht2).slice hk2
  obtain ⟨i, hi, hiz, his, hib⟩ := (hT Tb se hse).get
  have hsz : (sizeOf Tb).run P w = .ok e.n w := by rw [run_size (hT Tb se hse), hn]
  obtain ⟨fs, r1, f1, f2, f3, f5⟩ := run_src (P := P) (size := e.n) (c' := c2) hs rfl
  have hlen : (xs ++ ys).length = xs.length + ys.length := List.length_append
  rw [hlen]
  have hle := hr.le
  have hnc := nextcap_le (xs.length + ys.length) cp (by omega)
  have hcapb : ¬ (281474976710656 < Builtin.nextslicecap (xs.length + ys.length) cp * i.bytes) := by
    have h1 : Builtin.nextslicecap (xs.length + ys.length) cp * i.bytes ≤ 2 * (xs.length + ys.length) * i.bytes := Nat.mul_le_mul_right _ hnc
    rw [hib, hb] at h1 ⊢
    rw [Nat.mul_assoc] at h1
    simp only [lim] at hlim
    omega
  -- the old elements
  have hold : ∃ gs : List (List Value), (Builtin.firstCells e.n xs.length (.slice A xs.length cp)).run P w = .ok gs.flatten.toArray w ∧ gs.length = xs.length ∧ gs.flatten.length = xs.length * e.n ∧
      (∀ (i : Nat) x cs, xs[i]? = some x → gs[i]? = some cs → e.rd H cs x) ∧ ∀ v ∈ gs.flatten, v.oneCell' = true := run_src (hr.src hS hp) rfl
  obtain ⟨gs, g1, g2, g3, g4, _⟩ := hold
  have hQ : ∀ w1 : World, w1.heap = w.heap → (Builtin.firstCells e.n xs.length (.slice A xs.length cp)).run P w1 = .ok gs.flatten.toArray w1 ∧ (Builtin.firstCells e.n ys.length (.slice A2 ys.length c2)).run P w1 = .ok fs.flatten.toArray w1 := by
    intro w1 hw1
    have hsrc1 : ∀ {zs : List α} {B : Option Addr}, SrcOK e H w B zs → SrcOK e H w1 B zs := by
      intro zs B h
      refine h.imp id ?_
      rintro ⟨g, off, arr, T, fz, q1, q2, q3⟩
      exact ⟨g, off, arr, T, fz, q1, by rw [hw1]; exact q2, q3⟩
    have key : ∀ {zs : List α} {B : Option Addr} {cB : Nat} {hs : List Value}, (Builtin.firstCells e.n zs.length (.slice B zs.length cB)).run P w = .ok hs.toArray w →
        SrcOK e H w B zs → (Builtin.firstCells e.n zs.length (.slice B zs.length cB)).run P w1 = .ok hs.toArray w1 := by
      intro zs B cB hs hrun hsrc
      rcases hsrc with rfl | ⟨g, off, arr, T, fz, rfl, q2, q3⟩
      · cases B with
        | none =>
          simp [Builtin.firstCells] at hrun ⊢
          exact hrun
        | some ad =>
          simp [Builtin.firstCells, loadCells, loadCellsFrom] at hrun ⊢
          exact hrun
      · obtain ⟨ks, k1, k2, k3, k4, k5⟩ := q3.flat
        have e1 := run_first (P := P) (w := w) (c' := cB) k2 (fun j v hv => by rw [cell_of q2]; exact k4 j v hv)
        have e2 := run_first (P := P) (w := w1) (c' := cB) k2 (fun j v hv => by rw [cell_of (by rw [hw1]; exact q2)]; exact k4 j v hv)
        rw [hrun] at e1
        injection e1 with e1 _
        rw [e2, e1]
    exact ⟨key g1 (hr.src hS hp), key r1 hs⟩
  generalize hq : (Question.appendCap (xs.length + ys.length) cp Tb).cut (w.tape w.drawn (Question.appendCap (xs.length + ys.length) cp Tb)) = newCap
  have hcap : xs.length + ys.length ≤ newCap := by rw [← hq]; simp only [Question.cut]; exact Nat.le_add_right _ _
  obtain ⟨o1, o2⟩ := hQ { w with drawn := w.drawn + 1 } rfl
  have hS2 := (hS.drew.alloc (.cells (gs.flatten.toArray ++ fs.flatten.toArray ++ Builtin.zeroCells se.zero.cells (newCap - (xs.length + ys.length))) Tb (0, 0)))
  refine ⟨some ⟨w.heap.size, 0, none⟩, newCap, _, _, ?_, hS2, .inr ⟨w.heap.size, _, rfl, rfl, ?_, by omega, by rw [hlen]; exact hlim, ?_⟩⟩
  · have hforced : (Question.appendCap (xs.length + ys.length) cp Tb).forced = false := rfl
    have hzero : ∀ w1 : World, (zeroValue Tb).run P w1 = .ok se.zero w1 := fun w1 => run_zero (hT Tb se hse) w1
    have hcap' : Builtin.nextslicecap (xs.length + ys.length) cp * i.bytes ≤ 281474976710656 := Nat.not_lt.mp hcapb
    have hb0 : i.bytes ≠ 0 := by rw [hib]; omega
    have hti : ∀ w1 : World, (typeInfo Tb).run P w1 = .ok i w1 := fun w1 => by simp [typeInfo, hi]
    have hcapN : ¬ (2 ^ 48 < Builtin.nextslicecap (xs.length + ys.length) cp * i.bytes) := by omega
    simp [Builtin.append_, run_und hu, run_und hu2, hsz, Builtin.lenOf, hroom, hti, hb0, hcapN, hforced, hq, hzero, newRow]
    rw [show (Builtin.firstCells e.n xs.length (.slice A xs.length cp)).run P w.drew = .ok gs.flatten.toArray w.drew from o1, Result.andThen_ok,
      show (Builtin.firstCells e.n ys.length (.slice A2 ys.length c2)).run P w.drew = .ok fs.flatten.toArray w.drew from o2, Result.andThen_ok]
    simp only [← Array.append_assoc, List.append_toArray]
    rfl
  · have hz' : se.zero.cells.size = e.n := by rw [← hn, ← hz, ← vcells_eq]; simp
    simp only [Array.size_append, List.size_toArray, g3, f2, oneCell_zero, hz']
    rw [← Nat.add_mul, ← Nat.add_mul]
    congr 1
    omega
  · refine Cells.append (Cells.of_flat g2 g4 fun j v hv => ?_) (Cells.of_flat f1 f3 fun j v hv => ?_)
    · have hj : j < gs.flatten.length := (List.getElem?_eq_some_iff.1 hv).1
      rw [Array.append_assoc, Array.getElem?_append_left (by simpa using hj)]
      simpa using hv
    · have hj : j < fs.flatten.length := (List.getElem?_eq_some_iff.1 hv).1
      rw [Array.append_assoc, Array.getElem?_append_right (by simp [g3])]
      simp only [List.size_toArray, g3]
      rw [show 0 + xs.length * e.n + j - xs.length * e.n = j from by omega]
      rw [Array.getElem?_append_left (by simpa using hj)]
      simpa using hv

/-- append, where the old slice is held on to: there is room in its own block, or a new block is made -/
theorem o_appK {d k T1 T2 : Nat} {x y : Operand} {te te2 se : TE} {A2 : Option Addr} {c2 : Nat} (hT : TabOK P tab) (hA : Fr c a l) (hS : St X w0 w H L) (hr : OwnS e Tb H A cp xs p) (hp : L[k]? = some p)
    (hs : SrcOK e H w A2 ys) (hz : app e.bytes xs ys = some zs) (hx : ev l x = some (.slice A xs.length cp)) (hy : ev l y = some (.slice A2 ys.length c2))
    (ht : tk T1 tab = some te) (hk : te.tk = .slice Tb) (ht2 : tk T2 tab = some te2) (hk2 : te2.tk = .slice Tb) (hse : tk Tb tab = some se) (hn : se.size = e.n) (hb : se.bytes = e.bytes)
    (hz0 : (vcells se.zero).length = se.size) (hpos : Nat.blt 0 se.bytes = true) (hd : Nat.blt d c.1 = true)
    (hw : gd ops l ⟨some d, .call ⟨.builtin .append, #[x, y], #[T1, T2]⟩, ty, pos, after, gu⟩ = some true)
    (K1 : ∀ a w p, Fr c a ((d, .slice A zs.length cp) :: l) → St X w0 w H (L.set k p) → OwnS e Tb H A cp zs p → wpList P ops Q rest a w)
    (K2 : ∀ a w A' cp' p', Fr c a ((d, .slice A' zs.length cp') :: l) → St X w0 w H (p' :: L) → OwnS e Tb H A' cp' zs p' → wpList P ops Q rest a w) :
    wpList P ops Q (⟨some d, .call ⟨.builtin .append, #[x, y], #[T1, T2]⟩, ty, pos, after, gu⟩ :: rest) a w := by
  obtain ⟨hlim, rfl⟩ := app_some hz
  by_cases hroom : xs.length + ys.length ≤ cp
  · -- in place
    have hu := (hT T1 te ht).slice hk
    have hu2 := (hT T2 te2 ht2).slice hk2
    have hsz : (sizeOf Tb).run P w = .ok e.n w := by rw [run_size (hT Tb se hse), hn]
    have hkL : k < L.length := (List.getElem?_eq_some_iff.1 hp).1
    obtain ⟨fs, r1, f1, f2, f3, f5⟩ := run_src (P := P) (size := e.n) (c' := c2) hs rfl
    rcases hr with ⟨rfl, rfl, rfl⟩ | ⟨g, arr, rfl, rfl, q3, q4, q5, q6⟩
    · have hy0 : ys = [] := by simpa using hroom
      subst hy0
      have hfs : fs.flatten = [] := List.eq_nil_of_length_eq_zero (by simpa using f2)
      refine stepv (w' := w) (gd_spec hA hw) ?_ (K1 _ w emp (hA.put hd _) ?_ OwnS.nil)
      · simp only [List.length_nil] at r1
        simp [execOp, resolve, invoke, builtin, hA.eval hx, hA.eval hy, Builtin.append_, run_und hu, run_und hu2, hsz, Builtin.lenOf, r1, hfs]
        cases A <;> simp [storeCells]
      · have : L.set k emp = L := set_self hp
        rw [this]; exact hS
    · have hfit : xs.length * e.n + ys.length * e.n ≤ cp * e.n := by rw [← Nat.add_mul]; exact Nat.mul_le_mul_right _ hroom
      obtain ⟨w', s1, s2⟩ := run_stores (P := P) (i := k) (g := g) (T := Tb) fs.flatten arr.toList (xs.length * e.n) 0 hkL hS hp (by rw [Array.toArray_toList]; exact sing_get) (by simp [q3, f2]; omega) f5
      rw [upd_sing] at s2
      have hlen : (xs ++ ys).length = xs.length + ys.length := List.length_append
      refine stepv (v := .slice (some ⟨g, 0, none⟩) (xs ++ ys).length cp) (w' := w') (gd_spec hA hw) ?_ (K1 _ w' _ (hA.put hd _) s2 (.inr ⟨g, _, rfl, rfl, ?_, by omega, by rw [hlen]; exact hlim, ?_⟩))
      · simp [execOp, resolve, invoke, builtin, hA.eval hx, hA.eval hy, Builtin.append_, run_und hu, run_und hu2, hsz, Builtin.lenOf, r1, hroom, add_eq, s1]
      · simp [stv_length, q3]
      · have hfit' : xs.length * e.n + fs.flatten.length ≤ arr.toList.length := by simp [q3, f2]; omega
        refine Cells.append (q6.ext fun j v hj hv => ?_) (Cells.of_flat f1 f3 fun j v hv => ?_)
        · simp only [Nat.zero_add, Nat.add_zero, List.getElem?_toArray] at hv ⊢
          rw [stv_get _ _ _ _ hfit', if_neg (by omega)]
          simpa using hv
        · have hj : j < fs.flatten.length := (List.getElem?_eq_some_iff.1 hv).1
          simp only [Nat.zero_add, Nat.add_zero, List.getElem?_toArray]
          rw [stv_get _ _ _ _ hfit', if_pos (by omega)]
          rw [show xs.length * e.n + j - xs.length * e.n = j from by omega]
          exact hv
  · obtain ⟨A', c', p', w', r1, r2, r3⟩ := run_appN (P := P) (ty := ty) (c2 := c2) hT hS hr hp hs ht hk hse hn hb hz0 (Nat.le_of_ble_eq_true hpos) ht2 hk2 hlim hroom
    refine stepv (w' := w') (gd_spec hA hw) ?_ (K2 _ _ _ _ _ (hA.put hd _) r2 r3)
    simp [execOp, resolve, invoke, builtin, hA.eval hx, hA.eval hy, r1]
end

theorem take_len {α : Type} {xs zs ys lit x0 : List α} (h1 : xs.length = zs.length) (h2 : zs = ys ++ lit) (h3 : ys.length = x0.length) : (xs.take x0.length).length = x0.length := by
  subst h2
  simp only [List.length_append] at h1
  rw [List.length_take]
  omega
theorem OwnS.inB {b : Nat} {H : PHeap} {T : TypeId} {A : Option Addr} {c : Nat} {xs : List Int} {p : Piece} (h : OwnS (eInt .u8 b) T H A c xs p) : inB xs := by
  intro x hx
  obtain ⟨i, hi, rfl⟩ := List.getElem_of_mem hx
  rcases h with ⟨_, rfl, _⟩ | ⟨g, arr, q1, q2, q3, q4, q5, q6⟩
  · simp at hi
  · obtain ⟨cs, c1, c2⟩ := q6 i xs[i] (by simp [hi])
    exact c1.2

/-! ### laws, told as propositions -/
theorem iteP {c : Prop} [Decidable c] {A B : Prop} (h : if c then A else B) : (c ∧ A) ∨ (¬ c ∧ B) := by
  split at h
  · exact .inl ⟨‹_›, h⟩
  · exact .inr ⟨‹_›, h⟩

section
variable {P : Program} {Q : Exit → Act → World → Prop} {a : Act} {w : World}
theorem wp_forP {σ : Type} {body : Code} {n : Nat} {s0 : σ} (I : Nat → σ → Prop) (J : Nat → σ → Act → World → Prop) (hI0 : I 0 s0) (h0 : J 0 s0 a w)
    (round : ∀ i s a w, J i s a w → i ≤ n → I i s → body.wp P (Exit.then (fun a w => ∃ s, J (i + 1) s a w ∧ i < n ∧ I (i + 1) s) Q) a w) : (Code.loop body).wp P Q a w := by
  refine wp_loop_ghost (fun k a w => ∃ i s, J i s a w ∧ i ≤ n ∧ I i s ∧ k = n - i) n ⟨0, s0, h0, Nat.zero_le _, hI0, by omega⟩ ?_
  rintro k a w ⟨i, s, hJ, hin, hI, rfl⟩
  refine wp_mono (round i s a w hJ hin hI) fun e a w q => ?_
  cases e with
  | normal =>
    obtain ⟨s', hJ', hlt, hI'⟩ := q
    exact ⟨n - (i + 1), by omega, i + 1, s', hJ', by omega, hI', rfl⟩
  | _ => exact q
theorem wp_iterP {σ : Type} {body : Code} {s0 : σ} (I : σ → Prop) (m : σ → Nat) (J : σ → Act → World → Prop) (hI0 : I s0) (h0 : J s0 a w)
    (round : ∀ s a w, J s a w → I s → body.wp P (Exit.then (fun a w => ∃ s', J s' a w ∧ I s' ∧ m s' < m s) Q) a w) : (Code.loop body).wp P Q a w := by
  refine wp_loop_ghost (fun k a w => ∃ s, J s a w ∧ I s ∧ k = m s) (m s0) ⟨s0, h0, hI0, rfl⟩ ?_
  rintro k a w ⟨s, hJ, hI, rfl⟩
  refine wp_mono (round s a w hJ hI) fun e a w q => ?_
  cases e with
  | normal =>
    obtain ⟨s', hJ', hI', hm⟩ := q
    exact ⟨m s', hm, s', hJ', hI', rfl⟩
  | _ => exact q
end
end Go.RL
