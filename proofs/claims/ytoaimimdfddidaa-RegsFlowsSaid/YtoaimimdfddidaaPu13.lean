/- Plain laws of what the functions compute, no program in sight.
   Part of the proof of Rows.RegsFlowsSaid of the program 'recoup'. -/
import Derived.Test.YtoaimimdfddidaaPu12
set_option linter.unusedVariables false
set_option linter.unusedSimpArgs false
set_option linter.unusedSectionVars false
set_option linter.unusedVariables false
namespace Go.RL

/-! The helpers of Give: the first that is false, so many times, the last use. -/

theorem get_set {α : Type} {xs : List α} {i j : Nat} {x y : α} (h : (xs.set i x)[j]? = some y) : (j = i ∧ y = x) ∨ (j ≠ i ∧ xs[j]? = some y) := by
  by_cases e : i = j
  · subst e
    rw [List.getElem?_set, if_pos rfl] at h
    split at h
    · cases h; exact .inl ⟨rfl, rfl⟩
    · cases h
  · rw [List.getElem?_set, if_neg e] at h
    exact .inr ⟨fun h' => e h'.symm, h⟩
theorem set_get {α : Type} {xs : List α} {i : Nat} {x : α} (h : i < xs.length) : (xs.set i x)[i]? = some x := by rw [List.getElem?_set, if_pos rfl, if_pos h]
theorem set_ne {α : Type} {xs : List α} {i j : Nat} {x : α} (h : j ≠ i) : (xs.set i x)[j]? = xs[j]? := by rw [List.getElem?_set, if_neg fun e => h e.symm]
theorem index_ok (l : List Bool) : Ok (slices_Index_bool_bool l false) (fun r => (r = -1 ∧ ∀ (i : Nat) b, l[i]? = some b → b = true) ∨ ∃ k : Nat, r = (k : Int) ∧ l[k]? = some false) := by
  unfold slices_Index_bool_bool
  refine Ok.bind (P := OutP (fun _ => ∀ (i : Nat) b, l[i]? = some b → b = true) (fun r => ∃ k : Nat, r = (k : Int) ∧ l[k]? = some false)) ?_ ?_
  · refine for0_ok (fun j _ => ∀ (i : Nat) b, i < j → l[i]? = some b → b = true) (fun i b hi => by omega) ?_ fun _ h i b hb => h i b (List.getElem?_eq_some_iff.1 hb).1 hb
    intro j _ hj hI
    refine Ok.idxN hj fun x hx => Ok.ite (fun hc => Ok.pure ⟨j, rfl, by rw [hx, ← hc]⟩) fun hc => Ok.pure ?_
    intro i b hi hb
    by_cases e : i = j
    · subst e; rw [hx] at hb; cases hb; cases x
      · exact absurd rfl hc
      · rfl
    · exact hI i b (by omega) hb
  · intro o ho
    match o, ho with
    | .fall s, ho => exact Ok.pure (.inl ⟨rfl, ho⟩)
    | .ret b, ho => exact Ok.pure (.inr ho)

theorem mul_one {n : Nat} (h : n < 4294967296) : bits_Mul 1 (n : Int) = some (0, (n : Int)) := by
  have e0 : shrI .u64 1 32 = 0 := by decide
  have e1 : shrI .u64 (n : Int) 32 = 0 := by
    show shrI .u64 (n : Int) ((32 : Nat) : Int) = 0
    rw [shr_nat (by decide), Nat.shiftRight_eq_div_pow, Nat.div_eq_of_lt (by omega)]; rfl
  have e2 : bAnd .u64 1 4294967295 = 1 := by decide
  have e3 : bAnd .u64 (n : Int) 4294967295 = (n : Int) := by
    show bAnd .u64 (n : Int) ((4294967295 : Nat) : Int) = n
    rw [bAnd_nat (by simp [IntKind.bits]; omega) (by decide)]
    have : n &&& 4294967295 = n := by
      rw [show (4294967295 : Nat) = 2 ^ 32 - 1 by rfl, Nat.and_two_pow_sub_one_eq_mod, Nat.mod_eq_of_lt h]
    rw [this, wrapNu64 (by omega)]
  have e4 : IntKind.wrap .u64 (n : Int) = (n : Int) := wrapNu64 (by omega)
  have e5 : IntKind.wrap .u64 0 = 0 := by decide
  have e6 : bAnd .u64 0 4294967295 = 0 := by decide
  have e7 : shrI .u64 0 32 = 0 := by decide
  unfold bits_Mul bits_Mul64
  simp only [e0, e1, e2, e3, e4, e5, e6, e7, Int.zero_mul, Int.mul_zero, Int.one_mul, Int.add_zero, Option.bind_some]

theorem repeat_eq {n : Nat} (h : n ≤ 4160) : slices_Repeat_int_int [-1] (n : Int) = some (List.replicate n (-1)) := by
  have hlim : lim = 140737488355328 := rfl
  refine Ok.eq ?_
  unfold slices_Repeat_int_int
  have e0 : IntKind.wrap .u64 ((([-1] : List Int).length : Nat) : Int) = 1 := by decide
  have e4 : IntKind.wrap .u64 (n : Int) = (n : Int) := wrapNu64 (by omega)
  refine Ok.iteF (by omega) ?_
  rw [e0, e4, mul_one (by omega), Option.bind_some]
  refine Ok.iteF (Int.lt_irrefl 0) (Ok.iteF (by show ¬ (9223372036854775807 : Int) < (n : Int); omega) ?_)
  show Ok ((Go.RL.mk 8 (w64 (n : Int)) 0).bind _) _
  rw [w64_id (by omega) (by omega)]
  refine Ok.mk (by omega) (by omega) ?_
  rw [Int.toNat_natCast]
  refine Ok.bind (P := fun r => r = List.replicate n (-1)) ?_ fun r hr => Ok.pure hr
  have hmin : min ([-1] : List Int).length (List.replicate n (0 : Int)).length = min 1 n := by simp
  rw [hmin]
  refine iter_ok (fun s => ∃ m : Nat, s.2 = (m : Int) ∧ m ≤ n ∧ min 1 n ≤ m ∧ s.1.length = n ∧ ∀ i : Nat, i < m → s.1[i]? = some (-1)) (fun s => n - s.2.toNat) ?_ _ ⟨min 1 n, rfl, by omega, by omega, ?_, ?_⟩
  · rintro ⟨s, _⟩ ⟨m, rfl, h1, h2, h3, h4⟩
    have h3 : s.length = n := h3
    have h4 : ∀ i : Nat, i < m → s[i]? = some (-1) := h4
    refine Ok.ite (fun hc => ?_) fun hc => Ok.pure ?_
    · have hc : (m : Int) < s.length := hc
      have s1 : sl s (m : Int) (s.length : Int) = some (s.drop m) := by
        unfold sl
        rw [if_pos ⟨by omega, by omega, by omega⟩, Int.toNat_natCast, Int.toNat_natCast, List.take_of_length_le (by rw [List.length_drop]; omega)]
      have s2 : sl s 0 (m : Int) = some (s.take m) := by
        unfold sl
        rw [if_pos ⟨by omega, by omega, by omega⟩, Int.toNat_natCast]; rfl
      rw [s1, Option.bind_some, s2, Option.bind_some]
      have hl1 : (s.take m).length = m := by rw [List.length_take]; omega
      have hl2 : (s.drop m).length = n - m := by rw [List.length_drop]; omega
      rw [hl1, hl2]
      have hlen : (cpy s (m : Int) (min m (n - m)) (s.take m)).length = n := by
        unfold cpy
        rw [Int.toNat_natCast, List.length_append, List.length_append, List.length_take, List.length_take, List.length_take, List.length_drop]; omega
      refine Ok.pure ⟨⟨m + min m (n - m), ?_, by omega, by omega, hlen, fun i hi => ?_⟩, ?_⟩
      · show w64 ((m : Int) + ((min m (n - m) : Nat) : Int)) = _
        rw [w64_id (by omega) (by omega)]; omega
      · show (cpy s (m : Int) (min m (n - m)) (s.take m))[i]? = some (-1)
        unfold cpy
        rw [Int.toNat_natCast]
        by_cases hi2 : i < m
        · rw [List.getElem?_append_left (by rw [hl1]; exact hi2), List.getElem?_take_of_lt hi2]; exact h4 i hi2
        · rw [List.getElem?_append_right (by rw [hl1]; omega), hl1, List.getElem?_append_left (by rw [List.length_take, hl1]; omega), List.getElem?_take_of_lt (by omega), List.getElem?_take_of_lt (by omega)]
          exact h4 _ (by omega)
      · show n - (w64 ((m : Int) + ((min m (n - m) : Nat) : Int))).toNat < n - ((m : Int)).toNat
        rw [w64_id (by omega) (by omega)]; omega
    · have hc : ¬ (m : Int) < s.length := hc
      show s = _
      apply List.ext_getElem?
      intro i
      by_cases hi : i < n
      · rw [h4 i (by omega), List.getElem?_replicate, if_pos hi]
      · rw [List.getElem?_eq_none (by omega), List.getElem?_eq_none (by rw [List.length_replicate]; omega)]
  · show (cpy (List.replicate n (0 : Int)) 0 (min 1 n) [-1]).length = n
    unfold cpy; simp; omega
  · intro i hi
    have : i = 0 := by omega
    subst this
    have : min 1 n = 1 := by omega
    rw [this]; rfl

structure Uses (f : GFlow) (u : List Int) : Prop where
  len : u.length = f.Inputs.length + f.Nodes.length
  rng : ∀ (v : Nat) (x : Int), u[v]? = some x → -1 ≤ x ∧ x ≤ f.Nodes.length
  late : ∀ (n : Nat) l, f.Nodes[n]? = some l → ∀ t ∈ l, ∀ x, u[t.Of.toNat]? = some x → (n : Int) ≤ x
  outs : ∀ o ∈ f.Outs, u[o.toNat]? = some (f.Nodes.length : Int)
  at_ : ∀ (v : Nat) (x : Int), u[v]? = some x → 0 ≤ x → x < f.Nodes.length → ∃ l, f.Nodes[x.toNat]? = some l ∧ ∃ t ∈ l, t.Of = (v : Int)

theorem last_ok {f : GFlow} (hf : FMay f) : Ok (regs_last f) (Uses f) := by
  have hil := hf.insLen
  have hnl := hf.nodes
  unfold regs_last
  rw [w64_id (x := (f.Inputs.length : Int) + (f.Nodes.length : Int)) (by omega) (by omega), show (f.Inputs.length : Int) + (f.Nodes.length : Int) = ((f.Inputs.length + f.Nodes.length : Nat) : Int) by omega, repeat_eq (by omega), Option.bind_some]
  refine Ok.bind (P := fun (u : List Int) => u.length = f.Inputs.length + f.Nodes.length ∧ (∀ (v : Nat) (x : Int), u[v]? = some x → -1 ≤ x ∧ x < f.Nodes.length) ∧ (∀ (n : Nat) l, f.Nodes[n]? = some l → ∀ t ∈ l, ∀ x, u[t.Of.toNat]? = some x → (n : Int) ≤ x) ∧
    ∀ (v : Nat) (x : Int), u[v]? = some x → 0 ≤ x → ∃ l, f.Nodes[x.toNat]? = some l ∧ ∃ t ∈ l, t.Of = (v : Int)) ?_ ?_
  · refine for0_ok (fun j u => u.length = f.Inputs.length + f.Nodes.length ∧ (∀ (v : Nat) (x : Int), u[v]? = some x → -1 ≤ x ∧ x < j) ∧ (∀ (n : Nat) l, n < j → f.Nodes[n]? = some l → ∀ t ∈ l, ∀ x, u[t.Of.toNat]? = some x → (n : Int) ≤ x) ∧
      ∀ (v : Nat) (x : Int), u[v]? = some x → 0 ≤ x → ∃ l, f.Nodes[x.toNat]? = some l ∧ ∃ t ∈ l, t.Of = (v : Int)) ⟨List.length_replicate, fun v x h => ?_, fun n l hn => by omega, fun v x h h0 => ?_⟩ ?_ ?_
    · rw [List.getElem?_replicate] at h; split at h <;> cases h; omega
    · rw [List.getElem?_replicate] at h; split at h <;> cases h; omega
    · rintro j u hj ⟨h1, h2, h3, h4⟩
      refine Ok.idxN hj fun l hl => ?_
      have hT := hf.terms j l hl
      refine Ok.bind (P := fun (u : List Int) => u.length = f.Inputs.length + f.Nodes.length ∧ (∀ (v : Nat) (x : Int), u[v]? = some x → -1 ≤ x ∧ x < (j + 1 : Nat)) ∧ (∀ (n : Nat) l, n < j → f.Nodes[n]? = some l → ∀ t ∈ l, ∀ x, u[t.Of.toNat]? = some x → (n : Int) ≤ x) ∧
        (∀ (v : Nat) (x : Int), u[v]? = some x → 0 ≤ x → ∃ l, f.Nodes[x.toNat]? = some l ∧ ∃ t ∈ l, t.Of = (v : Int)) ∧ ∀ t ∈ l, u[t.Of.toNat]? = some (j : Int)) ?_ ?_
      · refine for0_ok (fun k u => u.length = f.Inputs.length + f.Nodes.length ∧ (∀ (v : Nat) (x : Int), u[v]? = some x → -1 ≤ x ∧ x < (j + 1 : Nat)) ∧ (∀ (n : Nat) l, n < j → f.Nodes[n]? = some l → ∀ t ∈ l, ∀ x, u[t.Of.toNat]? = some x → (n : Int) ≤ x) ∧
          (∀ (v : Nat) (x : Int), u[v]? = some x → 0 ≤ x → ∃ l, f.Nodes[x.toNat]? = some l ∧ ∃ t ∈ l, t.Of = (v : Int)) ∧ ∀ (i : Nat) t, i < k → l[i]? = some t → u[t.Of.toNat]? = some (j : Int)) ⟨h1, fun v x h => ⟨(h2 v x h).1, by have := (h2 v x h).2; omega⟩, h3, h4, fun i t hi => by omega⟩ ?_ ?_
        · rintro k u hk ⟨g1, g2, g3, g4, g5⟩
          refine Ok.idxN hk fun t ht => ?_
          have htm := List.mem_of_getElem? ht
          have h0 := hT.at htm
          have hlt : t.Of.toNat < u.length := by omega
          refine Ok.idx h0.1 (by omega) fun x hx => Ok.pure ⟨by rw [List.length_set]; exact g1, fun v y hv => ?_, fun n l' hn hl' t' ht' y hy => ?_, fun v y hv hy => ?_, fun i t' hi ht' => ?_⟩
          · rcases get_set hv with ⟨e, rfl⟩ | ⟨_, hv⟩
            · omega
            · exact g2 v y hv
          · rcases get_set hy with ⟨e, rfl⟩ | ⟨_, hy⟩
            · omega
            · exact g3 n l' hn hl' t' ht' y hy
          · rcases get_set hv with ⟨e, rfl⟩ | ⟨_, hv⟩
            · exact ⟨l, by rw [Int.toNat_natCast]; exact hl, t, htm, by omega⟩
            · exact g4 v y hv hy
          · by_cases e2 : t'.Of.toNat = t.Of.toNat
            · rw [e2]; exact set_get hlt
            · rw [set_ne e2]
              by_cases e : i = k
              · subst e; rw [ht] at ht'; cases ht'; exact absurd rfl e2
              · exact g5 i t' (by omega) ht'
        · rintro u ⟨g1, g2, g3, g4, g5⟩
          refine ⟨g1, g2, g3, g4, fun t ht => ?_⟩
          obtain ⟨i, hi⟩ := List.getElem?_of_mem ht
          exact g5 i t (List.getElem?_eq_some_iff.1 hi).1 hi
      · rintro u ⟨g1, g2, g3, g4, g5⟩
        refine Ok.pure ⟨g1, g2, fun n l' hn hl' t ht x hx => ?_, g4⟩
        by_cases e : n = j
        · subst e; rw [hl] at hl'; cases hl'; rw [g5 t ht] at hx; cases hx; omega
        · exact g3 n l' (by omega) hl' t ht x hx
    · rintro u ⟨h1, h2, h3, h4⟩
      exact ⟨h1, h2, fun n l hl => h3 n l (List.getElem?_eq_some_iff.1 hl).1 hl, h4⟩
  · rintro u ⟨h1, h2, h3, h4⟩
    refine Ok.bind (P := Uses f) ?_ fun u hu => Ok.pure hu
    refine for0_ok (fun k u => u.length = f.Inputs.length + f.Nodes.length ∧ (∀ (v : Nat) (x : Int), u[v]? = some x → -1 ≤ x ∧ x ≤ f.Nodes.length) ∧ (∀ (n : Nat) l, f.Nodes[n]? = some l → ∀ t ∈ l, ∀ x, u[t.Of.toNat]? = some x → (n : Int) ≤ x) ∧
      (∀ (v : Nat) (x : Int), u[v]? = some x → 0 ≤ x → x < f.Nodes.length → ∃ l, f.Nodes[x.toNat]? = some l ∧ ∃ t ∈ l, t.Of = (v : Int)) ∧ ∀ (i : Nat) o, i < k → f.Outs[i]? = some o → u[o.toNat]? = some (f.Nodes.length : Int)) ⟨h1, fun v x h => ⟨(h2 v x h).1, by have := (h2 v x h).2; omega⟩, h3, fun v x hv h0 _ => h4 v x hv h0, fun i t hi => by omega⟩ ?_ ?_
    · rintro k u hk ⟨g1, g2, g3, g4, g5⟩
      refine Ok.idxN hk fun o ho => ?_
      have h0 := hf.out o (List.mem_of_getElem? ho)
      have hlt : o.toNat < u.length := by omega
      refine Ok.idx h0.1 (by omega) fun x hx => Ok.pure ⟨by rw [List.length_set]; exact g1, fun v y hv => ?_, fun n l' hl' t' ht' y hy => ?_, fun v y hv hy hy2 => ?_, fun i o' hi ho' => ?_⟩
      · rcases get_set hv with ⟨e, rfl⟩ | ⟨_, hv⟩
        · omega
        · exact g2 v y hv
      · rcases get_set hy with ⟨e, rfl⟩ | ⟨_, hy⟩
        · have := (List.getElem?_eq_some_iff.1 hl').1; omega
        · exact g3 n l' hl' t' ht' y hy
      · rcases get_set hv with ⟨e, rfl⟩ | ⟨_, hv⟩
        · omega
        · exact g4 v y hv hy hy2
      · by_cases e2 : o'.toNat = o.toNat
        · rw [e2]; exact set_get hlt
        · rw [set_ne e2]
          by_cases e : i = k
          · subst e; rw [ho] at ho'; cases ho'; exact absurd rfl e2
          · exact g5 i o' (by omega) ho'
    · rintro u ⟨g1, g2, g3, g4, g5⟩
      refine ⟨g1, g2, g3, fun o ho => ?_, g4⟩
      obtain ⟨i, hi⟩ := List.getElem?_of_mem ho
      exact g5 i o (List.getElem?_eq_some_iff.1 hi).1 hi
end Go.RL
