/- Plain laws of what the functions compute, no program in sight.
   Part of the proof of Rows.RegsFlowsSaid of the program 'recoup'. -/
import Derived.Test.YtoaimimdfddidaaPu4
set_option linter.unusedVariables false
set_option linter.unusedSimpArgs false
set_option linter.unusedSectionVars false
set_option linter.unusedVariables false
namespace Go.RL

/-! Running a flow: the program's way and the document's make the same blocks. -/

def nodeV (vs : List (List Int)) (size : Nat) (l : List GTerm) : List Int := l.foldl (fun s t => mac s t.By (vs.getD t.Of.toNat [])) (List.replicate size 0)
def flowV (nodes : List (List GTerm)) (size : Nat) (vs : List (List Int)) : List (List Int) := nodes.foldl (fun vs l => vs ++ [nodeV vs size l]) vs
def outV (f : GFlow) (vs : List (List Int)) : List (List Int) := f.Outs.map fun o => vs.getD o.toNat []

/-- all of one length, and bytes -/
def Even (size : Nat) (vs : List (List Int)) : Prop := ∀ v ∈ vs, v.length = size ∧ inB v
theorem Even.at {size : Nat} {vs : List (List Int)} (h : Even size vs) {i : Nat} {v : List Int} (hv : vs[i]? = some v) : v.length = size ∧ inB v := h v (List.mem_of_getElem? hv)
theorem Even.snoc {size : Nat} {vs : List (List Int)} {v : List Int} (h : Even size vs) (hv : v.length = size ∧ inB v) : Even size (vs ++ [v]) := by
  intro u hu; rw [List.mem_append] at hu
  rcases hu with hu | hu
  · exact h u hu
  · rw [List.mem_singleton] at hu; subst hu; exact hv
theorem inB.zeros (n : Nat) : inB (List.replicate n 0) := by
  intro x hx; rw [List.mem_replicate] at hx; rw [hx.2]; exact isB_inR.2 ⟨by omega, by omega⟩

/-- the bytes of a flow -/
def ByB (f : GFlow) : Prop := ∀ l ∈ f.Nodes, ∀ t ∈ l, isB t.By

theorem nodeV_step {vs : List (List Int)} {size : Nat} (hev : Even size vs) : ∀ (l : List GTerm) (s : List Int), (∀ t ∈ l, 0 ≤ t.Of ∧ t.Of < vs.length) → s.length = size ∧ inB s →
    (l.foldl (fun s t => mac s t.By (vs.getD t.Of.toNat [])) s).length = size ∧ inB (l.foldl (fun s t => mac s t.By (vs.getD t.Of.toNat [])) s)
  | [], s, _, hs => hs
  | t :: l, s, hl, hs => by
    rw [List.foldl_cons]
    refine nodeV_step hev l _ (fun u hu => hl u (List.mem_cons_of_mem _ hu)) ⟨?_, mac_inB _ _ _⟩
    have h0 := hl t (List.mem_cons_self ..)
    have hx : vs[t.Of.toNat]? = some (vs[t.Of.toNat]'(by omega)) := List.getElem?_eq_getElem (by omega)
    have := (hev.at hx).1
    rw [List.getD_eq_getElem?_getD, hx, Option.getD_some, mac_len (by rw [hs.1, this]), this]
theorem nodeV_even {vs : List (List Int)} {size : Nat} (hev : Even size vs) {l : List GTerm} (hl : ∀ t ∈ l, 0 ≤ t.Of ∧ t.Of < vs.length) : (nodeV vs size l).length = size ∧ inB (nodeV vs size l) :=
  nodeV_step hev l _ hl ⟨List.length_replicate, inB.zeros _⟩

theorem TermsOk.at {l : List GTerm} {k : Int} (h : TermsOk l k) {t : GTerm} (ht : t ∈ l) : 0 ≤ t.Of ∧ t.Of < k := by
  obtain ⟨i, hi⟩ := List.getElem?_of_mem ht
  exact h.of.at (i := i) (by rw [List.getElem?_map, hi]; rfl)

/-- one node, the program's way -/
theorem node_prog {vs : List (List Int)} {size : Nat} (hsz : size ≤ lim) (hev : Even size vs) (l : List GTerm) (hl : ∀ t ∈ l, 0 ≤ t.Of ∧ t.Of < vs.length) (hb : ∀ t ∈ l, isB t.By) :
    (forN (fun (i6899 : Nat) (s6900 : List Int) => ((idx (l) (i6899 : Int)).bind fun x6911 => (idx (vs) x6911.Of).bind fun x6967 => (field_Scale x6911.By x6967).bind fun r6977 => (forN (fun (i7046 : Nat) (s7047 : List Int) => ((idx (r6977) (i7046 : Int)).bind fun x7058 => (idx (s7047) (i7046 : Int)).bind fun x7066 => (idx (s7047) (i7046 : Int)).bind fun x7074 => some (.next ((s7047).set ((i7046 : Int)).toNat (bXor .u8 x7066 x7058))) : Option (Ctl _ _))) (fun (s7047 : List Int) => (s7047)) ((r6977).length) 0 (s6900) : Option (List Int)).bind fun o7045 => some (.next (o7045)) : Option (Ctl _ _))) (fun (s6900 : List Int) => (s6900)) ((l).length) 0 (List.replicate size (0 : Int)) : Option (List Int)) = some (nodeV vs size l) := by
  refine (for_foldl l (fun s t => mac s t.By (vs.getD t.Of.toNat [])) (fun j s => s.length = size ∧ inB s) ⟨List.length_replicate, inB.zeros _⟩ ?_).1
  rintro j t s ht ⟨hs1, hs2⟩
  have hm := List.mem_of_getElem? ht
  have h0 := hl t hm
  have hx : vs[t.Of.toNat]? = some (vs[t.Of.toNat]'(by omega)) := List.getElem?_eq_getElem (by omega)
  generalize vs[t.Of.toNat]'(by omega) = v at hx
  have hv := hev.at hx
  refine ⟨?_, ?_, mac_inB _ _ _⟩
  · rw [idx_of rfl ht, Option.bind_some, idx_of (by omega) hx, Option.bind_some, scale_eq (hb t hm) hv.2 (by omega), Option.bind_some]
    refine (congrArg (fun o => Option.bind o _) (xor_loop rfl (by rw [List.length_map]; omega))).trans ?_
    rw [Option.bind_some, mac_scale, List.getD_eq_getElem?_getD, hx, Option.getD_some]
  · rw [List.getD_eq_getElem?_getD, hx, Option.getD_some, mac_len (by omega), hv.1]

theorem flowV_len (nodes : List (List GTerm)) (size : Nat) : ∀ vs, (flowV nodes size vs).length = vs.length + nodes.length := by
  induction nodes with
  | nil => intro vs; rfl
  | cons l nodes ih => intro vs; show (flowV nodes size (vs ++ [nodeV vs size l])).length = _; rw [ih]; simp; omega

theorem clone_eq {x : List (List Int)} (h : x.length * 24 ≤ lim) : slices_Clone_byte_byte x = some x := by
  unfold slices_Clone_byte_byte; rw [app_of (by simpa using h), Option.bind_some]; rfl
theorem clone1_eq {x : List Int} (h : x.length ≤ lim) : slices_Clone_byte_byte_45 x = some x := by
  unfold slices_Clone_byte_byte_45; rw [app_of (by simpa using h), Option.bind_some]; rfl
theorem copy1_eq {x : List Int} (h : x.length ≤ lim) : recoupref01_Copy x = some x := by
  unfold recoupref01_Copy; rw [app_of (by simpa using h), Option.bind_some]; rfl

theorem lim_small {a : Nat} (h : a ≤ 100000000) : a * 24 ≤ lim := by have : lim = 140737488355328 := rfl; omega

theorem out_prog {f : GFlow} {vs : List (List Int)} {size : Nat} (hsz : size ≤ lim) (hev : Even size vs) (ho : f.Outs.length ≤ 64) (hin : ∀ x ∈ f.Outs, 0 ≤ x ∧ x < vs.length)
    {cp : List Int → Option (List Int)} (hcp : ∀ x, x.length ≤ lim → cp x = some x) :
    (forN (fun (i7192 : Nat) (s7193 : List (List Int)) => ((idx (f.Outs) (i7192 : Int)).bind fun x7205 => (idx (vs) x7205).bind fun x7212 => (cp x7212).bind fun r7222 => (app 24 (s7193) [r7222]).bind fun z7238 => some (.next (z7238)) : Option (Ctl _ _))) (fun (s7193 : List (List Int)) => (s7193)) ((f.Outs).length) 0 (([] : List (List Int))) : Option (List (List Int))) = some (outV f vs) := by
  refine for_map f.Outs (fun o => vs.getD o.toNat []) fun j x s hx hs => ?_
  have hj := (List.getElem?_eq_some_iff.1 hx).1
  have h0 := hin x (List.mem_of_getElem? hx)
  have hy : vs[x.toNat]? = some (vs[x.toNat]'(by omega)) := List.getElem?_eq_getElem (by omega)
  rw [idx_of rfl hx, Option.bind_some, idx_of (by omega) hy, Option.bind_some, hcp _ (by rw [(hev.at hy).1]; exact hsz), Option.bind_some, app_of (lim_small (by simp; omega)), Option.bind_some,
    List.getD_eq_getElem?_getD, hy, Option.getD_some]

theorem run_prog {f : GFlow} {ins : List (List Int)} {size : Nat} (hf : FMay f) (hb : ByB f) (hsz : size ≤ lim) (hev : Even size ins) (hl : ins.length = f.Inputs.length) :
    flow_run f ins size = some (outV f (flowV f.Nodes size ins)) ∧ Even size (flowV f.Nodes size ins) := by
  have hil := hf.insLen
  have hnl := hf.nodes
  unfold flow_run
  rw [clone_eq (lim_small (by omega)), Option.bind_some]
  have key := for_foldl (f := (fun (i6513 : Nat) (s6514 : List (List Int)) => ((idx (f.Nodes) (i6513 : Int)).bind fun x6531 => (mk 1 (size : Int) (0 : Int)).bind fun z6540 => (forN (fun (i6899 : Nat) (s6900 : List Int) => ((idx (x6531) (i6899 : Int)).bind fun x6911 => (idx (s6514) x6911.Of).bind fun x6967 => (field_Scale x6911.By x6967).bind fun r6977 => (forN (fun (i7046 : Nat) (s7047 : List Int) => ((idx (r6977) (i7046 : Int)).bind fun x7058 => (idx (s7047) (i7046 : Int)).bind fun x7066 => (idx (s7047) (i7046 : Int)).bind fun x7074 => some (.next ((s7047).set ((i7046 : Int)).toNat (bXor .u8 x7066 x7058))) : Option (Ctl _ _))) (fun (s7047 : List Int) => (s7047)) ((r6977).length) 0 (s6900) : Option (List Int)).bind fun o7045 => some (.next (o7045)) : Option (Ctl _ _))) (fun (s6900 : List Int) => (s6900)) ((x6531).length) 0 (z6540) : Option (List Int)).bind fun o6898 => (app 24 (s6514) (([o6898] : List (List Int)))).bind fun z7089 => some (.next (z7089)) : Option (Ctl (List (List Int)) (List (List Int))))))
    (fin := fun s => s) f.Nodes (fun vs l => vs ++ [nodeV vs size l]) (fun j vs => vs.length = f.Inputs.length + j ∧ Even size vs) (s := ins) ⟨by omega, hev⟩ ?_
  · have hvl := flowV_len f.Nodes size ins
    refine ⟨?_, key.2.2⟩
    rw [key.1, Option.bind_some]
    refine (congrArg (fun o => Option.bind o _) (out_prog (size := size) hsz key.2.2 hf.outs (fun x hx => by have := hf.out x hx; rw [key.2.1]; omega) (fun x hx => clone1_eq hx))).trans ?_
    rfl
  · rintro j l vs hlj ⟨h1, h2⟩
    have hj := (List.getElem?_eq_some_iff.1 hlj).1
    have hT := hf.terms j l hlj
    have hlr : ∀ t ∈ l, 0 ≤ t.Of ∧ t.Of < vs.length := fun t ht => by have := hT.at ht; omega
    refine ⟨?_, by simp; omega, h2.snoc (nodeV_even h2 hlr)⟩
    rw [idx_of rfl hlj, Option.bind_some, mk_of (by omega) (by simpa using hsz), Option.bind_some, Int.toNat_natCast]
    refine (congrArg (fun o => Option.bind o _) (node_prog hsz h2 l hlr (hb l (List.mem_of_getElem? hlj)))).trans ?_
    rw [Option.bind_some, app_of (lim_small (by simp; omega)), Option.bind_some]

/-- all blocks as long as the first -/
def sizeOf0 : List (List Int) → Nat
  | [] => 0
  | b :: _ => b.length
def SameLen (bl : List (List Int)) : Prop := ∀ b ∈ bl, b.length = sizeOf0 bl
theorem sizeOf0_get {bl : List (List Int)} {b : List Int} (h : bl[0]? = some b) : sizeOf0 bl = b.length := by
  cases bl with
  | nil => simp at h
  | cons x xs => simp at h; subst h; rfl

def insV (f : GFlow) (bl : List (List Int)) : List (List Int) := f.Inputs.map fun i => bl.getD i.toNat []
def Within (f : GFlow) (bl : List (List Int)) : Prop := ∀ x ∈ f.Inputs, x < bl.length

open Classical in
noncomputable def runV (f : GFlow) (bl : List (List Int)) : List (List Int) × Int :=
  if FMay f then (if SameLen bl ∧ Within f bl then (outV f (flowV f.Nodes (sizeOf0 bl) (insV f bl)), 0) else ([], 3)) else ([], 2)
theorem runV_no {f : GFlow} {bl : List (List Int)} (h : ¬ FMay f) : runV f bl = ([], 2) := by unfold runV; rw [if_neg h]
theorem runV_shape {f : GFlow} {bl : List (List Int)} (h : FMay f) (h2 : ¬ (SameLen bl ∧ Within f bl)) : runV f bl = ([], 3) := by unfold runV; rw [if_pos h, if_neg h2]
theorem runV_ok {f : GFlow} {bl : List (List Int)} (h : FMay f) (h2 : SameLen bl) (h3 : Within f bl) : runV f bl = (outV f (flowV f.Nodes (sizeOf0 bl) (insV f bl)), 0) := by unfold runV; rw [if_pos h, if_pos ⟨h2, h3⟩]

/-- blocks within the reach -/
structure BlOk (bl : List (List Int)) : Prop where
  n : bl.length * 24 ≤ lim
  s : ∀ b ∈ bl, b.length ≤ lim
  b : ∀ b ∈ bl, inB b

theorem ins_even {f : GFlow} {bl : List (List Int)} (hf : FMay f) (hs : SameLen bl) (hw : Within f bl) (hb : BlOk bl) : Even (sizeOf0 bl) (insV f bl) := by
  intro v hv
  obtain ⟨x, hx, rfl⟩ := List.mem_map.1 hv
  obtain ⟨i, hi⟩ := List.getElem?_of_mem hx
  have h0 := (hf.ins.at hi).1
  have h1 := hw x hx
  have hy : bl[x.toNat]? = some (bl[x.toNat]'(by omega)) := List.getElem?_eq_getElem (by omega)
  rw [List.getD_eq_getElem?_getD, hy, Option.getD_some]
  have hm := List.mem_of_getElem? hy
  exact ⟨hs _ hm, hb.b _ hm⟩

theorem inputs_ok {f : GFlow} {bl : List (List Int)} (hf : FMay f) (hb : BlOk bl) {cp : List Int → Option (List Int)} (hcp : ∀ x, x.length ≤ lim → cp x = some x) :
    Ok (forN (fun (i644 : Nat) (s645 : List (List Int)) => ((idx (f.Inputs) (i644 : Int)).bind fun x658 => if ((bl).length : Int) ≤ x658 then (some (.stop (.ret (([] : List (List Int)), (3 : Int))))) else ((idx (bl) x658).bind fun x667 => (cp x667).bind fun r => (app 24 (s645) (([r] : List (List Int)))).bind fun z681 => some (.next (z681))) : Option (Ctl _ _))) (fun (s645 : List (List Int)) => (.fall (s645))) ((f.Inputs).length) 0 (([] : List (List Int))) : Option (Out (List (List Int)) (List (List Int) × Int)))
      (OutP (fun s => Within f bl ∧ s = insV f bl) (fun q => ¬ Within f bl ∧ q = ([], 3))) := by
  have hil := hf.insLen
  refine for0_ok (fun j s => (∀ (i : Nat) x, i < j → f.Inputs[i]? = some x → x < bl.length) ∧ s = (f.Inputs.take j).map (fun i => bl.getD i.toNat [])) ⟨fun i x hi => by omega, rfl⟩ ?_ ?_
  · rintro j s hj ⟨h1, rfl⟩
    refine Ok.idxN hj fun x hx => Ok.ite (fun hc => Ok.pure ⟨fun hw => by have := hw x (List.mem_of_getElem? hx); omega, rfl⟩) fun hc => ?_
    have h0 := (hf.ins.at hx).1
    have hy : bl[x.toNat]? = some (bl[x.toNat]'(by omega)) := List.getElem?_eq_getElem (by omega)
    rw [idx_of (by omega) hy, Option.bind_some, hcp _ (hb.s _ (List.mem_of_getElem? hy)), Option.bind_some, app_of (lim_small (by simp; omega)), Option.bind_some]
    refine Ok.pure ⟨fun i y hi hyi => ?_, ?_⟩
    · by_cases e : i = j
      · subst e; rw [hx] at hyi; cases hyi; omega
      · exact h1 i y (by omega) hyi
    · rw [List.take_add_one, hx, Option.toList_some, List.map_append, List.map_cons, List.map_nil, List.getD_eq_getElem?_getD, hy, Option.getD_some]
  · rintro s ⟨h1, rfl⟩
    refine ⟨fun x hx => ?_, by rw [List.take_length]; rfl⟩
    obtain ⟨i, hi⟩ := List.getElem?_of_mem hx
    exact h1 i x (List.getElem?_eq_some_iff.1 hi).1 hi

theorem Run_prog {f : GFlow} {bl : List (List Int)} (hby : ByB f) (hb : BlOk bl) : flow_Run f bl = some (runV f bl) := by
  refine Ok.eq ?_
  unfold flow_Run
  refine Ok.bind (may_ok f) fun b hm => Ok.ite (fun hc => ?_) fun hc => Ok.pure (runV_no fun h => hc (hm.2 h)).symm
  have hf := hm.1 hc
  refine Ok.bind (P := OutP (fun s => SameLen bl ∧ s = (sizeOf0 bl : Int)) (fun q => ¬ SameLen bl ∧ q = ([], 3))) ?_ ?_
  · refine for0_ok (fun j s => (∀ (i : Nat) x, i < j → bl[i]? = some x → x.length = sizeOf0 bl) ∧ (j = 0 → s = 0) ∧ (0 < j → s = (sizeOf0 bl : Int))) ⟨fun i x hi => by omega, fun _ => rfl, fun h => by omega⟩ ?_ ?_
    · rintro j s hj ⟨h1, h2, h3⟩
      refine Ok.idxN hj fun x hx => ?_
      have go : x.length = sizeOf0 bl → ∀ (i : Nat) y, i < j + 1 → bl[i]? = some y → y.length = sizeOf0 bl := by
        intro he i y hi hy
        by_cases e : i = j
        · subst e; rw [hx] at hy; cases hy; exact he
        · exact h1 i y (by omega) hy
      refine Ok.ite (fun h0 => ?_) fun h0 => ?_
      · have : j = 0 := by omega
        subst this
        rw [if_pos rfl]
        have := sizeOf0_get hx
        exact Ok.pure ⟨go this.symm, fun h => by omega, fun _ => by rw [this]⟩
      · refine Ok.ite (fun h4 => Ok.pure ⟨go ?_, fun h => by omega, fun _ => h3 (by omega)⟩) fun h4 => Ok.pure ⟨fun hS => h4 ?_, rfl⟩
        · have := h3 (by omega); omega
        · have := hS x (List.mem_of_getElem? hx); have := h3 (by omega); omega
    · rintro s ⟨h1, h2, h3⟩
      refine ⟨fun x hx => ?_, ?_⟩
      · obtain ⟨i, hi⟩ := List.getElem?_of_mem hx
        exact h1 i x (List.getElem?_eq_some_iff.1 hi).1 hi
      · cases bl with
        | nil => exact h2 rfl
        | cons _ _ => exact h3 (by simp)
  intro o ho
  match o, ho with
  | .ret q, ho => exact Ok.pure (by rw [ho.2, runV_shape hf fun h => ho.1 h.1])
  | .fall s, ho =>
  obtain ⟨hS, rfl⟩ := ho
  refine Ok.bind (inputs_ok (cp := some) hf hb (fun x _ => rfl)) fun o ho => ?_
  match o, ho with
  | .ret q, ho => exact Ok.pure (by rw [ho.2, runV_shape hf fun h => ho.1 h.2])
  | .fall s, ho =>
  obtain ⟨hw, rfl⟩ := ho
  have hsz : sizeOf0 bl ≤ lim := by
    cases bl with
    | nil => exact Nat.zero_le _
    | cons x _ => exact hb.s x (List.mem_cons_self ..)
  show Ok ((flow_run f (insV f bl) (sizeOf0 bl : Int)).bind _) _
  rw [(run_prog hf hby hsz (ins_even hf hS hw hb) (by unfold insV; rw [List.length_map])).1, Option.bind_some]
  exact Ok.pure (runV_ok hf hS hw).symm
end Go.RL
