/- A program logic over the model's machine, part 2: quiet steps, pieces of memory, loops, calls.
   Part of the proof of Rows.RegsFlowsSaid of the program 'recoup'. -/
import Derived.Test.YtoaimimdfddidaaLb1
set_option linter.unusedVariables false
set_option linter.unusedSimpArgs false
set_option linter.unusedSectionVars false
namespace Go.RL

abbrev w64 (x : Int) : Int := IntKind.wrap .i64 x
abbrev w8 (x : Int) : Int := IntKind.wrap .u8 x
abbrev wu64 (x : Int) : Int := IntKind.wrap .u64 x
abbrev wu32 (x : Int) : Int := IntKind.wrap .u32 x
def bAnd (k : IntKind) (a b : Int) : Int := k.wrap ((BitVec.ofInt k.bits a &&& BitVec.ofInt k.bits b).toNat : Int)
def bOr (k : IntKind) (a b : Int) : Int := k.wrap ((BitVec.ofInt k.bits a ||| BitVec.ofInt k.bits b).toNat : Int)
def bXor (k : IntKind) (a b : Int) : Int := k.wrap ((BitVec.ofInt k.bits a ^^^ BitVec.ofInt k.bits b).toNat : Int)
def bAndNot (k : IntKind) (a b : Int) : Int := k.wrap ((BitVec.ofInt k.bits a &&& ~~~(BitVec.ofInt k.bits b)).toNat : Int)
def shlI (k : IntKind) (a b : Int) : Int := k.wrap (a * 2 ^ (min b.toNat k.bits))
def shrI (k : IntKind) (a b : Int) : Int := a / 2 ^ (min b.toNat k.bits)

/-! ### the types that are met -/
inductive TK where
  | int (k : IntKind) | bool | str | slice (e : Nat) | arr (n e : Nat) | struct (fs : List (Nat × Nat × Nat)) | ptr (e : Nat) | func | iface (none : Bool) | other

structure TE where
  tk : TK
  zero : Value
  size : Nat
  bytes : Nat

def absD (P : Program) : TypeDesc → TK
  | .int k => .int k | .bool => .bool | .string => .str | .slice e => .slice e | .array n e => .arr n e
  | .struct fs => .struct (fs.toList.map fun f => (f.type, f.offset, ((P.info? f.type).map (·.size)).getD 0))
  | .pointer e => .ptr e | .func .. => .func | .interface ms => .iface ms.isEmpty
  | _ => .other

structure TOK (P : Program) (t : Nat) (e : TE) : Prop where
  und : (P.underlying t).map (absD P) = some e.tk
  info : (P.info? t).map (fun i => (i.zero, i.size, i.bytes)) = some (some e.zero, e.size, e.bytes)

def tk : Nat → List (Nat × TE) → Option TE
  | _, [] => none
  | t, (s, e) :: l => bif Nat.beq t s then some e else tk t l

def TabOK (P : Program) (tab : List (Nat × TE)) : Prop := ∀ t e, tk t tab = some e → TOK P t e

theorem TabOK.nil {P : Program} : TabOK P [] := fun _ _ h => by simp [tk] at h
theorem TabOK.cons {P : Program} {t : Nat} {e : TE} {tab : List (Nat × TE)} (h : TOK P t e) (ht : TabOK P tab) : TabOK P ((t, e) :: tab) := by
  intro s f hs
  unfold tk at hs
  cases hb : Nat.beq s t with
  | true =>
    rw [hb] at hs
    have : s = t := Nat.eq_of_beq_eq_true hb
    subst this
    injection hs with hs
    subst hs
    exact h
  | false =>
    rw [hb] at hs
    exact ht s f hs

section
variable {P : Program} {t : Nat} {e : TE}
theorem TOK.get (h : TOK P t e) : ∃ i, P.info? t = some i ∧ i.zero = some e.zero ∧ i.size = e.size ∧ i.bytes = e.bytes := by
  have := h.info
  cases hi : P.info? t with
  | none => rw [hi] at this; cases this
  | some i =>
    rw [hi] at this
    simp at this
    exact ⟨i, rfl, this.1, this.2.1, this.2.2⟩
theorem TOK.desc (h : TOK P t e) : ∃ d, P.underlying t = some d ∧ absD P d = e.tk := by
  have := h.und
  cases hi : P.underlying t with
  | none => rw [hi] at this; cases this
  | some d =>
    rw [hi] at this
    simp at this
    exact ⟨d, rfl, this⟩
theorem TOK.int {k : IntKind} (h : TOK P t e) (hk : e.tk = .int k) : P.underlying t = some (.int k) := by
  obtain ⟨d, h1, h2⟩ := h.desc
  rw [hk] at h2
  cases d <;> simp [absD] at h2
  subst h2; exact h1
theorem TOK.bool (h : TOK P t e) (hk : e.tk = .bool) : P.underlying t = some .bool := by
  obtain ⟨d, h1, h2⟩ := h.desc
  rw [hk] at h2
  cases d <;> simp [absD] at h2
  exact h1
theorem TOK.slice {el : Nat} (h : TOK P t e) (hk : e.tk = .slice el) : P.underlying t = some (.slice el) := by
  obtain ⟨d, h1, h2⟩ := h.desc
  rw [hk] at h2
  cases d <;> simp [absD] at h2
  subst h2; exact h1
theorem TOK.arr {n el : Nat} (h : TOK P t e) (hk : e.tk = .arr n el) : P.underlying t = some (.array n el) := by
  obtain ⟨d, h1, h2⟩ := h.desc
  rw [hk] at h2
  cases d <;> simp [absD] at h2
  obtain ⟨rfl, rfl⟩ := h2; exact h1
theorem TOK.ptr {el : Nat} (h : TOK P t e) (hk : e.tk = .ptr el) : P.underlying t = some (.pointer el) := by
  obtain ⟨d, h1, h2⟩ := h.desc
  rw [hk] at h2
  cases d <;> simp [absD] at h2
  subst h2; exact h1
theorem TOK.struct {fs : List (Nat × Nat × Nat)} (h : TOK P t e) (hk : e.tk = .struct fs) :
    ∃ gs, P.underlying t = some (.struct gs) ∧ gs.toList.map (fun f => (f.type, f.offset, ((P.info? f.type).map (·.size)).getD 0)) = fs := by
  obtain ⟨d, h1, h2⟩ := h.desc
  rw [hk] at h2
  cases d <;> simp [absD] at h2
  exact ⟨_, h1, by simpa using h2⟩

theorem run_size (h : TOK P t e) (w : World) : (sizeOf t).run P w = .ok e.size w := by
  obtain ⟨i, hi, _, hs, _⟩ := h.get
  simp [sizeOf, typeInfo, hi, hs]
theorem run_zero (h : TOK P t e) (w : World) : (zeroValue t).run P w = .ok e.zero w := by
  obtain ⟨i, hi, hz, _, _⟩ := h.get
  simp [zeroValue, typeInfo, hi, hz]
theorem run_und {d : TypeDesc} (h : P.underlying t = some d) (w : World) : (underlying t).run P w = .ok d w := by
  simp [underlying, h]

def TK.isAgg : TK → Bool
  | .struct _ | .arr _ _ => true
  | _ => false
theorem run_isAgg (h : TOK P t e) (w : World) : (isAgg t).run P w = .ok e.tk.isAgg w := by
  obtain ⟨d, h1, h2⟩ := h.desc
  rw [← h2]
  cases d <;> simp [isAgg, run_und h1, absD, TK.isAgg]
end

/-! ### operations that touch no memory -/
def intOp : BinOp → IntKind → Int → Int → Option Value
  | .add, k, a, b => some (.int k (k.wrap (a + b)))
  | .sub, k, a, b => some (.int k (k.wrap (a - b)))
  | .mul, k, a, b => some (.int k (k.wrap (a * b)))
  | .and, k, a, b => some (.int k (bAnd k a b))
  | .or, k, a, b => some (.int k (bOr k a b))
  | .xor, k, a, b => some (.int k (bXor k a b))
  | .andNot, k, a, b => some (.int k (bAndNot k a b))
  | .eql, _, a, b => some (.bool (decide (a = b)))
  | .neq, _, a, b => some (.bool (!decide (a = b)))
  | .lss, _, a, b => some (.bool (decide (a < b)))
  | .leq, _, a, b => some (.bool (decide (a ≤ b)))
  | .gtr, _, a, b => some (.bool (decide (b < a)))
  | .geq, _, a, b => some (.bool (decide (b ≤ a)))
  | _, _, _, _ => none

def shOp : BinOp → IntKind → Int → Nat → Option Value
  | .shl, k, a, n => some (.int k (shlI k a n))
  | .shr, k, a, n => some (.int k (shrI k a n))
  | _, _, _, _ => none

def ikEq : IntKind → IntKind → Bool
  | .i8, .i8 | .i16, .i16 | .i32, .i32 | .i64, .i64 | .u8, .u8 | .u16, .u16 | .u32, .u32 | .u64, .u64 => true
  | _, _ => false
theorem ikEq_spec {a b : IntKind} (h : ikEq a b = true) : a = b := by cases a <;> cases b <;> first | rfl | (simp [ikEq] at h)

def isShift : BinOp → Bool
  | .shl | .shr => true
  | _ => false

def vcells : Value → List Value
  | .agg cs => cs.toList
  | v => [v]
theorem vcells_eq (v : Value) : v.cells.toList = vcells v := by cases v <;> rfl

def stv : List Value → Nat → List Value → List Value
  | cs, _, [] => cs
  | cs, off, v :: vs => stv (cs.set off v) (off + 1) vs
theorem stv_length : ∀ (vs cs : List Value) (off : Nat), (stv cs off vs).length = cs.length
  | [], _, _ => rfl
  | v :: vs, cs, off => by simp [stv, stv_length vs]

/-- parts put into a struct's cells -/
def fillS (fs : List (Nat × Nat × Nat)) : List Value → List (Nat × Value) → Option (List Value)
  | cs, [] => some cs
  | cs, (i, v) :: r =>
    match fs[i]? with
    | some (_, off, sz) => bif Nat.beq (vcells v).length sz && Nat.ble (off + sz) cs.length then fillS fs (stv cs off (vcells v)) r else none
    | none => none

def evp (l : List (Nat × Value)) : List (Nat × Operand) → Option (List (Nat × Value))
  | [] => some []
  | (i, x) :: xs =>
    match ev l x, evp l xs with
    | some v, some vs => some ((i, v) :: vs)
    | _, _ => none

def evs (l : List (Nat × Value)) : List Operand → Option (List Value)
  | [] => some []
  | x :: xs =>
    match ev l x, evs l xs with
    | some v, some vs => some (v :: vs)
    | _, _ => none

def mxI (a b : Int) : Int := if a < b then b else a
def mnI (a b : Int) : Int := if b < a then b else a

def pev (tab : List (Nat × TE)) (l : List (Nat × Value)) : Op → Option Value
  | .move x => ev l x
  | .assign x => ev l x
  | .pick c a b =>
    match ev l c, ev l a, ev l b with
    | some (.bool p), some (.bool x), some (.bool y) => some (.bool (bif p then x else y))
    | some (.bool p), some x, some y => some (bif p then x else y)
    | _, _, _ => none
  | .binOp op xt x y _ =>
    match ev l x, ev l y with
    | some (.int k a), some (.int k' b) =>
      bif isShift op then (match b with | .ofNat n => shOp op k a n | _ => none)
      else (bif ikEq k k' then intOp op k a b else none)
    | some (.bool a), some (.bool b) =>
      match op, tk xt tab with
      | .eql, some ⟨.bool, _, _, _⟩ => some (.bool (a == b))
      | .neq, some ⟨.bool, _, _, _⟩ => some (.bool (!(a == b)))
      | _, _ => none
    | some (.slice A _ _), some (.slice none _ _) =>
      match op, tk xt tab with
      | .eql, some ⟨.slice _, _, _, _⟩ => some (.bool A.isNone)
      | .neq, some ⟨.slice _, _, _, _⟩ => some (.bool (!A.isNone))
      | _, _ => none
    | _, _ => none
  | .unOp op _ x =>
    match op, ev l x with
    | .not, some (.bool b) => some (.bool (!b))
    | .neg, some (.int k n) => some (.int k (k.wrap (0 - n)))
    | .xor, some (.int k n) => some (.int k (bXor k (if k.signed then -1 else k.max) n))
    | _, _ => none
  | .convert src dst x =>
    match ev l x, tk dst tab, tk src tab with
    | some (.int _ n), some ⟨.int k, _, _, _⟩, some _ => some (.int k (k.wrap n))
    | _, _, _ => none
  | .extract t i =>
    match ev l t with
    | some (.tuple vs) => vs.toList[i]?
    | _ => none
  | .makeFunc fn first captured =>
    match evs l first.toList, evs l captured.toList with
    | some f, some c => some (.func fn f.toArray c.toArray)
    | _, _ => none
  | .fieldAddr s x f =>
    match ev l x, tk s tab with
    | some (.pointer (some a)), some ⟨.struct fs, _, _, _⟩ =>
      match fs[f]? with
      | some (_, off, sz) => match sz with | 0 => none | _ + 1 => some (.pointer (some (a.add off)))
      | none => none
    | _, _ => none
  | .nilCheck x =>
    match ev l x with
    | some (.pointer (some a)) => some (.pointer (some a))
    | some (.func (.func f) fi ca) => some (.func (.func f) fi ca)
    | _ => none
  | .call ⟨.builtin .len, args, ts⟩ =>
    match args.toList, ts.toList with
    | [x], [t] =>
      match ev l x, tk t tab with
      | some (.slice _ n _), some ⟨.slice _, _, _, _⟩ => some (.int .i64 n)
      | some _, some ⟨.arr n _, _, _, _⟩ => some (.int .i64 n)
      | _, _ => none
    | _, _ => none
  | .call ⟨.builtin .max, args, _⟩ =>
    match args.toList with
    | [x, y] =>
      match ev l x, ev l y with
      | some (.int k a), some (.int _ b) => some (.int k (mxI a b))
      | _, _ => none
    | _ => none
  | .call ⟨.builtin .min, args, _⟩ =>
    match args.toList with
    | [x, y] =>
      match ev l x, ev l y with
      | some (.int k a), some (.int _ b) => some (.int k (mnI a b))
      | _, _ => none
    | _ => none
  | .makeInterface t x =>
    match ev l x, tk t tab with
    | some v, some e => match e.tk with | .iface _ => none | .other => none | _ => some (.iface t v)
    | _, _ => none
  | .build t parts =>
    match evp l parts.toList, tk t tab with
    | some ps, some ⟨.struct fs, z, _, _⟩ =>
      bif fs.all (fun f => Nat.blt 0 f.2.2) then
        match fillS fs (vcells z) ps with
        | some cs => some (.agg cs.toArray)
        | none => none
      else none
    | _, _ => none
  | _ => none

section
variable {P : Program} {a : Act} {c : Cfg} {l : List (Nat × Value)}

theorem evs_spec (h : Fr c a l) : ∀ {xs : List Operand} {vs : List Value}, evs l xs = some vs → xs.map a.eval = vs
  | [], vs, e => by simp [evs] at e; simp [e]
  | x :: xs, vs, e => by
    unfold evs at e
    split at e
    · rename_i v us h1 h2
      injection e with e
      subst e
      simp [h.eval h1, evs_spec h h2]
    · cases e

theorem evp_spec (h : Fr c a l) : ∀ {xs : List (Nat × Operand)} {vs : List (Nat × Value)}, evp l xs = some vs → xs.map (fun (i, x) => (i, a.eval x)) = vs
  | [], vs, e => by simp [evp] at e; simp [e]
  | (i, x) :: xs, vs, e => by
    unfold evp at e
    split at e
    · rename_i v us h1 h2
      injection e with e
      subst e
      simp [h.eval h1]
      exact evp_spec h h2
    · cases e

theorem stv_fold : ∀ (vs : List Value) (off k : Nat) (cs : Array Value), (vs.zipIdx k).foldl (fun cs x => cs.setIfInBounds (off + x.2) x.1) cs = (stv cs.toList (off + k) vs).toArray
  | [], off, k, cs => by simp [stv]
  | u :: vs, off, k, cs => by
    simp only [List.zipIdx_cons, List.foldl_cons]
    rw [stv_fold vs off (k + 1)]
    simp [stv, Nat.add_assoc]

theorem fill_spec {fs : List (Nat × Nat × Nat)} {place : Nat → Option (Nat × Nat)} (hp : ∀ (i t off sz : Nat), fs[i]? = some (t, off, sz) → place i = some (off, sz)) :
    ∀ (ps : List (Nat × Value)) (cs out : List Value), fillS fs cs ps = some out → Instr.fill place cs.toArray ps = some out.toArray
  | [], cs, out, h => by simp [fillS] at h; subst h; rfl
  | (i, v) :: r, cs, out, h => by
    unfold fillS at h
    split at h
    · rename_i t off sz hi
      cases hb : (Nat.beq (vcells v).length sz && Nat.ble (off + sz) cs.length) with
      | false => rw [hb] at h; cases h
      | true =>
        rw [hb] at h
        simp only [cond_true] at h
        simp only [Bool.and_eq_true] at hb
        have h1 : (vcells v).length = sz := Nat.eq_of_beq_eq_true hb.1
        have h2 := Nat.le_of_ble_eq_true hb.2
        have hsz : v.cells.size = sz := by rw [← h1, ← vcells_eq]; simp
        have ih := fill_spec hp r _ _ h
        simp only [Instr.fill, hp i t off sz hi]
        rw [if_neg]
        · rw [← Array.foldl_toList, Array.toList_zipIdx, vcells_eq, stv_fold]
          exact ih
        · simp [hsz]; omega
    · cases h

theorem run_places (w : World) : ∀ (gs : List Field), ((gs.map fun f => (f.type, f.offset, ((P.info? f.type).map (·.size)).getD 0)).all (fun f => Nat.blt 0 f.2.2)) = true →
    (gs.mapM (fun f => (do pure (f.offset, ← sizeOf f.type) : Sem (Nat × Nat)))).run P w = .ok (gs.map fun f => (f.offset, ((P.info? f.type).map (·.size)).getD 0)) w
  | [], _ => rfl
  | f :: gs, h => by
    simp only [List.map_cons, List.all_cons, Bool.and_eq_true] at h
    have ih := run_places w gs h.2
    have hi : ∃ i, P.info? f.type = some i := by
      cases hh : P.info? f.type with
      | none => rw [hh] at h; exact absurd h.1 (by decide)
      | some i => exact ⟨i, rfl⟩
    obtain ⟨i, hi⟩ := hi
    have hs : (sizeOf f.type).run P w = .ok i.size w := by simp [sizeOf, typeInfo, hi]
    rw [List.mapM_cons]
    simp only [Sem.run_bind, ih, hs, Result.andThen_ok, Sem.run_pure, List.map_cons, hi, Option.map_some, Option.getD_some]

theorem run_eqg_int {op : BinOp} {k k' : IntKind} {x y : Int} (xt : TypeId) (ox oy : Operand) (w : World) :
    (eqGuard op xt ox oy (.int k x) (.int k' y)).run P w = .ok () w := by
  cases op <;> simp [eqGuard]

theorem run_int_bin {op : BinOp} {k : IntKind} {x y : Int} {v : Value} (xt : TypeId) (h : intOp op k x y = some v) (w : World) :
    (binOp op xt (.int k x) (.int k y)).run P w = .ok v w := by
  cases op <;> simp [intOp] at h <;> subst h <;>
    simp [binOp, Op.intArith, Op.intBits, Op.intCmp, bAnd, bOr, bXor, bAndNot] <;> rfl

theorem fdiv_pow (a : Int) (n : Nat) : a.fdiv (2 ^ n) = a / 2 ^ n := by
  rw [Int.fdiv_eq_ediv]
  have : (0 : Int) ≤ 2 ^ n := Int.pow_nonneg (by omega)
  simp [this]

theorem run_sh_bin {op : BinOp} {k k' : IntKind} {x : Int} {y : Nat} {v : Value} (xt : TypeId) (h : shOp op k x y = some v) (w : World) :
    (binOp op xt (.int k x) (.int k' (y : Int))).run P w = .ok v w := by
  have h0 : ¬ ((y : Int) < 0) := by omega
  cases op <;> simp [shOp] at h <;> subst h
  · simp only [binOp, Op.shift, if_neg h0]
    simp [shlI]
  · simp only [binOp, Op.shift, if_neg h0]
    simp [shrI, fdiv_pow]

theorem run_eqB' {xt : TypeId} (hu : P.underlying xt = some .bool) (p q : Bool) (w : World) (d : Nat) : (Op.equalIn (d + 1) xt (.bool p) (.bool q)).run P w = .ok (p == q) w := by
  simp only [Op.equalIn, Sem.run_bind, run_und hu, Result.andThen_ok, Sem.run_pure]
theorem run_eqB {xt : TypeId} (hu : P.underlying xt = some .bool) (p q : Bool) (w : World) : (Op.equal xt (.bool p) (.bool q)).run P w = .ok (p == q) w := run_eqB' hu p q w 9999
theorem run_eqN' {xt el : TypeId} (hu : P.underlying xt = some (.slice el)) (A : Option Addr) (n c n' c' : Nat) (w : World) (d : Nat) : (Op.equalIn (d + 1) xt (.slice A n c) (.slice none n' c')).run P w = .ok A.isNone w := by
  cases A <;> simp only [Op.equalIn, Sem.run_bind, run_und hu, Result.andThen_ok, Sem.run_pure] <;> rfl
theorem run_eqN {xt el : TypeId} (hu : P.underlying xt = some (.slice el)) (A : Option Addr) (n c n' c' : Nat) (w : World) : (Op.equal xt (.slice A n c) (.slice none n' c')).run P w = .ok A.isNone w := run_eqN' hu A n c n' c' w 9999
theorem run_bin_bool {xt : TypeId} (hu : P.underlying xt = some .bool) (p q : Bool) (w : World) :
    (binOp .eql xt (.bool p) (.bool q)).run P w = .ok (.bool (p == q)) w ∧ (binOp .neq xt (.bool p) (.bool q)).run P w = .ok (.bool (!(p == q))) w := by
  constructor
  · simp only [binOp, Sem.run_bind, run_eqB hu, Result.andThen_ok, Sem.run_pure]
  · simp only [binOp, Sem.run_bind, run_eqB hu, Result.andThen_ok, Sem.run_pure]
theorem run_bin_nil {xt el : TypeId} (hu : P.underlying xt = some (.slice el)) (A : Option Addr) (n c n' c' : Nat) (w : World) :
    (binOp .eql xt (.slice A n c) (.slice none n' c')).run P w = .ok (.bool A.isNone) w ∧ (binOp .neq xt (.slice A n c) (.slice none n' c')).run P w = .ok (.bool (!A.isNone)) w := by
  constructor
  · simp only [binOp, Sem.run_bind, run_eqN hu, Result.andThen_ok, Sem.run_pure]
  · simp only [binOp, Sem.run_bind, run_eqN hu, Result.andThen_ok, Sem.run_pure]
theorem run_guard_bool {op : BinOp} {xt : TypeId} {x y : Operand} {p q : Bool} (w : World) : (eqGuard op xt x y (.bool p) (.bool q)).run P w = .ok () w := by
  cases op <;> simp [eqGuard]
theorem run_guard_nil {op : BinOp} {xt : TypeId} {x y : Operand} {A B : Option Addr} {n c n' c' : Nat} (w : World) : (eqGuard op xt x y (.slice A n c) (.slice B n' c')).run P w = .ok () w := by
  cases op <;> simp [eqGuard]

theorem pev_spec {tab : List (Nat × TE)} (hT : TabOK P tab) (h : Fr c a l) {o : Oper} {v : Value} (hv : pev tab l o.op = some v) (w : World) :
    (execOp a.eval o).run P w = .ok (.value v) w := by
  obtain ⟨dst, op, ty, pos, after, guard⟩ := o
  simp only at hv
  unfold execOp
  simp only
  cases op with
  | move x => simp only [pev] at hv; simp [h.eval hv]
  | assign x => simp only [pev] at hv; simp [h.eval hv]
  | pick cc x y =>
    simp only [pev] at hv
    split at hv
    · rename_i h1 h2 h3
      injection hv with hv; subst hv
      simp only [h.eval h1, h.eval h2, h.eval h3, asBool, pure_bind]
      rename_i p x y
      cases p <;> rfl
    · rename_i h1 h2 h3
      injection hv with hv; subst hv
      simp only [h.eval h1, h.eval h2, h.eval h3, asBool, pure_bind]
      rename_i p x y _
      cases p <;> rfl
    · cases hv
  | binOp op xt x y yt =>
    simp only [pev] at hv
    split at hv
    · rename_i k m k' n h1 h2
      cases hs : isShift op with
      | true =>
        rw [hs] at hv
        simp only [cond_true] at hv
        split at hv
        · simp [h.eval h1, h.eval h2, run_eqg_int, run_sh_bin xt hv]
        · cases hv
      | false =>
        rw [hs] at hv
        simp only [cond_false] at hv
        cases hk : ikEq k k' with
        | true =>
          rw [hk] at hv
          simp only [cond_true] at hv
          obtain rfl := ikEq_spec hk
          simp [h.eval h1, h.eval h2, run_eqg_int, run_int_bin xt hv]
        | false =>
          rw [hk] at hv
          cases hv
    · rename_i p q h1 h2
      split at hv
      · rename_i z s b h3
        injection hv with hv; subst hv
        have hu := (hT _ _ h3).bool rfl
        simp [h.eval h1, h.eval h2, run_guard_bool, (run_bin_bool hu p q w).1]
      · rename_i z s b h3
        injection hv with hv; subst hv
        have hu := (hT _ _ h3).bool rfl
        simp [h.eval h1, h.eval h2, run_guard_bool, (run_bin_bool hu p q w).2]
      · cases hv
    · rename_i A n1 c1 n2 c2 h1 h2
      split at hv
      · rename_i el z s b h3
        injection hv with hv; subst hv
        have hu := (hT _ _ h3).slice rfl
        simp [h.eval h1, h.eval h2, run_guard_nil, (run_bin_nil hu A n1 c1 n2 c2 w).1]
      · rename_i el z s b h3
        injection hv with hv; subst hv
        have hu := (hT _ _ h3).slice rfl
        simp [h.eval h1, h.eval h2, run_guard_nil, (run_bin_nil hu A n1 c1 n2 c2 w).2]
      · cases hv
    · cases hv
  | unOp op xt x =>
    simp only [pev] at hv
    split at hv
    · rename_i h1
      injection hv with hv; subst hv
      simp [h.eval h1, Op.unary]
    · rename_i h1
      injection hv with hv; subst hv
      simp [h.eval h1, Op.unary, Op.intArith]
    · rename_i h1
      injection hv with hv; subst hv
      simp [h.eval h1, Op.unary, Op.intBits, bXor]
    · cases hv
  | convert src dst x =>
    simp only [pev] at hv
    split at hv
    · rename_i kx n k z s b e2 h1 h2 h3
      injection hv with hv; subst hv
      have hu := (hT _ _ h2).int rfl
      obtain ⟨d, hsrc, _⟩ := (hT _ _ h3).desc
      simp [h.eval h1, convert, run_und hu, run_und hsrc, Conv.intToInt]
    · cases hv
  | extract t i =>
    simp only [pev] at hv
    split at hv
    · rename_i vs h1
      have : vs[i]? = some v := by simpa using hv
      simp [h.eval h1, Instr.extract, this]
    · cases hv
  | makeFunc fn f cs =>
    simp only [pev] at hv
    split at hv
    · rename_i vs us h1 h2
      injection hv with hv; subst hv
      have e1 := evs_spec h h1
      have e2 := evs_spec h h2
      have e1' : f.map a.eval = vs.toArray := by rw [← e1, ← Array.toList_map]
      have e2' : cs.map a.eval = us.toArray := by rw [← e2, ← Array.toList_map]
      simp [Instr.makeFunc, e1', e2']
    · cases hv
  | fieldAddr s x f =>
    simp only [pev] at hv
    split at hv
    · rename_i ad fs z sz b h1 h2
      split at hv
      · rename_i ft off n hf
        split at hv
        · cases hv
        · rename_i n hn
          injection hv with hv; subst hv
          obtain ⟨gs, hg, hm⟩ := (hT _ _ h2).struct rfl
          rw [← hm] at hf
          simp only [List.getElem?_map, Option.map_eq_some_iff] at hf
          obtain ⟨g, hg1, hg2⟩ := hf
          simp only [Prod.mk.injEq] at hg2
          obtain ⟨q1, q2, q3⟩ := hg2
          have hg1' : gs[f]? = some g := by simpa using hg1
          have hsz : ∃ i, P.info? g.type = some i ∧ i.size ≠ 0 := by
            cases hi : P.info? g.type with
            | none => rw [hi] at q3; simp at q3
            | some i => rw [hi] at q3; simp at q3; exact ⟨i, rfl, by omega⟩
          obtain ⟨i, hi, hi0⟩ := hsz
          simp [h.eval h1, Instr.fieldAt, run_und hg, hg1', Instr.sureAddr, fieldPlace, sizeOf, typeInfo, hi, hi0, q2]
      · cases hv
    · cases hv
  | nilCheck x =>
    simp only [pev] at hv
    split at hv
    · rename_i h1
      injection hv with hv; subst hv
      have e := h.eval h1
      simp only [e]; rfl
    · rename_i h1
      injection hv with hv; subst hv
      have e := h.eval h1
      simp only [e]; rfl
    · cases hv
  | call cl =>
    obtain ⟨callee, args, ts⟩ := cl
    cases callee with
    | builtin b =>
      cases b with
      | len => ?_
      | max =>
        simp only [pev] at hv
        split at hv
        · rename_i x y hargs
          split at hv
          · rename_i k m k' n h1 h2
            injection hv with hv; subst hv
            obtain ⟨args⟩ := args
            simp only at hargs
            subst hargs
            simp [resolve, invoke, builtin, Builtin.max_, Builtin.max2, h.eval h1, h.eval h2, mxI]
          · cases hv
        · cases hv
      | min =>
        simp only [pev] at hv
        split at hv
        · rename_i x y hargs
          split at hv
          · rename_i k m k' n h1 h2
            injection hv with hv; subst hv
            obtain ⟨args⟩ := args
            simp only at hargs
            subst hargs
            simp [resolve, invoke, builtin, Builtin.min_, Builtin.min2, h.eval h1, h.eval h2, mnI]
          · cases hv
        · cases hv
      | _ => cases hv
      simp only [pev] at hv
      split at hv
      · rename_i x t hargs hts
        obtain ⟨args⟩ := args
        obtain ⟨ts⟩ := ts
        simp only at hargs hts
        subst hargs; subst hts
        split at hv
        · rename_i A n cp el z s b h1 h2
          injection hv with hv; subst hv
          have hu := (hT _ _ h2).slice rfl
          simp [resolve, invoke, builtin, Builtin.len_, h.eval h1, run_und hu, goInt]
        · rename_i u n el z s b h1 h2
          injection hv with hv; subst hv
          have hu := (hT _ _ h2).arr rfl
          cases hu1 : ev l x <;> simp [resolve, invoke, builtin, Builtin.len_, run_und hu, goInt]
        · cases hv
      · cases hv
    | _ => simp [pev] at hv
  | makeInterface t x =>
    simp only [pev] at hv
    split at hv
    · rename_i v' e h1 h2
      obtain ⟨d, h5, h6⟩ := (hT _ _ h2).desc
      rw [← h6] at hv
      cases d <;> simp [absD] at hv <;> subst hv <;> simp [h.eval h1, Instr.makeInterface, run_und h5]
    · cases hv
  | build t parts =>
    simp only [pev] at hv
    split at hv
    · rename_i ps fs z s b h1 h2
      cases hall : (fs.all (fun f => Nat.blt 0 f.2.2)) with
      | false => rw [hall] at hv; cases hv
      | true =>
        rw [hall] at hv
        simp only [cond_true] at hv
        split at hv
        · rename_i cs hcs
          injection hv with hv; subst hv
          obtain ⟨gs, hg, hm⟩ := (hT _ _ h2).struct rfl
          have hz := run_zero (hT _ _ h2) w
          have e1 := evp_spec h h1
          rw [← hm] at hall
          have hpl := run_places w gs.toList hall
          have hpl' : (gs.mapM (fun f => (do pure (f.offset, ← sizeOf f.type) : Sem (Nat × Nat)))).run P w = .ok (gs.toList.map fun f => (f.offset, ((P.info? f.type).map (·.size)).getD 0)).toArray w := by
            obtain ⟨gl⟩ := gs
            rw [List.mapM_toArray, Sem.run_map, hpl]
            rfl
          have hplace : ∀ (i t off sz : Nat), fs[i]? = some (t, off, sz) → (gs.toList.map fun f => (f.offset, ((P.info? f.type).map (·.size)).getD 0)).toArray[i]? = some (off, sz) := by
            intro i t off sz hi
            rw [← hm] at hi
            simp only [List.getElem?_map, Option.map_eq_some_iff, Prod.mk.injEq] at hi
            obtain ⟨g, g1, _, g2, g3⟩ := hi
            simp only [List.getElem?_toArray, List.getElem?_map, g1, Option.map_some, g2, g3]
          have hf := fill_spec (place := fun i => (gs.toList.map fun f => (f.offset, ((P.info? f.type).map (·.size)).getD 0)).toArray[i]?) hplace ps (vcells z) cs hcs
          have hparts : (parts.map fun x => (x.1, a.eval x.2)).toList = ps := by rw [← e1]; simp
          have hzc : z.cells = (vcells z).toArray := by rw [← vcells_eq]
          simp only [Instr.build, Sem.run_bind, hz, Result.andThen_ok, run_und hg, hpl', hparts, hzc]
          rw [hf]
          rfl
        · cases hv
    · cases hv
  | _ => simp [pev] at hv
end
end Go.RL
