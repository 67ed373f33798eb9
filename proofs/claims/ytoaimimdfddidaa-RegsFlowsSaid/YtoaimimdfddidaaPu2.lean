/- Plain laws of what the functions compute, no program in sight.
   Part of the proof of Rows.RegsFlowsSaid of the program 'recoup'. -/
import Derived.Test.YtoaimimdfddidaaPu1
import Derived.Test.YtoaimimdfddidaaGd
import Derived.KernelRfl
set_option linter.unusedVariables false
set_option linter.unusedSimpArgs false
set_option linter.unusedSectionVars false
namespace Go.RL

/-! The field of 256 elements: the product of the tables is the product of the document. -/

theorem bXor_nat {k : IntKind} {x y : Nat} (hx : x < 2 ^ k.bits) (hy : y < 2 ^ k.bits) : bXor k (x : Int) (y : Int) = k.wrap ((x ^^^ y : Nat) : Int) := by
  unfold bXor
  rw [BitVec.ofInt_natCast, BitVec.ofInt_natCast, BitVec.toNat_xor, BitVec.toNat_ofNat, BitVec.toNat_ofNat, Nat.mod_eq_of_lt hx, Nat.mod_eq_of_lt hy]
theorem bAnd_nat {k : IntKind} {x y : Nat} (hx : x < 2 ^ k.bits) (hy : y < 2 ^ k.bits) : bAnd k (x : Int) (y : Int) = k.wrap ((x &&& y : Nat) : Int) := by
  unfold bAnd
  rw [BitVec.ofInt_natCast, BitVec.ofInt_natCast, BitVec.toNat_and, BitVec.toNat_ofNat, BitVec.toNat_ofNat, Nat.mod_eq_of_lt hx, Nat.mod_eq_of_lt hy]
theorem wrapN8 {n : Nat} (h : n < 256) : IntKind.wrap .u8 (n : Int) = (n : Int) := wrap_in (k := .u8) ⟨by simp [IntKind.min, IntKind.signed], by simp [IntKind.max, IntKind.signed, IntKind.bits]; omega⟩
theorem wrapN64 {n : Nat} (h : n < 9223372036854775808) : IntKind.wrap .i64 (n : Int) = (n : Int) := w64_id (by omega) (by omega)
theorem wrapNu64 {n : Nat} (h : n < 18446744073709551616) : IntKind.wrap .u64 (n : Int) = (n : Int) := wrap_in (k := .u64) ⟨by simp [IntKind.min, IntKind.signed], by simp [IntKind.max, IntKind.signed, IntKind.bits]; omega⟩

def gmA (a b : Nat) : Nat → Nat → Nat → Nat
  | 0, _, s => s
  | n + 1, i, s => gmA a b n (i + 1) (if Nat.beq (Nat.land (Nat.shiftRight b i) 1) 1 then Nat.xor s (Nat.shiftLeft a i) else s)
def gmR : Nat → Nat → Nat
  | 0, s => s
  | n + 1, s => gmR n (if Nat.beq (Nat.land (Nat.shiftRight s (n + 8)) 1) 1 then Nat.xor s (Nat.shiftLeft 285 n) else s)
def gmN (a b : Nat) : Nat := Nat.land (gmR 7 (gmA a b 8 0 0)) 255
def gm (a b : Int) : Int := (gmN a.toNat b.toNat : Nat)

theorem gmA_lt {a b : Nat} (ha : a < 256) : ∀ (n i s : Nat), i + n ≤ 8 → s < 2 ^ 16 → gmA a b n i s < 2 ^ 16
  | 0, i, s, _, hs => hs
  | n + 1, i, s, hi, hs => by
    unfold gmA
    refine gmA_lt ha n (i + 1) _ (by omega) ?_
    split
    · refine Nat.xor_lt_two_pow hs ?_
      show a <<< i < 2 ^ 16
      rw [Nat.shiftLeft_eq]
      have h1 : 2 ^ i ≤ 2 ^ 7 := Nat.pow_le_pow_right (by omega) (by omega)
      calc a * 2 ^ i ≤ 255 * 2 ^ 7 := Nat.mul_le_mul (by omega) h1
        _ < 2 ^ 16 := by decide
    · exact hs
theorem gmR_lt : ∀ (n s : Nat), n ≤ 7 → s < 2 ^ 16 → gmR n s < 2 ^ 16
  | 0, s, _, hs => hs
  | n + 1, s, hn, hs => by
    unfold gmR
    refine gmR_lt n _ (by omega) ?_
    split
    · refine Nat.xor_lt_two_pow hs ?_
      show 285 <<< n < 2 ^ 16
      rw [Nat.shiftLeft_eq]
      have h1 : 2 ^ n ≤ 2 ^ 6 := Nat.pow_le_pow_right (by omega) (by omega)
      calc 285 * 2 ^ n ≤ 285 * 2 ^ 6 := Nat.mul_le_mul (by omega) h1
        _ < 2 ^ 16 := by decide
    · exact hs
theorem gmN_lt (a b : Nat) : gmN a b < 256 := Nat.lt_of_le_of_lt Nat.and_le_right (by decide)

theorem shr_nat {k : IntKind} {x i : Nat} (h : i ≤ k.bits) : shrI k (x : Int) (i : Int) = ((x >>> i : Nat) : Int) := by
  unfold shrI
  rw [Int.toNat_natCast, Nat.min_eq_left h, Nat.shiftRight_eq_div_pow]; norm_cast
theorem shl_nat {k : IntKind} {x i : Nat} (h : i ≤ k.bits) : shlI k (x : Int) (i : Int) = k.wrap ((x <<< i : Nat) : Int) := by
  unfold shlI
  rw [Int.toNat_natCast, Nat.min_eq_left h, Nat.shiftLeft_eq]; norm_cast

theorem mulA_eq {a b : Nat} (ha : a < 256) (hb : b < 256) : ∀ (n i s : Nat), i + n ≤ 8 → s < 2 ^ 16 →
    forN (fun (i66 : Nat) (s67 : Int) => (if (bAnd .u8 (shrI .u8 (b : Int) (IntKind.wrap .u64 ((i66 : Int)))) 1) = (1 : Int) then (some (.next (bXor .i64 s67 (shlI .i64 (a : Int) (IntKind.wrap .u64 ((i66 : Int))))))) else (some (.next (s67))) : Option (Ctl Int Int))) (fun (s67 : Int) => (s67)) n i (s : Int) = some ((gmA a b n i s : Nat) : Int)
  | 0, i, s, _, hs => rfl
  | n + 1, i, s, hi, hs => by
    unfold forN gmA
    have e1 : IntKind.wrap .u64 (i : Int) = (i : Int) := wrapNu64 (by omega)
    have hbs : b >>> i < 256 := Nat.lt_of_le_of_lt (Nat.shiftRight_le b i) hb
    have hal : a <<< i < 2 ^ 16 := by
      rw [Nat.shiftLeft_eq]
      have h1 : 2 ^ i ≤ 2 ^ 7 := Nat.pow_le_pow_right (by omega) (by omega)
      calc a * 2 ^ i ≤ 255 * 2 ^ 7 := Nat.mul_le_mul (by omega) h1
        _ < 2 ^ 16 := by decide
    have e2 : bAnd .u8 (shrI .u8 (b : Int) (i : Int)) 1 = (((b >>> i) &&& 1 : Nat) : Int) := by
      rw [shr_nat (by simp [IntKind.bits]; omega)]
      rw [show (1 : Int) = ((1 : Nat) : Int) by rfl, bAnd_nat (by simpa [IntKind.bits] using hbs) (by decide)]
      exact wrapN8 (Nat.lt_of_le_of_lt Nat.and_le_right (by decide))
    have e3 : bXor .i64 (s : Int) (shlI .i64 (a : Int) (i : Int)) = ((s ^^^ (a <<< i) : Nat) : Int) := by
      rw [shl_nat (by simp [IntKind.bits]; omega), wrapN64 (by omega), bXor_nat (by simp [IntKind.bits]; omega) (by simp [IntKind.bits]; omega), wrapN64]
      have := Nat.xor_lt_two_pow (n := 16) hs hal
      omega
    simp only [e1, e2, e3]
    by_cases hc : (b >>> i) &&& 1 = 1
    · have hc' : (((b >>> i) &&& 1 : Nat) : Int) = 1 := by rw [hc]; rfl
      rw [if_pos hc']
      have hb' : Nat.beq (Nat.land (Nat.shiftRight b i) 1) 1 = true := by rw [Nat.beq_eq]; exact hc
      rw [if_pos hb']
      exact mulA_eq ha hb n (i + 1) _ (by omega) (Nat.xor_lt_two_pow hs hal)
    · have hc' : ¬ (((b >>> i) &&& 1 : Nat) : Int) = 1 := fun h => hc (by exact_mod_cast h)
      rw [if_neg hc']
      have hb' : ¬ Nat.beq (Nat.land (Nat.shiftRight b i) 1) 1 = true := fun h => hc (Nat.eq_of_beq_eq_true h)
      rw [if_neg hb']
      exact mulA_eq ha hb n (i + 1) _ (by omega) hs

theorem mulR_eq : ∀ (n s : Nat), n ≤ 7 → s < 2 ^ 16 →
    iterN (fun (s83 : Int × Int) => (if (8 : Int) ≤ s83.2 then (if (bAnd .i64 (shrI .i64 s83.1 (IntKind.wrap .u64 (s83.2))) 1) = (1 : Int) then (some (.next (bXor .i64 s83.1 (shlI .i64 285 (IntKind.wrap .u64 (w64 (s83.2 - 8)))), w64 (s83.2 - 1)))) else (some (.next (s83.1, w64 (s83.2 - 1))))) else (some (.stop (s83.1))) : Option (Ctl (Int × Int) Int))) (n + 1) ((s : Int), ((n + 7 : Nat) : Int)) = some ((gmR n s : Nat) : Int)
  | 0, s, _, hs => by simp [iterN, gmR]
  | n + 1, s, hn, hs => by
    unfold iterN gmR
    have e1 : IntKind.wrap .u64 ((n + 1 + 7 : Nat) : Int) = ((n + 8 : Nat) : Int) := wrapNu64 (by omega)
    have e4 : w64 (((n + 1 + 7 : Nat) : Int) - 8) = (n : Int) := by rw [w64_id (by omega) (by omega)]; omega
    have e5 : w64 (((n + 1 + 7 : Nat) : Int) - 1) = ((n + 7 : Nat) : Int) := by rw [w64_id (by omega) (by omega)]; omega
    have e6 : IntKind.wrap .u64 (n : Int) = (n : Int) := wrapNu64 (by omega)
    have hal : 285 <<< n < 2 ^ 16 := by
      rw [Nat.shiftLeft_eq]
      have h1 : 2 ^ n ≤ 2 ^ 6 := Nat.pow_le_pow_right (by omega) (by omega)
      calc 285 * 2 ^ n ≤ 285 * 2 ^ 6 := Nat.mul_le_mul (by omega) h1
        _ < 2 ^ 16 := by decide
    have e2 : bAnd .i64 (shrI .i64 (s : Int) ((n + 8 : Nat) : Int)) 1 = (((s >>> (n + 8)) &&& 1 : Nat) : Int) := by
      rw [shr_nat (by simp [IntKind.bits]; omega)]
      have hle : s >>> (n + 8) ≤ s := Nat.shiftRight_le s (n + 8)
      rw [show (1 : Int) = ((1 : Nat) : Int) by rfl, bAnd_nat (by simp [IntKind.bits]; omega) (by decide)]
      exact wrapN64 (Nat.lt_of_le_of_lt Nat.and_le_right (by decide))
    have e3 : bXor .i64 (s : Int) (shlI .i64 285 (n : Int)) = ((s ^^^ (285 <<< n) : Nat) : Int) := by
      rw [show (285 : Int) = ((285 : Nat) : Int) by rfl, shl_nat (by simp [IntKind.bits]; omega), wrapN64 (by omega), bXor_nat (by simp [IntKind.bits]; omega) (by simp [IntKind.bits]; omega), wrapN64]
      have := Nat.xor_lt_two_pow (n := 16) hs hal
      omega
    have hge : (8 : Int) ≤ ((n + 1 + 7 : Nat) : Int) := by omega
    simp only [if_pos hge, e1, e2, e4, e5, e6, e3]
    by_cases hc : (s >>> (n + 8)) &&& 1 = 1
    · have hc' : (((s >>> (n + 8)) &&& 1 : Nat) : Int) = 1 := by rw [hc]; rfl
      rw [if_pos hc']
      have hb' : Nat.beq (Nat.land (Nat.shiftRight s (n + 8)) 1) 1 = true := by rw [Nat.beq_eq]; exact hc
      rw [if_pos hb']
      exact mulR_eq n _ (by omega) (Nat.xor_lt_two_pow hs hal)
    · have hc' : ¬ (((s >>> (n + 8)) &&& 1 : Nat) : Int) = 1 := fun h => hc (by exact_mod_cast h)
      rw [if_neg hc']
      have hb' : ¬ Nat.beq (Nat.land (Nat.shiftRight s (n + 8)) 1) 1 = true := fun h => hc (Nat.eq_of_beq_eq_true h)
      rw [if_neg hb']
      exact mulR_eq n _ (by omega) hs

theorem wrap8_land (n : Nat) : IntKind.wrap .u8 (n : Int) = ((n &&& 255 : Nat) : Int) := by
  rw [show (255 : Nat) = 2 ^ 8 - 1 by rfl, Nat.and_two_pow_sub_one_eq_mod]
  simp [IntKind.wrap, IntKind.signed, IntKind.bits]

def isB (x : Int) : Prop := 0 ≤ x ∧ x < 256

theorem refMul_eq {a b : Int} (ha : isB a) (hb : isB b) : recoupref01_Mul a b = some (gm a b) := by
  obtain ⟨a, rfl⟩ := Int.eq_ofNat_of_zero_le ha.1
  obtain ⟨b, rfl⟩ := Int.eq_ofNat_of_zero_le hb.1
  have ha' : a < 256 := by have := ha.2; omega
  have hb' : b < 256 := by have := hb.2; omega
  unfold recoupref01_Mul
  have h1 := mulA_eq ha' hb' 8 0 0 (by omega) (by decide)
  have h2 := mulR_eq 7 (gmA a b 8 0 0) (by omega) (gmA_lt ha' 8 0 0 (by omega) (by decide))
  have e1 : ((8 : Int)).toNat = 8 := rfl
  rw [e1]
  have h1' : (forN (fun (i66 : Nat) (s67 : Int) => (if (bAnd .u8 (shrI .u8 (b : Int) (IntKind.wrap .u64 ((i66 : Int)))) 1) = (1 : Int) then (some (.next (bXor .i64 s67 (shlI .i64 (a : Int) (IntKind.wrap .u64 ((i66 : Int))))))) else (some (.next (s67))) : Option (Ctl Int Int))) (fun (s67 : Int) => (s67)) 8 0 (0 : Int)) = some ((gmA a b 8 0 0 : Nat) : Int) := h1
  have h2' := iter_some.2 ⟨_, h2⟩
  refine (congrArg (fun o => Option.bind o _) h1').trans ?_
  refine (congrArg (fun o => Option.bind o _) h2').trans ?_
  show some _ = some _
  congr 1
  exact wrap8_land _

theorem gm_isB (a b : Int) : isB (gm a b) := ⟨by unfold gm; omega, by unfold gm; have := gmN_lt a.toNat b.toNat; omega⟩

/-! the tables -/
def dblN (x : Nat) : Nat := if Nat.beq (Nat.land x 128) 0 then Nat.land (Nat.shiftLeft x 1) 255 else Nat.xor (Nat.land (Nat.shiftLeft x 1) 255) 29
def powN : Nat → Nat
  | 0 => 1
  | n + 1 => dblN (powN n)
def allB (p : Nat → Bool) : Nat → Bool
  | 0 => true
  | n + 1 => p n && allB p n
theorem allB_spec {p : Nat → Bool} : ∀ {n : Nat}, allB p n = true → ∀ i, i < n → p i = true
  | 0, _, i, hi => by omega
  | n + 1, h, i, hi => by
    rw [allB, Bool.and_eq_true] at h
    rcases Nat.lt_succ_iff_lt_or_eq.1 hi with h1 | h1
    · exact allB_spec h.2 i h1
    · subst h1; exact h.1

def expL : Nat → Nat → List Int
  | 0, _ => []
  | n + 1, x => (x : Int) :: expL n (dblN x)
def logL : List Nat := [0, 0, 1, 25, 2, 50, 26, 198, 3, 223, 51, 238, 27, 104, 199, 75, 4, 100, 224, 14, 52, 141, 239, 129, 28, 193, 105, 248, 200, 8, 76, 113, 5, 138, 101, 47, 225, 36, 15, 33, 53, 147, 142, 218, 240, 18, 130, 69, 29, 181, 194, 125, 106, 39, 249, 185, 201, 154, 9, 120, 77, 228, 114, 166, 6, 191, 139, 98, 102, 221, 48, 253, 226, 152, 37, 179, 16, 145, 34, 136, 54, 208, 148, 206, 143, 150, 219, 189, 241, 210, 19, 92, 131, 56, 70, 64, 30, 66, 182, 163, 195, 72, 126, 110, 107, 58, 40, 84, 250, 133, 186, 61, 202, 94, 155, 159, 10, 21, 121, 43, 78, 212, 229, 172, 115, 243, 167, 87, 7, 112, 192, 247, 140, 128, 99, 13, 103, 74, 222, 237, 49, 197, 254, 24, 227, 165, 153, 119, 38, 184, 180, 124, 17, 68, 146, 217, 35, 32, 137, 46, 55, 63, 209, 91, 149, 188, 207, 205, 144, 135, 151, 178, 220, 252, 190, 97, 242, 86, 211, 171, 20, 42, 93, 158, 132, 60, 57, 83, 71, 109, 65, 162, 31, 45, 67, 216, 183, 123, 164, 118, 196, 23, 73, 236, 127, 12, 111, 246, 108, 161, 59, 82, 41, 157, 85, 170, 251, 96, 134, 177, 187, 204, 62, 90, 203, 89, 95, 176, 156, 169, 160, 81, 11, 245, 22, 235, 122, 117, 44, 215, 79, 174, 213, 233, 230, 231, 173, 232, 116, 214, 244, 234, 168, 80, 88, 175]
def tabs : GFieldTables := ⟨expL 255 1 ++ expL 255 1, logL.map Int.ofNat⟩
def sameT : Option GFieldTables → GFieldTables → Bool
  | some x, y => x.exp == y.exp && x.log == y.log
  | none, _ => false
theorem build_c : sameT field_build tabs = true := by kernel_rfl
theorem build_tabs : field_build = some tabs := by
  have h := build_c
  cases h' : field_build with
  | none => rw [h'] at h; cases h
  | some x =>
    rw [h'] at h
    have h2 : x.exp = tabs.exp ∧ x.log = tabs.log := by
      have h3 : (x.exp == tabs.exp && x.log == tabs.log) = true := h
      rw [Bool.and_eq_true, beq_iff_eq, beq_iff_eq] at h3
      exact h3
    obtain ⟨a, b⟩ := x
    obtain ⟨rfl, rfl⟩ : a = tabs.exp ∧ b = tabs.log := h2
    rfl

theorem bit_xor (b c i : Nat) : Nat.land (Nat.shiftRight (b ^^^ c) i) 1 = Nat.land (Nat.shiftRight b i) 1 ^^^ Nat.land (Nat.shiftRight c i) 1 := by
  show ((b ^^^ c) >>> i) &&& 1 = ((b >>> i) &&& 1) ^^^ ((c >>> i) &&& 1)
  rw [Nat.shiftRight_xor_distrib, Nat.and_xor_distrib_right]
theorem bit_01 (b i : Nat) : Nat.land (Nat.shiftRight b i) 1 = 0 ∨ Nat.land (Nat.shiftRight b i) 1 = 1 := by
  have : (b >>> i) &&& 1 ≤ 1 := Nat.and_le_right
  show (b >>> i) &&& 1 = 0 ∨ (b >>> i) &&& 1 = 1
  omega
theorem gmA_linB (a : Nat) : ∀ (n i b c s t : Nat), gmA a (b ^^^ c) n i (s ^^^ t) = gmA a b n i s ^^^ gmA a c n i t
  | 0, i, b, c, s, t => rfl
  | n + 1, i, b, c, s, t => by
    unfold gmA
    rw [← gmA_linB a n (i + 1)]
    congr 1
    rw [bit_xor]
    have hx : ∀ x y : Nat, Nat.xor x y = x ^^^ y := fun _ _ => rfl
    simp only [hx]
    rcases bit_01 b i with h1 | h1 <;> rcases bit_01 c i with h2 | h2 <;> rw [h1, h2] <;> simp
    · ac_rfl
    · ac_rfl
    · rw [show s ^^^ a <<< i ^^^ (t ^^^ a <<< i) = s ^^^ t ^^^ (a <<< i ^^^ a <<< i) by ac_rfl, Nat.xor_self, Nat.xor_zero]
theorem gmA_linA (b : Nat) : ∀ (n i a c s t : Nat), gmA (a ^^^ c) b n i (s ^^^ t) = gmA a b n i s ^^^ gmA c b n i t
  | 0, i, a, c, s, t => rfl
  | n + 1, i, a, c, s, t => by
    unfold gmA
    rw [← gmA_linA b n (i + 1)]
    congr 1
    have hx : ∀ x y : Nat, Nat.xor x y = x ^^^ y := fun _ _ => rfl
    have hs : Nat.shiftLeft (a ^^^ c) i = Nat.shiftLeft a i ^^^ Nat.shiftLeft c i := Nat.shiftLeft_xor_distrib
    simp only [hx, hs]
    split
    · ac_rfl
    · rfl
theorem gmR_lin : ∀ (n s t : Nat), gmR n (s ^^^ t) = gmR n s ^^^ gmR n t
  | 0, s, t => rfl
  | n + 1, s, t => by
    unfold gmR
    rw [← gmR_lin n]
    congr 1
    rw [bit_xor]
    have hx : ∀ x y : Nat, Nat.xor x y = x ^^^ y := fun _ _ => rfl
    simp only [hx]
    rcases bit_01 s (n + 8) with h1 | h1 <;> rcases bit_01 t (n + 8) with h2 | h2 <;> rw [h1, h2] <;> simp
    · ac_rfl
    · ac_rfl
    · rw [show s ^^^ 285 <<< n ^^^ (t ^^^ 285 <<< n) = s ^^^ t ^^^ (285 <<< n ^^^ 285 <<< n) by ac_rfl, Nat.xor_self, Nat.xor_zero]
theorem gmN_linB (a b c : Nat) : gmN a (b ^^^ c) = gmN a b ^^^ gmN a c := by
  unfold gmN
  have := gmA_linB a 8 0 b c 0 0
  rw [Nat.xor_self] at this
  rw [this, gmR_lin]
  exact Nat.and_xor_distrib_right
theorem gmN_linA (a b c : Nat) : gmN (a ^^^ b) c = gmN a c ^^^ gmN b c := by
  unfold gmN
  have := gmA_linA c 8 0 a b 0 0
  rw [Nat.xor_self] at this
  rw [this, gmR_lin]
  exact Nat.and_xor_distrib_right

theorem high_bit : allB (fun b => allB (fun n => (Nat.blt b (Nat.pow 2 n) || Nat.ble (Nat.pow 2 (n + 1)) b) || Nat.beq b (Nat.xor (Nat.pow 2 n) (b - Nat.pow 2 n))) 8) 256 = true := by kernel_rfl
/-- a byte is the sum of its bits -/
theorem bits_all {p : Nat → Prop} (h0 : p 0) (h1 : ∀ k, k < 8 → p (2 ^ k)) (hx : ∀ x y, p x → p y → p (x ^^^ y)) : ∀ b, b < 256 → p b := by
  have step : ∀ n, n ≤ 8 → ∀ b, b < 2 ^ n → p b := by
    intro n
    induction n with
    | zero => intro _ b hb; have : b = 0 := by simpa using hb
              subst this; exact h0
    | succ n ih =>
      intro hn b hb
      by_cases hlt : b < 2 ^ n
      · exact ih (by omega) b hlt
      · have hb3 : b < 256 := Nat.lt_of_lt_of_le hb (Nat.pow_le_pow_right (by omega) hn)
        have hc := allB_spec (allB_spec high_bit b hb3) n (by omega)
        have hb2 : b = 2 ^ n ^^^ (b - 2 ^ n) := by
          rw [Bool.or_eq_true, Bool.or_eq_true] at hc
          rcases hc with (hc | hc) | hc
          · rw [Nat.blt_eq] at hc; exact absurd hc hlt
          · have := Nat.le_of_ble_eq_true hc; exact absurd hb (Nat.not_lt.2 this)
          · exact Nat.eq_of_beq_eq_true hc
        rw [hb2]
        exact hx _ _ (h1 n (by omega)) (ih (by omega) _ (by rw [Nat.pow_succ] at hb; omega))
  exact step 8 (Nat.le_refl _)

theorem gmN_z (a : Nat) : gmN a 0 = 0 := by have := gmN_linB a 0 0; rw [Nat.xor_self, Nat.xor_self] at this; exact this
theorem gmN_zl (a : Nat) : gmN 0 a = 0 := by have := gmN_linA 0 0 a; rw [Nat.xor_self, Nat.xor_self] at this; exact this
theorem comm_bits : allB (fun i => allB (fun j => Nat.beq (gmN (2 ^ i) (2 ^ j)) (gmN (2 ^ j) (2 ^ i))) 8) 8 = true := by kernel_rfl
theorem assoc_bits : allB (fun i => allB (fun j => allB (fun k => Nat.beq (gmN (gmN (2 ^ i) (2 ^ j)) (2 ^ k)) (gmN (2 ^ i) (gmN (2 ^ j) (2 ^ k)))) 8) 8) 8 = true := by kernel_rfl
theorem gmN_comm {a b : Nat} (ha : a < 256) (hb : b < 256) : gmN a b = gmN b a := by
  refine bits_all (p := fun a => gmN a b = gmN b a) (by rw [gmN_z, gmN_zl]) (fun i hi => ?_) (fun x y h1 h2 => by rw [gmN_linA, gmN_linB, h1, h2]) a ha
  refine bits_all (p := fun b => gmN (2 ^ i) b = gmN b (2 ^ i)) (by rw [gmN_z, gmN_zl]) (fun j hj => ?_) (fun x y h1 h2 => by rw [gmN_linA, gmN_linB, h1, h2]) b hb
  exact Nat.eq_of_beq_eq_true (allB_spec (allB_spec comm_bits i hi) j hj)
theorem gmN_assoc {a b c : Nat} (ha : a < 256) (hb : b < 256) (hc : c < 256) : gmN (gmN a b) c = gmN a (gmN b c) := by
  refine bits_all (p := fun a => gmN (gmN a b) c = gmN a (gmN b c)) (by rw [gmN_zl, gmN_zl, gmN_zl]) (fun i hi => ?_) (fun x y h1 h2 => by rw [gmN_linA, gmN_linA, gmN_linA, h1, h2]) a ha
  refine bits_all (p := fun b => gmN (gmN (2 ^ i) b) c = gmN (2 ^ i) (gmN b c)) (by rw [gmN_zl, gmN_z, gmN_zl]) (fun j hj => ?_) (fun x y h1 h2 => by rw [gmN_linB, gmN_linA, gmN_linA, gmN_linB, h1, h2]) b hb
  refine bits_all (p := fun c => gmN (gmN (2 ^ i) (2 ^ j)) c = gmN (2 ^ i) (gmN (2 ^ j) c)) (by rw [gmN_z, gmN_z, gmN_z]) (fun k hk => ?_) (fun x y h1 h2 => by rw [gmN_linB, gmN_linB, gmN_linB, h1, h2]) c hc
  exact Nat.eq_of_beq_eq_true (allB_spec (allB_spec (allB_spec assoc_bits i hi) j hj) k hk)
theorem dbl_gm_c : allB (fun a => Nat.beq (dblN a) (gmN 2 a)) 256 = true := by kernel_rfl
theorem dbl_gm {a : Nat} (ha : a < 256) : dblN a = gmN 2 a := Nat.eq_of_beq_eq_true (allB_spec dbl_gm_c a ha)
theorem dblN_lt {a : Nat} (ha : a < 256) : dblN a < 256 := by rw [dbl_gm ha]; exact gmN_lt _ _
theorem one_gm_c : allB (fun a => Nat.beq (gmN 1 a) a) 256 = true := by kernel_rfl
theorem one_gm {a : Nat} (ha : a < 256) : gmN 1 a = a := Nat.eq_of_beq_eq_true (allB_spec one_gm_c a ha)
theorem powN_lt : ∀ n, powN n < 256
  | 0 => by decide
  | n + 1 => dblN_lt (powN_lt n)
theorem pow_add : ∀ (n m : Nat), gmN (powN n) (powN m) = powN (n + m)
  | 0, m => by rw [Nat.zero_add]; exact one_gm (powN_lt m)
  | n + 1, m => by
    rw [show n + 1 + m = (n + m) + 1 by omega, powN, powN, ← pow_add n m, dbl_gm (powN_lt n), dbl_gm (gmN_lt _ _), gmN_assoc (by decide) (powN_lt n) (powN_lt m)]
theorem pow_255 : powN 255 = 1 := by kernel_rfl
theorem expL_get : ∀ (n x i : Nat) (k : Nat), x = powN k → i < n → (expL n x)[i]? = some ((powN (k + i) : Nat) : Int)
  | 0, x, i, k, _, hi => by omega
  | n + 1, x, 0, k, hx, _ => by subst hx; rfl
  | n + 1, x, i + 1, k, hx, hi => by
    show (expL n (dblN x))[i]? = _
    rw [expL_get n (dblN x) i (k + 1) (by rw [hx]; rfl) (by omega), show k + 1 + i = k + (i + 1) by omega]
theorem expL_len : ∀ (n x : Nat), (expL n x).length = n
  | 0, x => rfl
  | n + 1, x => by rw [expL, List.length_cons, expL_len]
theorem exp_get {i : Nat} (hi : i < 510) : tabs.exp[i]? = some ((powN i : Nat) : Int) := by
  show (expL 255 1 ++ expL 255 1)[i]? = _
  by_cases h : i < 255
  · rw [List.getElem?_append_left (by rw [expL_len]; exact h), expL_get 255 1 i 0 rfl h, Nat.zero_add]
  · rw [List.getElem?_append_right (by rw [expL_len]; omega), expL_len, expL_get 255 1 (i - 255) 255 pow_255.symm (by omega), show 255 + (i - 255) = i by omega]
theorem log_c : allB (fun a => match logL[a + 1]? with | some l => Nat.blt l 255 && Nat.beq (powN l) (a + 1) | none => false) 255 = true := by kernel_rfl
theorem log_get {a : Nat} (ha : a < 256) (h0 : a ≠ 0) : ∃ l : Nat, tabs.log[a]? = some (l : Int) ∧ l < 255 ∧ powN l = a := by
  have h := allB_spec log_c (a - 1) (by omega)
  rw [show a - 1 + 1 = a by omega] at h
  show ∃ l : Nat, (logL.map Int.ofNat)[a]? = some (l : Int) ∧ l < 255 ∧ powN l = a
  rw [List.getElem?_map]
  cases e : logL[a]? with
  | none => rw [e] at h; cases h
  | some l =>
    rw [e] at h
    simp only [Bool.and_eq_true] at h
    exact ⟨l, rfl, by have := h.1; rwa [Nat.blt_eq] at this, Nat.eq_of_beq_eq_true h.2⟩

/-- the product by the tables -/
theorem tab_mul {a b : Int} (ha : isB a) (hb : isB b) :
    (if a = (0 : Int) then (some ((0 : Int))) else (if b = (0 : Int) then (some ((0 : Int))) else ((idx (tabs.log) a).bind fun x1069 => (idx (tabs.log) b).bind fun x1077 => (idx (tabs.exp) (w64 (x1069 + x1077))).bind fun x1085 => some (x1085))) : Option (Int)) = some (gm a b) := by
  obtain ⟨a, rfl⟩ := Int.eq_ofNat_of_zero_le ha.1
  obtain ⟨b, rfl⟩ := Int.eq_ofNat_of_zero_le hb.1
  have ha' : a < 256 := by have := ha.2; omega
  have hb' : b < 256 := by have := hb.2; omega
  show _ = some ((gmN a b : Nat) : Int)
  by_cases h1 : a = 0
  · subst h1; rw [if_pos (show ((0 : Nat) : Int) = 0 from rfl), gmN_zl]; rfl
  · rw [if_neg (by omega)]
    by_cases h2 : b = 0
    · subst h2; rw [if_pos (show ((0 : Nat) : Int) = 0 from rfl), gmN_z]; rfl
    · rw [if_neg (by omega)]
      obtain ⟨l, e1, l1, p1⟩ := log_get ha' h1
      obtain ⟨m, e2, l2, p2⟩ := log_get hb' h2
      rw [idx_nat, e1, Option.bind_some, idx_nat, e2, Option.bind_some, w64_id (by omega) (by omega)]
      rw [show ((l : Int) + (m : Int)) = ((l + m : Nat) : Int) by omega, idx_nat, exp_get (by omega), Option.bind_some, ← pow_add, p1, p2]
end Go.RL
