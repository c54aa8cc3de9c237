/- Plain facts on the bits of 64-bit words: masks, and, or, shifts, as sums and remainders of whole numbers. No program in sight. -/
import Derived.Laws.BitsAllLaws
import Derived.Laws.Bits64
import Derived.RowKit
namespace Go.Proofs.Ytknbeklplmhheaa.Bits
open Go Go.RowKit

/-- The lowest n bits. -/
def msk (n : Nat) : Nat := 2 ^ min n 64 - 1

theorem two64 : (2 : Nat) ^ 64 = 18446744073709551616 := by decide
theorem pow_le64 {n : Nat} (h : n ≤ 64) : (2 : Nat) ^ n ≤ 18446744073709551616 := by
  rw [← two64]; exact Nat.pow_le_pow_right (by decide) h
theorem pow_pos' (n : Nat) : 0 < (2 : Nat) ^ n := Nat.two_pow_pos n
theorem msk_of {n : Nat} (h : n ≤ 64) : msk n = 2 ^ n - 1 := by unfold msk; rw [Nat.min_eq_left h]
theorem msk_ge {n : Nat} (h : 64 ≤ n) : msk n = 18446744073709551615 := by unfold msk; rw [Nat.min_eq_right h]
theorem msk_lt (n : Nat) : msk n < 18446744073709551616 := by
  have h1 : min n 64 ≤ 64 := Nat.min_le_right _ _
  have := pow_le64 h1
  have := pow_pos' (min n 64)
  unfold msk
  omega
theorem msk_zero : msk 0 = 0 := by decide

theorem wf_u64 {x : Int} (h : (Lit.int .u64 x).wf = true) : 0 ≤ x ∧ x < 18446744073709551616 := by
  simp [Lit.wf, IntKind.min, IntKind.max, IntKind.signed, IntKind.bits] at h
  omega
theorem wf_i64 {x : Int} (h : (Lit.int .i64 x).wf = true) : -9223372036854775808 ≤ x ∧ x < 9223372036854775808 := by
  simp [Lit.wf, IntKind.min, IntKind.max, IntKind.signed, IntKind.bits] at h
  omega
theorem wf_u32 {x : Int} (h : (Lit.int .u32 x).wf = true) : 0 ≤ x ∧ x < 4294967296 := by
  simp [Lit.wf, IntKind.min, IntKind.max, IntKind.signed, IntKind.bits] at h
  omega
theorem wf_u16 {x : Int} (h : (Lit.int .u16 x).wf = true) : 0 ≤ x ∧ x < 65536 := by
  simp [Lit.wf, IntKind.min, IntKind.max, IntKind.signed, IntKind.bits] at h
  omega
theorem wf_u8 {x : Int} (h : (Lit.int .u8 x).wf = true) : 0 ≤ x ∧ x < 256 := by
  simp [Lit.wf, IntKind.min, IntKind.max, IntKind.signed, IntKind.bits] at h
  omega
theorem of_wf_u64 {x : Int} (h0 : 0 ≤ x) (h1 : x < 18446744073709551616) : (Lit.int .u64 x).wf = true := by
  simp [Lit.wf, IntKind.min, IntKind.max, IntKind.signed, IntKind.bits]
  omega

/-- Doubling and a one. -/
theorem or_one {j : Nat} (hj : j < 64) : bits .or .u64 (IntKind.u64.wrap (((2 ^ j - 1 : Nat) : Int) * 2)) 1 = ((2 ^ (j + 1) - 1 : Nat) : Int) := by
  have hp := pow_pos' j
  have hl := pow_le64 (show j + 1 ≤ 64 by omega)
  have he : (2 : Nat) ^ (j + 1) = 2 ^ j * 2 := Nat.pow_succ ..
  have h1 : (((2 ^ j - 1 : Nat) : Int) * 2) = ((2 ^ (j + 1) - 2 : Nat) : Int) := by omega
  rw [h1, IntKind.wrap_u64, show ((2 ^ (j + 1) - 2 : Nat) : Int) % 18446744073709551616 = ((2 ^ (j + 1) - 2 : Nat) : Int) by omega]
  rw [show (1 : Int) = ((1 : Nat) : Int) from rfl, u64_or_nat _ _ (by omega) (by omega)]
  rw [nat_join 1 _ _ (by omega) (by decide)]
  omega

/-- And with a mask: a remainder. -/
theorem and_msk {x : Int} (h0 : 0 ≤ x) (h1 : x < 18446744073709551616) (n : Nat) : bits .and .u64 x (msk n : Int) = x % (2 : Int) ^ min n 64 := by
  obtain ⟨a, rfl⟩ := Int.eq_ofNat_of_zero_le h0
  rw [u64_and_nat _ _ (by omega) (msk_lt n)]
  unfold msk
  rw [Nat.and_two_pow_sub_one_eq_mod]
  simp

/-- What a mask leaves: 'a &^ b' for a b of 64 bits, bit by bit. -/
theorem testBit_andNot (a b i : Nat) (hb : b < 18446744073709551616) : (a &&& (18446744073709551615 - b)).testBit i = (a.testBit i && (decide (i < 64) && !b.testBit i)) := by
  rw [Nat.testBit_and]
  have := Nat.testBit_two_pow_sub_succ (x := b) (n := 64) (by rw [two64]; exact hb) i
  rw [show 18446744073709551615 - b = 2 ^ 64 - (b + 1) by rw [two64]; omega, this]

theorem testBit_of_lt {a i : Nat} (ha : a < 18446744073709551616) (hi : 64 ≤ i) : a.testBit i = false := by
  apply Nat.testBit_lt_two_pow
  rw [← two64] at ha
  exact Nat.lt_of_lt_of_le ha (Nat.pow_le_pow_right (by decide) hi)

/-- Bits of a word from a place on. -/
def getN (w a n : Nat) : Nat := w / 2 ^ a % 2 ^ n
/-- A word with other bits from a place on. -/
def putN (w a n v : Nat) : Nat := 2 ^ a * (2 ^ n * (w / 2 ^ (a + n)) + v) + w % 2 ^ a

theorem testBit_getN (w a n i : Nat) : (getN w a n).testBit i = (decide (i < n) && w.testBit (a + i)) := by
  unfold getN
  rw [Nat.testBit_mod_two_pow, Nat.testBit_div_two_pow, Nat.add_comm]
theorem testBit_putN {w a n v : Nat} (hv : v < 2 ^ n) (i : Nat) : (putN w a n v).testBit i = if i < a then w.testBit i else if i < a + n then v.testBit (i - a) else w.testBit i := by
  unfold putN
  rw [Nat.testBit_two_pow_mul_add _ (Nat.mod_lt _ (pow_pos' a))]
  by_cases h : i < a
  · rw [if_pos h, if_pos h, Nat.testBit_mod_two_pow]; simp [h]
  · rw [if_neg h, if_neg h, Nat.testBit_two_pow_mul_add _ hv]
    by_cases h2 : i < a + n
    · rw [if_pos (by omega), if_pos h2]
    · rw [if_neg (by omega), if_neg h2, Nat.testBit_div_two_pow, show i - a - n + (a + n) = i by omega]
theorem getN_lt (w a n : Nat) : getN w a n < 2 ^ n := Nat.mod_lt _ (pow_pos' n)
theorem putN_lt {w a n v : Nat} (hw : w < 18446744073709551616) (hv : v < 2 ^ n) (h : a + n ≤ 64) : putN w a n v < 18446744073709551616 := by
  rw [← two64]
  refine Nat.lt_pow_two_of_testBit _ fun i hi => ?_
  rw [testBit_putN hv, if_neg (by omega), if_neg (by omega)]
  exact testBit_of_lt hw hi
/-- What is put is got. -/
theorem getN_putN {w a n v : Nat} (hv : v < 2 ^ n) : getN (putN w a n v) a n = v := by
  refine Nat.eq_of_testBit_eq fun i => ?_
  rw [testBit_getN, testBit_putN hv, if_neg (by omega)]
  by_cases h : i < n
  · rw [if_pos (by omega)]; simp [h]
  · rw [Nat.testBit_lt_two_pow (x := v) (i := i) (Nat.lt_of_lt_of_le hv (Nat.pow_le_pow_right (by decide) (by omega)))]
    simp [h]
/-- And nothing beside it changes. -/
theorem getN_putN_far {w a n v f k : Nat} (hv : v < 2 ^ n) (h : f + k ≤ a ∨ a + n ≤ f) : getN (putN w a n v) f k = getN w f k := by
  refine Nat.eq_of_testBit_eq fun i => ?_
  rw [testBit_getN, testBit_getN, testBit_putN hv]
  by_cases hi : i < k
  · rcases h with h | h
    · rw [if_pos (by omega)]
    · rw [if_neg (by omega), if_neg (by omega)]
  · simp [hi]

theorem testBit_msk (n i : Nat) : (msk n).testBit i = decide (i < min n 64) := by
  unfold msk
  exact Nat.testBit_two_pow_sub_one ..
/-- 'w >> a & mask(n)'. -/
theorem and_msk_nat (x n : Nat) : x &&& msk n = x % 2 ^ min n 64 := by
  unfold msk; exact Nat.and_two_pow_sub_one_eq_mod ..
/-- 'v &^ mask(n) == 0'. -/
theorem andNot_msk_zero {v : Nat} (hv : v < 18446744073709551616) (n : Nat) : v &&& (18446744073709551615 - msk n) = 0 ↔ v < 2 ^ min n 64 := by
  constructor
  · intro h
    refine Nat.lt_pow_two_of_testBit _ fun i hi => ?_
    by_cases h64 : 64 ≤ i
    · exact testBit_of_lt hv h64
    · have := testBit_andNot v (msk n) i (msk_lt n)
      rw [h, testBit_msk] at this
      simp at this
      by_cases hb : v.testBit i
      · have := this hb (by omega)
        omega
      · simpa using hb
  · intro h
    refine Nat.eq_of_testBit_eq fun i => ?_
    rw [testBit_andNot v (msk n) i (msk_lt n), testBit_msk]
    simp
    intro hb _ 
    by_cases hi : i < min n 64
    · omega
    · rw [Nat.testBit_lt_two_pow (Nat.lt_of_lt_of_le h (Nat.pow_le_pow_right (by decide) (by omega)))] at hb
      cases hb
/-- 'w &^ (mask(n) << a) | v << a'. -/
theorem put_nat {w a n v : Nat} (hw : w < 18446744073709551616) (hv : v < 2 ^ n) (h : a + n ≤ 64) :
    w &&& (18446744073709551615 - (2 ^ n - 1) * 2 ^ a) ||| v * 2 ^ a = putN w a n v := by
  have hm : (2 ^ n - 1) * 2 ^ a < 18446744073709551616 := by
    rw [← two64]
    refine Nat.lt_pow_two_of_testBit _ fun i hi => ?_
    rw [Nat.testBit_mul_two_pow, Nat.testBit_two_pow_sub_one]
    simp
    omega
  refine Nat.eq_of_testBit_eq fun i => ?_
  rw [Nat.testBit_or, testBit_andNot _ _ _ hm, testBit_putN hv, Nat.testBit_mul_two_pow, Nat.testBit_mul_two_pow, Nat.testBit_two_pow_sub_one]
  by_cases h1 : i < a
  · rw [if_pos h1]
    have h2 : ¬ a ≤ i := by omega
    have h3 : i < 64 := by omega
    simp [h2, h3]
  · rw [if_neg h1]
    have h2 : a ≤ i := by omega
    by_cases h3 : i < a + n
    · rw [if_pos h3]
      have h4 : i - a < n := by omega
      simp [h2, h4]
    · rw [if_neg h3]
      have h4 : ¬ i - a < n := by omega
      rw [show v.testBit (i - a) = false from Nat.testBit_lt_two_pow (Nat.lt_of_lt_of_le hv (Nat.pow_le_pow_right (by decide) (by omega)))]
      by_cases h5 : i < 64
      · simp [h4, h5]
      · rw [testBit_of_lt hw (by omega)]; simp
/-- One bit. -/
theorem bit_nat (w i : Nat) : (w / 2 ^ i) &&& 1 = (w.testBit i).toNat := by
  rw [Nat.and_one_is_mod, Nat.testBit_eq_decide_div_mod_eq]
  have := Nat.mod_two_eq_zero_or_one (w / 2 ^ i)
  rcases this with h | h <;> rw [h] <;> rfl
/-- A word is summed up bit by bit. -/
theorem sum_step (T i : Nat) : T % 2 ^ (i + 1) = T % 2 ^ i + (T.testBit i).toNat * 2 ^ i := by
  have h : (T.testBit i).toNat = T / 2 ^ i % 2 := by
    rw [Nat.testBit_eq_decide_div_mod_eq]
    have := Nat.mod_two_eq_zero_or_one (T / 2 ^ i)
    rcases this with h | h <;> rw [h] <;> rfl
  rw [h, Nat.pow_succ, Nat.mod_mul, Nat.mul_comm]
end Go.Proofs.Ytknbeklplmhheaa.Bits
