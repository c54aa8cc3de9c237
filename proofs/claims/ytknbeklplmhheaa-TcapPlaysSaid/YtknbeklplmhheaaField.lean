/- What the functions of package field do on one word, each walked once: masks, what fits, what is got and put, signed numbers, halves. -/
import Derived.Test.YtknbeklplmhheaaProg
import Derived.Test.YtknbeklplmhheaaHeap
import Derived.Test.YtknbeklplmhheaaBits
import Derived.WalkKit
import Derived.WalkSpells
import Derived.WalkLawsBesides
import Derived.BigQuiet
import Derived.Deep.QuietTactic
namespace Go.Proofs.Ytknbeklplmhheaa.Field
open Go Go.RowKit Go.Proofs.Ytknbeklplmhheaa.Heap Go.Proofs.Ytknbeklplmhheaa.Bits

theorem ret_int {k : IntKind} {a b : Int} (h : a = b) : Ending.returned (.int k a) = .returned (.int k b) := by rw [h]
theorem ret_bool {a b : Bool} (h : a = b) : Ending.returned (.bool a) = .returned (.bool b) := by rw [h]

theorem ret_two {k l : IntKind} {a b c d : Int} (h : a = c) (h' : b = d) : Ending.returned (.tuple #[.int k a, .int l b]) = .returned (.tuple #[.int k c, .int l d]) := by rw [h, h']

/-- Mask's word. -/
def maskI (n : Int) : Int := ((msk n.toNat : Nat) : Int)

set_option maxRecDepth 100000 in
theorem ones_ok (n : Int) (w : World) : Calls Try.prog 130 #[.int .i64 n] w fun e w' => e = .returned (.int .u64 (maskI n)) ∧ w = w' := by
  by_cases h0 : n ≤ 0
  · have e : maskI n = 0 := by unfold maskI; rw [show n.toNat = 0 by omega]; rfl
    rw [e]
    clear e
    go_enter Try.func130, Try.ntmps130
    go_wp2
    go_ret
    exact ⟨rfl, rfl⟩
  · obtain ⟨m, rfl⟩ := Int.eq_ofNat_of_zero_le (show 0 ≤ n by omega)
    have hd : decide ((m : Int) ≤ 0) = false := decide_eq_false h0
    have hm0 : 0 < m := by omega
    clear h0
    by_cases h64 : (m : Int) ≤ 64
    · have e : maskI m = ((2 ^ m - 1 : Nat) : Int) := by unfold maskI; rw [Int.toNat_natCast, msk_of (by omega)]
      rw [e]
      clear e
      go_enter Try.func130, Try.ntmps130
      go_wp2
      go_loop [3, 8] (fun x i => ∃ (j : Nat) (z : Int), j ≤ m ∧ i = .int .i64 j ∧ x = .int .u64 z ∧ Hid (z = ((2 ^ j - 1 : Nat) : Int))) (fun _ i => m - (intOf i).toNat)
      case atStart => exact ⟨0, 0, Nat.zero_le _, rfl, rfl, rfl⟩
      case round =>
        obtain ⟨j, z, hj, rfl, rfl, hz⟩ := hrel
        by_cases hlt : j < m
        · go_wp2
          go_round
          case rel => exact ⟨j + 1, _, by omega, by go_num, rfl, by rw [hz.out]; exact or_one (by omega)⟩
          case measure => simp [intOf]; omega
        · obtain rfl : j = m := by omega
          go_wp2
          go_ret
          exact ⟨ret_int hz.out, rfl⟩
    · have h64' : 64 < (m : Int) := by omega
      have e : maskI m = ((2 ^ 64 - 1 : Nat) : Int) := by unfold maskI; rw [Int.toNat_natCast, msk_ge (by omega)]
      rw [e]
      clear e h64
      go_enter Try.func130, Try.ntmps130
      go_wp2
      go_loop [3, 8] (fun x i => ∃ (j : Nat) (z : Int), j ≤ 64 ∧ i = .int .i64 j ∧ x = .int .u64 z ∧ Hid (z = ((2 ^ j - 1 : Nat) : Int))) (fun _ i => 64 - (intOf i).toNat)
      case atStart => exact ⟨0, 0, Nat.zero_le _, rfl, rfl, rfl⟩
      case round =>
        obtain ⟨j, z, hj, rfl, rfl, hz⟩ := hrel
        by_cases hlt : j < 64
        · go_wp2
          go_round
          case rel => exact ⟨j + 1, _, by omega, by go_num, rfl, by rw [hz.out]; exact or_one (by omega)⟩
          case measure => simp [intOf]; omega
        · obtain rfl : j = 64 := by omega
          go_wp2
          go_ret
          exact ⟨ret_int hz.out, rfl⟩

theorem mask_ok (n : Int) (w : World) : Calls Try.prog 126 #[.int .i64 n] w fun e w' => e = .returned (.int .u64 (maskI n)) ∧ w = w' := by
  go_enter Try.func126, Try.ntmps126
  go_wp2_with fail
  refine (ones_ok n w).mono ?_
  rintro e w' ⟨rfl, rfl⟩
  go_wp2
  go_ret
  exact ⟨rfl, rfl⟩

theorem mask_q (n : Int) (w : World) : Calls Try.prog 126 #[.int .i64 n] w fun e w' => e = .returned (.int .u64 (maskI n)) ∧ w' = w := (mask_ok n w).mono fun _ _ ⟨h1, h2⟩ => ⟨h1, h2.symm⟩

/-- May n bits stand from a place on? -/
def canB (a n : Int) : Bool := decide (0 ≤ a ∧ 1 ≤ n ∧ a + n ≤ 64)
theorem can_ok (a n : Int) (w : World) : Calls Try.prog 129 #[.int .i64 a, .int .i64 n] w fun e w' => e = .returned (.bool (canB a n)) ∧ w = w' := by
  by_cases h0 : 0 ≤ a
  · by_cases h1 : a ≤ 64
    · by_cases h2 : 1 ≤ n
      · by_cases h3 : n ≤ 64
        · have e : canB a n = decide (a + n ≤ 64) := by unfold canB; simp [h0, h2]
          rw [e]
          clear e
          go_enter Try.func129, Try.ntmps129
          go_wp2
          go_ret
          exact ⟨rfl, rfl⟩
        · have h3' : 64 < n := by omega
          have e : canB a n = false := by unfold canB; simp; omega
          rw [e]
          clear e h3
          go_enter Try.func129, Try.ntmps129
          go_wp2
          go_ret
          exact ⟨rfl, rfl⟩
      · have h2' : n < 1 := by omega
        have e : canB a n = false := by unfold canB; simp; omega
        rw [e]
        clear e h2
        go_enter Try.func129, Try.ntmps129
        go_wp2
        go_ret
        exact ⟨rfl, rfl⟩
    · have h1' : 64 < a := by omega
      have e : canB a n = false := by unfold canB; simp; omega
      rw [e]
      clear e h1
      go_enter Try.func129, Try.ntmps129
      go_wp2
      go_ret
      exact ⟨rfl, rfl⟩
  · have h0' : a < 0 := by omega
    have e : canB a n = false := by unfold canB; simp; omega
    rw [e]
    clear e h0
    go_enter Try.func129, Try.ntmps129
    go_wp2
    go_ret
    exact ⟨rfl, rfl⟩

/-- Has a word no bits but its lowest n? -/
def fitsB (v n : Int) : Bool := decide (v.toNat < 2 ^ min n.toNat 64)
theorem fits_eq {v n : Int} (h0 : 0 ≤ v) (h1 : v < 18446744073709551616) : ((bits .andNot .u64 v (maskI n)) == 0) = fitsB v n := by
  obtain ⟨u, rfl⟩ := Int.eq_ofNat_of_zero_le h0
  unfold maskI fitsB
  rw [u64_andNot_nat _ _ (by omega) (msk_lt _)]
  have := andNot_msk_zero (v := u) (by omega) n.toNat
  rw [Bool.eq_iff_iff]
  simp only [beq_iff_eq, decide_eq_true_eq, Int.toNat_natCast, ← this]
  omega
theorem fits_ok (v n : Int) (h0 : 0 ≤ v) (h1 : v < 18446744073709551616) (w : World) : Calls Try.prog 123 #[.int .u64 v, .int .i64 n] w fun e w' => e = .returned (.bool (fitsB v n)) ∧ w = w' := by
  have e : Hid (((bits .andNot .u64 v (maskI n)) == 0) = fitsB v n) := fits_eq h0 h1
  clear h0 h1
  go_enter Try.func123, Try.ntmps123
  go_wp2_with fail
  refine (mask_ok n w).mono ?_
  rintro e w' ⟨rfl, rfl⟩
  go_wp2
  go_ret
  exact ⟨ret_bool e.out, rfl⟩

/-- What Get answers: n bits from a place on; whether they can be. -/
def getI (w a n : Int) : Int := if canB a n = true then ((getN w.toNat a.toNat n.toNat : Nat) : Int) else 0
def canE (a n : Int) : Int := if canB a n = true then 0 else 1
/-- What Put answers. -/
def putB (a n v : Int) : Bool := canB a n && fitsB v n
def putI (w a n v : Int) : Int := if putB a n v = true then ((putN w.toNat a.toNat n.toNat v.toNat : Nat) : Int) else 0
def putE (a n v : Int) : Int := if putB a n v = true then 0 else 1
theorem put_eq {u v a n : Int} (h0 : 0 ≤ u) (h1 : u < 18446744073709551616) (k0 : 0 ≤ v) (k1 : v < 18446744073709551616) (b0 : 0 ≤ a) (b1 : 1 ≤ n) (b2 : a + n ≤ 64) (hf : v.toNat < 2 ^ n.toNat) :
    bits .or .u64 (bits .andNot .u64 u (IntKind.u64.wrap (maskI n * 2 ^ a.toNat))) (IntKind.u64.wrap (v * 2 ^ a.toNat)) = ((putN u.toNat a.toNat n.toNat v.toNat : Nat) : Int) := by
  obtain ⟨u, rfl⟩ := Int.eq_ofNat_of_zero_le h0
  obtain ⟨v, rfl⟩ := Int.eq_ofNat_of_zero_le k0
  rw [Int.toNat_natCast, Int.toNat_natCast] at *
  have hp := pow_pos' n.toNat
  have hle : (2 : Nat) ^ n.toNat * 2 ^ a.toNat ≤ 18446744073709551616 := by
    rw [← Nat.pow_add]; exact pow_le64 (by omega)
  have hva : v * 2 ^ a.toNat < 18446744073709551616 := Nat.lt_of_lt_of_le (Nat.mul_lt_mul_of_pos_right hf (pow_pos' _)) hle
  have hma : (2 ^ n.toNat - 1) * 2 ^ a.toNat < 18446744073709551616 := Nat.lt_of_lt_of_le (Nat.mul_lt_mul_of_pos_right (by omega) (pow_pos' _)) hle
  unfold maskI
  rw [msk_of (by omega), show ((2 ^ n.toNat - 1 : Nat) : Int) * 2 ^ a.toNat = (((2 ^ n.toNat - 1) * 2 ^ a.toNat : Nat) : Int) by simp, show (v : Int) * 2 ^ a.toNat = ((v * 2 ^ a.toNat : Nat) : Int) by simp,
    IntKind.wrap_u64, IntKind.wrap_u64, show (((2 ^ n.toNat - 1) * 2 ^ a.toNat : Nat) : Int) % 18446744073709551616 = (((2 ^ n.toNat - 1) * 2 ^ a.toNat : Nat) : Int) by omega,
    show ((v * 2 ^ a.toNat : Nat) : Int) % 18446744073709551616 = ((v * 2 ^ a.toNat : Nat) : Int) by omega,
    u64_andNot_nat _ _ (by omega) hma, u64_or_nat _ _ (Nat.lt_of_le_of_lt Nat.and_le_left (by omega)) hva, put_nat (by omega) hf (by omega)]
/-- The bounds of what is answered. -/
theorem getI_bd (w a n : Int) : 0 ≤ getI w a n ∧ getI w a n < 18446744073709551616 := by
  unfold getI
  split
  · rename_i hc
    have hb : 0 ≤ a ∧ 1 ≤ n ∧ a + n ≤ 64 := by simpa [canB] using hc
    have := getN_lt w.toNat a.toNat n.toNat
    have := pow_le64 (show n.toNat ≤ 64 by omega)
    omega
  · omega
theorem putI_bd {w a n v : Int} (h : 0 ≤ w) (h' : w < 18446744073709551616) : 0 ≤ putI w a n v ∧ putI w a n v < 18446744073709551616 := by
  unfold putI
  split
  · rename_i hp
    unfold putB at hp
    rw [Bool.and_eq_true] at hp
    have hb : 0 ≤ a ∧ 1 ≤ n ∧ a + n ≤ 64 := by simpa [canB] using hp.1
    have hf := of_decide_eq_true hp.2
    rw [Nat.min_eq_left (by omega)] at hf
    have := putN_lt (w := w.toNat) (a := a.toNat) (n := n.toNat) (v := v.toNat) (by omega) hf (by omega)
    omega
  · omega
theorem maskI_bd (n : Int) : 0 ≤ maskI n ∧ maskI n < 18446744073709551616 := by
  have := msk_lt n.toNat
  unfold maskI
  omega

/-! ### Signed numbers; halves -/
theorem u64_small {x : Int} (h0 : 0 ≤ x) (h1 : x < 18446744073709551616) : IntKind.u64.wrap x = x := by rw [IntKind.wrap_u64]; omega
theorem w64_small {x : Int} (h0 : -9223372036854775808 ≤ x) (h1 : x < 9223372036854775808) : wrap64 x = x := by unfold wrap64; omega
/-- The lowest n bits, the highest of which counts negative. -/
def sgn (v n : Nat) : Int := if v % 2 ^ n < 2 ^ (n - 1) then ((v % 2 ^ n : Nat) : Int) else ((v % 2 ^ n : Nat) : Int) - ((2 ^ n : Nat) : Int)
def sgnI (v n : Int) : Int := if 1 ≤ n ∧ n ≤ 64 then sgn v.toNat n.toNat else 0

theorem sign_arith {v G H M : Nat} (hH : 1 ≤ H) (hM : M = 2 * H) (hG : M * G = 18446744073709551616) :
    wrap64 (IntKind.u64.wrap ((v : Int) * (G : Int))) / (G : Int) = if v % M < H then ((v % M : Nat) : Int) else ((v % M : Nat) : Int) - (M : Int) := by
  have hG0 : 0 < G := by
    rcases Nat.eq_zero_or_pos G with h | h
    · subst h; simp at hG
    · exact h
  have hHG : H * G = 9223372036854775808 := by
    rw [hM, Nat.mul_assoc] at hG
    omega
  have h1 : IntKind.u64.wrap ((v : Int) * (G : Int)) = ((v % M * G : Nat) : Int) := by
    rw [IntKind.wrap_u64, ← Nat.mul_mod_mul_right, hG]
    simp
  rw [h1]
  by_cases h : v % M < H
  · rw [if_pos h]
    have h2 : v % M * G < 9223372036854775808 := by rw [← hHG]; exact Nat.mul_lt_mul_of_pos_right h hG0
    rw [w64_small (by omega) (by omega), Int.natCast_mul]
    exact Int.mul_ediv_cancel _ (by omega)
  · rw [if_neg h]
    have h2 : 9223372036854775808 ≤ v % M * G := by rw [← hHG]; exact Nat.mul_le_mul_right _ (by omega)
    have h3 : v % M * G < 18446744073709551616 := by rw [← hG]; exact Nat.mul_lt_mul_of_pos_right (Nat.mod_lt _ (by omega)) hG0
    have h4 : wrap64 ((v % M * G : Nat) : Int) = ((v % M * G : Nat) : Int) - 18446744073709551616 := by unfold wrap64; omega
    have h5 : ((v % M * G : Nat) : Int) - 18446744073709551616 = (((v % M : Nat) : Int) - (M : Int)) * (G : Int) := by
      rw [Int.sub_mul, show (M : Int) * (G : Int) = 18446744073709551616 by rw [← Int.natCast_mul, hG]; rfl]
      simp
    rw [h4, h5]
    exact Int.mul_ediv_cancel _ (by omega)
theorem sign_eq {v n : Int} (h0 : 0 ≤ v) (n1 : 1 ≤ n) (n2 : n ≤ 64) : wrap64 (IntKind.u64.wrap (v * 2 ^ (64 - n).toNat)) / 2 ^ (64 - n).toNat = sgnI v n := by
  obtain ⟨v, rfl⟩ := Int.eq_ofNat_of_zero_le h0
  unfold sgnI
  rw [if_pos ⟨n1, n2⟩]
  have e : (2 : Int) ^ (64 - n).toNat = ((2 ^ (64 - n).toNat : Nat) : Int) := by simp
  rw [e]
  refine (sign_arith (v := v) (G := 2 ^ (64 - n).toNat) (H := 2 ^ (n.toNat - 1)) (M := 2 ^ n.toNat) (pow_pos' _) ?_ ?_).trans rfl
  · rw [← Nat.pow_succ']; congr 1; omega
  · rw [← Nat.pow_add, show n.toNat + (64 - n).toNat = 64 by omega]
theorem join_eq {a b : Int} (h0 : 0 ≤ a) (h1 : a < 4294967296) (k0 : 0 ≤ b) (k1 : b < 4294967296) : bits .or .u64 (a * 4294967296) b = a * 4294967296 + b := by
  obtain ⟨a, rfl⟩ := Int.eq_ofNat_of_zero_le h0
  obtain ⟨b, rfl⟩ := Int.eq_ofNat_of_zero_le k0
  rw [show (a : Int) * 4294967296 = ((a * 4294967296 : Nat) : Int) by simp, u64_or_nat _ _ (by omega) (by omega), nat_join 32 _ _ (by omega) (by omega)]
  simp
end Go.Proofs.Ytknbeklplmhheaa.Field
