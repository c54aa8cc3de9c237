/- A signed number of the lowest n bits of a word has the bits that it was made of, and lies between half of what they count, below 0 and above: the pure statement behind FieldSign. -/
import Derived.Test.YtapgkjkncihlkaaPFieldSignx1
import Derived.Test.YtapgkjkncihlkaaBits
namespace Go.Proofs.Ytapgkjkncihlkaa.Pure
open Go Go.RowKit Go.Proofs.Ytapgkjkncihlkaa.PFieldSign Go.Proofs.YtapgkjkncihlkaaW.PrintWords Go.Proofs.YtapgkjkncihlkaaW.PrintLast Go.Proofs.YtapgkjkncihlkaaW.PrintMore Go.Proofs.Ytapgkjkncihlkaa.Bits

/-! ### The program's bits of words -/
theorem u64_small {x : Int} (h0 : 0 ≤ x) (h1 : x < 18446744073709551616) : IntKind.u64.wrap x = x := by rw [IntKind.wrap_u64]; omega
theorem w64_small {x : Int} (h0 : -9223372036854775808 ≤ x) (h1 : x < 9223372036854775808) : wrap64 x = x := by unfold wrap64; omega

theorem ones_l0 (d : Nat) : ∀ (k j lim : Nat), lim ≤ 64 → j + d = lim → d < k → field_ones_uint64.l0 k ((2 ^ j - 1 : Nat) : Int) (lim : Int) (j : Int) = some ((2 ^ lim - 1 : Nat) : Int) := by
  induction d with
  | zero =>
    intro k j lim hl hj hk
    obtain ⟨k, rfl⟩ : ∃ m, k = m + 1 := ⟨k - 1, by omega⟩
    obtain rfl : j = lim := by omega
    simp only [field_ones_uint64.l0]
    rw [if_neg (by omega)]
  | succ d ih =>
    intro k j lim hl hj hk
    obtain ⟨k, rfl⟩ : ∃ m, k = m + 1 := ⟨k - 1, by omega⟩
    simp only [field_ones_uint64.l0]
    rw [if_pos (by omega), or_one (by omega), w64_small (by omega) (by omega)]
    exact ih k (j + 1) lim hl (by omega) (by omega)

theorem ones_f {k : Nat} (hk : 66 ≤ k) (n : Int) : field_ones_uint64.f k n = some ((msk n.toNat : Nat) : Int) := by
  unfold field_ones_uint64.f
  by_cases h : n ≤ 0
  · rw [if_pos h, show n.toNat = 0 by omega, msk_zero]; rfl
  · rw [if_neg h]
    have h1 : mn n 64 = ((min n.toNat 64 : Nat) : Int) := by unfold mn; split <;> omega
    have := ones_l0 (min n.toNat 64) k 0 (min n.toNat 64) (Nat.min_le_right _ _) (by omega) (by omega)
    rw [h1]
    exact this
theorem mask_f {k : Nat} (hk : 66 ≤ k) (n : Int) : field_Mask.f k n = some ((msk n.toNat : Nat) : Int) := by
  unfold field_Mask.f
  rw [ones_f hk]; rfl
theorem awake_f {k : Nat} (hk : 66 ≤ k) : palanquinlaw01_awake.f k = some true := by
  unfold palanquinlaw01_awake.f
  rw [mask_f hk]; rfl

/-! ### The program's signed numbers -/
/-- The lowest n bits, the highest of which counts negative. -/
def sgn (v n : Nat) : Int := if v % 2 ^ n < 2 ^ (n - 1) then ((v % 2 ^ n : Nat) : Int) else ((v % 2 ^ n : Nat) : Int) - ((2 ^ n : Nat) : Int)

theorem sign_arith {v G H M : Nat} (hH : 1 ≤ H) (hM : M = 2 * H) (hG : M * G = 18446744073709551616) :
    wrap64 (IntKind.u64.wrap ((v : Int) * (G : Int))) / (G : Int) = if v % M < H then ((v % M : Nat) : Int) else ((v % M : Nat) : Int) - (M : Int) := by
  have hG0 : 0 < G := by
    rcases Nat.eq_zero_or_pos G with h | h
    · subst h; simp at hG
    · exact h
  have hHG : H * G = 9223372036854775808 := by
    rw [hM, Nat.mul_assoc] at hG
    omega
  have h1 : IntKind.u64.wrap ((v : Int) * (G : Int)) = ((v % M * G : Nat) : Int) := by
    rw [IntKind.wrap_u64, ← Nat.mul_mod_mul_right, hG]
    simp
  rw [h1]
  by_cases h : v % M < H
  · rw [if_pos h]
    have h2 : v % M * G < 9223372036854775808 := by rw [← hHG]; exact Nat.mul_lt_mul_of_pos_right h hG0
    rw [w64_small (by omega) (by omega), Int.natCast_mul]
    exact Int.mul_ediv_cancel _ (by omega)
  · rw [if_neg h]
    have h2 : 9223372036854775808 ≤ v % M * G := by rw [← hHG]; exact Nat.mul_le_mul_right _ (by omega)
    have h3 : v % M * G < 18446744073709551616 := by rw [← hG]; exact Nat.mul_lt_mul_of_pos_right (Nat.mod_lt _ (by omega)) hG0
    have h4 : wrap64 ((v % M * G : Nat) : Int) = ((v % M * G : Nat) : Int) - 18446744073709551616 := by unfold wrap64; omega
    have h5 : ((v % M * G : Nat) : Int) - 18446744073709551616 = (((v % M : Nat) : Int) - (M : Int)) * (G : Int) := by
      rw [Int.sub_mul, show (M : Int) * (G : Int) = 18446744073709551616 by rw [← Int.natCast_mul, hG]; rfl]
      simp
    rw [h4, h5]
    exact Int.mul_ediv_cancel _ (by omega)

theorem sign_f (v : Nat) (n : Int) (hn1 : 1 ≤ n) (hn2 : n ≤ 64) : field_Sign.f v n = some (sgn v n.toNat) := by
  unfold field_Sign.f
  have hg : wrap64 (64 - n) = 64 - n := w64_small (by omega) (by omega)
  rw [if_neg (by omega), if_neg (by omega), hg, if_pos (by omega)]
  congr 1
  unfold shr shl
  rw [Nat.min_eq_left (by simp only [IntKind.bits]; omega), Nat.min_eq_left (by simp only [IntKind.bits]; omega)]
  have e : (2 : Int) ^ (64 - n).toNat = ((2 ^ (64 - n).toNat : Nat) : Int) := by simp
  rw [e]
  refine (sign_arith (v := v) (G := 2 ^ (64 - n).toNat) (H := 2 ^ (n.toNat - 1)) (M := 2 ^ n.toNat) (pow_pos' _) ?_ ?_).trans rfl
  · rw [← Nat.pow_succ']; congr 1; omega
  · rw [← Nat.pow_add, show n.toNat + (64 - n).toNat = 64 by omega]
theorem sign_0 (v n : Int) (h : n < 1 ∨ 64 < n) : field_Sign.f v n = some 0 := by
  unfold field_Sign.f
  rcases h with h | h
  · rw [if_pos h]
  · by_cases h1 : n < 1
    · rw [if_pos h1]
    · rw [if_neg h1, if_pos h]
theorem sgn_bits (v n : Nat) (h1 : 1 ≤ n) : sgn v n < (2 ^ (n - 1) : Nat) ∧ -((2 ^ (n - 1) : Nat) : Int) ≤ sgn v n ∧ (sgn v n < 0 ↔ 2 ^ (n - 1) ≤ v % 2 ^ n) ∧ sgn v n % ((2 ^ n : Nat) : Int) = ((v % 2 ^ n : Nat) : Int) := by
  have hp : (2 : Nat) ^ n = 2 * 2 ^ (n - 1) := by rw [← Nat.pow_succ']; congr 1; omega
  have h0 := pow_pos' (n - 1)
  have hr := Nat.mod_lt v (pow_pos' n)
  unfold sgn
  generalize v % 2 ^ n = r at *
  generalize 2 ^ (n - 1) = H at *
  rw [hp] at hr ⊢
  split
  · refine ⟨by omega, by omega, by omega, ?_⟩
    rw [Int.emod_eq_of_lt] <;> omega
  · refine ⟨by omega, by omega, by omega, ?_⟩
    rw [Int.sub_emod_right, Int.emod_eq_of_lt] <;> omega

theorem u64_and_mask {x : Int} (h0 : 0 ≤ x) (h1 : x < 18446744073709551616) {n : Nat} (hn : n ≤ 64) : bits .and .u64 x (msk n : Int) = x % ((2 ^ n : Nat) : Int) := by
  rw [and_msk h0 h1, Nat.min_eq_left hn]; simp
theorem FieldSign : palanquinlaw01_FieldSign.Pure := by
  intro v n hv hn
  obtain ⟨v0, v1⟩ := wf_u64 hv
  obtain ⟨n0, n1⟩ := wf_i64 hn
  obtain ⟨v, rfl⟩ := Int.eq_ofNat_of_zero_le v0
  refine ⟨100, ?_⟩
  unfold palanquinlaw01_FieldSign.f
  by_cases hb : 1 ≤ n ∧ n ≤ 64
  · rw [sign_f v n hb.1 hb.2]
    simp only [Option.bind_some]
    rw [if_neg (by omega), show (decide (n > 64)) = false from decide_eq_false (by omega)]
    simp only [palanquinlaw01_FieldSign.j0]
    rw [if_neg Bool.false_ne_true, mask_f (by omega)]
    simp only [Option.bind_some]
    obtain ⟨s1, s2, s3, s4⟩ := sgn_bits v n.toNat (by omega)
    have hle : n.toNat ≤ 64 := by omega
    have hpn := pow_le64 hle
    have hp : (2 : Nat) ^ n.toNat = 2 * 2 ^ (n.toNat - 1) := by rw [← Nat.pow_succ']; congr 1; omega
    have h0 := pow_pos' (n.toNat - 1)
    have hu : IntKind.u64.wrap (sgn v n.toNat) = sgn v n.toNat % 18446744073709551616 := IntKind.wrap_u64 _
    have hd : (((2 ^ n.toNat : Nat) : Int)) ∣ 18446744073709551616 := by
      have : ((2 : Nat) ^ n.toNat) ∣ 2 ^ 64 := Nat.pow_dvd_pow 2 hle
      rw [two64] at this
      exact Int.natCast_dvd_natCast.2 this
    rw [hu, u64_and_mask (Int.emod_nonneg _ (by omega)) (Int.emod_lt_of_pos _ (by omega)) hle, Int.emod_emod_of_dvd _ hd, s4, u64_and_mask v0 v1 hle]
    rw [if_pos (by simp), msk_of hle]
    have hhalf : IntKind.u64.wrap (((2 ^ n.toNat - 1 : Nat) : Int) / 2 + 1) = ((2 ^ (n.toNat - 1) : Nat) : Int) := by
      rw [hp, u64_small] <;> omega
    have hvm : ((v : Int) % ((2 ^ n.toNat : Nat) : Int)) = ((v % 2 ^ n.toNat : Nat) : Int) := by simp
    rw [hhalf, hvm]
    have htop : (decide (sgn v n.toNat < 0) == decide (((v % 2 ^ n.toNat : Nat) : Int) ≥ ((2 ^ (n.toNat - 1) : Nat) : Int))) = true := by
      rw [beq_iff_eq, decide_eq_decide, s3]; omega
    rw [if_pos htop]
    by_cases h64 : n = 64
    · rw [if_pos h64, awake_f (by omega)]; rfl
    · have hlt : (2 : Nat) ^ (n.toNat - 1) ≤ 2 ^ 62 := Nat.pow_le_pow_right (by decide) (by omega)
      rw [show (2 : Nat) ^ 62 = 4611686018427387904 by decide] at hlt
      rw [if_neg h64, w64_small (by omega) (by omega), if_pos s1, w64_small (by omega) (by omega), if_pos s2, awake_f (by omega)]
      rfl
  · rw [sign_0 _ n (by omega)]
    simp only [Option.bind_some]
    have : (if n < 1 then palanquinlaw01_FieldSign.j0 100 (v : Int) n 0 true else palanquinlaw01_FieldSign.j0 100 (v : Int) n 0 (decide (n > 64))) = palanquinlaw01_FieldSign.j0 100 (v : Int) n 0 true := by
      by_cases h1 : n < 1
      · rw [if_pos h1]
      · rw [if_neg h1, show decide (n > 64) = true from decide_eq_true (by omega)]
    rw [this]
    simp only [palanquinlaw01_FieldSign.j0]
    simp only [if_true]
    rw [awake_f (by omega)]
    rfl

end Go.Proofs.Ytapgkjkncihlkaa.Pure
