/- Plain facts about '&', '&^' on an int. -/
import Derived.WalkKit
namespace Go.Proofs.Ytbjiecpkalcfeaa.Bits64
open Go Go.RowKit

abbrev bv (x : Int) : BitVec 64 := BitVec.ofInt 64 x
def bi (b : BitVec 64) : Int := IntKind.i64.wrap (b.toNat : Int)
theorem and_bv (x y : Int) : bits .and .i64 x y = bi (bv x &&& bv y) := rfl
theorem andNot_bv (x y : Int) : bits .andNot .i64 x y = bi (bv x &&& ~~~ bv y) := rfl
theorem bi_eq (b : BitVec 64) : bi b = b.toInt := by
  unfold bi
  rw [BitVec.toInt_eq_toNat_cond]
  have := b.isLt
  rw [IntKind.wrap_i64]
  split <;> omega
theorem bv_bi (b : BitVec 64) : bv (bi b) = b := by rw [bi_eq]; exact BitVec.ofInt_toInt
theorem bi_inj {a b : BitVec 64} (h : bi a = bi b) : a = b := by rw [← bv_bi a, ← bv_bi b, h]
theorem bi_bv {x : Int} (h : -9223372036854775808 ≤ x) (h' : x < 9223372036854775808) : bi (bv x) = x := by
  rw [bi_eq, BitVec.toInt_ofInt_eq_self (by decide) (by simpa using h) (by simpa using h')]
theorem bi_zero {b : BitVec 64} : bi b = 0 ↔ b = 0 := ⟨fun h => bi_inj (h.trans (by decide)), fun h => by rw [h]; decide⟩
theorem bi_bd (b : BitVec 64) : -9223372036854775808 ≤ bi b ∧ bi b < 9223372036854775808 := by
  rw [bi_eq]
  have h1 := BitVec.toInt_lt (x := b)
  have h2 := BitVec.le_toInt (x := b)
  simp at h1 h2
  omega
theorem bv_nat {x : Int} (h0 : 0 ≤ x) (h1 : x < 18446744073709551616) : (bv x).toNat = x.toNat := by
  obtain ⟨n, rfl⟩ := Int.eq_ofNat_of_zero_le h0
  unfold bv
  rw [BitVec.ofInt_natCast, BitVec.toNat_ofNat, Int.toNat_natCast]
  exact Nat.mod_eq_of_lt (by omega)
/-- A number that is no more than another, of what is not negative. -/
theorem and_le {p r : Int} (h0 : 0 ≤ p) (h1 : p < 9223372036854775808) : 0 ≤ bits .and .i64 p r ∧ bits .and .i64 p r ≤ p := by
  rw [and_bv, bi]
  have h := BitVec.toNat_and (bv p) (bv r)
  have h2 : (bv p).toNat &&& (bv r).toNat ≤ (bv p).toNat := Nat.and_le_left
  rw [bv_nat h0 (by omega)] at h h2
  rw [h]
  rw [IntKind.wrap_i64]
  omega
theorem sub_iff {k p : BitVec 64} : k &&& ~~~ p = 0 ↔ p &&& k = k := by
  constructor
  · intro h
    refine BitVec.eq_of_getLsbD_eq fun i hi => ?_
    have := congrArg (fun x : BitVec 64 => x.getLsbD i) h
    simp only [BitVec.getLsbD_and, BitVec.getLsbD_not, hi, decide_true, Bool.true_and] at this ⊢
    cases hk : k.getLsbD i <;> cases hp : p.getLsbD i <;> simp [hk, hp] at this ⊢
  · intro h
    refine BitVec.eq_of_getLsbD_eq fun i hi => ?_
    have := congrArg (fun x : BitVec 64 => x.getLsbD i) h
    simp only [BitVec.getLsbD_and, BitVec.getLsbD_not, hi, decide_true, Bool.true_and] at this ⊢
    cases hk : k.getLsbD i <;> cases hp : p.getLsbD i <;> simp [hk, hp] at this ⊢
/-- 'k &^ p == 0' just where 'p & k == k'. -/
theorem andNot_zero {k p : Int} (h : -9223372036854775808 ≤ k) (h' : k < 9223372036854775808) : bits .andNot .i64 k p = 0 ↔ bits .and .i64 p k = k := by
  rw [andNot_bv, and_bv, bi_zero, sub_iff]
  constructor
  · intro e; rw [e, bi_bv h h']
  · intro e; refine bi_inj ?_; rw [e, bi_bv h h']
theorem and_comm (x y : Int) : bits .and .i64 x y = bits .and .i64 y x := by rw [and_bv, and_bv, BitVec.and_comm]
theorem and_assoc (x y z : Int) : bits .and .i64 (bits .and .i64 x y) z = bits .and .i64 x (bits .and .i64 y z) := by
  rw [and_bv, and_bv x y, and_bv y z, and_bv x, bv_bi, bv_bi, BitVec.and_assoc]
/-- What a part of the rights allows all of them do. -/
theorem andNot_part {k p r : Int} (h : bits .andNot .i64 k (bits .and .i64 p r) = 0) : bits .andNot .i64 k p = 0 := by
  rw [andNot_bv, bi_zero, sub_iff, and_bv, bv_bi] at h
  rw [andNot_bv, bi_zero, sub_iff]
  refine BitVec.eq_of_getLsbD_eq fun i hi => ?_
  have := congrArg (fun x : BitVec 64 => x.getLsbD i) h
  simp at this ⊢
  intro hk
  exact (this hk).1
theorem andNot_self_part (p r : Int) : bits .andNot .i64 (bits .and .i64 p r) p = 0 := by
  rw [andNot_bv, bi_zero, sub_iff, and_bv, bv_bi]
  refine BitVec.eq_of_getLsbD_eq fun i hi => ?_
  simp
theorem andNot_trans {a b c : Int} (h : bits .andNot .i64 a b = 0) (h' : bits .andNot .i64 b c = 0) : bits .andNot .i64 a c = 0 := by
  rw [andNot_bv, bi_zero, sub_iff] at *
  refine BitVec.eq_of_getLsbD_eq fun i hi => ?_
  have h1 := congrArg (fun x : BitVec 64 => x.getLsbD i) h
  have h2 := congrArg (fun x : BitVec 64 => x.getLsbD i) h'
  simp at h1 h2 ⊢
  exact fun ha => h2 (h1 ha)
theorem andNot_self (a : Int) : bits .andNot .i64 a a = 0 := by
  rw [andNot_bv, bi_zero, sub_iff, BitVec.and_self]
end Go.Proofs.Ytbjiecpkalcfeaa.Bits64
