/- FieldOne: what is put is got, and all bits beside it are as they were. The walk through the statement. -/
import Derived.Test.YtapgkjkncihlkaaField
namespace Go.Proofs.Ytapgkjkncihlkaa.Field
open Go Go.RowKit Go.Proofs.Ytapgkjkncihlkaa.Heap Go.Proofs.Ytapgkjkncihlkaa.Bits

theorem awake_ok (w : World) : Calls Try.prog 13 #[] w fun e w' => e = .returned (.bool true) ∧ w = w' := by
  have h7 : (maskI 3 == 7) = true := by decide
  go_enter Try.func13, Try.ntmps13
  go_wp2_with fail
  refine (mask_ok 3 w).mono ?_
  rintro e w' ⟨rfl, rfl⟩
  go_wp2
  go_ret
  exact ⟨rfl, rfl⟩

set_option maxRecDepth 100000 in
set_option maxHeartbeats 1000000 in
theorem fieldOne_walk (u a n v f k : Int) (w : World) (h0 : 0 ≤ u ∧ u < 18446744073709551616) (hv : 0 ≤ v ∧ v < 18446744073709551616) :
    Calls Try.prog 5 #[.int .u64 u, .int .i64 a, .int .i64 n, .int .u64 v, .int .i64 f, .int .i64 k] w fun e w' => e = .returned (.bool true) ∧ Chg [] w w' := by
  by_cases hp : putB a n v = true
  · have hp2 := hp
    unfold putB at hp2
    rw [Bool.and_eq_true] at hp2
    have hb : 0 ≤ a ∧ 1 ≤ n ∧ a + n ≤ 64 := by simpa [canB] using hp2.1
    obtain ⟨b0, b1, b2⟩ := hb
    have hf := of_decide_eq_true hp2.2
    rw [Nat.min_eq_left (by omega)] at hf
    have e1 : putI u a n v = ((putN u.toNat a.toNat n.toNat v.toNat : Nat) : Int) := by unfold putI; rw [if_pos hp]
    have e2 : putE a n v = 0 := by unfold putE; rw [if_pos hp]
    have hx := putI_bd (a := a) (n := n) (v := v) h0.1 h0.2
    have e3 : getI (putI u a n v) a n = v := by
      unfold getI
      rw [if_pos hp2.1, e1, Int.toNat_natCast, getN_putN hf]
      omega
    have e4 : canE a n = 0 := by unfold canE; rw [if_pos hp2.1]
    have hfar : f + k ≤ a ∨ a + n ≤ f → 0 ≤ f → 0 ≤ k → getI (putI u a n v) f k = getI u f k := by
      intro hd hf0 hk0
      unfold getI
      by_cases hc : canB f k = true
      · rw [if_pos hc, if_pos hc, e1, Int.toNat_natCast, getN_putN_far hf (by omega)]
      · rw [if_neg hc, if_neg hc]
    obtain ⟨x, ex⟩ : ∃ x, putI u a n v = x := ⟨_, rfl⟩
    rw [ex] at hx e3 hfar
    have P := put_ok u a n v h0.1 h0.2 hv.1 hv.2
    rw [ex, e2] at P
    have G := get_ok x a n hx.1 hx.2
    rw [e3, e4] at G
    have HP : Hid _ := P
    have HG : Hid _ := G
    have HF : Hid _ := hfar
    have H0 : Hid (0 ≤ u ∧ u < 18446744073709551616) := h0
    have HX : Hid (0 ≤ x ∧ x < 18446744073709551616) := hx
    clear P G e1 e2 e3 e4 ex hf hp hp2 hfar h0 hv hx
    have z1 : (v != v) = false := by simp
    have hcase : f < 0 ∨ (0 ≤ f ∧ k < 1) ∨ (0 ≤ f ∧ 1 ≤ k ∧ 64 < k) ∨ (0 ≤ f ∧ 1 ≤ k ∧ k ≤ 64 ∧ 64 - k < f) ∨ (0 ≤ f ∧ 1 ≤ k ∧ k ≤ 64 ∧ f ≤ 64 - k ∧ f ≤ a ∧ a - k < f) ∨ (0 ≤ f ∧ 1 ≤ k ∧ k ≤ 64 ∧ f ≤ 64 - k ∧ a < f ∧ f < a + n) ∨
        (0 ≤ f ∧ 1 ≤ k ∧ k ≤ 64 ∧ f ≤ 64 - k ∧ f ≤ a ∧ f ≤ a - k) ∨ (0 ≤ f ∧ 1 ≤ k ∧ k ≤ 64 ∧ f ≤ 64 - k ∧ a < f ∧ a + n ≤ f) := by omega
    rcases hcase with c1 | ⟨c1, c2⟩ | ⟨c1, c2, c3⟩ | ⟨c1, c2, c3, c4⟩ | ⟨c1, c2, c3, c4, c5, c6⟩ | ⟨c1, c2, c3, c4, c5, c6⟩ | ⟨c1, c2, c3, c4, c5, c6⟩ | ⟨c1, c2, c3, c4, c5, c6⟩
    case inr.inr.inr.inr.inr.inr.inl =>
      have HQ : Hid (getI x f k = getI u f k) := HF.out (by omega) (by omega) (by omega)
      obtain ⟨y, hy⟩ : ∃ y, getI u f k = y := ⟨_, rfl⟩
      have G1 := get_ok u f k H0.out.1 H0.out.2
      have G2 := get_ok x f k HX.out.1 HX.out.2
      rw [HQ.out, hy] at G2
      rw [hy] at G1
      have HG1 : Hid _ := G1
      have HG2 : Hid _ := G2
      have z2 : (y == y) = true := by simp
      clear G1 G2 hy HQ
      go_enter Try.func5, Try.ntmps5
      go_wp2_with fail
      refine (HP.out _).mono ?_
      rintro e w1 ⟨rfl, k1, rfl⟩
      go_wp2_with fail
      refine (HG.out _).mono ?_
      rintro e w2 ⟨rfl, k2, rfl⟩
      go_wp2_with fail
      refine (HG1.out _).mono ?_
      rintro e w3 ⟨rfl, k3, rfl⟩
      go_wp2_with fail
      refine (HG2.out _).mono ?_
      rintro e w3 ⟨rfl, k4, rfl⟩
      go_wp2_with fail
      refine (awake_ok _).mono ?_
      rintro e w3 ⟨rfl, rfl⟩
      go_wp2
      go_ret
      exact ⟨rfl, (Chg.refl [] w).drewN _⟩
    case inr.inr.inr.inr.inr.inr.inr =>
      have HQ : Hid (getI x f k = getI u f k) := HF.out (by omega) (by omega) (by omega)
      obtain ⟨y, hy⟩ : ∃ y, getI u f k = y := ⟨_, rfl⟩
      have G1 := get_ok u f k H0.out.1 H0.out.2
      have G2 := get_ok x f k HX.out.1 HX.out.2
      rw [HQ.out, hy] at G2
      rw [hy] at G1
      have HG1 : Hid _ := G1
      have HG2 : Hid _ := G2
      have z2 : (y == y) = true := by simp
      clear G1 G2 hy HQ
      go_enter Try.func5, Try.ntmps5
      go_wp2_with fail
      refine (HP.out _).mono ?_
      rintro e w1 ⟨rfl, k1, rfl⟩
      go_wp2_with fail
      refine (HG.out _).mono ?_
      rintro e w2 ⟨rfl, k2, rfl⟩
      go_wp2_with fail
      refine (HG1.out _).mono ?_
      rintro e w3 ⟨rfl, k3, rfl⟩
      go_wp2_with fail
      refine (HG2.out _).mono ?_
      rintro e w3 ⟨rfl, k4, rfl⟩
      go_wp2_with fail
      refine (awake_ok _).mono ?_
      rintro e w3 ⟨rfl, rfl⟩
      go_wp2
      go_ret
      exact ⟨rfl, (Chg.refl [] w).drewN _⟩
    all_goals
      go_enter Try.func5, Try.ntmps5
      go_wp2_with fail
      refine (HP.out _).mono ?_
      rintro e w1 ⟨rfl, k1, rfl⟩
      go_wp2_with fail
      refine (HG.out _).mono ?_
      rintro e w2 ⟨rfl, k2, rfl⟩
      go_wp2_with fail
      refine (awake_ok _).mono ?_
      rintro e w3 ⟨rfl, rfl⟩
      go_wp2
      go_ret
      exact ⟨rfl, (Chg.refl [] w).drewN _⟩
  · have e1 : putI u a n v = 0 := by unfold putI; rw [if_neg hp]
    have e2 : putE a n v = 1 := by unfold putE; rw [if_neg hp]
    have P := put_ok u a n v h0.1 h0.2 hv.1 hv.2
    rw [e1, e2] at P
    have HP : Hid _ := P
    clear P e1 e2 hp h0 hv
    go_enter Try.func5, Try.ntmps5
    go_wp2_with fail
    refine (HP.out _).mono ?_
    rintro e w1 ⟨rfl, k1, rfl⟩
    go_wp2_with fail
    refine (awake_ok _).mono ?_
    rintro e w3 ⟨rfl, rfl⟩
    go_wp2
    go_ret
    exact ⟨rfl, (Chg.refl [] w).drewN _⟩
end Go.Proofs.Ytapgkjkncihlkaa.Field
