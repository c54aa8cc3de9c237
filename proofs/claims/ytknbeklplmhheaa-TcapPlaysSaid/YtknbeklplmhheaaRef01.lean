/- What the functions of the document's answer for bits of words (palanquinref01) do on one word, each walked once. -/
import Derived.Test.YtknbeklplmhheaaField
namespace Go.Proofs.Ytknbeklplmhheaa.Ref01
open Go Go.RowKit Go.Proofs.Ytknbeklplmhheaa.Heap Go.Proofs.Ytknbeklplmhheaa.Bits Go.Proofs.Ytknbeklplmhheaa.Field

/-- Is a bit of a word set? -/
def bitB (w i : Int) : Bool := w.toNat.testBit i.toNat
theorem bit_eq {v i : Int} (h0 : 0 ≤ v) (h1 : v < 18446744073709551616) : ((bits .and .u64 (v / 2 ^ i.toNat) 1) == 1) = bitB v i := by
  obtain ⟨u, rfl⟩ := Int.eq_ofNat_of_zero_le h0
  rw [show (u : Int) / 2 ^ i.toNat = ((u / 2 ^ i.toNat : Nat) : Int) by simp, show (1 : Int) = ((1 : Nat) : Int) from rfl,
    u64_and_nat _ _ (Nat.lt_of_le_of_lt (Nat.div_le_self _ _) (by omega)) (by decide), bit_nat]
  unfold bitB
  rw [Int.toNat_natCast]
  cases (u.testBit i.toNat) <;> rfl
theorem bit_ok (v i : Int) (h0 : 0 ≤ v) (h1 : v < 18446744073709551616) (i0 : 0 ≤ i) (i1 : i ≤ 64) (w : World) : Calls Try.prog 125 #[.int .u64 v, .int .i64 i] w fun e w' => e = .returned (.bool (bitB v i)) ∧ w = w' := by
  have e : Hid (((bits .and .u64 (v / 2 ^ i.toNat) 1) == 1) = bitB v i) := bit_eq h0 h1
  clear h0 h1
  go_enter Try.func125, Try.ntmps125
  go_wp2
  go_ret
  exact ⟨ret_bool e.out, rfl⟩

theorem can_ok (a n : Int) (w : World) : Calls Try.prog 124 #[.int .i64 a, .int .i64 n] w fun e w' => e = .returned (.bool (canB a n)) ∧ w = w' := by
  by_cases h0 : 0 ≤ a
  · by_cases h2 : 1 ≤ n
    · by_cases h3 : n ≤ 64
      · have e : Hid (decide (a ≤ 64 - n) = canB a n) := by
          show _ = _
          unfold canB; simp [h0, h2]; omega
        go_enter Try.func124, Try.ntmps124
        go_wp2
        go_ret
        exact ⟨ret_bool e.out, rfl⟩
      · have h3' : 64 < n := by omega
        have e : canB a n = false := by unfold canB; simp; omega
        rw [e]
        clear e h3
        go_enter Try.func124, Try.ntmps124
        go_wp2
        go_ret
        exact ⟨by simp; try omega, rfl⟩
    · have h2' : n < 1 := by omega
      have e : canB a n = false := by unfold canB; simp; omega
      rw [e]
      clear e h2
      go_enter Try.func124, Try.ntmps124
      go_wp2
      go_ret
      exact ⟨by simp; try omega, rfl⟩
  · have h0' : a < 0 := by omega
    have e : canB a n = false := by unfold canB; simp; omega
    rw [e]
    clear e h0
    go_enter Try.func124, Try.ntmps124
    go_wp2
    go_ret
    exact ⟨by simp; try omega, rfl⟩

theorem wrap_pow {j : Nat} (hj : j < 64) : IntKind.u64.wrap ((2 : Int) ^ j) = ((2 ^ j : Nat) : Int) := by
  have h1 := pow_le64 (show j + 1 ≤ 64 by omega)
  rw [Nat.pow_succ] at h1
  have h0 := pow_pos' j
  rw [show (2 : Int) ^ j = ((2 ^ j : Nat) : Int) by simp, IntKind.wrap_u64]
  omega
theorem sum_mask {j : Nat} (hj : j < 64) : IntKind.u64.wrap (((2 ^ j - 1 : Nat) : Int) + IntKind.u64.wrap ((2 : Int) ^ j)) = ((2 ^ (j + 1) - 1 : Nat) : Int) := by
  have h1 := pow_le64 (show j + 1 ≤ 64 by omega)
  have h0 := pow_pos' j
  rw [wrap_pow hj, IntKind.wrap_u64]
  rw [Nat.pow_succ] at h1 ⊢
  omega
/-- A sum of bits goes on. -/
theorem sum_on {T j : Nat} (hj : j < 64) (hb : T.testBit j = true) : IntKind.u64.wrap (((T % 2 ^ j : Nat) : Int) + IntKind.u64.wrap ((2 : Int) ^ j)) = ((T % 2 ^ (j + 1) : Nat) : Int) := by
  have h1 := pow_le64 (show j + 1 ≤ 64 by omega)
  have h0 := pow_pos' j
  have hm := Nat.mod_lt T h0
  have hs := sum_step T j
  rw [hb] at hs
  rw [wrap_pow hj, IntKind.wrap_u64, hs]
  rw [Nat.pow_succ] at h1
  simp only [Bool.toNat_true, Nat.one_mul]
  omega
theorem sum_off {T j : Nat} (hb : T.testBit j = false) : T % 2 ^ j = T % 2 ^ (j + 1) := by
  have hs := sum_step T j
  rw [hb] at hs
  rw [hs]
  simp

set_option maxRecDepth 100000 in
theorem fits_ok (v n : Int) (h0 : 0 ≤ v) (h1 : v < 18446744073709551616) (w : World) : Calls Try.prog 121 #[.int .u64 v, .int .i64 n] w fun e w' => e = .returned (.bool (fitsB v n)) ∧ w = w' := by
  have hl : v.toNat < 18446744073709551616 := by omega
  have hno : ∀ j : Nat, j < 64 → n ≤ j → bitB v j = true → fitsB v n = false := by
    intro j hj hn hb
    refine decide_eq_false (fun h => ?_)
    have := Nat.testBit_lt_two_pow (x := v.toNat) (i := j) (Nat.lt_of_lt_of_le h (Nat.pow_le_pow_right (by decide) (by omega)))
    unfold bitB at hb
    rw [Int.toNat_natCast, this] at hb
    cases hb
  have hyes : (∀ j : Nat, j < 64 → n ≤ j → bitB v j = false) → fitsB v n = true := by
    intro h
    refine decide_eq_true (Nat.lt_pow_two_of_testBit _ fun i hi => ?_)
    by_cases h64 : 64 ≤ i
    · exact testBit_of_lt hl h64
    · have := h i (by omega) (by omega)
      unfold bitB at this
      rwa [Int.toNat_natCast] at this
  obtain ⟨F, eF⟩ : ∃ F, fitsB v n = F := ⟨_, rfl⟩
  rw [eF] at hno hyes
  rw [eF]
  have HN : Hid _ := hno
  have HY : Hid _ := hyes
  have HB : Hid (∀ j : Nat, j < 64 → ∀ w, Calls Try.prog 125 #[.int .u64 v, .int .i64 j] w fun e w' => e = .returned (.bool (bitB v j)) ∧ w = w') := fun j hj w => bit_ok v j h0 h1 (by omega) (by omega) w
  clear hno hyes eF h0 h1 hl
  go_enter Try.func121, Try.ntmps121
  go_wp2
  go_loop [5] (fun i => ∃ (j : Nat), j ≤ 64 ∧ i = .int .i64 j ∧ Hid (∀ k : Nat, k < j → n ≤ k → bitB v k = false)) (fun i => 64 - (intOf i).toNat)
  case atStart => exact ⟨0, by omega, rfl, fun k hk => absurd hk (by omega)⟩
  case round =>
    obtain ⟨j, hj, rfl, HP⟩ := hrel
    by_cases hlt : j < 64
    · obtain ⟨b, eb⟩ : ∃ b, bitB v j = b := ⟨_, rfl⟩
      have B := HB.out j hlt
      rw [eb] at B
      have HB' : Hid _ := B
      clear B
      have EB : Hid (bitB v j = b) := eb
      clear eb
      cases b
      · have HP' : Hid (∀ k : Nat, k < j + 1 → n ≤ k → bitB v k = false) := by
          intro k hk hn
          rcases Nat.lt_succ_iff_lt_or_eq.1 hk with h | rfl
          · exact HP.out k h hn
          · exact EB.out
        go_wp2_with fail
        refine (HB'.out _).mono ?_
        rintro e w1 ⟨rfl, rfl⟩
        go_wp2
        go_round
        case rel => exact ⟨j + 1, by omega, by go_num, HP'⟩
        case measure => simp [intOf]; omega
      · by_cases hn : n ≤ (j : Int)
        · obtain rfl : F = false := HN.out j hlt hn EB.out
          go_wp2_with fail
          refine (HB'.out _).mono ?_
          rintro e w1 ⟨rfl, rfl⟩
          go_wp2
          go_ret
          exact ⟨rfl, rfl⟩
        · have hn' : (j : Int) < n := by omega
          have HP' : Hid (∀ k : Nat, k < j + 1 → n ≤ k → bitB v k = false) := by
            intro k hk h
            rcases Nat.lt_succ_iff_lt_or_eq.1 hk with h2 | rfl
            · exact HP.out k h2 h
            · omega
          clear hn
          go_wp2_with fail
          refine (HB'.out _).mono ?_
          rintro e w1 ⟨rfl, rfl⟩
          go_wp2
          go_round
          case rel => exact ⟨j + 1, by omega, by go_num, HP'⟩
          case measure => simp [intOf]; omega
    · obtain rfl : j = 64 := by omega
      obtain rfl : F = true := HY.out HP.out
      go_wp2
      go_ret
      exact ⟨rfl, rfl⟩

set_option maxRecDepth 100000 in
theorem get_ok (v a n : Int) (h0 : 0 ≤ v) (h1 : v < 18446744073709551616) (w : World) : Calls Try.prog 120 #[.int .u64 v, .int .i64 a, .int .i64 n] w fun e w' => e = .returned (.tuple #[.int .u64 (getI v a n), .int .i64 (canE a n)]) ∧ w = w' := by
  by_cases hc : canB a n = true
  · have hb : 0 ≤ a ∧ 1 ≤ n ∧ a + n ≤ 64 := by simpa [canB] using hc
    obtain ⟨b0, b1, b2⟩ := hb
    obtain ⟨m, rfl⟩ := Int.eq_ofNat_of_zero_le (show 0 ≤ n by omega)
    have e1 : getI v a m = ((getN v.toNat a.toNat m : Nat) : Int) := by unfold getI; rw [if_pos hc, Int.toNat_natCast]
    have e2 : canE a m = 0 := by unfold canE; rw [if_pos hc]
    rw [e1, e2]
    obtain ⟨T, eT⟩ : ∃ T, getN v.toNat a.toNat m = T := ⟨_, rfl⟩
    have hT : T % 2 ^ m = T := Nat.mod_eq_of_lt (by rw [← eT]; exact getN_lt _ _ _)
    have HT : Hid (T % 2 ^ m = T) := hT
    have HB : Hid (∀ j : Nat, j < m → ∀ w, Calls Try.prog 125 #[.int .u64 v, .int .i64 (a + j)] w fun e w' => e = .returned (.bool (T.testBit j)) ∧ w = w') := by
      intro j hj w
      have := bit_ok v (a + j) h0 h1 (by omega) (by omega) w
      have e : bitB v (a + j) = T.testBit j := by
        unfold bitB
        rw [← eT, testBit_getN, show (a + (j : Int)).toNat = a.toNat + j by omega]
        simp [hj]
      rwa [e] at this
    rw [eT]
    clear e1 e2 eT hT h0 h1
    go_enter Try.func120, Try.ntmps120
    go_wp2_with fail
    refine (can_ok a m w).mono ?_
    rintro e w' ⟨rfl, rfl⟩
    go_wp2_with fail
    go_loop [8, 9] (fun x i => ∃ (j : Nat) (z : Int), j ≤ m ∧ i = .int .i64 j ∧ x = .int .u64 z ∧ Hid (z = ((T % 2 ^ j : Nat) : Int))) (fun _ i => m - (intOf i).toNat)
    case atStart => exact ⟨0, 0, Nat.zero_le _, rfl, rfl, by show (0 : Int) = _; simp [Nat.mod_one]⟩
    case round =>
      obtain ⟨j, z, hj, rfl, rfl, hz⟩ := hrel
      by_cases hlt : j < m
      · have B := HB.out j hlt
        obtain ⟨b, eb⟩ : ∃ b, T.testBit j = b := ⟨_, rfl⟩
        rw [eb] at B
        have HB' : Hid _ := B
        have EB : Hid (T.testBit j = b) := eb
        clear B eb
        cases b
        · go_wp2_with fail
          refine (HB'.out _).mono ?_
          rintro e w1 ⟨rfl, rfl⟩
          go_wp2
          go_round
          case rel => exact ⟨j + 1, _, by omega, by go_num, rfl, by rw [hz.out, sum_off EB.out]; rfl⟩
          case measure => simp [intOf]; omega
        · go_wp2_with fail
          refine (HB'.out _).mono ?_
          rintro e w1 ⟨rfl, rfl⟩
          go_wp2
          go_round
          case rel => exact ⟨j + 1, _, by omega, by go_num, rfl, by rw [hz.out]; exact sum_on (by omega) EB.out⟩
          case measure => simp [intOf]; omega
      · obtain rfl : j = m := by omega
        go_wp2
        go_ret2
        exact ⟨ret_two (by rw [hz.out, HT.out]) rfl, rfl⟩
  · have hc' : canB a n = false := by simpa using hc
    have e1 : getI v a n = 0 := by unfold getI; rw [if_neg hc]
    have e2 : canE a n = 1 := by unfold canE; rw [if_neg hc]
    rw [e1, e2]
    clear e1 e2 hc
    go_enter Try.func120, Try.ntmps120
    go_wp2_with fail
    refine (can_ok a n w).mono ?_
    rintro e w' ⟨rfl, rfl⟩
    go_wp2
    go_ret2
    exact ⟨rfl, rfl⟩

/-- One round of Put's sum: which bit is looked at. -/
theorem put_bit {u a n v : Int} (hc : canB a n = true) (hf : fitsB v n = true) (j : Nat) : (putN u.toNat a.toNat n.toNat v.toNat).testBit j = if a ≤ j ∧ (j : Int) < a + n then bitB v (j - a) else bitB u j := by
  have hb : 0 ≤ a ∧ 1 ≤ n ∧ a + n ≤ 64 := by simpa [canB] using hc
  have hf' := of_decide_eq_true hf
  rw [Nat.min_eq_left (by omega)] at hf'
  rw [testBit_putN hf']
  unfold bitB
  by_cases h1 : (j : Int) < a
  · rw [if_pos (by omega), if_neg (by omega), Int.toNat_natCast]
  · rw [if_neg (by omega)]
    by_cases h2 : (j : Int) < a + n
    · rw [if_pos (by omega), if_pos ⟨by omega, h2⟩, show ((j : Int) - a).toNat = j - a.toNat by omega]
    · rw [if_neg (by omega), if_neg (by omega), Int.toNat_natCast]

set_option maxRecDepth 100000 in
theorem put_ok (u a n v : Int) (h0 : 0 ≤ u) (h1 : u < 18446744073709551616) (k0 : 0 ≤ v) (k1 : v < 18446744073709551616) (w : World) :
    Calls Try.prog 118 #[.int .u64 u, .int .i64 a, .int .i64 n, .int .u64 v] w fun e w' => e = .returned (.tuple #[.int .u64 (putI u a n v), .int .i64 (putE a n v)]) ∧ w = w' := by
  by_cases hc : canB a n = true
  · by_cases hf : fitsB v n = true
    · have hp : putB a n v = true := by unfold putB; rw [hc, hf]; rfl
      have e1 : putI u a n v = ((putN u.toNat a.toNat n.toNat v.toNat : Nat) : Int) := by unfold putI; rw [if_pos hp]
      have e2 : putE a n v = 0 := by unfold putE; rw [if_pos hp]
      have hb : 0 ≤ a ∧ 1 ≤ n ∧ a + n ≤ 64 := by simpa [canB] using hc
      obtain ⟨b0, b1, b2⟩ := hb
      have hf' := of_decide_eq_true hf
      rw [Nat.min_eq_left (by omega)] at hf'
      have hlt := putN_lt (w := u.toNat) (a := a.toNat) (n := n.toNat) (v := v.toNat) (by omega) hf' (by omega)
      have hbit := put_bit (u := u) hc hf
      rw [e1, e2]
      obtain ⟨T, eT⟩ : ∃ T, putN u.toNat a.toNat n.toNat v.toNat = T := ⟨_, rfl⟩
      rw [eT] at hlt hbit
      rw [eT]
      have HT : Hid (T % 2 ^ 64 = T) := Nat.mod_eq_of_lt (by rw [two64]; exact hlt)
      have HBit : Hid _ := hbit
      have HU : Hid (0 ≤ u ∧ u < 18446744073709551616 ∧ 0 ≤ v ∧ v < 18446744073709551616) := ⟨h0, h1, k0, k1⟩
      have F := fits_ok v n k0 k1
      have HF : Hid _ := F
      clear F e1 e2 hp hf' hlt hbit eT h0 h1 k0 k1
      go_enter Try.func118, Try.ntmps118
      go_wp2_with fail
      refine (can_ok a n w).mono ?_
      rintro e w' ⟨rfl, rfl⟩
      go_wp2_with fail
      refine (HF.out w).mono ?_
      rintro e w' ⟨rfl, rfl⟩
      go_wp2_with fail
      go_loop [10, 11] (fun x i => ∃ (j : Nat) (z : Int), j ≤ 64 ∧ i = .int .i64 j ∧ x = .int .u64 z ∧ Hid (z = ((T % 2 ^ j : Nat) : Int))) (fun _ i => 64 - (intOf i).toNat)
      case atStart => exact ⟨0, 0, Nat.zero_le _, rfl, rfl, by show (0 : Int) = _; simp [Nat.mod_one]⟩
      case round =>
        obtain ⟨j, z, hj, rfl, rfl, hz⟩ := hrel
        by_cases hlt : j < 64
        · have hbj := HBit.out j
          obtain ⟨b0', eb0⟩ : ∃ b, bitB u j = b := ⟨_, rfl⟩
          have B0 := bit_ok u j HU.out.1 HU.out.2.1 (by omega) (by omega) w
          rw [eb0] at B0 hbj
          have HB0 : Hid _ := B0
          clear B0 eb0
          by_cases hin : a ≤ j ∧ (j : Int) < a + n
          · obtain ⟨i0, i1⟩ := hin
            rw [if_pos ⟨i0, i1⟩] at hbj
            obtain ⟨b1', eb1⟩ : ∃ b, bitB v (j - a) = b := ⟨_, rfl⟩
            have B1 := bit_ok v (j - a) HU.out.2.2.1 HU.out.2.2.2 (by omega) (by omega) w
            rw [eb1] at B1 hbj
            have HB1 : Hid _ := B1
            have HJ : Hid _ := hbj
            clear B1 eb1 hbj
            cases b1'
            · go_wp2_with fail
              refine Calls.mono HB0.out ?_
              rintro e w1 ⟨rfl, rfl⟩
              go_wp2_with fail
              refine Calls.mono HB1.out ?_
              rintro e w1 ⟨rfl, rfl⟩
              go_wp2
              go_round
              case rel => exact ⟨j + 1, _, by omega, by go_num, rfl, by rw [hz.out, sum_off HJ]; rfl⟩
              case measure => simp [intOf]; omega
            · go_wp2_with fail
              refine Calls.mono HB0.out ?_
              rintro e w1 ⟨rfl, rfl⟩
              go_wp2_with fail
              refine Calls.mono HB1.out ?_
              rintro e w1 ⟨rfl, rfl⟩
              go_wp2
              go_round
              case rel => exact ⟨j + 1, _, by omega, by go_num, rfl, by rw [hz.out]; exact sum_on (by omega) HJ⟩
              case measure => simp [intOf]; omega
          · rw [if_neg hin] at hbj
            have HJ : Hid _ := hbj
            have hin' : (j : Int) < a ∨ (a ≤ j ∧ a + n ≤ j) := by omega
            clear hbj hin
            rcases hin' with i0 | ⟨i0, i1⟩
            all_goals
              cases b0'
              · go_wp2_with fail
                refine Calls.mono HB0.out ?_
                rintro e w1 ⟨rfl, rfl⟩
                go_wp2
                go_round
                case rel => exact ⟨j + 1, _, by omega, by go_num, rfl, by rw [hz.out, sum_off HJ]; rfl⟩
                case measure => simp [intOf]; omega
              · go_wp2_with fail
                refine Calls.mono HB0.out ?_
                rintro e w1 ⟨rfl, rfl⟩
                go_wp2
                go_round
                case rel => exact ⟨j + 1, _, by omega, by go_num, rfl, by rw [hz.out]; exact sum_on (by omega) HJ⟩
                case measure => simp [intOf]; omega
        · obtain rfl : j = 64 := by omega
          go_wp2
          go_ret2
          exact ⟨ret_two (by rw [hz.out, HT.out]) rfl, rfl⟩
    · have hf0 : fitsB v n = false := by simpa using hf
      have hp : ¬ putB a n v = true := by unfold putB; rw [hc, hf0]; simp
      have e1 : putI u a n v = 0 := by unfold putI; rw [if_neg hp]
      have e2 : putE a n v = 1 := by unfold putE; rw [if_neg hp]
      rw [e1, e2]
      clear e1 e2 hp hf
      go_enter Try.func118, Try.ntmps118
      go_wp2_with fail
      refine (can_ok a n w).mono ?_
      rintro e w' ⟨rfl, rfl⟩
      go_wp2_with fail
      refine (fits_ok v n k0 k1 w).mono ?_
      rintro e w' ⟨rfl, rfl⟩
      go_wp2
      go_ret2
      exact ⟨rfl, rfl⟩
  · have hc' : canB a n = false := by simpa using hc
    have hp : ¬ putB a n v = true := by unfold putB; rw [hc']; simp
    have e1 : putI u a n v = 0 := by unfold putI; rw [if_neg hp]
    have e2 : putE a n v = 1 := by unfold putE; rw [if_neg hp]
    rw [e1, e2]
    clear e1 e2 hc hp
    go_enter Try.func118, Try.ntmps118
    go_wp2_with fail
    refine (can_ok a n w).mono ?_
    rintro e w' ⟨rfl, rfl⟩
    go_wp2
    go_ret2
    exact ⟨rfl, rfl⟩

theorem and_mask_eq {v k : Int} (h0 : 0 ≤ v) (h1 : v < 18446744073709551616) (k1 : k ≤ 64) : bits .and .u64 v (maskI k) = ((v.toNat % 2 ^ k.toNat : Nat) : Int) := by
  obtain ⟨v, rfl⟩ := Int.eq_ofNat_of_zero_le h0
  unfold maskI
  rw [u64_and_nat _ _ (by omega) (msk_lt _), and_msk_nat, Nat.min_eq_left (by omega)]
  rfl
theorem sign_no {v n : Int} (h0 : 0 ≤ v) (h1 : v < 18446744073709551616) (n1 : 1 ≤ n) (n2 : n ≤ 64) (hb : bitB v (n - 1) = false) : wrap64 (bits .and .u64 v (maskI (n - 1))) = sgnI v n := by
  have hp := pow_pos' (n - 1).toNat
  have hl : (2 : Nat) ^ (n - 1).toNat ≤ 2 ^ 63 := Nat.pow_le_pow_right (by decide) (by omega)
  rw [show (2 : Nat) ^ 63 = 9223372036854775808 by decide] at hl
  have hm := Nat.mod_lt v.toNat hp
  have hs : v.toNat % 2 ^ (n - 1).toNat = v.toNat % 2 ^ ((n - 1).toNat + 1) := sum_off hb
  rw [show (n - 1).toNat + 1 = n.toNat by omega] at hs
  rw [and_mask_eq h0 h1 (by omega), w64_small (by omega) (by omega)]
  unfold sgnI sgn
  rw [if_pos ⟨n1, n2⟩, if_pos (by rw [← hs, show n.toNat - 1 = (n - 1).toNat by omega]; exact hm), hs]
theorem sign_yes {v n : Int} (h0 : 0 ≤ v) (h1 : v < 18446744073709551616) (n1 : 1 ≤ n) (n2 : n ≤ 64) (hb : bitB v (n - 1) = true) : wrap64 (wrap64 (bits .and .u64 v (maskI (n - 1))) - wrap64 ((2 : Int) ^ (n.toNat - 1))) = sgnI v n := by
  have hp := pow_pos' (n - 1).toNat
  have hl : (2 : Nat) ^ (n - 1).toNat ≤ 2 ^ 63 := Nat.pow_le_pow_right (by decide) (by omega)
  rw [show (2 : Nat) ^ 63 = 9223372036854775808 by decide] at hl
  have hm := Nat.mod_lt v.toNat hp
  have hs := sum_step v.toNat (n - 1).toNat
  unfold bitB at hb
  rw [hb, show (n - 1).toNat + 1 = n.toNat by omega] at hs
  have hpn : (2 : Nat) ^ n.toNat = 2 * 2 ^ (n - 1).toNat := by rw [← Nat.pow_succ']; congr 1; omega
  rw [and_mask_eq h0 h1 (by omega), show (2 : Int) ^ (n.toNat - 1) = ((2 ^ (n - 1).toNat : Nat) : Int) by rw [show n.toNat - 1 = (n - 1).toNat by omega]; simp]
  unfold sgnI sgn
  rw [if_pos ⟨n1, n2⟩, hs, hpn, show n.toNat - 1 = (n - 1).toNat by omega]
  simp only [Bool.toNat_true, Nat.one_mul]
  generalize v.toNat % 2 ^ (n - 1).toNat = r at *
  generalize 2 ^ (n - 1).toNat = H at *
  rw [if_neg (by omega)]
  unfold wrap64
  omega
end Go.Proofs.Ytknbeklplmhheaa.Ref01
