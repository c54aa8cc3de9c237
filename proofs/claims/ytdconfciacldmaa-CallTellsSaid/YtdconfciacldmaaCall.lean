/- Package call: Needs, Word, right, Check. -/
import Derived.Test.YtdconfciacldmaaCallK
namespace Go.Proofs.Ytdconfciacldmaa.Call
open Go Go.RowKit Go.Proofs.Ytdconfciacldmaa Go.Proofs.Ytdconfciacldmaa.Heap Go.Proofs.Ytdconfciacldmaa.Bits Go.Proofs.Ytdconfciacldmaa.Field

theorem is_ok (n : Int) (w : World) : Calls Try.prog 29 #[.int .i64 n] w fun e w' => e = .returned (.bool (decide (0 ≤ n ∧ n ≤ 29))) ∧ w = w' := by
  by_cases h0 : 0 ≤ n
  · by_cases h1 : n ≤ 29
    · rw [decide_eq_true ⟨h0, h1⟩]
      go_enter Try.func29, Try.ntmps29
      go_wp2
      go_ret
      exact ⟨by first | rfl | (simp; omega), rfl⟩
    · rw [decide_eq_false (by omega)]
      have h1' : decide (n ≤ 29) = false := by simpa using h1
      clear h1
      go_enter Try.func29, Try.ntmps29
      go_wp2
      go_ret
      exact ⟨by first | rfl | (simp; omega), rfl⟩
  · rw [decide_eq_false (by omega)]
    have h0' : n < 0 := by omega
    clear h0
    go_enter Try.func29, Try.ntmps29
    go_wp2
    go_ret
    exact ⟨by first | rfl | (simp; omega), rfl⟩
theorem fld0 (a b : Value) (w : World) : (Instr.field 57 (.agg #[a, b]) 0).run Try.prog w = .ok a w := by kernel_rfl
theorem fld1 (a b : Value) (w : World) : (Instr.field 57 (.agg #[a, b]) 1).run Try.prog w = .ok b w := by kernel_rfl
/-- What a call needs. -/
def needsF (n : Int) : Int := if 0 ≤ n ∧ n ≤ 29 then needsN n.toNat else 0
def wordF (n : Int) : ByteArray := if 0 ≤ n ∧ n ≤ 29 then wordS n.toNat else ⟨#[]⟩
theorem needsF_bd (n : Int) : 0 ≤ needsF n ∧ needsF n ≤ 5 := by
  unfold needsF
  split
  · exact needs_bd _
  · decide
set_option maxRecDepth 100000 in
set_option maxHeartbeats 1000000 in
theorem needs_ok (n : Int) (w : World) : Calls Try.prog 12 #[.int .i64 n] w fun e w' => e = .returned (.int .i64 (needsF n)) ∧ Chg [] w w' := by
  have HI := is_ok n
  unfold needsF
  by_cases h : 0 ≤ n ∧ n ≤ 29
  · rw [if_pos h]
    rw [decide_eq_true h] at HI
    obtain ⟨m, rfl⟩ : ∃ m : Nat, n = m := ⟨n.toNat, by omega⟩
    have hk := Lib.hid kinds_ok
    have hix := kix m (by omega)
    rw [Int.toNat_natCast]
    generalize needsN m = nn at *
    generalize wordS m = ss at *
    generalize kindsC = KC at *
    have h1 := fun (w : World) => fld1 (.string ss) (.int .i64 nn) w
    have h0 := fun (w : World) => fld0 (.string ss) (.int .i64 nn) w
    go_enter Try.func12, Try.ntmps12
    go_wp2_with (first
      | (go_at_call 29; refine Calls.mono (HI _) ?_; rintro e w1 ⟨rfl, rfl⟩)
      | (go_at_call 24; refine Calls.mono (hk.out _) ?_; rintro e w1 ⟨rfl, kk⟩))
    go_ret
    exact ⟨rfl, kk⟩
  · rw [if_neg h]
    rw [decide_eq_false h] at HI
    clear h
    go_enter Try.func12, Try.ntmps12
    go_wp2_with (go_at_call 29; refine Calls.mono (HI _) ?_; rintro e w1 ⟨rfl, rfl⟩)
    go_ret
    exact ⟨rfl, Chg.refl _ _⟩
set_option maxRecDepth 100000 in
set_option maxHeartbeats 1000000 in
theorem word_ok (n : Int) (w : World) : Calls Try.prog 14 #[.int .i64 n] w fun e w' => e = .returned (.string (wordF n)) ∧ Chg [] w w' := by
  have HI := is_ok n
  unfold wordF
  by_cases h : 0 ≤ n ∧ n ≤ 29
  · rw [if_pos h]
    rw [decide_eq_true h] at HI
    obtain ⟨m, rfl⟩ : ∃ m : Nat, n = m := ⟨n.toNat, by omega⟩
    have hk := Lib.hid kinds_ok
    have hix := kix m (by omega)
    rw [Int.toNat_natCast]
    generalize needsN m = nn at *
    generalize wordS m = ss at *
    generalize kindsC = KC at *
    have h1 := fun (w : World) => fld1 (.string ss) (.int .i64 nn) w
    have h0 := fun (w : World) => fld0 (.string ss) (.int .i64 nn) w
    go_enter Try.func14, Try.ntmps14
    go_wp2_with (first
      | (go_at_call 29; refine Calls.mono (HI _) ?_; rintro e w1 ⟨rfl, rfl⟩)
      | (go_at_call 24; refine Calls.mono (hk.out _) ?_; rintro e w1 ⟨rfl, kk⟩))
    go_ret
    exact ⟨rfl, kk⟩
  · rw [if_neg h]
    rw [decide_eq_false h] at HI
    clear h
    go_enter Try.func14, Try.ntmps14
    go_wp2_with (go_at_call 29; refine Calls.mono (HI _) ?_; rintro e w1 ⟨rfl, rfl⟩)
    go_ret
    exact ⟨rfl, Chg.refl _ _⟩
end Go.Proofs.Ytdconfciacldmaa.Call
