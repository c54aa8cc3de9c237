/- CallBack's walk. -/
import Derived.Test.YtdconfciacldmaaCallNumber
import Derived.Test.YtdconfciacldmaaCallNeeds
namespace Go.Proofs.Ytdconfciacldmaa.CallBack
open Go Go.RowKit Go.Proofs.Ytdconfciacldmaa Go.Proofs.Ytdconfciacldmaa.Heap Go.Proofs.Ytdconfciacldmaa.Bits Go.Proofs.Ytdconfciacldmaa.Field Go.Proofs.Ytdconfciacldmaa.Call Go.Proofs.Ytdconfciacldmaa.CallRight Go.Proofs.Ytdconfciacldmaa.CallW Go.Proofs.Ytdconfciacldmaa.CallGet Go.Proofs.Ytdconfciacldmaa.CallNumber

theorem get_word {n a0 a1 a2 a3 a4 : Int} (h : rightC n a0 a1 a2 a3 a4 = true) : (0 ≤ callWord n a0 a1 a2 a3 a4 ∧ callWord n a0 a1 a2 a3 a4 < 18446744073709551616) ∧ getKV (callWord n a0 a1 a2 a3 a4) = callV n a0 a1 a2 a3 a4 ∧ getKE (callWord n a0 a1 a2 a3 a4) = 0 := by
  have hs := right_bd h
  have hw : 0 ≤ callWord n a0 a1 a2 a3 a4 ∧ callWord n a0 a1 a2 a3 a4 < 18446744073709551616 := by unfold callWord; omega
  have e0 : callWord n a0 a1 a2 a3 a4 % 256 = n := by unfold callWord; omega
  have e1 : callWord n a0 a1 a2 a3 a4 / 256 % 256 = a0 := by unfold callWord; omega
  have e2 : callWord n a0 a1 a2 a3 a4 / 65536 % 65536 = a1 := by unfold callWord; omega
  have e3 : callWord n a0 a1 a2 a3 a4 / 4294967296 % 65536 = a2 := by unfold callWord; omega
  have e4 : callWord n a0 a1 a2 a3 a4 / 281474976710656 % 256 = a3 := by unfold callWord; omega
  have e5 : callWord n a0 a1 a2 a3 a4 / 72057594037927936 % 256 = a4 := by unfold callWord; omega
  have hok : getKok (callWord n a0 a1 a2 a3 a4) = true := by
    unfold getKok
    rw [e0, e1, e2, e3, e4, e5, h]
  refine ⟨hw, ?_, ?_⟩
  · unfold getKV; rw [hok, e0, e1, e2, e3, e4, e5]; exact if_pos rfl
  · unfold getKE; rw [hok]; exact if_pos rfl
theorem word_get {u : Int} (h0 : 0 ≤ u) (h1 : u < 18446744073709551616) (h : getKok u = true) : ∃ n a0 a1 a2 a3 a4, getKV u = callV n a0 a1 a2 a3 a4 ∧ getKE u = 0 ∧ rightC n a0 a1 a2 a3 a4 = true ∧ callWord n a0 a1 a2 a3 a4 = u ∧ (a0 < 9223372036854775808 ∧ a1 < 9223372036854775808 ∧ a2 < 9223372036854775808 ∧ a3 < 9223372036854775808 ∧ a4 < 9223372036854775808) := by
  have h' := h
  unfold getKok at h'
  refine ⟨_, _, _, _, _, _, if_pos h, if_pos h, h', ?_, ?_⟩
  · unfold callWord
    omega
  · omega
/-- The last part of the law: a word is read, and put again. -/
theorem number_any (n : Int) : ∃ i ok, (∀ w, Calls Try.prog 8 #[.string (wordF n)] w fun e w' => e = .returned (.tuple #[.int .i64 i, .bool ok]) ∧ Chg [] w w') ∧ (0 ≤ n → n ≤ 29 → i = n ∧ ok = true) := by
  by_cases h : 0 ≤ n ∧ n ≤ 29
  · refine ⟨n, true, fun w => ?_, fun _ _ => ⟨rfl, rfl⟩⟩
    have := number_hit n.toNat w (by omega)
    unfold wordF
    rw [if_pos h]
    rw [show ((n.toNat : Nat) : Int) = n by omega] at this
    exact this
  · refine ⟨0, false, fun w => ?_, fun a b => absurd ⟨a, b⟩ h⟩
    unfold wordF
    rw [if_neg h]
    exact number_miss _ w (fun j hj => slots_full ⟨j, hj⟩)
theorem und_args : Try.prog.underlying 22 = some (.array 5 3) := by kernel_rfl
theorem und_int : Try.prog.underlying 3 = some (.int .i64) := by kernel_rfl
theorem same_args (d : Nat) (a0 a1 a2 a3 a4 : Int) (w : World) : (Op.equalIn (d + 2) 22 (.agg #[.int .i64 a0, .int .i64 a1, .int .i64 a2, .int .i64 a3, .int .i64 a4]) (.agg #[.int .i64 a0, .int .i64 a1, .int .i64 a2, .int .i64 a3, .int .i64 a4])).run Try.prog w = .ok true w := by
  have hz : ∀ w, (Go.sizeOf 3).run Try.prog w = .ok 1 w := fun w => by kernel_rfl
  have p0 : ∀ w, (part 3 #[.int .i64 a0, .int .i64 a1, .int .i64 a2, .int .i64 a3, .int .i64 a4] 0).run Try.prog w = .ok (.int .i64 a0) w := fun w => by kernel_rfl
  have p1 : ∀ w, (part 3 #[.int .i64 a0, .int .i64 a1, .int .i64 a2, .int .i64 a3, .int .i64 a4] 1).run Try.prog w = .ok (.int .i64 a1) w := fun w => by kernel_rfl
  have p2 : ∀ w, (part 3 #[.int .i64 a0, .int .i64 a1, .int .i64 a2, .int .i64 a3, .int .i64 a4] 2).run Try.prog w = .ok (.int .i64 a2) w := fun w => by kernel_rfl
  have p3 : ∀ w, (part 3 #[.int .i64 a0, .int .i64 a1, .int .i64 a2, .int .i64 a3, .int .i64 a4] 3).run Try.prog w = .ok (.int .i64 a3) w := fun w => by kernel_rfl
  have p4 : ∀ w, (part 3 #[.int .i64 a0, .int .i64 a1, .int .i64 a2, .int .i64 a3, .int .i64 a4] 4).run Try.prog w = .ok (.int .i64 a4) w := fun w => by kernel_rfl
  have q := fun x w => run_equalIn_int w d 3 .i64 .i64 x x und_int
  rw [Op.equalIn]
  simp [run_underlying und_args, hz, p0, p1, p2, p3, p4, q, Std.Legacy.Range.forIn_eq_forIn_range', Std.Legacy.Range.size, List.range']
theorem same_call (n a0 a1 a2 a3 a4 : Int) (w : World) : (binOp .neq 24 (callV n a0 a1 a2 a3 a4) (callV n a0 a1 a2 a3 a4)).run Try.prog w = .ok (.bool false) w := by
  have hA : ∀ w, (Op.equalIn 9999 22 (.agg #[.int .i64 a0, .int .i64 a1, .int .i64 a2, .int .i64 a3, .int .i64 a4]) (.agg #[.int .i64 a0, .int .i64 a1, .int .i64 a2, .int .i64 a3, .int .i64 a4])).run Try.prog w = .ok true w := fun w => same_args 9997 a0 a1 a2 a3 a4 w
  simp [go_sem, hA]
theorem same_zero (w : World) : (binOp .eql 24 (callV 0 0 0 0 0 0) (callV 0 0 0 0 0 0)).run Try.prog w = .ok (.bool true) w := by
  have hA : ∀ w, (Op.equalIn 9999 22 (.agg #[.int .i64 0, .int .i64 0, .int .i64 0, .int .i64 0, .int .i64 0]) (.agg #[.int .i64 0, .int .i64 0, .int .i64 0, .int .i64 0, .int .i64 0])).run Try.prog w = .ok true w := fun w => same_args 9997 0 0 0 0 0 w
  simp [go_sem, hA]
end Go.Proofs.Ytdconfciacldmaa.CallBack
