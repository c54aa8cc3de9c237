/- HistoryZero's walk. -/
import Derived.Test.YtdlaiohoofbplaaProg
import Derived.Test.YtdlaiohoofbplaaHeap
import Derived.WalkKit
import Derived.OwnWalk
import Derived.WalkSpells
import Derived.Outline
import Derived.BigQuiet
import Derived.Deep.QuietTactic
set_option linter.unusedVariables false
namespace Go.Proofs.Ytdlaiohoofbplaa.HistoryZero
open Go Go.RowKit Go.Proofs.Ytdlaiohoofbplaa Go.Proofs.Ytdlaiohoofbplaa.Heap

set_option maxRecDepth 100000 in
set_option maxHeartbeats 1000000 in
theorem ret_nil {w : World} (t c : Int) : Calls Try.prog 52 #[.pointer none, .int .i64 t] w fun e w' => e = .returned (.tuple #[.int .i64 0, .int .i64 0, .int .i64 13]) ∧ w = w' := by
  go_enter Try.func52, Try.ntmps52
  go_wp2
  go_ret3
  exact ⟨by first | rfl | simp, rfl⟩
set_option maxRecDepth 100000 in
set_option maxHeartbeats 1000000 in
theorem here_zero {w : World} {b : Nat} (hc : w.cell? ⟨b, 0, none⟩ = some (.slice none 0 0)) (t c : Int) : Calls Try.prog 53 #[.pointer (some ⟨b, 0, none⟩), .int .i64 t] w fun e w' => e = .returned (.tuple #[.int .i64 0, .int .i64 13]) ∧ w = w' := by
  go_enter Try.func53, Try.ntmps53
  go_wp2
  go_ret2
  exact ⟨by first | rfl | simp, rfl⟩
set_option maxRecDepth 100000 in
set_option maxHeartbeats 1000000 in
theorem begin_nil {w : World} (t c : Int) : Calls Try.prog 50 #[.pointer none, .int .i64 t, .int .i64 c] w fun e w' => e = .returned (.int .i64 13) ∧ w = w' := by
  go_enter Try.func50, Try.ntmps50
  go_wp2
  go_ret
  exact ⟨by first | rfl | simp, rfl⟩
set_option maxRecDepth 100000 in
set_option maxHeartbeats 1000000 in
theorem call_zero {w : World} {b : Nat} (hc : w.cell? ⟨b, 0, none⟩ = some (.slice none 0 0)) (t c : Int) : Calls Try.prog 51 #[.pointer (some ⟨b, 0, none⟩), .int .i64 t, .int .i64 c, .int .i64 1] w fun e w' => e = .returned (.int .i64 13) ∧ w = w' := by
  go_enter Try.func51, Try.ntmps51
  go_wp2
  go_ret
  exact ⟨by first | rfl | simp, rfl⟩
set_option maxRecDepth 100000 in
set_option maxHeartbeats 1000000 in
theorem end_nil {w : World} (t c : Int) : Calls Try.prog 56 #[.pointer none, .int .i64 t] w fun e w' => e = .returned (.int .i64 13) ∧ w = w' := by
  go_enter Try.func56, Try.ntmps56
  go_wp2
  go_ret
  exact ⟨by first | rfl | simp, rfl⟩
set_option maxRecDepth 100000 in
set_option maxHeartbeats 1000000 in
theorem depth_zero {w : World} {b : Nat} (hc : w.cell? ⟨b, 0, none⟩ = some (.slice none 0 0)) (t c : Int) : Calls Try.prog 54 #[.pointer (some ⟨b, 0, none⟩), .int .i64 t] w fun e w' => e = .returned (.int .i64 0) ∧ w = w' := by
  go_enter Try.func54, Try.ntmps54
  go_wp2
  go_ret
  exact ⟨by first | rfl | simp, rfl⟩
set_option maxRecDepth 100000 in
set_option maxHeartbeats 1000000 in
theorem comps_nil {w : World} (t c : Int) : Calls Try.prog 57 #[.pointer none, .int .i64 t] w fun e w' => e = .returned (.slice none 0 0) ∧ w = w' := by
  go_enter Try.func57, Try.ntmps57
  go_wp2
  go_ret
  exact ⟨by first | rfl | simp, rfl⟩
set_option maxRecDepth 100000 in
set_option maxHeartbeats 1000000 in
theorem begun_zero {w : World} {b : Nat} (hc : w.cell? ⟨b, 0, none⟩ = some (.slice none 0 0)) (t : Int) : Calls Try.prog 105 #[.pointer (some ⟨b, 0, none⟩), .int .i64 t] w fun e w' => e = .returned (.tuple #[.pointer none, .int .i64 13]) ∧ w = w' := by
  go_enter Try.func105, Try.ntmps105
  go_wp2
  go_ret2
  exact ⟨rfl, rfl⟩
set_option maxRecDepth 100000 in
set_option maxHeartbeats 1000000 in
theorem fits_zero {w : World} {b : Nat} (hc : w.cell? ⟨b, 0, none⟩ = some (.slice none 0 0)) (t : Int) : Calls Try.prog 58 #[.pointer (some ⟨b, 0, none⟩), .int .i64 t, .slice none 0 0] w fun e w' => e = .returned (.bool false) ∧ Chg [] w w' := by
  have hc2 : ∀ o o', ((w.alloc o).alloc o').cell? ⟨b, 0, none⟩ = some (.slice none 0 0) := fun o o' => by
    have hb := World.block_lt_of_cell? w _ hc
    rw [World.cell?_alloc_lt _ _ _ (by simp at hb ⊢; omega), World.cell?_alloc_lt _ _ _ hb]
    exact hc
  have hz : ((w.alloc (.cells #[.slice none 0 0] 109)).alloc (.cells #[.bool false] 4)).cell? ⟨w.heap.size + 1, 0, none⟩ = some (.bool false) := (Blk.new' (g := w.heap.size + 1) (w.alloc (.cells #[.slice none 0 0] 109)) _ _ (by simp)).cell 0
  go_enter Try.func58, Try.ntmps58
  go_wp2_with (go_at_call 105; refine Calls.mono (begun_zero (hc2 _ _) t) ?_; rintro e w' ⟨rfl, rfl⟩)
  go_quiet (fail)
  go_wp2
  refine ⟨rfl, .bool false, ?_, rfl, ?_⟩
  · have B := ((Blk.new' (g := w.heap.size + 1) (w.alloc (.cells #[.slice none 0 0] 109)) 4 #[.bool false] (by simp)).drewN nq).set_ 0 (.bool false)
    have q0 := B.cell 0
    simp at q0
    simp [results, go_sem, q0]
  · exact ((((Chg.refl [] w).alloc _).alloc _).drewN _).setCell (p := ⟨w.heap.size + 1, 0, none⟩) (.inr (by simp)) _
set_option maxRecDepth 100000 in
set_option maxHeartbeats 4000000 in
theorem historyZero_walk (t c : Int) (w : World) : Calls Try.prog 12 #[.int .i64 t, .int .i64 c] w fun e w' => e = .returned (.bool true) ∧ Chg [] w w' := by
  have hc : (w.alloc (.cells #[.slice none 0 0] 104)).cell? ⟨w.heap.size, 0, none⟩ = some (.slice none 0 0) := (Blk.new w _ _).cell 0
  go_enter Try.func12, Try.ntmps12
  go_wp2_with (first
    | (go_at_call 52; refine Calls.mono (ret_nil t c) ?_; rintro e w' ⟨rfl, rfl⟩)
    | (go_at_call 53; refine Calls.mono (here_zero hc t c) ?_; rintro e w' ⟨rfl, rfl⟩)
    | (go_at_call 50; refine Calls.mono (begin_nil t c) ?_; rintro e w' ⟨rfl, rfl⟩)
    | (go_at_call 51; refine Calls.mono (call_zero hc t c) ?_; rintro e w' ⟨rfl, rfl⟩)
    | (go_at_call 56; refine Calls.mono (end_nil t c) ?_; rintro e w' ⟨rfl, rfl⟩)
    | (go_at_call 54; refine Calls.mono (depth_zero hc t c) ?_; rintro e w' ⟨rfl, rfl⟩)
    | (go_at_call 57; refine Calls.mono (comps_nil t c) ?_; rintro e w' ⟨rfl, rfl⟩)
    | (go_at_call 58; refine Calls.mono (fits_zero hc t) ?_; rintro e w' ⟨rfl, k⟩))
  go_ret
  exact ⟨by first | rfl | simp, ((Chg.refl [] w).alloc _).trans k (by simp)⟩
end Go.Proofs.Ytdlaiohoofbplaa.HistoryZero
