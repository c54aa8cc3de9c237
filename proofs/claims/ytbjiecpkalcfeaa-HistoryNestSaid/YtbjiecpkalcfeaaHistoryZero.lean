/- HistoryZero's walk. -/
import Derived.Test.YtbjiecpkalcfeaaProg
import Derived.Test.YtbjiecpkalcfeaaHeap
import Derived.WalkKit
import Derived.OwnWalk
import Derived.WalkSpells
import Derived.Outline
import Derived.BigQuiet
import Derived.Deep.QuietTactic
set_option linter.unusedVariables false
namespace Go.Proofs.Ytbjiecpkalcfeaa.HistoryZero
open Go Go.RowKit Go.Proofs.Ytbjiecpkalcfeaa Go.Proofs.Ytbjiecpkalcfeaa.Heap

set_option maxRecDepth 100000 in
set_option maxHeartbeats 1000000 in
theorem ret_nil {w : World} (t c : Int) : Calls Try.prog 19 #[.pointer none, .int .i64 t] w fun e w' => e = .returned (.tuple #[.int .i64 0, .int .i64 0, .int .i64 13]) ∧ w = w' := by
  go_enter Try.func19, Try.ntmps19
  go_wp2
  go_ret3
  exact ⟨by first | rfl | simp, rfl⟩
set_option maxRecDepth 100000 in
set_option maxHeartbeats 1000000 in
theorem here_zero {w : World} {b : Nat} (hc : w.cell? ⟨b, 0, none⟩ = some (.slice none 0 0)) (t c : Int) : Calls Try.prog 20 #[.pointer (some ⟨b, 0, none⟩), .int .i64 t] w fun e w' => e = .returned (.tuple #[.int .i64 0, .int .i64 13]) ∧ w = w' := by
  go_enter Try.func20, Try.ntmps20
  go_wp2
  go_ret2
  exact ⟨by first | rfl | simp, rfl⟩
set_option maxRecDepth 100000 in
set_option maxHeartbeats 1000000 in
theorem begin_nil {w : World} (t c : Int) : Calls Try.prog 17 #[.pointer none, .int .i64 t, .int .i64 c] w fun e w' => e = .returned (.int .i64 13) ∧ w = w' := by
  go_enter Try.func17, Try.ntmps17
  go_wp2
  go_ret
  exact ⟨by first | rfl | simp, rfl⟩
set_option maxRecDepth 100000 in
set_option maxHeartbeats 1000000 in
theorem call_zero {w : World} {b : Nat} (hc : w.cell? ⟨b, 0, none⟩ = some (.slice none 0 0)) (t c : Int) : Calls Try.prog 18 #[.pointer (some ⟨b, 0, none⟩), .int .i64 t, .int .i64 c, .int .i64 1] w fun e w' => e = .returned (.int .i64 13) ∧ w = w' := by
  go_enter Try.func18, Try.ntmps18
  go_wp2
  go_ret
  exact ⟨by first | rfl | simp, rfl⟩
set_option maxRecDepth 100000 in
set_option maxHeartbeats 1000000 in
theorem end_nil {w : World} (t c : Int) : Calls Try.prog 27 #[.pointer none, .int .i64 t] w fun e w' => e = .returned (.int .i64 13) ∧ w = w' := by
  go_enter Try.func27, Try.ntmps27
  go_wp2
  go_ret
  exact ⟨by first | rfl | simp, rfl⟩
set_option maxRecDepth 100000 in
set_option maxHeartbeats 1000000 in
theorem depth_zero {w : World} {b : Nat} (hc : w.cell? ⟨b, 0, none⟩ = some (.slice none 0 0)) (t c : Int) : Calls Try.prog 21 #[.pointer (some ⟨b, 0, none⟩), .int .i64 t] w fun e w' => e = .returned (.int .i64 0) ∧ w = w' := by
  go_enter Try.func21, Try.ntmps21
  go_wp2
  go_ret
  exact ⟨by first | rfl | simp, rfl⟩
set_option maxRecDepth 100000 in
set_option maxHeartbeats 1000000 in
theorem comps_nil {w : World} (t c : Int) : Calls Try.prog 30 #[.pointer none, .int .i64 t] w fun e w' => e = .returned (.slice none 0 0) ∧ w = w' := by
  go_enter Try.func30, Try.ntmps30
  go_wp2
  go_ret
  exact ⟨by first | rfl | simp, rfl⟩
set_option maxRecDepth 100000 in
set_option maxHeartbeats 1000000 in
theorem begun_zero {w : World} {b : Nat} (hc : w.cell? ⟨b, 0, none⟩ = some (.slice none 0 0)) (t : Int) : Calls Try.prog 62 #[.pointer (some ⟨b, 0, none⟩), .int .i64 t] w fun e w' => e = .returned (.tuple #[.pointer none, .int .i64 13]) ∧ w = w' := by
  go_enter Try.func62, Try.ntmps62
  go_wp2
  go_ret2
  exact ⟨rfl, rfl⟩
set_option maxRecDepth 100000 in
set_option maxHeartbeats 1000000 in
theorem fits_zero {w : World} {b : Nat} (hc : w.cell? ⟨b, 0, none⟩ = some (.slice none 0 0)) (t : Int) : Calls Try.prog 33 #[.pointer (some ⟨b, 0, none⟩), .int .i64 t, .slice none 0 0] w fun e w' => e = .returned (.bool false) ∧ Chg [] w w' := by
  have hc2 : ∀ o o', ((w.alloc o).alloc o').cell? ⟨b, 0, none⟩ = some (.slice none 0 0) := fun o o' => by
    have hb := World.block_lt_of_cell? w _ hc
    rw [World.cell?_alloc_lt _ _ _ (by simp at hb ⊢; omega), World.cell?_alloc_lt _ _ _ hb]
    exact hc
  have hz : ((w.alloc (.cells #[.slice none 0 0] 55)).alloc (.cells #[.bool false] 4)).cell? ⟨w.heap.size + 1, 0, none⟩ = some (.bool false) := (Blk.new' (g := w.heap.size + 1) (w.alloc (.cells #[.slice none 0 0] 55)) _ _ (by simp)).cell 0
  go_enter Try.func33, Try.ntmps33
  go_wp2_with (go_at_call 62; refine Calls.mono (begun_zero (hc2 _ _) t) ?_; rintro e w' ⟨rfl, rfl⟩)
  go_quiet (fail)
  go_wp2
  refine ⟨rfl, .bool false, ?_, rfl, ?_⟩
  · have B := ((Blk.new' (g := w.heap.size + 1) (w.alloc (.cells #[.slice none 0 0] 55)) 4 #[.bool false] (by simp)).drewN nq).set_ 0 (.bool false)
    have q0 := B.cell 0
    simp at q0
    simp [results, go_sem, q0]
  · exact ((((Chg.refl [] w).alloc _).alloc _).drewN _).setCell (p := ⟨w.heap.size + 1, 0, none⟩) (.inr (by simp)) _
end Go.Proofs.Ytbjiecpkalcfeaa.HistoryZero
