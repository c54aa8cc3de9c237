/- MemZero's walk. -/
import Derived.Test.YtldkaabnoljbkaaProg
import Derived.Test.YtldkaabnoljbkaaHeap
import Derived.WalkKit
import Derived.OwnWalk
namespace Go.Proofs.Ytldkaabnoljbkaa.MemZero
open Go Go.RowKit Go.Proofs.Ytldkaabnoljbkaa Go.Proofs.Ytldkaabnoljbkaa.Heap

set_option maxRecDepth 100000 in
set_option maxHeartbeats 4000000 in
theorem memZero_walk (u : Int) (w : World) : Calls Try.prog 9 #[.int .u64 u] w fun e w' => e = .returned (.bool true) ∧ Chg [] w w' := by
  go_enter Try.func9, Try.ntmps9
  go_wp2
  go_ret
  exact ⟨by first | rfl | simp, (Chg.refl [] w).alloc _⟩
end Go.Proofs.Ytldkaabnoljbkaa.MemZero
