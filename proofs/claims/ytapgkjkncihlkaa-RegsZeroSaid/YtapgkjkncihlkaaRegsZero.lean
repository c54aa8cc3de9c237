/- RegsZero: registers that nobody made have nothing. The walk through the statement. -/
import Derived.Test.YtapgkjkncihlkaaRegs
namespace Go.Proofs.Ytapgkjkncihlkaa.Regs
open Go Go.RowKit Go.Proofs.Ytapgkjkncihlkaa.Heap

set_option maxRecDepth 100000 in
set_option maxHeartbeats 1000000 in
theorem regsZero_walk (i x : Int) (w : World) :
    Calls Try.prog 9 #[.int .i64 i, .int .u64 x] w fun e w' => e = .returned (.bool true) ∧ Chg [] w w' := by
  go_enter Try.func9, Try.ntmps9
  go_wp2_with fail
  refine (get_nil _ _).mono ?_
  rintro e w1 ⟨rfl, rfl⟩
  go_wp2_with fail
  have hz : Blk (w.alloc (.cells #[.int .u64 0, .int .u64 0, .int .u64 0, .int .u64 0, .int .u64 0, .int .u64 0, .int .u64 0, .int .u64 0, .bool false] 62)) w.heap.size 62 _ := Blk.new w 62 #[.int .u64 0, .int .u64 0, .int .u64 0, .int .u64 0, .int .u64 0, .int .u64 0, .int .u64 0, .int .u64 0, .bool false]
  have K0 := (Chg.refl [] w).alloc (.cells #[.int .u64 0, .int .u64 0, .int .u64 0, .int .u64 0, .int .u64 0, .int .u64 0, .int .u64 0, .int .u64 0, .bool false] 62)
  refine (get_zero (hz.cell 8) _).mono ?_
  rintro e w2 ⟨rfl, rfl⟩
  go_wp2_with fail
  refine (set_nil _ _ _).mono ?_
  rintro e w2 ⟨rfl, rfl⟩
  go_wp2_with fail
  refine (load_zero (hz.cell 8) _).mono ?_
  rintro e w2 ⟨rfl, rfl⟩
  go_wp2_with fail
  refine (all_nil _).mono ?_
  rintro e w2 ⟨rfl, rfl⟩
  go_wp2_with fail
  refine (new_fresh _).mono ?_
  rintro e w2 ⟨p, rfl, hp, f2, k2⟩
  have z2 := hz.chg k2 (by simp)
  have K2 : Chg [] w w2 := K0.trans k2 (by simp)
  clear k2 K0 hz
  go_wp2_with fail
  refine (swap_nil _ _).mono ?_
  rintro e w3 ⟨rfl, rfl⟩
  go_wp2_with fail
  refine (new_fresh _).mono ?_
  rintro e w3 ⟨q, rfl, hq, f3, k3⟩
  have z3 := z2.chg k3 (by simp)
  have K3 : Chg [] w w3 := K2.trans k3 (by simp)
  go_wp2_with fail
  refine (swap_zero f3 (z3.cell 8)).mono ?_
  rintro e w4 ⟨rfl, rfl⟩
  go_wp2
  go_ret
  exact ⟨rfl, K3⟩
end Go.Proofs.Ytapgkjkncihlkaa.Regs
