/- ThdZero's walk. -/
import Derived.Test.YtknbeklplmhheaaThdRegs
namespace Go.Proofs.Ytknbeklplmhheaa.ThdZero
open Go Go.RowKit Go.Proofs.Ytknbeklplmhheaa Go.Proofs.Ytknbeklplmhheaa.Heap Go.Proofs.Ytknbeklplmhheaa.Mem Go.Proofs.Ytknbeklplmhheaa.Two Go.Proofs.Ytknbeklplmhheaa.Head Go.Proofs.Ytknbeklplmhheaa.Thd Go.Proofs.Ytknbeklplmhheaa.ThdRegs

set_option maxRecDepth 100000
set_option maxHeartbeats 4000000
theorem awake_ok (w : World) : Calls Try.prog 18 #[] w fun e w' => e = .returned (.bool true) ∧ Chg [] w w' := by
  have H1 := Lib.hid (ThdPut.check_ok 4 0 0 0 0)
  have H2 := Lib.hid (ThdPut.check_ok 0 0 0 0 0)
  have K := Chg.refl [] w
  go_enter Try.func18, Try.ntmps18
  go_wp2_with fail
  refine Calls.mono (H1.out _) ?_
  rintro e w1 ⟨rfl, k1⟩
  replace K := K.trans k1 (by simp)
  go_wp2_with fail
  refine Calls.mono (H2.out _) ?_
  rintro e w2 ⟨rfl, k2⟩
  replace K := K.trans k2 (by simp)
  go_wp2
  go_ret
  exact ⟨rfl, K⟩
abbrev z9 : Array Value := #[.int .u64 0, .int .u64 0, .int .u64 0, .int .u64 0, .int .u64 0, .int .u64 0, .int .u64 0, .int .u64 0, .bool false]
theorem thdZero_walk (f : Int) (w : World) : Calls Try.prog 4 #[.int .i64 f] w fun e w' => e = .returned (.bool true) ∧ Chg [] w w' := by
  go_enter Try.func4, Try.ntmps4
  go_wp2_with fail
  refine Calls.mono (Mem.new_ok 1 (by decide) (by decide) _) ?_
  rintro e w1 ⟨p, g, rfl, m1, hp, hg, K⟩
  obtain ⟨q, eq⟩ : ∃ q, w1.heap.size = q := ⟨_, rfl⟩
  have Q := Blk.new' w1 40 z9 eq
  replace m1 := m1.alloc (.cells z9 40)
  replace K := K.alloc (.cells z9 40)
  have hqg : q ≠ g := Blk.ne_ Q m1.row (by decide)
  go_wp2_with fail
  refine Calls.mono (ThdPut.make_ok m1 0 0 0 0 0 0) ?_
  rintro e w2 ⟨rfl, m2, k2⟩
  replace Q := Q.chg k2 (by simpa using hqg)
  replace K := K.trans k2 (by intro s hs; right; simp at hs; omega)
  clear k2 m1 m2 hqg
  go_wp2_with fail
  refine Calls.mono (save_nil _ _ _) ?_
  rintro e w3 ⟨rfl, k2⟩
  replace Q := Q.chg k2 (by simp)
  replace K := K.trans k2 (by simp)
  clear k2
  go_wp2_with fail
  refine Calls.mono (load_zero _ _ Q) ?_
  rintro e w4 ⟨rfl, k2⟩
  replace K := K.trans k2 (by simp)
  clear k2 Q
  go_wp2_with fail
  refine Calls.mono (awake_ok _) ?_
  rintro e w5 ⟨rfl, k2⟩
  replace K := K.trans k2 (by simp)
  clear k2
  go_wp2
  go_ret
  exact ⟨rfl, K⟩
end Go.Proofs.Ytknbeklplmhheaa.ThdZero
