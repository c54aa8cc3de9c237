/- CallTells' walk. -/
import Derived.Test.YtdconfciacldmaaCallBack
import Derived.Test.YtdconfciacldmaaRef24w
import Derived.Test.YtdconfciacldmaaRef24g
namespace Go.Proofs.Ytdconfciacldmaa.CallTells
open Go Go.RowKit Go.Proofs.Ytdconfciacldmaa Go.Proofs.Ytdconfciacldmaa.Heap Go.Proofs.Ytdconfciacldmaa.Bits Go.Proofs.Ytdconfciacldmaa.Field Go.Proofs.Ytdconfciacldmaa.Call Go.Proofs.Ytdconfciacldmaa.CallRight Go.Proofs.Ytdconfciacldmaa.CallW Go.Proofs.Ytdconfciacldmaa.CallGet Go.Proofs.Ytdconfciacldmaa.CallNumber Go.Proofs.Ytdconfciacldmaa.CallBack

theorem getKV_form (u : Int) : ∃ n a0 a1 a2 a3 a4, getKV u = callV n a0 a1 a2 a3 a4 := by
  unfold getKV
  split
  · exact ⟨_, _, _, _, _, _, rfl⟩
  · exact ⟨_, _, _, _, _, _, rfl⟩
theorem number_two (s : ByteArray) : ∃ i ok, (∀ w, Calls Try.prog 8 #[.string s] w fun e w' => e = .returned (.tuple #[.int .i64 i, .bool ok]) ∧ Chg [] w w') ∧
    (∀ w, Calls Try.prog 9 #[.string s] w fun e w' => e = .returned (.tuple #[.int .i64 i, .bool ok]) ∧ Chg [] w w') := by
  by_cases h : ∃ k, k < 30 ∧ wordS k = s
  · obtain ⟨k, hk, rfl⟩ := h
    exact ⟨k, true, fun w => number_hit k w hk, fun w => Ref24.numberR_ok _ w k true (.inl ⟨k, hk, rfl, rfl, rfl, fun j hj => slots_differ ⟨k, hk⟩ ⟨j, by omega⟩ hj⟩)⟩
  · have hm : ∀ j, j < 30 → wordS j ≠ s := fun j hj e => h ⟨j, hj, e⟩
    exact ⟨0, false, fun w => number_miss s w hm, fun w => Ref24.numberR_ok s w 0 false (.inr ⟨rfl, rfl, hm⟩)⟩
set_option maxRecDepth 100000 in
set_option maxHeartbeats 4000000 in
theorem callTells_walk (n a0 a1 a2 a3 a4 u m : Int) (s : ByteArray) (w : World) (x0 : a0 < 9223372036854775808) (x1 : a1 < 9223372036854775808) (x2 : a2 < 9223372036854775808) (x3 : a3 < 9223372036854775808) (x4 : a4 < 9223372036854775808) (h0 : 0 ≤ u) (h1 : u < 18446744073709551616) :
    Calls Try.prog 3 #[callV n a0 a1 a2 a3 a4, .int .u64 u, .int .i64 m, .string s] w fun e' w' => e' = .returned (.bool true) ∧ Chg [] w w' := by
  obtain ⟨g, eg⟩ : ∃ g, w.heap.size = g := ⟨_, rfl⟩
  have B := Blk.new' w 24 (callC n a0 a1 a2 a3 a4) eg
  have K := (Chg.refl [] w).alloc (.cells (callC n a0 a1 a2 a3 a4) 24)
  have HP := Lib.hid (fun W => putK_ok n a0 a1 a2 a3 a4 W x0 x1 x2 x3 x4)
  have HPR := Lib.hid (fun W => Ref24w.putR_ok n a0 a1 a2 a3 a4 W x0 x1 x2 x3 x4)
  have HC := Lib.hid (fun W => CallNeeds.check_ok n a0 a1 a2 a3 a4 W x0 x1 x2 x3 x4)
  have HCR := Lib.hid (fun W => Ref24c.checkR_ok n a0 a1 a2 a3 a4 W x0 x1 x2 x3 x4)
  have HG := Lib.hid (fun W => getK_ok u W h0 h1)
  have HGR := Lib.hid (fun W => Ref24g.getR_ok u W h0 h1)
  obtain ⟨y, b0, b1, b2, b3, b4, hy⟩ := getKV_form u
  obtain ⟨i, ok, hN1, hN2⟩ := number_two s
  have HN := Lib.hid hN1
  have HNR := Lib.hid hN2
  have HE := Lib.hid (fun W => Call.needs_ok m W)
  have HER := Lib.hid (fun W => Ref24.needR_ok m W)
  have HW := Lib.hid (fun W => Call.word_ok m W)
  have HWR := Lib.hid (fun W => Ref24.wordR_ok m W)
  rw [hy] at HG HGR
  clear hN1 hN2 hy
  generalize getKE u = ge at *
  generalize putK1 n a0 a1 a2 a3 a4 = pw at *
  generalize errC (rightC n a0 a1 a2 a3 a4) = pe at *
  generalize wordF m = wm at *
  generalize needsF m = nm at *
  have hA : ∀ w, (Op.equalIn 9999 22 (.agg #[.int .i64 b0, .int .i64 b1, .int .i64 b2, .int .i64 b3, .int .i64 b4]) (.agg #[.int .i64 b0, .int .i64 b1, .int .i64 b2, .int .i64 b3, .int .i64 b4])).run Try.prog w = .ok true w := fun w => same_args 9997 b0 b1 b2 b3 b4 w
  clear x0 x1 x2 x3 x4 h0 h1
  obtain ⟨c0, c1, c2, c3, c4, c5⟩ := blk6 B
  go_enter Try.func3, Try.ntmps3
  go_wp2_with fail
  refine Calls.mono (HP.out _) ?_
  rintro e1 w1 ⟨rfl, k1⟩
  replace B := B.chg k1 (by simp)
  replace K := K.trans k1 (by simp)
  clear c0 c1 c2 c3 c4 c5 k1
  obtain ⟨c0, c1, c2, c3, c4, c5⟩ := blk6 B
  go_wp2_with fail
  refine Calls.mono (HPR.out _) ?_
  rintro e1 w2 ⟨rfl, k1⟩
  replace B := B.chg k1 (by simp)
  replace K := K.trans k1 (by simp)
  clear c0 c1 c2 c3 c4 c5 k1
  go_wp2_with fail
  refine Calls.mono (HG.out _) ?_
  rintro e1 w3 ⟨rfl, k1⟩
  replace B := B.chg k1 (by simp)
  replace K := K.trans k1 (by simp)
  clear k1
  obtain ⟨x8, e8⟩ : ∃ x, w3.heap.size = x := ⟨_, rfl⟩
  have B8 := Blk.new' w3 24 (callC y b0 b1 b2 b3 b4) e8
  replace B := B.alloc (.cells (callC y b0 b1 b2 b3 b4) 24)
  replace K := K.alloc (.cells (callC y b0 b1 b2 b3 b4) 24)
  go_wp2_with fail
  refine Calls.mono (HGR.out _) ?_
  rintro e1 w4 ⟨rfl, k1⟩
  replace B := B.chg k1 (by simp)
  replace B8 := B8.chg k1 (by simp)
  replace K := K.trans k1 (by simp)
  clear k1
  obtain ⟨x9, e9⟩ : ∃ x, w4.heap.size = x := ⟨_, rfl⟩
  have B9 := Blk.new' w4 24 (callC y b0 b1 b2 b3 b4) e9
  replace B := B.alloc (.cells (callC y b0 b1 b2 b3 b4) 24)
  replace B8 := B8.alloc (.cells (callC y b0 b1 b2 b3 b4) 24)
  replace K := K.alloc (.cells (callC y b0 b1 b2 b3 b4) 24)
  go_wp2_with fail
  try rw [e8]
  refine Calls.mono (HN.out _) ?_
  rintro e1 w5 ⟨rfl, k1⟩
  replace B := B.chg k1 (by simp)
  replace B8 := B8.chg k1 (by simp)
  replace B9 := B9.chg k1 (by simp)
  replace K := K.trans k1 (by simp)
  clear k1
  go_wp2_with fail
  refine Calls.mono (HNR.out _) ?_
  rintro e1 w6 ⟨rfl, k1⟩
  replace B := B.chg k1 (by simp)
  replace B8 := B8.chg k1 (by simp)
  replace B9 := B9.chg k1 (by simp)
  replace K := K.trans k1 (by simp)
  clear k1
  try rw [e8]
  try rw [e9]
  obtain ⟨c0, c1, c2, c3, c4, c5⟩ := blk6 B
  obtain ⟨d0, d1, d2, d3, d4, d5⟩ := blk6 B8
  obtain ⟨f0, f1, f2, f3, f4, f5⟩ := blk6 B9
  go_wp2
  replace K := K.drew
  replace B := B.drew
  replace B8 := B8.drew
  replace B9 := B9.drew
  clear c0 c1 c2 c3 c4 c5 d0 d1 d2 d3 d4 d5 f0 f1 f2 f3 f4 f5 e8 e9 eg
  go_region_held3 (fun V => V.cell? ⟨g, 0, none⟩ = some (.int .i64 n) ∧ V.cell? ⟨g, 1, none⟩ = some (.int .i64 a0) ∧ V.cell? ⟨g, 2, none⟩ = some (.int .i64 a1) ∧ V.cell? ⟨g, 3, none⟩ = some (.int .i64 a2) ∧ V.cell? ⟨g, 4, none⟩ = some (.int .i64 a3) ∧ V.cell? ⟨g, 5, none⟩ = some (.int .i64 a4) ∧ V.cell? ⟨x8, 0, none⟩ = some (.int .i64 y) ∧ V.cell? ⟨x8, 1, none⟩ = some (.int .i64 b0) ∧ V.cell? ⟨x8, 2, none⟩ = some (.int .i64 b1) ∧ V.cell? ⟨x8, 3, none⟩ = some (.int .i64 b2) ∧ V.cell? ⟨x8, 4, none⟩ = some (.int .i64 b3) ∧ V.cell? ⟨x8, 5, none⟩ = some (.int .i64 b4) ∧ V.cell? ⟨x9, 0, none⟩ = some (.int .i64 y) ∧ V.cell? ⟨x9, 1, none⟩ = some (.int .i64 b0) ∧ V.cell? ⟨x9, 2, none⟩ = some (.int .i64 b1) ∧ V.cell? ⟨x9, 3, none⟩ = some (.int .i64 b2) ∧ V.cell? ⟨x9, 4, none⟩ = some (.int .i64 b3) ∧ V.cell? ⟨x9, 5, none⟩ = some (.int .i64 b4)) (exact ⟨B.cell 0, B.cell 1, B.cell 2, B.cell 3, B.cell 4, B.cell 5, B8.cell 0, B8.cell 1, B8.cell 2, B8.cell 3, B8.cell 4, B8.cell 5, B9.cell 0, B9.cell 1, B9.cell 2, B9.cell 3, B9.cell 4, B9.cell 5⟩)
    (first
      | (go_at_call 10; refine Calls.mono (HC.out _) ?_; rintro e1 w7 ⟨rfl, k1⟩; replace B := B.chg k1 (by simp); replace B8 := B8.chg k1 (by simp); replace B9 := B9.chg k1 (by simp); replace K := K.trans k1 (by simp); clear k1)
      | (go_at_call 11; refine Calls.mono (HCR.out _) ?_; rintro e1 w7 ⟨rfl, k1⟩; replace B := B.chg k1 (by simp); replace B8 := B8.chg k1 (by simp); replace B9 := B9.chg k1 (by simp); replace K := K.trans k1 (by simp); clear k1)
      | (go_at_call 12; refine Calls.mono (HE.out _) ?_; rintro e1 w7 ⟨rfl, k1⟩; replace B := B.chg k1 (by simp); replace B8 := B8.chg k1 (by simp); replace B9 := B9.chg k1 (by simp); replace K := K.trans k1 (by simp); clear k1)
      | (go_at_call 13; refine Calls.mono (HER.out _) ?_; rintro e1 w7 ⟨rfl, k1⟩; replace B := B.chg k1 (by simp); replace B8 := B8.chg k1 (by simp); replace B9 := B9.chg k1 (by simp); replace K := K.trans k1 (by simp); clear k1)
      | (go_at_call 14; refine Calls.mono (HW.out _) ?_; rintro e1 w7 ⟨rfl, k1⟩; replace B := B.chg k1 (by simp); replace B8 := B8.chg k1 (by simp); replace B9 := B9.chg k1 (by simp); replace K := K.trans k1 (by simp); clear k1)
      | (go_at_call 15; refine Calls.mono (HWR.out _) ?_; rintro e1 w7 ⟨rfl, k1⟩; replace B := B.chg k1 (by simp); replace B8 := B8.chg k1 (by simp); replace B9 := B9.chg k1 (by simp); replace K := K.trans k1 (by simp); clear k1)
      | (go_at_call 16; refine Calls.mono (CallNeeds.awake_ok _) ?_; rintro e1 w7 ⟨rfl, k1⟩; replace B := B.chg k1 (by simp); replace B8 := B8.chg k1 (by simp); replace B9 := B9.chg k1 (by simp); replace K := K.trans k1 (by simp); clear k1))
  go_wp2
  go_ret
  exact ⟨rfl, K⟩
end Go.Proofs.Ytdconfciacldmaa.CallTells
