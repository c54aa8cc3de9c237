/- PteTells' walk. -/
import Derived.Test.YtddjkejliogenaaPteRef
import Derived.Test.YtddjkejliogenaaPteLess
namespace Go.Proofs.Ytddjkejliogenaa.PteTells
open Go Go.RowKit Go.Proofs.Ytddjkejliogenaa Go.Proofs.Ytddjkejliogenaa.Heap Go.Proofs.Ytddjkejliogenaa.Bits Go.Proofs.Ytddjkejliogenaa.Field Go.Proofs.Ytddjkejliogenaa.Pte Go.Proofs.Ytddjkejliogenaa.PteW

theorem getV_form (u : Int) : ∃ on f r t, getV u = pteV on f r t := by
  unfold getV
  split
  · exact ⟨_, _, _, _, rfl⟩
  · exact ⟨_, _, _, _, rfl⟩

set_option maxRecDepth 100000 in
set_option maxHeartbeats 4000000 in
theorem pteTells_walk (on : Bool) (f r t u k fl : Int) (w : World) (h0 : 0 ≤ u) (h1 : u < 18446744073709551616) (k0 : -9223372036854775808 ≤ k) (k1 : k < 9223372036854775808) : Calls Try.prog 5 #[pteV on f r t, .int .u64 u, .int .i64 k, .int .i64 fl] w fun e w' => e = .returned (.bool true) ∧ Chg [] w w' := by
  obtain ⟨g, eg⟩ : ∃ g, w.heap.size = g := ⟨_, rfl⟩
  have B := Blk.new' w 23 (pteC on f r t) eg
  have K := (Chg.refl [] w).alloc (.cells (pteC on f r t) 23)
  obtain ⟨on1, f1, r1, t1, e1⟩ := getV_form u
  obtain ⟨on2, f2, r2, t2, e2⟩ : ∃ on' f' r' t', (if lessOk on f r t k then pteV on f (bits .and .i64 r k) t else pteV false 0 0 0) = pteV on' f' r' t' := by
    split
    · exact ⟨_, _, _, _, rfl⟩
    · exact ⟨_, _, _, _, rfl⟩
  have P1 := putW_ok on f r t
  have P2 := PteRef.putW_ok on f r t
  have G1 := fun W => getW_ok u W h0 h1
  have G2 := fun W => PteRef.getW_ok u W h0 h1
  have L1 := less_ok on f r t k
  have L2 := PteRef.less_ok on f r t k
  have C1 := check_ok on f r t
  have C2 := PteRef.check_ok on f r t
  have A1 := allows_ok on f r t k
  have A2 := fun W => PteRef.allows_ok on f r t k W k0 k1
  have Q1 := quiet_ok on f r t fl
  have Q2 := PteRef.quiet_ok on f r t fl
  rw [e1] at G1 G2
  rw [e2] at L1 L2
  clear e1 e2 k0 k1 h0 h1
  generalize putWord on f r t = pw at P1 P2
  generalize rightB on f r t = R at P1 P2 C1 C2
  generalize errB R = E at P1 P2 C1 C2
  generalize getE u = ge at G1 G2
  generalize lessOk on f r t k = L at L1 L2
  generalize errB L = le at L1 L2
  generalize allowsB on f r t k = al at A1 A2
  generalize quietB on f r t fl = qu at Q1 Q2
  have HP1 : Hid _ := P1
  have HP2 : Hid _ := P2
  have HG1 : Hid _ := G1
  have HG2 : Hid _ := G2
  have HL1 : Hid _ := L1
  have HL2 : Hid _ := L2
  have HC1 : Hid _ := C1
  have HC2 : Hid _ := C2
  have HA1 : Hid _ := A1
  have HA2 : Hid _ := A2
  have HQ1 : Hid _ := Q1
  have HQ2 : Hid _ := Q2
  clear P1 P2 G1 G2 L1 L2 C1 C2 A1 A2 Q1 Q2
  go_enter Try.func5, Try.ntmps5
  go_wp2_with fail
  refine Calls.mono (HP1.out _) ?_
  rintro e w1 ⟨rfl, k1⟩
  replace B := B.chg k1 (by simp)
  replace K := K.trans k1 (by simp)
  clear k1
  obtain ⟨c0, c1, c2, c3⟩ := blk4 B
  go_wp2_with fail
  refine Calls.mono (HP2.out _) ?_
  rintro e w2 ⟨rfl, k1⟩
  replace B := B.chg k1 (by simp)
  replace K := K.trans k1 (by simp)
  clear k1 c0 c1 c2 c3
  go_wp2_with fail
  refine Calls.mono (HG1.out _) ?_
  rintro e w3 ⟨rfl, k1⟩
  replace B := (B.chg k1 (by simp)).alloc (.cells (pteC on1 f1 r1 t1) 23)
  replace K := (K.trans k1 (by simp)).alloc (.cells (pteC on1 f1 r1 t1) 23)
  obtain ⟨b3, e3⟩ : ∃ b, w3.heap.size = b := ⟨_, rfl⟩
  have D3 := Blk.new' w3 23 (pteC on1 f1 r1 t1) e3
  clear k1
  go_wp2_with fail
  refine Calls.mono (HG2.out _) ?_
  rintro e w4 ⟨rfl, k1⟩
  replace B := (B.chg k1 (by simp)).alloc (.cells (pteC on1 f1 r1 t1) 23)
  replace K := (K.trans k1 (by simp)).alloc (.cells (pteC on1 f1 r1 t1) 23)
  replace D3 := (D3.chg k1 (by simp)).alloc (.cells (pteC on1 f1 r1 t1) 23)
  obtain ⟨b4, e4⟩ : ∃ b, w4.heap.size = b := ⟨_, rfl⟩
  have D4 := Blk.new' w4 23 (pteC on1 f1 r1 t1) e4
  clear k1
  obtain ⟨c0, c1, c2, c3⟩ := blk4 B
  go_wp2_with fail
  refine Calls.mono (HL1.out _) ?_
  rintro e w5 ⟨rfl, k1⟩
  replace B := (B.chg k1 (by simp)).alloc (.cells (pteC on2 f2 r2 t2) 23)
  replace K := (K.trans k1 (by simp)).alloc (.cells (pteC on2 f2 r2 t2) 23)
  replace D3 := (D3.chg k1 (by simp)).alloc (.cells (pteC on2 f2 r2 t2) 23)
  replace D4 := (D4.chg k1 (by simp)).alloc (.cells (pteC on2 f2 r2 t2) 23)
  obtain ⟨b5, e5⟩ : ∃ b, w5.heap.size = b := ⟨_, rfl⟩
  have D5 := Blk.new' w5 23 (pteC on2 f2 r2 t2) e5
  clear k1 c0 c1 c2 c3
  obtain ⟨c0, c1, c2, c3⟩ := blk4 B
  go_wp2_with fail
  refine Calls.mono (HL2.out _) ?_
  rintro e w6 ⟨rfl, k1⟩
  replace B := (B.chg k1 (by simp)).alloc (.cells (pteC on2 f2 r2 t2) 23)
  replace K := (K.trans k1 (by simp)).alloc (.cells (pteC on2 f2 r2 t2) 23)
  replace D3 := (D3.chg k1 (by simp)).alloc (.cells (pteC on2 f2 r2 t2) 23)
  replace D4 := (D4.chg k1 (by simp)).alloc (.cells (pteC on2 f2 r2 t2) 23)
  replace D5 := (D5.chg k1 (by simp)).alloc (.cells (pteC on2 f2 r2 t2) 23)
  obtain ⟨b6, e6⟩ : ∃ b, w6.heap.size = b := ⟨_, rfl⟩
  have D6 := Blk.new' w6 23 (pteC on2 f2 r2 t2) e6
  clear k1 c0 c1 c2 c3
  go_wp2
  replace B := B.drew
  replace D3 := D3.drew
  replace D4 := D4.drew
  replace D5 := D5.drew
  replace D6 := D6.drew
  replace K := K.drew
  go_region_held3 (fun V => V.cell? ⟨g, 0, none⟩ = some (.bool on) ∧ V.cell? ⟨g, 1, none⟩ = some (.int .i64 f) ∧ V.cell? ⟨g, 2, none⟩ = some (.int .i64 r) ∧ V.cell? ⟨g, 3, none⟩ = some (.int .i64 t) ∧ V.cell? ⟨b3, 0, none⟩ = some (.bool on1) ∧ V.cell? ⟨b3, 1, none⟩ = some (.int .i64 f1) ∧ V.cell? ⟨b3, 2, none⟩ = some (.int .i64 r1) ∧ V.cell? ⟨b3, 3, none⟩ = some (.int .i64 t1) ∧ V.cell? ⟨b4, 0, none⟩ = some (.bool on1) ∧ V.cell? ⟨b4, 1, none⟩ = some (.int .i64 f1) ∧ V.cell? ⟨b4, 2, none⟩ = some (.int .i64 r1) ∧ V.cell? ⟨b4, 3, none⟩ = some (.int .i64 t1) ∧ V.cell? ⟨b5, 0, none⟩ = some (.bool on2) ∧ V.cell? ⟨b5, 1, none⟩ = some (.int .i64 f2) ∧ V.cell? ⟨b5, 2, none⟩ = some (.int .i64 r2) ∧ V.cell? ⟨b5, 3, none⟩ = some (.int .i64 t2) ∧ V.cell? ⟨b6, 0, none⟩ = some (.bool on2) ∧ V.cell? ⟨b6, 1, none⟩ = some (.int .i64 f2) ∧ V.cell? ⟨b6, 2, none⟩ = some (.int .i64 r2) ∧ V.cell? ⟨b6, 3, none⟩ = some (.int .i64 t2)) (first | exact ⟨B.cell 0, B.cell 1, B.cell 2, B.cell 3, D3.cell 0, D3.cell 1, D3.cell 2, D3.cell 3, D4.cell 0, D4.cell 1, D4.cell 2, D4.cell 3, D5.cell 0, D5.cell 1, D5.cell 2, D5.cell 3, D6.cell 0, D6.cell 1, D6.cell 2, D6.cell 3⟩ | go_keep)
    (first
    | (go_at_call 14; refine Calls.mono (HC1.out _) ?_; rintro e w1 ⟨rfl, k1⟩; replace B := B.chg k1 (by simp); replace D3 := D3.chg k1 (by simp); replace D4 := D4.chg k1 (by simp); replace D5 := D5.chg k1 (by simp); replace D6 := D6.chg k1 (by simp); replace K := K.trans k1 (by simp); clear k1)
    | (go_at_call 22; refine Calls.mono (HC2.out _) ?_; rintro e w1 ⟨rfl, k1⟩; replace B := B.chg k1 (by simp); replace D3 := D3.chg k1 (by simp); replace D4 := D4.chg k1 (by simp); replace D5 := D5.chg k1 (by simp); replace D6 := D6.chg k1 (by simp); replace K := K.trans k1 (by simp); clear k1)
    | (go_at_call 13; refine Calls.mono (HA1.out _) ?_; rintro e w1 ⟨rfl, k1⟩; replace B := B.chg k1 (by simp); replace D3 := D3.chg k1 (by simp); replace D4 := D4.chg k1 (by simp); replace D5 := D5.chg k1 (by simp); replace D6 := D6.chg k1 (by simp); replace K := K.trans k1 (by simp); clear k1)
    | (go_at_call 23; refine Calls.mono (HA2.out _) ?_; rintro e w1 ⟨rfl, k1⟩; replace B := B.chg k1 (by simp); replace D3 := D3.chg k1 (by simp); replace D4 := D4.chg k1 (by simp); replace D5 := D5.chg k1 (by simp); replace D6 := D6.chg k1 (by simp); replace K := K.trans k1 (by simp); clear k1)
    | (go_at_call 15; refine Calls.mono (HQ1.out _) ?_; rintro e w1 ⟨rfl, k1⟩; replace B := B.chg k1 (by simp); replace D3 := D3.chg k1 (by simp); replace D4 := D4.chg k1 (by simp); replace D5 := D5.chg k1 (by simp); replace D6 := D6.chg k1 (by simp); replace K := K.trans k1 (by simp); clear k1)
    | (go_at_call 24; refine Calls.mono (HQ2.out _) ?_; rintro e w1 ⟨rfl, k1⟩; replace B := B.chg k1 (by simp); replace D3 := D3.chg k1 (by simp); replace D4 := D4.chg k1 (by simp); replace D5 := D5.chg k1 (by simp); replace D6 := D6.chg k1 (by simp); replace K := K.trans k1 (by simp); clear k1)
    | (go_at_call 16; refine Calls.mono (PteLess.awake_ok _) ?_; rintro e w1 ⟨rfl, k1⟩; replace B := B.chg k1 (by simp); replace D3 := D3.chg k1 (by simp); replace D4 := D4.chg k1 (by simp); replace D5 := D5.chg k1 (by simp); replace D6 := D6.chg k1 (by simp); replace K := K.trans k1 (by simp); clear k1))
  all_goals go_wp2
  all_goals go_ret
  all_goals exact ⟨rfl, K⟩
end Go.Proofs.Ytddjkejliogenaa.PteTells
