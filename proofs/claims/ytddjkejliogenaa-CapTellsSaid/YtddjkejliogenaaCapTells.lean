/- CapTells' walk. -/
import Derived.Test.YtddjkejliogenaaCapRefW
import Derived.Test.YtddjkejliogenaaCapRefUnder
import Derived.Test.YtddjkejliogenaaCapUnder
import Derived.Test.YtddjkejliogenaaCapBack
import Derived.Deep.RegionHeld3
namespace Go.Proofs.Ytddjkejliogenaa.CapTells
open Go Go.RowKit Go.Proofs.Ytddjkejliogenaa Go.Proofs.Ytddjkejliogenaa.Heap Go.Proofs.Ytddjkejliogenaa.Bits Go.Proofs.Ytddjkejliogenaa.Field Go.Proofs.Ytddjkejliogenaa.Cap Go.Proofs.Ytddjkejliogenaa.CapW Go.Proofs.Ytddjkejliogenaa.CapPut Go.Proofs.Ytddjkejliogenaa.CapGet

theorem getCV_form (u s : Int) : ∃ k r t l e a, getCV u s = capV k r t l e a := by
  unfold getCV
  split
  · exact ⟨_, _, _, _, _, _, rfl⟩
  · exact ⟨_, _, _, _, _, _, rfl⟩

set_option maxRecDepth 100000 in
set_option maxHeartbeats 8000000 in
theorem capTells_walk (k r t l e a k' r' t' l' e' a' n u s : Int) (w : World) (h0 : 0 ≤ u) (h1 : u < 18446744073709551616) (s0 : 0 ≤ s) (s1 : s < 18446744073709551616) :
    Calls Try.prog 8 #[capV k r t l e a, capV k' r' t' l' e' a', .int .i64 n, .int .u64 u, .int .u64 s] w fun e'' w' => e'' = .returned (.bool true) ∧ Chg [] w w' := by
  obtain ⟨g, eg⟩ : ∃ g, w.heap.size = g := ⟨_, rfl⟩
  have B := (Blk.new' w 44 (capC k r t l e a) eg).alloc (.cells (capC k' r' t' l' e' a') 44)
  have Bb : Blk ((w.alloc (.cells (capC k r t l e a) 44)).alloc (.cells (capC k' r' t' l' e' a') 44)) (g + 1) 44 (capC k' r' t' l' e' a') := Blk.new' _ _ _ (by simp; omega)
  have K := ((Chg.refl [] w).alloc (.cells (capC k r t l e a) 44)).alloc (.cells (capC k' r' t' l' e' a') 44)
  obtain ⟨x0, x1, x2, x3, x4, x5, e1⟩ := getCV_form u s
  have P1 := putC_ok k r t l e a
  have P2 := CapRefW.putCR_ok k r t l e a
  have G1 := fun W => getC_ok u s W h0 h1 s0 s1
  have G2 := fun W => CapRefW.getCR_ok u s W h0 h1 s0 s1
  have O1 := CapRef.holds_prog k r t l e a
  have O2 := CapRef.holds_ok k r t l e a
  have C1 := check_ok k r t l e a
  have C2 := CapRef.check_ok k r t l e a
  have W1 := CapUnder.weaken_ok k r t l e a n
  have W2 := CapRef.weaken_ok k r t l e a n
  have U1 := CapUnder.under_ok k r t l e a k' r' t' l' e' a'
  have U2 := CapRefUnder.under_ok k r t l e a k' r' t' l' e' a'
  have L1 := CapRef.lives_prog k r t l e a
  have L2 := CapRef.lives_ok k r t l e a
  rw [e1] at G1 G2
  clear e1 h0 h1 s0 s1
  generalize putC1 k r t l e a = p1 at P1 P2
  generalize putC2 k r t l e a = p2 at P1 P2
  generalize rightC k r t l e a = R at P1 P2 C1 C2
  generalize errC R = E at P1 P2 C1 C2
  generalize getCE u s = ge at G1 G2
  generalize CapRef.holdsN k t = hn at O1 O2
  generalize CapRef.holdsB k = hb at O1 O2
  generalize bits .and .i64 r n = z at W1 W2
  generalize underB k r t l e a k' r' t' l' e' a' = un at U1 U2
  generalize decide (k = 5 ∨ k = 7) = li at L1 L2
  have HP1 : Hid _ := P1
  have HP2 : Hid _ := P2
  have HG1 : Hid _ := G1
  have HG2 : Hid _ := G2
  have HO1 : Hid _ := O1
  have HO2 : Hid _ := O2
  have HC1 : Hid _ := C1
  have HC2 : Hid _ := C2
  have HW1 : Hid _ := W1
  have HW2 : Hid _ := W2
  have HU1 : Hid _ := U1
  have HU2 : Hid _ := U2
  have HL1 : Hid _ := L1
  have HL2 : Hid _ := L2
  clear P1 P2 G1 G2 O1 O2 C1 C2 W1 W2 U1 U2 L1 L2
  go_enter Try.func8, Try.ntmps8
  obtain ⟨c0, c1, c2, c3, c4, c5⟩ := blk6 B
  go_wp2_with fail
  refine Calls.mono (HP1.out _) ?_
  rintro e w1 ⟨rfl, kk⟩
  replace B := B.chg kk (by simp)
  replace Bb := Bb.chg kk (by simp)
  replace K := K.trans kk (by simp)
  clear kk
  obtain ⟨c0, c1, c2, c3, c4, c5⟩ := blk6 B
  go_wp2_with fail
  refine Calls.mono (HP2.out _) ?_
  rintro e w2 ⟨rfl, kk⟩
  replace B := B.chg kk (by simp)
  replace Bb := Bb.chg kk (by simp)
  replace K := K.trans kk (by simp)
  clear kk
  clear c0 c1 c2 c3 c4 c5
  go_wp2_with fail
  refine Calls.mono (HG1.out _) ?_
  rintro e w3 ⟨rfl, kk⟩
  replace B := (B.chg kk (by simp)).alloc (.cells (capC x0 x1 x2 x3 x4 x5) 44)
  replace Bb := (Bb.chg kk (by simp)).alloc (.cells (capC x0 x1 x2 x3 x4 x5) 44)
  replace K := (K.trans kk (by simp)).alloc (.cells (capC x0 x1 x2 x3 x4 x5) 44)
  obtain ⟨b3, eb3⟩ : ∃ b, w3.heap.size = b := ⟨_, rfl⟩
  have D3 := Blk.new' w3 44 (capC x0 x1 x2 x3 x4 x5) eb3
  clear kk
  go_wp2_with fail
  refine Calls.mono (HG2.out _) ?_
  rintro e w4 ⟨rfl, kk⟩
  replace B := (B.chg kk (by simp)).alloc (.cells (capC x0 x1 x2 x3 x4 x5) 44)
  replace Bb := (Bb.chg kk (by simp)).alloc (.cells (capC x0 x1 x2 x3 x4 x5) 44)
  replace D3 := (D3.chg kk (by simp)).alloc (.cells (capC x0 x1 x2 x3 x4 x5) 44)
  replace K := (K.trans kk (by simp)).alloc (.cells (capC x0 x1 x2 x3 x4 x5) 44)
  obtain ⟨b4, eb4⟩ : ∃ b, w4.heap.size = b := ⟨_, rfl⟩
  have D4 := Blk.new' w4 44 (capC x0 x1 x2 x3 x4 x5) eb4
  clear kk
  obtain ⟨c0, c1, c2, c3, c4, c5⟩ := blk6 B
  go_wp2_with fail
  refine Calls.mono (HO1.out _) ?_
  rintro e w5 ⟨rfl, kk⟩
  replace B := B.chg kk (by simp)
  replace Bb := Bb.chg kk (by simp)
  replace D3 := D3.chg kk (by simp)
  replace D4 := D4.chg kk (by simp)
  replace K := K.trans kk (by simp)
  clear kk
  clear c0 c1 c2 c3 c4 c5
  obtain ⟨c0, c1, c2, c3, c4, c5⟩ := blk6 B
  go_wp2_with fail
  refine Calls.mono (HO2.out _) ?_
  rintro e w6 ⟨rfl, kk⟩
  replace B := B.chg kk (by simp)
  replace Bb := Bb.chg kk (by simp)
  replace D3 := D3.chg kk (by simp)
  replace D4 := D4.chg kk (by simp)
  replace K := K.trans kk (by simp)
  clear kk
  clear c0 c1 c2 c3 c4 c5
  go_wp2
  dsimp only [List.append]
  replace B := B.drew
  replace Bb := Bb.drew
  replace D3 := D3.drew
  replace D4 := D4.drew
  replace K := K.drew
  go_region_held3 (fun V => V.cell? ⟨g, 0, none⟩ = some (.int .i64 k) ∧ V.cell? ⟨g, 1, none⟩ = some (.int .i64 r) ∧ V.cell? ⟨g, 2, none⟩ = some (.int .i64 t) ∧ V.cell? ⟨g, 3, none⟩ = some (.int .i64 l) ∧ V.cell? ⟨g, 4, none⟩ = some (.int .i64 e) ∧ V.cell? ⟨g, 5, none⟩ = some (.int .i64 a) ∧ V.cell? ⟨g + 1, 0, none⟩ = some (.int .i64 k') ∧ V.cell? ⟨g + 1, 1, none⟩ = some (.int .i64 r') ∧ V.cell? ⟨g + 1, 2, none⟩ = some (.int .i64 t') ∧ V.cell? ⟨g + 1, 3, none⟩ = some (.int .i64 l') ∧ V.cell? ⟨g + 1, 4, none⟩ = some (.int .i64 e') ∧ V.cell? ⟨g + 1, 5, none⟩ = some (.int .i64 a') ∧ V.cell? ⟨b3, 0, none⟩ = some (.int .i64 x0) ∧ V.cell? ⟨b3, 1, none⟩ = some (.int .i64 x1) ∧ V.cell? ⟨b3, 2, none⟩ = some (.int .i64 x2) ∧ V.cell? ⟨b3, 3, none⟩ = some (.int .i64 x3) ∧ V.cell? ⟨b3, 4, none⟩ = some (.int .i64 x4) ∧ V.cell? ⟨b3, 5, none⟩ = some (.int .i64 x5) ∧ V.cell? ⟨b4, 0, none⟩ = some (.int .i64 x0) ∧ V.cell? ⟨b4, 1, none⟩ = some (.int .i64 x1) ∧ V.cell? ⟨b4, 2, none⟩ = some (.int .i64 x2) ∧ V.cell? ⟨b4, 3, none⟩ = some (.int .i64 x3) ∧ V.cell? ⟨b4, 4, none⟩ = some (.int .i64 x4) ∧ V.cell? ⟨b4, 5, none⟩ = some (.int .i64 x5)) (first | exact ⟨B.cell 0, B.cell 1, B.cell 2, B.cell 3, B.cell 4, B.cell 5, Bb.cell 0, Bb.cell 1, Bb.cell 2, Bb.cell 3, Bb.cell 4, Bb.cell 5, D3.cell 0, D3.cell 1, D3.cell 2, D3.cell 3, D3.cell 4, D3.cell 5, D4.cell 0, D4.cell 1, D4.cell 2, D4.cell 3, D4.cell 4, D4.cell 5⟩ | go_keep)
    (first
    | (go_at_call 26; refine Calls.mono (HC1.out _) ?_; rintro e w1 ⟨rfl, kk⟩; replace B := B.chg kk (by simp); replace Bb := Bb.chg kk (by simp); replace D3 := D3.chg kk (by simp); replace D4 := D4.chg kk (by simp); replace K := K.trans kk (by simp); clear kk)
    | (go_at_call 35; refine Calls.mono (HC2.out _) ?_; rintro e w1 ⟨rfl, kk⟩; replace B := B.chg kk (by simp); replace Bb := Bb.chg kk (by simp); replace D3 := D3.chg kk (by simp); replace D4 := D4.chg kk (by simp); replace K := K.trans kk (by simp); clear kk)
    | (go_at_call 25; refine Calls.mono (HW1.out _) ?_; rintro e w1 ⟨rfl, kk⟩; replace B := B.chg kk (by simp); replace Bb := Bb.chg kk (by simp); replace D3 := D3.chg kk (by simp); replace D4 := D4.chg kk (by simp); replace K := K.trans kk (by simp); clear kk)
    | (go_at_call 36; refine Calls.mono (HW2.out _) ?_; rintro e w1 ⟨rfl, kk⟩; replace B := B.chg kk (by simp); replace Bb := Bb.chg kk (by simp); replace D3 := D3.chg kk (by simp); replace D4 := D4.chg kk (by simp); replace K := K.trans kk (by simp); clear kk)
    | (go_at_call 27; refine Calls.mono (HU1.out _) ?_; rintro e w1 ⟨rfl, kk⟩; replace B := B.chg kk (by simp); replace Bb := Bb.chg kk (by simp); replace D3 := D3.chg kk (by simp); replace D4 := D4.chg kk (by simp); replace K := K.trans kk (by simp); clear kk)
    | (go_at_call 37; refine Calls.mono (HU2.out _) ?_; rintro e w1 ⟨rfl, kk⟩; replace B := B.chg kk (by simp); replace Bb := Bb.chg kk (by simp); replace D3 := D3.chg kk (by simp); replace D4 := D4.chg kk (by simp); replace K := K.trans kk (by simp); clear kk)
    | (go_at_call 38; refine Calls.mono (HL1.out _) ?_; rintro e w1 ⟨rfl, kk⟩; replace B := B.chg kk (by simp); replace Bb := Bb.chg kk (by simp); replace D3 := D3.chg kk (by simp); replace D4 := D4.chg kk (by simp); replace K := K.trans kk (by simp); clear kk)
    | (go_at_call 39; refine Calls.mono (HL2.out _) ?_; rintro e w1 ⟨rfl, kk⟩; replace B := B.chg kk (by simp); replace Bb := Bb.chg kk (by simp); replace D3 := D3.chg kk (by simp); replace D4 := D4.chg kk (by simp); replace K := K.trans kk (by simp); clear kk)
    | (go_at_call 28; refine Calls.mono (CapUnder.awake_ok _) ?_; rintro e w1 ⟨rfl, kk⟩; replace B := B.chg kk (by simp); replace Bb := Bb.chg kk (by simp); replace D3 := D3.chg kk (by simp); replace D4 := D4.chg kk (by simp); replace K := K.trans kk (by simp); clear kk))
  all_goals go_wp2
  all_goals go_ret
  all_goals exact ⟨rfl, K⟩
end Go.Proofs.Ytddjkejliogenaa.CapTells
