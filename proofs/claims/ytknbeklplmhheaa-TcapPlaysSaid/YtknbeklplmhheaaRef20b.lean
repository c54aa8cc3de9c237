/- Package palanquinref20: Give, Charge, Can, Sum. -/
import Derived.Test.YtknbeklplmhheaaRef20
import Derived.Deep.RegionHeld3
namespace Go.Proofs.Ytknbeklplmhheaa.Ref20b
open Go Go.RowKit Go.Proofs.Ytknbeklplmhheaa Go.Proofs.Ytknbeklplmhheaa.Heap Go.Proofs.Ytknbeklplmhheaa.Mem Go.Proofs.Ytknbeklplmhheaa.Two Go.Proofs.Ytknbeklplmhheaa.Head Go.Proofs.Ytknbeklplmhheaa.HeadPut Go.Proofs.Ytknbeklplmhheaa.HeadIs Go.Proofs.Ytknbeklplmhheaa.Lay Go.Proofs.Ytknbeklplmhheaa.Tcap Go.Proofs.Ytknbeklplmhheaa.TcapPut Go.Proofs.Ytknbeklplmhheaa.TcapGive Go.Proofs.Ytknbeklplmhheaa.TcapRest

set_option linter.unusedVariables false
set_option maxRecDepth 100000
set_option maxHeartbeats 4000000
theorem can_ok {w : World} {B r n : Nat} {v : Value} {bs : List (Nat × Nat)} {L : List Int} (h : Ref02.RM w B r v n bs L) (n1 : 1 ≤ n) (n2 : n ≤ 64) (hu : U64 L) (f : Int) : Calls Try.prog 29 #[.pointer (some ⟨r, 0, none⟩), .int .i64 f] w fun x w' => x = .returned (.bool (canB n L f)) ∧ Chg [] w w' := by
  have HG0 := Ref20.get_ok h n1 n2 hu f
  unfold tV at HG0
  have e0 : canB n L f = decide (tE n L f = 0 ∧ (tZ n L f = true ∨ 0 < tL n L f)) := rfl
  generalize canB n L f = C at *
  generalize tE n L f = E at *
  generalize tZ n L f = z at *
  generalize tL n L f = l at *
  generalize tP n L f = t at *
  have HG := Lib.hid HG0
  clear HG0 h hu n1 n2
  by_cases h1 : E = 0
  · subst h1
    cases z
    · by_cases h2 : 0 < l
      · rw [decide_eq_true (⟨rfl, .inr h2⟩ : (0 : Int) = 0 ∧ (false = true ∨ 0 < l))] at e0
        subst e0
        go_enter Try.func29, Try.ntmps29
        go_wp2_with fail
        refine Calls.mono HG.out ?_
        rintro x w1 ⟨rfl, k1⟩
        obtain ⟨d, ed⟩ : ∃ q, w1.heap.size = q := ⟨_, rfl⟩
        have D := Blk.new' w1 23 (tcC false l t) ed
        replace k1 := k1.alloc (.cells (tcC false l t) 23)
        obtain ⟨d0, d1, d2⟩ := blk3 D
        go_wp2
        go_ret
        exact ⟨by first | rfl | simp [h2], k1⟩
      · rw [decide_eq_false (by rintro ⟨-, q | q⟩; cases q; exact h2 q)] at e0
        subst e0
        go_enter Try.func29, Try.ntmps29
        go_wp2_with fail
        refine Calls.mono HG.out ?_
        rintro x w1 ⟨rfl, k1⟩
        obtain ⟨d, ed⟩ : ∃ q, w1.heap.size = q := ⟨_, rfl⟩
        have D := Blk.new' w1 23 (tcC false l t) ed
        replace k1 := k1.alloc (.cells (tcC false l t) 23)
        obtain ⟨d0, d1, d2⟩ := blk3 D
        go_wp2
        go_ret
        exact ⟨by first | rfl | (simp; omega), k1⟩
    · rw [decide_eq_true (⟨rfl, .inl rfl⟩ : (0 : Int) = 0 ∧ (true = true ∨ 0 < l))] at e0
      subst e0
      go_enter Try.func29, Try.ntmps29
      go_wp2_with fail
      refine Calls.mono HG.out ?_
      rintro x w1 ⟨rfl, k1⟩
      obtain ⟨d, ed⟩ : ∃ q, w1.heap.size = q := ⟨_, rfl⟩
      have D := Blk.new' w1 23 (tcC true l t) ed
      replace k1 := k1.alloc (.cells (tcC true l t) 23)
      obtain ⟨d0, d1, d2⟩ := blk3 D
      go_wp2
      go_ret
      exact ⟨rfl, k1⟩
  · rw [decide_eq_false (fun q => h1 q.1)] at e0
    subst e0
    have hb : (E == 0) = false := by rw [beq_eq_false_iff_ne]; exact h1
    go_enter Try.func29, Try.ntmps29
    go_wp2_with fail
    refine Calls.mono HG.out ?_
    rintro x w1 ⟨rfl, k1⟩
    replace k1 := k1.alloc (.cells (tcC z l t) 23)
    go_wp2
    go_ret
    exact ⟨by first | rfl | simp, k1⟩
theorem sum_ok {w : World} {B r n : Nat} {v : Value} {bs : List (Nat × Nat)} {L : List Int} (h : Ref02.RM w B r v n bs L) (n1 : 1 ≤ n) (n2 : n ≤ 64) (hu : U64 L) : Calls Try.prog 31 #[.pointer (some ⟨r, 0, none⟩)] w fun x w' => x = .returned (.int .i64 (sumT n L n)) ∧ Chg [] w w' := by
  obtain ⟨q0, cap0, b0, rfl, -, -⟩ := h.at_ (k := 0) (by omega)
  have HU := Lib.hid hu
  have K := Chg.refl [] w
  have HR : Hid (∀ x, x = sumT n L n → x = sumT n L n) := Lib.hid (fun _ h => h)
  obtain ⟨sn, hsn⟩ : ∃ x, x = sumT n L n := ⟨_, rfl⟩
  rw [← hsn]
  have HSN := Lib.hid hsn
  clear hsn hu HR
  go_enter Try.func31, Try.ntmps31
  go_wp2_with fail
  go_loopw [3, 4] (fun s i wr => ∃ (j : Nat) (a : Int), i = .int .i64 j ∧ s = .int .i64 a ∧ j ≤ n ∧ Hid (a = sumT n L j ∧ Ref02.RM wr B r (.slice (some ⟨q0, 0, none⟩) n cap0) n bs L ∧ Chg [] w wr)) (fun _ i _ => n - (intOf i).toNat)
  case atStart => exact ⟨0, 0, rfl, rfl, Nat.zero_le _, rfl, h, K⟩
  case round =>
    clear h K
    obtain ⟨j, a, rfl, rfl, hj, H⟩ := hrel
    obtain ⟨ha, h, K⟩ := H.out
    clear H
    have c0 := h.head
    rcases (by omega : j = n ∨ j < n) with rfl | j1
    · have e : sn = a := by rw [HSN.out, ha]
      subst e
      clear ha
      go_wp2
      go_ret
      exact ⟨rfl, K⟩
    · have hji : (j : Int) < n := by omega
      have HG0 := Ref20.get_ok h n1 n2 HU.out (j : Int)
      unfold tV at HG0
      have b1 := sumT_bd (n := n) HU.out j
      have b2 := tL_bd (n := n) HU.out (j : Int)
      have hs : sumT n L (j + 1) = a + tL n L (j : Int) := by rw [ha]; rfl
      have hw : IntKind.i64.wrap (a + tL n L (j : Int)) = a + tL n L (j : Int) := by rw [IntKind.wrap_i64]; omega
      have hno := tL_no (n := n) (L := L) (f := (j : Int))
      clear b1 b2 ha
      generalize tE n L (j : Int) = E at *
      generalize tZ n L (j : Int) = z at *
      generalize tL n L (j : Int) = l at *
      generalize tP n L (j : Int) = t at *
      have HG := Lib.hid HG0
      have HS := Lib.hid hs
      clear HG0 hs
      by_cases h1 : E = 0
      · subst h1
        clear hno
        go_wp2_with fail
        refine Calls.mono HG.out ?_
        rintro x w2 ⟨rfl, k2⟩
        obtain ⟨d, ed⟩ : ∃ q, w2.heap.size = q := ⟨_, rfl⟩
        have D := Blk.new' w2 23 (tcC z l t) ed
        replace h := (h.chg0 k2).alloc (.cells (tcC z l t) 23)
        replace K := (K.trans k2 (by simp)).alloc (.cells (tcC z l t) 23)
        obtain ⟨d0, d1, d2⟩ := blk3 D
        clear HG k2
        go_wp2
        go_roundw
        case rel => exact ⟨j + 1, a + l, by go_num, rfl, by omega, HS.out.symm, h, K⟩
        case measure => simp [intOf]; omega
      · have hb : (E == 0) = false := by rw [beq_eq_false_iff_ne]; exact h1
        have hl := hno h1
        subst hl
        clear hno hw
        go_wp2_with fail
        refine Calls.mono HG.out ?_
        rintro x w2 ⟨rfl, k2⟩
        replace h := (h.chg0 k2).alloc (.cells (tcC z 0 t) 23)
        replace K := (K.trans k2 (by simp)).alloc (.cells (tcC z 0 t) 23)
        clear HG k2
        go_wp2
        go_roundw
        case rel => exact ⟨j + 1, a, by go_num, rfl, by omega, by rw [HS.out]; omega, h, K⟩
        case measure => simp [intOf]; omega
theorem charge_a {w : World} {B r n : Nat} {v : Value} {bs : List (Nat × Nat)} {L : List Int} (h : Ref02.RM w B r v n bs L) (n1 : 1 ≤ n) (n2 : n ≤ 64) (hu : U64 L) (f k : Int) (h1 : inI k 0 1048576 = false) : Calls Try.prog 25 #[.pointer (some ⟨r, 0, none⟩), .int .i64 f, .int .i64 k] w fun x w' => x = .returned (.tuple #[.bool false, .int .i64 1]) ∧ Ref02.RM w' B r v n bs L ∧ Ref02.Chr (bs.map Prod.fst) B w w' := by
  have I00 := Ref20.in_ok k 0 1048576
  rw [h1] at I00
  have I0 := Lib.hid I00
  clear I00 h1 hu n1 n2
  have K := Chg.refl [] w
  go_enter Try.func25, Try.ntmps25
  go_wp2_with fail
  refine Calls.mono (I0.out _) ?_
  rintro x w1 ⟨rfl, rfl⟩
  go_wp2
  go_ret2
  exact ⟨rfl, h, Ref02.Chr.of0 K⟩
theorem charge_b {w : World} {B r n : Nat} {v : Value} {bs : List (Nat × Nat)} {L : List Int} (h : Ref02.RM w B r v n bs L) (n1 : 1 ≤ n) (n2 : n ≤ 64) (hu : U64 L) (f k : Int) (h0 : inI k 0 1048576 = true) (h1 : ¬ tE n L f = 0) : Calls Try.prog 25 #[.pointer (some ⟨r, 0, none⟩), .int .i64 f, .int .i64 k] w fun x w' => x = .returned (.tuple #[.bool false, .int .i64 (tE n L f)]) ∧ Ref02.RM w' B r v n bs L ∧ Ref02.Chr (bs.map Prod.fst) B w w' := by
  have I00 := Ref20.in_ok k 0 1048576
  rw [h0] at I00
  have I0 := Lib.hid I00
  have HG0 := fun (W : World) (q : Ref02.RM W B r v n bs L) => Ref20.get_ok q n1 n2 hu f
  unfold tV at HG0
  generalize tZ n L f = z at *
  generalize tL n L f = l at *
  generalize tP n L f = t at *
  generalize tE n L f = E at *
  have hE : (E != 0) = true := by rw [bne_iff_ne]; exact h1
  have HG := Lib.hid HG0
  clear HG0 I00 h0 hu n1 n2
  have K := Chg.refl [] w
  go_enter Try.func25, Try.ntmps25
  go_wp2_with fail
  refine Calls.mono (I0.out _) ?_
  rintro x w1 ⟨rfl, rfl⟩
  go_wp2_with fail
  refine Calls.mono (HG.out _ h) ?_
  rintro x w2 ⟨rfl, k2⟩
  clear HG
  obtain ⟨d, ed⟩ : ∃ q, w2.heap.size = q := ⟨_, rfl⟩
  have D := Blk.new' w2 23 (tcC z l t) ed
  have h0' := h.chg0 k2
  have K0 := K.trans k2 (by simp)
  replace h := h0'.alloc (.cells (tcC z l t) 23)
  replace K := K0.alloc (.cells (tcC z l t) 23)
  clear k2
  obtain ⟨d0, d1, d2⟩ := blk3 D
  go_wp2
  go_ret2
  exact ⟨rfl, h, Ref02.Chr.of0 K⟩
theorem charge_c {w : World} {B r n : Nat} {v : Value} {bs : List (Nat × Nat)} {L : List Int} (h : Ref02.RM w B r v n bs L) (n1 : 1 ≤ n) (n2 : n ≤ 64) (hu : U64 L) (f k : Int) (h0 : inI k 0 1048576 = true) (h1 : tE n L f = 0) (h2 : tZ n L f = true) : Calls Try.prog 25 #[.pointer (some ⟨r, 0, none⟩), .int .i64 f, .int .i64 k] w fun x w' => x = .returned (.tuple #[.bool false, .int .i64 0]) ∧ Ref02.RM w' B r v n bs L ∧ Ref02.Chr (bs.map Prod.fst) B w w' := by
  have I00 := Ref20.in_ok k 0 1048576
  rw [h0] at I00
  have I0 := Lib.hid I00
  have HG0 := fun (W : World) (q : Ref02.RM W B r v n bs L) => Ref20.get_ok q n1 n2 hu f
  unfold tV at HG0
  rw [h1] at HG0
  generalize tZ n L f = z at *
  generalize tL n L f = l at *
  generalize tP n L f = t at *
  subst h2
  have HG := Lib.hid HG0
  clear HG0 I00 h0 h1 hu n1 n2
  have K := Chg.refl [] w
  go_enter Try.func25, Try.ntmps25
  go_wp2_with fail
  refine Calls.mono (I0.out _) ?_
  rintro x w1 ⟨rfl, rfl⟩
  go_wp2_with fail
  refine Calls.mono (HG.out _ h) ?_
  rintro x w2 ⟨rfl, k2⟩
  clear HG
  obtain ⟨d, ed⟩ : ∃ q, w2.heap.size = q := ⟨_, rfl⟩
  have D := Blk.new' w2 23 (tcC true l t) ed
  have h0' := h.chg0 k2
  have K0 := K.trans k2 (by simp)
  replace h := h0'.alloc (.cells (tcC true l t) 23)
  replace K := K0.alloc (.cells (tcC true l t) 23)
  clear k2
  obtain ⟨d0, d1, d2⟩ := blk3 D
  go_wp2
  go_ret2
  exact ⟨rfl, h, Ref02.Chr.of0 K⟩
theorem charge_neg {w : World} {B r n : Nat} {v : Value} {bs : List (Nat × Nat)} {L : List Int} (h : Ref02.RM w B r v n bs L) (n1 : 1 ≤ n) (n2 : n ≤ 64) (hu : U64 L) (f k : Int) (h0 : inI k 0 1048576 = true) (h1 : tE n L f = 0) (h2 : tZ n L f = false) (h3 : tL n L f - k < 0) : Calls Try.prog 25 #[.pointer (some ⟨r, 0, none⟩), .int .i64 f, .int .i64 k] w fun x w' => x = .returned (.tuple #[.bool (0 == 0), .int .i64 0]) ∧ Ref02.RM w' B r v n bs (layL n L f 4 [b2i (tZ n L f), 0, tP n L f]) ∧ Ref02.Chr (bs.map Prod.fst) B w w' := by
  have I00 := Ref20.in_ok k 0 1048576
  rw [h0] at I00
  have I0 := Lib.hid I00
  have HG0 := fun (W : World) (q : Ref02.RM W B r v n bs L) => Ref20.get_ok q n1 n2 hu f
  unfold tV at HG0
  rw [h1] at HG0
  have hk := in_bd h0
  have hrt := right_bd (t_right hu h1)
  have hr : rightC (tZ n L f) 0 (tP n L f) = true := right_mk ⟨by omega, by omega, hrt.2.2.1, hrt.2.2.2.1, fun e => absurd (h2.symm.trans e) (by decide)⟩
  have HP0 := fun (W : World) (q : Ref02.RM W B r v n bs L) => Ref20.put_yes q n1 n2 hu f _ _ _ hr (tE_is h1)
  have hw : IntKind.i64.wrap (tL n L f - k) = tL n L f - k := by rw [IntKind.wrap_i64]; omega
  generalize layL n L f 4 [b2i (tZ n L f), 0, tP n L f] = M at *
  generalize tZ n L f = z at *
  generalize tL n L f = l at *
  generalize tP n L f = t at *
  subst h2
  have HG := Lib.hid HG0
  have HP := Lib.hid HP0
  clear HG0 HP0 I00 h0 h1 hu n1 n2 hk hrt hr
  have K := Chg.refl [] w
  go_enter Try.func25, Try.ntmps25
  go_wp2_with fail
  refine Calls.mono (I0.out _) ?_
  rintro x w1 ⟨rfl, rfl⟩
  go_wp2_with fail
  refine Calls.mono (HG.out _ h) ?_
  rintro x w2 ⟨rfl, k2⟩
  clear HG
  obtain ⟨d, ed⟩ : ∃ q, w2.heap.size = q := ⟨_, rfl⟩
  have D := Blk.new' w2 23 (tcC false l t) ed
  have h0' := h.chg0 k2
  have K0 := K.trans k2 (by simp)
  replace h := h0'.alloc (.cells (tcC false l t) 23)
  replace K := K0.alloc (.cells (tcC false l t) 23)
  clear k2
  obtain ⟨d0, d1, d2⟩ := blk3 D
  have f1 := D.frozen 1
  have D2 := (Blk.new' w2 23 (tcC false 0 t) ed).drew
  replace h := (h0'.alloc (.cells (tcC false 0 t) 23)).drew
  have KC := Ref02.Chr.of0 (R := bs.map Prod.fst) (B := B) (K0.alloc (.cells (tcC false 0 t) 23)).drew
  clear K K0 h0'
  go_wp2_with fail
  go_region_held3 (fun V => V.cell? ⟨d, 0, none⟩ = some (.bool false) ∧ V.cell? ⟨d, 1, none⟩ = some (.int .i64 0) ∧ V.cell? ⟨d, 2, none⟩ = some (.int .i64 t)) (exact ⟨D2.cell 0, D2.cell 1, D2.cell 2⟩)
    ((go_at_call 22; refine Calls.mono (HP.out _ h) ?_; rintro x w3 ⟨rfl, m3, k3⟩; replace D2 := Ref02.chr_blk D2 k3 (.inl (by decide)); replace KC := HeadRef.chr_trans KC k3))
  go_wp2
  go_ret2
  exact ⟨rfl, m3, KC⟩
theorem charge_pos {w : World} {B r n : Nat} {v : Value} {bs : List (Nat × Nat)} {L : List Int} (h : Ref02.RM w B r v n bs L) (n1 : 1 ≤ n) (n2 : n ≤ 64) (hu : U64 L) (f k : Int) (h0 : inI k 0 1048576 = true) (h1 : tE n L f = 0) (h2 : tZ n L f = false) (h3 : ¬ tL n L f - k < 0) : Calls Try.prog 25 #[.pointer (some ⟨r, 0, none⟩), .int .i64 f, .int .i64 k] w fun x w' => x = .returned (.tuple #[.bool ((tL n L f - k) == 0), .int .i64 0]) ∧ Ref02.RM w' B r v n bs (layL n L f 4 [b2i (tZ n L f), (tL n L f - k), tP n L f]) ∧ Ref02.Chr (bs.map Prod.fst) B w w' := by
  have I00 := Ref20.in_ok k 0 1048576
  rw [h0] at I00
  have I0 := Lib.hid I00
  have HG0 := fun (W : World) (q : Ref02.RM W B r v n bs L) => Ref20.get_ok q n1 n2 hu f
  unfold tV at HG0
  rw [h1] at HG0
  have hk := in_bd h0
  have hrt := right_bd (t_right hu h1)
  have hr : rightC (tZ n L f) (tL n L f - k) (tP n L f) = true := right_mk ⟨by omega, by omega, hrt.2.2.1, hrt.2.2.2.1, fun e => absurd (h2.symm.trans e) (by decide)⟩
  have HP0 := fun (W : World) (q : Ref02.RM W B r v n bs L) => Ref20.put_yes q n1 n2 hu f _ _ _ hr (tE_is h1)
  have hw : IntKind.i64.wrap (tL n L f - k) = tL n L f - k := by rw [IntKind.wrap_i64]; omega
  generalize layL n L f 4 [b2i (tZ n L f), (tL n L f - k), tP n L f] = M at *
  generalize tZ n L f = z at *
  generalize tL n L f = l at *
  generalize tP n L f = t at *
  subst h2
  have HG := Lib.hid HG0
  have HP := Lib.hid HP0
  clear HG0 HP0 I00 h0 h1 hu n1 n2 hk hrt hr
  have K := Chg.refl [] w
  go_enter Try.func25, Try.ntmps25
  go_wp2_with fail
  refine Calls.mono (I0.out _) ?_
  rintro x w1 ⟨rfl, rfl⟩
  go_wp2_with fail
  refine Calls.mono (HG.out _ h) ?_
  rintro x w2 ⟨rfl, k2⟩
  clear HG
  obtain ⟨d, ed⟩ : ∃ q, w2.heap.size = q := ⟨_, rfl⟩
  have D := Blk.new' w2 23 (tcC false l t) ed
  have h0' := h.chg0 k2
  have K0 := K.trans k2 (by simp)
  replace h := h0'.alloc (.cells (tcC false l t) 23)
  replace K := K0.alloc (.cells (tcC false l t) 23)
  clear k2
  obtain ⟨d0, d1, d2⟩ := blk3 D
  have f1 := D.frozen 1
  have D2 := (Blk.new' w2 23 (tcC false (l - k) t) ed).drew
  replace h := (h0'.alloc (.cells (tcC false (l - k) t) 23)).drew
  have KC := Ref02.Chr.of0 (R := bs.map Prod.fst) (B := B) (K0.alloc (.cells (tcC false (l - k) t) 23)).drew
  clear K K0 h0'
  go_wp2_with fail
  go_region_held3 (fun V => V.cell? ⟨d, 0, none⟩ = some (.bool false) ∧ V.cell? ⟨d, 1, none⟩ = some (.int .i64 (l - k)) ∧ V.cell? ⟨d, 2, none⟩ = some (.int .i64 t)) (exact ⟨D2.cell 0, D2.cell 1, D2.cell 2⟩)
    ((go_at_call 22; refine Calls.mono (HP.out _ h) ?_; rintro x w3 ⟨rfl, m3, k3⟩; replace D2 := Ref02.chr_blk D2 k3 (.inl (by decide)); replace KC := HeadRef.chr_trans KC k3))
  go_wp2
  go_ret2
  exact ⟨rfl, m3, KC⟩
theorem charge_ok {w : World} {B r n : Nat} {v : Value} {bs : List (Nat × Nat)} {L : List Int} (h : Ref02.RM w B r v n bs L) (n1 : 1 ≤ n) (n2 : n ≤ 64) (hu : U64 L) (f k : Int)  : Calls Try.prog 25 #[.pointer (some ⟨r, 0, none⟩), .int .i64 f, .int .i64 k] w fun x w' => x = .returned (.tuple #[.bool (chS n L f k), .int .i64 (chE n L f k)]) ∧ Ref02.RM w' B r v n bs (chL n L f k) ∧ Ref02.Chr (bs.map Prod.fst) B w w' := by
  unfold chS chE chL
  by_cases h0 : inI k 0 1048576 = true
  · rw [if_pos h0]
    by_cases h1 : tE n L f = 0
    · cases h2 : tZ n L f
      · have hb : chB n L f k := ⟨h0, h1, h2⟩
        rw [if_pos hb, if_pos hb, h1]
        unfold chM
        by_cases h3 : tL n L f - k < 0
        · rw [if_pos h3]
          have := Ref20b.charge_neg h n1 n2 hu f k h0 h1 h2 h3
          rw [h2] at this
          exact this
        · rw [if_neg h3]
          have := Ref20b.charge_pos h n1 n2 hu f k h0 h1 h2 h3
          rw [h2] at this
          exact this
      · have hb : ¬ chB n L f k := fun q => by have := q.2.2; rw [h2] at this; cases this
        rw [if_neg hb, if_neg hb, h1]
        exact Ref20b.charge_c h n1 n2 hu f k h0 h1 h2
    · have hb : ¬ chB n L f k := fun q => h1 q.2.1
      rw [if_neg hb, if_neg hb]
      exact Ref20b.charge_b h n1 n2 hu f k h0 h1
  · have hb : ¬ chB n L f k := fun q => h0 q.1
    rw [if_neg h0, if_neg hb, if_neg hb]
    exact Ref20b.charge_a h n1 n2 hu f k (by simpa using h0)
end Go.Proofs.Ytknbeklplmhheaa.Ref20b
