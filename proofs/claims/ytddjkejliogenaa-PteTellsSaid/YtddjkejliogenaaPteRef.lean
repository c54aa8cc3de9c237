/- What package palanquinref14 does with a mapping. -/
import Derived.Test.YtddjkejliogenaaPteW
import Derived.Test.YtddjkejliogenaaRefPack
namespace Go.Proofs.Ytddjkejliogenaa.PteRef
open Go Go.RowKit Go.Proofs.Ytddjkejliogenaa Go.Proofs.Ytddjkejliogenaa.Heap Go.Proofs.Ytddjkejliogenaa.Bits Go.Proofs.Ytddjkejliogenaa.Field Go.Proofs.Ytddjkejliogenaa.Places Go.Proofs.Ytddjkejliogenaa.Parts Go.Proofs.Ytddjkejliogenaa.Pte Go.Proofs.Ytddjkejliogenaa.PteW

set_option maxRecDepth 100000 in
set_option maxHeartbeats 2000000 in
theorem right_ok (on : Bool) (f r t : Int) (w : World) : Calls Try.prog 57 #[pteV on f r t] w fun e w' => e = .returned (.bool (rightB on f r t)) ∧ Chg [] w w' := by
  cases on
  · go_enter Try.func57, Try.ntmps57
    go_wp2
    all_goals go_ret
    all_goals refine ⟨ret_bool ?_, (Chg.refl [] w).alloc _⟩
    all_goals (unfold rightB; rw [if_neg (by decide)]; first | (symm; apply decide_eq_true; omega) | (symm; apply decide_eq_false; omega) | (rw [Bool.eq_iff_iff]; simp; omega))
  · go_enter Try.func57, Try.ntmps57
    go_wp2
    all_goals go_ret
    all_goals refine ⟨ret_bool ?_, (Chg.refl [] w).alloc _⟩
    all_goals (unfold rightB; rw [if_pos rfl]; first | (symm; apply decide_eq_true; omega) | (symm; apply decide_eq_false; omega) | (rw [Bool.eq_iff_iff]; simp; omega))

set_option maxRecDepth 100000 in
set_option maxHeartbeats 2000000 in
theorem check_ok (on : Bool) (f r t : Int) (w : World) : Calls Try.prog 22 #[pteV on f r t] w fun e w' => e = .returned (.int .i64 (errB (rightB on f r t))) ∧ Chg [] w w' := by
  obtain ⟨R, eR⟩ : ∃ R, rightB on f r t = R := ⟨_, rfl⟩
  have HR : Hid (∀ w, Calls Try.prog 57 #[pteV on f r t] w fun e w' => e = .returned (.bool R) ∧ Chg [] w w') := fun w => by rw [← eR]; exact right_ok on f r t w
  rw [eR]
  clear eR
  have K := (Chg.refl [] w).alloc (.cells (pteC on f r t) 23)
  cases R
  all_goals
    go_enter Try.func22, Try.ntmps22
    go_wp2_with (go_at_call 57; refine Calls.mono (HR.out _) ?_; rintro e w1 ⟨rfl, k1⟩; replace K := K.trans k1 (by simp))
    go_ret
    exact ⟨rfl, K⟩


set_option maxRecDepth 100000 in
set_option maxHeartbeats 2000000 in
theorem quiet_ok (on : Bool) (f r t fl : Int) (w : World) : Calls Try.prog 24 #[pteV on f r t, .int .i64 fl] w fun e w' => e = .returned (.bool (quietB on f r t fl)) ∧ Chg [] w w' := by
  unfold quietB
  obtain ⟨R, eR⟩ : ∃ R, rightB on f r t = R := ⟨_, rfl⟩
  have HR : Hid (∀ w, Calls Try.prog 57 #[pteV on f r t] w fun e w' => e = .returned (.bool R) ∧ Chg [] w w') := fun w => by rw [← eR]; exact right_ok on f r t w
  rw [eR]
  clear eR
  have B := Blk.new w 23 (pteC on f r t)
  have K := (Chg.refl [] w).alloc (.cells (pteC on f r t) 23)
  cases R <;> cases on
  all_goals
    go_enter Try.func24, Try.ntmps24
    go_wp2_with (go_at_call 57; refine Calls.mono (HR.out _) ?_; rintro e w1 ⟨rfl, k1⟩; replace B := B.chg k1 (by simp); replace K := K.trans k1 (by simp); obtain ⟨c0, c1, c2, c3⟩ := blk4 B)
    all_goals go_ret
    all_goals refine ⟨ret_bool ?_, K⟩
    all_goals first | rfl | (simp; omega)


set_option maxRecDepth 100000 in
set_option maxHeartbeats 2000000 in
theorem allows_ok (on : Bool) (f r t k : Int) (w : World) (k0 : -9223372036854775808 ≤ k) (k1 : k < 9223372036854775808) : Calls Try.prog 23 #[pteV on f r t, .int .i64 k] w fun e w' => e = .returned (.bool (allowsB on f r t k)) ∧ Chg [] w w' := by
  have hk : (bits .andNot .i64 k r == 0) = (bits .and .i64 r k == k) := by rw [Bool.eq_iff_iff, beq_iff_eq, beq_iff_eq]; exact Bits64.andNot_zero k0 k1
  unfold allowsB
  rw [hk]
  clear hk k0 k1
  obtain ⟨R, eR⟩ : ∃ R, rightB on f r t = R := ⟨_, rfl⟩
  have HR : Hid (∀ w, Calls Try.prog 57 #[pteV on f r t] w fun e w' => e = .returned (.bool R) ∧ Chg [] w w') := fun w => by rw [← eR]; exact right_ok on f r t w
  rw [eR]
  clear eR
  have B := Blk.new w 23 (pteC on f r t)
  have K := (Chg.refl [] w).alloc (.cells (pteC on f r t) 23)
  cases R <;> cases on
  all_goals
    go_enter Try.func23, Try.ntmps23
    go_wp2_with (go_at_call 57; refine Calls.mono (HR.out _) ?_; rintro e w1 ⟨rfl, k1⟩; replace B := B.chg k1 (by simp); replace K := K.trans k1 (by simp); obtain ⟨c0, c1, c2, c3⟩ := blk4 B)
    all_goals go_ret
    all_goals exact ⟨rfl, K⟩


set_option maxRecDepth 100000 in
set_option maxHeartbeats 2000000 in
theorem less_ok (on : Bool) (f r t k : Int) (w : World) : Calls Try.prog 21 #[pteV on f r t, .int .i64 k] w fun e w' =>
    e = .returned (.tuple #[if lessOk on f r t k then pteV on f (bits .and .i64 r k) t else pteV false 0 0 0, .int .i64 (errB (lessOk on f r t k))]) ∧ Chg [] w w' := by
  unfold lessOk
  obtain ⟨R, eR⟩ : ∃ R, rightB on f r t = R := ⟨_, rfl⟩
  have HR : Hid (∀ w, Calls Try.prog 57 #[pteV on f r t] w fun e w' => e = .returned (.bool R) ∧ Chg [] w w') := fun w => by rw [← eR]; exact right_ok on f r t w
  rw [eR]
  clear eR
  obtain ⟨b, eb⟩ : ∃ b, w.heap.size = b := ⟨_, rfl⟩
  obtain ⟨z, ez⟩ : ∃ z, bits .and .i64 r k = z := ⟨_, rfl⟩
  have B := (Blk.new' w 23 (pteC on f r t) eb).alloc (.cells (pteC false 0 0 0) 23)
  have B2 : Blk ((w.alloc (.cells (pteC on f r t) 23)).alloc (.cells (pteC false 0 0 0) 23)) (b + 1) 23 (pteC false 0 0 0) := Blk.new' _ _ _ (by simp; omega)
  have K := ((Chg.refl [] w).alloc (.cells (pteC on f r t) 23)).alloc (.cells (pteC false 0 0 0) 23)
  rw [ez]
  by_cases hall : R = true ∧ on = true
  · obtain ⟨rfl, rfl⟩ := hall
    by_cases hz : (z == 0) = true
    · have hz' : (true && true && z != 0) = false := by simp [bne, hz]
      rw [hz']
      simp only [Bool.false_eq_true, if_false]
      obtain rfl : z = 0 := by simpa using hz
      go_enter Try.func21, Try.ntmps21
      go_wp2_with (go_at_call 57; refine Calls.mono (HR.out _) ?_; rintro e w1 ⟨rfl, k1⟩; replace B := B.chg k1 (by simp); replace B2 := B2.chg k1 (by simp); replace K := K.trans k1 (by simp); obtain ⟨c0, c1, c2, c3⟩ := blk4 B; obtain ⟨d0, d1, d2, d3⟩ := blk4 B2; have f2 := B.frozen 2; have g0 := B2.frozen 0; have g1 := B2.frozen 1; have g2 := B2.frozen 2; have g3 := B2.frozen 3)
      have G := Blk.set_ (Blk.set_ (Blk.set_ (Blk.set_ B2 0 (.bool false)) 1 (.int .i64 0)) 2 (.int .i64 0)) 3 (.int .i64 0)
      obtain ⟨q0, q1, q2, q3⟩ := blk4 (a := .bool false) (b := .int .i64 0) (c := .int .i64 0) (d := .int .i64 0) G
      refine ⟨rfl, .tuple #[pteV false 0 0 0, .int .i64 1], ?_, rfl, (((K.setCell (p := ⟨b + 1, 0, none⟩) (.inr (by simp; omega)) _).setCell (p := ⟨b + 1, 1, none⟩) (.inr (by simp; omega)) _).setCell (p := ⟨b + 1, 2, none⟩) (.inr (by simp; omega)) _).setCell (p := ⟨b + 1, 3, none⟩) (.inr (by simp; omega)) _⟩
      simp [results, go_sem, q0, q1, q2, q3]
    · have hzf : (z == 0) = false := by simpa using hz
      have hz' : (true && true && z != 0) = true := by simp [bne, hzf]
      rw [hz', if_pos rfl]
      go_enter Try.func21, Try.ntmps21
      go_wp2_with (go_at_call 57; refine Calls.mono (HR.out _) ?_; rintro e w1 ⟨rfl, k1⟩; replace B := B.chg k1 (by simp); replace B2 := B2.chg k1 (by simp); replace K := K.trans k1 (by simp); obtain ⟨c0, c1, c2, c3⟩ := blk4 B; obtain ⟨d0, d1, d2, d3⟩ := blk4 B2; have f2 := B.frozen 2; have g0 := B2.frozen 0; have g1 := B2.frozen 1; have g2 := B2.frozen 2; have g3 := B2.frozen 3; have ca : ∀ o, (w1.alloc o).cell? ⟨b, 2, none⟩ = some (.int .i64 r) := fun o => (B.alloc o).cell 2; have xb : b + 1 < w1.heap.size := B2.lt; have da0 : ∀ o u, ((w1.alloc o).setCell ⟨w1.heap.size, 2, none⟩ u).cell? ⟨b + 1, 0, none⟩ = some (.bool false) := fun o u => ((B2.alloc o).far (p := ⟨w1.heap.size, 2, none⟩) (by simp; omega) u).cell 0; have da1 : ∀ o u, ((w1.alloc o).setCell ⟨w1.heap.size, 2, none⟩ u).cell? ⟨b + 1, 1, none⟩ = some (.int .i64 0) := fun o u => ((B2.alloc o).far (p := ⟨w1.heap.size, 2, none⟩) (by simp; omega) u).cell 1; have da2 : ∀ o u, ((w1.alloc o).setCell ⟨w1.heap.size, 2, none⟩ u).cell? ⟨b + 1, 2, none⟩ = some (.int .i64 0) := fun o u => ((B2.alloc o).far (p := ⟨w1.heap.size, 2, none⟩) (by simp; omega) u).cell 2; have da3 : ∀ o u, ((w1.alloc o).setCell ⟨w1.heap.size, 2, none⟩ u).cell? ⟨b + 1, 3, none⟩ = some (.int .i64 0) := fun o u => ((B2.alloc o).far (p := ⟨w1.heap.size, 2, none⟩) (by simp; omega) u).cell 3)
      have G := (Blk.set_ (Blk.set_ (Blk.set_ (Blk.set_ B2 0 (.bool true)) 1 (.int .i64 f)) 2 (.int .i64 z)) 3 (.int .i64 t)).alloc (.cells (pteC true f z t) 23)
      obtain ⟨q0, q1, q2, q3⟩ := blk4 (a := .bool true) (b := .int .i64 f) (c := .int .i64 z) (d := .int .i64 t) G
      refine ⟨rfl, .tuple #[pteV true f z t, .int .i64 0], ?_, rfl, ((((K.setCell (p := ⟨b + 1, 0, none⟩) (.inr (by simp; omega)) _).setCell (p := ⟨b + 1, 1, none⟩) (.inr (by simp; omega)) _).setCell (p := ⟨b + 1, 2, none⟩) (.inr (by simp; omega)) _).setCell (p := ⟨b + 1, 3, none⟩) (.inr (by simp; omega)) _).alloc _⟩
      simp [results, go_sem, q0, q1, q2, q3]
  · have hz' : (R && on && z != 0) = false := by cases R <;> cases on <;> simp_all
    rw [hz']
    simp only [Bool.false_eq_true, if_false]
    cases R
    all_goals try cases on
    case neg.true.true => exact absurd ⟨rfl, rfl⟩ hall
    all_goals
      clear hall hz'
      go_enter Try.func21, Try.ntmps21
      go_wp2_with (go_at_call 57; refine Calls.mono (HR.out _) ?_; rintro e w1 ⟨rfl, k1⟩; replace B := B.chg k1 (by simp); replace B2 := B2.chg k1 (by simp); replace K := K.trans k1 (by simp); obtain ⟨c0, c1, c2, c3⟩ := blk4 B; obtain ⟨d0, d1, d2, d3⟩ := blk4 B2; have f2 := B.frozen 2; have g0 := B2.frozen 0; have g1 := B2.frozen 1; have g2 := B2.frozen 2; have g3 := B2.frozen 3)
      have G := Blk.set_ (Blk.set_ (Blk.set_ (Blk.set_ B2 0 (.bool false)) 1 (.int .i64 0)) 2 (.int .i64 0)) 3 (.int .i64 0)
      obtain ⟨q0, q1, q2, q3⟩ := blk4 (a := .bool false) (b := .int .i64 0) (c := .int .i64 0) (d := .int .i64 0) G
      refine ⟨rfl, .tuple #[pteV false 0 0 0, .int .i64 1], ?_, rfl, (((K.setCell (p := ⟨b + 1, 0, none⟩) (.inr (by simp; omega)) _).setCell (p := ⟨b + 1, 1, none⟩) (.inr (by simp; omega)) _).setCell (p := ⟨b + 1, 2, none⟩) (.inr (by simp; omega)) _).setCell (p := ⟨b + 1, 3, none⟩) (.inr (by simp; omega)) _⟩
      simp [results, go_sem, q0, q1, q2, q3]

theorem numsA4 {w : World} {b : Nat} (h : Blk w b 3 w4C) : Nums w .i64 (some ⟨b, 0, none⟩) 4 W4 := by
  refine Nums.of_blk (xs := W4) h (by decide) ?_
  intro j hj
  have : j = 0 ∨ j = 1 ∨ j = 2 ∨ j = 3 := by simp at hj; omega
  rcases this with rfl | rfl | rfl | rfl <;> rfl

set_option maxRecDepth 100000 in
set_option maxHeartbeats 2000000 in
theorem putW_ok (on : Bool) (f r t : Int) (w : World) : Calls Try.prog 19 #[pteV on f r t] w fun e w' => e = .returned (.tuple #[.int .u64 (putWord on f r t), .int .i64 (errB (rightB on f r t))]) ∧ Chg [] w w' := by
  unfold putWord
  have hR := fun h => pack_right (on := on) (f := f) (r := r) (t := t) h
  have hbd := fun h => right_bd (on := on) (f := f) (r := r) (t := t) h
  have HR : ∀ w, Calls Try.prog 57 #[pteV on f r t] w fun e w' => e = .returned (.bool (rightB on f r t)) ∧ Chg [] w w' := right_ok on f r t
  generalize rightB on f r t = R at *
  have HR' : Hid (∀ w, Calls Try.prog 57 #[pteV on f r t] w fun e w' => e = .returned (.bool R) ∧ Chg [] w w') := HR
  clear HR
  have B := Blk.new w 23 (pteC on f r t)
  have K := (Chg.refl [] w).alloc (.cells (pteC on f r t) 23)
  cases R with
  | false =>
    clear hR hbd
    go_enter Try.func19, Try.ntmps19
    go_wp2_with (go_at_call 57; refine Calls.mono (HR'.out _) ?_; rintro e w1 ⟨rfl, k1⟩; replace K := K.trans k1 (by simp))
    go_ret2
    exact ⟨rfl, K⟩
  | true =>
    have HP : Hid (packS W4 [b2i on, f, r, t] = (wordOf on f r t, 0)) := hR rfl
    obtain ⟨f0, f1, r0, r1, t0, t1⟩ := hbd rfl
    have hvs : ∀ x ∈ [b2i on, f, r, t], 0 ≤ x ∧ x < 18446744073709551616 := by
      have := b2i_bd on
      intro x hx
      simp at hx
      rcases hx with rfl | rfl | rfl | rfl <;> omega
    have HVS : Hid (∀ x ∈ [b2i on, f, r, t], 0 ≤ x ∧ x < 18446744073709551616) := hvs
    rw [if_pos rfl]
    have HW : Hid (∀ z, z = wordOf on f r t → z = wordOf on f r t) := fun _ h => h
    clear hR hbd hvs
    cases on with
    | false =>
      go_enter Try.func19, Try.ntmps19
      go_wp2_with (go_at_call 57; refine Calls.mono (HR'.out _) ?_; rintro e w1 ⟨rfl, k1⟩; replace B := B.chg k1 (by simp); replace K := K.trans k1 (by simp); obtain ⟨c0, c1, c2, c3⟩ := blk4 B; have ca1 : ∀ o, (w1.alloc o).cell? ⟨w.heap.size, 1, none⟩ = some (.int .i64 f) := fun o => (B.alloc o).cell 1; have ca2 : ∀ o, (w1.alloc o).cell? ⟨w.heap.size, 2, none⟩ = some (.int .i64 r) := fun o => (B.alloc o).cell 2; have ca3 : ∀ o, (w1.alloc o).cell? ⟨w.heap.size, 3, none⟩ = some (.int .i64 t) := fun o => (B.alloc o).cell 3)
      have hB := (Blk.new w1 3 w4C).alloc (.cells #[.int .u64 (b2i false), .int .u64 f, .int .u64 r, .int .u64 t] 31)
      have hA := numsA4 hB
      have hN := numsOf4 (W := (w1.alloc (.cells w4C 3)).alloc (.cells #[.int .u64 (b2i false), .int .u64 f, .int .u64 r, .int .u64 t] 31)) (b := w1.heap.size + 1) (Blk.new' (w1.alloc (.cells w4C 3)) _ _ (by simp))
      have hp := RefPack.pack_ok (some ⟨w1.heap.size, 0, none⟩) (some ⟨w1.heap.size + 1, 0, none⟩) 4 4 4 4 W4 [b2i false, f, r, t] _ hA hN rfl HVS.out
      rw [HP.out] at hp
      refine Calls.mono hp ?_
      rintro e w2 ⟨rfl, qq, k2⟩
      have K2 : Chg [] w w2 := by rw [k2]; exact ((K.alloc _).alloc _).drewN qq
      clear hp hN hA hB k2 k1 K B
      go_wp2
      go_ret2
      exact ⟨rfl, K2⟩
    | true =>
      go_enter Try.func19, Try.ntmps19
      go_wp2_with (go_at_call 57; refine Calls.mono (HR'.out _) ?_; rintro e w1 ⟨rfl, k1⟩; replace B := B.chg k1 (by simp); replace K := K.trans k1 (by simp); obtain ⟨c0, c1, c2, c3⟩ := blk4 B; have ca1 : ∀ o, (w1.alloc o).cell? ⟨w.heap.size, 1, none⟩ = some (.int .i64 f) := fun o => (B.alloc o).cell 1; have ca2 : ∀ o, (w1.alloc o).cell? ⟨w.heap.size, 2, none⟩ = some (.int .i64 r) := fun o => (B.alloc o).cell 2; have ca3 : ∀ o, (w1.alloc o).cell? ⟨w.heap.size, 3, none⟩ = some (.int .i64 t) := fun o => (B.alloc o).cell 3)
      have hB := (Blk.new w1 3 w4C).alloc (.cells #[.int .u64 (b2i true), .int .u64 f, .int .u64 r, .int .u64 t] 31)
      have hA := numsA4 hB
      have hN := numsOf4 (W := (w1.alloc (.cells w4C 3)).alloc (.cells #[.int .u64 (b2i true), .int .u64 f, .int .u64 r, .int .u64 t] 31)) (b := w1.heap.size + 1) (Blk.new' (w1.alloc (.cells w4C 3)) _ _ (by simp))
      have hp := RefPack.pack_ok (some ⟨w1.heap.size, 0, none⟩) (some ⟨w1.heap.size + 1, 0, none⟩) 4 4 4 4 W4 [b2i true, f, r, t] _ hA hN rfl HVS.out
      rw [HP.out] at hp
      refine Calls.mono hp ?_
      rintro e w2 ⟨rfl, qq, k2⟩
      have K2 : Chg [] w w2 := by rw [k2]; exact ((K.alloc _).alloc _).drewN qq
      clear hp hN hA hB k2 k1 K B
      go_wp2
      go_ret2
      exact ⟨rfl, K2⟩

set_option maxRecDepth 100000 in
set_option maxHeartbeats 2000000 in
theorem getW_ok (u : Int) (w : World) (h0 : 0 ≤ u) (h1 : u < 18446744073709551616) : Calls Try.prog 20 #[.int .u64 u] w fun e w' => e = .returned (.tuple #[getV u, .int .i64 (getE u)]) ∧ Chg [] w w' := by
  obtain ⟨b, eb⟩ : ∃ b, w.heap.size = b := ⟨_, rfl⟩
  have B := Blk.new' w 23 (pteC false 0 0 0) eb
  have K := (Chg.refl [] w).alloc (.cells (pteC false 0 0 0) 23)
  have hun := unp4 h0 h1
  have hU := fun A c W hn => RefUnpack.unpack_ok A 4 c W4 u W hn h0 h1
  by_cases hs : u < 1099511627776
  · have hok : UnpOk W4 u := hun.1.2 hs
    obtain ⟨r1, r2⟩ := RefUnpack.unp_good hok
    rw [show W4.length = 4 from rfl, hun.2] at r1
    have hG : getOk u = rightB (u % 2 == 1) (u / 2 % 64) (u / 128 % 4) (u / 512 % 2147483648) := by unfold getOk; rw [decide_eq_true hs]; rfl
    unfold getV getE
    rw [hG]
    have z0 : 0 ≤ u % 2 ∧ u % 2 < 2 := by omega
    have z1 : 0 ≤ u / 2 % 64 ∧ u / 2 % 64 < 64 := by omega
    have z2 : 0 ≤ u / 128 % 4 ∧ u / 128 % 4 < 4 := by omega
    have z3 : 0 ≤ u / 512 % 2147483648 ∧ u / 512 % 2147483648 < 2147483648 := by omega
    generalize u % 2 = y0 at *
    generalize u / 2 % 64 = y1 at *
    generalize u / 128 % 4 = y2 at *
    generalize u / 512 % 2147483648 = y3 at *
    obtain ⟨on, eon⟩ : ∃ on, (y0 == 1) = on := ⟨_, rfl⟩
    rw [eon]
    have HUN : Hid (∀ A c W, Nums W .i64 A 4 W4 → Calls Try.prog 59 #[.slice A 4 c, .int .u64 u] W fun e w' => ∃ v, e = .returned (.tuple #[v, .int .i64 0]) ∧ w'.ownsRow 0 31 1 v 4 (nums .u64 [y0, y1, y2, y3]) ∧ (∀ g, v.ownBlock = some g → W.heap.size ≤ g) ∧ Chg [] W w') := fun A c W hn => by
      have := hU A c W hn
      rw [r1, r2] at this
      exact this
    have HR : ∀ w, Calls Try.prog 57 #[pteV on y1 y2 y3] w fun e w' => e = .returned (.bool (rightB on y1 y2 y3)) ∧ Chg [] w w' := right_ok on y1 y2 y3
    generalize rightB on y1 y2 y3 = R at *
    have HR' : Hid (∀ w, Calls Try.prog 57 #[pteV on y1 y2 y3] w fun e w' => e = .returned (.bool R) ∧ Chg [] w w') := HR
    clear HR hU r1 r2 hun hok hG
    obtain ⟨z00, z01⟩ := z0
    obtain ⟨z10, z11⟩ := z1
    obtain ⟨z20, z21⟩ := z2
    obtain ⟨z30, z31⟩ := z3
    go_enter Try.func20, Try.ntmps20
    go_wp2_with fail
    have hN := numsA4 (b := b + 1) (Blk.new' (w.alloc (.cells (pteC false 0 0 0) 23)) 3 w4C (by simp; omega))
    refine Calls.mono (HUN.out _ _ _ hN) ?_
    rintro e w2 ⟨v, rfl, o1, q1, k2⟩
    replace B := (B.alloc (.cells w4C 3)).chg k2 (by simp)
    replace K := (K.alloc (.cells w4C 3)).trans k2 (by simp)
    obtain ⟨q, cap, rfl, -, hlq⟩ := o1.form (by decide)
    have d0 : w2.cell? ⟨q, 0, none⟩ = some (.int .u64 y0) := o1.cellAt 0 (by decide)
    have d1 : w2.cell? ⟨q, 1, none⟩ = some (.int .u64 y1) := o1.cellAt 1 (by decide)
    have d2 : w2.cell? ⟨q, 2, none⟩ = some (.int .u64 y2) := o1.cellAt 2 (by decide)
    have d3 : w2.cell? ⟨q, 3, none⟩ = some (.int .u64 y3) := o1.cellAt 3 (by decide)
    clear k2 hN HUN o1 q1
    have v1 : IntKind.i64.wrap y1 = y1 := by rw [IntKind.wrap_i64]; omega
    have v2 : IntKind.i64.wrap y2 = y2 := by rw [IntKind.wrap_i64]; omega
    have v3 : IntKind.i64.wrap y3 = y3 := by rw [IntKind.wrap_i64]; omega
    go_wp2
    go_region_held3 (fun V => V.cell? ⟨q, 0, none⟩ = some (.int .u64 y0) ∧ V.cell? ⟨q, 1, none⟩ = some (.int .u64 y1) ∧ V.cell? ⟨q, 2, none⟩ = some (.int .u64 y2) ∧ V.cell? ⟨q, 3, none⟩ = some (.int .u64 y3)) (go_keep) (fail)
    obtain ⟨x, ex⟩ : ∃ x, w2.heap.size = x := ⟨_, rfl⟩
    have B3 := (Blk.new' w2 23 (pteC on y1 y2 y3) ex).drew
    replace B := (B.alloc (.cells (pteC on y1 y2 y3) 23)).drew
    replace K := (K.alloc (.cells (pteC on y1 y2 y3) 23)).drew
    obtain ⟨c0, c1, c2, c3⟩ := blk4 B3
    clear d0 d1 d2 d3
    cases R with
    | false =>
      go_wp2_with (go_at_call 57; refine Calls.mono (HR'.out _) ?_; rintro e w1 ⟨rfl, k1⟩; replace B := B.chg k1 (by simp); replace B3 := B3.chg k1 (by simp); replace K := K.trans k1 (by simp); obtain ⟨c0, c1, c2, c3⟩ := blk4 B3; obtain ⟨e0, e1, e2, e3⟩ := blk4 B; have g0 := B.frozen 0; have g1 := B.frozen 1; have g2 := B.frozen 2; have g3 := B.frozen 3)
      have G := Blk.set_ (Blk.set_ (Blk.set_ (Blk.set_ B 0 (.bool false)) 1 (.int .i64 0)) 2 (.int .i64 0)) 3 (.int .i64 0)
      obtain ⟨q0, q1, q2, q3⟩ := blk4 (a := .bool false) (b := .int .i64 0) (c := .int .i64 0) (d := .int .i64 0) G
      refine ⟨rfl, .tuple #[pteV false 0 0 0, .int .i64 12], ?_, rfl, (((K.setCell (p := ⟨b, 0, none⟩) (.inr (by simp; omega)) _).setCell (p := ⟨b, 1, none⟩) (.inr (by simp; omega)) _).setCell (p := ⟨b, 2, none⟩) (.inr (by simp; omega)) _).setCell (p := ⟨b, 3, none⟩) (.inr (by simp; omega)) _⟩
      simp [results, go_sem, q0, q1, q2, q3]
    | true =>
      go_wp2_with (go_at_call 57; refine Calls.mono (HR'.out _) ?_; rintro e w1 ⟨rfl, k1⟩; replace B := B.chg k1 (by simp); replace B3 := B3.chg k1 (by simp); replace K := K.trans k1 (by simp); obtain ⟨c0, c1, c2, c3⟩ := blk4 B3; obtain ⟨e0, e1, e2, e3⟩ := blk4 B; have g0 := B.frozen 0; have g1 := B.frozen 1; have g2 := B.frozen 2; have g3 := B.frozen 3)
      have G := Blk.set_ (Blk.set_ (Blk.set_ (Blk.set_ B 0 (.bool on)) 1 (.int .i64 y1)) 2 (.int .i64 y2)) 3 (.int .i64 y3)
      obtain ⟨q0, q1, q2, q3⟩ := blk4 (a := .bool on) (b := .int .i64 y1) (c := .int .i64 y2) (d := .int .i64 y3) G
      refine ⟨rfl, .tuple #[pteV on y1 y2 y3, .int .i64 0], ?_, rfl, (((K.setCell (p := ⟨b, 0, none⟩) (.inr (by simp; omega)) _).setCell (p := ⟨b, 1, none⟩) (.inr (by simp; omega)) _).setCell (p := ⟨b, 2, none⟩) (.inr (by simp; omega)) _).setCell (p := ⟨b, 3, none⟩) (.inr (by simp; omega)) _⟩
      simp [results, go_sem, q0, q1, q2, q3]
  · have hno : ¬ UnpOk W4 u := fun h => hs (hun.1.1 h)
    obtain ⟨r1, r2⟩ := RefUnpack.unp_bad hno
    have hG : getOk u = false := by unfold getOk; rw [decide_eq_false hs]; rfl
    unfold getV getE
    rw [hG]
    have HUN : Hid (∀ A c W, Nums W .i64 A 4 W4 → Calls Try.prog 59 #[.slice A 4 c, .int .u64 u] W fun e w' => ∃ v, e = .returned (.tuple #[v, .int .i64 1]) ∧ Chg [] W w') := fun A c W hn => by
      have := hU A c W hn
      rw [r2] at this
      exact this.mono fun _ _ ⟨v, h1, _, _, h4⟩ => ⟨v, h1, h4⟩
    clear hU r1 r2 hun hno hG
    go_enter Try.func20, Try.ntmps20
    go_wp2_with fail
    have hN := numsA4 (b := b + 1) (Blk.new' (w.alloc (.cells (pteC false 0 0 0) 23)) 3 w4C (by simp; omega))
    refine Calls.mono (HUN.out _ _ _ hN) ?_
    rintro e w2 ⟨v, rfl, k2⟩
    replace B := (B.alloc (.cells w4C 3)).chg k2 (by simp)
    replace K := (K.alloc (.cells w4C 3)).trans k2 (by simp)
    obtain ⟨e0, e1, e2, e3⟩ := blk4 B
    have g0 := B.frozen 0
    have g1 := B.frozen 1
    have g2 := B.frozen 2
    have g3 := B.frozen 3
    clear k2 hN HUN
    go_wp2
    have G := Blk.set_ (Blk.set_ (Blk.set_ (Blk.set_ B 0 (.bool false)) 1 (.int .i64 0)) 2 (.int .i64 0)) 3 (.int .i64 0)
    obtain ⟨q0, q1, q2, q3⟩ := blk4 (a := .bool false) (b := .int .i64 0) (c := .int .i64 0) (d := .int .i64 0) G
    refine ⟨rfl, .tuple #[pteV false 0 0 0, .int .i64 12], ?_, rfl, (((K.setCell (p := ⟨b, 0, none⟩) (.inr (by simp; omega)) _).setCell (p := ⟨b, 1, none⟩) (.inr (by simp; omega)) _).setCell (p := ⟨b, 2, none⟩) (.inr (by simp; omega)) _).setCell (p := ⟨b, 3, none⟩) (.inr (by simp; omega)) _⟩
    simp [results, go_sem, q0, q1, q2, q3]
end Go.Proofs.Ytddjkejliogenaa.PteRef
