/- PteBack's walk. -/
import Derived.Test.YtddjkejliogenaaPteW
import Derived.Test.YtddjkejliogenaaPteLess
namespace Go.Proofs.Ytddjkejliogenaa.PteBack
open Go Go.RowKit Go.Proofs.Ytddjkejliogenaa Go.Proofs.Ytddjkejliogenaa.Heap Go.Proofs.Ytddjkejliogenaa.Bits Go.Proofs.Ytddjkejliogenaa.Field Go.Proofs.Ytddjkejliogenaa.Pte Go.Proofs.Ytddjkejliogenaa.PteW

theorem word_bd {on : Bool} {f r t : Int} (h : rightB on f r t = true) : 0 ≤ wordOf on f r t ∧ wordOf on f r t < 1099511627776 := by
  have := right_bd h
  have := b2i_bd on
  unfold wordOf
  omega
theorem get_word {on : Bool} {f r t : Int} (h : rightB on f r t = true) : getV (wordOf on f r t) = pteV on f r t ∧ getE (wordOf on f r t) = 0 := by
  have hb := right_bd h
  have hw := word_bd h
  have e0 : (wordOf on f r t % 2 == 1) = on := by
    unfold wordOf b2i
    cases on
    · simp; omega
    · simp; omega
  have hon := b2i_bd on
  have e1 : wordOf on f r t / 2 % 64 = f := by unfold wordOf; omega
  have e2 : wordOf on f r t / 128 % 4 = r := by unfold wordOf; omega
  have e3 : wordOf on f r t / 512 % 2147483648 = t := by unfold wordOf; omega
  have hok : getOk (wordOf on f r t) = true := by
    unfold getOk
    rw [e0, e1, e2, e3, h, decide_eq_true hw.2]
    rfl
  unfold getV getE
  rw [hok, e0, e1, e2, e3]
  exact ⟨if_pos rfl, if_pos rfl⟩
theorem word_get {u : Int} (h0 : 0 ≤ u) (h : getOk u = true) : ∃ on f r t, getV u = pteV on f r t ∧ getE u = 0 ∧ rightB on f r t = true ∧ wordOf on f r t = u := by
  have h' := h
  unfold getOk at h'
  rw [Bool.and_eq_true] at h'
  have hlt := of_decide_eq_true h'.1
  refine ⟨_, _, _, _, if_pos h, if_pos h, h'.2, ?_⟩
  unfold wordOf b2i
  by_cases ho : u % 2 = 1
  · simp only [ho]; simp; omega
  · have : (u % 2 == 1) = false := by simpa using ho
    rw [this]; simp; omega

set_option maxRecDepth 100000 in
set_option maxHeartbeats 4000000 in
theorem pteBack_walk (on : Bool) (f r t u : Int) (w : World) (h0 : 0 ≤ u) (h1 : u < 18446744073709551616) : Calls Try.prog 4 #[pteV on f r t, .int .u64 u] w fun e w' => e = .returned (.bool true) ∧ Chg [] w w' := by
  obtain ⟨g, eg⟩ : ∃ g, w.heap.size = g := ⟨_, rfl⟩
  have B := Blk.new' w 23 (pteC on f r t) eg
  have K := (Chg.refl [] w).alloc (.cells (pteC on f r t) 23)
  have HP := putW_ok on f r t
  have HC := check_ok on f r t
  have hw := fun h => word_bd (on := on) (f := f) (r := r) (t := t) h
  have hg := fun h => get_word (on := on) (f := f) (r := r) (t := t) h
  unfold putWord at HP
  generalize rightB on f r t = R at *
  cases R with
  | true =>
    have HP' : Hid (∀ w, Calls Try.prog 17 #[pteV on f r t] w fun e w' => e = .returned (.tuple #[.int .u64 (wordOf on f r t), .int .i64 0]) ∧ Chg [] w w') := HP
    have HC' : Hid (∀ w, Calls Try.prog 14 #[pteV on f r t] w fun e w' => e = .returned (.int .i64 0) ∧ Chg [] w w') := HC
    obtain ⟨w0, w1⟩ := hw rfl
    obtain ⟨g1, g2⟩ := hg rfl
    have HG := fun W => getW_ok (wordOf on f r t) W w0 (by omega)
    rw [g1, g2] at HG
    have HG' : Hid (∀ W, Calls Try.prog 18 #[.int .u64 (wordOf on f r t)] W fun e w' => e = .returned (.tuple #[pteV on f r t, .int .i64 0]) ∧ Chg [] W w') := HG
    clear HP HC hw hg HG g1 g2
    generalize wordOf on f r t = x at *
    go_enter Try.func4, Try.ntmps4
    go_wp2_with fail
    refine Calls.mono (HP'.out _) ?_
    rintro e w1 ⟨rfl, k1⟩
    replace B := B.chg k1 (by simp)
    replace K := K.trans k1 (by simp)
    go_wp2_with fail
    refine Calls.mono (HG'.out _) ?_
    rintro e w2 ⟨rfl, k2⟩
    replace B := B.chg k2 (by simp)
    replace K := K.trans k2 (by simp)
    obtain ⟨c0, c1, c2, c3⟩ := blk4 (B.alloc (.cells (pteC on f r t) 23))
    replace K := K.alloc (.cells (pteC on f r t) 23)
    go_wp2_with fail
    replace B := B.alloc (.cells (pteC on f r t) 23)
    clear c0 c1 c2 c3 k1 k2
    by_cases hG : getOk u = true
    · obtain ⟨on', f', r', t', v1, v2, v3, v4⟩ := word_get h0 hG
      have HGu := fun W => getW_ok u W h0 h1
      rw [v1, v2] at HGu
      have HPu := putW_ok on' f' r' t'
      unfold putWord at HPu
      have HCu := check_ok on' f' r' t'
      rw [v3, v4] at HPu
      rw [v3] at HCu
      have HP2 : Hid (∀ w, Calls Try.prog 17 #[pteV on' f' r' t'] w fun e w' => e = .returned (.tuple #[.int .u64 u, .int .i64 0]) ∧ Chg [] w w') := HPu
      have HC2 : Hid (∀ w, Calls Try.prog 14 #[pteV on' f' r' t'] w fun e w' => e = .returned (.int .i64 0) ∧ Chg [] w w') := HCu
      have tU : (u == u) = true := by simp
      refine Calls.mono (HGu _) ?_
      rintro e w3 ⟨rfl, k3⟩
      replace K := K.trans k3 (by simp)
      obtain ⟨x9, e9⟩ : ∃ x, w3.heap.size = x := ⟨_, rfl⟩
      have B9 := Blk.new' w3 23 (pteC on' f' r' t') e9
      replace K := K.alloc (.cells (pteC on' f' r' t') 23)
      obtain ⟨d0, d1, d2, d3⟩ := blk4 B9
      clear HGu HPu HCu v1 v2 v3 v4 hG k3
      go_wp2_with fail
      refine Calls.mono (HP2.out _) ?_
      rintro e w4 ⟨rfl, k4⟩
      replace K := K.trans k4 (by simp)
      replace B9 := B9.chg k4 (by simp)
      clear d0 d1 d2 d3 k4
      obtain ⟨d0, d1, d2, d3⟩ := blk4 B9
      go_wp2_with fail
      refine Calls.mono (HC2.out _) ?_
      rintro e w5 ⟨rfl, k5⟩
      replace K := K.trans k5 (by simp)
      clear d0 d1 d2 d3 k5
      go_wp2_with fail
      refine Calls.mono (PteLess.awake_ok _) ?_
      rintro e w6 ⟨rfl, k6⟩
      replace K := K.trans k6 (by simp)
      go_wp2
      go_ret
      exact ⟨rfl, K⟩
    · have v1 : getV u = pteV false 0 0 0 := if_neg hG
      have v2 : getE u = 12 := if_neg hG
      have HGu := fun W => getW_ok u W h0 h1
      rw [v1, v2] at HGu
      refine Calls.mono (HGu _) ?_
      rintro e w3 ⟨rfl, k3⟩
      replace K := K.trans k3 (by simp)
      replace B := B.chg k3 (by simp)
      obtain ⟨x9, e9⟩ : ∃ x, w3.heap.size = x := ⟨_, rfl⟩
      have B9 := Blk.new' w3 23 (pteC false 0 0 0) e9
      replace K := K.alloc (.cells (pteC false 0 0 0) 23)
      replace B := B.alloc (.cells (pteC false 0 0 0) 23)
      obtain ⟨d0, d1, d2, d3⟩ := blk4 B9
      obtain ⟨c0, c1, c2, c3⟩ := blk4 B
      clear HGu v1 v2 hG k3
      go_wp2_with fail
      refine Calls.mono (HC'.out _) ?_
      rintro e w5 ⟨rfl, k5⟩
      replace K := K.trans k5 (by simp)
      clear d0 d1 d2 d3 c0 c1 c2 c3 k5
      go_wp2_with fail
      refine Calls.mono (PteLess.awake_ok _) ?_
      rintro e w6 ⟨rfl, k6⟩
      replace K := K.trans k6 (by simp)
      go_wp2
      go_ret
      exact ⟨rfl, K⟩
  | false =>
    have HP' : Hid (∀ w, Calls Try.prog 17 #[pteV on f r t] w fun e w' => e = .returned (.tuple #[.int .u64 0, .int .i64 1]) ∧ Chg [] w w') := HP
    have HC' : Hid (∀ w, Calls Try.prog 14 #[pteV on f r t] w fun e w' => e = .returned (.int .i64 1) ∧ Chg [] w w') := HC
    clear HP HC hw hg
    go_enter Try.func4, Try.ntmps4
    go_wp2_with fail
    refine Calls.mono (HP'.out _) ?_
    rintro e w1 ⟨rfl, k1⟩
    replace B := B.chg k1 (by simp)
    replace K := K.trans k1 (by simp)
    clear k1
    go_wp2_with fail
    by_cases hG : getOk u = true
    · obtain ⟨on', f', r', t', v1, v2, v3, v4⟩ := word_get h0 hG
      have HGu := fun W => getW_ok u W h0 h1
      rw [v1, v2] at HGu
      have HPu := putW_ok on' f' r' t'
      unfold putWord at HPu
      have HCu := check_ok on' f' r' t'
      rw [v3, v4] at HPu
      rw [v3] at HCu
      have HP2 : Hid (∀ w, Calls Try.prog 17 #[pteV on' f' r' t'] w fun e w' => e = .returned (.tuple #[.int .u64 u, .int .i64 0]) ∧ Chg [] w w') := HPu
      have HC2 : Hid (∀ w, Calls Try.prog 14 #[pteV on' f' r' t'] w fun e w' => e = .returned (.int .i64 0) ∧ Chg [] w w') := HCu
      have tU : (u == u) = true := by simp
      refine Calls.mono (HGu _) ?_
      rintro e w3 ⟨rfl, k3⟩
      replace K := K.trans k3 (by simp)
      obtain ⟨x9, e9⟩ : ∃ x, w3.heap.size = x := ⟨_, rfl⟩
      have B9 := Blk.new' w3 23 (pteC on' f' r' t') e9
      replace K := K.alloc (.cells (pteC on' f' r' t') 23)
      obtain ⟨d0, d1, d2, d3⟩ := blk4 B9
      clear HGu HPu HCu v1 v2 v3 v4 hG k3
      go_wp2_with fail
      refine Calls.mono (HP2.out _) ?_
      rintro e w4 ⟨rfl, k4⟩
      replace K := K.trans k4 (by simp)
      replace B9 := B9.chg k4 (by simp)
      clear d0 d1 d2 d3 k4
      obtain ⟨d0, d1, d2, d3⟩ := blk4 B9
      go_wp2_with fail
      refine Calls.mono (HC2.out _) ?_
      rintro e w5 ⟨rfl, k5⟩
      replace K := K.trans k5 (by simp)
      clear d0 d1 d2 d3 k5
      go_wp2_with fail
      refine Calls.mono (PteLess.awake_ok _) ?_
      rintro e w6 ⟨rfl, k6⟩
      replace K := K.trans k6 (by simp)
      go_wp2
      go_ret
      exact ⟨rfl, K⟩
    · have v1 : getV u = pteV false 0 0 0 := if_neg hG
      have v2 : getE u = 12 := if_neg hG
      have HGu := fun W => getW_ok u W h0 h1
      rw [v1, v2] at HGu
      refine Calls.mono (HGu _) ?_
      rintro e w3 ⟨rfl, k3⟩
      replace K := K.trans k3 (by simp)
      replace B := B.chg k3 (by simp)
      obtain ⟨x9, e9⟩ : ∃ x, w3.heap.size = x := ⟨_, rfl⟩
      have B9 := Blk.new' w3 23 (pteC false 0 0 0) e9
      replace K := K.alloc (.cells (pteC false 0 0 0) 23)
      replace B := B.alloc (.cells (pteC false 0 0 0) 23)
      obtain ⟨d0, d1, d2, d3⟩ := blk4 B9
      obtain ⟨c0, c1, c2, c3⟩ := blk4 B
      clear HGu v1 v2 hG k3
      go_wp2_with fail
      refine Calls.mono (HC'.out _) ?_
      rintro e w5 ⟨rfl, k5⟩
      replace K := K.trans k5 (by simp)
      clear d0 d1 d2 d3 c0 c1 c2 c3 k5
      go_wp2_with fail
      refine Calls.mono (PteLess.awake_ok _) ?_
      rintro e w6 ⟨rfl, k6⟩
      replace K := K.trans k6 (by simp)
      go_wp2
      go_ret
      exact ⟨rfl, K⟩
end Go.Proofs.Ytddjkejliogenaa.PteBack
