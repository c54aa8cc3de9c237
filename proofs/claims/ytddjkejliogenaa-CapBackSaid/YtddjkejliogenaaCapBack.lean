/- CapBack's walk. -/
import Derived.Test.YtddjkejliogenaaCapPut
import Derived.Test.YtddjkejliogenaaCapGet
import Derived.Test.YtddjkejliogenaaCapUnder
namespace Go.Proofs.Ytddjkejliogenaa.CapBack
open Go Go.RowKit Go.Proofs.Ytddjkejliogenaa Go.Proofs.Ytddjkejliogenaa.Heap Go.Proofs.Ytddjkejliogenaa.Bits Go.Proofs.Ytddjkejliogenaa.Field Go.Proofs.Ytddjkejliogenaa.Cap Go.Proofs.Ytddjkejliogenaa.CapW Go.Proofs.Ytddjkejliogenaa.CapPut Go.Proofs.Ytddjkejliogenaa.CapGet

theorem get_word {k r t l e a : Int} (h : rightC k r t l e a = true) : (0 ≤ capWord k r t l e ∧ capWord k r t l e < 137438953472) ∧ (0 ≤ a ∧ a < 1073741825) ∧ getCV (capWord k r t l e) a = capV k r t l e a ∧ getCE (capWord k r t l e) a = 0 := by
  have hs := sized_bd (right_sized h)
  have hw : 0 ≤ capWord k r t l e ∧ capWord k r t l e < 137438953472 := by unfold capWord; omega
  have e0 : capWord k r t l e % 16 = k := by unfold capWord; omega
  have e1 : capWord k r t l e / 16 % 32 = r := by unfold capWord; omega
  have e2 : capWord k r t l e / 512 % 64 = t := by unfold capWord; omega
  have e3 : capWord k r t l e / 32768 % 64 = l := by unfold capWord; omega
  have e4 : capWord k r t l e / 2097152 % 65536 = e := by unfold capWord; omega
  have hok : getCok (capWord k r t l e) a = true := by
    unfold getCok
    rw [e0, e1, e2, e3, e4, h, decide_eq_true ⟨hw.2, by omega⟩]
    rfl
  refine ⟨hw, hs.2.2.2.2.2, ?_, ?_⟩
  · unfold getCV; rw [hok, e0, e1, e2, e3, e4]; exact if_pos rfl
  · unfold getCE; rw [hok]; exact if_pos rfl
theorem word_get {u s : Int} (h0 : 0 ≤ u) (h : getCok u s = true) : ∃ k r t l e, getCV u s = capV k r t l e s ∧ getCE u s = 0 ∧ rightC k r t l e s = true ∧ capWord k r t l e = u := by
  have h' := h
  unfold getCok at h'
  rw [Bool.and_eq_true] at h'
  have hlt := of_decide_eq_true h'.1
  refine ⟨_, _, _, _, _, if_pos h, if_pos h, h'.2, ?_⟩
  unfold capWord
  omega

set_option maxRecDepth 100000 in
set_option maxHeartbeats 4000000 in
theorem capBack_walk (k r t l e a u s : Int) (w : World) (h0 : 0 ≤ u) (h1 : u < 18446744073709551616) (s0 : 0 ≤ s) (s1 : s < 18446744073709551616) : Calls Try.prog 7 #[capV k r t l e a, .int .u64 u, .int .u64 s] w fun e' w' => e' = .returned (.bool true) ∧ Chg [] w w' := by
  obtain ⟨g, eg⟩ : ∃ g, w.heap.size = g := ⟨_, rfl⟩
  have B := Blk.new' w 44 (capC k r t l e a) eg
  have K := (Chg.refl [] w).alloc (.cells (capC k r t l e a) 44)
  have HP := putC_ok k r t l e a
  have HC := check_ok k r t l e a
  have hg := fun h => get_word (k := k) (r := r) (t := t) (l := l) (e := e) (a := a) h
  unfold putC1 putC2 at HP
  generalize rightC k r t l e a = R at *
  cases R with
  | true =>
    have HP' : Hid (∀ w, Calls Try.prog 29 #[capV k r t l e a] w fun e' w' => e' = .returned (.tuple #[.int .u64 (capWord k r t l e), .int .u64 a, .int .i64 0]) ∧ Chg [] w w') := HP
    have HC' : Hid (∀ w, Calls Try.prog 26 #[capV k r t l e a] w fun e' w' => e' = .returned (.int .i64 0) ∧ Chg [] w w') := HC
    obtain ⟨⟨w0, w1⟩, ⟨w2, w3⟩, g1, g2⟩ := hg rfl
    have HG := fun W => getC_ok (capWord k r t l e) a W w0 (by omega) w2 (by omega)
    rw [g1, g2] at HG
    have HG' : Hid (∀ W, Calls Try.prog 30 #[.int .u64 (capWord k r t l e), .int .u64 a] W fun e' w' => e' = .returned (.tuple #[capV k r t l e a, .int .i64 0]) ∧ Chg [] W w') := HG
    clear HP HC hg HG g1 g2
    generalize capWord k r t l e = x at *
    go_enter Try.func7, Try.ntmps7
    go_wp2_with fail
    refine Calls.mono (HP'.out _) ?_
    rintro e'' w1 ⟨rfl, k1⟩
    replace B := B.chg k1 (by simp)
    replace K := K.trans k1 (by simp)
    go_wp2_with fail
    refine Calls.mono (HG'.out _) ?_
    rintro e'' w2 ⟨rfl, k2⟩
    replace B := B.chg k2 (by simp)
    replace K := K.trans k2 (by simp)
    obtain ⟨c0, c1, c2, c3, c4, c5⟩ := blk6 (B.alloc (.cells (capC k r t l e a) 44))
    replace K := K.alloc (.cells (capC k r t l e a) 44)
    go_wp2_with fail
    replace B := B.alloc (.cells (capC k r t l e a) 44)
    clear c0 c1 c2 c3 c4 c5 k1 k2
    by_cases hG : getCok u s = true
    · obtain ⟨k', r', t', l', e', v1, v2, v3, v4⟩ := word_get h0 hG
      have HGu := fun W => getC_ok u s W h0 h1 s0 s1
      rw [v1, v2] at HGu
      have HPu := putC_ok k' r' t' l' e' s
      unfold putC1 putC2 at HPu
      have HCu := check_ok k' r' t' l' e' s
      rw [v3, v4] at HPu
      rw [v3] at HCu
      have HP2 : Hid (∀ w, Calls Try.prog 29 #[capV k' r' t' l' e' s] w fun e w' => e = .returned (.tuple #[.int .u64 u, .int .u64 s, .int .i64 0]) ∧ Chg [] w w') := HPu
      have HC2 : Hid (∀ w, Calls Try.prog 26 #[capV k' r' t' l' e' s] w fun e w' => e = .returned (.int .i64 0) ∧ Chg [] w w') := HCu
      have tU : (u == u) = true := by simp
      have tS : (s == s) = true := by simp
      refine Calls.mono (HGu _) ?_
      rintro e'' w3 ⟨rfl, k3⟩
      replace K := K.trans k3 (by simp)
      obtain ⟨x9, e9⟩ : ∃ x, w3.heap.size = x := ⟨_, rfl⟩
      have B9 := Blk.new' w3 44 (capC k' r' t' l' e' s) e9
      replace K := K.alloc (.cells (capC k' r' t' l' e' s) 44)
      obtain ⟨d0, d1, d2, d3, d4, d5⟩ := blk6 B9
      clear HGu HPu HCu v1 v2 v3 v4 hG k3
      go_wp2_with fail
      refine Calls.mono (HP2.out _) ?_
      rintro e'' w4 ⟨rfl, k4⟩
      replace K := K.trans k4 (by simp)
      replace B9 := B9.chg k4 (by simp)
      clear d0 d1 d2 d3 d4 d5 k4
      obtain ⟨d0, d1, d2, d3, d4, d5⟩ := blk6 B9
      go_wp2_with fail
      refine Calls.mono (HC2.out _) ?_
      rintro e'' w5 ⟨rfl, k5⟩
      replace K := K.trans k5 (by simp)
      clear d0 d1 d2 d3 d4 d5 k5
      go_wp2_with fail
      refine Calls.mono (CapUnder.awake_ok _) ?_
      rintro e'' w6 ⟨rfl, k6⟩
      replace K := K.trans k6 (by simp)
      go_wp2
      go_ret
      exact ⟨rfl, K⟩
    · have v1 : getCV u s = capV 0 0 0 0 0 0 := if_neg hG
      have v2 : getCE u s = 12 := if_neg hG
      have HGu := fun W => getC_ok u s W h0 h1 s0 s1
      rw [v1, v2] at HGu
      refine Calls.mono (HGu _) ?_
      rintro e'' w3 ⟨rfl, k3⟩
      replace K := K.trans k3 (by simp)
      replace B := B.chg k3 (by simp)
      obtain ⟨x9, e9⟩ : ∃ x, w3.heap.size = x := ⟨_, rfl⟩
      have B9 := Blk.new' w3 44 (capC 0 0 0 0 0 0) e9
      replace K := K.alloc (.cells (capC 0 0 0 0 0 0) 44)
      replace B := B.alloc (.cells (capC 0 0 0 0 0 0) 44)
      obtain ⟨d0, d1, d2, d3, d4, d5⟩ := blk6 B9
      obtain ⟨c0, c1, c2, c3, c4, c5⟩ := blk6 B
      clear HGu v1 v2 hG k3
      go_wp2_with fail
      refine Calls.mono (HC'.out _) ?_
      rintro e'' w5 ⟨rfl, k5⟩
      replace K := K.trans k5 (by simp)
      clear d0 d1 d2 d3 d4 d5 c0 c1 c2 c3 c4 c5 k5
      go_wp2_with fail
      refine Calls.mono (CapUnder.awake_ok _) ?_
      rintro e'' w6 ⟨rfl, k6⟩
      replace K := K.trans k6 (by simp)
      go_wp2
      go_ret
      exact ⟨rfl, K⟩
  | false =>
    have HP' : Hid (∀ w, Calls Try.prog 29 #[capV k r t l e a] w fun e' w' => e' = .returned (.tuple #[.int .u64 0, .int .u64 0, .int .i64 1]) ∧ Chg [] w w') := HP
    have HC' : Hid (∀ w, Calls Try.prog 26 #[capV k r t l e a] w fun e' w' => e' = .returned (.int .i64 1) ∧ Chg [] w w') := HC
    clear HP HC hg
    go_enter Try.func7, Try.ntmps7
    go_wp2_with fail
    refine Calls.mono (HP'.out _) ?_
    rintro e'' w1 ⟨rfl, k1⟩
    replace B := B.chg k1 (by simp)
    replace K := K.trans k1 (by simp)
    clear k1
    go_wp2_with fail
    by_cases hG : getCok u s = true
    · obtain ⟨k', r', t', l', e', v1, v2, v3, v4⟩ := word_get h0 hG
      have HGu := fun W => getC_ok u s W h0 h1 s0 s1
      rw [v1, v2] at HGu
      have HPu := putC_ok k' r' t' l' e' s
      unfold putC1 putC2 at HPu
      have HCu := check_ok k' r' t' l' e' s
      rw [v3, v4] at HPu
      rw [v3] at HCu
      have HP2 : Hid (∀ w, Calls Try.prog 29 #[capV k' r' t' l' e' s] w fun e w' => e = .returned (.tuple #[.int .u64 u, .int .u64 s, .int .i64 0]) ∧ Chg [] w w') := HPu
      have HC2 : Hid (∀ w, Calls Try.prog 26 #[capV k' r' t' l' e' s] w fun e w' => e = .returned (.int .i64 0) ∧ Chg [] w w') := HCu
      have tU : (u == u) = true := by simp
      have tS : (s == s) = true := by simp
      refine Calls.mono (HGu _) ?_
      rintro e'' w3 ⟨rfl, k3⟩
      replace K := K.trans k3 (by simp)
      obtain ⟨x9, e9⟩ : ∃ x, w3.heap.size = x := ⟨_, rfl⟩
      have B9 := Blk.new' w3 44 (capC k' r' t' l' e' s) e9
      replace K := K.alloc (.cells (capC k' r' t' l' e' s) 44)
      obtain ⟨d0, d1, d2, d3, d4, d5⟩ := blk6 B9
      clear HGu HPu HCu v1 v2 v3 v4 hG k3
      go_wp2_with fail
      refine Calls.mono (HP2.out _) ?_
      rintro e'' w4 ⟨rfl, k4⟩
      replace K := K.trans k4 (by simp)
      replace B9 := B9.chg k4 (by simp)
      clear d0 d1 d2 d3 d4 d5 k4
      obtain ⟨d0, d1, d2, d3, d4, d5⟩ := blk6 B9
      go_wp2_with fail
      refine Calls.mono (HC2.out _) ?_
      rintro e'' w5 ⟨rfl, k5⟩
      replace K := K.trans k5 (by simp)
      clear d0 d1 d2 d3 d4 d5 k5
      go_wp2_with fail
      refine Calls.mono (CapUnder.awake_ok _) ?_
      rintro e'' w6 ⟨rfl, k6⟩
      replace K := K.trans k6 (by simp)
      go_wp2
      go_ret
      exact ⟨rfl, K⟩
    · have v1 : getCV u s = capV 0 0 0 0 0 0 := if_neg hG
      have v2 : getCE u s = 12 := if_neg hG
      have HGu := fun W => getC_ok u s W h0 h1 s0 s1
      rw [v1, v2] at HGu
      refine Calls.mono (HGu _) ?_
      rintro e'' w3 ⟨rfl, k3⟩
      replace K := K.trans k3 (by simp)
      replace B := B.chg k3 (by simp)
      obtain ⟨x9, e9⟩ : ∃ x, w3.heap.size = x := ⟨_, rfl⟩
      have B9 := Blk.new' w3 44 (capC 0 0 0 0 0 0) e9
      replace K := K.alloc (.cells (capC 0 0 0 0 0 0) 44)
      replace B := B.alloc (.cells (capC 0 0 0 0 0 0) 44)
      obtain ⟨d0, d1, d2, d3, d4, d5⟩ := blk6 B9
      obtain ⟨c0, c1, c2, c3, c4, c5⟩ := blk6 B
      clear HGu v1 v2 hG k3
      go_wp2_with fail
      refine Calls.mono (HC'.out _) ?_
      rintro e'' w5 ⟨rfl, k5⟩
      replace K := K.trans k5 (by simp)
      clear d0 d1 d2 d3 d4 d5 c0 c1 c2 c3 c4 c5 k5
      go_wp2_with fail
      refine Calls.mono (CapUnder.awake_ok _) ?_
      rintro e'' w6 ⟨rfl, k6⟩
      replace K := K.trans k6 (by simp)
      go_wp2
      go_ret
      exact ⟨rfl, K⟩
end Go.Proofs.Ytddjkejliogenaa.CapBack
