/- CallBack's walk. -/
import Derived.Test.YtddjkejliogenaaCallNumber
import Derived.Test.YtddjkejliogenaaCallNeeds
namespace Go.Proofs.Ytddjkejliogenaa.CallBack
open Go Go.RowKit Go.Proofs.Ytddjkejliogenaa Go.Proofs.Ytddjkejliogenaa.Heap Go.Proofs.Ytddjkejliogenaa.Bits Go.Proofs.Ytddjkejliogenaa.Field Go.Proofs.Ytddjkejliogenaa.Call Go.Proofs.Ytddjkejliogenaa.CallRight Go.Proofs.Ytddjkejliogenaa.CallW Go.Proofs.Ytddjkejliogenaa.CallGet Go.Proofs.Ytddjkejliogenaa.CallNumber

theorem get_word {n a0 a1 a2 a3 a4 : Int} (h : rightC n a0 a1 a2 a3 a4 = true) : (0 ≤ callWord n a0 a1 a2 a3 a4 ∧ callWord n a0 a1 a2 a3 a4 < 18446744073709551616) ∧ getKV (callWord n a0 a1 a2 a3 a4) = callV n a0 a1 a2 a3 a4 ∧ getKE (callWord n a0 a1 a2 a3 a4) = 0 := by
  have hs := right_bd h
  have hw : 0 ≤ callWord n a0 a1 a2 a3 a4 ∧ callWord n a0 a1 a2 a3 a4 < 18446744073709551616 := by unfold callWord; omega
  have e0 : callWord n a0 a1 a2 a3 a4 % 256 = n := by unfold callWord; omega
  have e1 : callWord n a0 a1 a2 a3 a4 / 256 % 256 = a0 := by unfold callWord; omega
  have e2 : callWord n a0 a1 a2 a3 a4 / 65536 % 65536 = a1 := by unfold callWord; omega
  have e3 : callWord n a0 a1 a2 a3 a4 / 4294967296 % 65536 = a2 := by unfold callWord; omega
  have e4 : callWord n a0 a1 a2 a3 a4 / 281474976710656 % 256 = a3 := by unfold callWord; omega
  have e5 : callWord n a0 a1 a2 a3 a4 / 72057594037927936 % 256 = a4 := by unfold callWord; omega
  have hok : getKok (callWord n a0 a1 a2 a3 a4) = true := by
    unfold getKok
    rw [e0, e1, e2, e3, e4, e5, h]
  refine ⟨hw, ?_, ?_⟩
  · unfold getKV; rw [hok, e0, e1, e2, e3, e4, e5]; exact if_pos rfl
  · unfold getKE; rw [hok]; exact if_pos rfl
theorem word_get {u : Int} (h0 : 0 ≤ u) (h1 : u < 18446744073709551616) (h : getKok u = true) : ∃ n a0 a1 a2 a3 a4, getKV u = callV n a0 a1 a2 a3 a4 ∧ getKE u = 0 ∧ rightC n a0 a1 a2 a3 a4 = true ∧ callWord n a0 a1 a2 a3 a4 = u ∧ (a0 < 9223372036854775808 ∧ a1 < 9223372036854775808 ∧ a2 < 9223372036854775808 ∧ a3 < 9223372036854775808 ∧ a4 < 9223372036854775808) := by
  have h' := h
  unfold getKok at h'
  refine ⟨_, _, _, _, _, _, if_pos h, if_pos h, h', ?_, ?_⟩
  · unfold callWord
    omega
  · omega
/-- The last part of the law: a word is read, and put again. -/
theorem number_any (n : Int) : ∃ i ok, (∀ w, Calls Try.prog 47 #[.string (wordF n)] w fun e w' => e = .returned (.tuple #[.int .i64 i, .bool ok]) ∧ Chg [] w w') ∧ (0 ≤ n → n ≤ 29 → i = n ∧ ok = true) := by
  by_cases h : 0 ≤ n ∧ n ≤ 29
  · refine ⟨n, true, fun w => ?_, fun _ _ => ⟨rfl, rfl⟩⟩
    have := number_hit n.toNat w (by omega)
    unfold wordF
    rw [if_pos h]
    rw [show ((n.toNat : Nat) : Int) = n by omega] at this
    exact this
  · refine ⟨0, false, fun w => ?_, fun a b => absurd ⟨a, b⟩ h⟩
    unfold wordF
    rw [if_neg h]
    exact number_miss _ w (fun j hj => slots_full ⟨j, hj⟩)
theorem und_args : Try.prog.underlying 64 = some (.array 5 3) := by kernel_rfl
theorem und_int : Try.prog.underlying 3 = some (.int .i64) := by kernel_rfl
theorem same_args (d : Nat) (a0 a1 a2 a3 a4 : Int) (w : World) : (Op.equalIn (d + 2) 64 (.agg #[.int .i64 a0, .int .i64 a1, .int .i64 a2, .int .i64 a3, .int .i64 a4]) (.agg #[.int .i64 a0, .int .i64 a1, .int .i64 a2, .int .i64 a3, .int .i64 a4])).run Try.prog w = .ok true w := by
  have hz : ∀ w, (Go.sizeOf 3).run Try.prog w = .ok 1 w := fun w => by kernel_rfl
  have p0 : ∀ w, (part 3 #[.int .i64 a0, .int .i64 a1, .int .i64 a2, .int .i64 a3, .int .i64 a4] 0).run Try.prog w = .ok (.int .i64 a0) w := fun w => by kernel_rfl
  have p1 : ∀ w, (part 3 #[.int .i64 a0, .int .i64 a1, .int .i64 a2, .int .i64 a3, .int .i64 a4] 1).run Try.prog w = .ok (.int .i64 a1) w := fun w => by kernel_rfl
  have p2 : ∀ w, (part 3 #[.int .i64 a0, .int .i64 a1, .int .i64 a2, .int .i64 a3, .int .i64 a4] 2).run Try.prog w = .ok (.int .i64 a2) w := fun w => by kernel_rfl
  have p3 : ∀ w, (part 3 #[.int .i64 a0, .int .i64 a1, .int .i64 a2, .int .i64 a3, .int .i64 a4] 3).run Try.prog w = .ok (.int .i64 a3) w := fun w => by kernel_rfl
  have p4 : ∀ w, (part 3 #[.int .i64 a0, .int .i64 a1, .int .i64 a2, .int .i64 a3, .int .i64 a4] 4).run Try.prog w = .ok (.int .i64 a4) w := fun w => by kernel_rfl
  have q := fun x w => run_equalIn_int w d 3 .i64 .i64 x x und_int
  rw [Op.equalIn]
  simp [run_underlying und_args, hz, p0, p1, p2, p3, p4, q, Std.Legacy.Range.forIn_eq_forIn_range', Std.Legacy.Range.size, List.range']
theorem same_call (n a0 a1 a2 a3 a4 : Int) (w : World) : (binOp .neq 66 (callV n a0 a1 a2 a3 a4) (callV n a0 a1 a2 a3 a4)).run Try.prog w = .ok (.bool false) w := by
  have hA : ∀ w, (Op.equalIn 9999 64 (.agg #[.int .i64 a0, .int .i64 a1, .int .i64 a2, .int .i64 a3, .int .i64 a4]) (.agg #[.int .i64 a0, .int .i64 a1, .int .i64 a2, .int .i64 a3, .int .i64 a4])).run Try.prog w = .ok true w := fun w => same_args 9997 a0 a1 a2 a3 a4 w
  simp [go_sem, hA]
theorem same_zero (w : World) : (binOp .eql 66 (callV 0 0 0 0 0 0) (callV 0 0 0 0 0 0)).run Try.prog w = .ok (.bool true) w := by
  have hA : ∀ w, (Op.equalIn 9999 64 (.agg #[.int .i64 0, .int .i64 0, .int .i64 0, .int .i64 0, .int .i64 0]) (.agg #[.int .i64 0, .int .i64 0, .int .i64 0, .int .i64 0, .int .i64 0])).run Try.prog w = .ok true w := fun w => same_args 9997 0 0 0 0 0 w
  simp [go_sem, hA]
set_option maxRecDepth 100000 in
set_option maxHeartbeats 4000000 in
theorem callBack_walk (n a0 a1 a2 a3 a4 u m : Int) (w : World) (x0 : a0 < 9223372036854775808) (x1 : a1 < 9223372036854775808) (x2 : a2 < 9223372036854775808) (x3 : a3 < 9223372036854775808) (x4 : a4 < 9223372036854775808) (h0 : 0 ≤ u) (h1 : u < 18446744073709551616) :
    Calls Try.prog 11 #[callV n a0 a1 a2 a3 a4, .int .u64 u, .int .i64 m] w fun e' w' => e' = .returned (.bool true) ∧ Chg [] w w' := by
  obtain ⟨g, eg⟩ : ∃ g, w.heap.size = g := ⟨_, rfl⟩
  have B := Blk.new' w 66 (callC n a0 a1 a2 a3 a4) eg
  have K := (Chg.refl [] w).alloc (.cells (callC n a0 a1 a2 a3 a4) 66)
  have HP := fun W => putK_ok n a0 a1 a2 a3 a4 W x0 x1 x2 x3 x4
  have HC := fun W => CallNeeds.check_ok n a0 a1 a2 a3 a4 W x0 x1 x2 x3 x4
  have hg := fun h => get_word (n := n) (a0 := a0) (a1 := a1) (a2 := a2) (a3 := a3) (a4 := a4) h
  obtain ⟨i, ok, HNu, hi⟩ := number_any m
  replace HNu := Lib.hid HNu
  have HWd := Lib.hid (fun W => Call.word_ok m W)
  generalize wordF m = wm at *
  have hm3 : m < 0 ∨ 29 < m ∨ (0 ≤ m ∧ m ≤ 29 ∧ i = m ∧ ok = true) := by
    rcases (by omega : m < 0 ∨ 29 < m ∨ (0 ≤ m ∧ m ≤ 29)) with h | h | ⟨h, h'⟩
    · exact .inl h
    · exact .inr (.inl h)
    · exact .inr (.inr ⟨h, h', hi h h'⟩)
  clear hi
  have hA : ∀ w, (Op.equalIn 9999 64 (.agg #[.int .i64 a0, .int .i64 a1, .int .i64 a2, .int .i64 a3, .int .i64 a4]) (.agg #[.int .i64 a0, .int .i64 a1, .int .i64 a2, .int .i64 a3, .int .i64 a4])).run Try.prog w = .ok true w := fun w => same_args 9997 a0 a1 a2 a3 a4 w
  have hZ : ∀ w, (Op.equalIn 9999 64 (.agg #[.int .i64 0, .int .i64 0, .int .i64 0, .int .i64 0, .int .i64 0]) (.agg #[.int .i64 0, .int .i64 0, .int .i64 0, .int .i64 0, .int .i64 0])).run Try.prog w = .ok true w := fun w => same_args 9997 0 0 0 0 0 w
  obtain ⟨c0, c1, c2, c3, c4, c5⟩ := blk6 B
  unfold putK1 at HP
  clear x0 x1 x2 x3 x4
  generalize rightC n a0 a1 a2 a3 a4 = R at *
  cases R with
  | true =>
    have HP' : Hid (∀ w, Calls Try.prog 43 #[callV n a0 a1 a2 a3 a4] w fun e' w' => e' = .returned (.tuple #[.int .u64 (callWord n a0 a1 a2 a3 a4), .int .i64 0]) ∧ Chg [] w w') := HP
    have HC' : Hid (∀ w, Calls Try.prog 41 #[callV n a0 a1 a2 a3 a4] w fun e' w' => e' = .returned (.int .i64 0) ∧ Chg [] w w') := HC
    obtain ⟨⟨y0, y1⟩, g1, g2⟩ := hg rfl
    have HG := fun W => getK_ok (callWord n a0 a1 a2 a3 a4) W y0 y1
    rw [g1, g2] at HG
    have HG0 : Hid (∀ w, Calls Try.prog 45 #[.int .u64 (callWord n a0 a1 a2 a3 a4)] w fun e' w' => e' = .returned (.tuple #[callV n a0 a1 a2 a3 a4, .int .i64 0]) ∧ Chg [] w w') := HG
    clear HP HC hg HG g1 g2 y0 y1
    generalize callWord n a0 a1 a2 a3 a4 = x at *
    go_enter Try.func11, Try.ntmps11
    go_wp2_with fail
    refine Calls.mono (HP'.out _) ?_
    rintro e'' w1 ⟨rfl, k1⟩
    replace B := B.chg k1 (by simp)
    replace K := K.trans k1 (by simp)
    go_wp2_with fail
    refine Calls.mono (HG0.out _) ?_
    rintro e'' w2 ⟨rfl, k2⟩
    replace B := B.chg k2 (by simp)
    replace K := K.trans k2 (by simp)
    clear c0 c1 c2 c3 c4 c5 k1 k2
    obtain ⟨x8, e8⟩ : ∃ x, w2.heap.size = x := ⟨_, rfl⟩
    have B8 := Blk.new' w2 66 (callC n a0 a1 a2 a3 a4) e8
    replace B := B.alloc (.cells (callC n a0 a1 a2 a3 a4) 66)
    replace K := K.alloc (.cells (callC n a0 a1 a2 a3 a4) 66)
    obtain ⟨c0, c1, c2, c3, c4, c5⟩ := blk6 B
    obtain ⟨d0, d1, d2, d3, d4, d5⟩ := blk6 B8
    go_wp2_with fail
    clear c0 c1 c2 c3 c4 c5 d0 d1 d2 d3 d4 d5 B8 e8
    refine Calls.mono (HWd.out _) ?_
    rintro e'' w3 ⟨rfl, k3⟩
    replace B := B.chg k3 (by simp)
    replace K := K.trans k3 (by simp)
    go_wp2_with fail
    refine Calls.mono (HNu.out _) ?_
    rintro e'' w4 ⟨rfl, k4⟩
    replace B := B.chg k4 (by simp)
    replace K := K.trans k4 (by simp)
    clear k3 k4
    by_cases hG : getKok u = true
    · obtain ⟨n', b0, b1, b2, b3, b4, v1, v2, v3, v4, m0, m1, m2, m3, m4⟩ := word_get h0 h1 hG
      have HGu := fun W => getK_ok u W h0 h1
      rw [v1, v2] at HGu
      have HPu := fun W => putK_ok n' b0 b1 b2 b3 b4 W m0 m1 m2 m3 m4
      unfold putK1 at HPu
      have HCu := fun W => CallNeeds.check_ok n' b0 b1 b2 b3 b4 W m0 m1 m2 m3 m4
      rw [v3, v4] at HPu
      rw [v3] at HCu
      have HG2 : Hid (∀ w, Calls Try.prog 45 #[.int .u64 u] w fun e' w' => e' = .returned (.tuple #[callV n' b0 b1 b2 b3 b4, .int .i64 0]) ∧ Chg [] w w') := HGu
      have HP2 : Hid (∀ w, Calls Try.prog 43 #[callV n' b0 b1 b2 b3 b4] w fun e' w' => e' = .returned (.tuple #[.int .u64 u, .int .i64 0]) ∧ Chg [] w w') := HPu
      have HC2 : Hid (∀ w, Calls Try.prog 41 #[callV n' b0 b1 b2 b3 b4] w fun e' w' => e' = .returned (.int .i64 0) ∧ Chg [] w w') := HCu
      have tU : (u == u) = true := by simp
      clear HGu HPu HCu v1 v2 v3 v4 hG m0 m1 m2 m3 m4 h0 h1 HG0
      rcases hm3 with hm | hm | ⟨hm, hm', rfl, rfl⟩
      all_goals
        go_wp2_with fail
        refine Calls.mono (HG2.out _) ?_
        rintro e'' w5 ⟨rfl, k5⟩
        replace K := K.trans k5 (by simp)
        obtain ⟨x9, e9⟩ : ∃ x, w5.heap.size = x := ⟨_, rfl⟩
        have B9 := Blk.new' w5 66 (callC n' b0 b1 b2 b3 b4) e9
        replace K := K.alloc (.cells (callC n' b0 b1 b2 b3 b4) 66)
        obtain ⟨d0, d1, d2, d3, d4, d5⟩ := blk6 B9
        clear k5
        go_wp2_with fail
        refine Calls.mono (HP2.out _) ?_
        rintro e'' w6 ⟨rfl, k6⟩
        replace K := K.trans k6 (by simp)
        replace B9 := B9.chg k6 (by simp)
        clear d0 d1 d2 d3 d4 d5 k6
        obtain ⟨d0, d1, d2, d3, d4, d5⟩ := blk6 B9
        go_wp2_with fail
        refine Calls.mono (HC2.out _) ?_
        rintro e'' w7 ⟨rfl, k7⟩
        replace K := K.trans k7 (by simp)
        clear d0 d1 d2 d3 d4 d5 k7
        go_wp2_with fail
        refine Calls.mono (CallNeeds.awake_ok _) ?_
        rintro e'' w8 ⟨rfl, k8⟩
        replace K := K.trans k8 (by simp)
        go_wp2
        go_ret
        exact ⟨rfl, K⟩
    · have v1 : getKV u = callV 0 0 0 0 0 0 := if_neg hG
      have v2 : getKE u = 12 := if_neg hG
      have HGu := fun W => getK_ok u W h0 h1
      rw [v1, v2] at HGu
      have HG2 : Hid (∀ w, Calls Try.prog 45 #[.int .u64 u] w fun e' w' => e' = .returned (.tuple #[callV 0 0 0 0 0 0, .int .i64 12]) ∧ Chg [] w w') := HGu
      clear HGu v1 v2 hG h0 h1 HG0
      rcases hm3 with hm | hm | ⟨hm, hm', rfl, rfl⟩
      all_goals
        go_wp2_with fail
        refine Calls.mono (HG2.out _) ?_
        rintro e'' w5 ⟨rfl, k5⟩
        replace K := K.trans k5 (by simp)
        replace B := B.chg k5 (by simp)
        obtain ⟨x9, e9⟩ : ∃ x, w5.heap.size = x := ⟨_, rfl⟩
        have B9 := Blk.new' w5 66 (callC 0 0 0 0 0 0) e9
        replace K := K.alloc (.cells (callC 0 0 0 0 0 0) 66)
        replace B := B.alloc (.cells (callC 0 0 0 0 0 0) 66)
        obtain ⟨d0, d1, d2, d3, d4, d5⟩ := blk6 B9
        obtain ⟨c0, c1, c2, c3, c4, c5⟩ := blk6 B
        clear k5
        go_wp2_with fail
        refine Calls.mono (HC'.out _) ?_
        rintro e'' w7 ⟨rfl, k7⟩
        replace K := K.trans k7 (by simp)
        clear d0 d1 d2 d3 d4 d5 c0 c1 c2 c3 c4 c5 k7
        go_wp2_with fail
        refine Calls.mono (CallNeeds.awake_ok _) ?_
        rintro e'' w8 ⟨rfl, k8⟩
        replace K := K.trans k8 (by simp)
        go_wp2
        go_ret
        exact ⟨rfl, K⟩
  | false =>
    have HP' : Hid (∀ w, Calls Try.prog 43 #[callV n a0 a1 a2 a3 a4] w fun e' w' => e' = .returned (.tuple #[.int .u64 0, .int .i64 1]) ∧ Chg [] w w') := HP
    have HC' : Hid (∀ w, Calls Try.prog 41 #[callV n a0 a1 a2 a3 a4] w fun e' w' => e' = .returned (.int .i64 1) ∧ Chg [] w w') := HC
    have HG0 : True := trivial
    clear HP HC hg
    go_enter Try.func11, Try.ntmps11
    go_wp2_with fail
    refine Calls.mono (HP'.out _) ?_
    rintro e'' w1 ⟨rfl, k1⟩
    replace B := B.chg k1 (by simp)
    replace K := K.trans k1 (by simp)
    go_wp2_with fail
    clear c0 c1 c2 c3 c4 c5 k1
    refine Calls.mono (HWd.out _) ?_
    rintro e'' w3 ⟨rfl, k3⟩
    replace B := B.chg k3 (by simp)
    replace K := K.trans k3 (by simp)
    go_wp2_with fail
    refine Calls.mono (HNu.out _) ?_
    rintro e'' w4 ⟨rfl, k4⟩
    replace B := B.chg k4 (by simp)
    replace K := K.trans k4 (by simp)
    clear k3 k4
    by_cases hG : getKok u = true
    · obtain ⟨n', b0, b1, b2, b3, b4, v1, v2, v3, v4, m0, m1, m2, m3, m4⟩ := word_get h0 h1 hG
      have HGu := fun W => getK_ok u W h0 h1
      rw [v1, v2] at HGu
      have HPu := fun W => putK_ok n' b0 b1 b2 b3 b4 W m0 m1 m2 m3 m4
      unfold putK1 at HPu
      have HCu := fun W => CallNeeds.check_ok n' b0 b1 b2 b3 b4 W m0 m1 m2 m3 m4
      rw [v3, v4] at HPu
      rw [v3] at HCu
      have HG2 : Hid (∀ w, Calls Try.prog 45 #[.int .u64 u] w fun e' w' => e' = .returned (.tuple #[callV n' b0 b1 b2 b3 b4, .int .i64 0]) ∧ Chg [] w w') := HGu
      have HP2 : Hid (∀ w, Calls Try.prog 43 #[callV n' b0 b1 b2 b3 b4] w fun e' w' => e' = .returned (.tuple #[.int .u64 u, .int .i64 0]) ∧ Chg [] w w') := HPu
      have HC2 : Hid (∀ w, Calls Try.prog 41 #[callV n' b0 b1 b2 b3 b4] w fun e' w' => e' = .returned (.int .i64 0) ∧ Chg [] w w') := HCu
      have tU : (u == u) = true := by simp
      clear HGu HPu HCu v1 v2 v3 v4 hG m0 m1 m2 m3 m4 h0 h1 HG0
      rcases hm3 with hm | hm | ⟨hm, hm', rfl, rfl⟩
      all_goals
        go_wp2_with fail
        refine Calls.mono (HG2.out _) ?_
        rintro e'' w5 ⟨rfl, k5⟩
        replace K := K.trans k5 (by simp)
        obtain ⟨x9, e9⟩ : ∃ x, w5.heap.size = x := ⟨_, rfl⟩
        have B9 := Blk.new' w5 66 (callC n' b0 b1 b2 b3 b4) e9
        replace K := K.alloc (.cells (callC n' b0 b1 b2 b3 b4) 66)
        obtain ⟨d0, d1, d2, d3, d4, d5⟩ := blk6 B9
        clear k5
        go_wp2_with fail
        refine Calls.mono (HP2.out _) ?_
        rintro e'' w6 ⟨rfl, k6⟩
        replace K := K.trans k6 (by simp)
        replace B9 := B9.chg k6 (by simp)
        clear d0 d1 d2 d3 d4 d5 k6
        obtain ⟨d0, d1, d2, d3, d4, d5⟩ := blk6 B9
        go_wp2_with fail
        refine Calls.mono (HC2.out _) ?_
        rintro e'' w7 ⟨rfl, k7⟩
        replace K := K.trans k7 (by simp)
        clear d0 d1 d2 d3 d4 d5 k7
        go_wp2_with fail
        refine Calls.mono (CallNeeds.awake_ok _) ?_
        rintro e'' w8 ⟨rfl, k8⟩
        replace K := K.trans k8 (by simp)
        go_wp2
        go_ret
        exact ⟨rfl, K⟩
    · have v1 : getKV u = callV 0 0 0 0 0 0 := if_neg hG
      have v2 : getKE u = 12 := if_neg hG
      have HGu := fun W => getK_ok u W h0 h1
      rw [v1, v2] at HGu
      have HG2 : Hid (∀ w, Calls Try.prog 45 #[.int .u64 u] w fun e' w' => e' = .returned (.tuple #[callV 0 0 0 0 0 0, .int .i64 12]) ∧ Chg [] w w') := HGu
      clear HGu v1 v2 hG h0 h1 HG0
      rcases hm3 with hm | hm | ⟨hm, hm', rfl, rfl⟩
      all_goals
        go_wp2_with fail
        refine Calls.mono (HG2.out _) ?_
        rintro e'' w5 ⟨rfl, k5⟩
        replace K := K.trans k5 (by simp)
        replace B := B.chg k5 (by simp)
        obtain ⟨x9, e9⟩ : ∃ x, w5.heap.size = x := ⟨_, rfl⟩
        have B9 := Blk.new' w5 66 (callC 0 0 0 0 0 0) e9
        replace K := K.alloc (.cells (callC 0 0 0 0 0 0) 66)
        replace B := B.alloc (.cells (callC 0 0 0 0 0 0) 66)
        obtain ⟨d0, d1, d2, d3, d4, d5⟩ := blk6 B9
        obtain ⟨c0, c1, c2, c3, c4, c5⟩ := blk6 B
        clear k5
        go_wp2_with fail
        refine Calls.mono (HC'.out _) ?_
        rintro e'' w7 ⟨rfl, k7⟩
        replace K := K.trans k7 (by simp)
        clear d0 d1 d2 d3 d4 d5 c0 c1 c2 c3 c4 c5 k7
        go_wp2_with fail
        refine Calls.mono (CallNeeds.awake_ok _) ?_
        rintro e'' w8 ⟨rfl, k8⟩
        replace K := K.trans k8 (by simp)
        go_wp2
        go_ret
        exact ⟨rfl, K⟩
end Go.Proofs.Ytddjkejliogenaa.CallBack
