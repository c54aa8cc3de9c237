/- CapUnder's walk. -/
import Derived.Test.YtddjkejliogenaaCap
namespace Go.Proofs.Ytddjkejliogenaa.CapUnder
open Go Go.RowKit Go.Proofs.Ytddjkejliogenaa Go.Proofs.Ytddjkejliogenaa.Heap Go.Proofs.Ytddjkejliogenaa.Bits Go.Proofs.Ytddjkejliogenaa.Field Go.Proofs.Ytddjkejliogenaa.Cap

section
set_option maxRecDepth 100000
set_option maxHeartbeats 1000000
theorem under_ok (k r t l e a k' r' t' l' e' a' : Int) (w : World) : Calls Try.prog 27 #[capV k r t l e a, capV k' r' t' l' e' a'] w fun e'' w' => e'' = .returned (.bool (underB k r t l e a k' r' t' l' e' a')) ∧ Chg [] w w' := by
  unfold underB
  have hW : ∀ (_ : 0 ≤ t) (_ : t < 64) (_ : 0 ≤ a) (_ : a < 1073741825) (_ : 0 ≤ t') (_ : t' < 64) (_ : 0 ≤ a') (_ : a' < 1073741825) k r l e k' r' l' e' w, Calls Try.prog 61 #[capV k r t l e a, capV k' r' t' l' e' a'] w fun e'' w' => e'' = .returned (.bool (withinB t a t' a')) ∧ Chg [] w w' := fun t0 t1 a0 a1 t0' t1' a0' a1' k r l e k' r' l' e' w => within_ok k r t l e a k' r' t' l' e' a' w t0 t1 a0 a1 t0' t1' a0' a1'
  obtain ⟨rb, erb⟩ : ∃ rb, restB k t l e a t' l' e' a' = rb := ⟨_, rfl⟩
  have HRB : Hid (restB k t l e a t' l' e' a' = rb) := erb
  rw [erb]
  clear erb
  obtain ⟨wi, ewi⟩ : ∃ wi, withinB t a t' a' = wi := ⟨_, rfl⟩
  have HWI : Hid (withinB t a t' a' = wi) := ewi
  rw [ewi] at hW
  clear ewi
  have hW' : Hid (0 ≤ t → t < 64 → 0 ≤ a → a < 1073741825 → 0 ≤ t' → t' < 64 → 0 ≤ a' → a' < 1073741825 → ∀ k r l e k' r' l' e' w, Calls Try.prog 61 #[capV k r t l e a, capV k' r' t' l' e' a'] w fun e'' w' => e'' = .returned (.bool wi) ∧ Chg [] w w') := hW
  clear hW
  have hA := fun h => sized_bd (right_sized (k := k) (r := r) (t := t) (l := l) (e := e) (a := a) h)
  have hB := fun h => sized_bd (right_sized (k := k') (r := r') (t := t') (l := l') (e := e') (a := a') h)
  have HA : ∀ w, Calls Try.prog 60 #[capV k r t l e a] w fun e'' w' => e'' = .returned (.bool (rightC k r t l e a)) ∧ Chg [] w w' := right_ok k r t l e a
  have HB : ∀ w, Calls Try.prog 60 #[capV k' r' t' l' e' a'] w fun e'' w' => e'' = .returned (.bool (rightC k' r' t' l' e' a')) ∧ Chg [] w w' := right_ok k' r' t' l' e' a'
  generalize rightC k r t l e a = RA at *
  generalize rightC k' r' t' l' e' a' = RB at *
  have HA' : Hid (∀ w, Calls Try.prog 60 #[capV k r t l e a] w fun e'' w' => e'' = .returned (.bool RA) ∧ Chg [] w w') := HA
  have HB' : Hid (∀ w, Calls Try.prog 60 #[capV k' r' t' l' e' a'] w fun e'' w' => e'' = .returned (.bool RB) ∧ Chg [] w w') := HB
  clear HA HB
  obtain ⟨b, eb⟩ : ∃ b, w.heap.size = b := ⟨_, rfl⟩
  have B1 := (Blk.new' w 44 (capC k r t l e a) eb).alloc (.cells (capC k' r' t' l' e' a') 44)
  have B2 := Blk.new' (g := b + 1) (w.alloc (.cells (capC k r t l e a) 44)) 44 (capC k' r' t' l' e' a') (by simp; omega)
  have K := ((Chg.refl [] w).alloc (.cells (capC k r t l e a) 44)).alloc (.cells (capC k' r' t' l' e' a') 44)
  cases RA with
  | false =>
    clear hA hB
    go_enter Try.func27, Try.ntmps27
    go_wp2_with fail
    refine Calls.mono (HA'.out _) ?_
    rintro e'' w1 ⟨rfl, k1⟩
    replace K := K.trans k1 (by simp)
    go_wp2
    go_ret
    exact ⟨rfl, K⟩
  | true =>
    obtain ⟨⟨m0, m1⟩, ⟨m2, m3⟩, ⟨m4, m5⟩, ⟨m6, m7⟩, ⟨m8, m9⟩, ⟨m10, m11⟩⟩ := hA rfl
    go_enter Try.func27, Try.ntmps27
    go_wp2_with fail
    refine Calls.mono (HA'.out _) ?_
    rintro e'' w1 ⟨rfl, k1⟩
    replace K := K.trans k1 (by simp)
    replace B1 := B1.chg k1 (by simp)
    replace B2 := B2.chg k1 (by simp)
    clear k1 HA' hA
    obtain ⟨c0, c1, c2, c3, c4, c5⟩ := blk6 B2
    go_wp2_with fail
    refine Calls.mono (HB'.out _) ?_
    rintro e'' w2 ⟨rfl, k1⟩
    replace K := K.trans k1 (by simp)
    replace B1 := B1.chg k1 (by simp)
    replace B2 := B2.chg k1 (by simp)
    clear k1 HB' c0 c1 c2 c3 c4 c5
    cases RB with
    | false =>
      clear hB
      go_wp2
      go_ret
      exact ⟨rfl, K⟩
    | true =>
      obtain ⟨⟨n0, n1⟩, ⟨n2, n3⟩, ⟨n4, n5⟩, ⟨n6, n7⟩, ⟨n8, n9⟩, ⟨n10, n11⟩⟩ := hB rfl
      clear hB
      obtain ⟨c0, c1, c2, c3, c4, c5⟩ := blk6 B1
      obtain ⟨d0, d1, d2, d3, d4, d5⟩ := blk6 B2
      have f1 := B1.frozen 1
      have z6 : ∀ v, (w2.setCell ⟨b, 1, none⟩ v).cell? ⟨b + 1, 0, none⟩ = some (.int .i64 k') := fun v => (B2.far (p := ⟨b, 1, none⟩) (by simp) v).cell 0
      have HW : Hid (∀ k r l e k' r' l' e' w, Calls Try.prog 61 #[capV k r t l e a, capV k' r' t' l' e' a'] w fun e'' w' => e'' = .returned (.bool wi) ∧ Chg [] w w') := hW'.out m4 m5 m10 m11 n4 n5 n10 n11
      clear z6 hW'
      go_wp2_with (go_at_call 61; refine Calls.mono (HW.out _ _ _ _ _ _ _ _ _) ?_; rintro e'' w3 ⟨rfl, k1⟩; replace K := K.trans k1 (by simp))
      all_goals go_ret
      all_goals refine ⟨ret_bool ?_, by first | exact K | exact K.setCell (p := ⟨b, 1, none⟩) (.inr (by simp; omega)) _⟩
      all_goals
        have e1 := HRB.out
        have e2 := HWI.out
        clear HRB HWI HW K B1 B2 c0 c1 c2 c3 c4 c5 d0 d1 d2 d3 d4 d5 f1
        unfold restB at e1
        rw [e2] at e1
        try simp only [Bool.true_and, beq_iff_eq, beq_eq_false_iff_ne, bne_iff_ne, bne_eq_false_iff_eq, ne_eq] at *
        first
          | (rw [← e1]; simp [*]; done)
          | (rw [← e1]; simp_all; done)
          | (rw [← e1]; generalize bits .andNot .i64 r r' = z at *; rw [Bool.eq_iff_iff]; (repeat' split) <;> first | (exfalso; omega) | (simp; done) | (simp; omega) | (simp_all; done))

theorem awake_ok (w : World) : Calls Try.prog 28 #[] w fun e w' => e = .returned (.bool true) ∧ Chg [] w w' := by
  go_enter Try.func28, Try.ntmps28
  go_wp2
  go_ret
  exact ⟨rfl, (Chg.refl [] w).alloc _⟩

theorem weaken_ok (k r t l e a n : Int) (w : World) : Calls Try.prog 25 #[capV k r t l e a, .int .i64 n] w fun e' w' => e' = .returned (capV k (bits .and .i64 r n) t l e a) ∧ Chg [] w w' := by
  obtain ⟨b, eb⟩ : ∃ b, w.heap.size = b := ⟨_, rfl⟩
  go_enter Try.func25, Try.ntmps25
  go_wp2
  have B2 := Blk.new' (g := b + 1) (w.alloc (.cells (capC k (bits .and .i64 r n) t l e a) 44)) 44 (capC k (bits .and .i64 r n) t l e a) (by simp; omega)
  obtain ⟨q0, q1, q2, q3, q4, q5⟩ := blk6 B2
  refine ⟨rfl, capV k (bits .and .i64 r n) t l e a, ?_, rfl, ((Chg.refl [] w).alloc _).alloc _⟩
  simp [results, go_sem, q0, q1, q2, q3, q4, q5]

theorem under_self {k r t l e a : Int} (h : rightC k r t l e a = true) (hk : 1 < k) : underB k r t l e a k r t l e a = true := by
  unfold underB restB withinB
  rw [h, Bits64.andNot_self]
  simp [hk]
theorem right_part {k r t l e a n : Int} (h : rightC k r t l e a = true) (hk : 1 < k) : rightC k (bits .and .i64 r n) t l e a = true := by
  have hs := sized_bd (right_sized h)
  have hz := Bits64.and_le (p := r) (r := n) (by omega) (by omega)
  unfold rightC at *
  rw [Bool.and_eq_true] at *
  refine ⟨?_, ?_⟩
  · unfold sizedB inB; simp; omega
  · have h2 := h.2
    unfold kindB at *
    rw [if_neg (by omega), if_neg (by omega)] at *
    exact h2
theorem under_part {k r t l e a n : Int} (h : rightC k r t l e a = true) (hk : 1 < k) : underB k (bits .and .i64 r n) t l e a k r t l e a = true := by
  unfold underB restB withinB
  rw [h, right_part h hk, Bits64.andNot_self_part]
  simp [hk]
theorem under_facts {k r t l e a k' r' t' l' e' a' : Int} (h : underB k r t l e a k' r' t' l' e' a' = true) : rightC k r t l e a = true ∧ rightC k' r' t' l' e' a' = true ∧ 1 < k ∧ k = k' ∧ bits .andNot .i64 r r' = 0 ∧ restB k t l e a t' l' e' a' = true := by
  unfold underB at h
  simp only [Bool.and_eq_true, decide_eq_true_eq, beq_iff_eq] at h
  obtain ⟨⟨⟨⟨⟨h0, h1⟩, h2⟩, h3⟩, h4⟩, h5⟩ := h
  exact ⟨h0, h1, h2, h3, h4, h5⟩
theorem under_trans {k r t l e a k' r' t' l' e' a' k2 r2 t2 l2 e2 a2 : Int} (h : underB k r t l e a k' r' t' l' e' a' = true) (h' : underB k' r' t' l' e' a' k2 r2 t2 l2 e2 a2 = true) : underB k r t l e a k2 r2 t2 l2 e2 a2 = true := by
  obtain ⟨p0, p1, p2, rfl, p4, p5⟩ := under_facts h
  obtain ⟨q0, q1, q2, rfl, q4, q5⟩ := under_facts h'
  unfold underB
  rw [p0, q1, Bits64.andNot_trans p4 q4]
  have : restB k t l e a t2 l2 e2 a2 = true := by
    unfold restB withinB at *
    split at p5
    · rename_i hk
      rw [if_pos hk] at q5 ⊢
      have := of_decide_eq_true p5
      have := of_decide_eq_true q5
      exact decide_eq_true (by omega)
    · rename_i hk
      rw [if_neg hk] at q5 ⊢
      have := of_decide_eq_true p5
      have := of_decide_eq_true q5
      exact decide_eq_true (by omega)
  rw [this]
  simp [p2]

theorem capUnder_walk (k r t l e a k' r' t' l' e' a' k2 r2 t2 l2 e2 a2 n : Int) (w : World) : Calls Try.prog 6 #[capV k r t l e a, capV k' r' t' l' e' a', capV k2 r2 t2 l2 e2 a2, .int .i64 n] w fun e' w' => e' = .returned (.bool true) ∧ Chg [] w w' := by
  obtain ⟨b, eb⟩ : ∃ b, w.heap.size = b := ⟨_, rfl⟩
  have B1 := ((Blk.new' w 44 (capC k r t l e a) eb).alloc (.cells (capC k' r' t' l' e' a') 44)).alloc (.cells (capC k2 r2 t2 l2 e2 a2) 44)
  have B2 := (Blk.new' (g := b + 1) (w.alloc (.cells (capC k r t l e a) 44)) 44 (capC k' r' t' l' e' a') (by simp; omega)).alloc (.cells (capC k2 r2 t2 l2 e2 a2) 44)
  have B3 := Blk.new' (g := b + 1 + 1) ((w.alloc (.cells (capC k r t l e a) 44)).alloc (.cells (capC k' r' t' l' e' a') 44)) 44 (capC k2 r2 t2 l2 e2 a2) (by simp; omega)
  have K := (((Chg.refl [] w).alloc (.cells (capC k r t l e a) 44)).alloc (.cells (capC k' r' t' l' e' a') 44)).alloc (.cells (capC k2 r2 t2 l2 e2 a2) 44)
  obtain ⟨U, eU⟩ : ∃ U : Int → Int → Int → Int → Int → Int → Int → Int → Int → Int → Int → Int → Bool, U = underB := ⟨_, rfl⟩
  have HU : Hid (∀ k r t l e a k' r' t' l' e' a' w, Calls Try.prog 27 #[capV k r t l e a, capV k' r' t' l' e' a'] w fun e'' w' => e'' = .returned (.bool (U k r t l e a k' r' t' l' e' a')) ∧ Chg [] w w') := by rw [eU]; exact under_ok
  obtain ⟨R, eR⟩ : ∃ R : Int → Int → Int → Int → Int → Int → Bool, R = rightC := ⟨_, rfl⟩
  have HC : Hid (∀ k r t l e a w, Calls Try.prog 26 #[capV k r t l e a] w fun e'' w' => e'' = .returned (.int .i64 (errC (R k r t l e a))) ∧ Chg [] w w') := by rw [eR]; exact check_ok
  have HW : Hid _ := weaken_ok k r t l e a n
  have hab : U k r t l e a k' r' t' l' e' a' = true → R k r t l e a = true ∧ R k' r' t' l' e' a' = true ∧ 1 < k ∧ k = k' := by rw [eU, eR]; exact fun h => ⟨(under_facts h).1, (under_facts h).2.1, (under_facts h).2.2.1, (under_facts h).2.2.2.1⟩
  have hbc : U k r t l e a k' r' t' l' e' a' = true → U k' r' t' l' e' a' k2 r2 t2 l2 e2 a2 = true → U k r t l e a k2 r2 t2 l2 e2 a2 = true := by rw [eU]; exact under_trans
  have haa : R k r t l e a = true → 1 < k → U k r t l e a k r t l e a = true ∧ U k (bits .and .i64 r n) t l e a k r t l e a = true := by rw [eU, eR]; exact fun h hk => ⟨under_self h hk, under_part h hk⟩
  clear eU eR
  generalize bits .and .i64 r n = z at *
  have e0 : errC true = 0 := rfl
  have e1 : errC false = 1 := rfl
  have hcase : (R k r t l e a = false ∧ U k r t l e a k' r' t' l' e' a' = false) ∨ (R k r t l e a = true ∧ k ≤ 1 ∧ U k r t l e a k' r' t' l' e' a' = false) ∨
      (R k r t l e a = true ∧ 1 < k ∧ U k r t l e a k r t l e a = true ∧ U k z t l e a k r t l e a = true ∧ U k r t l e a k' r' t' l' e' a' = false) ∨
      (R k r t l e a = true ∧ 1 < k ∧ U k r t l e a k r t l e a = true ∧ U k z t l e a k r t l e a = true ∧ U k r t l e a k' r' t' l' e' a' = true ∧ R k' r' t' l' e' a' = true ∧ (k == k') = true ∧ U k' r' t' l' e' a' k2 r2 t2 l2 e2 a2 = false) ∨
      (R k r t l e a = true ∧ 1 < k ∧ U k r t l e a k r t l e a = true ∧ U k z t l e a k r t l e a = true ∧ U k r t l e a k' r' t' l' e' a' = true ∧ R k' r' t' l' e' a' = true ∧ (k == k') = true ∧ U k' r' t' l' e' a' k2 r2 t2 l2 e2 a2 = true ∧ U k r t l e a k2 r2 t2 l2 e2 a2 = true) := by
    cases hU : U k r t l e a k' r' t' l' e' a' with
    | false =>
      cases hR : R k r t l e a with
      | false => exact .inl ⟨rfl, rfl⟩
      | true =>
        by_cases hk : 1 < k
        · exact .inr (.inr (.inl ⟨rfl, hk, (haa hR hk).1, (haa hR hk).2, rfl⟩))
        · exact .inr (.inl ⟨rfl, by omega, rfl⟩)
    | true =>
      obtain ⟨h1, h2, h3, h4⟩ := hab hU
      cases hB : U k' r' t' l' e' a' k2 r2 t2 l2 e2 a2 with
      | false => exact .inr (.inr (.inr (.inl ⟨h1, h3, (haa h1 h3).1, (haa h1 h3).2, rfl, h2, by simp [h4], rfl⟩)))
      | true => exact .inr (.inr (.inr (.inr ⟨h1, h3, (haa h1 h3).1, (haa h1 h3).2, rfl, h2, by simp [h4], rfl, hbc hU hB⟩)))
  clear hab hbc haa
  rcases hcase with ⟨r1, u1⟩ | ⟨r1, hk, u1⟩ | ⟨r1, hk, u1, u2, u3⟩ | ⟨r1, hk, u1, u2, u3, r2, hkk, u4⟩ | ⟨r1, hk, u1, u2, u3, r2, hkk, u4, u5⟩
  all_goals
    go_enter Try.func6, Try.ntmps6
    go_wp2_with fail
    refine Calls.mono (HW.out _) ?_
    rintro e' w1 ⟨rfl, k1⟩
    replace B1 := (B1.chg k1 (by simp)).alloc (.cells (capC k z t l e a) 44)
    replace B2 := (B2.chg k1 (by simp)).alloc (.cells (capC k z t l e a) 44)
    replace B3 := (B3.chg k1 (by simp)).alloc (.cells (capC k z t l e a) 44)
    replace K := (K.trans k1 (by simp)).alloc (.cells (capC k z t l e a) 44)
    obtain ⟨x, ex⟩ : ∃ x, w1.heap.size = x := ⟨_, rfl⟩
    have B4 := Blk.new' w1 44 (capC k z t l e a) ex
    clear k1
    obtain ⟨c0, c1, c2, c3, c4, c5⟩ := blk6 B1
    obtain ⟨d0, d1, d2, d3, d4, d5⟩ := blk6 B2
    obtain ⟨g0, g1, g2, g3, g4, g5⟩ := blk6 B3
    obtain ⟨x0, x1, x2, x3, x4, x5⟩ := blk6 B4
    go_wp2_with (first
      | (go_at_call 27; refine Calls.mono (HU.out _ _ _ _ _ _ _ _ _ _ _ _ _) ?_; rintro e' w1 ⟨rfl, k1⟩; replace B1 := B1.chg k1 (by simp); replace B2 := B2.chg k1 (by simp); replace B3 := B3.chg k1 (by simp); replace B4 := B4.chg k1 (by simp); replace K := K.trans k1 (by simp); clear k1 c0 c1 c2 c3 c4 c5 d0 d1 d2 d3 d4 d5 g0 g1 g2 g3 g4 g5 x0 x1 x2 x3 x4 x5; obtain ⟨c0, c1, c2, c3, c4, c5⟩ := blk6 B1; obtain ⟨d0, d1, d2, d3, d4, d5⟩ := blk6 B2; obtain ⟨g0, g1, g2, g3, g4, g5⟩ := blk6 B3; obtain ⟨x0, x1, x2, x3, x4, x5⟩ := blk6 B4)
      | (go_at_call 26; refine Calls.mono (HC.out _ _ _ _ _ _ _) ?_; rintro e' w1 ⟨rfl, k1⟩; replace B1 := B1.chg k1 (by simp); replace B2 := B2.chg k1 (by simp); replace B3 := B3.chg k1 (by simp); replace B4 := B4.chg k1 (by simp); replace K := K.trans k1 (by simp); clear k1 c0 c1 c2 c3 c4 c5 d0 d1 d2 d3 d4 d5 g0 g1 g2 g3 g4 g5 x0 x1 x2 x3 x4 x5; obtain ⟨c0, c1, c2, c3, c4, c5⟩ := blk6 B1; obtain ⟨d0, d1, d2, d3, d4, d5⟩ := blk6 B2; obtain ⟨g0, g1, g2, g3, g4, g5⟩ := blk6 B3; obtain ⟨x0, x1, x2, x3, x4, x5⟩ := blk6 B4)
      | (go_at_call 28; refine Calls.mono (awake_ok _) ?_; rintro e' w1 ⟨rfl, k1⟩; replace K := K.trans k1 (by simp)))
    all_goals go_ret
    all_goals exact ⟨rfl, K⟩
end
end Go.Proofs.Ytddjkejliogenaa.CapUnder
