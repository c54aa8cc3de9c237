/- Package palanquinref02: Copy, Same. -/
import Derived.Test.YtofdcnjgfohmcaaRef02c
import Derived.StillTailTactics
namespace Go.Proofs.Ytofdcnjgfohmcaa.Ref02
open Go Go.RowKit Go.Proofs.Ytofdcnjgfohmcaa.Heap Go.Proofs.Ytofdcnjgfohmcaa.Mem

theorem mix_read {L : List Int} {n f t k : Nat} (hl : L.length = 36 * n) (hf : f < n) (ht : t < n) (hk : k < 36) : (mixL L t k (frL L f)).getD (f * 36 + k) 0 = (frL L f).getD k 0 := by
  rw [List.getD_eq_getElem?_getD, mix_getE hl ht (frL_len hl hf), frL_get hk]
  by_cases h : t * 36 ≤ f * 36 + k ∧ f * 36 + k < t * 36 + k ∧ f * 36 + k < t * 36 + 36
  · omega
  · rw [if_neg h, ← List.getD_eq_getElem?_getD]
set_option maxHeartbeats 2000000 in
set_option maxRecDepth 100000 in
theorem copy_ok {w : World} {B p n : Nat} {v : Value} {bs : List (Nat × Nat)} {L : List Int} (h : RM w B p v n bs L) (h1 : 1 ≤ n) (h2 : n ≤ 64) (f t : Int) : Calls Try.prog 25 #[.pointer (some ⟨p, 0, none⟩), .int .i64 f, .int .i64 t] w fun e w' => e = .returned (.int .i64 (cpE n f t)) ∧ RM w' B p v n bs (cpL n L f t) ∧ Chr B w w' := by
  have HC := is_ok h h1 h2 f
  have HD := is_ok h h1 h2 t
  have H : Hid (RM w B p v n bs L) := h
  unfold cpL cpE
  by_cases hof : 0 ≤ f ∧ f < n
  · rw [show isF n f = true from decide_eq_true hof] at HC
    by_cases hot : 0 ≤ t ∧ t < n
    · rw [if_pos ⟨hof, hot⟩, if_pos ⟨hof, hot⟩]
      rw [show isF n t = true from decide_eq_true hot] at HD
      have hl := h.len
      have hf : f.toNat < n := by omega
      have ht : t.toNat < n := by omega
      have M0 := mix_zero (L := L) (f := t.toNat) (frL L f.toNat)
      have MS : Hid (∀ k, k < 36 → (mixL L t.toNat k (frL L f.toNat)).set (t.toNat * 36 + k) ((frL L f.toNat).getD k 0) = mixL L t.toNat (k + 1) (frL L f.toNat)) := fun k hk => mix_step hl ht (frL_len hl hf) hk
      have MR : Hid (∀ k, k < 36 → (mixL L t.toNat k (frL L f.toNat)).getD (f.toNat * 36 + k) 0 = (frL L f.toNat).getD k 0) := fun k hk => mix_read hl hf ht hk
      have ME := mix_full hl ht (frL_len hl hf)
      obtain ⟨q, cap, b, rfl, hb, _⟩ := h.at_ hf
      obtain ⟨q2, cap2, b2, e0, hb2, _⟩ := h.at_ ht

      have HB : Hid (bs[f.toNat]? = some b) := hb
      have HB2 : Hid (bs[t.toNat]? = some b2) := hb2
      have HM0 : Hid _ := M0
      have HME : Hid _ := ME
      generalize frL L f.toNat = Z at *
      obtain ⟨o1, o2⟩ := hof
      obtain ⟨o3, o4⟩ := hot
      clear h hb hb2 M0 ME hl
      go_enter Try.func25, Try.ntmps25
      go_wp2_with (first
        | (go_at_call 43; ((with_reducible refine Calls.mono HC ?_); rintro e w1 ⟨rfl, rfl⟩))
        | (go_at_call 43; ((with_reducible refine Calls.mono HD ?_); rintro e w1 ⟨rfl, rfl⟩)))
      go_loopw [7] (fun i wr => ∃ k : Nat, k ≤ 36 ∧ i = .int .i64 k ∧ RM wr B p (.slice (some ⟨q, 0, none⟩) n cap) n bs (mixL L t.toNat k Z) ∧ Chg [b2.1] w wr) (fun i _ => 36 - (intOf i).toNat)
      case atStart => exact ⟨0, Nat.zero_le _, rfl, by rw [HM0.out]; exact H.out, Chg.refl _ _⟩
      case round =>
        clear HC HD
        obtain ⟨k, hk, rfl, R, K⟩ := hrel
        by_cases hlt : k < 36
        · have c0 := R.head
          obtain ⟨q1, cap1, b1, e1, e2, c1⟩ := R.at_ hf
          obtain rfl : b1 = b := by have := HB.out; rw [this] at e2; exact (Option.some.inj e2).symm
          obtain ⟨rfl, rfl⟩ : q = q1 ∧ cap = cap1 := by simpa using e1
          obtain ⟨q1, cap1, b3, e3, e4, c3⟩ := R.at_ ht
          obtain rfl : b3 = b2 := by have := HB2.out; rw [this] at e4; exact (Option.some.inj e4).symm
          obtain ⟨rfl, rfl⟩ : q = q1 ∧ cap = cap1 := by simpa using e3
          have c2 := R.cell HB.out hlt
          rw [MR.out k hlt] at c2
          have c4 := R.cell HB2.out hlt
          have fz := R.free HB2.out k
          have G := R.drew.set_ HB2.out hlt (Z.getD k 0)
          rw [MS.out k hlt] at G
          have K2 := K.drew.setCell (p := ⟨b3.1, k, none⟩) (by simp) (.int .u64 (Z.getD k 0))
          have HG : Hid _ := G
          generalize (mixL L t.toNat k Z).getD (t.toNat * 36 + k) 0 = y at c4
          generalize Z.getD k 0 = x at *
          clear G e1 e2 e3 e4 R K
          go_wp2_with fail
          go_still_tail 19, (by kernel_rfl)
          change wpList _ _ _ _ _ wr.drew
          go_wp2
          go_roundw
          case rel => exact ⟨k + 1, by omega, by go_num, HG.out, K2⟩
          case measure => simp [intOf]; omega
        · obtain rfl : k = 36 := by omega
          rw [HME.out] at R
          go_wp2
          go_ret
          exact ⟨rfl, R, H.out.chr HB2.out K⟩
    · rw [if_neg (fun q => hot q.2), if_neg (fun q => hot q.2)]
      rw [show isF n t = false from decide_eq_false hot] at HD
      clear h hof hot
      go_enter Try.func25, Try.ntmps25
      go_wp2_with fail
      refine Calls.mono HC ?_
      rintro e w1 ⟨rfl, rfl⟩
      go_wp2_with fail
      refine Calls.mono HD ?_
      rintro e w1 ⟨rfl, rfl⟩
      go_wp2
      go_ret
      exact ⟨rfl, H.out, Chr.of0 (Chg.refl _ _)⟩
  · rw [if_neg (fun q => hof q.1), if_neg (fun q => hof q.1)]
    rw [show isF n f = false from decide_eq_false hof] at HC
    clear h hof HD
    go_enter Try.func25, Try.ntmps25
    go_wp2_with fail
    refine Calls.mono HC ?_
    rintro e w1 ⟨rfl, rfl⟩
    go_wp2
    go_ret
    exact ⟨rfl, H.out, Chr.of0 (Chg.refl _ _)⟩

theorem eq36 {a b : List Int} (ha : a.length = 36) (hb : b.length = 36) (h : ∀ j, j < 36 → a.getD j 0 = b.getD j 0) : a = b := by
  refine List.ext_getElem (by omega) fun j h1 h2 => ?_
  have := h j (by omega)
  simpa [List.getD_eq_getElem?_getD, List.getElem?_eq_getElem h1, List.getElem?_eq_getElem h2] using this
set_option maxHeartbeats 2000000 in
set_option maxRecDepth 100000 in
theorem same_ok {w : World} {B p n : Nat} {v : Value} {bs : List (Nat × Nat)} {L : List Int} (h : RM w B p v n bs L) (h1 : 1 ≤ n) (h2 : n ≤ 64) (f t : Int) : Calls Try.prog 26 #[.pointer (some ⟨p, 0, none⟩), .int .i64 f, .int .i64 t] w fun e w' => e = .returned (.bool (smB n L f t)) ∧ Chg [] w w' := by
  have HC := is_ok h h1 h2 f
  have HD := is_ok h h1 h2 t
  unfold smB
  by_cases hof : 0 ≤ f ∧ f < n
  · rw [show isF n f = true from decide_eq_true hof] at HC
    by_cases hot : 0 ≤ t ∧ t < n
    · rw [decide_eq_true hof, decide_eq_true hot, Bool.true_and, Bool.true_and]
      rw [show isF n t = true from decide_eq_true hot] at HD
      have hl := h.len
      have hf : f.toNat < n := by omega
      have ht : t.toNat < n := by omega
      have hX := frL_len hl hf
      have hY := frL_len hl ht
      have c0 := h.head
      obtain ⟨q, cap, b, rfl, hb, c1⟩ := h.at_ hf
      obtain ⟨q2, cap2, b2, e0, hb2, c2⟩ := h.at_ ht
      obtain ⟨rfl, rfl⟩ : q = q2 ∧ cap = cap2 := by simpa using e0
      have X : Hid (∀ k, k < 36 → w.cell? ⟨b.1, k, none⟩ = some (.int .u64 ((frL L f.toNat).getD k 0))) := fun k hk => by rw [h.cell hb hk, frL_get hk]
      have Y : Hid (∀ k, k < 36 → w.cell? ⟨b2.1, k, none⟩ = some (.int .u64 ((frL L t.toNat).getD k 0))) := fun k hk => by rw [h.cell hb2 hk, frL_get hk]
      generalize frL L f.toNat = xs at *
      generalize frL L t.toNat = ys at *
      obtain ⟨T, eT⟩ : ∃ T : Bool, T = decide (xs = ys) := ⟨_, rfl⟩
      rw [← eT]
      have HT : Hid (T = decide (xs = ys)) := eT
      have HX : Hid _ := hX
      have HY : Hid _ := hY
      obtain ⟨o1, o2⟩ := hof
      obtain ⟨o3, o4⟩ := hot
      clear h hb hb2 hl e0 eT hX hY
      go_enter Try.func26, Try.ntmps26
      go_wp2_with (first
        | (go_at_call 43; ((with_reducible refine Calls.mono HC ?_); rintro e w1 ⟨rfl, rfl⟩))
        | (go_at_call 43; ((with_reducible refine Calls.mono HD ?_); rintro e w1 ⟨rfl, rfl⟩)))
      go_loopw [7] (fun i wr => ∃ k : Nat, k ≤ 36 ∧ i = .int .i64 k ∧ Hid (∀ j, j < k → xs.getD j 0 = ys.getD j 0) ∧ ∃ q, wr = w.drewN q) (fun i _ => 36 - (intOf i).toNat)
      case atStart => exact ⟨0, Nat.zero_le _, rfl, (fun j hj => absurd hj (by omega)), 0, rfl⟩
      case round =>
        clear HC HD
        obtain ⟨k, hk, rfl, HE, qq, rfl⟩ := hrel
        by_cases hlt : k < 36
        · have d1 := X.out k hlt
          have d2 := Y.out k hlt
          obtain ⟨x, hxk⟩ : ∃ x, xs.getD k 0 = x := ⟨_, rfl⟩
          obtain ⟨y, hyk⟩ : ∃ y, ys.getD k 0 = y := ⟨_, rfl⟩
          rw [hxk] at d1
          rw [hyk] at d2
          have HXK : Hid (xs.getD k 0 = x) := hxk
          have HYK : Hid (ys.getD k 0 = y) := hyk
          clear hxk hyk
          by_cases hxy : x = y
          · subst hxy
            have hbx : (x != x) = false := by simp
            have HE' : Hid (∀ j, j < k + 1 → xs.getD j 0 = ys.getD j 0) := by
              intro j hj
              rcases Nat.lt_succ_iff_lt_or_eq.1 hj with h | rfl
              · exact HE.out j h
              · rw [HXK.out, HYK.out]
            go_wp2_with fail
            go_quiet (fail)
            go_wp2
            go_roundw
            case rel => exact ⟨k + 1, by omega, by go_num, HE', qq + nq, rfl⟩
            case measure => simp [intOf]; omega
          · have hbx : (x != y) = true := by rw [bne_iff_ne]; exact hxy
            have hf : T = false := by
              rw [HT.out]
              refine decide_eq_false (fun e => hxy ?_)
              rw [← HXK.out, ← HYK.out, e]
            subst hf
            clear hxy
            go_wp2_with fail
            go_quiet (fail)
            go_wp2
            go_ret
            exact ⟨rfl, ((Chg.refl [] w).drewN qq).drewN nq⟩
        · obtain rfl : k = 36 := by omega
          have ht : T = true := by
            rw [HT.out]
            exact decide_eq_true (eq36 HX.out HY.out HE.out)
          subst ht
          go_wp2
          go_ret
          exact ⟨rfl, (Chg.refl [] w).drewN qq⟩
    · rw [decide_eq_true hof, decide_eq_false hot]
      rw [show isF n t = false from decide_eq_false hot] at HD
      clear h hof hot
      go_enter Try.func26, Try.ntmps26
      go_wp2_with fail
      refine Calls.mono HC ?_
      rintro e w1 ⟨rfl, rfl⟩
      go_wp2_with fail
      refine Calls.mono HD ?_
      rintro e w1 ⟨rfl, rfl⟩
      go_wp2
      go_ret
      exact ⟨rfl, Chg.refl _ _⟩
  · rw [decide_eq_false hof]
    rw [show isF n f = false from decide_eq_false hof] at HC
    clear h hof HD
    go_enter Try.func26, Try.ntmps26
    go_wp2_with fail
    refine Calls.mono HC ?_
    rintro e w1 ⟨rfl, rfl⟩
    go_wp2
    go_ret
    exact ⟨rfl, Chg.refl _ _⟩
end Go.Proofs.Ytofdcnjgfohmcaa.Ref02
