/- PteLess' walk. -/
import Derived.Test.YtddjkejliogenaaPte
namespace Go.Proofs.Ytddjkejliogenaa.PteLess
open Go Go.RowKit Go.Proofs.Ytddjkejliogenaa Go.Proofs.Ytddjkejliogenaa.Heap Go.Proofs.Ytddjkejliogenaa.Bits Go.Proofs.Ytddjkejliogenaa.Field Go.Proofs.Ytddjkejliogenaa.Pte

set_option maxRecDepth 100000 in
theorem awake_ok (w : World) : Calls Try.prog 16 #[] w fun e w' => e = .returned (.bool true) ∧ Chg [] w w' := by
  have h7 : allowsB true 0 1 0 1 = true := by decide
  go_enter Try.func16, Try.ntmps16
  go_wp2_with fail
  refine (allows_ok true 0 1 0 1 w).mono ?_
  rintro e w' ⟨rfl, k⟩
  go_wp2
  go_ret
  exact ⟨ret_bool h7, k⟩

theorem less_right {on : Bool} {f r t k : Int} (h : lessOk on f r t k = true) : rightB on f (bits .and .i64 r k) t = true := by
  unfold lessOk at h
  simp only [Bool.and_eq_true, bne_iff_ne, ne_eq] at h
  obtain ⟨⟨h1, rfl⟩, h2⟩ := h
  unfold rightB at *
  rw [if_pos rfl] at *
  have h3 := of_decide_eq_true h1
  have h4 := Bits64.and_le (p := r) (r := k) (by omega) (by omega)
  exact decide_eq_true (by omega)
theorem less_allows {on : Bool} {f r t k q : Int} (h : lessOk on f r t k = true) (ha : allowsB on f (bits .and .i64 r k) t q = true) : allowsB on f r t q = true := by
  unfold lessOk at h
  unfold allowsB at *
  simp only [Bool.and_eq_true, beq_iff_eq] at *
  exact ⟨h.1, Bits64.andNot_part ha.2⟩
theorem quiet_mono {on : Bool} {f r t a b : Int} (h : quietB on f r t (min a b) = true) : quietB on f r t (max a b) = true := by
  unfold quietB at *
  simp only [Bool.and_eq_true, Bool.or_eq_true, decide_eq_true_eq] at *
  refine ⟨h.1, h.2.imp id (fun h => by omega)⟩
theorem quiet_not {on : Bool} {f r t a q : Int} (h : quietB on f r t a = true) : allowsB on f r t q = false := by
  unfold quietB at h
  unfold allowsB
  simp only [Bool.and_eq_true, Bool.not_eq_true'] at h
  rw [h.1.2]
  simp

set_option maxRecDepth 100000 in
set_option maxHeartbeats 4000000 in
theorem pteLess_walk (on : Bool) (f r t k q a b : Int) (w : World) : Calls Try.prog 3 #[pteV on f r t, .int .i64 k, .int .i64 q, .int .i64 a, .int .i64 b] w fun e w' => e = .returned (.bool true) ∧ Chg [] w w' := by
  obtain ⟨g, eg⟩ : ∃ g, w.heap.size = g := ⟨_, rfl⟩
  have B := Blk.new' w 23 (pteC on f r t) eg
  have K := (Chg.refl [] w).alloc (.cells (pteC on f r t) 23)
  have HL := less_ok on f r t k
  have h1 : lessOk on f r t k = true → rightB on f (bits .and .i64 r k) t = true := less_right
  have h2 : lessOk on f r t k = true → allowsB on f (bits .and .i64 r k) t q = true → allowsB on f r t q = true := less_allows
  have h3 : quietB on f r t (min a b) = true → quietB on f r t (max a b) = true := quiet_mono
  have h4 : quietB on f r t a = true → allowsB on f r t 0 = false := quiet_not
  have HA := fun z w => allows_ok on f z t q w
  have HA0 := fun w => allows_ok on f r t 0 w
  have HC := fun z w => check_ok on f z t w
  have HQ := fun l w => quiet_ok on f r t l w
  have tF : (f == f) = true := by simp
  obtain ⟨Al, eAl⟩ : ∃ Al : Int → Int → Bool, Al = fun z q => allowsB on f z t q := ⟨_, rfl⟩
  obtain ⟨Qu, eQu⟩ : ∃ Qu : Int → Bool, Qu = fun l => quietB on f r t l := ⟨_, rfl⟩
  have GA : Hid (∀ z q w, Calls Try.prog 13 #[pteV on f z t, .int .i64 q] w fun e w' => e = .returned (.bool (Al z q)) ∧ Chg [] w w') := fun z q w => by rw [eAl]; exact allows_ok on f z t q w
  have GQ : Hid (∀ l w, Calls Try.prog 15 #[pteV on f r t, .int .i64 l] w fun e w' => e = .returned (.bool (Qu l)) ∧ Chg [] w w') := fun l w => by rw [eQu]; exact quiet_ok on f r t l w
  have h2' : lessOk on f r t k = true → Al (bits .and .i64 r k) q = true → Al r q = true := by rw [eAl]; exact h2
  have h3' : Qu (min a b) = true → Qu (max a b) = true := by rw [eQu]; exact h3
  have h4' : Qu a = true → Al r 0 = false := by rw [eQu, eAl]; exact h4
  clear HA HA0 HQ h2 h3 h4 eAl eQu
  generalize lessOk on f r t k = L at *
  generalize bits .and .i64 r k = z at *
  have GC : Hid (∀ w, Calls Try.prog 14 #[pteV on f z t] w fun e w' => e = .returned (.int .i64 (errB (rightB on f z t))) ∧ Chg [] w w') := fun w => HC z w
  clear HC
  generalize rightB on f z t = R at *
  have g2 : (a ≤ b ∧ Qu a = false) ∨ (a ≤ b ∧ Qu a = true ∧ Qu b = true ∧ Al r 0 = false) ∨ (b < a ∧ Qu b = false ∧ Qu a = false) ∨ (b < a ∧ Qu b = false ∧ Qu a = true ∧ Al r 0 = false) ∨ (b < a ∧ Qu b = true ∧ Qu a = true ∧ Al r 0 = false) := by
    by_cases hab : a ≤ b
    · rw [Int.min_eq_left hab, Int.max_eq_right hab] at h3'
      cases h : Qu a
      · exact .inl ⟨hab, rfl⟩
      · exact .inr (.inl ⟨hab, rfl, h3' h, h4' h⟩)
    · rw [Int.min_eq_right (by omega), Int.max_eq_left (by omega)] at h3'
      cases hb : Qu b
      · cases ha : Qu a
        · exact .inr (.inr (.inl ⟨by omega, rfl, rfl⟩))
        · exact .inr (.inr (.inr (.inl ⟨by omega, rfl, rfl, h4' ha⟩)))
      · exact .inr (.inr (.inr (.inr ⟨by omega, rfl, h3' hb, h4' (h3' hb)⟩)))
  clear h3' h4'
  cases L with
  | true =>
    obtain rfl : R = true := h1 rfl
    have HL' : Hid (∀ w, Calls Try.prog 12 #[pteV on f r t, .int .i64 k] w fun e w' => e = .returned (.tuple #[pteV on f z t, .int .i64 0]) ∧ Chg [] w w') := HL
    have GC' : Hid (∀ w, Calls Try.prog 14 #[pteV on f z t] w fun e w' => e = .returned (.int .i64 0) ∧ Chg [] w w') := GC
    clear HL GC
    have g1 : Al z q = false ∨ (Al z q = true ∧ Al r q = true) := by cases h : Al z q; exact .inl rfl; exact .inr ⟨rfl, h2' rfl h⟩
    clear h1 h2'
    rcases g1 with g1 | ⟨g1, g1'⟩ <;> rcases g2 with ⟨g2, g3⟩ | ⟨g2, g3, g4, g5⟩ | ⟨g2, g3, g4⟩ | ⟨g2, g3, g4, g5⟩ | ⟨g2, g3, g4, g5⟩
    all_goals
      go_enter Try.func3, Try.ntmps3
      go_wp2_with fail
      refine Calls.mono (HL'.out _) ?_
      rintro e w1 ⟨rfl, k1⟩
      replace B := B.chg k1 (by simp)
      replace K := K.trans k1 (by simp)
      obtain ⟨c0, c1, c2, c3⟩ := blk4 B
      obtain ⟨x, ex⟩ : ∃ x, w1.heap.size = x := ⟨_, rfl⟩
      have B2 := Blk.new' w1 23 (pteC on f z t) ex
      replace B := B.alloc (.cells (pteC on f z t) 23)
      replace K := K.alloc (.cells (pteC on f z t) 23)
      obtain ⟨c0, c1, c2, c3⟩ := blk4 B
      obtain ⟨d0, d1, d2, d3⟩ := blk4 B2
      go_wp2_with (first
        | (go_at_call 13; refine Calls.mono (GA.out _ _ _) ?_; rintro e w1 ⟨rfl, k1⟩; replace B := B.chg k1 (by simp); replace B2 := B2.chg k1 (by simp); replace K := K.trans k1 (by simp); clear k1 c0 c1 c2 c3 d0 d1 d2 d3; obtain ⟨c0, c1, c2, c3⟩ := blk4 B; obtain ⟨d0, d1, d2, d3⟩ := blk4 B2)
        | (go_at_call 14; refine Calls.mono (GC'.out _) ?_; rintro e w1 ⟨rfl, k1⟩; replace B := B.chg k1 (by simp); replace B2 := B2.chg k1 (by simp); replace K := K.trans k1 (by simp); clear k1 c0 c1 c2 c3 d0 d1 d2 d3; obtain ⟨c0, c1, c2, c3⟩ := blk4 B; obtain ⟨d0, d1, d2, d3⟩ := blk4 B2)
        | (go_at_call 15; refine Calls.mono (GQ.out _ _) ?_; rintro e w1 ⟨rfl, k1⟩; replace B := B.chg k1 (by simp); replace B2 := B2.chg k1 (by simp); replace K := K.trans k1 (by simp); clear k1 c0 c1 c2 c3 d0 d1 d2 d3; obtain ⟨c0, c1, c2, c3⟩ := blk4 B; obtain ⟨d0, d1, d2, d3⟩ := blk4 B2)
        | (go_at_call 16; refine Calls.mono (awake_ok _) ?_; rintro e w1 ⟨rfl, k1⟩; replace K := K.trans k1 (by simp)))
    all_goals go_ret
    all_goals exact ⟨rfl, K⟩
  | false =>
    have HL' : Hid (∀ w, Calls Try.prog 12 #[pteV on f r t, .int .i64 k] w fun e w' => e = .returned (.tuple #[pteV false 0 0 0, .int .i64 1]) ∧ Chg [] w w') := HL
    clear HL GC h1 h2'
    rcases g2 with ⟨g2, g3⟩ | ⟨g2, g3, g4, g5⟩ | ⟨g2, g3, g4⟩ | ⟨g2, g3, g4, g5⟩ | ⟨g2, g3, g4, g5⟩
    all_goals
      go_enter Try.func3, Try.ntmps3
      go_wp2_with fail
      refine Calls.mono (HL'.out _) ?_
      rintro e w1 ⟨rfl, k1⟩
      replace B := B.chg k1 (by simp)
      replace K := K.trans k1 (by simp)
      obtain ⟨c0, c1, c2, c3⟩ := blk4 B
      obtain ⟨x, ex⟩ : ∃ x, w1.heap.size = x := ⟨_, rfl⟩
      have B2 := Blk.new' w1 23 (pteC false 0 0 0) ex
      replace B := B.alloc (.cells (pteC false 0 0 0) 23)
      replace K := K.alloc (.cells (pteC false 0 0 0) 23)
      obtain ⟨c0, c1, c2, c3⟩ := blk4 B
      obtain ⟨d0, d1, d2, d3⟩ := blk4 B2
      go_wp2_with (first
        | (go_at_call 13; refine Calls.mono (GA.out _ _ _) ?_; rintro e w1 ⟨rfl, k1⟩; replace B := B.chg k1 (by simp); replace B2 := B2.chg k1 (by simp); replace K := K.trans k1 (by simp); clear k1 c0 c1 c2 c3 d0 d1 d2 d3; obtain ⟨c0, c1, c2, c3⟩ := blk4 B; obtain ⟨d0, d1, d2, d3⟩ := blk4 B2)
        | (go_at_call 15; refine Calls.mono (GQ.out _ _) ?_; rintro e w1 ⟨rfl, k1⟩; replace B := B.chg k1 (by simp); replace B2 := B2.chg k1 (by simp); replace K := K.trans k1 (by simp); clear k1 c0 c1 c2 c3 d0 d1 d2 d3; obtain ⟨c0, c1, c2, c3⟩ := blk4 B; obtain ⟨d0, d1, d2, d3⟩ := blk4 B2)
        | (go_at_call 16; refine Calls.mono (awake_ok _) ?_; rintro e w1 ⟨rfl, k1⟩; replace K := K.trans k1 (by simp)))
    all_goals go_ret
    all_goals exact ⟨rfl, K⟩
end Go.Proofs.Ytddjkejliogenaa.PteLess
