/- What package pte does with a mapping. -/
import Derived.Test.YtddjkejliogenaaHeap
import Derived.Test.YtddjkejliogenaaField
import Derived.Test.YtddjkejliogenaaBits64
namespace Go.Proofs.Ytddjkejliogenaa.Pte
open Go Go.RowKit Go.Proofs.Ytddjkejliogenaa Go.Proofs.Ytddjkejliogenaa.Heap Go.Proofs.Ytddjkejliogenaa.Bits Go.Proofs.Ytddjkejliogenaa.Field

/-- May a mapping be? -/
def rightB (on : Bool) (f r t : Int) : Bool := if on then decide (0 ≤ f ∧ f < 64 ∧ 1 ≤ r ∧ r ≤ 3 ∧ t = 0) else decide (f = 0 ∧ r = 0 ∧ 0 ≤ t ∧ t ≤ 1073741824)
/-- A mapping, as a value. -/
abbrev pteV (on : Bool) (f r t : Int) : Value := .agg #[.bool on, .int .i64 f, .int .i64 r, .int .i64 t]
abbrev pteC (on : Bool) (f r t : Int) : Array Value := #[.bool on, .int .i64 f, .int .i64 r, .int .i64 t]

theorem blk4 {w : World} {g t : Nat} {a b c d : Value} (h : Blk w g t #[a, b, c, d]) : w.cell? ⟨g, 0, none⟩ = some a ∧ w.cell? ⟨g, 1, none⟩ = some b ∧ w.cell? ⟨g, 2, none⟩ = some c ∧ w.cell? ⟨g, 3, none⟩ = some d := ⟨h.cell 0, h.cell 1, h.cell 2, h.cell 3⟩

set_option maxRecDepth 100000 in
set_option maxHeartbeats 2000000 in
theorem right_ok (on : Bool) (f r t : Int) (w : World) : Calls Try.prog 53 #[pteV on f r t] w fun e w' => e = .returned (.bool (rightB on f r t)) ∧ Chg [] w w' := by
  cases on
  · go_enter Try.func53, Try.ntmps53
    go_wp2
    all_goals go_ret
    all_goals refine ⟨ret_bool ?_, (Chg.refl [] w).alloc _⟩
    all_goals (unfold rightB; rw [if_neg (by decide)]; first | (symm; apply decide_eq_true; omega) | (symm; apply decide_eq_false; omega) | (rw [Bool.eq_iff_iff]; simp; omega))
  · go_enter Try.func53, Try.ntmps53
    go_wp2
    all_goals go_ret
    all_goals refine ⟨ret_bool ?_, (Chg.refl [] w).alloc _⟩
    all_goals (unfold rightB; rw [if_pos rfl]; first | (symm; apply decide_eq_true; omega) | (symm; apply decide_eq_false; omega) | (rw [Bool.eq_iff_iff]; simp; omega))

def allowsB (on : Bool) (f r t k : Int) : Bool := rightB on f r t && on && (bits .andNot .i64 k r == 0)
set_option maxRecDepth 100000 in
set_option maxHeartbeats 2000000 in
theorem allows_ok (on : Bool) (f r t k : Int) (w : World) : Calls Try.prog 13 #[pteV on f r t, .int .i64 k] w fun e w' => e = .returned (.bool (allowsB on f r t k)) ∧ Chg [] w w' := by
  unfold allowsB
  obtain ⟨R, eR⟩ : ∃ R, rightB on f r t = R := ⟨_, rfl⟩
  have HR : Hid (∀ w, Calls Try.prog 53 #[pteV on f r t] w fun e w' => e = .returned (.bool R) ∧ Chg [] w w') := fun w => by rw [← eR]; exact right_ok on f r t w
  rw [eR]
  clear eR
  have B := Blk.new w 23 (pteC on f r t)
  have K := (Chg.refl [] w).alloc (.cells (pteC on f r t) 23)
  cases R <;> cases on
  all_goals
    go_enter Try.func13, Try.ntmps13
    go_wp2_with (go_at_call 53; refine Calls.mono (HR.out _) ?_; rintro e w1 ⟨rfl, k1⟩; replace B := B.chg k1 (by simp); replace K := K.trans k1 (by simp); obtain ⟨c0, c1, c2, c3⟩ := blk4 B)
    all_goals go_ret
    all_goals exact ⟨rfl, K⟩

def errB (b : Bool) : Int := if b then 0 else 1
set_option maxRecDepth 100000 in
set_option maxHeartbeats 2000000 in
theorem check_ok (on : Bool) (f r t : Int) (w : World) : Calls Try.prog 14 #[pteV on f r t] w fun e w' => e = .returned (.int .i64 (errB (rightB on f r t))) ∧ Chg [] w w' := by
  obtain ⟨R, eR⟩ : ∃ R, rightB on f r t = R := ⟨_, rfl⟩
  have HR : Hid (∀ w, Calls Try.prog 53 #[pteV on f r t] w fun e w' => e = .returned (.bool R) ∧ Chg [] w w') := fun w => by rw [← eR]; exact right_ok on f r t w
  rw [eR]
  clear eR
  have K := (Chg.refl [] w).alloc (.cells (pteC on f r t) 23)
  cases R
  all_goals
    go_enter Try.func14, Try.ntmps14
    go_wp2_with (go_at_call 53; refine Calls.mono (HR.out _) ?_; rintro e w1 ⟨rfl, k1⟩; replace K := K.trans k1 (by simp))
    go_ret
    exact ⟨rfl, K⟩

def quietB (on : Bool) (f r t fl : Int) : Bool := rightB on f r t && !on && (t == 0 || decide (t < fl))
set_option maxRecDepth 100000 in
set_option maxHeartbeats 2000000 in
theorem quiet_ok (on : Bool) (f r t fl : Int) (w : World) : Calls Try.prog 15 #[pteV on f r t, .int .i64 fl] w fun e w' => e = .returned (.bool (quietB on f r t fl)) ∧ Chg [] w w' := by
  unfold quietB
  obtain ⟨R, eR⟩ : ∃ R, rightB on f r t = R := ⟨_, rfl⟩
  have HR : Hid (∀ w, Calls Try.prog 53 #[pteV on f r t] w fun e w' => e = .returned (.bool R) ∧ Chg [] w w') := fun w => by rw [← eR]; exact right_ok on f r t w
  rw [eR]
  clear eR
  have B := Blk.new w 23 (pteC on f r t)
  have K := (Chg.refl [] w).alloc (.cells (pteC on f r t) 23)
  cases R <;> cases on
  all_goals
    go_enter Try.func15, Try.ntmps15
    go_wp2_with (go_at_call 53; refine Calls.mono (HR.out _) ?_; rintro e w1 ⟨rfl, k1⟩; replace B := B.chg k1 (by simp); replace K := K.trans k1 (by simp); obtain ⟨c0, c1, c2, c3⟩ := blk4 B)
    all_goals go_ret
    all_goals refine ⟨ret_bool ?_, K⟩
    all_goals first | rfl | (simp; omega)

/-- With fewer rights: can it be, and the rights that are left. -/
def lessOk (on : Bool) (f r t k : Int) : Bool := rightB on f r t && on && (bits .and .i64 r k != 0)
set_option maxRecDepth 100000 in
set_option maxHeartbeats 2000000 in
theorem less_ok (on : Bool) (f r t k : Int) (w : World) : Calls Try.prog 12 #[pteV on f r t, .int .i64 k] w fun e w' =>
    e = .returned (.tuple #[if lessOk on f r t k then pteV on f (bits .and .i64 r k) t else pteV false 0 0 0, .int .i64 (errB (lessOk on f r t k))]) ∧ Chg [] w w' := by
  unfold lessOk
  obtain ⟨R, eR⟩ : ∃ R, rightB on f r t = R := ⟨_, rfl⟩
  have HR : Hid (∀ w, Calls Try.prog 53 #[pteV on f r t] w fun e w' => e = .returned (.bool R) ∧ Chg [] w w') := fun w => by rw [← eR]; exact right_ok on f r t w
  rw [eR]
  clear eR
  obtain ⟨b, eb⟩ : ∃ b, w.heap.size = b := ⟨_, rfl⟩
  obtain ⟨z, ez⟩ : ∃ z, bits .and .i64 r k = z := ⟨_, rfl⟩
  have B := (Blk.new' w 23 (pteC on f r t) eb).alloc (.cells (pteC false 0 0 0) 23)
  have B2 : Blk ((w.alloc (.cells (pteC on f r t) 23)).alloc (.cells (pteC false 0 0 0) 23)) (b + 1) 23 (pteC false 0 0 0) := Blk.new' _ _ _ (by simp; omega)
  have K := ((Chg.refl [] w).alloc (.cells (pteC on f r t) 23)).alloc (.cells (pteC false 0 0 0) 23)
  rw [ez]
  by_cases hall : R = true ∧ on = true
  · obtain ⟨rfl, rfl⟩ := hall
    by_cases hz : (z == 0) = true
    · have hz' : (true && true && z != 0) = false := by simp [bne, hz]
      rw [hz']
      simp only [Bool.false_eq_true, if_false]
      obtain rfl : z = 0 := by simpa using hz
      go_enter Try.func12, Try.ntmps12
      go_wp2_with (go_at_call 53; refine Calls.mono (HR.out _) ?_; rintro e w1 ⟨rfl, k1⟩; replace B := B.chg k1 (by simp); replace B2 := B2.chg k1 (by simp); replace K := K.trans k1 (by simp); obtain ⟨c0, c1, c2, c3⟩ := blk4 B; obtain ⟨d0, d1, d2, d3⟩ := blk4 B2; have f2 := B.frozen 2; have g0 := B2.frozen 0; have g1 := B2.frozen 1; have g2 := B2.frozen 2; have g3 := B2.frozen 3)
      have G := Blk.set_ (Blk.set_ (Blk.set_ (Blk.set_ (B2.far (p := ⟨b, 2, none⟩) (by simp) (.int .i64 0)) 0 (.bool false)) 1 (.int .i64 0)) 2 (.int .i64 0)) 3 (.int .i64 0)
      obtain ⟨q0, q1, q2, q3⟩ := blk4 (a := .bool false) (b := .int .i64 0) (c := .int .i64 0) (d := .int .i64 0) G
      refine ⟨rfl, .tuple #[pteV false 0 0 0, .int .i64 1], ?_, rfl, ((((K.setCell (p := ⟨b, 2, none⟩) (.inr (by simp; omega)) _).setCell (p := ⟨b + 1, 0, none⟩) (.inr (by simp; omega)) _).setCell (p := ⟨b + 1, 1, none⟩) (.inr (by simp; omega)) _).setCell (p := ⟨b + 1, 2, none⟩) (.inr (by simp; omega)) _).setCell (p := ⟨b + 1, 3, none⟩) (.inr (by simp; omega)) _⟩
      simp [results, go_sem, q0, q1, q2, q3]
    · have hzf : (z == 0) = false := by simpa using hz
      have hz' : (true && true && z != 0) = true := by simp [bne, hzf]
      rw [hz', if_pos rfl]
      go_enter Try.func12, Try.ntmps12
      go_wp2_with (go_at_call 53; refine Calls.mono (HR.out _) ?_; rintro e w1 ⟨rfl, k1⟩; replace B := B.chg k1 (by simp); replace B2 := B2.chg k1 (by simp); replace K := K.trans k1 (by simp); obtain ⟨c0, c1, c2, c3⟩ := blk4 B; obtain ⟨d0, d1, d2, d3⟩ := blk4 B2; have f2 := B.frozen 2; have g0 := B2.frozen 0; have g1 := B2.frozen 1; have g2 := B2.frozen 2; have g3 := B2.frozen 3)
      have G := Blk.set_ (Blk.set_ (Blk.set_ (Blk.set_ (B2.far (p := ⟨b, 2, none⟩) (by simp) (.int .i64 z)) 0 (.bool true)) 1 (.int .i64 f)) 2 (.int .i64 z)) 3 (.int .i64 t)
      obtain ⟨q0, q1, q2, q3⟩ := blk4 (a := .bool true) (b := .int .i64 f) (c := .int .i64 z) (d := .int .i64 t) G
      refine ⟨rfl, .tuple #[pteV true f z t, .int .i64 0], ?_, rfl, ((((K.setCell (p := ⟨b, 2, none⟩) (.inr (by simp; omega)) _).setCell (p := ⟨b + 1, 0, none⟩) (.inr (by simp; omega)) _).setCell (p := ⟨b + 1, 1, none⟩) (.inr (by simp; omega)) _).setCell (p := ⟨b + 1, 2, none⟩) (.inr (by simp; omega)) _).setCell (p := ⟨b + 1, 3, none⟩) (.inr (by simp; omega)) _⟩
      simp [results, go_sem, q0, q1, q2, q3]
  · have hz' : (R && on && z != 0) = false := by cases R <;> cases on <;> simp_all
    rw [hz']
    simp only [Bool.false_eq_true, if_false]
    cases R
    all_goals try cases on
    case neg.true.true => exact absurd ⟨rfl, rfl⟩ hall
    all_goals
      clear hall hz'
      go_enter Try.func12, Try.ntmps12
      go_wp2_with (go_at_call 53; refine Calls.mono (HR.out _) ?_; rintro e w1 ⟨rfl, k1⟩; replace B := B.chg k1 (by simp); replace B2 := B2.chg k1 (by simp); replace K := K.trans k1 (by simp); obtain ⟨c0, c1, c2, c3⟩ := blk4 B; obtain ⟨d0, d1, d2, d3⟩ := blk4 B2; have f2 := B.frozen 2; have g0 := B2.frozen 0; have g1 := B2.frozen 1; have g2 := B2.frozen 2; have g3 := B2.frozen 3)
      have G := Blk.set_ (Blk.set_ (Blk.set_ (Blk.set_ B2 0 (.bool false)) 1 (.int .i64 0)) 2 (.int .i64 0)) 3 (.int .i64 0)
      obtain ⟨q0, q1, q2, q3⟩ := blk4 (a := .bool false) (b := .int .i64 0) (c := .int .i64 0) (d := .int .i64 0) G
      refine ⟨rfl, .tuple #[pteV false 0 0 0, .int .i64 1], ?_, rfl, (((K.setCell (p := ⟨b + 1, 0, none⟩) (.inr (by simp; omega)) _).setCell (p := ⟨b + 1, 1, none⟩) (.inr (by simp; omega)) _).setCell (p := ⟨b + 1, 2, none⟩) (.inr (by simp; omega)) _).setCell (p := ⟨b + 1, 3, none⟩) (.inr (by simp; omega)) _⟩
      simp [results, go_sem, q0, q1, q2, q3]
end Go.Proofs.Ytddjkejliogenaa.Pte
