/- What package cap does with a capability. -/
import Derived.Test.YtbjiecpkalcfeaaHeap
import Derived.Test.YtbjiecpkalcfeaaField
import Derived.Test.YtbjiecpkalcfeaaBits64
namespace Go.Proofs.Ytbjiecpkalcfeaa.Cap
open Go Go.RowKit Go.Proofs.Ytbjiecpkalcfeaa Go.Proofs.Ytbjiecpkalcfeaa.Heap Go.Proofs.Ytbjiecpkalcfeaa.Bits Go.Proofs.Ytbjiecpkalcfeaa.Field

abbrev capV (k r t l e a : Int) : Value := .agg #[.int .i64 k, .int .i64 r, .int .i64 t, .int .i64 l, .int .i64 e, .int .i64 a]
abbrev capC (k r t l e a : Int) : Array Value := #[.int .i64 k, .int .i64 r, .int .i64 t, .int .i64 l, .int .i64 e, .int .i64 a]
theorem blk6 {w : World} {g t : Nat} {a b c d e f : Value} (h : Blk w g t #[a, b, c, d, e, f]) : w.cell? ⟨g, 0, none⟩ = some a ∧ w.cell? ⟨g, 1, none⟩ = some b ∧ w.cell? ⟨g, 2, none⟩ = some c ∧ w.cell? ⟨g, 3, none⟩ = some d ∧ w.cell? ⟨g, 4, none⟩ = some e ∧ w.cell? ⟨g, 5, none⟩ = some f := ⟨h.cell 0, h.cell 1, h.cell 2, h.cell 3, h.cell 4, h.cell 5⟩
def errC (b : Bool) : Int := if b then 0 else 1
def inB (n m : Int) : Bool := decide (0 ≤ n ∧ n < m)
def sizedB (k r t l e a : Int) : Bool := inB k 12 && inB r 32 && inB t 64 && inB l 64 && inB e 65536 && inB a 1073741825
def bareB (l e : Int) : Bool := decide (l = 0 ∧ e = 0)
/-- What is asked of one of a kind. -/
def kindB (k r t l e a : Int) : Bool := if k = 0 then decide (r = 0 ∧ t = 0 ∧ l = 0 ∧ e = 0 ∧ a = 0) else if k = 1 then decide (r = 0 ∧ t = 0 ∧ l = 0 ∧ e = 0) else if k = 2 then bareB l e && decide (1 ≤ a ∧ a ≤ 64 - t) else if k = 5 then decide (a = 0) else if k = 7 then true else if k = 11 then bareB l e && decide (a = 0 ∧ t = 0) else bareB l e && decide (a = 0)
def rightC (k r t l e a : Int) : Bool := sizedB k r t l e a && kindB k r t l e a
theorem sized_bd {k r t l e a : Int} (h : sizedB k r t l e a = true) : (0 ≤ k ∧ k < 12) ∧ (0 ≤ r ∧ r < 32) ∧ (0 ≤ t ∧ t < 64) ∧ (0 ≤ l ∧ l < 64) ∧ (0 ≤ e ∧ e < 65536) ∧ (0 ≤ a ∧ a < 1073741825) := by
  unfold sizedB inB at h
  simp only [Bool.and_eq_true, decide_eq_true_eq] at h
  obtain ⟨⟨⟨⟨⟨h0, h1⟩, h2⟩, h3⟩, h4⟩, h5⟩ := h
  exact ⟨h0, h1, h2, h3, h4, h5⟩

section
set_option maxRecDepth 100000
set_option maxHeartbeats 4000000
theorem in_ok (n m : Int) (w : World) : Calls Try.prog 116 #[.int .i64 n, .int .i64 m] w fun e w' => e = .returned (.bool (inB n m)) ∧ w = w' := by
  go_enter Try.func116, Try.ntmps116
  go_wp2
  all_goals go_ret
  all_goals refine ⟨ret_bool ?_, rfl⟩
  all_goals (unfold inB; first | (symm; apply decide_eq_true; omega) | (symm; apply decide_eq_false; omega) | (rw [Bool.eq_iff_iff]; simp; omega))

theorem bare_ok (k r t l e a : Int) (w : World) : Calls Try.prog 106 #[capV k r t l e a] w fun e' w' => e' = .returned (.bool (bareB l e)) ∧ Chg [] w w' := by
  go_enter Try.func106, Try.ntmps106
  go_wp2
  all_goals go_ret
  all_goals refine ⟨ret_bool ?_, (Chg.refl [] w).alloc _⟩
  all_goals (unfold bareB; first | (symm; apply decide_eq_true; omega) | (symm; apply decide_eq_false; omega) | (rw [Bool.eq_iff_iff]; simp; omega))

theorem sized_ok (k r t l e a : Int) (w : World) : Calls Try.prog 105 #[capV k r t l e a] w fun e' w' => e' = .returned (.bool (sizedB k r t l e a)) ∧ Chg [] w w' := by
  unfold sizedB
  obtain ⟨I, eI⟩ : ∃ I : Int → Int → Bool, I = inB := ⟨_, rfl⟩
  have HI : Hid (∀ n m w, Calls Try.prog 116 #[.int .i64 n, .int .i64 m] w fun e w' => e = .returned (.bool (I n m)) ∧ w = w') := fun n m w => by rw [eI]; exact in_ok n m w
  rw [← eI]
  clear eI
  cases h0 : I k 12 with
  | false =>
    go_enter Try.func105, Try.ntmps105
    go_wp2_with (go_at_call 116; refine Calls.mono (HI.out _ _ _) ?_; rintro e w1 ⟨rfl, rfl⟩)
    go_ret
    exact ⟨by first | rfl | simp [*], (Chg.refl [] w).alloc _⟩
  | true =>
    cases h1 : I r 32 with
    | false =>
      go_enter Try.func105, Try.ntmps105
      go_wp2_with (go_at_call 116; refine Calls.mono (HI.out _ _ _) ?_; rintro e w1 ⟨rfl, rfl⟩)
      go_ret
      exact ⟨by first | rfl | simp [*], (Chg.refl [] w).alloc _⟩
    | true =>
      cases h2 : I t 64 with
      | false =>
        go_enter Try.func105, Try.ntmps105
        go_wp2_with (go_at_call 116; refine Calls.mono (HI.out _ _ _) ?_; rintro e w1 ⟨rfl, rfl⟩)
        go_ret
        exact ⟨by first | rfl | simp [*], (Chg.refl [] w).alloc _⟩
      | true =>
        cases h3 : I l 64 with
        | false =>
          go_enter Try.func105, Try.ntmps105
          go_wp2_with (go_at_call 116; refine Calls.mono (HI.out _ _ _) ?_; rintro e w1 ⟨rfl, rfl⟩)
          go_ret
          exact ⟨by first | rfl | simp [*], (Chg.refl [] w).alloc _⟩
        | true =>
          cases h4 : I e 65536 with
          | false =>
            go_enter Try.func105, Try.ntmps105
            go_wp2_with (go_at_call 116; refine Calls.mono (HI.out _ _ _) ?_; rintro e w1 ⟨rfl, rfl⟩)
            go_ret
            exact ⟨by first | rfl | simp [*], (Chg.refl [] w).alloc _⟩
          | true =>
            cases h5 : I a 1073741825 with
            | false =>
              go_enter Try.func105, Try.ntmps105
              go_wp2_with (go_at_call 116; refine Calls.mono (HI.out _ _ _) ?_; rintro e w1 ⟨rfl, rfl⟩)
              go_ret
              exact ⟨by first | rfl | simp [*], (Chg.refl [] w).alloc _⟩
            | true =>
              go_enter Try.func105, Try.ntmps105
              go_wp2_with (go_at_call 116; refine Calls.mono (HI.out _ _ _) ?_; rintro e w1 ⟨rfl, rfl⟩)
              go_ret
              exact ⟨by first | rfl | simp [*], (Chg.refl [] w).alloc _⟩

theorem right_ok (k r t l e a : Int) (w : World) : Calls Try.prog 90 #[capV k r t l e a] w fun e' w' => e' = .returned (.bool (rightC k r t l e a)) ∧ Chg [] w w' := by
  unfold rightC
  have hbd := fun h => sized_bd (k := k) (r := r) (t := t) (l := l) (e := e) (a := a) h
  have hS := sized_ok k r t l e a
  have hB := bare_ok k r t l e a
  generalize sizedB k r t l e a = S at *
  have HS : Hid (∀ w, Calls Try.prog 105 #[capV k r t l e a] w fun e w' => e = .returned (.bool S) ∧ Chg [] w w') := hS
  obtain ⟨bb, eb⟩ : ∃ bb, bareB l e = bb := ⟨_, rfl⟩
  rw [eb] at hB
  have HB : Hid (∀ w, Calls Try.prog 106 #[capV k r t l e a] w fun e' w' => e' = .returned (.bool bb) ∧ Chg [] w w') := hB
  have HE : Hid (bareB l e = bb) := eb
  clear hS hB eb
  have B := Blk.new w 70 (capC k r t l e a)
  have K := (Chg.refl [] w).alloc (.cells (capC k r t l e a) 70)
  cases S with
  | false =>
    clear hbd
    go_enter Try.func90, Try.ntmps90
    go_wp2_with (go_at_call 105; refine Calls.mono (HS.out _) ?_; rintro e' w1 ⟨rfl, k1⟩; replace K := K.trans k1 (by simp))
    go_ret
    exact ⟨rfl, K⟩
  | true =>
    obtain ⟨⟨b0, b1⟩, ⟨b2, b3⟩, ⟨b4, b5⟩, ⟨b6, b7⟩, ⟨b8, b9⟩, ⟨b10, b11⟩⟩ := hbd rfl
    cases bb
    all_goals
      go_enter Try.func90, Try.ntmps90
      go_wp2_with (first
        | (go_at_call 105; refine Calls.mono (HS.out _) ?_; rintro e' w1 ⟨rfl, k1⟩; replace B := B.chg k1 (by simp); replace K := K.trans k1 (by simp); clear k1; obtain ⟨c0, c1, c2, c3, c4, c5⟩ := blk6 B; have f5 := B.frozen 5)
        | (go_at_call 106; refine Calls.mono (HB.out _) ?_; rintro e' w1 ⟨rfl, k1⟩; replace B := B.chg k1 (by simp); replace K := K.trans k1 (by simp); clear k1 c0 c1 c2 c3 c4 c5 f5; obtain ⟨c0, c1, c2, c3, c4, c5⟩ := blk6 B))
    all_goals go_ret
    all_goals refine ⟨ret_bool ?_, by first | exact K | exact K.setCell (p := ⟨_, 5, none⟩) (.inr (by simp)) _⟩
    all_goals
      have hE := HE.out
      clear HE HS HB B K c0 c1 c2 c3 c4 c5 hbd
      (try rw [Bool.true_and])
      unfold kindB
      rw [hE]
      simp only [beq_iff_eq, beq_eq_false_iff_ne, ne_eq] at *
      first
        | (simp [*]; done)
        | (simp_all; done)
        | (simp [*]; omega)
        | (simp_all; omega)
        | (rw [Bool.eq_iff_iff]; (repeat' split) <;> first | (exfalso; omega) | (simp; done) | (simp; omega))

def withinB (t a t' a' : Int) : Bool := decide (t' ≤ t ∧ t + a ≤ t' + a')
/-- Is one no more than another, beyond being right, of one kind that grants something, with no more rights? -/
def restB (k t l e a t' l' e' a' : Int) : Bool := if k = 2 then withinB t a t' a' else decide (t = t' ∧ l = l' ∧ e = e' ∧ a = a')
def underB (k r t l e a k' r' t' l' e' a' : Int) : Bool := rightC k r t l e a && rightC k' r' t' l' e' a' && decide (1 < k) && decide (k = k') && (bits .andNot .i64 r r' == 0) && restB k t l e a t' l' e' a'
theorem right_sized {k r t l e a : Int} (h : rightC k r t l e a = true) : sizedB k r t l e a = true := by
  unfold rightC at h; rw [Bool.and_eq_true] at h; exact h.1
end
end Go.Proofs.Ytbjiecpkalcfeaa.Cap
