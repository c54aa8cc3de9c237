/- Package slot over a memory: is, at, Get, Put. -/
import Derived.Test.YtbjiecpkalcfeaaCapBack
import Derived.Test.YtbjiecpkalcfeaaTwo
namespace Go.Proofs.Ytbjiecpkalcfeaa.Slot
open Go Go.RowKit Go.Proofs.Ytbjiecpkalcfeaa Go.Proofs.Ytbjiecpkalcfeaa.Heap Go.Proofs.Ytbjiecpkalcfeaa.Bits Go.Proofs.Ytbjiecpkalcfeaa.Cap Go.Proofs.Ytbjiecpkalcfeaa.CapPut Go.Proofs.Ytbjiecpkalcfeaa.CapGet Go.Proofs.Ytbjiecpkalcfeaa.Mem Go.Proofs.Ytbjiecpkalcfeaa.Two

section
set_option maxRecDepth 100000
set_option maxHeartbeats 2000000
theorem is_ok (n : Int) (w : World) : Calls Try.prog 67 #[.int .i64 n] w fun e w' => e = .returned (.bool (decide (0 ≤ n ∧ n < 16))) ∧ w = w' := by
  rcases (by omega : n < 0 ∨ 16 ≤ n ∨ (0 ≤ n ∧ n < 16)) with h | h | ⟨h, h'⟩
  · rw [decide_eq_false (by omega)]
    go_enter Try.func67, Try.ntmps67
    go_wp2
    go_ret
    exact ⟨by first | rfl | (simp; omega), rfl⟩
  · rw [decide_eq_false (by omega)]
    go_enter Try.func67, Try.ntmps67
    go_wp2
    go_ret
    exact ⟨by first | rfl | (simp; omega), rfl⟩
  · rw [decide_eq_true ⟨h, h'⟩]
    go_enter Try.func67, Try.ntmps67
    go_wp2
    go_ret
    exact ⟨by first | rfl | (simp; omega), rfl⟩
theorem at_ok (i : Int) (h0 : 0 ≤ i) (h1 : i < 16) (w : World) : Calls Try.prog 69 #[.int .i64 i] w fun e w' => e = .returned (.int .i64 (4 + 2 * i)) ∧ w = w' := by
  have e1 : IntKind.i64.wrap (2 * i) = 2 * i := by rw [IntKind.wrap_i64]; omega
  have e2 : IntKind.i64.wrap (4 + 2 * i) = 4 + 2 * i := by rw [IntKind.wrap_i64]; omega
  go_enter Try.func69, Try.ntmps69
  go_wp2
  go_ret
  exact ⟨by first | rfl | (simp [e1, e2]), rfl⟩
/-- The capability of a slot, and whether it is one. -/
def sgV (n : Nat) (L : List Int) (f i : Int) : Value := getCV (ldV n L f (4 + 2 * i)) (ldV n L f (5 + 2 * i))
def sgE (n : Nat) (L : List Int) (f i : Int) : Int := getCE (ldV n L f (4 + 2 * i)) (ldV n L f (5 + 2 * i))
theorem getCV_form (u s : Int) : ∃ k r t l e a, getCV u s = capV k r t l e a := by
  unfold getCV
  split
  · exact ⟨_, _, _, _, _, _, rfl⟩
  · exact ⟨_, _, _, _, _, _, rfl⟩
theorem canE_in {n : Nat} {f a : Int} (h0 : 0 ≤ f) (h1 : f < n) (a0 : 0 ≤ a) (a1 : a < 36) : Mem.canE n f a = 0 := Mem.canE_ok ⟨h0, h1, a0, a1⟩
theorem get_ok {w : World} {p g n : Nat} {L : List Int} (h : MemAt w p g n L) (hu : U64 L) (f i : Int) (f0 : 0 ≤ f) (f1 : f < n) (i0 : 0 ≤ i) (i1 : i < 16) :
    Calls Try.prog 38 #[.pointer (some ⟨p, 0, none⟩), .int .i64 f, .int .i64 i] w fun e w' => e = .returned (.tuple #[sgV n L f i, .int .i64 (sgE n L f i)]) ∧ Chg [] w w' := by
  obtain ⟨d, ed⟩ : ∃ d, w.heap.size = d := ⟨_, rfl⟩
  have D := Blk.new' w 70 (capC 0 0 0 0 0 0) ed
  have m := h.alloc (.cells (capC 0 0 0 0 0 0) 70)
  have K := (Chg.refl [] w).alloc (.cells (capC 0 0 0 0 0 0) 70)
  have HI := is_ok i
  rw [decide_eq_true ⟨i0, i1⟩] at HI
  have HI' := Lib.hid HI
  have HA := Lib.hid (at_ok i i0 i1)
  have C1 := fun (W : World) (q : MemAt W p g n L) => Mem.load_ok q f (4 + 2 * i)
  have C2 := fun (W : World) (q : MemAt W p g n L) => Mem.load_ok q f (5 + 2 * i)
  rw [canE_in f0 f1 (by omega) (by omega)] at C1
  rw [canE_in f0 f1 (by omega) (by omega)] at C2
  have u1 := hu.ld (n := n) f (4 + 2 * i)
  have u2 := hu.ld (n := n) f (5 + 2 * i)
  unfold sgV sgE
  generalize ldV n L f (4 + 2 * i) = x at *
  generalize ldV n L f (5 + 2 * i) = y at *
  have HG := fun W => getC_ok x y W u1.1 u1.2 u2.1 u2.2
  obtain ⟨k, r, t, l, e, a, hv⟩ := getCV_form x y
  rw [hv] at HG ⊢
  generalize getCE x y = ge at *
  have HG' := Lib.hid HG
  have HC1 := Lib.hid C1
  have HC2 := Lib.hid C2
  have e5 : IntKind.i64.wrap (4 + 2 * i + 1) = 5 + 2 * i := by rw [IntKind.wrap_i64]; omega
  clear HI C1 C2 HG hv h u1 u2
  go_enter Try.func38, Try.ntmps38
  go_wp2_with fail
  refine Calls.mono (HI'.out _) ?_
  rintro e' w1 ⟨rfl, rfl⟩
  go_wp2_with fail
  refine Calls.mono (HA.out _) ?_
  rintro e' w1 ⟨rfl, rfl⟩
  go_wp2_with fail
  refine Calls.mono (HC1.out _ m) ?_
  rintro e' w1 ⟨rfl, rfl⟩
  go_wp2_with fail
  refine Calls.mono (HA.out _) ?_
  rintro e' w1 ⟨rfl, rfl⟩
  go_wp2_with fail
  refine Calls.mono (HC2.out _ m) ?_
  rintro e' w1 ⟨rfl, rfl⟩
  go_wp2_with fail
  refine Calls.mono (HG'.out _) ?_
  rintro e' w1 ⟨rfl, kk⟩
  replace D := D.chg kk (by simp)
  replace K := K.trans kk (by simp)
  obtain ⟨d0, d1, d2, d3, d4, d5⟩ := blk6 D
  have g0 := D.frozen 0
  have g1 := D.frozen 1
  have g2 := D.frozen 2
  have g3 := D.frozen 3
  have g4 := D.frozen 4
  have g5 := D.frozen 5
  go_wp2_with fail
  have G := Blk.set_ (Blk.set_ (Blk.set_ (Blk.set_ (Blk.set_ (Blk.set_ D 0 (.int .i64 k)) 1 (.int .i64 r)) 2 (.int .i64 t)) 3 (.int .i64 l)) 4 (.int .i64 e)) 5 (.int .i64 a)
  obtain ⟨q0, q1, q2, q3, q4, q5⟩ := blk6 (a := .int .i64 k) (b := .int .i64 r) (c := .int .i64 t) (d := .int .i64 l) (e := .int .i64 e) (f := .int .i64 a) G
  refine ⟨rfl, .tuple #[capV k r t l e a, .int .i64 ge], ?_, rfl, ((((((K.setCell (p := ⟨d, 0, none⟩) (.inr (by simp; omega)) _).setCell (p := ⟨d, 1, none⟩) (.inr (by simp; omega)) _).setCell (p := ⟨d, 2, none⟩) (.inr (by simp; omega)) _).setCell (p := ⟨d, 3, none⟩) (.inr (by simp; omega)) _).setCell (p := ⟨d, 4, none⟩) (.inr (by simp; omega)) _).setCell (p := ⟨d, 5, none⟩) (.inr (by simp; omega)) _)⟩
  simp [results, go_sem, q0, q1, q2, q3, q4, q5]
theorem put_no {w : World} {p : Nat} (f i k r t l e a : Int) (hi : ¬ (0 ≤ i ∧ i < 16)) : Calls Try.prog 35 #[.pointer (some ⟨p, 0, none⟩), .int .i64 f, .int .i64 i, capV k r t l e a] w fun e' w' => e' = .returned (.int .i64 1) ∧ Chg [] w w' := by
  have HI := is_ok i
  rw [decide_eq_false hi] at HI
  have HI' := Lib.hid HI
  have K := (Chg.refl [] w).alloc (.cells (capC k r t l e a) 70)
  clear HI hi
  go_enter Try.func35, Try.ntmps35
  go_wp2_with (go_at_call 67; refine Calls.mono (HI'.out _) ?_; rintro e' w1 ⟨rfl, rfl⟩)
  go_ret
  exact ⟨rfl, K⟩
theorem put_bad {w : World} {p : Nat} (f i k r t l e a : Int) (i0 : 0 ≤ i) (i1 : i < 16) (hR : rightC k r t l e a = false) : Calls Try.prog 35 #[.pointer (some ⟨p, 0, none⟩), .int .i64 f, .int .i64 i, capV k r t l e a] w fun e' w' => e' = .returned (.int .i64 1) ∧ Chg [] w w' := by
  have HI := is_ok i
  rw [decide_eq_true ⟨i0, i1⟩] at HI
  have HI' := Lib.hid HI
  have HP := putC_ok k r t l e a
  rw [hR] at HP
  generalize putC1 k r t l e a = x at *
  generalize putC2 k r t l e a = y at *
  have HP' : Hid (∀ w, Calls Try.prog 68 #[capV k r t l e a] w fun e' w' => e' = .returned (.tuple #[.int .u64 x, .int .u64 y, .int .i64 1]) ∧ Chg [] w w') := HP
  have B := Blk.new w 70 (capC k r t l e a)
  have K := (Chg.refl [] w).alloc (.cells (capC k r t l e a) 70)
  obtain ⟨c0, c1, c2, c3, c4, c5⟩ := blk6 B
  clear HI HP hR i0 i1
  go_enter Try.func35, Try.ntmps35
  go_wp2_with (first
    | (go_at_call 67; refine Calls.mono (HI'.out _) ?_; rintro e' w1 ⟨rfl, rfl⟩)
    | (go_at_call 68; refine Calls.mono (HP'.out _) ?_; rintro e' w1 ⟨rfl, kk⟩; replace K := K.trans kk (by simp)))
  go_ret
  exact ⟨rfl, K⟩
/-- The words behind a capability's being put into a slot. -/
def spL (n : Nat) (L : List Int) (f i a b : Int) : List Int := stL n (stL n L f (4 + 2 * i) a) f (5 + 2 * i) b
theorem put_ok {w : World} {p g n : Nat} {L : List Int} (h : MemAt w p g n L) (f i k r t l e a : Int) (f0 : 0 ≤ f) (f1 : f < n) (i0 : 0 ≤ i) (i1 : i < 16) (hR : rightC k r t l e a = true) : Calls Try.prog 35 #[.pointer (some ⟨p, 0, none⟩), .int .i64 f, .int .i64 i, capV k r t l e a] w fun e' w' => e' = .returned (.int .i64 0) ∧ MemAt w' p g n (spL n L f i (CapW.capWord k r t l e) a) ∧ Chg [g] w w' := by
  have HI := is_ok i
  rw [decide_eq_true ⟨i0, i1⟩] at HI
  have HI' := Lib.hid HI
  have HP := putC_ok k r t l e a
  unfold putC1 putC2 at HP
  rw [hR] at HP
  unfold spL
  generalize CapW.capWord k r t l e = x at *
  have HP' : Hid (∀ w, Calls Try.prog 68 #[capV k r t l e a] w fun e' w' => e' = .returned (.tuple #[.int .u64 x, .int .u64 a, .int .i64 0]) ∧ Chg [] w w') := HP
  have HA := Lib.hid (at_ok i i0 i1)
  have C1 := fun (W : World) (q : MemAt W p g n L) => Mem.store_ok q f (4 + 2 * i) x
  have C2 := fun (W : World) (q : MemAt W p g n (stL n L f (4 + 2 * i) x)) => Mem.store_ok q f (5 + 2 * i) a
  rw [canE_in f0 f1 (by omega) (by omega)] at C1
  rw [canE_in f0 f1 (by omega) (by omega)] at C2
  have HC1 := Lib.hid C1
  have HC2 := Lib.hid C2
  have e5 : IntKind.i64.wrap (4 + 2 * i + 1) = 5 + 2 * i := by rw [IntKind.wrap_i64]; omega
  have B := Blk.new w 70 (capC k r t l e a)
  have m := h.alloc (.cells (capC k r t l e a) 70)
  have K := (Chg.refl [g] w).alloc (.cells (capC k r t l e a) 70)
  obtain ⟨c0, c1, c2, c3, c4, c5⟩ := blk6 B
  clear HI HP hR C1 C2 h
  go_enter Try.func35, Try.ntmps35
  go_wp2_with fail
  refine Calls.mono (HI'.out _) ?_
  rintro e' w1 ⟨rfl, rfl⟩
  go_wp2_with fail
  refine Calls.mono (HP'.out _) ?_
  rintro e' w1 ⟨rfl, kk⟩
  replace K := K.trans kk (by simp)
  replace m := m.chg0 kk
  clear kk c0 c1 c2 c3 c4 c5
  go_wp2_with fail
  refine Calls.mono (HA.out _) ?_
  rintro e' w2 ⟨rfl, rfl⟩
  go_wp2_with fail
  refine Calls.mono (HC1.out _ m) ?_
  rintro e' w2 ⟨rfl, m2, kk⟩
  replace K := K.trans kk (by simp)
  go_wp2_with fail
  refine Calls.mono (HA.out _) ?_
  rintro e' w3 ⟨rfl, rfl⟩
  go_wp2_with fail
  refine Calls.mono (HC2.out _ m2) ?_
  rintro e' w3 ⟨rfl, m3, kk2⟩
  replace K := K.trans kk2 (by simp)
  go_wp2
  go_ret
  exact ⟨rfl, m3, K⟩
end
end Go.Proofs.Ytbjiecpkalcfeaa.Slot
