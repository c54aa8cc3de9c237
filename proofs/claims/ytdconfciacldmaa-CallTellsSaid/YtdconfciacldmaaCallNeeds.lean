/- CallNeeds' walk. -/
import Derived.Test.YtdconfciacldmaaCallRight
import Derived.Deep.RegionHeld3
namespace Go.Proofs.Ytdconfciacldmaa.CallNeeds
open Go Go.RowKit Go.Proofs.Ytdconfciacldmaa Go.Proofs.Ytdconfciacldmaa.Heap Go.Proofs.Ytdconfciacldmaa.Bits Go.Proofs.Ytdconfciacldmaa.Field Go.Proofs.Ytdconfciacldmaa.Call Go.Proofs.Ytdconfciacldmaa.CallRight

theorem fits_small {x v : Int} (h0 : 0 ≤ x) (h1 : x < 256) (hv : v = 8 ∨ v = 16) : fitsB x v = true := by
  unfold fitsB
  rcases hv with rfl | rfl
  · exact decide_eq_true (by show x.toNat < 2 ^ 8; omega)
  · exact decide_eq_true (by show x.toNat < 2 ^ 16; omega)
theorem arg_good {N x : Int} {i : Nat} (hi : i < 5) (h0 : 0 ≤ x) (h1 : x < 256) (h : needsF N ≤ i → x = 0) : argOk N i x = true := by
  unfold argOk
  rw [decide_eq_true h0, fits_small h0 h1 (by rcases (by omega : i = 0 ∨ i = 1 ∨ i = 2 ∨ i = 3 ∨ i = 4) with rfl | rfl | rfl | rfl | rfl <;> simp)]
  by_cases hn : (i : Int) < needsF N
  · rw [decide_eq_true hn]; rfl
  · rw [decide_eq_true (h (by omega))]; simp
theorem arg_bad {N : Int} {i : Nat} (h : needsF N ≤ i) : argOk N i 1 = false := by
  unfold argOk
  rw [decide_eq_false (show ¬ ((i : Int) < needsF N) by omega)]
  simp
set_option maxRecDepth 100000 in
set_option maxHeartbeats 1000000 in
theorem check_ok (n a0 a1 a2 a3 a4 : Int) (w : World) (h0 : a0 < 9223372036854775808) (h1 : a1 < 9223372036854775808) (h2 : a2 < 9223372036854775808) (h3 : a3 < 9223372036854775808) (h4 : a4 < 9223372036854775808) :
    Calls Try.prog 10 #[callV n a0 a1 a2 a3 a4] w fun e w' => e = .returned (.int .i64 (errC (rightC n a0 a1 a2 a3 a4))) ∧ Chg [] w w' := by
  have HR := fun w => right_ok n a0 a1 a2 a3 a4 w h0 h1 h2 h3 h4
  generalize rightC n a0 a1 a2 a3 a4 = R at *
  have B := Blk.new w 24 (callC n a0 a1 a2 a3 a4)
  have K := (Chg.refl [] w).alloc (.cells (callC n a0 a1 a2 a3 a4) 24)
  have HR' := Lib.hid HR
  clear HR h0 h1 h2 h3 h4
  obtain ⟨c0, c1, c2, c3, c4, c5⟩ := blk6 B
  cases R
  all_goals
    go_enter Try.func10, Try.ntmps10
    go_wp2_with (go_at_call 17; refine Calls.mono (HR'.out _) ?_; rintro e w1 ⟨rfl, k1⟩; replace K := K.trans k1 (by simp))
    go_ret
    exact ⟨rfl, K⟩
set_option maxRecDepth 100000 in
set_option maxHeartbeats 1000000 in
theorem awake_ok (w : World) : Calls Try.prog 16 #[] w fun e w' => e = .returned (.bool true) ∧ Chg [] w w' := by
  have HW : Hid (∀ w, Calls Try.prog 14 #[.int .i64 23] w fun e w' => e = .returned (.string ⟨#[114, 101, 116]⟩) ∧ Chg [] w w') := fun w => Call.word_ok 23 w
  go_enter Try.func16, Try.ntmps16
  go_wp2_with (go_at_call 14; refine Calls.mono (HW.out _) ?_; rintro e w1 ⟨rfl, k1⟩)
  go_ret
  exact ⟨by first | rfl | simp, k1⟩

abbrev rowC (N : Int) (X : List Int) : Array Value := (Value.int .i64 N :: nums .i64 X).toArray
theorem row_cell {w : World} {b t : Nat} {N : Int} {X : List Int} (h : Blk w b t (rowC N X)) {k : Nat} (hk : k < X.length) : w.cell? ⟨b, 1 + k, none⟩ = some (.int .i64 (X.getD k 0)) := by
  rw [h.cell, List.getElem?_toArray, Nat.add_comm, List.getElem?_cons_succ]
  exact nums_get _ _ _ hk
theorem row_set {w : World} {b t : Nat} {N : Int} {X : List Int} (h : Blk w b t (rowC N X)) (k : Nat) (y : Int) : Blk (w.setCell ⟨b, 1 + k, none⟩ (.int .i64 y)) b t (rowC N (X.set k y)) := by
  have := h.set_ (1 + k) (.int .i64 y)
  rw [Nat.add_comm 1 k] at this ⊢
  simpa [rowC, nums, List.map_set] using this
theorem set_getD (X : List Int) (k t : Nat) (y : Int) : (X.set k y).getD t 0 = if t = k ∧ k < X.length then y else X.getD t 0 := by
  rw [List.getD_eq_getElem?_getD, List.getD_eq_getElem?_getD, List.getElem?_set]
  by_cases e : k = t
  · subst e
    by_cases h : k < X.length
    · rw [if_pos rfl, if_pos h, if_pos ⟨rfl, h⟩]; rfl
    · rw [if_pos rfl, if_neg h, if_neg (fun q => h q.2), List.getElem?_eq_none (by omega)]
  · rw [if_neg e, if_neg (fun q => e q.1.symm)]

end Go.Proofs.Ytdconfciacldmaa.CallNeeds
