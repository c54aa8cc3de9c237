/- Heads of frames: which may be, and their first word. -/
import Derived.Test.YtknbeklplmhheaaTwo
import Derived.Test.YtknbeklplmhheaaRefUnpack
namespace Go.Proofs.Ytknbeklplmhheaa.Head
open Go Go.RowKit Go.Proofs.Ytknbeklplmhheaa Go.Proofs.Ytknbeklplmhheaa.Heap Go.Proofs.Ytknbeklplmhheaa.Bits Go.Proofs.Ytknbeklplmhheaa.Field Go.Proofs.Ytknbeklplmhheaa.Places Go.Proofs.Ytknbeklplmhheaa.Parts Go.Proofs.Ytknbeklplmhheaa.Unpack

abbrev headV (k l : Int) (f : Bool) (t : Int) : Value := .agg #[.int .i64 k, .int .i64 l, .bool f, .int .i64 t]
abbrev headC (k l : Int) (f : Bool) (t : Int) : Array Value := #[.int .i64 k, .int .i64 l, .bool f, .int .i64 t]
theorem blk4 {w : World} {g t : Nat} {a b c d : Value} (h : Blk w g t #[a, b, c, d]) : w.cell? ⟨g, 0, none⟩ = some a ∧ w.cell? ⟨g, 1, none⟩ = some b ∧ w.cell? ⟨g, 2, none⟩ = some c ∧ w.cell? ⟨g, 3, none⟩ = some d := ⟨h.cell 0, h.cell 1, h.cell 2, h.cell 3⟩
/-- May a head be? -/
def rightH (k l : Int) (f : Bool) (t : Int) : Bool := if f then decide (k = 1 ∧ 0 ≤ l ∧ l ≤ 1 ∧ 0 ≤ t ∧ t ≤ 1073741824) else decide (0 ≤ k ∧ k ≤ 6 ∧ 0 ≤ l ∧ l ≤ 1 ∧ (l = 1 → k = 1 ∨ k = 2) ∧ t = 0)
theorem right_bd {k l : Int} {f : Bool} {t : Int} (h : rightH k l f t = true) : 0 ≤ k ∧ k ≤ 6 ∧ 0 ≤ l ∧ l ≤ 1 ∧ 0 ≤ t ∧ t ≤ 1073741824 := by
  unfold rightH at h
  cases f
  · rw [if_neg (by decide)] at h; have := of_decide_eq_true h; omega
  · rw [if_pos rfl] at h; have := of_decide_eq_true h; omega

section
set_option maxRecDepth 100000
set_option maxHeartbeats 2000000
theorem right_ok (k l : Int) (f : Bool) (t : Int) (w : World) : Calls Try.prog 98 #[headV k l f t] w fun e w' => e = .returned (.bool (rightH k l f t)) ∧ Chg [] w w' := by
  cases f
  · go_enter Try.func98, Try.ntmps98
    go_wp2
    all_goals go_ret
    all_goals refine ⟨ret_bool ?_, (Chg.refl [] w).alloc _⟩
    all_goals (unfold rightH; rw [if_neg (by decide)]; first | (symm; apply decide_eq_true; omega) | (symm; apply decide_eq_false; omega) | (rw [Bool.eq_iff_iff]; simp; omega) | (rw [Bool.eq_iff_iff]; simp_all; done))
  · go_enter Try.func98, Try.ntmps98
    go_wp2
    all_goals go_ret
    all_goals refine ⟨ret_bool ?_, (Chg.refl [] w).alloc _⟩
    all_goals (unfold rightH; rw [if_pos rfl]; first | (symm; apply decide_eq_true; omega) | (symm; apply decide_eq_false; omega) | (rw [Bool.eq_iff_iff]; simp; omega) | (rw [Bool.eq_iff_iff]; simp_all; done))
theorem rright_ok (k l : Int) (f : Bool) (t : Int) (w : World) : Calls Try.prog 105 #[headV k l f t] w fun e w' => e = .returned (.bool (rightH k l f t)) ∧ Chg [] w w' := by
  cases f
  · go_enter Try.func105, Try.ntmps105
    go_wp2
    all_goals go_ret
    all_goals refine ⟨ret_bool ?_, (Chg.refl [] w).alloc _⟩
    all_goals (unfold rightH; rw [if_neg (by decide)]; first | (symm; apply decide_eq_true; omega) | (symm; apply decide_eq_false; omega) | (rw [Bool.eq_iff_iff]; simp; omega) | (rw [Bool.eq_iff_iff]; simp_all; done))
  · go_enter Try.func105, Try.ntmps105
    go_wp2
    all_goals go_ret
    all_goals refine ⟨ret_bool ?_, (Chg.refl [] w).alloc _⟩
    all_goals (unfold rightH; rw [if_pos rfl]; first | (symm; apply decide_eq_true; omega) | (symm; apply decide_eq_false; omega) | (rw [Bool.eq_iff_iff]; simp; omega) | (rw [Bool.eq_iff_iff]; simp_all; done))
end
def errH (b : Bool) : Int := if b then 0 else 1
abbrev W3 : List Int := [4, 1, 1]
abbrev w3C : Array Value := #[.int .i64 4, .int .i64 1, .int .i64 1]
def b2i (b : Bool) : Int := if b then 1 else 0
theorem b2i_bd (b : Bool) : 0 ≤ b2i b ∧ b2i b ≤ 1 := by cases b <;> decide
def wordH (k l : Int) (f : Bool) : Int := k + l * 16 + b2i f * 32
theorem all3 : AllCan W3 3 := by decide
theorem pack3 {k l o : Int} (k0 : 0 ≤ k) (k1 : k < 16) (l0 : 0 ≤ l) (l1 : l ≤ 1) (o0 : 0 ≤ o) (o1 : o ≤ 1) : packS W3 [k, l, o] = (k + l * 16 + o * 32, 0) := by
  have hf : FitAll W3 [k, l, o] 3 := by
    intro j hj
    have : j = 0 ∨ j = 1 ∨ j = 2 := by omega
    rcases this with rfl | rfl | rfl <;> (unfold fitsB; simp; omega)
  unfold packS
  rw [if_pos ⟨all3, hf⟩]
  refine Prod.ext ?_ rfl
  simp [accS, wd, st, sumTo]
  omega
theorem pack_right {k l : Int} {f : Bool} {t : Int} (h : rightH k l f t = true) : packS W3 [k, l, b2i f] = (wordH k l f, 0) := by
  obtain ⟨h0, h1, h2, h3, h4, h5⟩ := right_bd h
  exact pack3 h0 (by omega) h2 h3 (b2i_bd f).1 (b2i_bd f).2
theorem unp3 {u : Int} (h0 : 0 ≤ u) (h1 : u < 18446744073709551616) : (UnpOk W3 u ↔ u < 64) ∧ partsL W3 u 3 = [u % 16, u / 16 % 2, u / 32 % 2] := by
  obtain ⟨n, rfl⟩ := Int.eq_ofNat_of_zero_le h0
  constructor
  · unfold UnpOk
    rw [show W3.length = 3 from rfl]
    have : fitsB (n : Int) (sumTo W3 3) = decide (n < 64) := by
      unfold fitsB; simp [sumTo]
    rw [this, decide_eq_true_eq]
    constructor
    · intro h; have := h.2; omega
    · intro h; exact ⟨all3, by omega⟩
  · simp [partsL, List.range, List.range.loop, Parts.partAt, getN, st, wd, sumTo]
theorem nums3 {w : World} {b ty : Nat} (h : Blk w b ty w3C) : Nums w .i64 (some ⟨b, 0, none⟩) 3 W3 := by
  refine Nums.of_blk (xs := W3) h (by decide) ?_
  intro j hj
  have : j = 0 ∨ j = 1 ∨ j = 2 := by simp at hj; omega
  rcases this with rfl | rfl | rfl <;> rfl
theorem numsOf3 {W : World} {b ty : Nat} {k l o : Int} (h : Blk W b ty #[.int .u64 k, .int .u64 l, .int .u64 o]) : Nums W .u64 (some ⟨b, 0, none⟩) 3 [k, l, o] := by
  refine Nums.of_blk (xs := [k, l, o]) h (by simp) ?_
  intro j hj
  have : j = 0 ∨ j = 1 ∨ j = 2 := by simp at hj; omega
  rcases this with rfl | rfl | rfl <;> rfl
set_option maxRecDepth 100000 in
theorem widths_ok (w : World) : Calls Try.prog 117 #[] w fun e w' => ∃ g, e = .returned (.slice (some ⟨g, 0, none⟩) 3 3) ∧ Blk w' g 3 w3C ∧ w.heap.size ≤ g ∧ Chg [] w w' := by
  go_enter Try.func117, Try.ntmps117
  go_wp2
  go_ret
  exact ⟨w.heap.size, rfl, Blk.new w 3 w3C, Nat.le_refl _, (Chg.refl [] w).alloc _⟩
end Go.Proofs.Ytknbeklplmhheaa.Head
