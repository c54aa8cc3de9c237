/- Capabilities as words: plain facts, and the widths. -/
import Derived.Test.YtbjiecpkalcfeaaCap
import Derived.Test.YtbjiecpkalcfeaaRefUnpack
import Derived.Deep.RegionHeld3
namespace Go.Proofs.Ytbjiecpkalcfeaa.CapW
open Go Go.RowKit Go.Proofs.Ytbjiecpkalcfeaa Go.Proofs.Ytbjiecpkalcfeaa.Heap Go.Proofs.Ytbjiecpkalcfeaa.Bits Go.Proofs.Ytbjiecpkalcfeaa.Field Go.Proofs.Ytbjiecpkalcfeaa.Places Go.Proofs.Ytbjiecpkalcfeaa.Parts Go.Proofs.Ytbjiecpkalcfeaa.Unpack Go.Proofs.Ytbjiecpkalcfeaa.Cap

abbrev W5 : List Int := [4, 5, 6, 6, 16]
abbrev w5C : Array Value := #[.int .i64 4, .int .i64 5, .int .i64 6, .int .i64 6, .int .i64 16]
/-- The first word of a capability. -/
def capWord (k r t l e : Int) : Int := k + r * 16 + t * 512 + l * 32768 + e * 2097152
theorem all5 : AllCan W5 5 := by decide
theorem pack5 {k r t l e : Int} (k0 : 0 ≤ k) (k1 : k < 16) (r0 : 0 ≤ r) (r1 : r < 32) (t0 : 0 ≤ t) (t1 : t < 64) (l0 : 0 ≤ l) (l1 : l < 64) (e0 : 0 ≤ e) (e1 : e < 65536) : packS W5 [k, r, t, l, e] = (capWord k r t l e, 0) := by
  have hf : FitAll W5 [k, r, t, l, e] 5 := by
    intro j hj
    have : j = 0 ∨ j = 1 ∨ j = 2 ∨ j = 3 ∨ j = 4 := by omega
    rcases this with rfl | rfl | rfl | rfl | rfl <;> (unfold fitsB; simp; omega)
  unfold packS
  rw [if_pos ⟨all5, hf⟩]
  refine Prod.ext ?_ rfl
  simp [accS, wd, st, sumTo, capWord]
  omega
theorem unp5 {u : Int} (h0 : 0 ≤ u) (h1 : u < 18446744073709551616) : (UnpOk W5 u ↔ u < 137438953472) ∧ partsL W5 u 5 = [u % 16, u / 16 % 32, u / 512 % 64, u / 32768 % 64, u / 2097152 % 65536] := by
  obtain ⟨n, rfl⟩ := Int.eq_ofNat_of_zero_le h0
  constructor
  · unfold UnpOk
    rw [show W5.length = 5 from rfl]
    have : fitsB (n : Int) (sumTo W5 5) = decide (n < 137438953472) := by
      unfold fitsB; simp [sumTo]
    rw [this, decide_eq_true_eq]
    constructor
    · intro h; have := h.2; omega
    · intro h; exact ⟨all5, by omega⟩
  · simp [partsL, List.range, List.range.loop, Parts.partAt, getN, st, wd, sumTo]

theorem blk5 {w : World} {g t : Nat} {a b c d e : Value} (h : Blk w g t #[a, b, c, d, e]) : w.cell? ⟨g, 0, none⟩ = some a ∧ w.cell? ⟨g, 1, none⟩ = some b ∧ w.cell? ⟨g, 2, none⟩ = some c ∧ w.cell? ⟨g, 3, none⟩ = some d ∧ w.cell? ⟨g, 4, none⟩ = some e := ⟨h.cell 0, h.cell 1, h.cell 2, h.cell 3, h.cell 4⟩
set_option maxRecDepth 100000 in
theorem widths_ok (w : World) : Calls Try.prog 91 #[] w fun e w' => e = .returned (.agg w5C) ∧ Chg [] w w' := by
  go_enter Try.func91, Try.ntmps91
  go_wp2
  have B := Blk.new w 168 w5C
  obtain ⟨q0, q1, q2, q3, q4⟩ := blk5 B
  refine ⟨rfl, .agg w5C, ?_, rfl, (Chg.refl [] w).alloc _⟩
  simp [results, go_sem, q0, q1, q2, q3, q4]
theorem nums5 {w : World} {b : Nat} {ty : Nat} (h : Blk w b ty w5C) : Nums w .i64 (some ⟨b, 0, none⟩) 5 W5 := by
  refine Nums.of_blk (xs := W5) h (by decide) ?_
  intro j hj
  have : j = 0 ∨ j = 1 ∨ j = 2 ∨ j = 3 ∨ j = 4 := by simp at hj; omega
  rcases this with rfl | rfl | rfl | rfl | rfl <;> rfl
theorem numsOf5 {W : World} {b : Nat} {ty : Nat} {k r t l e : Int} (h : Blk W b ty #[.int .u64 k, .int .u64 r, .int .u64 t, .int .u64 l, .int .u64 e]) : Nums W .u64 (some ⟨b, 0, none⟩) 5 [k, r, t, l, e] := by
  refine Nums.of_blk (xs := [k, r, t, l, e]) h (by simp) ?_
  intro j hj
  have : j = 0 ∨ j = 1 ∨ j = 2 ∨ j = 3 ∨ j = 4 := by simp at hj; omega
  rcases this with rfl | rfl | rfl | rfl | rfl <;> rfl
end Go.Proofs.Ytbjiecpkalcfeaa.CapW
