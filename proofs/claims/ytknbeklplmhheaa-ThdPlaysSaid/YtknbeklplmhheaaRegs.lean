/- What the functions of package regs do, each walked once: a file of eight registers is one block. -/
import Derived.Test.YtknbeklplmhheaaProg
import Derived.Test.YtknbeklplmhheaaHeap
import Derived.WalkKit
import Derived.WalkSpells
import Derived.BigQuiet
import Derived.Deep.QuietTactic
import Derived.Deep.RegionHeld3
namespace Go.Proofs.Ytknbeklplmhheaa.Regs
open Go Go.RowKit Go.Proofs.Ytknbeklplmhheaa.Heap

/-- A file of registers that was made: eight words, and the mark. -/
def File (w : World) (g : Nat) (L : List Int) : Prop := L.length = 8 ∧ Blk w g 40 (nums .u64 L ++ [Value.bool true]).toArray

theorem list8 {L : List Int} (h : L.length = 8) : ∃ a0 a1 a2 a3 a4 a5 a6 a7, L = [a0, a1, a2, a3, a4, a5, a6, a7] := by
  match L, h with
  | [a0, a1, a2, a3, a4, a5, a6, a7], _ => exact ⟨a0, a1, a2, a3, a4, a5, a6, a7, rfl⟩

theorem File.cell {w : World} {g : Nat} {L : List Int} (h : File w g L) (i : Int) (h0 : 0 ≤ i) (h1 : i < 8) : w.cell? ⟨g, i.toNat, none⟩ = some (.int .u64 (L.getD i.toNat 0)) := by
  rw [h.2.cell]
  have hl := h.1
  rw [List.getElem?_toArray, List.getElem?_append_left (by rw [nums_length]; omega)]
  exact nums_get _ _ _ (by omega)
theorem File.made {w : World} {g : Nat} {L : List Int} (h : File w g L) : w.cell? ⟨g, 8, none⟩ = some (.bool true) := by
  rw [h.2.cell]
  have hl := h.1
  rw [List.getElem?_toArray, List.getElem?_append_right (by rw [nums_length]; omega), nums_length, hl]
  rfl
theorem File.chg {S : List Nat} {w w' : World} {g : Nat} {L : List Int} (h : File w g L) (hc : Chg S w w') (hg : g ∉ S) : File w' g L := ⟨h.1, h.2.chg hc hg⟩

theorem File.cells8 {w : World} {g : Nat} {L : List Int} (h : File w g L) : ∃ a0 a1 a2 a3 a4 a5 a6 a7, L = [a0, a1, a2, a3, a4, a5, a6, a7] ∧
    w.cell? ⟨g, 0, none⟩ = some (.int .u64 a0) ∧ w.cell? ⟨g, 1, none⟩ = some (.int .u64 a1) ∧ w.cell? ⟨g, 2, none⟩ = some (.int .u64 a2) ∧ w.cell? ⟨g, 3, none⟩ = some (.int .u64 a3) ∧
    w.cell? ⟨g, 4, none⟩ = some (.int .u64 a4) ∧ w.cell? ⟨g, 5, none⟩ = some (.int .u64 a5) ∧ w.cell? ⟨g, 6, none⟩ = some (.int .u64 a6) ∧ w.cell? ⟨g, 7, none⟩ = some (.int .u64 a7) := by
  obtain ⟨a0, a1, a2, a3, a4, a5, a6, a7, rfl⟩ := list8 h.1
  exact ⟨a0, a1, a2, a3, a4, a5, a6, a7, rfl, h.cell 0 (by decide) (by decide), h.cell 1 (by decide) (by decide), h.cell 2 (by decide) (by decide), h.cell 3 (by decide) (by decide),
    h.cell 4 (by decide) (by decide), h.cell 5 (by decide) (by decide), h.cell 6 (by decide) (by decide), h.cell 7 (by decide) (by decide)⟩
theorem File.store {w : World} {g : Nat} {L : List Int} (h : File w g L) (i : Nat) (hi : i < 8) (x : Int) : File (w.setCell ⟨g, i, none⟩ (.int .u64 x)) g (L.set i x) := by
  refine ⟨by simpa using h.1, ?_⟩
  have h2 := h.2.set_ i (.int .u64 x)
  have hl := h.1
  rw [List.setIfInBounds_toArray, List.set_append_left _ _ (by rw [nums_length]; omega)] at h2
  simpa [nums, List.map_set] using h2

set_option maxRecDepth 100000 in
theorem new_any (w : World) : Calls Try.prog 34 #[] w fun e w' => e = .returned (.pointer (some ⟨w.heap.size, 0, none⟩)) ∧ File w' w.heap.size [0, 0, 0, 0, 0, 0, 0, 0] ∧ Chg [] w w' := by
  go_enter Try.func34, Try.ntmps34
  go_wp2
  go_ret
  exact ⟨rfl, ⟨rfl, Blk.new _ _ _⟩, (Chg.refl _ _).alloc _⟩

set_option maxRecDepth 100000 in
theorem none_made {w : World} {g : Nat} {L : List Int} (h : File w g L) : Calls Try.prog 91 #[.pointer (some ⟨g, 0, none⟩)] w fun e w' => e = .returned (.bool false) ∧ w = w' := by
  have hc := h.made
  clear h
  go_enter Try.func91, Try.ntmps91
  go_wp2
  go_ret
  exact ⟨rfl, rfl⟩
set_option maxRecDepth 100000 in
theorem none_nil (w : World) : Calls Try.prog 91 #[.pointer none] w fun e w' => e = .returned (.bool true) ∧ w = w' := by
  go_enter Try.func91, Try.ntmps91
  go_wp2
  go_ret
  exact ⟨rfl, rfl⟩
set_option maxRecDepth 100000 in
theorem none_zero {w : World} {g : Nat} (hc : w.cell? ⟨g, 8, none⟩ = some (.bool false)) : Calls Try.prog 91 #[.pointer (some ⟨g, 0, none⟩)] w fun e w' => e = .returned (.bool true) ∧ w = w' := by
  go_enter Try.func91, Try.ntmps91
  go_wp2
  go_ret
  exact ⟨rfl, rfl⟩

set_option maxRecDepth 100000 in
theorem is_any (w : World) (cs : Array Value) (i : Int) : Calls Try.prog 94 #[.agg cs, .int .i64 i] w fun e w' => e = .returned (.bool (decide (0 ≤ i ∧ i < 8))) ∧ Chg [] w w' := by
  by_cases h0 : 0 ≤ i
  · by_cases h1 : i < 8
    · rw [show decide (0 ≤ i ∧ i < 8) = true by simp [h0, h1]]
      go_enter Try.func94, Try.ntmps94
      go_wp2
      go_ret
      exact ⟨rfl, (Chg.refl _ _).alloc _⟩
    · have h1' : 8 ≤ i := by omega
      rw [show decide (0 ≤ i ∧ i < 8) = false by simp; omega]
      clear h1
      go_enter Try.func94, Try.ntmps94
      go_wp2
      go_ret
      exact ⟨by simp; try omega, (Chg.refl _ _).alloc _⟩
  · have h0' : i < 0 := by omega
    rw [show decide (0 ≤ i ∧ i < 8) = false by simp; omega]
    clear h0
    go_enter Try.func94, Try.ntmps94
    go_wp2
    go_ret
    exact ⟨by simp; try omega, (Chg.refl _ _).alloc _⟩

set_option maxRecDepth 100000 in
theorem set_nil (w : World) (i x : Int) : Calls Try.prog 47 #[.pointer none, .int .i64 i, .int .u64 x] w fun e w' => e = .returned (.int .i64 13) ∧ w = w' := by
  go_enter Try.func47, Try.ntmps47
  go_wp2_with fail
  refine (none_nil _).mono ?_
  rintro e w' ⟨rfl, rfl⟩
  go_wp2
  go_ret
  exact ⟨rfl, rfl⟩

set_option maxRecDepth 100000 in
theorem set_out {w : World} {g : Nat} {L : List Int} (h : File w g L) (i x : Int) (hi : ¬ (0 ≤ i ∧ i < 8)) : Calls Try.prog 47 #[.pointer (some ⟨g, 0, none⟩), .int .i64 i, .int .u64 x] w fun e w' => e = .returned (.int .i64 1) ∧ Chg [] w w' := by
  have hn : decide (0 ≤ i ∧ i < 8) = false := decide_eq_false hi
  obtain ⟨a0, a1, a2, a3, a4, a5, a6, a7, rfl, c0, c1, c2, c3, c4, c5, c6, c7⟩ := h.cells8
  go_enter Try.func47, Try.ntmps47
  go_wp2_with fail
  refine (none_made h).mono ?_
  rintro e w' ⟨rfl, rfl⟩
  go_wp2_with fail
  refine (is_any _ _ _).mono ?_
  rw [hn]
  rintro e w' ⟨rfl, hc⟩
  go_wp2
  go_ret
  exact ⟨rfl, hc⟩

set_option maxRecDepth 100000 in
theorem set_ok {w : World} {g : Nat} {L : List Int} (h : File w g L) (i x : Int) (h0 : 0 ≤ i) (h1 : i < 8) : Calls Try.prog 47 #[.pointer (some ⟨g, 0, none⟩), .int .i64 i, .int .u64 x] w fun e w' => e = .returned (.int .i64 0) ∧ File w' g (L.set i.toNat x) ∧ Chg [g] w w' := by
  have hn : decide (0 ≤ i ∧ i < 8) = true := decide_eq_true ⟨h0, h1⟩
  have hc : i.toNat < 8 := by omega
  obtain ⟨a0, a1, a2, a3, a4, a5, a6, a7, rfl, c0, c1, c2, c3, c4, c5, c6, c7⟩ := h.cells8
  go_enter Try.func47, Try.ntmps47
  go_wp2_with fail
  refine (none_made h).mono ?_
  rintro e w' ⟨rfl, rfl⟩
  go_wp2_with fail
  refine (is_any _ _ _).mono ?_
  rw [hn]
  rintro e w' ⟨rfl, hw⟩
  have h' := h.chg hw (by simp)
  have hcell := h'.cell i h0 h1
  have hfr := h'.2.frozen i.toNat
  clear c0 c1 c2 c3 c4 c5 c6 c7 hn
  go_wp2
  go_ret
  exact ⟨rfl, h'.store _ hc _, hw.of_nil.setCell (p := ⟨g, i.toNat, none⟩) (by simp) _⟩

set_option maxRecDepth 100000 in
theorem get_nil (w : World) (i : Int) : Calls Try.prog 69 #[.pointer none, .int .i64 i] w fun e w' => e = .returned (.tuple #[.int .u64 0, .int .i64 13]) ∧ w = w' := by
  go_enter Try.func69, Try.ntmps69
  go_wp2_with fail
  refine (none_nil _).mono ?_
  rintro e w' ⟨rfl, rfl⟩
  go_wp2
  go_ret2
  exact ⟨rfl, rfl⟩
set_option maxRecDepth 100000 in
theorem get_zero {w : World} {g : Nat} (hc : w.cell? ⟨g, 8, none⟩ = some (.bool false)) (i : Int) : Calls Try.prog 69 #[.pointer (some ⟨g, 0, none⟩), .int .i64 i] w fun e w' => e = .returned (.tuple #[.int .u64 0, .int .i64 13]) ∧ w = w' := by
  go_enter Try.func69, Try.ntmps69
  go_wp2_with fail
  refine (none_zero hc).mono ?_
  rintro e w' ⟨rfl, rfl⟩
  go_wp2
  go_ret2
  exact ⟨rfl, rfl⟩
set_option maxRecDepth 100000 in
theorem get_out {w : World} {g : Nat} {L : List Int} (h : File w g L) (i : Int) (hi : ¬ (0 ≤ i ∧ i < 8)) : Calls Try.prog 69 #[.pointer (some ⟨g, 0, none⟩), .int .i64 i] w fun e w' => e = .returned (.tuple #[.int .u64 0, .int .i64 1]) ∧ Chg [] w w' := by
  have hn : decide (0 ≤ i ∧ i < 8) = false := decide_eq_false hi
  obtain ⟨a0, a1, a2, a3, a4, a5, a6, a7, rfl, c0, c1, c2, c3, c4, c5, c6, c7⟩ := h.cells8
  go_enter Try.func69, Try.ntmps69
  go_wp2_with fail
  refine (none_made h).mono ?_
  rintro e w' ⟨rfl, rfl⟩
  go_wp2_with fail
  refine (is_any _ _ _).mono ?_
  rw [hn]
  rintro e w' ⟨rfl, hc⟩
  go_wp2
  go_ret2
  exact ⟨rfl, hc⟩
set_option maxRecDepth 100000 in
theorem get_ok {w : World} {g : Nat} {L : List Int} (h : File w g L) (i : Int) (h0 : 0 ≤ i) (h1 : i < 8) : Calls Try.prog 69 #[.pointer (some ⟨g, 0, none⟩), .int .i64 i] w fun e w' => e = .returned (.tuple #[.int .u64 (L.getD i.toNat 0), .int .i64 0]) ∧ Chg [] w w' := by
  have hn : decide (0 ≤ i ∧ i < 8) = true := decide_eq_true ⟨h0, h1⟩
  obtain ⟨x, hx⟩ : ∃ x, L.getD i.toNat 0 = x := ⟨_, rfl⟩
  rw [hx]
  obtain ⟨a0, a1, a2, a3, a4, a5, a6, a7, rfl, c0, c1, c2, c3, c4, c5, c6, c7⟩ := h.cells8
  go_enter Try.func69, Try.ntmps69
  go_wp2_with fail
  refine (none_made h).mono ?_
  rintro e w' ⟨rfl, rfl⟩
  go_wp2_with fail
  refine (is_any _ _ _).mono ?_
  rw [hn]
  rintro e w' ⟨rfl, hw⟩
  have h' := h.chg hw (by simp)
  have hcell := h'.cell i h0 h1
  rw [hx] at hcell
  clear c0 c1 c2 c3 c4 c5 c6 c7 hn hx
  go_wp2
  go_ret2
  exact ⟨rfl, hw⟩

theorem info_u64 : (Try.prog.info? 36).map (·.size) = some 1 := by kernel_rfl

theorem File.src {w : World} {g : Nat} {L : List Int} (h : File w g L) : ∀ j v, (nums .u64 L)[j]? = some v → w.cell? ((⟨g, 0, none⟩ : Addr).add j) = some v := by
  intro j v hv
  have hj : j < (nums .u64 L).length := (List.getElem?_eq_some_iff.1 hv).1
  rw [add_plain, h.2.cell, Nat.zero_add, List.getElem?_toArray, List.getElem?_append_left hj]
  exact hv

set_option maxRecDepth 100000 in
theorem all_ok {w : World} {g : Nat} {L : List Int} (h : File w g L) : Calls Try.prog 40 #[.pointer (some ⟨g, 0, none⟩)] w fun e w' => e = .returned (.slice (some ⟨w.heap.size, 0, none⟩) 8 8) ∧ Blk w' w.heap.size 36 (nums .u64 L).toArray ∧ Chg [] w w' := by
  have hmk : ∀ w, (Instr.makeSlice 47 (.int .i64 8) (.int .i64 8)).run Try.prog w = .ok (.slice (some ⟨w.heap.size, 0, none⟩) 8 8) (w.alloc (.cells #[.int .u64 0, .int .u64 0, .int .u64 0, .int .u64 0, .int .u64 0, .int .u64 0, .int .u64 0, .int .u64 0] 36)) := fun _ => by kernel_rfl
  have hl : (nums .u64 L).length = 8 := by rw [nums_length]; exact h.1
  go_enter Try.func40, Try.ntmps40
  go_wp2_with fail
  refine (none_made h).mono ?_
  rintro e w' ⟨rfl, rfl⟩
  go_wp2_with fail
  have h' := h.chg ((Chg.refl [] w).alloc (.cells #[.int .u64 0, .int .u64 0, .int .u64 0, .int .u64 0, .int .u64 0, .int .u64 0, .int .u64 0, .int .u64 0] 36)) (by simp)
  obtain ⟨w1, hrun, hb1, hc1⟩ := run_copy_blk (P := Try.prog) 47 47 3 36 Try.underlying47 info_u64
    (Blk.new w 36 #[.int .u64 0, .int .u64 0, .int .u64 0, .int .u64 0, .int .u64 0, .int .u64 0, .int .u64 0, .int .u64 0]) 0 8 8 ⟨g, 0, none⟩ 8 8 (nums .u64 L) (by rw [hl]; rfl) h'.src (by rw [hl]; decide) (oneCell_nums _ _)
  rw [hrun]
  go_wp2
  go_ret
  refine ⟨rfl, ?_, ((Chg.refl [] w).alloc _).trans hc1 (by simp)⟩
  have hd : ∀ (cur : List Value), cur.length = 8 → (cur.take 0 ++ nums .u64 L ++ cur.drop (0 + (nums .u64 L).length)) = nums .u64 L := fun cur hcur => by
    rw [hl, List.drop_of_length_le (by omega)]; simp
  rw [hd _ rfl] at hb1
  exact hb1

set_option maxRecDepth 100000 in
theorem all_nil (w : World) : Calls Try.prog 40 #[.pointer none] w fun e w' => e = .returned (.slice none 0 0) ∧ w = w' := by
  go_enter Try.func40, Try.ntmps40
  go_wp2_with fail
  refine (none_nil _).mono ?_
  rintro e w' ⟨rfl, rfl⟩
  go_wp2
  go_ret
  exact ⟨rfl, rfl⟩

/-- What a file holds behind Load. -/
def loaded (L l : List Int) : List Int := if l.length = 8 then l else L
/-- What Load answers. -/
def loadE (n : Nat) : Int := if n = 8 then 0 else 1

set_option maxRecDepth 100000 in
theorem load_any {w : World} {g : Nat} {L : List Int} (h : File w g L) (A : Option Addr) (n c : Nat) (l : List Int) (hl : Nums w .u64 A n l) : Calls Try.prog 37 #[.pointer (some ⟨g, 0, none⟩), .slice A n c] w fun e w' =>
    e = .returned (.int .i64 (loadE n)) ∧ File w' g (loaded L l) ∧ Chg [g] w w' := by
  have hln := hl.1
  by_cases hn : n = 8
  · subst hn
    obtain ⟨ad, rfl, hcell⟩ := hl.2.2 (by decide)
    have hlen : (nums .u64 l).length = 8 := by rw [nums_length]; exact hln
    rw [show loadE 8 = 0 from rfl, show loaded L l = l by unfold loaded; rw [if_pos hln]]
    go_enter Try.func37, Try.ntmps37
    go_wp2_with fail
    refine (none_made h).mono ?_
    rintro e w' ⟨rfl, rfl⟩
    go_wp2_with fail
    have hsrc : ∀ j v, (nums .u64 l)[j]? = some v → w.cell? (ad.add j) = some v := by
      intro j v hv
      have hj : j < (nums .u64 l).length := (List.getElem?_eq_some_iff.1 hv).1
      rw [hcell j (by omega), ← hv, nums_get _ _ _ (by omega)]
    have hL := h.1
    obtain ⟨w1, hrun, hb1, hc1⟩ := run_copy_blk (P := Try.prog) 47 47 3 36 Try.underlying47 info_u64
      h.2 0 8 8 ad 8 c (nums .u64 l) (by rw [hlen]; rfl) hsrc (by rw [hlen]; simp [nums, hL]) (oneCell_nums _ _)
    rw [hrun]
    go_wp2
    go_ret
    refine ⟨rfl, ⟨hln, ?_⟩, hc1⟩
    have hd : ((nums .u64 L ++ [Value.bool true]).toArray.toList.take 0 ++ nums .u64 l ++ (nums .u64 L ++ [Value.bool true]).toArray.toList.drop (0 + (nums .u64 l).length)) = nums .u64 l ++ [Value.bool true] := by
      have : (nums .u64 L).length = 8 := by rw [nums_length]; exact hL
      rw [hlen]
      simp [this]
    rw [hd] at hb1
    exact hb1
  · have hb : ((n : Int) != 8) = true := by rw [bne_iff_ne]; omega
    rw [show loadE n = 1 by unfold loadE; rw [if_neg hn], show loaded L l = L by unfold loaded; rw [if_neg (by omega)]]
    go_enter Try.func37, Try.ntmps37
    go_wp2_with fail
    refine (none_made h).mono ?_
    rintro e w' ⟨rfl, rfl⟩
    go_wp2
    go_ret
    exact ⟨rfl, h, Chg.refl _ _⟩
set_option maxRecDepth 100000 in
theorem load_zero {w : World} {g : Nat} (hc : w.cell? ⟨g, 8, none⟩ = some (.bool false)) (v : Value) : Calls Try.prog 37 #[.pointer (some ⟨g, 0, none⟩), v] w fun e w' => e = .returned (.int .i64 13) ∧ w = w' := by
  go_enter Try.func37, Try.ntmps37
  go_wp2_with fail
  refine (none_zero hc).mono ?_
  rintro e w' ⟨rfl, rfl⟩
  go_wp2
  go_ret
  exact ⟨rfl, rfl⟩

theorem File.drew {w : World} {g : Nat} {L : List Int} (h : File w g L) : File w.drew g L := ⟨h.1, h.2.drew⟩
/-- A file of registers behind eight stores. -/
def set8 (w : World) (g : Nat) (x0 x1 x2 x3 x4 x5 x6 x7 : Int) : World := ((((((((w.setCell ⟨g, 0, none⟩ (.int .u64 x0)).setCell ⟨g, 1, none⟩ (.int .u64 x1)).setCell ⟨g, 2, none⟩ (.int .u64 x2)).setCell ⟨g, 3, none⟩ (.int .u64 x3)).setCell ⟨g, 4, none⟩ (.int .u64 x4)).setCell ⟨g, 5, none⟩ (.int .u64 x5)).setCell ⟨g, 6, none⟩ (.int .u64 x6)).setCell ⟨g, 7, none⟩ (.int .u64 x7))
theorem File.set8 {w : World} {g : Nat} {L : List Int} (h : File w g L) (x0 x1 x2 x3 x4 x5 x6 x7 : Int) : File (Regs.set8 w g x0 x1 x2 x3 x4 x5 x6 x7) g [x0, x1, x2, x3, x4, x5, x6, x7] := by
  obtain ⟨a0, a1, a2, a3, a4, a5, a6, a7, rfl⟩ := list8 h.1
  exact (((((((h.store 0 (by decide) x0).store 1 (by decide) x1).store 2 (by decide) x2).store 3 (by decide) x3).store 4 (by decide) x4).store 5 (by decide) x5).store 6 (by decide) x6).store 7 (by decide) x7
theorem chg_set8 {S : List Nat} {w0 w : World} {g : Nat} (h : Chg S w0 w) (hg : g ∈ S ∨ w0.heap.size ≤ g) (x0 x1 x2 x3 x4 x5 x6 x7 : Int) : Chg S w0 (set8 w g x0 x1 x2 x3 x4 x5 x6 x7) :=
  (((((((h.setCell (p := ⟨g, 0, none⟩) hg _).setCell (p := ⟨g, 1, none⟩) hg _).setCell (p := ⟨g, 2, none⟩) hg _).setCell (p := ⟨g, 3, none⟩) hg _).setCell (p := ⟨g, 4, none⟩) hg _).setCell (p := ⟨g, 5, none⟩) hg _).setCell (p := ⟨g, 6, none⟩) hg _).setCell (p := ⟨g, 7, none⟩) hg _

theorem new_fresh (w : World) : Calls Try.prog 34 #[] w fun e w' => ∃ g, e = .returned (.pointer (some ⟨g, 0, none⟩)) ∧ w.heap.size ≤ g ∧ File w' g [0, 0, 0, 0, 0, 0, 0, 0] ∧ Chg [] w w' :=
  (new_any w).mono fun _ _ ⟨h1, h2, h3⟩ => ⟨_, h1, Nat.le_refl _, h2, h3⟩
theorem all_fresh {w : World} {g : Nat} {L : List Int} (h : File w g L) : Calls Try.prog 40 #[.pointer (some ⟨g, 0, none⟩)] w fun e w' => ∃ b, e = .returned (.slice (some ⟨b, 0, none⟩) 8 8) ∧ w.heap.size ≤ b ∧ Blk w' b 36 (nums .u64 L).toArray ∧ Chg [] w w' :=
  (all_ok h).mono fun _ _ ⟨h1, h2, h3⟩ => ⟨_, h1, Nat.le_refl _, h2, h3⟩

/-! ### The statements' own functions -/
end Go.Proofs.Ytknbeklplmhheaa.Regs
