/- What the functions of the document's answer for registers (palanquinref05) do, each walked once: a file is a block with one slice. -/
import Derived.Test.YtknbeklplmhheaaProg
import Derived.Test.YtknbeklplmhheaaHeap
import Derived.WalkKit
import Derived.WalkSpells
import Derived.BigQuiet
import Derived.Deep.QuietTactic
import Derived.Deep.RegionHeld3
namespace Go.Proofs.Ytknbeklplmhheaa.Ref05
open Go Go.RowKit Go.Proofs.Ytknbeklplmhheaa.Heap

theorem info_u64 : (Try.prog.info? 36).map (fun i => (i.zero, i.size, i.bytes)) = some (some (.int .u64 0), 1, 8) := by kernel_rfl

/-- A file: block g holds a slice over the row b, which holds the eight words. -/
def RFile (w : World) (g b cap : Nat) (L : List Int) : Prop :=
  L.length = 8 ∧ Blk w g 94 #[.slice (some ⟨b, 0, none⟩) 8 cap] ∧ w.ownsRow 0 36 1 (.slice (some ⟨b, 0, none⟩) 8 cap) 8 (nums .u64 L)
theorem RFile.ne_ {w : World} {g b cap : Nat} {L : List Int} (h : RFile w g b cap L) : b ≠ g := by
  have := own_ne h.2.2 h.2.1 (by decide)
  intro e
  exact this (by simp [Value.ownBlock, e])
theorem RFile.lt {w : World} {g b cap : Nat} {L : List Int} (h : RFile w g b cap L) : g < w.heap.size ∧ b < w.heap.size := ⟨h.2.1.lt, own_lt h.2.2 rfl⟩
theorem RFile.chg {S : List Nat} {w w' : World} {g b cap : Nat} {L : List Int} (h : RFile w g b cap L) (hc : Chg S w w') (hg : g ∉ S) (hb : b ∉ S) : RFile w' g b cap L :=
  ⟨h.1, h.2.1.chg hc hg, own_chg h.2.2 hc (fun k hk => by simp [Value.ownBlock] at hk; subst hk; exact hb)⟩
theorem RFile.cell {w : World} {g b cap : Nat} {L : List Int} (h : RFile w g b cap L) : w.cell? ⟨g, 0, none⟩ = some (.slice (some ⟨b, 0, none⟩) 8 cap) := h.2.1.cell 0
theorem RFile.at_ {w : World} {g b cap : Nat} {L : List Int} (h : RFile w g b cap L) (i : Int) (h0 : 0 ≤ i) (h1 : i < 8) : w.cell? ⟨b, i.toNat, none⟩ = some (.int .u64 (L.getD i.toNat 0)) := by
  have := h.2.2.cells (g := b) rfl i.toNat (.int .u64 (L.getD i.toNat 0)) (nums_get _ _ _ (by rw [h.1]; omega))
  rwa [add_plain, Nat.zero_add] at this
theorem RFile.free {w : World} {g b cap : Nat} {L : List Int} (h : RFile w g b cap L) (i : Nat) : w.frozen? ⟨b, i, none⟩ = false := h.2.2.frozenAt i
theorem RFile.store {w : World} {g b cap : Nat} {L : List Int} (h : RFile w g b cap L) (i : Nat) (x : Int) : RFile (w.setCell ⟨b, i, none⟩ (.int .u64 x)) g b cap (L.set i x) := by
  refine ⟨by simpa using h.1, h.2.1.far (p := ⟨b, i, none⟩) (fun e => h.ne_ e.symm) _, ?_⟩
  have := (h.2.2.stored i (.int .u64 x)).1
  simpa [nums, List.map_set] using this
theorem RFile.reads {w : World} {g b cap : Nat} {L : List Int} (h : RFile w g b cap L) : Nums w .u64 (some ⟨b, 0, none⟩) 8 L := own_nums h.2.2 (by decide)

set_option maxRecDepth 100000 in
theorem set_out (w : World) (v : Value) (i x : Int) (hi : ¬ (0 ≤ i ∧ i < 8)) : Calls Try.prog 48 #[v, .int .i64 i, .int .u64 x] w fun e w' => e = .returned (.int .i64 1) ∧ w = w' := by
  by_cases h0 : 0 ≤ i
  · have h1 : 8 ≤ i := by omega
    clear hi
    go_enter Try.func48, Try.ntmps48
    go_wp2
    go_ret
    exact ⟨rfl, rfl⟩
  · have h1 : i < 0 := by omega
    clear hi h0
    go_enter Try.func48, Try.ntmps48
    go_wp2
    go_ret
    exact ⟨rfl, rfl⟩
set_option maxRecDepth 100000 in
theorem set_ok {w : World} {g b cap : Nat} {L : List Int} (h : RFile w g b cap L) (i x : Int) (h0 : 0 ≤ i) (h1 : i < 8) : Calls Try.prog 48 #[.pointer (some ⟨g, 0, none⟩), .int .i64 i, .int .u64 x] w fun e w' => e = .returned (.int .i64 0) ∧ RFile w' g b cap (L.set i.toNat x) ∧ Chg [b] w w' := by
  have c0 := h.cell
  have c1 := h.at_ i h0 h1
  have c2 := h.free i.toNat
  go_enter Try.func48, Try.ntmps48
  go_wp2
  go_ret
  exact ⟨rfl, h.store _ _, (Chg.refl [b] w).setCell (p := ⟨b, i.toNat, none⟩) (by simp) _⟩

theorem RFile.src {w : World} {g b cap : Nat} {L : List Int} (h : RFile w g b cap L) : ∀ j v, (nums .u64 L)[j]? = some v → w.cell? ((⟨b, 0, none⟩ : Addr).add j) = some v := h.2.2.cells (g := b) rfl
theorem RFile.alloc {w : World} {g b cap : Nat} {L : List Int} (h : RFile w g b cap L) (o : Obj) : RFile (w.alloc o) g b cap L := h.chg ((Chg.refl [] w).alloc o) (by simp) (by simp)

set_option maxRecDepth 100000 in
theorem new_ok (w : World) : Calls Try.prog 42 #[] w fun e w' => ∃ g b cap, e = .returned (.pointer (some ⟨g, 0, none⟩)) ∧ w.heap.size ≤ g ∧ w.heap.size ≤ b ∧ RFile w' g b cap [0, 0, 0, 0, 0, 0, 0, 0] ∧ Chg [] w w' := by
  go_enter Try.func42, Try.ntmps42
  go_wp2_with fail
  have hb0 := Blk.new w 94 #[.slice none 0 0]
  have k0 : Chg [] w (w.alloc (.cells #[.slice none 0 0] 94)) := (Chg.refl _ _).alloc _
  go_loopw [2] (fun i wr => ∃ (k : Nat) (v : Value), k ≤ 8 ∧ i = .int .i64 k ∧ Blk wr w.heap.size 94 #[v] ∧ wr.ownsRow 0 36 1 v k (nums .u64 (List.replicate k 0)) ∧ Chg [] w wr ∧ (∀ g, v.ownBlock = some g → w.heap.size ≤ g)) (fun i _ => 8 - (intOf i).toNat)
  case atStart => exact ⟨0, .slice none 0 0, Nat.zero_le _, rfl, hb0, World.ownsRow_nil _ _ _ _, k0, fun g hg => by simp [Value.ownBlock] at hg⟩
  case round =>
    obtain ⟨k, v, hk, rfl, hb, ho, hc, hv⟩ := hrel
    by_cases hlt : k < 8
    · have c0 : wr.cell? ⟨w.heap.size, 0, none⟩ = some v := hb.cell 0
      have hne := own_ne ho hb (by decide)
      obtain ⟨B, hB⟩ : ∃ B, w.heap.size = B := ⟨_, rfl⟩
      rw [hB] at hb c0 hne hv ⊢
      have hn : (wr.alloc (.cells #[.int .u64 0] 36)).ownsRow 0 36 1 v k (nums .u64 (List.replicate k 0)) := ho.alloc _
      have hnew := cell_one_new wr (.int .u64 0) 36
      go_wp2_with (at_builtin; refine wpList_app rfl (.tmp 13) (.tmp 14) 47 rfl 36 (.int .u64 0) 1 8 Try.underlying47 info_u64 rfl (by decide) (by decide) v k _ rfl hn ⟨wr.heap.size, 0, none⟩ 1 1 [.int .u64 0] rfl rfl hnew (by simp [Value.oneCell']) (by decide) (by omega) ?_; intro q cap1 w1 o1 k1 hq1 lt1; have hb1 : Blk w1 B 94 #[v] := (hb.alloc _).chg k1 (by simpa using hne); have f1 := hb1.frozen 0; have c1 : w1.cell? ⟨B, 0, none⟩ = some v := hb1.cell 0)
      have hs := hb.lt
      have hcB := hc.size
      have hqB : B ≤ q := by
        rcases hq1 with h1 | h1
        · exact hv q h1
        · simp at h1; omega
      have hqn : q ≠ B := by
        rcases hq1 with h1 | h1
        · intro e; exact hne (by rw [h1, e])
        · simp at h1; omega
      have kw : Chg [] w w1 := (hc.alloc _).trans k1 (fun x hx => .inr (by rw [hB]; exact hv x (by simpa using hx)))
      have e : nums .u64 (List.replicate k 0) ++ [Value.int .u64 0] = nums .u64 (List.replicate (k + 1) 0) := by
        rw [List.replicate_succ']; simp [nums]
      rw [e] at o1
      go_roundw
      case rel =>
        refine ⟨k + 1, _, by omega, by go_num, hb1.set_ 0 _, own_chg o1 ((Chg.refl [B] w1).setCell (p := ⟨B, 0, none⟩) (by simp) _) (fun g hg => by simp [Value.ownBlock] at hg; simp; omega), kw.setCell (p := ⟨B, 0, none⟩) (.inr (by show w.heap.size ≤ B; omega)) _, fun g hg => by simp [Value.ownBlock] at hg; omega⟩
      case measure => simp [intOf]; omega
    · obtain rfl : k = 8 := by omega
      obtain ⟨q, cap, rfl, _, hlq⟩ := ho.form (by decide)
      go_wp2
      go_ret
      exact ⟨w.heap.size, q, cap, rfl, Nat.le_refl _, hv q rfl, ⟨rfl, hb, ho⟩, hc⟩
end Go.Proofs.Ytknbeklplmhheaa.Ref05
