/- What the functions of the document's answer for registers (palanquinref05) do, each walked once: a file is a block with one slice. -/
import Derived.Test.YtapgkjkncihlkaaProg
import Derived.Test.YtapgkjkncihlkaaHeap
import Derived.WalkKit
import Derived.WalkSpells
import Derived.BigQuiet
import Derived.Deep.QuietTactic
import Derived.Deep.RegionHeld3
namespace Go.Proofs.Ytapgkjkncihlkaa.Ref05
open Go Go.RowKit Go.Proofs.Ytapgkjkncihlkaa.Heap

theorem info_u64 : (Try.prog.info? 22).map (fun i => (i.zero, i.size, i.bytes)) = some (some (.int .u64 0), 1, 8) := by kernel_rfl

/-- A file: block g holds a slice over the row b, which holds the eight words. -/
def RFile (w : World) (g b cap : Nat) (L : List Int) : Prop :=
  L.length = 8 ∧ Blk w g 74 #[.slice (some ⟨b, 0, none⟩) 8 cap] ∧ w.ownsRow 0 22 1 (.slice (some ⟨b, 0, none⟩) 8 cap) 8 (nums .u64 L)
theorem RFile.ne_ {w : World} {g b cap : Nat} {L : List Int} (h : RFile w g b cap L) : b ≠ g := by
  have := own_ne h.2.2 h.2.1 (by decide)
  intro e
  exact this (by simp [Value.ownBlock, e])
theorem RFile.lt {w : World} {g b cap : Nat} {L : List Int} (h : RFile w g b cap L) : g < w.heap.size ∧ b < w.heap.size := ⟨h.2.1.lt, own_lt h.2.2 rfl⟩
theorem RFile.chg {S : List Nat} {w w' : World} {g b cap : Nat} {L : List Int} (h : RFile w g b cap L) (hc : Chg S w w') (hg : g ∉ S) (hb : b ∉ S) : RFile w' g b cap L :=
  ⟨h.1, h.2.1.chg hc hg, own_chg h.2.2 hc (fun k hk => by simp [Value.ownBlock] at hk; subst hk; exact hb)⟩
theorem RFile.cell {w : World} {g b cap : Nat} {L : List Int} (h : RFile w g b cap L) : w.cell? ⟨g, 0, none⟩ = some (.slice (some ⟨b, 0, none⟩) 8 cap) := h.2.1.cell 0
theorem RFile.at_ {w : World} {g b cap : Nat} {L : List Int} (h : RFile w g b cap L) (i : Int) (h0 : 0 ≤ i) (h1 : i < 8) : w.cell? ⟨b, i.toNat, none⟩ = some (.int .u64 (L.getD i.toNat 0)) := by
  have := h.2.2.cells (g := b) rfl i.toNat (.int .u64 (L.getD i.toNat 0)) (nums_get _ _ _ (by rw [h.1]; omega))
  rwa [add_plain, Nat.zero_add] at this
theorem RFile.free {w : World} {g b cap : Nat} {L : List Int} (h : RFile w g b cap L) (i : Nat) : w.frozen? ⟨b, i, none⟩ = false := h.2.2.frozenAt i
theorem RFile.store {w : World} {g b cap : Nat} {L : List Int} (h : RFile w g b cap L) (i : Nat) (x : Int) : RFile (w.setCell ⟨b, i, none⟩ (.int .u64 x)) g b cap (L.set i x) := by
  refine ⟨by simpa using h.1, h.2.1.far (p := ⟨b, i, none⟩) (fun e => h.ne_ e.symm) _, ?_⟩
  have := (h.2.2.stored i (.int .u64 x)).1
  simpa [nums, List.map_set] using this
theorem RFile.reads {w : World} {g b cap : Nat} {L : List Int} (h : RFile w g b cap L) : Nums w .u64 (some ⟨b, 0, none⟩) 8 L := own_nums h.2.2 (by decide)

set_option maxRecDepth 100000 in
theorem get_out (w : World) (v : Value) (i : Int) (hi : ¬ (0 ≤ i ∧ i < 8)) : Calls Try.prog 37 #[v, .int .i64 i] w fun e w' => e = .returned (.tuple #[.int .u64 0, .int .i64 1]) ∧ w = w' := by
  by_cases h0 : 0 ≤ i
  · have h1 : 8 ≤ i := by omega
    clear hi
    go_enter Try.func37, Try.ntmps37
    go_wp2
    go_ret2
    exact ⟨rfl, rfl⟩
  · have h1 : i < 0 := by omega
    clear hi h0
    go_enter Try.func37, Try.ntmps37
    go_wp2
    go_ret2
    exact ⟨rfl, rfl⟩
set_option maxRecDepth 100000 in
theorem get_ok {w : World} {g b cap : Nat} {L : List Int} (h : RFile w g b cap L) (i : Int) (h0 : 0 ≤ i) (h1 : i < 8) : Calls Try.prog 37 #[.pointer (some ⟨g, 0, none⟩), .int .i64 i] w fun e w' => e = .returned (.tuple #[.int .u64 (L.getD i.toNat 0), .int .i64 0]) ∧ w = w' := by
  have c0 := h.cell
  have c1 := h.at_ i h0 h1
  generalize L.getD i.toNat 0 = x at *
  clear h
  go_enter Try.func37, Try.ntmps37
  go_wp2
  go_ret2
  exact ⟨rfl, rfl⟩
set_option maxRecDepth 100000 in
theorem set_out (w : World) (v : Value) (i x : Int) (hi : ¬ (0 ≤ i ∧ i < 8)) : Calls Try.prog 35 #[v, .int .i64 i, .int .u64 x] w fun e w' => e = .returned (.int .i64 1) ∧ w = w' := by
  by_cases h0 : 0 ≤ i
  · have h1 : 8 ≤ i := by omega
    clear hi
    go_enter Try.func35, Try.ntmps35
    go_wp2
    go_ret
    exact ⟨rfl, rfl⟩
  · have h1 : i < 0 := by omega
    clear hi h0
    go_enter Try.func35, Try.ntmps35
    go_wp2
    go_ret
    exact ⟨rfl, rfl⟩
set_option maxRecDepth 100000 in
theorem set_ok {w : World} {g b cap : Nat} {L : List Int} (h : RFile w g b cap L) (i x : Int) (h0 : 0 ≤ i) (h1 : i < 8) : Calls Try.prog 35 #[.pointer (some ⟨g, 0, none⟩), .int .i64 i, .int .u64 x] w fun e w' => e = .returned (.int .i64 0) ∧ RFile w' g b cap (L.set i.toNat x) ∧ Chg [b] w w' := by
  have c0 := h.cell
  have c1 := h.at_ i h0 h1
  have c2 := h.free i.toNat
  go_enter Try.func35, Try.ntmps35
  go_wp2
  go_ret
  exact ⟨rfl, h.store _ _, (Chg.refl [b] w).setCell (p := ⟨b, i.toNat, none⟩) (by simp) _⟩

theorem RFile.src {w : World} {g b cap : Nat} {L : List Int} (h : RFile w g b cap L) : ∀ j v, (nums .u64 L)[j]? = some v → w.cell? ((⟨b, 0, none⟩ : Addr).add j) = some v := h.2.2.cells (g := b) rfl
theorem RFile.alloc {w : World} {g b cap : Nat} {L : List Int} (h : RFile w g b cap L) (o : Obj) : RFile (w.alloc o) g b cap L := h.chg ((Chg.refl [] w).alloc o) (by simp) (by simp)

set_option maxRecDepth 100000 in
theorem all_ok {w : World} {g b cap : Nat} {L : List Int} (h : RFile w g b cap L) : Calls Try.prog 38 #[.pointer (some ⟨g, 0, none⟩)] w fun e w' => ∃ q cap', e = .returned (.slice (some ⟨q, 0, none⟩) 8 cap') ∧ w.heap.size ≤ q ∧ Nums w' .u64 (some ⟨q, 0, none⟩) 8 L ∧ Chg [] w w' := by
  have c0 := fun o => (h.alloc o).cell
  have hl : (nums .u64 L).length = 8 * 1 := by rw [nums_length, h.1]
  have h0 : (w.alloc (.cells #[] 22)).ownsRow 0 22 1 (.slice (some ⟨w.heap.size, 0, none⟩) 0 0) 0 [] := own_lit w 22 #[] 0 (by decide) rfl
  go_enter Try.func38, Try.ntmps38
  go_wp2_with (at_builtin; refine wpList_app rfl (.tmp 3) (.tmp 7) 28 rfl 22 (.int .u64 0) 1 8 Try.underlying28 info_u64 rfl (by decide) (by decide) (.slice (some ⟨w.heap.size, 0, none⟩) 0 0) 0 [] rfl h0 ⟨b, 0, none⟩ 8 cap (nums .u64 L) rfl hl (h.alloc _).src (oneCell_nums _ _) (by decide) (by decide) ?_; intro q cap1 w1 o1 k1 hq1 lt1)
  go_ret
  refine ⟨q, cap1, rfl, ?_, own_nums o1 (by decide), ?_⟩
  · rcases hq1 with h1 | h1
    · simp [Value.ownBlock] at h1; omega
    · simp at h1; omega
  · exact ((Chg.refl [] w).alloc _).trans k1 (by simp [Value.ownBlock])

set_option maxRecDepth 100000 in
theorem load_out (w : World) (v : Value) (A : Option Addr) (n c : Nat) (hn : n ≠ 8) : Calls Try.prog 34 #[v, .slice A n c] w fun e w' => e = .returned (.int .i64 1) ∧ w = w' := by
  have hb : ((n : Int) != 8) = true := by rw [bne_iff_ne]; omega
  clear hn
  go_enter Try.func34, Try.ntmps34
  go_wp2
  go_ret
  exact ⟨rfl, rfl⟩
set_option maxRecDepth 100000 in
theorem load_ok {w : World} {g b cap : Nat} {L : List Int} (h : RFile w g b cap L) (A : Option Addr) (c : Nat) (l : List Int) (hl : Nums w .u64 A 8 l) :
    Calls Try.prog 34 #[.pointer (some ⟨g, 0, none⟩), .slice A 8 c] w fun e w' => ∃ q cap', e = .returned (.int .i64 0) ∧ w.heap.size ≤ q ∧ RFile w' g q cap' l ∧ Chg [g] w w' := by
  have ha : ∀ o, Nums (w.alloc o) .u64 A 8 l := fun o => hl.chg ((Chg.refl [] w).alloc o) (by simp)
  have hln := hl.1
  obtain ⟨ad, rfl, hcell⟩ := hl.2.2 (by decide)
  have hlen : (nums .u64 l).length = 8 * 1 := by rw [nums_length, hln]
  have hsrc : ∀ o j v, (nums .u64 l)[j]? = some v → (w.alloc o).cell? (ad.add j) = some v := by
    intro o j v hv
    have hj : j < (nums .u64 l).length := (List.getElem?_eq_some_iff.1 hv).1
    obtain ⟨ad', e, hc⟩ := (ha o).2.2 (by decide)
    injection e with e
    subst e
    rw [hc j (by omega), ← hv, nums_get _ _ _ (by omega)]
  have h0 : (w.alloc (.cells #[] 22)).ownsRow 0 22 1 (.slice (some ⟨w.heap.size, 0, none⟩) 0 0) 0 [] := own_lit w 22 #[] 0 (by decide) rfl
  have hg := h.lt.1
  clear ha hl hcell
  go_enter Try.func34, Try.ntmps34
  go_wp2_with (at_builtin; refine wpList_app rfl (.tmp 9) (.tmp 10) 28 rfl 22 (.int .u64 0) 1 8 Try.underlying28 info_u64 rfl (by decide) (by decide) (.slice (some ⟨w.heap.size, 0, none⟩) 0 0) 0 [] rfl h0 ad 8 c (nums .u64 l) rfl hlen (hsrc _) (oneCell_nums _ _) (by decide) (by decide) ?_; intro q cap1 w1 o1 k1 hq1 lt1; have hb1 : Blk w1 g 74 #[.slice (some ⟨b, 0, none⟩) 8 cap] := (h.alloc _).2.1.chg k1 (by simp [Value.ownBlock]; omega); have f1 := hb1.frozen 0; have c1 := hb1.cell 0; simp only [List.getElem?_toArray, List.getElem?_cons_zero] at c1)
  go_ret
  have hq : w.heap.size ≤ q := by
    rcases hq1 with h1 | h1
    · simp [Value.ownBlock] at h1; omega
    · simp at h1; omega
  refine ⟨q, cap1, rfl, hq, ⟨hln, hb1.set_ 0 _, ?_⟩, ?_⟩
  · have := own_chg o1 ((Chg.refl [g] w1).setCell (p := ⟨g, 0, none⟩) (by simp) (.slice (some ⟨q, 0, none⟩) 8 cap1)) (fun k hk => by simp [Value.ownBlock] at hk; simp; omega)
    simpa using this
  · exact (((Chg.refl [g] w).alloc _).trans k1 (by simp [Value.ownBlock])).setCell (p := ⟨g, 0, none⟩) (by simp) _

set_option maxRecDepth 100000 in
theorem new_ok (w : World) : Calls Try.prog 33 #[] w fun e w' => ∃ g b cap, e = .returned (.pointer (some ⟨g, 0, none⟩)) ∧ w.heap.size ≤ g ∧ w.heap.size ≤ b ∧ RFile w' g b cap [0, 0, 0, 0, 0, 0, 0, 0] ∧ Chg [] w w' := by
  go_enter Try.func33, Try.ntmps33
  go_wp2_with fail
  have hb0 := Blk.new w 74 #[.slice none 0 0]
  have k0 : Chg [] w (w.alloc (.cells #[.slice none 0 0] 74)) := (Chg.refl _ _).alloc _
  go_loopw [2] (fun i wr => ∃ (k : Nat) (v : Value), k ≤ 8 ∧ i = .int .i64 k ∧ Blk wr w.heap.size 74 #[v] ∧ wr.ownsRow 0 22 1 v k (nums .u64 (List.replicate k 0)) ∧ Chg [] w wr ∧ (∀ g, v.ownBlock = some g → w.heap.size ≤ g)) (fun i _ => 8 - (intOf i).toNat)
  case atStart => exact ⟨0, .slice none 0 0, Nat.zero_le _, rfl, hb0, World.ownsRow_nil _ _ _ _, k0, fun g hg => by simp [Value.ownBlock] at hg⟩
  case round =>
    obtain ⟨k, v, hk, rfl, hb, ho, hc, hv⟩ := hrel
    by_cases hlt : k < 8
    · have c0 : wr.cell? ⟨w.heap.size, 0, none⟩ = some v := hb.cell 0
      have hne := own_ne ho hb (by decide)
      obtain ⟨B, hB⟩ : ∃ B, w.heap.size = B := ⟨_, rfl⟩
      rw [hB] at hb c0 hne hv ⊢
      have hn : (wr.alloc (.cells #[.int .u64 0] 22)).ownsRow 0 22 1 v k (nums .u64 (List.replicate k 0)) := ho.alloc _
      have hnew := cell_one_new wr (.int .u64 0) 22
      go_wp2_with (at_builtin; refine wpList_app rfl (.tmp 13) (.tmp 14) 28 rfl 22 (.int .u64 0) 1 8 Try.underlying28 info_u64 rfl (by decide) (by decide) v k _ rfl hn ⟨wr.heap.size, 0, none⟩ 1 1 [.int .u64 0] rfl rfl hnew (by simp [Value.oneCell']) (by decide) (by omega) ?_; intro q cap1 w1 o1 k1 hq1 lt1; have hb1 : Blk w1 B 74 #[v] := (hb.alloc _).chg k1 (by simpa using hne); have f1 := hb1.frozen 0; have c1 : w1.cell? ⟨B, 0, none⟩ = some v := hb1.cell 0)
      have hs := hb.lt
      have hcB := hc.size
      have hqB : B ≤ q := by
        rcases hq1 with h1 | h1
        · exact hv q h1
        · simp at h1; omega
      have hqn : q ≠ B := by
        rcases hq1 with h1 | h1
        · intro e; exact hne (by rw [h1, e])
        · simp at h1; omega
      have kw : Chg [] w w1 := (hc.alloc _).trans k1 (fun x hx => .inr (by rw [hB]; exact hv x (by simpa using hx)))
      have e : nums .u64 (List.replicate k 0) ++ [Value.int .u64 0] = nums .u64 (List.replicate (k + 1) 0) := by
        rw [List.replicate_succ']; simp [nums]
      rw [e] at o1
      go_roundw
      case rel =>
        refine ⟨k + 1, _, by omega, by go_num, hb1.set_ 0 _, own_chg o1 ((Chg.refl [B] w1).setCell (p := ⟨B, 0, none⟩) (by simp) _) (fun g hg => by simp [Value.ownBlock] at hg; simp; omega), kw.setCell (p := ⟨B, 0, none⟩) (.inr (by show w.heap.size ≤ B; omega)) _, fun g hg => by simp [Value.ownBlock] at hg; omega⟩
      case measure => simp [intOf]; omega
    · obtain rfl : k = 8 := by omega
      obtain ⟨q, cap, rfl, _, hlq⟩ := ho.form (by decide)
      go_wp2
      go_ret
      exact ⟨w.heap.size, q, cap, rfl, Nat.le_refl _, hv q rfl, ⟨rfl, hb, ho⟩, hc⟩
end Go.Proofs.Ytapgkjkncihlkaa.Ref05
