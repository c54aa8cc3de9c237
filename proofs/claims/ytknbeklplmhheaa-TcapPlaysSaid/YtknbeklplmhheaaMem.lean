/- Package mem: what its functions do with frames of 36 words, each walked once. -/
import Derived.Test.YtknbeklplmhheaaProg
import Derived.Test.YtknbeklplmhheaaHeap
import Derived.WalkKit
import Derived.WalkSpells
import Derived.OwnWalk
import Derived.BigQuiet
import Derived.Deep.QuietTactic
import Derived.Deep.MidRow
import Derived.Deep.DeepMust
namespace Go.Proofs.Ytknbeklplmhheaa.Mem
open Go Go.RowKit Go.Proofs.Ytknbeklplmhheaa.Heap

/-- Why a word cannot be (1), or that it can (0). -/
def canE (n : Nat) (f a : Int) : Int := if 0 ≤ f ∧ f < n ∧ 0 ≤ a ∧ a < 36 then 0 else 1
theorem canE_ok {n : Nat} {f a : Int} (h : 0 ≤ f ∧ f < n ∧ 0 ≤ a ∧ a < 36) : canE n f a = 0 := if_pos h
theorem canE_no {n : Nat} {f a : Int} (h : ¬ (0 ≤ f ∧ f < n ∧ 0 ≤ a ∧ a < 36)) : canE n f a = 1 := if_neg h

/-- A memory of n frames, its head in block p, its words, 36 a frame, in block g. -/
structure MemAt (w : World) (p g n : Nat) (L : List Int) : Prop where
  len : L.length = 36 * n
  pos : 1 ≤ n
  le : n ≤ 64
  hd : Blk w p 98 #[.slice (some ⟨g, 0, none⟩) n n]
  row : Blk w g 109 (nums .u64 L).toArray
section
variable {S : List Nat} {w w' : World} {p g n : Nat} {L : List Int}
theorem MemAt.ne (h : MemAt w p g n L) : p ≠ g := Blk.ne_ h.hd h.row (by decide)
theorem MemAt.chg (h : MemAt w p g n L) (hc : Chg S w w') (hp : p ∉ S) (hg : g ∉ S) : MemAt w' p g n L := ⟨h.len, h.pos, h.le, h.hd.chg hc hp, h.row.chg hc hg⟩
theorem MemAt.chg0 (h : MemAt w p g n L) (hc : Chg [] w w') : MemAt w' p g n L := h.chg hc (by simp) (by simp)
theorem MemAt.alloc (h : MemAt w p g n L) (o : Obj) : MemAt (w.alloc o) p g n L := ⟨h.len, h.pos, h.le, h.hd.alloc o, h.row.alloc o⟩
theorem MemAt.drew (h : MemAt w p g n L) : MemAt w.drew p g n L := ⟨h.len, h.pos, h.le, h.hd, h.row⟩
theorem MemAt.drewN (h : MemAt w p g n L) (k : Nat) : MemAt (w.drewN k) p g n L := ⟨h.len, h.pos, h.le, h.hd, h.row⟩
theorem MemAt.head (h : MemAt w p g n L) : w.cell? ⟨p, 0, none⟩ = some (.slice (some ⟨g, 0, none⟩) n n) := h.hd.cell 0
theorem MemAt.cell (h : MemAt w p g n L) (i : Nat) (hi : i < 36 * n) : w.cell? ⟨g, i, none⟩ = some (.int .u64 (L.getD i 0)) := by
  rw [h.row.cell, List.getElem?_toArray]
  exact nums_get _ _ _ (by have := h.len; omega)
theorem MemAt.set_ (h : MemAt w p g n L) (i : Nat) (x : Int) : MemAt (w.setCell ⟨g, i, none⟩ (.int .u64 x)) p g n (L.set i x) := by
  refine ⟨by simpa using h.len, h.pos, h.le, h.hd.far (fun e => h.ne e) _, ?_⟩
  have := h.row.set_ i (.int .u64 x)
  simpa [nums, List.map_set] using this
end
/-- Is it a frame? -/
def isF (n : Nat) (f : Int) : Bool := decide (0 ≤ f ∧ f < n)
/-- A word's place. -/
def at_ (f a : Int) : Nat := (f.toNat * 36 + a.toNat)

set_option maxRecDepth 100000 in
theorem none_ok {w : World} {p g n : Nat} {L : List Int} (h : MemAt w p g n L) : Calls Try.prog 101 #[.pointer (some ⟨p, 0, none⟩)] w fun e w' => e = .returned (.bool false) ∧ w = w' := by
  have c := h.head
  have h1 := h.pos
  have h0 : ((n : Int) == 0) = false := by rw [beq_eq_false_iff_ne]; omega
  clear h
  go_enter Try.func101, Try.ntmps101
  go_wp2
  go_ret
  exact ⟨rfl, rfl⟩
set_option maxRecDepth 100000 in
theorem is_ok {w : World} {p g n : Nat} {L : List Int} (h : MemAt w p g n L) (f : Int) : Calls Try.prog 102 #[.pointer (some ⟨p, 0, none⟩), .int .i64 f] w fun e w' => e = .returned (.bool (isF n f)) ∧ w = w' := by
  have c := h.head
  have h1 := h.pos
  have h2 := h.le
  clear h
  unfold isF
  by_cases h0 : 0 ≤ f
  · by_cases hn : f < n
    · rw [decide_eq_true ⟨h0, hn⟩]
      go_enter Try.func102, Try.ntmps102
      go_wp2
      go_ret
      exact ⟨rfl, rfl⟩
    · rw [decide_eq_false (by omega)]
      have hn' : decide (f < (n : Int)) = false := by simpa using hn
      clear hn
      go_enter Try.func102, Try.ntmps102
      go_wp2
      go_ret
      exact ⟨rfl, rfl⟩
  · rw [decide_eq_false (by omega)]
    have h0' : f < 0 := by omega
    clear h0
    go_enter Try.func102, Try.ntmps102
    go_wp2
    go_ret
    exact ⟨rfl, rfl⟩
set_option maxRecDepth 100000 in
theorem can_ok {w : World} {p g n : Nat} {L : List Int} (h : MemAt w p g n L) (f a : Int) : Calls Try.prog 62 #[.pointer (some ⟨p, 0, none⟩), .int .i64 f, .int .i64 a] w fun e w' => e = .returned (.int .i64 (canE n f a)) ∧ w = w' := by
  have h1 := h.pos
  have h2 := h.le
  have H : Hid (MemAt w p g n L) := h
  clear h
  by_cases hf : 0 ≤ f ∧ f < n
  · have hi : isF n f = true := decide_eq_true hf
    have HI : Hid (isF n f = true) := hi
    clear hi
    by_cases ha : 0 ≤ a
    · by_cases hb : a < 36
      · rw [canE_ok ⟨hf.1, hf.2, ha, hb⟩]
        clear hf
        go_enter Try.func62, Try.ntmps62
        go_wp2_with (first | (go_at_call 101; refine (none_ok H.out).mono ?_; rintro e w' ⟨rfl, rfl⟩) | (go_at_call 102; refine (is_ok H.out f).mono ?_; rw [HI.out]; rintro e w' ⟨rfl, rfl⟩))
        go_ret
        exact ⟨rfl, rfl⟩
      · have hb' : 36 ≤ a := by omega
        rw [canE_no (by omega)]
        clear hf hb
        go_enter Try.func62, Try.ntmps62
        go_wp2_with (first | (go_at_call 101; refine (none_ok H.out).mono ?_; rintro e w' ⟨rfl, rfl⟩) | (go_at_call 102; refine (is_ok H.out f).mono ?_; rw [HI.out]; rintro e w' ⟨rfl, rfl⟩))
        go_ret
        exact ⟨rfl, rfl⟩
    · have ha' : a < 0 := by omega
      rw [canE_no (by omega)]
      clear hf ha
      go_enter Try.func62, Try.ntmps62
      go_wp2_with (first | (go_at_call 101; refine (none_ok H.out).mono ?_; rintro e w' ⟨rfl, rfl⟩) | (go_at_call 102; refine (is_ok H.out f).mono ?_; rw [HI.out]; rintro e w' ⟨rfl, rfl⟩))
      go_ret
      exact ⟨rfl, rfl⟩
  · have hi : isF n f = false := decide_eq_false hf
    have HI : Hid (isF n f = false) := hi
    rw [canE_no (by omega)]
    clear hi hf
    go_enter Try.func62, Try.ntmps62
    go_wp2_with (first | (go_at_call 101; refine (none_ok H.out).mono ?_; rintro e w' ⟨rfl, rfl⟩) | (go_at_call 102; refine (is_ok H.out f).mono ?_; rw [HI.out]; rintro e w' ⟨rfl, rfl⟩))
    go_ret
    exact ⟨rfl, rfl⟩
/-- What a load answers. -/
def ldV (n : Nat) (L : List Int) (f a : Int) : Int := if 0 ≤ f ∧ f < n ∧ 0 ≤ a ∧ a < 36 then L.getD (f.toNat * 36 + a.toNat) 0 else 0
set_option maxRecDepth 100000 in
theorem load_ok {w : World} {p g n : Nat} {L : List Int} (h : MemAt w p g n L) (f a : Int) : Calls Try.prog 72 #[.pointer (some ⟨p, 0, none⟩), .int .i64 f, .int .i64 a] w fun e w' => e = .returned (.tuple #[.int .u64 (ldV n L f a), .int .i64 (canE n f a)]) ∧ w = w' := by
  have h1 := h.pos
  have h2 := h.le
  have HC := can_ok h f a
  unfold ldV
  by_cases ho : 0 ≤ f ∧ f < n ∧ 0 ≤ a ∧ a < 36
  · rw [if_pos ho]
    rw [canE_ok ho] at HC ⊢
    have c := h.head
    have d := h.cell (f.toNat * 36 + a.toNat) (by omega)
    generalize L.getD (f.toNat * 36 + a.toNat) 0 = x at *
    obtain ⟨o1, o2, o3, o4⟩ := ho
    clear h
    go_enter Try.func72, Try.ntmps72
    go_wp2_with (go_at_call 62; refine Calls.mono HC ?_; rintro e w' ⟨rfl, rfl⟩)
    go_ret2
    exact ⟨rfl, rfl⟩
  · rw [if_neg ho]
    rw [canE_no ho] at HC ⊢
    clear h ho
    go_enter Try.func72, Try.ntmps72
    go_wp2_with (go_at_call 62; refine Calls.mono HC ?_; rintro e w' ⟨rfl, rfl⟩)
    go_ret2
    exact ⟨rfl, rfl⟩
/-- The words behind a store. -/
def stL (n : Nat) (L : List Int) (f a x : Int) : List Int := if 0 ≤ f ∧ f < n ∧ 0 ≤ a ∧ a < 36 then L.set (f.toNat * 36 + a.toNat) x else L
set_option maxRecDepth 100000 in
theorem store_ok {w : World} {p g n : Nat} {L : List Int} (h : MemAt w p g n L) (f a x : Int) : Calls Try.prog 70 #[.pointer (some ⟨p, 0, none⟩), .int .i64 f, .int .i64 a, .int .u64 x] w fun e w' => e = .returned (.int .i64 (canE n f a)) ∧ MemAt w' p g n (stL n L f a x) ∧ Chg [g] w w' := by
  have h1 := h.pos
  have h2 := h.le
  have HC := can_ok h f a
  have H : Hid (MemAt w p g n L) := h
  unfold stL
  by_cases ho : 0 ≤ f ∧ f < n ∧ 0 ≤ a ∧ a < 36
  · rw [if_pos ho]
    rw [canE_ok ho] at HC ⊢
    have c := h.head
    have d := h.cell (f.toNat * 36 + a.toNat) (by omega)
    have fz := h.row.frozen (f.toNat * 36 + a.toNat)
    generalize L.getD (f.toNat * 36 + a.toNat) 0 = y at *
    obtain ⟨o1, o2, o3, o4⟩ := ho
    clear h
    go_enter Try.func70, Try.ntmps70
    go_wp2_with (go_at_call 62; refine Calls.mono HC ?_; rintro e w' ⟨rfl, rfl⟩)
    go_ret
    exact ⟨rfl, H.out.set_ _ _, (Chg.refl [g] w).setCell (p := ⟨g, f.toNat * 36 + a.toNat, none⟩) (by simp) _⟩
  · rw [if_neg ho]
    rw [canE_no ho] at HC ⊢
    clear h ho
    go_enter Try.func70, Try.ntmps70
    go_wp2_with (go_at_call 62; refine Calls.mono HC ?_; rintro e w' ⟨rfl, rfl⟩)
    go_ret
    exact ⟨rfl, H.out, Chg.refl _ _⟩

theorem made_zero (n : Nat) : madeCells (Array.replicate 36 (Value.int .u64 0)) (n * 36) = (nums .u64 (List.replicate (36 * n) 0)).toArray := by
  apply Array.ext
  · simp [madeCells, nums]; omega
  · intro i h1 h2
    have : i % 36 < 36 := Nat.mod_lt _ (by decide)
    simp [madeCells, nums, this]
theorem info_frame : (Try.prog.info? 109).map (fun i => (i.zero, i.size, i.bytes)) = some (some (.agg (Array.replicate 36 (Value.int .u64 0))), 36, 288) := by kernel_rfl
theorem info_frame_size : (Try.prog.info? 109).map (·.size) = some 36 := by kernel_rfl
theorem mk_frames (n : Nat) (hn : n ≤ 64) (w : World) : (Instr.makeSlice 96 (.int .i64 n) (.int .i64 n)).run Try.prog w = .ok (.slice (some ⟨w.heap.size, 0, none⟩) n n) (w.alloc (.cells (nums .u64 (List.replicate (36 * n) 0)).toArray 109)) := by
  obtain ⟨i0, hi, hzz⟩ := Option.map_eq_some_iff.1 info_frame
  simp only [Prod.mk.injEq] at hzz
  obtain ⟨hz0, hz1, hz2⟩ := hzz
  have := run_make (P := Try.prog) w 96 109 i0 _ Try.underlying96 hi hz0 .i64 .i64 n n (by omega) (by omega) (by rw [hz2]; omega) (by omega)
  rw [this, hz1]
  simp only [Int.toNat_natCast, Value.cells]
  rw [made_zero]
theorem mk_words (w : World) : (Instr.makeSlice 47 (.int .i64 36) (.int .i64 36)).run Try.prog w = .ok (.slice (some ⟨w.heap.size, 0, none⟩) 36 36) (w.alloc (.cells (nums .u64 (List.replicate 36 0)).toArray 36)) := by kernel_rfl

set_option maxRecDepth 100000 in
theorem new_ok (n : Nat) (h1 : 1 ≤ n) (h2 : n ≤ 64) (w : World) : Calls Try.prog 9 #[.int .i64 n] w fun e w' => ∃ p g, e = .returned (.tuple #[.pointer (some ⟨p, 0, none⟩), .int .i64 0]) ∧ MemAt w' p g n (List.replicate (36 * n) 0) ∧ w.heap.size ≤ p ∧ w.heap.size ≤ g ∧ Chg [] w w' := by
  have hmk := mk_frames n h2
  have HB := Blk.new w 109 (nums .u64 (List.replicate (36 * n) 0)).toArray
  have K := (Chg.refl [] w).alloc (.cells (nums .u64 (List.replicate (36 * n) 0)).toArray 109)
  have hl : (List.replicate (36 * n) (0 : Int)).length = 36 * n := by simp
  generalize List.replicate (36 * n) (0 : Int) = L at *
  have HL : Hid (L.length = 36 * n) := hl
  clear hl
  go_enter Try.func9, Try.ntmps9
  go_wp2
  go_ret2
  refine ⟨_, w.heap.size, rfl, ⟨HL.out, h1, h2, Blk.new' _ _ _ (by simp), HB.alloc _⟩, by simp, Nat.le_refl _, K.alloc _⟩
set_option maxRecDepth 100000 in
theorem new_no (n : Int) (h1 : ¬ (1 ≤ n ∧ n ≤ 64)) (w : World) : Calls Try.prog 9 #[.int .i64 n] w fun e w' => e = .returned (.tuple #[.pointer none, .int .i64 1]) ∧ w = w' := by
  by_cases h : n < 1
  · clear h1
    go_enter Try.func9, Try.ntmps9
    go_wp2
    go_ret2
    exact ⟨rfl, rfl⟩
  · have h' : 64 < n := by omega
    clear h1
    go_enter Try.func9, Try.ntmps9
    go_wp2
    go_ret2
    exact ⟨rfl, rfl⟩

set_option maxRecDepth 100000 in
theorem len_ok {w : World} {p g n : Nat} {L : List Int} (h : MemAt w p g n L) : Calls Try.prog 86 #[.pointer (some ⟨p, 0, none⟩)] w fun e w' => e = .returned (.int .i64 n) ∧ w = w' := by
  have HC := none_ok h
  have c := h.head
  clear h
  go_enter Try.func86, Try.ntmps86
  go_wp2_with (go_at_call 101; refine Calls.mono HC ?_; rintro e w' ⟨rfl, rfl⟩)
  go_ret
  exact ⟨rfl, rfl⟩

/-- A frame's words. -/
def frL (L : List Int) (f : Nat) : List Int := (L.drop (f * 36)).take 36
/-- The words where a frame's are others. -/
def setF (L : List Int) (f : Nat) (ws : List Int) : List Int := L.take (f * 36) ++ ws ++ L.drop (f * 36 + 36)
theorem frL_len {L : List Int} {n f : Nat} (hl : L.length = 36 * n) (hf : f < n) : (frL L f).length = 36 := by unfold frL; simp; omega
theorem setF_len {L ws : List Int} {n f : Nat} (hl : L.length = 36 * n) (hf : f < n) (hw : ws.length = 36) : (setF L f ws).length = 36 * n := by unfold setF; simp; omega
theorem frL_get {L : List Int} {f j : Nat} (hj : j < 36) : (frL L f).getD j 0 = L.getD (f * 36 + j) 0 := by
  unfold frL
  simp [List.getD_eq_getElem?_getD, List.getElem?_drop, hj]
theorem setF_get {L ws : List Int} {n f i : Nat} (hl : L.length = 36 * n) (hf : f < n) (hw : ws.length = 36) : (setF L f ws).getD i 0 = if f * 36 ≤ i ∧ i < f * 36 + 36 then ws.getD (i - f * 36) 0 else L.getD i 0 := by
  unfold setF
  have e1 : (L.take (f * 36)).length = f * 36 := by simp; omega
  simp only [List.getD_eq_getElem?_getD]
  by_cases h1 : i < f * 36
  · rw [if_neg (by omega), List.append_assoc, List.getElem?_append_left (by omega), List.getElem?_take, if_pos h1]
  · by_cases h2 : i < f * 36 + 36
    · rw [if_pos (by omega), List.getElem?_append_left (by simp; omega), List.getElem?_append_right (by omega), e1]
    · rw [if_neg (by omega), List.getElem?_append_right (by simp; omega)]
      have : (L.take (f * 36) ++ ws).length = f * 36 + 36 := by simp; omega
      rw [this, List.getElem?_drop, show f * 36 + 36 + (i - (f * 36 + 36)) = i by omega]
/-- A block with a range stored. -/
theorem set_range {w : World} {g t o : Nat} {cs : Array Value} (h : Blk w g t cs) (vs : List Value) (ho : o + vs.length ≤ cs.size) : Blk (w.setCells g o vs) g t (cs.toList.take o ++ vs ++ cs.toList.drop (o + vs.length)).toArray := by
  induction vs generalizing w cs o with
  | nil => simpa [World.setCells] using h
  | cons v r ih =>
    rw [World.setCells]
    have := ih (o := o + 1) (h.set_ o v) (by simp at ho ⊢; omega)
    simp only [Array.toList_setIfInBounds] at this
    have e : (cs.toList.set o v).take (o + 1) ++ r ++ (cs.toList.set o v).drop (o + 1 + r.length) = cs.toList.take o ++ (v :: r) ++ cs.toList.drop (o + (v :: r).length) := by
      have ho' : o < cs.toList.length := by simp at ho ⊢; omega
      rw [List.take_set, List.drop_set_of_lt (by omega), List.take_add_one, List.getElem?_eq_getElem ho']
      simp only [Option.toList_some]
      rw [List.set_append_right _ _ (by rw [List.length_take]; omega)]
      have : o - (cs.toList.take o).length = 0 := by rw [List.length_take]; omega
      rw [this]
      simp [Nat.add_assoc, Nat.add_comm 1]
    rw [e] at this
    exact this
theorem MemAt.setFrame {w : World} {p g n : Nat} {L ws : List Int} (h : MemAt w p g n L) {f : Nat} (hf : f < n) (hw : ws.length = 36) : MemAt (w.setCells g (f * 36) (nums .u64 ws)) p g n (setF L f ws) := by
  have hl := h.len
  refine ⟨setF_len hl hf hw, h.pos, h.le, ?_, ?_⟩
  · exact h.hd.chg ((Chg.refl [g] w).setCells (by simp) _ _) (by simpa using h.ne)
  · have := set_range h.row (nums .u64 ws) (o := f * 36) (by simp [nums]; omega)
    simp only [nums_length, hw] at this
    rw [show (setF L f ws) = L.take (f * 36) ++ ws ++ L.drop (f * 36 + 36) from rfl]
    simpa [nums, List.map_take, List.map_drop] using this
theorem MemAt.rangeAt {w : World} {p g n : Nat} {L : List Int} (h : MemAt w p g n L) {f : Nat} (hf : f < n) : w.rangeAt g (f * 36) (nums .u64 (frL L f)) := fun j v hv => by
  have hl := frL_len h.len hf
  have hj : j < 36 := by have := (List.getElem?_eq_some_iff.1 hv).1; rw [nums_length, hl] at this; exact this
  have hln := h.len
  rw [h.cell _ (by omega)]
  rw [nums_get _ _ _ (by omega), frL_get hj] at hv
  exact hv
theorem MemAt.there {w : World} {p g n : Nat} {L : List Int} (h : MemAt w p g n L) {f : Nat} (hf : f < n) : w.there g (f * 36) 36 := fun j hj =>
  ⟨by rw [h.cell _ (by omega)]; rfl, h.row.frozen _⟩
theorem build_frame (w : World) : (Instr.build 109 #[]).run Try.prog w = .ok (.agg (nums .u64 (List.replicate 36 0)).toArray) w := by kernel_rfl
theorem one_nums (k : IntKind) (xs : List Int) : (nums k xs).toArray.all (·.oneCell') = true := all_oneCell_toArray (oneCell_nums _ _)
/-- The words behind a frame's clearing. -/
def clL (n : Nat) (L : List Int) (f : Int) : List Int := if 0 ≤ f ∧ f < n then setF L f.toNat (List.replicate 36 0) else L
def canF (n : Nat) (f : Int) : Int := if 0 ≤ f ∧ f < n then 0 else 1
theorem canE_zero (n : Nat) (f : Int) : canE n f 0 = canF n f := by unfold canE canF; simp only [show (0 : Int) ≤ 0 ∧ (0 : Int) < 36 from by decide, and_true]
set_option maxRecDepth 100000 in
theorem clear_ok {w : World} {p g n : Nat} {L : List Int} (h : MemAt w p g n L) (f : Int) : Calls Try.prog 99 #[.pointer (some ⟨p, 0, none⟩), .int .i64 f] w fun e w' => e = .returned (.int .i64 (canF n f)) ∧ MemAt w' p g n (clL n L f) ∧ Chg [g] w w' := by
  have h1 := h.pos
  have h2 := h.le
  have HC := can_ok h f 0
  rw [canE_zero] at HC
  have H : Hid (MemAt w p g n L) := h
  unfold clL canF at *
  by_cases ho : 0 ≤ f ∧ f < n
  · rw [if_pos ho]
    rw [if_pos ho] at HC ⊢
    have c := h.head
    have T := h.there (f := f.toNat) (by omega)
    have G := h.setFrame (f := f.toNat) (ws := List.replicate 36 0) (by omega) (by simp)
    have KK := (Chg.refl [g] w).setCells (g := g) (by simp) (nums .u64 (List.replicate 36 0)) (f.toNat * 36)
    have HG : Hid _ := G
    have HT : Hid _ := T
    clear G T
    obtain ⟨o1, o2⟩ := ho
    clear h
    go_enter Try.func99, Try.ntmps99
    go_wp2_with (first
      | (go_at_call 62; refine Calls.mono HC ?_; rintro e w' ⟨rfl, rfl⟩)
      | (refine wpList_store_mid (op := ⟨none, .store _ _ _, _, _, _, _⟩) rfl 109 (.tmp 18) (.tmp 17) rfl g (f.toNat * 36) (nums .u64 (List.replicate 36 0)).toArray rfl rfl HT.out info_frame_size (one_nums _ _) ?_))
    go_ret
    exact ⟨rfl, HG.out, KK⟩
  · rw [if_neg ho]
    rw [if_neg ho] at HC ⊢
    clear h ho
    go_enter Try.func99, Try.ntmps99
    go_wp2_with (go_at_call 62; refine Calls.mono HC ?_; rintro e w' ⟨rfl, rfl⟩)
    go_ret
    exact ⟨rfl, H.out, Chg.refl _ _⟩
/-- What Words answers. -/
def wdsV (n : Nat) (f : Int) (b : Nat) : Value := if 0 ≤ f ∧ f < n then .slice (some ⟨b, 0, none⟩) 36 36 else .slice none 0 0
theorem info_u64 : (Try.prog.info? 36).map (·.size) = some 1 := by kernel_rfl
set_option maxRecDepth 100000 in
theorem words_ok {w : World} {p g n : Nat} {L : List Int} (h : MemAt w p g n L) (f : Int) : Calls Try.prog 87 #[.pointer (some ⟨p, 0, none⟩), .int .i64 f] w fun e w' => ∃ b, e = .returned (.tuple #[wdsV n f b, .int .i64 (canF n f)]) ∧ (0 ≤ f ∧ f < n → Blk w' b 36 (nums .u64 (frL L f.toNat)).toArray) ∧ w.heap.size ≤ b ∧ Chg [] w w' := by
  have h1 := h.pos
  have h2 := h.le
  have HC := can_ok h f 0
  rw [canE_zero] at HC
  unfold wdsV canF at *
  by_cases ho : 0 ≤ f ∧ f < n
  · simp only [if_pos ho] at HC ⊢
    have ha := h.alloc (.cells (nums .u64 (List.replicate 36 0)).toArray 36)
    have c := fun o => (h.alloc o).head
    have R := ha.rangeAt (f := f.toNat) (by omega)
    have hl := frL_len h.len (f := f.toNat) (by omega)
    obtain ⟨w1, hrun, hb1, hc1⟩ := run_copy_blk (P := Try.prog) 47 47 3 36 Try.underlying47 info_u64
      (Blk.new w 36 (nums .u64 (List.replicate 36 0)).toArray) 0 36 36 ⟨g, f.toNat * 36, none⟩ 36 36 (nums .u64 (frL L f.toNat)) (by rw [nums_length, hl]; rfl) (fun j v hv => by rw [add_plain]; exact R j v hv) (by rw [nums_length, hl]; simp [nums]) (oneCell_nums _ _)
    have hd : (nums .u64 (List.replicate 36 0)).toArray.toList.take 0 ++ nums .u64 (frL L f.toNat) ++ (nums .u64 (List.replicate 36 0)).toArray.toList.drop (0 + (nums .u64 (frL L f.toNat)).length) = nums .u64 (frL L f.toNat) := by
      rw [nums_length, hl, List.drop_of_length_le (by simp [nums])]; simp
    rw [hd] at hb1
    have K := ((Chg.refl [] w).alloc (.cells (nums .u64 (List.replicate 36 0)).toArray 36)).trans hc1 (by simp)
    have hmk := mk_words w
    have HK : Hid _ := K
    have HB : Hid _ := hb1
    clear hd hb1 hc1 K R ha hl
    generalize nums .u64 (List.replicate 36 0) = Z at *
    obtain ⟨o1, o2⟩ := ho
    clear h
    go_enter Try.func87, Try.ntmps87
    go_wp2_with (first
      | (go_at_call 62; refine Calls.mono HC ?_; rintro e w' ⟨rfl, rfl⟩))
    go_ret2
    exact ⟨_, rfl, fun _ => HB.out, Nat.le_refl _, HK.out⟩
  · simp only [if_neg ho] at HC ⊢
    have HO : Hid _ := ho
    clear h ho
    go_enter Try.func87, Try.ntmps87
    go_wp2_with (go_at_call 62; refine Calls.mono HC ?_; rintro e w' ⟨rfl, rfl⟩)
    go_ret2
    exact ⟨_, rfl, fun q => absurd q HO.out, Nat.le_refl _, Chg.refl _ _⟩
end Go.Proofs.Ytknbeklplmhheaa.Mem
