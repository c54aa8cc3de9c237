/- Package history: the threads' row, New, none, isFrame, begun, push, pop. -/
import Derived.Test.YtbjiecpkalcfeaaSl
import Derived.Test.YtbjiecpkalcfeaaHistoryZero
import Derived.Deep.RegionHeld3
import Derived.Deep.RegionLawGrows
import Derived.StillTailTactics
import Derived.Lib.Hide
namespace Go.Proofs.Ytbjiecpkalcfeaa.Hist
open Go Go.RowKit Go.Proofs.Ytbjiecpkalcfeaa Go.Proofs.Ytbjiecpkalcfeaa.Heap Go.Proofs.Ytbjiecpkalcfeaa.Sl

abbrev Op2 := Int × Int
/-- Open calls as cells: from where, where it goes on. -/
def ops2 (es : List Op2) : List Value := es.flatMap fun e => [.int .i64 e.1, .int .i64 e.2]
theorem ops2_app (es : List Op2) (e : Op2) : ops2 (es ++ [e]) = ops2 es ++ [.int .i64 e.1, .int .i64 e.2] := by simp [ops2]
theorem ops2_len (es : List Op2) : (ops2 es).length = es.length * 2 := by
  induction es with
  | nil => rfl
  | cons e r ih =>
    have : ops2 (e :: r) = [.int .i64 e.1, .int .i64 e.2] ++ ops2 r := rfl
    rw [this, List.length_append, ih]
    simp only [List.length_cons, List.length_nil]
    omega
theorem ops2_get (es : List Op2) (i : Nat) (h : i < es.length) : (ops2 es)[i * 2]? = some (.int .i64 (es.getD i (0, 0)).1) ∧ (ops2 es)[i * 2 + 1]? = some (.int .i64 (es.getD i (0, 0)).2) := by
  induction es generalizing i with
  | nil => exact absurd h (by simp)
  | cons e r ih =>
    have he : ops2 (e :: r) = .int .i64 e.1 :: .int .i64 e.2 :: ops2 r := rfl
    cases i with
    | zero => exact ⟨rfl, rfl⟩
    | succ i =>
      have := ih i (by simpa using h)
      rw [he, show (i + 1) * 2 = i * 2 + 1 + 1 by omega]
      simpa using this
/-- A thread: has it begun, where is it, which calls are open. -/
structure Th where
  on : Bool
  comp : Int
  l : List Op2
def upd {α : Type} (T : Nat → α) (t : Nat) (x : α) : Nat → α := fun i => if i = t then x else T i
theorem upd_at {α : Type} (T : Nat → α) (t : Nat) (x : α) : upd T t x t = x := if_pos rfl
theorem upd_ne {α : Type} (T : Nat → α) {t i : Nat} (x : α) (h : i ≠ t) : upd T t x i = T i := if_neg h
/-- The cells of the threads' row. -/
def RowIs (cs : Array Value) (V : Nat → Value) (T : Nat → Th) : Prop := cs.size = 192 ∧ ∀ i, i < 64 → cs[i * 3]? = some (V i) ∧ cs[i * 3 + 1]? = some (.bool (T i).on) ∧ cs[i * 3 + 2]? = some (.int .i64 (T i).comp)
theorem RowIs.setV {cs : Array Value} {V : Nat → Value} {T : Nat → Th} (h : RowIs cs V T) {t : Nat} (ht : t < 64) (v : Value) : RowIs (cs.setIfInBounds (t * 3) v) (upd V t v) T := by
  refine ⟨by simp [h.1], fun i hi => ?_⟩
  obtain ⟨a, b, c⟩ := h.2 i hi
  have hs := h.1
  simp only [Array.getElem?_setIfInBounds]
  rw [if_neg (show ¬ t * 3 = i * 3 + 1 by omega), if_neg (show ¬ t * 3 = i * 3 + 2 by omega)]
  refine ⟨?_, b, c⟩
  by_cases e : i = t
  · subst e
    rw [if_pos rfl, if_pos (by omega), upd_at]
  · rw [if_neg (by omega), upd_ne _ _ e]
    exact a
theorem RowIs.setO {cs : Array Value} {V : Nat → Value} {T : Nat → Th} (h : RowIs cs V T) {t : Nat} (ht : t < 64) (o : Bool) : RowIs (cs.setIfInBounds (t * 3 + 1) (.bool o)) V (upd T t { T t with on := o }) := by
  refine ⟨by simp [h.1], fun i hi => ?_⟩
  obtain ⟨a, b, c⟩ := h.2 i hi
  have hs := h.1
  simp only [Array.getElem?_setIfInBounds]
  rw [if_neg (show ¬ t * 3 + 1 = i * 3 by omega), if_neg (show ¬ t * 3 + 1 = i * 3 + 2 by omega)]
  by_cases e : i = t
  · subst e
    rw [if_pos rfl, if_pos (by omega), upd_at]
    exact ⟨a, rfl, c⟩
  · rw [if_neg (by omega), upd_ne _ _ e]
    exact ⟨a, b, c⟩
theorem RowIs.setC {cs : Array Value} {V : Nat → Value} {T : Nat → Th} (h : RowIs cs V T) {t : Nat} (ht : t < 64) (x : Int) : RowIs (cs.setIfInBounds (t * 3 + 2) (.int .i64 x)) V (upd T t { T t with comp := x }) := by
  refine ⟨by simp [h.1], fun i hi => ?_⟩
  obtain ⟨a, b, c⟩ := h.2 i hi
  have hs := h.1
  simp only [Array.getElem?_setIfInBounds]
  rw [if_neg (show ¬ t * 3 + 2 = i * 3 by omega), if_neg (show ¬ t * 3 + 2 = i * 3 + 1 by omega)]
  by_cases e : i = t
  · subst e
    rw [if_pos rfl, if_pos (by omega), upd_at]
    exact ⟨a, b, rfl⟩
  · rw [if_neg (by omega), upd_ne _ _ e]
    exact ⟨a, b, c⟩
theorem RowIs.setL {cs : Array Value} {V : Nat → Value} {T : Nat → Th} (h : RowIs cs V T) (t : Nat) (l : List Op2) : RowIs cs V (upd T t { T t with l := l }) := by
  refine ⟨h.1, fun i hi => ?_⟩
  obtain ⟨a, b, c⟩ := h.2 i hi
  by_cases e : i = t
  · subst e
    rw [upd_at]
    exact ⟨a, b, c⟩
  · rw [upd_ne _ _ e]
    exact ⟨a, b, c⟩
theorem upd_upd {α : Type} (T : Nat → α) (t : Nat) (x y : α) : upd (upd T t x) t y = upd T t y := by
  funext i
  unfold upd
  split <;> rfl
/-- A history: its threads and their open calls. -/
structure HAt (w : World) (h q : Nat) (V : Nat → Value) (T : Nat → Th) : Prop where
  hd : Blk w h 108 #[.slice (some ⟨q, 0, none⟩) 64 64]
  row : ∃ cs, Blk w q 114 cs ∧ RowIs cs V T
  ls : ∀ i, i < 64 → Sl w 120 2 (V i) (T i).l.length (ops2 (T i).l)
section
variable {w w' : World} {h q : Nat} {V : Nat → Value} {T : Nat → Th}
theorem HAt.chg0 (H : HAt w h q V T) (k : Chg [] w w') : HAt w' h q V T := by
  obtain ⟨hd, ⟨cs, b, r⟩, ls⟩ := H
  exact ⟨hd.chg k (by simp), ⟨cs, b.chg k (by simp), r⟩, fun i hi => (ls i hi).chg k (by simp)⟩
theorem HAt.ne (H : HAt w h q V T) : h ≠ q := by
  obtain ⟨hd, ⟨cs, b, r⟩, ls⟩ := H
  exact Blk.ne_ hd b (by decide)
theorem HAt.cells (H : HAt w h q V T) {t : Nat} (ht : t < 64) : w.cell? ⟨h, 0, none⟩ = some (.slice (some ⟨q, 0, none⟩) 64 64) ∧ w.cell? ⟨q, t * 3, none⟩ = some (V t) ∧ w.cell? ⟨q, t * 3 + 1, none⟩ = some (.bool (T t).on) ∧ w.cell? ⟨q, t * 3 + 2, none⟩ = some (.int .i64 (T t).comp) := by
  obtain ⟨hd, ⟨cs, b, r⟩, ls⟩ := H
  obtain ⟨x, y, z⟩ := r.2 t ht
  exact ⟨hd.cell 0, (b.cell _).trans x, (b.cell _).trans y, (b.cell _).trans z⟩
/-- One thread has turned. -/
theorem HAt.turn (H : HAt w h q V T) (k : Chg [q] w w') {cs' : Array Value} (b' : Blk w' q 114 cs') {t : Nat} {v : Value} {x : Th} (r' : RowIs cs' (upd V t v) (upd T t x)) (hs : Sl w' 120 2 v x.l.length (ops2 x.l)) : HAt w' h q (upd V t v) (upd T t x) := by
  have hne := H.ne
  obtain ⟨hd, ⟨cs, b, r⟩, ls⟩ := H
  refine ⟨hd.chg k (by simpa using hne), ⟨cs', b', r'⟩, fun i hi => ?_⟩
  by_cases e : i = t
  · subst e
    rw [upd_at, upd_at]
    exact hs
  · rw [upd_ne _ _ e, upd_ne _ _ e]
    refine (ls i hi).chg k (fun g hg => ?_)
    have := (ls i hi).ne_ b (by decide)
    simp only [List.mem_singleton]
    intro e2
    exact this (by rw [hg, e2])
end
theorem rep3 (a b c : Value) : ∀ (n i : Nat), i < n → ((List.replicate n [a, b, c]).flatten)[i * 3]? = some a ∧ ((List.replicate n [a, b, c]).flatten)[i * 3 + 1]? = some b ∧ ((List.replicate n [a, b, c]).flatten)[i * 3 + 2]? = some c
  | 0, _, h => absurd h (by omega)
  | n + 1, 0, _ => ⟨rfl, rfl, rfl⟩
  | n + 1, i + 1, h => by
    have := rep3 a b c n i (by omega)
    rw [List.replicate_succ, List.flatten_cons, show (i + 1) * 3 = i * 3 + 1 + 1 + 1 by omega]
    simpa [Nat.add_assoc] using this
abbrev zRow : Array Value := ((List.replicate 64 [Value.slice none 0 0, .bool false, .int .i64 0]).flatten).toArray
set_option maxRecDepth 100000 in
theorem mk_threads (w : World) : (Instr.makeSlice 106 (.int .i64 64) (.int .i64 64)).run Try.prog w = .ok (.slice (some ⟨w.heap.size, 0, none⟩) 64 64) (w.alloc (.cells zRow 114)) := by kernel_rfl
theorem zRow_is : RowIs zRow (fun _ => .slice none 0 0) (fun _ => ⟨false, 0, []⟩) := by
  refine ⟨by kernel_rfl, fun i hi => ?_⟩
  simp only [zRow, List.getElem?_toArray]
  exact rep3 (Value.slice none 0 0) (.bool false) (.int .i64 0) 64 i hi
set_option maxRecDepth 100000 in
set_option maxHeartbeats 1000000 in
theorem new_ok (w : World) : Calls Try.prog 16 #[] w fun e w' => ∃ h q, e = .returned (.pointer (some ⟨h, 0, none⟩)) ∧ HAt w' h q (fun _ => .slice none 0 0) (fun _ => ⟨false, 0, []⟩) ∧ w.heap.size ≤ h ∧ w.heap.size ≤ q ∧ Chg [] w w' := by
  have hmk := mk_threads
  have B := Blk.new w 114 zRow
  have K := (Chg.refl [] w).alloc (.cells zRow 114)
  have hZ := zRow_is
  generalize zRow = cs at *
  have hs : (w.alloc (.cells cs 114)).heap.size = w.heap.size + 1 := by simp
  go_enter Try.func16, Try.ntmps16
  go_wp2
  go_ret
  refine ⟨w.heap.size + 1, w.heap.size, rfl, ⟨Blk.new' _ _ _ hs, ⟨cs, B.alloc _, hZ⟩, fun i _ => Sl.nil _ _ _⟩, by omega, Nat.le_refl _, K.alloc _⟩
section
set_option maxRecDepth 100000
set_option maxHeartbeats 2000000
variable {w : World} {h q : Nat} {V : Nat → Value} {T : Nat → Th}
theorem none_ok (H : HAt w h q V T) : Calls Try.prog 60 #[.pointer (some ⟨h, 0, none⟩)] w fun e w' => e = .returned (.bool false) ∧ w = w' := by
  obtain ⟨c0, -⟩ := H.cells (t := 0) (by decide)
  go_enter Try.func60, Try.ntmps60
  go_wp2
  go_ret
  exact ⟨rfl, rfl⟩
theorem frame_ok (n : Int) (w : World) : Calls Try.prog 61 #[.int .i64 n] w fun e w' => e = .returned (.bool (decide (0 ≤ n ∧ n < 64))) ∧ w = w' := by
  rcases (by omega : n < 0 ∨ 64 ≤ n ∨ (0 ≤ n ∧ n < 64)) with h | h | ⟨h, h'⟩
  · rw [decide_eq_false (by omega)]
    go_enter Try.func61, Try.ntmps61
    go_wp2
    go_ret
    exact ⟨by first | rfl | (simp; omega), rfl⟩
  · rw [decide_eq_false (by omega)]
    go_enter Try.func61, Try.ntmps61
    go_wp2
    go_ret
    exact ⟨by first | rfl | (simp; omega), rfl⟩
  · rw [decide_eq_true ⟨h, h'⟩]
    go_enter Try.func61, Try.ntmps61
    go_wp2
    go_ret
    exact ⟨by first | rfl | (simp; omega), rfl⟩
theorem begun_bad (H : HAt w h q V T) (t : Int) (ht : ¬ (0 ≤ t ∧ t < 64)) : Calls Try.prog 62 #[.pointer (some ⟨h, 0, none⟩), .int .i64 t] w fun e w' => e = .returned (.tuple #[.pointer none, .int .i64 1]) ∧ w = w' := by
  have HN := Lib.hid (none_ok H)
  have HF := frame_ok t
  rw [decide_eq_false ht] at HF
  have HF' := Lib.hid HF
  clear HF ht H
  go_enter Try.func62, Try.ntmps62
  go_wp2_with (first
    | (go_at_call 60; refine Calls.mono HN.out ?_; rintro e w1 ⟨rfl, rfl⟩)
    | (go_at_call 61; refine Calls.mono (HF'.out _) ?_; rintro e w1 ⟨rfl, rfl⟩))
  go_ret2
  exact ⟨rfl, rfl⟩
theorem begun_off (H : HAt w h q V T) (t : Nat) (ht : t < 64) (ho : (T t).on = false) : Calls Try.prog 62 #[.pointer (some ⟨h, 0, none⟩), .int .i64 t] w fun e w' => e = .returned (.tuple #[.pointer none, .int .i64 3]) ∧ w = w' := by
  have HN := Lib.hid (none_ok H)
  have HF := frame_ok t
  rw [decide_eq_true (by omega)] at HF
  have HF' := Lib.hid HF
  obtain ⟨c0, c1, c2, c3⟩ := H.cells ht
  rw [ho] at c2
  have hti : (t : Int) < 64 := by omega
  clear HF H ho c1 c3
  go_enter Try.func62, Try.ntmps62
  go_wp2_with (first
    | (go_at_call 60; refine Calls.mono HN.out ?_; rintro e w1 ⟨rfl, rfl⟩)
    | (go_at_call 61; refine Calls.mono (HF'.out _) ?_; rintro e w1 ⟨rfl, rfl⟩))
  go_ret2
  exact ⟨rfl, rfl⟩
theorem begun_on (H : HAt w h q V T) (t : Nat) (ht : t < 64) (ho : (T t).on = true) : Calls Try.prog 62 #[.pointer (some ⟨h, 0, none⟩), .int .i64 t] w fun e w' => e = .returned (.tuple #[.pointer (some ⟨q, t * 3, none⟩), .int .i64 0]) ∧ w = w' := by
  have HN := Lib.hid (none_ok H)
  have HF := frame_ok t
  rw [decide_eq_true (by omega)] at HF
  have HF' := Lib.hid HF
  obtain ⟨c0, c1, c2, c3⟩ := H.cells ht
  rw [ho] at c2
  have hti : (t : Int) < 64 := by omega
  clear HF H ho c1 c3
  go_enter Try.func62, Try.ntmps62
  go_wp2_with (first
    | (go_at_call 60; refine Calls.mono HN.out ?_; rintro e w1 ⟨rfl, rfl⟩)
    | (go_at_call 61; refine Calls.mono (HF'.out _) ?_; rintro e w1 ⟨rfl, rfl⟩))
  go_ret2
  exact ⟨rfl, rfl⟩
end
end Go.Proofs.Ytbjiecpkalcfeaa.Hist
