/- TlbZero's walk. -/
import Derived.Test.YtldkaabnoljbkaaProg
import Derived.Test.YtldkaabnoljbkaaHeap
import Derived.WalkKit
import Derived.OwnWalk
namespace Go.Proofs.Ytldkaabnoljbkaa.TlbZero
open Go Go.RowKit Go.Proofs.Ytldkaabnoljbkaa Go.Proofs.Ytldkaabnoljbkaa.Heap

set_option maxRecDepth 100000 in
set_option maxHeartbeats 4000000 in
theorem get_nil (k0 k1 : Int) (w : World) : Calls Try.prog 23 #[.pointer none, .agg #[.int .i64 k0, .int .i64 k1]] w fun e w' => e = .returned (.tuple #[.agg #[.bool false, .int .i64 0, .int .i64 0, .int .i64 0], .bool false]) ∧ Chg [] w w' := by
  obtain ⟨b, eb⟩ : ∃ b, w.heap.size = b := ⟨_, rfl⟩
  have B : Blk ((w.alloc (.cells #[.int .i64 k0, .int .i64 k1] 49)).alloc (.cells #[.bool false, .int .i64 0, .int .i64 0, .int .i64 0] 43)) (b + 1) 43 #[.bool false, .int .i64 0, .int .i64 0, .int .i64 0] := Blk.new' _ _ _ (by simp; omega)
  have q0 := B.cell 0
  have q1 := B.cell 1
  have q2 := B.cell 2
  have q3 := B.cell 3
  simp only [List.getElem?_toArray, List.getElem?_cons_zero, List.getElem?_cons_succ] at q0 q1 q2 q3
  clear B
  go_enter Try.func23, Try.ntmps23
  go_wp2
  refine ⟨rfl, .tuple #[.agg #[.bool false, .int .i64 0, .int .i64 0, .int .i64 0], .bool false], ?_, rfl, ((Chg.refl [] w).alloc _).alloc _⟩
  simp [results, go_sem, q0, q1, q2, q3]

theorem map_nil (W : World) : (binOp .eql 58 (.map none) (.map none)).run Try.prog W = .ok (.bool true) W := by kernel_rfl

set_option maxRecDepth 100000 in
set_option maxHeartbeats 4000000 in
theorem put_nil (k0 k1 : Int) (on : Bool) (f r t : Int) (w : World) : Calls Try.prog 22 #[.pointer none, .agg #[.int .i64 k0, .int .i64 k1], .agg #[.bool on, .int .i64 f, .int .i64 r, .int .i64 t]] w fun e w' => e = .returned (.int .i64 13) ∧ Chg [] w w' := by
  have hq := map_nil
  go_enter Try.func22, Try.ntmps22
  go_wp2
  go_ret
  exact ⟨rfl, ((Chg.refl [] w).alloc _).alloc _⟩
set_option maxRecDepth 100000 in
set_option maxHeartbeats 4000000 in
theorem put_zero (g : Nat) (k0 k1 : Int) (on : Bool) (f r t : Int) (w : World) (B : Blk w g 60 #[.map none, .slice none 0 0, .int .i64 0]) : Calls Try.prog 22 #[.pointer (some ⟨g, 0, none⟩), .agg #[.int .i64 k0, .int .i64 k1], .agg #[.bool on, .int .i64 f, .int .i64 r, .int .i64 t]] w fun e w' => e = .returned (.int .i64 13) ∧ Chg [] w w' := by
  have c : ∀ o o', ((w.alloc o).alloc o').cell? ⟨g, 0, none⟩ = some (.map none) := fun o o' => ((B.alloc o).alloc o').cell 0
  have hq := map_nil
  go_enter Try.func22, Try.ntmps22
  go_wp2
  go_ret
  exact ⟨rfl, ((Chg.refl [] w).alloc _).alloc _⟩

set_option maxRecDepth 100000 in
set_option maxHeartbeats 4000000 in
theorem tlbZero_walk (k0 k1 : Int) (on : Bool) (f r t : Int) (w : World) : Calls Try.prog 8 #[.agg #[.int .i64 k0, .int .i64 k1], .agg #[.bool on, .int .i64 f, .int .i64 r, .int .i64 t]] w fun e w' => e = .returned (.bool true) ∧ Chg [] w w' := by
  obtain ⟨b, eb⟩ : ∃ b, w.heap.size = b := ⟨_, rfl⟩
  have B1 := ((Blk.new' w 49 #[.int .i64 k0, .int .i64 k1] eb).alloc (.cells #[.bool on, .int .i64 f, .int .i64 r, .int .i64 t] 43)).alloc (.cells #[.map none, .slice none 0 0, .int .i64 0] 60)
  have B2 := (Blk.new' (g := b + 1) (w.alloc (.cells #[.int .i64 k0, .int .i64 k1] 49)) 43 #[.bool on, .int .i64 f, .int .i64 r, .int .i64 t] (by simp; omega)).alloc (.cells #[.map none, .slice none 0 0, .int .i64 0] 60)
  have B3 := Blk.new' (g := b + 1 + 1) ((w.alloc (.cells #[.int .i64 k0, .int .i64 k1] 49)).alloc (.cells #[.bool on, .int .i64 f, .int .i64 r, .int .i64 t] 43)) 60 #[.map none, .slice none 0 0, .int .i64 0] (by simp; omega)
  have K := (((Chg.refl [] w).alloc (.cells #[.int .i64 k0, .int .i64 k1] 49)).alloc (.cells #[.bool on, .int .i64 f, .int .i64 r, .int .i64 t] 43)).alloc (.cells #[.map none, .slice none 0 0, .int .i64 0] 60)
  have hq := map_nil
  go_enter Try.func8, Try.ntmps8
  go_wp2_with fail
  refine Calls.mono (get_nil k0 k1 _) ?_
  rintro e w1 ⟨rfl, k⟩
  replace B1 := B1.chg k (by simp)
  replace B2 := B2.chg k (by simp)
  replace B3 := B3.chg k (by simp)
  replace K := (K.trans k (by simp))
  obtain ⟨x, ex⟩ : ∃ x, w1.heap.size = x := ⟨_, rfl⟩
  have X := Blk.new' w1 43 #[.bool false, .int .i64 0, .int .i64 0, .int .i64 0] ex
  replace B1 := B1.alloc (.cells #[.bool false, .int .i64 0, .int .i64 0, .int .i64 0] 43)
  replace B2 := B2.alloc (.cells #[.bool false, .int .i64 0, .int .i64 0, .int .i64 0] 43)
  replace B3 := B3.alloc (.cells #[.bool false, .int .i64 0, .int .i64 0, .int .i64 0] 43)
  replace K := K.alloc (.cells #[.bool false, .int .i64 0, .int .i64 0, .int .i64 0] 43)
  clear k
  have c0 := B1.cell 0
  have c1 := B1.cell 1
  have d0 := B2.cell 0
  have d1 := B2.cell 1
  have d2 := B2.cell 2
  have d3 := B2.cell 3
  simp only [List.getElem?_toArray, List.getElem?_cons_zero, List.getElem?_cons_succ] at c0 c1 d0 d1 d2 d3
  go_wp2_with fail
  refine Calls.mono (put_nil k0 k1 on f r t _) ?_
  rintro e w2 ⟨rfl, k⟩
  replace B1 := B1.chg k (by simp)
  replace B2 := B2.chg k (by simp)
  replace B3 := B3.chg k (by simp)
  replace X := X.chg k (by simp)
  replace K := K.trans k (by simp)
  clear k c0 c1 d0 d1 d2 d3
  have c0 := B1.cell 0
  have c1 := B1.cell 1
  have d0 := B2.cell 0
  have d1 := B2.cell 1
  have d2 := B2.cell 2
  have d3 := B2.cell 3
  simp only [List.getElem?_toArray, List.getElem?_cons_zero, List.getElem?_cons_succ] at c0 c1 d0 d1 d2 d3
  go_wp2_with fail
  refine Calls.mono (put_zero _ k0 k1 on f r t _ B3) ?_
  rintro e w3 ⟨rfl, k⟩
  replace B3 := B3.chg k (by simp)
  replace X := X.chg k (by simp)
  replace K := K.trans k (by simp)
  clear k c0 c1 d0 d1 d2 d3 B1 B2
  have x0 := X.cell 0
  have x1 := X.cell 1
  have x2 := X.cell 2
  have x3 := X.cell 3
  have u0 := B3.cell 0
  have u1 := B3.cell 1
  have u2 := B3.cell 2
  simp only [List.getElem?_toArray, List.getElem?_cons_zero, List.getElem?_cons_succ] at x0 x1 x2 x3 u0 u1 u2
  go_wp2
  go_ret
  exact ⟨by first | rfl | simp, K⟩
end Go.Proofs.Ytldkaabnoljbkaa.TlbZero
