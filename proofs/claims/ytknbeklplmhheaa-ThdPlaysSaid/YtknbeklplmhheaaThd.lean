/- Package thd: a thread's numbers: of, thread, most, right, lay, read, is. -/
import Derived.Test.YtknbeklplmhheaaLay
import Derived.Test.YtknbeklplmhheaaBits
namespace Go.Proofs.Ytknbeklplmhheaa.Thd
open Go Go.RowKit Go.Proofs.Ytknbeklplmhheaa Go.Proofs.Ytknbeklplmhheaa.Heap Go.Proofs.Ytknbeklplmhheaa.Mem Go.Proofs.Ytknbeklplmhheaa.Two Go.Proofs.Ytknbeklplmhheaa.Head Go.Proofs.Ytknbeklplmhheaa.HeadPut Go.Proofs.Ytknbeklplmhheaa.HeadIs Go.Proofs.Ytknbeklplmhheaa.Lay

abbrev numV (a b c d e : Int) : Value := .agg #[.int .i64 a, .int .i64 b, .int .i64 c, .int .i64 d, .int .i64 e]
abbrev numC (a b c d e : Int) : Array Value := #[.int .i64 a, .int .i64 b, .int .i64 c, .int .i64 d, .int .i64 e]
theorem blk5 {w : World} {g t : Nat} {a b c d e : Value} (h : Blk w g t #[a, b, c, d, e]) : w.cell? ⟨g, 0, none⟩ = some a ∧ w.cell? ⟨g, 1, none⟩ = some b ∧ w.cell? ⟨g, 2, none⟩ = some c ∧ w.cell? ⟨g, 3, none⟩ = some d ∧ w.cell? ⟨g, 4, none⟩ = some e := ⟨h.cell 0, h.cell 1, h.cell 2, h.cell 3, h.cell 4⟩
def wr5 (W : World) (d : Nat) (x0 x1 x2 x3 x4 : Value) : World := ((((W.setCell ⟨d, 0, none⟩ x0).setCell ⟨d, 1, none⟩ x1).setCell ⟨d, 2, none⟩ x2).setCell ⟨d, 3, none⟩ x3).setCell ⟨d, 4, none⟩ x4
theorem wr5_blk {W : World} {d t : Nat} {a0 a1 a2 a3 a4 : Value} (D : Blk W d t #[a0, a1, a2, a3, a4]) (x0 x1 x2 x3 x4 : Value) : Blk (wr5 W d x0 x1 x2 x3 x4) d t #[x0, x1, x2, x3, x4] := ((((D.set_ 0 x0).set_ 1 x1).set_ 2 x2).set_ 3 x3).set_ 4 x4
theorem wr5_far {W : World} {d c t : Nat} {cs : Array Value} (D : Blk W c t cs) (hd : c ≠ d) (x0 x1 x2 x3 x4 : Value) : Blk (wr5 W d x0 x1 x2 x3 x4) c t cs := ((((D.far (p := ⟨d, 0, none⟩) hd x0).far (p := ⟨d, 1, none⟩) hd x1).far (p := ⟨d, 2, none⟩) hd x2).far (p := ⟨d, 3, none⟩) hd x3).far (p := ⟨d, 4, none⟩) hd x4
theorem wr5_chg {w W : World} {d : Nat} (k : Chg [] w W) (hd : w.heap.size ≤ d) (x0 x1 x2 x3 x4 : Value) : Chg [] w (wr5 W d x0 x1 x2 x3 x4) := ((((k.setCell (.inr hd) x0).setCell (.inr hd) x1).setCell (.inr hd) x2).setCell (.inr hd) x3).setCell (.inr hd) x4
def rightT (a b c d e : Int) : Bool := decide ((0 ≤ a ∧ a ≤ 3) ∧ (0 ≤ b ∧ b ≤ 3) ∧ (0 ≤ c ∧ c ≤ 63) ∧ (0 ≤ d ∧ d ≤ 64) ∧ (0 ≤ e ∧ e ≤ 6))
set_option maxRecDepth 100000
set_option maxHeartbeats 2000000
theorem ix0 (a b c d e : Value) (w : World) : (Instr.index 113 (.agg #[a, b, c, d, e]) (.int .i64 0)).run Try.prog w = .ok a w := by kernel_rfl
theorem ix1 (a b c d e : Value) (w : World) : (Instr.index 113 (.agg #[a, b, c, d, e]) (.int .i64 1)).run Try.prog w = .ok b w := by kernel_rfl
theorem ix2 (a b c d e : Value) (w : World) : (Instr.index 113 (.agg #[a, b, c, d, e]) (.int .i64 2)).run Try.prog w = .ok c w := by kernel_rfl
theorem ix3 (a b c d e : Value) (w : World) : (Instr.index 113 (.agg #[a, b, c, d, e]) (.int .i64 3)).run Try.prog w = .ok d w := by kernel_rfl
theorem ix4 (a b c d e : Value) (w : World) : (Instr.index 113 (.agg #[a, b, c, d, e]) (.int .i64 4)).run Try.prog w = .ok e w := by kernel_rfl
theorem most_ok (w : World) : Calls Try.prog 103 #[] w fun e w' => e = .returned (numV 3 3 63 64 6) ∧ Chg [] w w' := by
  obtain ⟨q, eq⟩ : ∃ q, w.heap.size = q := ⟨_, rfl⟩
  have Q := Blk.new' w 113 (numC 3 3 63 64 6) eq
  obtain ⟨q0, q1, q2, q3, q4⟩ := blk5 Q
  go_enter Try.func103, Try.ntmps103
  go_wp2
  refine ⟨rfl, numV 3 3 63 64 6, ?_, rfl, (Chg.refl [] w).alloc _⟩
  simp [results, go_sem, q0, q1, q2, q3, q4]
theorem of_ok (a b c d e : Int) (w : World) : Calls Try.prog 64 #[numV a b c d e] w fun x w' => x = .returned (numV a b c d e) ∧ Chg [] w w' := by
  obtain ⟨p, ep⟩ : ∃ p, w.heap.size = p := ⟨_, rfl⟩
  have P := Blk.new' w 43 (numC a b c d e) ep
  obtain ⟨q, eq⟩ : ∃ q, (w.alloc (.cells (numC a b c d e) 43)).heap.size = q := ⟨_, rfl⟩
  have Q := Blk.new' (w.alloc (.cells (numC a b c d e) 43)) 113 (numC a b c d e) eq
  obtain ⟨q0, q1, q2, q3, q4⟩ := blk5 Q
  have hP := fun o => P.alloc o
  have p0 := fun o => (hP o).cell 0
  have p1 := fun o => (hP o).cell 1
  have p2 := fun o => (hP o).cell 2
  have p3 := fun o => (hP o).cell 3
  have p4 := fun o => (hP o).cell 4
  go_enter Try.func64, Try.ntmps64
  go_wp2
  refine ⟨rfl, numV a b c d e, ?_, rfl, ((Chg.refl [] w).alloc _).alloc _⟩
  simp [results, go_sem, q0, q1, q2, q3, q4]
theorem thread_ok (a b c d e : Int) (w : World) : Calls Try.prog 90 #[numV a b c d e] w fun x w' => x = .returned (numV a b c d e) ∧ Chg [] w w' := by
  obtain ⟨p, ep⟩ : ∃ p, w.heap.size = p := ⟨_, rfl⟩
  have P := Blk.new' w 113 (numC a b c d e) ep
  obtain ⟨q, eq⟩ : ∃ q, (w.alloc (.cells (numC a b c d e) 113)).heap.size = q := ⟨_, rfl⟩
  have Q := Blk.new' (w.alloc (.cells (numC a b c d e) 113)) 43 (numC a b c d e) eq
  obtain ⟨q0, q1, q2, q3, q4⟩ := blk5 Q
  have hP := fun o => P.alloc o
  have p0 := fun o => (hP o).cell 0
  have p1 := fun o => (hP o).cell 1
  have p2 := fun o => (hP o).cell 2
  have p3 := fun o => (hP o).cell 3
  have p4 := fun o => (hP o).cell 4
  go_enter Try.func90, Try.ntmps90
  go_wp2
  refine ⟨rfl, numV a b c d e, ?_, rfl, ((Chg.refl [] w).alloc _).alloc _⟩
  simp [results, go_sem, q0, q1, q2, q3, q4]
theorem right_ok (a b c d e : Int) (w : World) : Calls Try.prog 65 #[numV a b c d e] w fun x w' => x = .returned (.bool (rightT a b c d e)) ∧ Chg [] w w' := by
  obtain ⟨p, ep⟩ : ∃ p, w.heap.size = p := ⟨_, rfl⟩
  have P := Blk.new' w 113 (numC a b c d e) ep
  have K := (Chg.refl [] w).alloc (.cells (numC a b c d e) 113)
  go_enter Try.func65, Try.ntmps65
  go_wp2_with fail
  refine Calls.mono (most_ok _) ?_
  rintro x w1 ⟨rfl, k1⟩
  replace P := P.chg k1 (by simp)
  replace K := K.trans k1 (by simp)
  have HR : ∀ (_ : rightT a b c d e = false), Hid (rightT a b c d e = false) := fun h => h
  go_wp2_with fail
  go_loopw [6] (fun i wr => ∃ j : Nat, i = .int .i64 j ∧ j ≤ 5 ∧ Hid (Blk wr p 113 (numC a b c d e) ∧ Chg [] w wr) ∧ Hid ((0 < j → 0 ≤ a ∧ a ≤ 3) ∧ (1 < j → 0 ≤ b ∧ b ≤ 3) ∧ (2 < j → 0 ≤ c ∧ c ≤ 63) ∧ (3 < j → 0 ≤ d ∧ d ≤ 64) ∧ (4 < j → 0 ≤ e ∧ e ≤ 6))) (fun i _ => 5 - (intOf i).toNat)
  case atStart => exact ⟨0, rfl, by decide, ⟨P, K⟩, Lib.hid (by simp)⟩
  case round =>
    clear P K
    obtain ⟨j, rfl, hj, HPK, HF⟩ := hrel
    obtain ⟨P, K⟩ := HPK.out
    obtain ⟨p0, p1, p2, p3, p4⟩ := blk5 P
    clear P
    rcases (by omega : j = 5 ∨ j = 0 ∨ j = 1 ∨ j = 2 ∨ j = 3 ∨ j = 4) with rfl | rfl | rfl | rfl | rfl | rfl
    · have hr : rightT a b c d e = true := by
        obtain ⟨h0, h1, h2, h3, h4⟩ := HF.out
        exact decide_eq_true ⟨h0 (by decide), h1 (by decide), h2 (by decide), h3 (by decide), h4 (by decide)⟩
      have hr' := Lib.hid hr
      clear HR hr HF
      go_wp2
      go_ret
      exact ⟨by rw [hr'.out]; rfl, K⟩
    · have J := fun (w : World) => ix0 (.int .i64 3) (.int .i64 3) (.int .i64 63) (.int .i64 64) (.int .i64 6) w
      by_cases h1 : a < 0
      · have hr' := Lib.hid (show rightT a b c d e = false from decide_eq_false (by omega))
        clear HF HR
        go_wp2
        go_ret
        exact ⟨by rw [hr'.out]; rfl, K⟩
      · have h1b : decide (a < 0) = false := decide_eq_false h1
        by_cases h2 : 3 < a
        · have hr' := Lib.hid (show rightT a b c d e = false from decide_eq_false (by omega))
          clear HF HR
          go_wp2
          go_ret
          exact ⟨by rw [hr'.out]; rfl, K⟩
        · have HF2 : Hid ((0 < 1 → 0 ≤ a ∧ a ≤ 3) ∧ (1 < 1 → 0 ≤ b ∧ b ≤ 3) ∧ (2 < 1 → 0 ≤ c ∧ c ≤ 63) ∧ (3 < 1 → 0 ≤ d ∧ d ≤ 64) ∧ (4 < 1 → 0 ≤ e ∧ e ≤ 6)) := by
            have := HF.out
            refine ⟨?_, ?_, ?_, ?_, ?_⟩ <;> omega
          clear HF HR
          go_wp2
          go_roundw
          case rel => exact ⟨1, by go_num, by decide, HPK, HF2⟩
          case measure => simp [intOf]
    · have J := fun (w : World) => ix1 (.int .i64 3) (.int .i64 3) (.int .i64 63) (.int .i64 64) (.int .i64 6) w
      by_cases h1 : b < 0
      · have hr' := Lib.hid (show rightT a b c d e = false from decide_eq_false (by omega))
        clear HF HR
        go_wp2
        go_ret
        exact ⟨by rw [hr'.out]; rfl, K⟩
      · have h1b : decide (b < 0) = false := decide_eq_false h1
        by_cases h2 : 3 < b
        · have hr' := Lib.hid (show rightT a b c d e = false from decide_eq_false (by omega))
          clear HF HR
          go_wp2
          go_ret
          exact ⟨by rw [hr'.out]; rfl, K⟩
        · have HF2 : Hid ((0 < 2 → 0 ≤ a ∧ a ≤ 3) ∧ (1 < 2 → 0 ≤ b ∧ b ≤ 3) ∧ (2 < 2 → 0 ≤ c ∧ c ≤ 63) ∧ (3 < 2 → 0 ≤ d ∧ d ≤ 64) ∧ (4 < 2 → 0 ≤ e ∧ e ≤ 6)) := by
            have := HF.out
            refine ⟨?_, ?_, ?_, ?_, ?_⟩ <;> omega
          clear HF HR
          go_wp2
          go_roundw
          case rel => exact ⟨2, by go_num, by decide, HPK, HF2⟩
          case measure => simp [intOf]
    · have J := fun (w : World) => ix2 (.int .i64 3) (.int .i64 3) (.int .i64 63) (.int .i64 64) (.int .i64 6) w
      by_cases h1 : c < 0
      · have hr' := Lib.hid (show rightT a b c d e = false from decide_eq_false (by omega))
        clear HF HR
        go_wp2
        go_ret
        exact ⟨by rw [hr'.out]; rfl, K⟩
      · have h1b : decide (c < 0) = false := decide_eq_false h1
        by_cases h2 : 63 < c
        · have hr' := Lib.hid (show rightT a b c d e = false from decide_eq_false (by omega))
          clear HF HR
          go_wp2
          go_ret
          exact ⟨by rw [hr'.out]; rfl, K⟩
        · have HF2 : Hid ((0 < 3 → 0 ≤ a ∧ a ≤ 3) ∧ (1 < 3 → 0 ≤ b ∧ b ≤ 3) ∧ (2 < 3 → 0 ≤ c ∧ c ≤ 63) ∧ (3 < 3 → 0 ≤ d ∧ d ≤ 64) ∧ (4 < 3 → 0 ≤ e ∧ e ≤ 6)) := by
            have := HF.out
            refine ⟨?_, ?_, ?_, ?_, ?_⟩ <;> omega
          clear HF HR
          go_wp2
          go_roundw
          case rel => exact ⟨3, by go_num, by decide, HPK, HF2⟩
          case measure => simp [intOf]
    · have J := fun (w : World) => ix3 (.int .i64 3) (.int .i64 3) (.int .i64 63) (.int .i64 64) (.int .i64 6) w
      by_cases h1 : d < 0
      · have hr' := Lib.hid (show rightT a b c d e = false from decide_eq_false (by omega))
        clear HF HR
        go_wp2
        go_ret
        exact ⟨by rw [hr'.out]; rfl, K⟩
      · have h1b : decide (d < 0) = false := decide_eq_false h1
        by_cases h2 : 64 < d
        · have hr' := Lib.hid (show rightT a b c d e = false from decide_eq_false (by omega))
          clear HF HR
          go_wp2
          go_ret
          exact ⟨by rw [hr'.out]; rfl, K⟩
        · have HF2 : Hid ((0 < 4 → 0 ≤ a ∧ a ≤ 3) ∧ (1 < 4 → 0 ≤ b ∧ b ≤ 3) ∧ (2 < 4 → 0 ≤ c ∧ c ≤ 63) ∧ (3 < 4 → 0 ≤ d ∧ d ≤ 64) ∧ (4 < 4 → 0 ≤ e ∧ e ≤ 6)) := by
            have := HF.out
            refine ⟨?_, ?_, ?_, ?_, ?_⟩ <;> omega
          clear HF HR
          go_wp2
          go_roundw
          case rel => exact ⟨4, by go_num, by decide, HPK, HF2⟩
          case measure => simp [intOf]
    · have J := fun (w : World) => ix4 (.int .i64 3) (.int .i64 3) (.int .i64 63) (.int .i64 64) (.int .i64 6) w
      by_cases h1 : e < 0
      · have hr' := Lib.hid (show rightT a b c d e = false from decide_eq_false (by omega))
        clear HF HR
        go_wp2
        go_ret
        exact ⟨by rw [hr'.out]; rfl, K⟩
      · have h1b : decide (e < 0) = false := decide_eq_false h1
        by_cases h2 : 6 < e
        · have hr' := Lib.hid (show rightT a b c d e = false from decide_eq_false (by omega))
          clear HF HR
          go_wp2
          go_ret
          exact ⟨by rw [hr'.out]; rfl, K⟩
        · have HF2 : Hid ((0 < 5 → 0 ≤ a ∧ a ≤ 3) ∧ (1 < 5 → 0 ≤ b ∧ b ≤ 3) ∧ (2 < 5 → 0 ≤ c ∧ c ≤ 63) ∧ (3 < 5 → 0 ≤ d ∧ d ≤ 64) ∧ (4 < 5 → 0 ≤ e ∧ e ≤ 6)) := by
            have := HF.out
            refine ⟨?_, ?_, ?_, ?_, ?_⟩ <;> omega
          clear HF HR
          go_wp2
          go_roundw
          case rel => exact ⟨5, by go_num, by decide, HPK, HF2⟩
          case measure => simp [intOf]
theorem layV_ok {w : World} {p g n : Nat} {L : List Int} (h : MemAt w p g n L) {f : Int} (hf : 0 ≤ f ∧ f < n) (a b c d e : Int) (ha : 0 ≤ a ∧ a < 4611686018427387904) (hb : 0 ≤ b ∧ b < 4611686018427387904) (hc : 0 ≤ c ∧ c < 4611686018427387904) (hd : 0 ≤ d ∧ d < 4611686018427387904) (he : 0 ≤ e ∧ e < 4611686018427387904) :
    Calls Try.prog 63 #[numV a b c d e, .pointer (some ⟨p, 0, none⟩), .int .i64 f] w fun x w' => x = .returned (.int .i64 0) ∧ MemAt w' p g n (layL n L f 4 [a, b, c, d, e]) ∧ Chg [g] w w' := by
  obtain ⟨q, eq⟩ : ∃ q, w.heap.size = q := ⟨_, rfl⟩
  have Q := Blk.new' w 113 (numC a b c d e) eq
  obtain ⟨q0, q1, q2, q3, q4⟩ := blk5 Q
  have K := (Chg.refl [g] w).alloc (.cells (numC a b c d e) 113)
  have M := h.alloc (.cells (numC a b c d e) 113)
  have ua : IntKind.u64.wrap a = a := by rw [IntKind.wrap_u64]; omega
  have ub : IntKind.u64.wrap b = b := by rw [IntKind.wrap_u64]; omega
  have uc : IntKind.u64.wrap c = c := by rw [IntKind.wrap_u64]; omega
  have ud : IntKind.u64.wrap d = d := by rw [IntKind.wrap_u64]; omega
  have ue : IntKind.u64.wrap e = e := by rw [IntKind.wrap_u64]; omega
  have e0 : canE n f 4 = 0 := canE_ok ⟨hf.1, hf.2, by decide, by decide⟩
  have e1 : canE n f 5 = 0 := canE_ok ⟨hf.1, hf.2, by decide, by decide⟩
  have e2 : canE n f 6 = 0 := canE_ok ⟨hf.1, hf.2, by decide, by decide⟩
  have e3 : canE n f 7 = 0 := canE_ok ⟨hf.1, hf.2, by decide, by decide⟩
  have e4 : canE n f 8 = 0 := canE_ok ⟨hf.1, hf.2, by decide, by decide⟩
  clear h Q ha hb hc hd he hf
  go_enter Try.func63, Try.ntmps63
  go_wp2_with fail
  go_loopw [11] (fun i wr => ∃ j : Nat, i = .int .i64 j ∧ j ≤ 5 ∧ Hid (MemAt wr p g n (layL n L f 4 ([a, b, c, d, e].take j)) ∧ Chg [g] w wr)) (fun i _ => 5 - (intOf i).toNat)
  case atStart => exact ⟨0, rfl, by decide, M, K⟩
  case round =>
    clear M K
    obtain ⟨j, rfl, hj, H⟩ := hrel
    obtain ⟨M, K⟩ := H.out
    clear H
    rcases (by omega : j = 5 ∨ j = 0 ∨ j = 1 ∨ j = 2 ∨ j = 3 ∨ j = 4) with rfl | rfl | rfl | rfl | rfl | rfl
    · go_wp2
      go_ret
      exact ⟨rfl, M, K⟩
    · have J := fun (w : World) => ix0 (.int .i64 a) (.int .i64 b) (.int .i64 c) (.int .i64 d) (.int .i64 e) w
      have HS := Mem.store_ok M f 4 a
      rw [e0] at HS
      have HS' := Lib.hid HS
      clear HS M
      go_wp2_with (go_at_call 70; refine Calls.mono HS'.out ?_; rintro x w2 ⟨rfl, M2, k2⟩)
      clear HS'
      go_roundw
      case rel => exact ⟨1, by go_num, by decide, M2, K.trans k2 (by simp)⟩
      case measure => simp [intOf]
    · have J := fun (w : World) => ix1 (.int .i64 a) (.int .i64 b) (.int .i64 c) (.int .i64 d) (.int .i64 e) w
      have HS := Mem.store_ok M f 5 b
      rw [e1] at HS
      have HS' := Lib.hid HS
      clear HS M
      go_wp2_with (go_at_call 70; refine Calls.mono HS'.out ?_; rintro x w2 ⟨rfl, M2, k2⟩)
      clear HS'
      go_roundw
      case rel => exact ⟨2, by go_num, by decide, M2, K.trans k2 (by simp)⟩
      case measure => simp [intOf]
    · have J := fun (w : World) => ix2 (.int .i64 a) (.int .i64 b) (.int .i64 c) (.int .i64 d) (.int .i64 e) w
      have HS := Mem.store_ok M f 6 c
      rw [e2] at HS
      have HS' := Lib.hid HS
      clear HS M
      go_wp2_with (go_at_call 70; refine Calls.mono HS'.out ?_; rintro x w2 ⟨rfl, M2, k2⟩)
      clear HS'
      go_roundw
      case rel => exact ⟨3, by go_num, by decide, M2, K.trans k2 (by simp)⟩
      case measure => simp [intOf]
    · have J := fun (w : World) => ix3 (.int .i64 a) (.int .i64 b) (.int .i64 c) (.int .i64 d) (.int .i64 e) w
      have HS := Mem.store_ok M f 7 d
      rw [e3] at HS
      have HS' := Lib.hid HS
      clear HS M
      go_wp2_with (go_at_call 70; refine Calls.mono HS'.out ?_; rintro x w2 ⟨rfl, M2, k2⟩)
      clear HS'
      go_roundw
      case rel => exact ⟨4, by go_num, by decide, M2, K.trans k2 (by simp)⟩
      case measure => simp [intOf]
    · have J := fun (w : World) => ix4 (.int .i64 a) (.int .i64 b) (.int .i64 c) (.int .i64 d) (.int .i64 e) w
      have HS := Mem.store_ok M f 8 e
      rw [e4] at HS
      have HS' := Lib.hid HS
      clear HS M
      go_wp2_with (go_at_call 70; refine Calls.mono HS'.out ?_; rintro x w2 ⟨rfl, M2, k2⟩)
      clear HS'
      go_roundw
      case rel => exact ⟨5, by go_num, by decide, M2, K.trans k2 (by simp)⟩
      case measure => simp [intOf]
/-- The words of a frame's numbers are not too great. -/
def rdT (n : Nat) (L : List Int) (f : Int) : Prop := ldV n L f 4 ≤ 3 ∧ ldV n L f 5 ≤ 3 ∧ ldV n L f 6 ≤ 63 ∧ ldV n L f 7 ≤ 64 ∧ ldV n L f 8 ≤ 6
theorem read_ok {w : World} {p g n : Nat} {L : List Int} (h : MemAt w p g n L) (hu : U64 L) {f : Int} (hf : 0 ≤ f ∧ f < n) :
    Calls Try.prog 89 #[.pointer (some ⟨p, 0, none⟩), .int .i64 f] w fun x w' => ((rdT n L f ∧ x = .returned (.tuple #[numV (ldV n L f 4) (ldV n L f 5) (ldV n L f 6) (ldV n L f 7) (ldV n L f 8), .bool true])) ∨ (¬ rdT n L f ∧ x = .returned (.tuple #[numV 0 0 0 0 0, .bool false]))) ∧ Chg [] w w' := by
  unfold rdT
  have e0 : canE n f 4 = 0 := canE_ok ⟨hf.1, hf.2, by decide, by decide⟩
  have R0 := fun (W : World) (q : MemAt W p g n L) => Mem.load_ok q f 4
  have b0 := hu.ld (n := n) f 4
  rw [e0] at R0
  generalize ldV n L f 4 = a at *
  have e1 : canE n f 5 = 0 := canE_ok ⟨hf.1, hf.2, by decide, by decide⟩
  have R1 := fun (W : World) (q : MemAt W p g n L) => Mem.load_ok q f 5
  have b1 := hu.ld (n := n) f 5
  rw [e1] at R1
  generalize ldV n L f 5 = b at *
  have e2 : canE n f 6 = 0 := canE_ok ⟨hf.1, hf.2, by decide, by decide⟩
  have R2 := fun (W : World) (q : MemAt W p g n L) => Mem.load_ok q f 6
  have b2 := hu.ld (n := n) f 6
  rw [e2] at R2
  generalize ldV n L f 6 = c at *
  have e3 : canE n f 7 = 0 := canE_ok ⟨hf.1, hf.2, by decide, by decide⟩
  have R3 := fun (W : World) (q : MemAt W p g n L) => Mem.load_ok q f 7
  have b3 := hu.ld (n := n) f 7
  rw [e3] at R3
  generalize ldV n L f 7 = d at *
  have e4 : canE n f 8 = 0 := canE_ok ⟨hf.1, hf.2, by decide, by decide⟩
  have R4 := fun (W : World) (q : MemAt W p g n L) => Mem.load_ok q f 8
  have b4 := hu.ld (n := n) f 8
  rw [e4] at R4
  generalize ldV n L f 8 = e at *
  have R0' := Lib.hid R0
  clear R0 e0
  have R1' := Lib.hid R1
  clear R1 e1
  have R2' := Lib.hid R2
  clear R2 e2
  have R3' := Lib.hid R3
  clear R3 e3
  have R4' := Lib.hid R4
  clear R4 e4
  have H := Lib.hid h
  clear h hu hf
  obtain ⟨q, eq⟩ : ∃ q, w.heap.size = q := ⟨_, rfl⟩
  have Q := Blk.new' w 113 (numC 0 0 0 0 0) eq
  have K := (Chg.refl [] w).alloc (.cells (numC 0 0 0 0 0) 113)
  obtain ⟨s, es⟩ : ∃ s, (w.alloc (.cells (numC 0 0 0 0 0) 113)).heap.size = s := ⟨_, rfl⟩
  have S := Blk.new' (w.alloc (.cells (numC 0 0 0 0 0) 113)) 113 (numC 0 0 0 0 0) es
  have hqs : q ≠ s := fun e => by rw [← es, ← eq] at e; simp at e
  replace Q := Q.alloc (.cells (numC 0 0 0 0 0) 113)
  replace K := K.alloc (.cells (numC 0 0 0 0 0) 113)
  have hsw : w.heap.size ≤ s := by rw [← es]; simp
  have hqw : w.heap.size ≤ q := by rw [← eq]; exact Nat.le_refl _
  go_enter Try.func89, Try.ntmps89
  go_wp2_with fail
  refine Calls.mono (most_ok _) ?_
  rintro x w1 ⟨rfl, k1⟩
  replace Q := Q.chg k1 (by simp)
  replace S := S.chg k1 (by simp)
  replace K := K.trans k1 (by simp)
  clear k1
  go_wp2_with fail
  go_loopw [12] (fun i wr => ∃ (j : Nat) (y0 y1 y2 y3 y4 : Int), i = .int .i64 j ∧ j ≤ 5 ∧ Hid (Blk wr q 113 (numC 0 0 0 0 0) ∧ Blk wr s 113 (numC y0 y1 y2 y3 y4) ∧ Chg [] w wr) ∧ Hid ((0 < j → y0 = a ∧ a ≤ 3) ∧ (1 < j → y1 = b ∧ b ≤ 3) ∧ (2 < j → y2 = c ∧ c ≤ 63) ∧ (3 < j → y3 = d ∧ d ≤ 64) ∧ (4 < j → y4 = e ∧ e ≤ 6))) (fun i _ => 5 - (intOf i).toNat)
  case atStart => exact ⟨0, 0, 0, 0, 0, 0, rfl, by decide, ⟨Q, S, K⟩, Lib.hid (by simp)⟩
  case round =>
    clear Q S K
    obtain ⟨j, y0, y1, y2, y3, y4, rfl, hj, H1, HF⟩ := hrel
    obtain ⟨Q, S, K⟩ := H1.out
    clear H1
    have M := H.out.chg0 K
    obtain ⟨q0, q1, q2, q3, q4⟩ := blk5 Q
    obtain ⟨s0, s1, s2, s3, s4⟩ := blk5 S
    have f0 := Q.frozen 0
    have f1 := Q.frozen 1
    have f2 := Q.frozen 2
    have f3 := Q.frozen 3
    have f4 := Q.frozen 4
    rcases (by omega : j = 5 ∨ j = 0 ∨ j = 1 ∨ j = 2 ∨ j = 3 ∨ j = 4) with rfl | rfl | rfl | rfl | rfl | rfl
    · have hr := HF.out
      obtain ⟨⟨rfl, h0⟩, ⟨rfl, h1⟩, ⟨rfl, h2⟩, ⟨rfl, h3⟩, ⟨rfl, h4⟩⟩ : (y0 = a ∧ a ≤ 3) ∧ (y1 = b ∧ b ≤ 3) ∧ (y2 = c ∧ c ≤ 63) ∧ (y3 = d ∧ d ≤ 64) ∧ (y4 = e ∧ e ≤ 6) := ⟨hr.1 (by decide), hr.2.1 (by decide), hr.2.2.1 (by decide), hr.2.2.2.1 (by decide), hr.2.2.2.2 (by decide)⟩
      clear hr HF
      have D := wr5_blk (d := q) Q (.int .i64 y0) (.int .i64 y1) (.int .i64 y2) (.int .i64 y3) (.int .i64 y4)
      have KK := wr5_chg (d := q) K hqw (.int .i64 y0) (.int .i64 y1) (.int .i64 y2) (.int .i64 y3) (.int .i64 y4)
      unfold wr5 at D KK
      obtain ⟨d0, d1, d2, d3, d4⟩ := blk5 D
      clear R0' R1' R2' R3' R4' H
      go_wp2
      refine ⟨rfl, .tuple #[numV y0 y1 y2 y3 y4, .bool true], ?_, Or.inl ⟨⟨h0, h1, h2, h3, h4⟩, rfl⟩, KK⟩
      simp [results, go_sem, d0, d1, d2, d3, d4]
    · have J := fun (w : World) => ix0 (.int .i64 3) (.int .i64 3) (.int .i64 63) (.int .i64 64) (.int .i64 6) w
      have RK := R0'
      clear R0' R1' R2' R3' R4'
      by_cases h1 : a ≤ 3
      · have hn : ¬ 3 < a := by omega
        have hw : IntKind.i64.wrap a = a := by rw [IntKind.wrap_i64]; omega
        have S2 : Blk _ s _ (numC a y1 y2 y3 y4) := S.set_ 0 (.int .i64 a)
        have Q2 := Q.far (p := ⟨s, 0, none⟩) hqs (.int .i64 a)
        have fk := S.frozen 0
        have K2 := K.setCell (p := ⟨s, 0, none⟩) (Or.inr hsw) (.int .i64 a)
        have HF2 : Hid ((0 < 1 → a = a ∧ a ≤ 3) ∧ (1 < 1 → y1 = b ∧ b ≤ 3) ∧ (2 < 1 → y2 = c ∧ c ≤ 63) ∧ (3 < 1 → y3 = d ∧ d ≤ 64) ∧ (4 < 1 → y4 = e ∧ e ≤ 6)) := by
          have := HF.out
          refine ⟨?_, ?_, ?_, ?_, ?_⟩ <;> omega
        clear HF H
        go_wp2_with (go_at_call 72; refine Calls.mono (RK.out _ M) ?_; rintro _ w2 ⟨rfl, rfl⟩)
        go_roundw
        case rel => exact ⟨1, a, y1, y2, y3, y4, by go_num, by decide, ⟨Q2, S2, K2⟩, Lib.hid (by simpa using HF2.out)⟩
        case measure => simp [intOf]
      · have hn : 3 < a := by omega
        have hx : ¬ (a ≤ 3 ∧ b ≤ 3 ∧ c ≤ 63 ∧ d ≤ 64 ∧ e ≤ 6) := by omega
        clear HF H
        go_wp2_with (go_at_call 72; refine Calls.mono (RK.out _ M) ?_; rintro _ w2 ⟨rfl, rfl⟩)
        have D := wr5_blk (d := q) Q (.int .i64 0) (.int .i64 0) (.int .i64 0) (.int .i64 0) (.int .i64 0)
        have KK := wr5_chg (d := q) K hqw (.int .i64 0) (.int .i64 0) (.int .i64 0) (.int .i64 0) (.int .i64 0)
        unfold wr5 at D KK
        obtain ⟨d0, d1, d2, d3, d4⟩ := blk5 D
        refine ⟨rfl, .tuple #[numV 0 0 0 0 0, .bool false], ?_, Or.inr ⟨hx, rfl⟩, KK⟩
        simp [results, go_sem, d0, d1, d2, d3, d4]
    · have J := fun (w : World) => ix1 (.int .i64 3) (.int .i64 3) (.int .i64 63) (.int .i64 64) (.int .i64 6) w
      have RK := R1'
      clear R0' R1' R2' R3' R4'
      by_cases h1 : b ≤ 3
      · have hn : ¬ 3 < b := by omega
        have hw : IntKind.i64.wrap b = b := by rw [IntKind.wrap_i64]; omega
        have S2 : Blk _ s _ (numC y0 b y2 y3 y4) := S.set_ 1 (.int .i64 b)
        have Q2 := Q.far (p := ⟨s, 1, none⟩) hqs (.int .i64 b)
        have fk := S.frozen 1
        have K2 := K.setCell (p := ⟨s, 1, none⟩) (Or.inr hsw) (.int .i64 b)
        have HF2 : Hid ((0 < 2 → y0 = a ∧ a ≤ 3) ∧ (1 < 2 → b = b ∧ b ≤ 3) ∧ (2 < 2 → y2 = c ∧ c ≤ 63) ∧ (3 < 2 → y3 = d ∧ d ≤ 64) ∧ (4 < 2 → y4 = e ∧ e ≤ 6)) := by
          have := HF.out
          refine ⟨?_, ?_, ?_, ?_, ?_⟩ <;> omega
        clear HF H
        go_wp2_with (go_at_call 72; refine Calls.mono (RK.out _ M) ?_; rintro _ w2 ⟨rfl, rfl⟩)
        go_roundw
        case rel => exact ⟨2, y0, b, y2, y3, y4, by go_num, by decide, ⟨Q2, S2, K2⟩, Lib.hid (by simpa using HF2.out)⟩
        case measure => simp [intOf]
      · have hn : 3 < b := by omega
        have hx : ¬ (a ≤ 3 ∧ b ≤ 3 ∧ c ≤ 63 ∧ d ≤ 64 ∧ e ≤ 6) := by omega
        clear HF H
        go_wp2_with (go_at_call 72; refine Calls.mono (RK.out _ M) ?_; rintro _ w2 ⟨rfl, rfl⟩)
        have D := wr5_blk (d := q) Q (.int .i64 0) (.int .i64 0) (.int .i64 0) (.int .i64 0) (.int .i64 0)
        have KK := wr5_chg (d := q) K hqw (.int .i64 0) (.int .i64 0) (.int .i64 0) (.int .i64 0) (.int .i64 0)
        unfold wr5 at D KK
        obtain ⟨d0, d1, d2, d3, d4⟩ := blk5 D
        refine ⟨rfl, .tuple #[numV 0 0 0 0 0, .bool false], ?_, Or.inr ⟨hx, rfl⟩, KK⟩
        simp [results, go_sem, d0, d1, d2, d3, d4]
    · have J := fun (w : World) => ix2 (.int .i64 3) (.int .i64 3) (.int .i64 63) (.int .i64 64) (.int .i64 6) w
      have RK := R2'
      clear R0' R1' R2' R3' R4'
      by_cases h1 : c ≤ 63
      · have hn : ¬ 63 < c := by omega
        have hw : IntKind.i64.wrap c = c := by rw [IntKind.wrap_i64]; omega
        have S2 : Blk _ s _ (numC y0 y1 c y3 y4) := S.set_ 2 (.int .i64 c)
        have Q2 := Q.far (p := ⟨s, 2, none⟩) hqs (.int .i64 c)
        have fk := S.frozen 2
        have K2 := K.setCell (p := ⟨s, 2, none⟩) (Or.inr hsw) (.int .i64 c)
        have HF2 : Hid ((0 < 3 → y0 = a ∧ a ≤ 3) ∧ (1 < 3 → y1 = b ∧ b ≤ 3) ∧ (2 < 3 → c = c ∧ c ≤ 63) ∧ (3 < 3 → y3 = d ∧ d ≤ 64) ∧ (4 < 3 → y4 = e ∧ e ≤ 6)) := by
          have := HF.out
          refine ⟨?_, ?_, ?_, ?_, ?_⟩ <;> omega
        clear HF H
        go_wp2_with (go_at_call 72; refine Calls.mono (RK.out _ M) ?_; rintro _ w2 ⟨rfl, rfl⟩)
        go_roundw
        case rel => exact ⟨3, y0, y1, c, y3, y4, by go_num, by decide, ⟨Q2, S2, K2⟩, Lib.hid (by simpa using HF2.out)⟩
        case measure => simp [intOf]
      · have hn : 63 < c := by omega
        have hx : ¬ (a ≤ 3 ∧ b ≤ 3 ∧ c ≤ 63 ∧ d ≤ 64 ∧ e ≤ 6) := by omega
        clear HF H
        go_wp2_with (go_at_call 72; refine Calls.mono (RK.out _ M) ?_; rintro _ w2 ⟨rfl, rfl⟩)
        have D := wr5_blk (d := q) Q (.int .i64 0) (.int .i64 0) (.int .i64 0) (.int .i64 0) (.int .i64 0)
        have KK := wr5_chg (d := q) K hqw (.int .i64 0) (.int .i64 0) (.int .i64 0) (.int .i64 0) (.int .i64 0)
        unfold wr5 at D KK
        obtain ⟨d0, d1, d2, d3, d4⟩ := blk5 D
        refine ⟨rfl, .tuple #[numV 0 0 0 0 0, .bool false], ?_, Or.inr ⟨hx, rfl⟩, KK⟩
        simp [results, go_sem, d0, d1, d2, d3, d4]
    · have J := fun (w : World) => ix3 (.int .i64 3) (.int .i64 3) (.int .i64 63) (.int .i64 64) (.int .i64 6) w
      have RK := R3'
      clear R0' R1' R2' R3' R4'
      by_cases h1 : d ≤ 64
      · have hn : ¬ 64 < d := by omega
        have hw : IntKind.i64.wrap d = d := by rw [IntKind.wrap_i64]; omega
        have S2 : Blk _ s _ (numC y0 y1 y2 d y4) := S.set_ 3 (.int .i64 d)
        have Q2 := Q.far (p := ⟨s, 3, none⟩) hqs (.int .i64 d)
        have fk := S.frozen 3
        have K2 := K.setCell (p := ⟨s, 3, none⟩) (Or.inr hsw) (.int .i64 d)
        have HF2 : Hid ((0 < 4 → y0 = a ∧ a ≤ 3) ∧ (1 < 4 → y1 = b ∧ b ≤ 3) ∧ (2 < 4 → y2 = c ∧ c ≤ 63) ∧ (3 < 4 → d = d ∧ d ≤ 64) ∧ (4 < 4 → y4 = e ∧ e ≤ 6)) := by
          have := HF.out
          refine ⟨?_, ?_, ?_, ?_, ?_⟩ <;> omega
        clear HF H
        go_wp2_with (go_at_call 72; refine Calls.mono (RK.out _ M) ?_; rintro _ w2 ⟨rfl, rfl⟩)
        go_roundw
        case rel => exact ⟨4, y0, y1, y2, d, y4, by go_num, by decide, ⟨Q2, S2, K2⟩, Lib.hid (by simpa using HF2.out)⟩
        case measure => simp [intOf]
      · have hn : 64 < d := by omega
        have hx : ¬ (a ≤ 3 ∧ b ≤ 3 ∧ c ≤ 63 ∧ d ≤ 64 ∧ e ≤ 6) := by omega
        clear HF H
        go_wp2_with (go_at_call 72; refine Calls.mono (RK.out _ M) ?_; rintro _ w2 ⟨rfl, rfl⟩)
        have D := wr5_blk (d := q) Q (.int .i64 0) (.int .i64 0) (.int .i64 0) (.int .i64 0) (.int .i64 0)
        have KK := wr5_chg (d := q) K hqw (.int .i64 0) (.int .i64 0) (.int .i64 0) (.int .i64 0) (.int .i64 0)
        unfold wr5 at D KK
        obtain ⟨d0, d1, d2, d3, d4⟩ := blk5 D
        refine ⟨rfl, .tuple #[numV 0 0 0 0 0, .bool false], ?_, Or.inr ⟨hx, rfl⟩, KK⟩
        simp [results, go_sem, d0, d1, d2, d3, d4]
    · have J := fun (w : World) => ix4 (.int .i64 3) (.int .i64 3) (.int .i64 63) (.int .i64 64) (.int .i64 6) w
      have RK := R4'
      clear R0' R1' R2' R3' R4'
      by_cases h1 : e ≤ 6
      · have hn : ¬ 6 < e := by omega
        have hw : IntKind.i64.wrap e = e := by rw [IntKind.wrap_i64]; omega
        have S2 : Blk _ s _ (numC y0 y1 y2 y3 e) := S.set_ 4 (.int .i64 e)
        have Q2 := Q.far (p := ⟨s, 4, none⟩) hqs (.int .i64 e)
        have fk := S.frozen 4
        have K2 := K.setCell (p := ⟨s, 4, none⟩) (Or.inr hsw) (.int .i64 e)
        have HF2 : Hid ((0 < 5 → y0 = a ∧ a ≤ 3) ∧ (1 < 5 → y1 = b ∧ b ≤ 3) ∧ (2 < 5 → y2 = c ∧ c ≤ 63) ∧ (3 < 5 → y3 = d ∧ d ≤ 64) ∧ (4 < 5 → e = e ∧ e ≤ 6)) := by
          have := HF.out
          refine ⟨?_, ?_, ?_, ?_, ?_⟩ <;> omega
        clear HF H
        go_wp2_with (go_at_call 72; refine Calls.mono (RK.out _ M) ?_; rintro _ w2 ⟨rfl, rfl⟩)
        go_roundw
        case rel => exact ⟨5, y0, y1, y2, y3, e, by go_num, by decide, ⟨Q2, S2, K2⟩, Lib.hid (by simpa using HF2.out)⟩
        case measure => simp [intOf]
      · have hn : 6 < e := by omega
        have hx : ¬ (a ≤ 3 ∧ b ≤ 3 ∧ c ≤ 63 ∧ d ≤ 64 ∧ e ≤ 6) := by omega
        clear HF H
        go_wp2_with (go_at_call 72; refine Calls.mono (RK.out _ M) ?_; rintro _ w2 ⟨rfl, rfl⟩)
        have D := wr5_blk (d := q) Q (.int .i64 0) (.int .i64 0) (.int .i64 0) (.int .i64 0) (.int .i64 0)
        have KK := wr5_chg (d := q) K hqw (.int .i64 0) (.int .i64 0) (.int .i64 0) (.int .i64 0) (.int .i64 0)
        unfold wr5 at D KK
        obtain ⟨d0, d1, d2, d3, d4⟩ := blk5 D
        refine ⟨rfl, .tuple #[numV 0 0 0 0 0, .bool false], ?_, Or.inr ⟨hx, rfl⟩, KK⟩
        simp [results, go_sem, d0, d1, d2, d3, d4]
end Go.Proofs.Ytknbeklplmhheaa.Thd
