/- Package palanquinref18: right, Check, words, Make, Get, Put, State, Save, Load, Reg. -/
import Derived.Test.YtknbeklplmhheaaThdRegs
import Derived.Test.YtknbeklplmhheaaRef17
import Derived.Test.YtknbeklplmhheaaRef05
namespace Go.Proofs.Ytknbeklplmhheaa.Ref18
open Go Go.RowKit Go.Proofs.Ytknbeklplmhheaa Go.Proofs.Ytknbeklplmhheaa.Heap Go.Proofs.Ytknbeklplmhheaa.Mem Go.Proofs.Ytknbeklplmhheaa.Two Go.Proofs.Ytknbeklplmhheaa.Head Go.Proofs.Ytknbeklplmhheaa.HeadPut Go.Proofs.Ytknbeklplmhheaa.HeadIs Go.Proofs.Ytknbeklplmhheaa.Lay Go.Proofs.Ytknbeklplmhheaa.Thd Go.Proofs.Ytknbeklplmhheaa.ThdGet Go.Proofs.Ytknbeklplmhheaa.ThdPut Go.Proofs.Ytknbeklplmhheaa.ThdRegs Go.Proofs.Ytknbeklplmhheaa.Ref17 Go.Proofs.Ytknbeklplmhheaa.Ref05

theorem right_in (a b c d e : Int) : rightT a b c d e = (inB a 0 3 && inB b 0 3 && inB c 0 63 && inB d 0 64 && inB e 0 6) := by
  unfold rightT inB
  simp only [Bool.decide_and, Bool.and_assoc]
set_option maxRecDepth 100000
set_option maxHeartbeats 2000000
theorem right_ok (a b c d e : Int) (w : World) : Calls Try.prog 92 #[numV a b c d e] w fun x w' => x = .returned (.bool (rightT a b c d e)) ∧ Chg [] w w' := by
  rw [right_in]
  have I0 := in_ok a 0 3
  have I1 := in_ok b 0 3
  have I2 := in_ok c 0 63
  have I3 := in_ok d 0 64
  have I4 := in_ok e 0 6
  generalize inB a 0 3 = x0 at *
  generalize inB b 0 3 = x1 at *
  generalize inB c 0 63 = x2 at *
  generalize inB d 0 64 = x3 at *
  generalize inB e 0 6 = x4 at *
  obtain ⟨p, ep⟩ : ∃ p, w.heap.size = p := ⟨_, rfl⟩
  have P := Blk.new' w 43 (numC a b c d e) ep
  have K := (Chg.refl [] w).alloc (.cells (numC a b c d e) 43)
  obtain ⟨p0, p1, p2, p3, p4⟩ := blk5 P
  have way : x0 = false ∨ (x0 = true ∧ x1 = false) ∨ (x0 = true ∧ x1 = true ∧ x2 = false) ∨ (x0 = true ∧ x1 = true ∧ x2 = true ∧ x3 = false) ∨ (x0 = true ∧ x1 = true ∧ x2 = true ∧ x3 = true) := by
    cases x0 <;> cases x1 <;> cases x2 <;> cases x3 <;> simp
  rcases way with rfl | ⟨rfl, rfl⟩ | ⟨rfl, rfl, rfl⟩ | ⟨rfl, rfl, rfl, rfl⟩ | ⟨rfl, rfl, rfl, rfl⟩
  · have I0' := Lib.hid I0
    clear I0 I1 I2 I3 I4 P
    go_enter Try.func92, Try.ntmps92
    go_wp2_with fail
    refine Calls.mono (I0'.out _) ?_
    rintro x w1 ⟨rfl, rfl⟩
    go_wp2
    go_ret
    exact ⟨by simp, K⟩
  · have I0' := Lib.hid I0
    have I1' := Lib.hid I1
    clear I0 I1 I2 I3 I4 P
    go_enter Try.func92, Try.ntmps92
    go_wp2_with fail
    refine Calls.mono (I0'.out _) ?_
    rintro x w1 ⟨rfl, rfl⟩
    go_wp2_with fail
    refine Calls.mono (I1'.out _) ?_
    rintro x w2 ⟨rfl, rfl⟩
    go_wp2
    go_ret
    exact ⟨by simp, K⟩
  · have I0' := Lib.hid I0
    have I1' := Lib.hid I1
    have I2' := Lib.hid I2
    clear I0 I1 I2 I3 I4 P
    go_enter Try.func92, Try.ntmps92
    go_wp2_with fail
    refine Calls.mono (I0'.out _) ?_
    rintro x w1 ⟨rfl, rfl⟩
    go_wp2_with fail
    refine Calls.mono (I1'.out _) ?_
    rintro x w2 ⟨rfl, rfl⟩
    go_wp2_with fail
    refine Calls.mono (I2'.out _) ?_
    rintro x w3 ⟨rfl, rfl⟩
    go_wp2
    go_ret
    exact ⟨by simp, K⟩
  · have I0' := Lib.hid I0
    have I1' := Lib.hid I1
    have I2' := Lib.hid I2
    have I3' := Lib.hid I3
    clear I0 I1 I2 I3 I4 P
    go_enter Try.func92, Try.ntmps92
    go_wp2_with fail
    refine Calls.mono (I0'.out _) ?_
    rintro x w1 ⟨rfl, rfl⟩
    go_wp2_with fail
    refine Calls.mono (I1'.out _) ?_
    rintro x w2 ⟨rfl, rfl⟩
    go_wp2_with fail
    refine Calls.mono (I2'.out _) ?_
    rintro x w3 ⟨rfl, rfl⟩
    go_wp2_with fail
    refine Calls.mono (I3'.out _) ?_
    rintro x w4 ⟨rfl, rfl⟩
    go_wp2
    go_ret
    exact ⟨by simp, K⟩
  · have I0' := Lib.hid I0
    have I1' := Lib.hid I1
    have I2' := Lib.hid I2
    have I3' := Lib.hid I3
    have I4' := Lib.hid I4
    clear I0 I1 I2 I3 I4 P
    go_enter Try.func92, Try.ntmps92
    go_wp2_with fail
    refine Calls.mono (I0'.out _) ?_
    rintro x w1 ⟨rfl, rfl⟩
    go_wp2_with fail
    refine Calls.mono (I1'.out _) ?_
    rintro x w2 ⟨rfl, rfl⟩
    go_wp2_with fail
    refine Calls.mono (I2'.out _) ?_
    rintro x w3 ⟨rfl, rfl⟩
    go_wp2_with fail
    refine Calls.mono (I3'.out _) ?_
    rintro x w4 ⟨rfl, rfl⟩
    go_wp2_with fail
    refine Calls.mono (I4'.out _) ?_
    rintro x w5 ⟨rfl, rfl⟩
    go_wp2
    go_ret
    exact ⟨by simp, K⟩
theorem check_ok (a b c d e : Int) (w : World) : Calls Try.prog 54 #[numV a b c d e] w fun x w' => x = .returned (.int .i64 (errH (rightT a b c d e))) ∧ Chg [] w w' := by
  have HR := Ref18.right_ok a b c d e
  unfold errH
  generalize rightT a b c d e = R at *
  have K := (Chg.refl [] w).alloc (.cells (numC a b c d e) 43)
  obtain ⟨p, ep⟩ : ∃ p, w.heap.size = p := ⟨_, rfl⟩
  have P := Blk.new' w 43 (numC a b c d e) ep
  obtain ⟨p0, p1, p2, p3, p4⟩ := blk5 P
  cases R
  all_goals
    have HR' := Lib.hid HR
    clear HR P
    go_enter Try.func54, Try.ntmps54
    go_wp2_with fail
    refine Calls.mono (HR'.out _) ?_
    rintro x w1 ⟨rfl, k1⟩
    replace K := K.trans k1 (by simp)
    go_wp2
    go_ret
    exact ⟨rfl, K⟩
theorem words_ok (a b c d e : Int) (w : World) : Calls Try.prog 93 #[numV a b c d e] w fun x w' => ∃ g, x = .returned (.slice (some ⟨g, 0, none⟩) 5 5) ∧ Blk w' g 3 (numC a b c d e) ∧ w.heap.size ≤ g ∧ Chg [] w w' := by
  obtain ⟨p, ep⟩ : ∃ p, w.heap.size = p := ⟨_, rfl⟩
  have P := Blk.new' w 43 (numC a b c d e) ep
  have K := (Chg.refl [] w).alloc (.cells (numC a b c d e) 43)
  obtain ⟨p0, p1, p2, p3, p4⟩ := blk5 P
  clear P
  have G := Blk.new' (g := p + 1) (w.alloc (.cells (numC a b c d e) 43)) 3 (numC a b c d e) (by simp; omega)
  have K2 := K.alloc (.cells (numC a b c d e) 3)
  have hp : w.heap.size ≤ p + 1 := by omega
  go_enter Try.func93, Try.ntmps93
  go_wp2
  go_ret
  exact ⟨p + 1, rfl, G, hp, K2⟩
theorem get_type {w : World} {B r n : Nat} {v : Value} {bs : List (Nat × Nat)} {L : List Int} (h : Ref02.RM w B r v n bs L) (n1 : 1 ≤ n) (n2 : n ≤ 64) (hu : U64 L) (f : Int) (h1 : ¬ isE n L f 4 = 0) : Calls Try.prog 53 #[.pointer (some ⟨r, 0, none⟩), .int .i64 f] w fun x w' => x = .returned (.tuple #[numV 0 0 0 0 0, .int .i64 4]) ∧ Chg [] w w' := by
  have HI := fun (W : World) (q : Ref02.RM W B r v n bs L) => HeadRefIs.is_ok q n1 n2 hu f 4
  generalize isE n L f 4 = e at *
  have hb : (e != 0) = true := by rw [bne_iff_ne]; exact h1
  clear hu n1 n2
  obtain ⟨q, eq⟩ : ∃ q, w.heap.size = q := ⟨_, rfl⟩
  have Q := Blk.new' w 43 (numC 0 0 0 0 0) eq
  have hq : w.heap.size ≤ q := by omega
  replace h := h.alloc (.cells (numC 0 0 0 0 0) 43)
  have K := (Chg.refl [] w).alloc (.cells (numC 0 0 0 0 0) 43)
  go_enter Try.func53, Try.ntmps53
  go_wp2_with fail
  refine Calls.mono (HI _ h) ?_
  rintro x w1 ⟨rfl, k1⟩
  replace h := h.chg0 k1
  replace Q := Q.chg k1 (by simp)
  replace K := K.trans k1 (by simp)
  clear k1 eq HI
  clear h
  obtain ⟨q0, q1, q2, q3, q4⟩ := blk5 Q
  have f0 := Q.frozen 0
  have f1 := Q.frozen 1
  have f2 := Q.frozen 2
  have f3 := Q.frozen 3
  have f4 := Q.frozen 4
  have D := wr5_blk (d := q) Q (.int .i64 0) (.int .i64 0) (.int .i64 0) (.int .i64 0) (.int .i64 0)
  have KK := wr5_chg (d := q) K hq (.int .i64 0) (.int .i64 0) (.int .i64 0) (.int .i64 0) (.int .i64 0)
  unfold wr5 at D KK
  obtain ⟨d0, d1, d2, d3, d4⟩ := blk5 D
  go_wp2
  refine ⟨rfl, .tuple #[numV 0 0 0 0 0, .int .i64 4], ?_, rfl, KK⟩
  simp [results, go_sem, d0, d1, d2, d3, d4]
theorem get_form {w : World} {B r n : Nat} {v : Value} {bs : List (Nat × Nat)} {L : List Int} (h : Ref02.RM w B r v n bs L) (n1 : 1 ≤ n) (n2 : n ≤ 64) (hu : U64 L) (f : Int) (h1 : isE n L f 4 = 0) (h2 : ¬ rdOk n L f 5) : Calls Try.prog 53 #[.pointer (some ⟨r, 0, none⟩), .int .i64 f] w fun x w' => x = .returned (.tuple #[numV 0 0 0 0 0, .int .i64 12]) ∧ Chg [] w w' := by
  have HI := fun (W : World) (q : Ref02.RM W B r v n bs L) => HeadRefIs.is_ok q n1 n2 hu f 4
  rw [h1] at HI
  have HR : ∀ (W : World) (q : Ref02.RM W B r v n bs L), Calls Try.prog 85 #[.pointer (some ⟨r, 0, none⟩), .int .i64 f, .int .i64 5] W fun x w' => x = .returned (.tuple #[.slice none 0 0, .bool false]) ∧ Chg [] W w' := fun W q =>
    Calls.mono (read_ok q n1 n2 hu f 5 (by decide)) (by rintro x w' ⟨⟨hr, _⟩ | ⟨_, hx⟩, k⟩; exact absurd hr h2; exact ⟨hx, k⟩)
  clear h1 h2 hu n1 n2
  obtain ⟨q, eq⟩ : ∃ q, w.heap.size = q := ⟨_, rfl⟩
  have Q := Blk.new' w 43 (numC 0 0 0 0 0) eq
  have hq : w.heap.size ≤ q := by omega
  replace h := h.alloc (.cells (numC 0 0 0 0 0) 43)
  have K := (Chg.refl [] w).alloc (.cells (numC 0 0 0 0 0) 43)
  go_enter Try.func53, Try.ntmps53
  go_wp2_with fail
  refine Calls.mono (HI _ h) ?_
  rintro x w1 ⟨rfl, k1⟩
  replace h := h.chg0 k1
  replace Q := Q.chg k1 (by simp)
  replace K := K.trans k1 (by simp)
  clear k1 eq HI
  go_wp2_with fail
  refine Calls.mono (HR _ h) ?_
  rintro x w2 ⟨rfl, k2⟩
  clear h HR
  replace Q := Q.chg k2 (by simp)
  replace K := K.trans k2 (by simp)
  clear k2
  obtain ⟨q0, q1, q2, q3, q4⟩ := blk5 Q
  have f0 := Q.frozen 0
  have f1 := Q.frozen 1
  have f2 := Q.frozen 2
  have f3 := Q.frozen 3
  have f4 := Q.frozen 4
  have D := wr5_blk (d := q) Q (.int .i64 0) (.int .i64 0) (.int .i64 0) (.int .i64 0) (.int .i64 0)
  have KK := wr5_chg (d := q) K hq (.int .i64 0) (.int .i64 0) (.int .i64 0) (.int .i64 0) (.int .i64 0)
  unfold wr5 at D KK
  obtain ⟨d0, d1, d2, d3, d4⟩ := blk5 D
  go_wp2
  refine ⟨rfl, .tuple #[numV 0 0 0 0 0, .int .i64 12], ?_, rfl, KK⟩
  simp [results, go_sem, d0, d1, d2, d3, d4]
theorem get_not {w : World} {B r n : Nat} {v : Value} {bs : List (Nat × Nat)} {L : List Int} (h : Ref02.RM w B r v n bs L) (n1 : 1 ≤ n) (n2 : n ≤ 64) (hu : U64 L) (f : Int) (h1 : isE n L f 4 = 0) (h2 : rdOk n L f 5) (h3 : rightT (ldV n L f 4) (ldV n L f 5) (ldV n L f 6) (ldV n L f 7) (ldV n L f 8) = false) : Calls Try.prog 53 #[.pointer (some ⟨r, 0, none⟩), .int .i64 f] w fun x w' => x = .returned (.tuple #[numV 0 0 0 0 0, .int .i64 12]) ∧ Chg [] w w' := by
  have HI := fun (W : World) (q : Ref02.RM W B r v n bs L) => HeadRefIs.is_ok q n1 n2 hu f 4
  rw [h1] at HI
  have HR : ∀ (W : World) (q : Ref02.RM W B r v n bs L), Calls Try.prog 85 #[.pointer (some ⟨r, 0, none⟩), .int .i64 f, .int .i64 5] W fun x w' => (∃ s, x = .returned (.tuple #[s, .bool true]) ∧ w'.ownsRow 0 3 1 s 5 (nums .i64 [ldV n L f 4, ldV n L f 5, ldV n L f 6, ldV n L f 7, ldV n L f 8])) ∧ Chg [] W w' := fun W q =>
    Calls.mono (read_ok q n1 n2 hu f 5 (by decide)) (by rintro x w' ⟨⟨_, hx⟩ | ⟨hr, _⟩, k⟩; exact ⟨hx, k⟩; exact absurd h2 hr)
  have HT := Ref18.right_ok (ldV n L f 4) (ldV n L f 5) (ldV n L f 6) (ldV n L f 7) (ldV n L f 8)
  rw [h3] at HT
  clear h1 h2 h3 hu n1 n2
  generalize ldV n L f 4 = a at *
  generalize ldV n L f 5 = b at *
  generalize ldV n L f 6 = c at *
  generalize ldV n L f 7 = d at *
  generalize ldV n L f 8 = e at *
  have HT' := Lib.hid HT
  clear HT
  obtain ⟨q, eq⟩ : ∃ q, w.heap.size = q := ⟨_, rfl⟩
  have Q := Blk.new' w 43 (numC 0 0 0 0 0) eq
  have hq : w.heap.size ≤ q := by omega
  replace h := h.alloc (.cells (numC 0 0 0 0 0) 43)
  have K := (Chg.refl [] w).alloc (.cells (numC 0 0 0 0 0) 43)
  go_enter Try.func53, Try.ntmps53
  go_wp2_with fail
  refine Calls.mono (HI _ h) ?_
  rintro x w1 ⟨rfl, k1⟩
  replace h := h.chg0 k1
  replace Q := Q.chg k1 (by simp)
  replace K := K.trans k1 (by simp)
  clear k1 eq HI
  go_wp2_with fail
  refine Calls.mono (HR _ h) ?_
  rintro x w2 ⟨⟨s, rfl, S⟩, k2⟩
  clear h HR
  replace Q := Q.chg k2 (by simp)
  replace K := K.trans k2 (by simp)
  clear k2
  obtain ⟨z, cap, rfl, -, -⟩ := S.form (by decide)
  have s0 : w2.cell? ⟨z, 0, none⟩ = some (.int .i64 a) := S.cellAt 0 (by decide)
  have s1 : w2.cell? ⟨z, 1, none⟩ = some (.int .i64 b) := S.cellAt 1 (by decide)
  have s2 : w2.cell? ⟨z, 2, none⟩ = some (.int .i64 c) := S.cellAt 2 (by decide)
  have s3 : w2.cell? ⟨z, 3, none⟩ = some (.int .i64 d) := S.cellAt 3 (by decide)
  have s4 : w2.cell? ⟨z, 4, none⟩ = some (.int .i64 e) := S.cellAt 4 (by decide)
  clear S
  go_wp2
  go_region_held3 (fun V => V.cell? ⟨z, 0, none⟩ = some (.int .i64 a) ∧ V.cell? ⟨z, 1, none⟩ = some (.int .i64 b) ∧ V.cell? ⟨z, 2, none⟩ = some (.int .i64 c) ∧ V.cell? ⟨z, 3, none⟩ = some (.int .i64 d) ∧ V.cell? ⟨z, 4, none⟩ = some (.int .i64 e)) (go_keep) (fail)
  obtain ⟨y, ey⟩ : ∃ y, w2.heap.size = y := ⟨_, rfl⟩
  have Y := (Blk.new' w2 43 (numC a b c d e) ey).drew
  replace Q := (Q.alloc (.cells (numC a b c d e) 43)).drew
  replace K := (K.alloc (.cells (numC a b c d e) 43)).drew
  clear s0 s1 s2 s3 s4
  obtain ⟨y0, y1, y2, y3, y4⟩ := blk5 Y
  go_wp2_with fail
  refine Calls.mono (HT'.out _) ?_
  rintro x w3 ⟨rfl, k3⟩
  clear y0 y1 y2 y3 y4
  replace Q := Q.chg k3 (by simp)
  replace Y := Y.chg k3 (by simp)
  replace K := K.trans k3 (by simp)
  clear k3
  obtain ⟨y0, y1, y2, y3, y4⟩ := blk5 Y
  obtain ⟨q0, q1, q2, q3, q4⟩ := blk5 Q
  have f0 := Q.frozen 0
  have f1 := Q.frozen 1
  have f2 := Q.frozen 2
  have f3 := Q.frozen 3
  have f4 := Q.frozen 4
  have D := wr5_blk (d := q) Q (.int .i64 0) (.int .i64 0) (.int .i64 0) (.int .i64 0) (.int .i64 0)
  have KK := wr5_chg (d := q) K hq (.int .i64 0) (.int .i64 0) (.int .i64 0) (.int .i64 0) (.int .i64 0)
  unfold wr5 at D KK
  obtain ⟨d0, d1, d2, d3, d4⟩ := blk5 D
  go_wp2
  refine ⟨rfl, .tuple #[numV 0 0 0 0 0, .int .i64 12], ?_, rfl, KK⟩
  simp [results, go_sem, d0, d1, d2, d3, d4]
theorem get_yes {w : World} {B r n : Nat} {v : Value} {bs : List (Nat × Nat)} {L : List Int} (h : Ref02.RM w B r v n bs L) (n1 : 1 ≤ n) (n2 : n ≤ 64) (hu : U64 L) (f : Int) (h1 : isE n L f 4 = 0) (h2 : rdOk n L f 5) (h3 : rightT (ldV n L f 4) (ldV n L f 5) (ldV n L f 6) (ldV n L f 7) (ldV n L f 8) = true) : Calls Try.prog 53 #[.pointer (some ⟨r, 0, none⟩), .int .i64 f] w fun x w' => x = .returned (.tuple #[numV (ldV n L f 4) (ldV n L f 5) (ldV n L f 6) (ldV n L f 7) (ldV n L f 8), .int .i64 0]) ∧ Chg [] w w' := by
  have HI := fun (W : World) (q : Ref02.RM W B r v n bs L) => HeadRefIs.is_ok q n1 n2 hu f 4
  rw [h1] at HI
  have HR : ∀ (W : World) (q : Ref02.RM W B r v n bs L), Calls Try.prog 85 #[.pointer (some ⟨r, 0, none⟩), .int .i64 f, .int .i64 5] W fun x w' => (∃ s, x = .returned (.tuple #[s, .bool true]) ∧ w'.ownsRow 0 3 1 s 5 (nums .i64 [ldV n L f 4, ldV n L f 5, ldV n L f 6, ldV n L f 7, ldV n L f 8])) ∧ Chg [] W w' := fun W q =>
    Calls.mono (read_ok q n1 n2 hu f 5 (by decide)) (by rintro x w' ⟨⟨_, hx⟩ | ⟨hr, _⟩, k⟩; exact ⟨hx, k⟩; exact absurd h2 hr)
  have HT := Ref18.right_ok (ldV n L f 4) (ldV n L f 5) (ldV n L f 6) (ldV n L f 7) (ldV n L f 8)
  rw [h3] at HT
  clear h1 h2 h3 hu n1 n2
  generalize ldV n L f 4 = a at *
  generalize ldV n L f 5 = b at *
  generalize ldV n L f 6 = c at *
  generalize ldV n L f 7 = d at *
  generalize ldV n L f 8 = e at *
  have HT' := Lib.hid HT
  clear HT
  obtain ⟨q, eq⟩ : ∃ q, w.heap.size = q := ⟨_, rfl⟩
  have Q := Blk.new' w 43 (numC 0 0 0 0 0) eq
  have hq : w.heap.size ≤ q := by omega
  replace h := h.alloc (.cells (numC 0 0 0 0 0) 43)
  have K := (Chg.refl [] w).alloc (.cells (numC 0 0 0 0 0) 43)
  go_enter Try.func53, Try.ntmps53
  go_wp2_with fail
  refine Calls.mono (HI _ h) ?_
  rintro x w1 ⟨rfl, k1⟩
  replace h := h.chg0 k1
  replace Q := Q.chg k1 (by simp)
  replace K := K.trans k1 (by simp)
  clear k1 eq HI
  go_wp2_with fail
  refine Calls.mono (HR _ h) ?_
  rintro x w2 ⟨⟨s, rfl, S⟩, k2⟩
  clear h HR
  replace Q := Q.chg k2 (by simp)
  replace K := K.trans k2 (by simp)
  clear k2
  obtain ⟨z, cap, rfl, -, -⟩ := S.form (by decide)
  have s0 : w2.cell? ⟨z, 0, none⟩ = some (.int .i64 a) := S.cellAt 0 (by decide)
  have s1 : w2.cell? ⟨z, 1, none⟩ = some (.int .i64 b) := S.cellAt 1 (by decide)
  have s2 : w2.cell? ⟨z, 2, none⟩ = some (.int .i64 c) := S.cellAt 2 (by decide)
  have s3 : w2.cell? ⟨z, 3, none⟩ = some (.int .i64 d) := S.cellAt 3 (by decide)
  have s4 : w2.cell? ⟨z, 4, none⟩ = some (.int .i64 e) := S.cellAt 4 (by decide)
  clear S
  go_wp2
  go_region_held3 (fun V => V.cell? ⟨z, 0, none⟩ = some (.int .i64 a) ∧ V.cell? ⟨z, 1, none⟩ = some (.int .i64 b) ∧ V.cell? ⟨z, 2, none⟩ = some (.int .i64 c) ∧ V.cell? ⟨z, 3, none⟩ = some (.int .i64 d) ∧ V.cell? ⟨z, 4, none⟩ = some (.int .i64 e)) (go_keep) (fail)
  obtain ⟨y, ey⟩ : ∃ y, w2.heap.size = y := ⟨_, rfl⟩
  have Y := (Blk.new' w2 43 (numC a b c d e) ey).drew
  replace Q := (Q.alloc (.cells (numC a b c d e) 43)).drew
  replace K := (K.alloc (.cells (numC a b c d e) 43)).drew
  clear s0 s1 s2 s3 s4
  obtain ⟨y0, y1, y2, y3, y4⟩ := blk5 Y
  go_wp2_with fail
  refine Calls.mono (HT'.out _) ?_
  rintro x w3 ⟨rfl, k3⟩
  clear y0 y1 y2 y3 y4
  replace Q := Q.chg k3 (by simp)
  replace Y := Y.chg k3 (by simp)
  replace K := K.trans k3 (by simp)
  clear k3
  obtain ⟨y0, y1, y2, y3, y4⟩ := blk5 Y
  obtain ⟨q0, q1, q2, q3, q4⟩ := blk5 Q
  have f0 := Q.frozen 0
  have f1 := Q.frozen 1
  have f2 := Q.frozen 2
  have f3 := Q.frozen 3
  have f4 := Q.frozen 4
  have D := wr5_blk (d := q) Q (.int .i64 a) (.int .i64 b) (.int .i64 c) (.int .i64 d) (.int .i64 e)
  have KK := wr5_chg (d := q) K hq (.int .i64 a) (.int .i64 b) (.int .i64 c) (.int .i64 d) (.int .i64 e)
  unfold wr5 at D KK
  obtain ⟨d0, d1, d2, d3, d4⟩ := blk5 D
  go_wp2
  refine ⟨rfl, .tuple #[numV a b c d e, .int .i64 0], ?_, rfl, KK⟩
  simp [results, go_sem, d0, d1, d2, d3, d4]
theorem rd_iff {n : Nat} {L : List Int} {f : Int} (hu : U64 L) : rdT n L f ↔ rdOk n L f 5 ∧ rightT (ldV n L f 4) (ldV n L f 5) (ldV n L f 6) (ldV n L f 7) (ldV n L f 8) = true := by
  have b4 := hu.ld (n := n) f 4
  have b5 := hu.ld (n := n) f 5
  have b6 := hu.ld (n := n) f 6
  have b7 := hu.ld (n := n) f 7
  have b8 := hu.ld (n := n) f 8
  unfold rdT
  constructor
  · intro h
    refine ⟨fun i hi => ?_, decide_eq_true (by omega)⟩
    rcases (by omega : i = 0 ∨ i = 1 ∨ i = 2 ∨ i = 3 ∨ i = 4) with rfl | rfl | rfl | rfl | rfl
    · show ldV n L f 4 ≤ _
      omega
    · show ldV n L f 5 ≤ _
      omega
    · show ldV n L f 6 ≤ _
      omega
    · show ldV n L f 7 ≤ _
      omega
    · show ldV n L f 8 ≤ _
      omega
  · rintro ⟨-, h⟩
    have := of_decide_eq_true h
    omega
theorem get_ok {w : World} {B r n : Nat} {v : Value} {bs : List (Nat × Nat)} {L : List Int} (h : Ref02.RM w B r v n bs L) (n1 : 1 ≤ n) (n2 : n ≤ 64) (hu : U64 L) (f : Int)  : Calls Try.prog 53 #[.pointer (some ⟨r, 0, none⟩), .int .i64 f] w fun x w' => x = .returned (.tuple #[gV n L f, .int .i64 (gE n L f)]) ∧ Chg [] w w' := by
  by_cases h1 : isE n L f 4 = 0
  · by_cases h2 : rdT n L f
    · have e : gB n L f := ⟨h1, h2⟩
      have := Ref18.get_yes h n1 n2 hu f h1 ((rd_iff hu).1 h2).1 ((rd_iff hu).1 h2).2
      unfold gV gT gE
      rw [if_pos e, if_pos e, if_pos e, if_pos e, if_pos e, if_pos h1, if_pos h2]
      exact this
    · have e : ¬ gB n L f := fun e => h2 e.2
      unfold gV gT gE
      rw [if_neg e, if_neg e, if_neg e, if_neg e, if_neg e, if_pos h1, if_neg h2]
      by_cases h3 : rdOk n L f 5
      · exact Ref18.get_not h n1 n2 hu f h1 h3 (by
          cases hr : rightT (ldV n L f 4) (ldV n L f 5) (ldV n L f 6) (ldV n L f 7) (ldV n L f 8)
          · rfl
          · exact absurd ((rd_iff hu).2 ⟨h3, hr⟩) h2)
      · exact Ref18.get_form h n1 n2 hu f h1 h3
  · have e : ¬ gB n L f := fun e => h1 e.1
    have := Ref18.get_type h n1 n2 hu f h1
    unfold gV gT gE
    rw [if_neg e, if_neg e, if_neg e, if_neg e, if_neg e, if_neg h1]
    exact this
end Go.Proofs.Ytknbeklplmhheaa.Ref18
