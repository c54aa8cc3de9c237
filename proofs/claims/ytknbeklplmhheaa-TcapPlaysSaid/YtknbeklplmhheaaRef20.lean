/- Package palanquinref20: right, Check, words, Get, Put, Make. -/
import Derived.Test.YtknbeklplmhheaaTcapRest
import Derived.Test.YtknbeklplmhheaaRef17
namespace Go.Proofs.Ytknbeklplmhheaa.Ref20
open Go Go.RowKit Go.Proofs.Ytknbeklplmhheaa Go.Proofs.Ytknbeklplmhheaa.Heap Go.Proofs.Ytknbeklplmhheaa.Mem Go.Proofs.Ytknbeklplmhheaa.Two Go.Proofs.Ytknbeklplmhheaa.Head Go.Proofs.Ytknbeklplmhheaa.HeadPut Go.Proofs.Ytknbeklplmhheaa.HeadIs Go.Proofs.Ytknbeklplmhheaa.Lay Go.Proofs.Ytknbeklplmhheaa.Tcap Go.Proofs.Ytknbeklplmhheaa.TcapPut

theorem in_ok (n a b : Int) (w : World) : Calls Try.prog 84 #[.int .i64 n, .int .i64 a, .int .i64 b] w fun e w' => e = .returned (.bool (inI n a b)) ∧ w = w' := Ref17.in_ok n a b w
set_option linter.unusedVariables false
set_option maxRecDepth 100000
set_option maxHeartbeats 4000000
theorem right_ok (z : Bool) (l p : Int) (w : World) : Calls Try.prog 75 #[tcV z l p] w fun x w' => x = .returned (.bool (rightC z l p)) ∧ Chg [] w w' := by
  have e0 : rightC z l p = (inI l 0 1048576 && (inI p 0 255 && (if z then l == 0 else true))) := rfl
  have I0 := Ref20.in_ok l 0 1048576
  have I1 := Ref20.in_ok p 0 255
  generalize rightC z l p = R at *
  generalize inI l 0 1048576 = x0 at *
  generalize inI p 0 255 = x1 at *
  have I0' := Lib.hid I0
  have I1' := Lib.hid I1
  clear I0 I1
  obtain ⟨b, eb⟩ : ∃ p, w.heap.size = p := ⟨_, rfl⟩
  have P := Blk.new' w 23 (tcC z l p) eb
  have K := (Chg.refl [] w).alloc (.cells (tcC z l p) 23)
  obtain ⟨p0, p1, p2⟩ := blk3 P
  clear P
  cases x0
  · have E := Lib.hid e0
    clear e0
    go_enter Try.func75, Try.ntmps75
    go_wp2_with fail
    refine Calls.mono (I0'.out _) ?_
    rintro x w1 ⟨rfl, rfl⟩
    go_wp2
    go_ret
    exact ⟨by rw [E.out]; rfl, K⟩
  · cases x1
    · have E := Lib.hid e0
      clear e0
      go_enter Try.func75, Try.ntmps75
      go_wp2_with fail
      refine Calls.mono (I0'.out _) ?_
      rintro x w1 ⟨rfl, rfl⟩
      go_wp2_with fail
      refine Calls.mono (I1'.out _) ?_
      rintro x w1 ⟨rfl, rfl⟩
      go_wp2
      go_ret
      exact ⟨by rw [E.out]; rfl, K⟩
    · cases z
      all_goals
        have E := Lib.hid e0
        clear e0
        go_enter Try.func75, Try.ntmps75
        go_wp2_with fail
        refine Calls.mono (I0'.out _) ?_
        rintro x w1 ⟨rfl, rfl⟩
        go_wp2_with fail
        refine Calls.mono (I1'.out _) ?_
        rintro x w1 ⟨rfl, rfl⟩
        go_wp2
        go_ret
        exact ⟨by rw [E.out]; rfl, K⟩
theorem check_ok (z : Bool) (l p : Int) (w : World) : Calls Try.prog 32 #[tcV z l p] w fun x w' => x = .returned (.int .i64 (errH (rightC z l p))) ∧ Chg [] w w' := by
  have HR := Ref20.right_ok z l p
  unfold errH
  generalize rightC z l p = R at *
  obtain ⟨b, eb⟩ : ∃ p, w.heap.size = p := ⟨_, rfl⟩
  have P := Blk.new' w 23 (tcC z l p) eb
  have K := (Chg.refl [] w).alloc (.cells (tcC z l p) 23)
  obtain ⟨p0, p1, p2⟩ := blk3 P
  clear P
  cases R
  all_goals
    have HR' := Lib.hid HR
    clear HR
    go_enter Try.func32, Try.ntmps32
    go_wp2_with fail
    refine Calls.mono (HR'.out _) ?_
    rintro x w1 ⟨rfl, k1⟩
    replace K := K.trans k1 (by simp)
    go_wp2
    go_ret
    exact ⟨rfl, K⟩
theorem words_ok (z : Bool) (l p : Int) (w : World) : Calls Try.prog 78 #[tcV z l p] w fun x w' => ∃ g, x = .returned (.slice (some ⟨g, 0, none⟩) 3 3) ∧ Blk w' g 3 (n3C (b2i z) l p) ∧ w.heap.size ≤ g ∧ Chg [] w w' := by
  obtain ⟨b, eb⟩ : ∃ p, w.heap.size = p := ⟨_, rfl⟩
  have P := Blk.new' w 23 (tcC z l p) eb
  have K := (Chg.refl [] w).alloc (.cells (tcC z l p) 23)
  obtain ⟨p0, p1, p2⟩ := blk3 P
  clear P
  have G := Blk.new' (g := b + 1) (w.alloc (.cells (tcC z l p) 23)) 3 (n3C (b2i z) l p) (by simp; omega)
  have K2 := K.alloc (.cells (n3C (b2i z) l p) 3)
  have hp : w.heap.size ≤ b + 1 := by omega
  cases z
  all_goals
    go_enter Try.func78, Try.ntmps78
    go_wp2
    go_ret
    exact ⟨b + 1, rfl, G, hp, K2⟩
theorem get_type {w : World} {B r n : Nat} {v : Value} {bs : List (Nat × Nat)} {L : List Int} (h : Ref02.RM w B r v n bs L) (n1 : 1 ≤ n) (n2 : n ≤ 64) (hu : U64 L) (f : Int) (h1 : ¬ isE n L f 5 = 0) : Calls Try.prog 27 #[.pointer (some ⟨r, 0, none⟩), .int .i64 f] w fun x w' => x = .returned (.tuple #[tV n L f, .int .i64 (tE n L f)]) ∧ Chg [] w w' := by
  have hn : ¬ tB n L f := fun q => h1 q.1
  have HN := Lib.hid (⟨tV_no hn, by unfold tE; rw [if_neg hn, if_neg h1]⟩ : tV n L f = tcV false 0 0 ∧ tE n L f = 4)
  have HI0 := fun (W : World) (q : Ref02.RM W B r v n bs L) => HeadRefIs.is_ok q n1 n2 hu f 5
  have HI := Lib.hid HI0
  clear hn hu HI0 n1 n2
  generalize isE n L f 5 = e at *
  have hb : (e != 0) = true := by rw [bne_iff_ne]; exact h1
  obtain ⟨q, eq⟩ : ∃ q, w.heap.size = q := ⟨_, rfl⟩
  have Q := Blk.new' w 23 (tcC false 0 0) eq
  have hq : w.heap.size ≤ q := by omega
  replace h := h.alloc (.cells (tcC false 0 0) 23)
  have K := (Chg.refl [] w).alloc (.cells (tcC false 0 0) 23)
  go_enter Try.func27, Try.ntmps27
  go_wp2_with fail
  refine Calls.mono (HI.out _ h) ?_
  rintro x w1 ⟨rfl, k1⟩
  replace h := h.chg0 k1
  replace Q := Q.chg k1 (by simp)
  replace K := K.trans k1 (by simp)
  clear k1 eq HI
  clear h
  obtain ⟨q0, q1, q2⟩ := blk3 Q
  have f0 := Q.frozen 0
  have f1 := Q.frozen 1
  have f2 := Q.frozen 2
  have D := wr3_blk (d := q) Q (.bool false) (.int .i64 0) (.int .i64 0)
  have KK := wr3_chg (d := q) K hq (.bool false) (.int .i64 0) (.int .i64 0)
  unfold wr3 at D KK
  obtain ⟨d0, d1, d2⟩ := blk3 D
  go_wp2
  refine ⟨rfl, .tuple #[tcV false 0 0, .int .i64 4], ?_, by rw [HN.out.1, HN.out.2], KK⟩
  simp [results, go_sem, d0, d1, d2]
theorem get_big {w : World} {B r n : Nat} {v : Value} {bs : List (Nat × Nat)} {L : List Int} (h : Ref02.RM w B r v n bs L) (n1 : 1 ≤ n) (n2 : n ≤ 64) (hu : U64 L) (f : Int) (h1 : isE n L f 5 = 0) (h2 : ¬ Ref17.rdOk n L f 3) : Calls Try.prog 27 #[.pointer (some ⟨r, 0, none⟩), .int .i64 f] w fun x w' => x = .returned (.tuple #[tV n L f, .int .i64 (tE n L f)]) ∧ Chg [] w w' := by
  have HI0 := fun (W : World) (q : Ref02.RM W B r v n bs L) => HeadRefIs.is_ok q n1 n2 hu f 5
  rw [h1] at HI0
  have HI := Lib.hid HI0
  clear HI0
  have HN0 : ¬ okT (ldV n L f 4) (ldV n L f 5) (ldV n L f 6) → tV n L f = tcV false 0 0 ∧ tE n L f = 12 := fun hx => by
    have hn : ¬ tB n L f := fun q => hx q.2
    exact ⟨tV_no hn, by unfold tE; rw [if_neg hn, if_pos h1]⟩
  have HY0 : okT (ldV n L f 4) (ldV n L f 5) (ldV n L f 6) → tV n L f = tcV (ldV n L f 4 == 1) (ldV n L f 5) (ldV n L f 6) ∧ tE n L f = 0 := fun hx => by
    have hn : tB n L f := ⟨h1, hx⟩
    exact ⟨by unfold tV tZ tL tP; rw [if_pos hn, if_pos hn, if_pos hn], by unfold tE; rw [if_pos hn]⟩
  have hno : ¬ okT (ldV n L f 4) (ldV n L f 5) (ldV n L f 6) := fun q => h2 (fun i hi => by
    have q1 := q.1
    have q2 := q.2.1
    have q3 := q.2.2.1
    rcases (by omega : i = 0 ∨ i = 1 ∨ i = 2) with rfl | rfl | rfl
    · show ldV n L f 4 ≤ _
      omega
    · show ldV n L f 5 ≤ _
      omega
    · show ldV n L f 6 ≤ _
      omega)
  have HN := Lib.hid (HN0 hno)
  have HR : ∀ (W : World) (q : Ref02.RM W B r v n bs L), Calls Try.prog 85 #[.pointer (some ⟨r, 0, none⟩), .int .i64 f, .int .i64 3] W fun x w' => x = .returned (.tuple #[.slice none 0 0, .bool false]) ∧ Chg [] W w' := fun W q =>
    Calls.mono (Ref17.read_ok q n1 n2 hu f 3 (by decide)) (by rintro x w' ⟨⟨hr, _⟩ | ⟨_, hx⟩, k⟩; exact absurd hr h2; exact ⟨hx, k⟩)
  clear h1 h2 hu n1 n2 HN0 HY0 hno
  obtain ⟨q, eq⟩ : ∃ q, w.heap.size = q := ⟨_, rfl⟩
  have Q := Blk.new' w 23 (tcC false 0 0) eq
  have hq : w.heap.size ≤ q := by omega
  replace h := h.alloc (.cells (tcC false 0 0) 23)
  have K := (Chg.refl [] w).alloc (.cells (tcC false 0 0) 23)
  go_enter Try.func27, Try.ntmps27
  go_wp2_with fail
  refine Calls.mono (HI.out _ h) ?_
  rintro x w1 ⟨rfl, k1⟩
  replace h := h.chg0 k1
  replace Q := Q.chg k1 (by simp)
  replace K := K.trans k1 (by simp)
  clear k1 eq HI
  go_wp2_with fail
  refine Calls.mono (HR _ h) ?_
  rintro x w2 ⟨rfl, k2⟩
  clear h HR
  replace Q := Q.chg k2 (by simp)
  replace K := K.trans k2 (by simp)
  clear k2
  obtain ⟨q0, q1, q2⟩ := blk3 Q
  have f0 := Q.frozen 0
  have f1 := Q.frozen 1
  have f2 := Q.frozen 2
  have D := wr3_blk (d := q) Q (.bool false) (.int .i64 0) (.int .i64 0)
  have KK := wr3_chg (d := q) K hq (.bool false) (.int .i64 0) (.int .i64 0)
  unfold wr3 at D KK
  obtain ⟨d0, d1, d2⟩ := blk3 D
  go_wp2
  refine ⟨rfl, .tuple #[tcV false 0 0, .int .i64 12], ?_, by rw [HN.out.1, HN.out.2], KK⟩
  simp [results, go_sem, d0, d1, d2]
theorem get_read {w : World} {B r n : Nat} {v : Value} {bs : List (Nat × Nat)} {L : List Int} (h : Ref02.RM w B r v n bs L) (n1 : 1 ≤ n) (n2 : n ≤ 64) (hu : U64 L) (f : Int) (h1 : isE n L f 5 = 0) (h2 : Ref17.rdOk n L f 3) : Calls Try.prog 27 #[.pointer (some ⟨r, 0, none⟩), .int .i64 f] w fun x w' => x = .returned (.tuple #[tV n L f, .int .i64 (tE n L f)]) ∧ Chg [] w w' := by
  have HI0 := fun (W : World) (q : Ref02.RM W B r v n bs L) => HeadRefIs.is_ok q n1 n2 hu f 5
  rw [h1] at HI0
  have HI := Lib.hid HI0
  clear HI0
  have HN0 : ¬ okT (ldV n L f 4) (ldV n L f 5) (ldV n L f 6) → tV n L f = tcV false 0 0 ∧ tE n L f = 12 := fun hx => by
    have hn : ¬ tB n L f := fun q => hx q.2
    exact ⟨tV_no hn, by unfold tE; rw [if_neg hn, if_pos h1]⟩
  have HY0 : okT (ldV n L f 4) (ldV n L f 5) (ldV n L f 6) → tV n L f = tcV (ldV n L f 4 == 1) (ldV n L f 5) (ldV n L f 6) ∧ tE n L f = 0 := fun hx => by
    have hn : tB n L f := ⟨h1, hx⟩
    exact ⟨by unfold tV tZ tL tP; rw [if_pos hn, if_pos hn, if_pos hn], by unfold tE; rw [if_pos hn]⟩
  have HR0 : ∀ (W : World) (q : Ref02.RM W B r v n bs L), Calls Try.prog 85 #[.pointer (some ⟨r, 0, none⟩), .int .i64 f, .int .i64 3] W fun x w' => (∃ s, x = .returned (.tuple #[s, .bool true]) ∧ w'.ownsRow 0 3 1 s 3 (nums .i64 [ldV n L f 4, ldV n L f 5, ldV n L f 6])) ∧ Chg [] W w' := fun W q =>
    Calls.mono (Ref17.read_ok q n1 n2 hu f 3 (by decide)) (by rintro x w' ⟨⟨_, hx⟩ | ⟨hr, _⟩, k⟩; exact ⟨hx, k⟩; exact absurd h2 hr)
  have b0 := hu.ld (n := n) f 4
  have b1 := hu.ld (n := n) f 5
  have b2 := hu.ld (n := n) f 6
  generalize ldV n L f 4 = x0 at *
  generalize ldV n L f 5 = x1 at *
  generalize ldV n L f 6 = x2 at *
  generalize tV n L f = TV at *
  generalize tE n L f = TE at *
  have HN := Lib.hid HN0
  have HY := Lib.hid HY0
  have HR := Lib.hid HR0
  clear HN0 HY0 HR0 hu h1 h2 n1 n2
  obtain ⟨q, eq⟩ : ∃ q, w.heap.size = q := ⟨_, rfl⟩
  have Q := Blk.new' w 23 (tcC false 0 0) eq
  have hq : w.heap.size ≤ q := by omega
  replace h := h.alloc (.cells (tcC false 0 0) 23)
  have K := (Chg.refl [] w).alloc (.cells (tcC false 0 0) 23)
  go_enter Try.func27, Try.ntmps27
  go_wp2_with fail
  refine Calls.mono (HI.out _ h) ?_
  rintro x w1 ⟨rfl, k1⟩
  replace h := h.chg0 k1
  replace Q := Q.chg k1 (by simp)
  replace K := K.trans k1 (by simp)
  clear k1 eq HI
  go_wp2_with fail
  refine Calls.mono (HR.out _ h) ?_
  rintro x w2 ⟨⟨s, rfl, S⟩, k2⟩
  clear h HR
  replace Q := Q.chg k2 (by simp)
  replace K := K.trans k2 (by simp)
  clear k2
  obtain ⟨y, cap, rfl, -, -⟩ := S.form (by decide)
  have s0 : w2.cell? ⟨y, 0, none⟩ = some (.int .i64 x0) := S.cellAt 0 (by decide)
  have s1 : w2.cell? ⟨y, 1, none⟩ = some (.int .i64 x1) := S.cellAt 1 (by decide)
  have s2 : w2.cell? ⟨y, 2, none⟩ = some (.int .i64 x2) := S.cellAt 2 (by decide)
  clear S
  by_cases hb : 1 < x0
  · have hx : ¬ okT x0 x1 x2 := fun q => by have := q.1; omega
    obtain ⟨q0, q1, q2⟩ := blk3 Q
    have f0 := Q.frozen 0
    have f1 := Q.frozen 1
    have f2 := Q.frozen 2
    have D := wr3_blk (d := q) Q (.bool false) (.int .i64 0) (.int .i64 0)
    have KK := wr3_chg (d := q) K hq (.bool false) (.int .i64 0) (.int .i64 0)
    unfold wr3 at D KK
    obtain ⟨d0, d1, d2⟩ := blk3 D
    go_wp2
    refine ⟨rfl, .tuple #[tcV false 0 0, .int .i64 12], ?_, by rw [(HN.out hx).1, (HN.out hx).2], KK⟩
    simp [results, go_sem, d0, d1, d2]
  · have HT0 := Ref20.right_ok (x0 == 1) x1 x2
    go_wp2
    generalize hz : (x0 == 1) = z at *
    go_region_held3 (fun V => V.cell? ⟨y, 0, none⟩ = some (.int .i64 x0) ∧ V.cell? ⟨y, 1, none⟩ = some (.int .i64 x1) ∧ V.cell? ⟨y, 2, none⟩ = some (.int .i64 x2)) (go_keep) (fail)
    obtain ⟨t, et⟩ : ∃ y, w2.heap.size = y := ⟨_, rfl⟩
    have T := (Blk.new' w2 23 (tcC z x1 x2) et).drew
    replace Q := (Q.alloc (.cells (tcC z x1 x2) 23)).drew
    replace K := (K.alloc (.cells (tcC z x1 x2) 23)).drew
    clear s0 s1 s2
    obtain ⟨t0, t1, t2⟩ := blk3 T
    by_cases hr : rightC z x1 x2 = true
    · have hx : okT x0 x1 x2 := by
        have h := right_bd hr
        exact ⟨by omega, by omega, by omega, fun e => h.2.2.2.2 (by rw [← hz, e]; rfl)⟩
      rw [hr] at HT0
      have HT := Lib.hid HT0
      clear HT0 hr hz
      go_wp2_with fail
      refine Calls.mono (HT.out _) ?_
      rintro x w3 ⟨rfl, k2⟩
      replace Q := Q.chg k2 (by simp)
      replace T := T.chg k2 (by simp)
      replace K := K.trans k2 (by simp)
      clear k2 HT t0 t1 t2
      obtain ⟨t0, t1, t2⟩ := blk3 T
      obtain ⟨q0, q1, q2⟩ := blk3 Q
      have f0 := Q.frozen 0
      have f1 := Q.frozen 1
      have f2 := Q.frozen 2
      have D := wr3_blk (d := q) Q (.bool z) (.int .i64 x1) (.int .i64 x2)
      have KK := wr3_chg (d := q) K hq (.bool z) (.int .i64 x1) (.int .i64 x2)
      unfold wr3 at D KK
      obtain ⟨d0, d1, d2⟩ := blk3 D
      go_wp2
      refine ⟨rfl, .tuple #[tcV z x1 x2, .int .i64 0], ?_, by rw [(HY.out hx).1, (HY.out hx).2], KK⟩
      simp [results, go_sem, d0, d1, d2]
    · have hx : ¬ okT x0 x1 x2 := fun q => hr (right_mk ⟨by omega, q.2.1, by omega, q.2.2.1, fun e => q.2.2.2 (by rw [← hz] at e; simpa using e)⟩)
      have hr' : rightC z x1 x2 = false := by simpa using hr
      rw [hr'] at HT0
      have HT := Lib.hid HT0
      clear HT0 hr hr' hz
      go_wp2_with fail
      refine Calls.mono (HT.out _) ?_
      rintro x w3 ⟨rfl, k2⟩
      replace Q := Q.chg k2 (by simp)
      replace K := K.trans k2 (by simp)
      clear k2 HT t0 t1 t2 T
      obtain ⟨q0, q1, q2⟩ := blk3 Q
      have f0 := Q.frozen 0
      have f1 := Q.frozen 1
      have f2 := Q.frozen 2
      have D := wr3_blk (d := q) Q (.bool false) (.int .i64 0) (.int .i64 0)
      have KK := wr3_chg (d := q) K hq (.bool false) (.int .i64 0) (.int .i64 0)
      unfold wr3 at D KK
      obtain ⟨d0, d1, d2⟩ := blk3 D
      go_wp2
      refine ⟨rfl, .tuple #[tcV false 0 0, .int .i64 12], ?_, by rw [(HN.out hx).1, (HN.out hx).2], KK⟩
      simp [results, go_sem, d0, d1, d2]
theorem get_ok {w : World} {B r n : Nat} {v : Value} {bs : List (Nat × Nat)} {L : List Int} (h : Ref02.RM w B r v n bs L) (n1 : 1 ≤ n) (n2 : n ≤ 64) (hu : U64 L) (f : Int)  : Calls Try.prog 27 #[.pointer (some ⟨r, 0, none⟩), .int .i64 f] w fun x w' => x = .returned (.tuple #[tV n L f, .int .i64 (tE n L f)]) ∧ Chg [] w w' := by
  by_cases h1 : isE n L f 5 = 0
  · by_cases h2 : Ref17.rdOk n L f 3
    · exact Ref20.get_read h n1 n2 hu f h1 h2
    · exact Ref20.get_big h n1 n2 hu f h1 h2
  · exact Ref20.get_type h n1 n2 hu f h1
theorem lay3_ok {w : World} {B r n : Nat} {v : Value} {bs : List (Nat × Nat)} {L : List Int} (h : Ref02.RM w B r v n bs L) (n1 : 1 ≤ n) (n2 : n ≤ 64) (f : Int) (g : Nat) (z : Bool) (l t : Int) (hb : Blk w g 3 (n3C (b2i z) l t)) (hr : rightC z l t = true) :
    Calls Try.prog 77 #[.pointer (some ⟨r, 0, none⟩), .int .i64 f, .slice (some ⟨g, 0, none⟩) 3 3] w fun x w' => x = .returned (.tuple #[]) ∧ Ref02.RM w' B r v n bs (layL n L f 4 [b2i z, l, t]) ∧ Ref02.Chr (bs.map Prod.fst) B w w' :=
  Ref17.lay_ok h n1 n2 f g 3 [b2i z, l, t] hb (fun x hx => by
    have h1 := right_bd hr
    have h2 := b2i_bd z
    simp at hx
    omega) (by simp)
theorem put_arg {w : World} {B r n : Nat} {v : Value} {bs : List (Nat × Nat)} {L : List Int} (h : Ref02.RM w B r v n bs L) (n1 : 1 ≤ n) (n2 : n ≤ 64) (f : Int) (z : Bool) (l t : Int) (h1 : rightC z l t = false) : Calls Try.prog 22 #[.pointer (some ⟨r, 0, none⟩), .int .i64 f, tcV z l t] w fun x w' => x = .returned (.int .i64 1) ∧ Ref02.RM w' B r v n bs L ∧ Ref02.Chr (bs.map Prod.fst) B w w' := by
  have HR0 := Ref20.right_ok z l t
  rw [h1] at HR0
  have HR := Lib.hid HR0
  clear HR0 h1 n1 n2
  obtain ⟨p, ep⟩ : ∃ q, w.heap.size = q := ⟨_, rfl⟩
  have P := Blk.new' w 23 (tcC z l t) ep
  replace h := h.alloc (.cells (tcC z l t) 23)
  have K := (Chg.refl [] w).alloc (.cells (tcC z l t) 23)
  obtain ⟨p0, p1, p2⟩ := blk3 P
  go_enter Try.func22, Try.ntmps22
  go_wp2_with fail
  refine Calls.mono (HR.out _) ?_
  rintro x w1 ⟨rfl, k1⟩
  clear HR p0 p1 p2
  replace h := h.chg0 k1
  replace P := P.chg k1 (by simp)
  replace K := K.trans k1 (by simp)
  clear k1
  go_wp2
  go_ret
  exact ⟨rfl, h, Ref02.Chr.of0 K⟩
theorem put_type {w : World} {B r n : Nat} {v : Value} {bs : List (Nat × Nat)} {L : List Int} (h : Ref02.RM w B r v n bs L) (n1 : 1 ≤ n) (n2 : n ≤ 64) (hu : U64 L) (f : Int) (z : Bool) (l t : Int) (h1 : rightC z l t = true) (h2 : ¬ isE n L f 5 = 0) : Calls Try.prog 22 #[.pointer (some ⟨r, 0, none⟩), .int .i64 f, tcV z l t] w fun x w' => x = .returned (.int .i64 4) ∧ Ref02.RM w' B r v n bs L ∧ Ref02.Chr (bs.map Prod.fst) B w w' := by
  have HR0 := Ref20.right_ok z l t
  rw [h1] at HR0
  have HR := Lib.hid HR0
  have HI0 := fun (W : World) (q : Ref02.RM W B r v n bs L) => HeadRefIs.is_ok q n1 n2 hu f 5
  generalize isE n L f 5 = e0 at *
  have hb0 : (e0 != 0) = true := by rw [bne_iff_ne]; exact h2
  have HI := Lib.hid HI0
  clear HR0 HI0 h1 hu n1 n2
  obtain ⟨p, ep⟩ : ∃ q, w.heap.size = q := ⟨_, rfl⟩
  have P := Blk.new' w 23 (tcC z l t) ep
  replace h := h.alloc (.cells (tcC z l t) 23)
  have K := (Chg.refl [] w).alloc (.cells (tcC z l t) 23)
  obtain ⟨p0, p1, p2⟩ := blk3 P
  go_enter Try.func22, Try.ntmps22
  go_wp2_with fail
  refine Calls.mono (HR.out _) ?_
  rintro x w1 ⟨rfl, k1⟩
  clear HR p0 p1 p2
  replace h := h.chg0 k1
  replace P := P.chg k1 (by simp)
  replace K := K.trans k1 (by simp)
  clear k1
  go_wp2_with fail
  refine Calls.mono (HI.out _ h) ?_
  rintro x w2 ⟨rfl, k2⟩
  clear HI
  replace h := h.chg0 k2
  replace P := P.chg k2 (by simp)
  replace K := K.trans k2 (by simp)
  clear k2
  go_wp2
  go_ret
  exact ⟨rfl, h, Ref02.Chr.of0 K⟩
theorem put_yes {w : World} {B r n : Nat} {v : Value} {bs : List (Nat × Nat)} {L : List Int} (h : Ref02.RM w B r v n bs L) (n1 : 1 ≤ n) (n2 : n ≤ 64) (hu : U64 L) (f : Int) (z : Bool) (l t : Int) (h1 : rightC z l t = true) (h2 : isE n L f 5 = 0) : Calls Try.prog 22 #[.pointer (some ⟨r, 0, none⟩), .int .i64 f, tcV z l t] w fun x w' => x = .returned (.int .i64 0) ∧ Ref02.RM w' B r v n bs (layL n L f 4 [b2i z, l, t]) ∧ Ref02.Chr (bs.map Prod.fst) B w w' := by
  have HR0 := Ref20.right_ok z l t
  rw [h1] at HR0
  have HR := Lib.hid HR0
  have HI0 := fun (W : World) (q : Ref02.RM W B r v n bs L) => HeadRefIs.is_ok q n1 n2 hu f 5
  rw [h2] at HI0
  have HI := Lib.hid HI0
  have HRR := Lib.hid h1
  clear HR0 HI0 h1 h2 hu
  obtain ⟨p, ep⟩ : ∃ q, w.heap.size = q := ⟨_, rfl⟩
  have P := Blk.new' w 23 (tcC z l t) ep
  replace h := h.alloc (.cells (tcC z l t) 23)
  have K := (Chg.refl [] w).alloc (.cells (tcC z l t) 23)
  obtain ⟨p0, p1, p2⟩ := blk3 P
  go_enter Try.func22, Try.ntmps22
  go_wp2_with fail
  refine Calls.mono (HR.out _) ?_
  rintro x w1 ⟨rfl, k1⟩
  clear HR p0 p1 p2
  replace h := h.chg0 k1
  replace P := P.chg k1 (by simp)
  replace K := K.trans k1 (by simp)
  clear k1
  go_wp2_with fail
  refine Calls.mono (HI.out _ h) ?_
  rintro x w2 ⟨rfl, k2⟩
  clear HI
  replace h := h.chg0 k2
  replace P := P.chg k2 (by simp)
  replace K := K.trans k2 (by simp)
  clear k2
  obtain ⟨p0, p1, p2⟩ := blk3 P
  go_wp2_with fail
  refine Calls.mono (Ref20.words_ok _ _ _ _) ?_
  rintro x w3 ⟨y, rfl, Y, -, k3⟩
  clear p0 p1 p2 P
  have HL := lay3_ok (h.chg0 k3) n1 n2 f y z l t Y HRR.out
  have K := Ref02.Chr.of0 (R := bs.map Prod.fst) (B := B) (K.trans k3 (by simp))
  have HL' := Lib.hid HL
  clear HL k3 Y n1 n2 h
  go_wp2_with fail
  refine Calls.mono HL'.out ?_
  rintro x w4 ⟨rfl, m4, k4⟩
  replace K := HeadRef.chr_trans K k4
  clear k4 HL'
  go_wp2
  go_ret
  exact ⟨rfl, m4, K⟩
theorem put_ok {w : World} {B r n : Nat} {v : Value} {bs : List (Nat × Nat)} {L : List Int} (h : Ref02.RM w B r v n bs L) (n1 : 1 ≤ n) (n2 : n ≤ 64) (hu : U64 L) (f : Int) (z : Bool) (l t : Int)  : Calls Try.prog 22 #[.pointer (some ⟨r, 0, none⟩), .int .i64 f, tcV z l t] w fun x w' => x = .returned (.int .i64 (pE n L f z l t)) ∧ Ref02.RM w' B r v n bs (pL n L f z l t) ∧ Ref02.Chr (bs.map Prod.fst) B w w' := by
  unfold pE pL
  by_cases h1 : rightC z l t = true
  · by_cases h2 : isE n L f 5 = 0
    · rw [if_pos h1, if_pos h2, if_pos ⟨h1, h2⟩]
      exact Ref20.put_yes h n1 n2 hu f z l t h1 h2
    · rw [if_pos h1, if_neg h2, if_neg (fun q => h2 q.2)]
      exact Ref20.put_type h n1 n2 hu f z l t h1 h2
  · rw [if_neg h1, if_neg (fun q => h1 q.1)]
    exact Ref20.put_arg h n1 n2 f z l t (by simpa using h1)
theorem make_arg {w : World} {B r n : Nat} {v : Value} {bs : List (Nat × Nat)} {L : List Int} (h : Ref02.RM w B r v n bs L) (n1 : 1 ≤ n) (n2 : n ≤ 64) (f : Int) (z : Bool) (l t : Int) (h1 : rightC z l t = false) : Calls Try.prog 20 #[.pointer (some ⟨r, 0, none⟩), .int .i64 f, tcV z l t] w fun x w' => x = .returned (.int .i64 1) ∧ Ref02.RM w' B r v n bs L ∧ Ref02.Chr (bs.map Prod.fst) B w w' := by
  have HR0 := Ref20.right_ok z l t
  rw [h1] at HR0
  have HR := Lib.hid HR0
  clear HR0 h1 n1 n2
  obtain ⟨p, ep⟩ : ∃ q, w.heap.size = q := ⟨_, rfl⟩
  have P := Blk.new' w 23 (tcC z l t) ep
  replace h := h.alloc (.cells (tcC z l t) 23)
  have K := (Chg.refl [] w).alloc (.cells (tcC z l t) 23)
  obtain ⟨p0, p1, p2⟩ := blk3 P
  go_enter Try.func20, Try.ntmps20
  go_wp2_with fail
  refine Calls.mono (HR.out _) ?_
  rintro x w1 ⟨rfl, k1⟩
  clear HR p0 p1 p2
  replace h := h.chg0 k1
  replace P := P.chg k1 (by simp)
  replace K := K.trans k1 (by simp)
  clear k1
  go_wp2
  go_ret
  exact ⟨rfl, h, Ref02.Chr.of0 K⟩
theorem make_no {w : World} {B r n : Nat} {v : Value} {bs : List (Nat × Nat)} {L : List Int} (h : Ref02.RM w B r v n bs L) (n1 : 1 ≤ n) (n2 : n ≤ 64) (f : Int) (z : Bool) (l t : Int) (h1 : rightC z l t = true) (h2 : ¬ (0 ≤ f ∧ f < n)) : Calls Try.prog 20 #[.pointer (some ⟨r, 0, none⟩), .int .i64 f, tcV z l t] w fun x w' => x = .returned (.int .i64 1) ∧ Ref02.RM w' B r v n bs L ∧ Ref02.Chr (bs.map Prod.fst) B w w' := by
  have HR0 := Ref20.right_ok z l t
  rw [h1] at HR0
  have HR := Lib.hid HR0
  have HM0 := fun (W : World) (q : Ref02.RM W B r v n bs L) => HeadRefIs.make_ok q n1 n2 f 5 0 false 0
  rw [hmake_no h2, show hputE n f 5 0 false 0 = 1 from by unfold hputE canF; rw [if_pos (by decide), if_neg h2]] at HM0
  have HM := Lib.hid HM0
  clear HR0 HM0 h1 h2 n1 n2
  obtain ⟨p, ep⟩ : ∃ q, w.heap.size = q := ⟨_, rfl⟩
  have P := Blk.new' w 23 (tcC z l t) ep
  replace h := h.alloc (.cells (tcC z l t) 23)
  have K := (Chg.refl [] w).alloc (.cells (tcC z l t) 23)
  obtain ⟨p0, p1, p2⟩ := blk3 P
  go_enter Try.func20, Try.ntmps20
  go_wp2_with fail
  refine Calls.mono (HR.out _) ?_
  rintro x w1 ⟨rfl, k1⟩
  clear HR p0 p1 p2
  replace h := h.chg0 k1
  replace P := P.chg k1 (by simp)
  replace K := K.trans k1 (by simp)
  clear k1
  go_wp2_with fail
  refine Calls.mono (HM.out _ h) ?_
  rintro x w2 ⟨rfl, m2, k2⟩
  clear HM
  replace P := Ref02.chr_blk P k2 (.inl (by decide))
  replace K := HeadRef.chr_trans (Ref02.Chr.of0 K) k2
  clear k2 h
  clear P
  go_wp2
  go_ret
  exact ⟨rfl, m2, K⟩
theorem make_yes {w : World} {B r n : Nat} {v : Value} {bs : List (Nat × Nat)} {L : List Int} (h : Ref02.RM w B r v n bs L) (n1 : 1 ≤ n) (n2 : n ≤ 64) (f : Int) (z : Bool) (l t : Int) (h1 : rightC z l t = true) (h2 : 0 ≤ f ∧ f < n) : Calls Try.prog 20 #[.pointer (some ⟨r, 0, none⟩), .int .i64 f, tcV z l t] w fun x w' => x = .returned (.int .i64 0) ∧ Ref02.RM w' B r v n bs (layL n (hmakeL n L f 5 0 false 0) f 4 [b2i z, l, t]) ∧ Ref02.Chr (bs.map Prod.fst) B w w' := by
  have HR0 := Ref20.right_ok z l t
  rw [h1] at HR0
  have HR := Lib.hid HR0
  have HM0 := fun (W : World) (q : Ref02.RM W B r v n bs L) => HeadRefIs.make_ok q n1 n2 f 5 0 false 0
  rw [show hputE n f 5 0 false 0 = 0 from by unfold hputE canF; rw [if_pos (by decide), if_pos h2]] at HM0
  have HM := Lib.hid HM0
  have HRR := Lib.hid h1
  generalize hmakeL n L f 5 0 false 0 = M at *
  clear HR0 HM0 h1 h2
  obtain ⟨p, ep⟩ : ∃ q, w.heap.size = q := ⟨_, rfl⟩
  have P := Blk.new' w 23 (tcC z l t) ep
  replace h := h.alloc (.cells (tcC z l t) 23)
  have K := (Chg.refl [] w).alloc (.cells (tcC z l t) 23)
  obtain ⟨p0, p1, p2⟩ := blk3 P
  go_enter Try.func20, Try.ntmps20
  go_wp2_with fail
  refine Calls.mono (HR.out _) ?_
  rintro x w1 ⟨rfl, k1⟩
  clear HR p0 p1 p2
  replace h := h.chg0 k1
  replace P := P.chg k1 (by simp)
  replace K := K.trans k1 (by simp)
  clear k1
  go_wp2_with fail
  refine Calls.mono (HM.out _ h) ?_
  rintro x w2 ⟨rfl, m2, k2⟩
  clear HM
  replace P := Ref02.chr_blk P k2 (.inl (by decide))
  replace K := HeadRef.chr_trans (Ref02.Chr.of0 K) k2
  clear k2 h
  obtain ⟨p0, p1, p2⟩ := blk3 P
  go_wp2_with fail
  refine Calls.mono (Ref20.words_ok _ _ _ _) ?_
  rintro x w3 ⟨y, rfl, Y, -, k3⟩
  clear p0 p1 p2 P
  have HL := lay3_ok (m2.chg0 k3) n1 n2 f y z l t Y HRR.out
  replace K := HeadRef.chr0 K k3
  have HL' := Lib.hid HL
  clear HL k3 Y n1 n2 m2
  go_wp2_with fail
  refine Calls.mono HL'.out ?_
  rintro x w4 ⟨rfl, m4, k4⟩
  replace K := HeadRef.chr_trans K k4
  clear k4 HL'
  go_wp2
  go_ret
  exact ⟨rfl, m4, K⟩
theorem make_ok {w : World} {B r n : Nat} {v : Value} {bs : List (Nat × Nat)} {L : List Int} (h : Ref02.RM w B r v n bs L) (n1 : 1 ≤ n) (n2 : n ≤ 64) (f : Int) (z : Bool) (l t : Int)  : Calls Try.prog 20 #[.pointer (some ⟨r, 0, none⟩), .int .i64 f, tcV z l t] w fun x w' => x = .returned (.int .i64 (mE n f z l t)) ∧ Ref02.RM w' B r v n bs (mL n L f z l t) ∧ Ref02.Chr (bs.map Prod.fst) B w w' := by
  unfold mE mL canF
  by_cases h1 : rightC z l t = true
  · by_cases h2 : 0 ≤ f ∧ f < n
    · rw [if_pos h1, if_pos h2, if_pos ⟨h1, h2⟩]
      exact Ref20.make_yes h n1 n2 f z l t h1 h2
    · rw [if_pos h1, if_neg h2, if_neg (fun q => h2 q.2)]
      exact Ref20.make_no h n1 n2 f z l t h1 h2
  · rw [if_neg h1, if_neg (fun q => h1 q.1)]
    exact Ref20.make_arg h n1 n2 f z l t (by simpa using h1)
end Go.Proofs.Ytknbeklplmhheaa.Ref20
