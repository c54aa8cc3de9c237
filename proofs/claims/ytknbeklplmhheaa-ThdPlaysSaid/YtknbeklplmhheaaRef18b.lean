/- Package palanquinref18: Put, Make, State, Save, Load, Reg. -/
import Derived.Test.YtknbeklplmhheaaRef18
namespace Go.Proofs.Ytknbeklplmhheaa.Ref18b
open Go Go.RowKit Go.Proofs.Ytknbeklplmhheaa Go.Proofs.Ytknbeklplmhheaa.Heap Go.Proofs.Ytknbeklplmhheaa.Mem Go.Proofs.Ytknbeklplmhheaa.Two Go.Proofs.Ytknbeklplmhheaa.Head Go.Proofs.Ytknbeklplmhheaa.HeadPut Go.Proofs.Ytknbeklplmhheaa.HeadIs Go.Proofs.Ytknbeklplmhheaa.Lay Go.Proofs.Ytknbeklplmhheaa.Thd Go.Proofs.Ytknbeklplmhheaa.ThdGet Go.Proofs.Ytknbeklplmhheaa.ThdPut Go.Proofs.Ytknbeklplmhheaa.ThdRegs Go.Proofs.Ytknbeklplmhheaa.Ref17 Go.Proofs.Ytknbeklplmhheaa.Ref05 Go.Proofs.Ytknbeklplmhheaa.Ref18

theorem lay5_ok {w : World} {B r n : Nat} {v : Value} {bs : List (Nat × Nat)} {L : List Int} (h : Ref02.RM w B r v n bs L) (n1 : 1 ≤ n) (n2 : n ≤ 64) (f : Int) (g : Nat) (a b c d e : Int) (hb : Blk w g 3 (numC a b c d e)) (hr : rightT a b c d e = true) :
    Calls Try.prog 77 #[.pointer (some ⟨r, 0, none⟩), .int .i64 f, .slice (some ⟨g, 0, none⟩) 5 5] w fun x w' => x = .returned (.tuple #[]) ∧ Ref02.RM w' B r v n bs (layL n L f 4 [a, b, c, d, e]) ∧ Ref02.Chr (bs.map Prod.fst) B w w' :=
  lay_ok h n1 n2 f g 5 [a, b, c, d, e] hb (fun x hx => by
    obtain ⟨h1, h2, h3, h4, h5⟩ := right_bd hr
    simp at hx
    omega) (by simp)
set_option linter.unusedVariables false
set_option maxRecDepth 100000
set_option maxHeartbeats 2000000
theorem put_arg {w : World} {B r n : Nat} {v : Value} {bs : List (Nat × Nat)} {L : List Int} (h : Ref02.RM w B r v n bs L) (n1 : 1 ≤ n) (n2 : n ≤ 64) (f a b c d e : Int) (h1 : rightT a b c d e = false) : Calls Try.prog 44 #[.pointer (some ⟨r, 0, none⟩), .int .i64 f, numV a b c d e] w fun x w' => x = .returned (.int .i64 1) ∧ Ref02.RM w' B r v n bs L ∧ Ref02.Chr (bs.map Prod.fst) B w w' := by
  have HR0 := Ref18.right_ok a b c d e
  rw [h1] at HR0
  have HR := Lib.hid HR0
  clear HR0 h1 n1 n2
  obtain ⟨p, ep⟩ : ∃ q, w.heap.size = q := ⟨_, rfl⟩
  have P := Blk.new' w 43 (numC a b c d e) ep
  replace h := h.alloc (.cells (numC a b c d e) 43)
  have K := (Chg.refl [] w).alloc (.cells (numC a b c d e) 43)
  obtain ⟨p0, p1, p2, p3, p4⟩ := blk5 P
  go_enter Try.func44, Try.ntmps44
  go_wp2_with fail
  refine Calls.mono (HR.out _) ?_
  rintro x w1 ⟨rfl, k1⟩
  clear HR p0 p1 p2 p3 p4
  replace h := h.chg0 k1
  replace P := P.chg k1 (by simp)
  replace K := K.trans k1 (by simp)
  clear k1
  go_wp2
  go_ret
  exact ⟨rfl, h, Ref02.Chr.of0 K⟩
theorem put_type {w : World} {B r n : Nat} {v : Value} {bs : List (Nat × Nat)} {L : List Int} (h : Ref02.RM w B r v n bs L) (n1 : 1 ≤ n) (n2 : n ≤ 64) (hu : U64 L) (f a b c d e : Int) (h1 : rightT a b c d e = true) (h2 : ¬ isE n L f 4 = 0) : Calls Try.prog 44 #[.pointer (some ⟨r, 0, none⟩), .int .i64 f, numV a b c d e] w fun x w' => x = .returned (.int .i64 4) ∧ Ref02.RM w' B r v n bs L ∧ Ref02.Chr (bs.map Prod.fst) B w w' := by
  have HR0 := Ref18.right_ok a b c d e
  rw [h1] at HR0
  have HR := Lib.hid HR0
  have HI0 := fun (W : World) (q : Ref02.RM W B r v n bs L) => HeadRefIs.is_ok q n1 n2 hu f 4
  generalize isE n L f 4 = e0 at *
  have hb0 : (e0 != 0) = true := by rw [bne_iff_ne]; exact h2
  have HI := Lib.hid HI0
  clear HR0 HI0 h1 hu n1 n2
  obtain ⟨p, ep⟩ : ∃ q, w.heap.size = q := ⟨_, rfl⟩
  have P := Blk.new' w 43 (numC a b c d e) ep
  replace h := h.alloc (.cells (numC a b c d e) 43)
  have K := (Chg.refl [] w).alloc (.cells (numC a b c d e) 43)
  obtain ⟨p0, p1, p2, p3, p4⟩ := blk5 P
  go_enter Try.func44, Try.ntmps44
  go_wp2_with fail
  refine Calls.mono (HR.out _) ?_
  rintro x w1 ⟨rfl, k1⟩
  clear HR p0 p1 p2 p3 p4
  replace h := h.chg0 k1
  replace P := P.chg k1 (by simp)
  replace K := K.trans k1 (by simp)
  clear k1
  go_wp2_with fail
  refine Calls.mono (HI.out _ h) ?_
  rintro x w2 ⟨rfl, k2⟩
  clear HI
  replace h := h.chg0 k2
  replace P := P.chg k2 (by simp)
  replace K := K.trans k2 (by simp)
  clear k2
  go_wp2
  go_ret
  exact ⟨rfl, h, Ref02.Chr.of0 K⟩
theorem put_yes {w : World} {B r n : Nat} {v : Value} {bs : List (Nat × Nat)} {L : List Int} (h : Ref02.RM w B r v n bs L) (n1 : 1 ≤ n) (n2 : n ≤ 64) (hu : U64 L) (f a b c d e : Int) (h1 : rightT a b c d e = true) (h2 : isE n L f 4 = 0) : Calls Try.prog 44 #[.pointer (some ⟨r, 0, none⟩), .int .i64 f, numV a b c d e] w fun x w' => x = .returned (.int .i64 0) ∧ Ref02.RM w' B r v n bs (layL n L f 4 [a, b, c, d, e]) ∧ Ref02.Chr (bs.map Prod.fst) B w w' := by
  have HR0 := Ref18.right_ok a b c d e
  rw [h1] at HR0
  have HR := Lib.hid HR0
  have HI0 := fun (W : World) (q : Ref02.RM W B r v n bs L) => HeadRefIs.is_ok q n1 n2 hu f 4
  rw [h2] at HI0
  have HI := Lib.hid HI0
  have HRR := Lib.hid h1
  clear HR0 HI0 h1 h2 hu
  obtain ⟨p, ep⟩ : ∃ q, w.heap.size = q := ⟨_, rfl⟩
  have P := Blk.new' w 43 (numC a b c d e) ep
  replace h := h.alloc (.cells (numC a b c d e) 43)
  have K := (Chg.refl [] w).alloc (.cells (numC a b c d e) 43)
  obtain ⟨p0, p1, p2, p3, p4⟩ := blk5 P
  go_enter Try.func44, Try.ntmps44
  go_wp2_with fail
  refine Calls.mono (HR.out _) ?_
  rintro x w1 ⟨rfl, k1⟩
  clear HR p0 p1 p2 p3 p4
  replace h := h.chg0 k1
  replace P := P.chg k1 (by simp)
  replace K := K.trans k1 (by simp)
  clear k1
  go_wp2_with fail
  refine Calls.mono (HI.out _ h) ?_
  rintro x w2 ⟨rfl, k2⟩
  clear HI
  replace h := h.chg0 k2
  replace P := P.chg k2 (by simp)
  replace K := K.trans k2 (by simp)
  clear k2
  obtain ⟨p0, p1, p2, p3, p4⟩ := blk5 P
  go_wp2_with fail
  refine Calls.mono (words_ok _ _ _ _ _ _) ?_
  rintro x w3 ⟨z, rfl, Z, -, k3⟩
  clear p0 p1 p2 p3 p4 P
  have HL := lay5_ok (h.chg0 k3) n1 n2 f z a b c d e Z HRR.out
  have K := Ref02.Chr.of0 (R := bs.map Prod.fst) (B := B) (K.trans k3 (by simp))
  have HL' := Lib.hid HL
  clear HL k3 Z n1 n2 h
  go_wp2_with fail
  refine Calls.mono HL'.out ?_
  rintro x w4 ⟨rfl, m4, k4⟩
  replace K := HeadRef.chr_trans K k4
  clear k4 HL'
  go_wp2
  go_ret
  exact ⟨rfl, m4, K⟩
theorem put_ok {w : World} {B r n : Nat} {v : Value} {bs : List (Nat × Nat)} {L : List Int} (h : Ref02.RM w B r v n bs L) (n1 : 1 ≤ n) (n2 : n ≤ 64) (hu : U64 L) (f a b c d e : Int)  : Calls Try.prog 44 #[.pointer (some ⟨r, 0, none⟩), .int .i64 f, numV a b c d e] w fun x w' => x = .returned (.int .i64 (pE n L f a b c d e)) ∧ Ref02.RM w' B r v n bs (pL n L f a b c d e) ∧ Ref02.Chr (bs.map Prod.fst) B w w' := by
  unfold pE pL
  by_cases h1 : rightT a b c d e = true
  · by_cases h2 : isE n L f 4 = 0
    · rw [if_pos h1, if_pos h2, if_pos ⟨h1, h2⟩]
      exact Ref18b.put_yes h n1 n2 hu f a b c d e h1 h2
    · rw [if_pos h1, if_neg h2, if_neg (fun q => h2 q.2)]
      exact Ref18b.put_type h n1 n2 hu f a b c d e h1 h2
  · rw [if_neg h1, if_neg (fun q => h1 q.1)]
    exact Ref18b.put_arg h n1 n2 f a b c d e (by simpa using h1)
theorem make_arg {w : World} {B r n : Nat} {v : Value} {bs : List (Nat × Nat)} {L : List Int} (h : Ref02.RM w B r v n bs L) (n1 : 1 ≤ n) (n2 : n ≤ 64) (f a b c d e : Int) (h1 : rightT a b c d e = false) : Calls Try.prog 43 #[.pointer (some ⟨r, 0, none⟩), .int .i64 f, numV a b c d e] w fun x w' => x = .returned (.int .i64 1) ∧ Ref02.RM w' B r v n bs L ∧ Ref02.Chr (bs.map Prod.fst) B w w' := by
  have HR0 := Ref18.right_ok a b c d e
  rw [h1] at HR0
  have HR := Lib.hid HR0
  clear HR0 h1 n1 n2
  obtain ⟨p, ep⟩ : ∃ q, w.heap.size = q := ⟨_, rfl⟩
  have P := Blk.new' w 43 (numC a b c d e) ep
  replace h := h.alloc (.cells (numC a b c d e) 43)
  have K := (Chg.refl [] w).alloc (.cells (numC a b c d e) 43)
  obtain ⟨p0, p1, p2, p3, p4⟩ := blk5 P
  go_enter Try.func43, Try.ntmps43
  go_wp2_with fail
  refine Calls.mono (HR.out _) ?_
  rintro x w1 ⟨rfl, k1⟩
  clear HR p0 p1 p2 p3 p4
  replace h := h.chg0 k1
  replace P := P.chg k1 (by simp)
  replace K := K.trans k1 (by simp)
  clear k1
  go_wp2
  go_ret
  exact ⟨rfl, h, Ref02.Chr.of0 K⟩
theorem make_no {w : World} {B r n : Nat} {v : Value} {bs : List (Nat × Nat)} {L : List Int} (h : Ref02.RM w B r v n bs L) (n1 : 1 ≤ n) (n2 : n ≤ 64) (f a b c d e : Int) (h1 : rightT a b c d e = true) (h2 : ¬ (0 ≤ f ∧ f < n)) : Calls Try.prog 43 #[.pointer (some ⟨r, 0, none⟩), .int .i64 f, numV a b c d e] w fun x w' => x = .returned (.int .i64 1) ∧ Ref02.RM w' B r v n bs L ∧ Ref02.Chr (bs.map Prod.fst) B w w' := by
  have HR0 := Ref18.right_ok a b c d e
  rw [h1] at HR0
  have HR := Lib.hid HR0
  have HM0 := fun (W : World) (q : Ref02.RM W B r v n bs L) => HeadRefIs.make_ok q n1 n2 f 4 0 false 0
  rw [hmake_no h2, show hputE n f 4 0 false 0 = 1 from by unfold hputE canF; rw [if_pos (by decide), if_neg h2]] at HM0
  have HM := Lib.hid HM0
  clear HR0 HM0 h1 h2 n1 n2
  obtain ⟨p, ep⟩ : ∃ q, w.heap.size = q := ⟨_, rfl⟩
  have P := Blk.new' w 43 (numC a b c d e) ep
  replace h := h.alloc (.cells (numC a b c d e) 43)
  have K := (Chg.refl [] w).alloc (.cells (numC a b c d e) 43)
  obtain ⟨p0, p1, p2, p3, p4⟩ := blk5 P
  go_enter Try.func43, Try.ntmps43
  go_wp2_with fail
  refine Calls.mono (HR.out _) ?_
  rintro x w1 ⟨rfl, k1⟩
  clear HR p0 p1 p2 p3 p4
  replace h := h.chg0 k1
  replace P := P.chg k1 (by simp)
  replace K := K.trans k1 (by simp)
  clear k1
  go_wp2_with fail
  refine Calls.mono (HM.out _ h) ?_
  rintro x w2 ⟨rfl, m2, k2⟩
  clear HM
  replace P := Ref02.chr_blk P k2 (.inl (by decide))
  replace K := HeadRef.chr_trans (Ref02.Chr.of0 K) k2
  clear k2 h
  clear P
  go_wp2
  go_ret
  exact ⟨rfl, m2, K⟩
theorem make_yes {w : World} {B r n : Nat} {v : Value} {bs : List (Nat × Nat)} {L : List Int} (h : Ref02.RM w B r v n bs L) (n1 : 1 ≤ n) (n2 : n ≤ 64) (f a b c d e : Int) (h1 : rightT a b c d e = true) (h2 : 0 ≤ f ∧ f < n) : Calls Try.prog 43 #[.pointer (some ⟨r, 0, none⟩), .int .i64 f, numV a b c d e] w fun x w' => x = .returned (.int .i64 0) ∧ Ref02.RM w' B r v n bs (layL n (hmakeL n L f 4 0 false 0) f 4 [a, b, c, d, e]) ∧ Ref02.Chr (bs.map Prod.fst) B w w' := by
  have HR0 := Ref18.right_ok a b c d e
  rw [h1] at HR0
  have HR := Lib.hid HR0
  have HM0 := fun (W : World) (q : Ref02.RM W B r v n bs L) => HeadRefIs.make_ok q n1 n2 f 4 0 false 0
  rw [show hputE n f 4 0 false 0 = 0 from by unfold hputE canF; rw [if_pos (by decide), if_pos h2]] at HM0
  have HM := Lib.hid HM0
  have HRR := Lib.hid h1
  generalize hmakeL n L f 4 0 false 0 = M at *
  clear HR0 HM0 h1 h2
  obtain ⟨p, ep⟩ : ∃ q, w.heap.size = q := ⟨_, rfl⟩
  have P := Blk.new' w 43 (numC a b c d e) ep
  replace h := h.alloc (.cells (numC a b c d e) 43)
  have K := (Chg.refl [] w).alloc (.cells (numC a b c d e) 43)
  obtain ⟨p0, p1, p2, p3, p4⟩ := blk5 P
  go_enter Try.func43, Try.ntmps43
  go_wp2_with fail
  refine Calls.mono (HR.out _) ?_
  rintro x w1 ⟨rfl, k1⟩
  clear HR p0 p1 p2 p3 p4
  replace h := h.chg0 k1
  replace P := P.chg k1 (by simp)
  replace K := K.trans k1 (by simp)
  clear k1
  go_wp2_with fail
  refine Calls.mono (HM.out _ h) ?_
  rintro x w2 ⟨rfl, m2, k2⟩
  clear HM
  replace P := Ref02.chr_blk P k2 (.inl (by decide))
  replace K := HeadRef.chr_trans (Ref02.Chr.of0 K) k2
  clear k2 h
  obtain ⟨p0, p1, p2, p3, p4⟩ := blk5 P
  go_wp2_with fail
  refine Calls.mono (words_ok _ _ _ _ _ _) ?_
  rintro x w3 ⟨z, rfl, Z, -, k3⟩
  clear p0 p1 p2 p3 p4 P
  have HL := lay5_ok (m2.chg0 k3) n1 n2 f z a b c d e Z HRR.out
  replace K := HeadRef.chr0 K k3
  have HL' := Lib.hid HL
  clear HL k3 Z n1 n2 m2
  go_wp2_with fail
  refine Calls.mono HL'.out ?_
  rintro x w4 ⟨rfl, m4, k4⟩
  replace K := HeadRef.chr_trans K k4
  clear k4 HL'
  go_wp2
  go_ret
  exact ⟨rfl, m4, K⟩
theorem make_ok {w : World} {B r n : Nat} {v : Value} {bs : List (Nat × Nat)} {L : List Int} (h : Ref02.RM w B r v n bs L) (n1 : 1 ≤ n) (n2 : n ≤ 64) (f a b c d e : Int)  : Calls Try.prog 43 #[.pointer (some ⟨r, 0, none⟩), .int .i64 f, numV a b c d e] w fun x w' => x = .returned (.int .i64 (mE n f a b c d e)) ∧ Ref02.RM w' B r v n bs (mL n L f a b c d e) ∧ Ref02.Chr (bs.map Prod.fst) B w w' := by
  unfold mE mL canF
  by_cases h1 : rightT a b c d e = true
  · by_cases h2 : 0 ≤ f ∧ f < n
    · rw [if_pos h1, if_pos h2, if_pos ⟨h1, h2⟩]
      exact Ref18b.make_yes h n1 n2 f a b c d e h1 h2
    · rw [if_pos h1, if_neg h2, if_neg (fun q => h2 q.2)]
      exact Ref18b.make_no h n1 n2 f a b c d e h1 h2
  · rw [if_neg h1, if_neg (fun q => h1 q.1)]
    exact Ref18b.make_arg h n1 n2 f a b c d e (by simpa using h1)
theorem state_not {w : World} {B r n : Nat} {v : Value} {bs : List (Nat × Nat)} {L : List Int} (h : Ref02.RM w B r v n bs L) (n1 : 1 ≤ n) (n2 : n ≤ 64) (hu : U64 L) (f s : Int) (h1 : ¬ gE n L f = 0) : Calls Try.prog 46 #[.pointer (some ⟨r, 0, none⟩), .int .i64 f, .int .i64 s] w fun x w' => x = .returned (.int .i64 (gE n L f)) ∧ Ref02.RM w' B r v n bs L ∧ Ref02.Chr (bs.map Prod.fst) B w w' := by
  have HG0 := fun (W : World) (q : Ref02.RM W B r v n bs L) => Ref18.get_ok q n1 n2 hu f
  unfold gV at HG0
  generalize gE n L f = E at *
  have hb0 : (E != 0) = true := by rw [bne_iff_ne]; exact h1
  clear hu n1 n2
  have HG := Lib.hid HG0
  clear HG0
  generalize gT n L f 4 = a at *
  generalize gT n L f 5 = b at *
  generalize gT n L f 6 = c at *
  generalize gT n L f 7 = d at *
  generalize gT n L f 8 = e at *
  have K := Chg.refl [] w
  go_enter Try.func46, Try.ntmps46
  go_wp2_with fail
  refine Calls.mono (HG.out _ h) ?_
  rintro x w1 ⟨rfl, k1⟩
  clear HG
  obtain ⟨q, eq⟩ : ∃ q, w1.heap.size = q := ⟨_, rfl⟩
  have Q := Blk.new' w1 43 (numC a b c d e) eq
  obtain ⟨q0, q1, q2, q3, q4⟩ := blk5 Q
  have f0 := Q.frozen 0
  replace h := (h.chg0 k1).alloc (.cells (numC a b c d e) 43)
  replace K := (K.trans k1 (by simp)).alloc (.cells (numC a b c d e) 43)
  go_wp2
  go_ret
  exact ⟨rfl, h, Ref02.Chr.of0 K⟩
theorem state_arg {w : World} {B r n : Nat} {v : Value} {bs : List (Nat × Nat)} {L : List Int} (h : Ref02.RM w B r v n bs L) (n1 : 1 ≤ n) (n2 : n ≤ 64) (hu : U64 L) (f s : Int) (h1 : gE n L f = 0) (h2 : ¬ (0 ≤ s ∧ s ≤ 3)) : Calls Try.prog 46 #[.pointer (some ⟨r, 0, none⟩), .int .i64 f, .int .i64 s] w fun x w' => x = .returned (.int .i64 1) ∧ Ref02.RM w' B r v n bs L ∧ Ref02.Chr (bs.map Prod.fst) B w w' := by
  have HG0 := fun (W : World) (q : Ref02.RM W B r v n bs L) => Ref18.get_ok q n1 n2 hu f
  unfold gV at HG0
  have HP0 := fun (W : World) (q : Ref02.RM W B r v n bs L) => Ref18b.put_arg q n1 n2 f s (gT n L f 5) (gT n L f 6) (gT n L f 7) (gT n L f 8) (decide_eq_false (by omega))
  have HP := Lib.hid HP0
  rw [h1] at HG0
  clear h1 h2 HP0 hu n1 n2
  have HG := Lib.hid HG0
  clear HG0
  generalize gT n L f 4 = a at *
  generalize gT n L f 5 = b at *
  generalize gT n L f 6 = c at *
  generalize gT n L f 7 = d at *
  generalize gT n L f 8 = e at *
  have K := Chg.refl [] w
  go_enter Try.func46, Try.ntmps46
  go_wp2_with fail
  refine Calls.mono (HG.out _ h) ?_
  rintro x w1 ⟨rfl, k1⟩
  clear HG
  obtain ⟨q, eq⟩ : ∃ q, w1.heap.size = q := ⟨_, rfl⟩
  have Q := Blk.new' w1 43 (numC a b c d e) eq
  obtain ⟨q0, q1, q2, q3, q4⟩ := blk5 Q
  have f0 := Q.frozen 0
  have h' := (h.chg0 k1).alloc (.cells (numC s b c d e) 43)
  have K' := Ref02.Chr.of0 (R := bs.map Prod.fst) (B := B) ((K.trans k1 (by simp)).alloc (.cells (numC s b c d e) 43))
  clear h K k1
  go_wp2_with fail
  refine Calls.mono (HP.out _ h') ?_
  rintro x w2 ⟨rfl, m2, k2⟩
  replace K' := HeadRef.chr_trans K' k2
  clear k2 HP
  go_wp2
  go_ret
  exact ⟨rfl, m2, K'⟩
theorem state_yes {w : World} {B r n : Nat} {v : Value} {bs : List (Nat × Nat)} {L : List Int} (h : Ref02.RM w B r v n bs L) (n1 : 1 ≤ n) (n2 : n ≤ 64) (hu : U64 L) (f s : Int) (h1 : gE n L f = 0) (h2 : 0 ≤ s ∧ s ≤ 3) : Calls Try.prog 46 #[.pointer (some ⟨r, 0, none⟩), .int .i64 f, .int .i64 s] w fun x w' => x = .returned (.int .i64 0) ∧ Ref02.RM w' B r v n bs (layL n L f 4 [s, gT n L f 5, gT n L f 6, gT n L f 7, gT n L f 8]) ∧ Ref02.Chr (bs.map Prod.fst) B w w' := by
  have HG0 := fun (W : World) (q : Ref02.RM W B r v n bs L) => Ref18.get_ok q n1 n2 hu f
  unfold gV at HG0
  have HP0 := fun (W : World) (q : Ref02.RM W B r v n bs L) => Ref18b.put_yes q n1 n2 hu f s _ _ _ _ (g_right hu h1 h2) (gE_zero h1).1
  have HP := Lib.hid HP0
  rw [h1] at HG0
  clear h1 h2 HP0 hu n1 n2
  have HG := Lib.hid HG0
  clear HG0
  generalize gT n L f 4 = a at *
  generalize gT n L f 5 = b at *
  generalize gT n L f 6 = c at *
  generalize gT n L f 7 = d at *
  generalize gT n L f 8 = e at *
  have K := Chg.refl [] w
  go_enter Try.func46, Try.ntmps46
  go_wp2_with fail
  refine Calls.mono (HG.out _ h) ?_
  rintro x w1 ⟨rfl, k1⟩
  clear HG
  obtain ⟨q, eq⟩ : ∃ q, w1.heap.size = q := ⟨_, rfl⟩
  have Q := Blk.new' w1 43 (numC a b c d e) eq
  obtain ⟨q0, q1, q2, q3, q4⟩ := blk5 Q
  have f0 := Q.frozen 0
  have h' := (h.chg0 k1).alloc (.cells (numC s b c d e) 43)
  have K' := Ref02.Chr.of0 (R := bs.map Prod.fst) (B := B) ((K.trans k1 (by simp)).alloc (.cells (numC s b c d e) 43))
  clear h K k1
  go_wp2_with fail
  refine Calls.mono (HP.out _ h') ?_
  rintro x w2 ⟨rfl, m2, k2⟩
  replace K' := HeadRef.chr_trans K' k2
  clear k2 HP
  go_wp2
  go_ret
  exact ⟨rfl, m2, K'⟩
theorem state_ok {w : World} {B r n : Nat} {v : Value} {bs : List (Nat × Nat)} {L : List Int} (h : Ref02.RM w B r v n bs L) (n1 : 1 ≤ n) (n2 : n ≤ 64) (hu : U64 L) (f s : Int)  : Calls Try.prog 46 #[.pointer (some ⟨r, 0, none⟩), .int .i64 f, .int .i64 s] w fun x w' => x = .returned (.int .i64 (sE n L f s)) ∧ Ref02.RM w' B r v n bs (sL n L f s) ∧ Ref02.Chr (bs.map Prod.fst) B w w' := by
  unfold sE sL
  by_cases h1 : gE n L f = 0
  · by_cases h2 : 0 ≤ s ∧ s ≤ 3
    · rw [if_pos h1, if_pos h2, if_pos ⟨h1, h2⟩]
      exact Ref18b.state_yes h n1 n2 hu f s h1 h2
    · rw [if_pos h1, if_neg h2, if_neg (fun q => h2 q.2)]
      exact Ref18b.state_arg h n1 n2 hu f s h1 h2
  · rw [if_neg h1, if_neg (fun q => h1 q.1)]
    exact Ref18b.state_not h n1 n2 hu f s h1
theorem reg_ok {w : World} {B r n : Nat} {v : Value} {bs : List (Nat × Nat)} {L : List Int} (h : Ref02.RM w B r v n bs L) (n1 : 1 ≤ n) (n2 : n ≤ 64) (hu : U64 L) (f i x : Int) : Calls Try.prog 52 #[.pointer (some ⟨r, 0, none⟩), .int .i64 f, .int .i64 i, .int .u64 x] w fun y w' => y = .returned (.int .i64 (rgE n L f i)) ∧ Ref02.RM w' B r v n bs (rgL n L f i x) ∧ Ref02.Chr (bs.map Prod.fst) B w w' := by
  have HI0 := fun (W : World) (q : Ref02.RM W B r v n bs L) => HeadRefIs.is_ok q n1 n2 hu f 4
  have K := Chg.refl [] w
  unfold rgE rgL
  by_cases h1 : isE n L f 4 = 0
  · rw [h1] at HI0
    have HI := Lib.hid HI0
    by_cases h2 : 0 ≤ i ∧ i < 8
    · have hf := isE_in h1
      rw [if_pos h1, if_pos h2, if_pos ⟨h1, h2⟩]
      have ew : IntKind.i64.wrap (9 + i) = 9 + i := by rw [IntKind.wrap_i64]; omega
      have HS := fun (W : World) (q : Ref02.RM W B r v n bs L) => Ref02.store_ok q n1 n2 f (9 + i) x
      rw [canE_ok ⟨hf.1, hf.2, by omega, by omega⟩] at HS
      have HS' := Lib.hid HS
      have h3 : ¬ i < 0 := by omega
      have h4 : ¬ 8 ≤ i := by omega
      clear h1 h2 hu hf HS HI0 n1 n2
      go_enter Try.func52, Try.ntmps52
      go_wp2_with fail
      refine Calls.mono (HI.out _ h) ?_
      rintro x w1 ⟨rfl, k1⟩
      clear HI
      replace h := h.chg0 k1
      replace K := K.trans k1 (by simp)
      clear k1
      go_wp2_with fail
      refine Calls.mono (HS'.out _ h) ?_
      rintro x w4 ⟨rfl, m4, k4⟩
      have K4 := HeadRef.chr_trans (Ref02.Chr.of0 K) k4
      clear k4 h HS' K
      go_wp2
      go_ret
      exact ⟨rfl, m4, K4⟩
    · rw [if_pos h1, if_neg h2, if_neg (fun q => h2 q.2)]
      have hx : i < 0 ∨ (¬ i < 0 ∧ 8 ≤ i) := by omega
      clear h1 h2 hu HI0 n1 n2
      rcases hx with hx | ⟨hx, hy⟩
      all_goals
        go_enter Try.func52, Try.ntmps52
        go_wp2_with fail
        refine Calls.mono (HI.out _ h) ?_
        rintro x w1 ⟨rfl, k1⟩
        clear HI
        replace h := h.chg0 k1
        replace K := K.trans k1 (by simp)
        clear k1
        go_wp2
        go_ret
        exact ⟨rfl, h, Ref02.Chr.of0 K⟩
  · rw [if_neg h1, if_neg (fun q => h1 q.1)]
    generalize isE n L f 4 = e0 at *
    have hb0 : (e0 != 0) = true := by rw [bne_iff_ne]; exact h1
    have HI := Lib.hid HI0
    clear hu HI0 n1 n2
    go_enter Try.func52, Try.ntmps52
    go_wp2_with fail
    refine Calls.mono (HI.out _ h) ?_
    rintro x w1 ⟨rfl, k1⟩
    clear HI
    replace h := h.chg0 k1
    replace K := K.trans k1 (by simp)
    clear k1
    go_wp2
    go_ret
    exact ⟨rfl, h, Ref02.Chr.of0 K⟩
/-- The file's row is none of the memory's. -/
theorem not_row {w : World} {B r n : Nat} {v : Value} {bs : List (Nat × Nat)} {L : List Int} (h : Ref02.RM w B r v n bs L) {g t : Nat} {cs : Array Value} (hb : Blk w g t cs) (ht : t ≠ 36) : g ∉ bs.map Prod.fst := fun hm => by
  obtain ⟨b, hb1, rfl⟩ := List.mem_map.1 hm
  obtain ⟨k, hk⟩ := List.getElem?_of_mem hb1
  obtain ⟨cs', h1⟩ := Ref02.own_blk (h.rows k b hk)
  exact Blk.ne_ hb h1 ht rfl
theorem file_chr {w w' : World} {B r n q b cap : Nat} {v : Value} {bs : List (Nat × Nat)} {L R : List Int} (h : Ref02.RM w B r v n bs L) (F : RFile w q b cap R) (hb : b ∉ bs.map Prod.fst) (k : Ref02.Chr (bs.map Prod.fst) B w w') : RFile w' q b cap R :=
  F.chg (Ref02.chr_in k) (not_row h F.2.1 (by decide)) hb
theorem rm_set {w w' : World} {B r n q b cap : Nat} {v : Value} {bs : List (Nat × Nat)} {L R : List Int} (h : Ref02.RM w B r v n bs L) (F : RFile w q b cap R) (hb : b ∉ bs.map Prod.fst) (k : Chg [b] w w') : Ref02.RM w' B r v n bs L := by
  obtain ⟨cs, hcs⟩ := Ref02.own_blk F.2.2
  refine h.chgS k ?_ (fun g hg => ?_) (fun c hc => ?_)
  · have := Blk.ne_ h.hd hcs (by decide)
    simpa using this
  · intro hm
    obtain rfl : g = b := by simpa using hm
    exact own_ne h.own hcs (by decide) hg
  · intro hm
    have e : c.1 = b := by simpa using hm
    exact hb (List.mem_map.2 ⟨c, hc, e⟩)
theorem save_ok {w : World} {B r n : Nat} {v : Value} {bs : List (Nat × Nat)} {L : List Int} (h : Ref02.RM w B r v n bs L) (n1 : 1 ≤ n) (n2 : n ≤ 64) (hu : U64 L) (f : Int) {q b cap : Nat} {R : List Int} (F : RFile w q b cap R) (hb : b ∉ bs.map Prod.fst) :
    Calls Try.prog 49 #[.pointer (some ⟨r, 0, none⟩), .int .i64 f, .pointer (some ⟨q, 0, none⟩)] w fun x w' => x = .returned (.int .i64 (if isE n L f 4 = 0 then 0 else 4)) ∧ Ref02.RM w' B r v n bs (if isE n L f 4 = 0 then layL n L f 9 R else L) ∧ Ref02.Chr (bs.map Prod.fst) B w w' := by
  have HI0 := fun (W : World) (q : Ref02.RM W B r v n bs L) => HeadRefIs.is_ok q n1 n2 hu f 4
  have K := Chg.refl [] w
  by_cases h1 : isE n L f 4 = 0
  · have hf := isE_in h1
    rw [h1] at HI0
    rw [if_pos h1, if_pos h1]
    have HI := Lib.hid HI0
    have HF := Lib.hid F.1
    clear HI0 h1 hu
    go_enter Try.func49, Try.ntmps49
    go_wp2_with fail
    refine Calls.mono (HI.out _ h) ?_
    rintro x w1 ⟨rfl, k1⟩
    clear HI
    replace h := h.chg0 k1
    replace F := F.chg k1 (by simp) (by simp)
    have K := Ref02.Chr.of0 (R := bs.map Prod.fst) (B := B) (K.trans k1 (by simp))
    clear k1
    go_wp2
    go_loopw [7] (fun i wr => ∃ j : Nat, i = .int .i64 j ∧ j ≤ 8 ∧ Hid (Ref02.RM wr B r v n bs (layL n L f 9 (R.take j)) ∧ RFile wr q b cap R ∧ Ref02.Chr (bs.map Prod.fst) B w wr)) (fun i _ => 8 - (intOf i).toNat)
    case atStart => exact ⟨0, rfl, by decide, h, F, K⟩
    case round =>
      clear h F K
      obtain ⟨j, rfl, hj, H⟩ := hrel
      obtain ⟨h, F, K⟩ := H.out
      clear H
      by_cases h8 : j < 8
      · have hji : (j : Int) < 8 := by omega
        have ew : IntKind.i64.wrap (9 + (j : Int)) = 9 + j := by rw [IntKind.wrap_i64]; omega
        have c0 := F.cell
        have c1 := F.at_ (j : Int) (by omega) hji
        rw [Int.toNat_natCast] at c1
        have HS := Ref02.store_ok h n1 n2 f (9 + (j : Int)) (R.getD j 0)
        rw [canE_ok ⟨hf.1, hf.2, by omega, by omega⟩] at HS
        have e1 := take_step HF.out h8
        have e2 := layL_snoc n f (R.getD j 0) (R.take j) L 9
        rw [← e1, List.length_take, HF.out, Nat.min_eq_left (by omega)] at e2
        have E := Lib.hid e2
        generalize R.getD j 0 = x at *
        have HS' := Lib.hid HS
        clear HS e1 e2
        go_wp2_with fail
        refine Calls.mono HS'.out ?_
        rintro y w2 ⟨rfl, m2, k2⟩
        clear HS' c0 c1
        rw [← E.out] at m2
        replace F := file_chr h F hb k2
        replace K := HeadRef.chr_trans K k2
        clear k2 h E
        go_wp2
        go_roundw
        case rel => exact ⟨j + 1, by go_num, by omega, m2, F, K⟩
        case measure => simp [intOf]; omega
      · obtain rfl : j = 8 := by omega
        have e : R.take 8 = R := List.take_of_length_le (by rw [HF.out]; decide)
        rw [e] at h
        go_wp2
        go_ret
        exact ⟨rfl, h, K⟩
  · rw [if_neg h1, if_neg h1]
    generalize isE n L f 4 = e0 at *
    have hb0 : (e0 != 0) = true := by rw [bne_iff_ne]; exact h1
    have HI := Lib.hid HI0
    clear hu HI0 n1 n2
    go_enter Try.func49, Try.ntmps49
    go_wp2_with fail
    refine Calls.mono (HI.out _ h) ?_
    rintro x w1 ⟨rfl, k1⟩
    clear HI
    replace h := h.chg0 k1
    replace K := K.trans k1 (by simp)
    clear k1
    go_wp2
    go_ret
    exact ⟨rfl, h, Ref02.Chr.of0 K⟩
theorem load_ok {w : World} {B r n : Nat} {v : Value} {bs : List (Nat × Nat)} {L : List Int} (h : Ref02.RM w B r v n bs L) (n1 : 1 ≤ n) (n2 : n ≤ 64) (hu : U64 L) (f : Int) {q b cap : Nat} {R : List Int} (F : RFile w q b cap R) (hb : b ∉ bs.map Prod.fst) :
    Calls Try.prog 50 #[.pointer (some ⟨r, 0, none⟩), .int .i64 f, .pointer (some ⟨q, 0, none⟩)] w fun x w' => x = .returned (.int .i64 (if isE n L f 4 = 0 then 0 else 4)) ∧ RFile w' q b cap (if isE n L f 4 = 0 then ldR n L f else R) ∧ Chg [b] w w' := by
  have HI0 := fun (W : World) (q : Ref02.RM W B r v n bs L) => HeadRefIs.is_ok q n1 n2 hu f 4
  have K := Chg.refl [b] w
  by_cases h1 : isE n L f 4 = 0
  · have hf := isE_in h1
    rw [h1] at HI0
    rw [if_pos h1, if_pos h1]
    have HI := Lib.hid HI0
    have HF := Lib.hid F.1
    clear HI0 h1 hu
    go_enter Try.func50, Try.ntmps50
    go_wp2_with fail
    refine Calls.mono (HI.out _ h) ?_
    rintro x w1 ⟨rfl, k1⟩
    clear HI
    replace h := h.chg0 k1
    replace F := F.chg k1 (by simp) (by simp)
    replace K := K.trans k1 (by simp)
    clear k1
    go_wp2
    go_loopw [7] (fun i wr => ∃ j : Nat, i = .int .i64 j ∧ j ≤ 8 ∧ Hid (Ref02.RM wr B r v n bs L ∧ RFile wr q b cap ((ldR n L f).take j ++ R.drop j) ∧ Chg [b] w wr)) (fun i _ => 8 - (intOf i).toNat)
    case atStart => exact ⟨0, rfl, by decide, h, F, K⟩
    case round =>
      clear h F K
      obtain ⟨j, rfl, hj, H⟩ := hrel
      obtain ⟨h, F, K⟩ := H.out
      clear H
      by_cases h8 : j < 8
      · have hji : (j : Int) < 8 := by omega
        have ew : IntKind.i64.wrap (9 + (j : Int)) = 9 + j := by rw [IntKind.wrap_i64]; omega
        have c0 := F.cell
        have c1 := F.at_ (j : Int) (by omega) hji
        rw [Int.toNat_natCast] at c1
        have c2 := F.free j
        have HS := Ref02.load_ok h n1 n2 f (9 + (j : Int))
        rw [canE_ok ⟨hf.1, hf.2, by omega, by omega⟩] at HS
        have F2 := F.store j (ldV n L f (9 + (j : Int)))
        rw [← ldR_get n L f h8, mix_step rfl HF.out h8, ldR_get n L f h8] at F2
        have m2 := rm_set h F hb ((Chg.refl [b] wr).setCell (p := ⟨b, j, none⟩) (by simp) (.int .u64 (ldV n L f (9 + (j : Int)))))
        have K2 := K.setCell (p := ⟨b, j, none⟩) (by simp) (.int .u64 (ldV n L f (9 + (j : Int))))
        generalize ldV n L f (9 + (j : Int)) = x at *
        generalize ((ldR n L f).take j ++ R.drop j).getD j 0 = x0 at *
        have HS' := Lib.hid HS
        clear HS F K
        go_wp2_with fail
        refine Calls.mono HS'.out ?_
        rintro y w2 ⟨rfl, rfl⟩
        clear HS' h
        go_wp2
        go_roundw
        case rel => exact ⟨j + 1, by go_num, by omega, m2, F2, K2⟩
        case measure => simp [intOf]; omega
      · obtain rfl : j = 8 := by omega
        have e : (ldR n L f).take 8 ++ R.drop 8 = ldR n L f := by
          rw [List.drop_of_length_le (by rw [HF.out]; decide), List.append_nil]
          rfl
        rw [e] at F
        go_wp2
        go_ret
        exact ⟨rfl, F, K⟩
  · rw [if_neg h1, if_neg h1]
    generalize isE n L f 4 = e0 at *
    have hb0 : (e0 != 0) = true := by rw [bne_iff_ne]; exact h1
    have HI := Lib.hid HI0
    clear hu HI0 n1 n2
    go_enter Try.func50, Try.ntmps50
    go_wp2_with fail
    refine Calls.mono (HI.out _ h) ?_
    rintro x w1 ⟨rfl, k1⟩
    clear HI
    replace F := F.chg k1 (by simp) (by simp)
    replace K := K.trans k1 (by simp)
    clear k1
    go_wp2
    go_ret
    exact ⟨rfl, F, K⟩
end Go.Proofs.Ytknbeklplmhheaa.Ref18b
