/- Package palanquinref20: Give. -/
import Derived.Test.YtknbeklplmhheaaRef20b
namespace Go.Proofs.Ytknbeklplmhheaa.Ref20c
open Go Go.RowKit Go.Proofs.Ytknbeklplmhheaa Go.Proofs.Ytknbeklplmhheaa.Heap Go.Proofs.Ytknbeklplmhheaa.Mem Go.Proofs.Ytknbeklplmhheaa.Two Go.Proofs.Ytknbeklplmhheaa.Head Go.Proofs.Ytknbeklplmhheaa.HeadPut Go.Proofs.Ytknbeklplmhheaa.HeadIs Go.Proofs.Ytknbeklplmhheaa.Lay Go.Proofs.Ytknbeklplmhheaa.Tcap Go.Proofs.Ytknbeklplmhheaa.TcapPut Go.Proofs.Ytknbeklplmhheaa.TcapGive Go.Proofs.Ytknbeklplmhheaa.TcapRest

set_option linter.unusedVariables false
set_option maxRecDepth 100000
set_option maxHeartbeats 4000000
theorem give_a {w : World} {B r n : Nat} {v : Value} {bs : List (Nat × Nat)} {L : List Int} (h : Ref02.RM w B r v n bs L) (n1 : 1 ≤ n) (n2 : n ≤ 64) (hu : U64 L) (f to k pr : Int) (h1 : inI k 1 1048576 = false) : Calls Try.prog 24 #[.pointer (some ⟨r, 0, none⟩), .int .i64 f, .int .i64 to, .int .i64 k, .int .i64 pr] w fun x w' => x = .returned (.int .i64 1) ∧ Ref02.RM w' B r v n bs L ∧ Ref02.Chr (bs.map Prod.fst) B w w' := by
  have I00 := Ref20.in_ok k 1 1048576
  have I10 := Ref20.in_ok pr 0 255
  rw [h1] at I00
  have I0 := Lib.hid I00
  clear I00 I10 h1 hu n1 n2
  have K := Chg.refl [] w
  go_enter Try.func24, Try.ntmps24
  go_wp2_with fail
  refine Calls.mono (I0.out _) ?_
  rintro x w1 ⟨rfl, rfl⟩
  go_wp2
  go_ret
  exact ⟨rfl, h, Ref02.Chr.of0 K⟩
theorem give_b {w : World} {B r n : Nat} {v : Value} {bs : List (Nat × Nat)} {L : List Int} (h : Ref02.RM w B r v n bs L) (n1 : 1 ≤ n) (n2 : n ≤ 64) (hu : U64 L) (f to k pr : Int) (h1 : inI k 1 1048576 = true) (h2 : inI pr 0 255 = false) : Calls Try.prog 24 #[.pointer (some ⟨r, 0, none⟩), .int .i64 f, .int .i64 to, .int .i64 k, .int .i64 pr] w fun x w' => x = .returned (.int .i64 1) ∧ Ref02.RM w' B r v n bs L ∧ Ref02.Chr (bs.map Prod.fst) B w w' := by
  have I00 := Ref20.in_ok k 1 1048576
  have I10 := Ref20.in_ok pr 0 255
  rw [h1] at I00
  rw [h2] at I10
  have I0 := Lib.hid I00
  have I1 := Lib.hid I10
  clear I00 I10 h1 h2 hu n1 n2
  have K := Chg.refl [] w
  go_enter Try.func24, Try.ntmps24
  go_wp2_with fail
  refine Calls.mono (I0.out _) ?_
  rintro x w1 ⟨rfl, rfl⟩
  go_wp2_with fail
  refine Calls.mono (I1.out _) ?_
  rintro x w1 ⟨rfl, rfl⟩
  go_wp2
  go_ret
  exact ⟨rfl, h, Ref02.Chr.of0 K⟩
theorem give_c {w : World} {B r n : Nat} {v : Value} {bs : List (Nat × Nat)} {L : List Int} (h : Ref02.RM w B r v n bs L) (n1 : 1 ≤ n) (n2 : n ≤ 64) (hu : U64 L) (f to k pr : Int) (h1 : inI k 1 1048576 = true) (h2 : inI pr 0 255 = true) (h3 : f = to) : Calls Try.prog 24 #[.pointer (some ⟨r, 0, none⟩), .int .i64 f, .int .i64 to, .int .i64 k, .int .i64 pr] w fun x w' => x = .returned (.int .i64 1) ∧ Ref02.RM w' B r v n bs L ∧ Ref02.Chr (bs.map Prod.fst) B w w' := by
  have I00 := Ref20.in_ok k 1 1048576
  have I10 := Ref20.in_ok pr 0 255
  rw [h1] at I00
  rw [h2] at I10
  subst h3
  have I0 := Lib.hid I00
  have I1 := Lib.hid I10
  clear I00 I10 h1 h2 hu n1 n2
  have K := Chg.refl [] w
  go_enter Try.func24, Try.ntmps24
  go_wp2_with fail
  refine Calls.mono (I0.out _) ?_
  rintro x w1 ⟨rfl, rfl⟩
  go_wp2_with fail
  refine Calls.mono (I1.out _) ?_
  rintro x w1 ⟨rfl, rfl⟩
  go_wp2
  go_ret
  exact ⟨rfl, h, Ref02.Chr.of0 K⟩
theorem give_d {w : World} {B r n : Nat} {v : Value} {bs : List (Nat × Nat)} {L : List Int} (h : Ref02.RM w B r v n bs L) (n1 : 1 ≤ n) (n2 : n ≤ 64) (hu : U64 L) (f to k pr : Int) (h0 : gvB f to k pr) (h1 : ¬ tE n L f = 0) : Calls Try.prog 24 #[.pointer (some ⟨r, 0, none⟩), .int .i64 f, .int .i64 to, .int .i64 k, .int .i64 pr] w fun x w' => x = .returned (.int .i64 (tE n L f)) ∧ Ref02.RM w' B r v n bs L ∧ Ref02.Chr (bs.map Prod.fst) B w w' := by
  have I00 := Ref20.in_ok k 1 1048576
  have I10 := Ref20.in_ok pr 0 255
  rw [h0.1] at I00
  rw [h0.2.1] at I10
  have I0 := Lib.hid I00
  have I1 := Lib.hid I10
  have hb := h0.2.2
  have hbb : (f == to) = false := by rw [beq_eq_false_iff_ne]; exact hb
  have HA0 := fun (W : World) (q : Ref02.RM W B r v n bs L) => Ref20.get_ok q n1 n2 hu f
  unfold tV at HA0
  generalize tZ n L f = az at *
  generalize tL n L f = al at *
  generalize tP n L f = ap at *
  generalize tE n L f = E at *
  have hE : (E != 0) = true := by rw [bne_iff_ne]; exact h1
  have HA := Lib.hid HA0
  clear I00 I10 HA0
  clear h0 hu n1 n2
  have K := Chg.refl [] w
  go_enter Try.func24, Try.ntmps24
  go_wp2_with fail
  refine Calls.mono (I0.out _) ?_
  rintro x w1 ⟨rfl, rfl⟩
  go_wp2_with fail
  refine Calls.mono (I1.out _) ?_
  rintro x w1 ⟨rfl, rfl⟩
  go_wp2_with fail
  refine Calls.mono (HA.out _ h) ?_
  rintro x w2 ⟨rfl, k2⟩
  clear HA
  obtain ⟨da, ea⟩ : ∃ q, w2.heap.size = q := ⟨_, rfl⟩
  have A := Blk.new' w2 23 (tcC az al ap) ea
  have h2s := h.chg0 k2
  have K2s := K.trans k2 (by simp)
  have KS := (Chg.refl [] w2).alloc (.cells (tcC az al ap) 23)
  replace h := (h.chg0 k2).alloc (.cells (tcC az al ap) 23)
  replace K := (K.trans k2 (by simp)).alloc (.cells (tcC az al ap) 23)
  clear k2
  go_wp2
  go_ret
  exact ⟨rfl, h, Ref02.Chr.of0 K⟩
theorem give_e {w : World} {B r n : Nat} {v : Value} {bs : List (Nat × Nat)} {L : List Int} (h : Ref02.RM w B r v n bs L) (n1 : 1 ≤ n) (n2 : n ≤ 64) (hu : U64 L) (f to k pr : Int) (h0 : gvB f to k pr) (h1 : tE n L f = 0) (h2 : ¬ tE n L to = 0) : Calls Try.prog 24 #[.pointer (some ⟨r, 0, none⟩), .int .i64 f, .int .i64 to, .int .i64 k, .int .i64 pr] w fun x w' => x = .returned (.int .i64 (tE n L to)) ∧ Ref02.RM w' B r v n bs L ∧ Ref02.Chr (bs.map Prod.fst) B w w' := by
  have HB0 := fun (W : World) (q : Ref02.RM W B r v n bs L) => Ref20.get_ok q n1 n2 hu to
  unfold tV at HB0
  have I00 := Ref20.in_ok k 1 1048576
  have I10 := Ref20.in_ok pr 0 255
  rw [h0.1] at I00
  rw [h0.2.1] at I10
  have I0 := Lib.hid I00
  have I1 := Lib.hid I10
  have hb := h0.2.2
  have hbb : (f == to) = false := by rw [beq_eq_false_iff_ne]; exact hb
  have HA0 := fun (W : World) (q : Ref02.RM W B r v n bs L) => Ref20.get_ok q n1 n2 hu f
  unfold tV at HA0
  rw [h1] at HA0
  generalize tZ n L f = az at *
  generalize tL n L f = al at *
  generalize tP n L f = ap at *
  generalize tZ n L to = bz at *
  generalize tL n L to = bl at *
  generalize tP n L to = bt at *
  generalize tE n L to = E at *
  have hE : (E != 0) = true := by rw [bne_iff_ne]; exact h2
  have HB := Lib.hid HB0
  clear HB0 h1
  have HA := Lib.hid HA0
  clear I00 I10 HA0
  clear h0 hu n1 n2
  have K := Chg.refl [] w
  go_enter Try.func24, Try.ntmps24
  go_wp2_with fail
  refine Calls.mono (I0.out _) ?_
  rintro x w1 ⟨rfl, rfl⟩
  go_wp2_with fail
  refine Calls.mono (I1.out _) ?_
  rintro x w1 ⟨rfl, rfl⟩
  go_wp2_with fail
  refine Calls.mono (HA.out _ h) ?_
  rintro x w2 ⟨rfl, k2⟩
  clear HA
  obtain ⟨da, ea⟩ : ∃ q, w2.heap.size = q := ⟨_, rfl⟩
  have A := Blk.new' w2 23 (tcC az al ap) ea
  have h2s := h.chg0 k2
  have K2s := K.trans k2 (by simp)
  have KS := (Chg.refl [] w2).alloc (.cells (tcC az al ap) 23)
  replace h := (h.chg0 k2).alloc (.cells (tcC az al ap) 23)
  replace K := (K.trans k2 (by simp)).alloc (.cells (tcC az al ap) 23)
  clear k2
  go_wp2_with fail
  refine Calls.mono (HB.out _ h) ?_
  rintro x w3 ⟨rfl, k2⟩
  clear HB
  obtain ⟨db, ebb⟩ : ∃ q, w3.heap.size = q := ⟨_, rfl⟩
  have B' := Blk.new' w3 23 (tcC bz bl bt) ebb
  have hab : da ≠ db := by have := (A.chg k2 (by simp)).lt; omega
  have h3' := h.chg0 k2
  have K3 := K.trans k2 (by simp)
  have A3 := A.chg k2 (by simp)
  replace KS := (KS.trans k2 (by simp)).alloc (.cells (tcC bz bl bt) 23)
  have hdb : w2.heap.size ≤ db := by have := A3.lt; omega
  replace h := h3'.alloc (.cells (tcC bz bl bt) 23)
  replace A := A3.alloc (.cells (tcC bz bl bt) 23)
  replace K := K3.alloc (.cells (tcC bz bl bt) 23)
  clear k2
  obtain ⟨a0, a1, a2⟩ := blk3 A
  obtain ⟨b0, b1, b2⟩ := blk3 B'
  have fa1 := A.frozen 1
  have fb1 := B'.frozen 1
  have fb2 := B'.frozen 2
  go_wp2
  go_ret
  exact ⟨rfl, h, Ref02.Chr.of0 K⟩
theorem give_f1 {w : World} {B r n : Nat} {v : Value} {bs : List (Nat × Nat)} {L : List Int} (h : Ref02.RM w B r v n bs L) (n1 : 1 ≤ n) (n2 : n ≤ 64) (hu : U64 L) (f to k pr : Int) (h0 : gvB f to k pr) (h1 : tE n L f = 0) (h2 : tE n L to = 0) (h3 : tZ n L to = true) : Calls Try.prog 24 #[.pointer (some ⟨r, 0, none⟩), .int .i64 f, .int .i64 to, .int .i64 k, .int .i64 pr] w fun x w' => x = .returned (.int .i64 4) ∧ Ref02.RM w' B r v n bs L ∧ Ref02.Chr (bs.map Prod.fst) B w w' := by
  have HB0 := fun (W : World) (q : Ref02.RM W B r v n bs L) => Ref20.get_ok q n1 n2 hu to
  unfold tV at HB0
  have I00 := Ref20.in_ok k 1 1048576
  have I10 := Ref20.in_ok pr 0 255
  rw [h0.1] at I00
  rw [h0.2.1] at I10
  have I0 := Lib.hid I00
  have I1 := Lib.hid I10
  have hb := h0.2.2
  have hbb : (f == to) = false := by rw [beq_eq_false_iff_ne]; exact hb
  have HA0 := fun (W : World) (q : Ref02.RM W B r v n bs L) => Ref20.get_ok q n1 n2 hu f
  unfold tV at HA0
  rw [h1] at HA0
  rw [h2] at HB0
  generalize tZ n L f = az at *
  generalize tL n L f = al at *
  generalize tP n L f = ap at *
  generalize tZ n L to = bz at *
  generalize tL n L to = bl at *
  generalize tP n L to = bt at *
  subst h3
  have HB := Lib.hid HB0
  clear HB0 h1 h2
  have HA := Lib.hid HA0
  clear I00 I10 HA0
  clear h0 hu n1 n2
  have K := Chg.refl [] w
  go_enter Try.func24, Try.ntmps24
  go_wp2_with fail
  refine Calls.mono (I0.out _) ?_
  rintro x w1 ⟨rfl, rfl⟩
  go_wp2_with fail
  refine Calls.mono (I1.out _) ?_
  rintro x w1 ⟨rfl, rfl⟩
  go_wp2_with fail
  refine Calls.mono (HA.out _ h) ?_
  rintro x w2 ⟨rfl, k2⟩
  clear HA
  obtain ⟨da, ea⟩ : ∃ q, w2.heap.size = q := ⟨_, rfl⟩
  have A := Blk.new' w2 23 (tcC az al ap) ea
  have h2s := h.chg0 k2
  have K2s := K.trans k2 (by simp)
  have KS := (Chg.refl [] w2).alloc (.cells (tcC az al ap) 23)
  replace h := (h.chg0 k2).alloc (.cells (tcC az al ap) 23)
  replace K := (K.trans k2 (by simp)).alloc (.cells (tcC az al ap) 23)
  clear k2
  go_wp2_with fail
  refine Calls.mono (HB.out _ h) ?_
  rintro x w3 ⟨rfl, k2⟩
  clear HB
  obtain ⟨db, ebb⟩ : ∃ q, w3.heap.size = q := ⟨_, rfl⟩
  have B' := Blk.new' w3 23 (tcC true bl bt) ebb
  have hab : da ≠ db := by have := (A.chg k2 (by simp)).lt; omega
  have h3' := h.chg0 k2
  have K3 := K.trans k2 (by simp)
  have A3 := A.chg k2 (by simp)
  replace KS := (KS.trans k2 (by simp)).alloc (.cells (tcC true bl bt) 23)
  have hdb : w2.heap.size ≤ db := by have := A3.lt; omega
  replace h := h3'.alloc (.cells (tcC true bl bt) 23)
  replace A := A3.alloc (.cells (tcC true bl bt) 23)
  replace K := K3.alloc (.cells (tcC true bl bt) 23)
  clear k2
  obtain ⟨a0, a1, a2⟩ := blk3 A
  obtain ⟨b0, b1, b2⟩ := blk3 B'
  have fa1 := A.frozen 1
  have fb1 := B'.frozen 1
  have fb2 := B'.frozen 2
  go_wp2
  go_ret
  exact ⟨rfl, h, Ref02.Chr.of0 K⟩
theorem give_f2 {w : World} {B r n : Nat} {v : Value} {bs : List (Nat × Nat)} {L : List Int} (h : Ref02.RM w B r v n bs L) (n1 : 1 ≤ n) (n2 : n ≤ 64) (hu : U64 L) (f to k pr : Int) (h0 : gvB f to k pr) (h1 : tE n L f = 0) (h2 : tE n L to = 0) (h3 : tZ n L to = false) (h4 : tZ n L f = false) (h5 : tL n L f < k) : Calls Try.prog 24 #[.pointer (some ⟨r, 0, none⟩), .int .i64 f, .int .i64 to, .int .i64 k, .int .i64 pr] w fun x w' => x = .returned (.int .i64 11) ∧ Ref02.RM w' B r v n bs L ∧ Ref02.Chr (bs.map Prod.fst) B w w' := by
  have HB0 := fun (W : World) (q : Ref02.RM W B r v n bs L) => Ref20.get_ok q n1 n2 hu to
  unfold tV at HB0
  have hbl := right_bd (t_right hu h2)
  have hal := right_bd (t_right hu h1)
  have hk := in_bd h0.1
  have hw : IntKind.i64.wrap (tL n L to + k) = tL n L to + k := by rw [IntKind.wrap_i64]; omega
  have hwa : IntKind.i64.wrap (tL n L f - k) = tL n L f - k := by rw [IntKind.wrap_i64]; omega
  have I00 := Ref20.in_ok k 1 1048576
  have I10 := Ref20.in_ok pr 0 255
  rw [h0.1] at I00
  rw [h0.2.1] at I10
  have I0 := Lib.hid I00
  have I1 := Lib.hid I10
  have hb := h0.2.2
  have hbb : (f == to) = false := by rw [beq_eq_false_iff_ne]; exact hb
  have HA0 := fun (W : World) (q : Ref02.RM W B r v n bs L) => Ref20.get_ok q n1 n2 hu f
  unfold tV at HA0
  rw [h1] at HA0
  rw [h2] at HB0
  clear hbl hal hk
  generalize tZ n L f = az at *
  generalize tL n L f = al at *
  generalize tP n L f = ap at *
  generalize tZ n L to = bz at *
  generalize tL n L to = bl at *
  generalize tP n L to = bt at *
  subst h3 h4
  have HB := Lib.hid HB0
  clear HB0 h1 h2
  have HA := Lib.hid HA0
  clear I00 I10 HA0
  clear h0 hu n1 n2
  have K := Chg.refl [] w
  go_enter Try.func24, Try.ntmps24
  go_wp2_with fail
  refine Calls.mono (I0.out _) ?_
  rintro x w1 ⟨rfl, rfl⟩
  go_wp2_with fail
  refine Calls.mono (I1.out _) ?_
  rintro x w1 ⟨rfl, rfl⟩
  go_wp2_with fail
  refine Calls.mono (HA.out _ h) ?_
  rintro x w2 ⟨rfl, k2⟩
  clear HA
  obtain ⟨da, ea⟩ : ∃ q, w2.heap.size = q := ⟨_, rfl⟩
  have A := Blk.new' w2 23 (tcC false al ap) ea
  have h2s := h.chg0 k2
  have K2s := K.trans k2 (by simp)
  have KS := (Chg.refl [] w2).alloc (.cells (tcC false al ap) 23)
  replace h := (h.chg0 k2).alloc (.cells (tcC false al ap) 23)
  replace K := (K.trans k2 (by simp)).alloc (.cells (tcC false al ap) 23)
  clear k2
  go_wp2_with fail
  refine Calls.mono (HB.out _ h) ?_
  rintro x w3 ⟨rfl, k2⟩
  clear HB
  obtain ⟨db, ebb⟩ : ∃ q, w3.heap.size = q := ⟨_, rfl⟩
  have B' := Blk.new' w3 23 (tcC false bl bt) ebb
  have hab : da ≠ db := by have := (A.chg k2 (by simp)).lt; omega
  have h3' := h.chg0 k2
  have K3 := K.trans k2 (by simp)
  have A3 := A.chg k2 (by simp)
  replace KS := (KS.trans k2 (by simp)).alloc (.cells (tcC false bl bt) 23)
  have hdb : w2.heap.size ≤ db := by have := A3.lt; omega
  replace h := h3'.alloc (.cells (tcC false bl bt) 23)
  replace A := A3.alloc (.cells (tcC false bl bt) 23)
  replace K := K3.alloc (.cells (tcC false bl bt) 23)
  clear k2
  obtain ⟨a0, a1, a2⟩ := blk3 A
  obtain ⟨b0, b1, b2⟩ := blk3 B'
  have fa1 := A.frozen 1
  have fb1 := B'.frozen 1
  have fb2 := B'.frozen 2
  go_wp2
  go_ret
  exact ⟨rfl, h, Ref02.Chr.of0 K⟩
theorem give_f3 {w : World} {B r n : Nat} {v : Value} {bs : List (Nat × Nat)} {L : List Int} (h : Ref02.RM w B r v n bs L) (n1 : 1 ≤ n) (n2 : n ≤ 64) (hu : U64 L) (f to k pr : Int) (h0 : gvB f to k pr) (h1 : tE n L f = 0) (h2 : tE n L to = 0) (h3 : tZ n L to = false) (h4 : tZ n L f = false) (h5 : ¬ tL n L f < k) (h6 : 1048576 < tL n L to + k) : Calls Try.prog 24 #[.pointer (some ⟨r, 0, none⟩), .int .i64 f, .int .i64 to, .int .i64 k, .int .i64 pr] w fun x w' => x = .returned (.int .i64 11) ∧ Ref02.RM w' B r v n bs L ∧ Ref02.Chr (bs.map Prod.fst) B w w' := by
  have HB0 := fun (W : World) (q : Ref02.RM W B r v n bs L) => Ref20.get_ok q n1 n2 hu to
  unfold tV at HB0
  have hbl := right_bd (t_right hu h2)
  have hal := right_bd (t_right hu h1)
  have hk := in_bd h0.1
  have hw : IntKind.i64.wrap (tL n L to + k) = tL n L to + k := by rw [IntKind.wrap_i64]; omega
  have hwa : IntKind.i64.wrap (tL n L f - k) = tL n L f - k := by rw [IntKind.wrap_i64]; omega
  have I00 := Ref20.in_ok k 1 1048576
  have I10 := Ref20.in_ok pr 0 255
  rw [h0.1] at I00
  rw [h0.2.1] at I10
  have I0 := Lib.hid I00
  have I1 := Lib.hid I10
  have hb := h0.2.2
  have hbb : (f == to) = false := by rw [beq_eq_false_iff_ne]; exact hb
  have HA0 := fun (W : World) (q : Ref02.RM W B r v n bs L) => Ref20.get_ok q n1 n2 hu f
  unfold tV at HA0
  rw [h1] at HA0
  rw [h2] at HB0
  clear hbl hal hk
  generalize tZ n L f = az at *
  generalize tL n L f = al at *
  generalize tP n L f = ap at *
  generalize tZ n L to = bz at *
  generalize tL n L to = bl at *
  generalize tP n L to = bt at *
  subst h3 h4
  have HB := Lib.hid HB0
  clear HB0 h1 h2
  have HA := Lib.hid HA0
  clear I00 I10 HA0
  clear h0 hu n1 n2
  have K := Chg.refl [] w
  go_enter Try.func24, Try.ntmps24
  go_wp2_with fail
  refine Calls.mono (I0.out _) ?_
  rintro x w1 ⟨rfl, rfl⟩
  go_wp2_with fail
  refine Calls.mono (I1.out _) ?_
  rintro x w1 ⟨rfl, rfl⟩
  go_wp2_with fail
  refine Calls.mono (HA.out _ h) ?_
  rintro x w2 ⟨rfl, k2⟩
  clear HA
  obtain ⟨da, ea⟩ : ∃ q, w2.heap.size = q := ⟨_, rfl⟩
  have A := Blk.new' w2 23 (tcC false al ap) ea
  have h2s := h.chg0 k2
  have K2s := K.trans k2 (by simp)
  have KS := (Chg.refl [] w2).alloc (.cells (tcC false al ap) 23)
  replace h := (h.chg0 k2).alloc (.cells (tcC false al ap) 23)
  replace K := (K.trans k2 (by simp)).alloc (.cells (tcC false al ap) 23)
  clear k2
  go_wp2_with fail
  refine Calls.mono (HB.out _ h) ?_
  rintro x w3 ⟨rfl, k2⟩
  clear HB
  obtain ⟨db, ebb⟩ : ∃ q, w3.heap.size = q := ⟨_, rfl⟩
  have B' := Blk.new' w3 23 (tcC false bl bt) ebb
  have hab : da ≠ db := by have := (A.chg k2 (by simp)).lt; omega
  have h3' := h.chg0 k2
  have K3 := K.trans k2 (by simp)
  have A3 := A.chg k2 (by simp)
  replace KS := (KS.trans k2 (by simp)).alloc (.cells (tcC false bl bt) 23)
  have hdb : w2.heap.size ≤ db := by have := A3.lt; omega
  replace h := h3'.alloc (.cells (tcC false bl bt) 23)
  replace A := A3.alloc (.cells (tcC false bl bt) 23)
  replace K := K3.alloc (.cells (tcC false bl bt) 23)
  clear k2
  obtain ⟨a0, a1, a2⟩ := blk3 A
  obtain ⟨b0, b1, b2⟩ := blk3 B'
  have fa1 := A.frozen 1
  have fb1 := B'.frozen 1
  have fb2 := B'.frozen 2
  go_wp2
  go_ret
  exact ⟨rfl, h, Ref02.Chr.of0 K⟩
theorem give_f4 {w : World} {B r n : Nat} {v : Value} {bs : List (Nat × Nat)} {L : List Int} (h : Ref02.RM w B r v n bs L) (n1 : 1 ≤ n) (n2 : n ≤ 64) (hu : U64 L) (f to k pr : Int) (h0 : gvB f to k pr) (h1 : tE n L f = 0) (h2 : tE n L to = 0) (h3 : tZ n L to = false) (h4 : tZ n L f = true) (h6 : 1048576 < tL n L to + k) : Calls Try.prog 24 #[.pointer (some ⟨r, 0, none⟩), .int .i64 f, .int .i64 to, .int .i64 k, .int .i64 pr] w fun x w' => x = .returned (.int .i64 11) ∧ Ref02.RM w' B r v n bs L ∧ Ref02.Chr (bs.map Prod.fst) B w w' := by
  have HB0 := fun (W : World) (q : Ref02.RM W B r v n bs L) => Ref20.get_ok q n1 n2 hu to
  unfold tV at HB0
  have hbl := right_bd (t_right hu h2)
  have hal := right_bd (t_right hu h1)
  have hk := in_bd h0.1
  have hw : IntKind.i64.wrap (tL n L to + k) = tL n L to + k := by rw [IntKind.wrap_i64]; omega
  have hwa : IntKind.i64.wrap (tL n L f - k) = tL n L f - k := by rw [IntKind.wrap_i64]; omega
  have I00 := Ref20.in_ok k 1 1048576
  have I10 := Ref20.in_ok pr 0 255
  rw [h0.1] at I00
  rw [h0.2.1] at I10
  have I0 := Lib.hid I00
  have I1 := Lib.hid I10
  have hb := h0.2.2
  have hbb : (f == to) = false := by rw [beq_eq_false_iff_ne]; exact hb
  have HA0 := fun (W : World) (q : Ref02.RM W B r v n bs L) => Ref20.get_ok q n1 n2 hu f
  unfold tV at HA0
  rw [h1] at HA0
  rw [h2] at HB0
  clear hbl hal hk
  generalize tZ n L f = az at *
  generalize tL n L f = al at *
  generalize tP n L f = ap at *
  generalize tZ n L to = bz at *
  generalize tL n L to = bl at *
  generalize tP n L to = bt at *
  subst h3 h4
  have HB := Lib.hid HB0
  clear HB0 h1 h2
  have HA := Lib.hid HA0
  clear I00 I10 HA0
  clear h0 hu n1 n2
  have K := Chg.refl [] w
  go_enter Try.func24, Try.ntmps24
  go_wp2_with fail
  refine Calls.mono (I0.out _) ?_
  rintro x w1 ⟨rfl, rfl⟩
  go_wp2_with fail
  refine Calls.mono (I1.out _) ?_
  rintro x w1 ⟨rfl, rfl⟩
  go_wp2_with fail
  refine Calls.mono (HA.out _ h) ?_
  rintro x w2 ⟨rfl, k2⟩
  clear HA
  obtain ⟨da, ea⟩ : ∃ q, w2.heap.size = q := ⟨_, rfl⟩
  have A := Blk.new' w2 23 (tcC true al ap) ea
  have h2s := h.chg0 k2
  have K2s := K.trans k2 (by simp)
  have KS := (Chg.refl [] w2).alloc (.cells (tcC true al ap) 23)
  replace h := (h.chg0 k2).alloc (.cells (tcC true al ap) 23)
  replace K := (K.trans k2 (by simp)).alloc (.cells (tcC true al ap) 23)
  clear k2
  go_wp2_with fail
  refine Calls.mono (HB.out _ h) ?_
  rintro x w3 ⟨rfl, k2⟩
  clear HB
  obtain ⟨db, ebb⟩ : ∃ q, w3.heap.size = q := ⟨_, rfl⟩
  have B' := Blk.new' w3 23 (tcC false bl bt) ebb
  have hab : da ≠ db := by have := (A.chg k2 (by simp)).lt; omega
  have h3' := h.chg0 k2
  have K3 := K.trans k2 (by simp)
  have A3 := A.chg k2 (by simp)
  replace KS := (KS.trans k2 (by simp)).alloc (.cells (tcC false bl bt) 23)
  have hdb : w2.heap.size ≤ db := by have := A3.lt; omega
  replace h := h3'.alloc (.cells (tcC false bl bt) 23)
  replace A := A3.alloc (.cells (tcC false bl bt) 23)
  replace K := K3.alloc (.cells (tcC false bl bt) 23)
  clear k2
  obtain ⟨a0, a1, a2⟩ := blk3 A
  obtain ⟨b0, b1, b2⟩ := blk3 B'
  have fa1 := A.frozen 1
  have fb1 := B'.frozen 1
  have fb2 := B'.frozen 2
  go_wp2
  go_ret
  exact ⟨rfl, h, Ref02.Chr.of0 K⟩
theorem give_g {w : World} {B r n : Nat} {v : Value} {bs : List (Nat × Nat)} {L : List Int} (h : Ref02.RM w B r v n bs L) (n1 : 1 ≤ n) (n2 : n ≤ 64) (hu : U64 L) (f to k pr : Int) (h0 : gvB f to k pr) (h1 : tE n L f = 0) (h2 : tE n L to = 0) (h3 : tZ n L to = false) (h4 : tZ n L f = true) (h6 : ¬ 1048576 < tL n L to + k) : Calls Try.prog 24 #[.pointer (some ⟨r, 0, none⟩), .int .i64 f, .int .i64 to, .int .i64 k, .int .i64 pr] w fun x w' => x = .returned (.int .i64 0) ∧ Ref02.RM w' B r v n bs (layL n L to 4 [b2i (tZ n L to), tL n L to + k, pr]) ∧ Ref02.Chr (bs.map Prod.fst) B w w' := by
  have HB0 := fun (W : World) (q : Ref02.RM W B r v n bs L) => Ref20.get_ok q n1 n2 hu to
  unfold tV at HB0
  have hbl := right_bd (t_right hu h2)
  have hal := right_bd (t_right hu h1)
  have hk := in_bd h0.1
  have hw : IntKind.i64.wrap (tL n L to + k) = tL n L to + k := by rw [IntKind.wrap_i64]; omega
  have hwa : IntKind.i64.wrap (tL n L f - k) = tL n L f - k := by rw [IntKind.wrap_i64]; omega
  have hp := in_bd h0.2.1
  have HP0 := fun (W : World) (q : Ref02.RM W B r v n bs L) => Ref20.put_yes q n1 n2 hu f _ _ _ (t_right hu h1) (tE_is h1)
  rw [lay_same h.len hu h1] at HP0
  have HQ0 := fun (W : World) (q : Ref02.RM W B r v n bs L) => Ref20.put_yes q n1 n2 hu to (tZ n L to) (tL n L to + k) pr (right_mk ⟨by omega, by omega, hp.1, hp.2, fun e => absurd (h3.symm.trans e) (by decide)⟩) (tE_is h2)
  generalize layL n L to 4 [b2i (tZ n L to), tL n L to + k, pr] = M at *
  have I00 := Ref20.in_ok k 1 1048576
  have I10 := Ref20.in_ok pr 0 255
  rw [h0.1] at I00
  rw [h0.2.1] at I10
  have I0 := Lib.hid I00
  have I1 := Lib.hid I10
  have hb := h0.2.2
  have hbb : (f == to) = false := by rw [beq_eq_false_iff_ne]; exact hb
  have HA0 := fun (W : World) (q : Ref02.RM W B r v n bs L) => Ref20.get_ok q n1 n2 hu f
  unfold tV at HA0
  rw [h1] at HA0
  rw [h2] at HB0
  clear hbl hal hk hp
  generalize tZ n L f = az at *
  generalize tL n L f = al at *
  generalize tP n L f = ap at *
  generalize tZ n L to = bz at *
  generalize tL n L to = bl at *
  generalize tP n L to = bt at *
  subst h3 h4
  have HB := Lib.hid HB0
  have HP := Lib.hid HP0
  have HQ := Lib.hid HQ0
  clear HB0 HP0 HQ0 h1 h2
  have HA := Lib.hid HA0
  clear I00 I10 HA0
  clear h0 hu n1 n2
  have K := Chg.refl [] w
  go_enter Try.func24, Try.ntmps24
  go_wp2_with fail
  refine Calls.mono (I0.out _) ?_
  rintro x w1 ⟨rfl, rfl⟩
  go_wp2_with fail
  refine Calls.mono (I1.out _) ?_
  rintro x w1 ⟨rfl, rfl⟩
  go_wp2_with fail
  refine Calls.mono (HA.out _ h) ?_
  rintro x w2 ⟨rfl, k2⟩
  clear HA
  obtain ⟨da, ea⟩ : ∃ q, w2.heap.size = q := ⟨_, rfl⟩
  have A := Blk.new' w2 23 (tcC true al ap) ea
  have h2s := h.chg0 k2
  have K2s := K.trans k2 (by simp)
  have KS := (Chg.refl [] w2).alloc (.cells (tcC true al ap) 23)
  replace h := (h.chg0 k2).alloc (.cells (tcC true al ap) 23)
  replace K := (K.trans k2 (by simp)).alloc (.cells (tcC true al ap) 23)
  clear k2
  go_wp2_with fail
  refine Calls.mono (HB.out _ h) ?_
  rintro x w3 ⟨rfl, k2⟩
  clear HB
  obtain ⟨db, ebb⟩ : ∃ q, w3.heap.size = q := ⟨_, rfl⟩
  have B' := Blk.new' w3 23 (tcC false bl bt) ebb
  have hab : da ≠ db := by have := (A.chg k2 (by simp)).lt; omega
  have h3' := h.chg0 k2
  have K3 := K.trans k2 (by simp)
  have A3 := A.chg k2 (by simp)
  replace KS := (KS.trans k2 (by simp)).alloc (.cells (tcC false bl bt) 23)
  have hdb : w2.heap.size ≤ db := by have := A3.lt; omega
  replace h := h3'.alloc (.cells (tcC false bl bt) 23)
  replace A := A3.alloc (.cells (tcC false bl bt) 23)
  replace K := K3.alloc (.cells (tcC false bl bt) 23)
  clear k2
  obtain ⟨a0, a1, a2⟩ := blk3 A
  obtain ⟨b0, b1, b2⟩ := blk3 B'
  have fa1 := A.frozen 1
  have fb1 := B'.frozen 1
  have fb2 := B'.frozen 2
  replace B' := Blk.new' w3 23 (tcC false (bl + k) pr) ebb
  replace h := h3'.alloc (.cells (tcC false (bl + k) pr) 23)
  replace K := Ref02.Chr.of0 (R := bs.map Prod.fst) (B := B) (K3.alloc (.cells (tcC false (bl + k) pr) 23))
  obtain ⟨a0', a1', a2'⟩ := blk3 (A3.alloc (.cells (tcC false (bl + k) pr) 23))
  go_wp2_with fail
  refine Calls.mono (HP.out _ h) ?_
  rintro x w4 ⟨rfl, m4, k4⟩
  replace K := HeadRef.chr_trans K k4
  replace B' := Ref02.chr_blk B' k4 (.inl (by decide))
  clear HP k4 h
  obtain ⟨b0, b1, b2⟩ := blk3 B'
  go_wp2_with fail
  refine Calls.mono (HQ.out _ m4) ?_
  rintro x w5 ⟨rfl, m5, k5⟩
  replace K := HeadRef.chr_trans K k5
  go_wp2
  go_ret
  exact ⟨rfl, m5, K⟩
theorem give_h {w : World} {B r n : Nat} {v : Value} {bs : List (Nat × Nat)} {L : List Int} (h : Ref02.RM w B r v n bs L) (n1 : 1 ≤ n) (n2 : n ≤ 64) (hu : U64 L) (f to k pr : Int) (h0 : gvB f to k pr) (h1 : tE n L f = 0) (h2 : tE n L to = 0) (h3 : tZ n L to = false) (h4 : tZ n L f = false) (h5 : ¬ tL n L f < k) (h6 : ¬ 1048576 < tL n L to + k) : Calls Try.prog 24 #[.pointer (some ⟨r, 0, none⟩), .int .i64 f, .int .i64 to, .int .i64 k, .int .i64 pr] w fun x w' => x = .returned (.int .i64 0) ∧ Ref02.RM w' B r v n bs (layL n (layL n L f 4 [b2i (tZ n L f), tL n L f - k, tP n L f]) to 4 [b2i (tZ n L to), tL n L to + k, pr]) ∧ Ref02.Chr (bs.map Prod.fst) B w w' := by
  have HB0 := fun (W : World) (q : Ref02.RM W B r v n bs L) => Ref20.get_ok q n1 n2 hu to
  unfold tV at HB0
  have hbl := right_bd (t_right hu h2)
  have hal := right_bd (t_right hu h1)
  have hk := in_bd h0.1
  have hw : IntKind.i64.wrap (tL n L to + k) = tL n L to + k := by rw [IntKind.wrap_i64]; omega
  have hwa : IntKind.i64.wrap (tL n L f - k) = tL n L f - k := by rw [IntKind.wrap_i64]; omega
  have hp := in_bd h0.2.1
  have hr1 : rightC (tZ n L f) (tL n L f - k) (tP n L f) = true := right_mk ⟨by omega, by omega, hal.2.2.1, hal.2.2.2.1, fun e => absurd (h4.symm.trans e) (by decide)⟩
  have HP0 := fun (W : World) (q : Ref02.RM W B r v n bs L) => Ref20.put_yes q n1 n2 hu f _ _ _ hr1 (tE_is h1)
  have hf := isE_in (tE_is h1)
  have hne := lay_ne (g := to) (xs := [b2i (tZ n L f), tL n L f - k, tP n L f]) h.len hf (by simp) (fun e => h0.2.2 e.symm)
  have u1 := lay_u64 (n := n) (f := f) (b := 4) [b2i (tZ n L f), tL n L f - k, tP n L f] hu (right_u64 hr1)
  have HQ0 := fun (W : World) (q : Ref02.RM W B r v n bs (layL n L f 4 [b2i (tZ n L f), tL n L f - k, tP n L f])) => Ref20.put_yes q n1 n2 u1 to (tZ n L to) (tL n L to + k) pr (right_mk ⟨by omega, by omega, hp.1, hp.2, fun e => absurd (h3.symm.trans e) (by decide)⟩) (tE_is (hne.1.trans h2))
  generalize layL n L f 4 [b2i (tZ n L f), tL n L f - k, tP n L f] = L1 at *
  generalize layL n L1 to 4 [b2i (tZ n L to), tL n L to + k, pr] = M at *
  have I00 := Ref20.in_ok k 1 1048576
  have I10 := Ref20.in_ok pr 0 255
  rw [h0.1] at I00
  rw [h0.2.1] at I10
  have I0 := Lib.hid I00
  have I1 := Lib.hid I10
  have hb := h0.2.2
  have hbb : (f == to) = false := by rw [beq_eq_false_iff_ne]; exact hb
  have HA0 := fun (W : World) (q : Ref02.RM W B r v n bs L) => Ref20.get_ok q n1 n2 hu f
  unfold tV at HA0
  rw [h1] at HA0
  rw [h2] at HB0
  clear hbl hal hk hp hr1 hf hne u1
  generalize tZ n L f = az at *
  generalize tL n L f = al at *
  generalize tP n L f = ap at *
  generalize tZ n L to = bz at *
  generalize tL n L to = bl at *
  generalize tP n L to = bt at *
  subst h3 h4
  have HB := Lib.hid HB0
  have HP := Lib.hid HP0
  have HQ := Lib.hid HQ0
  clear HB0 HP0 HQ0 h1 h2
  have HA := Lib.hid HA0
  clear I00 I10 HA0
  clear h0 hu n1 n2
  have K := Chg.refl [] w
  go_enter Try.func24, Try.ntmps24
  go_wp2_with fail
  refine Calls.mono (I0.out _) ?_
  rintro x w1 ⟨rfl, rfl⟩
  go_wp2_with fail
  refine Calls.mono (I1.out _) ?_
  rintro x w1 ⟨rfl, rfl⟩
  go_wp2_with fail
  refine Calls.mono (HA.out _ h) ?_
  rintro x w2 ⟨rfl, k2⟩
  clear HA
  obtain ⟨da, ea⟩ : ∃ q, w2.heap.size = q := ⟨_, rfl⟩
  have A := Blk.new' w2 23 (tcC false al ap) ea
  have h2s := h.chg0 k2
  have K2s := K.trans k2 (by simp)
  have KS := (Chg.refl [] w2).alloc (.cells (tcC false al ap) 23)
  replace h := (h.chg0 k2).alloc (.cells (tcC false al ap) 23)
  replace K := (K.trans k2 (by simp)).alloc (.cells (tcC false al ap) 23)
  clear k2
  go_wp2_with fail
  refine Calls.mono (HB.out _ h) ?_
  rintro x w3 ⟨rfl, k2⟩
  clear HB
  obtain ⟨db, ebb⟩ : ∃ q, w3.heap.size = q := ⟨_, rfl⟩
  have B' := Blk.new' w3 23 (tcC false bl bt) ebb
  have hab : da ≠ db := by have := (A.chg k2 (by simp)).lt; omega
  have h3' := h.chg0 k2
  have K3 := K.trans k2 (by simp)
  have A3 := A.chg k2 (by simp)
  replace KS := (KS.trans k2 (by simp)).alloc (.cells (tcC false bl bt) 23)
  have hdb : w2.heap.size ≤ db := by have := A3.lt; omega
  replace h := h3'.alloc (.cells (tcC false bl bt) 23)
  replace A := A3.alloc (.cells (tcC false bl bt) 23)
  replace K := K3.alloc (.cells (tcC false bl bt) 23)
  clear k2
  obtain ⟨a0, a1, a2⟩ := blk3 A
  obtain ⟨b0, b1, b2⟩ := blk3 B'
  have fa1 := A.frozen 1
  have fb1 := B'.frozen 1
  have fb2 := B'.frozen 2
  have A4 : Blk _ da _ (tcC false (al - k) ap) := ((A.set_ 1 (.int .i64 (al - k))).far (p := ⟨db, 1, none⟩) hab (.int .i64 (bl + k))).far (p := ⟨db, 2, none⟩) hab (.int .i64 pr)
  have B4 : Blk _ db _ (tcC false (bl + k) pr) := ((B'.far (p := ⟨da, 1, none⟩) hab.symm (.int .i64 (al - k))).set_ 1 (.int .i64 (bl + k))).set_ 2 (.int .i64 pr)
  have KS4 := ((KS.setCell (p := ⟨da, 1, none⟩) (.inr (by show w2.heap.size ≤ da; omega)) (.int .i64 (al - k))).setCell (p := ⟨db, 1, none⟩) (.inr hdb) (.int .i64 (bl + k))).setCell (p := ⟨db, 2, none⟩) (.inr hdb) (.int .i64 pr)
  replace h := h2s.chg0 KS4
  replace K := Ref02.Chr.of0 (R := bs.map Prod.fst) (B := B) (K2s.trans KS4 (by simp))
  replace B' := B4
  obtain ⟨a0', a1', a2'⟩ := blk3 A4
  clear A4 B4 KS4 KS
  go_wp2_with fail
  refine Calls.mono (HP.out _ h) ?_
  rintro x w4 ⟨rfl, m4, k4⟩
  replace K := HeadRef.chr_trans K k4
  replace B' := Ref02.chr_blk B' k4 (.inl (by decide))
  clear HP k4 h
  obtain ⟨b0, b1, b2⟩ := blk3 B'
  go_wp2_with fail
  refine Calls.mono (HQ.out _ m4) ?_
  rintro x w5 ⟨rfl, m5, k5⟩
  replace K := HeadRef.chr_trans K k5
  go_wp2
  go_ret
  exact ⟨rfl, m5, K⟩
theorem give_ok {w : World} {B r n : Nat} {v : Value} {bs : List (Nat × Nat)} {L : List Int} (h : Ref02.RM w B r v n bs L) (n1 : 1 ≤ n) (n2 : n ≤ 64) (hu : U64 L) (f to k pr : Int)  : Calls Try.prog 24 #[.pointer (some ⟨r, 0, none⟩), .int .i64 f, .int .i64 to, .int .i64 k, .int .i64 pr] w fun x w' => x = .returned (.int .i64 (gvE n L f to k pr)) ∧ Ref02.RM w' B r v n bs (gvL n L f to k pr) ∧ Ref02.Chr (bs.map Prod.fst) B w w' := by
  unfold gvE gvL
  by_cases h0 : gvB f to k pr
  · rw [if_pos h0]
    by_cases h1 : tE n L f = 0
    · rw [if_pos h1]
      by_cases h2 : tE n L to = 0
      · rw [if_pos h2]
        have no : mayE (tZ n L f) (tL n L f) (tZ n L to) (tL n L to) k ≠ 0 → ¬ gvOk n L f to k pr := fun q r => q r.2.2.2
        cases h3 : tZ n L to
        · by_cases h6 : 1048576 < tL n L to + k
          · have e : mayE (tZ n L f) (tL n L f) false (tL n L to) k = 11 := by unfold mayE; rw [if_neg (by simp), if_pos (.inr (by omega))]
            rw [e, if_neg (no (by rw [h3, e]; decide))]
            cases h4 : tZ n L f
            · by_cases h5 : tL n L f < k
              · exact give_f2 h n1 n2 hu f to k pr h0 h1 h2 h3 h4 h5
              · exact give_f3 h n1 n2 hu f to k pr h0 h1 h2 h3 h4 h5 h6
            · exact give_f4 h n1 n2 hu f to k pr h0 h1 h2 h3 h4 h6
          · cases h4 : tZ n L f
            · by_cases h5 : tL n L f < k
              · have e : mayE false (tL n L f) false (tL n L to) k = 11 := by unfold mayE; rw [if_neg (by simp), if_pos (.inl ⟨rfl, h5⟩)]
                rw [e, if_neg (no (by rw [h3, h4, e]; decide))]
                exact give_f2 h n1 n2 hu f to k pr h0 h1 h2 h3 h4 h5
              · have e : mayE false (tL n L f) false (tL n L to) k = 0 := by
                  unfold mayE
                  rw [if_neg (by simp), if_neg]
                  rintro (q | q)
                  · exact h5 q.2
                  · omega
                have hok : gvOk n L f to k pr := ⟨h0, h1, h2, by rw [h3, h4]; exact e⟩
                rw [e, if_pos hok]
                unfold gv1
                rw [h4, if_neg (by simp)]
                have := Ref20c.give_h h n1 n2 hu f to k pr h0 h1 h2 h3 h4 h5 h6
                rw [h3, h4] at this
                exact this
            · have e : mayE true (tL n L f) false (tL n L to) k = 0 := by
                unfold mayE
                rw [if_neg (by simp), if_neg]
                rintro (q | q)
                · exact absurd q.1 (by decide)
                · omega
              have hok : gvOk n L f to k pr := ⟨h0, h1, h2, by rw [h3, h4]; exact e⟩
              rw [e, if_pos hok]
              unfold gv1
              rw [h4, if_pos rfl]
              have := Ref20c.give_g h n1 n2 hu f to k pr h0 h1 h2 h3 h4 h6
              rw [h3] at this
              exact this
        · have e : mayE (tZ n L f) (tL n L f) true (tL n L to) k = 4 := by unfold mayE; rw [if_pos rfl]
          rw [e, if_neg (no (by rw [h3, e]; decide))]
          exact give_f1 h n1 n2 hu f to k pr h0 h1 h2 h3
      · rw [if_neg h2, if_neg (show ¬ gvOk n L f to k pr from fun q => h2 q.2.2.1)]
        exact Ref20c.give_e h n1 n2 hu f to k pr h0 h1 h2
    · rw [if_neg h1, if_neg (show ¬ gvOk n L f to k pr from fun q => h1 q.2.1)]
      exact Ref20c.give_d h n1 n2 hu f to k pr h0 h1
  · rw [if_neg h0, if_neg (show ¬ gvOk n L f to k pr from fun q => h0 q.1)]
    by_cases h1 : inI k 1 1048576 = true
    · by_cases h2 : inI pr 0 255 = true
      · by_cases h3 : f = to
        · exact Ref20c.give_c h n1 n2 hu f to k pr h1 h2 h3
        · exact absurd ⟨h1, h2, h3⟩ h0
      · exact Ref20c.give_b h n1 n2 hu f to k pr h1 (by simpa using h2)
    · exact Ref20c.give_a h n1 n2 hu f to k pr (by simpa using h1)
end Go.Proofs.Ytknbeklplmhheaa.Ref20c
