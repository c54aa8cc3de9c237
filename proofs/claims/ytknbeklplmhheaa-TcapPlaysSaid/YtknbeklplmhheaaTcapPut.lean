/- Package tcap: Put, Make, change, may. -/
import Derived.Test.YtknbeklplmhheaaTcapCl
namespace Go.Proofs.Ytknbeklplmhheaa.TcapPut
open Go Go.RowKit Go.Proofs.Ytknbeklplmhheaa Go.Proofs.Ytknbeklplmhheaa.Heap Go.Proofs.Ytknbeklplmhheaa.Mem Go.Proofs.Ytknbeklplmhheaa.Two Go.Proofs.Ytknbeklplmhheaa.Head Go.Proofs.Ytknbeklplmhheaa.HeadPut Go.Proofs.Ytknbeklplmhheaa.HeadIs Go.Proofs.Ytknbeklplmhheaa.Lay Go.Proofs.Ytknbeklplmhheaa.Tcap Go.Proofs.Ytknbeklplmhheaa.TcapCl

theorem hmake_no {n : Nat} {L : List Int} {f k l t : Int} {z : Bool} (h : ¬ (0 ≤ f ∧ f < n)) : hmakeL n L f k l z t = L := by
  have hs : ∀ (M : List Int) (a x : Int), stL n M f a x = M := fun M a x => by
    unfold stL
    rw [if_neg (fun q => h ⟨q.1, q.2.1⟩)]
  unfold hmakeL putL
  rw [clL_no h, hs, hs, hs, hs]
  simp
set_option maxRecDepth 100000
set_option maxHeartbeats 2000000
theorem put_arg {w : World} {p g n : Nat} {L : List Int} (h : MemAt w p g n L) (f : Int) (z : Bool) (l t : Int) (h1 : rightC z l t = false) : Calls Try.prog 21 #[.pointer (some ⟨p, 0, none⟩), .int .i64 f, tcV z l t] w fun x w' => x = .returned (.int .i64 1) ∧ MemAt w' p g n L ∧ Chg [g] w w' := by
  have HR0 := Tcap.right_ok z l t
  rw [h1] at HR0
  have HR := Lib.hid HR0
  clear HR0 h1
  obtain ⟨q, eq⟩ : ∃ q, w.heap.size = q := ⟨_, rfl⟩
  have Q := Blk.new' w 23 (tcC z l t) eq
  replace h := h.alloc (.cells (tcC z l t) 23)
  have K := (Chg.refl [g] w).alloc (.cells (tcC z l t) 23)
  obtain ⟨q0, q1, q2⟩ := blk3 Q
  go_enter Try.func21, Try.ntmps21
  go_wp2_with fail
  refine Calls.mono (HR.out _) ?_
  rintro x w1 ⟨rfl, k1⟩
  clear HR q0 q1 q2
  replace h := h.chg0 k1
  replace Q := Q.chg k1 (by simp)
  replace K := K.trans k1 (by simp)
  clear k1
  go_wp2
  go_ret
  exact ⟨rfl, h, K⟩
theorem put_type {w : World} {p g n : Nat} {L : List Int} (h : MemAt w p g n L) (hu : U64 L) (f : Int) (z : Bool) (l t : Int) (h1 : rightC z l t = true) (h2 : ¬ isE n L f 5 = 0) : Calls Try.prog 21 #[.pointer (some ⟨p, 0, none⟩), .int .i64 f, tcV z l t] w fun x w' => x = .returned (.int .i64 4) ∧ MemAt w' p g n L ∧ Chg [g] w w' := by
  have HR0 := Tcap.right_ok z l t
  rw [h1] at HR0
  have HR := Lib.hid HR0
  have HI0 := fun (W : World) (q : MemAt W p g n L) => HeadIs.is_ok q hu f 5
  generalize isE n L f 5 = e0 at *
  have hb0 : (e0 != 0) = true := by rw [bne_iff_ne]; exact h2
  have HI := Lib.hid HI0
  clear HR0 HI0 h1 hu
  obtain ⟨q, eq⟩ : ∃ q, w.heap.size = q := ⟨_, rfl⟩
  have Q := Blk.new' w 23 (tcC z l t) eq
  replace h := h.alloc (.cells (tcC z l t) 23)
  have K := (Chg.refl [g] w).alloc (.cells (tcC z l t) 23)
  obtain ⟨q0, q1, q2⟩ := blk3 Q
  go_enter Try.func21, Try.ntmps21
  go_wp2_with fail
  refine Calls.mono (HR.out _) ?_
  rintro x w1 ⟨rfl, k1⟩
  clear HR q0 q1 q2
  replace h := h.chg0 k1
  replace Q := Q.chg k1 (by simp)
  replace K := K.trans k1 (by simp)
  clear k1
  go_wp2_with fail
  refine Calls.mono (HI.out _ h) ?_
  rintro x w2 ⟨rfl, k2⟩
  clear HI
  replace h := h.chg0 k2
  replace Q := Q.chg k2 (by simp)
  replace K := K.trans k2 (by simp)
  clear k2
  go_wp2
  go_ret
  exact ⟨rfl, h, K⟩
theorem put_yes {w : World} {p g n : Nat} {L : List Int} (h : MemAt w p g n L) (hu : U64 L) (f : Int) (z : Bool) (l t : Int) (h1 : rightC z l t = true) (h2 : isE n L f 5 = 0) : Calls Try.prog 21 #[.pointer (some ⟨p, 0, none⟩), .int .i64 f, tcV z l t] w fun x w' => x = .returned (.int .i64 0) ∧ MemAt w' p g n (layL n L f 4 [b2i z, l, t]) ∧ Chg [g] w w' := by
  have HR0 := Tcap.right_ok z l t
  rw [h1] at HR0
  have HR := Lib.hid HR0
  have HI0 := fun (W : World) (q : MemAt W p g n L) => HeadIs.is_ok q hu f 5
  rw [h2] at HI0
  have HI := Lib.hid HI0
  have HL := Lib.hid (fun (W : World) (q : MemAt W p g n L) => lay_ok q (isE_in h2) z l t h1)
  clear HR0 HI0 h1 h2 hu
  obtain ⟨q, eq⟩ : ∃ q, w.heap.size = q := ⟨_, rfl⟩
  have Q := Blk.new' w 23 (tcC z l t) eq
  replace h := h.alloc (.cells (tcC z l t) 23)
  have K := (Chg.refl [g] w).alloc (.cells (tcC z l t) 23)
  obtain ⟨q0, q1, q2⟩ := blk3 Q
  go_enter Try.func21, Try.ntmps21
  go_wp2_with fail
  refine Calls.mono (HR.out _) ?_
  rintro x w1 ⟨rfl, k1⟩
  clear HR q0 q1 q2
  replace h := h.chg0 k1
  replace Q := Q.chg k1 (by simp)
  replace K := K.trans k1 (by simp)
  clear k1
  go_wp2_with fail
  refine Calls.mono (HI.out _ h) ?_
  rintro x w2 ⟨rfl, k2⟩
  clear HI
  replace h := h.chg0 k2
  replace Q := Q.chg k2 (by simp)
  replace K := K.trans k2 (by simp)
  clear k2
  obtain ⟨q0, q1, q2⟩ := blk3 Q
  go_wp2_with fail
  refine Calls.mono (HL.out _ h) ?_
  rintro x w4 ⟨rfl, m4, k4⟩
  replace K := K.trans k4 (by simp)
  clear k4 HL q0 q1 q2 Q
  go_wp2
  go_ret
  exact ⟨rfl, m4, K⟩
def pE (n : Nat) (L : List Int) (f : Int) (z : Bool) (l t : Int) : Int := if rightC z l t = true then (if isE n L f 5 = 0 then 0 else 4) else 1
def pL (n : Nat) (L : List Int) (f : Int) (z : Bool) (l t : Int) : List Int := if rightC z l t = true ∧ isE n L f 5 = 0 then layL n L f 4 [b2i z, l, t] else L
theorem put_ok {w : World} {p g n : Nat} {L : List Int} (h : MemAt w p g n L) (hu : U64 L) (f : Int) (z : Bool) (l t : Int)  : Calls Try.prog 21 #[.pointer (some ⟨p, 0, none⟩), .int .i64 f, tcV z l t] w fun x w' => x = .returned (.int .i64 (pE n L f z l t)) ∧ MemAt w' p g n (pL n L f z l t) ∧ Chg [g] w w' := by
  unfold pE pL
  by_cases h1 : rightC z l t = true
  · by_cases h2 : isE n L f 5 = 0
    · rw [if_pos h1, if_pos h2, if_pos ⟨h1, h2⟩]
      exact put_yes h hu f z l t h1 h2
    · rw [if_pos h1, if_neg h2, if_neg (fun q => h2 q.2)]
      exact put_type h hu f z l t h1 h2
  · rw [if_neg h1, if_neg (fun q => h1 q.1)]
    exact put_arg h f z l t (by simpa using h1)
theorem make_arg {w : World} {p g n : Nat} {L : List Int} (h : MemAt w p g n L) (f : Int) (z : Bool) (l t : Int) (h1 : rightC z l t = false) : Calls Try.prog 10 #[.pointer (some ⟨p, 0, none⟩), .int .i64 f, tcV z l t] w fun x w' => x = .returned (.int .i64 1) ∧ MemAt w' p g n L ∧ Chg [g] w w' := by
  have HR0 := Tcap.right_ok z l t
  rw [h1] at HR0
  have HR := Lib.hid HR0
  clear HR0 h1
  obtain ⟨q, eq⟩ : ∃ q, w.heap.size = q := ⟨_, rfl⟩
  have Q := Blk.new' w 23 (tcC z l t) eq
  replace h := h.alloc (.cells (tcC z l t) 23)
  have K := (Chg.refl [g] w).alloc (.cells (tcC z l t) 23)
  obtain ⟨q0, q1, q2⟩ := blk3 Q
  go_enter Try.func10, Try.ntmps10
  go_wp2_with fail
  refine Calls.mono (HR.out _) ?_
  rintro x w1 ⟨rfl, k1⟩
  clear HR q0 q1 q2
  replace h := h.chg0 k1
  replace Q := Q.chg k1 (by simp)
  replace K := K.trans k1 (by simp)
  clear k1
  go_wp2
  go_ret
  exact ⟨rfl, h, K⟩
theorem make_no {w : World} {p g n : Nat} {L : List Int} (h : MemAt w p g n L) (f : Int) (z : Bool) (l t : Int) (h1 : rightC z l t = true) (h2 : ¬ (0 ≤ f ∧ f < n)) : Calls Try.prog 10 #[.pointer (some ⟨p, 0, none⟩), .int .i64 f, tcV z l t] w fun x w' => x = .returned (.int .i64 1) ∧ MemAt w' p g n L ∧ Chg [g] w w' := by
  have HR0 := Tcap.right_ok z l t
  rw [h1] at HR0
  have HR := Lib.hid HR0
  have HM0 := fun (W : World) (q : MemAt W p g n L) => HeadIs.make_ok q f 5 0 false 0
  rw [hmake_no h2, show hputE n f 5 0 false 0 = 1 from by unfold hputE canF; rw [if_pos (by decide), if_neg h2]] at HM0
  have HM := Lib.hid HM0
  clear HR0 HM0 h1 h2
  obtain ⟨q, eq⟩ : ∃ q, w.heap.size = q := ⟨_, rfl⟩
  have Q := Blk.new' w 23 (tcC z l t) eq
  replace h := h.alloc (.cells (tcC z l t) 23)
  have K := (Chg.refl [g] w).alloc (.cells (tcC z l t) 23)
  obtain ⟨q0, q1, q2⟩ := blk3 Q
  go_enter Try.func10, Try.ntmps10
  go_wp2_with fail
  refine Calls.mono (HR.out _) ?_
  rintro x w1 ⟨rfl, k1⟩
  clear HR q0 q1 q2
  replace h := h.chg0 k1
  replace Q := Q.chg k1 (by simp)
  replace K := K.trans k1 (by simp)
  clear k1
  have hqg : q ≠ g := Blk.ne_ Q h.row (by decide)
  go_wp2_with fail
  refine Calls.mono (HM.out _ h) ?_
  rintro x w2 ⟨rfl, m2, k2⟩
  clear HM h
  replace Q := Q.chg k2 (by simpa using hqg)
  replace K := K.trans k2 (by simp)
  clear k2
  clear Q
  go_wp2
  go_ret
  exact ⟨rfl, m2, K⟩
theorem make_yes {w : World} {p g n : Nat} {L : List Int} (h : MemAt w p g n L) (f : Int) (z : Bool) (l t : Int) (h1 : rightC z l t = true) (h2 : 0 ≤ f ∧ f < n) : Calls Try.prog 10 #[.pointer (some ⟨p, 0, none⟩), .int .i64 f, tcV z l t] w fun x w' => x = .returned (.int .i64 0) ∧ MemAt w' p g n (layL n (hmakeL n L f 5 0 false 0) f 4 [b2i z, l, t]) ∧ Chg [g] w w' := by
  have HR0 := Tcap.right_ok z l t
  rw [h1] at HR0
  have HR := Lib.hid HR0
  have HM0 := fun (W : World) (q : MemAt W p g n L) => HeadIs.make_ok q f 5 0 false 0
  rw [show hputE n f 5 0 false 0 = 0 from by unfold hputE canF; rw [if_pos (by decide), if_pos h2]] at HM0
  have HM := Lib.hid HM0
  generalize hmakeL n L f 5 0 false 0 = M at *
  have HL := Lib.hid (fun (W : World) (q : MemAt W p g n M) => lay_ok q h2 z l t h1)
  clear HR0 HM0 h1 h2
  obtain ⟨q, eq⟩ : ∃ q, w.heap.size = q := ⟨_, rfl⟩
  have Q := Blk.new' w 23 (tcC z l t) eq
  replace h := h.alloc (.cells (tcC z l t) 23)
  have K := (Chg.refl [g] w).alloc (.cells (tcC z l t) 23)
  obtain ⟨q0, q1, q2⟩ := blk3 Q
  go_enter Try.func10, Try.ntmps10
  go_wp2_with fail
  refine Calls.mono (HR.out _) ?_
  rintro x w1 ⟨rfl, k1⟩
  clear HR q0 q1 q2
  replace h := h.chg0 k1
  replace Q := Q.chg k1 (by simp)
  replace K := K.trans k1 (by simp)
  clear k1
  have hqg : q ≠ g := Blk.ne_ Q h.row (by decide)
  go_wp2_with fail
  refine Calls.mono (HM.out _ h) ?_
  rintro x w2 ⟨rfl, m2, k2⟩
  clear HM h
  replace Q := Q.chg k2 (by simpa using hqg)
  replace K := K.trans k2 (by simp)
  clear k2
  obtain ⟨q0, q1, q2⟩ := blk3 Q
  go_wp2_with fail
  refine Calls.mono (HL.out _ m2) ?_
  rintro x w4 ⟨rfl, m4, k4⟩
  replace K := K.trans k4 (by simp)
  clear k4 HL q0 q1 q2 Q
  go_wp2
  go_ret
  exact ⟨rfl, m4, K⟩
def mE (n : Nat) (f : Int) (z : Bool) (l t : Int) : Int := if rightC z l t = true then canF n f else 1
def mL (n : Nat) (L : List Int) (f : Int) (z : Bool) (l t : Int) : List Int := if rightC z l t = true ∧ (0 ≤ f ∧ f < n) then layL n (hmakeL n L f 5 0 false 0) f 4 [b2i z, l, t] else L
theorem make_ok {w : World} {p g n : Nat} {L : List Int} (h : MemAt w p g n L) (f : Int) (z : Bool) (l t : Int)  : Calls Try.prog 10 #[.pointer (some ⟨p, 0, none⟩), .int .i64 f, tcV z l t] w fun x w' => x = .returned (.int .i64 (mE n f z l t)) ∧ MemAt w' p g n (mL n L f z l t) ∧ Chg [g] w w' := by
  unfold mE mL canF
  by_cases h1 : rightC z l t = true
  · by_cases h2 : 0 ≤ f ∧ f < n
    · rw [if_pos h1, if_pos h2, if_pos ⟨h1, h2⟩]
      exact make_yes h f z l t h1 h2
    · rw [if_pos h1, if_neg h2, if_neg (fun q => h2 q.2)]
      exact make_no h f z l t h1 h2
  · rw [if_neg h1, if_neg (fun q => h1 q.1)]
    exact make_arg h f z l t (by simpa using h1)
theorem tE_zero {n : Nat} {L : List Int} {f : Int} (h : tE n L f = 0) : tB n L f := by
  unfold tE at h
  by_cases h1 : tB n L f
  · exact h1
  · rw [if_neg h1] at h
    split at h <;> cases h
theorem tE_is {n : Nat} {L : List Int} {f : Int} (h : tE n L f = 0) : isE n L f 5 = 0 := (tE_zero h).1
/-- What is read of a budget is right. -/
theorem t_right {n : Nat} {L : List Int} (hu : U64 L) {f : Int} (h : tE n L f = 0) : rightC (tZ n L f) (tL n L f) (tP n L f) = true := by
  have hb := tE_zero h
  have b5 := hu.ld (n := n) f 5
  have b6 := hu.ld (n := n) f 6
  have q := hb.2
  unfold tZ tL tP
  rw [if_pos hb, if_pos hb, if_pos hb]
  exact right_mk ⟨by omega, q.2.1, by omega, q.2.2.1, fun e => q.2.2.2 (by simpa using e)⟩
theorem change_no {w : World} {p g n : Nat} {L : List Int} (h : MemAt w p g n L) (hu : U64 L) (f : Int) (h1 : ¬ tE n L f = 0) (fv : Value) : Calls Try.prog 60 #[.pointer (some ⟨p, 0, none⟩), .int .i64 f, fv] w fun x w' => x = .returned (.int .i64 (tE n L f)) ∧ MemAt w' p g n L ∧ Chg [g] w w' := by
  have HG0 := fun (W : World) (q : MemAt W p g n L) => Tcap.get_ok q hu f
  unfold tV at HG0
  generalize tE n L f = E at *
  have hb0 : (E != 0) = true := by rw [bne_iff_ne]; exact h1
  clear hu
  have HG := Lib.hid HG0
  generalize tZ n L f = z at *
  generalize tL n L f = l at *
  generalize tP n L f = t at *
  clear HG0
  have K := Chg.refl [g] w
  go_enter Try.func60, Try.ntmps60
  go_wp2_with fail
  refine Calls.mono (HG.out _ h) ?_
  rintro x w1 ⟨rfl, k1⟩
  clear HG
  replace h := (h.chg0 k1).alloc (.cells (tcC z l t) 23)
  replace K := (K.trans k1 (by simp)).alloc (.cells (tcC z l t) 23)
  clear k1
  go_wp2
  go_ret
  exact ⟨rfl, h, K⟩
theorem change_give1 {w : World} {p g n b : Nat} {L : List Int} (h : MemAt w p g n L) (hu : U64 L) (f : Int) {k : Int} (N : Blk w b 3 #[.int .i64 k]) (h1 : tE n L f = 0) (hr : rightC (tZ n L f) (tL n L f - k) (tP n L f) = true) : Calls Try.prog 60 #[.pointer (some ⟨p, 0, none⟩), .int .i64 f, .func (.func 82) #[] #[.pointer (some ⟨b, 0, none⟩)]] w fun x w' => x = .returned (.int .i64 0) ∧ MemAt w' p g n (layL n L f 4 [b2i (tZ n L f), tL n L f - k, tP n L f]) ∧ Chg [g] w w' := by
  have HG0 := fun (W : World) (q : MemAt W p g n L) => Tcap.get_ok q hu f
  unfold tV at HG0
  rw [h1] at HG0
  have HP := Lib.hid (fun (W : World) (q : MemAt W p g n L) => put_yes q hu f (tZ n L f) ((tL n L f) - k) (tP n L f) hr (tE_is h1))
  have hw : IntKind.i64.wrap (tL n L f - k) = tL n L f - k := by have := right_bd hr; rw [IntKind.wrap_i64]; omega
  clear h1 hu hr
  have HG := Lib.hid HG0
  generalize tZ n L f = z at *
  generalize tL n L f = l at *
  generalize tP n L f = t at *
  clear HG0
  have K := Chg.refl [g] w
  go_enter Try.func60, Try.ntmps60
  go_wp2_with fail
  refine Calls.mono (HG.out _ h) ?_
  rintro x w1 ⟨rfl, k1⟩
  clear HG
  replace h := (h.chg0 k1).alloc (.cells (tcC z l t) 23)
  replace K := (K.trans k1 (by simp)).alloc (.cells (tcC z l t) 23)
  obtain ⟨d, ed⟩ : ∃ d, w1.heap.size = d := ⟨_, rfl⟩
  have D := Blk.new' w1 23 (tcC z l t) ed
  replace N := (N.chg k1 (by simp)).alloc (.cells (tcC z l t) 23)
  have hdw : w.heap.size ≤ d := by rw [← ed]; exact k1.size
  have hdp : d ≠ p := Blk.ne_ D h.hd (by decide)
  have hdg : d ≠ g := Blk.ne_ D h.row (by decide)
  clear k1
  go_wp2_with fail
  refine Calls.mono (give1_ok D N hw) ?_
  rintro x w2 ⟨rfl, D, k2⟩
  replace h := h.chg k2 (by simpa using hdp.symm) (by simpa using hdg.symm)
  replace K := K.trans k2 (by intro s hs; right; simp at hs; omega)
  clear k2
  obtain ⟨d0, d1, d2⟩ := blk3 D
  go_wp2_with fail
  refine Calls.mono (HP.out _ h) ?_
  rintro x w3 ⟨rfl, m3, k3⟩
  replace K := K.trans k3 (by simp)
  go_wp2
  go_ret
  exact ⟨rfl, m3, K⟩
theorem change_give2 {w : World} {p g n b c : Nat} {L : List Int} (h : MemAt w p g n L) (hu : U64 L) (f : Int) {k pr : Int} (N : Blk w b 3 #[.int .i64 k]) (M : Blk w c 3 #[.int .i64 pr]) (h1 : tE n L f = 0) (hr : rightC (tZ n L f) (tL n L f + k) pr = true) : Calls Try.prog 60 #[.pointer (some ⟨p, 0, none⟩), .int .i64 f, .func (.func 83) #[] #[.pointer (some ⟨b, 0, none⟩), .pointer (some ⟨c, 0, none⟩)]] w fun x w' => x = .returned (.int .i64 0) ∧ MemAt w' p g n (layL n L f 4 [b2i (tZ n L f), tL n L f + k, pr]) ∧ Chg [g] w w' := by
  have HG0 := fun (W : World) (q : MemAt W p g n L) => Tcap.get_ok q hu f
  unfold tV at HG0
  rw [h1] at HG0
  have HP := Lib.hid (fun (W : World) (q : MemAt W p g n L) => put_yes q hu f (tZ n L f) ((tL n L f) + k) pr hr (tE_is h1))
  have hw : IntKind.i64.wrap (tL n L f + k) = tL n L f + k := by have := right_bd hr; rw [IntKind.wrap_i64]; omega
  clear h1 hu hr
  have HG := Lib.hid HG0
  generalize tZ n L f = z at *
  generalize tL n L f = l at *
  generalize tP n L f = t at *
  clear HG0
  have K := Chg.refl [g] w
  go_enter Try.func60, Try.ntmps60
  go_wp2_with fail
  refine Calls.mono (HG.out _ h) ?_
  rintro x w1 ⟨rfl, k1⟩
  clear HG
  replace h := (h.chg0 k1).alloc (.cells (tcC z l t) 23)
  replace K := (K.trans k1 (by simp)).alloc (.cells (tcC z l t) 23)
  obtain ⟨d, ed⟩ : ∃ d, w1.heap.size = d := ⟨_, rfl⟩
  have D := Blk.new' w1 23 (tcC z l t) ed
  replace N := (N.chg k1 (by simp)).alloc (.cells (tcC z l t) 23)
  replace M := (M.chg k1 (by simp)).alloc (.cells (tcC z l t) 23)
  have hdw : w.heap.size ≤ d := by rw [← ed]; exact k1.size
  have hdp : d ≠ p := Blk.ne_ D h.hd (by decide)
  have hdg : d ≠ g := Blk.ne_ D h.row (by decide)
  clear k1
  go_wp2_with fail
  refine Calls.mono (give2_ok D N M hw) ?_
  rintro x w2 ⟨rfl, D, k2⟩
  replace h := h.chg k2 (by simpa using hdp.symm) (by simpa using hdg.symm)
  replace K := K.trans k2 (by intro s hs; right; simp at hs; omega)
  clear k2
  obtain ⟨d0, d1, d2⟩ := blk3 D
  go_wp2_with fail
  refine Calls.mono (HP.out _ h) ?_
  rintro x w3 ⟨rfl, m3, k3⟩
  replace K := K.trans k3 (by simp)
  go_wp2
  go_ret
  exact ⟨rfl, m3, K⟩
theorem change_inf {w : World} {p g n b s : Nat} {L : List Int} (h : MemAt w p g n L) (hu : U64 L) (f : Int) {v : Value} (S : Blk w s 4 #[v]) (h1 : tE n L f = 0) (hz : tZ n L f = true) (hr : rightC (tZ n L f) (tL n L f) (tP n L f) = true) : Calls Try.prog 60 #[.pointer (some ⟨p, 0, none⟩), .int .i64 f, .func (.func 61) #[] #[.pointer (some ⟨b, 0, none⟩), .pointer (some ⟨s, 0, none⟩)]] w fun x w' => x = .returned (.int .i64 0) ∧ MemAt w' p g n (layL n L f 4 [b2i (tZ n L f), tL n L f, tP n L f]) ∧ Blk w' s 4 #[v] ∧ Chg [g] w w' := by
  have HG0 := fun (W : World) (q : MemAt W p g n L) => Tcap.get_ok q hu f
  unfold tV at HG0
  rw [h1] at HG0
  have HP := Lib.hid (fun (W : World) (q : MemAt W p g n L) => put_yes q hu f (tZ n L f) (tL n L f) (tP n L f) hr (tE_is h1))
  clear h1 hu hr
  have HG := Lib.hid HG0
  generalize tZ n L f = z at *
  generalize tL n L f = l at *
  generalize tP n L f = t at *
  clear HG0
  have K := Chg.refl [g] w
  go_enter Try.func60, Try.ntmps60
  go_wp2_with fail
  refine Calls.mono (HG.out _ h) ?_
  rintro x w1 ⟨rfl, k1⟩
  clear HG
  replace h := (h.chg0 k1).alloc (.cells (tcC z l t) 23)
  replace K := (K.trans k1 (by simp)).alloc (.cells (tcC z l t) 23)
  subst hz
  obtain ⟨d, ed⟩ : ∃ d, w1.heap.size = d := ⟨_, rfl⟩
  have D := Blk.new' w1 23 (tcC true l t) ed
  replace S := (S.chg k1 (by simp)).alloc (.cells (tcC true l t) 23)
  have hdw : w.heap.size ≤ d := by rw [← ed]; exact k1.size
  have hdp : d ≠ p := Blk.ne_ D h.hd (by decide)
  have hdg : d ≠ g := Blk.ne_ D h.row (by decide)
  clear k1
  go_wp2_with fail
  refine Calls.mono (charge_inf D) ?_
  rintro x w2 ⟨rfl, rfl⟩
  have hsg : s ≠ g := Blk.ne_ S h.row (by decide)
  obtain ⟨d0, d1, d2⟩ := blk3 D
  go_wp2_with fail
  refine Calls.mono (HP.out _ h) ?_
  rintro x w3 ⟨rfl, m3, k3⟩
  replace K := K.trans k3 (by simp)
  replace S := S.chg k3 (by simpa using hsg)
  go_wp2
  go_ret
  exact ⟨rfl, m3, S, K⟩
theorem change_neg {w : World} {p g n b s : Nat} {L : List Int} (h : MemAt w p g n L) (hu : U64 L) (f : Int) {k : Int} {v : Bool} (N : Blk w b 3 #[.int .i64 k]) (S : Blk w s 4 #[.bool v]) (h1 : tE n L f = 0) (hz : tZ n L f = false) (hk : 0 ≤ k ∧ k ≤ 1048576) (hm : tL n L f - k < 0) (hr : rightC (tZ n L f) 0 (tP n L f) = true) : Calls Try.prog 60 #[.pointer (some ⟨p, 0, none⟩), .int .i64 f, .func (.func 61) #[] #[.pointer (some ⟨b, 0, none⟩), .pointer (some ⟨s, 0, none⟩)]] w fun x w' => x = .returned (.int .i64 0) ∧ MemAt w' p g n (layL n L f 4 [b2i (tZ n L f), 0, tP n L f]) ∧ Blk w' s 4 #[.bool (0 == 0)] ∧ Chg [g, s] w w' := by
  have HG0 := fun (W : World) (q : MemAt W p g n L) => Tcap.get_ok q hu f
  unfold tV at HG0
  rw [h1] at HG0
  have HP := Lib.hid (fun (W : World) (q : MemAt W p g n L) => put_yes q hu f (tZ n L f) 0 (tP n L f) hr (tE_is h1))
  have hrt := right_bd (t_right hu h1)
  have hw : IntKind.i64.wrap (tL n L f - k) = tL n L f - k := by rw [IntKind.wrap_i64]; omega
  clear h1 hu hr
  have HG := Lib.hid HG0
  generalize tZ n L f = z at *
  generalize tL n L f = l at *
  generalize tP n L f = t at *
  clear HG0
  have K := Chg.refl [g, s] w
  go_enter Try.func60, Try.ntmps60
  go_wp2_with fail
  refine Calls.mono (HG.out _ h) ?_
  rintro x w1 ⟨rfl, k1⟩
  clear HG
  replace h := (h.chg0 k1).alloc (.cells (tcC z l t) 23)
  replace K := (K.trans k1 (by simp)).alloc (.cells (tcC z l t) 23)
  subst hz
  obtain ⟨d, ed⟩ : ∃ d, w1.heap.size = d := ⟨_, rfl⟩
  have D := Blk.new' w1 23 (tcC false l t) ed
  replace N := (N.chg k1 (by simp)).alloc (.cells (tcC false l t) 23)
  replace S := (S.chg k1 (by simp)).alloc (.cells (tcC false l t) 23)
  have hdw : w.heap.size ≤ d := by rw [← ed]; exact k1.size
  have hdp : d ≠ p := Blk.ne_ D h.hd (by decide)
  have hdg : d ≠ g := Blk.ne_ D h.row (by decide)
  have hsp : s ≠ p := Blk.ne_ S h.hd (by decide)
  have hsg : s ≠ g := Blk.ne_ S h.row (by decide)
  clear k1
  go_wp2_with fail
  refine Calls.mono (charge_neg D N S hw (by omega)) ?_
  rintro x w2 ⟨rfl, D, S, k2⟩
  replace h := h.chg k2 (by simp; exact ⟨hdp.symm, hsp.symm⟩) (by simp; exact ⟨hdg.symm, hsg.symm⟩)
  replace K := K.trans k2 (by intro x hx; simp at hx; rcases hx with rfl | rfl; exact .inr hdw; exact .inl (by simp))
  clear k2
  obtain ⟨d0, d1, d2⟩ := blk3 D
  go_wp2_with fail
  refine Calls.mono (HP.out _ h) ?_
  rintro x w3 ⟨rfl, m3, k3⟩
  replace K := K.trans k3 (by simp)
  replace S := S.chg k3 (by simpa using hsg)
  go_wp2
  go_ret
  exact ⟨rfl, m3, S, K⟩
theorem change_pos {w : World} {p g n b s : Nat} {L : List Int} (h : MemAt w p g n L) (hu : U64 L) (f : Int) {k : Int} {v : Bool} (N : Blk w b 3 #[.int .i64 k]) (S : Blk w s 4 #[.bool v]) (h1 : tE n L f = 0) (hz : tZ n L f = false) (hk : 0 ≤ k ∧ k ≤ 1048576) (hm : ¬ tL n L f - k < 0) (hr : rightC (tZ n L f) (tL n L f - k) (tP n L f) = true) : Calls Try.prog 60 #[.pointer (some ⟨p, 0, none⟩), .int .i64 f, .func (.func 61) #[] #[.pointer (some ⟨b, 0, none⟩), .pointer (some ⟨s, 0, none⟩)]] w fun x w' => x = .returned (.int .i64 0) ∧ MemAt w' p g n (layL n L f 4 [b2i (tZ n L f), (tL n L f - k), tP n L f]) ∧ Blk w' s 4 #[.bool ((tL n L f - k) == 0)] ∧ Chg [g, s] w w' := by
  have HG0 := fun (W : World) (q : MemAt W p g n L) => Tcap.get_ok q hu f
  unfold tV at HG0
  rw [h1] at HG0
  have HP := Lib.hid (fun (W : World) (q : MemAt W p g n L) => put_yes q hu f (tZ n L f) ((tL n L f) - k) (tP n L f) hr (tE_is h1))
  have hrt := right_bd (t_right hu h1)
  have hw : IntKind.i64.wrap (tL n L f - k) = tL n L f - k := by rw [IntKind.wrap_i64]; omega
  clear h1 hu hr
  have HG := Lib.hid HG0
  generalize tZ n L f = z at *
  generalize tL n L f = l at *
  generalize tP n L f = t at *
  clear HG0
  have K := Chg.refl [g, s] w
  go_enter Try.func60, Try.ntmps60
  go_wp2_with fail
  refine Calls.mono (HG.out _ h) ?_
  rintro x w1 ⟨rfl, k1⟩
  clear HG
  replace h := (h.chg0 k1).alloc (.cells (tcC z l t) 23)
  replace K := (K.trans k1 (by simp)).alloc (.cells (tcC z l t) 23)
  subst hz
  obtain ⟨d, ed⟩ : ∃ d, w1.heap.size = d := ⟨_, rfl⟩
  have D := Blk.new' w1 23 (tcC false l t) ed
  replace N := (N.chg k1 (by simp)).alloc (.cells (tcC false l t) 23)
  replace S := (S.chg k1 (by simp)).alloc (.cells (tcC false l t) 23)
  have hdw : w.heap.size ≤ d := by rw [← ed]; exact k1.size
  have hdp : d ≠ p := Blk.ne_ D h.hd (by decide)
  have hdg : d ≠ g := Blk.ne_ D h.row (by decide)
  have hsp : s ≠ p := Blk.ne_ S h.hd (by decide)
  have hsg : s ≠ g := Blk.ne_ S h.row (by decide)
  clear k1
  go_wp2_with fail
  refine Calls.mono (charge_pos D N S hw (by omega)) ?_
  rintro x w2 ⟨rfl, D, S, k2⟩
  replace h := h.chg k2 (by simp; exact ⟨hdp.symm, hsp.symm⟩) (by simp; exact ⟨hdg.symm, hsg.symm⟩)
  replace K := K.trans k2 (by intro x hx; simp at hx; rcases hx with rfl | rfl; exact .inr hdw; exact .inl (by simp))
  clear k2
  obtain ⟨d0, d1, d2⟩ := blk3 D
  go_wp2_with fail
  refine Calls.mono (HP.out _ h) ?_
  rintro x w3 ⟨rfl, m3, k3⟩
  replace K := K.trans k3 (by simp)
  replace S := S.chg k3 (by simpa using hsg)
  go_wp2
  go_ret
  exact ⟨rfl, m3, S, K⟩
def mayE (az : Bool) (al : Int) (bz : Bool) (bl k : Int) : Int := if bz = true then 4 else if (az = false ∧ al < k) ∨ 1048576 - bl < k then 11 else 0
theorem may_ok (az : Bool) (al at_ : Int) (bz : Bool) (bl bt k : Int) (w : World) (hb : 0 ≤ bl ∧ bl ≤ 1048576) : Calls Try.prog 81 #[tcV az al at_, tcV bz bl bt, .int .i64 k] w fun x w' => x = .returned (.int .i64 (mayE az al bz bl k)) ∧ Chg [] w w' := by
  obtain ⟨b3, e3⟩ : ∃ q, w.heap.size = q := ⟨_, rfl⟩
  have B3 := Blk.new' w 23 (tcC az al at_) e3
  obtain ⟨b4, e4⟩ : ∃ q, b3 + 1 = q := ⟨_, rfl⟩
  have B4 := Blk.new' (g := b4) (w.alloc (.cells (tcC az al at_) 23)) 23 (tcC bz bl bt) (by simp; omega)
  replace B3 := B3.alloc (.cells (tcC bz bl bt) 23)
  have K := ((Chg.refl [] w).alloc (.cells (tcC az al at_) 23)).alloc (.cells (tcC bz bl bt) 23)
  obtain ⟨p0, p1, p2⟩ := blk3 B3
  obtain ⟨q0, q1, q2⟩ := blk3 B4
  have hw : IntKind.i64.wrap (1048576 - bl) = 1048576 - bl := by rw [IntKind.wrap_i64]; omega
  have e0 : mayE az al bz bl k = if bz = true then 4 else if (az = false ∧ al < k) ∨ 1048576 - bl < k then 11 else 0 := rfl
  generalize mayE az al bz bl k = E at *
  cases bz
  · cases az
    · by_cases h1 : al < k
      · rw [if_neg (by simp), if_pos (.inl ⟨rfl, h1⟩)] at e0
        subst e0
        clear B3 B4 hb
        go_enter Try.func81, Try.ntmps81
        go_wp2
        go_ret
        exact ⟨rfl, K⟩
      · by_cases h2 : 1048576 - bl < k
        · rw [if_neg (by simp), if_pos (.inr h2)] at e0
          subst e0
          clear B3 B4 hb
          go_enter Try.func81, Try.ntmps81
          go_wp2
          go_ret
          exact ⟨rfl, K⟩
        · rw [if_neg (by simp), if_neg (by rintro (q | q); exact h1 q.2; exact h2 q)] at e0
          subst e0
          clear B3 B4 hb
          go_enter Try.func81, Try.ntmps81
          go_wp2
          go_ret
          exact ⟨rfl, K⟩
    · by_cases h2 : 1048576 - bl < k
      · rw [if_neg (by simp), if_pos (.inr h2)] at e0
        subst e0
        clear B3 B4 hb
        go_enter Try.func81, Try.ntmps81
        go_wp2
        go_ret
        exact ⟨rfl, K⟩
      · rw [if_neg (by simp), if_neg (by rintro (q | q); exact absurd q.1 (by simp); exact h2 q)] at e0
        subst e0
        clear B3 B4 hb
        go_enter Try.func81, Try.ntmps81
        go_wp2
        go_ret
        exact ⟨rfl, K⟩
  · rw [if_pos rfl] at e0
    subst e0
    clear B3 B4 hb
    go_enter Try.func81, Try.ntmps81
    go_wp2
    go_ret
    exact ⟨rfl, K⟩
end Go.Proofs.Ytknbeklplmhheaa.TcapPut
