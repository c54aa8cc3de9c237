/- Package thd: Check, Put, Make, State, Reg. -/
import Derived.Test.YtknbeklplmhheaaThdGet
namespace Go.Proofs.Ytknbeklplmhheaa.ThdPut
open Go Go.RowKit Go.Proofs.Ytknbeklplmhheaa Go.Proofs.Ytknbeklplmhheaa.Heap Go.Proofs.Ytknbeklplmhheaa.Mem Go.Proofs.Ytknbeklplmhheaa.Two Go.Proofs.Ytknbeklplmhheaa.Head Go.Proofs.Ytknbeklplmhheaa.HeadPut Go.Proofs.Ytknbeklplmhheaa.HeadIs Go.Proofs.Ytknbeklplmhheaa.Lay Go.Proofs.Ytknbeklplmhheaa.Thd Go.Proofs.Ytknbeklplmhheaa.ThdGet

theorem right_bd {a b c d e : Int} (h : rightT a b c d e = true) : (0 ≤ a ∧ a < 4611686018427387904) ∧ (0 ≤ b ∧ b < 4611686018427387904) ∧ (0 ≤ c ∧ c < 4611686018427387904) ∧ (0 ≤ d ∧ d < 4611686018427387904) ∧ (0 ≤ e ∧ e < 4611686018427387904) := by
  have := of_decide_eq_true h
  omega
theorem right_u64 {a b c d e : Int} (h : rightT a b c d e = true) : U64 [a, b, c, d, e] := by
  have := of_decide_eq_true h
  intro x hx
  simp at hx
  omega
theorem hmake_no {n : Nat} {L : List Int} {f k l t : Int} {z : Bool} (h : ¬ (0 ≤ f ∧ f < n)) : hmakeL n L f k l z t = L := by
  have hs : ∀ (M : List Int) (a x : Int), stL n M f a x = M := fun M a x => by
    unfold stL
    rw [if_neg (fun q => h ⟨q.1, q.2.1⟩)]
  unfold hmakeL putL
  rw [clL_no h, hs, hs, hs, hs]
  simp
set_option maxRecDepth 100000
set_option maxHeartbeats 2000000
theorem check_ok (a b c d e : Int) (w : World) : Calls Try.prog 35 #[numV a b c d e] w fun x w' => x = .returned (.int .i64 (errH (rightT a b c d e))) ∧ Chg [] w w' := by
  obtain ⟨p, ep⟩ : ∃ p, w.heap.size = p := ⟨_, rfl⟩
  have P := Blk.new' w 43 (numC a b c d e) ep
  have K := (Chg.refl [] w).alloc (.cells (numC a b c d e) 43)
  obtain ⟨p0, p1, p2, p3, p4⟩ := blk5 P
  have HR := right_ok a b c d e
  unfold errH
  generalize rightT a b c d e = R at *
  cases R
  all_goals
    have HR' := Lib.hid HR
    clear HR
    go_enter Try.func35, Try.ntmps35
    go_wp2_with fail
    refine Calls.mono (of_ok _ _ _ _ _ _) ?_
    rintro x w1 ⟨rfl, k1⟩
    replace K := K.trans k1 (by simp)
    go_wp2_with fail
    refine Calls.mono (HR'.out _) ?_
    rintro x w2 ⟨rfl, k2⟩
    replace K := K.trans k2 (by simp)
    go_wp2
    go_ret
    exact ⟨rfl, K⟩
theorem put_arg {w : World} {p g n : Nat} {L : List Int} (h : MemAt w p g n L) (f a b c d e : Int) (h1 : rightT a b c d e = false) : Calls Try.prog 38 #[.pointer (some ⟨p, 0, none⟩), .int .i64 f, numV a b c d e] w fun x w' => x = .returned (.int .i64 1) ∧ MemAt w' p g n L ∧ Chg [g] w w' := by
  have HR := right_ok a b c d e
  rw [h1] at HR
  clear h1
  obtain ⟨P0, ep⟩ : ∃ q, w.heap.size = q := ⟨_, rfl⟩
  have P := Blk.new' w 43 (numC a b c d e) ep
  replace h := h.alloc (.cells (numC a b c d e) 43)
  have K := (Chg.refl [g] w).alloc (.cells (numC a b c d e) 43)
  obtain ⟨p0, p1, p2, p3, p4⟩ := blk5 P
  go_enter Try.func38, Try.ntmps38
  go_wp2_with fail
  refine Calls.mono (of_ok _ _ _ _ _ _) ?_
  rintro x w1 ⟨rfl, k1⟩
  clear P p0 p1 p2 p3 p4 ep
  replace h := (h.chg0 k1).alloc (.cells (numC a b c d e) 113)
  replace K := (K.trans k1 (by simp)).alloc (.cells (numC a b c d e) 113)
  clear k1
  obtain ⟨q, eq⟩ : ∃ q, w1.heap.size = q := ⟨_, rfl⟩
  have Q := Blk.new' w1 113 (numC a b c d e) eq
  obtain ⟨q0, q1, q2, q3, q4⟩ := blk5 Q
  go_wp2_with fail
  refine Calls.mono (HR _) ?_
  rintro x w2 ⟨rfl, k2⟩
  replace h := h.chg0 k2
  replace Q := Q.chg k2 (by simp)
  replace K := K.trans k2 (by simp)
  clear k2 q0 q1 q2 q3 q4 HR eq
  clear Q
  go_wp2
  go_ret
  exact ⟨rfl, h, K⟩
theorem put_type {w : World} {p g n : Nat} {L : List Int} (h : MemAt w p g n L) (hu : U64 L) (f a b c d e : Int) (h1 : rightT a b c d e = true) (h2 : ¬ isE n L f 4 = 0) : Calls Try.prog 38 #[.pointer (some ⟨p, 0, none⟩), .int .i64 f, numV a b c d e] w fun x w' => x = .returned (.int .i64 4) ∧ MemAt w' p g n L ∧ Chg [g] w w' := by
  have HR := right_ok a b c d e
  rw [h1] at HR
  have HI := fun (W : World) (q : MemAt W p g n L) => ThdGet.is_ok q hu f
  rw [decide_eq_false h2] at HI
  clear h1 h2 hu
  obtain ⟨P0, ep⟩ : ∃ q, w.heap.size = q := ⟨_, rfl⟩
  have P := Blk.new' w 43 (numC a b c d e) ep
  replace h := h.alloc (.cells (numC a b c d e) 43)
  have K := (Chg.refl [g] w).alloc (.cells (numC a b c d e) 43)
  obtain ⟨p0, p1, p2, p3, p4⟩ := blk5 P
  go_enter Try.func38, Try.ntmps38
  go_wp2_with fail
  refine Calls.mono (of_ok _ _ _ _ _ _) ?_
  rintro x w1 ⟨rfl, k1⟩
  clear P p0 p1 p2 p3 p4 ep
  replace h := (h.chg0 k1).alloc (.cells (numC a b c d e) 113)
  replace K := (K.trans k1 (by simp)).alloc (.cells (numC a b c d e) 113)
  clear k1
  obtain ⟨q, eq⟩ : ∃ q, w1.heap.size = q := ⟨_, rfl⟩
  have Q := Blk.new' w1 113 (numC a b c d e) eq
  obtain ⟨q0, q1, q2, q3, q4⟩ := blk5 Q
  go_wp2_with fail
  refine Calls.mono (HR _) ?_
  rintro x w2 ⟨rfl, k2⟩
  replace h := h.chg0 k2
  replace Q := Q.chg k2 (by simp)
  replace K := K.trans k2 (by simp)
  clear k2 q0 q1 q2 q3 q4 HR eq
  clear Q
  go_wp2_with fail
  refine Calls.mono (HI _ h) ?_
  rintro x w3 ⟨rfl, k3⟩
  clear HI
  replace h := h.chg0 k3
  replace K := K.trans k3 (by simp)
  clear k3
  go_wp2
  go_ret
  exact ⟨rfl, h, K⟩
theorem put_yes {w : World} {p g n : Nat} {L : List Int} (h : MemAt w p g n L) (hu : U64 L) (f a b c d e : Int) (h1 : rightT a b c d e = true) (h2 : isE n L f 4 = 0) : Calls Try.prog 38 #[.pointer (some ⟨p, 0, none⟩), .int .i64 f, numV a b c d e] w fun x w' => x = .returned (.int .i64 0) ∧ MemAt w' p g n (layL n L f 4 [a, b, c, d, e]) ∧ Chg [g] w w' := by
  have HR := right_ok a b c d e
  rw [h1] at HR
  have HI := fun (W : World) (q : MemAt W p g n L) => ThdGet.is_ok q hu f
  rw [decide_eq_true h2] at HI
  obtain ⟨ha, hb, hc, hd, he⟩ := right_bd h1
  have HL := fun (W : World) (q : MemAt W p g n L) => layV_ok q (isE_in h2) a b c d e ha hb hc hd he
  have HL' := Lib.hid HL
  clear h1 h2 hu ha hb hc hd he HL
  obtain ⟨P0, ep⟩ : ∃ q, w.heap.size = q := ⟨_, rfl⟩
  have P := Blk.new' w 43 (numC a b c d e) ep
  replace h := h.alloc (.cells (numC a b c d e) 43)
  have K := (Chg.refl [g] w).alloc (.cells (numC a b c d e) 43)
  obtain ⟨p0, p1, p2, p3, p4⟩ := blk5 P
  go_enter Try.func38, Try.ntmps38
  go_wp2_with fail
  refine Calls.mono (of_ok _ _ _ _ _ _) ?_
  rintro x w1 ⟨rfl, k1⟩
  clear P p0 p1 p2 p3 p4 ep
  replace h := (h.chg0 k1).alloc (.cells (numC a b c d e) 113)
  replace K := (K.trans k1 (by simp)).alloc (.cells (numC a b c d e) 113)
  clear k1
  obtain ⟨q, eq⟩ : ∃ q, w1.heap.size = q := ⟨_, rfl⟩
  have Q := Blk.new' w1 113 (numC a b c d e) eq
  obtain ⟨q0, q1, q2, q3, q4⟩ := blk5 Q
  go_wp2_with fail
  refine Calls.mono (HR _) ?_
  rintro x w2 ⟨rfl, k2⟩
  replace h := h.chg0 k2
  replace Q := Q.chg k2 (by simp)
  replace K := K.trans k2 (by simp)
  clear k2 q0 q1 q2 q3 q4 HR eq
  go_wp2_with fail
  refine Calls.mono (HI _ h) ?_
  rintro x w3 ⟨rfl, k3⟩
  clear HI
  replace h := h.chg0 k3
  replace Q := Q.chg k3 (by simp)
  replace K := K.trans k3 (by simp)
  clear k3
  obtain ⟨q0, q1, q2, q3, q4⟩ := blk5 Q
  go_wp2_with fail
  refine Calls.mono (HL'.out _ h) ?_
  rintro x w4 ⟨rfl, m4, k4⟩
  replace K := K.trans k4 (by simp)
  clear k4 h Q q0 q1 q2 q3 q4
  go_wp2
  go_ret
  exact ⟨rfl, m4, K⟩
def pE (n : Nat) (L : List Int) (f a b c d e : Int) : Int := if rightT a b c d e = true then (if isE n L f 4 = 0 then 0 else 4) else 1
def pL (n : Nat) (L : List Int) (f a b c d e : Int) : List Int := if rightT a b c d e = true ∧ isE n L f 4 = 0 then layL n L f 4 [a, b, c, d, e] else L
theorem put_ok {w : World} {p g n : Nat} {L : List Int} (h : MemAt w p g n L) (hu : U64 L) (f a b c d e : Int)  : Calls Try.prog 38 #[.pointer (some ⟨p, 0, none⟩), .int .i64 f, numV a b c d e] w fun x w' => x = .returned (.int .i64 (pE n L f a b c d e)) ∧ MemAt w' p g n (pL n L f a b c d e) ∧ Chg [g] w w' := by
  unfold pE pL
  by_cases h1 : rightT a b c d e = true
  · by_cases h2 : isE n L f 4 = 0
    · rw [if_pos h1, if_pos h2, if_pos ⟨h1, h2⟩]
      exact put_yes h hu f a b c d e h1 h2
    · rw [if_pos h1, if_neg h2, if_neg (fun q => h2 q.2)]
      exact put_type h hu f a b c d e h1 h2
  · rw [if_neg h1, if_neg (fun q => h1 q.1)]
    exact put_arg h f a b c d e (by simpa using h1)
theorem make_arg {w : World} {p g n : Nat} {L : List Int} (h : MemAt w p g n L) (f a b c d e : Int) (h1 : rightT a b c d e = false) : Calls Try.prog 15 #[.pointer (some ⟨p, 0, none⟩), .int .i64 f, numV a b c d e] w fun x w' => x = .returned (.int .i64 1) ∧ MemAt w' p g n L ∧ Chg [g] w w' := by
  have HR := right_ok a b c d e
  rw [h1] at HR
  clear h1
  obtain ⟨P0, ep⟩ : ∃ q, w.heap.size = q := ⟨_, rfl⟩
  have P := Blk.new' w 43 (numC a b c d e) ep
  replace h := h.alloc (.cells (numC a b c d e) 43)
  have K := (Chg.refl [g] w).alloc (.cells (numC a b c d e) 43)
  obtain ⟨p0, p1, p2, p3, p4⟩ := blk5 P
  go_enter Try.func15, Try.ntmps15
  go_wp2_with fail
  refine Calls.mono (of_ok _ _ _ _ _ _) ?_
  rintro x w1 ⟨rfl, k1⟩
  clear P p0 p1 p2 p3 p4 ep
  replace h := (h.chg0 k1).alloc (.cells (numC a b c d e) 113)
  replace K := (K.trans k1 (by simp)).alloc (.cells (numC a b c d e) 113)
  clear k1
  obtain ⟨q, eq⟩ : ∃ q, w1.heap.size = q := ⟨_, rfl⟩
  have Q := Blk.new' w1 113 (numC a b c d e) eq
  obtain ⟨q0, q1, q2, q3, q4⟩ := blk5 Q
  go_wp2_with fail
  refine Calls.mono (HR _) ?_
  rintro x w2 ⟨rfl, k2⟩
  replace h := h.chg0 k2
  replace Q := Q.chg k2 (by simp)
  replace K := K.trans k2 (by simp)
  clear k2 q0 q1 q2 q3 q4 HR eq
  clear Q
  go_wp2
  go_ret
  exact ⟨rfl, h, K⟩
theorem make_no {w : World} {p g n : Nat} {L : List Int} (h : MemAt w p g n L) (f a b c d e : Int) (h1 : rightT a b c d e = true) (h2 : ¬ (0 ≤ f ∧ f < n)) : Calls Try.prog 15 #[.pointer (some ⟨p, 0, none⟩), .int .i64 f, numV a b c d e] w fun x w' => x = .returned (.int .i64 1) ∧ MemAt w' p g n L ∧ Chg [g] w w' := by
  have HR := right_ok a b c d e
  rw [h1] at HR
  have HM := fun (W : World) (q : MemAt W p g n L) => HeadIs.make_ok q f 4 0 false 0
  rw [hmake_no h2, show hputE n f 4 0 false 0 = 1 from by unfold hputE canF; rw [if_pos (by decide), if_neg h2]] at HM
  have HM' := Lib.hid HM
  clear h1 h2 HM
  obtain ⟨P0, ep⟩ : ∃ q, w.heap.size = q := ⟨_, rfl⟩
  have P := Blk.new' w 43 (numC a b c d e) ep
  replace h := h.alloc (.cells (numC a b c d e) 43)
  have K := (Chg.refl [g] w).alloc (.cells (numC a b c d e) 43)
  obtain ⟨p0, p1, p2, p3, p4⟩ := blk5 P
  go_enter Try.func15, Try.ntmps15
  go_wp2_with fail
  refine Calls.mono (of_ok _ _ _ _ _ _) ?_
  rintro x w1 ⟨rfl, k1⟩
  clear P p0 p1 p2 p3 p4 ep
  replace h := (h.chg0 k1).alloc (.cells (numC a b c d e) 113)
  replace K := (K.trans k1 (by simp)).alloc (.cells (numC a b c d e) 113)
  clear k1
  obtain ⟨q, eq⟩ : ∃ q, w1.heap.size = q := ⟨_, rfl⟩
  have Q := Blk.new' w1 113 (numC a b c d e) eq
  obtain ⟨q0, q1, q2, q3, q4⟩ := blk5 Q
  go_wp2_with fail
  refine Calls.mono (HR _) ?_
  rintro x w2 ⟨rfl, k2⟩
  replace h := h.chg0 k2
  replace Q := Q.chg k2 (by simp)
  replace K := K.trans k2 (by simp)
  clear k2 q0 q1 q2 q3 q4 HR eq
  have hqg : q ≠ g := Blk.ne_ Q h.row (by decide)
  go_wp2_with fail
  refine Calls.mono (HM'.out _ h) ?_
  rintro x w3 ⟨rfl, m3, k3⟩
  clear HM' h
  replace Q := Q.chg k3 (by simpa using hqg)
  replace K := K.trans k3 (by simp)
  clear k3
  clear Q
  go_wp2
  go_ret
  exact ⟨rfl, m3, K⟩
theorem make_yes {w : World} {p g n : Nat} {L : List Int} (h : MemAt w p g n L) (f a b c d e : Int) (h1 : rightT a b c d e = true) (h2 : 0 ≤ f ∧ f < n) : Calls Try.prog 15 #[.pointer (some ⟨p, 0, none⟩), .int .i64 f, numV a b c d e] w fun x w' => x = .returned (.int .i64 0) ∧ MemAt w' p g n (layL n (hmakeL n L f 4 0 false 0) f 4 [a, b, c, d, e]) ∧ Chg [g] w w' := by
  have HR := right_ok a b c d e
  rw [h1] at HR
  have HM := fun (W : World) (q : MemAt W p g n L) => HeadIs.make_ok q f 4 0 false 0
  rw [show hputE n f 4 0 false 0 = 0 from by unfold hputE canF; rw [if_pos (by decide), if_pos h2]] at HM
  obtain ⟨ha, hb, hc, hd, he⟩ := right_bd h1
  have HL := fun (W : World) (q : MemAt W p g n (hmakeL n L f 4 0 false 0)) => layV_ok q h2 a b c d e ha hb hc hd he
  generalize hmakeL n L f 4 0 false 0 = M at *
  have HL' := Lib.hid HL
  clear ha hb hc hd he HL
  have HM' := Lib.hid HM
  clear h1 h2 HM
  obtain ⟨P0, ep⟩ : ∃ q, w.heap.size = q := ⟨_, rfl⟩
  have P := Blk.new' w 43 (numC a b c d e) ep
  replace h := h.alloc (.cells (numC a b c d e) 43)
  have K := (Chg.refl [g] w).alloc (.cells (numC a b c d e) 43)
  obtain ⟨p0, p1, p2, p3, p4⟩ := blk5 P
  go_enter Try.func15, Try.ntmps15
  go_wp2_with fail
  refine Calls.mono (of_ok _ _ _ _ _ _) ?_
  rintro x w1 ⟨rfl, k1⟩
  clear P p0 p1 p2 p3 p4 ep
  replace h := (h.chg0 k1).alloc (.cells (numC a b c d e) 113)
  replace K := (K.trans k1 (by simp)).alloc (.cells (numC a b c d e) 113)
  clear k1
  obtain ⟨q, eq⟩ : ∃ q, w1.heap.size = q := ⟨_, rfl⟩
  have Q := Blk.new' w1 113 (numC a b c d e) eq
  obtain ⟨q0, q1, q2, q3, q4⟩ := blk5 Q
  go_wp2_with fail
  refine Calls.mono (HR _) ?_
  rintro x w2 ⟨rfl, k2⟩
  replace h := h.chg0 k2
  replace Q := Q.chg k2 (by simp)
  replace K := K.trans k2 (by simp)
  clear k2 q0 q1 q2 q3 q4 HR eq
  have hqg : q ≠ g := Blk.ne_ Q h.row (by decide)
  go_wp2_with fail
  refine Calls.mono (HM'.out _ h) ?_
  rintro x w3 ⟨rfl, m3, k3⟩
  clear HM' h
  replace Q := Q.chg k3 (by simpa using hqg)
  replace K := K.trans k3 (by simp)
  clear k3
  obtain ⟨q0, q1, q2, q3, q4⟩ := blk5 Q
  go_wp2_with fail
  refine Calls.mono (HL'.out _ m3) ?_
  rintro x w4 ⟨rfl, m4, k4⟩
  replace K := K.trans k4 (by simp)
  clear k4 m3 Q q0 q1 q2 q3 q4
  go_wp2
  go_ret
  exact ⟨rfl, m4, K⟩
def mE (n : Nat) (f a b c d e : Int) : Int := if rightT a b c d e = true then canF n f else 1
def mL (n : Nat) (L : List Int) (f a b c d e : Int) : List Int := if rightT a b c d e = true ∧ (0 ≤ f ∧ f < n) then layL n (hmakeL n L f 4 0 false 0) f 4 [a, b, c, d, e] else L
theorem make_ok {w : World} {p g n : Nat} {L : List Int} (h : MemAt w p g n L) (f a b c d e : Int)  : Calls Try.prog 15 #[.pointer (some ⟨p, 0, none⟩), .int .i64 f, numV a b c d e] w fun x w' => x = .returned (.int .i64 (mE n f a b c d e)) ∧ MemAt w' p g n (mL n L f a b c d e) ∧ Chg [g] w w' := by
  unfold mE mL canF
  by_cases h1 : rightT a b c d e = true
  · by_cases h2 : 0 ≤ f ∧ f < n
    · rw [if_pos h1, if_pos h2, if_pos ⟨h1, h2⟩]
      exact make_yes h f a b c d e h1 h2
    · rw [if_pos h1, if_neg h2, if_neg (fun q => h2 q.2)]
      exact make_no h f a b c d e h1 h2
  · rw [if_neg h1, if_neg (fun q => h1 q.1)]
    exact make_arg h f a b c d e (by simpa using h1)
theorem state_not {w : World} {p g n : Nat} {L : List Int} (h : MemAt w p g n L) (hu : U64 L) (f s : Int) (h1 : ¬ gE n L f = 0) : Calls Try.prog 45 #[.pointer (some ⟨p, 0, none⟩), .int .i64 f, .int .i64 s] w fun x w' => x = .returned (.int .i64 (gE n L f)) ∧ MemAt w' p g n L ∧ Chg [g] w w' := by
  have HG := fun (W : World) (q : MemAt W p g n L) => ThdGet.get_ok q hu f
  unfold gV at HG
  generalize gE n L f = E at *
  generalize gT n L f 4 = a at *
  generalize gT n L f 5 = b at *
  generalize gT n L f 6 = c at *
  generalize gT n L f 7 = d at *
  generalize gT n L f 8 = e at *
  clear hu
  have K := Chg.refl [g] w
  go_enter Try.func45, Try.ntmps45
  go_wp2_with fail
  refine Calls.mono (HG _ h) ?_
  rintro x w1 ⟨rfl, k1⟩
  clear HG
  have h0 := h.chg0 k1
  have K0 := K.trans k1 (by simp)
  replace h := (h.chg0 k1).alloc (.cells (numC a b c d e) 43)
  replace K := (K.trans k1 (by simp)).alloc (.cells (numC a b c d e) 43)
  clear k1
  go_wp2
  go_ret
  exact ⟨rfl, h, K⟩
theorem state_arg {w : World} {p g n : Nat} {L : List Int} (h : MemAt w p g n L) (hu : U64 L) (f s : Int) (h1 : gE n L f = 0) (h2 : s < 0 ∨ (¬ s < 0 ∧ 3 < s)) : Calls Try.prog 45 #[.pointer (some ⟨p, 0, none⟩), .int .i64 f, .int .i64 s] w fun x w' => x = .returned (.int .i64 1) ∧ MemAt w' p g n L ∧ Chg [g] w w' := by
  have HG := fun (W : World) (q : MemAt W p g n L) => ThdGet.get_ok q hu f
  unfold gV at HG
  rw [h1] at HG
  clear h1
  generalize gT n L f 4 = a at *
  generalize gT n L f 5 = b at *
  generalize gT n L f 6 = c at *
  generalize gT n L f 7 = d at *
  generalize gT n L f 8 = e at *
  clear hu
  have K := Chg.refl [g] w
  go_enter Try.func45, Try.ntmps45
  go_wp2_with fail
  refine Calls.mono (HG _ h) ?_
  rintro x w1 ⟨rfl, k1⟩
  clear HG
  have h0 := h.chg0 k1
  have K0 := K.trans k1 (by simp)
  replace h := (h.chg0 k1).alloc (.cells (numC a b c d e) 43)
  replace K := (K.trans k1 (by simp)).alloc (.cells (numC a b c d e) 43)
  clear k1
  rcases h2 with h2 | ⟨h2, h3⟩
  all_goals
    go_wp2
    go_ret
    exact ⟨rfl, h, K⟩
theorem gE_zero {n : Nat} {L : List Int} {f : Int} (h : gE n L f = 0) : isE n L f 4 = 0 ∧ rdT n L f := by
  unfold gE at h
  by_cases h1 : isE n L f 4 = 0
  · rw [if_pos h1] at h
    by_cases h2 : rdT n L f
    · exact ⟨h1, h2⟩
    · rw [if_neg h2] at h
      cases h
  · rw [if_neg h1] at h
    cases h
theorem g_right {n : Nat} {L : List Int} (hu : U64 L) {f : Int} (h : gE n L f = 0) {s : Int} (hs : 0 ≤ s ∧ s ≤ 3) : rightT s (gT n L f 5) (gT n L f 6) (gT n L f 7) (gT n L f 8) = true := by
  have hb : gB n L f := gE_zero h
  have hr := hb.2
  unfold rdT at hr
  have b5 := hu.ld (n := n) f 5
  have b6 := hu.ld (n := n) f 6
  have b7 := hu.ld (n := n) f 7
  have b8 := hu.ld (n := n) f 8
  unfold gT
  rw [if_pos hb, if_pos hb, if_pos hb, if_pos hb]
  exact decide_eq_true (by omega)
theorem state_yes {w : World} {p g n : Nat} {L : List Int} (h : MemAt w p g n L) (hu : U64 L) (f s : Int) (h1 : gE n L f = 0) (h2 : 0 ≤ s ∧ s ≤ 3) : Calls Try.prog 45 #[.pointer (some ⟨p, 0, none⟩), .int .i64 f, .int .i64 s] w fun x w' => x = .returned (.int .i64 0) ∧ MemAt w' p g n (layL n L f 4 [s, gT n L f 5, gT n L f 6, gT n L f 7, gT n L f 8]) ∧ Chg [g] w w' := by
  have HG := fun (W : World) (q : MemAt W p g n L) => ThdGet.get_ok q hu f
  unfold gV at HG
  have HP := fun (W : World) (q : MemAt W p g n L) => put_yes q hu f s _ _ _ _ (g_right hu h1 h2) (gE_zero h1).1
  have HP' := Lib.hid HP
  rw [h1] at HG
  clear h1 HP
  generalize gT n L f 4 = a at *
  generalize gT n L f 5 = b at *
  generalize gT n L f 6 = c at *
  generalize gT n L f 7 = d at *
  generalize gT n L f 8 = e at *
  clear hu
  have K := Chg.refl [g] w
  go_enter Try.func45, Try.ntmps45
  go_wp2_with fail
  refine Calls.mono (HG _ h) ?_
  rintro x w1 ⟨rfl, k1⟩
  clear HG
  have h0 := h.chg0 k1
  have K0 := K.trans k1 (by simp)
  replace h := (h.chg0 k1).alloc (.cells (numC a b c d e) 43)
  replace K := (K.trans k1 (by simp)).alloc (.cells (numC a b c d e) 43)
  clear k1
  obtain ⟨q, eq⟩ : ∃ q, w1.heap.size = q := ⟨_, rfl⟩
  have Q := Blk.new' w1 43 (numC a b c d e) eq
  obtain ⟨q0, q1, q2, q3, q4⟩ := blk5 Q
  have f0 := Q.frozen 0
  have h2' : ¬ s < 0 := by omega
  have h3' : ¬ 3 < s := by omega
  have h' := h0.alloc (.cells (numC s b c d e) 43)
  have K' := K0.alloc (.cells (numC s b c d e) 43)
  clear h2 h K
  go_wp2_with fail
  refine Calls.mono (HP'.out _ h') ?_
  rintro x w2 ⟨rfl, m2, k2⟩
  replace K' := K'.trans k2 (by simp)
  clear k2
  go_wp2
  go_ret
  exact ⟨rfl, m2, K'⟩
def sE (n : Nat) (L : List Int) (f s : Int) : Int := if gE n L f = 0 then (if 0 ≤ s ∧ s ≤ 3 then 0 else 1) else gE n L f
def sL (n : Nat) (L : List Int) (f s : Int) : List Int := if gE n L f = 0 ∧ (0 ≤ s ∧ s ≤ 3) then layL n L f 4 [s, gT n L f 5, gT n L f 6, gT n L f 7, gT n L f 8] else L
theorem state_ok {w : World} {p g n : Nat} {L : List Int} (h : MemAt w p g n L) (hu : U64 L) (f s : Int)  : Calls Try.prog 45 #[.pointer (some ⟨p, 0, none⟩), .int .i64 f, .int .i64 s] w fun x w' => x = .returned (.int .i64 (sE n L f s)) ∧ MemAt w' p g n (sL n L f s) ∧ Chg [g] w w' := by
  unfold sE sL
  by_cases h1 : gE n L f = 0
  · by_cases h2 : 0 ≤ s ∧ s ≤ 3
    · rw [if_pos h1, if_pos h2, if_pos ⟨h1, h2⟩]
      exact state_yes h hu f s h1 h2
    · rw [if_pos h1, if_neg h2, if_neg (fun q => h2 q.2)]
      exact state_arg h hu f s h1 (by omega)
  · rw [if_neg h1, if_neg (fun q => h1 q.1)]
    exact state_not h hu f s h1
def rgE (n : Nat) (L : List Int) (f i : Int) : Int := if isE n L f 4 = 0 then (if 0 ≤ i ∧ i < 8 then 0 else 1) else 4
def rgL (n : Nat) (L : List Int) (f i x : Int) : List Int := if isE n L f 4 = 0 ∧ (0 ≤ i ∧ i < 8) then stL n L f (9 + i) x else L
theorem reg_ok {w : World} {p g n : Nat} {L : List Int} (h : MemAt w p g n L) (hu : U64 L) (f i x : Int) : Calls Try.prog 51 #[.pointer (some ⟨p, 0, none⟩), .int .i64 f, .int .i64 i, .int .u64 x] w fun y w' => y = .returned (.int .i64 (rgE n L f i)) ∧ MemAt w' p g n (rgL n L f i x) ∧ Chg [g] w w' := by
  have HI := fun (W : World) (q : MemAt W p g n L) => ThdGet.is_ok q hu f
  have K := Chg.refl [g] w
  unfold rgE rgL
  by_cases h1 : isE n L f 4 = 0
  · rw [decide_eq_true h1] at HI
    by_cases h2 : 0 ≤ i ∧ i < 8
    · have hf := isE_in h1
      rw [if_pos h1, if_pos h2, if_pos ⟨h1, h2⟩]
      have ew : IntKind.i64.wrap (9 + i) = 9 + i := by rw [IntKind.wrap_i64]; omega
      have HS := fun (W : World) (q : MemAt W p g n L) => Mem.store_ok q f (9 + i) x
      rw [canE_ok ⟨hf.1, hf.2, by omega, by omega⟩] at HS
      have HS' := Lib.hid HS
      have h3 : ¬ i < 0 := by omega
      have h4 : ¬ 8 ≤ i := by omega
      clear h1 h2 hu hf HS
      go_enter Try.func51, Try.ntmps51
      go_wp2_with fail
      refine Calls.mono (HI _ h) ?_
      rintro x w1 ⟨rfl, k1⟩
      clear HI
      replace h := h.chg0 k1
      replace K := K.trans k1 (by simp)
      clear k1
      go_wp2_with fail
      refine Calls.mono (HS'.out _ h) ?_
      rintro x w4 ⟨rfl, m4, k4⟩
      replace K := K.trans k4 (by simp)
      clear k4 h
      go_wp2
      go_ret
      exact ⟨rfl, m4, K⟩
    · rw [if_pos h1, if_neg h2, if_neg (fun q => h2 q.2)]
      have hx : i < 0 ∨ (¬ i < 0 ∧ 8 ≤ i) := by omega
      clear h1 h2 hu
      rcases hx with hx | ⟨hx, hy⟩
      all_goals
        go_enter Try.func51, Try.ntmps51
        go_wp2_with fail
        refine Calls.mono (HI _ h) ?_
        rintro x w1 ⟨rfl, k1⟩
        clear HI
        replace h := h.chg0 k1
        replace K := K.trans k1 (by simp)
        clear k1
        go_wp2
        go_ret
        exact ⟨rfl, h, K⟩
  · rw [decide_eq_false h1] at HI
    rw [if_neg h1, if_neg (fun q => h1 q.1)]
    clear h1 hu
    go_enter Try.func51, Try.ntmps51
    go_wp2_with fail
    refine Calls.mono (HI _ h) ?_
    rintro x w1 ⟨rfl, k1⟩
    clear HI
    replace h := h.chg0 k1
    replace K := K.trans k1 (by simp)
    clear k1
    go_wp2
    go_ret
    exact ⟨rfl, h, K⟩
end Go.Proofs.Ytknbeklplmhheaa.ThdPut
