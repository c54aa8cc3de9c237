/- Package tcap: Charge, Can, Sum. -/
import Derived.Test.YtknbeklplmhheaaTcapGive
namespace Go.Proofs.Ytknbeklplmhheaa.TcapRest
open Go Go.RowKit Go.Proofs.Ytknbeklplmhheaa Go.Proofs.Ytknbeklplmhheaa.Heap Go.Proofs.Ytknbeklplmhheaa.Mem Go.Proofs.Ytknbeklplmhheaa.Two Go.Proofs.Ytknbeklplmhheaa.Head Go.Proofs.Ytknbeklplmhheaa.HeadPut Go.Proofs.Ytknbeklplmhheaa.HeadIs Go.Proofs.Ytknbeklplmhheaa.Lay Go.Proofs.Ytknbeklplmhheaa.Tcap Go.Proofs.Ytknbeklplmhheaa.TcapCl Go.Proofs.Ytknbeklplmhheaa.TcapPut Go.Proofs.Ytknbeklplmhheaa.TcapGive

def chE (n : Nat) (L : List Int) (f k : Int) : Int := if inI k 0 1048576 = true then tE n L f else 1
def chM (n : Nat) (L : List Int) (f k : Int) : Int := if tL n L f - k < 0 then 0 else tL n L f - k
def chB (n : Nat) (L : List Int) (f k : Int) : Prop := inI k 0 1048576 = true ∧ tE n L f = 0 ∧ tZ n L f = false
instance (n : Nat) (L : List Int) (f k : Int) : Decidable (chB n L f k) := by unfold chB; infer_instance
def chS (n : Nat) (L : List Int) (f k : Int) : Bool := if chB n L f k then chM n L f k == 0 else false
def chL (n : Nat) (L : List Int) (f k : Int) : List Int := if chB n L f k then layL n L f 4 [b2i (tZ n L f), chM n L f k, tP n L f] else L
theorem ch_right {n : Nat} {L : List Int} (hu : U64 L) {f k : Int} (h : chB n L f k) : rightC (tZ n L f) (chM n L f k) (tP n L f) = true := by
  have hr := right_bd (t_right hu h.2.1)
  have hk := in_bd h.1
  have hz := h.2.2
  unfold chM
  refine right_mk ⟨?_, ?_, hr.2.2.1, hr.2.2.2.1, fun e => by rw [hz] at e; cases e⟩
  · split <;> omega
  · split <;> omega
set_option linter.unusedVariables false
set_option maxRecDepth 100000
set_option maxHeartbeats 4000000
theorem charge_a {w : World} {p g n : Nat} {L : List Int} (h : MemAt w p g n L) (hu : U64 L) (f k : Int) (h1 : inI k 0 1048576 = false) : Calls Try.prog 13 #[.pointer (some ⟨p, 0, none⟩), .int .i64 f, .int .i64 k] w fun x w' => x = .returned (.tuple #[.bool false, .int .i64 1]) ∧ MemAt w' p g n L ∧ Chg [g] w w' := by
  have I00 := in_ok k 0 1048576
  rw [h1] at I00
  have I0 := Lib.hid I00
  clear I00 h1 hu
  obtain ⟨bn, en⟩ : ∃ q, w.heap.size = q := ⟨_, rfl⟩
  have N := Blk.new' w 3 #[.int .i64 k] en
  replace h := h.alloc (.cells #[.int .i64 k] 3)
  have K := (Chg.refl [g] w).alloc (.cells #[.int .i64 k] 3)
  have n0 := N.cell 0
  go_enter Try.func13, Try.ntmps13
  go_wp2_with fail
  refine Calls.mono (I0.out _) ?_
  rintro x w1 ⟨rfl, rfl⟩
  go_wp2
  go_ret2
  exact ⟨rfl, h, K⟩
theorem charge_b {w : World} {p g n : Nat} {L : List Int} (h : MemAt w p g n L) (hu : U64 L) (f k : Int) (h0 : inI k 0 1048576 = true) (h1 : ¬ tE n L f = 0) : Calls Try.prog 13 #[.pointer (some ⟨p, 0, none⟩), .int .i64 f, .int .i64 k] w fun x w' => x = .returned (.tuple #[.bool false, .int .i64 (tE n L f)]) ∧ MemAt w' p g n L ∧ Chg [g] w w' := by
  have I00 := in_ok k 0 1048576
  rw [h0] at I00
  have I0 := Lib.hid I00
  have HC0 := fun (W : World) (q : MemAt W p g n L) (fv : Value) => change_no q hu f h1 fv
  generalize tE n L f = E at *
  have HC := Lib.hid HC0
  clear HC0 I00 h0 hu
  obtain ⟨bn, en⟩ : ∃ q, w.heap.size = q := ⟨_, rfl⟩
  have N := Blk.new' w 3 #[.int .i64 k] en
  replace h := h.alloc (.cells #[.int .i64 k] 3)
  have K := (Chg.refl [g] w).alloc (.cells #[.int .i64 k] 3)
  have n0 := N.cell 0
  go_enter Try.func13, Try.ntmps13
  go_wp2_with fail
  refine Calls.mono (I0.out _) ?_
  rintro x w1 ⟨rfl, rfl⟩
  obtain ⟨sp, es⟩ : ∃ q, bn + 1 = q := ⟨_, rfl⟩
  have S := Blk.new' (g := sp) (w.alloc (.cells #[.int .i64 k] 3)) 4 #[.bool false] (by simp; omega)
  replace N := N.alloc (.cells #[.bool false] 4)
  replace h := h.alloc (.cells #[.bool false] 4)
  replace K := K.alloc (.cells #[.bool false] 4)
  have hsw : w.heap.size ≤ sp := by omega
  clear n0
  have hsg : sp ≠ g := Blk.ne_ S h.row (by decide)
  go_wp2_with fail
  refine Calls.mono (HC.out _ h _) ?_
  rintro x w2 ⟨rfl, m2, k2⟩
  replace S := S.chg k2 (by simpa using hsg)
  have s0 := S.cell 0
  replace K := K.trans k2 (by simp)
  go_wp2
  go_ret2
  exact ⟨rfl, m2, K⟩
theorem charge_c {w : World} {p g n : Nat} {L : List Int} (h : MemAt w p g n L) (hu : U64 L) (f k : Int) (h0 : inI k 0 1048576 = true) (h1 : tE n L f = 0) (h2 : tZ n L f = true) : Calls Try.prog 13 #[.pointer (some ⟨p, 0, none⟩), .int .i64 f, .int .i64 k] w fun x w' => x = .returned (.tuple #[.bool false, .int .i64 0]) ∧ MemAt w' p g n L ∧ Chg [g] w w' := by
  have I00 := in_ok k 0 1048576
  rw [h0] at I00
  have I0 := Lib.hid I00
  have HC0 := fun (W : World) (q : MemAt W p g n L) (b s : Nat) (S : Blk W s 4 #[.bool false]) => change_inf (b := b) q hu f S h1 h2 (t_right hu h1)
  rw [lay_same h.len hu h1] at HC0
  have HC := Lib.hid HC0
  clear HC0 I00 h0 h1 h2 hu
  obtain ⟨bn, en⟩ : ∃ q, w.heap.size = q := ⟨_, rfl⟩
  have N := Blk.new' w 3 #[.int .i64 k] en
  replace h := h.alloc (.cells #[.int .i64 k] 3)
  have K := (Chg.refl [g] w).alloc (.cells #[.int .i64 k] 3)
  have n0 := N.cell 0
  go_enter Try.func13, Try.ntmps13
  go_wp2_with fail
  refine Calls.mono (I0.out _) ?_
  rintro x w1 ⟨rfl, rfl⟩
  obtain ⟨sp, es⟩ : ∃ q, bn + 1 = q := ⟨_, rfl⟩
  have S := Blk.new' (g := sp) (w.alloc (.cells #[.int .i64 k] 3)) 4 #[.bool false] (by simp; omega)
  replace N := N.alloc (.cells #[.bool false] 4)
  replace h := h.alloc (.cells #[.bool false] 4)
  replace K := K.alloc (.cells #[.bool false] 4)
  have hsw : w.heap.size ≤ sp := by omega
  clear n0
  go_wp2_with fail
  refine Calls.mono (HC.out _ h _ _ S) ?_
  rintro x w2 ⟨rfl, m2, S2, k2⟩
  have s0 := S2.cell 0
  replace K := K.trans k2 (by simp)
  go_wp2
  go_ret2
  exact ⟨rfl, m2, K⟩
theorem charge_neg {w : World} {p g n : Nat} {L : List Int} (h : MemAt w p g n L) (hu : U64 L) (f k : Int) (h0 : inI k 0 1048576 = true) (h1 : tE n L f = 0) (h2 : tZ n L f = false) (h3 : tL n L f - k < 0) : Calls Try.prog 13 #[.pointer (some ⟨p, 0, none⟩), .int .i64 f, .int .i64 k] w fun x w' => x = .returned (.tuple #[.bool (0 == 0), .int .i64 0]) ∧ MemAt w' p g n (layL n L f 4 [b2i (tZ n L f), 0, tP n L f]) ∧ Chg [g] w w' := by
  have I00 := in_ok k 0 1048576
  rw [h0] at I00
  have I0 := Lib.hid I00
  have hk := in_bd h0
  have hrt := right_bd (t_right hu h1)
  have hr : rightC (tZ n L f) 0 (tP n L f) = true := right_mk ⟨by omega, by omega, hrt.2.2.1, hrt.2.2.2.1, fun e => absurd (h2.symm.trans e) (by decide)⟩
  have HC0 := fun (W : World) (q : MemAt W p g n L) (b s : Nat) (N : Blk W b 3 #[.int .i64 k]) (S : Blk W s 4 #[.bool false]) => change_neg q hu f N S h1 h2 hk h3 hr
  generalize layL n L f 4 [b2i (tZ n L f), 0, tP n L f] = M at *
  generalize hsv : (0 == 0) = sv at *
  have HC := Lib.hid HC0
  clear HC0 I00 h0 h1 h2 h3 hu hk hrt hr hsv
  obtain ⟨bn, en⟩ : ∃ q, w.heap.size = q := ⟨_, rfl⟩
  have N := Blk.new' w 3 #[.int .i64 k] en
  replace h := h.alloc (.cells #[.int .i64 k] 3)
  have K := (Chg.refl [g] w).alloc (.cells #[.int .i64 k] 3)
  have n0 := N.cell 0
  go_enter Try.func13, Try.ntmps13
  go_wp2_with fail
  refine Calls.mono (I0.out _) ?_
  rintro x w1 ⟨rfl, rfl⟩
  obtain ⟨sp, es⟩ : ∃ q, bn + 1 = q := ⟨_, rfl⟩
  have S := Blk.new' (g := sp) (w.alloc (.cells #[.int .i64 k] 3)) 4 #[.bool false] (by simp; omega)
  replace N := N.alloc (.cells #[.bool false] 4)
  replace h := h.alloc (.cells #[.bool false] 4)
  replace K := K.alloc (.cells #[.bool false] 4)
  have hsw : w.heap.size ≤ sp := by omega
  clear n0
  go_wp2_with fail
  refine Calls.mono (HC.out _ h _ _ N S) ?_
  rintro x w2 ⟨rfl, m2, S2, k2⟩
  have s0 := S2.cell 0
  replace K := K.trans k2 (by intro x hx; simp at hx; rcases hx with rfl | rfl <;> first | exact .inr hsw | exact .inl (by simp))
  go_wp2
  go_ret2
  exact ⟨rfl, m2, K⟩
theorem charge_pos {w : World} {p g n : Nat} {L : List Int} (h : MemAt w p g n L) (hu : U64 L) (f k : Int) (h0 : inI k 0 1048576 = true) (h1 : tE n L f = 0) (h2 : tZ n L f = false) (h3 : ¬ tL n L f - k < 0) : Calls Try.prog 13 #[.pointer (some ⟨p, 0, none⟩), .int .i64 f, .int .i64 k] w fun x w' => x = .returned (.tuple #[.bool ((tL n L f - k) == 0), .int .i64 0]) ∧ MemAt w' p g n (layL n L f 4 [b2i (tZ n L f), (tL n L f - k), tP n L f]) ∧ Chg [g] w w' := by
  have I00 := in_ok k 0 1048576
  rw [h0] at I00
  have I0 := Lib.hid I00
  have hk := in_bd h0
  have hrt := right_bd (t_right hu h1)
  have hr : rightC (tZ n L f) (tL n L f - k) (tP n L f) = true := right_mk ⟨by omega, by omega, hrt.2.2.1, hrt.2.2.2.1, fun e => absurd (h2.symm.trans e) (by decide)⟩
  have HC0 := fun (W : World) (q : MemAt W p g n L) (b s : Nat) (N : Blk W b 3 #[.int .i64 k]) (S : Blk W s 4 #[.bool false]) => change_pos q hu f N S h1 h2 hk h3 hr
  generalize layL n L f 4 [b2i (tZ n L f), (tL n L f - k), tP n L f] = M at *
  generalize hsv : ((tL n L f - k) == 0) = sv at *
  have HC := Lib.hid HC0
  clear HC0 I00 h0 h1 h2 h3 hu hk hrt hr hsv
  obtain ⟨bn, en⟩ : ∃ q, w.heap.size = q := ⟨_, rfl⟩
  have N := Blk.new' w 3 #[.int .i64 k] en
  replace h := h.alloc (.cells #[.int .i64 k] 3)
  have K := (Chg.refl [g] w).alloc (.cells #[.int .i64 k] 3)
  have n0 := N.cell 0
  go_enter Try.func13, Try.ntmps13
  go_wp2_with fail
  refine Calls.mono (I0.out _) ?_
  rintro x w1 ⟨rfl, rfl⟩
  obtain ⟨sp, es⟩ : ∃ q, bn + 1 = q := ⟨_, rfl⟩
  have S := Blk.new' (g := sp) (w.alloc (.cells #[.int .i64 k] 3)) 4 #[.bool false] (by simp; omega)
  replace N := N.alloc (.cells #[.bool false] 4)
  replace h := h.alloc (.cells #[.bool false] 4)
  replace K := K.alloc (.cells #[.bool false] 4)
  have hsw : w.heap.size ≤ sp := by omega
  clear n0
  go_wp2_with fail
  refine Calls.mono (HC.out _ h _ _ N S) ?_
  rintro x w2 ⟨rfl, m2, S2, k2⟩
  have s0 := S2.cell 0
  replace K := K.trans k2 (by intro x hx; simp at hx; rcases hx with rfl | rfl <;> first | exact .inr hsw | exact .inl (by simp))
  go_wp2
  go_ret2
  exact ⟨rfl, m2, K⟩
theorem charge_ok {w : World} {p g n : Nat} {L : List Int} (h : MemAt w p g n L) (hu : U64 L) (f k : Int)  : Calls Try.prog 13 #[.pointer (some ⟨p, 0, none⟩), .int .i64 f, .int .i64 k] w fun x w' => x = .returned (.tuple #[.bool (chS n L f k), .int .i64 (chE n L f k)]) ∧ MemAt w' p g n (chL n L f k) ∧ Chg [g] w w' := by
  unfold chS chE chL
  by_cases h0 : inI k 0 1048576 = true
  · rw [if_pos h0]
    by_cases h1 : tE n L f = 0
    · cases h2 : tZ n L f
      · have hb : chB n L f k := ⟨h0, h1, h2⟩
        rw [if_pos hb, if_pos hb, h1]
        unfold chM
        by_cases h3 : tL n L f - k < 0
        · rw [if_pos h3]
          have := charge_neg h hu f k h0 h1 h2 h3
          rw [h2] at this
          exact this
        · rw [if_neg h3]
          have := charge_pos h hu f k h0 h1 h2 h3
          rw [h2] at this
          exact this
      · have hb : ¬ chB n L f k := fun q => by have := q.2.2; rw [h2] at this; cases this
        rw [if_neg hb, if_neg hb, h1]
        exact charge_c h hu f k h0 h1 h2
    · have hb : ¬ chB n L f k := fun q => h1 q.2.1
      rw [if_neg hb, if_neg hb]
      exact charge_b h hu f k h0 h1
  · have hb : ¬ chB n L f k := fun q => h0 q.1
    rw [if_neg h0, if_neg hb, if_neg hb]
    exact charge_a h hu f k (by simpa using h0)
def canB (n : Nat) (L : List Int) (f : Int) : Bool := decide (tE n L f = 0 ∧ (tZ n L f = true ∨ 0 < tL n L f))
theorem can_ok {w : World} {p g n : Nat} {L : List Int} (h : MemAt w p g n L) (hu : U64 L) (f : Int) : Calls Try.prog 28 #[.pointer (some ⟨p, 0, none⟩), .int .i64 f] w fun x w' => x = .returned (.bool (canB n L f)) ∧ Chg [] w w' := by
  have HG0 := Tcap.get_ok h hu f
  unfold tV at HG0
  have e0 : canB n L f = decide (tE n L f = 0 ∧ (tZ n L f = true ∨ 0 < tL n L f)) := rfl
  generalize canB n L f = C at *
  generalize tE n L f = E at *
  generalize tZ n L f = z at *
  generalize tL n L f = l at *
  generalize tP n L f = t at *
  have HG := Lib.hid HG0
  clear HG0 h hu
  by_cases h1 : E = 0
  · subst h1
    cases z
    · by_cases h2 : 0 < l
      · rw [decide_eq_true (⟨rfl, .inr h2⟩ : (0 : Int) = 0 ∧ (false = true ∨ 0 < l))] at e0
        subst e0
        go_enter Try.func28, Try.ntmps28
        go_wp2_with fail
        refine Calls.mono HG.out ?_
        rintro x w1 ⟨rfl, k1⟩
        obtain ⟨d, ed⟩ : ∃ q, w1.heap.size = q := ⟨_, rfl⟩
        have D := Blk.new' w1 23 (tcC false l t) ed
        replace k1 := k1.alloc (.cells (tcC false l t) 23)
        obtain ⟨d0, d1, d2⟩ := blk3 D
        go_wp2
        go_ret
        exact ⟨by first | rfl | simp [h2], k1⟩
      · rw [decide_eq_false (by rintro ⟨-, q | q⟩; cases q; exact h2 q)] at e0
        subst e0
        go_enter Try.func28, Try.ntmps28
        go_wp2_with fail
        refine Calls.mono HG.out ?_
        rintro x w1 ⟨rfl, k1⟩
        obtain ⟨d, ed⟩ : ∃ q, w1.heap.size = q := ⟨_, rfl⟩
        have D := Blk.new' w1 23 (tcC false l t) ed
        replace k1 := k1.alloc (.cells (tcC false l t) 23)
        obtain ⟨d0, d1, d2⟩ := blk3 D
        go_wp2
        go_ret
        exact ⟨by first | rfl | (simp; omega), k1⟩
    · rw [decide_eq_true (⟨rfl, .inl rfl⟩ : (0 : Int) = 0 ∧ (true = true ∨ 0 < l))] at e0
      subst e0
      go_enter Try.func28, Try.ntmps28
      go_wp2_with fail
      refine Calls.mono HG.out ?_
      rintro x w1 ⟨rfl, k1⟩
      obtain ⟨d, ed⟩ : ∃ q, w1.heap.size = q := ⟨_, rfl⟩
      have D := Blk.new' w1 23 (tcC true l t) ed
      replace k1 := k1.alloc (.cells (tcC true l t) 23)
      obtain ⟨d0, d1, d2⟩ := blk3 D
      go_wp2
      go_ret
      exact ⟨rfl, k1⟩
  · rw [decide_eq_false (fun q => h1 q.1)] at e0
    subst e0
    have hb : (E == 0) = false := by rw [beq_eq_false_iff_ne]; exact h1
    go_enter Try.func28, Try.ntmps28
    go_wp2_with fail
    refine Calls.mono HG.out ?_
    rintro x w1 ⟨rfl, k1⟩
    replace k1 := k1.alloc (.cells (tcC z l t) 23)
    go_wp2
    go_ret
    exact ⟨by first | rfl | simp, k1⟩
/-- What is left of all. -/
def sumT (n : Nat) (L : List Int) : Nat → Int
  | 0 => 0
  | j + 1 => sumT n L j + tL n L (j : Int)
theorem tL_bd {n : Nat} {L : List Int} (hu : U64 L) (f : Int) : 0 ≤ tL n L f ∧ tL n L f ≤ 1048576 := by
  by_cases h : tB n L f
  · have e : tE n L f = 0 := if_pos h
    have := right_bd (t_right hu e)
    exact ⟨this.1, this.2.1⟩
  · unfold tL
    rw [if_neg h]
    decide
theorem tL_no {n : Nat} {L : List Int} {f : Int} (h : ¬ tE n L f = 0) : tL n L f = 0 := by
  have hn : ¬ tB n L f := fun q => h (if_pos q)
  exact if_neg hn
theorem sumT_bd {n : Nat} {L : List Int} (hu : U64 L) : ∀ j : Nat, 0 ≤ sumT n L j ∧ sumT n L j ≤ 1048576 * j
  | 0 => by simp [sumT]
  | j + 1 => by
    have h1 := sumT_bd hu (n := n) j
    have h2 := tL_bd (n := n) hu (j : Int)
    unfold sumT
    omega
theorem sum_ok {w : World} {p g n : Nat} {L : List Int} (h : MemAt w p g n L) (hu : U64 L) : Calls Try.prog 30 #[.pointer (some ⟨p, 0, none⟩)] w fun x w' => x = .returned (.int .i64 (sumT n L n)) ∧ Chg [] w w' := by
  have hn := h.le
  have HU := Lib.hid hu
  have K := Chg.refl [] w
  have HR : Hid (∀ x, x = sumT n L n → x = sumT n L n) := Lib.hid (fun _ h => h)
  obtain ⟨sn, hsn⟩ : ∃ x, x = sumT n L n := ⟨_, rfl⟩
  rw [← hsn]
  have HSN := Lib.hid hsn
  clear hsn hu HR
  go_enter Try.func30, Try.ntmps30
  go_wp2_with fail
  refine Calls.mono (Mem.len_ok h) ?_
  rintro x w1 ⟨rfl, rfl⟩
  go_wp2_with fail
  go_loopw [3, 9] (fun s i wr => ∃ (j : Nat) (a : Int), i = .int .i64 j ∧ s = .int .i64 a ∧ j ≤ n ∧ Hid (a = sumT n L j ∧ MemAt wr p g n L ∧ Chg [] w wr)) (fun _ i _ => n - (intOf i).toNat)
  case atStart => exact ⟨0, 0, rfl, rfl, Nat.zero_le _, rfl, h, K⟩
  case round =>
    clear h K
    obtain ⟨j, a, rfl, rfl, hj, H⟩ := hrel
    obtain ⟨ha, h, K⟩ := H.out
    clear H
    rcases (by omega : j = n ∨ j < n) with rfl | j1
    · have e : sn = a := by rw [HSN.out, ha]
      subst e
      clear ha
      go_wp2
      go_ret
      exact ⟨rfl, K⟩
    · have hji : (j : Int) < n := by omega
      have HG0 := Tcap.get_ok h HU.out (j : Int)
      unfold tV at HG0
      have b1 := sumT_bd (n := n) HU.out j
      have b2 := tL_bd (n := n) HU.out (j : Int)
      have hs : sumT n L (j + 1) = a + tL n L (j : Int) := by rw [ha]; rfl
      have hw : IntKind.i64.wrap (a + tL n L (j : Int)) = a + tL n L (j : Int) := by rw [IntKind.wrap_i64]; omega
      have hno := tL_no (n := n) (L := L) (f := (j : Int))
      clear b1 b2 ha
      generalize tE n L (j : Int) = E at *
      generalize tZ n L (j : Int) = z at *
      generalize tL n L (j : Int) = l at *
      generalize tP n L (j : Int) = t at *
      have HG := Lib.hid HG0
      have HS := Lib.hid hs
      clear HG0 hs
      by_cases h1 : E = 0
      · subst h1
        clear hno
        go_wp2_with fail
        refine Calls.mono HG.out ?_
        rintro x w2 ⟨rfl, k2⟩
        obtain ⟨d, ed⟩ : ∃ q, w2.heap.size = q := ⟨_, rfl⟩
        have D := Blk.new' w2 23 (tcC z l t) ed
        replace h := (h.chg0 k2).alloc (.cells (tcC z l t) 23)
        replace K := (K.trans k2 (by simp)).alloc (.cells (tcC z l t) 23)
        obtain ⟨d0, d1, d2⟩ := blk3 D
        clear HG k2
        go_wp2
        go_roundw
        case rel => exact ⟨j + 1, a + l, by go_num, rfl, by omega, HS.out.symm, h, K⟩
        case measure => simp [intOf]; omega
      · have hb : (E == 0) = false := by rw [beq_eq_false_iff_ne]; exact h1
        have hl := hno h1
        subst hl
        clear hno hw
        go_wp2_with fail
        refine Calls.mono HG.out ?_
        rintro x w2 ⟨rfl, k2⟩
        replace h := (h.chg0 k2).alloc (.cells (tcC z 0 t) 23)
        replace K := (K.trans k2 (by simp)).alloc (.cells (tcC z 0 t) 23)
        clear HG k2
        go_wp2
        go_roundw
        case rel => exact ⟨j + 1, a, by go_num, rfl, by omega, by rw [HS.out]; omega, h, K⟩
        case measure => simp [intOf]; omega
end Go.Proofs.Ytknbeklplmhheaa.TcapRest
