/- Package call: right, Check. -/
import Derived.Test.YtdconfciacldmaaCall
namespace Go.Proofs.Ytdconfciacldmaa.CallRight
open Go Go.RowKit Go.Proofs.Ytdconfciacldmaa Go.Proofs.Ytdconfciacldmaa.Heap Go.Proofs.Ytdconfciacldmaa.Bits Go.Proofs.Ytdconfciacldmaa.Field Go.Proofs.Ytdconfciacldmaa.Call

abbrev callV (n a0 a1 a2 a3 a4 : Int) : Value := .agg #[.int .i64 n, .int .i64 a0, .int .i64 a1, .int .i64 a2, .int .i64 a3, .int .i64 a4]
abbrev callC (n a0 a1 a2 a3 a4 : Int) : Array Value := #[.int .i64 n, .int .i64 a0, .int .i64 a1, .int .i64 a2, .int .i64 a3, .int .i64 a4]
abbrev w6C : Array Value := #[.int .i64 8, .int .i64 8, .int .i64 16, .int .i64 16, .int .i64 8, .int .i64 8]
theorem blk6 {w : World} {g t : Nat} {a b c d e f : Value} (h : Blk w g t #[a, b, c, d, e, f]) : w.cell? ⟨g, 0, none⟩ = some a ∧ w.cell? ⟨g, 1, none⟩ = some b ∧ w.cell? ⟨g, 2, none⟩ = some c ∧ w.cell? ⟨g, 3, none⟩ = some d ∧ w.cell? ⟨g, 4, none⟩ = some e ∧ w.cell? ⟨g, 5, none⟩ = some f := ⟨h.cell 0, h.cell 1, h.cell 2, h.cell 3, h.cell 4, h.cell 5⟩
/-- May a call have such a number at such a place? -/
def argOk (n : Int) (i : Nat) (x : Int) : Bool := decide (0 ≤ x) && fitsB x ([8, 16, 16, 8, 8].getD i 0) && (decide ((i : Int) < needsF n) || decide (x = 0))
def rightC (n a0 a1 a2 a3 a4 : Int) : Bool := decide (0 ≤ n ∧ n ≤ 29) && argOk n 0 a0 && argOk n 1 a1 && argOk n 2 a2 && argOk n 3 a3 && argOk n 4 a4
def errC (b : Bool) : Int := if b then 0 else 1
theorem jx0 (a b c d e : Value) (w : World) : (Instr.index 22 (.agg #[a, b, c, d, e]) (.int .i64 0)).run Try.prog w = .ok a w := by kernel_rfl
theorem jx1 (a b c d e : Value) (w : World) : (Instr.index 22 (.agg #[a, b, c, d, e]) (.int .i64 1)).run Try.prog w = .ok b w := by kernel_rfl
theorem jx2 (a b c d e : Value) (w : World) : (Instr.index 22 (.agg #[a, b, c, d, e]) (.int .i64 2)).run Try.prog w = .ok c w := by kernel_rfl
theorem jx3 (a b c d e : Value) (w : World) : (Instr.index 22 (.agg #[a, b, c, d, e]) (.int .i64 3)).run Try.prog w = .ok d w := by kernel_rfl
theorem jx4 (a b c d e : Value) (w : World) : (Instr.index 22 (.agg #[a, b, c, d, e]) (.int .i64 4)).run Try.prog w = .ok e w := by kernel_rfl
set_option maxRecDepth 100000 in
theorem widths_ok (w : World) : Calls Try.prog 18 #[] w fun e w' => e = .returned (.agg w6C) ∧ Chg [] w w' := by
  go_enter Try.func18, Try.ntmps18
  go_wp2
  have B := Blk.new w 45 w6C
  obtain ⟨q0, q1, q2, q3, q4, q5⟩ := blk6 B
  refine ⟨rfl, .agg w6C, ?_, rfl, (Chg.refl [] w).alloc _⟩
  simp [results, go_sem, q0, q1, q2, q3, q4, q5]

set_option maxRecDepth 100000 in
set_option maxHeartbeats 8000000 in
theorem right_ok (n a0 a1 a2 a3 a4 : Int) (w : World) (h0 : a0 < 9223372036854775808) (h1 : a1 < 9223372036854775808) (h2 : a2 < 9223372036854775808) (h3 : a3 < 9223372036854775808) (h4 : a4 < 9223372036854775808) : Calls Try.prog 17 #[callV n a0 a1 a2 a3 a4] w fun e w' => e = .returned (.bool (rightC n a0 a1 a2 a3 a4)) ∧ Chg [] w w' := by
  obtain ⟨b, eb⟩ : ∃ b, w.heap.size = b := ⟨_, rfl⟩
  have B := Blk.new' w 24 (callC n a0 a1 a2 a3 a4) eb
  have K := (Chg.refl [] w).alloc (.cells (callC n a0 a1 a2 a3 a4) 24)
  have HI := Call.is_ok n
  have HN := Call.needs_ok n
  have nb := needsF_bd n
  unfold rightC
  by_cases hn : 0 ≤ n ∧ n ≤ 29
  · rw [decide_eq_true hn] at HI ⊢
    have hok : Hid (∀ t x, argOk n t x = (decide (0 ≤ x) && fitsB x ([8, 16, 16, 8, 8].getD t 0) && (decide ((t : Int) < needsF n) || decide (x = 0)))) := fun _ _ => rfl
    obtain ⟨R, eR⟩ : ∃ R, (true && argOk n 0 a0 && argOk n 1 a1 && argOk n 2 a2 && argOk n 3 a3 && argOk n 4 a4) = R := ⟨_, rfl⟩
    rw [eR]
    have HR := Lib.hid eR
    clear eR hn
    generalize needsF n = nn at *
    obtain ⟨nb0, nb5⟩ := nb
    generalize argOk n = ok at *
    have HI' := Lib.hid HI
    have HN' := Lib.hid HN
    clear HI HN
    obtain ⟨c0, c1, c2, c3, c4, c5⟩ := blk6 B
    go_enter Try.func17, Try.ntmps17
    go_wp2_with fail
    refine Calls.mono (HI'.out _) ?_
    rintro e w1 ⟨rfl, hw1⟩
    rw [hw1] at B K
    clear hw1 c0 c1 c2 c3 c4 c5
    go_wp2_with fail
    refine Calls.mono (widths_ok _) ?_
    rintro e w2 ⟨rfl, kk⟩
    replace B := (B.chg kk (by simp)).alloc (.cells w6C 45)
    replace K := (K.trans kk (by simp)).alloc (.cells w6C 45)
    obtain ⟨d, ed⟩ : ∃ d, w2.heap.size = d := ⟨_, rfl⟩
    have D := Blk.new' w2 45 w6C ed
    clear kk
    obtain ⟨c0, c1, c2, c3, c4, c5⟩ := blk6 B
    go_wp2_with fail
    clear c0 c1 c2 c3 c4 c5
    have k0 : Chg [] (w2.alloc (.cells w6C 45)) (w2.alloc (.cells w6C 45)) := Chg.refl _ _
    generalize hW : w2.alloc (.cells w6C 45) = W3 at *
    have J0 := fun (w : World) => jx0 (.int .i64 a0) (.int .i64 a1) (.int .i64 a2) (.int .i64 a3) (.int .i64 a4) w
    have J1 := fun (w : World) => jx1 (.int .i64 a0) (.int .i64 a1) (.int .i64 a2) (.int .i64 a3) (.int .i64 a4) w
    have J2 := fun (w : World) => jx2 (.int .i64 a0) (.int .i64 a1) (.int .i64 a2) (.int .i64 a3) (.int .i64 a4) w
    have J3 := fun (w : World) => jx3 (.int .i64 a0) (.int .i64 a1) (.int .i64 a2) (.int .i64 a3) (.int .i64 a4) w
    have J4 := fun (w : World) => jx4 (.int .i64 a0) (.int .i64 a1) (.int .i64 a2) (.int .i64 a3) (.int .i64 a4) w
    clear hW ed eb
    go_loopw [13] (fun i wr => ∃ j : Nat, i = .int .i64 j ∧ j ≤ 5 ∧ Hid (∀ t, t < j → ok t ([a0, a1, a2, a3, a4].getD t 0) = true) ∧ Chg [] W3 wr) (fun i _ => 5 - (intOf i).toNat)
    case atStart => exact ⟨0, rfl, by decide, fun t ht => absurd ht (by omega), k0⟩
    case round =>
      clear k0
      obtain ⟨j, rfl, hj, HE, k3⟩ := hrel
      have B' := B.chg k3 (by simp)
      have D' := D.chg k3 (by simp)
      have K' := K.trans k3 (by simp)
      obtain ⟨c0, c1, c2, c3, c4, c5⟩ := blk6 B'
      obtain ⟨d0, d1, d2, d3, d4, d5⟩ := blk6 D'
      have j5 : j = 0 ∨ j = 1 ∨ j = 2 ∨ j = 3 ∨ j = 4 ∨ j = 5 := by omega
      rcases j5 with rfl | rfl | rfl | rfl | rfl | rfl
      · as_aux_lemma =>
        have E := hok.out 0 a0
        by_cases hx : a0 < 0
        · have hbad : ok 0 a0 = false := by rw [E, decide_eq_false (by omega)]; rfl
          have hR : R = false := by rw [← HR.out, hbad]; simp
          subst hR
          clear E hbad
          go_wp2
          go_ret
          exact ⟨rfl, K'⟩
        · have hx0 : 0 ≤ a0 := by omega
          have hwr : IntKind.u64.wrap a0 = a0 := by rw [IntKind.wrap_u64]; omega
          have HF := Field.fits_ok a0 8 hx0 (by omega)
          rw [decide_eq_true hx0, show ([8, 16, 16, 8, 8] : List Int).getD 0 0 = 8 from rfl] at E
          generalize fitsB a0 8 = T at *
          clear hx
          cases T
          · have hR : R = false := by rw [← HR.out, E]; simp
            subst hR
            clear E
            go_wp2_with (go_at_call 31; refine Calls.mono (HF _) ?_; rintro e w4 ⟨rfl, rfl⟩)
            go_ret
            exact ⟨rfl, K'⟩
          · by_cases hn : nn ≤ 0
            · by_cases hz : a0 = 0
              · have hz2 : (a0 != 0) = false := by simpa using hz
                have HE2 : Hid (∀ t, t < 1 → ok t ([a0, a1, a2, a3, a4].getD t 0) = true) := fun t ht => by
                  rcases Nat.lt_succ_iff_lt_or_eq.1 ht with h | rfl
                  · exact HE.out t h
                  · show ok 0 a0 = true
                    rw [E, decide_eq_true hz]; simp
                clear E hz
                go_wp2_with (first | (go_at_call 31; refine Calls.mono (HF _) ?_; rintro e w4 ⟨rfl, rfl⟩) | (go_at_call 12; refine Calls.mono (HN'.out _) ?_; rintro e w4 ⟨rfl, kk⟩; replace K' := K'.trans kk (by simp); replace k3 := k3.trans kk (by simp); clear kk))
                go_roundw
                case rel => exact ⟨1, rfl, by decide, HE2, k3⟩
                case measure => simp [intOf]
              · have hz2 : (a0 != 0) = true := by simpa using hz
                have hR : R = false := by
                  rw [← HR.out, E, decide_eq_false (show ¬ (((0 : Nat) : Int) < nn) by omega), decide_eq_false hz]; simp
                subst hR
                clear E hz
                go_wp2_with (first | (go_at_call 31; refine Calls.mono (HF _) ?_; rintro e w4 ⟨rfl, rfl⟩) | (go_at_call 12; refine Calls.mono (HN'.out _) ?_; rintro e w4 ⟨rfl, kk⟩; replace K' := K'.trans kk (by simp); replace k3 := k3.trans kk (by simp); clear kk))
                go_ret
                exact ⟨rfl, K'⟩
            · have hn2 : 0 < nn := by omega
              have HE2 : Hid (∀ t, t < 1 → ok t ([a0, a1, a2, a3, a4].getD t 0) = true) := fun t ht => by
                rcases Nat.lt_succ_iff_lt_or_eq.1 ht with h | rfl
                · exact HE.out t h
                · show ok 0 a0 = true
                  rw [E, decide_eq_true (show ((0 : Nat) : Int) < nn by omega)]; simp
              clear E hn
              go_wp2_with (first | (go_at_call 31; refine Calls.mono (HF _) ?_; rintro e w4 ⟨rfl, rfl⟩) | (go_at_call 12; refine Calls.mono (HN'.out _) ?_; rintro e w4 ⟨rfl, kk⟩; replace K' := K'.trans kk (by simp); replace k3 := k3.trans kk (by simp); clear kk))
              go_roundw
              case rel => exact ⟨1, rfl, by decide, HE2, k3⟩
              case measure => simp [intOf]
      · as_aux_lemma =>
        have E := hok.out 1 a1
        by_cases hx : a1 < 0
        · have hbad : ok 1 a1 = false := by rw [E, decide_eq_false (by omega)]; rfl
          have hR : R = false := by rw [← HR.out, hbad]; simp
          subst hR
          clear E hbad
          go_wp2
          go_ret
          exact ⟨rfl, K'⟩
        · have hx0 : 0 ≤ a1 := by omega
          have hwr : IntKind.u64.wrap a1 = a1 := by rw [IntKind.wrap_u64]; omega
          have HF := Field.fits_ok a1 16 hx0 (by omega)
          rw [decide_eq_true hx0, show ([8, 16, 16, 8, 8] : List Int).getD 1 0 = 16 from rfl] at E
          generalize fitsB a1 16 = T at *
          clear hx
          cases T
          · have hR : R = false := by rw [← HR.out, E]; simp
            subst hR
            clear E
            go_wp2_with (go_at_call 31; refine Calls.mono (HF _) ?_; rintro e w4 ⟨rfl, rfl⟩)
            go_ret
            exact ⟨rfl, K'⟩
          · by_cases hn : nn ≤ 1
            · by_cases hz : a1 = 0
              · have hz2 : (a1 != 0) = false := by simpa using hz
                have HE2 : Hid (∀ t, t < 2 → ok t ([a0, a1, a2, a3, a4].getD t 0) = true) := fun t ht => by
                  rcases Nat.lt_succ_iff_lt_or_eq.1 ht with h | rfl
                  · exact HE.out t h
                  · show ok 1 a1 = true
                    rw [E, decide_eq_true hz]; simp
                clear E hz
                go_wp2_with (first | (go_at_call 31; refine Calls.mono (HF _) ?_; rintro e w4 ⟨rfl, rfl⟩) | (go_at_call 12; refine Calls.mono (HN'.out _) ?_; rintro e w4 ⟨rfl, kk⟩; replace K' := K'.trans kk (by simp); replace k3 := k3.trans kk (by simp); clear kk))
                go_roundw
                case rel => exact ⟨2, rfl, by decide, HE2, k3⟩
                case measure => simp [intOf]
              · have hz2 : (a1 != 0) = true := by simpa using hz
                have hR : R = false := by
                  rw [← HR.out, E, decide_eq_false (show ¬ (((1 : Nat) : Int) < nn) by omega), decide_eq_false hz]; simp
                subst hR
                clear E hz
                go_wp2_with (first | (go_at_call 31; refine Calls.mono (HF _) ?_; rintro e w4 ⟨rfl, rfl⟩) | (go_at_call 12; refine Calls.mono (HN'.out _) ?_; rintro e w4 ⟨rfl, kk⟩; replace K' := K'.trans kk (by simp); replace k3 := k3.trans kk (by simp); clear kk))
                go_ret
                exact ⟨rfl, K'⟩
            · have hn2 : 1 < nn := by omega
              have HE2 : Hid (∀ t, t < 2 → ok t ([a0, a1, a2, a3, a4].getD t 0) = true) := fun t ht => by
                rcases Nat.lt_succ_iff_lt_or_eq.1 ht with h | rfl
                · exact HE.out t h
                · show ok 1 a1 = true
                  rw [E, decide_eq_true (show ((1 : Nat) : Int) < nn by omega)]; simp
              clear E hn
              go_wp2_with (first | (go_at_call 31; refine Calls.mono (HF _) ?_; rintro e w4 ⟨rfl, rfl⟩) | (go_at_call 12; refine Calls.mono (HN'.out _) ?_; rintro e w4 ⟨rfl, kk⟩; replace K' := K'.trans kk (by simp); replace k3 := k3.trans kk (by simp); clear kk))
              go_roundw
              case rel => exact ⟨2, rfl, by decide, HE2, k3⟩
              case measure => simp [intOf]
      · as_aux_lemma =>
        have E := hok.out 2 a2
        by_cases hx : a2 < 0
        · have hbad : ok 2 a2 = false := by rw [E, decide_eq_false (by omega)]; rfl
          have hR : R = false := by rw [← HR.out, hbad]; simp
          subst hR
          clear E hbad
          go_wp2
          go_ret
          exact ⟨rfl, K'⟩
        · have hx0 : 0 ≤ a2 := by omega
          have hwr : IntKind.u64.wrap a2 = a2 := by rw [IntKind.wrap_u64]; omega
          have HF := Field.fits_ok a2 16 hx0 (by omega)
          rw [decide_eq_true hx0, show ([8, 16, 16, 8, 8] : List Int).getD 2 0 = 16 from rfl] at E
          generalize fitsB a2 16 = T at *
          clear hx
          cases T
          · have hR : R = false := by rw [← HR.out, E]; simp
            subst hR
            clear E
            go_wp2_with (go_at_call 31; refine Calls.mono (HF _) ?_; rintro e w4 ⟨rfl, rfl⟩)
            go_ret
            exact ⟨rfl, K'⟩
          · by_cases hn : nn ≤ 2
            · by_cases hz : a2 = 0
              · have hz2 : (a2 != 0) = false := by simpa using hz
                have HE2 : Hid (∀ t, t < 3 → ok t ([a0, a1, a2, a3, a4].getD t 0) = true) := fun t ht => by
                  rcases Nat.lt_succ_iff_lt_or_eq.1 ht with h | rfl
                  · exact HE.out t h
                  · show ok 2 a2 = true
                    rw [E, decide_eq_true hz]; simp
                clear E hz
                go_wp2_with (first | (go_at_call 31; refine Calls.mono (HF _) ?_; rintro e w4 ⟨rfl, rfl⟩) | (go_at_call 12; refine Calls.mono (HN'.out _) ?_; rintro e w4 ⟨rfl, kk⟩; replace K' := K'.trans kk (by simp); replace k3 := k3.trans kk (by simp); clear kk))
                go_roundw
                case rel => exact ⟨3, rfl, by decide, HE2, k3⟩
                case measure => simp [intOf]
              · have hz2 : (a2 != 0) = true := by simpa using hz
                have hR : R = false := by
                  rw [← HR.out, E, decide_eq_false (show ¬ (((2 : Nat) : Int) < nn) by omega), decide_eq_false hz]; simp
                subst hR
                clear E hz
                go_wp2_with (first | (go_at_call 31; refine Calls.mono (HF _) ?_; rintro e w4 ⟨rfl, rfl⟩) | (go_at_call 12; refine Calls.mono (HN'.out _) ?_; rintro e w4 ⟨rfl, kk⟩; replace K' := K'.trans kk (by simp); replace k3 := k3.trans kk (by simp); clear kk))
                go_ret
                exact ⟨rfl, K'⟩
            · have hn2 : 2 < nn := by omega
              have HE2 : Hid (∀ t, t < 3 → ok t ([a0, a1, a2, a3, a4].getD t 0) = true) := fun t ht => by
                rcases Nat.lt_succ_iff_lt_or_eq.1 ht with h | rfl
                · exact HE.out t h
                · show ok 2 a2 = true
                  rw [E, decide_eq_true (show ((2 : Nat) : Int) < nn by omega)]; simp
              clear E hn
              go_wp2_with (first | (go_at_call 31; refine Calls.mono (HF _) ?_; rintro e w4 ⟨rfl, rfl⟩) | (go_at_call 12; refine Calls.mono (HN'.out _) ?_; rintro e w4 ⟨rfl, kk⟩; replace K' := K'.trans kk (by simp); replace k3 := k3.trans kk (by simp); clear kk))
              go_roundw
              case rel => exact ⟨3, rfl, by decide, HE2, k3⟩
              case measure => simp [intOf]
      · as_aux_lemma =>
        have E := hok.out 3 a3
        by_cases hx : a3 < 0
        · have hbad : ok 3 a3 = false := by rw [E, decide_eq_false (by omega)]; rfl
          have hR : R = false := by rw [← HR.out, hbad]; simp
          subst hR
          clear E hbad
          go_wp2
          go_ret
          exact ⟨rfl, K'⟩
        · have hx0 : 0 ≤ a3 := by omega
          have hwr : IntKind.u64.wrap a3 = a3 := by rw [IntKind.wrap_u64]; omega
          have HF := Field.fits_ok a3 8 hx0 (by omega)
          rw [decide_eq_true hx0, show ([8, 16, 16, 8, 8] : List Int).getD 3 0 = 8 from rfl] at E
          generalize fitsB a3 8 = T at *
          clear hx
          cases T
          · have hR : R = false := by rw [← HR.out, E]; simp
            subst hR
            clear E
            go_wp2_with (go_at_call 31; refine Calls.mono (HF _) ?_; rintro e w4 ⟨rfl, rfl⟩)
            go_ret
            exact ⟨rfl, K'⟩
          · by_cases hn : nn ≤ 3
            · by_cases hz : a3 = 0
              · have hz2 : (a3 != 0) = false := by simpa using hz
                have HE2 : Hid (∀ t, t < 4 → ok t ([a0, a1, a2, a3, a4].getD t 0) = true) := fun t ht => by
                  rcases Nat.lt_succ_iff_lt_or_eq.1 ht with h | rfl
                  · exact HE.out t h
                  · show ok 3 a3 = true
                    rw [E, decide_eq_true hz]; simp
                clear E hz
                go_wp2_with (first | (go_at_call 31; refine Calls.mono (HF _) ?_; rintro e w4 ⟨rfl, rfl⟩) | (go_at_call 12; refine Calls.mono (HN'.out _) ?_; rintro e w4 ⟨rfl, kk⟩; replace K' := K'.trans kk (by simp); replace k3 := k3.trans kk (by simp); clear kk))
                go_roundw
                case rel => exact ⟨4, rfl, by decide, HE2, k3⟩
                case measure => simp [intOf]
              · have hz2 : (a3 != 0) = true := by simpa using hz
                have hR : R = false := by
                  rw [← HR.out, E, decide_eq_false (show ¬ (((3 : Nat) : Int) < nn) by omega), decide_eq_false hz]; simp
                subst hR
                clear E hz
                go_wp2_with (first | (go_at_call 31; refine Calls.mono (HF _) ?_; rintro e w4 ⟨rfl, rfl⟩) | (go_at_call 12; refine Calls.mono (HN'.out _) ?_; rintro e w4 ⟨rfl, kk⟩; replace K' := K'.trans kk (by simp); replace k3 := k3.trans kk (by simp); clear kk))
                go_ret
                exact ⟨rfl, K'⟩
            · have hn2 : 3 < nn := by omega
              have HE2 : Hid (∀ t, t < 4 → ok t ([a0, a1, a2, a3, a4].getD t 0) = true) := fun t ht => by
                rcases Nat.lt_succ_iff_lt_or_eq.1 ht with h | rfl
                · exact HE.out t h
                · show ok 3 a3 = true
                  rw [E, decide_eq_true (show ((3 : Nat) : Int) < nn by omega)]; simp
              clear E hn
              go_wp2_with (first | (go_at_call 31; refine Calls.mono (HF _) ?_; rintro e w4 ⟨rfl, rfl⟩) | (go_at_call 12; refine Calls.mono (HN'.out _) ?_; rintro e w4 ⟨rfl, kk⟩; replace K' := K'.trans kk (by simp); replace k3 := k3.trans kk (by simp); clear kk))
              go_roundw
              case rel => exact ⟨4, rfl, by decide, HE2, k3⟩
              case measure => simp [intOf]
      · as_aux_lemma =>
        have E := hok.out 4 a4
        by_cases hx : a4 < 0
        · have hbad : ok 4 a4 = false := by rw [E, decide_eq_false (by omega)]; rfl
          have hR : R = false := by rw [← HR.out, hbad]; simp
          subst hR
          clear E hbad
          go_wp2
          go_ret
          exact ⟨rfl, K'⟩
        · have hx0 : 0 ≤ a4 := by omega
          have hwr : IntKind.u64.wrap a4 = a4 := by rw [IntKind.wrap_u64]; omega
          have HF := Field.fits_ok a4 8 hx0 (by omega)
          rw [decide_eq_true hx0, show ([8, 16, 16, 8, 8] : List Int).getD 4 0 = 8 from rfl] at E
          generalize fitsB a4 8 = T at *
          clear hx
          cases T
          · have hR : R = false := by rw [← HR.out, E]; simp
            subst hR
            clear E
            go_wp2_with (go_at_call 31; refine Calls.mono (HF _) ?_; rintro e w4 ⟨rfl, rfl⟩)
            go_ret
            exact ⟨rfl, K'⟩
          · by_cases hn : nn ≤ 4
            · by_cases hz : a4 = 0
              · have hz2 : (a4 != 0) = false := by simpa using hz
                have HE2 : Hid (∀ t, t < 5 → ok t ([a0, a1, a2, a3, a4].getD t 0) = true) := fun t ht => by
                  rcases Nat.lt_succ_iff_lt_or_eq.1 ht with h | rfl
                  · exact HE.out t h
                  · show ok 4 a4 = true
                    rw [E, decide_eq_true hz]; simp
                clear E hz
                go_wp2_with (first | (go_at_call 31; refine Calls.mono (HF _) ?_; rintro e w4 ⟨rfl, rfl⟩) | (go_at_call 12; refine Calls.mono (HN'.out _) ?_; rintro e w4 ⟨rfl, kk⟩; replace K' := K'.trans kk (by simp); replace k3 := k3.trans kk (by simp); clear kk))
                go_roundw
                case rel => exact ⟨5, rfl, by decide, HE2, k3⟩
                case measure => simp [intOf]
              · have hz2 : (a4 != 0) = true := by simpa using hz
                have hR : R = false := by
                  rw [← HR.out, E, decide_eq_false (show ¬ (((4 : Nat) : Int) < nn) by omega), decide_eq_false hz]; simp
                subst hR
                clear E hz
                go_wp2_with (first | (go_at_call 31; refine Calls.mono (HF _) ?_; rintro e w4 ⟨rfl, rfl⟩) | (go_at_call 12; refine Calls.mono (HN'.out _) ?_; rintro e w4 ⟨rfl, kk⟩; replace K' := K'.trans kk (by simp); replace k3 := k3.trans kk (by simp); clear kk))
                go_ret
                exact ⟨rfl, K'⟩
            · have hn2 : 4 < nn := by omega
              have HE2 : Hid (∀ t, t < 5 → ok t ([a0, a1, a2, a3, a4].getD t 0) = true) := fun t ht => by
                rcases Nat.lt_succ_iff_lt_or_eq.1 ht with h | rfl
                · exact HE.out t h
                · show ok 4 a4 = true
                  rw [E, decide_eq_true (show ((4 : Nat) : Int) < nn by omega)]; simp
              clear E hn
              go_wp2_with (first | (go_at_call 31; refine Calls.mono (HF _) ?_; rintro e w4 ⟨rfl, rfl⟩) | (go_at_call 12; refine Calls.mono (HN'.out _) ?_; rintro e w4 ⟨rfl, kk⟩; replace K' := K'.trans kk (by simp); replace k3 := k3.trans kk (by simp); clear kk))
              go_roundw
              case rel => exact ⟨5, rfl, by decide, HE2, k3⟩
              case measure => simp [intOf]
      · have hR : R = true := by
          have e0 : ok 0 a0 = true := HE.out 0 (by decide)
          have e1 : ok 1 a1 = true := HE.out 1 (by decide)
          have e2 : ok 2 a2 = true := HE.out 2 (by decide)
          have e3 : ok 3 a3 = true := HE.out 3 (by decide)
          have e4 : ok 4 a4 = true := HE.out 4 (by decide)
          rw [← HR.out, e0, e1, e2, e3, e4]; rfl
        subst hR
        go_wp2
        go_ret
        exact ⟨rfl, K'⟩
  · rw [decide_eq_false hn] at HI ⊢
    simp only [Bool.false_and]
    have HI' := Lib.hid HI
    clear HI HN hn
    obtain ⟨c0, c1, c2, c3, c4, c5⟩ := blk6 B
    go_enter Try.func17, Try.ntmps17
    go_wp2_with (go_at_call 29; refine Calls.mono (HI'.out _) ?_; rintro e w1 ⟨rfl, rfl⟩)
    go_ret
    exact ⟨rfl, K⟩
end Go.Proofs.Ytdconfciacldmaa.CallRight
