/- Package palanquinref24: words, needs, widths, Needs, Word, Number. -/
import Derived.Test.YtdconfciacldmaaCallNumber
namespace Go.Proofs.Ytdconfciacldmaa.Ref24
open Go Go.RowKit Go.Proofs.Ytdconfciacldmaa Go.Proofs.Ytdconfciacldmaa.Heap Go.Proofs.Ytdconfciacldmaa.Bits Go.Proofs.Ytdconfciacldmaa.Field Go.Proofs.Ytdconfciacldmaa.Call Go.Proofs.Ytdconfciacldmaa.CallRight Go.Proofs.Ytdconfciacldmaa.CallW Go.Proofs.Ytdconfciacldmaa.CallNumber

abbrev wordsC : Array Value := (W30.map Value.string).toArray
abbrev needsC : Array Value := (N30.map (Value.int .i64)).toArray
set_option maxRecDepth 100000 in
theorem words_ok (w : World) : Calls Try.prog 27 #[] w fun e w' => ∃ g, e = .returned (.slice (some ⟨g, 0, none⟩) 30 30) ∧ Blk w' g 9 wordsC ∧ Chg [] w w' := by
  go_enter Try.func27, Try.ntmps27
  go_wp2
  go_ret
  exact ⟨_, rfl, Blk.new w _ wordsC, (Chg.refl [] w).alloc _⟩
set_option maxRecDepth 100000 in
theorem needs_ok (w : World) : Calls Try.prog 30 #[] w fun e w' => ∃ g, e = .returned (.slice (some ⟨g, 0, none⟩) 30 30) ∧ Blk w' g 3 needsC ∧ Chg [] w w' := by
  go_enter Try.func30, Try.ntmps30
  go_wp2
  go_ret
  exact ⟨_, rfl, Blk.new w _ needsC, (Chg.refl [] w).alloc _⟩
set_option maxRecDepth 100000 in
theorem widths_ok (w : World) : Calls Try.prog 21 #[] w fun e w' => ∃ g, e = .returned (.slice (some ⟨g, 0, none⟩) 6 6) ∧ Blk w' g 3 w6C ∧ w.heap.size ≤ g ∧ Chg [] w w' := by
  go_enter Try.func21, Try.ntmps21
  go_wp2
  go_ret
  exact ⟨w.heap.size, rfl, Blk.new w _ w6C, Nat.le_refl _, (Chg.refl [] w).alloc _⟩
theorem words_at : ∀ j : Nat, j < 30 → wordsC[j]? = some (.string (wordS j))
  | 0, _ => rfl
  | 1, _ => rfl
  | 2, _ => rfl
  | 3, _ => rfl
  | 4, _ => rfl
  | 5, _ => rfl
  | 6, _ => rfl
  | 7, _ => rfl
  | 8, _ => rfl
  | 9, _ => rfl
  | 10, _ => rfl
  | 11, _ => rfl
  | 12, _ => rfl
  | 13, _ => rfl
  | 14, _ => rfl
  | 15, _ => rfl
  | 16, _ => rfl
  | 17, _ => rfl
  | 18, _ => rfl
  | 19, _ => rfl
  | 20, _ => rfl
  | 21, _ => rfl
  | 22, _ => rfl
  | 23, _ => rfl
  | 24, _ => rfl
  | 25, _ => rfl
  | 26, _ => rfl
  | 27, _ => rfl
  | 28, _ => rfl
  | 29, _ => rfl
  | j + 30, h => absurd h (by omega)
theorem needs_at : ∀ j : Nat, j < 30 → needsC[j]? = some (.int .i64 (needsN j))
  | 0, _ => rfl
  | 1, _ => rfl
  | 2, _ => rfl
  | 3, _ => rfl
  | 4, _ => rfl
  | 5, _ => rfl
  | 6, _ => rfl
  | 7, _ => rfl
  | 8, _ => rfl
  | 9, _ => rfl
  | 10, _ => rfl
  | 11, _ => rfl
  | 12, _ => rfl
  | 13, _ => rfl
  | 14, _ => rfl
  | 15, _ => rfl
  | 16, _ => rfl
  | 17, _ => rfl
  | 18, _ => rfl
  | 19, _ => rfl
  | 20, _ => rfl
  | 21, _ => rfl
  | 22, _ => rfl
  | 23, _ => rfl
  | 24, _ => rfl
  | 25, _ => rfl
  | 26, _ => rfl
  | 27, _ => rfl
  | 28, _ => rfl
  | 29, _ => rfl
  | j + 30, h => absurd h (by omega)
set_option maxRecDepth 100000 in
set_option maxHeartbeats 1000000 in
theorem needR_ok (n : Int) (w : World) : Calls Try.prog 13 #[.int .i64 n] w fun e w' => e = .returned (.int .i64 (needsF n)) ∧ Chg [] w w' := by
  unfold needsF
  rcases (by omega : n < 0 ∨ 29 < n ∨ (0 ≤ n ∧ n ≤ 29)) with h | h | ⟨h, h'⟩
  · rw [if_neg (by omega)]
    go_enter Try.func13, Try.ntmps13
    go_wp2
    go_ret
    exact ⟨rfl, Chg.refl _ _⟩
  · rw [if_neg (by omega)]
    go_enter Try.func13, Try.ntmps13
    go_wp2
    go_ret
    exact ⟨rfl, Chg.refl _ _⟩
  · rw [if_pos ⟨h, h'⟩]
    obtain ⟨m, rfl⟩ : ∃ m : Nat, n = m := ⟨n.toNat, by omega⟩
    have hm : m < 30 := by omega
    have hat := Lib.hid (needs_at m hm)
    rw [Int.toNat_natCast]
    generalize needsN m = x at *
    go_enter Try.func13, Try.ntmps13
    go_wp2_with fail
    refine Calls.mono (needs_ok _) ?_
    rintro e w1 ⟨g, rfl, G, k1⟩
    have c : w1.cell? ⟨g, m, none⟩ = some (.int .i64 x) := (G.cell m).trans hat.out
    clear G hat
    go_wp2
    go_ret
    exact ⟨rfl, k1⟩
set_option maxRecDepth 100000 in
set_option maxHeartbeats 1000000 in
theorem wordR_ok (n : Int) (w : World) : Calls Try.prog 15 #[.int .i64 n] w fun e w' => e = .returned (.string (wordF n)) ∧ Chg [] w w' := by
  unfold wordF
  rcases (by omega : n < 0 ∨ 29 < n ∨ (0 ≤ n ∧ n ≤ 29)) with h | h | ⟨h, h'⟩
  · rw [if_neg (by omega)]
    go_enter Try.func15, Try.ntmps15
    go_wp2
    go_ret
    exact ⟨rfl, Chg.refl _ _⟩
  · rw [if_neg (by omega)]
    go_enter Try.func15, Try.ntmps15
    go_wp2
    go_ret
    exact ⟨rfl, Chg.refl _ _⟩
  · rw [if_pos ⟨h, h'⟩]
    obtain ⟨m, rfl⟩ : ∃ m : Nat, n = m := ⟨n.toNat, by omega⟩
    have hm : m < 30 := by omega
    have hat := Lib.hid (words_at m hm)
    rw [Int.toNat_natCast]
    generalize wordS m = x at *
    go_enter Try.func15, Try.ntmps15
    go_wp2_with fail
    refine Calls.mono (words_ok _) ?_
    rintro e w1 ⟨g, rfl, G, k1⟩
    have c : w1.cell? ⟨g, m, none⟩ = some (.string x) := (G.cell m).trans hat.out
    clear G hat
    go_wp2
    go_ret
    exact ⟨rfl, k1⟩
set_option maxRecDepth 100000 in
set_option maxHeartbeats 1000000 in
theorem numberR_ok (s : ByteArray) (w : World) (r : Int) (b : Bool) (hr : (∃ k : Nat, k < 30 ∧ r = k ∧ b = true ∧ wordS k = s ∧ ∀ j, j < k → wordS j ≠ s) ∨ (r = 0 ∧ b = false ∧ ∀ j, j < 30 → wordS j ≠ s)) :
    Calls Try.prog 9 #[.string s] w fun e w' => e = .returned (.tuple #[.int .i64 r, .bool b]) ∧ Chg [] w w' := by
  have HR := Lib.hid hr
  clear hr
  go_enter Try.func9, Try.ntmps9
  go_wp2_with fail
  refine Calls.mono (words_ok _) ?_
  rintro e w1 ⟨g, rfl, G, k1⟩
  have HG := Lib.hid G
  have k0 : Chg [] w1 w1 := Chg.refl _ _
  clear G
  go_wp2
  go_loopw [5] (fun i wr => ∃ j : Nat, i = .int .i64 j ∧ j ≤ 30 ∧ Hid (∀ t, t < j → wordS t ≠ s) ∧ Chg [] w1 wr) (fun i _ => 30 - (intOf i).toNat)
  case atStart => exact ⟨0, rfl, by decide, fun t ht => absurd ht (by omega), k0⟩
  case round =>
    clear k0
    obtain ⟨j, rfl, hj, HE, k3⟩ := hrel
    by_cases h30 : j < 30
    · have d : World.cell? _ ⟨g, j, none⟩ = some (.string (wordS j)) := ((HG.out.chg k3 (by simp)).cell j).trans (words_at j h30)
      have hji : (j : Int) < 30 := by omega
      by_cases he : wordS j = s
      · have hb : ((wordS j).toList == s.toList) = true := by rw [beq_dec]; exact decide_eq_true he
        have hrj : r = j ∧ b = true := by
          rcases HR.out with ⟨k, h1, h2, h5, h3, h4⟩ | ⟨_, _, h⟩
          · refine ⟨?_, h5⟩
            rw [h2]
            congr 1
            rcases Nat.lt_trichotomy k j with q | q | q
            · exact absurd h3 (HE.out k q)
            · exact q
            · exact absurd he (h4 j q)
          · exact absurd he (h j h30)
        obtain ⟨rfl, rfl⟩ := hrj
        generalize wordS j = W at *
        clear he
        go_wp2
        go_ret2
        exact ⟨rfl, k1.trans k3 (by simp)⟩
      · have hb : ((wordS j).toList == s.toList) = false := by rw [beq_dec]; exact decide_eq_false he
        have HE2 : Hid (∀ t, t < j + 1 → wordS t ≠ s) := fun t ht => by
          rcases Nat.lt_succ_iff_lt_or_eq.1 ht with h | rfl
          · exact HE.out t h
          · exact he
        generalize wordS j = W at *
        clear he HE
        go_wp2
        go_roundw
        case rel => exact ⟨j + 1, by first | rfl | simp, by omega, HE2, k3⟩
        case measure => simp [intOf]; omega
    · have : j = 30 := by omega
      subst this
      have hrj : r = 0 ∧ b = false := by
        rcases HR.out with ⟨k, h1, h2, h5, h3, h4⟩ | ⟨h, h', _⟩
        · exact absurd h3 (HE.out k h1)
        · exact ⟨h, h'⟩
      obtain ⟨rfl, rfl⟩ := hrj
      clear h30 hj
      go_wp2
      go_ret2
      exact ⟨rfl, k1.trans k3 (by simp)⟩
end Go.Proofs.Ytdconfciacldmaa.Ref24
