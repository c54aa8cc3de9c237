/- Two slices of numbers are held against each other: the statements' own 'words'. -/
import Derived.Test.YtknbeklplmhheaaProg
import Derived.Test.YtknbeklplmhheaaHeap
import Derived.WalkKit
import Derived.WalkSpells
import Derived.BigQuiet
import Derived.Deep.QuietTactic
namespace Go.Proofs.Ytknbeklplmhheaa.Words18
open Go Go.RowKit Go.Proofs.Ytknbeklplmhheaa.Heap

theorem eq_of_upto {xs ys : List Int} {n : Nat} (hx : xs.length = n) (hy : ys.length = n) (h : ∀ j, j < n → xs.getD j 0 = ys.getD j 0) : xs = ys := by
  apply List.ext_getElem (by omega)
  intro i h1 h2
  have := h i (by omega)
  simpa [List.getD_eq_getElem?_getD, List.getElem?_eq_getElem h1, List.getElem?_eq_getElem h2] using this

set_option maxRecDepth 100000 in
set_option maxHeartbeats 400000 in
theorem words_any (A B : Option Addr) (n m c d : Nat) (xs ys : List Int) (w : World) (hx : Nums w .u64 A n xs) (hy : Nums w .u64 B m ys) :
    Calls Try.prog 39 #[.slice A n c, .slice B m d] w fun e w' => e = .returned (.bool (decide (xs = ys))) ∧ ∃ k, w' = w.drewN k := by
  have b1 := hx.2.1
  have b2 := hy.2.1
  by_cases hnm : n = m
  · subst hnm
    have hb : ((n : Int) != (n : Int)) = false := by simp
    by_cases h0 : n = 0
    · subst h0
      have e : xs = ys := by rw [List.eq_nil_of_length_eq_zero hx.1, List.eq_nil_of_length_eq_zero hy.1]
      rw [decide_eq_true e]
      clear hb
      go_enter Try.func39, Try.ntmps39
      go_wp2_with fail
      go_loop [5] (fun i => i = .int .i64 0) (fun _ => 0)
      case atStart => rfl
      case round =>
        subst hrel
        go_wp2
        go_ret
        exact ⟨rfl, 0, rfl⟩
    · obtain ⟨a, rfl, ha⟩ := hx.2.2 (by omega)
      obtain ⟨b, rfl, hb'⟩ := hy.2.2 (by omega)
      have lx := hx.1
      have ly := hy.1
      clear hx hy
      obtain ⟨T, hT⟩ : ∃ T : Bool, T = decide (xs = ys) := ⟨_, rfl⟩
      rw [← hT]
      have HT : Hid (T = decide (xs = ys)) := hT
      have HA : Hid (∀ j, j < n → w.cell? (a.add j) = some (.int .u64 (xs.getD j 0))) := ha
      have HB : Hid (∀ j, j < n → w.cell? (b.add j) = some (.int .u64 (ys.getD j 0))) := hb'
      have HX : Hid (xs.length = n) := lx
      have HY : Hid (ys.length = n) := ly
      clear hT ha hb' lx ly
      go_enter Try.func39, Try.ntmps39
      go_wp2_with fail
      go_loopw [5] (fun i wr => ∃ k : Nat, k ≤ n ∧ i = .int .i64 k ∧ Hid (∀ j, j < k → xs.getD j 0 = ys.getD j 0) ∧ ∃ q, wr = w.drewN q) (fun i _ => n - (intOf i).toNat)
      case atStart => exact ⟨0, Nat.zero_le _, rfl, (fun j hj => absurd hj (by omega)), 0, rfl⟩
      case round =>
        obtain ⟨k, hk, rfl, HE, q, rfl⟩ := hrel
        by_cases hlt : k < n
        · have c1 := HA.out k hlt
          have c2 := HB.out k hlt
          obtain ⟨x, hxk⟩ : ∃ x, xs.getD k 0 = x := ⟨_, rfl⟩
          obtain ⟨y, hyk⟩ : ∃ y, ys.getD k 0 = y := ⟨_, rfl⟩
          rw [hxk] at c1
          rw [hyk] at c2
          have HXK : Hid (xs.getD k 0 = x) := hxk
          have HYK : Hid (ys.getD k 0 = y) := hyk
          clear hxk hyk
          by_cases hxy : x = y
          · subst hxy
            have hbx : (x != x) = false := by simp
            have HE' : Hid (∀ j, j < k + 1 → xs.getD j 0 = ys.getD j 0) := by
              intro j hj
              rcases Nat.lt_succ_iff_lt_or_eq.1 hj with h | rfl
              · exact HE.out j h
              · rw [HXK.out, HYK.out]
            go_wp2_with fail
            go_quiet (fail)
            go_wp2
            go_roundw
            case rel => exact ⟨k + 1, by omega, by go_num, HE', q + nq, rfl⟩
            case measure => simp [intOf]; omega
          · have hbx : (x != y) = true := by rw [bne_iff_ne]; exact hxy
            have hf : T = false := by
              rw [HT.out]
              refine decide_eq_false (fun e => hxy ?_)
              rw [← HXK.out, ← HYK.out, e]
            subst hf
            clear hxy
            go_wp2_with fail
            go_quiet (fail)
            go_wp2
            go_ret
            exact ⟨rfl, q + nq, World.drewN_drewN ..⟩
        · obtain rfl : k = n := by omega
          have ht : T = true := by
            rw [HT.out]
            exact decide_eq_true (eq_of_upto HX.out HY.out HE.out)
          subst ht
          go_wp2
          go_ret
          exact ⟨rfl, q, rfl⟩
  · have hb : ((n : Int) != (m : Int)) = true := by rw [bne_iff_ne]; omega
    have e : decide (xs = ys) = false := decide_eq_false (fun e => hnm (by rw [← hx.1, ← hy.1, e]))
    rw [e]
    clear hx hy e
    go_enter Try.func39, Try.ntmps39
    go_wp2
    go_ret
    exact ⟨rfl, 0, rfl⟩
end Go.Proofs.Ytknbeklplmhheaa.Words18
