/- What package palanquinref09 does with a capability. -/
import Derived.Test.YtddjkejliogenaaCap
namespace Go.Proofs.Ytddjkejliogenaa.CapRef
open Go Go.RowKit Go.Proofs.Ytddjkejliogenaa Go.Proofs.Ytddjkejliogenaa.Heap Go.Proofs.Ytddjkejliogenaa.Bits Go.Proofs.Ytddjkejliogenaa.Field Go.Proofs.Ytddjkejliogenaa.Cap

section
set_option maxRecDepth 100000
set_option maxHeartbeats 4000000
theorem in_ok (n m : Int) (w : World) : Calls Try.prog 84 #[.int .i64 n, .int .i64 m] w fun e w' => e = .returned (.bool (inB n m)) ∧ w = w' := by
  go_enter Try.func84, Try.ntmps84
  go_wp2
  all_goals go_ret
  all_goals refine ⟨ret_bool ?_, rfl⟩
  all_goals (unfold inB; first | (symm; apply decide_eq_true; omega) | (symm; apply decide_eq_false; omega) | (rw [Bool.eq_iff_iff]; simp; omega))

theorem right_ok (k r t l e a : Int) (w : World) : Calls Try.prog 64 #[capV k r t l e a] w fun e' w' => e' = .returned (.bool (rightC k r t l e a)) ∧ Chg [] w w' := by
  have hbd := fun h => sized_bd (k := k) (r := r) (t := t) (l := l) (e := e) (a := a) h
  unfold rightC
  unfold sizedB at *
  have hI : ∀ n m w, Calls Try.prog 84 #[.int .i64 n, .int .i64 m] w fun e w' => e = .returned (.bool (inB n m)) ∧ w = w' := in_ok
  generalize inB = I at *
  have HI : Hid (∀ n m w, Calls Try.prog 84 #[.int .i64 n, .int .i64 m] w fun e w' => e = .returned (.bool (I n m)) ∧ w = w') := hI
  clear hI
  cases h0 : I k 12 with
  | false =>
    clear hbd
    go_enter Try.func64, Try.ntmps64
    go_wp2_with (go_at_call 84; refine Calls.mono (HI.out _ _ _) ?_; rintro e w1 ⟨rfl, rfl⟩)
    go_ret
    exact ⟨by simp [*], (Chg.refl [] w).alloc _⟩
  | true =>
    cases h1 : I r 32 with
    | false =>
      clear hbd
      go_enter Try.func64, Try.ntmps64
      go_wp2_with (go_at_call 84; refine Calls.mono (HI.out _ _ _) ?_; rintro e w1 ⟨rfl, rfl⟩)
      go_ret
      exact ⟨by simp [*], (Chg.refl [] w).alloc _⟩
    | true =>
      cases h2 : I t 64 with
      | false =>
        clear hbd
        go_enter Try.func64, Try.ntmps64
        go_wp2_with (go_at_call 84; refine Calls.mono (HI.out _ _ _) ?_; rintro e w1 ⟨rfl, rfl⟩)
        go_ret
        exact ⟨by simp [*], (Chg.refl [] w).alloc _⟩
      | true =>
        cases h3 : I l 64 with
        | false =>
          clear hbd
          go_enter Try.func64, Try.ntmps64
          go_wp2_with (go_at_call 84; refine Calls.mono (HI.out _ _ _) ?_; rintro e w1 ⟨rfl, rfl⟩)
          go_ret
          exact ⟨by simp [*], (Chg.refl [] w).alloc _⟩
        | true =>
          cases h4 : I e 65536 with
          | false =>
            clear hbd
            go_enter Try.func64, Try.ntmps64
            go_wp2_with (go_at_call 84; refine Calls.mono (HI.out _ _ _) ?_; rintro e w1 ⟨rfl, rfl⟩)
            go_ret
            exact ⟨by simp [*], (Chg.refl [] w).alloc _⟩
          | true =>
            cases h5 : I a 1073741825 with
            | false =>
              clear hbd
              go_enter Try.func64, Try.ntmps64
              go_wp2_with (go_at_call 84; refine Calls.mono (HI.out _ _ _) ?_; rintro e w1 ⟨rfl, rfl⟩)
              go_ret
              exact ⟨by simp [*], (Chg.refl [] w).alloc _⟩
            | true =>
              obtain ⟨⟨b0, b1⟩, ⟨b2, b3⟩, ⟨b4, b5⟩, ⟨b6, b7⟩, ⟨b8, b9⟩, ⟨b10, b11⟩⟩ := hbd (by simp [*])
              clear hbd
              simp only [Bool.true_and, Bool.and_self]
              obtain ⟨kb, ekb⟩ : ∃ kb, kindB k r t l e a = kb := ⟨_, rfl⟩
              have HKB : Hid (kindB k r t l e a = kb) := ekb
              rw [ekb]
              clear ekb
              go_enter Try.func64, Try.ntmps64
              go_wp2_with (go_at_call 84; refine Calls.mono (HI.out _ _ _) ?_; rintro e w1 ⟨rfl, rfl⟩)
              all_goals go_ret
              all_goals refine ⟨ret_bool ?_, (Chg.refl [] w).alloc _⟩
              all_goals
                have hE := HKB.out
                clear HKB HI
                unfold kindB bareB at hE
                try simp only [beq_iff_eq, beq_eq_false_iff_ne, ne_eq] at *
                rw [← hE]
                first
                  | (simp [*]; done)
                  | (rw [Bool.eq_iff_iff]; (repeat' split) <;> first | (exfalso; omega) | (simp; done) | (simp; omega))

theorem check_ok (k r t l e a : Int) (w : World) : Calls Try.prog 35 #[capV k r t l e a] w fun e' w' => e' = .returned (.int .i64 (errC (rightC k r t l e a))) ∧ Chg [] w w' := by
  obtain ⟨R, eR⟩ : ∃ R, rightC k r t l e a = R := ⟨_, rfl⟩
  have HR : Hid (∀ w, Calls Try.prog 64 #[capV k r t l e a] w fun e w' => e = .returned (.bool R) ∧ Chg [] w w') := fun w => by rw [← eR]; exact right_ok k r t l e a w
  rw [eR]
  clear eR
  have K := (Chg.refl [] w).alloc (.cells (capC k r t l e a) 44)
  cases R
  all_goals
    go_enter Try.func35, Try.ntmps35
    go_wp2_with (go_at_call 64; refine Calls.mono (HR.out _) ?_; rintro e' w1 ⟨rfl, k1⟩; replace K := K.trans k1 (by simp))
    go_ret
    exact ⟨rfl, K⟩

theorem weaken_ok (k r t l e a n : Int) (w : World) : Calls Try.prog 36 #[capV k r t l e a, .int .i64 n] w fun e' w' => e' = .returned (capV k (bits .and .i64 r n) t l e a) ∧ Chg [] w w' := by
  obtain ⟨b, eb⟩ : ∃ b, w.heap.size = b := ⟨_, rfl⟩
  go_enter Try.func36, Try.ntmps36
  go_wp2
  have B2 := (Blk.new' (g := b + 1) (w.alloc (.cells (capC k r t l e a) 44)) 44 (capC k (bits .and .i64 r n) t l e a) (by simp; omega)).alloc (.cells (capC k (bits .and .i64 r n) t l e a) 44)
  obtain ⟨q0, q1, q2, q3, q4, q5⟩ := blk6 B2
  refine ⟨rfl, capV k (bits .and .i64 r n) t l e a, ?_, rfl, (((Chg.refl [] w).alloc _).alloc _).alloc _⟩
  simp [results, go_sem, q0, q1, q2, q3, q4, q5]

theorem lives_ok (k r t l e a : Int) (w : World) : Calls Try.prog 39 #[capV k r t l e a] w fun e' w' => e' = .returned (.bool (decide (k = 5 ∨ k = 7))) ∧ Chg [] w w' := by
  go_enter Try.func39, Try.ntmps39
  go_wp2
  all_goals go_ret
  all_goals refine ⟨ret_bool ?_, (Chg.refl [] w).alloc _⟩
  all_goals first | (symm; apply decide_eq_true; omega) | (symm; apply decide_eq_false; omega) | (rw [Bool.eq_iff_iff]; simp; done) | (rw [Bool.eq_iff_iff]; simp; omega)
def holdsN (k t : Int) : Int := if 3 ≤ k ∧ k ≤ 10 then t else 0
def holdsB (k : Int) : Bool := decide (3 ≤ k ∧ k ≤ 10)
theorem holds_ok (k r t l e a : Int) (w : World) : Calls Try.prog 34 #[capV k r t l e a] w fun e' w' => e' = .returned (.tuple #[.int .i64 (holdsN k t), .bool (holdsB k)]) ∧ Chg [] w w' := by
  by_cases h : 3 ≤ k ∧ k ≤ 10
  · have e1 : holdsN k t = t := if_pos h
    have e2 : holdsB k = true := decide_eq_true h
    rw [e1, e2]
    clear e1 e2
    obtain ⟨h1, h2⟩ := h
    go_enter Try.func34, Try.ntmps34
    go_wp2
    all_goals first | (exfalso; omega) | skip
    all_goals go_ret2
    all_goals exact ⟨rfl, (Chg.refl [] w).alloc _⟩
  · have e1 : holdsN k t = 0 := if_neg h
    have e2 : holdsB k = false := decide_eq_false h
    rw [e1, e2]
    clear e1 e2
    have h' : k < 3 ∨ 10 < k := by omega
    clear h
    rcases h' with h | h
    all_goals
      go_enter Try.func34, Try.ntmps34
      go_wp2
    all_goals first | (exfalso; omega) | skip
    all_goals go_ret2
    all_goals exact ⟨rfl, (Chg.refl [] w).alloc _⟩
theorem holds_prog (k r t l e a : Int) (w : World) : Calls Try.prog 33 #[capV k r t l e a] w fun e' w' => e' = .returned (.tuple #[.int .i64 (holdsN k t), .bool (holdsB k)]) ∧ Chg [] w w' := by
  by_cases h : 3 ≤ k ∧ k ≤ 10
  · have e1 : holdsN k t = t := if_pos h
    have e2 : holdsB k = true := decide_eq_true h
    rw [e1, e2]
    clear e1 e2
    obtain ⟨h1, h2⟩ := h
    go_enter Try.func33, Try.ntmps33
    go_wp2
    all_goals first | (exfalso; omega) | skip
    all_goals go_ret2
    all_goals exact ⟨rfl, (Chg.refl [] w).alloc _⟩
  · have e1 : holdsN k t = 0 := if_neg h
    have e2 : holdsB k = false := decide_eq_false h
    rw [e1, e2]
    clear e1 e2
    have h' : k < 3 ∨ 10 < k := by omega
    clear h
    rcases h' with h | h
    all_goals
      go_enter Try.func33, Try.ntmps33
      go_wp2
    all_goals first | (exfalso; omega) | skip
    all_goals go_ret2
    all_goals exact ⟨rfl, (Chg.refl [] w).alloc _⟩
theorem lives_prog (k r t l e a : Int) (w : World) : Calls Try.prog 38 #[capV k r t l e a] w fun e' w' => e' = .returned (.bool (decide (k = 5 ∨ k = 7))) ∧ Chg [] w w' := by
  go_enter Try.func38, Try.ntmps38
  go_wp2
  all_goals go_ret
  all_goals refine ⟨ret_bool ?_, (Chg.refl [] w).alloc _⟩
  all_goals first | (symm; apply decide_eq_true; omega) | (symm; apply decide_eq_false; omega) | (rw [Bool.eq_iff_iff]; simp; done) | (rw [Bool.eq_iff_iff]; simp; omega)
end
end Go.Proofs.Ytddjkejliogenaa.CapRef
