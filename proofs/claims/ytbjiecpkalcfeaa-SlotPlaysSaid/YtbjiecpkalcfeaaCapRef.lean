/- What package palanquinref09 does with a capability. -/
import Derived.Test.YtbjiecpkalcfeaaCap
namespace Go.Proofs.Ytbjiecpkalcfeaa.CapRef
open Go Go.RowKit Go.Proofs.Ytbjiecpkalcfeaa Go.Proofs.Ytbjiecpkalcfeaa.Heap Go.Proofs.Ytbjiecpkalcfeaa.Bits Go.Proofs.Ytbjiecpkalcfeaa.Field Go.Proofs.Ytbjiecpkalcfeaa.Cap

section
set_option maxRecDepth 100000
set_option maxHeartbeats 4000000
theorem in_ok (n m : Int) (w : World) : Calls Try.prog 109 #[.int .i64 n, .int .i64 m] w fun e w' => e = .returned (.bool (inB n m)) ∧ w = w' := by
  go_enter Try.func109, Try.ntmps109
  go_wp2
  all_goals go_ret
  all_goals refine ⟨ret_bool ?_, rfl⟩
  all_goals (unfold inB; first | (symm; apply decide_eq_true; omega) | (symm; apply decide_eq_false; omega) | (rw [Bool.eq_iff_iff]; simp; omega))

theorem right_ok (k r t l e a : Int) (w : World) : Calls Try.prog 95 #[capV k r t l e a] w fun e' w' => e' = .returned (.bool (rightC k r t l e a)) ∧ Chg [] w w' := by
  have hbd := fun h => sized_bd (k := k) (r := r) (t := t) (l := l) (e := e) (a := a) h
  unfold rightC
  unfold sizedB at *
  have hI : ∀ n m w, Calls Try.prog 109 #[.int .i64 n, .int .i64 m] w fun e w' => e = .returned (.bool (inB n m)) ∧ w = w' := in_ok
  generalize inB = I at *
  have HI : Hid (∀ n m w, Calls Try.prog 109 #[.int .i64 n, .int .i64 m] w fun e w' => e = .returned (.bool (I n m)) ∧ w = w') := hI
  clear hI
  cases h0 : I k 12 with
  | false =>
    clear hbd
    go_enter Try.func95, Try.ntmps95
    go_wp2_with (go_at_call 109; refine Calls.mono (HI.out _ _ _) ?_; rintro e w1 ⟨rfl, rfl⟩)
    go_ret
    exact ⟨by simp [*], (Chg.refl [] w).alloc _⟩
  | true =>
    cases h1 : I r 32 with
    | false =>
      clear hbd
      go_enter Try.func95, Try.ntmps95
      go_wp2_with (go_at_call 109; refine Calls.mono (HI.out _ _ _) ?_; rintro e w1 ⟨rfl, rfl⟩)
      go_ret
      exact ⟨by simp [*], (Chg.refl [] w).alloc _⟩
    | true =>
      cases h2 : I t 64 with
      | false =>
        clear hbd
        go_enter Try.func95, Try.ntmps95
        go_wp2_with (go_at_call 109; refine Calls.mono (HI.out _ _ _) ?_; rintro e w1 ⟨rfl, rfl⟩)
        go_ret
        exact ⟨by simp [*], (Chg.refl [] w).alloc _⟩
      | true =>
        cases h3 : I l 64 with
        | false =>
          clear hbd
          go_enter Try.func95, Try.ntmps95
          go_wp2_with (go_at_call 109; refine Calls.mono (HI.out _ _ _) ?_; rintro e w1 ⟨rfl, rfl⟩)
          go_ret
          exact ⟨by simp [*], (Chg.refl [] w).alloc _⟩
        | true =>
          cases h4 : I e 65536 with
          | false =>
            clear hbd
            go_enter Try.func95, Try.ntmps95
            go_wp2_with (go_at_call 109; refine Calls.mono (HI.out _ _ _) ?_; rintro e w1 ⟨rfl, rfl⟩)
            go_ret
            exact ⟨by simp [*], (Chg.refl [] w).alloc _⟩
          | true =>
            cases h5 : I a 1073741825 with
            | false =>
              clear hbd
              go_enter Try.func95, Try.ntmps95
              go_wp2_with (go_at_call 109; refine Calls.mono (HI.out _ _ _) ?_; rintro e w1 ⟨rfl, rfl⟩)
              go_ret
              exact ⟨by simp [*], (Chg.refl [] w).alloc _⟩
            | true =>
              obtain ⟨⟨b0, b1⟩, ⟨b2, b3⟩, ⟨b4, b5⟩, ⟨b6, b7⟩, ⟨b8, b9⟩, ⟨b10, b11⟩⟩ := hbd (by simp [*])
              clear hbd
              simp only [Bool.true_and, Bool.and_self]
              obtain ⟨kb, ekb⟩ : ∃ kb, kindB k r t l e a = kb := ⟨_, rfl⟩
              have HKB : Hid (kindB k r t l e a = kb) := ekb
              rw [ekb]
              clear ekb
              go_enter Try.func95, Try.ntmps95
              go_wp2_with (go_at_call 109; refine Calls.mono (HI.out _ _ _) ?_; rintro e w1 ⟨rfl, rfl⟩)
              all_goals go_ret
              all_goals refine ⟨ret_bool ?_, (Chg.refl [] w).alloc _⟩
              all_goals
                have hE := HKB.out
                clear HKB HI
                unfold kindB bareB at hE
                try simp only [beq_iff_eq, beq_eq_false_iff_ne, ne_eq] at *
                rw [← hE]
                first
                  | (simp [*]; done)
                  | (rw [Bool.eq_iff_iff]; (repeat' split) <;> first | (exfalso; omega) | (simp; done) | (simp; omega))

def holdsN (k t : Int) : Int := if 3 ≤ k ∧ k ≤ 10 then t else 0
def holdsB (k : Int) : Bool := decide (3 ≤ k ∧ k ≤ 10)
end
end Go.Proofs.Ytbjiecpkalcfeaa.CapRef
