/- Package thd: is, Get, Put, Make, State, Reg, Check. -/
import Derived.Test.YtknbeklplmhheaaThd
namespace Go.Proofs.Ytknbeklplmhheaa.ThdGet
open Go Go.RowKit Go.Proofs.Ytknbeklplmhheaa Go.Proofs.Ytknbeklplmhheaa.Heap Go.Proofs.Ytknbeklplmhheaa.Mem Go.Proofs.Ytknbeklplmhheaa.Two Go.Proofs.Ytknbeklplmhheaa.Head Go.Proofs.Ytknbeklplmhheaa.HeadPut Go.Proofs.Ytknbeklplmhheaa.HeadIs Go.Proofs.Ytknbeklplmhheaa.Lay Go.Proofs.Ytknbeklplmhheaa.Thd

instance (n : Nat) (L : List Int) (f : Int) : Decidable (rdT n L f) := by unfold rdT; infer_instance
/-- A frame of a kind there is. -/
theorem isE_in {n : Nat} {L : List Int} {f k : Int} (h : isE n L f k = 0) : 0 ≤ f ∧ f < n := by
  by_cases hv : 0 ≤ f ∧ f < n
  · exact hv
  · have h0 : okH n L f = false := by unfold okH; rw [decide_eq_false hv]; rfl
    unfold isE ghE at h
    rw [h0] at h
    simp [hv] at h
/-- The frame holds a thread. -/
def gB (n : Nat) (L : List Int) (f : Int) : Prop := isE n L f 4 = 0 ∧ rdT n L f
instance (n : Nat) (L : List Int) (f : Int) : Decidable (gB n L f) := by unfold gB; infer_instance
def gT (n : Nat) (L : List Int) (f i : Int) : Int := if gB n L f then ldV n L f i else 0
def gE (n : Nat) (L : List Int) (f : Int) : Int := if isE n L f 4 = 0 then (if rdT n L f then 0 else 12) else 4
def gV (n : Nat) (L : List Int) (f : Int) : Value := numV (gT n L f 4) (gT n L f 5) (gT n L f 6) (gT n L f 7) (gT n L f 8)
set_option maxRecDepth 100000
set_option maxHeartbeats 2000000
theorem is_ok {w : World} {p g n : Nat} {L : List Int} (h : MemAt w p g n L) (hu : U64 L) (f : Int) : Calls Try.prog 88 #[.pointer (some ⟨p, 0, none⟩), .int .i64 f] w fun x w' => x = .returned (.bool (decide (isE n L f 4 = 0))) ∧ Chg [] w w' := by
  have HI := HeadIs.is_ok h hu f 4
  generalize isE n L f 4 = e at *
  clear h hu
  go_enter Try.func88, Try.ntmps88
  go_wp2_with (go_at_call 79; refine Calls.mono HI ?_; rintro x w1 ⟨rfl, k1⟩)
  go_ret
  exact ⟨rfl, k1⟩
theorem get_type {w : World} {p g n : Nat} {L : List Int} (h : MemAt w p g n L) (hu : U64 L) (f : Int) (h1 : ¬ isE n L f 4 = 0) : Calls Try.prog 36 #[.pointer (some ⟨p, 0, none⟩), .int .i64 f] w fun x w' => x = .returned (.tuple #[numV 0 0 0 0 0, .int .i64 4]) ∧ Chg [] w w' := by
  have HI := fun (W : World) (q : MemAt W p g n L) => is_ok q hu f
  rw [decide_eq_false h1] at HI
  clear h1 hu
  obtain ⟨q, eq⟩ : ∃ q, w.heap.size = q := ⟨_, rfl⟩
  have Q := Blk.new' w 43 (numC 0 0 0 0 0) eq
  have hq : w.heap.size ≤ q := by omega
  replace h := h.alloc (.cells (numC 0 0 0 0 0) 43)
  have K := (Chg.refl [] w).alloc (.cells (numC 0 0 0 0 0) 43)
  go_enter Try.func36, Try.ntmps36
  go_wp2_with fail
  refine Calls.mono (HI _ h) ?_
  rintro x w1 ⟨rfl, k1⟩
  replace h := h.chg0 k1
  replace Q := Q.chg k1 (by simp)
  replace K := K.trans k1 (by simp)
  clear k1 eq HI
  clear h
  obtain ⟨q0, q1, q2, q3, q4⟩ := blk5 Q
  have f0 := Q.frozen 0
  have f1 := Q.frozen 1
  have f2 := Q.frozen 2
  have f3 := Q.frozen 3
  have f4 := Q.frozen 4
  have D := wr5_blk (d := q) Q (.int .i64 0) (.int .i64 0) (.int .i64 0) (.int .i64 0) (.int .i64 0)
  have KK := wr5_chg (d := q) K hq (.int .i64 0) (.int .i64 0) (.int .i64 0) (.int .i64 0) (.int .i64 0)
  unfold wr5 at D KK
  obtain ⟨d0, d1, d2, d3, d4⟩ := blk5 D
  go_wp2
  refine ⟨rfl, .tuple #[numV 0 0 0 0 0, .int .i64 4], ?_, rfl, KK⟩
  simp [results, go_sem, d0, d1, d2, d3, d4]
theorem get_form {w : World} {p g n : Nat} {L : List Int} (h : MemAt w p g n L) (hu : U64 L) (f : Int) (h1 : isE n L f 4 = 0) (h2 : ¬ rdT n L f) : Calls Try.prog 36 #[.pointer (some ⟨p, 0, none⟩), .int .i64 f] w fun x w' => x = .returned (.tuple #[numV 0 0 0 0 0, .int .i64 12]) ∧ Chg [] w w' := by
  have HI := fun (W : World) (q : MemAt W p g n L) => is_ok q hu f
  rw [decide_eq_true h1] at HI
  have HR : ∀ (W : World) (q : MemAt W p g n L), Calls Try.prog 89 #[.pointer (some ⟨p, 0, none⟩), .int .i64 f] W fun x w' => x = .returned (.tuple #[numV 0 0 0 0 0, .bool false]) ∧ Chg [] W w' := fun W q =>
    Calls.mono (read_ok q hu (isE_in h1)) (by rintro x w' ⟨⟨hr, _⟩ | ⟨_, hx⟩, k⟩; exact absurd hr h2; exact ⟨hx, k⟩)
  clear h1 h2 hu
  obtain ⟨q, eq⟩ : ∃ q, w.heap.size = q := ⟨_, rfl⟩
  have Q := Blk.new' w 43 (numC 0 0 0 0 0) eq
  have hq : w.heap.size ≤ q := by omega
  replace h := h.alloc (.cells (numC 0 0 0 0 0) 43)
  have K := (Chg.refl [] w).alloc (.cells (numC 0 0 0 0 0) 43)
  go_enter Try.func36, Try.ntmps36
  go_wp2_with fail
  refine Calls.mono (HI _ h) ?_
  rintro x w1 ⟨rfl, k1⟩
  replace h := h.chg0 k1
  replace Q := Q.chg k1 (by simp)
  replace K := K.trans k1 (by simp)
  clear k1 eq HI
  go_wp2_with fail
  refine Calls.mono (HR _ h) ?_
  rintro x w2 ⟨rfl, k2⟩
  clear h HR
  obtain ⟨s, es⟩ : ∃ s, w2.heap.size = s := ⟨_, rfl⟩
  replace Q := (Q.chg k2 (by simp)).alloc (.cells (numC 0 0 0 0 0) 113)
  replace K := (K.trans k2 (by simp)).alloc (.cells (numC 0 0 0 0 0) 113)
  clear k2
  obtain ⟨q0, q1, q2, q3, q4⟩ := blk5 Q
  have f0 := Q.frozen 0
  have f1 := Q.frozen 1
  have f2 := Q.frozen 2
  have f3 := Q.frozen 3
  have f4 := Q.frozen 4
  have D := wr5_blk (d := q) Q (.int .i64 0) (.int .i64 0) (.int .i64 0) (.int .i64 0) (.int .i64 0)
  have KK := wr5_chg (d := q) K hq (.int .i64 0) (.int .i64 0) (.int .i64 0) (.int .i64 0) (.int .i64 0)
  unfold wr5 at D KK
  obtain ⟨d0, d1, d2, d3, d4⟩ := blk5 D
  go_wp2
  refine ⟨rfl, .tuple #[numV 0 0 0 0 0, .int .i64 12], ?_, rfl, KK⟩
  simp [results, go_sem, d0, d1, d2, d3, d4]
theorem get_yes {w : World} {p g n : Nat} {L : List Int} (h : MemAt w p g n L) (hu : U64 L) (f : Int) (h1 : isE n L f 4 = 0) (h2 : rdT n L f) : Calls Try.prog 36 #[.pointer (some ⟨p, 0, none⟩), .int .i64 f] w fun x w' => x = .returned (.tuple #[numV (ldV n L f 4) (ldV n L f 5) (ldV n L f 6) (ldV n L f 7) (ldV n L f 8), .int .i64 0]) ∧ Chg [] w w' := by
  have HI := fun (W : World) (q : MemAt W p g n L) => is_ok q hu f
  rw [decide_eq_true h1] at HI
  have HR : ∀ (W : World) (q : MemAt W p g n L), Calls Try.prog 89 #[.pointer (some ⟨p, 0, none⟩), .int .i64 f] W fun x w' => x = .returned (.tuple #[numV (ldV n L f 4) (ldV n L f 5) (ldV n L f 6) (ldV n L f 7) (ldV n L f 8), .bool true]) ∧ Chg [] W w' := fun W q =>
    Calls.mono (read_ok q hu (isE_in h1)) (by rintro x w' ⟨⟨_, hx⟩ | ⟨hr, _⟩, k⟩; exact ⟨hx, k⟩; exact absurd h2 hr)
  clear h1 h2 hu
  generalize ldV n L f 4 = a at *
  generalize ldV n L f 5 = b at *
  generalize ldV n L f 6 = c at *
  generalize ldV n L f 7 = d at *
  generalize ldV n L f 8 = e at *
  obtain ⟨q, eq⟩ : ∃ q, w.heap.size = q := ⟨_, rfl⟩
  have Q := Blk.new' w 43 (numC 0 0 0 0 0) eq
  have hq : w.heap.size ≤ q := by omega
  replace h := h.alloc (.cells (numC 0 0 0 0 0) 43)
  have K := (Chg.refl [] w).alloc (.cells (numC 0 0 0 0 0) 43)
  go_enter Try.func36, Try.ntmps36
  go_wp2_with fail
  refine Calls.mono (HI _ h) ?_
  rintro x w1 ⟨rfl, k1⟩
  replace h := h.chg0 k1
  replace Q := Q.chg k1 (by simp)
  replace K := K.trans k1 (by simp)
  clear k1 eq HI
  go_wp2_with fail
  refine Calls.mono (HR _ h) ?_
  rintro x w2 ⟨rfl, k2⟩
  clear h HR
  obtain ⟨s, es⟩ : ∃ s, w2.heap.size = s := ⟨_, rfl⟩
  have S := Blk.new' w2 113 (numC a b c d e) es
  replace Q := (Q.chg k2 (by simp)).alloc (.cells (numC a b c d e) 113)
  replace K := (K.trans k2 (by simp)).alloc (.cells (numC a b c d e) 113)
  clear k2
  obtain ⟨s0, s1, s2, s3, s4⟩ := blk5 S
  go_wp2_with fail
  refine Calls.mono (thread_ok _ _ _ _ _ _) ?_
  rintro x w3 ⟨rfl, k3⟩
  replace Q := Q.chg k3 (by simp)
  replace K := K.trans k3 (by simp)
  clear k3 S s0 s1 s2 s3 s4
  obtain ⟨q0, q1, q2, q3, q4⟩ := blk5 Q
  have f0 := Q.frozen 0
  have f1 := Q.frozen 1
  have f2 := Q.frozen 2
  have f3 := Q.frozen 3
  have f4 := Q.frozen 4
  have D := wr5_blk (d := q) Q (.int .i64 a) (.int .i64 b) (.int .i64 c) (.int .i64 d) (.int .i64 e)
  have KK := wr5_chg (d := q) K hq (.int .i64 a) (.int .i64 b) (.int .i64 c) (.int .i64 d) (.int .i64 e)
  unfold wr5 at D KK
  obtain ⟨d0, d1, d2, d3, d4⟩ := blk5 D
  go_wp2
  refine ⟨rfl, .tuple #[numV a b c d e, .int .i64 0], ?_, rfl, KK⟩
  simp [results, go_sem, d0, d1, d2, d3, d4]
theorem get_ok {w : World} {p g n : Nat} {L : List Int} (h : MemAt w p g n L) (hu : U64 L) (f : Int) : Calls Try.prog 36 #[.pointer (some ⟨p, 0, none⟩), .int .i64 f] w fun x w' => x = .returned (.tuple #[gV n L f, .int .i64 (gE n L f)]) ∧ Chg [] w w' := by
  by_cases h1 : isE n L f 4 = 0
  · by_cases h2 : rdT n L f
    · have e : gB n L f := ⟨h1, h2⟩
      have := get_yes h hu f h1 h2
      unfold gV gT gE
      rw [if_pos e, if_pos e, if_pos e, if_pos e, if_pos e, if_pos h1, if_pos h2]
      exact this
    · have e : ¬ gB n L f := fun e => h2 e.2
      have := get_form h hu f h1 h2
      unfold gV gT gE
      rw [if_neg e, if_neg e, if_neg e, if_neg e, if_neg e, if_pos h1, if_neg h2]
      exact this
  · have e : ¬ gB n L f := fun e => h1 e.1
    have := get_type h hu f h1
    unfold gV gT gE
    rw [if_neg e, if_neg e, if_neg e, if_neg e, if_neg e, if_neg h1]
    exact this
end Go.Proofs.Ytknbeklplmhheaa.ThdGet
