/- CapUnder's walk. -/
import Derived.Test.YtbjiecpkalcfeaaCap
namespace Go.Proofs.Ytbjiecpkalcfeaa.CapUnder
open Go Go.RowKit Go.Proofs.Ytbjiecpkalcfeaa Go.Proofs.Ytbjiecpkalcfeaa.Heap Go.Proofs.Ytbjiecpkalcfeaa.Bits Go.Proofs.Ytbjiecpkalcfeaa.Field Go.Proofs.Ytbjiecpkalcfeaa.Cap

section
set_option maxRecDepth 100000
set_option maxHeartbeats 1000000
theorem under_self {k r t l e a : Int} (h : rightC k r t l e a = true) (hk : 1 < k) : underB k r t l e a k r t l e a = true := by
  unfold underB restB withinB
  rw [h, Bits64.andNot_self]
  simp [hk]
theorem right_part {k r t l e a n : Int} (h : rightC k r t l e a = true) (hk : 1 < k) : rightC k (bits .and .i64 r n) t l e a = true := by
  have hs := sized_bd (right_sized h)
  have hz := Bits64.and_le (p := r) (r := n) (by omega) (by omega)
  unfold rightC at *
  rw [Bool.and_eq_true] at *
  refine ⟨?_, ?_⟩
  · unfold sizedB inB; simp; omega
  · have h2 := h.2
    unfold kindB at *
    rw [if_neg (by omega), if_neg (by omega)] at *
    exact h2
theorem under_part {k r t l e a n : Int} (h : rightC k r t l e a = true) (hk : 1 < k) : underB k (bits .and .i64 r n) t l e a k r t l e a = true := by
  unfold underB restB withinB
  rw [h, right_part h hk, Bits64.andNot_self_part]
  simp [hk]
theorem under_facts {k r t l e a k' r' t' l' e' a' : Int} (h : underB k r t l e a k' r' t' l' e' a' = true) : rightC k r t l e a = true ∧ rightC k' r' t' l' e' a' = true ∧ 1 < k ∧ k = k' ∧ bits .andNot .i64 r r' = 0 ∧ restB k t l e a t' l' e' a' = true := by
  unfold underB at h
  simp only [Bool.and_eq_true, decide_eq_true_eq, beq_iff_eq] at h
  obtain ⟨⟨⟨⟨⟨h0, h1⟩, h2⟩, h3⟩, h4⟩, h5⟩ := h
  exact ⟨h0, h1, h2, h3, h4, h5⟩
theorem under_trans {k r t l e a k' r' t' l' e' a' k2 r2 t2 l2 e2 a2 : Int} (h : underB k r t l e a k' r' t' l' e' a' = true) (h' : underB k' r' t' l' e' a' k2 r2 t2 l2 e2 a2 = true) : underB k r t l e a k2 r2 t2 l2 e2 a2 = true := by
  obtain ⟨p0, p1, p2, rfl, p4, p5⟩ := under_facts h
  obtain ⟨q0, q1, q2, rfl, q4, q5⟩ := under_facts h'
  unfold underB
  rw [p0, q1, Bits64.andNot_trans p4 q4]
  have : restB k t l e a t2 l2 e2 a2 = true := by
    unfold restB withinB at *
    split at p5
    · rename_i hk
      rw [if_pos hk] at q5 ⊢
      have := of_decide_eq_true p5
      have := of_decide_eq_true q5
      exact decide_eq_true (by omega)
    · rename_i hk
      rw [if_neg hk] at q5 ⊢
      have := of_decide_eq_true p5
      have := of_decide_eq_true q5
      exact decide_eq_true (by omega)
  rw [this]
  simp [p2]

end
end Go.Proofs.Ytbjiecpkalcfeaa.CapUnder
