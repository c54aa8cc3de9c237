/- What a frame's numbers and registers are behind the acts on a thread: a plain law. -/
import Derived.Test.YtknbeklplmhheaaThdRegs
namespace Go.Proofs.Ytknbeklplmhheaa.ThdLaw
open Go Go.RowKit Go.Proofs.Ytknbeklplmhheaa Go.Proofs.Ytknbeklplmhheaa.Heap Go.Proofs.Ytknbeklplmhheaa.Mem Go.Proofs.Ytknbeklplmhheaa.Two Go.Proofs.Ytknbeklplmhheaa.Head Go.Proofs.Ytknbeklplmhheaa.HeadPut Go.Proofs.Ytknbeklplmhheaa.HeadIs Go.Proofs.Ytknbeklplmhheaa.Lay Go.Proofs.Ytknbeklplmhheaa.Thd Go.Proofs.Ytknbeklplmhheaa.ThdGet Go.Proofs.Ytknbeklplmhheaa.ThdPut Go.Proofs.Ytknbeklplmhheaa.ThdRegs

/-- A frame that holds these numbers. -/
structure Holds (n : Nat) (L : List Int) (f a b c d e : Int) : Prop where
  len : L.length = 36 * n
  u : U64 L
  is : isE n L f 4 = 0
  ev : gE n L f = 0
  v : gV n L f = numV a b c d e
theorem holds_of {n : Nat} {L : List Int} {f a b c d e : Int} (hl : L.length = 36 * n) (hu : U64 L) (hi : isE n L f 4 = 0) (hr : rightT a b c d e = true)
    (h4 : ldV n L f 4 = a) (h5 : ldV n L f 5 = b) (h6 : ldV n L f 6 = c) (h7 : ldV n L f 7 = d) (h8 : ldV n L f 8 = e) : Holds n L f a b c d e := by
  have hb := of_decide_eq_true hr
  have hrd : rdT n L f := by unfold rdT; omega
  have hg : gB n L f := ⟨hi, hrd⟩
  refine ⟨hl, hu, hi, ?_, ?_⟩
  · unfold gE; rw [if_pos hi, if_pos hrd]
  · unfold gV gT
    rw [if_pos hg, if_pos hg, if_pos hg, if_pos hg, if_pos hg, h4, h5, h6, h7, h8]
theorem lay5 {n : Nat} {L : List Int} {f a b c d e : Int} (hl : L.length = 36 * n) (hu : U64 L) (hi : isE n L f 4 = 0) (hr : rightT a b c d e = true) : Holds n (layL n L f 4 [a, b, c, d, e]) f a b c d e := by
  have hf := isE_in hi
  have ld := fun (i : Nat) (h : i < 36) => lay_ld (n := n) hf (xs := [a, b, c, d, e]) (b := 4) hl (by simp) hf (i := i) h
  refine holds_of (lay_len _ hl) (lay_u64 _ hu (right_u64 hr)) ?_ hr ?_ ?_ ?_ ?_ ?_
  · rw [show (4 : Int) = ((4 : Nat) : Int) from rfl, lay_is hf hl (by simp) (by decide)]
    exact hi
  · exact (ld 4 (by decide)).trans (if_pos ⟨rfl, by simp, by simp⟩)
  · exact (ld 5 (by decide)).trans (if_pos ⟨rfl, by simp, by simp⟩)
  · exact (ld 6 (by decide)).trans (if_pos ⟨rfl, by simp, by simp⟩)
  · exact (ld 7 (by decide)).trans (if_pos ⟨rfl, by simp, by simp⟩)
  · exact (ld 8 (by decide)).trans (if_pos ⟨rfl, by simp, by simp⟩)
theorem make5 {n : Nat} {L : List Int} {f a b c d e : Int} (hl : L.length = 36 * n) (hu : U64 L) (hf : 0 ≤ f ∧ f < n) (hr : rightT a b c d e = true) : Holds n (layL n (hmakeL n L f 4 0 false 0) f 4 [a, b, c, d, e]) f a b c d e :=
  lay5 (hmake_len hl _ _ _ _ _) (HeadBack.hmake_u64 hu _ _ _ _ _) (make_is hl hf (by decide)) hr
theorem put5 {n : Nat} {L : List Int} {f a b c d e : Int} (h : Holds n L f a b c d e) {a' b' c' d' e' : Int} (hr : rightT a' b' c' d' e' = true) : Holds n (layL n L f 4 [a', b', c', d', e']) f a' b' c' d' e' := lay5 h.len h.u h.is hr
/-- Registers are laid. -/
theorem regs8 {n : Nat} {L R : List Int} {f a b c d e : Int} (h : Holds n L f a b c d e) (hR : R.length = 8) (uR : U64 R) : Holds n (layL n L f 9 R) f a b c d e ∧ ldR n (layL n L f 9 R) f = R := by
  have hf := isE_in h.is
  have ld := fun (i : Nat) (hi : i < 36) => lay_ld (n := n) hf (xs := R) (b := 9) h.len (by omega) hf (i := i) hi
  have e4 : ldV n (layL n L f 9 R) f 4 = ldV n L f 4 := (ld 4 (by decide)).trans (if_neg (by omega))
  have e5 : ldV n (layL n L f 9 R) f 5 = ldV n L f 5 := (ld 5 (by decide)).trans (if_neg (by omega))
  have e6 : ldV n (layL n L f 9 R) f 6 = ldV n L f 6 := (ld 6 (by decide)).trans (if_neg (by omega))
  have e7 : ldV n (layL n L f 9 R) f 7 = ldV n L f 7 := (ld 7 (by decide)).trans (if_neg (by omega))
  have e8 : ldV n (layL n L f 9 R) f 8 = ldV n L f 8 := (ld 8 (by decide)).trans (if_neg (by omega))
  have ei : isE n (layL n L f 9 R) f 4 = isE n L f 4 := by
    rw [show (9 : Int) = ((9 : Nat) : Int) from rfl, lay_is hf h.len (by omega) (by decide)]
  have erd : rdT n (layL n L f 9 R) f ↔ rdT n L f := by unfold rdT; rw [e4, e5, e6, e7, e8]
  have eg : gB n (layL n L f 9 R) f ↔ gB n L f := by unfold gB; rw [ei, erd]
  refine ⟨⟨lay_len _ h.len, lay_u64 _ h.u uR, ei.trans h.is, ?_, ?_⟩, ?_⟩
  · have := h.ev
    unfold gE at this ⊢
    simp only [ei, erd]
    exact this
  · have := h.v
    unfold gV gT at this ⊢
    simp only [eg, e4, e5, e6, e7, e8]
    exact this
  · obtain ⟨r0, r1, r2, r3, r4, r5, r6, r7, rfl⟩ := Regs.list8 hR
    have x0 : ldV n (layL n L f 9 [r0, r1, r2, r3, r4, r5, r6, r7]) f 9 = r0 := (ld 9 (by decide)).trans (if_pos ⟨rfl, by simp, by simp⟩)
    have x1 : ldV n (layL n L f 9 [r0, r1, r2, r3, r4, r5, r6, r7]) f 10 = r1 := (ld 10 (by decide)).trans (if_pos ⟨rfl, by simp, by simp⟩)
    have x2 : ldV n (layL n L f 9 [r0, r1, r2, r3, r4, r5, r6, r7]) f 11 = r2 := (ld 11 (by decide)).trans (if_pos ⟨rfl, by simp, by simp⟩)
    have x3 : ldV n (layL n L f 9 [r0, r1, r2, r3, r4, r5, r6, r7]) f 12 = r3 := (ld 12 (by decide)).trans (if_pos ⟨rfl, by simp, by simp⟩)
    have x4 : ldV n (layL n L f 9 [r0, r1, r2, r3, r4, r5, r6, r7]) f 13 = r4 := (ld 13 (by decide)).trans (if_pos ⟨rfl, by simp, by simp⟩)
    have x5 : ldV n (layL n L f 9 [r0, r1, r2, r3, r4, r5, r6, r7]) f 14 = r5 := (ld 14 (by decide)).trans (if_pos ⟨rfl, by simp, by simp⟩)
    have x6 : ldV n (layL n L f 9 [r0, r1, r2, r3, r4, r5, r6, r7]) f 15 = r6 := (ld 15 (by decide)).trans (if_pos ⟨rfl, by simp, by simp⟩)
    have x7 : ldV n (layL n L f 9 [r0, r1, r2, r3, r4, r5, r6, r7]) f 16 = r7 := (ld 16 (by decide)).trans (if_pos ⟨rfl, by simp, by simp⟩)
    unfold ldR
    rw [x0, x1, x2, x3, x4, x5, x6, x7]
/-- Numbers that are laid leave the registers. -/
theorem put_regs {n : Nat} {L : List Int} {f a b c d e : Int} (hl : L.length = 36 * n) (hf : 0 ≤ f ∧ f < n) : ldR n (layL n L f 4 [a, b, c, d, e]) f = ldR n L f := by
  have ld := fun (i : Nat) (hi : i < 36) => lay_ld (n := n) hf (xs := [a, b, c, d, e]) (b := 4) hl (by simp) hf (i := i) hi
  have x0 : ldV n (layL n L f 4 [a, b, c, d, e]) f 9 = ldV n L f 9 := (ld 9 (by decide)).trans (if_neg (by simp))
  have x1 : ldV n (layL n L f 4 [a, b, c, d, e]) f 10 = ldV n L f 10 := (ld 10 (by decide)).trans (if_neg (by simp))
  have x2 : ldV n (layL n L f 4 [a, b, c, d, e]) f 11 = ldV n L f 11 := (ld 11 (by decide)).trans (if_neg (by simp))
  have x3 : ldV n (layL n L f 4 [a, b, c, d, e]) f 12 = ldV n L f 12 := (ld 12 (by decide)).trans (if_neg (by simp))
  have x4 : ldV n (layL n L f 4 [a, b, c, d, e]) f 13 = ldV n L f 13 := (ld 13 (by decide)).trans (if_neg (by simp))
  have x5 : ldV n (layL n L f 4 [a, b, c, d, e]) f 14 = ldV n L f 14 := (ld 14 (by decide)).trans (if_neg (by simp))
  have x6 : ldV n (layL n L f 4 [a, b, c, d, e]) f 15 = ldV n L f 15 := (ld 15 (by decide)).trans (if_neg (by simp))
  have x7 : ldV n (layL n L f 4 [a, b, c, d, e]) f 16 = ldV n L f 16 := (ld 16 (by decide)).trans (if_neg (by simp))
  unfold ldR
  rw [x0, x1, x2, x3, x4, x5, x6, x7]
end Go.Proofs.Ytknbeklplmhheaa.ThdLaw
