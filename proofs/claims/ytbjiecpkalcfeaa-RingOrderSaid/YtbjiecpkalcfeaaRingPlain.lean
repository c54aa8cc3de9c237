/- A ring's events, as a list: what putting and taking do to the words. No program in sight. -/
import Derived.Test.YtbjiecpkalcfeaaRing
namespace Go.Proofs.Ytbjiecpkalcfeaa.RingPlain
open Go Go.RowKit Go.Proofs.Ytbjiecpkalcfeaa Go.Proofs.Ytbjiecpkalcfeaa.Heap Go.Proofs.Ytbjiecpkalcfeaa.HeadIs Go.Proofs.Ytbjiecpkalcfeaa.Mem Go.Proofs.Ytbjiecpkalcfeaa.Two Go.Proofs.Ytbjiecpkalcfeaa.RingWords Go.Proofs.Ytbjiecpkalcfeaa.Ring

abbrev Ev := Int × Int
def evs (es : List Ev) : List Value := es.flatMap fun e => [.int .i64 e.1, .int .i64 e.2]
theorem evs_len (es : List Ev) : (evs es).length = es.length * 2 := by
  induction es with
  | nil => rfl
  | cons e r ih =>
    have : evs (e :: r) = [.int .i64 e.1, .int .i64 e.2] ++ evs r := rfl
    rw [this, List.length_append, ih]
    simp only [List.length_cons, List.length_nil]
    omega
theorem evs_get (es : List Ev) (i : Nat) (h : i < es.length) : (evs es)[i * 2]? = some (.int .i64 (es.getD i (0, 0)).1) ∧ (evs es)[i * 2 + 1]? = some (.int .i64 (es.getD i (0, 0)).2) := by
  induction es generalizing i with
  | nil => exact absurd h (by simp)
  | cons e r ih =>
    have he : evs (e :: r) = .int .i64 e.1 :: .int .i64 e.2 :: evs r := rfl
    cases i with
    | zero => exact ⟨rfl, rfl⟩
    | succ i =>
      have := ih i (by simpa using h)
      rw [he, show (i + 1) * 2 = i * 2 + 1 + 1 by omega]
      simpa using this
theorem evs_app (es : List Ev) (e : Ev) : evs (es ++ [e]) = evs es ++ [.int .i64 e.1, .int .i64 e.2] := by simp [evs]

theorem ld_st {L : List Int} (hl : L.length = 36) {a b x : Int} (a0 : 0 ≤ a) (a1 : a < 36) (b0 : 0 ≤ b) (b1 : b < 36) : ldV 1 (stL 1 L 0 a x) 0 b = if b = a then x else ldV 1 L 0 b := by
  unfold ldV stL
  rw [if_pos ⟨by decide, by decide, b0, b1⟩, if_pos ⟨by decide, by decide, a0, a1⟩]
  rw [List.getD_eq_getElem?_getD, List.getD_eq_getElem?_getD, List.getElem?_set]
  by_cases h : b = a
  · subst h
    rw [if_pos rfl, if_pos rfl, if_pos (by simp; omega)]
    rfl
  · rw [if_neg h, if_neg (by simp; omega), if_pos ⟨by decide, by decide, b0, b1⟩]
theorem st_len {L : List Int} (hl : L.length = 36) (a x : Int) : (stL 1 L 0 a x).length = 36 := by unfold stL; split <;> simp [hl]
theorem is_st {L : List Int} (a x k : Int) (a0 : 4 ≤ a) (a1 : a < 36) : isE 1 (stL 1 L 0 a x) 0 k = isE 1 L 0 k := by
  have hs : ∀ i : Nat, i < 4 → (stL 1 L 0 a x).getD ((0 : Int).toNat * 36 + i) 0 = L.getD ((0 : Int).toNat * 36 + i) 0 := by
    intro i hi
    unfold stL
    rw [if_pos ⟨by decide, by decide, by omega, a1⟩, List.getD_eq_getElem?_getD, List.getD_eq_getElem?_getD, List.getElem?_set, if_neg (by simp; omega)]
  have e0 := hs 0 (by decide)
  have e1 := hs 1 (by decide)
  have e2 := hs 2 (by decide)
  have e3 := hs 3 (by decide)
  unfold isE ghE ghK okH
  rw [e0, e1, e2, e3]
/-- The frame's words are a ring that begins at b and holds the events es. -/
structure RG (L : List Int) (b : Int) (es : List Ev) : Prop where
  good : Ring.Good 1 L 0 b es.length
  u : U64 L
  len : L.length = 36
  word : ∀ i : Nat, i < es.length → rightE (es.getD i (0, 0)).1 (es.getD i (0, 0)).2 = true ∧ ldV 1 L 0 (14 + (b + i) % 8) = wordE (es.getD i (0, 0)).1 (es.getD i (0, 0)).2
theorem save_len {L : List Int} (hl : L.length = 36) (b c : Int) : (saveL 1 L 0 b c).length = 36 := st_len (st_len hl _ _) _ _
theorem save_ld {L : List Int} (hl : L.length = 36) (b c a : Int) (a0 : 0 ≤ a) (a1 : a < 36) : ldV 1 (saveL 1 L 0 b c) 0 a = if a = 13 then c else if a = 12 then b else ldV 1 L 0 a := by
  unfold saveL
  rw [ld_st (st_len hl _ _) (by decide) (by decide) a0 a1, ld_st hl (by decide) (by decide) a0 a1]
theorem save_is {L : List Int} (b c k : Int) : isE 1 (saveL 1 L 0 b c) 0 k = isE 1 L 0 k := by
  unfold saveL
  rw [is_st _ _ _ (by decide) (by decide), is_st _ _ _ (by decide) (by decide)]
theorem RG.put {L : List Int} {b : Int} {es : List Ev} (h : RG L b es) (h8 : es.length < 8) {k t : Int} (hR : rightE k t = true) : RG (putR 1 L 0 b es.length (wordE k t)) b (es ++ [(k, t)]) := by
  obtain ⟨⟨f0, f1, is, lb, lc, b0, b1, c0, c1⟩, u, len, word⟩ := h
  have hw := word_of hR
  have hat : 0 ≤ (b + (es.length : Int)) % 8 ∧ (b + (es.length : Int)) % 8 < 8 := by omega
  have len1 := st_len len (14 + (b + (es.length : Int)) % 8) (wordE k t)
  unfold putR
  refine ⟨⟨f0, f1, ?_, ?_, ?_, b0, b1, by omega, ?_⟩, ?_, save_len len1 _ _, ?_⟩
  · rw [save_is, is_st _ _ _ (by omega) (by omega), is]
  · rw [save_ld len1 _ _ _ (by decide) (by decide), if_neg (by decide), if_pos rfl]
  · rw [save_ld len1 _ _ _ (by decide) (by decide), if_pos rfl, List.length_append]
    simp
  · rw [List.length_append]
    simp
    omega
  · exact ((u.st _ _ hw.1 hw.2.1).st _ _ b0 (by omega)).st _ _ (by omega) (by omega)
  · intro i hi
    rw [List.length_append, List.length_singleton] at hi
    rw [save_ld len1 _ _ _ (by omega) (by omega), if_neg (by omega), if_neg (by omega), ld_st len (by omega) (by omega) (by omega) (by omega)]
    by_cases h : i < es.length
    · rw [if_neg (by omega), List.getD_eq_getElem?_getD, List.getElem?_append_left h, ← List.getD_eq_getElem?_getD]
      exact word i h
    · obtain rfl : i = es.length := by omega
      rw [if_pos rfl, List.getD_eq_getElem?_getD, List.getElem?_append_right (Nat.le_refl _), Nat.sub_self]
      exact ⟨hR, rfl⟩
theorem RG.take {L : List Int} {b : Int} {e : Ev} {es : List Ev} (h : RG L b (e :: es)) : RG (takeR 1 L 0 b ((e :: es).length : Nat)) ((b + 1) % 8) es := by
  obtain ⟨⟨f0, f1, is, lb, lc, b0, b1, c0, c1⟩, u, len, word⟩ := h
  simp only [List.length_cons] at c1 word ⊢
  unfold takeR
  refine ⟨⟨f0, f1, ?_, ?_, ?_, by omega, by omega, by omega, by omega⟩, ?_, save_len len _ _, ?_⟩
  · rw [save_is, is]
  · rw [save_ld len _ _ _ (by decide) (by decide), if_neg (by decide), if_pos rfl]
  · rw [save_ld len _ _ _ (by decide) (by decide), if_pos rfl]
    omega
  · exact (u.st _ _ (by omega) (by omega)).st _ _ (by omega) (by omega)
  · intro i hi
    have := word (i + 1) (by omega)
    rw [save_ld len _ _ _ (by omega) (by omega), if_neg (by omega), if_neg (by omega)]
    rw [show 14 + ((b + 1) % 8 + (i : Int)) % 8 = 14 + (b + ((i + 1 : Nat) : Int)) % 8 by omega]
    exact this
theorem RG.ev {L : List Int} {b : Int} {es : List Ev} (h : RG L b es) (i : Nat) (hi : i < es.length) : rightE (es.getD i (0, 0)).1 (es.getD i (0, 0)).2 = true ∧ ofOk (evW 1 L 0 b i) = true ∧ ofK (evW 1 L 0 b i) = (es.getD i (0, 0)).1 ∧ ofT (evW 1 L 0 b i) = (es.getD i (0, 0)).2 ∧ ofE (evW 1 L 0 b i) = 0 := by
  obtain ⟨h1, h2⟩ := h.word i hi
  have hw := word_of h1
  unfold evW
  rw [h2]
  refine ⟨h1, ?_, hw.2.2.1, hw.2.2.2.1, hw.2.2.2.2⟩
  have := hw.2.2.2.2
  unfold ofE at this
  split at this
  · assumption
  · omega
/-- The words of a frame made for a ring. -/
abbrev L0 : List Int := hmakeL 1 (List.replicate (36 * 1) 0) 0 6 0 false 0
theorem RG.zero : RG L0 0 [] := by
  refine ⟨⟨by decide, by decide, by decide, by decide, by decide, by decide, by decide, by decide, by decide⟩, ?_, by decide, fun i hi => absurd hi (by simp)⟩
  intro x hx
  have : x = 0 ∨ x = 6 := by
    have h : ∀ y ∈ L0, y = 0 ∨ y = 6 := by decide
    exact h x hx
  omega
end Go.Proofs.Ytbjiecpkalcfeaa.RingPlain
