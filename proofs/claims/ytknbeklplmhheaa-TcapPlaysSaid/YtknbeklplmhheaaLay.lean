/- Numbers laid one behind the other into a frame's words, and read from there. -/
import Derived.Test.YtknbeklplmhheaaHeadBack
import Derived.Test.YtknbeklplmhheaaHeadIs
namespace Go.Proofs.Ytknbeklplmhheaa.Lay
open Go Go.RowKit Go.Proofs.Ytknbeklplmhheaa Go.Proofs.Ytknbeklplmhheaa.Heap Go.Proofs.Ytknbeklplmhheaa.Mem Go.Proofs.Ytknbeklplmhheaa.Two Go.Proofs.Ytknbeklplmhheaa.Head Go.Proofs.Ytknbeklplmhheaa.HeadPut Go.Proofs.Ytknbeklplmhheaa.HeadGet Go.Proofs.Ytknbeklplmhheaa.HeadIs Go.Proofs.Ytknbeklplmhheaa.HeadBack

/-- Numbers laid from word b of a frame on. -/
def layL (n : Nat) (L : List Int) (f b : Int) : List Int → List Int
  | [] => L
  | x :: xs => layL n (stL n L f b x) f (b + 1) xs
theorem layL_snoc (n : Nat) (f x : Int) : ∀ (xs : List Int) (L : List Int) (b : Int), layL n L f b (xs ++ [x]) = stL n (layL n L f b xs) f (b + xs.length) x
  | [], L, b => by simp [layL]
  | y :: ys, L, b => by
    rw [List.cons_append, layL, layL_snoc n f x ys, layL, List.length_cons]
    congr 1
    omega
theorem lay_len {n : Nat} {f : Int} : ∀ (xs : List Int) {L : List Int} {b : Int}, L.length = 36 * n → (layL n L f b xs).length = 36 * n
  | [], _, _, h => h
  | x :: xs, _, _, h => lay_len xs (HeadOne.st_len h f _ x)
theorem lay_u64 {n : Nat} {f : Int} : ∀ (xs : List Int) {L : List Int} {b : Int}, U64 L → U64 xs → U64 (layL n L f b xs)
  | [], _, _, h, _ => h
  | x :: xs, _, _, h, hx => lay_u64 xs (h.st f _ (hx x (by simp)).1 (hx x (by simp)).2) (fun y hy => hx y (List.mem_cons_of_mem _ hy))
theorem lay_at {n : Nat} {f : Int} (hf : 0 ≤ f ∧ f < n) : ∀ (xs : List Int) {L : List Int} {b : Nat}, L.length = 36 * n → b + xs.length ≤ 36 → ∀ j, (layL n L f b xs).getD j 0 = if f.toNat * 36 + b ≤ j ∧ j < f.toNat * 36 + b + xs.length then xs.getD (j - (f.toNat * 36 + b)) 0 else L.getD j 0
  | [], L, b, _, _, j => by simp [layL]; intro _ _; omega
  | x :: xs, L, b, h, hb, j => by
    rw [List.length_cons] at hb
    have e : ((b : Int) + 1) = ((b + 1 : Nat) : Int) := by omega
    rw [layL, e, lay_at hf xs (HeadOne.st_len h f _ x) (by omega) j, st_at h ⟨hf.1, hf.2, by omega, by omega⟩, List.length_cons]
    by_cases h1 : j = f.toNat * 36 + b
    · subst h1
      rw [if_neg (by omega), if_pos (by simp), if_pos (by omega), Nat.sub_self]
      rfl
    · have hn : ¬ (j = f.toNat * 36 + (b : Int).toNat) := by simpa using h1
      by_cases h2 : f.toNat * 36 + (b + 1) ≤ j ∧ j < f.toNat * 36 + (b + 1) + xs.length
      · rw [if_pos h2, if_pos (by omega), show j - (f.toNat * 36 + b) = (j - (f.toNat * 36 + (b + 1))) + 1 by omega]
        rfl
      · rw [if_neg h2, if_neg hn, if_neg (by omega)]
/-- A word of a frame behind it. -/
theorem lay_ld {n : Nat} {f : Int} (hf : 0 ≤ f ∧ f < n) {xs L : List Int} {b : Nat} (h : L.length = 36 * n) (hb : b + xs.length ≤ 36) {g : Int} (hg : 0 ≤ g ∧ g < n) {i : Nat} (hi : i < 36) :
    ldV n (layL n L f b xs) g i = if g = f ∧ b ≤ i ∧ i < b + xs.length then xs.getD (i - b) 0 else ldV n L g i := by
  have hv : 0 ≤ g ∧ g < n ∧ (0 : Int) ≤ i ∧ (i : Int) < 36 := ⟨hg.1, hg.2, by omega, by omega⟩
  unfold ldV
  rw [if_pos hv, if_pos hv, lay_at hf xs h hb]
  simp only [Int.toNat_natCast]
  by_cases h1 : g = f ∧ b ≤ i ∧ i < b + xs.length
  · obtain ⟨rfl, h2, h3⟩ := h1
    have h4 : g.toNat * 36 + b ≤ g.toNat * 36 + i ∧ g.toNat * 36 + i < g.toNat * 36 + b + xs.length := by omega
    have h5 : g = g ∧ b ≤ i ∧ i < b + xs.length := ⟨rfl, h2, h3⟩
    rw [if_pos h4, if_pos h5]
    congr 1
    omega
  · rw [if_neg h1, if_neg]
    intro h2
    have : g.toNat = f.toNat := by omega
    exact h1 ⟨by omega, by omega, by omega⟩
/-- The head's words are not touched. -/
theorem lay_head {n : Nat} {f : Int} (hf : 0 ≤ f ∧ f < n) {xs L : List Int} {b : Nat} (h : L.length = 36 * n) (hb : b + xs.length ≤ 36) (hb4 : 4 ≤ b) (g : Int) {i : Nat} (hi : i < 4) :
    (layL n L f b xs).getD (g.toNat * 36 + i) 0 = L.getD (g.toNat * 36 + i) 0 := by
  rw [lay_at hf xs h hb, if_neg]
  omega
theorem lay_is {n : Nat} {f : Int} (hf : 0 ≤ f ∧ f < n) {xs L : List Int} {b : Nat} (h : L.length = 36 * n) (hb : b + xs.length ≤ 36) (hb4 : 4 ≤ b) (g k : Int) : isE n (layL n L f b xs) g k = isE n L g k := by
  by_cases hg : 0 ≤ g ∧ g < n
  · have w := fun i hi => lay_head hf h hb hb4 g (i := i) hi
    have ho : okH n (layL n L f b xs) g = okH n L g := by
      unfold okH
      rw [w 0 (by decide), w 1 (by decide), w 2 (by decide), w 3 (by decide)]
    unfold isE ghK ghE
    rw [ho, w 0 (by decide)]
  · have h0 : ∀ M : List Int, okH n M g = false := fun M => by unfold okH; rw [decide_eq_false hg]; rfl
    unfold isE ghK ghE
    rw [h0, h0]
    simp [hg]
/-- A frame that is made anew has this kind, and nothing but words 0 behind its head. -/
theorem make_is {n : Nat} {L : List Int} (hl : L.length = 36 * n) {f k : Int} (hf : 0 ≤ f ∧ f < n) (hk : rightH k 0 false 0 = true) : isE n (hmakeL n L f k 0 false 0) f k = 0 := by
  unfold hmakeL
  rw [if_pos hk]
  exact (put_read (cl_len hl f) hf hk).2.2.2.2.2
theorem hmake_len {n : Nat} {L : List Int} (hl : L.length = 36 * n) (f k l : Int) (z : Bool) (t : Int) : (hmakeL n L f k l z t).length = 36 * n := by
  unfold hmakeL
  split
  · exact HeadOne.st_len (HeadOne.st_len (HeadOne.st_len (HeadOne.st_len (cl_len hl f) _ _ _) _ _ _) _ _ _) _ _ _
  · exact hl
theorem make_ld {n : Nat} {L : List Int} (hl : L.length = 36 * n) {f k : Int} (hf : 0 ≤ f ∧ f < n) (hk : rightH k 0 false 0 = true) {i : Nat} (h4 : 4 ≤ i) (hi : i < 36) : ldV n (hmakeL n L f k 0 false 0) f i = 0 := by
  have h := make_rest (k := k) (l := 0) (z := false) (t := 0) hl hf h4 hi
  rw [frL_get hi] at h
  unfold hmakeL ldV
  rw [if_pos hk, if_pos ⟨hf.1, hf.2, by omega, by omega⟩]
  exact h
/-- Another frame's words behind a frame's being made. -/
theorem make_ld_ne {n : Nat} {L : List Int} (hl : L.length = 36 * n) {f k g : Int} (hfg : g ≠ f) (i : Int) : ldV n (hmakeL n L f k 0 false 0) g i = ldV n L g i := by
  unfold ldV
  by_cases hv : 0 ≤ g ∧ g < n ∧ 0 ≤ i ∧ i < 36
  · rw [if_pos hv, if_pos hv]
    unfold hmakeL
    split
    · by_cases hf : 0 ≤ f ∧ f < n
      · have hj : ∀ a : Int, 0 ≤ a ∧ a < 36 → ¬ (g.toNat * 36 + i.toNat = f.toNat * 36 + a.toNat) := fun a ha => by omega
        unfold putL
        rw [st_at (HeadOne.st_len (HeadOne.st_len (HeadOne.st_len (cl_len hl f) _ _ _) _ _ _) _ _ _) ⟨hf.1, hf.2, by decide, by decide⟩, if_neg (hj 3 (by decide)), st_at (HeadOne.st_len (HeadOne.st_len (cl_len hl f) _ _ _) _ _ _) ⟨hf.1, hf.2, by decide, by decide⟩, if_neg (hj 2 (by decide)), st_at (HeadOne.st_len (cl_len hl f) _ _ _) ⟨hf.1, hf.2, by decide, by decide⟩, if_neg (hj 1 (by decide)), st_at (cl_len hl f) ⟨hf.1, hf.2, by decide, by decide⟩, if_neg (hj 0 (by decide))]
        unfold clL
        rw [if_pos hf, setF_get hl (by omega) (by simp), if_neg (by omega)]
      · unfold putL stL
        have hn : ∀ a : Int, ¬ (0 ≤ f ∧ f < n ∧ 0 ≤ a ∧ a < 36) := fun a h => hf ⟨h.1, h.2.1⟩
        rw [if_neg (hn _), if_neg (hn _), if_neg (hn _), if_neg (hn _), clL_no hf]
    · rfl
  · rw [if_neg hv, if_neg hv]
/-- A row that is filled one by one. -/
def fill (vs : List Int) (j : Nat) : List Int := vs.take j ++ List.replicate (vs.length - j) 0
theorem fill_len (vs : List Int) (j : Nat) : (fill vs j).length = vs.length := by unfold fill; simp; omega
theorem fill_zero (vs : List Int) : fill vs 0 = List.replicate vs.length 0 := by simp [fill]
theorem fill_all (vs : List Int) : fill vs vs.length = vs := by simp [fill]
theorem fill_set {vs : List Int} {j : Nat} (h : j < vs.length) : (fill vs j).set j (vs.getD j 0) = fill vs (j + 1) := by
  apply List.ext_getElem?
  intro i
  unfold fill
  rw [List.getElem?_set]
  have hl : (vs.take j).length = j := by simp; omega
  have hl1 : (vs.take (j + 1)).length = j + 1 := by simp; omega
  by_cases hi : j = i
  · subst hi
    rw [if_pos rfl, if_pos (by simp; omega), List.getElem?_append_left (by omega), List.getElem?_take_of_lt (by omega), List.getD_eq_getElem?_getD, List.getElem?_eq_getElem h]
    rfl
  · rw [if_neg hi]
    rcases Nat.lt_or_ge i j with h1 | h1
    · rw [List.getElem?_append_left (by omega), List.getElem?_append_left (by omega), List.getElem?_take_of_lt h1, List.getElem?_take_of_lt (by omega)]
    · rw [List.getElem?_append_right (by omega), List.getElem?_append_right (by omega), hl, hl1, List.getElem?_replicate, List.getElem?_replicate]
      by_cases h2 : i - j < vs.length - j
      · rw [if_pos h2, if_pos (by omega)]
      · rw [if_neg h2, if_neg (by omega)]
end Go.Proofs.Ytknbeklplmhheaa.Lay
