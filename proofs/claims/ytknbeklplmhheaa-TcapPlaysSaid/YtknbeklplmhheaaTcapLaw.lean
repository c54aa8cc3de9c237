/- What frames' budgets are behind the acts: a plain law. -/
import Derived.Test.YtknbeklplmhheaaTcapRest
namespace Go.Proofs.Ytknbeklplmhheaa.TcapLaw
open Go Go.RowKit Go.Proofs.Ytknbeklplmhheaa Go.Proofs.Ytknbeklplmhheaa.Heap Go.Proofs.Ytknbeklplmhheaa.Mem Go.Proofs.Ytknbeklplmhheaa.Two Go.Proofs.Ytknbeklplmhheaa.Head Go.Proofs.Ytknbeklplmhheaa.HeadPut Go.Proofs.Ytknbeklplmhheaa.HeadGet Go.Proofs.Ytknbeklplmhheaa.HeadIs Go.Proofs.Ytknbeklplmhheaa.HeadBack Go.Proofs.Ytknbeklplmhheaa.Lay Go.Proofs.Ytknbeklplmhheaa.Tcap Go.Proofs.Ytknbeklplmhheaa.TcapPut Go.Proofs.Ytknbeklplmhheaa.TcapGive Go.Proofs.Ytknbeklplmhheaa.TcapRest

theorem isE_congr {n : Nat} {L M : List Int} {g k : Int} (h : ∀ i : Nat, i < 4 → ldV n M g i = ldV n L g i) : isE n M g k = isE n L g k := by
  by_cases hg : 0 ≤ g ∧ g < n
  · have w : ∀ i : Nat, i < 4 → M.getD (g.toNat * 36 + i) 0 = L.getD (g.toNat * 36 + i) 0 := fun i hi => by
      have := h i hi
      unfold ldV at this
      rw [if_pos ⟨hg.1, hg.2, by omega, by omega⟩, if_pos ⟨hg.1, hg.2, by omega, by omega⟩] at this
      simpa using this
    have ho : okH n M g = okH n L g := by
      unfold okH
      rw [w 0 (by decide), w 1 (by decide), w 2 (by decide), w 3 (by decide)]
    unfold isE ghK ghE
    rw [ho, w 0 (by decide)]
  · have h0 : ∀ M : List Int, okH n M g = false := fun M => by unfold okH; rw [decide_eq_false hg]; rfl
    unfold isE ghK ghE
    rw [h0, h0]
    simp [hg]
/-- A frame that is made leaves another frame's budget. -/
theorem make_ne {n : Nat} {L : List Int} {f g k : Int} (hl : L.length = 36 * n) (hg : g ≠ f) :
    tE n (hmakeL n L f k 0 false 0) g = tE n L g ∧ tZ n (hmakeL n L f k 0 false 0) g = tZ n L g ∧ tL n (hmakeL n L f k 0 false 0) g = tL n L g ∧ tP n (hmakeL n L f k 0 false 0) g = tP n L g := by
  have ld := fun i => make_ld_ne (k := k) hl hg i
  have ei : isE n (hmakeL n L f k 0 false 0) g 5 = isE n L g 5 := isE_congr (fun i _ => ld i)
  have e : tB n (hmakeL n L f k 0 false 0) g ↔ tB n L g := by unfold tB; rw [ld, ld, ld, ei]
  unfold tE tZ tL tP
  simp only [e, ld, ei]
  exact ⟨trivial, trivial, trivial, trivial⟩
/-- A frame holds this budget. -/
structure Ho (n : Nat) (L : List Int) (f : Int) (z : Bool) (l t : Int) : Prop where
  len : L.length = 36 * n
  u : U64 L
  e : tE n L f = 0
  z : tZ n L f = z
  l : tL n L f = l
  t : tP n L f = t
section
variable {n : Nat} {L : List Int} {f g : Int} {z z' : Bool} {l t l' t' : Int}
theorem Ho.is (h : Ho n L f z l t) : isE n L f 5 = 0 := tE_is h.e
theorem Ho.val (h : Ho n L f z l t) : 0 ≤ f ∧ f < n := isE_in h.is
theorem Ho.right (h : Ho n L f z l t) : rightC z l t = true := by
  have := t_right h.u h.e
  rw [h.z, h.l, h.t] at this
  exact this
theorem ho_make (hl : L.length = 36 * n) (hu : U64 L) (hf : 0 ≤ f ∧ f < n) (hr : rightC z l t = true) : Ho n (layL n (hmakeL n L f 5 0 false 0) f 4 [b2i z, l, t]) f z l t := by
  have h := lay3 (hmake_len hl f 5 0 false 0) (make_is hl hf (by decide)) hr
  exact ⟨lay_len _ (hmake_len hl _ _ _ _ _), lay_u64 _ (hmake_u64 hu _ _ _ _ _) (right_u64 hr), h.1, h.2.1, h.2.2.1, h.2.2.2⟩
theorem Ho.make (h : Ho n L g z' l' t') (hf : 0 ≤ f ∧ f < n) (hg : g ≠ f) (hr : rightC z l t = true) : Ho n (layL n (hmakeL n L f 5 0 false 0) f 4 [b2i z, l, t]) g z' l' t' := by
  have a := lay_ne (xs := [b2i z, l, t]) (hmake_len h.len f 5 0 false 0) hf (by simp) hg
  have b := make_ne (k := 5) h.len hg
  exact ⟨lay_len _ (hmake_len h.len _ _ _ _ _), lay_u64 _ (hmake_u64 h.u _ _ _ _ _) (right_u64 hr), a.1.trans (b.1.trans h.e), a.2.1.trans (b.2.1.trans h.z), a.2.2.1.trans (b.2.2.1.trans h.l), a.2.2.2.trans (b.2.2.2.trans h.t)⟩
theorem Ho.lay (h : Ho n L f z' l' t') (hr : rightC z l t = true) : Ho n (layL n L f 4 [b2i z, l, t]) f z l t := by
  have a := lay3 h.len h.is hr
  exact ⟨lay_len _ h.len, lay_u64 _ h.u (right_u64 hr), a.1, a.2.1, a.2.2.1, a.2.2.2⟩
theorem Ho.other (h : Ho n L g z' l' t') (hf : 0 ≤ f ∧ f < n) (hg : g ≠ f) (hr : rightC z l t = true) : Ho n (layL n L f 4 [b2i z, l, t]) g z' l' t' := by
  have a := lay_ne (xs := [b2i z, l, t]) h.len hf (by simp) hg
  exact ⟨lay_len _ h.len, lay_u64 _ h.u (right_u64 hr), a.1.trans h.e, a.2.1.trans h.z, a.2.2.1.trans h.l, a.2.2.2.trans h.t⟩
/-- What is left behind a charge. -/
def cm (z : Bool) (l k : Int) : Int := if z = true then l else if l - k < 0 then 0 else l - k
def cs (z : Bool) (l k : Int) : Bool := if z = true then false else cm z l k == 0
theorem cm_bd (z : Bool) {l k : Int} (h0 : 0 ≤ l ∧ l ≤ 1048576) (hk : 0 ≤ k) : 0 ≤ cm z l k ∧ cm z l k ≤ 1048576 := by
  unfold cm
  split
  · exact h0
  · split <;> omega
theorem cm_right (h : rightC z l t = true) {k : Int} (hk : 0 ≤ k) : rightC z (cm z l k) t = true := by
  have hb := right_bd h
  have hc := cm_bd z (k := k) ⟨hb.1, hb.2.1⟩ hk
  exact right_mk ⟨hc.1, hc.2, hb.2.2.1, hb.2.2.2.1, fun e => by unfold cm; rw [if_pos e]; exact hb.2.2.2.2 e⟩
theorem in_mk {x a b : Int} (h1 : a ≤ x) (h2 : x ≤ b) : inI x a b = true := decide_eq_true ⟨h1, h2⟩
/-- A charge, all of it. -/
theorem Ho.charge (h : Ho n L f z l t) {k : Int} (hk : 0 ≤ k ∧ k ≤ 1048576) : chE n L f k = 0 ∧ chS n L f k = cs z l k ∧ Ho n (chL n L f k) f z (cm z l k) t ∧ chL n L f k = layL n L f 4 [b2i z, cm z l k, t] := by
  have hi : inI k 0 1048576 = true := in_mk hk.1 hk.2
  have e1 : chE n L f k = 0 := by unfold chE; rw [if_pos hi]; exact h.e
  have er := cm_right h.right (k := k) hk.1
  cases z
  · have hb : chB n L f k := ⟨hi, h.e, h.z⟩
    have em : chM n L f k = cm false l k := by unfold chM cm; rw [h.l]; rfl
    have e3 : chL n L f k = layL n L f 4 [b2i false, cm false l k, t] := by
      unfold chL
      rw [if_pos hb, em, h.z, h.t]
    refine ⟨e1, ?_, ?_, e3⟩
    · unfold chS cs
      rw [if_pos hb, em]
      rfl
    · rw [e3]
      exact h.lay er
  · have hb : ¬ chB n L f k := fun q => by have := q.2.2; rw [h.z] at this; cases this
    have e3 : chL n L f k = L := by unfold chL; rw [if_neg hb]
    have e4 := lay_same h.len h.u h.e
    rw [h.z, h.l, h.t] at e4
    refine ⟨e1, ?_, ?_, ?_⟩
    · unfold chS cs
      rw [if_neg hb]
      rfl
    · rw [e3]
      exact h
    · rw [e3]
      exact e4.symm
theorem Ho.charged (h : Ho n L g z' l' t') (hf : Ho n L f z l t) (hg : g ≠ f) {k : Int} (hk : 0 ≤ k ∧ k ≤ 1048576) : Ho n (chL n L f k) g z' l' t' := by
  rw [(hf.charge hk).2.2.2]
  exact h.other hf.val hg (cm_right hf.right hk.1)
theorem cm_twice {a b : Int} (hb : 0 ≤ b) : cm z (cm z l a) b = cm z l (a + b) := by
  unfold cm
  cases z
  · simp only [Bool.false_eq_true, if_false]
    by_cases h1 : l - a < 0
    · rw [if_pos h1, if_pos (by omega : l - (a + b) < 0)]
      split <;> omega
    · rw [if_neg h1]
      by_cases h2 : l - a - b < 0
      · rw [if_pos h2, if_pos (by omega)]
      · rw [if_neg h2, if_neg (by omega)]
        omega
  · rfl
end
/-- The words of a frame that holds nothing but a budget. -/
def wd (z : Bool) (l t : Int) (i : Nat) : Int := if i = 0 then wordH 5 0 false else if i = 4 then b2i z else if i = 5 then l else if i = 6 then t else 0
def Pure (n : Nat) (L : List Int) (f : Int) (z : Bool) (l t : Int) : Prop := ∀ i : Nat, i < 36 → ldV n L f i = wd z l t i
section
variable {n : Nat} {L : List Int} {f g : Int} {z z' : Bool} {l t l' t' : Int}
theorem pure_lay (hl : L.length = 36 * n) (hf : 0 ≤ f ∧ f < n) (h : ∀ i : Nat, i < 36 → i = 4 ∨ i = 5 ∨ i = 6 ∨ ldV n L f i = wd z l t i) : Pure n (layL n L f 4 [b2i z, l, t]) f z l t := fun i hi => by
  have ld := lay_ld (n := n) hf (xs := [b2i z, l, t]) (b := 4) hl (by simp) hf (i := i) hi
  refine ld.trans ?_
  by_cases h4 : i = 4 ∨ i = 5 ∨ i = 6
  · rw [if_pos ⟨rfl, by omega, by simp; omega⟩]
    rcases h4 with rfl | rfl | rfl <;> rfl
  · rw [if_neg (by simp; omega)]
    rcases h i hi with e | e | e | e
    · exact absurd (.inl e) h4
    · exact absurd (.inr (.inl e)) h4
    · exact absurd (.inr (.inr e)) h4
    · exact e
theorem Pure.lay (h : Pure n L f z' l' t') (hl : L.length = 36 * n) (hf : 0 ≤ f ∧ f < n) : Pure n (layL n L f 4 [b2i z, l, t]) f z l t := by
  refine pure_lay hl hf (fun i hi => ?_)
  by_cases h4 : i = 4 ∨ i = 5 ∨ i = 6
  · rcases h4 with e | e | e
    · exact .inl e
    · exact .inr (.inl e)
    · exact .inr (.inr (.inl e))
  · refine .inr (.inr (.inr ?_))
    rw [h i hi]
    unfold wd
    rw [if_neg (show ¬ i = 4 by omega), if_neg (show ¬ i = 5 by omega), if_neg (show ¬ i = 6 by omega), if_neg (show ¬ i = 4 by omega), if_neg (show ¬ i = 5 by omega), if_neg (show ¬ i = 6 by omega)]
theorem Pure.other {xs : List Int} (h : Pure n L g z' l' t') (hl : L.length = 36 * n) (hf : 0 ≤ f ∧ f < n) (hx : 4 + xs.length ≤ 36) (hg : g ≠ f) : Pure n (layL n L f 4 xs) g z' l' t' := fun i hi => (ld_ne hl hf hx hg hi).trans (h i hi)
theorem pure_make (hl : L.length = 36 * n) (hf : 0 ≤ f ∧ f < n) : Pure n (layL n (hmakeL n L f 5 0 false 0) f 4 [b2i z, l, t]) f z l t := by
  refine pure_lay (hmake_len hl _ _ _ _ _) hf (fun i hi => ?_)
  by_cases h4 : 4 ≤ i
  · by_cases h7 : i = 4 ∨ i = 5 ∨ i = 6
    · rcases h7 with e | e | e
      · exact .inl e
      · exact .inr (.inl e)
      · exact .inr (.inr (.inl e))
    · refine .inr (.inr (.inr ?_))
      rw [make_ld hl hf (by decide) h4 hi]
      unfold wd
      rw [if_neg (by omega), if_neg (by omega), if_neg (by omega), if_neg (by omega)]
  · refine .inr (.inr (.inr ?_))
    have e := put_at (n := n) (cl_len hl f) (f := f) (k := 5) (l := 0) (z := false) (t := 0) hf i
    have hr5 : rightH 5 0 false 0 = true := by decide
    unfold hmakeL ldV
    rw [if_pos hr5, if_pos ⟨hf.1, hf.2, by omega, by omega⟩]
    have ei : ((i : Int)).toNat = i := by omega
    rw [ei, e]
    unfold wd
    by_cases h0 : i = 0
    · rw [if_pos h0, if_pos h0]
    · rw [if_neg h0, if_neg h0, if_neg (show ¬ i = 4 by omega), if_neg (show ¬ i = 5 by omega), if_neg (show ¬ i = 6 by omega)]
      by_cases h1 : i = 1
      · rw [if_pos h1]
      · rw [if_neg h1]
        by_cases h2 : i = 2
        · rw [if_pos h2]
        · rw [if_neg h2, if_pos (show i = 3 by omega)]
theorem Pure.make (h : Pure n L g z' l' t') (hl : L.length = 36 * n) (hf : 0 ≤ f ∧ f < n) (hg : g ≠ f) : Pure n (layL n (hmakeL n L f 5 0 false 0) f 4 [b2i z, l, t]) g z' l' t' :=
  Pure.other (fun i hi => (make_ld_ne (k := 5) hl hg i).trans (h i hi)) (hmake_len hl _ _ _ _ _) hf (by simp) hg
end
/-- Two frames of one memory with the same words. -/
theorem same_two {L : List Int} {z : Bool} {l t : Int} (hl : L.length = 36 * 2) (h0 : Pure 2 L 0 z l t) (h1 : Pure 2 L 1 z l t) : smB 2 L 0 1 = true := by
  have e : frL L (0 : Int).toNat = frL L (1 : Int).toNat := by
    have l0 := frL_len hl (f := 0) (by decide)
    have l1 := frL_len hl (f := 1) (by decide)
    apply List.ext_getElem (by show (frL L 0).length = (frL L 1).length; rw [l0, l1])
    intro i i1 i2
    have hi : i < 36 := by have : i < (frL L 0).length := i1; omega
    have a := h0 i hi
    have b := h1 i hi
    have c : ldV 2 L 0 i = ldV 2 L 1 i := a.trans b.symm
    unfold ldV at c
    rw [if_pos ⟨by decide, by decide, by omega, by omega⟩, if_pos ⟨by decide, by decide, by omega, by omega⟩] at c
    have d : (frL L 0).getD i 0 = (frL L 1).getD i 0 := by
      rw [frL_get hi, frL_get hi]
      simpa using c
    have j1 : i < (frL L 0).length := i1
    have j2 : i < (frL L 1).length := i2
    rw [List.getD_eq_getElem?_getD, List.getD_eq_getElem?_getD, List.getElem?_eq_getElem j1, List.getElem?_eq_getElem j2] at d
    exact d
  unfold smB
  rw [e]
  simp
end Go.Proofs.Ytknbeklplmhheaa.TcapLaw
