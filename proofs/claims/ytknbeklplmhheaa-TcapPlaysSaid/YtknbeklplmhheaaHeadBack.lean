/- HeadBack's walk. -/
import Derived.Test.YtknbeklplmhheaaHeadIs
import Derived.Test.YtknbeklplmhheaaHeadOne
namespace Go.Proofs.Ytknbeklplmhheaa.HeadBack
open Go Go.RowKit Go.Proofs.Ytknbeklplmhheaa Go.Proofs.Ytknbeklplmhheaa.Heap Go.Proofs.Ytknbeklplmhheaa.Head Go.Proofs.Ytknbeklplmhheaa.HeadPut Go.Proofs.Ytknbeklplmhheaa.HeadGet Go.Proofs.Ytknbeklplmhheaa.HeadIs Go.Proofs.Ytknbeklplmhheaa.Mem Go.Proofs.Ytknbeklplmhheaa.Two

theorem st_at {n : Nat} {L : List Int} (hl : L.length = 36 * n) {f a x : Int} (hv : 0 ≤ f ∧ f < n ∧ 0 ≤ a ∧ a < 36) (j : Nat) : (stL n L f a x).getD j 0 = if j = f.toNat * 36 + a.toNat then x else L.getD j 0 := by
  unfold stL
  rw [if_pos hv]
  by_cases e : j = f.toNat * 36 + a.toNat
  · subst e
    rw [if_pos rfl, List.getD_eq_getElem?_getD, List.getElem?_set_self (by omega)]
    rfl
  · rw [if_neg e, List.getD_eq_getElem?_getD, List.getElem?_set_ne (fun q => e q.symm), ← List.getD_eq_getElem?_getD]
/-- A frame's words behind a right head's being put. -/
theorem put_at {n : Nat} {L : List Int} (hl : L.length = 36 * n) {f k l t : Int} {z : Bool} (hv : 0 ≤ f ∧ f < n) (i : Nat) : (putL n L f k l z t).getD (f.toNat * 36 + i) 0 = if i = 0 then wordH k l z else if i = 1 then t else if i = 2 then 0 else if i = 3 then 0 else L.getD (f.toNat * 36 + i) 0 := by
  have l1 := HeadOne.st_len hl f 0 (wordH k l z)
  have l2 := HeadOne.st_len l1 f 1 t
  have l3 := HeadOne.st_len l2 f 2 0
  unfold putL
  rw [st_at l3 ⟨hv.1, hv.2, by decide, by decide⟩, st_at l2 ⟨hv.1, hv.2, by decide, by decide⟩, st_at l1 ⟨hv.1, hv.2, by decide, by decide⟩, st_at hl ⟨hv.1, hv.2, by decide, by decide⟩]
  have e0 : (f.toNat * 36 + i = f.toNat * 36 + (0 : Int).toNat) ↔ i = 0 := by simp
  have e1 : (f.toNat * 36 + i = f.toNat * 36 + (1 : Int).toNat) ↔ i = 1 := by simp
  have e2 : (f.toNat * 36 + i = f.toNat * 36 + (2 : Int).toNat) ↔ i = 2 := by simp
  have e3 : (f.toNat * 36 + i = f.toNat * 36 + (3 : Int).toNat) ↔ i = 3 := by simp
  simp only [e0, e1, e2, e3]
  by_cases h0 : i = 0
  · subst h0; simp
  · by_cases h1 : i = 1
    · subst h1; simp
    · by_cases h2 : i = 2
      · subst h2; simp
      · by_cases h3 : i = 3
        · subst h3; simp
        · simp [h0, h1, h2, h3]
theorem put_u64 {n : Nat} {L : List Int} (hu : U64 L) {f k l t : Int} {z : Bool} (h : rightH k l z t = true) : U64 (putL n L f k l z t) := by
  obtain ⟨a, b, c, d, e, g⟩ := right_bd h
  have hb := b2i_bd z
  unfold putL
  have hw : 0 ≤ wordH k l z ∧ wordH k l z < 64 := by unfold wordH; omega
  exact (((hu.st f 0 (by omega) (by omega)).st f 1 e (by omega)).st f 2 (by decide) (by decide)).st f 3 (by decide) (by decide)
/-- What is read behind a right head's being put. -/
theorem put_read {n : Nat} {L : List Int} (hl : L.length = 36 * n) {f k l t : Int} {z : Bool} (hv : 0 ≤ f ∧ f < n) (h : rightH k l z t = true) :
    ghK n (putL n L f k l z t) f = k ∧ ghL n (putL n L f k l z t) f = l ∧ ghZ n (putL n L f k l z t) f = z ∧ ghT n (putL n L f k l z t) f = t ∧ ghE n (putL n L f k l z t) f = 0 ∧ isE n (putL n L f k l z t) f k = 0 := by
  obtain ⟨a, b, c, d, e, g⟩ := right_bd h
  have hb := b2i_bd z
  have p0 : (putL n L f k l z t).getD (f.toNat * 36 + 0) 0 = wordH k l z := by rw [put_at hl hv, if_pos rfl]
  have p1 : (putL n L f k l z t).getD (f.toNat * 36 + 1) 0 = t := by rw [put_at hl hv]; rfl
  have p2 : (putL n L f k l z t).getD (f.toNat * 36 + 2) 0 = 0 := by rw [put_at hl hv]; rfl
  have p3 : (putL n L f k l z t).getD (f.toNat * 36 + 3) 0 = 0 := by rw [put_at hl hv]; rfl
  have w0 : wordH k l z % 16 = k := by unfold wordH; omega
  have w1 : wordH k l z / 16 % 2 = l := by unfold wordH; omega
  have w2 : (wordH k l z / 32 % 2 == 1) = z := by
    have : wordH k l z / 32 % 2 = b2i z := by unfold wordH; omega
    rw [this]
    cases z <;> rfl
  have hok : okH n (putL n L f k l z t) f = true := by
    unfold okH ofOk
    rw [p0, p1, p2, p3, decide_eq_true hv, w0, w1, w2, h, decide_eq_true (by unfold wordH; omega)]
    rfl
  have e1 : ghK n (putL n L f k l z t) f = k := by unfold ghK; rw [if_pos hok, p0, w0]
  exact ⟨e1, by unfold ghL; rw [if_pos hok, p0, w1], by unfold ghZ; rw [if_pos hok, p0, w2], by unfold ghT; rw [if_pos hok, p1], by unfold ghE; rw [if_pos hok], by unfold isE; rw [if_pos hok, if_pos e1]⟩
theorem hput_u64 {n : Nat} {L : List Int} (hu : U64 L) (f k l t : Int) (z : Bool) : U64 (hputL n L f k l z t) := by
  unfold hputL
  split
  · exact put_u64 hu (by assumption)
  · exact hu
theorem hmake_u64 {n : Nat} {L : List Int} (hu : U64 L) (f k l t : Int) (z : Bool) : U64 (hmakeL n L f k l z t) := by
  unfold hmakeL
  split
  · exact put_u64 (hu.cl f) (by assumption)
  · exact hu
theorem cl_len {n : Nat} {L : List Int} (hl : L.length = 36 * n) (f : Int) : (clL n L f).length = 36 * n := by
  unfold clL
  split
  · exact setF_len hl (by omega) List.length_replicate
  · exact hl
theorem make_rest {n : Nat} {L : List Int} (hl : L.length = 36 * n) {f k l t : Int} {z : Bool} (hv : 0 ≤ f ∧ f < n) {i : Nat} (h4 : 4 ≤ i) (hi : i < 36) : (frL (putL n (clL n L f) f k l z t) f.toNat).getD i 0 = 0 := by
  rw [frL_get hi, put_at (cl_len hl f) hv, if_neg (by omega), if_neg (by omega), if_neg (by omega), if_neg (by omega)]
  unfold clL
  rw [if_pos hv, setF_get hl (by omega) List.length_replicate, if_pos (by omega), List.getD_eq_getElem?_getD, List.getElem?_replicate]
  split <;> rfl

end Go.Proofs.Ytknbeklplmhheaa.HeadBack
