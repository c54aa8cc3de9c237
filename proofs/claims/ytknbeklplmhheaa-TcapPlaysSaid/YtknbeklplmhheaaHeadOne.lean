/- HeadOne's walk. -/
import Derived.Test.YtknbeklplmhheaaHeadPut
namespace Go.Proofs.Ytknbeklplmhheaa.HeadOne
open Go Go.RowKit Go.Proofs.Ytknbeklplmhheaa Go.Proofs.Ytknbeklplmhheaa.Heap Go.Proofs.Ytknbeklplmhheaa.Head Go.Proofs.Ytknbeklplmhheaa.HeadPut Go.Proofs.Ytknbeklplmhheaa.Mem Go.Proofs.Ytknbeklplmhheaa.Two

theorem st_len {n : Nat} {L : List Int} (hl : L.length = 36 * n) (f a x : Int) : (stL n L f a x).length = 36 * n := by
  unfold stL
  split
  · simpa using hl
  · exact hl
theorem st_getD {n : Nat} {L : List Int} (f a x : Int) (j : Nat) : (stL n L f a x).getD j 0 = L.getD j 0 ∨ (0 ≤ f ∧ f < n ∧ 0 ≤ a ∧ a < 36 ∧ j = f.toNat * 36 + a.toNat) := by
  unfold stL
  split
  · rename_i h
    by_cases e : j = f.toNat * 36 + a.toNat
    · exact .inr ⟨h.1, h.2.1, h.2.2.1, h.2.2.2, e⟩
    · left
      rw [List.getD_eq_getElem?_getD, List.getElem?_set_ne (fun q => e q.symm), ← List.getD_eq_getElem?_getD]
  · exact .inl rfl
/-- Where a head that is put turns a word. -/
theorem put_where {n : Nat} {L : List Int} {f k l t : Int} {z : Bool} {g i : Nat} (hi : i < 36) (h : ¬ (frL (hputL n L f k l z t) g).getD i 0 = (frL L g).getD i 0) : hputE n f k l z t = 0 ∧ (g : Int) = f ∧ i < 4 := by
  rw [frL_get hi, frL_get hi] at h
  unfold hputL at h
  unfold hputE
  cases hR : rightH k l z t
  · rw [hR] at h
    exact absurd rfl h
  · rw [hR, if_pos rfl] at h
    rw [if_pos rfl]
    unfold putL at h
    have key : 0 ≤ f ∧ f < n ∧ (g : Int) = f ∧ i < 4 := by
      rcases st_getD (n := n) (L := stL n (stL n (stL n L f 0 (wordH k l z)) f 1 t) f 2 0) f 3 0 (g * 36 + i) with e | ⟨a, b, _, _, e⟩
      · rw [e] at h
        rcases st_getD (n := n) (L := stL n (stL n L f 0 (wordH k l z)) f 1 t) f 2 0 (g * 36 + i) with e | ⟨a, b, _, _, e⟩
        · rw [e] at h
          rcases st_getD (n := n) (L := stL n L f 0 (wordH k l z)) f 1 t (g * 36 + i) with e | ⟨a, b, _, _, e⟩
          · rw [e] at h
            rcases st_getD (n := n) (L := L) f 0 (wordH k l z) (g * 36 + i) with e | ⟨a, b, _, _, e⟩
            · exact absurd e h
            · exact ⟨a, b, by omega, by omega⟩
          · exact ⟨a, b, by omega, by omega⟩
        · exact ⟨a, b, by omega, by omega⟩
      · exact ⟨a, b, by omega, by omega⟩
    exact ⟨if_pos ⟨key.1, key.2.1⟩, key.2.2⟩

end Go.Proofs.Ytknbeklplmhheaa.HeadOne
