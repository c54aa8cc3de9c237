/- How arguments read: a slice of numbers among the arguments, as cells in memory. No program in sight. -/
import Derived.Test.YtknbeklplmhheaaHeap
import Derived.SizedLaws
import Derived.ChangeSlices
import Derived.ProofKit
import Derived.Carry
namespace Go.Proofs.Ytknbeklplmhheaa.Open
open Go Go.RowKit Go.ChangeShapes Go.WideShapes Go.Proofs.Ytknbeklplmhheaa.Heap

/-- An argument that is a slice of whole numbers: its numbers, each of its kind, and no more bytes than can be. -/
theorem open_nums {H : Type} {enc : TypeId × Value → H} {P : Program} {W : World} {base : Nat} {spare : Nat → Bool} {held : Bool} {t e : TypeId} {k : IntKind} {a : Option Addr} {len cap : Nat} {d : DataW H} {ps : List MemPlace} {ts : List TypeId} {ds : List (DataW H)} {j : Nat}
    (hsz : (DataW.weightsEach P ts ds).all (· ≤ reachBytes) = true) (ht : ts[j]? = some t) (hd : ds[j]? = some d) (hu : P.underlying t = some (.slice e)) (he : P.underlying e = some (.int k)) (hc : P.cellsOf e = 1) {B : Nat} (hB : P.bytesOf e = B) (hB0 : 0 < B)
    (h : DataW.Trod enc P W base spare held t (.slice a len cap) d ps) : ∃ xs, Nums W k a len xs ∧ (∀ x ∈ xs, (Lit.int k x).wf = true) ∧ len * B ≤ 140737488351232 := by
  obtain ⟨fuel, hf⟩ := h
  rcases open_ints hu he hc hf with ⟨hcs, _⟩ | ⟨x, l, c, zs, hcs, _, hl, _, hz, hx, hcell, hwf⟩
  · simp [Value.cells] at hcs
    obtain ⟨rfl, rfl, rfl⟩ := hcs
    exact ⟨[], Nums.nil _ _ _, (fun x hx => by cases hx), by omega⟩
  · simp [Value.cells] at hcs
    obtain ⟨rfl, rfl, rfl⟩ := hcs
    obtain ⟨hx, _⟩ := Prod.mk.inj hx
    subst hx
    have z := sized_slice hsz ht hd hu
    rw [hB] at z
    have hl2 : len ≤ zs.length := by
      rw [hz]
      split
      · exact hl
      · exact Nat.le_refl _
    have h1 : (lits (H := H) k (zs.take len)).length + (lits (H := H) k (zs.drop len)).length = zs.length := by
      simp [lits]
      omega
    rw [h1] at z
    have hb : len * B ≤ 140737488351232 := Nat.le_trans (Nat.mul_le_mul_right _ hl2) z
    have hlen : len ≤ 140737488351232 := Nat.le_trans (Nat.le_mul_of_pos_right _ hB0) hb
    refine ⟨zs.take len, ⟨by simp; omega, by omega, fun hn => ⟨_, rfl, fun j hj => ?_⟩⟩, fun x hx => hwf x (List.mem_of_mem_take hx), hb⟩
    rw [hcell j (by omega)]
    simp [List.getD_eq_getElem?_getD, hj]
end Go.Proofs.Ytknbeklplmhheaa.Open
