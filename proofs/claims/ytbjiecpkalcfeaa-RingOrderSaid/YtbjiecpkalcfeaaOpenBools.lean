/- A slice of bools among the arguments of a law, as cells in memory. -/
import Derived.Test.YtbjiecpkalcfeaaOpenRecs
namespace Go.Proofs.Ytbjiecpkalcfeaa.OpenBools
open Go Go.RowKit Go.ChangeShapes Go.WideShapes Go.Deep
/-- Bools lie one behind the other from a on. -/
def BoolsAt (w : World) (a : Option Addr) (len : Nat) : Prop :=
  len ≤ 140737488355328 ∧ (0 < len → ∃ ad, a = some ad ∧ ∀ i, i < len → ∃ b, w.cell? (ad.add i) = some (.bool b))
section
variable {H : Type} {enc : TypeId × Value → H} {P : Program} {W : World} {base : Nat} {spare : Nat → Bool} {held : Bool}
theorem bools_of {t e : TypeId} {a : Option Addr} {len cap : Nat} {d : DataW H} {ps : List MemPlace} {ts : List TypeId} {ds : List (DataW H)} {q : Nat}
    (hsz : (DataW.weightsEach P ts ds).all (· ≤ reachBytes) = true) (htq : ts[q]? = some t) (hdq : ds[q]? = some d) (ht : P.underlying t = some (.slice e)) (he : P.underlying e = some .bool)
    (hC : P.cellsOf e = 1) {B : Nat} (hB : P.bytesOf e = B) (hB0 : 0 < B) (h : DataW.Trod enc P W base spare held t (.slice a len cap) d ps) : BoolsAt W a len := by
  obtain ⟨fuel, hf⟩ := h
  rcases open_slice ht hf with ⟨hcs, hx⟩ | ⟨ad, l, c, m, n, D, Pl, hcs, hb, hl, hm, hmm, hx, hi⟩
  · simp [Value.cells] at hcs
    obtain ⟨rfl, rfl, rfl⟩ := hcs
    exact ⟨by decide, fun h0 => absurd h0 (by omega)⟩
  · simp [Value.cells] at hcs
    obtain ⟨rfl, rfl, rfl⟩ := hcs
    obtain ⟨rfl, -⟩ := Prod.mk.inj hx
    have z := sized_slice hsz htq hdq ht
    rw [hB] at z
    have hlm : len ≤ m := by
      rw [hmm]
      split
      · exact hl
      · exact Nat.le_refl _
    have hbd : len * B ≤ 140737488351232 := by
      refine Nat.le_trans (Nat.mul_le_mul_right _ ?_) z
      simp
    have hlen : len ≤ 140737488351232 := Nat.le_trans (Nat.le_mul_of_pos_right _ hB0) hbd
    refine ⟨by omega, fun _ => ⟨ad, rfl, fun i hil => ?_⟩⟩
    obtain ⟨cs, hc, htr⟩ := hi i (by omega)
    rw [hC] at hc
    obtain ⟨b, e', _⟩ := DataW.trod_bool he htr
    subst e'
    obtain ⟨_, hn, hat⟩ := World.cells?_some hc
    refine ⟨b, ?_⟩
    have := hat (i := 0) (by decide)
    rw [Nat.mul_one] at this
    rw [show (ad.add i).add 0 = ad.add i by rw [Go.Deep.add_add]; rfl] at this
    exact this
end
theorem BoolsAt.cell {w : World} {ad : Addr} {n : Nat} (h : BoolsAt w (some ad) n) {i : Nat} (hi : i < n) : ∃ b, w.cell? (ad.add i) = some (.bool b) := by
  obtain ⟨a, e, hf⟩ := h.2 (by omega)
  obtain rfl : ad = a := Option.some.inj e
  exact hf i hi
end Go.Proofs.Ytbjiecpkalcfeaa.OpenBools
