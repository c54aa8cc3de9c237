/- A slice of structs among the arguments of a law, as cells in memory. -/
import Derived.Test.YtknbeklplmhheaaHeap
import Derived.SizedLaws
import Derived.Deep.Slices
import Derived.Deep.Fields
import Derived.ChangeSame
namespace Go.Proofs.Ytknbeklplmhheaa.OpenRecs
open Go Go.RowKit Go.ChangeShapes Go.WideShapes Go.Deep
section
variable {H : Type} {enc : TypeId × Value → H} {P : Program} {W : World} {base : Nat} {spare : Nat → Bool} {held : Bool}
/-- Each field of each record that can be read lies in its own cell, and reads as its type says; no more records than can be. -/
theorem open_recs {t e : TypeId} {fs : Array Field} {a : Option Addr} {len cap : Nat} {d : DataW H} {ps : List MemPlace} {ts : List TypeId} {ds : List (DataW H)} {q : Nat}
    (hsz : (DataW.weightsEach P ts ds).all (· ≤ reachBytes) = true) (htq : ts[q]? = some t) (hdq : ds[q]? = some d) (ht : P.underlying t = some (.slice e)) (he : P.underlying e = some (.struct fs))
    (hone : oneCellFields P fs = true) (hC : P.cellsOf e = fs.size) {B : Nat} (hB : P.bytesOf e = B) (hB0 : 0 < B) (h : DataW.Trod enc P W base spare held t (.slice a len cap) d ps) :
    len ≤ 140737488355328 ∧ (0 < len → ∃ ad, a = some ad ∧ ∀ i, i < len → ∀ (j : Nat) (f : Field), fs[j]? = some f → ∃ (v : Value) (y : DataW H × List MemPlace) (n : Nat), W.cell? (ad.add (i * fs.size + j)) = some v ∧ DataW.trod enc P W base spare held n f.type [v] = some y) := by
  obtain ⟨fuel, hf⟩ := h
  rcases open_slice ht hf with ⟨hcs, hx⟩ | ⟨ad, l, c, m, n, D, Pl, hcs, hb, hl, hm, hmm, hx, hi⟩
  · simp [Value.cells] at hcs
    obtain ⟨rfl, rfl, rfl⟩ := hcs
    exact ⟨by decide, fun h0 => absurd h0 (by omega)⟩
  · simp [Value.cells] at hcs
    obtain ⟨rfl, rfl, rfl⟩ := hcs
    obtain ⟨rfl, -⟩ := Prod.mk.inj hx
    have z := sized_slice hsz htq hdq ht
    rw [hB] at z
    have hlm : len ≤ m := by
      rw [hmm]
      split
      · exact hl
      · exact Nat.le_refl _
    have hbd : len * B ≤ 140737488351232 := by
      refine Nat.le_trans (Nat.mul_le_mul_right _ ?_) z
      simp
    have hlen : len ≤ 140737488351232 := Nat.le_trans (Nat.le_mul_of_pos_right _ hB0) hbd
    refine ⟨by omega, fun _ => ⟨ad, rfl, fun i hil j f hj => ?_⟩⟩
    obtain ⟨cs, hc, htr⟩ := hi i (by omega)
    rw [hC] at hc
    obtain ⟨ys, k, _, _, hcl, hyl, hfl⟩ := DataW.trod_struct he htr
    obtain ⟨_, hn, hat⟩ := World.cells?_some hc
    obtain ⟨ho, hk⟩ := hone_of hone j f hj
    have hjl : j < fs.size := (Array.getElem?_eq_some_iff.1 hj).1
    have hv : j < cs.length := by omega
    have h1 := hfl j f hj
    rw [ho, hk, List.drop_eq_getElem_cons hv, List.take_succ_cons, List.take_zero, List.getElem?_eq_getElem (by omega)] at h1
    refine ⟨cs[j], _, _, ?_, h1⟩
    rw [← Go.Deep.add_add, hat j hjl, List.getElem?_eq_getElem hv]
/-- What a field of a kind holds: a whole number of it, or a bool. -/
def Holds (o : Option IntKind) (v : Value) : Prop := match o with
  | some k => ∃ n, v = .int k n ∧ (Lit.int k n).wf = true
  | none => ∃ b, v = .bool b
def FieldIs (P : Program) (o : Option IntKind) (t : TypeId) : Prop := match o with
  | some k => P.underlying t = some (.int k)
  | none => P.underlying t = some .bool
/-- Records of fields of the kinds ks lie one behind the other from a on. -/
def RecsAt (w : World) (a : Option Addr) (len : Nat) (ks : List (Option IntKind)) : Prop :=
  len ≤ 140737488355328 ∧ (0 < len → ∃ ad, a = some ad ∧ ∀ i, i < len → ∀ j o, ks[j]? = some o → ∃ v, Holds o v ∧ w.cell? (ad.add (i * ks.length + j)) = some v)
theorem recs_of {t e : TypeId} {fs : Array Field} {a : Option Addr} {len cap : Nat} {d : DataW H} {ps : List MemPlace} {ts : List TypeId} {ds : List (DataW H)} {q : Nat}
    (hsz : (DataW.weightsEach P ts ds).all (· ≤ reachBytes) = true) (htq : ts[q]? = some t) (hdq : ds[q]? = some d) (ht : P.underlying t = some (.slice e)) (he : P.underlying e = some (.struct fs))
    (hone : oneCellFields P fs = true) (hC : P.cellsOf e = fs.size) {B : Nat} (hB : P.bytesOf e = B) (hB0 : 0 < B) (ks : List (Option IntKind)) (hl : ks.length = fs.size)
    (hk : ∀ (j : Nat) (f : Field), fs[j]? = some f → ∃ o, ks[j]? = some o ∧ FieldIs P o f.type) (h : DataW.Trod enc P W base spare held t (.slice a len cap) d ps) : RecsAt W a len ks := by
  obtain ⟨h1, h2⟩ := open_recs hsz htq hdq ht he hone hC hB hB0 h
  refine ⟨h1, fun h0 => ?_⟩
  obtain ⟨ad, e0, hf⟩ := h2 h0
  refine ⟨ad, e0, fun i hi j o hj => ?_⟩
  have hjl : j < fs.size := by rw [← hl]; exact (List.getElem?_eq_some_iff.1 hj).1
  have hfj : fs[j]? = some fs[j] := Array.getElem?_eq_getElem hjl
  obtain ⟨v, y, n, hc, ht'⟩ := hf i hi j _ hfj
  obtain ⟨o', ho', hF⟩ := hk j _ hfj
  obtain rfl : o = o' := by rw [hj] at ho'; exact Option.some.inj ho'
  refine ⟨v, ?_, by rw [hl]; exact hc⟩
  cases o with
  | some k =>
    obtain ⟨m, em, _, hw⟩ := DataW.trod_int hF ht'
    exact ⟨m, by simpa using em, hw⟩
  | none =>
    obtain ⟨m, em, _⟩ := DataW.trod_bool hF ht'
    exact ⟨m, by simpa using em⟩
theorem RecsAt.chg {S : List Nat} {w w' : World} {a : Option Addr} {len : Nat} {ks : List (Option IntKind)} (h : RecsAt w a len ks) (hc : Go.Proofs.Ytknbeklplmhheaa.Heap.Chg S w w') (hS : ∀ ad, a = some ad → ad.block ∉ S) : RecsAt w' a len ks := by
  refine ⟨h.1, fun h0 => ?_⟩
  obtain ⟨ad, e, hf⟩ := h.2 h0
  refine ⟨ad, e, fun i hi j o hj => ?_⟩
  obtain ⟨v, hv, hcell⟩ := hf i hi j o hj
  refine ⟨v, hv, ?_⟩
  rw [← hcell]
  refine World.cell?_of_block (hc.block _ (World.block_lt_of_cell? w _ hcell) ?_)
  rw [Go.Proofs.Ytknbeklplmhheaa.Heap.block_of_add]
  exact hS ad e
end
end Go.Proofs.Ytknbeklplmhheaa.OpenRecs
