/- A struct by value with an int and a row of five ints, as a parameter of a law. -/
import Derived.Test.YtdconfciacldmaaOpenInts
import Derived.OpenShut
namespace Go.Proofs.Ytdconfciacldmaa.OpenCall
open Go Go.ChangeShapes Go.WideShapes Go.RowKit Go.Deep
theorem list6 {α : Type} : ∀ {l : List α}, l.length = 6 → ∃ a b c d e f, l = [a, b, c, d, e, f]
  | [a, b, c, d, e, f], _ => ⟨a, b, c, d, e, f, rfl⟩
section
variable {H : Type} {enc : TypeId × Value → H} {P : Program} {w : World} {base : Nat} {spare : Nat → Bool} {held : Bool}
theorem open_call {r : Reach} {b0 : Nat} {t e : TypeId} {fs : Array Field} {v : Value} {d : DataW H} {p : List MemPlace} (hs : P.underlying t = some (.struct fs)) (hC : P.cellsOf t = 6) {g0 g1 : Field}
    (f0 : fs[0]? = some g0) (f1 : fs[1]? = some g1) (u0 : P.underlying g0.type = some (.int .i64)) (o0 : g0.offset = 0) (c0 : P.cellsOf g0.type = 1) (u1 : P.underlying g1.type = some (.array 5 e)) (o1 : g1.offset = 1) (c1 : P.cellsOf g1.type = 5)
    (ue : P.underlying e = some (.int .i64)) (ce : P.cellsOf e = 1)
    (hv : Value.okWide P w r b0 t v) (h : DataW.Trod enc P w base spare held t v d p) :
    ∃ n a0 a1 a2 a3 a4 : Int, v = .agg #[.int .i64 n, .int .i64 a0, .int .i64 a1, .int .i64 a2, .int .i64 a3, .int .i64 a4] ∧ (Lit.int .i64 a0).wf = true ∧ (Lit.int .i64 a1).wf = true ∧ (Lit.int .i64 a2).wf = true ∧ (Lit.int .i64 a3).wf = true ∧ (Lit.int .i64 a4).wf = true := by
  obtain ⟨⟨cs⟩, rfl, hsz⟩ := okWide_struct hs hv
  rw [hC] at hsz
  obtain ⟨x0, x1, x2, x3, x4, x5, rfl⟩ := list6 (l := cs) hsz
  obtain ⟨fuel, hf⟩ := h
  obtain ⟨ys, m, _, _, _, hlen, hg⟩ := DataW.trod_struct hs hf
  have s1 : 1 < fs.size := (Array.getElem?_eq_some_iff.1 f1).1
  have q0 := hg 0 g0 f0
  have q1 := hg 1 g1 f1
  rw [o0, c0] at q0
  rw [o1, c1] at q1
  obtain ⟨y0, e0⟩ : ∃ y, ys[0]? = some y := ⟨_, List.getElem?_eq_getElem (by omega)⟩
  obtain ⟨y1, e1⟩ : ∃ y, ys[1]? = some y := ⟨_, List.getElem?_eq_getElem (by omega)⟩
  rw [e0] at q0
  rw [e1] at q1
  simp only [Value.cells, List.drop_zero, List.drop_succ_cons, List.take_succ_cons, List.take_zero] at q0 q1
  obtain ⟨n, z0, _, _⟩ := DataW.trod_int u0 q0
  obtain ⟨zs, m', _, _, _, hl, hel⟩ := DataW.trod_array u1 q1
  have g := fun i (hi : i < 5) => by
    have := hel i hi
    rw [ce, Nat.mul_one, List.getElem?_eq_getElem (by omega)] at this
    exact DataW.trod_int ue this
  obtain ⟨a0, k0, _, w0⟩ := g 0 (by decide)
  obtain ⟨a1, k1, _, w1⟩ := g 1 (by decide)
  obtain ⟨a2, k2, _, w2⟩ := g 2 (by decide)
  obtain ⟨a3, k3, _, w3⟩ := g 3 (by decide)
  obtain ⟨a4, k4, _, w4⟩ := g 4 (by decide)
  simp only [List.drop_zero, List.drop_succ_cons, List.take_succ_cons, List.take_zero, List.cons.injEq, and_true] at z0 k0 k1 k2 k3 k4
  subst z0 k0 k1 k2 k3 k4
  exact ⟨n, a0, a1, a2, a3, a4, rfl, w0, w1, w2, w3, w4⟩
end
end Go.Proofs.Ytdconfciacldmaa.OpenCall
