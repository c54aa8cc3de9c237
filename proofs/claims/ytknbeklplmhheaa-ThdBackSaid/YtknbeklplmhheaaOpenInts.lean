/- A struct by value whose fields are all ints, as a parameter of a law: its value is a row of ints. -/
import Derived.Test.YtknbeklplmhheaaProg
import Derived.Lib.SmallJoins
namespace Go.Proofs.Ytknbeklplmhheaa.OpenInts
open Go Go.ChangeShapes Go.WideShapes Go.RowKit Go.Deep
section
variable {H : Type} {enc : TypeId × Value → H} {P : Program} {w : World} {base : Nat} {spare : Nat → Bool} {held : Bool}
def numOf : Value → Int
  | .int _ n => n
  | _ => 0
theorem open_row {r : Reach} {b0 : Nat} {t : TypeId} {fs : Array Field} {v : Value} {d : DataW H} {p : List MemPlace} (hs : P.underlying t = some (.struct fs)) (hone : oneCellFields P fs = true)
    (hint : ∀ (i : Nat) (f : Field), fs[i]? = some f → P.underlying f.type = some (.int .i64)) (hC : P.cellsOf t = fs.size)
    (hv : Value.okWide P w r b0 t v) (h : DataW.Trod enc P w base spare held t v d p) :
    ∃ xs : List Int, xs.length = fs.size ∧ v = .agg (xs.map (Value.int .i64)).toArray ∧ ∀ x ∈ xs, (Lit.int .i64 x).wf = true := by
  obtain ⟨cs, rfl, hsz⟩ := okWide_struct hs hv
  obtain ⟨fuel, hf⟩ := h
  obtain ⟨ys, m, _, _, _, hlen, hg⟩ := DataW.trod_struct hs hf
  have hcell : ∀ (i : Nat) (u : Value), cs.toList[i]? = some u → ∃ n, u = .int .i64 n ∧ (Lit.int .i64 n).wf = true := by
    intro i u hu
    have hi : i < fs.size := by
      have := (List.getElem?_eq_some_iff.1 hu).1
      rw [Array.length_toList, hsz, hC] at this
      exact this
    obtain ⟨f, hf'⟩ : ∃ f, fs[i]? = some f := ⟨_, Array.getElem?_eq_getElem hi⟩
    obtain ⟨o, k⟩ := hone_of hone i f hf'
    have h1 := hg i f hf'
    rw [o, k] at h1
    obtain ⟨y, hy⟩ : ∃ y, ys[i]? = some y := ⟨_, List.getElem?_eq_getElem (by omega)⟩
    rw [hy] at h1
    have h2 : ((Value.cells (.agg cs)).toList.drop i).take 1 = [u] := by
      obtain ⟨hlt, he⟩ := List.getElem?_eq_some_iff.1 hu
      simp only [Value.cells]
      rw [List.drop_eq_getElem_cons hlt, List.take_succ_cons, List.take_zero, he]
    rw [h2] at h1
    obtain ⟨n, e, _, hw⟩ := DataW.trod_int (hint i f hf') h1
    exact ⟨n, by simpa using e, hw⟩
  have hmap : (cs.toList.map numOf).map (Value.int .i64) = cs.toList := by
    rw [List.map_map]
    conv => rhs; rw [← List.map_id cs.toList]
    refine List.map_congr_left fun u hu => ?_
    obtain ⟨i, hi⟩ := List.getElem?_of_mem hu
    obtain ⟨n, rfl, _⟩ := hcell i u hi
    rfl
  refine ⟨cs.toList.map numOf, by simp [hsz, hC], by rw [hmap], ?_⟩
  intro x hx
  obtain ⟨u, hu, rfl⟩ := List.mem_map.1 hx
  obtain ⟨i, hi⟩ := List.getElem?_of_mem hu
  obtain ⟨n, rfl, hw⟩ := hcell i u hi
  exact hw
theorem open_six {r : Reach} {b0 : Nat} {t : TypeId} {fs : Array Field} {v : Value} {d : DataW H} {p : List MemPlace} (hs : P.underlying t = some (.struct fs)) (hone : oneCellFields P fs = true)
    (hint : ∀ (i : Nat) (f : Field), fs[i]? = some f → P.underlying f.type = some (.int .i64)) (hC : P.cellsOf t = fs.size) (h6 : fs.size = 6)
    (hv : Value.okWide P w r b0 t v) (h : DataW.Trod enc P w base spare held t v d p) :
    ∃ a b c d e f : Int, v = .agg #[.int .i64 a, .int .i64 b, .int .i64 c, .int .i64 d, .int .i64 e, .int .i64 f] := by
  obtain ⟨xs, hl, rfl, _⟩ := open_row hs hone hint hC hv h
  rw [h6] at hl
  match xs, hl with
  | [a, b, c, d, e, f], _ => exact ⟨a, b, c, d, e, f, rfl⟩
theorem open_five {r : Reach} {b0 : Nat} {t : TypeId} {fs : Array Field} {v : Value} {d : DataW H} {p : List MemPlace} (hs : P.underlying t = some (.struct fs)) (hone : oneCellFields P fs = true)
    (hint : ∀ (i : Nat) (f : Field), fs[i]? = some f → P.underlying f.type = some (.int .i64)) (hC : P.cellsOf t = fs.size) (h5 : fs.size = 5)
    (hv : Value.okWide P w r b0 t v) (h : DataW.Trod enc P w base spare held t v d p) :
    ∃ a b c d e : Int, v = .agg #[.int .i64 a, .int .i64 b, .int .i64 c, .int .i64 d, .int .i64 e] ∧ ∀ x ∈ [a, b, c, d, e], (Lit.int .i64 x).wf = true := by
  obtain ⟨xs, hl, rfl, hw⟩ := open_row hs hone hint hC hv h
  rw [h5] at hl
  match xs, hl, hw with
  | [a, b, c, d, e], _, hw => exact ⟨a, b, c, d, e, rfl, hw⟩
end
end Go.Proofs.Ytknbeklplmhheaa.OpenInts
