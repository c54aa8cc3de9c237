/- Package palanquinref02: Clear, Words, New; the reference's other functions. -/
import Derived.Test.YtbjiecpkalcfeaaRef02
import Derived.StillTailTactics
namespace Go.Proofs.Ytbjiecpkalcfeaa.Ref02
open Go Go.RowKit Go.Proofs.Ytbjiecpkalcfeaa.Heap Go.Proofs.Ytbjiecpkalcfeaa.Mem

/-- A frame's words, the first k of them others. -/
def mixL (L : List Int) (f k : Nat) (ws : List Int) : List Int := setF L f (ws.take k ++ (frL L f).drop k)
theorem mix_zero {L : List Int} {f : Nat} (ws : List Int) : mixL L f 0 ws = L := by
  unfold mixL setF frL
  simp only [List.take_zero, List.nil_append, List.drop_zero]
  rw [← List.drop_drop, List.append_assoc, List.take_append_drop, List.take_append_drop]
theorem mix_full {L ws : List Int} {f n : Nat} (hl : L.length = 36 * n) (hf : f < n) (hw : ws.length = 36) : mixL L f 36 ws = setF L f ws := by
  unfold mixL
  rw [List.take_of_length_le (by omega), List.drop_of_length_le (by rw [frL_len hl hf]; omega), List.append_nil]
theorem mix_len {L ws : List Int} {f n k : Nat} (hl : L.length = 36 * n) (hf : f < n) (hw : ws.length = 36) : (ws.take k ++ (frL L f).drop k).length = 36 := by
  have := frL_len hl hf
  simp; omega
theorem setF_getE {L ws : List Int} {n f i : Nat} (hl : L.length = 36 * n) (hf : f < n) (hw : ws.length = 36) : (setF L f ws)[i]? = if f * 36 ≤ i ∧ i < f * 36 + 36 then ws[i - f * 36]? else L[i]? := by
  unfold setF
  have e1 : (L.take (f * 36)).length = f * 36 := by simp; omega
  by_cases h1 : i < f * 36
  · rw [if_neg (by omega), List.append_assoc, List.getElem?_append_left (by omega), List.getElem?_take, if_pos h1]
  · by_cases h2 : i < f * 36 + 36
    · rw [if_pos (by omega), List.getElem?_append_left (by simp; omega), List.getElem?_append_right (by omega), e1]
    · rw [if_neg (by omega), List.getElem?_append_right (by simp; omega)]
      have : (L.take (f * 36) ++ ws).length = f * 36 + 36 := by simp; omega
      rw [this, List.getElem?_drop, show f * 36 + 36 + (i - (f * 36 + 36)) = i by omega]
theorem mix_getE {L ws : List Int} {f n k i : Nat} (hl : L.length = 36 * n) (hf : f < n) (hw : ws.length = 36) : (mixL L f k ws)[i]? = if f * 36 ≤ i ∧ i < f * 36 + k ∧ i < f * 36 + 36 then ws[i - f * 36]? else L[i]? := by
  unfold mixL
  rw [setF_getE hl hf (mix_len hl hf hw)]
  by_cases h : f * 36 ≤ i ∧ i < f * 36 + 36
  · rw [if_pos h]
    by_cases hk : i - f * 36 < k
    · rw [if_pos (by omega), List.getElem?_append_left (by simp; omega), List.getElem?_take, if_pos hk]
    · rw [if_neg (by omega), List.getElem?_append_right (by simp; omega), List.getElem?_drop, frL_getE]
      have : (ws.take k).length = k := by simp; omega
      rw [this, if_pos (by omega)]
      congr 1
      omega
  · rw [if_neg h, if_neg (by omega)]
theorem mix_step {L ws : List Int} {f n k : Nat} (hl : L.length = 36 * n) (hf : f < n) (hw : ws.length = 36) (hk : k < 36) : (mixL L f k ws).set (f * 36 + k) (ws.getD k 0) = mixL L f (k + 1) ws := by
  apply List.ext_getElem?
  intro i
  have hlm : (mixL L f k ws).length = 36 * n := by unfold mixL; exact setF_len hl hf (mix_len hl hf hw)
  rw [mix_getE hl hf hw, List.getElem?_set, mix_getE hl hf hw]
  by_cases e : f * 36 + k = i
  · rw [if_pos e, if_pos (by omega), if_pos (by omega), show i - f * 36 = k by omega, List.getD_eq_getElem?_getD, List.getElem?_eq_getElem (by omega)]
    rfl
  · rw [if_neg e]
    by_cases h : f * 36 ≤ i ∧ i < f * 36 + k ∧ i < f * 36 + 36
    · rw [if_pos h, if_pos (by omega)]
    · rw [if_neg h, if_neg (by omega)]
theorem chr_of {w w' : World} {B p n : Nat} {v : Value} {bs : List (Nat × Nat)} {L : List Int} (h : RM w B p v n bs L) {k : Nat} {b : Nat × Nat} (hb : bs[k]? = some b) (hc : Chg [b.1] w w') : Chr B w w' := h.chr hb hc

theorem src36 {w : World} {g cap : Nat} {xs : List Int} (h : w.ownsRow 0 102 1 (.slice (some ⟨g, 0, none⟩) 36 cap) 36 (nums .u64 xs)) : ∀ j u, (nums .u64 xs)[j]? = some u → w.cell? ((⟨g, 0, none⟩ : Addr).add j) = some u := h.cells (g := g) rfl
theorem info_u64' : (Try.prog.info? 102).map (fun i => (i.zero, i.size, i.bytes)) = some (some (.int .u64 0), 1, 8) := by kernel_rfl
end Go.Proofs.Ytbjiecpkalcfeaa.Ref02
