/- CapBack's walk. -/
import Derived.Test.YtbjiecpkalcfeaaCapPut
import Derived.Test.YtbjiecpkalcfeaaCapGet
import Derived.Test.YtbjiecpkalcfeaaCapUnder
namespace Go.Proofs.Ytbjiecpkalcfeaa.CapBack
open Go Go.RowKit Go.Proofs.Ytbjiecpkalcfeaa Go.Proofs.Ytbjiecpkalcfeaa.Heap Go.Proofs.Ytbjiecpkalcfeaa.Bits Go.Proofs.Ytbjiecpkalcfeaa.Field Go.Proofs.Ytbjiecpkalcfeaa.Cap Go.Proofs.Ytbjiecpkalcfeaa.CapW Go.Proofs.Ytbjiecpkalcfeaa.CapPut Go.Proofs.Ytbjiecpkalcfeaa.CapGet

theorem get_word {k r t l e a : Int} (h : rightC k r t l e a = true) : (0 ≤ capWord k r t l e ∧ capWord k r t l e < 137438953472) ∧ (0 ≤ a ∧ a < 1073741825) ∧ getCV (capWord k r t l e) a = capV k r t l e a ∧ getCE (capWord k r t l e) a = 0 := by
  have hs := sized_bd (right_sized h)
  have hw : 0 ≤ capWord k r t l e ∧ capWord k r t l e < 137438953472 := by unfold capWord; omega
  have e0 : capWord k r t l e % 16 = k := by unfold capWord; omega
  have e1 : capWord k r t l e / 16 % 32 = r := by unfold capWord; omega
  have e2 : capWord k r t l e / 512 % 64 = t := by unfold capWord; omega
  have e3 : capWord k r t l e / 32768 % 64 = l := by unfold capWord; omega
  have e4 : capWord k r t l e / 2097152 % 65536 = e := by unfold capWord; omega
  have hok : getCok (capWord k r t l e) a = true := by
    unfold getCok
    rw [e0, e1, e2, e3, e4, h, decide_eq_true ⟨hw.2, by omega⟩]
    rfl
  refine ⟨hw, hs.2.2.2.2.2, ?_, ?_⟩
  · unfold getCV; rw [hok, e0, e1, e2, e3, e4]; exact if_pos rfl
  · unfold getCE; rw [hok]; exact if_pos rfl
theorem word_get {u s : Int} (h0 : 0 ≤ u) (h : getCok u s = true) : ∃ k r t l e, getCV u s = capV k r t l e s ∧ getCE u s = 0 ∧ rightC k r t l e s = true ∧ capWord k r t l e = u := by
  have h' := h
  unfold getCok at h'
  rw [Bool.and_eq_true] at h'
  have hlt := of_decide_eq_true h'.1
  refine ⟨_, _, _, _, _, if_pos h, if_pos h, h'.2, ?_⟩
  unfold capWord
  omega

end Go.Proofs.Ytbjiecpkalcfeaa.CapBack
