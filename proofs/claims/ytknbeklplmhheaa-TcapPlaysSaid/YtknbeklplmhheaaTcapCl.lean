/- Package tcap: what change is given: the closures of Give and Charge. -/
import Derived.Test.YtknbeklplmhheaaTcap
namespace Go.Proofs.Ytknbeklplmhheaa.TcapCl
open Go Go.RowKit Go.Proofs.Ytknbeklplmhheaa Go.Proofs.Ytknbeklplmhheaa.Heap Go.Proofs.Ytknbeklplmhheaa.Mem Go.Proofs.Ytknbeklplmhheaa.Two Go.Proofs.Ytknbeklplmhheaa.Head Go.Proofs.Ytknbeklplmhheaa.Tcap

set_option maxRecDepth 100000
set_option maxHeartbeats 2000000
theorem give1_ok {W : World} {d b : Nat} {z : Bool} {l p n : Int} (D : Blk W d 23 (tcC z l p)) (N : Blk W b 3 #[.int .i64 n]) (hw : IntKind.i64.wrap (l - n) = l - n) :
    Calls Try.prog 82 #[.pointer (some ⟨d, 0, none⟩), .pointer (some ⟨b, 0, none⟩)] W fun e w' => e = .returned (.tuple #[]) ∧ Blk w' d 23 (tcC z (l - n) p) ∧ Chg [d] W w' := by
  obtain ⟨c0, c1, c2⟩ := blk3 D
  have n0 := N.cell 0
  have f1 := D.frozen 1
  have D2 : Blk (W.setCell ⟨d, 1, none⟩ (.int .i64 (l - n))) d _ (tcC z (l - n) p) := D.set_ 1 _
  have K := (Chg.refl [d] W).setCell (p := ⟨d, 1, none⟩) (.inl (by simp)) (.int .i64 (l - n))
  clear D N
  go_enter Try.func82, Try.ntmps82
  go_wp2
  go_region
  go_wp2
  go_end0
  exact ⟨rfl, D2.drew, K.drew⟩
theorem give2_ok {W : World} {d b c : Nat} {z : Bool} {l p n q : Int} (D : Blk W d 23 (tcC z l p)) (N : Blk W b 3 #[.int .i64 n]) (M : Blk W c 3 #[.int .i64 q]) (hw : IntKind.i64.wrap (l + n) = l + n) :
    Calls Try.prog 83 #[.pointer (some ⟨d, 0, none⟩), .pointer (some ⟨b, 0, none⟩), .pointer (some ⟨c, 0, none⟩)] W fun e w' => e = .returned (.tuple #[]) ∧ Blk w' d 23 (tcC z (l + n) q) ∧ Chg [d] W w' := by
  obtain ⟨c0, c1, c2⟩ := blk3 D
  have n0 := N.cell 0
  have f1 := D.frozen 1
  have hdc : c ≠ d := Blk.ne_ M D (by decide)
  have D2 : Blk (W.setCell ⟨d, 1, none⟩ (.int .i64 (l + n))) d _ (tcC z (l + n) p) := D.set_ 1 _
  have K := (Chg.refl [d] W).setCell (p := ⟨d, 1, none⟩) (.inl (by simp)) (.int .i64 (l + n))
  have M2 := M.far (p := ⟨d, 1, none⟩) hdc (.int .i64 (l + n))
  clear D N M
  go_enter Try.func83, Try.ntmps83
  go_wp2
  go_region
  replace D2 := D2.drew
  replace K := K.drew
  replace M2 := M2.drew
  generalize (W.setCell ⟨d, 1, none⟩ (.int .i64 (l + n))).drew = V at *
  have m0 := M2.cell 0
  have g2 := D2.frozen 2
  obtain ⟨d0, d1, d2⟩ := blk3 D2
  have D3 : Blk (V.setCell ⟨d, 2, none⟩ (.int .i64 q)) d _ (tcC z (l + n) q) := D2.set_ 2 _
  have K3 := K.setCell (p := ⟨d, 2, none⟩) (.inl (by simp)) (.int .i64 q)
  clear D2 K M2 c0 c1 c2 n0 f1
  go_wp2
  exact ⟨rfl, _, results_none rfl _ _ _, rfl, D3, K3⟩
theorem charge_inf {W : World} {d b s : Nat} {l p : Int} (D : Blk W d 23 (tcC true l p)) :
    Calls Try.prog 61 #[.pointer (some ⟨d, 0, none⟩), .pointer (some ⟨b, 0, none⟩), .pointer (some ⟨s, 0, none⟩)] W fun e w' => e = .returned (.tuple #[]) ∧ w' = W := by
  obtain ⟨c0, c1, c2⟩ := blk3 D
  clear D
  go_enter Try.func61, Try.ntmps61
  go_wp2
  exact ⟨rfl, _, results_none rfl _ _ _, rfl, rfl⟩
theorem charge_neg {W : World} {d b s : Nat} {l p n : Int} {v : Bool} (D : Blk W d 23 (tcC false l p)) (N : Blk W b 3 #[.int .i64 n]) (S : Blk W s 4 #[.bool v]) (hw : IntKind.i64.wrap (l - n) = l - n) (hm : l - n < 0) :
    Calls Try.prog 61 #[.pointer (some ⟨d, 0, none⟩), .pointer (some ⟨b, 0, none⟩), .pointer (some ⟨s, 0, none⟩)] W fun e w' => e = .returned (.tuple #[]) ∧ Blk w' d 23 (tcC false 0 p) ∧ Blk w' s 4 #[.bool (0 == 0)] ∧ Chg [d, s] W w' := by
  obtain ⟨c0, c1, c2⟩ := blk3 D
  have n0 := N.cell 0
  have f1 := D.frozen 1
  have hsd : s ≠ d := Blk.ne_ S D (by decide)
  have D2 : Blk (W.setCell ⟨d, 1, none⟩ (.int .i64 0)) d _ (tcC false 0 p) := D.set_ 1 _
  have K := (Chg.refl [d, s] W).setCell (p := ⟨d, 1, none⟩) (.inl (by simp)) (.int .i64 0)
  have S2 := S.far (p := ⟨d, 1, none⟩) hsd (.int .i64 0)
  clear D N S
  go_enter Try.func61, Try.ntmps61
  go_wp2
  go_region
  replace D2 := D2.drew
  replace K := K.drew
  replace S2 := S2.drew
  generalize (W.setCell ⟨d, 1, none⟩ (.int .i64 0)).drew = V at *
  have m0 := S2.cell 0
  have g2 := S2.frozen 0
  obtain ⟨d0, d1, d2⟩ := blk3 D2
  have D3 := D2.far (p := ⟨s, 0, none⟩) hsd.symm (.bool (0 == 0))
  have S3 : Blk (V.setCell ⟨s, 0, none⟩ (.bool (0 == 0))) s _ #[.bool (0 == 0)] := S2.set_ 0 _
  have K3 := K.setCell (p := ⟨s, 0, none⟩) (.inl (by simp)) (.bool (0 == 0))
  clear D2 K S2 c0 c1 c2 n0 f1
  go_wp2
  exact ⟨rfl, _, results_none rfl _ _ _, rfl, D3, S3, K3⟩
theorem charge_pos {W : World} {d b s : Nat} {l p n : Int} {v : Bool} (D : Blk W d 23 (tcC false l p)) (N : Blk W b 3 #[.int .i64 n]) (S : Blk W s 4 #[.bool v]) (hw : IntKind.i64.wrap (l - n) = l - n) (hm : ¬ l - n < 0) :
    Calls Try.prog 61 #[.pointer (some ⟨d, 0, none⟩), .pointer (some ⟨b, 0, none⟩), .pointer (some ⟨s, 0, none⟩)] W fun e w' => e = .returned (.tuple #[]) ∧ Blk w' d 23 (tcC false (l - n) p) ∧ Blk w' s 4 #[.bool ((l - n) == 0)] ∧ Chg [d, s] W w' := by
  obtain ⟨c0, c1, c2⟩ := blk3 D
  have n0 := N.cell 0
  have f1 := D.frozen 1
  have hsd : s ≠ d := Blk.ne_ S D (by decide)
  have D2 : Blk (W.setCell ⟨d, 1, none⟩ (.int .i64 (l - n))) d _ (tcC false (l - n) p) := D.set_ 1 _
  have K := (Chg.refl [d, s] W).setCell (p := ⟨d, 1, none⟩) (.inl (by simp)) (.int .i64 (l - n))
  have S2 := S.far (p := ⟨d, 1, none⟩) hsd (.int .i64 (l - n))
  clear D N S
  go_enter Try.func61, Try.ntmps61
  go_wp2
  go_region
  replace D2 := D2.drew
  replace K := K.drew
  replace S2 := S2.drew
  generalize (W.setCell ⟨d, 1, none⟩ (.int .i64 (l - n))).drew = V at *
  have m0 := S2.cell 0
  have g2 := S2.frozen 0
  obtain ⟨d0, d1, d2⟩ := blk3 D2
  have D3 := D2.far (p := ⟨s, 0, none⟩) hsd.symm (.bool ((l - n) == 0))
  have S3 : Blk (V.setCell ⟨s, 0, none⟩ (.bool ((l - n) == 0))) s _ #[.bool ((l - n) == 0)] := S2.set_ 0 _
  have K3 := K.setCell (p := ⟨s, 0, none⟩) (.inl (by simp)) (.bool ((l - n) == 0))
  clear D2 K S2 c0 c1 c2 n0 f1
  go_wp2
  exact ⟨rfl, _, results_none rfl _ _ _, rfl, D3, S3, K3⟩
end Go.Proofs.Ytknbeklplmhheaa.TcapCl
