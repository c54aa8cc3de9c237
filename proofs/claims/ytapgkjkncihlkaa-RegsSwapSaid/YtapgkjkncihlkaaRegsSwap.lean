/- RegsSwap: two files of registers that are swapped have each other's words; swapped again, their own. The walk through the statement. -/
import Derived.Test.YtapgkjkncihlkaaRegs
import Derived.Test.YtapgkjkncihlkaaWords
namespace Go.Proofs.Ytapgkjkncihlkaa.Regs
open Go Go.RowKit Go.Proofs.Ytapgkjkncihlkaa.Heap Go.Proofs.Ytapgkjkncihlkaa.Words

theorem nums_blk {w : World} {g : Nat} {t : TypeId} {L : List Int} (h : Blk w g t (nums .u64 L).toArray) (hl : L.length = 8) : Nums w .u64 (some ⟨g, 0, none⟩) 8 L := by
  have := Nums.of_blk (k := .u64) (o := 0) (xs := L) h (by omega) (fun j hj => by rw [Nat.zero_add, List.getElem?_toArray]; exact nums_get _ _ _ hj)
  rwa [hl] at this
theorem words_blk {w : World} {g h : Nat} {t u : TypeId} {L M : List Int} (hg : Blk w g t (nums .u64 L).toArray) (hh : Blk w h u (nums .u64 M).toArray) (hl : L.length = 8) (hm : M.length = 8) (he : L = M) :
    Calls Try.prog 19 #[.slice (some ⟨g, 0, none⟩) 8 8, .slice (some ⟨h, 0, none⟩) 8 8] w fun e w' => e = .returned (.bool true) ∧ Chg [] w w' := by
  refine (words_any _ _ _ _ _ _ _ _ w (nums_blk hg hl) (nums_blk hh hm)).mono ?_
  rintro e w' ⟨rfl, k, rfl⟩
  exact ⟨by rw [decide_eq_true he], (Chg.refl _ _).drewN k⟩

set_option maxRecDepth 100000 in
set_option maxHeartbeats 1000000 in
theorem regsSwap_walk (A B : Option Addr) (n m c d : Nat) (xs ys : List Int) (w : World) (hx : Nums w .u64 A n xs) (hy : Nums w .u64 B m ys)
    :
    Calls Try.prog 4 #[.slice A n c, .slice B m d] w fun e w' => e = .returned (.bool true) ∧ Chg [] w w' := by
  have hL : (loaded [0, 0, 0, 0, 0, 0, 0, 0] xs).length = 8 := by unfold loaded; split <;> simp_all
  have hM : (loaded [0, 0, 0, 0, 0, 0, 0, 0] ys).length = 8 := by unfold loaded; split <;> simp_all
  obtain ⟨L, eL⟩ : ∃ L, loaded [0, 0, 0, 0, 0, 0, 0, 0] xs = L := ⟨_, rfl⟩
  obtain ⟨M, eM⟩ : ∃ M, loaded [0, 0, 0, 0, 0, 0, 0, 0] ys = M := ⟨_, rfl⟩
  rw [eL] at hL
  rw [eM] at hM
  have HL : Hid (loaded [0, 0, 0, 0, 0, 0, 0, 0] xs = L ∧ L.length = 8) := ⟨eL, hL⟩
  have HM : Hid (loaded [0, 0, 0, 0, 0, 0, 0, 0] ys = M ∧ M.length = 8) := ⟨eM, hM⟩
  clear hL hM eL eM
  go_enter Try.func4, Try.ntmps4
  go_wp2_with fail
  refine (new_fresh _).mono ?_
  rintro e w1 ⟨p, rfl, hp, f1, k1⟩
  have s1 := f1.2.lt
  go_wp2_with fail
  refine (new_fresh _).mono ?_
  rintro e w2 ⟨q, rfl, hq, g2, k2⟩
  have s2 := g2.2.lt
  have f2 := f1.chg k2 (by simp)
  have K2 := k1.trans k2 (by simp)
  have hx2 := hx.chg K2 (fun _ _ => by simp)
  have hy2 := hy.chg K2 (fun _ _ => by simp)
  go_wp2_with fail
  refine (load_any f2 A n c xs hx2).mono ?_
  rintro e w3 ⟨rfl, f3, k3⟩
  rw [HL.out.1] at f3
  have g3 := g2.chg k3 (by simp; omega)
  have K3 : Chg [] w w3 := K2.trans k3 (by simp; omega)
  have hy3 := hy.chg K3 (fun _ _ => by simp)
  go_wp2_with fail
  refine (load_any g3 B m d ys hy3).mono ?_
  rintro e w4 ⟨rfl, g4, k4⟩
  rw [HM.out.1] at g4
  have f4 := f3.chg k4 (by simp; omega)
  have K4 : Chg [] w w4 := K3.trans k4 (by simp; omega)
  go_wp2_with fail
  refine (all_fresh f4).mono ?_
  rintro e w5 ⟨x, rfl, hxx, x5, k5⟩
  have s5 := x5.lt
  have f5 := f4.chg k5 (by simp)
  have g5 := g4.chg k5 (by simp)
  have K5 : Chg [] w w5 := K4.trans k5 (by simp)
  go_wp2_with fail
  refine (all_fresh g5).mono ?_
  rintro e w6 ⟨y, rfl, hyy, y6, k6⟩
  have s6 := y6.lt
  have f6 := f5.chg k6 (by simp)
  have g6 := g5.chg k6 (by simp)
  have x6 := x5.chg k6 (by simp)
  have K6 : Chg [] w w6 := K5.trans k6 (by simp)
  have t4 := f4.2.lt
  have u4 := g4.2.lt
  go_wp2_with fail
  refine (swap_two f6 g6 (by omega)).mono ?_
  rintro e w7 ⟨rfl, f7, g7, k7⟩
  have x7 := x6.chg k7 (by simp; omega)
  have y7 := y6.chg k7 (by simp; omega)
  have K7 : Chg [] w w7 := K6.trans k7 (by simp; omega)
  go_wp2_with fail
  refine (all_fresh f7).mono ?_
  rintro e w8 ⟨z, rfl, hzz, z8, k8⟩
  have y8 := y7.chg k8 (by simp)
  have x8 := x7.chg k8 (by simp)
  have f8 := f7.chg k8 (by simp)
  have g8 := g7.chg k8 (by simp)
  have K8 : Chg [] w w8 := K7.trans k8 (by simp)
  go_wp2_with fail
  refine (words_blk z8 y8 HM.out.2 HM.out.2 rfl).mono ?_
  rintro e w9 ⟨rfl, k9⟩
  have y9 := y8.chg k9 (by simp)
  have x9 := x8.chg k9 (by simp)
  have f9 := f8.chg k9 (by simp)
  have g9 := g8.chg k9 (by simp)
  have K9 : Chg [] w w9 := K8.trans k9 (by simp)
  clear k1 k2 k3 k4 k5 k6 k7 k8 k9 K2 K3 K4 K5 K6 K7 K8 f1 f2 f3 f4 f5 f6 f7 f8 g2 g3 g4 g5 g6 g7 g8 x5 x6 x7 x8 y6 y7 y8 z8 hx2 hy2 hy3 hx hy
  go_wp2_with fail
  refine (all_fresh g9).mono ?_
  rintro e w10 ⟨z, rfl, hzz, z10, k10⟩
  have y10 := y9.chg k10 (by simp)
  have x10 := x9.chg k10 (by simp)
  have f10 := f9.chg k10 (by simp)
  have g10 := g9.chg k10 (by simp)
  have K10 : Chg [] w w10 := K9.trans k10 (by simp)
  go_wp2_with fail
  refine (words_blk z10 x10 HL.out.2 HL.out.2 rfl).mono ?_
  rintro e w11 ⟨rfl, k11⟩
  have y11 := y10.chg k11 (by simp)
  have x11 := x10.chg k11 (by simp)
  have f11 := f10.chg k11 (by simp)
  have g11 := g10.chg k11 (by simp)
  have K11 : Chg [] w w11 := K10.trans k11 (by simp)
  go_wp2_with fail
  refine (swap_two f11 g11 (by omega)).mono ?_
  rintro e w12 ⟨rfl, f12, g12, k12⟩
  have x12 := x11.chg k12 (by simp; omega)
  have y12 := y11.chg k12 (by simp; omega)
  have K12 : Chg [] w w12 := K11.trans k12 (by simp; omega)
  go_wp2_with fail
  refine (swap_self f12).mono ?_
  rintro e w13 ⟨rfl, f13, k13⟩
  have x13 := x12.chg k13 (by simp; omega)
  have y13 := y12.chg k13 (by simp; omega)
  have g13 := g12.chg k13 (by simp; omega)
  have K13 : Chg [] w w13 := K12.trans k13 (by simp; omega)
  go_wp2_with fail
  refine (all_fresh f13).mono ?_
  rintro e w14 ⟨z, rfl, hzz, z14, k14⟩
  have y14 := y13.chg k14 (by simp)
  have x14 := x13.chg k14 (by simp)
  have g14 := g13.chg k14 (by simp)
  have K14 : Chg [] w w14 := K13.trans k14 (by simp)
  go_wp2_with fail
  refine (words_blk z14 x14 HL.out.2 HL.out.2 rfl).mono ?_
  rintro e w15 ⟨rfl, k15⟩
  have y15 := y14.chg k15 (by simp)
  have g15 := g14.chg k15 (by simp)
  have K15 : Chg [] w w15 := K14.trans k15 (by simp)
  go_wp2_with fail
  refine (all_fresh g15).mono ?_
  rintro e w16 ⟨z, rfl, hzz, z16, k16⟩
  have y16 := y15.chg k16 (by simp)
  have K16 : Chg [] w w16 := K15.trans k16 (by simp)
  go_wp2_with fail
  refine (words_blk z16 y16 HM.out.2 HM.out.2 rfl).mono ?_
  rintro e w17 ⟨rfl, k17⟩
  have K17 : Chg [] w w17 := K16.trans k17 (by simp)
  go_wp2_with fail
  refine (awake_ok _).mono ?_
  rintro e w18 ⟨rfl, k18⟩
  go_wp2
  go_ret
  exact ⟨rfl, K17.trans k18 (by simp)⟩
end Go.Proofs.Ytapgkjkncihlkaa.Regs
