/- Number of package call. -/
import Derived.Test.YtdconfciacldmaaCallGet
import Derived.Laws.StructEq
namespace Go.Proofs.Ytdconfciacldmaa.CallNumber
open Go Go.RowKit Go.Proofs.Ytdconfciacldmaa Go.Proofs.Ytdconfciacldmaa.Heap Go.Proofs.Ytdconfciacldmaa.Bits Go.Proofs.Ytdconfciacldmaa.Field Go.Proofs.Ytdconfciacldmaa.Call Go.Proofs.Ytdconfciacldmaa.CallRight

theorem kind_at : ∀ j : Nat, j < 30 → kindsC[j * 2]? = some (.string (wordS j)) ∧ kindsC[j * 2 + 1]? = some (.int .i64 (needsN j))
  | 0, _ => ⟨rfl, rfl⟩
  | 1, _ => ⟨rfl, rfl⟩
  | 2, _ => ⟨rfl, rfl⟩
  | 3, _ => ⟨rfl, rfl⟩
  | 4, _ => ⟨rfl, rfl⟩
  | 5, _ => ⟨rfl, rfl⟩
  | 6, _ => ⟨rfl, rfl⟩
  | 7, _ => ⟨rfl, rfl⟩
  | 8, _ => ⟨rfl, rfl⟩
  | 9, _ => ⟨rfl, rfl⟩
  | 10, _ => ⟨rfl, rfl⟩
  | 11, _ => ⟨rfl, rfl⟩
  | 12, _ => ⟨rfl, rfl⟩
  | 13, _ => ⟨rfl, rfl⟩
  | 14, _ => ⟨rfl, rfl⟩
  | 15, _ => ⟨rfl, rfl⟩
  | 16, _ => ⟨rfl, rfl⟩
  | 17, _ => ⟨rfl, rfl⟩
  | 18, _ => ⟨rfl, rfl⟩
  | 19, _ => ⟨rfl, rfl⟩
  | 20, _ => ⟨rfl, rfl⟩
  | 21, _ => ⟨rfl, rfl⟩
  | 22, _ => ⟨rfl, rfl⟩
  | 23, _ => ⟨rfl, rfl⟩
  | 24, _ => ⟨rfl, rfl⟩
  | 25, _ => ⟨rfl, rfl⟩
  | 26, _ => ⟨rfl, rfl⟩
  | 27, _ => ⟨rfl, rfl⟩
  | 28, _ => ⟨rfl, rfl⟩
  | 29, _ => ⟨rfl, rfl⟩
  | j + 30, h => absurd h (by omega)
theorem kind_cells {w : World} {q t : Nat} (h : Blk w q t kindsC) (j : Nat) (hj : j < 30) : w.cell? ⟨q, j * 2, none⟩ = some (.string (wordS j)) ∧ w.cell? ⟨q, j * 2 + 1, none⟩ = some (.int .i64 (needsN j)) := by
  rw [h.cell, h.cell]
  exact kind_at j hj
theorem beq_dec (x s : ByteArray) : (x.toList == s.toList) = decide (x = s) := by
  rw [ByteArray.toList_eq, ByteArray.toList_eq]
  obtain ⟨⟨x⟩⟩ := x
  obtain ⟨⟨y⟩⟩ := s
  by_cases h : x = y
  · subst h; simp
  · simp [h]
set_option maxRecDepth 100000 in
theorem same_ok (x s : ByteArray) (n : Int) (g : Nat) (w : World) (hg : w.cell? ⟨g, 0, none⟩ = some (.string s)) : Calls Try.prog 26 #[.agg #[.string x, .int .i64 n], .pointer (some ⟨g, 0, none⟩)] w fun e w' => e = .returned (.bool (decide (x = s))) ∧ Chg [] w w' := by
  rw [← beq_dec]
  have hs : g < w.heap.size := by
    by_cases h : g < w.heap.size
    · exact h
    · exfalso
      have : w.heap[g]? = none := by simp; omega
      simp [World.cell?, this] at hg
  have hc := Lib.cell?_alloc_some (.cells #[.string x, .int .i64 n] 57) hg
  have hne : ¬ g = w.heap.size := by omega
  go_enter Try.func26, Try.ntmps26
  go_wp2
  go_ret
  exact ⟨rfl, (Chg.refl [] w).alloc _⟩
set_option maxRecDepth 100000 in
set_option maxHeartbeats 1000000 in
theorem index_ok (s : ByteArray) (g q : Nat) (w : World) (r : Int) (hg : w.cell? ⟨g, 0, none⟩ = some (.string s)) (hs : g < w.heap.size) (hk : Blk w q 58 kindsC)
    (hr : (∃ k : Nat, k < 30 ∧ r = k ∧ wordS k = s ∧ ∀ j, j < k → wordS j ≠ s) ∨ (r = -1 ∧ ∀ j, j < 30 → wordS j ≠ s)) :
    Calls Try.prog 25 #[.slice (some ⟨q, 0, none⟩) 30 30, .func (.func 26) #[] #[.pointer (some ⟨g, 0, none⟩)]] w fun e w' => e = .returned (.int .i64 r) ∧ Chg [] w w' := by
  have HS := Lib.hid (fun (x : ByteArray) (n : Int) (W : World) => same_ok x s n g W)
  have HK := Lib.hid hk
  have HR := Lib.hid hr
  have HG := Lib.hid hg
  have k0 : Chg [] w w := Chg.refl _ _
  clear hk hr hg
  go_enter Try.func25, Try.ntmps25
  go_wp2
  go_loopw [8] (fun i wr => ∃ j : Nat, i = .int .i64 j ∧ j ≤ 30 ∧ Hid (∀ t, t < j → wordS t ≠ s) ∧ Chg [] w wr) (fun i _ => 30 - (intOf i).toNat)
  case atStart => exact ⟨0, rfl, by decide, fun t ht => absurd ht (by omega), k0⟩
  case round =>
    clear k0
    obtain ⟨j, rfl, hj, HE, k3⟩ := hrel
    by_cases h30 : j < 30
    · obtain ⟨d0, d1⟩ := kind_cells (HK.out.chg k3 (by simp)) j h30
      have hg3 : World.cell? _ ⟨g, 0, none⟩ = some (Value.string s) := (k3.below (B := w.heap.size) (by simp) (Nat.le_refl _)).cell hs |>.trans HG.out
      have HS' := Lib.hid (fun W h => HS.out (wordS j) (needsN j) W h)
      have hji : (j : Int) < 30 := by omega
      by_cases he : wordS j = s
      · have hb : decide (wordS j = s) = true := decide_eq_true he
        have hrj : r = j := by
          rcases HR.out with ⟨k, h1, h2, h3, h4⟩ | ⟨_, h⟩
          · rw [h2]
            congr 1
            rcases Nat.lt_trichotomy k j with q | q | q
            · exact absurd h3 (HE.out k q)
            · exact q
            · exact absurd he (h4 j q)
          · exact absurd he (h j h30)
        rw [hb] at HS'
        generalize wordS j = W at *
        generalize needsN j = N at *
        subst hrj
        clear hb he
        go_wp2_with fail
        refine Calls.mono (HS'.out _ hg3) ?_
        rintro e w4 ⟨rfl, k4⟩
        go_wp2
        go_ret
        exact ⟨rfl, k3.trans k4 (by simp)⟩
      · have hb : decide (wordS j = s) = false := decide_eq_false he
        have HE2 : Hid (∀ t, t < j + 1 → wordS t ≠ s) := fun t ht => by
          rcases Nat.lt_succ_iff_lt_or_eq.1 ht with h | rfl
          · exact HE.out t h
          · exact he
        rw [hb] at HS'
        generalize wordS j = W at *
        generalize needsN j = N at *
        clear he HE
        clear hb
        go_wp2_with fail
        refine Calls.mono (HS'.out _ hg3) ?_
        rintro e w4 ⟨rfl, k4⟩
        go_wp2
        go_roundw
        case rel => exact ⟨j + 1, by first | rfl | simp, by omega, HE2, k3.trans k4 (by simp)⟩
        case measure => simp [intOf]; omega
    · have : j = 30 := by omega
      subst this
      have hrj : r = -1 := by
        rcases HR.out with ⟨k, h1, h2, h3, h4⟩ | ⟨h, _⟩
        · exact absurd h3 (HE.out k h1)
        · exact h
      subst hrj
      clear h30 hj
      go_wp2
      go_ret
      exact ⟨rfl, k3⟩
theorem slots_differ : ∀ k : Fin 30, ∀ j : Fin 30, j < k → wordS j.val ≠ wordS k.val := by decide
theorem slots_full : ∀ j : Fin 30, wordS j.val ≠ ⟨#[]⟩ := by decide
set_option maxRecDepth 100000 in
set_option maxHeartbeats 1000000 in
theorem number_hit (k : Nat) (w : World) (hk : k < 30) : Calls Try.prog 8 #[.string (wordS k)] w fun e w' => e = .returned (.tuple #[.int .i64 k, .bool true]) ∧ Chg [] w w' := by
  have HIX := Lib.hid (fun g q W hg hs hK => index_ok (wordS k) g q W k hg hs hK (.inl ⟨k, hk, rfl, rfl, fun j hj => slots_differ ⟨k, hk⟩ ⟨j, by omega⟩ hj⟩))
  generalize wordS k = s at *
  have hmax : max (k : Int) 0 = k := by omega
  have hge : (0 : Int) ≤ k := by omega
  obtain ⟨g, eg⟩ : ∃ g, w.heap.size = g := ⟨_, rfl⟩
  have B := Blk.new' w 9 #[.string s] eg
  have K := (Chg.refl [] w).alloc (.cells #[.string s] 9)
  go_enter Try.func8, Try.ntmps8
  go_wp2_with fail
  refine Calls.mono (kinds_ok _) ?_
  rintro e w1 ⟨rfl, k1⟩
  obtain ⟨q, eq⟩ : ∃ q, w1.heap.size = q := ⟨_, rfl⟩
  have Q := Blk.new' w1 58 zK eq
  replace B := (B.chg k1 (by simp)).alloc (.cells zK 58)
  replace K := (K.trans k1 (by simp)).alloc (.cells zK 58)
  have hgq : g ≠ q := (B.ne_ Q (by decide))
  have hwq : w.heap.size ≤ q := by
    have := k1.size
    have := (Below.refl 0 w).size
    rw [← eq]; exact Nat.le_trans (by simp) k1.size
  have hgl := B.lt
  obtain ⟨W2, hW⟩ : ∃ W2, w1.alloc (.cells zK 58) = W2 := ⟨_, rfl⟩
  rw [hW] at B K Q hgl
  have HQ := Lib.hid Q
  have HT : Hid (W2.there q 0 kindsC.size) := fun j hj => ⟨by
    rw [HQ.out.cell]
    have : 0 + j < zK.size := by have : kindsC.size = zK.size := rfl; omega
    rw [Array.getElem?_eq_getElem this]; rfl, HQ.out.frozen _⟩
  have hst : (storeCells ⟨q, 0, none⟩ kindsC.toList).run Try.prog W2 = .ok () (W2.setCells q 0 kindsC.toList) := by
    refine run_storeCells_cells (P := Try.prog) q 0 kindsC.toList 0 W2 (fun j hj => ?_) (fun j hj => ?_) (fun v hv => (Array.all_eq_true_iff_forall_mem.1 one_kinds) v (Array.mem_toList_iff.1 hv))
    · have := (HT.out j (by rw [Array.length_toList] at hj; exact hj)).1
      simpa only [Nat.add_zero, Nat.zero_add] using this
    · have := (HT.out j (by rw [Array.length_toList] at hj; exact hj)).2
      simpa only [Nat.add_zero, Nat.zero_add] using this
  have Q2 : Blk (W2.setCells q 0 kindsC.toList) q 58 kindsC := by
    have := set_range HQ.out kindsC.toList (o := 0) (by have : kindsC.size = zK.size := rfl; rw [Array.length_toList]; omega)
    rw [show zK.toList.drop (0 + kindsC.toList.length) = [] from by kernel_rfl] at this
    simpa using this
  have kq : Chg [q] W2 (W2.setCells q 0 kindsC.toList) := (Chg.refl _ _).setCells (.inl (by simp)) _ _
  have B2 := B.chg kq (by simpa using hgq)
  have K2 := K.setCells (g := q) (.inr hwq) kindsC.toList 0
  have hgl2 := B2.lt
  have hsz : kindsC.size = 60 := rfl
  obtain ⟨U, hU⟩ : ∃ U, W2.setCells q 0 kindsC.toList = U := ⟨_, rfl⟩
  rw [hU] at hst Q2 K2 B2 hgl2
  have HCA := HIX.out g q U (B2.cell 0) hgl2 Q2
  have HC := Lib.hid HCA
  rw [← hW] at hst
  clear k1 HIX HCA HQ HT kq hgl hwq hgq K B Q hW hU
  generalize kindsC = KC at *
  go_wp2_with fail
  refine Calls.mono HC.out ?_
  rintro e w3 ⟨rfl, k3⟩
  go_wp2
  go_ret2
  exact ⟨rfl, K2.trans k3 (by simp)⟩
set_option maxRecDepth 100000 in
set_option maxHeartbeats 1000000 in
theorem number_miss (s : ByteArray) (w : World) (hm : ∀ j, j < 30 → wordS j ≠ s) : Calls Try.prog 8 #[.string s] w fun e w' => e = .returned (.tuple #[.int .i64 0, .bool false]) ∧ Chg [] w w' := by
  have HIX := Lib.hid (fun g q W hg hs hK => index_ok s g q W (-1) hg hs hK (.inr ⟨rfl, hm⟩))
  obtain ⟨g, eg⟩ : ∃ g, w.heap.size = g := ⟨_, rfl⟩
  have B := Blk.new' w 9 #[.string s] eg
  have K := (Chg.refl [] w).alloc (.cells #[.string s] 9)
  go_enter Try.func8, Try.ntmps8
  go_wp2_with fail
  refine Calls.mono (kinds_ok _) ?_
  rintro e w1 ⟨rfl, k1⟩
  obtain ⟨q, eq⟩ : ∃ q, w1.heap.size = q := ⟨_, rfl⟩
  have Q := Blk.new' w1 58 zK eq
  replace B := (B.chg k1 (by simp)).alloc (.cells zK 58)
  replace K := (K.trans k1 (by simp)).alloc (.cells zK 58)
  have hgq : g ≠ q := (B.ne_ Q (by decide))
  have hwq : w.heap.size ≤ q := by
    have := k1.size
    have := (Below.refl 0 w).size
    rw [← eq]; exact Nat.le_trans (by simp) k1.size
  have hgl := B.lt
  obtain ⟨W2, hW⟩ : ∃ W2, w1.alloc (.cells zK 58) = W2 := ⟨_, rfl⟩
  rw [hW] at B K Q hgl
  have HQ := Lib.hid Q
  have HT : Hid (W2.there q 0 kindsC.size) := fun j hj => ⟨by
    rw [HQ.out.cell]
    have : 0 + j < zK.size := by have : kindsC.size = zK.size := rfl; omega
    rw [Array.getElem?_eq_getElem this]; rfl, HQ.out.frozen _⟩
  have hst : (storeCells ⟨q, 0, none⟩ kindsC.toList).run Try.prog W2 = .ok () (W2.setCells q 0 kindsC.toList) := by
    refine run_storeCells_cells (P := Try.prog) q 0 kindsC.toList 0 W2 (fun j hj => ?_) (fun j hj => ?_) (fun v hv => (Array.all_eq_true_iff_forall_mem.1 one_kinds) v (Array.mem_toList_iff.1 hv))
    · have := (HT.out j (by rw [Array.length_toList] at hj; exact hj)).1
      simpa only [Nat.add_zero, Nat.zero_add] using this
    · have := (HT.out j (by rw [Array.length_toList] at hj; exact hj)).2
      simpa only [Nat.add_zero, Nat.zero_add] using this
  have Q2 : Blk (W2.setCells q 0 kindsC.toList) q 58 kindsC := by
    have := set_range HQ.out kindsC.toList (o := 0) (by have : kindsC.size = zK.size := rfl; rw [Array.length_toList]; omega)
    rw [show zK.toList.drop (0 + kindsC.toList.length) = [] from by kernel_rfl] at this
    simpa using this
  have kq : Chg [q] W2 (W2.setCells q 0 kindsC.toList) := (Chg.refl _ _).setCells (.inl (by simp)) _ _
  have B2 := B.chg kq (by simpa using hgq)
  have K2 := K.setCells (g := q) (.inr hwq) kindsC.toList 0
  have hgl2 := B2.lt
  have hsz : kindsC.size = 60 := rfl
  obtain ⟨U, hU⟩ : ∃ U, W2.setCells q 0 kindsC.toList = U := ⟨_, rfl⟩
  rw [hU] at hst Q2 K2 B2 hgl2
  have HCA := HIX.out g q U (B2.cell 0) hgl2 Q2
  have HC := Lib.hid HCA
  rw [← hW] at hst
  clear k1 HIX HCA HQ HT kq hgl hwq hgq K B Q hW hU
  generalize kindsC = KC at *
  go_wp2_with fail
  refine Calls.mono HC.out ?_
  rintro e w3 ⟨rfl, k3⟩
  go_wp2
  go_ret2
  exact ⟨rfl, K2.trans k3 (by simp)⟩
end Go.Proofs.Ytdconfciacldmaa.CallNumber
