/- Calls as words: plain facts, Put. -/
import Derived.Test.YtdconfciacldmaaCallRight
import Derived.Test.YtdconfciacldmaaRefUnpack
import Derived.Deep.RegionHeld3
namespace Go.Proofs.Ytdconfciacldmaa.CallW
open Go Go.RowKit Go.Proofs.Ytdconfciacldmaa Go.Proofs.Ytdconfciacldmaa.Heap Go.Proofs.Ytdconfciacldmaa.Bits Go.Proofs.Ytdconfciacldmaa.Field Go.Proofs.Ytdconfciacldmaa.Places Go.Proofs.Ytdconfciacldmaa.Parts Go.Proofs.Ytdconfciacldmaa.Unpack Go.Proofs.Ytdconfciacldmaa.Call Go.Proofs.Ytdconfciacldmaa.CallRight

abbrev W6 : List Int := [8, 8, 16, 16, 8, 8]
/-- The word of a call. -/
def callWord (n a0 a1 a2 a3 a4 : Int) : Int := n + a0 * 256 + a1 * 65536 + a2 * 4294967296 + a3 * 281474976710656 + a4 * 72057594037927936
theorem all6 : AllCan W6 6 := by decide
theorem pack6 {n a0 a1 a2 a3 a4 : Int} (n0 : 0 ≤ n) (n1 : n < 256) (x0 : 0 ≤ a0 ∧ a0 < 256) (x1 : 0 ≤ a1 ∧ a1 < 65536) (x2 : 0 ≤ a2 ∧ a2 < 65536) (x3 : 0 ≤ a3 ∧ a3 < 256) (x4 : 0 ≤ a4 ∧ a4 < 256) : packS W6 [n, a0, a1, a2, a3, a4] = (callWord n a0 a1 a2 a3 a4, 0) := by
  have hf : FitAll W6 [n, a0, a1, a2, a3, a4] 6 := by
    intro j hj
    have : j = 0 ∨ j = 1 ∨ j = 2 ∨ j = 3 ∨ j = 4 ∨ j = 5 := by omega
    rcases this with rfl | rfl | rfl | rfl | rfl | rfl <;> (unfold fitsB; simp; omega)
  unfold packS
  rw [if_pos ⟨all6, hf⟩]
  refine Prod.ext ?_ rfl
  simp [accS, wd, st, sumTo, callWord]
  omega
theorem unp6 {u : Int} (h0 : 0 ≤ u) (h1 : u < 18446744073709551616) : UnpOk W6 u ∧ partsL W6 u 6 = [u % 256, u / 256 % 256, u / 65536 % 65536, u / 4294967296 % 65536, u / 281474976710656 % 256, u / 72057594037927936 % 256] := by
  obtain ⟨n, rfl⟩ := Int.eq_ofNat_of_zero_le h0
  constructor
  · unfold UnpOk
    rw [show W6.length = 6 from rfl]
    refine ⟨all6, ?_⟩
    unfold fitsB
    simp [sumTo]
    omega
  · simp [partsL, List.range, List.range.loop, Parts.partAt, getN, st, wd, sumTo]
theorem nums6 {w : World} {b : Nat} {ty : Nat} (h : Blk w b ty w6C) : Nums w .i64 (some ⟨b, 0, none⟩) 6 W6 := by
  refine Nums.of_blk (xs := W6) h (by decide) ?_
  intro j hj
  have : j = 0 ∨ j = 1 ∨ j = 2 ∨ j = 3 ∨ j = 4 ∨ j = 5 := by simp at hj; omega
  rcases this with rfl | rfl | rfl | rfl | rfl | rfl <;> rfl
theorem numsOf6 {W : World} {b : Nat} {ty : Nat} {k r t l e f : Int} (h : Blk W b ty #[.int .u64 k, .int .u64 r, .int .u64 t, .int .u64 l, .int .u64 e, .int .u64 f]) : Nums W .u64 (some ⟨b, 0, none⟩) 6 [k, r, t, l, e, f] := by
  refine Nums.of_blk (xs := [k, r, t, l, e, f]) h (by simp) ?_
  intro j hj
  have : j = 0 ∨ j = 1 ∨ j = 2 ∨ j = 3 ∨ j = 4 ∨ j = 5 := by simp at hj; omega
  rcases this with rfl | rfl | rfl | rfl | rfl | rfl <;> rfl
theorem argOk_bd {n x : Int} {i : Nat} (hi : i < 5) (h : argOk n i x = true) : 0 ≤ x ∧ x < 2 ^ ([8, 16, 16, 8, 8].getD i 0) ∧ (needsF n ≤ i → x = 0) := by
  unfold argOk fitsB at h
  simp only [Bool.and_eq_true, Bool.or_eq_true, decide_eq_true_eq] at h
  obtain ⟨⟨h0, h1⟩, h2⟩ := h
  refine ⟨h0, ?_, fun q => by rcases h2 with h2 | h2 <;> omega⟩
  rcases (by omega : i = 0 ∨ i = 1 ∨ i = 2 ∨ i = 3 ∨ i = 4) with rfl | rfl | rfl | rfl | rfl <;> simp at h1 ⊢ <;> omega
theorem right_bd {n a0 a1 a2 a3 a4 : Int} (h : rightC n a0 a1 a2 a3 a4 = true) : (0 ≤ n ∧ n ≤ 29) ∧ (0 ≤ a0 ∧ a0 < 256) ∧ (0 ≤ a1 ∧ a1 < 65536) ∧ (0 ≤ a2 ∧ a2 < 65536) ∧ (0 ≤ a3 ∧ a3 < 256) ∧ (0 ≤ a4 ∧ a4 < 256) := by
  unfold rightC at h
  simp only [Bool.and_eq_true, decide_eq_true_eq] at h
  obtain ⟨⟨⟨⟨⟨h, x0⟩, x1⟩, x2⟩, x3⟩, x4⟩ := h
  have y0 := argOk_bd (by decide) x0
  have y1 := argOk_bd (by decide) x1
  have y2 := argOk_bd (by decide) x2
  have y3 := argOk_bd (by decide) x3
  have y4 := argOk_bd (by decide) x4
  simp at y0 y1 y2 y3 y4
  omega
/-- The row that Put fills, after j rounds. -/
abbrev rowP (n a0 a1 a2 a3 a4 : Int) (j : Nat) : Array Value := #[.int .u64 n, .int .u64 (if 0 < j then a0 else 0), .int .u64 (if 1 < j then a1 else 0), .int .u64 (if 2 < j then a2 else 0), .int .u64 (if 3 < j then a3 else 0), .int .u64 (if 4 < j then a4 else 0)]
def putK1 (n a0 a1 a2 a3 a4 : Int) : Int := if rightC n a0 a1 a2 a3 a4 then callWord n a0 a1 a2 a3 a4 else 0
set_option maxRecDepth 100000 in
set_option maxHeartbeats 4000000 in
theorem putK_ok (n a0 a1 a2 a3 a4 : Int) (w : World) (h0 : a0 < 9223372036854775808) (h1 : a1 < 9223372036854775808) (h2 : a2 < 9223372036854775808) (h3 : a3 < 9223372036854775808) (h4 : a4 < 9223372036854775808) :
    Calls Try.prog 4 #[callV n a0 a1 a2 a3 a4] w fun e w' => e = .returned (.tuple #[.int .u64 (putK1 n a0 a1 a2 a3 a4), .int .i64 (errC (rightC n a0 a1 a2 a3 a4))]) ∧ Chg [] w w' := by
  unfold putK1
  have hbd := right_bd (n := n) (a0 := a0) (a1 := a1) (a2 := a2) (a3 := a3) (a4 := a4)
  have HR := fun w => right_ok n a0 a1 a2 a3 a4 w h0 h1 h2 h3 h4
  generalize rightC n a0 a1 a2 a3 a4 = R at *
  have HR' := Lib.hid HR
  clear HR h0 h1 h2 h3 h4
  obtain ⟨b, eb⟩ : ∃ b, w.heap.size = b := ⟨_, rfl⟩
  have B := Blk.new' w 24 (callC n a0 a1 a2 a3 a4) eb
  have K := (Chg.refl [] w).alloc (.cells (callC n a0 a1 a2 a3 a4) 24)
  cases R with
  | false =>
    clear hbd
    obtain ⟨c0, c1, c2, c3, c4, c5⟩ := blk6 B
    go_enter Try.func4, Try.ntmps4
    go_wp2_with (go_at_call 17; refine Calls.mono (HR'.out _) ?_; rintro e' w1 ⟨rfl, k1⟩; replace K := K.trans k1 (by simp))
    go_ret2
    exact ⟨rfl, K⟩
  | true =>
    obtain ⟨m, m0, m1, m2, m3, m4⟩ := hbd rfl
    have HP : Hid (packS W6 [n, a0, a1, a2, a3, a4] = (callWord n a0 a1 a2 a3 a4, 0)) := pack6 m.1 (by omega) m0 m1 m2 m3 m4
    have HVS : Hid (∀ x ∈ [n, a0, a1, a2, a3, a4], 0 ≤ x ∧ x < 18446744073709551616) := by
      intro x hx
      simp at hx
      rcases hx with rfl | rfl | rfl | rfl | rfl | rfl <;> omega
    rw [if_pos rfl]
    generalize callWord n a0 a1 a2 a3 a4 = cw at *
    have vn : IntKind.u64.wrap n = n := by rw [IntKind.wrap_u64]; omega
    have v0 : IntKind.u64.wrap a0 = a0 := by rw [IntKind.wrap_u64]; omega
    have v1 : IntKind.u64.wrap a1 = a1 := by rw [IntKind.wrap_u64]; omega
    have v2 : IntKind.u64.wrap a2 = a2 := by rw [IntKind.wrap_u64]; omega
    have v3 : IntKind.u64.wrap a3 = a3 := by rw [IntKind.wrap_u64]; omega
    have v4 : IntKind.u64.wrap a4 = a4 := by rw [IntKind.wrap_u64]; omega
    clear hbd m m0 m1 m2 m3 m4
    obtain ⟨c0, c1, c2, c3, c4, c5⟩ := blk6 B
    go_enter Try.func4, Try.ntmps4
    go_wp2_with fail
    refine Calls.mono (HR'.out _) ?_
    rintro e' w1 ⟨rfl, k1⟩
    replace B := B.chg k1 (by simp)
    replace K := K.trans k1 (by simp)
    clear c0 c1 c2 c3 c4 c5
    obtain ⟨c0, c1, c2, c3, c4, c5⟩ := blk6 B
    obtain ⟨x, ex⟩ : ∃ x, w1.heap.size = x := ⟨_, rfl⟩
    have A : Blk (w1.alloc (.cells #[.int .u64 n, .int .u64 0, .int .u64 0, .int .u64 0, .int .u64 0, .int .u64 0] 44)) x 44 (rowP n a0 a1 a2 a3 a4 0) := Blk.new' w1 44 #[.int .u64 n, .int .u64 0, .int .u64 0, .int .u64 0, .int .u64 0, .int .u64 0] ex
    have hbx : b < x := by rw [← ex]; exact B.lt
    have hxw : w.heap.size ≤ x := by rw [eb]; exact Nat.le_of_lt hbx
    replace B := B.alloc (.cells #[.int .u64 n, .int .u64 0, .int .u64 0, .int .u64 0, .int .u64 0, .int .u64 0] 44)
    replace K := K.alloc (.cells #[.int .u64 n, .int .u64 0, .int .u64 0, .int .u64 0, .int .u64 0, .int .u64 0] 44)
    go_wp2_with fail
    obtain ⟨W3, hW⟩ : ∃ W3, w1.alloc (.cells #[.int .u64 n, .int .u64 0, .int .u64 0, .int .u64 0, .int .u64 0, .int .u64 0] 44) = W3 := ⟨_, rfl⟩
    rw [hW] at A B K ⊢
    have k0 : Chg [x] W3 W3 := Chg.refl _ _
    have J0 := fun (w : World) => jx0 (.int .i64 a0) (.int .i64 a1) (.int .i64 a2) (.int .i64 a3) (.int .i64 a4) w
    have J1 := fun (w : World) => jx1 (.int .i64 a0) (.int .i64 a1) (.int .i64 a2) (.int .i64 a3) (.int .i64 a4) w
    have J2 := fun (w : World) => jx2 (.int .i64 a0) (.int .i64 a1) (.int .i64 a2) (.int .i64 a3) (.int .i64 a4) w
    have J3 := fun (w : World) => jx3 (.int .i64 a0) (.int .i64 a1) (.int .i64 a2) (.int .i64 a3) (.int .i64 a4) w
    have J4 := fun (w : World) => jx4 (.int .i64 a0) (.int .i64 a1) (.int .i64 a2) (.int .i64 a3) (.int .i64 a4) w
    have hxS : ∀ y, y ∈ [x] → y ∈ ([] : List Nat) ∨ w.heap.size ≤ y := fun y hy => by simp at hy; subst hy; exact .inr hxw
    try rw [ex]
    clear hW ex eb c0 c1 c2 c3 c4 c5 k1
    go_loopw [17] (fun i wr => ∃ j : Nat, i = .int .i64 j ∧ j ≤ 5 ∧ Blk wr x 44 (rowP n a0 a1 a2 a3 a4 j) ∧ Chg [x] W3 wr) (fun i _ => 5 - (intOf i).toNat)
    case atStart => exact ⟨0, rfl, by decide, A, k0⟩
    case round =>
      clear k0 A
      obtain ⟨j, rfl, hj, A, k3⟩ := hrel
      have j5 : j = 0 ∨ j = 1 ∨ j = 2 ∨ j = 3 ∨ j = 4 ∨ j = 5 := by omega
      rcases j5 with rfl | rfl | rfl | rfl | rfl | rfl
      · as_aux_lemma =>
        have f := A.frozen 1
        have g := A.cell 1
        go_wp2
        go_roundw
        case rel => exact ⟨1, rfl, by decide, A.set_ 1 _, k3.setCell (p := ⟨x, 1, none⟩) (.inl (by simp)) _⟩
        case measure => simp [intOf]
      · as_aux_lemma =>
        have f := A.frozen 2
        have g := A.cell 2
        go_wp2
        go_roundw
        case rel => exact ⟨2, rfl, by decide, A.set_ 2 _, k3.setCell (p := ⟨x, 2, none⟩) (.inl (by simp)) _⟩
        case measure => simp [intOf]
      · as_aux_lemma =>
        have f := A.frozen 3
        have g := A.cell 3
        go_wp2
        go_roundw
        case rel => exact ⟨3, rfl, by decide, A.set_ 3 _, k3.setCell (p := ⟨x, 3, none⟩) (.inl (by simp)) _⟩
        case measure => simp [intOf]
      · as_aux_lemma =>
        have f := A.frozen 4
        have g := A.cell 4
        go_wp2
        go_roundw
        case rel => exact ⟨4, rfl, by decide, A.set_ 4 _, k3.setCell (p := ⟨x, 4, none⟩) (.inl (by simp)) _⟩
        case measure => simp [intOf]
      · as_aux_lemma =>
        have f := A.frozen 5
        have g := A.cell 5
        go_wp2
        go_roundw
        case rel => exact ⟨5, rfl, by decide, A.set_ 5 _, k3.setCell (p := ⟨x, 5, none⟩) (.inl (by simp)) _⟩
        case measure => simp [intOf]
      · clear J0 J1 J2 J3 J4
        have K3 := K.trans k3 hxS
        have A3 : Blk _ x 44 #[.int .u64 n, .int .u64 a0, .int .u64 a1, .int .u64 a2, .int .u64 a3, .int .u64 a4] := A
        clear A k3 hxS K B
        go_wp2_with fail
        refine Calls.mono (widths_ok _) ?_
        rintro e' w4 ⟨rfl, k4⟩
        replace A3 := (A3.chg k4 (by simp)).alloc (.cells w6C 45)
        replace K3 := (K3.trans k4 (by simp)).alloc (.cells w6C 45)
        obtain ⟨y, ey⟩ : ∃ y, w4.heap.size = y := ⟨_, rfl⟩
        have Y := Blk.new' w4 45 w6C ey
        clear k4
        obtain ⟨V5, eV5⟩ : ∃ V5, w4.alloc (.cells w6C 45) = V5 := ⟨_, rfl⟩
        rw [eV5] at A3 K3 Y
        have hp := Pack.pack_ok (some ⟨y, 0, none⟩) (some ⟨x, 0, none⟩) 6 6 6 6 W6 [n, a0, a1, a2, a3, a4] V5.drew (nums6 Y.drew) (numsOf6 A3.drew) rfl HVS.out
        rw [packV_eq (ns := W6) HVS.out rfl, HP.out] at hp
        have HPk : Hid (Calls Try.prog 19 #[.slice (some ⟨y, 0, none⟩) 6 6, .slice (some ⟨x, 0, none⟩) 6 6] V5.drew fun e w' => e = .returned (.tuple #[.int .u64 cw, .int .i64 0]) ∧ Chg [] V5.drew w') := hp
        clear hp
        replace K3 := K3.drew
        go_wp2
        try rw [eV5]
        try rw [ey]
        go_region_held3 (fun _ => True) (trivial) ((go_at_call 19; refine Calls.mono HPk.out ?_; rintro e' w6 ⟨rfl, k6⟩; replace K3 := K3.trans k6 (by simp)))
        go_wp2
        go_ret2
        exact ⟨rfl, K3⟩
end Go.Proofs.Ytdconfciacldmaa.CallW
