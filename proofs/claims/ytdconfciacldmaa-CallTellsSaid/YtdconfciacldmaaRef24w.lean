/- Package palanquinref24: Put. -/
import Derived.Test.YtdconfciacldmaaRef24c
namespace Go.Proofs.Ytdconfciacldmaa.Ref24w
open Go Go.RowKit Go.Proofs.Ytdconfciacldmaa Go.Proofs.Ytdconfciacldmaa.Heap Go.Proofs.Ytdconfciacldmaa.Bits Go.Proofs.Ytdconfciacldmaa.Field Go.Proofs.Ytdconfciacldmaa.Places Go.Proofs.Ytdconfciacldmaa.Parts Go.Proofs.Ytdconfciacldmaa.Unpack Go.Proofs.Ytdconfciacldmaa.Call Go.Proofs.Ytdconfciacldmaa.CallRight Go.Proofs.Ytdconfciacldmaa.CallW Go.Proofs.Ytdconfciacldmaa.Ref24 Go.Proofs.Ytdconfciacldmaa.Ref24c

theorem take_snoc (L : List Int) : ∀ j, j < L.length → L.take (j + 1) = L.take j ++ [L.getD j 0] := by
  intro j hj
  rw [List.take_add_one, List.getD_eq_getElem?_getD, List.getElem?_eq_getElem hj]
  rfl
theorem info_u64 : (Try.prog.info? 25).map (fun i => (i.zero, i.size, i.bytes)) = some (some (.int .u64 0), 1, 8) := by rfl
set_option maxRecDepth 100000 in
set_option maxHeartbeats 4000000 in
theorem putR_ok (n a0 a1 a2 a3 a4 : Int) (w : World) (h0 : a0 < 9223372036854775808) (h1 : a1 < 9223372036854775808) (h2 : a2 < 9223372036854775808) (h3 : a3 < 9223372036854775808) (h4 : a4 < 9223372036854775808) :
    Calls Try.prog 5 #[callV n a0 a1 a2 a3 a4] w fun e w' => e = .returned (.tuple #[.int .u64 (putK1 n a0 a1 a2 a3 a4), .int .i64 (errC (rightC n a0 a1 a2 a3 a4))]) ∧ Chg [] w w' := by
  unfold putK1
  have hbd := right_bd (n := n) (a0 := a0) (a1 := a1) (a2 := a2) (a3 := a3) (a4 := a4)
  have HR := fun w => checkR_ok n a0 a1 a2 a3 a4 w h0 h1 h2 h3 h4
  generalize rightC n a0 a1 a2 a3 a4 = R at *
  have HR' := Lib.hid HR
  clear HR h0 h1 h2 h3 h4
  obtain ⟨b, eb⟩ : ∃ b, w.heap.size = b := ⟨_, rfl⟩
  have B := Blk.new' w 24 (callC n a0 a1 a2 a3 a4) eb
  have K := (Chg.refl [] w).alloc (.cells (callC n a0 a1 a2 a3 a4) 24)
  cases R with
  | false =>
    clear hbd
    obtain ⟨c0, c1, c2, c3, c4, c5⟩ := blk6 B
    have e1 : errC false = 1 := rfl
    rw [e1] at HR' ⊢
    go_enter Try.func5, Try.ntmps5
    go_wp2_with (go_at_call 11; refine Calls.mono (HR'.out _) ?_; rintro e' w1 ⟨rfl, k1⟩; replace K := K.trans k1 (by simp))
    go_ret2
    exact ⟨rfl, K⟩
  | true =>
    obtain ⟨m, m0, m1, m2, m3, m4⟩ := hbd rfl
    have HP : Hid (packS W6 [n, a0, a1, a2, a3, a4] = (callWord n a0 a1 a2 a3 a4, 0)) := pack6 m.1 (by omega) m0 m1 m2 m3 m4
    have HVS : Hid (∀ x ∈ [n, a0, a1, a2, a3, a4], 0 ≤ x ∧ x < 18446744073709551616) := by
      intro x hx
      simp at hx
      rcases hx with rfl | rfl | rfl | rfl | rfl | rfl <;> omega
    have HVN : Hid (∀ j, j < 5 → 0 ≤ argN a0 a1 a2 a3 a4 j ∧ argN a0 a1 a2 a3 a4 j < 18446744073709551616) := by
      intro j hj
      rcases (by omega : j = 0 ∨ j = 1 ∨ j = 2 ∨ j = 3 ∨ j = 4) with rfl | rfl | rfl | rfl | rfl <;> simp <;> omega
    have HT : Hid (∀ j, j < 5 → [a0, a1, a2, a3, a4].take (j + 1) = [a0, a1, a2, a3, a4].take j ++ [argN a0 a1 a2 a3 a4 j]) := fun j hj => take_snoc _ j hj
    have hA := Lib.hid (call_at n a0 a1 a2 a3 a4)
    rw [if_pos rfl]
    have e1 : errC true = 0 := rfl
    rw [e1] at HR' ⊢
    generalize callWord n a0 a1 a2 a3 a4 = cw at *
    have vn : IntKind.u64.wrap n = n := by rw [IntKind.wrap_u64]; omega
    clear hbd m m0 m1 m2 m3 m4
    obtain ⟨c0, c1, c2, c3, c4, c5⟩ := blk6 B
    go_enter Try.func5, Try.ntmps5
    go_wp2_with fail
    refine Calls.mono (HR'.out _) ?_
    rintro e' w1 ⟨rfl, k1⟩
    replace B := B.chg k1 (by simp)
    replace K := K.trans k1 (by simp)
    clear c0 c1 c2 c3 c4 c5
    have c0 := B.cell 0
    go_wp2_with fail
    have o1 : _ := own_lit (size := 1) w1 25 #[.int .u64 n] 1 (by decide) rfl
    have k2 := (Chg.refl [] w1).alloc (.cells #[.int .u64 n] 25)
    obtain ⟨x, ex⟩ : ∃ x, w1.heap.size = x := ⟨_, rfl⟩
    obtain ⟨W3, hW⟩ : ∃ W3, w1.alloc (.cells #[.int .u64 n] 25) = W3 := ⟨_, rfl⟩
    have hbx : b < x := by rw [← ex]; exact B.lt
    rw [hW] at k2 o1 ⊢
    rw [ex] at o1
    try rw [ex]
    clear hW c0
    go_loopw [4, 5] (fun s i wr => ∃ (j : Nat) (v : Value), i = .int .i64 j ∧ v = s ∧ j ≤ 5 ∧ Hid (wr.ownsRow 0 25 1 v (j + 1) (nums .u64 (n :: [a0, a1, a2, a3, a4].take j)) ∧ (∀ g, v.ownBlock = some g → x ≤ g)) ∧ Hid (Chg [] w1 wr)) (fun _ i _ => 5 - (intOf i).toNat)
    case atStart => exact ⟨0, _, rfl, rfl, by decide, ⟨o1, fun g hg => by simp [Value.ownBlock] at hg; omega⟩, k2⟩
    case round =>
      clear k2 o1
      obtain ⟨j, v, rfl, rfl, hj, HO, HC⟩ := hrel
      rcases (by omega : j = 5 ∨ j < 5) with rfl | j5
      · have C2 := K.trans HC.out (by simp)
        have o4 : World.ownsRow _ 0 25 1 v 6 (nums .u64 [n, a0, a1, a2, a3, a4]) := HO.out.1
        obtain ⟨q, cap, rfl, -, -⟩ := o4.form (by decide)
        clear HO HC B K
        go_wp2_with fail
        refine Calls.mono (widths_ok _) ?_
        rintro e' w4 ⟨g, rfl, G, -, k4⟩
        replace C2 := C2.trans k4 (by simp)
        replace o4 := own_chg o4 k4 (by simp)
        have hp := RefPack.pack_ok (some ⟨g, 0, none⟩) (some ⟨q, 0, none⟩) 6 6 6 cap W6 [n, a0, a1, a2, a3, a4] w4 (nums6 G) (own_nums o4 (by decide)) rfl HVS.out
        rw [HP.out] at hp
        have HPk := Lib.hid hp
        clear hp G k4 o4
        go_wp2_with fail
        refine Calls.mono HPk.out ?_
        rintro e' w6 ⟨rfl, kq, rfl⟩
        replace C2 := C2.drewN kq
        go_wp2
        go_ret2
        exact ⟨rfl, C2⟩
      · have B' := B.chg HC.out (by simp)
        have cX := (B'.cell (1 + j)).trans (hA.out j j5)
        obtain ⟨hv0, hv1⟩ := HVN.out j j5
        have hT := Lib.hid (HT.out j j5)
        have hji : (j : Int) < 5 := by omega
        generalize argN a0 a1 a2 a3 a4 j = y at *
        have hwy : IntKind.u64.wrap y = y := by rw [IntKind.wrap_u64]; omega
        go_wp2_with (at_builtin; refine wpList_app rfl (.tmp 17) (.tmp 23) 49 rfl 25 (.int .u64 0) 1 8 Try.underlying49 info_u64 rfl (by decide) (by decide) v (j + 1) (nums .u64 (n :: [a0, a1, a2, a3, a4].take j)) rfl (HO.out.1.alloc _) ⟨wr.heap.size, 0, none⟩ 1 1 [.int .u64 y] rfl rfl (cell_one_new wr _ _) (by simp [Value.oneCell']) (by decide) (by omega) ?_; intro q cap1 w5 o5 k5 hq5 lt5)
        have O2 : w5.ownsRow 0 25 1 (.slice (some ⟨q, 0, none⟩) (j + 1 + 1) cap1) (j + 1 + 1) (nums .u64 (n :: [a0, a1, a2, a3, a4].take (j + 1))) := by
          rw [hT.out, show nums .u64 (n :: ([a0, a1, a2, a3, a4].take j ++ [y])) = nums .u64 (n :: [a0, a1, a2, a3, a4].take j) ++ [.int .u64 y] by simp [nums]]
          exact o5
        have Q2 : ∀ g', (Value.slice (some ⟨q, 0, none⟩) (j + 1 + 1) cap1).ownBlock = some g' → x ≤ g' := fun g' hg' => by
          have e : q = g' := by simpa [Value.ownBlock] using hg'
          subst e
          rcases hq5 with h | h
          · exact HO.out.2 q h
          · have := HC.out.size
            simp at h; omega
        have C2 : Chg [] w1 w5 := (HC.out.alloc _).trans k5 (fun s hs => .inr (by rw [ex]; exact HO.out.2 s (by simpa using hs)))
        clear hT HO HC
        go_roundw
        case rel => exact ⟨j + 1, _, by go_num, rfl, by omega, ⟨O2, Q2⟩, C2⟩
        case measure => simp [intOf]; omega
end Go.Proofs.Ytdconfciacldmaa.Ref24w
