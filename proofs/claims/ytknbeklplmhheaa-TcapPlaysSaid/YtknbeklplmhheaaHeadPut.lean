/- Put of package head, and of package palanquinref10. -/
import Derived.Test.YtknbeklplmhheaaHead
import Derived.Test.YtknbeklplmhheaaRefPack
import Derived.Test.YtknbeklplmhheaaUnpack
import Derived.Deep.RegionHeld3
import Derived.Lib.Hide
namespace Go.Proofs.Ytknbeklplmhheaa.HeadPut
open Go Go.RowKit Go.Proofs.Ytknbeklplmhheaa Go.Proofs.Ytknbeklplmhheaa.Heap Go.Proofs.Ytknbeklplmhheaa.Bits Go.Proofs.Ytknbeklplmhheaa.Field Go.Proofs.Ytknbeklplmhheaa.Places Go.Proofs.Ytknbeklplmhheaa.Parts Go.Proofs.Ytknbeklplmhheaa.Unpack Go.Proofs.Ytknbeklplmhheaa.Head Go.Proofs.Ytknbeklplmhheaa.Mem Go.Proofs.Ytknbeklplmhheaa.Two

abbrev z4C : Array Value := #[.int .u64 0, .int .u64 0, .int .u64 0, .int .u64 0]
set_option maxRecDepth 100000 in
set_option maxHeartbeats 4000000 in
theorem words_ok (k l : Int) (f : Bool) (t : Int) (h : rightH k l f t = true) (w : World) : Calls Try.prog 110 #[headV k l f t] w fun e w' => e = .returned (.agg #[.int .u64 (wordH k l f), .int .u64 t, .int .u64 0, .int .u64 0]) ∧ Chg [] w w' := by
  have HP : Hid (packS W3 [k, l, b2i f] = (wordH k l f, 0)) := pack_right h
  obtain ⟨m0, m1, m2, m3, m4, m5⟩ := right_bd h
  clear h
  generalize wordH k l f = cw at *
  obtain ⟨b, eb⟩ : ∃ b, w.heap.size = b := ⟨_, rfl⟩
  have B := (Blk.new' w 102 (headC k l f t) eb).alloc (.cells z4C 154)
  have Z : Blk ((w.alloc (.cells (headC k l f t) 102)).alloc (.cells z4C 154)) (b + 1) 154 z4C := Blk.new' _ _ _ (by simp; omega)
  have K := ((Chg.refl [] w).alloc (.cells (headC k l f t) 102)).alloc (.cells z4C 154)
  have v0 : IntKind.u64.wrap k = k := by rw [IntKind.wrap_u64]; omega
  have v1 : IntKind.u64.wrap l = l := by rw [IntKind.wrap_u64]; omega
  have v2 : IntKind.u64.wrap t = t := by rw [IntKind.wrap_u64]; omega
  obtain ⟨o, eo⟩ : ∃ o, b2i f = o := ⟨_, rfl⟩
  have o0 : 0 ≤ o ∧ o ≤ 1 := by rw [← eo]; exact b2i_bd f
  rw [eo] at HP
  have HVS : Hid (∀ x ∈ [k, l, o], 0 ≤ x ∧ x < 18446744073709551616) := by
    intro x hx
    simp at hx
    rcases hx with rfl | rfl | rfl <;> omega
  clear o0
  cases f
  · obtain rfl : 0 = o := eo
    obtain ⟨c0, c1, c2, c3⟩ := blk4 B
    go_enter Try.func110, Try.ntmps110
    go_wp2_with fail
    clear c0 c1 c2 c3
    replace B := B.drew
    replace Z := Z.drew
    replace K := K.drew
    generalize (w.alloc (.cells (headC k l false t) 102)).alloc (.cells z4C 154) = W0 at *
    go_region_held3 (fun V => V.cell? ⟨b, 0, none⟩ = some (.int .i64 k) ∧ V.cell? ⟨b, 1, none⟩ = some (.int .i64 l)) (first | exact ⟨B.cell 0, B.cell 1⟩ | exact ⟨(B.alloc (.cells #[.int .u64 k, .int .u64 l, .int .u64 0] 36)).cell 0, (B.alloc (.cells #[.int .u64 k, .int .u64 l, .int .u64 0] 36)).cell 1⟩)
      (first
        | (go_at_call 117; refine Calls.mono (widths_ok W0.drew) ?_; rintro e' w2 ⟨y, rfl, bg, hyg, k2⟩; replace B := B.chg k2 (by simp); replace Z := Z.chg k2 (by simp); replace K := K.trans k2 (by simp))
        | (go_at_call 117; refine Calls.mono (widths_ok (W0.drew.alloc (.cells #[.int .u64 k, .int .u64 l, .int .u64 0] 36))) ?_; rintro e' w2 ⟨y, rfl, bg, hyg, k2⟩; have nv := numsOf3 ((Blk.new W0.drew 36 #[.int .u64 k, .int .u64 l, .int .u64 0]).chg k2 (by simp)); replace B := (B.alloc (.cells #[.int .u64 k, .int .u64 l, .int .u64 0] 36)).chg k2 (by simp); replace Z := (Z.alloc (.cells #[.int .u64 k, .int .u64 l, .int .u64 0] 36)).chg k2 (by simp); replace K := (K.alloc (.cells #[.int .u64 k, .int .u64 l, .int .u64 0] 36)).trans k2 (by simp))
        | (go_at_call 116; have hq := Pack.pack_ok (some ⟨y, 0, none⟩) (some ⟨W0.drew.heap.size, 0, none⟩) 3 3 3 3 W3 [k, l, 0] w2 (nums3 bg) nv rfl HVS.out; rw [packV_eq (ns := W3) HVS.out rfl, HP.out] at hq; refine Calls.mono hq ?_; rintro e' w6 ⟨rfl, k6⟩; replace B := B.chg k6 (by simp); replace Z := Z.chg k6 (by simp); replace K := K.trans k6 (by simp))
        | (go_at_call 116; have hq := Pack.pack_ok (some ⟨y, 0, none⟩) (some ⟨w2.heap.size, 0, none⟩) 3 3 3 3 W3 [k, l, 0] (w2.alloc (.cells #[.int .u64 k, .int .u64 l, .int .u64 0] 36)) (nums3 (bg.alloc (.cells #[.int .u64 k, .int .u64 l, .int .u64 0] 36))) (numsOf3 (Blk.new w2 36 #[.int .u64 k, .int .u64 l, .int .u64 0])) rfl HVS.out; rw [packV_eq (ns := W3) HVS.out rfl, HP.out] at hq; refine Calls.mono hq ?_; rintro e' w6 ⟨rfl, k6⟩; replace B := (B.alloc (.cells #[.int .u64 k, .int .u64 l, .int .u64 0] 36)).chg k6 (by simp); replace Z := (Z.alloc (.cells #[.int .u64 k, .int .u64 l, .int .u64 0] 36)).chg k6 (by simp); replace K := (K.alloc (.cells #[.int .u64 k, .int .u64 l, .int .u64 0] 36)).trans k6 (by simp)))
    all_goals obtain ⟨c0, c1, c2, c3⟩ := blk4 B
    all_goals obtain ⟨d0, d1, d2, d3⟩ := blk4 Z
    all_goals have g0 := Z.frozen 0
    all_goals have g1 := Z.frozen 1
    all_goals have g2 := Z.frozen 2
    all_goals have g3 := Z.frozen 3
    all_goals go_wp2
    all_goals
      have G := Blk.set_ (Blk.set_ (Blk.set_ (Blk.set_ Z 0 (.int .u64 cw)) 1 (.int .u64 t)) 2 (.int .u64 0)) 3 (.int .u64 0)
      obtain ⟨q0, q1, q2, q3⟩ := blk4 (a := .int .u64 cw) (b := .int .u64 t) (c := .int .u64 0) (d := .int .u64 0) G
      refine ⟨rfl, .agg #[.int .u64 cw, .int .u64 t, .int .u64 0, .int .u64 0], ?_, rfl, (((K.setCell (p := ⟨b + 1, 0, none⟩) (.inr (by simp; omega)) _).setCell (p := ⟨b + 1, 1, none⟩) (.inr (by simp; omega)) _).setCell (p := ⟨b + 1, 2, none⟩) (.inr (by simp; omega)) _).setCell (p := ⟨b + 1, 3, none⟩) (.inr (by simp; omega)) _⟩
      simp [results, go_sem, q0, q1, q2, q3]
  · obtain rfl : 1 = o := eo
    obtain ⟨c0, c1, c2, c3⟩ := blk4 B
    go_enter Try.func110, Try.ntmps110
    go_wp2_with fail
    clear c0 c1 c2 c3
    replace B := B.drew
    replace Z := Z.drew
    replace K := K.drew
    generalize (w.alloc (.cells (headC k l true t) 102)).alloc (.cells z4C 154) = W0 at *
    go_region_held3 (fun V => V.cell? ⟨b, 0, none⟩ = some (.int .i64 k) ∧ V.cell? ⟨b, 1, none⟩ = some (.int .i64 l)) (first | exact ⟨B.cell 0, B.cell 1⟩ | exact ⟨(B.alloc (.cells #[.int .u64 k, .int .u64 l, .int .u64 1] 36)).cell 0, (B.alloc (.cells #[.int .u64 k, .int .u64 l, .int .u64 1] 36)).cell 1⟩)
      (first
        | (go_at_call 117; refine Calls.mono (widths_ok W0.drew) ?_; rintro e' w2 ⟨y, rfl, bg, hyg, k2⟩; replace B := B.chg k2 (by simp); replace Z := Z.chg k2 (by simp); replace K := K.trans k2 (by simp))
        | (go_at_call 117; refine Calls.mono (widths_ok (W0.drew.alloc (.cells #[.int .u64 k, .int .u64 l, .int .u64 1] 36))) ?_; rintro e' w2 ⟨y, rfl, bg, hyg, k2⟩; have nv := numsOf3 ((Blk.new W0.drew 36 #[.int .u64 k, .int .u64 l, .int .u64 1]).chg k2 (by simp)); replace B := (B.alloc (.cells #[.int .u64 k, .int .u64 l, .int .u64 1] 36)).chg k2 (by simp); replace Z := (Z.alloc (.cells #[.int .u64 k, .int .u64 l, .int .u64 1] 36)).chg k2 (by simp); replace K := (K.alloc (.cells #[.int .u64 k, .int .u64 l, .int .u64 1] 36)).trans k2 (by simp))
        | (go_at_call 116; have hq := Pack.pack_ok (some ⟨y, 0, none⟩) (some ⟨W0.drew.heap.size, 0, none⟩) 3 3 3 3 W3 [k, l, 1] w2 (nums3 bg) nv rfl HVS.out; rw [packV_eq (ns := W3) HVS.out rfl, HP.out] at hq; refine Calls.mono hq ?_; rintro e' w6 ⟨rfl, k6⟩; replace B := B.chg k6 (by simp); replace Z := Z.chg k6 (by simp); replace K := K.trans k6 (by simp))
        | (go_at_call 116; have hq := Pack.pack_ok (some ⟨y, 0, none⟩) (some ⟨w2.heap.size, 0, none⟩) 3 3 3 3 W3 [k, l, 1] (w2.alloc (.cells #[.int .u64 k, .int .u64 l, .int .u64 1] 36)) (nums3 (bg.alloc (.cells #[.int .u64 k, .int .u64 l, .int .u64 1] 36))) (numsOf3 (Blk.new w2 36 #[.int .u64 k, .int .u64 l, .int .u64 1])) rfl HVS.out; rw [packV_eq (ns := W3) HVS.out rfl, HP.out] at hq; refine Calls.mono hq ?_; rintro e' w6 ⟨rfl, k6⟩; replace B := (B.alloc (.cells #[.int .u64 k, .int .u64 l, .int .u64 1] 36)).chg k6 (by simp); replace Z := (Z.alloc (.cells #[.int .u64 k, .int .u64 l, .int .u64 1] 36)).chg k6 (by simp); replace K := (K.alloc (.cells #[.int .u64 k, .int .u64 l, .int .u64 1] 36)).trans k6 (by simp)))
    all_goals obtain ⟨c0, c1, c2, c3⟩ := blk4 B
    all_goals obtain ⟨d0, d1, d2, d3⟩ := blk4 Z
    all_goals have g0 := Z.frozen 0
    all_goals have g1 := Z.frozen 1
    all_goals have g2 := Z.frozen 2
    all_goals have g3 := Z.frozen 3
    all_goals go_wp2
    all_goals
      have G := Blk.set_ (Blk.set_ (Blk.set_ (Blk.set_ Z 0 (.int .u64 cw)) 1 (.int .u64 t)) 2 (.int .u64 0)) 3 (.int .u64 0)
      obtain ⟨q0, q1, q2, q3⟩ := blk4 (a := .int .u64 cw) (b := .int .u64 t) (c := .int .u64 0) (d := .int .u64 0) G
      refine ⟨rfl, .agg #[.int .u64 cw, .int .u64 t, .int .u64 0, .int .u64 0], ?_, rfl, (((K.setCell (p := ⟨b + 1, 0, none⟩) (.inr (by simp; omega)) _).setCell (p := ⟨b + 1, 1, none⟩) (.inr (by simp; omega)) _).setCell (p := ⟨b + 1, 2, none⟩) (.inr (by simp; omega)) _).setCell (p := ⟨b + 1, 3, none⟩) (.inr (by simp; omega)) _⟩
      simp [results, go_sem, q0, q1, q2, q3]

/-- The words behind a head's being put. -/
def putL (n : Nat) (L : List Int) (f k l : Int) (z : Bool) (t : Int) : List Int := stL n (stL n (stL n (stL n L f 0 (wordH k l z)) f 1 t) f 2 0) f 3 0
def hputL (n : Nat) (L : List Int) (f k l : Int) (z : Bool) (t : Int) : List Int := if rightH k l z t then putL n L f k l z t else L
def hputE (n : Nat) (f k l : Int) (z : Bool) (t : Int) : Int := if rightH k l z t then canF n f else 1
theorem canE_four {n : Nat} {f a : Int} (h0 : 0 ≤ a) (h1 : a < 36) : Mem.canE n f a = canF n f := by
  unfold Mem.canE canF
  by_cases h : 0 ≤ f ∧ f < n
  · rw [if_pos h, if_pos ⟨h.1, h.2, h0, h1⟩]
  · rw [if_neg h, if_neg (by omega)]
theorem canF_two (n : Nat) (f : Int) : (canF n f = 0 ∧ 0 ≤ f ∧ f < n) ∨ (canF n f = 1 ∧ ∀ (L : List Int) (a x : Int), stL n L f a x = L) := by
  unfold canF
  by_cases h : 0 ≤ f ∧ f < n
  · rw [if_pos h]; exact .inl ⟨rfl, h⟩
  · rw [if_neg h]; exact .inr ⟨rfl, fun L a x => by unfold stL; rw [if_neg (by omega)]⟩
theorem ix0 (a b c d : Value) (w : World) : (Instr.index 154 (.agg #[a, b, c, d]) (.int .i64 0)).run Try.prog w = .ok a w := by kernel_rfl
theorem ix1 (a b c d : Value) (w : World) : (Instr.index 154 (.agg #[a, b, c, d]) (.int .i64 1)).run Try.prog w = .ok b w := by kernel_rfl
theorem ix2 (a b c d : Value) (w : World) : (Instr.index 154 (.agg #[a, b, c, d]) (.int .i64 2)).run Try.prog w = .ok c w := by kernel_rfl
theorem ix3 (a b c d : Value) (w : World) : (Instr.index 154 (.agg #[a, b, c, d]) (.int .i64 3)).run Try.prog w = .ok d w := by kernel_rfl
set_option maxRecDepth 100000 in
set_option maxHeartbeats 4000000 in
theorem put_ok {w : World} {p g n : Nat} {L : List Int} (h : MemAt w p g n L) (f k l : Int) (z : Bool) (t : Int) : Calls Try.prog 97 #[.pointer (some ⟨p, 0, none⟩), .int .i64 f, headV k l z t] w fun e w' => e = .returned (.int .i64 (hputE n f k l z t)) ∧ MemAt w' p g n (hputL n L f k l z t) ∧ Chg [g] w w' := by
  have HR := right_ok k l z t
  have HW := words_ok k l z t
  unfold hputL hputE putL
  generalize rightH k l z t = R at *
  generalize wordH k l z = cw at *
  have B := Blk.new w 102 (headC k l z t)
  have m := h.alloc (.cells (headC k l z t) 102)
  have K := (Chg.refl [g] w).alloc (.cells (headC k l z t) 102)
  obtain ⟨b, eb⟩ : ∃ b, w.heap.size = b := ⟨_, rfl⟩
  rw [eb] at B
  clear h
  cases R with
  | false =>
    clear HW
    go_enter Try.func97, Try.ntmps97
    obtain ⟨c0, c1, c2, c3⟩ := blk4 B
    go_wp2_with (go_at_call 98; refine Calls.mono (HR _) ?_; rintro e w1 ⟨rfl, k1⟩; replace K := K.trans k1 (by simp); replace m := m.chg0 k1)
    go_ret
    exact ⟨rfl, m, K⟩
  | true =>
    have HR' := Lib.hid HR
    have HW' := Lib.hid (HW rfl)
    clear HR HW
    rw [if_pos rfl, if_pos rfl]
    have J0 := fun (w : World) => ix0 (.int .u64 cw) (.int .u64 t) (.int .u64 0) (.int .u64 0) w
    have J1 := fun (w : World) => ix1 (.int .u64 cw) (.int .u64 t) (.int .u64 0) (.int .u64 0) w
    have J2 := fun (w : World) => ix2 (.int .u64 cw) (.int .u64 t) (.int .u64 0) (.int .u64 0) w
    have J3 := fun (w : World) => ix3 (.int .u64 cw) (.int .u64 t) (.int .u64 0) (.int .u64 0) w
    rcases canF_two n f with ⟨e0, e1, e2⟩ | ⟨e0, e1⟩
    · rw [e0]
      have E0 := Lib.hid e0
      clear e0
      go_enter Try.func97, Try.ntmps97
      obtain ⟨c0, c1, c2, c3⟩ := blk4 B
      go_wp2_with fail
      refine Calls.mono (HR'.out _) ?_
      rintro e w1 ⟨rfl, k1⟩
      replace K := K.trans k1 (by simp)
      replace m := m.chg0 k1
      replace B := B.chg k1 (by simp)
      clear k1 c0 c1 c2 c3
      obtain ⟨c0, c1, c2, c3⟩ := blk4 B
      go_wp2_with fail
      refine Calls.mono (HW'.out _) ?_
      rintro e w2 ⟨rfl, k1⟩
      replace K := K.trans k1 (by simp)
      replace m := m.chg0 k1
      clear k1 c0 c1 c2 c3
      go_wp2_with fail
      go_loopw [18] (fun i wr => ∃ j : Nat, i = .int .i64 j ∧ j ≤ 4 ∧ Chg [g] w wr ∧ ((j = 0 ∧ MemAt wr p g n L) ∨ (j = 1 ∧ MemAt wr p g n (stL n L f 0 cw)) ∨ (j = 2 ∧ MemAt wr p g n (stL n (stL n L f 0 cw) f 1 t)) ∨ (j = 3 ∧ MemAt wr p g n (stL n (stL n (stL n L f 0 cw) f 1 t) f 2 0)) ∨ (j = 4 ∧ MemAt wr p g n (stL n (stL n (stL n (stL n L f 0 cw) f 1 t) f 2 0) f 3 0)))) (fun i _ => 4 - (intOf i).toNat)
      case atStart => exact ⟨0, rfl, by omega, K, .inl ⟨rfl, m⟩⟩
      case round =>
        clear m K
        obtain ⟨j, rfl, hj, K, H⟩ := hrel
        rcases H with ⟨rfl, m⟩ | ⟨rfl, m⟩ | ⟨rfl, m⟩ | ⟨rfl, m⟩ | ⟨rfl, m⟩
        · have C := Mem.store_ok m f 0 cw
          rw [canE_four (by decide) (by decide), E0.out] at C
          have HC := Lib.hid C
          clear C
          go_wp2_with fail
          refine Calls.mono HC.out ?_
          rintro e w3 ⟨rfl, m2, kk⟩
          replace K := K.trans kk (by simp)
          clear kk m HC
          go_wp2
          go_roundw
          case rel => exact ⟨1, rfl, by omega, K, .inr (.inl ⟨rfl, m2⟩)⟩
          case measure => simp [intOf]
        · have C := Mem.store_ok m f 1 t
          rw [canE_four (by decide) (by decide), E0.out] at C
          have HC := Lib.hid C
          clear C
          go_wp2_with fail
          refine Calls.mono HC.out ?_
          rintro e w3 ⟨rfl, m2, kk⟩
          replace K := K.trans kk (by simp)
          clear kk m HC
          go_wp2
          go_roundw
          case rel => exact ⟨2, rfl, by omega, K, .inr (.inr (.inl ⟨rfl, m2⟩))⟩
          case measure => simp [intOf]
        · have C := Mem.store_ok m f 2 0
          rw [canE_four (by decide) (by decide), E0.out] at C
          have HC := Lib.hid C
          clear C
          go_wp2_with fail
          refine Calls.mono HC.out ?_
          rintro e w3 ⟨rfl, m2, kk⟩
          replace K := K.trans kk (by simp)
          clear kk m HC
          go_wp2
          go_roundw
          case rel => exact ⟨3, rfl, by omega, K, .inr (.inr (.inr (.inl ⟨rfl, m2⟩)))⟩
          case measure => simp [intOf]
        · have C := Mem.store_ok m f 3 0
          rw [canE_four (by decide) (by decide), E0.out] at C
          have HC := Lib.hid C
          clear C
          go_wp2_with fail
          refine Calls.mono HC.out ?_
          rintro e w3 ⟨rfl, m2, kk⟩
          replace K := K.trans kk (by simp)
          clear kk m HC
          go_wp2
          go_roundw
          case rel => exact ⟨4, rfl, by omega, K, .inr (.inr (.inr (.inr ⟨rfl, m2⟩)))⟩
          case measure => simp [intOf]
        · go_wp2
          go_ret
          exact ⟨rfl, m, K⟩
    · have C := Mem.store_ok m f 0 cw
      rw [e0]
      have E0 := Lib.hid e0
      have E1 := Lib.hid e1
      clear e0 e1 C
      go_enter Try.func97, Try.ntmps97
      obtain ⟨c0, c1, c2, c3⟩ := blk4 B
      go_wp2_with fail
      refine Calls.mono (HR'.out _) ?_
      rintro e w1 ⟨rfl, k1⟩
      replace K := K.trans k1 (by simp)
      replace m := m.chg0 k1
      replace B := B.chg k1 (by simp)
      clear k1 c0 c1 c2 c3
      obtain ⟨c0, c1, c2, c3⟩ := blk4 B
      go_wp2_with fail
      refine Calls.mono (HW'.out _) ?_
      rintro e w2 ⟨rfl, k1⟩
      replace K := K.trans k1 (by simp)
      replace m := m.chg0 k1
      clear k1 c0 c1 c2 c3
      go_wp2_with fail
      have C := Mem.store_ok m f 0 cw
      rw [canE_four (by decide) (by decide), E0.out, E1.out] at C
      have HC := Lib.hid C
      clear C
      go_loopw [18] (fun i wr => i = .int .i64 0 ∧ wr = w2) (fun i _ => 0)
      case atStart => exact ⟨rfl, rfl⟩
      case round =>
        obtain ⟨rfl, rfl⟩ := hrel
        go_wp2_with fail
        refine Calls.mono HC.out ?_
        rintro e w3 ⟨rfl, m2, kk⟩
        replace K := K.trans kk (by simp)
        clear kk m HC
        go_wp2
        go_ret
        refine ⟨rfl, ?_, K⟩
        rw [E1.out, E1.out, E1.out, E1.out]
        exact m2
end Go.Proofs.Ytknbeklplmhheaa.HeadPut
