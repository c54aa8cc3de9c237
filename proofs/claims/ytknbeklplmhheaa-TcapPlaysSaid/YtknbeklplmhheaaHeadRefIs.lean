/- Get, Is, Make of package palanquinref10. -/
import Derived.Test.YtknbeklplmhheaaHeadIs
import Derived.Test.YtknbeklplmhheaaHeadRef
namespace Go.Proofs.Ytknbeklplmhheaa.HeadRefIs
open Go Go.RowKit Go.Proofs.Ytknbeklplmhheaa Go.Proofs.Ytknbeklplmhheaa.Heap Go.Proofs.Ytknbeklplmhheaa.Bits Go.Proofs.Ytknbeklplmhheaa.Field Go.Proofs.Ytknbeklplmhheaa.Places Go.Proofs.Ytknbeklplmhheaa.Parts Go.Proofs.Ytknbeklplmhheaa.Unpack Go.Proofs.Ytknbeklplmhheaa.Head Go.Proofs.Ytknbeklplmhheaa.HeadPut Go.Proofs.Ytknbeklplmhheaa.HeadGet Go.Proofs.Ytknbeklplmhheaa.HeadIs Go.Proofs.Ytknbeklplmhheaa.Mem Go.Proofs.Ytknbeklplmhheaa.Two

set_option maxRecDepth 100000 in
set_option maxHeartbeats 8000000 in
theorem get_ok {w : World} {B0 r n : Nat} {v : Value} {bs : List (Nat × Nat)} {L : List Int} (h : Ref02.RM w B0 r v n bs L) (n1 : 1 ≤ n) (n2 : n ≤ 64) (hu : U64 L) (f : Int) : Calls Try.prog 109 #[.pointer (some ⟨r, 0, none⟩), .int .i64 f] w fun e w' => e = .returned (.tuple #[ghV n L f, .int .i64 (ghE n L f)]) ∧ Chg [] w w' := by
  obtain ⟨b, eb⟩ : ∃ b, w.heap.size = b := ⟨_, rfl⟩
  have B := Blk.new' w 102 zC eb
  have K := (Chg.refl [] w).alloc (.cells zC 102)
  have m := h.alloc (.cells zC 102)
  by_cases ho : 0 ≤ f ∧ f < n
  · have hw := Lib.hid (Ref02.words_ok m n1 n2 f ho)
    have hf := frL_len h.len (f := f.toNat) (by omega)
    have u0 := hu.get (f.toNat * 36 + 0)
    have u1 := hu.get (f.toNat * 36 + 1)
    have HC := fun (W : World) (b : Nat × Nat) (bb : W.ownsRow 0 36 1 (Ref02.rowV b) 36 (nums .u64 (frL L f.toNat))) => show W.cell? ⟨b.1, 0, none⟩ = some (.int .u64 (L.getD (f.toNat * 36 + 0) 0)) ∧ W.cell? ⟨b.1, 1, none⟩ = some (.int .u64 (L.getD (f.toNat * 36 + 1) 0)) ∧ W.cell? ⟨b.1, 2, none⟩ = some (.int .u64 (L.getD (f.toNat * 36 + 2) 0)) ∧ W.cell? ⟨b.1, 3, none⟩ = some (.int .u64 (L.getD (f.toNat * 36 + 3) 0)) from
      ⟨by rw [bb.cellAt 0 (by decide), nums_get _ _ _ (by omega), frL_get (by decide)], by rw [bb.cellAt 1 (by decide), nums_get _ _ _ (by omega), frL_get (by decide)], by rw [bb.cellAt 2 (by decide), nums_get _ _ _ (by omega), frL_get (by decide)], by rw [bb.cellAt 3 (by decide), nums_get _ _ _ (by omega), frL_get (by decide)]⟩
    have HUN := Lib.hid (ref_unp u0.1 u0.2)
    have hok : okH n L f = ofOk (L.getD (f.toNat * 36 + 0) 0) (L.getD (f.toNat * 36 + 1) 0) (L.getD (f.toNat * 36 + 2) 0) (L.getD (f.toNat * 36 + 3) 0) := by unfold okH; rw [decide_eq_true ho]; rfl
    unfold ghV ghK ghL ghZ ghT ghE
    rw [hok]
    generalize hX0 : L.getD (f.toNat * 36 + 0) 0 = x0 at *
    generalize L.getD (f.toNat * 36 + 1) 0 = x1 at *
    generalize L.getD (f.toNat * 36 + 2) 0 = x2 at *
    generalize L.getD (f.toNat * 36 + 3) 0 = x3 at *
    have HC' := Lib.hid HC
    obtain ⟨g0, g01⟩ := u1
    clear hX0 HC hok u0 hf h m
    obtain ⟨R, eR⟩ : ∃ R, ofOk x0 x1 x2 x3 = R := ⟨_, rfl⟩
    rw [eR]
    cases R with
    | true =>
      obtain ⟨l0, l1, rfl, rfl, hR⟩ := ofOk_yes eR
      simp only [if_true]
      have HRR := rright_ok (x0 % 16) (x0 / 16 % 2) (x0 / 32 % 2 == 1) x1
      rw [hR] at HRR
      clear hR eR ho
      have HUN : Hid (∀ A c W, Nums W .i64 A 3 W3 → Calls Try.prog 115 #[.slice A 3 c, .int .u64 x0] W fun e w' => ∃ v, e = .returned (.tuple #[v, .int .i64 0]) ∧ w'.ownsRow 0 36 1 v 3 (nums .u64 [x0 % 16, x0 / 16 % 2, x0 / 32 % 2]) ∧ Chg [] W w') := fun A c W hn => by
        have := HUN.out A c W hn
        rw [if_pos l0] at this
        exact this.mono fun _ _ ⟨v, h1, h2, h3⟩ => ⟨v, h1, h2 l0, h3⟩
      obtain ⟨z0, z01⟩ : 0 ≤ x0 % 16 ∧ x0 % 16 < 16 := by omega
      obtain ⟨z1, z11⟩ : 0 ≤ x0 / 16 % 2 ∧ x0 / 16 % 2 < 2 := by omega
      obtain ⟨z2, z21⟩ : 0 ≤ x0 / 32 % 2 ∧ x0 / 32 % 2 < 2 := by omega
      generalize x0 % 16 = y0 at *
      generalize x0 / 16 % 2 = y1 at *
      generalize x0 / 32 % 2 = y2 at *
      obtain ⟨on, eon⟩ : ∃ on, (y2 == 1) = on := ⟨_, rfl⟩
      rw [eon] at HRR ⊢
      have HRX := Lib.hid HRR
      clear HRR
      go_enter Try.func109, Try.ntmps109
      go_wp2_with fail
      refine Calls.mono hw.out ?_
      rintro e w1 ⟨⟨bw, cw⟩, rfl, bb, hb, kk⟩
      replace B := B.chg kk (by simp)
      replace K := K.trans kk (by simp)
      obtain ⟨d0, d1, d2, d3⟩ := HC'.out _ _ bb
      have DD := fun o => (show (w1.alloc o).cell? ⟨bw, 0, none⟩ = some (.int .u64 x0) from by rw [World.cell?_alloc_lt _ _ _ (World.block_lt_of_cell? w1 _ d0)]; exact d0)
      clear kk bb hb
      go_wp2_with fail
      refine Calls.mono (HUN.out _ _ _ (nums3 (Blk.new w1 3 w3C))) ?_
      rintro e w3 ⟨vv, rfl, ov, kk⟩
      have kk2 := ((Chg.refl [] w1).alloc (.cells w3C 3)).trans kk (by simp)
      have keepc : ∀ o, w3.cell? ⟨bw, o, none⟩ = w1.cell? ⟨bw, o, none⟩ := fun o => World.cell?_of_block (kk2.block bw (World.block_lt_of_cell? w1 _ d0) (by simp))
      replace B := B.chg kk2 (by simp)
      replace K := K.trans kk2 (by simp)
      rw [← keepc 0] at d0
      rw [← keepc 1] at d1
      rw [← keepc 2] at d2
      rw [← keepc 3] at d3
      clear kk kk2 keepc DD
      obtain ⟨qv, capv, rfl, -, -⟩ := ov.form (by decide)
      have s0 : w3.cell? ⟨qv, 0, none⟩ = some (.int .u64 y0) := ov.cellAt 0 (by decide)
      have s1 : w3.cell? ⟨qv, 1, none⟩ = some (.int .u64 y1) := ov.cellAt 1 (by decide)
      have s2 : w3.cell? ⟨qv, 2, none⟩ = some (.int .u64 y2) := ov.cellAt 2 (by decide)
      clear ov
      have v0 : IntKind.i64.wrap y0 = y0 := by rw [IntKind.wrap_i64]; omega
      have v1 : IntKind.i64.wrap y1 = y1 := by rw [IntKind.wrap_i64]; omega
      have v3 : IntKind.i64.wrap x1 = x1 := by rw [IntKind.wrap_i64]; omega
      go_wp2
      go_region_held3 (fun V => V.cell? ⟨qv, 0, none⟩ = some (.int .u64 y0) ∧ V.cell? ⟨qv, 1, none⟩ = some (.int .u64 y1) ∧ V.cell? ⟨qv, 2, none⟩ = some (.int .u64 y2) ∧ V.cell? ⟨bw, 1, none⟩ = some (.int .u64 x1)) (go_keep) (fail)
      obtain ⟨x, ex⟩ : ∃ x, w3.heap.size = x := ⟨_, rfl⟩
      have B3 := (Blk.new' w3 102 (headC y0 y1 on x1) ex).drew
      replace B := (B.alloc (.cells (headC y0 y1 on x1) 102)).drew
      replace K := (K.alloc (.cells (headC y0 y1 on x1) 102)).drew
      clear s0 s1 s2 d0 d1 d2 d3 eon v0 v1 v3
      generalize (w3.alloc (.cells (headC y0 y1 on x1) 102)).drew = W5 at *
      obtain ⟨j0, j1, j2, j3⟩ := blk4 B3
      go_wp2_with (go_at_call 105; refine Calls.mono (HRX.out _) ?_; rintro e w6 ⟨rfl, k6⟩; replace B := B.chg k6 (by simp); replace B3 := B3.chg k6 (by simp); replace K := K.trans k6 (by simp); clear j0 j1 j2 j3 k6; obtain ⟨j0, j1, j2, j3⟩ := blk4 B3; obtain ⟨e0, e1, e2, e3⟩ := blk4 B; have f0 := B.frozen 0; have f1 := B.frozen 1; have f2 := B.frozen 2; have f3 := B.frozen 3)
      have G := Blk.set_ (Blk.set_ (Blk.set_ (Blk.set_ B 0 (.int .i64 y0)) 1 (.int .i64 y1)) 2 (.bool on)) 3 (.int .i64 x1)
      obtain ⟨q0, q1, q2, q3⟩ := blk4 (a := .int .i64 y0) (b := .int .i64 y1) (c := .bool on) (d := .int .i64 x1) G
      refine ⟨rfl, .tuple #[headV y0 y1 on x1, .int .i64 0], ?_, rfl, (((K.setCell (p := ⟨b, 0, none⟩) (.inr (by simp; omega)) _).setCell (p := ⟨b, 1, none⟩) (.inr (by simp; omega)) _).setCell (p := ⟨b, 2, none⟩) (.inr (by simp; omega)) _).setCell (p := ⟨b, 3, none⟩) (.inr (by simp; omega)) _⟩
      simp [results, go_sem, q0, q1, q2, q3]
    | false =>
      have hn := ofOk_no eR
      clear eR
      simp only [Bool.false_eq_true, if_false, if_pos ho]
      clear ho
      rcases hn with l0 | ⟨l0, l1⟩ | ⟨l0, l1, l2⟩ | ⟨l0, l1, rfl, l3⟩ | ⟨l0, l1, rfl, rfl, hR⟩
      · have HUN : Hid (∀ A c W, Nums W .i64 A 3 W3 → Calls Try.prog 115 #[.slice A 3 c, .int .u64 x0] W fun e w' => ∃ v, e = .returned (.tuple #[v, .int .i64 1]) ∧ True ∧ Chg [] W w') := fun A c W hn => by
          have := HUN.out A c W hn
          rw [if_neg (by omega)] at this
          exact this.mono fun _ _ ⟨v, h1, _, h3⟩ => ⟨v, h1, trivial, h3⟩
        go_enter Try.func109, Try.ntmps109
        go_wp2_with fail
        refine Calls.mono hw.out ?_
        rintro e w1 ⟨⟨bw, cw⟩, rfl, bb, hb, kk⟩
        replace B := B.chg kk (by simp)
        replace K := K.trans kk (by simp)
        obtain ⟨d0, d1, d2, d3⟩ := HC'.out _ _ bb
        have DD := fun o => (show (w1.alloc o).cell? ⟨bw, 0, none⟩ = some (.int .u64 x0) from by rw [World.cell?_alloc_lt _ _ _ (World.block_lt_of_cell? w1 _ d0)]; exact d0)
        clear kk bb hb
        go_wp2_with fail
        refine Calls.mono (HUN.out _ _ _ (nums3 (Blk.new w1 3 w3C))) ?_
        rintro e w3 ⟨vv, rfl, ov, kk⟩
        have kk2 := ((Chg.refl [] w1).alloc (.cells w3C 3)).trans kk (by simp)
        have keepc : ∀ o, w3.cell? ⟨bw, o, none⟩ = w1.cell? ⟨bw, o, none⟩ := fun o => World.cell?_of_block (kk2.block bw (World.block_lt_of_cell? w1 _ d0) (by simp))
        replace B := B.chg kk2 (by simp)
        replace K := K.trans kk2 (by simp)
        rw [← keepc 0] at d0
        rw [← keepc 1] at d1
        rw [← keepc 2] at d2
        rw [← keepc 3] at d3
        clear kk kk2 keepc DD
        obtain ⟨e0, e1, e2, e3⟩ := blk4 B
        have f0 := B.frozen 0
        have f1 := B.frozen 1
        have f2 := B.frozen 2
        have f3 := B.frozen 3
        go_wp2
        have G := Blk.set_ (Blk.set_ (Blk.set_ (Blk.set_ B 0 (.int .i64 0)) 1 (.int .i64 0)) 2 (.bool false)) 3 (.int .i64 0)
        obtain ⟨q0, q1, q2, q3⟩ := blk4 (a := .int .i64 0) (b := .int .i64 0) (c := .bool false) (d := .int .i64 0) G
        refine ⟨rfl, .tuple #[headV 0 0 false 0, .int .i64 12], ?_, rfl, (((K.setCell (p := ⟨b, 0, none⟩) (.inr (by simp; omega)) _).setCell (p := ⟨b, 1, none⟩) (.inr (by simp; omega)) _).setCell (p := ⟨b, 2, none⟩) (.inr (by simp; omega)) _).setCell (p := ⟨b, 3, none⟩) (.inr (by simp; omega)) _⟩
        simp [results, go_sem, q0, q1, q2, q3]
      · have HUN : Hid (∀ A c W, Nums W .i64 A 3 W3 → Calls Try.prog 115 #[.slice A 3 c, .int .u64 x0] W fun e w' => ∃ v, e = .returned (.tuple #[v, .int .i64 0]) ∧ w'.ownsRow 0 36 1 v 3 (nums .u64 [x0 % 16, x0 / 16 % 2, x0 / 32 % 2]) ∧ Chg [] W w') := fun A c W hn => by
          have := HUN.out A c W hn
          rw [if_pos l0] at this
          exact this.mono fun _ _ ⟨v, h1, h2, h3⟩ => ⟨v, h1, h2 l0, h3⟩
        go_enter Try.func109, Try.ntmps109
        go_wp2_with fail
        refine Calls.mono hw.out ?_
        rintro e w1 ⟨⟨bw, cw⟩, rfl, bb, hb, kk⟩
        replace B := B.chg kk (by simp)
        replace K := K.trans kk (by simp)
        obtain ⟨d0, d1, d2, d3⟩ := HC'.out _ _ bb
        have DD := fun o => (show (w1.alloc o).cell? ⟨bw, 0, none⟩ = some (.int .u64 x0) from by rw [World.cell?_alloc_lt _ _ _ (World.block_lt_of_cell? w1 _ d0)]; exact d0)
        clear kk bb hb
        go_wp2_with fail
        refine Calls.mono (HUN.out _ _ _ (nums3 (Blk.new w1 3 w3C))) ?_
        rintro e w3 ⟨vv, rfl, ov, kk⟩
        have kk2 := ((Chg.refl [] w1).alloc (.cells w3C 3)).trans kk (by simp)
        have keepc : ∀ o, w3.cell? ⟨bw, o, none⟩ = w1.cell? ⟨bw, o, none⟩ := fun o => World.cell?_of_block (kk2.block bw (World.block_lt_of_cell? w1 _ d0) (by simp))
        replace B := B.chg kk2 (by simp)
        replace K := K.trans kk2 (by simp)
        rw [← keepc 0] at d0
        rw [← keepc 1] at d1
        rw [← keepc 2] at d2
        rw [← keepc 3] at d3
        clear kk kk2 keepc DD
        obtain ⟨e0, e1, e2, e3⟩ := blk4 B
        have f0 := B.frozen 0
        have f1 := B.frozen 1
        have f2 := B.frozen 2
        have f3 := B.frozen 3
        go_wp2
        have G := Blk.set_ (Blk.set_ (Blk.set_ (Blk.set_ B 0 (.int .i64 0)) 1 (.int .i64 0)) 2 (.bool false)) 3 (.int .i64 0)
        obtain ⟨q0, q1, q2, q3⟩ := blk4 (a := .int .i64 0) (b := .int .i64 0) (c := .bool false) (d := .int .i64 0) G
        refine ⟨rfl, .tuple #[headV 0 0 false 0, .int .i64 12], ?_, rfl, (((K.setCell (p := ⟨b, 0, none⟩) (.inr (by simp; omega)) _).setCell (p := ⟨b, 1, none⟩) (.inr (by simp; omega)) _).setCell (p := ⟨b, 2, none⟩) (.inr (by simp; omega)) _).setCell (p := ⟨b, 3, none⟩) (.inr (by simp; omega)) _⟩
        simp [results, go_sem, q0, q1, q2, q3]
      · have HUN : Hid (∀ A c W, Nums W .i64 A 3 W3 → Calls Try.prog 115 #[.slice A 3 c, .int .u64 x0] W fun e w' => ∃ v, e = .returned (.tuple #[v, .int .i64 0]) ∧ w'.ownsRow 0 36 1 v 3 (nums .u64 [x0 % 16, x0 / 16 % 2, x0 / 32 % 2]) ∧ Chg [] W w') := fun A c W hn => by
          have := HUN.out A c W hn
          rw [if_pos l0] at this
          exact this.mono fun _ _ ⟨v, h1, h2, h3⟩ => ⟨v, h1, h2 l0, h3⟩
        have l2' : (x2 != 0) = true := by rw [bne_iff_ne]; exact l2
        clear l2
        go_enter Try.func109, Try.ntmps109
        go_wp2_with fail
        refine Calls.mono hw.out ?_
        rintro e w1 ⟨⟨bw, cw⟩, rfl, bb, hb, kk⟩
        replace B := B.chg kk (by simp)
        replace K := K.trans kk (by simp)
        obtain ⟨d0, d1, d2, d3⟩ := HC'.out _ _ bb
        have DD := fun o => (show (w1.alloc o).cell? ⟨bw, 0, none⟩ = some (.int .u64 x0) from by rw [World.cell?_alloc_lt _ _ _ (World.block_lt_of_cell? w1 _ d0)]; exact d0)
        clear kk bb hb
        go_wp2_with fail
        refine Calls.mono (HUN.out _ _ _ (nums3 (Blk.new w1 3 w3C))) ?_
        rintro e w3 ⟨vv, rfl, ov, kk⟩
        have kk2 := ((Chg.refl [] w1).alloc (.cells w3C 3)).trans kk (by simp)
        have keepc : ∀ o, w3.cell? ⟨bw, o, none⟩ = w1.cell? ⟨bw, o, none⟩ := fun o => World.cell?_of_block (kk2.block bw (World.block_lt_of_cell? w1 _ d0) (by simp))
        replace B := B.chg kk2 (by simp)
        replace K := K.trans kk2 (by simp)
        rw [← keepc 0] at d0
        rw [← keepc 1] at d1
        rw [← keepc 2] at d2
        rw [← keepc 3] at d3
        clear kk kk2 keepc DD
        obtain ⟨e0, e1, e2, e3⟩ := blk4 B
        have f0 := B.frozen 0
        have f1 := B.frozen 1
        have f2 := B.frozen 2
        have f3 := B.frozen 3
        go_wp2
        have G := Blk.set_ (Blk.set_ (Blk.set_ (Blk.set_ B 0 (.int .i64 0)) 1 (.int .i64 0)) 2 (.bool false)) 3 (.int .i64 0)
        obtain ⟨q0, q1, q2, q3⟩ := blk4 (a := .int .i64 0) (b := .int .i64 0) (c := .bool false) (d := .int .i64 0) G
        refine ⟨rfl, .tuple #[headV 0 0 false 0, .int .i64 12], ?_, rfl, (((K.setCell (p := ⟨b, 0, none⟩) (.inr (by simp; omega)) _).setCell (p := ⟨b, 1, none⟩) (.inr (by simp; omega)) _).setCell (p := ⟨b, 2, none⟩) (.inr (by simp; omega)) _).setCell (p := ⟨b, 3, none⟩) (.inr (by simp; omega)) _⟩
        simp [results, go_sem, q0, q1, q2, q3]
      · have HUN : Hid (∀ A c W, Nums W .i64 A 3 W3 → Calls Try.prog 115 #[.slice A 3 c, .int .u64 x0] W fun e w' => ∃ v, e = .returned (.tuple #[v, .int .i64 0]) ∧ w'.ownsRow 0 36 1 v 3 (nums .u64 [x0 % 16, x0 / 16 % 2, x0 / 32 % 2]) ∧ Chg [] W w') := fun A c W hn => by
          have := HUN.out A c W hn
          rw [if_pos l0] at this
          exact this.mono fun _ _ ⟨v, h1, h2, h3⟩ => ⟨v, h1, h2 l0, h3⟩
        have l3' : (x3 != 0) = true := by rw [bne_iff_ne]; exact l3
        clear l3
        go_enter Try.func109, Try.ntmps109
        go_wp2_with fail
        refine Calls.mono hw.out ?_
        rintro e w1 ⟨⟨bw, cw⟩, rfl, bb, hb, kk⟩
        replace B := B.chg kk (by simp)
        replace K := K.trans kk (by simp)
        obtain ⟨d0, d1, d2, d3⟩ := HC'.out _ _ bb
        have DD := fun o => (show (w1.alloc o).cell? ⟨bw, 0, none⟩ = some (.int .u64 x0) from by rw [World.cell?_alloc_lt _ _ _ (World.block_lt_of_cell? w1 _ d0)]; exact d0)
        clear kk bb hb
        go_wp2_with fail
        refine Calls.mono (HUN.out _ _ _ (nums3 (Blk.new w1 3 w3C))) ?_
        rintro e w3 ⟨vv, rfl, ov, kk⟩
        have kk2 := ((Chg.refl [] w1).alloc (.cells w3C 3)).trans kk (by simp)
        have keepc : ∀ o, w3.cell? ⟨bw, o, none⟩ = w1.cell? ⟨bw, o, none⟩ := fun o => World.cell?_of_block (kk2.block bw (World.block_lt_of_cell? w1 _ d0) (by simp))
        replace B := B.chg kk2 (by simp)
        replace K := K.trans kk2 (by simp)
        rw [← keepc 0] at d0
        rw [← keepc 1] at d1
        rw [← keepc 2] at d2
        rw [← keepc 3] at d3
        clear kk kk2 keepc DD
        obtain ⟨e0, e1, e2, e3⟩ := blk4 B
        have f0 := B.frozen 0
        have f1 := B.frozen 1
        have f2 := B.frozen 2
        have f3 := B.frozen 3
        go_wp2
        have G := Blk.set_ (Blk.set_ (Blk.set_ (Blk.set_ B 0 (.int .i64 0)) 1 (.int .i64 0)) 2 (.bool false)) 3 (.int .i64 0)
        obtain ⟨q0, q1, q2, q3⟩ := blk4 (a := .int .i64 0) (b := .int .i64 0) (c := .bool false) (d := .int .i64 0) G
        refine ⟨rfl, .tuple #[headV 0 0 false 0, .int .i64 12], ?_, rfl, (((K.setCell (p := ⟨b, 0, none⟩) (.inr (by simp; omega)) _).setCell (p := ⟨b, 1, none⟩) (.inr (by simp; omega)) _).setCell (p := ⟨b, 2, none⟩) (.inr (by simp; omega)) _).setCell (p := ⟨b, 3, none⟩) (.inr (by simp; omega)) _⟩
        simp [results, go_sem, q0, q1, q2, q3]
      · have HRR := rright_ok (x0 % 16) (x0 / 16 % 2) (x0 / 32 % 2 == 1) x1
        rw [hR] at HRR
        clear hR
        have HUN : Hid (∀ A c W, Nums W .i64 A 3 W3 → Calls Try.prog 115 #[.slice A 3 c, .int .u64 x0] W fun e w' => ∃ v, e = .returned (.tuple #[v, .int .i64 0]) ∧ w'.ownsRow 0 36 1 v 3 (nums .u64 [x0 % 16, x0 / 16 % 2, x0 / 32 % 2]) ∧ Chg [] W w') := fun A c W hn => by
          have := HUN.out A c W hn
          rw [if_pos l0] at this
          exact this.mono fun _ _ ⟨v, h1, h2, h3⟩ => ⟨v, h1, h2 l0, h3⟩
        obtain ⟨z0, z01⟩ : 0 ≤ x0 % 16 ∧ x0 % 16 < 16 := by omega
        obtain ⟨z1, z11⟩ : 0 ≤ x0 / 16 % 2 ∧ x0 / 16 % 2 < 2 := by omega
        obtain ⟨z2, z21⟩ : 0 ≤ x0 / 32 % 2 ∧ x0 / 32 % 2 < 2 := by omega
        generalize x0 % 16 = y0 at *
        generalize x0 / 16 % 2 = y1 at *
        generalize x0 / 32 % 2 = y2 at *
        obtain ⟨on, eon⟩ : ∃ on, (y2 == 1) = on := ⟨_, rfl⟩
        rw [eon] at HRR
        have HRX := Lib.hid HRR
        clear HRR
        go_enter Try.func109, Try.ntmps109
        go_wp2_with fail
        refine Calls.mono hw.out ?_
        rintro e w1 ⟨⟨bw, cw⟩, rfl, bb, hb, kk⟩
        replace B := B.chg kk (by simp)
        replace K := K.trans kk (by simp)
        obtain ⟨d0, d1, d2, d3⟩ := HC'.out _ _ bb
        have DD := fun o => (show (w1.alloc o).cell? ⟨bw, 0, none⟩ = some (.int .u64 x0) from by rw [World.cell?_alloc_lt _ _ _ (World.block_lt_of_cell? w1 _ d0)]; exact d0)
        clear kk bb hb
        go_wp2_with fail
        refine Calls.mono (HUN.out _ _ _ (nums3 (Blk.new w1 3 w3C))) ?_
        rintro e w3 ⟨vv, rfl, ov, kk⟩
        have kk2 := ((Chg.refl [] w1).alloc (.cells w3C 3)).trans kk (by simp)
        have keepc : ∀ o, w3.cell? ⟨bw, o, none⟩ = w1.cell? ⟨bw, o, none⟩ := fun o => World.cell?_of_block (kk2.block bw (World.block_lt_of_cell? w1 _ d0) (by simp))
        replace B := B.chg kk2 (by simp)
        replace K := K.trans kk2 (by simp)
        rw [← keepc 0] at d0
        rw [← keepc 1] at d1
        rw [← keepc 2] at d2
        rw [← keepc 3] at d3
        clear kk kk2 keepc DD
        obtain ⟨qv, capv, rfl, -, -⟩ := ov.form (by decide)
        have s0 : w3.cell? ⟨qv, 0, none⟩ = some (.int .u64 y0) := ov.cellAt 0 (by decide)
        have s1 : w3.cell? ⟨qv, 1, none⟩ = some (.int .u64 y1) := ov.cellAt 1 (by decide)
        have s2 : w3.cell? ⟨qv, 2, none⟩ = some (.int .u64 y2) := ov.cellAt 2 (by decide)
        clear ov
        have v0 : IntKind.i64.wrap y0 = y0 := by rw [IntKind.wrap_i64]; omega
        have v1 : IntKind.i64.wrap y1 = y1 := by rw [IntKind.wrap_i64]; omega
        have v3 : IntKind.i64.wrap x1 = x1 := by rw [IntKind.wrap_i64]; omega
        go_wp2
        go_region_held3 (fun V => V.cell? ⟨qv, 0, none⟩ = some (.int .u64 y0) ∧ V.cell? ⟨qv, 1, none⟩ = some (.int .u64 y1) ∧ V.cell? ⟨qv, 2, none⟩ = some (.int .u64 y2) ∧ V.cell? ⟨bw, 1, none⟩ = some (.int .u64 x1)) (go_keep) (fail)
        obtain ⟨x, ex⟩ : ∃ x, w3.heap.size = x := ⟨_, rfl⟩
        have B3 := (Blk.new' w3 102 (headC y0 y1 on x1) ex).drew
        replace B := (B.alloc (.cells (headC y0 y1 on x1) 102)).drew
        replace K := (K.alloc (.cells (headC y0 y1 on x1) 102)).drew
        clear s0 s1 s2 d0 d1 d2 d3 eon v0 v1 v3
        generalize (w3.alloc (.cells (headC y0 y1 on x1) 102)).drew = W5 at *
        obtain ⟨j0, j1, j2, j3⟩ := blk4 B3
        go_wp2_with (go_at_call 105; refine Calls.mono (HRX.out _) ?_; rintro e w6 ⟨rfl, k6⟩; replace B := B.chg k6 (by simp); replace B3 := B3.chg k6 (by simp); replace K := K.trans k6 (by simp); clear j0 j1 j2 j3 k6; obtain ⟨j0, j1, j2, j3⟩ := blk4 B3; obtain ⟨e0, e1, e2, e3⟩ := blk4 B; have f0 := B.frozen 0; have f1 := B.frozen 1; have f2 := B.frozen 2; have f3 := B.frozen 3)
        have G := Blk.set_ (Blk.set_ (Blk.set_ (Blk.set_ B 0 (.int .i64 0)) 1 (.int .i64 0)) 2 (.bool false)) 3 (.int .i64 0)
        obtain ⟨q0, q1, q2, q3⟩ := blk4 (a := .int .i64 0) (b := .int .i64 0) (c := .bool false) (d := .int .i64 0) G
        refine ⟨rfl, .tuple #[headV 0 0 false 0, .int .i64 12], ?_, rfl, (((K.setCell (p := ⟨b, 0, none⟩) (.inr (by simp; omega)) _).setCell (p := ⟨b, 1, none⟩) (.inr (by simp; omega)) _).setCell (p := ⟨b, 2, none⟩) (.inr (by simp; omega)) _).setCell (p := ⟨b, 3, none⟩) (.inr (by simp; omega)) _⟩
        simp [results, go_sem, q0, q1, q2, q3]
  · have hok : okH n L f = false := by unfold okH; rw [decide_eq_false ho]; rfl
    unfold ghV ghK ghL ghZ ghT ghE
    rw [hok]
    simp only [Bool.false_eq_true, if_false, if_neg ho]
    have hw := Lib.hid (Ref02.words_no m n1 n2 f ho)
    clear hok ho
    go_enter Try.func109, Try.ntmps109
    go_wp2_with fail
    refine Calls.mono hw.out ?_
    rintro e w1 ⟨rfl, hw1⟩
    rw [hw1] at B K
    clear hw1 hw m
    obtain ⟨e0, e1, e2, e3⟩ := blk4 B
    have f0 := B.frozen 0
    have f1 := B.frozen 1
    have f2 := B.frozen 2
    have f3 := B.frozen 3
    go_wp2
    have G := Blk.set_ (Blk.set_ (Blk.set_ (Blk.set_ B 0 (.int .i64 0)) 1 (.int .i64 0)) 2 (.bool false)) 3 (.int .i64 0)
    obtain ⟨q0, q1, q2, q3⟩ := blk4 (a := .int .i64 0) (b := .int .i64 0) (c := .bool false) (d := .int .i64 0) G
    refine ⟨rfl, .tuple #[headV 0 0 false 0, .int .i64 1], ?_, rfl, (((K.setCell (p := ⟨b, 0, none⟩) (.inr (by simp; omega)) _).setCell (p := ⟨b, 1, none⟩) (.inr (by simp; omega)) _).setCell (p := ⟨b, 2, none⟩) (.inr (by simp; omega)) _).setCell (p := ⟨b, 3, none⟩) (.inr (by simp; omega)) _⟩
    simp [results, go_sem, q0, q1, q2, q3]

set_option maxRecDepth 100000 in
set_option maxHeartbeats 4000000 in
theorem is_ok {w : World} {B0 r n : Nat} {v : Value} {bs : List (Nat × Nat)} {L : List Int} (h : Ref02.RM w B0 r v n bs L) (n1 : 1 ≤ n) (n2 : n ≤ 64) (hu : U64 L) (f k : Int) : Calls Try.prog 80 #[.pointer (some ⟨r, 0, none⟩), .int .i64 f, .int .i64 k] w fun e w' => e = .returned (.int .i64 (isE n L f k)) ∧ Chg [] w w' := by
  have HG := get_ok h n1 n2 hu f
  unfold ghV at HG
  have K := Chg.refl [] w
  unfold isE
  have h2 := ghE_two n L f
  generalize ghK n L f = k0 at *
  generalize ghL n L f = l0 at *
  generalize ghZ n L f = z0 at *
  generalize ghT n L f = t0 at *
  generalize ghE n L f = E at *
  generalize okH n L f = R at *
  have HG' := Lib.hid HG
  clear HG h
  have way : (R = true ∧ E = 0 ∧ k0 = k) ∨ (R = true ∧ E = 0 ∧ (k0 != k) = true ∧ ¬ k0 = k) ∨ (R = false ∧ E = 12) ∨ (R = false ∧ E = 1) := by
    rcases h2 with ⟨a, b⟩ | ⟨a, b | b⟩
    · by_cases e : k0 = k
      · exact .inl ⟨a, b, e⟩
      · exact .inr (.inl ⟨a, b, by rw [bne_iff_ne]; exact e, e⟩)
    · exact .inr (.inr (.inl ⟨a, b⟩))
    · exact .inr (.inr (.inr ⟨a, b⟩))
  clear h2
  rcases way with ⟨rfl, rfl, rfl⟩ | ⟨rfl, rfl, hk, hk2⟩ | ⟨rfl, rfl⟩ | ⟨rfl, rfl⟩
  case' inl => rw [if_pos rfl, if_pos rfl]
  case' inr.inl => rw [if_pos rfl, if_neg hk2]; clear hk2
  case' inr.inr.inl => simp only [Bool.false_eq_true, if_false]
  case' inr.inr.inr => simp only [Bool.false_eq_true, if_false]
  all_goals
    go_enter Try.func80, Try.ntmps80
    go_wp2_with fail
    refine Calls.mono HG'.out ?_
    rintro e w1 ⟨rfl, kk⟩
    have B3 := Blk.new w1 102 (headC k0 l0 z0 t0)
    replace K := (K.trans kk (by simp)).alloc (.cells (headC k0 l0 z0 t0) 102)
    clear kk
    obtain ⟨c0, c1, c2, c3⟩ := blk4 B3
    go_wp2
    go_ret
    exact ⟨rfl, K⟩

set_option maxRecDepth 100000 in
set_option maxHeartbeats 4000000 in
theorem make_ok {w : World} {B0 r n : Nat} {v : Value} {bs : List (Nat × Nat)} {L : List Int} (h : Ref02.RM w B0 r v n bs L) (n1 : 1 ≤ n) (n2 : n ≤ 64) (f k l : Int) (z : Bool) (t : Int) : Calls Try.prog 76 #[.pointer (some ⟨r, 0, none⟩), .int .i64 f, headV k l z t] w fun e w' => e = .returned (.int .i64 (hputE n f k l z t)) ∧ Ref02.RM w' B0 r v n bs (hmakeL n L f k l z t) ∧ Ref02.Chr (bs.map Prod.fst) B0 w w' := by
  have HR := rright_ok k l z t
  have HP := fun (W : World) (M : List Int) (q : Ref02.RM W B0 r v n bs M) => HeadRef.put_ok q n1 n2 f k l z t
  unfold hmakeL
  unfold hputE hputL at *
  generalize rightH k l z t = R at *
  obtain ⟨b, eb⟩ : ∃ b, w.heap.size = b := ⟨_, rfl⟩
  have A3 := Blk.new' w 102 (headC k l z t) eb
  have m := h.alloc (.cells (headC k l z t) 102)
  have K := Ref02.Chr.of0 (R := bs.map Prod.fst) (B := B0) ((Chg.refl [] w).alloc (.cells (headC k l z t) 102))
  clear h
  have HR' := Lib.hid HR
  have HP' := Lib.hid HP
  clear HR HP
  cases R with
  | false =>
    obtain ⟨c0, c1, c2, c3⟩ := blk4 A3
    go_enter Try.func76, Try.ntmps76
    go_wp2_with (go_at_call 105; refine Calls.mono (HR'.out _) ?_; rintro e w1 ⟨rfl, k1⟩; replace K := HeadRef.chr0 K k1; replace m := m.chg0 k1)
    go_ret
    exact ⟨rfl, m, K⟩
  | true =>
    simp only [if_true]
    have HC := fun (W : World) (q : Ref02.RM W B0 r v n bs L) => Ref02.clear_ok q n1 n2 f
    have way : (canF n f = 0) ∨ (canF n f = 1 ∧ ∀ M, putL n M f k l z t = M) := by
      rcases canF_two n f with ⟨a, _⟩ | ⟨a, b'⟩
      · exact .inl a
      · exact .inr ⟨a, fun M => by unfold putL; rw [b', b', b', b']⟩
    have HP2 : Hid (∀ (W : World) (M : List Int), Ref02.RM W B0 r v n bs M → Calls Try.prog 107 #[.pointer (some ⟨r, 0, none⟩), .int .i64 f, headV k l z t] W fun e w' => e = .returned (.int .i64 (canF n f)) ∧ Ref02.RM w' B0 r v n bs (putL n M f k l z t) ∧ Ref02.Chr (bs.map Prod.fst) B0 W w') := HP'.out
    clear HP'
    generalize canF n f = E at *
    generalize clL n L f = M at *
    have HC' := Lib.hid HC
    clear HC
    rcases way with rfl | ⟨rfl, hno⟩
    · obtain ⟨c0, c1, c2, c3⟩ := blk4 A3
      go_enter Try.func76, Try.ntmps76
      go_wp2_with fail
      refine Calls.mono (HR'.out _) ?_
      rintro e w1 ⟨rfl, k1⟩
      replace K := HeadRef.chr0 K k1
      replace m := m.chg0 k1
      replace A3 := A3.chg k1 (by simp)
      clear k1 c0 c1 c2 c3
      go_wp2_with fail
      refine Calls.mono (HC'.out _ m) ?_
      rintro e w2 ⟨rfl, m2, k2⟩
      replace K := HeadRef.chr_trans K k2
      replace A3 := Ref02.chr_blk A3 k2 (.inl (by decide))
      clear k2
      obtain ⟨c0, c1, c2, c3⟩ := blk4 A3
      go_wp2_with (go_at_call 107; refine Calls.mono (HP2.out _ _ m2) ?_; rintro e w3 ⟨rfl, m3, k3⟩; replace K := HeadRef.chr_trans K k3)
      go_ret
      exact ⟨rfl, m3, K⟩
    · obtain ⟨c0, c1, c2, c3⟩ := blk4 A3
      have HN := Lib.hid hno
      clear hno
      go_enter Try.func76, Try.ntmps76
      go_wp2_with fail
      refine Calls.mono (HR'.out _) ?_
      rintro e w1 ⟨rfl, k1⟩
      replace K := HeadRef.chr0 K k1
      replace m := m.chg0 k1
      clear k1 c0 c1 c2 c3
      go_wp2_with fail
      refine Calls.mono (HC'.out _ m) ?_
      rintro e w2 ⟨rfl, m2, k2⟩
      replace K := HeadRef.chr_trans K k2
      clear k2
      go_wp2
      go_ret
      exact ⟨rfl, by rw [HN.out]; exact m2, K⟩
end Go.Proofs.Ytknbeklplmhheaa.HeadRefIs
