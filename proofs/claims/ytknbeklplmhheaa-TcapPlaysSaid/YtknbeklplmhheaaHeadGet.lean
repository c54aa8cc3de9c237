/- Get of package head, and of package palanquinref10. -/
import Derived.Test.YtknbeklplmhheaaHeadPut
import Derived.Test.YtknbeklplmhheaaRefUnpack
import Derived.Test.YtknbeklplmhheaaHeadOne
import Derived.StillTailTactics
namespace Go.Proofs.Ytknbeklplmhheaa.HeadGet
open Go Go.RowKit Go.Proofs.Ytknbeklplmhheaa Go.Proofs.Ytknbeklplmhheaa.Heap Go.Proofs.Ytknbeklplmhheaa.Bits Go.Proofs.Ytknbeklplmhheaa.Field Go.Proofs.Ytknbeklplmhheaa.Places Go.Proofs.Ytknbeklplmhheaa.Parts Go.Proofs.Ytknbeklplmhheaa.Unpack Go.Proofs.Ytknbeklplmhheaa.Head Go.Proofs.Ytknbeklplmhheaa.HeadPut Go.Proofs.Ytknbeklplmhheaa.Two

/-- Do four words make a head? -/
def ofOk (x0 x1 x2 x3 : Int) : Bool := decide (x0 < 64 ∧ x1 ≤ 1073741824 ∧ x2 = 0 ∧ x3 = 0) && rightH (x0 % 16) (x0 / 16 % 2) (x0 / 32 % 2 == 1) x1
def ofV (x0 x1 x2 x3 : Int) : Value := if x0 < 64 ∧ x1 ≤ 1073741824 ∧ x2 = 0 ∧ x3 = 0 then headV (x0 % 16) (x0 / 16 % 2) (x0 / 32 % 2 == 1) x1 else headV 0 0 false 0
/-- What Unpack tells of a first word. -/
def UNP (P : Nat) (x0 : Int) : Prop := ∀ A c W, Nums W .i64 A 3 W3 → Calls Try.prog P #[.slice A 3 c, .int .u64 x0] W fun e w' => ∃ v, e = .returned (.tuple #[v, .int .i64 (if x0 < 64 then 0 else 1)]) ∧ (x0 < 64 → w'.ownsRow 0 36 1 v 3 (nums .u64 [x0 % 16, x0 / 16 % 2, x0 / 32 % 2])) ∧ Chg [] W w'
theorem unp_of {P : Nat} {x0 : Int} (h0 : 0 ≤ x0) (h1 : x0 < 18446744073709551616) (hU : ∀ A c W, Nums W .i64 A 3 W3 → Calls Try.prog P #[.slice A 3 c, .int .u64 x0] W fun e w' => ∃ v, e = .returned (.tuple #[v, .int .i64 (unpE W3 x0)]) ∧ w'.ownsRow 0 36 1 v (unpL W3 x0).length (nums .u64 (unpL W3 x0)) ∧ (∀ g, v.ownBlock = some g → W.heap.size ≤ g) ∧ Chg [] W w') : UNP P x0 := by
  intro A c W hn
  have hun := unp3 h0 h1
  refine (hU A c W hn).mono ?_
  rintro e w' ⟨v, rfl, hv, -, hc⟩
  by_cases h : x0 < 64
  · have hok : UnpOk W3 x0 := hun.1.2 h
    have r1 : unpL W3 x0 = partsL W3 x0 W3.length := if_pos hok
    have r2 : unpE W3 x0 = 0 := if_pos hok
    rw [show W3.length = 3 from rfl, hun.2] at r1
    rw [r1] at hv
    exact ⟨v, by rw [r2, if_pos h], fun _ => hv, hc⟩
  · have hno : ¬ UnpOk W3 x0 := fun q => h (hun.1.1 q)
    have r2 : unpE W3 x0 = 1 := if_neg hno
    exact ⟨v, by rw [r2, if_neg h], fun q => absurd q h, hc⟩
theorem prog_unp {x0 : Int} (h0 : 0 ≤ x0) (h1 : x0 < 18446744073709551616) : UNP 119 x0 := unp_of h0 h1 (fun A c W hn => Unpack.unpack_ok A 3 c W3 x0 W hn h0 h1)
theorem ref_unp {x0 : Int} (h0 : 0 ≤ x0) (h1 : x0 < 18446744073709551616) : UNP 115 x0 := unp_of h0 h1 (fun A c W hn => RefUnpack.unpack_ok A 3 c W3 x0 W hn h0 h1)
theorem ofOk_yes {x0 x1 x2 x3 : Int} (h : ofOk x0 x1 x2 x3 = true) : x0 < 64 ∧ x1 ≤ 1073741824 ∧ x2 = 0 ∧ x3 = 0 ∧ rightH (x0 % 16) (x0 / 16 % 2) (x0 / 32 % 2 == 1) x1 = true := by
  unfold ofOk at h
  rw [Bool.and_eq_true, decide_eq_true_iff] at h
  exact ⟨h.1.1, h.1.2.1, h.1.2.2.1, h.1.2.2.2, h.2⟩
/-- The ways in which four words make none. -/
theorem ofOk_no {x0 x1 x2 x3 : Int} (h : ofOk x0 x1 x2 x3 = false) : 64 ≤ x0 ∨ (x0 < 64 ∧ 1073741824 < x1) ∨ (x0 < 64 ∧ x1 ≤ 1073741824 ∧ ¬ x2 = 0) ∨ (x0 < 64 ∧ x1 ≤ 1073741824 ∧ x2 = 0 ∧ ¬ x3 = 0) ∨ (x0 < 64 ∧ x1 ≤ 1073741824 ∧ x2 = 0 ∧ x3 = 0 ∧ rightH (x0 % 16) (x0 / 16 % 2) (x0 / 32 % 2 == 1) x1 = false) := by
  by_cases h0 : x0 < 64
  · by_cases h1 : x1 ≤ 1073741824
    · by_cases h2 : x2 = 0
      · by_cases h3 : x3 = 0
        · unfold ofOk at h
          rw [decide_eq_true ⟨h0, h1, h2, h3⟩, Bool.true_and] at h
          exact .inr (.inr (.inr (.inr ⟨h0, h1, h2, h3, h⟩)))
        · exact .inr (.inr (.inr (.inl ⟨h0, h1, h2, h3⟩)))
      · exact .inr (.inr (.inl ⟨h0, h1, h2⟩))
    · exact .inr (.inl ⟨h0, by omega⟩)
  · exact .inl (by omega)

abbrev zC : Array Value := headC 0 0 false 0
set_option maxRecDepth 100000 in
set_option maxHeartbeats 4000000 in
theorem of_ok {w : World} {q : Nat} {x0 x1 x2 x3 : Int} (c : Nat) (e0 : w.cell? ⟨q, 0, none⟩ = some (.int .u64 x0)) (e1 : w.cell? ⟨q, 1, none⟩ = some (.int .u64 x1)) (e2 : w.cell? ⟨q, 2, none⟩ = some (.int .u64 x2)) (e3 : w.cell? ⟨q, 3, none⟩ = some (.int .u64 x3)) (h0 : 0 ≤ x0) (h1 : x0 < 18446744073709551616) (g0 : 0 ≤ x1) (hc : 36 ≤ c) :
    Calls Try.prog 113 #[.slice (some ⟨q, 0, none⟩) 36 c] w fun e w' => e = .returned (.tuple #[ofV x0 x1 x2 x3, .bool (ofOk x0 x1 x2 x3)]) ∧ Chg [] w w' := by
  obtain ⟨b, eb⟩ : ∃ b, w.heap.size = b := ⟨_, rfl⟩
  have B := Blk.new' w 102 zC eb
  have K := (Chg.refl [] w).alloc (.cells zC 102)
  have HUN := Lib.hid (prog_unp h0 h1)
  have keep : Hid (∀ V, Chg [] w V → V.cell? ⟨q, 0, none⟩ = some (.int .u64 x0) ∧ V.cell? ⟨q, 1, none⟩ = some (.int .u64 x1) ∧ V.cell? ⟨q, 2, none⟩ = some (.int .u64 x2) ∧ V.cell? ⟨q, 3, none⟩ = some (.int .u64 x3)) := fun V hV => by
    have hq : q < w.heap.size := World.block_lt_of_cell? w _ e0
    have hs : ∀ o, V.cell? ⟨q, o, none⟩ = w.cell? ⟨q, o, none⟩ := fun o => World.cell?_of_block (hV.block q hq (by simp))
    exact ⟨(hs 0).trans e0, (hs 1).trans e1, (hs 2).trans e2, (hs 3).trans e3⟩
  clear e0 e1 e2 e3
  unfold ofV
  obtain ⟨R, eR⟩ : ∃ R, ofOk x0 x1 x2 x3 = R := ⟨_, rfl⟩
  rw [eR]
  cases R with
  | true =>
    obtain ⟨l0, l1, rfl, rfl, hR⟩ := ofOk_yes eR
    rw [if_pos ⟨l0, l1, rfl, rfl⟩]
    have HRR := right_ok (x0 % 16) (x0 / 16 % 2) (x0 / 32 % 2 == 1) x1
    rw [hR] at HRR
    clear hR eR
    have HUN : Hid (∀ A c W, Nums W .i64 A 3 W3 → Calls Try.prog 119 #[.slice A 3 c, .int .u64 x0] W fun e w' => ∃ v, e = .returned (.tuple #[v, .int .i64 0]) ∧ w'.ownsRow 0 36 1 v 3 (nums .u64 [x0 % 16, x0 / 16 % 2, x0 / 32 % 2]) ∧ Chg [] W w') := fun A c W hn => by
      have := HUN.out A c W hn
      rw [if_pos l0] at this
      exact this.mono fun _ _ ⟨v, h1, h2, h3⟩ => ⟨v, h1, h2 l0, h3⟩
    obtain ⟨z0, z01⟩ : 0 ≤ x0 % 16 ∧ x0 % 16 < 16 := by omega
    obtain ⟨z1, z11⟩ : 0 ≤ x0 / 16 % 2 ∧ x0 / 16 % 2 < 2 := by omega
    obtain ⟨z2, z21⟩ : 0 ≤ x0 / 32 % 2 ∧ x0 / 32 % 2 < 2 := by omega
    generalize x0 % 16 = y0 at *
    generalize x0 / 16 % 2 = y1 at *
    generalize x0 / 32 % 2 = y2 at *
    obtain ⟨on, eon⟩ : ∃ on, (y2 == 1) = on := ⟨_, rfl⟩
    rw [eon] at HRR ⊢
    have HRX := Lib.hid HRR
    clear HRR
    go_enter Try.func113, Try.ntmps113
    go_wp2_with fail
    replace B := B.drew
    replace K := K.drew
    go_region_held3 (fun V => V.cell? ⟨q, 0, none⟩ = some (.int .u64 x0)) (exact (keep.out _ K).1)
      (first
        | (go_at_call 117; refine Calls.mono (widths_ok _) ?_; rintro e w2 ⟨y, rfl, bg, hyg, k2⟩; replace B := B.chg k2 (by simp); replace K := K.trans k2 (by simp))
        | (go_at_call 119; refine Calls.mono (HUN.out (some ⟨y, 0, none⟩) 3 w2 (nums3 bg)) ?_; rintro e w3 ⟨v, rfl, ov, k3⟩; replace B := B.chg k3 (by simp); replace K := K.trans k3 (by simp)))
    obtain ⟨d0, d1, d2, d3⟩ := keep.out _ K
    go_wp2_with fail
    go_loopw [29] (fun i wr => (i = .int .i64 0 ∨ i = .int .i64 1 ∨ i = .int .i64 2) ∧ w3 = wr) (fun i _ => 2 - (intOf i).toNat)
    case atStart => exact ⟨by simp, by first | trivial | rfl⟩
    case round =>
      obtain ⟨hi, rfl⟩ := hrel
      rcases hi with rfl | rfl | rfl
      · go_wp2
        go_roundw
        case rel => exact ⟨by simp, by first | trivial | rfl⟩
        case measure => simp [intOf]
      · go_wp2
        go_roundw
        case rel => exact ⟨by simp, by first | trivial | rfl⟩
        case measure => simp [intOf]
      · obtain ⟨qv, capv, rfl, -, -⟩ := ov.form (by decide)
        have s0 : w3.cell? ⟨qv, 0, none⟩ = some (.int .u64 y0) := ov.cellAt 0 (by decide)
        have s1 : w3.cell? ⟨qv, 1, none⟩ = some (.int .u64 y1) := ov.cellAt 1 (by decide)
        have s2 : w3.cell? ⟨qv, 2, none⟩ = some (.int .u64 y2) := ov.cellAt 2 (by decide)
        clear ov
        have v0 : IntKind.i64.wrap y0 = y0 := by rw [IntKind.wrap_i64]; omega
        have v1 : IntKind.i64.wrap y1 = y1 := by rw [IntKind.wrap_i64]; omega
        have v3 : IntKind.i64.wrap x1 = x1 := by rw [IntKind.wrap_i64]; omega
        go_wp2
        go_region_held3 (fun V => V.cell? ⟨qv, 0, none⟩ = some (.int .u64 y0) ∧ V.cell? ⟨qv, 1, none⟩ = some (.int .u64 y1) ∧ V.cell? ⟨qv, 2, none⟩ = some (.int .u64 y2) ∧ V.cell? ⟨q, 1, none⟩ = some (.int .u64 x1)) (go_keep) (fail)
        obtain ⟨x, ex⟩ : ∃ x, w3.heap.size = x := ⟨_, rfl⟩
        have hxb : x ≠ b := by have := B.lt; omega
        have B3 := (Blk.new' w3 102 (headC y0 y1 on x1) ex).drew
        replace B := (B.alloc (.cells (headC y0 y1 on x1) 102)).drew
        replace K := (K.alloc (.cells (headC y0 y1 on x1) 102)).drew
        clear s0 s1 s2 d0 d1 d2 d3 eon v0 v1 v3 k3 k2 hyg bg HUN
        generalize (w3.alloc (.cells (headC y0 y1 on x1) 102)).drew = W5 at *
        go_wp2_with fail
        replace B := B.drew
        replace B3 := B3.drew
        replace K := K.drew
        obtain ⟨e0, e1, e2, e3⟩ := blk4 B
        have f0 := B.frozen 0
        have f1 := B.frozen 1
        have f2 := B.frozen 2
        have f3 := B.frozen 3
        go_region_held3 (fun V => V.cell? ⟨x, 0, none⟩ = some (.int .i64 y0) ∧ V.cell? ⟨x, 1, none⟩ = some (.int .i64 y1) ∧ V.cell? ⟨x, 2, none⟩ = some (.bool on) ∧ V.cell? ⟨x, 3, none⟩ = some (.int .i64 x1)) (first | exact ⟨B3.cell 0, B3.cell 1, B3.cell 2, B3.cell 3⟩ | (have F := ((((B3.far (p := ⟨b, 0, none⟩) hxb (.int .i64 y0)).far (p := ⟨b, 1, none⟩) hxb (.int .i64 y1)).far (p := ⟨b, 2, none⟩) hxb (.bool on)).far (p := ⟨b, 3, none⟩) hxb (.int .i64 x1)); exact ⟨F.cell 0, F.cell 1, F.cell 2, F.cell 3⟩))
          (first
            | (go_at_call 98; refine Calls.mono (HRX.out _) ?_; rintro e w6 ⟨rfl, k6⟩; replace B := B.chg k6 (by simp); replace B3 := B3.chg k6 (by simp); replace K := K.trans k6 (by simp); clear e0 e1 e2 e3 f0 f1 f2 f3; obtain ⟨e0, e1, e2, e3⟩ := blk4 B; have f0 := B.frozen 0; have f1 := B.frozen 1; have f2 := B.frozen 2; have f3 := B.frozen 3))
        go_wp2
        have G := Blk.set_ (Blk.set_ (Blk.set_ (Blk.set_ B 0 (.int .i64 y0)) 1 (.int .i64 y1)) 2 (.bool on)) 3 (.int .i64 x1)
        obtain ⟨q0, q1, q2, q3⟩ := blk4 (a := .int .i64 y0) (b := .int .i64 y1) (c := .bool on) (d := .int .i64 x1) G
        refine ⟨rfl, .tuple #[headV y0 y1 on x1, .bool true], ?_, rfl, (((K.setCell (p := ⟨b, 0, none⟩) (.inr (by simp; omega)) _).setCell (p := ⟨b, 1, none⟩) (.inr (by simp; omega)) _).setCell (p := ⟨b, 2, none⟩) (.inr (by simp; omega)) _).setCell (p := ⟨b, 3, none⟩) (.inr (by simp; omega)) _⟩
        simp [results, go_sem, q0, q1, q2, q3]
  | false =>
    have hn := ofOk_no eR
    clear eR
    rcases hn with l0 | ⟨l0, l1⟩ | ⟨l0, l1, l2⟩ | ⟨l0, l1, rfl, l3⟩ | ⟨l0, l1, rfl, rfl, hR⟩
    · rw [if_neg (by omega)]
      have HUN : Hid (∀ A c W, Nums W .i64 A 3 W3 → Calls Try.prog 119 #[.slice A 3 c, .int .u64 x0] W fun e w' => ∃ v, e = .returned (.tuple #[v, .int .i64 1]) ∧ True ∧ Chg [] W w') := fun A c W hn => by
        have := HUN.out A c W hn
        rw [if_neg (by omega)] at this
        exact this.mono fun _ _ ⟨v, h1, _, h3⟩ => ⟨v, h1, trivial, h3⟩
      go_enter Try.func113, Try.ntmps113
      go_wp2_with fail
      replace B := B.drew
      replace K := K.drew
      go_region_held3 (fun V => V.cell? ⟨q, 0, none⟩ = some (.int .u64 x0)) (exact (keep.out _ K).1)
        (first
          | (go_at_call 117; refine Calls.mono (widths_ok _) ?_; rintro e w2 ⟨y, rfl, bg, hyg, k2⟩; replace B := B.chg k2 (by simp); replace K := K.trans k2 (by simp))
          | (go_at_call 119; refine Calls.mono (HUN.out (some ⟨y, 0, none⟩) 3 w2 (nums3 bg)) ?_; rintro e w3 ⟨v, rfl, -, k3⟩; replace B := B.chg k3 (by simp); replace K := K.trans k3 (by simp)))
      obtain ⟨e0, e1, e2, e3⟩ := blk4 B
      have f0 := B.frozen 0
      have f1 := B.frozen 1
      have f2 := B.frozen 2
      have f3 := B.frozen 3
      go_wp2
      have G := Blk.set_ (Blk.set_ (Blk.set_ (Blk.set_ B 0 (.int .i64 0)) 1 (.int .i64 0)) 2 (.bool false)) 3 (.int .i64 0)
      obtain ⟨q0, q1, q2, q3⟩ := blk4 (a := .int .i64 0) (b := .int .i64 0) (c := .bool false) (d := .int .i64 0) G
      refine ⟨rfl, .tuple #[headV 0 0 false 0, .bool false], ?_, rfl, (((K.setCell (p := ⟨b, 0, none⟩) (.inr (by simp; omega)) _).setCell (p := ⟨b, 1, none⟩) (.inr (by simp; omega)) _).setCell (p := ⟨b, 2, none⟩) (.inr (by simp; omega)) _).setCell (p := ⟨b, 3, none⟩) (.inr (by simp; omega)) _⟩
      simp [results, go_sem, q0, q1, q2, q3]
    · rw [if_neg (by omega)]
      have HUN : Hid (∀ A c W, Nums W .i64 A 3 W3 → Calls Try.prog 119 #[.slice A 3 c, .int .u64 x0] W fun e w' => ∃ v, e = .returned (.tuple #[v, .int .i64 0]) ∧ w'.ownsRow 0 36 1 v 3 (nums .u64 [x0 % 16, x0 / 16 % 2, x0 / 32 % 2]) ∧ Chg [] W w') := fun A c W hn => by
        have := HUN.out A c W hn
        rw [if_pos l0] at this
        exact this.mono fun _ _ ⟨v, h1, h2, h3⟩ => ⟨v, h1, h2 l0, h3⟩
      go_enter Try.func113, Try.ntmps113
      go_wp2_with fail
      replace B := B.drew
      replace K := K.drew
      go_region_held3 (fun V => V.cell? ⟨q, 0, none⟩ = some (.int .u64 x0)) (exact (keep.out _ K).1)
        (first
          | (go_at_call 117; refine Calls.mono (widths_ok _) ?_; rintro e w2 ⟨y, rfl, bg, hyg, k2⟩; replace B := B.chg k2 (by simp); replace K := K.trans k2 (by simp))
          | (go_at_call 119; refine Calls.mono (HUN.out (some ⟨y, 0, none⟩) 3 w2 (nums3 bg)) ?_; rintro e w3 ⟨v, rfl, ov, k3⟩; replace B := B.chg k3 (by simp); replace K := K.trans k3 (by simp)))
      obtain ⟨d0, d1, d2, d3⟩ := keep.out _ K
      obtain ⟨e0, e1, e2, e3⟩ := blk4 B
      have f0 := B.frozen 0
      have f1 := B.frozen 1
      have f2 := B.frozen 2
      have f3 := B.frozen 3
      go_wp2
      have G := Blk.set_ (Blk.set_ (Blk.set_ (Blk.set_ B 0 (.int .i64 0)) 1 (.int .i64 0)) 2 (.bool false)) 3 (.int .i64 0)
      obtain ⟨q0, q1, q2, q3⟩ := blk4 (a := .int .i64 0) (b := .int .i64 0) (c := .bool false) (d := .int .i64 0) G
      refine ⟨rfl, .tuple #[headV 0 0 false 0, .bool false], ?_, rfl, (((K.setCell (p := ⟨b, 0, none⟩) (.inr (by simp; omega)) _).setCell (p := ⟨b, 1, none⟩) (.inr (by simp; omega)) _).setCell (p := ⟨b, 2, none⟩) (.inr (by simp; omega)) _).setCell (p := ⟨b, 3, none⟩) (.inr (by simp; omega)) _⟩
      simp [results, go_sem, q0, q1, q2, q3]
    · rw [if_neg (by omega)]
      have HUN : Hid (∀ A c W, Nums W .i64 A 3 W3 → Calls Try.prog 119 #[.slice A 3 c, .int .u64 x0] W fun e w' => ∃ v, e = .returned (.tuple #[v, .int .i64 0]) ∧ w'.ownsRow 0 36 1 v 3 (nums .u64 [x0 % 16, x0 / 16 % 2, x0 / 32 % 2]) ∧ Chg [] W w') := fun A c W hn => by
        have := HUN.out A c W hn
        rw [if_pos l0] at this
        exact this.mono fun _ _ ⟨v, h1, h2, h3⟩ => ⟨v, h1, h2 l0, h3⟩
      go_enter Try.func113, Try.ntmps113
      go_wp2_with fail
      replace B := B.drew
      replace K := K.drew
      go_region_held3 (fun V => V.cell? ⟨q, 0, none⟩ = some (.int .u64 x0)) (exact (keep.out _ K).1)
        (first
          | (go_at_call 117; refine Calls.mono (widths_ok _) ?_; rintro e w2 ⟨y, rfl, bg, hyg, k2⟩; replace B := B.chg k2 (by simp); replace K := K.trans k2 (by simp))
          | (go_at_call 119; refine Calls.mono (HUN.out (some ⟨y, 0, none⟩) 3 w2 (nums3 bg)) ?_; rintro e w3 ⟨v, rfl, ov, k3⟩; replace B := B.chg k3 (by simp); replace K := K.trans k3 (by simp)))
      obtain ⟨d0, d1, d2, d3⟩ := keep.out _ K
      have l2' : (x2 != 0) = true := by rw [bne_iff_ne]; exact l2
      clear l2
      go_wp2_with fail
      go_loopw [29] (fun i wr => i = .int .i64 0 ∧ w3 = wr) (fun i _ => 2 - (intOf i).toNat)
      case atStart => exact ⟨by simp, by first | trivial | rfl⟩
      case round =>
        obtain ⟨hi, rfl⟩ := hrel
        subst hi
        obtain ⟨e0, e1, e2, e3⟩ := blk4 B
        have f0 := B.frozen 0
        have f1 := B.frozen 1
        have f2 := B.frozen 2
        have f3 := B.frozen 3
        go_wp2
        have G := Blk.set_ (Blk.set_ (Blk.set_ (Blk.set_ B 0 (.int .i64 0)) 1 (.int .i64 0)) 2 (.bool false)) 3 (.int .i64 0)
        obtain ⟨q0, q1, q2, q3⟩ := blk4 (a := .int .i64 0) (b := .int .i64 0) (c := .bool false) (d := .int .i64 0) G
        refine ⟨rfl, .tuple #[headV 0 0 false 0, .bool false], ?_, rfl, (((K.setCell (p := ⟨b, 0, none⟩) (.inr (by simp; omega)) _).setCell (p := ⟨b, 1, none⟩) (.inr (by simp; omega)) _).setCell (p := ⟨b, 2, none⟩) (.inr (by simp; omega)) _).setCell (p := ⟨b, 3, none⟩) (.inr (by simp; omega)) _⟩
        simp [results, go_sem, q0, q1, q2, q3]
    · rw [if_neg (by omega)]
      have HUN : Hid (∀ A c W, Nums W .i64 A 3 W3 → Calls Try.prog 119 #[.slice A 3 c, .int .u64 x0] W fun e w' => ∃ v, e = .returned (.tuple #[v, .int .i64 0]) ∧ w'.ownsRow 0 36 1 v 3 (nums .u64 [x0 % 16, x0 / 16 % 2, x0 / 32 % 2]) ∧ Chg [] W w') := fun A c W hn => by
        have := HUN.out A c W hn
        rw [if_pos l0] at this
        exact this.mono fun _ _ ⟨v, h1, h2, h3⟩ => ⟨v, h1, h2 l0, h3⟩
      go_enter Try.func113, Try.ntmps113
      go_wp2_with fail
      replace B := B.drew
      replace K := K.drew
      go_region_held3 (fun V => V.cell? ⟨q, 0, none⟩ = some (.int .u64 x0)) (exact (keep.out _ K).1)
        (first
          | (go_at_call 117; refine Calls.mono (widths_ok _) ?_; rintro e w2 ⟨y, rfl, bg, hyg, k2⟩; replace B := B.chg k2 (by simp); replace K := K.trans k2 (by simp))
          | (go_at_call 119; refine Calls.mono (HUN.out (some ⟨y, 0, none⟩) 3 w2 (nums3 bg)) ?_; rintro e w3 ⟨v, rfl, ov, k3⟩; replace B := B.chg k3 (by simp); replace K := K.trans k3 (by simp)))
      obtain ⟨d0, d1, d2, d3⟩ := keep.out _ K
      have l3' : (x3 != 0) = true := by rw [bne_iff_ne]; exact l3
      clear l3
      go_wp2_with fail
      go_loopw [29] (fun i wr => (i = .int .i64 0 ∨ i = .int .i64 1) ∧ w3 = wr) (fun i _ => 2 - (intOf i).toNat)
      case atStart => exact ⟨by simp, by first | trivial | rfl⟩
      case round =>
        obtain ⟨hi, rfl⟩ := hrel
        rcases hi with rfl | rfl
        · go_wp2
          go_roundw
          case rel => exact ⟨by simp, by first | trivial | rfl⟩
          case measure => simp [intOf]
        · obtain ⟨e0, e1, e2, e3⟩ := blk4 B
          have f0 := B.frozen 0
          have f1 := B.frozen 1
          have f2 := B.frozen 2
          have f3 := B.frozen 3
          go_wp2
          have G := Blk.set_ (Blk.set_ (Blk.set_ (Blk.set_ B 0 (.int .i64 0)) 1 (.int .i64 0)) 2 (.bool false)) 3 (.int .i64 0)
          obtain ⟨q0, q1, q2, q3⟩ := blk4 (a := .int .i64 0) (b := .int .i64 0) (c := .bool false) (d := .int .i64 0) G
          refine ⟨rfl, .tuple #[headV 0 0 false 0, .bool false], ?_, rfl, (((K.setCell (p := ⟨b, 0, none⟩) (.inr (by simp; omega)) _).setCell (p := ⟨b, 1, none⟩) (.inr (by simp; omega)) _).setCell (p := ⟨b, 2, none⟩) (.inr (by simp; omega)) _).setCell (p := ⟨b, 3, none⟩) (.inr (by simp; omega)) _⟩
          simp [results, go_sem, q0, q1, q2, q3]
    · rw [if_pos ⟨l0, l1, rfl, rfl⟩]
      have HRR := right_ok (x0 % 16) (x0 / 16 % 2) (x0 / 32 % 2 == 1) x1
      rw [hR] at HRR
      clear hR
      have HUN : Hid (∀ A c W, Nums W .i64 A 3 W3 → Calls Try.prog 119 #[.slice A 3 c, .int .u64 x0] W fun e w' => ∃ v, e = .returned (.tuple #[v, .int .i64 0]) ∧ w'.ownsRow 0 36 1 v 3 (nums .u64 [x0 % 16, x0 / 16 % 2, x0 / 32 % 2]) ∧ Chg [] W w') := fun A c W hn => by
        have := HUN.out A c W hn
        rw [if_pos l0] at this
        exact this.mono fun _ _ ⟨v, h1, h2, h3⟩ => ⟨v, h1, h2 l0, h3⟩
      obtain ⟨z0, z01⟩ : 0 ≤ x0 % 16 ∧ x0 % 16 < 16 := by omega
      obtain ⟨z1, z11⟩ : 0 ≤ x0 / 16 % 2 ∧ x0 / 16 % 2 < 2 := by omega
      obtain ⟨z2, z21⟩ : 0 ≤ x0 / 32 % 2 ∧ x0 / 32 % 2 < 2 := by omega
      generalize x0 % 16 = y0 at *
      generalize x0 / 16 % 2 = y1 at *
      generalize x0 / 32 % 2 = y2 at *
      obtain ⟨on, eon⟩ : ∃ on, (y2 == 1) = on := ⟨_, rfl⟩
      rw [eon] at HRR ⊢
      have HRX := Lib.hid HRR
      clear HRR
      go_enter Try.func113, Try.ntmps113
      go_wp2_with fail
      replace B := B.drew
      replace K := K.drew
      go_region_held3 (fun V => V.cell? ⟨q, 0, none⟩ = some (.int .u64 x0)) (exact (keep.out _ K).1)
        (first
          | (go_at_call 117; refine Calls.mono (widths_ok _) ?_; rintro e w2 ⟨y, rfl, bg, hyg, k2⟩; replace B := B.chg k2 (by simp); replace K := K.trans k2 (by simp))
          | (go_at_call 119; refine Calls.mono (HUN.out (some ⟨y, 0, none⟩) 3 w2 (nums3 bg)) ?_; rintro e w3 ⟨v, rfl, ov, k3⟩; replace B := B.chg k3 (by simp); replace K := K.trans k3 (by simp)))
      obtain ⟨d0, d1, d2, d3⟩ := keep.out _ K
      go_wp2_with fail
      go_loopw [29] (fun i wr => (i = .int .i64 0 ∨ i = .int .i64 1 ∨ i = .int .i64 2) ∧ w3 = wr) (fun i _ => 2 - (intOf i).toNat)
      case atStart => exact ⟨by simp, by first | trivial | rfl⟩
      case round =>
        obtain ⟨hi, rfl⟩ := hrel
        rcases hi with rfl | rfl | rfl
        · go_wp2
          go_roundw
          case rel => exact ⟨by simp, by first | trivial | rfl⟩
          case measure => simp [intOf]
        · go_wp2
          go_roundw
          case rel => exact ⟨by simp, by first | trivial | rfl⟩
          case measure => simp [intOf]
        · obtain ⟨qv, capv, rfl, -, -⟩ := ov.form (by decide)
          have s0 : w3.cell? ⟨qv, 0, none⟩ = some (.int .u64 y0) := ov.cellAt 0 (by decide)
          have s1 : w3.cell? ⟨qv, 1, none⟩ = some (.int .u64 y1) := ov.cellAt 1 (by decide)
          have s2 : w3.cell? ⟨qv, 2, none⟩ = some (.int .u64 y2) := ov.cellAt 2 (by decide)
          clear ov
          have v0 : IntKind.i64.wrap y0 = y0 := by rw [IntKind.wrap_i64]; omega
          have v1 : IntKind.i64.wrap y1 = y1 := by rw [IntKind.wrap_i64]; omega
          have v3 : IntKind.i64.wrap x1 = x1 := by rw [IntKind.wrap_i64]; omega
          go_wp2
          go_region_held3 (fun V => V.cell? ⟨qv, 0, none⟩ = some (.int .u64 y0) ∧ V.cell? ⟨qv, 1, none⟩ = some (.int .u64 y1) ∧ V.cell? ⟨qv, 2, none⟩ = some (.int .u64 y2) ∧ V.cell? ⟨q, 1, none⟩ = some (.int .u64 x1)) (go_keep) (fail)
          obtain ⟨x, ex⟩ : ∃ x, w3.heap.size = x := ⟨_, rfl⟩
          have hxb : x ≠ b := by have := B.lt; omega
          have B3 := (Blk.new' w3 102 (headC y0 y1 on x1) ex).drew
          replace B := (B.alloc (.cells (headC y0 y1 on x1) 102)).drew
          replace K := (K.alloc (.cells (headC y0 y1 on x1) 102)).drew
          clear s0 s1 s2 d0 d1 d2 d3 eon v0 v1 v3 k3 k2 hyg bg HUN
          generalize (w3.alloc (.cells (headC y0 y1 on x1) 102)).drew = W5 at *
          go_wp2_with fail
          replace B := B.drew
          replace B3 := B3.drew
          replace K := K.drew
          obtain ⟨e0, e1, e2, e3⟩ := blk4 B
          have f0 := B.frozen 0
          have f1 := B.frozen 1
          have f2 := B.frozen 2
          have f3 := B.frozen 3
          go_region_held3 (fun V => V.cell? ⟨x, 0, none⟩ = some (.int .i64 y0) ∧ V.cell? ⟨x, 1, none⟩ = some (.int .i64 y1) ∧ V.cell? ⟨x, 2, none⟩ = some (.bool on) ∧ V.cell? ⟨x, 3, none⟩ = some (.int .i64 x1)) (first | exact ⟨B3.cell 0, B3.cell 1, B3.cell 2, B3.cell 3⟩ | (have F := ((((B3.far (p := ⟨b, 0, none⟩) hxb (.int .i64 y0)).far (p := ⟨b, 1, none⟩) hxb (.int .i64 y1)).far (p := ⟨b, 2, none⟩) hxb (.bool on)).far (p := ⟨b, 3, none⟩) hxb (.int .i64 x1)); exact ⟨F.cell 0, F.cell 1, F.cell 2, F.cell 3⟩))
            (first
              | (go_at_call 98; refine Calls.mono (HRX.out _) ?_; rintro e w6 ⟨rfl, k6⟩; replace B := B.chg k6 (by simp); replace B3 := B3.chg k6 (by simp); replace K := K.trans k6 (by simp); clear e0 e1 e2 e3 f0 f1 f2 f3; obtain ⟨e0, e1, e2, e3⟩ := blk4 B; have f0 := B.frozen 0; have f1 := B.frozen 1; have f2 := B.frozen 2; have f3 := B.frozen 3))
          go_wp2
          have G := Blk.set_ (Blk.set_ (Blk.set_ (Blk.set_ B 0 (.int .i64 y0)) 1 (.int .i64 y1)) 2 (.bool on)) 3 (.int .i64 x1)
          obtain ⟨q0, q1, q2, q3⟩ := blk4 (a := .int .i64 y0) (b := .int .i64 y1) (c := .bool on) (d := .int .i64 x1) G
          refine ⟨rfl, .tuple #[headV y0 y1 on x1, .bool false], ?_, rfl, (((K.setCell (p := ⟨b, 0, none⟩) (.inr (by simp; omega)) _).setCell (p := ⟨b, 1, none⟩) (.inr (by simp; omega)) _).setCell (p := ⟨b, 2, none⟩) (.inr (by simp; omega)) _).setCell (p := ⟨b, 3, none⟩) (.inr (by simp; omega)) _⟩
          simp [results, go_sem, q0, q1, q2, q3]
end Go.Proofs.Ytknbeklplmhheaa.HeadGet
