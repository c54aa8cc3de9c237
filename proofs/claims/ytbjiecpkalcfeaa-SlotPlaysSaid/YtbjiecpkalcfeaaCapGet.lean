/- Get of package cap. -/
import Derived.Test.YtbjiecpkalcfeaaCapW
namespace Go.Proofs.Ytbjiecpkalcfeaa.CapGet
open Go Go.RowKit Go.Proofs.Ytbjiecpkalcfeaa Go.Proofs.Ytbjiecpkalcfeaa.Heap Go.Proofs.Ytbjiecpkalcfeaa.Bits Go.Proofs.Ytbjiecpkalcfeaa.Field Go.Proofs.Ytbjiecpkalcfeaa.Places Go.Proofs.Ytbjiecpkalcfeaa.Parts Go.Proofs.Ytbjiecpkalcfeaa.Unpack Go.Proofs.Ytbjiecpkalcfeaa.Cap Go.Proofs.Ytbjiecpkalcfeaa.CapW

def getCok (u s : Int) : Bool := decide (u < 137438953472 ∧ s ≤ 1073741824) && rightC (u % 16) (u / 16 % 32) (u / 512 % 64) (u / 32768 % 64) (u / 2097152 % 65536) s
def getCV (u s : Int) : Value := if getCok u s then capV (u % 16) (u / 16 % 32) (u / 512 % 64) (u / 32768 % 64) (u / 2097152 % 65536) s else capV 0 0 0 0 0 0
def getCE (u s : Int) : Int := if getCok u s then 0 else 12
set_option maxRecDepth 100000 in
set_option maxHeartbeats 4000000 in
theorem getC_ok (u s : Int) (w : World) (h0 : 0 ≤ u) (h1 : u < 18446744073709551616) (s0 : 0 ≤ s) (s1 : s < 18446744073709551616) : Calls Try.prog 73 #[.int .u64 u, .int .u64 s] w fun e' w' => e' = .returned (.tuple #[getCV u s, .int .i64 (getCE u s)]) ∧ Chg [] w w' := by
  obtain ⟨b, eb⟩ : ∃ b, w.heap.size = b := ⟨_, rfl⟩
  have B := Blk.new' w 70 (capC 0 0 0 0 0 0) eb
  have K := (Chg.refl [] w).alloc (.cells (capC 0 0 0 0 0 0) 70)
  have hun := unp5 h0 h1
  have hU := fun A c W hn => Unpack.unpack_ok A 5 c W5 u W hn h0 h1
  by_cases hs : u < 137438953472 ∧ s ≤ 1073741824
  · obtain ⟨hs1, hs2⟩ := hs
    have hok : UnpOk W5 u := hun.1.2 hs1
    obtain ⟨r1, r2⟩ : unpL W5 u = partsL W5 u W5.length ∧ unpE W5 u = 0 := ⟨if_pos hok, if_pos hok⟩
    rw [show W5.length = 5 from rfl, hun.2] at r1
    have hG : getCok u s = rightC (u % 16) (u / 16 % 32) (u / 512 % 64) (u / 32768 % 64) (u / 2097152 % 65536) s := by unfold getCok; rw [decide_eq_true ⟨hs1, hs2⟩]; rfl
    unfold getCV getCE
    rw [hG]
    have z0 : 0 ≤ u % 16 ∧ u % 16 < 16 := by omega
    have z1 : 0 ≤ u / 16 % 32 ∧ u / 16 % 32 < 32 := by omega
    have z2 : 0 ≤ u / 512 % 64 ∧ u / 512 % 64 < 64 := by omega
    have z3 : 0 ≤ u / 32768 % 64 ∧ u / 32768 % 64 < 64 := by omega
    have z4 : 0 ≤ u / 2097152 % 65536 ∧ u / 2097152 % 65536 < 65536 := by omega
    generalize u % 16 = y0 at *
    generalize u / 16 % 32 = y1 at *
    generalize u / 512 % 64 = y2 at *
    generalize u / 32768 % 64 = y3 at *
    generalize u / 2097152 % 65536 = y4 at *
    have HUN : Hid (∀ A c W, Nums W .i64 A 5 W5 → Calls Try.prog 93 #[.slice A 5 c, .int .u64 u] W fun e w' => ∃ v, e = .returned (.tuple #[v, .int .i64 0]) ∧ w'.ownsRow 0 102 1 v 5 (nums .u64 [y0, y1, y2, y3, y4]) ∧ (∀ g, v.ownBlock = some g → W.heap.size ≤ g) ∧ Chg [] W w') := fun A c W hn => by
      have := hU A c W hn
      rw [r1, r2] at this
      exact this
    have HR : ∀ w, Calls Try.prog 90 #[capV y0 y1 y2 y3 y4 s] w fun e w' => e = .returned (.bool (rightC y0 y1 y2 y3 y4 s)) ∧ Chg [] w w' := right_ok y0 y1 y2 y3 y4 s
    generalize rightC y0 y1 y2 y3 y4 s = R at *
    have HR' : Hid (∀ w, Calls Try.prog 90 #[capV y0 y1 y2 y3 y4 s] w fun e w' => e = .returned (.bool R) ∧ Chg [] w w') := HR
    clear HR hU r1 r2 hun hok hG
    have v0 : IntKind.i64.wrap y0 = y0 := by rw [IntKind.wrap_i64]; omega
    have v1 : IntKind.i64.wrap y1 = y1 := by rw [IntKind.wrap_i64]; omega
    have v2 : IntKind.i64.wrap y2 = y2 := by rw [IntKind.wrap_i64]; omega
    have v3 : IntKind.i64.wrap y3 = y3 := by rw [IntKind.wrap_i64]; omega
    have v4 : IntKind.i64.wrap y4 = y4 := by rw [IntKind.wrap_i64]; omega
    have v5 : IntKind.i64.wrap s = s := by rw [IntKind.wrap_i64]; omega
    go_enter Try.func73, Try.ntmps73
    go_wp2_with (go_at_call 91; refine Calls.mono (widths_ok _) ?_; rintro e' w1 ⟨rfl, k1⟩; replace B := B.chg k1 (by simp); replace K := K.trans k1 (by simp))
    have hN := nums5 (Blk.new w1 168 w5C)
    refine Calls.mono (HUN.out _ _ _ hN) ?_
    rintro e' w2 ⟨v, rfl, o1, q1, k2⟩
    replace B := (B.alloc (.cells w5C 168)).chg k2 (by simp)
    replace K := (K.alloc (.cells w5C 168)).trans k2 (by simp)
    obtain ⟨q, cap, rfl, -, hlq⟩ := o1.form (by decide)
    have d0 : w2.cell? ⟨q, 0, none⟩ = some (.int .u64 y0) := o1.cellAt 0 (by decide)
    have d1 : w2.cell? ⟨q, 1, none⟩ = some (.int .u64 y1) := o1.cellAt 1 (by decide)
    have d2 : w2.cell? ⟨q, 2, none⟩ = some (.int .u64 y2) := o1.cellAt 2 (by decide)
    have d3 : w2.cell? ⟨q, 3, none⟩ = some (.int .u64 y3) := o1.cellAt 3 (by decide)
    have d4 : w2.cell? ⟨q, 4, none⟩ = some (.int .u64 y4) := o1.cellAt 4 (by decide)
    clear k1 k2 hN HUN o1 q1
    go_wp2
    go_region_held3 (fun V => V.cell? ⟨q, 0, none⟩ = some (.int .u64 y0) ∧ V.cell? ⟨q, 1, none⟩ = some (.int .u64 y1) ∧ V.cell? ⟨q, 2, none⟩ = some (.int .u64 y2) ∧ V.cell? ⟨q, 3, none⟩ = some (.int .u64 y3) ∧ V.cell? ⟨q, 4, none⟩ = some (.int .u64 y4)) (go_keep) (fail)
    obtain ⟨x, ex⟩ : ∃ x, w2.heap.size = x := ⟨_, rfl⟩
    have B3 := (Blk.new' w2 70 (capC y0 y1 y2 y3 y4 s) ex).drew
    replace B := (B.alloc (.cells (capC y0 y1 y2 y3 y4 s) 70)).drew
    replace K := (K.alloc (.cells (capC y0 y1 y2 y3 y4 s) 70)).drew
    obtain ⟨c0, c1, c2, c3, c4, c5⟩ := blk6 B3
    clear d0 d1 d2 d3 d4
    cases R with
    | false =>
      go_wp2_with (go_at_call 90; refine Calls.mono (HR'.out _) ?_; rintro e' w1 ⟨rfl, k1⟩; replace B := B.chg k1 (by simp); replace B3 := B3.chg k1 (by simp); replace K := K.trans k1 (by simp); obtain ⟨c0, c1, c2, c3, c4, c5⟩ := blk6 B3; obtain ⟨e0, e1, e2, e3, e4, e5⟩ := blk6 B; have g0 := B.frozen 0; have g1 := B.frozen 1; have g2 := B.frozen 2; have g3 := B.frozen 3; have g4 := B.frozen 4; have g5 := B.frozen 5)
      have G := Blk.set_ (Blk.set_ (Blk.set_ (Blk.set_ (Blk.set_ (Blk.set_ (B) 0 (.int .i64 0)) 1 (.int .i64 0)) 2 (.int .i64 0)) 3 (.int .i64 0)) 4 (.int .i64 0)) 5 (.int .i64 0)
      obtain ⟨q0, q1, q2, q3, q4, q5⟩ := blk6 (a := .int .i64 0) (b := .int .i64 0) (c := .int .i64 0) (d := .int .i64 0) (e := .int .i64 0) (f := .int .i64 0) G
      refine ⟨rfl, .tuple #[capV 0 0 0 0 0 0, .int .i64 12], ?_, rfl, ((((((K.setCell (p := ⟨b, 0, none⟩) (.inr (by simp; omega)) _).setCell (p := ⟨b, 1, none⟩) (.inr (by simp; omega)) _).setCell (p := ⟨b, 2, none⟩) (.inr (by simp; omega)) _).setCell (p := ⟨b, 3, none⟩) (.inr (by simp; omega)) _).setCell (p := ⟨b, 4, none⟩) (.inr (by simp; omega)) _).setCell (p := ⟨b, 5, none⟩) (.inr (by simp; omega)) _)⟩
      simp [results, go_sem, q0, q1, q2, q3, q4, q5]
    | true =>
      go_wp2_with (go_at_call 90; refine Calls.mono (HR'.out _) ?_; rintro e' w1 ⟨rfl, k1⟩; replace B := B.chg k1 (by simp); replace B3 := B3.chg k1 (by simp); replace K := K.trans k1 (by simp); obtain ⟨c0, c1, c2, c3, c4, c5⟩ := blk6 B3; obtain ⟨e0, e1, e2, e3, e4, e5⟩ := blk6 B; have g0 := B.frozen 0; have g1 := B.frozen 1; have g2 := B.frozen 2; have g3 := B.frozen 3; have g4 := B.frozen 4; have g5 := B.frozen 5)
      have G := Blk.set_ (Blk.set_ (Blk.set_ (Blk.set_ (Blk.set_ (Blk.set_ (B) 0 (.int .i64 y0)) 1 (.int .i64 y1)) 2 (.int .i64 y2)) 3 (.int .i64 y3)) 4 (.int .i64 y4)) 5 (.int .i64 s)
      obtain ⟨q0, q1, q2, q3, q4, q5⟩ := blk6 (a := .int .i64 y0) (b := .int .i64 y1) (c := .int .i64 y2) (d := .int .i64 y3) (e := .int .i64 y4) (f := .int .i64 s) G
      refine ⟨rfl, .tuple #[capV y0 y1 y2 y3 y4 s, .int .i64 0], ?_, rfl, ((((((K.setCell (p := ⟨b, 0, none⟩) (.inr (by simp; omega)) _).setCell (p := ⟨b, 1, none⟩) (.inr (by simp; omega)) _).setCell (p := ⟨b, 2, none⟩) (.inr (by simp; omega)) _).setCell (p := ⟨b, 3, none⟩) (.inr (by simp; omega)) _).setCell (p := ⟨b, 4, none⟩) (.inr (by simp; omega)) _).setCell (p := ⟨b, 5, none⟩) (.inr (by simp; omega)) _)⟩
      simp [results, go_sem, q0, q1, q2, q3, q4, q5]
  · have hG : getCok u s = false := by unfold getCok; rw [decide_eq_false hs]; rfl
    unfold getCV getCE
    rw [hG]
    obtain ⟨E, eE⟩ : ∃ E, unpE W5 u = E := ⟨_, rfl⟩
    have hE : (E = 1) ∨ (E = 0 ∧ 1073741824 < s) := by
      rw [← eE]
      unfold unpE
      by_cases h : UnpOk W5 u
      · rw [if_pos h]
        have := hun.1.1 h
        right; exact ⟨rfl, by omega⟩
      · rw [if_neg h]; exact .inl rfl
    have HUN : Hid (∀ A c W, Nums W .i64 A 5 W5 → Calls Try.prog 93 #[.slice A 5 c, .int .u64 u] W fun e w' => ∃ v, e = .returned (.tuple #[v, .int .i64 E]) ∧ Chg [] W w') := fun A c W hn => by
      have := hU A c W hn
      rw [eE] at this
      exact this.mono fun _ _ ⟨v, h1, _, _, h4⟩ => ⟨v, h1, h4⟩
    clear hU hun hG eE hs
    rcases hE with rfl | ⟨rfl, hbig⟩
    all_goals
      go_enter Try.func73, Try.ntmps73
      go_wp2_with (go_at_call 91; refine Calls.mono (widths_ok _) ?_; rintro e' w1 ⟨rfl, k1⟩; replace B := B.chg k1 (by simp); replace K := K.trans k1 (by simp))
      have hN := nums5 (Blk.new w1 168 w5C)
      refine Calls.mono (HUN.out _ _ _ hN) ?_
      rintro e' w2 ⟨v, rfl, k2⟩
      replace B := (B.alloc (.cells w5C 168)).chg k2 (by simp)
      replace K := (K.alloc (.cells w5C 168)).trans k2 (by simp)
      obtain ⟨e0, e1, e2, e3, e4, e5⟩ := blk6 B
      have g0 := B.frozen 0
      have g1 := B.frozen 1
      have g2 := B.frozen 2
      have g3 := B.frozen 3
      have g4 := B.frozen 4
      have g5 := B.frozen 5
      clear k1 k2 hN HUN
      go_wp2
      have G := Blk.set_ (Blk.set_ (Blk.set_ (Blk.set_ (Blk.set_ (Blk.set_ (B) 0 (.int .i64 0)) 1 (.int .i64 0)) 2 (.int .i64 0)) 3 (.int .i64 0)) 4 (.int .i64 0)) 5 (.int .i64 0)
      obtain ⟨q0, q1, q2, q3, q4, q5⟩ := blk6 (a := .int .i64 0) (b := .int .i64 0) (c := .int .i64 0) (d := .int .i64 0) (e := .int .i64 0) (f := .int .i64 0) G
      refine ⟨rfl, .tuple #[capV 0 0 0 0 0 0, .int .i64 12], ?_, rfl, ((((((K.setCell (p := ⟨b, 0, none⟩) (.inr (by simp; omega)) _).setCell (p := ⟨b, 1, none⟩) (.inr (by simp; omega)) _).setCell (p := ⟨b, 2, none⟩) (.inr (by simp; omega)) _).setCell (p := ⟨b, 3, none⟩) (.inr (by simp; omega)) _).setCell (p := ⟨b, 4, none⟩) (.inr (by simp; omega)) _).setCell (p := ⟨b, 5, none⟩) (.inr (by simp; omega)) _)⟩
      simp [results, go_sem, q0, q1, q2, q3, q4, q5]
end Go.Proofs.Ytbjiecpkalcfeaa.CapGet
