/- Put, Get of package palanquinref09. -/
import Derived.Test.YtbjiecpkalcfeaaCapRef
import Derived.Test.YtbjiecpkalcfeaaCapPut
import Derived.Test.YtbjiecpkalcfeaaCapGet
import Derived.Test.YtbjiecpkalcfeaaRefPack
namespace Go.Proofs.Ytbjiecpkalcfeaa.CapRefW
open Go Go.RowKit Go.Proofs.Ytbjiecpkalcfeaa Go.Proofs.Ytbjiecpkalcfeaa.Heap Go.Proofs.Ytbjiecpkalcfeaa.Bits Go.Proofs.Ytbjiecpkalcfeaa.Field Go.Proofs.Ytbjiecpkalcfeaa.Places Go.Proofs.Ytbjiecpkalcfeaa.Parts Go.Proofs.Ytbjiecpkalcfeaa.Unpack Go.Proofs.Ytbjiecpkalcfeaa.Cap Go.Proofs.Ytbjiecpkalcfeaa.CapW Go.Proofs.Ytbjiecpkalcfeaa.CapPut Go.Proofs.Ytbjiecpkalcfeaa.CapGet

set_option maxRecDepth 100000 in
theorem widths_ok (w : World) : Calls Try.prog 97 #[] w fun e w' => ∃ g, e = .returned (.slice (some ⟨g, 0, none⟩) 5 5) ∧ Blk w' g 3 w5C ∧ w.heap.size ≤ g ∧ Chg [] w w' := by
  go_enter Try.func97, Try.ntmps97
  go_wp2
  go_ret
  exact ⟨w.heap.size, rfl, Blk.new w 3 w5C, Nat.le_refl _, (Chg.refl [] w).alloc _⟩

set_option maxRecDepth 100000 in
set_option maxHeartbeats 4000000 in
theorem getCR_ok (u s : Int) (w : World) (h0 : 0 ≤ u) (h1 : u < 18446744073709551616) (s0 : 0 ≤ s) (s1 : s < 18446744073709551616) : Calls Try.prog 78 #[.int .u64 u, .int .u64 s] w fun e' w' => e' = .returned (.tuple #[getCV u s, .int .i64 (getCE u s)]) ∧ Chg [] w w' := by
  obtain ⟨b, eb⟩ : ∃ b, w.heap.size = b := ⟨_, rfl⟩
  have B := Blk.new' w 70 (capC 0 0 0 0 0 0) eb
  have K := (Chg.refl [] w).alloc (.cells (capC 0 0 0 0 0 0) 70)
  have hun := unp5 h0 h1
  have hU := fun A c W hn => RefUnpack.unpack_ok A 5 c W5 u W hn h0 h1
  by_cases hs : u < 137438953472 ∧ s ≤ 1073741824
  · obtain ⟨hs1, hs2⟩ := hs
    have hok : UnpOk W5 u := hun.1.2 hs1
    obtain ⟨r1, r2⟩ : unpL W5 u = partsL W5 u W5.length ∧ unpE W5 u = 0 := ⟨if_pos hok, if_pos hok⟩
    rw [show W5.length = 5 from rfl, hun.2] at r1
    have hG : getCok u s = rightC (u % 16) (u / 16 % 32) (u / 512 % 64) (u / 32768 % 64) (u / 2097152 % 65536) s := by unfold getCok; rw [decide_eq_true ⟨hs1, hs2⟩]; rfl
    unfold getCV getCE
    rw [hG]
    have z0 : 0 ≤ u % 16 ∧ u % 16 < 16 := by omega
    have z1 : 0 ≤ u / 16 % 32 ∧ u / 16 % 32 < 32 := by omega
    have z2 : 0 ≤ u / 512 % 64 ∧ u / 512 % 64 < 64 := by omega
    have z3 : 0 ≤ u / 32768 % 64 ∧ u / 32768 % 64 < 64 := by omega
    have z4 : 0 ≤ u / 2097152 % 65536 ∧ u / 2097152 % 65536 < 65536 := by omega
    generalize u % 16 = y0 at *
    generalize u / 16 % 32 = y1 at *
    generalize u / 512 % 64 = y2 at *
    generalize u / 32768 % 64 = y3 at *
    generalize u / 2097152 % 65536 = y4 at *
    have HUN : Hid (∀ A c W, Nums W .i64 A 5 W5 → Calls Try.prog 98 #[.slice A 5 c, .int .u64 u] W fun e w' => ∃ v, e = .returned (.tuple #[v, .int .i64 0]) ∧ w'.ownsRow 0 102 1 v 5 (nums .u64 [y0, y1, y2, y3, y4]) ∧ (∀ g, v.ownBlock = some g → W.heap.size ≤ g) ∧ Chg [] W w') := fun A c W hn => by
      have := hU A c W hn
      rw [r1, r2] at this
      exact this
    have HR : ∀ w, Calls Try.prog 95 #[capV y0 y1 y2 y3 y4 s] w fun e w' => e = .returned (.bool (rightC y0 y1 y2 y3 y4 s)) ∧ Chg [] w w' := CapRef.right_ok y0 y1 y2 y3 y4 s
    generalize rightC y0 y1 y2 y3 y4 s = R at *
    have HR' : Hid (∀ w, Calls Try.prog 95 #[capV y0 y1 y2 y3 y4 s] w fun e w' => e = .returned (.bool R) ∧ Chg [] w w') := HR
    clear HR hU r1 r2 hun hok hG
    have v0 : IntKind.i64.wrap y0 = y0 := by rw [IntKind.wrap_i64]; omega
    have v1 : IntKind.i64.wrap y1 = y1 := by rw [IntKind.wrap_i64]; omega
    have v2 : IntKind.i64.wrap y2 = y2 := by rw [IntKind.wrap_i64]; omega
    have v3 : IntKind.i64.wrap y3 = y3 := by rw [IntKind.wrap_i64]; omega
    have v4 : IntKind.i64.wrap y4 = y4 := by rw [IntKind.wrap_i64]; omega
    have v5 : IntKind.i64.wrap s = s := by rw [IntKind.wrap_i64]; omega
    go_enter Try.func78, Try.ntmps78
    go_wp2_with (go_at_call 97; refine Calls.mono (widths_ok _) ?_; rintro e' w1 ⟨y, rfl, bg, hyg, k1⟩; replace B := B.chg k1 (by simp); replace K := K.trans k1 (by simp))
    have hN := nums5 bg
    refine Calls.mono (HUN.out _ _ _ hN) ?_
    rintro e' w2 ⟨v, rfl, o1, q1, k2⟩
    replace B := B.chg k2 (by simp)
    replace K := K.trans k2 (by simp)
    obtain ⟨q, cap, rfl, -, hlq⟩ := o1.form (by decide)
    have d0 : w2.cell? ⟨q, 0, none⟩ = some (.int .u64 y0) := o1.cellAt 0 (by decide)
    have d1 : w2.cell? ⟨q, 1, none⟩ = some (.int .u64 y1) := o1.cellAt 1 (by decide)
    have d2 : w2.cell? ⟨q, 2, none⟩ = some (.int .u64 y2) := o1.cellAt 2 (by decide)
    have d3 : w2.cell? ⟨q, 3, none⟩ = some (.int .u64 y3) := o1.cellAt 3 (by decide)
    have d4 : w2.cell? ⟨q, 4, none⟩ = some (.int .u64 y4) := o1.cellAt 4 (by decide)
    clear k1 k2 hN HUN o1 q1
    go_wp2
    go_region_held3 (fun V => V.cell? ⟨q, 0, none⟩ = some (.int .u64 y0) ∧ V.cell? ⟨q, 1, none⟩ = some (.int .u64 y1) ∧ V.cell? ⟨q, 2, none⟩ = some (.int .u64 y2) ∧ V.cell? ⟨q, 3, none⟩ = some (.int .u64 y3) ∧ V.cell? ⟨q, 4, none⟩ = some (.int .u64 y4)) (go_keep) (fail)
    obtain ⟨x, ex⟩ : ∃ x, w2.heap.size = x := ⟨_, rfl⟩
    have B3 := (Blk.new' w2 70 (capC y0 y1 y2 y3 y4 s) ex).drew
    replace B := (B.alloc (.cells (capC y0 y1 y2 y3 y4 s) 70)).drew
    replace K := (K.alloc (.cells (capC y0 y1 y2 y3 y4 s) 70)).drew
    obtain ⟨c0, c1, c2, c3, c4, c5⟩ := blk6 B3
    clear d0 d1 d2 d3 d4
    cases R with
    | false =>
      go_wp2_with (go_at_call 95; refine Calls.mono (HR'.out _) ?_; rintro e' w1 ⟨rfl, k1⟩; replace B := B.chg k1 (by simp); replace B3 := B3.chg k1 (by simp); replace K := K.trans k1 (by simp); obtain ⟨c0, c1, c2, c3, c4, c5⟩ := blk6 B3; obtain ⟨e0, e1, e2, e3, e4, e5⟩ := blk6 B; have g0 := B.frozen 0; have g1 := B.frozen 1; have g2 := B.frozen 2; have g3 := B.frozen 3; have g4 := B.frozen 4; have g5 := B.frozen 5)
      have G := Blk.set_ (Blk.set_ (Blk.set_ (Blk.set_ (Blk.set_ (Blk.set_ (B) 0 (.int .i64 0)) 1 (.int .i64 0)) 2 (.int .i64 0)) 3 (.int .i64 0)) 4 (.int .i64 0)) 5 (.int .i64 0)
      obtain ⟨q0, q1, q2, q3, q4, q5⟩ := blk6 (a := .int .i64 0) (b := .int .i64 0) (c := .int .i64 0) (d := .int .i64 0) (e := .int .i64 0) (f := .int .i64 0) G
      refine ⟨rfl, .tuple #[capV 0 0 0 0 0 0, .int .i64 12], ?_, rfl, ((((((K.setCell (p := ⟨b, 0, none⟩) (.inr (by simp; omega)) _).setCell (p := ⟨b, 1, none⟩) (.inr (by simp; omega)) _).setCell (p := ⟨b, 2, none⟩) (.inr (by simp; omega)) _).setCell (p := ⟨b, 3, none⟩) (.inr (by simp; omega)) _).setCell (p := ⟨b, 4, none⟩) (.inr (by simp; omega)) _).setCell (p := ⟨b, 5, none⟩) (.inr (by simp; omega)) _)⟩
      simp [results, go_sem, q0, q1, q2, q3, q4, q5]
    | true =>
      go_wp2_with (go_at_call 95; refine Calls.mono (HR'.out _) ?_; rintro e' w1 ⟨rfl, k1⟩; replace B := B.chg k1 (by simp); replace B3 := B3.chg k1 (by simp); replace K := K.trans k1 (by simp); obtain ⟨c0, c1, c2, c3, c4, c5⟩ := blk6 B3; obtain ⟨e0, e1, e2, e3, e4, e5⟩ := blk6 B; have g0 := B.frozen 0; have g1 := B.frozen 1; have g2 := B.frozen 2; have g3 := B.frozen 3; have g4 := B.frozen 4; have g5 := B.frozen 5)
      have G := Blk.set_ (Blk.set_ (Blk.set_ (Blk.set_ (Blk.set_ (Blk.set_ (B) 0 (.int .i64 y0)) 1 (.int .i64 y1)) 2 (.int .i64 y2)) 3 (.int .i64 y3)) 4 (.int .i64 y4)) 5 (.int .i64 s)
      obtain ⟨q0, q1, q2, q3, q4, q5⟩ := blk6 (a := .int .i64 y0) (b := .int .i64 y1) (c := .int .i64 y2) (d := .int .i64 y3) (e := .int .i64 y4) (f := .int .i64 s) G
      refine ⟨rfl, .tuple #[capV y0 y1 y2 y3 y4 s, .int .i64 0], ?_, rfl, ((((((K.setCell (p := ⟨b, 0, none⟩) (.inr (by simp; omega)) _).setCell (p := ⟨b, 1, none⟩) (.inr (by simp; omega)) _).setCell (p := ⟨b, 2, none⟩) (.inr (by simp; omega)) _).setCell (p := ⟨b, 3, none⟩) (.inr (by simp; omega)) _).setCell (p := ⟨b, 4, none⟩) (.inr (by simp; omega)) _).setCell (p := ⟨b, 5, none⟩) (.inr (by simp; omega)) _)⟩
      simp [results, go_sem, q0, q1, q2, q3, q4, q5]
  · have hG : getCok u s = false := by unfold getCok; rw [decide_eq_false hs]; rfl
    unfold getCV getCE
    rw [hG]
    obtain ⟨E, eE⟩ : ∃ E, unpE W5 u = E := ⟨_, rfl⟩
    have hE : (E = 1) ∨ (E = 0 ∧ 1073741824 < s) := by
      rw [← eE]
      unfold unpE
      by_cases h : UnpOk W5 u
      · rw [if_pos h]
        have := hun.1.1 h
        right; exact ⟨rfl, by omega⟩
      · rw [if_neg h]; exact .inl rfl
    have HUN : Hid (∀ A c W, Nums W .i64 A 5 W5 → Calls Try.prog 98 #[.slice A 5 c, .int .u64 u] W fun e w' => ∃ v, e = .returned (.tuple #[v, .int .i64 E]) ∧ Chg [] W w') := fun A c W hn => by
      have := hU A c W hn
      rw [eE] at this
      exact this.mono fun _ _ ⟨v, h1, _, _, h4⟩ => ⟨v, h1, h4⟩
    clear hU hun hG eE hs
    rcases hE with rfl | ⟨rfl, hbig⟩
    all_goals
      go_enter Try.func78, Try.ntmps78
      go_wp2_with (go_at_call 97; refine Calls.mono (widths_ok _) ?_; rintro e' w1 ⟨y, rfl, bg, hyg, k1⟩; replace B := B.chg k1 (by simp); replace K := K.trans k1 (by simp))
      have hN := nums5 bg
      refine Calls.mono (HUN.out _ _ _ hN) ?_
      rintro e' w2 ⟨v, rfl, k2⟩
      replace B := B.chg k2 (by simp)
      replace K := K.trans k2 (by simp)
      obtain ⟨e0, e1, e2, e3, e4, e5⟩ := blk6 B
      have g0 := B.frozen 0
      have g1 := B.frozen 1
      have g2 := B.frozen 2
      have g3 := B.frozen 3
      have g4 := B.frozen 4
      have g5 := B.frozen 5
      clear k1 k2 hN HUN
      go_wp2
      have G := Blk.set_ (Blk.set_ (Blk.set_ (Blk.set_ (Blk.set_ (Blk.set_ (B) 0 (.int .i64 0)) 1 (.int .i64 0)) 2 (.int .i64 0)) 3 (.int .i64 0)) 4 (.int .i64 0)) 5 (.int .i64 0)
      obtain ⟨q0, q1, q2, q3, q4, q5⟩ := blk6 (a := .int .i64 0) (b := .int .i64 0) (c := .int .i64 0) (d := .int .i64 0) (e := .int .i64 0) (f := .int .i64 0) G
      refine ⟨rfl, .tuple #[capV 0 0 0 0 0 0, .int .i64 12], ?_, rfl, ((((((K.setCell (p := ⟨b, 0, none⟩) (.inr (by simp; omega)) _).setCell (p := ⟨b, 1, none⟩) (.inr (by simp; omega)) _).setCell (p := ⟨b, 2, none⟩) (.inr (by simp; omega)) _).setCell (p := ⟨b, 3, none⟩) (.inr (by simp; omega)) _).setCell (p := ⟨b, 4, none⟩) (.inr (by simp; omega)) _).setCell (p := ⟨b, 5, none⟩) (.inr (by simp; omega)) _)⟩
      simp [results, go_sem, q0, q1, q2, q3, q4, q5]

set_option maxRecDepth 100000 in
set_option maxHeartbeats 4000000 in
theorem putCR_ok (k r t l e a : Int) (w : World) : Calls Try.prog 76 #[capV k r t l e a] w fun e' w' => e' = .returned (.tuple #[.int .u64 (putC1 k r t l e a), .int .u64 (putC2 k r t l e a), .int .i64 (errC (rightC k r t l e a))]) ∧ Chg [] w w' := by
  unfold putC1 putC2
  have hbd := fun h => sized_bd (right_sized (k := k) (r := r) (t := t) (l := l) (e := e) (a := a) h)
  have HR : ∀ w, Calls Try.prog 95 #[capV k r t l e a] w fun e' w' => e' = .returned (.bool (rightC k r t l e a)) ∧ Chg [] w w' := CapRef.right_ok k r t l e a
  generalize rightC k r t l e a = R at *
  have HR' : Hid (∀ w, Calls Try.prog 95 #[capV k r t l e a] w fun e' w' => e' = .returned (.bool R) ∧ Chg [] w w') := HR
  clear HR
  obtain ⟨b, eb⟩ : ∃ b, w.heap.size = b := ⟨_, rfl⟩
  have B := Blk.new' w 70 (capC k r t l e a) eb
  have K := (Chg.refl [] w).alloc (.cells (capC k r t l e a) 70)
  cases R with
  | false =>
    clear hbd
    go_enter Try.func76, Try.ntmps76
    go_wp2_with (go_at_call 95; refine Calls.mono (HR'.out _) ?_; rintro e' w1 ⟨rfl, k1⟩; replace K := K.trans k1 (by simp))
    go_ret3
    exact ⟨rfl, K⟩
  | true =>
    obtain ⟨⟨m0, m1⟩, ⟨m2, m3⟩, ⟨m4, m5⟩, ⟨m6, m7⟩, ⟨m8, m9⟩, ⟨m10, m11⟩⟩ := hbd rfl
    have HP : Hid (packS W5 [k, r, t, l, e] = (capWord k r t l e, 0)) := pack5 m0 (by omega) m2 m3 m4 m5 m6 m7 m8 m9
    have HVS : Hid (∀ x ∈ [k, r, t, l, e], 0 ≤ x ∧ x < 18446744073709551616) := by
      intro x hx
      simp at hx
      rcases hx with rfl | rfl | rfl | rfl | rfl <;> omega
    rw [if_pos rfl, if_pos rfl]
    generalize capWord k r t l e = cw at *
    have v0 : IntKind.u64.wrap k = k := by rw [IntKind.wrap_u64]; omega
    have v1 : IntKind.u64.wrap r = r := by rw [IntKind.wrap_u64]; omega
    have v2 : IntKind.u64.wrap t = t := by rw [IntKind.wrap_u64]; omega
    have v3 : IntKind.u64.wrap l = l := by rw [IntKind.wrap_u64]; omega
    have v4 : IntKind.u64.wrap e = e := by rw [IntKind.wrap_u64]; omega
    have v5 : IntKind.u64.wrap a = a := by rw [IntKind.wrap_u64]; omega
    clear hbd
    go_enter Try.func76, Try.ntmps76
    go_wp2_with (go_at_call 95; refine Calls.mono (HR'.out _) ?_; rintro e' w1 ⟨rfl, k1⟩; replace B := B.chg k1 (by simp); replace K := K.trans k1 (by simp))
    clear k1
    replace B := B.drew
    replace K := K.drew
    obtain ⟨c0, c1, c2, c3, c4, c5⟩ := blk6 B
    have BA : Blk (w1.alloc (.cells #[.int .u64 k, .int .u64 r, .int .u64 t, .int .u64 l, .int .u64 e] 102)).drew b 70 (capC k r t l e a) := B.alloc (.cells #[.int .u64 k, .int .u64 r, .int .u64 t, .int .u64 l, .int .u64 e] 102)
    go_region_held3 (fun V => V.cell? ⟨b, 0, none⟩ = some (.int .i64 k) ∧ V.cell? ⟨b, 1, none⟩ = some (.int .i64 r) ∧ V.cell? ⟨b, 2, none⟩ = some (.int .i64 t) ∧ V.cell? ⟨b, 3, none⟩ = some (.int .i64 l) ∧ V.cell? ⟨b, 4, none⟩ = some (.int .i64 e)) (first | exact ⟨B.cell 0, B.cell 1, B.cell 2, B.cell 3, B.cell 4⟩ | exact ⟨BA.cell 0, BA.cell 1, BA.cell 2, BA.cell 3, BA.cell 4⟩ | exact ⟨(B.alloc (.cells #[.int .u64 k, .int .u64 r, .int .u64 t, .int .u64 l, .int .u64 e] 102)).cell 0, (B.alloc (.cells #[.int .u64 k, .int .u64 r, .int .u64 t, .int .u64 l, .int .u64 e] 102)).cell 1, (B.alloc (.cells #[.int .u64 k, .int .u64 r, .int .u64 t, .int .u64 l, .int .u64 e] 102)).cell 2, (B.alloc (.cells #[.int .u64 k, .int .u64 r, .int .u64 t, .int .u64 l, .int .u64 e] 102)).cell 3, (B.alloc (.cells #[.int .u64 k, .int .u64 r, .int .u64 t, .int .u64 l, .int .u64 e] 102)).cell 4⟩)
      (first
        | (go_at_call 97; refine Calls.mono (widths_ok _) ?_; rintro e' w2 ⟨y, rfl, bg, hyg, k2⟩; replace B := B.chg k2 (by simp); replace K := K.trans k2 (by simp))
        | (go_at_call 97; refine Calls.mono (widths_ok _) ?_; rintro e' w2 ⟨y, rfl, bg, hyg, k2⟩; have nv := numsOf5 ((Blk.new w1.drew 102 #[.int .u64 k, .int .u64 r, .int .u64 t, .int .u64 l, .int .u64 e]).chg k2 (by simp)); replace B := (B.alloc (.cells #[.int .u64 k, .int .u64 r, .int .u64 t, .int .u64 l, .int .u64 e] 102)).chg k2 (by simp); replace K := (K.alloc (.cells #[.int .u64 k, .int .u64 r, .int .u64 t, .int .u64 l, .int .u64 e] 102)).trans k2 (by simp))
        | (go_at_call 96; have hq := RefPack.pack_ok (some ⟨y, 0, none⟩) (some ⟨w1.drew.heap.size, 0, none⟩) 5 5 5 5 W5 [k, r, t, l, e] w2 (nums5 bg) nv rfl HVS.out; rw [HP.out] at hq; refine Calls.mono hq ?_; rintro e' w6 ⟨rfl, qq, rfl⟩; replace K := K.drewN qq)
        | (go_at_call 96; have hq := RefPack.pack_ok (some ⟨y, 0, none⟩) (some ⟨w2.heap.size, 0, none⟩) 5 5 5 5 W5 [k, r, t, l, e] _ (nums5 (bg.alloc (.cells #[.int .u64 k, .int .u64 r, .int .u64 t, .int .u64 l, .int .u64 e] 102))) (numsOf5 (Blk.new w2 102 #[.int .u64 k, .int .u64 r, .int .u64 t, .int .u64 l, .int .u64 e])) rfl HVS.out; rw [HP.out] at hq; refine Calls.mono hq ?_; rintro e' w6 ⟨rfl, qq, rfl⟩; replace B := (B.alloc (.cells #[.int .u64 k, .int .u64 r, .int .u64 t, .int .u64 l, .int .u64 e] 102)); replace K := (K.alloc (.cells #[.int .u64 k, .int .u64 r, .int .u64 t, .int .u64 l, .int .u64 e] 102)).drewN qq))
    all_goals obtain ⟨c0, c1, c2, c3, c4, c5⟩ := blk6 B
    all_goals go_wp2
    all_goals go_quiet (fail)
    all_goals go_wp2
    all_goals go_ret3
    all_goals exact ⟨rfl, K.drewN nq⟩
end Go.Proofs.Ytbjiecpkalcfeaa.CapRefW
