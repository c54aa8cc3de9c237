/- CallNeeds' walk. -/
import Derived.Test.YtddjkejliogenaaCallRight
import Derived.Deep.RegionHeld3
namespace Go.Proofs.Ytddjkejliogenaa.CallNeeds
open Go Go.RowKit Go.Proofs.Ytddjkejliogenaa Go.Proofs.Ytddjkejliogenaa.Heap Go.Proofs.Ytddjkejliogenaa.Bits Go.Proofs.Ytddjkejliogenaa.Field Go.Proofs.Ytddjkejliogenaa.Call Go.Proofs.Ytddjkejliogenaa.CallRight

theorem fits_small {x v : Int} (h0 : 0 ≤ x) (h1 : x < 256) (hv : v = 8 ∨ v = 16) : fitsB x v = true := by
  unfold fitsB
  rcases hv with rfl | rfl
  · exact decide_eq_true (by show x.toNat < 2 ^ 8; omega)
  · exact decide_eq_true (by show x.toNat < 2 ^ 16; omega)
theorem arg_good {N x : Int} {i : Nat} (hi : i < 5) (h0 : 0 ≤ x) (h1 : x < 256) (h : needsF N ≤ i → x = 0) : argOk N i x = true := by
  unfold argOk
  rw [decide_eq_true h0, fits_small h0 h1 (by rcases (by omega : i = 0 ∨ i = 1 ∨ i = 2 ∨ i = 3 ∨ i = 4) with rfl | rfl | rfl | rfl | rfl <;> simp)]
  by_cases hn : (i : Int) < needsF N
  · rw [decide_eq_true hn]; rfl
  · rw [decide_eq_true (h (by omega))]; simp
theorem arg_bad {N : Int} {i : Nat} (h : needsF N ≤ i) : argOk N i 1 = false := by
  unfold argOk
  rw [decide_eq_false (show ¬ ((i : Int) < needsF N) by omega)]
  simp
set_option maxRecDepth 100000 in
set_option maxHeartbeats 1000000 in
theorem check_ok (n a0 a1 a2 a3 a4 : Int) (w : World) (h0 : a0 < 9223372036854775808) (h1 : a1 < 9223372036854775808) (h2 : a2 < 9223372036854775808) (h3 : a3 < 9223372036854775808) (h4 : a4 < 9223372036854775808) :
    Calls Try.prog 41 #[callV n a0 a1 a2 a3 a4] w fun e w' => e = .returned (.int .i64 (errC (rightC n a0 a1 a2 a3 a4))) ∧ Chg [] w w' := by
  have HR := fun w => right_ok n a0 a1 a2 a3 a4 w h0 h1 h2 h3 h4
  generalize rightC n a0 a1 a2 a3 a4 = R at *
  have B := Blk.new w 66 (callC n a0 a1 a2 a3 a4)
  have K := (Chg.refl [] w).alloc (.cells (callC n a0 a1 a2 a3 a4) 66)
  have HR' := Lib.hid HR
  clear HR h0 h1 h2 h3 h4
  obtain ⟨c0, c1, c2, c3, c4, c5⟩ := blk6 B
  cases R
  all_goals
    go_enter Try.func41, Try.ntmps41
    go_wp2_with (go_at_call 68; refine Calls.mono (HR'.out _) ?_; rintro e w1 ⟨rfl, k1⟩; replace K := K.trans k1 (by simp))
    go_ret
    exact ⟨rfl, K⟩
set_option maxRecDepth 100000 in
set_option maxHeartbeats 1000000 in
theorem awake_ok (w : World) : Calls Try.prog 42 #[] w fun e w' => e = .returned (.bool true) ∧ Chg [] w w' := by
  have HW : Hid (∀ w, Calls Try.prog 51 #[.int .i64 23] w fun e w' => e = .returned (.string ⟨#[114, 101, 116]⟩) ∧ Chg [] w w') := fun w => Call.word_ok 23 w
  go_enter Try.func42, Try.ntmps42
  go_wp2_with (go_at_call 51; refine Calls.mono (HW.out _) ?_; rintro e w1 ⟨rfl, k1⟩)
  go_ret
  exact ⟨by first | rfl | simp, k1⟩

abbrev rowC (N : Int) (X : List Int) : Array Value := (Value.int .i64 N :: nums .i64 X).toArray
theorem row_cell {w : World} {b t : Nat} {N : Int} {X : List Int} (h : Blk w b t (rowC N X)) {k : Nat} (hk : k < X.length) : w.cell? ⟨b, 1 + k, none⟩ = some (.int .i64 (X.getD k 0)) := by
  rw [h.cell, List.getElem?_toArray, Nat.add_comm, List.getElem?_cons_succ]
  exact nums_get _ _ _ hk
theorem row_set {w : World} {b t : Nat} {N : Int} {X : List Int} (h : Blk w b t (rowC N X)) (k : Nat) (y : Int) : Blk (w.setCell ⟨b, 1 + k, none⟩ (.int .i64 y)) b t (rowC N (X.set k y)) := by
  have := h.set_ (1 + k) (.int .i64 y)
  rw [Nat.add_comm 1 k] at this ⊢
  simpa [rowC, nums, List.map_set] using this
theorem set_getD (X : List Int) (k t : Nat) (y : Int) : (X.set k y).getD t 0 = if t = k ∧ k < X.length then y else X.getD t 0 := by
  rw [List.getD_eq_getElem?_getD, List.getD_eq_getElem?_getD, List.getElem?_set]
  by_cases e : k = t
  · subst e
    by_cases h : k < X.length
    · rw [if_pos rfl, if_pos h, if_pos ⟨rfl, h⟩]; rfl
    · rw [if_pos rfl, if_neg h, if_neg (fun q => h q.2), List.getElem?_eq_none (by omega)]
  · rw [if_neg e, if_neg (fun q => e q.1.symm)]

set_option maxRecDepth 100000 in
set_option maxHeartbeats 8000000 in
theorem callNeeds_walk (n : Int) (A : Option Addr) (m c : Nat) (xs : List Int) (at' : Int) (w : World) (n0 : 0 ≤ n) (n1 : n < 256) (hx : Nums w .u8 A m xs) (hxs : ∀ x, x ∈ xs → 0 ≤ x ∧ x < 256) (t0 : 0 ≤ at') (t1 : at' < 256) :
    Calls Try.prog 9 #[.int .u8 n, .slice A m c, .int .u8 at'] w fun e w' => e = .returned (.bool true) ∧ Chg [] w w' := by
  have hm := hx.2.1
  have HX := Lib.hid hx
  have HXS := Lib.hid hxs
  clear hx hxs
  obtain ⟨N, eN⟩ : ∃ N, n % 30 = N := ⟨_, rfl⟩
  have N0 : 0 ≤ N ∧ N ≤ 29 := by omega
  have HN := Lib.hid (Call.needs_ok N)
  obtain ⟨nb0, nb5⟩ := needsF_bd N
  have HG : Hid (∀ (i : Nat) x, i < 5 → 0 ≤ x → x < 256 → (needsF N ≤ i → x = 0) → argOk N i x = true) := fun i x a b c d => arg_good a b c d
  have HB : Hid (∀ i : Nat, needsF N ≤ i → argOk N i 1 = false) := fun i h => arg_bad h
  have HRC : Hid (∀ x0 x1 x2 x3 x4, rightC N x0 x1 x2 x3 x4 = (argOk N 0 x0 && argOk N 1 x1 && argOk N 2 x2 && argOk N 3 x3 && argOk N 4 x4)) := fun _ _ _ _ _ => by unfold rightC; rw [decide_eq_true N0, Bool.true_and]
  generalize needsF N = nn at *
  obtain ⟨N0, N29⟩ := N0
  obtain ⟨b, eb⟩ : ∃ b, w.heap.size = b := ⟨_, rfl⟩
  have B : Blk (w.alloc (.cells (callC N 0 0 0 0 0) 66)) b 66 (rowC N [0, 0, 0, 0, 0]) := Blk.new' w _ _ eb
  have K := (Chg.refl [] w).alloc (.cells (callC N 0 0 0 0 0) 66)
  have wn : IntKind.i64.wrap n = n := by rw [IntKind.wrap_i64]; omega
  go_enter Try.func9, Try.ntmps9
  go_wp2_with fail
  clear wn eN
  go_loopw [8] (fun i wr => ∃ (k : Nat) (X : List Int), i = .int .i64 k ∧ k ≤ 5 ∧ X.length = 5 ∧ Blk wr b 66 (rowC N X) ∧ Hid (∀ t, t < 5 → 0 ≤ X.getD t 0 ∧ X.getD t 0 < 256 ∧ (nn ≤ t → X.getD t 0 = 0)) ∧ Chg [] w wr) (fun i _ => 5 - (intOf i).toNat)
  case atStart => exact ⟨0, _, rfl, by decide, rfl, B, (fun t ht => by rcases (by omega : t = 0 ∨ t = 1 ∨ t = 2 ∨ t = 3 ∨ t = 4) with rfl | rfl | rfl | rfl | rfl <;> simp), K⟩
  case round =>
    clear B K
    obtain ⟨k, X, rfl, hk, hX, B, HP, K⟩ := hrel
    have c0 : wr.cell? ⟨b, 0, none⟩ = some (.int .i64 N) := B.cell 0
    by_cases hlt : (k : Int) < nn ∧ k < m
    · obtain ⟨l1, l2⟩ := hlt
      obtain ⟨ad, rfl, -⟩ := HX.out.2.2 (by omega)
      have hy := HXS.out (xs.getD k 0) (by
        have := HX.out.1
        rw [List.getD_eq_getElem?_getD, List.getElem?_eq_getElem (by omega)]
        exact List.getElem_mem _)
      have SK : Hid (∀ V, Chg [] w V → V.cell? (ad.add k) = some (.int .u8 (xs.getD k 0))) := fun V kV => (HX.out.chg kV (fun _ _ => by simp)).cells l2
      generalize xs.getD k 0 = y at *
      obtain ⟨y0, y1⟩ := hy
      have wy : IntKind.i64.wrap y = y := by rw [IntKind.wrap_i64]; omega
      go_wp2_with fail
      refine Calls.mono (HN.out _) ?_
      rintro e w1 ⟨rfl, kk⟩
      replace K := K.trans kk (by simp)
      replace B := B.chg kk (by simp)
      clear kk c0
      have cc := SK.out _ K
      have c1 := row_cell B (k := k) (by omega)
      generalize X.getD k 0 = old at c1
      have fz := B.frozen (1 + k)
      have B2 := row_set B k y
      have K2 := K.setCell (p := ⟨b, 1 + k, none⟩) (.inr (by show w.heap.size ≤ b; omega)) (.int .i64 y)
      have HP2 : Hid (∀ t, t < 5 → 0 ≤ (X.set k y).getD t 0 ∧ (X.set k y).getD t 0 < 256 ∧ (nn ≤ t → (X.set k y).getD t 0 = 0)) := fun t ht => by
        rw [set_getD]
        split
        · rename_i h; exact ⟨y0, y1, fun q => by omega⟩
        · exact HP.out t ht
      go_wp2_with fail
      go_roundw
      case rel => exact ⟨k + 1, X.set k y, by go_num, by omega, by simpa using hX, B2, HP2, K2⟩
      case measure => simp [intOf]; omega
    · have hlt' : nn ≤ k ∨ ((k : Int) < nn ∧ m ≤ k) := by omega
      clear hlt
      obtain ⟨x0, x1, x2, x3, x4, rfl⟩ : ∃ x0 x1 x2 x3 x4, X = [x0, x1, x2, x3, x4] := by
        match X, hX with
        | [x0, x1, x2, x3, x4], _ => exact ⟨x0, x1, x2, x3, x4, rfl⟩
      obtain ⟨p0, s0, r0⟩ : 0 ≤ x0 ∧ x0 < 256 ∧ (nn ≤ (0 : Nat) → x0 = 0) := HP.out 0 (by decide)
      obtain ⟨p1, s1, r1⟩ : 0 ≤ x1 ∧ x1 < 256 ∧ (nn ≤ (1 : Nat) → x1 = 0) := HP.out 1 (by decide)
      obtain ⟨p2, s2, r2⟩ : 0 ≤ x2 ∧ x2 < 256 ∧ (nn ≤ (2 : Nat) → x2 = 0) := HP.out 2 (by decide)
      obtain ⟨p3, s3, r3⟩ : 0 ≤ x3 ∧ x3 < 256 ∧ (nn ≤ (3 : Nat) → x3 = 0) := HP.out 3 (by decide)
      obtain ⟨p4, s4, r4⟩ : 0 ≤ x4 ∧ x4 < 256 ∧ (nn ≤ (4 : Nat) → x4 = 0) := HP.out 4 (by decide)
      have g0 := HG.out 0 x0 (by decide) p0 s0 r0
      have g1 := HG.out 1 x1 (by decide) p1 s1 r1
      have g2 := HG.out 2 x2 (by decide) p2 s2 r2
      have g3 := HG.out 3 x3 (by decide) p3 s3 r3
      have g4 := HG.out 4 x4 (by decide) p4 s4 r4
      have hR : rightC N x0 x1 x2 x3 x4 = true := by rw [HRC.out, g0, g1, g2, g3, g4]; rfl
      have C1 := fun W => check_ok N x0 x1 x2 x3 x4 W (by omega) (by omega) (by omega) (by omega) (by omega)
      rw [hR] at C1
      have HC1 : Hid (∀ W, Calls Try.prog 41 #[callV N x0 x1 x2 x3 x4] W fun e w' => e = .returned (.int .i64 0) ∧ Chg [] W w') := C1
      have B' : Blk wr b 66 (callC N x0 x1 x2 x3 x4) := B
      clear C1 hR B HP HX HXS hX
      have q5 : at' % 5 = 0 ∨ at' % 5 = 1 ∨ at' % 5 = 2 ∨ at' % 5 = 3 ∨ at' % 5 = 4 := by omega
      rcases q5 with q5 | q5 | q5 | q5 | q5
      · have key : ((0 : Int) < nn ∧ rightC N 1 x1 x2 x3 x4 = true) ∨ (nn ≤ 0 ∧ rightC N 1 x1 x2 x3 x4 = false) := by
          by_cases h : (0 : Int) < nn
          · refine .inl ⟨h, ?_⟩
            rw [HRC.out, HG.out 0 1 (by decide) (by decide) (by decide) (fun z => absurd z (by omega)), g1, g2, g3, g4]; rfl
          · refine .inr ⟨by omega, ?_⟩
            rw [HRC.out, HB.out 0 (by omega)]; simp
        have C2 := fun W => check_ok N 1 x1 x2 x3 x4 W (by omega) (by omega) (by omega) (by omega) (by omega)
        have HC2 : Hid (((0 : Int) < nn ∧ ∀ W, Calls Try.prog 41 #[callV N 1 x1 x2 x3 x4] W fun e w' => e = .returned (.int .i64 0) ∧ Chg [] W w') ∨ ((nn ≤ 0 ∧ decide ((0 : Int) < nn) = false) ∧ ∀ W, Calls Try.prog 41 #[callV N 1 x1 x2 x3 x4] W fun e w' => e = .returned (.int .i64 1) ∧ Chg [] W w')) := by
          rcases key with ⟨a, e⟩ | ⟨a, e⟩
          · left; rw [e] at C2; exact ⟨a, C2⟩
          · right; rw [e] at C2; exact ⟨⟨a, decide_eq_false (by omega)⟩, C2⟩
        clear key C2 HG HB HRC g0 g1 g2 g3 g4 r0 r1 r2 r3 r4 p0 p1 p2 p3 p4 s0 s1 s2 s3 s4
        rcases hlt' with l1 | ⟨l1, l2⟩ <;> rcases HC2.out with ⟨h, C2⟩ | ⟨⟨h, hd⟩, C2⟩
        all_goals try (exfalso; omega)
        all_goals as_aux_lemma =>
          have HC3 := Lib.hid C2
          clear C2 HC2
          go_wp2_with fail
          refine Calls.mono (HN.out _) ?_
          rintro e w1 ⟨rfl, kk⟩
          have B1 := B'.chg kk (by simp)
          have B0 := B1
          have K0 := K.trans kk (by simp)
          clear kk c0
          obtain ⟨d, ed⟩ : ∃ d, w1.heap.size = d := ⟨_, rfl⟩
          have B2 := Blk.new' w1 66 (callC N x0 x1 x2 x3 x4) ed
          have hbd : b ≠ d := by have := B1.lt; omega
          have hwd : w.heap.size ≤ d := by have := B1.lt; omega
          obtain ⟨c0, c1, c2, c3, c4, c5⟩ := blk6 B1
          replace B1 := B1.alloc (.cells (callC N x0 x1 x2 x3 x4) 66)
          obtain ⟨e0, e1, e2, e3, e4, e5⟩ := blk6 B2
          have fz := B2.frozen (1 + 0)
          have B3 := (Blk.new' w1 66 (callC N 1 x1 x2 x3 x4) ed).drew
          have B4 := (B0.alloc (.cells (callC N 1 x1 x2 x3 x4) 66)).drew
          have K3 := (K0.alloc (.cells (callC N 1 x1 x2 x3 x4) 66)).drew
          go_wp2_with fail
          clear c0 c1 c2 c3 c4 c5 e0 e1 e2 e3 e4 e5 fz
          go_region_held3 (fun V => V.cell? ⟨b, 0, none⟩ = some (.int .i64 N) ∧ V.cell? ⟨b, 1, none⟩ = some (.int .i64 x0) ∧ V.cell? ⟨b, 2, none⟩ = some (.int .i64 x1) ∧ V.cell? ⟨b, 3, none⟩ = some (.int .i64 x2) ∧ V.cell? ⟨b, 4, none⟩ = some (.int .i64 x3) ∧ V.cell? ⟨b, 5, none⟩ = some (.int .i64 x4) ∧ V.cell? ⟨d, 0, none⟩ = some (.int .i64 N) ∧ V.cell? ⟨d, 1, none⟩ = some (.int .i64 1) ∧ V.cell? ⟨d, 2, none⟩ = some (.int .i64 x1) ∧ V.cell? ⟨d, 3, none⟩ = some (.int .i64 x2) ∧ V.cell? ⟨d, 4, none⟩ = some (.int .i64 x3) ∧ V.cell? ⟨d, 5, none⟩ = some (.int .i64 x4)) (exact ⟨B4.cell 0, B4.cell 1, B4.cell 2, B4.cell 3, B4.cell 4, B4.cell 5, B3.cell 0, B3.cell 1, B3.cell 2, B3.cell 3, B3.cell 4, B3.cell 5⟩)
            (first
            | (go_at_call 41; ((with_reducible refine Calls.mono (HC1.out _) ?_); rintro e w7 ⟨rfl, kk⟩; replace B3 := B3.chg kk (by simp); replace B4 := B4.chg kk (by simp); replace K3 := K3.trans kk (by simp); clear kk))
            | (go_at_call 41; ((with_reducible refine Calls.mono (HC3.out _) ?_); rintro e w7 ⟨rfl, kk⟩; replace B3 := B3.chg kk (by simp); replace B4 := B4.chg kk (by simp); replace K3 := K3.trans kk (by simp); clear kk))
            | (go_at_call 40; refine Calls.mono (HN.out _) ?_; rintro e w7 ⟨rfl, kk⟩; replace B3 := B3.chg kk (by simp); replace B4 := B4.chg kk (by simp); replace K3 := K3.trans kk (by simp); clear kk)
            | (go_at_call 42; refine Calls.mono (awake_ok _) ?_; rintro e w7 ⟨rfl, kk⟩; replace B3 := B3.chg kk (by simp); replace B4 := B4.chg kk (by simp); replace K3 := K3.trans kk (by simp); clear kk))
          go_wp2
          go_ret
          exact ⟨rfl, K3⟩
      · have key : ((1 : Int) < nn ∧ rightC N x0 1 x2 x3 x4 = true) ∨ (nn ≤ 1 ∧ rightC N x0 1 x2 x3 x4 = false) := by
          by_cases h : (1 : Int) < nn
          · refine .inl ⟨h, ?_⟩
            rw [HRC.out, HG.out 1 1 (by decide) (by decide) (by decide) (fun z => absurd z (by omega)), g0, g2, g3, g4]; rfl
          · refine .inr ⟨by omega, ?_⟩
            rw [HRC.out, HB.out 1 (by omega)]; simp
        have C2 := fun W => check_ok N x0 1 x2 x3 x4 W (by omega) (by omega) (by omega) (by omega) (by omega)
        have HC2 : Hid (((1 : Int) < nn ∧ ∀ W, Calls Try.prog 41 #[callV N x0 1 x2 x3 x4] W fun e w' => e = .returned (.int .i64 0) ∧ Chg [] W w') ∨ ((nn ≤ 1 ∧ decide ((1 : Int) < nn) = false) ∧ ∀ W, Calls Try.prog 41 #[callV N x0 1 x2 x3 x4] W fun e w' => e = .returned (.int .i64 1) ∧ Chg [] W w')) := by
          rcases key with ⟨a, e⟩ | ⟨a, e⟩
          · left; rw [e] at C2; exact ⟨a, C2⟩
          · right; rw [e] at C2; exact ⟨⟨a, decide_eq_false (by omega)⟩, C2⟩
        clear key C2 HG HB HRC g0 g1 g2 g3 g4 r0 r1 r2 r3 r4 p0 p1 p2 p3 p4 s0 s1 s2 s3 s4
        rcases hlt' with l1 | ⟨l1, l2⟩ <;> rcases HC2.out with ⟨h, C2⟩ | ⟨⟨h, hd⟩, C2⟩
        all_goals try (exfalso; omega)
        all_goals as_aux_lemma =>
          have HC3 := Lib.hid C2
          clear C2 HC2
          go_wp2_with fail
          refine Calls.mono (HN.out _) ?_
          rintro e w1 ⟨rfl, kk⟩
          have B1 := B'.chg kk (by simp)
          have B0 := B1
          have K0 := K.trans kk (by simp)
          clear kk c0
          obtain ⟨d, ed⟩ : ∃ d, w1.heap.size = d := ⟨_, rfl⟩
          have B2 := Blk.new' w1 66 (callC N x0 x1 x2 x3 x4) ed
          have hbd : b ≠ d := by have := B1.lt; omega
          have hwd : w.heap.size ≤ d := by have := B1.lt; omega
          obtain ⟨c0, c1, c2, c3, c4, c5⟩ := blk6 B1
          replace B1 := B1.alloc (.cells (callC N x0 x1 x2 x3 x4) 66)
          obtain ⟨e0, e1, e2, e3, e4, e5⟩ := blk6 B2
          have fz := B2.frozen (1 + 1)
          have B3 := (Blk.new' w1 66 (callC N x0 1 x2 x3 x4) ed).drew
          have B4 := (B0.alloc (.cells (callC N x0 1 x2 x3 x4) 66)).drew
          have K3 := (K0.alloc (.cells (callC N x0 1 x2 x3 x4) 66)).drew
          go_wp2_with fail
          clear c0 c1 c2 c3 c4 c5 e0 e1 e2 e3 e4 e5 fz
          go_region_held3 (fun V => V.cell? ⟨b, 0, none⟩ = some (.int .i64 N) ∧ V.cell? ⟨b, 1, none⟩ = some (.int .i64 x0) ∧ V.cell? ⟨b, 2, none⟩ = some (.int .i64 x1) ∧ V.cell? ⟨b, 3, none⟩ = some (.int .i64 x2) ∧ V.cell? ⟨b, 4, none⟩ = some (.int .i64 x3) ∧ V.cell? ⟨b, 5, none⟩ = some (.int .i64 x4) ∧ V.cell? ⟨d, 0, none⟩ = some (.int .i64 N) ∧ V.cell? ⟨d, 1, none⟩ = some (.int .i64 x0) ∧ V.cell? ⟨d, 2, none⟩ = some (.int .i64 1) ∧ V.cell? ⟨d, 3, none⟩ = some (.int .i64 x2) ∧ V.cell? ⟨d, 4, none⟩ = some (.int .i64 x3) ∧ V.cell? ⟨d, 5, none⟩ = some (.int .i64 x4)) (exact ⟨B4.cell 0, B4.cell 1, B4.cell 2, B4.cell 3, B4.cell 4, B4.cell 5, B3.cell 0, B3.cell 1, B3.cell 2, B3.cell 3, B3.cell 4, B3.cell 5⟩)
            (first
            | (go_at_call 41; ((with_reducible refine Calls.mono (HC1.out _) ?_); rintro e w7 ⟨rfl, kk⟩; replace B3 := B3.chg kk (by simp); replace B4 := B4.chg kk (by simp); replace K3 := K3.trans kk (by simp); clear kk))
            | (go_at_call 41; ((with_reducible refine Calls.mono (HC3.out _) ?_); rintro e w7 ⟨rfl, kk⟩; replace B3 := B3.chg kk (by simp); replace B4 := B4.chg kk (by simp); replace K3 := K3.trans kk (by simp); clear kk))
            | (go_at_call 40; refine Calls.mono (HN.out _) ?_; rintro e w7 ⟨rfl, kk⟩; replace B3 := B3.chg kk (by simp); replace B4 := B4.chg kk (by simp); replace K3 := K3.trans kk (by simp); clear kk)
            | (go_at_call 42; refine Calls.mono (awake_ok _) ?_; rintro e w7 ⟨rfl, kk⟩; replace B3 := B3.chg kk (by simp); replace B4 := B4.chg kk (by simp); replace K3 := K3.trans kk (by simp); clear kk))
          go_wp2
          go_ret
          exact ⟨rfl, K3⟩
      · have key : ((2 : Int) < nn ∧ rightC N x0 x1 1 x3 x4 = true) ∨ (nn ≤ 2 ∧ rightC N x0 x1 1 x3 x4 = false) := by
          by_cases h : (2 : Int) < nn
          · refine .inl ⟨h, ?_⟩
            rw [HRC.out, HG.out 2 1 (by decide) (by decide) (by decide) (fun z => absurd z (by omega)), g0, g1, g3, g4]; rfl
          · refine .inr ⟨by omega, ?_⟩
            rw [HRC.out, HB.out 2 (by omega)]; simp
        have C2 := fun W => check_ok N x0 x1 1 x3 x4 W (by omega) (by omega) (by omega) (by omega) (by omega)
        have HC2 : Hid (((2 : Int) < nn ∧ ∀ W, Calls Try.prog 41 #[callV N x0 x1 1 x3 x4] W fun e w' => e = .returned (.int .i64 0) ∧ Chg [] W w') ∨ ((nn ≤ 2 ∧ decide ((2 : Int) < nn) = false) ∧ ∀ W, Calls Try.prog 41 #[callV N x0 x1 1 x3 x4] W fun e w' => e = .returned (.int .i64 1) ∧ Chg [] W w')) := by
          rcases key with ⟨a, e⟩ | ⟨a, e⟩
          · left; rw [e] at C2; exact ⟨a, C2⟩
          · right; rw [e] at C2; exact ⟨⟨a, decide_eq_false (by omega)⟩, C2⟩
        clear key C2 HG HB HRC g0 g1 g2 g3 g4 r0 r1 r2 r3 r4 p0 p1 p2 p3 p4 s0 s1 s2 s3 s4
        rcases hlt' with l1 | ⟨l1, l2⟩ <;> rcases HC2.out with ⟨h, C2⟩ | ⟨⟨h, hd⟩, C2⟩
        all_goals try (exfalso; omega)
        all_goals as_aux_lemma =>
          have HC3 := Lib.hid C2
          clear C2 HC2
          go_wp2_with fail
          refine Calls.mono (HN.out _) ?_
          rintro e w1 ⟨rfl, kk⟩
          have B1 := B'.chg kk (by simp)
          have B0 := B1
          have K0 := K.trans kk (by simp)
          clear kk c0
          obtain ⟨d, ed⟩ : ∃ d, w1.heap.size = d := ⟨_, rfl⟩
          have B2 := Blk.new' w1 66 (callC N x0 x1 x2 x3 x4) ed
          have hbd : b ≠ d := by have := B1.lt; omega
          have hwd : w.heap.size ≤ d := by have := B1.lt; omega
          obtain ⟨c0, c1, c2, c3, c4, c5⟩ := blk6 B1
          replace B1 := B1.alloc (.cells (callC N x0 x1 x2 x3 x4) 66)
          obtain ⟨e0, e1, e2, e3, e4, e5⟩ := blk6 B2
          have fz := B2.frozen (1 + 2)
          have B3 := (Blk.new' w1 66 (callC N x0 x1 1 x3 x4) ed).drew
          have B4 := (B0.alloc (.cells (callC N x0 x1 1 x3 x4) 66)).drew
          have K3 := (K0.alloc (.cells (callC N x0 x1 1 x3 x4) 66)).drew
          go_wp2_with fail
          clear c0 c1 c2 c3 c4 c5 e0 e1 e2 e3 e4 e5 fz
          go_region_held3 (fun V => V.cell? ⟨b, 0, none⟩ = some (.int .i64 N) ∧ V.cell? ⟨b, 1, none⟩ = some (.int .i64 x0) ∧ V.cell? ⟨b, 2, none⟩ = some (.int .i64 x1) ∧ V.cell? ⟨b, 3, none⟩ = some (.int .i64 x2) ∧ V.cell? ⟨b, 4, none⟩ = some (.int .i64 x3) ∧ V.cell? ⟨b, 5, none⟩ = some (.int .i64 x4) ∧ V.cell? ⟨d, 0, none⟩ = some (.int .i64 N) ∧ V.cell? ⟨d, 1, none⟩ = some (.int .i64 x0) ∧ V.cell? ⟨d, 2, none⟩ = some (.int .i64 x1) ∧ V.cell? ⟨d, 3, none⟩ = some (.int .i64 1) ∧ V.cell? ⟨d, 4, none⟩ = some (.int .i64 x3) ∧ V.cell? ⟨d, 5, none⟩ = some (.int .i64 x4)) (exact ⟨B4.cell 0, B4.cell 1, B4.cell 2, B4.cell 3, B4.cell 4, B4.cell 5, B3.cell 0, B3.cell 1, B3.cell 2, B3.cell 3, B3.cell 4, B3.cell 5⟩)
            (first
            | (go_at_call 41; ((with_reducible refine Calls.mono (HC1.out _) ?_); rintro e w7 ⟨rfl, kk⟩; replace B3 := B3.chg kk (by simp); replace B4 := B4.chg kk (by simp); replace K3 := K3.trans kk (by simp); clear kk))
            | (go_at_call 41; ((with_reducible refine Calls.mono (HC3.out _) ?_); rintro e w7 ⟨rfl, kk⟩; replace B3 := B3.chg kk (by simp); replace B4 := B4.chg kk (by simp); replace K3 := K3.trans kk (by simp); clear kk))
            | (go_at_call 40; refine Calls.mono (HN.out _) ?_; rintro e w7 ⟨rfl, kk⟩; replace B3 := B3.chg kk (by simp); replace B4 := B4.chg kk (by simp); replace K3 := K3.trans kk (by simp); clear kk)
            | (go_at_call 42; refine Calls.mono (awake_ok _) ?_; rintro e w7 ⟨rfl, kk⟩; replace B3 := B3.chg kk (by simp); replace B4 := B4.chg kk (by simp); replace K3 := K3.trans kk (by simp); clear kk))
          go_wp2
          go_ret
          exact ⟨rfl, K3⟩
      · have key : ((3 : Int) < nn ∧ rightC N x0 x1 x2 1 x4 = true) ∨ (nn ≤ 3 ∧ rightC N x0 x1 x2 1 x4 = false) := by
          by_cases h : (3 : Int) < nn
          · refine .inl ⟨h, ?_⟩
            rw [HRC.out, HG.out 3 1 (by decide) (by decide) (by decide) (fun z => absurd z (by omega)), g0, g1, g2, g4]; rfl
          · refine .inr ⟨by omega, ?_⟩
            rw [HRC.out, HB.out 3 (by omega)]; simp
        have C2 := fun W => check_ok N x0 x1 x2 1 x4 W (by omega) (by omega) (by omega) (by omega) (by omega)
        have HC2 : Hid (((3 : Int) < nn ∧ ∀ W, Calls Try.prog 41 #[callV N x0 x1 x2 1 x4] W fun e w' => e = .returned (.int .i64 0) ∧ Chg [] W w') ∨ ((nn ≤ 3 ∧ decide ((3 : Int) < nn) = false) ∧ ∀ W, Calls Try.prog 41 #[callV N x0 x1 x2 1 x4] W fun e w' => e = .returned (.int .i64 1) ∧ Chg [] W w')) := by
          rcases key with ⟨a, e⟩ | ⟨a, e⟩
          · left; rw [e] at C2; exact ⟨a, C2⟩
          · right; rw [e] at C2; exact ⟨⟨a, decide_eq_false (by omega)⟩, C2⟩
        clear key C2 HG HB HRC g0 g1 g2 g3 g4 r0 r1 r2 r3 r4 p0 p1 p2 p3 p4 s0 s1 s2 s3 s4
        rcases hlt' with l1 | ⟨l1, l2⟩ <;> rcases HC2.out with ⟨h, C2⟩ | ⟨⟨h, hd⟩, C2⟩
        all_goals try (exfalso; omega)
        all_goals as_aux_lemma =>
          have HC3 := Lib.hid C2
          clear C2 HC2
          go_wp2_with fail
          refine Calls.mono (HN.out _) ?_
          rintro e w1 ⟨rfl, kk⟩
          have B1 := B'.chg kk (by simp)
          have B0 := B1
          have K0 := K.trans kk (by simp)
          clear kk c0
          obtain ⟨d, ed⟩ : ∃ d, w1.heap.size = d := ⟨_, rfl⟩
          have B2 := Blk.new' w1 66 (callC N x0 x1 x2 x3 x4) ed
          have hbd : b ≠ d := by have := B1.lt; omega
          have hwd : w.heap.size ≤ d := by have := B1.lt; omega
          obtain ⟨c0, c1, c2, c3, c4, c5⟩ := blk6 B1
          replace B1 := B1.alloc (.cells (callC N x0 x1 x2 x3 x4) 66)
          obtain ⟨e0, e1, e2, e3, e4, e5⟩ := blk6 B2
          have fz := B2.frozen (1 + 3)
          have B3 := (Blk.new' w1 66 (callC N x0 x1 x2 1 x4) ed).drew
          have B4 := (B0.alloc (.cells (callC N x0 x1 x2 1 x4) 66)).drew
          have K3 := (K0.alloc (.cells (callC N x0 x1 x2 1 x4) 66)).drew
          go_wp2_with fail
          clear c0 c1 c2 c3 c4 c5 e0 e1 e2 e3 e4 e5 fz
          go_region_held3 (fun V => V.cell? ⟨b, 0, none⟩ = some (.int .i64 N) ∧ V.cell? ⟨b, 1, none⟩ = some (.int .i64 x0) ∧ V.cell? ⟨b, 2, none⟩ = some (.int .i64 x1) ∧ V.cell? ⟨b, 3, none⟩ = some (.int .i64 x2) ∧ V.cell? ⟨b, 4, none⟩ = some (.int .i64 x3) ∧ V.cell? ⟨b, 5, none⟩ = some (.int .i64 x4) ∧ V.cell? ⟨d, 0, none⟩ = some (.int .i64 N) ∧ V.cell? ⟨d, 1, none⟩ = some (.int .i64 x0) ∧ V.cell? ⟨d, 2, none⟩ = some (.int .i64 x1) ∧ V.cell? ⟨d, 3, none⟩ = some (.int .i64 x2) ∧ V.cell? ⟨d, 4, none⟩ = some (.int .i64 1) ∧ V.cell? ⟨d, 5, none⟩ = some (.int .i64 x4)) (exact ⟨B4.cell 0, B4.cell 1, B4.cell 2, B4.cell 3, B4.cell 4, B4.cell 5, B3.cell 0, B3.cell 1, B3.cell 2, B3.cell 3, B3.cell 4, B3.cell 5⟩)
            (first
            | (go_at_call 41; ((with_reducible refine Calls.mono (HC1.out _) ?_); rintro e w7 ⟨rfl, kk⟩; replace B3 := B3.chg kk (by simp); replace B4 := B4.chg kk (by simp); replace K3 := K3.trans kk (by simp); clear kk))
            | (go_at_call 41; ((with_reducible refine Calls.mono (HC3.out _) ?_); rintro e w7 ⟨rfl, kk⟩; replace B3 := B3.chg kk (by simp); replace B4 := B4.chg kk (by simp); replace K3 := K3.trans kk (by simp); clear kk))
            | (go_at_call 40; refine Calls.mono (HN.out _) ?_; rintro e w7 ⟨rfl, kk⟩; replace B3 := B3.chg kk (by simp); replace B4 := B4.chg kk (by simp); replace K3 := K3.trans kk (by simp); clear kk)
            | (go_at_call 42; refine Calls.mono (awake_ok _) ?_; rintro e w7 ⟨rfl, kk⟩; replace B3 := B3.chg kk (by simp); replace B4 := B4.chg kk (by simp); replace K3 := K3.trans kk (by simp); clear kk))
          go_wp2
          go_ret
          exact ⟨rfl, K3⟩
      · have key : ((4 : Int) < nn ∧ rightC N x0 x1 x2 x3 1 = true) ∨ (nn ≤ 4 ∧ rightC N x0 x1 x2 x3 1 = false) := by
          by_cases h : (4 : Int) < nn
          · refine .inl ⟨h, ?_⟩
            rw [HRC.out, HG.out 4 1 (by decide) (by decide) (by decide) (fun z => absurd z (by omega)), g0, g1, g2, g3]; rfl
          · refine .inr ⟨by omega, ?_⟩
            rw [HRC.out, HB.out 4 (by omega)]; simp
        have C2 := fun W => check_ok N x0 x1 x2 x3 1 W (by omega) (by omega) (by omega) (by omega) (by omega)
        have HC2 : Hid (((4 : Int) < nn ∧ ∀ W, Calls Try.prog 41 #[callV N x0 x1 x2 x3 1] W fun e w' => e = .returned (.int .i64 0) ∧ Chg [] W w') ∨ ((nn ≤ 4 ∧ decide ((4 : Int) < nn) = false) ∧ ∀ W, Calls Try.prog 41 #[callV N x0 x1 x2 x3 1] W fun e w' => e = .returned (.int .i64 1) ∧ Chg [] W w')) := by
          rcases key with ⟨a, e⟩ | ⟨a, e⟩
          · left; rw [e] at C2; exact ⟨a, C2⟩
          · right; rw [e] at C2; exact ⟨⟨a, decide_eq_false (by omega)⟩, C2⟩
        clear key C2 HG HB HRC g0 g1 g2 g3 g4 r0 r1 r2 r3 r4 p0 p1 p2 p3 p4 s0 s1 s2 s3 s4
        rcases hlt' with l1 | ⟨l1, l2⟩ <;> rcases HC2.out with ⟨h, C2⟩ | ⟨⟨h, hd⟩, C2⟩
        all_goals try (exfalso; omega)
        all_goals as_aux_lemma =>
          have HC3 := Lib.hid C2
          clear C2 HC2
          go_wp2_with fail
          refine Calls.mono (HN.out _) ?_
          rintro e w1 ⟨rfl, kk⟩
          have B1 := B'.chg kk (by simp)
          have B0 := B1
          have K0 := K.trans kk (by simp)
          clear kk c0
          obtain ⟨d, ed⟩ : ∃ d, w1.heap.size = d := ⟨_, rfl⟩
          have B2 := Blk.new' w1 66 (callC N x0 x1 x2 x3 x4) ed
          have hbd : b ≠ d := by have := B1.lt; omega
          have hwd : w.heap.size ≤ d := by have := B1.lt; omega
          obtain ⟨c0, c1, c2, c3, c4, c5⟩ := blk6 B1
          replace B1 := B1.alloc (.cells (callC N x0 x1 x2 x3 x4) 66)
          obtain ⟨e0, e1, e2, e3, e4, e5⟩ := blk6 B2
          have fz := B2.frozen (1 + 4)
          have B3 := (Blk.new' w1 66 (callC N x0 x1 x2 x3 1) ed).drew
          have B4 := (B0.alloc (.cells (callC N x0 x1 x2 x3 1) 66)).drew
          have K3 := (K0.alloc (.cells (callC N x0 x1 x2 x3 1) 66)).drew
          go_wp2_with fail
          clear c0 c1 c2 c3 c4 c5 e0 e1 e2 e3 e4 e5 fz
          go_region_held3 (fun V => V.cell? ⟨b, 0, none⟩ = some (.int .i64 N) ∧ V.cell? ⟨b, 1, none⟩ = some (.int .i64 x0) ∧ V.cell? ⟨b, 2, none⟩ = some (.int .i64 x1) ∧ V.cell? ⟨b, 3, none⟩ = some (.int .i64 x2) ∧ V.cell? ⟨b, 4, none⟩ = some (.int .i64 x3) ∧ V.cell? ⟨b, 5, none⟩ = some (.int .i64 x4) ∧ V.cell? ⟨d, 0, none⟩ = some (.int .i64 N) ∧ V.cell? ⟨d, 1, none⟩ = some (.int .i64 x0) ∧ V.cell? ⟨d, 2, none⟩ = some (.int .i64 x1) ∧ V.cell? ⟨d, 3, none⟩ = some (.int .i64 x2) ∧ V.cell? ⟨d, 4, none⟩ = some (.int .i64 x3) ∧ V.cell? ⟨d, 5, none⟩ = some (.int .i64 1)) (exact ⟨B4.cell 0, B4.cell 1, B4.cell 2, B4.cell 3, B4.cell 4, B4.cell 5, B3.cell 0, B3.cell 1, B3.cell 2, B3.cell 3, B3.cell 4, B3.cell 5⟩)
            (first
            | (go_at_call 41; ((with_reducible refine Calls.mono (HC1.out _) ?_); rintro e w7 ⟨rfl, kk⟩; replace B3 := B3.chg kk (by simp); replace B4 := B4.chg kk (by simp); replace K3 := K3.trans kk (by simp); clear kk))
            | (go_at_call 41; ((with_reducible refine Calls.mono (HC3.out _) ?_); rintro e w7 ⟨rfl, kk⟩; replace B3 := B3.chg kk (by simp); replace B4 := B4.chg kk (by simp); replace K3 := K3.trans kk (by simp); clear kk))
            | (go_at_call 40; refine Calls.mono (HN.out _) ?_; rintro e w7 ⟨rfl, kk⟩; replace B3 := B3.chg kk (by simp); replace B4 := B4.chg kk (by simp); replace K3 := K3.trans kk (by simp); clear kk)
            | (go_at_call 42; refine Calls.mono (awake_ok _) ?_; rintro e w7 ⟨rfl, kk⟩; replace B3 := B3.chg kk (by simp); replace B4 := B4.chg kk (by simp); replace K3 := K3.trans kk (by simp); clear kk))
          go_wp2
          go_ret
          exact ⟨rfl, K3⟩
end Go.Proofs.Ytddjkejliogenaa.CallNeeds
