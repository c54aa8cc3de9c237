/- Package palanquinref24: Check. -/
import Derived.Test.YtdconfciacldmaaRef24
import Derived.Test.YtdconfciacldmaaRef01
import Derived.BigQuiet
namespace Go.Proofs.Ytdconfciacldmaa.Ref24c
open Go Go.RowKit Go.Proofs.Ytdconfciacldmaa Go.Proofs.Ytdconfciacldmaa.Heap Go.Proofs.Ytdconfciacldmaa.Bits Go.Proofs.Ytdconfciacldmaa.Field Go.Proofs.Ytdconfciacldmaa.Call Go.Proofs.Ytdconfciacldmaa.CallRight Go.Proofs.Ytdconfciacldmaa.Ref24

abbrev argN (a0 a1 a2 a3 a4 : Int) (j : Nat) : Int := [a0, a1, a2, a3, a4].getD j 0
theorem call_at (n a0 a1 a2 a3 a4 : Int) : ∀ j : Nat, j < 5 → (callC n a0 a1 a2 a3 a4)[1 + j]? = some (.int .i64 (argN a0 a1 a2 a3 a4 j))
  | 0, _ => rfl
  | 1, _ => rfl
  | 2, _ => rfl
  | 3, _ => rfl
  | 4, _ => rfl
  | j + 5, h => absurd h (by omega)
theorem width_at : ∀ j : Nat, j < 5 → w6C[j + 1]? = some (.int .i64 (([8, 16, 16, 8, 8] : List Int).getD j 0))
  | 0, _ => rfl
  | 1, _ => rfl
  | 2, _ => rfl
  | 3, _ => rfl
  | 4, _ => rfl
  | j + 5, h => absurd h (by omega)
theorem argN_lt {a0 a1 a2 a3 a4 : Int} (h0 : a0 < 9223372036854775808) (h1 : a1 < 9223372036854775808) (h2 : a2 < 9223372036854775808) (h3 : a3 < 9223372036854775808) (h4 : a4 < 9223372036854775808) :
    ∀ j : Nat, j < 5 → argN a0 a1 a2 a3 a4 j < 9223372036854775808
  | 0, _ => h0
  | 1, _ => h1
  | 2, _ => h2
  | 3, _ => h3
  | 4, _ => h4
  | j + 5, h => absurd h (by omega)
theorem all_five {ok : Nat → Int → Bool} {a0 a1 a2 a3 a4 : Int} {R : Bool} (HR : (true && ok 0 a0 && ok 1 a1 && ok 2 a2 && ok 3 a3 && ok 4 a4) = R) (h : ∀ t, t < 5 → ok t (argN a0 a1 a2 a3 a4 t) = true) : R = true := by
  have e0 : ok 0 a0 = true := h 0 (by decide)
  have e1 : ok 1 a1 = true := h 1 (by decide)
  have e2 : ok 2 a2 = true := h 2 (by decide)
  have e3 : ok 3 a3 = true := h 3 (by decide)
  have e4 : ok 4 a4 = true := h 4 (by decide)
  rw [← HR, e0, e1, e2, e3, e4]; rfl
theorem one_bad {ok : Nat → Int → Bool} {a0 a1 a2 a3 a4 : Int} {R : Bool} (HR : (true && ok 0 a0 && ok 1 a1 && ok 2 a2 && ok 3 a3 && ok 4 a4) = R) :
    ∀ j : Nat, j < 5 → ok j (argN a0 a1 a2 a3 a4 j) = false → R = false
  | 0, _, h => by rw [← HR, show ok 0 a0 = false from h]; simp
  | 1, _, h => by rw [← HR, show ok 1 a1 = false from h]; simp
  | 2, _, h => by rw [← HR, show ok 2 a2 = false from h]; simp
  | 3, _, h => by rw [← HR, show ok 3 a3 = false from h]; simp
  | 4, _, h => by rw [← HR, show ok 4 a4 = false from h]; simp
  | j + 5, h, _ => absurd h (by omega)

set_option maxRecDepth 100000 in
set_option maxHeartbeats 8000000 in
theorem checkR_ok (n a0 a1 a2 a3 a4 : Int) (w : World) (h0 : a0 < 9223372036854775808) (h1 : a1 < 9223372036854775808) (h2 : a2 < 9223372036854775808) (h3 : a3 < 9223372036854775808) (h4 : a4 < 9223372036854775808) :
    Calls Try.prog 11 #[callV n a0 a1 a2 a3 a4] w fun e w' => e = .returned (.int .i64 (errC (rightC n a0 a1 a2 a3 a4))) ∧ Chg [] w w' := by
  obtain ⟨b, eb⟩ : ∃ b, w.heap.size = b := ⟨_, rfl⟩
  have B := Blk.new' w 24 (callC n a0 a1 a2 a3 a4) eb
  have K := (Chg.refl [] w).alloc (.cells (callC n a0 a1 a2 a3 a4) 24)
  have HN := needR_ok n
  have nb := needsF_bd n
  unfold rightC
  rcases (by omega : n < 0 ∨ 29 < n ∨ (0 ≤ n ∧ n ≤ 29)) with hn | hn | hn
  · rw [decide_eq_false (by omega)]
    simp only [Bool.false_and]
    clear HN nb h0 h1 h2 h3 h4
    obtain ⟨c0, c1, c2, c3, c4, c5⟩ := blk6 B
    go_enter Try.func11, Try.ntmps11
    go_wp2
    go_ret
    exact ⟨rfl, K⟩
  · rw [decide_eq_false (by omega)]
    simp only [Bool.false_and]
    clear HN nb h0 h1 h2 h3 h4
    obtain ⟨c0, c1, c2, c3, c4, c5⟩ := blk6 B
    go_enter Try.func11, Try.ntmps11
    go_wp2
    go_ret
    exact ⟨rfl, K⟩
  · rw [decide_eq_true hn]
    have hok : Hid (∀ t x, argOk n t x = (decide (0 ≤ x) && fitsB x ([8, 16, 16, 8, 8].getD t 0) && (decide ((t : Int) < needsF n) || decide (x = 0)))) := fun _ _ => rfl
    obtain ⟨R, eR⟩ : ∃ R, (true && argOk n 0 a0 && argOk n 1 a1 && argOk n 2 a2 && argOk n 3 a3 && argOk n 4 a4) = R := ⟨_, rfl⟩
    rw [eR]
    have HR := Lib.hid eR
    obtain ⟨hn1, hn2⟩ := hn
    clear eR
    generalize needsF n = nn at *
    obtain ⟨nb0, nb5⟩ := nb
    generalize argOk n = ok at *
    have HN' := Lib.hid HN
    have hA := Lib.hid (call_at n a0 a1 a2 a3 a4)
    have hL := Lib.hid (argN_lt h0 h1 h2 h3 h4)
    clear HN h0 h1 h2 h3 h4
    obtain ⟨c0, c1, c2, c3, c4, c5⟩ := blk6 B
    go_enter Try.func11, Try.ntmps11
    go_wp2_with fail
    clear c0 c1 c2 c3 c4 c5
    obtain ⟨W3, hW⟩ : ∃ W3, w.alloc (.cells (callC n a0 a1 a2 a3 a4) 24) = W3 := ⟨_, rfl⟩
    rw [hW] at B K ⊢
    have k0 : Chg [] W3 W3 := Chg.refl _ _
    try rw [eb]
    clear hW eb
    have hZ : Hid ((callC n a0 a1 a2 a3 a4)[0]? = some (.int .i64 n)) := rfl
    generalize callC n a0 a1 a2 a3 a4 = cs at *
    go_loopw [3] (fun i wr => ∃ j : Nat, i = .int .i64 j ∧ j ≤ 5 ∧ Hid (∀ t, t < j → ok t (argN a0 a1 a2 a3 a4 t) = true) ∧ Chg [] W3 wr) (fun i _ => 5 - (intOf i).toNat)
    case atStart => exact ⟨0, rfl, by decide, fun t ht => absurd ht (by omega), k0⟩
    case round =>
      clear k0
      obtain ⟨j, rfl, hj, HE, k3⟩ := hrel
      have B' := B.chg k3 (by simp)
      have K' := K.trans k3 (by simp)
      clear B K
      rcases (by omega : j = 5 ∨ j < 5) with rfl | j5
      · have hR := all_five HR.out HE.out
        subst hR
        go_wp2
        go_ret
        exact ⟨rfl, K'⟩
      have cX := Lib.hid (hA.out j j5)
      have cA := (B'.cell (1 + j)).trans cX.out
      have c0 := (B'.cell 0).trans hZ.out
      have hx := hL.out j j5
      have E := hok.out j (argN a0 a1 a2 a3 a4 j)
      have hbad := one_bad HR.out j j5
      have hw := width_at j j5
      have HE2 : ok j (argN a0 a1 a2 a3 a4 j) = true → Hid (∀ t, t < j + 1 → ok t (argN a0 a1 a2 a3 a4 t) = true) := fun h t ht => by
        rcases Nat.lt_succ_iff_lt_or_eq.1 ht with h' | rfl
        · exact HE.out t h'
        · exact h
      clear HE
      generalize argN a0 a1 a2 a3 a4 j = x at *
      generalize ([8, 16, 16, 8, 8] : List Int).getD j 0 = wd at *
      have hw := Lib.hid hw
      have hji : (j : Int) < 5 := by omega
      by_cases hx0 : x < 0
      · have hR := hbad (by rw [E, decide_eq_false (by omega)]; rfl)
        subst hR
        clear E hbad HE2
        go_wp2
        go_quiet (fail)
        go_wp2
        go_ret
        exact ⟨rfl, K'.drewN _⟩
      · have hdec : decide (x < 0) = false := decide_eq_false hx0
        have hx1 : 0 ≤ x := by omega
        have hj1 : IntKind.i64.wrap ((j : Int) + 1) = (j : Int) + 1 := by rw [IntKind.wrap_i64] <;> omega
        have hj2 : (j : Int) + 1 < 6 := by omega
        have hj3 : (0 : Int) ≤ (j : Int) + 1 := by omega
        have hwx : IntKind.u64.wrap x = x := by rw [IntKind.wrap_u64] <;> omega
        rw [decide_eq_true hx1, Bool.true_and] at E
        obtain ⟨T, hT⟩ : ∃ T, fitsB x wd = T := ⟨_, rfl⟩
        have HT := Lib.hid hT
        rw [hT] at E
        clear hT
        cases T
        · have hR := hbad (by rw [E]; rfl)
          subst hR
          clear E hbad HE2
          go_wp2
          refine wp_region_held_drew (S := fun V => V.cell? ⟨b, 0, none⟩ = some (.int .i64 n) ∧ V.cell? ⟨b, 1 + j, none⟩ = some (.int .i64 x)) (by kernel_rfl) ?_ (fun hHeld => ?_)
          case _ => exact ⟨c0, cA⟩
          replace B' := B'.drew
          replace K' := K'.drew
          replace k3 := k3.drew
          refine wpAnyH_take (i := 0) (oi := ?oo1) (v := ?vv1) ?hi1 (by kernel_rfl) ?hf1 (by kernel_rfl) ?hq1 ?hy1 (by assumption) ?rest1
          case hi1 => (simp only [List.getElem?_toArray, List.getElem?_cons_zero] <;> exact rfl)
          case hf1 => kernel_rfl
          case hq1 => exact fun _ _ _ h => h
          case hy1 => exact Or.inl ⟨by rfl, by intro w hSw; (try dsimp only at hSw); go_simp; try with_reducible rfl⟩
          (try simp only [Act.put, List.setIfInBounds_toArray, List.set_cons_zero, List.set_cons_succ])
          refine wpAnyH_take (i := 1) (oi := ?oo2) (v := ?vv2) ?hi2 (by kernel_rfl) ?hf2 (by kernel_rfl) ?hq2 ?hy2 (by assumption) ?rest2
          case hi2 => (simp only [List.getElem?_toArray, List.getElem?_cons_zero, List.getElem?_cons_succ] <;> exact rfl)
          case hf2 => kernel_rfl
          case hq2 => exact fun _ _ _ h => h
          case hy2 => exact Or.inl ⟨by rfl, by intro w hSw; (try dsimp only at hSw); go_simp; try with_reducible rfl⟩
          (try simp only [Act.put, List.setIfInBounds_toArray, List.set_cons_zero, List.set_cons_succ])
          refine wpAnyH_take (i := 2) (oi := ?oo3) (v := ?vv3) ?hi3 (by kernel_rfl) ?hf3 (by kernel_rfl) ?hq3 ?hy3 (by assumption) ?rest3
          case hi3 => (simp only [List.getElem?_toArray, List.getElem?_cons_zero, List.getElem?_cons_succ] <;> exact rfl)
          case hf3 => kernel_rfl
          case hq3 => exact fun _ _ _ h => h
          case hy3 => exact Or.inl ⟨by rfl, by intro w hSw; (try dsimp only at hSw); go_simp; try with_reducible rfl⟩
          (try simp only [Act.put, List.setIfInBounds_toArray, List.set_cons_zero, List.set_cons_succ])
          refine wpAnyH_take (i := 3) (oi := ?oo4) (v := ?vv4) ?hi4 (by kernel_rfl) ?hf4 (by kernel_rfl) ?hq4 ?hy4 (by assumption) ?rest4
          case hi4 => (simp only [List.getElem?_toArray, List.getElem?_cons_zero, List.getElem?_cons_succ] <;> exact rfl)
          case hf4 => kernel_rfl
          case hq4 => exact fun _ _ _ h => h
          case hy4 => exact Or.inl ⟨by rfl, by intro w hSw; (try dsimp only at hSw); go_simp; try with_reducible rfl⟩
          (try simp only [Act.put, List.setIfInBounds_toArray, List.set_cons_zero, List.set_cons_succ])
          refine wpAnyH_take (i := 4) (oi := ?oo5) (v := ?vv5) ?hi5 (by kernel_rfl) ?hf5 (by kernel_rfl) ?hq5 ?hy5 (by assumption) ?rest5
          case hi5 => (simp only [List.getElem?_toArray, List.getElem?_cons_zero, List.getElem?_cons_succ] <;> exact rfl)
          case hf5 => kernel_rfl
          case hq5 => exact fun _ _ _ h => h
          case hy5 => exact Or.inl ⟨by rfl, by intro w hSw; (try dsimp only at hSw); go_simp; try with_reducible rfl⟩
          (try simp only [Act.put, List.setIfInBounds_toArray, List.set_cons_zero, List.set_cons_succ])
          refine wpAnyH_take (i := 5) (oi := ?oo6) (v := ?vv6) ?hi6 (by kernel_rfl) ?hf6 (by kernel_rfl) ?hq6 ?hy6 (by assumption) ?rest6
          case hi6 => (simp only [List.getElem?_toArray, List.getElem?_cons_zero, List.getElem?_cons_succ] <;> exact rfl)
          case hf6 => kernel_rfl
          case hq6 => exact fun _ _ _ h => h
          case hy6 => exact Or.inl ⟨by rfl, by intro w hSw; (try dsimp only at hSw); go_simp; try with_reducible rfl⟩
          (try simp only [Act.put, List.setIfInBounds_toArray, List.set_cons_zero, List.set_cons_succ])
          refine wpAnyH_take (i := 6) (oi := ?oo7) (v := ?vv7) ?hi7 (by kernel_rfl) ?hf7 (by kernel_rfl) ?hq7 ?hy7 (by assumption) ?rest7
          case hi7 => (simp only [List.getElem?_toArray, List.getElem?_cons_zero, List.getElem?_cons_succ] <;> exact rfl)
          case hf7 => kernel_rfl
          case hq7 => exact fun _ _ _ h => h
          case hy7 => exact Or.inl ⟨by rfl, by intro w hSw; (try dsimp only at hSw); go_simp; try with_reducible rfl⟩
          (try simp only [Act.put, List.setIfInBounds_toArray, List.set_cons_zero, List.set_cons_succ])
          refine wpAnyH_take (i := 7) (oi := ?oo8) (v := ?vv8) ?hi8 (by kernel_rfl) ?hf8 (by kernel_rfl) ?hq8 ?hy8 (by assumption) ?rest8
          case hi8 => (simp only [List.getElem?_toArray, List.getElem?_cons_zero, List.getElem?_cons_succ] <;> exact rfl)
          case hf8 => kernel_rfl
          case hq8 => exact fun _ _ _ h => h
          case hy8 => exact Or.inl ⟨by rfl, by intro w hSw; (try dsimp only at hSw); go_simp; try with_reducible rfl⟩
          (try simp only [Act.put, List.setIfInBounds_toArray, List.set_cons_zero, List.set_cons_succ])
          refine wpAnyH_take (i := 8) (oi := ?oo9) (v := ?vv9) ?hi9 (by kernel_rfl) ?hf9 (by kernel_rfl) ?hq9 ?hy9 (by assumption) ?rest9
          case hi9 => (simp only [List.getElem?_toArray, List.getElem?_cons_zero, List.getElem?_cons_succ] <;> exact rfl)
          case hf9 => kernel_rfl
          case hq9 => exact fun _ _ _ h => h
          case hy9 => exact Or.inl ⟨by rfl, by intro w hSw; (try dsimp only at hSw); go_simp; try with_reducible rfl⟩
          (try simp only [Act.put, List.setIfInBounds_toArray, List.set_cons_zero, List.set_cons_succ])
          refine wpAnyH_take (i := 9) (oi := ?oo10) (v := ?vv10) ?hi10 (by kernel_rfl) ?hf10 (by kernel_rfl) ?hq10 ?hy10 (by assumption) ?rest10
          case hi10 => (simp only [List.getElem?_toArray, List.getElem?_cons_zero, List.getElem?_cons_succ] <;> exact rfl)
          case hf10 => kernel_rfl
          case hq10 => exact fun _ _ _ h => h
          case hy10 => exact Or.inl ⟨by rfl, by intro w hSw; (try dsimp only at hSw); go_simp; try with_reducible rfl⟩
          (try simp only [Act.put, List.setIfInBounds_toArray, List.set_cons_zero, List.set_cons_succ])
          refine wpAnyH_take (i := 10) (oi := ?oo11) (v := ?vv11) ?hi11 (by kernel_rfl) ?hf11 (by kernel_rfl) ?hq11 ?hy11 (by assumption) ?rest11
          case hi11 => (simp only [List.getElem?_toArray, List.getElem?_cons_zero, List.getElem?_cons_succ] <;> exact rfl)
          case hf11 => kernel_rfl
          case hq11 => exact fun _ _ _ h => h
          case hy11 => exact Or.inl ⟨by rfl, by intro w hSw; (try dsimp only at hSw); go_simp; try with_reducible rfl⟩
          (try simp only [Act.put, List.setIfInBounds_toArray, List.set_cons_zero, List.set_cons_succ])
          refine wpAnyH_take (i := 12) (oi := ?oo12) (v := ?vv12) ?hi12 (by kernel_rfl) ?hf12 (by kernel_rfl) ?hq12 ?hy12 (by assumption) ?rest12
          case hi12 => (simp only [List.getElem?_toArray, List.getElem?_cons_zero, List.getElem?_cons_succ] <;> exact rfl)
          case hf12 => kernel_rfl
          case hq12 => exact fun _ _ _ h => h
          case hy12 => exact Or.inl ⟨by rfl, by intro w hSw; (try dsimp only at hSw); go_simp; try with_reducible rfl⟩
          (try simp only [Act.put, List.setIfInBounds_toArray, List.set_cons_zero, List.set_cons_succ])
          refine wpAnyH_take (i := 13) (oi := ?oo13) (v := ?vv13) ?hi13 (by kernel_rfl) ?hf13 (by kernel_rfl) ?hq13 ?hy13 (by assumption) ?rest13
          case hi13 => (simp only [List.getElem?_toArray, List.getElem?_cons_zero, List.getElem?_cons_succ] <;> exact rfl)
          case hf13 => kernel_rfl
          case hq13 => exact fun _ _ _ h => h
          case hy13 => exact Or.inl ⟨by rfl, by intro w hSw; (try dsimp only at hSw); go_simp; try with_reducible rfl⟩
          (try simp only [Act.put, List.setIfInBounds_toArray, List.set_cons_zero, List.set_cons_succ])
          refine wpAnyH_ready (rs := [11]) (by kernel_rfl) (by simp) ?_
          refine AllReadyH.cons (o := ?oo14) ?hi14 (fun K hK => ?st14) ?more14
          case hi14 => (simp only [List.getElem?_toArray, List.getElem?_cons_zero, List.getElem?_cons_succ] <;> exact rfl)
          case more14 => exact AllReadyH.nil
          go_simp
          go_at_call 21
          refine Calls.mono (widths_ok _) ?_
          rintro e w4 ⟨g, rfl, G, -, kk⟩
          have cg := (G.cell (j + 1)).trans hw.out
          replace B' := B'.chg kk (by simp)
          replace K' := K'.trans kk (by simp)
          replace k3 := k3.trans kk (by simp)
          clear kk G
          refine hK.out _ _ ?hS14 (fun hHeld => ?rest14)
          case hS14 => exact ⟨(B'.cell 0).trans hZ.out, (B'.cell (1 + j)).trans cX.out⟩
          clear hK K
          (try simp only [Act.put, List.setIfInBounds_toArray, List.set_cons_zero, List.set_cons_succ])
          refine wpAnyH_take (i := 14) (oi := ?oo15) (v := ?vv15) ?hi15 (by kernel_rfl) ?hf15 (by kernel_rfl) ?hq15 ?hy15 (by assumption) ?rest15
          case hi15 => (simp only [List.getElem?_toArray, List.getElem?_cons_zero, List.getElem?_cons_succ] <;> exact rfl)
          case hf15 => kernel_rfl
          case hq15 => exact fun _ _ _ h => h
          case hy15 => exact Or.inl ⟨by rfl, by intro w hSw; (try dsimp only at hSw); go_simp; try with_reducible rfl⟩
          (try simp only [Act.put, List.setIfInBounds_toArray, List.set_cons_zero, List.set_cons_succ])
          refine wpAnyH_ready (rs := [15]) (by kernel_rfl) (by simp) ?_
          refine AllReadyH.cons (o := ?oo16) ?hi16 (fun K hK => ?st16) ?more16
          case hi16 => (simp only [List.getElem?_toArray, List.getElem?_cons_zero, List.getElem?_cons_succ] <;> exact rfl)
          case more16 => exact AllReadyH.nil
          go_simp
          refine hK.out _ _ ?hS16 (fun hHeld => ?rest16)
          case hS16 => exact ⟨(B'.cell 0).trans hZ.out, (B'.cell (1 + j)).trans cX.out⟩
          clear hK K
          (try simp only [Act.put, List.setIfInBounds_toArray, List.set_cons_zero, List.set_cons_succ])
          refine wpAnyH_ready (rs := [16]) (by kernel_rfl) (by simp) ?_
          refine AllReadyH.cons (o := ?oo17) ?hi17 (fun K hK => ?st17) ?more17
          case hi17 => (simp only [List.getElem?_toArray, List.getElem?_cons_zero, List.getElem?_cons_succ] <;> exact rfl)
          case more17 => exact AllReadyH.nil
          go_simp
          go_at_call 28
          refine Calls.mono (Ref01.fits_ok _ _ (by omega) (by omega) _) ?_
          rintro e w5 ⟨rfl, rfl⟩
          rw [HT.out]
          refine hK.out _ _ ?hS17 (fun hHeld => ?rest17)
          case hS17 => exact ⟨(B'.cell 0).trans hZ.out, (B'.cell (1 + j)).trans cX.out⟩
          clear hK K
          (try simp only [Act.put, List.setIfInBounds_toArray, List.set_cons_zero, List.set_cons_succ])
          refine wpAnyH_take (i := 17) (oi := ?oo18) (v := ?vv18) ?hi18 (by kernel_rfl) ?hf18 (by kernel_rfl) ?hq18 ?hy18 (by assumption) ?rest18
          case hi18 => (simp only [List.getElem?_toArray, List.getElem?_cons_zero, List.getElem?_cons_succ] <;> exact rfl)
          case hf18 => kernel_rfl
          case hq18 => exact fun _ _ _ h => h
          case hy18 => exact Or.inl ⟨by rfl, by intro w hSw; (try dsimp only at hSw); go_simp; try with_reducible rfl⟩
          (try simp only [Act.put, List.setIfInBounds_toArray, List.set_cons_zero, List.set_cons_succ])
          refine wpAnyH_take (i := 18) (oi := ?oo19) (v := ?vv19) ?hi19 (by kernel_rfl) ?hf19 (by kernel_rfl) ?hq19 ?hy19 (by assumption) ?rest19
          case hi19 => (simp only [List.getElem?_toArray, List.getElem?_cons_zero, List.getElem?_cons_succ] <;> exact rfl)
          case hf19 => kernel_rfl
          case hq19 => exact fun _ _ _ h => h
          case hy19 => exact Or.inl ⟨by rfl, by intro w hSw; (try dsimp only at hSw); go_simp; try with_reducible rfl⟩
          (try simp only [Act.put, List.setIfInBounds_toArray, List.set_cons_zero, List.set_cons_succ])
          refine wpAnyH_take (i := 19) (oi := ?oo20) (v := ?vv20) ?hi20 (by kernel_rfl) ?hf20 (by kernel_rfl) ?hq20 ?hy20 (by assumption) ?rest20
          case hi20 => (simp only [List.getElem?_toArray, List.getElem?_cons_zero, List.getElem?_cons_succ] <;> exact rfl)
          case hf20 => kernel_rfl
          case hq20 => exact fun _ _ _ h => h
          case hy20 => exact Or.inl ⟨by rfl, by intro w hSw; (try dsimp only at hSw); go_simp; try with_reducible rfl⟩
          (try simp only [Act.put, List.setIfInBounds_toArray, List.set_cons_zero, List.set_cons_succ])
          refine wpAnyH_take (i := 20) (oi := ?oo21) (v := undef) ?hi21 (by kernel_rfl) ?hf21 (by kernel_rfl) ?hq21 ?hy21 (by assumption) ?rest21
          case hi21 => (simp only [List.getElem?_toArray, List.getElem?_cons_zero, List.getElem?_cons_succ] <;> exact rfl)
          case hf21 => kernel_rfl
          case hq21 => exact fun _ _ _ h => h
          case hy21 => exact Or.inr ⟨by rfl, rfl⟩
          (try simp only [Act.put, List.setIfInBounds_toArray, List.set_cons_zero, List.set_cons_succ])
          refine wpAnyH_take (i := 21) (oi := ?oo22) (v := undef) ?hi22 (by kernel_rfl) ?hf22 (by kernel_rfl) ?hq22 ?hy22 (by assumption) ?rest22
          case hi22 => (simp only [List.getElem?_toArray, List.getElem?_cons_zero, List.getElem?_cons_succ] <;> exact rfl)
          case hf22 => kernel_rfl
          case hq22 => exact fun _ _ _ h => h
          case hy22 => exact Or.inr ⟨by rfl, rfl⟩
          (try simp only [Act.put, List.setIfInBounds_toArray, List.set_cons_zero, List.set_cons_succ])
          refine wpAnyH_take (i := 22) (oi := ?oo23) (v := undef) ?hi23 (by kernel_rfl) ?hf23 (by kernel_rfl) ?hq23 ?hy23 (by assumption) ?rest23
          case hi23 => (simp only [List.getElem?_toArray, List.getElem?_cons_zero, List.getElem?_cons_succ] <;> exact rfl)
          case hf23 => kernel_rfl
          case hq23 => exact fun _ _ _ h => h
          case hy23 => exact Or.inr ⟨by rfl, rfl⟩
          (try simp only [Act.put, List.setIfInBounds_toArray, List.set_cons_zero, List.set_cons_succ])
          refine wpAnyH_take (i := 23) (oi := ?oo24) (v := undef) ?hi24 (by kernel_rfl) ?hf24 (by kernel_rfl) ?hq24 ?hy24 (by assumption) ?rest24
          case hi24 => (simp only [List.getElem?_toArray, List.getElem?_cons_zero, List.getElem?_cons_succ] <;> exact rfl)
          case hf24 => kernel_rfl
          case hq24 => exact fun _ _ _ h => h
          case hy24 => exact Or.inr ⟨by rfl, rfl⟩
          (try simp only [Act.put, List.setIfInBounds_toArray, List.set_cons_zero, List.set_cons_succ])
          refine wpAnyH_take (i := 24) (oi := ?oo25) (v := undef) ?hi25 (by kernel_rfl) ?hf25 (by kernel_rfl) ?hq25 ?hy25 (by assumption) ?rest25
          case hi25 => (simp only [List.getElem?_toArray, List.getElem?_cons_zero, List.getElem?_cons_succ] <;> exact rfl)
          case hf25 => kernel_rfl
          case hq25 => exact fun _ _ _ h => h
          case hy25 => exact Or.inr ⟨by rfl, rfl⟩
          (try simp only [Act.put, List.setIfInBounds_toArray, List.set_cons_zero, List.set_cons_succ])
          refine wpAnyH_take (i := 25) (oi := ?oo26) (v := undef) ?hi26 (by kernel_rfl) ?hf26 (by kernel_rfl) ?hq26 ?hy26 (by assumption) ?rest26
          case hi26 => (simp only [List.getElem?_toArray, List.getElem?_cons_zero, List.getElem?_cons_succ] <;> exact rfl)
          case hf26 => kernel_rfl
          case hq26 => exact fun _ _ _ h => h
          case hy26 => exact Or.inr ⟨by rfl, rfl⟩
          (try simp only [Act.put, List.setIfInBounds_toArray, List.set_cons_zero, List.set_cons_succ])
          refine wpAnyH_take (i := 26) (oi := ?oo27) (v := undef) ?hi27 (by kernel_rfl) ?hf27 (by kernel_rfl) ?hq27 ?hy27 (by assumption) ?rest27
          case hi27 => (simp only [List.getElem?_toArray, List.getElem?_cons_zero, List.getElem?_cons_succ] <;> exact rfl)
          case hf27 => kernel_rfl
          case hq27 => exact fun _ _ _ h => h
          case hy27 => exact Or.inr ⟨by rfl, rfl⟩
          (try simp only [Act.put, List.setIfInBounds_toArray, List.set_cons_zero, List.set_cons_succ])
          refine wpAnyH_take (i := 27) (oi := ?oo28) (v := undef) ?hi28 (by kernel_rfl) ?hf28 (by kernel_rfl) ?hq28 ?hy28 (by assumption) ?rest28
          case hi28 => (simp only [List.getElem?_toArray, List.getElem?_cons_zero, List.getElem?_cons_succ] <;> exact rfl)
          case hf28 => kernel_rfl
          case hq28 => exact fun _ _ _ h => h
          case hy28 => exact Or.inr ⟨by rfl, rfl⟩
          (try simp only [Act.put, List.setIfInBounds_toArray, List.set_cons_zero, List.set_cons_succ])
          refine wpAnyH_take (i := 28) (oi := ?oo29) (v := undef) ?hi29 (by kernel_rfl) ?hf29 (by kernel_rfl) ?hq29 ?hy29 (by assumption) ?rest29
          case hi29 => (simp only [List.getElem?_toArray, List.getElem?_cons_zero, List.getElem?_cons_succ] <;> exact rfl)
          case hf29 => kernel_rfl
          case hq29 => exact fun _ _ _ h => h
          case hy29 => exact Or.inr ⟨by rfl, rfl⟩
          (try simp only [Act.put, List.setIfInBounds_toArray, List.set_cons_zero, List.set_cons_succ])
          refine wpAnyH_take (i := 29) (oi := ?oo30) (v := undef) ?hi30 (by kernel_rfl) ?hf30 (by kernel_rfl) ?hq30 ?hy30 (by assumption) ?rest30
          case hi30 => (simp only [List.getElem?_toArray, List.getElem?_cons_zero, List.getElem?_cons_succ] <;> exact rfl)
          case hf30 => kernel_rfl
          case hq30 => exact fun _ _ _ h => h
          case hy30 => exact Or.inr ⟨by rfl, rfl⟩
          (try simp only [Act.put, List.setIfInBounds_toArray, List.set_cons_zero, List.set_cons_succ])
          refine wpAnyH_take (i := 30) (oi := ?oo31) (v := undef) ?hi31 (by kernel_rfl) ?hf31 (by kernel_rfl) ?hq31 ?hy31 (by assumption) ?rest31
          case hi31 => (simp only [List.getElem?_toArray, List.getElem?_cons_zero, List.getElem?_cons_succ] <;> exact rfl)
          case hf31 => kernel_rfl
          case hq31 => exact fun _ _ _ h => h
          case hy31 => exact Or.inr ⟨by rfl, rfl⟩
          (try simp only [Act.put, List.setIfInBounds_toArray, List.set_cons_zero, List.set_cons_succ])
          refine wpAnyH_take (i := 31) (oi := ?oo32) (v := undef) ?hi32 (by kernel_rfl) ?hf32 (by kernel_rfl) ?hq32 ?hy32 (by assumption) ?rest32
          case hi32 => (simp only [List.getElem?_toArray, List.getElem?_cons_zero, List.getElem?_cons_succ] <;> exact rfl)
          case hf32 => kernel_rfl
          case hq32 => exact fun _ _ _ h => h
          case hy32 => exact Or.inr ⟨by rfl, rfl⟩
          (try simp only [Act.put, List.setIfInBounds_toArray, List.set_cons_zero, List.set_cons_succ])
          refine wpAnyH_take (i := 32) (oi := ?oo33) (v := ?vv33) ?hi33 (by kernel_rfl) ?hf33 (by kernel_rfl) ?hq33 ?hy33 (by assumption) ?rest33
          case hi33 => (simp only [List.getElem?_toArray, List.getElem?_cons_zero, List.getElem?_cons_succ] <;> exact rfl)
          case hf33 => kernel_rfl
          case hq33 => exact fun _ _ _ h => h
          case hy33 => exact Or.inl ⟨by rfl, by intro w hSw; (try dsimp only at hSw); go_simp; try with_reducible rfl⟩
          (try simp only [Act.put, List.setIfInBounds_toArray, List.set_cons_zero, List.set_cons_succ])
          refine wpAnyH_done (by kernel_rfl) ?_ _
          go_wp2
          go_ret
          exact ⟨rfl, K'⟩
        · rw [Bool.true_and] at E
          by_cases hlt : (j : Int) < nn
          · replace HE2 := HE2 (by rw [E, decide_eq_true hlt]; rfl)
            have hd2 : decide (nn ≤ (j : Int)) = false := decide_eq_false (by omega)
            clear E hbad
            go_wp2
            refine wp_region_held_drew (S := fun V => V.cell? ⟨b, 0, none⟩ = some (.int .i64 n) ∧ V.cell? ⟨b, 1 + j, none⟩ = some (.int .i64 x)) (by kernel_rfl) ?_ (fun hHeld => ?_)
            case _ => exact ⟨c0, cA⟩
            replace B' := B'.drew
            replace K' := K'.drew
            replace k3 := k3.drew
            refine wpAnyH_take (i := 0) (oi := ?oo34) (v := ?vv34) ?hi34 (by kernel_rfl) ?hf34 (by kernel_rfl) ?hq34 ?hy34 (by assumption) ?rest34
            case hi34 => (simp only [List.getElem?_toArray, List.getElem?_cons_zero] <;> exact rfl)
            case hf34 => kernel_rfl
            case hq34 => exact fun _ _ _ h => h
            case hy34 => exact Or.inl ⟨by rfl, by intro w hSw; (try dsimp only at hSw); go_simp; try with_reducible rfl⟩
            (try simp only [Act.put, List.setIfInBounds_toArray, List.set_cons_zero, List.set_cons_succ])
            refine wpAnyH_take (i := 1) (oi := ?oo35) (v := ?vv35) ?hi35 (by kernel_rfl) ?hf35 (by kernel_rfl) ?hq35 ?hy35 (by assumption) ?rest35
            case hi35 => (simp only [List.getElem?_toArray, List.getElem?_cons_zero, List.getElem?_cons_succ] <;> exact rfl)
            case hf35 => kernel_rfl
            case hq35 => exact fun _ _ _ h => h
            case hy35 => exact Or.inl ⟨by rfl, by intro w hSw; (try dsimp only at hSw); go_simp; try with_reducible rfl⟩
            (try simp only [Act.put, List.setIfInBounds_toArray, List.set_cons_zero, List.set_cons_succ])
            refine wpAnyH_take (i := 2) (oi := ?oo36) (v := ?vv36) ?hi36 (by kernel_rfl) ?hf36 (by kernel_rfl) ?hq36 ?hy36 (by assumption) ?rest36
            case hi36 => (simp only [List.getElem?_toArray, List.getElem?_cons_zero, List.getElem?_cons_succ] <;> exact rfl)
            case hf36 => kernel_rfl
            case hq36 => exact fun _ _ _ h => h
            case hy36 => exact Or.inl ⟨by rfl, by intro w hSw; (try dsimp only at hSw); go_simp; try with_reducible rfl⟩
            (try simp only [Act.put, List.setIfInBounds_toArray, List.set_cons_zero, List.set_cons_succ])
            refine wpAnyH_take (i := 3) (oi := ?oo37) (v := ?vv37) ?hi37 (by kernel_rfl) ?hf37 (by kernel_rfl) ?hq37 ?hy37 (by assumption) ?rest37
            case hi37 => (simp only [List.getElem?_toArray, List.getElem?_cons_zero, List.getElem?_cons_succ] <;> exact rfl)
            case hf37 => kernel_rfl
            case hq37 => exact fun _ _ _ h => h
            case hy37 => exact Or.inl ⟨by rfl, by intro w hSw; (try dsimp only at hSw); go_simp; try with_reducible rfl⟩
            (try simp only [Act.put, List.setIfInBounds_toArray, List.set_cons_zero, List.set_cons_succ])
            refine wpAnyH_take (i := 4) (oi := ?oo38) (v := ?vv38) ?hi38 (by kernel_rfl) ?hf38 (by kernel_rfl) ?hq38 ?hy38 (by assumption) ?rest38
            case hi38 => (simp only [List.getElem?_toArray, List.getElem?_cons_zero, List.getElem?_cons_succ] <;> exact rfl)
            case hf38 => kernel_rfl
            case hq38 => exact fun _ _ _ h => h
            case hy38 => exact Or.inl ⟨by rfl, by intro w hSw; (try dsimp only at hSw); go_simp; try with_reducible rfl⟩
            (try simp only [Act.put, List.setIfInBounds_toArray, List.set_cons_zero, List.set_cons_succ])
            refine wpAnyH_take (i := 5) (oi := ?oo39) (v := ?vv39) ?hi39 (by kernel_rfl) ?hf39 (by kernel_rfl) ?hq39 ?hy39 (by assumption) ?rest39
            case hi39 => (simp only [List.getElem?_toArray, List.getElem?_cons_zero, List.getElem?_cons_succ] <;> exact rfl)
            case hf39 => kernel_rfl
            case hq39 => exact fun _ _ _ h => h
            case hy39 => exact Or.inl ⟨by rfl, by intro w hSw; (try dsimp only at hSw); go_simp; try with_reducible rfl⟩
            (try simp only [Act.put, List.setIfInBounds_toArray, List.set_cons_zero, List.set_cons_succ])
            refine wpAnyH_take (i := 6) (oi := ?oo40) (v := ?vv40) ?hi40 (by kernel_rfl) ?hf40 (by kernel_rfl) ?hq40 ?hy40 (by assumption) ?rest40
            case hi40 => (simp only [List.getElem?_toArray, List.getElem?_cons_zero, List.getElem?_cons_succ] <;> exact rfl)
            case hf40 => kernel_rfl
            case hq40 => exact fun _ _ _ h => h
            case hy40 => exact Or.inl ⟨by rfl, by intro w hSw; (try dsimp only at hSw); go_simp; try with_reducible rfl⟩
            (try simp only [Act.put, List.setIfInBounds_toArray, List.set_cons_zero, List.set_cons_succ])
            refine wpAnyH_take (i := 7) (oi := ?oo41) (v := ?vv41) ?hi41 (by kernel_rfl) ?hf41 (by kernel_rfl) ?hq41 ?hy41 (by assumption) ?rest41
            case hi41 => (simp only [List.getElem?_toArray, List.getElem?_cons_zero, List.getElem?_cons_succ] <;> exact rfl)
            case hf41 => kernel_rfl
            case hq41 => exact fun _ _ _ h => h
            case hy41 => exact Or.inl ⟨by rfl, by intro w hSw; (try dsimp only at hSw); go_simp; try with_reducible rfl⟩
            (try simp only [Act.put, List.setIfInBounds_toArray, List.set_cons_zero, List.set_cons_succ])
            refine wpAnyH_take (i := 8) (oi := ?oo42) (v := ?vv42) ?hi42 (by kernel_rfl) ?hf42 (by kernel_rfl) ?hq42 ?hy42 (by assumption) ?rest42
            case hi42 => (simp only [List.getElem?_toArray, List.getElem?_cons_zero, List.getElem?_cons_succ] <;> exact rfl)
            case hf42 => kernel_rfl
            case hq42 => exact fun _ _ _ h => h
            case hy42 => exact Or.inl ⟨by rfl, by intro w hSw; (try dsimp only at hSw); go_simp; try with_reducible rfl⟩
            (try simp only [Act.put, List.setIfInBounds_toArray, List.set_cons_zero, List.set_cons_succ])
            refine wpAnyH_take (i := 9) (oi := ?oo43) (v := ?vv43) ?hi43 (by kernel_rfl) ?hf43 (by kernel_rfl) ?hq43 ?hy43 (by assumption) ?rest43
            case hi43 => (simp only [List.getElem?_toArray, List.getElem?_cons_zero, List.getElem?_cons_succ] <;> exact rfl)
            case hf43 => kernel_rfl
            case hq43 => exact fun _ _ _ h => h
            case hy43 => exact Or.inl ⟨by rfl, by intro w hSw; (try dsimp only at hSw); go_simp; try with_reducible rfl⟩
            (try simp only [Act.put, List.setIfInBounds_toArray, List.set_cons_zero, List.set_cons_succ])
            refine wpAnyH_take (i := 10) (oi := ?oo44) (v := ?vv44) ?hi44 (by kernel_rfl) ?hf44 (by kernel_rfl) ?hq44 ?hy44 (by assumption) ?rest44
            case hi44 => (simp only [List.getElem?_toArray, List.getElem?_cons_zero, List.getElem?_cons_succ] <;> exact rfl)
            case hf44 => kernel_rfl
            case hq44 => exact fun _ _ _ h => h
            case hy44 => exact Or.inl ⟨by rfl, by intro w hSw; (try dsimp only at hSw); go_simp; try with_reducible rfl⟩
            (try simp only [Act.put, List.setIfInBounds_toArray, List.set_cons_zero, List.set_cons_succ])
            refine wpAnyH_take (i := 12) (oi := ?oo45) (v := ?vv45) ?hi45 (by kernel_rfl) ?hf45 (by kernel_rfl) ?hq45 ?hy45 (by assumption) ?rest45
            case hi45 => (simp only [List.getElem?_toArray, List.getElem?_cons_zero, List.getElem?_cons_succ] <;> exact rfl)
            case hf45 => kernel_rfl
            case hq45 => exact fun _ _ _ h => h
            case hy45 => exact Or.inl ⟨by rfl, by intro w hSw; (try dsimp only at hSw); go_simp; try with_reducible rfl⟩
            (try simp only [Act.put, List.setIfInBounds_toArray, List.set_cons_zero, List.set_cons_succ])
            refine wpAnyH_take (i := 13) (oi := ?oo46) (v := ?vv46) ?hi46 (by kernel_rfl) ?hf46 (by kernel_rfl) ?hq46 ?hy46 (by assumption) ?rest46
            case hi46 => (simp only [List.getElem?_toArray, List.getElem?_cons_zero, List.getElem?_cons_succ] <;> exact rfl)
            case hf46 => kernel_rfl
            case hq46 => exact fun _ _ _ h => h
            case hy46 => exact Or.inl ⟨by rfl, by intro w hSw; (try dsimp only at hSw); go_simp; try with_reducible rfl⟩
            (try simp only [Act.put, List.setIfInBounds_toArray, List.set_cons_zero, List.set_cons_succ])
            refine wpAnyH_ready (rs := [11]) (by kernel_rfl) (by simp) ?_
            refine AllReadyH.cons (o := ?oo47) ?hi47 (fun K hK => ?st47) ?more47
            case hi47 => (simp only [List.getElem?_toArray, List.getElem?_cons_zero, List.getElem?_cons_succ] <;> exact rfl)
            case more47 => exact AllReadyH.nil
            go_simp
            go_at_call 21
            refine Calls.mono (widths_ok _) ?_
            rintro e w4 ⟨g, rfl, G, -, kk⟩
            have cg := (G.cell (j + 1)).trans hw.out
            replace B' := B'.chg kk (by simp)
            replace K' := K'.trans kk (by simp)
            replace k3 := k3.trans kk (by simp)
            clear kk G
            refine hK.out _ _ ?hS47 (fun hHeld => ?rest47)
            case hS47 => exact ⟨(B'.cell 0).trans hZ.out, (B'.cell (1 + j)).trans cX.out⟩
            clear hK K
            (try simp only [Act.put, List.setIfInBounds_toArray, List.set_cons_zero, List.set_cons_succ])
            refine wpAnyH_take (i := 14) (oi := ?oo48) (v := ?vv48) ?hi48 (by kernel_rfl) ?hf48 (by kernel_rfl) ?hq48 ?hy48 (by assumption) ?rest48
            case hi48 => (simp only [List.getElem?_toArray, List.getElem?_cons_zero, List.getElem?_cons_succ] <;> exact rfl)
            case hf48 => kernel_rfl
            case hq48 => exact fun _ _ _ h => h
            case hy48 => exact Or.inl ⟨by rfl, by intro w hSw; (try dsimp only at hSw); go_simp; try with_reducible rfl⟩
            (try simp only [Act.put, List.setIfInBounds_toArray, List.set_cons_zero, List.set_cons_succ])
            refine wpAnyH_ready (rs := [15]) (by kernel_rfl) (by simp) ?_
            refine AllReadyH.cons (o := ?oo49) ?hi49 (fun K hK => ?st49) ?more49
            case hi49 => (simp only [List.getElem?_toArray, List.getElem?_cons_zero, List.getElem?_cons_succ] <;> exact rfl)
            case more49 => exact AllReadyH.nil
            go_simp
            refine hK.out _ _ ?hS49 (fun hHeld => ?rest49)
            case hS49 => exact ⟨(B'.cell 0).trans hZ.out, (B'.cell (1 + j)).trans cX.out⟩
            clear hK K
            (try simp only [Act.put, List.setIfInBounds_toArray, List.set_cons_zero, List.set_cons_succ])
            refine wpAnyH_ready (rs := [16]) (by kernel_rfl) (by simp) ?_
            refine AllReadyH.cons (o := ?oo50) ?hi50 (fun K hK => ?st50) ?more50
            case hi50 => (simp only [List.getElem?_toArray, List.getElem?_cons_zero, List.getElem?_cons_succ] <;> exact rfl)
            case more50 => exact AllReadyH.nil
            go_simp
            go_at_call 28
            refine Calls.mono (Ref01.fits_ok _ _ (by omega) (by omega) _) ?_
            rintro e w5 ⟨rfl, rfl⟩
            rw [HT.out]
            refine hK.out _ _ ?hS50 (fun hHeld => ?rest50)
            case hS50 => exact ⟨(B'.cell 0).trans hZ.out, (B'.cell (1 + j)).trans cX.out⟩
            clear hK K
            (try simp only [Act.put, List.setIfInBounds_toArray, List.set_cons_zero, List.set_cons_succ])
            refine wpAnyH_take (i := 17) (oi := ?oo51) (v := ?vv51) ?hi51 (by kernel_rfl) ?hf51 (by kernel_rfl) ?hq51 ?hy51 (by assumption) ?rest51
            case hi51 => (simp only [List.getElem?_toArray, List.getElem?_cons_zero, List.getElem?_cons_succ] <;> exact rfl)
            case hf51 => kernel_rfl
            case hq51 => exact fun _ _ _ h => h
            case hy51 => exact Or.inl ⟨by rfl, by intro w hSw; (try dsimp only at hSw); go_simp; try with_reducible rfl⟩
            (try simp only [Act.put, List.setIfInBounds_toArray, List.set_cons_zero, List.set_cons_succ])
            refine wpAnyH_take (i := 18) (oi := ?oo52) (v := ?vv52) ?hi52 (by kernel_rfl) ?hf52 (by kernel_rfl) ?hq52 ?hy52 (by assumption) ?rest52
            case hi52 => (simp only [List.getElem?_toArray, List.getElem?_cons_zero, List.getElem?_cons_succ] <;> exact rfl)
            case hf52 => kernel_rfl
            case hq52 => exact fun _ _ _ h => h
            case hy52 => exact Or.inl ⟨by rfl, by intro w hSw; (try dsimp only at hSw); go_simp; try with_reducible rfl⟩
            (try simp only [Act.put, List.setIfInBounds_toArray, List.set_cons_zero, List.set_cons_succ])
            refine wpAnyH_take (i := 19) (oi := ?oo53) (v := ?vv53) ?hi53 (by kernel_rfl) ?hf53 (by kernel_rfl) ?hq53 ?hy53 (by assumption) ?rest53
            case hi53 => (simp only [List.getElem?_toArray, List.getElem?_cons_zero, List.getElem?_cons_succ] <;> exact rfl)
            case hf53 => kernel_rfl
            case hq53 => exact fun _ _ _ h => h
            case hy53 => exact Or.inl ⟨by rfl, by intro w hSw; (try dsimp only at hSw); go_simp; try with_reducible rfl⟩
            (try simp only [Act.put, List.setIfInBounds_toArray, List.set_cons_zero, List.set_cons_succ])
            refine wpAnyH_take (i := 20) (oi := ?oo54) (v := ?vv54) ?hi54 (by kernel_rfl) ?hf54 (by kernel_rfl) ?hq54 ?hy54 (by assumption) ?rest54
            case hi54 => (simp only [List.getElem?_toArray, List.getElem?_cons_zero, List.getElem?_cons_succ] <;> exact rfl)
            case hf54 => kernel_rfl
            case hq54 => exact fun _ _ _ h => h
            case hy54 => exact Or.inl ⟨by rfl, by intro w hSw; (try dsimp only at hSw); go_simp; try with_reducible rfl⟩
            (try simp only [Act.put, List.setIfInBounds_toArray, List.set_cons_zero, List.set_cons_succ])
            refine wpAnyH_take (i := 21) (oi := ?oo55) (v := ?vv55) ?hi55 (by kernel_rfl) ?hf55 (by kernel_rfl) ?hq55 ?hy55 (by assumption) ?rest55
            case hi55 => (simp only [List.getElem?_toArray, List.getElem?_cons_zero, List.getElem?_cons_succ] <;> exact rfl)
            case hf55 => kernel_rfl
            case hq55 => exact fun _ _ _ h => h
            case hy55 => exact Or.inl ⟨by rfl, by intro w hSw; (try dsimp only at hSw); go_simp; try with_reducible rfl⟩
            (try simp only [Act.put, List.setIfInBounds_toArray, List.set_cons_zero, List.set_cons_succ])
            refine wpAnyH_take (i := 22) (oi := ?oo56) (v := ?vv56) ?hi56 (by kernel_rfl) ?hf56 (by kernel_rfl) ?hq56 ?hy56 (by assumption) ?rest56
            case hi56 => (simp only [List.getElem?_toArray, List.getElem?_cons_zero, List.getElem?_cons_succ] <;> exact rfl)
            case hf56 => kernel_rfl
            case hq56 => exact fun _ _ _ h => h
            case hy56 => exact Or.inl ⟨by rfl, by intro w hSw; (try dsimp only at hSw); go_simp; try with_reducible rfl⟩
            (try simp only [Act.put, List.setIfInBounds_toArray, List.set_cons_zero, List.set_cons_succ])
            refine wpAnyH_ready (rs := [23]) (by kernel_rfl) (by simp) ?_
            refine AllReadyH.cons (o := ?oo57) ?hi57 (fun K hK => ?st57) ?more57
            case hi57 => (simp only [List.getElem?_toArray, List.getElem?_cons_zero, List.getElem?_cons_succ] <;> exact rfl)
            case more57 => exact AllReadyH.nil
            go_simp
            go_at_call 13
            refine Calls.mono (HN'.out _) ?_
            rintro e w6 ⟨rfl, kk⟩
            replace B' := B'.chg kk (by simp)
            replace K' := K'.trans kk (by simp)
            replace k3 := k3.trans kk (by simp)
            clear kk
            refine hK.out _ _ ?hS57 (fun hHeld => ?rest57)
            case hS57 => exact ⟨(B'.cell 0).trans hZ.out, (B'.cell (1 + j)).trans cX.out⟩
            clear hK K
            (try simp only [Act.put, List.setIfInBounds_toArray, List.set_cons_zero, List.set_cons_succ])
            refine wpAnyH_take (i := 24) (oi := ?oo58) (v := ?vv58) ?hi58 (by kernel_rfl) ?hf58 (by kernel_rfl) ?hq58 ?hy58 (by assumption) ?rest58
            case hi58 => (simp only [List.getElem?_toArray, List.getElem?_cons_zero, List.getElem?_cons_succ] <;> exact rfl)
            case hf58 => kernel_rfl
            case hq58 => exact fun _ _ _ h => h
            case hy58 => exact Or.inl ⟨by rfl, by intro w hSw; (try dsimp only at hSw); go_simp; try with_reducible rfl⟩
            (try simp only [Act.put, List.setIfInBounds_toArray, List.set_cons_zero, List.set_cons_succ])
            refine wpAnyH_take (i := 25) (oi := ?oo59) (v := ?vv59) ?hi59 (by kernel_rfl) ?hf59 (by kernel_rfl) ?hq59 ?hy59 (by assumption) ?rest59
            case hi59 => (simp only [List.getElem?_toArray, List.getElem?_cons_zero, List.getElem?_cons_succ] <;> exact rfl)
            case hf59 => kernel_rfl
            case hq59 => exact fun _ _ _ h => h
            case hy59 => exact Or.inl ⟨by rfl, by intro w hSw; (try dsimp only at hSw); go_simp; try with_reducible rfl⟩
            (try simp only [Act.put, List.setIfInBounds_toArray, List.set_cons_zero, List.set_cons_succ])
            refine wpAnyH_take (i := 26) (oi := ?oo60) (v := undef) ?hi60 (by kernel_rfl) ?hf60 (by kernel_rfl) ?hq60 ?hy60 (by assumption) ?rest60
            case hi60 => (simp only [List.getElem?_toArray, List.getElem?_cons_zero, List.getElem?_cons_succ] <;> exact rfl)
            case hf60 => kernel_rfl
            case hq60 => exact fun _ _ _ h => h
            case hy60 => exact Or.inr ⟨by rfl, rfl⟩
            (try simp only [Act.put, List.setIfInBounds_toArray, List.set_cons_zero, List.set_cons_succ])
            refine wpAnyH_take (i := 27) (oi := ?oo61) (v := undef) ?hi61 (by kernel_rfl) ?hf61 (by kernel_rfl) ?hq61 ?hy61 (by assumption) ?rest61
            case hi61 => (simp only [List.getElem?_toArray, List.getElem?_cons_zero, List.getElem?_cons_succ] <;> exact rfl)
            case hf61 => kernel_rfl
            case hq61 => exact fun _ _ _ h => h
            case hy61 => exact Or.inr ⟨by rfl, rfl⟩
            (try simp only [Act.put, List.setIfInBounds_toArray, List.set_cons_zero, List.set_cons_succ])
            refine wpAnyH_take (i := 28) (oi := ?oo62) (v := undef) ?hi62 (by kernel_rfl) ?hf62 (by kernel_rfl) ?hq62 ?hy62 (by assumption) ?rest62
            case hi62 => (simp only [List.getElem?_toArray, List.getElem?_cons_zero, List.getElem?_cons_succ] <;> exact rfl)
            case hf62 => kernel_rfl
            case hq62 => exact fun _ _ _ h => h
            case hy62 => exact Or.inr ⟨by rfl, rfl⟩
            (try simp only [Act.put, List.setIfInBounds_toArray, List.set_cons_zero, List.set_cons_succ])
            refine wpAnyH_take (i := 29) (oi := ?oo63) (v := undef) ?hi63 (by kernel_rfl) ?hf63 (by kernel_rfl) ?hq63 ?hy63 (by assumption) ?rest63
            case hi63 => (simp only [List.getElem?_toArray, List.getElem?_cons_zero, List.getElem?_cons_succ] <;> exact rfl)
            case hf63 => kernel_rfl
            case hq63 => exact fun _ _ _ h => h
            case hy63 => exact Or.inr ⟨by rfl, rfl⟩
            (try simp only [Act.put, List.setIfInBounds_toArray, List.set_cons_zero, List.set_cons_succ])
            refine wpAnyH_take (i := 30) (oi := ?oo64) (v := undef) ?hi64 (by kernel_rfl) ?hf64 (by kernel_rfl) ?hq64 ?hy64 (by assumption) ?rest64
            case hi64 => (simp only [List.getElem?_toArray, List.getElem?_cons_zero, List.getElem?_cons_succ] <;> exact rfl)
            case hf64 => kernel_rfl
            case hq64 => exact fun _ _ _ h => h
            case hy64 => exact Or.inr ⟨by rfl, rfl⟩
            (try simp only [Act.put, List.setIfInBounds_toArray, List.set_cons_zero, List.set_cons_succ])
            refine wpAnyH_take (i := 31) (oi := ?oo65) (v := ?vv65) ?hi65 (by kernel_rfl) ?hf65 (by kernel_rfl) ?hq65 ?hy65 (by assumption) ?rest65
            case hi65 => (simp only [List.getElem?_toArray, List.getElem?_cons_zero, List.getElem?_cons_succ] <;> exact rfl)
            case hf65 => kernel_rfl
            case hq65 => exact fun _ _ _ h => h
            case hy65 => exact Or.inl ⟨by rfl, by intro w hSw; (try dsimp only at hSw); go_simp; try with_reducible rfl⟩
            (try simp only [Act.put, List.setIfInBounds_toArray, List.set_cons_zero, List.set_cons_succ])
            refine wpAnyH_take (i := 32) (oi := ?oo66) (v := ?vv66) ?hi66 (by kernel_rfl) ?hf66 (by kernel_rfl) ?hq66 ?hy66 (by assumption) ?rest66
            case hi66 => (simp only [List.getElem?_toArray, List.getElem?_cons_zero, List.getElem?_cons_succ] <;> exact rfl)
            case hf66 => kernel_rfl
            case hq66 => exact fun _ _ _ h => h
            case hy66 => exact Or.inl ⟨by rfl, by intro w hSw; (try dsimp only at hSw); go_simp; try with_reducible rfl⟩
            (try simp only [Act.put, List.setIfInBounds_toArray, List.set_cons_zero, List.set_cons_succ])
            refine wpAnyH_done (by kernel_rfl) ?_ _
            go_wp2
            go_roundw
            case rel => exact ⟨j + 1, by first | rfl | simp, by omega, HE2, k3⟩
            case measure => simp [intOf]; omega
          · rw [decide_eq_false hlt, Bool.false_or] at E
            have hd2 : decide (nn ≤ (j : Int)) = true := decide_eq_true (by omega)
            by_cases hz : x = 0
            · replace HE2 := HE2 (by rw [E, decide_eq_true hz])
              have hd3 : (x != 0) = false := by rw [hz]; rfl
              clear hz
              clear E hbad
              go_wp2
              refine wp_region_held_drew (S := fun V => V.cell? ⟨b, 0, none⟩ = some (.int .i64 n) ∧ V.cell? ⟨b, 1 + j, none⟩ = some (.int .i64 x)) (by kernel_rfl) ?_ (fun hHeld => ?_)
              case _ => exact ⟨c0, cA⟩
              replace B' := B'.drew
              replace K' := K'.drew
              replace k3 := k3.drew
              refine wpAnyH_take (i := 0) (oi := ?oo67) (v := ?vv67) ?hi67 (by kernel_rfl) ?hf67 (by kernel_rfl) ?hq67 ?hy67 (by assumption) ?rest67
              case hi67 => (simp only [List.getElem?_toArray, List.getElem?_cons_zero] <;> exact rfl)
              case hf67 => kernel_rfl
              case hq67 => exact fun _ _ _ h => h
              case hy67 => exact Or.inl ⟨by rfl, by intro w hSw; (try dsimp only at hSw); go_simp; try with_reducible rfl⟩
              (try simp only [Act.put, List.setIfInBounds_toArray, List.set_cons_zero, List.set_cons_succ])
              refine wpAnyH_take (i := 1) (oi := ?oo68) (v := ?vv68) ?hi68 (by kernel_rfl) ?hf68 (by kernel_rfl) ?hq68 ?hy68 (by assumption) ?rest68
              case hi68 => (simp only [List.getElem?_toArray, List.getElem?_cons_zero, List.getElem?_cons_succ] <;> exact rfl)
              case hf68 => kernel_rfl
              case hq68 => exact fun _ _ _ h => h
              case hy68 => exact Or.inl ⟨by rfl, by intro w hSw; (try dsimp only at hSw); go_simp; try with_reducible rfl⟩
              (try simp only [Act.put, List.setIfInBounds_toArray, List.set_cons_zero, List.set_cons_succ])
              refine wpAnyH_take (i := 2) (oi := ?oo69) (v := ?vv69) ?hi69 (by kernel_rfl) ?hf69 (by kernel_rfl) ?hq69 ?hy69 (by assumption) ?rest69
              case hi69 => (simp only [List.getElem?_toArray, List.getElem?_cons_zero, List.getElem?_cons_succ] <;> exact rfl)
              case hf69 => kernel_rfl
              case hq69 => exact fun _ _ _ h => h
              case hy69 => exact Or.inl ⟨by rfl, by intro w hSw; (try dsimp only at hSw); go_simp; try with_reducible rfl⟩
              (try simp only [Act.put, List.setIfInBounds_toArray, List.set_cons_zero, List.set_cons_succ])
              refine wpAnyH_take (i := 3) (oi := ?oo70) (v := ?vv70) ?hi70 (by kernel_rfl) ?hf70 (by kernel_rfl) ?hq70 ?hy70 (by assumption) ?rest70
              case hi70 => (simp only [List.getElem?_toArray, List.getElem?_cons_zero, List.getElem?_cons_succ] <;> exact rfl)
              case hf70 => kernel_rfl
              case hq70 => exact fun _ _ _ h => h
              case hy70 => exact Or.inl ⟨by rfl, by intro w hSw; (try dsimp only at hSw); go_simp; try with_reducible rfl⟩
              (try simp only [Act.put, List.setIfInBounds_toArray, List.set_cons_zero, List.set_cons_succ])
              refine wpAnyH_take (i := 4) (oi := ?oo71) (v := ?vv71) ?hi71 (by kernel_rfl) ?hf71 (by kernel_rfl) ?hq71 ?hy71 (by assumption) ?rest71
              case hi71 => (simp only [List.getElem?_toArray, List.getElem?_cons_zero, List.getElem?_cons_succ] <;> exact rfl)
              case hf71 => kernel_rfl
              case hq71 => exact fun _ _ _ h => h
              case hy71 => exact Or.inl ⟨by rfl, by intro w hSw; (try dsimp only at hSw); go_simp; try with_reducible rfl⟩
              (try simp only [Act.put, List.setIfInBounds_toArray, List.set_cons_zero, List.set_cons_succ])
              refine wpAnyH_take (i := 5) (oi := ?oo72) (v := ?vv72) ?hi72 (by kernel_rfl) ?hf72 (by kernel_rfl) ?hq72 ?hy72 (by assumption) ?rest72
              case hi72 => (simp only [List.getElem?_toArray, List.getElem?_cons_zero, List.getElem?_cons_succ] <;> exact rfl)
              case hf72 => kernel_rfl
              case hq72 => exact fun _ _ _ h => h
              case hy72 => exact Or.inl ⟨by rfl, by intro w hSw; (try dsimp only at hSw); go_simp; try with_reducible rfl⟩
              (try simp only [Act.put, List.setIfInBounds_toArray, List.set_cons_zero, List.set_cons_succ])
              refine wpAnyH_take (i := 6) (oi := ?oo73) (v := ?vv73) ?hi73 (by kernel_rfl) ?hf73 (by kernel_rfl) ?hq73 ?hy73 (by assumption) ?rest73
              case hi73 => (simp only [List.getElem?_toArray, List.getElem?_cons_zero, List.getElem?_cons_succ] <;> exact rfl)
              case hf73 => kernel_rfl
              case hq73 => exact fun _ _ _ h => h
              case hy73 => exact Or.inl ⟨by rfl, by intro w hSw; (try dsimp only at hSw); go_simp; try with_reducible rfl⟩
              (try simp only [Act.put, List.setIfInBounds_toArray, List.set_cons_zero, List.set_cons_succ])
              refine wpAnyH_take (i := 7) (oi := ?oo74) (v := ?vv74) ?hi74 (by kernel_rfl) ?hf74 (by kernel_rfl) ?hq74 ?hy74 (by assumption) ?rest74
              case hi74 => (simp only [List.getElem?_toArray, List.getElem?_cons_zero, List.getElem?_cons_succ] <;> exact rfl)
              case hf74 => kernel_rfl
              case hq74 => exact fun _ _ _ h => h
              case hy74 => exact Or.inl ⟨by rfl, by intro w hSw; (try dsimp only at hSw); go_simp; try with_reducible rfl⟩
              (try simp only [Act.put, List.setIfInBounds_toArray, List.set_cons_zero, List.set_cons_succ])
              refine wpAnyH_take (i := 8) (oi := ?oo75) (v := ?vv75) ?hi75 (by kernel_rfl) ?hf75 (by kernel_rfl) ?hq75 ?hy75 (by assumption) ?rest75
              case hi75 => (simp only [List.getElem?_toArray, List.getElem?_cons_zero, List.getElem?_cons_succ] <;> exact rfl)
              case hf75 => kernel_rfl
              case hq75 => exact fun _ _ _ h => h
              case hy75 => exact Or.inl ⟨by rfl, by intro w hSw; (try dsimp only at hSw); go_simp; try with_reducible rfl⟩
              (try simp only [Act.put, List.setIfInBounds_toArray, List.set_cons_zero, List.set_cons_succ])
              refine wpAnyH_take (i := 9) (oi := ?oo76) (v := ?vv76) ?hi76 (by kernel_rfl) ?hf76 (by kernel_rfl) ?hq76 ?hy76 (by assumption) ?rest76
              case hi76 => (simp only [List.getElem?_toArray, List.getElem?_cons_zero, List.getElem?_cons_succ] <;> exact rfl)
              case hf76 => kernel_rfl
              case hq76 => exact fun _ _ _ h => h
              case hy76 => exact Or.inl ⟨by rfl, by intro w hSw; (try dsimp only at hSw); go_simp; try with_reducible rfl⟩
              (try simp only [Act.put, List.setIfInBounds_toArray, List.set_cons_zero, List.set_cons_succ])
              refine wpAnyH_take (i := 10) (oi := ?oo77) (v := ?vv77) ?hi77 (by kernel_rfl) ?hf77 (by kernel_rfl) ?hq77 ?hy77 (by assumption) ?rest77
              case hi77 => (simp only [List.getElem?_toArray, List.getElem?_cons_zero, List.getElem?_cons_succ] <;> exact rfl)
              case hf77 => kernel_rfl
              case hq77 => exact fun _ _ _ h => h
              case hy77 => exact Or.inl ⟨by rfl, by intro w hSw; (try dsimp only at hSw); go_simp; try with_reducible rfl⟩
              (try simp only [Act.put, List.setIfInBounds_toArray, List.set_cons_zero, List.set_cons_succ])
              refine wpAnyH_take (i := 12) (oi := ?oo78) (v := ?vv78) ?hi78 (by kernel_rfl) ?hf78 (by kernel_rfl) ?hq78 ?hy78 (by assumption) ?rest78
              case hi78 => (simp only [List.getElem?_toArray, List.getElem?_cons_zero, List.getElem?_cons_succ] <;> exact rfl)
              case hf78 => kernel_rfl
              case hq78 => exact fun _ _ _ h => h
              case hy78 => exact Or.inl ⟨by rfl, by intro w hSw; (try dsimp only at hSw); go_simp; try with_reducible rfl⟩
              (try simp only [Act.put, List.setIfInBounds_toArray, List.set_cons_zero, List.set_cons_succ])
              refine wpAnyH_take (i := 13) (oi := ?oo79) (v := ?vv79) ?hi79 (by kernel_rfl) ?hf79 (by kernel_rfl) ?hq79 ?hy79 (by assumption) ?rest79
              case hi79 => (simp only [List.getElem?_toArray, List.getElem?_cons_zero, List.getElem?_cons_succ] <;> exact rfl)
              case hf79 => kernel_rfl
              case hq79 => exact fun _ _ _ h => h
              case hy79 => exact Or.inl ⟨by rfl, by intro w hSw; (try dsimp only at hSw); go_simp; try with_reducible rfl⟩
              (try simp only [Act.put, List.setIfInBounds_toArray, List.set_cons_zero, List.set_cons_succ])
              refine wpAnyH_ready (rs := [11]) (by kernel_rfl) (by simp) ?_
              refine AllReadyH.cons (o := ?oo80) ?hi80 (fun K hK => ?st80) ?more80
              case hi80 => (simp only [List.getElem?_toArray, List.getElem?_cons_zero, List.getElem?_cons_succ] <;> exact rfl)
              case more80 => exact AllReadyH.nil
              go_simp
              go_at_call 21
              refine Calls.mono (widths_ok _) ?_
              rintro e w4 ⟨g, rfl, G, -, kk⟩
              have cg := (G.cell (j + 1)).trans hw.out
              replace B' := B'.chg kk (by simp)
              replace K' := K'.trans kk (by simp)
              replace k3 := k3.trans kk (by simp)
              clear kk G
              refine hK.out _ _ ?hS80 (fun hHeld => ?rest80)
              case hS80 => exact ⟨(B'.cell 0).trans hZ.out, (B'.cell (1 + j)).trans cX.out⟩
              clear hK K
              (try simp only [Act.put, List.setIfInBounds_toArray, List.set_cons_zero, List.set_cons_succ])
              refine wpAnyH_take (i := 14) (oi := ?oo81) (v := ?vv81) ?hi81 (by kernel_rfl) ?hf81 (by kernel_rfl) ?hq81 ?hy81 (by assumption) ?rest81
              case hi81 => (simp only [List.getElem?_toArray, List.getElem?_cons_zero, List.getElem?_cons_succ] <;> exact rfl)
              case hf81 => kernel_rfl
              case hq81 => exact fun _ _ _ h => h
              case hy81 => exact Or.inl ⟨by rfl, by intro w hSw; (try dsimp only at hSw); go_simp; try with_reducible rfl⟩
              (try simp only [Act.put, List.setIfInBounds_toArray, List.set_cons_zero, List.set_cons_succ])
              refine wpAnyH_ready (rs := [15]) (by kernel_rfl) (by simp) ?_
              refine AllReadyH.cons (o := ?oo82) ?hi82 (fun K hK => ?st82) ?more82
              case hi82 => (simp only [List.getElem?_toArray, List.getElem?_cons_zero, List.getElem?_cons_succ] <;> exact rfl)
              case more82 => exact AllReadyH.nil
              go_simp
              refine hK.out _ _ ?hS82 (fun hHeld => ?rest82)
              case hS82 => exact ⟨(B'.cell 0).trans hZ.out, (B'.cell (1 + j)).trans cX.out⟩
              clear hK K
              (try simp only [Act.put, List.setIfInBounds_toArray, List.set_cons_zero, List.set_cons_succ])
              refine wpAnyH_ready (rs := [16]) (by kernel_rfl) (by simp) ?_
              refine AllReadyH.cons (o := ?oo83) ?hi83 (fun K hK => ?st83) ?more83
              case hi83 => (simp only [List.getElem?_toArray, List.getElem?_cons_zero, List.getElem?_cons_succ] <;> exact rfl)
              case more83 => exact AllReadyH.nil
              go_simp
              go_at_call 28
              refine Calls.mono (Ref01.fits_ok _ _ (by omega) (by omega) _) ?_
              rintro e w5 ⟨rfl, rfl⟩
              rw [HT.out]
              refine hK.out _ _ ?hS83 (fun hHeld => ?rest83)
              case hS83 => exact ⟨(B'.cell 0).trans hZ.out, (B'.cell (1 + j)).trans cX.out⟩
              clear hK K
              (try simp only [Act.put, List.setIfInBounds_toArray, List.set_cons_zero, List.set_cons_succ])
              refine wpAnyH_take (i := 17) (oi := ?oo84) (v := ?vv84) ?hi84 (by kernel_rfl) ?hf84 (by kernel_rfl) ?hq84 ?hy84 (by assumption) ?rest84
              case hi84 => (simp only [List.getElem?_toArray, List.getElem?_cons_zero, List.getElem?_cons_succ] <;> exact rfl)
              case hf84 => kernel_rfl
              case hq84 => exact fun _ _ _ h => h
              case hy84 => exact Or.inl ⟨by rfl, by intro w hSw; (try dsimp only at hSw); go_simp; try with_reducible rfl⟩
              (try simp only [Act.put, List.setIfInBounds_toArray, List.set_cons_zero, List.set_cons_succ])
              refine wpAnyH_take (i := 18) (oi := ?oo85) (v := ?vv85) ?hi85 (by kernel_rfl) ?hf85 (by kernel_rfl) ?hq85 ?hy85 (by assumption) ?rest85
              case hi85 => (simp only [List.getElem?_toArray, List.getElem?_cons_zero, List.getElem?_cons_succ] <;> exact rfl)
              case hf85 => kernel_rfl
              case hq85 => exact fun _ _ _ h => h
              case hy85 => exact Or.inl ⟨by rfl, by intro w hSw; (try dsimp only at hSw); go_simp; try with_reducible rfl⟩
              (try simp only [Act.put, List.setIfInBounds_toArray, List.set_cons_zero, List.set_cons_succ])
              refine wpAnyH_take (i := 19) (oi := ?oo86) (v := ?vv86) ?hi86 (by kernel_rfl) ?hf86 (by kernel_rfl) ?hq86 ?hy86 (by assumption) ?rest86
              case hi86 => (simp only [List.getElem?_toArray, List.getElem?_cons_zero, List.getElem?_cons_succ] <;> exact rfl)
              case hf86 => kernel_rfl
              case hq86 => exact fun _ _ _ h => h
              case hy86 => exact Or.inl ⟨by rfl, by intro w hSw; (try dsimp only at hSw); go_simp; try with_reducible rfl⟩
              (try simp only [Act.put, List.setIfInBounds_toArray, List.set_cons_zero, List.set_cons_succ])
              refine wpAnyH_take (i := 20) (oi := ?oo87) (v := ?vv87) ?hi87 (by kernel_rfl) ?hf87 (by kernel_rfl) ?hq87 ?hy87 (by assumption) ?rest87
              case hi87 => (simp only [List.getElem?_toArray, List.getElem?_cons_zero, List.getElem?_cons_succ] <;> exact rfl)
              case hf87 => kernel_rfl
              case hq87 => exact fun _ _ _ h => h
              case hy87 => exact Or.inl ⟨by rfl, by intro w hSw; (try dsimp only at hSw); go_simp; try with_reducible rfl⟩
              (try simp only [Act.put, List.setIfInBounds_toArray, List.set_cons_zero, List.set_cons_succ])
              refine wpAnyH_take (i := 21) (oi := ?oo88) (v := ?vv88) ?hi88 (by kernel_rfl) ?hf88 (by kernel_rfl) ?hq88 ?hy88 (by assumption) ?rest88
              case hi88 => (simp only [List.getElem?_toArray, List.getElem?_cons_zero, List.getElem?_cons_succ] <;> exact rfl)
              case hf88 => kernel_rfl
              case hq88 => exact fun _ _ _ h => h
              case hy88 => exact Or.inl ⟨by rfl, by intro w hSw; (try dsimp only at hSw); go_simp; try with_reducible rfl⟩
              (try simp only [Act.put, List.setIfInBounds_toArray, List.set_cons_zero, List.set_cons_succ])
              refine wpAnyH_take (i := 22) (oi := ?oo89) (v := ?vv89) ?hi89 (by kernel_rfl) ?hf89 (by kernel_rfl) ?hq89 ?hy89 (by assumption) ?rest89
              case hi89 => (simp only [List.getElem?_toArray, List.getElem?_cons_zero, List.getElem?_cons_succ] <;> exact rfl)
              case hf89 => kernel_rfl
              case hq89 => exact fun _ _ _ h => h
              case hy89 => exact Or.inl ⟨by rfl, by intro w hSw; (try dsimp only at hSw); go_simp; try with_reducible rfl⟩
              (try simp only [Act.put, List.setIfInBounds_toArray, List.set_cons_zero, List.set_cons_succ])
              refine wpAnyH_ready (rs := [23]) (by kernel_rfl) (by simp) ?_
              refine AllReadyH.cons (o := ?oo90) ?hi90 (fun K hK => ?st90) ?more90
              case hi90 => (simp only [List.getElem?_toArray, List.getElem?_cons_zero, List.getElem?_cons_succ] <;> exact rfl)
              case more90 => exact AllReadyH.nil
              go_simp
              go_at_call 13
              refine Calls.mono (HN'.out _) ?_
              rintro e w6 ⟨rfl, kk⟩
              replace B' := B'.chg kk (by simp)
              replace K' := K'.trans kk (by simp)
              replace k3 := k3.trans kk (by simp)
              clear kk
              refine hK.out _ _ ?hS90 (fun hHeld => ?rest90)
              case hS90 => exact ⟨(B'.cell 0).trans hZ.out, (B'.cell (1 + j)).trans cX.out⟩
              clear hK K
              (try simp only [Act.put, List.setIfInBounds_toArray, List.set_cons_zero, List.set_cons_succ])
              refine wpAnyH_take (i := 24) (oi := ?oo91) (v := ?vv91) ?hi91 (by kernel_rfl) ?hf91 (by kernel_rfl) ?hq91 ?hy91 (by assumption) ?rest91
              case hi91 => (simp only [List.getElem?_toArray, List.getElem?_cons_zero, List.getElem?_cons_succ] <;> exact rfl)
              case hf91 => kernel_rfl
              case hq91 => exact fun _ _ _ h => h
              case hy91 => exact Or.inl ⟨by rfl, by intro w hSw; (try dsimp only at hSw); go_simp; try with_reducible rfl⟩
              (try simp only [Act.put, List.setIfInBounds_toArray, List.set_cons_zero, List.set_cons_succ])
              refine wpAnyH_take (i := 25) (oi := ?oo92) (v := ?vv92) ?hi92 (by kernel_rfl) ?hf92 (by kernel_rfl) ?hq92 ?hy92 (by assumption) ?rest92
              case hi92 => (simp only [List.getElem?_toArray, List.getElem?_cons_zero, List.getElem?_cons_succ] <;> exact rfl)
              case hf92 => kernel_rfl
              case hq92 => exact fun _ _ _ h => h
              case hy92 => exact Or.inl ⟨by rfl, by intro w hSw; (try dsimp only at hSw); go_simp; try with_reducible rfl⟩
              (try simp only [Act.put, List.setIfInBounds_toArray, List.set_cons_zero, List.set_cons_succ])
              refine wpAnyH_take (i := 26) (oi := ?oo93) (v := ?vv93) ?hi93 (by kernel_rfl) ?hf93 (by kernel_rfl) ?hq93 ?hy93 (by assumption) ?rest93
              case hi93 => (simp only [List.getElem?_toArray, List.getElem?_cons_zero, List.getElem?_cons_succ] <;> exact rfl)
              case hf93 => kernel_rfl
              case hq93 => exact fun _ _ _ h => h
              case hy93 => exact Or.inl ⟨by rfl, by intro w hSw; (try dsimp only at hSw); go_simp; try with_reducible rfl⟩
              (try simp only [Act.put, List.setIfInBounds_toArray, List.set_cons_zero, List.set_cons_succ])
              refine wpAnyH_take (i := 27) (oi := ?oo94) (v := ?vv94) ?hi94 (by kernel_rfl) ?hf94 (by kernel_rfl) ?hq94 ?hy94 (by assumption) ?rest94
              case hi94 => (simp only [List.getElem?_toArray, List.getElem?_cons_zero, List.getElem?_cons_succ] <;> exact rfl)
              case hf94 => kernel_rfl
              case hq94 => exact fun _ _ _ h => h
              case hy94 => exact Or.inl ⟨by rfl, by intro w hSw; (try dsimp only at hSw); go_simp; try with_reducible rfl⟩
              (try simp only [Act.put, List.setIfInBounds_toArray, List.set_cons_zero, List.set_cons_succ])
              refine wpAnyH_take (i := 28) (oi := ?oo95) (v := ?vv95) ?hi95 (by kernel_rfl) ?hf95 (by kernel_rfl) ?hq95 ?hy95 (by assumption) ?rest95
              case hi95 => (simp only [List.getElem?_toArray, List.getElem?_cons_zero, List.getElem?_cons_succ] <;> exact rfl)
              case hf95 => kernel_rfl
              case hq95 => exact fun _ _ _ h => h
              case hy95 => exact Or.inl ⟨by rfl, by intro w hSw; (try dsimp only at hSw); go_simp; try with_reducible rfl⟩
              (try simp only [Act.put, List.setIfInBounds_toArray, List.set_cons_zero, List.set_cons_succ])
              refine wpAnyH_take (i := 29) (oi := ?oo96) (v := ?vv96) ?hi96 (by kernel_rfl) ?hf96 (by kernel_rfl) ?hq96 ?hy96 (by assumption) ?rest96
              case hi96 => (simp only [List.getElem?_toArray, List.getElem?_cons_zero, List.getElem?_cons_succ] <;> exact rfl)
              case hf96 => kernel_rfl
              case hq96 => exact fun _ _ _ h => h
              case hy96 => exact Or.inl ⟨by rfl, by intro w hSw; (try dsimp only at hSw); go_simp; try with_reducible rfl⟩
              (try simp only [Act.put, List.setIfInBounds_toArray, List.set_cons_zero, List.set_cons_succ])
              refine wpAnyH_take (i := 30) (oi := ?oo97) (v := ?vv97) ?hi97 (by kernel_rfl) ?hf97 (by kernel_rfl) ?hq97 ?hy97 (by assumption) ?rest97
              case hi97 => (simp only [List.getElem?_toArray, List.getElem?_cons_zero, List.getElem?_cons_succ] <;> exact rfl)
              case hf97 => kernel_rfl
              case hq97 => exact fun _ _ _ h => h
              case hy97 => exact Or.inl ⟨by rfl, by intro w hSw; (try dsimp only at hSw); go_simp; try with_reducible rfl⟩
              (try simp only [Act.put, List.setIfInBounds_toArray, List.set_cons_zero, List.set_cons_succ])
              refine wpAnyH_take (i := 31) (oi := ?oo98) (v := ?vv98) ?hi98 (by kernel_rfl) ?hf98 (by kernel_rfl) ?hq98 ?hy98 (by assumption) ?rest98
              case hi98 => (simp only [List.getElem?_toArray, List.getElem?_cons_zero, List.getElem?_cons_succ] <;> exact rfl)
              case hf98 => kernel_rfl
              case hq98 => exact fun _ _ _ h => h
              case hy98 => exact Or.inl ⟨by rfl, by intro w hSw; (try dsimp only at hSw); go_simp; try with_reducible rfl⟩
              (try simp only [Act.put, List.setIfInBounds_toArray, List.set_cons_zero, List.set_cons_succ])
              refine wpAnyH_take (i := 32) (oi := ?oo99) (v := ?vv99) ?hi99 (by kernel_rfl) ?hf99 (by kernel_rfl) ?hq99 ?hy99 (by assumption) ?rest99
              case hi99 => (simp only [List.getElem?_toArray, List.getElem?_cons_zero, List.getElem?_cons_succ] <;> exact rfl)
              case hf99 => kernel_rfl
              case hq99 => exact fun _ _ _ h => h
              case hy99 => exact Or.inl ⟨by rfl, by intro w hSw; (try dsimp only at hSw); go_simp; try with_reducible rfl⟩
              (try simp only [Act.put, List.setIfInBounds_toArray, List.set_cons_zero, List.set_cons_succ])
              refine wpAnyH_done (by kernel_rfl) ?_ _
              go_wp2
              go_roundw
              case rel => exact ⟨j + 1, by first | rfl | simp, by omega, HE2, k3⟩
              case measure => simp [intOf]; omega
            · have hR := hbad (by rw [E, decide_eq_false hz])
              subst hR
              clear E hbad HE2
              go_wp2
              refine wp_region_held_drew (S := fun V => V.cell? ⟨b, 0, none⟩ = some (.int .i64 n) ∧ V.cell? ⟨b, 1 + j, none⟩ = some (.int .i64 x)) (by kernel_rfl) ?_ (fun hHeld => ?_)
              case _ => exact ⟨c0, cA⟩
              replace B' := B'.drew
              replace K' := K'.drew
              replace k3 := k3.drew
              refine wpAnyH_take (i := 0) (oi := ?oo100) (v := ?vv100) ?hi100 (by kernel_rfl) ?hf100 (by kernel_rfl) ?hq100 ?hy100 (by assumption) ?rest100
              case hi100 => (simp only [List.getElem?_toArray, List.getElem?_cons_zero] <;> exact rfl)
              case hf100 => kernel_rfl
              case hq100 => exact fun _ _ _ h => h
              case hy100 => exact Or.inl ⟨by rfl, by intro w hSw; (try dsimp only at hSw); go_simp; try with_reducible rfl⟩
              (try simp only [Act.put, List.setIfInBounds_toArray, List.set_cons_zero, List.set_cons_succ])
              refine wpAnyH_take (i := 1) (oi := ?oo101) (v := ?vv101) ?hi101 (by kernel_rfl) ?hf101 (by kernel_rfl) ?hq101 ?hy101 (by assumption) ?rest101
              case hi101 => (simp only [List.getElem?_toArray, List.getElem?_cons_zero, List.getElem?_cons_succ] <;> exact rfl)
              case hf101 => kernel_rfl
              case hq101 => exact fun _ _ _ h => h
              case hy101 => exact Or.inl ⟨by rfl, by intro w hSw; (try dsimp only at hSw); go_simp; try with_reducible rfl⟩
              (try simp only [Act.put, List.setIfInBounds_toArray, List.set_cons_zero, List.set_cons_succ])
              refine wpAnyH_take (i := 2) (oi := ?oo102) (v := ?vv102) ?hi102 (by kernel_rfl) ?hf102 (by kernel_rfl) ?hq102 ?hy102 (by assumption) ?rest102
              case hi102 => (simp only [List.getElem?_toArray, List.getElem?_cons_zero, List.getElem?_cons_succ] <;> exact rfl)
              case hf102 => kernel_rfl
              case hq102 => exact fun _ _ _ h => h
              case hy102 => exact Or.inl ⟨by rfl, by intro w hSw; (try dsimp only at hSw); go_simp; try with_reducible rfl⟩
              (try simp only [Act.put, List.setIfInBounds_toArray, List.set_cons_zero, List.set_cons_succ])
              refine wpAnyH_take (i := 3) (oi := ?oo103) (v := ?vv103) ?hi103 (by kernel_rfl) ?hf103 (by kernel_rfl) ?hq103 ?hy103 (by assumption) ?rest103
              case hi103 => (simp only [List.getElem?_toArray, List.getElem?_cons_zero, List.getElem?_cons_succ] <;> exact rfl)
              case hf103 => kernel_rfl
              case hq103 => exact fun _ _ _ h => h
              case hy103 => exact Or.inl ⟨by rfl, by intro w hSw; (try dsimp only at hSw); go_simp; try with_reducible rfl⟩
              (try simp only [Act.put, List.setIfInBounds_toArray, List.set_cons_zero, List.set_cons_succ])
              refine wpAnyH_take (i := 4) (oi := ?oo104) (v := ?vv104) ?hi104 (by kernel_rfl) ?hf104 (by kernel_rfl) ?hq104 ?hy104 (by assumption) ?rest104
              case hi104 => (simp only [List.getElem?_toArray, List.getElem?_cons_zero, List.getElem?_cons_succ] <;> exact rfl)
              case hf104 => kernel_rfl
              case hq104 => exact fun _ _ _ h => h
              case hy104 => exact Or.inl ⟨by rfl, by intro w hSw; (try dsimp only at hSw); go_simp; try with_reducible rfl⟩
              (try simp only [Act.put, List.setIfInBounds_toArray, List.set_cons_zero, List.set_cons_succ])
              refine wpAnyH_take (i := 5) (oi := ?oo105) (v := ?vv105) ?hi105 (by kernel_rfl) ?hf105 (by kernel_rfl) ?hq105 ?hy105 (by assumption) ?rest105
              case hi105 => (simp only [List.getElem?_toArray, List.getElem?_cons_zero, List.getElem?_cons_succ] <;> exact rfl)
              case hf105 => kernel_rfl
              case hq105 => exact fun _ _ _ h => h
              case hy105 => exact Or.inl ⟨by rfl, by intro w hSw; (try dsimp only at hSw); go_simp; try with_reducible rfl⟩
              (try simp only [Act.put, List.setIfInBounds_toArray, List.set_cons_zero, List.set_cons_succ])
              refine wpAnyH_take (i := 6) (oi := ?oo106) (v := ?vv106) ?hi106 (by kernel_rfl) ?hf106 (by kernel_rfl) ?hq106 ?hy106 (by assumption) ?rest106
              case hi106 => (simp only [List.getElem?_toArray, List.getElem?_cons_zero, List.getElem?_cons_succ] <;> exact rfl)
              case hf106 => kernel_rfl
              case hq106 => exact fun _ _ _ h => h
              case hy106 => exact Or.inl ⟨by rfl, by intro w hSw; (try dsimp only at hSw); go_simp; try with_reducible rfl⟩
              (try simp only [Act.put, List.setIfInBounds_toArray, List.set_cons_zero, List.set_cons_succ])
              refine wpAnyH_take (i := 7) (oi := ?oo107) (v := ?vv107) ?hi107 (by kernel_rfl) ?hf107 (by kernel_rfl) ?hq107 ?hy107 (by assumption) ?rest107
              case hi107 => (simp only [List.getElem?_toArray, List.getElem?_cons_zero, List.getElem?_cons_succ] <;> exact rfl)
              case hf107 => kernel_rfl
              case hq107 => exact fun _ _ _ h => h
              case hy107 => exact Or.inl ⟨by rfl, by intro w hSw; (try dsimp only at hSw); go_simp; try with_reducible rfl⟩
              (try simp only [Act.put, List.setIfInBounds_toArray, List.set_cons_zero, List.set_cons_succ])
              refine wpAnyH_take (i := 8) (oi := ?oo108) (v := ?vv108) ?hi108 (by kernel_rfl) ?hf108 (by kernel_rfl) ?hq108 ?hy108 (by assumption) ?rest108
              case hi108 => (simp only [List.getElem?_toArray, List.getElem?_cons_zero, List.getElem?_cons_succ] <;> exact rfl)
              case hf108 => kernel_rfl
              case hq108 => exact fun _ _ _ h => h
              case hy108 => exact Or.inl ⟨by rfl, by intro w hSw; (try dsimp only at hSw); go_simp; try with_reducible rfl⟩
              (try simp only [Act.put, List.setIfInBounds_toArray, List.set_cons_zero, List.set_cons_succ])
              refine wpAnyH_take (i := 9) (oi := ?oo109) (v := ?vv109) ?hi109 (by kernel_rfl) ?hf109 (by kernel_rfl) ?hq109 ?hy109 (by assumption) ?rest109
              case hi109 => (simp only [List.getElem?_toArray, List.getElem?_cons_zero, List.getElem?_cons_succ] <;> exact rfl)
              case hf109 => kernel_rfl
              case hq109 => exact fun _ _ _ h => h
              case hy109 => exact Or.inl ⟨by rfl, by intro w hSw; (try dsimp only at hSw); go_simp; try with_reducible rfl⟩
              (try simp only [Act.put, List.setIfInBounds_toArray, List.set_cons_zero, List.set_cons_succ])
              refine wpAnyH_take (i := 10) (oi := ?oo110) (v := ?vv110) ?hi110 (by kernel_rfl) ?hf110 (by kernel_rfl) ?hq110 ?hy110 (by assumption) ?rest110
              case hi110 => (simp only [List.getElem?_toArray, List.getElem?_cons_zero, List.getElem?_cons_succ] <;> exact rfl)
              case hf110 => kernel_rfl
              case hq110 => exact fun _ _ _ h => h
              case hy110 => exact Or.inl ⟨by rfl, by intro w hSw; (try dsimp only at hSw); go_simp; try with_reducible rfl⟩
              (try simp only [Act.put, List.setIfInBounds_toArray, List.set_cons_zero, List.set_cons_succ])
              refine wpAnyH_take (i := 12) (oi := ?oo111) (v := ?vv111) ?hi111 (by kernel_rfl) ?hf111 (by kernel_rfl) ?hq111 ?hy111 (by assumption) ?rest111
              case hi111 => (simp only [List.getElem?_toArray, List.getElem?_cons_zero, List.getElem?_cons_succ] <;> exact rfl)
              case hf111 => kernel_rfl
              case hq111 => exact fun _ _ _ h => h
              case hy111 => exact Or.inl ⟨by rfl, by intro w hSw; (try dsimp only at hSw); go_simp; try with_reducible rfl⟩
              (try simp only [Act.put, List.setIfInBounds_toArray, List.set_cons_zero, List.set_cons_succ])
              refine wpAnyH_take (i := 13) (oi := ?oo112) (v := ?vv112) ?hi112 (by kernel_rfl) ?hf112 (by kernel_rfl) ?hq112 ?hy112 (by assumption) ?rest112
              case hi112 => (simp only [List.getElem?_toArray, List.getElem?_cons_zero, List.getElem?_cons_succ] <;> exact rfl)
              case hf112 => kernel_rfl
              case hq112 => exact fun _ _ _ h => h
              case hy112 => exact Or.inl ⟨by rfl, by intro w hSw; (try dsimp only at hSw); go_simp; try with_reducible rfl⟩
              (try simp only [Act.put, List.setIfInBounds_toArray, List.set_cons_zero, List.set_cons_succ])
              refine wpAnyH_ready (rs := [11]) (by kernel_rfl) (by simp) ?_
              refine AllReadyH.cons (o := ?oo113) ?hi113 (fun K hK => ?st113) ?more113
              case hi113 => (simp only [List.getElem?_toArray, List.getElem?_cons_zero, List.getElem?_cons_succ] <;> exact rfl)
              case more113 => exact AllReadyH.nil
              go_simp
              go_at_call 21
              refine Calls.mono (widths_ok _) ?_
              rintro e w4 ⟨g, rfl, G, -, kk⟩
              have cg := (G.cell (j + 1)).trans hw.out
              replace B' := B'.chg kk (by simp)
              replace K' := K'.trans kk (by simp)
              replace k3 := k3.trans kk (by simp)
              clear kk G
              refine hK.out _ _ ?hS113 (fun hHeld => ?rest113)
              case hS113 => exact ⟨(B'.cell 0).trans hZ.out, (B'.cell (1 + j)).trans cX.out⟩
              clear hK K
              (try simp only [Act.put, List.setIfInBounds_toArray, List.set_cons_zero, List.set_cons_succ])
              refine wpAnyH_take (i := 14) (oi := ?oo114) (v := ?vv114) ?hi114 (by kernel_rfl) ?hf114 (by kernel_rfl) ?hq114 ?hy114 (by assumption) ?rest114
              case hi114 => (simp only [List.getElem?_toArray, List.getElem?_cons_zero, List.getElem?_cons_succ] <;> exact rfl)
              case hf114 => kernel_rfl
              case hq114 => exact fun _ _ _ h => h
              case hy114 => exact Or.inl ⟨by rfl, by intro w hSw; (try dsimp only at hSw); go_simp; try with_reducible rfl⟩
              (try simp only [Act.put, List.setIfInBounds_toArray, List.set_cons_zero, List.set_cons_succ])
              refine wpAnyH_ready (rs := [15]) (by kernel_rfl) (by simp) ?_
              refine AllReadyH.cons (o := ?oo115) ?hi115 (fun K hK => ?st115) ?more115
              case hi115 => (simp only [List.getElem?_toArray, List.getElem?_cons_zero, List.getElem?_cons_succ] <;> exact rfl)
              case more115 => exact AllReadyH.nil
              go_simp
              refine hK.out _ _ ?hS115 (fun hHeld => ?rest115)
              case hS115 => exact ⟨(B'.cell 0).trans hZ.out, (B'.cell (1 + j)).trans cX.out⟩
              clear hK K
              (try simp only [Act.put, List.setIfInBounds_toArray, List.set_cons_zero, List.set_cons_succ])
              refine wpAnyH_ready (rs := [16]) (by kernel_rfl) (by simp) ?_
              refine AllReadyH.cons (o := ?oo116) ?hi116 (fun K hK => ?st116) ?more116
              case hi116 => (simp only [List.getElem?_toArray, List.getElem?_cons_zero, List.getElem?_cons_succ] <;> exact rfl)
              case more116 => exact AllReadyH.nil
              go_simp
              go_at_call 28
              refine Calls.mono (Ref01.fits_ok _ _ (by omega) (by omega) _) ?_
              rintro e w5 ⟨rfl, rfl⟩
              rw [HT.out]
              refine hK.out _ _ ?hS116 (fun hHeld => ?rest116)
              case hS116 => exact ⟨(B'.cell 0).trans hZ.out, (B'.cell (1 + j)).trans cX.out⟩
              clear hK K
              (try simp only [Act.put, List.setIfInBounds_toArray, List.set_cons_zero, List.set_cons_succ])
              refine wpAnyH_take (i := 17) (oi := ?oo117) (v := ?vv117) ?hi117 (by kernel_rfl) ?hf117 (by kernel_rfl) ?hq117 ?hy117 (by assumption) ?rest117
              case hi117 => (simp only [List.getElem?_toArray, List.getElem?_cons_zero, List.getElem?_cons_succ] <;> exact rfl)
              case hf117 => kernel_rfl
              case hq117 => exact fun _ _ _ h => h
              case hy117 => exact Or.inl ⟨by rfl, by intro w hSw; (try dsimp only at hSw); go_simp; try with_reducible rfl⟩
              (try simp only [Act.put, List.setIfInBounds_toArray, List.set_cons_zero, List.set_cons_succ])
              refine wpAnyH_take (i := 18) (oi := ?oo118) (v := ?vv118) ?hi118 (by kernel_rfl) ?hf118 (by kernel_rfl) ?hq118 ?hy118 (by assumption) ?rest118
              case hi118 => (simp only [List.getElem?_toArray, List.getElem?_cons_zero, List.getElem?_cons_succ] <;> exact rfl)
              case hf118 => kernel_rfl
              case hq118 => exact fun _ _ _ h => h
              case hy118 => exact Or.inl ⟨by rfl, by intro w hSw; (try dsimp only at hSw); go_simp; try with_reducible rfl⟩
              (try simp only [Act.put, List.setIfInBounds_toArray, List.set_cons_zero, List.set_cons_succ])
              refine wpAnyH_take (i := 19) (oi := ?oo119) (v := ?vv119) ?hi119 (by kernel_rfl) ?hf119 (by kernel_rfl) ?hq119 ?hy119 (by assumption) ?rest119
              case hi119 => (simp only [List.getElem?_toArray, List.getElem?_cons_zero, List.getElem?_cons_succ] <;> exact rfl)
              case hf119 => kernel_rfl
              case hq119 => exact fun _ _ _ h => h
              case hy119 => exact Or.inl ⟨by rfl, by intro w hSw; (try dsimp only at hSw); go_simp; try with_reducible rfl⟩
              (try simp only [Act.put, List.setIfInBounds_toArray, List.set_cons_zero, List.set_cons_succ])
              refine wpAnyH_take (i := 20) (oi := ?oo120) (v := ?vv120) ?hi120 (by kernel_rfl) ?hf120 (by kernel_rfl) ?hq120 ?hy120 (by assumption) ?rest120
              case hi120 => (simp only [List.getElem?_toArray, List.getElem?_cons_zero, List.getElem?_cons_succ] <;> exact rfl)
              case hf120 => kernel_rfl
              case hq120 => exact fun _ _ _ h => h
              case hy120 => exact Or.inl ⟨by rfl, by intro w hSw; (try dsimp only at hSw); go_simp; try with_reducible rfl⟩
              (try simp only [Act.put, List.setIfInBounds_toArray, List.set_cons_zero, List.set_cons_succ])
              refine wpAnyH_take (i := 21) (oi := ?oo121) (v := ?vv121) ?hi121 (by kernel_rfl) ?hf121 (by kernel_rfl) ?hq121 ?hy121 (by assumption) ?rest121
              case hi121 => (simp only [List.getElem?_toArray, List.getElem?_cons_zero, List.getElem?_cons_succ] <;> exact rfl)
              case hf121 => kernel_rfl
              case hq121 => exact fun _ _ _ h => h
              case hy121 => exact Or.inl ⟨by rfl, by intro w hSw; (try dsimp only at hSw); go_simp; try with_reducible rfl⟩
              (try simp only [Act.put, List.setIfInBounds_toArray, List.set_cons_zero, List.set_cons_succ])
              refine wpAnyH_take (i := 22) (oi := ?oo122) (v := ?vv122) ?hi122 (by kernel_rfl) ?hf122 (by kernel_rfl) ?hq122 ?hy122 (by assumption) ?rest122
              case hi122 => (simp only [List.getElem?_toArray, List.getElem?_cons_zero, List.getElem?_cons_succ] <;> exact rfl)
              case hf122 => kernel_rfl
              case hq122 => exact fun _ _ _ h => h
              case hy122 => exact Or.inl ⟨by rfl, by intro w hSw; (try dsimp only at hSw); go_simp; try with_reducible rfl⟩
              (try simp only [Act.put, List.setIfInBounds_toArray, List.set_cons_zero, List.set_cons_succ])
              refine wpAnyH_ready (rs := [23]) (by kernel_rfl) (by simp) ?_
              refine AllReadyH.cons (o := ?oo123) ?hi123 (fun K hK => ?st123) ?more123
              case hi123 => (simp only [List.getElem?_toArray, List.getElem?_cons_zero, List.getElem?_cons_succ] <;> exact rfl)
              case more123 => exact AllReadyH.nil
              go_simp
              go_at_call 13
              refine Calls.mono (HN'.out _) ?_
              rintro e w6 ⟨rfl, kk⟩
              replace B' := B'.chg kk (by simp)
              replace K' := K'.trans kk (by simp)
              replace k3 := k3.trans kk (by simp)
              clear kk
              refine hK.out _ _ ?hS123 (fun hHeld => ?rest123)
              case hS123 => exact ⟨(B'.cell 0).trans hZ.out, (B'.cell (1 + j)).trans cX.out⟩
              clear hK K
              (try simp only [Act.put, List.setIfInBounds_toArray, List.set_cons_zero, List.set_cons_succ])
              refine wpAnyH_take (i := 24) (oi := ?oo124) (v := ?vv124) ?hi124 (by kernel_rfl) ?hf124 (by kernel_rfl) ?hq124 ?hy124 (by assumption) ?rest124
              case hi124 => (simp only [List.getElem?_toArray, List.getElem?_cons_zero, List.getElem?_cons_succ] <;> exact rfl)
              case hf124 => kernel_rfl
              case hq124 => exact fun _ _ _ h => h
              case hy124 => exact Or.inl ⟨by rfl, by intro w hSw; (try dsimp only at hSw); go_simp; try with_reducible rfl⟩
              (try simp only [Act.put, List.setIfInBounds_toArray, List.set_cons_zero, List.set_cons_succ])
              refine wpAnyH_take (i := 25) (oi := ?oo125) (v := ?vv125) ?hi125 (by kernel_rfl) ?hf125 (by kernel_rfl) ?hq125 ?hy125 (by assumption) ?rest125
              case hi125 => (simp only [List.getElem?_toArray, List.getElem?_cons_zero, List.getElem?_cons_succ] <;> exact rfl)
              case hf125 => kernel_rfl
              case hq125 => exact fun _ _ _ h => h
              case hy125 => exact Or.inl ⟨by rfl, by intro w hSw; (try dsimp only at hSw); go_simp; try with_reducible rfl⟩
              (try simp only [Act.put, List.setIfInBounds_toArray, List.set_cons_zero, List.set_cons_succ])
              refine wpAnyH_take (i := 26) (oi := ?oo126) (v := ?vv126) ?hi126 (by kernel_rfl) ?hf126 (by kernel_rfl) ?hq126 ?hy126 (by assumption) ?rest126
              case hi126 => (simp only [List.getElem?_toArray, List.getElem?_cons_zero, List.getElem?_cons_succ] <;> exact rfl)
              case hf126 => kernel_rfl
              case hq126 => exact fun _ _ _ h => h
              case hy126 => exact Or.inl ⟨by rfl, by intro w hSw; (try dsimp only at hSw); go_simp; try with_reducible rfl⟩
              (try simp only [Act.put, List.setIfInBounds_toArray, List.set_cons_zero, List.set_cons_succ])
              refine wpAnyH_take (i := 27) (oi := ?oo127) (v := ?vv127) ?hi127 (by kernel_rfl) ?hf127 (by kernel_rfl) ?hq127 ?hy127 (by assumption) ?rest127
              case hi127 => (simp only [List.getElem?_toArray, List.getElem?_cons_zero, List.getElem?_cons_succ] <;> exact rfl)
              case hf127 => kernel_rfl
              case hq127 => exact fun _ _ _ h => h
              case hy127 => exact Or.inl ⟨by rfl, by intro w hSw; (try dsimp only at hSw); go_simp; try with_reducible rfl⟩
              (try simp only [Act.put, List.setIfInBounds_toArray, List.set_cons_zero, List.set_cons_succ])
              refine wpAnyH_take (i := 28) (oi := ?oo128) (v := ?vv128) ?hi128 (by kernel_rfl) ?hf128 (by kernel_rfl) ?hq128 ?hy128 (by assumption) ?rest128
              case hi128 => (simp only [List.getElem?_toArray, List.getElem?_cons_zero, List.getElem?_cons_succ] <;> exact rfl)
              case hf128 => kernel_rfl
              case hq128 => exact fun _ _ _ h => h
              case hy128 => exact Or.inl ⟨by rfl, by intro w hSw; (try dsimp only at hSw); go_simp; try with_reducible rfl⟩
              (try simp only [Act.put, List.setIfInBounds_toArray, List.set_cons_zero, List.set_cons_succ])
              refine wpAnyH_take (i := 29) (oi := ?oo129) (v := ?vv129) ?hi129 (by kernel_rfl) ?hf129 (by kernel_rfl) ?hq129 ?hy129 (by assumption) ?rest129
              case hi129 => (simp only [List.getElem?_toArray, List.getElem?_cons_zero, List.getElem?_cons_succ] <;> exact rfl)
              case hf129 => kernel_rfl
              case hq129 => exact fun _ _ _ h => h
              case hy129 => exact Or.inl ⟨by rfl, by intro w hSw; (try dsimp only at hSw); go_simp; try with_reducible rfl⟩
              (try simp only [Act.put, List.setIfInBounds_toArray, List.set_cons_zero, List.set_cons_succ])
              refine wpAnyH_take (i := 30) (oi := ?oo130) (v := ?vv130) ?hi130 (by kernel_rfl) ?hf130 (by kernel_rfl) ?hq130 ?hy130 (by assumption) ?rest130
              case hi130 => (simp only [List.getElem?_toArray, List.getElem?_cons_zero, List.getElem?_cons_succ] <;> exact rfl)
              case hf130 => kernel_rfl
              case hq130 => exact fun _ _ _ h => h
              case hy130 => exact Or.inl ⟨by rfl, by intro w hSw; (try dsimp only at hSw); go_simp; try with_reducible rfl⟩
              (try simp only [Act.put, List.setIfInBounds_toArray, List.set_cons_zero, List.set_cons_succ])
              refine wpAnyH_take (i := 31) (oi := ?oo131) (v := ?vv131) ?hi131 (by kernel_rfl) ?hf131 (by kernel_rfl) ?hq131 ?hy131 (by assumption) ?rest131
              case hi131 => (simp only [List.getElem?_toArray, List.getElem?_cons_zero, List.getElem?_cons_succ] <;> exact rfl)
              case hf131 => kernel_rfl
              case hq131 => exact fun _ _ _ h => h
              case hy131 => exact Or.inl ⟨by rfl, by intro w hSw; (try dsimp only at hSw); go_simp; try with_reducible rfl⟩
              (try simp only [Act.put, List.setIfInBounds_toArray, List.set_cons_zero, List.set_cons_succ])
              refine wpAnyH_take (i := 32) (oi := ?oo132) (v := ?vv132) ?hi132 (by kernel_rfl) ?hf132 (by kernel_rfl) ?hq132 ?hy132 (by assumption) ?rest132
              case hi132 => (simp only [List.getElem?_toArray, List.getElem?_cons_zero, List.getElem?_cons_succ] <;> exact rfl)
              case hf132 => kernel_rfl
              case hq132 => exact fun _ _ _ h => h
              case hy132 => exact Or.inl ⟨by rfl, by intro w hSw; (try dsimp only at hSw); go_simp; try with_reducible rfl⟩
              (try simp only [Act.put, List.setIfInBounds_toArray, List.set_cons_zero, List.set_cons_succ])
              refine wpAnyH_done (by kernel_rfl) ?_ _
              go_wp2
              go_ret
              exact ⟨rfl, K'⟩
end Go.Proofs.Ytdconfciacldmaa.Ref24c
