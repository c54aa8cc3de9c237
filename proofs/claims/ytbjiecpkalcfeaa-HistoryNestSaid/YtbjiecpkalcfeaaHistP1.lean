/- Package history: push, onto nothing. -/
import Derived.Test.YtbjiecpkalcfeaaHistF
namespace Go.Proofs.Ytbjiecpkalcfeaa.HistP1
open Go Go.RowKit Go.Proofs.Ytbjiecpkalcfeaa Go.Proofs.Ytbjiecpkalcfeaa.Heap Go.Proofs.Ytbjiecpkalcfeaa.Sl Go.Proofs.Ytbjiecpkalcfeaa.Hist Go.Proofs.Ytbjiecpkalcfeaa.HistF

set_option maxRecDepth 100000 in
set_option maxHeartbeats 4000000 in
theorem push_none {w : World} {q t n : Nat} {cs : Array Value} {v : Value} {xs : List Value} (B : Blk w q 114 cs) (hv : cs[t * 3]? = some v) (hs : Sl w 120 2 v n xs) (hn : n ≤ 5) (h0 : v.ownBlock = none) (a b : Int) :
    Calls Try.prog 63 #[.pointer (some ⟨q, t * 3, none⟩), .agg #[.int .i64 a, .int .i64 b]] w fun e w' => e = .returned (.tuple #[]) ∧ ∃ v', Blk w' q 114 (cs.setIfInBounds (t * 3) v') ∧ Sl w' 120 2 v' (n + 1) (xs ++ [.int .i64 a, .int .i64 b]) ∧ (∀ g, v'.ownBlock = some g → w.heap.size ≤ g) ∧ Chg [q] w w' := by
  obtain ⟨ao, cap, rfl, hnc, hnone, holds⟩ : ∃ ao cap, v = .slice ao n cap ∧ n ≤ cap ∧ (ao = none → n = 0 ∧ cap = 0) ∧ (∀ b, ao = some b → b.block < w.heap.size ∧ ∀ j u, xs[j]? = some u → w.cell? (b.add j) = some u) := by
    rcases hs.2 with ⟨rfl, rfl⟩ | ⟨g, off, cap, cs', rfl, hb, hnc, hsz, hx⟩
    · exact ⟨none, 0, rfl, Nat.le_refl _, (fun _ => ⟨rfl, rfl⟩), (fun b hb => by cases hb)⟩
    · refine ⟨some ⟨g, off, none⟩, cap, rfl, hnc, (fun h => by cases h), fun b hb' => ?_⟩
      obtain rfl := Option.some.inj hb'
      refine ⟨hb.lt, fun j u hj => ?_⟩
      rw [add_plain, hb.cell]
      exact hx j u hj
  have hxl := hs.1
  have hs' := hs
  clear hs
  obtain ⟨d, ed⟩ : ∃ d, w.heap.size = d := ⟨_, rfl⟩
  have D := Blk.new' w 120 #[.int .i64 a, .int .i64 b] ed
  have B1 := B.alloc (.cells #[.int .i64 a, .int .i64 b] 120)
  have K := (Chg.refl [q] w).alloc (.cells #[.int .i64 a, .int .i64 b] 120)
  have hold : ∀ b', ao = some b' → ∀ j u, xs[j]? = some u → (w.alloc (.cells #[.int .i64 a, .int .i64 b] 120)).cell? (b'.add j) = some u := fun b' hb' j u hj => by
    obtain ⟨h1, h2⟩ := holds b' hb'
    rw [World.cell?_alloc_lt _ _ _ (by rw [block_of_add]; exact h1)]
    exact h2 j u hj
  have c0 := (B1.cell (t * 3)).trans hv
  have fz := B1.frozen (t * 3)
  obtain ⟨e0, e1⟩ := blk2 D
  obtain ⟨W1, hW⟩ : ∃ W1, w.alloc (.cells #[.int .i64 a, .int .i64 b] 120) = W1 := ⟨_, rfl⟩
  have hn0 : (0 : Int) ≤ n := by omega
  rw [hW] at B1 K hold c0 fz e0 e1
  have KD := K.drew
  have BD := B1.drew
  cases ao with
  | none =>
    obtain ⟨rfl, rfl⟩ := hnone rfl
    obtain rfl : xs = [] := List.eq_nil_of_length_eq_zero (by omega)
    go_enter Try.func63, Try.ntmps63
    go_wp2_with fail
    try rw [ed]
    obtain ⟨W2, hW2⟩ : ∃ W2, W1.drew = W2 := ⟨_, rfl⟩
    have DX := D
    rw [hW] at DX
    have DD := DX.drew
    rw [hW2] at KD BD DD
    have BA := BD.alloc (.cells #[.int .i64 a, .int .i64 b] 120)
    have DA := DD.alloc (.cells #[.int .i64 a, .int .i64 b] 120)
    have c2 := (BD.cell (t * 3)).trans hv
    have c4 := (BA.cell (t * 3)).trans hv
    have hdq : d ≠ q := Blk.ne_ DD BD (by decide)
    refine wp_region_held_drew (S := fun V => V.cell? ⟨d, 0, none⟩ = some (.int .i64 a) ∧ V.cell? ⟨d, 1, none⟩ = some (.int .i64 b)) (by kernel_rfl) ?_ (fun hHeld => ?_)
    case _ => exact ⟨DX.cell 0, DX.cell 1⟩
    rw [hW2] at hHeld ⊢
    refine wpAnyH_take (i := 0) (oi := ?oo1) (v := ?vv1) ?hi1 (by kernel_rfl) ?hf1 (by kernel_rfl) ?hq1 ?hy1 (by assumption) ?rest1
    case hi1 => (simp only [List.getElem?_toArray, List.getElem?_cons_zero] <;> exact rfl)
    case hf1 => kernel_rfl
    case hq1 => exact fun _ _ _ h => h
    case hy1 => exact Or.inl ⟨by rfl, by intro w hSw; (try dsimp only at hSw); go_simp; try with_reducible rfl⟩
    (try simp only [Act.put, List.setIfInBounds_toArray, List.set_cons_zero, List.set_cons_succ])
    refine wpAnyH_take (i := 1) (oi := ?oo2) (v := ?vv2) ?hi2 (by kernel_rfl) ?hf2 (by kernel_rfl) ?hq2 ?hy2 (by assumption) ?rest2
    case hi2 => (simp only [List.getElem?_toArray, List.getElem?_cons_zero, List.getElem?_cons_succ] <;> exact rfl)
    case hf2 => kernel_rfl
    case hq2 => exact fun _ _ _ h => h
    case hy2 => exact Or.inl ⟨by rfl, by intro w hSw; (try dsimp only at hSw); go_simp; try with_reducible rfl⟩
    (try simp only [Act.put, List.setIfInBounds_toArray, List.set_cons_zero, List.set_cons_succ])
    refine wpAnyH_take (i := 2) (oi := ?oo3) (v := ?vv3) ?hi3 (by kernel_rfl) ?hf3 (by kernel_rfl) ?hq3 ?hy3 (by assumption) ?rest3
    case hi3 => (simp only [List.getElem?_toArray, List.getElem?_cons_zero, List.getElem?_cons_succ] <;> exact rfl)
    case hf3 => kernel_rfl
    case hq3 => exact fun _ _ _ h => h
    case hy3 => exact Or.inl ⟨by rfl, by intro w hSw; (try dsimp only at hSw); go_simp; try with_reducible rfl⟩
    (try simp only [Act.put, List.setIfInBounds_toArray, List.set_cons_zero, List.set_cons_succ])
    refine wpAnyH_take (i := 3) (oi := ?oo4) (v := ?vv4) ?hi4 (by kernel_rfl) ?hf4 (by kernel_rfl) ?hq4 ?hy4 (by assumption) ?rest4
    case hi4 => (simp only [List.getElem?_toArray, List.getElem?_cons_zero, List.getElem?_cons_succ] <;> exact rfl)
    case hf4 => kernel_rfl
    case hq4 => exact fun _ _ _ h => h
    case hy4 => exact Or.inl ⟨by rfl, by intro w hSw; (try dsimp only at hSw); go_simp; try with_reducible rfl⟩
    (try simp only [Act.put, List.setIfInBounds_toArray, List.set_cons_zero, List.set_cons_succ])
    refine wpAnyH_take (i := 5) (oi := ?oo5) (v := ?vv5) ?hi5 (by kernel_rfl) ?hf5 (by kernel_rfl) ?hq5 ?hy5 (by assumption) ?rest5
    case hi5 => (simp only [List.getElem?_toArray, List.getElem?_cons_zero, List.getElem?_cons_succ] <;> exact rfl)
    case hf5 => kernel_rfl
    case hq5 => exact fun _ _ _ h => h
    case hy5 => exact Or.inl ⟨by rfl, by intro w hSw; (try dsimp only at hSw); go_simp; try with_reducible rfl⟩
    (try simp only [Act.put, List.setIfInBounds_toArray, List.set_cons_zero, List.set_cons_succ])
    refine wpAnyH_take (i := 6) (oi := ?oo6) (v := ?vv6) ?hi6 (by kernel_rfl) ?hf6 (by kernel_rfl) ?hq6 ?hy6 (by assumption) ?rest6
    case hi6 => (simp only [List.getElem?_toArray, List.getElem?_cons_zero, List.getElem?_cons_succ] <;> exact rfl)
    case hf6 => kernel_rfl
    case hq6 => exact fun _ _ _ h => h
    case hy6 => exact Or.inl ⟨by rfl, by intro w hSw; (try dsimp only at hSw); go_simp; try with_reducible rfl⟩
    (try simp only [Act.put, List.setIfInBounds_toArray, List.set_cons_zero, List.set_cons_succ])
    refine wpAnyH_take (i := 7) (oi := ?oo7) (v := ?vv7) ?hi7 (by kernel_rfl) ?hf7 (by kernel_rfl) ?hq7 ?hy7 (by assumption) ?rest7
    case hi7 => (simp only [List.getElem?_toArray, List.getElem?_cons_zero, List.getElem?_cons_succ] <;> exact rfl)
    case hf7 => kernel_rfl
    case hq7 => exact fun _ _ _ h => h
    case hy7 => exact Or.inl ⟨by rfl, by intro w hSw; (try dsimp only at hSw); go_simp; try with_reducible rfl⟩
    (try simp only [Act.put, List.setIfInBounds_toArray, List.set_cons_zero, List.set_cons_succ])
    refine wpAnyH_take (i := 10) (oi := ?oo8) (v := ?vv8) ?hi8 (by kernel_rfl) ?hf8 (by kernel_rfl) ?hq8 ?hy8 (by assumption) ?rest8
    case hi8 => (simp only [List.getElem?_toArray, List.getElem?_cons_zero, List.getElem?_cons_succ] <;> exact rfl)
    case hf8 => kernel_rfl
    case hq8 => exact fun _ _ _ h => h
    case hy8 => exact Or.inl ⟨by rfl, by intro w hSw; (try dsimp only at hSw); go_simp; try with_reducible rfl⟩
    (try simp only [Act.put, List.setIfInBounds_toArray, List.set_cons_zero, List.set_cons_succ])
    refine wpAnyH_take (i := 11) (oi := ?oo9) (v := ?vv9) ?hi9 (by kernel_rfl) ?hf9 (by kernel_rfl) ?hq9 ?hy9 (by assumption) ?rest9
    case hi9 => (simp only [List.getElem?_toArray, List.getElem?_cons_zero, List.getElem?_cons_succ] <;> exact rfl)
    case hf9 => kernel_rfl
    case hq9 => exact fun _ _ _ h => h
    case hy9 => exact Or.inl ⟨by rfl, by intro w hSw; (try dsimp only at hSw); go_simp; try with_reducible rfl⟩
    (try simp only [Act.put, List.setIfInBounds_toArray, List.set_cons_zero, List.set_cons_succ])
    refine wpAnyH_take (i := 12) (oi := ?oo10) (v := ?vv10) ?hi10 (by kernel_rfl) ?hf10 (by kernel_rfl) ?hq10 ?hy10 (by assumption) ?rest10
    case hi10 => (simp only [List.getElem?_toArray, List.getElem?_cons_zero, List.getElem?_cons_succ] <;> exact rfl)
    case hf10 => kernel_rfl
    case hq10 => exact fun _ _ _ h => h
    case hy10 => exact Or.inl ⟨by rfl, by intro w hSw; (try dsimp only at hSw); go_simp; try with_reducible rfl⟩
    (try simp only [Act.put, List.setIfInBounds_toArray, List.set_cons_zero, List.set_cons_succ])
    refine wpAnyH_take (i := 16) (oi := ?oo11) (v := ?vv11) ?hi11 (by kernel_rfl) ?hf11 (by kernel_rfl) ?hq11 ?hy11 (by assumption) ?rest11
    case hi11 => (simp only [List.getElem?_toArray, List.getElem?_cons_zero, List.getElem?_cons_succ] <;> exact rfl)
    case hf11 => kernel_rfl
    case hq11 => exact fun _ _ _ h => h
    case hy11 => exact Or.inl ⟨by rfl, by intro w hSw; (try dsimp only at hSw); go_simp; try with_reducible rfl⟩
    (try simp only [Act.put, List.setIfInBounds_toArray, List.set_cons_zero, List.set_cons_succ])
    refine wpAnyH_ready (rs := [4, 8, 13, 17]) (by kernel_rfl) (by simp) ?_
    refine AllReadyH.cons (o := ?oob1) ?hib1 (fun K hK => ?stb1) ?moreb1
    case hib1 => (simp only [List.getElem?_toArray, List.getElem?_cons_zero, List.getElem?_cons_succ] <;> exact rfl)
    case stb1 =>
      go_simp
      refine hK.out _ _ ?hSb1 (fun hHeld => ?restb1)
      case hSb1 => first | exact ⟨DD.cell 0, DD.cell 1⟩ | exact ⟨DA.cell 0, DA.cell 1⟩
      clear hK K
      (try simp only [Act.put, List.setIfInBounds_toArray, List.set_cons_zero, List.set_cons_succ])
      refine wpAnyH_ready (rs := [8, 13, 17]) (by kernel_rfl) (by simp) ?_
      refine AllReadyH.cons (o := ?oob2) ?hib2 (fun K hK => ?stb2) ?moreb2
      case hib2 => (simp only [List.getElem?_toArray, List.getElem?_cons_zero, List.getElem?_cons_succ] <;> exact rfl)
      case stb2 =>
        go_simp
        refine hK.out _ _ ?hSb2 (fun hHeld => ?restb2)
        case hSb2 => first | exact ⟨DD.cell 0, DD.cell 1⟩ | exact ⟨DA.cell 0, DA.cell 1⟩
        clear hK K
        (try simp only [Act.put, List.setIfInBounds_toArray, List.set_cons_zero, List.set_cons_succ])
        refine wpAnyH_take (i := 9) (oi := ?oo12) (v := ?vv12) ?hi12 (by kernel_rfl) ?hf12 (by kernel_rfl) ?hq12 ?hy12 (by assumption) ?rest12
        case hi12 => (simp only [List.getElem?_toArray, List.getElem?_cons_zero, List.getElem?_cons_succ] <;> exact rfl)
        case hf12 => kernel_rfl
        case hq12 => exact fun _ _ _ h => h
        case hy12 => exact Or.inl ⟨by rfl, by intro w hSw; (try dsimp only at hSw); go_simp; try with_reducible rfl⟩
        (try simp only [Act.put, List.setIfInBounds_toArray, List.set_cons_zero, List.set_cons_succ])
        refine wpAnyH_ready (rs := [13, 17]) (by kernel_rfl) (by simp) ?_
        refine AllReadyH.cons (o := ?oob3) ?hib3 (fun K hK => ?stb3) ?moreb3
        case hib3 => (simp only [List.getElem?_toArray, List.getElem?_cons_zero, List.getElem?_cons_succ] <;> exact rfl)
        case stb3 =>
          go_simp
          refine hK.out _ _ ?hSb3 (fun hHeld => ?restb3)
          case hSb3 => first | exact ⟨DD.cell 0, DD.cell 1⟩ | exact ⟨DA.cell 0, DA.cell 1⟩
          clear hK K
          (try simp only [Act.put, List.setIfInBounds_toArray, List.set_cons_zero, List.set_cons_succ])
          refine wpAnyH_take (i := 14) (oi := ?oo13) (v := ?vv13) ?hi13 (by kernel_rfl) ?hf13 (by kernel_rfl) ?hq13 ?hy13 (by assumption) ?rest13
          case hi13 => (simp only [List.getElem?_toArray, List.getElem?_cons_zero, List.getElem?_cons_succ] <;> exact rfl)
          case hf13 => kernel_rfl
          case hq13 => exact fun _ _ _ h => h
          case hy13 => exact Or.inl ⟨by rfl, by intro w hSw; (try dsimp only at hSw); go_simp; try with_reducible rfl⟩
          (try simp only [Act.put, List.setIfInBounds_toArray, List.set_cons_zero, List.set_cons_succ])
          refine wpAnyH_take (i := 15) (oi := ?oo14) (v := ?vv14) ?hi14 (by kernel_rfl) ?hf14 (by kernel_rfl) ?hq14 ?hy14 (by assumption) ?rest14
          case hi14 => (simp only [List.getElem?_toArray, List.getElem?_cons_zero, List.getElem?_cons_succ] <;> exact rfl)
          case hf14 => kernel_rfl
          case hq14 => exact fun _ _ _ h => h
          case hy14 => exact Or.inl ⟨by rfl, by intro w hSw; (try dsimp only at hSw); go_simp; try with_reducible rfl⟩
          (try simp only [Act.put, List.setIfInBounds_toArray, List.set_cons_zero, List.set_cons_succ])
          refine wpAnyH_ready (rs := [17]) (by kernel_rfl) (by simp) ?_
          refine AllReadyH.cons (o := ?oob4) ?hib4 (fun K hK => ?stb4) ?moreb4
          case hib4 => (simp only [List.getElem?_toArray, List.getElem?_cons_zero, List.getElem?_cons_succ] <;> exact rfl)
          case stb4 =>
            go_simp
            refine hK.out _ _ ?hSb4 (fun hHeld => ?restb4)
            case hSb4 => first | exact ⟨DD.cell 0, DD.cell 1⟩ | exact ⟨DA.cell 0, DA.cell 1⟩
            clear hK K
            (try simp only [Act.put, List.setIfInBounds_toArray, List.set_cons_zero, List.set_cons_succ])
            refine wpAnyH_ready (rs := [18]) (by kernel_rfl) (by simp) ?_
            refine AllReadyH.cons (o := ?oos5) ?his5 (fun K hK => ?sts5) ?mores5
            case his5 => (simp only [List.getElem?_toArray, List.getElem?_cons_zero, List.getElem?_cons_succ] <;> exact rfl)
            case mores5 => exact AllReadyH.nil
            refine step_fresh rfl (.tmp 19) (.tmp 21) 110 rfl 120 (.agg #[.int .i64 0, .int .i64 0]) 2 16 Try.underlying110 info_open rfl (by decide) (by decide) none 0 0 [] rfl (fun _ => ⟨rfl, rfl⟩) rfl (fun b hb => by cases hb) ⟨W2.heap.size, 0, none⟩ 1 1 [.int .i64 a, .int .i64 b] rfl rfl (two_new W2 _ _ _ rfl) (by simp [Value.oneCell']) (by omega) (by omega) ?_
            intro g c' w' own' hg' k'
            have BC := BA.chg k' (by simp)
            have DC := DA.chg k' (by simp)
            have c3 := BC.cell (t * 3)
            have f3 := BC.frozen (t * 3)
            refine hK.out _ _ ?hSs5 (fun hHeld => ?rests5)
            case hSs5 => exact ⟨DC.cell 0, DC.cell 1⟩
            clear hK K
            (try simp only [Act.put, List.setIfInBounds_toArray, List.set_cons_zero, List.set_cons_succ])
            refine wpAnyH_take (i := 19) (oi := ?oo15) (v := ?vv15) ?hi15 (by kernel_rfl) ?hf15 (by kernel_rfl) ?hq15 ?hy15 (by assumption) ?rest15
            case hi15 => (simp only [List.getElem?_toArray, List.getElem?_cons_zero, List.getElem?_cons_succ] <;> exact rfl)
            case hf15 => kernel_rfl
            case hq15 => exact fun _ _ _ h => h
            case hy15 => exact Or.inl ⟨by rfl, by intro w hSw; (try dsimp only at hSw); go_simp; try with_reducible rfl⟩
            (try simp only [Act.put, List.setIfInBounds_toArray, List.set_cons_zero, List.set_cons_succ])
            refine wpAnyH_take (i := 20) (oi := ?oo16) (v := ?vv16) ?hi16 (by kernel_rfl) ?hf16 (by kernel_rfl) ?hq16 ?hy16 (by assumption) ?rest16
            case hi16 => (simp only [List.getElem?_toArray, List.getElem?_cons_zero, List.getElem?_cons_succ] <;> exact rfl)
            case hf16 => kernel_rfl
            case hq16 => exact fun _ _ _ h => h
            case hy16 => exact Or.inl ⟨by rfl, by intro w hSw; (try dsimp only at hSw); go_simp; try with_reducible rfl⟩
            (try simp only [Act.put, List.setIfInBounds_toArray, List.set_cons_zero, List.set_cons_succ])
            refine wpAnyH_ready (rs := [21]) (by kernel_rfl) (by simp) ?_
            refine AllReadyH.cons (o := ?oos5x) ?his5x (fun K hK => ?sts5x) ?mores5x
            case his5x => (simp only [List.getElem?_toArray, List.getElem?_cons_zero, List.getElem?_cons_succ] <;> exact rfl)
            case mores5x => exact AllReadyH.nil
            go_simp
            refine hK.out _ _ ?hSs5x (fun hHeld => ?rests5x)
            case hSs5x => exact ⟨(DC.far (p := ⟨q, t * 3, none⟩) hdq _).cell 0, (DC.far (p := ⟨q, t * 3, none⟩) hdq _).cell 1⟩
            clear hK K
            (try simp only [Act.put, List.setIfInBounds_toArray, List.set_cons_zero, List.set_cons_succ])
            refine wpAnyH_done (by kernel_rfl) ?_ _
            go_wp2
            go_end0
            have KX := (Chg.refl [q] w').setCell (p := ⟨q, t * 3, none⟩) (by simp) (.slice (some ⟨g, 0, none⟩) 1 c')
            have own2 : w'.ownsRow 0 120 2 (.slice (some ⟨g, 0, none⟩) 1 c') 1 [.int .i64 a, .int .i64 b] := own'
            have hgq := own_ne own2 BC (by decide)
            have hsz := (KD.alloc (.cells #[.int .i64 a, .int .i64 b] 120)).size
            have hfr : ∀ g', (Value.slice (some ⟨g, 0, none⟩) 1 c').ownBlock = some g' → w.heap.size ≤ g' := fun g' hg'' => by
              have e : g = g' := by simpa [Value.ownBlock] using hg''
              omega
            have hno : ∀ g', (Value.slice (some ⟨g, 0, none⟩) 1 c').ownBlock = some g' → g' ∉ [q] := fun g' hg'' => by
              simp only [List.mem_singleton]
              intro e
              exact hgq (by rw [hg'', e])
            exact ⟨rfl, .slice (some ⟨g, 0, none⟩) 1 c', BC.set_ (t * 3) _, (Sl.of_own own2).chg KX hno, hfr, ((KD.alloc _).trans k' (by simp)).setCell (.inl (by simp)) _⟩
          exact AllReadyH.nil
        refine AllReadyH.cons (o := ?oob6) ?hib6 (fun K hK => ?stb6) ?moreb6
        case hib6 => (simp only [List.getElem?_toArray, List.getElem?_cons_zero, List.getElem?_cons_succ] <;> exact rfl)
        case stb6 =>
          go_simp
          refine hK.out _ _ ?hSb6 (fun hHeld => ?restb6)
          case hSb6 => first | exact ⟨DD.cell 0, DD.cell 1⟩ | exact ⟨DA.cell 0, DA.cell 1⟩
          clear hK K
          (try simp only [Act.put, List.setIfInBounds_toArray, List.set_cons_zero, List.set_cons_succ])
          refine wpAnyH_ready (rs := [13]) (by kernel_rfl) (by simp) ?_
          refine AllReadyH.cons (o := ?oob7) ?hib7 (fun K hK => ?stb7) ?moreb7
          case hib7 => (simp only [List.getElem?_toArray, List.getElem?_cons_zero, List.getElem?_cons_succ] <;> exact rfl)
          case stb7 =>
            go_simp
            refine hK.out _ _ ?hSb7 (fun hHeld => ?restb7)
            case hSb7 => first | exact ⟨DD.cell 0, DD.cell 1⟩ | exact ⟨DA.cell 0, DA.cell 1⟩
            clear hK K
            (try simp only [Act.put, List.setIfInBounds_toArray, List.set_cons_zero, List.set_cons_succ])
            refine wpAnyH_take (i := 14) (oi := ?oo17) (v := ?vv17) ?hi17 (by kernel_rfl) ?hf17 (by kernel_rfl) ?hq17 ?hy17 (by assumption) ?rest17
            case hi17 => (simp only [List.getElem?_toArray, List.getElem?_cons_zero, List.getElem?_cons_succ] <;> exact rfl)
            case hf17 => kernel_rfl
            case hq17 => exact fun _ _ _ h => h
            case hy17 => exact Or.inl ⟨by rfl, by intro w hSw; (try dsimp only at hSw); go_simp; try with_reducible rfl⟩
            (try simp only [Act.put, List.setIfInBounds_toArray, List.set_cons_zero, List.set_cons_succ])
            refine wpAnyH_take (i := 15) (oi := ?oo18) (v := ?vv18) ?hi18 (by kernel_rfl) ?hf18 (by kernel_rfl) ?hq18 ?hy18 (by assumption) ?rest18
            case hi18 => (simp only [List.getElem?_toArray, List.getElem?_cons_zero, List.getElem?_cons_succ] <;> exact rfl)
            case hf18 => kernel_rfl
            case hq18 => exact fun _ _ _ h => h
            case hy18 => exact Or.inl ⟨by rfl, by intro w hSw; (try dsimp only at hSw); go_simp; try with_reducible rfl⟩
            (try simp only [Act.put, List.setIfInBounds_toArray, List.set_cons_zero, List.set_cons_succ])
            refine wpAnyH_ready (rs := [18]) (by kernel_rfl) (by simp) ?_
            refine AllReadyH.cons (o := ?oos8) ?his8 (fun K hK => ?sts8) ?mores8
            case his8 => (simp only [List.getElem?_toArray, List.getElem?_cons_zero, List.getElem?_cons_succ] <;> exact rfl)
            case mores8 => exact AllReadyH.nil
            refine step_fresh rfl (.tmp 19) (.tmp 21) 110 rfl 120 (.agg #[.int .i64 0, .int .i64 0]) 2 16 Try.underlying110 info_open rfl (by decide) (by decide) none 0 0 [] rfl (fun _ => ⟨rfl, rfl⟩) rfl (fun b hb => by cases hb) ⟨W2.heap.size, 0, none⟩ 1 1 [.int .i64 a, .int .i64 b] rfl rfl (two_new W2 _ _ _ rfl) (by simp [Value.oneCell']) (by omega) (by omega) ?_
            intro g c' w' own' hg' k'
            have BC := BA.chg k' (by simp)
            have DC := DA.chg k' (by simp)
            have c3 := BC.cell (t * 3)
            have f3 := BC.frozen (t * 3)
            refine hK.out _ _ ?hSs8 (fun hHeld => ?rests8)
            case hSs8 => exact ⟨DC.cell 0, DC.cell 1⟩
            clear hK K
            (try simp only [Act.put, List.setIfInBounds_toArray, List.set_cons_zero, List.set_cons_succ])
            refine wpAnyH_take (i := 19) (oi := ?oo19) (v := ?vv19) ?hi19 (by kernel_rfl) ?hf19 (by kernel_rfl) ?hq19 ?hy19 (by assumption) ?rest19
            case hi19 => (simp only [List.getElem?_toArray, List.getElem?_cons_zero, List.getElem?_cons_succ] <;> exact rfl)
            case hf19 => kernel_rfl
            case hq19 => exact fun _ _ _ h => h
            case hy19 => exact Or.inl ⟨by rfl, by intro w hSw; (try dsimp only at hSw); go_simp; try with_reducible rfl⟩
            (try simp only [Act.put, List.setIfInBounds_toArray, List.set_cons_zero, List.set_cons_succ])
            refine wpAnyH_take (i := 20) (oi := ?oo20) (v := ?vv20) ?hi20 (by kernel_rfl) ?hf20 (by kernel_rfl) ?hq20 ?hy20 (by assumption) ?rest20
            case hi20 => (simp only [List.getElem?_toArray, List.getElem?_cons_zero, List.getElem?_cons_succ] <;> exact rfl)
            case hf20 => kernel_rfl
            case hq20 => exact fun _ _ _ h => h
            case hy20 => exact Or.inl ⟨by rfl, by intro w hSw; (try dsimp only at hSw); go_simp; try with_reducible rfl⟩
            (try simp only [Act.put, List.setIfInBounds_toArray, List.set_cons_zero, List.set_cons_succ])
            refine wpAnyH_ready (rs := [21]) (by kernel_rfl) (by simp) ?_
            refine AllReadyH.cons (o := ?oos8x) ?his8x (fun K hK => ?sts8x) ?mores8x
            case his8x => (simp only [List.getElem?_toArray, List.getElem?_cons_zero, List.getElem?_cons_succ] <;> exact rfl)
            case mores8x => exact AllReadyH.nil
            go_simp
            refine hK.out _ _ ?hSs8x (fun hHeld => ?rests8x)
            case hSs8x => exact ⟨(DC.far (p := ⟨q, t * 3, none⟩) hdq _).cell 0, (DC.far (p := ⟨q, t * 3, none⟩) hdq _).cell 1⟩
            clear hK K
            (try simp only [Act.put, List.setIfInBounds_toArray, List.set_cons_zero, List.set_cons_succ])
            refine wpAnyH_done (by kernel_rfl) ?_ _
            go_wp2
            go_end0
            have KX := (Chg.refl [q] w').setCell (p := ⟨q, t * 3, none⟩) (by simp) (.slice (some ⟨g, 0, none⟩) 1 c')
            have own2 : w'.ownsRow 0 120 2 (.slice (some ⟨g, 0, none⟩) 1 c') 1 [.int .i64 a, .int .i64 b] := own'
            have hgq := own_ne own2 BC (by decide)
            have hsz := (KD.alloc (.cells #[.int .i64 a, .int .i64 b] 120)).size
            have hfr : ∀ g', (Value.slice (some ⟨g, 0, none⟩) 1 c').ownBlock = some g' → w.heap.size ≤ g' := fun g' hg'' => by
              have e : g = g' := by simpa [Value.ownBlock] using hg''
              omega
            have hno : ∀ g', (Value.slice (some ⟨g, 0, none⟩) 1 c').ownBlock = some g' → g' ∉ [q] := fun g' hg'' => by
              simp only [List.mem_singleton]
              intro e
              exact hgq (by rw [hg'', e])
            exact ⟨rfl, .slice (some ⟨g, 0, none⟩) 1 c', BC.set_ (t * 3) _, (Sl.of_own own2).chg KX hno, hfr, ((KD.alloc _).trans k' (by simp)).setCell (.inl (by simp)) _⟩
          exact AllReadyH.nil
        exact AllReadyH.nil
      refine AllReadyH.cons (o := ?oob9) ?hib9 (fun K hK => ?stb9) ?moreb9
      case hib9 => (simp only [List.getElem?_toArray, List.getElem?_cons_zero, List.getElem?_cons_succ] <;> exact rfl)
      case stb9 =>
        go_simp
        refine hK.out _ _ ?hSb9 (fun hHeld => ?restb9)
        case hSb9 => first | exact ⟨DD.cell 0, DD.cell 1⟩ | exact ⟨DA.cell 0, DA.cell 1⟩
        clear hK K
        (try simp only [Act.put, List.setIfInBounds_toArray, List.set_cons_zero, List.set_cons_succ])
        refine wpAnyH_take (i := 14) (oi := ?oo21) (v := ?vv21) ?hi21 (by kernel_rfl) ?hf21 (by kernel_rfl) ?hq21 ?hy21 (by assumption) ?rest21
        case hi21 => (simp only [List.getElem?_toArray, List.getElem?_cons_zero, List.getElem?_cons_succ] <;> exact rfl)
        case hf21 => kernel_rfl
        case hq21 => exact fun _ _ _ h => h
        case hy21 => exact Or.inl ⟨by rfl, by intro w hSw; (try dsimp only at hSw); go_simp; try with_reducible rfl⟩
        (try simp only [Act.put, List.setIfInBounds_toArray, List.set_cons_zero, List.set_cons_succ])
        refine wpAnyH_ready (rs := [8, 17]) (by kernel_rfl) (by simp) ?_
        refine AllReadyH.cons (o := ?oob10) ?hib10 (fun K hK => ?stb10) ?moreb10
        case hib10 => (simp only [List.getElem?_toArray, List.getElem?_cons_zero, List.getElem?_cons_succ] <;> exact rfl)
        case stb10 =>
          go_simp
          refine hK.out _ _ ?hSb10 (fun hHeld => ?restb10)
          case hSb10 => first | exact ⟨DD.cell 0, DD.cell 1⟩ | exact ⟨DA.cell 0, DA.cell 1⟩
          clear hK K
          (try simp only [Act.put, List.setIfInBounds_toArray, List.set_cons_zero, List.set_cons_succ])
          refine wpAnyH_take (i := 9) (oi := ?oo22) (v := ?vv22) ?hi22 (by kernel_rfl) ?hf22 (by kernel_rfl) ?hq22 ?hy22 (by assumption) ?rest22
          case hi22 => (simp only [List.getElem?_toArray, List.getElem?_cons_zero, List.getElem?_cons_succ] <;> exact rfl)
          case hf22 => kernel_rfl
          case hq22 => exact fun _ _ _ h => h
          case hy22 => exact Or.inl ⟨by rfl, by intro w hSw; (try dsimp only at hSw); go_simp; try with_reducible rfl⟩
          (try simp only [Act.put, List.setIfInBounds_toArray, List.set_cons_zero, List.set_cons_succ])
          refine wpAnyH_take (i := 15) (oi := ?oo23) (v := ?vv23) ?hi23 (by kernel_rfl) ?hf23 (by kernel_rfl) ?hq23 ?hy23 (by assumption) ?rest23
          case hi23 => (simp only [List.getElem?_toArray, List.getElem?_cons_zero, List.getElem?_cons_succ] <;> exact rfl)
          case hf23 => kernel_rfl
          case hq23 => exact fun _ _ _ h => h
          case hy23 => exact Or.inl ⟨by rfl, by intro w hSw; (try dsimp only at hSw); go_simp; try with_reducible rfl⟩
          (try simp only [Act.put, List.setIfInBounds_toArray, List.set_cons_zero, List.set_cons_succ])
          refine wpAnyH_ready (rs := [17]) (by kernel_rfl) (by simp) ?_
          refine AllReadyH.cons (o := ?oob11) ?hib11 (fun K hK => ?stb11) ?moreb11
          case hib11 => (simp only [List.getElem?_toArray, List.getElem?_cons_zero, List.getElem?_cons_succ] <;> exact rfl)
          case stb11 =>
            go_simp
            refine hK.out _ _ ?hSb11 (fun hHeld => ?restb11)
            case hSb11 => first | exact ⟨DD.cell 0, DD.cell 1⟩ | exact ⟨DA.cell 0, DA.cell 1⟩
            clear hK K
            (try simp only [Act.put, List.setIfInBounds_toArray, List.set_cons_zero, List.set_cons_succ])
            refine wpAnyH_ready (rs := [18]) (by kernel_rfl) (by simp) ?_
            refine AllReadyH.cons (o := ?oos12) ?his12 (fun K hK => ?sts12) ?mores12
            case his12 => (simp only [List.getElem?_toArray, List.getElem?_cons_zero, List.getElem?_cons_succ] <;> exact rfl)
            case mores12 => exact AllReadyH.nil
            refine step_fresh rfl (.tmp 19) (.tmp 21) 110 rfl 120 (.agg #[.int .i64 0, .int .i64 0]) 2 16 Try.underlying110 info_open rfl (by decide) (by decide) none 0 0 [] rfl (fun _ => ⟨rfl, rfl⟩) rfl (fun b hb => by cases hb) ⟨W2.heap.size, 0, none⟩ 1 1 [.int .i64 a, .int .i64 b] rfl rfl (two_new W2 _ _ _ rfl) (by simp [Value.oneCell']) (by omega) (by omega) ?_
            intro g c' w' own' hg' k'
            have BC := BA.chg k' (by simp)
            have DC := DA.chg k' (by simp)
            have c3 := BC.cell (t * 3)
            have f3 := BC.frozen (t * 3)
            refine hK.out _ _ ?hSs12 (fun hHeld => ?rests12)
            case hSs12 => exact ⟨DC.cell 0, DC.cell 1⟩
            clear hK K
            (try simp only [Act.put, List.setIfInBounds_toArray, List.set_cons_zero, List.set_cons_succ])
            refine wpAnyH_take (i := 19) (oi := ?oo24) (v := ?vv24) ?hi24 (by kernel_rfl) ?hf24 (by kernel_rfl) ?hq24 ?hy24 (by assumption) ?rest24
            case hi24 => (simp only [List.getElem?_toArray, List.getElem?_cons_zero, List.getElem?_cons_succ] <;> exact rfl)
            case hf24 => kernel_rfl
            case hq24 => exact fun _ _ _ h => h
            case hy24 => exact Or.inl ⟨by rfl, by intro w hSw; (try dsimp only at hSw); go_simp; try with_reducible rfl⟩
            (try simp only [Act.put, List.setIfInBounds_toArray, List.set_cons_zero, List.set_cons_succ])
            refine wpAnyH_take (i := 20) (oi := ?oo25) (v := ?vv25) ?hi25 (by kernel_rfl) ?hf25 (by kernel_rfl) ?hq25 ?hy25 (by assumption) ?rest25
            case hi25 => (simp only [List.getElem?_toArray, List.getElem?_cons_zero, List.getElem?_cons_succ] <;> exact rfl)
            case hf25 => kernel_rfl
            case hq25 => exact fun _ _ _ h => h
            case hy25 => exact Or.inl ⟨by rfl, by intro w hSw; (try dsimp only at hSw); go_simp; try with_reducible rfl⟩
            (try simp only [Act.put, List.setIfInBounds_toArray, List.set_cons_zero, List.set_cons_succ])
            refine wpAnyH_ready (rs := [21]) (by kernel_rfl) (by simp) ?_
            refine AllReadyH.cons (o := ?oos12x) ?his12x (fun K hK => ?sts12x) ?mores12x
            case his12x => (simp only [List.getElem?_toArray, List.getElem?_cons_zero, List.getElem?_cons_succ] <;> exact rfl)
            case mores12x => exact AllReadyH.nil
            go_simp
            refine hK.out _ _ ?hSs12x (fun hHeld => ?rests12x)
            case hSs12x => exact ⟨(DC.far (p := ⟨q, t * 3, none⟩) hdq _).cell 0, (DC.far (p := ⟨q, t * 3, none⟩) hdq _).cell 1⟩
            clear hK K
            (try simp only [Act.put, List.setIfInBounds_toArray, List.set_cons_zero, List.set_cons_succ])
            refine wpAnyH_done (by kernel_rfl) ?_ _
            go_wp2
            go_end0
            have KX := (Chg.refl [q] w').setCell (p := ⟨q, t * 3, none⟩) (by simp) (.slice (some ⟨g, 0, none⟩) 1 c')
            have own2 : w'.ownsRow 0 120 2 (.slice (some ⟨g, 0, none⟩) 1 c') 1 [.int .i64 a, .int .i64 b] := own'
            have hgq := own_ne own2 BC (by decide)
            have hsz := (KD.alloc (.cells #[.int .i64 a, .int .i64 b] 120)).size
            have hfr : ∀ g', (Value.slice (some ⟨g, 0, none⟩) 1 c').ownBlock = some g' → w.heap.size ≤ g' := fun g' hg'' => by
              have e : g = g' := by simpa [Value.ownBlock] using hg''
              omega
            have hno : ∀ g', (Value.slice (some ⟨g, 0, none⟩) 1 c').ownBlock = some g' → g' ∉ [q] := fun g' hg'' => by
              simp only [List.mem_singleton]
              intro e
              exact hgq (by rw [hg'', e])
            exact ⟨rfl, .slice (some ⟨g, 0, none⟩) 1 c', BC.set_ (t * 3) _, (Sl.of_own own2).chg KX hno, hfr, ((KD.alloc _).trans k' (by simp)).setCell (.inl (by simp)) _⟩
          exact AllReadyH.nil
        refine AllReadyH.cons (o := ?oob13) ?hib13 (fun K hK => ?stb13) ?moreb13
        case hib13 => (simp only [List.getElem?_toArray, List.getElem?_cons_zero, List.getElem?_cons_succ] <;> exact rfl)
        case stb13 =>
          go_simp
          refine hK.out _ _ ?hSb13 (fun hHeld => ?restb13)
          case hSb13 => first | exact ⟨DD.cell 0, DD.cell 1⟩ | exact ⟨DA.cell 0, DA.cell 1⟩
          clear hK K
          (try simp only [Act.put, List.setIfInBounds_toArray, List.set_cons_zero, List.set_cons_succ])
          refine wpAnyH_ready (rs := [8]) (by kernel_rfl) (by simp) ?_
          refine AllReadyH.cons (o := ?oob14) ?hib14 (fun K hK => ?stb14) ?moreb14
          case hib14 => (simp only [List.getElem?_toArray, List.getElem?_cons_zero, List.getElem?_cons_succ] <;> exact rfl)
          case stb14 =>
            go_simp
            refine hK.out _ _ ?hSb14 (fun hHeld => ?restb14)
            case hSb14 => first | exact ⟨DD.cell 0, DD.cell 1⟩ | exact ⟨DA.cell 0, DA.cell 1⟩
            clear hK K
            (try simp only [Act.put, List.setIfInBounds_toArray, List.set_cons_zero, List.set_cons_succ])
            refine wpAnyH_take (i := 9) (oi := ?oo26) (v := ?vv26) ?hi26 (by kernel_rfl) ?hf26 (by kernel_rfl) ?hq26 ?hy26 (by assumption) ?rest26
            case hi26 => (simp only [List.getElem?_toArray, List.getElem?_cons_zero, List.getElem?_cons_succ] <;> exact rfl)
            case hf26 => kernel_rfl
            case hq26 => exact fun _ _ _ h => h
            case hy26 => exact Or.inl ⟨by rfl, by intro w hSw; (try dsimp only at hSw); go_simp; try with_reducible rfl⟩
            (try simp only [Act.put, List.setIfInBounds_toArray, List.set_cons_zero, List.set_cons_succ])
            refine wpAnyH_take (i := 15) (oi := ?oo27) (v := ?vv27) ?hi27 (by kernel_rfl) ?hf27 (by kernel_rfl) ?hq27 ?hy27 (by assumption) ?rest27
            case hi27 => (simp only [List.getElem?_toArray, List.getElem?_cons_zero, List.getElem?_cons_succ] <;> exact rfl)
            case hf27 => kernel_rfl
            case hq27 => exact fun _ _ _ h => h
            case hy27 => exact Or.inl ⟨by rfl, by intro w hSw; (try dsimp only at hSw); go_simp; try with_reducible rfl⟩
            (try simp only [Act.put, List.setIfInBounds_toArray, List.set_cons_zero, List.set_cons_succ])
            refine wpAnyH_ready (rs := [18]) (by kernel_rfl) (by simp) ?_
            refine AllReadyH.cons (o := ?oos15) ?his15 (fun K hK => ?sts15) ?mores15
            case his15 => (simp only [List.getElem?_toArray, List.getElem?_cons_zero, List.getElem?_cons_succ] <;> exact rfl)
            case mores15 => exact AllReadyH.nil
            refine step_fresh rfl (.tmp 19) (.tmp 21) 110 rfl 120 (.agg #[.int .i64 0, .int .i64 0]) 2 16 Try.underlying110 info_open rfl (by decide) (by decide) none 0 0 [] rfl (fun _ => ⟨rfl, rfl⟩) rfl (fun b hb => by cases hb) ⟨W2.heap.size, 0, none⟩ 1 1 [.int .i64 a, .int .i64 b] rfl rfl (two_new W2 _ _ _ rfl) (by simp [Value.oneCell']) (by omega) (by omega) ?_
            intro g c' w' own' hg' k'
            have BC := BA.chg k' (by simp)
            have DC := DA.chg k' (by simp)
            have c3 := BC.cell (t * 3)
            have f3 := BC.frozen (t * 3)
            refine hK.out _ _ ?hSs15 (fun hHeld => ?rests15)
            case hSs15 => exact ⟨DC.cell 0, DC.cell 1⟩
            clear hK K
            (try simp only [Act.put, List.setIfInBounds_toArray, List.set_cons_zero, List.set_cons_succ])
            refine wpAnyH_take (i := 19) (oi := ?oo28) (v := ?vv28) ?hi28 (by kernel_rfl) ?hf28 (by kernel_rfl) ?hq28 ?hy28 (by assumption) ?rest28
            case hi28 => (simp only [List.getElem?_toArray, List.getElem?_cons_zero, List.getElem?_cons_succ] <;> exact rfl)
            case hf28 => kernel_rfl
            case hq28 => exact fun _ _ _ h => h
            case hy28 => exact Or.inl ⟨by rfl, by intro w hSw; (try dsimp only at hSw); go_simp; try with_reducible rfl⟩
            (try simp only [Act.put, List.setIfInBounds_toArray, List.set_cons_zero, List.set_cons_succ])
            refine wpAnyH_take (i := 20) (oi := ?oo29) (v := ?vv29) ?hi29 (by kernel_rfl) ?hf29 (by kernel_rfl) ?hq29 ?hy29 (by assumption) ?rest29
            case hi29 => (simp only [List.getElem?_toArray, List.getElem?_cons_zero, List.getElem?_cons_succ] <;> exact rfl)
            case hf29 => kernel_rfl
            case hq29 => exact fun _ _ _ h => h
            case hy29 => exact Or.inl ⟨by rfl, by intro w hSw; (try dsimp only at hSw); go_simp; try with_reducible rfl⟩
            (try simp only [Act.put, List.setIfInBounds_toArray, List.set_cons_zero, List.set_cons_succ])
            refine wpAnyH_ready (rs := [21]) (by kernel_rfl) (by simp) ?_
            refine AllReadyH.cons (o := ?oos15x) ?his15x (fun K hK => ?sts15x) ?mores15x
            case his15x => (simp only [List.getElem?_toArray, List.getElem?_cons_zero, List.getElem?_cons_succ] <;> exact rfl)
            case mores15x => exact AllReadyH.nil
            go_simp
            refine hK.out _ _ ?hSs15x (fun hHeld => ?rests15x)
            case hSs15x => exact ⟨(DC.far (p := ⟨q, t * 3, none⟩) hdq _).cell 0, (DC.far (p := ⟨q, t * 3, none⟩) hdq _).cell 1⟩
            clear hK K
            (try simp only [Act.put, List.setIfInBounds_toArray, List.set_cons_zero, List.set_cons_succ])
            refine wpAnyH_done (by kernel_rfl) ?_ _
            go_wp2
            go_end0
            have KX := (Chg.refl [q] w').setCell (p := ⟨q, t * 3, none⟩) (by simp) (.slice (some ⟨g, 0, none⟩) 1 c')
            have own2 : w'.ownsRow 0 120 2 (.slice (some ⟨g, 0, none⟩) 1 c') 1 [.int .i64 a, .int .i64 b] := own'
            have hgq := own_ne own2 BC (by decide)
            have hsz := (KD.alloc (.cells #[.int .i64 a, .int .i64 b] 120)).size
            have hfr : ∀ g', (Value.slice (some ⟨g, 0, none⟩) 1 c').ownBlock = some g' → w.heap.size ≤ g' := fun g' hg'' => by
              have e : g = g' := by simpa [Value.ownBlock] using hg''
              omega
            have hno : ∀ g', (Value.slice (some ⟨g, 0, none⟩) 1 c').ownBlock = some g' → g' ∉ [q] := fun g' hg'' => by
              simp only [List.mem_singleton]
              intro e
              exact hgq (by rw [hg'', e])
            exact ⟨rfl, .slice (some ⟨g, 0, none⟩) 1 c', BC.set_ (t * 3) _, (Sl.of_own own2).chg KX hno, hfr, ((KD.alloc _).trans k' (by simp)).setCell (.inl (by simp)) _⟩
          exact AllReadyH.nil
        exact AllReadyH.nil
      refine AllReadyH.cons (o := ?oob16) ?hib16 (fun K hK => ?stb16) ?moreb16
      case hib16 => (simp only [List.getElem?_toArray, List.getElem?_cons_zero, List.getElem?_cons_succ] <;> exact rfl)
      case stb16 =>
        go_simp
        refine hK.out _ _ ?hSb16 (fun hHeld => ?restb16)
        case hSb16 => first | exact ⟨DD.cell 0, DD.cell 1⟩ | exact ⟨DA.cell 0, DA.cell 1⟩
        clear hK K
        (try simp only [Act.put, List.setIfInBounds_toArray, List.set_cons_zero, List.set_cons_succ])
        refine wpAnyH_ready (rs := [8, 13]) (by kernel_rfl) (by simp) ?_
        refine AllReadyH.cons (o := ?oob17) ?hib17 (fun K hK => ?stb17) ?moreb17
        case hib17 => (simp only [List.getElem?_toArray, List.getElem?_cons_zero, List.getElem?_cons_succ] <;> exact rfl)
        case stb17 =>
          go_simp
          refine hK.out _ _ ?hSb17 (fun hHeld => ?restb17)
          case hSb17 => first | exact ⟨DD.cell 0, DD.cell 1⟩ | exact ⟨DA.cell 0, DA.cell 1⟩
          clear hK K
          (try simp only [Act.put, List.setIfInBounds_toArray, List.set_cons_zero, List.set_cons_succ])
          refine wpAnyH_take (i := 9) (oi := ?oo30) (v := ?vv30) ?hi30 (by kernel_rfl) ?hf30 (by kernel_rfl) ?hq30 ?hy30 (by assumption) ?rest30
          case hi30 => (simp only [List.getElem?_toArray, List.getElem?_cons_zero, List.getElem?_cons_succ] <;> exact rfl)
          case hf30 => kernel_rfl
          case hq30 => exact fun _ _ _ h => h
          case hy30 => exact Or.inl ⟨by rfl, by intro w hSw; (try dsimp only at hSw); go_simp; try with_reducible rfl⟩
          (try simp only [Act.put, List.setIfInBounds_toArray, List.set_cons_zero, List.set_cons_succ])
          refine wpAnyH_ready (rs := [13]) (by kernel_rfl) (by simp) ?_
          refine AllReadyH.cons (o := ?oob18) ?hib18 (fun K hK => ?stb18) ?moreb18
          case hib18 => (simp only [List.getElem?_toArray, List.getElem?_cons_zero, List.getElem?_cons_succ] <;> exact rfl)
          case stb18 =>
            go_simp
            refine hK.out _ _ ?hSb18 (fun hHeld => ?restb18)
            case hSb18 => first | exact ⟨DD.cell 0, DD.cell 1⟩ | exact ⟨DA.cell 0, DA.cell 1⟩
            clear hK K
            (try simp only [Act.put, List.setIfInBounds_toArray, List.set_cons_zero, List.set_cons_succ])
            refine wpAnyH_take (i := 14) (oi := ?oo31) (v := ?vv31) ?hi31 (by kernel_rfl) ?hf31 (by kernel_rfl) ?hq31 ?hy31 (by assumption) ?rest31
            case hi31 => (simp only [List.getElem?_toArray, List.getElem?_cons_zero, List.getElem?_cons_succ] <;> exact rfl)
            case hf31 => kernel_rfl
            case hq31 => exact fun _ _ _ h => h
            case hy31 => exact Or.inl ⟨by rfl, by intro w hSw; (try dsimp only at hSw); go_simp; try with_reducible rfl⟩
            (try simp only [Act.put, List.setIfInBounds_toArray, List.set_cons_zero, List.set_cons_succ])
            refine wpAnyH_take (i := 15) (oi := ?oo32) (v := ?vv32) ?hi32 (by kernel_rfl) ?hf32 (by kernel_rfl) ?hq32 ?hy32 (by assumption) ?rest32
            case hi32 => (simp only [List.getElem?_toArray, List.getElem?_cons_zero, List.getElem?_cons_succ] <;> exact rfl)
            case hf32 => kernel_rfl
            case hq32 => exact fun _ _ _ h => h
            case hy32 => exact Or.inl ⟨by rfl, by intro w hSw; (try dsimp only at hSw); go_simp; try with_reducible rfl⟩
            (try simp only [Act.put, List.setIfInBounds_toArray, List.set_cons_zero, List.set_cons_succ])
            refine wpAnyH_ready (rs := [18]) (by kernel_rfl) (by simp) ?_
            refine AllReadyH.cons (o := ?oos19) ?his19 (fun K hK => ?sts19) ?mores19
            case his19 => (simp only [List.getElem?_toArray, List.getElem?_cons_zero, List.getElem?_cons_succ] <;> exact rfl)
            case mores19 => exact AllReadyH.nil
            refine step_fresh rfl (.tmp 19) (.tmp 21) 110 rfl 120 (.agg #[.int .i64 0, .int .i64 0]) 2 16 Try.underlying110 info_open rfl (by decide) (by decide) none 0 0 [] rfl (fun _ => ⟨rfl, rfl⟩) rfl (fun b hb => by cases hb) ⟨W2.heap.size, 0, none⟩ 1 1 [.int .i64 a, .int .i64 b] rfl rfl (two_new W2 _ _ _ rfl) (by simp [Value.oneCell']) (by omega) (by omega) ?_
            intro g c' w' own' hg' k'
            have BC := BA.chg k' (by simp)
            have DC := DA.chg k' (by simp)
            have c3 := BC.cell (t * 3)
            have f3 := BC.frozen (t * 3)
            refine hK.out _ _ ?hSs19 (fun hHeld => ?rests19)
            case hSs19 => exact ⟨DC.cell 0, DC.cell 1⟩
            clear hK K
            (try simp only [Act.put, List.setIfInBounds_toArray, List.set_cons_zero, List.set_cons_succ])
            refine wpAnyH_take (i := 19) (oi := ?oo33) (v := ?vv33) ?hi33 (by kernel_rfl) ?hf33 (by kernel_rfl) ?hq33 ?hy33 (by assumption) ?rest33
            case hi33 => (simp only [List.getElem?_toArray, List.getElem?_cons_zero, List.getElem?_cons_succ] <;> exact rfl)
            case hf33 => kernel_rfl
            case hq33 => exact fun _ _ _ h => h
            case hy33 => exact Or.inl ⟨by rfl, by intro w hSw; (try dsimp only at hSw); go_simp; try with_reducible rfl⟩
            (try simp only [Act.put, List.setIfInBounds_toArray, List.set_cons_zero, List.set_cons_succ])
            refine wpAnyH_take (i := 20) (oi := ?oo34) (v := ?vv34) ?hi34 (by kernel_rfl) ?hf34 (by kernel_rfl) ?hq34 ?hy34 (by assumption) ?rest34
            case hi34 => (simp only [List.getElem?_toArray, List.getElem?_cons_zero, List.getElem?_cons_succ] <;> exact rfl)
            case hf34 => kernel_rfl
            case hq34 => exact fun _ _ _ h => h
            case hy34 => exact Or.inl ⟨by rfl, by intro w hSw; (try dsimp only at hSw); go_simp; try with_reducible rfl⟩
            (try simp only [Act.put, List.setIfInBounds_toArray, List.set_cons_zero, List.set_cons_succ])
            refine wpAnyH_ready (rs := [21]) (by kernel_rfl) (by simp) ?_
            refine AllReadyH.cons (o := ?oos19x) ?his19x (fun K hK => ?sts19x) ?mores19x
            case his19x => (simp only [List.getElem?_toArray, List.getElem?_cons_zero, List.getElem?_cons_succ] <;> exact rfl)
            case mores19x => exact AllReadyH.nil
            go_simp
            refine hK.out _ _ ?hSs19x (fun hHeld => ?rests19x)
            case hSs19x => exact ⟨(DC.far (p := ⟨q, t * 3, none⟩) hdq _).cell 0, (DC.far (p := ⟨q, t * 3, none⟩) hdq _).cell 1⟩
            clear hK K
            (try simp only [Act.put, List.setIfInBounds_toArray, List.set_cons_zero, List.set_cons_succ])
            refine wpAnyH_done (by kernel_rfl) ?_ _
            go_wp2
            go_end0
            have KX := (Chg.refl [q] w').setCell (p := ⟨q, t * 3, none⟩) (by simp) (.slice (some ⟨g, 0, none⟩) 1 c')
            have own2 : w'.ownsRow 0 120 2 (.slice (some ⟨g, 0, none⟩) 1 c') 1 [.int .i64 a, .int .i64 b] := own'
            have hgq := own_ne own2 BC (by decide)
            have hsz := (KD.alloc (.cells #[.int .i64 a, .int .i64 b] 120)).size
            have hfr : ∀ g', (Value.slice (some ⟨g, 0, none⟩) 1 c').ownBlock = some g' → w.heap.size ≤ g' := fun g' hg'' => by
              have e : g = g' := by simpa [Value.ownBlock] using hg''
              omega
            have hno : ∀ g', (Value.slice (some ⟨g, 0, none⟩) 1 c').ownBlock = some g' → g' ∉ [q] := fun g' hg'' => by
              simp only [List.mem_singleton]
              intro e
              exact hgq (by rw [hg'', e])
            exact ⟨rfl, .slice (some ⟨g, 0, none⟩) 1 c', BC.set_ (t * 3) _, (Sl.of_own own2).chg KX hno, hfr, ((KD.alloc _).trans k' (by simp)).setCell (.inl (by simp)) _⟩
          exact AllReadyH.nil
        refine AllReadyH.cons (o := ?oob20) ?hib20 (fun K hK => ?stb20) ?moreb20
        case hib20 => (simp only [List.getElem?_toArray, List.getElem?_cons_zero, List.getElem?_cons_succ] <;> exact rfl)
        case stb20 =>
          go_simp
          refine hK.out _ _ ?hSb20 (fun hHeld => ?restb20)
          case hSb20 => first | exact ⟨DD.cell 0, DD.cell 1⟩ | exact ⟨DA.cell 0, DA.cell 1⟩
          clear hK K
          (try simp only [Act.put, List.setIfInBounds_toArray, List.set_cons_zero, List.set_cons_succ])
          refine wpAnyH_take (i := 14) (oi := ?oo35) (v := ?vv35) ?hi35 (by kernel_rfl) ?hf35 (by kernel_rfl) ?hq35 ?hy35 (by assumption) ?rest35
          case hi35 => (simp only [List.getElem?_toArray, List.getElem?_cons_zero, List.getElem?_cons_succ] <;> exact rfl)
          case hf35 => kernel_rfl
          case hq35 => exact fun _ _ _ h => h
          case hy35 => exact Or.inl ⟨by rfl, by intro w hSw; (try dsimp only at hSw); go_simp; try with_reducible rfl⟩
          (try simp only [Act.put, List.setIfInBounds_toArray, List.set_cons_zero, List.set_cons_succ])
          refine wpAnyH_ready (rs := [8]) (by kernel_rfl) (by simp) ?_
          refine AllReadyH.cons (o := ?oob21) ?hib21 (fun K hK => ?stb21) ?moreb21
          case hib21 => (simp only [List.getElem?_toArray, List.getElem?_cons_zero, List.getElem?_cons_succ] <;> exact rfl)
          case stb21 =>
            go_simp
            refine hK.out _ _ ?hSb21 (fun hHeld => ?restb21)
            case hSb21 => first | exact ⟨DD.cell 0, DD.cell 1⟩ | exact ⟨DA.cell 0, DA.cell 1⟩
            clear hK K
            (try simp only [Act.put, List.setIfInBounds_toArray, List.set_cons_zero, List.set_cons_succ])
            refine wpAnyH_take (i := 9) (oi := ?oo36) (v := ?vv36) ?hi36 (by kernel_rfl) ?hf36 (by kernel_rfl) ?hq36 ?hy36 (by assumption) ?rest36
            case hi36 => (simp only [List.getElem?_toArray, List.getElem?_cons_zero, List.getElem?_cons_succ] <;> exact rfl)
            case hf36 => kernel_rfl
            case hq36 => exact fun _ _ _ h => h
            case hy36 => exact Or.inl ⟨by rfl, by intro w hSw; (try dsimp only at hSw); go_simp; try with_reducible rfl⟩
            (try simp only [Act.put, List.setIfInBounds_toArray, List.set_cons_zero, List.set_cons_succ])
            refine wpAnyH_take (i := 15) (oi := ?oo37) (v := ?vv37) ?hi37 (by kernel_rfl) ?hf37 (by kernel_rfl) ?hq37 ?hy37 (by assumption) ?rest37
            case hi37 => (simp only [List.getElem?_toArray, List.getElem?_cons_zero, List.getElem?_cons_succ] <;> exact rfl)
            case hf37 => kernel_rfl
            case hq37 => exact fun _ _ _ h => h
            case hy37 => exact Or.inl ⟨by rfl, by intro w hSw; (try dsimp only at hSw); go_simp; try with_reducible rfl⟩
            (try simp only [Act.put, List.setIfInBounds_toArray, List.set_cons_zero, List.set_cons_succ])
            refine wpAnyH_ready (rs := [18]) (by kernel_rfl) (by simp) ?_
            refine AllReadyH.cons (o := ?oos22) ?his22 (fun K hK => ?sts22) ?mores22
            case his22 => (simp only [List.getElem?_toArray, List.getElem?_cons_zero, List.getElem?_cons_succ] <;> exact rfl)
            case mores22 => exact AllReadyH.nil
            refine step_fresh rfl (.tmp 19) (.tmp 21) 110 rfl 120 (.agg #[.int .i64 0, .int .i64 0]) 2 16 Try.underlying110 info_open rfl (by decide) (by decide) none 0 0 [] rfl (fun _ => ⟨rfl, rfl⟩) rfl (fun b hb => by cases hb) ⟨W2.heap.size, 0, none⟩ 1 1 [.int .i64 a, .int .i64 b] rfl rfl (two_new W2 _ _ _ rfl) (by simp [Value.oneCell']) (by omega) (by omega) ?_
            intro g c' w' own' hg' k'
            have BC := BA.chg k' (by simp)
            have DC := DA.chg k' (by simp)
            have c3 := BC.cell (t * 3)
            have f3 := BC.frozen (t * 3)
            refine hK.out _ _ ?hSs22 (fun hHeld => ?rests22)
            case hSs22 => exact ⟨DC.cell 0, DC.cell 1⟩
            clear hK K
            (try simp only [Act.put, List.setIfInBounds_toArray, List.set_cons_zero, List.set_cons_succ])
            refine wpAnyH_take (i := 19) (oi := ?oo38) (v := ?vv38) ?hi38 (by kernel_rfl) ?hf38 (by kernel_rfl) ?hq38 ?hy38 (by assumption) ?rest38
            case hi38 => (simp only [List.getElem?_toArray, List.getElem?_cons_zero, List.getElem?_cons_succ] <;> exact rfl)
            case hf38 => kernel_rfl
            case hq38 => exact fun _ _ _ h => h
            case hy38 => exact Or.inl ⟨by rfl, by intro w hSw; (try dsimp only at hSw); go_simp; try with_reducible rfl⟩
            (try simp only [Act.put, List.setIfInBounds_toArray, List.set_cons_zero, List.set_cons_succ])
            refine wpAnyH_take (i := 20) (oi := ?oo39) (v := ?vv39) ?hi39 (by kernel_rfl) ?hf39 (by kernel_rfl) ?hq39 ?hy39 (by assumption) ?rest39
            case hi39 => (simp only [List.getElem?_toArray, List.getElem?_cons_zero, List.getElem?_cons_succ] <;> exact rfl)
            case hf39 => kernel_rfl
            case hq39 => exact fun _ _ _ h => h
            case hy39 => exact Or.inl ⟨by rfl, by intro w hSw; (try dsimp only at hSw); go_simp; try with_reducible rfl⟩
            (try simp only [Act.put, List.setIfInBounds_toArray, List.set_cons_zero, List.set_cons_succ])
            refine wpAnyH_ready (rs := [21]) (by kernel_rfl) (by simp) ?_
            refine AllReadyH.cons (o := ?oos22x) ?his22x (fun K hK => ?sts22x) ?mores22x
            case his22x => (simp only [List.getElem?_toArray, List.getElem?_cons_zero, List.getElem?_cons_succ] <;> exact rfl)
            case mores22x => exact AllReadyH.nil
            go_simp
            refine hK.out _ _ ?hSs22x (fun hHeld => ?rests22x)
            case hSs22x => exact ⟨(DC.far (p := ⟨q, t * 3, none⟩) hdq _).cell 0, (DC.far (p := ⟨q, t * 3, none⟩) hdq _).cell 1⟩
            clear hK K
            (try simp only [Act.put, List.setIfInBounds_toArray, List.set_cons_zero, List.set_cons_succ])
            refine wpAnyH_done (by kernel_rfl) ?_ _
            go_wp2
            go_end0
            have KX := (Chg.refl [q] w').setCell (p := ⟨q, t * 3, none⟩) (by simp) (.slice (some ⟨g, 0, none⟩) 1 c')
            have own2 : w'.ownsRow 0 120 2 (.slice (some ⟨g, 0, none⟩) 1 c') 1 [.int .i64 a, .int .i64 b] := own'
            have hgq := own_ne own2 BC (by decide)
            have hsz := (KD.alloc (.cells #[.int .i64 a, .int .i64 b] 120)).size
            have hfr : ∀ g', (Value.slice (some ⟨g, 0, none⟩) 1 c').ownBlock = some g' → w.heap.size ≤ g' := fun g' hg'' => by
              have e : g = g' := by simpa [Value.ownBlock] using hg''
              omega
            have hno : ∀ g', (Value.slice (some ⟨g, 0, none⟩) 1 c').ownBlock = some g' → g' ∉ [q] := fun g' hg'' => by
              simp only [List.mem_singleton]
              intro e
              exact hgq (by rw [hg'', e])
            exact ⟨rfl, .slice (some ⟨g, 0, none⟩) 1 c', BC.set_ (t * 3) _, (Sl.of_own own2).chg KX hno, hfr, ((KD.alloc _).trans k' (by simp)).setCell (.inl (by simp)) _⟩
          exact AllReadyH.nil
        exact AllReadyH.nil
      exact AllReadyH.nil
    refine AllReadyH.cons (o := ?oob23) ?hib23 (fun K hK => ?stb23) ?moreb23
    case hib23 => (simp only [List.getElem?_toArray, List.getElem?_cons_zero, List.getElem?_cons_succ] <;> exact rfl)
    case stb23 =>
      go_simp
      refine hK.out _ _ ?hSb23 (fun hHeld => ?restb23)
      case hSb23 => first | exact ⟨DD.cell 0, DD.cell 1⟩ | exact ⟨DA.cell 0, DA.cell 1⟩
      clear hK K
      (try simp only [Act.put, List.setIfInBounds_toArray, List.set_cons_zero, List.set_cons_succ])
      refine wpAnyH_take (i := 9) (oi := ?oo40) (v := ?vv40) ?hi40 (by kernel_rfl) ?hf40 (by kernel_rfl) ?hq40 ?hy40 (by assumption) ?rest40
      case hi40 => (simp only [List.getElem?_toArray, List.getElem?_cons_zero, List.getElem?_cons_succ] <;> exact rfl)
      case hf40 => kernel_rfl
      case hq40 => exact fun _ _ _ h => h
      case hy40 => exact Or.inl ⟨by rfl, by intro w hSw; (try dsimp only at hSw); go_simp; try with_reducible rfl⟩
      (try simp only [Act.put, List.setIfInBounds_toArray, List.set_cons_zero, List.set_cons_succ])
      refine wpAnyH_ready (rs := [4, 13, 17]) (by kernel_rfl) (by simp) ?_
      refine AllReadyH.cons (o := ?oob24) ?hib24 (fun K hK => ?stb24) ?moreb24
      case hib24 => (simp only [List.getElem?_toArray, List.getElem?_cons_zero, List.getElem?_cons_succ] <;> exact rfl)
      case stb24 =>
        go_simp
        refine hK.out _ _ ?hSb24 (fun hHeld => ?restb24)
        case hSb24 => first | exact ⟨DD.cell 0, DD.cell 1⟩ | exact ⟨DA.cell 0, DA.cell 1⟩
        clear hK K
        (try simp only [Act.put, List.setIfInBounds_toArray, List.set_cons_zero, List.set_cons_succ])
        refine wpAnyH_ready (rs := [13, 17]) (by kernel_rfl) (by simp) ?_
        refine AllReadyH.cons (o := ?oob25) ?hib25 (fun K hK => ?stb25) ?moreb25
        case hib25 => (simp only [List.getElem?_toArray, List.getElem?_cons_zero, List.getElem?_cons_succ] <;> exact rfl)
        case stb25 =>
          go_simp
          refine hK.out _ _ ?hSb25 (fun hHeld => ?restb25)
          case hSb25 => first | exact ⟨DD.cell 0, DD.cell 1⟩ | exact ⟨DA.cell 0, DA.cell 1⟩
          clear hK K
          (try simp only [Act.put, List.setIfInBounds_toArray, List.set_cons_zero, List.set_cons_succ])
          refine wpAnyH_take (i := 14) (oi := ?oo41) (v := ?vv41) ?hi41 (by kernel_rfl) ?hf41 (by kernel_rfl) ?hq41 ?hy41 (by assumption) ?rest41
          case hi41 => (simp only [List.getElem?_toArray, List.getElem?_cons_zero, List.getElem?_cons_succ] <;> exact rfl)
          case hf41 => kernel_rfl
          case hq41 => exact fun _ _ _ h => h
          case hy41 => exact Or.inl ⟨by rfl, by intro w hSw; (try dsimp only at hSw); go_simp; try with_reducible rfl⟩
          (try simp only [Act.put, List.setIfInBounds_toArray, List.set_cons_zero, List.set_cons_succ])
          refine wpAnyH_take (i := 15) (oi := ?oo42) (v := ?vv42) ?hi42 (by kernel_rfl) ?hf42 (by kernel_rfl) ?hq42 ?hy42 (by assumption) ?rest42
          case hi42 => (simp only [List.getElem?_toArray, List.getElem?_cons_zero, List.getElem?_cons_succ] <;> exact rfl)
          case hf42 => kernel_rfl
          case hq42 => exact fun _ _ _ h => h
          case hy42 => exact Or.inl ⟨by rfl, by intro w hSw; (try dsimp only at hSw); go_simp; try with_reducible rfl⟩
          (try simp only [Act.put, List.setIfInBounds_toArray, List.set_cons_zero, List.set_cons_succ])
          refine wpAnyH_ready (rs := [17]) (by kernel_rfl) (by simp) ?_
          refine AllReadyH.cons (o := ?oob26) ?hib26 (fun K hK => ?stb26) ?moreb26
          case hib26 => (simp only [List.getElem?_toArray, List.getElem?_cons_zero, List.getElem?_cons_succ] <;> exact rfl)
          case stb26 =>
            go_simp
            refine hK.out _ _ ?hSb26 (fun hHeld => ?restb26)
            case hSb26 => first | exact ⟨DD.cell 0, DD.cell 1⟩ | exact ⟨DA.cell 0, DA.cell 1⟩
            clear hK K
            (try simp only [Act.put, List.setIfInBounds_toArray, List.set_cons_zero, List.set_cons_succ])
            refine wpAnyH_ready (rs := [18]) (by kernel_rfl) (by simp) ?_
            refine AllReadyH.cons (o := ?oos27) ?his27 (fun K hK => ?sts27) ?mores27
            case his27 => (simp only [List.getElem?_toArray, List.getElem?_cons_zero, List.getElem?_cons_succ] <;> exact rfl)
            case mores27 => exact AllReadyH.nil
            refine step_fresh rfl (.tmp 19) (.tmp 21) 110 rfl 120 (.agg #[.int .i64 0, .int .i64 0]) 2 16 Try.underlying110 info_open rfl (by decide) (by decide) none 0 0 [] rfl (fun _ => ⟨rfl, rfl⟩) rfl (fun b hb => by cases hb) ⟨W2.heap.size, 0, none⟩ 1 1 [.int .i64 a, .int .i64 b] rfl rfl (two_new W2 _ _ _ rfl) (by simp [Value.oneCell']) (by omega) (by omega) ?_
            intro g c' w' own' hg' k'
            have BC := BA.chg k' (by simp)
            have DC := DA.chg k' (by simp)
            have c3 := BC.cell (t * 3)
            have f3 := BC.frozen (t * 3)
            refine hK.out _ _ ?hSs27 (fun hHeld => ?rests27)
            case hSs27 => exact ⟨DC.cell 0, DC.cell 1⟩
            clear hK K
            (try simp only [Act.put, List.setIfInBounds_toArray, List.set_cons_zero, List.set_cons_succ])
            refine wpAnyH_take (i := 19) (oi := ?oo43) (v := ?vv43) ?hi43 (by kernel_rfl) ?hf43 (by kernel_rfl) ?hq43 ?hy43 (by assumption) ?rest43
            case hi43 => (simp only [List.getElem?_toArray, List.getElem?_cons_zero, List.getElem?_cons_succ] <;> exact rfl)
            case hf43 => kernel_rfl
            case hq43 => exact fun _ _ _ h => h
            case hy43 => exact Or.inl ⟨by rfl, by intro w hSw; (try dsimp only at hSw); go_simp; try with_reducible rfl⟩
            (try simp only [Act.put, List.setIfInBounds_toArray, List.set_cons_zero, List.set_cons_succ])
            refine wpAnyH_take (i := 20) (oi := ?oo44) (v := ?vv44) ?hi44 (by kernel_rfl) ?hf44 (by kernel_rfl) ?hq44 ?hy44 (by assumption) ?rest44
            case hi44 => (simp only [List.getElem?_toArray, List.getElem?_cons_zero, List.getElem?_cons_succ] <;> exact rfl)
            case hf44 => kernel_rfl
            case hq44 => exact fun _ _ _ h => h
            case hy44 => exact Or.inl ⟨by rfl, by intro w hSw; (try dsimp only at hSw); go_simp; try with_reducible rfl⟩
            (try simp only [Act.put, List.setIfInBounds_toArray, List.set_cons_zero, List.set_cons_succ])
            refine wpAnyH_ready (rs := [21]) (by kernel_rfl) (by simp) ?_
            refine AllReadyH.cons (o := ?oos27x) ?his27x (fun K hK => ?sts27x) ?mores27x
            case his27x => (simp only [List.getElem?_toArray, List.getElem?_cons_zero, List.getElem?_cons_succ] <;> exact rfl)
            case mores27x => exact AllReadyH.nil
            go_simp
            refine hK.out _ _ ?hSs27x (fun hHeld => ?rests27x)
            case hSs27x => exact ⟨(DC.far (p := ⟨q, t * 3, none⟩) hdq _).cell 0, (DC.far (p := ⟨q, t * 3, none⟩) hdq _).cell 1⟩
            clear hK K
            (try simp only [Act.put, List.setIfInBounds_toArray, List.set_cons_zero, List.set_cons_succ])
            refine wpAnyH_done (by kernel_rfl) ?_ _
            go_wp2
            go_end0
            have KX := (Chg.refl [q] w').setCell (p := ⟨q, t * 3, none⟩) (by simp) (.slice (some ⟨g, 0, none⟩) 1 c')
            have own2 : w'.ownsRow 0 120 2 (.slice (some ⟨g, 0, none⟩) 1 c') 1 [.int .i64 a, .int .i64 b] := own'
            have hgq := own_ne own2 BC (by decide)
            have hsz := (KD.alloc (.cells #[.int .i64 a, .int .i64 b] 120)).size
            have hfr : ∀ g', (Value.slice (some ⟨g, 0, none⟩) 1 c').ownBlock = some g' → w.heap.size ≤ g' := fun g' hg'' => by
              have e : g = g' := by simpa [Value.ownBlock] using hg''
              omega
            have hno : ∀ g', (Value.slice (some ⟨g, 0, none⟩) 1 c').ownBlock = some g' → g' ∉ [q] := fun g' hg'' => by
              simp only [List.mem_singleton]
              intro e
              exact hgq (by rw [hg'', e])
            exact ⟨rfl, .slice (some ⟨g, 0, none⟩) 1 c', BC.set_ (t * 3) _, (Sl.of_own own2).chg KX hno, hfr, ((KD.alloc _).trans k' (by simp)).setCell (.inl (by simp)) _⟩
          exact AllReadyH.nil
        refine AllReadyH.cons (o := ?oob28) ?hib28 (fun K hK => ?stb28) ?moreb28
        case hib28 => (simp only [List.getElem?_toArray, List.getElem?_cons_zero, List.getElem?_cons_succ] <;> exact rfl)
        case stb28 =>
          go_simp
          refine hK.out _ _ ?hSb28 (fun hHeld => ?restb28)
          case hSb28 => first | exact ⟨DD.cell 0, DD.cell 1⟩ | exact ⟨DA.cell 0, DA.cell 1⟩
          clear hK K
          (try simp only [Act.put, List.setIfInBounds_toArray, List.set_cons_zero, List.set_cons_succ])
          refine wpAnyH_ready (rs := [13]) (by kernel_rfl) (by simp) ?_
          refine AllReadyH.cons (o := ?oob29) ?hib29 (fun K hK => ?stb29) ?moreb29
          case hib29 => (simp only [List.getElem?_toArray, List.getElem?_cons_zero, List.getElem?_cons_succ] <;> exact rfl)
          case stb29 =>
            go_simp
            refine hK.out _ _ ?hSb29 (fun hHeld => ?restb29)
            case hSb29 => first | exact ⟨DD.cell 0, DD.cell 1⟩ | exact ⟨DA.cell 0, DA.cell 1⟩
            clear hK K
            (try simp only [Act.put, List.setIfInBounds_toArray, List.set_cons_zero, List.set_cons_succ])
            refine wpAnyH_take (i := 14) (oi := ?oo45) (v := ?vv45) ?hi45 (by kernel_rfl) ?hf45 (by kernel_rfl) ?hq45 ?hy45 (by assumption) ?rest45
            case hi45 => (simp only [List.getElem?_toArray, List.getElem?_cons_zero, List.getElem?_cons_succ] <;> exact rfl)
            case hf45 => kernel_rfl
            case hq45 => exact fun _ _ _ h => h
            case hy45 => exact Or.inl ⟨by rfl, by intro w hSw; (try dsimp only at hSw); go_simp; try with_reducible rfl⟩
            (try simp only [Act.put, List.setIfInBounds_toArray, List.set_cons_zero, List.set_cons_succ])
            refine wpAnyH_take (i := 15) (oi := ?oo46) (v := ?vv46) ?hi46 (by kernel_rfl) ?hf46 (by kernel_rfl) ?hq46 ?hy46 (by assumption) ?rest46
            case hi46 => (simp only [List.getElem?_toArray, List.getElem?_cons_zero, List.getElem?_cons_succ] <;> exact rfl)
            case hf46 => kernel_rfl
            case hq46 => exact fun _ _ _ h => h
            case hy46 => exact Or.inl ⟨by rfl, by intro w hSw; (try dsimp only at hSw); go_simp; try with_reducible rfl⟩
            (try simp only [Act.put, List.setIfInBounds_toArray, List.set_cons_zero, List.set_cons_succ])
            refine wpAnyH_ready (rs := [18]) (by kernel_rfl) (by simp) ?_
            refine AllReadyH.cons (o := ?oos30) ?his30 (fun K hK => ?sts30) ?mores30
            case his30 => (simp only [List.getElem?_toArray, List.getElem?_cons_zero, List.getElem?_cons_succ] <;> exact rfl)
            case mores30 => exact AllReadyH.nil
            refine step_fresh rfl (.tmp 19) (.tmp 21) 110 rfl 120 (.agg #[.int .i64 0, .int .i64 0]) 2 16 Try.underlying110 info_open rfl (by decide) (by decide) none 0 0 [] rfl (fun _ => ⟨rfl, rfl⟩) rfl (fun b hb => by cases hb) ⟨W2.heap.size, 0, none⟩ 1 1 [.int .i64 a, .int .i64 b] rfl rfl (two_new W2 _ _ _ rfl) (by simp [Value.oneCell']) (by omega) (by omega) ?_
            intro g c' w' own' hg' k'
            have BC := BA.chg k' (by simp)
            have DC := DA.chg k' (by simp)
            have c3 := BC.cell (t * 3)
            have f3 := BC.frozen (t * 3)
            refine hK.out _ _ ?hSs30 (fun hHeld => ?rests30)
            case hSs30 => exact ⟨DC.cell 0, DC.cell 1⟩
            clear hK K
            (try simp only [Act.put, List.setIfInBounds_toArray, List.set_cons_zero, List.set_cons_succ])
            refine wpAnyH_take (i := 19) (oi := ?oo47) (v := ?vv47) ?hi47 (by kernel_rfl) ?hf47 (by kernel_rfl) ?hq47 ?hy47 (by assumption) ?rest47
            case hi47 => (simp only [List.getElem?_toArray, List.getElem?_cons_zero, List.getElem?_cons_succ] <;> exact rfl)
            case hf47 => kernel_rfl
            case hq47 => exact fun _ _ _ h => h
            case hy47 => exact Or.inl ⟨by rfl, by intro w hSw; (try dsimp only at hSw); go_simp; try with_reducible rfl⟩
            (try simp only [Act.put, List.setIfInBounds_toArray, List.set_cons_zero, List.set_cons_succ])
            refine wpAnyH_take (i := 20) (oi := ?oo48) (v := ?vv48) ?hi48 (by kernel_rfl) ?hf48 (by kernel_rfl) ?hq48 ?hy48 (by assumption) ?rest48
            case hi48 => (simp only [List.getElem?_toArray, List.getElem?_cons_zero, List.getElem?_cons_succ] <;> exact rfl)
            case hf48 => kernel_rfl
            case hq48 => exact fun _ _ _ h => h
            case hy48 => exact Or.inl ⟨by rfl, by intro w hSw; (try dsimp only at hSw); go_simp; try with_reducible rfl⟩
            (try simp only [Act.put, List.setIfInBounds_toArray, List.set_cons_zero, List.set_cons_succ])
            refine wpAnyH_ready (rs := [21]) (by kernel_rfl) (by simp) ?_
            refine AllReadyH.cons (o := ?oos30x) ?his30x (fun K hK => ?sts30x) ?mores30x
            case his30x => (simp only [List.getElem?_toArray, List.getElem?_cons_zero, List.getElem?_cons_succ] <;> exact rfl)
            case mores30x => exact AllReadyH.nil
            go_simp
            refine hK.out _ _ ?hSs30x (fun hHeld => ?rests30x)
            case hSs30x => exact ⟨(DC.far (p := ⟨q, t * 3, none⟩) hdq _).cell 0, (DC.far (p := ⟨q, t * 3, none⟩) hdq _).cell 1⟩
            clear hK K
            (try simp only [Act.put, List.setIfInBounds_toArray, List.set_cons_zero, List.set_cons_succ])
            refine wpAnyH_done (by kernel_rfl) ?_ _
            go_wp2
            go_end0
            have KX := (Chg.refl [q] w').setCell (p := ⟨q, t * 3, none⟩) (by simp) (.slice (some ⟨g, 0, none⟩) 1 c')
            have own2 : w'.ownsRow 0 120 2 (.slice (some ⟨g, 0, none⟩) 1 c') 1 [.int .i64 a, .int .i64 b] := own'
            have hgq := own_ne own2 BC (by decide)
            have hsz := (KD.alloc (.cells #[.int .i64 a, .int .i64 b] 120)).size
            have hfr : ∀ g', (Value.slice (some ⟨g, 0, none⟩) 1 c').ownBlock = some g' → w.heap.size ≤ g' := fun g' hg'' => by
              have e : g = g' := by simpa [Value.ownBlock] using hg''
              omega
            have hno : ∀ g', (Value.slice (some ⟨g, 0, none⟩) 1 c').ownBlock = some g' → g' ∉ [q] := fun g' hg'' => by
              simp only [List.mem_singleton]
              intro e
              exact hgq (by rw [hg'', e])
            exact ⟨rfl, .slice (some ⟨g, 0, none⟩) 1 c', BC.set_ (t * 3) _, (Sl.of_own own2).chg KX hno, hfr, ((KD.alloc _).trans k' (by simp)).setCell (.inl (by simp)) _⟩
          exact AllReadyH.nil
        exact AllReadyH.nil
      refine AllReadyH.cons (o := ?oob31) ?hib31 (fun K hK => ?stb31) ?moreb31
      case hib31 => (simp only [List.getElem?_toArray, List.getElem?_cons_zero, List.getElem?_cons_succ] <;> exact rfl)
      case stb31 =>
        go_simp
        refine hK.out _ _ ?hSb31 (fun hHeld => ?restb31)
        case hSb31 => first | exact ⟨DD.cell 0, DD.cell 1⟩ | exact ⟨DA.cell 0, DA.cell 1⟩
        clear hK K
        (try simp only [Act.put, List.setIfInBounds_toArray, List.set_cons_zero, List.set_cons_succ])
        refine wpAnyH_take (i := 14) (oi := ?oo49) (v := ?vv49) ?hi49 (by kernel_rfl) ?hf49 (by kernel_rfl) ?hq49 ?hy49 (by assumption) ?rest49
        case hi49 => (simp only [List.getElem?_toArray, List.getElem?_cons_zero, List.getElem?_cons_succ] <;> exact rfl)
        case hf49 => kernel_rfl
        case hq49 => exact fun _ _ _ h => h
        case hy49 => exact Or.inl ⟨by rfl, by intro w hSw; (try dsimp only at hSw); go_simp; try with_reducible rfl⟩
        (try simp only [Act.put, List.setIfInBounds_toArray, List.set_cons_zero, List.set_cons_succ])
        refine wpAnyH_ready (rs := [4, 17]) (by kernel_rfl) (by simp) ?_
        refine AllReadyH.cons (o := ?oob32) ?hib32 (fun K hK => ?stb32) ?moreb32
        case hib32 => (simp only [List.getElem?_toArray, List.getElem?_cons_zero, List.getElem?_cons_succ] <;> exact rfl)
        case stb32 =>
          go_simp
          refine hK.out _ _ ?hSb32 (fun hHeld => ?restb32)
          case hSb32 => first | exact ⟨DD.cell 0, DD.cell 1⟩ | exact ⟨DA.cell 0, DA.cell 1⟩
          clear hK K
          (try simp only [Act.put, List.setIfInBounds_toArray, List.set_cons_zero, List.set_cons_succ])
          refine wpAnyH_take (i := 15) (oi := ?oo50) (v := ?vv50) ?hi50 (by kernel_rfl) ?hf50 (by kernel_rfl) ?hq50 ?hy50 (by assumption) ?rest50
          case hi50 => (simp only [List.getElem?_toArray, List.getElem?_cons_zero, List.getElem?_cons_succ] <;> exact rfl)
          case hf50 => kernel_rfl
          case hq50 => exact fun _ _ _ h => h
          case hy50 => exact Or.inl ⟨by rfl, by intro w hSw; (try dsimp only at hSw); go_simp; try with_reducible rfl⟩
          (try simp only [Act.put, List.setIfInBounds_toArray, List.set_cons_zero, List.set_cons_succ])
          refine wpAnyH_ready (rs := [17]) (by kernel_rfl) (by simp) ?_
          refine AllReadyH.cons (o := ?oob33) ?hib33 (fun K hK => ?stb33) ?moreb33
          case hib33 => (simp only [List.getElem?_toArray, List.getElem?_cons_zero, List.getElem?_cons_succ] <;> exact rfl)
          case stb33 =>
            go_simp
            refine hK.out _ _ ?hSb33 (fun hHeld => ?restb33)
            case hSb33 => first | exact ⟨DD.cell 0, DD.cell 1⟩ | exact ⟨DA.cell 0, DA.cell 1⟩
            clear hK K
            (try simp only [Act.put, List.setIfInBounds_toArray, List.set_cons_zero, List.set_cons_succ])
            refine wpAnyH_ready (rs := [18]) (by kernel_rfl) (by simp) ?_
            refine AllReadyH.cons (o := ?oos34) ?his34 (fun K hK => ?sts34) ?mores34
            case his34 => (simp only [List.getElem?_toArray, List.getElem?_cons_zero, List.getElem?_cons_succ] <;> exact rfl)
            case mores34 => exact AllReadyH.nil
            refine step_fresh rfl (.tmp 19) (.tmp 21) 110 rfl 120 (.agg #[.int .i64 0, .int .i64 0]) 2 16 Try.underlying110 info_open rfl (by decide) (by decide) none 0 0 [] rfl (fun _ => ⟨rfl, rfl⟩) rfl (fun b hb => by cases hb) ⟨W2.heap.size, 0, none⟩ 1 1 [.int .i64 a, .int .i64 b] rfl rfl (two_new W2 _ _ _ rfl) (by simp [Value.oneCell']) (by omega) (by omega) ?_
            intro g c' w' own' hg' k'
            have BC := BA.chg k' (by simp)
            have DC := DA.chg k' (by simp)
            have c3 := BC.cell (t * 3)
            have f3 := BC.frozen (t * 3)
            refine hK.out _ _ ?hSs34 (fun hHeld => ?rests34)
            case hSs34 => exact ⟨DC.cell 0, DC.cell 1⟩
            clear hK K
            (try simp only [Act.put, List.setIfInBounds_toArray, List.set_cons_zero, List.set_cons_succ])
            refine wpAnyH_take (i := 19) (oi := ?oo51) (v := ?vv51) ?hi51 (by kernel_rfl) ?hf51 (by kernel_rfl) ?hq51 ?hy51 (by assumption) ?rest51
            case hi51 => (simp only [List.getElem?_toArray, List.getElem?_cons_zero, List.getElem?_cons_succ] <;> exact rfl)
            case hf51 => kernel_rfl
            case hq51 => exact fun _ _ _ h => h
            case hy51 => exact Or.inl ⟨by rfl, by intro w hSw; (try dsimp only at hSw); go_simp; try with_reducible rfl⟩
            (try simp only [Act.put, List.setIfInBounds_toArray, List.set_cons_zero, List.set_cons_succ])
            refine wpAnyH_take (i := 20) (oi := ?oo52) (v := ?vv52) ?hi52 (by kernel_rfl) ?hf52 (by kernel_rfl) ?hq52 ?hy52 (by assumption) ?rest52
            case hi52 => (simp only [List.getElem?_toArray, List.getElem?_cons_zero, List.getElem?_cons_succ] <;> exact rfl)
            case hf52 => kernel_rfl
            case hq52 => exact fun _ _ _ h => h
            case hy52 => exact Or.inl ⟨by rfl, by intro w hSw; (try dsimp only at hSw); go_simp; try with_reducible rfl⟩
            (try simp only [Act.put, List.setIfInBounds_toArray, List.set_cons_zero, List.set_cons_succ])
            refine wpAnyH_ready (rs := [21]) (by kernel_rfl) (by simp) ?_
            refine AllReadyH.cons (o := ?oos34x) ?his34x (fun K hK => ?sts34x) ?mores34x
            case his34x => (simp only [List.getElem?_toArray, List.getElem?_cons_zero, List.getElem?_cons_succ] <;> exact rfl)
            case mores34x => exact AllReadyH.nil
            go_simp
            refine hK.out _ _ ?hSs34x (fun hHeld => ?rests34x)
            case hSs34x => exact ⟨(DC.far (p := ⟨q, t * 3, none⟩) hdq _).cell 0, (DC.far (p := ⟨q, t * 3, none⟩) hdq _).cell 1⟩
            clear hK K
            (try simp only [Act.put, List.setIfInBounds_toArray, List.set_cons_zero, List.set_cons_succ])
            refine wpAnyH_done (by kernel_rfl) ?_ _
            go_wp2
            go_end0
            have KX := (Chg.refl [q] w').setCell (p := ⟨q, t * 3, none⟩) (by simp) (.slice (some ⟨g, 0, none⟩) 1 c')
            have own2 : w'.ownsRow 0 120 2 (.slice (some ⟨g, 0, none⟩) 1 c') 1 [.int .i64 a, .int .i64 b] := own'
            have hgq := own_ne own2 BC (by decide)
            have hsz := (KD.alloc (.cells #[.int .i64 a, .int .i64 b] 120)).size
            have hfr : ∀ g', (Value.slice (some ⟨g, 0, none⟩) 1 c').ownBlock = some g' → w.heap.size ≤ g' := fun g' hg'' => by
              have e : g = g' := by simpa [Value.ownBlock] using hg''
              omega
            have hno : ∀ g', (Value.slice (some ⟨g, 0, none⟩) 1 c').ownBlock = some g' → g' ∉ [q] := fun g' hg'' => by
              simp only [List.mem_singleton]
              intro e
              exact hgq (by rw [hg'', e])
            exact ⟨rfl, .slice (some ⟨g, 0, none⟩) 1 c', BC.set_ (t * 3) _, (Sl.of_own own2).chg KX hno, hfr, ((KD.alloc _).trans k' (by simp)).setCell (.inl (by simp)) _⟩
          exact AllReadyH.nil
        refine AllReadyH.cons (o := ?oob35) ?hib35 (fun K hK => ?stb35) ?moreb35
        case hib35 => (simp only [List.getElem?_toArray, List.getElem?_cons_zero, List.getElem?_cons_succ] <;> exact rfl)
        case stb35 =>
          go_simp
          refine hK.out _ _ ?hSb35 (fun hHeld => ?restb35)
          case hSb35 => first | exact ⟨DD.cell 0, DD.cell 1⟩ | exact ⟨DA.cell 0, DA.cell 1⟩
          clear hK K
          (try simp only [Act.put, List.setIfInBounds_toArray, List.set_cons_zero, List.set_cons_succ])
          refine wpAnyH_ready (rs := [4]) (by kernel_rfl) (by simp) ?_
          refine AllReadyH.cons (o := ?oob36) ?hib36 (fun K hK => ?stb36) ?moreb36
          case hib36 => (simp only [List.getElem?_toArray, List.getElem?_cons_zero, List.getElem?_cons_succ] <;> exact rfl)
          case stb36 =>
            go_simp
            refine hK.out _ _ ?hSb36 (fun hHeld => ?restb36)
            case hSb36 => first | exact ⟨DD.cell 0, DD.cell 1⟩ | exact ⟨DA.cell 0, DA.cell 1⟩
            clear hK K
            (try simp only [Act.put, List.setIfInBounds_toArray, List.set_cons_zero, List.set_cons_succ])
            refine wpAnyH_take (i := 15) (oi := ?oo53) (v := ?vv53) ?hi53 (by kernel_rfl) ?hf53 (by kernel_rfl) ?hq53 ?hy53 (by assumption) ?rest53
            case hi53 => (simp only [List.getElem?_toArray, List.getElem?_cons_zero, List.getElem?_cons_succ] <;> exact rfl)
            case hf53 => kernel_rfl
            case hq53 => exact fun _ _ _ h => h
            case hy53 => exact Or.inl ⟨by rfl, by intro w hSw; (try dsimp only at hSw); go_simp; try with_reducible rfl⟩
            (try simp only [Act.put, List.setIfInBounds_toArray, List.set_cons_zero, List.set_cons_succ])
            refine wpAnyH_ready (rs := [18]) (by kernel_rfl) (by simp) ?_
            refine AllReadyH.cons (o := ?oos37) ?his37 (fun K hK => ?sts37) ?mores37
            case his37 => (simp only [List.getElem?_toArray, List.getElem?_cons_zero, List.getElem?_cons_succ] <;> exact rfl)
            case mores37 => exact AllReadyH.nil
            refine step_fresh rfl (.tmp 19) (.tmp 21) 110 rfl 120 (.agg #[.int .i64 0, .int .i64 0]) 2 16 Try.underlying110 info_open rfl (by decide) (by decide) none 0 0 [] rfl (fun _ => ⟨rfl, rfl⟩) rfl (fun b hb => by cases hb) ⟨W2.heap.size, 0, none⟩ 1 1 [.int .i64 a, .int .i64 b] rfl rfl (two_new W2 _ _ _ rfl) (by simp [Value.oneCell']) (by omega) (by omega) ?_
            intro g c' w' own' hg' k'
            have BC := BA.chg k' (by simp)
            have DC := DA.chg k' (by simp)
            have c3 := BC.cell (t * 3)
            have f3 := BC.frozen (t * 3)
            refine hK.out _ _ ?hSs37 (fun hHeld => ?rests37)
            case hSs37 => exact ⟨DC.cell 0, DC.cell 1⟩
            clear hK K
            (try simp only [Act.put, List.setIfInBounds_toArray, List.set_cons_zero, List.set_cons_succ])
            refine wpAnyH_take (i := 19) (oi := ?oo54) (v := ?vv54) ?hi54 (by kernel_rfl) ?hf54 (by kernel_rfl) ?hq54 ?hy54 (by assumption) ?rest54
            case hi54 => (simp only [List.getElem?_toArray, List.getElem?_cons_zero, List.getElem?_cons_succ] <;> exact rfl)
            case hf54 => kernel_rfl
            case hq54 => exact fun _ _ _ h => h
            case hy54 => exact Or.inl ⟨by rfl, by intro w hSw; (try dsimp only at hSw); go_simp; try with_reducible rfl⟩
            (try simp only [Act.put, List.setIfInBounds_toArray, List.set_cons_zero, List.set_cons_succ])
            refine wpAnyH_take (i := 20) (oi := ?oo55) (v := ?vv55) ?hi55 (by kernel_rfl) ?hf55 (by kernel_rfl) ?hq55 ?hy55 (by assumption) ?rest55
            case hi55 => (simp only [List.getElem?_toArray, List.getElem?_cons_zero, List.getElem?_cons_succ] <;> exact rfl)
            case hf55 => kernel_rfl
            case hq55 => exact fun _ _ _ h => h
            case hy55 => exact Or.inl ⟨by rfl, by intro w hSw; (try dsimp only at hSw); go_simp; try with_reducible rfl⟩
            (try simp only [Act.put, List.setIfInBounds_toArray, List.set_cons_zero, List.set_cons_succ])
            refine wpAnyH_ready (rs := [21]) (by kernel_rfl) (by simp) ?_
            refine AllReadyH.cons (o := ?oos37x) ?his37x (fun K hK => ?sts37x) ?mores37x
            case his37x => (simp only [List.getElem?_toArray, List.getElem?_cons_zero, List.getElem?_cons_succ] <;> exact rfl)
            case mores37x => exact AllReadyH.nil
            go_simp
            refine hK.out _ _ ?hSs37x (fun hHeld => ?rests37x)
            case hSs37x => exact ⟨(DC.far (p := ⟨q, t * 3, none⟩) hdq _).cell 0, (DC.far (p := ⟨q, t * 3, none⟩) hdq _).cell 1⟩
            clear hK K
            (try simp only [Act.put, List.setIfInBounds_toArray, List.set_cons_zero, List.set_cons_succ])
            refine wpAnyH_done (by kernel_rfl) ?_ _
            go_wp2
            go_end0
            have KX := (Chg.refl [q] w').setCell (p := ⟨q, t * 3, none⟩) (by simp) (.slice (some ⟨g, 0, none⟩) 1 c')
            have own2 : w'.ownsRow 0 120 2 (.slice (some ⟨g, 0, none⟩) 1 c') 1 [.int .i64 a, .int .i64 b] := own'
            have hgq := own_ne own2 BC (by decide)
            have hsz := (KD.alloc (.cells #[.int .i64 a, .int .i64 b] 120)).size
            have hfr : ∀ g', (Value.slice (some ⟨g, 0, none⟩) 1 c').ownBlock = some g' → w.heap.size ≤ g' := fun g' hg'' => by
              have e : g = g' := by simpa [Value.ownBlock] using hg''
              omega
            have hno : ∀ g', (Value.slice (some ⟨g, 0, none⟩) 1 c').ownBlock = some g' → g' ∉ [q] := fun g' hg'' => by
              simp only [List.mem_singleton]
              intro e
              exact hgq (by rw [hg'', e])
            exact ⟨rfl, .slice (some ⟨g, 0, none⟩) 1 c', BC.set_ (t * 3) _, (Sl.of_own own2).chg KX hno, hfr, ((KD.alloc _).trans k' (by simp)).setCell (.inl (by simp)) _⟩
          exact AllReadyH.nil
        exact AllReadyH.nil
      refine AllReadyH.cons (o := ?oob38) ?hib38 (fun K hK => ?stb38) ?moreb38
      case hib38 => (simp only [List.getElem?_toArray, List.getElem?_cons_zero, List.getElem?_cons_succ] <;> exact rfl)
      case stb38 =>
        go_simp
        refine hK.out _ _ ?hSb38 (fun hHeld => ?restb38)
        case hSb38 => first | exact ⟨DD.cell 0, DD.cell 1⟩ | exact ⟨DA.cell 0, DA.cell 1⟩
        clear hK K
        (try simp only [Act.put, List.setIfInBounds_toArray, List.set_cons_zero, List.set_cons_succ])
        refine wpAnyH_ready (rs := [4, 13]) (by kernel_rfl) (by simp) ?_
        refine AllReadyH.cons (o := ?oob39) ?hib39 (fun K hK => ?stb39) ?moreb39
        case hib39 => (simp only [List.getElem?_toArray, List.getElem?_cons_zero, List.getElem?_cons_succ] <;> exact rfl)
        case stb39 =>
          go_simp
          refine hK.out _ _ ?hSb39 (fun hHeld => ?restb39)
          case hSb39 => first | exact ⟨DD.cell 0, DD.cell 1⟩ | exact ⟨DA.cell 0, DA.cell 1⟩
          clear hK K
          (try simp only [Act.put, List.setIfInBounds_toArray, List.set_cons_zero, List.set_cons_succ])
          refine wpAnyH_ready (rs := [13]) (by kernel_rfl) (by simp) ?_
          refine AllReadyH.cons (o := ?oob40) ?hib40 (fun K hK => ?stb40) ?moreb40
          case hib40 => (simp only [List.getElem?_toArray, List.getElem?_cons_zero, List.getElem?_cons_succ] <;> exact rfl)
          case stb40 =>
            go_simp
            refine hK.out _ _ ?hSb40 (fun hHeld => ?restb40)
            case hSb40 => first | exact ⟨DD.cell 0, DD.cell 1⟩ | exact ⟨DA.cell 0, DA.cell 1⟩
            clear hK K
            (try simp only [Act.put, List.setIfInBounds_toArray, List.set_cons_zero, List.set_cons_succ])
            refine wpAnyH_take (i := 14) (oi := ?oo56) (v := ?vv56) ?hi56 (by kernel_rfl) ?hf56 (by kernel_rfl) ?hq56 ?hy56 (by assumption) ?rest56
            case hi56 => (simp only [List.getElem?_toArray, List.getElem?_cons_zero, List.getElem?_cons_succ] <;> exact rfl)
            case hf56 => kernel_rfl
            case hq56 => exact fun _ _ _ h => h
            case hy56 => exact Or.inl ⟨by rfl, by intro w hSw; (try dsimp only at hSw); go_simp; try with_reducible rfl⟩
            (try simp only [Act.put, List.setIfInBounds_toArray, List.set_cons_zero, List.set_cons_succ])
            refine wpAnyH_take (i := 15) (oi := ?oo57) (v := ?vv57) ?hi57 (by kernel_rfl) ?hf57 (by kernel_rfl) ?hq57 ?hy57 (by assumption) ?rest57
            case hi57 => (simp only [List.getElem?_toArray, List.getElem?_cons_zero, List.getElem?_cons_succ] <;> exact rfl)
            case hf57 => kernel_rfl
            case hq57 => exact fun _ _ _ h => h
            case hy57 => exact Or.inl ⟨by rfl, by intro w hSw; (try dsimp only at hSw); go_simp; try with_reducible rfl⟩
            (try simp only [Act.put, List.setIfInBounds_toArray, List.set_cons_zero, List.set_cons_succ])
            refine wpAnyH_ready (rs := [18]) (by kernel_rfl) (by simp) ?_
            refine AllReadyH.cons (o := ?oos41) ?his41 (fun K hK => ?sts41) ?mores41
            case his41 => (simp only [List.getElem?_toArray, List.getElem?_cons_zero, List.getElem?_cons_succ] <;> exact rfl)
            case mores41 => exact AllReadyH.nil
            refine step_fresh rfl (.tmp 19) (.tmp 21) 110 rfl 120 (.agg #[.int .i64 0, .int .i64 0]) 2 16 Try.underlying110 info_open rfl (by decide) (by decide) none 0 0 [] rfl (fun _ => ⟨rfl, rfl⟩) rfl (fun b hb => by cases hb) ⟨W2.heap.size, 0, none⟩ 1 1 [.int .i64 a, .int .i64 b] rfl rfl (two_new W2 _ _ _ rfl) (by simp [Value.oneCell']) (by omega) (by omega) ?_
            intro g c' w' own' hg' k'
            have BC := BA.chg k' (by simp)
            have DC := DA.chg k' (by simp)
            have c3 := BC.cell (t * 3)
            have f3 := BC.frozen (t * 3)
            refine hK.out _ _ ?hSs41 (fun hHeld => ?rests41)
            case hSs41 => exact ⟨DC.cell 0, DC.cell 1⟩
            clear hK K
            (try simp only [Act.put, List.setIfInBounds_toArray, List.set_cons_zero, List.set_cons_succ])
            refine wpAnyH_take (i := 19) (oi := ?oo58) (v := ?vv58) ?hi58 (by kernel_rfl) ?hf58 (by kernel_rfl) ?hq58 ?hy58 (by assumption) ?rest58
            case hi58 => (simp only [List.getElem?_toArray, List.getElem?_cons_zero, List.getElem?_cons_succ] <;> exact rfl)
            case hf58 => kernel_rfl
            case hq58 => exact fun _ _ _ h => h
            case hy58 => exact Or.inl ⟨by rfl, by intro w hSw; (try dsimp only at hSw); go_simp; try with_reducible rfl⟩
            (try simp only [Act.put, List.setIfInBounds_toArray, List.set_cons_zero, List.set_cons_succ])
            refine wpAnyH_take (i := 20) (oi := ?oo59) (v := ?vv59) ?hi59 (by kernel_rfl) ?hf59 (by kernel_rfl) ?hq59 ?hy59 (by assumption) ?rest59
            case hi59 => (simp only [List.getElem?_toArray, List.getElem?_cons_zero, List.getElem?_cons_succ] <;> exact rfl)
            case hf59 => kernel_rfl
            case hq59 => exact fun _ _ _ h => h
            case hy59 => exact Or.inl ⟨by rfl, by intro w hSw; (try dsimp only at hSw); go_simp; try with_reducible rfl⟩
            (try simp only [Act.put, List.setIfInBounds_toArray, List.set_cons_zero, List.set_cons_succ])
            refine wpAnyH_ready (rs := [21]) (by kernel_rfl) (by simp) ?_
            refine AllReadyH.cons (o := ?oos41x) ?his41x (fun K hK => ?sts41x) ?mores41x
            case his41x => (simp only [List.getElem?_toArray, List.getElem?_cons_zero, List.getElem?_cons_succ] <;> exact rfl)
            case mores41x => exact AllReadyH.nil
            go_simp
            refine hK.out _ _ ?hSs41x (fun hHeld => ?rests41x)
            case hSs41x => exact ⟨(DC.far (p := ⟨q, t * 3, none⟩) hdq _).cell 0, (DC.far (p := ⟨q, t * 3, none⟩) hdq _).cell 1⟩
            clear hK K
            (try simp only [Act.put, List.setIfInBounds_toArray, List.set_cons_zero, List.set_cons_succ])
            refine wpAnyH_done (by kernel_rfl) ?_ _
            go_wp2
            go_end0
            have KX := (Chg.refl [q] w').setCell (p := ⟨q, t * 3, none⟩) (by simp) (.slice (some ⟨g, 0, none⟩) 1 c')
            have own2 : w'.ownsRow 0 120 2 (.slice (some ⟨g, 0, none⟩) 1 c') 1 [.int .i64 a, .int .i64 b] := own'
            have hgq := own_ne own2 BC (by decide)
            have hsz := (KD.alloc (.cells #[.int .i64 a, .int .i64 b] 120)).size
            have hfr : ∀ g', (Value.slice (some ⟨g, 0, none⟩) 1 c').ownBlock = some g' → w.heap.size ≤ g' := fun g' hg'' => by
              have e : g = g' := by simpa [Value.ownBlock] using hg''
              omega
            have hno : ∀ g', (Value.slice (some ⟨g, 0, none⟩) 1 c').ownBlock = some g' → g' ∉ [q] := fun g' hg'' => by
              simp only [List.mem_singleton]
              intro e
              exact hgq (by rw [hg'', e])
            exact ⟨rfl, .slice (some ⟨g, 0, none⟩) 1 c', BC.set_ (t * 3) _, (Sl.of_own own2).chg KX hno, hfr, ((KD.alloc _).trans k' (by simp)).setCell (.inl (by simp)) _⟩
          exact AllReadyH.nil
        refine AllReadyH.cons (o := ?oob42) ?hib42 (fun K hK => ?stb42) ?moreb42
        case hib42 => (simp only [List.getElem?_toArray, List.getElem?_cons_zero, List.getElem?_cons_succ] <;> exact rfl)
        case stb42 =>
          go_simp
          refine hK.out _ _ ?hSb42 (fun hHeld => ?restb42)
          case hSb42 => first | exact ⟨DD.cell 0, DD.cell 1⟩ | exact ⟨DA.cell 0, DA.cell 1⟩
          clear hK K
          (try simp only [Act.put, List.setIfInBounds_toArray, List.set_cons_zero, List.set_cons_succ])
          refine wpAnyH_take (i := 14) (oi := ?oo60) (v := ?vv60) ?hi60 (by kernel_rfl) ?hf60 (by kernel_rfl) ?hq60 ?hy60 (by assumption) ?rest60
          case hi60 => (simp only [List.getElem?_toArray, List.getElem?_cons_zero, List.getElem?_cons_succ] <;> exact rfl)
          case hf60 => kernel_rfl
          case hq60 => exact fun _ _ _ h => h
          case hy60 => exact Or.inl ⟨by rfl, by intro w hSw; (try dsimp only at hSw); go_simp; try with_reducible rfl⟩
          (try simp only [Act.put, List.setIfInBounds_toArray, List.set_cons_zero, List.set_cons_succ])
          refine wpAnyH_ready (rs := [4]) (by kernel_rfl) (by simp) ?_
          refine AllReadyH.cons (o := ?oob43) ?hib43 (fun K hK => ?stb43) ?moreb43
          case hib43 => (simp only [List.getElem?_toArray, List.getElem?_cons_zero, List.getElem?_cons_succ] <;> exact rfl)
          case stb43 =>
            go_simp
            refine hK.out _ _ ?hSb43 (fun hHeld => ?restb43)
            case hSb43 => first | exact ⟨DD.cell 0, DD.cell 1⟩ | exact ⟨DA.cell 0, DA.cell 1⟩
            clear hK K
            (try simp only [Act.put, List.setIfInBounds_toArray, List.set_cons_zero, List.set_cons_succ])
            refine wpAnyH_take (i := 15) (oi := ?oo61) (v := ?vv61) ?hi61 (by kernel_rfl) ?hf61 (by kernel_rfl) ?hq61 ?hy61 (by assumption) ?rest61
            case hi61 => (simp only [List.getElem?_toArray, List.getElem?_cons_zero, List.getElem?_cons_succ] <;> exact rfl)
            case hf61 => kernel_rfl
            case hq61 => exact fun _ _ _ h => h
            case hy61 => exact Or.inl ⟨by rfl, by intro w hSw; (try dsimp only at hSw); go_simp; try with_reducible rfl⟩
            (try simp only [Act.put, List.setIfInBounds_toArray, List.set_cons_zero, List.set_cons_succ])
            refine wpAnyH_ready (rs := [18]) (by kernel_rfl) (by simp) ?_
            refine AllReadyH.cons (o := ?oos44) ?his44 (fun K hK => ?sts44) ?mores44
            case his44 => (simp only [List.getElem?_toArray, List.getElem?_cons_zero, List.getElem?_cons_succ] <;> exact rfl)
            case mores44 => exact AllReadyH.nil
            refine step_fresh rfl (.tmp 19) (.tmp 21) 110 rfl 120 (.agg #[.int .i64 0, .int .i64 0]) 2 16 Try.underlying110 info_open rfl (by decide) (by decide) none 0 0 [] rfl (fun _ => ⟨rfl, rfl⟩) rfl (fun b hb => by cases hb) ⟨W2.heap.size, 0, none⟩ 1 1 [.int .i64 a, .int .i64 b] rfl rfl (two_new W2 _ _ _ rfl) (by simp [Value.oneCell']) (by omega) (by omega) ?_
            intro g c' w' own' hg' k'
            have BC := BA.chg k' (by simp)
            have DC := DA.chg k' (by simp)
            have c3 := BC.cell (t * 3)
            have f3 := BC.frozen (t * 3)
            refine hK.out _ _ ?hSs44 (fun hHeld => ?rests44)
            case hSs44 => exact ⟨DC.cell 0, DC.cell 1⟩
            clear hK K
            (try simp only [Act.put, List.setIfInBounds_toArray, List.set_cons_zero, List.set_cons_succ])
            refine wpAnyH_take (i := 19) (oi := ?oo62) (v := ?vv62) ?hi62 (by kernel_rfl) ?hf62 (by kernel_rfl) ?hq62 ?hy62 (by assumption) ?rest62
            case hi62 => (simp only [List.getElem?_toArray, List.getElem?_cons_zero, List.getElem?_cons_succ] <;> exact rfl)
            case hf62 => kernel_rfl
            case hq62 => exact fun _ _ _ h => h
            case hy62 => exact Or.inl ⟨by rfl, by intro w hSw; (try dsimp only at hSw); go_simp; try with_reducible rfl⟩
            (try simp only [Act.put, List.setIfInBounds_toArray, List.set_cons_zero, List.set_cons_succ])
            refine wpAnyH_take (i := 20) (oi := ?oo63) (v := ?vv63) ?hi63 (by kernel_rfl) ?hf63 (by kernel_rfl) ?hq63 ?hy63 (by assumption) ?rest63
            case hi63 => (simp only [List.getElem?_toArray, List.getElem?_cons_zero, List.getElem?_cons_succ] <;> exact rfl)
            case hf63 => kernel_rfl
            case hq63 => exact fun _ _ _ h => h
            case hy63 => exact Or.inl ⟨by rfl, by intro w hSw; (try dsimp only at hSw); go_simp; try with_reducible rfl⟩
            (try simp only [Act.put, List.setIfInBounds_toArray, List.set_cons_zero, List.set_cons_succ])
            refine wpAnyH_ready (rs := [21]) (by kernel_rfl) (by simp) ?_
            refine AllReadyH.cons (o := ?oos44x) ?his44x (fun K hK => ?sts44x) ?mores44x
            case his44x => (simp only [List.getElem?_toArray, List.getElem?_cons_zero, List.getElem?_cons_succ] <;> exact rfl)
            case mores44x => exact AllReadyH.nil
            go_simp
            refine hK.out _ _ ?hSs44x (fun hHeld => ?rests44x)
            case hSs44x => exact ⟨(DC.far (p := ⟨q, t * 3, none⟩) hdq _).cell 0, (DC.far (p := ⟨q, t * 3, none⟩) hdq _).cell 1⟩
            clear hK K
            (try simp only [Act.put, List.setIfInBounds_toArray, List.set_cons_zero, List.set_cons_succ])
            refine wpAnyH_done (by kernel_rfl) ?_ _
            go_wp2
            go_end0
            have KX := (Chg.refl [q] w').setCell (p := ⟨q, t * 3, none⟩) (by simp) (.slice (some ⟨g, 0, none⟩) 1 c')
            have own2 : w'.ownsRow 0 120 2 (.slice (some ⟨g, 0, none⟩) 1 c') 1 [.int .i64 a, .int .i64 b] := own'
            have hgq := own_ne own2 BC (by decide)
            have hsz := (KD.alloc (.cells #[.int .i64 a, .int .i64 b] 120)).size
            have hfr : ∀ g', (Value.slice (some ⟨g, 0, none⟩) 1 c').ownBlock = some g' → w.heap.size ≤ g' := fun g' hg'' => by
              have e : g = g' := by simpa [Value.ownBlock] using hg''
              omega
            have hno : ∀ g', (Value.slice (some ⟨g, 0, none⟩) 1 c').ownBlock = some g' → g' ∉ [q] := fun g' hg'' => by
              simp only [List.mem_singleton]
              intro e
              exact hgq (by rw [hg'', e])
            exact ⟨rfl, .slice (some ⟨g, 0, none⟩) 1 c', BC.set_ (t * 3) _, (Sl.of_own own2).chg KX hno, hfr, ((KD.alloc _).trans k' (by simp)).setCell (.inl (by simp)) _⟩
          exact AllReadyH.nil
        exact AllReadyH.nil
      exact AllReadyH.nil
    refine AllReadyH.cons (o := ?oob45) ?hib45 (fun K hK => ?stb45) ?moreb45
    case hib45 => (simp only [List.getElem?_toArray, List.getElem?_cons_zero, List.getElem?_cons_succ] <;> exact rfl)
    case stb45 =>
      go_simp
      refine hK.out _ _ ?hSb45 (fun hHeld => ?restb45)
      case hSb45 => first | exact ⟨DD.cell 0, DD.cell 1⟩ | exact ⟨DA.cell 0, DA.cell 1⟩
      clear hK K
      (try simp only [Act.put, List.setIfInBounds_toArray, List.set_cons_zero, List.set_cons_succ])
      refine wpAnyH_take (i := 14) (oi := ?oo64) (v := ?vv64) ?hi64 (by kernel_rfl) ?hf64 (by kernel_rfl) ?hq64 ?hy64 (by assumption) ?rest64
      case hi64 => (simp only [List.getElem?_toArray, List.getElem?_cons_zero, List.getElem?_cons_succ] <;> exact rfl)
      case hf64 => kernel_rfl
      case hq64 => exact fun _ _ _ h => h
      case hy64 => exact Or.inl ⟨by rfl, by intro w hSw; (try dsimp only at hSw); go_simp; try with_reducible rfl⟩
      (try simp only [Act.put, List.setIfInBounds_toArray, List.set_cons_zero, List.set_cons_succ])
      refine wpAnyH_ready (rs := [4, 8, 17]) (by kernel_rfl) (by simp) ?_
      refine AllReadyH.cons (o := ?oob46) ?hib46 (fun K hK => ?stb46) ?moreb46
      case hib46 => (simp only [List.getElem?_toArray, List.getElem?_cons_zero, List.getElem?_cons_succ] <;> exact rfl)
      case stb46 =>
        go_simp
        refine hK.out _ _ ?hSb46 (fun hHeld => ?restb46)
        case hSb46 => first | exact ⟨DD.cell 0, DD.cell 1⟩ | exact ⟨DA.cell 0, DA.cell 1⟩
        clear hK K
        (try simp only [Act.put, List.setIfInBounds_toArray, List.set_cons_zero, List.set_cons_succ])
        refine wpAnyH_ready (rs := [8, 17]) (by kernel_rfl) (by simp) ?_
        refine AllReadyH.cons (o := ?oob47) ?hib47 (fun K hK => ?stb47) ?moreb47
        case hib47 => (simp only [List.getElem?_toArray, List.getElem?_cons_zero, List.getElem?_cons_succ] <;> exact rfl)
        case stb47 =>
          go_simp
          refine hK.out _ _ ?hSb47 (fun hHeld => ?restb47)
          case hSb47 => first | exact ⟨DD.cell 0, DD.cell 1⟩ | exact ⟨DA.cell 0, DA.cell 1⟩
          clear hK K
          (try simp only [Act.put, List.setIfInBounds_toArray, List.set_cons_zero, List.set_cons_succ])
          refine wpAnyH_take (i := 9) (oi := ?oo65) (v := ?vv65) ?hi65 (by kernel_rfl) ?hf65 (by kernel_rfl) ?hq65 ?hy65 (by assumption) ?rest65
          case hi65 => (simp only [List.getElem?_toArray, List.getElem?_cons_zero, List.getElem?_cons_succ] <;> exact rfl)
          case hf65 => kernel_rfl
          case hq65 => exact fun _ _ _ h => h
          case hy65 => exact Or.inl ⟨by rfl, by intro w hSw; (try dsimp only at hSw); go_simp; try with_reducible rfl⟩
          (try simp only [Act.put, List.setIfInBounds_toArray, List.set_cons_zero, List.set_cons_succ])
          refine wpAnyH_take (i := 15) (oi := ?oo66) (v := ?vv66) ?hi66 (by kernel_rfl) ?hf66 (by kernel_rfl) ?hq66 ?hy66 (by assumption) ?rest66
          case hi66 => (simp only [List.getElem?_toArray, List.getElem?_cons_zero, List.getElem?_cons_succ] <;> exact rfl)
          case hf66 => kernel_rfl
          case hq66 => exact fun _ _ _ h => h
          case hy66 => exact Or.inl ⟨by rfl, by intro w hSw; (try dsimp only at hSw); go_simp; try with_reducible rfl⟩
          (try simp only [Act.put, List.setIfInBounds_toArray, List.set_cons_zero, List.set_cons_succ])
          refine wpAnyH_ready (rs := [17]) (by kernel_rfl) (by simp) ?_
          refine AllReadyH.cons (o := ?oob48) ?hib48 (fun K hK => ?stb48) ?moreb48
          case hib48 => (simp only [List.getElem?_toArray, List.getElem?_cons_zero, List.getElem?_cons_succ] <;> exact rfl)
          case stb48 =>
            go_simp
            refine hK.out _ _ ?hSb48 (fun hHeld => ?restb48)
            case hSb48 => first | exact ⟨DD.cell 0, DD.cell 1⟩ | exact ⟨DA.cell 0, DA.cell 1⟩
            clear hK K
            (try simp only [Act.put, List.setIfInBounds_toArray, List.set_cons_zero, List.set_cons_succ])
            refine wpAnyH_ready (rs := [18]) (by kernel_rfl) (by simp) ?_
            refine AllReadyH.cons (o := ?oos49) ?his49 (fun K hK => ?sts49) ?mores49
            case his49 => (simp only [List.getElem?_toArray, List.getElem?_cons_zero, List.getElem?_cons_succ] <;> exact rfl)
            case mores49 => exact AllReadyH.nil
            refine step_fresh rfl (.tmp 19) (.tmp 21) 110 rfl 120 (.agg #[.int .i64 0, .int .i64 0]) 2 16 Try.underlying110 info_open rfl (by decide) (by decide) none 0 0 [] rfl (fun _ => ⟨rfl, rfl⟩) rfl (fun b hb => by cases hb) ⟨W2.heap.size, 0, none⟩ 1 1 [.int .i64 a, .int .i64 b] rfl rfl (two_new W2 _ _ _ rfl) (by simp [Value.oneCell']) (by omega) (by omega) ?_
            intro g c' w' own' hg' k'
            have BC := BA.chg k' (by simp)
            have DC := DA.chg k' (by simp)
            have c3 := BC.cell (t * 3)
            have f3 := BC.frozen (t * 3)
            refine hK.out _ _ ?hSs49 (fun hHeld => ?rests49)
            case hSs49 => exact ⟨DC.cell 0, DC.cell 1⟩
            clear hK K
            (try simp only [Act.put, List.setIfInBounds_toArray, List.set_cons_zero, List.set_cons_succ])
            refine wpAnyH_take (i := 19) (oi := ?oo67) (v := ?vv67) ?hi67 (by kernel_rfl) ?hf67 (by kernel_rfl) ?hq67 ?hy67 (by assumption) ?rest67
            case hi67 => (simp only [List.getElem?_toArray, List.getElem?_cons_zero, List.getElem?_cons_succ] <;> exact rfl)
            case hf67 => kernel_rfl
            case hq67 => exact fun _ _ _ h => h
            case hy67 => exact Or.inl ⟨by rfl, by intro w hSw; (try dsimp only at hSw); go_simp; try with_reducible rfl⟩
            (try simp only [Act.put, List.setIfInBounds_toArray, List.set_cons_zero, List.set_cons_succ])
            refine wpAnyH_take (i := 20) (oi := ?oo68) (v := ?vv68) ?hi68 (by kernel_rfl) ?hf68 (by kernel_rfl) ?hq68 ?hy68 (by assumption) ?rest68
            case hi68 => (simp only [List.getElem?_toArray, List.getElem?_cons_zero, List.getElem?_cons_succ] <;> exact rfl)
            case hf68 => kernel_rfl
            case hq68 => exact fun _ _ _ h => h
            case hy68 => exact Or.inl ⟨by rfl, by intro w hSw; (try dsimp only at hSw); go_simp; try with_reducible rfl⟩
            (try simp only [Act.put, List.setIfInBounds_toArray, List.set_cons_zero, List.set_cons_succ])
            refine wpAnyH_ready (rs := [21]) (by kernel_rfl) (by simp) ?_
            refine AllReadyH.cons (o := ?oos49x) ?his49x (fun K hK => ?sts49x) ?mores49x
            case his49x => (simp only [List.getElem?_toArray, List.getElem?_cons_zero, List.getElem?_cons_succ] <;> exact rfl)
            case mores49x => exact AllReadyH.nil
            go_simp
            refine hK.out _ _ ?hSs49x (fun hHeld => ?rests49x)
            case hSs49x => exact ⟨(DC.far (p := ⟨q, t * 3, none⟩) hdq _).cell 0, (DC.far (p := ⟨q, t * 3, none⟩) hdq _).cell 1⟩
            clear hK K
            (try simp only [Act.put, List.setIfInBounds_toArray, List.set_cons_zero, List.set_cons_succ])
            refine wpAnyH_done (by kernel_rfl) ?_ _
            go_wp2
            go_end0
            have KX := (Chg.refl [q] w').setCell (p := ⟨q, t * 3, none⟩) (by simp) (.slice (some ⟨g, 0, none⟩) 1 c')
            have own2 : w'.ownsRow 0 120 2 (.slice (some ⟨g, 0, none⟩) 1 c') 1 [.int .i64 a, .int .i64 b] := own'
            have hgq := own_ne own2 BC (by decide)
            have hsz := (KD.alloc (.cells #[.int .i64 a, .int .i64 b] 120)).size
            have hfr : ∀ g', (Value.slice (some ⟨g, 0, none⟩) 1 c').ownBlock = some g' → w.heap.size ≤ g' := fun g' hg'' => by
              have e : g = g' := by simpa [Value.ownBlock] using hg''
              omega
            have hno : ∀ g', (Value.slice (some ⟨g, 0, none⟩) 1 c').ownBlock = some g' → g' ∉ [q] := fun g' hg'' => by
              simp only [List.mem_singleton]
              intro e
              exact hgq (by rw [hg'', e])
            exact ⟨rfl, .slice (some ⟨g, 0, none⟩) 1 c', BC.set_ (t * 3) _, (Sl.of_own own2).chg KX hno, hfr, ((KD.alloc _).trans k' (by simp)).setCell (.inl (by simp)) _⟩
          exact AllReadyH.nil
        refine AllReadyH.cons (o := ?oob50) ?hib50 (fun K hK => ?stb50) ?moreb50
        case hib50 => (simp only [List.getElem?_toArray, List.getElem?_cons_zero, List.getElem?_cons_succ] <;> exact rfl)
        case stb50 =>
          go_simp
          refine hK.out _ _ ?hSb50 (fun hHeld => ?restb50)
          case hSb50 => first | exact ⟨DD.cell 0, DD.cell 1⟩ | exact ⟨DA.cell 0, DA.cell 1⟩
          clear hK K
          (try simp only [Act.put, List.setIfInBounds_toArray, List.set_cons_zero, List.set_cons_succ])
          refine wpAnyH_ready (rs := [8]) (by kernel_rfl) (by simp) ?_
          refine AllReadyH.cons (o := ?oob51) ?hib51 (fun K hK => ?stb51) ?moreb51
          case hib51 => (simp only [List.getElem?_toArray, List.getElem?_cons_zero, List.getElem?_cons_succ] <;> exact rfl)
          case stb51 =>
            go_simp
            refine hK.out _ _ ?hSb51 (fun hHeld => ?restb51)
            case hSb51 => first | exact ⟨DD.cell 0, DD.cell 1⟩ | exact ⟨DA.cell 0, DA.cell 1⟩
            clear hK K
            (try simp only [Act.put, List.setIfInBounds_toArray, List.set_cons_zero, List.set_cons_succ])
            refine wpAnyH_take (i := 9) (oi := ?oo69) (v := ?vv69) ?hi69 (by kernel_rfl) ?hf69 (by kernel_rfl) ?hq69 ?hy69 (by assumption) ?rest69
            case hi69 => (simp only [List.getElem?_toArray, List.getElem?_cons_zero, List.getElem?_cons_succ] <;> exact rfl)
            case hf69 => kernel_rfl
            case hq69 => exact fun _ _ _ h => h
            case hy69 => exact Or.inl ⟨by rfl, by intro w hSw; (try dsimp only at hSw); go_simp; try with_reducible rfl⟩
            (try simp only [Act.put, List.setIfInBounds_toArray, List.set_cons_zero, List.set_cons_succ])
            refine wpAnyH_take (i := 15) (oi := ?oo70) (v := ?vv70) ?hi70 (by kernel_rfl) ?hf70 (by kernel_rfl) ?hq70 ?hy70 (by assumption) ?rest70
            case hi70 => (simp only [List.getElem?_toArray, List.getElem?_cons_zero, List.getElem?_cons_succ] <;> exact rfl)
            case hf70 => kernel_rfl
            case hq70 => exact fun _ _ _ h => h
            case hy70 => exact Or.inl ⟨by rfl, by intro w hSw; (try dsimp only at hSw); go_simp; try with_reducible rfl⟩
            (try simp only [Act.put, List.setIfInBounds_toArray, List.set_cons_zero, List.set_cons_succ])
            refine wpAnyH_ready (rs := [18]) (by kernel_rfl) (by simp) ?_
            refine AllReadyH.cons (o := ?oos52) ?his52 (fun K hK => ?sts52) ?mores52
            case his52 => (simp only [List.getElem?_toArray, List.getElem?_cons_zero, List.getElem?_cons_succ] <;> exact rfl)
            case mores52 => exact AllReadyH.nil
            refine step_fresh rfl (.tmp 19) (.tmp 21) 110 rfl 120 (.agg #[.int .i64 0, .int .i64 0]) 2 16 Try.underlying110 info_open rfl (by decide) (by decide) none 0 0 [] rfl (fun _ => ⟨rfl, rfl⟩) rfl (fun b hb => by cases hb) ⟨W2.heap.size, 0, none⟩ 1 1 [.int .i64 a, .int .i64 b] rfl rfl (two_new W2 _ _ _ rfl) (by simp [Value.oneCell']) (by omega) (by omega) ?_
            intro g c' w' own' hg' k'
            have BC := BA.chg k' (by simp)
            have DC := DA.chg k' (by simp)
            have c3 := BC.cell (t * 3)
            have f3 := BC.frozen (t * 3)
            refine hK.out _ _ ?hSs52 (fun hHeld => ?rests52)
            case hSs52 => exact ⟨DC.cell 0, DC.cell 1⟩
            clear hK K
            (try simp only [Act.put, List.setIfInBounds_toArray, List.set_cons_zero, List.set_cons_succ])
            refine wpAnyH_take (i := 19) (oi := ?oo71) (v := ?vv71) ?hi71 (by kernel_rfl) ?hf71 (by kernel_rfl) ?hq71 ?hy71 (by assumption) ?rest71
            case hi71 => (simp only [List.getElem?_toArray, List.getElem?_cons_zero, List.getElem?_cons_succ] <;> exact rfl)
            case hf71 => kernel_rfl
            case hq71 => exact fun _ _ _ h => h
            case hy71 => exact Or.inl ⟨by rfl, by intro w hSw; (try dsimp only at hSw); go_simp; try with_reducible rfl⟩
            (try simp only [Act.put, List.setIfInBounds_toArray, List.set_cons_zero, List.set_cons_succ])
            refine wpAnyH_take (i := 20) (oi := ?oo72) (v := ?vv72) ?hi72 (by kernel_rfl) ?hf72 (by kernel_rfl) ?hq72 ?hy72 (by assumption) ?rest72
            case hi72 => (simp only [List.getElem?_toArray, List.getElem?_cons_zero, List.getElem?_cons_succ] <;> exact rfl)
            case hf72 => kernel_rfl
            case hq72 => exact fun _ _ _ h => h
            case hy72 => exact Or.inl ⟨by rfl, by intro w hSw; (try dsimp only at hSw); go_simp; try with_reducible rfl⟩
            (try simp only [Act.put, List.setIfInBounds_toArray, List.set_cons_zero, List.set_cons_succ])
            refine wpAnyH_ready (rs := [21]) (by kernel_rfl) (by simp) ?_
            refine AllReadyH.cons (o := ?oos52x) ?his52x (fun K hK => ?sts52x) ?mores52x
            case his52x => (simp only [List.getElem?_toArray, List.getElem?_cons_zero, List.getElem?_cons_succ] <;> exact rfl)
            case mores52x => exact AllReadyH.nil
            go_simp
            refine hK.out _ _ ?hSs52x (fun hHeld => ?rests52x)
            case hSs52x => exact ⟨(DC.far (p := ⟨q, t * 3, none⟩) hdq _).cell 0, (DC.far (p := ⟨q, t * 3, none⟩) hdq _).cell 1⟩
            clear hK K
            (try simp only [Act.put, List.setIfInBounds_toArray, List.set_cons_zero, List.set_cons_succ])
            refine wpAnyH_done (by kernel_rfl) ?_ _
            go_wp2
            go_end0
            have KX := (Chg.refl [q] w').setCell (p := ⟨q, t * 3, none⟩) (by simp) (.slice (some ⟨g, 0, none⟩) 1 c')
            have own2 : w'.ownsRow 0 120 2 (.slice (some ⟨g, 0, none⟩) 1 c') 1 [.int .i64 a, .int .i64 b] := own'
            have hgq := own_ne own2 BC (by decide)
            have hsz := (KD.alloc (.cells #[.int .i64 a, .int .i64 b] 120)).size
            have hfr : ∀ g', (Value.slice (some ⟨g, 0, none⟩) 1 c').ownBlock = some g' → w.heap.size ≤ g' := fun g' hg'' => by
              have e : g = g' := by simpa [Value.ownBlock] using hg''
              omega
            have hno : ∀ g', (Value.slice (some ⟨g, 0, none⟩) 1 c').ownBlock = some g' → g' ∉ [q] := fun g' hg'' => by
              simp only [List.mem_singleton]
              intro e
              exact hgq (by rw [hg'', e])
            exact ⟨rfl, .slice (some ⟨g, 0, none⟩) 1 c', BC.set_ (t * 3) _, (Sl.of_own own2).chg KX hno, hfr, ((KD.alloc _).trans k' (by simp)).setCell (.inl (by simp)) _⟩
          exact AllReadyH.nil
        exact AllReadyH.nil
      refine AllReadyH.cons (o := ?oob53) ?hib53 (fun K hK => ?stb53) ?moreb53
      case hib53 => (simp only [List.getElem?_toArray, List.getElem?_cons_zero, List.getElem?_cons_succ] <;> exact rfl)
      case stb53 =>
        go_simp
        refine hK.out _ _ ?hSb53 (fun hHeld => ?restb53)
        case hSb53 => first | exact ⟨DD.cell 0, DD.cell 1⟩ | exact ⟨DA.cell 0, DA.cell 1⟩
        clear hK K
        (try simp only [Act.put, List.setIfInBounds_toArray, List.set_cons_zero, List.set_cons_succ])
        refine wpAnyH_take (i := 9) (oi := ?oo73) (v := ?vv73) ?hi73 (by kernel_rfl) ?hf73 (by kernel_rfl) ?hq73 ?hy73 (by assumption) ?rest73
        case hi73 => (simp only [List.getElem?_toArray, List.getElem?_cons_zero, List.getElem?_cons_succ] <;> exact rfl)
        case hf73 => kernel_rfl
        case hq73 => exact fun _ _ _ h => h
        case hy73 => exact Or.inl ⟨by rfl, by intro w hSw; (try dsimp only at hSw); go_simp; try with_reducible rfl⟩
        (try simp only [Act.put, List.setIfInBounds_toArray, List.set_cons_zero, List.set_cons_succ])
        refine wpAnyH_ready (rs := [4, 17]) (by kernel_rfl) (by simp) ?_
        refine AllReadyH.cons (o := ?oob54) ?hib54 (fun K hK => ?stb54) ?moreb54
        case hib54 => (simp only [List.getElem?_toArray, List.getElem?_cons_zero, List.getElem?_cons_succ] <;> exact rfl)
        case stb54 =>
          go_simp
          refine hK.out _ _ ?hSb54 (fun hHeld => ?restb54)
          case hSb54 => first | exact ⟨DD.cell 0, DD.cell 1⟩ | exact ⟨DA.cell 0, DA.cell 1⟩
          clear hK K
          (try simp only [Act.put, List.setIfInBounds_toArray, List.set_cons_zero, List.set_cons_succ])
          refine wpAnyH_take (i := 15) (oi := ?oo74) (v := ?vv74) ?hi74 (by kernel_rfl) ?hf74 (by kernel_rfl) ?hq74 ?hy74 (by assumption) ?rest74
          case hi74 => (simp only [List.getElem?_toArray, List.getElem?_cons_zero, List.getElem?_cons_succ] <;> exact rfl)
          case hf74 => kernel_rfl
          case hq74 => exact fun _ _ _ h => h
          case hy74 => exact Or.inl ⟨by rfl, by intro w hSw; (try dsimp only at hSw); go_simp; try with_reducible rfl⟩
          (try simp only [Act.put, List.setIfInBounds_toArray, List.set_cons_zero, List.set_cons_succ])
          refine wpAnyH_ready (rs := [17]) (by kernel_rfl) (by simp) ?_
          refine AllReadyH.cons (o := ?oob55) ?hib55 (fun K hK => ?stb55) ?moreb55
          case hib55 => (simp only [List.getElem?_toArray, List.getElem?_cons_zero, List.getElem?_cons_succ] <;> exact rfl)
          case stb55 =>
            go_simp
            refine hK.out _ _ ?hSb55 (fun hHeld => ?restb55)
            case hSb55 => first | exact ⟨DD.cell 0, DD.cell 1⟩ | exact ⟨DA.cell 0, DA.cell 1⟩
            clear hK K
            (try simp only [Act.put, List.setIfInBounds_toArray, List.set_cons_zero, List.set_cons_succ])
            refine wpAnyH_ready (rs := [18]) (by kernel_rfl) (by simp) ?_
            refine AllReadyH.cons (o := ?oos56) ?his56 (fun K hK => ?sts56) ?mores56
            case his56 => (simp only [List.getElem?_toArray, List.getElem?_cons_zero, List.getElem?_cons_succ] <;> exact rfl)
            case mores56 => exact AllReadyH.nil
            refine step_fresh rfl (.tmp 19) (.tmp 21) 110 rfl 120 (.agg #[.int .i64 0, .int .i64 0]) 2 16 Try.underlying110 info_open rfl (by decide) (by decide) none 0 0 [] rfl (fun _ => ⟨rfl, rfl⟩) rfl (fun b hb => by cases hb) ⟨W2.heap.size, 0, none⟩ 1 1 [.int .i64 a, .int .i64 b] rfl rfl (two_new W2 _ _ _ rfl) (by simp [Value.oneCell']) (by omega) (by omega) ?_
            intro g c' w' own' hg' k'
            have BC := BA.chg k' (by simp)
            have DC := DA.chg k' (by simp)
            have c3 := BC.cell (t * 3)
            have f3 := BC.frozen (t * 3)
            refine hK.out _ _ ?hSs56 (fun hHeld => ?rests56)
            case hSs56 => exact ⟨DC.cell 0, DC.cell 1⟩
            clear hK K
            (try simp only [Act.put, List.setIfInBounds_toArray, List.set_cons_zero, List.set_cons_succ])
            refine wpAnyH_take (i := 19) (oi := ?oo75) (v := ?vv75) ?hi75 (by kernel_rfl) ?hf75 (by kernel_rfl) ?hq75 ?hy75 (by assumption) ?rest75
            case hi75 => (simp only [List.getElem?_toArray, List.getElem?_cons_zero, List.getElem?_cons_succ] <;> exact rfl)
            case hf75 => kernel_rfl
            case hq75 => exact fun _ _ _ h => h
            case hy75 => exact Or.inl ⟨by rfl, by intro w hSw; (try dsimp only at hSw); go_simp; try with_reducible rfl⟩
            (try simp only [Act.put, List.setIfInBounds_toArray, List.set_cons_zero, List.set_cons_succ])
            refine wpAnyH_take (i := 20) (oi := ?oo76) (v := ?vv76) ?hi76 (by kernel_rfl) ?hf76 (by kernel_rfl) ?hq76 ?hy76 (by assumption) ?rest76
            case hi76 => (simp only [List.getElem?_toArray, List.getElem?_cons_zero, List.getElem?_cons_succ] <;> exact rfl)
            case hf76 => kernel_rfl
            case hq76 => exact fun _ _ _ h => h
            case hy76 => exact Or.inl ⟨by rfl, by intro w hSw; (try dsimp only at hSw); go_simp; try with_reducible rfl⟩
            (try simp only [Act.put, List.setIfInBounds_toArray, List.set_cons_zero, List.set_cons_succ])
            refine wpAnyH_ready (rs := [21]) (by kernel_rfl) (by simp) ?_
            refine AllReadyH.cons (o := ?oos56x) ?his56x (fun K hK => ?sts56x) ?mores56x
            case his56x => (simp only [List.getElem?_toArray, List.getElem?_cons_zero, List.getElem?_cons_succ] <;> exact rfl)
            case mores56x => exact AllReadyH.nil
            go_simp
            refine hK.out _ _ ?hSs56x (fun hHeld => ?rests56x)
            case hSs56x => exact ⟨(DC.far (p := ⟨q, t * 3, none⟩) hdq _).cell 0, (DC.far (p := ⟨q, t * 3, none⟩) hdq _).cell 1⟩
            clear hK K
            (try simp only [Act.put, List.setIfInBounds_toArray, List.set_cons_zero, List.set_cons_succ])
            refine wpAnyH_done (by kernel_rfl) ?_ _
            go_wp2
            go_end0
            have KX := (Chg.refl [q] w').setCell (p := ⟨q, t * 3, none⟩) (by simp) (.slice (some ⟨g, 0, none⟩) 1 c')
            have own2 : w'.ownsRow 0 120 2 (.slice (some ⟨g, 0, none⟩) 1 c') 1 [.int .i64 a, .int .i64 b] := own'
            have hgq := own_ne own2 BC (by decide)
            have hsz := (KD.alloc (.cells #[.int .i64 a, .int .i64 b] 120)).size
            have hfr : ∀ g', (Value.slice (some ⟨g, 0, none⟩) 1 c').ownBlock = some g' → w.heap.size ≤ g' := fun g' hg'' => by
              have e : g = g' := by simpa [Value.ownBlock] using hg''
              omega
            have hno : ∀ g', (Value.slice (some ⟨g, 0, none⟩) 1 c').ownBlock = some g' → g' ∉ [q] := fun g' hg'' => by
              simp only [List.mem_singleton]
              intro e
              exact hgq (by rw [hg'', e])
            exact ⟨rfl, .slice (some ⟨g, 0, none⟩) 1 c', BC.set_ (t * 3) _, (Sl.of_own own2).chg KX hno, hfr, ((KD.alloc _).trans k' (by simp)).setCell (.inl (by simp)) _⟩
          exact AllReadyH.nil
        refine AllReadyH.cons (o := ?oob57) ?hib57 (fun K hK => ?stb57) ?moreb57
        case hib57 => (simp only [List.getElem?_toArray, List.getElem?_cons_zero, List.getElem?_cons_succ] <;> exact rfl)
        case stb57 =>
          go_simp
          refine hK.out _ _ ?hSb57 (fun hHeld => ?restb57)
          case hSb57 => first | exact ⟨DD.cell 0, DD.cell 1⟩ | exact ⟨DA.cell 0, DA.cell 1⟩
          clear hK K
          (try simp only [Act.put, List.setIfInBounds_toArray, List.set_cons_zero, List.set_cons_succ])
          refine wpAnyH_ready (rs := [4]) (by kernel_rfl) (by simp) ?_
          refine AllReadyH.cons (o := ?oob58) ?hib58 (fun K hK => ?stb58) ?moreb58
          case hib58 => (simp only [List.getElem?_toArray, List.getElem?_cons_zero, List.getElem?_cons_succ] <;> exact rfl)
          case stb58 =>
            go_simp
            refine hK.out _ _ ?hSb58 (fun hHeld => ?restb58)
            case hSb58 => first | exact ⟨DD.cell 0, DD.cell 1⟩ | exact ⟨DA.cell 0, DA.cell 1⟩
            clear hK K
            (try simp only [Act.put, List.setIfInBounds_toArray, List.set_cons_zero, List.set_cons_succ])
            refine wpAnyH_take (i := 15) (oi := ?oo77) (v := ?vv77) ?hi77 (by kernel_rfl) ?hf77 (by kernel_rfl) ?hq77 ?hy77 (by assumption) ?rest77
            case hi77 => (simp only [List.getElem?_toArray, List.getElem?_cons_zero, List.getElem?_cons_succ] <;> exact rfl)
            case hf77 => kernel_rfl
            case hq77 => exact fun _ _ _ h => h
            case hy77 => exact Or.inl ⟨by rfl, by intro w hSw; (try dsimp only at hSw); go_simp; try with_reducible rfl⟩
            (try simp only [Act.put, List.setIfInBounds_toArray, List.set_cons_zero, List.set_cons_succ])
            refine wpAnyH_ready (rs := [18]) (by kernel_rfl) (by simp) ?_
            refine AllReadyH.cons (o := ?oos59) ?his59 (fun K hK => ?sts59) ?mores59
            case his59 => (simp only [List.getElem?_toArray, List.getElem?_cons_zero, List.getElem?_cons_succ] <;> exact rfl)
            case mores59 => exact AllReadyH.nil
            refine step_fresh rfl (.tmp 19) (.tmp 21) 110 rfl 120 (.agg #[.int .i64 0, .int .i64 0]) 2 16 Try.underlying110 info_open rfl (by decide) (by decide) none 0 0 [] rfl (fun _ => ⟨rfl, rfl⟩) rfl (fun b hb => by cases hb) ⟨W2.heap.size, 0, none⟩ 1 1 [.int .i64 a, .int .i64 b] rfl rfl (two_new W2 _ _ _ rfl) (by simp [Value.oneCell']) (by omega) (by omega) ?_
            intro g c' w' own' hg' k'
            have BC := BA.chg k' (by simp)
            have DC := DA.chg k' (by simp)
            have c3 := BC.cell (t * 3)
            have f3 := BC.frozen (t * 3)
            refine hK.out _ _ ?hSs59 (fun hHeld => ?rests59)
            case hSs59 => exact ⟨DC.cell 0, DC.cell 1⟩
            clear hK K
            (try simp only [Act.put, List.setIfInBounds_toArray, List.set_cons_zero, List.set_cons_succ])
            refine wpAnyH_take (i := 19) (oi := ?oo78) (v := ?vv78) ?hi78 (by kernel_rfl) ?hf78 (by kernel_rfl) ?hq78 ?hy78 (by assumption) ?rest78
            case hi78 => (simp only [List.getElem?_toArray, List.getElem?_cons_zero, List.getElem?_cons_succ] <;> exact rfl)
            case hf78 => kernel_rfl
            case hq78 => exact fun _ _ _ h => h
            case hy78 => exact Or.inl ⟨by rfl, by intro w hSw; (try dsimp only at hSw); go_simp; try with_reducible rfl⟩
            (try simp only [Act.put, List.setIfInBounds_toArray, List.set_cons_zero, List.set_cons_succ])
            refine wpAnyH_take (i := 20) (oi := ?oo79) (v := ?vv79) ?hi79 (by kernel_rfl) ?hf79 (by kernel_rfl) ?hq79 ?hy79 (by assumption) ?rest79
            case hi79 => (simp only [List.getElem?_toArray, List.getElem?_cons_zero, List.getElem?_cons_succ] <;> exact rfl)
            case hf79 => kernel_rfl
            case hq79 => exact fun _ _ _ h => h
            case hy79 => exact Or.inl ⟨by rfl, by intro w hSw; (try dsimp only at hSw); go_simp; try with_reducible rfl⟩
            (try simp only [Act.put, List.setIfInBounds_toArray, List.set_cons_zero, List.set_cons_succ])
            refine wpAnyH_ready (rs := [21]) (by kernel_rfl) (by simp) ?_
            refine AllReadyH.cons (o := ?oos59x) ?his59x (fun K hK => ?sts59x) ?mores59x
            case his59x => (simp only [List.getElem?_toArray, List.getElem?_cons_zero, List.getElem?_cons_succ] <;> exact rfl)
            case mores59x => exact AllReadyH.nil
            go_simp
            refine hK.out _ _ ?hSs59x (fun hHeld => ?rests59x)
            case hSs59x => exact ⟨(DC.far (p := ⟨q, t * 3, none⟩) hdq _).cell 0, (DC.far (p := ⟨q, t * 3, none⟩) hdq _).cell 1⟩
            clear hK K
            (try simp only [Act.put, List.setIfInBounds_toArray, List.set_cons_zero, List.set_cons_succ])
            refine wpAnyH_done (by kernel_rfl) ?_ _
            go_wp2
            go_end0
            have KX := (Chg.refl [q] w').setCell (p := ⟨q, t * 3, none⟩) (by simp) (.slice (some ⟨g, 0, none⟩) 1 c')
            have own2 : w'.ownsRow 0 120 2 (.slice (some ⟨g, 0, none⟩) 1 c') 1 [.int .i64 a, .int .i64 b] := own'
            have hgq := own_ne own2 BC (by decide)
            have hsz := (KD.alloc (.cells #[.int .i64 a, .int .i64 b] 120)).size
            have hfr : ∀ g', (Value.slice (some ⟨g, 0, none⟩) 1 c').ownBlock = some g' → w.heap.size ≤ g' := fun g' hg'' => by
              have e : g = g' := by simpa [Value.ownBlock] using hg''
              omega
            have hno : ∀ g', (Value.slice (some ⟨g, 0, none⟩) 1 c').ownBlock = some g' → g' ∉ [q] := fun g' hg'' => by
              simp only [List.mem_singleton]
              intro e
              exact hgq (by rw [hg'', e])
            exact ⟨rfl, .slice (some ⟨g, 0, none⟩) 1 c', BC.set_ (t * 3) _, (Sl.of_own own2).chg KX hno, hfr, ((KD.alloc _).trans k' (by simp)).setCell (.inl (by simp)) _⟩
          exact AllReadyH.nil
        exact AllReadyH.nil
      refine AllReadyH.cons (o := ?oob60) ?hib60 (fun K hK => ?stb60) ?moreb60
      case hib60 => (simp only [List.getElem?_toArray, List.getElem?_cons_zero, List.getElem?_cons_succ] <;> exact rfl)
      case stb60 =>
        go_simp
        refine hK.out _ _ ?hSb60 (fun hHeld => ?restb60)
        case hSb60 => first | exact ⟨DD.cell 0, DD.cell 1⟩ | exact ⟨DA.cell 0, DA.cell 1⟩
        clear hK K
        (try simp only [Act.put, List.setIfInBounds_toArray, List.set_cons_zero, List.set_cons_succ])
        refine wpAnyH_ready (rs := [4, 8]) (by kernel_rfl) (by simp) ?_
        refine AllReadyH.cons (o := ?oob61) ?hib61 (fun K hK => ?stb61) ?moreb61
        case hib61 => (simp only [List.getElem?_toArray, List.getElem?_cons_zero, List.getElem?_cons_succ] <;> exact rfl)
        case stb61 =>
          go_simp
          refine hK.out _ _ ?hSb61 (fun hHeld => ?restb61)
          case hSb61 => first | exact ⟨DD.cell 0, DD.cell 1⟩ | exact ⟨DA.cell 0, DA.cell 1⟩
          clear hK K
          (try simp only [Act.put, List.setIfInBounds_toArray, List.set_cons_zero, List.set_cons_succ])
          refine wpAnyH_ready (rs := [8]) (by kernel_rfl) (by simp) ?_
          refine AllReadyH.cons (o := ?oob62) ?hib62 (fun K hK => ?stb62) ?moreb62
          case hib62 => (simp only [List.getElem?_toArray, List.getElem?_cons_zero, List.getElem?_cons_succ] <;> exact rfl)
          case stb62 =>
            go_simp
            refine hK.out _ _ ?hSb62 (fun hHeld => ?restb62)
            case hSb62 => first | exact ⟨DD.cell 0, DD.cell 1⟩ | exact ⟨DA.cell 0, DA.cell 1⟩
            clear hK K
            (try simp only [Act.put, List.setIfInBounds_toArray, List.set_cons_zero, List.set_cons_succ])
            refine wpAnyH_take (i := 9) (oi := ?oo80) (v := ?vv80) ?hi80 (by kernel_rfl) ?hf80 (by kernel_rfl) ?hq80 ?hy80 (by assumption) ?rest80
            case hi80 => (simp only [List.getElem?_toArray, List.getElem?_cons_zero, List.getElem?_cons_succ] <;> exact rfl)
            case hf80 => kernel_rfl
            case hq80 => exact fun _ _ _ h => h
            case hy80 => exact Or.inl ⟨by rfl, by intro w hSw; (try dsimp only at hSw); go_simp; try with_reducible rfl⟩
            (try simp only [Act.put, List.setIfInBounds_toArray, List.set_cons_zero, List.set_cons_succ])
            refine wpAnyH_take (i := 15) (oi := ?oo81) (v := ?vv81) ?hi81 (by kernel_rfl) ?hf81 (by kernel_rfl) ?hq81 ?hy81 (by assumption) ?rest81
            case hi81 => (simp only [List.getElem?_toArray, List.getElem?_cons_zero, List.getElem?_cons_succ] <;> exact rfl)
            case hf81 => kernel_rfl
            case hq81 => exact fun _ _ _ h => h
            case hy81 => exact Or.inl ⟨by rfl, by intro w hSw; (try dsimp only at hSw); go_simp; try with_reducible rfl⟩
            (try simp only [Act.put, List.setIfInBounds_toArray, List.set_cons_zero, List.set_cons_succ])
            refine wpAnyH_ready (rs := [18]) (by kernel_rfl) (by simp) ?_
            refine AllReadyH.cons (o := ?oos63) ?his63 (fun K hK => ?sts63) ?mores63
            case his63 => (simp only [List.getElem?_toArray, List.getElem?_cons_zero, List.getElem?_cons_succ] <;> exact rfl)
            case mores63 => exact AllReadyH.nil
            refine step_fresh rfl (.tmp 19) (.tmp 21) 110 rfl 120 (.agg #[.int .i64 0, .int .i64 0]) 2 16 Try.underlying110 info_open rfl (by decide) (by decide) none 0 0 [] rfl (fun _ => ⟨rfl, rfl⟩) rfl (fun b hb => by cases hb) ⟨W2.heap.size, 0, none⟩ 1 1 [.int .i64 a, .int .i64 b] rfl rfl (two_new W2 _ _ _ rfl) (by simp [Value.oneCell']) (by omega) (by omega) ?_
            intro g c' w' own' hg' k'
            have BC := BA.chg k' (by simp)
            have DC := DA.chg k' (by simp)
            have c3 := BC.cell (t * 3)
            have f3 := BC.frozen (t * 3)
            refine hK.out _ _ ?hSs63 (fun hHeld => ?rests63)
            case hSs63 => exact ⟨DC.cell 0, DC.cell 1⟩
            clear hK K
            (try simp only [Act.put, List.setIfInBounds_toArray, List.set_cons_zero, List.set_cons_succ])
            refine wpAnyH_take (i := 19) (oi := ?oo82) (v := ?vv82) ?hi82 (by kernel_rfl) ?hf82 (by kernel_rfl) ?hq82 ?hy82 (by assumption) ?rest82
            case hi82 => (simp only [List.getElem?_toArray, List.getElem?_cons_zero, List.getElem?_cons_succ] <;> exact rfl)
            case hf82 => kernel_rfl
            case hq82 => exact fun _ _ _ h => h
            case hy82 => exact Or.inl ⟨by rfl, by intro w hSw; (try dsimp only at hSw); go_simp; try with_reducible rfl⟩
            (try simp only [Act.put, List.setIfInBounds_toArray, List.set_cons_zero, List.set_cons_succ])
            refine wpAnyH_take (i := 20) (oi := ?oo83) (v := ?vv83) ?hi83 (by kernel_rfl) ?hf83 (by kernel_rfl) ?hq83 ?hy83 (by assumption) ?rest83
            case hi83 => (simp only [List.getElem?_toArray, List.getElem?_cons_zero, List.getElem?_cons_succ] <;> exact rfl)
            case hf83 => kernel_rfl
            case hq83 => exact fun _ _ _ h => h
            case hy83 => exact Or.inl ⟨by rfl, by intro w hSw; (try dsimp only at hSw); go_simp; try with_reducible rfl⟩
            (try simp only [Act.put, List.setIfInBounds_toArray, List.set_cons_zero, List.set_cons_succ])
            refine wpAnyH_ready (rs := [21]) (by kernel_rfl) (by simp) ?_
            refine AllReadyH.cons (o := ?oos63x) ?his63x (fun K hK => ?sts63x) ?mores63x
            case his63x => (simp only [List.getElem?_toArray, List.getElem?_cons_zero, List.getElem?_cons_succ] <;> exact rfl)
            case mores63x => exact AllReadyH.nil
            go_simp
            refine hK.out _ _ ?hSs63x (fun hHeld => ?rests63x)
            case hSs63x => exact ⟨(DC.far (p := ⟨q, t * 3, none⟩) hdq _).cell 0, (DC.far (p := ⟨q, t * 3, none⟩) hdq _).cell 1⟩
            clear hK K
            (try simp only [Act.put, List.setIfInBounds_toArray, List.set_cons_zero, List.set_cons_succ])
            refine wpAnyH_done (by kernel_rfl) ?_ _
            go_wp2
            go_end0
            have KX := (Chg.refl [q] w').setCell (p := ⟨q, t * 3, none⟩) (by simp) (.slice (some ⟨g, 0, none⟩) 1 c')
            have own2 : w'.ownsRow 0 120 2 (.slice (some ⟨g, 0, none⟩) 1 c') 1 [.int .i64 a, .int .i64 b] := own'
            have hgq := own_ne own2 BC (by decide)
            have hsz := (KD.alloc (.cells #[.int .i64 a, .int .i64 b] 120)).size
            have hfr : ∀ g', (Value.slice (some ⟨g, 0, none⟩) 1 c').ownBlock = some g' → w.heap.size ≤ g' := fun g' hg'' => by
              have e : g = g' := by simpa [Value.ownBlock] using hg''
              omega
            have hno : ∀ g', (Value.slice (some ⟨g, 0, none⟩) 1 c').ownBlock = some g' → g' ∉ [q] := fun g' hg'' => by
              simp only [List.mem_singleton]
              intro e
              exact hgq (by rw [hg'', e])
            exact ⟨rfl, .slice (some ⟨g, 0, none⟩) 1 c', BC.set_ (t * 3) _, (Sl.of_own own2).chg KX hno, hfr, ((KD.alloc _).trans k' (by simp)).setCell (.inl (by simp)) _⟩
          exact AllReadyH.nil
        refine AllReadyH.cons (o := ?oob64) ?hib64 (fun K hK => ?stb64) ?moreb64
        case hib64 => (simp only [List.getElem?_toArray, List.getElem?_cons_zero, List.getElem?_cons_succ] <;> exact rfl)
        case stb64 =>
          go_simp
          refine hK.out _ _ ?hSb64 (fun hHeld => ?restb64)
          case hSb64 => first | exact ⟨DD.cell 0, DD.cell 1⟩ | exact ⟨DA.cell 0, DA.cell 1⟩
          clear hK K
          (try simp only [Act.put, List.setIfInBounds_toArray, List.set_cons_zero, List.set_cons_succ])
          refine wpAnyH_take (i := 9) (oi := ?oo84) (v := ?vv84) ?hi84 (by kernel_rfl) ?hf84 (by kernel_rfl) ?hq84 ?hy84 (by assumption) ?rest84
          case hi84 => (simp only [List.getElem?_toArray, List.getElem?_cons_zero, List.getElem?_cons_succ] <;> exact rfl)
          case hf84 => kernel_rfl
          case hq84 => exact fun _ _ _ h => h
          case hy84 => exact Or.inl ⟨by rfl, by intro w hSw; (try dsimp only at hSw); go_simp; try with_reducible rfl⟩
          (try simp only [Act.put, List.setIfInBounds_toArray, List.set_cons_zero, List.set_cons_succ])
          refine wpAnyH_ready (rs := [4]) (by kernel_rfl) (by simp) ?_
          refine AllReadyH.cons (o := ?oob65) ?hib65 (fun K hK => ?stb65) ?moreb65
          case hib65 => (simp only [List.getElem?_toArray, List.getElem?_cons_zero, List.getElem?_cons_succ] <;> exact rfl)
          case stb65 =>
            go_simp
            refine hK.out _ _ ?hSb65 (fun hHeld => ?restb65)
            case hSb65 => first | exact ⟨DD.cell 0, DD.cell 1⟩ | exact ⟨DA.cell 0, DA.cell 1⟩
            clear hK K
            (try simp only [Act.put, List.setIfInBounds_toArray, List.set_cons_zero, List.set_cons_succ])
            refine wpAnyH_take (i := 15) (oi := ?oo85) (v := ?vv85) ?hi85 (by kernel_rfl) ?hf85 (by kernel_rfl) ?hq85 ?hy85 (by assumption) ?rest85
            case hi85 => (simp only [List.getElem?_toArray, List.getElem?_cons_zero, List.getElem?_cons_succ] <;> exact rfl)
            case hf85 => kernel_rfl
            case hq85 => exact fun _ _ _ h => h
            case hy85 => exact Or.inl ⟨by rfl, by intro w hSw; (try dsimp only at hSw); go_simp; try with_reducible rfl⟩
            (try simp only [Act.put, List.setIfInBounds_toArray, List.set_cons_zero, List.set_cons_succ])
            refine wpAnyH_ready (rs := [18]) (by kernel_rfl) (by simp) ?_
            refine AllReadyH.cons (o := ?oos66) ?his66 (fun K hK => ?sts66) ?mores66
            case his66 => (simp only [List.getElem?_toArray, List.getElem?_cons_zero, List.getElem?_cons_succ] <;> exact rfl)
            case mores66 => exact AllReadyH.nil
            refine step_fresh rfl (.tmp 19) (.tmp 21) 110 rfl 120 (.agg #[.int .i64 0, .int .i64 0]) 2 16 Try.underlying110 info_open rfl (by decide) (by decide) none 0 0 [] rfl (fun _ => ⟨rfl, rfl⟩) rfl (fun b hb => by cases hb) ⟨W2.heap.size, 0, none⟩ 1 1 [.int .i64 a, .int .i64 b] rfl rfl (two_new W2 _ _ _ rfl) (by simp [Value.oneCell']) (by omega) (by omega) ?_
            intro g c' w' own' hg' k'
            have BC := BA.chg k' (by simp)
            have DC := DA.chg k' (by simp)
            have c3 := BC.cell (t * 3)
            have f3 := BC.frozen (t * 3)
            refine hK.out _ _ ?hSs66 (fun hHeld => ?rests66)
            case hSs66 => exact ⟨DC.cell 0, DC.cell 1⟩
            clear hK K
            (try simp only [Act.put, List.setIfInBounds_toArray, List.set_cons_zero, List.set_cons_succ])
            refine wpAnyH_take (i := 19) (oi := ?oo86) (v := ?vv86) ?hi86 (by kernel_rfl) ?hf86 (by kernel_rfl) ?hq86 ?hy86 (by assumption) ?rest86
            case hi86 => (simp only [List.getElem?_toArray, List.getElem?_cons_zero, List.getElem?_cons_succ] <;> exact rfl)
            case hf86 => kernel_rfl
            case hq86 => exact fun _ _ _ h => h
            case hy86 => exact Or.inl ⟨by rfl, by intro w hSw; (try dsimp only at hSw); go_simp; try with_reducible rfl⟩
            (try simp only [Act.put, List.setIfInBounds_toArray, List.set_cons_zero, List.set_cons_succ])
            refine wpAnyH_take (i := 20) (oi := ?oo87) (v := ?vv87) ?hi87 (by kernel_rfl) ?hf87 (by kernel_rfl) ?hq87 ?hy87 (by assumption) ?rest87
            case hi87 => (simp only [List.getElem?_toArray, List.getElem?_cons_zero, List.getElem?_cons_succ] <;> exact rfl)
            case hf87 => kernel_rfl
            case hq87 => exact fun _ _ _ h => h
            case hy87 => exact Or.inl ⟨by rfl, by intro w hSw; (try dsimp only at hSw); go_simp; try with_reducible rfl⟩
            (try simp only [Act.put, List.setIfInBounds_toArray, List.set_cons_zero, List.set_cons_succ])
            refine wpAnyH_ready (rs := [21]) (by kernel_rfl) (by simp) ?_
            refine AllReadyH.cons (o := ?oos66x) ?his66x (fun K hK => ?sts66x) ?mores66x
            case his66x => (simp only [List.getElem?_toArray, List.getElem?_cons_zero, List.getElem?_cons_succ] <;> exact rfl)
            case mores66x => exact AllReadyH.nil
            go_simp
            refine hK.out _ _ ?hSs66x (fun hHeld => ?rests66x)
            case hSs66x => exact ⟨(DC.far (p := ⟨q, t * 3, none⟩) hdq _).cell 0, (DC.far (p := ⟨q, t * 3, none⟩) hdq _).cell 1⟩
            clear hK K
            (try simp only [Act.put, List.setIfInBounds_toArray, List.set_cons_zero, List.set_cons_succ])
            refine wpAnyH_done (by kernel_rfl) ?_ _
            go_wp2
            go_end0
            have KX := (Chg.refl [q] w').setCell (p := ⟨q, t * 3, none⟩) (by simp) (.slice (some ⟨g, 0, none⟩) 1 c')
            have own2 : w'.ownsRow 0 120 2 (.slice (some ⟨g, 0, none⟩) 1 c') 1 [.int .i64 a, .int .i64 b] := own'
            have hgq := own_ne own2 BC (by decide)
            have hsz := (KD.alloc (.cells #[.int .i64 a, .int .i64 b] 120)).size
            have hfr : ∀ g', (Value.slice (some ⟨g, 0, none⟩) 1 c').ownBlock = some g' → w.heap.size ≤ g' := fun g' hg'' => by
              have e : g = g' := by simpa [Value.ownBlock] using hg''
              omega
            have hno : ∀ g', (Value.slice (some ⟨g, 0, none⟩) 1 c').ownBlock = some g' → g' ∉ [q] := fun g' hg'' => by
              simp only [List.mem_singleton]
              intro e
              exact hgq (by rw [hg'', e])
            exact ⟨rfl, .slice (some ⟨g, 0, none⟩) 1 c', BC.set_ (t * 3) _, (Sl.of_own own2).chg KX hno, hfr, ((KD.alloc _).trans k' (by simp)).setCell (.inl (by simp)) _⟩
          exact AllReadyH.nil
        exact AllReadyH.nil
      exact AllReadyH.nil
    refine AllReadyH.cons (o := ?oob67) ?hib67 (fun K hK => ?stb67) ?moreb67
    case hib67 => (simp only [List.getElem?_toArray, List.getElem?_cons_zero, List.getElem?_cons_succ] <;> exact rfl)
    case stb67 =>
      go_simp
      refine hK.out _ _ ?hSb67 (fun hHeld => ?restb67)
      case hSb67 => first | exact ⟨DD.cell 0, DD.cell 1⟩ | exact ⟨DA.cell 0, DA.cell 1⟩
      clear hK K
      (try simp only [Act.put, List.setIfInBounds_toArray, List.set_cons_zero, List.set_cons_succ])
      refine wpAnyH_ready (rs := [4, 8, 13]) (by kernel_rfl) (by simp) ?_
      refine AllReadyH.cons (o := ?oob68) ?hib68 (fun K hK => ?stb68) ?moreb68
      case hib68 => (simp only [List.getElem?_toArray, List.getElem?_cons_zero, List.getElem?_cons_succ] <;> exact rfl)
      case stb68 =>
        go_simp
        refine hK.out _ _ ?hSb68 (fun hHeld => ?restb68)
        case hSb68 => first | exact ⟨DD.cell 0, DD.cell 1⟩ | exact ⟨DA.cell 0, DA.cell 1⟩
        clear hK K
        (try simp only [Act.put, List.setIfInBounds_toArray, List.set_cons_zero, List.set_cons_succ])
        refine wpAnyH_ready (rs := [8, 13]) (by kernel_rfl) (by simp) ?_
        refine AllReadyH.cons (o := ?oob69) ?hib69 (fun K hK => ?stb69) ?moreb69
        case hib69 => (simp only [List.getElem?_toArray, List.getElem?_cons_zero, List.getElem?_cons_succ] <;> exact rfl)
        case stb69 =>
          go_simp
          refine hK.out _ _ ?hSb69 (fun hHeld => ?restb69)
          case hSb69 => first | exact ⟨DD.cell 0, DD.cell 1⟩ | exact ⟨DA.cell 0, DA.cell 1⟩
          clear hK K
          (try simp only [Act.put, List.setIfInBounds_toArray, List.set_cons_zero, List.set_cons_succ])
          refine wpAnyH_take (i := 9) (oi := ?oo88) (v := ?vv88) ?hi88 (by kernel_rfl) ?hf88 (by kernel_rfl) ?hq88 ?hy88 (by assumption) ?rest88
          case hi88 => (simp only [List.getElem?_toArray, List.getElem?_cons_zero, List.getElem?_cons_succ] <;> exact rfl)
          case hf88 => kernel_rfl
          case hq88 => exact fun _ _ _ h => h
          case hy88 => exact Or.inl ⟨by rfl, by intro w hSw; (try dsimp only at hSw); go_simp; try with_reducible rfl⟩
          (try simp only [Act.put, List.setIfInBounds_toArray, List.set_cons_zero, List.set_cons_succ])
          refine wpAnyH_ready (rs := [13]) (by kernel_rfl) (by simp) ?_
          refine AllReadyH.cons (o := ?oob70) ?hib70 (fun K hK => ?stb70) ?moreb70
          case hib70 => (simp only [List.getElem?_toArray, List.getElem?_cons_zero, List.getElem?_cons_succ] <;> exact rfl)
          case stb70 =>
            go_simp
            refine hK.out _ _ ?hSb70 (fun hHeld => ?restb70)
            case hSb70 => first | exact ⟨DD.cell 0, DD.cell 1⟩ | exact ⟨DA.cell 0, DA.cell 1⟩
            clear hK K
            (try simp only [Act.put, List.setIfInBounds_toArray, List.set_cons_zero, List.set_cons_succ])
            refine wpAnyH_take (i := 14) (oi := ?oo89) (v := ?vv89) ?hi89 (by kernel_rfl) ?hf89 (by kernel_rfl) ?hq89 ?hy89 (by assumption) ?rest89
            case hi89 => (simp only [List.getElem?_toArray, List.getElem?_cons_zero, List.getElem?_cons_succ] <;> exact rfl)
            case hf89 => kernel_rfl
            case hq89 => exact fun _ _ _ h => h
            case hy89 => exact Or.inl ⟨by rfl, by intro w hSw; (try dsimp only at hSw); go_simp; try with_reducible rfl⟩
            (try simp only [Act.put, List.setIfInBounds_toArray, List.set_cons_zero, List.set_cons_succ])
            refine wpAnyH_take (i := 15) (oi := ?oo90) (v := ?vv90) ?hi90 (by kernel_rfl) ?hf90 (by kernel_rfl) ?hq90 ?hy90 (by assumption) ?rest90
            case hi90 => (simp only [List.getElem?_toArray, List.getElem?_cons_zero, List.getElem?_cons_succ] <;> exact rfl)
            case hf90 => kernel_rfl
            case hq90 => exact fun _ _ _ h => h
            case hy90 => exact Or.inl ⟨by rfl, by intro w hSw; (try dsimp only at hSw); go_simp; try with_reducible rfl⟩
            (try simp only [Act.put, List.setIfInBounds_toArray, List.set_cons_zero, List.set_cons_succ])
            refine wpAnyH_ready (rs := [18]) (by kernel_rfl) (by simp) ?_
            refine AllReadyH.cons (o := ?oos71) ?his71 (fun K hK => ?sts71) ?mores71
            case his71 => (simp only [List.getElem?_toArray, List.getElem?_cons_zero, List.getElem?_cons_succ] <;> exact rfl)
            case mores71 => exact AllReadyH.nil
            refine step_fresh rfl (.tmp 19) (.tmp 21) 110 rfl 120 (.agg #[.int .i64 0, .int .i64 0]) 2 16 Try.underlying110 info_open rfl (by decide) (by decide) none 0 0 [] rfl (fun _ => ⟨rfl, rfl⟩) rfl (fun b hb => by cases hb) ⟨W2.heap.size, 0, none⟩ 1 1 [.int .i64 a, .int .i64 b] rfl rfl (two_new W2 _ _ _ rfl) (by simp [Value.oneCell']) (by omega) (by omega) ?_
            intro g c' w' own' hg' k'
            have BC := BA.chg k' (by simp)
            have DC := DA.chg k' (by simp)
            have c3 := BC.cell (t * 3)
            have f3 := BC.frozen (t * 3)
            refine hK.out _ _ ?hSs71 (fun hHeld => ?rests71)
            case hSs71 => exact ⟨DC.cell 0, DC.cell 1⟩
            clear hK K
            (try simp only [Act.put, List.setIfInBounds_toArray, List.set_cons_zero, List.set_cons_succ])
            refine wpAnyH_take (i := 19) (oi := ?oo91) (v := ?vv91) ?hi91 (by kernel_rfl) ?hf91 (by kernel_rfl) ?hq91 ?hy91 (by assumption) ?rest91
            case hi91 => (simp only [List.getElem?_toArray, List.getElem?_cons_zero, List.getElem?_cons_succ] <;> exact rfl)
            case hf91 => kernel_rfl
            case hq91 => exact fun _ _ _ h => h
            case hy91 => exact Or.inl ⟨by rfl, by intro w hSw; (try dsimp only at hSw); go_simp; try with_reducible rfl⟩
            (try simp only [Act.put, List.setIfInBounds_toArray, List.set_cons_zero, List.set_cons_succ])
            refine wpAnyH_take (i := 20) (oi := ?oo92) (v := ?vv92) ?hi92 (by kernel_rfl) ?hf92 (by kernel_rfl) ?hq92 ?hy92 (by assumption) ?rest92
            case hi92 => (simp only [List.getElem?_toArray, List.getElem?_cons_zero, List.getElem?_cons_succ] <;> exact rfl)
            case hf92 => kernel_rfl
            case hq92 => exact fun _ _ _ h => h
            case hy92 => exact Or.inl ⟨by rfl, by intro w hSw; (try dsimp only at hSw); go_simp; try with_reducible rfl⟩
            (try simp only [Act.put, List.setIfInBounds_toArray, List.set_cons_zero, List.set_cons_succ])
            refine wpAnyH_ready (rs := [21]) (by kernel_rfl) (by simp) ?_
            refine AllReadyH.cons (o := ?oos71x) ?his71x (fun K hK => ?sts71x) ?mores71x
            case his71x => (simp only [List.getElem?_toArray, List.getElem?_cons_zero, List.getElem?_cons_succ] <;> exact rfl)
            case mores71x => exact AllReadyH.nil
            go_simp
            refine hK.out _ _ ?hSs71x (fun hHeld => ?rests71x)
            case hSs71x => exact ⟨(DC.far (p := ⟨q, t * 3, none⟩) hdq _).cell 0, (DC.far (p := ⟨q, t * 3, none⟩) hdq _).cell 1⟩
            clear hK K
            (try simp only [Act.put, List.setIfInBounds_toArray, List.set_cons_zero, List.set_cons_succ])
            refine wpAnyH_done (by kernel_rfl) ?_ _
            go_wp2
            go_end0
            have KX := (Chg.refl [q] w').setCell (p := ⟨q, t * 3, none⟩) (by simp) (.slice (some ⟨g, 0, none⟩) 1 c')
            have own2 : w'.ownsRow 0 120 2 (.slice (some ⟨g, 0, none⟩) 1 c') 1 [.int .i64 a, .int .i64 b] := own'
            have hgq := own_ne own2 BC (by decide)
            have hsz := (KD.alloc (.cells #[.int .i64 a, .int .i64 b] 120)).size
            have hfr : ∀ g', (Value.slice (some ⟨g, 0, none⟩) 1 c').ownBlock = some g' → w.heap.size ≤ g' := fun g' hg'' => by
              have e : g = g' := by simpa [Value.ownBlock] using hg''
              omega
            have hno : ∀ g', (Value.slice (some ⟨g, 0, none⟩) 1 c').ownBlock = some g' → g' ∉ [q] := fun g' hg'' => by
              simp only [List.mem_singleton]
              intro e
              exact hgq (by rw [hg'', e])
            exact ⟨rfl, .slice (some ⟨g, 0, none⟩) 1 c', BC.set_ (t * 3) _, (Sl.of_own own2).chg KX hno, hfr, ((KD.alloc _).trans k' (by simp)).setCell (.inl (by simp)) _⟩
          exact AllReadyH.nil
        refine AllReadyH.cons (o := ?oob72) ?hib72 (fun K hK => ?stb72) ?moreb72
        case hib72 => (simp only [List.getElem?_toArray, List.getElem?_cons_zero, List.getElem?_cons_succ] <;> exact rfl)
        case stb72 =>
          go_simp
          refine hK.out _ _ ?hSb72 (fun hHeld => ?restb72)
          case hSb72 => first | exact ⟨DD.cell 0, DD.cell 1⟩ | exact ⟨DA.cell 0, DA.cell 1⟩
          clear hK K
          (try simp only [Act.put, List.setIfInBounds_toArray, List.set_cons_zero, List.set_cons_succ])
          refine wpAnyH_take (i := 14) (oi := ?oo93) (v := ?vv93) ?hi93 (by kernel_rfl) ?hf93 (by kernel_rfl) ?hq93 ?hy93 (by assumption) ?rest93
          case hi93 => (simp only [List.getElem?_toArray, List.getElem?_cons_zero, List.getElem?_cons_succ] <;> exact rfl)
          case hf93 => kernel_rfl
          case hq93 => exact fun _ _ _ h => h
          case hy93 => exact Or.inl ⟨by rfl, by intro w hSw; (try dsimp only at hSw); go_simp; try with_reducible rfl⟩
          (try simp only [Act.put, List.setIfInBounds_toArray, List.set_cons_zero, List.set_cons_succ])
          refine wpAnyH_ready (rs := [8]) (by kernel_rfl) (by simp) ?_
          refine AllReadyH.cons (o := ?oob73) ?hib73 (fun K hK => ?stb73) ?moreb73
          case hib73 => (simp only [List.getElem?_toArray, List.getElem?_cons_zero, List.getElem?_cons_succ] <;> exact rfl)
          case stb73 =>
            go_simp
            refine hK.out _ _ ?hSb73 (fun hHeld => ?restb73)
            case hSb73 => first | exact ⟨DD.cell 0, DD.cell 1⟩ | exact ⟨DA.cell 0, DA.cell 1⟩
            clear hK K
            (try simp only [Act.put, List.setIfInBounds_toArray, List.set_cons_zero, List.set_cons_succ])
            refine wpAnyH_take (i := 9) (oi := ?oo94) (v := ?vv94) ?hi94 (by kernel_rfl) ?hf94 (by kernel_rfl) ?hq94 ?hy94 (by assumption) ?rest94
            case hi94 => (simp only [List.getElem?_toArray, List.getElem?_cons_zero, List.getElem?_cons_succ] <;> exact rfl)
            case hf94 => kernel_rfl
            case hq94 => exact fun _ _ _ h => h
            case hy94 => exact Or.inl ⟨by rfl, by intro w hSw; (try dsimp only at hSw); go_simp; try with_reducible rfl⟩
            (try simp only [Act.put, List.setIfInBounds_toArray, List.set_cons_zero, List.set_cons_succ])
            refine wpAnyH_take (i := 15) (oi := ?oo95) (v := ?vv95) ?hi95 (by kernel_rfl) ?hf95 (by kernel_rfl) ?hq95 ?hy95 (by assumption) ?rest95
            case hi95 => (simp only [List.getElem?_toArray, List.getElem?_cons_zero, List.getElem?_cons_succ] <;> exact rfl)
            case hf95 => kernel_rfl
            case hq95 => exact fun _ _ _ h => h
            case hy95 => exact Or.inl ⟨by rfl, by intro w hSw; (try dsimp only at hSw); go_simp; try with_reducible rfl⟩
            (try simp only [Act.put, List.setIfInBounds_toArray, List.set_cons_zero, List.set_cons_succ])
            refine wpAnyH_ready (rs := [18]) (by kernel_rfl) (by simp) ?_
            refine AllReadyH.cons (o := ?oos74) ?his74 (fun K hK => ?sts74) ?mores74
            case his74 => (simp only [List.getElem?_toArray, List.getElem?_cons_zero, List.getElem?_cons_succ] <;> exact rfl)
            case mores74 => exact AllReadyH.nil
            refine step_fresh rfl (.tmp 19) (.tmp 21) 110 rfl 120 (.agg #[.int .i64 0, .int .i64 0]) 2 16 Try.underlying110 info_open rfl (by decide) (by decide) none 0 0 [] rfl (fun _ => ⟨rfl, rfl⟩) rfl (fun b hb => by cases hb) ⟨W2.heap.size, 0, none⟩ 1 1 [.int .i64 a, .int .i64 b] rfl rfl (two_new W2 _ _ _ rfl) (by simp [Value.oneCell']) (by omega) (by omega) ?_
            intro g c' w' own' hg' k'
            have BC := BA.chg k' (by simp)
            have DC := DA.chg k' (by simp)
            have c3 := BC.cell (t * 3)
            have f3 := BC.frozen (t * 3)
            refine hK.out _ _ ?hSs74 (fun hHeld => ?rests74)
            case hSs74 => exact ⟨DC.cell 0, DC.cell 1⟩
            clear hK K
            (try simp only [Act.put, List.setIfInBounds_toArray, List.set_cons_zero, List.set_cons_succ])
            refine wpAnyH_take (i := 19) (oi := ?oo96) (v := ?vv96) ?hi96 (by kernel_rfl) ?hf96 (by kernel_rfl) ?hq96 ?hy96 (by assumption) ?rest96
            case hi96 => (simp only [List.getElem?_toArray, List.getElem?_cons_zero, List.getElem?_cons_succ] <;> exact rfl)
            case hf96 => kernel_rfl
            case hq96 => exact fun _ _ _ h => h
            case hy96 => exact Or.inl ⟨by rfl, by intro w hSw; (try dsimp only at hSw); go_simp; try with_reducible rfl⟩
            (try simp only [Act.put, List.setIfInBounds_toArray, List.set_cons_zero, List.set_cons_succ])
            refine wpAnyH_take (i := 20) (oi := ?oo97) (v := ?vv97) ?hi97 (by kernel_rfl) ?hf97 (by kernel_rfl) ?hq97 ?hy97 (by assumption) ?rest97
            case hi97 => (simp only [List.getElem?_toArray, List.getElem?_cons_zero, List.getElem?_cons_succ] <;> exact rfl)
            case hf97 => kernel_rfl
            case hq97 => exact fun _ _ _ h => h
            case hy97 => exact Or.inl ⟨by rfl, by intro w hSw; (try dsimp only at hSw); go_simp; try with_reducible rfl⟩
            (try simp only [Act.put, List.setIfInBounds_toArray, List.set_cons_zero, List.set_cons_succ])
            refine wpAnyH_ready (rs := [21]) (by kernel_rfl) (by simp) ?_
            refine AllReadyH.cons (o := ?oos74x) ?his74x (fun K hK => ?sts74x) ?mores74x
            case his74x => (simp only [List.getElem?_toArray, List.getElem?_cons_zero, List.getElem?_cons_succ] <;> exact rfl)
            case mores74x => exact AllReadyH.nil
            go_simp
            refine hK.out _ _ ?hSs74x (fun hHeld => ?rests74x)
            case hSs74x => exact ⟨(DC.far (p := ⟨q, t * 3, none⟩) hdq _).cell 0, (DC.far (p := ⟨q, t * 3, none⟩) hdq _).cell 1⟩
            clear hK K
            (try simp only [Act.put, List.setIfInBounds_toArray, List.set_cons_zero, List.set_cons_succ])
            refine wpAnyH_done (by kernel_rfl) ?_ _
            go_wp2
            go_end0
            have KX := (Chg.refl [q] w').setCell (p := ⟨q, t * 3, none⟩) (by simp) (.slice (some ⟨g, 0, none⟩) 1 c')
            have own2 : w'.ownsRow 0 120 2 (.slice (some ⟨g, 0, none⟩) 1 c') 1 [.int .i64 a, .int .i64 b] := own'
            have hgq := own_ne own2 BC (by decide)
            have hsz := (KD.alloc (.cells #[.int .i64 a, .int .i64 b] 120)).size
            have hfr : ∀ g', (Value.slice (some ⟨g, 0, none⟩) 1 c').ownBlock = some g' → w.heap.size ≤ g' := fun g' hg'' => by
              have e : g = g' := by simpa [Value.ownBlock] using hg''
              omega
            have hno : ∀ g', (Value.slice (some ⟨g, 0, none⟩) 1 c').ownBlock = some g' → g' ∉ [q] := fun g' hg'' => by
              simp only [List.mem_singleton]
              intro e
              exact hgq (by rw [hg'', e])
            exact ⟨rfl, .slice (some ⟨g, 0, none⟩) 1 c', BC.set_ (t * 3) _, (Sl.of_own own2).chg KX hno, hfr, ((KD.alloc _).trans k' (by simp)).setCell (.inl (by simp)) _⟩
          exact AllReadyH.nil
        exact AllReadyH.nil
      refine AllReadyH.cons (o := ?oob75) ?hib75 (fun K hK => ?stb75) ?moreb75
      case hib75 => (simp only [List.getElem?_toArray, List.getElem?_cons_zero, List.getElem?_cons_succ] <;> exact rfl)
      case stb75 =>
        go_simp
        refine hK.out _ _ ?hSb75 (fun hHeld => ?restb75)
        case hSb75 => first | exact ⟨DD.cell 0, DD.cell 1⟩ | exact ⟨DA.cell 0, DA.cell 1⟩
        clear hK K
        (try simp only [Act.put, List.setIfInBounds_toArray, List.set_cons_zero, List.set_cons_succ])
        refine wpAnyH_take (i := 9) (oi := ?oo98) (v := ?vv98) ?hi98 (by kernel_rfl) ?hf98 (by kernel_rfl) ?hq98 ?hy98 (by assumption) ?rest98
        case hi98 => (simp only [List.getElem?_toArray, List.getElem?_cons_zero, List.getElem?_cons_succ] <;> exact rfl)
        case hf98 => kernel_rfl
        case hq98 => exact fun _ _ _ h => h
        case hy98 => exact Or.inl ⟨by rfl, by intro w hSw; (try dsimp only at hSw); go_simp; try with_reducible rfl⟩
        (try simp only [Act.put, List.setIfInBounds_toArray, List.set_cons_zero, List.set_cons_succ])
        refine wpAnyH_ready (rs := [4, 13]) (by kernel_rfl) (by simp) ?_
        refine AllReadyH.cons (o := ?oob76) ?hib76 (fun K hK => ?stb76) ?moreb76
        case hib76 => (simp only [List.getElem?_toArray, List.getElem?_cons_zero, List.getElem?_cons_succ] <;> exact rfl)
        case stb76 =>
          go_simp
          refine hK.out _ _ ?hSb76 (fun hHeld => ?restb76)
          case hSb76 => first | exact ⟨DD.cell 0, DD.cell 1⟩ | exact ⟨DA.cell 0, DA.cell 1⟩
          clear hK K
          (try simp only [Act.put, List.setIfInBounds_toArray, List.set_cons_zero, List.set_cons_succ])
          refine wpAnyH_ready (rs := [13]) (by kernel_rfl) (by simp) ?_
          refine AllReadyH.cons (o := ?oob77) ?hib77 (fun K hK => ?stb77) ?moreb77
          case hib77 => (simp only [List.getElem?_toArray, List.getElem?_cons_zero, List.getElem?_cons_succ] <;> exact rfl)
          case stb77 =>
            go_simp
            refine hK.out _ _ ?hSb77 (fun hHeld => ?restb77)
            case hSb77 => first | exact ⟨DD.cell 0, DD.cell 1⟩ | exact ⟨DA.cell 0, DA.cell 1⟩
            clear hK K
            (try simp only [Act.put, List.setIfInBounds_toArray, List.set_cons_zero, List.set_cons_succ])
            refine wpAnyH_take (i := 14) (oi := ?oo99) (v := ?vv99) ?hi99 (by kernel_rfl) ?hf99 (by kernel_rfl) ?hq99 ?hy99 (by assumption) ?rest99
            case hi99 => (simp only [List.getElem?_toArray, List.getElem?_cons_zero, List.getElem?_cons_succ] <;> exact rfl)
            case hf99 => kernel_rfl
            case hq99 => exact fun _ _ _ h => h
            case hy99 => exact Or.inl ⟨by rfl, by intro w hSw; (try dsimp only at hSw); go_simp; try with_reducible rfl⟩
            (try simp only [Act.put, List.setIfInBounds_toArray, List.set_cons_zero, List.set_cons_succ])
            refine wpAnyH_take (i := 15) (oi := ?oo100) (v := ?vv100) ?hi100 (by kernel_rfl) ?hf100 (by kernel_rfl) ?hq100 ?hy100 (by assumption) ?rest100
            case hi100 => (simp only [List.getElem?_toArray, List.getElem?_cons_zero, List.getElem?_cons_succ] <;> exact rfl)
            case hf100 => kernel_rfl
            case hq100 => exact fun _ _ _ h => h
            case hy100 => exact Or.inl ⟨by rfl, by intro w hSw; (try dsimp only at hSw); go_simp; try with_reducible rfl⟩
            (try simp only [Act.put, List.setIfInBounds_toArray, List.set_cons_zero, List.set_cons_succ])
            refine wpAnyH_ready (rs := [18]) (by kernel_rfl) (by simp) ?_
            refine AllReadyH.cons (o := ?oos78) ?his78 (fun K hK => ?sts78) ?mores78
            case his78 => (simp only [List.getElem?_toArray, List.getElem?_cons_zero, List.getElem?_cons_succ] <;> exact rfl)
            case mores78 => exact AllReadyH.nil
            refine step_fresh rfl (.tmp 19) (.tmp 21) 110 rfl 120 (.agg #[.int .i64 0, .int .i64 0]) 2 16 Try.underlying110 info_open rfl (by decide) (by decide) none 0 0 [] rfl (fun _ => ⟨rfl, rfl⟩) rfl (fun b hb => by cases hb) ⟨W2.heap.size, 0, none⟩ 1 1 [.int .i64 a, .int .i64 b] rfl rfl (two_new W2 _ _ _ rfl) (by simp [Value.oneCell']) (by omega) (by omega) ?_
            intro g c' w' own' hg' k'
            have BC := BA.chg k' (by simp)
            have DC := DA.chg k' (by simp)
            have c3 := BC.cell (t * 3)
            have f3 := BC.frozen (t * 3)
            refine hK.out _ _ ?hSs78 (fun hHeld => ?rests78)
            case hSs78 => exact ⟨DC.cell 0, DC.cell 1⟩
            clear hK K
            (try simp only [Act.put, List.setIfInBounds_toArray, List.set_cons_zero, List.set_cons_succ])
            refine wpAnyH_take (i := 19) (oi := ?oo101) (v := ?vv101) ?hi101 (by kernel_rfl) ?hf101 (by kernel_rfl) ?hq101 ?hy101 (by assumption) ?rest101
            case hi101 => (simp only [List.getElem?_toArray, List.getElem?_cons_zero, List.getElem?_cons_succ] <;> exact rfl)
            case hf101 => kernel_rfl
            case hq101 => exact fun _ _ _ h => h
            case hy101 => exact Or.inl ⟨by rfl, by intro w hSw; (try dsimp only at hSw); go_simp; try with_reducible rfl⟩
            (try simp only [Act.put, List.setIfInBounds_toArray, List.set_cons_zero, List.set_cons_succ])
            refine wpAnyH_take (i := 20) (oi := ?oo102) (v := ?vv102) ?hi102 (by kernel_rfl) ?hf102 (by kernel_rfl) ?hq102 ?hy102 (by assumption) ?rest102
            case hi102 => (simp only [List.getElem?_toArray, List.getElem?_cons_zero, List.getElem?_cons_succ] <;> exact rfl)
            case hf102 => kernel_rfl
            case hq102 => exact fun _ _ _ h => h
            case hy102 => exact Or.inl ⟨by rfl, by intro w hSw; (try dsimp only at hSw); go_simp; try with_reducible rfl⟩
            (try simp only [Act.put, List.setIfInBounds_toArray, List.set_cons_zero, List.set_cons_succ])
            refine wpAnyH_ready (rs := [21]) (by kernel_rfl) (by simp) ?_
            refine AllReadyH.cons (o := ?oos78x) ?his78x (fun K hK => ?sts78x) ?mores78x
            case his78x => (simp only [List.getElem?_toArray, List.getElem?_cons_zero, List.getElem?_cons_succ] <;> exact rfl)
            case mores78x => exact AllReadyH.nil
            go_simp
            refine hK.out _ _ ?hSs78x (fun hHeld => ?rests78x)
            case hSs78x => exact ⟨(DC.far (p := ⟨q, t * 3, none⟩) hdq _).cell 0, (DC.far (p := ⟨q, t * 3, none⟩) hdq _).cell 1⟩
            clear hK K
            (try simp only [Act.put, List.setIfInBounds_toArray, List.set_cons_zero, List.set_cons_succ])
            refine wpAnyH_done (by kernel_rfl) ?_ _
            go_wp2
            go_end0
            have KX := (Chg.refl [q] w').setCell (p := ⟨q, t * 3, none⟩) (by simp) (.slice (some ⟨g, 0, none⟩) 1 c')
            have own2 : w'.ownsRow 0 120 2 (.slice (some ⟨g, 0, none⟩) 1 c') 1 [.int .i64 a, .int .i64 b] := own'
            have hgq := own_ne own2 BC (by decide)
            have hsz := (KD.alloc (.cells #[.int .i64 a, .int .i64 b] 120)).size
            have hfr : ∀ g', (Value.slice (some ⟨g, 0, none⟩) 1 c').ownBlock = some g' → w.heap.size ≤ g' := fun g' hg'' => by
              have e : g = g' := by simpa [Value.ownBlock] using hg''
              omega
            have hno : ∀ g', (Value.slice (some ⟨g, 0, none⟩) 1 c').ownBlock = some g' → g' ∉ [q] := fun g' hg'' => by
              simp only [List.mem_singleton]
              intro e
              exact hgq (by rw [hg'', e])
            exact ⟨rfl, .slice (some ⟨g, 0, none⟩) 1 c', BC.set_ (t * 3) _, (Sl.of_own own2).chg KX hno, hfr, ((KD.alloc _).trans k' (by simp)).setCell (.inl (by simp)) _⟩
          exact AllReadyH.nil
        refine AllReadyH.cons (o := ?oob79) ?hib79 (fun K hK => ?stb79) ?moreb79
        case hib79 => (simp only [List.getElem?_toArray, List.getElem?_cons_zero, List.getElem?_cons_succ] <;> exact rfl)
        case stb79 =>
          go_simp
          refine hK.out _ _ ?hSb79 (fun hHeld => ?restb79)
          case hSb79 => first | exact ⟨DD.cell 0, DD.cell 1⟩ | exact ⟨DA.cell 0, DA.cell 1⟩
          clear hK K
          (try simp only [Act.put, List.setIfInBounds_toArray, List.set_cons_zero, List.set_cons_succ])
          refine wpAnyH_take (i := 14) (oi := ?oo103) (v := ?vv103) ?hi103 (by kernel_rfl) ?hf103 (by kernel_rfl) ?hq103 ?hy103 (by assumption) ?rest103
          case hi103 => (simp only [List.getElem?_toArray, List.getElem?_cons_zero, List.getElem?_cons_succ] <;> exact rfl)
          case hf103 => kernel_rfl
          case hq103 => exact fun _ _ _ h => h
          case hy103 => exact Or.inl ⟨by rfl, by intro w hSw; (try dsimp only at hSw); go_simp; try with_reducible rfl⟩
          (try simp only [Act.put, List.setIfInBounds_toArray, List.set_cons_zero, List.set_cons_succ])
          refine wpAnyH_ready (rs := [4]) (by kernel_rfl) (by simp) ?_
          refine AllReadyH.cons (o := ?oob80) ?hib80 (fun K hK => ?stb80) ?moreb80
          case hib80 => (simp only [List.getElem?_toArray, List.getElem?_cons_zero, List.getElem?_cons_succ] <;> exact rfl)
          case stb80 =>
            go_simp
            refine hK.out _ _ ?hSb80 (fun hHeld => ?restb80)
            case hSb80 => first | exact ⟨DD.cell 0, DD.cell 1⟩ | exact ⟨DA.cell 0, DA.cell 1⟩
            clear hK K
            (try simp only [Act.put, List.setIfInBounds_toArray, List.set_cons_zero, List.set_cons_succ])
            refine wpAnyH_take (i := 15) (oi := ?oo104) (v := ?vv104) ?hi104 (by kernel_rfl) ?hf104 (by kernel_rfl) ?hq104 ?hy104 (by assumption) ?rest104
            case hi104 => (simp only [List.getElem?_toArray, List.getElem?_cons_zero, List.getElem?_cons_succ] <;> exact rfl)
            case hf104 => kernel_rfl
            case hq104 => exact fun _ _ _ h => h
            case hy104 => exact Or.inl ⟨by rfl, by intro w hSw; (try dsimp only at hSw); go_simp; try with_reducible rfl⟩
            (try simp only [Act.put, List.setIfInBounds_toArray, List.set_cons_zero, List.set_cons_succ])
            refine wpAnyH_ready (rs := [18]) (by kernel_rfl) (by simp) ?_
            refine AllReadyH.cons (o := ?oos81) ?his81 (fun K hK => ?sts81) ?mores81
            case his81 => (simp only [List.getElem?_toArray, List.getElem?_cons_zero, List.getElem?_cons_succ] <;> exact rfl)
            case mores81 => exact AllReadyH.nil
            refine step_fresh rfl (.tmp 19) (.tmp 21) 110 rfl 120 (.agg #[.int .i64 0, .int .i64 0]) 2 16 Try.underlying110 info_open rfl (by decide) (by decide) none 0 0 [] rfl (fun _ => ⟨rfl, rfl⟩) rfl (fun b hb => by cases hb) ⟨W2.heap.size, 0, none⟩ 1 1 [.int .i64 a, .int .i64 b] rfl rfl (two_new W2 _ _ _ rfl) (by simp [Value.oneCell']) (by omega) (by omega) ?_
            intro g c' w' own' hg' k'
            have BC := BA.chg k' (by simp)
            have DC := DA.chg k' (by simp)
            have c3 := BC.cell (t * 3)
            have f3 := BC.frozen (t * 3)
            refine hK.out _ _ ?hSs81 (fun hHeld => ?rests81)
            case hSs81 => exact ⟨DC.cell 0, DC.cell 1⟩
            clear hK K
            (try simp only [Act.put, List.setIfInBounds_toArray, List.set_cons_zero, List.set_cons_succ])
            refine wpAnyH_take (i := 19) (oi := ?oo105) (v := ?vv105) ?hi105 (by kernel_rfl) ?hf105 (by kernel_rfl) ?hq105 ?hy105 (by assumption) ?rest105
            case hi105 => (simp only [List.getElem?_toArray, List.getElem?_cons_zero, List.getElem?_cons_succ] <;> exact rfl)
            case hf105 => kernel_rfl
            case hq105 => exact fun _ _ _ h => h
            case hy105 => exact Or.inl ⟨by rfl, by intro w hSw; (try dsimp only at hSw); go_simp; try with_reducible rfl⟩
            (try simp only [Act.put, List.setIfInBounds_toArray, List.set_cons_zero, List.set_cons_succ])
            refine wpAnyH_take (i := 20) (oi := ?oo106) (v := ?vv106) ?hi106 (by kernel_rfl) ?hf106 (by kernel_rfl) ?hq106 ?hy106 (by assumption) ?rest106
            case hi106 => (simp only [List.getElem?_toArray, List.getElem?_cons_zero, List.getElem?_cons_succ] <;> exact rfl)
            case hf106 => kernel_rfl
            case hq106 => exact fun _ _ _ h => h
            case hy106 => exact Or.inl ⟨by rfl, by intro w hSw; (try dsimp only at hSw); go_simp; try with_reducible rfl⟩
            (try simp only [Act.put, List.setIfInBounds_toArray, List.set_cons_zero, List.set_cons_succ])
            refine wpAnyH_ready (rs := [21]) (by kernel_rfl) (by simp) ?_
            refine AllReadyH.cons (o := ?oos81x) ?his81x (fun K hK => ?sts81x) ?mores81x
            case his81x => (simp only [List.getElem?_toArray, List.getElem?_cons_zero, List.getElem?_cons_succ] <;> exact rfl)
            case mores81x => exact AllReadyH.nil
            go_simp
            refine hK.out _ _ ?hSs81x (fun hHeld => ?rests81x)
            case hSs81x => exact ⟨(DC.far (p := ⟨q, t * 3, none⟩) hdq _).cell 0, (DC.far (p := ⟨q, t * 3, none⟩) hdq _).cell 1⟩
            clear hK K
            (try simp only [Act.put, List.setIfInBounds_toArray, List.set_cons_zero, List.set_cons_succ])
            refine wpAnyH_done (by kernel_rfl) ?_ _
            go_wp2
            go_end0
            have KX := (Chg.refl [q] w').setCell (p := ⟨q, t * 3, none⟩) (by simp) (.slice (some ⟨g, 0, none⟩) 1 c')
            have own2 : w'.ownsRow 0 120 2 (.slice (some ⟨g, 0, none⟩) 1 c') 1 [.int .i64 a, .int .i64 b] := own'
            have hgq := own_ne own2 BC (by decide)
            have hsz := (KD.alloc (.cells #[.int .i64 a, .int .i64 b] 120)).size
            have hfr : ∀ g', (Value.slice (some ⟨g, 0, none⟩) 1 c').ownBlock = some g' → w.heap.size ≤ g' := fun g' hg'' => by
              have e : g = g' := by simpa [Value.ownBlock] using hg''
              omega
            have hno : ∀ g', (Value.slice (some ⟨g, 0, none⟩) 1 c').ownBlock = some g' → g' ∉ [q] := fun g' hg'' => by
              simp only [List.mem_singleton]
              intro e
              exact hgq (by rw [hg'', e])
            exact ⟨rfl, .slice (some ⟨g, 0, none⟩) 1 c', BC.set_ (t * 3) _, (Sl.of_own own2).chg KX hno, hfr, ((KD.alloc _).trans k' (by simp)).setCell (.inl (by simp)) _⟩
          exact AllReadyH.nil
        exact AllReadyH.nil
      refine AllReadyH.cons (o := ?oob82) ?hib82 (fun K hK => ?stb82) ?moreb82
      case hib82 => (simp only [List.getElem?_toArray, List.getElem?_cons_zero, List.getElem?_cons_succ] <;> exact rfl)
      case stb82 =>
        go_simp
        refine hK.out _ _ ?hSb82 (fun hHeld => ?restb82)
        case hSb82 => first | exact ⟨DD.cell 0, DD.cell 1⟩ | exact ⟨DA.cell 0, DA.cell 1⟩
        clear hK K
        (try simp only [Act.put, List.setIfInBounds_toArray, List.set_cons_zero, List.set_cons_succ])
        refine wpAnyH_take (i := 14) (oi := ?oo107) (v := ?vv107) ?hi107 (by kernel_rfl) ?hf107 (by kernel_rfl) ?hq107 ?hy107 (by assumption) ?rest107
        case hi107 => (simp only [List.getElem?_toArray, List.getElem?_cons_zero, List.getElem?_cons_succ] <;> exact rfl)
        case hf107 => kernel_rfl
        case hq107 => exact fun _ _ _ h => h
        case hy107 => exact Or.inl ⟨by rfl, by intro w hSw; (try dsimp only at hSw); go_simp; try with_reducible rfl⟩
        (try simp only [Act.put, List.setIfInBounds_toArray, List.set_cons_zero, List.set_cons_succ])
        refine wpAnyH_ready (rs := [4, 8]) (by kernel_rfl) (by simp) ?_
        refine AllReadyH.cons (o := ?oob83) ?hib83 (fun K hK => ?stb83) ?moreb83
        case hib83 => (simp only [List.getElem?_toArray, List.getElem?_cons_zero, List.getElem?_cons_succ] <;> exact rfl)
        case stb83 =>
          go_simp
          refine hK.out _ _ ?hSb83 (fun hHeld => ?restb83)
          case hSb83 => first | exact ⟨DD.cell 0, DD.cell 1⟩ | exact ⟨DA.cell 0, DA.cell 1⟩
          clear hK K
          (try simp only [Act.put, List.setIfInBounds_toArray, List.set_cons_zero, List.set_cons_succ])
          refine wpAnyH_ready (rs := [8]) (by kernel_rfl) (by simp) ?_
          refine AllReadyH.cons (o := ?oob84) ?hib84 (fun K hK => ?stb84) ?moreb84
          case hib84 => (simp only [List.getElem?_toArray, List.getElem?_cons_zero, List.getElem?_cons_succ] <;> exact rfl)
          case stb84 =>
            go_simp
            refine hK.out _ _ ?hSb84 (fun hHeld => ?restb84)
            case hSb84 => first | exact ⟨DD.cell 0, DD.cell 1⟩ | exact ⟨DA.cell 0, DA.cell 1⟩
            clear hK K
            (try simp only [Act.put, List.setIfInBounds_toArray, List.set_cons_zero, List.set_cons_succ])
            refine wpAnyH_take (i := 9) (oi := ?oo108) (v := ?vv108) ?hi108 (by kernel_rfl) ?hf108 (by kernel_rfl) ?hq108 ?hy108 (by assumption) ?rest108
            case hi108 => (simp only [List.getElem?_toArray, List.getElem?_cons_zero, List.getElem?_cons_succ] <;> exact rfl)
            case hf108 => kernel_rfl
            case hq108 => exact fun _ _ _ h => h
            case hy108 => exact Or.inl ⟨by rfl, by intro w hSw; (try dsimp only at hSw); go_simp; try with_reducible rfl⟩
            (try simp only [Act.put, List.setIfInBounds_toArray, List.set_cons_zero, List.set_cons_succ])
            refine wpAnyH_take (i := 15) (oi := ?oo109) (v := ?vv109) ?hi109 (by kernel_rfl) ?hf109 (by kernel_rfl) ?hq109 ?hy109 (by assumption) ?rest109
            case hi109 => (simp only [List.getElem?_toArray, List.getElem?_cons_zero, List.getElem?_cons_succ] <;> exact rfl)
            case hf109 => kernel_rfl
            case hq109 => exact fun _ _ _ h => h
            case hy109 => exact Or.inl ⟨by rfl, by intro w hSw; (try dsimp only at hSw); go_simp; try with_reducible rfl⟩
            (try simp only [Act.put, List.setIfInBounds_toArray, List.set_cons_zero, List.set_cons_succ])
            refine wpAnyH_ready (rs := [18]) (by kernel_rfl) (by simp) ?_
            refine AllReadyH.cons (o := ?oos85) ?his85 (fun K hK => ?sts85) ?mores85
            case his85 => (simp only [List.getElem?_toArray, List.getElem?_cons_zero, List.getElem?_cons_succ] <;> exact rfl)
            case mores85 => exact AllReadyH.nil
            refine step_fresh rfl (.tmp 19) (.tmp 21) 110 rfl 120 (.agg #[.int .i64 0, .int .i64 0]) 2 16 Try.underlying110 info_open rfl (by decide) (by decide) none 0 0 [] rfl (fun _ => ⟨rfl, rfl⟩) rfl (fun b hb => by cases hb) ⟨W2.heap.size, 0, none⟩ 1 1 [.int .i64 a, .int .i64 b] rfl rfl (two_new W2 _ _ _ rfl) (by simp [Value.oneCell']) (by omega) (by omega) ?_
            intro g c' w' own' hg' k'
            have BC := BA.chg k' (by simp)
            have DC := DA.chg k' (by simp)
            have c3 := BC.cell (t * 3)
            have f3 := BC.frozen (t * 3)
            refine hK.out _ _ ?hSs85 (fun hHeld => ?rests85)
            case hSs85 => exact ⟨DC.cell 0, DC.cell 1⟩
            clear hK K
            (try simp only [Act.put, List.setIfInBounds_toArray, List.set_cons_zero, List.set_cons_succ])
            refine wpAnyH_take (i := 19) (oi := ?oo110) (v := ?vv110) ?hi110 (by kernel_rfl) ?hf110 (by kernel_rfl) ?hq110 ?hy110 (by assumption) ?rest110
            case hi110 => (simp only [List.getElem?_toArray, List.getElem?_cons_zero, List.getElem?_cons_succ] <;> exact rfl)
            case hf110 => kernel_rfl
            case hq110 => exact fun _ _ _ h => h
            case hy110 => exact Or.inl ⟨by rfl, by intro w hSw; (try dsimp only at hSw); go_simp; try with_reducible rfl⟩
            (try simp only [Act.put, List.setIfInBounds_toArray, List.set_cons_zero, List.set_cons_succ])
            refine wpAnyH_take (i := 20) (oi := ?oo111) (v := ?vv111) ?hi111 (by kernel_rfl) ?hf111 (by kernel_rfl) ?hq111 ?hy111 (by assumption) ?rest111
            case hi111 => (simp only [List.getElem?_toArray, List.getElem?_cons_zero, List.getElem?_cons_succ] <;> exact rfl)
            case hf111 => kernel_rfl
            case hq111 => exact fun _ _ _ h => h
            case hy111 => exact Or.inl ⟨by rfl, by intro w hSw; (try dsimp only at hSw); go_simp; try with_reducible rfl⟩
            (try simp only [Act.put, List.setIfInBounds_toArray, List.set_cons_zero, List.set_cons_succ])
            refine wpAnyH_ready (rs := [21]) (by kernel_rfl) (by simp) ?_
            refine AllReadyH.cons (o := ?oos85x) ?his85x (fun K hK => ?sts85x) ?mores85x
            case his85x => (simp only [List.getElem?_toArray, List.getElem?_cons_zero, List.getElem?_cons_succ] <;> exact rfl)
            case mores85x => exact AllReadyH.nil
            go_simp
            refine hK.out _ _ ?hSs85x (fun hHeld => ?rests85x)
            case hSs85x => exact ⟨(DC.far (p := ⟨q, t * 3, none⟩) hdq _).cell 0, (DC.far (p := ⟨q, t * 3, none⟩) hdq _).cell 1⟩
            clear hK K
            (try simp only [Act.put, List.setIfInBounds_toArray, List.set_cons_zero, List.set_cons_succ])
            refine wpAnyH_done (by kernel_rfl) ?_ _
            go_wp2
            go_end0
            have KX := (Chg.refl [q] w').setCell (p := ⟨q, t * 3, none⟩) (by simp) (.slice (some ⟨g, 0, none⟩) 1 c')
            have own2 : w'.ownsRow 0 120 2 (.slice (some ⟨g, 0, none⟩) 1 c') 1 [.int .i64 a, .int .i64 b] := own'
            have hgq := own_ne own2 BC (by decide)
            have hsz := (KD.alloc (.cells #[.int .i64 a, .int .i64 b] 120)).size
            have hfr : ∀ g', (Value.slice (some ⟨g, 0, none⟩) 1 c').ownBlock = some g' → w.heap.size ≤ g' := fun g' hg'' => by
              have e : g = g' := by simpa [Value.ownBlock] using hg''
              omega
            have hno : ∀ g', (Value.slice (some ⟨g, 0, none⟩) 1 c').ownBlock = some g' → g' ∉ [q] := fun g' hg'' => by
              simp only [List.mem_singleton]
              intro e
              exact hgq (by rw [hg'', e])
            exact ⟨rfl, .slice (some ⟨g, 0, none⟩) 1 c', BC.set_ (t * 3) _, (Sl.of_own own2).chg KX hno, hfr, ((KD.alloc _).trans k' (by simp)).setCell (.inl (by simp)) _⟩
          exact AllReadyH.nil
        refine AllReadyH.cons (o := ?oob86) ?hib86 (fun K hK => ?stb86) ?moreb86
        case hib86 => (simp only [List.getElem?_toArray, List.getElem?_cons_zero, List.getElem?_cons_succ] <;> exact rfl)
        case stb86 =>
          go_simp
          refine hK.out _ _ ?hSb86 (fun hHeld => ?restb86)
          case hSb86 => first | exact ⟨DD.cell 0, DD.cell 1⟩ | exact ⟨DA.cell 0, DA.cell 1⟩
          clear hK K
          (try simp only [Act.put, List.setIfInBounds_toArray, List.set_cons_zero, List.set_cons_succ])
          refine wpAnyH_take (i := 9) (oi := ?oo112) (v := ?vv112) ?hi112 (by kernel_rfl) ?hf112 (by kernel_rfl) ?hq112 ?hy112 (by assumption) ?rest112
          case hi112 => (simp only [List.getElem?_toArray, List.getElem?_cons_zero, List.getElem?_cons_succ] <;> exact rfl)
          case hf112 => kernel_rfl
          case hq112 => exact fun _ _ _ h => h
          case hy112 => exact Or.inl ⟨by rfl, by intro w hSw; (try dsimp only at hSw); go_simp; try with_reducible rfl⟩
          (try simp only [Act.put, List.setIfInBounds_toArray, List.set_cons_zero, List.set_cons_succ])
          refine wpAnyH_ready (rs := [4]) (by kernel_rfl) (by simp) ?_
          refine AllReadyH.cons (o := ?oob87) ?hib87 (fun K hK => ?stb87) ?moreb87
          case hib87 => (simp only [List.getElem?_toArray, List.getElem?_cons_zero, List.getElem?_cons_succ] <;> exact rfl)
          case stb87 =>
            go_simp
            refine hK.out _ _ ?hSb87 (fun hHeld => ?restb87)
            case hSb87 => first | exact ⟨DD.cell 0, DD.cell 1⟩ | exact ⟨DA.cell 0, DA.cell 1⟩
            clear hK K
            (try simp only [Act.put, List.setIfInBounds_toArray, List.set_cons_zero, List.set_cons_succ])
            refine wpAnyH_take (i := 15) (oi := ?oo113) (v := ?vv113) ?hi113 (by kernel_rfl) ?hf113 (by kernel_rfl) ?hq113 ?hy113 (by assumption) ?rest113
            case hi113 => (simp only [List.getElem?_toArray, List.getElem?_cons_zero, List.getElem?_cons_succ] <;> exact rfl)
            case hf113 => kernel_rfl
            case hq113 => exact fun _ _ _ h => h
            case hy113 => exact Or.inl ⟨by rfl, by intro w hSw; (try dsimp only at hSw); go_simp; try with_reducible rfl⟩
            (try simp only [Act.put, List.setIfInBounds_toArray, List.set_cons_zero, List.set_cons_succ])
            refine wpAnyH_ready (rs := [18]) (by kernel_rfl) (by simp) ?_
            refine AllReadyH.cons (o := ?oos88) ?his88 (fun K hK => ?sts88) ?mores88
            case his88 => (simp only [List.getElem?_toArray, List.getElem?_cons_zero, List.getElem?_cons_succ] <;> exact rfl)
            case mores88 => exact AllReadyH.nil
            refine step_fresh rfl (.tmp 19) (.tmp 21) 110 rfl 120 (.agg #[.int .i64 0, .int .i64 0]) 2 16 Try.underlying110 info_open rfl (by decide) (by decide) none 0 0 [] rfl (fun _ => ⟨rfl, rfl⟩) rfl (fun b hb => by cases hb) ⟨W2.heap.size, 0, none⟩ 1 1 [.int .i64 a, .int .i64 b] rfl rfl (two_new W2 _ _ _ rfl) (by simp [Value.oneCell']) (by omega) (by omega) ?_
            intro g c' w' own' hg' k'
            have BC := BA.chg k' (by simp)
            have DC := DA.chg k' (by simp)
            have c3 := BC.cell (t * 3)
            have f3 := BC.frozen (t * 3)
            refine hK.out _ _ ?hSs88 (fun hHeld => ?rests88)
            case hSs88 => exact ⟨DC.cell 0, DC.cell 1⟩
            clear hK K
            (try simp only [Act.put, List.setIfInBounds_toArray, List.set_cons_zero, List.set_cons_succ])
            refine wpAnyH_take (i := 19) (oi := ?oo114) (v := ?vv114) ?hi114 (by kernel_rfl) ?hf114 (by kernel_rfl) ?hq114 ?hy114 (by assumption) ?rest114
            case hi114 => (simp only [List.getElem?_toArray, List.getElem?_cons_zero, List.getElem?_cons_succ] <;> exact rfl)
            case hf114 => kernel_rfl
            case hq114 => exact fun _ _ _ h => h
            case hy114 => exact Or.inl ⟨by rfl, by intro w hSw; (try dsimp only at hSw); go_simp; try with_reducible rfl⟩
            (try simp only [Act.put, List.setIfInBounds_toArray, List.set_cons_zero, List.set_cons_succ])
            refine wpAnyH_take (i := 20) (oi := ?oo115) (v := ?vv115) ?hi115 (by kernel_rfl) ?hf115 (by kernel_rfl) ?hq115 ?hy115 (by assumption) ?rest115
            case hi115 => (simp only [List.getElem?_toArray, List.getElem?_cons_zero, List.getElem?_cons_succ] <;> exact rfl)
            case hf115 => kernel_rfl
            case hq115 => exact fun _ _ _ h => h
            case hy115 => exact Or.inl ⟨by rfl, by intro w hSw; (try dsimp only at hSw); go_simp; try with_reducible rfl⟩
            (try simp only [Act.put, List.setIfInBounds_toArray, List.set_cons_zero, List.set_cons_succ])
            refine wpAnyH_ready (rs := [21]) (by kernel_rfl) (by simp) ?_
            refine AllReadyH.cons (o := ?oos88x) ?his88x (fun K hK => ?sts88x) ?mores88x
            case his88x => (simp only [List.getElem?_toArray, List.getElem?_cons_zero, List.getElem?_cons_succ] <;> exact rfl)
            case mores88x => exact AllReadyH.nil
            go_simp
            refine hK.out _ _ ?hSs88x (fun hHeld => ?rests88x)
            case hSs88x => exact ⟨(DC.far (p := ⟨q, t * 3, none⟩) hdq _).cell 0, (DC.far (p := ⟨q, t * 3, none⟩) hdq _).cell 1⟩
            clear hK K
            (try simp only [Act.put, List.setIfInBounds_toArray, List.set_cons_zero, List.set_cons_succ])
            refine wpAnyH_done (by kernel_rfl) ?_ _
            go_wp2
            go_end0
            have KX := (Chg.refl [q] w').setCell (p := ⟨q, t * 3, none⟩) (by simp) (.slice (some ⟨g, 0, none⟩) 1 c')
            have own2 : w'.ownsRow 0 120 2 (.slice (some ⟨g, 0, none⟩) 1 c') 1 [.int .i64 a, .int .i64 b] := own'
            have hgq := own_ne own2 BC (by decide)
            have hsz := (KD.alloc (.cells #[.int .i64 a, .int .i64 b] 120)).size
            have hfr : ∀ g', (Value.slice (some ⟨g, 0, none⟩) 1 c').ownBlock = some g' → w.heap.size ≤ g' := fun g' hg'' => by
              have e : g = g' := by simpa [Value.ownBlock] using hg''
              omega
            have hno : ∀ g', (Value.slice (some ⟨g, 0, none⟩) 1 c').ownBlock = some g' → g' ∉ [q] := fun g' hg'' => by
              simp only [List.mem_singleton]
              intro e
              exact hgq (by rw [hg'', e])
            exact ⟨rfl, .slice (some ⟨g, 0, none⟩) 1 c', BC.set_ (t * 3) _, (Sl.of_own own2).chg KX hno, hfr, ((KD.alloc _).trans k' (by simp)).setCell (.inl (by simp)) _⟩
          exact AllReadyH.nil
        exact AllReadyH.nil
      exact AllReadyH.nil
    exact AllReadyH.nil
  | some b' => simp [Value.ownBlock] at h0
end Go.Proofs.Ytbjiecpkalcfeaa.HistP1
