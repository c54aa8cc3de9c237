/- Package history: push, onto a row. -/
import Derived.Test.YtbjiecpkalcfeaaHistF
namespace Go.Proofs.Ytbjiecpkalcfeaa.HistP2
open Go Go.RowKit Go.Proofs.Ytbjiecpkalcfeaa Go.Proofs.Ytbjiecpkalcfeaa.Heap Go.Proofs.Ytbjiecpkalcfeaa.Sl Go.Proofs.Ytbjiecpkalcfeaa.Hist Go.Proofs.Ytbjiecpkalcfeaa.HistF

set_option maxRecDepth 100000 in
set_option maxHeartbeats 4000000 in
theorem push_some {w : World} {q t n : Nat} {cs : Array Value} {v : Value} {xs : List Value} (B : Blk w q 114 cs) (hv : cs[t * 3]? = some v) (hs : Sl w 120 2 v n xs) (hn : n ≤ 5) (h0 : v.ownBlock ≠ none) (a b : Int) :
    Calls Try.prog 63 #[.pointer (some ⟨q, t * 3, none⟩), .agg #[.int .i64 a, .int .i64 b]] w fun e w' => e = .returned (.tuple #[]) ∧ ∃ v', Blk w' q 114 (cs.setIfInBounds (t * 3) v') ∧ Sl w' 120 2 v' (n + 1) (xs ++ [.int .i64 a, .int .i64 b]) ∧ (∀ g, v'.ownBlock = some g → w.heap.size ≤ g) ∧ Chg [q] w w' := by
  obtain ⟨ao, cap, rfl, hnc, hnone, holds⟩ : ∃ ao cap, v = .slice ao n cap ∧ n ≤ cap ∧ (ao = none → n = 0 ∧ cap = 0) ∧ (∀ b, ao = some b → b.block < w.heap.size ∧ ∀ j u, xs[j]? = some u → w.cell? (b.add j) = some u) := by
    rcases hs.2 with ⟨rfl, rfl⟩ | ⟨g, off, cap, cs', rfl, hb, hnc, hsz, hx⟩
    · exact ⟨none, 0, rfl, Nat.le_refl _, (fun _ => ⟨rfl, rfl⟩), (fun b hb => by cases hb)⟩
    · refine ⟨some ⟨g, off, none⟩, cap, rfl, hnc, (fun h => by cases h), fun b hb' => ?_⟩
      obtain rfl := Option.some.inj hb'
      refine ⟨hb.lt, fun j u hj => ?_⟩
      rw [add_plain, hb.cell]
      exact hx j u hj
  have hxl := hs.1
  have hs' := hs
  clear hs
  obtain ⟨d, ed⟩ : ∃ d, w.heap.size = d := ⟨_, rfl⟩
  have D := Blk.new' w 120 #[.int .i64 a, .int .i64 b] ed
  have B1 := B.alloc (.cells #[.int .i64 a, .int .i64 b] 120)
  have K := (Chg.refl [q] w).alloc (.cells #[.int .i64 a, .int .i64 b] 120)
  have hold : ∀ b', ao = some b' → ∀ j u, xs[j]? = some u → (w.alloc (.cells #[.int .i64 a, .int .i64 b] 120)).cell? (b'.add j) = some u := fun b' hb' j u hj => by
    obtain ⟨h1, h2⟩ := holds b' hb'
    rw [World.cell?_alloc_lt _ _ _ (by rw [block_of_add]; exact h1)]
    exact h2 j u hj
  have c0 := (B1.cell (t * 3)).trans hv
  have fz := B1.frozen (t * 3)
  obtain ⟨e0, e1⟩ := blk2 D
  obtain ⟨W1, hW⟩ : ∃ W1, w.alloc (.cells #[.int .i64 a, .int .i64 b] 120) = W1 := ⟨_, rfl⟩
  have hn0 : (0 : Int) ≤ n := by omega
  rw [hW] at B1 K hold c0 fz e0 e1
  have KD := K.drew
  have BD := B1.drew
  cases ao with
  | none => exact absurd rfl h0
  | some b' =>
    have hci : (n : Int) ≤ cap := by omega
    have hsW : w.heap.size ≤ W1.heap.size := by rw [← hW]; simp
    go_enter Try.func63, Try.ntmps63
    go_wp2_with fail
    try rw [ed]
    obtain ⟨W2, hW2⟩ : ∃ W2, W1.drew = W2 := ⟨_, rfl⟩
    have DX := D
    rw [hW] at DX
    have DD := DX.drew
    rw [hW2] at KD BD DD
    have BA := BD.alloc (.cells #[.int .i64 a, .int .i64 b] 120)
    have DA := DD.alloc (.cells #[.int .i64 a, .int .i64 b] 120)
    have c2 := (BD.cell (t * 3)).trans hv
    have c4 := (BA.cell (t * 3)).trans hv
    have hdq : d ≠ q := Blk.ne_ DD BD (by decide)
    refine wp_region_held_drew (S := fun V => V.cell? ⟨d, 0, none⟩ = some (.int .i64 a) ∧ V.cell? ⟨d, 1, none⟩ = some (.int .i64 b)) (by kernel_rfl) ?_ (fun hHeld => ?_)
    case _ => exact ⟨DX.cell 0, DX.cell 1⟩
    rw [hW2] at hHeld ⊢
    refine wpAnyH_take (i := 0) (oi := ?oo116) (v := ?vv116) ?hi116 (by kernel_rfl) ?hf116 (by kernel_rfl) ?hq116 ?hy116 (by assumption) ?rest116
    case hi116 => (simp only [List.getElem?_toArray, List.getElem?_cons_zero] <;> exact rfl)
    case hf116 => kernel_rfl
    case hq116 => exact fun _ _ _ h => h
    case hy116 => exact Or.inl ⟨by rfl, by intro w hSw; (try dsimp only at hSw); go_simp; try with_reducible rfl⟩
    (try simp only [Act.put, List.setIfInBounds_toArray, List.set_cons_zero, List.set_cons_succ])
    refine wpAnyH_take (i := 1) (oi := ?oo117) (v := ?vv117) ?hi117 (by kernel_rfl) ?hf117 (by kernel_rfl) ?hq117 ?hy117 (by assumption) ?rest117
    case hi117 => (simp only [List.getElem?_toArray, List.getElem?_cons_zero, List.getElem?_cons_succ] <;> exact rfl)
    case hf117 => kernel_rfl
    case hq117 => exact fun _ _ _ h => h
    case hy117 => exact Or.inl ⟨by rfl, by intro w hSw; (try dsimp only at hSw); go_simp; try with_reducible rfl⟩
    (try simp only [Act.put, List.setIfInBounds_toArray, List.set_cons_zero, List.set_cons_succ])
    refine wpAnyH_take (i := 2) (oi := ?oo118) (v := ?vv118) ?hi118 (by kernel_rfl) ?hf118 (by kernel_rfl) ?hq118 ?hy118 (by assumption) ?rest118
    case hi118 => (simp only [List.getElem?_toArray, List.getElem?_cons_zero, List.getElem?_cons_succ] <;> exact rfl)
    case hf118 => kernel_rfl
    case hq118 => exact fun _ _ _ h => h
    case hy118 => exact Or.inl ⟨by rfl, by intro w hSw; (try dsimp only at hSw); go_simp; try with_reducible rfl⟩
    (try simp only [Act.put, List.setIfInBounds_toArray, List.set_cons_zero, List.set_cons_succ])
    refine wpAnyH_take (i := 3) (oi := ?oo119) (v := ?vv119) ?hi119 (by kernel_rfl) ?hf119 (by kernel_rfl) ?hq119 ?hy119 (by assumption) ?rest119
    case hi119 => (simp only [List.getElem?_toArray, List.getElem?_cons_zero, List.getElem?_cons_succ] <;> exact rfl)
    case hf119 => kernel_rfl
    case hq119 => exact fun _ _ _ h => h
    case hy119 => exact Or.inl ⟨by rfl, by intro w hSw; (try dsimp only at hSw); go_simp; try with_reducible rfl⟩
    (try simp only [Act.put, List.setIfInBounds_toArray, List.set_cons_zero, List.set_cons_succ])
    refine wpAnyH_take (i := 5) (oi := ?oo120) (v := ?vv120) ?hi120 (by kernel_rfl) ?hf120 (by kernel_rfl) ?hq120 ?hy120 (by assumption) ?rest120
    case hi120 => (simp only [List.getElem?_toArray, List.getElem?_cons_zero, List.getElem?_cons_succ] <;> exact rfl)
    case hf120 => kernel_rfl
    case hq120 => exact fun _ _ _ h => h
    case hy120 => exact Or.inl ⟨by rfl, by intro w hSw; (try dsimp only at hSw); go_simp; try with_reducible rfl⟩
    (try simp only [Act.put, List.setIfInBounds_toArray, List.set_cons_zero, List.set_cons_succ])
    refine wpAnyH_take (i := 6) (oi := ?oo121) (v := ?vv121) ?hi121 (by kernel_rfl) ?hf121 (by kernel_rfl) ?hq121 ?hy121 (by assumption) ?rest121
    case hi121 => (simp only [List.getElem?_toArray, List.getElem?_cons_zero, List.getElem?_cons_succ] <;> exact rfl)
    case hf121 => kernel_rfl
    case hq121 => exact fun _ _ _ h => h
    case hy121 => exact Or.inl ⟨by rfl, by intro w hSw; (try dsimp only at hSw); go_simp; try with_reducible rfl⟩
    (try simp only [Act.put, List.setIfInBounds_toArray, List.set_cons_zero, List.set_cons_succ])
    refine wpAnyH_take (i := 7) (oi := ?oo122) (v := ?vv122) ?hi122 (by kernel_rfl) ?hf122 (by kernel_rfl) ?hq122 ?hy122 (by assumption) ?rest122
    case hi122 => (simp only [List.getElem?_toArray, List.getElem?_cons_zero, List.getElem?_cons_succ] <;> exact rfl)
    case hf122 => kernel_rfl
    case hq122 => exact fun _ _ _ h => h
    case hy122 => exact Or.inl ⟨by rfl, by intro w hSw; (try dsimp only at hSw); go_simp; try with_reducible rfl⟩
    (try simp only [Act.put, List.setIfInBounds_toArray, List.set_cons_zero, List.set_cons_succ])
    refine wpAnyH_take (i := 10) (oi := ?oo123) (v := ?vv123) ?hi123 (by kernel_rfl) ?hf123 (by kernel_rfl) ?hq123 ?hy123 (by assumption) ?rest123
    case hi123 => (simp only [List.getElem?_toArray, List.getElem?_cons_zero, List.getElem?_cons_succ] <;> exact rfl)
    case hf123 => kernel_rfl
    case hq123 => exact fun _ _ _ h => h
    case hy123 => exact Or.inl ⟨by rfl, by intro w hSw; (try dsimp only at hSw); go_simp; try with_reducible rfl⟩
    (try simp only [Act.put, List.setIfInBounds_toArray, List.set_cons_zero, List.set_cons_succ])
    refine wpAnyH_take (i := 11) (oi := ?oo124) (v := ?vv124) ?hi124 (by kernel_rfl) ?hf124 (by kernel_rfl) ?hq124 ?hy124 (by assumption) ?rest124
    case hi124 => (simp only [List.getElem?_toArray, List.getElem?_cons_zero, List.getElem?_cons_succ] <;> exact rfl)
    case hf124 => kernel_rfl
    case hq124 => exact fun _ _ _ h => h
    case hy124 => exact Or.inl ⟨by rfl, by intro w hSw; (try dsimp only at hSw); go_simp; try with_reducible rfl⟩
    (try simp only [Act.put, List.setIfInBounds_toArray, List.set_cons_zero, List.set_cons_succ])
    refine wpAnyH_take (i := 12) (oi := ?oo125) (v := ?vv125) ?hi125 (by kernel_rfl) ?hf125 (by kernel_rfl) ?hq125 ?hy125 (by assumption) ?rest125
    case hi125 => (simp only [List.getElem?_toArray, List.getElem?_cons_zero, List.getElem?_cons_succ] <;> exact rfl)
    case hf125 => kernel_rfl
    case hq125 => exact fun _ _ _ h => h
    case hy125 => exact Or.inl ⟨by rfl, by intro w hSw; (try dsimp only at hSw); go_simp; try with_reducible rfl⟩
    (try simp only [Act.put, List.setIfInBounds_toArray, List.set_cons_zero, List.set_cons_succ])
    refine wpAnyH_take (i := 16) (oi := ?oo126) (v := ?vv126) ?hi126 (by kernel_rfl) ?hf126 (by kernel_rfl) ?hq126 ?hy126 (by assumption) ?rest126
    case hi126 => (simp only [List.getElem?_toArray, List.getElem?_cons_zero, List.getElem?_cons_succ] <;> exact rfl)
    case hf126 => kernel_rfl
    case hq126 => exact fun _ _ _ h => h
    case hy126 => exact Or.inl ⟨by rfl, by intro w hSw; (try dsimp only at hSw); go_simp; try with_reducible rfl⟩
    (try simp only [Act.put, List.setIfInBounds_toArray, List.set_cons_zero, List.set_cons_succ])
    refine wpAnyH_ready (rs := [4, 8, 13, 17]) (by kernel_rfl) (by simp) ?_
    refine AllReadyH.cons (o := ?oob89) ?hib89 (fun K hK => ?stb89) ?moreb89
    case hib89 => (simp only [List.getElem?_toArray, List.getElem?_cons_zero, List.getElem?_cons_succ] <;> exact rfl)
    case stb89 =>
      go_simp
      refine hK.out _ _ ?hSb89 (fun hHeld => ?restb89)
      case hSb89 => first | exact ⟨DD.cell 0, DD.cell 1⟩ | exact ⟨DA.cell 0, DA.cell 1⟩
      clear hK K
      (try simp only [Act.put, List.setIfInBounds_toArray, List.set_cons_zero, List.set_cons_succ])
      refine wpAnyH_ready (rs := [8, 13, 17]) (by kernel_rfl) (by simp) ?_
      refine AllReadyH.cons (o := ?oob90) ?hib90 (fun K hK => ?stb90) ?moreb90
      case hib90 => (simp only [List.getElem?_toArray, List.getElem?_cons_zero, List.getElem?_cons_succ] <;> exact rfl)
      case stb90 =>
        go_simp
        refine hK.out _ _ ?hSb90 (fun hHeld => ?restb90)
        case hSb90 => first | exact ⟨DD.cell 0, DD.cell 1⟩ | exact ⟨DA.cell 0, DA.cell 1⟩
        clear hK K
        (try simp only [Act.put, List.setIfInBounds_toArray, List.set_cons_zero, List.set_cons_succ])
        refine wpAnyH_take (i := 9) (oi := ?oo127) (v := ?vv127) ?hi127 (by kernel_rfl) ?hf127 (by kernel_rfl) ?hq127 ?hy127 (by assumption) ?rest127
        case hi127 => (simp only [List.getElem?_toArray, List.getElem?_cons_zero, List.getElem?_cons_succ] <;> exact rfl)
        case hf127 => kernel_rfl
        case hq127 => exact fun _ _ _ h => h
        case hy127 => exact Or.inl ⟨by rfl, by intro w hSw; (try dsimp only at hSw); go_simp; try with_reducible rfl⟩
        (try simp only [Act.put, List.setIfInBounds_toArray, List.set_cons_zero, List.set_cons_succ])
        refine wpAnyH_ready (rs := [13, 17]) (by kernel_rfl) (by simp) ?_
        refine AllReadyH.cons (o := ?oob91) ?hib91 (fun K hK => ?stb91) ?moreb91
        case hib91 => (simp only [List.getElem?_toArray, List.getElem?_cons_zero, List.getElem?_cons_succ] <;> exact rfl)
        case stb91 =>
          go_simp
          refine hK.out _ _ ?hSb91 (fun hHeld => ?restb91)
          case hSb91 => first | exact ⟨DD.cell 0, DD.cell 1⟩ | exact ⟨DA.cell 0, DA.cell 1⟩
          clear hK K
          (try simp only [Act.put, List.setIfInBounds_toArray, List.set_cons_zero, List.set_cons_succ])
          refine wpAnyH_take (i := 14) (oi := ?oo128) (v := ?vv128) ?hi128 (by kernel_rfl) ?hf128 (by kernel_rfl) ?hq128 ?hy128 (by assumption) ?rest128
          case hi128 => (simp only [List.getElem?_toArray, List.getElem?_cons_zero, List.getElem?_cons_succ] <;> exact rfl)
          case hf128 => kernel_rfl
          case hq128 => exact fun _ _ _ h => h
          case hy128 => exact Or.inl ⟨by rfl, by intro w hSw; (try dsimp only at hSw); go_simp; try with_reducible rfl⟩
          (try simp only [Act.put, List.setIfInBounds_toArray, List.set_cons_zero, List.set_cons_succ])
          refine wpAnyH_take (i := 15) (oi := ?oo129) (v := ?vv129) ?hi129 (by kernel_rfl) ?hf129 (by kernel_rfl) ?hq129 ?hy129 (by assumption) ?rest129
          case hi129 => (simp only [List.getElem?_toArray, List.getElem?_cons_zero, List.getElem?_cons_succ] <;> exact rfl)
          case hf129 => kernel_rfl
          case hq129 => exact fun _ _ _ h => h
          case hy129 => exact Or.inl ⟨by rfl, by intro w hSw; (try dsimp only at hSw); go_simp; try with_reducible rfl⟩
          (try simp only [Act.put, List.setIfInBounds_toArray, List.set_cons_zero, List.set_cons_succ])
          refine wpAnyH_ready (rs := [17]) (by kernel_rfl) (by simp) ?_
          refine AllReadyH.cons (o := ?oob92) ?hib92 (fun K hK => ?stb92) ?moreb92
          case hib92 => (simp only [List.getElem?_toArray, List.getElem?_cons_zero, List.getElem?_cons_succ] <;> exact rfl)
          case stb92 =>
            go_simp
            refine hK.out _ _ ?hSb92 (fun hHeld => ?restb92)
            case hSb92 => first | exact ⟨DD.cell 0, DD.cell 1⟩ | exact ⟨DA.cell 0, DA.cell 1⟩
            clear hK K
            (try simp only [Act.put, List.setIfInBounds_toArray, List.set_cons_zero, List.set_cons_succ])
            refine wpAnyH_ready (rs := [18]) (by kernel_rfl) (by simp) ?_
            refine AllReadyH.cons (o := ?oos93) ?his93 (fun K hK => ?sts93) ?mores93
            case his93 => (simp only [List.getElem?_toArray, List.getElem?_cons_zero, List.getElem?_cons_succ] <;> exact rfl)
            case mores93 => exact AllReadyH.nil
            refine step_fresh rfl (.tmp 19) (.tmp 21) 110 rfl 120 (.agg #[.int .i64 0, .int .i64 0]) 2 16 Try.underlying110 info_open rfl (by decide) (by decide) (some b') n n xs rfl (fun h => by cases h) hxl (fun b hb j u hj => by obtain rfl := Option.some.inj hb; rw [World.cell?_alloc_lt _ _ _ (by rw [block_of_add, ← hW2]; exact Nat.lt_of_lt_of_le (holds _ rfl).1 hsW)]; rw [← hW2]; exact hold _ rfl j u hj) ⟨W2.heap.size, 0, none⟩ 1 1 [.int .i64 a, .int .i64 b] rfl rfl (two_new W2 _ _ _ rfl) (by simp [Value.oneCell']) (by omega) (by omega) ?_
            intro g c' w' own' hg' k'
            have BC := BA.chg k' (by simp)
            have DC := DA.chg k' (by simp)
            have c3 := BC.cell (t * 3)
            have f3 := BC.frozen (t * 3)
            refine hK.out _ _ ?hSs93 (fun hHeld => ?rests93)
            case hSs93 => exact ⟨DC.cell 0, DC.cell 1⟩
            clear hK K
            (try simp only [Act.put, List.setIfInBounds_toArray, List.set_cons_zero, List.set_cons_succ])
            refine wpAnyH_take (i := 19) (oi := ?oo130) (v := ?vv130) ?hi130 (by kernel_rfl) ?hf130 (by kernel_rfl) ?hq130 ?hy130 (by assumption) ?rest130
            case hi130 => (simp only [List.getElem?_toArray, List.getElem?_cons_zero, List.getElem?_cons_succ] <;> exact rfl)
            case hf130 => kernel_rfl
            case hq130 => exact fun _ _ _ h => h
            case hy130 => exact Or.inl ⟨by rfl, by intro w hSw; (try dsimp only at hSw); go_simp; try with_reducible rfl⟩
            (try simp only [Act.put, List.setIfInBounds_toArray, List.set_cons_zero, List.set_cons_succ])
            refine wpAnyH_take (i := 20) (oi := ?oo131) (v := ?vv131) ?hi131 (by kernel_rfl) ?hf131 (by kernel_rfl) ?hq131 ?hy131 (by assumption) ?rest131
            case hi131 => (simp only [List.getElem?_toArray, List.getElem?_cons_zero, List.getElem?_cons_succ] <;> exact rfl)
            case hf131 => kernel_rfl
            case hq131 => exact fun _ _ _ h => h
            case hy131 => exact Or.inl ⟨by rfl, by intro w hSw; (try dsimp only at hSw); go_simp; try with_reducible rfl⟩
            (try simp only [Act.put, List.setIfInBounds_toArray, List.set_cons_zero, List.set_cons_succ])
            refine wpAnyH_ready (rs := [21]) (by kernel_rfl) (by simp) ?_
            refine AllReadyH.cons (o := ?oos93x) ?his93x (fun K hK => ?sts93x) ?mores93x
            case his93x => (simp only [List.getElem?_toArray, List.getElem?_cons_zero, List.getElem?_cons_succ] <;> exact rfl)
            case mores93x => exact AllReadyH.nil
            go_simp
            refine hK.out _ _ ?hSs93x (fun hHeld => ?rests93x)
            case hSs93x => exact ⟨(DC.far (p := ⟨q, t * 3, none⟩) hdq _).cell 0, (DC.far (p := ⟨q, t * 3, none⟩) hdq _).cell 1⟩
            clear hK K
            (try simp only [Act.put, List.setIfInBounds_toArray, List.set_cons_zero, List.set_cons_succ])
            refine wpAnyH_done (by kernel_rfl) ?_ _
            go_wp2
            go_end0
            have KX := (Chg.refl [q] w').setCell (p := ⟨q, t * 3, none⟩) (by simp) (.slice (some ⟨g, 0, none⟩) (n + 1) c')
            have own2 := own'
            have hgq := own_ne own2 BC (by decide)
            have hsz := (KD.alloc (.cells #[.int .i64 a, .int .i64 b] 120)).size
            have hfr : ∀ g', (Value.slice (some ⟨g, 0, none⟩) (n + 1) c').ownBlock = some g' → w.heap.size ≤ g' := fun g' hg'' => by
              have e : g = g' := by simpa [Value.ownBlock] using hg''
              omega
            have hno : ∀ g', (Value.slice (some ⟨g, 0, none⟩) (n + 1) c').ownBlock = some g' → g' ∉ [q] := fun g' hg'' => by
              simp only [List.mem_singleton]
              intro e
              exact hgq (by rw [hg'', e])
            exact ⟨rfl, .slice (some ⟨g, 0, none⟩) (n + 1) c', BC.set_ (t * 3) _, (Sl.of_own own2).chg KX hno, hfr, ((KD.alloc _).trans k' (by simp)).setCell (.inl (by simp)) _⟩
          exact AllReadyH.nil
        refine AllReadyH.cons (o := ?oob94) ?hib94 (fun K hK => ?stb94) ?moreb94
        case hib94 => (simp only [List.getElem?_toArray, List.getElem?_cons_zero, List.getElem?_cons_succ] <;> exact rfl)
        case stb94 =>
          go_simp
          refine hK.out _ _ ?hSb94 (fun hHeld => ?restb94)
          case hSb94 => first | exact ⟨DD.cell 0, DD.cell 1⟩ | exact ⟨DA.cell 0, DA.cell 1⟩
          clear hK K
          (try simp only [Act.put, List.setIfInBounds_toArray, List.set_cons_zero, List.set_cons_succ])
          refine wpAnyH_ready (rs := [13]) (by kernel_rfl) (by simp) ?_
          refine AllReadyH.cons (o := ?oob95) ?hib95 (fun K hK => ?stb95) ?moreb95
          case hib95 => (simp only [List.getElem?_toArray, List.getElem?_cons_zero, List.getElem?_cons_succ] <;> exact rfl)
          case stb95 =>
            go_simp
            refine hK.out _ _ ?hSb95 (fun hHeld => ?restb95)
            case hSb95 => first | exact ⟨DD.cell 0, DD.cell 1⟩ | exact ⟨DA.cell 0, DA.cell 1⟩
            clear hK K
            (try simp only [Act.put, List.setIfInBounds_toArray, List.set_cons_zero, List.set_cons_succ])
            refine wpAnyH_take (i := 14) (oi := ?oo132) (v := ?vv132) ?hi132 (by kernel_rfl) ?hf132 (by kernel_rfl) ?hq132 ?hy132 (by assumption) ?rest132
            case hi132 => (simp only [List.getElem?_toArray, List.getElem?_cons_zero, List.getElem?_cons_succ] <;> exact rfl)
            case hf132 => kernel_rfl
            case hq132 => exact fun _ _ _ h => h
            case hy132 => exact Or.inl ⟨by rfl, by intro w hSw; (try dsimp only at hSw); go_simp; try with_reducible rfl⟩
            (try simp only [Act.put, List.setIfInBounds_toArray, List.set_cons_zero, List.set_cons_succ])
            refine wpAnyH_take (i := 15) (oi := ?oo133) (v := ?vv133) ?hi133 (by kernel_rfl) ?hf133 (by kernel_rfl) ?hq133 ?hy133 (by assumption) ?rest133
            case hi133 => (simp only [List.getElem?_toArray, List.getElem?_cons_zero, List.getElem?_cons_succ] <;> exact rfl)
            case hf133 => kernel_rfl
            case hq133 => exact fun _ _ _ h => h
            case hy133 => exact Or.inl ⟨by rfl, by intro w hSw; (try dsimp only at hSw); go_simp; try with_reducible rfl⟩
            (try simp only [Act.put, List.setIfInBounds_toArray, List.set_cons_zero, List.set_cons_succ])
            refine wpAnyH_ready (rs := [18]) (by kernel_rfl) (by simp) ?_
            refine AllReadyH.cons (o := ?oos96) ?his96 (fun K hK => ?sts96) ?mores96
            case his96 => (simp only [List.getElem?_toArray, List.getElem?_cons_zero, List.getElem?_cons_succ] <;> exact rfl)
            case mores96 => exact AllReadyH.nil
            refine step_fresh rfl (.tmp 19) (.tmp 21) 110 rfl 120 (.agg #[.int .i64 0, .int .i64 0]) 2 16 Try.underlying110 info_open rfl (by decide) (by decide) (some b') n n xs rfl (fun h => by cases h) hxl (fun b hb j u hj => by obtain rfl := Option.some.inj hb; rw [World.cell?_alloc_lt _ _ _ (by rw [block_of_add, ← hW2]; exact Nat.lt_of_lt_of_le (holds _ rfl).1 hsW)]; rw [← hW2]; exact hold _ rfl j u hj) ⟨W2.heap.size, 0, none⟩ 1 1 [.int .i64 a, .int .i64 b] rfl rfl (two_new W2 _ _ _ rfl) (by simp [Value.oneCell']) (by omega) (by omega) ?_
            intro g c' w' own' hg' k'
            have BC := BA.chg k' (by simp)
            have DC := DA.chg k' (by simp)
            have c3 := BC.cell (t * 3)
            have f3 := BC.frozen (t * 3)
            refine hK.out _ _ ?hSs96 (fun hHeld => ?rests96)
            case hSs96 => exact ⟨DC.cell 0, DC.cell 1⟩
            clear hK K
            (try simp only [Act.put, List.setIfInBounds_toArray, List.set_cons_zero, List.set_cons_succ])
            refine wpAnyH_take (i := 19) (oi := ?oo134) (v := ?vv134) ?hi134 (by kernel_rfl) ?hf134 (by kernel_rfl) ?hq134 ?hy134 (by assumption) ?rest134
            case hi134 => (simp only [List.getElem?_toArray, List.getElem?_cons_zero, List.getElem?_cons_succ] <;> exact rfl)
            case hf134 => kernel_rfl
            case hq134 => exact fun _ _ _ h => h
            case hy134 => exact Or.inl ⟨by rfl, by intro w hSw; (try dsimp only at hSw); go_simp; try with_reducible rfl⟩
            (try simp only [Act.put, List.setIfInBounds_toArray, List.set_cons_zero, List.set_cons_succ])
            refine wpAnyH_take (i := 20) (oi := ?oo135) (v := ?vv135) ?hi135 (by kernel_rfl) ?hf135 (by kernel_rfl) ?hq135 ?hy135 (by assumption) ?rest135
            case hi135 => (simp only [List.getElem?_toArray, List.getElem?_cons_zero, List.getElem?_cons_succ] <;> exact rfl)
            case hf135 => kernel_rfl
            case hq135 => exact fun _ _ _ h => h
            case hy135 => exact Or.inl ⟨by rfl, by intro w hSw; (try dsimp only at hSw); go_simp; try with_reducible rfl⟩
            (try simp only [Act.put, List.setIfInBounds_toArray, List.set_cons_zero, List.set_cons_succ])
            refine wpAnyH_ready (rs := [21]) (by kernel_rfl) (by simp) ?_
            refine AllReadyH.cons (o := ?oos96x) ?his96x (fun K hK => ?sts96x) ?mores96x
            case his96x => (simp only [List.getElem?_toArray, List.getElem?_cons_zero, List.getElem?_cons_succ] <;> exact rfl)
            case mores96x => exact AllReadyH.nil
            go_simp
            refine hK.out _ _ ?hSs96x (fun hHeld => ?rests96x)
            case hSs96x => exact ⟨(DC.far (p := ⟨q, t * 3, none⟩) hdq _).cell 0, (DC.far (p := ⟨q, t * 3, none⟩) hdq _).cell 1⟩
            clear hK K
            (try simp only [Act.put, List.setIfInBounds_toArray, List.set_cons_zero, List.set_cons_succ])
            refine wpAnyH_done (by kernel_rfl) ?_ _
            go_wp2
            go_end0
            have KX := (Chg.refl [q] w').setCell (p := ⟨q, t * 3, none⟩) (by simp) (.slice (some ⟨g, 0, none⟩) (n + 1) c')
            have own2 := own'
            have hgq := own_ne own2 BC (by decide)
            have hsz := (KD.alloc (.cells #[.int .i64 a, .int .i64 b] 120)).size
            have hfr : ∀ g', (Value.slice (some ⟨g, 0, none⟩) (n + 1) c').ownBlock = some g' → w.heap.size ≤ g' := fun g' hg'' => by
              have e : g = g' := by simpa [Value.ownBlock] using hg''
              omega
            have hno : ∀ g', (Value.slice (some ⟨g, 0, none⟩) (n + 1) c').ownBlock = some g' → g' ∉ [q] := fun g' hg'' => by
              simp only [List.mem_singleton]
              intro e
              exact hgq (by rw [hg'', e])
            exact ⟨rfl, .slice (some ⟨g, 0, none⟩) (n + 1) c', BC.set_ (t * 3) _, (Sl.of_own own2).chg KX hno, hfr, ((KD.alloc _).trans k' (by simp)).setCell (.inl (by simp)) _⟩
          exact AllReadyH.nil
        exact AllReadyH.nil
      refine AllReadyH.cons (o := ?oob97) ?hib97 (fun K hK => ?stb97) ?moreb97
      case hib97 => (simp only [List.getElem?_toArray, List.getElem?_cons_zero, List.getElem?_cons_succ] <;> exact rfl)
      case stb97 =>
        go_simp
        refine hK.out _ _ ?hSb97 (fun hHeld => ?restb97)
        case hSb97 => first | exact ⟨DD.cell 0, DD.cell 1⟩ | exact ⟨DA.cell 0, DA.cell 1⟩
        clear hK K
        (try simp only [Act.put, List.setIfInBounds_toArray, List.set_cons_zero, List.set_cons_succ])
        refine wpAnyH_take (i := 14) (oi := ?oo136) (v := ?vv136) ?hi136 (by kernel_rfl) ?hf136 (by kernel_rfl) ?hq136 ?hy136 (by assumption) ?rest136
        case hi136 => (simp only [List.getElem?_toArray, List.getElem?_cons_zero, List.getElem?_cons_succ] <;> exact rfl)
        case hf136 => kernel_rfl
        case hq136 => exact fun _ _ _ h => h
        case hy136 => exact Or.inl ⟨by rfl, by intro w hSw; (try dsimp only at hSw); go_simp; try with_reducible rfl⟩
        (try simp only [Act.put, List.setIfInBounds_toArray, List.set_cons_zero, List.set_cons_succ])
        refine wpAnyH_ready (rs := [8, 17]) (by kernel_rfl) (by simp) ?_
        refine AllReadyH.cons (o := ?oob98) ?hib98 (fun K hK => ?stb98) ?moreb98
        case hib98 => (simp only [List.getElem?_toArray, List.getElem?_cons_zero, List.getElem?_cons_succ] <;> exact rfl)
        case stb98 =>
          go_simp
          refine hK.out _ _ ?hSb98 (fun hHeld => ?restb98)
          case hSb98 => first | exact ⟨DD.cell 0, DD.cell 1⟩ | exact ⟨DA.cell 0, DA.cell 1⟩
          clear hK K
          (try simp only [Act.put, List.setIfInBounds_toArray, List.set_cons_zero, List.set_cons_succ])
          refine wpAnyH_take (i := 9) (oi := ?oo137) (v := ?vv137) ?hi137 (by kernel_rfl) ?hf137 (by kernel_rfl) ?hq137 ?hy137 (by assumption) ?rest137
          case hi137 => (simp only [List.getElem?_toArray, List.getElem?_cons_zero, List.getElem?_cons_succ] <;> exact rfl)
          case hf137 => kernel_rfl
          case hq137 => exact fun _ _ _ h => h
          case hy137 => exact Or.inl ⟨by rfl, by intro w hSw; (try dsimp only at hSw); go_simp; try with_reducible rfl⟩
          (try simp only [Act.put, List.setIfInBounds_toArray, List.set_cons_zero, List.set_cons_succ])
          refine wpAnyH_take (i := 15) (oi := ?oo138) (v := ?vv138) ?hi138 (by kernel_rfl) ?hf138 (by kernel_rfl) ?hq138 ?hy138 (by assumption) ?rest138
          case hi138 => (simp only [List.getElem?_toArray, List.getElem?_cons_zero, List.getElem?_cons_succ] <;> exact rfl)
          case hf138 => kernel_rfl
          case hq138 => exact fun _ _ _ h => h
          case hy138 => exact Or.inl ⟨by rfl, by intro w hSw; (try dsimp only at hSw); go_simp; try with_reducible rfl⟩
          (try simp only [Act.put, List.setIfInBounds_toArray, List.set_cons_zero, List.set_cons_succ])
          refine wpAnyH_ready (rs := [17]) (by kernel_rfl) (by simp) ?_
          refine AllReadyH.cons (o := ?oob99) ?hib99 (fun K hK => ?stb99) ?moreb99
          case hib99 => (simp only [List.getElem?_toArray, List.getElem?_cons_zero, List.getElem?_cons_succ] <;> exact rfl)
          case stb99 =>
            go_simp
            refine hK.out _ _ ?hSb99 (fun hHeld => ?restb99)
            case hSb99 => first | exact ⟨DD.cell 0, DD.cell 1⟩ | exact ⟨DA.cell 0, DA.cell 1⟩
            clear hK K
            (try simp only [Act.put, List.setIfInBounds_toArray, List.set_cons_zero, List.set_cons_succ])
            refine wpAnyH_ready (rs := [18]) (by kernel_rfl) (by simp) ?_
            refine AllReadyH.cons (o := ?oos100) ?his100 (fun K hK => ?sts100) ?mores100
            case his100 => (simp only [List.getElem?_toArray, List.getElem?_cons_zero, List.getElem?_cons_succ] <;> exact rfl)
            case mores100 => exact AllReadyH.nil
            refine step_fresh rfl (.tmp 19) (.tmp 21) 110 rfl 120 (.agg #[.int .i64 0, .int .i64 0]) 2 16 Try.underlying110 info_open rfl (by decide) (by decide) (some b') n n xs rfl (fun h => by cases h) hxl (fun b hb j u hj => by obtain rfl := Option.some.inj hb; rw [World.cell?_alloc_lt _ _ _ (by rw [block_of_add, ← hW2]; exact Nat.lt_of_lt_of_le (holds _ rfl).1 hsW)]; rw [← hW2]; exact hold _ rfl j u hj) ⟨W2.heap.size, 0, none⟩ 1 1 [.int .i64 a, .int .i64 b] rfl rfl (two_new W2 _ _ _ rfl) (by simp [Value.oneCell']) (by omega) (by omega) ?_
            intro g c' w' own' hg' k'
            have BC := BA.chg k' (by simp)
            have DC := DA.chg k' (by simp)
            have c3 := BC.cell (t * 3)
            have f3 := BC.frozen (t * 3)
            refine hK.out _ _ ?hSs100 (fun hHeld => ?rests100)
            case hSs100 => exact ⟨DC.cell 0, DC.cell 1⟩
            clear hK K
            (try simp only [Act.put, List.setIfInBounds_toArray, List.set_cons_zero, List.set_cons_succ])
            refine wpAnyH_take (i := 19) (oi := ?oo139) (v := ?vv139) ?hi139 (by kernel_rfl) ?hf139 (by kernel_rfl) ?hq139 ?hy139 (by assumption) ?rest139
            case hi139 => (simp only [List.getElem?_toArray, List.getElem?_cons_zero, List.getElem?_cons_succ] <;> exact rfl)
            case hf139 => kernel_rfl
            case hq139 => exact fun _ _ _ h => h
            case hy139 => exact Or.inl ⟨by rfl, by intro w hSw; (try dsimp only at hSw); go_simp; try with_reducible rfl⟩
            (try simp only [Act.put, List.setIfInBounds_toArray, List.set_cons_zero, List.set_cons_succ])
            refine wpAnyH_take (i := 20) (oi := ?oo140) (v := ?vv140) ?hi140 (by kernel_rfl) ?hf140 (by kernel_rfl) ?hq140 ?hy140 (by assumption) ?rest140
            case hi140 => (simp only [List.getElem?_toArray, List.getElem?_cons_zero, List.getElem?_cons_succ] <;> exact rfl)
            case hf140 => kernel_rfl
            case hq140 => exact fun _ _ _ h => h
            case hy140 => exact Or.inl ⟨by rfl, by intro w hSw; (try dsimp only at hSw); go_simp; try with_reducible rfl⟩
            (try simp only [Act.put, List.setIfInBounds_toArray, List.set_cons_zero, List.set_cons_succ])
            refine wpAnyH_ready (rs := [21]) (by kernel_rfl) (by simp) ?_
            refine AllReadyH.cons (o := ?oos100x) ?his100x (fun K hK => ?sts100x) ?mores100x
            case his100x => (simp only [List.getElem?_toArray, List.getElem?_cons_zero, List.getElem?_cons_succ] <;> exact rfl)
            case mores100x => exact AllReadyH.nil
            go_simp
            refine hK.out _ _ ?hSs100x (fun hHeld => ?rests100x)
            case hSs100x => exact ⟨(DC.far (p := ⟨q, t * 3, none⟩) hdq _).cell 0, (DC.far (p := ⟨q, t * 3, none⟩) hdq _).cell 1⟩
            clear hK K
            (try simp only [Act.put, List.setIfInBounds_toArray, List.set_cons_zero, List.set_cons_succ])
            refine wpAnyH_done (by kernel_rfl) ?_ _
            go_wp2
            go_end0
            have KX := (Chg.refl [q] w').setCell (p := ⟨q, t * 3, none⟩) (by simp) (.slice (some ⟨g, 0, none⟩) (n + 1) c')
            have own2 := own'
            have hgq := own_ne own2 BC (by decide)
            have hsz := (KD.alloc (.cells #[.int .i64 a, .int .i64 b] 120)).size
            have hfr : ∀ g', (Value.slice (some ⟨g, 0, none⟩) (n + 1) c').ownBlock = some g' → w.heap.size ≤ g' := fun g' hg'' => by
              have e : g = g' := by simpa [Value.ownBlock] using hg''
              omega
            have hno : ∀ g', (Value.slice (some ⟨g, 0, none⟩) (n + 1) c').ownBlock = some g' → g' ∉ [q] := fun g' hg'' => by
              simp only [List.mem_singleton]
              intro e
              exact hgq (by rw [hg'', e])
            exact ⟨rfl, .slice (some ⟨g, 0, none⟩) (n + 1) c', BC.set_ (t * 3) _, (Sl.of_own own2).chg KX hno, hfr, ((KD.alloc _).trans k' (by simp)).setCell (.inl (by simp)) _⟩
          exact AllReadyH.nil
        refine AllReadyH.cons (o := ?oob101) ?hib101 (fun K hK => ?stb101) ?moreb101
        case hib101 => (simp only [List.getElem?_toArray, List.getElem?_cons_zero, List.getElem?_cons_succ] <;> exact rfl)
        case stb101 =>
          go_simp
          refine hK.out _ _ ?hSb101 (fun hHeld => ?restb101)
          case hSb101 => first | exact ⟨DD.cell 0, DD.cell 1⟩ | exact ⟨DA.cell 0, DA.cell 1⟩
          clear hK K
          (try simp only [Act.put, List.setIfInBounds_toArray, List.set_cons_zero, List.set_cons_succ])
          refine wpAnyH_ready (rs := [8]) (by kernel_rfl) (by simp) ?_
          refine AllReadyH.cons (o := ?oob102) ?hib102 (fun K hK => ?stb102) ?moreb102
          case hib102 => (simp only [List.getElem?_toArray, List.getElem?_cons_zero, List.getElem?_cons_succ] <;> exact rfl)
          case stb102 =>
            go_simp
            refine hK.out _ _ ?hSb102 (fun hHeld => ?restb102)
            case hSb102 => first | exact ⟨DD.cell 0, DD.cell 1⟩ | exact ⟨DA.cell 0, DA.cell 1⟩
            clear hK K
            (try simp only [Act.put, List.setIfInBounds_toArray, List.set_cons_zero, List.set_cons_succ])
            refine wpAnyH_take (i := 9) (oi := ?oo141) (v := ?vv141) ?hi141 (by kernel_rfl) ?hf141 (by kernel_rfl) ?hq141 ?hy141 (by assumption) ?rest141
            case hi141 => (simp only [List.getElem?_toArray, List.getElem?_cons_zero, List.getElem?_cons_succ] <;> exact rfl)
            case hf141 => kernel_rfl
            case hq141 => exact fun _ _ _ h => h
            case hy141 => exact Or.inl ⟨by rfl, by intro w hSw; (try dsimp only at hSw); go_simp; try with_reducible rfl⟩
            (try simp only [Act.put, List.setIfInBounds_toArray, List.set_cons_zero, List.set_cons_succ])
            refine wpAnyH_take (i := 15) (oi := ?oo142) (v := ?vv142) ?hi142 (by kernel_rfl) ?hf142 (by kernel_rfl) ?hq142 ?hy142 (by assumption) ?rest142
            case hi142 => (simp only [List.getElem?_toArray, List.getElem?_cons_zero, List.getElem?_cons_succ] <;> exact rfl)
            case hf142 => kernel_rfl
            case hq142 => exact fun _ _ _ h => h
            case hy142 => exact Or.inl ⟨by rfl, by intro w hSw; (try dsimp only at hSw); go_simp; try with_reducible rfl⟩
            (try simp only [Act.put, List.setIfInBounds_toArray, List.set_cons_zero, List.set_cons_succ])
            refine wpAnyH_ready (rs := [18]) (by kernel_rfl) (by simp) ?_
            refine AllReadyH.cons (o := ?oos103) ?his103 (fun K hK => ?sts103) ?mores103
            case his103 => (simp only [List.getElem?_toArray, List.getElem?_cons_zero, List.getElem?_cons_succ] <;> exact rfl)
            case mores103 => exact AllReadyH.nil
            refine step_fresh rfl (.tmp 19) (.tmp 21) 110 rfl 120 (.agg #[.int .i64 0, .int .i64 0]) 2 16 Try.underlying110 info_open rfl (by decide) (by decide) (some b') n n xs rfl (fun h => by cases h) hxl (fun b hb j u hj => by obtain rfl := Option.some.inj hb; rw [World.cell?_alloc_lt _ _ _ (by rw [block_of_add, ← hW2]; exact Nat.lt_of_lt_of_le (holds _ rfl).1 hsW)]; rw [← hW2]; exact hold _ rfl j u hj) ⟨W2.heap.size, 0, none⟩ 1 1 [.int .i64 a, .int .i64 b] rfl rfl (two_new W2 _ _ _ rfl) (by simp [Value.oneCell']) (by omega) (by omega) ?_
            intro g c' w' own' hg' k'
            have BC := BA.chg k' (by simp)
            have DC := DA.chg k' (by simp)
            have c3 := BC.cell (t * 3)
            have f3 := BC.frozen (t * 3)
            refine hK.out _ _ ?hSs103 (fun hHeld => ?rests103)
            case hSs103 => exact ⟨DC.cell 0, DC.cell 1⟩
            clear hK K
            (try simp only [Act.put, List.setIfInBounds_toArray, List.set_cons_zero, List.set_cons_succ])
            refine wpAnyH_take (i := 19) (oi := ?oo143) (v := ?vv143) ?hi143 (by kernel_rfl) ?hf143 (by kernel_rfl) ?hq143 ?hy143 (by assumption) ?rest143
            case hi143 => (simp only [List.getElem?_toArray, List.getElem?_cons_zero, List.getElem?_cons_succ] <;> exact rfl)
            case hf143 => kernel_rfl
            case hq143 => exact fun _ _ _ h => h
            case hy143 => exact Or.inl ⟨by rfl, by intro w hSw; (try dsimp only at hSw); go_simp; try with_reducible rfl⟩
            (try simp only [Act.put, List.setIfInBounds_toArray, List.set_cons_zero, List.set_cons_succ])
            refine wpAnyH_take (i := 20) (oi := ?oo144) (v := ?vv144) ?hi144 (by kernel_rfl) ?hf144 (by kernel_rfl) ?hq144 ?hy144 (by assumption) ?rest144
            case hi144 => (simp only [List.getElem?_toArray, List.getElem?_cons_zero, List.getElem?_cons_succ] <;> exact rfl)
            case hf144 => kernel_rfl
            case hq144 => exact fun _ _ _ h => h
            case hy144 => exact Or.inl ⟨by rfl, by intro w hSw; (try dsimp only at hSw); go_simp; try with_reducible rfl⟩
            (try simp only [Act.put, List.setIfInBounds_toArray, List.set_cons_zero, List.set_cons_succ])
            refine wpAnyH_ready (rs := [21]) (by kernel_rfl) (by simp) ?_
            refine AllReadyH.cons (o := ?oos103x) ?his103x (fun K hK => ?sts103x) ?mores103x
            case his103x => (simp only [List.getElem?_toArray, List.getElem?_cons_zero, List.getElem?_cons_succ] <;> exact rfl)
            case mores103x => exact AllReadyH.nil
            go_simp
            refine hK.out _ _ ?hSs103x (fun hHeld => ?rests103x)
            case hSs103x => exact ⟨(DC.far (p := ⟨q, t * 3, none⟩) hdq _).cell 0, (DC.far (p := ⟨q, t * 3, none⟩) hdq _).cell 1⟩
            clear hK K
            (try simp only [Act.put, List.setIfInBounds_toArray, List.set_cons_zero, List.set_cons_succ])
            refine wpAnyH_done (by kernel_rfl) ?_ _
            go_wp2
            go_end0
            have KX := (Chg.refl [q] w').setCell (p := ⟨q, t * 3, none⟩) (by simp) (.slice (some ⟨g, 0, none⟩) (n + 1) c')
            have own2 := own'
            have hgq := own_ne own2 BC (by decide)
            have hsz := (KD.alloc (.cells #[.int .i64 a, .int .i64 b] 120)).size
            have hfr : ∀ g', (Value.slice (some ⟨g, 0, none⟩) (n + 1) c').ownBlock = some g' → w.heap.size ≤ g' := fun g' hg'' => by
              have e : g = g' := by simpa [Value.ownBlock] using hg''
              omega
            have hno : ∀ g', (Value.slice (some ⟨g, 0, none⟩) (n + 1) c').ownBlock = some g' → g' ∉ [q] := fun g' hg'' => by
              simp only [List.mem_singleton]
              intro e
              exact hgq (by rw [hg'', e])
            exact ⟨rfl, .slice (some ⟨g, 0, none⟩) (n + 1) c', BC.set_ (t * 3) _, (Sl.of_own own2).chg KX hno, hfr, ((KD.alloc _).trans k' (by simp)).setCell (.inl (by simp)) _⟩
          exact AllReadyH.nil
        exact AllReadyH.nil
      refine AllReadyH.cons (o := ?oob104) ?hib104 (fun K hK => ?stb104) ?moreb104
      case hib104 => (simp only [List.getElem?_toArray, List.getElem?_cons_zero, List.getElem?_cons_succ] <;> exact rfl)
      case stb104 =>
        go_simp
        refine hK.out _ _ ?hSb104 (fun hHeld => ?restb104)
        case hSb104 => first | exact ⟨DD.cell 0, DD.cell 1⟩ | exact ⟨DA.cell 0, DA.cell 1⟩
        clear hK K
        (try simp only [Act.put, List.setIfInBounds_toArray, List.set_cons_zero, List.set_cons_succ])
        refine wpAnyH_ready (rs := [8, 13]) (by kernel_rfl) (by simp) ?_
        refine AllReadyH.cons (o := ?oob105) ?hib105 (fun K hK => ?stb105) ?moreb105
        case hib105 => (simp only [List.getElem?_toArray, List.getElem?_cons_zero, List.getElem?_cons_succ] <;> exact rfl)
        case stb105 =>
          go_simp
          refine hK.out _ _ ?hSb105 (fun hHeld => ?restb105)
          case hSb105 => first | exact ⟨DD.cell 0, DD.cell 1⟩ | exact ⟨DA.cell 0, DA.cell 1⟩
          clear hK K
          (try simp only [Act.put, List.setIfInBounds_toArray, List.set_cons_zero, List.set_cons_succ])
          refine wpAnyH_take (i := 9) (oi := ?oo145) (v := ?vv145) ?hi145 (by kernel_rfl) ?hf145 (by kernel_rfl) ?hq145 ?hy145 (by assumption) ?rest145
          case hi145 => (simp only [List.getElem?_toArray, List.getElem?_cons_zero, List.getElem?_cons_succ] <;> exact rfl)
          case hf145 => kernel_rfl
          case hq145 => exact fun _ _ _ h => h
          case hy145 => exact Or.inl ⟨by rfl, by intro w hSw; (try dsimp only at hSw); go_simp; try with_reducible rfl⟩
          (try simp only [Act.put, List.setIfInBounds_toArray, List.set_cons_zero, List.set_cons_succ])
          refine wpAnyH_ready (rs := [13]) (by kernel_rfl) (by simp) ?_
          refine AllReadyH.cons (o := ?oob106) ?hib106 (fun K hK => ?stb106) ?moreb106
          case hib106 => (simp only [List.getElem?_toArray, List.getElem?_cons_zero, List.getElem?_cons_succ] <;> exact rfl)
          case stb106 =>
            go_simp
            refine hK.out _ _ ?hSb106 (fun hHeld => ?restb106)
            case hSb106 => first | exact ⟨DD.cell 0, DD.cell 1⟩ | exact ⟨DA.cell 0, DA.cell 1⟩
            clear hK K
            (try simp only [Act.put, List.setIfInBounds_toArray, List.set_cons_zero, List.set_cons_succ])
            refine wpAnyH_take (i := 14) (oi := ?oo146) (v := ?vv146) ?hi146 (by kernel_rfl) ?hf146 (by kernel_rfl) ?hq146 ?hy146 (by assumption) ?rest146
            case hi146 => (simp only [List.getElem?_toArray, List.getElem?_cons_zero, List.getElem?_cons_succ] <;> exact rfl)
            case hf146 => kernel_rfl
            case hq146 => exact fun _ _ _ h => h
            case hy146 => exact Or.inl ⟨by rfl, by intro w hSw; (try dsimp only at hSw); go_simp; try with_reducible rfl⟩
            (try simp only [Act.put, List.setIfInBounds_toArray, List.set_cons_zero, List.set_cons_succ])
            refine wpAnyH_take (i := 15) (oi := ?oo147) (v := ?vv147) ?hi147 (by kernel_rfl) ?hf147 (by kernel_rfl) ?hq147 ?hy147 (by assumption) ?rest147
            case hi147 => (simp only [List.getElem?_toArray, List.getElem?_cons_zero, List.getElem?_cons_succ] <;> exact rfl)
            case hf147 => kernel_rfl
            case hq147 => exact fun _ _ _ h => h
            case hy147 => exact Or.inl ⟨by rfl, by intro w hSw; (try dsimp only at hSw); go_simp; try with_reducible rfl⟩
            (try simp only [Act.put, List.setIfInBounds_toArray, List.set_cons_zero, List.set_cons_succ])
            refine wpAnyH_ready (rs := [18]) (by kernel_rfl) (by simp) ?_
            refine AllReadyH.cons (o := ?oos107) ?his107 (fun K hK => ?sts107) ?mores107
            case his107 => (simp only [List.getElem?_toArray, List.getElem?_cons_zero, List.getElem?_cons_succ] <;> exact rfl)
            case mores107 => exact AllReadyH.nil
            refine step_fresh rfl (.tmp 19) (.tmp 21) 110 rfl 120 (.agg #[.int .i64 0, .int .i64 0]) 2 16 Try.underlying110 info_open rfl (by decide) (by decide) (some b') n n xs rfl (fun h => by cases h) hxl (fun b hb j u hj => by obtain rfl := Option.some.inj hb; rw [World.cell?_alloc_lt _ _ _ (by rw [block_of_add, ← hW2]; exact Nat.lt_of_lt_of_le (holds _ rfl).1 hsW)]; rw [← hW2]; exact hold _ rfl j u hj) ⟨W2.heap.size, 0, none⟩ 1 1 [.int .i64 a, .int .i64 b] rfl rfl (two_new W2 _ _ _ rfl) (by simp [Value.oneCell']) (by omega) (by omega) ?_
            intro g c' w' own' hg' k'
            have BC := BA.chg k' (by simp)
            have DC := DA.chg k' (by simp)
            have c3 := BC.cell (t * 3)
            have f3 := BC.frozen (t * 3)
            refine hK.out _ _ ?hSs107 (fun hHeld => ?rests107)
            case hSs107 => exact ⟨DC.cell 0, DC.cell 1⟩
            clear hK K
            (try simp only [Act.put, List.setIfInBounds_toArray, List.set_cons_zero, List.set_cons_succ])
            refine wpAnyH_take (i := 19) (oi := ?oo148) (v := ?vv148) ?hi148 (by kernel_rfl) ?hf148 (by kernel_rfl) ?hq148 ?hy148 (by assumption) ?rest148
            case hi148 => (simp only [List.getElem?_toArray, List.getElem?_cons_zero, List.getElem?_cons_succ] <;> exact rfl)
            case hf148 => kernel_rfl
            case hq148 => exact fun _ _ _ h => h
            case hy148 => exact Or.inl ⟨by rfl, by intro w hSw; (try dsimp only at hSw); go_simp; try with_reducible rfl⟩
            (try simp only [Act.put, List.setIfInBounds_toArray, List.set_cons_zero, List.set_cons_succ])
            refine wpAnyH_take (i := 20) (oi := ?oo149) (v := ?vv149) ?hi149 (by kernel_rfl) ?hf149 (by kernel_rfl) ?hq149 ?hy149 (by assumption) ?rest149
            case hi149 => (simp only [List.getElem?_toArray, List.getElem?_cons_zero, List.getElem?_cons_succ] <;> exact rfl)
            case hf149 => kernel_rfl
            case hq149 => exact fun _ _ _ h => h
            case hy149 => exact Or.inl ⟨by rfl, by intro w hSw; (try dsimp only at hSw); go_simp; try with_reducible rfl⟩
            (try simp only [Act.put, List.setIfInBounds_toArray, List.set_cons_zero, List.set_cons_succ])
            refine wpAnyH_ready (rs := [21]) (by kernel_rfl) (by simp) ?_
            refine AllReadyH.cons (o := ?oos107x) ?his107x (fun K hK => ?sts107x) ?mores107x
            case his107x => (simp only [List.getElem?_toArray, List.getElem?_cons_zero, List.getElem?_cons_succ] <;> exact rfl)
            case mores107x => exact AllReadyH.nil
            go_simp
            refine hK.out _ _ ?hSs107x (fun hHeld => ?rests107x)
            case hSs107x => exact ⟨(DC.far (p := ⟨q, t * 3, none⟩) hdq _).cell 0, (DC.far (p := ⟨q, t * 3, none⟩) hdq _).cell 1⟩
            clear hK K
            (try simp only [Act.put, List.setIfInBounds_toArray, List.set_cons_zero, List.set_cons_succ])
            refine wpAnyH_done (by kernel_rfl) ?_ _
            go_wp2
            go_end0
            have KX := (Chg.refl [q] w').setCell (p := ⟨q, t * 3, none⟩) (by simp) (.slice (some ⟨g, 0, none⟩) (n + 1) c')
            have own2 := own'
            have hgq := own_ne own2 BC (by decide)
            have hsz := (KD.alloc (.cells #[.int .i64 a, .int .i64 b] 120)).size
            have hfr : ∀ g', (Value.slice (some ⟨g, 0, none⟩) (n + 1) c').ownBlock = some g' → w.heap.size ≤ g' := fun g' hg'' => by
              have e : g = g' := by simpa [Value.ownBlock] using hg''
              omega
            have hno : ∀ g', (Value.slice (some ⟨g, 0, none⟩) (n + 1) c').ownBlock = some g' → g' ∉ [q] := fun g' hg'' => by
              simp only [List.mem_singleton]
              intro e
              exact hgq (by rw [hg'', e])
            exact ⟨rfl, .slice (some ⟨g, 0, none⟩) (n + 1) c', BC.set_ (t * 3) _, (Sl.of_own own2).chg KX hno, hfr, ((KD.alloc _).trans k' (by simp)).setCell (.inl (by simp)) _⟩
          exact AllReadyH.nil
        refine AllReadyH.cons (o := ?oob108) ?hib108 (fun K hK => ?stb108) ?moreb108
        case hib108 => (simp only [List.getElem?_toArray, List.getElem?_cons_zero, List.getElem?_cons_succ] <;> exact rfl)
        case stb108 =>
          go_simp
          refine hK.out _ _ ?hSb108 (fun hHeld => ?restb108)
          case hSb108 => first | exact ⟨DD.cell 0, DD.cell 1⟩ | exact ⟨DA.cell 0, DA.cell 1⟩
          clear hK K
          (try simp only [Act.put, List.setIfInBounds_toArray, List.set_cons_zero, List.set_cons_succ])
          refine wpAnyH_take (i := 14) (oi := ?oo150) (v := ?vv150) ?hi150 (by kernel_rfl) ?hf150 (by kernel_rfl) ?hq150 ?hy150 (by assumption) ?rest150
          case hi150 => (simp only [List.getElem?_toArray, List.getElem?_cons_zero, List.getElem?_cons_succ] <;> exact rfl)
          case hf150 => kernel_rfl
          case hq150 => exact fun _ _ _ h => h
          case hy150 => exact Or.inl ⟨by rfl, by intro w hSw; (try dsimp only at hSw); go_simp; try with_reducible rfl⟩
          (try simp only [Act.put, List.setIfInBounds_toArray, List.set_cons_zero, List.set_cons_succ])
          refine wpAnyH_ready (rs := [8]) (by kernel_rfl) (by simp) ?_
          refine AllReadyH.cons (o := ?oob109) ?hib109 (fun K hK => ?stb109) ?moreb109
          case hib109 => (simp only [List.getElem?_toArray, List.getElem?_cons_zero, List.getElem?_cons_succ] <;> exact rfl)
          case stb109 =>
            go_simp
            refine hK.out _ _ ?hSb109 (fun hHeld => ?restb109)
            case hSb109 => first | exact ⟨DD.cell 0, DD.cell 1⟩ | exact ⟨DA.cell 0, DA.cell 1⟩
            clear hK K
            (try simp only [Act.put, List.setIfInBounds_toArray, List.set_cons_zero, List.set_cons_succ])
            refine wpAnyH_take (i := 9) (oi := ?oo151) (v := ?vv151) ?hi151 (by kernel_rfl) ?hf151 (by kernel_rfl) ?hq151 ?hy151 (by assumption) ?rest151
            case hi151 => (simp only [List.getElem?_toArray, List.getElem?_cons_zero, List.getElem?_cons_succ] <;> exact rfl)
            case hf151 => kernel_rfl
            case hq151 => exact fun _ _ _ h => h
            case hy151 => exact Or.inl ⟨by rfl, by intro w hSw; (try dsimp only at hSw); go_simp; try with_reducible rfl⟩
            (try simp only [Act.put, List.setIfInBounds_toArray, List.set_cons_zero, List.set_cons_succ])
            refine wpAnyH_take (i := 15) (oi := ?oo152) (v := ?vv152) ?hi152 (by kernel_rfl) ?hf152 (by kernel_rfl) ?hq152 ?hy152 (by assumption) ?rest152
            case hi152 => (simp only [List.getElem?_toArray, List.getElem?_cons_zero, List.getElem?_cons_succ] <;> exact rfl)
            case hf152 => kernel_rfl
            case hq152 => exact fun _ _ _ h => h
            case hy152 => exact Or.inl ⟨by rfl, by intro w hSw; (try dsimp only at hSw); go_simp; try with_reducible rfl⟩
            (try simp only [Act.put, List.setIfInBounds_toArray, List.set_cons_zero, List.set_cons_succ])
            refine wpAnyH_ready (rs := [18]) (by kernel_rfl) (by simp) ?_
            refine AllReadyH.cons (o := ?oos110) ?his110 (fun K hK => ?sts110) ?mores110
            case his110 => (simp only [List.getElem?_toArray, List.getElem?_cons_zero, List.getElem?_cons_succ] <;> exact rfl)
            case mores110 => exact AllReadyH.nil
            refine step_fresh rfl (.tmp 19) (.tmp 21) 110 rfl 120 (.agg #[.int .i64 0, .int .i64 0]) 2 16 Try.underlying110 info_open rfl (by decide) (by decide) (some b') n n xs rfl (fun h => by cases h) hxl (fun b hb j u hj => by obtain rfl := Option.some.inj hb; rw [World.cell?_alloc_lt _ _ _ (by rw [block_of_add, ← hW2]; exact Nat.lt_of_lt_of_le (holds _ rfl).1 hsW)]; rw [← hW2]; exact hold _ rfl j u hj) ⟨W2.heap.size, 0, none⟩ 1 1 [.int .i64 a, .int .i64 b] rfl rfl (two_new W2 _ _ _ rfl) (by simp [Value.oneCell']) (by omega) (by omega) ?_
            intro g c' w' own' hg' k'
            have BC := BA.chg k' (by simp)
            have DC := DA.chg k' (by simp)
            have c3 := BC.cell (t * 3)
            have f3 := BC.frozen (t * 3)
            refine hK.out _ _ ?hSs110 (fun hHeld => ?rests110)
            case hSs110 => exact ⟨DC.cell 0, DC.cell 1⟩
            clear hK K
            (try simp only [Act.put, List.setIfInBounds_toArray, List.set_cons_zero, List.set_cons_succ])
            refine wpAnyH_take (i := 19) (oi := ?oo153) (v := ?vv153) ?hi153 (by kernel_rfl) ?hf153 (by kernel_rfl) ?hq153 ?hy153 (by assumption) ?rest153
            case hi153 => (simp only [List.getElem?_toArray, List.getElem?_cons_zero, List.getElem?_cons_succ] <;> exact rfl)
            case hf153 => kernel_rfl
            case hq153 => exact fun _ _ _ h => h
            case hy153 => exact Or.inl ⟨by rfl, by intro w hSw; (try dsimp only at hSw); go_simp; try with_reducible rfl⟩
            (try simp only [Act.put, List.setIfInBounds_toArray, List.set_cons_zero, List.set_cons_succ])
            refine wpAnyH_take (i := 20) (oi := ?oo154) (v := ?vv154) ?hi154 (by kernel_rfl) ?hf154 (by kernel_rfl) ?hq154 ?hy154 (by assumption) ?rest154
            case hi154 => (simp only [List.getElem?_toArray, List.getElem?_cons_zero, List.getElem?_cons_succ] <;> exact rfl)
            case hf154 => kernel_rfl
            case hq154 => exact fun _ _ _ h => h
            case hy154 => exact Or.inl ⟨by rfl, by intro w hSw; (try dsimp only at hSw); go_simp; try with_reducible rfl⟩
            (try simp only [Act.put, List.setIfInBounds_toArray, List.set_cons_zero, List.set_cons_succ])
            refine wpAnyH_ready (rs := [21]) (by kernel_rfl) (by simp) ?_
            refine AllReadyH.cons (o := ?oos110x) ?his110x (fun K hK => ?sts110x) ?mores110x
            case his110x => (simp only [List.getElem?_toArray, List.getElem?_cons_zero, List.getElem?_cons_succ] <;> exact rfl)
            case mores110x => exact AllReadyH.nil
            go_simp
            refine hK.out _ _ ?hSs110x (fun hHeld => ?rests110x)
            case hSs110x => exact ⟨(DC.far (p := ⟨q, t * 3, none⟩) hdq _).cell 0, (DC.far (p := ⟨q, t * 3, none⟩) hdq _).cell 1⟩
            clear hK K
            (try simp only [Act.put, List.setIfInBounds_toArray, List.set_cons_zero, List.set_cons_succ])
            refine wpAnyH_done (by kernel_rfl) ?_ _
            go_wp2
            go_end0
            have KX := (Chg.refl [q] w').setCell (p := ⟨q, t * 3, none⟩) (by simp) (.slice (some ⟨g, 0, none⟩) (n + 1) c')
            have own2 := own'
            have hgq := own_ne own2 BC (by decide)
            have hsz := (KD.alloc (.cells #[.int .i64 a, .int .i64 b] 120)).size
            have hfr : ∀ g', (Value.slice (some ⟨g, 0, none⟩) (n + 1) c').ownBlock = some g' → w.heap.size ≤ g' := fun g' hg'' => by
              have e : g = g' := by simpa [Value.ownBlock] using hg''
              omega
            have hno : ∀ g', (Value.slice (some ⟨g, 0, none⟩) (n + 1) c').ownBlock = some g' → g' ∉ [q] := fun g' hg'' => by
              simp only [List.mem_singleton]
              intro e
              exact hgq (by rw [hg'', e])
            exact ⟨rfl, .slice (some ⟨g, 0, none⟩) (n + 1) c', BC.set_ (t * 3) _, (Sl.of_own own2).chg KX hno, hfr, ((KD.alloc _).trans k' (by simp)).setCell (.inl (by simp)) _⟩
          exact AllReadyH.nil
        exact AllReadyH.nil
      exact AllReadyH.nil
    refine AllReadyH.cons (o := ?oob111) ?hib111 (fun K hK => ?stb111) ?moreb111
    case hib111 => (simp only [List.getElem?_toArray, List.getElem?_cons_zero, List.getElem?_cons_succ] <;> exact rfl)
    case stb111 =>
      go_simp
      refine hK.out _ _ ?hSb111 (fun hHeld => ?restb111)
      case hSb111 => first | exact ⟨DD.cell 0, DD.cell 1⟩ | exact ⟨DA.cell 0, DA.cell 1⟩
      clear hK K
      (try simp only [Act.put, List.setIfInBounds_toArray, List.set_cons_zero, List.set_cons_succ])
      refine wpAnyH_take (i := 9) (oi := ?oo155) (v := ?vv155) ?hi155 (by kernel_rfl) ?hf155 (by kernel_rfl) ?hq155 ?hy155 (by assumption) ?rest155
      case hi155 => (simp only [List.getElem?_toArray, List.getElem?_cons_zero, List.getElem?_cons_succ] <;> exact rfl)
      case hf155 => kernel_rfl
      case hq155 => exact fun _ _ _ h => h
      case hy155 => exact Or.inl ⟨by rfl, by intro w hSw; (try dsimp only at hSw); go_simp; try with_reducible rfl⟩
      (try simp only [Act.put, List.setIfInBounds_toArray, List.set_cons_zero, List.set_cons_succ])
      refine wpAnyH_ready (rs := [4, 13, 17]) (by kernel_rfl) (by simp) ?_
      refine AllReadyH.cons (o := ?oob112) ?hib112 (fun K hK => ?stb112) ?moreb112
      case hib112 => (simp only [List.getElem?_toArray, List.getElem?_cons_zero, List.getElem?_cons_succ] <;> exact rfl)
      case stb112 =>
        go_simp
        refine hK.out _ _ ?hSb112 (fun hHeld => ?restb112)
        case hSb112 => first | exact ⟨DD.cell 0, DD.cell 1⟩ | exact ⟨DA.cell 0, DA.cell 1⟩
        clear hK K
        (try simp only [Act.put, List.setIfInBounds_toArray, List.set_cons_zero, List.set_cons_succ])
        refine wpAnyH_ready (rs := [13, 17]) (by kernel_rfl) (by simp) ?_
        refine AllReadyH.cons (o := ?oob113) ?hib113 (fun K hK => ?stb113) ?moreb113
        case hib113 => (simp only [List.getElem?_toArray, List.getElem?_cons_zero, List.getElem?_cons_succ] <;> exact rfl)
        case stb113 =>
          go_simp
          refine hK.out _ _ ?hSb113 (fun hHeld => ?restb113)
          case hSb113 => first | exact ⟨DD.cell 0, DD.cell 1⟩ | exact ⟨DA.cell 0, DA.cell 1⟩
          clear hK K
          (try simp only [Act.put, List.setIfInBounds_toArray, List.set_cons_zero, List.set_cons_succ])
          refine wpAnyH_take (i := 14) (oi := ?oo156) (v := ?vv156) ?hi156 (by kernel_rfl) ?hf156 (by kernel_rfl) ?hq156 ?hy156 (by assumption) ?rest156
          case hi156 => (simp only [List.getElem?_toArray, List.getElem?_cons_zero, List.getElem?_cons_succ] <;> exact rfl)
          case hf156 => kernel_rfl
          case hq156 => exact fun _ _ _ h => h
          case hy156 => exact Or.inl ⟨by rfl, by intro w hSw; (try dsimp only at hSw); go_simp; try with_reducible rfl⟩
          (try simp only [Act.put, List.setIfInBounds_toArray, List.set_cons_zero, List.set_cons_succ])
          refine wpAnyH_take (i := 15) (oi := ?oo157) (v := ?vv157) ?hi157 (by kernel_rfl) ?hf157 (by kernel_rfl) ?hq157 ?hy157 (by assumption) ?rest157
          case hi157 => (simp only [List.getElem?_toArray, List.getElem?_cons_zero, List.getElem?_cons_succ] <;> exact rfl)
          case hf157 => kernel_rfl
          case hq157 => exact fun _ _ _ h => h
          case hy157 => exact Or.inl ⟨by rfl, by intro w hSw; (try dsimp only at hSw); go_simp; try with_reducible rfl⟩
          (try simp only [Act.put, List.setIfInBounds_toArray, List.set_cons_zero, List.set_cons_succ])
          refine wpAnyH_ready (rs := [17]) (by kernel_rfl) (by simp) ?_
          refine AllReadyH.cons (o := ?oob114) ?hib114 (fun K hK => ?stb114) ?moreb114
          case hib114 => (simp only [List.getElem?_toArray, List.getElem?_cons_zero, List.getElem?_cons_succ] <;> exact rfl)
          case stb114 =>
            go_simp
            refine hK.out _ _ ?hSb114 (fun hHeld => ?restb114)
            case hSb114 => first | exact ⟨DD.cell 0, DD.cell 1⟩ | exact ⟨DA.cell 0, DA.cell 1⟩
            clear hK K
            (try simp only [Act.put, List.setIfInBounds_toArray, List.set_cons_zero, List.set_cons_succ])
            refine wpAnyH_ready (rs := [18]) (by kernel_rfl) (by simp) ?_
            refine AllReadyH.cons (o := ?oos115) ?his115 (fun K hK => ?sts115) ?mores115
            case his115 => (simp only [List.getElem?_toArray, List.getElem?_cons_zero, List.getElem?_cons_succ] <;> exact rfl)
            case mores115 => exact AllReadyH.nil
            refine step_fresh rfl (.tmp 19) (.tmp 21) 110 rfl 120 (.agg #[.int .i64 0, .int .i64 0]) 2 16 Try.underlying110 info_open rfl (by decide) (by decide) (some b') n n xs rfl (fun h => by cases h) hxl (fun b hb j u hj => by obtain rfl := Option.some.inj hb; rw [World.cell?_alloc_lt _ _ _ (by rw [block_of_add, ← hW2]; exact Nat.lt_of_lt_of_le (holds _ rfl).1 hsW)]; rw [← hW2]; exact hold _ rfl j u hj) ⟨W2.heap.size, 0, none⟩ 1 1 [.int .i64 a, .int .i64 b] rfl rfl (two_new W2 _ _ _ rfl) (by simp [Value.oneCell']) (by omega) (by omega) ?_
            intro g c' w' own' hg' k'
            have BC := BA.chg k' (by simp)
            have DC := DA.chg k' (by simp)
            have c3 := BC.cell (t * 3)
            have f3 := BC.frozen (t * 3)
            refine hK.out _ _ ?hSs115 (fun hHeld => ?rests115)
            case hSs115 => exact ⟨DC.cell 0, DC.cell 1⟩
            clear hK K
            (try simp only [Act.put, List.setIfInBounds_toArray, List.set_cons_zero, List.set_cons_succ])
            refine wpAnyH_take (i := 19) (oi := ?oo158) (v := ?vv158) ?hi158 (by kernel_rfl) ?hf158 (by kernel_rfl) ?hq158 ?hy158 (by assumption) ?rest158
            case hi158 => (simp only [List.getElem?_toArray, List.getElem?_cons_zero, List.getElem?_cons_succ] <;> exact rfl)
            case hf158 => kernel_rfl
            case hq158 => exact fun _ _ _ h => h
            case hy158 => exact Or.inl ⟨by rfl, by intro w hSw; (try dsimp only at hSw); go_simp; try with_reducible rfl⟩
            (try simp only [Act.put, List.setIfInBounds_toArray, List.set_cons_zero, List.set_cons_succ])
            refine wpAnyH_take (i := 20) (oi := ?oo159) (v := ?vv159) ?hi159 (by kernel_rfl) ?hf159 (by kernel_rfl) ?hq159 ?hy159 (by assumption) ?rest159
            case hi159 => (simp only [List.getElem?_toArray, List.getElem?_cons_zero, List.getElem?_cons_succ] <;> exact rfl)
            case hf159 => kernel_rfl
            case hq159 => exact fun _ _ _ h => h
            case hy159 => exact Or.inl ⟨by rfl, by intro w hSw; (try dsimp only at hSw); go_simp; try with_reducible rfl⟩
            (try simp only [Act.put, List.setIfInBounds_toArray, List.set_cons_zero, List.set_cons_succ])
            refine wpAnyH_ready (rs := [21]) (by kernel_rfl) (by simp) ?_
            refine AllReadyH.cons (o := ?oos115x) ?his115x (fun K hK => ?sts115x) ?mores115x
            case his115x => (simp only [List.getElem?_toArray, List.getElem?_cons_zero, List.getElem?_cons_succ] <;> exact rfl)
            case mores115x => exact AllReadyH.nil
            go_simp
            refine hK.out _ _ ?hSs115x (fun hHeld => ?rests115x)
            case hSs115x => exact ⟨(DC.far (p := ⟨q, t * 3, none⟩) hdq _).cell 0, (DC.far (p := ⟨q, t * 3, none⟩) hdq _).cell 1⟩
            clear hK K
            (try simp only [Act.put, List.setIfInBounds_toArray, List.set_cons_zero, List.set_cons_succ])
            refine wpAnyH_done (by kernel_rfl) ?_ _
            go_wp2
            go_end0
            have KX := (Chg.refl [q] w').setCell (p := ⟨q, t * 3, none⟩) (by simp) (.slice (some ⟨g, 0, none⟩) (n + 1) c')
            have own2 := own'
            have hgq := own_ne own2 BC (by decide)
            have hsz := (KD.alloc (.cells #[.int .i64 a, .int .i64 b] 120)).size
            have hfr : ∀ g', (Value.slice (some ⟨g, 0, none⟩) (n + 1) c').ownBlock = some g' → w.heap.size ≤ g' := fun g' hg'' => by
              have e : g = g' := by simpa [Value.ownBlock] using hg''
              omega
            have hno : ∀ g', (Value.slice (some ⟨g, 0, none⟩) (n + 1) c').ownBlock = some g' → g' ∉ [q] := fun g' hg'' => by
              simp only [List.mem_singleton]
              intro e
              exact hgq (by rw [hg'', e])
            exact ⟨rfl, .slice (some ⟨g, 0, none⟩) (n + 1) c', BC.set_ (t * 3) _, (Sl.of_own own2).chg KX hno, hfr, ((KD.alloc _).trans k' (by simp)).setCell (.inl (by simp)) _⟩
          exact AllReadyH.nil
        refine AllReadyH.cons (o := ?oob116) ?hib116 (fun K hK => ?stb116) ?moreb116
        case hib116 => (simp only [List.getElem?_toArray, List.getElem?_cons_zero, List.getElem?_cons_succ] <;> exact rfl)
        case stb116 =>
          go_simp
          refine hK.out _ _ ?hSb116 (fun hHeld => ?restb116)
          case hSb116 => first | exact ⟨DD.cell 0, DD.cell 1⟩ | exact ⟨DA.cell 0, DA.cell 1⟩
          clear hK K
          (try simp only [Act.put, List.setIfInBounds_toArray, List.set_cons_zero, List.set_cons_succ])
          refine wpAnyH_ready (rs := [13]) (by kernel_rfl) (by simp) ?_
          refine AllReadyH.cons (o := ?oob117) ?hib117 (fun K hK => ?stb117) ?moreb117
          case hib117 => (simp only [List.getElem?_toArray, List.getElem?_cons_zero, List.getElem?_cons_succ] <;> exact rfl)
          case stb117 =>
            go_simp
            refine hK.out _ _ ?hSb117 (fun hHeld => ?restb117)
            case hSb117 => first | exact ⟨DD.cell 0, DD.cell 1⟩ | exact ⟨DA.cell 0, DA.cell 1⟩
            clear hK K
            (try simp only [Act.put, List.setIfInBounds_toArray, List.set_cons_zero, List.set_cons_succ])
            refine wpAnyH_take (i := 14) (oi := ?oo160) (v := ?vv160) ?hi160 (by kernel_rfl) ?hf160 (by kernel_rfl) ?hq160 ?hy160 (by assumption) ?rest160
            case hi160 => (simp only [List.getElem?_toArray, List.getElem?_cons_zero, List.getElem?_cons_succ] <;> exact rfl)
            case hf160 => kernel_rfl
            case hq160 => exact fun _ _ _ h => h
            case hy160 => exact Or.inl ⟨by rfl, by intro w hSw; (try dsimp only at hSw); go_simp; try with_reducible rfl⟩
            (try simp only [Act.put, List.setIfInBounds_toArray, List.set_cons_zero, List.set_cons_succ])
            refine wpAnyH_take (i := 15) (oi := ?oo161) (v := ?vv161) ?hi161 (by kernel_rfl) ?hf161 (by kernel_rfl) ?hq161 ?hy161 (by assumption) ?rest161
            case hi161 => (simp only [List.getElem?_toArray, List.getElem?_cons_zero, List.getElem?_cons_succ] <;> exact rfl)
            case hf161 => kernel_rfl
            case hq161 => exact fun _ _ _ h => h
            case hy161 => exact Or.inl ⟨by rfl, by intro w hSw; (try dsimp only at hSw); go_simp; try with_reducible rfl⟩
            (try simp only [Act.put, List.setIfInBounds_toArray, List.set_cons_zero, List.set_cons_succ])
            refine wpAnyH_ready (rs := [18]) (by kernel_rfl) (by simp) ?_
            refine AllReadyH.cons (o := ?oos118) ?his118 (fun K hK => ?sts118) ?mores118
            case his118 => (simp only [List.getElem?_toArray, List.getElem?_cons_zero, List.getElem?_cons_succ] <;> exact rfl)
            case mores118 => exact AllReadyH.nil
            refine step_fresh rfl (.tmp 19) (.tmp 21) 110 rfl 120 (.agg #[.int .i64 0, .int .i64 0]) 2 16 Try.underlying110 info_open rfl (by decide) (by decide) (some b') n n xs rfl (fun h => by cases h) hxl (fun b hb j u hj => by obtain rfl := Option.some.inj hb; rw [World.cell?_alloc_lt _ _ _ (by rw [block_of_add, ← hW2]; exact Nat.lt_of_lt_of_le (holds _ rfl).1 hsW)]; rw [← hW2]; exact hold _ rfl j u hj) ⟨W2.heap.size, 0, none⟩ 1 1 [.int .i64 a, .int .i64 b] rfl rfl (two_new W2 _ _ _ rfl) (by simp [Value.oneCell']) (by omega) (by omega) ?_
            intro g c' w' own' hg' k'
            have BC := BA.chg k' (by simp)
            have DC := DA.chg k' (by simp)
            have c3 := BC.cell (t * 3)
            have f3 := BC.frozen (t * 3)
            refine hK.out _ _ ?hSs118 (fun hHeld => ?rests118)
            case hSs118 => exact ⟨DC.cell 0, DC.cell 1⟩
            clear hK K
            (try simp only [Act.put, List.setIfInBounds_toArray, List.set_cons_zero, List.set_cons_succ])
            refine wpAnyH_take (i := 19) (oi := ?oo162) (v := ?vv162) ?hi162 (by kernel_rfl) ?hf162 (by kernel_rfl) ?hq162 ?hy162 (by assumption) ?rest162
            case hi162 => (simp only [List.getElem?_toArray, List.getElem?_cons_zero, List.getElem?_cons_succ] <;> exact rfl)
            case hf162 => kernel_rfl
            case hq162 => exact fun _ _ _ h => h
            case hy162 => exact Or.inl ⟨by rfl, by intro w hSw; (try dsimp only at hSw); go_simp; try with_reducible rfl⟩
            (try simp only [Act.put, List.setIfInBounds_toArray, List.set_cons_zero, List.set_cons_succ])
            refine wpAnyH_take (i := 20) (oi := ?oo163) (v := ?vv163) ?hi163 (by kernel_rfl) ?hf163 (by kernel_rfl) ?hq163 ?hy163 (by assumption) ?rest163
            case hi163 => (simp only [List.getElem?_toArray, List.getElem?_cons_zero, List.getElem?_cons_succ] <;> exact rfl)
            case hf163 => kernel_rfl
            case hq163 => exact fun _ _ _ h => h
            case hy163 => exact Or.inl ⟨by rfl, by intro w hSw; (try dsimp only at hSw); go_simp; try with_reducible rfl⟩
            (try simp only [Act.put, List.setIfInBounds_toArray, List.set_cons_zero, List.set_cons_succ])
            refine wpAnyH_ready (rs := [21]) (by kernel_rfl) (by simp) ?_
            refine AllReadyH.cons (o := ?oos118x) ?his118x (fun K hK => ?sts118x) ?mores118x
            case his118x => (simp only [List.getElem?_toArray, List.getElem?_cons_zero, List.getElem?_cons_succ] <;> exact rfl)
            case mores118x => exact AllReadyH.nil
            go_simp
            refine hK.out _ _ ?hSs118x (fun hHeld => ?rests118x)
            case hSs118x => exact ⟨(DC.far (p := ⟨q, t * 3, none⟩) hdq _).cell 0, (DC.far (p := ⟨q, t * 3, none⟩) hdq _).cell 1⟩
            clear hK K
            (try simp only [Act.put, List.setIfInBounds_toArray, List.set_cons_zero, List.set_cons_succ])
            refine wpAnyH_done (by kernel_rfl) ?_ _
            go_wp2
            go_end0
            have KX := (Chg.refl [q] w').setCell (p := ⟨q, t * 3, none⟩) (by simp) (.slice (some ⟨g, 0, none⟩) (n + 1) c')
            have own2 := own'
            have hgq := own_ne own2 BC (by decide)
            have hsz := (KD.alloc (.cells #[.int .i64 a, .int .i64 b] 120)).size
            have hfr : ∀ g', (Value.slice (some ⟨g, 0, none⟩) (n + 1) c').ownBlock = some g' → w.heap.size ≤ g' := fun g' hg'' => by
              have e : g = g' := by simpa [Value.ownBlock] using hg''
              omega
            have hno : ∀ g', (Value.slice (some ⟨g, 0, none⟩) (n + 1) c').ownBlock = some g' → g' ∉ [q] := fun g' hg'' => by
              simp only [List.mem_singleton]
              intro e
              exact hgq (by rw [hg'', e])
            exact ⟨rfl, .slice (some ⟨g, 0, none⟩) (n + 1) c', BC.set_ (t * 3) _, (Sl.of_own own2).chg KX hno, hfr, ((KD.alloc _).trans k' (by simp)).setCell (.inl (by simp)) _⟩
          exact AllReadyH.nil
        exact AllReadyH.nil
      refine AllReadyH.cons (o := ?oob119) ?hib119 (fun K hK => ?stb119) ?moreb119
      case hib119 => (simp only [List.getElem?_toArray, List.getElem?_cons_zero, List.getElem?_cons_succ] <;> exact rfl)
      case stb119 =>
        go_simp
        refine hK.out _ _ ?hSb119 (fun hHeld => ?restb119)
        case hSb119 => first | exact ⟨DD.cell 0, DD.cell 1⟩ | exact ⟨DA.cell 0, DA.cell 1⟩
        clear hK K
        (try simp only [Act.put, List.setIfInBounds_toArray, List.set_cons_zero, List.set_cons_succ])
        refine wpAnyH_take (i := 14) (oi := ?oo164) (v := ?vv164) ?hi164 (by kernel_rfl) ?hf164 (by kernel_rfl) ?hq164 ?hy164 (by assumption) ?rest164
        case hi164 => (simp only [List.getElem?_toArray, List.getElem?_cons_zero, List.getElem?_cons_succ] <;> exact rfl)
        case hf164 => kernel_rfl
        case hq164 => exact fun _ _ _ h => h
        case hy164 => exact Or.inl ⟨by rfl, by intro w hSw; (try dsimp only at hSw); go_simp; try with_reducible rfl⟩
        (try simp only [Act.put, List.setIfInBounds_toArray, List.set_cons_zero, List.set_cons_succ])
        refine wpAnyH_ready (rs := [4, 17]) (by kernel_rfl) (by simp) ?_
        refine AllReadyH.cons (o := ?oob120) ?hib120 (fun K hK => ?stb120) ?moreb120
        case hib120 => (simp only [List.getElem?_toArray, List.getElem?_cons_zero, List.getElem?_cons_succ] <;> exact rfl)
        case stb120 =>
          go_simp
          refine hK.out _ _ ?hSb120 (fun hHeld => ?restb120)
          case hSb120 => first | exact ⟨DD.cell 0, DD.cell 1⟩ | exact ⟨DA.cell 0, DA.cell 1⟩
          clear hK K
          (try simp only [Act.put, List.setIfInBounds_toArray, List.set_cons_zero, List.set_cons_succ])
          refine wpAnyH_take (i := 15) (oi := ?oo165) (v := ?vv165) ?hi165 (by kernel_rfl) ?hf165 (by kernel_rfl) ?hq165 ?hy165 (by assumption) ?rest165
          case hi165 => (simp only [List.getElem?_toArray, List.getElem?_cons_zero, List.getElem?_cons_succ] <;> exact rfl)
          case hf165 => kernel_rfl
          case hq165 => exact fun _ _ _ h => h
          case hy165 => exact Or.inl ⟨by rfl, by intro w hSw; (try dsimp only at hSw); go_simp; try with_reducible rfl⟩
          (try simp only [Act.put, List.setIfInBounds_toArray, List.set_cons_zero, List.set_cons_succ])
          refine wpAnyH_ready (rs := [17]) (by kernel_rfl) (by simp) ?_
          refine AllReadyH.cons (o := ?oob121) ?hib121 (fun K hK => ?stb121) ?moreb121
          case hib121 => (simp only [List.getElem?_toArray, List.getElem?_cons_zero, List.getElem?_cons_succ] <;> exact rfl)
          case stb121 =>
            go_simp
            refine hK.out _ _ ?hSb121 (fun hHeld => ?restb121)
            case hSb121 => first | exact ⟨DD.cell 0, DD.cell 1⟩ | exact ⟨DA.cell 0, DA.cell 1⟩
            clear hK K
            (try simp only [Act.put, List.setIfInBounds_toArray, List.set_cons_zero, List.set_cons_succ])
            refine wpAnyH_ready (rs := [18]) (by kernel_rfl) (by simp) ?_
            refine AllReadyH.cons (o := ?oos122) ?his122 (fun K hK => ?sts122) ?mores122
            case his122 => (simp only [List.getElem?_toArray, List.getElem?_cons_zero, List.getElem?_cons_succ] <;> exact rfl)
            case mores122 => exact AllReadyH.nil
            refine step_fresh rfl (.tmp 19) (.tmp 21) 110 rfl 120 (.agg #[.int .i64 0, .int .i64 0]) 2 16 Try.underlying110 info_open rfl (by decide) (by decide) (some b') n n xs rfl (fun h => by cases h) hxl (fun b hb j u hj => by obtain rfl := Option.some.inj hb; rw [World.cell?_alloc_lt _ _ _ (by rw [block_of_add, ← hW2]; exact Nat.lt_of_lt_of_le (holds _ rfl).1 hsW)]; rw [← hW2]; exact hold _ rfl j u hj) ⟨W2.heap.size, 0, none⟩ 1 1 [.int .i64 a, .int .i64 b] rfl rfl (two_new W2 _ _ _ rfl) (by simp [Value.oneCell']) (by omega) (by omega) ?_
            intro g c' w' own' hg' k'
            have BC := BA.chg k' (by simp)
            have DC := DA.chg k' (by simp)
            have c3 := BC.cell (t * 3)
            have f3 := BC.frozen (t * 3)
            refine hK.out _ _ ?hSs122 (fun hHeld => ?rests122)
            case hSs122 => exact ⟨DC.cell 0, DC.cell 1⟩
            clear hK K
            (try simp only [Act.put, List.setIfInBounds_toArray, List.set_cons_zero, List.set_cons_succ])
            refine wpAnyH_take (i := 19) (oi := ?oo166) (v := ?vv166) ?hi166 (by kernel_rfl) ?hf166 (by kernel_rfl) ?hq166 ?hy166 (by assumption) ?rest166
            case hi166 => (simp only [List.getElem?_toArray, List.getElem?_cons_zero, List.getElem?_cons_succ] <;> exact rfl)
            case hf166 => kernel_rfl
            case hq166 => exact fun _ _ _ h => h
            case hy166 => exact Or.inl ⟨by rfl, by intro w hSw; (try dsimp only at hSw); go_simp; try with_reducible rfl⟩
            (try simp only [Act.put, List.setIfInBounds_toArray, List.set_cons_zero, List.set_cons_succ])
            refine wpAnyH_take (i := 20) (oi := ?oo167) (v := ?vv167) ?hi167 (by kernel_rfl) ?hf167 (by kernel_rfl) ?hq167 ?hy167 (by assumption) ?rest167
            case hi167 => (simp only [List.getElem?_toArray, List.getElem?_cons_zero, List.getElem?_cons_succ] <;> exact rfl)
            case hf167 => kernel_rfl
            case hq167 => exact fun _ _ _ h => h
            case hy167 => exact Or.inl ⟨by rfl, by intro w hSw; (try dsimp only at hSw); go_simp; try with_reducible rfl⟩
            (try simp only [Act.put, List.setIfInBounds_toArray, List.set_cons_zero, List.set_cons_succ])
            refine wpAnyH_ready (rs := [21]) (by kernel_rfl) (by simp) ?_
            refine AllReadyH.cons (o := ?oos122x) ?his122x (fun K hK => ?sts122x) ?mores122x
            case his122x => (simp only [List.getElem?_toArray, List.getElem?_cons_zero, List.getElem?_cons_succ] <;> exact rfl)
            case mores122x => exact AllReadyH.nil
            go_simp
            refine hK.out _ _ ?hSs122x (fun hHeld => ?rests122x)
            case hSs122x => exact ⟨(DC.far (p := ⟨q, t * 3, none⟩) hdq _).cell 0, (DC.far (p := ⟨q, t * 3, none⟩) hdq _).cell 1⟩
            clear hK K
            (try simp only [Act.put, List.setIfInBounds_toArray, List.set_cons_zero, List.set_cons_succ])
            refine wpAnyH_done (by kernel_rfl) ?_ _
            go_wp2
            go_end0
            have KX := (Chg.refl [q] w').setCell (p := ⟨q, t * 3, none⟩) (by simp) (.slice (some ⟨g, 0, none⟩) (n + 1) c')
            have own2 := own'
            have hgq := own_ne own2 BC (by decide)
            have hsz := (KD.alloc (.cells #[.int .i64 a, .int .i64 b] 120)).size
            have hfr : ∀ g', (Value.slice (some ⟨g, 0, none⟩) (n + 1) c').ownBlock = some g' → w.heap.size ≤ g' := fun g' hg'' => by
              have e : g = g' := by simpa [Value.ownBlock] using hg''
              omega
            have hno : ∀ g', (Value.slice (some ⟨g, 0, none⟩) (n + 1) c').ownBlock = some g' → g' ∉ [q] := fun g' hg'' => by
              simp only [List.mem_singleton]
              intro e
              exact hgq (by rw [hg'', e])
            exact ⟨rfl, .slice (some ⟨g, 0, none⟩) (n + 1) c', BC.set_ (t * 3) _, (Sl.of_own own2).chg KX hno, hfr, ((KD.alloc _).trans k' (by simp)).setCell (.inl (by simp)) _⟩
          exact AllReadyH.nil
        refine AllReadyH.cons (o := ?oob123) ?hib123 (fun K hK => ?stb123) ?moreb123
        case hib123 => (simp only [List.getElem?_toArray, List.getElem?_cons_zero, List.getElem?_cons_succ] <;> exact rfl)
        case stb123 =>
          go_simp
          refine hK.out _ _ ?hSb123 (fun hHeld => ?restb123)
          case hSb123 => first | exact ⟨DD.cell 0, DD.cell 1⟩ | exact ⟨DA.cell 0, DA.cell 1⟩
          clear hK K
          (try simp only [Act.put, List.setIfInBounds_toArray, List.set_cons_zero, List.set_cons_succ])
          refine wpAnyH_ready (rs := [4]) (by kernel_rfl) (by simp) ?_
          refine AllReadyH.cons (o := ?oob124) ?hib124 (fun K hK => ?stb124) ?moreb124
          case hib124 => (simp only [List.getElem?_toArray, List.getElem?_cons_zero, List.getElem?_cons_succ] <;> exact rfl)
          case stb124 =>
            go_simp
            refine hK.out _ _ ?hSb124 (fun hHeld => ?restb124)
            case hSb124 => first | exact ⟨DD.cell 0, DD.cell 1⟩ | exact ⟨DA.cell 0, DA.cell 1⟩
            clear hK K
            (try simp only [Act.put, List.setIfInBounds_toArray, List.set_cons_zero, List.set_cons_succ])
            refine wpAnyH_take (i := 15) (oi := ?oo168) (v := ?vv168) ?hi168 (by kernel_rfl) ?hf168 (by kernel_rfl) ?hq168 ?hy168 (by assumption) ?rest168
            case hi168 => (simp only [List.getElem?_toArray, List.getElem?_cons_zero, List.getElem?_cons_succ] <;> exact rfl)
            case hf168 => kernel_rfl
            case hq168 => exact fun _ _ _ h => h
            case hy168 => exact Or.inl ⟨by rfl, by intro w hSw; (try dsimp only at hSw); go_simp; try with_reducible rfl⟩
            (try simp only [Act.put, List.setIfInBounds_toArray, List.set_cons_zero, List.set_cons_succ])
            refine wpAnyH_ready (rs := [18]) (by kernel_rfl) (by simp) ?_
            refine AllReadyH.cons (o := ?oos125) ?his125 (fun K hK => ?sts125) ?mores125
            case his125 => (simp only [List.getElem?_toArray, List.getElem?_cons_zero, List.getElem?_cons_succ] <;> exact rfl)
            case mores125 => exact AllReadyH.nil
            refine step_fresh rfl (.tmp 19) (.tmp 21) 110 rfl 120 (.agg #[.int .i64 0, .int .i64 0]) 2 16 Try.underlying110 info_open rfl (by decide) (by decide) (some b') n n xs rfl (fun h => by cases h) hxl (fun b hb j u hj => by obtain rfl := Option.some.inj hb; rw [World.cell?_alloc_lt _ _ _ (by rw [block_of_add, ← hW2]; exact Nat.lt_of_lt_of_le (holds _ rfl).1 hsW)]; rw [← hW2]; exact hold _ rfl j u hj) ⟨W2.heap.size, 0, none⟩ 1 1 [.int .i64 a, .int .i64 b] rfl rfl (two_new W2 _ _ _ rfl) (by simp [Value.oneCell']) (by omega) (by omega) ?_
            intro g c' w' own' hg' k'
            have BC := BA.chg k' (by simp)
            have DC := DA.chg k' (by simp)
            have c3 := BC.cell (t * 3)
            have f3 := BC.frozen (t * 3)
            refine hK.out _ _ ?hSs125 (fun hHeld => ?rests125)
            case hSs125 => exact ⟨DC.cell 0, DC.cell 1⟩
            clear hK K
            (try simp only [Act.put, List.setIfInBounds_toArray, List.set_cons_zero, List.set_cons_succ])
            refine wpAnyH_take (i := 19) (oi := ?oo169) (v := ?vv169) ?hi169 (by kernel_rfl) ?hf169 (by kernel_rfl) ?hq169 ?hy169 (by assumption) ?rest169
            case hi169 => (simp only [List.getElem?_toArray, List.getElem?_cons_zero, List.getElem?_cons_succ] <;> exact rfl)
            case hf169 => kernel_rfl
            case hq169 => exact fun _ _ _ h => h
            case hy169 => exact Or.inl ⟨by rfl, by intro w hSw; (try dsimp only at hSw); go_simp; try with_reducible rfl⟩
            (try simp only [Act.put, List.setIfInBounds_toArray, List.set_cons_zero, List.set_cons_succ])
            refine wpAnyH_take (i := 20) (oi := ?oo170) (v := ?vv170) ?hi170 (by kernel_rfl) ?hf170 (by kernel_rfl) ?hq170 ?hy170 (by assumption) ?rest170
            case hi170 => (simp only [List.getElem?_toArray, List.getElem?_cons_zero, List.getElem?_cons_succ] <;> exact rfl)
            case hf170 => kernel_rfl
            case hq170 => exact fun _ _ _ h => h
            case hy170 => exact Or.inl ⟨by rfl, by intro w hSw; (try dsimp only at hSw); go_simp; try with_reducible rfl⟩
            (try simp only [Act.put, List.setIfInBounds_toArray, List.set_cons_zero, List.set_cons_succ])
            refine wpAnyH_ready (rs := [21]) (by kernel_rfl) (by simp) ?_
            refine AllReadyH.cons (o := ?oos125x) ?his125x (fun K hK => ?sts125x) ?mores125x
            case his125x => (simp only [List.getElem?_toArray, List.getElem?_cons_zero, List.getElem?_cons_succ] <;> exact rfl)
            case mores125x => exact AllReadyH.nil
            go_simp
            refine hK.out _ _ ?hSs125x (fun hHeld => ?rests125x)
            case hSs125x => exact ⟨(DC.far (p := ⟨q, t * 3, none⟩) hdq _).cell 0, (DC.far (p := ⟨q, t * 3, none⟩) hdq _).cell 1⟩
            clear hK K
            (try simp only [Act.put, List.setIfInBounds_toArray, List.set_cons_zero, List.set_cons_succ])
            refine wpAnyH_done (by kernel_rfl) ?_ _
            go_wp2
            go_end0
            have KX := (Chg.refl [q] w').setCell (p := ⟨q, t * 3, none⟩) (by simp) (.slice (some ⟨g, 0, none⟩) (n + 1) c')
            have own2 := own'
            have hgq := own_ne own2 BC (by decide)
            have hsz := (KD.alloc (.cells #[.int .i64 a, .int .i64 b] 120)).size
            have hfr : ∀ g', (Value.slice (some ⟨g, 0, none⟩) (n + 1) c').ownBlock = some g' → w.heap.size ≤ g' := fun g' hg'' => by
              have e : g = g' := by simpa [Value.ownBlock] using hg''
              omega
            have hno : ∀ g', (Value.slice (some ⟨g, 0, none⟩) (n + 1) c').ownBlock = some g' → g' ∉ [q] := fun g' hg'' => by
              simp only [List.mem_singleton]
              intro e
              exact hgq (by rw [hg'', e])
            exact ⟨rfl, .slice (some ⟨g, 0, none⟩) (n + 1) c', BC.set_ (t * 3) _, (Sl.of_own own2).chg KX hno, hfr, ((KD.alloc _).trans k' (by simp)).setCell (.inl (by simp)) _⟩
          exact AllReadyH.nil
        exact AllReadyH.nil
      refine AllReadyH.cons (o := ?oob126) ?hib126 (fun K hK => ?stb126) ?moreb126
      case hib126 => (simp only [List.getElem?_toArray, List.getElem?_cons_zero, List.getElem?_cons_succ] <;> exact rfl)
      case stb126 =>
        go_simp
        refine hK.out _ _ ?hSb126 (fun hHeld => ?restb126)
        case hSb126 => first | exact ⟨DD.cell 0, DD.cell 1⟩ | exact ⟨DA.cell 0, DA.cell 1⟩
        clear hK K
        (try simp only [Act.put, List.setIfInBounds_toArray, List.set_cons_zero, List.set_cons_succ])
        refine wpAnyH_ready (rs := [4, 13]) (by kernel_rfl) (by simp) ?_
        refine AllReadyH.cons (o := ?oob127) ?hib127 (fun K hK => ?stb127) ?moreb127
        case hib127 => (simp only [List.getElem?_toArray, List.getElem?_cons_zero, List.getElem?_cons_succ] <;> exact rfl)
        case stb127 =>
          go_simp
          refine hK.out _ _ ?hSb127 (fun hHeld => ?restb127)
          case hSb127 => first | exact ⟨DD.cell 0, DD.cell 1⟩ | exact ⟨DA.cell 0, DA.cell 1⟩
          clear hK K
          (try simp only [Act.put, List.setIfInBounds_toArray, List.set_cons_zero, List.set_cons_succ])
          refine wpAnyH_ready (rs := [13]) (by kernel_rfl) (by simp) ?_
          refine AllReadyH.cons (o := ?oob128) ?hib128 (fun K hK => ?stb128) ?moreb128
          case hib128 => (simp only [List.getElem?_toArray, List.getElem?_cons_zero, List.getElem?_cons_succ] <;> exact rfl)
          case stb128 =>
            go_simp
            refine hK.out _ _ ?hSb128 (fun hHeld => ?restb128)
            case hSb128 => first | exact ⟨DD.cell 0, DD.cell 1⟩ | exact ⟨DA.cell 0, DA.cell 1⟩
            clear hK K
            (try simp only [Act.put, List.setIfInBounds_toArray, List.set_cons_zero, List.set_cons_succ])
            refine wpAnyH_take (i := 14) (oi := ?oo171) (v := ?vv171) ?hi171 (by kernel_rfl) ?hf171 (by kernel_rfl) ?hq171 ?hy171 (by assumption) ?rest171
            case hi171 => (simp only [List.getElem?_toArray, List.getElem?_cons_zero, List.getElem?_cons_succ] <;> exact rfl)
            case hf171 => kernel_rfl
            case hq171 => exact fun _ _ _ h => h
            case hy171 => exact Or.inl ⟨by rfl, by intro w hSw; (try dsimp only at hSw); go_simp; try with_reducible rfl⟩
            (try simp only [Act.put, List.setIfInBounds_toArray, List.set_cons_zero, List.set_cons_succ])
            refine wpAnyH_take (i := 15) (oi := ?oo172) (v := ?vv172) ?hi172 (by kernel_rfl) ?hf172 (by kernel_rfl) ?hq172 ?hy172 (by assumption) ?rest172
            case hi172 => (simp only [List.getElem?_toArray, List.getElem?_cons_zero, List.getElem?_cons_succ] <;> exact rfl)
            case hf172 => kernel_rfl
            case hq172 => exact fun _ _ _ h => h
            case hy172 => exact Or.inl ⟨by rfl, by intro w hSw; (try dsimp only at hSw); go_simp; try with_reducible rfl⟩
            (try simp only [Act.put, List.setIfInBounds_toArray, List.set_cons_zero, List.set_cons_succ])
            refine wpAnyH_ready (rs := [18]) (by kernel_rfl) (by simp) ?_
            refine AllReadyH.cons (o := ?oos129) ?his129 (fun K hK => ?sts129) ?mores129
            case his129 => (simp only [List.getElem?_toArray, List.getElem?_cons_zero, List.getElem?_cons_succ] <;> exact rfl)
            case mores129 => exact AllReadyH.nil
            refine step_fresh rfl (.tmp 19) (.tmp 21) 110 rfl 120 (.agg #[.int .i64 0, .int .i64 0]) 2 16 Try.underlying110 info_open rfl (by decide) (by decide) (some b') n n xs rfl (fun h => by cases h) hxl (fun b hb j u hj => by obtain rfl := Option.some.inj hb; rw [World.cell?_alloc_lt _ _ _ (by rw [block_of_add, ← hW2]; exact Nat.lt_of_lt_of_le (holds _ rfl).1 hsW)]; rw [← hW2]; exact hold _ rfl j u hj) ⟨W2.heap.size, 0, none⟩ 1 1 [.int .i64 a, .int .i64 b] rfl rfl (two_new W2 _ _ _ rfl) (by simp [Value.oneCell']) (by omega) (by omega) ?_
            intro g c' w' own' hg' k'
            have BC := BA.chg k' (by simp)
            have DC := DA.chg k' (by simp)
            have c3 := BC.cell (t * 3)
            have f3 := BC.frozen (t * 3)
            refine hK.out _ _ ?hSs129 (fun hHeld => ?rests129)
            case hSs129 => exact ⟨DC.cell 0, DC.cell 1⟩
            clear hK K
            (try simp only [Act.put, List.setIfInBounds_toArray, List.set_cons_zero, List.set_cons_succ])
            refine wpAnyH_take (i := 19) (oi := ?oo173) (v := ?vv173) ?hi173 (by kernel_rfl) ?hf173 (by kernel_rfl) ?hq173 ?hy173 (by assumption) ?rest173
            case hi173 => (simp only [List.getElem?_toArray, List.getElem?_cons_zero, List.getElem?_cons_succ] <;> exact rfl)
            case hf173 => kernel_rfl
            case hq173 => exact fun _ _ _ h => h
            case hy173 => exact Or.inl ⟨by rfl, by intro w hSw; (try dsimp only at hSw); go_simp; try with_reducible rfl⟩
            (try simp only [Act.put, List.setIfInBounds_toArray, List.set_cons_zero, List.set_cons_succ])
            refine wpAnyH_take (i := 20) (oi := ?oo174) (v := ?vv174) ?hi174 (by kernel_rfl) ?hf174 (by kernel_rfl) ?hq174 ?hy174 (by assumption) ?rest174
            case hi174 => (simp only [List.getElem?_toArray, List.getElem?_cons_zero, List.getElem?_cons_succ] <;> exact rfl)
            case hf174 => kernel_rfl
            case hq174 => exact fun _ _ _ h => h
            case hy174 => exact Or.inl ⟨by rfl, by intro w hSw; (try dsimp only at hSw); go_simp; try with_reducible rfl⟩
            (try simp only [Act.put, List.setIfInBounds_toArray, List.set_cons_zero, List.set_cons_succ])
            refine wpAnyH_ready (rs := [21]) (by kernel_rfl) (by simp) ?_
            refine AllReadyH.cons (o := ?oos129x) ?his129x (fun K hK => ?sts129x) ?mores129x
            case his129x => (simp only [List.getElem?_toArray, List.getElem?_cons_zero, List.getElem?_cons_succ] <;> exact rfl)
            case mores129x => exact AllReadyH.nil
            go_simp
            refine hK.out _ _ ?hSs129x (fun hHeld => ?rests129x)
            case hSs129x => exact ⟨(DC.far (p := ⟨q, t * 3, none⟩) hdq _).cell 0, (DC.far (p := ⟨q, t * 3, none⟩) hdq _).cell 1⟩
            clear hK K
            (try simp only [Act.put, List.setIfInBounds_toArray, List.set_cons_zero, List.set_cons_succ])
            refine wpAnyH_done (by kernel_rfl) ?_ _
            go_wp2
            go_end0
            have KX := (Chg.refl [q] w').setCell (p := ⟨q, t * 3, none⟩) (by simp) (.slice (some ⟨g, 0, none⟩) (n + 1) c')
            have own2 := own'
            have hgq := own_ne own2 BC (by decide)
            have hsz := (KD.alloc (.cells #[.int .i64 a, .int .i64 b] 120)).size
            have hfr : ∀ g', (Value.slice (some ⟨g, 0, none⟩) (n + 1) c').ownBlock = some g' → w.heap.size ≤ g' := fun g' hg'' => by
              have e : g = g' := by simpa [Value.ownBlock] using hg''
              omega
            have hno : ∀ g', (Value.slice (some ⟨g, 0, none⟩) (n + 1) c').ownBlock = some g' → g' ∉ [q] := fun g' hg'' => by
              simp only [List.mem_singleton]
              intro e
              exact hgq (by rw [hg'', e])
            exact ⟨rfl, .slice (some ⟨g, 0, none⟩) (n + 1) c', BC.set_ (t * 3) _, (Sl.of_own own2).chg KX hno, hfr, ((KD.alloc _).trans k' (by simp)).setCell (.inl (by simp)) _⟩
          exact AllReadyH.nil
        refine AllReadyH.cons (o := ?oob130) ?hib130 (fun K hK => ?stb130) ?moreb130
        case hib130 => (simp only [List.getElem?_toArray, List.getElem?_cons_zero, List.getElem?_cons_succ] <;> exact rfl)
        case stb130 =>
          go_simp
          refine hK.out _ _ ?hSb130 (fun hHeld => ?restb130)
          case hSb130 => first | exact ⟨DD.cell 0, DD.cell 1⟩ | exact ⟨DA.cell 0, DA.cell 1⟩
          clear hK K
          (try simp only [Act.put, List.setIfInBounds_toArray, List.set_cons_zero, List.set_cons_succ])
          refine wpAnyH_take (i := 14) (oi := ?oo175) (v := ?vv175) ?hi175 (by kernel_rfl) ?hf175 (by kernel_rfl) ?hq175 ?hy175 (by assumption) ?rest175
          case hi175 => (simp only [List.getElem?_toArray, List.getElem?_cons_zero, List.getElem?_cons_succ] <;> exact rfl)
          case hf175 => kernel_rfl
          case hq175 => exact fun _ _ _ h => h
          case hy175 => exact Or.inl ⟨by rfl, by intro w hSw; (try dsimp only at hSw); go_simp; try with_reducible rfl⟩
          (try simp only [Act.put, List.setIfInBounds_toArray, List.set_cons_zero, List.set_cons_succ])
          refine wpAnyH_ready (rs := [4]) (by kernel_rfl) (by simp) ?_
          refine AllReadyH.cons (o := ?oob131) ?hib131 (fun K hK => ?stb131) ?moreb131
          case hib131 => (simp only [List.getElem?_toArray, List.getElem?_cons_zero, List.getElem?_cons_succ] <;> exact rfl)
          case stb131 =>
            go_simp
            refine hK.out _ _ ?hSb131 (fun hHeld => ?restb131)
            case hSb131 => first | exact ⟨DD.cell 0, DD.cell 1⟩ | exact ⟨DA.cell 0, DA.cell 1⟩
            clear hK K
            (try simp only [Act.put, List.setIfInBounds_toArray, List.set_cons_zero, List.set_cons_succ])
            refine wpAnyH_take (i := 15) (oi := ?oo176) (v := ?vv176) ?hi176 (by kernel_rfl) ?hf176 (by kernel_rfl) ?hq176 ?hy176 (by assumption) ?rest176
            case hi176 => (simp only [List.getElem?_toArray, List.getElem?_cons_zero, List.getElem?_cons_succ] <;> exact rfl)
            case hf176 => kernel_rfl
            case hq176 => exact fun _ _ _ h => h
            case hy176 => exact Or.inl ⟨by rfl, by intro w hSw; (try dsimp only at hSw); go_simp; try with_reducible rfl⟩
            (try simp only [Act.put, List.setIfInBounds_toArray, List.set_cons_zero, List.set_cons_succ])
            refine wpAnyH_ready (rs := [18]) (by kernel_rfl) (by simp) ?_
            refine AllReadyH.cons (o := ?oos132) ?his132 (fun K hK => ?sts132) ?mores132
            case his132 => (simp only [List.getElem?_toArray, List.getElem?_cons_zero, List.getElem?_cons_succ] <;> exact rfl)
            case mores132 => exact AllReadyH.nil
            refine step_fresh rfl (.tmp 19) (.tmp 21) 110 rfl 120 (.agg #[.int .i64 0, .int .i64 0]) 2 16 Try.underlying110 info_open rfl (by decide) (by decide) (some b') n n xs rfl (fun h => by cases h) hxl (fun b hb j u hj => by obtain rfl := Option.some.inj hb; rw [World.cell?_alloc_lt _ _ _ (by rw [block_of_add, ← hW2]; exact Nat.lt_of_lt_of_le (holds _ rfl).1 hsW)]; rw [← hW2]; exact hold _ rfl j u hj) ⟨W2.heap.size, 0, none⟩ 1 1 [.int .i64 a, .int .i64 b] rfl rfl (two_new W2 _ _ _ rfl) (by simp [Value.oneCell']) (by omega) (by omega) ?_
            intro g c' w' own' hg' k'
            have BC := BA.chg k' (by simp)
            have DC := DA.chg k' (by simp)
            have c3 := BC.cell (t * 3)
            have f3 := BC.frozen (t * 3)
            refine hK.out _ _ ?hSs132 (fun hHeld => ?rests132)
            case hSs132 => exact ⟨DC.cell 0, DC.cell 1⟩
            clear hK K
            (try simp only [Act.put, List.setIfInBounds_toArray, List.set_cons_zero, List.set_cons_succ])
            refine wpAnyH_take (i := 19) (oi := ?oo177) (v := ?vv177) ?hi177 (by kernel_rfl) ?hf177 (by kernel_rfl) ?hq177 ?hy177 (by assumption) ?rest177
            case hi177 => (simp only [List.getElem?_toArray, List.getElem?_cons_zero, List.getElem?_cons_succ] <;> exact rfl)
            case hf177 => kernel_rfl
            case hq177 => exact fun _ _ _ h => h
            case hy177 => exact Or.inl ⟨by rfl, by intro w hSw; (try dsimp only at hSw); go_simp; try with_reducible rfl⟩
            (try simp only [Act.put, List.setIfInBounds_toArray, List.set_cons_zero, List.set_cons_succ])
            refine wpAnyH_take (i := 20) (oi := ?oo178) (v := ?vv178) ?hi178 (by kernel_rfl) ?hf178 (by kernel_rfl) ?hq178 ?hy178 (by assumption) ?rest178
            case hi178 => (simp only [List.getElem?_toArray, List.getElem?_cons_zero, List.getElem?_cons_succ] <;> exact rfl)
            case hf178 => kernel_rfl
            case hq178 => exact fun _ _ _ h => h
            case hy178 => exact Or.inl ⟨by rfl, by intro w hSw; (try dsimp only at hSw); go_simp; try with_reducible rfl⟩
            (try simp only [Act.put, List.setIfInBounds_toArray, List.set_cons_zero, List.set_cons_succ])
            refine wpAnyH_ready (rs := [21]) (by kernel_rfl) (by simp) ?_
            refine AllReadyH.cons (o := ?oos132x) ?his132x (fun K hK => ?sts132x) ?mores132x
            case his132x => (simp only [List.getElem?_toArray, List.getElem?_cons_zero, List.getElem?_cons_succ] <;> exact rfl)
            case mores132x => exact AllReadyH.nil
            go_simp
            refine hK.out _ _ ?hSs132x (fun hHeld => ?rests132x)
            case hSs132x => exact ⟨(DC.far (p := ⟨q, t * 3, none⟩) hdq _).cell 0, (DC.far (p := ⟨q, t * 3, none⟩) hdq _).cell 1⟩
            clear hK K
            (try simp only [Act.put, List.setIfInBounds_toArray, List.set_cons_zero, List.set_cons_succ])
            refine wpAnyH_done (by kernel_rfl) ?_ _
            go_wp2
            go_end0
            have KX := (Chg.refl [q] w').setCell (p := ⟨q, t * 3, none⟩) (by simp) (.slice (some ⟨g, 0, none⟩) (n + 1) c')
            have own2 := own'
            have hgq := own_ne own2 BC (by decide)
            have hsz := (KD.alloc (.cells #[.int .i64 a, .int .i64 b] 120)).size
            have hfr : ∀ g', (Value.slice (some ⟨g, 0, none⟩) (n + 1) c').ownBlock = some g' → w.heap.size ≤ g' := fun g' hg'' => by
              have e : g = g' := by simpa [Value.ownBlock] using hg''
              omega
            have hno : ∀ g', (Value.slice (some ⟨g, 0, none⟩) (n + 1) c').ownBlock = some g' → g' ∉ [q] := fun g' hg'' => by
              simp only [List.mem_singleton]
              intro e
              exact hgq (by rw [hg'', e])
            exact ⟨rfl, .slice (some ⟨g, 0, none⟩) (n + 1) c', BC.set_ (t * 3) _, (Sl.of_own own2).chg KX hno, hfr, ((KD.alloc _).trans k' (by simp)).setCell (.inl (by simp)) _⟩
          exact AllReadyH.nil
        exact AllReadyH.nil
      exact AllReadyH.nil
    refine AllReadyH.cons (o := ?oob133) ?hib133 (fun K hK => ?stb133) ?moreb133
    case hib133 => (simp only [List.getElem?_toArray, List.getElem?_cons_zero, List.getElem?_cons_succ] <;> exact rfl)
    case stb133 =>
      go_simp
      refine hK.out _ _ ?hSb133 (fun hHeld => ?restb133)
      case hSb133 => first | exact ⟨DD.cell 0, DD.cell 1⟩ | exact ⟨DA.cell 0, DA.cell 1⟩
      clear hK K
      (try simp only [Act.put, List.setIfInBounds_toArray, List.set_cons_zero, List.set_cons_succ])
      refine wpAnyH_take (i := 14) (oi := ?oo179) (v := ?vv179) ?hi179 (by kernel_rfl) ?hf179 (by kernel_rfl) ?hq179 ?hy179 (by assumption) ?rest179
      case hi179 => (simp only [List.getElem?_toArray, List.getElem?_cons_zero, List.getElem?_cons_succ] <;> exact rfl)
      case hf179 => kernel_rfl
      case hq179 => exact fun _ _ _ h => h
      case hy179 => exact Or.inl ⟨by rfl, by intro w hSw; (try dsimp only at hSw); go_simp; try with_reducible rfl⟩
      (try simp only [Act.put, List.setIfInBounds_toArray, List.set_cons_zero, List.set_cons_succ])
      refine wpAnyH_ready (rs := [4, 8, 17]) (by kernel_rfl) (by simp) ?_
      refine AllReadyH.cons (o := ?oob134) ?hib134 (fun K hK => ?stb134) ?moreb134
      case hib134 => (simp only [List.getElem?_toArray, List.getElem?_cons_zero, List.getElem?_cons_succ] <;> exact rfl)
      case stb134 =>
        go_simp
        refine hK.out _ _ ?hSb134 (fun hHeld => ?restb134)
        case hSb134 => first | exact ⟨DD.cell 0, DD.cell 1⟩ | exact ⟨DA.cell 0, DA.cell 1⟩
        clear hK K
        (try simp only [Act.put, List.setIfInBounds_toArray, List.set_cons_zero, List.set_cons_succ])
        refine wpAnyH_ready (rs := [8, 17]) (by kernel_rfl) (by simp) ?_
        refine AllReadyH.cons (o := ?oob135) ?hib135 (fun K hK => ?stb135) ?moreb135
        case hib135 => (simp only [List.getElem?_toArray, List.getElem?_cons_zero, List.getElem?_cons_succ] <;> exact rfl)
        case stb135 =>
          go_simp
          refine hK.out _ _ ?hSb135 (fun hHeld => ?restb135)
          case hSb135 => first | exact ⟨DD.cell 0, DD.cell 1⟩ | exact ⟨DA.cell 0, DA.cell 1⟩
          clear hK K
          (try simp only [Act.put, List.setIfInBounds_toArray, List.set_cons_zero, List.set_cons_succ])
          refine wpAnyH_take (i := 9) (oi := ?oo180) (v := ?vv180) ?hi180 (by kernel_rfl) ?hf180 (by kernel_rfl) ?hq180 ?hy180 (by assumption) ?rest180
          case hi180 => (simp only [List.getElem?_toArray, List.getElem?_cons_zero, List.getElem?_cons_succ] <;> exact rfl)
          case hf180 => kernel_rfl
          case hq180 => exact fun _ _ _ h => h
          case hy180 => exact Or.inl ⟨by rfl, by intro w hSw; (try dsimp only at hSw); go_simp; try with_reducible rfl⟩
          (try simp only [Act.put, List.setIfInBounds_toArray, List.set_cons_zero, List.set_cons_succ])
          refine wpAnyH_take (i := 15) (oi := ?oo181) (v := ?vv181) ?hi181 (by kernel_rfl) ?hf181 (by kernel_rfl) ?hq181 ?hy181 (by assumption) ?rest181
          case hi181 => (simp only [List.getElem?_toArray, List.getElem?_cons_zero, List.getElem?_cons_succ] <;> exact rfl)
          case hf181 => kernel_rfl
          case hq181 => exact fun _ _ _ h => h
          case hy181 => exact Or.inl ⟨by rfl, by intro w hSw; (try dsimp only at hSw); go_simp; try with_reducible rfl⟩
          (try simp only [Act.put, List.setIfInBounds_toArray, List.set_cons_zero, List.set_cons_succ])
          refine wpAnyH_ready (rs := [17]) (by kernel_rfl) (by simp) ?_
          refine AllReadyH.cons (o := ?oob136) ?hib136 (fun K hK => ?stb136) ?moreb136
          case hib136 => (simp only [List.getElem?_toArray, List.getElem?_cons_zero, List.getElem?_cons_succ] <;> exact rfl)
          case stb136 =>
            go_simp
            refine hK.out _ _ ?hSb136 (fun hHeld => ?restb136)
            case hSb136 => first | exact ⟨DD.cell 0, DD.cell 1⟩ | exact ⟨DA.cell 0, DA.cell 1⟩
            clear hK K
            (try simp only [Act.put, List.setIfInBounds_toArray, List.set_cons_zero, List.set_cons_succ])
            refine wpAnyH_ready (rs := [18]) (by kernel_rfl) (by simp) ?_
            refine AllReadyH.cons (o := ?oos137) ?his137 (fun K hK => ?sts137) ?mores137
            case his137 => (simp only [List.getElem?_toArray, List.getElem?_cons_zero, List.getElem?_cons_succ] <;> exact rfl)
            case mores137 => exact AllReadyH.nil
            refine step_fresh rfl (.tmp 19) (.tmp 21) 110 rfl 120 (.agg #[.int .i64 0, .int .i64 0]) 2 16 Try.underlying110 info_open rfl (by decide) (by decide) (some b') n n xs rfl (fun h => by cases h) hxl (fun b hb j u hj => by obtain rfl := Option.some.inj hb; rw [World.cell?_alloc_lt _ _ _ (by rw [block_of_add, ← hW2]; exact Nat.lt_of_lt_of_le (holds _ rfl).1 hsW)]; rw [← hW2]; exact hold _ rfl j u hj) ⟨W2.heap.size, 0, none⟩ 1 1 [.int .i64 a, .int .i64 b] rfl rfl (two_new W2 _ _ _ rfl) (by simp [Value.oneCell']) (by omega) (by omega) ?_
            intro g c' w' own' hg' k'
            have BC := BA.chg k' (by simp)
            have DC := DA.chg k' (by simp)
            have c3 := BC.cell (t * 3)
            have f3 := BC.frozen (t * 3)
            refine hK.out _ _ ?hSs137 (fun hHeld => ?rests137)
            case hSs137 => exact ⟨DC.cell 0, DC.cell 1⟩
            clear hK K
            (try simp only [Act.put, List.setIfInBounds_toArray, List.set_cons_zero, List.set_cons_succ])
            refine wpAnyH_take (i := 19) (oi := ?oo182) (v := ?vv182) ?hi182 (by kernel_rfl) ?hf182 (by kernel_rfl) ?hq182 ?hy182 (by assumption) ?rest182
            case hi182 => (simp only [List.getElem?_toArray, List.getElem?_cons_zero, List.getElem?_cons_succ] <;> exact rfl)
            case hf182 => kernel_rfl
            case hq182 => exact fun _ _ _ h => h
            case hy182 => exact Or.inl ⟨by rfl, by intro w hSw; (try dsimp only at hSw); go_simp; try with_reducible rfl⟩
            (try simp only [Act.put, List.setIfInBounds_toArray, List.set_cons_zero, List.set_cons_succ])
            refine wpAnyH_take (i := 20) (oi := ?oo183) (v := ?vv183) ?hi183 (by kernel_rfl) ?hf183 (by kernel_rfl) ?hq183 ?hy183 (by assumption) ?rest183
            case hi183 => (simp only [List.getElem?_toArray, List.getElem?_cons_zero, List.getElem?_cons_succ] <;> exact rfl)
            case hf183 => kernel_rfl
            case hq183 => exact fun _ _ _ h => h
            case hy183 => exact Or.inl ⟨by rfl, by intro w hSw; (try dsimp only at hSw); go_simp; try with_reducible rfl⟩
            (try simp only [Act.put, List.setIfInBounds_toArray, List.set_cons_zero, List.set_cons_succ])
            refine wpAnyH_ready (rs := [21]) (by kernel_rfl) (by simp) ?_
            refine AllReadyH.cons (o := ?oos137x) ?his137x (fun K hK => ?sts137x) ?mores137x
            case his137x => (simp only [List.getElem?_toArray, List.getElem?_cons_zero, List.getElem?_cons_succ] <;> exact rfl)
            case mores137x => exact AllReadyH.nil
            go_simp
            refine hK.out _ _ ?hSs137x (fun hHeld => ?rests137x)
            case hSs137x => exact ⟨(DC.far (p := ⟨q, t * 3, none⟩) hdq _).cell 0, (DC.far (p := ⟨q, t * 3, none⟩) hdq _).cell 1⟩
            clear hK K
            (try simp only [Act.put, List.setIfInBounds_toArray, List.set_cons_zero, List.set_cons_succ])
            refine wpAnyH_done (by kernel_rfl) ?_ _
            go_wp2
            go_end0
            have KX := (Chg.refl [q] w').setCell (p := ⟨q, t * 3, none⟩) (by simp) (.slice (some ⟨g, 0, none⟩) (n + 1) c')
            have own2 := own'
            have hgq := own_ne own2 BC (by decide)
            have hsz := (KD.alloc (.cells #[.int .i64 a, .int .i64 b] 120)).size
            have hfr : ∀ g', (Value.slice (some ⟨g, 0, none⟩) (n + 1) c').ownBlock = some g' → w.heap.size ≤ g' := fun g' hg'' => by
              have e : g = g' := by simpa [Value.ownBlock] using hg''
              omega
            have hno : ∀ g', (Value.slice (some ⟨g, 0, none⟩) (n + 1) c').ownBlock = some g' → g' ∉ [q] := fun g' hg'' => by
              simp only [List.mem_singleton]
              intro e
              exact hgq (by rw [hg'', e])
            exact ⟨rfl, .slice (some ⟨g, 0, none⟩) (n + 1) c', BC.set_ (t * 3) _, (Sl.of_own own2).chg KX hno, hfr, ((KD.alloc _).trans k' (by simp)).setCell (.inl (by simp)) _⟩
          exact AllReadyH.nil
        refine AllReadyH.cons (o := ?oob138) ?hib138 (fun K hK => ?stb138) ?moreb138
        case hib138 => (simp only [List.getElem?_toArray, List.getElem?_cons_zero, List.getElem?_cons_succ] <;> exact rfl)
        case stb138 =>
          go_simp
          refine hK.out _ _ ?hSb138 (fun hHeld => ?restb138)
          case hSb138 => first | exact ⟨DD.cell 0, DD.cell 1⟩ | exact ⟨DA.cell 0, DA.cell 1⟩
          clear hK K
          (try simp only [Act.put, List.setIfInBounds_toArray, List.set_cons_zero, List.set_cons_succ])
          refine wpAnyH_ready (rs := [8]) (by kernel_rfl) (by simp) ?_
          refine AllReadyH.cons (o := ?oob139) ?hib139 (fun K hK => ?stb139) ?moreb139
          case hib139 => (simp only [List.getElem?_toArray, List.getElem?_cons_zero, List.getElem?_cons_succ] <;> exact rfl)
          case stb139 =>
            go_simp
            refine hK.out _ _ ?hSb139 (fun hHeld => ?restb139)
            case hSb139 => first | exact ⟨DD.cell 0, DD.cell 1⟩ | exact ⟨DA.cell 0, DA.cell 1⟩
            clear hK K
            (try simp only [Act.put, List.setIfInBounds_toArray, List.set_cons_zero, List.set_cons_succ])
            refine wpAnyH_take (i := 9) (oi := ?oo184) (v := ?vv184) ?hi184 (by kernel_rfl) ?hf184 (by kernel_rfl) ?hq184 ?hy184 (by assumption) ?rest184
            case hi184 => (simp only [List.getElem?_toArray, List.getElem?_cons_zero, List.getElem?_cons_succ] <;> exact rfl)
            case hf184 => kernel_rfl
            case hq184 => exact fun _ _ _ h => h
            case hy184 => exact Or.inl ⟨by rfl, by intro w hSw; (try dsimp only at hSw); go_simp; try with_reducible rfl⟩
            (try simp only [Act.put, List.setIfInBounds_toArray, List.set_cons_zero, List.set_cons_succ])
            refine wpAnyH_take (i := 15) (oi := ?oo185) (v := ?vv185) ?hi185 (by kernel_rfl) ?hf185 (by kernel_rfl) ?hq185 ?hy185 (by assumption) ?rest185
            case hi185 => (simp only [List.getElem?_toArray, List.getElem?_cons_zero, List.getElem?_cons_succ] <;> exact rfl)
            case hf185 => kernel_rfl
            case hq185 => exact fun _ _ _ h => h
            case hy185 => exact Or.inl ⟨by rfl, by intro w hSw; (try dsimp only at hSw); go_simp; try with_reducible rfl⟩
            (try simp only [Act.put, List.setIfInBounds_toArray, List.set_cons_zero, List.set_cons_succ])
            refine wpAnyH_ready (rs := [18]) (by kernel_rfl) (by simp) ?_
            refine AllReadyH.cons (o := ?oos140) ?his140 (fun K hK => ?sts140) ?mores140
            case his140 => (simp only [List.getElem?_toArray, List.getElem?_cons_zero, List.getElem?_cons_succ] <;> exact rfl)
            case mores140 => exact AllReadyH.nil
            refine step_fresh rfl (.tmp 19) (.tmp 21) 110 rfl 120 (.agg #[.int .i64 0, .int .i64 0]) 2 16 Try.underlying110 info_open rfl (by decide) (by decide) (some b') n n xs rfl (fun h => by cases h) hxl (fun b hb j u hj => by obtain rfl := Option.some.inj hb; rw [World.cell?_alloc_lt _ _ _ (by rw [block_of_add, ← hW2]; exact Nat.lt_of_lt_of_le (holds _ rfl).1 hsW)]; rw [← hW2]; exact hold _ rfl j u hj) ⟨W2.heap.size, 0, none⟩ 1 1 [.int .i64 a, .int .i64 b] rfl rfl (two_new W2 _ _ _ rfl) (by simp [Value.oneCell']) (by omega) (by omega) ?_
            intro g c' w' own' hg' k'
            have BC := BA.chg k' (by simp)
            have DC := DA.chg k' (by simp)
            have c3 := BC.cell (t * 3)
            have f3 := BC.frozen (t * 3)
            refine hK.out _ _ ?hSs140 (fun hHeld => ?rests140)
            case hSs140 => exact ⟨DC.cell 0, DC.cell 1⟩
            clear hK K
            (try simp only [Act.put, List.setIfInBounds_toArray, List.set_cons_zero, List.set_cons_succ])
            refine wpAnyH_take (i := 19) (oi := ?oo186) (v := ?vv186) ?hi186 (by kernel_rfl) ?hf186 (by kernel_rfl) ?hq186 ?hy186 (by assumption) ?rest186
            case hi186 => (simp only [List.getElem?_toArray, List.getElem?_cons_zero, List.getElem?_cons_succ] <;> exact rfl)
            case hf186 => kernel_rfl
            case hq186 => exact fun _ _ _ h => h
            case hy186 => exact Or.inl ⟨by rfl, by intro w hSw; (try dsimp only at hSw); go_simp; try with_reducible rfl⟩
            (try simp only [Act.put, List.setIfInBounds_toArray, List.set_cons_zero, List.set_cons_succ])
            refine wpAnyH_take (i := 20) (oi := ?oo187) (v := ?vv187) ?hi187 (by kernel_rfl) ?hf187 (by kernel_rfl) ?hq187 ?hy187 (by assumption) ?rest187
            case hi187 => (simp only [List.getElem?_toArray, List.getElem?_cons_zero, List.getElem?_cons_succ] <;> exact rfl)
            case hf187 => kernel_rfl
            case hq187 => exact fun _ _ _ h => h
            case hy187 => exact Or.inl ⟨by rfl, by intro w hSw; (try dsimp only at hSw); go_simp; try with_reducible rfl⟩
            (try simp only [Act.put, List.setIfInBounds_toArray, List.set_cons_zero, List.set_cons_succ])
            refine wpAnyH_ready (rs := [21]) (by kernel_rfl) (by simp) ?_
            refine AllReadyH.cons (o := ?oos140x) ?his140x (fun K hK => ?sts140x) ?mores140x
            case his140x => (simp only [List.getElem?_toArray, List.getElem?_cons_zero, List.getElem?_cons_succ] <;> exact rfl)
            case mores140x => exact AllReadyH.nil
            go_simp
            refine hK.out _ _ ?hSs140x (fun hHeld => ?rests140x)
            case hSs140x => exact ⟨(DC.far (p := ⟨q, t * 3, none⟩) hdq _).cell 0, (DC.far (p := ⟨q, t * 3, none⟩) hdq _).cell 1⟩
            clear hK K
            (try simp only [Act.put, List.setIfInBounds_toArray, List.set_cons_zero, List.set_cons_succ])
            refine wpAnyH_done (by kernel_rfl) ?_ _
            go_wp2
            go_end0
            have KX := (Chg.refl [q] w').setCell (p := ⟨q, t * 3, none⟩) (by simp) (.slice (some ⟨g, 0, none⟩) (n + 1) c')
            have own2 := own'
            have hgq := own_ne own2 BC (by decide)
            have hsz := (KD.alloc (.cells #[.int .i64 a, .int .i64 b] 120)).size
            have hfr : ∀ g', (Value.slice (some ⟨g, 0, none⟩) (n + 1) c').ownBlock = some g' → w.heap.size ≤ g' := fun g' hg'' => by
              have e : g = g' := by simpa [Value.ownBlock] using hg''
              omega
            have hno : ∀ g', (Value.slice (some ⟨g, 0, none⟩) (n + 1) c').ownBlock = some g' → g' ∉ [q] := fun g' hg'' => by
              simp only [List.mem_singleton]
              intro e
              exact hgq (by rw [hg'', e])
            exact ⟨rfl, .slice (some ⟨g, 0, none⟩) (n + 1) c', BC.set_ (t * 3) _, (Sl.of_own own2).chg KX hno, hfr, ((KD.alloc _).trans k' (by simp)).setCell (.inl (by simp)) _⟩
          exact AllReadyH.nil
        exact AllReadyH.nil
      refine AllReadyH.cons (o := ?oob141) ?hib141 (fun K hK => ?stb141) ?moreb141
      case hib141 => (simp only [List.getElem?_toArray, List.getElem?_cons_zero, List.getElem?_cons_succ] <;> exact rfl)
      case stb141 =>
        go_simp
        refine hK.out _ _ ?hSb141 (fun hHeld => ?restb141)
        case hSb141 => first | exact ⟨DD.cell 0, DD.cell 1⟩ | exact ⟨DA.cell 0, DA.cell 1⟩
        clear hK K
        (try simp only [Act.put, List.setIfInBounds_toArray, List.set_cons_zero, List.set_cons_succ])
        refine wpAnyH_take (i := 9) (oi := ?oo188) (v := ?vv188) ?hi188 (by kernel_rfl) ?hf188 (by kernel_rfl) ?hq188 ?hy188 (by assumption) ?rest188
        case hi188 => (simp only [List.getElem?_toArray, List.getElem?_cons_zero, List.getElem?_cons_succ] <;> exact rfl)
        case hf188 => kernel_rfl
        case hq188 => exact fun _ _ _ h => h
        case hy188 => exact Or.inl ⟨by rfl, by intro w hSw; (try dsimp only at hSw); go_simp; try with_reducible rfl⟩
        (try simp only [Act.put, List.setIfInBounds_toArray, List.set_cons_zero, List.set_cons_succ])
        refine wpAnyH_ready (rs := [4, 17]) (by kernel_rfl) (by simp) ?_
        refine AllReadyH.cons (o := ?oob142) ?hib142 (fun K hK => ?stb142) ?moreb142
        case hib142 => (simp only [List.getElem?_toArray, List.getElem?_cons_zero, List.getElem?_cons_succ] <;> exact rfl)
        case stb142 =>
          go_simp
          refine hK.out _ _ ?hSb142 (fun hHeld => ?restb142)
          case hSb142 => first | exact ⟨DD.cell 0, DD.cell 1⟩ | exact ⟨DA.cell 0, DA.cell 1⟩
          clear hK K
          (try simp only [Act.put, List.setIfInBounds_toArray, List.set_cons_zero, List.set_cons_succ])
          refine wpAnyH_take (i := 15) (oi := ?oo189) (v := ?vv189) ?hi189 (by kernel_rfl) ?hf189 (by kernel_rfl) ?hq189 ?hy189 (by assumption) ?rest189
          case hi189 => (simp only [List.getElem?_toArray, List.getElem?_cons_zero, List.getElem?_cons_succ] <;> exact rfl)
          case hf189 => kernel_rfl
          case hq189 => exact fun _ _ _ h => h
          case hy189 => exact Or.inl ⟨by rfl, by intro w hSw; (try dsimp only at hSw); go_simp; try with_reducible rfl⟩
          (try simp only [Act.put, List.setIfInBounds_toArray, List.set_cons_zero, List.set_cons_succ])
          refine wpAnyH_ready (rs := [17]) (by kernel_rfl) (by simp) ?_
          refine AllReadyH.cons (o := ?oob143) ?hib143 (fun K hK => ?stb143) ?moreb143
          case hib143 => (simp only [List.getElem?_toArray, List.getElem?_cons_zero, List.getElem?_cons_succ] <;> exact rfl)
          case stb143 =>
            go_simp
            refine hK.out _ _ ?hSb143 (fun hHeld => ?restb143)
            case hSb143 => first | exact ⟨DD.cell 0, DD.cell 1⟩ | exact ⟨DA.cell 0, DA.cell 1⟩
            clear hK K
            (try simp only [Act.put, List.setIfInBounds_toArray, List.set_cons_zero, List.set_cons_succ])
            refine wpAnyH_ready (rs := [18]) (by kernel_rfl) (by simp) ?_
            refine AllReadyH.cons (o := ?oos144) ?his144 (fun K hK => ?sts144) ?mores144
            case his144 => (simp only [List.getElem?_toArray, List.getElem?_cons_zero, List.getElem?_cons_succ] <;> exact rfl)
            case mores144 => exact AllReadyH.nil
            refine step_fresh rfl (.tmp 19) (.tmp 21) 110 rfl 120 (.agg #[.int .i64 0, .int .i64 0]) 2 16 Try.underlying110 info_open rfl (by decide) (by decide) (some b') n n xs rfl (fun h => by cases h) hxl (fun b hb j u hj => by obtain rfl := Option.some.inj hb; rw [World.cell?_alloc_lt _ _ _ (by rw [block_of_add, ← hW2]; exact Nat.lt_of_lt_of_le (holds _ rfl).1 hsW)]; rw [← hW2]; exact hold _ rfl j u hj) ⟨W2.heap.size, 0, none⟩ 1 1 [.int .i64 a, .int .i64 b] rfl rfl (two_new W2 _ _ _ rfl) (by simp [Value.oneCell']) (by omega) (by omega) ?_
            intro g c' w' own' hg' k'
            have BC := BA.chg k' (by simp)
            have DC := DA.chg k' (by simp)
            have c3 := BC.cell (t * 3)
            have f3 := BC.frozen (t * 3)
            refine hK.out _ _ ?hSs144 (fun hHeld => ?rests144)
            case hSs144 => exact ⟨DC.cell 0, DC.cell 1⟩
            clear hK K
            (try simp only [Act.put, List.setIfInBounds_toArray, List.set_cons_zero, List.set_cons_succ])
            refine wpAnyH_take (i := 19) (oi := ?oo190) (v := ?vv190) ?hi190 (by kernel_rfl) ?hf190 (by kernel_rfl) ?hq190 ?hy190 (by assumption) ?rest190
            case hi190 => (simp only [List.getElem?_toArray, List.getElem?_cons_zero, List.getElem?_cons_succ] <;> exact rfl)
            case hf190 => kernel_rfl
            case hq190 => exact fun _ _ _ h => h
            case hy190 => exact Or.inl ⟨by rfl, by intro w hSw; (try dsimp only at hSw); go_simp; try with_reducible rfl⟩
            (try simp only [Act.put, List.setIfInBounds_toArray, List.set_cons_zero, List.set_cons_succ])
            refine wpAnyH_take (i := 20) (oi := ?oo191) (v := ?vv191) ?hi191 (by kernel_rfl) ?hf191 (by kernel_rfl) ?hq191 ?hy191 (by assumption) ?rest191
            case hi191 => (simp only [List.getElem?_toArray, List.getElem?_cons_zero, List.getElem?_cons_succ] <;> exact rfl)
            case hf191 => kernel_rfl
            case hq191 => exact fun _ _ _ h => h
            case hy191 => exact Or.inl ⟨by rfl, by intro w hSw; (try dsimp only at hSw); go_simp; try with_reducible rfl⟩
            (try simp only [Act.put, List.setIfInBounds_toArray, List.set_cons_zero, List.set_cons_succ])
            refine wpAnyH_ready (rs := [21]) (by kernel_rfl) (by simp) ?_
            refine AllReadyH.cons (o := ?oos144x) ?his144x (fun K hK => ?sts144x) ?mores144x
            case his144x => (simp only [List.getElem?_toArray, List.getElem?_cons_zero, List.getElem?_cons_succ] <;> exact rfl)
            case mores144x => exact AllReadyH.nil
            go_simp
            refine hK.out _ _ ?hSs144x (fun hHeld => ?rests144x)
            case hSs144x => exact ⟨(DC.far (p := ⟨q, t * 3, none⟩) hdq _).cell 0, (DC.far (p := ⟨q, t * 3, none⟩) hdq _).cell 1⟩
            clear hK K
            (try simp only [Act.put, List.setIfInBounds_toArray, List.set_cons_zero, List.set_cons_succ])
            refine wpAnyH_done (by kernel_rfl) ?_ _
            go_wp2
            go_end0
            have KX := (Chg.refl [q] w').setCell (p := ⟨q, t * 3, none⟩) (by simp) (.slice (some ⟨g, 0, none⟩) (n + 1) c')
            have own2 := own'
            have hgq := own_ne own2 BC (by decide)
            have hsz := (KD.alloc (.cells #[.int .i64 a, .int .i64 b] 120)).size
            have hfr : ∀ g', (Value.slice (some ⟨g, 0, none⟩) (n + 1) c').ownBlock = some g' → w.heap.size ≤ g' := fun g' hg'' => by
              have e : g = g' := by simpa [Value.ownBlock] using hg''
              omega
            have hno : ∀ g', (Value.slice (some ⟨g, 0, none⟩) (n + 1) c').ownBlock = some g' → g' ∉ [q] := fun g' hg'' => by
              simp only [List.mem_singleton]
              intro e
              exact hgq (by rw [hg'', e])
            exact ⟨rfl, .slice (some ⟨g, 0, none⟩) (n + 1) c', BC.set_ (t * 3) _, (Sl.of_own own2).chg KX hno, hfr, ((KD.alloc _).trans k' (by simp)).setCell (.inl (by simp)) _⟩
          exact AllReadyH.nil
        refine AllReadyH.cons (o := ?oob145) ?hib145 (fun K hK => ?stb145) ?moreb145
        case hib145 => (simp only [List.getElem?_toArray, List.getElem?_cons_zero, List.getElem?_cons_succ] <;> exact rfl)
        case stb145 =>
          go_simp
          refine hK.out _ _ ?hSb145 (fun hHeld => ?restb145)
          case hSb145 => first | exact ⟨DD.cell 0, DD.cell 1⟩ | exact ⟨DA.cell 0, DA.cell 1⟩
          clear hK K
          (try simp only [Act.put, List.setIfInBounds_toArray, List.set_cons_zero, List.set_cons_succ])
          refine wpAnyH_ready (rs := [4]) (by kernel_rfl) (by simp) ?_
          refine AllReadyH.cons (o := ?oob146) ?hib146 (fun K hK => ?stb146) ?moreb146
          case hib146 => (simp only [List.getElem?_toArray, List.getElem?_cons_zero, List.getElem?_cons_succ] <;> exact rfl)
          case stb146 =>
            go_simp
            refine hK.out _ _ ?hSb146 (fun hHeld => ?restb146)
            case hSb146 => first | exact ⟨DD.cell 0, DD.cell 1⟩ | exact ⟨DA.cell 0, DA.cell 1⟩
            clear hK K
            (try simp only [Act.put, List.setIfInBounds_toArray, List.set_cons_zero, List.set_cons_succ])
            refine wpAnyH_take (i := 15) (oi := ?oo192) (v := ?vv192) ?hi192 (by kernel_rfl) ?hf192 (by kernel_rfl) ?hq192 ?hy192 (by assumption) ?rest192
            case hi192 => (simp only [List.getElem?_toArray, List.getElem?_cons_zero, List.getElem?_cons_succ] <;> exact rfl)
            case hf192 => kernel_rfl
            case hq192 => exact fun _ _ _ h => h
            case hy192 => exact Or.inl ⟨by rfl, by intro w hSw; (try dsimp only at hSw); go_simp; try with_reducible rfl⟩
            (try simp only [Act.put, List.setIfInBounds_toArray, List.set_cons_zero, List.set_cons_succ])
            refine wpAnyH_ready (rs := [18]) (by kernel_rfl) (by simp) ?_
            refine AllReadyH.cons (o := ?oos147) ?his147 (fun K hK => ?sts147) ?mores147
            case his147 => (simp only [List.getElem?_toArray, List.getElem?_cons_zero, List.getElem?_cons_succ] <;> exact rfl)
            case mores147 => exact AllReadyH.nil
            refine step_fresh rfl (.tmp 19) (.tmp 21) 110 rfl 120 (.agg #[.int .i64 0, .int .i64 0]) 2 16 Try.underlying110 info_open rfl (by decide) (by decide) (some b') n n xs rfl (fun h => by cases h) hxl (fun b hb j u hj => by obtain rfl := Option.some.inj hb; rw [World.cell?_alloc_lt _ _ _ (by rw [block_of_add, ← hW2]; exact Nat.lt_of_lt_of_le (holds _ rfl).1 hsW)]; rw [← hW2]; exact hold _ rfl j u hj) ⟨W2.heap.size, 0, none⟩ 1 1 [.int .i64 a, .int .i64 b] rfl rfl (two_new W2 _ _ _ rfl) (by simp [Value.oneCell']) (by omega) (by omega) ?_
            intro g c' w' own' hg' k'
            have BC := BA.chg k' (by simp)
            have DC := DA.chg k' (by simp)
            have c3 := BC.cell (t * 3)
            have f3 := BC.frozen (t * 3)
            refine hK.out _ _ ?hSs147 (fun hHeld => ?rests147)
            case hSs147 => exact ⟨DC.cell 0, DC.cell 1⟩
            clear hK K
            (try simp only [Act.put, List.setIfInBounds_toArray, List.set_cons_zero, List.set_cons_succ])
            refine wpAnyH_take (i := 19) (oi := ?oo193) (v := ?vv193) ?hi193 (by kernel_rfl) ?hf193 (by kernel_rfl) ?hq193 ?hy193 (by assumption) ?rest193
            case hi193 => (simp only [List.getElem?_toArray, List.getElem?_cons_zero, List.getElem?_cons_succ] <;> exact rfl)
            case hf193 => kernel_rfl
            case hq193 => exact fun _ _ _ h => h
            case hy193 => exact Or.inl ⟨by rfl, by intro w hSw; (try dsimp only at hSw); go_simp; try with_reducible rfl⟩
            (try simp only [Act.put, List.setIfInBounds_toArray, List.set_cons_zero, List.set_cons_succ])
            refine wpAnyH_take (i := 20) (oi := ?oo194) (v := ?vv194) ?hi194 (by kernel_rfl) ?hf194 (by kernel_rfl) ?hq194 ?hy194 (by assumption) ?rest194
            case hi194 => (simp only [List.getElem?_toArray, List.getElem?_cons_zero, List.getElem?_cons_succ] <;> exact rfl)
            case hf194 => kernel_rfl
            case hq194 => exact fun _ _ _ h => h
            case hy194 => exact Or.inl ⟨by rfl, by intro w hSw; (try dsimp only at hSw); go_simp; try with_reducible rfl⟩
            (try simp only [Act.put, List.setIfInBounds_toArray, List.set_cons_zero, List.set_cons_succ])
            refine wpAnyH_ready (rs := [21]) (by kernel_rfl) (by simp) ?_
            refine AllReadyH.cons (o := ?oos147x) ?his147x (fun K hK => ?sts147x) ?mores147x
            case his147x => (simp only [List.getElem?_toArray, List.getElem?_cons_zero, List.getElem?_cons_succ] <;> exact rfl)
            case mores147x => exact AllReadyH.nil
            go_simp
            refine hK.out _ _ ?hSs147x (fun hHeld => ?rests147x)
            case hSs147x => exact ⟨(DC.far (p := ⟨q, t * 3, none⟩) hdq _).cell 0, (DC.far (p := ⟨q, t * 3, none⟩) hdq _).cell 1⟩
            clear hK K
            (try simp only [Act.put, List.setIfInBounds_toArray, List.set_cons_zero, List.set_cons_succ])
            refine wpAnyH_done (by kernel_rfl) ?_ _
            go_wp2
            go_end0
            have KX := (Chg.refl [q] w').setCell (p := ⟨q, t * 3, none⟩) (by simp) (.slice (some ⟨g, 0, none⟩) (n + 1) c')
            have own2 := own'
            have hgq := own_ne own2 BC (by decide)
            have hsz := (KD.alloc (.cells #[.int .i64 a, .int .i64 b] 120)).size
            have hfr : ∀ g', (Value.slice (some ⟨g, 0, none⟩) (n + 1) c').ownBlock = some g' → w.heap.size ≤ g' := fun g' hg'' => by
              have e : g = g' := by simpa [Value.ownBlock] using hg''
              omega
            have hno : ∀ g', (Value.slice (some ⟨g, 0, none⟩) (n + 1) c').ownBlock = some g' → g' ∉ [q] := fun g' hg'' => by
              simp only [List.mem_singleton]
              intro e
              exact hgq (by rw [hg'', e])
            exact ⟨rfl, .slice (some ⟨g, 0, none⟩) (n + 1) c', BC.set_ (t * 3) _, (Sl.of_own own2).chg KX hno, hfr, ((KD.alloc _).trans k' (by simp)).setCell (.inl (by simp)) _⟩
          exact AllReadyH.nil
        exact AllReadyH.nil
      refine AllReadyH.cons (o := ?oob148) ?hib148 (fun K hK => ?stb148) ?moreb148
      case hib148 => (simp only [List.getElem?_toArray, List.getElem?_cons_zero, List.getElem?_cons_succ] <;> exact rfl)
      case stb148 =>
        go_simp
        refine hK.out _ _ ?hSb148 (fun hHeld => ?restb148)
        case hSb148 => first | exact ⟨DD.cell 0, DD.cell 1⟩ | exact ⟨DA.cell 0, DA.cell 1⟩
        clear hK K
        (try simp only [Act.put, List.setIfInBounds_toArray, List.set_cons_zero, List.set_cons_succ])
        refine wpAnyH_ready (rs := [4, 8]) (by kernel_rfl) (by simp) ?_
        refine AllReadyH.cons (o := ?oob149) ?hib149 (fun K hK => ?stb149) ?moreb149
        case hib149 => (simp only [List.getElem?_toArray, List.getElem?_cons_zero, List.getElem?_cons_succ] <;> exact rfl)
        case stb149 =>
          go_simp
          refine hK.out _ _ ?hSb149 (fun hHeld => ?restb149)
          case hSb149 => first | exact ⟨DD.cell 0, DD.cell 1⟩ | exact ⟨DA.cell 0, DA.cell 1⟩
          clear hK K
          (try simp only [Act.put, List.setIfInBounds_toArray, List.set_cons_zero, List.set_cons_succ])
          refine wpAnyH_ready (rs := [8]) (by kernel_rfl) (by simp) ?_
          refine AllReadyH.cons (o := ?oob150) ?hib150 (fun K hK => ?stb150) ?moreb150
          case hib150 => (simp only [List.getElem?_toArray, List.getElem?_cons_zero, List.getElem?_cons_succ] <;> exact rfl)
          case stb150 =>
            go_simp
            refine hK.out _ _ ?hSb150 (fun hHeld => ?restb150)
            case hSb150 => first | exact ⟨DD.cell 0, DD.cell 1⟩ | exact ⟨DA.cell 0, DA.cell 1⟩
            clear hK K
            (try simp only [Act.put, List.setIfInBounds_toArray, List.set_cons_zero, List.set_cons_succ])
            refine wpAnyH_take (i := 9) (oi := ?oo195) (v := ?vv195) ?hi195 (by kernel_rfl) ?hf195 (by kernel_rfl) ?hq195 ?hy195 (by assumption) ?rest195
            case hi195 => (simp only [List.getElem?_toArray, List.getElem?_cons_zero, List.getElem?_cons_succ] <;> exact rfl)
            case hf195 => kernel_rfl
            case hq195 => exact fun _ _ _ h => h
            case hy195 => exact Or.inl ⟨by rfl, by intro w hSw; (try dsimp only at hSw); go_simp; try with_reducible rfl⟩
            (try simp only [Act.put, List.setIfInBounds_toArray, List.set_cons_zero, List.set_cons_succ])
            refine wpAnyH_take (i := 15) (oi := ?oo196) (v := ?vv196) ?hi196 (by kernel_rfl) ?hf196 (by kernel_rfl) ?hq196 ?hy196 (by assumption) ?rest196
            case hi196 => (simp only [List.getElem?_toArray, List.getElem?_cons_zero, List.getElem?_cons_succ] <;> exact rfl)
            case hf196 => kernel_rfl
            case hq196 => exact fun _ _ _ h => h
            case hy196 => exact Or.inl ⟨by rfl, by intro w hSw; (try dsimp only at hSw); go_simp; try with_reducible rfl⟩
            (try simp only [Act.put, List.setIfInBounds_toArray, List.set_cons_zero, List.set_cons_succ])
            refine wpAnyH_ready (rs := [18]) (by kernel_rfl) (by simp) ?_
            refine AllReadyH.cons (o := ?oos151) ?his151 (fun K hK => ?sts151) ?mores151
            case his151 => (simp only [List.getElem?_toArray, List.getElem?_cons_zero, List.getElem?_cons_succ] <;> exact rfl)
            case mores151 => exact AllReadyH.nil
            refine step_fresh rfl (.tmp 19) (.tmp 21) 110 rfl 120 (.agg #[.int .i64 0, .int .i64 0]) 2 16 Try.underlying110 info_open rfl (by decide) (by decide) (some b') n n xs rfl (fun h => by cases h) hxl (fun b hb j u hj => by obtain rfl := Option.some.inj hb; rw [World.cell?_alloc_lt _ _ _ (by rw [block_of_add, ← hW2]; exact Nat.lt_of_lt_of_le (holds _ rfl).1 hsW)]; rw [← hW2]; exact hold _ rfl j u hj) ⟨W2.heap.size, 0, none⟩ 1 1 [.int .i64 a, .int .i64 b] rfl rfl (two_new W2 _ _ _ rfl) (by simp [Value.oneCell']) (by omega) (by omega) ?_
            intro g c' w' own' hg' k'
            have BC := BA.chg k' (by simp)
            have DC := DA.chg k' (by simp)
            have c3 := BC.cell (t * 3)
            have f3 := BC.frozen (t * 3)
            refine hK.out _ _ ?hSs151 (fun hHeld => ?rests151)
            case hSs151 => exact ⟨DC.cell 0, DC.cell 1⟩
            clear hK K
            (try simp only [Act.put, List.setIfInBounds_toArray, List.set_cons_zero, List.set_cons_succ])
            refine wpAnyH_take (i := 19) (oi := ?oo197) (v := ?vv197) ?hi197 (by kernel_rfl) ?hf197 (by kernel_rfl) ?hq197 ?hy197 (by assumption) ?rest197
            case hi197 => (simp only [List.getElem?_toArray, List.getElem?_cons_zero, List.getElem?_cons_succ] <;> exact rfl)
            case hf197 => kernel_rfl
            case hq197 => exact fun _ _ _ h => h
            case hy197 => exact Or.inl ⟨by rfl, by intro w hSw; (try dsimp only at hSw); go_simp; try with_reducible rfl⟩
            (try simp only [Act.put, List.setIfInBounds_toArray, List.set_cons_zero, List.set_cons_succ])
            refine wpAnyH_take (i := 20) (oi := ?oo198) (v := ?vv198) ?hi198 (by kernel_rfl) ?hf198 (by kernel_rfl) ?hq198 ?hy198 (by assumption) ?rest198
            case hi198 => (simp only [List.getElem?_toArray, List.getElem?_cons_zero, List.getElem?_cons_succ] <;> exact rfl)
            case hf198 => kernel_rfl
            case hq198 => exact fun _ _ _ h => h
            case hy198 => exact Or.inl ⟨by rfl, by intro w hSw; (try dsimp only at hSw); go_simp; try with_reducible rfl⟩
            (try simp only [Act.put, List.setIfInBounds_toArray, List.set_cons_zero, List.set_cons_succ])
            refine wpAnyH_ready (rs := [21]) (by kernel_rfl) (by simp) ?_
            refine AllReadyH.cons (o := ?oos151x) ?his151x (fun K hK => ?sts151x) ?mores151x
            case his151x => (simp only [List.getElem?_toArray, List.getElem?_cons_zero, List.getElem?_cons_succ] <;> exact rfl)
            case mores151x => exact AllReadyH.nil
            go_simp
            refine hK.out _ _ ?hSs151x (fun hHeld => ?rests151x)
            case hSs151x => exact ⟨(DC.far (p := ⟨q, t * 3, none⟩) hdq _).cell 0, (DC.far (p := ⟨q, t * 3, none⟩) hdq _).cell 1⟩
            clear hK K
            (try simp only [Act.put, List.setIfInBounds_toArray, List.set_cons_zero, List.set_cons_succ])
            refine wpAnyH_done (by kernel_rfl) ?_ _
            go_wp2
            go_end0
            have KX := (Chg.refl [q] w').setCell (p := ⟨q, t * 3, none⟩) (by simp) (.slice (some ⟨g, 0, none⟩) (n + 1) c')
            have own2 := own'
            have hgq := own_ne own2 BC (by decide)
            have hsz := (KD.alloc (.cells #[.int .i64 a, .int .i64 b] 120)).size
            have hfr : ∀ g', (Value.slice (some ⟨g, 0, none⟩) (n + 1) c').ownBlock = some g' → w.heap.size ≤ g' := fun g' hg'' => by
              have e : g = g' := by simpa [Value.ownBlock] using hg''
              omega
            have hno : ∀ g', (Value.slice (some ⟨g, 0, none⟩) (n + 1) c').ownBlock = some g' → g' ∉ [q] := fun g' hg'' => by
              simp only [List.mem_singleton]
              intro e
              exact hgq (by rw [hg'', e])
            exact ⟨rfl, .slice (some ⟨g, 0, none⟩) (n + 1) c', BC.set_ (t * 3) _, (Sl.of_own own2).chg KX hno, hfr, ((KD.alloc _).trans k' (by simp)).setCell (.inl (by simp)) _⟩
          exact AllReadyH.nil
        refine AllReadyH.cons (o := ?oob152) ?hib152 (fun K hK => ?stb152) ?moreb152
        case hib152 => (simp only [List.getElem?_toArray, List.getElem?_cons_zero, List.getElem?_cons_succ] <;> exact rfl)
        case stb152 =>
          go_simp
          refine hK.out _ _ ?hSb152 (fun hHeld => ?restb152)
          case hSb152 => first | exact ⟨DD.cell 0, DD.cell 1⟩ | exact ⟨DA.cell 0, DA.cell 1⟩
          clear hK K
          (try simp only [Act.put, List.setIfInBounds_toArray, List.set_cons_zero, List.set_cons_succ])
          refine wpAnyH_take (i := 9) (oi := ?oo199) (v := ?vv199) ?hi199 (by kernel_rfl) ?hf199 (by kernel_rfl) ?hq199 ?hy199 (by assumption) ?rest199
          case hi199 => (simp only [List.getElem?_toArray, List.getElem?_cons_zero, List.getElem?_cons_succ] <;> exact rfl)
          case hf199 => kernel_rfl
          case hq199 => exact fun _ _ _ h => h
          case hy199 => exact Or.inl ⟨by rfl, by intro w hSw; (try dsimp only at hSw); go_simp; try with_reducible rfl⟩
          (try simp only [Act.put, List.setIfInBounds_toArray, List.set_cons_zero, List.set_cons_succ])
          refine wpAnyH_ready (rs := [4]) (by kernel_rfl) (by simp) ?_
          refine AllReadyH.cons (o := ?oob153) ?hib153 (fun K hK => ?stb153) ?moreb153
          case hib153 => (simp only [List.getElem?_toArray, List.getElem?_cons_zero, List.getElem?_cons_succ] <;> exact rfl)
          case stb153 =>
            go_simp
            refine hK.out _ _ ?hSb153 (fun hHeld => ?restb153)
            case hSb153 => first | exact ⟨DD.cell 0, DD.cell 1⟩ | exact ⟨DA.cell 0, DA.cell 1⟩
            clear hK K
            (try simp only [Act.put, List.setIfInBounds_toArray, List.set_cons_zero, List.set_cons_succ])
            refine wpAnyH_take (i := 15) (oi := ?oo200) (v := ?vv200) ?hi200 (by kernel_rfl) ?hf200 (by kernel_rfl) ?hq200 ?hy200 (by assumption) ?rest200
            case hi200 => (simp only [List.getElem?_toArray, List.getElem?_cons_zero, List.getElem?_cons_succ] <;> exact rfl)
            case hf200 => kernel_rfl
            case hq200 => exact fun _ _ _ h => h
            case hy200 => exact Or.inl ⟨by rfl, by intro w hSw; (try dsimp only at hSw); go_simp; try with_reducible rfl⟩
            (try simp only [Act.put, List.setIfInBounds_toArray, List.set_cons_zero, List.set_cons_succ])
            refine wpAnyH_ready (rs := [18]) (by kernel_rfl) (by simp) ?_
            refine AllReadyH.cons (o := ?oos154) ?his154 (fun K hK => ?sts154) ?mores154
            case his154 => (simp only [List.getElem?_toArray, List.getElem?_cons_zero, List.getElem?_cons_succ] <;> exact rfl)
            case mores154 => exact AllReadyH.nil
            refine step_fresh rfl (.tmp 19) (.tmp 21) 110 rfl 120 (.agg #[.int .i64 0, .int .i64 0]) 2 16 Try.underlying110 info_open rfl (by decide) (by decide) (some b') n n xs rfl (fun h => by cases h) hxl (fun b hb j u hj => by obtain rfl := Option.some.inj hb; rw [World.cell?_alloc_lt _ _ _ (by rw [block_of_add, ← hW2]; exact Nat.lt_of_lt_of_le (holds _ rfl).1 hsW)]; rw [← hW2]; exact hold _ rfl j u hj) ⟨W2.heap.size, 0, none⟩ 1 1 [.int .i64 a, .int .i64 b] rfl rfl (two_new W2 _ _ _ rfl) (by simp [Value.oneCell']) (by omega) (by omega) ?_
            intro g c' w' own' hg' k'
            have BC := BA.chg k' (by simp)
            have DC := DA.chg k' (by simp)
            have c3 := BC.cell (t * 3)
            have f3 := BC.frozen (t * 3)
            refine hK.out _ _ ?hSs154 (fun hHeld => ?rests154)
            case hSs154 => exact ⟨DC.cell 0, DC.cell 1⟩
            clear hK K
            (try simp only [Act.put, List.setIfInBounds_toArray, List.set_cons_zero, List.set_cons_succ])
            refine wpAnyH_take (i := 19) (oi := ?oo201) (v := ?vv201) ?hi201 (by kernel_rfl) ?hf201 (by kernel_rfl) ?hq201 ?hy201 (by assumption) ?rest201
            case hi201 => (simp only [List.getElem?_toArray, List.getElem?_cons_zero, List.getElem?_cons_succ] <;> exact rfl)
            case hf201 => kernel_rfl
            case hq201 => exact fun _ _ _ h => h
            case hy201 => exact Or.inl ⟨by rfl, by intro w hSw; (try dsimp only at hSw); go_simp; try with_reducible rfl⟩
            (try simp only [Act.put, List.setIfInBounds_toArray, List.set_cons_zero, List.set_cons_succ])
            refine wpAnyH_take (i := 20) (oi := ?oo202) (v := ?vv202) ?hi202 (by kernel_rfl) ?hf202 (by kernel_rfl) ?hq202 ?hy202 (by assumption) ?rest202
            case hi202 => (simp only [List.getElem?_toArray, List.getElem?_cons_zero, List.getElem?_cons_succ] <;> exact rfl)
            case hf202 => kernel_rfl
            case hq202 => exact fun _ _ _ h => h
            case hy202 => exact Or.inl ⟨by rfl, by intro w hSw; (try dsimp only at hSw); go_simp; try with_reducible rfl⟩
            (try simp only [Act.put, List.setIfInBounds_toArray, List.set_cons_zero, List.set_cons_succ])
            refine wpAnyH_ready (rs := [21]) (by kernel_rfl) (by simp) ?_
            refine AllReadyH.cons (o := ?oos154x) ?his154x (fun K hK => ?sts154x) ?mores154x
            case his154x => (simp only [List.getElem?_toArray, List.getElem?_cons_zero, List.getElem?_cons_succ] <;> exact rfl)
            case mores154x => exact AllReadyH.nil
            go_simp
            refine hK.out _ _ ?hSs154x (fun hHeld => ?rests154x)
            case hSs154x => exact ⟨(DC.far (p := ⟨q, t * 3, none⟩) hdq _).cell 0, (DC.far (p := ⟨q, t * 3, none⟩) hdq _).cell 1⟩
            clear hK K
            (try simp only [Act.put, List.setIfInBounds_toArray, List.set_cons_zero, List.set_cons_succ])
            refine wpAnyH_done (by kernel_rfl) ?_ _
            go_wp2
            go_end0
            have KX := (Chg.refl [q] w').setCell (p := ⟨q, t * 3, none⟩) (by simp) (.slice (some ⟨g, 0, none⟩) (n + 1) c')
            have own2 := own'
            have hgq := own_ne own2 BC (by decide)
            have hsz := (KD.alloc (.cells #[.int .i64 a, .int .i64 b] 120)).size
            have hfr : ∀ g', (Value.slice (some ⟨g, 0, none⟩) (n + 1) c').ownBlock = some g' → w.heap.size ≤ g' := fun g' hg'' => by
              have e : g = g' := by simpa [Value.ownBlock] using hg''
              omega
            have hno : ∀ g', (Value.slice (some ⟨g, 0, none⟩) (n + 1) c').ownBlock = some g' → g' ∉ [q] := fun g' hg'' => by
              simp only [List.mem_singleton]
              intro e
              exact hgq (by rw [hg'', e])
            exact ⟨rfl, .slice (some ⟨g, 0, none⟩) (n + 1) c', BC.set_ (t * 3) _, (Sl.of_own own2).chg KX hno, hfr, ((KD.alloc _).trans k' (by simp)).setCell (.inl (by simp)) _⟩
          exact AllReadyH.nil
        exact AllReadyH.nil
      exact AllReadyH.nil
    refine AllReadyH.cons (o := ?oob155) ?hib155 (fun K hK => ?stb155) ?moreb155
    case hib155 => (simp only [List.getElem?_toArray, List.getElem?_cons_zero, List.getElem?_cons_succ] <;> exact rfl)
    case stb155 =>
      go_simp
      refine hK.out _ _ ?hSb155 (fun hHeld => ?restb155)
      case hSb155 => first | exact ⟨DD.cell 0, DD.cell 1⟩ | exact ⟨DA.cell 0, DA.cell 1⟩
      clear hK K
      (try simp only [Act.put, List.setIfInBounds_toArray, List.set_cons_zero, List.set_cons_succ])
      refine wpAnyH_ready (rs := [4, 8, 13]) (by kernel_rfl) (by simp) ?_
      refine AllReadyH.cons (o := ?oob156) ?hib156 (fun K hK => ?stb156) ?moreb156
      case hib156 => (simp only [List.getElem?_toArray, List.getElem?_cons_zero, List.getElem?_cons_succ] <;> exact rfl)
      case stb156 =>
        go_simp
        refine hK.out _ _ ?hSb156 (fun hHeld => ?restb156)
        case hSb156 => first | exact ⟨DD.cell 0, DD.cell 1⟩ | exact ⟨DA.cell 0, DA.cell 1⟩
        clear hK K
        (try simp only [Act.put, List.setIfInBounds_toArray, List.set_cons_zero, List.set_cons_succ])
        refine wpAnyH_ready (rs := [8, 13]) (by kernel_rfl) (by simp) ?_
        refine AllReadyH.cons (o := ?oob157) ?hib157 (fun K hK => ?stb157) ?moreb157
        case hib157 => (simp only [List.getElem?_toArray, List.getElem?_cons_zero, List.getElem?_cons_succ] <;> exact rfl)
        case stb157 =>
          go_simp
          refine hK.out _ _ ?hSb157 (fun hHeld => ?restb157)
          case hSb157 => first | exact ⟨DD.cell 0, DD.cell 1⟩ | exact ⟨DA.cell 0, DA.cell 1⟩
          clear hK K
          (try simp only [Act.put, List.setIfInBounds_toArray, List.set_cons_zero, List.set_cons_succ])
          refine wpAnyH_take (i := 9) (oi := ?oo203) (v := ?vv203) ?hi203 (by kernel_rfl) ?hf203 (by kernel_rfl) ?hq203 ?hy203 (by assumption) ?rest203
          case hi203 => (simp only [List.getElem?_toArray, List.getElem?_cons_zero, List.getElem?_cons_succ] <;> exact rfl)
          case hf203 => kernel_rfl
          case hq203 => exact fun _ _ _ h => h
          case hy203 => exact Or.inl ⟨by rfl, by intro w hSw; (try dsimp only at hSw); go_simp; try with_reducible rfl⟩
          (try simp only [Act.put, List.setIfInBounds_toArray, List.set_cons_zero, List.set_cons_succ])
          refine wpAnyH_ready (rs := [13]) (by kernel_rfl) (by simp) ?_
          refine AllReadyH.cons (o := ?oob158) ?hib158 (fun K hK => ?stb158) ?moreb158
          case hib158 => (simp only [List.getElem?_toArray, List.getElem?_cons_zero, List.getElem?_cons_succ] <;> exact rfl)
          case stb158 =>
            go_simp
            refine hK.out _ _ ?hSb158 (fun hHeld => ?restb158)
            case hSb158 => first | exact ⟨DD.cell 0, DD.cell 1⟩ | exact ⟨DA.cell 0, DA.cell 1⟩
            clear hK K
            (try simp only [Act.put, List.setIfInBounds_toArray, List.set_cons_zero, List.set_cons_succ])
            refine wpAnyH_take (i := 14) (oi := ?oo204) (v := ?vv204) ?hi204 (by kernel_rfl) ?hf204 (by kernel_rfl) ?hq204 ?hy204 (by assumption) ?rest204
            case hi204 => (simp only [List.getElem?_toArray, List.getElem?_cons_zero, List.getElem?_cons_succ] <;> exact rfl)
            case hf204 => kernel_rfl
            case hq204 => exact fun _ _ _ h => h
            case hy204 => exact Or.inl ⟨by rfl, by intro w hSw; (try dsimp only at hSw); go_simp; try with_reducible rfl⟩
            (try simp only [Act.put, List.setIfInBounds_toArray, List.set_cons_zero, List.set_cons_succ])
            refine wpAnyH_take (i := 15) (oi := ?oo205) (v := ?vv205) ?hi205 (by kernel_rfl) ?hf205 (by kernel_rfl) ?hq205 ?hy205 (by assumption) ?rest205
            case hi205 => (simp only [List.getElem?_toArray, List.getElem?_cons_zero, List.getElem?_cons_succ] <;> exact rfl)
            case hf205 => kernel_rfl
            case hq205 => exact fun _ _ _ h => h
            case hy205 => exact Or.inl ⟨by rfl, by intro w hSw; (try dsimp only at hSw); go_simp; try with_reducible rfl⟩
            (try simp only [Act.put, List.setIfInBounds_toArray, List.set_cons_zero, List.set_cons_succ])
            refine wpAnyH_ready (rs := [18]) (by kernel_rfl) (by simp) ?_
            refine AllReadyH.cons (o := ?oos159) ?his159 (fun K hK => ?sts159) ?mores159
            case his159 => (simp only [List.getElem?_toArray, List.getElem?_cons_zero, List.getElem?_cons_succ] <;> exact rfl)
            case mores159 => exact AllReadyH.nil
            refine step_fresh rfl (.tmp 19) (.tmp 21) 110 rfl 120 (.agg #[.int .i64 0, .int .i64 0]) 2 16 Try.underlying110 info_open rfl (by decide) (by decide) (some b') n n xs rfl (fun h => by cases h) hxl (fun b hb j u hj => by obtain rfl := Option.some.inj hb; rw [World.cell?_alloc_lt _ _ _ (by rw [block_of_add, ← hW2]; exact Nat.lt_of_lt_of_le (holds _ rfl).1 hsW)]; rw [← hW2]; exact hold _ rfl j u hj) ⟨W2.heap.size, 0, none⟩ 1 1 [.int .i64 a, .int .i64 b] rfl rfl (two_new W2 _ _ _ rfl) (by simp [Value.oneCell']) (by omega) (by omega) ?_
            intro g c' w' own' hg' k'
            have BC := BA.chg k' (by simp)
            have DC := DA.chg k' (by simp)
            have c3 := BC.cell (t * 3)
            have f3 := BC.frozen (t * 3)
            refine hK.out _ _ ?hSs159 (fun hHeld => ?rests159)
            case hSs159 => exact ⟨DC.cell 0, DC.cell 1⟩
            clear hK K
            (try simp only [Act.put, List.setIfInBounds_toArray, List.set_cons_zero, List.set_cons_succ])
            refine wpAnyH_take (i := 19) (oi := ?oo206) (v := ?vv206) ?hi206 (by kernel_rfl) ?hf206 (by kernel_rfl) ?hq206 ?hy206 (by assumption) ?rest206
            case hi206 => (simp only [List.getElem?_toArray, List.getElem?_cons_zero, List.getElem?_cons_succ] <;> exact rfl)
            case hf206 => kernel_rfl
            case hq206 => exact fun _ _ _ h => h
            case hy206 => exact Or.inl ⟨by rfl, by intro w hSw; (try dsimp only at hSw); go_simp; try with_reducible rfl⟩
            (try simp only [Act.put, List.setIfInBounds_toArray, List.set_cons_zero, List.set_cons_succ])
            refine wpAnyH_take (i := 20) (oi := ?oo207) (v := ?vv207) ?hi207 (by kernel_rfl) ?hf207 (by kernel_rfl) ?hq207 ?hy207 (by assumption) ?rest207
            case hi207 => (simp only [List.getElem?_toArray, List.getElem?_cons_zero, List.getElem?_cons_succ] <;> exact rfl)
            case hf207 => kernel_rfl
            case hq207 => exact fun _ _ _ h => h
            case hy207 => exact Or.inl ⟨by rfl, by intro w hSw; (try dsimp only at hSw); go_simp; try with_reducible rfl⟩
            (try simp only [Act.put, List.setIfInBounds_toArray, List.set_cons_zero, List.set_cons_succ])
            refine wpAnyH_ready (rs := [21]) (by kernel_rfl) (by simp) ?_
            refine AllReadyH.cons (o := ?oos159x) ?his159x (fun K hK => ?sts159x) ?mores159x
            case his159x => (simp only [List.getElem?_toArray, List.getElem?_cons_zero, List.getElem?_cons_succ] <;> exact rfl)
            case mores159x => exact AllReadyH.nil
            go_simp
            refine hK.out _ _ ?hSs159x (fun hHeld => ?rests159x)
            case hSs159x => exact ⟨(DC.far (p := ⟨q, t * 3, none⟩) hdq _).cell 0, (DC.far (p := ⟨q, t * 3, none⟩) hdq _).cell 1⟩
            clear hK K
            (try simp only [Act.put, List.setIfInBounds_toArray, List.set_cons_zero, List.set_cons_succ])
            refine wpAnyH_done (by kernel_rfl) ?_ _
            go_wp2
            go_end0
            have KX := (Chg.refl [q] w').setCell (p := ⟨q, t * 3, none⟩) (by simp) (.slice (some ⟨g, 0, none⟩) (n + 1) c')
            have own2 := own'
            have hgq := own_ne own2 BC (by decide)
            have hsz := (KD.alloc (.cells #[.int .i64 a, .int .i64 b] 120)).size
            have hfr : ∀ g', (Value.slice (some ⟨g, 0, none⟩) (n + 1) c').ownBlock = some g' → w.heap.size ≤ g' := fun g' hg'' => by
              have e : g = g' := by simpa [Value.ownBlock] using hg''
              omega
            have hno : ∀ g', (Value.slice (some ⟨g, 0, none⟩) (n + 1) c').ownBlock = some g' → g' ∉ [q] := fun g' hg'' => by
              simp only [List.mem_singleton]
              intro e
              exact hgq (by rw [hg'', e])
            exact ⟨rfl, .slice (some ⟨g, 0, none⟩) (n + 1) c', BC.set_ (t * 3) _, (Sl.of_own own2).chg KX hno, hfr, ((KD.alloc _).trans k' (by simp)).setCell (.inl (by simp)) _⟩
          exact AllReadyH.nil
        refine AllReadyH.cons (o := ?oob160) ?hib160 (fun K hK => ?stb160) ?moreb160
        case hib160 => (simp only [List.getElem?_toArray, List.getElem?_cons_zero, List.getElem?_cons_succ] <;> exact rfl)
        case stb160 =>
          go_simp
          refine hK.out _ _ ?hSb160 (fun hHeld => ?restb160)
          case hSb160 => first | exact ⟨DD.cell 0, DD.cell 1⟩ | exact ⟨DA.cell 0, DA.cell 1⟩
          clear hK K
          (try simp only [Act.put, List.setIfInBounds_toArray, List.set_cons_zero, List.set_cons_succ])
          refine wpAnyH_take (i := 14) (oi := ?oo208) (v := ?vv208) ?hi208 (by kernel_rfl) ?hf208 (by kernel_rfl) ?hq208 ?hy208 (by assumption) ?rest208
          case hi208 => (simp only [List.getElem?_toArray, List.getElem?_cons_zero, List.getElem?_cons_succ] <;> exact rfl)
          case hf208 => kernel_rfl
          case hq208 => exact fun _ _ _ h => h
          case hy208 => exact Or.inl ⟨by rfl, by intro w hSw; (try dsimp only at hSw); go_simp; try with_reducible rfl⟩
          (try simp only [Act.put, List.setIfInBounds_toArray, List.set_cons_zero, List.set_cons_succ])
          refine wpAnyH_ready (rs := [8]) (by kernel_rfl) (by simp) ?_
          refine AllReadyH.cons (o := ?oob161) ?hib161 (fun K hK => ?stb161) ?moreb161
          case hib161 => (simp only [List.getElem?_toArray, List.getElem?_cons_zero, List.getElem?_cons_succ] <;> exact rfl)
          case stb161 =>
            go_simp
            refine hK.out _ _ ?hSb161 (fun hHeld => ?restb161)
            case hSb161 => first | exact ⟨DD.cell 0, DD.cell 1⟩ | exact ⟨DA.cell 0, DA.cell 1⟩
            clear hK K
            (try simp only [Act.put, List.setIfInBounds_toArray, List.set_cons_zero, List.set_cons_succ])
            refine wpAnyH_take (i := 9) (oi := ?oo209) (v := ?vv209) ?hi209 (by kernel_rfl) ?hf209 (by kernel_rfl) ?hq209 ?hy209 (by assumption) ?rest209
            case hi209 => (simp only [List.getElem?_toArray, List.getElem?_cons_zero, List.getElem?_cons_succ] <;> exact rfl)
            case hf209 => kernel_rfl
            case hq209 => exact fun _ _ _ h => h
            case hy209 => exact Or.inl ⟨by rfl, by intro w hSw; (try dsimp only at hSw); go_simp; try with_reducible rfl⟩
            (try simp only [Act.put, List.setIfInBounds_toArray, List.set_cons_zero, List.set_cons_succ])
            refine wpAnyH_take (i := 15) (oi := ?oo210) (v := ?vv210) ?hi210 (by kernel_rfl) ?hf210 (by kernel_rfl) ?hq210 ?hy210 (by assumption) ?rest210
            case hi210 => (simp only [List.getElem?_toArray, List.getElem?_cons_zero, List.getElem?_cons_succ] <;> exact rfl)
            case hf210 => kernel_rfl
            case hq210 => exact fun _ _ _ h => h
            case hy210 => exact Or.inl ⟨by rfl, by intro w hSw; (try dsimp only at hSw); go_simp; try with_reducible rfl⟩
            (try simp only [Act.put, List.setIfInBounds_toArray, List.set_cons_zero, List.set_cons_succ])
            refine wpAnyH_ready (rs := [18]) (by kernel_rfl) (by simp) ?_
            refine AllReadyH.cons (o := ?oos162) ?his162 (fun K hK => ?sts162) ?mores162
            case his162 => (simp only [List.getElem?_toArray, List.getElem?_cons_zero, List.getElem?_cons_succ] <;> exact rfl)
            case mores162 => exact AllReadyH.nil
            refine step_fresh rfl (.tmp 19) (.tmp 21) 110 rfl 120 (.agg #[.int .i64 0, .int .i64 0]) 2 16 Try.underlying110 info_open rfl (by decide) (by decide) (some b') n n xs rfl (fun h => by cases h) hxl (fun b hb j u hj => by obtain rfl := Option.some.inj hb; rw [World.cell?_alloc_lt _ _ _ (by rw [block_of_add, ← hW2]; exact Nat.lt_of_lt_of_le (holds _ rfl).1 hsW)]; rw [← hW2]; exact hold _ rfl j u hj) ⟨W2.heap.size, 0, none⟩ 1 1 [.int .i64 a, .int .i64 b] rfl rfl (two_new W2 _ _ _ rfl) (by simp [Value.oneCell']) (by omega) (by omega) ?_
            intro g c' w' own' hg' k'
            have BC := BA.chg k' (by simp)
            have DC := DA.chg k' (by simp)
            have c3 := BC.cell (t * 3)
            have f3 := BC.frozen (t * 3)
            refine hK.out _ _ ?hSs162 (fun hHeld => ?rests162)
            case hSs162 => exact ⟨DC.cell 0, DC.cell 1⟩
            clear hK K
            (try simp only [Act.put, List.setIfInBounds_toArray, List.set_cons_zero, List.set_cons_succ])
            refine wpAnyH_take (i := 19) (oi := ?oo211) (v := ?vv211) ?hi211 (by kernel_rfl) ?hf211 (by kernel_rfl) ?hq211 ?hy211 (by assumption) ?rest211
            case hi211 => (simp only [List.getElem?_toArray, List.getElem?_cons_zero, List.getElem?_cons_succ] <;> exact rfl)
            case hf211 => kernel_rfl
            case hq211 => exact fun _ _ _ h => h
            case hy211 => exact Or.inl ⟨by rfl, by intro w hSw; (try dsimp only at hSw); go_simp; try with_reducible rfl⟩
            (try simp only [Act.put, List.setIfInBounds_toArray, List.set_cons_zero, List.set_cons_succ])
            refine wpAnyH_take (i := 20) (oi := ?oo212) (v := ?vv212) ?hi212 (by kernel_rfl) ?hf212 (by kernel_rfl) ?hq212 ?hy212 (by assumption) ?rest212
            case hi212 => (simp only [List.getElem?_toArray, List.getElem?_cons_zero, List.getElem?_cons_succ] <;> exact rfl)
            case hf212 => kernel_rfl
            case hq212 => exact fun _ _ _ h => h
            case hy212 => exact Or.inl ⟨by rfl, by intro w hSw; (try dsimp only at hSw); go_simp; try with_reducible rfl⟩
            (try simp only [Act.put, List.setIfInBounds_toArray, List.set_cons_zero, List.set_cons_succ])
            refine wpAnyH_ready (rs := [21]) (by kernel_rfl) (by simp) ?_
            refine AllReadyH.cons (o := ?oos162x) ?his162x (fun K hK => ?sts162x) ?mores162x
            case his162x => (simp only [List.getElem?_toArray, List.getElem?_cons_zero, List.getElem?_cons_succ] <;> exact rfl)
            case mores162x => exact AllReadyH.nil
            go_simp
            refine hK.out _ _ ?hSs162x (fun hHeld => ?rests162x)
            case hSs162x => exact ⟨(DC.far (p := ⟨q, t * 3, none⟩) hdq _).cell 0, (DC.far (p := ⟨q, t * 3, none⟩) hdq _).cell 1⟩
            clear hK K
            (try simp only [Act.put, List.setIfInBounds_toArray, List.set_cons_zero, List.set_cons_succ])
            refine wpAnyH_done (by kernel_rfl) ?_ _
            go_wp2
            go_end0
            have KX := (Chg.refl [q] w').setCell (p := ⟨q, t * 3, none⟩) (by simp) (.slice (some ⟨g, 0, none⟩) (n + 1) c')
            have own2 := own'
            have hgq := own_ne own2 BC (by decide)
            have hsz := (KD.alloc (.cells #[.int .i64 a, .int .i64 b] 120)).size
            have hfr : ∀ g', (Value.slice (some ⟨g, 0, none⟩) (n + 1) c').ownBlock = some g' → w.heap.size ≤ g' := fun g' hg'' => by
              have e : g = g' := by simpa [Value.ownBlock] using hg''
              omega
            have hno : ∀ g', (Value.slice (some ⟨g, 0, none⟩) (n + 1) c').ownBlock = some g' → g' ∉ [q] := fun g' hg'' => by
              simp only [List.mem_singleton]
              intro e
              exact hgq (by rw [hg'', e])
            exact ⟨rfl, .slice (some ⟨g, 0, none⟩) (n + 1) c', BC.set_ (t * 3) _, (Sl.of_own own2).chg KX hno, hfr, ((KD.alloc _).trans k' (by simp)).setCell (.inl (by simp)) _⟩
          exact AllReadyH.nil
        exact AllReadyH.nil
      refine AllReadyH.cons (o := ?oob163) ?hib163 (fun K hK => ?stb163) ?moreb163
      case hib163 => (simp only [List.getElem?_toArray, List.getElem?_cons_zero, List.getElem?_cons_succ] <;> exact rfl)
      case stb163 =>
        go_simp
        refine hK.out _ _ ?hSb163 (fun hHeld => ?restb163)
        case hSb163 => first | exact ⟨DD.cell 0, DD.cell 1⟩ | exact ⟨DA.cell 0, DA.cell 1⟩
        clear hK K
        (try simp only [Act.put, List.setIfInBounds_toArray, List.set_cons_zero, List.set_cons_succ])
        refine wpAnyH_take (i := 9) (oi := ?oo213) (v := ?vv213) ?hi213 (by kernel_rfl) ?hf213 (by kernel_rfl) ?hq213 ?hy213 (by assumption) ?rest213
        case hi213 => (simp only [List.getElem?_toArray, List.getElem?_cons_zero, List.getElem?_cons_succ] <;> exact rfl)
        case hf213 => kernel_rfl
        case hq213 => exact fun _ _ _ h => h
        case hy213 => exact Or.inl ⟨by rfl, by intro w hSw; (try dsimp only at hSw); go_simp; try with_reducible rfl⟩
        (try simp only [Act.put, List.setIfInBounds_toArray, List.set_cons_zero, List.set_cons_succ])
        refine wpAnyH_ready (rs := [4, 13]) (by kernel_rfl) (by simp) ?_
        refine AllReadyH.cons (o := ?oob164) ?hib164 (fun K hK => ?stb164) ?moreb164
        case hib164 => (simp only [List.getElem?_toArray, List.getElem?_cons_zero, List.getElem?_cons_succ] <;> exact rfl)
        case stb164 =>
          go_simp
          refine hK.out _ _ ?hSb164 (fun hHeld => ?restb164)
          case hSb164 => first | exact ⟨DD.cell 0, DD.cell 1⟩ | exact ⟨DA.cell 0, DA.cell 1⟩
          clear hK K
          (try simp only [Act.put, List.setIfInBounds_toArray, List.set_cons_zero, List.set_cons_succ])
          refine wpAnyH_ready (rs := [13]) (by kernel_rfl) (by simp) ?_
          refine AllReadyH.cons (o := ?oob165) ?hib165 (fun K hK => ?stb165) ?moreb165
          case hib165 => (simp only [List.getElem?_toArray, List.getElem?_cons_zero, List.getElem?_cons_succ] <;> exact rfl)
          case stb165 =>
            go_simp
            refine hK.out _ _ ?hSb165 (fun hHeld => ?restb165)
            case hSb165 => first | exact ⟨DD.cell 0, DD.cell 1⟩ | exact ⟨DA.cell 0, DA.cell 1⟩
            clear hK K
            (try simp only [Act.put, List.setIfInBounds_toArray, List.set_cons_zero, List.set_cons_succ])
            refine wpAnyH_take (i := 14) (oi := ?oo214) (v := ?vv214) ?hi214 (by kernel_rfl) ?hf214 (by kernel_rfl) ?hq214 ?hy214 (by assumption) ?rest214
            case hi214 => (simp only [List.getElem?_toArray, List.getElem?_cons_zero, List.getElem?_cons_succ] <;> exact rfl)
            case hf214 => kernel_rfl
            case hq214 => exact fun _ _ _ h => h
            case hy214 => exact Or.inl ⟨by rfl, by intro w hSw; (try dsimp only at hSw); go_simp; try with_reducible rfl⟩
            (try simp only [Act.put, List.setIfInBounds_toArray, List.set_cons_zero, List.set_cons_succ])
            refine wpAnyH_take (i := 15) (oi := ?oo215) (v := ?vv215) ?hi215 (by kernel_rfl) ?hf215 (by kernel_rfl) ?hq215 ?hy215 (by assumption) ?rest215
            case hi215 => (simp only [List.getElem?_toArray, List.getElem?_cons_zero, List.getElem?_cons_succ] <;> exact rfl)
            case hf215 => kernel_rfl
            case hq215 => exact fun _ _ _ h => h
            case hy215 => exact Or.inl ⟨by rfl, by intro w hSw; (try dsimp only at hSw); go_simp; try with_reducible rfl⟩
            (try simp only [Act.put, List.setIfInBounds_toArray, List.set_cons_zero, List.set_cons_succ])
            refine wpAnyH_ready (rs := [18]) (by kernel_rfl) (by simp) ?_
            refine AllReadyH.cons (o := ?oos166) ?his166 (fun K hK => ?sts166) ?mores166
            case his166 => (simp only [List.getElem?_toArray, List.getElem?_cons_zero, List.getElem?_cons_succ] <;> exact rfl)
            case mores166 => exact AllReadyH.nil
            refine step_fresh rfl (.tmp 19) (.tmp 21) 110 rfl 120 (.agg #[.int .i64 0, .int .i64 0]) 2 16 Try.underlying110 info_open rfl (by decide) (by decide) (some b') n n xs rfl (fun h => by cases h) hxl (fun b hb j u hj => by obtain rfl := Option.some.inj hb; rw [World.cell?_alloc_lt _ _ _ (by rw [block_of_add, ← hW2]; exact Nat.lt_of_lt_of_le (holds _ rfl).1 hsW)]; rw [← hW2]; exact hold _ rfl j u hj) ⟨W2.heap.size, 0, none⟩ 1 1 [.int .i64 a, .int .i64 b] rfl rfl (two_new W2 _ _ _ rfl) (by simp [Value.oneCell']) (by omega) (by omega) ?_
            intro g c' w' own' hg' k'
            have BC := BA.chg k' (by simp)
            have DC := DA.chg k' (by simp)
            have c3 := BC.cell (t * 3)
            have f3 := BC.frozen (t * 3)
            refine hK.out _ _ ?hSs166 (fun hHeld => ?rests166)
            case hSs166 => exact ⟨DC.cell 0, DC.cell 1⟩
            clear hK K
            (try simp only [Act.put, List.setIfInBounds_toArray, List.set_cons_zero, List.set_cons_succ])
            refine wpAnyH_take (i := 19) (oi := ?oo216) (v := ?vv216) ?hi216 (by kernel_rfl) ?hf216 (by kernel_rfl) ?hq216 ?hy216 (by assumption) ?rest216
            case hi216 => (simp only [List.getElem?_toArray, List.getElem?_cons_zero, List.getElem?_cons_succ] <;> exact rfl)
            case hf216 => kernel_rfl
            case hq216 => exact fun _ _ _ h => h
            case hy216 => exact Or.inl ⟨by rfl, by intro w hSw; (try dsimp only at hSw); go_simp; try with_reducible rfl⟩
            (try simp only [Act.put, List.setIfInBounds_toArray, List.set_cons_zero, List.set_cons_succ])
            refine wpAnyH_take (i := 20) (oi := ?oo217) (v := ?vv217) ?hi217 (by kernel_rfl) ?hf217 (by kernel_rfl) ?hq217 ?hy217 (by assumption) ?rest217
            case hi217 => (simp only [List.getElem?_toArray, List.getElem?_cons_zero, List.getElem?_cons_succ] <;> exact rfl)
            case hf217 => kernel_rfl
            case hq217 => exact fun _ _ _ h => h
            case hy217 => exact Or.inl ⟨by rfl, by intro w hSw; (try dsimp only at hSw); go_simp; try with_reducible rfl⟩
            (try simp only [Act.put, List.setIfInBounds_toArray, List.set_cons_zero, List.set_cons_succ])
            refine wpAnyH_ready (rs := [21]) (by kernel_rfl) (by simp) ?_
            refine AllReadyH.cons (o := ?oos166x) ?his166x (fun K hK => ?sts166x) ?mores166x
            case his166x => (simp only [List.getElem?_toArray, List.getElem?_cons_zero, List.getElem?_cons_succ] <;> exact rfl)
            case mores166x => exact AllReadyH.nil
            go_simp
            refine hK.out _ _ ?hSs166x (fun hHeld => ?rests166x)
            case hSs166x => exact ⟨(DC.far (p := ⟨q, t * 3, none⟩) hdq _).cell 0, (DC.far (p := ⟨q, t * 3, none⟩) hdq _).cell 1⟩
            clear hK K
            (try simp only [Act.put, List.setIfInBounds_toArray, List.set_cons_zero, List.set_cons_succ])
            refine wpAnyH_done (by kernel_rfl) ?_ _
            go_wp2
            go_end0
            have KX := (Chg.refl [q] w').setCell (p := ⟨q, t * 3, none⟩) (by simp) (.slice (some ⟨g, 0, none⟩) (n + 1) c')
            have own2 := own'
            have hgq := own_ne own2 BC (by decide)
            have hsz := (KD.alloc (.cells #[.int .i64 a, .int .i64 b] 120)).size
            have hfr : ∀ g', (Value.slice (some ⟨g, 0, none⟩) (n + 1) c').ownBlock = some g' → w.heap.size ≤ g' := fun g' hg'' => by
              have e : g = g' := by simpa [Value.ownBlock] using hg''
              omega
            have hno : ∀ g', (Value.slice (some ⟨g, 0, none⟩) (n + 1) c').ownBlock = some g' → g' ∉ [q] := fun g' hg'' => by
              simp only [List.mem_singleton]
              intro e
              exact hgq (by rw [hg'', e])
            exact ⟨rfl, .slice (some ⟨g, 0, none⟩) (n + 1) c', BC.set_ (t * 3) _, (Sl.of_own own2).chg KX hno, hfr, ((KD.alloc _).trans k' (by simp)).setCell (.inl (by simp)) _⟩
          exact AllReadyH.nil
        refine AllReadyH.cons (o := ?oob167) ?hib167 (fun K hK => ?stb167) ?moreb167
        case hib167 => (simp only [List.getElem?_toArray, List.getElem?_cons_zero, List.getElem?_cons_succ] <;> exact rfl)
        case stb167 =>
          go_simp
          refine hK.out _ _ ?hSb167 (fun hHeld => ?restb167)
          case hSb167 => first | exact ⟨DD.cell 0, DD.cell 1⟩ | exact ⟨DA.cell 0, DA.cell 1⟩
          clear hK K
          (try simp only [Act.put, List.setIfInBounds_toArray, List.set_cons_zero, List.set_cons_succ])
          refine wpAnyH_take (i := 14) (oi := ?oo218) (v := ?vv218) ?hi218 (by kernel_rfl) ?hf218 (by kernel_rfl) ?hq218 ?hy218 (by assumption) ?rest218
          case hi218 => (simp only [List.getElem?_toArray, List.getElem?_cons_zero, List.getElem?_cons_succ] <;> exact rfl)
          case hf218 => kernel_rfl
          case hq218 => exact fun _ _ _ h => h
          case hy218 => exact Or.inl ⟨by rfl, by intro w hSw; (try dsimp only at hSw); go_simp; try with_reducible rfl⟩
          (try simp only [Act.put, List.setIfInBounds_toArray, List.set_cons_zero, List.set_cons_succ])
          refine wpAnyH_ready (rs := [4]) (by kernel_rfl) (by simp) ?_
          refine AllReadyH.cons (o := ?oob168) ?hib168 (fun K hK => ?stb168) ?moreb168
          case hib168 => (simp only [List.getElem?_toArray, List.getElem?_cons_zero, List.getElem?_cons_succ] <;> exact rfl)
          case stb168 =>
            go_simp
            refine hK.out _ _ ?hSb168 (fun hHeld => ?restb168)
            case hSb168 => first | exact ⟨DD.cell 0, DD.cell 1⟩ | exact ⟨DA.cell 0, DA.cell 1⟩
            clear hK K
            (try simp only [Act.put, List.setIfInBounds_toArray, List.set_cons_zero, List.set_cons_succ])
            refine wpAnyH_take (i := 15) (oi := ?oo219) (v := ?vv219) ?hi219 (by kernel_rfl) ?hf219 (by kernel_rfl) ?hq219 ?hy219 (by assumption) ?rest219
            case hi219 => (simp only [List.getElem?_toArray, List.getElem?_cons_zero, List.getElem?_cons_succ] <;> exact rfl)
            case hf219 => kernel_rfl
            case hq219 => exact fun _ _ _ h => h
            case hy219 => exact Or.inl ⟨by rfl, by intro w hSw; (try dsimp only at hSw); go_simp; try with_reducible rfl⟩
            (try simp only [Act.put, List.setIfInBounds_toArray, List.set_cons_zero, List.set_cons_succ])
            refine wpAnyH_ready (rs := [18]) (by kernel_rfl) (by simp) ?_
            refine AllReadyH.cons (o := ?oos169) ?his169 (fun K hK => ?sts169) ?mores169
            case his169 => (simp only [List.getElem?_toArray, List.getElem?_cons_zero, List.getElem?_cons_succ] <;> exact rfl)
            case mores169 => exact AllReadyH.nil
            refine step_fresh rfl (.tmp 19) (.tmp 21) 110 rfl 120 (.agg #[.int .i64 0, .int .i64 0]) 2 16 Try.underlying110 info_open rfl (by decide) (by decide) (some b') n n xs rfl (fun h => by cases h) hxl (fun b hb j u hj => by obtain rfl := Option.some.inj hb; rw [World.cell?_alloc_lt _ _ _ (by rw [block_of_add, ← hW2]; exact Nat.lt_of_lt_of_le (holds _ rfl).1 hsW)]; rw [← hW2]; exact hold _ rfl j u hj) ⟨W2.heap.size, 0, none⟩ 1 1 [.int .i64 a, .int .i64 b] rfl rfl (two_new W2 _ _ _ rfl) (by simp [Value.oneCell']) (by omega) (by omega) ?_
            intro g c' w' own' hg' k'
            have BC := BA.chg k' (by simp)
            have DC := DA.chg k' (by simp)
            have c3 := BC.cell (t * 3)
            have f3 := BC.frozen (t * 3)
            refine hK.out _ _ ?hSs169 (fun hHeld => ?rests169)
            case hSs169 => exact ⟨DC.cell 0, DC.cell 1⟩
            clear hK K
            (try simp only [Act.put, List.setIfInBounds_toArray, List.set_cons_zero, List.set_cons_succ])
            refine wpAnyH_take (i := 19) (oi := ?oo220) (v := ?vv220) ?hi220 (by kernel_rfl) ?hf220 (by kernel_rfl) ?hq220 ?hy220 (by assumption) ?rest220
            case hi220 => (simp only [List.getElem?_toArray, List.getElem?_cons_zero, List.getElem?_cons_succ] <;> exact rfl)
            case hf220 => kernel_rfl
            case hq220 => exact fun _ _ _ h => h
            case hy220 => exact Or.inl ⟨by rfl, by intro w hSw; (try dsimp only at hSw); go_simp; try with_reducible rfl⟩
            (try simp only [Act.put, List.setIfInBounds_toArray, List.set_cons_zero, List.set_cons_succ])
            refine wpAnyH_take (i := 20) (oi := ?oo221) (v := ?vv221) ?hi221 (by kernel_rfl) ?hf221 (by kernel_rfl) ?hq221 ?hy221 (by assumption) ?rest221
            case hi221 => (simp only [List.getElem?_toArray, List.getElem?_cons_zero, List.getElem?_cons_succ] <;> exact rfl)
            case hf221 => kernel_rfl
            case hq221 => exact fun _ _ _ h => h
            case hy221 => exact Or.inl ⟨by rfl, by intro w hSw; (try dsimp only at hSw); go_simp; try with_reducible rfl⟩
            (try simp only [Act.put, List.setIfInBounds_toArray, List.set_cons_zero, List.set_cons_succ])
            refine wpAnyH_ready (rs := [21]) (by kernel_rfl) (by simp) ?_
            refine AllReadyH.cons (o := ?oos169x) ?his169x (fun K hK => ?sts169x) ?mores169x
            case his169x => (simp only [List.getElem?_toArray, List.getElem?_cons_zero, List.getElem?_cons_succ] <;> exact rfl)
            case mores169x => exact AllReadyH.nil
            go_simp
            refine hK.out _ _ ?hSs169x (fun hHeld => ?rests169x)
            case hSs169x => exact ⟨(DC.far (p := ⟨q, t * 3, none⟩) hdq _).cell 0, (DC.far (p := ⟨q, t * 3, none⟩) hdq _).cell 1⟩
            clear hK K
            (try simp only [Act.put, List.setIfInBounds_toArray, List.set_cons_zero, List.set_cons_succ])
            refine wpAnyH_done (by kernel_rfl) ?_ _
            go_wp2
            go_end0
            have KX := (Chg.refl [q] w').setCell (p := ⟨q, t * 3, none⟩) (by simp) (.slice (some ⟨g, 0, none⟩) (n + 1) c')
            have own2 := own'
            have hgq := own_ne own2 BC (by decide)
            have hsz := (KD.alloc (.cells #[.int .i64 a, .int .i64 b] 120)).size
            have hfr : ∀ g', (Value.slice (some ⟨g, 0, none⟩) (n + 1) c').ownBlock = some g' → w.heap.size ≤ g' := fun g' hg'' => by
              have e : g = g' := by simpa [Value.ownBlock] using hg''
              omega
            have hno : ∀ g', (Value.slice (some ⟨g, 0, none⟩) (n + 1) c').ownBlock = some g' → g' ∉ [q] := fun g' hg'' => by
              simp only [List.mem_singleton]
              intro e
              exact hgq (by rw [hg'', e])
            exact ⟨rfl, .slice (some ⟨g, 0, none⟩) (n + 1) c', BC.set_ (t * 3) _, (Sl.of_own own2).chg KX hno, hfr, ((KD.alloc _).trans k' (by simp)).setCell (.inl (by simp)) _⟩
          exact AllReadyH.nil
        exact AllReadyH.nil
      refine AllReadyH.cons (o := ?oob170) ?hib170 (fun K hK => ?stb170) ?moreb170
      case hib170 => (simp only [List.getElem?_toArray, List.getElem?_cons_zero, List.getElem?_cons_succ] <;> exact rfl)
      case stb170 =>
        go_simp
        refine hK.out _ _ ?hSb170 (fun hHeld => ?restb170)
        case hSb170 => first | exact ⟨DD.cell 0, DD.cell 1⟩ | exact ⟨DA.cell 0, DA.cell 1⟩
        clear hK K
        (try simp only [Act.put, List.setIfInBounds_toArray, List.set_cons_zero, List.set_cons_succ])
        refine wpAnyH_take (i := 14) (oi := ?oo222) (v := ?vv222) ?hi222 (by kernel_rfl) ?hf222 (by kernel_rfl) ?hq222 ?hy222 (by assumption) ?rest222
        case hi222 => (simp only [List.getElem?_toArray, List.getElem?_cons_zero, List.getElem?_cons_succ] <;> exact rfl)
        case hf222 => kernel_rfl
        case hq222 => exact fun _ _ _ h => h
        case hy222 => exact Or.inl ⟨by rfl, by intro w hSw; (try dsimp only at hSw); go_simp; try with_reducible rfl⟩
        (try simp only [Act.put, List.setIfInBounds_toArray, List.set_cons_zero, List.set_cons_succ])
        refine wpAnyH_ready (rs := [4, 8]) (by kernel_rfl) (by simp) ?_
        refine AllReadyH.cons (o := ?oob171) ?hib171 (fun K hK => ?stb171) ?moreb171
        case hib171 => (simp only [List.getElem?_toArray, List.getElem?_cons_zero, List.getElem?_cons_succ] <;> exact rfl)
        case stb171 =>
          go_simp
          refine hK.out _ _ ?hSb171 (fun hHeld => ?restb171)
          case hSb171 => first | exact ⟨DD.cell 0, DD.cell 1⟩ | exact ⟨DA.cell 0, DA.cell 1⟩
          clear hK K
          (try simp only [Act.put, List.setIfInBounds_toArray, List.set_cons_zero, List.set_cons_succ])
          refine wpAnyH_ready (rs := [8]) (by kernel_rfl) (by simp) ?_
          refine AllReadyH.cons (o := ?oob172) ?hib172 (fun K hK => ?stb172) ?moreb172
          case hib172 => (simp only [List.getElem?_toArray, List.getElem?_cons_zero, List.getElem?_cons_succ] <;> exact rfl)
          case stb172 =>
            go_simp
            refine hK.out _ _ ?hSb172 (fun hHeld => ?restb172)
            case hSb172 => first | exact ⟨DD.cell 0, DD.cell 1⟩ | exact ⟨DA.cell 0, DA.cell 1⟩
            clear hK K
            (try simp only [Act.put, List.setIfInBounds_toArray, List.set_cons_zero, List.set_cons_succ])
            refine wpAnyH_take (i := 9) (oi := ?oo223) (v := ?vv223) ?hi223 (by kernel_rfl) ?hf223 (by kernel_rfl) ?hq223 ?hy223 (by assumption) ?rest223
            case hi223 => (simp only [List.getElem?_toArray, List.getElem?_cons_zero, List.getElem?_cons_succ] <;> exact rfl)
            case hf223 => kernel_rfl
            case hq223 => exact fun _ _ _ h => h
            case hy223 => exact Or.inl ⟨by rfl, by intro w hSw; (try dsimp only at hSw); go_simp; try with_reducible rfl⟩
            (try simp only [Act.put, List.setIfInBounds_toArray, List.set_cons_zero, List.set_cons_succ])
            refine wpAnyH_take (i := 15) (oi := ?oo224) (v := ?vv224) ?hi224 (by kernel_rfl) ?hf224 (by kernel_rfl) ?hq224 ?hy224 (by assumption) ?rest224
            case hi224 => (simp only [List.getElem?_toArray, List.getElem?_cons_zero, List.getElem?_cons_succ] <;> exact rfl)
            case hf224 => kernel_rfl
            case hq224 => exact fun _ _ _ h => h
            case hy224 => exact Or.inl ⟨by rfl, by intro w hSw; (try dsimp only at hSw); go_simp; try with_reducible rfl⟩
            (try simp only [Act.put, List.setIfInBounds_toArray, List.set_cons_zero, List.set_cons_succ])
            refine wpAnyH_ready (rs := [18]) (by kernel_rfl) (by simp) ?_
            refine AllReadyH.cons (o := ?oos173) ?his173 (fun K hK => ?sts173) ?mores173
            case his173 => (simp only [List.getElem?_toArray, List.getElem?_cons_zero, List.getElem?_cons_succ] <;> exact rfl)
            case mores173 => exact AllReadyH.nil
            refine step_fresh rfl (.tmp 19) (.tmp 21) 110 rfl 120 (.agg #[.int .i64 0, .int .i64 0]) 2 16 Try.underlying110 info_open rfl (by decide) (by decide) (some b') n n xs rfl (fun h => by cases h) hxl (fun b hb j u hj => by obtain rfl := Option.some.inj hb; rw [World.cell?_alloc_lt _ _ _ (by rw [block_of_add, ← hW2]; exact Nat.lt_of_lt_of_le (holds _ rfl).1 hsW)]; rw [← hW2]; exact hold _ rfl j u hj) ⟨W2.heap.size, 0, none⟩ 1 1 [.int .i64 a, .int .i64 b] rfl rfl (two_new W2 _ _ _ rfl) (by simp [Value.oneCell']) (by omega) (by omega) ?_
            intro g c' w' own' hg' k'
            have BC := BA.chg k' (by simp)
            have DC := DA.chg k' (by simp)
            have c3 := BC.cell (t * 3)
            have f3 := BC.frozen (t * 3)
            refine hK.out _ _ ?hSs173 (fun hHeld => ?rests173)
            case hSs173 => exact ⟨DC.cell 0, DC.cell 1⟩
            clear hK K
            (try simp only [Act.put, List.setIfInBounds_toArray, List.set_cons_zero, List.set_cons_succ])
            refine wpAnyH_take (i := 19) (oi := ?oo225) (v := ?vv225) ?hi225 (by kernel_rfl) ?hf225 (by kernel_rfl) ?hq225 ?hy225 (by assumption) ?rest225
            case hi225 => (simp only [List.getElem?_toArray, List.getElem?_cons_zero, List.getElem?_cons_succ] <;> exact rfl)
            case hf225 => kernel_rfl
            case hq225 => exact fun _ _ _ h => h
            case hy225 => exact Or.inl ⟨by rfl, by intro w hSw; (try dsimp only at hSw); go_simp; try with_reducible rfl⟩
            (try simp only [Act.put, List.setIfInBounds_toArray, List.set_cons_zero, List.set_cons_succ])
            refine wpAnyH_take (i := 20) (oi := ?oo226) (v := ?vv226) ?hi226 (by kernel_rfl) ?hf226 (by kernel_rfl) ?hq226 ?hy226 (by assumption) ?rest226
            case hi226 => (simp only [List.getElem?_toArray, List.getElem?_cons_zero, List.getElem?_cons_succ] <;> exact rfl)
            case hf226 => kernel_rfl
            case hq226 => exact fun _ _ _ h => h
            case hy226 => exact Or.inl ⟨by rfl, by intro w hSw; (try dsimp only at hSw); go_simp; try with_reducible rfl⟩
            (try simp only [Act.put, List.setIfInBounds_toArray, List.set_cons_zero, List.set_cons_succ])
            refine wpAnyH_ready (rs := [21]) (by kernel_rfl) (by simp) ?_
            refine AllReadyH.cons (o := ?oos173x) ?his173x (fun K hK => ?sts173x) ?mores173x
            case his173x => (simp only [List.getElem?_toArray, List.getElem?_cons_zero, List.getElem?_cons_succ] <;> exact rfl)
            case mores173x => exact AllReadyH.nil
            go_simp
            refine hK.out _ _ ?hSs173x (fun hHeld => ?rests173x)
            case hSs173x => exact ⟨(DC.far (p := ⟨q, t * 3, none⟩) hdq _).cell 0, (DC.far (p := ⟨q, t * 3, none⟩) hdq _).cell 1⟩
            clear hK K
            (try simp only [Act.put, List.setIfInBounds_toArray, List.set_cons_zero, List.set_cons_succ])
            refine wpAnyH_done (by kernel_rfl) ?_ _
            go_wp2
            go_end0
            have KX := (Chg.refl [q] w').setCell (p := ⟨q, t * 3, none⟩) (by simp) (.slice (some ⟨g, 0, none⟩) (n + 1) c')
            have own2 := own'
            have hgq := own_ne own2 BC (by decide)
            have hsz := (KD.alloc (.cells #[.int .i64 a, .int .i64 b] 120)).size
            have hfr : ∀ g', (Value.slice (some ⟨g, 0, none⟩) (n + 1) c').ownBlock = some g' → w.heap.size ≤ g' := fun g' hg'' => by
              have e : g = g' := by simpa [Value.ownBlock] using hg''
              omega
            have hno : ∀ g', (Value.slice (some ⟨g, 0, none⟩) (n + 1) c').ownBlock = some g' → g' ∉ [q] := fun g' hg'' => by
              simp only [List.mem_singleton]
              intro e
              exact hgq (by rw [hg'', e])
            exact ⟨rfl, .slice (some ⟨g, 0, none⟩) (n + 1) c', BC.set_ (t * 3) _, (Sl.of_own own2).chg KX hno, hfr, ((KD.alloc _).trans k' (by simp)).setCell (.inl (by simp)) _⟩
          exact AllReadyH.nil
        refine AllReadyH.cons (o := ?oob174) ?hib174 (fun K hK => ?stb174) ?moreb174
        case hib174 => (simp only [List.getElem?_toArray, List.getElem?_cons_zero, List.getElem?_cons_succ] <;> exact rfl)
        case stb174 =>
          go_simp
          refine hK.out _ _ ?hSb174 (fun hHeld => ?restb174)
          case hSb174 => first | exact ⟨DD.cell 0, DD.cell 1⟩ | exact ⟨DA.cell 0, DA.cell 1⟩
          clear hK K
          (try simp only [Act.put, List.setIfInBounds_toArray, List.set_cons_zero, List.set_cons_succ])
          refine wpAnyH_take (i := 9) (oi := ?oo227) (v := ?vv227) ?hi227 (by kernel_rfl) ?hf227 (by kernel_rfl) ?hq227 ?hy227 (by assumption) ?rest227
          case hi227 => (simp only [List.getElem?_toArray, List.getElem?_cons_zero, List.getElem?_cons_succ] <;> exact rfl)
          case hf227 => kernel_rfl
          case hq227 => exact fun _ _ _ h => h
          case hy227 => exact Or.inl ⟨by rfl, by intro w hSw; (try dsimp only at hSw); go_simp; try with_reducible rfl⟩
          (try simp only [Act.put, List.setIfInBounds_toArray, List.set_cons_zero, List.set_cons_succ])
          refine wpAnyH_ready (rs := [4]) (by kernel_rfl) (by simp) ?_
          refine AllReadyH.cons (o := ?oob175) ?hib175 (fun K hK => ?stb175) ?moreb175
          case hib175 => (simp only [List.getElem?_toArray, List.getElem?_cons_zero, List.getElem?_cons_succ] <;> exact rfl)
          case stb175 =>
            go_simp
            refine hK.out _ _ ?hSb175 (fun hHeld => ?restb175)
            case hSb175 => first | exact ⟨DD.cell 0, DD.cell 1⟩ | exact ⟨DA.cell 0, DA.cell 1⟩
            clear hK K
            (try simp only [Act.put, List.setIfInBounds_toArray, List.set_cons_zero, List.set_cons_succ])
            refine wpAnyH_take (i := 15) (oi := ?oo228) (v := ?vv228) ?hi228 (by kernel_rfl) ?hf228 (by kernel_rfl) ?hq228 ?hy228 (by assumption) ?rest228
            case hi228 => (simp only [List.getElem?_toArray, List.getElem?_cons_zero, List.getElem?_cons_succ] <;> exact rfl)
            case hf228 => kernel_rfl
            case hq228 => exact fun _ _ _ h => h
            case hy228 => exact Or.inl ⟨by rfl, by intro w hSw; (try dsimp only at hSw); go_simp; try with_reducible rfl⟩
            (try simp only [Act.put, List.setIfInBounds_toArray, List.set_cons_zero, List.set_cons_succ])
            refine wpAnyH_ready (rs := [18]) (by kernel_rfl) (by simp) ?_
            refine AllReadyH.cons (o := ?oos176) ?his176 (fun K hK => ?sts176) ?mores176
            case his176 => (simp only [List.getElem?_toArray, List.getElem?_cons_zero, List.getElem?_cons_succ] <;> exact rfl)
            case mores176 => exact AllReadyH.nil
            refine step_fresh rfl (.tmp 19) (.tmp 21) 110 rfl 120 (.agg #[.int .i64 0, .int .i64 0]) 2 16 Try.underlying110 info_open rfl (by decide) (by decide) (some b') n n xs rfl (fun h => by cases h) hxl (fun b hb j u hj => by obtain rfl := Option.some.inj hb; rw [World.cell?_alloc_lt _ _ _ (by rw [block_of_add, ← hW2]; exact Nat.lt_of_lt_of_le (holds _ rfl).1 hsW)]; rw [← hW2]; exact hold _ rfl j u hj) ⟨W2.heap.size, 0, none⟩ 1 1 [.int .i64 a, .int .i64 b] rfl rfl (two_new W2 _ _ _ rfl) (by simp [Value.oneCell']) (by omega) (by omega) ?_
            intro g c' w' own' hg' k'
            have BC := BA.chg k' (by simp)
            have DC := DA.chg k' (by simp)
            have c3 := BC.cell (t * 3)
            have f3 := BC.frozen (t * 3)
            refine hK.out _ _ ?hSs176 (fun hHeld => ?rests176)
            case hSs176 => exact ⟨DC.cell 0, DC.cell 1⟩
            clear hK K
            (try simp only [Act.put, List.setIfInBounds_toArray, List.set_cons_zero, List.set_cons_succ])
            refine wpAnyH_take (i := 19) (oi := ?oo229) (v := ?vv229) ?hi229 (by kernel_rfl) ?hf229 (by kernel_rfl) ?hq229 ?hy229 (by assumption) ?rest229
            case hi229 => (simp only [List.getElem?_toArray, List.getElem?_cons_zero, List.getElem?_cons_succ] <;> exact rfl)
            case hf229 => kernel_rfl
            case hq229 => exact fun _ _ _ h => h
            case hy229 => exact Or.inl ⟨by rfl, by intro w hSw; (try dsimp only at hSw); go_simp; try with_reducible rfl⟩
            (try simp only [Act.put, List.setIfInBounds_toArray, List.set_cons_zero, List.set_cons_succ])
            refine wpAnyH_take (i := 20) (oi := ?oo230) (v := ?vv230) ?hi230 (by kernel_rfl) ?hf230 (by kernel_rfl) ?hq230 ?hy230 (by assumption) ?rest230
            case hi230 => (simp only [List.getElem?_toArray, List.getElem?_cons_zero, List.getElem?_cons_succ] <;> exact rfl)
            case hf230 => kernel_rfl
            case hq230 => exact fun _ _ _ h => h
            case hy230 => exact Or.inl ⟨by rfl, by intro w hSw; (try dsimp only at hSw); go_simp; try with_reducible rfl⟩
            (try simp only [Act.put, List.setIfInBounds_toArray, List.set_cons_zero, List.set_cons_succ])
            refine wpAnyH_ready (rs := [21]) (by kernel_rfl) (by simp) ?_
            refine AllReadyH.cons (o := ?oos176x) ?his176x (fun K hK => ?sts176x) ?mores176x
            case his176x => (simp only [List.getElem?_toArray, List.getElem?_cons_zero, List.getElem?_cons_succ] <;> exact rfl)
            case mores176x => exact AllReadyH.nil
            go_simp
            refine hK.out _ _ ?hSs176x (fun hHeld => ?rests176x)
            case hSs176x => exact ⟨(DC.far (p := ⟨q, t * 3, none⟩) hdq _).cell 0, (DC.far (p := ⟨q, t * 3, none⟩) hdq _).cell 1⟩
            clear hK K
            (try simp only [Act.put, List.setIfInBounds_toArray, List.set_cons_zero, List.set_cons_succ])
            refine wpAnyH_done (by kernel_rfl) ?_ _
            go_wp2
            go_end0
            have KX := (Chg.refl [q] w').setCell (p := ⟨q, t * 3, none⟩) (by simp) (.slice (some ⟨g, 0, none⟩) (n + 1) c')
            have own2 := own'
            have hgq := own_ne own2 BC (by decide)
            have hsz := (KD.alloc (.cells #[.int .i64 a, .int .i64 b] 120)).size
            have hfr : ∀ g', (Value.slice (some ⟨g, 0, none⟩) (n + 1) c').ownBlock = some g' → w.heap.size ≤ g' := fun g' hg'' => by
              have e : g = g' := by simpa [Value.ownBlock] using hg''
              omega
            have hno : ∀ g', (Value.slice (some ⟨g, 0, none⟩) (n + 1) c').ownBlock = some g' → g' ∉ [q] := fun g' hg'' => by
              simp only [List.mem_singleton]
              intro e
              exact hgq (by rw [hg'', e])
            exact ⟨rfl, .slice (some ⟨g, 0, none⟩) (n + 1) c', BC.set_ (t * 3) _, (Sl.of_own own2).chg KX hno, hfr, ((KD.alloc _).trans k' (by simp)).setCell (.inl (by simp)) _⟩
          exact AllReadyH.nil
        exact AllReadyH.nil
      exact AllReadyH.nil
    exact AllReadyH.nil
end Go.Proofs.Ytbjiecpkalcfeaa.HistP2
