/- HeadPlays' walk. -/
import Derived.Test.YtdlaiohoofbplaaHeadRefIs
import Derived.Test.YtdlaiohoofbplaaHeadBack
import Derived.Test.YtdlaiohoofbplaaOpenRecs
namespace Go.Proofs.Ytdlaiohoofbplaa.HeadPlays
open Go Go.RowKit Go.Proofs.Ytdlaiohoofbplaa Go.Proofs.Ytdlaiohoofbplaa.Heap Go.Proofs.Ytdlaiohoofbplaa.Head Go.Proofs.Ytdlaiohoofbplaa.HeadPut Go.Proofs.Ytdlaiohoofbplaa.HeadGet Go.Proofs.Ytdlaiohoofbplaa.HeadIs Go.Proofs.Ytdlaiohoofbplaa.Mem Go.Proofs.Ytdlaiohoofbplaa.Two Go.Proofs.Ytdlaiohoofbplaa.OpenRecs

abbrev KS : List (Option IntKind) := [some .i64, some .i64, none, some .i64]
theorem recs_at {w : World} {ad : Addr} {n : Nat} (h : RecsAt w (some ad) n KS) {i : Nat} (hi : i < n) : ∃ k l z t, w.cell? (ad.add (i * 4)) = some (.int .i64 k) ∧ w.cell? ⟨(ad.add (i * 4)).block, (ad.add (i * 4)).off + 1, none⟩ = some (.int .i64 l) ∧ w.cell? ⟨(ad.add (i * 4)).block, (ad.add (i * 4)).off + 2, none⟩ = some (.bool z) ∧ w.cell? ⟨(ad.add (i * 4)).block, (ad.add (i * 4)).off + 3, none⟩ = some (.int .i64 t) := by
  obtain ⟨a, e, hf⟩ := h.2 (by omega)
  obtain rfl : ad = a := Option.some.inj e
  obtain ⟨v0, ⟨k, rfl, _⟩, c0⟩ := hf i hi 0 _ rfl
  obtain ⟨v1, ⟨l, rfl, _⟩, c1⟩ := hf i hi 1 _ rfl
  obtain ⟨v2, ⟨z, rfl⟩, c2⟩ := hf i hi 2 _ rfl
  obtain ⟨v3, ⟨t, rfl, _⟩, c3⟩ := hf i hi 3 _ rfl
  have e : ∀ j, (⟨(ad.add (i * 4)).block, (ad.add (i * 4)).off + (j + 1), none⟩ : Addr) = ad.add (i * 4 + (j + 1)) := fun j => by
    rw [← add_of_add]
    generalize ad.add (i * 4) = q
    rfl
  exact ⟨k, l, z, t, c0, (by rw [e 0]; exact c1), (by rw [e 1]; exact c2), (by rw [e 2]; exact c3)⟩
/-- The cells of a record are as they were. -/
theorem stays {w V : World} {q : Addr} {v : Value} (hc : w.cell? q = some v) (hV : Chg [] w V) : V.cell? q = some v := by
  rw [← hc]
  exact World.cell?_of_block (hV.block _ (World.block_lt_of_cell? w _ hc) (by simp))
theorem laid4 (A : Option Addr) (m c : Nat) (xs : List Int) (w : World) (hx : Nums w .u64 A m xs) (hu : U64 xs) :
    Calls Try.prog 14 #[.int .i64 4, .slice A m c] w fun e w' => ∃ p r B g v bs L, e = .returned (.tuple #[.pointer (some ⟨p, 0, none⟩), .pointer (some ⟨r, 0, none⟩)]) ∧ Both w w' p r 4 B g v bs L := laid_ok 4 (by decide) (by decide) A m c xs w hx hu

set_option maxRecDepth 100000 in
set_option maxHeartbeats 8000000 in
theorem headPlays_walk (A0 : Option Addr) (n0 c0 : Nat) (xs : List Int) (A1 : Option Addr) (n1 c1 : Nat) (ks : List Int) (A2 : Option Addr) (n2 c2 : Nat) (fs : List Int) (A3 : Option Addr) (n3 c3 : Nat) (A4 : Option Addr) (n4 c4 : Nat) (ws : List Int) (w : World)
    (z0 : Nums w .u64 A0 n0 xs) (hu : U64 xs) (z1 : Nums w .u8 A1 n1 ks) (hks : ∀ x, x ∈ ks → 0 ≤ x) (z2 : Nums w .i64 A2 n2 fs) (z3 : RecsAt w A3 n3 KS) (z4 : Nums w .i64 A4 n4 ws) :
    Calls Try.prog 5 #[.slice A0 n0 c0, .slice A1 n1 c1, .slice A2 n2 c2, .slice A3 n3 c3, .slice A4 n4 c4] w fun e w' => e = .returned (.bool true) ∧ Chg [] w w' := by
  have b1 := z1.2.1
  have b2 := z2.2.1
  have b3 := z3.1
  have b4 := z4.2.1
  have Z0 := Lib.hid z0
  have Z1 := Lib.hid z1
  have Z2 := Lib.hid z2
  have Z3 := Lib.hid z3
  have Z4 := Lib.hid z4
  have HU := Lib.hid hu
  have HKS := Lib.hid hks
  clear z0 z1 z2 z3 z4 hks hu
  go_enter Try.func5, Try.ntmps5
  go_wp2_with fail
  refine Calls.mono (laid4 A0 n0 c0 xs _ Z0.out HU.out) ?_
  rintro e w1 ⟨p, r, B, g, v, bs, L, rfl, T⟩
  clear Z0 HU
  go_wp2_with fail
  go_loopw [13] (fun i wr => ∃ k : Nat, ∃ L, i = .int .i64 k ∧ k ≤ n1 ∧ Both w wr p r 4 B g v bs L) (fun i _ => n1 - (intOf i).toNat)
  case atStart => exact ⟨0, _, rfl, Nat.zero_le _, T⟩
  case round =>
    clear T L
    obtain ⟨k, L, rfl, hk, T⟩ := hrel
    by_cases hlt : k < n1 ∧ k < n2 ∧ k < n3 ∧ k < n4 ∧ k < 40
    · obtain ⟨l1, l2, l3, l4, l5⟩ := hlt
      obtain ⟨a1, rfl, -⟩ := Z1.out.2.2 (by omega)
      obtain ⟨a2, rfl, -⟩ := Z2.out.2.2 (by omega)
      obtain ⟨a3, rfl, -⟩ := Z3.out.2 (by omega)
      obtain ⟨a4, rfl, -⟩ := Z4.out.2.2 (by omega)
      have y0 : 0 ≤ ks.getD k 0 := HKS.out _ (by
        have := Z1.out.1
        rw [List.getD_eq_getElem?_getD, List.getElem?_eq_getElem (by omega)]
        exact List.getElem_mem _)
      obtain ⟨hk', hl', hz', ht', q0, q1, q2, q3⟩ := recs_at Z3.out l3
      have SK : Hid (∀ V, Chg [] w V → V.cell? (a2.add k) = some (.int .i64 (fs.getD k 0)) ∧ V.cell? (a3.add (k * 4)) = some (.int .i64 hk') ∧ V.cell? ⟨(a3.add (k * 4)).block, (a3.add (k * 4)).off + 1, none⟩ = some (.int .i64 hl') ∧ V.cell? ⟨(a3.add (k * 4)).block, (a3.add (k * 4)).off + 2, none⟩ = some (.bool hz') ∧ V.cell? ⟨(a3.add (k * 4)).block, (a3.add (k * 4)).off + 3, none⟩ = some (.int .i64 ht') ∧ V.cell? (a4.add k) = some (.int .i64 (ws.getD k 0))) := fun V kV =>
        ⟨(Z2.out.chg kV (fun _ _ => by simp)).cells l2, stays q0 kV, stays q1 kV, stays q2 kV, stays q3 kV, (Z4.out.chg kV (fun _ _ => by simp)).cells l4⟩
      have cell1 := (Z1.out.chg T.k (fun _ _ => by simp)).cells l1
      generalize ks.getD k 0 = y at *
      generalize fs.getD k 0 = x2 at *
      generalize ws.getD k 0 = x4 at *
      clear q0 q1 q2 q3
      have y3 : y % 3 = 0 ∨ y % 3 = 1 ∨ y % 3 = 2 := by omega
      have h1 := T.m.pos
      have h2 := T.m.le
      rcases y3 with y3 | y3 | y3
      · as_aux_lemma =>
        have K := T.k.drew
        have m0 := T.m.drew
        have r0 := T.r.drew
        have fg := T.fg
        have fB := T.fB
        go_wp2_with fail
        clear cell1 y3
        go_region_held3 (fun V => V.cell? (a2.add k) = some (.int .i64 x2) ∧ V.cell? (a3.add (k * 4)) = some (.int .i64 hk') ∧ V.cell? ⟨(a3.add (k * 4)).block, (a3.add (k * 4)).off + 1, none⟩ = some (.int .i64 hl') ∧ V.cell? ⟨(a3.add (k * 4)).block, (a3.add (k * 4)).off + 2, none⟩ = some (.bool hz') ∧ V.cell? ⟨(a3.add (k * 4)).block, (a3.add (k * 4)).off + 3, none⟩ = some (.int .i64 ht')) (exact ⟨(SK.out _ K).1, (SK.out _ K).2.1, (SK.out _ K).2.2.1, (SK.out _ K).2.2.2.1, (SK.out _ K).2.2.2.2.1⟩)
          (first
          | (go_at_call 15; refine Calls.mono (HeadPut.put_ok m0 x2 hk' hl' hz' ht') ?_; rintro e w5 ⟨rfl, m5, kk⟩; replace K := K.trans kk (by simp; omega); have r5 := ref_keep m0 r0 kk)
          | (go_at_call 22; refine Calls.mono (HeadRef.put_ok r5 h1 h2 x2 hk' hl' hz' ht') ?_; rintro e w6 ⟨rfl, r6, kk⟩; have m6 := Ref02.chr_mem m5 kk; replace K := Ref02.chr_chg K kk fB))
        have T6 : Both w w6 p r 4 B g v bs _ := ⟨m6, r6, T.fB, T.fp, T.fg, K, HeadBack.hput_u64 T.u _ _ _ _ _⟩
        clear m6 r6 m5 r5 m0 r0 K T fg fB
        generalize hputL 4 L x2 hk' hl' hz' ht' = M at *
        as_aux_lemma =>
          have uM := T6.u
          have HG := fun (W : World) (q : MemAt W p g 4 M) => get_ok q uM x2
          have HG2 := fun (W : World) (q : Ref02.RM W B r v 4 bs M) => HeadRefIs.get_ok q h1 h2 uM x2
          unfold ghV at HG HG2
          have HI := fun (W : World) (q : MemAt W p g 4 M) => HeadIs.is_ok q uM x2 x4
          have HI2 := fun (W : World) (q : Ref02.RM W B r v 4 bs M) => HeadRefIs.is_ok q h1 h2 uM x2 x4
          generalize ghK 4 M x2 = g0 at HG HG2
          generalize ghL 4 M x2 = g1 at HG HG2
          generalize ghZ 4 M x2 = g2 at HG HG2
          generalize ghT 4 M x2 = g3 at HG HG2
          generalize ghE 4 M x2 = ge at HG HG2
          generalize isE 4 M x2 x4 = is at HI HI2
          have HG' := Lib.hid HG
          have HG2' := Lib.hid HG2
          have HI' := Lib.hid HI
          have HI2' := Lib.hid HI2
          clear HG HG2 HI HI2 uM
          have cc := (SK.out _ T6.k).1
          go_wp2_with fail
          refine Calls.mono (HG'.out _ T6.m) ?_
          rintro e w7 ⟨rfl, kk⟩
          replace T6 := (T6.chg0 kk).chg0 ((Chg.refl [] w7).alloc (.cells (headC g0 g1 g2 g3) 24))
          obtain ⟨d1, ed1⟩ : ∃ d, w7.heap.size = d := ⟨_, rfl⟩
          have D1 := Blk.new' w7 24 (headC g0 g1 g2 g3) ed1
          clear kk cc
          have cc := (SK.out _ T6.k).1
          go_wp2_with fail
          refine Calls.mono (HG2'.out _ T6.r) ?_
          rintro e w8 ⟨rfl, kk⟩
          replace T6 := (T6.chg0 kk).chg0 ((Chg.refl [] w8).alloc (.cells (headC g0 g1 g2 g3) 24))
          replace D1 := (D1.chg kk (by simp)).alloc (.cells (headC g0 g1 g2 g3) 24)
          obtain ⟨d2, ed2⟩ : ∃ d, w8.heap.size = d := ⟨_, rfl⟩
          have D2 := Blk.new' w8 24 (headC g0 g1 g2 g3) ed2
          clear kk cc
          go_wp2_with fail
          replace T6 := T6.drew
          replace D1 := D1.drew
          replace D2 := D2.drew
          go_region_held3 (fun V => V.cell? (a2.add k) = some (.int .i64 x2) ∧ V.cell? (a4.add k) = some (.int .i64 x4) ∧ V.cell? ⟨d1, 0, none⟩ = some (.int .i64 g0) ∧ V.cell? ⟨d1, 1, none⟩ = some (.int .i64 g1) ∧ V.cell? ⟨d1, 2, none⟩ = some (.bool g2) ∧ V.cell? ⟨d1, 3, none⟩ = some (.int .i64 g3) ∧ V.cell? ⟨d2, 0, none⟩ = some (.int .i64 g0) ∧ V.cell? ⟨d2, 1, none⟩ = some (.int .i64 g1) ∧ V.cell? ⟨d2, 2, none⟩ = some (.bool g2) ∧ V.cell? ⟨d2, 3, none⟩ = some (.int .i64 g3)) (exact ⟨(SK.out _ T6.k).1, (SK.out _ T6.k).2.2.2.2.2, D1.cell 0, D1.cell 1, D1.cell 2, D1.cell 3, D2.cell 0, D2.cell 1, D2.cell 2, D2.cell 3⟩)
            (first
            | (go_at_call 21; refine Calls.mono (HI'.out _ T6.m) ?_; rintro e w9 ⟨rfl, kk⟩; replace T6 := T6.chg0 kk; replace D1 := D1.chg kk (by simp); replace D2 := D2.chg kk (by simp); clear kk)
            | (go_at_call 26; refine Calls.mono (HI2'.out _ T6.r) ?_; rintro e w9 ⟨rfl, kk⟩; replace T6 := T6.chg0 kk; replace D1 := D1.chg kk (by simp); replace D2 := D2.chg kk (by simp); clear kk)
            | (go_at_call 27; refine Calls.mono (alike_ok T6) ?_; rintro e w9 ⟨rfl, kk⟩; replace T6 := T6.chg0 kk; replace D1 := D1.chg kk (by simp); replace D2 := D2.chg kk (by simp); clear kk))
          go_wp2
          go_roundw
          case rel => exact ⟨k + 1, M, by go_num, by omega, T6⟩
          case measure => simp [intOf]; omega
      · as_aux_lemma =>
        have K := T.k.drew
        have m0 := T.m.drew
        have r0 := T.r.drew
        have fg := T.fg
        have fB := T.fB
        go_wp2_with fail
        clear cell1 y3
        go_region_held3 (fun V => V.cell? (a2.add k) = some (.int .i64 x2) ∧ V.cell? (a3.add (k * 4)) = some (.int .i64 hk') ∧ V.cell? ⟨(a3.add (k * 4)).block, (a3.add (k * 4)).off + 1, none⟩ = some (.int .i64 hl') ∧ V.cell? ⟨(a3.add (k * 4)).block, (a3.add (k * 4)).off + 2, none⟩ = some (.bool hz') ∧ V.cell? ⟨(a3.add (k * 4)).block, (a3.add (k * 4)).off + 3, none⟩ = some (.int .i64 ht')) (exact ⟨(SK.out _ K).1, (SK.out _ K).2.1, (SK.out _ K).2.2.1, (SK.out _ K).2.2.2.1, (SK.out _ K).2.2.2.2.1⟩)
          (first
          | (go_at_call 20; refine Calls.mono (HeadIs.make_ok m0 x2 hk' hl' hz' ht') ?_; rintro e w5 ⟨rfl, m5, kk⟩; replace K := K.trans kk (by simp; omega); have r5 := ref_keep m0 r0 kk)
          | (go_at_call 23; refine Calls.mono (HeadRefIs.make_ok r5 h1 h2 x2 hk' hl' hz' ht') ?_; rintro e w6 ⟨rfl, r6, kk⟩; have m6 := Ref02.chr_mem m5 kk; replace K := Ref02.chr_chg K kk fB))
        have T6 : Both w w6 p r 4 B g v bs _ := ⟨m6, r6, T.fB, T.fp, T.fg, K, HeadBack.hmake_u64 T.u _ _ _ _ _⟩
        clear m6 r6 m5 r5 m0 r0 K T fg fB
        generalize hmakeL 4 L x2 hk' hl' hz' ht' = M at *
        as_aux_lemma =>
          have uM := T6.u
          have HG := fun (W : World) (q : MemAt W p g 4 M) => get_ok q uM x2
          have HG2 := fun (W : World) (q : Ref02.RM W B r v 4 bs M) => HeadRefIs.get_ok q h1 h2 uM x2
          unfold ghV at HG HG2
          have HI := fun (W : World) (q : MemAt W p g 4 M) => HeadIs.is_ok q uM x2 x4
          have HI2 := fun (W : World) (q : Ref02.RM W B r v 4 bs M) => HeadRefIs.is_ok q h1 h2 uM x2 x4
          generalize ghK 4 M x2 = g0 at HG HG2
          generalize ghL 4 M x2 = g1 at HG HG2
          generalize ghZ 4 M x2 = g2 at HG HG2
          generalize ghT 4 M x2 = g3 at HG HG2
          generalize ghE 4 M x2 = ge at HG HG2
          generalize isE 4 M x2 x4 = is at HI HI2
          have HG' := Lib.hid HG
          have HG2' := Lib.hid HG2
          have HI' := Lib.hid HI
          have HI2' := Lib.hid HI2
          clear HG HG2 HI HI2 uM
          have cc := (SK.out _ T6.k).1
          go_wp2_with fail
          refine Calls.mono (HG'.out _ T6.m) ?_
          rintro e w7 ⟨rfl, kk⟩
          replace T6 := (T6.chg0 kk).chg0 ((Chg.refl [] w7).alloc (.cells (headC g0 g1 g2 g3) 24))
          obtain ⟨d1, ed1⟩ : ∃ d, w7.heap.size = d := ⟨_, rfl⟩
          have D1 := Blk.new' w7 24 (headC g0 g1 g2 g3) ed1
          clear kk cc
          have cc := (SK.out _ T6.k).1
          go_wp2_with fail
          refine Calls.mono (HG2'.out _ T6.r) ?_
          rintro e w8 ⟨rfl, kk⟩
          replace T6 := (T6.chg0 kk).chg0 ((Chg.refl [] w8).alloc (.cells (headC g0 g1 g2 g3) 24))
          replace D1 := (D1.chg kk (by simp)).alloc (.cells (headC g0 g1 g2 g3) 24)
          obtain ⟨d2, ed2⟩ : ∃ d, w8.heap.size = d := ⟨_, rfl⟩
          have D2 := Blk.new' w8 24 (headC g0 g1 g2 g3) ed2
          clear kk cc
          go_wp2_with fail
          replace T6 := T6.drew
          replace D1 := D1.drew
          replace D2 := D2.drew
          go_region_held3 (fun V => V.cell? (a2.add k) = some (.int .i64 x2) ∧ V.cell? (a4.add k) = some (.int .i64 x4) ∧ V.cell? ⟨d1, 0, none⟩ = some (.int .i64 g0) ∧ V.cell? ⟨d1, 1, none⟩ = some (.int .i64 g1) ∧ V.cell? ⟨d1, 2, none⟩ = some (.bool g2) ∧ V.cell? ⟨d1, 3, none⟩ = some (.int .i64 g3) ∧ V.cell? ⟨d2, 0, none⟩ = some (.int .i64 g0) ∧ V.cell? ⟨d2, 1, none⟩ = some (.int .i64 g1) ∧ V.cell? ⟨d2, 2, none⟩ = some (.bool g2) ∧ V.cell? ⟨d2, 3, none⟩ = some (.int .i64 g3)) (exact ⟨(SK.out _ T6.k).1, (SK.out _ T6.k).2.2.2.2.2, D1.cell 0, D1.cell 1, D1.cell 2, D1.cell 3, D2.cell 0, D2.cell 1, D2.cell 2, D2.cell 3⟩)
            (first
            | (go_at_call 21; refine Calls.mono (HI'.out _ T6.m) ?_; rintro e w9 ⟨rfl, kk⟩; replace T6 := T6.chg0 kk; replace D1 := D1.chg kk (by simp); replace D2 := D2.chg kk (by simp); clear kk)
            | (go_at_call 26; refine Calls.mono (HI2'.out _ T6.r) ?_; rintro e w9 ⟨rfl, kk⟩; replace T6 := T6.chg0 kk; replace D1 := D1.chg kk (by simp); replace D2 := D2.chg kk (by simp); clear kk)
            | (go_at_call 27; refine Calls.mono (alike_ok T6) ?_; rintro e w9 ⟨rfl, kk⟩; replace T6 := T6.chg0 kk; replace D1 := D1.chg kk (by simp); replace D2 := D2.chg kk (by simp); clear kk))
          go_wp2
          go_roundw
          case rel => exact ⟨k + 1, M, by go_num, by omega, T6⟩
          case measure => simp [intOf]; omega
      · as_aux_lemma =>
        have K := T.k.drew
        have T6 := T.drew
        go_wp2_with fail
        clear cell1 y3 T
        go_region_held3 (fun V => V.cell? (a2.add k) = some (.int .i64 x2) ∧ V.cell? (a3.add (k * 4)) = some (.int .i64 hk') ∧ V.cell? ⟨(a3.add (k * 4)).block, (a3.add (k * 4)).off + 1, none⟩ = some (.int .i64 hl') ∧ V.cell? ⟨(a3.add (k * 4)).block, (a3.add (k * 4)).off + 2, none⟩ = some (.bool hz') ∧ V.cell? ⟨(a3.add (k * 4)).block, (a3.add (k * 4)).off + 3, none⟩ = some (.int .i64 ht')) (exact ⟨(SK.out _ K).1, (SK.out _ K).2.1, (SK.out _ K).2.2.1, (SK.out _ K).2.2.2.1, (SK.out _ K).2.2.2.2.1⟩)
          (first
          | (go_at_call 19; refine Calls.mono (HeadOne.check_ok hk' hl' hz' ht' _) ?_; rintro e w5 ⟨rfl, kk⟩; replace K := K.trans kk (by simp); replace T6 := T6.chg0 kk)
          | (go_at_call 24; refine Calls.mono (HeadRefIs.check_ok hk' hl' hz' ht' _) ?_; rintro e w6 ⟨rfl, kk⟩; replace K := K.trans kk (by simp); replace T6 := T6.chg0 kk))
        clear K
        obtain ⟨M, rfl⟩ : ∃ M, M = L := ⟨_, rfl⟩
        as_aux_lemma =>
          have uM := T6.u
          have HG := fun (W : World) (q : MemAt W p g 4 M) => get_ok q uM x2
          have HG2 := fun (W : World) (q : Ref02.RM W B r v 4 bs M) => HeadRefIs.get_ok q h1 h2 uM x2
          unfold ghV at HG HG2
          have HI := fun (W : World) (q : MemAt W p g 4 M) => HeadIs.is_ok q uM x2 x4
          have HI2 := fun (W : World) (q : Ref02.RM W B r v 4 bs M) => HeadRefIs.is_ok q h1 h2 uM x2 x4
          generalize ghK 4 M x2 = g0 at HG HG2
          generalize ghL 4 M x2 = g1 at HG HG2
          generalize ghZ 4 M x2 = g2 at HG HG2
          generalize ghT 4 M x2 = g3 at HG HG2
          generalize ghE 4 M x2 = ge at HG HG2
          generalize isE 4 M x2 x4 = is at HI HI2
          have HG' := Lib.hid HG
          have HG2' := Lib.hid HG2
          have HI' := Lib.hid HI
          have HI2' := Lib.hid HI2
          clear HG HG2 HI HI2 uM
          have cc := (SK.out _ T6.k).1
          go_wp2_with fail
          refine Calls.mono (HG'.out _ T6.m) ?_
          rintro e w7 ⟨rfl, kk⟩
          replace T6 := (T6.chg0 kk).chg0 ((Chg.refl [] w7).alloc (.cells (headC g0 g1 g2 g3) 24))
          obtain ⟨d1, ed1⟩ : ∃ d, w7.heap.size = d := ⟨_, rfl⟩
          have D1 := Blk.new' w7 24 (headC g0 g1 g2 g3) ed1
          clear kk cc
          have cc := (SK.out _ T6.k).1
          go_wp2_with fail
          refine Calls.mono (HG2'.out _ T6.r) ?_
          rintro e w8 ⟨rfl, kk⟩
          replace T6 := (T6.chg0 kk).chg0 ((Chg.refl [] w8).alloc (.cells (headC g0 g1 g2 g3) 24))
          replace D1 := (D1.chg kk (by simp)).alloc (.cells (headC g0 g1 g2 g3) 24)
          obtain ⟨d2, ed2⟩ : ∃ d, w8.heap.size = d := ⟨_, rfl⟩
          have D2 := Blk.new' w8 24 (headC g0 g1 g2 g3) ed2
          clear kk cc
          go_wp2_with fail
          replace T6 := T6.drew
          replace D1 := D1.drew
          replace D2 := D2.drew
          go_region_held3 (fun V => V.cell? (a2.add k) = some (.int .i64 x2) ∧ V.cell? (a4.add k) = some (.int .i64 x4) ∧ V.cell? ⟨d1, 0, none⟩ = some (.int .i64 g0) ∧ V.cell? ⟨d1, 1, none⟩ = some (.int .i64 g1) ∧ V.cell? ⟨d1, 2, none⟩ = some (.bool g2) ∧ V.cell? ⟨d1, 3, none⟩ = some (.int .i64 g3) ∧ V.cell? ⟨d2, 0, none⟩ = some (.int .i64 g0) ∧ V.cell? ⟨d2, 1, none⟩ = some (.int .i64 g1) ∧ V.cell? ⟨d2, 2, none⟩ = some (.bool g2) ∧ V.cell? ⟨d2, 3, none⟩ = some (.int .i64 g3)) (exact ⟨(SK.out _ T6.k).1, (SK.out _ T6.k).2.2.2.2.2, D1.cell 0, D1.cell 1, D1.cell 2, D1.cell 3, D2.cell 0, D2.cell 1, D2.cell 2, D2.cell 3⟩)
            (first
            | (go_at_call 21; refine Calls.mono (HI'.out _ T6.m) ?_; rintro e w9 ⟨rfl, kk⟩; replace T6 := T6.chg0 kk; replace D1 := D1.chg kk (by simp); replace D2 := D2.chg kk (by simp); clear kk)
            | (go_at_call 26; refine Calls.mono (HI2'.out _ T6.r) ?_; rintro e w9 ⟨rfl, kk⟩; replace T6 := T6.chg0 kk; replace D1 := D1.chg kk (by simp); replace D2 := D2.chg kk (by simp); clear kk)
            | (go_at_call 27; refine Calls.mono (alike_ok T6) ?_; rintro e w9 ⟨rfl, kk⟩; replace T6 := T6.chg0 kk; replace D1 := D1.chg kk (by simp); replace D2 := D2.chg kk (by simp); clear kk))
          go_wp2
          go_roundw
          case rel => exact ⟨k + 1, M, by go_num, by omega, T6⟩
          case measure => simp [intOf]; omega
    · have hx : n1 ≤ k ∨ (k < n1 ∧ n2 ≤ k) ∨ (k < n1 ∧ k < n2 ∧ n3 ≤ k) ∨ (k < n1 ∧ k < n2 ∧ k < n3 ∧ n4 ≤ k) ∨ (k < n1 ∧ k < n2 ∧ k < n3 ∧ k < n4 ∧ 40 ≤ k) := by omega
      have K := T.k
      clear hlt T
      rcases hx with hx | ⟨hx, hy⟩ | ⟨hx, hy, hz⟩ | ⟨hx, hy, hz, hu⟩ | ⟨hx, hy, hz, hu, ht⟩
      all_goals
        go_wp2_with (go_at_call 17; refine Calls.mono (HeadOne.awake_ok _) ?_; rintro e w10 ⟨rfl, kk⟩; replace K := K.trans kk (by simp); clear kk)
        go_ret
        exact ⟨rfl, K⟩
end Go.Proofs.Ytdlaiohoofbplaa.HeadPlays
