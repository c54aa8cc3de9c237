/- MemPlays' walk. -/
import Derived.Test.YtofdcnjgfohmcaaRef02d
import Derived.Test.YtofdcnjgfohmcaaMemOne
import Derived.Test.YtofdcnjgfohmcaaWords02
import Derived.Deep.RegionHeld3
import Derived.Lib.Hide
namespace Go.Proofs.Ytofdcnjgfohmcaa.MemPlays
open Go Go.RowKit Go.Proofs.Ytofdcnjgfohmcaa.Heap Go.Proofs.Ytofdcnjgfohmcaa.Mem

/-- What Words tells. -/
def wdL (n : Nat) (L : List Int) (f : Int) : List Int := if 0 ≤ f ∧ f < n then frL L f.toNat else []
theorem nums_own {w : World} {b : Nat × Nat} {xs : List Int} (h : w.ownsRow 0 23 1 (Ref02.rowV b) 36 (nums .u64 xs)) : Nums w .u64 (some ⟨b.1, 0, none⟩) 36 xs := own_nums h (by decide)
theorem nums_blk {w : World} {g : Nat} {t : TypeId} {L : List Int} (h : Blk w g t (nums .u64 L).toArray) (hl : L.length = 36) : Nums w .u64 (some ⟨g, 0, none⟩) 36 L := by
  have := Nums.of_blk (k := .u64) (o := 0) (xs := L) h (by omega) (fun j hj => by rw [Nat.zero_add, List.getElem?_toArray]; exact nums_get _ _ _ hj)
  rwa [hl] at this
theorem mwords {w : World} {p g n : Nat} {L : List Int} (h : MemAt w p g n L) (f : Int) : Calls Try.prog 16 #[.pointer (some ⟨p, 0, none⟩), .int .i64 f] w fun e w' => ∃ A m c, e = .returned (.tuple #[.slice A m c, .int .i64 (canF n f)]) ∧ Nums w' .u64 A m (wdL n L f) ∧ Chg [] w w' := by
  refine (Mem.words_ok h f).mono ?_
  rintro e w' ⟨b, rfl, h1, h2, h3⟩
  unfold wdsV wdL
  by_cases ho : 0 ≤ f ∧ f < n
  · rw [if_pos ho, if_pos ho]
    exact ⟨_, _, _, rfl, nums_blk (h1 ho) (frL_len h.len (by omega)), h3⟩
  · rw [if_neg ho, if_neg ho]
    exact ⟨_, _, _, rfl, Nums.nil _ _ _, h3⟩
theorem rwords {w : World} {B p n : Nat} {v : Value} {bs : List (Nat × Nat)} {L : List Int} (h : Ref02.RM w B p v n bs L) (h1 : 1 ≤ n) (h2 : n ≤ 64) (f : Int) : Calls Try.prog 28 #[.pointer (some ⟨p, 0, none⟩), .int .i64 f] w fun e w' => ∃ A m c, e = .returned (.tuple #[.slice A m c, .int .i64 (canF n f)]) ∧ Nums w' .u64 A m (wdL n L f) ∧ Chg [] w w' := by
  unfold wdL canF
  by_cases ho : 0 ≤ f ∧ f < n
  · rw [if_pos ho, if_pos ho]
    refine (Ref02.words_ok h h1 h2 f ho).mono ?_
    rintro e w' ⟨b, rfl, h3, h4, h5⟩
    exact ⟨_, _, _, rfl, nums_own h3, h5⟩
  · rw [if_neg ho, if_neg ho]
    refine (Ref02.words_no h h1 h2 f ho).mono ?_
    rintro e w' ⟨rfl, rfl⟩
    exact ⟨_, _, _, rfl, Nums.nil _ _ _, Chg.refl _ _⟩
theorem wsame {w : World} {A B : Option Addr} {n m c d : Nat} {xs : List Int} (hx : Nums w .u64 A n xs) (hy : Nums w .u64 B m xs) :
    Calls Try.prog 18 #[.slice A n c, .slice B m d] w fun e w' => e = .returned (.bool true) ∧ Chg [] w w' := by
  refine (Words02.words_any _ _ _ _ _ _ _ _ w hx hy).mono ?_
  rintro e w' ⟨rfl, k, rfl⟩
  exact ⟨by rw [decide_eq_true rfl], (Chg.refl _ _).drewN k⟩

/-- Both memories with the same words. -/
structure Two (w : World) (B p g n : Nat) (r : Nat) (v : Value) (bs : List (Nat × Nat)) (L : List Int) : Prop where
  m : MemAt w p g n L
  r : Ref02.RM w B r v n bs L
theorem Two.chg0 {w w' : World} {B p g n r : Nat} {v : Value} {bs : List (Nat × Nat)} {L : List Int} (h : Two w B p g n r v bs L) (hc : Chg [] w w') : Two w' B p g n r v bs L := ⟨h.m.chg0 hc, h.r.chg0 hc⟩
theorem ref_keep {w w' : World} {B p g n m r : Nat} {v : Value} {bs : List (Nat × Nat)} {L M : List Int} (h : MemAt w p g n L) (k : Ref02.RM w B r v m bs M) (hc : Chg [g] w w') : Ref02.RM w' B r v m bs M := k.chgT h.row hc (by decide) (by decide) (by decide)

set_option maxHeartbeats 8000000 in
set_option maxRecDepth 100000 in
theorem memPlays_walk (fr : Int) (A1 : Option Addr) (n1 c1 : Nat) (ks : List Int) (A2 : Option Addr) (n2 c2 : Nat) (fs : List Int) (A3 : Option Addr) (n3 c3 : Nat) (gs : List Int) (A4 : Option Addr) (n4 c4 : Nat) (ws : List Int) (w : World)
    (z1 : Nums w .u8 A1 n1 ks) (hks : ∀ x, x ∈ ks → 0 ≤ x) (z2 : Nums w .i64 A2 n2 fs) (z3 : Nums w .i64 A3 n3 gs) (z4 : Nums w .u64 A4 n4 ws) :
    Calls Try.prog 7 #[.int .i64 fr, .slice A1 n1 c1, .slice A2 n2 c2, .slice A3 n3 c3, .slice A4 n4 c4] w fun e w' => e = .returned (.bool true) ∧ Chg [] w w' := by
  have b1 := z1.2.1
  have b2 := z2.2.1
  have b3 := z3.2.1
  have b4 := z4.2.1
  have Z1 := Lib.hid z1
  have Z2 := Lib.hid z2
  have Z3 := Lib.hid z3
  have Z4 := Lib.hid z4
  have HKS : Hid _ := hks
  clear z1 z2 z3 z4 hks
  by_cases hfr : 1 ≤ fr ∧ fr ≤ 64
  · obtain ⟨n, rfl⟩ : ∃ n : Nat, fr = n := ⟨fr.toNat, by omega⟩
    have h1 : 1 ≤ n := by omega
    have h2 : n ≤ 64 := by omega
    clear hfr
    go_enter Try.func7, Try.ntmps7
    go_wp2_with fail
    refine Calls.mono (Mem.new_ok n h1 h2 _) ?_
    rintro e w1 ⟨p, g, rfl, m, hp, hg, K⟩
    go_wp2_with fail
    refine Calls.mono (Ref02.new_ok n h1 h2 _) ?_
    rintro e w2 ⟨r, v, bs, rfl, rm, kk⟩
    have T : Two w2 w1.heap.size p g n r v bs (List.replicate (36 * n) 0) := ⟨m.chg0 kk, rm⟩
    have hBs := K.size
    replace K := K.trans kk (by simp)
    generalize w1.heap.size = B at *
    clear m rm kk
    go_wp2_with fail
    go_loopw [15] (fun i wr => ∃ k : Nat, ∃ L, i = .int .i64 k ∧ k ≤ n1 ∧ Two wr B p g n r v bs L ∧ Chg [] w wr) (fun i _ => n1 - (intOf i).toNat)
    case atStart => exact ⟨0, _, rfl, Nat.zero_le _, T, K⟩
    case round =>
      clear T K
      obtain ⟨k, L, rfl, hk, T, K⟩ := hrel
      by_cases hlt : k < n1 ∧ k < n2 ∧ k < n3 ∧ k < n4 ∧ k < 60
      · obtain ⟨l1, l2, l3, l4, l5⟩ := hlt
        obtain ⟨a1, rfl, d1⟩ := Z1.out.2.2 (by omega)
        obtain ⟨a2, rfl, d2⟩ := Z2.out.2.2 (by omega)
        obtain ⟨a3, rfl, d3⟩ := Z3.out.2.2 (by omega)
        obtain ⟨a4, rfl, d4⟩ := Z4.out.2.2 (by omega)
        have y0 : 0 ≤ ks.getD k 0 := HKS.out _ (by
          have := Z1.out.1
          rw [List.getD_eq_getElem?_getD, List.getElem?_eq_getElem (by omega)]
          exact List.getElem_mem _)
        have SK : Hid (∀ V, Chg [] w V → V.cell? (a2.add k) = some (.int .i64 (fs.getD k 0)) ∧ V.cell? (a3.add k) = some (.int .i64 (gs.getD k 0)) ∧ V.cell? (a4.add k) = some (.int .u64 (ws.getD k 0))) := fun V kV =>
          ⟨(Z2.out.chg kV (fun _ _ => by simp)).cells l2, (Z3.out.chg kV (fun _ _ => by simp)).cells l3, (Z4.out.chg kV (fun _ _ => by simp)).cells l4⟩
        have cell1 := (Z1.out.chg K (fun _ _ => by simp)).cells l1
        generalize ks.getD k 0 = y at *
        generalize fs.getD k 0 = x2 at *
        generalize gs.getD k 0 = x3 at *
        generalize ws.getD k 0 = x4 at *
        clear d1 d2 d3 d4
        have y5 : y % 5 = 0 ∨ y % 5 = 1 ∨ y % 5 = 2 ∨ y % 5 = 3 ∨ y % 5 = 4 := by omega
        rcases y5 with y5 | y5 | y5 | y5 | y5
        · as_aux_lemma =>
          go_wp2_with fail
          clear cell1 y5
          replace K := K.drew
          replace T := T.chg0 (Chg.refl [] wr).drew
          go_region_held3 (fun V => V.cell? (a2.add k) = some (.int .i64 x2) ∧ V.cell? (a3.add k) = some (.int .i64 x3) ∧ V.cell? (a4.add k) = some (.int .u64 x4)) (exact SK.out _ K)
            (first
            | (go_at_call 13; refine Calls.mono (Mem.store_ok T.m x2 x3 x4) ?_; rintro e w5 ⟨rfl, m5, kk⟩; replace K := K.trans kk (by simp; omega); have r5 := ref_keep T.m T.r kk)
            | (go_at_call 23; refine Calls.mono (Ref02.store_ok r5 h1 h2 x2 x3 x4) ?_; rintro e w6 ⟨rfl, r6, kk⟩; have m6 := Ref02.chr_mem m5 kk; replace K := Ref02.chr_chg K kk hBs))
          have T6 := Two.mk m6 r6
          clear m6 r6 m5 r5 T
          as_aux_lemma =>
            go_wp2_with fail
            replace K := K.drew
            replace T6 := T6.chg0 (Chg.refl [] _).drew
            go_region_held3 (fun V => V.cell? (a2.add k) = some (.int .i64 x2) ∧ V.cell? (a3.add k) = some (.int .i64 x3)) (exact ⟨(SK.out _ K).1, (SK.out _ K).2.1⟩) (first | (go_at_call 14; refine Calls.mono (Mem.load_ok T6.m x2 x3) ?_; rintro e w7 ⟨rfl, rfl⟩))
            go_wp2_with fail
            replace K := K.drew
            replace T6 := T6.chg0 (Chg.refl [] _).drew
            go_region_held3 (fun V => V.cell? (a2.add k) = some (.int .i64 x2) ∧ V.cell? (a3.add k) = some (.int .i64 x3)) (exact ⟨(SK.out _ K).1, (SK.out _ K).2.1⟩) (first | (go_at_call 27; refine Calls.mono (Ref02.load_ok T6.r h1 h2 x2 x3) ?_; rintro e w7 ⟨rfl, rfl⟩))
            have cc := (SK.out _ K).1
            go_wp2_with fail
            refine Calls.mono (mwords T6.m x2) ?_
            rintro e w8 ⟨AA, mm, cc1, rfl, ww, kk⟩
            replace K := K.trans kk (by simp)
            replace T6 := T6.chg0 kk
            clear kk cc
            have cc := (SK.out _ K).1
            go_wp2_with fail
            refine Calls.mono (rwords T6.r h1 h2 x2) ?_
            rintro e w9 ⟨AB, m2, cc2, rfl, wv, kk⟩
            replace K := K.trans kk (by simp)
            replace T6 := T6.chg0 kk
            replace ww := ww.chg kk (fun _ _ => by simp)
            clear kk cc
            have HW := Lib.hid (wsame (c := cc1) (d := cc2) ww wv)
            clear ww wv
            go_wp2_with (first
              | (go_at_call 18; refine Calls.mono HW.out ?_; rintro e w10 ⟨rfl, kk⟩; replace K := K.trans kk (by simp); replace T6 := T6.chg0 kk; clear kk)
              | (go_at_call 21; refine Calls.mono (Mem.len_ok T6.m) ?_; rintro e w10 ⟨rfl, rfl⟩))
            go_roundw
            case rel => exact ⟨k + 1, _, by go_num, by omega, T6, K⟩
            case measure => simp [intOf]; omega
        · as_aux_lemma =>
          go_wp2_with fail
          clear cell1 y5
          replace K := K.drew
          replace T := T.chg0 (Chg.refl [] wr).drew
          go_region_held3 (fun V => V.cell? (a2.add k) = some (.int .i64 x2) ∧ V.cell? (a3.add k) = some (.int .i64 x3) ∧ V.cell? (a4.add k) = some (.int .u64 x4)) (exact SK.out _ K)
            (first
            | (go_at_call 13; refine Calls.mono (Mem.store_ok T.m x2 x3 x4) ?_; rintro e w5 ⟨rfl, m5, kk⟩; replace K := K.trans kk (by simp; omega); have r5 := ref_keep T.m T.r kk)
            | (go_at_call 23; refine Calls.mono (Ref02.store_ok r5 h1 h2 x2 x3 x4) ?_; rintro e w6 ⟨rfl, r6, kk⟩; have m6 := Ref02.chr_mem m5 kk; replace K := Ref02.chr_chg K kk hBs))
          have T6 := Two.mk m6 r6
          clear m6 r6 m5 r5 T
          as_aux_lemma =>
            go_wp2_with fail
            replace K := K.drew
            replace T6 := T6.chg0 (Chg.refl [] _).drew
            go_region_held3 (fun V => V.cell? (a2.add k) = some (.int .i64 x2) ∧ V.cell? (a3.add k) = some (.int .i64 x3)) (exact ⟨(SK.out _ K).1, (SK.out _ K).2.1⟩) (first | (go_at_call 14; refine Calls.mono (Mem.load_ok T6.m x2 x3) ?_; rintro e w7 ⟨rfl, rfl⟩))
            go_wp2_with fail
            replace K := K.drew
            replace T6 := T6.chg0 (Chg.refl [] _).drew
            go_region_held3 (fun V => V.cell? (a2.add k) = some (.int .i64 x2) ∧ V.cell? (a3.add k) = some (.int .i64 x3)) (exact ⟨(SK.out _ K).1, (SK.out _ K).2.1⟩) (first | (go_at_call 27; refine Calls.mono (Ref02.load_ok T6.r h1 h2 x2 x3) ?_; rintro e w7 ⟨rfl, rfl⟩))
            have cc := (SK.out _ K).1
            go_wp2_with fail
            refine Calls.mono (mwords T6.m x2) ?_
            rintro e w8 ⟨AA, mm, cc1, rfl, ww, kk⟩
            replace K := K.trans kk (by simp)
            replace T6 := T6.chg0 kk
            clear kk cc
            have cc := (SK.out _ K).1
            go_wp2_with fail
            refine Calls.mono (rwords T6.r h1 h2 x2) ?_
            rintro e w9 ⟨AB, m2, cc2, rfl, wv, kk⟩
            replace K := K.trans kk (by simp)
            replace T6 := T6.chg0 kk
            replace ww := ww.chg kk (fun _ _ => by simp)
            clear kk cc
            have HW := Lib.hid (wsame (c := cc1) (d := cc2) ww wv)
            clear ww wv
            go_wp2_with (first
              | (go_at_call 18; refine Calls.mono HW.out ?_; rintro e w10 ⟨rfl, kk⟩; replace K := K.trans kk (by simp); replace T6 := T6.chg0 kk; clear kk)
              | (go_at_call 21; refine Calls.mono (Mem.len_ok T6.m) ?_; rintro e w10 ⟨rfl, rfl⟩))
            go_roundw
            case rel => exact ⟨k + 1, _, by go_num, by omega, T6, K⟩
            case measure => simp [intOf]; omega
        · as_aux_lemma =>
          go_wp2_with fail
          clear cell1 y5
          replace K := K.drew
          replace T := T.chg0 (Chg.refl [] wr).drew
          go_region_held3 (fun V => V.cell? (a2.add k) = some (.int .i64 x2) ∧ V.cell? (a3.add k) = some (.int .i64 x3) ∧ V.cell? (a4.add k) = some (.int .u64 x4)) (exact SK.out _ K)
            (first
            | (go_at_call 17; refine Calls.mono (Mem.clear_ok T.m x2) ?_; rintro e w5 ⟨rfl, m5, kk⟩; replace K := K.trans kk (by simp; omega); have r5 := ref_keep T.m T.r kk)
            | (go_at_call 24; refine Calls.mono (Ref02.clear_ok r5 h1 h2 x2) ?_; rintro e w6 ⟨rfl, r6, kk⟩; have m6 := Ref02.chr_mem m5 kk; replace K := Ref02.chr_chg K kk hBs))
          have T6 := Two.mk m6 r6
          clear m6 r6 m5 r5 T
          as_aux_lemma =>
            go_wp2_with fail
            replace K := K.drew
            replace T6 := T6.chg0 (Chg.refl [] _).drew
            go_region_held3 (fun V => V.cell? (a2.add k) = some (.int .i64 x2) ∧ V.cell? (a3.add k) = some (.int .i64 x3)) (exact ⟨(SK.out _ K).1, (SK.out _ K).2.1⟩) (first | (go_at_call 14; refine Calls.mono (Mem.load_ok T6.m x2 x3) ?_; rintro e w7 ⟨rfl, rfl⟩))
            go_wp2_with fail
            replace K := K.drew
            replace T6 := T6.chg0 (Chg.refl [] _).drew
            go_region_held3 (fun V => V.cell? (a2.add k) = some (.int .i64 x2) ∧ V.cell? (a3.add k) = some (.int .i64 x3)) (exact ⟨(SK.out _ K).1, (SK.out _ K).2.1⟩) (first | (go_at_call 27; refine Calls.mono (Ref02.load_ok T6.r h1 h2 x2 x3) ?_; rintro e w7 ⟨rfl, rfl⟩))
            have cc := (SK.out _ K).1
            go_wp2_with fail
            refine Calls.mono (mwords T6.m x2) ?_
            rintro e w8 ⟨AA, mm, cc1, rfl, ww, kk⟩
            replace K := K.trans kk (by simp)
            replace T6 := T6.chg0 kk
            clear kk cc
            have cc := (SK.out _ K).1
            go_wp2_with fail
            refine Calls.mono (rwords T6.r h1 h2 x2) ?_
            rintro e w9 ⟨AB, m2, cc2, rfl, wv, kk⟩
            replace K := K.trans kk (by simp)
            replace T6 := T6.chg0 kk
            replace ww := ww.chg kk (fun _ _ => by simp)
            clear kk cc
            have HW := Lib.hid (wsame (c := cc1) (d := cc2) ww wv)
            clear ww wv
            go_wp2_with (first
              | (go_at_call 18; refine Calls.mono HW.out ?_; rintro e w10 ⟨rfl, kk⟩; replace K := K.trans kk (by simp); replace T6 := T6.chg0 kk; clear kk)
              | (go_at_call 21; refine Calls.mono (Mem.len_ok T6.m) ?_; rintro e w10 ⟨rfl, rfl⟩))
            go_roundw
            case rel => exact ⟨k + 1, _, by go_num, by omega, T6, K⟩
            case measure => simp [intOf]; omega
        · as_aux_lemma =>
          go_wp2_with fail
          clear cell1 y5
          replace K := K.drew
          replace T := T.chg0 (Chg.refl [] wr).drew
          go_region_held3 (fun V => V.cell? (a2.add k) = some (.int .i64 x2) ∧ V.cell? (a3.add k) = some (.int .i64 x3) ∧ V.cell? (a4.add k) = some (.int .u64 x4)) (exact SK.out _ K)
            (first
            | (go_at_call 19; refine Calls.mono (Mem.copy_ok T.m x2 x3) ?_; rintro e w5 ⟨rfl, m5, kk⟩; replace K := K.trans kk (by simp; omega); have r5 := ref_keep T.m T.r kk)
            | (go_at_call 25; refine Calls.mono (Ref02.copy_ok r5 h1 h2 x2 x3) ?_; rintro e w6 ⟨rfl, r6, kk⟩; have m6 := Ref02.chr_mem m5 kk; replace K := Ref02.chr_chg K kk hBs))
          have T6 := Two.mk m6 r6
          clear m6 r6 m5 r5 T
          as_aux_lemma =>
            go_wp2_with fail
            replace K := K.drew
            replace T6 := T6.chg0 (Chg.refl [] _).drew
            go_region_held3 (fun V => V.cell? (a2.add k) = some (.int .i64 x2) ∧ V.cell? (a3.add k) = some (.int .i64 x3)) (exact ⟨(SK.out _ K).1, (SK.out _ K).2.1⟩) (first | (go_at_call 14; refine Calls.mono (Mem.load_ok T6.m x2 x3) ?_; rintro e w7 ⟨rfl, rfl⟩))
            go_wp2_with fail
            replace K := K.drew
            replace T6 := T6.chg0 (Chg.refl [] _).drew
            go_region_held3 (fun V => V.cell? (a2.add k) = some (.int .i64 x2) ∧ V.cell? (a3.add k) = some (.int .i64 x3)) (exact ⟨(SK.out _ K).1, (SK.out _ K).2.1⟩) (first | (go_at_call 27; refine Calls.mono (Ref02.load_ok T6.r h1 h2 x2 x3) ?_; rintro e w7 ⟨rfl, rfl⟩))
            have cc := (SK.out _ K).1
            go_wp2_with fail
            refine Calls.mono (mwords T6.m x2) ?_
            rintro e w8 ⟨AA, mm, cc1, rfl, ww, kk⟩
            replace K := K.trans kk (by simp)
            replace T6 := T6.chg0 kk
            clear kk cc
            have cc := (SK.out _ K).1
            go_wp2_with fail
            refine Calls.mono (rwords T6.r h1 h2 x2) ?_
            rintro e w9 ⟨AB, m2, cc2, rfl, wv, kk⟩
            replace K := K.trans kk (by simp)
            replace T6 := T6.chg0 kk
            replace ww := ww.chg kk (fun _ _ => by simp)
            clear kk cc
            have HW := Lib.hid (wsame (c := cc1) (d := cc2) ww wv)
            clear ww wv
            go_wp2_with (first
              | (go_at_call 18; refine Calls.mono HW.out ?_; rintro e w10 ⟨rfl, kk⟩; replace K := K.trans kk (by simp); replace T6 := T6.chg0 kk; clear kk)
              | (go_at_call 21; refine Calls.mono (Mem.len_ok T6.m) ?_; rintro e w10 ⟨rfl, rfl⟩))
            go_roundw
            case rel => exact ⟨k + 1, _, by go_num, by omega, T6, K⟩
            case measure => simp [intOf]; omega
        · as_aux_lemma =>
          go_wp2_with fail
          clear cell1 y5
          replace K := K.drew
          replace T := T.chg0 (Chg.refl [] wr).drew
          go_region_held3 (fun V => V.cell? (a2.add k) = some (.int .i64 x2) ∧ V.cell? (a3.add k) = some (.int .i64 x3) ∧ V.cell? (a4.add k) = some (.int .u64 x4)) (exact SK.out _ K)
            (first
            | (go_at_call 20; refine Calls.mono (Mem.same_ok T.m x2 x3) ?_; rintro e w5 ⟨rfl, kk⟩; replace K := K.trans kk (by simp); have m5 := T.m.chg0 kk; have r5 := T.r.chg0 kk)
            | (go_at_call 26; refine Calls.mono (Ref02.same_ok r5 h1 h2 x2 x3) ?_; rintro e w6 ⟨rfl, kk⟩; have m6 := m5.chg0 kk; have r6 := r5.chg0 kk; replace K := K.trans kk (by simp)))
          have T6 := Two.mk m6 r6
          clear m6 r6 m5 r5 T
          as_aux_lemma =>
            go_wp2_with fail
            replace K := K.drew
            replace T6 := T6.chg0 (Chg.refl [] _).drew
            go_region_held3 (fun V => V.cell? (a2.add k) = some (.int .i64 x2) ∧ V.cell? (a3.add k) = some (.int .i64 x3)) (exact ⟨(SK.out _ K).1, (SK.out _ K).2.1⟩) (first | (go_at_call 14; refine Calls.mono (Mem.load_ok T6.m x2 x3) ?_; rintro e w7 ⟨rfl, rfl⟩))
            go_wp2_with fail
            replace K := K.drew
            replace T6 := T6.chg0 (Chg.refl [] _).drew
            go_region_held3 (fun V => V.cell? (a2.add k) = some (.int .i64 x2) ∧ V.cell? (a3.add k) = some (.int .i64 x3)) (exact ⟨(SK.out _ K).1, (SK.out _ K).2.1⟩) (first | (go_at_call 27; refine Calls.mono (Ref02.load_ok T6.r h1 h2 x2 x3) ?_; rintro e w7 ⟨rfl, rfl⟩))
            have cc := (SK.out _ K).1
            go_wp2_with fail
            refine Calls.mono (mwords T6.m x2) ?_
            rintro e w8 ⟨AA, mm, cc1, rfl, ww, kk⟩
            replace K := K.trans kk (by simp)
            replace T6 := T6.chg0 kk
            clear kk cc
            have cc := (SK.out _ K).1
            go_wp2_with fail
            refine Calls.mono (rwords T6.r h1 h2 x2) ?_
            rintro e w9 ⟨AB, m2, cc2, rfl, wv, kk⟩
            replace K := K.trans kk (by simp)
            replace T6 := T6.chg0 kk
            replace ww := ww.chg kk (fun _ _ => by simp)
            clear kk cc
            have HW := Lib.hid (wsame (c := cc1) (d := cc2) ww wv)
            clear ww wv
            go_wp2_with (first
              | (go_at_call 18; refine Calls.mono HW.out ?_; rintro e w10 ⟨rfl, kk⟩; replace K := K.trans kk (by simp); replace T6 := T6.chg0 kk; clear kk)
              | (go_at_call 21; refine Calls.mono (Mem.len_ok T6.m) ?_; rintro e w10 ⟨rfl, rfl⟩))
            go_roundw
            case rel => exact ⟨k + 1, _, by go_num, by omega, T6, K⟩
            case measure => simp [intOf]; omega
      · have hx : n1 ≤ k ∨ (k < n1 ∧ n2 ≤ k) ∨ (k < n1 ∧ k < n2 ∧ n3 ≤ k) ∨ (k < n1 ∧ k < n2 ∧ k < n3 ∧ n4 ≤ k) ∨ (k < n1 ∧ k < n2 ∧ k < n3 ∧ k < n4 ∧ 60 ≤ k) := by omega
        clear hlt T
        rcases hx with hx | ⟨hx, hy⟩ | ⟨hx, hy, hz⟩ | ⟨hx, hy, hz, hu⟩ | ⟨hx, hy, hz, hu, ht⟩
        all_goals
          go_wp2_with (go_at_call 15; refine Calls.mono (Mem.awake_ok _) ?_; rintro e w10 ⟨rfl, kk⟩; replace K := K.trans kk (by simp); clear kk)
          go_ret
          exact ⟨rfl, K⟩
  · go_enter Try.func7, Try.ntmps7
    go_wp2_with fail
    refine Calls.mono (Mem.new_no fr hfr _) ?_
    rintro e w1 ⟨rfl, rfl⟩
    go_wp2_with fail
    refine Calls.mono (Ref02.new_no fr hfr _) ?_
    rintro e w1 ⟨rfl, rfl⟩
    clear hfr
    go_wp2_with (go_at_call 15; refine Calls.mono (Mem.awake_ok _) ?_; rintro e w10 ⟨rfl, K⟩)
    go_ret
    exact ⟨rfl, K⟩
end Go.Proofs.Ytofdcnjgfohmcaa.MemPlays
