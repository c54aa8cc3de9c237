/- SlotPlays' walk. -/
import Derived.Test.YtbjiecpkalcfeaaSlotRefA
import Derived.Test.YtbjiecpkalcfeaaSlotOne
import Derived.Test.YtbjiecpkalcfeaaTwo11
import Derived.Test.YtbjiecpkalcfeaaOpenRecs
import Derived.OrdersHeld
import Derived.Deep.Cut
import Derived.Deep.CutRange
namespace Go.Proofs.Ytbjiecpkalcfeaa.SlotPlays
open Go Go.RowKit Go.Proofs.Ytbjiecpkalcfeaa Go.Proofs.Ytbjiecpkalcfeaa.Heap Go.Proofs.Ytbjiecpkalcfeaa.Bits Go.Proofs.Ytbjiecpkalcfeaa.Cap Go.Proofs.Ytbjiecpkalcfeaa.CapGet Go.Proofs.Ytbjiecpkalcfeaa.Mem Go.Proofs.Ytbjiecpkalcfeaa.Two Go.Proofs.Ytbjiecpkalcfeaa.Slot Go.Proofs.Ytbjiecpkalcfeaa.SlotGen Go.Proofs.Ytbjiecpkalcfeaa.SlotIt Go.Proofs.Ytbjiecpkalcfeaa.SlotUse Go.Proofs.Ytbjiecpkalcfeaa.SlotAns Go.Proofs.Ytbjiecpkalcfeaa.SlotRefA Go.Proofs.Ytbjiecpkalcfeaa.OpenRecs

abbrev KS : List (Option IntKind) := [some .i64, some .i64, some .i64, some .i64, some .i64, some .i64]
/-- Six cells that hold a capability. -/
def CapAt (w : World) (q : Addr) (k r t l e a : Int) : Prop := w.cell? q = some (.int .i64 k) ∧ w.cell? ⟨q.block, q.off + 1, none⟩ = some (.int .i64 r) ∧ w.cell? ⟨q.block, q.off + 2, none⟩ = some (.int .i64 t) ∧ w.cell? ⟨q.block, q.off + 3, none⟩ = some (.int .i64 l) ∧ w.cell? ⟨q.block, q.off + 4, none⟩ = some (.int .i64 e) ∧ w.cell? ⟨q.block, q.off + 5, none⟩ = some (.int .i64 a)
theorem CapAt.stays {w V : World} {q : Addr} {k r t l e a : Int} (h : CapAt w q k r t l e a) (hV : Chg [] w V) : CapAt V q k r t l e a :=
  ⟨SlotAns.stays h.1 hV, SlotAns.stays h.2.1 hV, SlotAns.stays h.2.2.1 hV, SlotAns.stays h.2.2.2.1 hV, SlotAns.stays h.2.2.2.2.1 hV, SlotAns.stays h.2.2.2.2.2 hV⟩
theorem recs_at {w : World} {ad : Addr} {n : Nat} (h : RecsAt w (some ad) n KS) {i : Nat} (hi : i < n) : ∃ k r t l e a, CapAt w (ad.add (i * 6)) k r t l e a := by
  obtain ⟨a, e, hf⟩ := h.2 (by omega)
  obtain rfl : ad = a := Option.some.inj e
  obtain ⟨v0, ⟨x0, rfl, _⟩, c0⟩ := hf i hi 0 _ rfl
  obtain ⟨v1, ⟨x1, rfl, _⟩, c1⟩ := hf i hi 1 _ rfl
  obtain ⟨v2, ⟨x2, rfl, _⟩, c2⟩ := hf i hi 2 _ rfl
  obtain ⟨v3, ⟨x3, rfl, _⟩, c3⟩ := hf i hi 3 _ rfl
  obtain ⟨v4, ⟨x4, rfl, _⟩, c4⟩ := hf i hi 4 _ rfl
  obtain ⟨v5, ⟨x5, rfl, _⟩, c5⟩ := hf i hi 5 _ rfl
  have e : ∀ j, (⟨(ad.add (i * 6)).block, (ad.add (i * 6)).off + (j + 1), none⟩ : Addr) = ad.add (i * 6 + (j + 1)) := fun j => by
    rw [← add_of_add]
    generalize ad.add (i * 6) = q
    rfl
  exact ⟨x0, x1, x2, x3, x4, x5, c0, (by rw [e 0]; exact c1), (by rw [e 1]; exact c2), (by rw [e 2]; exact c3), (by rw [e 3]; exact c4), (by rw [e 4]; exact c5)⟩
theorem pL_u64 {n : Nat} {L : List Int} (h : U64 L) (f i k r t l e a : Int) : U64 (pL n L f i k r t l e a) := by
  unfold pL
  split
  · rename_i hc
    obtain ⟨w0, a0, -⟩ := CapBack.get_word hc.2
    exact (h.st _ _ (by omega) (by omega)).st _ _ (by omega) (by omega)
  · exact h
theorem laid3 (A : Option Addr) (m c : Nat) (xs : List Int) (w : World) (hx : Nums w .u64 A m xs) (hu : U64 xs) :
    Calls Try.prog 41 #[.int .i64 3, .slice A m c] w fun e w' => ∃ p r B g v bs L, e = .returned (.tuple #[.pointer (some ⟨p, 0, none⟩), .pointer (some ⟨r, 0, none⟩)]) ∧ Both w w' p r 3 B g v bs L := Two11.laid_ok 3 (by decide) (by decide) A m c xs w hx hu
/-- What both answer of a frame, over the same words. -/
structure Ans (L : List Int) (f x : Int) (w0 : World) (p r B g : Nat) (v : Value) (bs : List (Nat × Nat)) (k0 k1 k2 k3 k4 k5 ge uu ee x1 xe : Int) (V : Nat → Value) : Prop where
  g1 : ∀ W, Both w0 W p r 3 B g v bs L → Calls Try.prog 38 #[.pointer (some ⟨p, 0, none⟩), .int .i64 f, .int .i64 x] W fun e w' => e = .returned (.tuple #[capV k0 k1 k2 k3 k4 k5, .int .i64 ge]) ∧ Chg [] W w'
  g2 : ∀ W, Both w0 W p r 3 B g v bs L → Calls Try.prog 43 #[.pointer (some ⟨r, 0, none⟩), .int .i64 f, .int .i64 x] W fun e w' => e = .returned (.tuple #[capV k0 k1 k2 k3 k4 k5, .int .i64 ge]) ∧ Chg [] W w'
  u1 : ∀ W, Both w0 W p r 3 B g v bs L → Calls Try.prog 40 #[.pointer (some ⟨p, 0, none⟩), .int .i64 f] W fun e w' => e = .returned (.tuple #[.int .i64 uu, .int .i64 ee]) ∧ Chg [] W w'
  u2 : ∀ W, Both w0 W p r 3 B g v bs L → Calls Try.prog 44 #[.pointer (some ⟨r, 0, none⟩), .int .i64 f] W fun e w' => e = .returned (.tuple #[.int .i64 uu, .int .i64 ee]) ∧ Chg [] W w'
  f1 : ∀ W, Both w0 W p r 3 B g v bs L → Calls Try.prog 39 #[.pointer (some ⟨p, 0, none⟩), .int .i64 f] W fun e w' => e = .returned (.tuple #[.int .i64 x1, .int .i64 xe]) ∧ Chg [] W w'
  f2 : ∀ W, Both w0 W p r 3 B g v bs L → Calls Try.prog 45 #[.pointer (some ⟨r, 0, none⟩), .int .i64 f] W fun e w' => e = .returned (.tuple #[.int .i64 x1, .int .i64 xe]) ∧ Chg [] W w'
  a1 : ∀ W, Both w0 W p r 3 B g v bs L → Calls Try.prog 36 #[.pointer (some ⟨p, 0, none⟩), .int .i64 f] W fun e w' => ∃ v, e = .returned (.tuple #[v, .int .i64 ee]) ∧ (ee = 0 → w'.ownsRow 0 70 6 v 16 (capsG V (List.range 16))) ∧ (ee ≠ 0 → v = .slice none 0 0) ∧ Chg [] W w'
  a2 : ∀ W, Both w0 W p r 3 B g v bs L → Calls Try.prog 46 #[.pointer (some ⟨r, 0, none⟩), .int .i64 f] W fun e w' => ∃ v, e = .returned (.tuple #[v, .int .i64 ee]) ∧ (ee = 0 → w'.ownsRow 0 70 6 v 16 (capsG V (List.range 16))) ∧ (ee ≠ 0 → v = .slice none 0 0) ∧ Chg [] W w'
  cv : CapsV V
theorem ans {L : List Int} (uL : U64 L) (f x : Int) (w0 : World) (p r B g : Nat) (v : Value) (bs : List (Nat × Nat)) : ∃ k0 k1 k2 k3 k4 k5 ge uu ee x1 xe V, Ans L f x w0 p r B g v bs k0 k1 k2 k3 k4 k5 ge uu ee x1 xe V := by
  obtain ⟨Kd, hK⟩ : ∃ Kd : Nat → Int, CapsK (fun k => gV 3 L f k) Kd := ⟨fun k => Classical.choose (gV_form 3 L f k), fun k => Classical.choose_spec (gV_form 3 L f k)⟩
  obtain ⟨ee, he⟩ := errIs (fun k => gE 3 L f k)
  obtain ⟨x1, xe, hf⟩ := firstIs Kd ee
  obtain ⟨k0, k1, k2, k3, k4, k5, hg⟩ := gV_form 3 L f x
  have G1 : GetsG 3 L f p g (fun k => gV 3 L f k) (fun k => gE 3 L f k) := fun k W _ m => SlotGen.get_any m uL f k
  have G2 : GetsR 3 L f B r v bs (fun k => gV 3 L f k) (fun k => gE 3 L f k) := fun k W _ m => SlotRef.get_any m (by decide) (by decide) uL f k
  refine ⟨k0, k1, k2, k3, k4, k5, gE 3 L f x, usedV Kd ee, ee, x1, xe, fun k => gV 3 L f k, ?_⟩
  exact {
    g1 := fun W T => by have := SlotGen.get_any T.m uL f x; rw [hg] at this; exact this
    g2 := fun W T => by have := SlotRef.get_any T.r (by decide) (by decide) uL f x; rw [hg] at this; exact this
    u1 := fun W T => SlotAns.used_is G1 hK he W T.m
    u2 := fun W T => SlotRefA.used_is G2 hK he W T.r
    f1 := fun W T => SlotAns.first_is G1 hK he hf W T.m
    f2 := fun W T => SlotRefA.first_is G2 hK he hf W T.r
    a1 := fun W T => SlotAns.all_is G1 hK.caps he W T.m
    a2 := fun W T => SlotRefA.all_is G2 hK.caps he W T.r
    cv := hK.caps }

/-- Six cells of a block of one's own are written. -/
def wr6 (W : World) (d : Nat) (x0 x1 x2 x3 x4 x5 : Value) : World := (((((W.setCell ⟨d, 0, none⟩ x0).setCell ⟨d, 1, none⟩ x1).setCell ⟨d, 2, none⟩ x2).setCell ⟨d, 3, none⟩ x3).setCell ⟨d, 4, none⟩ x4).setCell ⟨d, 5, none⟩ x5
theorem wr6_blk {W : World} {d t : Nat} {a0 a1 a2 a3 a4 a5 : Value} (D : Blk W d t #[a0, a1, a2, a3, a4, a5]) (x0 x1 x2 x3 x4 x5 : Value) : Blk (wr6 W d x0 x1 x2 x3 x4 x5) d t #[x0, x1, x2, x3, x4, x5] := (((((D.set_ 0 x0).set_ 1 x1).set_ 2 x2).set_ 3 x3).set_ 4 x4).set_ 5 x5
theorem wr6_far {W : World} {d c t : Nat} {cs : Array Value} (D : Blk W c t cs) (hd : c ≠ d) (x0 x1 x2 x3 x4 x5 : Value) : Blk (wr6 W d x0 x1 x2 x3 x4 x5) c t cs := (((((D.far (p := ⟨d, 0, none⟩) hd x0).far (p := ⟨d, 1, none⟩) hd x1).far (p := ⟨d, 2, none⟩) hd x2).far (p := ⟨d, 3, none⟩) hd x3).far (p := ⟨d, 4, none⟩) hd x4).far (p := ⟨d, 5, none⟩) hd x5
theorem wr6_chg {w W : World} {d : Nat} (k : Chg [] w W) (hd : w.heap.size ≤ d) (x0 x1 x2 x3 x4 x5 : Value) : Chg [] w (wr6 W d x0 x1 x2 x3 x4 x5) := (((((k.setCell (.inr hd) x0).setCell (.inr hd) x1).setCell (.inr hd) x2).setCell (.inr hd) x3).setCell (.inr hd) x4).setCell (.inr hd) x5

set_option maxRecDepth 100000 in
set_option maxHeartbeats 8000000 in
theorem slotPlays_walk (A0 : Option Addr) (n0 c0 : Nat) (xs : List Int) (A1 : Option Addr) (n1 c1 : Nat) (fs : List Int) (A2 : Option Addr) (n2 c2 : Nat) (ats : List Int) (A3 : Option Addr) (n3 c3 : Nat) (w : World)
    (z0 : Nums w .u64 A0 n0 xs) (hu : U64 xs) (z1 : Nums w .i64 A1 n1 fs) (z2 : Nums w .i64 A2 n2 ats) (z3 : RecsAt w A3 n3 KS) :
    Calls Try.prog 8 #[.slice A0 n0 c0, .slice A1 n1 c1, .slice A2 n2 c2, .slice A3 n3 c3] w fun e w' => e = .returned (.bool true) ∧ Chg [] w w' := by
  have b1 := z1.2.1
  have b2 := z2.2.1
  have b3 := z3.1
  have Z0 := Lib.hid z0
  have Z1 := Lib.hid z1
  have Z2 := Lib.hid z2
  have Z3 := Lib.hid z3
  have HU := Lib.hid hu
  clear z0 z1 z2 z3 hu
  go_enter Try.func8, Try.ntmps8
  go_wp2_with fail
  refine Calls.mono (laid3 A0 n0 c0 xs _ Z0.out HU.out) ?_
  rintro e w1 ⟨p, r, B, g, v, bs, L, rfl, T⟩
  clear Z0 HU
  go_wp2_with fail
  go_loopw [11] (fun i wr => ∃ k : Nat, ∃ L, i = .int .i64 k ∧ k ≤ n1 ∧ Both w wr p r 3 B g v bs L) (fun i _ => n1 - (intOf i).toNat)
  case atStart => exact ⟨0, _, rfl, Nat.zero_le _, T⟩
  case round =>
    clear T L
    obtain ⟨k, L, rfl, hk, T⟩ := hrel
    by_cases hlt : k < n1 ∧ k < n2 ∧ k < n3 ∧ k < 40
    · obtain ⟨l1, l2, l3, l4⟩ := hlt
      obtain ⟨a1, rfl, -⟩ := Z1.out.2.2 (by omega)
      obtain ⟨a2, rfl, -⟩ := Z2.out.2.2 (by omega)
      obtain ⟨a3, rfl, -⟩ := Z3.out.2 (by omega)
      obtain ⟨ck, cr, ct, cl, ce, ca, hC⟩ := recs_at Z3.out l3
      have SK : Hid (∀ V, Chg [] w V → V.cell? (a1.add k) = some (.int .i64 (fs.getD k 0)) ∧ V.cell? (a2.add k) = some (.int .i64 (ats.getD k 0)) ∧ CapAt V (a3.add (k * 6)) ck cr ct cl ce ca) := fun V kV =>
        ⟨(Z1.out.chg kV (fun _ _ => by simp)).cells l1, (Z2.out.chg kV (fun _ _ => by simp)).cells l2, hC.stays kV⟩
      generalize fs.getD k 0 = f at *
      generalize ats.getD k 0 = x at *
      clear hC
      as_aux_lemma =>
        have K := T.k.drew
        have m0 := T.m.drew
        have r0 := T.r.drew
        have fg := T.fg
        have fB := T.fB
        go_wp2_with fail
        go_region_held3 (fun V => V.cell? (a1.add k) = some (.int .i64 f) ∧ V.cell? (a2.add k) = some (.int .i64 x) ∧ V.cell? (a3.add (k * 6)) = some (.int .i64 ck) ∧ V.cell? ⟨(a3.add (k * 6)).block, (a3.add (k * 6)).off + 1, none⟩ = some (.int .i64 cr) ∧ V.cell? ⟨(a3.add (k * 6)).block, (a3.add (k * 6)).off + 2, none⟩ = some (.int .i64 ct) ∧ V.cell? ⟨(a3.add (k * 6)).block, (a3.add (k * 6)).off + 3, none⟩ = some (.int .i64 cl) ∧ V.cell? ⟨(a3.add (k * 6)).block, (a3.add (k * 6)).off + 4, none⟩ = some (.int .i64 ce) ∧ V.cell? ⟨(a3.add (k * 6)).block, (a3.add (k * 6)).off + 5, none⟩ = some (.int .i64 ca)) (exact SK.out _ K)
          (first
          | (go_at_call 35; refine Calls.mono (SlotGen.put_gen m0 f x ck cr ct cl ce ca) ?_; rintro e w5 ⟨rfl, m5, kk⟩; replace K := K.trans kk (by simp; omega); have r5 := ref_keep m0 r0 kk)
          | (go_at_call 42; refine Calls.mono (SlotRef.put_gen r5 (by decide) (by decide) f x ck cr ct cl ce ca) ?_; rintro e w6 ⟨rfl, r6, kk⟩; have m6 := Ref02.chr_mem m5 kk; replace K := Ref02.chr_chg K kk fB))
        have T6 : Both w w6 p r 3 B g v bs _ := ⟨m6, r6, T.fB, T.fp, T.fg, K, pL_u64 T.u _ _ _ _ _ _ _ _⟩
        clear m6 r6 m5 r5 m0 r0 K T fg fB
        generalize pL 3 L f x ck cr ct cl ce ca = M at *
        generalize pE 3 f x ck cr ct cl ce ca = pe at *
        as_aux_lemma =>
          obtain ⟨g0, g1, g2, g3, g4, g5, ge, uu, ee, x1, xe, Vs, AN⟩ := ans T6.u f x w p r B g v bs
          have AN' := Lib.hid AN
          clear AN
          have SK2 : Hid (∀ V, Chg [] w V → V.cell? (a1.add k) = some (.int .i64 f) ∧ V.cell? (a2.add k) = some (.int .i64 x)) := fun V kV => ⟨(SK.out V kV).1, (SK.out V kV).2.1⟩
          clear SK
          replace T6 := T6.drew
          obtain ⟨W2, hW2⟩ : ∃ W, w6.drew = W := ⟨_, rfl⟩
          go_upto_region 9 with fail
          rw [hW2] at T6
          go_cut [12, 13] from 36 to 227 (fun s12 s13 wx => ∃ d, s12 = .pointer (some ⟨d, 0, none⟩) ∧ s13 = .int .i64 ge ∧ Blk wx d 70 (capC g0 g1 g2 g3 g4 g5) ∧ Both w wx p r 3 B g v bs M)
          case first =>
            refine wp_region_held_drew (S := fun V => V.cell? (a1.add k) = some (.int .i64 f) ∧ V.cell? (a2.add k) = some (.int .i64 x)) (by kernel_rfl) ?_ (fun hHeld => ?_)
            case _ => rw [hW2]; exact SK2.out _ T6.k
            rw [hW2] at hHeld ⊢
            refine wpAnyH_take (i := 0) (oi := ?oo1) (v := ?vv1) ?hi1 (by kernel_rfl) ?hf1 (by kernel_rfl) ?hq1 ?hy1 (by assumption) ?rest1
            case hi1 => (simp only [List.getElem?_toArray, List.getElem?_cons_zero] <;> exact rfl)
            case hf1 => kernel_rfl
            case hq1 => exact fun _ _ _ h => h
            case hy1 => exact Or.inl ⟨by rfl, by intro w hSw; (try dsimp only at hSw); go_simp; try with_reducible rfl⟩
            (try simp only [Act.put, List.setIfInBounds_toArray, List.set_cons_zero, List.set_cons_succ])
            refine wpAnyH_take (i := 1) (oi := ?oo2) (v := ?vv2) ?hi2 (by kernel_rfl) ?hf2 (by kernel_rfl) ?hq2 ?hy2 (by assumption) ?rest2
            case hi2 => (simp only [List.getElem?_toArray, List.getElem?_cons_zero, List.getElem?_cons_succ] <;> exact rfl)
            case hf2 => kernel_rfl
            case hq2 => exact fun _ _ _ h => h
            case hy2 => exact Or.inl ⟨by rfl, by intro w hSw; (try dsimp only at hSw); go_simp; try with_reducible rfl⟩
            (try simp only [Act.put, List.setIfInBounds_toArray, List.set_cons_zero, List.set_cons_succ])
            refine wpAnyH_take (i := 2) (oi := ?oo3) (v := ?vv3) ?hi3 (by kernel_rfl) ?hf3 (by kernel_rfl) ?hq3 ?hy3 (by assumption) ?rest3
            case hi3 => (simp only [List.getElem?_toArray, List.getElem?_cons_zero, List.getElem?_cons_succ] <;> exact rfl)
            case hf3 => kernel_rfl
            case hq3 => exact fun _ _ _ h => h
            case hy3 => exact Or.inl ⟨by rfl, by intro w hSw; (try dsimp only at hSw); go_simp; try with_reducible rfl⟩
            (try simp only [Act.put, List.setIfInBounds_toArray, List.set_cons_zero, List.set_cons_succ])
            refine wpAnyH_take (i := 3) (oi := ?oo4) (v := ?vv4) ?hi4 (by kernel_rfl) ?hf4 (by kernel_rfl) ?hq4 ?hy4 (by assumption) ?rest4
            case hi4 => (simp only [List.getElem?_toArray, List.getElem?_cons_zero, List.getElem?_cons_succ] <;> exact rfl)
            case hf4 => kernel_rfl
            case hq4 => exact fun _ _ _ h => h
            case hy4 => exact Or.inl ⟨by rfl, by intro w hSw; (try dsimp only at hSw); go_simp; try with_reducible rfl⟩
            (try simp only [Act.put, List.setIfInBounds_toArray, List.set_cons_zero, List.set_cons_succ])
            refine wpAnyH_take (i := 4) (oi := ?oo5) (v := ?vv5) ?hi5 (by kernel_rfl) ?hf5 (by kernel_rfl) ?hq5 ?hy5 (by assumption) ?rest5
            case hi5 => (simp only [List.getElem?_toArray, List.getElem?_cons_zero, List.getElem?_cons_succ] <;> exact rfl)
            case hf5 => kernel_rfl
            case hq5 => exact fun _ _ _ h => h
            case hy5 => exact Or.inl ⟨by rfl, by intro w hSw; (try dsimp only at hSw); go_simp; try with_reducible rfl⟩
            (try simp only [Act.put, List.setIfInBounds_toArray, List.set_cons_zero, List.set_cons_succ])
            refine wpAnyH_take (i := 5) (oi := ?oo6) (v := ?vv6) ?hi6 (by kernel_rfl) ?hf6 (by kernel_rfl) ?hq6 ?hy6 (by assumption) ?rest6
            case hi6 => (simp only [List.getElem?_toArray, List.getElem?_cons_zero, List.getElem?_cons_succ] <;> exact rfl)
            case hf6 => kernel_rfl
            case hq6 => exact fun _ _ _ h => h
            case hy6 => exact Or.inl ⟨by rfl, by intro w hSw; (try dsimp only at hSw); go_simp; try with_reducible rfl⟩
            (try simp only [Act.put, List.setIfInBounds_toArray, List.set_cons_zero, List.set_cons_succ])
            refine wpAnyH_take (i := 6) (oi := ?oo7) (v := ?vv7) ?hi7 (by kernel_rfl) ?hf7 (by kernel_rfl) ?hq7 ?hy7 (by assumption) ?rest7
            case hi7 => (simp only [List.getElem?_toArray, List.getElem?_cons_zero, List.getElem?_cons_succ] <;> exact rfl)
            case hf7 => kernel_rfl
            case hq7 => exact fun _ _ _ h => h
            case hy7 => exact Or.inl ⟨by rfl, by intro w hSw; (try dsimp only at hSw); go_simp; try with_reducible rfl⟩
            (try simp only [Act.put, List.setIfInBounds_toArray, List.set_cons_zero, List.set_cons_succ])
            refine wpAnyH_take (i := 7) (oi := ?oo8) (v := ?vv8) ?hi8 (by kernel_rfl) ?hf8 (by kernel_rfl) ?hq8 ?hy8 (by assumption) ?rest8
            case hi8 => (simp only [List.getElem?_toArray, List.getElem?_cons_zero, List.getElem?_cons_succ] <;> exact rfl)
            case hf8 => kernel_rfl
            case hq8 => exact fun _ _ _ h => h
            case hy8 => exact Or.inl ⟨by rfl, by intro w hSw; (try dsimp only at hSw); go_simp; try with_reducible rfl⟩
            (try simp only [Act.put, List.setIfInBounds_toArray, List.set_cons_zero, List.set_cons_succ])
            refine wpAnyH_take (i := 8) (oi := ?oo9) (v := ?vv9) ?hi9 (by kernel_rfl) ?hf9 (by kernel_rfl) ?hq9 ?hy9 (by assumption) ?rest9
            case hi9 => (simp only [List.getElem?_toArray, List.getElem?_cons_zero, List.getElem?_cons_succ] <;> exact rfl)
            case hf9 => kernel_rfl
            case hq9 => exact fun _ _ _ h => h
            case hy9 => exact Or.inl ⟨by rfl, by intro w hSw; (try dsimp only at hSw); go_simp; try with_reducible rfl⟩
            (try simp only [Act.put, List.setIfInBounds_toArray, List.set_cons_zero, List.set_cons_succ])
            refine wpAnyH_ready (rs := [9, 13]) (by kernel_rfl) (by simp) ?_
            refine AllReadyH.cons (o := ?ooz1) ?hiz1 (fun K hK => ?stz1) ?morez1
            case hiz1 => (simp only [List.getElem?_toArray, List.getElem?_cons_zero, List.getElem?_cons_succ] <;> exact rfl)
            case stz1 =>
              go_simp
              go_at_call 38
              refine Calls.mono (AN'.out.g1 _ T6) ?_
              rintro e w7 ⟨rfl, kk⟩
              replace T6 := T6.chg0 kk
              obtain ⟨d, ed⟩ : ∃ d, w7.heap.size = d := ⟨_, rfl⟩
              refine hK.out _ _ ?hSy2 (fun hHeld => ?resty2)
              case hSy2 => exact SK2.out _ T6.k
              clear hK K
              (try simp only [Act.put, List.setIfInBounds_toArray, List.set_cons_zero, List.set_cons_succ])
              refine wpAnyH_take (i := 10) (oi := ?oo10) (v := ?vv10) ?hi10 (by kernel_rfl) ?hf10 (by kernel_rfl) ?hq10 ?hy10 (by assumption) ?rest10
              case hi10 => (simp only [List.getElem?_toArray, List.getElem?_cons_zero, List.getElem?_cons_succ] <;> exact rfl)
              case hf10 => kernel_rfl
              case hq10 => exact fun _ _ _ h => h
              case hy10 => exact Or.inl ⟨by rfl, by intro w hSw; (try dsimp only at hSw); go_simp; try with_reducible rfl⟩
              (try simp only [Act.put, List.setIfInBounds_toArray, List.set_cons_zero, List.set_cons_succ])
              refine wpAnyH_take (i := 11) (oi := ?oo11) (v := ?vv11) ?hi11 (by kernel_rfl) ?hf11 (by kernel_rfl) ?hq11 ?hy11 (by assumption) ?rest11
              case hi11 => (simp only [List.getElem?_toArray, List.getElem?_cons_zero, List.getElem?_cons_succ] <;> exact rfl)
              case hf11 => kernel_rfl
              case hq11 => exact fun _ _ _ h => h
              case hy11 => exact Or.inl ⟨by rfl, by intro w hSw; (try dsimp only at hSw); go_simp; try with_reducible rfl⟩
              (try simp only [Act.put, List.setIfInBounds_toArray, List.set_cons_zero, List.set_cons_succ])
              refine wpAnyH_take (i := 12) (oi := ?oo12) (v := ?vv12) ?hi12 (by kernel_rfl) ?hf12 (by kernel_rfl) ?hq12 ?hy12 (by assumption) ?rest12
              case hi12 => (simp only [List.getElem?_toArray, List.getElem?_cons_zero, List.getElem?_cons_succ] <;> exact rfl)
              case hf12 => kernel_rfl
              case hq12 => exact fun _ _ _ h => h
              case hy12 => exact Or.inl ⟨by rfl, by intro w hSw; (try dsimp only at hSw); go_simp; try with_reducible rfl⟩
              (try simp only [Act.put, List.setIfInBounds_toArray, List.set_cons_zero, List.set_cons_succ])
              refine wpAnyH_ready (rs := [13]) (by kernel_rfl) (by simp) ?_
              refine AllReadyH.cons (o := ?ooz3) ?hiz3 (fun K hK => ?stz3) ?morez3
              case hiz3 => (simp only [List.getElem?_toArray, List.getElem?_cons_zero, List.getElem?_cons_succ] <;> exact rfl)
              case stz3 =>
                go_simp
                refine hK.out _ _ ?hSy4 (fun hHeld => ?resty4)
                case hSy4 => exact SK2.out _ (T6.k.alloc _)
                clear hK K
                (try simp only [Act.put, List.setIfInBounds_toArray, List.set_cons_zero, List.set_cons_succ])
                refine wpAnyH_ready (rs := [14]) (by kernel_rfl) (by simp) ?_
                refine AllReadyH.cons (o := ?ooz5) ?hiz5 (fun K hK => ?stz5) ?morez5
                case hiz5 => (simp only [List.getElem?_toArray, List.getElem?_cons_zero, List.getElem?_cons_succ] <;> exact rfl)
                case stz5 =>
                  go_simp
                  refine hK.out _ _ ?hSy6 (fun hHeld => ?resty6)
                  case hSy6 => exact SK2.out _ (T6.k.alloc _)
                  clear hK K
                  (try simp only [Act.put, List.setIfInBounds_toArray, List.set_cons_zero, List.set_cons_succ])
                  refine wpAnyH_take (i := 15) (oi := ?oo13) (v := ?vv13) ?hi13 (by kernel_rfl) ?hf13 (by kernel_rfl) ?hq13 ?hy13 (by assumption) ?rest13
                  case hi13 => (simp only [List.getElem?_toArray, List.getElem?_cons_zero, List.getElem?_cons_succ] <;> exact rfl)
                  case hf13 => kernel_rfl
                  case hq13 => exact fun _ _ _ h => h
                  case hy13 => exact Or.inl ⟨by rfl, by intro w hSw; (try dsimp only at hSw); go_simp; try with_reducible rfl⟩
                  (try simp only [Act.put, List.setIfInBounds_toArray, List.set_cons_zero, List.set_cons_succ])
                  refine wpAnyH_done (by kernel_rfl) ?_ _
                  have D7 := Blk.new' w7 70 (capC g0 g1 g2 g3 g4 g5) ed
                  replace T6 := T6.chg0 ((Chg.refl [] w7).alloc (.cells (capC g0 g1 g2 g3 g4 g5) 70))
                  go_wp2_with fail
                  go_meet
                  case rel => exact ⟨d, rfl, rfl, D7, T6⟩
                exact AllReadyH.nil
              exact AllReadyH.nil
            refine AllReadyH.cons (o := ?ooz7) ?hiz7 (fun K hK => ?stz7) ?morez7
            case hiz7 => (simp only [List.getElem?_toArray, List.getElem?_cons_zero, List.getElem?_cons_succ] <;> exact rfl)
            case stz7 =>
              obtain ⟨d, ed⟩ : ∃ d, W2.heap.size = d := ⟨_, rfl⟩
              go_simp
              refine hK.out _ _ ?hSy8 (fun hHeld => ?resty8)
              case hSy8 => exact SK2.out _ (T6.k.alloc _)
              clear hK K
              (try simp only [Act.put, List.setIfInBounds_toArray, List.set_cons_zero, List.set_cons_succ])
              refine wpAnyH_ready (rs := [9]) (by kernel_rfl) (by simp) ?_
              refine AllReadyH.cons (o := ?ooz9) ?hiz9 (fun K hK => ?stz9) ?morez9
              case hiz9 => (simp only [List.getElem?_toArray, List.getElem?_cons_zero, List.getElem?_cons_succ] <;> exact rfl)
              case stz9 =>
                go_simp
                go_at_call 38
                refine Calls.mono (AN'.out.g1 _ (T6.chg0 ((Chg.refl [] W2).alloc (.cells (capC 0 0 0 0 0 0) 70)))) ?_
                rintro e w7 ⟨rfl, kk⟩
                have D7 := (Blk.new' W2 70 (capC 0 0 0 0 0 0) ed).chg kk (by simp)
                have K7 := ((Chg.refl [] W2).alloc (.cells (capC 0 0 0 0 0 0) 70)).trans kk (by simp)
                have hd : w.heap.size ≤ d := by rw [← ed]; exact T6.k.size
                obtain ⟨c0, c1, c2, c3, c4, c5⟩ := blk6 D7
                have zz0 := D7.frozen 0
                have zz1 := D7.frozen 1
                have zz2 := D7.frozen 2
                have zz3 := D7.frozen 3
                have zz4 := D7.frozen 4
                have zz5 := D7.frozen 5
                refine hK.out _ _ ?hSy10 (fun hHeld => ?resty10)
                case hSy10 => exact SK2.out _ (T6.k.trans K7 (by simp))
                clear hK K
                (try simp only [Act.put, List.setIfInBounds_toArray, List.set_cons_zero, List.set_cons_succ])
                refine wpAnyH_take (i := 10) (oi := ?oo14) (v := ?vv14) ?hi14 (by kernel_rfl) ?hf14 (by kernel_rfl) ?hq14 ?hy14 (by assumption) ?rest14
                case hi14 => (simp only [List.getElem?_toArray, List.getElem?_cons_zero, List.getElem?_cons_succ] <;> exact rfl)
                case hf14 => kernel_rfl
                case hq14 => exact fun _ _ _ h => h
                case hy14 => exact Or.inl ⟨by rfl, by intro w hSw; (try dsimp only at hSw); go_simp; try with_reducible rfl⟩
                (try simp only [Act.put, List.setIfInBounds_toArray, List.set_cons_zero, List.set_cons_succ])
                refine wpAnyH_take (i := 11) (oi := ?oo15) (v := ?vv15) ?hi15 (by kernel_rfl) ?hf15 (by kernel_rfl) ?hq15 ?hy15 (by assumption) ?rest15
                case hi15 => (simp only [List.getElem?_toArray, List.getElem?_cons_zero, List.getElem?_cons_succ] <;> exact rfl)
                case hf15 => kernel_rfl
                case hq15 => exact fun _ _ _ h => h
                case hy15 => exact Or.inl ⟨by rfl, by intro w hSw; (try dsimp only at hSw); go_simp; try with_reducible rfl⟩
                (try simp only [Act.put, List.setIfInBounds_toArray, List.set_cons_zero, List.set_cons_succ])
                refine wpAnyH_take (i := 12) (oi := ?oo16) (v := ?vv16) ?hi16 (by kernel_rfl) ?hf16 (by kernel_rfl) ?hq16 ?hy16 (by assumption) ?rest16
                case hi16 => (simp only [List.getElem?_toArray, List.getElem?_cons_zero, List.getElem?_cons_succ] <;> exact rfl)
                case hf16 => kernel_rfl
                case hq16 => exact fun _ _ _ h => h
                case hy16 => exact Or.inl ⟨by rfl, by intro w hSw; (try dsimp only at hSw); go_simp; try with_reducible rfl⟩
                (try simp only [Act.put, List.setIfInBounds_toArray, List.set_cons_zero, List.set_cons_succ])
                refine wpAnyH_ready (rs := [14]) (by kernel_rfl) (by simp) ?_
                refine AllReadyH.cons (o := ?ooz11) ?hiz11 (fun K hK => ?stz11) ?morez11
                case hiz11 => (simp only [List.getElem?_toArray, List.getElem?_cons_zero, List.getElem?_cons_succ] <;> exact rfl)
                case stz11 =>
                  go_simp
                  refine hK.out _ _ ?hSy12 (fun hHeld => ?resty12)
                  case hSy12 => exact SK2.out _ (wr6_chg (T6.k.trans K7 (by simp)) hd _ _ _ _ _ _)
                  clear hK K
                  (try simp only [Act.put, List.setIfInBounds_toArray, List.set_cons_zero, List.set_cons_succ])
                  refine wpAnyH_take (i := 15) (oi := ?oo17) (v := ?vv17) ?hi17 (by kernel_rfl) ?hf17 (by kernel_rfl) ?hq17 ?hy17 (by assumption) ?rest17
                  case hi17 => (simp only [List.getElem?_toArray, List.getElem?_cons_zero, List.getElem?_cons_succ] <;> exact rfl)
                  case hf17 => kernel_rfl
                  case hq17 => exact fun _ _ _ h => h
                  case hy17 => exact Or.inl ⟨by rfl, by intro w hSw; (try dsimp only at hSw); go_simp; try with_reducible rfl⟩
                  (try simp only [Act.put, List.setIfInBounds_toArray, List.set_cons_zero, List.set_cons_succ])
                  refine wpAnyH_done (by kernel_rfl) ?_ _
                  replace D7 := wr6_blk (d := d) D7 (.int .i64 g0) (.int .i64 g1) (.int .i64 g2) (.int .i64 g3) (.int .i64 g4) (.int .i64 g5)
                  replace K7 := wr6_chg (d := d) K7 (by rw [ed]; exact Nat.le_refl _) (.int .i64 g0) (.int .i64 g1) (.int .i64 g2) (.int .i64 g3) (.int .i64 g4) (.int .i64 g5)
                  replace T6 := T6.chg0 K7
                  clear c0 c1 c2 c3 c4 c5 zz0 zz1 zz2 zz3 zz4 zz5
                  unfold wr6 at D7 T6
                  go_wp2_with fail
                  go_meet
                  case rel => exact ⟨d, rfl, rfl, D7, T6⟩
                exact AllReadyH.nil
              exact AllReadyH.nil
            exact AllReadyH.nil
          case rest =>
            clear T6 hW2
            obtain ⟨d1, rfl, rfl, D1, T6⟩ := hcut
            replace T6 := T6.drew
            replace D1 := D1.drew
            clear W2
            obtain ⟨W2, hW2⟩ : ∃ W, wc.drew = W := ⟨_, rfl⟩
            go_upto_region 10 with fail
            rw [hW2] at T6 D1
            go_cut [14, 15] from 36 to 227 (fun s14 s15 wx => ∃ d, s14 = .pointer (some ⟨d, 0, none⟩) ∧ s15 = .int .i64 ge ∧ Blk wx d1 70 (capC g0 g1 g2 g3 g4 g5) ∧ Blk wx d 70 (capC g0 g1 g2 g3 g4 g5) ∧ Both w wx p r 3 B g v bs M)
            case first =>
              refine wp_region_held_drew (S := fun V => V.cell? (a1.add k) = some (.int .i64 f) ∧ V.cell? (a2.add k) = some (.int .i64 x)) (by kernel_rfl) ?_ (fun hHeld => ?_)
              case _ => rw [hW2]; exact SK2.out _ T6.k
              rw [hW2] at hHeld ⊢
              refine wpAnyH_take (i := 0) (oi := ?oo18) (v := ?vv18) ?hi18 (by kernel_rfl) ?hf18 (by kernel_rfl) ?hq18 ?hy18 (by assumption) ?rest18
              case hi18 => (simp only [List.getElem?_toArray, List.getElem?_cons_zero] <;> exact rfl)
              case hf18 => kernel_rfl
              case hq18 => exact fun _ _ _ h => h
              case hy18 => exact Or.inl ⟨by rfl, by intro w hSw; (try dsimp only at hSw); go_simp; try with_reducible rfl⟩
              (try simp only [Act.put, List.setIfInBounds_toArray, List.set_cons_zero, List.set_cons_succ])
              refine wpAnyH_take (i := 1) (oi := ?oo19) (v := ?vv19) ?hi19 (by kernel_rfl) ?hf19 (by kernel_rfl) ?hq19 ?hy19 (by assumption) ?rest19
              case hi19 => (simp only [List.getElem?_toArray, List.getElem?_cons_zero, List.getElem?_cons_succ] <;> exact rfl)
              case hf19 => kernel_rfl
              case hq19 => exact fun _ _ _ h => h
              case hy19 => exact Or.inl ⟨by rfl, by intro w hSw; (try dsimp only at hSw); go_simp; try with_reducible rfl⟩
              (try simp only [Act.put, List.setIfInBounds_toArray, List.set_cons_zero, List.set_cons_succ])
              refine wpAnyH_take (i := 2) (oi := ?oo20) (v := ?vv20) ?hi20 (by kernel_rfl) ?hf20 (by kernel_rfl) ?hq20 ?hy20 (by assumption) ?rest20
              case hi20 => (simp only [List.getElem?_toArray, List.getElem?_cons_zero, List.getElem?_cons_succ] <;> exact rfl)
              case hf20 => kernel_rfl
              case hq20 => exact fun _ _ _ h => h
              case hy20 => exact Or.inl ⟨by rfl, by intro w hSw; (try dsimp only at hSw); go_simp; try with_reducible rfl⟩
              (try simp only [Act.put, List.setIfInBounds_toArray, List.set_cons_zero, List.set_cons_succ])
              refine wpAnyH_take (i := 3) (oi := ?oo21) (v := ?vv21) ?hi21 (by kernel_rfl) ?hf21 (by kernel_rfl) ?hq21 ?hy21 (by assumption) ?rest21
              case hi21 => (simp only [List.getElem?_toArray, List.getElem?_cons_zero, List.getElem?_cons_succ] <;> exact rfl)
              case hf21 => kernel_rfl
              case hq21 => exact fun _ _ _ h => h
              case hy21 => exact Or.inl ⟨by rfl, by intro w hSw; (try dsimp only at hSw); go_simp; try with_reducible rfl⟩
              (try simp only [Act.put, List.setIfInBounds_toArray, List.set_cons_zero, List.set_cons_succ])
              refine wpAnyH_take (i := 4) (oi := ?oo22) (v := ?vv22) ?hi22 (by kernel_rfl) ?hf22 (by kernel_rfl) ?hq22 ?hy22 (by assumption) ?rest22
              case hi22 => (simp only [List.getElem?_toArray, List.getElem?_cons_zero, List.getElem?_cons_succ] <;> exact rfl)
              case hf22 => kernel_rfl
              case hq22 => exact fun _ _ _ h => h
              case hy22 => exact Or.inl ⟨by rfl, by intro w hSw; (try dsimp only at hSw); go_simp; try with_reducible rfl⟩
              (try simp only [Act.put, List.setIfInBounds_toArray, List.set_cons_zero, List.set_cons_succ])
              refine wpAnyH_take (i := 5) (oi := ?oo23) (v := ?vv23) ?hi23 (by kernel_rfl) ?hf23 (by kernel_rfl) ?hq23 ?hy23 (by assumption) ?rest23
              case hi23 => (simp only [List.getElem?_toArray, List.getElem?_cons_zero, List.getElem?_cons_succ] <;> exact rfl)
              case hf23 => kernel_rfl
              case hq23 => exact fun _ _ _ h => h
              case hy23 => exact Or.inl ⟨by rfl, by intro w hSw; (try dsimp only at hSw); go_simp; try with_reducible rfl⟩
              (try simp only [Act.put, List.setIfInBounds_toArray, List.set_cons_zero, List.set_cons_succ])
              refine wpAnyH_take (i := 6) (oi := ?oo24) (v := ?vv24) ?hi24 (by kernel_rfl) ?hf24 (by kernel_rfl) ?hq24 ?hy24 (by assumption) ?rest24
              case hi24 => (simp only [List.getElem?_toArray, List.getElem?_cons_zero, List.getElem?_cons_succ] <;> exact rfl)
              case hf24 => kernel_rfl
              case hq24 => exact fun _ _ _ h => h
              case hy24 => exact Or.inl ⟨by rfl, by intro w hSw; (try dsimp only at hSw); go_simp; try with_reducible rfl⟩
              (try simp only [Act.put, List.setIfInBounds_toArray, List.set_cons_zero, List.set_cons_succ])
              refine wpAnyH_take (i := 7) (oi := ?oo25) (v := ?vv25) ?hi25 (by kernel_rfl) ?hf25 (by kernel_rfl) ?hq25 ?hy25 (by assumption) ?rest25
              case hi25 => (simp only [List.getElem?_toArray, List.getElem?_cons_zero, List.getElem?_cons_succ] <;> exact rfl)
              case hf25 => kernel_rfl
              case hq25 => exact fun _ _ _ h => h
              case hy25 => exact Or.inl ⟨by rfl, by intro w hSw; (try dsimp only at hSw); go_simp; try with_reducible rfl⟩
              (try simp only [Act.put, List.setIfInBounds_toArray, List.set_cons_zero, List.set_cons_succ])
              refine wpAnyH_take (i := 8) (oi := ?oo26) (v := ?vv26) ?hi26 (by kernel_rfl) ?hf26 (by kernel_rfl) ?hq26 ?hy26 (by assumption) ?rest26
              case hi26 => (simp only [List.getElem?_toArray, List.getElem?_cons_zero, List.getElem?_cons_succ] <;> exact rfl)
              case hf26 => kernel_rfl
              case hq26 => exact fun _ _ _ h => h
              case hy26 => exact Or.inl ⟨by rfl, by intro w hSw; (try dsimp only at hSw); go_simp; try with_reducible rfl⟩
              (try simp only [Act.put, List.setIfInBounds_toArray, List.set_cons_zero, List.set_cons_succ])
              refine wpAnyH_ready (rs := [9, 13]) (by kernel_rfl) (by simp) ?_
              refine AllReadyH.cons (o := ?ooz13) ?hiz13 (fun K hK => ?stz13) ?morez13
              case hiz13 => (simp only [List.getElem?_toArray, List.getElem?_cons_zero, List.getElem?_cons_succ] <;> exact rfl)
              case stz13 =>
                go_simp
                go_at_call 43
                refine Calls.mono (AN'.out.g2 _ T6) ?_
                rintro e w7 ⟨rfl, kk⟩
                replace T6 := T6.chg0 kk
                replace D1 := D1.chg kk (by simp)
                obtain ⟨d, ed⟩ : ∃ d, w7.heap.size = d := ⟨_, rfl⟩
                refine hK.out _ _ ?hSy14 (fun hHeld => ?resty14)
                case hSy14 => exact SK2.out _ T6.k
                clear hK K
                (try simp only [Act.put, List.setIfInBounds_toArray, List.set_cons_zero, List.set_cons_succ])
                refine wpAnyH_take (i := 10) (oi := ?oo27) (v := ?vv27) ?hi27 (by kernel_rfl) ?hf27 (by kernel_rfl) ?hq27 ?hy27 (by assumption) ?rest27
                case hi27 => (simp only [List.getElem?_toArray, List.getElem?_cons_zero, List.getElem?_cons_succ] <;> exact rfl)
                case hf27 => kernel_rfl
                case hq27 => exact fun _ _ _ h => h
                case hy27 => exact Or.inl ⟨by rfl, by intro w hSw; (try dsimp only at hSw); go_simp; try with_reducible rfl⟩
                (try simp only [Act.put, List.setIfInBounds_toArray, List.set_cons_zero, List.set_cons_succ])
                refine wpAnyH_take (i := 11) (oi := ?oo28) (v := ?vv28) ?hi28 (by kernel_rfl) ?hf28 (by kernel_rfl) ?hq28 ?hy28 (by assumption) ?rest28
                case hi28 => (simp only [List.getElem?_toArray, List.getElem?_cons_zero, List.getElem?_cons_succ] <;> exact rfl)
                case hf28 => kernel_rfl
                case hq28 => exact fun _ _ _ h => h
                case hy28 => exact Or.inl ⟨by rfl, by intro w hSw; (try dsimp only at hSw); go_simp; try with_reducible rfl⟩
                (try simp only [Act.put, List.setIfInBounds_toArray, List.set_cons_zero, List.set_cons_succ])
                refine wpAnyH_take (i := 12) (oi := ?oo29) (v := ?vv29) ?hi29 (by kernel_rfl) ?hf29 (by kernel_rfl) ?hq29 ?hy29 (by assumption) ?rest29
                case hi29 => (simp only [List.getElem?_toArray, List.getElem?_cons_zero, List.getElem?_cons_succ] <;> exact rfl)
                case hf29 => kernel_rfl
                case hq29 => exact fun _ _ _ h => h
                case hy29 => exact Or.inl ⟨by rfl, by intro w hSw; (try dsimp only at hSw); go_simp; try with_reducible rfl⟩
                (try simp only [Act.put, List.setIfInBounds_toArray, List.set_cons_zero, List.set_cons_succ])
                refine wpAnyH_ready (rs := [13]) (by kernel_rfl) (by simp) ?_
                refine AllReadyH.cons (o := ?ooz15) ?hiz15 (fun K hK => ?stz15) ?morez15
                case hiz15 => (simp only [List.getElem?_toArray, List.getElem?_cons_zero, List.getElem?_cons_succ] <;> exact rfl)
                case stz15 =>
                  go_simp
                  refine hK.out _ _ ?hSy16 (fun hHeld => ?resty16)
                  case hSy16 => exact SK2.out _ (T6.k.alloc _)
                  clear hK K
                  (try simp only [Act.put, List.setIfInBounds_toArray, List.set_cons_zero, List.set_cons_succ])
                  refine wpAnyH_ready (rs := [14]) (by kernel_rfl) (by simp) ?_
                  refine AllReadyH.cons (o := ?ooz17) ?hiz17 (fun K hK => ?stz17) ?morez17
                  case hiz17 => (simp only [List.getElem?_toArray, List.getElem?_cons_zero, List.getElem?_cons_succ] <;> exact rfl)
                  case stz17 =>
                    go_simp
                    refine hK.out _ _ ?hSy18 (fun hHeld => ?resty18)
                    case hSy18 => exact SK2.out _ (T6.k.alloc _)
                    clear hK K
                    (try simp only [Act.put, List.setIfInBounds_toArray, List.set_cons_zero, List.set_cons_succ])
                    refine wpAnyH_take (i := 15) (oi := ?oo30) (v := ?vv30) ?hi30 (by kernel_rfl) ?hf30 (by kernel_rfl) ?hq30 ?hy30 (by assumption) ?rest30
                    case hi30 => (simp only [List.getElem?_toArray, List.getElem?_cons_zero, List.getElem?_cons_succ] <;> exact rfl)
                    case hf30 => kernel_rfl
                    case hq30 => exact fun _ _ _ h => h
                    case hy30 => exact Or.inl ⟨by rfl, by intro w hSw; (try dsimp only at hSw); go_simp; try with_reducible rfl⟩
                    (try simp only [Act.put, List.setIfInBounds_toArray, List.set_cons_zero, List.set_cons_succ])
                    refine wpAnyH_done (by kernel_rfl) ?_ _
                    have D7 := Blk.new' w7 70 (capC g0 g1 g2 g3 g4 g5) ed
                    replace T6 := T6.chg0 ((Chg.refl [] w7).alloc (.cells (capC g0 g1 g2 g3 g4 g5) 70))
                    replace D1 := D1.alloc (.cells (capC g0 g1 g2 g3 g4 g5) 70)
                    go_wp2_with fail
                    go_meet
                    case rel => exact ⟨d, rfl, rfl, D1, D7, T6⟩
                  exact AllReadyH.nil
                exact AllReadyH.nil
              refine AllReadyH.cons (o := ?ooz19) ?hiz19 (fun K hK => ?stz19) ?morez19
              case hiz19 => (simp only [List.getElem?_toArray, List.getElem?_cons_zero, List.getElem?_cons_succ] <;> exact rfl)
              case stz19 =>
                obtain ⟨d, ed⟩ : ∃ d, W2.heap.size = d := ⟨_, rfl⟩
                go_simp
                refine hK.out _ _ ?hSy20 (fun hHeld => ?resty20)
                case hSy20 => exact SK2.out _ (T6.k.alloc _)
                clear hK K
                (try simp only [Act.put, List.setIfInBounds_toArray, List.set_cons_zero, List.set_cons_succ])
                refine wpAnyH_ready (rs := [9]) (by kernel_rfl) (by simp) ?_
                refine AllReadyH.cons (o := ?ooz21) ?hiz21 (fun K hK => ?stz21) ?morez21
                case hiz21 => (simp only [List.getElem?_toArray, List.getElem?_cons_zero, List.getElem?_cons_succ] <;> exact rfl)
                case stz21 =>
                  go_simp
                  go_at_call 43
                  refine Calls.mono (AN'.out.g2 _ (T6.chg0 ((Chg.refl [] W2).alloc (.cells (capC 0 0 0 0 0 0) 70)))) ?_
                  rintro e w7 ⟨rfl, kk⟩
                  have D7 := (Blk.new' W2 70 (capC 0 0 0 0 0 0) ed).chg kk (by simp)
                  have K7 := ((Chg.refl [] W2).alloc (.cells (capC 0 0 0 0 0 0) 70)).trans kk (by simp)
                  have hd : w.heap.size ≤ d := by rw [← ed]; exact T6.k.size
                  have hd1 : d1 < d := by rw [← ed]; exact D1.lt
                  replace D1 := D1.chg K7 (by simp)
                  obtain ⟨c0, c1, c2, c3, c4, c5⟩ := blk6 D7
                  have zz0 := D7.frozen 0
                  have zz1 := D7.frozen 1
                  have zz2 := D7.frozen 2
                  have zz3 := D7.frozen 3
                  have zz4 := D7.frozen 4
                  have zz5 := D7.frozen 5
                  refine hK.out _ _ ?hSy22 (fun hHeld => ?resty22)
                  case hSy22 => exact SK2.out _ (T6.k.trans K7 (by simp))
                  clear hK K
                  (try simp only [Act.put, List.setIfInBounds_toArray, List.set_cons_zero, List.set_cons_succ])
                  refine wpAnyH_take (i := 10) (oi := ?oo31) (v := ?vv31) ?hi31 (by kernel_rfl) ?hf31 (by kernel_rfl) ?hq31 ?hy31 (by assumption) ?rest31
                  case hi31 => (simp only [List.getElem?_toArray, List.getElem?_cons_zero, List.getElem?_cons_succ] <;> exact rfl)
                  case hf31 => kernel_rfl
                  case hq31 => exact fun _ _ _ h => h
                  case hy31 => exact Or.inl ⟨by rfl, by intro w hSw; (try dsimp only at hSw); go_simp; try with_reducible rfl⟩
                  (try simp only [Act.put, List.setIfInBounds_toArray, List.set_cons_zero, List.set_cons_succ])
                  refine wpAnyH_take (i := 11) (oi := ?oo32) (v := ?vv32) ?hi32 (by kernel_rfl) ?hf32 (by kernel_rfl) ?hq32 ?hy32 (by assumption) ?rest32
                  case hi32 => (simp only [List.getElem?_toArray, List.getElem?_cons_zero, List.getElem?_cons_succ] <;> exact rfl)
                  case hf32 => kernel_rfl
                  case hq32 => exact fun _ _ _ h => h
                  case hy32 => exact Or.inl ⟨by rfl, by intro w hSw; (try dsimp only at hSw); go_simp; try with_reducible rfl⟩
                  (try simp only [Act.put, List.setIfInBounds_toArray, List.set_cons_zero, List.set_cons_succ])
                  refine wpAnyH_take (i := 12) (oi := ?oo33) (v := ?vv33) ?hi33 (by kernel_rfl) ?hf33 (by kernel_rfl) ?hq33 ?hy33 (by assumption) ?rest33
                  case hi33 => (simp only [List.getElem?_toArray, List.getElem?_cons_zero, List.getElem?_cons_succ] <;> exact rfl)
                  case hf33 => kernel_rfl
                  case hq33 => exact fun _ _ _ h => h
                  case hy33 => exact Or.inl ⟨by rfl, by intro w hSw; (try dsimp only at hSw); go_simp; try with_reducible rfl⟩
                  (try simp only [Act.put, List.setIfInBounds_toArray, List.set_cons_zero, List.set_cons_succ])
                  refine wpAnyH_ready (rs := [14]) (by kernel_rfl) (by simp) ?_
                  refine AllReadyH.cons (o := ?ooz23) ?hiz23 (fun K hK => ?stz23) ?morez23
                  case hiz23 => (simp only [List.getElem?_toArray, List.getElem?_cons_zero, List.getElem?_cons_succ] <;> exact rfl)
                  case stz23 =>
                    go_simp
                    refine hK.out _ _ ?hSy24 (fun hHeld => ?resty24)
                    case hSy24 => exact SK2.out _ (wr6_chg (T6.k.trans K7 (by simp)) hd _ _ _ _ _ _)
                    clear hK K
                    (try simp only [Act.put, List.setIfInBounds_toArray, List.set_cons_zero, List.set_cons_succ])
                    refine wpAnyH_take (i := 15) (oi := ?oo34) (v := ?vv34) ?hi34 (by kernel_rfl) ?hf34 (by kernel_rfl) ?hq34 ?hy34 (by assumption) ?rest34
                    case hi34 => (simp only [List.getElem?_toArray, List.getElem?_cons_zero, List.getElem?_cons_succ] <;> exact rfl)
                    case hf34 => kernel_rfl
                    case hq34 => exact fun _ _ _ h => h
                    case hy34 => exact Or.inl ⟨by rfl, by intro w hSw; (try dsimp only at hSw); go_simp; try with_reducible rfl⟩
                    (try simp only [Act.put, List.setIfInBounds_toArray, List.set_cons_zero, List.set_cons_succ])
                    refine wpAnyH_done (by kernel_rfl) ?_ _
                    replace D7 := wr6_blk (d := d) D7 (.int .i64 g0) (.int .i64 g1) (.int .i64 g2) (.int .i64 g3) (.int .i64 g4) (.int .i64 g5)
                    replace K7 := wr6_chg (d := d) K7 (by rw [ed]; exact Nat.le_refl _) (.int .i64 g0) (.int .i64 g1) (.int .i64 g2) (.int .i64 g3) (.int .i64 g4) (.int .i64 g5)
                    replace T6 := T6.chg0 K7
                    clear c0 c1 c2 c3 c4 c5 zz0 zz1 zz2 zz3 zz4 zz5
                    unfold wr6 at D7 T6
                    replace D1 := wr6_far (d := d) D1 (by omega) (.int .i64 g0) (.int .i64 g1) (.int .i64 g2) (.int .i64 g3) (.int .i64 g4) (.int .i64 g5)
                    unfold wr6 at D1
                    go_wp2_with fail
                    go_meet
                    case rel => exact ⟨d, rfl, rfl, D1, D7, T6⟩
                  exact AllReadyH.nil
                exact AllReadyH.nil
              exact AllReadyH.nil
            case rest =>
              clear T6 hW2 D1
              obtain ⟨d2, rfl, rfl, D1, D2, T6⟩ := hcut
              clear W2
              as_aux_lemma =>
                have cc := (SK2.out _ T6.k).1
                by_cases h0 : ee = 0
                · subst h0
                  go_wp2_with (first
                  | (go_at_call 40; refine Calls.mono (AN'.out.u1 _ T6) ?_; rintro e w9 ⟨rfl, kk⟩; replace T6 := T6.chg0 kk; replace D1 := D1.chg kk (by simp); replace D2 := D2.chg kk (by simp); clear kk cc; have cc := (SK2.out _ T6.k).1)
                  | (go_at_call 44; refine Calls.mono (AN'.out.u2 _ T6) ?_; rintro e w9 ⟨rfl, kk⟩; replace T6 := T6.chg0 kk; replace D1 := D1.chg kk (by simp); replace D2 := D2.chg kk (by simp); clear kk cc; have cc := (SK2.out _ T6.k).1)
                  | (go_at_call 39; refine Calls.mono (AN'.out.f1 _ T6) ?_; rintro e w9 ⟨rfl, kk⟩; replace T6 := T6.chg0 kk; replace D1 := D1.chg kk (by simp); replace D2 := D2.chg kk (by simp); clear kk cc; have cc := (SK2.out _ T6.k).1)
                  | (go_at_call 45; refine Calls.mono (AN'.out.f2 _ T6) ?_; rintro e w9 ⟨rfl, kk⟩; replace T6 := T6.chg0 kk; replace D1 := D1.chg kk (by simp); replace D2 := D2.chg kk (by simp); clear kk cc; have cc := (SK2.out _ T6.k).1)
                  | (go_at_call 36; refine Calls.mono (AN'.out.a1 _ T6) ?_; rintro e wA ⟨va, rfl, Oa, -, kk⟩; replace T6 := T6.chg0 kk; replace D1 := D1.chg kk (by simp); replace D2 := D2.chg kk (by simp); clear kk cc; obtain ⟨q1, cap1, rfl, hq1, hc1⟩ := caps_get AN'.out.cv (Oa rfl); have HC1 := Lib.hid hc1; clear Oa hc1 hq1; have KA := Chg.refl [] wA; have cc := (SK2.out _ T6.k).1)
                  | (go_at_call 46; refine Calls.mono (AN'.out.a2 _ T6) ?_; rintro e wB ⟨vb, rfl, Ob, -, kk⟩; replace T6 := T6.chg0 kk; replace KA := KA.trans kk (by simp); replace D1 := D1.chg kk (by simp); replace D2 := D2.chg kk (by simp); clear kk cc; obtain ⟨q2, cap2, rfl, hq2, hc2⟩ := caps_get AN'.out.cv (Ob rfl); have HC2 := Lib.hid hc2; clear Ob hc2 hq2; have KB := Chg.refl [] wB; obtain ⟨c0, c1, c2, c3, c4, c5⟩ := blk6 D1; obtain ⟨e0, e1, e2, e3, e4, e5⟩ := blk6 D2)
                  | (go_at_call 47; refine Calls.mono (Two11.alike_ok T6) ?_; rintro e w9 ⟨rfl, kk⟩; replace T6 := T6.chg0 kk; replace KA := KA.trans kk (by simp); replace KB := KB.trans kk (by simp); clear kk c0 c1 c2 c3 c4 c5 e0 e1 e2 e3 e4 e5 D1 D2))
                  have hK0 := Chg.refl [] w9
                  go_loopw [28] (fun i wr => ∃ m : Nat, i = .int .i64 m ∧ m ≤ 16 ∧ Chg [] w9 wr) (fun i _ => 16 - (intOf i).toNat)
                  case atStart => exact ⟨0, rfl, by decide, hK0⟩
                  case round =>
                    obtain ⟨m, rfl, hm, km⟩ := hrel
                    clear hK0
                    rcases (by omega : m = 16 ∨ m < 16) with rfl | m6
                    · replace T6 := T6.chg0 km
                      go_wp2
                      go_roundw
                      case rel => exact ⟨k + 1, M, by go_num, by omega, T6⟩
                      case measure => simp [intOf]; omega
                    · have hmi : (m : Int) < 16 := by omega
                      obtain ⟨y0, y1, y2, y3, y4, y5, hv⟩ := AN'.out.cv m
                      obtain ⟨c0, c1, c2, c3, c4, c5⟩ := HC1.out m _ _ _ _ _ _ m6 hv
                      obtain ⟨e0, e1, e2, e3, e4, e5⟩ := HC2.out m _ _ _ _ _ _ m6 hv
                      replace KA := KA.trans km (by simp)
                      replace KB := KB.trans km (by simp)
                      replace c0 := SlotAns.stays c0 KA
                      replace c1 := SlotAns.stays c1 KA
                      replace c2 := SlotAns.stays c2 KA
                      replace c3 := SlotAns.stays c3 KA
                      replace c4 := SlotAns.stays c4 KA
                      replace c5 := SlotAns.stays c5 KA
                      replace e0 := SlotAns.stays e0 KB
                      replace e1 := SlotAns.stays e1 KB
                      replace e2 := SlotAns.stays e2 KB
                      replace e3 := SlotAns.stays e3 KB
                      replace e4 := SlotAns.stays e4 KB
                      replace e5 := SlotAns.stays e5 KB
                      clear hv
                      go_wp2_with fail
                      go_quiet (fail)
                      replace km := km.drewN nq
                      go_wp2
                      go_roundw
                      case rel => exact ⟨m + 1, by go_num, by omega, km⟩
                      case measure => simp [intOf]; omega
                · have HN := Lib.hid h0
                  have hb : (ee == ee) = true := beq_self_eq_true ee
                  clear h0
                  go_wp2_with (first
                  | (go_at_call 40; refine Calls.mono (AN'.out.u1 _ T6) ?_; rintro e w9 ⟨rfl, kk⟩; replace T6 := T6.chg0 kk; replace D1 := D1.chg kk (by simp); replace D2 := D2.chg kk (by simp); clear kk cc; have cc := (SK2.out _ T6.k).1)
                  | (go_at_call 44; refine Calls.mono (AN'.out.u2 _ T6) ?_; rintro e w9 ⟨rfl, kk⟩; replace T6 := T6.chg0 kk; replace D1 := D1.chg kk (by simp); replace D2 := D2.chg kk (by simp); clear kk cc; have cc := (SK2.out _ T6.k).1)
                  | (go_at_call 39; refine Calls.mono (AN'.out.f1 _ T6) ?_; rintro e w9 ⟨rfl, kk⟩; replace T6 := T6.chg0 kk; replace D1 := D1.chg kk (by simp); replace D2 := D2.chg kk (by simp); clear kk cc; have cc := (SK2.out _ T6.k).1)
                  | (go_at_call 45; refine Calls.mono (AN'.out.f2 _ T6) ?_; rintro e w9 ⟨rfl, kk⟩; replace T6 := T6.chg0 kk; replace D1 := D1.chg kk (by simp); replace D2 := D2.chg kk (by simp); clear kk cc; have cc := (SK2.out _ T6.k).1)
                  | (go_at_call 36; refine Calls.mono (AN'.out.a1 _ T6) ?_; rintro e wA ⟨va, rfl, -, Na, kk⟩; replace T6 := T6.chg0 kk; replace D1 := D1.chg kk (by simp); replace D2 := D2.chg kk (by simp); clear kk cc; obtain rfl := Na HN.out; clear Na; have cc := (SK2.out _ T6.k).1)
                  | (go_at_call 46; refine Calls.mono (AN'.out.a2 _ T6) ?_; rintro e wB ⟨vb, rfl, -, Nb, kk⟩; replace T6 := T6.chg0 kk; replace D1 := D1.chg kk (by simp); replace D2 := D2.chg kk (by simp); clear kk cc; obtain rfl := Nb HN.out; clear Nb; obtain ⟨c0, c1, c2, c3, c4, c5⟩ := blk6 D1; obtain ⟨e0, e1, e2, e3, e4, e5⟩ := blk6 D2)
                  | (go_at_call 47; refine Calls.mono (Two11.alike_ok T6) ?_; rintro e w9 ⟨rfl, kk⟩; replace T6 := T6.chg0 kk; clear kk c0 c1 c2 c3 c4 c5 e0 e1 e2 e3 e4 e5 D1 D2))
                  go_loopw [28] (fun i wr => i = .int .i64 0 ∧ Both w wr p r 3 B g v bs M) (fun _ _ => 0)
                  case atStart => exact ⟨rfl, T6⟩
                  case round =>
                    clear T6
                    obtain ⟨rfl, T6⟩ := hrel
                    go_wp2
                    go_roundw
                    case rel => exact ⟨k + 1, M, by go_num, by omega, T6⟩
                    case measure => simp [intOf]; omega
    · have hx : n1 ≤ k ∨ (k < n1 ∧ n2 ≤ k) ∨ (k < n1 ∧ k < n2 ∧ n3 ≤ k) ∨ (k < n1 ∧ k < n2 ∧ k < n3 ∧ 40 ≤ k) := by omega
      have K := T.k
      clear hlt T
      rcases hx with hx | ⟨hx, hy⟩ | ⟨hx, hy, hz⟩ | ⟨hx, hy, hz, hu⟩
      all_goals
        go_wp2_with (go_at_call 37; refine Calls.mono (SlotOne.awake_ok _) ?_; rintro e w10 ⟨rfl, kk⟩; replace K := K.trans kk (by simp); clear kk)
        go_ret
        exact ⟨rfl, K⟩
end Go.Proofs.Ytbjiecpkalcfeaa.SlotPlays
