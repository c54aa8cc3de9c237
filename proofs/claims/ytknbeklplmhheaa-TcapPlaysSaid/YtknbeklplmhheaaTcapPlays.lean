/- TcapPlays' walk. -/
import Derived.Test.YtknbeklplmhheaaRef20c
import Derived.Test.YtknbeklplmhheaaTcapTwice
import Derived.Test.YtknbeklplmhheaaTwo20
import Derived.Test.YtknbeklplmhheaaOpenRecs
import Derived.Deep.RegionHeld3
import Derived.Deep.Cut
import Derived.Deep.CutRange
import Derived.Deep.CutBlock
namespace Go.Proofs.Ytknbeklplmhheaa.TcapPlays
open Go Go.RowKit Go.Proofs.Ytknbeklplmhheaa Go.Proofs.Ytknbeklplmhheaa.Heap Go.Proofs.Ytknbeklplmhheaa.Mem Go.Proofs.Ytknbeklplmhheaa.Two Go.Proofs.Ytknbeklplmhheaa.OpenRecs Go.Proofs.Ytknbeklplmhheaa.Tcap Go.Proofs.Ytknbeklplmhheaa.TcapPut Go.Proofs.Ytknbeklplmhheaa.TcapGive Go.Proofs.Ytknbeklplmhheaa.TcapRest

abbrev KS : List (Option IntKind) := [none, some .i64, some .i64]
/-- A budget's record among the arguments. -/
def TcAt (w : World) (q : Addr) (z : Bool) (l t : Int) : Prop := w.cell? q = some (.bool z) ∧ w.cell? ⟨q.block, q.off + 1, none⟩ = some (.int .i64 l) ∧ w.cell? ⟨q.block, q.off + 2, none⟩ = some (.int .i64 t)
theorem stays {w V : World} {q : Addr} {v : Value} (hc : w.cell? q = some v) (hV : Chg [] w V) : V.cell? q = some v := by
  rw [← hc]
  exact World.cell?_of_block (hV.block _ (World.block_lt_of_cell? w _ hc) (by simp))
theorem TcAt.stays {w V : World} {q : Addr} {z : Bool} {l t : Int} (h : TcAt w q z l t) (hV : Chg [] w V) : TcAt V q z l t :=
  ⟨TcapPlays.stays h.1 hV, TcapPlays.stays h.2.1 hV, TcapPlays.stays h.2.2 hV⟩
theorem recs_at {w : World} {ad : Addr} {n : Nat} (h : RecsAt w (some ad) n KS) {i : Nat} (hi : i < n) : ∃ z l t, TcAt w (ad.add (i * 3)) z l t := by
  obtain ⟨a, e, hf⟩ := h.2 (by omega)
  obtain rfl : ad = a := Option.some.inj e
  obtain ⟨v0, ⟨x0, rfl⟩, c0⟩ := hf i hi 0 _ rfl
  obtain ⟨v1, ⟨x1, rfl, _⟩, c1⟩ := hf i hi 1 _ rfl
  obtain ⟨v2, ⟨x2, rfl, _⟩, c2⟩ := hf i hi 2 _ rfl
  have e : ∀ j, (⟨(ad.add (i * 3)).block, (ad.add (i * 3)).off + (j + 1), none⟩ : Addr) = ad.add (i * 3 + (j + 1)) := fun j => by
    rw [← add_of_add]
    generalize ad.add (i * 3) = q
    rfl
  exact ⟨x0, x1, x2, c0, (by rw [e 0]; exact c1), (by rw [e 1]; exact c2)⟩
section
variable {w0 w w1 w2 : World} {p r B g n : Nat} {v : Value} {bs : List (Nat × Nat)} {L M : List Int}
theorem mid (h : Both w0 w p r n B g v bs L) (k : Chg [g] w w1) : Ref02.RM w1 B r v n bs L ∧ Chg [] w0 w1 := by
  refine ⟨ref_keep h.m h.r k, h.k.trans k ?_⟩
  intro s hs
  right
  have := h.fg
  simp at hs
  omega
theorem act (h : Both w0 w p r n B g v bs L) (m : MemAt w1 p g n M) (k : Chg [g] w w1) (r2 : Ref02.RM w2 B r v n bs M) (k2 : Ref02.Chr (bs.map Prod.fst) B w1 w2) (u : U64 M) : Both w0 w2 p r n B g v bs M :=
  ⟨Ref02.chr_mem m k2, r2, h.fB, h.fp, h.fg, Ref02.chr_chg (mid h k).2 k2 h.fB, u⟩
theorem u64_m (h : U64 L) (f : Int) (z : Bool) (l t : Int) : U64 (mL n L f z l t) := by
  unfold mL
  split
  · rename_i hh
    exact Lay.lay_u64 _ (HeadBack.hmake_u64 h _ _ _ _ _) (right_u64 hh.1)
  · exact h
theorem u64_p (h : U64 L) (f : Int) (z : Bool) (l t : Int) : U64 (pL n L f z l t) := by
  unfold pL
  split
  · rename_i hh
    exact Lay.lay_u64 _ h (right_u64 hh.1)
  · exact h
theorem u64_c (h : U64 L) (f k : Int) : U64 (chL n L f k) := by
  unfold chL
  split
  · rename_i hh
    exact Lay.lay_u64 _ h (right_u64 (ch_right h hh))
  · exact h
theorem u64_g (h : U64 L) (f tg k pr : Int) : U64 (gvL n L f tg k pr) := by
  unfold gvL
  split
  · rename_i hh
    have hm := may_zero hh.2.2.2
    have hk := in_bd hh.1.1
    have hp := in_bd hh.1.2.1
    have hb := right_bd (t_right h hh.2.2.1)
    have ha := right_bd (t_right h hh.2.1)
    have r1 : rightC (tZ n L tg) (tL n L tg + k) pr = true := right_mk ⟨by omega, hm.2.2, hp.1, hp.2, fun e => by rw [hm.1] at e; cases e⟩
    refine Lay.lay_u64 _ ?_ (right_u64 r1)
    unfold gv1
    cases hz : tZ n L f
    · rw [if_neg (by simp)]
      have r0 : rightC false (tL n L f - k) (tP n L f) = true := right_mk ⟨by have := hm.2.1 hz; omega, by omega, ha.2.2.1, ha.2.2.2.1, fun e => by cases e⟩
      exact Lay.lay_u64 _ h (right_u64 r0)
    · rw [if_pos rfl]
      exact h
  · exact h
end
set_option maxRecDepth 100000 in
set_option maxHeartbeats 8000000 in
theorem tcapPlays_walk (A0 : Option Addr) (n0 c0 : Nat) (xs : List Int) (A1 : Option Addr) (n1 c1 : Nat) (ks : List Int) (A2 : Option Addr) (n2 c2 : Nat) (fs : List Int) (A3 : Option Addr) (n3 c3 : Nat) (gs : List Int) (A4 : Option Addr) (n4 c4 : Nat) (A5 : Option Addr) (n5 c5 : Nat) (ns : List Int) (w : World)
    (z0 : Nums w .u64 A0 n0 xs) (hu : U64 xs) (z1 : Nums w .u8 A1 n1 ks) (hks : ∀ x, x ∈ ks → 0 ≤ x) (z2 : Nums w .i64 A2 n2 fs) (z3 : Nums w .i64 A3 n3 gs) (z4 : RecsAt w A4 n4 KS) (z5 : Nums w .i64 A5 n5 ns) :
    Calls Try.prog 5 #[.slice A0 n0 c0, .slice A1 n1 c1, .slice A2 n2 c2, .slice A3 n3 c3, .slice A4 n4 c4, .slice A5 n5 c5] w fun e w' => e = .returned (.bool true) ∧ Chg [] w w' := by
  have b1 := z1.2.1
  have b2 := z2.2.1
  have b3 := z3.2.1
  have b4 := z4.1
  have b5 := z5.2.1
  have Z0 := Lib.hid z0
  have Z1 := Lib.hid z1
  have Z2 := Lib.hid z2
  have Z3 := Lib.hid z3
  have Z4 := Lib.hid z4
  have Z5 := Lib.hid z5
  have HU := Lib.hid hu
  have HKS := Lib.hid hks
  clear z0 z1 z2 z3 z4 z5 hks hu
  go_enter Try.func5, Try.ntmps5
  go_wp2_with fail
  refine Calls.mono (Two20.laid_ok 4 (by decide) (by decide) A0 n0 c0 xs _ Z0.out HU.out) ?_
  rintro e w1 ⟨p, r, B, g, v, bs, L, rfl, T⟩
  clear Z0 HU
  go_wp2_with fail
  go_loopw [15] (fun i wr => ∃ k : Nat, ∃ L, i = .int .i64 k ∧ k ≤ n1 ∧ Both w wr p r 4 B g v bs L) (fun i _ => n1 - (intOf i).toNat)
  case atStart => exact ⟨0, _, rfl, Nat.zero_le _, T⟩
  case round =>
    clear T L
    obtain ⟨k, L, rfl, hk, S⟩ := hrel
    by_cases hlt : k < n1 ∧ k < n2 ∧ k < n3 ∧ k < n4 ∧ k < n5 ∧ k < 40
    · obtain ⟨l1, l2, l3, l4, l5, l6⟩ := hlt
      obtain ⟨a1, rfl, -⟩ := Z1.out.2.2 (by omega)
      obtain ⟨a2, rfl, -⟩ := Z2.out.2.2 (by omega)
      obtain ⟨a3, rfl, -⟩ := Z3.out.2.2 (by omega)
      obtain ⟨a4, rfl, -⟩ := Z4.out.2 (by omega)
      obtain ⟨a5, rfl, -⟩ := Z5.out.2.2 (by omega)
      have y0 : 0 ≤ ks.getD k 0 := HKS.out _ (by
        have := Z1.out.1
        rw [List.getD_eq_getElem?_getD, List.getElem?_eq_getElem (by omega)]
        exact List.getElem_mem _)
      obtain ⟨tz, tl, tt, hC⟩ := recs_at Z4.out l4
      have SK : Hid (∀ V, Chg [] w V → V.cell? (a2.add k) = some (.int .i64 (fs.getD k 0)) ∧ V.cell? (a3.add k) = some (.int .i64 (gs.getD k 0)) ∧ V.cell? (a5.add k) = some (.int .i64 (ns.getD k 0)) ∧ TcAt V (a4.add (k * 3)) tz tl tt) := fun V kV =>
        ⟨(Z2.out.chg kV (fun _ _ => by simp)).cells l2, (Z3.out.chg kV (fun _ _ => by simp)).cells l3, (Z5.out.chg kV (fun _ _ => by simp)).cells l5, hC.stays kV⟩
      have cell1 := (Z1.out.chg S.k (fun _ _ => by simp)).cells l1
      generalize ks.getD k 0 = y at *
      generalize fs.getD k 0 = f at *
      generalize gs.getD k 0 = tg at *
      generalize ns.getD k 0 = x at *
      clear hC
      have y6 : y % 4 = 0 ∨ y % 4 = 1 ∨ y % 4 = 2 ∨ y % 4 = 3 := by omega
      go_upto_block 2 with fail
      go_cut [16, 17] from 33 to 258 (fun s16 s17 wx => ∃ (x1 : Int) (M : List Int), s16 = .int .i64 x1 ∧ s17 = .int .i64 x1 ∧ Both w wx p r 4 B g v bs M)
      case first =>
        clear cell1
        rcases y6 with y6 | y6 | y6 | y6
        · as_aux_lemma =>
            have S0 := S.drew
            have K := S0.k
            clear S
            go_wp2_with fail
            clear y6
            go_region_held3 (fun V => V.cell? (a2.add k) = some (.int .i64 f) ∧ V.cell? (a4.add (k * 3)) = some (.bool tz) ∧ V.cell? ⟨(a4.add (k * 3)).block, (a4.add (k * 3)).off + 1, none⟩ = some (.int .i64 tl) ∧ V.cell? ⟨(a4.add (k * 3)).block, (a4.add (k * 3)).off + 2, none⟩ = some (.int .i64 tt)) (exact ⟨(SK.out _ K).1, (SK.out _ K).2.2.2⟩)
              ((go_at_call 10; refine Calls.mono (TcapPut.make_ok S0.m f tz tl tt) ?_; rintro e w5 ⟨rfl, m5, k5⟩; replace K := (mid S0 k5).2))
            replace m5 := m5.drew
            replace k5 := k5.drew
            have X := mid S0 k5
            replace K := X.2
            go_wp2_with fail
            go_region_held3 (fun V => V.cell? (a2.add k) = some (.int .i64 f) ∧ V.cell? (a4.add (k * 3)) = some (.bool tz) ∧ V.cell? ⟨(a4.add (k * 3)).block, (a4.add (k * 3)).off + 1, none⟩ = some (.int .i64 tl) ∧ V.cell? ⟨(a4.add (k * 3)).block, (a4.add (k * 3)).off + 2, none⟩ = some (.int .i64 tt)) (exact ⟨(SK.out _ K).1, (SK.out _ K).2.2.2⟩)
              ((go_at_call 20; refine Calls.mono (Ref20.make_ok X.1 (by decide) (by decide) f tz tl tt) ?_; rintro e w6 ⟨rfl, r6, k6⟩; replace K := Ref02.chr_chg K k6 S0.fB))
            go_wp2_with fail
            go_meet
            case rel => exact ⟨_, _, rfl, rfl, act S0 m5 k5 r6 k6 (u64_m S0.u f tz tl tt)⟩
        · as_aux_lemma =>
            have S0 := S.drew
            have K := S0.k
            clear S
            go_wp2_with fail
            clear y6
            go_region_held3 (fun V => V.cell? (a2.add k) = some (.int .i64 f) ∧ V.cell? (a4.add (k * 3)) = some (.bool tz) ∧ V.cell? ⟨(a4.add (k * 3)).block, (a4.add (k * 3)).off + 1, none⟩ = some (.int .i64 tl) ∧ V.cell? ⟨(a4.add (k * 3)).block, (a4.add (k * 3)).off + 2, none⟩ = some (.int .i64 tt)) (exact ⟨(SK.out _ K).1, (SK.out _ K).2.2.2⟩)
              ((go_at_call 21; refine Calls.mono (TcapPut.put_ok S0.m S0.u f tz tl tt) ?_; rintro e w5 ⟨rfl, m5, k5⟩; replace K := (mid S0 k5).2))
            replace m5 := m5.drew
            replace k5 := k5.drew
            have X := mid S0 k5
            replace K := X.2
            go_wp2_with fail
            go_region_held3 (fun V => V.cell? (a2.add k) = some (.int .i64 f) ∧ V.cell? (a4.add (k * 3)) = some (.bool tz) ∧ V.cell? ⟨(a4.add (k * 3)).block, (a4.add (k * 3)).off + 1, none⟩ = some (.int .i64 tl) ∧ V.cell? ⟨(a4.add (k * 3)).block, (a4.add (k * 3)).off + 2, none⟩ = some (.int .i64 tt)) (exact ⟨(SK.out _ K).1, (SK.out _ K).2.2.2⟩)
              ((go_at_call 22; refine Calls.mono (Ref20.put_ok X.1 (by decide) (by decide) S0.u f tz tl tt) ?_; rintro e w6 ⟨rfl, r6, k6⟩; replace K := Ref02.chr_chg K k6 S0.fB))
            go_wp2_with fail
            go_meet
            case rel => exact ⟨_, _, rfl, rfl, act S0 m5 k5 r6 k6 (u64_p S0.u f tz tl tt)⟩
        · as_aux_lemma =>
            have S0 := S.drew
            have K := S0.k
            clear S
            go_wp2_with fail
            clear y6
            go_region_held3 (fun V => V.cell? (a2.add k) = some (.int .i64 f) ∧ V.cell? (a3.add k) = some (.int .i64 tg) ∧ V.cell? (a5.add k) = some (.int .i64 x) ∧ V.cell? (a4.add (k * 3)) = some (.bool tz) ∧ V.cell? ⟨(a4.add (k * 3)).block, (a4.add (k * 3)).off + 1, none⟩ = some (.int .i64 tl) ∧ V.cell? ⟨(a4.add (k * 3)).block, (a4.add (k * 3)).off + 2, none⟩ = some (.int .i64 tt)) (exact (SK.out _ K))
              ((go_at_call 23; refine Calls.mono (TcapGive.give_ok S0.m S0.u f tg x tt) ?_; rintro e w5 ⟨rfl, m5, k5⟩; replace K := (mid S0 k5).2))
            replace m5 := m5.drew
            replace k5 := k5.drew
            have X := mid S0 k5
            replace K := X.2
            go_wp2_with fail
            go_region_held3 (fun V => V.cell? (a2.add k) = some (.int .i64 f) ∧ V.cell? (a3.add k) = some (.int .i64 tg) ∧ V.cell? (a5.add k) = some (.int .i64 x) ∧ V.cell? (a4.add (k * 3)) = some (.bool tz) ∧ V.cell? ⟨(a4.add (k * 3)).block, (a4.add (k * 3)).off + 1, none⟩ = some (.int .i64 tl) ∧ V.cell? ⟨(a4.add (k * 3)).block, (a4.add (k * 3)).off + 2, none⟩ = some (.int .i64 tt)) (exact (SK.out _ K))
              ((go_at_call 24; refine Calls.mono (Ref20c.give_ok X.1 (by decide) (by decide) S0.u f tg x tt) ?_; rintro e w6 ⟨rfl, r6, k6⟩; replace K := Ref02.chr_chg K k6 S0.fB))
            go_wp2_with fail
            go_meet
            case rel => exact ⟨_, _, rfl, rfl, act S0 m5 k5 r6 k6 (u64_g S0.u f tg x tt)⟩
        · as_aux_lemma =>
            have S0 := S.drew
            have K := S0.k
            clear S
            go_wp2_with fail
            clear y6
            go_region_held3 (fun V => V.cell? (a2.add k) = some (.int .i64 f) ∧ V.cell? (a5.add k) = some (.int .i64 x)) (exact ⟨(SK.out _ K).1, (SK.out _ K).2.2.1⟩)
              ((go_at_call 13; refine Calls.mono (TcapRest.charge_ok S0.m S0.u f x) ?_; rintro e w5 ⟨rfl, m5, k5⟩; replace K := (mid S0 k5).2))
            replace m5 := m5.drew
            replace k5 := k5.drew
            have X := mid S0 k5
            replace K := X.2
            go_wp2_with fail
            go_region_held3 (fun V => V.cell? (a2.add k) = some (.int .i64 f) ∧ V.cell? (a5.add k) = some (.int .i64 x)) (exact ⟨(SK.out _ K).1, (SK.out _ K).2.2.1⟩)
              ((go_at_call 25; refine Calls.mono (Ref20b.charge_ok X.1 (by decide) (by decide) S0.u f x) ?_; rintro e w6 ⟨rfl, r6, k6⟩; replace K := Ref02.chr_chg K k6 S0.fB))
            go_wp2_with fail
            go_meet
            case rel => exact ⟨_, _, rfl, rfl, act S0 m5 k5 r6 k6 (u64_c S0.u f x)⟩
      case rest =>
        clear S y6 y0 cell1
        obtain ⟨x1, M, rfl, rfl, S⟩ := hcut
        have uM := S.u
        have HG := fun (W : World) (q : MemAt W p g 4 M) => Tcap.get_ok q uM f
        have HG2 := fun (W : World) (q : Ref02.RM W B r v 4 bs M) => Ref20.get_ok q (by decide) (by decide) uM f
        unfold tV at HG HG2
        have HC := Tcap.check_ok tz tl tt
        have HC2 := Ref20.check_ok tz tl tt
        have HN := fun (W : World) (q : MemAt W p g 4 M) => TcapRest.can_ok q uM f
        have HN2 := fun (W : World) (q : Ref02.RM W B r v 4 bs M) => Ref20b.can_ok q (by decide) (by decide) uM f
        have HS := fun (W : World) (q : MemAt W p g 4 M) => TcapRest.sum_ok q uM
        have HS2 := fun (W : World) (q : Ref02.RM W B r v 4 bs M) => Ref20b.sum_ok q (by decide) (by decide) uM
        generalize tZ 4 M f = g0 at HG HG2
        generalize tL 4 M f = g1 at HG HG2
        generalize tP 4 M f = g2 at HG HG2
        generalize tE 4 M f = ge at HG HG2
        generalize canB 4 M f = cb at HN HN2
        generalize sumT 4 M 4 = sm at HS HS2
        generalize Head.errH (rightC tz tl tt) = ce at HC HC2
        have HG' := Lib.hid HG
        have HG2' := Lib.hid HG2
        have HC' := Lib.hid HC
        have HC2' := Lib.hid HC2
        have HN' := Lib.hid HN
        have HN2' := Lib.hid HN2
        have HS' := Lib.hid HS
        have HS2' := Lib.hid HS2
        clear HG HG2 HC HC2 HN HN2 HS HS2 uM
        as_aux_lemma =>
          have cc := (SK.out _ S.k).1
          go_wp2_with fail
          refine Calls.mono (HG'.out _ S.m) ?_
          rintro e w7 ⟨rfl, kk⟩
          obtain ⟨d1, ed1⟩ : ∃ d, w7.heap.size = d := ⟨_, rfl⟩
          have D1 := Blk.new' w7 23 (tcC g0 g1 g2) ed1
          replace S := (S.chg0 kk).chg0 ((Chg.refl [] w7).alloc (.cells (tcC g0 g1 g2) 23))
          clear kk cc HG'
          have cc := (SK.out _ S.k).1
          go_wp2_with fail
          refine Calls.mono (HG2'.out _ S.r) ?_
          rintro e w8 ⟨rfl, kk⟩
          obtain ⟨d2, ed2⟩ : ∃ d, w8.heap.size = d := ⟨_, rfl⟩
          have D2 := Blk.new' w8 23 (tcC g0 g1 g2) ed2
          replace S := (S.chg0 kk).chg0 ((Chg.refl [] w8).alloc (.cells (tcC g0 g1 g2) 23))
          replace D1 := (D1.chg kk (by simp)).alloc (.cells (tcC g0 g1 g2) 23)
          clear kk cc HG2'
          go_wp2_with fail
          replace S := S.drew
          replace D1 := D1.drew
          replace D2 := D2.drew
          go_region_held3 (fun V => V.cell? (a2.add k) = some (.int .i64 f) ∧ V.cell? (a4.add (k * 3)) = some (.bool tz) ∧ V.cell? ⟨(a4.add (k * 3)).block, (a4.add (k * 3)).off + 1, none⟩ = some (.int .i64 tl) ∧ V.cell? ⟨(a4.add (k * 3)).block, (a4.add (k * 3)).off + 2, none⟩ = some (.int .i64 tt) ∧ V.cell? ⟨d1, 0, none⟩ = some (.bool g0) ∧ V.cell? ⟨d1, 1, none⟩ = some (.int .i64 g1) ∧ V.cell? ⟨d1, 2, none⟩ = some (.int .i64 g2) ∧ V.cell? ⟨d2, 0, none⟩ = some (.bool g0) ∧ V.cell? ⟨d2, 1, none⟩ = some (.int .i64 g1) ∧ V.cell? ⟨d2, 2, none⟩ = some (.int .i64 g2)) (exact ⟨(SK.out _ S.k).1, (SK.out _ S.k).2.2.2.1, (SK.out _ S.k).2.2.2.2.1, (SK.out _ S.k).2.2.2.2.2, D1.cell 0, D1.cell 1, D1.cell 2, D2.cell 0, D2.cell 1, D2.cell 2⟩)
            (first
            | (go_at_call 28; refine Calls.mono (HN'.out _ S.m) ?_; rintro e w9 ⟨rfl, kk⟩; replace S := S.chg0 kk; replace D1 := D1.chg kk (by simp); replace D2 := D2.chg kk (by simp); clear kk)
            | (go_at_call 29; refine Calls.mono (HN2'.out _ S.r) ?_; rintro e w9 ⟨rfl, kk⟩; replace S := S.chg0 kk; replace D1 := D1.chg kk (by simp); replace D2 := D2.chg kk (by simp); clear kk)
            | (go_at_call 30; refine Calls.mono (HS'.out _ S.m) ?_; rintro e w9 ⟨rfl, kk⟩; replace S := S.chg0 kk; replace D1 := D1.chg kk (by simp); replace D2 := D2.chg kk (by simp); clear kk)
            | (go_at_call 31; refine Calls.mono (HS2'.out _ S.r) ?_; rintro e w9 ⟨rfl, kk⟩; replace S := S.chg0 kk; replace D1 := D1.chg kk (by simp); replace D2 := D2.chg kk (by simp); clear kk)
            | (go_at_call 11; refine Calls.mono (HC'.out _) ?_; rintro e w9 ⟨rfl, kk⟩; replace S := S.chg0 kk; replace D1 := D1.chg kk (by simp); replace D2 := D2.chg kk (by simp); clear kk)
            | (go_at_call 32; refine Calls.mono (HC2'.out _) ?_; rintro e w9 ⟨rfl, kk⟩; replace S := S.chg0 kk; replace D1 := D1.chg kk (by simp); replace D2 := D2.chg kk (by simp); clear kk)
            | (go_at_call 33; refine Calls.mono (Two20.alike_ok S) ?_; rintro e w9 ⟨rfl, kk⟩; replace S := S.chg0 kk; replace D1 := D1.chg kk (by simp); replace D2 := D2.chg kk (by simp); clear kk))
          go_wp2
          go_roundw
          case rel => exact ⟨k + 1, M, by go_num, by omega, S⟩
          case measure => simp [intOf]; omega
    · have hx : n1 ≤ k ∨ (k < n1 ∧ n2 ≤ k) ∨ (k < n1 ∧ k < n2 ∧ n3 ≤ k) ∨ (k < n1 ∧ k < n2 ∧ k < n3 ∧ n4 ≤ k) ∨ (k < n1 ∧ k < n2 ∧ k < n3 ∧ k < n4 ∧ n5 ≤ k) ∨ (k < n1 ∧ k < n2 ∧ k < n3 ∧ k < n4 ∧ k < n5 ∧ 40 ≤ k) := by omega
      have K := S.k
      clear hlt S
      rcases hx with hx | ⟨hx, hy⟩ | ⟨hx, hy, hz⟩ | ⟨hx, hy, hz, hu⟩ | ⟨hx, hy, hz, hu, ht⟩ | ⟨hx, hy, hz, hu, ht, hs⟩
      all_goals
        go_wp2_with fail
        refine Calls.mono (TcapTwice.awake_ok _) ?_
        rintro e w10 ⟨rfl, kk⟩
        replace K := K.trans kk (by simp)
        clear kk
        go_wp2
        go_ret
        exact ⟨rfl, K⟩
end Go.Proofs.Ytknbeklplmhheaa.TcapPlays
