/- ThdPlays' walk. -/
import Derived.Test.YtknbeklplmhheaaRef18b
import Derived.Test.YtknbeklplmhheaaThdBack
import Derived.Test.YtknbeklplmhheaaTwo18
import Derived.Test.YtknbeklplmhheaaOpenRecs
import Derived.Deep.Cut
import Derived.Deep.CutRange
import Derived.Deep.CutBlock
namespace Go.Proofs.Ytknbeklplmhheaa.ThdPlays
open Go Go.RowKit Go.Proofs.Ytknbeklplmhheaa Go.Proofs.Ytknbeklplmhheaa.Heap Go.Proofs.Ytknbeklplmhheaa.Mem Go.Proofs.Ytknbeklplmhheaa.Two Go.Proofs.Ytknbeklplmhheaa.OpenRecs Go.Proofs.Ytknbeklplmhheaa.Thd Go.Proofs.Ytknbeklplmhheaa.ThdGet Go.Proofs.Ytknbeklplmhheaa.ThdPut Go.Proofs.Ytknbeklplmhheaa.ThdRegs Go.Proofs.Ytknbeklplmhheaa.Regs Go.Proofs.Ytknbeklplmhheaa.Ref05

abbrev KS : List (Option IntKind) := [some .i64, some .i64, some .i64, some .i64, some .i64]
/-- A thread's record among the arguments. -/
def ThdAt (w : World) (q : Addr) (a b c d e : Int) : Prop := w.cell? q = some (.int .i64 a) ∧ w.cell? ⟨q.block, q.off + 1, none⟩ = some (.int .i64 b) ∧ w.cell? ⟨q.block, q.off + 2, none⟩ = some (.int .i64 c) ∧ w.cell? ⟨q.block, q.off + 3, none⟩ = some (.int .i64 d) ∧ w.cell? ⟨q.block, q.off + 4, none⟩ = some (.int .i64 e)
theorem stays {w V : World} {q : Addr} {v : Value} (hc : w.cell? q = some v) (hV : Chg [] w V) : V.cell? q = some v := by
  rw [← hc]
  exact World.cell?_of_block (hV.block _ (World.block_lt_of_cell? w _ hc) (by simp))
theorem ThdAt.stays {w V : World} {q : Addr} {a b c d e : Int} (h : ThdAt w q a b c d e) (hV : Chg [] w V) : ThdAt V q a b c d e :=
  ⟨ThdPlays.stays h.1 hV, ThdPlays.stays h.2.1 hV, ThdPlays.stays h.2.2.1 hV, ThdPlays.stays h.2.2.2.1 hV, ThdPlays.stays h.2.2.2.2 hV⟩
theorem recs_at {w : World} {ad : Addr} {n : Nat} (h : RecsAt w (some ad) n KS) {i : Nat} (hi : i < n) : ∃ a b c d e, ThdAt w (ad.add (i * 5)) a b c d e := by
  obtain ⟨a, e, hf⟩ := h.2 (by omega)
  obtain rfl : ad = a := Option.some.inj e
  obtain ⟨v0, ⟨x0, rfl, _⟩, c0⟩ := hf i hi 0 _ rfl
  obtain ⟨v1, ⟨x1, rfl, _⟩, c1⟩ := hf i hi 1 _ rfl
  obtain ⟨v2, ⟨x2, rfl, _⟩, c2⟩ := hf i hi 2 _ rfl
  obtain ⟨v3, ⟨x3, rfl, _⟩, c3⟩ := hf i hi 3 _ rfl
  obtain ⟨v4, ⟨x4, rfl, _⟩, c4⟩ := hf i hi 4 _ rfl
  have e : ∀ j, (⟨(ad.add (i * 5)).block, (ad.add (i * 5)).off + (j + 1), none⟩ : Addr) = ad.add (i * 5 + (j + 1)) := fun j => by
    rw [← add_of_add]
    generalize ad.add (i * 5) = q
    rfl
  exact ⟨x0, x1, x2, x3, x4, c0, (by rw [e 0]; exact c1), (by rw [e 1]; exact c2), (by rw [e 2]; exact c3), (by rw [e 3]; exact c4)⟩
/-- Both memories and both files of registers. -/
structure TS (w0 w : World) (p r B g : Nat) (v : Value) (bs : List (Nat × Nat)) (q sq sb cap : Nat) (L R : List Int) : Prop where
  T : Both w0 w p r 3 B g v bs L
  F : File w q R
  G : RFile w sq sb cap R
  u : U64 R
  hq : w0.heap.size ≤ q
  hs : w0.heap.size ≤ sb
  nr : sb ∉ bs.map Prod.fst
section
variable {w0 w w' w1 w2 : World} {p r B g q sq sb cap : Nat} {v : Value} {bs : List (Nat × Nat)} {L R M R2 : List Int}
theorem RFile.blk_ne {t h : Nat} {cs : Array Value} (G : RFile w sq sb cap R) (hb : Blk w h t cs) (h1 : t ≠ 94) (h2 : t ≠ 36) : sq ≠ h ∧ sb ≠ h := by
  obtain ⟨cs', hc⟩ := Ref02.own_blk G.2.2
  exact ⟨Blk.ne_ G.2.1 hb h1.symm, Blk.ne_ hc hb h2.symm⟩
theorem TS.chg0 (h : TS w0 w p r B g v bs q sq sb cap L R) (k : Chg [] w w') : TS w0 w' p r B g v bs q sq sb cap L R :=
  ⟨h.T.chg0 k, h.F.chg k (by simp), h.G.chg k (by simp) (by simp), h.u, h.hq, h.hs, h.nr⟩
theorem TS.drew (h : TS w0 w p r B g v bs q sq sb cap L R) : TS w0 w.drew p r B g v bs q sq sb cap L R := h.chg0 (Chg.refl [] w).drew
/-- An act on the program's memory, behind which the other one is as it was. -/
theorem TS.mid (h : TS w0 w p r B g v bs q sq sb cap L R) (k : Chg [g] w w1) : Ref02.RM w1 B r v 3 bs L ∧ File w1 q R ∧ RFile w1 sq sb cap R ∧ Chg [] w0 w1 := by
  have n1 := RFile.blk_ne h.G h.T.m.row (by decide) (by decide)
  refine ⟨ref_keep h.T.m h.T.r k, h.F.chg k ?_, h.G.chg k ?_ ?_, h.T.k.trans k ?_⟩
  · simpa using Blk.ne_ h.F.2 h.T.m.row (by decide)
  · simpa using n1.1
  · simpa using n1.2
  · intro s hs
    right
    have := h.T.fg
    simp at hs
    omega
theorem TS.act (h : TS w0 w p r B g v bs q sq sb cap L R) (m : MemAt w1 p g 3 M) (k : Chg [g] w w1) (r2 : Ref02.RM w2 B r v 3 bs M) (k2 : Ref02.Chr (bs.map Prod.fst) B w1 w2) (u : U64 M) : TS w0 w2 p r B g v bs q sq sb cap M R := by
  obtain ⟨r1, F1, G1, K1⟩ := h.mid k
  refine ⟨⟨Ref02.chr_mem m k2, r2, h.T.fB, h.T.fp, h.T.fg, Ref02.chr_chg K1 k2 h.T.fB, u⟩, ⟨F1.1, Ref02.chr_blk F1.2 k2 (.inl (by decide))⟩, Ref18b.file_chr r1 G1 h.nr k2, h.u, h.hq, h.hs, h.nr⟩
/-- Both files of registers are written. -/
theorem TS.regs (h : TS w0 w p r B g v bs q sq sb cap L R) (F : File w1 q R2) (k : Chg [q] w w1) (G : RFile w2 sq sb cap R2) (k2 : Chg [sb] w1 w2) (u : U64 R2) : TS w0 w2 p r B g v bs q sq sb cap L R2 := by
  have n1 := RFile.blk_ne h.G h.F.2 (by decide) (by decide)
  have G1 : RFile w1 sq sb cap R := h.G.chg k (by simpa using n1.1) (by simpa using n1.2)
  have m1 : MemAt w1 p g 3 L := h.T.m.chg k (by simpa using Blk.ne_ h.T.m.hd h.F.2 (by decide)) (by simpa using Blk.ne_ h.T.m.row h.F.2 (by decide))
  have r1 : Ref02.RM w1 B r v 3 bs L := h.T.r.chgT h.F.2 k (by decide) (by decide) (by decide)
  have n2 := RFile.blk_ne G1 m1.hd (by decide) (by decide)
  have n3 := RFile.blk_ne G1 m1.row (by decide) (by decide)
  have n4 := RFile.blk_ne G1 F.2 (by decide) (by decide)
  refine ⟨⟨m1.chg k2 (by simpa using n2.2.symm) (by simpa using n3.2.symm), Ref18b.rm_set r1 G1 h.nr k2, h.T.fB, h.T.fp, h.T.fg, (h.T.k.trans k ?_).trans k2 ?_, h.T.u⟩, F.chg k2 (by simpa using n4.2.symm), G, u, h.hq, h.hs, h.nr⟩
  · intro s hs
    right
    have := h.hq
    simp at hs
    omega
  · intro s hs
    right
    have := h.hs
    simp at hs
    omega
/-- What is told of a frame is a thread's five numbers. -/
theorem u64_ldR (h : U64 L) (f : Int) : U64 (ldR 3 L f) := by
  intro x hx
  unfold ldR at hx
  simp at hx
  rcases hx with rfl | rfl | rfl | rfl | rfl | rfl | rfl | rfl <;> exact h.ld f _
theorem u64_lay {n : Nat} {f b : Int} {xs : List Int} (h : U64 L) (hx : U64 xs) : U64 (Lay.layL n L f b xs) := Lay.lay_u64 xs h hx
theorem u64_m (h : U64 L) (f a b c d e : Int) : U64 (mL 3 L f a b c d e) := by
  unfold mL
  split
  · rename_i hh
    exact u64_lay (HeadBack.hmake_u64 h _ _ _ _ _) (right_u64 hh.1)
  · exact h
theorem u64_p (h : U64 L) (f a b c d e : Int) : U64 (pL 3 L f a b c d e) := by
  unfold pL
  split
  · rename_i hh
    exact u64_lay h (right_u64 hh.1)
  · exact h
theorem u64_s (h : U64 L) (f s : Int) : U64 (sL 3 L f s) := by
  unfold sL
  split
  · rename_i hh
    exact u64_lay h (right_u64 (g_right h hh.1 hh.2))
  · exact h
theorem u64_r (h : U64 L) (f i : Int) {x : Int} (h0 : 0 ≤ x ∧ x < 18446744073709551616) : U64 (rgL 3 L f i x) := by
  unfold rgL
  split
  · exact h.st f _ h0.1 h0.2
  · exact h
theorem u64_sv (h : U64 L) (f : Int) (hR : U64 R) : U64 (if HeadIs.isE 3 L f 4 = 0 then Lay.layL 3 L f 9 R else L) := by
  split
  · exact u64_lay h hR
  · exact h
theorem u64_ld (h : U64 L) (f : Int) (hR : U64 R) : U64 (if HeadIs.isE 3 L f 4 = 0 then ldR 3 L f else R) := by
  split
  · exact u64_ldR h f
  · exact hR
end
def svE (n : Nat) (L : List Int) (f : Int) : Int := if HeadIs.isE n L f 4 = 0 then 0 else 4
def svL (n : Nat) (L : List Int) (f : Int) (R : List Int) : List Int := if HeadIs.isE n L f 4 = 0 then Lay.layL n L f 9 R else L
def ldL (n : Nat) (L : List Int) (f : Int) (R : List Int) : List Int := if HeadIs.isE n L f 4 = 0 then ldR n L f else R
def setR (R : List Int) (i x : Int) : List Int := if 0 ≤ i ∧ i < 8 then R.set i.toNat x else R
theorem setR_u {R : List Int} (h : U64 R) (i : Int) {x : Int} (hx : 0 ≤ x ∧ x < 18446744073709551616) : U64 (setR R i x) := by
  unfold setR
  split
  · exact h.set _ hx.1 hx.2
  · exact h
theorem pset {w : World} {q : Nat} {R : List Int} (F : File w q R) (i x : Int) : Calls Try.prog 47 #[.pointer (some ⟨q, 0, none⟩), .int .i64 i, .int .u64 x] w fun e w' => ∃ ee : Int, e = .returned (.int .i64 ee) ∧ File w' q (setR R i x) ∧ Chg [q] w w' := by
  unfold setR
  by_cases h : 0 ≤ i ∧ i < 8
  · rw [if_pos h]
    exact (Regs.set_ok F i x h.1 h.2).mono (fun _ _ ⟨h1, h2, h3⟩ => ⟨0, h1, h2, h3⟩)
  · rw [if_neg h]
    exact (Regs.set_out F i x h).mono (fun _ _ ⟨h1, h2⟩ => ⟨1, h1, F.chg h2 (by simp), h2.of_nil⟩)
theorem rset {w : World} {sq sb cap : Nat} {R : List Int} (F : RFile w sq sb cap R) (i x : Int) : Calls Try.prog 48 #[.pointer (some ⟨sq, 0, none⟩), .int .i64 i, .int .u64 x] w fun e w' => ∃ ee : Int, e = .returned (.int .i64 ee) ∧ RFile w' sq sb cap (setR R i x) ∧ Chg [sb] w w' := by
  unfold setR
  by_cases h : 0 ≤ i ∧ i < 8
  · rw [if_pos h]
    exact (Ref05.set_ok F i x h.1 h.2).mono (fun _ _ ⟨h1, h2, h3⟩ => ⟨0, h1, h2, h3⟩)
  · rw [if_neg h]
    exact (Ref05.set_out w _ i x h).mono (fun _ w' ⟨h1, h2⟩ => ⟨1, h1, h2 ▸ F, h2 ▸ Chg.refl _ _⟩)
section
variable {w : World} {p g n q : Nat} {L R : List Int}
theorem psave (h : MemAt w p g n L) (hu : U64 L) (f : Int) (F : File w q R) :
    Calls Try.prog 16 #[.pointer (some ⟨p, 0, none⟩), .int .i64 f, .pointer (some ⟨q, 0, none⟩)] w fun x w' => x = .returned (.int .i64 (svE n L f)) ∧ MemAt w' p g n (svL n L f R) ∧ Chg [g] w w' := ThdRegs.save_ok h hu f F
theorem pload (h : MemAt w p g n L) (hu : U64 L) (f : Int) (F : File w q R) :
    Calls Try.prog 17 #[.pointer (some ⟨p, 0, none⟩), .int .i64 f, .pointer (some ⟨q, 0, none⟩)] w fun x w' => x = .returned (.int .i64 (svE n L f)) ∧ File w' q (ldL n L f R) ∧ Chg [q] w w' := ThdRegs.load_ok h hu f F
theorem rsave {B r : Nat} {v : Value} {bs : List (Nat × Nat)} (h : Ref02.RM w B r v n bs L) (n1 : 1 ≤ n) (n2 : n ≤ 64) (hu : U64 L) (f : Int) {b cap : Nat} (F : RFile w q b cap R) (hb : b ∉ bs.map Prod.fst) :
    Calls Try.prog 49 #[.pointer (some ⟨r, 0, none⟩), .int .i64 f, .pointer (some ⟨q, 0, none⟩)] w fun x w' => x = .returned (.int .i64 (svE n L f)) ∧ Ref02.RM w' B r v n bs (svL n L f R) ∧ Ref02.Chr (bs.map Prod.fst) B w w' := Ref18b.save_ok h n1 n2 hu f F hb
theorem rload {B r : Nat} {v : Value} {bs : List (Nat × Nat)} (h : Ref02.RM w B r v n bs L) (n1 : 1 ≤ n) (n2 : n ≤ 64) (hu : U64 L) (f : Int) {b cap : Nat} (F : RFile w q b cap R) (hb : b ∉ bs.map Prod.fst) :
    Calls Try.prog 50 #[.pointer (some ⟨r, 0, none⟩), .int .i64 f, .pointer (some ⟨q, 0, none⟩)] w fun x w' => x = .returned (.int .i64 (svE n L f)) ∧ RFile w' q b cap (ldL n L f R) ∧ Chg [b] w w' := Ref18b.load_ok h n1 n2 hu f F hb
end
theorem words_same {w : World} {A B : Option Addr} {c d : Nat} {R : List Int} (hx : Nums w .u64 A 8 R) (hy : Nums w .u64 B 8 R) : Calls Try.prog 39 #[.slice A 8 c, .slice B 8 d] w fun e w' => e = .returned (.bool true) ∧ Chg [] w w' :=
  (Words18.words_any A B 8 8 c d R R w hx hy).mono (by
    rintro e w' ⟨rfl, k, rfl⟩
    exact ⟨by rw [decide_eq_true rfl], (Chg.refl [] w).drewN k⟩)
set_option maxRecDepth 100000 in
set_option maxHeartbeats 8000000 in
theorem thdPlays_walk (A0 : Option Addr) (n0 c0 : Nat) (xs : List Int) (A1 : Option Addr) (n1 c1 : Nat) (ks : List Int) (A2 : Option Addr) (n2 c2 : Nat) (fs : List Int) (A3 : Option Addr) (n3 c3 : Nat) (A4 : Option Addr) (n4 c4 : Nat) (ws : List Int) (A5 : Option Addr) (n5 c5 : Nat) (vs : List Int) (w : World)
    (z0 : Nums w .u64 A0 n0 xs) (hu : U64 xs) (z1 : Nums w .u8 A1 n1 ks) (hks : ∀ x, x ∈ ks → 0 ≤ x) (z2 : Nums w .i64 A2 n2 fs) (z3 : RecsAt w A3 n3 KS) (z4 : Nums w .i64 A4 n4 ws) (z5 : Nums w .u64 A5 n5 vs) (hv : U64 vs) :
    Calls Try.prog 8 #[.slice A0 n0 c0, .slice A1 n1 c1, .slice A2 n2 c2, .slice A3 n3 c3, .slice A4 n4 c4, .slice A5 n5 c5] w fun e w' => e = .returned (.bool true) ∧ Chg [] w w' := by
  have b1 := z1.2.1
  have b2 := z2.2.1
  have b3 := z3.1
  have b4 := z4.2.1
  have b5 := z5.2.1
  have Z0 := Lib.hid z0
  have Z1 := Lib.hid z1
  have Z2 := Lib.hid z2
  have Z3 := Lib.hid z3
  have Z4 := Lib.hid z4
  have Z5 := Lib.hid z5
  have HU := Lib.hid hu
  have HV := Lib.hid hv
  have HKS := Lib.hid hks
  clear z0 z1 z2 z3 z4 z5 hks hu hv
  go_enter Try.func8, Try.ntmps8
  go_wp2_with fail
  refine Calls.mono (Two18.laid_ok 3 (by decide) (by decide) A0 n0 c0 xs _ Z0.out HU.out) ?_
  rintro e w1 ⟨p, r, B, g, v, bs, L, rfl, T⟩
  clear Z0 HU
  go_wp2_with fail
  refine Calls.mono (Regs.new_fresh _) ?_
  rintro e w2 ⟨q, rfl, hq, F, kk⟩
  replace hq : w.heap.size ≤ q := Nat.le_trans T.k.size hq
  replace T := T.chg0 kk
  clear kk
  go_wp2_with fail
  refine Calls.mono (Ref05.new_ok _) ?_
  rintro e w3 ⟨sq, sb, cap, rfl, -, hs, G, kk⟩
  have nr : sb ∉ bs.map Prod.fst := fun hm => by
    obtain ⟨b, hb1, hb2⟩ := List.mem_map.1 hm
    obtain ⟨j, hj⟩ := List.getElem?_of_mem hb1
    have := own_lt (T.r.rows j b hj) (g := b.1) rfl
    omega
  have S : TS w w3 p r B g v bs q sq sb cap L [0, 0, 0, 0, 0, 0, 0, 0] := ⟨T.chg0 kk, F.chg kk (by simp), G, ThdBack.u8_zero, hq, Nat.le_trans T.k.size hs, nr⟩
  clear T F G kk hq hs nr
  go_wp2_with fail
  go_loopw [17] (fun i wr => ∃ k : Nat, ∃ L R, i = .int .i64 k ∧ k ≤ n1 ∧ TS w wr p r B g v bs q sq sb cap L R) (fun i _ => n1 - (intOf i).toNat)
  case atStart => exact ⟨0, _, _, rfl, Nat.zero_le _, S⟩
  case round =>
    clear S L
    obtain ⟨k, L, R, rfl, hk, S⟩ := hrel
    by_cases hlt : k < n1 ∧ k < n2 ∧ k < n3 ∧ k < n4 ∧ k < n5 ∧ k < 40
    · obtain ⟨l1, l2, l3, l4, l5, l6⟩ := hlt
      obtain ⟨a1, rfl, -⟩ := Z1.out.2.2 (by omega)
      obtain ⟨a2, rfl, -⟩ := Z2.out.2.2 (by omega)
      obtain ⟨a3, rfl, -⟩ := Z3.out.2 (by omega)
      obtain ⟨a4, rfl, -⟩ := Z4.out.2.2 (by omega)
      obtain ⟨a5, rfl, -⟩ := Z5.out.2.2 (by omega)
      have y0 : 0 ≤ ks.getD k 0 := HKS.out _ (by
        have := Z1.out.1
        rw [List.getD_eq_getElem?_getD, List.getElem?_eq_getElem (by omega)]
        exact List.getElem_mem _)
      obtain ⟨ta, tb, tc, td, te, hC⟩ := recs_at Z3.out l3
      have SK : Hid (∀ V, Chg [] w V → V.cell? (a2.add k) = some (.int .i64 (fs.getD k 0)) ∧ V.cell? (a4.add k) = some (.int .i64 (ws.getD k 0)) ∧ V.cell? (a5.add k) = some (.int .u64 (vs.getD k 0)) ∧ ThdAt V (a3.add (k * 5)) ta tb tc td te) := fun V kV =>
        ⟨(Z2.out.chg kV (fun _ _ => by simp)).cells l2, (Z4.out.chg kV (fun _ _ => by simp)).cells l4, (Z5.out.chg kV (fun _ _ => by simp)).cells l5, hC.stays kV⟩
      have cell1 := (Z1.out.chg S.T.k (fun _ _ => by simp)).cells l1
      have UV := Lib.hid (HV.out.get k)
      generalize ks.getD k 0 = y at *
      generalize fs.getD k 0 = f at *
      generalize ws.getD k 0 = x at *
      generalize vs.getD k 0 = xv at *
      clear hC
      have y6 : y % 6 = 0 ∨ y % 6 = 1 ∨ y % 6 = 2 ∨ y % 6 = 3 ∨ y % 6 = 4 ∨ y % 6 = 5 := by omega
      go_upto_block 2 with fail
      go_cut [18, 19] from 37 to 281 (fun s18 s19 wx => ∃ (x1 : Int) (M R1 : List Int), s18 = .int .i64 x1 ∧ s19 = .int .i64 x1 ∧ TS w wx p r B g v bs q sq sb cap M R1)
      case first =>
        clear cell1
        rcases y6 with y6 | y6 | y6 | y6 | y6 | y6
        · as_aux_lemma =>
            have S0 := S.drew
            have K := S0.T.k
            clear S
            go_wp2_with fail
            clear y6
            go_region_held3 (fun V => V.cell? (a2.add k) = some (.int .i64 f) ∧ V.cell? (a3.add (k * 5)) = some (.int .i64 ta) ∧ V.cell? ⟨(a3.add (k * 5)).block, (a3.add (k * 5)).off + 1, none⟩ = some (.int .i64 tb) ∧ V.cell? ⟨(a3.add (k * 5)).block, (a3.add (k * 5)).off + 2, none⟩ = some (.int .i64 tc) ∧ V.cell? ⟨(a3.add (k * 5)).block, (a3.add (k * 5)).off + 3, none⟩ = some (.int .i64 td) ∧ V.cell? ⟨(a3.add (k * 5)).block, (a3.add (k * 5)).off + 4, none⟩ = some (.int .i64 te)) (exact ⟨(SK.out _ K).1, (SK.out _ K).2.2.2⟩)
              ((go_at_call 15; refine Calls.mono (ThdPut.make_ok S0.T.m f ta tb tc td te) ?_; rintro e w5 ⟨rfl, m5, k5⟩; replace K := (S0.mid k5).2.2.2))
            replace m5 := m5.drew
            replace k5 := k5.drew
            have X := S0.mid k5
            replace K := X.2.2.2
            go_wp2_with fail
            go_region_held3 (fun V => V.cell? (a2.add k) = some (.int .i64 f) ∧ V.cell? (a3.add (k * 5)) = some (.int .i64 ta) ∧ V.cell? ⟨(a3.add (k * 5)).block, (a3.add (k * 5)).off + 1, none⟩ = some (.int .i64 tb) ∧ V.cell? ⟨(a3.add (k * 5)).block, (a3.add (k * 5)).off + 2, none⟩ = some (.int .i64 tc) ∧ V.cell? ⟨(a3.add (k * 5)).block, (a3.add (k * 5)).off + 3, none⟩ = some (.int .i64 td) ∧ V.cell? ⟨(a3.add (k * 5)).block, (a3.add (k * 5)).off + 4, none⟩ = some (.int .i64 te)) (exact ⟨(SK.out _ K).1, (SK.out _ K).2.2.2⟩)
              ((go_at_call 43; refine Calls.mono (Ref18b.make_ok X.1 (by decide) (by decide) f ta tb tc td te) ?_; rintro e w6 ⟨rfl, r6, k6⟩; replace K := Ref02.chr_chg K k6 S0.T.fB))
            go_wp2_with fail
            go_meet
            case rel => exact ⟨_, _, _, rfl, rfl, S0.act m5 k5 r6 k6 (u64_m S0.T.u f ta tb tc td te)⟩
        · as_aux_lemma =>
            have S0 := S.drew
            have K := S0.T.k
            clear S
            go_wp2_with fail
            clear y6
            go_region_held3 (fun V => V.cell? (a2.add k) = some (.int .i64 f) ∧ V.cell? (a3.add (k * 5)) = some (.int .i64 ta) ∧ V.cell? ⟨(a3.add (k * 5)).block, (a3.add (k * 5)).off + 1, none⟩ = some (.int .i64 tb) ∧ V.cell? ⟨(a3.add (k * 5)).block, (a3.add (k * 5)).off + 2, none⟩ = some (.int .i64 tc) ∧ V.cell? ⟨(a3.add (k * 5)).block, (a3.add (k * 5)).off + 3, none⟩ = some (.int .i64 td) ∧ V.cell? ⟨(a3.add (k * 5)).block, (a3.add (k * 5)).off + 4, none⟩ = some (.int .i64 te)) (exact ⟨(SK.out _ K).1, (SK.out _ K).2.2.2⟩)
              ((go_at_call 38; refine Calls.mono (ThdPut.put_ok S0.T.m S0.T.u f ta tb tc td te) ?_; rintro e w5 ⟨rfl, m5, k5⟩; replace K := (S0.mid k5).2.2.2))
            replace m5 := m5.drew
            replace k5 := k5.drew
            have X := S0.mid k5
            replace K := X.2.2.2
            go_wp2_with fail
            go_region_held3 (fun V => V.cell? (a2.add k) = some (.int .i64 f) ∧ V.cell? (a3.add (k * 5)) = some (.int .i64 ta) ∧ V.cell? ⟨(a3.add (k * 5)).block, (a3.add (k * 5)).off + 1, none⟩ = some (.int .i64 tb) ∧ V.cell? ⟨(a3.add (k * 5)).block, (a3.add (k * 5)).off + 2, none⟩ = some (.int .i64 tc) ∧ V.cell? ⟨(a3.add (k * 5)).block, (a3.add (k * 5)).off + 3, none⟩ = some (.int .i64 td) ∧ V.cell? ⟨(a3.add (k * 5)).block, (a3.add (k * 5)).off + 4, none⟩ = some (.int .i64 te)) (exact ⟨(SK.out _ K).1, (SK.out _ K).2.2.2⟩)
              ((go_at_call 44; refine Calls.mono (Ref18b.put_ok X.1 (by decide) (by decide) S0.T.u f ta tb tc td te) ?_; rintro e w6 ⟨rfl, r6, k6⟩; replace K := Ref02.chr_chg K k6 S0.T.fB))
            go_wp2_with fail
            go_meet
            case rel => exact ⟨_, _, _, rfl, rfl, S0.act m5 k5 r6 k6 (u64_p S0.T.u f ta tb tc td te)⟩
        · as_aux_lemma =>
            have S0 := S.drew
            have K := S0.T.k
            clear S
            go_wp2_with fail
            clear y6
            go_region_held3 (fun V => V.cell? (a2.add k) = some (.int .i64 f) ∧ V.cell? (a4.add k) = some (.int .i64 x)) (exact ⟨(SK.out _ K).1, (SK.out _ K).2.1⟩)
              ((go_at_call 45; refine Calls.mono (ThdPut.state_ok S0.T.m S0.T.u f x) ?_; rintro e w5 ⟨rfl, m5, k5⟩; replace K := (S0.mid k5).2.2.2))
            replace m5 := m5.drew
            replace k5 := k5.drew
            have X := S0.mid k5
            replace K := X.2.2.2
            go_wp2_with fail
            go_region_held3 (fun V => V.cell? (a2.add k) = some (.int .i64 f) ∧ V.cell? (a4.add k) = some (.int .i64 x)) (exact ⟨(SK.out _ K).1, (SK.out _ K).2.1⟩)
              ((go_at_call 46; refine Calls.mono (Ref18b.state_ok X.1 (by decide) (by decide) S0.T.u f x) ?_; rintro e w6 ⟨rfl, r6, k6⟩; replace K := Ref02.chr_chg K k6 S0.T.fB))
            go_wp2_with fail
            go_meet
            case rel => exact ⟨_, _, _, rfl, rfl, S0.act m5 k5 r6 k6 (u64_s S0.T.u f x)⟩
        · as_aux_lemma =>
            have S0 := S.drew
            have K := S0.T.k
            clear S
            go_wp2_with fail
            clear y6
            go_region_held3 (fun V => V.cell? (a4.add k) = some (.int .i64 x) ∧ V.cell? (a5.add k) = some (.int .u64 xv)) (exact ⟨(SK.out _ K).2.1, (SK.out _ K).2.2.1⟩)
              ((go_at_call 47; refine Calls.mono (pset S0.F x xv) ?_; rintro e w5 ⟨ee, rfl, F5, k5⟩; replace K := K.trans k5 (by intro s hs; right; have := S0.hq; simp at hs; omega)))
            replace F5 : File w5.drew q (setR R x xv) := F5.drew
            replace k5 := k5.drew
            have n1 := RFile.blk_ne S0.G S0.F.2 (by decide) (by decide)
            have G5 := S0.G.chg k5 (by simpa using n1.1) (by simpa using n1.2)
            replace K := K.drew
            go_wp2_with fail
            go_region_held3 (fun V => V.cell? (a4.add k) = some (.int .i64 x) ∧ V.cell? (a5.add k) = some (.int .u64 xv)) (exact ⟨(SK.out _ K).2.1, (SK.out _ K).2.2.1⟩)
              ((go_at_call 48; refine Calls.mono (rset G5 x xv) ?_; rintro e w6 ⟨ee2, rfl, G6, k6⟩; replace K := K.trans k6 (by intro s hs; right; have := S0.hs; simp at hs; omega)))
            have S1 := S0.regs F5 k5 G6 k6 (setR_u S0.u x UV.out)
            clear S0 F5 k5 G6 k6 G5 n1 K
            generalize setR R x xv = R1 at *
            have cc := (SK.out _ S1.T.k).1
            go_wp2_with fail
            refine Calls.mono (psave S1.T.m S1.T.u f S1.F) ?_
            rintro e w7 ⟨rfl, m7, k7⟩
            have X := S1.mid k7
            clear cc
            have cc := (SK.out _ X.2.2.2).1
            go_wp2_with fail
            refine Calls.mono (rsave X.1 (by decide) (by decide) S1.T.u f X.2.2.1 S1.nr) ?_
            rintro e w8 ⟨rfl, r8, k8⟩
            clear cc
            go_wp2_with fail
            go_meet
            case rel => exact ⟨_, _, _, rfl, rfl, S1.act m7 k7 r8 k8 (u64_sv S1.T.u f S1.u)⟩
        · as_aux_lemma =>
            have S1 := S
            clear S
            have cc := (SK.out _ S1.T.k).1
            go_wp2_with fail
            refine Calls.mono (pload S1.T.m S1.T.u f S1.F) ?_
            rintro e w7 ⟨rfl, F7, k7⟩
            have n1 := RFile.blk_ne S1.G S1.F.2 (by decide) (by decide)
            have G7 := S1.G.chg k7 (by simpa using n1.1) (by simpa using n1.2)
            have r7 : Ref02.RM w7 B r v 3 bs L := S1.T.r.chgT S1.F.2 k7 (by decide) (by decide) (by decide)
            have K := S1.T.k.trans k7 (by intro s hs; right; have := S1.hq; simp at hs; omega)
            clear cc
            have cc := (SK.out _ K).1
            go_wp2_with fail
            refine Calls.mono (rload r7 (by decide) (by decide) S1.T.u f G7 S1.nr) ?_
            rintro e w8 ⟨rfl, G8, k8⟩
            clear cc
            go_wp2_with fail
            go_meet
            case rel => exact ⟨_, _, _, rfl, rfl, S1.regs F7 k7 G8 k8 (u64_ld S1.T.u f S1.u)⟩
        · as_aux_lemma =>
            have S0 := S.drew
            have K := S0.T.k
            clear S
            go_wp2_with fail
            clear y6
            go_region_held3 (fun V => V.cell? (a2.add k) = some (.int .i64 f) ∧ V.cell? (a4.add k) = some (.int .i64 x) ∧ V.cell? (a5.add k) = some (.int .u64 xv)) (exact ⟨(SK.out _ K).1, (SK.out _ K).2.1, (SK.out _ K).2.2.1⟩)
              ((go_at_call 51; refine Calls.mono (ThdPut.reg_ok S0.T.m S0.T.u f x xv) ?_; rintro e w5 ⟨rfl, m5, k5⟩; replace K := (S0.mid k5).2.2.2))
            replace m5 := m5.drew
            replace k5 := k5.drew
            have X := S0.mid k5
            replace K := X.2.2.2
            go_wp2_with fail
            go_region_held3 (fun V => V.cell? (a2.add k) = some (.int .i64 f) ∧ V.cell? (a4.add k) = some (.int .i64 x) ∧ V.cell? (a5.add k) = some (.int .u64 xv)) (exact ⟨(SK.out _ K).1, (SK.out _ K).2.1, (SK.out _ K).2.2.1⟩)
              ((go_at_call 52; refine Calls.mono (Ref18b.reg_ok X.1 (by decide) (by decide) S0.T.u f x xv) ?_; rintro e w6 ⟨rfl, r6, k6⟩; replace K := Ref02.chr_chg K k6 S0.T.fB))
            go_wp2_with fail
            go_meet
            case rel => exact ⟨_, _, _, rfl, rfl, S0.act m5 k5 r6 k6 (u64_r S0.T.u f x UV.out)⟩
      case rest =>
        clear S y6 y0 cell1
        obtain ⟨x1, M, R1, rfl, rfl, S⟩ := hcut
        have uM := S.T.u
        have lR := Lib.hid S.F.1
        have HG := fun (W : World) (q : MemAt W p g 3 M) => ThdGet.get_ok q uM f
        have HG2 := fun (W : World) (q : Ref02.RM W B r v 3 bs M) => Ref18.get_ok q (by decide) (by decide) uM f
        unfold gV at HG HG2
        have HC := ThdPut.check_ok ta tb tc td te
        have HC2 := Ref18.check_ok ta tb tc td te
        generalize gT 3 M f 4 = g0 at HG HG2
        generalize gT 3 M f 5 = g1 at HG HG2
        generalize gT 3 M f 6 = g2 at HG HG2
        generalize gT 3 M f 7 = g3 at HG HG2
        generalize gT 3 M f 8 = g4 at HG HG2
        generalize gE 3 M f = ge at HG HG2
        generalize Head.errH (rightT ta tb tc td te) = ce at HC HC2
        have HG' := Lib.hid HG
        have HG2' := Lib.hid HG2
        have HC' := Lib.hid HC
        have HC2' := Lib.hid HC2
        clear HG HG2 HC HC2 uM UV
        as_aux_lemma =>
          have cc := (SK.out _ S.T.k).1
          go_wp2_with fail
          refine Calls.mono (HG'.out _ S.T.m) ?_
          rintro e w7 ⟨rfl, kk⟩
          obtain ⟨d1, ed1⟩ : ∃ d, w7.heap.size = d := ⟨_, rfl⟩
          have D1 := Blk.new' w7 43 (numC g0 g1 g2 g3 g4) ed1
          replace S := (S.chg0 kk).chg0 ((Chg.refl [] w7).alloc (.cells (numC g0 g1 g2 g3 g4) 43))
          clear kk cc HG'
          have cc := (SK.out _ S.T.k).1
          go_wp2_with fail
          refine Calls.mono (HG2'.out _ S.T.r) ?_
          rintro e w8 ⟨rfl, kk⟩
          obtain ⟨d2, ed2⟩ : ∃ d, w8.heap.size = d := ⟨_, rfl⟩
          have D2 := Blk.new' w8 43 (numC g0 g1 g2 g3 g4) ed2
          replace S := (S.chg0 kk).chg0 ((Chg.refl [] w8).alloc (.cells (numC g0 g1 g2 g3 g4) 43))
          replace D1 := (D1.chg kk (by simp)).alloc (.cells (numC g0 g1 g2 g3 g4) 43)
          clear kk cc HG2'
          go_wp2_with fail
          replace S := S.drew
          replace D1 := D1.drew
          replace D2 := D2.drew
          go_region_held3 (fun V => V.cell? (a3.add (k * 5)) = some (.int .i64 ta) ∧ V.cell? ⟨(a3.add (k * 5)).block, (a3.add (k * 5)).off + 1, none⟩ = some (.int .i64 tb) ∧ V.cell? ⟨(a3.add (k * 5)).block, (a3.add (k * 5)).off + 2, none⟩ = some (.int .i64 tc) ∧ V.cell? ⟨(a3.add (k * 5)).block, (a3.add (k * 5)).off + 3, none⟩ = some (.int .i64 td) ∧ V.cell? ⟨(a3.add (k * 5)).block, (a3.add (k * 5)).off + 4, none⟩ = some (.int .i64 te) ∧ V.cell? ⟨sq, 0, none⟩ = some (.slice (some ⟨sb, 0, none⟩) 8 cap) ∧ V.cell? ⟨d1, 0, none⟩ = some (.int .i64 g0) ∧ V.cell? ⟨d1, 1, none⟩ = some (.int .i64 g1) ∧ V.cell? ⟨d1, 2, none⟩ = some (.int .i64 g2) ∧ V.cell? ⟨d1, 3, none⟩ = some (.int .i64 g3) ∧ V.cell? ⟨d1, 4, none⟩ = some (.int .i64 g4) ∧ V.cell? ⟨d2, 0, none⟩ = some (.int .i64 g0) ∧ V.cell? ⟨d2, 1, none⟩ = some (.int .i64 g1) ∧ V.cell? ⟨d2, 2, none⟩ = some (.int .i64 g2) ∧ V.cell? ⟨d2, 3, none⟩ = some (.int .i64 g3) ∧ V.cell? ⟨d2, 4, none⟩ = some (.int .i64 g4)) (exact ⟨(SK.out _ S.T.k).2.2.2.1, (SK.out _ S.T.k).2.2.2.2.1, (SK.out _ S.T.k).2.2.2.2.2.1, (SK.out _ S.T.k).2.2.2.2.2.2.1, (SK.out _ S.T.k).2.2.2.2.2.2.2, S.G.cell, D1.cell 0, D1.cell 1, D1.cell 2, D1.cell 3, D1.cell 4, D2.cell 0, D2.cell 1, D2.cell 2, D2.cell 3, D2.cell 4⟩)
            (first
            | (go_at_call 35; refine Calls.mono (HC'.out _) ?_; rintro e w9 ⟨rfl, kk⟩; replace S := S.chg0 kk; replace D1 := D1.chg kk (by simp); replace D2 := D2.chg kk (by simp); clear kk)
            | (go_at_call 54; refine Calls.mono (HC2'.out _) ?_; rintro e w9 ⟨rfl, kk⟩; replace S := S.chg0 kk; replace D1 := D1.chg kk (by simp); replace D2 := D2.chg kk (by simp); clear kk)
            | (go_at_call 40; refine Calls.mono (Regs.all_fresh S.F) ?_; rintro e w9 ⟨y1, rfl, -, Y1, kk⟩; replace S := S.chg0 kk; replace D1 := D1.chg kk (by simp); replace D2 := D2.chg kk (by simp); replace Y1 := ThdBack.blk_nums Y1 lR.out; clear kk)
            | (go_at_call 39; refine Calls.mono (words_same Y1 S.G.reads) ?_; rintro e w9 ⟨rfl, kk⟩; replace S := S.chg0 kk; replace D1 := D1.chg kk (by simp); replace D2 := D2.chg kk (by simp); clear Y1)
            | (go_at_call 55; refine Calls.mono (Two18.alike_ok S.T) ?_; rintro e w10 ⟨rfl, kk⟩; replace S := S.chg0 kk; replace D1 := D1.chg kk (by simp); replace D2 := D2.chg kk (by simp); clear kk))
          go_wp2
          go_roundw
          case rel => exact ⟨k + 1, M, R1, by go_num, by omega, S⟩
          case measure => simp [intOf]; omega
    · have hx : n1 ≤ k ∨ (k < n1 ∧ n2 ≤ k) ∨ (k < n1 ∧ k < n2 ∧ n3 ≤ k) ∨ (k < n1 ∧ k < n2 ∧ k < n3 ∧ n4 ≤ k) ∨ (k < n1 ∧ k < n2 ∧ k < n3 ∧ k < n4 ∧ n5 ≤ k) ∨ (k < n1 ∧ k < n2 ∧ k < n3 ∧ k < n4 ∧ k < n5 ∧ 40 ≤ k) := by omega
      have K := S.T.k
      clear hlt S
      rcases hx with hx | ⟨hx, hy⟩ | ⟨hx, hy, hz⟩ | ⟨hx, hy, hz, hu⟩ | ⟨hx, hy, hz, hu, ht⟩ | ⟨hx, hy, hz, hu, ht, hs⟩
      all_goals
        go_wp2_with fail
        refine Calls.mono (ThdZero.awake_ok _) ?_
        rintro e w10 ⟨rfl, kk⟩
        replace K := K.trans kk (by simp)
        clear kk
        go_wp2
        go_ret
        exact ⟨rfl, K⟩
end Go.Proofs.Ytknbeklplmhheaa.ThdPlays
