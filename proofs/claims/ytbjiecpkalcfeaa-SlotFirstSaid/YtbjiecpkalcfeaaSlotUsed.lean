/- Package slot: Used, over a frame all of whose slots hold capabilities. -/
import Derived.Test.YtbjiecpkalcfeaaSlotLaw
namespace Go.Proofs.Ytbjiecpkalcfeaa.SlotUsed
open Go Go.RowKit Go.Shelf Go.Proofs.Ytbjiecpkalcfeaa Go.Proofs.Ytbjiecpkalcfeaa.Heap Go.Proofs.Ytbjiecpkalcfeaa.Bits Go.Proofs.Ytbjiecpkalcfeaa.Cap Go.Proofs.Ytbjiecpkalcfeaa.CapGet Go.Proofs.Ytbjiecpkalcfeaa.Mem Go.Proofs.Ytbjiecpkalcfeaa.Two Go.Proofs.Ytbjiecpkalcfeaa.Slot Go.Proofs.Ytbjiecpkalcfeaa.Pack Go.Proofs.Ytbjiecpkalcfeaa.Unpack Go.Proofs.Ytbjiecpkalcfeaa.SlotAll Go.Proofs.Ytbjiecpkalcfeaa.SlotAll2 Go.Proofs.Ytbjiecpkalcfeaa.SlotLaw
attribute [local go_sem] Oper.semAt_some

/-- How many of these slots hold one that is more than quiet. -/
def usedN (L : List Int) (pre : List Nat) : Nat := (pre.filter fun k => decide (1 < sgK L k)).length
theorem usedN_snoc (L : List Int) (pre : List Nat) (k : Nat) : usedN L (pre ++ [k]) = usedN L pre + if 1 < sgK L k then 1 else 0 := by
  unfold usedN
  rw [List.filter_append, List.length_append]
  by_cases h : 1 < sgK L k
  · rw [if_pos h, List.filter_cons_of_pos (by simpa using h)]; rfl
  · rw [if_neg h, List.filter_cons_of_neg (by simpa using h)]; rfl
theorem usedN_le (L : List Int) (pre : List Nat) : usedN L pre ≤ pre.length := List.length_filter_le _ _
/-- Between two rounds of Used. -/
def UsedI (L : List Int) (w : World) (b0 b1 b2 b4 : Nat) (pre : List Nat) (W : World) : Prop :=
  ((Blk W b0 3 #[.int .i64 0] ∧ Blk W b1 25 #[.int .i64 0] ∧ b4 < W.heap.size ∧ Blk W b2 3 #[.int .i64 (usedN L pre)]) ∧ Below w.heap.size w W) ∧ pre.length ≤ 16
set_option maxRecDepth 100000 in
set_option maxHeartbeats 4000000 in
theorem used_ok {L : List Int} {p g : Nat} {w : World} (S : SM w p g L) :
    Calls Try.prog 40 #[.pointer (some ⟨p, 0, none⟩), .int .i64 0] w fun e w' => e = .returned (.tuple #[.int .i64 (usedN L (List.range 16)), .int .i64 0]) ∧ Chg [] w w' := by
  have HG : Hid (∀ k : Nat, sgE 1 L 0 k = 0) := fun k => by
    by_cases h : k < 16
    · exact S.good k h
    · exact sgE_far k (by omega)
  have m := S.m
  have hu := S.u
  have hpl := m.hd.lt
  have hgl := m.row.lt
  clear S
  refine (callsIn_wide (n := 10)).1 ?_
  refine callsIn_of_wp_marks Try.func40 rfl trivial ?_ rfl
  simp only [Try.ntmps40, List.size_toArray, List.length_cons, List.length_nil, Nat.reduceAdd, Nat.reduceSub, Array.replicate_succ, Array.replicate_zero, List.push_toArray, List.append_toArray, List.nil_append, List.cons_append]
  gi_wp2_with (refine ⟨trivial, ?_⟩; gi_at_call 70; refine (slots_in _ _ _ ⟨_, rfl⟩ ⟨_, rfl⟩).mono ?_; rintro e w' ⟨rfl, rfl⟩)
  obtain ⟨b0, e0⟩ : ∃ b, w.heap.size = b := ⟨_, rfl⟩
  rw [e0]
  obtain ⟨b1, e1⟩ : ∃ b, b0 + 1 = b := ⟨_, rfl⟩
  rw [e1]
  obtain ⟨b2, e2⟩ : ∃ b, b1 + 1 = b := ⟨_, rfl⟩
  rw [e2]
  obtain ⟨b3, e3⟩ : ∃ b, b2 + 1 = b := ⟨_, rfl⟩
  rw [e3]
  obtain ⟨b4, e4⟩ : ∃ b, b3 + 1 = b := ⟨_, rfl⟩
  try rw [e4]
  obtain ⟨W0, hW0⟩ : ∃ W0, (((((w.alloc (.cells #[.int .i64 0] 3)).alloc (.cells #[.int .i64 0] 25)).alloc (.cells #[.int .i64 0] 3)).alloc (.cells #[.pointer (some ⟨p, 0, none⟩)] 24)).alloc (.cells #[.int .i64 0] 3)) = W0 := ⟨_, rfl⟩
  rw [hW0]
  have B0 : Blk W0 b0 3 #[.int .i64 0] := by rw [← hW0]; exact ((((Blk.new' _ _ _ e0).alloc _).alloc _).alloc _).alloc _
  have B1 : Blk W0 b1 25 #[.int .i64 0] := by rw [← hW0]; exact (((Blk.new' _ _ _ (by simp; omega)).alloc _).alloc _).alloc _
  have B2 : Blk W0 b2 3 #[.int .i64 0] := by rw [← hW0]; exact ((Blk.new' _ _ _ (by simp; omega)).alloc _).alloc _
  have B3 : Blk W0 b3 24 #[.pointer (some ⟨p, 0, none⟩)] := by rw [← hW0]; exact (Blk.new' _ _ _ (by simp; omega)).alloc _
  have B4 : Blk W0 b4 3 #[.int .i64 0] := by rw [← hW0]; exact Blk.new' _ _ _ (by simp; omega)
  have K0 : Chg [] w W0 := by rw [← hW0]; exact (((((Chg.refl [] w).alloc _).alloc _).alloc _).alloc _).alloc _
  have hs0 : W0.heap.size = b4 + 1 := by rw [← hW0]; simp; omega
  have m0 := m.chg0 K0
  refine wpIn_rangeFunc_ownH rfl (by decide) (gf := 92) (lb := #[.pointer (some ⟨b3, 0, none⟩), .pointer (some ⟨b4, 0, none⟩)]) rfl trivial (enters_of Try.func92 (by kernel_rfl) rfl)
    (slots_stops (f := 0) b3 b4 w.heap.size p g W0 B3.lt B4.lt (by omega) hpl hgl m0 hu (by decide) (by decide) (B3.cell 0) (B4.cell 0)) kpS_t (kpS_b (by omega) B3.lt B4.lt) (Below.refl _ _) (fun _ => rfl)
    (UsedI L w b0 b1 b2 b4) (fun _ _ _ => False) ?hI ?hIx ?h0
    (AllAx 1 L 0 b4 (fun x d => #[.pointer (some ⟨p, 0, none⟩), .int .i64 0, undef, undef, .pointer (some ⟨b0, 0, none⟩), .pointer (some ⟨b1, 0, none⟩), .pointer (some ⟨b2, 0, none⟩), .pointer (some ⟨d, 0, none⟩), .int .i64 0, .pointer (some ⟨p, 0, none⟩), .int .i64 0, .func (.func 92) #[] #[.pointer (some ⟨b3, 0, none⟩), .pointer (some ⟨b4, 0, none⟩)], sgV 1 L 0 x, .int .i64 0, undef, undef, undef, undef, undef, undef, undef, undef, undef, undef, undef])) ?hAx ?assign ?body ?done ?stop
  case hI =>
    refine OwnFrom.and (OwnFrom.and (Own.from (fun s P R row hs hg hr => ?_) _) (ownFrom_below (Nat.le_refl _) (by omega))) (ownFrom_pure _ _)
    obtain ⟨h0, h1, h2, h3⟩ := hs
    exact ⟨blk_own h0 hg hr, blk_own h1 hg hr, Nat.lt_of_lt_of_le h2 hg.size, blk_own h3 hg hr⟩
  case hIx =>
    intro cc
    exact Own.from (fun _ _ _ _ hs _ _ => hs) _
  case h0 => exact ⟨⟨⟨B0, B1, by omega, B2⟩, K0.below (by simp) (Nat.le_refl _)⟩, by decide⟩
  case hAx =>
    intro x a'
    refine Own.from (fun s P R row hs hg hr => ?_) _
    obtain ⟨d, h1, h2, h3⟩ := hs
    exact ⟨d, h1, blk_own h2 hg hr, h3⟩
  case assign =>
    intro l pre x W K hI hK
    obtain ⟨r', t', l', e', a', hv'⟩ := sg_form L x
    generalize sgK L x = k' at hv'
    have hL : sgL 1 L 0 x = [.int .i64 k', .int .i64 r', .int .i64 t', .int .i64 l', .int .i64 e', .int .i64 a'] := by unfold sgL; rw [hv']; rfl
    unfold encS
    rw [hv', HG.out x]
    obtain ⟨⟨⟨h0, h1, h2, h3⟩, hB⟩, hlen⟩ := hI
    have kA := (Chg.refl [] W).alloc (.cells #[.int .i64 k', .int .i64 r', .int .i64 t', .int .i64 l', .int .i64 e', .int .i64 a'] 70)
    have hWw := hB.size
    gi_wp2
    refine hK _ _ ((KeepsOthers.of_grownBy (World.grownBy_alloc W _ none) (fun j o e => by cases e)).from _) ⟨kA.below (by simp) hWw, kA.block _ (by omega) (by simp), kA.block _ h2 (by simp)⟩ ⟨⟨⟨h0.alloc _, h1.alloc _, by simp; omega, h3.alloc _⟩, hB.trans (kA.below (by simp) hWw)⟩, hlen⟩ ⟨W.heap.size, by dsimp only; rw [hv'], ?_, h2⟩
    rw [hL]
    exact Blk.new W _ _
  case body =>
    rintro l pre x a' W hl hr ⟨⟨⟨h0, h1, h2, h3⟩, hB⟩, hlen⟩ ⟨d, rfl, D, hd⟩ hlt
    obtain ⟨r', t', l', e', a', hv'⟩ := sg_form L x
    have hL : sgL 1 L 0 x = [.int .i64 (sgK L x), .int .i64 r', .int .i64 t', .int .i64 l', .int .i64 e', .int .i64 a'] := by unfold sgL; rw [hv']; rfl
    have hsn := usedN_snoc L pre x
    have hle := usedN_le L pre
    rw [hL] at D
    dsimp only
    rw [hv']
    have D' : Blk W d 70 (capC (sgK L x) r' t' l' e' a') := D
    obtain ⟨d0, d1, d2, d3, d4, d5⟩ := blk6 D'
    have c2 := h3.cell 0
    have f2 := h3.frozen 0
    have hWw := hB.size
    clear D hv' hL
    by_cases h1k : 1 < sgK L x
    · rw [if_pos h1k] at hsn
      generalize sgK L x = kk at *
      generalize usedN L pre = cnt at *
      have hw1 : IntKind.i64.wrap ((cnt : Int) + 1) = (cnt : Int) + 1 := by rw [IntKind.wrap_i64]; omega
      have K6 := (Chg.refl [b2] W).setCell (p := ⟨b2, 0, none⟩) (.inl (by simp)) (.int .i64 ((cnt : Int) + 1))
      have kB := K6.below (B := w.heap.size) (fun s hs => by simp at hs; omega) hWw
      gi_wp2
      refine ⟨(KeepsOthers.setCell _ _ _).from _, ⟨kB, K6.block _ (by omega) (by simp; omega), K6.block _ h2 (by simp; omega)⟩, ⟨⟨h0.chg K6 (by simp; omega), h1.chg K6 (by simp; omega), Nat.lt_of_lt_of_le h2 K6.size, ?_⟩, hB.trans kB⟩, by simp; omega⟩
      rw [hsn]
      exact Blk.set_ h3 0 _
    · rw [if_neg h1k, Nat.add_zero] at hsn
      generalize sgK L x = kk at *
      gi_wp2
      refine ⟨(KeepsOthers.refl _).from _, ⟨Below.refl _ _, rfl, rfl⟩, ⟨⟨h0, h1, h2, ?_⟩, hB⟩, by simp; omega⟩
      rw [hsn]
      exact h3
  case done =>
    rintro D xs W hD rfl ⟨⟨⟨h0, h1, h2, h3⟩, hB⟩, hlen⟩ hDef
    have c0 := h0.cell 0
    have c1 := h1.cell 0
    have c2 := h3.cell 0
    have f0 := h0.frozen 0
    have f1 := h1.frozen 0
    have hWw := hB.size
    obtain ⟨cnt, hcnt⟩ : ∃ cnt, usedN L (List.range 16) = cnt := ⟨_, rfl⟩
    rw [hcnt] at c2
    have HCN := Lib.hid hcnt
    clear hcnt
    gi_wp2
    obtain ⟨U, eU⟩ : ∃ U, (W.setCell ⟨b0, 0, none⟩ (.int .i64 cnt)).setCell ⟨b1, 0, none⟩ (.int .i64 0) = U := ⟨_, rfl⟩
    have u0 : Blk U b0 3 #[.int .i64 cnt] := by rw [← eU]; exact (Blk.set_ h0 0 _).far (by simp; omega) _
    have u1 : Blk U b1 25 #[.int .i64 0] := by rw [← eU]; exact Blk.set_ (h1.far (by simp; omega) _) 0 _
    have hO : KeepsOthers W U := by rw [← eU]; exact (KeepsOthers.setCell _ _ _).trans (KeepsOthers.setCell _ _ _)
    have hBU : Below w.heap.size w U := by rw [← eU]; exact (hB.setCell (by simp; omega) _).setCell (by simp; omega) _
    rw [eU]
    have hK := hO.same D _ hDef rfl
    refine ⟨by simp, .inl ⟨_, _, rfl, run_takeDeferred hK, ?_⟩⟩
    have gp := grownBy_putObj' U D (.deferred none)
    have g0 := (blk_own u0 gp (fun r e => by cases e; exact ⟨_, hK, rfl⟩)).cell 0
    have g1 := (blk_own u1 gp (fun r e => by cases e; exact ⟨_, hK, rfl⟩)).cell 0
    refine ⟨.tuple #[.int .i64 cnt, .int .i64 0], ?_, by rw [HCN.out], Chg.of_below (hBU.grown gp hBU.size (fun k e => by cases e; omega))⟩
    simp [results, go_sem, g0, g1]
  case stop =>
    rintro D cc pre W hD hp hf hDef
    exact hf.elim
end Go.Proofs.Ytbjiecpkalcfeaa.SlotUsed
