/- Package slot: Used, over any frame. -/
import Derived.Test.YtbjiecpkalcfeaaSlotIt
namespace Go.Proofs.Ytbjiecpkalcfeaa.SlotUse
open Go Go.RowKit Go.Shelf Go.Proofs.Ytbjiecpkalcfeaa Go.Proofs.Ytbjiecpkalcfeaa.Heap Go.Proofs.Ytbjiecpkalcfeaa.Bits Go.Proofs.Ytbjiecpkalcfeaa.Cap Go.Proofs.Ytbjiecpkalcfeaa.CapGet Go.Proofs.Ytbjiecpkalcfeaa.Mem Go.Proofs.Ytbjiecpkalcfeaa.Two Go.Proofs.Ytbjiecpkalcfeaa.Slot Go.Proofs.Ytbjiecpkalcfeaa.Pack Go.Proofs.Ytbjiecpkalcfeaa.Unpack Go.Proofs.Ytbjiecpkalcfeaa.SlotAll Go.Proofs.Ytbjiecpkalcfeaa.SlotIt
attribute [local go_sem] Oper.semAt_some

/-- The slots' capabilities have these kinds. -/
def CapsK (V : Nat → Value) (Kd : Nat → Int) : Prop := ∀ k, ∃ r t l e a, V k = capV (Kd k) r t l e a
theorem CapsK.caps {V : Nat → Value} {Kd : Nat → Int} (h : CapsK V Kd) : CapsV V := fun k => ⟨_, h k⟩
/-- How many of these slots hold one that is more than quiet. -/
def usedN (Kd : Nat → Int) (pre : List Nat) : Nat := (pre.filter fun k => decide (1 < Kd k)).length
theorem usedN_snoc (Kd : Nat → Int) (pre : List Nat) (k : Nat) : usedN Kd (pre ++ [k]) = usedN Kd pre + if 1 < Kd k then 1 else 0 := by
  unfold usedN
  rw [List.filter_append, List.length_append]
  by_cases h : 1 < Kd k
  · rw [if_pos h, List.filter_cons_of_pos (by simpa using h)]; rfl
  · rw [if_neg h, List.filter_cons_of_neg (by simpa using h)]; rfl
theorem usedN_le (Kd : Nat → Int) (pre : List Nat) : usedN Kd pre ≤ pre.length := List.length_filter_le _ _
/-- Between two rounds of Used. -/
def UsedI (Kd : Nat → Int) (E : Nat → Int) (w : World) (b0 b1 b2 b4 : Nat) (pre : List Nat) (W : World) : Prop :=
  ((Blk W b0 3 #[.int .i64 0] ∧ Blk W b1 25 #[.int .i64 0] ∧ b4 < W.heap.size ∧ Blk W b2 3 #[.int .i64 (usedN Kd pre)]) ∧ Below w.heap.size w W) ∧ (pre.length ≤ 16 ∧ ∀ y, y ∈ pre → E y = 0)
/-- Behind a round that has left. -/
def UsedX (E : Nat → Int) (w : World) (b0 b1 : Nat) (c : Code) (pre : List Nat) (W : World) : Prop :=
  ((∃ x ys, pre = ys ++ [x] ∧ E x ≠ 0 ∧ (∀ y, y ∈ ys → E y = 0) ∧ c = .ret ∧ Blk W b0 3 #[.int .i64 0] ∧ Blk W b1 25 #[.int .i64 (E x)])) ∧ Below w.heap.size w W
set_option maxRecDepth 100000 in
set_option maxHeartbeats 4000000 in
theorem used_gen {n : Nat} {L : List Int} {f : Int} {p g : Nat} {V : Nat → Value} {E Kd : Nat → Int} (HG0 : GetsG n L f p g V E) (hV : CapsK V Kd) (w : World) (m : MemAt w p g n L) :
    Calls Try.prog 40 #[.pointer (some ⟨p, 0, none⟩), .int .i64 f] w fun e w' => ((e = .returned (.tuple #[.int .i64 (usedN Kd (List.range 16)), .int .i64 0]) ∧ (∀ k, k < 16 → E k = 0)) ∨ (∃ k, k < 16 ∧ E k ≠ 0 ∧ (∀ j, j < k → E j = 0) ∧ e = .returned (.tuple #[.int .i64 0, .int .i64 (E k)]))) ∧ Chg [] w w' := by
  have hpl := m.hd.lt
  have hgl := m.row.lt
  refine (callsIn_wide (n := 10)).1 ?_
  refine callsIn_of_wp_marks Try.func40 rfl trivial ?_ rfl
  simp only [Try.ntmps40, List.size_toArray, List.length_cons, List.length_nil, Nat.reduceAdd, Nat.reduceSub, Array.replicate_succ, Array.replicate_zero, List.push_toArray, List.append_toArray, List.nil_append, List.cons_append]
  gi_wp2_with (refine ⟨trivial, ?_⟩; gi_at_call 70; refine (slots_in _ _ _ ⟨_, rfl⟩ ⟨_, rfl⟩).mono ?_; rintro e w' ⟨rfl, rfl⟩)
  obtain ⟨b0, e0⟩ : ∃ b, w.heap.size = b := ⟨_, rfl⟩
  rw [e0]
  obtain ⟨b1, e1⟩ : ∃ b, b0 + 1 = b := ⟨_, rfl⟩
  rw [e1]
  obtain ⟨b2, e2⟩ : ∃ b, b1 + 1 = b := ⟨_, rfl⟩
  rw [e2]
  obtain ⟨b3, e3⟩ : ∃ b, b2 + 1 = b := ⟨_, rfl⟩
  rw [e3]
  obtain ⟨b4, e4⟩ : ∃ b, b3 + 1 = b := ⟨_, rfl⟩
  try rw [e4]
  obtain ⟨W0, hW0⟩ : ∃ W0, (((((w.alloc (.cells #[.int .i64 0] 3)).alloc (.cells #[.int .i64 0] 25)).alloc (.cells #[.int .i64 0] 3)).alloc (.cells #[.pointer (some ⟨p, 0, none⟩)] 24)).alloc (.cells #[.int .i64 f] 3)) = W0 := ⟨_, rfl⟩
  rw [hW0]
  have B0 : Blk W0 b0 3 #[.int .i64 0] := by rw [← hW0]; exact ((((Blk.new' _ _ _ e0).alloc _).alloc _).alloc _).alloc _
  have B1 : Blk W0 b1 25 #[.int .i64 0] := by rw [← hW0]; exact (((Blk.new' _ _ _ (by simp; omega)).alloc _).alloc _).alloc _
  have B2 : Blk W0 b2 3 #[.int .i64 0] := by rw [← hW0]; exact ((Blk.new' _ _ _ (by simp; omega)).alloc _).alloc _
  have B3 : Blk W0 b3 24 #[.pointer (some ⟨p, 0, none⟩)] := by rw [← hW0]; exact (Blk.new' _ _ _ (by simp; omega)).alloc _
  have B4 : Blk W0 b4 3 #[.int .i64 f] := by rw [← hW0]; exact Blk.new' _ _ _ (by simp; omega)
  have K0 : Chg [] w W0 := by rw [← hW0]; exact (((((Chg.refl [] w).alloc _).alloc _).alloc _).alloc _).alloc _
  have hs0 : W0.heap.size = b4 + 1 := by rw [← hW0]; simp; omega
  have m0 := m.chg0 K0
  refine wpIn_rangeFunc_ownH rfl (by decide) (gf := 92) (lb := #[.pointer (some ⟨b3, 0, none⟩), .pointer (some ⟨b4, 0, none⟩)]) rfl trivial (enters_of Try.func92 (by kernel_rfl) rfl)
    (slotsG_stops b3 b4 w.heap.size p g HG0 W0 B3.lt B4.lt (by omega) hpl hgl m0 (B3.cell 0) (B4.cell 0)) kpS_t (kpS_b (by omega) B3.lt B4.lt) (Below.refl _ _) (fun _ => rfl)
    (UsedI Kd E w b0 b1 b2 b4) (UsedX E w b0 b1) ?hI ?hIx ?h0
    (AllAx V b4 (fun x d => #[.pointer (some ⟨p, 0, none⟩), .int .i64 f, undef, undef, .pointer (some ⟨b0, 0, none⟩), .pointer (some ⟨b1, 0, none⟩), .pointer (some ⟨b2, 0, none⟩), .pointer (some ⟨d, 0, none⟩), .int .i64 (E x), .pointer (some ⟨p, 0, none⟩), .int .i64 f, .func (.func 92) #[] #[.pointer (some ⟨b3, 0, none⟩), .pointer (some ⟨b4, 0, none⟩)], V x, .int .i64 (E x), undef, undef, undef, undef, undef, undef, undef, undef, undef, undef, undef])) ?hAx ?assign ?body ?done ?stop
  case hI =>
    refine OwnFrom.and (OwnFrom.and (Own.from (fun s P R row hs hg hr => ?_) _) (ownFrom_below (Nat.le_refl _) (by omega))) (ownFrom_pure _ _)
    obtain ⟨h0, h1, h2, h3⟩ := hs
    exact ⟨blk_own h0 hg hr, blk_own h1 hg hr, Nat.lt_of_lt_of_le h2 hg.size, blk_own h3 hg hr⟩
  case hIx =>
    intro cc
    refine OwnFrom.and (Own.from (fun s P R row hs hg hr => ?_) _) (ownFrom_below (Nat.le_refl _) (by omega))
    obtain ⟨x, ys, h1, h2, h3, h4, h5, h6⟩ := hs
    exact ⟨x, ys, h1, h2, h3, h4, blk_own h5 hg hr, blk_own h6 hg hr⟩
  case h0 => exact ⟨⟨⟨B0, B1, by omega, B2⟩, K0.below (by simp) (Nat.le_refl _)⟩, by decide, fun y hy => by cases hy⟩
  case hAx =>
    intro x a'
    refine Own.from (fun s P R row hs hg hr => ?_) _
    obtain ⟨d, h1, h2, h3⟩ := hs
    exact ⟨d, h1, blk_own h2 hg hr, h3⟩
  case assign =>
    intro l pre x W K hI hK
    obtain ⟨r', t', l', e', a', hv'⟩ := hV x
    generalize Kd x = k' at hv'
    have hL : gL V x = [.int .i64 k', .int .i64 r', .int .i64 t', .int .i64 l', .int .i64 e', .int .i64 a'] := by unfold gL; rw [hv']; rfl
    unfold encG
    rw [hv']
    obtain ⟨⟨⟨h0, h1, h2, h3⟩, hB⟩, hlen, hz⟩ := hI
    have kA := (Chg.refl [] W).alloc (.cells #[.int .i64 k', .int .i64 r', .int .i64 t', .int .i64 l', .int .i64 e', .int .i64 a'] 70)
    have hWw := hB.size
    gi_wp2
    refine hK _ _ ((KeepsOthers.of_grownBy (World.grownBy_alloc W _ none) (fun j o e => by cases e)).from _) ⟨kA.below (by simp) hWw, kA.block _ (by omega) (by simp), kA.block _ h2 (by simp)⟩ ⟨⟨⟨h0.alloc _, h1.alloc _, by simp; omega, h3.alloc _⟩, hB.trans (kA.below (by simp) hWw)⟩, hlen, hz⟩ ⟨W.heap.size, by dsimp only; rw [hv'], ?_, h2⟩
    rw [hL]
    exact Blk.new W _ _
  case body =>
    rintro l pre x a' W hl hr ⟨⟨⟨h0, h1, h2, h3⟩, hB⟩, hlen, hz⟩ ⟨d, rfl, D, hd⟩ hlt
    obtain ⟨r', t', l', e', a', hv'⟩ := hV x
    have hL : gL V x = [.int .i64 (Kd x), .int .i64 r', .int .i64 t', .int .i64 l', .int .i64 e', .int .i64 a'] := by unfold gL; rw [hv']; rfl
    have hsn := usedN_snoc Kd pre x
    have hle := usedN_le Kd pre
    rw [hL] at D
    dsimp only
    rw [hv']
    have D' : Blk W d 70 (capC (Kd x) r' t' l' e' a') := D
    obtain ⟨d0, d1, d2, d3, d4, d5⟩ := blk6 D'
    have c2 := h3.cell 0
    have f2 := h3.frozen 0
    have hWw := hB.size
    clear D hv' hL
    by_cases hE : E x = 0
    case neg =>
      have f0 := h0.frozen 0
      have f1 := h1.frozen 0
      have c0 := h0.cell 0
      have c1 := h1.cell 0
      have K6 := ((Chg.refl [b0, b1] W).setCell (p := ⟨b0, 0, none⟩) (.inl (by simp)) (.int .i64 0)).setCell (p := ⟨b1, 0, none⟩) (.inl (by simp)) (.int .i64 (E x))
      have kB := K6.below (B := w.heap.size) (fun s hs => by simp at hs; omega) hWw
      have HZ : Hid (∀ y, y ∈ pre → E y = 0) := hz
      have HE2 : Hid (E x ≠ 0) := hE
      have hb : (E x == 0) = false := by rw [beq_eq_false_iff_ne]; exact hE
      obtain ⟨ex, hex⟩ : ∃ ex, E x = ex := ⟨_, rfl⟩
      have HX := Lib.hid hex
      rw [hex] at K6 kB hb ⊢
      have u0 : Blk ((W.setCell ⟨b0, 0, none⟩ (.int .i64 0)).setCell ⟨b1, 0, none⟩ (.int .i64 ex)) b0 3 #[.int .i64 0] := (Blk.set_ h0 0 _).far (by simp; omega) _
      have u1 : Blk ((W.setCell ⟨b0, 0, none⟩ (.int .i64 0)).setCell ⟨b1, 0, none⟩ (.int .i64 ex)) b1 25 #[.int .i64 ex] := Blk.set_ (h1.far (by simp; omega) _) 0 _
      clear hE hz hex hsn hle
      gi_wp2
      refine ⟨(((KeepsOthers.setCell _ _ _).trans (KeepsOthers.setCell _ _ _))).from _, ⟨x, pre, rfl, HE2.out, HZ.out, rfl, u0, ?_⟩, hB.trans kB⟩
      rw [HX.out]
      exact u1
    have hz2 : ∀ y, y ∈ pre ++ [x] → E y = 0 := fun y hy => by
      rcases List.mem_append.1 hy with h | h
      · exact hz y h
      · rw [List.mem_singleton.1 h]; exact hE
    have HZ2 := Lib.hid hz2
    rw [hE]
    clear hE hz hz2
    by_cases h1k : 1 < Kd x
    · rw [if_pos h1k] at hsn
      generalize Kd x = kk at *
      generalize usedN Kd pre = cnt at *
      have hw1 : IntKind.i64.wrap ((cnt : Int) + 1) = (cnt : Int) + 1 := by rw [IntKind.wrap_i64]; omega
      have K6 := (Chg.refl [b2] W).setCell (p := ⟨b2, 0, none⟩) (.inl (by simp)) (.int .i64 ((cnt : Int) + 1))
      have kB := K6.below (B := w.heap.size) (fun s hs => by simp at hs; omega) hWw
      gi_wp2
      refine ⟨(KeepsOthers.setCell _ _ _).from _, ⟨kB, K6.block _ (by omega) (by simp; omega), K6.block _ h2 (by simp; omega)⟩, ⟨⟨h0.chg K6 (by simp; omega), h1.chg K6 (by simp; omega), Nat.lt_of_lt_of_le h2 K6.size, ?_⟩, hB.trans kB⟩, by simp; omega, HZ2.out⟩
      rw [hsn]
      exact Blk.set_ h3 0 _
    · rw [if_neg h1k, Nat.add_zero] at hsn
      generalize Kd x = kk at *
      gi_wp2
      refine ⟨(KeepsOthers.refl _).from _, ⟨Below.refl _ _, rfl, rfl⟩, ⟨⟨h0, h1, h2, ?_⟩, hB⟩, by simp; omega, HZ2.out⟩
      rw [hsn]
      exact h3
  case done =>
    rintro D xs W hD rfl ⟨⟨⟨h0, h1, h2, h3⟩, hB⟩, hlen, hz⟩ hDef
    have c0 := h0.cell 0
    have c1 := h1.cell 0
    have c2 := h3.cell 0
    have f0 := h0.frozen 0
    have f1 := h1.frozen 0
    have hWw := hB.size
    obtain ⟨cnt, hcnt⟩ : ∃ cnt, usedN Kd (List.range 16) = cnt := ⟨_, rfl⟩
    rw [hcnt] at c2
    have HCN := Lib.hid hcnt
    clear hcnt
    gi_wp2
    obtain ⟨U, eU⟩ : ∃ U, (W.setCell ⟨b0, 0, none⟩ (.int .i64 cnt)).setCell ⟨b1, 0, none⟩ (.int .i64 0) = U := ⟨_, rfl⟩
    have u0 : Blk U b0 3 #[.int .i64 cnt] := by rw [← eU]; exact (Blk.set_ h0 0 _).far (by simp; omega) _
    have u1 : Blk U b1 25 #[.int .i64 0] := by rw [← eU]; exact Blk.set_ (h1.far (by simp; omega) _) 0 _
    have hO : KeepsOthers W U := by rw [← eU]; exact (KeepsOthers.setCell _ _ _).trans (KeepsOthers.setCell _ _ _)
    have hBU : Below w.heap.size w U := by rw [← eU]; exact (hB.setCell (by simp; omega) _).setCell (by simp; omega) _
    rw [eU]
    have hK := hO.same D _ hDef rfl
    refine ⟨by simp, .inl ⟨_, _, rfl, run_takeDeferred hK, ?_⟩⟩
    have gp := grownBy_putObj' U D (.deferred none)
    have g0 := (blk_own u0 gp (fun r e => by cases e; exact ⟨_, hK, rfl⟩)).cell 0
    have g1 := (blk_own u1 gp (fun r e => by cases e; exact ⟨_, hK, rfl⟩)).cell 0
    refine ⟨.tuple #[.int .i64 cnt, .int .i64 0], ?_, .inl ⟨by rw [HCN.out], fun k hk => hz k (List.mem_range.2 hk)⟩, Chg.of_below (hBU.grown gp hBU.size (fun k e => by cases e; omega))⟩
    simp [results, go_sem, g0, g1]
  case stop =>
    rintro D cc pre U hD ⟨k, hk, hpre⟩ ⟨⟨x, ys, hp, hE, hall, rfl, u0, u1⟩, hBU⟩ hK
    subst hpre
    obtain ⟨k, rfl⟩ : ∃ k', k = k' + 1 := ⟨k - 1, by
      rcases k with _ | k
      · simp at hp
      · rfl⟩
    rw [List.range_succ] at hp
    obtain ⟨h1, h2⟩ := List.append_inj' hp rfl
    subst h1
    obtain rfl : k = x := by simpa using h2
    gi_wp2
    refine ⟨by simp, .inl ⟨_, _, rfl, run_takeDeferred hK, ?_⟩⟩
    have gp := grownBy_putObj' U D (.deferred none)
    have g0 := (blk_own u0 gp (fun r e => by cases e; exact ⟨_, hK, rfl⟩)).cell 0
    have g1 := (blk_own u1 gp (fun r e => by cases e; exact ⟨_, hK, rfl⟩)).cell 0
    refine ⟨.tuple #[.int .i64 0, .int .i64 (E k)], ?_, .inr ⟨k, by omega, hE, fun j hj => hall j (List.mem_range.2 hj), rfl⟩, Chg.of_below (hBU.grown gp hBU.size (fun k e => by cases e; omega))⟩
    simp [results, go_sem, g0, g1]
end Go.Proofs.Ytbjiecpkalcfeaa.SlotUse
