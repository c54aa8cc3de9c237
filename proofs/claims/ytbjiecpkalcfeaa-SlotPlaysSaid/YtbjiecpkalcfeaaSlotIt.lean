/- Package slot: the iterator 'slots' and All, over any frame. -/
import Derived.Test.YtbjiecpkalcfeaaSlotAll2
import Derived.Test.YtbjiecpkalcfeaaSlotGen
namespace Go.Proofs.Ytbjiecpkalcfeaa.SlotIt
open Go Go.RowKit Go.Shelf Go.Proofs.Ytbjiecpkalcfeaa Go.Proofs.Ytbjiecpkalcfeaa.Heap Go.Proofs.Ytbjiecpkalcfeaa.Bits Go.Proofs.Ytbjiecpkalcfeaa.Cap Go.Proofs.Ytbjiecpkalcfeaa.CapGet Go.Proofs.Ytbjiecpkalcfeaa.Mem Go.Proofs.Ytbjiecpkalcfeaa.Two Go.Proofs.Ytbjiecpkalcfeaa.Slot Go.Proofs.Ytbjiecpkalcfeaa.Pack Go.Proofs.Ytbjiecpkalcfeaa.Unpack Go.Proofs.Ytbjiecpkalcfeaa.SlotAll
attribute [local go_sem] Oper.semAt_some

/-- What Get answers at each slot. -/
def GetsG (n : Nat) (L : List Int) (f : Int) (p g : Nat) (V : Nat → Value) (E : Nat → Int) : Prop :=
  ∀ (k : Nat) (W : World), k < 16 → MemAt W p g n L → Calls Try.prog 38 #[.pointer (some ⟨p, 0, none⟩), .int .i64 f, .int .i64 k] W fun e w' => e = .returned (.tuple #[V k, .int .i64 (E k)]) ∧ Chg [] W w'
def encG (V : Nat → Value) (E : Nat → Int) (k : Nat) : Array Value := #[V k, .int .i64 (E k)]
def CapsV (V : Nat → Value) : Prop := ∀ k, ∃ kk r t l e a, V k = capV kk r t l e a
set_option maxRecDepth 100000 in
set_option maxHeartbeats 2000000 in
theorem slotsG_stops {n : Nat} {L : List Int} {f : Int} {V : Nat → Value} {E : Nat → Int} (bm bf n₀ p g : Nat) (HG0 : GetsG n L f p g V E) (w : World) (hbm : bm < w.heap.size) (hbf : bf < w.heap.size) (hn₀ : n₀ ≤ w.heap.size) (hp : p < n₀) (hg : g < n₀) (m : MemAt w p g n L)
    (hm : w.cell? ⟨bm, 0, none⟩ = some (.pointer (some ⟨p, 0, none⟩))) (hf : w.cell? ⟨bf, 0, none⟩ = some (.int .i64 f)) :
    SeqStopsK Fence.wide 9 Try.prog 92 #[.pointer (some ⟨bm, 0, none⟩), .pointer (some ⟨bf, 0, none⟩)] (encG V E) (KpS n₀ bm bf) (fun ys => ys = List.range 16) (fun pre => ∃ k, k ≤ 16 ∧ pre = List.range k) 16 w := by
  intro l J Jx W hW hJ hJx hY h0
  have HG := Lib.hid HG0
  have HY := Lib.hid hY
  have HJ := Lib.hid hJ
  have hm' : W.cell? ⟨bm, 0, none⟩ = some (.pointer (some ⟨p, 0, none⟩)) := (cell_same (hW.block _ hbm) 0).trans hm
  have hf' : W.cell? ⟨bf, 0, none⟩ = some (.int .i64 f) := (cell_same (hW.block _ hbf) 0).trans hf
  have mW := Lib.hid (mem_below m hW (by omega) (by omega))
  have hWs := hW.size
  clear hY hJ hJx m hm hf hW HG0
  refine callsIn_of_wp Try.func92 rfl trivial ?_ rfl
  simp only [Try.ntmps92, List.size_toArray, List.length_cons, List.length_nil, Nat.reduceAdd, Nat.reduceSub, Array.replicate_succ, Array.replicate_zero, List.push_toArray, List.append_toArray, List.nil_append, List.cons_append]
  gi_wp2
  gi_loopw [5] (fun i wr => ∃ k : Nat, k ≤ 16 ∧ i = .int .i64 k ∧ J (List.range k) wr ∧ W.heap.size ≤ wr.heap.size ∧ KpS n₀ bm bf W wr) (fun i _ => 16 - (intOf i).toNat)
  case atStart => exact ⟨0, Nat.zero_le _, rfl, h0, Nat.le_refl _, Below.refl _ _, rfl, rfl⟩
  case round =>
    obtain ⟨k, hk, rfl, hJs, hsz, hK⟩ := hrel
    by_cases hlt : k < 16
    · have c1 : wr.cell? ⟨bm, 0, none⟩ = some (.pointer (some ⟨p, 0, none⟩)) := (cell_same hK.2.1 0).trans hm'
      have c2 : wr.cell? ⟨bf, 0, none⟩ = some (.int .i64 f) := (cell_same hK.2.2 0).trans hf'
      have mr := mem_below mW.out hK.1 hp hg
      have hki : (k : Int) < 16 := by omega
      have HG' := Lib.hid (HG.out k wr hlt mr)
      have HE : Hid (encG V E k = #[V k, .int .i64 (E k)]) := rfl
      have hr1 : List.range k ++ [k] = List.range (k + 1) := List.range_succ.symm
      generalize V k = v at *
      generalize E k = ev at *
      clear mr
      gi_wp2_with (refine ⟨trivial, ?_⟩; gi_at_call 38; refine (callsIn_wide.2 HG'.out).mono ?_; rintro e w5 ⟨rfl, kk⟩; have hJ5 := HJ.out _ _ _ none hJs (grown_of_chg kk) (fun r e => by cases e); have K5 : KpS n₀ bm bf wr w5 := ⟨kk.below (by simp) (by omega), kk.block _ (by omega) (by simp), kk.block _ (by omega) (by simp)⟩; obtain ⟨fn, tmps, assign, body, hy, hR⟩ := HY.out _ k w5 hJ5 (by rw [List.length_range]; exact hlt); rw [HE.out] at hy)
      refine hR.mono ?_
      rintro e W3 (⟨rfl, hJ3, hk3⟩ | ⟨rfl, hJx3⟩)
      · rw [hr1] at hJ3
        gi_wp2
        go_roundw
        case rel => exact ⟨k + 1, by omega, by simp, hJ3, Nat.le_trans hsz (Nat.le_trans K5.1.size hk3.1.size), kpS_t hK (kpS_t K5 hk3)⟩
        case measure => simp [intOf]; omega
      · rw [hr1] at hJx3
        gi_wp2
        refine bodyPost_ret (results_none rfl _ _ _) rfl ?_
        exact ⟨⟨_, rfl⟩, .inr ⟨_, ⟨k + 1, by omega, rfl⟩, hJx3⟩⟩
    · obtain rfl : k = 16 := by omega
      gi_wp2
      go_end0
      exact ⟨⟨_, rfl⟩, .inl ⟨_, rfl, hJs⟩⟩

/-- A slot's capability as cells. -/
def gL (V : Nat → Value) (k : Nat) : List Value := (V k).cells.toList
def capsG (V : Nat → Value) (pre : List Nat) : List Value := pre.flatMap (gL V)
theorem capsG_snoc (V : Nat → Value) (pre : List Nat) (k : Nat) : capsG V (pre ++ [k]) = capsG V pre ++ gL V k := by simp [capsG]
/-- Between two rounds of All. -/
def AllI (V : Nat → Value) (E : Nat → Int) (w : World) (b0 b1 b2 b4 : Nat) (pre : List Nat) (W : World) : Prop :=
  ((Blk W b0 68 #[.slice none 0 0] ∧ Blk W b1 25 #[.int .i64 0] ∧ b4 < W.heap.size ∧ ∃ v, Blk W b2 68 #[v] ∧ W.ownsRow (b4 + 1) 70 6 v pre.length (capsG V pre)) ∧ Below w.heap.size w W) ∧ (pre.length ≤ 16 ∧ ∀ y, y ∈ pre → E y = 0)
/-- Behind a round that has left. -/
def AllX (E : Nat → Int) (w : World) (b0 b1 : Nat) (c : Code) (pre : List Nat) (W : World) : Prop :=
  ((∃ x ys, pre = ys ++ [x] ∧ E x ≠ 0 ∧ (∀ y, y ∈ ys → E y = 0) ∧ c = .ret ∧ Blk W b0 68 #[.slice none 0 0] ∧ Blk W b1 25 #[.int .i64 (E x)])) ∧ Below w.heap.size w W
/-- The loop's variable behind the assignment. -/
def AllAx (V : Nat → Value) (b4 : Nat) (T : Nat → Nat → Array Value) (x : Nat) (a' : Act) (W : World) : Prop :=
  ∃ d, a' = { tmps := T x d, defers := [] } ∧ Blk W d 70 (gL V x).toArray ∧ b4 < d

set_option maxRecDepth 100000 in
set_option maxHeartbeats 4000000 in
theorem all_gen {n : Nat} {L : List Int} {f : Int} {p g : Nat} {V : Nat → Value} {E : Nat → Int} (HG0 : GetsG n L f p g V E) (hV : CapsV V) (w : World) (m : MemAt w p g n L) :
    Calls Try.prog 36 #[.pointer (some ⟨p, 0, none⟩), .int .i64 f] w fun e w' => ((∃ v, e = .returned (.tuple #[v, .int .i64 0]) ∧ (∀ k, k < 16 → E k = 0) ∧ w'.ownsRow 0 70 6 v 16 (capsG V (List.range 16)) ∧ (∀ q, v.ownBlock = some q → w.heap.size ≤ q)) ∨ (∃ k, k < 16 ∧ E k ≠ 0 ∧ (∀ j, j < k → E j = 0) ∧ e = .returned (.tuple #[.slice none 0 0, .int .i64 (E k)]))) ∧ Chg [] w w' := by
  have hpl := m.hd.lt
  have hgl := m.row.lt
  refine (callsIn_wide (n := 10)).1 ?_
  refine callsIn_of_wp_marks Try.func36 rfl trivial ?_ rfl
  simp only [Try.ntmps36, List.size_toArray, List.length_cons, List.length_nil, Nat.reduceAdd, Nat.reduceSub, Array.replicate_succ, Array.replicate_zero, List.push_toArray, List.append_toArray, List.nil_append, List.cons_append]
  gi_wp2_with (refine ⟨trivial, ?_⟩; gi_at_call 70; refine (slots_in _ _ _ ⟨_, rfl⟩ ⟨_, rfl⟩).mono ?_; rintro e w' ⟨rfl, rfl⟩)
  obtain ⟨b0, e0⟩ : ∃ b, w.heap.size = b := ⟨_, rfl⟩
  rw [e0]
  obtain ⟨b1, e1⟩ : ∃ b, b0 + 1 = b := ⟨_, rfl⟩
  rw [e1]
  obtain ⟨b2, e2⟩ : ∃ b, b1 + 1 = b := ⟨_, rfl⟩
  rw [e2]
  obtain ⟨b3, e3⟩ : ∃ b, b2 + 1 = b := ⟨_, rfl⟩
  rw [e3]
  obtain ⟨b4, e4⟩ : ∃ b, b3 + 1 = b := ⟨_, rfl⟩
  try rw [e4]
  obtain ⟨W0, hW0⟩ : ∃ W0, (((((w.alloc (.cells #[.slice none 0 0] 68)).alloc (.cells #[.int .i64 0] 25)).alloc (.cells #[.slice none 0 0] 68)).alloc (.cells #[.pointer (some ⟨p, 0, none⟩)] 24)).alloc (.cells #[.int .i64 f] 3)) = W0 := ⟨_, rfl⟩
  rw [hW0]
  have B0 : Blk W0 b0 68 #[.slice none 0 0] := by rw [← hW0]; exact ((((Blk.new' _ _ _ e0).alloc _).alloc _).alloc _).alloc _
  have B1 : Blk W0 b1 25 #[.int .i64 0] := by rw [← hW0]; exact (((Blk.new' _ _ _ (by simp; omega)).alloc _).alloc _).alloc _
  have B2 : Blk W0 b2 68 #[.slice none 0 0] := by rw [← hW0]; exact ((Blk.new' _ _ _ (by simp; omega)).alloc _).alloc _
  have B3 : Blk W0 b3 24 #[.pointer (some ⟨p, 0, none⟩)] := by rw [← hW0]; exact (Blk.new' _ _ _ (by simp; omega)).alloc _
  have B4 : Blk W0 b4 3 #[.int .i64 f] := by rw [← hW0]; exact Blk.new' _ _ _ (by simp; omega)
  have K0 : Chg [] w W0 := by rw [← hW0]; exact (((((Chg.refl [] w).alloc _).alloc _).alloc _).alloc _).alloc _
  have hs0 : W0.heap.size = b4 + 1 := by rw [← hW0]; simp; omega
  have m0 := m.chg0 K0
  refine wpIn_rangeFunc_ownH rfl (by decide) (gf := 92) (lb := #[.pointer (some ⟨b3, 0, none⟩), .pointer (some ⟨b4, 0, none⟩)]) rfl trivial (enters_of Try.func92 (by kernel_rfl) rfl)
    (slotsG_stops b3 b4 w.heap.size p g HG0 W0 B3.lt B4.lt (by omega) hpl hgl m0 (B3.cell 0) (B4.cell 0)) kpS_t (kpS_b (by omega) B3.lt B4.lt) (Below.refl _ _) (fun _ => rfl)
    (AllI V E w b0 b1 b2 b4) (AllX E w b0 b1) ?hI ?hIx ?h0
    (AllAx V b4 (fun x d => #[.pointer (some ⟨p, 0, none⟩), .int .i64 f, undef, undef, .pointer (some ⟨b0, 0, none⟩), .pointer (some ⟨b1, 0, none⟩), .pointer (some ⟨b2, 0, none⟩), .pointer (some ⟨d, 0, none⟩), .int .i64 (E x), .pointer (some ⟨p, 0, none⟩), .int .i64 f, .func (.func 92) #[] #[.pointer (some ⟨b3, 0, none⟩), .pointer (some ⟨b4, 0, none⟩)], V x, .int .i64 (E x), undef, undef, undef, undef, undef, undef, undef, undef])) ?hAx ?assign ?body ?done ?stop
  case hI =>
    refine OwnFrom.and (OwnFrom.and (Own.from (fun s P R row hs hg hr => ?_) _) (ownFrom_below (Nat.le_refl _) (by omega))) (ownFrom_pure _ _)
    obtain ⟨h0, h1, h2, v, h3, h4⟩ := hs
    refine ⟨blk_own h0 hg hr, blk_own h1 hg hr, Nat.lt_of_lt_of_le h2 hg.size, v, blk_own h3 hg hr, ?_⟩
    refine h4.kept hg ?_
    rcases h4.2 with ⟨rfl, _⟩ | ⟨g, cap, cur, rfl, _, hgb, _⟩
    · exact .inl rfl
    · refine .inr fun e' => ?_
      obtain ⟨o, ho, hc⟩ := hr g (by simpa [Value.ownBlock] using e'.symm)
      rw [hgb] at ho; cases ho; cases hc
  case hIx =>
    intro cc
    refine OwnFrom.and (Own.from (fun s P R row hs hg hr => ?_) _) (ownFrom_below (Nat.le_refl _) (by omega))
    obtain ⟨x, ys, h1, h2, h3, h4, h5, h6⟩ := hs
    exact ⟨x, ys, h1, h2, h3, h4, blk_own h5 hg hr, blk_own h6 hg hr⟩
  case h0 => exact ⟨⟨⟨B0, B1, by omega, _, B2, World.ownsRow_nil _ _ _ _⟩, K0.below (by simp) (Nat.le_refl _)⟩, by decide, fun y hy => by cases hy⟩
  case hAx =>
    intro x a'
    refine Own.from (fun s P R row hs hg hr => ?_) _
    obtain ⟨d, h1, h2, h3⟩ := hs
    exact ⟨d, h1, blk_own h2 hg hr, h3⟩
  case assign =>
    intro l pre x W K hI hK
    obtain ⟨k', r', t', l', e', a', hv'⟩ := hV x
    have hL : gL V x = [.int .i64 k', .int .i64 r', .int .i64 t', .int .i64 l', .int .i64 e', .int .i64 a'] := by unfold gL; rw [hv']; rfl
    unfold encG
    rw [hv']
    obtain ⟨⟨⟨h0, h1, h2, v, h3, h4⟩, hB⟩, hlen, hz⟩ := hI
    have kA := (Chg.refl [] W).alloc (.cells #[.int .i64 k', .int .i64 r', .int .i64 t', .int .i64 l', .int .i64 e', .int .i64 a'] 70)
    have hWw := hB.size
    gi_wp2
    refine hK _ _ ((KeepsOthers.of_grownBy (World.grownBy_alloc W _ none) (fun j o e => by cases e)).from _) ⟨kA.below (by simp) hWw, kA.block _ (by omega) (by simp), kA.block _ h2 (by simp)⟩ ⟨⟨⟨h0.alloc _, h1.alloc _, by simp; omega, v, h3.alloc _, h4.alloc _⟩, hB.trans (kA.below (by simp) hWw)⟩, hlen, hz⟩ ⟨W.heap.size, by dsimp only; rw [hv'], ?_, h2⟩
    rw [hL]
    exact Blk.new W _ _
  case body =>
    rintro l pre x a' W hl hr ⟨⟨⟨h0, h1, h2, v, h3, h4⟩, hB⟩, hlen, hz⟩ ⟨d, rfl, D, hd⟩ hlt
    obtain ⟨k', r', t', l', e', a', hv'⟩ := hV x
    have hL : gL V x = [.int .i64 k', .int .i64 r', .int .i64 t', .int .i64 l', .int .i64 e', .int .i64 a'] := by unfold gL; rw [hv']; rfl
    have hsn := capsG_snoc V pre x
    rw [hL] at D hsn
    dsimp only
    rw [hv']
    have D' : Blk W d 70 (capC k' r' t' l' e' a') := D
    obtain ⟨d0, d1, d2, d3, d4, d5⟩ := blk6 D'
    have c2 : W.cell? ⟨b2, 0, none⟩ = some v := h3.cell 0
    have hWw := hB.size
    have hvb : ∀ k, v.ownBlock = some k → b4 < k := fun k hk => by have := (h4.lt k hk).1; omega
    have H4 := Lib.hid h4
    have H3 := Lib.hid h3
    have hl1 : pre.length + 1 ≤ 16 := by omega
    clear h3 h4 D
    by_cases hE : E x = 0
    case neg =>
      have f0 := h0.frozen 0
      have f1 := h1.frozen 0
      have c0 := h0.cell 0
      have c1 := h1.cell 0
      have K6 := ((Chg.refl [b0, b1] W).setCell (p := ⟨b0, 0, none⟩) (.inl (by simp)) (.slice none 0 0)).setCell (p := ⟨b1, 0, none⟩) (.inl (by simp)) (.int .i64 (E x))
      have kB := K6.below (B := w.heap.size) (fun s hs => by simp at hs; omega) hWw
      have HZ : Hid (∀ y, y ∈ pre → E y = 0) := hz
      have HE2 : Hid (E x ≠ 0) := hE
      have hb : (E x == 0) = false := by rw [beq_eq_false_iff_ne]; exact hE
      obtain ⟨ex, hex⟩ : ∃ ex, E x = ex := ⟨_, rfl⟩
      have HX := Lib.hid hex
      rw [hex] at K6 kB hb ⊢
      have u0 : Blk ((W.setCell ⟨b0, 0, none⟩ (.slice none 0 0)).setCell ⟨b1, 0, none⟩ (.int .i64 ex)) b0 68 #[.slice none 0 0] := (Blk.set_ h0 0 _).far (by simp; omega) _
      have u1 : Blk ((W.setCell ⟨b0, 0, none⟩ (.slice none 0 0)).setCell ⟨b1, 0, none⟩ (.int .i64 ex)) b1 25 #[.int .i64 ex] := Blk.set_ (h1.far (by simp; omega) _) 0 _
      clear hE hz hex
      gi_wp2
      refine ⟨(((KeepsOthers.setCell _ _ _).trans (KeepsOthers.setCell _ _ _))).from _, ⟨x, pre, rfl, HE2.out, HZ.out, rfl, u0, ?_⟩, hB.trans kB⟩
      rw [HX.out]
      exact u1
    have hz2 : ∀ y, y ∈ pre ++ [x] → E y = 0 := fun y hy => by
      rcases List.mem_append.1 hy with h | h
      · exact hz y h
      · rw [List.mem_singleton.1 h]; exact hE
    rw [hE]
    clear hE hz
    gi_wp2_with (gi_at_builtin; refine SlotAll2.wpListIn_app1 rfl (.tmp 17) (.tmp 19) 68 rfl (b4 + 1) 70 (capV 0 0 0 0 0 0) 6 48 Try.underlying68 SlotAll2.info_cap rfl (by decide) (by decide) v pre.length (capsG V pre) rfl (H4.out.alloc _) ⟨W.heap.size, 0, none⟩ 1 [.int .i64 k', .int .i64 r', .int .i64 t', .int .i64 l', .int .i64 e', .int .i64 a'] rfl rfl (SlotAll2.six_new W _ _ rfl) (by simp [Value.oneCell']) (by omega) (by simp; omega) ?_; intro g' c' w5 o5 g5 k5; have B5 : Blk w5 b2 68 #[v] := (g5.block b2 (by simp; omega) (fun e => by have := hvb b2 e.symm; omega)).trans (H3.out.alloc _); have c5 := B5.cell 0; have f5 := B5.frozen 0)
    have KA := (Chg.refl (b2 :: v.ownBlock.toList) W).alloc (.cells #[.int .i64 k', .int .i64 r', .int .i64 t', .int .i64 l', .int .i64 e', .int .i64 a'] 70)
    have K5 : Chg (b2 :: v.ownBlock.toList) W w5 := KA.trans (S' := v.ownBlock.toList) (Chg.of_grown g5 (fun k hk => .inl (by rw [hk]; simp))) (fun s hs => .inl (by simp at hs ⊢; exact .inr hs))
    have K6 := K5.setCell (p := ⟨b2, 0, none⟩) (.inl (by simp)) (.slice (some ⟨g', 0, none⟩) (pre.length + 1) c')
    have hS : ∀ s, s ∈ b2 :: v.ownBlock.toList → b2 ≤ s ∧ s ≠ b3 ∧ s ≠ b4 := fun s hs => by
      simp at hs
      rcases hs with rfl | hs
      · omega
      · have := hvb s hs
        omega
    have nS : ∀ s, s < b2 → s ∉ b2 :: v.ownBlock.toList := fun s h hs => by have := hS s hs; omega
    have kB := K6.below (B := w.heap.size) (fun s hs => by have := hS s hs; omega) hWw
    have hgb := (o5.lt g' rfl).1
    refine ⟨(((KeepsOthers.of_grownBy (World.grownBy_alloc W _ none) (fun j o e => by cases e)).trans k5).trans (KeepsOthers.setCell _ _ _)).from _, ⟨kB, K6.block _ (by omega) (fun h => (hS _ h).2.1 rfl), K6.block _ h2 (fun h => (hS _ h).2.2 rfl)⟩, ⟨⟨h0.chg K6 (nS _ (by omega)), h1.chg K6 (nS _ (by omega)), Nat.lt_of_lt_of_le h2 K6.size, .slice (some ⟨g', 0, none⟩) (pre.length + 1) c', Blk.set_ B5 0 _, ?_⟩, hB.trans kB⟩, by simp; omega, hz2⟩
    rw [hsn, List.length_append]
    exact ownsRow_setCell_other o5 (by simp [Value.ownBlock]; omega) _
  case done =>
    rintro D xs W hD rfl ⟨⟨⟨h0, h1, h2, v, h3, h4⟩, hB⟩, hlen, hz⟩ hDef
    rw [List.length_range] at h4
    obtain ⟨g', c', rfl, -⟩ := h4.form (by decide)
    have hgb := (h4.lt g' rfl).1
    have c0 := h0.cell 0
    have c1 := h1.cell 0
    have c2 := h3.cell 0
    have f0 := h0.frozen 0
    have f1 := h1.frozen 0
    have hWw := hB.size
    have H4 := Lib.hid h4
    clear h4
    gi_wp2
    obtain ⟨U, eU⟩ : ∃ U, (W.setCell ⟨b0, 0, none⟩ (.slice (some ⟨g', 0, none⟩) 16 c')).setCell ⟨b1, 0, none⟩ (.int .i64 0) = U := ⟨_, rfl⟩
    have u0 : Blk U b0 68 #[.slice (some ⟨g', 0, none⟩) 16 c'] := by rw [← eU]; exact (Blk.set_ h0 0 _).far (by simp; omega) _
    have u1 : Blk U b1 25 #[.int .i64 0] := by rw [← eU]; exact Blk.set_ (h1.far (by simp; omega) _) 0 _
    have hO : KeepsOthers W U := by rw [← eU]; exact (KeepsOthers.setCell _ _ _).trans (KeepsOthers.setCell _ _ _)
    have hBU : Below w.heap.size w U := by rw [← eU]; exact (hB.setCell (by simp; omega) _).setCell (by simp; omega) _
    have O4 : U.ownsRow (b4 + 1) 70 6 (.slice (some ⟨g', 0, none⟩) 16 c') 16 (capsG V (List.range 16)) := by
      rw [← eU]
      exact ownsRow_setCell_other (ownsRow_setCell_other H4.out (by simp [Value.ownBlock]; omega) _) (by simp [Value.ownBlock]; omega) _
    rw [eU]
    have hK := hO.same D _ hDef rfl
    refine ⟨by simp, .inl ⟨_, _, rfl, run_takeDeferred hK, ?_⟩⟩
    have gp := grownBy_putObj' U D (.deferred none)
    have g0 := (blk_own u0 gp (fun r e => by cases e; exact ⟨_, hK, rfl⟩)).cell 0
    have g1 := (blk_own u1 gp (fun r e => by cases e; exact ⟨_, hK, rfl⟩)).cell 0
    have O5 : (U.putObj D (.deferred none)).ownsRow 0 70 6 (.slice (some ⟨g', 0, none⟩) 16 c') 16 (capsG V (List.range 16)) := own_grown ⟨O4.1, O4.2.imp id fun ⟨g, cap, cur, a1, _, a3⟩ => ⟨g, cap, cur, a1, Nat.zero_le _, a3⟩⟩ gp (fun r e => by cases e; exact ⟨_, hK, rfl⟩)
    refine ⟨.tuple #[.slice (some ⟨g', 0, none⟩) 16 c', .int .i64 0], ?_, .inl ⟨_, rfl, fun k hk => hz k (List.mem_range.2 hk), O5, fun q hq => ?_⟩, Chg.of_below (hBU.grown gp hBU.size (fun k e => by cases e; omega))⟩
    · simp [results, go_sem, g0, g1]
    · have e : g' = q := by simpa [Value.ownBlock] using hq
      omega
  case stop =>
    rintro D cc pre U hD ⟨k, hk, hpre⟩ ⟨⟨x, ys, hp, hE, hall, rfl, u0, u1⟩, hBU⟩ hK
    subst hpre
    obtain ⟨k, rfl⟩ : ∃ k', k = k' + 1 := ⟨k - 1, by
      rcases k with _ | k
      · simp at hp
      · rfl⟩
    rw [List.range_succ] at hp
    obtain ⟨h1, h2⟩ := List.append_inj' hp rfl
    subst h1
    obtain rfl : k = x := by simpa using h2
    gi_wp2
    refine ⟨by simp, .inl ⟨_, _, rfl, run_takeDeferred hK, ?_⟩⟩
    have gp := grownBy_putObj' U D (.deferred none)
    have g0 := (blk_own u0 gp (fun r e => by cases e; exact ⟨_, hK, rfl⟩)).cell 0
    have g1 := (blk_own u1 gp (fun r e => by cases e; exact ⟨_, hK, rfl⟩)).cell 0
    refine ⟨.tuple #[.slice none 0 0, .int .i64 (E k)], ?_, .inr ⟨k, by omega, hE, fun j hj => hall j (List.mem_range.2 hj), rfl⟩, Chg.of_below (hBU.grown gp hBU.size (fun k e => by cases e; omega))⟩
    simp [results, go_sem, g0, g1]
end Go.Proofs.Ytbjiecpkalcfeaa.SlotIt
