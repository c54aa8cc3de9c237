/- Package slot: All, over a frame all of whose slots hold capabilities. -/
import Derived.Test.YtbjiecpkalcfeaaSlotAll
namespace Go.Proofs.Ytbjiecpkalcfeaa.SlotAll2
open Go Go.RowKit Go.Shelf Go.Proofs.Ytbjiecpkalcfeaa Go.Proofs.Ytbjiecpkalcfeaa.Heap Go.Proofs.Ytbjiecpkalcfeaa.Bits Go.Proofs.Ytbjiecpkalcfeaa.Cap Go.Proofs.Ytbjiecpkalcfeaa.CapGet Go.Proofs.Ytbjiecpkalcfeaa.Mem Go.Proofs.Ytbjiecpkalcfeaa.Two Go.Proofs.Ytbjiecpkalcfeaa.Slot Go.Proofs.Ytbjiecpkalcfeaa.Pack Go.Proofs.Ytbjiecpkalcfeaa.Unpack Go.Proofs.Ytbjiecpkalcfeaa.SlotAll
attribute [local go_sem] Oper.semAt_some

/-- A slot's capability as cells. -/
def sgL (n : Nat) (L : List Int) (f : Int) (k : Nat) : List Value := (sgV n L f k).cells.toList
def capsL (n : Nat) (L : List Int) (f : Int) (pre : List Nat) : List Value := pre.flatMap (sgL n L f)
theorem capsL_snoc (n : Nat) (L : List Int) (f : Int) (pre : List Nat) (k : Nat) : capsL n L f (pre ++ [k]) = capsL n L f pre ++ sgL n L f k := by simp [capsL]
theorem info_cap : (Try.prog.info? 70).map (fun i => (i.zero, i.size, i.bytes)) = some (some (capV 0 0 0 0 0 0), 6, 48) := by kernel_rfl
theorem sgE_far {n : Nat} {L : List Int} {f : Int} (k : Nat) (hk : 16 ≤ k) : sgE n L f k = 0 := by
  unfold sgE
  have e1 : ldV n L f (4 + 2 * (k : Int)) = 0 := if_neg (by omega)
  have e2 : ldV n L f (5 + 2 * (k : Int)) = 0 := if_neg (by omega)
  rw [e1, e2]
  decide
/-- Between two rounds of All. -/
def AllI (n : Nat) (L : List Int) (f : Int) (w : World) (b0 b1 b2 b4 : Nat) (pre : List Nat) (W : World) : Prop :=
  ((Blk W b0 68 #[.slice none 0 0] ∧ Blk W b1 25 #[.int .i64 0] ∧ b4 < W.heap.size ∧ ∃ v, Blk W b2 68 #[v] ∧ W.ownsRow (b4 + 1) 70 6 v pre.length (capsL n L f pre)) ∧ Below w.heap.size w W) ∧ pre.length ≤ 16
/-- The loop's variable behind the assignment. -/
def AllAx (n : Nat) (L : List Int) (f : Int) (b4 : Nat) (T : Nat → Nat → Array Value) (x : Nat) (a' : Act) (W : World) : Prop :=
  ∃ d, a' = { tmps := T x d, defers := [] } ∧ Blk W d 70 (sgL n L f x).toArray ∧ b4 < d
/-- append of one element at a round's plain list, onto a row of one's own. -/
theorem wpListIn_app1 {F : Fence} {n : Nat} {P : Program} {w : World} {ops : Array Oper} {rest : List Oper} {o : Oper} {a : Act} {Q : Exit → Act → World → Prop} (hgd : o.guard = none) (s x : Operand) (t : TypeId)
    (ho : o.op = .call { callee := .builtin .append, args := #[s, x], argTypes := #[t, t] })
    (base : Nat) (e : TypeId) (z : Value) (size bytes : Nat) (ht : P.underlying t = some (.slice e)) (hinfo : (P.info? e).map (fun i => (i.zero, i.size, i.bytes)) = some (some z, size, bytes)) (hzs : z.cells.size = size) (hsz : 0 < size) (hby : 0 < bytes)
    (v : Value) (k : Nat) (xs : List Value) (hs : a.eval s = v) (hown : w.ownsRow base e size v k xs)
    (ad : Addr) (c : Nat) (news : List Value) (hx : a.eval x = .slice (some ad) 1 c) (hl : news.length = size) (hnews : ∀ j u, news[j]? = some u → w.cell? (ad.add j) = some u) (h1 : ∀ u ∈ news, u.oneCell' = true)
    (hbytes : (k + 1) * bytes ≤ 140737488355328) (hbase : base ≤ w.heap.size)
    (hK : ∀ g c' w', w'.ownsRow base e size (.slice (some ⟨g, 0, none⟩) (k + 1) c') (k + 1) (xs ++ news) → w.grownBy w' v.ownBlock → KeepsOthers w w' → wpListIn F n P ops Q rest (a.put o.dst (.slice (some ⟨g, 0, none⟩) (k + 1) c')) w') : wpListIn F n P ops Q (o :: rest) a w := by
  obtain ⟨i0, hi, hzz⟩ := Option.map_eq_some_iff.1 hinfo
  simp only [Prod.mk.injEq] at hzz
  obtain ⟨hz0, hz1, hz2⟩ := hzz
  have hlen : k + 1 ≤ 140737488355328 := Nat.le_trans (Nat.le_mul_of_pos_right _ hby) hbytes
  refine wpListIn_append_own w hgd s x t ho base e i0 z size bytes ht hi hz0 hz1 hz2 hzs hsz v k xs hs hown ad 1 c news hx (by omega) hnews h1 (by simp only [maxLen]; omega) hbytes hbase ?_
  intro v' w' ho' hg' _
  obtain ⟨g, c', rfl, -⟩ := ho'.form (by omega)
  refine hK g c' w' ho' hg' (KeepsOthers.of_grownBy hg' fun j o hj ho2 => ?_)
  rcases hown.2 with ⟨rfl, _⟩ | ⟨g', cap', cur', rfl, _, hgb, _⟩
  · simp [Value.ownBlock] at hj
  · have e : g' = j := by simpa [Value.ownBlock] using hj
    subst e
    rw [hgb] at ho2
    cases ho2
    rfl
theorem six_new (w : World) (cs : List Value) (t : TypeId) {g : Nat} (hg : w.heap.size = g) : ∀ j u, cs[j]? = some u → (w.alloc (.cells cs.toArray t)).cell? ((⟨g, 0, none⟩ : Addr).add j) = some u := by
  intro j u hj
  rw [add_plain, (Blk.new' w t cs.toArray hg).cell, Nat.zero_add]
  simpa using hj

set_option maxRecDepth 100000 in
set_option maxHeartbeats 4000000 in
theorem all_ok {n : Nat} {L : List Int} {f : Int} {p g : Nat} (w : World) (m : MemAt w p g n L) (hu : U64 L) (f0 : 0 ≤ f) (f1 : f < n) (hgood : ∀ k : Nat, k < 16 → sgE n L f k = 0) :
    Calls Try.prog 36 #[.pointer (some ⟨p, 0, none⟩), .int .i64 f] w fun e w' => ∃ v, e = .returned (.tuple #[v, .int .i64 0]) ∧ w'.ownsRow 0 70 6 v 16 (capsL n L f (List.range 16)) ∧ (∀ q, v.ownBlock = some q → w.heap.size ≤ q) ∧ Chg [] w w' := by
  have HG : Hid (∀ k : Nat, sgE n L f k = 0) := fun k => by
    by_cases h : k < 16
    · exact hgood k h
    · exact sgE_far k (by omega)
  have hpl := m.hd.lt
  have hgl := m.row.lt
  refine (callsIn_wide (n := 10)).1 ?_
  refine callsIn_of_wp_marks Try.func36 rfl trivial ?_ rfl
  simp only [Try.ntmps36, List.size_toArray, List.length_cons, List.length_nil, Nat.reduceAdd, Nat.reduceSub, Array.replicate_succ, Array.replicate_zero, List.push_toArray, List.append_toArray, List.nil_append, List.cons_append]
  gi_wp2_with (refine ⟨trivial, ?_⟩; gi_at_call 70; refine (slots_in _ _ _ ⟨_, rfl⟩ ⟨_, rfl⟩).mono ?_; rintro e w' ⟨rfl, rfl⟩)
  obtain ⟨b0, e0⟩ : ∃ b, w.heap.size = b := ⟨_, rfl⟩
  rw [e0]
  obtain ⟨b1, e1⟩ : ∃ b, b0 + 1 = b := ⟨_, rfl⟩
  rw [e1]
  obtain ⟨b2, e2⟩ : ∃ b, b1 + 1 = b := ⟨_, rfl⟩
  rw [e2]
  obtain ⟨b3, e3⟩ : ∃ b, b2 + 1 = b := ⟨_, rfl⟩
  rw [e3]
  obtain ⟨b4, e4⟩ : ∃ b, b3 + 1 = b := ⟨_, rfl⟩
  try rw [e4]
  obtain ⟨W0, hW0⟩ : ∃ W0, (((((w.alloc (.cells #[.slice none 0 0] 68)).alloc (.cells #[.int .i64 0] 25)).alloc (.cells #[.slice none 0 0] 68)).alloc (.cells #[.pointer (some ⟨p, 0, none⟩)] 24)).alloc (.cells #[.int .i64 f] 3)) = W0 := ⟨_, rfl⟩
  rw [hW0]
  have B0 : Blk W0 b0 68 #[.slice none 0 0] := by rw [← hW0]; exact ((((Blk.new' _ _ _ e0).alloc _).alloc _).alloc _).alloc _
  have B1 : Blk W0 b1 25 #[.int .i64 0] := by rw [← hW0]; exact (((Blk.new' _ _ _ (by simp; omega)).alloc _).alloc _).alloc _
  have B2 : Blk W0 b2 68 #[.slice none 0 0] := by rw [← hW0]; exact ((Blk.new' _ _ _ (by simp; omega)).alloc _).alloc _
  have B3 : Blk W0 b3 24 #[.pointer (some ⟨p, 0, none⟩)] := by rw [← hW0]; exact (Blk.new' _ _ _ (by simp; omega)).alloc _
  have B4 : Blk W0 b4 3 #[.int .i64 f] := by rw [← hW0]; exact Blk.new' _ _ _ (by simp; omega)
  have K0 : Chg [] w W0 := by rw [← hW0]; exact (((((Chg.refl [] w).alloc _).alloc _).alloc _).alloc _).alloc _
  have hs0 : W0.heap.size = b4 + 1 := by rw [← hW0]; simp; omega
  have m0 := m.chg0 K0
  refine wpIn_rangeFunc_ownH rfl (by decide) (gf := 92) (lb := #[.pointer (some ⟨b3, 0, none⟩), .pointer (some ⟨b4, 0, none⟩)]) rfl trivial (enters_of Try.func92 (by kernel_rfl) rfl)
    (slots_stops b3 b4 w.heap.size p g W0 B3.lt B4.lt (by omega) hpl hgl m0 hu f0 f1 (B3.cell 0) (B4.cell 0)) kpS_t (kpS_b (by omega) B3.lt B4.lt) (Below.refl _ _) (fun _ => rfl)
    (AllI n L f w b0 b1 b2 b4) (fun _ _ _ => False) ?hI ?hIx ?h0
    (AllAx n L f b4 (fun x d => #[.pointer (some ⟨p, 0, none⟩), .int .i64 f, undef, undef, .pointer (some ⟨b0, 0, none⟩), .pointer (some ⟨b1, 0, none⟩), .pointer (some ⟨b2, 0, none⟩), .pointer (some ⟨d, 0, none⟩), .int .i64 0, .pointer (some ⟨p, 0, none⟩), .int .i64 f, .func (.func 92) #[] #[.pointer (some ⟨b3, 0, none⟩), .pointer (some ⟨b4, 0, none⟩)], sgV n L f x, .int .i64 0, undef, undef, undef, undef, undef, undef, undef, undef])) ?hAx ?assign ?body ?done ?stop
  case hI =>
    refine OwnFrom.and (OwnFrom.and (Own.from (fun s P R row hs hg hr => ?_) _) (ownFrom_below (Nat.le_refl _) (by omega))) (ownFrom_pure _ _)
    obtain ⟨h0, h1, h2, v, h3, h4⟩ := hs
    refine ⟨blk_own h0 hg hr, blk_own h1 hg hr, Nat.lt_of_lt_of_le h2 hg.size, v, blk_own h3 hg hr, ?_⟩
    refine h4.kept hg ?_
    rcases h4.2 with ⟨rfl, _⟩ | ⟨g, cap, cur, rfl, _, hgb, _⟩
    · exact .inl rfl
    · refine .inr fun e' => ?_
      obtain ⟨o, ho, hc⟩ := hr g (by simpa [Value.ownBlock] using e'.symm)
      rw [hgb] at ho; cases ho; cases hc
  case hIx =>
    intro cc
    exact Own.from (fun _ _ _ _ hs _ _ => hs) _
  case h0 => exact ⟨⟨⟨B0, B1, by omega, _, B2, World.ownsRow_nil _ _ _ _⟩, K0.below (by simp) (Nat.le_refl _)⟩, by decide⟩
  case hAx =>
    intro x a'
    refine Own.from (fun s P R row hs hg hr => ?_) _
    obtain ⟨d, h1, h2, h3⟩ := hs
    exact ⟨d, h1, blk_own h2 hg hr, h3⟩
  case assign =>
    intro l pre x W K hI hK
    obtain ⟨k', r', t', l', e', a', hv⟩ := getCV_form (ldV n L f (4 + 2 * (x : Int))) (ldV n L f (5 + 2 * (x : Int)))
    have hv' : sgV n L f x = capV k' r' t' l' e' a' := hv
    have hL : sgL n L f x = [.int .i64 k', .int .i64 r', .int .i64 t', .int .i64 l', .int .i64 e', .int .i64 a'] := by unfold sgL; rw [hv']; rfl
    unfold encS
    rw [hv', HG.out x]
    obtain ⟨⟨⟨h0, h1, h2, v, h3, h4⟩, hB⟩, hlen⟩ := hI
    have kA := (Chg.refl [] W).alloc (.cells #[.int .i64 k', .int .i64 r', .int .i64 t', .int .i64 l', .int .i64 e', .int .i64 a'] 70)
    have hWw := hB.size
    gi_wp2
    refine hK _ _ ((KeepsOthers.of_grownBy (World.grownBy_alloc W _ none) (fun j o e => by cases e)).from _) ⟨kA.below (by simp) hWw, kA.block _ (by omega) (by simp), kA.block _ h2 (by simp)⟩ ⟨⟨⟨h0.alloc _, h1.alloc _, by simp; omega, v, h3.alloc _, h4.alloc _⟩, hB.trans (kA.below (by simp) hWw)⟩, hlen⟩ ⟨W.heap.size, by dsimp only; rw [hv'], ?_, h2⟩
    rw [hL]
    exact Blk.new W _ _
  case body =>
    rintro l pre x a' W hl hr ⟨⟨⟨h0, h1, h2, v, h3, h4⟩, hB⟩, hlen⟩ ⟨d, rfl, D, hd⟩ hlt
    obtain ⟨k', r', t', l', e', a', hv⟩ := getCV_form (ldV n L f (4 + 2 * (x : Int))) (ldV n L f (5 + 2 * (x : Int)))
    have hv' : sgV n L f x = capV k' r' t' l' e' a' := hv
    have hL : sgL n L f x = [.int .i64 k', .int .i64 r', .int .i64 t', .int .i64 l', .int .i64 e', .int .i64 a'] := by unfold sgL; rw [hv']; rfl
    have hsn := capsL_snoc n L f pre x
    rw [hL] at D hsn
    dsimp only
    rw [hv']
    have D' : Blk W d 70 (capC k' r' t' l' e' a') := D
    obtain ⟨d0, d1, d2, d3, d4, d5⟩ := blk6 D'
    have c2 : W.cell? ⟨b2, 0, none⟩ = some v := h3.cell 0
    have hWw := hB.size
    have hvb : ∀ k, v.ownBlock = some k → b4 < k := fun k hk => by have := (h4.lt k hk).1; omega
    have H4 := Lib.hid h4
    have H3 := Lib.hid h3
    have hl1 : pre.length + 1 ≤ 16 := by omega
    clear h3 h4 hv D
    gi_wp2_with (gi_at_builtin; refine wpListIn_app1 rfl (.tmp 17) (.tmp 19) 68 rfl (b4 + 1) 70 (capV 0 0 0 0 0 0) 6 48 Try.underlying68 info_cap rfl (by decide) (by decide) v pre.length (capsL n L f pre) rfl (H4.out.alloc _) ⟨W.heap.size, 0, none⟩ 1 [.int .i64 k', .int .i64 r', .int .i64 t', .int .i64 l', .int .i64 e', .int .i64 a'] rfl rfl (six_new W _ _ rfl) (by simp [Value.oneCell']) (by omega) (by simp; omega) ?_; intro g' c' w5 o5 g5 k5; have B5 : Blk w5 b2 68 #[v] := (g5.block b2 (by simp; omega) (fun e => by have := hvb b2 e.symm; omega)).trans (H3.out.alloc _); have c5 := B5.cell 0; have f5 := B5.frozen 0)
    have KA := (Chg.refl (b2 :: v.ownBlock.toList) W).alloc (.cells #[.int .i64 k', .int .i64 r', .int .i64 t', .int .i64 l', .int .i64 e', .int .i64 a'] 70)
    have K5 : Chg (b2 :: v.ownBlock.toList) W w5 := KA.trans (S' := v.ownBlock.toList) (Chg.of_grown g5 (fun k hk => .inl (by rw [hk]; simp))) (fun s hs => .inl (by simp at hs ⊢; exact .inr hs))
    have K6 := K5.setCell (p := ⟨b2, 0, none⟩) (.inl (by simp)) (.slice (some ⟨g', 0, none⟩) (pre.length + 1) c')
    have hS : ∀ s, s ∈ b2 :: v.ownBlock.toList → b2 ≤ s ∧ s ≠ b3 ∧ s ≠ b4 := fun s hs => by
      simp at hs
      rcases hs with rfl | hs
      · omega
      · have := hvb s hs
        omega
    have nS : ∀ s, s < b2 → s ∉ b2 :: v.ownBlock.toList := fun s h hs => by have := hS s hs; omega
    have kB := K6.below (B := w.heap.size) (fun s hs => by have := hS s hs; omega) hWw
    have hgb := (o5.lt g' rfl).1
    refine ⟨(((KeepsOthers.of_grownBy (World.grownBy_alloc W _ none) (fun j o e => by cases e)).trans k5).trans (KeepsOthers.setCell _ _ _)).from _, ⟨kB, K6.block _ (by omega) (fun h => (hS _ h).2.1 rfl), K6.block _ h2 (fun h => (hS _ h).2.2 rfl)⟩, ⟨⟨h0.chg K6 (nS _ (by omega)), h1.chg K6 (nS _ (by omega)), Nat.lt_of_lt_of_le h2 K6.size, .slice (some ⟨g', 0, none⟩) (pre.length + 1) c', Blk.set_ B5 0 _, ?_⟩, hB.trans kB⟩, by simp; omega⟩
    rw [hsn, List.length_append]
    exact ownsRow_setCell_other o5 (by simp [Value.ownBlock]; omega) _
  case done =>
    rintro D xs W hD rfl ⟨⟨⟨h0, h1, h2, v, h3, h4⟩, hB⟩, hlen⟩ hDef
    rw [List.length_range] at h4
    obtain ⟨g', c', rfl, -⟩ := h4.form (by decide)
    have hgb := (h4.lt g' rfl).1
    have c0 := h0.cell 0
    have c1 := h1.cell 0
    have c2 := h3.cell 0
    have f0 := h0.frozen 0
    have f1 := h1.frozen 0
    have hWw := hB.size
    have H4 := Lib.hid h4
    clear h4
    gi_wp2
    obtain ⟨U, eU⟩ : ∃ U, (W.setCell ⟨b0, 0, none⟩ (.slice (some ⟨g', 0, none⟩) 16 c')).setCell ⟨b1, 0, none⟩ (.int .i64 0) = U := ⟨_, rfl⟩
    have u0 : Blk U b0 68 #[.slice (some ⟨g', 0, none⟩) 16 c'] := by rw [← eU]; exact (Blk.set_ h0 0 _).far (by simp; omega) _
    have u1 : Blk U b1 25 #[.int .i64 0] := by rw [← eU]; exact Blk.set_ (h1.far (by simp; omega) _) 0 _
    have hO : KeepsOthers W U := by rw [← eU]; exact (KeepsOthers.setCell _ _ _).trans (KeepsOthers.setCell _ _ _)
    have hBU : Below w.heap.size w U := by rw [← eU]; exact (hB.setCell (by simp; omega) _).setCell (by simp; omega) _
    have O4 : U.ownsRow (b4 + 1) 70 6 (.slice (some ⟨g', 0, none⟩) 16 c') 16 (capsL n L f (List.range 16)) := by
      rw [← eU]
      exact ownsRow_setCell_other (ownsRow_setCell_other H4.out (by simp [Value.ownBlock]; omega) _) (by simp [Value.ownBlock]; omega) _
    rw [eU]
    have hK := hO.same D _ hDef rfl
    refine ⟨by simp, .inl ⟨_, _, rfl, run_takeDeferred hK, ?_⟩⟩
    have gp := grownBy_putObj' U D (.deferred none)
    have g0 := (blk_own u0 gp (fun r e => by cases e; exact ⟨_, hK, rfl⟩)).cell 0
    have g1 := (blk_own u1 gp (fun r e => by cases e; exact ⟨_, hK, rfl⟩)).cell 0
    have O5 : (U.putObj D (.deferred none)).ownsRow 0 70 6 (.slice (some ⟨g', 0, none⟩) 16 c') 16 (capsL n L f (List.range 16)) := own_grown ⟨O4.1, O4.2.imp id fun ⟨g, cap, cur, a1, _, a3⟩ => ⟨g, cap, cur, a1, Nat.zero_le _, a3⟩⟩ gp (fun r e => by cases e; exact ⟨_, hK, rfl⟩)
    refine ⟨.tuple #[.slice (some ⟨g', 0, none⟩) 16 c', .int .i64 0], ?_, _, rfl, O5, fun q hq => ?_, Chg.of_below (hBU.grown gp hBU.size (fun k e => by cases e; omega))⟩
    · simp [results, go_sem, g0, g1]
    · have e : g' = q := by simpa [Value.ownBlock] using hq
      omega
  case stop =>
    rintro D cc pre W hD hp hf hDef
    exact hf.elim
end Go.Proofs.Ytbjiecpkalcfeaa.SlotAll2
