/- Package history: Clone, pop. -/
import Derived.Test.YtbjiecpkalcfeaaHistF
namespace Go.Proofs.Ytbjiecpkalcfeaa.HistC
open Go Go.RowKit Go.Proofs.Ytbjiecpkalcfeaa Go.Proofs.Ytbjiecpkalcfeaa.Heap Go.Proofs.Ytbjiecpkalcfeaa.Sl Go.Proofs.Ytbjiecpkalcfeaa.Hist Go.Proofs.Ytbjiecpkalcfeaa.HistF

theorem Sl.of_own0 {w : World} {e : TypeId} {size n : Nat} {v : Value} {xs : List Value} (h : w.ownsRow 0 e size v n xs) : Sl w e size v n xs := Sl.of_own h
set_option maxRecDepth 100000 in
set_option maxHeartbeats 4000000 in
theorem clone_ok {w : World} {g off m cap : Nat} {xs : List Value} (hl : xs.length = m * 2) (hx : ∀ j u, xs[j]? = some u → w.cell? ⟨g, off + j, none⟩ = some u) (h1 : ∀ u ∈ xs, u.oneCell' = true) (hm : m ≤ 5) :
    Calls Try.prog 88 #[.slice (some ⟨g, off, none⟩) m cap] w fun e w' => ∃ v', e = .returned v' ∧ Sl w' 120 2 v' m xs ∧ (∀ k, v'.ownBlock = some k → w.heap.size ≤ k) ∧ Chg [] w w' := by
  have hq : ∀ w, (binOp .eql 110 (.slice (some ⟨g, off, none⟩) m cap) (.slice none 0 0)).run Try.prog w = .ok (.bool false) w := fun w => by kernel_rfl
  have B := Blk.new w 120 #[]
  have K := (Chg.refl [] w).alloc (.cells #[] 120)
  have hx2 : ∀ j u, xs[j]? = some u → (w.alloc (.cells #[] 120)).cell? ((⟨g, off, none⟩ : Addr).add j) = some u := fun j u hj => by
    have := hx j u hj
    rw [add_plain, World.cell?_alloc_lt _ _ _ (World.block_lt_of_cell? w _ this)]
    exact this
  rcases Nat.eq_zero_or_pos m with rfl | h0
  · obtain rfl : xs = [] := List.eq_nil_of_length_eq_zero (by omega)
    go_enter Try.func88, Try.ntmps88
    go_wp2
    go_ret
    refine ⟨_, rfl, ⟨rfl, .inr ⟨w.heap.size, 0, 0, _, rfl, B, Nat.le_refl _, by simp, fun j u hj => by simp at hj⟩⟩, fun k hk => ?_, K⟩
    simp [Value.ownBlock] at hk
    omega
  · go_enter Try.func88, Try.ntmps88
    go_wp2_with (at_builtin; refine wpList_fresh rfl (.tmp 5) (.tmp 6) 110 rfl 120 (.agg #[.int .i64 0, .int .i64 0]) 2 16 Try.underlying110 info_open rfl (by decide) (by decide) (some ⟨w.heap.size, 0, none⟩) 0 0 [] rfl (fun h => by cases h) rfl (fun b hb j u hj => by simp at hj) ⟨g, off, none⟩ m cap xs rfl hl hx2 h1 (by omega) (by omega) ?_; intro q c' w' own' hg' k')
    go_ret
    refine ⟨_, rfl, ?_, fun k hk => ?_, K.trans k' (by simp)⟩
    · have := Sl.of_own own'
      rw [Nat.zero_add] at this
      simpa using this
    · have e : q = k := by simpa [Value.ownBlock] using hk
      simp at hg'
      omega
abbrev opV (a b : Int) : Value := .agg #[.int .i64 a, .int .i64 b]
abbrev opC (a b : Int) : Array Value := #[.int .i64 a, .int .i64 b]
theorem one2 (es : List Op2) : ∀ u ∈ ops2 es, u.oneCell' = true := by
  intro u hu
  unfold ops2 at hu
  obtain ⟨e, _, he⟩ := List.mem_flatMap.1 hu
  simp at he
  rcases he with rfl | rfl <;> rfl
set_option maxRecDepth 100000 in
set_option maxHeartbeats 4000000 in
theorem pop_ok {w : World} {q t n : Nat} {cs : Array Value} {v : Value} {es : List Op2} (B : Blk w q 114 cs) (hv : cs[t * 3]? = some v) (hn : es.length = n) (a b : Int) (hs : Sl w 120 2 v (n + 1) (ops2 (es ++ [(a, b)]))) (h5 : n ≤ 4) :
    Calls Try.prog 64 #[.pointer (some ⟨q, t * 3, none⟩)] w fun e w' => e = .returned (opV a b) ∧ ∃ v', Blk w' q 114 (cs.setIfInBounds (t * 3) v') ∧ Sl w' 120 2 v' n (ops2 es) ∧ (∀ g, v'.ownBlock = some g → w.heap.size ≤ g) ∧ Chg [q] w w' := by
  obtain ⟨g, off, cap, rfl, hnc, hgl, hx⟩ := hs.form (by omega)
  have hgt := ops2_get (es ++ [(a, b)]) n (by simp; omega)
  have hlast : (es ++ [(a, b)]).getD n (0, 0) = (a, b) := by
    subst hn
    rw [List.getD_eq_getElem?_getD, List.getElem?_append_right (Nat.le_refl _), Nat.sub_self]
    rfl
  rw [hlast] at hgt
  have d0 := hx _ _ hgt.1
  have d1 := hx _ _ hgt.2
  rw [← Nat.add_assoc] at d1
  have hpre : ∀ j u, (ops2 es)[j]? = some u → w.cell? ⟨g, off + j, none⟩ = some u := fun j u hj => hx j u (by
    rw [ops2_app, List.getElem?_append_left (List.getElem?_eq_some_iff.1 hj).1]
    exact hj)
  have hl2 : (ops2 es).length = n * 2 := by rw [ops2_len, hn]
  have h1c := one2 es
  have hgq : g ≠ q := fun e => hs.ne_ B (by decide) (by rw [e]; rfl)
  clear hs hx hgt hlast
  obtain ⟨r, er⟩ : ∃ r, w.heap.size = r := ⟨_, rfl⟩
  have R := Blk.new' w 120 (opC 0 0) er
  have B1 := B.alloc (.cells (opC 0 0) 120)
  have K := (Chg.refl [q] w).alloc (.cells (opC 0 0) 120)
  have K0 := (Chg.refl [] w).alloc (.cells (opC 0 0) 120)
  have c0 := (B1.cell (t * 3)).trans hv
  have d2 : ∀ o, (w.alloc o).cell? ⟨g, off + n * 2, none⟩ = some (.int .i64 a) := fun o => by rw [World.cell?_alloc_lt _ _ _ hgl]; exact d0
  have d3 : ∀ o, (w.alloc o).cell? ⟨g, off + n * 2 + 1, none⟩ = some (.int .i64 b) := fun o => by rw [World.cell?_alloc_lt _ _ _ hgl]; exact d1
  have hw1 : IntKind.i64.wrap (((n + 1 : Nat) : Int) - 1) = n := by rw [IntKind.wrap_i64]; omega
  have hw2 : IntKind.i64.wrap ((n : Int) + 1 - 1) = n := by rw [IntKind.wrap_i64]; omega
  have hw3 : (n : Int) < (n : Int) + 1 := by omega
  have hnc2 : (n : Int) ≤ cap := by omega
  have hnc3 : (n : Int) + 1 ≤ cap := by omega
  obtain ⟨W1, hW⟩ : ∃ W1, w.alloc (.cells (opC 0 0) 120) = W1 := ⟨_, rfl⟩
  have e2 := d2 (.cells (opC 0 0) 120)
  have e3 := d3 (.cells (opC 0 0) 120)
  have hpre1 : ∀ j u, (ops2 es)[j]? = some u → W1.cell? ⟨g, off + j, none⟩ = some u := fun j u hj => by
    rw [← hW, World.cell?_alloc_lt _ _ _ hgl]
    exact hpre j u hj
  rw [hW] at R B1 K K0 c0 e2 e3
  clear d0 d1 d2 d3 hpre
  have c1 : ∀ o, (W1.alloc o).cell? ⟨q, t * 3, none⟩ = some (.slice (some ⟨g, off, none⟩) (n + 1) cap) := fun o => ((B1.alloc o).cell (t * 3)).trans hv
  have hpre2 : ∀ j u, (ops2 es)[j]? = some u → (W1.alloc (.cells (opC a b) 120)).cell? ⟨g, off + j, none⟩ = some u := fun j u hj => by
    have := hpre1 j u hj
    rw [World.cell?_alloc_lt _ _ _ (World.block_lt_of_cell? W1 _ this)]
    exact this
  have HC := Lib.hid (clone_ok (cap := cap) hl2 hpre2 h1c (by omega : n ≤ 5))
  obtain ⟨o, eo⟩ : ∃ o, W1.heap.size = o := ⟨_, rfl⟩
  have O := Blk.new' W1 120 (opC a b) eo
  have hro : r ≠ o := by have := R.lt; omega
  have B2 := B1.alloc (.cells (opC a b) 120)
  have R2 := R.alloc (.cells (opC a b) 120)
  have K2 := K.alloc (.cells (opC a b) 120)
  have hrq : r ≠ q := Blk.ne_ R B1 (by decide)
  have hoq : o ≠ q := Blk.ne_ O B2 (by decide)
  have hrw : w.heap.size ≤ r := by omega
  have hs12 : w.heap.size ≤ (W1.alloc (.cells (opC a b) 120)).heap.size := K2.size
  clear hpre1 hpre2 h1c hl2 R B1 K K0
  go_enter Try.func64, Try.ntmps64
  go_wp2_with fail
  refine Calls.mono HC.out ?_
  rintro e w3 ⟨v0, rfl, sl3, f3, k3⟩
  obtain ⟨ao', c', rfl⟩ : ∃ ao' c', v0 = .slice ao' n c' := by
    rcases sl3.2 with ⟨rfl, h⟩ | ⟨_, _, _, _, rfl, -⟩
    · exact ⟨_, _, by rw [h]⟩
    · exact ⟨_, _, rfl⟩
  have B3 := B2.chg k3 (by simp)
  have R3 := R2.chg k3 (by simp)
  have O3 := O.chg k3 (by simp)
  have K3 := K2.trans k3 (by simp)
  have y0 := (B3.cell (t * 3)).trans hv
  have y1 := B3.frozen (t * 3)
  have B4 := B3.set_ (t * 3) (.slice ao' n c')
  have R4 := R3.far (p := ⟨q, t * 3, none⟩) hrq (.slice ao' n c')
  have O4 := O3.far (p := ⟨q, t * 3, none⟩) hoq (.slice ao' n c')
  have hvq := sl3.ne_ B3 (by decide)
  have KX := (Chg.refl [q] w3).setCell (p := ⟨q, t * 3, none⟩) (by simp) (.slice ao' n c')
  have K4 := K3.setCell (p := ⟨q, t * 3, none⟩) (.inl (by simp)) (.slice ao' n c')
  obtain ⟨W4, hW4⟩ : ∃ W4, w3.setCell ⟨q, t * 3, none⟩ (.slice ao' n c') = W4 := ⟨_, rfl⟩
  have sl4 := sl3.chg KX (fun g' hg' => by
    simp only [List.mem_singleton]
    intro e
    exact hvq (by rw [hg', e]))
  rw [hW4] at B4 R4 O4 KX K4 sl4
  obtain ⟨o0, o1⟩ := blk2 O4
  obtain ⟨r0, r1⟩ := blk2 R4
  have g0 := R4.frozen 0
  have g1 := R4.frozen 1
  clear c0 c1 e2 e3 k3 HC
  try rw [eo]
  go_wp2_with fail
  have G := Blk.set_ (Blk.set_ R4 0 (.int .i64 a)) 1 (.int .i64 b)
  obtain ⟨q0, q1⟩ := blk2 (a := .int .i64 a) (b := .int .i64 b) G
  have KR := ((Chg.refl [r] W4).setCell (p := ⟨r, 0, none⟩) (by simp) (.int .i64 a)).setCell (p := ⟨r, 1, none⟩) (by simp) (.int .i64 b)
  refine ⟨rfl, opV a b, ?_, rfl, .slice ao' n c', B4.chg KR (by simpa using hrq.symm), sl4.chg KR (fun g' hg' => ?_), fun g' hg' => Nat.le_trans hs12 (f3 g' hg'), K4.trans KR (by simp; omega)⟩
  · simp [results, go_sem, q0, q1]
  · have := f3 g' hg'
    have h2 := R2.lt
    simp only [List.mem_singleton]
    omega
end Go.Proofs.Ytbjiecpkalcfeaa.HistC
