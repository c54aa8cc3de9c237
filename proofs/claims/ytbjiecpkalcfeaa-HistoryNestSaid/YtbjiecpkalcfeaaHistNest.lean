/- HistoryNest's walk. -/
import Derived.Test.YtbjiecpkalcfeaaHistQ
import Derived.Test.YtbjiecpkalcfeaaBits
namespace Go.Proofs.Ytbjiecpkalcfeaa.HistNest
open Go Go.RowKit Go.Proofs.Ytbjiecpkalcfeaa Go.Proofs.Ytbjiecpkalcfeaa.Heap Go.Proofs.Ytbjiecpkalcfeaa.Sl Go.Proofs.Ytbjiecpkalcfeaa.Hist Go.Proofs.Ytbjiecpkalcfeaa.HistF Go.Proofs.Ytbjiecpkalcfeaa.HistQ

theorem own_blk {w : World} {e : TypeId} {size n : Nat} {v : Value} {xs : List Value} (h : w.ownsRow 0 e size v n xs) {g : Nat} (hg : v.ownBlock = some g) : ∃ cs, Blk w g e cs := by
  rcases h.2 with ⟨rfl, _⟩ | ⟨g', cap, cur, rfl, _, hb, _⟩
  · cases hg
  · obtain rfl : g' = g := by simpa [Value.ownBlock] using hg
    exact ⟨cur, hb⟩
/-- A history is as it was where rows of ints alone have turned. -/
theorem HAt.chgI {w w' : World} {h q : Nat} {V : Nat → Value} {T : Nat → Th} {S : List Nat} (H : HAt w h q V T) (k : Chg S w w') (hS : ∀ x, x ∈ S → ∃ cs, Blk w x 3 cs) : HAt w' h q V T := by
  obtain ⟨hd, ⟨cs, b, r⟩, ls⟩ := H
  refine ⟨hd.chg k (fun hx => ?_), ⟨cs, b.chg k (fun hx => ?_), r⟩, fun i hi => (ls i hi).chg k (fun g hg hx => ?_)⟩
  · obtain ⟨c, hc⟩ := hS _ hx
    exact Blk.ne_ hd hc (by decide) rfl
  · obtain ⟨c, hc⟩ := hS _ hx
    exact Blk.ne_ b hc (by decide) rfl
  · obtain ⟨c, hc⟩ := hS _ hx
    exact (ls i hi).ne_ hc (by decide) hg
set_option maxRecDepth 100000 in
set_option maxHeartbeats 4000000 in
theorem awake_ok (w : World) : Calls Try.prog 22 #[] w fun e w' => e = .returned (.bool true) ∧ Chg [] w w' := by
  go_enter Try.func22, Try.ntmps22
  go_wp2_with fail
  refine Calls.mono (new_ok _) ?_
  rintro e w1 ⟨h, q, rfl, H, hh, hq, k1⟩
  go_wp2_with fail
  refine Calls.mono (begin_off H 1 (by decide) rfl 4 (by decide) (by decide)) ?_
  rintro e w2 ⟨rfl, H2, k2⟩
  go_wp2_with fail
  refine Calls.mono (call_ok H2 1 (by decide) rfl (by decide) 5 7 (by decide) (by decide) (by decide) (by decide)) ?_
  rintro e w3 ⟨rfl, ⟨v', H3⟩, k3⟩
  go_wp2_with fail
  refine Calls.mono (depth_on H3 1 (by decide) rfl (by decide)) ?_
  rintro e w4 ⟨rfl, rfl⟩
  go_wp2
  go_ret
  exact ⟨rfl, (k1.trans k2 (by simp; omega)).trans k3 (by simp; omega)⟩
theorem info_int : (Try.prog.info? 3).map (fun i => (i.zero, i.size, i.bytes)) = some (some (.int .i64 0), 1, 8) := by kernel_rfl
theorem one_new (w : World) (a : Value) (t : TypeId) {g : Nat} (hg : w.heap.size = g) : ∀ j u, [a][j]? = some u → (w.alloc (.cells #[a] t)).cell? ((⟨g, 0, none⟩ : Addr).add j) = some u := by
  intro j u hj
  rw [add_plain, (Blk.new' w t #[a] hg).cell]
  rw [Nat.zero_add]
  simpa using hj
theorem nums_snoc (k : IntKind) (xs : List Int) (x : Int) : nums k (xs ++ [x]) = nums k xs ++ [.int k x] := by simp [nums]
/-- The state behind the calls: thread 1 is at 'at', its open calls are es; thread 2 is as it began; the two lists hold what es holds. -/
structure ST (w wr : World) (h q : Nat) (V : Nat → Value) (T : Nat → Th) (es : List Op2) (at_ : Int) (vf vt : Value) : Prop where
  H : HAt wr h q V T
  t1 : T 1 = ⟨true, at_, es⟩
  t2 : T 2 = ⟨true, 8, []⟩
  le : es.length ≤ 5
  fr : wr.ownsRow 0 3 1 vf es.length (nums .i64 (es.map (·.1)))
  to : wr.ownsRow 0 3 1 vt es.length (nums .i64 (es.map (·.2)))
  ff : ∀ g, vf.ownBlock = some g → w.heap.size ≤ g
  ft : ∀ g, vt.ownBlock = some g → w.heap.size ≤ g
  ne : ∀ g, vf.ownBlock = some g → vt.ownBlock ≠ some g
  k : Chg [] w wr
  fq : w.heap.size ≤ q
  first : (es.map (·.1) ++ [at_])[0]? = some 9
section
variable {w wr w' : World} {h q : Nat} {V : Nat → Value} {T : Nat → Th} {es : List Op2} {at_ : Int} {vf vt : Value}
theorem ST.fne (S : ST w wr h q V T es at_ vf vt) : vf.ownBlock ≠ some q := by
  obtain ⟨cs, b, r⟩ := S.H.row
  exact own_ne S.fr b (by decide)
theorem ST.tne (S : ST w wr h q V T es at_ vf vt) : vt.ownBlock ≠ some q := by
  obtain ⟨cs, b, r⟩ := S.H.row
  exact own_ne S.to b (by decide)
theorem ST.t1on (S : ST w wr h q V T es at_ vf vt) : (T 1).on = true := by rw [S.t1]
theorem ST.t1l (S : ST w wr h q V T es at_ vf vt) : (T 1).l = es := by rw [S.t1]
theorem ST.t1c (S : ST w wr h q V T es at_ vf vt) : (T 1).comp = at_ := by rw [S.t1]
end
theorem stays {w V : World} {q : Addr} {v : Value} (hc : w.cell? q = some v) (hV : Chg [] w V) : V.cell? q = some v := by
  rw [← hc]
  exact World.cell?_of_block (hV.block _ (World.block_lt_of_cell? w _ hc) (by simp))
set_option maxRecDepth 100000 in
set_option maxHeartbeats 8000000 in
theorem historyNest_walk (A : Option Addr) (n c : Nat) (xs : List Int) (A2 : Option Addr) (n2 c2 : Nat) (ys : List Int) (w : World) (z0 : Nums w .u8 A n xs) (hx : ∀ x ∈ xs, 0 ≤ x ∧ x < 256) (z1 : Nums w .u16 A2 n2 ys) (hy : ∀ x ∈ ys, 0 ≤ x ∧ x < 65536) :
    Calls Try.prog 4 #[.slice A n c, .slice A2 n2 c2] w fun e w' => e = .returned (.bool true) ∧ Chg [] w w' := by
  have b1 := z0.2.1
  have b2 := z1.2.1
  have Z0 := Lib.hid z0
  have Z1 := Lib.hid z1
  have HX := Lib.hid hx
  have HY := Lib.hid hy
  clear z0 z1 hx hy
  go_enter Try.func4, Try.ntmps4
  go_wp2_with fail
  refine Calls.mono (new_ok _) ?_
  rintro e w1 ⟨h, q, rfl, H, hh, hq, k1⟩
  go_wp2_with fail
  refine Calls.mono (begin_off H 1 (by decide) rfl 9 (by decide) (by decide)) ?_
  rintro e w2 ⟨rfl, H2, k2⟩
  go_wp2_with fail
  refine Calls.mono (begin_off H2 2 (by decide) rfl 8 (by decide) (by decide)) ?_
  rintro e w3 ⟨rfl, H3, k3⟩
  have S0 : ST w w3 h q _ _ [] 9 (.slice none 0 0) (.slice none 0 0) := ⟨H3, rfl, rfl, by decide, World.ownsRow_nil _ _ _ _, World.ownsRow_nil _ _ _ _, fun g hg => by simp [Value.ownBlock] at hg, fun g hg => by simp [Value.ownBlock] at hg, fun g hg => by simp [Value.ownBlock] at hg, (k1.trans k2 (by simp; omega)).trans k3 (by simp; omega), hq, rfl⟩
  clear H H2 H3 k1 k2 k3 hh hq
  go_wp2_with fail
  go_loopw [6, 7, 8, 9] (fun a f t i wr => ∃ (j : Nat) (V : Nat → Value) (T : Nat → Th) (es : List Op2) (at_ : Int) (vf vt : Value), i = .int .i64 j ∧ a = .int .i64 at_ ∧ vf = f ∧ vt = t ∧ j ≤ n ∧ j ≤ n2 ∧ j ≤ 20 ∧ ST w wr h q V T es at_ vf vt) (fun _ _ _ i _ => n - (intOf i).toNat)
  case atStart => exact ⟨0, _, _, [], 9, _, _, rfl, rfl, rfl, rfl, by omega, by omega, by omega, S0⟩
  case round =>
    clear S0
    obtain ⟨j, V, T, es, at_, vf, vt, rfl, rfl, rfl, rfl, j1, j2, j3, S⟩ := hrel
    obtain ⟨m, hm⟩ : ∃ m, es.length = m := ⟨_, rfl⟩
    have hle := S.le
    obtain ⟨of, cf, hvf⟩ : ∃ o c, vf = .slice o m c := by
      rcases S.fr.2 with ⟨h1, h2⟩ | ⟨_, _, _, h1, -⟩
      · exact ⟨none, 0, by rw [h1, ← hm, h2]⟩
      · exact ⟨_, _, by rw [h1, hm]⟩
    obtain ⟨ot, ct, hvt⟩ : ∃ o c, vt = .slice o m c := by
      rcases S.to.2 with ⟨h1, h2⟩ | ⟨_, _, _, h1, -⟩
      · exact ⟨none, 0, by rw [h1, ← hm, h2]⟩
      · exact ⟨_, _, by rw [h1, hm]⟩
    by_cases hlt : j < n ∧ j < n2 ∧ j < 20
    · obtain ⟨l1, l2, l3⟩ := hlt
      obtain ⟨aA, rfl, hA⟩ := Z0.out.2.2 (by omega)
      obtain ⟨aB, rfl, hB⟩ := Z1.out.2.2 (by omega)
      have cA := stays (hA j l1) S.k
      have HcB : Hid (∀ V, Chg [] w V → V.cell? (aB.add j) = some (.int .u16 (ys.getD j 0))) := fun V kV => stays (hB j l2) kV
      have y0 : 0 ≤ xs.getD j 0 ∧ xs.getD j 0 < 256 := HX.out _ (by
        have := Z0.out.1
        rw [List.getD_eq_getElem?_getD, List.getElem?_eq_getElem (by omega)]
        exact List.getElem_mem _)
      have y1 : 0 ≤ ys.getD j 0 ∧ ys.getD j 0 < 65536 := HY.out _ (by
        have := Z1.out.1
        rw [List.getD_eq_getElem?_getD, List.getElem?_eq_getElem (by omega)]
        exact List.getElem_mem _)
      clear hA hB
      generalize xs.getD j 0 = x at *
      generalize ys.getD j 0 = y at *
      obtain ⟨x0, x1⟩ := y0
      obtain ⟨y0, y1⟩ := y1
      have cB := HcB.out _ S.k
      have hxm : 0 ≤ x % 64 ∧ x % 64 < 64 := by omega
      by_cases h5 : m < 5
      · have h5' : (m : Int) < 5 := by omega
        subst hvf hvt
        have hfq := S.fne
        have htq := S.tne
        have hm5 : (T 1).l.length < 5 := by rw [S.t1l, hm]; exact h5
        go_wp2_with fail
        refine Calls.mono (call_ok S.H 1 (by decide) S.t1on hm5 (x % 64) y hxm.1 hxm.2 y0 (by omega)) ?_
        rintro e w4 ⟨rfl, ⟨v', H4⟩, k4⟩
        rw [S.t1l, S.t1c] at H4
        have K4 := S.k.trans k4 (by have := S.fq; simp; omega)
        have F4 := own_chg S.fr k4 (fun g hg => by
          simp only [List.mem_singleton]
          intro e
          exact hfq (by rw [hg, e]))
        have T4 := own_chg S.to k4 (fun g hg => by
          simp only [List.mem_singleton]
          intro e
          exact htq (by rw [hg, e]))
        rw [hm] at F4 T4
        have FF := S.ff
        have FT := S.ft
        have FN := S.ne
        have FQ := S.fq
        have T2 : upd T 1 ⟨true, x % 64, es ++ [(at_, y)]⟩ 2 = ⟨true, 8, []⟩ := S.t2
        have FI : ((es ++ [(at_, y)]).map (·.1) ++ [x % 64])[0]? = some 9 := by
          have := S.first
          rw [List.map_append, List.map_cons, List.map_nil, List.getElem?_append_left (by simp)]
          exact this
        have hlen : (es ++ [(at_, y)]).length = m + 1 := by rw [List.length_append, hm]; rfl
        have HF4 := Lib.hid F4
        have HT4 := Lib.hid T4
        have HH4 := Lib.hid H4
        have HK4 := Lib.hid K4
        clear S cA cB k4 F4 T4 H4 K4
        have K4 := HK4.out
        go_wp2_with (first
          | (at_builtin; refine wpList_app rfl (.tmp 74) (.tmp 76) 46 rfl 3 (.int .i64 0) 1 8 Try.underlying46 info_int rfl (by decide) (by decide) (.slice of m cf) m (nums .i64 (es.map (·.1))) rfl (HF4.out.alloc _) ⟨w4.heap.size, 0, none⟩ 1 1 [.int .i64 at_] rfl rfl (one_new w4 _ _ rfl) (by simp [Value.oneCell']) (by decide) (by omega) ?_; intro g5 cap5 w5 o5 k5 hq5 lt5; have HO5 := Lib.hid o5; have HK5 := Lib.hid k5; have HQ5 := Lib.hid hq5; have K5 := (HK4.out.alloc (.cells #[.int .i64 at_] 3)).trans HK5.out (fun s hs => .inr (FF s (by simpa using hs))); have cB := HcB.out _ K5; clear o5 k5 hq5)
          | (at_builtin; refine wpList_app rfl (.tmp 78) (.tmp 84) 46 rfl 3 (.int .i64 0) 1 8 Try.underlying46 info_int rfl (by decide) (by decide) (.slice ot m ct) m (nums .i64 (es.map (·.2))) rfl ((own_chg (HT4.out.alloc _) HK5.out (fun g hg h => FN g (by simpa using h) hg)).alloc _) ⟨w5.heap.size, 0, none⟩ 1 1 [.int .i64 y] rfl rfl (one_new w5 _ _ rfl) (by simp [Value.oneCell']) (by decide) (by omega) ?_; intro g6 cap6 w6 o6 k6 hq6 lt6; have HO6 := Lib.hid o6; have HK6 := Lib.hid k6; have HQ6 := Lib.hid hq6; clear o6 k6 hq6))
        go_roundw
        case rel =>
          refine ⟨j + 1, upd V 1 v', upd T 1 ⟨true, x % 64, es ++ [(at_, y)]⟩, es ++ [(at_, y)], x % 64, _, _, by go_num, rfl, rfl, rfl, by omega, by omega, by omega, ?_⟩
          have hs4 : w.heap.size ≤ w4.heap.size := HK4.out.size
          have A5 := HF4.out.alloc (.cells #[.int .i64 at_] 3)
          have B5 := own_chg (HT4.out.alloc (.cells #[.int .i64 at_] 3)) HK5.out (fun g hg h => FN g (by simpa using h) hg)
          have B6 := B5.alloc (.cells #[.int .i64 y] 3)
          have K5' := (HK4.out.alloc (.cells #[.int .i64 at_] 3)).trans HK5.out (fun s hs => .inr (FF s (by simpa using hs)))
          have K6 := (K5'.alloc (.cells #[.int .i64 y] 3)).trans HK6.out (fun s hs => .inr (FT s (by simpa using hs)))
          have H5 := HAt.chgI (HH4.out.chg0 ((Chg.refl [] w4).alloc (.cells #[.int .i64 at_] 3))) HK5.out (fun x hx => own_blk A5 (by simpa using hx))
          have H6 := HAt.chgI (H5.chg0 ((Chg.refl [] w5).alloc (.cells #[.int .i64 y] 3))) HK6.out (fun x hx => own_blk B6 (by simpa using hx))
          have hs5 : w.heap.size ≤ w5.heap.size := K5'.size
          have hne : ∀ g, (Value.slice ot m ct).ownBlock = some g → g ≠ g5 := fun g hg e => by
            subst e
            rcases HQ5.out with h | h
            · exact FN _ h hg
            · have := own_lt HT4.out hg
              simp at h
              omega
          refine ⟨H6, rfl, T2, by omega, ?_, ?_, ?_, ?_, ?_, K6, FQ, FI⟩
          · rw [hlen, List.map_append]
            exact (nums_snoc .i64 (es.map (·.1)) at_) ▸ own_chg (HO5.out.alloc (.cells #[.int .i64 y] 3)) HK6.out (fun g hg h => by
              have e : g5 = g := by simpa [Value.ownBlock] using hg
              exact hne g (by simpa using h) e.symm)
          · rw [hlen, List.map_append]
            exact (nums_snoc .i64 (es.map (·.2)) y) ▸ HO6.out
          · intro g hg
            have e : g5 = g := by simpa [Value.ownBlock] using hg
            subst e
            rcases HQ5.out with h | h
            · exact FF _ h
            · simp at h
              omega
          · intro g hg
            have e : g6 = g := by simpa [Value.ownBlock] using hg
            subst e
            rcases HQ6.out with h | h
            · exact FT _ h
            · simp at h
              omega
          · intro g hg hg'
            have e : g5 = g := by simpa [Value.ownBlock] using hg
            have e' : g6 = g := by simpa [Value.ownBlock] using hg'
            subst e
            subst e'
            rcases HQ6.out with h | h
            · exact hne _ h rfl
            · simp at h
              omega
        case measure => simp [intOf]; omega
      · have hm5 : (T 1).l.length = 5 := by rw [S.t1l, hm]; omega
        obtain rfl : m = 5 := by omega
        subst hvf hvt
        go_wp2_with fail
        refine Calls.mono (call_full S.H 1 (by decide) S.t1on hm5 (x % 64) y hxm.1 hxm.2 y0 (by omega)) ?_
        rintro e w4 ⟨rfl, rfl⟩
        go_wp2_with fail
        go_roundw
        case rel => exact ⟨j + 1, V, T, es, at_, _, _, by go_num, rfl, rfl, rfl, by omega, by omega, by omega, S⟩
        case measure => simp [intOf]; omega
    · have hw : IntKind.i64.wrap ((m : Int) - 1) = (m : Int) - 1 := by rw [IntKind.wrap_i64]; omega
      subst hvf hvt
      have hfq := S.fne
      have htq := S.tne
      have HS := Lib.hid S
      have hm5 : m ≤ 5 := by omega
      rcases (by omega : ¬ j < n ∨ (j < n ∧ ¬ j < n2) ∨ (j < n ∧ j < n2 ∧ ¬ j < 20)) with hc | ⟨hc, hc'⟩ | ⟨hc, hc', hc''⟩
      all_goals
        clear hlt S
        go_wp2_with fail
        go_loopw [12] (fun i V' => ∃ (k : Nat) (V : Nat → Value) (T : Nat → Th), i = .int .i64 ((k : Int) - 1) ∧ k ≤ m ∧ Hid (HAt V' h q V T ∧ T 1 = ⟨true, (es.map (·.1) ++ [at_]).getD k 0, es.take k⟩ ∧ T 2 = ⟨true, 8, []⟩) ∧ Chg [q] wr V') (fun i _ => (intOf i + 1).toNat)
        case atStart =>
          refine ⟨m, V, T, rfl, Nat.le_refl _, ⟨HS.out.H, ?_, HS.out.t2⟩, Chg.refl _ _⟩
          rw [HS.out.t1, ← hm, List.take_length, List.getD_eq_getElem?_getD, List.getElem?_append_right (by simp)]
          simp
        case round =>
          obtain ⟨k, V2, T2, rfl, hk, HT, kq⟩ := hrel
          cases k with
          | zero =>
            have e0 : ((0 : Nat) : Int) - 1 = -1 := rfl
            rw [e0]
            have K3 := HS.out.k.trans kq (by have := HS.out.fq; simp; omega)
            have t1 : T2 1 = ⟨true, 9, []⟩ := by
              rw [HT.out.2.1, List.getD_eq_getElem?_getD, HS.out.first]
              rfl
            have t2 := HT.out.2.2
            have H := HT.out.1
            have C1 := Lib.hid (ret_none H 1 (by decide) (by rw [t1]) (by rw [t1]; rfl))
            have C2 := here_on H 1 (by decide) (by rw [t1])
            have C3 := here_on H 2 (by decide) (by rw [t2])
            have C4 := depth_on H 2 (by decide) (by rw [t2]) (by rw [t2]; decide)
            rw [t1] at C2
            rw [t2] at C3 C4
            have C2' := Lib.hid C2
            have C3' := Lib.hid C3
            have C4' := Lib.hid C4
            clear C2 C3 C4 t1 t2 H
            go_wp2_with fail
            refine Calls.mono C1.out ?_
            rintro e w5 ⟨rfl, rfl⟩
            go_wp2_with fail
            refine Calls.mono C2'.out ?_
            rintro e w5 ⟨rfl, rfl⟩
            go_wp2_with fail
            refine Calls.mono C3'.out ?_
            rintro e w5 ⟨rfl, rfl⟩
            go_wp2_with fail
            refine Calls.mono C4'.out ?_
            rintro e w5 ⟨rfl, rfl⟩
            go_wp2_with fail
            refine Calls.mono (awake_ok _) ?_
            rintro e w5 ⟨rfl, k5⟩
            replace K3 := K3.trans k5 (by simp)
            go_wp2
            go_ret
            exact ⟨rfl, K3⟩
          | succ k =>
            have e0 : ((k + 1 : Nat) : Int) - 1 = k := by omega
            rw [e0]
            have hk1 : k < es.length := by omega
            obtain ⟨a, ha⟩ : ∃ a, es.getD k (0, 0) = a := ⟨_, rfl⟩
            have htk : es.take (k + 1) = es.take k ++ [(a.1, a.2)] := by
              rw [List.take_add_one, ← ha, List.getD_eq_getElem?_getD, List.getElem?_eq_getElem hk1]
              rfl
            have hl : (T2 1).l = es.take k ++ [(a.1, a.2)] := by rw [HT.out.2.1, htk]
            have C1 := Lib.hid (ret_ok HT.out.1 1 (by decide) (by rw [HT.out.2.1]) (es.take k) a.1 a.2 hl (by rw [List.length_take]; omega))
            have hf1 : (es.map (·.1)).getD k 0 = a.1 := by rw [List.getD_eq_getElem?_getD, List.getElem?_map, ← ha, List.getD_eq_getElem?_getD, List.getElem?_eq_getElem hk1]; rfl
            have hf2 : (es.map (·.2)).getD k 0 = a.2 := by rw [List.getD_eq_getElem?_getD, List.getElem?_map, ← ha, List.getD_eq_getElem?_getD, List.getElem?_eq_getElem hk1]; rfl
            have hf3 : (es.map (·.1) ++ [at_]).getD k 0 = a.1 := by rw [← hf1, List.getD_eq_getElem?_getD, List.getElem?_append_left (by simpa using hk1), ← List.getD_eq_getElem?_getD]
            obtain ⟨gf, cf', e1, -⟩ := HS.out.fr.form (by omega)
            obtain ⟨gt, ct', e2, -⟩ := HS.out.to.form (by omega)
            simp only [Value.slice.injEq] at e1 e2
            obtain ⟨rfl, -, rfl⟩ := e1
            obtain ⟨rfl, -, rfl⟩ := e2
            have hk2 : (k : Int) < m := by omega
            go_wp2_with fail
            refine Calls.mono C1.out ?_
            rintro e w5 ⟨rfl, ⟨v', H5⟩, k5⟩
            replace kq := kq.trans k5 (by simp)
            have F5 := own_chg HS.out.fr kq (fun g hg => by
              simp only [List.mem_singleton]
              intro e
              exact hfq (by rw [hg, e]))
            have T5 := own_chg HS.out.to kq (fun g hg => by
              simp only [List.mem_singleton]
              intro e
              exact htq (by rw [hg, e]))
            rw [hm] at F5 T5
            have d1 := (own_nums F5 (by omega)).cells (j := k) (by omega)
            have d2 := (own_nums T5 (by omega)).cells (j := k) (by omega)
            rw [hf1, add_plain, Nat.zero_add] at d1
            rw [hf2, add_plain, Nat.zero_add] at d2
            clear F5 T5 C1 k5
            have hwk : IntKind.i64.wrap ((k : Int) - 1) = (k : Int) - 1 := by rw [IntKind.wrap_i64]; omega
            generalize a.1 = a1 at *
            generalize a.2 = a2 at *
            go_wp2_with fail
            go_roundw
            case rel => exact ⟨k, _, _, by go_num, by omega, ⟨H5, by rw [upd_at, hf3], HT.out.2.2⟩, kq⟩
            case measure => simp [intOf]
end Go.Proofs.Ytbjiecpkalcfeaa.HistNest
