/- Package history: Begin, Call, Ret, Here, Depth of a thread that may be. -/
import Derived.Test.YtbjiecpkalcfeaaHistP
import Derived.Test.YtbjiecpkalcfeaaHistC
namespace Go.Proofs.Ytbjiecpkalcfeaa.HistQ
open Go Go.RowKit Go.Proofs.Ytbjiecpkalcfeaa Go.Proofs.Ytbjiecpkalcfeaa.Heap Go.Proofs.Ytbjiecpkalcfeaa.Sl Go.Proofs.Ytbjiecpkalcfeaa.Hist Go.Proofs.Ytbjiecpkalcfeaa.HistF Go.Proofs.Ytbjiecpkalcfeaa.HistP Go.Proofs.Ytbjiecpkalcfeaa.HistC

theorem RowIs.two {cs : Array Value} {V : Nat → Value} {T : Nat → Th} (h : RowIs cs V T) {t : Nat} (ht : t < 64) (v : Value) (c : Int) (l : List Op2) : RowIs ((cs.setIfInBounds (t * 3) v).setIfInBounds (t * 3 + 2) (.int .i64 c)) (upd V t v) (upd T t ⟨(T t).on, c, l⟩) := by
  have := (((h.setV ht v).setC ht c).setL t l)
  rw [upd_upd, upd_at] at this
  exact this
theorem RowIs.all {cs : Array Value} {V : Nat → Value} {T : Nat → Th} (h : RowIs cs V T) {t : Nat} (ht : t < 64) (v : Value) (o : Bool) (c : Int) (l : List Op2) : RowIs (((cs.setIfInBounds (t * 3) v).setIfInBounds (t * 3 + 1) (.bool o)).setIfInBounds (t * 3 + 2) (.int .i64 c)) (upd V t v) (upd T t ⟨o, c, l⟩) := by
  have := ((((h.setV ht v).setO ht o).setC ht c).setL t l)
  rw [upd_upd, upd_at, upd_upd, upd_at] at this
  exact this
theorem HAt.form {w : World} {h q : Nat} {V : Nat → Value} {T : Nat → Th} (H : HAt w h q V T) {t : Nat} (ht : t < 64) : ∃ ao c, V t = .slice ao (T t).l.length c := by
  rcases (H.ls t ht).2 with ⟨h1, h2⟩ | ⟨_, _, _, _, h1, -⟩
  · exact ⟨none, 0, by rw [h1, h2]⟩
  · exact ⟨_, _, h1⟩
section
set_option maxRecDepth 100000
set_option maxHeartbeats 4000000
variable {w : World} {h q : Nat} {V : Nat → Value} {T : Nat → Th}
theorem here_on (H : HAt w h q V T) (t : Nat) (ht : t < 64) (ho : (T t).on = true) : Calls Try.prog 20 #[.pointer (some ⟨h, 0, none⟩), .int .i64 t] w fun e w' => e = .returned (.tuple #[.int .i64 (T t).comp, .int .i64 0]) ∧ w = w' := by
  have HB := Lib.hid (begun_on H t ht ho)
  obtain ⟨c0, c1, c2, c3⟩ := H.cells ht
  clear H ho c0 c1 c2
  go_enter Try.func20, Try.ntmps20
  go_wp2_with (go_at_call 62; refine Calls.mono HB.out ?_; rintro e w1 ⟨rfl, rfl⟩)
  go_ret2
  exact ⟨rfl, rfl⟩
theorem depth_on (H : HAt w h q V T) (t : Nat) (ht : t < 64) (ho : (T t).on = true) (h5 : (T t).l.length ≤ 5) : Calls Try.prog 21 #[.pointer (some ⟨h, 0, none⟩), .int .i64 t] w fun e w' => e = .returned (.int .i64 ((T t).l.length + 1)) ∧ w = w' := by
  have HB := Lib.hid (begun_on H t ht ho)
  obtain ⟨c0, c1, c2, c3⟩ := H.cells ht
  obtain ⟨ao, c, hv⟩ := HAt.form H ht
  rw [hv] at c1
  clear H ho c0 c3 c2 hv
  generalize (T t).l.length = n at *
  have hw1 : IntKind.i64.wrap ((n : Int) + 1) = n + 1 := by rw [IntKind.wrap_i64]; omega
  go_enter Try.func21, Try.ntmps21
  go_wp2_with (go_at_call 62; refine Calls.mono HB.out ?_; rintro e w1 ⟨rfl, rfl⟩)
  go_ret
  exact ⟨rfl, rfl⟩
theorem begin_off (H : HAt w h q V T) (t : Nat) (ht : t < 64) (ho : (T t).on = false) (x : Int) (x0 : 0 ≤ x) (x1 : x < 64) : Calls Try.prog 17 #[.pointer (some ⟨h, 0, none⟩), .int .i64 t, .int .i64 x] w fun e w' => e = .returned (.int .i64 0) ∧ HAt w' h q (upd V t (.slice none 0 0)) (upd T t ⟨true, x, []⟩) ∧ Chg [q] w w' := by
  have HN := Lib.hid (none_ok H)
  have HF := frame_ok t
  rw [decide_eq_true (by omega)] at HF
  have HG := frame_ok x
  rw [decide_eq_true ⟨x0, x1⟩] at HG
  have HF' := Lib.hid HF
  have HG' := Lib.hid HG
  obtain ⟨c0, c1, c2, c3⟩ := H.cells ht
  obtain ⟨ao, c, hv⟩ := HAt.form H ht
  rw [hv] at c1
  rw [ho] at c2
  have HH := Lib.hid H
  obtain ⟨cs, B, R⟩ := H.row
  have f0 := B.frozen (t * 3)
  have f1 := B.frozen (t * 3 + 1)
  have f2 := B.frozen (t * 3 + 2)
  have G := ((B.set_ (t * 3) (.slice none 0 0)).set_ (t * 3 + 1) (.bool true)).set_ (t * 3 + 2) (.int .i64 x)
  have K := (((Chg.refl [q] w).setCell (p := ⟨q, t * 3, none⟩) (by simp) (.slice none 0 0)).setCell (p := ⟨q, t * 3 + 1, none⟩) (by simp) (.bool true)).setCell (p := ⟨q, t * 3 + 2, none⟩) (by simp) (.int .i64 x)
  have hti : (t : Int) < 64 := by omega
  clear HF HG H ho hv B
  go_enter Try.func17, Try.ntmps17
  go_wp2_with (first
    | (go_at_call 60; refine Calls.mono HN.out ?_; rintro e w1 ⟨rfl, rfl⟩)
    | (go_at_call 61; refine Calls.mono (HF'.out _) ?_; rintro e w1 ⟨rfl, rfl⟩)
    | (go_at_call 61; refine Calls.mono (HG'.out _) ?_; rintro e w1 ⟨rfl, rfl⟩))
  go_ret
  exact ⟨rfl, HH.out.turn K G (RowIs.all R ht _ _ _ _) (Sl.nil _ _ _), K⟩
theorem call_full (H : HAt w h q V T) (t : Nat) (ht : t < 64) (ho : (T t).on = true) (h5 : (T t).l.length = 5) (x y : Int) (x0 : 0 ≤ x) (x1 : x < 64) (y0 : 0 ≤ y) (y1 : y ≤ 1073741824) : Calls Try.prog 18 #[.pointer (some ⟨h, 0, none⟩), .int .i64 t, .int .i64 x, .int .i64 y] w fun e w' => e = .returned (.int .i64 8) ∧ w = w' := by
  have HN := Lib.hid (none_ok H)
  have HB := Lib.hid (begun_on H t ht ho)
  have HG := frame_ok x
  rw [decide_eq_true ⟨x0, x1⟩] at HG
  have HG' := Lib.hid HG
  obtain ⟨c0, c1, c2, c3⟩ := H.cells ht
  obtain ⟨ao, c, hv⟩ := HAt.form H ht
  rw [hv, h5] at c1
  clear H ho c0 c3 c2 hv HG
  go_enter Try.func18, Try.ntmps18
  go_wp2_with (first
    | (go_at_call 60; refine Calls.mono HN.out ?_; rintro e w1 ⟨rfl, rfl⟩)
    | (go_at_call 61; refine Calls.mono (HG'.out _) ?_; rintro e w1 ⟨rfl, rfl⟩)
    | (go_at_call 62; refine Calls.mono HB.out ?_; rintro e w1 ⟨rfl, rfl⟩))
  go_ret
  exact ⟨rfl, rfl⟩
theorem call_ok (H : HAt w h q V T) (t : Nat) (ht : t < 64) (ho : (T t).on = true) (h5 : (T t).l.length < 5) (x y : Int) (x0 : 0 ≤ x) (x1 : x < 64) (y0 : 0 ≤ y) (y1 : y ≤ 1073741824) : Calls Try.prog 18 #[.pointer (some ⟨h, 0, none⟩), .int .i64 t, .int .i64 x, .int .i64 y] w fun e w' => e = .returned (.int .i64 0) ∧ (∃ v', HAt w' h q (upd V t v') (upd T t ⟨true, x, (T t).l ++ [((T t).comp, y)]⟩)) ∧ Chg [q] w w' := by
  have HN := Lib.hid (none_ok H)
  have HB := Lib.hid (begun_on H t ht ho)
  have HG := frame_ok x
  rw [decide_eq_true ⟨x0, x1⟩] at HG
  have HG' := Lib.hid HG
  obtain ⟨c0, c1, c2, c3⟩ := H.cells ht
  obtain ⟨ao, c, hv⟩ := HAt.form H ht
  have HH := Lib.hid H
  have hS := H.ls t ht
  obtain ⟨cs, B, R⟩ := H.row
  have hr := (R.2 t ht).1
  have hr2 := (R.2 t ht).2.2
  have KD := (Chg.refl [q] w).drew
  have BD := B.drew
  have HP := Lib.hid (push_ok BD hr (hS.chg ((Chg.refl [] w).drew) (by simp)) (by omega) (T t).comp y)
  rw [hv] at c1
  obtain ⟨n, hn⟩ : ∃ n, (T t).l.length = n := ⟨_, rfl⟩
  rw [hn] at c1 h5 HP
  have h5' : (n : Int) < 5 := by omega
  obtain ⟨cp, hcp⟩ : ∃ cp, (T t).comp = cp := ⟨_, rfl⟩
  rw [hcp] at c3 HP hr2
  have cD : w.drew.cell? ⟨q, t * 3 + 2, none⟩ = some (.int .i64 cp) := c3
  clear H c0 c2 HG hS hr B
  go_enter Try.func18, Try.ntmps18
  go_wp2_with (first
    | (go_at_call 60; refine Calls.mono HN.out ?_; rintro e w1 ⟨rfl, rfl⟩)
    | (go_at_call 61; refine Calls.mono (HG'.out _) ?_; rintro e w1 ⟨rfl, rfl⟩)
    | (go_at_call 62; refine Calls.mono HB.out ?_; rintro e w1 ⟨rfl, rfl⟩))
  go_region_held3 (fun W => W.cell? ⟨q, t * 3 + 2, none⟩ = some (.int .i64 cp)) (first | exact cD | exact cE)
    ((go_at_call 63; refine Calls.mono HP.out ?_; rintro e w2 ⟨rfl, v', B2, S2, F2, K2⟩; have cE := (B2.cell (t * 3 + 2)).trans ((Array.getElem?_setIfInBounds_ne (by omega)).trans hr2)))
  have f2 := B2.frozen (t * 3 + 2)
  have G := B2.set_ (t * 3 + 2) (.int .i64 x)
  have KX := (Chg.refl [q] w2).setCell (p := ⟨q, t * 3 + 2, none⟩) (by simp) (.int .i64 x)
  have K := (KD.trans K2 (by simp)).trans KX (by simp)
  have hvq := S2.ne_ B2 (by decide)
  have S3 := S2.chg KX (fun g' hg' => by
    simp only [List.mem_singleton]
    intro e
    exact hvq (by rw [hg', e]))
  have Rx := RowIs.two R ht v' x ((T t).l ++ [(cp, y)])
  rw [ho] at Rx
  go_wp2
  go_ret
  subst hcp
  refine ⟨rfl, ⟨v', HH.out.turn K G Rx ?_⟩, K⟩
  rw [ops2_app, List.length_append, hn]
  exact S3
theorem ret_none (H : HAt w h q V T) (t : Nat) (ht : t < 64) (ho : (T t).on = true) (h5 : (T t).l.length = 0) : Calls Try.prog 19 #[.pointer (some ⟨h, 0, none⟩), .int .i64 t] w fun e w' => e = .returned (.tuple #[.int .i64 0, .int .i64 0, .int .i64 8]) ∧ w = w' := by
  have HB := Lib.hid (begun_on H t ht ho)
  obtain ⟨c0, c1, c2, c3⟩ := H.cells ht
  obtain ⟨ao, c, hv⟩ := HAt.form H ht
  rw [hv, h5] at c1
  clear H ho c0 c3 c2 hv
  go_enter Try.func19, Try.ntmps19
  go_wp2_with (go_at_call 62; refine Calls.mono HB.out ?_; rintro e w1 ⟨rfl, rfl⟩)
  go_ret3
  exact ⟨rfl, rfl⟩
theorem ret_ok (H : HAt w h q V T) (t : Nat) (ht : t < 64) (ho : (T t).on = true) (es : List Op2) (a b : Int) (hl : (T t).l = es ++ [(a, b)]) (h5 : es.length ≤ 4) : Calls Try.prog 19 #[.pointer (some ⟨h, 0, none⟩), .int .i64 t] w fun e w' => e = .returned (.tuple #[.int .i64 a, .int .i64 b, .int .i64 0]) ∧ (∃ v', HAt w' h q (upd V t v') (upd T t ⟨true, a, es⟩)) ∧ Chg [q] w w' := by
  have HB := Lib.hid (begun_on H t ht ho)
  obtain ⟨c0, c1, c2, c3⟩ := H.cells ht
  obtain ⟨ao, c, hv⟩ := HAt.form H ht
  have HH := Lib.hid H
  have hS := H.ls t ht
  obtain ⟨cs, B, R⟩ := H.row
  have hr := (R.2 t ht).1
  have hr2 := (R.2 t ht).2.2
  obtain ⟨n, hn⟩ : ∃ n, es.length = n := ⟨_, rfl⟩
  have hlen : (T t).l.length = n + 1 := by rw [hl, List.length_append, hn]; rfl
  rw [hl, show (es ++ [(a, b)]).length = n + 1 by rw [List.length_append, hn]; rfl] at hS
  have HP := Lib.hid (pop_ok B hr hn a b hS (by omega))
  rw [hv, hlen] at c1
  have hn0 : ((n : Int) + 1 == 0) = false := by rw [beq_eq_false_iff_ne]; omega
  clear H c0 c2 c3 hS
  go_enter Try.func19, Try.ntmps19
  go_wp2_with (go_at_call 62; refine Calls.mono HB.out ?_; rintro e w1 ⟨rfl, rfl⟩)
  refine Calls.mono HP.out ?_
  rintro e w2 ⟨rfl, v', B2, S2, F2, K2⟩
  obtain ⟨d, ed⟩ : ∃ d, w2.heap.size = d := ⟨_, rfl⟩
  have D := Blk.new' w2 120 (opC a b) ed
  have B3 := B2.alloc (.cells (opC a b) 120)
  have K3 := K2.alloc (.cells (opC a b) 120)
  have S3 := S2.chg ((Chg.refl [] w2).alloc (.cells (opC a b) 120)) (by simp)
  obtain ⟨W3, hW3⟩ : ∃ W3, w2.alloc (.cells (opC a b) 120) = W3 := ⟨_, rfl⟩
  rw [hW3] at D B3 K3 S3
  have hdq : d ≠ q := Blk.ne_ D B3 (by decide)
  have hvq := S3.ne_ B3 (by decide)
  have f2 := B3.frozen (t * 3 + 2)
  have y2 : W3.cell? ⟨q, t * 3 + 2, none⟩ = some (.int .i64 (T t).comp) := (B3.cell (t * 3 + 2)).trans ((Array.getElem?_setIfInBounds_ne (by omega)).trans hr2)
  have G := B3.set_ (t * 3 + 2) (.int .i64 a)
  have D4 := D.far (p := ⟨q, t * 3 + 2, none⟩) hdq (.int .i64 a)
  have KX := (Chg.refl [q] W3).setCell (p := ⟨q, t * 3 + 2, none⟩) (by simp) (.int .i64 a)
  have K := K3.trans KX (by simp)
  have S4 := S3.chg KX (fun g' hg' => by
    simp only [List.mem_singleton]
    intro e
    exact hvq (by rw [hg', e]))
  have Rx := RowIs.two R ht v' a es
  rw [ho] at Rx
  obtain ⟨W4, hW4⟩ : ∃ W4, W3.setCell ⟨q, t * 3 + 2, none⟩ (.int .i64 a) = W4 := ⟨_, rfl⟩
  rw [hW4] at G D4 K S4
  obtain ⟨e0, e1⟩ := blk2 D
  obtain ⟨g0, g1⟩ := blk2 D4
  clear c1 hv
  go_wp2_with fail
  go_quiet (fail)
  go_wp2
  go_ret3
  refine ⟨rfl, ⟨v', HH.out.turn (K.drewN _) (G.drewN _) Rx ?_⟩, K.drewN _⟩
  rw [hn]
  exact S4.chg ((Chg.refl [] W4).drewN _) (by simp)
end
end Go.Proofs.Ytbjiecpkalcfeaa.HistQ
