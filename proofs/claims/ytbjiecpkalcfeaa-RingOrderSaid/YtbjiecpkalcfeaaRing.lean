/- Package ring over a frame that is a ring: open, at, save, read, Put, Take. -/
import Derived.Test.YtbjiecpkalcfeaaHeadIs
import Derived.Test.YtbjiecpkalcfeaaRingWords
namespace Go.Proofs.Ytbjiecpkalcfeaa.Ring
open Go Go.RowKit Go.Proofs.Ytbjiecpkalcfeaa Go.Proofs.Ytbjiecpkalcfeaa.Heap Go.Proofs.Ytbjiecpkalcfeaa.HeadIs Go.Proofs.Ytbjiecpkalcfeaa.Mem Go.Proofs.Ytbjiecpkalcfeaa.Two Go.Proofs.Ytbjiecpkalcfeaa.RingWords

abbrev ringV (p : Nat) (f b c : Int) : Value := .agg #[.pointer (some ⟨p, 0, none⟩), .int .i64 f, .int .i64 b, .int .i64 c]
abbrev ringC (p : Nat) (f b c : Int) : Array Value := #[.pointer (some ⟨p, 0, none⟩), .int .i64 f, .int .i64 b, .int .i64 c]
theorem blk4 {w : World} {g t : Nat} {a b c d : Value} (h : Blk w g t #[a, b, c, d]) : w.cell? ⟨g, 0, none⟩ = some a ∧ w.cell? ⟨g, 1, none⟩ = some b ∧ w.cell? ⟨g, 2, none⟩ = some c ∧ w.cell? ⟨g, 3, none⟩ = some d := ⟨h.cell 0, h.cell 1, h.cell 2, h.cell 3⟩
/-- A frame that is a ring: it begins at b, c events are in it. -/
structure Good (n : Nat) (L : List Int) (f b c : Int) : Prop where
  f0 : 0 ≤ f
  f1 : f < n
  is : isE n L f 6 = 0
  lb : ldV n L f 12 = b
  lc : ldV n L f 13 = c
  b0 : 0 ≤ b
  b1 : b < 8
  c0 : 0 ≤ c
  c1 : c ≤ 8
theorem canE_in {n : Nat} {f a : Int} (h0 : 0 ≤ f) (h1 : f < n) (a0 : 0 ≤ a) (a1 : a < 36) : Mem.canE n f a = 0 := Mem.canE_ok ⟨h0, h1, a0, a1⟩

section
set_option maxRecDepth 100000
set_option maxHeartbeats 2000000
theorem next_ok (a i : Int) (a0 : 0 ≤ a) (a1 : a < 8) (i0 : 0 ≤ i) (i1 : i ≤ 8) (w : World) : Calls Try.prog 55 #[.int .i64 a, .int .i64 i, .int .i64 8] w fun e w' => e = .returned (.int .i64 ((a + i) % 8)) ∧ w = w' := by
  go_enter Try.func55, Try.ntmps55
  go_wp2
  go_ret
  exact ⟨rfl, rfl⟩
theorem at_ok (p : Nat) (f b c i : Int) (b0 : 0 ≤ b) (b1 : b < 8) (i0 : 0 ≤ i) (i1 : i ≤ 8) (w : World) : Calls Try.prog 59 #[ringV p f b c, .int .i64 i] w fun e w' => e = .returned (.int .i64 (14 + (b + i) % 8)) ∧ Chg [] w w' := by
  have HN := Lib.hid (next_ok b i b0 b1 i0 i1)
  have B := Blk.new w 98 (ringC p f b c)
  obtain ⟨c0, c1, c2, c3⟩ := blk4 B
  obtain ⟨x, ex⟩ : ∃ x, (b + i) % 8 = x := ⟨_, rfl⟩
  have x0 : 0 ≤ x ∧ x < 8 := by omega
  obtain ⟨x0, x1⟩ := x0
  rw [ex] at HN ⊢
  clear ex
  go_enter Try.func59, Try.ntmps59
  go_wp2_with (go_at_call 55; refine Calls.mono (HN.out _) ?_; rintro e w1 ⟨rfl, rfl⟩)
  go_ret
  exact ⟨rfl, (Chg.refl [] w).alloc _⟩
/-- The words behind a ring's being saved. -/
def saveL (n : Nat) (L : List Int) (f b c : Int) : List Int := stL n (stL n L f 12 b) f 13 c
theorem save_ok {w : World} {p g n : Nat} {L : List Int} (h : MemAt w p g n L) (f b c : Int) (f0 : 0 ≤ f) (f1 : f < n) (b0 : 0 ≤ b) (b1 : b < 8) (c0 : 0 ≤ c) (c1 : c ≤ 8) : Calls Try.prog 56 #[ringV p f b c] w fun e w' => e = .returned (.int .i64 0) ∧ MemAt w' p g n (saveL n L f b c) ∧ Chg [g] w w' := by
  obtain ⟨d, ed⟩ : ∃ d, w.heap.size = d := ⟨_, rfl⟩
  have B := Blk.new' w 98 (ringC p f b c) ed
  have m := h.alloc (.cells (ringC p f b c) 98)
  have K := (Chg.refl [g] w).alloc (.cells (ringC p f b c) 98)
  have hdg : d ≠ g := Blk.ne_ B m.row (by decide)
  have v0 : IntKind.u64.wrap b = b := by rw [IntKind.wrap_u64]; omega
  have v1 : IntKind.u64.wrap c = c := by rw [IntKind.wrap_u64]; omega
  have C1 := Mem.store_ok m f 12 b
  have C2 := fun (W : World) (q : MemAt W p g n (stL n L f 12 b)) => Mem.store_ok q f 13 c
  rw [canE_in f0 f1 (by decide) (by decide)] at C1 C2
  have HC1 := Lib.hid C1
  have HC2 := Lib.hid C2
  clear C1 C2 h
  unfold saveL
  obtain ⟨e0, e1, e2, e3⟩ := blk4 B
  go_enter Try.func56, Try.ntmps56
  go_wp2_with fail
  refine Calls.mono HC1.out ?_
  rintro e w1 ⟨rfl, m1, k1⟩
  replace K := K.trans k1 (by simp)
  replace B := B.chg k1 (by simpa using hdg)
  clear k1 e0 e1 e2 e3
  obtain ⟨e0, e1, e2, e3⟩ := blk4 B
  go_wp2_with fail
  refine Calls.mono (HC2.out _ m1) ?_
  rintro e w2 ⟨rfl, m2, k2⟩
  replace K := K.trans k2 (by simp)
  go_wp2
  go_ret
  exact ⟨rfl, m2, K⟩
theorem open_ok {w : World} {p g n : Nat} {L : List Int} (h : MemAt w p g n L) (hu : U64 L) {f b c : Int} (hg : Good n L f b c) : Calls Try.prog 52 #[.pointer (some ⟨p, 0, none⟩), .int .i64 f] w fun e w' => e = .returned (.tuple #[ringV p f b c, .int .i64 0]) ∧ Chg [] w w' := by
  obtain ⟨d, ed⟩ : ∃ d, w.heap.size = d := ⟨_, rfl⟩
  have zR : Array Value := #[.pointer none, .int .i64 0, .int .i64 0, .int .i64 0]
  have B := Blk.new' w 98 #[.pointer none, .int .i64 0, .int .i64 0, .int .i64 0] ed
  have m := h.alloc (.cells #[.pointer none, .int .i64 0, .int .i64 0, .int .i64 0] 98)
  have K := (Chg.refl [] w).alloc (.cells #[.pointer none, .int .i64 0, .int .i64 0, .int .i64 0] 98)
  obtain ⟨f0, f1, is, lb, lc, b0, b1, c0, c1⟩ := hg
  have HI := fun (W : World) (q : MemAt W p g n L) => HeadIs.is_ok q hu f 6
  have C1 := fun (W : World) (q : MemAt W p g n L) => Mem.load_ok q f 12
  have C2 := fun (W : World) (q : MemAt W p g n L) => Mem.load_ok q f 13
  rw [is] at HI
  rw [lb, canE_in f0 f1 (by decide) (by decide)] at C1
  rw [lc, canE_in f0 f1 (by decide) (by decide)] at C2
  have HI' := Lib.hid HI
  have HC1 := Lib.hid C1
  have HC2 := Lib.hid C2
  have v0 : IntKind.i64.wrap b = b := by rw [IntKind.wrap_i64]; omega
  have v1 : IntKind.i64.wrap c = c := by rw [IntKind.wrap_i64]; omega
  clear HI C1 C2 h is lb lc zR
  go_enter Try.func52, Try.ntmps52
  go_wp2_with fail
  refine Calls.mono (HI'.out _ m) ?_
  rintro e w1 ⟨rfl, k1⟩
  replace K := K.trans k1 (by simp)
  replace B := B.chg k1 (by simp)
  replace m := m.chg0 k1
  clear k1
  go_wp2_with fail
  refine Calls.mono (HC1.out _ m) ?_
  rintro e w2 ⟨rfl, rfl⟩
  go_wp2_with fail
  refine Calls.mono (HC2.out _ m) ?_
  rintro e w2 ⟨rfl, rfl⟩
  obtain ⟨e0, e1, e2, e3⟩ := blk4 B
  have g0 := B.frozen 0
  have g1 := B.frozen 1
  have g2 := B.frozen 2
  have g3 := B.frozen 3
  go_wp2
  have G := Blk.set_ (Blk.set_ (Blk.set_ (Blk.set_ B 0 (.pointer (some ⟨p, 0, none⟩))) 1 (.int .i64 f)) 2 (.int .i64 b)) 3 (.int .i64 c)
  obtain ⟨q0, q1, q2, q3⟩ := blk4 (a := .pointer (some ⟨p, 0, none⟩)) (b := .int .i64 f) (c := .int .i64 b) (d := .int .i64 c) G
  refine ⟨rfl, .tuple #[ringV p f b c, .int .i64 0], ?_, rfl, (((K.setCell (p := ⟨d, 0, none⟩) (.inr (by simp; omega)) _).setCell (p := ⟨d, 1, none⟩) (.inr (by simp; omega)) _).setCell (p := ⟨d, 2, none⟩) (.inr (by simp; omega)) _).setCell (p := ⟨d, 3, none⟩) (.inr (by simp; omega)) _⟩
  simp [results, go_sem, q0, q1, q2, q3]
/-- The word of a ring's event. -/
def evW (n : Nat) (L : List Int) (f b i : Int) : Int := ldV n L f (14 + (b + i) % 8)
theorem read_ok {w : World} {p g n : Nat} {L : List Int} (h : MemAt w p g n L) (hu : U64 L) (f b c i : Int) (f0 : 0 ≤ f) (f1 : f < n) (b0 : 0 ≤ b) (b1 : b < 8) (i0 : 0 ≤ i) (i1 : i ≤ 8) :
    Calls Try.prog 53 #[ringV p f b c, .int .i64 i] w fun e w' => e = .returned (.tuple #[evV (ofK (evW n L f b i)) (ofT (evW n L f b i)), .int .i64 (ofE (evW n L f b i))]) ∧ Chg [] w w' := by
  unfold evW
  have hw := hu.ld (n := n) f (14 + (b + i) % 8)
  have HA := Lib.hid (at_ok p f b c i b0 b1 i0 i1)
  have C1 := fun (W : World) (q : MemAt W p g n L) => Mem.load_ok q f (14 + (b + i) % 8)
  rw [canE_in f0 f1 (by omega) (by omega)] at C1
  generalize 14 + (b + i) % 8 = at' at *
  generalize ldV n L f at' = u at *
  have HO := Lib.hid (fun W => of_ok u W hw.1 hw.2)
  generalize ofK u = y0 at *
  generalize ofT u = y1 at *
  generalize ofE u = y2 at *
  have HC := Lib.hid C1
  clear C1 hw
  obtain ⟨d, ed⟩ : ∃ d, w.heap.size = d := ⟨_, rfl⟩
  have B := (Blk.new' w 98 (ringC p f b c) ed).alloc (.cells (evC 0 0) 32)
  have D : Blk ((w.alloc (.cells (ringC p f b c) 98)).alloc (.cells (evC 0 0) 32)) (d + 1) 32 (evC 0 0) := Blk.new' _ _ _ (by simp; omega)
  have K := ((Chg.refl [] w).alloc (.cells (ringC p f b c) 98)).alloc (.cells (evC 0 0) 32)
  have m := (h.alloc (.cells (ringC p f b c) 98)).alloc (.cells (evC 0 0) 32)
  clear h
  go_enter Try.func53, Try.ntmps53
  go_wp2_with fail
  replace B := B.drew
  replace D := D.drew
  replace K := K.drew
  replace m := m.drew
  go_region_held3 (fun V => V.cell? ⟨d, 0, none⟩ = some (.pointer (some ⟨p, 0, none⟩)) ∧ V.cell? ⟨d, 1, none⟩ = some (.int .i64 f) ∧ V.cell? ⟨d, 2, none⟩ = some (.int .i64 b) ∧ V.cell? ⟨d, 3, none⟩ = some (.int .i64 c)) (exact ⟨B.cell 0, B.cell 1, B.cell 2, B.cell 3⟩)
    (first
    | (go_at_call 59; refine Calls.mono (HA.out _) ?_; rintro e w1 ⟨rfl, kk⟩; replace B := B.chg kk (by simp); replace D := D.chg kk (by simp); replace K := K.trans kk (by simp); replace m := m.chg0 kk; clear kk)
    | (go_at_call 72; refine Calls.mono (HC.out _ m) ?_; rintro e w1 ⟨rfl, rfl⟩))
  go_wp2_with fail
  refine Calls.mono (HO.out _) ?_
  rintro e w2 ⟨rfl, kk⟩
  replace D := D.chg kk (by simp)
  replace K := K.trans kk (by simp)
  obtain ⟨e0, e1⟩ := blk2 D
  have g0 := D.frozen 0
  have g1 := D.frozen 1
  go_wp2
  have G := Blk.set_ (Blk.set_ D 0 (.int .i64 y0)) 1 (.int .i64 y1)
  obtain ⟨q0, q1⟩ := blk2 (a := .int .i64 y0) (b := .int .i64 y1) G
  refine ⟨rfl, .tuple #[evV y0 y1, .int .i64 y2], ?_, rfl, (K.setCell (p := ⟨d + 1, 0, none⟩) (.inr (by simp; omega)) _).setCell (p := ⟨d + 1, 1, none⟩) (.inr (by simp; omega)) _⟩
  simp [results, go_sem, q0, q1]

theorem put_bad {w : World} {p : Nat} (f k t : Int) (hR : rightE k t = false) : Calls Try.prog 12 #[.pointer (some ⟨p, 0, none⟩), .int .i64 f, evV k t] w fun e w' => e = .returned (.int .i64 1) ∧ Chg [] w w' := by
  have HW := word_ok k t
  rw [hR] at HW
  generalize wordE k t = u at *
  have HW' : Hid (∀ w, Calls Try.prog 57 #[evV k t] w fun e w' => e = .returned (.tuple #[.int .u64 u, .int .i64 1]) ∧ Chg [] w w') := HW
  clear HW hR
  have B := Blk.new w 32 (evC k t)
  have K := (Chg.refl [] w).alloc (.cells (evC k t) 32)
  obtain ⟨c0, c1⟩ := blk2 B
  go_enter Try.func12, Try.ntmps12
  go_wp2_with (go_at_call 57; refine Calls.mono (HW'.out _) ?_; rintro e w1 ⟨rfl, k1⟩; replace K := K.trans k1 (by simp))
  go_ret
  exact ⟨rfl, K⟩
theorem put_full {w : World} {p g n : Nat} {L : List Int} (h : MemAt w p g n L) (hu : U64 L) {f b : Int} (hg : Good n L f b 8) (k t : Int) (hR : rightE k t = true) : Calls Try.prog 12 #[.pointer (some ⟨p, 0, none⟩), .int .i64 f, evV k t] w fun e w' => e = .returned (.int .i64 2) ∧ Chg [] w w' := by
  have HW := word_ok k t
  rw [hR] at HW
  generalize wordE k t = u at *
  have HW' : Hid (∀ w, Calls Try.prog 57 #[evV k t] w fun e w' => e = .returned (.tuple #[.int .u64 u, .int .i64 0]) ∧ Chg [] w w') := HW
  have HO := Lib.hid (fun (W : World) (q : MemAt W p g n L) => open_ok q hu hg)
  clear HW hR hg
  have B := Blk.new w 32 (evC k t)
  have m := h.alloc (.cells (evC k t) 32)
  have K := (Chg.refl [] w).alloc (.cells (evC k t) 32)
  clear h
  obtain ⟨c0, c1⟩ := blk2 B
  go_enter Try.func12, Try.ntmps12
  go_wp2_with fail
  refine Calls.mono (HW'.out _) ?_
  rintro e w1 ⟨rfl, k1⟩
  replace K := K.trans k1 (by simp)
  replace m := m.chg0 k1
  clear k1 c0 c1
  go_wp2_with fail
  refine Calls.mono (HO.out _ m) ?_
  rintro e w2 ⟨rfl, k1⟩
  have D := Blk.new w2 98 (ringC p f b 8)
  replace K := (K.trans k1 (by simp)).alloc (.cells (ringC p f b 8) 98)
  obtain ⟨e0, e1, e2, e3⟩ := blk4 D
  go_wp2
  go_ret
  exact ⟨rfl, K⟩
/-- The words behind an event's being put. -/
def putR (n : Nat) (L : List Int) (f b c u : Int) : List Int := saveL n (stL n L f (14 + (b + c) % 8) u) f b (c + 1)
theorem put_good {w : World} {p g n : Nat} {L : List Int} (h : MemAt w p g n L) (hu : U64 L) {f b c : Int} (hg : Good n L f b c) (k t : Int) (hR : rightE k t = true) (hc : c < 8) : Calls Try.prog 12 #[.pointer (some ⟨p, 0, none⟩), .int .i64 f, evV k t] w fun e w' => e = .returned (.int .i64 0) ∧ MemAt w' p g n (putR n L f b c (wordE k t)) ∧ Chg [g] w w' := by
  have HW := word_ok k t
  rw [hR] at HW
  unfold putR
  generalize wordE k t = u at *
  have HW' : Hid (∀ w, Calls Try.prog 57 #[evV k t] w fun e w' => e = .returned (.tuple #[.int .u64 u, .int .i64 0]) ∧ Chg [] w w') := HW
  have HO := Lib.hid (fun (W : World) (q : MemAt W p g n L) => open_ok q hu hg)
  obtain ⟨f0, f1, -, -, -, b0, b1, cc0, cc1⟩ := hg
  have HA := Lib.hid (at_ok p f b c c b0 b1 cc0 cc1)
  have HC := fun (W : World) (q : MemAt W p g n L) => Mem.store_ok q f (14 + (b + c) % 8) u
  rw [canE_in f0 f1 (by omega) (by omega)] at HC
  have HS := Lib.hid (fun (W : World) (M : List Int) (q : MemAt W p g n M) => save_ok q f b (c + 1) f0 f1 b0 b1 (by omega) (by omega))
  generalize 14 + (b + c) % 8 = at' at *
  generalize stL n L f at' u = M at *
  have HC' := Lib.hid HC
  have hc8 : (c == 8) = false := by rw [beq_eq_false_iff_ne]; omega
  clear HW hR HC
  have B := Blk.new w 32 (evC k t)
  have m := h.alloc (.cells (evC k t) 32)
  have K := (Chg.refl [g] w).alloc (.cells (evC k t) 32)
  clear h
  obtain ⟨c0, c1⟩ := blk2 B
  go_enter Try.func12, Try.ntmps12
  go_wp2_with fail
  refine Calls.mono (HW'.out _) ?_
  rintro e w1 ⟨rfl, k1⟩
  replace K := K.trans k1 (by simp)
  replace m := m.chg0 k1
  clear k1 c0 c1
  go_wp2_with fail
  refine Calls.mono (HO.out _ m) ?_
  rintro e w2 ⟨rfl, k1⟩
  obtain ⟨d, ed⟩ : ∃ d, w2.heap.size = d := ⟨_, rfl⟩
  have D := Blk.new' w2 98 (ringC p f b c) ed
  have hdw : w.heap.size ≤ d := by have := (K.trans k1 (by simp)).size; omega
  replace K := (K.trans k1 (by simp)).alloc (.cells (ringC p f b c) 98)
  replace m := (m.chg0 k1).alloc (.cells (ringC p f b c) 98)
  have hdg : d ≠ g := Blk.ne_ D m.row (by decide)
  clear k1
  obtain ⟨e0, e1, e2, e3⟩ := blk4 D
  go_wp2_with fail
  refine Calls.mono (HA.out _) ?_
  rintro e w3 ⟨rfl, k1⟩
  replace K := K.trans k1 (by simp)
  replace m := m.chg0 k1
  replace D := D.chg k1 (by simp)
  clear k1 e0 e1 e2 e3
  go_wp2_with fail
  refine Calls.mono (HC'.out _ m) ?_
  rintro e w4 ⟨rfl, m4, k1⟩
  replace K := K.trans k1 (by simp)
  replace D := D.chg k1 (by simpa using hdg)
  clear k1 m
  obtain ⟨e0, e1, e2, e3⟩ := blk4 D
  have z3 := D.frozen 3
  have D2 := D.set_ 3 (.int .i64 (c + 1))
  obtain ⟨y0, y1, y2, y3⟩ := blk4 (a := .pointer (some ⟨p, 0, none⟩)) (b := .int .i64 f) (c := .int .i64 b) (d := .int .i64 (c + 1)) D2
  have m5 := m4.chg ((Chg.refl [d] w4).setCell (p := ⟨d, 3, none⟩) (by simp) (.int .i64 (c + 1))) (by simpa using Blk.ne_ m4.hd D (by decide)) (by simpa using hdg.symm)
  have K5 := K.setCell (p := ⟨d, 3, none⟩) (.inr hdw) (.int .i64 (c + 1))
  go_wp2_with fail
  refine Calls.mono (HS.out _ _ m5) ?_
  rintro e w5 ⟨rfl, m6, k1⟩
  replace K5 := K5.trans k1 (by simp)
  go_wp2
  go_ret
  exact ⟨rfl, m6, K5⟩
/-- The words behind an event's being taken. -/
def takeR (n : Nat) (L : List Int) (f b c : Int) : List Int := saveL n L f ((b + 1) % 8) (c - 1)
theorem less_ok {w : World} {p g n d : Nat} {L : List Int} {f b c : Int} (m : MemAt w p g n L) (D : Blk w d 98 (ringC p f b c)) (f0 : 0 ≤ f) (f1 : f < n) (b0 : 0 ≤ b) (b1 : b < 8) (c0 : 0 < c) (c1 : c ≤ 8) :
    Calls Try.prog 54 #[.pointer (some ⟨d, 0, none⟩)] w fun e w' => e = .returned (.int .i64 0) ∧ MemAt w' p g n (takeR n L f b c) ∧ Chg [g, d] w w' := by
  have HN := Lib.hid (next_ok b 1 b0 b1 (by decide) (by decide))
  have x0 : 0 ≤ (b + 1) % 8 ∧ (b + 1) % 8 < 8 := by omega
  have HS := fun (W : World) (q : MemAt W p g n L) => save_ok q f ((b + 1) % 8) (c - 1) f0 f1 x0.1 x0.2 (by omega) (by omega)
  unfold takeR
  generalize (b + 1) % 8 = b' at *
  have HS' := Lib.hid HS
  clear HS x0
  have hdg : d ≠ g := Blk.ne_ D m.row (by decide)
  have hdp : p ≠ d := Blk.ne_ m.hd D (by decide)
  obtain ⟨e0, e1, e2, e3⟩ := blk4 D
  have g2 := D.frozen 2
  have g3 := D.frozen 3
  have D2 := D.set_ 2 (.int .i64 b')
  have D3 := D2.set_ 3 (.int .i64 (c - 1))
  have K3 : Chg [g, d] w ((w.setCell ⟨d, 2, none⟩ (.int .i64 b')).setCell ⟨d, 3, none⟩ (.int .i64 (c - 1))) := ((Chg.refl [g, d] w).setCell (p := ⟨d, 2, none⟩) (by simp) _).setCell (p := ⟨d, 3, none⟩) (by simp) _
  have K3' : Chg [d] w ((w.setCell ⟨d, 2, none⟩ (.int .i64 b')).setCell ⟨d, 3, none⟩ (.int .i64 (c - 1))) := ((Chg.refl [d] w).setCell (p := ⟨d, 2, none⟩) (by simp) _).setCell (p := ⟨d, 3, none⟩) (by simp) _
  have m3 := m.chg K3' (by simpa using hdp) (by simpa using hdg.symm)
  obtain ⟨y0, y1, y2, y3⟩ := blk4 (a := .pointer (some ⟨p, 0, none⟩)) (b := .int .i64 f) (c := .int .i64 b') (d := .int .i64 (c - 1)) D3
  go_enter Try.func54, Try.ntmps54
  go_wp2_with (go_at_call 55; refine Calls.mono (HN.out _) ?_; rintro e w1 ⟨rfl, rfl⟩)
  refine Calls.mono (HS'.out _ m3) ?_
  rintro e w2 ⟨rfl, m4, kk⟩
  replace K3 := K3.trans kk (by simp)
  go_wp2
  go_ret
  exact ⟨rfl, m4, K3⟩
theorem take_none {w : World} {p g n : Nat} {L : List Int} (h : MemAt w p g n L) (hu : U64 L) {f b : Int} (hg : Good n L f b 0) : Calls Try.prog 11 #[.pointer (some ⟨p, 0, none⟩), .int .i64 f] w fun e w' => e = .returned (.tuple #[evV 0 0, .int .i64 3]) ∧ Chg [] w w' := by
  have HO := Lib.hid (fun (W : World) (q : MemAt W p g n L) => open_ok q hu hg)
  clear hg
  obtain ⟨b1, eb⟩ : ∃ b, w.heap.size = b := ⟨_, rfl⟩
  have B := Blk.new' w 32 (evC 0 0) eb
  have m := h.alloc (.cells (evC 0 0) 32)
  have K := (Chg.refl [] w).alloc (.cells (evC 0 0) 32)
  clear h
  go_enter Try.func11, Try.ntmps11
  go_wp2_with fail
  refine Calls.mono (HO.out _ m) ?_
  rintro e w2 ⟨rfl, k1⟩
  have D := Blk.new w2 98 (ringC p f b 0)
  replace K := (K.trans k1 (by simp)).alloc (.cells (ringC p f b 0) 98)
  replace B := (B.chg k1 (by simp)).alloc (.cells (ringC p f b 0) 98)
  obtain ⟨e0, e1, e2, e3⟩ := blk4 D
  obtain ⟨j0, j1⟩ := blk2 B
  have g0 := B.frozen 0
  have g1 := B.frozen 1
  go_wp2
  have G := Blk.set_ (Blk.set_ B 0 (.int .i64 0)) 1 (.int .i64 0)
  obtain ⟨q0, q1⟩ := blk2 (a := .int .i64 0) (b := .int .i64 0) G
  refine ⟨rfl, .tuple #[evV 0 0, .int .i64 3], ?_, rfl, (K.setCell (p := ⟨b1, 0, none⟩) (.inr (by simp; omega)) _).setCell (p := ⟨b1, 1, none⟩) (.inr (by simp; omega)) _⟩
  simp [results, go_sem, q0, q1]
theorem take_good {w : World} {p g n : Nat} {L : List Int} (h : MemAt w p g n L) (hu : U64 L) {f b c : Int} (hg : Good n L f b c) (hc : 0 < c) (hok : ofOk (evW n L f b 0) = true) : Calls Try.prog 11 #[.pointer (some ⟨p, 0, none⟩), .int .i64 f] w fun e w' => e = .returned (.tuple #[evV (ofK (evW n L f b 0)) (ofT (evW n L f b 0)), .int .i64 0]) ∧ MemAt w' p g n (takeR n L f b c) ∧ Chg [g] w w' := by
  have HO := Lib.hid (fun (W : World) (q : MemAt W p g n L) => open_ok q hu hg)
  obtain ⟨f0, f1, -, -, -, b0, b1, cc0, cc1⟩ := hg
  have HR := fun (W : World) (q : MemAt W p g n L) => read_ok q hu f b c 0 f0 f1 b0 b1 (by decide) (by decide)
  have hE : ofE (evW n L f b 0) = 0 := if_pos hok
  rw [hE] at HR
  have HL := Lib.hid (fun (W : World) (d : Nat) (q : MemAt W p g n L) (D : Blk W d 98 (ringC p f b c)) => less_ok q D f0 f1 b0 b1 hc cc1)
  generalize ofK (evW n L f b 0) = y0 at *
  generalize ofT (evW n L f b 0) = y1 at *
  generalize takeR n L f b c = M at *
  have HR' := Lib.hid HR
  have hc0 : (c == 0) = false := by rw [beq_eq_false_iff_ne]; omega
  clear HR hok hE
  obtain ⟨x, ex⟩ : ∃ x, w.heap.size = x := ⟨_, rfl⟩
  have B := Blk.new' w 32 (evC 0 0) ex
  have m := h.alloc (.cells (evC 0 0) 32)
  have K := (Chg.refl [g] w).alloc (.cells (evC 0 0) 32)
  clear h
  go_enter Try.func11, Try.ntmps11
  go_wp2_with fail
  refine Calls.mono (HO.out _ m) ?_
  rintro e w2 ⟨rfl, k1⟩
  obtain ⟨d, ed⟩ : ∃ d, w2.heap.size = d := ⟨_, rfl⟩
  have D := Blk.new' w2 98 (ringC p f b c) ed
  have hdw : w.heap.size ≤ d := by have := (K.trans k1 (by simp)).size; omega
  replace K := (K.trans k1 (by simp)).alloc (.cells (ringC p f b c) 98)
  replace m := (m.chg0 k1).alloc (.cells (ringC p f b c) 98)
  replace B := (B.chg k1 (by simp)).alloc (.cells (ringC p f b c) 98)
  clear k1
  obtain ⟨e0, e1, e2, e3⟩ := blk4 D
  go_wp2_with fail
  refine Calls.mono (HR'.out _ m) ?_
  rintro e w3 ⟨rfl, k1⟩
  obtain ⟨h', eh⟩ : ∃ h, w3.heap.size = h := ⟨_, rfl⟩
  have F := Blk.new' w3 32 (evC y0 y1) eh
  replace K := (K.trans k1 (by simp)).alloc (.cells (evC y0 y1) 32)
  replace m := (m.chg0 k1).alloc (.cells (evC y0 y1) 32)
  replace B := (B.chg k1 (by simp)).alloc (.cells (evC y0 y1) 32)
  have hxF : h' ≠ x := by have := (D.chg k1 (by simp)).lt; have := B.lt; have h3 : x < w3.heap.size := by
                            have hq := k1.size; have := (D.lt); simp at hq; omega
                          omega
  replace D := (D.chg k1 (by simp)).alloc (.cells (evC y0 y1) 32)
  clear k1 e0 e1 e2 e3
  go_wp2_with fail
  replace K := K.drew
  replace m := m.drew
  replace B := B.drew
  replace D := D.drew
  replace F := F.drew
  have hFd : h' ≠ d := Blk.ne_ F D (by decide)
  have hFg : h' ≠ g := Blk.ne_ F m.row (by decide)
  have hBd : x ≠ d := Blk.ne_ B D (by decide)
  have hBg : x ≠ g := Blk.ne_ B m.row (by decide)
  go_region_held3 (fun V => V.cell? ⟨h', 0, none⟩ = some (.int .i64 y0) ∧ V.cell? ⟨h', 1, none⟩ = some (.int .i64 y1)) (first | exact ⟨F.cell 0, F.cell 1⟩ | (have FF := (F.far (p := ⟨x, 0, none⟩) hxF (.int .i64 y0)).far (p := ⟨x, 1, none⟩) hxF (.int .i64 y1); exact ⟨FF.cell 0, FF.cell 1⟩))
    (first
    | (go_at_call 54; refine Calls.mono (HL.out _ _ m D) ?_; rintro e w4 ⟨rfl, m4, kk⟩; replace K := K.trans kk (by simp; omega); replace F := F.chg kk (by simp; exact ⟨hFg, hFd⟩); replace B := B.chg kk (by simp; exact ⟨hBg, hBd⟩); obtain ⟨j0, j1⟩ := blk2 B; have g0 := B.frozen 0; have g1 := B.frozen 1))
  go_wp2
  have G := Blk.set_ (Blk.set_ B 0 (.int .i64 y0)) 1 (.int .i64 y1)
  obtain ⟨q0, q1⟩ := blk2 (a := .int .i64 y0) (b := .int .i64 y1) G
  have KX : Chg [x] w4 ((w4.setCell ⟨x, 0, none⟩ (.int .i64 y0)).setCell ⟨x, 1, none⟩ (.int .i64 y1)) := ((Chg.refl [x] w4).setCell (p := ⟨x, 0, none⟩) (by simp) _).setCell (p := ⟨x, 1, none⟩) (by simp) _
  have m5 := m4.chg KX (by simpa using (Blk.ne_ B m4.hd (by decide)).symm) (by simpa using hBg.symm)
  refine ⟨rfl, .tuple #[evV y0 y1, .int .i64 0], ?_, rfl, m5, K.trans KX (by simp; omega)⟩
  simp [results, go_sem, q0, q1]
end
end Go.Proofs.Ytbjiecpkalcfeaa.Ring
