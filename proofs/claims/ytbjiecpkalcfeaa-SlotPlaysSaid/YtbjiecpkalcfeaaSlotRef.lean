/- Package palanquinref11: Get, Put. -/
import Derived.Test.YtbjiecpkalcfeaaSlotGen
import Derived.Test.YtbjiecpkalcfeaaCapRefW
namespace Go.Proofs.Ytbjiecpkalcfeaa.SlotRef
open Go Go.RowKit Go.Proofs.Ytbjiecpkalcfeaa Go.Proofs.Ytbjiecpkalcfeaa.Heap Go.Proofs.Ytbjiecpkalcfeaa.Bits Go.Proofs.Ytbjiecpkalcfeaa.Cap Go.Proofs.Ytbjiecpkalcfeaa.CapPut Go.Proofs.Ytbjiecpkalcfeaa.CapGet Go.Proofs.Ytbjiecpkalcfeaa.Mem Go.Proofs.Ytbjiecpkalcfeaa.Two Go.Proofs.Ytbjiecpkalcfeaa.Slot Go.Proofs.Ytbjiecpkalcfeaa.SlotGen

theorem chr_trans {B : Nat} {w w1 w2 : World} (h : Ref02.Chr B w w1) (k : Ref02.Chr B w1 w2) : Ref02.Chr B w w2 := by
  obtain ⟨S, hc, hS⟩ := h
  obtain ⟨S2, hc2, hS2⟩ := k
  refine ⟨S ++ S2.filter (· < w.heap.size), hc.mono (S' := S ++ S2.filter (· < w.heap.size)) (fun x hx => .inl (List.mem_append_left _ hx)) |>.trans hc2 (fun x hx => ?_), fun s hs => ?_⟩
  · by_cases hl : x < w.heap.size
    · exact .inl (List.mem_append_right _ (List.mem_filter.2 ⟨hx, by simpa using hl⟩))
    · exact .inr (by omega)
  · rcases List.mem_append.1 hs with h1 | h1
    · exact hS s h1
    · obtain ⟨h2, h3⟩ := List.mem_filter.1 h1
      obtain ⟨h4, cs, h5⟩ := hS2 s h2
      refine ⟨h4, ?_⟩
      by_cases hm : s ∈ S
      · exact (hS s hm).2
      · exact ⟨cs, (hc.block s (by simpa using h3) hm).symm.trans h5⟩
section
set_option maxRecDepth 100000
set_option maxHeartbeats 2000000
theorem get_any {w : World} {B0 r n : Nat} {vv : Value} {bs : List (Nat × Nat)} {L : List Int} (h : Ref02.RM w B0 r vv n bs L) (n1 : 1 ≤ n) (n2 : n ≤ 64) (hu : U64 L) (f i : Int) :
    Calls Try.prog 43 #[.pointer (some ⟨r, 0, none⟩), .int .i64 f, .int .i64 i] w fun e w' => e = .returned (.tuple #[gV n L f i, .int .i64 (gE n L f i)]) ∧ Chg [] w w' := by
  unfold gV gE
  obtain ⟨d, ed⟩ : ∃ d, w.heap.size = d := ⟨_, rfl⟩
  have D := Blk.new' w 70 (capC 0 0 0 0 0 0) ed
  have m := h.alloc (.cells (capC 0 0 0 0 0 0) 70)
  have K := (Chg.refl [] w).alloc (.cells (capC 0 0 0 0 0 0) 70)
  rcases (by omega : i < 0 ∨ 16 ≤ i ∨ (0 ≤ i ∧ i < 16)) with hi | hi | ⟨i0, i1⟩
  · rw [if_neg (by omega), if_neg (by omega)]
    obtain ⟨d0, d1, d2, d3, d4, d5⟩ := blk6 D
    have g0 := D.frozen 0
    have g1 := D.frozen 1
    have g2 := D.frozen 2
    have g3 := D.frozen 3
    have g4 := D.frozen 4
    have g5 := D.frozen 5
    clear m h
    go_enter Try.func43, Try.ntmps43
    go_wp2_with fail
    refine ⟨rfl, .tuple #[capV 0 0 0 0 0 0, .int .i64 1], ?_, rfl, K⟩
    simp [results, go_sem, d0, d1, d2, d3, d4, d5]
  · rw [if_neg (by omega), if_neg (by omega)]
    obtain ⟨d0, d1, d2, d3, d4, d5⟩ := blk6 D
    have g0 := D.frozen 0
    have g1 := D.frozen 1
    have g2 := D.frozen 2
    have g3 := D.frozen 3
    have g4 := D.frozen 4
    have g5 := D.frozen 5
    clear m h
    go_enter Try.func43, Try.ntmps43
    go_wp2_with fail
    refine ⟨rfl, .tuple #[capV 0 0 0 0 0 0, .int .i64 1], ?_, rfl, K⟩
    simp [results, go_sem, d0, d1, d2, d3, d4, d5]
  · have C1 := fun (W : World) (q : Ref02.RM W B0 r vv n bs L) => Ref02.load_ok q n1 n2 f (4 + 2 * i)
    have C2 := fun (W : World) (q : Ref02.RM W B0 r vv n bs L) => Ref02.load_ok q n1 n2 f (5 + 2 * i)
    have e1 : IntKind.i64.wrap (2 * i) = 2 * i := by rw [IntKind.wrap_i64]; omega
    have e2 : IntKind.i64.wrap (4 + 2 * i) = 4 + 2 * i := by rw [IntKind.wrap_i64]; omega
    have e5 : IntKind.i64.wrap (4 + 2 * i + 1) = 5 + 2 * i := by rw [IntKind.wrap_i64]; omega
    by_cases hf : 0 ≤ f ∧ f < n
    · rw [if_pos ⟨⟨i0, i1⟩, hf⟩, if_pos ⟨⟨i0, i1⟩, hf⟩]
      rw [canE_in hf.1 hf.2 (by omega) (by omega)] at C1
      rw [canE_in hf.1 hf.2 (by omega) (by omega)] at C2
      have u1 := hu.ld (n := n) f (4 + 2 * i)
      have u2 := hu.ld (n := n) f (5 + 2 * i)
      unfold sgV sgE
      generalize ldV n L f (4 + 2 * i) = x at *
      generalize ldV n L f (5 + 2 * i) = y at *
      have HG := fun W => CapRefW.getCR_ok x y W u1.1 u1.2 u2.1 u2.2
      obtain ⟨k, r', t, l, e, a, hv⟩ := getCV_form x y
      rw [hv] at HG ⊢
      generalize getCE x y = ge at *
      have HG' := Lib.hid HG
      have HC1 := Lib.hid C1
      have HC2 := Lib.hid C2
      clear C1 C2 HG hv h u1 u2
      go_enter Try.func43, Try.ntmps43
      go_wp2_with fail
      refine Calls.mono (HC1.out _ m) ?_
      rintro e' w1 ⟨rfl, rfl⟩
      go_wp2_with fail
      refine Calls.mono (HC2.out _ m) ?_
      rintro e' w1 ⟨rfl, rfl⟩
      go_wp2_with fail
      refine Calls.mono (HG'.out _) ?_
      rintro e' w1 ⟨rfl, kk⟩
      replace D := D.chg kk (by simp)
      replace K := K.trans kk (by simp)
      obtain ⟨d0, d1, d2, d3, d4, d5⟩ := blk6 D
      have g0 := D.frozen 0
      have g1 := D.frozen 1
      have g2 := D.frozen 2
      have g3 := D.frozen 3
      have g4 := D.frozen 4
      have g5 := D.frozen 5
      go_wp2_with fail
      have G := Blk.set_ (Blk.set_ (Blk.set_ (Blk.set_ (Blk.set_ (Blk.set_ D 0 (.int .i64 k)) 1 (.int .i64 r')) 2 (.int .i64 t)) 3 (.int .i64 l)) 4 (.int .i64 e)) 5 (.int .i64 a)
      obtain ⟨q0, q1, q2, q3, q4, q5⟩ := blk6 (a := .int .i64 k) (b := .int .i64 r') (c := .int .i64 t) (d := .int .i64 l) (e := .int .i64 e) (f := .int .i64 a) G
      refine ⟨rfl, .tuple #[capV k r' t l e a, .int .i64 ge], ?_, rfl, ((((((K.setCell (p := ⟨d, 0, none⟩) (.inr (by simp; omega)) _).setCell (p := ⟨d, 1, none⟩) (.inr (by simp; omega)) _).setCell (p := ⟨d, 2, none⟩) (.inr (by simp; omega)) _).setCell (p := ⟨d, 3, none⟩) (.inr (by simp; omega)) _).setCell (p := ⟨d, 4, none⟩) (.inr (by simp; omega)) _).setCell (p := ⟨d, 5, none⟩) (.inr (by simp; omega)) _)⟩
      simp [results, go_sem, q0, q1, q2, q3, q4, q5]
    · rw [if_neg (fun q => hf q.2), if_neg (fun q => hf q.2)]
      rw [Mem.canE_no (fun q => hf ⟨q.1, q.2.1⟩)] at C1
      generalize ldV n L f (4 + 2 * i) = x at *
      have HC1 := Lib.hid C1
      obtain ⟨d0, d1, d2, d3, d4, d5⟩ := blk6 D
      have g0 := D.frozen 0
      have g1 := D.frozen 1
      have g2 := D.frozen 2
      have g3 := D.frozen 3
      have g4 := D.frozen 4
      have g5 := D.frozen 5
      clear C1 C2 h hf
      go_enter Try.func43, Try.ntmps43
      go_wp2_with fail
      refine Calls.mono (HC1.out _ m) ?_
      rintro e' w1 ⟨rfl, rfl⟩
      go_wp2_with fail
      refine ⟨rfl, .tuple #[capV 0 0 0 0 0 0, .int .i64 1], ?_, rfl, K⟩
      simp [results, go_sem, d0, d1, d2, d3, d4, d5]
theorem put_gen {w : World} {B0 p n : Nat} {vv : Value} {bs : List (Nat × Nat)} {L : List Int} (h : Ref02.RM w B0 p vv n bs L) (n1 : 1 ≤ n) (n2 : n ≤ 64) (f i k r t l e a : Int) : Calls Try.prog 42 #[.pointer (some ⟨p, 0, none⟩), .int .i64 f, .int .i64 i, capV k r t l e a] w fun e' w' => e' = .returned (.int .i64 (pE n f i k r t l e a)) ∧ Ref02.RM w' B0 p vv n bs (pL n L f i k r t l e a) ∧ Ref02.Chr B0 w w' := by
  unfold pE pL
  have B := Blk.new w 70 (capC k r t l e a)
  have m := h.alloc (.cells (capC k r t l e a) 70)
  have K := (Chg.refl [] w).alloc (.cells (capC k r t l e a) 70)
  rcases (by omega : i < 0 ∨ 16 ≤ i ∨ (0 ≤ i ∧ i < 16)) with hi | hi | ⟨i0, i1⟩
  · rw [if_neg (by omega), if_neg (by omega)]
    go_enter Try.func42, Try.ntmps42
    go_wp2_with fail
    go_ret
    exact ⟨rfl, m, Ref02.Chr.of0 K⟩
  · rw [if_neg (by omega), if_neg (by omega)]
    go_enter Try.func42, Try.ntmps42
    go_wp2_with fail
    go_ret
    exact ⟨rfl, m, Ref02.Chr.of0 K⟩
  · have e1 : IntKind.i64.wrap (2 * i) = 2 * i := by rw [IntKind.wrap_i64]; omega
    have e2 : IntKind.i64.wrap (4 + 2 * i) = 4 + 2 * i := by rw [IntKind.wrap_i64]; omega
    have e5 : IntKind.i64.wrap (4 + 2 * i + 1) = 5 + 2 * i := by rw [IntKind.wrap_i64]; omega
    have HP := CapRefW.putCR_ok k r t l e a
    unfold putC1 putC2 at HP
    obtain ⟨c0, c1, c2, c3, c4, c5⟩ := blk6 B
    cases hR : rightC k r t l e a with
    | false =>
      rw [if_neg (fun q => by cases q.2), if_neg (fun q => by cases q.2)]
      rw [hR] at HP
      have HP' : Hid (∀ w, Calls Try.prog 76 #[capV k r t l e a] w fun e' w' => e' = .returned (.tuple #[.int .u64 0, .int .u64 0, .int .i64 1]) ∧ Chg [] w w') := HP
      clear HP hR h
      go_enter Try.func42, Try.ntmps42
      go_wp2_with fail
      refine Calls.mono (HP'.out _) ?_
      rintro e' w1 ⟨rfl, kk⟩
      go_wp2
      go_ret
      exact ⟨rfl, m.chg0 kk, Ref02.Chr.of0 (K.trans kk (by simp))⟩
    | true =>
      rw [hR] at HP
      generalize hcw : CapW.capWord k r t l e = x at *
      have HP' : Hid (∀ w, Calls Try.prog 76 #[capV k r t l e a] w fun e' w' => e' = .returned (.tuple #[.int .u64 x, .int .u64 a, .int .i64 0]) ∧ Chg [] w w') := HP
      have C1 := fun (W : World) (q : Ref02.RM W B0 p vv n bs L) => Ref02.store_ok q n1 n2 f (4 + 2 * i) x
      have C2 := fun (W : World) (q : Ref02.RM W B0 p vv n bs (stL n L f (4 + 2 * i) x)) => Ref02.store_ok q n1 n2 f (5 + 2 * i) a
      by_cases hf : 0 ≤ f ∧ f < n
      · rw [if_pos ⟨⟨⟨i0, i1⟩, hf⟩, rfl⟩, if_pos ⟨⟨⟨i0, i1⟩, hf⟩, rfl⟩]
        unfold spL
        rw [canE_in hf.1 hf.2 (by omega) (by omega)] at C1
        rw [canE_in hf.1 hf.2 (by omega) (by omega)] at C2
        have HC1 := Lib.hid C1
        have HC2 := Lib.hid C2
        clear HP hR h C1 C2 hcw
        go_enter Try.func42, Try.ntmps42
        go_wp2_with fail
        refine Calls.mono (HP'.out _) ?_
        rintro e' w1 ⟨rfl, kk⟩
        replace m := m.chg0 kk
        replace K := K.trans kk (by simp)
        clear c0 c1 c2 c3 c4 c5 kk
        go_wp2_with fail
        refine Calls.mono (HC1.out _ m) ?_
        rintro e' w2 ⟨rfl, m2, k2⟩
        go_wp2_with fail
        refine Calls.mono (HC2.out _ m2) ?_
        rintro e' w3 ⟨rfl, m3, k3⟩
        go_wp2
        go_ret
        exact ⟨rfl, m3, chr_trans (chr_trans (Ref02.Chr.of0 K) k2) k3⟩
      · rw [if_neg (fun q => hf q.1.2), if_neg (fun q => hf q.1.2)]
        rw [Mem.canE_no (fun q => hf ⟨q.1, q.2.1⟩), show stL n L f (4 + 2 * i) x = L from if_neg (fun q => hf ⟨q.1, q.2.1⟩)] at C1
        have HC1 := Lib.hid C1
        clear HP hR h C1 C2 hcw hf
        go_enter Try.func42, Try.ntmps42
        go_wp2_with fail
        refine Calls.mono (HP'.out _) ?_
        rintro e' w1 ⟨rfl, kk⟩
        replace m := m.chg0 kk
        replace K := K.trans kk (by simp)
        clear c0 c1 c2 c3 c4 c5 kk
        go_wp2_with fail
        refine Calls.mono (HC1.out _ m) ?_
        rintro e' w2 ⟨rfl, m2, k2⟩
        go_wp2
        go_ret
        exact ⟨rfl, m2, chr_trans (Ref02.Chr.of0 K) k2⟩
end
end Go.Proofs.Ytbjiecpkalcfeaa.SlotRef
