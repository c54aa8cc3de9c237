/- Package slot: Get and Put, at any frame and any number. -/
import Derived.Test.YtbjiecpkalcfeaaSlot
namespace Go.Proofs.Ytbjiecpkalcfeaa.SlotGen
open Go Go.RowKit Go.Proofs.Ytbjiecpkalcfeaa Go.Proofs.Ytbjiecpkalcfeaa.Heap Go.Proofs.Ytbjiecpkalcfeaa.Bits Go.Proofs.Ytbjiecpkalcfeaa.Cap Go.Proofs.Ytbjiecpkalcfeaa.CapPut Go.Proofs.Ytbjiecpkalcfeaa.CapGet Go.Proofs.Ytbjiecpkalcfeaa.Mem Go.Proofs.Ytbjiecpkalcfeaa.Two Go.Proofs.Ytbjiecpkalcfeaa.Slot

/-- Is there such a slot? -/
abbrev thereB (n : Nat) (f i : Int) : Prop := (0 ≤ i ∧ i < 16) ∧ (0 ≤ f ∧ f < n)
def gV (n : Nat) (L : List Int) (f i : Int) : Value := if thereB n f i then sgV n L f i else capV 0 0 0 0 0 0
def gE (n : Nat) (L : List Int) (f i : Int) : Int := if thereB n f i then sgE n L f i else 1
theorem gV_form (n : Nat) (L : List Int) (f i : Int) : ∃ k r t l e a, gV n L f i = capV k r t l e a := by
  unfold gV
  split
  · exact getCV_form _ _
  · exact ⟨_, _, _, _, _, _, rfl⟩
section
set_option maxRecDepth 100000
set_option maxHeartbeats 2000000
theorem get_any {w : World} {p g n : Nat} {L : List Int} (h : MemAt w p g n L) (hu : U64 L) (f i : Int) :
    Calls Try.prog 38 #[.pointer (some ⟨p, 0, none⟩), .int .i64 f, .int .i64 i] w fun e w' => e = .returned (.tuple #[gV n L f i, .int .i64 (gE n L f i)]) ∧ Chg [] w w' := by
  unfold gV gE
  by_cases ht : thereB n f i
  · rw [if_pos ht, if_pos ht]
    exact get_ok h hu f i ht.2.1 ht.2.2 ht.1.1 ht.1.2
  · rw [if_neg ht, if_neg ht]
    obtain ⟨d, ed⟩ : ∃ d, w.heap.size = d := ⟨_, rfl⟩
    have D := Blk.new' w 70 (capC 0 0 0 0 0 0) ed
    have m := h.alloc (.cells (capC 0 0 0 0 0 0) 70)
    have K := (Chg.refl [] w).alloc (.cells (capC 0 0 0 0 0 0) 70)
    have HI := is_ok i
    obtain ⟨d0, d1, d2, d3, d4, d5⟩ := blk6 D
    have g0 := D.frozen 0
    have g1 := D.frozen 1
    have g2 := D.frozen 2
    have g3 := D.frozen 3
    have g4 := D.frozen 4
    have g5 := D.frozen 5
    by_cases hi : 0 ≤ i ∧ i < 16
    · have hf : ¬ (0 ≤ f ∧ f < n) := fun q => ht ⟨hi, q⟩
      rw [decide_eq_true hi] at HI
      have HI' := Lib.hid HI
      have HA := Lib.hid (at_ok i hi.1 hi.2)
      have C1 := fun (W : World) (q : MemAt W p g n L) => Mem.load_ok q f (4 + 2 * i)
      rw [Mem.canE_no (fun q => hf ⟨q.1, q.2.1⟩)] at C1
      generalize ldV n L f (4 + 2 * i) = x at *
      have HC1 := Lib.hid C1
      clear HI C1 h ht hf hi
      go_enter Try.func38, Try.ntmps38
      go_wp2_with fail
      refine Calls.mono (HI'.out _) ?_
      rintro e' w1 ⟨rfl, rfl⟩
      go_wp2_with fail
      refine Calls.mono (HA.out _) ?_
      rintro e' w1 ⟨rfl, rfl⟩
      go_wp2_with fail
      refine Calls.mono (HC1.out _ m) ?_
      rintro e' w1 ⟨rfl, rfl⟩
      go_wp2_with fail
      refine ⟨rfl, .tuple #[capV 0 0 0 0 0 0, .int .i64 1], ?_, rfl, K⟩
      simp [results, go_sem, d0, d1, d2, d3, d4, d5]
    · rw [decide_eq_false hi] at HI
      have HI' := Lib.hid HI
      clear HI h ht hi m
      go_enter Try.func38, Try.ntmps38
      go_wp2_with fail
      refine Calls.mono (HI'.out _) ?_
      rintro e' w1 ⟨rfl, rfl⟩
      go_wp2_with fail
      refine ⟨rfl, .tuple #[capV 0 0 0 0 0 0, .int .i64 1], ?_, rfl, K⟩
      simp [results, go_sem, d0, d1, d2, d3, d4, d5]
/-- What Put answers, and the words behind it. -/
def pE (n : Nat) (f i k r t l e a : Int) : Int := if thereB n f i ∧ rightC k r t l e a = true then 0 else 1
def pL (n : Nat) (L : List Int) (f i k r t l e a : Int) : List Int := if thereB n f i ∧ rightC k r t l e a = true then spL n L f i (CapW.capWord k r t l e) a else L
theorem put_gen {w : World} {p g n : Nat} {L : List Int} (h : MemAt w p g n L) (f i k r t l e a : Int) : Calls Try.prog 35 #[.pointer (some ⟨p, 0, none⟩), .int .i64 f, .int .i64 i, capV k r t l e a] w fun e' w' => e' = .returned (.int .i64 (pE n f i k r t l e a)) ∧ MemAt w' p g n (pL n L f i k r t l e a) ∧ Chg [g] w w' := by
  unfold pE pL
  by_cases hi : 0 ≤ i ∧ i < 16
  · cases hR : rightC k r t l e a with
    | false =>
      rw [if_neg (fun q => by cases q.2), if_neg (fun q => by cases q.2)]
      refine Calls.mono (put_bad f i k r t l e a hi.1 hi.2 hR) ?_
      rintro e' w' ⟨rfl, kk⟩
      exact ⟨rfl, h.chg0 kk, kk.of_nil⟩
    | true =>
      by_cases hf : 0 ≤ f ∧ f < n
      · rw [if_pos ⟨⟨hi, hf⟩, rfl⟩, if_pos ⟨⟨hi, hf⟩, rfl⟩]
        exact put_ok h f i k r t l e a hf.1 hf.2 hi.1 hi.2 hR
      · rw [if_neg (fun q => hf q.1.2), if_neg (fun q => hf q.1.2)]
        have HI := is_ok i
        rw [decide_eq_true hi] at HI
        have HI' := Lib.hid HI
        have HP := putC_ok k r t l e a
        rw [hR] at HP
        generalize putC1 k r t l e a = x at *
        generalize putC2 k r t l e a = y at *
        have HP' : Hid (∀ w, Calls Try.prog 68 #[capV k r t l e a] w fun e' w' => e' = .returned (.tuple #[.int .u64 x, .int .u64 y, .int .i64 0]) ∧ Chg [] w w') := HP
        have HA := Lib.hid (at_ok i hi.1 hi.2)
        have C1 := fun (W : World) (q : MemAt W p g n L) => Mem.store_ok q f (4 + 2 * i) x
        rw [Mem.canE_no (fun q => hf ⟨q.1, q.2.1⟩), show stL n L f (4 + 2 * i) x = L from if_neg (fun q => hf ⟨q.1, q.2.1⟩)] at C1
        have HC1 := Lib.hid C1
        have B := Blk.new w 70 (capC k r t l e a)
        have m := h.alloc (.cells (capC k r t l e a) 70)
        have K := (Chg.refl [g] w).alloc (.cells (capC k r t l e a) 70)
        obtain ⟨c0, c1, c2, c3, c4, c5⟩ := blk6 B
        clear HI HP hR C1 h hf hi
        go_enter Try.func35, Try.ntmps35
        go_wp2_with fail
        refine Calls.mono (HI'.out _) ?_
        rintro e' w1 ⟨rfl, rfl⟩
        go_wp2_with fail
        refine Calls.mono (HP'.out _) ?_
        rintro e' w1 ⟨rfl, kk⟩
        replace K := K.trans kk (by simp)
        replace m := m.chg0 kk
        clear kk c0 c1 c2 c3 c4 c5
        go_wp2_with fail
        refine Calls.mono (HA.out _) ?_
        rintro e' w2 ⟨rfl, rfl⟩
        go_wp2_with fail
        refine Calls.mono (HC1.out _ m) ?_
        rintro e' w2 ⟨rfl, m2, kk⟩
        replace K := K.trans kk (by simp)
        go_wp2
        go_ret
        exact ⟨rfl, m2, K⟩
  · rw [if_neg (fun q => hi q.1.1), if_neg (fun q => hi q.1.1)]
    refine Calls.mono (put_no f i k r t l e a hi) ?_
    rintro e' w' ⟨rfl, kk⟩
    exact ⟨rfl, h.chg0 kk, kk.of_nil⟩
end
end Go.Proofs.Ytbjiecpkalcfeaa.SlotGen
