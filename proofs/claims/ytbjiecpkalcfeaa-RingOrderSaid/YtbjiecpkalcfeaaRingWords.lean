/- Package ring: events as words; RingWords' walk. -/
import Derived.Test.YtbjiecpkalcfeaaRefUnpack
import Derived.Test.YtbjiecpkalcfeaaPack
import Derived.Deep.RegionHeld3
import Derived.Lib.Hide
namespace Go.Proofs.Ytbjiecpkalcfeaa.RingWords
open Go Go.RowKit Go.Proofs.Ytbjiecpkalcfeaa Go.Proofs.Ytbjiecpkalcfeaa.Heap Go.Proofs.Ytbjiecpkalcfeaa.Bits Go.Proofs.Ytbjiecpkalcfeaa.Field Go.Proofs.Ytbjiecpkalcfeaa.Places Go.Proofs.Ytbjiecpkalcfeaa.Parts Go.Proofs.Ytbjiecpkalcfeaa.Unpack

abbrev evV (k t : Int) : Value := .agg #[.int .i64 k, .int .i64 t]
abbrev evC (k t : Int) : Array Value := #[.int .i64 k, .int .i64 t]
theorem blk2 {w : World} {g t : Nat} {a b : Value} (h : Blk w g t #[a, b]) : w.cell? ⟨g, 0, none⟩ = some a ∧ w.cell? ⟨g, 1, none⟩ = some b := ⟨h.cell 0, h.cell 1⟩
/-- May an event be? -/
def rightE (k t : Int) : Bool := decide (1 ≤ k ∧ k ≤ 6 ∧ 0 ≤ t ∧ t < 64)
def errE (b : Bool) : Int := if b then 0 else 1
theorem right_bd {k t : Int} (h : rightE k t = true) : 1 ≤ k ∧ k ≤ 6 ∧ 0 ≤ t ∧ t < 64 := of_decide_eq_true h
section
set_option maxRecDepth 100000
set_option maxHeartbeats 1000000
theorem check_ok (k t : Int) (w : World) : Calls Try.prog 13 #[evV k t] w fun e w' => e = .returned (.int .i64 (errE (rightE k t))) ∧ Chg [] w w' := by
  go_enter Try.func13, Try.ntmps13
  go_wp2
  all_goals go_ret
  all_goals refine ⟨congrArg (fun x => Ending.returned (.int .i64 x)) ?_, (Chg.refl [] w).alloc _⟩
  all_goals (unfold errE rightE; first | (rw [decide_eq_false (by omega)]; rfl) | (rw [decide_eq_true (by omega)]; rfl))
end
abbrev W2 : List Int := [4, 6]
abbrev w2C : Array Value := #[.int .i64 4, .int .i64 6]
theorem all2 : AllCan W2 2 := by decide
theorem pack2 {k t : Int} (h : rightE k t = true) : packS W2 [k, t] = (k + t * 16, 0) := by
  obtain ⟨k0, k1, t0, t1⟩ := right_bd h
  have hf : FitAll W2 [k, t] 2 := by
    intro j hj
    have : j = 0 ∨ j = 1 := by omega
    rcases this with rfl | rfl <;> (unfold fitsB; simp; omega)
  unfold packS
  rw [if_pos ⟨all2, hf⟩]
  refine Prod.ext ?_ rfl
  simp [accS, wd, st, sumTo]
  omega
theorem unp2 {u : Int} (h0 : 0 ≤ u) (h1 : u < 18446744073709551616) : (UnpOk W2 u ↔ u < 1024) ∧ partsL W2 u 2 = [u % 16, u / 16 % 64] := by
  obtain ⟨n, rfl⟩ := Int.eq_ofNat_of_zero_le h0
  constructor
  · unfold UnpOk
    rw [show W2.length = 2 from rfl]
    have : fitsB (n : Int) (sumTo W2 2) = decide (n < 1024) := by
      unfold fitsB; simp [sumTo]
    rw [this, decide_eq_true_eq]
    constructor
    · intro h; have := h.2; omega
    · intro h; exact ⟨all2, by omega⟩
  · simp [partsL, List.range, List.range.loop, Parts.partAt, getN, st, wd, sumTo]
theorem nums2 {w : World} {b ty : Nat} (h : Blk w b ty w2C) : Nums w .i64 (some ⟨b, 0, none⟩) 2 W2 := by
  refine Nums.of_blk (xs := W2) h (by decide) ?_
  intro j hj
  have : j = 0 ∨ j = 1 := by simp at hj; omega
  rcases this with rfl | rfl <;> rfl
theorem numsOf2 {W : World} {b ty : Nat} {k t : Int} (h : Blk W b ty #[.int .u64 k, .int .u64 t]) : Nums W .u64 (some ⟨b, 0, none⟩) 2 [k, t] := by
  refine Nums.of_blk (xs := [k, t]) h (by simp) ?_
  intro j hj
  have : j = 0 ∨ j = 1 := by simp at hj; omega
  rcases this with rfl | rfl <;> rfl
set_option maxRecDepth 100000 in
theorem widths_ok (w : World) : Calls Try.prog 87 #[] w fun e w' => ∃ g, e = .returned (.slice (some ⟨g, 0, none⟩) 2 2) ∧ Blk w' g 3 w2C ∧ w.heap.size ≤ g ∧ Chg [] w w' := by
  go_enter Try.func87, Try.ntmps87
  go_wp2
  go_ret
  exact ⟨w.heap.size, rfl, Blk.new w 3 w2C, Nat.le_refl _, (Chg.refl [] w).alloc _⟩

def wordE (k t : Int) : Int := if rightE k t then k + t * 16 else 0
set_option maxRecDepth 100000 in
set_option maxHeartbeats 4000000 in
theorem word_ok (k t : Int) (w : World) : Calls Try.prog 57 #[evV k t] w fun e w' => e = .returned (.tuple #[.int .u64 (wordE k t), .int .i64 (errE (rightE k t))]) ∧ Chg [] w w' := by
  have HR := check_ok k t
  have hp := fun q => pack2 (k := k) (t := t) q
  have hb := fun q => right_bd (k := k) (t := t) q
  unfold wordE
  generalize rightE k t = R at *
  obtain ⟨b, eb⟩ : ∃ b, w.heap.size = b := ⟨_, rfl⟩
  have B := Blk.new' w 32 (evC k t) eb
  have K := (Chg.refl [] w).alloc (.cells (evC k t) 32)
  have HR' := Lib.hid HR
  clear HR
  cases R with
  | false =>
    clear hp hb
    obtain ⟨c0, c1⟩ := blk2 B
    go_enter Try.func57, Try.ntmps57
    go_wp2_with (go_at_call 13; refine Calls.mono (HR'.out _) ?_; rintro e w1 ⟨rfl, k1⟩; replace K := K.trans k1 (by simp))
    go_ret2
    exact ⟨rfl, K⟩
  | true =>
    have HP := Lib.hid (hp rfl)
    obtain ⟨m0, m1, m2, m3⟩ := hb rfl
    rw [if_pos rfl]
    generalize k + t * 16 = cw at *
    have v0 : IntKind.u64.wrap k = k := by rw [IntKind.wrap_u64]; omega
    have v1 : IntKind.u64.wrap t = t := by rw [IntKind.wrap_u64]; omega
    have HVS : Hid (∀ x ∈ [k, t], 0 ≤ x ∧ x < 18446744073709551616) := by
      intro x hx
      simp at hx
      rcases hx with rfl | rfl <;> omega
    clear hp hb
    obtain ⟨c0, c1⟩ := blk2 B
    go_enter Try.func57, Try.ntmps57
    go_wp2_with fail
    refine Calls.mono (HR'.out _) ?_
    rintro e w1 ⟨rfl, k1⟩
    replace B := B.chg k1 (by simp)
    replace K := K.trans k1 (by simp)
    clear k1 c0 c1
    go_wp2_with fail
    replace B := B.drew
    replace K := K.drew
    go_region_held3 (fun V => V.cell? ⟨b, 0, none⟩ = some (.int .i64 k) ∧ V.cell? ⟨b, 1, none⟩ = some (.int .i64 t)) (first | exact ⟨B.cell 0, B.cell 1⟩ | exact ⟨(B.alloc (.cells #[.int .u64 k, .int .u64 t] 102)).cell 0, (B.alloc (.cells #[.int .u64 k, .int .u64 t] 102)).cell 1⟩)
      (first
        | (go_at_call 87; refine Calls.mono (widths_ok w1.drew) ?_; rintro e' w2 ⟨y, rfl, bg, hyg, k2⟩; replace B := B.chg k2 (by simp); replace K := K.trans k2 (by simp))
        | (go_at_call 87; refine Calls.mono (widths_ok (w1.drew.alloc (.cells #[.int .u64 k, .int .u64 t] 102))) ?_; rintro e' w2 ⟨y, rfl, bg, hyg, k2⟩; have nv := numsOf2 ((Blk.new w1.drew 102 #[.int .u64 k, .int .u64 t]).chg k2 (by simp)); replace B := (B.alloc (.cells #[.int .u64 k, .int .u64 t] 102)).chg k2 (by simp); replace K := (K.alloc (.cells #[.int .u64 k, .int .u64 t] 102)).trans k2 (by simp))
        | (go_at_call 86; have hq := Pack.pack_ok (some ⟨y, 0, none⟩) (some ⟨w1.drew.heap.size, 0, none⟩) 2 2 2 2 W2 [k, t] w2 (nums2 bg) nv rfl HVS.out; rw [packV_eq (ns := W2) HVS.out rfl, HP.out] at hq; refine Calls.mono hq ?_; rintro e' w6 ⟨rfl, k6⟩; replace B := B.chg k6 (by simp); replace K := K.trans k6 (by simp))
        | (go_at_call 86; have hq := Pack.pack_ok (some ⟨y, 0, none⟩) (some ⟨w2.heap.size, 0, none⟩) 2 2 2 2 W2 [k, t] (w2.alloc (.cells #[.int .u64 k, .int .u64 t] 102)) (nums2 (bg.alloc (.cells #[.int .u64 k, .int .u64 t] 102))) (numsOf2 (Blk.new w2 102 #[.int .u64 k, .int .u64 t])) rfl HVS.out; rw [packV_eq (ns := W2) HVS.out rfl, HP.out] at hq; refine Calls.mono hq ?_; rintro e' w6 ⟨rfl, k6⟩; replace B := (B.alloc (.cells #[.int .u64 k, .int .u64 t] 102)).chg k6 (by simp); replace K := (K.alloc (.cells #[.int .u64 k, .int .u64 t] 102)).trans k6 (by simp)))
    all_goals go_wp2
    all_goals go_ret2
    all_goals exact ⟨rfl, K⟩

def ofOk (u : Int) : Bool := decide (u < 1024) && rightE (u % 16) (u / 16 % 64)
def ofK (u : Int) : Int := if ofOk u then u % 16 else 0
def ofT (u : Int) : Int := if ofOk u then u / 16 % 64 else 0
def ofE (u : Int) : Int := if ofOk u then 0 else 12
set_option maxRecDepth 100000 in
set_option maxHeartbeats 4000000 in
theorem of_ok (u : Int) (w : World) (h0 : 0 ≤ u) (h1 : u < 18446744073709551616) : Calls Try.prog 85 #[.int .u64 u] w fun e w' => e = .returned (.tuple #[evV (ofK u) (ofT u), .int .i64 (ofE u)]) ∧ Chg [] w w' := by
  obtain ⟨b, eb⟩ : ∃ b, w.heap.size = b := ⟨_, rfl⟩
  have B := Blk.new' w 32 (evC 0 0) eb
  have K := (Chg.refl [] w).alloc (.cells (evC 0 0) 32)
  have hun := unp2 h0 h1
  have hU := fun A c W hn => Unpack.unpack_ok A 2 c W2 u W hn h0 h1
  unfold ofK ofT ofE
  by_cases hs : u < 1024
  · have hok : UnpOk W2 u := hun.1.2 hs
    have r1 : unpL W2 u = partsL W2 u W2.length := if_pos hok
    have r2 : unpE W2 u = 0 := if_pos hok
    rw [show W2.length = 2 from rfl, hun.2] at r1
    have hG : ofOk u = rightE (u % 16) (u / 16 % 64) := by unfold ofOk; rw [decide_eq_true hs]; rfl
    rw [hG]
    obtain ⟨z0, z01⟩ : 0 ≤ u % 16 ∧ u % 16 < 16 := by omega
    obtain ⟨z1, z11⟩ : 0 ≤ u / 16 % 64 ∧ u / 16 % 64 < 64 := by omega
    generalize u % 16 = y0 at *
    generalize u / 16 % 64 = y1 at *
    have HUN : Hid (∀ A c W, Nums W .i64 A 2 W2 → Calls Try.prog 93 #[.slice A 2 c, .int .u64 u] W fun e w' => ∃ v, e = .returned (.tuple #[v, .int .i64 0]) ∧ w'.ownsRow 0 102 1 v 2 (nums .u64 [y0, y1]) ∧ (∀ g, v.ownBlock = some g → W.heap.size ≤ g) ∧ Chg [] W w') := fun A c W hn => by
      have := hU A c W hn
      rw [r1, r2] at this
      exact this
    have HR := check_ok y0 y1
    generalize rightE y0 y1 = R at *
    have HR' := Lib.hid HR
    clear HR hU r1 r2 hun hok hG
    have v0 : IntKind.i64.wrap y0 = y0 := by rw [IntKind.wrap_i64]; omega
    have v1 : IntKind.i64.wrap y1 = y1 := by rw [IntKind.wrap_i64]; omega
    go_enter Try.func85, Try.ntmps85
    go_wp2_with (go_at_call 87; refine Calls.mono (widths_ok _) ?_; rintro e w1 ⟨y, rfl, bg, hyg, k1⟩; replace B := B.chg k1 (by simp); replace K := K.trans k1 (by simp))
    refine Calls.mono (HUN.out _ _ _ (nums2 bg)) ?_
    rintro e w2 ⟨v, rfl, o1, q1, k2⟩
    replace B := B.chg k2 (by simp)
    replace K := K.trans k2 (by simp)
    obtain ⟨q, cap, rfl, -, hlq⟩ := o1.form (by decide)
    have d0 : w2.cell? ⟨q, 0, none⟩ = some (.int .u64 y0) := o1.cellAt 0 (by decide)
    have d1 : w2.cell? ⟨q, 1, none⟩ = some (.int .u64 y1) := o1.cellAt 1 (by decide)
    clear k1 k2 HUN o1 q1
    go_wp2
    go_region_held3 (fun V => V.cell? ⟨q, 0, none⟩ = some (.int .u64 y0) ∧ V.cell? ⟨q, 1, none⟩ = some (.int .u64 y1)) (go_keep) (fail)
    obtain ⟨x, ex⟩ : ∃ x, w2.heap.size = x := ⟨_, rfl⟩
    have B3 := (Blk.new' w2 32 (evC y0 y1) ex).drew
    replace B := (B.alloc (.cells (evC y0 y1) 32)).drew
    replace K := (K.alloc (.cells (evC y0 y1) 32)).drew
    obtain ⟨c0, c1⟩ := blk2 B3
    clear d0 d1
    cases R with
    | false =>
      go_wp2_with (go_at_call 13; refine Calls.mono (HR'.out _) ?_; rintro e w1 ⟨rfl, k1⟩; replace B := B.chg k1 (by simp); replace B3 := B3.chg k1 (by simp); replace K := K.trans k1 (by simp); obtain ⟨c0, c1⟩ := blk2 B3; obtain ⟨e0, e1⟩ := blk2 B; have g0 := B.frozen 0; have g1 := B.frozen 1)
      have G := Blk.set_ (Blk.set_ B 0 (.int .i64 0)) 1 (.int .i64 0)
      obtain ⟨q0, q1⟩ := blk2 (a := .int .i64 0) (b := .int .i64 0) G
      refine ⟨rfl, .tuple #[evV 0 0, .int .i64 12], ?_, rfl, (K.setCell (p := ⟨b, 0, none⟩) (.inr (by simp; omega)) _).setCell (p := ⟨b, 1, none⟩) (.inr (by simp; omega)) _⟩
      simp [results, go_sem, q0, q1]
    | true =>
      go_wp2_with (go_at_call 13; refine Calls.mono (HR'.out _) ?_; rintro e w1 ⟨rfl, k1⟩; replace B := B.chg k1 (by simp); replace B3 := B3.chg k1 (by simp); replace K := K.trans k1 (by simp); obtain ⟨c0, c1⟩ := blk2 B3; obtain ⟨e0, e1⟩ := blk2 B; have g0 := B.frozen 0; have g1 := B.frozen 1)
      have G := Blk.set_ (Blk.set_ B 0 (.int .i64 y0)) 1 (.int .i64 y1)
      obtain ⟨q0, q1⟩ := blk2 (a := .int .i64 y0) (b := .int .i64 y1) G
      refine ⟨rfl, .tuple #[evV y0 y1, .int .i64 0], ?_, rfl, (K.setCell (p := ⟨b, 0, none⟩) (.inr (by simp; omega)) _).setCell (p := ⟨b, 1, none⟩) (.inr (by simp; omega)) _⟩
      simp [results, go_sem, q0, q1]
  · have hno : ¬ UnpOk W2 u := fun h => hs (hun.1.1 h)
    have r2 : unpE W2 u = 1 := if_neg hno
    have hG : ofOk u = false := by unfold ofOk; rw [decide_eq_false hs]; rfl
    rw [hG]
    have HUN : Hid (∀ A c W, Nums W .i64 A 2 W2 → Calls Try.prog 93 #[.slice A 2 c, .int .u64 u] W fun e w' => ∃ v, e = .returned (.tuple #[v, .int .i64 1]) ∧ Chg [] W w') := fun A c W hn => by
      have := hU A c W hn
      rw [r2] at this
      exact this.mono fun _ _ ⟨v, h1, _, _, h4⟩ => ⟨v, h1, h4⟩
    clear hU r2 hun hno hG
    go_enter Try.func85, Try.ntmps85
    go_wp2_with (go_at_call 87; refine Calls.mono (widths_ok _) ?_; rintro e w1 ⟨y, rfl, bg, hyg, k1⟩; replace B := B.chg k1 (by simp); replace K := K.trans k1 (by simp))
    refine Calls.mono (HUN.out _ _ _ (nums2 bg)) ?_
    rintro e w2 ⟨v, rfl, k2⟩
    replace B := B.chg k2 (by simp)
    replace K := K.trans k2 (by simp)
    obtain ⟨e0, e1⟩ := blk2 B
    have g0 := B.frozen 0
    have g1 := B.frozen 1
    clear k1 k2 HUN
    go_wp2
    have G := Blk.set_ (Blk.set_ B 0 (.int .i64 0)) 1 (.int .i64 0)
    obtain ⟨q0, q1⟩ := blk2 (a := .int .i64 0) (b := .int .i64 0) G
    refine ⟨rfl, .tuple #[evV 0 0, .int .i64 12], ?_, rfl, (K.setCell (p := ⟨b, 0, none⟩) (.inr (by simp; omega)) _).setCell (p := ⟨b, 1, none⟩) (.inr (by simp; omega)) _⟩
    simp [results, go_sem, q0, q1]

theorem word_of {k t : Int} (h : rightE k t = true) : 0 ≤ wordE k t ∧ wordE k t < 18446744073709551616 ∧ ofK (wordE k t) = k ∧ ofT (wordE k t) = t ∧ ofE (wordE k t) = 0 := by
  obtain ⟨k0, k1, t0, t1⟩ := right_bd h
  have e : wordE k t = k + t * 16 := if_pos h
  have e1 : (k + t * 16) % 16 = k := by omega
  have e2 : (k + t * 16) / 16 % 64 = t := by omega
  have ok : ofOk (k + t * 16) = true := by
    unfold ofOk
    rw [e1, e2, h, decide_eq_true (by omega)]
    rfl
  rw [e]
  refine ⟨by omega, by omega, ?_, ?_, if_pos ok⟩
  · unfold ofK; rw [if_pos ok, e1]
  · unfold ofT; rw [if_pos ok, e2]
theorem of_word {u : Int} (h0 : 0 ≤ u) (h : ofOk u = true) : rightE (ofK u) (ofT u) = true ∧ wordE (ofK u) (ofT u) = u ∧ ofE u = 0 := by
  have e1 : ofK u = u % 16 := if_pos h
  have e2 : ofT u = u / 16 % 64 := if_pos h
  have h' := h
  unfold ofOk at h'
  rw [Bool.and_eq_true, decide_eq_true_iff] at h'
  rw [e1, e2]
  refine ⟨h'.2, ?_, if_pos h⟩
  unfold wordE
  rw [if_pos h'.2]
  omega
theorem of_none {u : Int} (h : ofOk u = false) : ofK u = 0 ∧ ofT u = 0 ∧ ofE u = 12 := by
  have : ¬ ofOk u = true := by rw [h]; decide
  exact ⟨if_neg this, if_neg this, if_neg this⟩
theorem word_same {k t k' t' : Int} (h : rightE k t = true) (h' : rightE k' t' = true) : (wordE k t = wordE k' t') ↔ (k = k' ∧ t = t') := by
  obtain ⟨a1, a2, a3, a4⟩ := right_bd h
  obtain ⟨b1, b2, b3, b4⟩ := right_bd h'
  unfold wordE
  rw [if_pos h, if_pos h']
  omega
section
set_option maxRecDepth 100000
set_option maxHeartbeats 1000000
theorem awake_ok (w : World) : Calls Try.prog 15 #[] w fun e w' => e = .returned (.bool true) ∧ Chg [] w w' := by
  have H1 := Lib.hid (check_ok 0 0)
  have H2 := Lib.hid (check_ok 1 0)
  have K := Chg.refl [] w
  go_enter Try.func15, Try.ntmps15
  go_wp2_with fail
  refine Calls.mono (H1.out _) ?_
  rintro e w1 ⟨rfl, k1⟩
  replace K := K.trans k1 (by simp)
  go_wp2_with fail
  refine Calls.mono (H2.out _) ?_
  rintro e w2 ⟨rfl, k2⟩
  replace K := K.trans k2 (by simp)
  go_wp2
  go_ret
  exact ⟨rfl, K⟩
end
end Go.Proofs.Ytbjiecpkalcfeaa.RingWords
