/- Mappings as words: Put, Get of package pte and of package palanquinref14. -/
import Derived.Test.YtddjkejliogenaaPte
import Derived.Test.YtddjkejliogenaaRefUnpack
import Derived.Deep.RegionHeld3
namespace Go.Proofs.Ytddjkejliogenaa.PteW
open Go Go.RowKit Go.Proofs.Ytddjkejliogenaa Go.Proofs.Ytddjkejliogenaa.Heap Go.Proofs.Ytddjkejliogenaa.Bits Go.Proofs.Ytddjkejliogenaa.Field Go.Proofs.Ytddjkejliogenaa.Places Go.Proofs.Ytddjkejliogenaa.Parts Go.Proofs.Ytddjkejliogenaa.Unpack Go.Proofs.Ytddjkejliogenaa.Pte

abbrev W4 : List Int := [1, 6, 2, 31]
abbrev w4C : Array Value := #[.int .i64 1, .int .i64 6, .int .i64 2, .int .i64 31]
def b2i (b : Bool) : Int := if b then 1 else 0
/-- A mapping's word. -/
def wordOf (on : Bool) (f r t : Int) : Int := b2i on + f * 2 + r * 128 + t * 512
theorem b2i_bd (b : Bool) : 0 ≤ b2i b ∧ b2i b ≤ 1 := by cases b <;> decide
theorem right_bd {on : Bool} {f r t : Int} (h : rightB on f r t = true) : 0 ≤ f ∧ f < 64 ∧ 0 ≤ r ∧ r ≤ 3 ∧ 0 ≤ t ∧ t ≤ 1073741824 := by
  unfold rightB at h
  cases on
  · rw [if_neg (by decide)] at h; have := of_decide_eq_true h; omega
  · rw [if_pos rfl] at h; have := of_decide_eq_true h; omega
theorem all4 : AllCan W4 4 := by decide
theorem pack4 {o f r t : Int} (o0 : 0 ≤ o) (o1 : o ≤ 1) (f0 : 0 ≤ f) (f1 : f < 64) (r0 : 0 ≤ r) (r1 : r ≤ 3) (t0 : 0 ≤ t) (t1 : t < 2147483648) : packS W4 [o, f, r, t] = (o + f * 2 + r * 128 + t * 512, 0) := by
  have hf : FitAll W4 [o, f, r, t] 4 := by
    intro j hj
    have : j = 0 ∨ j = 1 ∨ j = 2 ∨ j = 3 := by omega
    rcases this with rfl | rfl | rfl | rfl <;> (unfold fitsB; simp; omega)
  unfold packS
  rw [if_pos ⟨all4, hf⟩]
  refine Prod.ext ?_ rfl
  simp [accS, wd, st, sumTo]
  omega
theorem pack_right {on : Bool} {f r t : Int} (h : rightB on f r t = true) : packS W4 [b2i on, f, r, t] = (wordOf on f r t, 0) := by
  obtain ⟨h0, h1, h2, h3, h4, h5⟩ := right_bd h
  exact pack4 (b2i_bd on).1 (b2i_bd on).2 h0 h1 h2 h3 h4 (by omega)
theorem unp4 {u : Int} (h0 : 0 ≤ u) (h1 : u < 18446744073709551616) : (UnpOk W4 u ↔ u < 1099511627776) ∧ partsL W4 u 4 = [u % 2, u / 2 % 64, u / 128 % 4, u / 512 % 2147483648] := by
  obtain ⟨n, rfl⟩ := Int.eq_ofNat_of_zero_le h0
  constructor
  · unfold UnpOk
    rw [show W4.length = 4 from rfl]
    have : fitsB (n : Int) (sumTo W4 4) = decide (n < 1099511627776) := by
      unfold fitsB; simp [sumTo]
    rw [this, decide_eq_true_eq]
    constructor
    · intro h; have := h.2; omega
    · intro h; exact ⟨all4, by omega⟩
  · simp [partsL, List.range, List.range.loop, Parts.partAt, getN, st, wd, sumTo]

set_option maxRecDepth 100000 in
theorem widths_ok (w : World) : Calls Try.prog 55 #[] w fun e w' => e = .returned (.agg w4C) ∧ Chg [] w w' := by
  go_enter Try.func55, Try.ntmps55
  go_wp2
  have B := Blk.new w 83 w4C
  obtain ⟨q0, q1, q2, q3⟩ := blk4 B
  refine ⟨rfl, .agg w4C, ?_, rfl, (Chg.refl [] w).alloc _⟩
  simp [results, go_sem, q0, q1, q2, q3]

theorem nums4 {w : World} {b : Nat} (h : Blk w b 83 w4C) : Nums w .i64 (some ⟨b, 0, none⟩) 4 W4 := by
  refine Nums.of_blk (xs := W4) h (by decide) ?_
  intro j hj
  have : j = 0 ∨ j = 1 ∨ j = 2 ∨ j = 3 := by simp at hj; omega
  rcases this with rfl | rfl | rfl | rfl <;> rfl

set_option maxRecDepth 100000 in
theorem packed_ok (B : Option Addr) (c : Nat) (vs : List Int) (w : World) (hv : Nums w .u64 B 4 vs) (hvs : ∀ x ∈ vs, 0 ≤ x ∧ x < 18446744073709551616) :
    Calls Try.prog 54 #[.slice B 4 c] w fun e w' => e = .returned (.tuple #[.int .u64 (packS W4 vs).1, .int .i64 (packS W4 vs).2]) ∧ Chg [] w w' := by
  have HV : Hid (Nums w .u64 B 4 vs) := hv
  have HVS : Hid (∀ x ∈ vs, 0 ≤ x ∧ x < 18446744073709551616) := hvs
  clear hv hvs
  go_enter Try.func54, Try.ntmps54
  go_wp2_with fail
  refine (widths_ok _).mono ?_
  rintro e w1 ⟨rfl, k1⟩
  go_wp2_with fail
  have hB := nums4 (Blk.new w1 83 w4C)
  have k2 : Chg [] w (w1.alloc (.cells w4C 83)) := k1.alloc _
  have hp := Pack.pack_ok (some ⟨w1.heap.size, 0, none⟩) B 4 4 4 c W4 vs _ hB (HV.out.chg k2 (fun _ _ => by simp)) rfl HVS.out
  rw [packV_eq HVS.out (by rw [HV.out.1]; rfl)] at hp
  refine Calls.mono hp ?_
  rintro e w2 ⟨rfl, k3⟩
  have k4 := k2.trans k3 (by simp)
  clear hp hB k1 k2 k3
  go_wp2
  go_ret2
  exact ⟨rfl, k4⟩

theorem numsOf4 {W : World} {b : Nat} {o f r t : Int} (h : Blk W b 31 #[.int .u64 o, .int .u64 f, .int .u64 r, .int .u64 t]) : Nums W .u64 (some ⟨b, 0, none⟩) 4 [o, f, r, t] := by
  refine Nums.of_blk (xs := [o, f, r, t]) h (by simp) ?_
  intro j hj
  have : j = 0 ∨ j = 1 ∨ j = 2 ∨ j = 3 := by simp at hj; omega
  rcases this with rfl | rfl | rfl | rfl <;> rfl

def putWord (on : Bool) (f r t : Int) : Int := if rightB on f r t then wordOf on f r t else 0
set_option maxRecDepth 100000 in
set_option maxHeartbeats 2000000 in
theorem putW_ok (on : Bool) (f r t : Int) (w : World) : Calls Try.prog 17 #[pteV on f r t] w fun e w' => e = .returned (.tuple #[.int .u64 (putWord on f r t), .int .i64 (errB (rightB on f r t))]) ∧ Chg [] w w' := by
  unfold putWord
  have hR := fun h => pack_right (on := on) (f := f) (r := r) (t := t) h
  have hbd := fun h => right_bd (on := on) (f := f) (r := r) (t := t) h
  have HR : ∀ w, Calls Try.prog 53 #[pteV on f r t] w fun e w' => e = .returned (.bool (rightB on f r t)) ∧ Chg [] w w' := right_ok on f r t
  generalize rightB on f r t = R at *
  have HR' : Hid (∀ w, Calls Try.prog 53 #[pteV on f r t] w fun e w' => e = .returned (.bool R) ∧ Chg [] w w') := HR
  clear HR
  have B := Blk.new w 23 (pteC on f r t)
  have K := (Chg.refl [] w).alloc (.cells (pteC on f r t) 23)
  cases R with
  | false =>
    clear hR hbd
    go_enter Try.func17, Try.ntmps17
    go_wp2_with (go_at_call 53; refine Calls.mono (HR'.out _) ?_; rintro e w1 ⟨rfl, k1⟩; replace K := K.trans k1 (by simp))
    go_ret2
    exact ⟨rfl, K⟩
  | true =>
    have HP : Hid (packS W4 [b2i on, f, r, t] = (wordOf on f r t, 0)) := hR rfl
    obtain ⟨f0, f1, r0, r1, t0, t1⟩ := hbd rfl
    have hvs : ∀ x ∈ [b2i on, f, r, t], 0 ≤ x ∧ x < 18446744073709551616 := by
      have := b2i_bd on
      intro x hx
      simp at hx
      rcases hx with rfl | rfl | rfl | rfl <;> omega
    have HVS : Hid (∀ x ∈ [b2i on, f, r, t], 0 ≤ x ∧ x < 18446744073709551616) := hvs
    rw [if_pos rfl]
    have HW : Hid (∀ z, z = wordOf on f r t → z = wordOf on f r t) := fun _ h => h
    clear hR hbd hvs
    cases on with
    | false =>
      go_enter Try.func17, Try.ntmps17
      go_wp2_with (go_at_call 53; refine Calls.mono (HR'.out _) ?_; rintro e w1 ⟨rfl, k1⟩; replace B := B.chg k1 (by simp); replace K := K.trans k1 (by simp); obtain ⟨c0, c1, c2, c3⟩ := blk4 B)
      have hN := numsOf4 (W := w1.alloc (.cells #[.int .u64 (b2i false), .int .u64 f, .int .u64 r, .int .u64 t] 31)) (Blk.new w1 _ _)
      refine Calls.mono (packed_ok _ _ [b2i false, f, r, t] _ hN HVS.out) ?_
      rintro e w2 ⟨rfl, k2⟩
      rw [HP.out]
      have K2 := (K.alloc (.cells #[.int .u64 (b2i false), .int .u64 f, .int .u64 r, .int .u64 t] 31)).trans k2 (by simp)
      clear hN k2 k1 K B
      go_wp2
      go_ret2
      exact ⟨rfl, K2⟩
    | true =>
      go_enter Try.func17, Try.ntmps17
      go_wp2_with (go_at_call 53; refine Calls.mono (HR'.out _) ?_; rintro e w1 ⟨rfl, k1⟩; replace B := B.chg k1 (by simp); replace K := K.trans k1 (by simp); obtain ⟨c0, c1, c2, c3⟩ := blk4 B)
      have hN := numsOf4 (W := w1.alloc (.cells #[.int .u64 (b2i true), .int .u64 f, .int .u64 r, .int .u64 t] 31)) (Blk.new w1 _ _)
      refine Calls.mono (packed_ok _ _ [b2i true, f, r, t] _ hN HVS.out) ?_
      rintro e w2 ⟨rfl, k2⟩
      rw [HP.out]
      have K2 := (K.alloc (.cells #[.int .u64 (b2i true), .int .u64 f, .int .u64 r, .int .u64 t] 31)).trans k2 (by simp)
      clear hN k2 k1 K B
      go_wp2
      go_ret2
      exact ⟨rfl, K2⟩

def getOk (u : Int) : Bool := decide (u < 1099511627776) && rightB (u % 2 == 1) (u / 2 % 64) (u / 128 % 4) (u / 512 % 2147483648)
/-- What Get hands back. -/
def getV (u : Int) : Value := if getOk u then pteV (u % 2 == 1) (u / 2 % 64) (u / 128 % 4) (u / 512 % 2147483648) else pteV false 0 0 0
def getE (u : Int) : Int := if getOk u then 0 else 12

set_option maxRecDepth 100000 in
set_option maxHeartbeats 2000000 in
theorem getW_ok (u : Int) (w : World) (h0 : 0 ≤ u) (h1 : u < 18446744073709551616) : Calls Try.prog 18 #[.int .u64 u] w fun e w' => e = .returned (.tuple #[getV u, .int .i64 (getE u)]) ∧ Chg [] w w' := by
  obtain ⟨b, eb⟩ : ∃ b, w.heap.size = b := ⟨_, rfl⟩
  have B := Blk.new' w 23 (pteC false 0 0 0) eb
  have K := (Chg.refl [] w).alloc (.cells (pteC false 0 0 0) 23)
  have hun := unp4 h0 h1
  have hU := fun A c W hn => Unpack.unpack_ok A 4 c W4 u W hn h0 h1
  by_cases hs : u < 1099511627776
  · have hok : UnpOk W4 u := hun.1.2 hs
    obtain ⟨r1, r2⟩ := RefUnpack.unp_good hok
    rw [show W4.length = 4 from rfl, hun.2] at r1
    have hG : getOk u = rightB (u % 2 == 1) (u / 2 % 64) (u / 128 % 4) (u / 512 % 2147483648) := by unfold getOk; rw [decide_eq_true hs]; rfl
    unfold getV getE
    rw [hG]
    have z0 : 0 ≤ u % 2 ∧ u % 2 < 2 := by omega
    have z1 : 0 ≤ u / 2 % 64 ∧ u / 2 % 64 < 64 := by omega
    have z2 : 0 ≤ u / 128 % 4 ∧ u / 128 % 4 < 4 := by omega
    have z3 : 0 ≤ u / 512 % 2147483648 ∧ u / 512 % 2147483648 < 2147483648 := by omega
    generalize u % 2 = y0 at *
    generalize u / 2 % 64 = y1 at *
    generalize u / 128 % 4 = y2 at *
    generalize u / 512 % 2147483648 = y3 at *
    obtain ⟨on, eon⟩ : ∃ on, (y0 == 1) = on := ⟨_, rfl⟩
    rw [eon]
    have HUN : Hid (∀ A c W, Nums W .i64 A 4 W4 → Calls Try.prog 56 #[.slice A 4 c, .int .u64 u] W fun e w' => ∃ v, e = .returned (.tuple #[v, .int .i64 0]) ∧ w'.ownsRow 0 31 1 v 4 (nums .u64 [y0, y1, y2, y3]) ∧ (∀ g, v.ownBlock = some g → W.heap.size ≤ g) ∧ Chg [] W w') := fun A c W hn => by
      have := hU A c W hn
      rw [r1, r2] at this
      exact this
    have HR : ∀ w, Calls Try.prog 53 #[pteV on y1 y2 y3] w fun e w' => e = .returned (.bool (rightB on y1 y2 y3)) ∧ Chg [] w w' := right_ok on y1 y2 y3
    generalize rightB on y1 y2 y3 = R at *
    have HR' : Hid (∀ w, Calls Try.prog 53 #[pteV on y1 y2 y3] w fun e w' => e = .returned (.bool R) ∧ Chg [] w w') := HR
    clear HR hU r1 r2 hun hok hG
    obtain ⟨z00, z01⟩ := z0
    obtain ⟨z10, z11⟩ := z1
    obtain ⟨z20, z21⟩ := z2
    obtain ⟨z30, z31⟩ := z3
    go_enter Try.func18, Try.ntmps18
    go_wp2_with (go_at_call 55; refine Calls.mono (widths_ok _) ?_; rintro e w1 ⟨rfl, k1⟩; replace B := B.chg k1 (by simp); replace K := K.trans k1 (by simp))
    have hN := nums4 (Blk.new w1 83 w4C)
    refine Calls.mono (HUN.out _ _ _ hN) ?_
    rintro e w2 ⟨v, rfl, o1, q1, k2⟩
    replace B := (B.alloc (.cells w4C 83)).chg k2 (by simp)
    replace K := (K.alloc (.cells w4C 83)).trans k2 (by simp)
    obtain ⟨q, cap, rfl, -, hlq⟩ := o1.form (by decide)
    have d0 : w2.cell? ⟨q, 0, none⟩ = some (.int .u64 y0) := o1.cellAt 0 (by decide)
    have d1 : w2.cell? ⟨q, 1, none⟩ = some (.int .u64 y1) := o1.cellAt 1 (by decide)
    have d2 : w2.cell? ⟨q, 2, none⟩ = some (.int .u64 y2) := o1.cellAt 2 (by decide)
    have d3 : w2.cell? ⟨q, 3, none⟩ = some (.int .u64 y3) := o1.cellAt 3 (by decide)
    clear k1 k2 hN HUN o1 q1
    have v1 : IntKind.i64.wrap y1 = y1 := by rw [IntKind.wrap_i64]; omega
    have v2 : IntKind.i64.wrap y2 = y2 := by rw [IntKind.wrap_i64]; omega
    have v3 : IntKind.i64.wrap y3 = y3 := by rw [IntKind.wrap_i64]; omega
    go_wp2
    go_region_held3 (fun V => V.cell? ⟨q, 0, none⟩ = some (.int .u64 y0) ∧ V.cell? ⟨q, 1, none⟩ = some (.int .u64 y1) ∧ V.cell? ⟨q, 2, none⟩ = some (.int .u64 y2) ∧ V.cell? ⟨q, 3, none⟩ = some (.int .u64 y3)) (go_keep) (fail)
    obtain ⟨x, ex⟩ : ∃ x, w2.heap.size = x := ⟨_, rfl⟩
    have B3 := (Blk.new' w2 23 (pteC on y1 y2 y3) ex).drew
    replace B := (B.alloc (.cells (pteC on y1 y2 y3) 23)).drew
    replace K := (K.alloc (.cells (pteC on y1 y2 y3) 23)).drew
    obtain ⟨c0, c1, c2, c3⟩ := blk4 B3
    clear d0 d1 d2 d3
    cases R with
    | false =>
      go_wp2_with (go_at_call 53; refine Calls.mono (HR'.out _) ?_; rintro e w1 ⟨rfl, k1⟩; replace B := B.chg k1 (by simp); replace B3 := B3.chg k1 (by simp); replace K := K.trans k1 (by simp); obtain ⟨c0, c1, c2, c3⟩ := blk4 B3; obtain ⟨e0, e1, e2, e3⟩ := blk4 B; have g0 := B.frozen 0; have g1 := B.frozen 1; have g2 := B.frozen 2; have g3 := B.frozen 3)
      have G := Blk.set_ (Blk.set_ (Blk.set_ (Blk.set_ B 0 (.bool false)) 1 (.int .i64 0)) 2 (.int .i64 0)) 3 (.int .i64 0)
      obtain ⟨q0, q1, q2, q3⟩ := blk4 (a := .bool false) (b := .int .i64 0) (c := .int .i64 0) (d := .int .i64 0) G
      refine ⟨rfl, .tuple #[pteV false 0 0 0, .int .i64 12], ?_, rfl, (((K.setCell (p := ⟨b, 0, none⟩) (.inr (by simp; omega)) _).setCell (p := ⟨b, 1, none⟩) (.inr (by simp; omega)) _).setCell (p := ⟨b, 2, none⟩) (.inr (by simp; omega)) _).setCell (p := ⟨b, 3, none⟩) (.inr (by simp; omega)) _⟩
      simp [results, go_sem, q0, q1, q2, q3]
    | true =>
      go_wp2_with (go_at_call 53; refine Calls.mono (HR'.out _) ?_; rintro e w1 ⟨rfl, k1⟩; replace B := B.chg k1 (by simp); replace B3 := B3.chg k1 (by simp); replace K := K.trans k1 (by simp); obtain ⟨c0, c1, c2, c3⟩ := blk4 B3; obtain ⟨e0, e1, e2, e3⟩ := blk4 B; have g0 := B.frozen 0; have g1 := B.frozen 1; have g2 := B.frozen 2; have g3 := B.frozen 3)
      have G := Blk.set_ (Blk.set_ (Blk.set_ (Blk.set_ B 0 (.bool on)) 1 (.int .i64 y1)) 2 (.int .i64 y2)) 3 (.int .i64 y3)
      obtain ⟨q0, q1, q2, q3⟩ := blk4 (a := .bool on) (b := .int .i64 y1) (c := .int .i64 y2) (d := .int .i64 y3) G
      refine ⟨rfl, .tuple #[pteV on y1 y2 y3, .int .i64 0], ?_, rfl, (((K.setCell (p := ⟨b, 0, none⟩) (.inr (by simp; omega)) _).setCell (p := ⟨b, 1, none⟩) (.inr (by simp; omega)) _).setCell (p := ⟨b, 2, none⟩) (.inr (by simp; omega)) _).setCell (p := ⟨b, 3, none⟩) (.inr (by simp; omega)) _⟩
      simp [results, go_sem, q0, q1, q2, q3]
  · have hno : ¬ UnpOk W4 u := fun h => hs (hun.1.1 h)
    obtain ⟨r1, r2⟩ := RefUnpack.unp_bad hno
    have hG : getOk u = false := by unfold getOk; rw [decide_eq_false hs]; rfl
    unfold getV getE
    rw [hG]
    have HUN : Hid (∀ A c W, Nums W .i64 A 4 W4 → Calls Try.prog 56 #[.slice A 4 c, .int .u64 u] W fun e w' => ∃ v, e = .returned (.tuple #[v, .int .i64 1]) ∧ Chg [] W w') := fun A c W hn => by
      have := hU A c W hn
      rw [r2] at this
      exact this.mono fun _ _ ⟨v, h1, _, _, h4⟩ => ⟨v, h1, h4⟩
    clear hU r1 r2 hun hno hG
    go_enter Try.func18, Try.ntmps18
    go_wp2_with (go_at_call 55; refine Calls.mono (widths_ok _) ?_; rintro e w1 ⟨rfl, k1⟩; replace B := B.chg k1 (by simp); replace K := K.trans k1 (by simp))
    have hN := nums4 (Blk.new w1 83 w4C)
    refine Calls.mono (HUN.out _ _ _ hN) ?_
    rintro e w2 ⟨v, rfl, k2⟩
    replace B := (B.alloc (.cells w4C 83)).chg k2 (by simp)
    replace K := (K.alloc (.cells w4C 83)).trans k2 (by simp)
    obtain ⟨e0, e1, e2, e3⟩ := blk4 B
    have g0 := B.frozen 0
    have g1 := B.frozen 1
    have g2 := B.frozen 2
    have g3 := B.frozen 3
    clear k1 k2 hN HUN
    go_wp2
    have G := Blk.set_ (Blk.set_ (Blk.set_ (Blk.set_ B 0 (.bool false)) 1 (.int .i64 0)) 2 (.int .i64 0)) 3 (.int .i64 0)
    obtain ⟨q0, q1, q2, q3⟩ := blk4 (a := .bool false) (b := .int .i64 0) (c := .int .i64 0) (d := .int .i64 0) G
    refine ⟨rfl, .tuple #[pteV false 0 0 0, .int .i64 12], ?_, rfl, (((K.setCell (p := ⟨b, 0, none⟩) (.inr (by simp; omega)) _).setCell (p := ⟨b, 1, none⟩) (.inr (by simp; omega)) _).setCell (p := ⟨b, 2, none⟩) (.inr (by simp; omega)) _).setCell (p := ⟨b, 3, none⟩) (.inr (by simp; omega)) _⟩
    simp [results, go_sem, q0, q1, q2, q3]
end Go.Proofs.Ytddjkejliogenaa.PteW
