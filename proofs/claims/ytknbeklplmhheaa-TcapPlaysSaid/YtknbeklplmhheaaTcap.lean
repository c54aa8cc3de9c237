/- Package tcap: in, right, Check, numbers, lay, Get. -/
import Derived.Test.YtknbeklplmhheaaLay
import Derived.Test.YtknbeklplmhheaaBits
namespace Go.Proofs.Ytknbeklplmhheaa.Tcap
open Go Go.RowKit Go.Proofs.Ytknbeklplmhheaa Go.Proofs.Ytknbeklplmhheaa.Heap Go.Proofs.Ytknbeklplmhheaa.Mem Go.Proofs.Ytknbeklplmhheaa.Two Go.Proofs.Ytknbeklplmhheaa.Head Go.Proofs.Ytknbeklplmhheaa.HeadPut Go.Proofs.Ytknbeklplmhheaa.HeadIs Go.Proofs.Ytknbeklplmhheaa.Lay

abbrev tcV (z : Bool) (l p : Int) : Value := .agg #[.bool z, .int .i64 l, .int .i64 p]
abbrev tcC (z : Bool) (l p : Int) : Array Value := #[.bool z, .int .i64 l, .int .i64 p]
abbrev n3C (a b c : Int) : Array Value := #[.int .i64 a, .int .i64 b, .int .i64 c]
theorem blk3 {w : World} {g t : Nat} {a b c : Value} (h : Blk w g t #[a, b, c]) : w.cell? ⟨g, 0, none⟩ = some a ∧ w.cell? ⟨g, 1, none⟩ = some b ∧ w.cell? ⟨g, 2, none⟩ = some c := ⟨h.cell 0, h.cell 1, h.cell 2⟩
def wr3 (W : World) (d : Nat) (x0 x1 x2 : Value) : World := ((W.setCell ⟨d, 0, none⟩ x0).setCell ⟨d, 1, none⟩ x1).setCell ⟨d, 2, none⟩ x2
theorem wr3_blk {W : World} {d t : Nat} {a0 a1 a2 : Value} (D : Blk W d t #[a0, a1, a2]) (x0 x1 x2 : Value) : Blk (wr3 W d x0 x1 x2) d t #[x0, x1, x2] := ((D.set_ 0 x0).set_ 1 x1).set_ 2 x2
theorem wr3_chg {w W : World} {d : Nat} (k : Chg [] w W) (hd : w.heap.size ≤ d) (x0 x1 x2 : Value) : Chg [] w (wr3 W d x0 x1 x2) := ((k.setCell (.inr hd) x0).setCell (.inr hd) x1).setCell (.inr hd) x2
def inI (n a b : Int) : Bool := decide (a ≤ n ∧ n ≤ b)
/-- A budget may be. -/
def rightC (z : Bool) (l p : Int) : Bool := inI l 0 1048576 && (inI p 0 255 && (if z then l == 0 else true))
theorem right_bd {z : Bool} {l p : Int} (h : rightC z l p = true) : 0 ≤ l ∧ l ≤ 1048576 ∧ 0 ≤ p ∧ p ≤ 255 ∧ (z = true → l = 0) := by
  unfold rightC inI at h
  simp only [Bool.and_eq_true, decide_eq_true_eq] at h
  refine ⟨h.1.1, h.1.2, h.2.1.1, h.2.1.2, fun e => ?_⟩
  subst e
  simpa using h.2.2
theorem right_mk {z : Bool} {l p : Int} (h : 0 ≤ l ∧ l ≤ 1048576 ∧ 0 ≤ p ∧ p ≤ 255 ∧ (z = true → l = 0)) : rightC z l p = true := by
  unfold rightC inI
  simp only [Bool.and_eq_true, decide_eq_true_eq]
  refine ⟨⟨h.1, h.2.1⟩, ⟨h.2.2.1, h.2.2.2.1⟩, ?_⟩
  cases z
  · rfl
  · simpa using h.2.2.2.2 rfl
theorem right_u64 {z : Bool} {l p : Int} (h : rightC z l p = true) : U64 [b2i z, l, p] := by
  have := right_bd h
  have hb := b2i_bd z
  intro x hx
  simp at hx
  omega
set_option maxRecDepth 100000
set_option maxHeartbeats 2000000
theorem in_ok (n a b : Int) (w : World) : Calls Try.prog 59 #[.int .i64 n, .int .i64 a, .int .i64 b] w fun e w' => e = .returned (.bool (inI n a b)) ∧ w = w' := by
  unfold inI
  by_cases h1 : a ≤ n
  · by_cases h2 : n ≤ b
    · rw [decide_eq_true (⟨h1, h2⟩ : a ≤ n ∧ n ≤ b)]
      go_enter Try.func59, Try.ntmps59
      go_wp2
      go_ret
      exact ⟨by first | rfl | simp [h1, h2], rfl⟩
    · rw [decide_eq_false (fun q : a ≤ n ∧ n ≤ b => h2 q.2)]
      go_enter Try.func59, Try.ntmps59
      go_wp2
      go_ret
      exact ⟨by first | rfl | (simp; omega), rfl⟩
  · rw [decide_eq_false (fun q : a ≤ n ∧ n ≤ b => h1 q.1)]
    go_enter Try.func59, Try.ntmps59
    go_wp2
    go_ret
    exact ⟨by first | rfl | (simp; omega), rfl⟩
theorem right_ok (z : Bool) (l p : Int) (w : World) : Calls Try.prog 56 #[tcV z l p] w fun x w' => x = .returned (.bool (rightC z l p)) ∧ Chg [] w w' := by
  have e0 : rightC z l p = (inI l 0 1048576 && (inI p 0 255 && (if z then l == 0 else true))) := rfl
  have I0 := in_ok l 0 1048576
  have I1 := in_ok p 0 255
  generalize rightC z l p = R at *
  generalize inI l 0 1048576 = x0 at *
  generalize inI p 0 255 = x1 at *
  have I0' := Lib.hid I0
  have I1' := Lib.hid I1
  clear I0 I1
  obtain ⟨b, eb⟩ : ∃ p, w.heap.size = p := ⟨_, rfl⟩
  have P := Blk.new' w 23 (tcC z l p) eb
  have K := (Chg.refl [] w).alloc (.cells (tcC z l p) 23)
  obtain ⟨p0, p1, p2⟩ := blk3 P
  clear P
  cases x0
  · have E := Lib.hid e0
    clear e0
    go_enter Try.func56, Try.ntmps56
    go_wp2_with fail
    refine Calls.mono (I0'.out _) ?_
    rintro x w1 ⟨rfl, rfl⟩
    go_wp2
    go_ret
    exact ⟨by rw [E.out]; rfl, K⟩
  · cases x1
    · have E := Lib.hid e0
      clear e0
      go_enter Try.func56, Try.ntmps56
      go_wp2_with fail
      refine Calls.mono (I0'.out _) ?_
      rintro x w1 ⟨rfl, rfl⟩
      go_wp2_with fail
      refine Calls.mono (I1'.out _) ?_
      rintro x w1 ⟨rfl, rfl⟩
      go_wp2
      go_ret
      exact ⟨by rw [E.out]; rfl, K⟩
    · cases z
      all_goals
        have E := Lib.hid e0
        clear e0
        go_enter Try.func56, Try.ntmps56
        go_wp2_with fail
        refine Calls.mono (I0'.out _) ?_
        rintro x w1 ⟨rfl, rfl⟩
        go_wp2_with fail
        refine Calls.mono (I1'.out _) ?_
        rintro x w1 ⟨rfl, rfl⟩
        go_wp2
        go_ret
        exact ⟨by rw [E.out]; rfl, K⟩
theorem check_ok (z : Bool) (l p : Int) (w : World) : Calls Try.prog 11 #[tcV z l p] w fun x w' => x = .returned (.int .i64 (errH (rightC z l p))) ∧ Chg [] w w' := by
  have HR := Tcap.right_ok z l p
  unfold errH
  generalize rightC z l p = R at *
  obtain ⟨b, eb⟩ : ∃ p, w.heap.size = p := ⟨_, rfl⟩
  have P := Blk.new' w 23 (tcC z l p) eb
  have K := (Chg.refl [] w).alloc (.cells (tcC z l p) 23)
  obtain ⟨p0, p1, p2⟩ := blk3 P
  clear P
  cases R
  all_goals
    have HR' := Lib.hid HR
    clear HR
    go_enter Try.func11, Try.ntmps11
    go_wp2_with fail
    refine Calls.mono (HR'.out _) ?_
    rintro x w1 ⟨rfl, k1⟩
    replace K := K.trans k1 (by simp)
    go_wp2
    go_ret
    exact ⟨rfl, K⟩
theorem numbers_ok (z : Bool) (l p : Int) (w : World) : Calls Try.prog 100 #[tcV z l p] w fun x w' => x = .returned (.agg (n3C (b2i z) l p)) ∧ Chg [] w w' := by
  obtain ⟨b, eb⟩ : ∃ p, w.heap.size = p := ⟨_, rfl⟩
  have P := Blk.new' w 23 (tcC z l p) eb
  have K := (Chg.refl [] w).alloc (.cells (tcC z l p) 23)
  obtain ⟨q, eq⟩ : ∃ q, b + 1 = q := ⟨_, rfl⟩
  have Z := Blk.new' (g := q) (w.alloc (.cells (tcC z l p) 23)) 128 (n3C 0 0 0) (by simp; omega)
  have Q := Blk.new' (g := q) (w.alloc (.cells (tcC z l p) 23)) 128 (n3C (b2i z) l p) (by simp; omega)
  have KK := K.alloc (.cells (n3C (b2i z) l p) 128)
  have P2 := P.alloc (.cells (n3C 0 0 0) 128)
  obtain ⟨p0, p1, p2⟩ := blk3 P2
  obtain ⟨z0, z1, z2⟩ := blk3 Z
  have f0 := Z.frozen 0
  have f1 := Z.frozen 1
  have f2 := Z.frozen 2
  obtain ⟨d0, d1, d2⟩ := blk3 Q
  cases z
  · go_enter Try.func100, Try.ntmps100
    go_wp2
    refine ⟨rfl, .agg (n3C 0 l p), ?_, rfl, KK⟩
    simp [b2i] at d0 d1 d2
    simp [results, go_sem, d0, d1, d2]
  · go_enter Try.func100, Try.ntmps100
    go_wp2
    refine ⟨rfl, .agg (n3C 1 l p), ?_, rfl, KK⟩
    simp [b2i] at d0 d1 d2
    simp [results, go_sem, d0, d1, d2]
theorem ix0 (a b c : Value) (w : World) : (Instr.index 128 (.agg #[a, b, c]) (.int .i64 0)).run Try.prog w = .ok a w := by kernel_rfl
theorem ix1 (a b c : Value) (w : World) : (Instr.index 128 (.agg #[a, b, c]) (.int .i64 1)).run Try.prog w = .ok b w := by kernel_rfl
theorem ix2 (a b c : Value) (w : World) : (Instr.index 128 (.agg #[a, b, c]) (.int .i64 2)).run Try.prog w = .ok c w := by kernel_rfl
theorem lay_ok {w : World} {g' g n : Nat} {L : List Int} (h : MemAt w g' g n L) {f : Int} (hf : 0 ≤ f ∧ f < n) (z : Bool) (l p : Int) (hr : rightC z l p = true) :
    Calls Try.prog 58 #[.pointer (some ⟨g', 0, none⟩), .int .i64 f, tcV z l p] w fun x w' => x = .returned (.int .i64 0) ∧ MemAt w' g' g n (layL n L f 4 [b2i z, l, p]) ∧ Chg [g] w w' := by
  obtain ⟨hl0, hl1, hp0, hp1, -⟩ := right_bd hr
  have hz := b2i_bd z
  have HN := numbers_ok z l p
  obtain ⟨b, eb⟩ : ∃ p, w.heap.size = p := ⟨_, rfl⟩
  have P := Blk.new' w 23 (tcC z l p) eb
  have K := (Chg.refl [g] w).alloc (.cells (tcC z l p) 23)
  obtain ⟨p0, p1, p2⟩ := blk3 P
  have M := h.alloc (.cells (tcC z l p) 23)
  generalize b2i z = x0 at *
  have u0 : IntKind.u64.wrap x0 = x0 := by rw [IntKind.wrap_u64]; omega
  have u1 : IntKind.u64.wrap l = l := by rw [IntKind.wrap_u64]; omega
  have u2 : IntKind.u64.wrap p = p := by rw [IntKind.wrap_u64]; omega
  have e0 : canE n f 4 = 0 := canE_ok ⟨hf.1, hf.2, by decide, by decide⟩
  have e1 : canE n f 5 = 0 := canE_ok ⟨hf.1, hf.2, by decide, by decide⟩
  have e2 : canE n f 6 = 0 := canE_ok ⟨hf.1, hf.2, by decide, by decide⟩
  have HN' := Lib.hid HN
  clear h P hl0 hl1 hp0 hp1 hz hf hr HN
  go_enter Try.func58, Try.ntmps58
  go_wp2_with fail
  refine Calls.mono (HN'.out _) ?_
  rintro x w1 ⟨rfl, k1⟩
  replace K := K.trans k1 (by simp)
  replace M := M.chg0 k1
  clear k1 HN' p0 p1 p2
  go_wp2_with fail
  go_loopw [12] (fun i wr => ∃ j : Nat, i = .int .i64 j ∧ j ≤ 3 ∧ Hid (MemAt wr g' g n (layL n L f 4 ([x0, l, p].take j)) ∧ Chg [g] w wr)) (fun i _ => 3 - (intOf i).toNat)
  case atStart => exact ⟨0, rfl, by decide, M, K⟩
  case round =>
    clear M K
    obtain ⟨j, rfl, hj, H⟩ := hrel
    obtain ⟨M, K⟩ := H.out
    clear H
    rcases (by omega : j = 3 ∨ j = 0 ∨ j = 1 ∨ j = 2) with rfl | rfl | rfl | rfl
    · go_wp2
      go_ret
      exact ⟨rfl, M, K⟩
    · have J := fun (w : World) => ix0 (.int .i64 x0) (.int .i64 l) (.int .i64 p) w
      have HS := Mem.store_ok M f 4 x0
      rw [e0] at HS
      have HS' := Lib.hid HS
      clear HS M
      go_wp2_with (go_at_call 70; refine Calls.mono HS'.out ?_; rintro x w2 ⟨rfl, M2, k2⟩)
      clear HS'
      go_roundw
      case rel => exact ⟨1, by go_num, by decide, M2, K.trans k2 (by simp)⟩
      case measure => simp [intOf]
    · have J := fun (w : World) => ix1 (.int .i64 x0) (.int .i64 l) (.int .i64 p) w
      have HS := Mem.store_ok M f 5 l
      rw [e1] at HS
      have HS' := Lib.hid HS
      clear HS M
      go_wp2_with (go_at_call 70; refine Calls.mono HS'.out ?_; rintro x w2 ⟨rfl, M2, k2⟩)
      clear HS'
      go_roundw
      case rel => exact ⟨2, by go_num, by decide, M2, K.trans k2 (by simp)⟩
      case measure => simp [intOf]
    · have J := fun (w : World) => ix2 (.int .i64 x0) (.int .i64 l) (.int .i64 p) w
      have HS := Mem.store_ok M f 6 p
      rw [e2] at HS
      have HS' := Lib.hid HS
      clear HS M
      go_wp2_with (go_at_call 70; refine Calls.mono HS'.out ?_; rintro x w2 ⟨rfl, M2, k2⟩)
      clear HS'
      go_roundw
      case rel => exact ⟨3, by go_num, by decide, M2, K.trans k2 (by simp)⟩
      case measure => simp [intOf]
/-- A frame's words are a budget's. -/
def okT (x0 x1 x2 : Int) : Prop := x0 ≤ 1 ∧ x1 ≤ 1048576 ∧ x2 ≤ 255 ∧ (x0 = 1 → x1 = 0)
instance (x0 x1 x2 : Int) : Decidable (okT x0 x1 x2) := by unfold okT; infer_instance
def tB (n : Nat) (L : List Int) (f : Int) : Prop := isE n L f 5 = 0 ∧ okT (ldV n L f 4) (ldV n L f 5) (ldV n L f 6)
instance (n : Nat) (L : List Int) (f : Int) : Decidable (tB n L f) := by unfold tB; infer_instance
def tZ (n : Nat) (L : List Int) (f : Int) : Bool := if tB n L f then ldV n L f 4 == 1 else false
def tL (n : Nat) (L : List Int) (f : Int) : Int := if tB n L f then ldV n L f 5 else 0
def tP (n : Nat) (L : List Int) (f : Int) : Int := if tB n L f then ldV n L f 6 else 0
def tE (n : Nat) (L : List Int) (f : Int) : Int := if tB n L f then 0 else if isE n L f 5 = 0 then 12 else 4
def tV (n : Nat) (L : List Int) (f : Int) : Value := tcV (tZ n L f) (tL n L f) (tP n L f)
theorem tV_no {n : Nat} {L : List Int} {f : Int} (h : ¬ tB n L f) : tV n L f = tcV false 0 0 := by
  unfold tV tZ tL tP
  rw [if_neg h, if_neg h, if_neg h]
theorem isE_in {n : Nat} {L : List Int} {f k : Int} (h : isE n L f k = 0) : 0 ≤ f ∧ f < n := by
  by_cases hv : 0 ≤ f ∧ f < n
  · exact hv
  · have h0 : okH n L f = false := by unfold okH; rw [decide_eq_false hv]; rfl
    unfold isE ghE at h
    rw [h0] at h
    simp [hv] at h
theorem get_type {w : World} {p g n : Nat} {L : List Int} (h : MemAt w p g n L) (hu : U64 L) (f : Int) (h1 : ¬ isE n L f 5 = 0) : Calls Try.prog 26 #[.pointer (some ⟨p, 0, none⟩), .int .i64 f] w fun x w' => x = .returned (.tuple #[tV n L f, .int .i64 (tE n L f)]) ∧ Chg [] w w' := by
  have hn : ¬ tB n L f := fun q => h1 q.1
  have HN := Lib.hid (⟨tV_no hn, by unfold tE; rw [if_neg hn, if_neg h1]⟩ : tV n L f = tcV false 0 0 ∧ tE n L f = 4)
  have HI0 := fun (W : World) (q : MemAt W p g n L) => HeadIs.is_ok q hu f 5
  have HI := Lib.hid HI0
  clear hn hu HI0
  generalize isE n L f 5 = e at *
  have hb : (e != 0) = true := by rw [bne_iff_ne]; exact h1
  obtain ⟨q, eq⟩ : ∃ q, w.heap.size = q := ⟨_, rfl⟩
  have Q := Blk.new' w 23 (tcC false 0 0) eq
  have hq : w.heap.size ≤ q := by omega
  replace h := h.alloc (.cells (tcC false 0 0) 23)
  have K := (Chg.refl [] w).alloc (.cells (tcC false 0 0) 23)
  go_enter Try.func26, Try.ntmps26
  go_wp2_with fail
  refine Calls.mono (HI.out _ h) ?_
  rintro x w1 ⟨rfl, k1⟩
  replace h := h.chg0 k1
  replace Q := Q.chg k1 (by simp)
  replace K := K.trans k1 (by simp)
  clear k1 eq HI
  clear h
  obtain ⟨q0, q1, q2⟩ := blk3 Q
  have f0 := Q.frozen 0
  have f1 := Q.frozen 1
  have f2 := Q.frozen 2
  have D := wr3_blk (d := q) Q (.bool false) (.int .i64 0) (.int .i64 0)
  have KK := wr3_chg (d := q) K hq (.bool false) (.int .i64 0) (.int .i64 0)
  unfold wr3 at D KK
  obtain ⟨d0, d1, d2⟩ := blk3 D
  go_wp2
  refine ⟨rfl, .tuple #[tcV false 0 0, .int .i64 4], ?_, by rw [HN.out.1, HN.out.2], KK⟩
  simp [results, go_sem, d0, d1, d2]
theorem get_read {w : World} {p g n : Nat} {L : List Int} (h : MemAt w p g n L) (hu : U64 L) (f : Int) (h1 : isE n L f 5 = 0) : Calls Try.prog 26 #[.pointer (some ⟨p, 0, none⟩), .int .i64 f] w fun x w' => x = .returned (.tuple #[tV n L f, .int .i64 (tE n L f)]) ∧ Chg [] w w' := by
  have HI0 := fun (W : World) (q : MemAt W p g n L) => HeadIs.is_ok q hu f 5
  rw [h1] at HI0
  have HI := Lib.hid HI0
  clear HI0
  have hf := isE_in h1
  have HN0 : ¬ okT (ldV n L f 4) (ldV n L f 5) (ldV n L f 6) → tV n L f = tcV false 0 0 ∧ tE n L f = 12 := fun hx => by
    have hn : ¬ tB n L f := fun q => hx q.2
    exact ⟨tV_no hn, by unfold tE; rw [if_neg hn, if_pos h1]⟩
  have HY0 : okT (ldV n L f 4) (ldV n L f 5) (ldV n L f 6) → tV n L f = tcV (ldV n L f 4 == 1) (ldV n L f 5) (ldV n L f 6) ∧ tE n L f = 0 := fun hx => by
    have hn : tB n L f := ⟨h1, hx⟩
    exact ⟨by unfold tV tZ tL tP; rw [if_pos hn, if_pos hn, if_pos hn], by unfold tE; rw [if_pos hn]⟩
  have e0 : canE n f 4 = 0 := canE_ok ⟨hf.1, hf.2, by decide, by decide⟩
  have R0 := fun (W : World) (q : MemAt W p g n L) => Mem.load_ok q f 4
  have b0 := hu.ld (n := n) f 4
  rw [e0] at R0
  have R0' := Lib.hid R0
  clear R0 e0
  have e1 : canE n f 5 = 0 := canE_ok ⟨hf.1, hf.2, by decide, by decide⟩
  have R1 := fun (W : World) (q : MemAt W p g n L) => Mem.load_ok q f 5
  have b1 := hu.ld (n := n) f 5
  rw [e1] at R1
  have R1' := Lib.hid R1
  clear R1 e1
  have e2 : canE n f 6 = 0 := canE_ok ⟨hf.1, hf.2, by decide, by decide⟩
  have R2 := fun (W : World) (q : MemAt W p g n L) => Mem.load_ok q f 6
  have b2 := hu.ld (n := n) f 6
  rw [e2] at R2
  have R2' := Lib.hid R2
  clear R2 e2
  generalize ldV n L f 4 = x0 at *
  generalize ldV n L f 5 = x1 at *
  generalize ldV n L f 6 = x2 at *
  generalize tV n L f = TV at *
  generalize tE n L f = TE at *
  have HN := Lib.hid HN0
  have HY := Lib.hid HY0
  clear HN0 HY0 hu hf h1
  obtain ⟨q, eq⟩ : ∃ q, w.heap.size = q := ⟨_, rfl⟩
  have Q := Blk.new' w 23 (tcC false 0 0) eq
  have hq : w.heap.size ≤ q := by omega
  replace h := h.alloc (.cells (tcC false 0 0) 23)
  have K := (Chg.refl [] w).alloc (.cells (tcC false 0 0) 23)
  go_enter Try.func26, Try.ntmps26
  go_wp2_with fail
  refine Calls.mono (HI.out _ h) ?_
  rintro x w1 ⟨rfl, k1⟩
  replace h := h.chg0 k1
  replace Q := Q.chg k1 (by simp)
  replace K := K.trans k1 (by simp)
  clear k1 eq HI
  obtain ⟨s, es⟩ : ∃ s, w1.heap.size = s := ⟨_, rfl⟩
  have S := Blk.new' w1 128 (n3C 0 0 0) es
  have hqs : q ≠ s := by have := Q.lt; omega
  have hsw : w.heap.size ≤ s := by have := K.size; omega
  replace Q := Q.alloc (.cells (n3C 0 0 0) 128)
  replace K := K.alloc (.cells (n3C 0 0 0) 128)
  replace h := h.alloc (.cells (n3C 0 0 0) 128)
  go_wp2_with fail
  go_loopw [16] (fun i wr => ∃ (j : Nat) (y0 y1 y2 : Int), i = .int .i64 j ∧ j ≤ 3 ∧ Hid (Blk wr q 23 (tcC false 0 0) ∧ Blk wr s 128 (n3C y0 y1 y2) ∧ Chg [] w wr ∧ MemAt wr p g n L) ∧ Hid ((0 < j → y0 = x0 ∧ x0 ≤ 1048576) ∧ (1 < j → y1 = x1 ∧ x1 ≤ 1048576) ∧ (2 < j → y2 = x2 ∧ x2 ≤ 1048576))) (fun i _ => 3 - (intOf i).toNat)
  case atStart => exact ⟨0, 0, 0, 0, rfl, by decide, ⟨Q, S, K, h⟩, Lib.hid (by simp)⟩
  case round =>
    clear Q S K h
    obtain ⟨j, y0, y1, y2, rfl, hj, H1, HF⟩ := hrel
    obtain ⟨Q, S, K, M⟩ := H1.out
    clear H1
    obtain ⟨s0, s1, s2⟩ := blk3 S
    rcases (by omega : j = 3 ∨ j = 0 ∨ j = 1 ∨ j = 2) with rfl | rfl | rfl | rfl
    · have hr := HF.out
      obtain ⟨⟨rfl, h0⟩, ⟨rfl, h1⟩, ⟨rfl, h2⟩⟩ : (y0 = x0 ∧ x0 ≤ 1048576) ∧ (y1 = x1 ∧ x1 ≤ 1048576) ∧ (y2 = x2 ∧ x2 ≤ 1048576) := ⟨hr.1 (by decide), hr.2.1 (by decide), hr.2.2 (by decide)⟩
      clear hr HF R0' R1' R2'
      have HT0 := Tcap.right_ok (y0 == 1) y1 y2
      obtain ⟨t, et⟩ : ∃ t, wr.heap.size = t := ⟨_, rfl⟩
      have T := Blk.new' wr 23 (tcC (y0 == 1) y1 y2) et
      replace Q := Q.alloc (.cells (tcC (y0 == 1) y1 y2) 23)
      replace K := K.alloc (.cells (tcC (y0 == 1) y1 y2) 23)
      replace S := S.alloc (.cells (tcC (y0 == 1) y1 y2) 23)
      clear M
      by_cases hb : 1 < y0
      · have hx : ¬ okT y0 y1 y2 := fun q => by have := q.1; omega
        have hy : (y0 == 1) = false := by rw [beq_eq_false_iff_ne]; omega
        rw [hy] at T Q K S
        obtain ⟨s0, s1, s2⟩ := blk3 S
        clear T HT0
        obtain ⟨q0, q1, q2⟩ := blk3 Q
        have f0 := Q.frozen 0
        have f1 := Q.frozen 1
        have f2 := Q.frozen 2
        have D := wr3_blk (d := q) Q (.bool false) (.int .i64 0) (.int .i64 0)
        have KK := wr3_chg (d := q) K hq (.bool false) (.int .i64 0) (.int .i64 0)
        unfold wr3 at D KK
        obtain ⟨d0, d1, d2⟩ := blk3 D
        go_wp2
        refine ⟨rfl, .tuple #[tcV false 0 0, .int .i64 12], ?_, by rw [(HN.out hx).1, (HN.out hx).2], KK⟩
        simp [results, go_sem, d0, d1, d2]
      · obtain ⟨s0', s1', s2'⟩ := blk3 S
        obtain ⟨t0, t1, t2⟩ := blk3 T
        by_cases hr : rightC (y0 == 1) y1 y2 = true
        · have hx : okT y0 y1 y2 := by
            have h := right_bd hr
            exact ⟨by omega, by omega, by omega, fun e => h.2.2.2.2 (by rw [e]; rfl)⟩
          rw [hr] at HT0
          have HT := Lib.hid HT0
          clear HT0 hr
          generalize hz : (y0 == 1) = z at *

          go_wp2_with fail
          refine Calls.mono (HT.out _) ?_
          rintro x w2 ⟨rfl, k2⟩
          replace Q := Q.chg k2 (by simp)
          replace T := T.chg k2 (by simp)
          replace K := K.trans k2 (by simp)
          clear k2 HT t0 t1 t2 s0 s1 s2 s0' s1' s2' S hz
          obtain ⟨t0, t1, t2⟩ := blk3 T
          obtain ⟨q0, q1, q2⟩ := blk3 Q
          have f0 := Q.frozen 0
          have f1 := Q.frozen 1
          have f2 := Q.frozen 2
          have D := wr3_blk (d := q) Q (.bool z) (.int .i64 y1) (.int .i64 y2)
          have KK := wr3_chg (d := q) K hq (.bool z) (.int .i64 y1) (.int .i64 y2)
          unfold wr3 at D KK
          obtain ⟨d0, d1, d2⟩ := blk3 D
          go_wp2
          refine ⟨rfl, .tuple #[tcV z y1 y2, .int .i64 0], ?_, by rw [(HY.out hx).1, (HY.out hx).2], KK⟩
          simp [results, go_sem, d0, d1, d2]
        · have hx : ¬ okT y0 y1 y2 := fun q => hr (right_mk ⟨by omega, by omega, by omega, by have := q.2.2.1; omega, fun e => q.2.2.2 (by simpa using e)⟩)
          have hr' : rightC (y0 == 1) y1 y2 = false := by simpa using hr
          rw [hr'] at HT0
          have HT := Lib.hid HT0
          clear HT0 hr hr'
          generalize hz : (y0 == 1) = z at *
          go_wp2_with fail
          refine Calls.mono (HT.out _) ?_
          rintro x w2 ⟨rfl, k2⟩
          replace Q := Q.chg k2 (by simp)
          replace K := K.trans k2 (by simp)
          clear k2 HT t0 t1 t2 s0 s1 s2 s0' s1' s2' S T
          obtain ⟨q0, q1, q2⟩ := blk3 Q
          have f0 := Q.frozen 0
          have f1 := Q.frozen 1
          have f2 := Q.frozen 2
          have D := wr3_blk (d := q) Q (.bool false) (.int .i64 0) (.int .i64 0)
          have KK := wr3_chg (d := q) K hq (.bool false) (.int .i64 0) (.int .i64 0)
          unfold wr3 at D KK
          obtain ⟨d0, d1, d2⟩ := blk3 D
          go_wp2
          refine ⟨rfl, .tuple #[tcV false 0 0, .int .i64 12], ?_, by rw [(HN.out hx).1, (HN.out hx).2], KK⟩
          simp [results, go_sem, d0, d1, d2]
    · have RK := R0'
      clear R0' R1' R2'
      by_cases h1 : x0 ≤ 1048576
      · have hn : ¬ 1048576 < x0 := by omega
        have hw : IntKind.i64.wrap x0 = x0 := by rw [IntKind.wrap_i64]; omega
        have S2 : Blk _ s _ (n3C x0 y1 y2) := S.set_ 0 (.int .i64 x0)
        have Q2 := Q.far (p := ⟨s, 0, none⟩) hqs (.int .i64 x0)
        have fk := S.frozen 0
        have K2 := K.setCell (p := ⟨s, 0, none⟩) (Or.inr hsw) (.int .i64 x0)
        have M2 := M.chg ((Chg.refl [s] wr).setCell (p := ⟨s, 0, none⟩) (by simp) (.int .i64 x0)) (by simpa using Blk.ne_ M.hd S (by decide)) (by simpa using Blk.ne_ M.row S (by decide))
        have HF2 : Hid ((0 < 1 → x0 = x0 ∧ x0 ≤ 1048576) ∧ (1 < 1 → y1 = x1 ∧ x1 ≤ 1048576) ∧ (2 < 1 → y2 = x2 ∧ x2 ≤ 1048576)) := by
          have := HF.out
          refine ⟨?_, ?_, ?_⟩ <;> omega
        clear HF
        go_wp2_with (go_at_call 72; refine Calls.mono (RK.out _ M) ?_; rintro _ w2 ⟨rfl, rfl⟩)
        go_roundw
        case rel => exact ⟨1, x0, y1, y2, by go_num, by decide, ⟨Q2, S2, K2, M2⟩, Lib.hid (by simpa using HF2.out)⟩
        case measure => simp [intOf]
      · have hn : 1048576 < x0 := by omega
        have hx : ¬ okT x0 x1 x2 := fun q => by
          have q1 := q.1
          have q2 := q.2.1
          have q3 := q.2.2.1
          omega
        clear HF
        obtain ⟨q0, q1, q2⟩ := blk3 Q
        have f0 := Q.frozen 0
        have f1 := Q.frozen 1
        have f2 := Q.frozen 2
        have D := wr3_blk (d := q) Q (.bool false) (.int .i64 0) (.int .i64 0)
        have KK := wr3_chg (d := q) K hq (.bool false) (.int .i64 0) (.int .i64 0)
        unfold wr3 at D KK
        obtain ⟨d0, d1, d2⟩ := blk3 D
        go_wp2_with (go_at_call 72; refine Calls.mono (RK.out _ M) ?_; rintro _ w2 ⟨rfl, rfl⟩)
        refine ⟨rfl, .tuple #[tcV false 0 0, .int .i64 12], ?_, by rw [(HN.out hx).1, (HN.out hx).2], KK⟩
        simp [results, go_sem, d0, d1, d2]
    · have RK := R1'
      clear R0' R1' R2'
      by_cases h1 : x1 ≤ 1048576
      · have hn : ¬ 1048576 < x1 := by omega
        have hw : IntKind.i64.wrap x1 = x1 := by rw [IntKind.wrap_i64]; omega
        have S2 : Blk _ s _ (n3C y0 x1 y2) := S.set_ 1 (.int .i64 x1)
        have Q2 := Q.far (p := ⟨s, 1, none⟩) hqs (.int .i64 x1)
        have fk := S.frozen 1
        have K2 := K.setCell (p := ⟨s, 1, none⟩) (Or.inr hsw) (.int .i64 x1)
        have M2 := M.chg ((Chg.refl [s] wr).setCell (p := ⟨s, 1, none⟩) (by simp) (.int .i64 x1)) (by simpa using Blk.ne_ M.hd S (by decide)) (by simpa using Blk.ne_ M.row S (by decide))
        have HF2 : Hid ((0 < 2 → y0 = x0 ∧ x0 ≤ 1048576) ∧ (1 < 2 → x1 = x1 ∧ x1 ≤ 1048576) ∧ (2 < 2 → y2 = x2 ∧ x2 ≤ 1048576)) := by
          have := HF.out
          refine ⟨?_, ?_, ?_⟩ <;> omega
        clear HF
        go_wp2_with (go_at_call 72; refine Calls.mono (RK.out _ M) ?_; rintro _ w2 ⟨rfl, rfl⟩)
        go_roundw
        case rel => exact ⟨2, y0, x1, y2, by go_num, by decide, ⟨Q2, S2, K2, M2⟩, Lib.hid (by simpa using HF2.out)⟩
        case measure => simp [intOf]
      · have hn : 1048576 < x1 := by omega
        have hx : ¬ okT x0 x1 x2 := fun q => by
          have q1 := q.1
          have q2 := q.2.1
          have q3 := q.2.2.1
          omega
        clear HF
        obtain ⟨q0, q1, q2⟩ := blk3 Q
        have f0 := Q.frozen 0
        have f1 := Q.frozen 1
        have f2 := Q.frozen 2
        have D := wr3_blk (d := q) Q (.bool false) (.int .i64 0) (.int .i64 0)
        have KK := wr3_chg (d := q) K hq (.bool false) (.int .i64 0) (.int .i64 0)
        unfold wr3 at D KK
        obtain ⟨d0, d1, d2⟩ := blk3 D
        go_wp2_with (go_at_call 72; refine Calls.mono (RK.out _ M) ?_; rintro _ w2 ⟨rfl, rfl⟩)
        refine ⟨rfl, .tuple #[tcV false 0 0, .int .i64 12], ?_, by rw [(HN.out hx).1, (HN.out hx).2], KK⟩
        simp [results, go_sem, d0, d1, d2]
    · have RK := R2'
      clear R0' R1' R2'
      by_cases h1 : x2 ≤ 1048576
      · have hn : ¬ 1048576 < x2 := by omega
        have hw : IntKind.i64.wrap x2 = x2 := by rw [IntKind.wrap_i64]; omega
        have S2 : Blk _ s _ (n3C y0 y1 x2) := S.set_ 2 (.int .i64 x2)
        have Q2 := Q.far (p := ⟨s, 2, none⟩) hqs (.int .i64 x2)
        have fk := S.frozen 2
        have K2 := K.setCell (p := ⟨s, 2, none⟩) (Or.inr hsw) (.int .i64 x2)
        have M2 := M.chg ((Chg.refl [s] wr).setCell (p := ⟨s, 2, none⟩) (by simp) (.int .i64 x2)) (by simpa using Blk.ne_ M.hd S (by decide)) (by simpa using Blk.ne_ M.row S (by decide))
        have HF2 : Hid ((0 < 3 → y0 = x0 ∧ x0 ≤ 1048576) ∧ (1 < 3 → y1 = x1 ∧ x1 ≤ 1048576) ∧ (2 < 3 → x2 = x2 ∧ x2 ≤ 1048576)) := by
          have := HF.out
          refine ⟨?_, ?_, ?_⟩ <;> omega
        clear HF
        go_wp2_with (go_at_call 72; refine Calls.mono (RK.out _ M) ?_; rintro _ w2 ⟨rfl, rfl⟩)
        go_roundw
        case rel => exact ⟨3, y0, y1, x2, by go_num, by decide, ⟨Q2, S2, K2, M2⟩, Lib.hid (by simpa using HF2.out)⟩
        case measure => simp [intOf]
      · have hn : 1048576 < x2 := by omega
        have hx : ¬ okT x0 x1 x2 := fun q => by
          have q1 := q.1
          have q2 := q.2.1
          have q3 := q.2.2.1
          omega
        clear HF
        obtain ⟨q0, q1, q2⟩ := blk3 Q
        have f0 := Q.frozen 0
        have f1 := Q.frozen 1
        have f2 := Q.frozen 2
        have D := wr3_blk (d := q) Q (.bool false) (.int .i64 0) (.int .i64 0)
        have KK := wr3_chg (d := q) K hq (.bool false) (.int .i64 0) (.int .i64 0)
        unfold wr3 at D KK
        obtain ⟨d0, d1, d2⟩ := blk3 D
        go_wp2_with (go_at_call 72; refine Calls.mono (RK.out _ M) ?_; rintro _ w2 ⟨rfl, rfl⟩)
        refine ⟨rfl, .tuple #[tcV false 0 0, .int .i64 12], ?_, by rw [(HN.out hx).1, (HN.out hx).2], KK⟩
        simp [results, go_sem, d0, d1, d2]
theorem get_ok {w : World} {p g n : Nat} {L : List Int} (h : MemAt w p g n L) (hu : U64 L) (f : Int)  : Calls Try.prog 26 #[.pointer (some ⟨p, 0, none⟩), .int .i64 f] w fun x w' => x = .returned (.tuple #[tV n L f, .int .i64 (tE n L f)]) ∧ Chg [] w w' := by
  by_cases h1 : isE n L f 5 = 0
  · exact get_read h hu f h1
  · exact get_type h hu f h1
end Go.Proofs.Ytknbeklplmhheaa.Tcap
