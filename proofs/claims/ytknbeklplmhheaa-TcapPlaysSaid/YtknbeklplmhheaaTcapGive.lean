/- Package tcap: Give, Charge, Can, Sum; and what budgets are behind what is laid. -/
import Derived.Test.YtknbeklplmhheaaTcapPut
namespace Go.Proofs.Ytknbeklplmhheaa.TcapGive
open Go Go.RowKit Go.Proofs.Ytknbeklplmhheaa Go.Proofs.Ytknbeklplmhheaa.Heap Go.Proofs.Ytknbeklplmhheaa.Mem Go.Proofs.Ytknbeklplmhheaa.Two Go.Proofs.Ytknbeklplmhheaa.Head Go.Proofs.Ytknbeklplmhheaa.HeadPut Go.Proofs.Ytknbeklplmhheaa.HeadIs Go.Proofs.Ytknbeklplmhheaa.Lay Go.Proofs.Ytknbeklplmhheaa.Tcap Go.Proofs.Ytknbeklplmhheaa.TcapCl Go.Proofs.Ytknbeklplmhheaa.TcapPut

theorem b2i_one (z : Bool) : (b2i z == 1) = z := by cases z <;> rfl
/-- A budget that is laid is read. -/
theorem lay3 {n : Nat} {L : List Int} {f : Int} (hl : L.length = 36 * n) (hi : isE n L f 5 = 0) {z : Bool} {l t : Int} (hr : rightC z l t = true) :
    tE n (layL n L f 4 [b2i z, l, t]) f = 0 ∧ tZ n (layL n L f 4 [b2i z, l, t]) f = z ∧ tL n (layL n L f 4 [b2i z, l, t]) f = l ∧ tP n (layL n L f 4 [b2i z, l, t]) f = t := by
  have hf := isE_in hi
  have ld := fun (i : Nat) (h : i < 36) => lay_ld (n := n) hf (xs := [b2i z, l, t]) (b := 4) hl (by simp) hf (i := i) h
  have x0 : ldV n (layL n L f 4 [b2i z, l, t]) f 4 = b2i z := (ld 4 (by decide)).trans (if_pos ⟨rfl, by simp, by simp⟩)
  have x1 : ldV n (layL n L f 4 [b2i z, l, t]) f 5 = l := (ld 5 (by decide)).trans (if_pos ⟨rfl, by simp, by simp⟩)
  have x2 : ldV n (layL n L f 4 [b2i z, l, t]) f 6 = t := (ld 6 (by decide)).trans (if_pos ⟨rfl, by simp, by simp⟩)
  have ei : isE n (layL n L f 4 [b2i z, l, t]) f 5 = 0 := by
    rw [show (4 : Int) = ((4 : Nat) : Int) from rfl, lay_is hf hl (by simp) (by decide)]
    exact hi
  have hb := right_bd hr
  have hz := b2i_bd z
  have ok : tB n (layL n L f 4 [b2i z, l, t]) f := by
    refine ⟨ei, ?_⟩
    rw [x0, x1, x2]
    exact ⟨hz.2, hb.2.1, hb.2.2.2.1, fun e => hb.2.2.2.2 (by cases z; cases e; rfl)⟩
  unfold tE tZ tL tP
  rw [if_pos ok, if_pos ok, if_pos ok, if_pos ok, x0, x1, x2, b2i_one]
  exact ⟨rfl, rfl, rfl, rfl⟩
theorem ld_ne {n : Nat} {L xs : List Int} {f g : Int} (hl : L.length = 36 * n) (hf : 0 ≤ f ∧ f < n) (hx : 4 + xs.length ≤ 36) (hg : g ≠ f) {i : Nat} (hi : i < 36) : ldV n (layL n L f 4 xs) g i = ldV n L g i := by
  by_cases hv : 0 ≤ g ∧ g < n
  · exact (lay_ld (n := n) hf (xs := xs) (b := 4) hl hx hv (i := i) hi).trans (if_neg (fun q => hg q.1))
  · unfold ldV
    rw [if_neg (fun q => hv ⟨q.1, q.2.1⟩), if_neg (fun q => hv ⟨q.1, q.2.1⟩)]
/-- Another frame's budget is as it was. -/
theorem lay_ne {n : Nat} {L xs : List Int} {f g : Int} (hl : L.length = 36 * n) (hf : 0 ≤ f ∧ f < n) (hx : 4 + xs.length ≤ 36) (hg : g ≠ f) :
    tE n (layL n L f 4 xs) g = tE n L g ∧ tZ n (layL n L f 4 xs) g = tZ n L g ∧ tL n (layL n L f 4 xs) g = tL n L g ∧ tP n (layL n L f 4 xs) g = tP n L g := by
  have x0 : ldV n (layL n L f 4 xs) g 4 = ldV n L g 4 := ld_ne hl hf hx hg (i := 4) (by decide)
  have x1 : ldV n (layL n L f 4 xs) g 5 = ldV n L g 5 := ld_ne hl hf hx hg (i := 5) (by decide)
  have x2 : ldV n (layL n L f 4 xs) g 6 = ldV n L g 6 := ld_ne hl hf hx hg (i := 6) (by decide)
  have ei : isE n (layL n L f 4 xs) g 5 = isE n L g 5 := by
    rw [show (4 : Int) = ((4 : Nat) : Int) from rfl, lay_is hf hl hx (by decide)]
  have e : tB n (layL n L f 4 xs) g ↔ tB n L g := by unfold tB; rw [x0, x1, x2, ei]
  unfold tE tZ tL tP
  simp only [e, x0, x1, x2, ei]
  exact ⟨trivial, trivial, trivial, trivial⟩
/-- What is laid as it is read changes nothing. -/
theorem lay_same {n : Nat} {L : List Int} {f : Int} (hl : L.length = 36 * n) (hu : U64 L) (h : tE n L f = 0) : layL n L f 4 [b2i (tZ n L f), tL n L f, tP n L f] = L := by
  have hb := tE_zero h
  have hf := isE_in hb.1
  have b4 := hu.ld (n := n) f 4
  have q := hb.2
  have e0 : b2i (tZ n L f) = ldV n L f 4 := by
    unfold tZ
    rw [if_pos hb]
    have := q.1
    rcases (by omega : ldV n L f 4 = 0 ∨ ldV n L f 4 = 1) with e | e <;> rw [e] <;> rfl
  have e1 : tL n L f = ldV n L f 5 := if_pos hb
  have e2 : tP n L f = ldV n L f 6 := if_pos hb
  rw [e0, e1, e2]
  have hl' := lay_len (n := n) (f := f) [ldV n L f 4, ldV n L f 5, ldV n L f 6] (b := ((4 : Nat) : Int)) hl
  have ha := fun j => lay_at (n := n) hf [ldV n L f 4, ldV n L f 5, ldV n L f 6] (b := 4) hl (by simp) j
  have lv : ∀ i : Int, 0 ≤ i ∧ i < 36 → ldV n L f i = L.getD (f.toNat * 36 + i.toNat) 0 := fun i hi => if_pos ⟨hf.1, hf.2, hi.1, hi.2⟩
  have l4 := lv 4 (by decide)
  have l5 := lv 5 (by decide)
  have l6 := lv 6 (by decide)
  show layL n L f ((4 : Nat) : Int) [ldV n L f 4, ldV n L f 5, ldV n L f 6] = L
  generalize layL n L f ((4 : Nat) : Int) [ldV n L f 4, ldV n L f 5, ldV n L f 6] = M at *
  generalize ldV n L f 4 = y4 at *
  generalize ldV n L f 5 = y5 at *
  generalize ldV n L f 6 = y6 at *
  have key : ∀ j, M.getD j 0 = L.getD j 0 := fun j => by
    rw [ha j]
    by_cases hr : f.toNat * 36 + 4 ≤ j ∧ j < f.toNat * 36 + 4 + [y4, y5, y6].length
    · rw [if_pos hr]
      have h3 : j = f.toNat * 36 + 4 ∨ j = f.toNat * 36 + 5 ∨ j = f.toNat * 36 + 6 := by
        have := hr.2
        simp at this
        omega
      rcases h3 with rfl | rfl | rfl
      · rw [Nat.sub_self]
        exact l4
      · rw [show f.toNat * 36 + 5 - (f.toNat * 36 + 4) = 1 by omega]
        exact l5
      · rw [show f.toNat * 36 + 6 - (f.toNat * 36 + 4) = 2 by omega]
        exact l6
    · rw [if_neg hr]
  apply List.ext_getElem (by rw [hl', hl])
  intro i h1 h2
  have := key i
  simpa [List.getD_eq_getElem?_getD, List.getElem?_eq_getElem h1, List.getElem?_eq_getElem h2] using this
set_option linter.unusedVariables false
set_option maxRecDepth 100000
set_option maxHeartbeats 4000000
def gvB (f to k pr : Int) : Prop := inI k 1 1048576 = true ∧ inI pr 0 255 = true ∧ ¬ f = to
instance (f to k pr : Int) : Decidable (gvB f to k pr) := by unfold gvB; infer_instance
def gvE (n : Nat) (L : List Int) (f to k pr : Int) : Int := if gvB f to k pr then (if tE n L f = 0 then (if tE n L to = 0 then mayE (tZ n L f) (tL n L f) (tZ n L to) (tL n L to) k else tE n L to) else tE n L f) else 1
def gvOk (n : Nat) (L : List Int) (f to k pr : Int) : Prop := gvB f to k pr ∧ tE n L f = 0 ∧ tE n L to = 0 ∧ mayE (tZ n L f) (tL n L f) (tZ n L to) (tL n L to) k = 0
instance (n : Nat) (L : List Int) (f to k pr : Int) : Decidable (gvOk n L f to k pr) := by unfold gvOk; infer_instance
def gv1 (n : Nat) (L : List Int) (f k : Int) : List Int := if tZ n L f = true then L else layL n L f 4 [b2i (tZ n L f), tL n L f - k, tP n L f]
def gvL (n : Nat) (L : List Int) (f to k pr : Int) : List Int := if gvOk n L f to k pr then layL n (gv1 n L f k) to 4 [b2i (tZ n L to), tL n L to + k, pr] else L
theorem in_bd {x a b : Int} (h : inI x a b = true) : a ≤ x ∧ x ≤ b := of_decide_eq_true h
theorem may_zero {az : Bool} {al : Int} {bz : Bool} {bl k : Int} (h : mayE az al bz bl k = 0) : bz = false ∧ (az = false → k ≤ al) ∧ bl + k ≤ 1048576 := by
  unfold mayE at h
  by_cases h1 : bz = true
  · rw [if_pos h1] at h; cases h
  · rw [if_neg h1] at h
    by_cases h2 : (az = false ∧ al < k) ∨ 1048576 - bl < k
    · rw [if_pos h2] at h; cases h
    · exact ⟨by simpa using h1, fun e => by by_cases h3 : al < k; exact absurd (.inl ⟨e, h3⟩) h2; omega, by by_cases h3 : 1048576 - bl < k; exact absurd (.inr h3) h2; omega⟩
theorem give_a {w : World} {p g n : Nat} {L : List Int} (h : MemAt w p g n L) (hu : U64 L) (f to k pr : Int) (h1 : inI k 1 1048576 = false) : Calls Try.prog 23 #[.pointer (some ⟨p, 0, none⟩), .int .i64 f, .int .i64 to, .int .i64 k, .int .i64 pr] w fun x w' => x = .returned (.int .i64 1) ∧ MemAt w' p g n L ∧ Chg [g] w w' := by
  have I00 := in_ok k 1 1048576
  have I10 := in_ok pr 0 255
  rw [h1] at I00
  have I0 := Lib.hid I00
  clear I00 I10 h1 hu
  obtain ⟨bn, en⟩ : ∃ q, w.heap.size = q := ⟨_, rfl⟩
  have N := Blk.new' w 3 #[.int .i64 k] en
  obtain ⟨bp, eb⟩ : ∃ q, bn + 1 = q := ⟨_, rfl⟩
  have P := Blk.new' (g := bp) (w.alloc (.cells #[.int .i64 k] 3)) 3 #[.int .i64 pr] (by simp; omega)
  replace N := N.alloc (.cells #[.int .i64 pr] 3)
  replace h := (h.alloc (.cells #[.int .i64 k] 3)).alloc (.cells #[.int .i64 pr] 3)
  have K := ((Chg.refl [g] w).alloc (.cells #[.int .i64 k] 3)).alloc (.cells #[.int .i64 pr] 3)
  have n0 := N.cell 0
  have m0 := P.cell 0
  go_enter Try.func23, Try.ntmps23
  go_wp2_with fail
  refine Calls.mono (I0.out _) ?_
  rintro x w1 ⟨rfl, rfl⟩
  go_wp2
  go_ret
  exact ⟨rfl, h, K⟩
theorem give_b {w : World} {p g n : Nat} {L : List Int} (h : MemAt w p g n L) (hu : U64 L) (f to k pr : Int) (h1 : inI k 1 1048576 = true) (h2 : inI pr 0 255 = false) : Calls Try.prog 23 #[.pointer (some ⟨p, 0, none⟩), .int .i64 f, .int .i64 to, .int .i64 k, .int .i64 pr] w fun x w' => x = .returned (.int .i64 1) ∧ MemAt w' p g n L ∧ Chg [g] w w' := by
  have I00 := in_ok k 1 1048576
  have I10 := in_ok pr 0 255
  rw [h1] at I00
  rw [h2] at I10
  have I0 := Lib.hid I00
  have I1 := Lib.hid I10
  clear I00 I10 h1 h2 hu
  obtain ⟨bn, en⟩ : ∃ q, w.heap.size = q := ⟨_, rfl⟩
  have N := Blk.new' w 3 #[.int .i64 k] en
  obtain ⟨bp, eb⟩ : ∃ q, bn + 1 = q := ⟨_, rfl⟩
  have P := Blk.new' (g := bp) (w.alloc (.cells #[.int .i64 k] 3)) 3 #[.int .i64 pr] (by simp; omega)
  replace N := N.alloc (.cells #[.int .i64 pr] 3)
  replace h := (h.alloc (.cells #[.int .i64 k] 3)).alloc (.cells #[.int .i64 pr] 3)
  have K := ((Chg.refl [g] w).alloc (.cells #[.int .i64 k] 3)).alloc (.cells #[.int .i64 pr] 3)
  have n0 := N.cell 0
  have m0 := P.cell 0
  go_enter Try.func23, Try.ntmps23
  go_wp2_with fail
  refine Calls.mono (I0.out _) ?_
  rintro x w1 ⟨rfl, rfl⟩
  go_wp2_with fail
  refine Calls.mono (I1.out _) ?_
  rintro x w1 ⟨rfl, rfl⟩
  go_wp2
  go_ret
  exact ⟨rfl, h, K⟩
theorem give_c {w : World} {p g n : Nat} {L : List Int} (h : MemAt w p g n L) (hu : U64 L) (f to k pr : Int) (h1 : inI k 1 1048576 = true) (h2 : inI pr 0 255 = true) (h3 : f = to) : Calls Try.prog 23 #[.pointer (some ⟨p, 0, none⟩), .int .i64 f, .int .i64 to, .int .i64 k, .int .i64 pr] w fun x w' => x = .returned (.int .i64 1) ∧ MemAt w' p g n L ∧ Chg [g] w w' := by
  have I00 := in_ok k 1 1048576
  have I10 := in_ok pr 0 255
  rw [h1] at I00
  rw [h2] at I10
  subst h3
  have I0 := Lib.hid I00
  have I1 := Lib.hid I10
  clear I00 I10 h1 h2 hu
  obtain ⟨bn, en⟩ : ∃ q, w.heap.size = q := ⟨_, rfl⟩
  have N := Blk.new' w 3 #[.int .i64 k] en
  obtain ⟨bp, eb⟩ : ∃ q, bn + 1 = q := ⟨_, rfl⟩
  have P := Blk.new' (g := bp) (w.alloc (.cells #[.int .i64 k] 3)) 3 #[.int .i64 pr] (by simp; omega)
  replace N := N.alloc (.cells #[.int .i64 pr] 3)
  replace h := (h.alloc (.cells #[.int .i64 k] 3)).alloc (.cells #[.int .i64 pr] 3)
  have K := ((Chg.refl [g] w).alloc (.cells #[.int .i64 k] 3)).alloc (.cells #[.int .i64 pr] 3)
  have n0 := N.cell 0
  have m0 := P.cell 0
  go_enter Try.func23, Try.ntmps23
  go_wp2_with fail
  refine Calls.mono (I0.out _) ?_
  rintro x w1 ⟨rfl, rfl⟩
  go_wp2_with fail
  refine Calls.mono (I1.out _) ?_
  rintro x w1 ⟨rfl, rfl⟩
  go_wp2
  go_ret
  exact ⟨rfl, h, K⟩
theorem give_d {w : World} {p g n : Nat} {L : List Int} (h : MemAt w p g n L) (hu : U64 L) (f to k pr : Int) (h0 : gvB f to k pr) (h1 : ¬ tE n L f = 0) : Calls Try.prog 23 #[.pointer (some ⟨p, 0, none⟩), .int .i64 f, .int .i64 to, .int .i64 k, .int .i64 pr] w fun x w' => x = .returned (.int .i64 (tE n L f)) ∧ MemAt w' p g n L ∧ Chg [g] w w' := by
  have I00 := in_ok k 1 1048576
  have I10 := in_ok pr 0 255
  rw [h0.1] at I00
  rw [h0.2.1] at I10
  have I0 := Lib.hid I00
  have I1 := Lib.hid I10
  have hb := h0.2.2
  have hbb : (f == to) = false := by rw [beq_eq_false_iff_ne]; exact hb
  have HA0 := fun (W : World) (q : MemAt W p g n L) => Tcap.get_ok q hu f
  unfold tV at HA0
  generalize tZ n L f = az at *
  generalize tL n L f = al at *
  generalize tP n L f = ap at *
  generalize tE n L f = E at *
  have hE : (E != 0) = true := by rw [bne_iff_ne]; exact h1
  have HA := Lib.hid HA0
  clear I00 I10 HA0
  clear h0 hu
  obtain ⟨bn, en⟩ : ∃ q, w.heap.size = q := ⟨_, rfl⟩
  have N := Blk.new' w 3 #[.int .i64 k] en
  obtain ⟨bp, eb⟩ : ∃ q, bn + 1 = q := ⟨_, rfl⟩
  have P := Blk.new' (g := bp) (w.alloc (.cells #[.int .i64 k] 3)) 3 #[.int .i64 pr] (by simp; omega)
  replace N := N.alloc (.cells #[.int .i64 pr] 3)
  replace h := (h.alloc (.cells #[.int .i64 k] 3)).alloc (.cells #[.int .i64 pr] 3)
  have K := ((Chg.refl [g] w).alloc (.cells #[.int .i64 k] 3)).alloc (.cells #[.int .i64 pr] 3)
  have n0 := N.cell 0
  have m0 := P.cell 0
  go_enter Try.func23, Try.ntmps23
  go_wp2_with fail
  refine Calls.mono (I0.out _) ?_
  rintro x w1 ⟨rfl, rfl⟩
  go_wp2_with fail
  refine Calls.mono (I1.out _) ?_
  rintro x w1 ⟨rfl, rfl⟩
  go_wp2_with fail
  refine Calls.mono (HA.out _ h) ?_
  rintro x w2 ⟨rfl, k2⟩
  clear HA n0 m0
  obtain ⟨da, ea⟩ : ∃ q, w2.heap.size = q := ⟨_, rfl⟩
  have A := Blk.new' w2 23 (tcC az al ap) ea
  replace h := (h.chg0 k2).alloc (.cells (tcC az al ap) 23)
  replace N := (N.chg k2 (by simp)).alloc (.cells (tcC az al ap) 23)
  replace P := (P.chg k2 (by simp)).alloc (.cells (tcC az al ap) 23)
  replace K := (K.trans k2 (by simp)).alloc (.cells (tcC az al ap) 23)
  clear k2
  go_wp2
  go_ret
  exact ⟨rfl, h, K⟩
theorem give_e {w : World} {p g n : Nat} {L : List Int} (h : MemAt w p g n L) (hu : U64 L) (f to k pr : Int) (h0 : gvB f to k pr) (h1 : tE n L f = 0) (h2 : ¬ tE n L to = 0) : Calls Try.prog 23 #[.pointer (some ⟨p, 0, none⟩), .int .i64 f, .int .i64 to, .int .i64 k, .int .i64 pr] w fun x w' => x = .returned (.int .i64 (tE n L to)) ∧ MemAt w' p g n L ∧ Chg [g] w w' := by
  have HB0 := fun (W : World) (q : MemAt W p g n L) => Tcap.get_ok q hu to
  unfold tV at HB0
  have I00 := in_ok k 1 1048576
  have I10 := in_ok pr 0 255
  rw [h0.1] at I00
  rw [h0.2.1] at I10
  have I0 := Lib.hid I00
  have I1 := Lib.hid I10
  have hb := h0.2.2
  have hbb : (f == to) = false := by rw [beq_eq_false_iff_ne]; exact hb
  have HA0 := fun (W : World) (q : MemAt W p g n L) => Tcap.get_ok q hu f
  unfold tV at HA0
  rw [h1] at HA0
  generalize tZ n L f = az at *
  generalize tL n L f = al at *
  generalize tP n L f = ap at *
  generalize tZ n L to = bz at *
  generalize tL n L to = bl at *
  generalize tP n L to = bt at *
  generalize tE n L to = E at *
  have hE : (E != 0) = true := by rw [bne_iff_ne]; exact h2
  have HB := Lib.hid HB0
  clear HB0 h1
  have HA := Lib.hid HA0
  clear I00 I10 HA0
  clear h0 hu
  obtain ⟨bn, en⟩ : ∃ q, w.heap.size = q := ⟨_, rfl⟩
  have N := Blk.new' w 3 #[.int .i64 k] en
  obtain ⟨bp, eb⟩ : ∃ q, bn + 1 = q := ⟨_, rfl⟩
  have P := Blk.new' (g := bp) (w.alloc (.cells #[.int .i64 k] 3)) 3 #[.int .i64 pr] (by simp; omega)
  replace N := N.alloc (.cells #[.int .i64 pr] 3)
  replace h := (h.alloc (.cells #[.int .i64 k] 3)).alloc (.cells #[.int .i64 pr] 3)
  have K := ((Chg.refl [g] w).alloc (.cells #[.int .i64 k] 3)).alloc (.cells #[.int .i64 pr] 3)
  have n0 := N.cell 0
  have m0 := P.cell 0
  go_enter Try.func23, Try.ntmps23
  go_wp2_with fail
  refine Calls.mono (I0.out _) ?_
  rintro x w1 ⟨rfl, rfl⟩
  go_wp2_with fail
  refine Calls.mono (I1.out _) ?_
  rintro x w1 ⟨rfl, rfl⟩
  go_wp2_with fail
  refine Calls.mono (HA.out _ h) ?_
  rintro x w2 ⟨rfl, k2⟩
  clear HA n0 m0
  obtain ⟨da, ea⟩ : ∃ q, w2.heap.size = q := ⟨_, rfl⟩
  have A := Blk.new' w2 23 (tcC az al ap) ea
  replace h := (h.chg0 k2).alloc (.cells (tcC az al ap) 23)
  replace N := (N.chg k2 (by simp)).alloc (.cells (tcC az al ap) 23)
  replace P := (P.chg k2 (by simp)).alloc (.cells (tcC az al ap) 23)
  replace K := (K.trans k2 (by simp)).alloc (.cells (tcC az al ap) 23)
  clear k2
  go_wp2_with fail
  refine Calls.mono (HB.out _ h) ?_
  rintro x w3 ⟨rfl, k2⟩
  clear HB
  obtain ⟨db, ebb⟩ : ∃ q, w3.heap.size = q := ⟨_, rfl⟩
  have B := Blk.new' w3 23 (tcC bz bl bt) ebb
  replace h := (h.chg0 k2).alloc (.cells (tcC bz bl bt) 23)
  replace N := (N.chg k2 (by simp)).alloc (.cells (tcC bz bl bt) 23)
  replace P := (P.chg k2 (by simp)).alloc (.cells (tcC bz bl bt) 23)
  replace A := (A.chg k2 (by simp)).alloc (.cells (tcC bz bl bt) 23)
  replace K := (K.trans k2 (by simp)).alloc (.cells (tcC bz bl bt) 23)
  clear k2
  go_wp2
  go_ret
  exact ⟨rfl, h, K⟩
theorem give_f {w : World} {p g n : Nat} {L : List Int} (h : MemAt w p g n L) (hu : U64 L) (f to k pr : Int) (h0 : gvB f to k pr) (h1 : tE n L f = 0) (h2 : tE n L to = 0) (h3 : ¬ mayE (tZ n L f) (tL n L f) (tZ n L to) (tL n L to) k = 0) : Calls Try.prog 23 #[.pointer (some ⟨p, 0, none⟩), .int .i64 f, .int .i64 to, .int .i64 k, .int .i64 pr] w fun x w' => x = .returned (.int .i64 (mayE (tZ n L f) (tL n L f) (tZ n L to) (tL n L to) k)) ∧ MemAt w' p g n L ∧ Chg [g] w w' := by
  have HB0 := fun (W : World) (q : MemAt W p g n L) => Tcap.get_ok q hu to
  unfold tV at HB0
  have hbl := right_bd (t_right hu h2)
  have HMY0 := fun W => may_ok (tZ n L f) (tL n L f) (tP n L f) (tZ n L to) (tL n L to) (tP n L to) k W ⟨hbl.1, hbl.2.1⟩
  have I00 := in_ok k 1 1048576
  have I10 := in_ok pr 0 255
  rw [h0.1] at I00
  rw [h0.2.1] at I10
  have I0 := Lib.hid I00
  have I1 := Lib.hid I10
  have hb := h0.2.2
  have hbb : (f == to) = false := by rw [beq_eq_false_iff_ne]; exact hb
  have HA0 := fun (W : World) (q : MemAt W p g n L) => Tcap.get_ok q hu f
  unfold tV at HA0
  rw [h1] at HA0
  rw [h2] at HB0
  generalize mayE (tZ n L f) (tL n L f) (tZ n L to) (tL n L to) k = E at *
  clear hbl
  generalize tZ n L f = az at *
  generalize tL n L f = al at *
  generalize tP n L f = ap at *
  generalize tZ n L to = bz at *
  generalize tL n L to = bl at *
  generalize tP n L to = bt at *
  have hE : (E != 0) = true := by rw [bne_iff_ne]; exact h3
  have HB := Lib.hid HB0
  have HMY := Lib.hid HMY0
  clear HB0 HMY0 h1 h2
  have HA := Lib.hid HA0
  clear I00 I10 HA0
  clear h0 hu
  obtain ⟨bn, en⟩ : ∃ q, w.heap.size = q := ⟨_, rfl⟩
  have N := Blk.new' w 3 #[.int .i64 k] en
  obtain ⟨bp, eb⟩ : ∃ q, bn + 1 = q := ⟨_, rfl⟩
  have P := Blk.new' (g := bp) (w.alloc (.cells #[.int .i64 k] 3)) 3 #[.int .i64 pr] (by simp; omega)
  replace N := N.alloc (.cells #[.int .i64 pr] 3)
  replace h := (h.alloc (.cells #[.int .i64 k] 3)).alloc (.cells #[.int .i64 pr] 3)
  have K := ((Chg.refl [g] w).alloc (.cells #[.int .i64 k] 3)).alloc (.cells #[.int .i64 pr] 3)
  have n0 := N.cell 0
  have m0 := P.cell 0
  go_enter Try.func23, Try.ntmps23
  go_wp2_with fail
  refine Calls.mono (I0.out _) ?_
  rintro x w1 ⟨rfl, rfl⟩
  go_wp2_with fail
  refine Calls.mono (I1.out _) ?_
  rintro x w1 ⟨rfl, rfl⟩
  go_wp2_with fail
  refine Calls.mono (HA.out _ h) ?_
  rintro x w2 ⟨rfl, k2⟩
  clear HA n0 m0
  obtain ⟨da, ea⟩ : ∃ q, w2.heap.size = q := ⟨_, rfl⟩
  have A := Blk.new' w2 23 (tcC az al ap) ea
  replace h := (h.chg0 k2).alloc (.cells (tcC az al ap) 23)
  replace N := (N.chg k2 (by simp)).alloc (.cells (tcC az al ap) 23)
  replace P := (P.chg k2 (by simp)).alloc (.cells (tcC az al ap) 23)
  replace K := (K.trans k2 (by simp)).alloc (.cells (tcC az al ap) 23)
  clear k2
  go_wp2_with fail
  refine Calls.mono (HB.out _ h) ?_
  rintro x w3 ⟨rfl, k2⟩
  clear HB
  obtain ⟨db, ebb⟩ : ∃ q, w3.heap.size = q := ⟨_, rfl⟩
  have B := Blk.new' w3 23 (tcC bz bl bt) ebb
  replace h := (h.chg0 k2).alloc (.cells (tcC bz bl bt) 23)
  replace N := (N.chg k2 (by simp)).alloc (.cells (tcC bz bl bt) 23)
  replace P := (P.chg k2 (by simp)).alloc (.cells (tcC bz bl bt) 23)
  replace A := (A.chg k2 (by simp)).alloc (.cells (tcC bz bl bt) 23)
  replace K := (K.trans k2 (by simp)).alloc (.cells (tcC bz bl bt) 23)
  clear k2
  obtain ⟨a0, a1, a2⟩ := blk3 A
  obtain ⟨b0, b1, b2⟩ := blk3 B
  have n0 := N.cell 0
  go_wp2_with fail
  refine Calls.mono (HMY.out _) ?_
  rintro x w4 ⟨rfl, k2⟩
  clear HMY a0 a1 a2 b0 b1 b2 n0
  replace h := h.chg0 k2
  replace N := N.chg k2 (by simp)
  replace P := P.chg k2 (by simp)
  replace A := A.chg k2 (by simp)
  replace K := K.trans k2 (by simp)
  clear k2 B
  obtain ⟨a0, a1, a2⟩ := blk3 A
  go_wp2
  go_ret
  exact ⟨rfl, h, K⟩
theorem give_g {w : World} {p g n : Nat} {L : List Int} (h : MemAt w p g n L) (hu : U64 L) (f to k pr : Int) (h0 : gvB f to k pr) (h1 : tE n L f = 0) (h2 : tE n L to = 0) (h3 : mayE (tZ n L f) (tL n L f) (tZ n L to) (tL n L to) k = 0) (h4 : tZ n L f = true) : Calls Try.prog 23 #[.pointer (some ⟨p, 0, none⟩), .int .i64 f, .int .i64 to, .int .i64 k, .int .i64 pr] w fun x w' => x = .returned (.int .i64 0) ∧ MemAt w' p g n (layL n L to 4 [b2i (tZ n L to), tL n L to + k, pr]) ∧ Chg [g] w w' := by
  have HB0 := fun (W : World) (q : MemAt W p g n L) => Tcap.get_ok q hu to
  unfold tV at HB0
  have hbl := right_bd (t_right hu h2)
  have HMY0 := fun W => may_ok (tZ n L f) (tL n L f) (tP n L f) (tZ n L to) (tL n L to) (tP n L to) k W ⟨hbl.1, hbl.2.1⟩
  have hk := in_bd h0.1
  have hp := in_bd h0.2.1
  have hm := may_zero h3
  have HC0 := fun (W : World) (q : MemAt W p g n L) (b c : Nat) (N : Blk W b 3 #[.int .i64 k]) (M : Blk W c 3 #[.int .i64 pr]) => change_give2 q hu to N M h2 (right_mk ⟨by omega, hm.2.2, hp.1, hp.2, fun e => by rw [hm.1] at e; cases e⟩)
  have I00 := in_ok k 1 1048576
  have I10 := in_ok pr 0 255
  rw [h0.1] at I00
  rw [h0.2.1] at I10
  have I0 := Lib.hid I00
  have I1 := Lib.hid I10
  have hb := h0.2.2
  have hbb : (f == to) = false := by rw [beq_eq_false_iff_ne]; exact hb
  have HA0 := fun (W : World) (q : MemAt W p g n L) => Tcap.get_ok q hu f
  unfold tV at HA0
  rw [h1] at HA0
  rw [h2] at HB0
  rw [h3] at HMY0
  clear hbl hm hk hp h3
  generalize tZ n L f = az at *
  generalize tL n L f = al at *
  generalize tP n L f = ap at *
  generalize tZ n L to = bz at *
  generalize tL n L to = bl at *
  generalize tP n L to = bt at *
  subst h4
  have HB := Lib.hid HB0
  have HMY := Lib.hid HMY0
  have HC := Lib.hid HC0
  clear HB0 HMY0 HC0 h1 h2
  have HA := Lib.hid HA0
  clear I00 I10 HA0
  clear h0 hu
  obtain ⟨bn, en⟩ : ∃ q, w.heap.size = q := ⟨_, rfl⟩
  have N := Blk.new' w 3 #[.int .i64 k] en
  obtain ⟨bp, eb⟩ : ∃ q, bn + 1 = q := ⟨_, rfl⟩
  have P := Blk.new' (g := bp) (w.alloc (.cells #[.int .i64 k] 3)) 3 #[.int .i64 pr] (by simp; omega)
  replace N := N.alloc (.cells #[.int .i64 pr] 3)
  replace h := (h.alloc (.cells #[.int .i64 k] 3)).alloc (.cells #[.int .i64 pr] 3)
  have K := ((Chg.refl [g] w).alloc (.cells #[.int .i64 k] 3)).alloc (.cells #[.int .i64 pr] 3)
  have n0 := N.cell 0
  have m0 := P.cell 0
  go_enter Try.func23, Try.ntmps23
  go_wp2_with fail
  refine Calls.mono (I0.out _) ?_
  rintro x w1 ⟨rfl, rfl⟩
  go_wp2_with fail
  refine Calls.mono (I1.out _) ?_
  rintro x w1 ⟨rfl, rfl⟩
  go_wp2_with fail
  refine Calls.mono (HA.out _ h) ?_
  rintro x w2 ⟨rfl, k2⟩
  clear HA n0 m0
  obtain ⟨da, ea⟩ : ∃ q, w2.heap.size = q := ⟨_, rfl⟩
  have A := Blk.new' w2 23 (tcC true al ap) ea
  replace h := (h.chg0 k2).alloc (.cells (tcC true al ap) 23)
  replace N := (N.chg k2 (by simp)).alloc (.cells (tcC true al ap) 23)
  replace P := (P.chg k2 (by simp)).alloc (.cells (tcC true al ap) 23)
  replace K := (K.trans k2 (by simp)).alloc (.cells (tcC true al ap) 23)
  clear k2
  go_wp2_with fail
  refine Calls.mono (HB.out _ h) ?_
  rintro x w3 ⟨rfl, k2⟩
  clear HB
  obtain ⟨db, ebb⟩ : ∃ q, w3.heap.size = q := ⟨_, rfl⟩
  have B := Blk.new' w3 23 (tcC bz bl bt) ebb
  replace h := (h.chg0 k2).alloc (.cells (tcC bz bl bt) 23)
  replace N := (N.chg k2 (by simp)).alloc (.cells (tcC bz bl bt) 23)
  replace P := (P.chg k2 (by simp)).alloc (.cells (tcC bz bl bt) 23)
  replace A := (A.chg k2 (by simp)).alloc (.cells (tcC bz bl bt) 23)
  replace K := (K.trans k2 (by simp)).alloc (.cells (tcC bz bl bt) 23)
  clear k2
  obtain ⟨a0, a1, a2⟩ := blk3 A
  obtain ⟨b0, b1, b2⟩ := blk3 B
  have n0 := N.cell 0
  go_wp2_with fail
  refine Calls.mono (HMY.out _) ?_
  rintro x w4 ⟨rfl, k2⟩
  clear HMY a0 a1 a2 b0 b1 b2 n0
  replace h := h.chg0 k2
  replace N := N.chg k2 (by simp)
  replace P := P.chg k2 (by simp)
  replace A := A.chg k2 (by simp)
  replace K := K.trans k2 (by simp)
  clear k2 B
  obtain ⟨a0, a1, a2⟩ := blk3 A
  go_wp2_with fail
  refine Calls.mono (HC.out _ h _ _ N P) ?_
  rintro x w5 ⟨rfl, m5, k5⟩
  replace K := K.trans k5 (by simp)
  go_wp2
  go_ret
  exact ⟨rfl, m5, K⟩
theorem give_h {w : World} {p g n : Nat} {L : List Int} (h : MemAt w p g n L) (hu : U64 L) (f to k pr : Int) (h0 : gvB f to k pr) (h1 : tE n L f = 0) (h2 : tE n L to = 0) (h3 : mayE (tZ n L f) (tL n L f) (tZ n L to) (tL n L to) k = 0) (h4 : tZ n L f = false) : Calls Try.prog 23 #[.pointer (some ⟨p, 0, none⟩), .int .i64 f, .int .i64 to, .int .i64 k, .int .i64 pr] w fun x w' => x = .returned (.int .i64 0) ∧ MemAt w' p g n (layL n (layL n L f 4 [b2i (tZ n L f), tL n L f - k, tP n L f]) to 4 [b2i (tZ n L to), tL n L to + k, pr]) ∧ Chg [g] w w' := by
  have HB0 := fun (W : World) (q : MemAt W p g n L) => Tcap.get_ok q hu to
  unfold tV at HB0
  have hbl := right_bd (t_right hu h2)
  have HMY0 := fun W => may_ok (tZ n L f) (tL n L f) (tP n L f) (tZ n L to) (tL n L to) (tP n L to) k W ⟨hbl.1, hbl.2.1⟩
  have hk := in_bd h0.1
  have hp := in_bd h0.2.1
  have hm := may_zero h3
  have hal := right_bd (t_right hu h1)
  have hr1 : rightC (tZ n L f) (tL n L f - k) (tP n L f) = true := right_mk ⟨by have := hm.2.1 h4; omega, by omega, hal.2.2.1, hal.2.2.2.1, fun e => by rw [h4] at e; cases e⟩
  have hf := isE_in (tE_is h1)
  have hne := lay_ne (g := to) (xs := [b2i (tZ n L f), tL n L f - k, tP n L f]) h.len hf (by simp) (fun e => h0.2.2 e.symm)
  have u1 := lay_u64 (n := n) (f := f) (b := 4) [b2i (tZ n L f), tL n L f - k, tP n L f] hu (right_u64 hr1)
  have HD0 := fun (W : World) (q : MemAt W p g n L) (b : Nat) (N : Blk W b 3 #[.int .i64 k]) => change_give1 q hu f N h1 hr1
  have HC0 := fun (W : World) (q : MemAt W p g n (layL n L f 4 [b2i (tZ n L f), tL n L f - k, tP n L f])) (b c : Nat) (N : Blk W b 3 #[.int .i64 k]) (M : Blk W c 3 #[.int .i64 pr]) => change_give2 q u1 to N M (hne.1.trans h2) (by rw [hne.2.1, hne.2.2.1]; exact right_mk ⟨by omega, hm.2.2, hp.1, hp.2, fun e => by rw [hm.1] at e; cases e⟩)
  rw [hne.2.1, hne.2.2.1] at HC0
  generalize layL n L f 4 [b2i (tZ n L f), tL n L f - k, tP n L f] = L1 at *
  have I00 := in_ok k 1 1048576
  have I10 := in_ok pr 0 255
  rw [h0.1] at I00
  rw [h0.2.1] at I10
  have I0 := Lib.hid I00
  have I1 := Lib.hid I10
  have hb := h0.2.2
  have hbb : (f == to) = false := by rw [beq_eq_false_iff_ne]; exact hb
  have HA0 := fun (W : World) (q : MemAt W p g n L) => Tcap.get_ok q hu f
  unfold tV at HA0
  rw [h1] at HA0
  rw [h2] at HB0
  rw [h3] at HMY0
  clear hbl hm hk hp h3 hal hr1 hf hne u1
  generalize tZ n L f = az at *
  generalize tL n L f = al at *
  generalize tP n L f = ap at *
  generalize tZ n L to = bz at *
  generalize tL n L to = bl at *
  generalize tP n L to = bt at *
  subst h4
  have HB := Lib.hid HB0
  have HMY := Lib.hid HMY0
  have HC := Lib.hid HC0
  have HD := Lib.hid HD0
  clear HB0 HMY0 HC0 HD0 h1 h2
  have HA := Lib.hid HA0
  clear I00 I10 HA0
  clear h0 hu
  obtain ⟨bn, en⟩ : ∃ q, w.heap.size = q := ⟨_, rfl⟩
  have N := Blk.new' w 3 #[.int .i64 k] en
  obtain ⟨bp, eb⟩ : ∃ q, bn + 1 = q := ⟨_, rfl⟩
  have P := Blk.new' (g := bp) (w.alloc (.cells #[.int .i64 k] 3)) 3 #[.int .i64 pr] (by simp; omega)
  replace N := N.alloc (.cells #[.int .i64 pr] 3)
  replace h := (h.alloc (.cells #[.int .i64 k] 3)).alloc (.cells #[.int .i64 pr] 3)
  have K := ((Chg.refl [g] w).alloc (.cells #[.int .i64 k] 3)).alloc (.cells #[.int .i64 pr] 3)
  have n0 := N.cell 0
  have m0 := P.cell 0
  go_enter Try.func23, Try.ntmps23
  go_wp2_with fail
  refine Calls.mono (I0.out _) ?_
  rintro x w1 ⟨rfl, rfl⟩
  go_wp2_with fail
  refine Calls.mono (I1.out _) ?_
  rintro x w1 ⟨rfl, rfl⟩
  go_wp2_with fail
  refine Calls.mono (HA.out _ h) ?_
  rintro x w2 ⟨rfl, k2⟩
  clear HA n0 m0
  obtain ⟨da, ea⟩ : ∃ q, w2.heap.size = q := ⟨_, rfl⟩
  have A := Blk.new' w2 23 (tcC false al ap) ea
  replace h := (h.chg0 k2).alloc (.cells (tcC false al ap) 23)
  replace N := (N.chg k2 (by simp)).alloc (.cells (tcC false al ap) 23)
  replace P := (P.chg k2 (by simp)).alloc (.cells (tcC false al ap) 23)
  replace K := (K.trans k2 (by simp)).alloc (.cells (tcC false al ap) 23)
  clear k2
  go_wp2_with fail
  refine Calls.mono (HB.out _ h) ?_
  rintro x w3 ⟨rfl, k2⟩
  clear HB
  obtain ⟨db, ebb⟩ : ∃ q, w3.heap.size = q := ⟨_, rfl⟩
  have B := Blk.new' w3 23 (tcC bz bl bt) ebb
  replace h := (h.chg0 k2).alloc (.cells (tcC bz bl bt) 23)
  replace N := (N.chg k2 (by simp)).alloc (.cells (tcC bz bl bt) 23)
  replace P := (P.chg k2 (by simp)).alloc (.cells (tcC bz bl bt) 23)
  replace A := (A.chg k2 (by simp)).alloc (.cells (tcC bz bl bt) 23)
  replace K := (K.trans k2 (by simp)).alloc (.cells (tcC bz bl bt) 23)
  clear k2
  obtain ⟨a0, a1, a2⟩ := blk3 A
  obtain ⟨b0, b1, b2⟩ := blk3 B
  have n0 := N.cell 0
  go_wp2_with fail
  refine Calls.mono (HMY.out _) ?_
  rintro x w4 ⟨rfl, k2⟩
  clear HMY a0 a1 a2 b0 b1 b2 n0
  replace h := h.chg0 k2
  replace N := N.chg k2 (by simp)
  replace P := P.chg k2 (by simp)
  replace A := A.chg k2 (by simp)
  replace K := K.trans k2 (by simp)
  clear k2 B
  obtain ⟨a0, a1, a2⟩ := blk3 A
  have hNg : bn ≠ g := Blk.ne_ N h.row (by decide)
  have hPg : bp ≠ g := Blk.ne_ P h.row (by decide)
  go_wp2_with fail
  refine Calls.mono (HD.out _ h _ N) ?_
  rintro x w5 ⟨rfl, m5, k5⟩
  replace K := K.trans k5 (by simp)
  replace N := N.chg k5 (by simpa using hNg)
  replace P := P.chg k5 (by simpa using hPg)
  clear k5 HD h A a0 a1 a2
  go_wp2_with fail
  refine Calls.mono (HC.out _ m5 _ _ N P) ?_
  rintro x w6 ⟨rfl, m6, k6⟩
  replace K := K.trans k6 (by simp)
  go_wp2
  go_ret
  exact ⟨rfl, m6, K⟩
theorem give_ok {w : World} {p g n : Nat} {L : List Int} (h : MemAt w p g n L) (hu : U64 L) (f to k pr : Int)  : Calls Try.prog 23 #[.pointer (some ⟨p, 0, none⟩), .int .i64 f, .int .i64 to, .int .i64 k, .int .i64 pr] w fun x w' => x = .returned (.int .i64 (gvE n L f to k pr)) ∧ MemAt w' p g n (gvL n L f to k pr) ∧ Chg [g] w w' := by
  unfold gvE gvL
  by_cases h0 : gvB f to k pr
  · rw [if_pos h0]
    by_cases h1 : tE n L f = 0
    · rw [if_pos h1]
      by_cases h2 : tE n L to = 0
      · rw [if_pos h2]
        by_cases h3 : mayE (tZ n L f) (tL n L f) (tZ n L to) (tL n L to) k = 0
        · have hok : gvOk n L f to k pr := ⟨h0, h1, h2, h3⟩
          rw [if_pos hok, h3]
          unfold gv1
          cases h4 : tZ n L f
          · rw [if_neg (by simp)]
            have := give_h h hu f to k pr h0 h1 h2 h3 h4
            rw [h4] at this
            exact this
          · rw [if_pos rfl]
            exact give_g h hu f to k pr h0 h1 h2 h3 h4
        · rw [if_neg (show ¬ gvOk n L f to k pr from fun q => h3 q.2.2.2)]
          exact give_f h hu f to k pr h0 h1 h2 h3
      · rw [if_neg h2, if_neg (show ¬ gvOk n L f to k pr from fun q => h2 q.2.2.1)]
        exact give_e h hu f to k pr h0 h1 h2
    · rw [if_neg h1, if_neg (show ¬ gvOk n L f to k pr from fun q => h1 q.2.1)]
      exact give_d h hu f to k pr h0 h1
  · rw [if_neg h0, if_neg (show ¬ gvOk n L f to k pr from fun q => h0 q.1)]
    by_cases h1 : inI k 1 1048576 = true
    · by_cases h2 : inI pr 0 255 = true
      · by_cases h3 : f = to
        · exact give_c h hu f to k pr h1 h2 h3
        · exact absurd ⟨h1, h2, h3⟩ h0
      · exact give_b h hu f to k pr h1 (by simpa using h2)
    · exact give_a h hu f to k pr (by simpa using h1)
end Go.Proofs.Ytknbeklplmhheaa.TcapGive
