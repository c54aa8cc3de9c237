/- TcapTwice's walk. -/
import Derived.Test.YtknbeklplmhheaaTcapLaw
namespace Go.Proofs.Ytknbeklplmhheaa.TcapTwice
open Go Go.RowKit Go.Proofs.Ytknbeklplmhheaa Go.Proofs.Ytknbeklplmhheaa.Heap Go.Proofs.Ytknbeklplmhheaa.Mem Go.Proofs.Ytknbeklplmhheaa.Two Go.Proofs.Ytknbeklplmhheaa.Head Go.Proofs.Ytknbeklplmhheaa.Tcap Go.Proofs.Ytknbeklplmhheaa.TcapPut Go.Proofs.Ytknbeklplmhheaa.TcapRest Go.Proofs.Ytknbeklplmhheaa.TcapLaw

set_option maxRecDepth 100000
set_option maxHeartbeats 4000000
theorem awake_ok (w : World) : Calls Try.prog 12 #[] w fun e w' => e = .returned (.bool true) ∧ Chg [] w w' := by
  have H1 := Lib.hid (Tcap.check_ok true 1 0)
  have H2 := Lib.hid (Tcap.check_ok false 0 0)
  have K := Chg.refl [] w
  go_enter Try.func12, Try.ntmps12
  go_wp2_with fail
  refine Calls.mono (H1.out _) ?_
  rintro e w1 ⟨rfl, k1⟩
  replace K := K.trans k1 (by simp)
  go_wp2_with fail
  refine Calls.mono (H2.out _) ?_
  rintro e w2 ⟨rfl, k2⟩
  replace K := K.trans k2 (by simp)
  go_wp2
  go_ret
  exact ⟨rfl, K⟩
theorem tcapTwice_walk (z : Bool) (l t a b : Int) (w : World) (ha : 0 ≤ a ∧ a < 65536) (hb : 0 ≤ b ∧ b < 65536) :
    Calls Try.prog 3 #[tcV z l t, .int .u16 a, .int .u16 b] w fun x w' => x = .returned (.bool true) ∧ Chg [] w w' := by
  obtain ⟨q, eq⟩ : ∃ q, w.heap.size = q := ⟨_, rfl⟩
  have Q := Blk.new' w 23 (tcC z l t) eq
  have K := (Chg.refl [] w).alloc (.cells (tcC z l t) 23)
  have wa : IntKind.i64.wrap a = a := by rw [IntKind.wrap_i64]; omega
  have wb : IntKind.i64.wrap b = b := by rw [IntKind.wrap_i64]; omega
  have wab : IntKind.i64.wrap (a + b) = a + b := by rw [IntKind.wrap_i64]; omega
  have HAB := Lib.hid (And.intro ha hb)
  clear ha hb
  go_enter Try.func3, Try.ntmps3
  go_wp2_with fail
  refine Calls.mono (Mem.new_ok 2 (by decide) (by decide) _) ?_
  rintro x w1 ⟨p, g, rfl, m1, hp, hg, k1⟩
  replace Q := Q.chg k1 (by simp)
  replace hg : w.heap.size ≤ g := Nat.le_trans K.size hg
  replace K := K.trans k1 (by simp)
  clear k1 hp
  have hqg : q ≠ g := Blk.ne_ Q m1.row (by decide)
  cases hR : rightC z l t
  · have HC0 := Tcap.check_ok z l t
    rw [hR] at HC0
    have HM := Lib.hid (make_arg m1 0 z l t hR)
    have HC := Lib.hid HC0
    clear HC0 hR m1
    obtain ⟨c0, c1, c2⟩ := blk3 Q
    go_wp2_with fail
    refine Calls.mono HM.out ?_
    rintro x w2 ⟨rfl, -, k1⟩
    replace Q := Q.chg k1 (by simpa using hqg)
    replace K := K.trans k1 (by intro s hs; right; simp at hs; omega)
    clear k1 c0 c1 c2
    obtain ⟨c0, c1, c2⟩ := blk3 Q
    go_wp2_with fail
    refine Calls.mono (HC.out _) ?_
    rintro x w3 ⟨rfl, k1⟩
    replace K := K.trans k1 (by simp)
    clear k1 c0 c1 c2
    go_wp2_with fail
    refine Calls.mono (awake_ok _) ?_
    rintro x w4 ⟨rfl, k1⟩
    replace K := K.trans k1 (by simp)
    go_wp2
    go_ret
    exact ⟨rfl, K⟩
  · have H1 := ho_make (n := 2) m1.len (U64.rep _) (f := 0) ⟨by decide, by decide⟩ hR
    have P1 : Pure 2 _ 0 z l t := pure_make (n := 2) m1.len (f := 0) ⟨by decide, by decide⟩
    have HM := Lib.hid (make_yes m1 0 z l t hR ⟨by decide, by decide⟩)
    generalize Lay.layL 2 (HeadIs.hmakeL 2 (List.replicate (36 * 2) 0) 0 5 0 false 0) 0 4 [b2i z, l, t] = L1 at *
    have G1 := Lib.hid (And.intro H1 P1)
    have HR := Lib.hid hR
    clear H1 P1 m1 hR
    obtain ⟨c0, c1, c2⟩ := blk3 Q
    go_wp2_with fail
    refine Calls.mono HM.out ?_
    rintro x w2 ⟨rfl, m1, k1⟩
    replace Q := Q.chg k1 (by simpa using hqg)
    replace K := K.trans k1 (by intro s hs; right; simp at hs; omega)
    clear k1 c0 c1 c2 HM
    have H2 := ho_make (n := 2) m1.len G1.out.1.u (f := 1) ⟨by decide, by decide⟩ HR.out
    have P2 : Pure 2 _ 1 z l t := pure_make (n := 2) m1.len (f := 1) ⟨by decide, by decide⟩
    have H20 := G1.out.1.make (f := 1) ⟨by decide, by decide⟩ (by decide) HR.out
    have P20 : Pure 2 _ 0 z l t := Pure.make (z := z) (l := l) (t := t) G1.out.2 m1.len (f := 1) ⟨by decide, by decide⟩ (by decide)
    have HM := Lib.hid (make_yes m1 1 z l t HR.out ⟨by decide, by decide⟩)
    generalize Lay.layL 2 (HeadIs.hmakeL 2 L1 1 5 0 false 0) 1 4 [b2i z, l, t] = L2 at *
    have G2 := Lib.hid (And.intro (And.intro H2 P2) (And.intro H20 P20))
    clear H2 P2 H20 P20 m1
    obtain ⟨c0, c1, c2⟩ := blk3 Q
    go_wp2_with fail
    refine Calls.mono HM.out ?_
    rintro x w3 ⟨rfl, m2, k1⟩
    replace K := K.trans k1 (by intro s hs; right; simp at hs; omega)
    clear k1 c0 c1 c2 HM Q hqg
    -- the first charge
    have ka : 0 ≤ a ∧ a ≤ 1048576 := by have := HAB.out; omega
    obtain ⟨e1, e2, e3, e4⟩ := G2.out.2.1.charge ka
    have HC0 := charge_ok m2 G2.out.1.1.u 0 a
    rw [e1] at HC0
    have F1 := G2.out.1.1.charged G2.out.2.1 (by decide) ka
    have P31 : Pure 2 (chL 2 L2 0 a) 1 z l t := by rw [e4]; exact Pure.other G2.out.1.2 m2.len ⟨by decide, by decide⟩ (by simp) (by decide)
    have P30 : Pure 2 (chL 2 L2 0 a) 0 z (cm z l a) t := by rw [e4]; exact Pure.lay G2.out.2.2 m2.len ⟨by decide, by decide⟩
    generalize chL 2 L2 0 a = L3 at *
    generalize chS 2 L2 0 a = s3 at *
    have HC := Lib.hid HC0
    have G3 := Lib.hid (And.intro (And.intro F1 P31) (And.intro e3 P30))
    clear HC0 e1 e2 e3 e4 F1 P31 P30
    go_wp2_with fail
    refine Calls.mono HC.out ?_
    rintro x w4 ⟨rfl, m3, k1⟩
    replace K := K.trans k1 (by intro s hs; right; simp at hs; omega)
    clear k1 HC m2 ka
    -- the second
    have kb : 0 ≤ b ∧ b ≤ 1048576 := by have := HAB.out; omega
    obtain ⟨e1, e2, e3, e4⟩ := G3.out.2.1.charge kb
    have HC0 := charge_ok m3 G3.out.1.1.u 0 b
    rw [e1, e2] at HC0
    have F1 := G3.out.1.1.charged G3.out.2.1 (by decide) kb
    have P31 : Pure 2 (chL 2 L3 0 b) 1 z l t := by rw [e4]; exact Pure.other G3.out.1.2 m3.len ⟨by decide, by decide⟩ (by simp) (by decide)
    have P30 : Pure 2 (chL 2 L3 0 b) 0 z (cm z (cm z l a) b) t := by rw [e4]; exact Pure.lay G3.out.2.2 m3.len ⟨by decide, by decide⟩
    generalize chL 2 L3 0 b = L4 at *
    have HC := Lib.hid HC0
    have G4 := Lib.hid (And.intro (And.intro F1 P31) (And.intro e3 P30))
    clear HC0 e1 e2 e3 e4 F1 P31 P30
    generalize hsx : cs z (cm z l a) b = sx at *
    have SX := Lib.hid hsx
    clear hsx
    go_wp2_with fail
    refine Calls.mono HC.out ?_
    rintro x w5 ⟨rfl, m4, k1⟩
    replace K := K.trans k1 (by intro s hs; right; simp at hs; omega)
    clear k1 HC m3 kb
    -- both at once
    have kab : 0 ≤ a + b ∧ a + b ≤ 1048576 := by have := HAB.out; omega
    obtain ⟨e1, e2, e3, e4⟩ := G4.out.1.1.charge kab
    have HC0 := charge_ok m4 G4.out.1.1.u 1 (a + b)
    have htw : cm z (cm z l a) b = cm z l (a + b) := cm_twice HAB.out.2.1
    have hss : cs z l (a + b) = sx := by
      rw [← SX.out]
      unfold cs
      rw [htw]
    rw [e1, e2, hss] at HC0
    have P31 : Pure 2 (chL 2 L4 1 (a + b)) 1 z (cm z l (a + b)) t := by rw [e4]; exact Pure.lay G4.out.1.2 m4.len ⟨by decide, by decide⟩
    have P30 : Pure 2 (chL 2 L4 1 (a + b)) 0 z (cm z l (a + b)) t := by rw [e4, ← htw]; exact Pure.other G4.out.2.2 m4.len ⟨by decide, by decide⟩ (by simp) (by decide)
    generalize chL 2 L4 1 (a + b) = L5 at *
    have HC := Lib.hid HC0
    have G5 := Lib.hid (And.intro P30 P31)
    clear HC0 e1 e2 e3 e4 P31 P30 htw hss
    go_wp2_with fail
    refine Calls.mono HC.out ?_
    rintro x w6 ⟨rfl, m5, k1⟩
    replace K := K.trans k1 (by intro s hs; right; simp at hs; omega)
    clear k1 HC m4 kab
    have HS0 := Mem.same_ok m5 0 1
    rw [same_two m5.len G5.out.1 G5.out.2] at HS0
    have HS := Lib.hid HS0
    clear HS0 G2 G3 G4 G5 G1
    go_wp2_with fail
    refine Calls.mono HS.out ?_
    rintro x w7 ⟨rfl, k1⟩
    replace K := K.trans k1 (by simp)
    clear k1 m5 HS
    go_wp2_with fail
    refine Calls.mono (awake_ok _) ?_
    rintro x w8 ⟨rfl, k1⟩
    replace K := K.trans k1 (by simp)
    go_wp2
    go_ret
    exact ⟨rfl, K⟩
end Go.Proofs.Ytknbeklplmhheaa.TcapTwice
