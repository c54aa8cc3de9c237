/- ThdBack's walk. -/
import Derived.Test.YtknbeklplmhheaaThdLaw
import Derived.Test.YtknbeklplmhheaaThdZero
import Derived.Test.YtknbeklplmhheaaWords18
namespace Go.Proofs.Ytknbeklplmhheaa.ThdBack
open Go Go.RowKit Go.Proofs.Ytknbeklplmhheaa Go.Proofs.Ytknbeklplmhheaa.Heap Go.Proofs.Ytknbeklplmhheaa.Mem Go.Proofs.Ytknbeklplmhheaa.Two Go.Proofs.Ytknbeklplmhheaa.Head Go.Proofs.Ytknbeklplmhheaa.Thd Go.Proofs.Ytknbeklplmhheaa.ThdGet Go.Proofs.Ytknbeklplmhheaa.ThdPut Go.Proofs.Ytknbeklplmhheaa.ThdRegs Go.Proofs.Ytknbeklplmhheaa.ThdLaw Go.Proofs.Ytknbeklplmhheaa.Regs Go.Proofs.Ytknbeklplmhheaa.Lay

theorem blk_nums {w : World} {b t : Nat} {R : List Int} (h : Blk w b t (nums .u64 R).toArray) (hR : R.length = 8) : Nums w .u64 (some ⟨b, 0, none⟩) 8 R := by
  have := Nums.of_blk (k := .u64) (o := 0) (xs := R) h (by omega) (fun j hj => by rw [Nat.zero_add, List.getElem?_toArray, nums_get _ _ _ hj])
  rw [hR] at this
  exact this
theorem u8_zero : U64 [0, 0, 0, 0, 0, 0, 0, 0] := U64.rep 8
theorem loaded_len {l : List Int} : (loaded [0, 0, 0, 0, 0, 0, 0, 0] l).length = 8 := by
  unfold loaded
  split
  · assumption
  · rfl
theorem loaded_u {l : List Int} (h : U64 l) : U64 (loaded [0, 0, 0, 0, 0, 0, 0, 0] l) := by
  unfold loaded
  split
  · exact h
  · exact u8_zero
set_option maxRecDepth 100000
set_option maxHeartbeats 8000000
theorem thdBack_walk (a b c d e a' b' c' d' e' : Int) (A : Option Addr) (n cc : Nat) (l : List Int) (w : World) (hx : Nums w .u64 A n l) (hu : U64 l) :
    Calls Try.prog 7 #[numV a b c d e, numV a' b' c' d' e', .slice A n cc] w fun x w' => x = .returned (.bool true) ∧ Chg [] w w' := by
  have HX := Lib.hid hx
  have uR := Lib.hid (loaded_u hu)
  have lR := Lib.hid (loaded_len (l := l))
  clear hx hu
  obtain ⟨b3, e3⟩ : ∃ q, w.heap.size = q := ⟨_, rfl⟩
  have B3 := Blk.new' w 43 (numC a b c d e) e3
  obtain ⟨b4, e4⟩ : ∃ q, b3 + 1 = q := ⟨_, rfl⟩
  have B4 := Blk.new' (g := b4) (w.alloc (.cells (numC a b c d e) 43)) 43 (numC a' b' c' d' e') (by simp; omega)
  replace B3 := B3.alloc (.cells (numC a' b' c' d' e') 43)
  have K := ((Chg.refl [] w).alloc (.cells (numC a b c d e) 43)).alloc (.cells (numC a' b' c' d' e') 43)
  go_enter Try.func7, Try.ntmps7
  go_wp2_with fail
  refine Calls.mono (Mem.new_ok 1 (by decide) (by decide) _) ?_
  rintro x w1 ⟨p, g, rfl, m1, hp, hg, k1⟩
  replace B3 := B3.chg k1 (by simp)
  replace B4 := B4.chg k1 (by simp)
  replace hg : w.heap.size ≤ g := Nat.le_trans K.size hg
  replace K := K.trans k1 (by simp)
  clear k1 hp
  go_wp2_with fail
  refine Calls.mono (Regs.new_fresh _) ?_
  rintro x w2 ⟨r, rfl, hr, R1, k1⟩
  replace B3 := B3.chg k1 (by simp)
  replace B4 := B4.chg k1 (by simp)
  replace m1 := m1.chg0 k1
  replace hr : w.heap.size ≤ r := Nat.le_trans K.size hr
  replace K := K.trans k1 (by simp)
  clear k1
  go_wp2_with fail
  refine Calls.mono (Regs.new_fresh _) ?_
  rintro x w3 ⟨s, rfl, hs, S1, k1⟩
  replace B3 := B3.chg k1 (by simp)
  replace B4 := B4.chg k1 (by simp)
  replace m1 := m1.chg0 k1
  have hrs : r ≠ s := by have := R1.2.lt; omega
  replace R1 := R1.chg k1 (by simp)
  replace hs : w.heap.size ≤ s := Nat.le_trans K.size hs
  replace K := K.trans k1 (by simp)
  clear k1
  have hrg : r ≠ g := Blk.ne_ R1.2 m1.row (by decide)
  have hrp : r ≠ p := Blk.ne_ R1.2 m1.hd (by decide)
  have hsg : s ≠ g := Blk.ne_ S1.2 m1.row (by decide)
  have hsp : s ≠ p := Blk.ne_ S1.2 m1.hd (by decide)
  have h3g : b3 ≠ g := Blk.ne_ B3 m1.row (by decide)
  have h4g : b4 ≠ g := Blk.ne_ B4 m1.row (by decide)
  have h3r : b3 ≠ r := Blk.ne_ B3 R1.2 (by decide)
  have h4r : b4 ≠ r := Blk.ne_ B4 R1.2 (by decide)
  have h3s : b3 ≠ s := Blk.ne_ B3 S1.2 (by decide)
  have h4s : b4 ≠ s := Blk.ne_ B4 S1.2 (by decide)
  cases hR : rightT a b c d e
  · have HC := ThdPut.check_ok a b c d e
    rw [hR] at HC
    have HC' := Lib.hid HC
    have HM := ThdPut.make_arg m1 0 a b c d e hR
    have HM' := Lib.hid HM
    clear HC HM m1 R1 S1 h3r h4r h3s h4s hrg hrp hsg hsp hR
    obtain ⟨c0, c1, c2, c3, c4⟩ := blk5 B3
    go_wp2_with fail
    refine Calls.mono HM'.out ?_
    rintro x w4 ⟨rfl, -, k1⟩
    replace B3 := B3.chg k1 (by simpa using h3g)
    replace K := K.trans k1 (by intro s hs; right; simp at hs; omega)
    clear k1 c0 c1 c2 c3 c4
    obtain ⟨c0, c1, c2, c3, c4⟩ := blk5 B3
    go_wp2_with fail
    refine Calls.mono (HC'.out _) ?_
    rintro x w5 ⟨rfl, k1⟩
    replace K := K.trans k1 (by simp)
    clear k1 c0 c1 c2 c3 c4
    go_wp2_with fail
    refine Calls.mono (ThdZero.awake_ok _) ?_
    rintro x w6 ⟨rfl, k1⟩
    replace K := K.trans k1 (by simp)
    go_wp2
    go_ret
    exact ⟨rfl, K⟩
  · have HM := ThdPut.make_yes m1 0 a b c d e hR ⟨by decide, by decide⟩
    have H1 := make5 m1.len (U64.rep 36) (f := 0) ⟨by decide, by decide⟩ hR
    generalize layL 1 (HeadIs.hmakeL 1 (List.replicate (36 * 1) 0) 0 4 0 false 0) 0 4 [a, b, c, d, e] = L1 at *
    have HM' := Lib.hid HM
    have HH := Lib.hid H1
    clear HM H1 m1
    obtain ⟨c0, c1, c2, c3, c4⟩ := blk5 B3
    go_wp2_with fail
    refine Calls.mono HM'.out ?_
    rintro x w4 ⟨rfl, m1, k1⟩
    clear HM' c0 c1 c2 c3 c4
    replace B3 := B3.chg k1 (by simpa using h3g)
    replace B4 := B4.chg k1 (by simpa using h4g)
    replace R1 := R1.chg k1 (by simpa using hrg)
    replace S1 := S1.chg k1 (by simpa using hsg)
    replace K := K.trans k1 (by intro s hs; right; simp at hs; omega)
    clear k1
    have HG := ThdGet.get_ok m1 HH.out.u 0
    rw [HH.out.v, HH.out.ev] at HG
    have HG' := Lib.hid HG
    clear HG
    go_wp2_with fail
    refine Calls.mono HG'.out ?_
    rintro x w5 ⟨rfl, k1⟩
    clear HG'
    obtain ⟨d1, ed1⟩ : ∃ q, w5.heap.size = q := ⟨_, rfl⟩
    have D1 := Blk.new' w5 43 (numC a b c d e) ed1
    replace B3 := (B3.chg k1 (by simp)).alloc (.cells (numC a b c d e) 43)
    replace B4 := (B4.chg k1 (by simp)).alloc (.cells (numC a b c d e) 43)
    replace R1 := (R1.chg k1 (by simp)).chg ((Chg.refl [] w5).alloc (.cells (numC a b c d e) 43)) (by simp)
    replace S1 := (S1.chg k1 (by simp)).chg ((Chg.refl [] w5).alloc (.cells (numC a b c d e) 43)) (by simp)
    replace m1 := (m1.chg0 k1).alloc (.cells (numC a b c d e) 43)
    replace K := (K.trans k1 (by simp)).alloc (.cells (numC a b c d e) 43)
    clear k1
    have hdg : d1 ≠ g := Blk.ne_ D1 m1.row (by decide)
    have hdr : d1 ≠ r := Blk.ne_ D1 R1.2 (by decide)
    have hds : d1 ≠ s := Blk.ne_ D1 S1.2 (by decide)
    have HL := Regs.load_any R1 A n cc l (HX.out.chg K (by simp))
    have HL' := Lib.hid HL
    clear HL
    go_wp2_with fail
    refine Calls.mono HL'.out ?_
    rintro x w6 ⟨rfl, R2, k1⟩
    clear HL' R1
    replace B3 := B3.chg k1 (by simpa using h3r)
    replace B4 := B4.chg k1 (by simpa using h4r)
    replace D1 := D1.chg k1 (by simpa using hdr)
    replace S1 := S1.chg k1 (by simpa using hrs.symm)
    replace m1 := m1.chg k1 (by simpa using hrp.symm) (by simpa using hrg.symm)
    replace K := K.trans k1 (by intro s hs; right; simp at hs; omega)
    clear k1
    have HS := ThdRegs.save_ok m1 HH.out.u 0 R2
    rw [HH.out.is, if_pos rfl, if_pos rfl] at HS
    have H2 := regs8 HH.out lR.out uR.out
    generalize loaded [0, 0, 0, 0, 0, 0, 0, 0] l = R at *
    generalize layL 1 L1 0 9 R = L2 at *
    have HS' := Lib.hid HS
    have H2' := Lib.hid H2
    clear HS H2
    go_wp2_with fail
    refine Calls.mono HS'.out ?_
    rintro x w7 ⟨rfl, m2, k1⟩
    clear HS' m1
    replace B3 := B3.chg k1 (by simpa using h3g)
    replace B4 := B4.chg k1 (by simpa using h4g)
    replace D1 := D1.chg k1 (by simpa using hdg)
    replace R2 := R2.chg k1 (by simpa using hrg)
    replace S1 := S1.chg k1 (by simpa using hsg)
    replace K := K.trans k1 (by intro s hs; right; simp at hs; omega)
    clear k1
    cases hR2 : rightT a' b' c' d' e'
    · have HP := ThdPut.put_arg m2 0 a' b' c' d' e' hR2
      have HLr : ldR 1 L2 0 = R := H2'.out.2
      have H3 := H2'.out.1
      obtain ⟨L3, eL⟩ : ∃ L3, L3 = L2 := ⟨_, rfl⟩
      rw [← eL] at HP HLr H3
      clear eL H2' m2
      have HC := ThdPut.check_ok a' b' c' d' e'
      rw [hR2] at HC
      have HC' := Lib.hid HC
      have HP' := Lib.hid HP
      have H3' := Lib.hid H3
      have HLr' := Lib.hid HLr
      clear HC HP H3 HLr hR hR2 HH
      obtain ⟨c0, c1, c2, c3, c4⟩ := blk5 B4
      go_wp2_with fail
      refine Calls.mono HP'.out ?_
      rintro x w8 ⟨rfl, m3, k1⟩
      clear HP' c0 c1 c2 c3 c4
      replace B3 := B3.chg k1 (by simpa using h3g)
      replace B4 := B4.chg k1 (by simpa using h4g)
      replace D1 := D1.chg k1 (by simpa using hdg)
      replace R2 := R2.chg k1 (by simpa using hrg)
      replace S1 := S1.chg k1 (by simpa using hsg)
      replace K := K.trans k1 (by intro s hs; right; simp at hs; omega)
      clear k1
      have HL := ThdRegs.load_ok m3 H3'.out.u 0 S1
      rw [H3'.out.is, if_pos rfl, if_pos rfl, HLr'.out] at HL
      have HL' := Lib.hid HL
      clear HL HLr'
      go_wp2_with fail
      refine Calls.mono HL'.out ?_
      rintro x w9 ⟨rfl, S2, k1⟩
      clear HL' S1
      replace B3 := B3.chg k1 (by simpa using h3s)
      replace B4 := B4.chg k1 (by simpa using h4s)
      replace D1 := D1.chg k1 (by simpa using hds)
      replace R2 := R2.chg k1 (by simpa using hrs)
      replace m3 := m3.chg k1 (by simpa using hsp.symm) (by simpa using hsg.symm)
      replace K := K.trans k1 (by intro s hs; right; simp at hs; omega)
      clear k1
      have HG := ThdGet.get_ok m3 H3'.out.u 0
      rw [H3'.out.v, H3'.out.ev] at HG
      have HG' := Lib.hid HG
      clear HG H3' m3
      go_wp2_with fail
      refine Calls.mono HG'.out ?_
      rintro x w10 ⟨rfl, k1⟩
      clear HG'
      obtain ⟨d2, ed2⟩ : ∃ q, w10.heap.size = q := ⟨_, rfl⟩
      have D2 := Blk.new' w10 43 (numC a b c d e) ed2
      replace B3 := (B3.chg k1 (by simp)).alloc (.cells (numC a b c d e) 43)
      replace B4 := (B4.chg k1 (by simp)).alloc (.cells (numC a b c d e) 43)
      replace D1 := (D1.chg k1 (by simp)).alloc (.cells (numC a b c d e) 43)
      replace R2 := (R2.chg k1 (by simp)).chg ((Chg.refl [] w10).alloc (.cells (numC a b c d e) 43)) (by simp)
      replace S2 := (S2.chg k1 (by simp)).chg ((Chg.refl [] w10).alloc (.cells (numC a b c d e) 43)) (by simp)
      replace K := (K.trans k1 (by simp)).alloc (.cells (numC a b c d e) 43)
      clear k1
      obtain ⟨c0, c1, c2, c3, c4⟩ := blk5 B3
      obtain ⟨q0, q1, q2, q3, q4⟩ := blk5 D1
      go_wp2_with fail
      refine Calls.mono (Regs.all_fresh R2) ?_
      rintro x w11 ⟨y1, rfl, hy1, Y1, k1⟩
      clear c0 c1 c2 c3 c4 q0 q1 q2 q3 q4
      replace B3 := B3.chg k1 (by simp)
      replace B4 := B4.chg k1 (by simp)
      replace D2 := D2.chg k1 (by simp)
      replace S2 := S2.chg k1 (by simp)
      replace K := K.trans k1 (by simp)
      clear k1 R2 hy1
      go_wp2_with fail
      refine Calls.mono (Regs.all_fresh S2) ?_
      rintro x w12 ⟨y2, rfl, hy2, Y2, k1⟩
      replace Y1 := blk_nums (Y1.chg k1 (by simp)) lR.out
      replace Y2 := blk_nums Y2 lR.out
      replace B3 := B3.chg k1 (by simp)
      replace B4 := B4.chg k1 (by simp)
      replace D2 := D2.chg k1 (by simp)
      replace K := K.trans k1 (by simp)
      clear k1 S2 hy2
      have HW := Words18.words_any _ _ 8 8 8 8 _ _ _ Y1 Y2
      rw [decide_eq_true rfl] at HW
      have HW' := Lib.hid HW
      clear HW Y1 Y2
      go_wp2_with fail
      refine Calls.mono HW'.out ?_
      rintro x w13 ⟨rfl, kq, rfl⟩
      clear HW'
      replace B3 := B3.drewN kq
      replace B4 := B4.drewN kq
      replace D2 := D2.drewN kq
      replace K := K.drewN kq
      obtain ⟨c0, c1, c2, c3, c4⟩ := blk5 B4
      go_wp2_with fail
      refine Calls.mono (HC'.out _) ?_
      rintro x w14 ⟨rfl, k1⟩
      clear HC' c0 c1 c2 c3 c4
      replace B3 := B3.chg k1 (by simp)
      replace B4 := B4.chg k1 (by simp)
      replace D2 := D2.chg k1 (by simp)
      replace K := K.trans k1 (by simp)
      clear k1
      obtain ⟨c0, c1, c2, c3, c4⟩ := blk5 B3
      obtain ⟨q0, q1, q2, q3, q4⟩ := blk5 D2
      go_wp2_with fail
      refine Calls.mono (ThdZero.awake_ok _) ?_
      rintro x w15 ⟨rfl, k1⟩
      replace K := K.trans k1 (by simp)
      clear k1 c0 c1 c2 c3 c4 q0 q1 q2 q3 q4
      go_wp2
      go_ret
      exact ⟨rfl, K⟩
    · have HP := ThdPut.put_yes m2 H2'.out.1.u 0 a' b' c' d' e' hR2 H2'.out.1.is
      have HLr : ldR 1 (layL 1 L2 0 4 [a', b', c', d', e']) 0 = R := (put_regs H2'.out.1.len ⟨by decide, by decide⟩).trans H2'.out.2
      have H3 := put5 H2'.out.1 hR2
      generalize layL 1 L2 0 4 [a', b', c', d', e'] = L3 at *
      clear H2' m2
      have HC := ThdPut.check_ok a' b' c' d' e'
      rw [hR2] at HC
      have HC' := Lib.hid HC
      have HP' := Lib.hid HP
      have H3' := Lib.hid H3
      have HLr' := Lib.hid HLr
      clear HC HP H3 HLr hR hR2 HH
      obtain ⟨c0, c1, c2, c3, c4⟩ := blk5 B4
      go_wp2_with fail
      refine Calls.mono HP'.out ?_
      rintro x w8 ⟨rfl, m3, k1⟩
      clear HP' c0 c1 c2 c3 c4
      replace B3 := B3.chg k1 (by simpa using h3g)
      replace B4 := B4.chg k1 (by simpa using h4g)
      replace D1 := D1.chg k1 (by simpa using hdg)
      replace R2 := R2.chg k1 (by simpa using hrg)
      replace S1 := S1.chg k1 (by simpa using hsg)
      replace K := K.trans k1 (by intro s hs; right; simp at hs; omega)
      clear k1
      have HL := ThdRegs.load_ok m3 H3'.out.u 0 S1
      rw [H3'.out.is, if_pos rfl, if_pos rfl, HLr'.out] at HL
      have HL' := Lib.hid HL
      clear HL HLr'
      go_wp2_with fail
      refine Calls.mono HL'.out ?_
      rintro x w9 ⟨rfl, S2, k1⟩
      clear HL' S1
      replace B3 := B3.chg k1 (by simpa using h3s)
      replace B4 := B4.chg k1 (by simpa using h4s)
      replace D1 := D1.chg k1 (by simpa using hds)
      replace R2 := R2.chg k1 (by simpa using hrs)
      replace m3 := m3.chg k1 (by simpa using hsp.symm) (by simpa using hsg.symm)
      replace K := K.trans k1 (by intro s hs; right; simp at hs; omega)
      clear k1
      have HG := ThdGet.get_ok m3 H3'.out.u 0
      rw [H3'.out.v, H3'.out.ev] at HG
      have HG' := Lib.hid HG
      clear HG H3' m3
      go_wp2_with fail
      refine Calls.mono HG'.out ?_
      rintro x w10 ⟨rfl, k1⟩
      clear HG'
      obtain ⟨d2, ed2⟩ : ∃ q, w10.heap.size = q := ⟨_, rfl⟩
      have D2 := Blk.new' w10 43 (numC a' b' c' d' e') ed2
      replace B3 := (B3.chg k1 (by simp)).alloc (.cells (numC a' b' c' d' e') 43)
      replace B4 := (B4.chg k1 (by simp)).alloc (.cells (numC a' b' c' d' e') 43)
      replace D1 := (D1.chg k1 (by simp)).alloc (.cells (numC a' b' c' d' e') 43)
      replace R2 := (R2.chg k1 (by simp)).chg ((Chg.refl [] w10).alloc (.cells (numC a' b' c' d' e') 43)) (by simp)
      replace S2 := (S2.chg k1 (by simp)).chg ((Chg.refl [] w10).alloc (.cells (numC a' b' c' d' e') 43)) (by simp)
      replace K := (K.trans k1 (by simp)).alloc (.cells (numC a' b' c' d' e') 43)
      clear k1
      obtain ⟨c0, c1, c2, c3, c4⟩ := blk5 B3
      obtain ⟨q0, q1, q2, q3, q4⟩ := blk5 D1
      go_wp2_with fail
      refine Calls.mono (Regs.all_fresh R2) ?_
      rintro x w11 ⟨y1, rfl, hy1, Y1, k1⟩
      clear c0 c1 c2 c3 c4 q0 q1 q2 q3 q4
      replace B3 := B3.chg k1 (by simp)
      replace B4 := B4.chg k1 (by simp)
      replace D2 := D2.chg k1 (by simp)
      replace S2 := S2.chg k1 (by simp)
      replace K := K.trans k1 (by simp)
      clear k1 R2 hy1
      go_wp2_with fail
      refine Calls.mono (Regs.all_fresh S2) ?_
      rintro x w12 ⟨y2, rfl, hy2, Y2, k1⟩
      replace Y1 := blk_nums (Y1.chg k1 (by simp)) lR.out
      replace Y2 := blk_nums Y2 lR.out
      replace B3 := B3.chg k1 (by simp)
      replace B4 := B4.chg k1 (by simp)
      replace D2 := D2.chg k1 (by simp)
      replace K := K.trans k1 (by simp)
      clear k1 S2 hy2
      have HW := Words18.words_any _ _ 8 8 8 8 _ _ _ Y1 Y2
      rw [decide_eq_true rfl] at HW
      have HW' := Lib.hid HW
      clear HW Y1 Y2
      go_wp2_with fail
      refine Calls.mono HW'.out ?_
      rintro x w13 ⟨rfl, kq, rfl⟩
      clear HW'
      replace B3 := B3.drewN kq
      replace B4 := B4.drewN kq
      replace D2 := D2.drewN kq
      replace K := K.drewN kq
      obtain ⟨c0, c1, c2, c3, c4⟩ := blk5 B4
      go_wp2_with fail
      refine Calls.mono (HC'.out _) ?_
      rintro x w14 ⟨rfl, k1⟩
      clear HC' c0 c1 c2 c3 c4
      replace B3 := B3.chg k1 (by simp)
      replace B4 := B4.chg k1 (by simp)
      replace D2 := D2.chg k1 (by simp)
      replace K := K.trans k1 (by simp)
      clear k1
      obtain ⟨c0, c1, c2, c3, c4⟩ := blk5 B4
      obtain ⟨q0, q1, q2, q3, q4⟩ := blk5 D2
      go_wp2_with fail
      refine Calls.mono (ThdZero.awake_ok _) ?_
      rintro x w15 ⟨rfl, k1⟩
      replace K := K.trans k1 (by simp)
      clear k1 c0 c1 c2 c3 c4 q0 q1 q2 q3 q4
      go_wp2
      go_ret
      exact ⟨rfl, K⟩
end Go.Proofs.Ytknbeklplmhheaa.ThdBack
