/- TcapSum's walk. -/
import Derived.Test.YtknbeklplmhheaaTcapTwice
import Derived.Deep.RegionHeld3
import Derived.OrdersHeld
import Derived.Deep.Cut
import Derived.Deep.CutRange
namespace Go.Proofs.Ytknbeklplmhheaa.TcapSum
open Go Go.RowKit Go.Proofs.Ytknbeklplmhheaa Go.Proofs.Ytknbeklplmhheaa.Heap Go.Proofs.Ytknbeklplmhheaa.Mem Go.Proofs.Ytknbeklplmhheaa.Two Go.Proofs.Ytknbeklplmhheaa.Head Go.Proofs.Ytknbeklplmhheaa.Tcap Go.Proofs.Ytknbeklplmhheaa.TcapPut Go.Proofs.Ytknbeklplmhheaa.TcapGive Go.Proofs.Ytknbeklplmhheaa.TcapRest Go.Proofs.Ytknbeklplmhheaa.TcapLaw

theorem sum2 (L : List Int) : sumT 2 L 2 = tL 2 L 0 + tL 2 L 1 := by
  show (0 + tL 2 L ((0 : Nat) : Int)) + tL 2 L ((1 : Nat) : Int) = _
  rw [Int.zero_add]
  rfl
/-- What a gift between two frames does to them and to the sum. -/
theorem gift {L : List Int} {az bz : Bool} {al bl at_ bt k pr : Int} (A : Ho 2 L 0 az al at_) (B : Ho 2 L 1 bz bl bt) :
    (∃ z1 l1 t1, Ho 2 (gvL 2 L 0 1 k pr) 1 z1 l1 t1) ∧ ((gvE 2 L 0 1 k pr ≠ 0 ∧ sumT 2 (gvL 2 L 0 1 k pr) 2 = sumT 2 L 2) ∨ (gvE 2 L 0 1 k pr = 0 ∧ az = true ∧ sumT 2 (gvL 2 L 0 1 k pr) 2 = sumT 2 L 2 + k ∧ IntKind.i64.wrap (sumT 2 L 2 + k) = sumT 2 L 2 + k) ∨ (gvE 2 L 0 1 k pr = 0 ∧ az = false ∧ sumT 2 (gvL 2 L 0 1 k pr) 2 = sumT 2 L 2)) := by
  by_cases hok : gvOk 2 L 0 1 k pr
  · have hE : gvE 2 L 0 1 k pr = 0 := by
      unfold gvE
      rw [if_pos hok.1, if_pos hok.2.1, if_pos hok.2.2.1]
      exact hok.2.2.2
    have hm := may_zero hok.2.2.2
    have hk := in_bd hok.1.1
    have hp := in_bd hok.1.2.1
    rw [A.z, A.l, B.z, B.l] at hm
    have ra := right_bd A.right
    have rb := right_bd B.right
    have hL : gvL 2 L 0 1 k pr = Lay.layL 2 (gv1 2 L 0 k) 1 4 [b2i bz, bl + k, pr] := by
      unfold gvL
      rw [if_pos hok, B.z, B.l]
    have r1 : rightC bz (bl + k) pr = true := right_mk ⟨by omega, hm.2.2, hp.1, hp.2, fun e => by rw [hm.1] at e; cases e⟩
    cases az
    · have h1 : gv1 2 L 0 k = Lay.layL 2 L 0 4 [b2i false, al - k, at_] := by
        unfold gv1
        rw [A.z, A.l, A.t, if_neg (by simp)]
      have r0 : rightC false (al - k) at_ = true := right_mk ⟨by have := hm.2.1 rfl; omega, by omega, ra.2.2.1, ra.2.2.2.1, fun e => by cases e⟩
      have A1 := A.lay r0
      have B1 := B.other A.val (by decide) r0
      have A2 := A1.other B1.val (by decide) r1
      have B2 := B1.lay r1
      rw [hL, h1]
      refine ⟨⟨_, _, _, B2⟩, .inr (.inr ⟨hE, rfl, ?_⟩)⟩
      rw [sum2, sum2, A2.l, B2.l, A.l, B.l]
      omega
    · have h1 : gv1 2 L 0 k = L := by
        unfold gv1
        rw [A.z, if_pos rfl]
      have A2 := A.other B.val (by decide) r1
      have B2 := B.lay r1
      rw [hL, h1]
      refine ⟨⟨_, _, _, B2⟩, .inr (.inl ⟨hE, rfl, ?_, ?_⟩)⟩
      · rw [sum2, sum2, A2.l, B2.l, A.l, B.l]
        omega
      · rw [sum2, A.l, B.l, IntKind.wrap_i64]
        omega
  · have hL : gvL 2 L 0 1 k pr = L := by unfold gvL; rw [if_neg hok]
    rw [hL]
    refine ⟨⟨_, _, _, B⟩, .inl ⟨fun e => ?_, rfl⟩⟩
    unfold gvE at e
    by_cases h0 : gvB 0 1 k pr
    · rw [if_pos h0, if_pos A.e, if_pos B.e] at e
      exact hok ⟨h0, A.e, B.e, e⟩
    · rw [if_neg h0] at e
      cases e
set_option maxRecDepth 100000
set_option maxHeartbeats 8000000
theorem tcapSum_walk (az : Bool) (al at_ : Int) (bz : Bool) (bl bt k pr c : Int) (w : World) (hc : -9223372036854775808 ≤ c ∧ c < 9223372036854775808) :
    Calls Try.prog 6 #[tcV az al at_, tcV bz bl bt, .int .i64 k, .int .i64 pr, .int .i64 c] w fun x w' => x = .returned (.bool true) ∧ Chg [] w w' := by
  obtain ⟨a, ea⟩ : ∃ q, w.heap.size = q := ⟨_, rfl⟩
  have A := Blk.new' w 23 (tcC az al at_) ea
  obtain ⟨b, eb⟩ : ∃ q, a + 1 = q := ⟨_, rfl⟩
  have B := Blk.new' (g := b) (w.alloc (.cells (tcC az al at_) 23)) 23 (tcC bz bl bt) (by simp; omega)
  replace A := A.alloc (.cells (tcC bz bl bt) 23)
  have K := ((Chg.refl [] w).alloc (.cells (tcC az al at_) 23)).alloc (.cells (tcC bz bl bt) 23)
  have HC := Lib.hid hc
  clear hc
  go_enter Try.func6, Try.ntmps6
  go_wp2_with fail
  refine Calls.mono (Mem.new_ok 2 (by decide) (by decide) _) ?_
  rintro x w1 ⟨p, g, rfl, m1, hp, hg, k1⟩
  replace A := A.chg k1 (by simp)
  replace B := B.chg k1 (by simp)
  replace hg : w.heap.size ≤ g := Nat.le_trans K.size hg
  replace K := K.trans k1 (by simp)
  clear k1 hp
  have hag : a ≠ g := Blk.ne_ A m1.row (by decide)
  have hbg : b ≠ g := Blk.ne_ B m1.row (by decide)
  cases hRa : rightC az al at_
  · have HC0 := Tcap.check_ok az al at_
    rw [hRa] at HC0
    have HM := Lib.hid (make_arg m1 0 az al at_ hRa)
    have HK := Lib.hid HC0
    clear HC0 hRa m1
    obtain ⟨c0, c1, c2⟩ := blk3 A
    go_wp2_with fail
    refine Calls.mono HM.out ?_
    rintro x w2 ⟨rfl, -, k1⟩
    replace A := A.chg k1 (by simpa using hag)
    replace K := K.trans k1 (by intro s hs; right; simp at hs; omega)
    clear k1 c0 c1 c2
    obtain ⟨c0, c1, c2⟩ := blk3 A
    go_wp2_with fail
    refine Calls.mono (HK.out _) ?_
    rintro x w3 ⟨rfl, k1⟩
    replace K := K.trans k1 (by simp)
    clear k1 c0 c1 c2
    go_wp2_with fail
    refine Calls.mono (TcapTwice.awake_ok _) ?_
    rintro x w4 ⟨rfl, k1⟩
    replace K := K.trans k1 (by simp)
    go_wp2
    go_ret
    exact ⟨rfl, K⟩
  · have H1 := ho_make (n := 2) m1.len (U64.rep _) (f := 0) ⟨by decide, by decide⟩ hRa
    have HM := Lib.hid (make_yes m1 0 az al at_ hRa ⟨by decide, by decide⟩)
    generalize Lay.layL 2 (HeadIs.hmakeL 2 (List.replicate (36 * 2) 0) 0 5 0 false 0) 0 4 [b2i az, al, at_] = L1 at *
    have G1 := Lib.hid H1
    have HRa := Lib.hid hRa
    clear H1 m1 hRa
    obtain ⟨c0, c1, c2⟩ := blk3 A
    go_wp2_with fail
    refine Calls.mono HM.out ?_
    rintro x w2 ⟨rfl, m1, k1⟩
    replace A := A.chg k1 (by simpa using hag)
    replace B := B.chg k1 (by simpa using hbg)
    replace K := K.trans k1 (by intro s hs; right; simp at hs; omega)
    clear k1 c0 c1 c2 HM
    cases hRb : rightC bz bl bt
    · have HC0 := Tcap.check_ok az al at_
      have HC1 := Tcap.check_ok bz bl bt
      rw [HRa.out] at HC0
      rw [hRb] at HC1
      have HM := Lib.hid (make_arg m1 1 bz bl bt hRb)
      have HKa := Lib.hid HC0
      have HKb := Lib.hid HC1
      clear HC0 HC1 hRb m1
      obtain ⟨c0, c1, c2⟩ := blk3 B
      go_wp2_with fail
      refine Calls.mono HM.out ?_
      rintro x w3 ⟨rfl, -, k1⟩
      replace A := A.chg k1 (by simpa using hag)
      replace B := B.chg k1 (by simpa using hbg)
      replace K := K.trans k1 (by intro s hs; right; simp at hs; omega)
      clear k1 c0 c1 c2
      obtain ⟨c0, c1, c2⟩ := blk3 A
      go_wp2_with fail
      refine Calls.mono (HKa.out _) ?_
      rintro x w4 ⟨rfl, k1⟩
      replace B := B.chg k1 (by simp)
      replace K := K.trans k1 (by simp)
      clear k1 c0 c1 c2
      obtain ⟨c0, c1, c2⟩ := blk3 B
      go_wp2_with fail
      refine Calls.mono (HKb.out _) ?_
      rintro x w5 ⟨rfl, k1⟩
      replace K := K.trans k1 (by simp)
      clear k1 c0 c1 c2
      go_wp2_with fail
      refine Calls.mono (TcapTwice.awake_ok _) ?_
      rintro x w6 ⟨rfl, k1⟩
      replace K := K.trans k1 (by simp)
      go_wp2
      go_ret
      exact ⟨rfl, K⟩
    · have H2 := ho_make (n := 2) m1.len G1.out.u (f := 1) ⟨by decide, by decide⟩ hRb
      have H20 := G1.out.make (f := 1) ⟨by decide, by decide⟩ (by decide) hRb
      have HM := Lib.hid (make_yes m1 1 bz bl bt hRb ⟨by decide, by decide⟩)
      generalize Lay.layL 2 (HeadIs.hmakeL 2 L1 1 5 0 false 0) 1 4 [b2i bz, bl, bt] = L2 at *
      have G2 := Lib.hid (And.intro H20 H2)
      clear H2 H20 m1 hRb
      obtain ⟨c0, c1, c2⟩ := blk3 B
      go_wp2_with fail
      refine Calls.mono HM.out ?_
      rintro x w3 ⟨rfl, m2, k1⟩
      replace A := A.chg k1 (by simpa using hag)
      replace K := K.trans k1 (by intro s hs; right; simp at hs; omega)
      clear k1 c0 c1 c2 HM B hbg
      have HS0 := sum_ok m2 G2.out.1.u
      obtain ⟨⟨z1, l1, t1, B2⟩, H3⟩ := gift (k := k) (pr := pr) G2.out.1 G2.out.2
      have HG0 := fun (W : World) (q : MemAt W p g 2 L2) => give_ok q G2.out.1.u 0 1 k pr
      have HT0 := fun (W : World) (q : MemAt W p g 2 (gvL 2 L2 0 1 k pr)) => sum_ok q B2.u
      generalize sumT 2 L2 2 = S at *
      generalize gvE 2 L2 0 1 k pr = E at *
      generalize gvL 2 L2 0 1 k pr = L3 at *
      generalize sumT 2 L3 2 = S3 at *
      have HS := Lib.hid HS0
      have HG := Lib.hid HG0
      have HT := Lib.hid HT0
      have HB2 := Lib.hid B2
      have H3' := Lib.hid H3
      clear HS0 HG0 HT0 B2 H3 G2 G1
      go_wp2_with fail
      refine Calls.mono HS.out ?_
      rintro x w4 ⟨rfl, k1⟩
      replace A := A.chg k1 (by simp)
      replace m2 := m2.chg0 k1
      replace K := K.trans k1 (by simp)
      clear k1 HS
      go_wp2_with fail
      refine Calls.mono (HG.out _ m2) ?_
      rintro x w5 ⟨rfl, m3, k1⟩
      replace A := A.chg k1 (by simpa using hag)
      replace K := K.trans k1 (by intro s hs; right; simp at hs; omega)
      clear k1 HG m2
      go_wp2_with fail
      refine Calls.mono (HT.out _ m3) ?_
      rintro x w6 ⟨rfl, k1⟩
      replace A := A.chg k1 (by simp)
      replace m3 := m3.chg0 k1
      replace K := K.trans k1 (by simp)
      clear k1 HT
      go_upto_region 9 with fail
      go_cut [92] from 57 to 91 (fun s92 wx => s92 = .bool false ∧ wx = w6)
      case first =>
        obtain ⟨c0, c1, c2⟩ := blk3 A
        rcases H3'.out with ⟨h1, rfl⟩ | ⟨rfl, rfl, rfl, h2⟩ | ⟨rfl, rfl, rfl⟩
        · have hb : (E != 0) = true := by rw [bne_iff_ne]; exact h1
          have hbb : (E == 0) = false := by rw [beq_eq_false_iff_ne]; exact h1
          clear H3'
          go_wp2
          go_meet
          case rel => exact ⟨by first | rfl | simp, rfl⟩
        · clear H3'
          go_wp2
          go_meet
          case rel => exact ⟨by first | rfl | simp, rfl⟩
        · clear H3'
          go_wp2
          go_meet
          case rel => exact ⟨by first | rfl | simp, rfl⟩
      case rest =>
        obtain ⟨rfl, rfl⟩ := hcut
        clear H3' A hag
        have HG0 := Tcap.get_ok m3 HB2.out.u 1
        unfold tV at HG0
        rw [HB2.out.e, HB2.out.z, HB2.out.l, HB2.out.t] at HG0
        have HG := Lib.hid HG0
        clear HG0
        go_wp2_with fail
        refine Calls.mono HG.out ?_
        rintro x w7 ⟨rfl, k1⟩
        clear HG
        obtain ⟨d1, ed1⟩ : ∃ q, w7.heap.size = q := ⟨_, rfl⟩
        have D1 := Blk.new' w7 23 (tcC z1 l1 t1) ed1
        replace m3 := (m3.chg0 k1).alloc (.cells (tcC z1 l1 t1) 23)
        replace K := (K.trans k1 (by simp)).alloc (.cells (tcC z1 l1 t1) 23)
        clear k1
        have hdg : d1 ≠ g := Blk.ne_ D1 m3.row (by decide)
        by_cases hk : 0 ≤ c ∧ c ≤ 1048576
        · obtain ⟨e1, e2, e3, -⟩ := HB2.out.charge hk
          have HX0 := charge_ok m3 HB2.out.u 1 c
          rw [e1, e2] at HX0
          generalize chL 2 L3 1 c = L4 at *
          have H4 := Lib.hid e3
          have HX := Lib.hid HX0
          have rb := right_bd HB2.out.right
          have hwc : IntKind.i64.wrap (l1 - c) = l1 - c := by rw [IntKind.wrap_i64]; omega
          clear HX0 e1 e2 e3 HC rb
          rcases (by cases z1; by_cases h : l1 - c < 0; exact .inr (.inl ⟨rfl, h⟩); exact .inr (.inr (by by_cases h2 : l1 - c = 0; exact .inl ⟨rfl, h, h2⟩; exact .inr ⟨rfl, h, l1 - c, rfl, by omega⟩)); exact .inl rfl : z1 = true ∨ (z1 = false ∧ l1 - c < 0) ∨ (z1 = false ∧ ¬ l1 - c < 0 ∧ l1 - c = 0) ∨ (z1 = false ∧ ¬ l1 - c < 0 ∧ ∃ m, l1 - c = m ∧ 0 < m)) with rfl | ⟨rfl, hm⟩ | ⟨rfl, hm, hlm⟩ | ⟨rfl, hm, m, hlm, hm0⟩
          · have ecm : cm true l1 c = l1 := by unfold cm; rw [if_pos rfl]
            have ecs : cs true l1 c = false := by unfold cs; rw [if_pos rfl]
            rw [ecs] at HX
            rw [ecm] at H4
            go_wp2_with fail
            refine Calls.mono HX.out ?_
            rintro x w8 ⟨rfl, m4, k1⟩
            clear HX m3 ecm ecs
            replace D1 := D1.chg k1 (by simpa using hdg)
            replace K := K.trans k1 (by intro s hs; right; simp at hs; omega)
            clear k1
            have HG0 := Tcap.get_ok m4 H4.out.u 1
            unfold tV at HG0
            rw [H4.out.e, H4.out.z, H4.out.l, H4.out.t] at HG0
            have HG := Lib.hid HG0
            clear HG0
            go_wp2_with fail
            refine Calls.mono HG.out ?_
            rintro x w9 ⟨rfl, k1⟩
            clear HG
            obtain ⟨d2, ed2⟩ : ∃ q, w9.heap.size = q := ⟨_, rfl⟩
            have D2 := Blk.new' w9 23 (tcC true l1 t1) ed2
            replace D1 := (D1.chg k1 (by simp)).alloc (.cells (tcC true l1 t1) 23)
            replace m4 := (m4.chg0 k1).alloc (.cells (tcC true l1 t1) 23)
            replace K := (K.trans k1 (by simp)).alloc (.cells (tcC true l1 t1) 23)
            clear k1
            have HN0 := fun (W : World) (q : MemAt W p g 2 L4) => can_ok q H4.out.u 1
            have ecan : canB 2 L4 1 = true := by unfold canB; rw [H4.out.e, H4.out.z, H4.out.l]; simp
            rw [ecan] at HN0
            have HN := Lib.hid HN0
            clear HN0 ecan H4 HB2
            go_wp2_with fail
            refine wp_region_held_drew (S := fun V => V.cell? ⟨d1, 0, none⟩ = some (.bool true) ∧ V.cell? ⟨d1, 1, none⟩ = some (.int .i64 l1) ∧ V.cell? ⟨d1, 2, none⟩ = some (.int .i64 t1) ∧ V.cell? ⟨d2, 0, none⟩ = some (.bool true) ∧ V.cell? ⟨d2, 1, none⟩ = some (.int .i64 l1) ∧ V.cell? ⟨d2, 2, none⟩ = some (.int .i64 t1)) (by kernel_rfl) ?_ (fun hHeld => ?_)
            case _ => exact ⟨D1.cell 0, D1.cell 1, D1.cell 2, D2.cell 0, D2.cell 1, D2.cell 2⟩
            replace D1 := D1.drew
            replace D2 := D2.drew
            replace m4 := m4.drew
            have KC := K.drew
            clear K
            refine wpAnyH_take (i := 0) (oi := ?oo1) (v := ?vv1) ?hi1 (by kernel_rfl) ?hf1 (by kernel_rfl) ?hq1 ?hy1 (by assumption) ?rest1
            case hi1 => (simp only [List.getElem?_toArray, List.getElem?_cons_zero] <;> exact rfl)
            case hf1 => kernel_rfl
            case hq1 => exact fun _ _ _ h => h
            case hy1 => exact Or.inl ⟨by rfl, by intro w hSw; (try dsimp only at hSw); go_simp; try with_reducible rfl⟩
            (try simp only [Act.put, List.setIfInBounds_toArray, List.set_cons_zero, List.set_cons_succ])
            refine wpAnyH_take (i := 1) (oi := ?oo2) (v := ?vv2) ?hi2 (by kernel_rfl) ?hf2 (by kernel_rfl) ?hq2 ?hy2 (by assumption) ?rest2
            case hi2 => (simp only [List.getElem?_toArray, List.getElem?_cons_zero, List.getElem?_cons_succ] <;> exact rfl)
            case hf2 => kernel_rfl
            case hq2 => exact fun _ _ _ h => h
            case hy2 => exact Or.inl ⟨by rfl, by intro w hSw; (try dsimp only at hSw); go_simp; try with_reducible rfl⟩
            (try simp only [Act.put, List.setIfInBounds_toArray, List.set_cons_zero, List.set_cons_succ])
            refine wpAnyH_take (i := 2) (oi := ?oo3) (v := ?vv3) ?hi3 (by kernel_rfl) ?hf3 (by kernel_rfl) ?hq3 ?hy3 (by assumption) ?rest3
            case hi3 => (simp only [List.getElem?_toArray, List.getElem?_cons_zero, List.getElem?_cons_succ] <;> exact rfl)
            case hf3 => kernel_rfl
            case hq3 => exact fun _ _ _ h => h
            case hy3 => exact Or.inl ⟨by rfl, by intro w hSw; (try dsimp only at hSw); go_simp; try with_reducible rfl⟩
            (try simp only [Act.put, List.setIfInBounds_toArray, List.set_cons_zero, List.set_cons_succ])
            refine wpAnyH_take (i := 3) (oi := ?oo4) (v := ?vv4) ?hi4 (by kernel_rfl) ?hf4 (by kernel_rfl) ?hq4 ?hy4 (by assumption) ?rest4
            case hi4 => (simp only [List.getElem?_toArray, List.getElem?_cons_zero, List.getElem?_cons_succ] <;> exact rfl)
            case hf4 => kernel_rfl
            case hq4 => exact fun _ _ _ h => h
            case hy4 => exact Or.inl ⟨by rfl, by intro w hSw; (try dsimp only at hSw); go_simp; try with_reducible rfl⟩
            (try simp only [Act.put, List.setIfInBounds_toArray, List.set_cons_zero, List.set_cons_succ])
            refine wpAnyH_take (i := 4) (oi := ?oo5) (v := ?vv5) ?hi5 (by kernel_rfl) ?hf5 (by kernel_rfl) ?hq5 ?hy5 (by assumption) ?rest5
            case hi5 => (simp only [List.getElem?_toArray, List.getElem?_cons_zero, List.getElem?_cons_succ] <;> exact rfl)
            case hf5 => kernel_rfl
            case hq5 => exact fun _ _ _ h => h
            case hy5 => exact Or.inl ⟨by rfl, by intro w hSw; (try dsimp only at hSw); go_simp; try with_reducible rfl⟩
            (try simp only [Act.put, List.setIfInBounds_toArray, List.set_cons_zero, List.set_cons_succ])
            refine wpAnyH_take (i := 5) (oi := ?oo6) (v := ?vv6) ?hi6 (by kernel_rfl) ?hf6 (by kernel_rfl) ?hq6 ?hy6 (by assumption) ?rest6
            case hi6 => (simp only [List.getElem?_toArray, List.getElem?_cons_zero, List.getElem?_cons_succ] <;> exact rfl)
            case hf6 => kernel_rfl
            case hq6 => exact fun _ _ _ h => h
            case hy6 => exact Or.inl ⟨by rfl, by intro w hSw; (try dsimp only at hSw); go_simp; try with_reducible rfl⟩
            (try simp only [Act.put, List.setIfInBounds_toArray, List.set_cons_zero, List.set_cons_succ])
            refine wpAnyH_take (i := 6) (oi := ?oo7) (v := ?vv7) ?hi7 (by kernel_rfl) ?hf7 (by kernel_rfl) ?hq7 ?hy7 (by assumption) ?rest7
            case hi7 => (simp only [List.getElem?_toArray, List.getElem?_cons_zero, List.getElem?_cons_succ] <;> exact rfl)
            case hf7 => kernel_rfl
            case hq7 => exact fun _ _ _ h => h
            case hy7 => exact Or.inl ⟨by rfl, by intro w hSw; (try dsimp only at hSw); go_simp; try with_reducible rfl⟩
            (try simp only [Act.put, List.setIfInBounds_toArray, List.set_cons_zero, List.set_cons_succ])
            refine wpAnyH_take (i := 7) (oi := ?oo8) (v := ?vv8) ?hi8 (by kernel_rfl) ?hf8 (by kernel_rfl) ?hq8 ?hy8 (by assumption) ?rest8
            case hi8 => (simp only [List.getElem?_toArray, List.getElem?_cons_zero, List.getElem?_cons_succ] <;> exact rfl)
            case hf8 => kernel_rfl
            case hq8 => exact fun _ _ _ h => h
            case hy8 => exact Or.inl ⟨by rfl, by intro w hSw; (try dsimp only at hSw); go_simp; try with_reducible rfl⟩
            (try simp only [Act.put, List.setIfInBounds_toArray, List.set_cons_zero, List.set_cons_succ])
            refine wpAnyH_take (i := 8) (oi := ?oo9) (v := ?vv9) ?hi9 (by kernel_rfl) ?hf9 (by kernel_rfl) ?hq9 ?hy9 (by assumption) ?rest9
            case hi9 => (simp only [List.getElem?_toArray, List.getElem?_cons_zero, List.getElem?_cons_succ] <;> exact rfl)
            case hf9 => kernel_rfl
            case hq9 => exact fun _ _ _ h => h
            case hy9 => exact Or.inl ⟨by rfl, by intro w hSw; (try dsimp only at hSw); go_simp; try with_reducible rfl⟩
            (try simp only [Act.put, List.setIfInBounds_toArray, List.set_cons_zero, List.set_cons_succ])
            refine wpAnyH_take (i := 9) (oi := ?oo10) (v := ?vv10) ?hi10 (by kernel_rfl) ?hf10 (by kernel_rfl) ?hq10 ?hy10 (by assumption) ?rest10
            case hi10 => (simp only [List.getElem?_toArray, List.getElem?_cons_zero, List.getElem?_cons_succ] <;> exact rfl)
            case hf10 => kernel_rfl
            case hq10 => exact fun _ _ _ h => h
            case hy10 => exact Or.inl ⟨by rfl, by intro w hSw; (try dsimp only at hSw); go_simp; try with_reducible rfl⟩
            (try simp only [Act.put, List.setIfInBounds_toArray, List.set_cons_zero, List.set_cons_succ])
            refine wpAnyH_take (i := 10) (oi := ?oo11) (v := ?vv11) ?hi11 (by kernel_rfl) ?hf11 (by kernel_rfl) ?hq11 ?hy11 (by assumption) ?rest11
            case hi11 => (simp only [List.getElem?_toArray, List.getElem?_cons_zero, List.getElem?_cons_succ] <;> exact rfl)
            case hf11 => kernel_rfl
            case hq11 => exact fun _ _ _ h => h
            case hy11 => exact Or.inl ⟨by rfl, by intro w hSw; (try dsimp only at hSw); go_simp; try with_reducible rfl⟩
            (try simp only [Act.put, List.setIfInBounds_toArray, List.set_cons_zero, List.set_cons_succ])
            refine wpAnyH_take (i := 11) (oi := ?oo12) (v := ?vv12) ?hi12 (by kernel_rfl) ?hf12 (by kernel_rfl) ?hq12 ?hy12 (by assumption) ?rest12
            case hi12 => (simp only [List.getElem?_toArray, List.getElem?_cons_zero, List.getElem?_cons_succ] <;> exact rfl)
            case hf12 => kernel_rfl
            case hq12 => exact fun _ _ _ h => h
            case hy12 => exact Or.inl ⟨by rfl, by intro w hSw; (try dsimp only at hSw); go_simp; try with_reducible rfl⟩
            (try simp only [Act.put, List.setIfInBounds_toArray, List.set_cons_zero, List.set_cons_succ])
            refine wpAnyH_take (i := 12) (oi := ?oo13) (v := undef) ?hi13 (by kernel_rfl) ?hf13 (by kernel_rfl) ?hq13 ?hy13 (by assumption) ?rest13
            case hi13 => (simp only [List.getElem?_toArray, List.getElem?_cons_zero, List.getElem?_cons_succ] <;> exact rfl)
            case hf13 => kernel_rfl
            case hq13 => exact fun _ _ _ h => h
            case hy13 => exact Or.inr ⟨by rfl, rfl⟩
            (try simp only [Act.put, List.setIfInBounds_toArray, List.set_cons_zero, List.set_cons_succ])
            refine wpAnyH_take (i := 13) (oi := ?oo14) (v := undef) ?hi14 (by kernel_rfl) ?hf14 (by kernel_rfl) ?hq14 ?hy14 (by assumption) ?rest14
            case hi14 => (simp only [List.getElem?_toArray, List.getElem?_cons_zero, List.getElem?_cons_succ] <;> exact rfl)
            case hf14 => kernel_rfl
            case hq14 => exact fun _ _ _ h => h
            case hy14 => exact Or.inr ⟨by rfl, rfl⟩
            (try simp only [Act.put, List.setIfInBounds_toArray, List.set_cons_zero, List.set_cons_succ])
            refine wpAnyH_take (i := 14) (oi := ?oo15) (v := undef) ?hi15 (by kernel_rfl) ?hf15 (by kernel_rfl) ?hq15 ?hy15 (by assumption) ?rest15
            case hi15 => (simp only [List.getElem?_toArray, List.getElem?_cons_zero, List.getElem?_cons_succ] <;> exact rfl)
            case hf15 => kernel_rfl
            case hq15 => exact fun _ _ _ h => h
            case hy15 => exact Or.inr ⟨by rfl, rfl⟩
            (try simp only [Act.put, List.setIfInBounds_toArray, List.set_cons_zero, List.set_cons_succ])
            refine wpAnyH_take (i := 15) (oi := ?oo16) (v := undef) ?hi16 (by kernel_rfl) ?hf16 (by kernel_rfl) ?hq16 ?hy16 (by assumption) ?rest16
            case hi16 => (simp only [List.getElem?_toArray, List.getElem?_cons_zero, List.getElem?_cons_succ] <;> exact rfl)
            case hf16 => kernel_rfl
            case hq16 => exact fun _ _ _ h => h
            case hy16 => exact Or.inr ⟨by rfl, rfl⟩
            (try simp only [Act.put, List.setIfInBounds_toArray, List.set_cons_zero, List.set_cons_succ])
            refine wpAnyH_take (i := 16) (oi := ?oo17) (v := undef) ?hi17 (by kernel_rfl) ?hf17 (by kernel_rfl) ?hq17 ?hy17 (by assumption) ?rest17
            case hi17 => (simp only [List.getElem?_toArray, List.getElem?_cons_zero, List.getElem?_cons_succ] <;> exact rfl)
            case hf17 => kernel_rfl
            case hq17 => exact fun _ _ _ h => h
            case hy17 => exact Or.inr ⟨by rfl, rfl⟩
            (try simp only [Act.put, List.setIfInBounds_toArray, List.set_cons_zero, List.set_cons_succ])
            refine wpAnyH_take (i := 17) (oi := ?oo18) (v := undef) ?hi18 (by kernel_rfl) ?hf18 (by kernel_rfl) ?hq18 ?hy18 (by assumption) ?rest18
            case hi18 => (simp only [List.getElem?_toArray, List.getElem?_cons_zero, List.getElem?_cons_succ] <;> exact rfl)
            case hf18 => kernel_rfl
            case hq18 => exact fun _ _ _ h => h
            case hy18 => exact Or.inr ⟨by rfl, rfl⟩
            (try simp only [Act.put, List.setIfInBounds_toArray, List.set_cons_zero, List.set_cons_succ])
            refine wpAnyH_take (i := 18) (oi := ?oo19) (v := undef) ?hi19 (by kernel_rfl) ?hf19 (by kernel_rfl) ?hq19 ?hy19 (by assumption) ?rest19
            case hi19 => (simp only [List.getElem?_toArray, List.getElem?_cons_zero, List.getElem?_cons_succ] <;> exact rfl)
            case hf19 => kernel_rfl
            case hq19 => exact fun _ _ _ h => h
            case hy19 => exact Or.inr ⟨by rfl, rfl⟩
            (try simp only [Act.put, List.setIfInBounds_toArray, List.set_cons_zero, List.set_cons_succ])
            refine wpAnyH_take (i := 19) (oi := ?oo20) (v := undef) ?hi20 (by kernel_rfl) ?hf20 (by kernel_rfl) ?hq20 ?hy20 (by assumption) ?rest20
            case hi20 => (simp only [List.getElem?_toArray, List.getElem?_cons_zero, List.getElem?_cons_succ] <;> exact rfl)
            case hf20 => kernel_rfl
            case hq20 => exact fun _ _ _ h => h
            case hy20 => exact Or.inr ⟨by rfl, rfl⟩
            (try simp only [Act.put, List.setIfInBounds_toArray, List.set_cons_zero, List.set_cons_succ])
            refine wpAnyH_take (i := 20) (oi := ?oo21) (v := undef) ?hi21 (by kernel_rfl) ?hf21 (by kernel_rfl) ?hq21 ?hy21 (by assumption) ?rest21
            case hi21 => (simp only [List.getElem?_toArray, List.getElem?_cons_zero, List.getElem?_cons_succ] <;> exact rfl)
            case hf21 => kernel_rfl
            case hq21 => exact fun _ _ _ h => h
            case hy21 => exact Or.inr ⟨by rfl, rfl⟩
            (try simp only [Act.put, List.setIfInBounds_toArray, List.set_cons_zero, List.set_cons_succ])
            refine wpAnyH_take (i := 21) (oi := ?oo22) (v := undef) ?hi22 (by kernel_rfl) ?hf22 (by kernel_rfl) ?hq22 ?hy22 (by assumption) ?rest22
            case hi22 => (simp only [List.getElem?_toArray, List.getElem?_cons_zero, List.getElem?_cons_succ] <;> exact rfl)
            case hf22 => kernel_rfl
            case hq22 => exact fun _ _ _ h => h
            case hy22 => exact Or.inr ⟨by rfl, rfl⟩
            (try simp only [Act.put, List.setIfInBounds_toArray, List.set_cons_zero, List.set_cons_succ])
            refine wpAnyH_take (i := 22) (oi := ?oo23) (v := undef) ?hi23 (by kernel_rfl) ?hf23 (by kernel_rfl) ?hq23 ?hy23 (by assumption) ?rest23
            case hi23 => (simp only [List.getElem?_toArray, List.getElem?_cons_zero, List.getElem?_cons_succ] <;> exact rfl)
            case hf23 => kernel_rfl
            case hq23 => exact fun _ _ _ h => h
            case hy23 => exact Or.inr ⟨by rfl, rfl⟩
            (try simp only [Act.put, List.setIfInBounds_toArray, List.set_cons_zero, List.set_cons_succ])
            refine wpAnyH_take (i := 23) (oi := ?oo24) (v := undef) ?hi24 (by kernel_rfl) ?hf24 (by kernel_rfl) ?hq24 ?hy24 (by assumption) ?rest24
            case hi24 => (simp only [List.getElem?_toArray, List.getElem?_cons_zero, List.getElem?_cons_succ] <;> exact rfl)
            case hf24 => kernel_rfl
            case hq24 => exact fun _ _ _ h => h
            case hy24 => exact Or.inr ⟨by rfl, rfl⟩
            (try simp only [Act.put, List.setIfInBounds_toArray, List.set_cons_zero, List.set_cons_succ])
            refine wpAnyH_take (i := 24) (oi := ?oo25) (v := undef) ?hi25 (by kernel_rfl) ?hf25 (by kernel_rfl) ?hq25 ?hy25 (by assumption) ?rest25
            case hi25 => (simp only [List.getElem?_toArray, List.getElem?_cons_zero, List.getElem?_cons_succ] <;> exact rfl)
            case hf25 => kernel_rfl
            case hq25 => exact fun _ _ _ h => h
            case hy25 => exact Or.inr ⟨by rfl, rfl⟩
            (try simp only [Act.put, List.setIfInBounds_toArray, List.set_cons_zero, List.set_cons_succ])
            refine wpAnyH_take (i := 25) (oi := ?oo26) (v := undef) ?hi26 (by kernel_rfl) ?hf26 (by kernel_rfl) ?hq26 ?hy26 (by assumption) ?rest26
            case hi26 => (simp only [List.getElem?_toArray, List.getElem?_cons_zero, List.getElem?_cons_succ] <;> exact rfl)
            case hf26 => kernel_rfl
            case hq26 => exact fun _ _ _ h => h
            case hy26 => exact Or.inr ⟨by rfl, rfl⟩
            (try simp only [Act.put, List.setIfInBounds_toArray, List.set_cons_zero, List.set_cons_succ])
            refine wpAnyH_take (i := 26) (oi := ?oo27) (v := undef) ?hi27 (by kernel_rfl) ?hf27 (by kernel_rfl) ?hq27 ?hy27 (by assumption) ?rest27
            case hi27 => (simp only [List.getElem?_toArray, List.getElem?_cons_zero, List.getElem?_cons_succ] <;> exact rfl)
            case hf27 => kernel_rfl
            case hq27 => exact fun _ _ _ h => h
            case hy27 => exact Or.inr ⟨by rfl, rfl⟩
            (try simp only [Act.put, List.setIfInBounds_toArray, List.set_cons_zero, List.set_cons_succ])
            refine wpAnyH_take (i := 27) (oi := ?oo28) (v := undef) ?hi28 (by kernel_rfl) ?hf28 (by kernel_rfl) ?hq28 ?hy28 (by assumption) ?rest28
            case hi28 => (simp only [List.getElem?_toArray, List.getElem?_cons_zero, List.getElem?_cons_succ] <;> exact rfl)
            case hf28 => kernel_rfl
            case hq28 => exact fun _ _ _ h => h
            case hy28 => exact Or.inr ⟨by rfl, rfl⟩
            (try simp only [Act.put, List.setIfInBounds_toArray, List.set_cons_zero, List.set_cons_succ])
            refine wpAnyH_take (i := 28) (oi := ?oo29) (v := undef) ?hi29 (by kernel_rfl) ?hf29 (by kernel_rfl) ?hq29 ?hy29 (by assumption) ?rest29
            case hi29 => (simp only [List.getElem?_toArray, List.getElem?_cons_zero, List.getElem?_cons_succ] <;> exact rfl)
            case hf29 => kernel_rfl
            case hq29 => exact fun _ _ _ h => h
            case hy29 => exact Or.inr ⟨by rfl, rfl⟩
            (try simp only [Act.put, List.setIfInBounds_toArray, List.set_cons_zero, List.set_cons_succ])
            refine wpAnyH_take (i := 29) (oi := ?oo30) (v := undef) ?hi30 (by kernel_rfl) ?hf30 (by kernel_rfl) ?hq30 ?hy30 (by assumption) ?rest30
            case hi30 => (simp only [List.getElem?_toArray, List.getElem?_cons_zero, List.getElem?_cons_succ] <;> exact rfl)
            case hf30 => kernel_rfl
            case hq30 => exact fun _ _ _ h => h
            case hy30 => exact Or.inr ⟨by rfl, rfl⟩
            (try simp only [Act.put, List.setIfInBounds_toArray, List.set_cons_zero, List.set_cons_succ])
            refine wpAnyH_take (i := 30) (oi := ?oo31) (v := undef) ?hi31 (by kernel_rfl) ?hf31 (by kernel_rfl) ?hq31 ?hy31 (by assumption) ?rest31
            case hi31 => (simp only [List.getElem?_toArray, List.getElem?_cons_zero, List.getElem?_cons_succ] <;> exact rfl)
            case hf31 => kernel_rfl
            case hq31 => exact fun _ _ _ h => h
            case hy31 => exact Or.inr ⟨by rfl, rfl⟩
            (try simp only [Act.put, List.setIfInBounds_toArray, List.set_cons_zero, List.set_cons_succ])
            refine wpAnyH_take (i := 31) (oi := ?oo32) (v := undef) ?hi32 (by kernel_rfl) ?hf32 (by kernel_rfl) ?hq32 ?hy32 (by assumption) ?rest32
            case hi32 => (simp only [List.getElem?_toArray, List.getElem?_cons_zero, List.getElem?_cons_succ] <;> exact rfl)
            case hf32 => kernel_rfl
            case hq32 => exact fun _ _ _ h => h
            case hy32 => exact Or.inr ⟨by rfl, rfl⟩
            (try simp only [Act.put, List.setIfInBounds_toArray, List.set_cons_zero, List.set_cons_succ])
            refine wpAnyH_take (i := 32) (oi := ?oo33) (v := ?vv33) ?hi33 (by kernel_rfl) ?hf33 (by kernel_rfl) ?hq33 ?hy33 (by assumption) ?rest33
            case hi33 => (simp only [List.getElem?_toArray, List.getElem?_cons_zero, List.getElem?_cons_succ] <;> exact rfl)
            case hf33 => kernel_rfl
            case hq33 => exact fun _ _ _ h => h
            case hy33 => exact Or.inl ⟨by rfl, by intro w hSw; (try dsimp only at hSw); go_simp; try with_reducible rfl⟩
            (try simp only [Act.put, List.setIfInBounds_toArray, List.set_cons_zero, List.set_cons_succ])
            refine wpAnyH_take (i := 33) (oi := ?oo34) (v := ?vv34) ?hi34 (by kernel_rfl) ?hf34 (by kernel_rfl) ?hq34 ?hy34 (by assumption) ?rest34
            case hi34 => (simp only [List.getElem?_toArray, List.getElem?_cons_zero, List.getElem?_cons_succ] <;> exact rfl)
            case hf34 => kernel_rfl
            case hq34 => exact fun _ _ _ h => h
            case hy34 => exact Or.inl ⟨by rfl, by intro w hSw; (try dsimp only at hSw); go_simp; try with_reducible rfl⟩
            (try simp only [Act.put, List.setIfInBounds_toArray, List.set_cons_zero, List.set_cons_succ])
            refine wpAnyH_take (i := 34) (oi := ?oo35) (v := ?vv35) ?hi35 (by kernel_rfl) ?hf35 (by kernel_rfl) ?hq35 ?hy35 (by assumption) ?rest35
            case hi35 => (simp only [List.getElem?_toArray, List.getElem?_cons_zero, List.getElem?_cons_succ] <;> exact rfl)
            case hf35 => kernel_rfl
            case hq35 => exact fun _ _ _ h => h
            case hy35 => exact Or.inl ⟨by rfl, by intro w hSw; (try dsimp only at hSw); go_simp; try with_reducible rfl⟩
            (try simp only [Act.put, List.setIfInBounds_toArray, List.set_cons_zero, List.set_cons_succ])
            refine wpAnyH_take (i := 35) (oi := ?oo36) (v := ?vv36) ?hi36 (by kernel_rfl) ?hf36 (by kernel_rfl) ?hq36 ?hy36 (by assumption) ?rest36
            case hi36 => (simp only [List.getElem?_toArray, List.getElem?_cons_zero, List.getElem?_cons_succ] <;> exact rfl)
            case hf36 => kernel_rfl
            case hq36 => exact fun _ _ _ h => h
            case hy36 => exact Or.inl ⟨by rfl, by intro w hSw; (try dsimp only at hSw); go_simp; try with_reducible rfl⟩
            (try simp only [Act.put, List.setIfInBounds_toArray, List.set_cons_zero, List.set_cons_succ])
            refine wpAnyH_take (i := 36) (oi := ?oo37) (v := ?vv37) ?hi37 (by kernel_rfl) ?hf37 (by kernel_rfl) ?hq37 ?hy37 (by assumption) ?rest37
            case hi37 => (simp only [List.getElem?_toArray, List.getElem?_cons_zero, List.getElem?_cons_succ] <;> exact rfl)
            case hf37 => kernel_rfl
            case hq37 => exact fun _ _ _ h => h
            case hy37 => exact Or.inl ⟨by rfl, by intro w hSw; (try dsimp only at hSw); go_simp; try with_reducible rfl⟩
            (try simp only [Act.put, List.setIfInBounds_toArray, List.set_cons_zero, List.set_cons_succ])
            refine wpAnyH_take (i := 37) (oi := ?oo38) (v := ?vv38) ?hi38 (by kernel_rfl) ?hf38 (by kernel_rfl) ?hq38 ?hy38 (by assumption) ?rest38
            case hi38 => (simp only [List.getElem?_toArray, List.getElem?_cons_zero, List.getElem?_cons_succ] <;> exact rfl)
            case hf38 => kernel_rfl
            case hq38 => exact fun _ _ _ h => h
            case hy38 => exact Or.inl ⟨by rfl, by intro w hSw; (try dsimp only at hSw); go_simp; try with_reducible rfl⟩
            (try simp only [Act.put, List.setIfInBounds_toArray, List.set_cons_zero, List.set_cons_succ])
            refine wpAnyH_take (i := 38) (oi := ?oo39) (v := ?vv39) ?hi39 (by kernel_rfl) ?hf39 (by kernel_rfl) ?hq39 ?hy39 (by assumption) ?rest39
            case hi39 => (simp only [List.getElem?_toArray, List.getElem?_cons_zero, List.getElem?_cons_succ] <;> exact rfl)
            case hf39 => kernel_rfl
            case hq39 => exact fun _ _ _ h => h
            case hy39 => exact Or.inl ⟨by rfl, by intro w hSw; (try dsimp only at hSw); go_simp; try with_reducible rfl⟩
            (try simp only [Act.put, List.setIfInBounds_toArray, List.set_cons_zero, List.set_cons_succ])
            refine wpAnyH_take (i := 39) (oi := ?oo40) (v := ?vv40) ?hi40 (by kernel_rfl) ?hf40 (by kernel_rfl) ?hq40 ?hy40 (by assumption) ?rest40
            case hi40 => (simp only [List.getElem?_toArray, List.getElem?_cons_zero, List.getElem?_cons_succ] <;> exact rfl)
            case hf40 => kernel_rfl
            case hq40 => exact fun _ _ _ h => h
            case hy40 => exact Or.inl ⟨by rfl, by intro w hSw; (try dsimp only at hSw); go_simp; try with_reducible rfl⟩
            (try simp only [Act.put, List.setIfInBounds_toArray, List.set_cons_zero, List.set_cons_succ])
            refine wpAnyH_take (i := 40) (oi := ?oo41) (v := ?vv41) ?hi41 (by kernel_rfl) ?hf41 (by kernel_rfl) ?hq41 ?hy41 (by assumption) ?rest41
            case hi41 => (simp only [List.getElem?_toArray, List.getElem?_cons_zero, List.getElem?_cons_succ] <;> exact rfl)
            case hf41 => kernel_rfl
            case hq41 => exact fun _ _ _ h => h
            case hy41 => exact Or.inl ⟨by rfl, by intro w hSw; (try dsimp only at hSw); go_simp; try with_reducible rfl⟩
            (try simp only [Act.put, List.setIfInBounds_toArray, List.set_cons_zero, List.set_cons_succ])
            refine wpAnyH_take (i := 41) (oi := ?oo42) (v := ?vv42) ?hi42 (by kernel_rfl) ?hf42 (by kernel_rfl) ?hq42 ?hy42 (by assumption) ?rest42
            case hi42 => (simp only [List.getElem?_toArray, List.getElem?_cons_zero, List.getElem?_cons_succ] <;> exact rfl)
            case hf42 => kernel_rfl
            case hq42 => exact fun _ _ _ h => h
            case hy42 => exact Or.inl ⟨by rfl, by intro w hSw; (try dsimp only at hSw); go_simp; try with_reducible rfl⟩
            (try simp only [Act.put, List.setIfInBounds_toArray, List.set_cons_zero, List.set_cons_succ])
            refine wpAnyH_take (i := 43) (oi := ?oo43) (v := ?vv43) ?hi43 (by kernel_rfl) ?hf43 (by kernel_rfl) ?hq43 ?hy43 (by assumption) ?rest43
            case hi43 => (simp only [List.getElem?_toArray, List.getElem?_cons_zero, List.getElem?_cons_succ] <;> exact rfl)
            case hf43 => kernel_rfl
            case hq43 => exact fun _ _ _ h => h
            case hy43 => exact Or.inl ⟨by rfl, by intro w hSw; (try dsimp only at hSw); go_simp; try with_reducible rfl⟩
            (try simp only [Act.put, List.setIfInBounds_toArray, List.set_cons_zero, List.set_cons_succ])
            refine wpAnyH_take (i := 44) (oi := ?oo44) (v := ?vv44) ?hi44 (by kernel_rfl) ?hf44 (by kernel_rfl) ?hq44 ?hy44 (by assumption) ?rest44
            case hi44 => (simp only [List.getElem?_toArray, List.getElem?_cons_zero, List.getElem?_cons_succ] <;> exact rfl)
            case hf44 => kernel_rfl
            case hq44 => exact fun _ _ _ h => h
            case hy44 => exact Or.inl ⟨by rfl, by intro w hSw; (try dsimp only at hSw); go_simp; try with_reducible rfl⟩
            (try simp only [Act.put, List.setIfInBounds_toArray, List.set_cons_zero, List.set_cons_succ])
            refine wpAnyH_ready (rs := [42]) (by kernel_rfl) (by simp) ?_
            refine AllReadyH.cons (o := ?oo45) ?hi45 (fun K hK => ?st45) ?more45
            case hi45 => (simp only [List.getElem?_toArray, List.getElem?_cons_zero, List.getElem?_cons_succ] <;> exact rfl)
            case more45 => exact AllReadyH.nil
            go_simp
            go_at_call 28
            refine Calls.mono (HN.out _ m4) ?_
            rintro e w10 ⟨rfl, kk⟩
            replace D1 := D1.chg kk (by simp)
            replace D2 := D2.chg kk (by simp)
            replace KC := KC.trans kk (by simp)
            clear kk
            refine hK.out _ _ ?hS45 (fun hHeld => ?rest45)
            case hS45 => exact ⟨D1.cell 0, D1.cell 1, D1.cell 2, D2.cell 0, D2.cell 1, D2.cell 2⟩
            clear hK K
            (try simp only [Act.put, List.setIfInBounds_toArray, List.set_cons_zero, List.set_cons_succ])
            refine wpAnyH_take (i := 45) (oi := ?oo46) (v := ?vv46) ?hi46 (by kernel_rfl) ?hf46 (by kernel_rfl) ?hq46 ?hy46 (by assumption) ?rest46
            case hi46 => (simp only [List.getElem?_toArray, List.getElem?_cons_zero, List.getElem?_cons_succ] <;> exact rfl)
            case hf46 => kernel_rfl
            case hq46 => exact fun _ _ _ h => h
            case hy46 => exact Or.inl ⟨by rfl, by intro w hSw; (try dsimp only at hSw); go_simp; try with_reducible rfl⟩
            (try simp only [Act.put, List.setIfInBounds_toArray, List.set_cons_zero, List.set_cons_succ])
            refine wpAnyH_take (i := 46) (oi := ?oo47) (v := undef) ?hi47 (by kernel_rfl) ?hf47 (by kernel_rfl) ?hq47 ?hy47 (by assumption) ?rest47
            case hi47 => (simp only [List.getElem?_toArray, List.getElem?_cons_zero, List.getElem?_cons_succ] <;> exact rfl)
            case hf47 => kernel_rfl
            case hq47 => exact fun _ _ _ h => h
            case hy47 => exact Or.inr ⟨by rfl, rfl⟩
            (try simp only [Act.put, List.setIfInBounds_toArray, List.set_cons_zero, List.set_cons_succ])
            refine wpAnyH_take (i := 47) (oi := ?oo48) (v := undef) ?hi48 (by kernel_rfl) ?hf48 (by kernel_rfl) ?hq48 ?hy48 (by assumption) ?rest48
            case hi48 => (simp only [List.getElem?_toArray, List.getElem?_cons_zero, List.getElem?_cons_succ] <;> exact rfl)
            case hf48 => kernel_rfl
            case hq48 => exact fun _ _ _ h => h
            case hy48 => exact Or.inr ⟨by rfl, rfl⟩
            (try simp only [Act.put, List.setIfInBounds_toArray, List.set_cons_zero, List.set_cons_succ])
            refine wpAnyH_take (i := 48) (oi := ?oo49) (v := undef) ?hi49 (by kernel_rfl) ?hf49 (by kernel_rfl) ?hq49 ?hy49 (by assumption) ?rest49
            case hi49 => (simp only [List.getElem?_toArray, List.getElem?_cons_zero, List.getElem?_cons_succ] <;> exact rfl)
            case hf49 => kernel_rfl
            case hq49 => exact fun _ _ _ h => h
            case hy49 => exact Or.inr ⟨by rfl, rfl⟩
            (try simp only [Act.put, List.setIfInBounds_toArray, List.set_cons_zero, List.set_cons_succ])
            refine wpAnyH_take (i := 49) (oi := ?oo50) (v := ?vv50) ?hi50 (by kernel_rfl) ?hf50 (by kernel_rfl) ?hq50 ?hy50 (by assumption) ?rest50
            case hi50 => (simp only [List.getElem?_toArray, List.getElem?_cons_zero, List.getElem?_cons_succ] <;> exact rfl)
            case hf50 => kernel_rfl
            case hq50 => exact fun _ _ _ h => h
            case hy50 => exact Or.inl ⟨by rfl, by intro w hSw; (try dsimp only at hSw); go_simp; try with_reducible rfl⟩
            (try simp only [Act.put, List.setIfInBounds_toArray, List.set_cons_zero, List.set_cons_succ])
            refine wpAnyH_take (i := 50) (oi := ?oo51) (v := ?vv51) ?hi51 (by kernel_rfl) ?hf51 (by kernel_rfl) ?hq51 ?hy51 (by assumption) ?rest51
            case hi51 => (simp only [List.getElem?_toArray, List.getElem?_cons_zero, List.getElem?_cons_succ] <;> exact rfl)
            case hf51 => kernel_rfl
            case hq51 => exact fun _ _ _ h => h
            case hy51 => exact Or.inl ⟨by rfl, by intro w hSw; (try dsimp only at hSw); go_simp; try with_reducible rfl⟩
            (try simp only [Act.put, List.setIfInBounds_toArray, List.set_cons_zero, List.set_cons_succ])
            refine wpAnyH_take (i := 51) (oi := ?oo52) (v := ?vv52) ?hi52 (by kernel_rfl) ?hf52 (by kernel_rfl) ?hq52 ?hy52 (by assumption) ?rest52
            case hi52 => (simp only [List.getElem?_toArray, List.getElem?_cons_zero, List.getElem?_cons_succ] <;> exact rfl)
            case hf52 => kernel_rfl
            case hq52 => exact fun _ _ _ h => h
            case hy52 => exact Or.inl ⟨by rfl, by intro w hSw; (try dsimp only at hSw); go_simp; try with_reducible rfl⟩
            (try simp only [Act.put, List.setIfInBounds_toArray, List.set_cons_zero, List.set_cons_succ])
            refine wpAnyH_take (i := 52) (oi := ?oo53) (v := ?vv53) ?hi53 (by kernel_rfl) ?hf53 (by kernel_rfl) ?hq53 ?hy53 (by assumption) ?rest53
            case hi53 => (simp only [List.getElem?_toArray, List.getElem?_cons_zero, List.getElem?_cons_succ] <;> exact rfl)
            case hf53 => kernel_rfl
            case hq53 => exact fun _ _ _ h => h
            case hy53 => exact Or.inl ⟨by rfl, by intro w hSw; (try dsimp only at hSw); go_simp; try with_reducible rfl⟩
            (try simp only [Act.put, List.setIfInBounds_toArray, List.set_cons_zero, List.set_cons_succ])
            refine wpAnyH_ready (rs := [53]) (by kernel_rfl) (by simp) ?_
            refine AllReadyH.cons (o := ?oo54) ?hi54 (fun K hK => ?st54) ?more54
            case hi54 => (simp only [List.getElem?_toArray, List.getElem?_cons_zero, List.getElem?_cons_succ] <;> exact rfl)
            case more54 => exact AllReadyH.nil
            go_simp
            go_at_call 12
            refine Calls.mono (TcapTwice.awake_ok _) ?_
            rintro e w11 ⟨rfl, kk⟩
            replace D1 := D1.chg kk (by simp)
            replace D2 := D2.chg kk (by simp)
            replace KC := KC.trans kk (by simp)
            clear kk
            refine hK.out _ _ ?hS54 (fun hHeld => ?rest54)
            case hS54 => exact ⟨D1.cell 0, D1.cell 1, D1.cell 2, D2.cell 0, D2.cell 1, D2.cell 2⟩
            clear hK K
            (try simp only [Act.put, List.setIfInBounds_toArray, List.set_cons_zero, List.set_cons_succ])
            refine wpAnyH_take (i := 54) (oi := ?oo55) (v := ?vv55) ?hi55 (by kernel_rfl) ?hf55 (by kernel_rfl) ?hq55 ?hy55 (by assumption) ?rest55
            case hi55 => (simp only [List.getElem?_toArray, List.getElem?_cons_zero, List.getElem?_cons_succ] <;> exact rfl)
            case hf55 => kernel_rfl
            case hq55 => exact fun _ _ _ h => h
            case hy55 => exact Or.inl ⟨by rfl, by intro w hSw; (try dsimp only at hSw); go_simp; try with_reducible rfl⟩
            (try simp only [Act.put, List.setIfInBounds_toArray, List.set_cons_zero, List.set_cons_succ])
            refine wpAnyH_take (i := 55) (oi := ?oo56) (v := ?vv56) ?hi56 (by kernel_rfl) ?hf56 (by kernel_rfl) ?hq56 ?hy56 (by assumption) ?rest56
            case hi56 => (simp only [List.getElem?_toArray, List.getElem?_cons_zero, List.getElem?_cons_succ] <;> exact rfl)
            case hf56 => kernel_rfl
            case hq56 => exact fun _ _ _ h => h
            case hy56 => exact Or.inl ⟨by rfl, by intro w hSw; (try dsimp only at hSw); go_simp; try with_reducible rfl⟩
            (try simp only [Act.put, List.setIfInBounds_toArray, List.set_cons_zero, List.set_cons_succ])
            refine wpAnyH_done (by kernel_rfl) ?_ _
            go_wp2
            go_ret
            exact ⟨by first | rfl | simp, KC⟩
          · have ecm : cm false l1 c = 0 := by unfold cm; rw [if_neg (by simp), if_pos hm]
            have ecs : cs false l1 c = true := by unfold cs; rw [if_neg (by simp), ecm]; rfl
            rw [ecs] at HX
            rw [ecm] at H4
            go_wp2_with fail
            refine Calls.mono HX.out ?_
            rintro x w8 ⟨rfl, m4, k1⟩
            clear HX m3 ecm ecs
            replace D1 := D1.chg k1 (by simpa using hdg)
            replace K := K.trans k1 (by intro s hs; right; simp at hs; omega)
            clear k1
            have HG0 := Tcap.get_ok m4 H4.out.u 1
            unfold tV at HG0
            rw [H4.out.e, H4.out.z, H4.out.l, H4.out.t] at HG0
            have HG := Lib.hid HG0
            clear HG0
            go_wp2_with fail
            refine Calls.mono HG.out ?_
            rintro x w9 ⟨rfl, k1⟩
            clear HG
            obtain ⟨d2, ed2⟩ : ∃ q, w9.heap.size = q := ⟨_, rfl⟩
            have D2 := Blk.new' w9 23 (tcC false 0 t1) ed2
            replace D1 := (D1.chg k1 (by simp)).alloc (.cells (tcC false 0 t1) 23)
            replace m4 := (m4.chg0 k1).alloc (.cells (tcC false 0 t1) 23)
            replace K := (K.trans k1 (by simp)).alloc (.cells (tcC false 0 t1) 23)
            clear k1
            have HN0 := fun (W : World) (q : MemAt W p g 2 L4) => can_ok q H4.out.u 1
            have ecan : canB 2 L4 1 = false := by unfold canB; rw [H4.out.e, H4.out.z, H4.out.l]; simp
            rw [ecan] at HN0
            have HN := Lib.hid HN0
            clear HN0 ecan H4 HB2
            go_wp2_with fail
            refine wp_region_held_drew (S := fun V => V.cell? ⟨d1, 0, none⟩ = some (.bool false) ∧ V.cell? ⟨d1, 1, none⟩ = some (.int .i64 l1) ∧ V.cell? ⟨d1, 2, none⟩ = some (.int .i64 t1) ∧ V.cell? ⟨d2, 0, none⟩ = some (.bool false) ∧ V.cell? ⟨d2, 1, none⟩ = some (.int .i64 0) ∧ V.cell? ⟨d2, 2, none⟩ = some (.int .i64 t1)) (by kernel_rfl) ?_ (fun hHeld => ?_)
            case _ => exact ⟨D1.cell 0, D1.cell 1, D1.cell 2, D2.cell 0, D2.cell 1, D2.cell 2⟩
            replace D1 := D1.drew
            replace D2 := D2.drew
            replace m4 := m4.drew
            have KC := K.drew
            clear K
            refine wpAnyH_take (i := 0) (oi := ?oo57) (v := ?vv57) ?hi57 (by kernel_rfl) ?hf57 (by kernel_rfl) ?hq57 ?hy57 (by assumption) ?rest57
            case hi57 => (simp only [List.getElem?_toArray, List.getElem?_cons_zero] <;> exact rfl)
            case hf57 => kernel_rfl
            case hq57 => exact fun _ _ _ h => h
            case hy57 => exact Or.inl ⟨by rfl, by intro w hSw; (try dsimp only at hSw); go_simp; try with_reducible rfl⟩
            (try simp only [Act.put, List.setIfInBounds_toArray, List.set_cons_zero, List.set_cons_succ])
            refine wpAnyH_take (i := 1) (oi := ?oo58) (v := ?vv58) ?hi58 (by kernel_rfl) ?hf58 (by kernel_rfl) ?hq58 ?hy58 (by assumption) ?rest58
            case hi58 => (simp only [List.getElem?_toArray, List.getElem?_cons_zero, List.getElem?_cons_succ] <;> exact rfl)
            case hf58 => kernel_rfl
            case hq58 => exact fun _ _ _ h => h
            case hy58 => exact Or.inl ⟨by rfl, by intro w hSw; (try dsimp only at hSw); go_simp; try with_reducible rfl⟩
            (try simp only [Act.put, List.setIfInBounds_toArray, List.set_cons_zero, List.set_cons_succ])
            refine wpAnyH_take (i := 2) (oi := ?oo59) (v := ?vv59) ?hi59 (by kernel_rfl) ?hf59 (by kernel_rfl) ?hq59 ?hy59 (by assumption) ?rest59
            case hi59 => (simp only [List.getElem?_toArray, List.getElem?_cons_zero, List.getElem?_cons_succ] <;> exact rfl)
            case hf59 => kernel_rfl
            case hq59 => exact fun _ _ _ h => h
            case hy59 => exact Or.inl ⟨by rfl, by intro w hSw; (try dsimp only at hSw); go_simp; try with_reducible rfl⟩
            (try simp only [Act.put, List.setIfInBounds_toArray, List.set_cons_zero, List.set_cons_succ])
            refine wpAnyH_take (i := 3) (oi := ?oo60) (v := undef) ?hi60 (by kernel_rfl) ?hf60 (by kernel_rfl) ?hq60 ?hy60 (by assumption) ?rest60
            case hi60 => (simp only [List.getElem?_toArray, List.getElem?_cons_zero, List.getElem?_cons_succ] <;> exact rfl)
            case hf60 => kernel_rfl
            case hq60 => exact fun _ _ _ h => h
            case hy60 => exact Or.inr ⟨by rfl, rfl⟩
            (try simp only [Act.put, List.setIfInBounds_toArray, List.set_cons_zero, List.set_cons_succ])
            refine wpAnyH_take (i := 4) (oi := ?oo61) (v := undef) ?hi61 (by kernel_rfl) ?hf61 (by kernel_rfl) ?hq61 ?hy61 (by assumption) ?rest61
            case hi61 => (simp only [List.getElem?_toArray, List.getElem?_cons_zero, List.getElem?_cons_succ] <;> exact rfl)
            case hf61 => kernel_rfl
            case hq61 => exact fun _ _ _ h => h
            case hy61 => exact Or.inr ⟨by rfl, rfl⟩
            (try simp only [Act.put, List.setIfInBounds_toArray, List.set_cons_zero, List.set_cons_succ])
            refine wpAnyH_take (i := 5) (oi := ?oo62) (v := undef) ?hi62 (by kernel_rfl) ?hf62 (by kernel_rfl) ?hq62 ?hy62 (by assumption) ?rest62
            case hi62 => (simp only [List.getElem?_toArray, List.getElem?_cons_zero, List.getElem?_cons_succ] <;> exact rfl)
            case hf62 => kernel_rfl
            case hq62 => exact fun _ _ _ h => h
            case hy62 => exact Or.inr ⟨by rfl, rfl⟩
            (try simp only [Act.put, List.setIfInBounds_toArray, List.set_cons_zero, List.set_cons_succ])
            refine wpAnyH_take (i := 6) (oi := ?oo63) (v := ?vv63) ?hi63 (by kernel_rfl) ?hf63 (by kernel_rfl) ?hq63 ?hy63 (by assumption) ?rest63
            case hi63 => (simp only [List.getElem?_toArray, List.getElem?_cons_zero, List.getElem?_cons_succ] <;> exact rfl)
            case hf63 => kernel_rfl
            case hq63 => exact fun _ _ _ h => h
            case hy63 => exact Or.inl ⟨by rfl, by intro w hSw; (try dsimp only at hSw); go_simp; try with_reducible rfl⟩
            (try simp only [Act.put, List.setIfInBounds_toArray, List.set_cons_zero, List.set_cons_succ])
            refine wpAnyH_take (i := 7) (oi := ?oo64) (v := ?vv64) ?hi64 (by kernel_rfl) ?hf64 (by kernel_rfl) ?hq64 ?hy64 (by assumption) ?rest64
            case hi64 => (simp only [List.getElem?_toArray, List.getElem?_cons_zero, List.getElem?_cons_succ] <;> exact rfl)
            case hf64 => kernel_rfl
            case hq64 => exact fun _ _ _ h => h
            case hy64 => exact Or.inl ⟨by rfl, by intro w hSw; (try dsimp only at hSw); go_simp; try with_reducible rfl⟩
            (try simp only [Act.put, List.setIfInBounds_toArray, List.set_cons_zero, List.set_cons_succ])
            refine wpAnyH_take (i := 8) (oi := ?oo65) (v := undef) ?hi65 (by kernel_rfl) ?hf65 (by kernel_rfl) ?hq65 ?hy65 (by assumption) ?rest65
            case hi65 => (simp only [List.getElem?_toArray, List.getElem?_cons_zero, List.getElem?_cons_succ] <;> exact rfl)
            case hf65 => kernel_rfl
            case hq65 => exact fun _ _ _ h => h
            case hy65 => exact Or.inr ⟨by rfl, rfl⟩
            (try simp only [Act.put, List.setIfInBounds_toArray, List.set_cons_zero, List.set_cons_succ])
            refine wpAnyH_take (i := 9) (oi := ?oo66) (v := undef) ?hi66 (by kernel_rfl) ?hf66 (by kernel_rfl) ?hq66 ?hy66 (by assumption) ?rest66
            case hi66 => (simp only [List.getElem?_toArray, List.getElem?_cons_zero, List.getElem?_cons_succ] <;> exact rfl)
            case hf66 => kernel_rfl
            case hq66 => exact fun _ _ _ h => h
            case hy66 => exact Or.inr ⟨by rfl, rfl⟩
            (try simp only [Act.put, List.setIfInBounds_toArray, List.set_cons_zero, List.set_cons_succ])
            refine wpAnyH_take (i := 10) (oi := ?oo67) (v := ?vv67) ?hi67 (by kernel_rfl) ?hf67 (by kernel_rfl) ?hq67 ?hy67 (by assumption) ?rest67
            case hi67 => (simp only [List.getElem?_toArray, List.getElem?_cons_zero, List.getElem?_cons_succ] <;> exact rfl)
            case hf67 => kernel_rfl
            case hq67 => exact fun _ _ _ h => h
            case hy67 => exact Or.inl ⟨by rfl, by intro w hSw; (try dsimp only at hSw); go_simp; try with_reducible rfl⟩
            (try simp only [Act.put, List.setIfInBounds_toArray, List.set_cons_zero, List.set_cons_succ])
            refine wpAnyH_take (i := 11) (oi := ?oo68) (v := ?vv68) ?hi68 (by kernel_rfl) ?hf68 (by kernel_rfl) ?hq68 ?hy68 (by assumption) ?rest68
            case hi68 => (simp only [List.getElem?_toArray, List.getElem?_cons_zero, List.getElem?_cons_succ] <;> exact rfl)
            case hf68 => kernel_rfl
            case hq68 => exact fun _ _ _ h => h
            case hy68 => exact Or.inl ⟨by rfl, by intro w hSw; (try dsimp only at hSw); go_simp; try with_reducible rfl⟩
            (try simp only [Act.put, List.setIfInBounds_toArray, List.set_cons_zero, List.set_cons_succ])
            refine wpAnyH_take (i := 12) (oi := ?oo69) (v := ?vv69) ?hi69 (by kernel_rfl) ?hf69 (by kernel_rfl) ?hq69 ?hy69 (by assumption) ?rest69
            case hi69 => (simp only [List.getElem?_toArray, List.getElem?_cons_zero, List.getElem?_cons_succ] <;> exact rfl)
            case hf69 => kernel_rfl
            case hq69 => exact fun _ _ _ h => h
            case hy69 => exact Or.inl ⟨by rfl, by intro w hSw; (try dsimp only at hSw); go_simp; try with_reducible rfl⟩
            (try simp only [Act.put, List.setIfInBounds_toArray, List.set_cons_zero, List.set_cons_succ])
            refine wpAnyH_take (i := 13) (oi := ?oo70) (v := ?vv70) ?hi70 (by kernel_rfl) ?hf70 (by kernel_rfl) ?hq70 ?hy70 (by assumption) ?rest70
            case hi70 => (simp only [List.getElem?_toArray, List.getElem?_cons_zero, List.getElem?_cons_succ] <;> exact rfl)
            case hf70 => kernel_rfl
            case hq70 => exact fun _ _ _ h => h
            case hy70 => exact Or.inl ⟨by rfl, by intro w hSw; (try dsimp only at hSw); go_simp; try with_reducible rfl⟩
            (try simp only [Act.put, List.setIfInBounds_toArray, List.set_cons_zero, List.set_cons_succ])
            refine wpAnyH_take (i := 14) (oi := ?oo71) (v := ?vv71) ?hi71 (by kernel_rfl) ?hf71 (by kernel_rfl) ?hq71 ?hy71 (by assumption) ?rest71
            case hi71 => (simp only [List.getElem?_toArray, List.getElem?_cons_zero, List.getElem?_cons_succ] <;> exact rfl)
            case hf71 => kernel_rfl
            case hq71 => exact fun _ _ _ h => h
            case hy71 => exact Or.inl ⟨by rfl, by intro w hSw; (try dsimp only at hSw); go_simp; try with_reducible rfl⟩
            (try simp only [Act.put, List.setIfInBounds_toArray, List.set_cons_zero, List.set_cons_succ])
            refine wpAnyH_take (i := 15) (oi := ?oo72) (v := ?vv72) ?hi72 (by kernel_rfl) ?hf72 (by kernel_rfl) ?hq72 ?hy72 (by assumption) ?rest72
            case hi72 => (simp only [List.getElem?_toArray, List.getElem?_cons_zero, List.getElem?_cons_succ] <;> exact rfl)
            case hf72 => kernel_rfl
            case hq72 => exact fun _ _ _ h => h
            case hy72 => exact Or.inl ⟨by rfl, by intro w hSw; (try dsimp only at hSw); go_simp; try with_reducible rfl⟩
            (try simp only [Act.put, List.setIfInBounds_toArray, List.set_cons_zero, List.set_cons_succ])
            refine wpAnyH_take (i := 16) (oi := ?oo73) (v := ?vv73) ?hi73 (by kernel_rfl) ?hf73 (by kernel_rfl) ?hq73 ?hy73 (by assumption) ?rest73
            case hi73 => (simp only [List.getElem?_toArray, List.getElem?_cons_zero, List.getElem?_cons_succ] <;> exact rfl)
            case hf73 => kernel_rfl
            case hq73 => exact fun _ _ _ h => h
            case hy73 => exact Or.inl ⟨by rfl, by intro w hSw; (try dsimp only at hSw); go_simp; try with_reducible rfl⟩
            (try simp only [Act.put, List.setIfInBounds_toArray, List.set_cons_zero, List.set_cons_succ])
            refine wpAnyH_take (i := 17) (oi := ?oo74) (v := ?vv74) ?hi74 (by kernel_rfl) ?hf74 (by kernel_rfl) ?hq74 ?hy74 (by assumption) ?rest74
            case hi74 => (simp only [List.getElem?_toArray, List.getElem?_cons_zero, List.getElem?_cons_succ] <;> exact rfl)
            case hf74 => kernel_rfl
            case hq74 => exact fun _ _ _ h => h
            case hy74 => exact Or.inl ⟨by rfl, by intro w hSw; (try dsimp only at hSw); go_simp; try with_reducible rfl⟩
            (try simp only [Act.put, List.setIfInBounds_toArray, List.set_cons_zero, List.set_cons_succ])
            refine wpAnyH_take (i := 18) (oi := ?oo75) (v := ?vv75) ?hi75 (by kernel_rfl) ?hf75 (by kernel_rfl) ?hq75 ?hy75 (by assumption) ?rest75
            case hi75 => (simp only [List.getElem?_toArray, List.getElem?_cons_zero, List.getElem?_cons_succ] <;> exact rfl)
            case hf75 => kernel_rfl
            case hq75 => exact fun _ _ _ h => h
            case hy75 => exact Or.inl ⟨by rfl, by intro w hSw; (try dsimp only at hSw); go_simp; try with_reducible rfl⟩
            (try simp only [Act.put, List.setIfInBounds_toArray, List.set_cons_zero, List.set_cons_succ])
            refine wpAnyH_take (i := 19) (oi := ?oo76) (v := ?vv76) ?hi76 (by kernel_rfl) ?hf76 (by kernel_rfl) ?hq76 ?hy76 (by assumption) ?rest76
            case hi76 => (simp only [List.getElem?_toArray, List.getElem?_cons_zero, List.getElem?_cons_succ] <;> exact rfl)
            case hf76 => kernel_rfl
            case hq76 => exact fun _ _ _ h => h
            case hy76 => exact Or.inl ⟨by rfl, by intro w hSw; (try dsimp only at hSw); go_simp; try with_reducible rfl⟩
            (try simp only [Act.put, List.setIfInBounds_toArray, List.set_cons_zero, List.set_cons_succ])
            refine wpAnyH_take (i := 20) (oi := ?oo77) (v := ?vv77) ?hi77 (by kernel_rfl) ?hf77 (by kernel_rfl) ?hq77 ?hy77 (by assumption) ?rest77
            case hi77 => (simp only [List.getElem?_toArray, List.getElem?_cons_zero, List.getElem?_cons_succ] <;> exact rfl)
            case hf77 => kernel_rfl
            case hq77 => exact fun _ _ _ h => h
            case hy77 => exact Or.inl ⟨by rfl, by intro w hSw; (try dsimp only at hSw); go_simp; try with_reducible rfl⟩
            (try simp only [Act.put, List.setIfInBounds_toArray, List.set_cons_zero, List.set_cons_succ])
            refine wpAnyH_take (i := 21) (oi := ?oo78) (v := ?vv78) ?hi78 (by kernel_rfl) ?hf78 (by kernel_rfl) ?hq78 ?hy78 (by assumption) ?rest78
            case hi78 => (simp only [List.getElem?_toArray, List.getElem?_cons_zero, List.getElem?_cons_succ] <;> exact rfl)
            case hf78 => kernel_rfl
            case hq78 => exact fun _ _ _ h => h
            case hy78 => exact Or.inl ⟨by rfl, by intro w hSw; (try dsimp only at hSw); go_simp; try with_reducible rfl⟩
            (try simp only [Act.put, List.setIfInBounds_toArray, List.set_cons_zero, List.set_cons_succ])
            refine wpAnyH_take (i := 22) (oi := ?oo79) (v := ?vv79) ?hi79 (by kernel_rfl) ?hf79 (by kernel_rfl) ?hq79 ?hy79 (by assumption) ?rest79
            case hi79 => (simp only [List.getElem?_toArray, List.getElem?_cons_zero, List.getElem?_cons_succ] <;> exact rfl)
            case hf79 => kernel_rfl
            case hq79 => exact fun _ _ _ h => h
            case hy79 => exact Or.inl ⟨by rfl, by intro w hSw; (try dsimp only at hSw); go_simp; try with_reducible rfl⟩
            (try simp only [Act.put, List.setIfInBounds_toArray, List.set_cons_zero, List.set_cons_succ])
            refine wpAnyH_take (i := 23) (oi := ?oo80) (v := ?vv80) ?hi80 (by kernel_rfl) ?hf80 (by kernel_rfl) ?hq80 ?hy80 (by assumption) ?rest80
            case hi80 => (simp only [List.getElem?_toArray, List.getElem?_cons_zero, List.getElem?_cons_succ] <;> exact rfl)
            case hf80 => kernel_rfl
            case hq80 => exact fun _ _ _ h => h
            case hy80 => exact Or.inl ⟨by rfl, by intro w hSw; (try dsimp only at hSw); go_simp; try with_reducible rfl⟩
            (try simp only [Act.put, List.setIfInBounds_toArray, List.set_cons_zero, List.set_cons_succ])
            refine wpAnyH_take (i := 24) (oi := ?oo81) (v := ?vv81) ?hi81 (by kernel_rfl) ?hf81 (by kernel_rfl) ?hq81 ?hy81 (by assumption) ?rest81
            case hi81 => (simp only [List.getElem?_toArray, List.getElem?_cons_zero, List.getElem?_cons_succ] <;> exact rfl)
            case hf81 => kernel_rfl
            case hq81 => exact fun _ _ _ h => h
            case hy81 => exact Or.inl ⟨by rfl, by intro w hSw; (try dsimp only at hSw); go_simp; try with_reducible rfl⟩
            (try simp only [Act.put, List.setIfInBounds_toArray, List.set_cons_zero, List.set_cons_succ])
            refine wpAnyH_take (i := 25) (oi := ?oo82) (v := ?vv82) ?hi82 (by kernel_rfl) ?hf82 (by kernel_rfl) ?hq82 ?hy82 (by assumption) ?rest82
            case hi82 => (simp only [List.getElem?_toArray, List.getElem?_cons_zero, List.getElem?_cons_succ] <;> exact rfl)
            case hf82 => kernel_rfl
            case hq82 => exact fun _ _ _ h => h
            case hy82 => exact Or.inl ⟨by rfl, by intro w hSw; (try dsimp only at hSw); go_simp; try with_reducible rfl⟩
            (try simp only [Act.put, List.setIfInBounds_toArray, List.set_cons_zero, List.set_cons_succ])
            refine wpAnyH_take (i := 26) (oi := ?oo83) (v := ?vv83) ?hi83 (by kernel_rfl) ?hf83 (by kernel_rfl) ?hq83 ?hy83 (by assumption) ?rest83
            case hi83 => (simp only [List.getElem?_toArray, List.getElem?_cons_zero, List.getElem?_cons_succ] <;> exact rfl)
            case hf83 => kernel_rfl
            case hq83 => exact fun _ _ _ h => h
            case hy83 => exact Or.inl ⟨by rfl, by intro w hSw; (try dsimp only at hSw); go_simp; try with_reducible rfl⟩
            (try simp only [Act.put, List.setIfInBounds_toArray, List.set_cons_zero, List.set_cons_succ])
            refine wpAnyH_take (i := 27) (oi := ?oo84) (v := ?vv84) ?hi84 (by kernel_rfl) ?hf84 (by kernel_rfl) ?hq84 ?hy84 (by assumption) ?rest84
            case hi84 => (simp only [List.getElem?_toArray, List.getElem?_cons_zero, List.getElem?_cons_succ] <;> exact rfl)
            case hf84 => kernel_rfl
            case hq84 => exact fun _ _ _ h => h
            case hy84 => exact Or.inl ⟨by rfl, by intro w hSw; (try dsimp only at hSw); go_simp; try with_reducible rfl⟩
            (try simp only [Act.put, List.setIfInBounds_toArray, List.set_cons_zero, List.set_cons_succ])
            refine wpAnyH_take (i := 28) (oi := ?oo85) (v := ?vv85) ?hi85 (by kernel_rfl) ?hf85 (by kernel_rfl) ?hq85 ?hy85 (by assumption) ?rest85
            case hi85 => (simp only [List.getElem?_toArray, List.getElem?_cons_zero, List.getElem?_cons_succ] <;> exact rfl)
            case hf85 => kernel_rfl
            case hq85 => exact fun _ _ _ h => h
            case hy85 => exact Or.inl ⟨by rfl, by intro w hSw; (try dsimp only at hSw); go_simp; try with_reducible rfl⟩
            (try simp only [Act.put, List.setIfInBounds_toArray, List.set_cons_zero, List.set_cons_succ])
            refine wpAnyH_take (i := 29) (oi := ?oo86) (v := ?vv86) ?hi86 (by kernel_rfl) ?hf86 (by kernel_rfl) ?hq86 ?hy86 (by assumption) ?rest86
            case hi86 => (simp only [List.getElem?_toArray, List.getElem?_cons_zero, List.getElem?_cons_succ] <;> exact rfl)
            case hf86 => kernel_rfl
            case hq86 => exact fun _ _ _ h => h
            case hy86 => exact Or.inl ⟨by rfl, by intro w hSw; (try dsimp only at hSw); go_simp; try with_reducible rfl⟩
            (try simp only [Act.put, List.setIfInBounds_toArray, List.set_cons_zero, List.set_cons_succ])
            refine wpAnyH_take (i := 30) (oi := ?oo87) (v := ?vv87) ?hi87 (by kernel_rfl) ?hf87 (by kernel_rfl) ?hq87 ?hy87 (by assumption) ?rest87
            case hi87 => (simp only [List.getElem?_toArray, List.getElem?_cons_zero, List.getElem?_cons_succ] <;> exact rfl)
            case hf87 => kernel_rfl
            case hq87 => exact fun _ _ _ h => h
            case hy87 => exact Or.inl ⟨by rfl, by intro w hSw; (try dsimp only at hSw); go_simp; try with_reducible rfl⟩
            (try simp only [Act.put, List.setIfInBounds_toArray, List.set_cons_zero, List.set_cons_succ])
            refine wpAnyH_take (i := 31) (oi := ?oo88) (v := ?vv88) ?hi88 (by kernel_rfl) ?hf88 (by kernel_rfl) ?hq88 ?hy88 (by assumption) ?rest88
            case hi88 => (simp only [List.getElem?_toArray, List.getElem?_cons_zero, List.getElem?_cons_succ] <;> exact rfl)
            case hf88 => kernel_rfl
            case hq88 => exact fun _ _ _ h => h
            case hy88 => exact Or.inl ⟨by rfl, by intro w hSw; (try dsimp only at hSw); go_simp; try with_reducible rfl⟩
            (try simp only [Act.put, List.setIfInBounds_toArray, List.set_cons_zero, List.set_cons_succ])
            refine wpAnyH_take (i := 32) (oi := ?oo89) (v := ?vv89) ?hi89 (by kernel_rfl) ?hf89 (by kernel_rfl) ?hq89 ?hy89 (by assumption) ?rest89
            case hi89 => (simp only [List.getElem?_toArray, List.getElem?_cons_zero, List.getElem?_cons_succ] <;> exact rfl)
            case hf89 => kernel_rfl
            case hq89 => exact fun _ _ _ h => h
            case hy89 => exact Or.inl ⟨by rfl, by intro w hSw; (try dsimp only at hSw); go_simp; try with_reducible rfl⟩
            (try simp only [Act.put, List.setIfInBounds_toArray, List.set_cons_zero, List.set_cons_succ])
            refine wpAnyH_take (i := 33) (oi := ?oo90) (v := ?vv90) ?hi90 (by kernel_rfl) ?hf90 (by kernel_rfl) ?hq90 ?hy90 (by assumption) ?rest90
            case hi90 => (simp only [List.getElem?_toArray, List.getElem?_cons_zero, List.getElem?_cons_succ] <;> exact rfl)
            case hf90 => kernel_rfl
            case hq90 => exact fun _ _ _ h => h
            case hy90 => exact Or.inl ⟨by rfl, by intro w hSw; (try dsimp only at hSw); go_simp; try with_reducible rfl⟩
            (try simp only [Act.put, List.setIfInBounds_toArray, List.set_cons_zero, List.set_cons_succ])
            refine wpAnyH_take (i := 34) (oi := ?oo91) (v := ?vv91) ?hi91 (by kernel_rfl) ?hf91 (by kernel_rfl) ?hq91 ?hy91 (by assumption) ?rest91
            case hi91 => (simp only [List.getElem?_toArray, List.getElem?_cons_zero, List.getElem?_cons_succ] <;> exact rfl)
            case hf91 => kernel_rfl
            case hq91 => exact fun _ _ _ h => h
            case hy91 => exact Or.inl ⟨by rfl, by intro w hSw; (try dsimp only at hSw); go_simp; try with_reducible rfl⟩
            (try simp only [Act.put, List.setIfInBounds_toArray, List.set_cons_zero, List.set_cons_succ])
            refine wpAnyH_take (i := 35) (oi := ?oo92) (v := ?vv92) ?hi92 (by kernel_rfl) ?hf92 (by kernel_rfl) ?hq92 ?hy92 (by assumption) ?rest92
            case hi92 => (simp only [List.getElem?_toArray, List.getElem?_cons_zero, List.getElem?_cons_succ] <;> exact rfl)
            case hf92 => kernel_rfl
            case hq92 => exact fun _ _ _ h => h
            case hy92 => exact Or.inl ⟨by rfl, by intro w hSw; (try dsimp only at hSw); go_simp; try with_reducible rfl⟩
            (try simp only [Act.put, List.setIfInBounds_toArray, List.set_cons_zero, List.set_cons_succ])
            refine wpAnyH_take (i := 36) (oi := ?oo93) (v := ?vv93) ?hi93 (by kernel_rfl) ?hf93 (by kernel_rfl) ?hq93 ?hy93 (by assumption) ?rest93
            case hi93 => (simp only [List.getElem?_toArray, List.getElem?_cons_zero, List.getElem?_cons_succ] <;> exact rfl)
            case hf93 => kernel_rfl
            case hq93 => exact fun _ _ _ h => h
            case hy93 => exact Or.inl ⟨by rfl, by intro w hSw; (try dsimp only at hSw); go_simp; try with_reducible rfl⟩
            (try simp only [Act.put, List.setIfInBounds_toArray, List.set_cons_zero, List.set_cons_succ])
            refine wpAnyH_take (i := 37) (oi := ?oo94) (v := ?vv94) ?hi94 (by kernel_rfl) ?hf94 (by kernel_rfl) ?hq94 ?hy94 (by assumption) ?rest94
            case hi94 => (simp only [List.getElem?_toArray, List.getElem?_cons_zero, List.getElem?_cons_succ] <;> exact rfl)
            case hf94 => kernel_rfl
            case hq94 => exact fun _ _ _ h => h
            case hy94 => exact Or.inl ⟨by rfl, by intro w hSw; (try dsimp only at hSw); go_simp; try with_reducible rfl⟩
            (try simp only [Act.put, List.setIfInBounds_toArray, List.set_cons_zero, List.set_cons_succ])
            refine wpAnyH_take (i := 38) (oi := ?oo95) (v := ?vv95) ?hi95 (by kernel_rfl) ?hf95 (by kernel_rfl) ?hq95 ?hy95 (by assumption) ?rest95
            case hi95 => (simp only [List.getElem?_toArray, List.getElem?_cons_zero, List.getElem?_cons_succ] <;> exact rfl)
            case hf95 => kernel_rfl
            case hq95 => exact fun _ _ _ h => h
            case hy95 => exact Or.inl ⟨by rfl, by intro w hSw; (try dsimp only at hSw); go_simp; try with_reducible rfl⟩
            (try simp only [Act.put, List.setIfInBounds_toArray, List.set_cons_zero, List.set_cons_succ])
            refine wpAnyH_take (i := 39) (oi := ?oo96) (v := ?vv96) ?hi96 (by kernel_rfl) ?hf96 (by kernel_rfl) ?hq96 ?hy96 (by assumption) ?rest96
            case hi96 => (simp only [List.getElem?_toArray, List.getElem?_cons_zero, List.getElem?_cons_succ] <;> exact rfl)
            case hf96 => kernel_rfl
            case hq96 => exact fun _ _ _ h => h
            case hy96 => exact Or.inl ⟨by rfl, by intro w hSw; (try dsimp only at hSw); go_simp; try with_reducible rfl⟩
            (try simp only [Act.put, List.setIfInBounds_toArray, List.set_cons_zero, List.set_cons_succ])
            refine wpAnyH_take (i := 40) (oi := ?oo97) (v := ?vv97) ?hi97 (by kernel_rfl) ?hf97 (by kernel_rfl) ?hq97 ?hy97 (by assumption) ?rest97
            case hi97 => (simp only [List.getElem?_toArray, List.getElem?_cons_zero, List.getElem?_cons_succ] <;> exact rfl)
            case hf97 => kernel_rfl
            case hq97 => exact fun _ _ _ h => h
            case hy97 => exact Or.inl ⟨by rfl, by intro w hSw; (try dsimp only at hSw); go_simp; try with_reducible rfl⟩
            (try simp only [Act.put, List.setIfInBounds_toArray, List.set_cons_zero, List.set_cons_succ])
            refine wpAnyH_take (i := 41) (oi := ?oo98) (v := ?vv98) ?hi98 (by kernel_rfl) ?hf98 (by kernel_rfl) ?hq98 ?hy98 (by assumption) ?rest98
            case hi98 => (simp only [List.getElem?_toArray, List.getElem?_cons_zero, List.getElem?_cons_succ] <;> exact rfl)
            case hf98 => kernel_rfl
            case hq98 => exact fun _ _ _ h => h
            case hy98 => exact Or.inl ⟨by rfl, by intro w hSw; (try dsimp only at hSw); go_simp; try with_reducible rfl⟩
            (try simp only [Act.put, List.setIfInBounds_toArray, List.set_cons_zero, List.set_cons_succ])
            refine wpAnyH_take (i := 43) (oi := ?oo99) (v := ?vv99) ?hi99 (by kernel_rfl) ?hf99 (by kernel_rfl) ?hq99 ?hy99 (by assumption) ?rest99
            case hi99 => (simp only [List.getElem?_toArray, List.getElem?_cons_zero, List.getElem?_cons_succ] <;> exact rfl)
            case hf99 => kernel_rfl
            case hq99 => exact fun _ _ _ h => h
            case hy99 => exact Or.inl ⟨by rfl, by intro w hSw; (try dsimp only at hSw); go_simp; try with_reducible rfl⟩
            (try simp only [Act.put, List.setIfInBounds_toArray, List.set_cons_zero, List.set_cons_succ])
            refine wpAnyH_take (i := 44) (oi := ?oo100) (v := ?vv100) ?hi100 (by kernel_rfl) ?hf100 (by kernel_rfl) ?hq100 ?hy100 (by assumption) ?rest100
            case hi100 => (simp only [List.getElem?_toArray, List.getElem?_cons_zero, List.getElem?_cons_succ] <;> exact rfl)
            case hf100 => kernel_rfl
            case hq100 => exact fun _ _ _ h => h
            case hy100 => exact Or.inl ⟨by rfl, by intro w hSw; (try dsimp only at hSw); go_simp; try with_reducible rfl⟩
            (try simp only [Act.put, List.setIfInBounds_toArray, List.set_cons_zero, List.set_cons_succ])
            refine wpAnyH_ready (rs := [42]) (by kernel_rfl) (by simp) ?_
            refine AllReadyH.cons (o := ?oo101) ?hi101 (fun K hK => ?st101) ?more101
            case hi101 => (simp only [List.getElem?_toArray, List.getElem?_cons_zero, List.getElem?_cons_succ] <;> exact rfl)
            case more101 => exact AllReadyH.nil
            go_simp
            go_at_call 28
            refine Calls.mono (HN.out _ m4) ?_
            rintro e w10 ⟨rfl, kk⟩
            replace D1 := D1.chg kk (by simp)
            replace D2 := D2.chg kk (by simp)
            replace KC := KC.trans kk (by simp)
            clear kk
            refine hK.out _ _ ?hS101 (fun hHeld => ?rest101)
            case hS101 => exact ⟨D1.cell 0, D1.cell 1, D1.cell 2, D2.cell 0, D2.cell 1, D2.cell 2⟩
            clear hK K
            (try simp only [Act.put, List.setIfInBounds_toArray, List.set_cons_zero, List.set_cons_succ])
            refine wpAnyH_take (i := 45) (oi := ?oo102) (v := ?vv102) ?hi102 (by kernel_rfl) ?hf102 (by kernel_rfl) ?hq102 ?hy102 (by assumption) ?rest102
            case hi102 => (simp only [List.getElem?_toArray, List.getElem?_cons_zero, List.getElem?_cons_succ] <;> exact rfl)
            case hf102 => kernel_rfl
            case hq102 => exact fun _ _ _ h => h
            case hy102 => exact Or.inl ⟨by rfl, by intro w hSw; (try dsimp only at hSw); go_simp; try with_reducible rfl⟩
            (try simp only [Act.put, List.setIfInBounds_toArray, List.set_cons_zero, List.set_cons_succ])
            refine wpAnyH_take (i := 46) (oi := ?oo103) (v := ?vv103) ?hi103 (by kernel_rfl) ?hf103 (by kernel_rfl) ?hq103 ?hy103 (by assumption) ?rest103
            case hi103 => (simp only [List.getElem?_toArray, List.getElem?_cons_zero, List.getElem?_cons_succ] <;> exact rfl)
            case hf103 => kernel_rfl
            case hq103 => exact fun _ _ _ h => h
            case hy103 => exact Or.inl ⟨by rfl, by intro w hSw; (try dsimp only at hSw); go_simp; try with_reducible rfl⟩
            (try simp only [Act.put, List.setIfInBounds_toArray, List.set_cons_zero, List.set_cons_succ])
            refine wpAnyH_take (i := 47) (oi := ?oo104) (v := ?vv104) ?hi104 (by kernel_rfl) ?hf104 (by kernel_rfl) ?hq104 ?hy104 (by assumption) ?rest104
            case hi104 => (simp only [List.getElem?_toArray, List.getElem?_cons_zero, List.getElem?_cons_succ] <;> exact rfl)
            case hf104 => kernel_rfl
            case hq104 => exact fun _ _ _ h => h
            case hy104 => exact Or.inl ⟨by rfl, by intro w hSw; (try dsimp only at hSw); go_simp; try with_reducible rfl⟩
            (try simp only [Act.put, List.setIfInBounds_toArray, List.set_cons_zero, List.set_cons_succ])
            refine wpAnyH_take (i := 48) (oi := ?oo105) (v := ?vv105) ?hi105 (by kernel_rfl) ?hf105 (by kernel_rfl) ?hq105 ?hy105 (by assumption) ?rest105
            case hi105 => (simp only [List.getElem?_toArray, List.getElem?_cons_zero, List.getElem?_cons_succ] <;> exact rfl)
            case hf105 => kernel_rfl
            case hq105 => exact fun _ _ _ h => h
            case hy105 => exact Or.inl ⟨by rfl, by intro w hSw; (try dsimp only at hSw); go_simp; try with_reducible rfl⟩
            (try simp only [Act.put, List.setIfInBounds_toArray, List.set_cons_zero, List.set_cons_succ])
            refine wpAnyH_take (i := 49) (oi := ?oo106) (v := ?vv106) ?hi106 (by kernel_rfl) ?hf106 (by kernel_rfl) ?hq106 ?hy106 (by assumption) ?rest106
            case hi106 => (simp only [List.getElem?_toArray, List.getElem?_cons_zero, List.getElem?_cons_succ] <;> exact rfl)
            case hf106 => kernel_rfl
            case hq106 => exact fun _ _ _ h => h
            case hy106 => exact Or.inl ⟨by rfl, by intro w hSw; (try dsimp only at hSw); go_simp; try with_reducible rfl⟩
            (try simp only [Act.put, List.setIfInBounds_toArray, List.set_cons_zero, List.set_cons_succ])
            refine wpAnyH_take (i := 50) (oi := ?oo107) (v := ?vv107) ?hi107 (by kernel_rfl) ?hf107 (by kernel_rfl) ?hq107 ?hy107 (by assumption) ?rest107
            case hi107 => (simp only [List.getElem?_toArray, List.getElem?_cons_zero, List.getElem?_cons_succ] <;> exact rfl)
            case hf107 => kernel_rfl
            case hq107 => exact fun _ _ _ h => h
            case hy107 => exact Or.inl ⟨by rfl, by intro w hSw; (try dsimp only at hSw); go_simp; try with_reducible rfl⟩
            (try simp only [Act.put, List.setIfInBounds_toArray, List.set_cons_zero, List.set_cons_succ])
            refine wpAnyH_take (i := 51) (oi := ?oo108) (v := ?vv108) ?hi108 (by kernel_rfl) ?hf108 (by kernel_rfl) ?hq108 ?hy108 (by assumption) ?rest108
            case hi108 => (simp only [List.getElem?_toArray, List.getElem?_cons_zero, List.getElem?_cons_succ] <;> exact rfl)
            case hf108 => kernel_rfl
            case hq108 => exact fun _ _ _ h => h
            case hy108 => exact Or.inl ⟨by rfl, by intro w hSw; (try dsimp only at hSw); go_simp; try with_reducible rfl⟩
            (try simp only [Act.put, List.setIfInBounds_toArray, List.set_cons_zero, List.set_cons_succ])
            refine wpAnyH_take (i := 52) (oi := ?oo109) (v := ?vv109) ?hi109 (by kernel_rfl) ?hf109 (by kernel_rfl) ?hq109 ?hy109 (by assumption) ?rest109
            case hi109 => (simp only [List.getElem?_toArray, List.getElem?_cons_zero, List.getElem?_cons_succ] <;> exact rfl)
            case hf109 => kernel_rfl
            case hq109 => exact fun _ _ _ h => h
            case hy109 => exact Or.inl ⟨by rfl, by intro w hSw; (try dsimp only at hSw); go_simp; try with_reducible rfl⟩
            (try simp only [Act.put, List.setIfInBounds_toArray, List.set_cons_zero, List.set_cons_succ])
            refine wpAnyH_ready (rs := [53]) (by kernel_rfl) (by simp) ?_
            refine AllReadyH.cons (o := ?oo110) ?hi110 (fun K hK => ?st110) ?more110
            case hi110 => (simp only [List.getElem?_toArray, List.getElem?_cons_zero, List.getElem?_cons_succ] <;> exact rfl)
            case more110 => exact AllReadyH.nil
            go_simp
            go_at_call 12
            refine Calls.mono (TcapTwice.awake_ok _) ?_
            rintro e w11 ⟨rfl, kk⟩
            replace D1 := D1.chg kk (by simp)
            replace D2 := D2.chg kk (by simp)
            replace KC := KC.trans kk (by simp)
            clear kk
            refine hK.out _ _ ?hS110 (fun hHeld => ?rest110)
            case hS110 => exact ⟨D1.cell 0, D1.cell 1, D1.cell 2, D2.cell 0, D2.cell 1, D2.cell 2⟩
            clear hK K
            (try simp only [Act.put, List.setIfInBounds_toArray, List.set_cons_zero, List.set_cons_succ])
            refine wpAnyH_take (i := 54) (oi := ?oo111) (v := ?vv111) ?hi111 (by kernel_rfl) ?hf111 (by kernel_rfl) ?hq111 ?hy111 (by assumption) ?rest111
            case hi111 => (simp only [List.getElem?_toArray, List.getElem?_cons_zero, List.getElem?_cons_succ] <;> exact rfl)
            case hf111 => kernel_rfl
            case hq111 => exact fun _ _ _ h => h
            case hy111 => exact Or.inl ⟨by rfl, by intro w hSw; (try dsimp only at hSw); go_simp; try with_reducible rfl⟩
            (try simp only [Act.put, List.setIfInBounds_toArray, List.set_cons_zero, List.set_cons_succ])
            refine wpAnyH_take (i := 55) (oi := ?oo112) (v := ?vv112) ?hi112 (by kernel_rfl) ?hf112 (by kernel_rfl) ?hq112 ?hy112 (by assumption) ?rest112
            case hi112 => (simp only [List.getElem?_toArray, List.getElem?_cons_zero, List.getElem?_cons_succ] <;> exact rfl)
            case hf112 => kernel_rfl
            case hq112 => exact fun _ _ _ h => h
            case hy112 => exact Or.inl ⟨by rfl, by intro w hSw; (try dsimp only at hSw); go_simp; try with_reducible rfl⟩
            (try simp only [Act.put, List.setIfInBounds_toArray, List.set_cons_zero, List.set_cons_succ])
            refine wpAnyH_done (by kernel_rfl) ?_ _
            go_wp2
            go_ret
            exact ⟨by first | rfl | simp, KC⟩
          · have ecm : cm false l1 c = 0 := by unfold cm; rw [if_neg (by simp), if_neg hm, hlm]
            have ecs : cs false l1 c = true := by unfold cs; rw [if_neg (by simp), ecm]; rfl
            rw [ecs] at HX
            rw [ecm] at H4
            go_wp2_with fail
            refine Calls.mono HX.out ?_
            rintro x w8 ⟨rfl, m4, k1⟩
            clear HX m3 ecm ecs
            replace D1 := D1.chg k1 (by simpa using hdg)
            replace K := K.trans k1 (by intro s hs; right; simp at hs; omega)
            clear k1
            have HG0 := Tcap.get_ok m4 H4.out.u 1
            unfold tV at HG0
            rw [H4.out.e, H4.out.z, H4.out.l, H4.out.t] at HG0
            have HG := Lib.hid HG0
            clear HG0
            go_wp2_with fail
            refine Calls.mono HG.out ?_
            rintro x w9 ⟨rfl, k1⟩
            clear HG
            obtain ⟨d2, ed2⟩ : ∃ q, w9.heap.size = q := ⟨_, rfl⟩
            have D2 := Blk.new' w9 23 (tcC false 0 t1) ed2
            replace D1 := (D1.chg k1 (by simp)).alloc (.cells (tcC false 0 t1) 23)
            replace m4 := (m4.chg0 k1).alloc (.cells (tcC false 0 t1) 23)
            replace K := (K.trans k1 (by simp)).alloc (.cells (tcC false 0 t1) 23)
            clear k1
            have HN0 := fun (W : World) (q : MemAt W p g 2 L4) => can_ok q H4.out.u 1
            have ecan : canB 2 L4 1 = false := by unfold canB; rw [H4.out.e, H4.out.z, H4.out.l]; simp
            rw [ecan] at HN0
            have HN := Lib.hid HN0
            clear HN0 ecan H4 HB2
            go_wp2_with fail
            have hw0 : IntKind.i64.wrap 0 = 0 := by decide
            rw [hlm] at hwc
            refine wp_region_held_drew (S := fun V => V.cell? ⟨d1, 0, none⟩ = some (.bool false) ∧ V.cell? ⟨d1, 1, none⟩ = some (.int .i64 l1) ∧ V.cell? ⟨d1, 2, none⟩ = some (.int .i64 t1) ∧ V.cell? ⟨d2, 0, none⟩ = some (.bool false) ∧ V.cell? ⟨d2, 1, none⟩ = some (.int .i64 0) ∧ V.cell? ⟨d2, 2, none⟩ = some (.int .i64 t1)) (by kernel_rfl) ?_ (fun hHeld => ?_)
            case _ => exact ⟨D1.cell 0, D1.cell 1, D1.cell 2, D2.cell 0, D2.cell 1, D2.cell 2⟩
            replace D1 := D1.drew
            replace D2 := D2.drew
            replace m4 := m4.drew
            have KC := K.drew
            clear K
            refine wpAnyH_take (i := 0) (oi := ?oo113) (v := ?vv113) ?hi113 (by kernel_rfl) ?hf113 (by kernel_rfl) ?hq113 ?hy113 (by assumption) ?rest113
            case hi113 => (simp only [List.getElem?_toArray, List.getElem?_cons_zero] <;> exact rfl)
            case hf113 => kernel_rfl
            case hq113 => exact fun _ _ _ h => h
            case hy113 => exact Or.inl ⟨by rfl, by intro w hSw; (try dsimp only at hSw); go_simp; try with_reducible rfl⟩
            (try simp only [Act.put, List.setIfInBounds_toArray, List.set_cons_zero, List.set_cons_succ])
            refine wpAnyH_take (i := 1) (oi := ?oo114) (v := ?vv114) ?hi114 (by kernel_rfl) ?hf114 (by kernel_rfl) ?hq114 ?hy114 (by assumption) ?rest114
            case hi114 => (simp only [List.getElem?_toArray, List.getElem?_cons_zero, List.getElem?_cons_succ] <;> exact rfl)
            case hf114 => kernel_rfl
            case hq114 => exact fun _ _ _ h => h
            case hy114 => exact Or.inl ⟨by rfl, by intro w hSw; (try dsimp only at hSw); go_simp; try with_reducible rfl⟩
            (try simp only [Act.put, List.setIfInBounds_toArray, List.set_cons_zero, List.set_cons_succ])
            refine wpAnyH_take (i := 2) (oi := ?oo115) (v := ?vv115) ?hi115 (by kernel_rfl) ?hf115 (by kernel_rfl) ?hq115 ?hy115 (by assumption) ?rest115
            case hi115 => (simp only [List.getElem?_toArray, List.getElem?_cons_zero, List.getElem?_cons_succ] <;> exact rfl)
            case hf115 => kernel_rfl
            case hq115 => exact fun _ _ _ h => h
            case hy115 => exact Or.inl ⟨by rfl, by intro w hSw; (try dsimp only at hSw); go_simp; try with_reducible rfl⟩
            (try simp only [Act.put, List.setIfInBounds_toArray, List.set_cons_zero, List.set_cons_succ])
            refine wpAnyH_take (i := 3) (oi := ?oo116) (v := undef) ?hi116 (by kernel_rfl) ?hf116 (by kernel_rfl) ?hq116 ?hy116 (by assumption) ?rest116
            case hi116 => (simp only [List.getElem?_toArray, List.getElem?_cons_zero, List.getElem?_cons_succ] <;> exact rfl)
            case hf116 => kernel_rfl
            case hq116 => exact fun _ _ _ h => h
            case hy116 => exact Or.inr ⟨by rfl, rfl⟩
            (try simp only [Act.put, List.setIfInBounds_toArray, List.set_cons_zero, List.set_cons_succ])
            refine wpAnyH_take (i := 4) (oi := ?oo117) (v := undef) ?hi117 (by kernel_rfl) ?hf117 (by kernel_rfl) ?hq117 ?hy117 (by assumption) ?rest117
            case hi117 => (simp only [List.getElem?_toArray, List.getElem?_cons_zero, List.getElem?_cons_succ] <;> exact rfl)
            case hf117 => kernel_rfl
            case hq117 => exact fun _ _ _ h => h
            case hy117 => exact Or.inr ⟨by rfl, rfl⟩
            (try simp only [Act.put, List.setIfInBounds_toArray, List.set_cons_zero, List.set_cons_succ])
            refine wpAnyH_take (i := 5) (oi := ?oo118) (v := undef) ?hi118 (by kernel_rfl) ?hf118 (by kernel_rfl) ?hq118 ?hy118 (by assumption) ?rest118
            case hi118 => (simp only [List.getElem?_toArray, List.getElem?_cons_zero, List.getElem?_cons_succ] <;> exact rfl)
            case hf118 => kernel_rfl
            case hq118 => exact fun _ _ _ h => h
            case hy118 => exact Or.inr ⟨by rfl, rfl⟩
            (try simp only [Act.put, List.setIfInBounds_toArray, List.set_cons_zero, List.set_cons_succ])
            refine wpAnyH_take (i := 6) (oi := ?oo119) (v := ?vv119) ?hi119 (by kernel_rfl) ?hf119 (by kernel_rfl) ?hq119 ?hy119 (by assumption) ?rest119
            case hi119 => (simp only [List.getElem?_toArray, List.getElem?_cons_zero, List.getElem?_cons_succ] <;> exact rfl)
            case hf119 => kernel_rfl
            case hq119 => exact fun _ _ _ h => h
            case hy119 => exact Or.inl ⟨by rfl, by intro w hSw; (try dsimp only at hSw); go_simp; try with_reducible rfl⟩
            (try simp only [Act.put, List.setIfInBounds_toArray, List.set_cons_zero, List.set_cons_succ])
            refine wpAnyH_take (i := 7) (oi := ?oo120) (v := ?vv120) ?hi120 (by kernel_rfl) ?hf120 (by kernel_rfl) ?hq120 ?hy120 (by assumption) ?rest120
            case hi120 => (simp only [List.getElem?_toArray, List.getElem?_cons_zero, List.getElem?_cons_succ] <;> exact rfl)
            case hf120 => kernel_rfl
            case hq120 => exact fun _ _ _ h => h
            case hy120 => exact Or.inl ⟨by rfl, by intro w hSw; (try dsimp only at hSw); go_simp; try with_reducible rfl⟩
            (try simp only [Act.put, List.setIfInBounds_toArray, List.set_cons_zero, List.set_cons_succ])
            refine wpAnyH_take (i := 8) (oi := ?oo121) (v := undef) ?hi121 (by kernel_rfl) ?hf121 (by kernel_rfl) ?hq121 ?hy121 (by assumption) ?rest121
            case hi121 => (simp only [List.getElem?_toArray, List.getElem?_cons_zero, List.getElem?_cons_succ] <;> exact rfl)
            case hf121 => kernel_rfl
            case hq121 => exact fun _ _ _ h => h
            case hy121 => exact Or.inr ⟨by rfl, rfl⟩
            (try simp only [Act.put, List.setIfInBounds_toArray, List.set_cons_zero, List.set_cons_succ])
            refine wpAnyH_take (i := 9) (oi := ?oo122) (v := undef) ?hi122 (by kernel_rfl) ?hf122 (by kernel_rfl) ?hq122 ?hy122 (by assumption) ?rest122
            case hi122 => (simp only [List.getElem?_toArray, List.getElem?_cons_zero, List.getElem?_cons_succ] <;> exact rfl)
            case hf122 => kernel_rfl
            case hq122 => exact fun _ _ _ h => h
            case hy122 => exact Or.inr ⟨by rfl, rfl⟩
            (try simp only [Act.put, List.setIfInBounds_toArray, List.set_cons_zero, List.set_cons_succ])
            refine wpAnyH_take (i := 10) (oi := ?oo123) (v := ?vv123) ?hi123 (by kernel_rfl) ?hf123 (by kernel_rfl) ?hq123 ?hy123 (by assumption) ?rest123
            case hi123 => (simp only [List.getElem?_toArray, List.getElem?_cons_zero, List.getElem?_cons_succ] <;> exact rfl)
            case hf123 => kernel_rfl
            case hq123 => exact fun _ _ _ h => h
            case hy123 => exact Or.inl ⟨by rfl, by intro w hSw; (try dsimp only at hSw); go_simp; try with_reducible rfl⟩
            (try simp only [Act.put, List.setIfInBounds_toArray, List.set_cons_zero, List.set_cons_succ])
            refine wpAnyH_take (i := 11) (oi := ?oo124) (v := ?vv124) ?hi124 (by kernel_rfl) ?hf124 (by kernel_rfl) ?hq124 ?hy124 (by assumption) ?rest124
            case hi124 => (simp only [List.getElem?_toArray, List.getElem?_cons_zero, List.getElem?_cons_succ] <;> exact rfl)
            case hf124 => kernel_rfl
            case hq124 => exact fun _ _ _ h => h
            case hy124 => exact Or.inl ⟨by rfl, by intro w hSw; (try dsimp only at hSw); go_simp; try with_reducible rfl⟩
            (try simp only [Act.put, List.setIfInBounds_toArray, List.set_cons_zero, List.set_cons_succ])
            refine wpAnyH_take (i := 12) (oi := ?oo125) (v := ?vv125) ?hi125 (by kernel_rfl) ?hf125 (by kernel_rfl) ?hq125 ?hy125 (by assumption) ?rest125
            case hi125 => (simp only [List.getElem?_toArray, List.getElem?_cons_zero, List.getElem?_cons_succ] <;> exact rfl)
            case hf125 => kernel_rfl
            case hq125 => exact fun _ _ _ h => h
            case hy125 => exact Or.inl ⟨by rfl, by intro w hSw; (try dsimp only at hSw); go_simp; try with_reducible rfl⟩
            (try simp only [Act.put, List.setIfInBounds_toArray, List.set_cons_zero, List.set_cons_succ])
            refine wpAnyH_take (i := 13) (oi := ?oo126) (v := ?vv126) ?hi126 (by kernel_rfl) ?hf126 (by kernel_rfl) ?hq126 ?hy126 (by assumption) ?rest126
            case hi126 => (simp only [List.getElem?_toArray, List.getElem?_cons_zero, List.getElem?_cons_succ] <;> exact rfl)
            case hf126 => kernel_rfl
            case hq126 => exact fun _ _ _ h => h
            case hy126 => exact Or.inl ⟨by rfl, by intro w hSw; (try dsimp only at hSw); go_simp; try with_reducible rfl⟩
            (try simp only [Act.put, List.setIfInBounds_toArray, List.set_cons_zero, List.set_cons_succ])
            refine wpAnyH_take (i := 14) (oi := ?oo127) (v := ?vv127) ?hi127 (by kernel_rfl) ?hf127 (by kernel_rfl) ?hq127 ?hy127 (by assumption) ?rest127
            case hi127 => (simp only [List.getElem?_toArray, List.getElem?_cons_zero, List.getElem?_cons_succ] <;> exact rfl)
            case hf127 => kernel_rfl
            case hq127 => exact fun _ _ _ h => h
            case hy127 => exact Or.inl ⟨by rfl, by intro w hSw; (try dsimp only at hSw); go_simp; try with_reducible rfl⟩
            (try simp only [Act.put, List.setIfInBounds_toArray, List.set_cons_zero, List.set_cons_succ])
            refine wpAnyH_take (i := 15) (oi := ?oo128) (v := ?vv128) ?hi128 (by kernel_rfl) ?hf128 (by kernel_rfl) ?hq128 ?hy128 (by assumption) ?rest128
            case hi128 => (simp only [List.getElem?_toArray, List.getElem?_cons_zero, List.getElem?_cons_succ] <;> exact rfl)
            case hf128 => kernel_rfl
            case hq128 => exact fun _ _ _ h => h
            case hy128 => exact Or.inl ⟨by rfl, by intro w hSw; (try dsimp only at hSw); go_simp; try with_reducible rfl⟩
            (try simp only [Act.put, List.setIfInBounds_toArray, List.set_cons_zero, List.set_cons_succ])
            refine wpAnyH_take (i := 16) (oi := ?oo129) (v := ?vv129) ?hi129 (by kernel_rfl) ?hf129 (by kernel_rfl) ?hq129 ?hy129 (by assumption) ?rest129
            case hi129 => (simp only [List.getElem?_toArray, List.getElem?_cons_zero, List.getElem?_cons_succ] <;> exact rfl)
            case hf129 => kernel_rfl
            case hq129 => exact fun _ _ _ h => h
            case hy129 => exact Or.inl ⟨by rfl, by intro w hSw; (try dsimp only at hSw); go_simp; try with_reducible rfl⟩
            (try simp only [Act.put, List.setIfInBounds_toArray, List.set_cons_zero, List.set_cons_succ])
            refine wpAnyH_take (i := 17) (oi := ?oo130) (v := ?vv130) ?hi130 (by kernel_rfl) ?hf130 (by kernel_rfl) ?hq130 ?hy130 (by assumption) ?rest130
            case hi130 => (simp only [List.getElem?_toArray, List.getElem?_cons_zero, List.getElem?_cons_succ] <;> exact rfl)
            case hf130 => kernel_rfl
            case hq130 => exact fun _ _ _ h => h
            case hy130 => exact Or.inl ⟨by rfl, by intro w hSw; (try dsimp only at hSw); go_simp; try with_reducible rfl⟩
            (try simp only [Act.put, List.setIfInBounds_toArray, List.set_cons_zero, List.set_cons_succ])
            refine wpAnyH_take (i := 18) (oi := ?oo131) (v := ?vv131) ?hi131 (by kernel_rfl) ?hf131 (by kernel_rfl) ?hq131 ?hy131 (by assumption) ?rest131
            case hi131 => (simp only [List.getElem?_toArray, List.getElem?_cons_zero, List.getElem?_cons_succ] <;> exact rfl)
            case hf131 => kernel_rfl
            case hq131 => exact fun _ _ _ h => h
            case hy131 => exact Or.inl ⟨by rfl, by intro w hSw; (try dsimp only at hSw); go_simp; try with_reducible rfl⟩
            (try simp only [Act.put, List.setIfInBounds_toArray, List.set_cons_zero, List.set_cons_succ])
            refine wpAnyH_take (i := 19) (oi := ?oo132) (v := ?vv132) ?hi132 (by kernel_rfl) ?hf132 (by kernel_rfl) ?hq132 ?hy132 (by assumption) ?rest132
            case hi132 => (simp only [List.getElem?_toArray, List.getElem?_cons_zero, List.getElem?_cons_succ] <;> exact rfl)
            case hf132 => kernel_rfl
            case hq132 => exact fun _ _ _ h => h
            case hy132 => exact Or.inl ⟨by rfl, by intro w hSw; (try dsimp only at hSw); go_simp; try with_reducible rfl⟩
            (try simp only [Act.put, List.setIfInBounds_toArray, List.set_cons_zero, List.set_cons_succ])
            refine wpAnyH_take (i := 20) (oi := ?oo133) (v := ?vv133) ?hi133 (by kernel_rfl) ?hf133 (by kernel_rfl) ?hq133 ?hy133 (by assumption) ?rest133
            case hi133 => (simp only [List.getElem?_toArray, List.getElem?_cons_zero, List.getElem?_cons_succ] <;> exact rfl)
            case hf133 => kernel_rfl
            case hq133 => exact fun _ _ _ h => h
            case hy133 => exact Or.inl ⟨by rfl, by intro w hSw; (try dsimp only at hSw); go_simp; try with_reducible rfl⟩
            (try simp only [Act.put, List.setIfInBounds_toArray, List.set_cons_zero, List.set_cons_succ])
            refine wpAnyH_take (i := 21) (oi := ?oo134) (v := ?vv134) ?hi134 (by kernel_rfl) ?hf134 (by kernel_rfl) ?hq134 ?hy134 (by assumption) ?rest134
            case hi134 => (simp only [List.getElem?_toArray, List.getElem?_cons_zero, List.getElem?_cons_succ] <;> exact rfl)
            case hf134 => kernel_rfl
            case hq134 => exact fun _ _ _ h => h
            case hy134 => exact Or.inl ⟨by rfl, by intro w hSw; (try dsimp only at hSw); go_simp; try with_reducible rfl⟩
            (try simp only [Act.put, List.setIfInBounds_toArray, List.set_cons_zero, List.set_cons_succ])
            refine wpAnyH_take (i := 22) (oi := ?oo135) (v := ?vv135) ?hi135 (by kernel_rfl) ?hf135 (by kernel_rfl) ?hq135 ?hy135 (by assumption) ?rest135
            case hi135 => (simp only [List.getElem?_toArray, List.getElem?_cons_zero, List.getElem?_cons_succ] <;> exact rfl)
            case hf135 => kernel_rfl
            case hq135 => exact fun _ _ _ h => h
            case hy135 => exact Or.inl ⟨by rfl, by intro w hSw; (try dsimp only at hSw); go_simp; try with_reducible rfl⟩
            (try simp only [Act.put, List.setIfInBounds_toArray, List.set_cons_zero, List.set_cons_succ])
            refine wpAnyH_take (i := 23) (oi := ?oo136) (v := ?vv136) ?hi136 (by kernel_rfl) ?hf136 (by kernel_rfl) ?hq136 ?hy136 (by assumption) ?rest136
            case hi136 => (simp only [List.getElem?_toArray, List.getElem?_cons_zero, List.getElem?_cons_succ] <;> exact rfl)
            case hf136 => kernel_rfl
            case hq136 => exact fun _ _ _ h => h
            case hy136 => exact Or.inl ⟨by rfl, by intro w hSw; (try dsimp only at hSw); go_simp; try with_reducible rfl⟩
            (try simp only [Act.put, List.setIfInBounds_toArray, List.set_cons_zero, List.set_cons_succ])
            refine wpAnyH_take (i := 24) (oi := ?oo137) (v := ?vv137) ?hi137 (by kernel_rfl) ?hf137 (by kernel_rfl) ?hq137 ?hy137 (by assumption) ?rest137
            case hi137 => (simp only [List.getElem?_toArray, List.getElem?_cons_zero, List.getElem?_cons_succ] <;> exact rfl)
            case hf137 => kernel_rfl
            case hq137 => exact fun _ _ _ h => h
            case hy137 => exact Or.inl ⟨by rfl, by intro w hSw; (try dsimp only at hSw); go_simp; try with_reducible rfl⟩
            (try simp only [Act.put, List.setIfInBounds_toArray, List.set_cons_zero, List.set_cons_succ])
            refine wpAnyH_take (i := 25) (oi := ?oo138) (v := ?vv138) ?hi138 (by kernel_rfl) ?hf138 (by kernel_rfl) ?hq138 ?hy138 (by assumption) ?rest138
            case hi138 => (simp only [List.getElem?_toArray, List.getElem?_cons_zero, List.getElem?_cons_succ] <;> exact rfl)
            case hf138 => kernel_rfl
            case hq138 => exact fun _ _ _ h => h
            case hy138 => exact Or.inl ⟨by rfl, by intro w hSw; (try dsimp only at hSw); go_simp; try with_reducible rfl⟩
            (try simp only [Act.put, List.setIfInBounds_toArray, List.set_cons_zero, List.set_cons_succ])
            refine wpAnyH_take (i := 26) (oi := ?oo139) (v := ?vv139) ?hi139 (by kernel_rfl) ?hf139 (by kernel_rfl) ?hq139 ?hy139 (by assumption) ?rest139
            case hi139 => (simp only [List.getElem?_toArray, List.getElem?_cons_zero, List.getElem?_cons_succ] <;> exact rfl)
            case hf139 => kernel_rfl
            case hq139 => exact fun _ _ _ h => h
            case hy139 => exact Or.inl ⟨by rfl, by intro w hSw; (try dsimp only at hSw); go_simp; try with_reducible rfl⟩
            (try simp only [Act.put, List.setIfInBounds_toArray, List.set_cons_zero, List.set_cons_succ])
            refine wpAnyH_take (i := 27) (oi := ?oo140) (v := ?vv140) ?hi140 (by kernel_rfl) ?hf140 (by kernel_rfl) ?hq140 ?hy140 (by assumption) ?rest140
            case hi140 => (simp only [List.getElem?_toArray, List.getElem?_cons_zero, List.getElem?_cons_succ] <;> exact rfl)
            case hf140 => kernel_rfl
            case hq140 => exact fun _ _ _ h => h
            case hy140 => exact Or.inl ⟨by rfl, by intro w hSw; (try dsimp only at hSw); go_simp; try with_reducible rfl⟩
            (try simp only [Act.put, List.setIfInBounds_toArray, List.set_cons_zero, List.set_cons_succ])
            refine wpAnyH_take (i := 28) (oi := ?oo141) (v := ?vv141) ?hi141 (by kernel_rfl) ?hf141 (by kernel_rfl) ?hq141 ?hy141 (by assumption) ?rest141
            case hi141 => (simp only [List.getElem?_toArray, List.getElem?_cons_zero, List.getElem?_cons_succ] <;> exact rfl)
            case hf141 => kernel_rfl
            case hq141 => exact fun _ _ _ h => h
            case hy141 => exact Or.inl ⟨by rfl, by intro w hSw; (try dsimp only at hSw); go_simp; try with_reducible rfl⟩
            (try simp only [Act.put, List.setIfInBounds_toArray, List.set_cons_zero, List.set_cons_succ])
            refine wpAnyH_take (i := 29) (oi := ?oo142) (v := ?vv142) ?hi142 (by kernel_rfl) ?hf142 (by kernel_rfl) ?hq142 ?hy142 (by assumption) ?rest142
            case hi142 => (simp only [List.getElem?_toArray, List.getElem?_cons_zero, List.getElem?_cons_succ] <;> exact rfl)
            case hf142 => kernel_rfl
            case hq142 => exact fun _ _ _ h => h
            case hy142 => exact Or.inl ⟨by rfl, by intro w hSw; (try dsimp only at hSw); go_simp; try with_reducible rfl⟩
            (try simp only [Act.put, List.setIfInBounds_toArray, List.set_cons_zero, List.set_cons_succ])
            refine wpAnyH_take (i := 30) (oi := ?oo143) (v := ?vv143) ?hi143 (by kernel_rfl) ?hf143 (by kernel_rfl) ?hq143 ?hy143 (by assumption) ?rest143
            case hi143 => (simp only [List.getElem?_toArray, List.getElem?_cons_zero, List.getElem?_cons_succ] <;> exact rfl)
            case hf143 => kernel_rfl
            case hq143 => exact fun _ _ _ h => h
            case hy143 => exact Or.inl ⟨by rfl, by intro w hSw; (try dsimp only at hSw); go_simp; try with_reducible rfl⟩
            (try simp only [Act.put, List.setIfInBounds_toArray, List.set_cons_zero, List.set_cons_succ])
            refine wpAnyH_take (i := 31) (oi := ?oo144) (v := ?vv144) ?hi144 (by kernel_rfl) ?hf144 (by kernel_rfl) ?hq144 ?hy144 (by assumption) ?rest144
            case hi144 => (simp only [List.getElem?_toArray, List.getElem?_cons_zero, List.getElem?_cons_succ] <;> exact rfl)
            case hf144 => kernel_rfl
            case hq144 => exact fun _ _ _ h => h
            case hy144 => exact Or.inl ⟨by rfl, by intro w hSw; (try dsimp only at hSw); go_simp; try with_reducible rfl⟩
            (try simp only [Act.put, List.setIfInBounds_toArray, List.set_cons_zero, List.set_cons_succ])
            refine wpAnyH_take (i := 32) (oi := ?oo145) (v := ?vv145) ?hi145 (by kernel_rfl) ?hf145 (by kernel_rfl) ?hq145 ?hy145 (by assumption) ?rest145
            case hi145 => (simp only [List.getElem?_toArray, List.getElem?_cons_zero, List.getElem?_cons_succ] <;> exact rfl)
            case hf145 => kernel_rfl
            case hq145 => exact fun _ _ _ h => h
            case hy145 => exact Or.inl ⟨by rfl, by intro w hSw; (try dsimp only at hSw); go_simp; try with_reducible rfl⟩
            (try simp only [Act.put, List.setIfInBounds_toArray, List.set_cons_zero, List.set_cons_succ])
            refine wpAnyH_take (i := 33) (oi := ?oo146) (v := ?vv146) ?hi146 (by kernel_rfl) ?hf146 (by kernel_rfl) ?hq146 ?hy146 (by assumption) ?rest146
            case hi146 => (simp only [List.getElem?_toArray, List.getElem?_cons_zero, List.getElem?_cons_succ] <;> exact rfl)
            case hf146 => kernel_rfl
            case hq146 => exact fun _ _ _ h => h
            case hy146 => exact Or.inl ⟨by rfl, by intro w hSw; (try dsimp only at hSw); go_simp; try with_reducible rfl⟩
            (try simp only [Act.put, List.setIfInBounds_toArray, List.set_cons_zero, List.set_cons_succ])
            refine wpAnyH_take (i := 34) (oi := ?oo147) (v := ?vv147) ?hi147 (by kernel_rfl) ?hf147 (by kernel_rfl) ?hq147 ?hy147 (by assumption) ?rest147
            case hi147 => (simp only [List.getElem?_toArray, List.getElem?_cons_zero, List.getElem?_cons_succ] <;> exact rfl)
            case hf147 => kernel_rfl
            case hq147 => exact fun _ _ _ h => h
            case hy147 => exact Or.inl ⟨by rfl, by intro w hSw; (try dsimp only at hSw); go_simp; try with_reducible rfl⟩
            (try simp only [Act.put, List.setIfInBounds_toArray, List.set_cons_zero, List.set_cons_succ])
            refine wpAnyH_take (i := 35) (oi := ?oo148) (v := ?vv148) ?hi148 (by kernel_rfl) ?hf148 (by kernel_rfl) ?hq148 ?hy148 (by assumption) ?rest148
            case hi148 => (simp only [List.getElem?_toArray, List.getElem?_cons_zero, List.getElem?_cons_succ] <;> exact rfl)
            case hf148 => kernel_rfl
            case hq148 => exact fun _ _ _ h => h
            case hy148 => exact Or.inl ⟨by rfl, by intro w hSw; (try dsimp only at hSw); go_simp; try with_reducible rfl⟩
            (try simp only [Act.put, List.setIfInBounds_toArray, List.set_cons_zero, List.set_cons_succ])
            refine wpAnyH_take (i := 36) (oi := ?oo149) (v := ?vv149) ?hi149 (by kernel_rfl) ?hf149 (by kernel_rfl) ?hq149 ?hy149 (by assumption) ?rest149
            case hi149 => (simp only [List.getElem?_toArray, List.getElem?_cons_zero, List.getElem?_cons_succ] <;> exact rfl)
            case hf149 => kernel_rfl
            case hq149 => exact fun _ _ _ h => h
            case hy149 => exact Or.inl ⟨by rfl, by intro w hSw; (try dsimp only at hSw); go_simp; try with_reducible rfl⟩
            (try simp only [Act.put, List.setIfInBounds_toArray, List.set_cons_zero, List.set_cons_succ])
            refine wpAnyH_take (i := 37) (oi := ?oo150) (v := ?vv150) ?hi150 (by kernel_rfl) ?hf150 (by kernel_rfl) ?hq150 ?hy150 (by assumption) ?rest150
            case hi150 => (simp only [List.getElem?_toArray, List.getElem?_cons_zero, List.getElem?_cons_succ] <;> exact rfl)
            case hf150 => kernel_rfl
            case hq150 => exact fun _ _ _ h => h
            case hy150 => exact Or.inl ⟨by rfl, by intro w hSw; (try dsimp only at hSw); go_simp; try with_reducible rfl⟩
            (try simp only [Act.put, List.setIfInBounds_toArray, List.set_cons_zero, List.set_cons_succ])
            refine wpAnyH_take (i := 38) (oi := ?oo151) (v := ?vv151) ?hi151 (by kernel_rfl) ?hf151 (by kernel_rfl) ?hq151 ?hy151 (by assumption) ?rest151
            case hi151 => (simp only [List.getElem?_toArray, List.getElem?_cons_zero, List.getElem?_cons_succ] <;> exact rfl)
            case hf151 => kernel_rfl
            case hq151 => exact fun _ _ _ h => h
            case hy151 => exact Or.inl ⟨by rfl, by intro w hSw; (try dsimp only at hSw); go_simp; try with_reducible rfl⟩
            (try simp only [Act.put, List.setIfInBounds_toArray, List.set_cons_zero, List.set_cons_succ])
            refine wpAnyH_take (i := 39) (oi := ?oo152) (v := ?vv152) ?hi152 (by kernel_rfl) ?hf152 (by kernel_rfl) ?hq152 ?hy152 (by assumption) ?rest152
            case hi152 => (simp only [List.getElem?_toArray, List.getElem?_cons_zero, List.getElem?_cons_succ] <;> exact rfl)
            case hf152 => kernel_rfl
            case hq152 => exact fun _ _ _ h => h
            case hy152 => exact Or.inl ⟨by rfl, by intro w hSw; (try dsimp only at hSw); go_simp; try with_reducible rfl⟩
            (try simp only [Act.put, List.setIfInBounds_toArray, List.set_cons_zero, List.set_cons_succ])
            refine wpAnyH_take (i := 40) (oi := ?oo153) (v := ?vv153) ?hi153 (by kernel_rfl) ?hf153 (by kernel_rfl) ?hq153 ?hy153 (by assumption) ?rest153
            case hi153 => (simp only [List.getElem?_toArray, List.getElem?_cons_zero, List.getElem?_cons_succ] <;> exact rfl)
            case hf153 => kernel_rfl
            case hq153 => exact fun _ _ _ h => h
            case hy153 => exact Or.inl ⟨by rfl, by intro w hSw; (try dsimp only at hSw); go_simp; try with_reducible rfl⟩
            (try simp only [Act.put, List.setIfInBounds_toArray, List.set_cons_zero, List.set_cons_succ])
            refine wpAnyH_take (i := 41) (oi := ?oo154) (v := ?vv154) ?hi154 (by kernel_rfl) ?hf154 (by kernel_rfl) ?hq154 ?hy154 (by assumption) ?rest154
            case hi154 => (simp only [List.getElem?_toArray, List.getElem?_cons_zero, List.getElem?_cons_succ] <;> exact rfl)
            case hf154 => kernel_rfl
            case hq154 => exact fun _ _ _ h => h
            case hy154 => exact Or.inl ⟨by rfl, by intro w hSw; (try dsimp only at hSw); go_simp; try with_reducible rfl⟩
            (try simp only [Act.put, List.setIfInBounds_toArray, List.set_cons_zero, List.set_cons_succ])
            refine wpAnyH_take (i := 43) (oi := ?oo155) (v := ?vv155) ?hi155 (by kernel_rfl) ?hf155 (by kernel_rfl) ?hq155 ?hy155 (by assumption) ?rest155
            case hi155 => (simp only [List.getElem?_toArray, List.getElem?_cons_zero, List.getElem?_cons_succ] <;> exact rfl)
            case hf155 => kernel_rfl
            case hq155 => exact fun _ _ _ h => h
            case hy155 => exact Or.inl ⟨by rfl, by intro w hSw; (try dsimp only at hSw); go_simp; try with_reducible rfl⟩
            (try simp only [Act.put, List.setIfInBounds_toArray, List.set_cons_zero, List.set_cons_succ])
            refine wpAnyH_take (i := 44) (oi := ?oo156) (v := ?vv156) ?hi156 (by kernel_rfl) ?hf156 (by kernel_rfl) ?hq156 ?hy156 (by assumption) ?rest156
            case hi156 => (simp only [List.getElem?_toArray, List.getElem?_cons_zero, List.getElem?_cons_succ] <;> exact rfl)
            case hf156 => kernel_rfl
            case hq156 => exact fun _ _ _ h => h
            case hy156 => exact Or.inl ⟨by rfl, by intro w hSw; (try dsimp only at hSw); go_simp; try with_reducible rfl⟩
            (try simp only [Act.put, List.setIfInBounds_toArray, List.set_cons_zero, List.set_cons_succ])
            refine wpAnyH_ready (rs := [42]) (by kernel_rfl) (by simp) ?_
            refine AllReadyH.cons (o := ?oo157) ?hi157 (fun K hK => ?st157) ?more157
            case hi157 => (simp only [List.getElem?_toArray, List.getElem?_cons_zero, List.getElem?_cons_succ] <;> exact rfl)
            case more157 => exact AllReadyH.nil
            go_simp
            go_at_call 28
            refine Calls.mono (HN.out _ m4) ?_
            rintro e w10 ⟨rfl, kk⟩
            replace D1 := D1.chg kk (by simp)
            replace D2 := D2.chg kk (by simp)
            replace KC := KC.trans kk (by simp)
            clear kk
            refine hK.out _ _ ?hS157 (fun hHeld => ?rest157)
            case hS157 => exact ⟨D1.cell 0, D1.cell 1, D1.cell 2, D2.cell 0, D2.cell 1, D2.cell 2⟩
            clear hK K
            (try simp only [Act.put, List.setIfInBounds_toArray, List.set_cons_zero, List.set_cons_succ])
            refine wpAnyH_take (i := 45) (oi := ?oo158) (v := ?vv158) ?hi158 (by kernel_rfl) ?hf158 (by kernel_rfl) ?hq158 ?hy158 (by assumption) ?rest158
            case hi158 => (simp only [List.getElem?_toArray, List.getElem?_cons_zero, List.getElem?_cons_succ] <;> exact rfl)
            case hf158 => kernel_rfl
            case hq158 => exact fun _ _ _ h => h
            case hy158 => exact Or.inl ⟨by rfl, by intro w hSw; (try dsimp only at hSw); go_simp; try with_reducible rfl⟩
            (try simp only [Act.put, List.setIfInBounds_toArray, List.set_cons_zero, List.set_cons_succ])
            refine wpAnyH_take (i := 46) (oi := ?oo159) (v := ?vv159) ?hi159 (by kernel_rfl) ?hf159 (by kernel_rfl) ?hq159 ?hy159 (by assumption) ?rest159
            case hi159 => (simp only [List.getElem?_toArray, List.getElem?_cons_zero, List.getElem?_cons_succ] <;> exact rfl)
            case hf159 => kernel_rfl
            case hq159 => exact fun _ _ _ h => h
            case hy159 => exact Or.inl ⟨by rfl, by intro w hSw; (try dsimp only at hSw); go_simp; try with_reducible rfl⟩
            (try simp only [Act.put, List.setIfInBounds_toArray, List.set_cons_zero, List.set_cons_succ])
            refine wpAnyH_take (i := 47) (oi := ?oo160) (v := ?vv160) ?hi160 (by kernel_rfl) ?hf160 (by kernel_rfl) ?hq160 ?hy160 (by assumption) ?rest160
            case hi160 => (simp only [List.getElem?_toArray, List.getElem?_cons_zero, List.getElem?_cons_succ] <;> exact rfl)
            case hf160 => kernel_rfl
            case hq160 => exact fun _ _ _ h => h
            case hy160 => exact Or.inl ⟨by rfl, by intro w hSw; (try dsimp only at hSw); go_simp; try with_reducible rfl⟩
            (try simp only [Act.put, List.setIfInBounds_toArray, List.set_cons_zero, List.set_cons_succ])
            refine wpAnyH_take (i := 48) (oi := ?oo161) (v := ?vv161) ?hi161 (by kernel_rfl) ?hf161 (by kernel_rfl) ?hq161 ?hy161 (by assumption) ?rest161
            case hi161 => (simp only [List.getElem?_toArray, List.getElem?_cons_zero, List.getElem?_cons_succ] <;> exact rfl)
            case hf161 => kernel_rfl
            case hq161 => exact fun _ _ _ h => h
            case hy161 => exact Or.inl ⟨by rfl, by intro w hSw; (try dsimp only at hSw); go_simp; try with_reducible rfl⟩
            (try simp only [Act.put, List.setIfInBounds_toArray, List.set_cons_zero, List.set_cons_succ])
            refine wpAnyH_take (i := 49) (oi := ?oo162) (v := ?vv162) ?hi162 (by kernel_rfl) ?hf162 (by kernel_rfl) ?hq162 ?hy162 (by assumption) ?rest162
            case hi162 => (simp only [List.getElem?_toArray, List.getElem?_cons_zero, List.getElem?_cons_succ] <;> exact rfl)
            case hf162 => kernel_rfl
            case hq162 => exact fun _ _ _ h => h
            case hy162 => exact Or.inl ⟨by rfl, by intro w hSw; (try dsimp only at hSw); go_simp; try with_reducible rfl⟩
            (try simp only [Act.put, List.setIfInBounds_toArray, List.set_cons_zero, List.set_cons_succ])
            refine wpAnyH_take (i := 50) (oi := ?oo163) (v := ?vv163) ?hi163 (by kernel_rfl) ?hf163 (by kernel_rfl) ?hq163 ?hy163 (by assumption) ?rest163
            case hi163 => (simp only [List.getElem?_toArray, List.getElem?_cons_zero, List.getElem?_cons_succ] <;> exact rfl)
            case hf163 => kernel_rfl
            case hq163 => exact fun _ _ _ h => h
            case hy163 => exact Or.inl ⟨by rfl, by intro w hSw; (try dsimp only at hSw); go_simp; try with_reducible rfl⟩
            (try simp only [Act.put, List.setIfInBounds_toArray, List.set_cons_zero, List.set_cons_succ])
            refine wpAnyH_take (i := 51) (oi := ?oo164) (v := ?vv164) ?hi164 (by kernel_rfl) ?hf164 (by kernel_rfl) ?hq164 ?hy164 (by assumption) ?rest164
            case hi164 => (simp only [List.getElem?_toArray, List.getElem?_cons_zero, List.getElem?_cons_succ] <;> exact rfl)
            case hf164 => kernel_rfl
            case hq164 => exact fun _ _ _ h => h
            case hy164 => exact Or.inl ⟨by rfl, by intro w hSw; (try dsimp only at hSw); go_simp; try with_reducible rfl⟩
            (try simp only [Act.put, List.setIfInBounds_toArray, List.set_cons_zero, List.set_cons_succ])
            refine wpAnyH_take (i := 52) (oi := ?oo165) (v := ?vv165) ?hi165 (by kernel_rfl) ?hf165 (by kernel_rfl) ?hq165 ?hy165 (by assumption) ?rest165
            case hi165 => (simp only [List.getElem?_toArray, List.getElem?_cons_zero, List.getElem?_cons_succ] <;> exact rfl)
            case hf165 => kernel_rfl
            case hq165 => exact fun _ _ _ h => h
            case hy165 => exact Or.inl ⟨by rfl, by intro w hSw; (try dsimp only at hSw); go_simp; try with_reducible rfl⟩
            (try simp only [Act.put, List.setIfInBounds_toArray, List.set_cons_zero, List.set_cons_succ])
            refine wpAnyH_ready (rs := [53]) (by kernel_rfl) (by simp) ?_
            refine AllReadyH.cons (o := ?oo166) ?hi166 (fun K hK => ?st166) ?more166
            case hi166 => (simp only [List.getElem?_toArray, List.getElem?_cons_zero, List.getElem?_cons_succ] <;> exact rfl)
            case more166 => exact AllReadyH.nil
            go_simp
            go_at_call 12
            refine Calls.mono (TcapTwice.awake_ok _) ?_
            rintro e w11 ⟨rfl, kk⟩
            replace D1 := D1.chg kk (by simp)
            replace D2 := D2.chg kk (by simp)
            replace KC := KC.trans kk (by simp)
            clear kk
            refine hK.out _ _ ?hS166 (fun hHeld => ?rest166)
            case hS166 => exact ⟨D1.cell 0, D1.cell 1, D1.cell 2, D2.cell 0, D2.cell 1, D2.cell 2⟩
            clear hK K
            (try simp only [Act.put, List.setIfInBounds_toArray, List.set_cons_zero, List.set_cons_succ])
            refine wpAnyH_take (i := 54) (oi := ?oo167) (v := ?vv167) ?hi167 (by kernel_rfl) ?hf167 (by kernel_rfl) ?hq167 ?hy167 (by assumption) ?rest167
            case hi167 => (simp only [List.getElem?_toArray, List.getElem?_cons_zero, List.getElem?_cons_succ] <;> exact rfl)
            case hf167 => kernel_rfl
            case hq167 => exact fun _ _ _ h => h
            case hy167 => exact Or.inl ⟨by rfl, by intro w hSw; (try dsimp only at hSw); go_simp; try with_reducible rfl⟩
            (try simp only [Act.put, List.setIfInBounds_toArray, List.set_cons_zero, List.set_cons_succ])
            refine wpAnyH_take (i := 55) (oi := ?oo168) (v := ?vv168) ?hi168 (by kernel_rfl) ?hf168 (by kernel_rfl) ?hq168 ?hy168 (by assumption) ?rest168
            case hi168 => (simp only [List.getElem?_toArray, List.getElem?_cons_zero, List.getElem?_cons_succ] <;> exact rfl)
            case hf168 => kernel_rfl
            case hq168 => exact fun _ _ _ h => h
            case hy168 => exact Or.inl ⟨by rfl, by intro w hSw; (try dsimp only at hSw); go_simp; try with_reducible rfl⟩
            (try simp only [Act.put, List.setIfInBounds_toArray, List.set_cons_zero, List.set_cons_succ])
            refine wpAnyH_done (by kernel_rfl) ?_ _
            go_wp2
            go_ret
            exact ⟨by first | rfl | simp, KC⟩
          · have ecm : cm false l1 c = m := by unfold cm; rw [if_neg (by simp), if_neg hm, hlm]
            have ecs : cs false l1 c = false := by unfold cs; rw [if_neg (by simp), ecm]; exact beq_eq_false_iff_ne.2 (by omega)
            rw [ecs] at HX
            rw [ecm] at H4
            go_wp2_with fail
            refine Calls.mono HX.out ?_
            rintro x w8 ⟨rfl, m4, k1⟩
            clear HX m3 ecm ecs
            replace D1 := D1.chg k1 (by simpa using hdg)
            replace K := K.trans k1 (by intro s hs; right; simp at hs; omega)
            clear k1
            have HG0 := Tcap.get_ok m4 H4.out.u 1
            unfold tV at HG0
            rw [H4.out.e, H4.out.z, H4.out.l, H4.out.t] at HG0
            have HG := Lib.hid HG0
            clear HG0
            go_wp2_with fail
            refine Calls.mono HG.out ?_
            rintro x w9 ⟨rfl, k1⟩
            clear HG
            obtain ⟨d2, ed2⟩ : ∃ q, w9.heap.size = q := ⟨_, rfl⟩
            have D2 := Blk.new' w9 23 (tcC false m t1) ed2
            replace D1 := (D1.chg k1 (by simp)).alloc (.cells (tcC false m t1) 23)
            replace m4 := (m4.chg0 k1).alloc (.cells (tcC false m t1) 23)
            replace K := (K.trans k1 (by simp)).alloc (.cells (tcC false m t1) 23)
            clear k1
            have HN0 := fun (W : World) (q : MemAt W p g 2 L4) => can_ok q H4.out.u 1
            have ecan : canB 2 L4 1 = true := by unfold canB; rw [H4.out.e, H4.out.z, H4.out.l]; exact decide_eq_true ⟨rfl, .inr hm0⟩
            rw [ecan] at HN0
            have HN := Lib.hid HN0
            clear HN0 ecan H4 HB2
            go_wp2_with fail
            have hmm : ¬ m < 0 := by omega
            have hm1 : (m == 0) = false := beq_eq_false_iff_ne.2 (by omega)
            have hwm : IntKind.i64.wrap m = m := by rw [← hlm]; exact hwc
            rw [hlm] at hwc
            refine wp_region_held_drew (S := fun V => V.cell? ⟨d1, 0, none⟩ = some (.bool false) ∧ V.cell? ⟨d1, 1, none⟩ = some (.int .i64 l1) ∧ V.cell? ⟨d1, 2, none⟩ = some (.int .i64 t1) ∧ V.cell? ⟨d2, 0, none⟩ = some (.bool false) ∧ V.cell? ⟨d2, 1, none⟩ = some (.int .i64 m) ∧ V.cell? ⟨d2, 2, none⟩ = some (.int .i64 t1)) (by kernel_rfl) ?_ (fun hHeld => ?_)
            case _ => exact ⟨D1.cell 0, D1.cell 1, D1.cell 2, D2.cell 0, D2.cell 1, D2.cell 2⟩
            replace D1 := D1.drew
            replace D2 := D2.drew
            replace m4 := m4.drew
            have KC := K.drew
            clear K
            refine wpAnyH_take (i := 0) (oi := ?oo169) (v := ?vv169) ?hi169 (by kernel_rfl) ?hf169 (by kernel_rfl) ?hq169 ?hy169 (by assumption) ?rest169
            case hi169 => (simp only [List.getElem?_toArray, List.getElem?_cons_zero] <;> exact rfl)
            case hf169 => kernel_rfl
            case hq169 => exact fun _ _ _ h => h
            case hy169 => exact Or.inl ⟨by rfl, by intro w hSw; (try dsimp only at hSw); go_simp; try with_reducible rfl⟩
            (try simp only [Act.put, List.setIfInBounds_toArray, List.set_cons_zero, List.set_cons_succ])
            refine wpAnyH_take (i := 1) (oi := ?oo170) (v := ?vv170) ?hi170 (by kernel_rfl) ?hf170 (by kernel_rfl) ?hq170 ?hy170 (by assumption) ?rest170
            case hi170 => (simp only [List.getElem?_toArray, List.getElem?_cons_zero, List.getElem?_cons_succ] <;> exact rfl)
            case hf170 => kernel_rfl
            case hq170 => exact fun _ _ _ h => h
            case hy170 => exact Or.inl ⟨by rfl, by intro w hSw; (try dsimp only at hSw); go_simp; try with_reducible rfl⟩
            (try simp only [Act.put, List.setIfInBounds_toArray, List.set_cons_zero, List.set_cons_succ])
            refine wpAnyH_take (i := 2) (oi := ?oo171) (v := ?vv171) ?hi171 (by kernel_rfl) ?hf171 (by kernel_rfl) ?hq171 ?hy171 (by assumption) ?rest171
            case hi171 => (simp only [List.getElem?_toArray, List.getElem?_cons_zero, List.getElem?_cons_succ] <;> exact rfl)
            case hf171 => kernel_rfl
            case hq171 => exact fun _ _ _ h => h
            case hy171 => exact Or.inl ⟨by rfl, by intro w hSw; (try dsimp only at hSw); go_simp; try with_reducible rfl⟩
            (try simp only [Act.put, List.setIfInBounds_toArray, List.set_cons_zero, List.set_cons_succ])
            refine wpAnyH_take (i := 3) (oi := ?oo172) (v := undef) ?hi172 (by kernel_rfl) ?hf172 (by kernel_rfl) ?hq172 ?hy172 (by assumption) ?rest172
            case hi172 => (simp only [List.getElem?_toArray, List.getElem?_cons_zero, List.getElem?_cons_succ] <;> exact rfl)
            case hf172 => kernel_rfl
            case hq172 => exact fun _ _ _ h => h
            case hy172 => exact Or.inr ⟨by rfl, rfl⟩
            (try simp only [Act.put, List.setIfInBounds_toArray, List.set_cons_zero, List.set_cons_succ])
            refine wpAnyH_take (i := 4) (oi := ?oo173) (v := undef) ?hi173 (by kernel_rfl) ?hf173 (by kernel_rfl) ?hq173 ?hy173 (by assumption) ?rest173
            case hi173 => (simp only [List.getElem?_toArray, List.getElem?_cons_zero, List.getElem?_cons_succ] <;> exact rfl)
            case hf173 => kernel_rfl
            case hq173 => exact fun _ _ _ h => h
            case hy173 => exact Or.inr ⟨by rfl, rfl⟩
            (try simp only [Act.put, List.setIfInBounds_toArray, List.set_cons_zero, List.set_cons_succ])
            refine wpAnyH_take (i := 5) (oi := ?oo174) (v := undef) ?hi174 (by kernel_rfl) ?hf174 (by kernel_rfl) ?hq174 ?hy174 (by assumption) ?rest174
            case hi174 => (simp only [List.getElem?_toArray, List.getElem?_cons_zero, List.getElem?_cons_succ] <;> exact rfl)
            case hf174 => kernel_rfl
            case hq174 => exact fun _ _ _ h => h
            case hy174 => exact Or.inr ⟨by rfl, rfl⟩
            (try simp only [Act.put, List.setIfInBounds_toArray, List.set_cons_zero, List.set_cons_succ])
            refine wpAnyH_take (i := 6) (oi := ?oo175) (v := ?vv175) ?hi175 (by kernel_rfl) ?hf175 (by kernel_rfl) ?hq175 ?hy175 (by assumption) ?rest175
            case hi175 => (simp only [List.getElem?_toArray, List.getElem?_cons_zero, List.getElem?_cons_succ] <;> exact rfl)
            case hf175 => kernel_rfl
            case hq175 => exact fun _ _ _ h => h
            case hy175 => exact Or.inl ⟨by rfl, by intro w hSw; (try dsimp only at hSw); go_simp; try with_reducible rfl⟩
            (try simp only [Act.put, List.setIfInBounds_toArray, List.set_cons_zero, List.set_cons_succ])
            refine wpAnyH_take (i := 7) (oi := ?oo176) (v := ?vv176) ?hi176 (by kernel_rfl) ?hf176 (by kernel_rfl) ?hq176 ?hy176 (by assumption) ?rest176
            case hi176 => (simp only [List.getElem?_toArray, List.getElem?_cons_zero, List.getElem?_cons_succ] <;> exact rfl)
            case hf176 => kernel_rfl
            case hq176 => exact fun _ _ _ h => h
            case hy176 => exact Or.inl ⟨by rfl, by intro w hSw; (try dsimp only at hSw); go_simp; try with_reducible rfl⟩
            (try simp only [Act.put, List.setIfInBounds_toArray, List.set_cons_zero, List.set_cons_succ])
            refine wpAnyH_take (i := 8) (oi := ?oo177) (v := undef) ?hi177 (by kernel_rfl) ?hf177 (by kernel_rfl) ?hq177 ?hy177 (by assumption) ?rest177
            case hi177 => (simp only [List.getElem?_toArray, List.getElem?_cons_zero, List.getElem?_cons_succ] <;> exact rfl)
            case hf177 => kernel_rfl
            case hq177 => exact fun _ _ _ h => h
            case hy177 => exact Or.inr ⟨by rfl, rfl⟩
            (try simp only [Act.put, List.setIfInBounds_toArray, List.set_cons_zero, List.set_cons_succ])
            refine wpAnyH_take (i := 9) (oi := ?oo178) (v := undef) ?hi178 (by kernel_rfl) ?hf178 (by kernel_rfl) ?hq178 ?hy178 (by assumption) ?rest178
            case hi178 => (simp only [List.getElem?_toArray, List.getElem?_cons_zero, List.getElem?_cons_succ] <;> exact rfl)
            case hf178 => kernel_rfl
            case hq178 => exact fun _ _ _ h => h
            case hy178 => exact Or.inr ⟨by rfl, rfl⟩
            (try simp only [Act.put, List.setIfInBounds_toArray, List.set_cons_zero, List.set_cons_succ])
            refine wpAnyH_take (i := 10) (oi := ?oo179) (v := ?vv179) ?hi179 (by kernel_rfl) ?hf179 (by kernel_rfl) ?hq179 ?hy179 (by assumption) ?rest179
            case hi179 => (simp only [List.getElem?_toArray, List.getElem?_cons_zero, List.getElem?_cons_succ] <;> exact rfl)
            case hf179 => kernel_rfl
            case hq179 => exact fun _ _ _ h => h
            case hy179 => exact Or.inl ⟨by rfl, by intro w hSw; (try dsimp only at hSw); go_simp; try with_reducible rfl⟩
            (try simp only [Act.put, List.setIfInBounds_toArray, List.set_cons_zero, List.set_cons_succ])
            refine wpAnyH_take (i := 11) (oi := ?oo180) (v := ?vv180) ?hi180 (by kernel_rfl) ?hf180 (by kernel_rfl) ?hq180 ?hy180 (by assumption) ?rest180
            case hi180 => (simp only [List.getElem?_toArray, List.getElem?_cons_zero, List.getElem?_cons_succ] <;> exact rfl)
            case hf180 => kernel_rfl
            case hq180 => exact fun _ _ _ h => h
            case hy180 => exact Or.inl ⟨by rfl, by intro w hSw; (try dsimp only at hSw); go_simp; try with_reducible rfl⟩
            (try simp only [Act.put, List.setIfInBounds_toArray, List.set_cons_zero, List.set_cons_succ])
            refine wpAnyH_take (i := 12) (oi := ?oo181) (v := ?vv181) ?hi181 (by kernel_rfl) ?hf181 (by kernel_rfl) ?hq181 ?hy181 (by assumption) ?rest181
            case hi181 => (simp only [List.getElem?_toArray, List.getElem?_cons_zero, List.getElem?_cons_succ] <;> exact rfl)
            case hf181 => kernel_rfl
            case hq181 => exact fun _ _ _ h => h
            case hy181 => exact Or.inl ⟨by rfl, by intro w hSw; (try dsimp only at hSw); go_simp; try with_reducible rfl⟩
            (try simp only [Act.put, List.setIfInBounds_toArray, List.set_cons_zero, List.set_cons_succ])
            refine wpAnyH_take (i := 13) (oi := ?oo182) (v := ?vv182) ?hi182 (by kernel_rfl) ?hf182 (by kernel_rfl) ?hq182 ?hy182 (by assumption) ?rest182
            case hi182 => (simp only [List.getElem?_toArray, List.getElem?_cons_zero, List.getElem?_cons_succ] <;> exact rfl)
            case hf182 => kernel_rfl
            case hq182 => exact fun _ _ _ h => h
            case hy182 => exact Or.inl ⟨by rfl, by intro w hSw; (try dsimp only at hSw); go_simp; try with_reducible rfl⟩
            (try simp only [Act.put, List.setIfInBounds_toArray, List.set_cons_zero, List.set_cons_succ])
            refine wpAnyH_take (i := 14) (oi := ?oo183) (v := ?vv183) ?hi183 (by kernel_rfl) ?hf183 (by kernel_rfl) ?hq183 ?hy183 (by assumption) ?rest183
            case hi183 => (simp only [List.getElem?_toArray, List.getElem?_cons_zero, List.getElem?_cons_succ] <;> exact rfl)
            case hf183 => kernel_rfl
            case hq183 => exact fun _ _ _ h => h
            case hy183 => exact Or.inl ⟨by rfl, by intro w hSw; (try dsimp only at hSw); go_simp; try with_reducible rfl⟩
            (try simp only [Act.put, List.setIfInBounds_toArray, List.set_cons_zero, List.set_cons_succ])
            refine wpAnyH_take (i := 15) (oi := ?oo184) (v := ?vv184) ?hi184 (by kernel_rfl) ?hf184 (by kernel_rfl) ?hq184 ?hy184 (by assumption) ?rest184
            case hi184 => (simp only [List.getElem?_toArray, List.getElem?_cons_zero, List.getElem?_cons_succ] <;> exact rfl)
            case hf184 => kernel_rfl
            case hq184 => exact fun _ _ _ h => h
            case hy184 => exact Or.inl ⟨by rfl, by intro w hSw; (try dsimp only at hSw); go_simp; try with_reducible rfl⟩
            (try simp only [Act.put, List.setIfInBounds_toArray, List.set_cons_zero, List.set_cons_succ])
            refine wpAnyH_take (i := 16) (oi := ?oo185) (v := ?vv185) ?hi185 (by kernel_rfl) ?hf185 (by kernel_rfl) ?hq185 ?hy185 (by assumption) ?rest185
            case hi185 => (simp only [List.getElem?_toArray, List.getElem?_cons_zero, List.getElem?_cons_succ] <;> exact rfl)
            case hf185 => kernel_rfl
            case hq185 => exact fun _ _ _ h => h
            case hy185 => exact Or.inl ⟨by rfl, by intro w hSw; (try dsimp only at hSw); go_simp; try with_reducible rfl⟩
            (try simp only [Act.put, List.setIfInBounds_toArray, List.set_cons_zero, List.set_cons_succ])
            refine wpAnyH_take (i := 17) (oi := ?oo186) (v := ?vv186) ?hi186 (by kernel_rfl) ?hf186 (by kernel_rfl) ?hq186 ?hy186 (by assumption) ?rest186
            case hi186 => (simp only [List.getElem?_toArray, List.getElem?_cons_zero, List.getElem?_cons_succ] <;> exact rfl)
            case hf186 => kernel_rfl
            case hq186 => exact fun _ _ _ h => h
            case hy186 => exact Or.inl ⟨by rfl, by intro w hSw; (try dsimp only at hSw); go_simp; try with_reducible rfl⟩
            (try simp only [Act.put, List.setIfInBounds_toArray, List.set_cons_zero, List.set_cons_succ])
            refine wpAnyH_take (i := 18) (oi := ?oo187) (v := ?vv187) ?hi187 (by kernel_rfl) ?hf187 (by kernel_rfl) ?hq187 ?hy187 (by assumption) ?rest187
            case hi187 => (simp only [List.getElem?_toArray, List.getElem?_cons_zero, List.getElem?_cons_succ] <;> exact rfl)
            case hf187 => kernel_rfl
            case hq187 => exact fun _ _ _ h => h
            case hy187 => exact Or.inl ⟨by rfl, by intro w hSw; (try dsimp only at hSw); go_simp; try with_reducible rfl⟩
            (try simp only [Act.put, List.setIfInBounds_toArray, List.set_cons_zero, List.set_cons_succ])
            refine wpAnyH_take (i := 19) (oi := ?oo188) (v := ?vv188) ?hi188 (by kernel_rfl) ?hf188 (by kernel_rfl) ?hq188 ?hy188 (by assumption) ?rest188
            case hi188 => (simp only [List.getElem?_toArray, List.getElem?_cons_zero, List.getElem?_cons_succ] <;> exact rfl)
            case hf188 => kernel_rfl
            case hq188 => exact fun _ _ _ h => h
            case hy188 => exact Or.inl ⟨by rfl, by intro w hSw; (try dsimp only at hSw); go_simp; try with_reducible rfl⟩
            (try simp only [Act.put, List.setIfInBounds_toArray, List.set_cons_zero, List.set_cons_succ])
            refine wpAnyH_take (i := 20) (oi := ?oo189) (v := ?vv189) ?hi189 (by kernel_rfl) ?hf189 (by kernel_rfl) ?hq189 ?hy189 (by assumption) ?rest189
            case hi189 => (simp only [List.getElem?_toArray, List.getElem?_cons_zero, List.getElem?_cons_succ] <;> exact rfl)
            case hf189 => kernel_rfl
            case hq189 => exact fun _ _ _ h => h
            case hy189 => exact Or.inl ⟨by rfl, by intro w hSw; (try dsimp only at hSw); go_simp; try with_reducible rfl⟩
            (try simp only [Act.put, List.setIfInBounds_toArray, List.set_cons_zero, List.set_cons_succ])
            refine wpAnyH_take (i := 21) (oi := ?oo190) (v := ?vv190) ?hi190 (by kernel_rfl) ?hf190 (by kernel_rfl) ?hq190 ?hy190 (by assumption) ?rest190
            case hi190 => (simp only [List.getElem?_toArray, List.getElem?_cons_zero, List.getElem?_cons_succ] <;> exact rfl)
            case hf190 => kernel_rfl
            case hq190 => exact fun _ _ _ h => h
            case hy190 => exact Or.inl ⟨by rfl, by intro w hSw; (try dsimp only at hSw); go_simp; try with_reducible rfl⟩
            (try simp only [Act.put, List.setIfInBounds_toArray, List.set_cons_zero, List.set_cons_succ])
            refine wpAnyH_take (i := 22) (oi := ?oo191) (v := ?vv191) ?hi191 (by kernel_rfl) ?hf191 (by kernel_rfl) ?hq191 ?hy191 (by assumption) ?rest191
            case hi191 => (simp only [List.getElem?_toArray, List.getElem?_cons_zero, List.getElem?_cons_succ] <;> exact rfl)
            case hf191 => kernel_rfl
            case hq191 => exact fun _ _ _ h => h
            case hy191 => exact Or.inl ⟨by rfl, by intro w hSw; (try dsimp only at hSw); go_simp; try with_reducible rfl⟩
            (try simp only [Act.put, List.setIfInBounds_toArray, List.set_cons_zero, List.set_cons_succ])
            refine wpAnyH_take (i := 23) (oi := ?oo192) (v := ?vv192) ?hi192 (by kernel_rfl) ?hf192 (by kernel_rfl) ?hq192 ?hy192 (by assumption) ?rest192
            case hi192 => (simp only [List.getElem?_toArray, List.getElem?_cons_zero, List.getElem?_cons_succ] <;> exact rfl)
            case hf192 => kernel_rfl
            case hq192 => exact fun _ _ _ h => h
            case hy192 => exact Or.inl ⟨by rfl, by intro w hSw; (try dsimp only at hSw); go_simp; try with_reducible rfl⟩
            (try simp only [Act.put, List.setIfInBounds_toArray, List.set_cons_zero, List.set_cons_succ])
            refine wpAnyH_take (i := 24) (oi := ?oo193) (v := ?vv193) ?hi193 (by kernel_rfl) ?hf193 (by kernel_rfl) ?hq193 ?hy193 (by assumption) ?rest193
            case hi193 => (simp only [List.getElem?_toArray, List.getElem?_cons_zero, List.getElem?_cons_succ] <;> exact rfl)
            case hf193 => kernel_rfl
            case hq193 => exact fun _ _ _ h => h
            case hy193 => exact Or.inl ⟨by rfl, by intro w hSw; (try dsimp only at hSw); go_simp; try with_reducible rfl⟩
            (try simp only [Act.put, List.setIfInBounds_toArray, List.set_cons_zero, List.set_cons_succ])
            refine wpAnyH_take (i := 25) (oi := ?oo194) (v := ?vv194) ?hi194 (by kernel_rfl) ?hf194 (by kernel_rfl) ?hq194 ?hy194 (by assumption) ?rest194
            case hi194 => (simp only [List.getElem?_toArray, List.getElem?_cons_zero, List.getElem?_cons_succ] <;> exact rfl)
            case hf194 => kernel_rfl
            case hq194 => exact fun _ _ _ h => h
            case hy194 => exact Or.inl ⟨by rfl, by intro w hSw; (try dsimp only at hSw); go_simp; try with_reducible rfl⟩
            (try simp only [Act.put, List.setIfInBounds_toArray, List.set_cons_zero, List.set_cons_succ])
            refine wpAnyH_take (i := 26) (oi := ?oo195) (v := ?vv195) ?hi195 (by kernel_rfl) ?hf195 (by kernel_rfl) ?hq195 ?hy195 (by assumption) ?rest195
            case hi195 => (simp only [List.getElem?_toArray, List.getElem?_cons_zero, List.getElem?_cons_succ] <;> exact rfl)
            case hf195 => kernel_rfl
            case hq195 => exact fun _ _ _ h => h
            case hy195 => exact Or.inl ⟨by rfl, by intro w hSw; (try dsimp only at hSw); go_simp; try with_reducible rfl⟩
            (try simp only [Act.put, List.setIfInBounds_toArray, List.set_cons_zero, List.set_cons_succ])
            refine wpAnyH_take (i := 27) (oi := ?oo196) (v := ?vv196) ?hi196 (by kernel_rfl) ?hf196 (by kernel_rfl) ?hq196 ?hy196 (by assumption) ?rest196
            case hi196 => (simp only [List.getElem?_toArray, List.getElem?_cons_zero, List.getElem?_cons_succ] <;> exact rfl)
            case hf196 => kernel_rfl
            case hq196 => exact fun _ _ _ h => h
            case hy196 => exact Or.inl ⟨by rfl, by intro w hSw; (try dsimp only at hSw); go_simp; try with_reducible rfl⟩
            (try simp only [Act.put, List.setIfInBounds_toArray, List.set_cons_zero, List.set_cons_succ])
            refine wpAnyH_take (i := 28) (oi := ?oo197) (v := ?vv197) ?hi197 (by kernel_rfl) ?hf197 (by kernel_rfl) ?hq197 ?hy197 (by assumption) ?rest197
            case hi197 => (simp only [List.getElem?_toArray, List.getElem?_cons_zero, List.getElem?_cons_succ] <;> exact rfl)
            case hf197 => kernel_rfl
            case hq197 => exact fun _ _ _ h => h
            case hy197 => exact Or.inl ⟨by rfl, by intro w hSw; (try dsimp only at hSw); go_simp; try with_reducible rfl⟩
            (try simp only [Act.put, List.setIfInBounds_toArray, List.set_cons_zero, List.set_cons_succ])
            refine wpAnyH_take (i := 29) (oi := ?oo198) (v := ?vv198) ?hi198 (by kernel_rfl) ?hf198 (by kernel_rfl) ?hq198 ?hy198 (by assumption) ?rest198
            case hi198 => (simp only [List.getElem?_toArray, List.getElem?_cons_zero, List.getElem?_cons_succ] <;> exact rfl)
            case hf198 => kernel_rfl
            case hq198 => exact fun _ _ _ h => h
            case hy198 => exact Or.inl ⟨by rfl, by intro w hSw; (try dsimp only at hSw); go_simp; try with_reducible rfl⟩
            (try simp only [Act.put, List.setIfInBounds_toArray, List.set_cons_zero, List.set_cons_succ])
            refine wpAnyH_take (i := 30) (oi := ?oo199) (v := ?vv199) ?hi199 (by kernel_rfl) ?hf199 (by kernel_rfl) ?hq199 ?hy199 (by assumption) ?rest199
            case hi199 => (simp only [List.getElem?_toArray, List.getElem?_cons_zero, List.getElem?_cons_succ] <;> exact rfl)
            case hf199 => kernel_rfl
            case hq199 => exact fun _ _ _ h => h
            case hy199 => exact Or.inl ⟨by rfl, by intro w hSw; (try dsimp only at hSw); go_simp; try with_reducible rfl⟩
            (try simp only [Act.put, List.setIfInBounds_toArray, List.set_cons_zero, List.set_cons_succ])
            refine wpAnyH_take (i := 31) (oi := ?oo200) (v := ?vv200) ?hi200 (by kernel_rfl) ?hf200 (by kernel_rfl) ?hq200 ?hy200 (by assumption) ?rest200
            case hi200 => (simp only [List.getElem?_toArray, List.getElem?_cons_zero, List.getElem?_cons_succ] <;> exact rfl)
            case hf200 => kernel_rfl
            case hq200 => exact fun _ _ _ h => h
            case hy200 => exact Or.inl ⟨by rfl, by intro w hSw; (try dsimp only at hSw); go_simp; try with_reducible rfl⟩
            (try simp only [Act.put, List.setIfInBounds_toArray, List.set_cons_zero, List.set_cons_succ])
            refine wpAnyH_take (i := 32) (oi := ?oo201) (v := ?vv201) ?hi201 (by kernel_rfl) ?hf201 (by kernel_rfl) ?hq201 ?hy201 (by assumption) ?rest201
            case hi201 => (simp only [List.getElem?_toArray, List.getElem?_cons_zero, List.getElem?_cons_succ] <;> exact rfl)
            case hf201 => kernel_rfl
            case hq201 => exact fun _ _ _ h => h
            case hy201 => exact Or.inl ⟨by rfl, by intro w hSw; (try dsimp only at hSw); go_simp; try with_reducible rfl⟩
            (try simp only [Act.put, List.setIfInBounds_toArray, List.set_cons_zero, List.set_cons_succ])
            refine wpAnyH_take (i := 33) (oi := ?oo202) (v := ?vv202) ?hi202 (by kernel_rfl) ?hf202 (by kernel_rfl) ?hq202 ?hy202 (by assumption) ?rest202
            case hi202 => (simp only [List.getElem?_toArray, List.getElem?_cons_zero, List.getElem?_cons_succ] <;> exact rfl)
            case hf202 => kernel_rfl
            case hq202 => exact fun _ _ _ h => h
            case hy202 => exact Or.inl ⟨by rfl, by intro w hSw; (try dsimp only at hSw); go_simp; try with_reducible rfl⟩
            (try simp only [Act.put, List.setIfInBounds_toArray, List.set_cons_zero, List.set_cons_succ])
            refine wpAnyH_take (i := 34) (oi := ?oo203) (v := ?vv203) ?hi203 (by kernel_rfl) ?hf203 (by kernel_rfl) ?hq203 ?hy203 (by assumption) ?rest203
            case hi203 => (simp only [List.getElem?_toArray, List.getElem?_cons_zero, List.getElem?_cons_succ] <;> exact rfl)
            case hf203 => kernel_rfl
            case hq203 => exact fun _ _ _ h => h
            case hy203 => exact Or.inl ⟨by rfl, by intro w hSw; (try dsimp only at hSw); go_simp; try with_reducible rfl⟩
            (try simp only [Act.put, List.setIfInBounds_toArray, List.set_cons_zero, List.set_cons_succ])
            refine wpAnyH_take (i := 35) (oi := ?oo204) (v := ?vv204) ?hi204 (by kernel_rfl) ?hf204 (by kernel_rfl) ?hq204 ?hy204 (by assumption) ?rest204
            case hi204 => (simp only [List.getElem?_toArray, List.getElem?_cons_zero, List.getElem?_cons_succ] <;> exact rfl)
            case hf204 => kernel_rfl
            case hq204 => exact fun _ _ _ h => h
            case hy204 => exact Or.inl ⟨by rfl, by intro w hSw; (try dsimp only at hSw); go_simp; try with_reducible rfl⟩
            (try simp only [Act.put, List.setIfInBounds_toArray, List.set_cons_zero, List.set_cons_succ])
            refine wpAnyH_take (i := 36) (oi := ?oo205) (v := ?vv205) ?hi205 (by kernel_rfl) ?hf205 (by kernel_rfl) ?hq205 ?hy205 (by assumption) ?rest205
            case hi205 => (simp only [List.getElem?_toArray, List.getElem?_cons_zero, List.getElem?_cons_succ] <;> exact rfl)
            case hf205 => kernel_rfl
            case hq205 => exact fun _ _ _ h => h
            case hy205 => exact Or.inl ⟨by rfl, by intro w hSw; (try dsimp only at hSw); go_simp; try with_reducible rfl⟩
            (try simp only [Act.put, List.setIfInBounds_toArray, List.set_cons_zero, List.set_cons_succ])
            refine wpAnyH_take (i := 37) (oi := ?oo206) (v := ?vv206) ?hi206 (by kernel_rfl) ?hf206 (by kernel_rfl) ?hq206 ?hy206 (by assumption) ?rest206
            case hi206 => (simp only [List.getElem?_toArray, List.getElem?_cons_zero, List.getElem?_cons_succ] <;> exact rfl)
            case hf206 => kernel_rfl
            case hq206 => exact fun _ _ _ h => h
            case hy206 => exact Or.inl ⟨by rfl, by intro w hSw; (try dsimp only at hSw); go_simp; try with_reducible rfl⟩
            (try simp only [Act.put, List.setIfInBounds_toArray, List.set_cons_zero, List.set_cons_succ])
            refine wpAnyH_take (i := 38) (oi := ?oo207) (v := ?vv207) ?hi207 (by kernel_rfl) ?hf207 (by kernel_rfl) ?hq207 ?hy207 (by assumption) ?rest207
            case hi207 => (simp only [List.getElem?_toArray, List.getElem?_cons_zero, List.getElem?_cons_succ] <;> exact rfl)
            case hf207 => kernel_rfl
            case hq207 => exact fun _ _ _ h => h
            case hy207 => exact Or.inl ⟨by rfl, by intro w hSw; (try dsimp only at hSw); go_simp; try with_reducible rfl⟩
            (try simp only [Act.put, List.setIfInBounds_toArray, List.set_cons_zero, List.set_cons_succ])
            refine wpAnyH_take (i := 39) (oi := ?oo208) (v := ?vv208) ?hi208 (by kernel_rfl) ?hf208 (by kernel_rfl) ?hq208 ?hy208 (by assumption) ?rest208
            case hi208 => (simp only [List.getElem?_toArray, List.getElem?_cons_zero, List.getElem?_cons_succ] <;> exact rfl)
            case hf208 => kernel_rfl
            case hq208 => exact fun _ _ _ h => h
            case hy208 => exact Or.inl ⟨by rfl, by intro w hSw; (try dsimp only at hSw); go_simp; try with_reducible rfl⟩
            (try simp only [Act.put, List.setIfInBounds_toArray, List.set_cons_zero, List.set_cons_succ])
            refine wpAnyH_take (i := 40) (oi := ?oo209) (v := ?vv209) ?hi209 (by kernel_rfl) ?hf209 (by kernel_rfl) ?hq209 ?hy209 (by assumption) ?rest209
            case hi209 => (simp only [List.getElem?_toArray, List.getElem?_cons_zero, List.getElem?_cons_succ] <;> exact rfl)
            case hf209 => kernel_rfl
            case hq209 => exact fun _ _ _ h => h
            case hy209 => exact Or.inl ⟨by rfl, by intro w hSw; (try dsimp only at hSw); go_simp; try with_reducible rfl⟩
            (try simp only [Act.put, List.setIfInBounds_toArray, List.set_cons_zero, List.set_cons_succ])
            refine wpAnyH_take (i := 41) (oi := ?oo210) (v := ?vv210) ?hi210 (by kernel_rfl) ?hf210 (by kernel_rfl) ?hq210 ?hy210 (by assumption) ?rest210
            case hi210 => (simp only [List.getElem?_toArray, List.getElem?_cons_zero, List.getElem?_cons_succ] <;> exact rfl)
            case hf210 => kernel_rfl
            case hq210 => exact fun _ _ _ h => h
            case hy210 => exact Or.inl ⟨by rfl, by intro w hSw; (try dsimp only at hSw); go_simp; try with_reducible rfl⟩
            (try simp only [Act.put, List.setIfInBounds_toArray, List.set_cons_zero, List.set_cons_succ])
            refine wpAnyH_take (i := 43) (oi := ?oo211) (v := ?vv211) ?hi211 (by kernel_rfl) ?hf211 (by kernel_rfl) ?hq211 ?hy211 (by assumption) ?rest211
            case hi211 => (simp only [List.getElem?_toArray, List.getElem?_cons_zero, List.getElem?_cons_succ] <;> exact rfl)
            case hf211 => kernel_rfl
            case hq211 => exact fun _ _ _ h => h
            case hy211 => exact Or.inl ⟨by rfl, by intro w hSw; (try dsimp only at hSw); go_simp; try with_reducible rfl⟩
            (try simp only [Act.put, List.setIfInBounds_toArray, List.set_cons_zero, List.set_cons_succ])
            refine wpAnyH_take (i := 44) (oi := ?oo212) (v := ?vv212) ?hi212 (by kernel_rfl) ?hf212 (by kernel_rfl) ?hq212 ?hy212 (by assumption) ?rest212
            case hi212 => (simp only [List.getElem?_toArray, List.getElem?_cons_zero, List.getElem?_cons_succ] <;> exact rfl)
            case hf212 => kernel_rfl
            case hq212 => exact fun _ _ _ h => h
            case hy212 => exact Or.inl ⟨by rfl, by intro w hSw; (try dsimp only at hSw); go_simp; try with_reducible rfl⟩
            (try simp only [Act.put, List.setIfInBounds_toArray, List.set_cons_zero, List.set_cons_succ])
            refine wpAnyH_ready (rs := [42]) (by kernel_rfl) (by simp) ?_
            refine AllReadyH.cons (o := ?oo213) ?hi213 (fun K hK => ?st213) ?more213
            case hi213 => (simp only [List.getElem?_toArray, List.getElem?_cons_zero, List.getElem?_cons_succ] <;> exact rfl)
            case more213 => exact AllReadyH.nil
            go_simp
            go_at_call 28
            refine Calls.mono (HN.out _ m4) ?_
            rintro e w10 ⟨rfl, kk⟩
            replace D1 := D1.chg kk (by simp)
            replace D2 := D2.chg kk (by simp)
            replace KC := KC.trans kk (by simp)
            clear kk
            refine hK.out _ _ ?hS213 (fun hHeld => ?rest213)
            case hS213 => exact ⟨D1.cell 0, D1.cell 1, D1.cell 2, D2.cell 0, D2.cell 1, D2.cell 2⟩
            clear hK K
            (try simp only [Act.put, List.setIfInBounds_toArray, List.set_cons_zero, List.set_cons_succ])
            refine wpAnyH_take (i := 45) (oi := ?oo214) (v := ?vv214) ?hi214 (by kernel_rfl) ?hf214 (by kernel_rfl) ?hq214 ?hy214 (by assumption) ?rest214
            case hi214 => (simp only [List.getElem?_toArray, List.getElem?_cons_zero, List.getElem?_cons_succ] <;> exact rfl)
            case hf214 => kernel_rfl
            case hq214 => exact fun _ _ _ h => h
            case hy214 => exact Or.inl ⟨by rfl, by intro w hSw; (try dsimp only at hSw); go_simp; try with_reducible rfl⟩
            (try simp only [Act.put, List.setIfInBounds_toArray, List.set_cons_zero, List.set_cons_succ])
            refine wpAnyH_take (i := 46) (oi := ?oo215) (v := ?vv215) ?hi215 (by kernel_rfl) ?hf215 (by kernel_rfl) ?hq215 ?hy215 (by assumption) ?rest215
            case hi215 => (simp only [List.getElem?_toArray, List.getElem?_cons_zero, List.getElem?_cons_succ] <;> exact rfl)
            case hf215 => kernel_rfl
            case hq215 => exact fun _ _ _ h => h
            case hy215 => exact Or.inl ⟨by rfl, by intro w hSw; (try dsimp only at hSw); go_simp; try with_reducible rfl⟩
            (try simp only [Act.put, List.setIfInBounds_toArray, List.set_cons_zero, List.set_cons_succ])
            refine wpAnyH_take (i := 47) (oi := ?oo216) (v := ?vv216) ?hi216 (by kernel_rfl) ?hf216 (by kernel_rfl) ?hq216 ?hy216 (by assumption) ?rest216
            case hi216 => (simp only [List.getElem?_toArray, List.getElem?_cons_zero, List.getElem?_cons_succ] <;> exact rfl)
            case hf216 => kernel_rfl
            case hq216 => exact fun _ _ _ h => h
            case hy216 => exact Or.inl ⟨by rfl, by intro w hSw; (try dsimp only at hSw); go_simp; try with_reducible rfl⟩
            (try simp only [Act.put, List.setIfInBounds_toArray, List.set_cons_zero, List.set_cons_succ])
            refine wpAnyH_take (i := 48) (oi := ?oo217) (v := ?vv217) ?hi217 (by kernel_rfl) ?hf217 (by kernel_rfl) ?hq217 ?hy217 (by assumption) ?rest217
            case hi217 => (simp only [List.getElem?_toArray, List.getElem?_cons_zero, List.getElem?_cons_succ] <;> exact rfl)
            case hf217 => kernel_rfl
            case hq217 => exact fun _ _ _ h => h
            case hy217 => exact Or.inl ⟨by rfl, by intro w hSw; (try dsimp only at hSw); go_simp; try with_reducible rfl⟩
            (try simp only [Act.put, List.setIfInBounds_toArray, List.set_cons_zero, List.set_cons_succ])
            refine wpAnyH_take (i := 49) (oi := ?oo218) (v := ?vv218) ?hi218 (by kernel_rfl) ?hf218 (by kernel_rfl) ?hq218 ?hy218 (by assumption) ?rest218
            case hi218 => (simp only [List.getElem?_toArray, List.getElem?_cons_zero, List.getElem?_cons_succ] <;> exact rfl)
            case hf218 => kernel_rfl
            case hq218 => exact fun _ _ _ h => h
            case hy218 => exact Or.inl ⟨by rfl, by intro w hSw; (try dsimp only at hSw); go_simp; try with_reducible rfl⟩
            (try simp only [Act.put, List.setIfInBounds_toArray, List.set_cons_zero, List.set_cons_succ])
            refine wpAnyH_take (i := 50) (oi := ?oo219) (v := ?vv219) ?hi219 (by kernel_rfl) ?hf219 (by kernel_rfl) ?hq219 ?hy219 (by assumption) ?rest219
            case hi219 => (simp only [List.getElem?_toArray, List.getElem?_cons_zero, List.getElem?_cons_succ] <;> exact rfl)
            case hf219 => kernel_rfl
            case hq219 => exact fun _ _ _ h => h
            case hy219 => exact Or.inl ⟨by rfl, by intro w hSw; (try dsimp only at hSw); go_simp; try with_reducible rfl⟩
            (try simp only [Act.put, List.setIfInBounds_toArray, List.set_cons_zero, List.set_cons_succ])
            refine wpAnyH_take (i := 51) (oi := ?oo220) (v := ?vv220) ?hi220 (by kernel_rfl) ?hf220 (by kernel_rfl) ?hq220 ?hy220 (by assumption) ?rest220
            case hi220 => (simp only [List.getElem?_toArray, List.getElem?_cons_zero, List.getElem?_cons_succ] <;> exact rfl)
            case hf220 => kernel_rfl
            case hq220 => exact fun _ _ _ h => h
            case hy220 => exact Or.inl ⟨by rfl, by intro w hSw; (try dsimp only at hSw); go_simp; try with_reducible rfl⟩
            (try simp only [Act.put, List.setIfInBounds_toArray, List.set_cons_zero, List.set_cons_succ])
            refine wpAnyH_take (i := 52) (oi := ?oo221) (v := ?vv221) ?hi221 (by kernel_rfl) ?hf221 (by kernel_rfl) ?hq221 ?hy221 (by assumption) ?rest221
            case hi221 => (simp only [List.getElem?_toArray, List.getElem?_cons_zero, List.getElem?_cons_succ] <;> exact rfl)
            case hf221 => kernel_rfl
            case hq221 => exact fun _ _ _ h => h
            case hy221 => exact Or.inl ⟨by rfl, by intro w hSw; (try dsimp only at hSw); go_simp; try with_reducible rfl⟩
            (try simp only [Act.put, List.setIfInBounds_toArray, List.set_cons_zero, List.set_cons_succ])
            refine wpAnyH_ready (rs := [53]) (by kernel_rfl) (by simp) ?_
            refine AllReadyH.cons (o := ?oo222) ?hi222 (fun K hK => ?st222) ?more222
            case hi222 => (simp only [List.getElem?_toArray, List.getElem?_cons_zero, List.getElem?_cons_succ] <;> exact rfl)
            case more222 => exact AllReadyH.nil
            go_simp
            go_at_call 12
            refine Calls.mono (TcapTwice.awake_ok _) ?_
            rintro e w11 ⟨rfl, kk⟩
            replace D1 := D1.chg kk (by simp)
            replace D2 := D2.chg kk (by simp)
            replace KC := KC.trans kk (by simp)
            clear kk
            refine hK.out _ _ ?hS222 (fun hHeld => ?rest222)
            case hS222 => exact ⟨D1.cell 0, D1.cell 1, D1.cell 2, D2.cell 0, D2.cell 1, D2.cell 2⟩
            clear hK K
            (try simp only [Act.put, List.setIfInBounds_toArray, List.set_cons_zero, List.set_cons_succ])
            refine wpAnyH_take (i := 54) (oi := ?oo223) (v := ?vv223) ?hi223 (by kernel_rfl) ?hf223 (by kernel_rfl) ?hq223 ?hy223 (by assumption) ?rest223
            case hi223 => (simp only [List.getElem?_toArray, List.getElem?_cons_zero, List.getElem?_cons_succ] <;> exact rfl)
            case hf223 => kernel_rfl
            case hq223 => exact fun _ _ _ h => h
            case hy223 => exact Or.inl ⟨by rfl, by intro w hSw; (try dsimp only at hSw); go_simp; try with_reducible rfl⟩
            (try simp only [Act.put, List.setIfInBounds_toArray, List.set_cons_zero, List.set_cons_succ])
            refine wpAnyH_take (i := 55) (oi := ?oo224) (v := ?vv224) ?hi224 (by kernel_rfl) ?hf224 (by kernel_rfl) ?hq224 ?hy224 (by assumption) ?rest224
            case hi224 => (simp only [List.getElem?_toArray, List.getElem?_cons_zero, List.getElem?_cons_succ] <;> exact rfl)
            case hf224 => kernel_rfl
            case hq224 => exact fun _ _ _ h => h
            case hy224 => exact Or.inl ⟨by rfl, by intro w hSw; (try dsimp only at hSw); go_simp; try with_reducible rfl⟩
            (try simp only [Act.put, List.setIfInBounds_toArray, List.set_cons_zero, List.set_cons_succ])
            refine wpAnyH_done (by kernel_rfl) ?_ _
            go_wp2
            go_ret
            exact ⟨by first | rfl | simp, KC⟩
        · have hi : inI c 0 1048576 = false := decide_eq_false hk
          have HX := Lib.hid (TcapRest.charge_a m3 HB2.out.u 1 c hi)
          have hx : c < 0 ∨ (¬ c < 0 ∧ 1048576 < c) := by omega
          clear hi hk
          go_wp2_with fail
          refine Calls.mono HX.out ?_
          rintro x w8 ⟨rfl, m4, k1⟩
          clear HX m3
          replace D1 := D1.chg k1 (by simpa using hdg)
          replace K := K.trans k1 (by intro s hs; right; simp at hs; omega)
          clear k1
          have HG0 := Tcap.get_ok m4 HB2.out.u 1
          unfold tV at HG0
          rw [HB2.out.e, HB2.out.z, HB2.out.l, HB2.out.t] at HG0
          have HG := Lib.hid HG0
          clear HG0
          go_wp2_with fail
          refine Calls.mono HG.out ?_
          rintro x w9 ⟨rfl, k1⟩
          clear HG
          obtain ⟨d2, ed2⟩ : ∃ q, w9.heap.size = q := ⟨_, rfl⟩
          have D2 := Blk.new' w9 23 (tcC z1 l1 t1) ed2
          replace D1 := (D1.chg k1 (by simp)).alloc (.cells (tcC z1 l1 t1) 23)
          replace K := (K.trans k1 (by simp)).alloc (.cells (tcC z1 l1 t1) 23)
          clear k1
          obtain ⟨q0, q1, q2⟩ := blk3 D1
          obtain ⟨r0, r1, r2⟩ := blk3 D2
          rcases hx with hx | ⟨hx, hy⟩
          all_goals
            go_wp2_with fail
            refine Calls.mono (TcapTwice.awake_ok _) ?_
            rintro x w10 ⟨rfl, k1⟩
            replace K := K.trans k1 (by simp)
            clear k1 q0 q1 q2 r0 r1 r2
            go_wp2
            go_ret
            exact ⟨rfl, K⟩
end Go.Proofs.Ytknbeklplmhheaa.TcapSum
