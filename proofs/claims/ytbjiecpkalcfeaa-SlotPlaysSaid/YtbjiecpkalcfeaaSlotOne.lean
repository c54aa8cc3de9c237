/- SlotOne's walk. -/
import Derived.Test.YtbjiecpkalcfeaaSlotLaw
import Derived.Test.YtbjiecpkalcfeaaOpenRecs
import Derived.BigQuiet
namespace Go.Proofs.Ytbjiecpkalcfeaa.SlotOne
open Go Go.RowKit Go.Proofs.Ytbjiecpkalcfeaa Go.Proofs.Ytbjiecpkalcfeaa.Heap Go.Proofs.Ytbjiecpkalcfeaa.Bits Go.Proofs.Ytbjiecpkalcfeaa.Cap Go.Proofs.Ytbjiecpkalcfeaa.CapGet Go.Proofs.Ytbjiecpkalcfeaa.CapW Go.Proofs.Ytbjiecpkalcfeaa.Mem Go.Proofs.Ytbjiecpkalcfeaa.Two Go.Proofs.Ytbjiecpkalcfeaa.Slot Go.Proofs.Ytbjiecpkalcfeaa.SlotAll2 Go.Proofs.Ytbjiecpkalcfeaa.SlotLaw Go.Proofs.Ytbjiecpkalcfeaa.OpenRecs

theorem zero_ld (f a : Int) : ldV 1 (List.replicate (36 * 1) 0) f a = 0 := by
  unfold ldV
  split
  · rw [List.getD_eq_getElem?_getD, List.getElem?_replicate]
    split <;> rfl
  · rfl
theorem zero_sm {w : World} {p g : Nat} (m : MemAt w p g 1 (List.replicate (36 * 1) 0)) : SM w p g (List.replicate (36 * 1) 0) := ⟨m, U64.rep _, fun k _ => by unfold sgE; rw [zero_ld, zero_ld]; decide⟩
theorem zero_k (j : Nat) : sgK (List.replicate (36 * 1) 0) j = 0 := by unfold sgK; rw [zero_ld, zero_ld]; decide
theorem zero_v (j : Nat) : sgV 1 (List.replicate (36 * 1) 0) 0 j = capV 0 0 0 0 0 0 := by unfold sgV; rw [zero_ld, zero_ld]; rfl
set_option maxRecDepth 100000 in
set_option maxHeartbeats 2000000 in
theorem second_ok {w : World} {p g : Nat} {L : List Int} (S : SM w p g L) (h0 : sgK L 0 ≠ 0) (h1 : sgK L 1 = 0) : Calls Try.prog 71 #[.pointer (some ⟨p, 0, none⟩)] w fun e w' => e = .returned (.bool true) ∧ Chg [] w w' := by
  have HF := Lib.hid (first_ok S 1 0 (.inl ⟨1, by decide, rfl, rfl, h1, fun j hj => by obtain rfl : j = 0 := by omega
                                                                                       exact h0⟩))
  clear S h0 h1
  go_enter Try.func71, Try.ntmps71
  go_wp2_with fail
  refine Calls.mono HF.out ?_
  rintro e w1 ⟨rfl, k1⟩
  go_wp2
  go_ret
  exact ⟨rfl, k1⟩
set_option maxRecDepth 100000 in
set_option maxHeartbeats 2000000 in
theorem awake_ok (w : World) : Calls Try.prog 37 #[] w fun e w' => e = .returned (.bool true) ∧ Chg [] w w' := by
  have hR : rightC 11 0 0 0 0 0 = true := by decide
  go_enter Try.func37, Try.ntmps37
  go_wp2_with fail
  refine Calls.mono (Mem.new_ok 1 (by decide) (by decide) _) ?_
  rintro e w1 ⟨p, g, rfl, m, hp, hg, k1⟩
  have S := zero_sm m
  have hz := Lib.hid (fun j => zero_k j)
  have hzv := Lib.hid (fun j => zero_v j)
  generalize List.replicate (36 * 1) (0 : Int) = L at *
  clear m
  go_wp2_with fail
  refine Calls.mono (first_ok S 0 0 (.inl ⟨0, by decide, rfl, rfl, hz.out 0, fun j hj => absurd hj (by omega)⟩)) ?_
  rintro e w2 ⟨rfl, k2⟩
  replace S := S.chg0 k2
  go_wp2_with fail
  refine Calls.mono (Slot.put_ok S.m 0 0 11 0 0 0 0 0 (by decide) (by decide) (by decide) (by decide) hR) ?_
  rintro e w3 ⟨rfl, m3, k3⟩
  obtain ⟨S3, hj⟩ := put_sm S (by decide) (by decide) hR m3
  have j0 : sgK (spL 1 L 0 0 (capWord 11 0 0 0 0) 0) 0 ≠ 0 := by
    rw [sgK_of (by rw [hj 0 (by decide)]; exact if_pos rfl)]
    decide
  have j1 : sgK (spL 1 L 0 0 (capWord 11 0 0 0 0) 0) 1 = 0 := by
    have e1 : sgV 1 (spL 1 L 0 0 (capWord 11 0 0 0 0) 0) 0 ((1 : Nat) : Int) = capV 0 0 0 0 0 0 := by rw [hj 1 (by decide), if_neg (by decide)]; exact hzv.out 1
    exact sgK_of e1
  have HS := Lib.hid (second_ok S3 j0 j1)
  clear hj j0 j1 S3 m3 S hz hzv hR
  go_wp2_with fail
  refine Calls.mono HS.out ?_
  rintro e w4 ⟨rfl, k4⟩
  go_wp2
  go_ret
  exact ⟨rfl, ((k1.trans k2 (by simp)).trans k3 (by simp; omega)).trans k4 (by simp)⟩
abbrev KS : List (Option IntKind) := [some .i64, some .i64, some .i64, some .i64, some .i64, some .i64]
theorem rec_at {w : World} {ad : Addr} {n : Nat} (h : RecsAt w (some ad) n KS) {i : Nat} (hi : i < n) : ∃ k r t l e a, w.cell? (ad.add (i * 6)) = some (.int .i64 k) ∧ w.cell? ⟨(ad.add (i * 6)).block, (ad.add (i * 6)).off + 1, none⟩ = some (.int .i64 r) ∧ w.cell? ⟨(ad.add (i * 6)).block, (ad.add (i * 6)).off + 2, none⟩ = some (.int .i64 t) ∧ w.cell? ⟨(ad.add (i * 6)).block, (ad.add (i * 6)).off + 3, none⟩ = some (.int .i64 l) ∧ w.cell? ⟨(ad.add (i * 6)).block, (ad.add (i * 6)).off + 4, none⟩ = some (.int .i64 e) ∧ w.cell? ⟨(ad.add (i * 6)).block, (ad.add (i * 6)).off + 5, none⟩ = some (.int .i64 a) := by
  obtain ⟨a, e, hf⟩ := h.2 (by omega)
  obtain rfl : ad = a := Option.some.inj e
  obtain ⟨v0, ⟨k, rfl, _⟩, c0⟩ := hf i hi 0 _ rfl
  obtain ⟨v1, ⟨r, rfl, _⟩, c1⟩ := hf i hi 1 _ rfl
  obtain ⟨v2, ⟨t, rfl, _⟩, c2⟩ := hf i hi 2 _ rfl
  obtain ⟨v3, ⟨l, rfl, _⟩, c3⟩ := hf i hi 3 _ rfl
  obtain ⟨v4, ⟨ee, rfl, _⟩, c4⟩ := hf i hi 4 _ rfl
  obtain ⟨v5, ⟨aa, rfl, _⟩, c5⟩ := hf i hi 5 _ rfl
  have e : ∀ j, (⟨(ad.add (i * 6)).block, (ad.add (i * 6)).off + (j + 1), none⟩ : Addr) = ad.add (i * 6 + (j + 1)) := fun j => by
    rw [← add_of_add]
    generalize ad.add (i * 6) = q
    rfl
  exact ⟨k, r, t, l, ee, aa, c0, (by rw [e 0]; exact c1), (by rw [e 1]; exact c2), (by rw [e 2]; exact c3), (by rw [e 3]; exact c4), (by rw [e 4]; exact c5)⟩
/-- Put into the first frame, whatever comes of it. -/
theorem put_any {w : World} {p g : Nat} {L : List Int} (S : SM w p g L) (i k r t l e a : Int) : ∃ ee, Calls Try.prog 35 #[.pointer (some ⟨p, 0, none⟩), .int .i64 0, .int .i64 i, capV k r t l e a] w fun e' w' => e' = .returned (.int .i64 ee) ∧
    (∃ L', SM w' p g L' ∧ ∀ j : Nat, j < 16 → sgV 1 L' 0 j = if ee = 0 ∧ (j : Int) = i then capV k r t l e a else sgV 1 L 0 j) ∧ Chg [g] w w' := by
  by_cases hi : 0 ≤ i ∧ i < 16
  · cases hR : rightC k r t l e a with
    | true =>
      refine ⟨0, Calls.mono (Slot.put_ok S.m 0 i k r t l e a (by decide) (by decide) hi.1 hi.2 hR) ?_⟩
      rintro e' w' ⟨rfl, m', kk⟩
      obtain ⟨S', hj⟩ := put_sm S hi.1 hi.2 hR m'
      refine ⟨rfl, ⟨_, S', fun j hj' => ?_⟩, kk⟩
      rw [hj j hj']
      by_cases h : (j : Int) = i
      · rw [if_pos h, if_pos ⟨rfl, h⟩]
      · rw [if_neg h, if_neg (fun q => h q.2)]
    | false =>
      refine ⟨1, Calls.mono (Slot.put_bad 0 i k r t l e a hi.1 hi.2 hR) ?_⟩
      rintro e' w' ⟨rfl, kk⟩
      exact ⟨rfl, ⟨L, S.chg0 kk, fun j hj' => (if_neg (fun q => by cases q.1)).symm⟩, kk.of_nil⟩
  · refine ⟨1, Calls.mono (Slot.put_no 0 i k r t l e a hi) ?_⟩
    rintro e' w' ⟨rfl, kk⟩
    exact ⟨rfl, ⟨L, S.chg0 kk, fun j hj' => (if_neg (fun q => by cases q.1)).symm⟩, kk.of_nil⟩

set_option maxRecDepth 100000 in
set_option maxHeartbeats 8000000 in
theorem slotOne_walk (A : Option Addr) (n c : Nat) (at_ xk xr xt xl xe xa : Int) (w : World) (hz : RecsAt w A n KS) :
    Calls Try.prog 6 #[.slice A n c, .int .i64 at_, capV xk xr xt xl xe xa] w fun e w' => e = .returned (.bool true) ∧ Chg [] w w' := by
  have b1 := hz.1
  have Z := Lib.hid hz
  clear hz
  obtain ⟨bx, ex⟩ : ∃ b, w.heap.size = b := ⟨_, rfl⟩
  have X := Blk.new' w 70 (capC xk xr xt xl xe xa) ex
  have K := (Chg.refl [] w).alloc (.cells (capC xk xr xt xl xe xa) 70)
  go_enter Try.func6, Try.ntmps6
  go_wp2_with fail
  refine Calls.mono (Mem.new_ok 1 (by decide) (by decide) _) ?_
  rintro e w1 ⟨p, g, rfl, m, hp, hg, k1⟩
  replace X := X.chg k1 (by simp)
  replace K := K.trans k1 (by simp)
  have S0 := zero_sm m
  have hgw : w.heap.size ≤ g := by simp at hg; omega
  have hXg : bx ≠ g := Blk.ne_ X m.row (by decide)
  generalize List.replicate (36 * 1) (0 : Int) = L0 at *
  try rw [ex]
  clear m hp hg k1
  go_wp2_with fail
  go_loopw [9] (fun i wr => ∃ (j : Nat) (L : List Int), i = .int .i64 j ∧ j ≤ n ∧ j ≤ 16 ∧ SM wr p g L ∧ Blk wr bx 70 (capC xk xr xt xl xe xa) ∧ Chg [] w wr) (fun i _ => n - (intOf i).toNat)
  case atStart => exact ⟨0, L0, rfl, by omega, by omega, S0, X, K⟩
  case round =>
    clear S0 X K
    obtain ⟨j, L, rfl, j1, j2, S, X, K⟩ := hrel
    by_cases hlt : j < n ∧ j < 16
    · obtain ⟨l1, l2⟩ := hlt
      obtain ⟨aA, rfl, -⟩ := Z.out.2 (by omega)
      obtain ⟨k, r, t, l, e, a, q0, q1, q2, q3, q4, q5⟩ := rec_at Z.out l1
      replace q0 := stays q0 K
      replace q1 := stays q1 K
      replace q2 := stays q2 K
      replace q3 := stays q3 K
      replace q4 := stays q4 K
      replace q5 := stays q5 K
      obtain ⟨ee, HP⟩ := put_any S j k r t l e a
      have HP' := Lib.hid HP
      clear HP
      go_wp2_with fail
      refine Calls.mono HP'.out ?_
      rintro e' w2 ⟨rfl, ⟨L', S2, -⟩, kk⟩
      replace X := X.chg kk (by simpa using hXg)
      replace K := K.trans kk (by simp; omega)
      clear HP' q0 q1 q2 q3 q4 q5
      go_wp2
      go_roundw
      case rel => exact ⟨j + 1, L', by go_num, by omega, by omega, S2, X, K⟩
      case measure => simp [intOf]; omega
    · have HA := Lib.hid (fun (W : World) (q : SM W p g L) => SlotAll2.all_ok W q.m q.u (by decide : (0 : Int) ≤ 0) (by decide) q.good)
      rcases (by omega : ¬ j < n ∨ (j < n ∧ ¬ j < 16)) with h | ⟨h, h'⟩
      all_goals
        clear hlt
        go_wp2_with fail
        refine Calls.mono (HA.out _ S) ?_
        rintro e1 w2 ⟨v1, rfl, O1, f1, k1⟩
        obtain ⟨q1, cap1, rfl, hq1, hc1⟩ := caps_get O1
        replace S := S.chg0 k1
        replace X := X.chg k1 (by simp)
        replace K := K.trans k1 (by simp)
        have hqg : q1 ≠ g := fun e => own_ne O1 S.m.row (by decide) (by rw [e]; rfl)
        obtain ⟨c0, c1, c2, c3, c4, c5⟩ := blk6 X
        obtain ⟨ee, HP⟩ := put_any S at_ xk xr xt xl xe xa
        have HP' := Lib.hid HP
        have HC1 := Lib.hid hc1
        clear HP hc1 O1 f1 k1
        go_wp2_with fail
        refine Calls.mono HP'.out ?_
        rintro e2 w3 ⟨rfl, ⟨L', S3, hj⟩, k3⟩
        replace X := X.chg k3 (by simpa using hXg)
        replace K := K.trans k3 (by simp; omega)
        have HJ := Lib.hid hj
        clear c0 c1 c2 c3 c4 c5 hj HP'
        go_wp2_with fail
        refine Calls.mono (SlotAll2.all_ok w3 S3.m S3.u (by decide : (0 : Int) ≤ 0) (by decide) S3.good) ?_
        rintro e3 w4 ⟨v2, rfl, O2, f2, k4⟩
        obtain ⟨q2, cap2, rfl, hq2, hc2⟩ := caps_get O2
        have HC2 := Lib.hid hc2
        replace X := X.chg k4 (by simp)
        replace K := K.trans k4 (by simp)
        have HK1 : Hid (∀ (b : Addr) (v : Value), b.block = q1 → w2.cell? b = some v → w4.cell? b = some v) := fun b v hb hv => by
          refine stays ?_ k4
          rw [← hv]
          exact World.cell?_of_block (k3.block _ (by rw [hb]; exact hq1) (by rw [hb]; simpa using hqg))
        clear hc2 O2 f2 k4 k3 S3 S hq1 hq2
        go_wp2_with fail
        go_loopw [15] (fun i wr => ∃ m : Nat, i = .int .i64 m ∧ m ≤ 16 ∧ Chg [] w4 wr) (fun i _ => 16 - (intOf i).toNat)
        case atStart => exact ⟨0, rfl, by decide, Chg.refl _ _⟩
        case round =>
          obtain ⟨m, rfl, hm, km⟩ := hrel
          rcases (by omega : m = 16 ∨ m < 16) with rfl | m6
          · replace K := K.trans km (by simp)
            go_wp2_with fail
            refine Calls.mono (awake_ok _) ?_
            rintro e4 w5 ⟨rfl, k5⟩
            replace K := K.trans k5 (by simp)
            go_wp2
            go_ret
            exact ⟨rfl, K⟩
          · have hmi : (m : Int) < 16 := by omega
            by_cases hat : ee = 0 ∧ (m : Int) = at_
            · have hv : sgV 1 L' 0 m = capV xk xr xt xl xe xa := by rw [HJ.out m m6, if_pos hat]
              obtain ⟨rfl, rfl⟩ := hat
              obtain ⟨d0, d1, d2, d3, d4, d5⟩ := HC2.out m _ _ _ _ _ _ m6 hv
              replace d0 := stays d0 km
              replace d1 := stays d1 km
              replace d2 := stays d2 km
              replace d3 := stays d3 km
              replace d4 := stays d4 km
              replace d5 := stays d5 km
              obtain ⟨c0, c1, c2, c3, c4, c5⟩ := blk6 (X.chg km (by simp))
              clear hv
              go_wp2_with fail
              go_quiet (fail)
              replace km := km.drewN nq
              go_wp2
              go_roundw
              case rel => exact ⟨m + 1, by go_num, by omega, km⟩
              case measure => simp [intOf]; omega
            · obtain ⟨r, t, l, e, a, hv⟩ := sg_form L m
              have hv2 : sgV 1 L' 0 m = capV (sgK L m) r t l e a := by rw [HJ.out m m6, if_neg hat]; exact hv
              obtain ⟨d0, d1, d2, d3, d4, d5⟩ := HC2.out m _ _ _ _ _ _ m6 hv2
              obtain ⟨c0, c1, c2, c3, c4, c5⟩ := HC1.out m _ _ _ _ _ _ m6 hv
              replace c0 := stays (HK1.out _ _ rfl c0) km
              replace c1 := stays (HK1.out _ _ rfl c1) km
              replace c2 := stays (HK1.out _ _ rfl c2) km
              replace c3 := stays (HK1.out _ _ rfl c3) km
              replace c4 := stays (HK1.out _ _ rfl c4) km
              replace c5 := stays (HK1.out _ _ rfl c5) km
              replace d0 := stays d0 km
              replace d1 := stays d1 km
              replace d2 := stays d2 km
              replace d3 := stays d3 km
              replace d4 := stays d4 km
              replace d5 := stays d5 km
              generalize sgK L m = k at *
              clear hv hv2
              rcases (by omega : ¬ ee = 0 ∨ (ee = 0 ∧ ¬ (m : Int) = at_)) with hb | ⟨rfl, hb⟩
              · have hbb : (ee == 0) = false := by rw [beq_eq_false_iff_ne]; exact hb
                go_wp2_with fail
                go_quiet (fail)
                replace km := km.drewN nq
                go_wp2
                go_roundw
                case rel => exact ⟨m + 1, by go_num, by omega, km⟩
                case measure => simp [intOf]; omega
              · have hbb : ((m : Int) == at_) = false := by rw [beq_eq_false_iff_ne]; exact hb
                go_wp2_with fail
                go_quiet (fail)
                replace km := km.drewN nq
                go_wp2
                go_roundw
                case rel => exact ⟨m + 1, by go_num, by omega, km⟩
                case measure => simp [intOf]; omega
end Go.Proofs.Ytbjiecpkalcfeaa.SlotOne
