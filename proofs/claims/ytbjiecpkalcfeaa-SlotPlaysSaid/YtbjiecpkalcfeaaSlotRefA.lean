/- Package palanquinref11: All, Used, First. -/
import Derived.Test.YtbjiecpkalcfeaaSlotAns
import Derived.Test.YtbjiecpkalcfeaaSlotRef
namespace Go.Proofs.Ytbjiecpkalcfeaa.SlotRefA
open Go Go.RowKit Go.Proofs.Ytbjiecpkalcfeaa Go.Proofs.Ytbjiecpkalcfeaa.Heap Go.Proofs.Ytbjiecpkalcfeaa.Bits Go.Proofs.Ytbjiecpkalcfeaa.Cap Go.Proofs.Ytbjiecpkalcfeaa.CapGet Go.Proofs.Ytbjiecpkalcfeaa.Mem Go.Proofs.Ytbjiecpkalcfeaa.Two Go.Proofs.Ytbjiecpkalcfeaa.Slot Go.Proofs.Ytbjiecpkalcfeaa.SlotIt Go.Proofs.Ytbjiecpkalcfeaa.SlotUse Go.Proofs.Ytbjiecpkalcfeaa.SlotAns

/-- What the document's Get answers at each slot, from a world on. -/
def GetsR (n : Nat) (L : List Int) (f : Int) (B0 r : Nat) (vv : Value) (bs : List (Nat × Nat)) (V : Nat → Value) (E : Nat → Int) : Prop :=
  ∀ (k : Nat) (W : World), k < 16 → Ref02.RM W B0 r vv n bs L → Calls Try.prog 43 #[.pointer (some ⟨r, 0, none⟩), .int .i64 f, .int .i64 k] W fun e w' => e = .returned (.tuple #[V k, .int .i64 (E k)]) ∧ Chg [] W w'
theorem err_at {E : Nat → Int} {ee : Int} (he : ErrIs E ee) {k : Nat} (hk : k < 16) (h1 : E k ≠ 0) (h2 : ∀ j, j < k → E j = 0) : ee = E k := by
  rcases he with ⟨-, h4⟩ | ⟨k', h4, h5, h6, rfl⟩
  · exact absurd (h4 k hk) h1
  · obtain rfl : k = k' := by
      rcases Nat.lt_trichotomy k k' with q | q | q
      · exact absurd (h6 k q) h1
      · exact q
      · exact absurd (h2 k' q) h5
    rfl
theorem err_no {E : Nat → Int} {ee : Int} (he : ErrIs E ee) (h : ∀ k, k < 16 → E k = 0) : ee = 0 := by
  rcases he with ⟨rfl, -⟩ | ⟨k, h1, h2, -⟩
  · rfl
  · exact absurd (h k h1) h2
theorem six_new (w : World) (cs : List Value) (t : TypeId) {g : Nat} (hg : w.heap.size = g) : ∀ j u, cs[j]? = some u → (w.alloc (.cells cs.toArray t)).cell? ((⟨g, 0, none⟩ : Addr).add j) = some u := by
  intro j u hj
  rw [add_plain, (Blk.new' w t cs.toArray hg).cell, Nat.zero_add]
  simpa using hj
section
set_option maxRecDepth 100000
set_option maxHeartbeats 4000000
variable {n : Nat} {L : List Int} {f : Int} {B0 r : Nat} {vv : Value} {bs : List (Nat × Nat)} {V : Nat → Value} {E Kd : Nat → Int}
theorem all_is (HG0 : GetsR n L f B0 r vv bs V E) (hV : CapsV V) {ee : Int} (he : ErrIs E ee) (w : World) (m : Ref02.RM w B0 r vv n bs L) : Calls Try.prog 46 #[.pointer (some ⟨r, 0, none⟩), .int .i64 f] w fun e w' => ∃ v, e = .returned (.tuple #[v, .int .i64 ee]) ∧ (ee = 0 → w'.ownsRow 0 70 6 v 16 (capsG V (List.range 16))) ∧ (ee ≠ 0 → v = .slice none 0 0) ∧ Chg [] w w' := by
  have HG := Lib.hid HG0
  have HV := Lib.hid hV
  have HE := Lib.hid he
  have HM := Lib.hid m
  clear HG0 hV he m
  go_enter Try.func46, Try.ntmps46
  go_wp2_with fail
  go_loopw [6, 7] (fun s i wr => ∃ (j : Nat) (v : Value), i = .int .i64 j ∧ v = s ∧ j ≤ 16 ∧ Hid (wr.ownsRow 0 70 6 v j (capsG V (List.range j)) ∧ (∀ q, v.ownBlock = some q → w.heap.size ≤ q) ∧ ∀ t, t < j → E t = 0) ∧ Hid (Chg [] w wr)) (fun _ i _ => 16 - (intOf i).toNat)
  case atStart => exact ⟨0, _, rfl, rfl, by decide, ⟨World.ownsRow_nil _ _ _ _, fun q hq => by simp [Value.ownBlock] at hq, fun t ht => absurd ht (by omega)⟩, Chg.refl _ _⟩
  case round =>
    obtain ⟨j, v, rfl, rfl, hj, HW, HC⟩ := hrel
    rcases (by omega : j = 16 ∨ j < 16) with rfl | j5
    · have h0 := err_no HE.out HW.out.2.2
      subst h0
      go_wp2
      go_ret2
      first | exact ⟨v, rfl, HW.out.1, HC.out⟩ | exact ⟨v, rfl, fun _ => HW.out.1, fun h => absurd rfl h, HC.out⟩
    · have hG := HG.out j wr j5 (HM.out.chg0 HC.out)
      obtain ⟨k', r', t', l', e', a', hv⟩ := HV.out j
      rw [hv] at hG
      have hji : (j : Int) < 16 := by omega
      have hL : gL V j = [.int .i64 k', .int .i64 r', .int .i64 t', .int .i64 l', .int .i64 e', .int .i64 a'] := by unfold gL; rw [hv]; rfl
      have hsn : capsG V (List.range (j + 1)) = capsG V (List.range j) ++ [.int .i64 k', .int .i64 r', .int .i64 t', .int .i64 l', .int .i64 e', .int .i64 a'] := by rw [List.range_succ, capsG_snoc, hL]
      have HSN := Lib.hid hsn
      clear hL hsn hv
      by_cases hE : E j = 0
      · rw [hE] at hG
        have hG' := Lib.hid hG
        have HZ : Hid (∀ t, t < j + 1 → E t = 0) := fun t ht => by
          rcases Nat.lt_succ_iff_lt_or_eq.1 ht with h | rfl
          · exact HW.out.2.2 t h
          · exact hE
        clear hG hE
        go_wp2_with fail
        refine Calls.mono hG'.out ?_
        rintro e w5 ⟨rfl, k5⟩
        obtain ⟨x, ex⟩ : ∃ x, w5.heap.size = x := ⟨_, rfl⟩
        have X := Blk.new' w5 70 (capC k' r' t' l' e' a') ex
        have C5 := (HC.out.trans k5 (by simp)).alloc (.cells (capC k' r' t' l' e' a') 70)
        have HO5 := Lib.hid (own_chg HW.out.1 (k5.alloc (.cells (capC k' r' t' l' e' a') 70)) (by simp))
        have hs6 : w.heap.size ≤ w5.heap.size := (HC.out.trans k5 (by simp)).size
        obtain ⟨c0, c1, c2, c3, c4, c5⟩ := blk6 X
        clear k5
        go_wp2_with (at_builtin; refine wpList_app rfl (.tmp 24) (.tmp 26) 68 rfl 70 (capV 0 0 0 0 0 0) 6 48 Try.underlying68 SlotAll2.info_cap rfl (by decide) (by decide) v j (capsG V (List.range j)) rfl (HO5.out.alloc _) ⟨x + 1, 0, none⟩ 1 1 [.int .i64 k', .int .i64 r', .int .i64 t', .int .i64 l', .int .i64 e', .int .i64 a'] rfl rfl (six_new _ _ _ (by simp [ex])) (by simp [Value.oneCell']) (by decide) (by omega) ?_; intro q cap1 w7 o7 k7 hq7 lt7)
        have O2 : w7.ownsRow 0 70 6 (.slice (some ⟨q, 0, none⟩) (j + 1) cap1) (j + 1) (capsG V (List.range (j + 1))) := by
          rw [HSN.out]
          exact o7
        have Q2 : ∀ g', (Value.slice (some ⟨q, 0, none⟩) (j + 1) cap1).ownBlock = some g' → w.heap.size ≤ g' := fun g' hg' => by
          have e : q = g' := by simpa [Value.ownBlock] using hg'
          subst e
          rcases hq7 with h | h
          · exact HW.out.2.1 q h
          · simp at h; omega
        have C2 : Chg [] w w7 := (C5.alloc _).trans k7 (fun s hs => .inr (HW.out.2.1 s (by simpa using hs)))
        clear HSN
        go_roundw
        case rel => exact ⟨j + 1, _, by go_num, rfl, by omega, ⟨O2, Q2, HZ.out⟩, C2⟩
        case measure => simp [intOf]; omega
      · have hee := err_at HE.out j5 hE HW.out.2.2
        rw [← hee] at hG
        have hG' := Lib.hid hG
        have hne : ee ≠ 0 := by rw [hee]; exact hE
        have hb : (ee == 0) = false := by rw [beq_eq_false_iff_ne]; exact hne
        have HN := Lib.hid hne
        clear hG hE hee hne HSN
        go_wp2_with fail
        refine Calls.mono hG'.out ?_
        rintro e w5 ⟨rfl, k5⟩
        go_wp2
        go_ret2
        exact ⟨_, rfl, fun h => absurd h HN.out, fun _ => rfl, (HC.out.trans k5 (by simp)).alloc _⟩
theorem used_is (HG0 : GetsR n L f B0 r vv bs V E) (hV : CapsK V Kd) {ee : Int} (he : ErrIs E ee) (w : World) (m : Ref02.RM w B0 r vv n bs L) : Calls Try.prog 44 #[.pointer (some ⟨r, 0, none⟩), .int .i64 f] w fun e w' => e = .returned (.tuple #[.int .i64 (usedV Kd ee), .int .i64 ee]) ∧ Chg [] w w' := by
  have HA := Lib.hid (all_is HG0 hV.caps he w m)
  have HV := Lib.hid hV
  unfold usedV
  by_cases h0 : ee = 0
  · subst h0
    rw [if_pos rfl]
    obtain ⟨tot, htot⟩ : ∃ tot, usedN Kd (List.range 16) = tot := ⟨_, rfl⟩
    rw [htot]
    have HT := Lib.hid htot
    clear HG0 hV he m htot
    go_enter Try.func44, Try.ntmps44
    go_wp2_with fail
    refine Calls.mono HA.out ?_
    rintro e w1 ⟨v, rfl, O, -, k1⟩
    obtain ⟨q, cap, rfl, hq, hc⟩ := caps_get HV.out.caps (O (by trivial))
    have HC := Lib.hid hc
    clear O hc HA
    go_wp2_with fail
    go_loopw [8, 9] (fun c i wr => ∃ j : Nat, i = .int .i64 j ∧ c = .int .i64 (usedN Kd (List.range j)) ∧ j ≤ 16 ∧ Chg [] w1 wr) (fun _ i _ => 16 - (intOf i).toNat)
    case atStart => exact ⟨0, rfl, rfl, by decide, Chg.refl _ _⟩
    case round =>
      obtain ⟨j, rfl, rfl, hj, k3⟩ := hrel
      rcases (by omega : j = 16 ∨ j < 16) with rfl | j5
      · rw [HT.out]
        go_wp2
        go_ret2
        exact ⟨rfl, k1.trans k3 (by simp)⟩
      · obtain ⟨r', t, l, e, a, hv⟩ := HV.out j
        obtain ⟨d0, -⟩ := HC.out j _ r' t l e a j5 hv
        replace d0 := stays d0 k3
        have hji : (j : Int) < 16 := by omega
        have hsn : usedN Kd (List.range (j + 1)) = usedN Kd (List.range j) + if 1 < Kd j then 1 else 0 := by rw [List.range_succ]; exact usedN_snoc Kd _ j
        have hle : usedN Kd (List.range j) ≤ 16 := by have := usedN_le Kd (List.range j); simp at this; omega
        by_cases h1 : 1 < Kd j
        · rw [if_pos h1] at hsn
          have HSN := Lib.hid hsn
          obtain ⟨cnt, hcnt⟩ : ∃ cnt, usedN Kd (List.range j) = cnt := ⟨_, rfl⟩
          rw [hcnt] at hle HSN ⊢
          obtain ⟨kk, hkk⟩ : ∃ kk, Kd j = kk := ⟨_, rfl⟩
          rw [hkk] at d0 h1
          have hw1 : IntKind.i64.wrap ((cnt : Int) + 1) = (cnt : Int) + 1 := by rw [IntKind.wrap_i64]; omega
          clear hsn hcnt hkk hv
          go_wp2
          go_roundw
          case rel => exact ⟨j + 1, by go_num, by rw [HSN.out]; simp, by omega, k3⟩
          case measure => simp [intOf]; omega
        · rw [if_neg h1, Nat.add_zero] at hsn
          have HSN := Lib.hid hsn
          obtain ⟨cnt, hcnt⟩ : ∃ cnt, usedN Kd (List.range j) = cnt := ⟨_, rfl⟩
          rw [hcnt] at hle HSN ⊢
          obtain ⟨kk, hkk⟩ : ∃ kk, Kd j = kk := ⟨_, rfl⟩
          rw [hkk] at d0 h1
          clear hsn hcnt hkk hv
          go_wp2
          go_roundw
          case rel => exact ⟨j + 1, by go_num, by simp [HSN.out], by omega, k3⟩
          case measure => simp [intOf]; omega
  · rw [if_neg h0]
    have HN := Lib.hid h0
    clear HG0 hV he m h0
    go_enter Try.func44, Try.ntmps44
    go_wp2_with fail
    refine Calls.mono HA.out ?_
    rintro e w1 ⟨v, rfl, -, h2, k1⟩
    obtain rfl := h2 HN.out
    clear HA h2
    go_wp2_with fail
    go_loopw [8, 9] (fun c i wr => i = .int .i64 0 ∧ c = .int .i64 0 ∧ Chg [] w1 wr) (fun _ _ _ => 0)
    case atStart => exact ⟨rfl, rfl, Chg.refl _ _⟩
    case round =>
      obtain ⟨rfl, rfl, k3⟩ := hrel
      go_wp2
      go_ret2
      exact ⟨rfl, k1.trans k3 (by simp)⟩
theorem first_is (HG0 : GetsR n L f B0 r vv bs V E) (hV : CapsK V Kd) {ee x xe : Int} (he : ErrIs E ee) (hr0 : FirstIs Kd ee x xe) (w : World) (m : Ref02.RM w B0 r vv n bs L) :
    Calls Try.prog 45 #[.pointer (some ⟨r, 0, none⟩), .int .i64 f] w fun e w' => e = .returned (.tuple #[.int .i64 x, .int .i64 xe]) ∧ Chg [] w w' := by
  have HA := Lib.hid (all_is HG0 hV.caps he w m)
  rcases hr0 with ⟨hne, rfl, rfl⟩ | ⟨rfl, hr⟩
  · have hb : (xe == 0) = false := by rw [beq_eq_false_iff_ne]; exact hne
    have HN := Lib.hid hne
    clear hne m he
    go_enter Try.func45, Try.ntmps45
    go_wp2_with fail
    refine Calls.mono HA.out ?_
    rintro e w1 ⟨v, rfl, -, h2, k1⟩
    obtain rfl := h2 HN.out
    go_wp2
    go_ret2
    exact ⟨rfl, k1⟩
  have HR := Lib.hid hr
  have HV := Lib.hid hV
  clear hr m he hV
  go_enter Try.func45, Try.ntmps45
  go_wp2_with fail
  refine Calls.mono HA.out ?_
  rintro e w1 ⟨v, rfl, O, -, k1⟩
  obtain ⟨q, cap, rfl, hq, hc⟩ := caps_get HV.out.caps (O (by trivial))
  have HC := Lib.hid hc
  have k0 : Chg [] w1 w1 := Chg.refl _ _
  clear O hc HA
  go_wp2_with fail
  go_loopw [8] (fun i wr => ∃ j : Nat, i = .int .i64 j ∧ j ≤ 16 ∧ Hid (∀ t, t < j → Kd t ≠ 0) ∧ Chg [] w1 wr) (fun i _ => 16 - (intOf i).toNat)
  case atStart => exact ⟨0, rfl, by decide, fun t ht => absurd ht (by omega), k0⟩
  case round =>
    clear k0
    obtain ⟨j, rfl, hj, HE, k3⟩ := hrel
    rcases (by omega : j = 16 ∨ j < 16) with rfl | j5
    · have hx : x = 0 ∧ xe = 3 := by
        rcases HR.out with ⟨m, h1, -, -, h4, -⟩ | ⟨h, h', -⟩
        · exact absurd h4 (HE.out m h1)
        · exact ⟨h, h'⟩
      obtain ⟨rfl, rfl⟩ := hx
      go_wp2
      go_ret2
      exact ⟨rfl, k1.trans k3 (by simp)⟩
    · obtain ⟨r', t, l, e, a, hv⟩ := HV.out j
      obtain ⟨d0, -⟩ := HC.out j _ r' t l e a j5 hv
      replace d0 := stays d0 k3
      have hji : (j : Int) < 16 := by omega
      by_cases h0 : Kd j = 0
      · have hx : x = j ∧ xe = 0 := by
          rcases HR.out with ⟨m, h1, h2, h3, h4, h5⟩ | ⟨-, -, h⟩
          · refine ⟨?_, h3⟩
            rw [h2]
            congr 1
            rcases Nat.lt_trichotomy m j with q | q | q
            · exact absurd h4 (HE.out m q)
            · exact q
            · exact absurd h0 (h5 j q)
          · exact absurd h0 (h j j5)
        obtain ⟨rfl, rfl⟩ := hx
        rw [h0] at d0
        go_wp2
        go_ret2
        exact ⟨rfl, k1.trans k3 (by simp)⟩
      · have HE2 : Hid (∀ t, t < j + 1 → Kd t ≠ 0) := fun t ht => by
          rcases Nat.lt_succ_iff_lt_or_eq.1 ht with h | rfl
          · exact HE.out t h
          · exact h0
        have hb : (Kd j == 0) = false := by rw [beq_eq_false_iff_ne]; exact h0
        generalize Kd j = kk at *
        clear h0 HE
        go_wp2
        go_roundw
        case rel => exact ⟨j + 1, by first | rfl | simp, by omega, HE2, k3⟩
        case measure => simp [intOf]; omega
end
end Go.Proofs.Ytbjiecpkalcfeaa.SlotRefA
