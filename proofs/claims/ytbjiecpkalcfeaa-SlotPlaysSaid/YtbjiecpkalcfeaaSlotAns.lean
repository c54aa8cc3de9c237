/- Package slot: what All, Used and First answer over any frame. -/
import Derived.Test.YtbjiecpkalcfeaaSlotUse
import Derived.WalkMore
namespace Go.Proofs.Ytbjiecpkalcfeaa.SlotAns
open Go Go.RowKit Go.Proofs.Ytbjiecpkalcfeaa Go.Proofs.Ytbjiecpkalcfeaa.Heap Go.Proofs.Ytbjiecpkalcfeaa.Bits Go.Proofs.Ytbjiecpkalcfeaa.Cap Go.Proofs.Ytbjiecpkalcfeaa.CapGet Go.Proofs.Ytbjiecpkalcfeaa.Mem Go.Proofs.Ytbjiecpkalcfeaa.Two Go.Proofs.Ytbjiecpkalcfeaa.Slot Go.Proofs.Ytbjiecpkalcfeaa.SlotIt Go.Proofs.Ytbjiecpkalcfeaa.SlotUse

/-- The error of a frame's slots: the first one's. -/
def ErrIs (E : Nat → Int) (ee : Int) : Prop := (ee = 0 ∧ ∀ k, k < 16 → E k = 0) ∨ (∃ k, k < 16 ∧ E k ≠ 0 ∧ (∀ j, j < k → E j = 0) ∧ ee = E k)
theorem least (p : Nat → Prop) [DecidablePred p] : ∀ n, (∀ k, k < n → ¬ p k) ∨ ∃ k, k < n ∧ p k ∧ ∀ j, j < k → ¬ p j
  | 0 => .inl fun k hk => absurd hk (by omega)
  | n + 1 => by
    rcases least p n with h | ⟨k, h1, h2, h3⟩
    · by_cases hp : p n
      · exact .inr ⟨n, by omega, hp, h⟩
      · refine .inl fun k hk => ?_
        rcases Nat.lt_succ_iff_lt_or_eq.1 hk with h' | rfl
        · exact h k h'
        · exact hp
    · exact .inr ⟨k, by omega, h2, h3⟩
theorem errIs (E : Nat → Int) : ∃ ee, ErrIs E ee := by
  rcases least (fun k => E k ≠ 0) 16 with h | ⟨k, h1, h2, h3⟩
  · exact ⟨0, .inl ⟨rfl, fun k hk => Decidable.not_not.1 (h k hk)⟩⟩
  · exact ⟨E k, .inr ⟨k, h1, h2, fun j hj => Decidable.not_not.1 (h3 j hj), rfl⟩⟩
/-- What First answers. -/
def FirstIs (Kd : Nat → Int) (ee x xe : Int) : Prop := (ee ≠ 0 ∧ x = 0 ∧ xe = ee) ∨ (ee = 0 ∧ ((∃ m : Nat, m < 16 ∧ x = m ∧ xe = 0 ∧ Kd m = 0 ∧ ∀ j, j < m → Kd j ≠ 0) ∨ (x = 0 ∧ xe = 3 ∧ ∀ j, j < 16 → Kd j ≠ 0)))
theorem firstIs (Kd : Nat → Int) (ee : Int) : ∃ x xe, FirstIs Kd ee x xe := by
  by_cases h : ee = 0
  · rcases least (fun k => Kd k = 0) 16 with h' | ⟨k, h1, h2, h3⟩
    · exact ⟨0, 3, .inr ⟨h, .inr ⟨rfl, rfl, h'⟩⟩⟩
    · exact ⟨k, 0, .inr ⟨h, .inl ⟨k, h1, rfl, rfl, h2, h3⟩⟩⟩
  · exact ⟨0, ee, .inl ⟨h, rfl, rfl⟩⟩
/-- What Used answers. -/
def usedV (Kd : Nat → Int) (ee : Int) : Int := if ee = 0 then (usedN Kd (List.range 16) : Nat) else 0
section
variable {n : Nat} {L : List Int} {f : Int} {p g : Nat} {V : Nat → Value} {E Kd : Nat → Int}
theorem all_is (HG0 : GetsG n L f p g V E) (hV : CapsV V) {ee : Int} (he : ErrIs E ee) (w : World) (m : MemAt w p g n L) : Calls Try.prog 36 #[.pointer (some ⟨p, 0, none⟩), .int .i64 f] w fun e w' => ∃ v, e = .returned (.tuple #[v, .int .i64 ee]) ∧ (ee = 0 → w'.ownsRow 0 70 6 v 16 (capsG V (List.range 16))) ∧ (ee ≠ 0 → v = .slice none 0 0) ∧ Chg [] w w' := by
  refine Calls.mono (all_gen HG0 hV w m) ?_
  rintro e w' ⟨⟨v, rfl, h1, h2, -⟩ | ⟨k, h1, h2, h3, rfl⟩, kk⟩
  · rcases he with ⟨rfl, -⟩ | ⟨k, h3, h4, -⟩
    · exact ⟨v, rfl, fun _ => h2, fun h => absurd rfl h, kk⟩
    · exact absurd (h1 k h3) h4
  · rcases he with ⟨-, h4⟩ | ⟨k', h4, h5, h6, rfl⟩
    · exact absurd (h4 k h1) h2
    · obtain rfl : k = k' := by
        rcases Nat.lt_trichotomy k k' with q | q | q
        · exact absurd (h6 k q) h2
        · exact q
        · exact absurd (h3 k' q) h5
      exact ⟨_, rfl, fun h => absurd h h2, fun _ => rfl, kk⟩
theorem used_is (HG0 : GetsG n L f p g V E) (hV : CapsK V Kd) {ee : Int} (he : ErrIs E ee) (w : World) (m : MemAt w p g n L) : Calls Try.prog 40 #[.pointer (some ⟨p, 0, none⟩), .int .i64 f] w fun e w' => e = .returned (.tuple #[.int .i64 (usedV Kd ee), .int .i64 ee]) ∧ Chg [] w w' := by
  refine Calls.mono (used_gen HG0 hV w m) ?_
  unfold usedV
  rintro e w' ⟨⟨rfl, h1⟩ | ⟨k, h1, h2, h3, rfl⟩, kk⟩
  · rcases he with ⟨rfl, -⟩ | ⟨k, h3, h4, -⟩
    · exact ⟨rfl, kk⟩
    · exact absurd (h1 k h3) h4
  · rcases he with ⟨-, h4⟩ | ⟨k', h4, h5, h6, rfl⟩
    · exact absurd (h4 k h1) h2
    · obtain rfl : k = k' := by
        rcases Nat.lt_trichotomy k k' with q | q | q
        · exact absurd (h6 k q) h2
        · exact q
        · exact absurd (h3 k' q) h5
      rw [if_neg h2]
      exact ⟨rfl, kk⟩
end
theorem flat_get (F : Nat → List Value) (hF : ∀ k, (F k).length = 6) : ∀ (pre : List Nat) (j i : Nat), j < pre.length → i < 6 → (pre.flatMap F)[j * 6 + i]? = (F (pre.getD j 0))[i]?
  | [], j, i, h, _ => absurd h (by simp)
  | x :: pre, 0, i, _, hi => by
    rw [List.flatMap_cons, Nat.zero_mul, Nat.zero_add, List.getElem?_append_left (by rw [hF]; exact hi)]
    rfl
  | x :: pre, j + 1, i, h, hi => by
    have := flat_get F hF pre j i (by simpa using h) hi
    rw [List.flatMap_cons, List.getElem?_append_right (by rw [hF]; omega), hF, show (j + 1) * 6 + i - 6 = j * 6 + i by omega, this]
    rfl
/-- The cells of a row of all capabilities. -/
theorem caps_get {w : World} {V : Nat → Value} (hV : CapsV V) {v : Value} (h : w.ownsRow 0 70 6 v 16 (capsG V (List.range 16))) : ∃ q cap, v = .slice (some ⟨q, 0, none⟩) 16 cap ∧ q < w.heap.size ∧
    ∀ (j : Nat) (k r t l e a : Int), j < 16 → V j = capV k r t l e a → w.cell? ⟨q, j * 6, none⟩ = some (.int .i64 k) ∧ w.cell? ⟨q, j * 6 + 1, none⟩ = some (.int .i64 r) ∧ w.cell? ⟨q, j * 6 + 2, none⟩ = some (.int .i64 t) ∧ w.cell? ⟨q, j * 6 + 3, none⟩ = some (.int .i64 l) ∧ w.cell? ⟨q, j * 6 + 4, none⟩ = some (.int .i64 e) ∧ w.cell? ⟨q, j * 6 + 5, none⟩ = some (.int .i64 a) := by
  obtain ⟨q, cap, rfl, -⟩ := h.form (by decide)
  have hlen : ∀ k, (gL V k).length = 6 := fun k => by
    obtain ⟨_, _, _, _, _, _, hv⟩ := hV k
    unfold gL
    rw [hv]
    rfl
  refine ⟨q, cap, rfl, own_lt h rfl, fun j k r t l e a hj hv => ?_⟩
  have hL : gL V j = [.int .i64 k, .int .i64 r, .int .i64 t, .int .i64 l, .int .i64 e, .int .i64 a] := by unfold gL; rw [hv]; rfl
  have hc : ∀ (i : Nat) (u : Value), i < 6 → (gL V j)[i]? = some u → w.cell? ⟨q, j * 6 + i, none⟩ = some u := fun i u hi hu => by
    have hg := flat_get (gL V) hlen (List.range 16) j i (by simpa using hj) hi
    have hr : (List.range 16).getD j 0 = j := by rw [List.getD_eq_getElem?_getD, List.getElem?_range hj]; rfl
    rw [hr, hu] at hg
    have := h.cells (g := q) rfl (j * 6 + i) u hg
    rw [add_plain, Nat.zero_add] at this
    exact this
  rw [hL] at hc
  exact ⟨hc 0 _ (by decide) rfl, hc 1 _ (by decide) rfl, hc 2 _ (by decide) rfl, hc 3 _ (by decide) rfl, hc 4 _ (by decide) rfl, hc 5 _ (by decide) rfl⟩
theorem stays {w V : World} {q : Addr} {v : Value} (hc : w.cell? q = some v) (hV : Chg [] w V) : V.cell? q = some v := by
  rw [← hc]
  exact World.cell?_of_block (hV.block _ (World.block_lt_of_cell? w _ hc) (by simp))
set_option maxRecDepth 100000 in
set_option maxHeartbeats 4000000 in
theorem first_is {n : Nat} {L : List Int} {f : Int} {p g : Nat} {V : Nat → Value} {E Kd : Nat → Int} (HG0 : GetsG n L f p g V E) (hV : CapsK V Kd) {ee x xe : Int} (he : ErrIs E ee) (hr0 : FirstIs Kd ee x xe) (w : World) (m : MemAt w p g n L) :
    Calls Try.prog 39 #[.pointer (some ⟨p, 0, none⟩), .int .i64 f] w fun e w' => e = .returned (.tuple #[.int .i64 x, .int .i64 xe]) ∧ Chg [] w w' := by
  have HA := Lib.hid (all_is HG0 hV.caps he w m)
  rcases hr0 with ⟨hne, rfl, rfl⟩ | ⟨rfl, hr⟩
  · have hb : (xe == 0) = false := by rw [beq_eq_false_iff_ne]; exact hne
    have HN := Lib.hid hne
    clear hne m he
    go_enter Try.func39, Try.ntmps39
    go_wp2_with fail
    go_step3
    go_wp2_with fail
    refine Calls.mono HA.out ?_
    rintro e w1 ⟨v, rfl, -, h2, k1⟩
    obtain rfl := h2 HN.out
    go_wp2
    try rw [Exit.noGoto_ret]
    go_ret2
    exact ⟨rfl, k1⟩
  have HR := Lib.hid hr
  have HV := Lib.hid hV
  clear hr m he hV
  go_enter Try.func39, Try.ntmps39
  go_wp2_with fail
  go_step3
  go_wp2_with fail
  refine Calls.mono HA.out ?_
  rintro e w1 ⟨v, rfl, O, -, k1⟩
  obtain ⟨q, cap, rfl, hq, hc⟩ := caps_get HV.out.caps (O (by trivial))
  have HC := Lib.hid hc
  have k0 : Chg [] w1 w1 := Chg.refl _ _
  clear O hc HA
  go_wp2_with fail
  go_step3
  go_wp2_with fail
  go_loopw [8, 22] (fun f i wr => ∃ j : Nat, i = .int .i64 j ∧ f = .int .i64 (-1) ∧ j ≤ 16 ∧ Hid (∀ t, t < j → Kd t ≠ 0) ∧ Chg [] w1 wr) (fun _ i _ => 16 - (intOf i).toNat)
  case atStart => exact ⟨0, rfl, rfl, by decide, fun t ht => absurd ht (by omega), k0⟩
  case round =>
    clear k0
    obtain ⟨j, rfl, rfl, hj, HE, k3⟩ := hrel
    rcases (by omega : j = 16 ∨ j < 16) with rfl | j5
    · have hx : x = 0 ∧ xe = 3 := by
        rcases HR.out with ⟨m, h1, -, -, h4, -⟩ | ⟨h, h', -⟩
        · exact absurd h4 (HE.out m h1)
        · exact ⟨h, h'⟩
      obtain ⟨rfl, rfl⟩ := hx
      go_wp2
      try rw [Exit.noGoto_ret]
      go_ret2
      exact ⟨rfl, k1.trans k3 (by simp)⟩
    · obtain ⟨r, t, l, e, a, hv⟩ := HV.out j
      obtain ⟨d0, d1, d2, d3, d4, d5⟩ := HC.out j _ r t l e a j5 hv
      replace d0 := stays d0 k3
      replace d1 := stays d1 k3
      replace d2 := stays d2 k3
      replace d3 := stays d3 k3
      replace d4 := stays d4 k3
      replace d5 := stays d5 k3
      have hji : (j : Int) < 16 := by omega
      by_cases h0 : Kd j = 0
      · have hx : x = j ∧ xe = 0 := by
          rcases HR.out with ⟨m, h1, h2, h3, h4, h5⟩ | ⟨-, -, h⟩
          · refine ⟨?_, h3⟩
            rw [h2]
            congr 1
            rcases Nat.lt_trichotomy m j with q | q | q
            · exact absurd h4 (HE.out m q)
            · exact q
            · exact absurd h0 (h5 j q)
          · exact absurd h0 (h j j5)
        obtain ⟨rfl, rfl⟩ := hx
        rw [h0] at d0
        have c0 := (Blk.new wr 70 (capC 0 r t l e a)).cell 0
        go_wp2
        try rw [Exit.noGoto_ret]
        go_ret2
        exact ⟨rfl, (k1.trans k3 (by simp)).alloc _⟩
      · have HE2 : Hid (∀ t, t < j + 1 → Kd t ≠ 0) := fun t ht => by
          rcases Nat.lt_succ_iff_lt_or_eq.1 ht with h | rfl
          · exact HE.out t h
          · exact h0
        have hb : (Kd j == 0) = false := by rw [beq_eq_false_iff_ne]; exact h0
        generalize Kd j = kk at *
        have c0 := (Blk.new wr 70 (capC kk r t l e a)).cell 0
        clear h0 HE
        go_wp2
        go_roundw
        case rel => exact ⟨j + 1, by first | rfl | simp, rfl, by omega, HE2, k3.alloc _⟩
        case measure => simp [intOf]; omega
end Go.Proofs.Ytbjiecpkalcfeaa.SlotAns
