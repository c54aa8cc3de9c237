/- A frame of slots that all hold capabilities: what Put does to it, in plain; First; awake. -/
import Derived.Test.YtbjiecpkalcfeaaSlotAll2
import Derived.WalkMore
namespace Go.Proofs.Ytbjiecpkalcfeaa.SlotLaw
open Go Go.RowKit Go.Proofs.Ytbjiecpkalcfeaa Go.Proofs.Ytbjiecpkalcfeaa.Heap Go.Proofs.Ytbjiecpkalcfeaa.Bits Go.Proofs.Ytbjiecpkalcfeaa.Cap Go.Proofs.Ytbjiecpkalcfeaa.CapGet Go.Proofs.Ytbjiecpkalcfeaa.CapW Go.Proofs.Ytbjiecpkalcfeaa.Mem Go.Proofs.Ytbjiecpkalcfeaa.Two Go.Proofs.Ytbjiecpkalcfeaa.Slot Go.Proofs.Ytbjiecpkalcfeaa.SlotAll2

theorem ld_st {L : List Int} (hl : L.length = 36) {a b x : Int} (a0 : 0 ≤ a) (a1 : a < 36) (b0 : 0 ≤ b) (b1 : b < 36) : ldV 1 (stL 1 L 0 a x) 0 b = if b = a then x else ldV 1 L 0 b := by
  unfold ldV stL
  rw [if_pos ⟨by decide, by decide, b0, b1⟩, if_pos ⟨by decide, by decide, a0, a1⟩]
  rw [List.getD_eq_getElem?_getD, List.getD_eq_getElem?_getD, List.getElem?_set]
  by_cases h : b = a
  · subst h
    rw [if_pos rfl, if_pos rfl, if_pos (by simp; omega)]
    rfl
  · rw [if_neg h, if_neg (by simp; omega), if_pos ⟨by decide, by decide, b0, b1⟩]
theorem st_len {L : List Int} (hl : L.length = 36) (a x : Int) : (stL 1 L 0 a x).length = 36 := by unfold stL; split <;> simp [hl]
theorem sp_ld {L : List Int} (hl : L.length = 36) {i j x y : Int} (i0 : 0 ≤ i) (i1 : i < 16) (j0 : 0 ≤ j) (j1 : j < 16) :
    ldV 1 (spL 1 L 0 i x y) 0 (4 + 2 * j) = (if j = i then x else ldV 1 L 0 (4 + 2 * j)) ∧ ldV 1 (spL 1 L 0 i x y) 0 (5 + 2 * j) = (if j = i then y else ldV 1 L 0 (5 + 2 * j)) := by
  unfold spL
  rw [ld_st (st_len hl _ _) (by omega) (by omega) (by omega) (by omega), ld_st (st_len hl _ _) (by omega) (by omega) (by omega) (by omega), ld_st hl (by omega) (by omega) (by omega) (by omega), ld_st hl (by omega) (by omega) (by omega) (by omega)]
  by_cases h : j = i
  · subst h
    rw [if_neg (by omega), if_pos rfl, if_pos rfl, if_pos rfl, if_pos rfl]
    exact ⟨rfl, rfl⟩
  · rw [if_neg (by omega), if_neg (by omega), if_neg h, if_neg (by omega), if_neg (by omega), if_neg h]
    exact ⟨rfl, rfl⟩
/-- A memory of one frame all of whose slots hold capabilities. -/
structure SM (w : World) (p g : Nat) (L : List Int) : Prop where
  m : MemAt w p g 1 L
  u : U64 L
  good : ∀ k : Nat, k < 16 → sgE 1 L 0 k = 0
theorem SM.len {w : World} {p g : Nat} {L : List Int} (h : SM w p g L) : L.length = 36 := h.m.len
theorem SM.chg0 {w w' : World} {p g : Nat} {L : List Int} (h : SM w p g L) (k : Chg [] w w') : SM w' p g L := ⟨h.m.chg0 k, h.u, h.good⟩
theorem put_sm {w w' : World} {p g : Nat} {L : List Int} {i k r t l e a : Int} (h : SM w p g L) (i0 : 0 ≤ i) (i1 : i < 16) (hR : rightC k r t l e a = true) (m' : MemAt w' p g 1 (spL 1 L 0 i (capWord k r t l e) a)) :
    SM w' p g (spL 1 L 0 i (capWord k r t l e) a) ∧ ∀ j : Nat, j < 16 → sgV 1 (spL 1 L 0 i (capWord k r t l e) a) 0 j = if (j : Int) = i then capV k r t l e a else sgV 1 L 0 j := by
  obtain ⟨w0, a0, hv, he⟩ := CapBack.get_word hR
  have hj := fun (j : Nat) (hj : j < 16) => sp_ld (x := capWord k r t l e) (y := a) h.len i0 i1 (j := j) (by omega) (by omega)
  refine ⟨⟨m', (h.u.st _ _ (by omega) (by omega)).st _ _ (by omega) (by omega), fun j hj' => ?_⟩, fun j hj' => ?_⟩
  · unfold sgE
    rw [(hj j hj').1, (hj j hj').2]
    by_cases hji : (j : Int) = i
    · rw [if_pos hji, if_pos hji]; exact he
    · rw [if_neg hji, if_neg hji]; exact h.good j hj'
  · unfold sgV
    rw [(hj j hj').1, (hj j hj').2]
    by_cases hji : (j : Int) = i
    · rw [if_pos hji, if_pos hji, if_pos hji]; exact hv
    · rw [if_neg hji, if_neg hji, if_neg hji]
/-- The kind of a slot's capability. -/
def sgK (L : List Int) (j : Nat) : Int := if getCok (ldV 1 L 0 (4 + 2 * (j : Int))) (ldV 1 L 0 (5 + 2 * (j : Int))) then ldV 1 L 0 (4 + 2 * (j : Int)) % 16 else 0
theorem sg_form (L : List Int) (j : Nat) : ∃ r t l e a, sgV 1 L 0 j = capV (sgK L j) r t l e a := by
  unfold sgV getCV sgK
  split
  · exact ⟨_, _, _, _, _, rfl⟩
  · exact ⟨_, _, _, _, _, rfl⟩
theorem sgK_of {L : List Int} {j : Nat} {k r t l e a : Int} (h : sgV 1 L 0 j = capV k r t l e a) : sgK L j = k := by
  obtain ⟨r', t', l', e', a', h'⟩ := sg_form L j
  rw [h'] at h
  simp at h
  exact h.1
theorem flat_get (F : Nat → List Value) (hF : ∀ k, (F k).length = 6) : ∀ (pre : List Nat) (j i : Nat), j < pre.length → i < 6 → (pre.flatMap F)[j * 6 + i]? = (F (pre.getD j 0))[i]?
  | [], j, i, h, _ => absurd h (by simp)
  | x :: pre, 0, i, _, hi => by
    rw [List.flatMap_cons, Nat.zero_mul, Nat.zero_add, List.getElem?_append_left (by rw [hF]; exact hi)]
    rfl
  | x :: pre, j + 1, i, h, hi => by
    have := flat_get F hF pre j i (by simpa using h) hi
    rw [List.flatMap_cons, List.getElem?_append_right (by rw [hF]; omega), hF, show (j + 1) * 6 + i - 6 = j * 6 + i by omega, this]
    rfl
theorem sgL_len (n : Nat) (L : List Int) (f : Int) (k : Nat) : (sgL n L f k).length = 6 := by
  obtain ⟨k', r', t', l', e', a', hv⟩ := getCV_form (ldV n L f (4 + 2 * (k : Int))) (ldV n L f (5 + 2 * (k : Int)))
  have hv' : sgV n L f k = capV k' r' t' l' e' a' := hv
  unfold sgL
  rw [hv']
  rfl
/-- The cells of a row of all capabilities. -/
theorem caps_get {w : World} {n : Nat} {L : List Int} {f : Int} {v : Value} (h : w.ownsRow 0 70 6 v 16 (capsL n L f (List.range 16))) : ∃ q cap, v = .slice (some ⟨q, 0, none⟩) 16 cap ∧ q < w.heap.size ∧
    ∀ (j : Nat) (k r t l e a : Int), j < 16 → sgV n L f j = capV k r t l e a → w.cell? ⟨q, j * 6, none⟩ = some (.int .i64 k) ∧ w.cell? ⟨q, j * 6 + 1, none⟩ = some (.int .i64 r) ∧ w.cell? ⟨q, j * 6 + 2, none⟩ = some (.int .i64 t) ∧ w.cell? ⟨q, j * 6 + 3, none⟩ = some (.int .i64 l) ∧ w.cell? ⟨q, j * 6 + 4, none⟩ = some (.int .i64 e) ∧ w.cell? ⟨q, j * 6 + 5, none⟩ = some (.int .i64 a) := by
  obtain ⟨q, cap, rfl, -⟩ := h.form (by decide)
  refine ⟨q, cap, rfl, own_lt h rfl, fun j k r t l e a hj hv => ?_⟩
  have hL : sgL n L f j = [.int .i64 k, .int .i64 r, .int .i64 t, .int .i64 l, .int .i64 e, .int .i64 a] := by unfold sgL; rw [hv]; rfl
  have hc : ∀ (i : Nat) (u : Value), i < 6 → (sgL n L f j)[i]? = some u → w.cell? ⟨q, j * 6 + i, none⟩ = some u := fun i u hi hu => by
    have hg := flat_get (sgL n L f) (sgL_len n L f) (List.range 16) j i (by simpa using hj) hi
    have hr : (List.range 16).getD j 0 = j := by rw [List.getD_eq_getElem?_getD, List.getElem?_range hj]; rfl
    rw [hr, hu] at hg
    have := h.cells (g := q) rfl (j * 6 + i) u hg
    rw [add_plain, Nat.zero_add] at this
    exact this
  rw [hL] at hc
  exact ⟨hc 0 _ (by decide) rfl, hc 1 _ (by decide) rfl, hc 2 _ (by decide) rfl, hc 3 _ (by decide) rfl, hc 4 _ (by decide) rfl, hc 5 _ (by decide) rfl⟩
theorem stays {w V : World} {q : Addr} {v : Value} (hc : w.cell? q = some v) (hV : Chg [] w V) : V.cell? q = some v := by
  rw [← hc]
  exact World.cell?_of_block (hV.block _ (World.block_lt_of_cell? w _ hc) (by simp))
set_option maxRecDepth 100000 in
set_option maxHeartbeats 4000000 in
theorem first_ok {w : World} {p g : Nat} {L : List Int} (S : SM w p g L) (x ee : Int) (hr : (∃ m : Nat, m < 16 ∧ x = m ∧ ee = 0 ∧ sgK L m = 0 ∧ ∀ j, j < m → sgK L j ≠ 0) ∨ (x = 0 ∧ ee = 3 ∧ ∀ j, j < 16 → sgK L j ≠ 0)) :
    Calls Try.prog 39 #[.pointer (some ⟨p, 0, none⟩), .int .i64 0] w fun e w' => e = .returned (.tuple #[.int .i64 x, .int .i64 ee]) ∧ Chg [] w w' := by
  have HA := Lib.hid (SlotAll2.all_ok w S.m S.u (by decide) (by decide) S.good)
  have HR := Lib.hid hr
  clear hr S
  go_enter Try.func39, Try.ntmps39
  go_wp2_with fail
  go_step3
  go_wp2_with fail
  refine Calls.mono HA.out ?_
  rintro e w1 ⟨v, rfl, O, -, k1⟩
  obtain ⟨q, cap, rfl, hq, hc⟩ := caps_get O
  have HC := Lib.hid hc
  have k0 : Chg [] w1 w1 := Chg.refl _ _
  clear O hc HA
  go_wp2_with fail
  go_step3
  go_wp2_with fail
  go_loopw [8, 22] (fun f i wr => ∃ j : Nat, i = .int .i64 j ∧ f = .int .i64 (-1) ∧ j ≤ 16 ∧ Hid (∀ t, t < j → sgK L t ≠ 0) ∧ Chg [] w1 wr) (fun _ i _ => 16 - (intOf i).toNat)
  case atStart => exact ⟨0, rfl, rfl, by decide, fun t ht => absurd ht (by omega), k0⟩
  case round =>
    clear k0
    obtain ⟨j, rfl, rfl, hj, HE, k3⟩ := hrel
    rcases (by omega : j = 16 ∨ j < 16) with rfl | j5
    · have hx : x = 0 ∧ ee = 3 := by
        rcases HR.out with ⟨m, h1, -, -, h4, -⟩ | ⟨h, h', -⟩
        · exact absurd h4 (HE.out m h1)
        · exact ⟨h, h'⟩
      obtain ⟨rfl, rfl⟩ := hx
      go_wp2
      try rw [Exit.noGoto_ret]
      go_ret2
      exact ⟨rfl, k1.trans k3 (by simp)⟩
    · obtain ⟨r, t, l, e, a, hv⟩ := sg_form L j
      obtain ⟨d0, d1, d2, d3, d4, d5⟩ := HC.out j _ r t l e a j5 hv
      replace d0 := stays d0 k3
      replace d1 := stays d1 k3
      replace d2 := stays d2 k3
      replace d3 := stays d3 k3
      replace d4 := stays d4 k3
      replace d5 := stays d5 k3
      have hji : (j : Int) < 16 := by omega
      by_cases h0 : sgK L j = 0
      · have hx : x = j ∧ ee = 0 := by
          rcases HR.out with ⟨m, h1, h2, h3, h4, h5⟩ | ⟨-, -, h⟩
          · refine ⟨?_, h3⟩
            rw [h2]
            congr 1
            rcases Nat.lt_trichotomy m j with q | q | q
            · exact absurd h4 (HE.out m q)
            · exact q
            · exact absurd h0 (h5 j q)
          · exact absurd h0 (h j j5)
        obtain ⟨rfl, rfl⟩ := hx
        rw [h0] at d0
        have c0 := (Blk.new wr 70 (capC 0 r t l e a)).cell 0
        go_wp2
        try rw [Exit.noGoto_ret]
        go_ret2
        exact ⟨rfl, (k1.trans k3 (by simp)).alloc _⟩
      · have HE2 : Hid (∀ t, t < j + 1 → sgK L t ≠ 0) := fun t ht => by
          rcases Nat.lt_succ_iff_lt_or_eq.1 ht with h | rfl
          · exact HE.out t h
          · exact h0
        have hb : (sgK L j == 0) = false := by rw [beq_eq_false_iff_ne]; exact h0
        generalize sgK L j = kk at *
        have c0 := (Blk.new wr 70 (capC kk r t l e a)).cell 0
        clear h0 HE
        go_wp2
        go_roundw
        case rel => exact ⟨j + 1, by first | rfl | simp, rfl, by omega, HE2, k3.alloc _⟩
        case measure => simp [intOf]; omega
end Go.Proofs.Ytbjiecpkalcfeaa.SlotLaw
