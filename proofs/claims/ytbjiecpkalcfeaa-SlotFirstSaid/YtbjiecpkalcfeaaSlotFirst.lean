/- SlotFirst's walk. -/
import Derived.Test.YtbjiecpkalcfeaaSlotUsed
import Derived.Test.YtbjiecpkalcfeaaSlotOne
namespace Go.Proofs.Ytbjiecpkalcfeaa.SlotFirst
open Go Go.RowKit Go.Proofs.Ytbjiecpkalcfeaa Go.Proofs.Ytbjiecpkalcfeaa.Heap Go.Proofs.Ytbjiecpkalcfeaa.Bits Go.Proofs.Ytbjiecpkalcfeaa.Cap Go.Proofs.Ytbjiecpkalcfeaa.CapGet Go.Proofs.Ytbjiecpkalcfeaa.CapW Go.Proofs.Ytbjiecpkalcfeaa.Mem Go.Proofs.Ytbjiecpkalcfeaa.Two Go.Proofs.Ytbjiecpkalcfeaa.Slot Go.Proofs.Ytbjiecpkalcfeaa.SlotAll2 Go.Proofs.Ytbjiecpkalcfeaa.SlotLaw Go.Proofs.Ytbjiecpkalcfeaa.SlotUsed Go.Proofs.Ytbjiecpkalcfeaa.SlotOne

/-- The slots that are marked are those where a capability was put. -/
structure FS (w wr : World) (p g bo : Nat) (L : List Int) (on : Nat → Bool) : Prop where
  s : SM wr p g L
  row : ∃ cs, Blk wr bo 75 cs ∧ cs.size = 16 ∧ ∀ j, j < 16 → cs[j]? = some (.bool (on j))
  kind : ∀ j, j < 16 → (on j = false ∧ sgK L j = 0) ∨ (on j = true ∧ (sgK L j = 1 ∨ sgK L j = 11))
  k : Chg [] w wr
  fg : w.heap.size ≤ g
  fo : w.heap.size ≤ bo
  ne : bo ≠ g
theorem FS.chg0 {w wr w' : World} {p g bo : Nat} {L : List Int} {on : Nat → Bool} (h : FS w wr p g bo L on) (k : Chg [] wr w') : FS w w' p g bo L on := by
  obtain ⟨s, ⟨cs, b, r⟩, kind, k', fg, fo, ne⟩ := h
  exact ⟨s.chg0 k, ⟨cs, b.chg k (by simp), r⟩, kind, k'.trans k (by simp), fg, fo, ne⟩
theorem FS.cell {w wr : World} {p g bo : Nat} {L : List Int} {on : Nat → Bool} (h : FS w wr p g bo L on) {j : Nat} (hj : j < 16) : wr.cell? ⟨bo, j, none⟩ = some (.bool (on j)) := by
  obtain ⟨cs, b, r⟩ := h.row
  exact (b.cell j).trans (r.2 j hj)
theorem FS.frz {w wr : World} {p g bo : Nat} {L : List Int} {on : Nat → Bool} (h : FS w wr p g bo L on) (j : Nat) : wr.frozen? ⟨bo, j, none⟩ = false := by
  obtain ⟨cs, b, r⟩ := h.row
  exact b.frozen j
/-- A capability is put, and its slot marked. -/
theorem FS.put {w wr w' : World} {p g bo : Nat} {L L' : List Int} {on : Nat → Bool} (h : FS w wr p g bo L on) {i : Nat} (hi : i < 16) {k r t l e a : Int} (hk : k = 1 ∨ k = 11) (s' : SM w' p g L') (hj : ∀ j : Nat, j < 16 → sgV 1 L' 0 j = if (j : Int) = i then capV k r t l e a else sgV 1 L 0 j) (kk : Chg [g] wr w') :
    FS w (w'.setCell ⟨bo, i, none⟩ (.bool true)) p g bo L' (fun j => if j = i then true else on j) := by
  obtain ⟨s, ⟨cs, b, r'⟩, kind, k', fg, fo, ne⟩ := h
  have b' := b.chg kk (by simpa using ne)
  have kx := (Chg.refl [bo] w').setCell (p := ⟨bo, i, none⟩) (by simp) (.bool true)
  have hpo : p ≠ bo := Blk.ne_ s'.m.hd b' (by decide)
  refine ⟨⟨s'.m.chg kx (by simpa using hpo) (by simpa using ne.symm), s'.u, s'.good⟩, ⟨_, b'.set_ i _, by simp [r'.1], fun j hj' => ?_⟩, fun j hj' => ?_, (k'.trans kk (by simp; omega)).setCell (.inr (by simpa using fo)) _, fg, fo, ne⟩
  · rw [Array.getElem?_setIfInBounds]
    by_cases e' : i = j
    · subst e'
      rw [if_pos rfl, if_pos (by rw [r'.1]; exact hi), if_pos rfl]
    · rw [if_neg e', if_neg (fun q => e' q.symm)]
      exact r'.2 j hj'
  · by_cases e' : j = i
    · subst e'
      refine .inr ⟨if_pos rfl, ?_⟩
      rw [sgK_of (by rw [hj j hj']; exact if_pos rfl)]
      exact hk
    · have hv : sgV 1 L' 0 j = sgV 1 L 0 j := by rw [hj j hj', if_neg (by omega)]
      obtain ⟨r1, t1, l1, e1, a1, hf⟩ := sg_form L j
      rw [hf] at hv
      rw [sgK_of hv, if_neg e']
      exact kind j hj'
theorem FS.after {w wr w' : World} {p g bo : Nat} {L : List Int} {on : Nat → Bool} (h : FS w wr p g bo L on) (kk : Chg [g] wr w') {i : Nat} (hi : i < 16) : w'.cell? ⟨bo, i, none⟩ = some (.bool (on i)) ∧ w'.frozen? ⟨bo, i, none⟩ = false := by
  obtain ⟨s, ⟨cs, b, r'⟩, kind, k', fg, fo, ne⟩ := h
  have b' := b.chg kk (by simpa using ne)
  exact ⟨(b'.cell i).trans (r'.2 i hi), b'.frozen i⟩
theorem mk_on : ∀ j, j < 16 → (Array.replicate 16 (Value.bool false))[j]? = some (.bool false) := fun j hj => by simp [hj]
set_option maxRecDepth 100000 in
set_option maxHeartbeats 8000000 in
theorem slotFirst_walk (A : Option Addr) (n c : Nat) (ks : List Int) (w : World) (hz : Nums w .u8 A n ks) (hk : ∀ x ∈ ks, 0 ≤ x ∧ x < 256) :
    Calls Try.prog 7 #[.slice A n c] w fun e w' => e = .returned (.bool true) ∧ Chg [] w w' := by
  have b1 := hz.2.1
  have Z := Lib.hid hz
  have HK := Lib.hid hk
  clear hz hk
  go_enter Try.func7, Try.ntmps7
  go_wp2_with fail
  refine Calls.mono (Mem.new_ok 1 (by decide) (by decide) _) ?_
  rintro e w1 ⟨p, g, rfl, m, hp, hg, k1⟩
  have S0 := zero_sm m
  have hz := Lib.hid (fun j => zero_k j)
  generalize List.replicate (36 * 1) (0 : Int) = L0 at *
  go_wp2_with fail
  obtain ⟨bo, eb⟩ : ∃ bo, w1.heap.size = bo := ⟨_, rfl⟩
  have B := Blk.new' w1 75 (Array.replicate 16 (Value.bool false)) eb
  have kA := (Chg.refl [] w1).alloc (.cells (Array.replicate 16 (Value.bool false)) 75)
  have F0 : FS w (w1.alloc (.cells (Array.replicate 16 (Value.bool false)) 75)) p g bo L0 (fun _ => false) :=
    ⟨S0.chg0 kA, ⟨_, B, by decide, mk_on⟩, fun j _ => .inl ⟨rfl, hz.out j⟩, k1.trans kA (by simp), hg, by have := k1.size; omega, Blk.ne_ B (m.alloc _).row (by decide)⟩
  rw [eb]
  clear B kA S0 m hp hg k1 hz
  go_loopw [7] (fun i wr => ∃ (j : Nat) (L : List Int) (on : Nat → Bool), i = .int .i64 j ∧ j ≤ n ∧ j ≤ 40 ∧ FS w wr p g bo L on) (fun i _ => n - (intOf i).toNat)
  case atStart => exact ⟨0, L0, _, rfl, by omega, by omega, F0⟩
  case round =>
    clear F0
    obtain ⟨j, L, on, rfl, j1, j2, F⟩ := hrel
    by_cases hlt : j < n ∧ j < 40
    · obtain ⟨l1, l2⟩ := hlt
      obtain ⟨aA, rfl, hA⟩ := Z.out.2.2 (by omega)
      have cA := stays (hA j l1) F.k
      have HcA : Hid (∀ V, Chg [] w V → V.cell? (aA.add j) = some (.int .u8 (ks.getD j 0))) := fun V kV => stays (hA j l1) kV
      have y0 : 0 ≤ ks.getD j 0 ∧ ks.getD j 0 < 256 := HK.out _ (by
        have := Z.out.1
        rw [List.getD_eq_getElem?_getD, List.getElem?_eq_getElem (by omega)]
        exact List.getElem_mem _)
      clear hA
      generalize ks.getD j 0 = y at *
      obtain ⟨y0, y1⟩ := y0
      obtain ⟨i, hi⟩ : ∃ i : Nat, y / 2 % 16 = i := ⟨(y / 2 % 16).toNat, by omega⟩
      have i16 : i < 16 := by omega
      have hR1 : rightC 11 1 0 0 0 0 = true := by decide
      have hR2 : rightC 1 0 0 0 0 7 = true := by decide
      have cB := HcA.out _ (F.k.alloc (.cells (capC 11 1 0 0 0 0) 70))
      rcases (by omega : y % 2 = 1 ∨ y % 2 = 0) with hy | hy
      · have F2 := F.chg0 ((Chg.refl [] _).alloc (.cells (capC 1 0 0 0 0 7) 70))
        go_wp2_with fail
        refine Calls.mono (Slot.put_ok F2.s.m 0 i 1 0 0 0 0 7 (by decide) (by decide) (by omega) (by omega) hR2) ?_
        rintro e' w3 ⟨rfl, m3, kk⟩
        obtain ⟨S3, hj⟩ := put_sm F2.s (by omega) (by omega) hR2 m3
        have FN := F2.put i16 (.inl rfl) S3 hj kk
        obtain ⟨c15, f15⟩ := F2.after kk i16
        have i16' : (i : Int) < 16 := by omega
        generalize spL 1 L 0 i (capWord 1 0 0 0 0) 7 = L' at *
        clear m3 S3 hj kk F F2 cA cB hR1 hR2
        go_wp2_with fail
        go_roundw
        case rel => exact ⟨j + 1, L', _, by go_num, by omega, by omega, FN⟩
        case measure => simp [intOf]; omega
      · have F2 := F.chg0 ((Chg.refl [] _).alloc (.cells (capC 11 1 0 0 0 0) 70))
        go_wp2_with fail
        refine Calls.mono (Slot.put_ok F2.s.m 0 i 11 1 0 0 0 0 (by decide) (by decide) (by omega) (by omega) hR1) ?_
        rintro e' w3 ⟨rfl, m3, kk⟩
        obtain ⟨S3, hj⟩ := put_sm F2.s (by omega) (by omega) hR1 m3
        have FN := F2.put i16 (.inr rfl) S3 hj kk
        obtain ⟨c15, f15⟩ := F2.after kk i16
        have i16' : (i : Int) < 16 := by omega
        generalize spL 1 L 0 i (capWord 11 1 0 0 0) 0 = L' at *
        clear m3 S3 hj kk F F2 cA cB hR1 hR2
        go_wp2_with fail
        go_roundw
        case rel => exact ⟨j + 1, L', _, by go_num, by omega, by omega, FN⟩
        case measure => simp [intOf]; omega
    · have hK0 := F.s.good
      rcases (by omega : ¬ j < n ∨ (j < n ∧ ¬ j < 40)) with h | ⟨h, h'⟩
      all_goals
        clear hlt
        go_wp2_with fail
        have HF := Lib.hid F
        go_loopw [6, 10, 11] (fun nn f i V => ∃ (m : Nat) (q : Int), i = .int .i64 m ∧ nn = .int .i64 (usedN L (List.range m)) ∧ f = .int .i64 q ∧ m ≤ 16 ∧ Hid ((q = -1 ∧ ∀ t, t < m → on t = true) ∨ (∃ x : Nat, x < m ∧ q = x ∧ on x = false ∧ ∀ t, t < x → on t = true)) ∧ FS w V p g bo L on) (fun _ _ i _ => 16 - (intOf i).toNat)
        case atStart => exact ⟨0, -1, rfl, rfl, rfl, by decide, .inl ⟨rfl, fun t ht => absurd ht (by omega)⟩, F⟩
        case round =>
          clear HF F
          obtain ⟨m, q, rfl, rfl, rfl, hm, HQ, F⟩ := hrel
          rcases (by omega : m = 16 ∨ m < 16) with rfl | m6
          · have HU := Lib.hid (fun (W : World) (S : SM W p g L) => used_ok S)
            have K := F.k
            have hkz : ∀ t, t < 16 → on t = true → sgK L t ≠ 0 := fun t ht ho => by
              rcases F.kind t ht with ⟨h1, -⟩ | ⟨-, h1⟩
              · rw [h1] at ho; cases ho
              · omega
            generalize usedN L (List.range 16) = cnt at *
            rcases HQ.out with ⟨rfl, hall⟩ | ⟨x, hx, rfl, hox, hall⟩
            · have HF := Lib.hid (first_ok F.s 0 3 (.inr ⟨rfl, rfl, fun t ht => hkz t ht (hall t ht)⟩))
              go_wp2_with fail
              refine Calls.mono HF.out ?_
              rintro e3 w3 ⟨rfl, k3⟩
              have S3 := F.s.chg0 k3
              replace K := K.trans k3 (by simp)
              go_wp2_with fail
              refine Calls.mono (HU.out _ S3) ?_
              rintro e4 w4 ⟨rfl, k4⟩
              replace K := K.trans k4 (by simp)
              clear k4
              go_wp2_with fail
              refine Calls.mono (awake_ok _) ?_
              rintro e5 w5 ⟨rfl, k5⟩
              replace K := K.trans k5 (by simp)
              go_wp2
              go_ret
              exact ⟨rfl, K⟩
            · have hk0 : sgK L x = 0 := by
                rcases F.kind x hx with ⟨-, h1⟩ | ⟨h1, -⟩
                · exact h1
                · rw [h1] at hox; cases hox
              have HF := Lib.hid (first_ok F.s x 0 (.inl ⟨x, hx, rfl, rfl, hk0, fun t ht => hkz t (by omega) (hall t ht)⟩))
              have hx0 : (0 : Int) ≤ x := by omega
              go_wp2_with fail
              refine Calls.mono HF.out ?_
              rintro e3 w3 ⟨rfl, k3⟩
              have S3 := F.s.chg0 k3
              replace K := K.trans k3 (by simp)
              go_wp2_with fail
              refine Calls.mono (HU.out _ S3) ?_
              rintro e4 w4 ⟨rfl, k4⟩
              replace K := K.trans k4 (by simp)
              clear k4
              go_wp2_with fail
              refine Calls.mono (awake_ok _) ?_
              rintro e5 w5 ⟨rfl, k5⟩
              replace K := K.trans k5 (by simp)
              go_wp2
              go_ret
              exact ⟨rfl, K⟩
          · have HG := get_ok F.s.m F.s.u 0 m (by decide) (by decide) (by omega) (by omega)
            rw [F.s.good m m6] at HG
            obtain ⟨r, t, l, e, a, hv⟩ := sg_form L m
            rw [hv] at HG
            have HG' := Lib.hid HG
            have hmi : (m : Int) < 16 := by omega
            have hkm := F.kind m m6
            have hsn : usedN L (List.range (m + 1)) = usedN L (List.range m) + if 1 < sgK L m then 1 else 0 := by rw [List.range_succ]; exact usedN_snoc L _ m
            have hle : usedN L (List.range m) ≤ 16 := by have := usedN_le L (List.range m); simp at this; omega
            have HSN := Lib.hid hsn
            obtain ⟨kk, hkk⟩ : ∃ kk, sgK L m = kk := ⟨_, rfl⟩
            rw [hkk] at hkm HG'
            have HKK := Lib.hid hkk
            obtain ⟨cnt, hcnt⟩ : ∃ cnt, usedN L (List.range m) = cnt := ⟨_, rfl⟩
            rw [hcnt] at hle ⊢
            have HCN := Lib.hid hcnt
            have hw1 : IntKind.i64.wrap ((cnt : Int) + 1) = (cnt : Int) + 1 := by rw [IntKind.wrap_i64]; omega
            clear HG hv hkk hsn hcnt
            go_wp2_with fail
            refine Calls.mono HG'.out ?_
            rintro e3 w3 ⟨rfl, k3⟩
            replace F := F.chg0 k3
            have C := Blk.new w3 70 (capC kk r t l e a)
            obtain ⟨c0, c1, c2, c3, c4, c5⟩ := blk6 C
            replace F := F.chg0 ((Chg.refl [] w3).alloc (.cells (capC kk r t l e a) 70))
            have o0 := F.cell m6
            clear k3 C HG'
            rcases hkm with ⟨hon, rfl⟩ | ⟨hon, rfl | rfl⟩
            · have hu : usedN L (List.range (m + 1)) = cnt := by rw [HSN.out, HCN.out, HKK.out]; rfl
              rw [hon] at o0
              rcases HQ.out with ⟨rfl, hall⟩ | ⟨x, hx, rfl, hox, hall⟩
              · have HQ2 : Hid (((m : Int) = -1 ∧ ∀ t, t < m + 1 → on t = true) ∨ (∃ x : Nat, x < m + 1 ∧ (m : Int) = x ∧ on x = false ∧ ∀ t, t < x → on t = true)) := .inr ⟨m, by omega, rfl, hon, hall⟩
                clear hall HQ hon
                go_wp2_with fail
                go_quiet (fail)
                replace F := F.chg0 ((Chg.refl [] _).drewN nq)
                go_wp2
                go_roundw
                case rel => exact ⟨m + 1, m, by go_num, by rw [hu], rfl, by omega, HQ2, F⟩
                case measure => simp [intOf]; omega
              · have HQ2 : Hid (((x : Int) = -1 ∧ ∀ t, t < m + 1 → on t = true) ∨ (∃ x' : Nat, x' < m + 1 ∧ (x : Int) = x' ∧ on x' = false ∧ ∀ t, t < x' → on t = true)) := .inr ⟨x, by omega, rfl, hox, hall⟩
                have hx0 : (0 : Int) ≤ x := by omega
                clear hall HQ hon hox
                go_wp2_with fail
                go_quiet (fail)
                replace F := F.chg0 ((Chg.refl [] _).drewN nq)
                go_wp2
                go_roundw
                case rel => exact ⟨m + 1, x, by go_num, by rw [hu], rfl, by omega, HQ2, F⟩
                case measure => simp [intOf]; omega
            · have hu : usedN L (List.range (m + 1)) = cnt := by rw [HSN.out, HCN.out, HKK.out]; rfl
              rw [hon] at o0
              have HQ2 : Hid ((q = -1 ∧ ∀ t, t < m + 1 → on t = true) ∨ (∃ x : Nat, x < m + 1 ∧ q = x ∧ on x = false ∧ ∀ t, t < x → on t = true)) := by
                rcases HQ.out with ⟨h1, h2⟩ | ⟨x, h1, h2⟩
                · refine .inl ⟨h1, fun t ht => ?_⟩
                  rcases Nat.lt_succ_iff_lt_or_eq.1 ht with h3 | rfl
                  · exact h2 t h3
                  · exact hon
                · exact .inr ⟨x, by omega, h2⟩
              clear HQ hon
              go_wp2_with fail
              go_quiet (fail)
              replace F := F.chg0 ((Chg.refl [] _).drewN nq)
              go_wp2
              go_roundw
              case rel => exact ⟨m + 1, q, by go_num, by rw [hu], rfl, by omega, HQ2, F⟩
              case measure => simp [intOf]; omega
            · have hu : usedN L (List.range (m + 1)) = cnt + 1 := by rw [HSN.out, HCN.out, HKK.out]; rfl
              rw [hon] at o0
              have HQ2 : Hid ((q = -1 ∧ ∀ t, t < m + 1 → on t = true) ∨ (∃ x : Nat, x < m + 1 ∧ q = x ∧ on x = false ∧ ∀ t, t < x → on t = true)) := by
                rcases HQ.out with ⟨h1, h2⟩ | ⟨x, h1, h2⟩
                · refine .inl ⟨h1, fun t ht => ?_⟩
                  rcases Nat.lt_succ_iff_lt_or_eq.1 ht with h3 | rfl
                  · exact h2 t h3
                  · exact hon
                · exact .inr ⟨x, by omega, h2⟩
              clear HQ hon
              go_wp2_with fail
              go_quiet (fail)
              replace F := F.chg0 ((Chg.refl [] _).drewN nq)
              go_wp2
              go_roundw
              case rel => exact ⟨m + 1, q, by go_num, by rw [hu]; simp, rfl, by omega, HQ2, F⟩
              case measure => simp [intOf]; omega
end Go.Proofs.Ytbjiecpkalcfeaa.SlotFirst
