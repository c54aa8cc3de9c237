/- MemClears' walk. -/
import Derived.Test.YtofdcnjgfohmcaaMemOne
import Derived.Test.YtofdcnjgfohmcaaWords02
namespace Go.Proofs.Ytofdcnjgfohmcaa.Mem
open Go Go.RowKit Go.Proofs.Ytofdcnjgfohmcaa.Heap Go.Proofs.Ytofdcnjgfohmcaa.Words02

abbrev slV (b : Nat) : Value := .slice (some ⟨b, 0, none⟩) 36 36
theorem one_new (w : World) (v : Value) (t : TypeId) : ∀ j u, [v][j]? = some u → (w.alloc (.cells #[v] t)).cell? ((⟨w.heap.size, 0, none⟩ : Addr).add j) = some u := by
  intro j u hu
  have hj : j = 0 := by
    have := (List.getElem?_eq_some_iff.1 hu).1
    simp at this
    exact this
  subst hj
  rw [add_plain, (Blk.new w t #[v]).cell]
  simpa using hu
/-- Words that were noted, a frame behind a frame. -/
def Olds (w : World) (B : Nat) (v : Value) (k : Nat) (L : List Int) : Prop := (∀ g, v.ownBlock = some g → B ≤ g) ∧ ∃ bs : List Nat, w.ownsRow 0 22 1 v k (bs.map slV) ∧ ∀ j b, bs[j]? = some b → Blk w b 23 (nums .u64 (frL L j)).toArray
theorem Olds.chg0 {w w' : World} {B : Nat} {v : Value} {k : Nat} {L : List Int} (h : Olds w B v k L) (hc : Chg [] w w') : Olds w' B v k L := by
  obtain ⟨h1, bs, h2, h3⟩ := h
  exact ⟨h1, bs, own_chg h2 hc (by simp), fun j b hb => (h3 j b hb).chg hc (by simp)⟩
theorem Olds.chg {w w' : World} {B g : Nat} {cs : Array Value} {v : Value} {k : Nat} {L : List Int} (h : Olds w B v k L) (hg : Blk w g 90 cs) (hc : Chg [g] w w') : Olds w' B v k L := by
  obtain ⟨h1, bs, h2, h3⟩ := h
  exact ⟨h1, bs, own_chg h2 hc (fun q hq => by have := own_ne h2 hg (by decide); rw [hq] at this; simpa using this), fun j b hb => (h3 j b hb).chg hc (by simpa using Blk.ne_ (h3 j b hb) hg (by decide))⟩
theorem Olds.at_ {w : World} {B : Nat} {v : Value} {n : Nat} {L : List Int} (h : Olds w B v n L) {k : Nat} (hk : k < n) : ∃ q cap b, v = .slice (some ⟨q, 0, none⟩) n cap ∧ w.cell? ⟨q, k, none⟩ = some (slV b) ∧ Blk w b 23 (nums .u64 (frL L k)).toArray := by
  obtain ⟨h1, bs, h2, h3⟩ := h
  obtain ⟨q, cap, rfl, -, -⟩ := h2.form (by omega)
  have hl := h2.1
  simp only [List.length_map, Nat.mul_one] at hl
  have hb : bs[k]? = some bs[k] := List.getElem?_eq_getElem (by omega)
  refine ⟨q, cap, bs[k], rfl, ?_, h3 k _ hb⟩
  rw [h2.cellAt k (by omega)]
  simp [hb]
theorem words_in {w : World} {p g n : Nat} {L : List Int} (h : MemAt w p g n L) (k : Nat) (hk : k < n) : Calls Try.prog 16 #[.pointer (some ⟨p, 0, none⟩), .int .i64 k] w fun e w' => ∃ b, e = .returned (.tuple #[slV b, .int .i64 0]) ∧ Blk w' b 23 (nums .u64 (frL L k)).toArray ∧ w.heap.size ≤ b ∧ Chg [] w w' := by
  have ho : (0 : Int) ≤ k ∧ (k : Int) < n := by omega
  refine (words_ok h k).mono ?_
  rintro e w' ⟨b, rfl, h1, h2, h3⟩
  exact ⟨b, by unfold wdsV canF; rw [if_pos ho, if_pos ho], h1 ho, h2, h3⟩
theorem nums_blk {w : World} {g : Nat} {t : TypeId} {L : List Int} (h : Blk w g t (nums .u64 L).toArray) (hl : L.length = 36) : Nums w .u64 (some ⟨g, 0, none⟩) 36 L := by
  have := Nums.of_blk (k := .u64) (o := 0) (xs := L) h (by omega) (fun j hj => by rw [Nat.zero_add, List.getElem?_toArray]; exact nums_get _ _ _ hj)
  rwa [hl] at this
theorem words_blk {w : World} {g h : Nat} {t u : TypeId} {L M : List Int} (hg : Blk w g t (nums .u64 L).toArray) (hh : Blk w h u (nums .u64 M).toArray) (hl : L.length = 36) (hm : M.length = 36) (he : L = M) :
    Calls Try.prog 18 #[slV g, slV h] w fun e w' => e = .returned (.bool true) ∧ Chg [] w w' := by
  refine (words_any _ _ _ _ _ _ _ _ w (nums_blk hg hl) (nums_blk hh hm)).mono ?_
  rintro e w' ⟨rfl, k, rfl⟩
  exact ⟨by rw [decide_eq_true he], (Chg.refl _ _).drewN k⟩
theorem list36 {a b : List Int} (ha : a.length = 36) (hb : b.length = 36) (h : ∀ j, j < 36 → a.getD j 0 = b.getD j 0) : a = b := by
  refine List.ext_getElem (by omega) fun j h1 h2 => ?_
  have := h j (by omega)
  simpa [List.getD_eq_getElem?_getD, List.getElem?_eq_getElem h1, List.getElem?_eq_getElem h2] using this
theorem rep_get (j : Nat) : (List.replicate 36 (0 : Int)).getD j 0 = 0 := by
  rw [List.getD_eq_getElem?_getD, List.getElem?_replicate]
  split <;> rfl
theorem clL_facts {n : Nat} {L : List Int} (hl : L.length = 36 * n) (f : Int) (k : Nat) (hk : k < n) : ((k : Int) ≠ f → frL (clL n L f) k = frL L k) ∧ ((k : Int) = f → ∀ j, j < 36 → (frL (clL n L f) k).getD j 0 = 0) := by
  unfold clL
  have hz : (List.replicate 36 (0 : Int)).length = 36 := List.length_replicate
  have hr := rep_get
  generalize List.replicate 36 (0 : Int) = Z at *
  constructor
  · intro h
    split
    · refine list36 (frL_len (setF_len hl (by omega) hz) hk) (frL_len hl hk) fun j hj => ?_
      rw [frL_get hj, frL_get hj, setF_get hl (by omega) hz, if_neg (by omega)]
    · rfl
  · rintro rfl j hj
    rw [if_pos (by omega), frL_get hj, setF_get hl (by omega) hz, if_pos (by omega), hr]

theorem info_row : (Try.prog.info? 22).map (fun i => (i.zero, i.size, i.bytes)) = some (some (.slice none 0 0), 1, 24) := by kernel_rfl
set_option maxHeartbeats 8000000 in
set_option maxRecDepth 100000 in
theorem memClears_walk (A : Option Addr) (n c : Nat) (xs : List Int) (f : Int) (w : World) (hx : Nums w .u64 A n xs) :
    Calls Try.prog 4 #[.slice A n c, .int .i64 f] w fun e w' => e = .returned (.bool true) ∧ Chg [] w w' := by
  have hn := hx.2.1
  have HX : Hid (Nums w .u64 A n xs) := hx
  clear hx
  obtain ⟨W, eW⟩ : ∃ W, w.heap.size = W := ⟨_, rfl⟩
  have HW : Hid (w.heap.size = W) := eW
  clear eW
  go_enter Try.func4, Try.ntmps4
  go_wp2_with fail
  refine Calls.mono (new8 _) ?_
  rintro e w1 ⟨p, g, L, rfl, m, hp, hg, K⟩
  go_wp2_with fail
  go_loopw [7] (fun i wr => ∃ k : Nat, ∃ L, k ≤ n ∧ i = .int .i64 k ∧ MemAt wr p g 8 L ∧ Chg [] w wr) (fun i _ => n - (intOf i).toNat)
  case atStart => exact ⟨0, L, Nat.zero_le _, rfl, m, K⟩
  case round =>
    clear m K w1 L
    obtain ⟨k, L, hk, rfl, m, K⟩ := hrel
    by_cases hlt : k < n ∧ k < 300
    · obtain ⟨hk1, hk2⟩ := hlt
      obtain ⟨ad, rfl, hc⟩ := HX.out.2.2 (by omega)
      have cell := (HX.out.chg K (fun _ _ => by simp)).cells hk1
      generalize xs.getD k 0 = y at cell
      clear hc
      go_wp2_with fail
      refine Calls.mono (store_ok m _ _ _) ?_
      rintro e w2 ⟨rfl, m2, kk⟩
      replace K := K.trans kk (by simp; omega)
      clear kk cell
      go_wp2
      go_roundw
      case rel => exact ⟨k + 1, _, by omega, by go_num, m2, K⟩
      case measure => simp [intOf]; omega
    · have hlt' : n ≤ k ∨ (k < n ∧ 300 ≤ k) := by omega
      clear hlt HX
      rcases hlt' with hlt | ⟨hlt, hlt2⟩
      all_goals
        go_wp2_with fail
        go_loopw [8, 9] (fun x i wr => ∃ (v : Value) (k : Nat), v = x ∧ k ≤ 8 ∧ i = .int .i64 k ∧ Olds wr W v k L ∧ MemAt wr p g 8 L ∧ Chg [] w wr) (fun _ i _ => 8 - (intOf i).toNat)
        case atStart => exact ⟨_, 0, rfl, Nat.zero_le _, rfl, ⟨fun _ h => by simp [Value.ownBlock] at h, [], World.ownsRow_nil _ _ _ _, fun j b hb => by simp at hb⟩, m, K⟩
        case round =>
          rename_i wr _
          clear m K
          obtain ⟨v, j, rfl, hj, rfl, O, m, K⟩ := hrel
          by_cases h8 : j < 8
          · go_wp2_with fail
            refine Calls.mono (words_in m j h8) ?_
            rintro e w2 ⟨b, rfl, bb, hb, kk⟩
            replace K := K.trans kk (by simp)
            replace m := m.chg0 kk
            replace O := O.chg0 kk
            obtain ⟨HB, bs, own, hbs⟩ := O
            have hbl : bs.length = j := by have := own.1; simpa using this
            have HO : Hid (w2.ownsRow 0 22 1 v j (bs.map slV)) := own
            have HH : Hid (∀ g, v.ownBlock = some g → W ≤ g) := HB
            have HS : Hid (∀ j b, bs[j]? = some b → Blk w2 b 23 (nums .u64 (frL L j)).toArray) := hbs
            have HL : Hid (bs.length = j) := hbl
            have hsz := kk.size
            have hsz0 := K.size
            clear own HB hbs hbl
            go_wp2_with (at_builtin; refine wpList_app rfl (.tmp 57) (.tmp 59) 33 rfl 22 (.slice none 0 0) 1 24 Try.underlying33 info_row rfl (by decide) (by decide) v j _ rfl (HO.out.alloc _) ⟨w2.heap.size, 0, none⟩ 1 1 [slV b] rfl rfl (one_new w2 _ _) (by simp [Value.oneCell']) (by decide) (by omega) ?_; intro q cap1 w3 o1 k1 hq1 lt1)
            have hne : ∀ x cs, Blk w2 x 23 cs → x ∉ v.ownBlock.toList := fun x cs hx hm => by
              have := own_ne HO.out hx (by decide)
              cases hv : v.ownBlock with
              | none => rw [hv] at hm; simp at hm
              | some y => rw [hv] at hm this; simp at hm this; exact this hm.symm
            have hne2 : ∀ x t cs, t ≠ 22 → Blk w2 x t cs → x ∉ v.ownBlock.toList := fun x t cs ht hx hm => by
              have := own_ne HO.out hx (Ne.symm ht)
              cases hv : v.ownBlock with
              | none => rw [hv] at hm; simp at hm
              | some y => rw [hv] at hm this; simp at hm this; exact this hm.symm
            go_wp2
            go_roundw
            case rel =>
              refine ⟨_, j + 1, rfl, by omega, by go_num, ⟨?_, bs ++ [b], by simpa using o1, ?_⟩, ((m.alloc _).chg k1 (hne2 _ _ _ (by decide) m.hd) (hne2 _ _ _ (by decide) m.row)), (K.alloc _).trans k1 ?_⟩
              · intro y hy
                have hy' : q = y := by simpa [Value.ownBlock] using hy
                subst hy'
                rcases hq1 with h1 | h1
                · exact HH.out _ h1
                · have := HW.out; simp at h1; omega
              · intro i x hix
                rcases Nat.lt_or_ge i j with hi | hi
                · rw [List.getElem?_append_left (by rw [HL.out]; exact hi)] at hix
                  have h1 := HS.out _ _ hix
                  exact (h1.alloc _).chg k1 (hne _ _ h1)
                · rw [List.getElem?_append_right (by rw [HL.out]; exact hi), HL.out] at hix
                  have h0 : i - j = 0 := by
                    have := (List.getElem?_eq_some_iff.1 hix).1
                    simp at this
                    omega
                  have hij : i = j := by omega
                  subst hij
                  rw [h0] at hix
                  have hx : b = x := by simpa using hix
                  subst hx
                  exact (bb.alloc _).chg k1 (hne _ _ bb)
              · intro y hy
                right
                cases hv : v.ownBlock with
                | none => rw [hv] at hy; simp at hy
                | some z => rw [hv] at hy; simp at hy; subst hy; rw [HW.out]; exact HH.out _ hv
            case measure => simp [intOf]; omega
          · obtain rfl : j = 8 := by omega
            clear h8 hj
            have facts := clL_facts m.len f
            go_wp2_with fail
            refine Calls.mono (clear_ok m f) ?_
            rintro e w2 ⟨rfl, m2, kk⟩
            replace K := K.trans kk (by simp; omega)
            replace O := O.chg m.row kk
            clear kk m
            generalize clL 8 L f = M at *
            have HF : Hid _ := facts
            have HlM : Hid (M.length = 36 * 8) := m2.len
            clear facts
            go_wp2_with fail
            go_loopw [13] (fun i wr => ∃ k : Nat, k ≤ 8 ∧ i = .int .i64 k ∧ Olds wr W v 8 L ∧ MemAt wr p g 8 M ∧ Chg [] w wr) (fun i _ => 8 - (intOf i).toNat)
            case atStart => exact ⟨0, Nat.zero_le _, rfl, O, m2, K⟩
            case round =>
              clear O m2 K
              obtain ⟨j, hj, rfl, O, m, K⟩ := hrel
              by_cases h8 : j < 8
              · obtain ⟨F1, F2⟩ := HF.out j h8
                have hl1 : (frL M j).length = 36 := frL_len HlM.out h8
                have HF1 : Hid _ := F1
                have HF2 : Hid _ := F2
                have Hl1 : Hid ((frL M j).length = 36) := hl1
                clear F1 F2 hl1
                have e1 := O.at_ h8
                obtain ⟨q0, cap0, _, ev, -, -⟩ := e1
                subst ev
                go_wp2_with fail
                refine Calls.mono (words_in m j h8) ?_
                rintro e w3 ⟨b, rfl, bb, hb, kk⟩
                replace K := K.trans kk (by simp)
                replace m := m.chg0 kk
                replace O := O.chg0 kk
                clear kk
                obtain ⟨q, cap, b0, ev, hcell, hblk⟩ := O.at_ h8
                obtain ⟨rfl, rfl⟩ : q0 = q ∧ cap0 = cap := by simpa using ev
                clear ev
                by_cases hjf : (j : Int) = f
                · subst hjf
                  go_wp2_with fail
                  go_loop [16] (fun i => ∃ t : Nat, t ≤ 36 ∧ i = .int .i64 t) (fun i => 36 - (intOf i).toNat)
                  case atStart => exact ⟨0, Nat.zero_le _, rfl⟩
                  case round =>
                    obtain ⟨t, ht, rfl⟩ := hrel
                    by_cases ht8 : t < 36
                    · have ct : w3.cell? ⟨b, t, none⟩ = some (.int .u64 0) := by
                        rw [bb.cell, List.getElem?_toArray, nums_get _ _ _ (by rw [Hl1.out]; exact ht8), HF2.out (by first | rfl | trivial) t ht8]
                      clear hcell
                      go_wp2
                      go_round
                      case rel => exact ⟨t + 1, by omega, by go_num⟩
                      case measure => simp [intOf]; omega
                    · obtain rfl : t = 36 := by omega
                      clear hcell
                      go_wp2
                      go_roundw
                      case rel => exact ⟨j + 1, by omega, by go_num, O, m, K⟩
                      case measure => simp [intOf]; omega
                · have h1 : ((j : Int) != f) = true := by simpa using hjf
                  have h2 : ((j : Int) == f) = false := by simpa using hjf
                  have he : frL M j = frL L j := HF1.out hjf
                  have hl2 : (frL L j).length = 36 := by rw [← he]; exact Hl1.out
                  have HC : Hid (Calls Try.prog 18 #[slV b, slV b0] w3 fun e w' => e = .returned (.bool true) ∧ Chg [] w3 w') := words_blk bb hblk Hl1.out hl2 he
                  clear he hl2 hjf
                  go_wp2_with (go_at_call 18; refine Calls.mono HC.out ?_; rintro e w4 ⟨rfl, kk⟩; replace K := K.trans kk (by simp); replace m := m.chg0 kk; replace O := O.chg0 kk; clear kk)
                  go_loop [16] (fun i => ∃ t : Nat, t ≤ 36 ∧ i = .int .i64 t) (fun i => 36 - (intOf i).toNat)
                  case atStart => exact ⟨0, Nat.zero_le _, rfl⟩
                  case round =>
                    obtain ⟨t, ht, rfl⟩ := hrel
                    clear hcell
                    by_cases ht8 : t < 36
                    · go_wp2
                      go_round
                      case rel => exact ⟨t + 1, by omega, by go_num⟩
                      case measure => simp [intOf]; omega
                    · obtain rfl : t = 36 := by omega
                      go_wp2
                      go_roundw
                      case rel => exact ⟨j + 1, by omega, by go_num, O, m, K⟩
                      case measure => simp [intOf]; omega
              · have hf3 : (f < 0 ∧ canF 8 f = 1) ∨ (0 ≤ f ∧ f < 8 ∧ canF 8 f = 0) ∨ (0 ≤ f ∧ decide (f < 8) = false ∧ canF 8 f = 1) := by
                  unfold canF
                  by_cases h1 : f < 0
                  · exact .inl ⟨h1, by rw [if_neg (by omega)]⟩
                  · by_cases h2 : f < 8
                    · exact .inr (.inl ⟨by omega, h2, by rw [if_pos (by omega)]⟩)
                    · exact .inr (.inr ⟨by omega, by simpa using h2, by rw [if_neg (by omega)]⟩)
                generalize canF 8 f = cf at *
                clear HF HlM m O
                rcases hf3 with ⟨h1, rfl⟩ | ⟨h1, h2, rfl⟩ | ⟨h1, h2, rfl⟩
                all_goals
                  go_wp2_with (go_at_call 15; refine Calls.mono (awake_ok _) ?_; rintro e w7 ⟨rfl, kk⟩; replace K := K.trans kk (by simp); clear kk)
                  go_ret
                  exact ⟨rfl, K⟩
end Go.Proofs.Ytofdcnjgfohmcaa.Mem
