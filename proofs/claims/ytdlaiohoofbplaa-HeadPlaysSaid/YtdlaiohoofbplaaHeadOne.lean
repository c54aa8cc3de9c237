/- HeadOne's walk. -/
import Derived.Test.YtdlaiohoofbplaaHeadPut
namespace Go.Proofs.Ytdlaiohoofbplaa.HeadOne
open Go Go.RowKit Go.Proofs.Ytdlaiohoofbplaa Go.Proofs.Ytdlaiohoofbplaa.Heap Go.Proofs.Ytdlaiohoofbplaa.Head Go.Proofs.Ytdlaiohoofbplaa.HeadPut Go.Proofs.Ytdlaiohoofbplaa.Mem Go.Proofs.Ytdlaiohoofbplaa.Two

theorem st_len {n : Nat} {L : List Int} (hl : L.length = 36 * n) (f a x : Int) : (stL n L f a x).length = 36 * n := by
  unfold stL
  split
  · simpa using hl
  · exact hl
theorem st_getD {n : Nat} {L : List Int} (f a x : Int) (j : Nat) : (stL n L f a x).getD j 0 = L.getD j 0 ∨ (0 ≤ f ∧ f < n ∧ 0 ≤ a ∧ a < 36 ∧ j = f.toNat * 36 + a.toNat) := by
  unfold stL
  split
  · rename_i h
    by_cases e : j = f.toNat * 36 + a.toNat
    · exact .inr ⟨h.1, h.2.1, h.2.2.1, h.2.2.2, e⟩
    · left
      rw [List.getD_eq_getElem?_getD, List.getElem?_set_ne (fun q => e q.symm), ← List.getD_eq_getElem?_getD]
  · exact .inl rfl
/-- Where a head that is put turns a word. -/
theorem put_where {n : Nat} {L : List Int} {f k l t : Int} {z : Bool} {g i : Nat} (hi : i < 36) (h : ¬ (frL (hputL n L f k l z t) g).getD i 0 = (frL L g).getD i 0) : hputE n f k l z t = 0 ∧ (g : Int) = f ∧ i < 4 := by
  rw [frL_get hi, frL_get hi] at h
  unfold hputL at h
  unfold hputE
  cases hR : rightH k l z t
  · rw [hR] at h
    exact absurd rfl h
  · rw [hR, if_pos rfl] at h
    rw [if_pos rfl]
    unfold putL at h
    have key : 0 ≤ f ∧ f < n ∧ (g : Int) = f ∧ i < 4 := by
      rcases st_getD (n := n) (L := stL n (stL n (stL n L f 0 (wordH k l z)) f 1 t) f 2 0) f 3 0 (g * 36 + i) with e | ⟨a, b, _, _, e⟩
      · rw [e] at h
        rcases st_getD (n := n) (L := stL n (stL n L f 0 (wordH k l z)) f 1 t) f 2 0 (g * 36 + i) with e | ⟨a, b, _, _, e⟩
        · rw [e] at h
          rcases st_getD (n := n) (L := stL n L f 0 (wordH k l z)) f 1 t (g * 36 + i) with e | ⟨a, b, _, _, e⟩
          · rw [e] at h
            rcases st_getD (n := n) (L := L) f 0 (wordH k l z) (g * 36 + i) with e | ⟨a, b, _, _, e⟩
            · exact absurd e h
            · exact ⟨a, b, by omega, by omega⟩
          · exact ⟨a, b, by omega, by omega⟩
        · exact ⟨a, b, by omega, by omega⟩
      · exact ⟨a, b, by omega, by omega⟩
    exact ⟨if_pos ⟨key.1, key.2.1⟩, key.2.2⟩

theorem laid3 (A : Option Addr) (m c : Nat) (xs : List Int) (w : World) (hx : Nums w .u64 A m xs) (hu : U64 xs) :
    Calls Try.prog 14 #[.int .i64 3, .slice A m c] w fun e w' => ∃ p r B g v bs L, e = .returned (.tuple #[.pointer (some ⟨p, 0, none⟩), .pointer (some ⟨r, 0, none⟩)]) ∧ Both w w' p r 3 B g v bs L := laid_ok 3 (by decide) (by decide) A m c xs w hx hu
set_option maxRecDepth 100000 in
set_option maxHeartbeats 1000000 in
theorem check_ok (k l : Int) (z : Bool) (t : Int) (w : World) : Calls Try.prog 19 #[headV k l z t] w fun e w' => e = .returned (.int .i64 (errH (rightH k l z t))) ∧ Chg [] w w' := by
  have HR := right_ok k l z t
  generalize rightH k l z t = R at *
  have B := Blk.new w 24 (headC k l z t)
  have K := (Chg.refl [] w).alloc (.cells (headC k l z t) 24)
  cases R
  all_goals
    go_enter Try.func19, Try.ntmps19
    obtain ⟨c0, c1, c2, c3⟩ := blk4 B
    go_wp2_with (go_at_call 71; refine Calls.mono (HR _) ?_; rintro e w1 ⟨rfl, k1⟩; replace K := K.trans k1 (by simp))
    go_ret
    exact ⟨rfl, K⟩
set_option maxRecDepth 100000 in
set_option maxHeartbeats 1000000 in
theorem awake_ok (w : World) : Calls Try.prog 17 #[] w fun e w' => e = .returned (.bool true) ∧ Chg [] w w' := by
  have H1 := Lib.hid (check_ok 99 0 false 0)
  have H2 := Lib.hid (check_ok 0 0 false 0)
  have K := Chg.refl [] w
  go_enter Try.func17, Try.ntmps17
  go_wp2_with fail
  refine Calls.mono (H1.out _) ?_
  rintro e w1 ⟨rfl, k1⟩
  replace K := K.trans k1 (by simp)
  go_wp2_with fail
  refine Calls.mono (H2.out _) ?_
  rintro e w2 ⟨rfl, k2⟩
  replace K := K.trans k2 (by simp)
  go_wp2
  go_ret
  exact ⟨rfl, K⟩

set_option maxRecDepth 100000 in
set_option maxHeartbeats 4000000 in
theorem headOne_walk (A : Option Addr) (n c : Nat) (xs : List Int) (f k l : Int) (z : Bool) (t : Int) (w : World) (hx : Nums w .u64 A n xs) (hu : U64 xs) :
    Calls Try.prog 3 #[.slice A n c, .int .i64 f, headV k l z t] w fun e w' => e = .returned (.bool true) ∧ Chg [] w w' := by
  have HX := Lib.hid (hx.chg ((Chg.refl [] w).alloc (.cells (headC k l z t) 24)) (fun _ _ => by simp))
  have HU := Lib.hid hu
  clear hx hu
  have B := Blk.new w 24 (headC k l z t)
  have K := (Chg.refl [] w).alloc (.cells (headC k l z t) 24)
  have hsz := K.size
  obtain ⟨b, eb⟩ : ∃ b, w.heap.size = b := ⟨_, rfl⟩
  rw [eb] at B
  have PW := Lib.hid (fun (L : List Int) (g i : Nat) (hi : i < 36) => put_where (n := 3) (L := L) (f := f) (k := k) (l := l) (z := z) (t := t) (g := g) hi)
  go_enter Try.func3, Try.ntmps3
  go_wp2_with fail
  refine Calls.mono (laid3 A n c xs _ HX.out HU.out) ?_
  rintro e w1 ⟨p, r, B0, g, v, bs, L, rfl, T⟩
  replace B := B.chg T.k (by simp)
  replace K := K.trans T.k (by simp)
  have fg := T.fg
  have hl := Lib.hid T.m.len
  obtain ⟨q, cap, b0, rfl, -, -⟩ := T.r.at_ (k := 0) (by decide)
  obtain ⟨c0, c1, c2, c3⟩ := blk4 B
  go_wp2_with fail
  refine Calls.mono (HeadPut.put_ok T.m f k l z t) ?_
  rintro e w2 ⟨rfl, m, kk⟩
  have rr := ref_keep T.m T.r kk
  replace K := K.trans kk (S' := [g]) (by intro s hs; right; simp at hs fg; omega)
  clear kk T B c0 c1 c2 c3
  have PL := Lib.hid (PW.out L)
  have hml := Lib.hid m.len
  clear PW
  generalize hputE 3 f k l z t = E at *
  generalize hputL 3 L f k l z t = M at *
  go_wp2_with fail
  go_loopw [10] (fun i wr => ∃ gg : Nat, i = .int .i64 gg ∧ gg ≤ 3 ∧ MemAt wr p g 3 M ∧ Ref02.RM wr B0 r (.slice (some ⟨q, 0, none⟩) 3 cap) 3 bs L ∧ Chg [] w wr) (fun i _ => 3 - (intOf i).toNat)
  case atStart => exact ⟨0, rfl, Nat.zero_le _, m, rr, K⟩
  case round =>
    clear m rr K
    obtain ⟨gg, rfl, hgg, m, rr, K⟩ := hrel
    by_cases hlt : gg < 3
    · go_wp2_with fail
      refine Calls.mono (words_in m gg hlt) ?_
      rintro e w3 ⟨bw, rfl, bb, hb, kk⟩
      replace K := K.trans kk (by simp)
      replace m := m.chg0 kk
      replace rr := rr.chg0 kk
      clear kk
      have c0 := rr.head
      obtain ⟨q1, cap1, b1, e1, e2, c1⟩ := rr.at_ hlt
      obtain ⟨rfl, rfl⟩ : q = q1 ∧ cap = cap1 := by simpa using e1
      have hfl := frL_len hml.out hlt
      have X : Hid (∀ j, j < 36 → w3.cell? ⟨bw, j, none⟩ = some (.int .u64 ((frL M gg).getD j 0))) := fun j hj => by rw [bb.cell, List.getElem?_toArray, nums_get _ _ _ (by omega)]
      have Y : Hid (∀ j, j < 36 → w3.cell? ⟨b1.1, j, none⟩ = some (.int .u64 ((frL L gg).getD j 0))) := fun j hj => by rw [rr.cell e2 hj, frL_get hj]
      clear e1 e2 hfl
      go_wp2_with fail
      go_loopw [13] (fun i wr => ∃ j : Nat, i = .int .i64 j ∧ j ≤ 36 ∧ ∃ y, wr = w3.drewN y) (fun i _ => 36 - (intOf i).toNat)
      case atStart => exact ⟨0, rfl, Nat.zero_le _, 0, rfl⟩
      case round =>
        obtain ⟨j, rfl, hj, y, rfl⟩ := hrel
        by_cases hj2 : j < 36
        · have d1 := X.out j hj2
          have d2 := Y.out j hj2
          have P := PL.out gg j hj2
          generalize (frL M gg).getD j 0 = x1 at *
          generalize (frL L gg).getD j 0 = x2 at *
          by_cases hxy : x1 = x2
          · subst hxy
            have hbx : (x1 != x1) = false := by simp
            clear P
            go_wp2_with fail
            go_quiet (fail)
            go_wp2
            go_roundw
            case rel => exact ⟨j + 1, by go_num, by omega, y + nq, rfl⟩
            case measure => simp [intOf]; omega
          · obtain ⟨rfl, rfl, hj4⟩ := P hxy
            have hbx : (x1 != x2) = true := by rw [bne_iff_ne]; exact hxy
            clear hxy P
            go_wp2_with fail
            go_quiet (fail)
            go_wp2
            go_roundw
            case rel => exact ⟨j + 1, by go_num, by omega, y + nq, rfl⟩
            case measure => simp [intOf]; omega
        · obtain rfl : j = 36 := by omega
          go_wp2
          go_roundw
          case rel => exact ⟨gg + 1, by go_num, by omega, m.drewN y, rr.drewN y, K.drewN y⟩
          case measure => simp [intOf]; omega
    · obtain rfl : gg = 3 := by omega
      go_wp2_with (go_at_call 17; refine Calls.mono (awake_ok _) ?_; rintro e w10 ⟨rfl, kk⟩; replace K := K.trans kk (by simp); clear kk)
      go_ret
      exact ⟨rfl, K⟩
end Go.Proofs.Ytdlaiohoofbplaa.HeadOne
