/- HeadBack's walk. -/
import Derived.Test.YtdlaiohoofbplaaHeadIs
import Derived.Test.YtdlaiohoofbplaaHeadOne
namespace Go.Proofs.Ytdlaiohoofbplaa.HeadBack
open Go Go.RowKit Go.Proofs.Ytdlaiohoofbplaa Go.Proofs.Ytdlaiohoofbplaa.Heap Go.Proofs.Ytdlaiohoofbplaa.Head Go.Proofs.Ytdlaiohoofbplaa.HeadPut Go.Proofs.Ytdlaiohoofbplaa.HeadGet Go.Proofs.Ytdlaiohoofbplaa.HeadIs Go.Proofs.Ytdlaiohoofbplaa.Mem Go.Proofs.Ytdlaiohoofbplaa.Two

theorem st_at {n : Nat} {L : List Int} (hl : L.length = 36 * n) {f a x : Int} (hv : 0 ≤ f ∧ f < n ∧ 0 ≤ a ∧ a < 36) (j : Nat) : (stL n L f a x).getD j 0 = if j = f.toNat * 36 + a.toNat then x else L.getD j 0 := by
  unfold stL
  rw [if_pos hv]
  by_cases e : j = f.toNat * 36 + a.toNat
  · subst e
    rw [if_pos rfl, List.getD_eq_getElem?_getD, List.getElem?_set_self (by omega)]
    rfl
  · rw [if_neg e, List.getD_eq_getElem?_getD, List.getElem?_set_ne (fun q => e q.symm), ← List.getD_eq_getElem?_getD]
/-- A frame's words behind a right head's being put. -/
theorem put_at {n : Nat} {L : List Int} (hl : L.length = 36 * n) {f k l t : Int} {z : Bool} (hv : 0 ≤ f ∧ f < n) (i : Nat) : (putL n L f k l z t).getD (f.toNat * 36 + i) 0 = if i = 0 then wordH k l z else if i = 1 then t else if i = 2 then 0 else if i = 3 then 0 else L.getD (f.toNat * 36 + i) 0 := by
  have l1 := HeadOne.st_len hl f 0 (wordH k l z)
  have l2 := HeadOne.st_len l1 f 1 t
  have l3 := HeadOne.st_len l2 f 2 0
  unfold putL
  rw [st_at l3 ⟨hv.1, hv.2, by decide, by decide⟩, st_at l2 ⟨hv.1, hv.2, by decide, by decide⟩, st_at l1 ⟨hv.1, hv.2, by decide, by decide⟩, st_at hl ⟨hv.1, hv.2, by decide, by decide⟩]
  have e0 : (f.toNat * 36 + i = f.toNat * 36 + (0 : Int).toNat) ↔ i = 0 := by simp
  have e1 : (f.toNat * 36 + i = f.toNat * 36 + (1 : Int).toNat) ↔ i = 1 := by simp
  have e2 : (f.toNat * 36 + i = f.toNat * 36 + (2 : Int).toNat) ↔ i = 2 := by simp
  have e3 : (f.toNat * 36 + i = f.toNat * 36 + (3 : Int).toNat) ↔ i = 3 := by simp
  simp only [e0, e1, e2, e3]
  by_cases h0 : i = 0
  · subst h0; simp
  · by_cases h1 : i = 1
    · subst h1; simp
    · by_cases h2 : i = 2
      · subst h2; simp
      · by_cases h3 : i = 3
        · subst h3; simp
        · simp [h0, h1, h2, h3]
theorem put_u64 {n : Nat} {L : List Int} (hu : U64 L) {f k l t : Int} {z : Bool} (h : rightH k l z t = true) : U64 (putL n L f k l z t) := by
  obtain ⟨a, b, c, d, e, g⟩ := right_bd h
  have hb := b2i_bd z
  unfold putL
  have hw : 0 ≤ wordH k l z ∧ wordH k l z < 64 := by unfold wordH; omega
  exact (((hu.st f 0 (by omega) (by omega)).st f 1 e (by omega)).st f 2 (by decide) (by decide)).st f 3 (by decide) (by decide)
/-- What is read behind a right head's being put. -/
theorem put_read {n : Nat} {L : List Int} (hl : L.length = 36 * n) {f k l t : Int} {z : Bool} (hv : 0 ≤ f ∧ f < n) (h : rightH k l z t = true) :
    ghK n (putL n L f k l z t) f = k ∧ ghL n (putL n L f k l z t) f = l ∧ ghZ n (putL n L f k l z t) f = z ∧ ghT n (putL n L f k l z t) f = t ∧ ghE n (putL n L f k l z t) f = 0 ∧ isE n (putL n L f k l z t) f k = 0 := by
  obtain ⟨a, b, c, d, e, g⟩ := right_bd h
  have hb := b2i_bd z
  have p0 : (putL n L f k l z t).getD (f.toNat * 36 + 0) 0 = wordH k l z := by rw [put_at hl hv, if_pos rfl]
  have p1 : (putL n L f k l z t).getD (f.toNat * 36 + 1) 0 = t := by rw [put_at hl hv]; rfl
  have p2 : (putL n L f k l z t).getD (f.toNat * 36 + 2) 0 = 0 := by rw [put_at hl hv]; rfl
  have p3 : (putL n L f k l z t).getD (f.toNat * 36 + 3) 0 = 0 := by rw [put_at hl hv]; rfl
  have w0 : wordH k l z % 16 = k := by unfold wordH; omega
  have w1 : wordH k l z / 16 % 2 = l := by unfold wordH; omega
  have w2 : (wordH k l z / 32 % 2 == 1) = z := by
    have : wordH k l z / 32 % 2 = b2i z := by unfold wordH; omega
    rw [this]
    cases z <;> rfl
  have hok : okH n (putL n L f k l z t) f = true := by
    unfold okH ofOk
    rw [p0, p1, p2, p3, decide_eq_true hv, w0, w1, w2, h, decide_eq_true (by unfold wordH; omega)]
    rfl
  have e1 : ghK n (putL n L f k l z t) f = k := by unfold ghK; rw [if_pos hok, p0, w0]
  exact ⟨e1, by unfold ghL; rw [if_pos hok, p0, w1], by unfold ghZ; rw [if_pos hok, p0, w2], by unfold ghT; rw [if_pos hok, p1], by unfold ghE; rw [if_pos hok], by unfold isE; rw [if_pos hok, if_pos e1]⟩
theorem hput_u64 {n : Nat} {L : List Int} (hu : U64 L) (f k l t : Int) (z : Bool) : U64 (hputL n L f k l z t) := by
  unfold hputL
  split
  · exact put_u64 hu (by assumption)
  · exact hu
theorem hmake_u64 {n : Nat} {L : List Int} (hu : U64 L) (f k l t : Int) (z : Bool) : U64 (hmakeL n L f k l z t) := by
  unfold hmakeL
  split
  · exact put_u64 (hu.cl f) (by assumption)
  · exact hu
theorem cl_len {n : Nat} {L : List Int} (hl : L.length = 36 * n) (f : Int) : (clL n L f).length = 36 * n := by
  unfold clL
  split
  · exact setF_len hl (by omega) List.length_replicate
  · exact hl
theorem make_rest {n : Nat} {L : List Int} (hl : L.length = 36 * n) {f k l t : Int} {z : Bool} (hv : 0 ≤ f ∧ f < n) {i : Nat} (h4 : 4 ≤ i) (hi : i < 36) : (frL (putL n (clL n L f) f k l z t) f.toNat).getD i 0 = 0 := by
  rw [frL_get hi, put_at (cl_len hl f) hv, if_neg (by omega), if_neg (by omega), if_neg (by omega), if_neg (by omega)]
  unfold clL
  rw [if_pos hv, setF_get hl (by omega) List.length_replicate, if_pos (by omega), List.getD_eq_getElem?_getD, List.getElem?_replicate]
  split <;> rfl

set_option maxRecDepth 100000 in
set_option maxHeartbeats 8000000 in
theorem headBack_walk (A : Option Addr) (n c : Nat) (xs : List Int) (f k l : Int) (z : Bool) (t : Int) (w : World) (hx : Nums w .u64 A n xs) (hu : U64 xs) :
    Calls Try.prog 4 #[.slice A n c, .int .i64 f, headV k l z t] w fun e w' => e = .returned (.bool true) ∧ Chg [] w w' := by
  have HX := Lib.hid (hx.chg ((Chg.refl [] w).alloc (.cells (headC k l z t) 24)) (fun _ _ => by simp))
  have HU := Lib.hid hu
  clear hx hu
  have B := Blk.new w 24 (headC k l z t)
  have K := (Chg.refl [] w).alloc (.cells (headC k l z t) 24)
  have hsz := K.size
  obtain ⟨b, eb⟩ : ∃ b, w.heap.size = b := ⟨_, rfl⟩
  rw [eb] at B
  have HCK := Lib.hid (HeadOne.check_ok k l z t)
  have way : rightH k l z t = false ∨ (rightH k l z t = true ∧ f < 0) ∨ (rightH k l z t = true ∧ 0 ≤ f ∧ 2 < f) ∨ (rightH k l z t = true ∧ 0 ≤ f ∧ f ≤ 2) := by
    cases h : rightH k l z t
    · exact .inl rfl
    · by_cases h1 : f < 0
      · exact .inr (.inl ⟨rfl, h1⟩)
      · by_cases h2 : 2 < f
        · exact .inr (.inr (.inl ⟨rfl, by omega, h2⟩))
        · exact .inr (.inr (.inr ⟨rfl, by omega, by omega⟩))
  go_enter Try.func4, Try.ntmps4
  go_wp2_with fail
  refine Calls.mono (HeadOne.laid3 A n c xs _ HX.out HU.out) ?_
  rintro e w1 ⟨p, r, B0, g, v, bs, L, rfl, T⟩
  replace B := B.chg T.k (by simp)
  replace K := K.trans T.k (by simp)
  have fg := T.fg
  have hl := Lib.hid T.m.len
  have uL := Lib.hid T.u
  have m := T.m
  have hgb : b ≠ g := Blk.ne_ B m.row (by decide)
  clear T
  obtain ⟨c0, c1, c2, c3⟩ := blk4 B
  go_wp2_with fail
  refine Calls.mono (HeadPut.put_ok m f k l z t) ?_
  rintro e w2 ⟨rfl, m2, kk⟩
  replace K := K.trans kk (S' := [g]) (by intro s hs; right; simp at hs fg; omega)
  replace B := B.chg kk (by simpa using hgb)
  clear kk m c0 c1 c2 c3
  have HG := get_ok m2 (hput_u64 uL.out f k l t z) f
  unfold ghV at HG
  rcases way with hR | ⟨hR, hf⟩ | ⟨hR, hf, hf2⟩ | ⟨hR, hf, hf2⟩
  · have hE : hputE 3 f k l z t = 1 := by unfold hputE; rw [hR]; rfl
    have HCK' := HCK.out
    rw [hR] at HCK'
    have HCK2 := Lib.hid HCK'
    generalize hputE 3 f k l z t = E at *
    subst hE
    generalize hputL 3 L f k l z t = M at *
    generalize ghK 3 M f = k2 at *
    generalize ghL 3 M f = l2 at *
    generalize ghZ 3 M f = z2 at *
    generalize ghT 3 M f = t2 at *
    generalize ghE 3 M f = e2 at *
    have HG' := Lib.hid HG
    clear HG HCK HCK' hR
    obtain ⟨c0, c1, c2, c3⟩ := blk4 B
    go_wp2_with fail
    refine Calls.mono HG'.out ?_
    rintro e w3 ⟨rfl, kk⟩
    replace K := (K.trans kk (by simp)).alloc (.cells (headC k2 l2 z2 t2) 24)
    replace B := (B.chg kk (by simp)).alloc (.cells (headC k2 l2 z2 t2) 24)
    clear kk c0 c1 c2 c3
    obtain ⟨c0, c1, c2, c3⟩ := blk4 B
    go_wp2_with fail
    refine Calls.mono (HCK2.out _) ?_
    rintro e w4 ⟨rfl, kk⟩
    replace K := K.trans kk (by simp)
    clear kk c0 c1 c2 c3
    go_wp2_with (go_at_call 17; refine Calls.mono (HeadOne.awake_ok _) ?_; rintro e w10 ⟨rfl, kk⟩; replace K := K.trans kk (by simp); clear kk)
    go_ret
    exact ⟨rfl, K⟩
  · have hE : hputE 3 f k l z t = 1 := by unfold hputE canF; rw [hR, if_pos rfl, if_neg (by omega)]
    have HCK' := HCK.out
    rw [hR] at HCK'
    have HCK2 := Lib.hid HCK'
    generalize hputE 3 f k l z t = E at *
    subst hE
    generalize hputL 3 L f k l z t = M at *
    generalize ghK 3 M f = k2 at *
    generalize ghL 3 M f = l2 at *
    generalize ghZ 3 M f = z2 at *
    generalize ghT 3 M f = t2 at *
    generalize ghE 3 M f = e2 at *
    have HG' := Lib.hid HG
    clear HG HCK HCK' hR
    obtain ⟨c0, c1, c2, c3⟩ := blk4 B
    go_wp2_with fail
    refine Calls.mono HG'.out ?_
    rintro e w3 ⟨rfl, kk⟩
    replace K := (K.trans kk (by simp)).alloc (.cells (headC k2 l2 z2 t2) 24)
    replace B := (B.chg kk (by simp)).alloc (.cells (headC k2 l2 z2 t2) 24)
    clear kk c0 c1 c2 c3
    obtain ⟨c0, c1, c2, c3⟩ := blk4 B
    go_wp2_with fail
    refine Calls.mono (HCK2.out _) ?_
    rintro e w4 ⟨rfl, kk⟩
    replace K := K.trans kk (by simp)
    clear kk c0 c1 c2 c3
    go_wp2_with (go_at_call 17; refine Calls.mono (HeadOne.awake_ok _) ?_; rintro e w10 ⟨rfl, kk⟩; replace K := K.trans kk (by simp); clear kk)
    go_ret
    exact ⟨rfl, K⟩
  · have hE : hputE 3 f k l z t = 1 := by unfold hputE canF; rw [hR, if_pos rfl, if_neg (by omega)]
    have HCK' := HCK.out
    rw [hR] at HCK'
    have HCK2 := Lib.hid HCK'
    generalize hputE 3 f k l z t = E at *
    subst hE
    generalize hputL 3 L f k l z t = M at *
    generalize ghK 3 M f = k2 at *
    generalize ghL 3 M f = l2 at *
    generalize ghZ 3 M f = z2 at *
    generalize ghT 3 M f = t2 at *
    generalize ghE 3 M f = e2 at *
    have HG' := Lib.hid HG
    clear HG HCK HCK' hR
    obtain ⟨c0, c1, c2, c3⟩ := blk4 B
    go_wp2_with fail
    refine Calls.mono HG'.out ?_
    rintro e w3 ⟨rfl, kk⟩
    replace K := (K.trans kk (by simp)).alloc (.cells (headC k2 l2 z2 t2) 24)
    replace B := (B.chg kk (by simp)).alloc (.cells (headC k2 l2 z2 t2) 24)
    clear kk c0 c1 c2 c3
    obtain ⟨c0, c1, c2, c3⟩ := blk4 B
    go_wp2_with fail
    refine Calls.mono (HCK2.out _) ?_
    rintro e w4 ⟨rfl, kk⟩
    replace K := K.trans kk (by simp)
    clear kk c0 c1 c2 c3
    go_wp2_with (go_at_call 17; refine Calls.mono (HeadOne.awake_ok _) ?_; rintro e w10 ⟨rfl, kk⟩; replace K := K.trans kk (by simp); clear kk)
    go_ret
    exact ⟨rfl, K⟩
  · have hv : 0 ≤ f ∧ f < (3 : Nat) := by omega
    have hE : hputE 3 f k l z t = 0 := by unfold hputE canF; rw [hR, if_pos rfl, if_pos hv]
    have hM : hputL 3 L f k l z t = putL 3 L f k l z t := by unfold hputL; rw [hR, if_pos rfl]
    rw [hM] at HG m2
    obtain ⟨r1, r2, r3, r4, r5, -⟩ := put_read (n := 3) hl.out hv hR
    rw [r1, r2, r3, r4, r5] at HG
    have lM : (putL 3 L f k l z t).length = 36 * 3 := m2.len
    have uM : U64 (putL 3 L f k l z t) := put_u64 uL.out hR
    generalize hMM : putL 3 L f k l z t = M at *
    have HMK := fun (W : World) (q : MemAt W p g 3 M) => make_ok q f k l z t
    have hM2 : hmakeL 3 M f k l z t = putL 3 (clL 3 M f) f k l z t := by unfold hmakeL; rw [hR, if_pos rfl]
    rw [hM2, hE] at HMK
    have rest := fun (i : Nat) (h4 : 4 ≤ i) (hi : i < 36) => make_rest (n := 3) lM (k := k) (l := l) (z := z) (t := t) hv h4 hi
    have q2 := put_read (n := 3) (cl_len lM f) hv hR
    have uM2 : U64 (putL 3 (clL 3 M f) f k l z t) := put_u64 (uM.cl f) hR
    generalize putL 3 (clL 3 M f) f k l z t = M2 at *
    obtain ⟨s1, s2, s3, s4, s5, s6⟩ := q2
    have HG2 := fun (W : World) (q : MemAt W p g 3 M2) => get_ok q uM2 f
    unfold ghV at HG2
    rw [s1, s2, s3, s4, s5] at HG2
    have HI2 := fun (W : World) (q : MemAt W p g 3 M2) => HeadIs.is_ok q uM2 f k
    rw [s6] at HI2
    have ek : (f.toNat : Int) = f := by omega
    have hw := fun (W : World) (q : MemAt W p g 3 M2) => words_in q f.toNat (by omega)
    simp only [ek] at hw
    have hfl := fun (W : World) (q : MemAt W p g 3 M2) => frL_len q.len (f := f.toNat) (by omega)
    have HG' := Lib.hid HG
    have HMK' := Lib.hid HMK
    have HG2' := Lib.hid HG2
    have HI2' := Lib.hid HI2
    have HW' := Lib.hid hw
    have HR' := Lib.hid rest
    have HF' := Lib.hid hfl
    rw [hE]
    clear HG HMK HG2 HI2 hw rest hfl r1 r2 r3 r4 r5 s1 s2 s3 s4 s5 s6 lM uM uM2 hMM hM hM2 hE HCK hR ek
    obtain ⟨c0, c1, c2, c3⟩ := blk4 B
    go_wp2_with fail
    refine Calls.mono HG'.out ?_
    rintro e w3 ⟨rfl, kk⟩
    obtain ⟨d, ed⟩ : ∃ d, w3.heap.size = d := ⟨_, rfl⟩
    have D := Blk.new' w3 24 (headC k l z t) ed
    replace K := (K.trans kk (by simp)).alloc (.cells (headC k l z t) 24)
    replace B := (B.chg kk (by simp)).alloc (.cells (headC k l z t) 24)
    replace m2 := (m2.chg0 kk).alloc (.cells (headC k l z t) 24)
    have hdg : d ≠ g := Blk.ne_ D m2.row (by decide)
    clear kk c0 c1 c2 c3
    obtain ⟨c0, c1, c2, c3⟩ := blk4 B
    go_wp2_with fail
    refine Calls.mono (HMK'.out _ m2) ?_
    rintro e w4 ⟨rfl, m3, kk⟩
    replace K := K.trans kk (S' := [g]) (by intro s hs; right; simp at hs fg; omega)
    replace B := B.chg kk (by simpa using hgb)
    replace D := D.chg kk (by simpa using hdg)
    clear kk c0 c1 c2 c3 m2
    go_wp2_with fail
    refine Calls.mono (HW'.out _ m3) ?_
    rintro e w5 ⟨bw, rfl, bb, hb, kk⟩
    replace K := K.trans kk (by simp)
    replace B := B.chg kk (by simp)
    replace D := D.chg kk (by simp)
    replace m3 := m3.chg0 kk
    clear kk
    have hlen := HF'.out _ m3
    have X : Hid (∀ j, 4 ≤ j → j < 36 → w5.cell? ⟨bw, j, none⟩ = some (.int .u64 0)) := fun j h4 hj => by rw [bb.cell, List.getElem?_toArray, nums_get _ _ _ (by omega), HR'.out j h4 hj]
    clear hlen bb
    go_wp2_with fail
    go_loop [15, 16] (fun nn i => nn = .int .i64 0 ∧ ∃ j : Nat, i = .int .i64 j ∧ 4 ≤ j ∧ j ≤ 36) (fun _ i => 36 - (intOf i).toNat)
    case atStart => exact ⟨rfl, 4, rfl, by decide, by decide⟩
    case round =>
      obtain ⟨rfl, j, rfl, hj4, hj⟩ := hrel
      by_cases hj2 : j < 36
      · have x := X.out j hj4 hj2
        go_wp2
        go_round
        case rel => exact ⟨rfl, j + 1, by go_num, by omega, by omega⟩
        case measure => simp [intOf]; omega
      · obtain rfl : j = 36 := by omega
        go_wp2_with fail
        refine Calls.mono (HG2'.out _ m3) ?_
        rintro e w6 ⟨rfl, kk⟩
        have F := Blk.new w6 24 (headC k l z t)
        replace K := (K.trans kk (by simp)).alloc (.cells (headC k l z t) 24)
        replace B := (B.chg kk (by simp)).alloc (.cells (headC k l z t) 24)
        replace D := (D.chg kk (by simp)).alloc (.cells (headC k l z t) 24)
        replace m3 := (m3.chg0 kk).alloc (.cells (headC k l z t) 24)
        clear kk
        obtain ⟨c0, c1, c2, c3⟩ := blk4 B
        obtain ⟨d0, d1, d2, d3⟩ := blk4 D
        obtain ⟨e0, e1, e2, e3⟩ := blk4 F
        go_wp2_with (first
          | (go_at_call 21; refine Calls.mono (HI2'.out _ m3) ?_; rintro e w7 ⟨rfl, kk⟩; replace K := K.trans kk (by simp); clear kk)
          | (go_at_call 17; refine Calls.mono (HeadOne.awake_ok _) ?_; rintro e w10 ⟨rfl, kk⟩; replace K := K.trans kk (by simp); clear kk))
        go_ret
        exact ⟨rfl, K⟩
end Go.Proofs.Ytdlaiohoofbplaa.HeadBack
