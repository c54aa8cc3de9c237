/- Get, Is, Make of package head. -/
import Derived.Test.YtknbeklplmhheaaHeadGet
namespace Go.Proofs.Ytknbeklplmhheaa.HeadIs
open Go Go.RowKit Go.Proofs.Ytknbeklplmhheaa Go.Proofs.Ytknbeklplmhheaa.Heap Go.Proofs.Ytknbeklplmhheaa.Head Go.Proofs.Ytknbeklplmhheaa.HeadPut Go.Proofs.Ytknbeklplmhheaa.HeadGet Go.Proofs.Ytknbeklplmhheaa.Mem Go.Proofs.Ytknbeklplmhheaa.Two

/-- Does a frame begin with a head? -/
def okH (n : Nat) (L : List Int) (f : Int) : Bool := decide (0 ≤ f ∧ f < n) && ofOk (L.getD (f.toNat * 36 + 0) 0) (L.getD (f.toNat * 36 + 1) 0) (L.getD (f.toNat * 36 + 2) 0) (L.getD (f.toNat * 36 + 3) 0)
def ghK (n : Nat) (L : List Int) (f : Int) : Int := if okH n L f then L.getD (f.toNat * 36 + 0) 0 % 16 else 0
def ghL (n : Nat) (L : List Int) (f : Int) : Int := if okH n L f then L.getD (f.toNat * 36 + 0) 0 / 16 % 2 else 0
def ghZ (n : Nat) (L : List Int) (f : Int) : Bool := if okH n L f then L.getD (f.toNat * 36 + 0) 0 / 32 % 2 == 1 else false
def ghT (n : Nat) (L : List Int) (f : Int) : Int := if okH n L f then L.getD (f.toNat * 36 + 1) 0 else 0
def ghE (n : Nat) (L : List Int) (f : Int) : Int := if okH n L f then 0 else if 0 ≤ f ∧ f < n then 12 else 1
abbrev ghV (n : Nat) (L : List Int) (f : Int) : Value := headV (ghK n L f) (ghL n L f) (ghZ n L f) (ghT n L f)
theorem ofV_form (x0 x1 x2 x3 : Int) : ∃ k l z t, ofV x0 x1 x2 x3 = headV k l z t := by
  unfold ofV
  split
  · exact ⟨_, _, _, _, rfl⟩
  · exact ⟨_, _, _, _, rfl⟩

set_option maxRecDepth 100000 in
set_option maxHeartbeats 4000000 in
theorem get_ok {w : World} {p g n : Nat} {L : List Int} (h : MemAt w p g n L) (hu : U64 L) (f : Int) : Calls Try.prog 108 #[.pointer (some ⟨p, 0, none⟩), .int .i64 f] w fun e w' => e = .returned (.tuple #[ghV n L f, .int .i64 (ghE n L f)]) ∧ Chg [] w w' := by
  obtain ⟨b, eb⟩ : ∃ b, w.heap.size = b := ⟨_, rfl⟩
  have B := Blk.new' w 102 zC eb
  have K := (Chg.refl [] w).alloc (.cells zC 102)
  have m := h.alloc (.cells zC 102)
  by_cases ho : 0 ≤ f ∧ f < n
  · have ek : (f.toNat : Int) = f := by omega
    have hw := Lib.hid (fun (W : World) (q : MemAt W p g n L) => words_in q f.toNat (by omega))
    simp only [ek] at hw
    have hf := frL_len h.len (f := f.toNat) (by omega)
    have u0 := hu.get (f.toNat * 36 + 0)
    have u1 := hu.get (f.toNat * 36 + 1)
    have HO := fun (W : World) (bw : Nat) (bb : Blk W bw 36 (nums .u64 (frL L f.toNat)).toArray) => of_ok (w := W) (q := bw) (x0 := L.getD (f.toNat * 36 + 0) 0) (x1 := L.getD (f.toNat * 36 + 1) 0) (x2 := L.getD (f.toNat * 36 + 2) 0) (x3 := L.getD (f.toNat * 36 + 3) 0) 36
      (by rw [bb.cell, List.getElem?_toArray, nums_get _ _ _ (by omega), frL_get (by decide)]) (by rw [bb.cell, List.getElem?_toArray, nums_get _ _ _ (by omega), frL_get (by decide)])
      (by rw [bb.cell, List.getElem?_toArray, nums_get _ _ _ (by omega), frL_get (by decide)]) (by rw [bb.cell, List.getElem?_toArray, nums_get _ _ _ (by omega), frL_get (by decide)]) u0.1 u0.2 u1.1 (Nat.le_refl _)
    have hok : okH n L f = ofOk (L.getD (f.toNat * 36 + 0) 0) (L.getD (f.toNat * 36 + 1) 0) (L.getD (f.toNat * 36 + 2) 0) (L.getD (f.toNat * 36 + 3) 0) := by unfold okH; rw [decide_eq_true ho]; rfl
    unfold ghV ghK ghL ghZ ghT ghE
    rw [hok]
    generalize L.getD (f.toNat * 36 + 0) 0 = x0 at *
    generalize L.getD (f.toNat * 36 + 1) 0 = x1 at *
    generalize L.getD (f.toNat * 36 + 2) 0 = x2 at *
    generalize L.getD (f.toNat * 36 + 3) 0 = x3 at *
    have hyes := fun q => ofOk_yes (x0 := x0) (x1 := x1) (x2 := x2) (x3 := x3) q
    obtain ⟨k, l, z, t, eV⟩ := ofV_form x0 x1 x2 x3
    have hval : ofOk x0 x1 x2 x3 = true → headV k l z t = headV (x0 % 16) (x0 / 16 % 2) (x0 / 32 % 2 == 1) x1 := fun q => by
      rw [← eV]
      obtain ⟨a, b', c, d, _⟩ := hyes q
      unfold ofV
      rw [if_pos ⟨a, b', c, d⟩]
    rw [eV] at HO
    generalize ofOk x0 x1 x2 x3 = R at *
    have HO' := Lib.hid HO
    clear HO hok u0 u1 hf h hyes eV
    cases R with
    | false =>
      simp only [Bool.false_eq_true, if_false, if_pos ho]
      clear hval ho
      go_enter Try.func108, Try.ntmps108
      go_wp2_with fail
      refine Calls.mono (hw.out _ m) ?_
      rintro e w1 ⟨bw, rfl, bb, hb, kk⟩
      replace B := B.chg kk (by simp)
      replace K := K.trans kk (by simp)
      clear kk
      go_wp2_with fail
      refine Calls.mono (HO'.out _ _ bb) ?_
      rintro e w2 ⟨rfl, kk⟩
      replace B := (B.chg kk (by simp)).alloc (.cells (headC k l z t) 102)
      replace K := (K.trans kk (by simp)).alloc (.cells (headC k l z t) 102)
      clear kk
      obtain ⟨e0, e1, e2, e3⟩ := blk4 B
      have f0 := B.frozen 0
      have f1 := B.frozen 1
      have f2 := B.frozen 2
      have f3 := B.frozen 3
      go_wp2
      have G := Blk.set_ (Blk.set_ (Blk.set_ (Blk.set_ B 0 (.int .i64 0)) 1 (.int .i64 0)) 2 (.bool false)) 3 (.int .i64 0)
      obtain ⟨q0, q1, q2, q3⟩ := blk4 (a := .int .i64 0) (b := .int .i64 0) (c := .bool false) (d := .int .i64 0) G
      refine ⟨rfl, .tuple #[headV 0 0 false 0, .int .i64 12], ?_, rfl, (((K.setCell (p := ⟨b, 0, none⟩) (.inr (by simp; omega)) _).setCell (p := ⟨b, 1, none⟩) (.inr (by simp; omega)) _).setCell (p := ⟨b, 2, none⟩) (.inr (by simp; omega)) _).setCell (p := ⟨b, 3, none⟩) (.inr (by simp; omega)) _⟩
      simp [results, go_sem, q0, q1, q2, q3]
    | true =>
      simp only [if_true]
      rw [← hval rfl]
      clear hval ho
      go_enter Try.func108, Try.ntmps108
      go_wp2_with fail
      refine Calls.mono (hw.out _ m) ?_
      rintro e w1 ⟨bw, rfl, bb, hb, kk⟩
      replace B := B.chg kk (by simp)
      replace K := K.trans kk (by simp)
      clear kk
      go_wp2_with fail
      refine Calls.mono (HO'.out _ _ bb) ?_
      rintro e w2 ⟨rfl, kk⟩
      have B3 := Blk.new w2 102 (headC k l z t)
      replace B := (B.chg kk (by simp)).alloc (.cells (headC k l z t) 102)
      replace K := (K.trans kk (by simp)).alloc (.cells (headC k l z t) 102)
      clear kk
      obtain ⟨c0, c1, c2, c3⟩ := blk4 B3
      obtain ⟨e0, e1, e2, e3⟩ := blk4 B
      have f0 := B.frozen 0
      have f1 := B.frozen 1
      have f2 := B.frozen 2
      have f3 := B.frozen 3
      go_wp2
      have G := Blk.set_ (Blk.set_ (Blk.set_ (Blk.set_ B 0 (.int .i64 k)) 1 (.int .i64 l)) 2 (.bool z)) 3 (.int .i64 t)
      obtain ⟨q0, q1, q2, q3⟩ := blk4 (a := .int .i64 k) (b := .int .i64 l) (c := .bool z) (d := .int .i64 t) G
      refine ⟨rfl, .tuple #[headV k l z t, .int .i64 0], ?_, rfl, (((K.setCell (p := ⟨b, 0, none⟩) (.inr (by simp; omega)) _).setCell (p := ⟨b, 1, none⟩) (.inr (by simp; omega)) _).setCell (p := ⟨b, 2, none⟩) (.inr (by simp; omega)) _).setCell (p := ⟨b, 3, none⟩) (.inr (by simp; omega)) _⟩
      simp [results, go_sem, q0, q1, q2, q3]
  · have hok : okH n L f = false := by unfold okH; rw [decide_eq_false ho]; rfl
    unfold ghV ghK ghL ghZ ghT ghE
    rw [hok]
    simp only [Bool.false_eq_true, if_false, if_neg ho]
    have hw := Mem.words_ok m f
    unfold wdsV canF at hw
    simp only [if_neg ho] at hw
    have HW := Lib.hid hw
    clear hw hok ho
    go_enter Try.func108, Try.ntmps108
    go_wp2_with fail
    refine Calls.mono HW.out ?_
    rintro e w1 ⟨bw, rfl, -, -, kk⟩
    replace B := B.chg kk (by simp)
    replace K := K.trans kk (by simp)
    clear kk
    obtain ⟨e0, e1, e2, e3⟩ := blk4 B
    have f0 := B.frozen 0
    have f1 := B.frozen 1
    have f2 := B.frozen 2
    have f3 := B.frozen 3
    go_wp2
    have G := Blk.set_ (Blk.set_ (Blk.set_ (Blk.set_ B 0 (.int .i64 0)) 1 (.int .i64 0)) 2 (.bool false)) 3 (.int .i64 0)
    obtain ⟨q0, q1, q2, q3⟩ := blk4 (a := .int .i64 0) (b := .int .i64 0) (c := .bool false) (d := .int .i64 0) G
    refine ⟨rfl, .tuple #[headV 0 0 false 0, .int .i64 1], ?_, rfl, (((K.setCell (p := ⟨b, 0, none⟩) (.inr (by simp; omega)) _).setCell (p := ⟨b, 1, none⟩) (.inr (by simp; omega)) _).setCell (p := ⟨b, 2, none⟩) (.inr (by simp; omega)) _).setCell (p := ⟨b, 3, none⟩) (.inr (by simp; omega)) _⟩
    simp [results, go_sem, q0, q1, q2, q3]

def isE (n : Nat) (L : List Int) (f k : Int) : Int := if okH n L f then (if ghK n L f = k then 0 else 4) else ghE n L f
theorem ghE_two (n : Nat) (L : List Int) (f : Int) : (okH n L f = true ∧ ghE n L f = 0) ∨ (okH n L f = false ∧ (ghE n L f = 12 ∨ ghE n L f = 1)) := by
  unfold ghE
  cases h : okH n L f
  · right
    refine ⟨rfl, ?_⟩
    simp only [Bool.false_eq_true, if_false]
    split
    · exact .inl rfl
    · exact .inr rfl
  · exact .inl ⟨rfl, rfl⟩
set_option maxRecDepth 100000 in
set_option maxHeartbeats 4000000 in
theorem is_ok {w : World} {p g n : Nat} {L : List Int} (h : MemAt w p g n L) (hu : U64 L) (f k : Int) : Calls Try.prog 79 #[.pointer (some ⟨p, 0, none⟩), .int .i64 f, .int .i64 k] w fun e w' => e = .returned (.int .i64 (isE n L f k)) ∧ Chg [] w w' := by
  have HG := get_ok h hu f
  unfold ghV at HG
  have K := Chg.refl [] w
  unfold isE
  have h2 := ghE_two n L f
  generalize ghK n L f = k0 at *
  generalize ghL n L f = l0 at *
  generalize ghZ n L f = z0 at *
  generalize ghT n L f = t0 at *
  generalize ghE n L f = E at *
  generalize okH n L f = R at *
  have HG' := Lib.hid HG
  clear HG h
  have way : (R = true ∧ E = 0 ∧ k0 = k) ∨ (R = true ∧ E = 0 ∧ (k0 != k) = true ∧ ¬ k0 = k) ∨ (R = false ∧ E = 12) ∨ (R = false ∧ E = 1) := by
    rcases h2 with ⟨a, b⟩ | ⟨a, b | b⟩
    · by_cases e : k0 = k
      · exact .inl ⟨a, b, e⟩
      · exact .inr (.inl ⟨a, b, by rw [bne_iff_ne]; exact e, e⟩)
    · exact .inr (.inr (.inl ⟨a, b⟩))
    · exact .inr (.inr (.inr ⟨a, b⟩))
  clear h2
  rcases way with ⟨rfl, rfl, rfl⟩ | ⟨rfl, rfl, hk, hk2⟩ | ⟨rfl, rfl⟩ | ⟨rfl, rfl⟩
  case' inl => rw [if_pos rfl, if_pos rfl]
  case' inr.inl => rw [if_pos rfl, if_neg hk2]; clear hk2
  case' inr.inr.inl => simp only [Bool.false_eq_true, if_false]
  case' inr.inr.inr => simp only [Bool.false_eq_true, if_false]
  all_goals
    go_enter Try.func79, Try.ntmps79
    go_wp2_with fail
    refine Calls.mono HG'.out ?_
    rintro e w1 ⟨rfl, kk⟩
    have B3 := Blk.new w1 102 (headC k0 l0 z0 t0)
    replace K := (K.trans kk (by simp)).alloc (.cells (headC k0 l0 z0 t0) 102)
    clear kk
    obtain ⟨c0, c1, c2, c3⟩ := blk4 B3
    go_wp2
    go_ret
    exact ⟨rfl, K⟩

set_option maxRecDepth 100000 in
set_option maxHeartbeats 1000000 in
theorem make1_ok {w : World} {b1 b2 b3 p : Nat} {f k l : Int} {z : Bool} {t E : Int} {Q : World → Prop} (a1 : w.cell? ⟨b1, 0, none⟩ = some (.pointer (some ⟨p, 0, none⟩))) (a2 : w.cell? ⟨b2, 0, none⟩ = some (.int .i64 f)) (A3 : Blk w b3 102 (headC k l z t))
    (HP : Calls Try.prog 97 #[.pointer (some ⟨p, 0, none⟩), .int .i64 f, headV k l z t] w fun e w' => e = .returned (.int .i64 E) ∧ Q w') : Calls Try.prog 96 #[.pointer (some ⟨b1, 0, none⟩), .pointer (some ⟨b2, 0, none⟩), .pointer (some ⟨b3, 0, none⟩)] w fun e w' => e = .returned (.int .i64 E) ∧ Q w' := by
  obtain ⟨c0, c1, c2, c3⟩ := blk4 A3
  have HP' := Lib.hid HP
  have HQ : Hid (∀ x, Q x → Q x) := fun _ q => q
  clear HP
  go_enter Try.func96, Try.ntmps96
  go_wp2_with (go_at_call 97; refine Calls.mono HP'.out ?_; rintro e w1 ⟨rfl, hq⟩)
  go_ret
  exact ⟨rfl, hq⟩
/-- The words behind a head's being made. -/
def hmakeL (n : Nat) (L : List Int) (f k l : Int) (z : Bool) (t : Int) : List Int := if rightH k l z t then putL n (clL n L f) f k l z t else L
theorem clL_no {n : Nat} {L : List Int} {f : Int} (h : ¬ (0 ≤ f ∧ f < n)) : clL n L f = L := if_neg h
set_option maxRecDepth 100000 in
set_option maxHeartbeats 4000000 in
theorem make_ok {w : World} {p g n : Nat} {L : List Int} (h : MemAt w p g n L) (f k l : Int) (z : Bool) (t : Int) : Calls Try.prog 57 #[.pointer (some ⟨p, 0, none⟩), .int .i64 f, headV k l z t] w fun e w' => e = .returned (.int .i64 (hputE n f k l z t)) ∧ MemAt w' p g n (hmakeL n L f k l z t) ∧ Chg [g] w w' := by
  have HR := right_ok k l z t
  have HP := fun (W : World) (M : List Int) (q : MemAt W p g n M) => HeadPut.put_ok q f k l z t
  unfold hmakeL
  unfold hputE hputL at *
  generalize rightH k l z t = R at *
  obtain ⟨b, eb⟩ : ∃ b, w.heap.size = b := ⟨_, rfl⟩
  have O1 : Obj := .cells #[.pointer (some ⟨p, 0, none⟩)] 25
  have A1 := ((Blk.new' w 25 #[.pointer (some ⟨p, 0, none⟩)] eb).alloc (.cells #[.int .i64 f] 3)).alloc (.cells (headC k l z t) 102)
  have A2 := (Blk.new' (g := b + 1) (w.alloc (.cells #[.pointer (some ⟨p, 0, none⟩)] 25)) 3 #[.int .i64 f] (by simp; omega)).alloc (.cells (headC k l z t) 102)
  have A3 := Blk.new' (g := b + 2) ((w.alloc (.cells #[.pointer (some ⟨p, 0, none⟩)] 25)).alloc (.cells #[.int .i64 f] 3)) 102 (headC k l z t) (by simp; omega)
  have m := ((h.alloc (.cells #[.pointer (some ⟨p, 0, none⟩)] 25)).alloc (.cells #[.int .i64 f] 3)).alloc (.cells (headC k l z t) 102)
  have K := (((Chg.refl [g] w).alloc (.cells #[.pointer (some ⟨p, 0, none⟩)] 25)).alloc (.cells #[.int .i64 f] 3)).alloc (.cells (headC k l z t) 102)
  clear h O1
  have HR' := Lib.hid HR
  have HP' := Lib.hid HP
  clear HR HP
  cases R with
  | false =>
    obtain ⟨c0, c1, c2, c3⟩ := blk4 A3
    go_enter Try.func57, Try.ntmps57
    go_wp2_with (go_at_call 98; refine Calls.mono (HR'.out _) ?_; rintro e w1 ⟨rfl, k1⟩; replace K := K.trans k1 (by simp); replace m := m.chg0 k1)
    go_ret
    exact ⟨rfl, m, K⟩
  | true =>
    simp only [if_true]
    have HC := fun (W : World) (q : MemAt W p g n L) => Mem.clear_ok q f
    have way : (canF n f = 0) ∨ (canF n f = 1 ∧ ∀ M, putL n M f k l z t = M) := by
      rcases canF_two n f with ⟨a, _⟩ | ⟨a, b'⟩
      · exact .inl a
      · exact .inr ⟨a, fun M => by unfold putL; rw [b', b', b', b']⟩
    have HP2 : Hid (∀ (W : World) (M : List Int), MemAt W p g n M → Calls Try.prog 97 #[.pointer (some ⟨p, 0, none⟩), .int .i64 f, headV k l z t] W fun e w' => e = .returned (.int .i64 (canF n f)) ∧ MemAt w' p g n (putL n M f k l z t) ∧ Chg [g] W w') := HP'.out
    clear HP'
    generalize canF n f = E at *
    generalize clL n L f = M at *
    have HC' := Lib.hid HC
    clear HC
    have n1 : b ≠ g := by have := Blk.ne_ A1 m.row (by decide); exact this
    have n2 : b + 1 ≠ g := by have := Blk.ne_ A2 m.row (by decide); exact this
    have n3 : b + 2 ≠ g := by have := Blk.ne_ A3 m.row (by decide); exact this
    rcases way with rfl | ⟨rfl, hno⟩
    · obtain ⟨c0, c1, c2, c3⟩ := blk4 A3
      go_enter Try.func57, Try.ntmps57
      go_wp2_with fail
      refine Calls.mono (HR'.out _) ?_
      rintro e w1 ⟨rfl, k1⟩
      replace K := K.trans k1 (by simp)
      replace m := m.chg0 k1
      replace A1 := A1.chg k1 (by simp)
      replace A2 := A2.chg k1 (by simp)
      replace A3 := A3.chg k1 (by simp)
      clear k1 c0 c1 c2 c3
      have a1 : w1.cell? ⟨b, 0, none⟩ = some (.pointer (some ⟨p, 0, none⟩)) := A1.cell 0
      have a2 : w1.cell? ⟨b + 1, 0, none⟩ = some (.int .i64 f) := A2.cell 0
      go_wp2_with fail
      refine Calls.mono (HC'.out _ m) ?_
      rintro e w2 ⟨rfl, m2, k2⟩
      replace K := K.trans k2 (by simp)
      replace A1 := A1.chg k2 (by simpa using n1)
      replace A2 := A2.chg k2 (by simpa using n2)
      replace A3 := A3.chg k2 (by simpa using n3)
      clear k2 a1 a2
      have a1 : w2.cell? ⟨b, 0, none⟩ = some (.pointer (some ⟨p, 0, none⟩)) := A1.cell 0
      have a2 : w2.cell? ⟨b + 1, 0, none⟩ = some (.int .i64 f) := A2.cell 0
      have HM := Lib.hid (make1_ok a1 a2 A3 (HP2.out _ _ m2))
      clear a1 a2
      go_wp2_with (go_at_call 96; refine Calls.mono HM.out ?_; rintro e w3 ⟨rfl, m3, k3⟩; replace K := K.trans k3 (by simp))
      go_ret
      exact ⟨rfl, m3, K⟩
    · obtain ⟨c0, c1, c2, c3⟩ := blk4 A3
      have HN := Lib.hid hno
      clear hno
      go_enter Try.func57, Try.ntmps57
      go_wp2_with fail
      refine Calls.mono (HR'.out _) ?_
      rintro e w1 ⟨rfl, k1⟩
      replace K := K.trans k1 (by simp)
      replace m := m.chg0 k1
      replace A1 := A1.chg k1 (by simp)
      replace A2 := A2.chg k1 (by simp)
      clear k1 c0 c1 c2 c3
      have a1 : w1.cell? ⟨b, 0, none⟩ = some (.pointer (some ⟨p, 0, none⟩)) := A1.cell 0
      have a2 : w1.cell? ⟨b + 1, 0, none⟩ = some (.int .i64 f) := A2.cell 0
      go_wp2_with fail
      refine Calls.mono (HC'.out _ m) ?_
      rintro e w2 ⟨rfl, m2, k2⟩
      replace K := K.trans k2 (by simp)
      clear k2 a1 a2
      go_wp2
      go_ret
      exact ⟨rfl, by rw [HN.out]; exact m2, K⟩
end Go.Proofs.Ytknbeklplmhheaa.HeadIs
