/- Get of package call. -/
import Derived.Test.YtdconfciacldmaaCallW
namespace Go.Proofs.Ytdconfciacldmaa.CallGet
open Go Go.RowKit Go.Proofs.Ytdconfciacldmaa Go.Proofs.Ytdconfciacldmaa.Heap Go.Proofs.Ytdconfciacldmaa.Bits Go.Proofs.Ytdconfciacldmaa.Field Go.Proofs.Ytdconfciacldmaa.Places Go.Proofs.Ytdconfciacldmaa.Parts Go.Proofs.Ytdconfciacldmaa.Unpack Go.Proofs.Ytdconfciacldmaa.Call Go.Proofs.Ytdconfciacldmaa.CallRight Go.Proofs.Ytdconfciacldmaa.CallW

/-- Is a word a call's? -/
def getKok (u : Int) : Bool := rightC (u % 256) (u / 256 % 256) (u / 65536 % 65536) (u / 4294967296 % 65536) (u / 281474976710656 % 256) (u / 72057594037927936 % 256)
def getKV (u : Int) : Value := if getKok u then callV (u % 256) (u / 256 % 256) (u / 65536 % 65536) (u / 4294967296 % 65536) (u / 281474976710656 % 256) (u / 72057594037927936 % 256) else callV 0 0 0 0 0 0
def getKE (u : Int) : Int := if getKok u then 0 else 12
/-- The call that Get fills, after j rounds. -/
abbrev rowG (n a0 a1 a2 a3 a4 : Int) (j : Nat) : Array Value := #[.int .i64 n, .int .i64 (if 0 < j then a0 else 0), .int .i64 (if 1 < j then a1 else 0), .int .i64 (if 2 < j then a2 else 0), .int .i64 (if 3 < j then a3 else 0), .int .i64 (if 4 < j then a4 else 0)]
set_option maxRecDepth 100000 in
set_option maxHeartbeats 4000000 in
theorem getK_ok (u : Int) (w : World) (h0 : 0 ≤ u) (h1 : u < 18446744073709551616) : Calls Try.prog 6 #[.int .u64 u] w fun e' w' => e' = .returned (.tuple #[getKV u, .int .i64 (getKE u)]) ∧ Chg [] w w' := by
  obtain ⟨b, eb⟩ : ∃ b, w.heap.size = b := ⟨_, rfl⟩
  have B := Blk.new' w 24 (callC 0 0 0 0 0 0) eb
  have K := (Chg.refl [] w).alloc (.cells (callC 0 0 0 0 0 0) 24)
  obtain ⟨hok, hparts⟩ := unp6 h0 h1
  have hU := fun A c W hn => Unpack.unpack_ok A 6 c W6 u W hn h0 h1
  obtain ⟨r1, r2⟩ : unpL W6 u = partsL W6 u W6.length ∧ unpE W6 u = 0 := ⟨if_pos hok, if_pos hok⟩
  rw [show W6.length = 6 from rfl, hparts] at r1
  unfold getKV getKE getKok
  have z0 : 0 ≤ u % 256 ∧ u % 256 < 256 := by omega
  have z1 : 0 ≤ u / 256 % 256 ∧ u / 256 % 256 < 256 := by omega
  have z2 : 0 ≤ u / 65536 % 65536 ∧ u / 65536 % 65536 < 65536 := by omega
  have z3 : 0 ≤ u / 4294967296 % 65536 ∧ u / 4294967296 % 65536 < 65536 := by omega
  have z4 : 0 ≤ u / 281474976710656 % 256 ∧ u / 281474976710656 % 256 < 256 := by omega
  have z5 : 0 ≤ u / 72057594037927936 % 256 ∧ u / 72057594037927936 % 256 < 256 := by omega
  generalize u / 72057594037927936 % 256 = y5 at *
  generalize u / 281474976710656 % 256 = y4 at *
  generalize u / 4294967296 % 65536 = y3 at *
  generalize u / 65536 % 65536 = y2 at *
  generalize u / 256 % 256 = y1 at *
  generalize u % 256 = y0 at *
  have HUN : Hid (∀ A c W, Nums W .i64 A 6 W6 → Calls Try.prog 22 #[.slice A 6 c, .int .u64 u] W fun e w' => ∃ v, e = .returned (.tuple #[v, .int .i64 0]) ∧ w'.ownsRow 0 25 1 v 6 (nums .u64 [y0, y1, y2, y3, y4, y5]) ∧ (∀ g, v.ownBlock = some g → W.heap.size ≤ g) ∧ Chg [] W w') := fun A c W hn => by
    have := hU A c W hn
    rw [r1, r2] at this
    exact this
  have HR := fun w => right_ok y0 y1 y2 y3 y4 y5 w (by omega) (by omega) (by omega) (by omega) (by omega)
  generalize rightC y0 y1 y2 y3 y4 y5 = R at *
  have HR' := Lib.hid HR
  clear HR hU r1 r2 hok hparts
  have v0 : IntKind.i64.wrap y0 = y0 := by rw [IntKind.wrap_i64]; omega
  have v1 : IntKind.i64.wrap y1 = y1 := by rw [IntKind.wrap_i64]; omega
  have v2 : IntKind.i64.wrap y2 = y2 := by rw [IntKind.wrap_i64]; omega
  have v3 : IntKind.i64.wrap y3 = y3 := by rw [IntKind.wrap_i64]; omega
  have v4 : IntKind.i64.wrap y4 = y4 := by rw [IntKind.wrap_i64]; omega
  have v5 : IntKind.i64.wrap y5 = y5 := by rw [IntKind.wrap_i64]; omega
  clear z0 z1 z2 z3 z4 z5 h0 h1
  go_enter Try.func6, Try.ntmps6
  go_wp2_with fail
  refine Calls.mono (widths_ok _) ?_
  rintro e' w1 ⟨rfl, k1⟩
  replace B := B.chg k1 (by simp)
  replace K := K.trans k1 (by simp)
  have hN := nums6 (Blk.new w1 45 w6C)
  go_wp2_with fail
  refine Calls.mono (HUN.out _ _ _ hN) ?_
  rintro e' w2 ⟨v, rfl, o1, q1, k2⟩
  replace B := (B.alloc (.cells w6C 45)).chg k2 (by simp)
  replace K := (K.alloc (.cells w6C 45)).trans k2 (by simp)
  obtain ⟨q, cap, rfl, -, hlq⟩ := o1.form (by decide)
  have d0 : w2.cell? ⟨q, 0, none⟩ = some (.int .u64 y0) := o1.cellAt 0 (by decide)
  have hqlt : q < w2.heap.size := own_lt o1 rfl
  have hbw : b < w2.heap.size := B.lt
  clear k1 k2 hN HUN q1
  go_wp2_with fail
  obtain ⟨x, ex⟩ : ∃ x, w2.heap.size = x := ⟨_, rfl⟩
  have A : Blk (w2.alloc (.cells #[.int .i64 y0, .int .i64 0, .int .i64 0, .int .i64 0, .int .i64 0, .int .i64 0] 24)) x 24 (rowG y0 y1 y2 y3 y4 y5 0) := Blk.new' w2 24 #[.int .i64 y0, .int .i64 0, .int .i64 0, .int .i64 0, .int .i64 0, .int .i64 0] ex
  replace B := B.alloc (.cells #[.int .i64 y0, .int .i64 0, .int .i64 0, .int .i64 0, .int .i64 0, .int .i64 0] 24)
  replace K := K.alloc (.cells #[.int .i64 y0, .int .i64 0, .int .i64 0, .int .i64 0, .int .i64 0, .int .i64 0] 24)
  have kz : Chg [] w2 (w2.alloc (.cells #[.int .i64 y0, .int .i64 0, .int .i64 0, .int .i64 0, .int .i64 0, .int .i64 0] 24)) := (Chg.refl [] w2).alloc _
  replace o1 := own_chg o1 kz (fun _ _ => by simp)
  rw [ex] at hqlt hbw
  have hwx : w.heap.size ≤ x := by omega
  obtain ⟨W3, hW⟩ : ∃ W3, w2.alloc (.cells #[.int .i64 y0, .int .i64 0, .int .i64 0, .int .i64 0, .int .i64 0, .int .i64 0] 24) = W3 := ⟨_, rfl⟩
  rw [hW] at A B K o1 ⊢
  try rw [ex]
  clear hW ex d0 hlq kz
  have k0 : Chg [x] W3 W3 := Chg.refl _ _
  have hxS : ∀ y, y ∈ [x] → y ∈ ([] : List Nat) ∨ w.heap.size ≤ y := fun y hy => by simp at hy; subst hy; exact .inr hwx
  have hqS : ∀ g, (Value.slice (some ⟨q, 0, none⟩) 6 cap).ownBlock = some g → g ∉ [x] := fun g hg => by
    have : q = g := by simpa [Value.ownBlock] using hg
    simp; omega
  have hbS : b ∉ [x] := by simp; omega
  go_loopw [24] (fun i wr => ∃ j : Nat, i = .int .i64 j ∧ j ≤ 5 ∧ Blk wr x 24 (rowG y0 y1 y2 y3 y4 y5 j) ∧ Chg [x] W3 wr) (fun i _ => 5 - (intOf i).toNat)
  case atStart => exact ⟨0, rfl, by decide, A, k0⟩
  case round =>
    clear k0 A
    obtain ⟨j, rfl, hj, A, k3⟩ := hrel
    have j5 : j = 0 ∨ j = 1 ∨ j = 2 ∨ j = 3 ∨ j = 4 ∨ j = 5 := by omega
    have o3 := own_chg o1 k3 hqS
    rcases j5 with rfl | rfl | rfl | rfl | rfl | rfl
    · as_aux_lemma =>
      have f := A.frozen 1
      have g := A.cell 1
      have d : World.cell? _ ⟨q, 1, none⟩ = some (Value.int .u64 y1) := o3.cellAt 1 (by decide)
      clear o3 o1
      go_wp2
      go_roundw
      case rel => exact ⟨1, rfl, by decide, A.set_ 1 _, k3.setCell (p := ⟨x, 1, none⟩) (.inl (by simp)) _⟩
      case measure => simp [intOf]
    · as_aux_lemma =>
      have f := A.frozen 2
      have g := A.cell 2
      have d : World.cell? _ ⟨q, 2, none⟩ = some (Value.int .u64 y2) := o3.cellAt 2 (by decide)
      clear o3 o1
      go_wp2
      go_roundw
      case rel => exact ⟨2, rfl, by decide, A.set_ 2 _, k3.setCell (p := ⟨x, 2, none⟩) (.inl (by simp)) _⟩
      case measure => simp [intOf]
    · as_aux_lemma =>
      have f := A.frozen 3
      have g := A.cell 3
      have d : World.cell? _ ⟨q, 3, none⟩ = some (Value.int .u64 y3) := o3.cellAt 3 (by decide)
      clear o3 o1
      go_wp2
      go_roundw
      case rel => exact ⟨3, rfl, by decide, A.set_ 3 _, k3.setCell (p := ⟨x, 3, none⟩) (.inl (by simp)) _⟩
      case measure => simp [intOf]
    · as_aux_lemma =>
      have f := A.frozen 4
      have g := A.cell 4
      have d : World.cell? _ ⟨q, 4, none⟩ = some (Value.int .u64 y4) := o3.cellAt 4 (by decide)
      clear o3 o1
      go_wp2
      go_roundw
      case rel => exact ⟨4, rfl, by decide, A.set_ 4 _, k3.setCell (p := ⟨x, 4, none⟩) (.inl (by simp)) _⟩
      case measure => simp [intOf]
    · as_aux_lemma =>
      have f := A.frozen 5
      have g := A.cell 5
      have d : World.cell? _ ⟨q, 5, none⟩ = some (Value.int .u64 y5) := o3.cellAt 5 (by decide)
      clear o3 o1
      go_wp2
      go_roundw
      case rel => exact ⟨5, rfl, by decide, A.set_ 5 _, k3.setCell (p := ⟨x, 5, none⟩) (.inl (by simp)) _⟩
      case measure => simp [intOf]
    · clear o3 o1 hqS
      replace K := K.trans k3 hxS
      replace B := B.chg k3 hbS
      have A3 : Blk _ x 24 (callC y0 y1 y2 y3 y4 y5) := A
      clear A k3 hxS hbS
      obtain ⟨c0, c1, c2, c3, c4, c5⟩ := blk6 A3
      cases R with
      | false =>
        go_wp2_with (go_at_call 17; refine Calls.mono (HR'.out _) ?_; rintro e' w1 ⟨rfl, k1⟩; replace B := B.chg k1 (by simp); replace A3 := A3.chg k1 (by simp); replace K := K.trans k1 (by simp); obtain ⟨c0, c1, c2, c3, c4, c5⟩ := blk6 A3; obtain ⟨e0, e1, e2, e3, e4, e5⟩ := blk6 B; have g0 := B.frozen 0; have g1 := B.frozen 1; have g2 := B.frozen 2; have g3 := B.frozen 3; have g4 := B.frozen 4; have g5 := B.frozen 5)
        have G := Blk.set_ (Blk.set_ (Blk.set_ (Blk.set_ (Blk.set_ (Blk.set_ (B) 0 (.int .i64 0)) 1 (.int .i64 0)) 2 (.int .i64 0)) 3 (.int .i64 0)) 4 (.int .i64 0)) 5 (.int .i64 0)
        obtain ⟨q0, q1, q2, q3, q4, q5⟩ := blk6 (a := .int .i64 0) (b := .int .i64 0) (c := .int .i64 0) (d := .int .i64 0) (e := .int .i64 0) (f := .int .i64 0) G
        refine ⟨rfl, .tuple #[callV 0 0 0 0 0 0, .int .i64 12], ?_, rfl, ((((((K.setCell (p := ⟨b, 0, none⟩) (.inr (by simp; omega)) _).setCell (p := ⟨b, 1, none⟩) (.inr (by simp; omega)) _).setCell (p := ⟨b, 2, none⟩) (.inr (by simp; omega)) _).setCell (p := ⟨b, 3, none⟩) (.inr (by simp; omega)) _).setCell (p := ⟨b, 4, none⟩) (.inr (by simp; omega)) _).setCell (p := ⟨b, 5, none⟩) (.inr (by simp; omega)) _)⟩
        simp [results, go_sem, q0, q1, q2, q3, q4, q5]
      | true =>
        go_wp2_with (go_at_call 17; refine Calls.mono (HR'.out _) ?_; rintro e' w1 ⟨rfl, k1⟩; replace B := B.chg k1 (by simp); replace A3 := A3.chg k1 (by simp); replace K := K.trans k1 (by simp); obtain ⟨c0, c1, c2, c3, c4, c5⟩ := blk6 A3; obtain ⟨e0, e1, e2, e3, e4, e5⟩ := blk6 B; have g0 := B.frozen 0; have g1 := B.frozen 1; have g2 := B.frozen 2; have g3 := B.frozen 3; have g4 := B.frozen 4; have g5 := B.frozen 5)
        have G := Blk.set_ (Blk.set_ (Blk.set_ (Blk.set_ (Blk.set_ (Blk.set_ (B) 0 (.int .i64 y0)) 1 (.int .i64 y1)) 2 (.int .i64 y2)) 3 (.int .i64 y3)) 4 (.int .i64 y4)) 5 (.int .i64 y5)
        obtain ⟨q0, q1, q2, q3, q4, q5⟩ := blk6 (a := .int .i64 y0) (b := .int .i64 y1) (c := .int .i64 y2) (d := .int .i64 y3) (e := .int .i64 y4) (f := .int .i64 y5) G
        refine ⟨rfl, .tuple #[callV y0 y1 y2 y3 y4 y5, .int .i64 0], ?_, rfl, ((((((K.setCell (p := ⟨b, 0, none⟩) (.inr (by simp; omega)) _).setCell (p := ⟨b, 1, none⟩) (.inr (by simp; omega)) _).setCell (p := ⟨b, 2, none⟩) (.inr (by simp; omega)) _).setCell (p := ⟨b, 3, none⟩) (.inr (by simp; omega)) _).setCell (p := ⟨b, 4, none⟩) (.inr (by simp; omega)) _).setCell (p := ⟨b, 5, none⟩) (.inr (by simp; omega)) _)⟩
        simp [results, go_sem, q0, q1, q2, q3, q4, q5]
end Go.Proofs.Ytdconfciacldmaa.CallGet
