/- Put of package cap. -/
import Derived.Test.YtbjiecpkalcfeaaCapW
namespace Go.Proofs.Ytbjiecpkalcfeaa.CapPut
open Go Go.RowKit Go.Proofs.Ytbjiecpkalcfeaa Go.Proofs.Ytbjiecpkalcfeaa.Heap Go.Proofs.Ytbjiecpkalcfeaa.Bits Go.Proofs.Ytbjiecpkalcfeaa.Field Go.Proofs.Ytbjiecpkalcfeaa.Places Go.Proofs.Ytbjiecpkalcfeaa.Parts Go.Proofs.Ytbjiecpkalcfeaa.Unpack Go.Proofs.Ytbjiecpkalcfeaa.Cap Go.Proofs.Ytbjiecpkalcfeaa.CapW

def putC1 (k r t l e a : Int) : Int := if rightC k r t l e a then capWord k r t l e else 0
def putC2 (k r t l e a : Int) : Int := if rightC k r t l e a then a else 0
set_option maxRecDepth 100000 in
set_option maxHeartbeats 4000000 in
theorem putC_ok (k r t l e a : Int) (w : World) : Calls Try.prog 68 #[capV k r t l e a] w fun e' w' => e' = .returned (.tuple #[.int .u64 (putC1 k r t l e a), .int .u64 (putC2 k r t l e a), .int .i64 (errC (rightC k r t l e a))]) ∧ Chg [] w w' := by
  unfold putC1 putC2
  have hbd := fun h => sized_bd (right_sized (k := k) (r := r) (t := t) (l := l) (e := e) (a := a) h)
  have HR : ∀ w, Calls Try.prog 90 #[capV k r t l e a] w fun e' w' => e' = .returned (.bool (rightC k r t l e a)) ∧ Chg [] w w' := right_ok k r t l e a
  generalize rightC k r t l e a = R at *
  have HR' : Hid (∀ w, Calls Try.prog 90 #[capV k r t l e a] w fun e' w' => e' = .returned (.bool R) ∧ Chg [] w w') := HR
  clear HR
  obtain ⟨b, eb⟩ : ∃ b, w.heap.size = b := ⟨_, rfl⟩
  have B := Blk.new' w 70 (capC k r t l e a) eb
  have K := (Chg.refl [] w).alloc (.cells (capC k r t l e a) 70)
  cases R with
  | false =>
    clear hbd
    go_enter Try.func68, Try.ntmps68
    go_wp2_with (go_at_call 90; refine Calls.mono (HR'.out _) ?_; rintro e' w1 ⟨rfl, k1⟩; replace K := K.trans k1 (by simp))
    go_ret3
    exact ⟨rfl, K⟩
  | true =>
    obtain ⟨⟨m0, m1⟩, ⟨m2, m3⟩, ⟨m4, m5⟩, ⟨m6, m7⟩, ⟨m8, m9⟩, ⟨m10, m11⟩⟩ := hbd rfl
    have HP : Hid (packS W5 [k, r, t, l, e] = (capWord k r t l e, 0)) := pack5 m0 (by omega) m2 m3 m4 m5 m6 m7 m8 m9
    have HVS : Hid (∀ x ∈ [k, r, t, l, e], 0 ≤ x ∧ x < 18446744073709551616) := by
      intro x hx
      simp at hx
      rcases hx with rfl | rfl | rfl | rfl | rfl <;> omega
    rw [if_pos rfl, if_pos rfl]
    generalize capWord k r t l e = cw at *
    have v0 : IntKind.u64.wrap k = k := by rw [IntKind.wrap_u64]; omega
    have v1 : IntKind.u64.wrap r = r := by rw [IntKind.wrap_u64]; omega
    have v2 : IntKind.u64.wrap t = t := by rw [IntKind.wrap_u64]; omega
    have v3 : IntKind.u64.wrap l = l := by rw [IntKind.wrap_u64]; omega
    have v4 : IntKind.u64.wrap e = e := by rw [IntKind.wrap_u64]; omega
    have v5 : IntKind.u64.wrap a = a := by rw [IntKind.wrap_u64]; omega
    clear hbd
    go_enter Try.func68, Try.ntmps68
    go_wp2_with (go_at_call 90; refine Calls.mono (HR'.out _) ?_; rintro e' w1 ⟨rfl, k1⟩; replace B := B.chg k1 (by simp); replace K := K.trans k1 (by simp))
    obtain ⟨x, ex⟩ : ∃ x, w1.heap.size = x := ⟨_, rfl⟩
    have A := Blk.new' w1 167 #[.int .u64 0, .int .u64 0, .int .u64 0, .int .u64 0, .int .u64 0] ex
    have hbx : b < x := by rw [← ex]; exact B.lt
    replace B := B.alloc (.cells #[.int .u64 0, .int .u64 0, .int .u64 0, .int .u64 0, .int .u64 0] 167)
    replace K := K.alloc (.cells #[.int .u64 0, .int .u64 0, .int .u64 0, .int .u64 0, .int .u64 0] 167)
    obtain ⟨V, eV⟩ : ∃ V, w1.alloc (.cells #[.int .u64 0, .int .u64 0, .int .u64 0, .int .u64 0, .int .u64 0] 167) = V := ⟨_, rfl⟩
    rw [eV] at A B K
    try rw [eV]
    try rw [ex]
    clear k1
    obtain ⟨c0, c1, c2, c3, c4, c5⟩ := blk6 B
    obtain ⟨a0, a1, a2, a3, a4⟩ := blk5 A
    have f0 := A.frozen 0
    have f1 := A.frozen 1
    have f2 := A.frozen 2
    have hne : ¬ b = x := by omega
    have hne' : ¬ x = b := by omega
    go_region_held3 (fun V => V.cell? ⟨b, 0, none⟩ = some (.int .i64 k) ∧ V.cell? ⟨b, 1, none⟩ = some (.int .i64 r) ∧ V.cell? ⟨b, 2, none⟩ = some (.int .i64 t)) (go_keep) (fail)
    obtain ⟨V2, eV2⟩ : ∃ V2, (((V.setCell ⟨x, 0, none⟩ (.int .u64 k)).setCell ⟨x, 1, none⟩ (.int .u64 r)).setCell ⟨x, 2, none⟩ (.int .u64 t)).drew = V2 := ⟨_, rfl⟩
    have A2 : Blk V2 x 167 #[.int .u64 k, .int .u64 r, .int .u64 t, .int .u64 0, .int .u64 0] := by rw [← eV2]; exact (Blk.set_ (Blk.set_ (Blk.set_ A 0 _) 1 _) 2 _).drew
    have B2 : Blk V2 b 70 (capC k r t l e a) := by rw [← eV2]; exact (((B.far (p := ⟨x, 0, none⟩) (by simp; omega) _).far (p := ⟨x, 1, none⟩) (by simp; omega) _).far (p := ⟨x, 2, none⟩) (by simp; omega) _).drew
    have K2 : Chg [] w V2 := by rw [← eV2]; exact (((K.setCell (p := ⟨x, 0, none⟩) (.inr (by simp; omega)) _).setCell (p := ⟨x, 1, none⟩) (.inr (by simp; omega)) _).setCell (p := ⟨x, 2, none⟩) (.inr (by simp; omega)) _).drew
    rw [eV2]
    clear eV2 eV A B K c0 c1 c2 c3 c4 c5 a0 a1 a2 a3 a4 f0 f1 f2
    obtain ⟨c0, c1, c2, c3, c4, c5⟩ := blk6 B2
    obtain ⟨a0, a1, a2, a3, a4⟩ := blk5 A2
    have f3 := A2.frozen 3
    have f4 := A2.frozen 4
    go_wp2
    go_region_held3 (fun V => V.cell? ⟨b, 3, none⟩ = some (.int .i64 l) ∧ V.cell? ⟨b, 4, none⟩ = some (.int .i64 e)) (go_keep) (fail)
    obtain ⟨V3, eV3⟩ : ∃ V3, ((V2.setCell ⟨x, 3, none⟩ (.int .u64 l)).setCell ⟨x, 4, none⟩ (.int .u64 e)).drew = V3 := ⟨_, rfl⟩
    have A3 : Blk V3 x 167 #[.int .u64 k, .int .u64 r, .int .u64 t, .int .u64 l, .int .u64 e] := by rw [← eV3]; exact (Blk.set_ (Blk.set_ A2 3 _) 4 _).drew
    have B3 : Blk V3 b 70 (capC k r t l e a) := by rw [← eV3]; exact ((B2.far (p := ⟨x, 3, none⟩) (by simp; omega) _).far (p := ⟨x, 4, none⟩) (by simp; omega) _).drew
    have K3 : Chg [] w V3 := by rw [← eV3]; exact ((K2.setCell (p := ⟨x, 3, none⟩) (.inr (by simp; omega)) _).setCell (p := ⟨x, 4, none⟩) (.inr (by simp; omega)) _).drew
    rw [eV3]
    clear eV3 A2 B2 K2 c0 c1 c2 c3 c4 c5 a0 a1 a2 a3 a4 f3 f4
    go_wp2_with fail
    refine Calls.mono (widths_ok _) ?_
    rintro e' w4 ⟨rfl, k4⟩
    replace A3 := (A3.chg k4 (by simp)).alloc (.cells w5C 168)
    replace B3 := (B3.chg k4 (by simp)).alloc (.cells w5C 168)
    replace K3 := (K3.trans k4 (by simp)).alloc (.cells w5C 168)
    obtain ⟨y, ey⟩ : ∃ y, w4.heap.size = y := ⟨_, rfl⟩
    have Y := Blk.new' w4 168 w5C ey
    clear k4
    obtain ⟨V5, eV5⟩ : ∃ V5, w4.alloc (.cells w5C 168) = V5 := ⟨_, rfl⟩
    rw [eV5] at A3 B3 K3 Y
    have hp := Pack.pack_ok (some ⟨y, 0, none⟩) (some ⟨x, 0, none⟩) 5 5 5 5 W5 [k, r, t, l, e] V5.drew (nums5 Y.drew) (numsOf5 A3.drew) rfl HVS.out
    rw [packV_eq (ns := W5) HVS.out rfl, HP.out] at hp
    have HPk : Hid (Calls Try.prog 86 #[.slice (some ⟨y, 0, none⟩) 5 5, .slice (some ⟨x, 0, none⟩) 5 5] V5.drew fun e w' => e = .returned (.tuple #[.int .u64 cw, .int .i64 0]) ∧ Chg [] V5.drew w') := hp
    clear hp
    replace B3 := B3.drew
    replace K3 := K3.drew
    go_wp2
    try rw [eV5]
    try rw [ey]
    go_region_held3 (fun _ => True) (trivial) ((go_at_call 86; refine Calls.mono HPk.out ?_; rintro e' w6 ⟨rfl, k6⟩; replace B3 := B3.chg k6 (by simp); replace K3 := K3.trans k6 (by simp)))
    obtain ⟨c0, c1, c2, c3, c4, c5⟩ := blk6 B3
    go_wp2
    go_quiet (fail)
    go_wp2
    go_ret3
    exact ⟨rfl, K3.drewN nq⟩
end Go.Proofs.Ytbjiecpkalcfeaa.CapPut
