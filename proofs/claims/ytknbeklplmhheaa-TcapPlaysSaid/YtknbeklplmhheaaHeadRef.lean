/- Put of package palanquinref10. -/
import Derived.Test.YtknbeklplmhheaaHeadPut
namespace Go.Proofs.Ytknbeklplmhheaa.HeadRef
open Go Go.RowKit Go.Proofs.Ytknbeklplmhheaa Go.Proofs.Ytknbeklplmhheaa.Heap Go.Proofs.Ytknbeklplmhheaa.Bits Go.Proofs.Ytknbeklplmhheaa.Field Go.Proofs.Ytknbeklplmhheaa.Places Go.Proofs.Ytknbeklplmhheaa.Parts Go.Proofs.Ytknbeklplmhheaa.Unpack Go.Proofs.Ytknbeklplmhheaa.Head Go.Proofs.Ytknbeklplmhheaa.HeadPut Go.Proofs.Ytknbeklplmhheaa.Mem Go.Proofs.Ytknbeklplmhheaa.Two

theorem chr_trans {R : List Nat} {B : Nat} {w w1 w2 : World} (h : Ref02.Chr R B w w1) (k : Ref02.Chr R B w1 w2) : Ref02.Chr R B w w2 := by
  obtain ⟨S, hc, hS⟩ := h
  obtain ⟨S2, hc2, hS2⟩ := k
  refine ⟨S ++ S2.filter (· < w.heap.size), hc.mono (S' := S ++ S2.filter (· < w.heap.size)) (fun x hx => .inl (List.mem_append_left _ hx)) |>.trans hc2 (fun x hx => ?_), fun s hs => ?_⟩
  · by_cases hl : x < w.heap.size
    · exact .inl (List.mem_append_right _ (List.mem_filter.2 ⟨hx, by simpa using hl⟩))
    · exact .inr (by omega)
  · rcases List.mem_append.1 hs with h1 | h1
    · exact hS s h1
    · obtain ⟨h2, h3⟩ := List.mem_filter.1 h1
      obtain ⟨hR, h4, cs, h5⟩ := hS2 s h2
      refine ⟨hR, h4, ?_⟩
      by_cases hm : s ∈ S
      · exact (hS s hm).2.2
      · exact ⟨cs, (hc.block s (by simpa using h3) hm).symm.trans h5⟩
theorem chr0 {R : List Nat} {B : Nat} {w w1 w2 : World} (h : Ref02.Chr R B w w1) (k : Chg [] w1 w2) : Ref02.Chr R B w w2 := chr_trans h (Ref02.Chr.of0 k)
set_option maxRecDepth 100000 in
set_option maxHeartbeats 4000000 in
theorem put_ok {w : World} {B0 r n : Nat} {v : Value} {bs : List (Nat × Nat)} {L : List Int} (h : Ref02.RM w B0 r v n bs L) (h1 : 1 ≤ n) (h2 : n ≤ 64) (f k l : Int) (z : Bool) (t : Int) : Calls Try.prog 107 #[.pointer (some ⟨r, 0, none⟩), .int .i64 f, headV k l z t] w fun e w' => e = .returned (.int .i64 (hputE n f k l z t)) ∧ Ref02.RM w' B0 r v n bs (hputL n L f k l z t) ∧ Ref02.Chr (bs.map Prod.fst) B0 w w' := by
  have HR := rright_ok k l z t
  have hp := fun q => pack_right (k := k) (l := l) (f := z) (t := t) q
  have hbd := fun q => right_bd (k := k) (l := l) (f := z) (t := t) q
  unfold hputL hputE putL
  generalize rightH k l z t = R at *
  have B := Blk.new w 102 (headC k l z t)
  have m := h.alloc (.cells (headC k l z t) 102)
  have K := Ref02.Chr.of0 (R := bs.map Prod.fst) (B := B0) ((Chg.refl [] w).alloc (.cells (headC k l z t) 102))
  obtain ⟨b, eb⟩ : ∃ b, w.heap.size = b := ⟨_, rfl⟩
  rw [eb] at B
  clear h
  cases R with
  | false =>
    clear hp hbd
    go_enter Try.func107, Try.ntmps107
    obtain ⟨c0, c1, c2, c3⟩ := blk4 B
    go_wp2_with (go_at_call 105; refine Calls.mono (HR _) ?_; rintro e w1 ⟨rfl, k1⟩; replace K := chr0 K k1; replace m := m.chg0 k1)
    go_ret
    exact ⟨rfl, m, K⟩
  | true =>
    have HR' := Lib.hid HR
    have HP := Lib.hid (hp rfl)
    obtain ⟨m0, m1, m2, m3, m4, m5⟩ := hbd rfl
    clear HR hp hbd
    rw [if_pos rfl, if_pos rfl]
    generalize wordH k l z = cw at *
    have v0 : IntKind.u64.wrap k = k := by rw [IntKind.wrap_u64]; omega
    have v1 : IntKind.u64.wrap l = l := by rw [IntKind.wrap_u64]; omega
    have v2 : IntKind.u64.wrap t = t := by rw [IntKind.wrap_u64]; omega
    rcases canF_two n f with ⟨e0, e1, e2⟩ | ⟨e0, e1⟩
    · rw [e0]
      have E0 := Lib.hid e0
      have hi : isF n f = true := decide_eq_true ⟨e1, e2⟩
      have HI := fun (W : World) (q : Ref02.RM W B0 r v n bs L) => Ref02.is_ok q h1 h2 f
      rw [hi] at HI
      have HI' := Lib.hid HI
      clear e0 hi HI
      cases z
      · have HP2 : Hid (packS W3 [k, l, 0] = (cw, 0)) := HP.out
        have HVS : Hid (∀ x ∈ [k, l, 0], 0 ≤ x ∧ x < 18446744073709551616) := by
          intro x hx
          simp at hx
          rcases hx with rfl | rfl | rfl <;> omega
        clear HP
        go_enter Try.func107, Try.ntmps107
        obtain ⟨c0, c1, c2, c3⟩ := blk4 B
        go_wp2_with fail
        refine Calls.mono (HR'.out _) ?_
        rintro e w1 ⟨rfl, k1⟩
        replace K := chr0 K k1
        replace m := m.chg0 k1
        replace B := B.chg k1 (by simp)
        clear k1 c0 c1 c2 c3
        go_wp2_with fail
        refine Calls.mono (HI'.out _ m) ?_
        rintro e w2 ⟨rfl, rfl⟩
        obtain ⟨c0, c1, c2, c3⟩ := blk4 B
        obtain ⟨d0, d1, d2, d3⟩ := blk4 (B.alloc (.cells w3C 3))
        go_wp2_with fail
        have hq := RefPack.pack_ok (some ⟨w1.heap.size, 0, none⟩) (some ⟨w1.heap.size + 1, 0, none⟩) 3 3 3 3 W3 [k, l, 0] ((w1.alloc (.cells w3C 3)).alloc (.cells #[.int .u64 k, .int .u64 l, .int .u64 0] 36)) (nums3 ((Blk.new w1 3 w3C).alloc (.cells #[.int .u64 k, .int .u64 l, .int .u64 0] 36))) (numsOf3 (Blk.new' (g := w1.heap.size + 1) (w1.alloc (.cells w3C 3)) 36 #[.int .u64 k, .int .u64 l, .int .u64 0] (by simp))) rfl HVS.out
        rw [HP2.out] at hq
        refine Calls.mono hq ?_
        rintro e w3 ⟨rfl, q, rfl⟩
        have kk := (((Chg.refl [] w1).alloc (.cells w3C 3)).alloc (.cells #[.int .u64 k, .int .u64 l, .int .u64 0] 36)).drewN q
        replace m := m.chg0 kk
        replace K := chr0 K kk
        replace B := B.chg kk (by simp)
        clear kk hq c0 c1 c2 c3 d0 d1 d2 d3
        generalize (((w1.alloc (.cells w3C 3)).alloc (.cells #[.int .u64 k, .int .u64 l, .int .u64 0] 36)).drewN q) = W4 at *
        go_wp2_with fail
        refine Calls.mono (Ref02.store_ok m h1 h2 f 0 cw) ?_
        rintro e w5 ⟨rfl, m5, kk⟩
        replace K := chr_trans K kk
        replace B := Ref02.chr_blk B kk (.inl (by decide))
        clear kk m
        obtain ⟨c0, c1, c2, c3⟩ := blk4 B
        go_wp2_with fail
        refine Calls.mono (Ref02.store_ok m5 h1 h2 f 1 t) ?_
        rintro e w6 ⟨rfl, m6, kk⟩
        replace K := chr_trans K kk
        clear kk m5 c0 c1 c2 c3
        go_wp2_with fail
        refine Calls.mono (Ref02.store_ok m6 h1 h2 f 2 0) ?_
        rintro e w7 ⟨rfl, m7, kk⟩
        replace K := chr_trans K kk
        clear kk m6
        go_wp2_with fail
        refine Calls.mono (Ref02.store_ok m7 h1 h2 f 3 0) ?_
        rintro e w8 ⟨rfl, m8, kk⟩
        replace K := chr_trans K kk
        clear kk m7
        go_wp2
        go_ret
        exact ⟨rfl, m8, K⟩
      · have HP2 : Hid (packS W3 [k, l, 1] = (cw, 0)) := HP.out
        have HVS : Hid (∀ x ∈ [k, l, 1], 0 ≤ x ∧ x < 18446744073709551616) := by
          intro x hx
          simp at hx
          rcases hx with rfl | rfl | rfl <;> omega
        clear HP
        go_enter Try.func107, Try.ntmps107
        obtain ⟨c0, c1, c2, c3⟩ := blk4 B
        go_wp2_with fail
        refine Calls.mono (HR'.out _) ?_
        rintro e w1 ⟨rfl, k1⟩
        replace K := chr0 K k1
        replace m := m.chg0 k1
        replace B := B.chg k1 (by simp)
        clear k1 c0 c1 c2 c3
        go_wp2_with fail
        refine Calls.mono (HI'.out _ m) ?_
        rintro e w2 ⟨rfl, rfl⟩
        obtain ⟨c0, c1, c2, c3⟩ := blk4 B
        obtain ⟨d0, d1, d2, d3⟩ := blk4 (B.alloc (.cells w3C 3))
        go_wp2_with fail
        have hq := RefPack.pack_ok (some ⟨w1.heap.size, 0, none⟩) (some ⟨w1.heap.size + 1, 0, none⟩) 3 3 3 3 W3 [k, l, 1] ((w1.alloc (.cells w3C 3)).alloc (.cells #[.int .u64 k, .int .u64 l, .int .u64 1] 36)) (nums3 ((Blk.new w1 3 w3C).alloc (.cells #[.int .u64 k, .int .u64 l, .int .u64 1] 36))) (numsOf3 (Blk.new' (g := w1.heap.size + 1) (w1.alloc (.cells w3C 3)) 36 #[.int .u64 k, .int .u64 l, .int .u64 1] (by simp))) rfl HVS.out
        rw [HP2.out] at hq
        refine Calls.mono hq ?_
        rintro e w3 ⟨rfl, q, rfl⟩
        have kk := (((Chg.refl [] w1).alloc (.cells w3C 3)).alloc (.cells #[.int .u64 k, .int .u64 l, .int .u64 1] 36)).drewN q
        replace m := m.chg0 kk
        replace K := chr0 K kk
        replace B := B.chg kk (by simp)
        clear kk hq c0 c1 c2 c3 d0 d1 d2 d3
        generalize (((w1.alloc (.cells w3C 3)).alloc (.cells #[.int .u64 k, .int .u64 l, .int .u64 1] 36)).drewN q) = W4 at *
        go_wp2_with fail
        refine Calls.mono (Ref02.store_ok m h1 h2 f 0 cw) ?_
        rintro e w5 ⟨rfl, m5, kk⟩
        replace K := chr_trans K kk
        replace B := Ref02.chr_blk B kk (.inl (by decide))
        clear kk m
        obtain ⟨c0, c1, c2, c3⟩ := blk4 B
        go_wp2_with fail
        refine Calls.mono (Ref02.store_ok m5 h1 h2 f 1 t) ?_
        rintro e w6 ⟨rfl, m6, kk⟩
        replace K := chr_trans K kk
        clear kk m5 c0 c1 c2 c3
        go_wp2_with fail
        refine Calls.mono (Ref02.store_ok m6 h1 h2 f 2 0) ?_
        rintro e w7 ⟨rfl, m7, kk⟩
        replace K := chr_trans K kk
        clear kk m6
        go_wp2_with fail
        refine Calls.mono (Ref02.store_ok m7 h1 h2 f 3 0) ?_
        rintro e w8 ⟨rfl, m8, kk⟩
        replace K := chr_trans K kk
        clear kk m7
        go_wp2
        go_ret
        exact ⟨rfl, m8, K⟩
    · rw [e0, e1, e1, e1, e1]
      have HI := fun (W : World) (q : Ref02.RM W B0 r v n bs L) => Ref02.is_ok q h1 h2 f
      have hi : isF n f = false := by
        unfold canF at e0
        split at e0
        · omega
        · exact decide_eq_false (by assumption)
      rw [hi] at HI
      have HI' := Lib.hid HI
      clear e0 e1 hi HI HP
      go_enter Try.func107, Try.ntmps107
      obtain ⟨c0, c1, c2, c3⟩ := blk4 B
      go_wp2_with fail
      refine Calls.mono (HR'.out _) ?_
      rintro e w1 ⟨rfl, k1⟩
      replace K := chr0 K k1
      replace m := m.chg0 k1
      clear k1 c0 c1 c2 c3
      go_wp2_with fail
      refine Calls.mono (HI'.out _ m) ?_
      rintro e w2 ⟨rfl, rfl⟩
      go_wp2
      go_ret
      exact ⟨rfl, m, K⟩
end Go.Proofs.Ytknbeklplmhheaa.HeadRef
