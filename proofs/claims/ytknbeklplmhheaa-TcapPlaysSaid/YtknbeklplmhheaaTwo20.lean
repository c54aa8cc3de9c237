/- The laws of slot: 'laid' and 'alike'. -/
import Derived.Test.YtknbeklplmhheaaTwo
namespace Go.Proofs.Ytknbeklplmhheaa.Two20
open Go Go.RowKit Go.Proofs.Ytknbeklplmhheaa.Heap Go.Proofs.Ytknbeklplmhheaa.Mem Go.Proofs.Ytknbeklplmhheaa.Two

set_option maxHeartbeats 2000000 in
set_option maxRecDepth 100000 in
theorem laid_ok (n : Nat) (h1 : 1 ≤ n) (h2 : n ≤ 64) (A : Option Addr) (m c : Nat) (xs : List Int) (w : World) (hx : Nums w .u64 A m xs) (hu : U64 xs) :
    Calls Try.prog 19 #[.int .i64 n, .slice A m c] w fun e w' => ∃ p r B g v bs L, e = .returned (.tuple #[.pointer (some ⟨p, 0, none⟩), .pointer (some ⟨r, 0, none⟩)]) ∧ Both w w' p r n B g v bs L := by
  have hm := hx.2.1
  have HX := Lib.hid hx
  have HU := Lib.hid hu
  clear hx hu
  go_enter Try.func19, Try.ntmps19
  go_wp2_with fail
  refine Calls.mono (Mem.new_ok n h1 h2 _) ?_
  rintro e w1 ⟨p, g, rfl, m1, hp, hg, K⟩
  go_wp2_with fail
  refine Calls.mono (Ref02.new_ok n h1 h2 _) ?_
  rintro e w2 ⟨r, v, bs, rfl, rm, kk⟩
  have T : Both w w2 p r n w1.heap.size g v bs (List.replicate (36 * n) 0) := ⟨m1.chg0 kk, rm, K.size, hp, hg, K.trans kk (by simp), U64.rep _⟩
  generalize w1.heap.size = B at *
  clear m1 rm kk K hp hg
  go_wp2_with fail
  go_loopw [10] (fun i wr => ∃ k : Nat, ∃ L, i = .int .i64 k ∧ k ≤ m ∧ Both w wr p r n B g v bs L) (fun i _ => m - (intOf i).toNat)
  case atStart => exact ⟨0, _, rfl, Nat.zero_le _, T⟩
  case round =>
    clear T
    obtain ⟨k, L, rfl, hk, T⟩ := hrel
    by_cases hlt : k < m ∧ k < 36 * n
    · obtain ⟨l1, l2⟩ := hlt
      obtain ⟨ad, rfl, d1⟩ := HX.out.2.2 (by omega)
      have SK : Hid (∀ V, Chg [] w V → V.cell? (ad.add k) = some (.int .u64 (xs.getD k 0))) := fun V kV => (HX.out.chg kV (fun _ _ => by simp)).cells l1
      have y := HU.out.get k
      generalize xs.getD k 0 = x at *
      have Y := Lib.hid y
      have c0 := SK.out _ T.k
      clear d1 y
      go_wp2_with fail
      refine Calls.mono (Mem.store_ok T.m _ _ _) ?_
      rintro e w3 ⟨rfl, m3, kk⟩
      have r3 := ref_keep T.m T.r kk
      have K3 := T.k.trans kk (S' := [g]) (by intro s hs; right; have := T.fg; simp at hs; omega)
      clear kk
      have c1 := SK.out _ K3
      go_wp2_with fail
      refine Calls.mono (Ref02.store_ok r3 h1 h2 _ _ _) ?_
      rintro e w4 ⟨rfl, r4, kk⟩
      have T4 : Both w w4 p r n B g v bs _ := ⟨Ref02.chr_mem m3 kk, r4, T.fB, T.fp, T.fg, Ref02.chr_chg K3 kk T.fB, T.u.st _ _ Y.out.1 Y.out.2⟩
      clear kk c0 c1
      go_wp2
      go_roundw
      case rel => exact ⟨k + 1, _, by go_num, by omega, T4⟩
      case measure => simp [intOf]; omega
    · have hx : m ≤ k ∨ (k < m ∧ 36 * n ≤ k) := by omega
      clear hlt
      rcases hx with hx | ⟨hx, hy⟩
      all_goals
        go_wp2
        go_ret2
        exact ⟨p, r, B, g, v, bs, L, rfl, T⟩

theorem words_in {w : World} {p g n : Nat} {L : List Int} (h : MemAt w p g n L) (k : Nat) (hk : k < n) : Calls Try.prog 87 #[.pointer (some ⟨p, 0, none⟩), .int .i64 k] w fun e w' => ∃ b, e = .returned (.tuple #[.slice (some ⟨b, 0, none⟩) 36 36, .int .i64 0]) ∧ Blk w' b 36 (nums .u64 (frL L k)).toArray ∧ w.heap.size ≤ b ∧ Chg [] w w' := by
  have ho : (0 : Int) ≤ k ∧ (k : Int) < n := by omega
  refine (Mem.words_ok h k).mono ?_
  rintro e w' ⟨b, rfl, h1, h2, h3⟩
  exact ⟨b, by unfold wdsV canF; rw [if_pos ho, if_pos ho], h1 ho, h2, h3⟩

set_option maxHeartbeats 4000000 in
set_option maxRecDepth 100000 in
theorem alike_ok {w0 w : World} {p r n B g : Nat} {v : Value} {bs : List (Nat × Nat)} {L : List Int} (T : Both w0 w p r n B g v bs L) :
    Calls Try.prog 33 #[.pointer (some ⟨p, 0, none⟩), .pointer (some ⟨r, 0, none⟩)] w fun e w' => e = .returned (.bool true) ∧ Chg [] w w' := by
  have h1 := T.m.pos
  have h2 := T.m.le
  have hl := Lib.hid T.m.len
  obtain ⟨q, cap, b0, rfl, -, -⟩ := T.r.at_ (k := 0) (by omega)
  have m := T.m
  have rr := T.r
  clear T
  have K := Chg.refl [] w
  go_enter Try.func33, Try.ntmps33
  go_wp2_with fail
  go_loopw [5] (fun i wr => ∃ k : Nat, i = .int .i64 k ∧ k ≤ n ∧ MemAt wr p g n L ∧ Ref02.RM wr B r (.slice (some ⟨q, 0, none⟩) n cap) n bs L ∧ Chg [] w wr) (fun i _ => n - (intOf i).toNat)
  case atStart => exact ⟨0, rfl, Nat.zero_le _, m, rr, K⟩
  case round =>
    clear m rr K
    obtain ⟨k, rfl, hk, m, rr, K⟩ := hrel
    by_cases hlt : k < n
    · have c0 := rr.head
      go_wp2_with fail
      refine Calls.mono (words_in m k hlt) ?_
      rintro e w3 ⟨b, rfl, bb, hb, kk⟩
      replace K := K.trans kk (by simp)
      replace m := m.chg0 kk
      replace rr := rr.chg0 kk
      clear kk c0
      have c0 := rr.head
      obtain ⟨q1, cap1, b1, e1, e2, c1⟩ := rr.at_ hlt
      obtain ⟨rfl, rfl⟩ : q = q1 ∧ cap = cap1 := by simpa using e1
      have hfl := frL_len hl.out hlt
      have X : Hid (∀ j, j < 36 → w3.cell? ⟨b, j, none⟩ = some (.int .u64 ((frL L k).getD j 0))) := fun j hj => by rw [bb.cell, List.getElem?_toArray, nums_get _ _ _ (by omega)]
      have Y : Hid (∀ j, j < 36 → w3.cell? ⟨b1.1, j, none⟩ = some (.int .u64 ((frL L k).getD j 0))) := fun j hj => by rw [rr.cell e2 hj, frL_get hj]
      clear e1 e2 hfl
      go_wp2_with fail
      go_loopw [8] (fun i wr => ∃ j : Nat, i = .int .i64 j ∧ j ≤ 36 ∧ ∃ z, wr = w3.drewN z) (fun i _ => 36 - (intOf i).toNat)
      case atStart => exact ⟨0, rfl, Nat.zero_le _, 0, rfl⟩
      case round =>
        obtain ⟨j, rfl, hj, z, rfl⟩ := hrel
        by_cases hj2 : j < 36
        · have d1 := X.out j hj2
          have d2 := Y.out j hj2
          generalize (frL L k).getD j 0 = x at d1 d2
          have hbx : (x != x) = false := by simp
          go_wp2_with fail
          go_quiet (fail)
          go_wp2
          go_roundw
          case rel => exact ⟨j + 1, by go_num, by omega, z + nq, rfl⟩
          case measure => simp [intOf]; omega
        · obtain rfl : j = 36 := by omega
          go_wp2
          go_roundw
          case rel => exact ⟨k + 1, by go_num, by omega, m.drewN z, rr.drewN z, K.drewN z⟩
          case measure => simp [intOf]; omega
    · obtain rfl : k = n := by omega
      have c0 := rr.head
      go_wp2_with fail
      go_region_held3 (fun V => V.cell? ⟨r, 0, none⟩ = some (.slice (some ⟨q, 0, none⟩) k cap)) (first | exact c0 | exact rr.drew.head) (first | (go_at_call 86; refine Calls.mono (Mem.len_ok m.drew) ?_; rintro e w9 ⟨rfl, rfl⟩))
      all_goals go_wp2
      all_goals go_ret
      all_goals exact ⟨by first | rfl | simp, K.drew⟩
end Go.Proofs.Ytknbeklplmhheaa.Two20
