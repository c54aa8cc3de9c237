/- Under of package palanquinref09. -/
import Derived.Test.YtddjkejliogenaaCapRef
import Derived.Test.YtddjkejliogenaaBits64
namespace Go.Proofs.Ytddjkejliogenaa.CapRefUnder
open Go Go.RowKit Go.Proofs.Ytddjkejliogenaa Go.Proofs.Ytddjkejliogenaa.Heap Go.Proofs.Ytddjkejliogenaa.Bits Go.Proofs.Ytddjkejliogenaa.Field Go.Proofs.Ytddjkejliogenaa.Cap

section
set_option maxRecDepth 100000
set_option maxHeartbeats 1000000
theorem under_ok (k r t l e a k' r' t' l' e' a' : Int) (w : World) : Calls Try.prog 37 #[capV k r t l e a, capV k' r' t' l' e' a'] w fun e'' w' => e'' = .returned (.bool (underB k r t l e a k' r' t' l' e' a')) ∧ Chg [] w w' := by
  unfold underB
  obtain ⟨rb, erb⟩ : ∃ rb, restB k t l e a t' l' e' a' = rb := ⟨_, rfl⟩
  have HRB : Hid (restB k t l e a t' l' e' a' = rb) := erb
  rw [erb]
  clear erb
  have hA := fun h => sized_bd (right_sized (k := k) (r := r) (t := t) (l := l) (e := e) (a := a) h)
  have hB := fun h => sized_bd (right_sized (k := k') (r := r') (t := t') (l := l') (e := e') (a := a') h)
  have HA : ∀ w, Calls Try.prog 64 #[capV k r t l e a] w fun e'' w' => e'' = .returned (.bool (rightC k r t l e a)) ∧ Chg [] w w' := CapRef.right_ok k r t l e a
  have HB : ∀ w, Calls Try.prog 64 #[capV k' r' t' l' e' a'] w fun e'' w' => e'' = .returned (.bool (rightC k' r' t' l' e' a')) ∧ Chg [] w w' := CapRef.right_ok k' r' t' l' e' a'
  generalize rightC k r t l e a = RA at *
  generalize rightC k' r' t' l' e' a' = RB at *
  have HA' : Hid (∀ w, Calls Try.prog 64 #[capV k r t l e a] w fun e'' w' => e'' = .returned (.bool RA) ∧ Chg [] w w') := HA
  have HB' : Hid (∀ w, Calls Try.prog 64 #[capV k' r' t' l' e' a'] w fun e'' w' => e'' = .returned (.bool RB) ∧ Chg [] w w') := HB
  clear HA HB
  obtain ⟨b, eb⟩ : ∃ b, w.heap.size = b := ⟨_, rfl⟩
  have B1 := (Blk.new' w 44 (capC k r t l e a) eb).alloc (.cells (capC k' r' t' l' e' a') 44)
  have B2 := Blk.new' (g := b + 1) (w.alloc (.cells (capC k r t l e a) 44)) 44 (capC k' r' t' l' e' a') (by simp; omega)
  have K := ((Chg.refl [] w).alloc (.cells (capC k r t l e a) 44)).alloc (.cells (capC k' r' t' l' e' a') 44)
  cases RA with
  | false =>
    clear hA hB
    go_enter Try.func37, Try.ntmps37
    go_wp2_with fail
    refine Calls.mono (HA'.out _) ?_
    rintro e'' w1 ⟨rfl, k1⟩
    replace K := K.trans k1 (by simp)
    go_wp2
    go_ret
    exact ⟨rfl, K⟩
  | true =>
    obtain ⟨⟨m0, m1⟩, ⟨m2, m3⟩, ⟨m4, m5⟩, ⟨m6, m7⟩, ⟨m8, m9⟩, ⟨m10, m11⟩⟩ := hA rfl
    go_enter Try.func37, Try.ntmps37
    go_wp2_with fail
    refine Calls.mono (HA'.out _) ?_
    rintro e'' w1 ⟨rfl, k1⟩
    replace K := K.trans k1 (by simp)
    replace B1 := B1.chg k1 (by simp)
    replace B2 := B2.chg k1 (by simp)
    clear k1 HA' hA
    obtain ⟨c0, c1, c2, c3, c4, c5⟩ := blk6 B2
    go_wp2_with fail
    refine Calls.mono (HB'.out _) ?_
    rintro e'' w2 ⟨rfl, k1⟩
    replace K := K.trans k1 (by simp)
    replace B1 := B1.chg k1 (by simp)
    replace B2 := B2.chg k1 (by simp)
    clear k1 HB' c0 c1 c2 c3 c4 c5
    cases RB with
    | false =>
      clear hB
      go_wp2
      go_ret
      exact ⟨rfl, K⟩
    | true =>
      obtain ⟨⟨n0, n1⟩, ⟨n2, n3⟩, ⟨n4, n5⟩, ⟨n6, n7⟩, ⟨n8, n9⟩, ⟨n10, n11⟩⟩ := hB rfl
      clear hB
      obtain ⟨c0, c1, c2, c3, c4, c5⟩ := blk6 B1
      obtain ⟨d0, d1, d2, d3, d4, d5⟩ := blk6 B2
      have hk : (bits .and .i64 r r' = r) ↔ bits .andNot .i64 r r' = 0 := by rw [Bits64.andNot_zero (by omega) (by omega), Bits64.and_comm]
      have HK : Hid (bits .and .i64 r r' = r ↔ bits .andNot .i64 r r' = 0) := hk
      clear hk
      go_wp2
      all_goals go_ret
      all_goals refine ⟨ret_bool ?_, K⟩
      all_goals
        have e1 := HRB.out
        have e2 := HK.out
        clear HRB HK K B1 B2 c0 c1 c2 c3 c4 c5 d0 d1 d2 d3 d4 d5
        unfold restB withinB at e1
        try simp only [Bool.true_and, beq_iff_eq, beq_eq_false_iff_ne, bne_iff_ne, bne_eq_false_iff_eq, ne_eq] at *
        rw [← e1]
        generalize bits .and .i64 r r' = y at *
        generalize bits .andNot .i64 r r' = z at *
        first
          | (simp [*]; done)
          | (rw [Bool.eq_iff_iff]; (repeat' split) <;> first | (exfalso; omega) | (simp; done) | (simp; omega) | (simp_all; done))
end
end Go.Proofs.Ytddjkejliogenaa.CapRefUnder
