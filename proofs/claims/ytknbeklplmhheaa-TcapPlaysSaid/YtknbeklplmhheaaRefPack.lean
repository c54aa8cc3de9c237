/- What Pack of package palanquinref01 does. -/
import Derived.Test.YtknbeklplmhheaaParts
import Derived.Test.YtknbeklplmhheaaRef01
namespace Go.Proofs.Ytknbeklplmhheaa.RefPack
open Go Go.RowKit Go.Proofs.Ytknbeklplmhheaa Go.Proofs.Ytknbeklplmhheaa.Heap Go.Proofs.Ytknbeklplmhheaa.Bits Go.Proofs.Ytknbeklplmhheaa.Field Go.Proofs.Ytknbeklplmhheaa.Places Go.Proofs.Ytknbeklplmhheaa.Parts

theorem packS_bad {ns vs : List Int} (h : ¬ (AllCan ns ns.length ∧ FitAll ns vs ns.length)) : packS ns vs = (0, 1) := if_neg h
theorem packS_good {ns vs : List Int} (h : AllCan ns ns.length ∧ FitAll ns vs ns.length) : packS ns vs = ((accS ns vs ns.length : Int), 0) := if_pos h
theorem drewMore {w W : World} (h : Hid (∃ q, W = w.drewN q)) (n : Nat) : ∃ q, W.drewN n = w.drewN q := by
  obtain ⟨q, rfl⟩ := h.out
  exact ⟨q + n, World.drewN_drewN ..⟩
/-- What a loop over the parts knows behind its first rounds. -/
def Upto (ns vs : List Int) (k : Nat) (at_ acc : Int) : Prop := at_ = sumTo ns k ∧ acc = (accS ns vs k : Int) ∧ AllCan ns k ∧ FitAll ns vs k
theorem Upto.start (ns vs : List Int) : Upto ns vs 0 0 0 := ⟨rfl, rfl, fun j hj => absurd hj (by omega), fun j hj => absurd hj (by omega)⟩
theorem Upto.bd {ns vs : List Int} {k : Nat} {a x : Int} (h : Upto ns vs k a x) (hk : k ≤ ns.length) : 0 ≤ a ∧ a ≤ 64 ∧ 0 ≤ x ∧ x < 18446744073709551616 := by
  obtain ⟨rfl, rfl, h1, h2⟩ := h
  have := sumTo_bd hk h1
  have := acc_lt64 hk h1 h2
  omega
theorem Upto.next {ns vs : List Int} {k : Nat} {a x y v : Int} (h : Upto ns vs k a x) (hk : k < ns.length) (hy : ns.getD k 0 = y) (hv : vs.getD k 0 = v) (hp : putB a y v = true) : Upto ns vs (k + 1) (a + y) (putI x a y v) ∧ a + y ≤ 64 := by
  obtain ⟨rfl, rfl, h1, h2⟩ := h
  subst hy hv
  unfold putB at hp
  rw [Bool.and_eq_true] at hp
  have hc := can_succ h1 hp.1
  have hf : FitAll ns vs (k + 1) := fun j hj => by
    by_cases e : j = k
    · subst e; exact hp.2
    · exact h2 j (by omega)
  exact ⟨⟨(sumTo_succ hk).symm, put_step hk hc hf, hc, hf⟩, (can_bd hp.1).2.2⟩
theorem Upto.bad {ns vs : List Int} {k : Nat} {a x y v : Int} (h : Upto ns vs k a x) (hk : k < ns.length) (hy : ns.getD k 0 = y) (hv : vs.getD k 0 = v) (hp : putB a y v = false) : packS ns vs = (0, 1) := by
  obtain ⟨rfl, rfl, h1, h2⟩ := h
  subst hy hv
  refine packS_bad fun ⟨hc, hf⟩ => ?_
  unfold putB at hp
  rw [hc k hk, hf k hk] at hp
  cases hp
theorem Upto.fin {ns vs : List Int} {a x : Int} (h : Upto ns vs ns.length a x) : packS ns vs = (x, 0) := by
  obtain ⟨rfl, rfl, h1, h2⟩ := h
  exact packS_good ⟨h1, h2⟩

set_option maxRecDepth 100000 in
theorem pack_ok (A B : Option Addr) (n m c d : Nat) (ns vs : List Int) (w : World) (hn : Nums w .i64 A n ns) (hv : Nums w .u64 B m vs) (hnm : n = m) (hvs : ∀ x ∈ vs, 0 ≤ x ∧ x < 18446744073709551616) :
    Calls Try.prog 112 #[.slice A n c, .slice B m d] w fun e w' => e = .returned (.tuple #[.int .u64 (packS ns vs).1, .int .i64 (packS ns vs).2]) ∧ ∃ q, w' = w.drewN q := by
  subst hnm
  have b1 := hn.2.1
  have ln := hn.1
  have lv := hv.1
  have hb : ((n : Int) != (n : Int)) = false := by simp
  obtain ⟨s, es⟩ : ∃ s, packS ns vs = s := ⟨_, rfl⟩
  rw [es]
  have HS : Hid (packS ns vs = s) := es
  have HVS : Hid (∀ x ∈ vs, 0 ≤ x ∧ x < 18446744073709551616) := hvs
  have HN : Hid (Nums w .i64 A n ns) := hn
  have HV : Hid (Nums w .u64 B n vs) := hv
  have LN : Hid (ns.length = n) := ln
  have LV : Hid (vs.length = n) := lv
  clear es hvs hn hv ln lv
  go_enter Try.func112, Try.ntmps112
  go_wp2_with fail
  go_loopw [6, 7, 8] (fun x a i wr => ∃ (k : Nat) (acc at_ : Int), k ≤ n ∧ i = .int .i64 k ∧ x = .int .u64 acc ∧ a = .int .i64 at_ ∧ Hid (Upto ns vs k at_ acc) ∧ Hid (∃ q, wr = w.drewN q)) (fun _ _ i _ => n - (intOf i).toNat)
  case atStart => exact ⟨0, 0, 0, Nat.zero_le _, rfl, rfl, rfl, Upto.start ns vs, ⟨0, rfl⟩⟩
  case round =>
    obtain ⟨k, acc, at_, hk, rfl, rfl, rfl, HU, HQ⟩ := hrel
    obtain ⟨t0, t1, x0, x1⟩ := HU.out.bd (by rw [LN.out]; exact hk)
    by_cases hlt : k < n
    · obtain ⟨aA, rfl, hA⟩ := HN.out.2.2 (by omega)
      obtain ⟨aB, rfl, hB⟩ := HV.out.2.2 (by omega)
      have cA : wr.cell? (aA.add k) = some (.int .i64 (ns.getD k 0)) := by obtain ⟨q, e⟩ := HQ.out; rw [e]; exact hA k hlt
      have cB : wr.cell? (aB.add k) = some (.int .u64 (vs.getD k 0)) := by obtain ⟨q, e⟩ := HQ.out; rw [e]; exact hB k hlt
      have hvk : 0 ≤ vs.getD k 0 ∧ vs.getD k 0 < 18446744073709551616 := by
        refine HVS.out _ ?_
        rw [List.getD_eq_getElem?_getD, List.getElem?_eq_getElem (by rw [LV.out]; exact hlt)]; simp
      obtain ⟨y, ey⟩ : ∃ y, ns.getD k 0 = y := ⟨_, rfl⟩
      obtain ⟨v, ev⟩ : ∃ v, vs.getD k 0 = v := ⟨_, rfl⟩
      rw [ey] at cA
      rw [ev] at cB hvk
      have HY : Hid (ns.getD k 0 = y) := ey
      have HX : Hid (vs.getD k 0 = v) := ev
      obtain ⟨v0, v1⟩ := hvk
      clear hA hB ey ev
      have HP : Hid (∀ W, Calls Try.prog 118 #[.int .u64 acc, .int .i64 at_, .int .i64 y, .int .u64 v] W fun e w' => e = .returned (.tuple #[.int .u64 (putI acc at_ y v), .int .i64 (putE at_ y v)]) ∧ w' = W) := fun W => (Ref01.put_ok acc at_ y v x0 x1 v0 v1 W).mono fun _ _ h => ⟨h.1, h.2.symm⟩
      by_cases hp : putB at_ y v = true
      · have hU := HU.out.next (by rw [LN.out]; exact hlt) HY.out HX.out hp
        have hsm : at_ + y ≤ 64 := hU.2
        have hy1 : 1 ≤ y := by
          unfold putB at hp
          rw [Bool.and_eq_true] at hp
          exact (can_bd hp.1).2.1
        have hE : putE at_ y v = 0 := if_pos hp
        rw [hE] at HP
        have HU' : Hid _ := hU.1
        obtain ⟨z, ez⟩ : ∃ z, putI acc at_ y v = z := ⟨_, rfl⟩
        rw [ez] at HP HU'
        clear hp hE hU ez
        go_wp2_with fail
        go_quiet ((go_at_call 118; exact Calls.quiet_of_same (HP.out _)))
        go_wp2
        go_roundw
        case rel => exact ⟨k + 1, z, at_ + y, by omega, by go_num, rfl, by go_num, HU', drewMore HQ nq⟩
        case measure => simp [intOf]; omega
      · have hb' := HU.out.bad (by rw [LN.out]; exact hlt) HY.out HX.out (by simpa using hp)
        have hE : putE at_ y v = 1 := if_neg hp
        have hI : putI acc at_ y v = 0 := if_neg hp
        rw [hE, hI] at HP
        rw [HS.out] at hb'
        subst hb'
        clear hp hE hI
        go_wp2_with fail
        go_quiet ((go_at_call 118; exact Calls.quiet_of_same (HP.out _)))
        go_wp2
        go_ret2
        exact ⟨rfl, drewMore HQ nq⟩
    · obtain rfl : k = n := by omega
      have hb' : packS ns vs = (acc, 0) := by have := HU.out; rw [← LN.out] at this; exact this.fin
      rw [HS.out] at hb'
      subst hb'
      go_wp2
      go_ret2
      exact ⟨rfl, HQ.out⟩

theorem pack_len (A B : Option Addr) (n m c d : Nat) (w : World) (hnm : n ≠ m) :
    Calls Try.prog 112 #[.slice A n c, .slice B m d] w fun e w' => e = .returned (.tuple #[.int .u64 0, .int .i64 1]) ∧ w = w' := by
  have hb : ((n : Int) != (m : Int)) = true := by rw [bne_iff_ne]; omega
  go_enter Try.func112, Try.ntmps112
  go_wp2
  go_ret2
  exact ⟨rfl, rfl⟩
end Go.Proofs.Ytknbeklplmhheaa.RefPack
