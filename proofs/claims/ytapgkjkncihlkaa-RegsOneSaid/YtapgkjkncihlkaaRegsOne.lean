/- RegsOne: a register that is set is got, and no other one changes. The walk through the statement. -/
import Derived.Test.YtapgkjkncihlkaaRegs
import Derived.Test.YtapgkjkncihlkaaWords
namespace Go.Proofs.Ytapgkjkncihlkaa.Regs
open Go Go.RowKit Go.Proofs.Ytapgkjkncihlkaa.Heap Go.Proofs.Ytapgkjkncihlkaa.Words

theorem blk_at {w : World} {g : Nat} {t : TypeId} {L : List Int} (h : Blk w g t (nums .u64 L).toArray) (k : Nat) (hk : k < L.length) : w.cell? ⟨g, k, none⟩ = some (.int .u64 (L.getD k 0)) := by
  rw [h.cell, List.getElem?_toArray]
  exact nums_get _ _ _ hk

/-- What the loop over all registers asks. -/
def Beside (L N : List Int) (i x : Int) : Prop := ∀ k : Nat, k < 8 → ((k : Int) = i → N.getD k 0 = x) ∧ ((k : Int) ≠ i → N.getD k 0 = L.getD k 0)

theorem beside_set {L : List Int} (hl : L.length = 8) (i x : Int) (h0 : 0 ≤ i) (h1 : i < 8) : Beside L (L.set i.toNat x) i x := by
  intro k hk
  refine ⟨fun e => ?_, fun e => ?_⟩
  · subst e
    simp [List.getD_eq_getElem?_getD, hl, hk]
  · have : ¬ i.toNat = k := by omega
    simp [List.getD_eq_getElem?_getD, this]
theorem beside_out {L : List Int} (i x : Int) (hi : ¬ (0 ≤ i ∧ i < 8)) : Beside L L i x := by
  intro k hk
  exact ⟨fun e => by omega, fun _ => rfl⟩

set_option maxRecDepth 100000 in
set_option maxHeartbeats 1000000 in
theorem regsOne_walk (A : Option Addr) (n c : Nat) (xs : List Int) (i x : Int) (w : World) (hx : Nums w .u64 A n xs) :
    Calls Try.prog 6 #[.slice A n c, .int .i64 i, .int .u64 x] w fun e w' => e = .returned (.bool true) ∧ Chg [] w w' := by
  have hL : (loaded [0, 0, 0, 0, 0, 0, 0, 0] xs).length = 8 := by unfold loaded; split <;> simp_all
  obtain ⟨L, eL⟩ : ∃ L, loaded [0, 0, 0, 0, 0, 0, 0, 0] xs = L := ⟨_, rfl⟩
  rw [eL] at hL
  have HL : Hid (loaded [0, 0, 0, 0, 0, 0, 0, 0] xs = L ∧ L.length = 8) := ⟨eL, hL⟩
  clear hL eL
  have hset : ∃ (E : Int) (N : List Int), Hid (Beside L N i x ∧ N.length = 8) ∧ (∀ {w : World} {g : Nat}, File w g L → Calls Try.prog 23 #[.pointer (some ⟨g, 0, none⟩), .int .i64 i, .int .u64 x] w fun e w' => e = .returned (.int .i64 E) ∧ File w' g N ∧ Chg [g] w w') ∧
      ((E = 0 ∧ 0 ≤ i ∧ i < 8) ∨ (E = 1 ∧ 0 ≤ i ∧ 8 ≤ i) ∨ (E = 1 ∧ i < 0)) := by
    by_cases hi : 0 ≤ i ∧ i < 8
    · exact ⟨0, L.set i.toNat x, ⟨beside_set HL.out.2 i x hi.1 hi.2, by simpa using HL.out.2⟩, fun h => set_ok h i x hi.1 hi.2, .inl ⟨rfl, hi.1, hi.2⟩⟩
    · refine ⟨1, L, ⟨beside_out i x hi, HL.out.2⟩, fun {w g} h => (set_out h i x hi).mono fun e w' ⟨h1, h2⟩ => ⟨h1, h.chg h2 (by simp), h2.of_nil⟩, ?_⟩
      by_cases h0 : 0 ≤ i
      · exact .inr (.inl ⟨rfl, h0, by omega⟩)
      · exact .inr (.inr ⟨rfl, by omega⟩)
  obtain ⟨E, N, HN, hset, hcase⟩ := hset
  rcases hcase with ⟨rfl, i0, i1⟩ | ⟨rfl, i0, i1⟩ | ⟨rfl, i0⟩
  all_goals
    go_enter Try.func6, Try.ntmps6
    go_wp2_with fail
    refine (new_fresh _).mono ?_
    rintro e w1 ⟨p, rfl, hp, f1, k1⟩
    have s1 := f1.2.lt
    have hx1 := hx.chg k1 (fun _ _ => by simp)
    go_wp2_with fail
    refine (load_any f1 A n c xs hx1).mono ?_
    rintro e w2 ⟨rfl, f2, k2⟩
    rw [HL.out.1] at f2
    have K2 : Chg [] w w2 := k1.trans k2 (by simp; omega)
    go_wp2_with fail
    refine (all_fresh f2).mono ?_
    rintro e w3 ⟨o, rfl, ho, o3, k3⟩
    have s2 := f2.2.lt
    have f3 := f2.chg k3 (by simp)
    have K3 : Chg [] w w3 := K2.trans k3 (by simp)
    go_wp2_with fail
    refine (hset f3).mono ?_
    rintro e w4 ⟨rfl, f4, k4⟩
    have o4 := o3.chg k4 (by simp; omega)
    have K4 : Chg [] w w4 := K3.trans k4 (by simp; omega)
    go_wp2_with fail
    refine (all_fresh f4).mono ?_
    rintro e w5 ⟨q, rfl, hq, q5, k5⟩
    have o5 := o4.chg k5 (by simp)
    have K5 : Chg [] w w5 := K4.trans k5 (by simp)
    clear hset f1 f2 f3 f4 k1 k2 k3 k4 k5 K2 K3 K4 o3 o4 hx hx1
    go_wp2_with fail
    go_loopw [11] (fun i wr => ∃ k : Nat, k ≤ 8 ∧ i = .int .i64 k ∧ ∃ d, wr = w5.drewN d) (fun i _ => 8 - (intOf i).toNat)
    case atStart => exact ⟨0, Nat.zero_le _, rfl, 0, rfl⟩
    case round =>
      obtain ⟨k, hk, rfl, d, rfl⟩ := hrel
      by_cases hlt : k < 8
      · have c1 := blk_at o5 k (by rw [HL.out.2]; exact hlt)
        have c2 := blk_at q5 k (by rw [HN.out.2]; exact hlt)
        obtain ⟨hb1, hb2⟩ := HN.out.1 k hlt
        generalize L.getD k 0 = y at c1 hb2
        generalize N.getD k 0 = z at c2 hb1 hb2
        by_cases hki : (k : Int) = i
        · have t1 : ((k : Int) == i) = true := beq_iff_eq.2 hki
          have t2 : ((k : Int) != i) = false := by simp [hki]
          have t3 : (z != x) = false := by simp [hb1 hki]
          clear hki hb1 hb2
          go_wp2_with fail
          go_quiet (fail)
          go_wp2
          go_roundw
          case rel => exact ⟨k + 1, by omega, by go_num, d + nq, rfl⟩
          case measure => simp [intOf]; omega
        · have t1 : ((k : Int) == i) = false := beq_eq_false_iff_ne.2 hki
          have t2 : ((k : Int) != i) = true := by rw [bne_iff_ne]; exact hki
          have t3 : (z != y) = false := by simp [hb2 hki]
          clear hki hb1 hb2
          go_wp2_with fail
          go_quiet (fail)
          go_wp2
          go_roundw
          case rel => exact ⟨k + 1, by omega, by go_num, d + nq, rfl⟩
          case measure => simp [intOf]; omega
      · obtain rfl : k = 8 := by omega
        go_wp2_with fail
        refine (awake_ok _).mono ?_
        rintro e w9 ⟨rfl, k9⟩
        go_wp2
        go_ret
        exact ⟨rfl, (K5.drewN d).trans k9 (by simp)⟩
end Go.Proofs.Ytapgkjkncihlkaa.Regs
