/- The iterator of package field over widths ('places'): it hands over, one behind the other, each width's number and place, and stops behind the first that can't be, at -1. -/
import Derived.RangeFuncNested
import Derived.RangeFuncBound
import Derived.RangeFuncCalls
import Derived.RangeFuncLeaves
import Derived.Shelf.Abstract
import Derived.Shelf.RegionOpen
import Derived.WalkKit
import Derived.OwnWalkIn
import Derived.TacticsInMore
import Derived.LoopNIn
import Derived.LoopIn
import Derived.Test.YtknbeklplmhheaaField
namespace Go.Proofs.Ytknbeklplmhheaa.Places
open Go Go.RowKit Go.Shelf Go.Proofs.Ytknbeklplmhheaa.Heap Go.Proofs.Ytknbeklplmhheaa.Bits Go.Proofs.Ytknbeklplmhheaa.Field
attribute [local go_sem] Oper.semAt_some

/-- How many bits the first k widths have together. -/
def sumTo (ns : List Int) (k : Nat) : Int := (ns.take k).sum
theorem sumTo_succ {ns : List Int} {k : Nat} (h : k < ns.length) : sumTo ns (k + 1) = sumTo ns k + ns.getD k 0 := by
  unfold sumTo
  rw [List.take_succ_eq_append_getElem h, List.sum_append]
  simp [List.getD_eq_getElem?_getD, List.getElem?_eq_getElem h]
/-- The first k widths can be. -/
def AllCan (ns : List Int) (k : Nat) : Prop := ∀ j, j < k → canB (sumTo ns j) (ns.getD j 0) = true
theorem sumTo_bd {ns : List Int} {k : Nat} (hk : k ≤ ns.length) (h : AllCan ns k) : 0 ≤ sumTo ns k ∧ sumTo ns k ≤ 64 ∧ (k : Int) ≤ sumTo ns k := by
  induction k with
  | zero => simp [sumTo]
  | succ k ih =>
    have h1 := ih (by omega) (fun j hj => h j (by omega))
    have h2 := h k (by omega)
    rw [sumTo_succ (by omega)]
    unfold canB at h2
    rw [decide_eq_true_eq] at h2
    omega
/-- What the k-th round is handed. -/
def placeAt (ns : List Int) (k : Nat) : Int × Int := if canB (sumTo ns k) (ns.getD k 0) = true then ((k : Int), sumTo ns k) else ((k : Int), -1)
/-- How many rounds there are: up to the first width that can't be, with it. -/
def rounds (ns : List Int) : Nat → Nat → Nat
  | 0, k => k
  | f + 1, k => if k < ns.length then (if canB (sumTo ns k) (ns.getD k 0) = true then rounds ns f (k + 1) else k + 1) else k
theorem rounds_le (ns : List Int) : ∀ f k, k ≤ ns.length → rounds ns f k ≤ ns.length
  | 0, k, h => h
  | f + 1, k, h => by
    unfold rounds
    split
    · split
      · exact rounds_le ns f (k + 1) (by omega)
      · omega
    · exact h
theorem rounds_ge (ns : List Int) : ∀ f k, k ≤ rounds ns f k
  | 0, k => Nat.le_refl _
  | f + 1, k => by
    unfold rounds
    split
    · split
      · exact Nat.le_trans (Nat.le_succ k) (rounds_ge ns f (k + 1))
      · omega
    · exact Nat.le_refl _
theorem rounds_from (ns : List Int) : ∀ f k, ns.length ≤ f + k → AllCan ns k →
    (AllCan ns ns.length ∧ rounds ns f k = max k ns.length) ∨ ∃ j, k ≤ j ∧ j < ns.length ∧ AllCan ns j ∧ canB (sumTo ns j) (ns.getD j 0) = false ∧ rounds ns f k = j + 1
  | 0, k, h, hc => .inl ⟨fun j hj => hc j (by omega), by unfold rounds; omega⟩
  | f + 1, k, h, hc => by
    unfold rounds
    by_cases hk : k < ns.length
    · rw [if_pos hk]
      by_cases hb : canB (sumTo ns k) (ns.getD k 0) = true
      · rw [if_pos hb]
        have hc' : AllCan ns (k + 1) := fun j hj => by
          rcases Nat.lt_succ_iff_lt_or_eq.1 hj with h1 | rfl
          · exact hc j h1
          · exact hb
        rcases rounds_from ns f (k + 1) (by omega) hc' with ⟨h1, h2⟩ | ⟨j, h1, h2, h3, h4, h5⟩
        · exact .inl ⟨h1, by rw [h2]; omega⟩
        · exact .inr ⟨j, by omega, h2, h3, h4, h5⟩
      · rw [if_neg hb]
        exact .inr ⟨k, Nat.le_refl _, hk, hc, by simpa using hb, rfl⟩
    · rw [if_neg hk]
      exact .inl ⟨fun j hj => hc j (by omega), by omega⟩
/-- The number of rounds from the begin. -/
def len (ns : List Int) : Nat := rounds ns ns.length 0
theorem len_cases (ns : List Int) : (AllCan ns ns.length ∧ len ns = ns.length) ∨ ∃ j, j < ns.length ∧ AllCan ns j ∧ canB (sumTo ns j) (ns.getD j 0) = false ∧ len ns = j + 1 := by
  rcases rounds_from ns ns.length 0 (by omega) (fun j hj => absurd hj (by omega)) with ⟨h1, h2⟩ | ⟨j, _, h2, h3, h4, h5⟩
  · exact .inl ⟨h1, by unfold len; rw [h2]; omega⟩
  · exact .inr ⟨j, h2, h3, h4, h5⟩

/-- What a round may be handed: the number of a width; a place, or -1. -/
abbrev Pl (ns : List Int) := { p : Int × Int // 0 ≤ p.1 ∧ p.1 < ns.length ∧ -1 ≤ p.2 ∧ p.2 ≤ 64 }
abbrev encs {ns : List Int} (x : Pl ns) : Array Value := #[.int .i64 x.1.1, .int .i64 x.1.2]
theorem place_fits {ns : List Int} {k : Nat} (hk : k < ns.length) (hc : AllCan ns k) : 0 ≤ (placeAt ns k).1 ∧ (placeAt ns k).1 < ns.length ∧ -1 ≤ (placeAt ns k).2 ∧ (placeAt ns k).2 ≤ 64 := by
  have := sumTo_bd (Nat.le_of_lt hk) hc
  unfold placeAt
  split <;> (refine ⟨?_, ?_, ?_, ?_⟩ <;> simp <;> omega)
theorem can_upto {ns : List Int} {k : Nat} (hk : k < len ns) : k < ns.length ∧ AllCan ns k := by
  rcases len_cases ns with ⟨h1, h2⟩ | ⟨j, h1, h2, h3, h4⟩
  · exact ⟨by omega, fun i hi => h1 i (by omega)⟩
  · exact ⟨by omega, fun i hi => h2 i (by omega)⟩
/-- What the rounds are handed, the first first. -/
def upto (ns : List Int) : (k : Nat) → k ≤ len ns → List (Pl ns)
  | 0, _ => []
  | k + 1, h => upto ns k (by omega) ++ [⟨placeAt ns k, place_fits (can_upto (k := k) h).1 (can_upto (k := k) h).2⟩]
theorem upto_length (ns : List Int) : ∀ k h, (upto ns k h).length = k
  | 0, _ => rfl
  | k + 1, h => by rw [upto, List.length_append, upto_length ns k]; rfl

theorem len_of_all {ns : List Int} (h : AllCan ns ns.length) : len ns = ns.length := by
  rcases len_cases ns with ⟨_, h2⟩ | ⟨j, h1, _, h3, _⟩
  · exact h2
  · rw [h j h1] at h3; cases h3
theorem len_of_bad {ns : List Int} {k : Nat} (hk : k < ns.length) (h : AllCan ns k) (hb : canB (sumTo ns k) (ns.getD k 0) = false) : len ns = k + 1 := by
  rcases len_cases ns with ⟨h1, _⟩ | ⟨j, h1, h2, h3, h4⟩
  · rw [h1 k hk] at hb; cases hb
  · rcases Nat.lt_trichotomy j k with h5 | rfl | h5
    · rw [h j h5] at h3; cases h3
    · exact h4
    · rw [h2 k h5] at hb; cases hb
theorem lt_len {ns : List Int} {k : Nat} (hk : k < ns.length) (h : AllCan ns k) : k < len ns := by
  rcases len_cases ns with ⟨_, h2⟩ | ⟨j, h1, h2, h3, h4⟩
  · omega
  · rcases Nat.lt_or_ge j k with h5 | h5
    · rw [h j h5] at h3; cases h3
    · omega
theorem can_succ {ns : List Int} {k : Nat} (h : AllCan ns k) (hb : canB (sumTo ns k) (ns.getD k 0) = true) : AllCan ns (k + 1) := fun j hj => by
  rcases Nat.lt_succ_iff_lt_or_eq.1 hj with h1 | rfl
  · exact h j h1
  · exact hb
theorem upto_cast {ns : List Int} {a b : Nat} (e : a = b) (h : a ≤ len ns) (h' : b ≤ len ns) : upto ns a h = upto ns b h' := by subst e; rfl

set_option maxRecDepth 100000 in
set_option maxHeartbeats 2000000 in
/-- The iterator itself, at a slice of widths that has an address. -/
theorem places1_in (ns : List Int) (l Bn n₀ : Nat) (ad : Addr) (cap : Nat) (hb : ad.block < n₀) (hcap : ns.length ≤ 140737488355328) (J Jx : List (Pl ns) → World → Prop)
    (hY : ∀ pre x W, J pre W → pre.length < len ns → YieldAt Fence.wide 8 Try.prog l (encs x) W fun e W' =>
      (e = .returned (.bool true) ∧ J (pre ++ [x]) W' ∧ Below n₀ W W') ∨ (e = .returned (.bool false) ∧ Jx (pre ++ [x]) W'))
    (W : World) (hBn : W.cell? ⟨Bn, 0, none⟩ = some (.slice (some ad) ns.length cap)) (hc : ∀ j, j < ns.length → W.cell? (ad.add j) = some (.int .i64 (ns.getD j 0))) (h0 : J [] W) :
    CallsIn Fence.wide 9 Try.prog 128 #[.func (.yield l) #[] #[], .pointer (some ⟨Bn, 0, none⟩)] W fun e W' => (∃ v, e = .returned v) ∧
      ((∃ ys, ys = upto ns (len ns) (Nat.le_refl _) ∧ J ys W') ∨ (∃ pre, (∃ k h, pre = upto ns k h) ∧ Jx pre W')) := by
  have HC : Hid (∀ j, j < ns.length → W.cell? (ad.add j) = some (.int .i64 (ns.getD j 0))) := hc
  have HY : Hid _ := hY
  have HL : Hid _ := len_cases ns
  clear hc hY
  refine callsIn_of_wp Try.func128 rfl trivial ?_ rfl
  simp only [Try.ntmps128, List.size_toArray, List.length_cons, List.length_nil, Nat.reduceAdd, Nat.reduceSub, Array.replicate_succ, Array.replicate_zero, List.push_toArray, List.append_toArray, List.nil_append, List.cons_append]
  gi_wp2
  gi_loopw [3, 8] (fun at_ i wr => ∃ k : Nat, k ≤ ns.length ∧ i = .int .i64 k ∧ at_ = .int .i64 (sumTo ns k) ∧ Hid (AllCan ns k) ∧ (∃ h : k ≤ len ns, J (upto ns k h) wr) ∧ Below n₀ W wr)
    (fun _ i _ => ns.length - (intOf i).toNat)
  case atStart => exact ⟨0, Nat.zero_le _, rfl, rfl, fun j hj => absurd hj (by omega), ⟨Nat.zero_le _, h0⟩, Below.refl _ _⟩
  case round =>
    obtain ⟨k, hk, rfl, rfl, HA, ⟨hkl, hJs⟩, hnx⟩ := hrel
    by_cases hlt : k < ns.length
    · have c1 : wr.cell? (ad.add k) = some (.int .i64 (ns.getD k 0)) := (hnx.cell (p := ad.add k) (by rw [block_of_add]; exact hb)).trans (HC.out k hlt)
      have hkn := lt_len hlt HA.out
      obtain ⟨hs0, hs1, _⟩ := sumTo_bd (Nat.le_of_lt hlt) HA.out
      by_cases hcan : canB (sumTo ns k) (ns.getD k 0) = true
      · have HA' : Hid (AllCan ns (k + 1)) := can_succ HA.out hcan
        have hx : (encs (⟨placeAt ns k, place_fits hlt HA.out⟩ : Pl ns)) = #[.int .i64 (k : Int), .int .i64 (sumTo ns k)] := by simp only [encs, placeAt]; rw [if_pos hcan]
        obtain ⟨fn, tmps, assign, body, hy, hR⟩ := HY.out _ ⟨placeAt ns k, place_fits hlt HA.out⟩ wr hJs (by rw [upto_length]; exact hkn)
        rw [hx] at hy
        have hcb : 0 ≤ sumTo ns k ∧ 1 ≤ ns.getD k 0 ∧ sumTo ns k + ns.getD k 0 ≤ 64 := by
          unfold canB at hcan; rw [decide_eq_true_eq] at hcan; exact hcan
        obtain ⟨_, hb1, hb2⟩ := hcb
        have HS : Hid (sumTo ns (k + 1) = sumTo ns k + ns.getD k 0) := sumTo_succ hlt
        obtain ⟨x, ex⟩ : ∃ x, ns.getD k 0 = x := ⟨_, rfl⟩
        obtain ⟨s, es⟩ : ∃ s, sumTo ns k = s := ⟨_, rfl⟩
        rw [ex] at c1 hcan hb1 hb2 HS
        rw [es] at hcan hb2 HS hs0 hs1 hy ⊢
        clear ex hx
        gi_wp2_with (refine ⟨trivial, ?_⟩; gi_at_call 129; refine (callsIn_wide.2 (can_ok _ _ _)).mono ?_; rintro e w' ⟨rfl, rfl⟩)
        refine hR.mono ?_
        rintro e W3 (⟨rfl, hJ3, hk3⟩ | ⟨rfl, hJx3⟩)
        · gi_wp2
          go_roundw
          case rel => exact ⟨k + 1, by omega, by simp, by rw [HS.out], HA', ⟨hkn, hJ3⟩, hnx.trans hk3⟩
          case measure => simp [intOf]; omega
        · gi_wp2
          refine bodyPost_ret (results_none rfl _ _ _) rfl ?_
          exact ⟨⟨_, rfl⟩, .inr ⟨_, ⟨k + 1, hkn, rfl⟩, hJx3⟩⟩
      · have hcan' : canB (sumTo ns k) (ns.getD k 0) = false := by simpa using hcan
        have hx : (encs (⟨placeAt ns k, place_fits hlt HA.out⟩ : Pl ns)) = #[.int .i64 (k : Int), .int .i64 (-1)] := by simp only [encs, placeAt]; rw [if_neg hcan]
        obtain ⟨fn, tmps, assign, body, hy, hR⟩ := HY.out _ ⟨placeAt ns k, place_fits hlt HA.out⟩ wr hJs (by rw [upto_length]; exact hkn)
        rw [hx] at hy
        have hend := len_of_bad hlt HA.out hcan'
        have HE : Hid (len ns = k + 1) := hend
        obtain ⟨x, ex⟩ : ∃ x, ns.getD k 0 = x := ⟨_, rfl⟩
        obtain ⟨s, es⟩ : ∃ s, sumTo ns k = s := ⟨_, rfl⟩
        rw [ex] at c1 hcan'
        rw [es] at hcan' hs0 hs1 ⊢
        clear ex hx hcan hend
        gi_wp2_with (refine ⟨trivial, ?_⟩; gi_at_call 129; refine (callsIn_wide.2 (can_ok _ _ _)).mono ?_; rintro e w' ⟨rfl, rfl⟩)
        refine hR.mono ?_
        rintro e W3 (⟨rfl, hJ3, hk3⟩ | ⟨rfl, hJx3⟩)
        · gi_wp2
          refine bodyPost_ret (results_none rfl _ _ _) rfl ?_
          refine ⟨⟨_, rfl⟩, .inl ⟨_, rfl, ?_⟩⟩
          rw [upto_cast HE.out (Nat.le_refl _) hkn]
          exact hJ3
        · gi_wp2
          refine bodyPost_ret (results_none rfl _ _ _) rfl ?_
          exact ⟨⟨_, rfl⟩, .inr ⟨_, ⟨k + 1, hkn, rfl⟩, hJx3⟩⟩
    · obtain rfl : k = ns.length := by omega
      have HE : Hid (len ns = ns.length) := len_of_all HA.out
      gi_wp2
      go_end0
      refine ⟨⟨_, rfl⟩, .inl ⟨_, rfl, ?_⟩⟩
      rw [upto_cast HE.out (Nat.le_refl _) hkl]
      exact hJs

set_option maxRecDepth 100000 in
set_option maxHeartbeats 1000000 in
theorem places1_nil_in (l Bn : Nat) (J : List (Pl []) → World → Prop) (A : Option Addr) (cap : Nat) (W : World) (hBn : W.cell? ⟨Bn, 0, none⟩ = some (.slice A 0 cap)) (h0 : J [] W) :
    CallsIn Fence.wide 9 Try.prog 128 #[.func (.yield l) #[] #[], .pointer (some ⟨Bn, 0, none⟩)] W fun e W' => (∃ v, e = .returned v) ∧ J [] W' := by
  refine callsIn_of_wp Try.func128 rfl trivial ?_ rfl
  simp only [Try.ntmps128, List.size_toArray, List.length_cons, List.length_nil, Nat.reduceAdd, Nat.reduceSub, Array.replicate_succ, Array.replicate_zero, List.push_toArray, List.append_toArray, List.nil_append, List.cons_append]
  gi_wp2
  gi_loopw [8] (fun i wr => i = .int .i64 0 ∧ J [] wr) (fun _ _ => 0)
  case atStart => exact ⟨rfl, h0⟩
  case round =>
    obtain ⟨rfl, hJs⟩ := hrel
    gi_wp2
    go_end0
    exact ⟨⟨_, rfl⟩, hJs⟩

/-- 'places(n)' hands over, whatever the loop's body is that keeps what lay below n₀. -/
theorem places_stops (ns : List Int) (Bn n₀ : Nat) (A : Option Addr) (cap : Nat) (w : World) (hBs : Bn < w.heap.size) (hn₀ : n₀ ≤ w.heap.size)
    (hc : w.cell? ⟨Bn, 0, none⟩ = some (.slice A ns.length cap)) (hN : Nums w .i64 A ns.length ns) (hA : ∀ ad, A = some ad → 0 < ns.length → ad.block < n₀) :
    SeqStopsK Fence.wide 9 Try.prog 128 #[.pointer (some ⟨Bn, 0, none⟩)] (encs (ns := ns)) (Below n₀) (fun ys => ys = upto ns (len ns) (Nat.le_refl _)) (fun pre => ∃ k h, pre = upto ns k h) (len ns) w := by
  intro l J Jx W hW _ _ hY h0
  have hc' := (hW.cell (p := ⟨Bn, 0, none⟩) hBs).trans hc
  rcases Nat.eq_zero_or_pos ns.length with h | h
  · have : ns = [] := List.eq_nil_of_length_eq_zero h
    subst this
    exact (places1_nil_in l Bn J A cap W hc' h0).mono fun e W' ⟨he, hj⟩ => ⟨he, .inl ⟨_, rfl, hj⟩⟩
  · obtain ⟨ad, rfl, hcell⟩ := hN.2.2 h
    exact places1_in ns l Bn n₀ ad cap (hA ad rfl h) hN.2.1 J Jx hY W hc' (fun j hj => (hW.cell (p := ad.add j) (by rw [block_of_add]; have := hA ad rfl h; omega)).trans (hcell j hj)) h0

theorem places_in (A : Option Addr) (n cap : Nat) (w : World) :
    CallsIn Fence.wide 9 Try.prog 122 #[.slice A n cap] w fun e w' => e = .returned (.func (.func 128) #[] #[.pointer (some ⟨w.heap.size, 0, none⟩)]) ∧ w' = w.alloc (.cells #[.slice A n cap] 49) := by
  refine callsIn_of_wp Try.func122 rfl trivial ?_ rfl
  simp only [Try.ntmps122, List.size_toArray, List.length_cons, List.length_nil, Nat.reduceAdd, Nat.reduceSub, Array.replicate_succ, Array.replicate_zero, List.push_toArray, List.append_toArray, List.nil_append, List.cons_append]
  gi_wp2
  go_ret
  exact ⟨rfl, rfl⟩
end Go.Proofs.Ytknbeklplmhheaa.Places
