/- Plain facts: a word as the sum of its parts, one behind the other. -/
import Derived.Test.YtknbeklplmhheaaPack
namespace Go.Proofs.Ytknbeklplmhheaa.Parts
open Go Go.RowKit Go.Proofs.Ytknbeklplmhheaa Go.Proofs.Ytknbeklplmhheaa.Bits Go.Proofs.Ytknbeklplmhheaa.Field Go.Proofs.Ytknbeklplmhheaa.Places Go.Proofs.Ytknbeklplmhheaa.Pack

instance (ns : List Int) (k : Nat) : Decidable (AllCan ns k) := by unfold AllCan; infer_instance
/-- Where a part begins, how wide it is, what it holds. -/
abbrev st (ns : List Int) (k : Nat) : Nat := (sumTo ns k).toNat
abbrev wd (ns : List Int) (k : Nat) : Nat := (ns.getD k 0).toNat
/-- The sum of the first parts. -/
def accS (ns vs : List Int) : Nat → Nat
  | 0 => 0
  | k + 1 => accS ns vs k + wd vs k * 2 ^ st ns k
def FitAll (ns vs : List Int) (k : Nat) : Prop := ∀ j, j < k → fitsB (vs.getD j 0) (ns.getD j 0) = true
instance (ns vs : List Int) (k : Nat) : Decidable (FitAll ns vs k) := by unfold FitAll; infer_instance

theorem can_bd {a n : Int} (h : canB a n = true) : 0 ≤ a ∧ 1 ≤ n ∧ a + n ≤ 64 := by simpa [canB] using h
theorem fits_bd {v n : Int} (h1 : 1 ≤ n) (h2 : n ≤ 64) (h : fitsB v n = true) : v.toNat < 2 ^ n.toNat := by
  have := of_decide_eq_true h
  rwa [Nat.min_eq_left (by omega)] at this

theorem st_succ {ns : List Int} {k : Nat} (hk : k < ns.length) (h : AllCan ns (k + 1)) : st ns (k + 1) = st ns k + wd ns k ∧ st ns (k + 1) ≤ 64 ∧ 1 ≤ wd ns k ∧ 0 ≤ sumTo ns k ∧ (st ns k : Int) = sumTo ns k ∧ (wd ns k : Int) = ns.getD k 0 := by
  have hb := can_bd (h k (by omega))
  have hs := sumTo_succ hk
  unfold st wd
  omega

theorem acc_lt {ns vs : List Int} : ∀ k, k ≤ ns.length → AllCan ns k → FitAll ns vs k → accS ns vs k < 2 ^ st ns k
  | 0, _, _, _ => by simp [accS, st, sumTo]
  | k + 1, hk, hc, hf => by
    have ih := acc_lt k (by omega) (fun j hj => hc j (by omega)) (fun j hj => hf j (by omega))
    obtain ⟨h1, h2, h3, h4, h5, h6⟩ := st_succ hk hc
    have hv : wd vs k < 2 ^ wd ns k := fits_bd (by omega) (by omega) (hf k (by omega))
    rw [h1, Nat.pow_add, accS]
    have : wd vs k * 2 ^ st ns k + 2 ^ st ns k ≤ 2 ^ wd ns k * 2 ^ st ns k := by
      rw [← Nat.succ_mul]; exact Nat.mul_le_mul_right _ hv
    rw [Nat.mul_comm (2 ^ st ns k)]
    omega

theorem acc_lt64 {ns vs : List Int} {k : Nat} (hk : k ≤ ns.length) (hc : AllCan ns k) (hf : FitAll ns vs k) : accS ns vs k < 18446744073709551616 := by
  refine Nat.lt_of_lt_of_le (acc_lt k hk hc hf) (pow_le64 ?_)
  have := sumTo_bd hk hc
  unfold st
  omega

theorem or_step {ns vs : List Int} {k : Nat} (hk : k < ns.length) (hc : AllCan ns (k + 1)) (hf : FitAll ns vs (k + 1)) (h0 : 0 ≤ vs.getD k 0) :
    bits .or .u64 (accS ns vs k : Int) (IntKind.u64.wrap (vs.getD k 0 * 2 ^ (sumTo ns k).toNat)) = (accS ns vs (k + 1) : Int) := by
  have h1 := acc_lt k (by omega) (fun j hj => hc j (by omega)) (fun j hj => hf j (by omega) : FitAll ns vs k)
  have h2 := acc_lt64 hk hc hf
  have h3 := acc_lt64 (Nat.le_of_lt hk) (fun j hj => hc j (by omega)) (fun j hj => hf j (by omega) : FitAll ns vs k)
  have hvn : vs.getD k 0 = ((wd vs k : Nat) : Int) := by unfold wd; omega
  have hb : wd vs k * 2 ^ st ns k < 18446744073709551616 := by rw [accS] at h2; omega
  rw [hvn, show ((wd vs k : Nat) : Int) * 2 ^ (sumTo ns k).toNat = ((wd vs k * 2 ^ st ns k : Nat) : Int) by simp, IntKind.wrap_u64,
    show ((wd vs k * 2 ^ st ns k : Nat) : Int) % 18446744073709551616 = ((wd vs k * 2 ^ st ns k : Nat) : Int) by omega, u64_or_nat _ _ h3 hb, accS]
  congr 1
  rw [Nat.or_comm, Nat.mul_comm, ← Nat.two_pow_add_eq_or_of_lt h1, Nat.add_comm]

theorem put_step {ns vs : List Int} {k : Nat} (hk : k < ns.length) (hc : AllCan ns (k + 1)) (hf : FitAll ns vs (k + 1)) : putI (accS ns vs k : Int) (sumTo ns k) (ns.getD k 0) (vs.getD k 0) = (accS ns vs (k + 1) : Int) := by
  have h1 := acc_lt k (by omega) (fun j hj => hc j (by omega)) (fun j hj => hf j (by omega) : FitAll ns vs k)
  unfold putI putB
  rw [hc k (by omega), hf k (by omega), if_pos (by rfl), Int.toNat_natCast]
  unfold putN
  change ((2 ^ st ns k * (2 ^ wd ns k * (accS ns vs k / 2 ^ (st ns k + wd ns k)) + wd vs k) + accS ns vs k % 2 ^ st ns k : Nat) : Int) = _
  rw [Nat.mod_eq_of_lt h1, Nat.div_eq_of_lt (Nat.lt_of_lt_of_le h1 (Nat.pow_le_pow_right (by omega) (by omega))), accS, Nat.mul_zero, Nat.zero_add, Nat.mul_comm (2 ^ st ns k), Nat.add_comm]

theorem mem_upto {ns : List Int} {k : Nat} : ∀ {m : Nat} (hm : m ≤ len ns), k < m → ∃ p ∈ upto ns m hm, p.1 = placeAt ns k := by
  intro m
  induction m with
  | zero => intro _ h; omega
  | succ m ih =>
    intro hm h
    by_cases e : k = m
    · subst e; exact ⟨_, List.mem_append_right _ (List.mem_singleton.2 rfl), rfl⟩
    · obtain ⟨p, hp, he⟩ := ih (by omega) (by omega)
      exact ⟨p, List.mem_append_left _ hp, he⟩

theorem good_at {ns vs : List Int} {k : Nat} (hc : canB (sumTo ns k) (ns.getD k 0) = true) : good ns vs (placeAt ns k) = fitsB (vs.getD k 0) (ns.getD k 0) := by
  have := can_bd hc
  unfold placeAt good
  rw [if_pos hc]
  simp only [Int.toNat_natCast]
  rw [decide_eq_true this.1, Bool.true_and]
theorem not_good_at {ns vs : List Int} {k : Nat} (hc : canB (sumTo ns k) (ns.getD k 0) = false) : good ns vs (placeAt ns k) = false := by
  unfold placeAt good
  rw [if_neg (by rw [hc]; decide)]
  rfl

theorem acc_upto {ns vs : List Int} (hv : ∀ x ∈ vs, 0 ≤ x ∧ x < 18446744073709551616) (hl : vs.length = ns.length) : ∀ k (h : k ≤ len ns), AllCan ns k → FitAll ns vs k → k ≤ ns.length → AllGood vs (upto ns k h) ∧ accOf vs (upto ns k h) = (accS ns vs k : Int)
  | 0, _, _, _, _ => ⟨fun _ hp => absurd hp List.not_mem_nil, rfl⟩
  | k + 1, h, hc, hf, hk => by
    obtain ⟨h1, h2⟩ := acc_upto hv hl k (by omega) (fun j hj => hc j (by omega)) (fun j hj => hf j (by omega)) (by omega)
    have hg : good ns vs (placeAt ns k) = true := (good_at (hc k (by omega))).trans (hf k (by omega))
    refine ⟨allGood_snoc h1 hg, ?_⟩
    have hpl : placeAt ns k = ((k : Int), sumTo ns k) := if_pos (hc k (by omega))
    rw [upto, accOf_snoc, h2, ← or_step hk hc hf ?_]
    · change orIn vs _ (placeAt ns k) = _
      rw [hpl]
      unfold orIn
      simp only [Int.toNat_natCast]
    · have : vs.getD k 0 ∈ vs := by
        rw [List.getD_eq_getElem?_getD, List.getElem?_eq_getElem (by omega)]; simp
      exact (hv _ this).1

def packS (ns vs : List Int) : Int × Int := if AllCan ns ns.length ∧ FitAll ns vs ns.length then ((accS ns vs ns.length : Int), 0) else (0, 1)
/-- **What Pack hands back, as a sum.** -/
theorem packV_eq {ns vs : List Int} (hv : ∀ x ∈ vs, 0 ≤ x ∧ x < 18446744073709551616) (hl : vs.length = ns.length) : packV ns vs = packS ns vs := by
  unfold packS
  by_cases hc : AllCan ns ns.length
  · have hlen := len_of_all hc
    by_cases hf : FitAll ns vs ns.length
    · rw [if_pos ⟨hc, hf⟩]
      obtain ⟨h1, h2⟩ := acc_upto hv hl ns.length (by omega) hc hf (Nat.le_refl _)
      rw [upto_cast hlen.symm (by omega) (Nat.le_refl _)] at h1 h2
      rw [packV_good h1, h2]
    · rw [if_neg (fun h => hf h.2)]
      refine packV_bad (k := len ns) (h := Nat.le_refl _) fun hG => hf fun j hj => ?_
      obtain ⟨p, hp, he⟩ := mem_upto (k := j) (Nat.le_refl (len ns)) (by omega)
      have := hG p hp
      rw [he, good_at (hc j hj)] at this
      exact this
  · rw [if_neg (fun h => hc h.1)]
    rcases len_cases ns with ⟨h, _⟩ | ⟨j, hj, _, hb, hl'⟩
    · exact absurd h hc
    · refine packV_bad (k := len ns) (h := Nat.le_refl _) fun hG => ?_
      obtain ⟨p, hp, he⟩ := mem_upto (k := j) (Nat.le_refl (len ns)) (by omega)
      have := hG p hp
      rw [he, not_good_at hb] at this
      cases this

/-! ### Unpacked -/
def partAt (ns : List Int) (w : Int) (j : Nat) : Int := ((getN w.toNat (st ns j) (wd ns j) : Nat) : Int)
def partsL (ns : List Int) (w : Int) (k : Nat) : List Int := (List.range k).map (partAt ns w)
theorem partsL_length (ns : List Int) (w : Int) (k : Nat) : (partsL ns w k).length = k := by simp [partsL]
theorem partsL_succ (ns : List Int) (w : Int) (k : Nat) : partsL ns w (k + 1) = partsL ns w k ++ [partAt ns w k] := by simp [partsL, List.range_succ]
theorem partsL_getD {ns : List Int} {w : Int} {k j : Nat} (h : j < k) : (partsL ns w k).getD j 0 = partAt ns w j := by
  simp [partsL, h]
def UnpOk (ns : List Int) (w : Int) : Prop := AllCan ns ns.length ∧ fitsB w (sumTo ns ns.length) = true
instance (ns : List Int) (w : Int) : Decidable (UnpOk ns w) := by unfold UnpOk; infer_instance
theorem part_bd {ns : List Int} {w : Int} {j : Nat} (hw : 0 ≤ w ∧ w < 18446744073709551616) : 0 ≤ partAt ns w j ∧ partAt ns w j < 18446744073709551616 := by
  unfold partAt
  have : getN w.toNat (st ns j) (wd ns j) ≤ w.toNat := Nat.le_trans (Nat.mod_le _ _) (Nat.div_le_self _ _)
  omega

theorem acc_parts {ns : List Int} {w : Int} : ∀ k, k ≤ ns.length → AllCan ns k → accS ns (partsL ns w ns.length) k = w.toNat % 2 ^ st ns k
  | 0, _, _ => by simp [accS, st, sumTo, Nat.mod_one]
  | k + 1, hk, hc => by
    have ih := acc_parts (w := w) k (by omega) (fun j hj => hc j (by omega))
    obtain ⟨h1, -⟩ := st_succ hk hc
    rw [accS, ih, h1, Nat.pow_add, Nat.mod_mul]
    unfold wd
    rw [partsL_getD hk]
    unfold partAt getN
    rw [Int.toNat_natCast, Nat.mul_comm]
theorem parts_fit {ns : List Int} {w : Int} (hc : AllCan ns ns.length) : FitAll ns (partsL ns w ns.length) ns.length := by
  intro j hj
  rw [partsL_getD hj]
  have hb := can_bd (hc j hj)
  have := sumTo_bd (Nat.le_of_lt hj) (fun i hi => hc i (by omega))
  unfold fitsB partAt
  rw [Int.toNat_natCast, Nat.min_eq_left (by omega)]
  exact decide_eq_true (getN_lt _ _ _)
/-- Unpacked, then packed. -/
theorem back_word {ns : List Int} {w : Int} (h0 : 0 ≤ w) (h : UnpOk ns w) : (accS ns (partsL ns w ns.length) ns.length : Int) = w := by
  have hb := sumTo_bd (Nat.le_refl _) h.1
  have hf := of_decide_eq_true h.2
  rw [Nat.min_eq_left (by omega)] at hf
  rw [acc_parts _ (Nat.le_refl _) h.1, Nat.mod_eq_of_lt hf]
  omega

theorem st_mono {ns : List Int} {j : Nat} : ∀ {k : Nat}, j ≤ k → k ≤ ns.length → AllCan ns k → st ns j ≤ st ns k := by
  intro k
  induction k with
  | zero => intro h _ _; have : j = 0 := by omega
            subst this; exact Nat.le_refl _
  | succ k ih =>
    intro h hk hc
    by_cases e : j = k + 1
    · subst e; exact Nat.le_refl _
    · have := ih (by omega) (by omega) (fun i hi => hc i (by omega))
      have := (st_succ hk hc).1
      omega

theorem get_acc {ns vs : List Int} {j : Nat} : ∀ k, j < k → k ≤ ns.length → AllCan ns k → FitAll ns vs k → getN (accS ns vs k) (st ns j) (wd ns j) = wd vs j
  | 0, h, _, _, _ => by omega
  | k + 1, h, hk, hc, hf => by
    have hcj : AllCan ns (j + 1) := fun i hi => hc i (by omega)
    obtain ⟨j1, j2, j3, j4, j5, j6⟩ := st_succ (k := j) (by omega) hcj
    unfold getN
    by_cases e : j = k
    · subst e
      have hl : accS ns vs j < 2 ^ st ns j := acc_lt j (by omega) (fun i hi => hc i (by omega)) (fun i hi => hf i (by omega))
      have hv : wd vs j < 2 ^ wd ns j := fits_bd (by omega) (by omega) (hf j (by omega))
      rw [accS, Nat.add_mul_div_right _ _ (pow_pos' _), Nat.div_eq_of_lt hl, Nat.zero_add, Nat.mod_eq_of_lt hv]
    · have ih : getN (accS ns vs k) (st ns j) (wd ns j) = wd vs j := get_acc k (by omega) (by omega) (fun i hi => hc i (by omega)) (fun i hi => hf i (by omega))
      unfold getN at ih
      have hm : st ns (j + 1) ≤ st ns k := st_mono (k := k) (by omega) (by omega) (fun i hi => hc i (by omega))
      have e2 : wd vs k * 2 ^ st ns k = (wd vs k * 2 ^ (st ns k - st ns (j + 1)) * 2 ^ wd ns j) * 2 ^ st ns j := by
        rw [Nat.mul_assoc, Nat.mul_assoc, ← Nat.pow_add, ← Nat.pow_add]
        congr 2; omega
      rw [accS, e2, Nat.add_mul_div_right _ _ (pow_pos' _), Nat.add_mul_mod_self_right, ih]
/-- Packed, then unpacked. -/
theorem back_parts {ns vs : List Int} (hl : vs.length = ns.length) (hv : ∀ x ∈ vs, 0 ≤ x ∧ x < 18446744073709551616) (hc : AllCan ns ns.length) (hf : FitAll ns vs ns.length) :
    UnpOk ns (accS ns vs ns.length : Int) ∧ partsL ns (accS ns vs ns.length : Int) ns.length = vs := by
  refine ⟨⟨hc, ?_⟩, ?_⟩
  · have hb := sumTo_bd (Nat.le_refl _) hc
    unfold fitsB
    rw [Int.toNat_natCast, Nat.min_eq_left (by omega)]
    exact decide_eq_true (acc_lt _ (Nat.le_refl _) hc hf)
  · refine List.ext_getElem (by rw [partsL_length, hl]) fun j h1 h2 => ?_
    rw [partsL_length] at h1
    have e := partsL_getD (ns := ns) (w := (accS ns vs ns.length : Int)) h1
    rw [List.getD_eq_getElem?_getD, List.getElem?_eq_getElem (by rw [partsL_length]; exact h1), Option.getD_some] at e
    rw [e]
    unfold partAt
    rw [Int.toNat_natCast, get_acc _ h1 (Nat.le_refl _) hc hf]
    unfold wd
    rw [List.getD_eq_getElem?_getD, List.getElem?_eq_getElem h2, Option.getD_some]
    have := (hv _ (List.getElem_mem h2)).1
    omega
end Go.Proofs.Ytknbeklplmhheaa.Parts
