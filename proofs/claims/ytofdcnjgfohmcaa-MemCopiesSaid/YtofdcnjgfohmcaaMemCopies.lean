/- MemCopies' walk. -/
import Derived.Test.YtofdcnjgfohmcaaMemOne
namespace Go.Proofs.Ytofdcnjgfohmcaa.Mem
open Go Go.RowKit Go.Proofs.Ytofdcnjgfohmcaa.Heap

theorem cpE_two (n : Nat) (f t : Int) : (cpE n f t = 0 ∧ (0 ≤ f ∧ f < n) ∧ (0 ≤ t ∧ t < n)) ∨ (cpE n f t = 1 ∧ ¬ ((0 ≤ f ∧ f < n) ∧ (0 ≤ t ∧ t < n))) := by
  unfold cpE
  split
  · exact .inl ⟨rfl, by assumption⟩
  · exact .inr ⟨rfl, by assumption⟩
theorem list_ext36 {a b : List Int} (ha : a.length = 36) (hb : b.length = 36) (h : ∀ j, j < 36 → a.getD j 0 = b.getD j 0) : a = b := by
  refine List.ext_getElem (by omega) fun j h1 h2 => ?_
  have := h j (by omega)
  simpa [List.getD_eq_getElem?_getD, List.getElem?_eq_getElem h1, List.getElem?_eq_getElem h2] using this
/-- What is laid by a copy, and what a store at a copy's first word does then. -/
theorem copies_facts {n : Nat} {L : List Int} (hl : L.length = 36 * n) {f t x : Int} (hf : 0 ≤ f ∧ f < n) (ht : 0 ≤ t ∧ t < n) :
    smB n (cpL n L f t) f t = true ∧ ((f = t ∧ smB n (stL n (cpL n L f t) t 0 x) f t = true) ∨ (f ≠ t ∧ ldV n (stL n (cpL n L f t) t 0 x) f 0 = ldV n (cpL n L f t) f 0 ∧ smB n (stL n (cpL n L f t) t 0 x) f t = decide (ldV n (cpL n L f t) f 0 = x))) := by
  have hc : cpL n L f t = setF L t.toNat (frL L f.toNat) := by unfold cpL; rw [if_pos ⟨hf, ht⟩]
  have hfl := frL_len hl (f := f.toNat) (by omega)
  have hcl : (setF L t.toNat (frL L f.toNat)).length = 36 * n := setF_len hl (by omega) hfl
  have g : ∀ i, (setF L t.toNat (frL L f.toNat)).getD i 0 = if t.toNat * 36 ≤ i ∧ i < t.toNat * 36 + 36 then (frL L f.toNat).getD (i - t.toNat * 36) 0 else L.getD i 0 := fun i => setF_get hl (by omega) hfl
  have same : frL (setF L t.toNat (frL L f.toNat)) f.toNat = frL (setF L t.toNat (frL L f.toNat)) t.toNat := by
    refine list_ext36 (frL_len hcl (by omega)) (frL_len hcl (by omega)) fun j hj => ?_
    by_cases e : f.toNat = t.toNat
    · rw [e]
    · rw [frL_get hj, frL_get hj, g, g, if_neg (by omega), if_pos (by omega), show t.toNat * 36 + j - t.toNat * 36 = j by omega, frL_get hj]
  rw [hc]
  refine ⟨by unfold smB; rw [decide_eq_true hf, decide_eq_true ht, decide_eq_true same]; rfl, ?_⟩
  by_cases e : f = t
  · subst e
    exact .inl ⟨rfl, by unfold smB; rw [decide_eq_true hf]; simp⟩
  · refine .inr ⟨e, ld_other (fun q => e q.1.symm), ?_⟩
    generalize hM : setF L t.toNat (frL L f.toNat) = M at *
    have hs : stL n M t 0 x = M.set (t.toNat * 36 + 0) x := by unfold stL; rw [if_pos ⟨ht.1, ht.2, by decide, by decide⟩]; rfl
    have hld : ldV n M f 0 = M.getD (f.toNat * 36 + 0) 0 := by unfold ldV; rw [if_pos ⟨hf.1, hf.2, by decide, by decide⟩]; rfl
    unfold smB
    rw [decide_eq_true hf, decide_eq_true ht, Bool.true_and, Bool.true_and, hs, hld]
    have hsl : (M.set (t.toNat * 36 + 0) x).length = 36 * n := by simpa using hcl
    have gg : ∀ i, (M.set (t.toNat * 36 + 0) x).getD i 0 = if i = t.toNat * 36 + 0 then x else M.getD i 0 := fun i => by
      by_cases q : i = t.toNat * 36 + 0
      · subst q; rw [if_pos rfl, List.getD_eq_getElem?_getD, List.getElem?_set_self (by omega)]; rfl
      · rw [if_neg q, List.getD_eq_getElem?_getD, List.getElem?_set_ne (fun w => q w.symm), ← List.getD_eq_getElem?_getD]
    rw [Bool.eq_iff_iff, decide_eq_true_iff, decide_eq_true_iff]
    constructor
    · intro q
      have := congrArg (fun l => l.getD 0 0) q
      simp only [frL_get (show 0 < 36 by decide), gg] at this
      rw [if_neg (by omega)] at this
      simpa using this
    · intro q
      refine list_ext36 (frL_len hsl (by omega)) (frL_len hsl (by omega)) fun j hj => ?_
      rw [frL_get hj, frL_get hj, gg, gg, if_neg (by omega)]
      by_cases z : j = 0
      · subst z; rw [if_pos (by omega)]; exact q
      · rw [if_neg (by omega)]
        have := congrArg (fun l => l.getD j 0) same
        simpa only [frL_get hj] using this

set_option maxHeartbeats 4000000 in
set_option maxRecDepth 100000 in
theorem memCopies_walk (A : Option Addr) (n c : Nat) (xs : List Int) (f t x : Int) (w : World) (hx : Nums w .u64 A n xs) :
    Calls Try.prog 5 #[.slice A n c, .int .i64 f, .int .i64 t, .int .u64 x] w fun e w' => e = .returned (.bool true) ∧ Chg [] w w' := by
  have hn := hx.2.1
  have HX : Hid (Nums w .u64 A n xs) := hx
  clear hx
  go_enter Try.func5, Try.ntmps5
  go_wp2_with fail
  refine Calls.mono (new8 _) ?_
  rintro e w1 ⟨p, g, L, rfl, m, hp, hg, K⟩
  go_wp2_with fail
  go_loopw [11] (fun i wr => ∃ k : Nat, ∃ L, k ≤ n ∧ i = .int .i64 k ∧ MemAt wr p g 8 L ∧ Chg [] w wr) (fun i _ => n - (intOf i).toNat)
  case atStart => exact ⟨0, L, Nat.zero_le _, rfl, m, K⟩
  case round =>
    clear m K w1 L
    obtain ⟨k, L, hk, rfl, m, K⟩ := hrel
    by_cases hlt : k < n ∧ k < 300
    · obtain ⟨hk1, hk2⟩ := hlt
      obtain ⟨ad, rfl, hc⟩ := HX.out.2.2 (by omega)
      have cell := (HX.out.chg K (fun _ _ => by simp)).cells hk1
      generalize xs.getD k 0 = y at cell
      clear hc
      go_wp2_with fail
      refine Calls.mono (store_ok m _ _ _) ?_
      rintro e w2 ⟨rfl, m2, kk⟩
      replace K := K.trans kk (by simp; omega)
      clear kk cell
      go_wp2
      go_roundw
      case rel => exact ⟨k + 1, _, by omega, by go_num, m2, K⟩
      case measure => simp [intOf]; omega
    · have hlen := m.len
      have C1 := copy_ok m f t
      have hlt' : n ≤ k ∨ (k < n ∧ 300 ≤ k) := by omega
      clear hlt
      rcases cpE_two 8 f t with ⟨h0, hf, ht⟩ | ⟨h0, hno⟩
      · obtain ⟨k1, k2⟩ := copies_facts (x := x) hlen hf ht
        rw [h0] at C1
        clear hf ht
        have C2 := fun (W : World) (q : MemAt W p g 8 (cpL 8 L f t)) => same_ok q f t
        have C3 := fun (W : World) (q : MemAt W p g 8 (cpL 8 L f t)) => load_ok q f 0
        have C4 := fun (W : World) (q : MemAt W p g 8 (cpL 8 L f t)) => store_ok q t 0 x
        have C5 := fun (W : World) (q : MemAt W p g 8 (stL 8 (cpL 8 L f t) t 0 x)) => load_ok q f 0
        have C6 := fun (W : World) (q : MemAt W p g 8 (stL 8 (cpL 8 L f t) t 0 x)) => same_ok q f t
        generalize stL 8 (cpL 8 L f t) t 0 x = M2 at *
        generalize cpL 8 L f t = M at *
        generalize canE 8 f 0 = e1 at *
        generalize canE 8 t 0 = e2 at *
        rw [k1] at C2
        have HC1 : Hid _ := C1
        have HC2 : Hid _ := C2
        have HC3 : Hid _ := C3
        have HC4 : Hid _ := C4
        generalize smB 8 M2 f t = sm at *
        generalize ldV 8 M f 0 = old at *
        generalize ldV 8 M2 f 0 = now at *
        have HC5 : Hid _ := C5
        have HC6 : Hid _ := C6
        clear C1 C2 C3 C4 C5 C6 HX hlen h0 k1
        have k3 : (f = t ∧ sm = true) ∨ ((f == t) = false ∧ now = old ∧ sm = (old == x)) := by
          rcases k2 with h | ⟨h1, h2, h3⟩
          · exact .inl h
          · exact .inr ⟨by simpa using h1, h2, by rw [h3]; rfl⟩
        clear k2
        rcases hlt' with hlt | ⟨hlt, hlt2⟩
        all_goals rcases k3 with ⟨rfl, rfl⟩ | ⟨hft, rfl, rfl⟩
        all_goals
          go_wp2_with fail
          refine Calls.mono HC1.out ?_
          rintro e w2 ⟨rfl, m2, kk⟩
          replace K := K.trans kk (by simp; omega)
          clear kk
          go_wp2_with fail
          refine Calls.mono (HC2.out _ m2) ?_
          rintro e w3 ⟨rfl, kk⟩
          replace K := K.trans kk (by simp)
          replace m2 := m2.chg0 kk
          clear kk
          go_wp2_with fail
          refine Calls.mono (HC3.out _ m2) ?_
          rintro e w3 ⟨rfl, rfl⟩
          go_wp2_with fail
          refine Calls.mono (HC4.out _ m2) ?_
          rintro e w4 ⟨rfl, m3, kk⟩
          replace K := K.trans kk (by simp; omega)
          clear kk
          go_wp2_with fail
          refine Calls.mono (HC5.out _ m3) ?_
          rintro e w5 ⟨rfl, rfl⟩
          go_wp2_with fail
          refine Calls.mono (HC6.out _ m3) ?_
          rintro e w6 ⟨rfl, kk⟩
          replace K := K.trans kk (by simp)
          clear kk
          go_wp2_with fail
          try refine Calls.mono (awake_ok _) ?_
          try rintro e w7 ⟨rfl, kk⟩
          try replace K := K.trans kk (by simp)
          go_wp2
          go_ret
          exact ⟨rfl, K⟩
      · rw [h0] at C1
        have HC1 : Hid _ := C1
        have hno' : f < 0 ∨ (0 ≤ f ∧ 7 < f) ∨ (0 ≤ f ∧ f ≤ 7 ∧ t < 0) ∨ (0 ≤ f ∧ f ≤ 7 ∧ 0 ≤ t ∧ 7 < t) := by omega
        clear hno h0 hlen HX C1
        rcases hlt' with hlt | ⟨hlt, hlt2⟩
        all_goals rcases hno' with h1 | ⟨h1, h2⟩ | ⟨h1, h2, h3⟩ | ⟨h1, h2, h3, h4⟩
        all_goals
          go_wp2_with fail
          refine Calls.mono HC1.out ?_
          rintro e w2 ⟨rfl, m2, kk⟩
          replace K := K.trans kk (by simp; omega)
          clear kk
          go_wp2_with fail
          refine Calls.mono (awake_ok _) ?_
          rintro e w7 ⟨rfl, kk⟩
          replace K := K.trans kk (by simp)
          go_wp2
          go_ret
          exact ⟨rfl, K⟩
end Go.Proofs.Ytofdcnjgfohmcaa.Mem
