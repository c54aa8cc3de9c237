/- RegsPlays: any acts on registers: behind each all that the program tells is what the document tells. The walk through the statement. -/
import Derived.Test.YtapgkjkncihlkaaRegs
import Derived.Test.YtapgkjkncihlkaaRef05
import Derived.Test.YtapgkjkncihlkaaWords
namespace Go.Proofs.Ytapgkjkncihlkaa.Regs
open Go Go.RowKit Go.Proofs.Ytapgkjkncihlkaa.Heap Go.Proofs.Ytapgkjkncihlkaa.Words

/-- What Set answers; what a file holds behind it; what Get answers. -/
def setE (i : Int) : Int := if 0 ≤ i ∧ i < 8 then 0 else 1
def setL (L : List Int) (i x : Int) : List Int := if 0 ≤ i ∧ i < 8 then L.set i.toNat x else L
def getV (L : List Int) (i : Int) : Int := if 0 ≤ i ∧ i < 8 then L.getD i.toNat 0 else 0

theorem set_any {w : World} {g : Nat} {L : List Int} (h : File w g L) (i x : Int) : Calls Try.prog 23 #[.pointer (some ⟨g, 0, none⟩), .int .i64 i, .int .u64 x] w fun e w' => e = .returned (.int .i64 (setE i)) ∧ File w' g (setL L i x) ∧ Chg [g] w w' := by
  by_cases hi : 0 ≤ i ∧ i < 8
  · unfold setE setL; rw [if_pos hi, if_pos hi]; exact set_ok h i x hi.1 hi.2
  · unfold setE setL; rw [if_neg hi, if_neg hi]; exact (set_out h i x hi).mono fun e w' ⟨h1, h2⟩ => ⟨h1, h.chg h2 (by simp), h2.of_nil⟩
theorem get_any {w : World} {g : Nat} {L : List Int} (h : File w g L) (i : Int) : Calls Try.prog 36 #[.pointer (some ⟨g, 0, none⟩), .int .i64 i] w fun e w' => e = .returned (.tuple #[.int .u64 (getV L i), .int .i64 (setE i)]) ∧ Chg [] w w' := by
  by_cases hi : 0 ≤ i ∧ i < 8
  · unfold setE getV; rw [if_pos hi, if_pos hi]; exact get_ok h i hi.1 hi.2
  · unfold setE getV; rw [if_neg hi, if_neg hi]; exact get_out h i hi
theorem rset_any {w : World} {g b cap : Nat} {L : List Int} (h : Ref05.RFile w g b cap L) (i x : Int) : Calls Try.prog 35 #[.pointer (some ⟨g, 0, none⟩), .int .i64 i, .int .u64 x] w fun e w' => e = .returned (.int .i64 (setE i)) ∧ Ref05.RFile w' g b cap (setL L i x) ∧ Chg [b] w w' := by
  by_cases hi : 0 ≤ i ∧ i < 8
  · unfold setE setL; rw [if_pos hi, if_pos hi]; exact Ref05.set_ok h i x hi.1 hi.2
  · unfold setE setL; rw [if_neg hi, if_neg hi]; exact (Ref05.set_out w _ i x hi).mono fun e w' ⟨h1, h2⟩ => ⟨h1, h2 ▸ h, h2 ▸ Chg.refl _ _⟩
theorem rget_any {w : World} {g b cap : Nat} {L : List Int} (h : Ref05.RFile w g b cap L) (i : Int) : Calls Try.prog 37 #[.pointer (some ⟨g, 0, none⟩), .int .i64 i] w fun e w' => e = .returned (.tuple #[.int .u64 (getV L i), .int .i64 (setE i)]) ∧ Chg [] w w' := by
  by_cases hi : 0 ≤ i ∧ i < 8
  · unfold setE getV; rw [if_pos hi, if_pos hi]; exact (Ref05.get_ok h i hi.1 hi.2).mono fun e w' ⟨h1, h2⟩ => ⟨h1, h2 ▸ Chg.refl _ _⟩
  · unfold setE getV; rw [if_neg hi, if_neg hi]; exact (Ref05.get_out w _ i hi).mono fun e w' ⟨h1, h2⟩ => ⟨h1, h2 ▸ Chg.refl _ _⟩
theorem rload_any {w : World} {g b cap : Nat} {L : List Int} (h : Ref05.RFile w g b cap L) (A : Option Addr) (n c : Nat) (l : List Int) (hl : Nums w .u64 A n l) : Calls Try.prog 34 #[.pointer (some ⟨g, 0, none⟩), .slice A n c] w fun e w' =>
    ∃ b' cap', e = .returned (.int .i64 (loadE n)) ∧ Ref05.RFile w' g b' cap' (loaded L l) ∧ (b' = b ∨ w.heap.size ≤ b') ∧ Chg [g] w w' := by
  have hln := hl.1
  by_cases hn : n = 8
  · subst hn
    rw [show loadE 8 = 0 from rfl, show loaded L l = l by unfold loaded; rw [if_pos hln]]
    exact (Ref05.load_ok h A c l hl).mono fun e w' ⟨q, cap', h1, h2, h3, h4⟩ => ⟨q, cap', h1, h3, .inr h2, h4⟩
  · rw [show loadE n = 1 by unfold loadE; rw [if_neg hn], show loaded L l = L by unfold loaded; rw [if_neg (by omega)]]
    exact (Ref05.load_out w _ A n c hn).mono fun e w' ⟨h1, h2⟩ => ⟨b, cap, h1, h2 ▸ h, .inl rfl, h2 ▸ Chg.refl _ _⟩

set_option maxRecDepth 100000 in
set_option maxHeartbeats 2000000 in
theorem regsPlays_walk (A0 A1 A2 A3 : Option Addr) (n0 n1 n2 n3 c0 c1 c2 c3 : Nat) (x0 x1 x2 x3 : List Int) (w : World) (h0 : Nums w .u8 A0 n0 x0) (h1 : Nums w .i64 A1 n1 x1) (h2 : Nums w .u64 A2 n2 x2) (h3 : Nums w .u64 A3 n3 x3)
    (hw : ∀ x ∈ x0, 0 ≤ x ∧ x < 256) :
    Calls Try.prog 8 #[.slice A0 n0 c0, .slice A1 n1 c1, .slice A2 n2 c2, .slice A3 n3 c3] w fun e w' => e = .returned (.bool true) ∧ Chg [] w w' := by
  have l0 := h0.2.1
  have l1 := h1.2.1
  have l2 := h2.2.1
  have HW : Hid (∀ x ∈ x0, 0 ≤ x ∧ x < 256) := hw
  clear hw
  go_enter Try.func8, Try.ntmps8
  go_wp2_with fail
  refine (new_fresh _).mono ?_
  rintro e w1 ⟨p, rfl, hp, f1, k1⟩
  go_wp2_with fail
  refine (Ref05.new_ok _).mono ?_
  rintro e w2 ⟨g, b, cap, rfl, hg, hb, r2, k2⟩
  have s1 := f1.2.lt
  have f2 := f1.chg k2 (by simp)
  have K2 : Chg [] w w2 := k1.trans k2 (by simp)
  have hwg : w.heap.size ≤ g := by have := k1.size; omega
  have hwb : w.heap.size ≤ b := by have := k1.size; omega
  have hpg : p < g := by omega
  have hpb : p ≠ b := by omega
  clear k1 k2 f1 s1 hg hb
  go_wp2_with fail
  go_loopw [11] (fun i wr => ∃ (k b cap : Nat) (L : List Int), k ≤ 100 ∧ i = .int .i64 k ∧ File wr p L ∧ Ref05.RFile wr g b cap L ∧ p ≠ b ∧ w.heap.size ≤ b ∧ Chg [] w wr) (fun i _ => 100 - (intOf i).toNat)
  case atStart => exact ⟨0, b, cap, _, Nat.zero_le _, rfl, f2, r2, hpb, hwb, K2⟩
  case round =>
    clear f2 r2 hpb hwb K2
    obtain ⟨k, b, cap, L, hk, rfl, f, r, hpb, hwb, K⟩ := hrel
    by_cases hlt : k < n0 ∧ k < n1 ∧ k < n2 ∧ k < 100
    · obtain ⟨t0, t1, t2, t3⟩ := hlt
      have g0 := h0.chg K (fun _ _ => by simp)
      have g1 := h1.chg K (fun _ _ => by simp)
      have g2 := h2.chg K (fun _ _ => by simp)
      obtain ⟨a0, rfl, e0⟩ := g0.2.2 (by omega)
      obtain ⟨a1, rfl, e1⟩ := g1.2.2 (by omega)
      obtain ⟨a2, rfl, e2⟩ := g2.2.2 (by omega)
      have d0 := e0 k t0
      have d1 := e1 k t1
      have d2 := e2 k t2
      have hkd : 0 ≤ x0.getD k 0 ∧ x0.getD k 0 < 256 := by
        have hl := h0.1
        have : x0.getD k 0 ∈ x0 := by
          rw [List.getD_eq_getElem?_getD, List.getElem?_eq_getElem (by omega)]; simp
        exact HW.out _ this
      generalize x0.getD k 0 = kd at d0 hkd
      generalize x1.getD k 0 = i at d1
      generalize x2.getD k 0 = x at d2
      obtain ⟨hk0, hk1⟩ := hkd
      clear e0 e1 e2 g0 g1 g2
      have q1 : a1.block < w.heap.size := h1.block (by omega)
      have q2 : a2.block < w.heap.size := h2.block (by omega)
      have z1 : (loadE n3 != loadE n3) = false := by simp
      have z2 : (setE i != setE i) = false := by simp
      by_cases hkd3 : kd % 4 = 3
      case' pos =>
        have tt : (kd % 4 == 3) = true := beq_iff_eq.2 hkd3
        clear hkd3
        have g3 := h3.chg K (fun _ _ => by simp)
        go_wp2_with fail
        refine (load_any f A3 n3 c3 x3 g3).mono ?_
        rintro e w3 ⟨rfl, f3, k3⟩
        have r3 := r.chg k3 (by simp; omega) (by simp; omega)
        have K3 : Chg [] w w3 := K.trans k3 (by simp; omega)
        have g4 := h3.chg K3 (fun _ _ => by simp)
        have d1' := arg_stays q1 d1 k3 (by simp; omega)
        clear k3 g3
        go_wp2_with fail
        refine (rload_any r3 A3 n3 c3 x3 g4).mono ?_
        rintro e w4 ⟨b4, cap4, rfl, r4, hb4, k4⟩
        have f4 := f3.chg k4 (by simp; omega)
        have K4 : Chg [] w w4 := K3.trans k4 (by simp; omega)
        have d4 := arg_stays q1 d1' k4 (by simp; omega)
        have s3 := f3.2.lt
        have s4 := K3.size
        have pb4 : p ≠ b4 := by rcases hb4 with h | h <;> omega
        have wb4 : w.heap.size ≤ b4 := by rcases hb4 with h | h <;> omega
        clear k4 g4 d1' hb4 K K3 r3 f3 f r hpb hwb d0 d1 d2
        generalize loaded L x3 = M at f4 r4
        go_wp2_with fail
      case' neg =>
        have tt : (kd % 4 == 3) = false := beq_eq_false_iff_ne.2 hkd3
        clear hkd3
        have kd0 : Chg [] wr wr.drew := (Chg.refl [] wr).drew
        have fD := f.chg kd0 (by simp)
        have rD := r.chg kd0 (by simp) (by simp)
        have KD : Chg [] w wr.drew := K.drew
        have d1D : wr.drew.cell? (a1.add k) = some (.int .i64 i) := d1
        have d2D : wr.drew.cell? (a2.add k) = some (.int .u64 x) := d2
        go_wp2_with fail
        go_region_held3 (fun w' => w'.cell? (a1.add k) = some (.int .i64 i) ∧ w'.cell? (a2.add k) = some (.int .u64 x)) (go_keep)
          (first
            | (go_at_call 23; refine (set_any fD i x).mono ?_; rintro e w3 ⟨rfl, f3, k3⟩; have r3 := rD.chg k3 (by simp; omega) (by simp; omega); have K3 : Chg [] w w3 := KD.trans k3 (by simp; omega); have d3 := arg_stays q1 d1D k3 (by simp; omega); have b3 := arg_stays q2 d2D k3 (by simp; omega))
            | (go_at_call 35; refine (rset_any r3 i x).mono ?_; rintro e w4 ⟨rfl, r4, k4⟩; have f4 := f3.chg k4 (by simp; omega); have K4 : Chg [] w w4 := K3.trans k4 (by simp; omega); have d4 := arg_stays q1 d3 k4 (by simp; omega); have e4 := arg_stays q2 b3 k4 (by simp; omega)))
        clear kd0 fD rD KD d1D d2D f3 r3 K3 d3 b3 k3 k4 e4 f r K d0 d1 d2
        have pb4 := hpb
        have wb4 := hwb
        clear hpb hwb
        generalize setL L i x = M at f4 r4
        go_wp2_with fail
      all_goals
        have z3 : (getV M i != getV M i) = false := by simp
        have hM : M.length = 8 := f4.1
        have HM : Hid (M.length = 8) := hM
        clear hM
        refine (get_any f4 i).mono ?_
        rintro e w5 ⟨rfl, k5⟩
        have f5 := f4.chg k5 (by simp)
        have r5 := r4.chg k5 (by simp) (by simp)
        have K5 : Chg [] w w5 := K4.trans k5 (by simp)
        have d5 := arg_stays q1 d4 k5 (by simp)
        clear f4 r4 K4 d4 k5
        go_wp2_with fail
        refine (rget_any r5 i).mono ?_
        rintro e w6 ⟨rfl, k6⟩
        have f6 := f5.chg k6 (by simp)
        have r6 := r5.chg k6 (by simp) (by simp)
        have K6 : Chg [] w w6 := K5.trans k6 (by simp)
        clear f5 r5 K5 d5 k6
        go_wp2_with fail
        refine (all_fresh f6).mono ?_
        rintro e w7 ⟨o, rfl, ho, o7, k7⟩
        have f7 := f6.chg k7 (by simp)
        have r7 := r6.chg k7 (by simp) (by simp)
        have K7 : Chg [] w w7 := K6.trans k7 (by simp)
        clear f6 r6 K6 k7
        go_wp2_with fail
        refine (Ref05.all_ok r7).mono ?_
        rintro e w8 ⟨q, cap8, rfl, hq, q8, k8⟩
        have f8 := f7.chg k8 (by simp)
        have r8 := r7.chg k8 (by simp) (by simp)
        have o8 := o7.chg k8 (by simp)
        have K8 : Chg [] w w8 := K7.trans k8 (by simp)
        clear f7 r7 o7 K7 k8
        have n8 : Nums w8 .u64 (some ⟨o, 0, none⟩) 8 M := by
          have := Nums.of_blk (k := .u64) (o := 0) (xs := M) o8 (by rw [HM.out]; decide) (fun j hj => by rw [Nat.zero_add, List.getElem?_toArray]; exact nums_get _ _ _ hj)
          rwa [HM.out] at this
        go_wp2_with fail
        refine (words_any _ _ _ _ _ _ _ _ _ n8 q8).mono ?_
        rintro e w9 ⟨rfl, d, rfl⟩
        rw [decide_eq_true (rfl : M = M)]
        have f9 := f8.chg ((Chg.refl [] w8).drewN d) (by simp)
        have r9 := r8.chg ((Chg.refl [] w8).drewN d) (by simp) (by simp)
        have K9 := K8.drewN d
        clear f8 r8 K8 o8 n8 q8
        go_wp2
        go_roundw
        case rel => exact ⟨k + 1, _, _, _, by omega, by go_num, f9, r9, pb4, wb4, K9⟩
        case measure => simp [intOf]; omega
    · by_cases j0 : k < n0
      case' neg =>
        skip
      case' pos =>
        by_cases j1 : k < n1
        case' pos =>
          by_cases j2 : k < n2
          case' pos =>
            have j3 : k = 100 := by omega
            subst j3
      all_goals
        clear hlt
        go_wp2_with fail
        refine (awake_ok _).mono ?_
        rintro e w5 ⟨rfl, k5⟩
        go_wp2
        go_ret
        exact ⟨rfl, K.trans k5 (by simp)⟩
end Go.Proofs.Ytapgkjkncihlkaa.Regs
