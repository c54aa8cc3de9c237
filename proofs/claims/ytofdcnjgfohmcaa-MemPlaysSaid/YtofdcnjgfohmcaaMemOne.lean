/- MemOne's walk; what a store does to what is loaded. -/
import Derived.Test.YtofdcnjgfohmcaaMem2
namespace Go.Proofs.Ytofdcnjgfohmcaa.Mem
open Go Go.RowKit Go.Proofs.Ytofdcnjgfohmcaa.Heap

theorem canE_two (n : Nat) (f a : Int) : canE n f a = 0 ∨ canE n f a = 1 := by unfold canE; split <;> simp
theorem ld_same {n : Nat} {L : List Int} {f a x : Int} (hl : L.length = 36 * n) (h : canE n f a = 0) : ldV n (stL n L f a x) f a = x := by
  have ho : 0 ≤ f ∧ f < n ∧ 0 ≤ a ∧ a < 36 := by
    unfold canE at h
    split at h
    · assumption
    · omega
  unfold ldV stL
  rw [if_pos ho, if_pos ho, List.getD_eq_getElem?_getD, List.getElem?_set_self (by omega)]
  rfl
theorem st_no {n : Nat} {L : List Int} {f a x : Int} (h : canE n f a = 1) : stL n L f a x = L := by
  unfold canE at h
  unfold stL
  split at h
  · omega
  · rw [if_neg (by assumption)]
theorem ld_other {n : Nat} {L : List Int} {f a x g b : Int} (h : ¬ (f = g ∧ a = b)) : ldV n (stL n L f a x) g b = ldV n L g b := by
  unfold ldV stL
  split
  · split
    · rw [List.getD_eq_getElem?_getD, List.getElem?_set_ne (by omega), ← List.getD_eq_getElem?_getD]
    · rfl
  · rfl
theorem new8 (w : World) : Calls Try.prog 12 #[.int .i64 8] w fun e w' => ∃ p g L, e = .returned (.tuple #[.pointer (some ⟨p, 0, none⟩), .int .i64 0]) ∧ MemAt w' p g 8 L ∧ w.heap.size ≤ p ∧ w.heap.size ≤ g ∧ Chg [] w w' :=
  (new_ok 8 (by decide) (by decide) w).mono fun _ _ ⟨p, g, h1, h2, h3⟩ => ⟨p, g, _, h1, h2, h3⟩
theorem new1 (w : World) : Calls Try.prog 12 #[.int .i64 1] w fun e w' => ∃ p g L, e = .returned (.tuple #[.pointer (some ⟨p, 0, none⟩), .int .i64 0]) ∧ MemAt w' p g 1 L ∧ w.heap.size ≤ p ∧ w.heap.size ≤ g ∧ Chg [] w w' :=
  (new_ok 1 (by decide) (by decide) w).mono fun _ _ ⟨p, g, h1, h2, h3⟩ => ⟨p, g, _, h1, h2, h3⟩
theorem len1 {w : World} {p g : Nat} {L : List Int} (h : MemAt w p g 1 L) : Calls Try.prog 21 #[.pointer (some ⟨p, 0, none⟩)] w fun e w' => e = .returned (.int .i64 1) ∧ w = w' := len_ok h
set_option maxRecDepth 100000 in
theorem awake_ok (w : World) : Calls Try.prog 15 #[] w fun e w' => e = .returned (.bool true) ∧ Chg [] w w' := by
  go_enter Try.func15, Try.ntmps15
  go_wp2_with fail
  refine Calls.mono (new1 _) ?_
  rintro e w1 ⟨p, g, L, rfl, m, -, -, K⟩
  go_wp2_with fail
  refine Calls.mono (len1 m) ?_
  rintro e w2 ⟨rfl, rfl⟩
  go_wp2
  go_ret
  exact ⟨rfl, K⟩

set_option maxHeartbeats 4000000 in
set_option maxRecDepth 100000 in
theorem memOne_walk (A : Option Addr) (n c : Nat) (xs : List Int) (f a x g' to : Int) (w : World) (hx : Nums w .u64 A n xs) :
    Calls Try.prog 3 #[.slice A n c, .int .i64 f, .int .i64 a, .int .u64 x, .int .i64 g', .int .i64 to] w fun e w' => e = .returned (.bool true) ∧ Chg [] w w' := by
  have hn := hx.2.1
  have HX : Hid (Nums w .u64 A n xs) := hx
  clear hx
  go_enter Try.func3, Try.ntmps3
  go_wp2_with fail
  refine Calls.mono (new8 _) ?_
  rintro e w1 ⟨p, g, L, rfl, m, hp, hg, K⟩
  go_wp2_with fail
  go_loopw [15] (fun i wr => ∃ k : Nat, ∃ L, k ≤ n ∧ i = .int .i64 k ∧ MemAt wr p g 8 L ∧ Chg [] w wr) (fun i _ => n - (intOf i).toNat)
  case atStart => exact ⟨0, L, Nat.zero_le _, rfl, m, K⟩
  case round =>
    clear m K w1 L
    obtain ⟨k, L, hk, rfl, m, K⟩ := hrel
    by_cases hlt : k < n ∧ k < 300
    · obtain ⟨hk1, hk2⟩ := hlt
      obtain ⟨ad, rfl, hc⟩ := HX.out.2.2 (by omega)
      have cell := (HX.out.chg K (fun _ _ => by simp)).cells hk1
      generalize xs.getD k 0 = y at cell
      clear hc
      go_wp2_with fail
      refine Calls.mono (store_ok m _ _ _) ?_
      rintro e w2 ⟨rfl, m2, kk⟩
      replace K := K.trans kk (by simp; omega)
      clear kk cell
      go_wp2
      go_roundw
      case rel => exact ⟨k + 1, _, by omega, by go_num, m2, K⟩
      case measure => simp [intOf]; omega
    · have key : (f = g' ∧ a = to ∧ ((canE 8 f a = 1 ∧ ldV 8 (stL 8 L f a x) g' to = ldV 8 L g' to) ∨ (canE 8 f a = 0 ∧ ldV 8 (stL 8 L f a x) g' to = x))) ∨
          ((((f == g') = false) ∨ (f = g' ∧ (a == to) = false)) ∧ ldV 8 (stL 8 L f a x) g' to = ldV 8 L g' to ∧ (canE 8 f a = 1 ∨ (canE 8 f a = 0 ∧ ldV 8 (stL 8 L f a x) f a = x))) := by
        rcases canE_two 8 f a with h | h <;> by_cases h1 : f = g' <;> by_cases h2 : a = to
        · subst h1; subst h2; exact .inl ⟨rfl, rfl, .inr ⟨h, ld_same m.len h⟩⟩
        · exact .inr ⟨.inr ⟨h1, by simpa using h2⟩, ld_other (fun q => h2 q.2), .inr ⟨h, ld_same m.len h⟩⟩
        · exact .inr ⟨.inl (by simpa using h1), ld_other (fun q => h1 q.1), .inr ⟨h, ld_same m.len h⟩⟩
        · exact .inr ⟨.inl (by simpa using h1), ld_other (fun q => h1 q.1), .inr ⟨h, ld_same m.len h⟩⟩
        · subst h1; subst h2; exact .inl ⟨rfl, rfl, .inl ⟨h, by rw [st_no h]⟩⟩
        · exact .inr ⟨.inr ⟨h1, by simpa using h2⟩, by rw [st_no h], .inl h⟩
        · exact .inr ⟨.inl (by simpa using h1), by rw [st_no h], .inl h⟩
        · exact .inr ⟨.inl (by simpa using h1), by rw [st_no h], .inl h⟩
      have C1 := load_ok m g' to
      have C2 := store_ok m f a x
      have C3 := fun (W : World) (q : MemAt W p g 8 (stL 8 L f a x)) => load_ok q f a
      have C4 := fun (W : World) (q : MemAt W p g 8 (stL 8 L f a x)) => load_ok q g' to
      have hlen := m.len
      generalize canE 8 g' to = no2 at *
      generalize canE 8 f a = no at *
      generalize stL 8 L f a x = L2 at *
      generalize ldV 8 L g' to = old at *
      generalize ldV 8 L2 f a = got at *
      generalize ldV 8 L2 g' to = now at *
      have HC1 : Hid _ := C1
      have HC2 : Hid _ := C2
      have HC3 : Hid _ := C3
      have HC4 : Hid _ := C4
      clear C1 C2 C3 C4 HX hlen
      have hlt' : n ≤ k ∨ (k < n ∧ 300 ≤ k) := by omega
      clear hlt
      rcases hlt' with hlt | ⟨hlt, hlt2⟩
      all_goals rcases key with ⟨rfl, rfl, (⟨rfl, rfl⟩ | ⟨rfl, rfl⟩)⟩ | ⟨hfg | ⟨rfl, hfg⟩, rfl, (rfl | ⟨rfl, rfl⟩)⟩
      all_goals
        go_wp2_with fail
        refine Calls.mono HC1.out ?_
        rintro e w2 ⟨rfl, rfl⟩
        go_wp2_with fail
        refine Calls.mono HC2.out ?_
        rintro e w2 ⟨rfl, m2, kk⟩
        replace K := K.trans kk (by simp; omega)
        clear kk
        go_wp2_with fail
        refine Calls.mono (HC3.out _ m2) ?_
        rintro e w3 ⟨rfl, rfl⟩
        go_wp2_with fail
        refine Calls.mono (HC4.out _ m2) ?_
        rintro e w3 ⟨rfl, rfl⟩
        go_wp2_with fail
        refine Calls.mono (awake_ok _) ?_
        rintro e w4 ⟨rfl, kk⟩
        replace K := K.trans kk (by simp)
        go_wp2
        go_ret
        exact ⟨rfl, K⟩
end Go.Proofs.Ytofdcnjgfohmcaa.Mem
