/- Package palanquinref02: Clear, Words, New; the reference's other functions. -/
import Derived.Test.YtknbeklplmhheaaRef02
import Derived.StillTailTactics
namespace Go.Proofs.Ytknbeklplmhheaa.Ref02
open Go Go.RowKit Go.Proofs.Ytknbeklplmhheaa.Heap Go.Proofs.Ytknbeklplmhheaa.Mem

/-- A frame's words, the first k of them others. -/
def mixL (L : List Int) (f k : Nat) (ws : List Int) : List Int := setF L f (ws.take k ++ (frL L f).drop k)
theorem mix_zero {L : List Int} {f : Nat} (ws : List Int) : mixL L f 0 ws = L := by
  unfold mixL setF frL
  simp only [List.take_zero, List.nil_append, List.drop_zero]
  rw [← List.drop_drop, List.append_assoc, List.take_append_drop, List.take_append_drop]
theorem mix_full {L ws : List Int} {f n : Nat} (hl : L.length = 36 * n) (hf : f < n) (hw : ws.length = 36) : mixL L f 36 ws = setF L f ws := by
  unfold mixL
  rw [List.take_of_length_le (by omega), List.drop_of_length_le (by rw [frL_len hl hf]; omega), List.append_nil]
theorem mix_len {L ws : List Int} {f n k : Nat} (hl : L.length = 36 * n) (hf : f < n) (hw : ws.length = 36) : (ws.take k ++ (frL L f).drop k).length = 36 := by
  have := frL_len hl hf
  simp; omega
theorem setF_getE {L ws : List Int} {n f i : Nat} (hl : L.length = 36 * n) (hf : f < n) (hw : ws.length = 36) : (setF L f ws)[i]? = if f * 36 ≤ i ∧ i < f * 36 + 36 then ws[i - f * 36]? else L[i]? := by
  unfold setF
  have e1 : (L.take (f * 36)).length = f * 36 := by simp; omega
  by_cases h1 : i < f * 36
  · rw [if_neg (by omega), List.append_assoc, List.getElem?_append_left (by omega), List.getElem?_take, if_pos h1]
  · by_cases h2 : i < f * 36 + 36
    · rw [if_pos (by omega), List.getElem?_append_left (by simp; omega), List.getElem?_append_right (by omega), e1]
    · rw [if_neg (by omega), List.getElem?_append_right (by simp; omega)]
      have : (L.take (f * 36) ++ ws).length = f * 36 + 36 := by simp; omega
      rw [this, List.getElem?_drop, show f * 36 + 36 + (i - (f * 36 + 36)) = i by omega]
theorem mix_getE {L ws : List Int} {f n k i : Nat} (hl : L.length = 36 * n) (hf : f < n) (hw : ws.length = 36) : (mixL L f k ws)[i]? = if f * 36 ≤ i ∧ i < f * 36 + k ∧ i < f * 36 + 36 then ws[i - f * 36]? else L[i]? := by
  unfold mixL
  rw [setF_getE hl hf (mix_len hl hf hw)]
  by_cases h : f * 36 ≤ i ∧ i < f * 36 + 36
  · rw [if_pos h]
    by_cases hk : i - f * 36 < k
    · rw [if_pos (by omega), List.getElem?_append_left (by simp; omega), List.getElem?_take, if_pos hk]
    · rw [if_neg (by omega), List.getElem?_append_right (by simp; omega), List.getElem?_drop, frL_getE]
      have : (ws.take k).length = k := by simp; omega
      rw [this, if_pos (by omega)]
      congr 1
      omega
  · rw [if_neg h, if_neg (by omega)]
theorem mix_step {L ws : List Int} {f n k : Nat} (hl : L.length = 36 * n) (hf : f < n) (hw : ws.length = 36) (hk : k < 36) : (mixL L f k ws).set (f * 36 + k) (ws.getD k 0) = mixL L f (k + 1) ws := by
  apply List.ext_getElem?
  intro i
  have hlm : (mixL L f k ws).length = 36 * n := by unfold mixL; exact setF_len hl hf (mix_len hl hf hw)
  rw [mix_getE hl hf hw, List.getElem?_set, mix_getE hl hf hw]
  by_cases e : f * 36 + k = i
  · rw [if_pos e, if_pos (by omega), if_pos (by omega), show i - f * 36 = k by omega, List.getD_eq_getElem?_getD, List.getElem?_eq_getElem (by omega)]
    rfl
  · rw [if_neg e]
    by_cases h : f * 36 ≤ i ∧ i < f * 36 + k ∧ i < f * 36 + 36
    · rw [if_pos h, if_pos (by omega)]
    · rw [if_neg h, if_neg (by omega)]
theorem chr_of {w w' : World} {B p n : Nat} {v : Value} {bs : List (Nat × Nat)} {L : List Int} (h : RM w B p v n bs L) {k : Nat} {b : Nat × Nat} (hb : bs[k]? = some b) (hc : Chg [b.1] w w') : Chr (bs.map Prod.fst) B w w' := h.chr hb hc

set_option maxHeartbeats 2000000 in
set_option maxRecDepth 100000 in
theorem clear_ok {w : World} {B p n : Nat} {v : Value} {bs : List (Nat × Nat)} {L : List Int} (h : RM w B p v n bs L) (h1 : 1 ≤ n) (h2 : n ≤ 64) (f : Int) : Calls Try.prog 106 #[.pointer (some ⟨p, 0, none⟩), .int .i64 f] w fun e w' => e = .returned (.int .i64 (canF n f)) ∧ RM w' B p v n bs (clL n L f) ∧ Chr (bs.map Prod.fst) B w w' := by
  have HC := is_ok h h1 h2 f
  have H : Hid (RM w B p v n bs L) := h
  unfold clL canF
  by_cases ho : 0 ≤ f ∧ f < n
  · rw [if_pos ho, if_pos ho]
    rw [show isF n f = true from decide_eq_true ho] at HC
    have hl := h.len
    have hf : f.toNat < n := by omega
    have hz : (List.replicate 36 (0 : Int)).length = 36 := List.length_replicate
    have hr : ∀ j, (List.replicate 36 (0 : Int)).getD j 0 = 0 := fun j => by
      rw [List.getD_eq_getElem?_getD, List.getElem?_replicate]
      split <;> rfl
    generalize List.replicate 36 (0 : Int) = Z at *
    have M0 := mix_zero (L := L) (f := f.toNat) Z
    have MS : Hid (∀ k, k < 36 → (mixL L f.toNat k Z).set (f.toNat * 36 + k) 0 = mixL L f.toNat (k + 1) Z) := fun k hk => by
      have := mix_step hl hf hz hk
      rwa [hr k] at this
    have ME := mix_full hl hf hz
    obtain ⟨q, cap, b, rfl, hb, _⟩ := h.at_ hf
    have HB : Hid (bs[f.toNat]? = some b) := hb
    have HM0 : Hid _ := M0
    have HME : Hid _ := ME
    obtain ⟨o1, o2⟩ := ho
    clear h hb M0 ME hz hr hl
    go_enter Try.func106, Try.ntmps106
    go_wp2_with (go_at_call 104; refine Calls.mono HC ?_; rintro e w' ⟨rfl, rfl⟩)
    go_loopw [5] (fun i wr => ∃ k : Nat, k ≤ 36 ∧ i = .int .i64 k ∧ RM wr B p (.slice (some ⟨q, 0, none⟩) n cap) n bs (mixL L f.toNat k Z) ∧ Chg [b.1] w wr) (fun i _ => 36 - (intOf i).toNat)
    case atStart => exact ⟨0, Nat.zero_le _, rfl, by rw [HM0.out]; exact H.out, Chg.refl _ _⟩
    case round =>
      obtain ⟨k, hk, rfl, R, K⟩ := hrel
      by_cases hlt : k < 36
      · have c0 := R.head
        obtain ⟨q1, cap1, b1, e1, e2, c1⟩ := R.at_ hf
        obtain rfl : b1 = b := by have := HB.out; rw [this] at e2; exact (Option.some.inj e2).symm
        obtain ⟨rfl, rfl⟩ : q = q1 ∧ cap = cap1 := by simpa using e1
        have c2 := R.cell HB.out hlt
        generalize (mixL L f.toNat k Z).getD (f.toNat * 36 + k) 0 = y at c2
        have fz := R.free HB.out k
        have G := R.set_ HB.out hlt 0
        rw [MS.out k hlt] at G
        have K2 := K.setCell (p := ⟨b1.1, k, none⟩) (by simp) (.int .u64 0)
        have HG : Hid _ := G
        clear G e1 e2 R K
        go_wp2
        go_roundw
        case rel => exact ⟨k + 1, by omega, by go_num, HG.out, K2⟩
        case measure => simp [intOf]; omega
      · obtain rfl : k = 36 := by omega
        rw [HME.out] at R
        go_wp2
        go_ret
        exact ⟨rfl, R, H.out.chr HB.out K⟩
  · rw [if_neg ho, if_neg ho]
    rw [show isF n f = false from decide_eq_false ho] at HC
    obtain ⟨q, cap, b, rfl, -, -⟩ := h.at_ (k := 0) (by omega)
    clear h ho
    go_enter Try.func106, Try.ntmps106
    go_wp2_with (go_at_call 104; refine Calls.mono HC ?_; rintro e w' ⟨rfl, rfl⟩)
    go_ret
    exact ⟨rfl, H.out, Chr.of0 (Chg.refl _ _)⟩

theorem src36 {w : World} {g cap : Nat} {xs : List Int} (h : w.ownsRow 0 36 1 (.slice (some ⟨g, 0, none⟩) 36 cap) 36 (nums .u64 xs)) : ∀ j u, (nums .u64 xs)[j]? = some u → w.cell? ((⟨g, 0, none⟩ : Addr).add j) = some u := h.cells (g := g) rfl
theorem info_u64' : (Try.prog.info? 36).map (fun i => (i.zero, i.size, i.bytes)) = some (some (.int .u64 0), 1, 8) := by kernel_rfl
set_option maxHeartbeats 2000000 in
set_option maxRecDepth 100000 in
theorem words_ok {w : World} {B p n : Nat} {v : Value} {bs : List (Nat × Nat)} {L : List Int} (h : RM w B p v n bs L) (h1 : 1 ≤ n) (h2 : n ≤ 64) (f : Int) (ho : 0 ≤ f ∧ f < n) : Calls Try.prog 114 #[.pointer (some ⟨p, 0, none⟩), .int .i64 f] w fun e w' => ∃ b, e = .returned (.tuple #[rowV b, .int .i64 0]) ∧ w'.ownsRow 0 36 1 (rowV b) 36 (nums .u64 (frL L f.toNat)) ∧ w.heap.size ≤ b.1 ∧ Chg [] w w' := by
  have HC := is_ok h h1 h2 f
  rw [show isF n f = true from decide_eq_true ho] at HC
  have hf : f.toNat < n := by omega
  have ha := h.alloc (.cells #[] 36)
  obtain ⟨q, cap, b, rfl, hb, _⟩ := h.at_ hf
  obtain ⟨q1, cap1, b1, e1, e2, c1⟩ := ha.at_ hf
  obtain rfl : b1 = b := by rw [hb] at e2; exact (Option.some.inj e2).symm
  obtain ⟨rfl, rfl⟩ : q = q1 ∧ cap = cap1 := by simpa using e1
  have c0 := ha.head
  have hsrc := src36 (ha.rows _ _ hb)
  have hl : (nums .u64 (frL L f.toNat)).length = 36 * 1 := by rw [nums_length, frL_len h.len hf]
  have own0 : (w.alloc (.cells #[] 36)).ownsRow 0 36 1 (.slice (some ⟨w.heap.size, 0, none⟩) 0 0) 0 [] := own_lit w 36 #[] 0 (by decide) rfl
  have HS : Hid _ := hsrc
  have HL : Hid _ := hl
  clear hsrc hl h ha e1 e2 hb
  obtain ⟨o1, o2⟩ := ho
  go_enter Try.func114, Try.ntmps114
  go_wp2_with (first
    | (go_at_call 104; refine Calls.mono HC ?_; rintro e w' ⟨rfl, rfl⟩)
    | (at_builtin; refine wpList_app rfl (.tmp 10) (.tmp 17) 47 rfl 36 (.int .u64 0) 1 8 Try.underlying47 info_u64' rfl (by decide) (by decide) (.slice (some ⟨w.heap.size, 0, none⟩) 0 0) 0 [] rfl own0 ⟨b1.1, 0, none⟩ 36 b1.2 (nums .u64 (frL L f.toNat)) rfl HL.out HS.out (oneCell_nums _ _) (by decide) (by decide) ?_; intro g2 cap2 w2 o2 k2 hq2 lt2))
  go_ret2
  refine ⟨(g2, cap2), rfl, o2, ?_, ?_⟩
  · rcases hq2 with h1 | h1
    · simp [Value.ownBlock] at h1; omega
    · simp at h1; omega
  · exact ((Chg.refl [] w).alloc _).trans k2 (by simp [Value.ownBlock])
set_option maxRecDepth 100000 in
theorem words_no {w : World} {B p n : Nat} {v : Value} {bs : List (Nat × Nat)} {L : List Int} (h : RM w B p v n bs L) (h1 : 1 ≤ n) (h2 : n ≤ 64) (f : Int) (ho : ¬ (0 ≤ f ∧ f < n)) : Calls Try.prog 114 #[.pointer (some ⟨p, 0, none⟩), .int .i64 f] w fun e w' => e = .returned (.tuple #[.slice none 0 0, .int .i64 1]) ∧ w = w' := by
  have HC := is_ok h h1 h2 f
  rw [show isF n f = false from decide_eq_false ho] at HC
  clear h ho
  go_enter Try.func114, Try.ntmps114
  go_wp2_with (go_at_call 104; refine Calls.mono HC ?_; rintro e w' ⟨rfl, rfl⟩)
  go_ret2
  exact ⟨rfl, rfl⟩
end Go.Proofs.Ytknbeklplmhheaa.Ref02
