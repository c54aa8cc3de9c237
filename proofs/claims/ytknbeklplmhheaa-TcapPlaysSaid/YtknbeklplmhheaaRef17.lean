/- Package palanquinref17: In, Lay, Read: numbers in the words behind a frame's head. -/
import Derived.Test.YtknbeklplmhheaaLay
import Derived.Test.YtknbeklplmhheaaHeadRefIs
namespace Go.Proofs.Ytknbeklplmhheaa.Ref17
open Go Go.RowKit Go.Proofs.Ytknbeklplmhheaa Go.Proofs.Ytknbeklplmhheaa.Heap Go.Proofs.Ytknbeklplmhheaa.Mem Go.Proofs.Ytknbeklplmhheaa.Two Go.Proofs.Ytknbeklplmhheaa.Lay

/-- Is a number from one to another one? -/
def inB (n a b : Int) : Bool := decide (a ≤ n ∧ n ≤ b)
theorem in_ok (n a b : Int) (w : World) : Calls Try.prog 84 #[.int .i64 n, .int .i64 a, .int .i64 b] w fun e w' => e = .returned (.bool (inB n a b)) ∧ w = w' := by
  go_enter Try.func84, Try.ntmps84
  unfold inB
  by_cases h1 : a ≤ n
  · by_cases h2 : n ≤ b
    · rw [decide_eq_true ⟨h1, h2⟩]
      go_wp2
      go_ret
      exact ⟨rfl, rfl⟩
    · rw [decide_eq_false (fun h => h2 h.2)]
      go_wp2
      go_ret
      exact ⟨rfl, rfl⟩
  · rw [decide_eq_false (fun h => h1 h.1)]
    go_wp2
    go_ret
    exact ⟨rfl, rfl⟩
/-- So many words behind a frame's head. -/
def wds (n : Nat) (L : List Int) (f : Int) (m : Nat) : List Int := (List.range m).map fun i : Nat => ldV n L f (4 + (i : Int))
theorem wds_succ (n : Nat) (L : List Int) (f : Int) (m : Nat) : wds n L f (m + 1) = wds n L f m ++ [ldV n L f (4 + (m : Int))] := by
  unfold wds
  rw [List.range_succ, List.map_append]
  rfl
theorem wds_len (n : Nat) (L : List Int) (f : Int) (m : Nat) : (wds n L f m).length = m := by simp [wds]
theorem wds_get (n : Nat) (L : List Int) (f : Int) {m i : Nat} (h : i < m) : (wds n L f m).getD i 0 = ldV n L f (4 + (i : Int)) := by
  simp [wds, List.getD_eq_getElem?_getD, h]
/-- None of them is too great. -/
def rdOk (n : Nat) (L : List Int) (f : Int) (m : Nat) : Prop := ∀ i, i < m → ldV n L f (4 + (i : Int)) ≤ 1073741824
theorem info_int : (Try.prog.info? 3).map (fun i => (i.zero, i.size, i.bytes)) = some (some (.int .i64 0), 1, 8) := by kernel_rfl
theorem one_new' (w : World) (v : Value) (t : TypeId) {g : Nat} (hg : w.heap.size = g) : ∀ j u, [v][j]? = some u → (w.alloc (.cells #[v] t)).cell? ((⟨g, 0, none⟩ : Addr).add j) = some u := by
  subst hg
  exact Ref02.one_new w v t

set_option maxRecDepth 100000 in
set_option maxHeartbeats 4000000 in
theorem lay_ok {w : World} {B r n : Nat} {v : Value} {bs : List (Nat × Nat)} {L : List Int} (h : Ref02.RM w B r v n bs L) (n1 : 1 ≤ n) (n2 : n ≤ 64) (f : Int) (g c : Nat) (xs : List Int) (hb : Blk w g 3 (nums .i64 xs).toArray) (hx : ∀ x, x ∈ xs → 0 ≤ x ∧ x < 4611686018427387904) (hl : xs.length ≤ 32) :
    Calls Try.prog 77 #[.pointer (some ⟨r, 0, none⟩), .int .i64 f, .slice (some ⟨g, 0, none⟩) xs.length c] w fun e w' => e = .returned (.tuple #[]) ∧ Ref02.RM w' B r v n bs (layL n L f 4 xs) ∧ Ref02.Chr (bs.map Prod.fst) B w w' := by
  have H := Lib.hid h
  have HB := Lib.hid hb
  have HX := Lib.hid hx
  obtain ⟨m, hm⟩ : ∃ m, xs.length = m := ⟨_, rfl⟩
  rw [hm] at hl ⊢
  have HM := Lib.hid hm
  clear h hb hx hm
  go_enter Try.func77, Try.ntmps77
  go_wp2_with fail
  go_loopw [6] (fun i wr => ∃ j : Nat, i = .int .i64 j ∧ j ≤ m ∧ Hid (Ref02.RM wr B r v n bs (layL n L f 4 (xs.take j)) ∧ Ref02.Chr (bs.map Prod.fst) B w wr)) (fun i _ => m - (intOf i).toNat)
  case atStart => exact ⟨0, rfl, Nat.zero_le _, H.out, Ref02.Chr.of0 (Chg.refl _ _)⟩
  case round =>
    obtain ⟨j, rfl, hj, HR⟩ := hrel
    rcases (by omega : j = m ∨ j < m) with rfl | j1
    · have e : xs.take j = xs := List.take_of_length_le (by rw [HM.out]; exact Nat.le_refl _)
      rw [e] at HR
      go_wp2
      go_end0
      exact ⟨rfl, HR.out.1, HR.out.2⟩
    · have hji : (j : Int) < m := by omega
      have hw4 : IntKind.i64.wrap (4 + (j : Int)) = 4 + j := by rw [IntKind.wrap_i64]; omega
      have hB := Ref02.chr_blk HB.out HR.out.2 (.inl (by decide))
      have c0 : wr.cell? ⟨g, j, none⟩ = some (.int .i64 (xs.getD j 0)) := by
        rw [hB.cell]
        have := nums_get .i64 xs j (by rw [HM.out]; exact j1)
        simpa using this
      have hx := HX.out (xs.getD j 0) (by
        rw [List.getD_eq_getElem?_getD, List.getElem?_eq_getElem (by rw [HM.out]; exact j1)]
        exact List.getElem_mem _)
      have hsn : xs.take (j + 1) = xs.take j ++ [xs.getD j 0] := by
        rw [List.take_add_one, List.getElem?_eq_getElem (by rw [HM.out]; exact j1), List.getD_eq_getElem?_getD, List.getElem?_eq_getElem (by rw [HM.out]; exact j1)]
        rfl
      have hlen : (xs.take j).length = j := by simp [HM.out]; omega
      have HS := Lib.hid hsn
      have HL := Lib.hid hlen
      clear hsn hlen hB
      generalize xs.getD j 0 = x at *
      have hwu : IntKind.u64.wrap x = x := by rw [IntKind.wrap_u64]; omega
      go_wp2_with (go_at_call 74; refine Calls.mono (Ref02.store_ok HR.out.1 n1 n2 f (4 + (j : Int)) x) ?_; rintro e w2 ⟨rfl, R2, k2⟩)
      have R3 : Ref02.RM w2 B r v n bs (layL n L f 4 (xs.take (j + 1))) := by
        rw [HS.out, layL_snoc, HL.out]
        exact R2
      have K3 := HeadRef.chr_trans HR.out.2 k2
      clear R2 k2 HS HL c0
      go_roundw
      case rel => exact ⟨j + 1, by go_num, by omega, R3, K3⟩
      case measure => simp [intOf]; omega

set_option maxRecDepth 100000 in
set_option maxHeartbeats 4000000 in
theorem read_ok {w : World} {B r n : Nat} {v : Value} {bs : List (Nat × Nat)} {L : List Int} (h : Ref02.RM w B r v n bs L) (n1 : 1 ≤ n) (n2 : n ≤ 64) (hu : U64 L) (f : Int) (m : Nat) (hm : m ≤ 32) :
    Calls Try.prog 85 #[.pointer (some ⟨r, 0, none⟩), .int .i64 f, .int .i64 m] w fun e w' => ((rdOk n L f m ∧ ∃ s, e = .returned (.tuple #[s, .bool true]) ∧ w'.ownsRow 0 3 1 s m (nums .i64 (wds n L f m))) ∨ (¬ rdOk n L f m ∧ e = .returned (.tuple #[.slice none 0 0, .bool false]))) ∧ Chg [] w w' := by
  have H := Lib.hid h
  have HU := Lib.hid hu
  clear h hu
  go_enter Try.func85, Try.ntmps85
  go_wp2_with fail
  go_loopw [8, 9] (fun s i wr => ∃ (j : Nat) (v : Value), i = .int .i64 j ∧ v = s ∧ j ≤ m ∧ Hid (wr.ownsRow 0 3 1 v j (nums .i64 (wds n L f j)) ∧ (∀ q, v.ownBlock = some q → w.heap.size ≤ q) ∧ rdOk n L f j) ∧ Hid (Chg [] w wr)) (fun _ i _ => m - (intOf i).toNat)
  case atStart => exact ⟨0, _, rfl, rfl, Nat.zero_le _, ⟨World.ownsRow_nil _ _ _ _, fun q hq => by simp [Value.ownBlock] at hq, fun t ht => absurd ht (by omega)⟩, Chg.refl _ _⟩
  case round =>
    obtain ⟨j, s, rfl, rfl, hj, HW, HC⟩ := hrel
    rcases (by omega : j = m ∨ j < m) with rfl | j1
    · go_wp2
      go_ret2
      exact ⟨.inl ⟨HW.out.2.2, s, rfl, HW.out.1⟩, HC.out⟩
    · have hji : (j : Int) < m := by omega
      have hw4 : IntKind.i64.wrap (4 + (j : Int)) = 4 + j := by rw [IntKind.wrap_i64]; omega
      have hb := HU.out.ld (n := n) f (4 + (j : Int))
      have hsn : nums .i64 (wds n L f (j + 1)) = nums .i64 (wds n L f j) ++ [.int .i64 (ldV n L f (4 + (j : Int)))] := by rw [wds_succ]; simp [nums]
      have HSN := Lib.hid hsn
      have HE : Hid (ldV n L f (4 + (j : Int)) = ldV n L f (4 + (j : Int))) := rfl
      have hR := Ref02.load_ok (H.out.chg0 HC.out) n1 n2 f (4 + (j : Int))
      by_cases hle : ldV n L f (4 + (j : Int)) ≤ 1073741824
      · have HZ : Hid (rdOk n L f (j + 1)) := fun t ht => by
          rcases Nat.lt_succ_iff_lt_or_eq.1 ht with h | rfl
          · exact HW.out.2.2 t h
          · exact hle
        generalize ldV n L f (4 + (j : Int)) = x at *
        generalize canE n f (4 + (j : Int)) = ce at *
        have HR := Lib.hid hR
        clear hR hsn HE
        have hwu : IntKind.i64.wrap x = x := by rw [IntKind.wrap_i64]; omega
        go_wp2_with fail
        refine Calls.mono HR.out ?_
        rintro e w5 ⟨rfl, rfl⟩
        obtain ⟨xx, ex⟩ : ∃ x, wr.heap.size = x := ⟨_, rfl⟩
        have hs6 : w.heap.size ≤ xx := by rw [← ex]; exact HC.out.size
        go_wp2_with (at_builtin; refine wpList_app rfl (.tmp 27) (.tmp 30) 49 rfl 3 (.int .i64 0) 1 8 Try.underlying49 info_int rfl (by decide) (by decide) s j (nums .i64 (wds n L f j)) rfl (HW.out.1.alloc _) ⟨xx, 0, none⟩ 1 1 [.int .i64 x] rfl rfl (one_new' wr _ _ ex) (by simp [Value.oneCell']) (by decide) (by omega) ?_; intro q cap1 w7 o7 k7 hq7 lt7)
        have O2 : w7.ownsRow 0 3 1 (.slice (some ⟨q, 0, none⟩) (j + 1) cap1) (j + 1) (nums .i64 (wds n L f (j + 1))) := by
          rw [HSN.out]
          exact o7
        have Q2 : ∀ g', (Value.slice (some ⟨q, 0, none⟩) (j + 1) cap1).ownBlock = some g' → w.heap.size ≤ g' := fun g' hg' => by
          have e : q = g' := by simpa [Value.ownBlock] using hg'
          subst e
          rcases hq7 with h | h
          · exact HW.out.2.1 q h
          · simp at h; omega
        have C2 : Chg [] w w7 := (HC.out.alloc _).trans k7 (fun s hs => .inr (HW.out.2.1 s (by simpa using hs)))
        clear HSN HR hle hb
        go_roundw
        case rel => exact ⟨j + 1, _, by go_num, rfl, by omega, ⟨O2, Q2, HZ.out⟩, C2⟩
        case measure => simp [intOf]; omega
      · have HN : Hid (¬ rdOk n L f m) := fun h => hle (h j j1)
        generalize ldV n L f (4 + (j : Int)) = x at *
        generalize canE n f (4 + (j : Int)) = ce at *
        have HR := Lib.hid hR
        clear hR hsn HE HSN
        go_wp2_with fail
        refine Calls.mono HR.out ?_
        rintro e w5 ⟨rfl, rfl⟩
        go_wp2
        go_ret2
        exact ⟨.inr ⟨HN.out, rfl⟩, HC.out⟩
end Go.Proofs.Ytknbeklplmhheaa.Ref17
