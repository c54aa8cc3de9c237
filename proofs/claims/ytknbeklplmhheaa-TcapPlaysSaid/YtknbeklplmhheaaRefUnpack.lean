/- What Unpack of package palanquinref01 does. -/
import Derived.Test.YtknbeklplmhheaaUnpack
import Derived.Test.YtknbeklplmhheaaRefPack
namespace Go.Proofs.Ytknbeklplmhheaa.RefUnpack
open Go Go.RowKit Go.Proofs.Ytknbeklplmhheaa Go.Proofs.Ytknbeklplmhheaa.Heap Go.Proofs.Ytknbeklplmhheaa.Bits Go.Proofs.Ytknbeklplmhheaa.Field Go.Proofs.Ytknbeklplmhheaa.Places Go.Proofs.Ytknbeklplmhheaa.Parts Go.Proofs.Ytknbeklplmhheaa.Unpack

theorem unp_bad {ns : List Int} {u : Int} (h : ¬ UnpOk ns u) : unpL ns u = [] ∧ unpE ns u = 1 := ⟨if_neg h, if_neg h⟩
theorem unp_good {ns : List Int} {u : Int} (h : UnpOk ns u) : unpL ns u = partsL ns u ns.length ∧ unpE ns u = 0 := ⟨if_pos h, if_pos h⟩

set_option maxRecDepth 100000 in
theorem unpack_ok (A : Option Addr) (n c : Nat) (ns : List Int) (u : Int) (w : World) (hn : Nums w .i64 A n ns) (h0 : 0 ≤ u) (h1 : u < 18446744073709551616) :
    Calls Try.prog 115 #[.slice A n c, .int .u64 u] w fun e w' => ∃ v, e = .returned (.tuple #[v, .int .i64 (unpE ns u)]) ∧ w'.ownsRow 0 36 1 v (unpL ns u).length (nums .u64 (unpL ns u)) ∧ (∀ g, v.ownBlock = some g → w.heap.size ≤ g) ∧ Chg [] w w' := by
  have b1 := hn.2.1
  have LN : Hid (ns.length = n) := hn.1
  obtain ⟨L, eL⟩ : ∃ L, unpL ns u = L := ⟨_, rfl⟩
  obtain ⟨E, eE⟩ : ∃ E, unpE ns u = E := ⟨_, rfl⟩
  rw [eL, eE]
  have HL : Hid (unpL ns u = L) := eL
  have HE : Hid (unpE ns u = E) := eE
  have HN : Hid (Nums w .i64 A n ns) := hn
  clear eL eE hn
  go_enter Try.func115, Try.ntmps115
  go_wp2_with fail
  go_loopw [6, 7, 8] (fun x a i wr => ∃ (k : Nat) (at_ : Int) (v : Value), k ≤ n ∧ i = .int .i64 k ∧ a = .int .i64 at_ ∧ v = x ∧ Hid (at_ = sumTo ns k ∧ AllCan ns k) ∧ Hid (wr.ownsRow 0 36 1 v k (nums .u64 (partsL ns u k)) ∧ (∀ g, v.ownBlock = some g → w.heap.size ≤ g)) ∧ Hid (Chg [] w wr)) (fun _ _ i _ => n - (intOf i).toNat)
  case atStart => exact ⟨0, 0, _, Nat.zero_le _, rfl, rfl, rfl, ⟨rfl, fun j hj => absurd hj (by omega)⟩, ⟨World.ownsRow_nil _ _ _ _, fun g hg => by simp [Value.ownBlock] at hg⟩, Chg.refl _ _⟩
  case round =>
    obtain ⟨k, at_, v, hk, rfl, rfl, rfl, HU, HO, HC⟩ := hrel
    have hbd := sumTo_bd (by rw [LN.out]; exact hk) HU.out.2
    rw [← HU.out.1] at hbd
    obtain ⟨t0, t1, t2⟩ := hbd
    by_cases hlt : k < n
    · obtain ⟨aA, rfl, hA⟩ := (HN.out.chg HC.out (fun _ _ => by simp)).2.2 (by omega)
      have cA := hA k hlt
      have hab : aA.block < w.heap.size := HN.out.block (by omega)
      obtain ⟨y, ey⟩ : ∃ y, ns.getD k 0 = y := ⟨_, rfl⟩
      rw [ey] at cA
      have HY : Hid (ns.getD k 0 = y) := ey
      clear hA ey
      have HP : Hid (∀ W, Calls Try.prog 120 #[.int .u64 u, .int .i64 at_, .int .i64 y] W fun e w' => e = .returned (.tuple #[.int .u64 (getI u at_ y), .int .i64 (canE at_ y)]) ∧ W = w') := fun W => Ref01.get_ok u at_ y h0 h1 W
      by_cases hp : canB at_ y = true
      · have hE : canE at_ y = 0 := if_pos hp
        have hc := can_bd hp
        obtain ⟨c0, c1, c2⟩ := hc
        have hU : Hid (at_ + y = sumTo ns (k + 1) ∧ AllCan ns (k + 1)) := by
          have e1 := HU.out.1
          refine ⟨?_, can_succ HU.out.2 (by rw [HY.out, ← e1]; exact hp)⟩
          rw [sumTo_succ (by rw [LN.out]; exact hlt), HY.out, ← e1]
        have hG : getI u at_ y = Parts.partAt ns u k := by
          unfold getI Parts.partAt
          rw [if_pos hp]
          unfold st wd
          rw [HY.out, ← HU.out.1]
        rw [hE] at HP
        obtain ⟨g, eg⟩ : ∃ g, getI u at_ y = g := ⟨_, rfl⟩
        rw [eg] at HP hG
        have HG : Hid _ := hG
        clear hE hp eg hG
        have hcB := HC.out.size
        have hkk : k < 65 := by omega
        have hcAo : ∀ o, (wr.alloc o).cell? (aA.add k) = some (.int .i64 y) := fun o => by
          rw [World.cell?_alloc_lt _ _ _ (by rw [block_of_add]; omega)]; exact cA
        go_wp2_with (first
          | (go_at_call 120; refine Calls.mono (HP.out _) ?_; rintro e w1 ⟨rfl, rfl⟩)
          | (at_builtin; refine wpList_app rfl (.tmp 29) (.tmp 31) 47 rfl 36 (.int .u64 0) 1 8 Try.underlying47 info_u64 rfl (by decide) (by decide) v k (nums .u64 (partsL ns u k)) rfl (HO.out.1.alloc _) ⟨wr.heap.size, 0, none⟩ 1 1 [.int .u64 g] rfl rfl (cell_one_new wr _ _) (by simp [Value.oneCell']) (by decide) (by omega) ?_; intro q cap1 w1 o1 k1 hq1 lt1; have cA1 : w1.cell? (aA.add k) = some (.int .i64 y) := arg_stays (B := w.heap.size) hab (hcAo _) k1 (fun s hs => HO.out.2 s (by simpa using hs))))
        have O2 : w1.ownsRow 0 36 1 (.slice (some ⟨q, 0, none⟩) (k + 1) cap1) (k + 1) (nums .u64 (partsL ns u (k + 1))) := by
          rw [partsL_succ, ← HG.out, show nums .u64 (partsL ns u k ++ [g]) = nums .u64 (partsL ns u k) ++ [.int .u64 g] by simp [nums]]
          exact o1
        have Q2 : ∀ g', (Value.slice (some ⟨q, 0, none⟩) (k + 1) cap1).ownBlock = some g' → w.heap.size ≤ g' := fun g' hg' => by
          have e : q = g' := by simpa [Value.ownBlock] using hg'
          subst e
          rcases hq1 with h | h
          · exact HO.out.2 q h
          · simp at h; omega
        have C2 : Chg [] w w1 := (HC.out.alloc _).trans k1 (fun s hs => .inr (HO.out.2 s (by simpa using hs)))
        go_roundw
        case rel => exact ⟨k + 1, at_ + y, _, by omega, by go_num, by go_num, rfl, hU, ⟨O2, Q2⟩, C2⟩
        case measure => simp [intOf]; omega
      · have hno : ¬ UnpOk ns u := fun h => by
          have := h.1 k (by rw [LN.out]; exact hlt)
          rw [HY.out, ← HU.out.1] at this
          exact hp this
        obtain ⟨r1, r2⟩ := unp_bad hno
        rw [HL.out] at r1
        rw [HE.out] at r2
        subst r1 r2
        have hE : canE at_ y = 1 := if_neg hp
        rw [hE] at HP
        clear hE hp hno
        go_wp2_with (go_at_call 120; refine Calls.mono (HP.out _) ?_; rintro e w1 ⟨rfl, rfl⟩)
        go_ret2
        exact ⟨.slice none 0 0, rfl, World.ownsRow_nil _ _ _ _, fun g hg => by simp [Value.ownBlock] at hg, HC.out⟩
    · obtain rfl : k = n := by omega
      have HF : Hid (∀ W, Calls Try.prog 121 #[.int .u64 u, .int .i64 at_] W fun e w' => e = .returned (.bool (fitsB u at_)) ∧ W = w') := fun W => Ref01.fits_ok u at_ h0 h1 W
      have hU : Hid (UnpOk ns u ↔ fitsB u at_ = true) := by
        unfold UnpOk
        rw [LN.out, ← HU.out.1]
        exact ⟨fun h => h.2, fun h => ⟨HU.out.2, h⟩⟩
      obtain ⟨f, ef⟩ : ∃ f, fitsB u at_ = f := ⟨_, rfl⟩
      rw [ef] at HF hU
      clear ef
      cases f with
      | true =>
        obtain ⟨r1, r2⟩ := unp_good (hU.out.2 rfl)
        rw [HL.out] at r1
        rw [HE.out] at r2
        subst r1 r2
        go_wp2_with (go_at_call 121; refine Calls.mono (HF.out _) ?_; rintro e w1 ⟨rfl, rfl⟩)
        go_ret2
        exact ⟨v, rfl, by rw [partsL_length, LN.out]; exact HO.out.1, HO.out.2, HC.out⟩
      | false =>
        obtain ⟨r1, r2⟩ := unp_bad (fun h => absurd (hU.out.1 h) (by decide))
        rw [HL.out] at r1
        rw [HE.out] at r2
        subst r1 r2
        go_wp2_with (go_at_call 121; refine Calls.mono (HF.out _) ?_; rintro e w1 ⟨rfl, rfl⟩)
        go_ret2
        exact ⟨.slice none 0 0, rfl, World.ownsRow_nil _ _ _ _, fun g hg => by simp [Value.ownBlock] at hg, HC.out⟩
end Go.Proofs.Ytknbeklplmhheaa.RefUnpack
