/- FieldPacks' walk. -/
import Derived.Test.YtapgkjkncihlkaaRefUnpack
import Derived.Test.YtapgkjkncihlkaaFieldOne
namespace Go.Proofs.Ytapgkjkncihlkaa.FieldPacks
open Go Go.RowKit Go.Proofs.Ytapgkjkncihlkaa Go.Proofs.Ytapgkjkncihlkaa.Heap Go.Proofs.Ytapgkjkncihlkaa.Bits Go.Proofs.Ytapgkjkncihlkaa.Field Go.Proofs.Ytapgkjkncihlkaa.Places Go.Proofs.Ytapgkjkncihlkaa.Parts Go.Proofs.Ytapgkjkncihlkaa.Unpack

/-- What Pack hands back, of lists of whatever lengths. -/
def packA (n m : Nat) (ns vs : List Int) : Int × Int := if n = m then packS ns vs else (0, 1)

set_option maxRecDepth 100000 in
theorem pack_any (A B : Option Addr) (n m c d : Nat) (ns vs : List Int) (w : World) (hn : Nums w .i64 A n ns) (hv : Nums w .u64 B m vs) (hvs : ∀ x ∈ vs, 0 ≤ x ∧ x < 18446744073709551616) :
    Calls Try.prog 39 #[.slice A n c, .slice B m d] w fun e w' => e = .returned (.tuple #[.int .u64 (packA n m ns vs).1, .int .i64 (packA n m ns vs).2]) ∧ Chg [] w w' := by
  by_cases h : n = m
  · have e : packA n m ns vs = packS ns vs := if_pos h
    rw [e, ← packV_eq hvs (by rw [hv.1, hn.1, h])]
    exact Pack.pack_ok A B n m c d ns vs w hn hv h hvs
  · have e : packA n m ns vs = (0, 1) := if_neg h
    have b1 := hn.2.1
    have b2 := hv.2.1
    have hb : ((n : Int) != (m : Int)) = true := by rw [bne_iff_ne]; omega
    rw [e]
    clear hn hv hvs e h
    go_enter Try.func39, Try.ntmps39
    go_wp2
    obtain ⟨b, eb⟩ : ∃ b, w.heap.size = b := ⟨_, rfl⟩
    obtain ⟨W, eW⟩ : ∃ W, ((((w.alloc (.cells #[.slice A n c] 51)).alloc (.cells #[.slice B m d] 28)).alloc (.cells #[.int .u64 0] 22)).alloc (.cells #[.int .i64 1] 31)) = W := ⟨_, rfl⟩
    have B2 : Blk W (b + 1 + 1) 22 #[.int .u64 0] := by rw [← eW]; exact (Blk.new' _ _ _ (by simp; omega)).alloc _
    have B3 : Blk W (b + 1 + 1 + 1) 31 #[.int .i64 1] := by rw [← eW]; exact Blk.new' _ _ _ (by simp; omega)
    have K : Chg [] w W := by rw [← eW]; exact ((((Chg.refl [] w).alloc _).alloc _).alloc _).alloc _
    have c2 := B2.cell 0
    have c3 := B3.cell 0
    rw [eW]
    exact ⟨rfl, .tuple #[.int .u64 0, .int .i64 1], by simp [results, go_sem, eb, c2, c3], rfl, K⟩
theorem refpack_any (A B : Option Addr) (n m c d : Nat) (ns vs : List Int) (w : World) (hn : Nums w .i64 A n ns) (hv : Nums w .u64 B m vs) (hvs : ∀ x ∈ vs, 0 ≤ x ∧ x < 18446744073709551616) :
    Calls Try.prog 40 #[.slice A n c, .slice B m d] w fun e w' => e = .returned (.tuple #[.int .u64 (packA n m ns vs).1, .int .i64 (packA n m ns vs).2]) ∧ Chg [] w w' := by
  by_cases h : n = m
  · have e : packA n m ns vs = packS ns vs := if_pos h
    rw [e]
    exact (RefPack.pack_ok A B n m c d ns vs w hn hv h hvs).mono fun _ _ ⟨h1, q, h2⟩ => ⟨h1, by rw [h2]; exact (Chg.refl [] w).drewN q⟩
  · have e : packA n m ns vs = (0, 1) := if_neg h
    rw [e]
    exact (RefPack.pack_len A B n m c d w h).mono fun _ _ ⟨h1, h2⟩ => ⟨h1, by rw [← h2]; exact Chg.refl [] w⟩

/-- What a slice that came out of a call is. -/
theorem own_slice {W : World} {v : Value} {L : List Int} (h : W.ownsRow 0 22 1 v L.length (nums .u64 L)) (hl : L.length ≤ 100) : ∃ A c, v = .slice A L.length c ∧ Nums W .u64 A L.length L := by
  rcases h.2 with ⟨rfl, h0⟩ | ⟨g, cap, cur, rfl, _⟩
  · refine ⟨none, 0, by rw [h0], ?_⟩
    have : L = [] := List.eq_nil_of_length_eq_zero h0
    subst this
    exact Nums.nil _ _ _
  · exact ⟨_, _, rfl, own_nums h (by omega)⟩

theorem unpL_len (ns : List Int) (u : Int) : (unpL ns u).length ≤ ns.length := by
  unfold unpL
  split
  · rw [partsL_length]; exact Nat.le_refl _
  · exact Nat.zero_le _

set_option maxRecDepth 100000 in
theorem fieldPacks_walk (A B : Option Addr) (n m c d : Nat) (ns vs : List Int) (u : Int) (w : World) (hn : Nums w .i64 A n ns) (hv : Nums w .u64 B m vs) (hvs : ∀ x ∈ vs, 0 ≤ x ∧ x < 18446744073709551616) (h0 : 0 ≤ u) (h1 : u < 18446744073709551616) :
    Calls Try.prog 10 #[.slice A n c, .slice B m d, .int .u64 u] w fun e w' => e = .returned (.bool true) ∧ Chg [] w w' := by
  have b1 := hn.2.1
  have b2 := hv.2.1
  by_cases h100 : 100 < n
  · clear hn hv hvs
    go_enter Try.func10, Try.ntmps10
    go_wp2_with fail
    refine (awake_ok _).mono ?_
    rintro e w3 ⟨rfl, rfl⟩
    go_wp2
    go_ret
    exact ⟨rfl, Chg.refl [] w⟩
  · have HN : Hid (Nums w .i64 A n ns) := hn
    have HV : Hid (Nums w .u64 B m vs) := hv
    have HVS : Hid (∀ x ∈ vs, 0 ≤ x ∧ x < 18446744073709551616) := hvs
    have LN : Hid (ns.length = n) := hn.1
    clear hn hv hvs
    go_enter Try.func10, Try.ntmps10
    go_wp2_with fail
    refine Calls.mono (pack_any A B n m c d ns vs _ HN.out HV.out HVS.out) ?_
    rintro e w1 ⟨rfl, k1⟩
    go_wp2_with fail
    refine Calls.mono (refpack_any A B n m c d ns vs _ (HN.out.chg k1 (fun _ _ => by simp)) (HV.out.chg k1 (fun _ _ => by simp)) HVS.out) ?_
    rintro e w2 ⟨rfl, k2⟩
    obtain ⟨⟨x, y⟩, exy⟩ : ∃ z, packA n m ns vs = z := ⟨_, rfl⟩
    rw [exy]
    clear exy
    have K2 : Chg [] w w2 := k1.trans k2 (by simp)
    clear k1 k2
    go_wp2_with fail
    refine Calls.mono (Unpack.unpack_ok A n c ns u _ (HN.out.chg K2 (fun _ _ => by simp)) h0 h1) ?_
    rintro e w3 ⟨v1, rfl, o1, q1, k3⟩
    have K3 : Chg [] w w3 := K2.trans k3 (by simp)
    obtain ⟨A1, c1, rfl, z1⟩ := own_slice o1 (by have := unpL_len ns u; rw [LN.out] at this; omega)
    clear k3 o1 q1 K2
    go_wp2_with fail
    refine Calls.mono (RefUnpack.unpack_ok A n c ns u _ (HN.out.chg K3 (fun _ _ => by simp)) h0 h1) ?_
    rintro e w4 ⟨v2, rfl, o2, q2, k4⟩
    have K4 : Chg [] w w4 := K3.trans k4 (by simp)
    have z3 := z1.chg k4 (fun _ _ => by simp)
    obtain ⟨A2, c2, rfl, z2⟩ := own_slice o2 (by have := unpL_len ns u; rw [LN.out] at this; omega)
    obtain ⟨E, eE⟩ : ∃ E, unpE ns u = E := ⟨_, rfl⟩
    rw [eE]
    have hL : (unpL ns u).length ≤ 100 := by have := unpL_len ns u; rw [LN.out] at this; omega
    obtain ⟨L, eL⟩ : ∃ L, unpL ns u = L := ⟨_, rfl⟩
    rw [eL] at z2 z3 hL
    rw [eL]
    obtain ⟨l, el⟩ : ∃ l, L.length = l := ⟨_, rfl⟩
    rw [el] at z2 z3 hL
    rw [el]
    have HZ2 : Hid (Nums w4 .u64 A2 l L) := z2
    have HZ3 : Hid (Nums w4 .u64 A1 l L) := z3
    have t1 : (x != x) = false := by simp
    have t2 : (y != y) = false := by simp
    have t3 : ((l : Int) != (l : Int)) = false := by simp
    have t4 : (E != E) = false := by simp
    clear k4 o2 q2 K3 z1 z2 z3 eE eL el
    go_wp2_with fail
    go_loopw [15] (fun i wr => ∃ k : Nat, k ≤ l ∧ i = .int .i64 k ∧ Hid (∃ q, wr = w4.drewN q)) (fun i _ => l - (intOf i).toNat)
    case atStart => exact ⟨0, Nat.zero_le _, rfl, 0, rfl⟩
    case round =>
      obtain ⟨k, hk, rfl, HQ⟩ := hrel
      by_cases hlt : k < l
      · obtain ⟨a1, rfl, hc1⟩ := HZ3.out.2.2 (by omega)
        obtain ⟨a2, rfl, hc2⟩ := HZ2.out.2.2 (by omega)
        have d1 : wr.cell? (a1.add k) = some (.int .u64 (L.getD k 0)) := by obtain ⟨q, e⟩ := HQ.out; rw [e]; exact hc1 k hlt
        have d2 : wr.cell? (a2.add k) = some (.int .u64 (L.getD k 0)) := by obtain ⟨q, e⟩ := HQ.out; rw [e]; exact hc2 k hlt
        clear hc1 hc2
        obtain ⟨g, eg⟩ : ∃ g, L.getD k 0 = g := ⟨_, rfl⟩
        rw [eg] at d1 d2
        have t5 : (g != g) = false := by simp
        clear eg
        go_wp2_with fail
        go_quiet (fail)
        go_wp2
        go_roundw
        case rel => exact ⟨k + 1, by omega, by go_num, RefPack.drewMore HQ nq⟩
        case measure => simp [intOf]; omega
      · go_wp2_with fail
        refine (awake_ok _).mono ?_
        rintro e w5 ⟨rfl, rfl⟩
        go_wp2
        go_ret
        exact ⟨rfl, by obtain ⟨q, e⟩ := HQ.out; rw [e]; exact K4.drewN q⟩
end Go.Proofs.Ytapgkjkncihlkaa.FieldPacks
