/- FieldBack's walk. -/
import Derived.Test.YtapgkjkncihlkaaFieldPacks
namespace Go.Proofs.Ytapgkjkncihlkaa.FieldBack
open Go Go.RowKit Go.Proofs.Ytapgkjkncihlkaa Go.Proofs.Ytapgkjkncihlkaa.Heap Go.Proofs.Ytapgkjkncihlkaa.Bits Go.Proofs.Ytapgkjkncihlkaa.Field Go.Proofs.Ytapgkjkncihlkaa.Places Go.Proofs.Ytapgkjkncihlkaa.Parts Go.Proofs.Ytapgkjkncihlkaa.Unpack Go.Proofs.Ytapgkjkncihlkaa.FieldPacks

set_option maxRecDepth 100000 in
set_option maxHeartbeats 2000000 in
theorem fieldBack_walk (A B : Option Addr) (n m c d : Nat) (ns vs : List Int) (u : Int) (w : World) (hn : Nums w .i64 A n ns) (hv : Nums w .u64 B m vs) (hvs : ∀ x ∈ vs, 0 ≤ x ∧ x < 18446744073709551616) (h0 : 0 ≤ u) (h1 : u < 18446744073709551616) :
    Calls Try.prog 11 #[.slice A n c, .slice B m d, .int .u64 u] w fun e w' => e = .returned (.bool true) ∧ Chg [] w w' := by
  have b1 := hn.2.1
  have b2 := hv.2.1
  by_cases h100 : 100 < n
  · clear hn hv hvs
    go_enter Try.func11, Try.ntmps11
    go_wp2_with fail
    refine (awake_ok _).mono ?_
    rintro e w3 ⟨rfl, rfl⟩
    go_wp2
    go_ret
    exact ⟨rfl, Chg.refl [] w⟩
  · have HN : Hid (Nums w .i64 A n ns) := hn
    have HV : Hid (Nums w .u64 B m vs) := hv
    have HVS : Hid (∀ x ∈ vs, 0 ≤ x ∧ x < 18446744073709551616) := hvs
    have LN : Hid (ns.length = n) := hn.1
    have LV : Hid (vs.length = m) := hv.1
    clear hn hv hvs
    go_enter Try.func11, Try.ntmps11
    go_wp2_with fail
    refine Calls.mono (pack_any A B n m c d ns vs _ HN.out HV.out HVS.out) ?_
    rintro e w1 ⟨rfl, KW⟩
    by_cases hok : n = m ∧ AllCan ns ns.length ∧ FitAll ns vs ns.length
    · obtain ⟨rfl, hc, hf⟩ := hok
      have hP : packA n n ns vs = ((accS ns vs ns.length : Int), 0) := by unfold packA; rw [if_pos rfl, RefPack.packS_good ⟨hc, hf⟩]
      obtain ⟨hB, hBL⟩ := back_parts (by rw [LV.out, LN.out]) HVS.out hc hf
      have hx := acc_lt64 (Nat.le_refl _) hc hf
      rw [hP]
      obtain ⟨x, ex⟩ : ∃ x : Int, (accS ns vs ns.length : Int) = x := ⟨_, rfl⟩
      have x0 : 0 ≤ x := by omega
      have x1 : x < 18446744073709551616 := by omega
      rw [ex] at hB hBL
      rw [ex]
      obtain ⟨r1, r2⟩ := RefUnpack.unp_good hB
      rw [hBL] at r1
      have HR1 : Hid (unpL ns x = vs) := r1
      have HR2 : Hid (unpE ns x = 0) := r2
      clear hP hB hBL hx ex hc hf r1 r2
      go_wp2_with fail
      refine Calls.mono (Unpack.unpack_ok A n c ns x _ (HN.out.chg KW (fun _ _ => by simp)) x0 x1) ?_
      rintro e w2 ⟨v1, rfl, o1, q1, k2⟩
      rw [HR1.out, LV.out] at o1
      rw [HR2.out]
      have K2 : Chg [] w w2 := KW.trans k2 (by simp)
      obtain ⟨A1, c1, rfl, z1⟩ := own_slice (L := vs) (by rw [LV.out]; exact o1) (by rw [LV.out]; omega)
      rw [LV.out] at z1
      rw [LV.out]
      have HZ1 : Hid (Nums w2 .u64 A1 n vs) := z1
      have HZ2 : Hid (Nums w2 .u64 B n vs) := HV.out.chg K2 (fun _ _ => by simp)
      have t3 : ((n : Int) != (n : Int)) = false := by simp
      clear KW k2 o1 q1 z1 x0 x1
      go_wp2_with fail
      go_loopw [11] (fun i wr => ∃ k : Nat, k ≤ n ∧ i = .int .i64 k ∧ Hid (∃ q, wr = w2.drewN q)) (fun i _ => n - (intOf i).toNat)
      case atStart => exact ⟨0, Nat.zero_le _, rfl, 0, rfl⟩
      case round =>
        obtain ⟨k, hk, rfl, HQ⟩ := hrel
        by_cases hlt : k < n
        · obtain ⟨a1, rfl, hc1⟩ := HZ1.out.2.2 (by omega)
          obtain ⟨a2, rfl, hc2⟩ := HZ2.out.2.2 (by omega)
          have d1 : wr.cell? (a1.add k) = some (.int .u64 (vs.getD k 0)) := by obtain ⟨q, e⟩ := HQ.out; rw [e]; exact hc1 k hlt
          have d2 : wr.cell? (a2.add k) = some (.int .u64 (vs.getD k 0)) := by obtain ⟨q, e⟩ := HQ.out; rw [e]; exact hc2 k hlt
          clear hc1 hc2
          obtain ⟨g, eg⟩ : ∃ g, vs.getD k 0 = g := ⟨_, rfl⟩
          rw [eg] at d1 d2
          have t5 : (g != g) = false := by simp
          clear eg
          go_wp2_with fail
          go_quiet (fail)
          go_wp2
          go_roundw
          case rel => exact ⟨k + 1, by omega, by go_num, RefPack.drewMore HQ nq⟩
          case measure => simp [intOf]; omega
        · obtain rfl : n = k := by omega
          have KW : Chg [] w wr := by obtain ⟨q, e⟩ := HQ.out; rw [e]; exact K2.drewN q
          clear K2 HZ1 HZ2
          go_wp2_with fail
          refine Calls.mono (Unpack.unpack_ok A n c ns u _ (HN.out.chg KW (fun _ _ => by simp)) h0 h1) ?_
          rintro e w3 ⟨v3, rfl, o3, q3, k3⟩
          have K3 : Chg [] w w3 := KW.trans k3 (by simp)
          obtain ⟨A3, c3, rfl, z3⟩ := own_slice o3 (by have := unpL_len ns u; rw [LN.out] at this; omega)
          clear k3 o3 q3 KW
          by_cases hU : UnpOk ns u
          · obtain ⟨r1, r2⟩ := RefUnpack.unp_good hU
            have hbk := back_word h0 hU
            have hP : packA n n ns (partsL ns u ns.length) = (u, 0) := by
              unfold packA
              rw [if_pos rfl, RefPack.packS_good ⟨hU.1, parts_fit hU.1⟩, hbk]
            have hPv : ∀ x ∈ partsL ns u ns.length, 0 ≤ x ∧ x < 18446744073709551616 := fun x hx => by
              obtain ⟨j, _, rfl⟩ := List.mem_map.1 hx
              exact part_bd ⟨h0, h1⟩
            rw [r1] at z3
            rw [r1, r2]
            obtain ⟨L, eL⟩ : ∃ L, partsL ns u ns.length = L := ⟨_, rfl⟩
            have hl : L.length = n := by rw [← eL, partsL_length, LN.out]
            rw [eL] at z3 hP hPv
            rw [eL]
            rw [hl] at z3
            rw [hl]
            have HZ : Hid (Nums w3 .u64 A3 n L) := z3
            have HP : Hid (packA n n ns L = (u, 0)) := hP
            have HPv : Hid (∀ x ∈ L, 0 ≤ x ∧ x < 18446744073709551616) := hPv
            have t9 : (u == u) = true := by simp
            clear z3 hP hPv hbk eL hl hU r1 r2
            go_wp2_with fail
            refine Calls.mono (pack_any A A3 n n c c3 ns L _ (HN.out.chg K3 (fun _ _ => by simp)) HZ.out HPv.out) ?_
            rintro e w4 ⟨rfl, k4⟩
            rw [HP.out]
            have K4 : Chg [] w w4 := K3.trans k4 (by simp)
            clear k4
            go_wp2_with fail
            refine (awake_ok _).mono ?_
            rintro e w5 ⟨rfl, rfl⟩
            go_wp2
            go_ret
            exact ⟨rfl, K4⟩
          · obtain ⟨r1, r2⟩ := RefUnpack.unp_bad hU
            rw [r1] at z3
            rw [r1, r2]
            clear z3 r1 r2 hU
            go_wp2_with fail
            refine (awake_ok _).mono ?_
            rintro e w5 ⟨rfl, rfl⟩
            go_wp2
            go_ret
            exact ⟨rfl, K3⟩
    · have hP : packA n m ns vs = (0, 1) := by
        unfold packA
        split
        · rename_i h
          exact RefPack.packS_bad fun h' => hok ⟨h, h'⟩
        · rfl
      rw [hP]
      clear hP hok
      go_wp2_with fail
      refine Calls.mono (Unpack.unpack_ok A n c ns u _ (HN.out.chg KW (fun _ _ => by simp)) h0 h1) ?_
      rintro e w3 ⟨v3, rfl, o3, q3, k3⟩
      have K3 : Chg [] w w3 := KW.trans k3 (by simp)
      obtain ⟨A3, c3, rfl, z3⟩ := own_slice o3 (by have := unpL_len ns u; rw [LN.out] at this; omega)
      clear k3 o3 q3 KW
      by_cases hU : UnpOk ns u
      · obtain ⟨r1, r2⟩ := RefUnpack.unp_good hU
        have hbk := back_word h0 hU
        have hP : packA n n ns (partsL ns u ns.length) = (u, 0) := by
          unfold packA
          rw [if_pos rfl, RefPack.packS_good ⟨hU.1, parts_fit hU.1⟩, hbk]
        have hPv : ∀ x ∈ partsL ns u ns.length, 0 ≤ x ∧ x < 18446744073709551616 := fun x hx => by
          obtain ⟨j, _, rfl⟩ := List.mem_map.1 hx
          exact part_bd ⟨h0, h1⟩
        rw [r1] at z3
        rw [r1, r2]
        obtain ⟨L, eL⟩ : ∃ L, partsL ns u ns.length = L := ⟨_, rfl⟩
        have hl : L.length = n := by rw [← eL, partsL_length, LN.out]
        rw [eL] at z3 hP hPv
        rw [eL]
        rw [hl] at z3
        rw [hl]
        have HZ : Hid (Nums w3 .u64 A3 n L) := z3
        have HP : Hid (packA n n ns L = (u, 0)) := hP
        have HPv : Hid (∀ x ∈ L, 0 ≤ x ∧ x < 18446744073709551616) := hPv
        have t9 : (u == u) = true := by simp
        clear z3 hP hPv hbk eL hl hU r1 r2
        go_wp2_with fail
        refine Calls.mono (pack_any A A3 n n c c3 ns L _ (HN.out.chg K3 (fun _ _ => by simp)) HZ.out HPv.out) ?_
        rintro e w4 ⟨rfl, k4⟩
        rw [HP.out]
        have K4 : Chg [] w w4 := K3.trans k4 (by simp)
        clear k4
        go_wp2_with fail
        refine (awake_ok _).mono ?_
        rintro e w5 ⟨rfl, rfl⟩
        go_wp2
        go_ret
        exact ⟨rfl, K4⟩
      · obtain ⟨r1, r2⟩ := RefUnpack.unp_bad hU
        rw [r1] at z3
        rw [r1, r2]
        clear z3 r1 r2 hU
        go_wp2_with fail
        refine (awake_ok _).mono ?_
        rintro e w5 ⟨rfl, rfl⟩
        go_wp2
        go_ret
        exact ⟨rfl, K3⟩
end Go.Proofs.Ytapgkjkncihlkaa.FieldBack
