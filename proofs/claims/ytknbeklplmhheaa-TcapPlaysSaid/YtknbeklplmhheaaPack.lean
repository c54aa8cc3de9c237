/- What Pack and Unpack of package field do, each walked once over the iterator 'places'. -/
import Derived.Test.YtknbeklplmhheaaPlaces
import Derived.Test.YtknbeklplmhheaaRound2
namespace Go.Proofs.Ytknbeklplmhheaa.Pack
open Go Go.RowKit Go.Shelf Go.Proofs.Ytknbeklplmhheaa Go.Proofs.Ytknbeklplmhheaa.Heap Go.Proofs.Ytknbeklplmhheaa.Bits Go.Proofs.Ytknbeklplmhheaa.Field Go.Proofs.Ytknbeklplmhheaa.Places
attribute [local go_sem] Oper.semAt_some

theorem blk_own {W W' : World} {row : Option Nat} {g t : Nat} {cs : Array Value} (h : Blk W g t cs) (hg : W.grownBy W' row) (hr : ∀ r, row = some r → ∃ o : Obj, W.heap[r]? = some o ∧ o.isCells = false) : Blk W' g t cs := by
  refine (hg.block g h.lt (fun e => ?_)).trans h
  obtain ⟨o, ho, hc⟩ := hr g e.symm
  unfold Blk at h
  rw [h] at ho
  injection ho with ho
  subst ho
  cases hc

/-- May a part be: is its place one, does its number fit? -/
def good (ns vs : List Int) (p : Int × Int) : Bool := decide (0 ≤ p.2) && fitsB (vs.getD p.1.toNat 0) (ns.getD p.1.toNat 0)
/-- A word with one more part. -/
def orIn (vs : List Int) (acc : Int) (p : Int × Int) : Int := bits .or .u64 acc (IntKind.u64.wrap (vs.getD p.1.toNat 0 * 2 ^ p.2.toNat))
/-- The word of what has come. -/
def accOf {ns : List Int} (vs : List Int) (pre : List (Pl ns)) : Int := pre.foldl (fun a p => orIn vs a p.1) 0
theorem accOf_snoc {ns : List Int} (vs : List Int) (pre : List (Pl ns)) (x : Pl ns) : accOf vs (pre ++ [x]) = orIn vs (accOf vs pre) x.1 := by simp [accOf]
/-- Are all parts of a list right? -/
def AllGood {ns : List Int} (vs : List Int) (pre : List (Pl ns)) : Prop := ∀ p ∈ pre, good ns vs p.1 = true

theorem others_drewN (W : World) (n : Nat) : KeepsOthers W (W.drewN n) := ⟨Nat.le_refl _, fun _ _ h _ => h⟩
theorem below_drewN {B : Nat} {a w : World} (h : Below B a w) (n : Nat) : Below B a (w.drewN n) := ⟨h.os, h.tape, h.output, h.size, h.block⟩
theorem not_allGood {ns : List Int} {vs : List Int} {pre : List (Pl ns)} {x : Pl ns} (h : good ns vs x.1 = false) : ¬ AllGood vs (pre ++ [x]) := fun hG => by
  have := hG x (by simp)
  rw [h] at this
  cases this
theorem allGood_snoc {ns : List Int} {vs : List Int} {pre : List (Pl ns)} {x : Pl ns} (hp : AllGood vs pre) (h : good ns vs x.1 = true) : AllGood vs (pre ++ [x]) := fun p hp' => by
  rcases List.mem_append.1 hp' with h1 | h1
  · exact hp p h1
  · rw [List.mem_singleton.1 h1]; exact h

theorem upto_sub {ns : List Int} {k : Nat} : ∀ {m : Nat} (_hkm : k ≤ m) (hk : k ≤ len ns) (hm : m ≤ len ns) {p : Pl ns}, p ∈ upto ns k hk → p ∈ upto ns m hm := by
  intro m
  induction m with
  | zero => intro hkm hk hm p hp; have : k = 0 := by omega
            subst this; exact hp
  | succ m ih =>
    intro hkm hk hm p hp
    by_cases e : k = m + 1
    · subst e; exact hp
    · exact List.mem_append_left _ (ih (by omega) hk (by omega) hp)
/-- What Pack hands back. -/
def packV (ns vs : List Int) : Int × Int := if (upto ns (len ns) (Nat.le_refl _)).all (fun p => good ns vs p.1) = true then (accOf vs (upto ns (len ns) (Nat.le_refl _)), 0) else (0, 1)
theorem packV_good {ns vs : List Int} (h : AllGood vs (upto ns (len ns) (Nat.le_refl _))) : packV ns vs = (accOf vs (upto ns (len ns) (Nat.le_refl _)), 0) := if_pos (List.all_eq_true.2 h)
theorem packV_bad {ns vs : List Int} {k : Nat} {h : k ≤ len ns} (hb : ¬ AllGood vs (upto ns k h)) : packV ns vs = (0, 1) := by
  unfold packV
  rw [if_neg]
  intro ha
  rw [List.all_eq_true] at ha
  exact hb fun p hp => ha p (upto_sub h h (Nat.le_refl _) hp)

/-- Between two rounds of Pack. -/
def PackI (n c d : Nat) (A B : Option Addr) (ns vs : List Int) (w : World) (b0 b1 b2 b3 b4 : Nat) (pre : List (Pl ns)) (W : World) : Prop :=
  (Blk W b0 49 #[.slice A n c] ∧ Blk W b1 47 #[.slice B n d] ∧ Blk W b2 36 #[.int .u64 0] ∧ Blk W b3 26 #[.int .i64 0] ∧ Blk W b4 36 #[.int .u64 (accOf vs pre)] ∧ AllGood vs pre) ∧ Below w.heap.size w W
/-- Behind a round that has left. -/
def PackX (ns vs : List Int) (w : World) (b2 b3 : Nat) (c : Code) (pre : List (Pl ns)) (W : World) : Prop :=
  (c = .ret ∧ Blk W b2 36 #[.int .u64 0] ∧ Blk W b3 26 #[.int .i64 1] ∧ ¬ AllGood vs pre) ∧ Below w.heap.size w W

set_option maxRecDepth 100000 in
set_option maxHeartbeats 2000000 in
theorem pack_ok (A B : Option Addr) (n m c d : Nat) (ns vs : List Int) (w : World) (hn : Nums w .i64 A n ns) (hv : Nums w .u64 B m vs) (hnm : n = m) (hvs : ∀ x ∈ vs, 0 ≤ x ∧ x < 18446744073709551616) :
    Calls Try.prog 116 #[.slice A n c, .slice B m d] w fun e w' => e = .returned (.tuple #[.int .u64 (packV ns vs).1, .int .i64 (packV ns vs).2]) ∧ Chg [] w w' := by
  subst hnm
  have ln := hn.1
  have lv := hv.1
  have bn := hn.2.1
  subst ln
  refine (callsIn_wide (n := 10)).1 ?_
  refine callsIn_of_wp_marks Try.func116 rfl trivial ?_ rfl
  simp only [Try.ntmps116, List.size_toArray, List.length_cons, List.length_nil, Nat.reduceAdd, Nat.reduceSub, Array.replicate_succ, Array.replicate_zero, List.push_toArray, List.append_toArray, List.nil_append, List.cons_append]
  gi_wp2_with (refine ⟨trivial, ?_⟩; gi_at_call 122; refine (places_in _ _ _ _).mono ?_; rintro e w' ⟨rfl, rfl⟩)
  obtain ⟨b0, e0⟩ : ∃ b, w.heap.size = b := ⟨_, rfl⟩
  rw [e0]
  obtain ⟨b1, e1⟩ : ∃ b, b0 + 1 = b := ⟨_, rfl⟩
  rw [e1]
  obtain ⟨b2, e2⟩ : ∃ b, b1 + 1 = b := ⟨_, rfl⟩
  rw [e2]
  obtain ⟨b3, e3⟩ : ∃ b, b2 + 1 = b := ⟨_, rfl⟩
  rw [e3]
  obtain ⟨b4, e4⟩ : ∃ b, b3 + 1 = b := ⟨_, rfl⟩
  rw [e4]
  obtain ⟨b5, e5⟩ : ∃ b, b4 + 1 = b := ⟨_, rfl⟩
  rw [e5]
  obtain ⟨W0, hW0⟩ : ∃ W0, ((((((w.alloc (.cells #[.slice A ns.length c] 49)).alloc (.cells #[.slice B ns.length d] 47)).alloc (.cells #[.int .u64 0] 36)).alloc (.cells #[.int .i64 0] 26)).alloc (.cells #[.int .u64 0] 36)).alloc (.cells #[.slice A ns.length c] 49)) = W0 := ⟨_, rfl⟩
  rw [hW0]
  have B0 : Blk W0 b0 49 #[.slice A ns.length c] := by rw [← hW0]; exact (((((Blk.new' _ _ _ e0).alloc _).alloc _).alloc _).alloc _).alloc _
  have B1 : Blk W0 b1 47 #[.slice B ns.length d] := by rw [← hW0]; exact ((((Blk.new' _ _ _ (by simp; omega)).alloc _).alloc _).alloc _).alloc _
  have B2 : Blk W0 b2 36 #[.int .u64 0] := by rw [← hW0]; exact (((Blk.new' _ _ _ (by simp; omega)).alloc _).alloc _).alloc _
  have B3 : Blk W0 b3 26 #[.int .i64 0] := by rw [← hW0]; exact ((Blk.new' _ _ _ (by simp; omega)).alloc _).alloc _
  have B4 : Blk W0 b4 36 #[.int .u64 0] := by rw [← hW0]; exact (Blk.new' _ _ _ (by simp; omega)).alloc _
  have B5 : Blk W0 b5 49 #[.slice A ns.length c] := by rw [← hW0]; exact Blk.new' _ _ _ (by simp; omega)
  have K0 : Chg [] w W0 := by rw [← hW0]; exact ((((((Chg.refl [] w).alloc _).alloc _).alloc _).alloc _).alloc _).alloc _
  have hs0 : W0.heap.size = b5 + 1 := by rw [← hW0]; simp; omega
  have hN0 := hn.chg K0 (by simp)
  have hV0 := hv.chg K0 (by simp)
  have HVS : Hid (∀ x ∈ vs, 0 ≤ x ∧ x < 18446744073709551616) := hvs
  have hAb : ∀ ad, A = some ad → 0 < ns.length → ad.block < w.heap.size := fun ad e h => by subst e; exact hn.block h
  clear hvs
  refine wpIn_rangeFunc_ownF rfl (by decide) (gf := 128) (lb := #[.pointer (some ⟨b5, 0, none⟩)]) rfl trivial (enters_of Try.func128 (by kernel_rfl) rfl)
    (places_stops ns b5 w.heap.size A c W0 B5.lt (by omega) (B5.cell 0) hN0 ?hA) belowK_t (belowK_b (by omega)) (Below.refl _ _) (fun _ => rfl)
    (PackI ns.length c d A B ns vs w b0 b1 b2 b3 b4) (PackX ns vs w b2 b3) ?hI ?hIx ?h0
    (fun x => { tmps := #[.slice A ns.length c, .slice B ns.length d, .pointer (some ⟨b0, 0, none⟩), .pointer (some ⟨b1, 0, none⟩), .pointer (some ⟨b2, 0, none⟩), .pointer (some ⟨b3, 0, none⟩), .pointer (some ⟨b4, 0, none⟩), .int .i64 x.1.1, .int .i64 x.1.2, .slice A ns.length c, .int .i64 ns.length, .slice B ns.length d, .int .i64 ns.length, .bool false, .slice A ns.length c, .func (.func 128) #[] #[.pointer (some ⟨b5, 0, none⟩)], .int .i64 x.1.1, .int .i64 x.1.2, undef, undef, undef, undef, undef, undef, undef, undef, undef, undef, undef, undef, undef, undef, undef, undef, undef, undef, undef, undef, undef, undef, undef], defers := [] }) ?assign ?body ?done ?stop
  case hA => exact hAb
  case hI =>
    refine OwnFrom.and (Own.from (fun s P R row hs hg hr => ?_) _) (ownFrom_below (Nat.le_refl _) (by omega))
    obtain ⟨h0, h1, h2, h3, h4, h5⟩ := hs
    exact ⟨blk_own h0 hg hr, blk_own h1 hg hr, blk_own h2 hg hr, blk_own h3 hg hr, blk_own h4 hg hr, h5⟩
  case hIx =>
    intro cc
    refine OwnFrom.and (Own.from (fun s P R row hs hg hr => ?_) _) (ownFrom_below (Nat.le_refl _) (by omega))
    obtain ⟨h0, h1, h2, h3⟩ := hs
    exact ⟨h0, blk_own h1 hg hr, blk_own h2 hg hr, h3⟩
  case h0 => exact ⟨⟨B0, B1, B2, B3, B4, fun p hp => by cases hp⟩, K0.below (by simp) (Nat.le_refl _)⟩
  case assign =>
    intro l x W K hK
    gi_wp2
    exact hK
  case body =>
    rintro l pre ⟨⟨i, at_⟩, hi0, hi1, ha0, ha1⟩ W ⟨⟨h0, h1, h2, h3, h4, h5⟩, hB⟩ hlen
    dsimp only at hi0 hi1 ha0 ha1
    obtain ⟨k, rfl⟩ := Int.eq_ofNat_of_zero_le hi0
    have hk : k < ns.length := by omega
    have c0 : W.cell? ⟨b0, 0, none⟩ = some (.slice A ns.length c) := h0.cell 0
    have c1 : W.cell? ⟨b1, 0, none⟩ = some (.slice B ns.length d) := h1.cell 0
    have c2 : W.cell? ⟨b2, 0, none⟩ = some (.int .u64 0) := h2.cell 0
    have c3 : W.cell? ⟨b3, 0, none⟩ = some (.int .i64 0) := h3.cell 0
    have c4 : W.cell? ⟨b4, 0, none⟩ = some (.int .u64 (accOf vs pre)) := h4.cell 0
    have f2 := h2.frozen 0
    have f3 := h3.frozen 0
    have f4 := h4.frozen 0
    obtain ⟨aA, rfl, hcA⟩ := hn.2.2 (by omega)
    obtain ⟨aB, rfl, hcB⟩ := hv.2.2 (by omega)
    have cA : W.cell? (aA.add k) = some (.int .i64 (ns.getD k 0)) := (hB.cell (by rw [block_of_add]; exact hn.block (by omega))).trans (hcA k hk)
    have cB : W.cell? (aB.add k) = some (.int .u64 (vs.getD k 0)) := (hB.cell (by rw [block_of_add]; exact hv.block (by omega))).trans (hcB k hk)
    have hx : 0 ≤ vs.getD k 0 ∧ vs.getD k 0 < 18446744073709551616 := by
      refine HVS.out _ ?_
      rw [List.getD_eq_getElem?_getD, List.getElem?_eq_getElem (by omega)]; simp
    have HG : Hid (good ns vs ((k : Int), at_) = (decide (0 ≤ at_) && fitsB (vs.getD k 0) (ns.getD k 0))) := rfl
    have HO : Hid (orIn vs (accOf vs pre) ((k : Int), at_) = bits .or .u64 (accOf vs pre) (IntKind.u64.wrap (vs.getD k 0 * 2 ^ at_.toNat))) := rfl
    obtain ⟨y, ey⟩ : ∃ y, ns.getD k 0 = y := ⟨_, rfl⟩
    obtain ⟨x, ex⟩ : ∃ x, vs.getD k 0 = x := ⟨_, rfl⟩
    rw [ey] at cA HG
    rw [ex] at cB HG HO hx
    obtain ⟨acc, ea⟩ : ∃ a, accOf vs pre = a := ⟨_, rfl⟩
    rw [ea] at c4 HO
    obtain ⟨hx0, hx1⟩ := hx
    clear ey ex
    have hbb : w.heap.size ≤ b2 ∧ w.heap.size ≤ b3 ∧ w.heap.size ≤ b4 := by omega
    by_cases hat : at_ < 0
    · have HX : good ns vs ((k : Int), at_) = false := by rw [HG.out]; simp; omega
      gi_wp2
      refine Round.quiet_round rfl (by kernel_rfl) (by kernel_rfl) (by kernel_rfl) ?_
      repeat (first
        | gi_big_quiet_step (fail)
        | (refine BigFrame.wpQuietIn_skip (fun _ _ _ _ => trivial) (by rfl) ?_; simp only [Act.put, List.setIfInBounds_toArray, List.set_cons_zero, List.set_cons_succ])
        | (refine BigFrame.wpQuietIn_want (fun _ _ _ _ => trivial) (by rfl) ?_; intro K hK; gi_big_quiet_op; first | go_big_quiet_on | gi_big_quiet_call (fail)))
      refine wpQuietIn_nil ?_
      intro _ hw'
      obtain ⟨nq, hw''⟩ := hw'
      subst hw''
      gi_wp2
      refine ⟨(((others_drewN _ _).trans (KeepsOthers.setCell _ _ _)).trans (KeepsOthers.setCell _ _ _)), ⟨rfl, ?_, ?_, not_allGood HX⟩, ?_⟩
      · exact (Blk.set_ (h2.drewN nq) 0 _).far (by simp; omega) _
      · exact Blk.set_ ((h3.drewN nq).far (by simp; omega) _) 0 _
      · exact ((below_drewN hB nq).setCell (by simp; omega) _).setCell (by simp; omega) _
    · have HF : Hid (∀ nq, Calls Try.prog 123 #[.int .u64 x, .int .i64 y] (W.drewN nq) fun e w' => e = .returned (.bool (fitsB x y)) ∧ w' = (W.drewN nq)) := fun nq => (fits_ok x y hx0 hx1 _).mono (fun _ _ h => ⟨h.1, h.2.symm⟩)
      have hd : decide (at_ < 0) = false := by simpa using hat
      by_cases hfit : fitsB x y = true
      · have HX : good ns vs ((k : Int), at_) = true := by rw [HG.out, hfit]; simp; omega
        rw [hfit] at HF
        gi_wp2
        refine Round.quiet_round rfl (by kernel_rfl) (by kernel_rfl) (by kernel_rfl) ?_
        repeat (first
          | gi_big_quiet_step ((gi_at_call 123; exact CallsIn.quiet_of_same (callsIn_wide.2 (HF.out _))))
          | (refine BigFrame.wpQuietIn_skip (fun _ _ _ _ => trivial) (by rfl) ?_; simp only [Act.put, List.setIfInBounds_toArray, List.set_cons_zero, List.set_cons_succ])
          | (refine BigFrame.wpQuietIn_want (fun _ _ _ _ => trivial) (by rfl) ?_; intro K hK; gi_big_quiet_op; first | go_big_quiet_on | gi_big_quiet_call ((gi_at_call 123; exact CallsIn.quiet_of_same (callsIn_wide.2 (HF.out _))))))
        refine wpQuietIn_nil ?_
        intro _ hw'
        obtain ⟨nq, hw''⟩ := hw'
        subst hw''
        gi_wp2
        obtain ⟨V, eV⟩ : ∃ V, W.drewN nq = V := ⟨_, rfl⟩
        have k0 : V.cell? ⟨b0, 0, none⟩ = some (.slice (some aA) ns.length c) := by rw [← eV]; exact c0
        have k1 : V.cell? ⟨b1, 0, none⟩ = some (.slice (some aB) ns.length d) := by rw [← eV]; exact c1
        have k4 : V.cell? ⟨b4, 0, none⟩ = some (.int .u64 acc) := by rw [← eV]; exact c4
        have g4 : V.frozen? ⟨b4, 0, none⟩ = false := by rw [← eV]; exact f4
        have kB : V.cell? (aB.add k) = some (.int .u64 x) := by rw [← eV]; exact cB
        rw [eV]
        have h0at : 0 ≤ at_ := by omega
        have hEV : KeepsOthers W V := by rw [← eV]; exact others_drewN _ _
        have hBV : Below w.heap.size w V := by rw [← eV]; exact below_drewN hB _
        have H0 : Blk V b0 49 #[.slice (some aA) ns.length c] := by rw [← eV]; exact h0
        have H1 : Blk V b1 47 #[.slice (some aB) ns.length d] := by rw [← eV]; exact h1
        have H2 : Blk V b2 36 #[.int .u64 0] := by rw [← eV]; exact h2
        have H3 : Blk V b3 26 #[.int .i64 0] := by rw [← eV]; exact h3
        have H4 : Blk V b4 36 #[.int .u64 (accOf vs pre)] := by rw [← eV]; exact h4
        have hacc : accOf vs (pre ++ [(⟨((k : Int), at_), hi0, hi1, ha0, ha1⟩ : Pl ns)]) = bits .or .u64 acc (IntKind.u64.wrap (x * 2 ^ at_.toNat)) := by rw [accOf_snoc, ea]; exact HO.out
        obtain ⟨z, ez⟩ : ∃ z, bits .or .u64 acc (IntKind.u64.wrap (x * 2 ^ at_.toNat)) = z := ⟨_, rfl⟩
        have hleaf : ∀ Z, Z = (V.setCell ⟨b4, 0, none⟩ (.int .u64 z)).drew → ownPostK (Below w.heap.size) (PackI ns.length c d (some aA) (some aB) ns vs w b0 b1 b2 b3 b4) (PackX ns vs w b2 b3) (pre ++ [(⟨((k : Int), at_), hi0, hi1, ha0, ha1⟩ : Pl ns)]) W .normal { tmps := #[], defers := [] } Z := by
          rintro Z rfl
          have hBw : Below w.heap.size V (V.setCell ⟨b4, 0, none⟩ (.int .u64 z)).drew := ((Below.refl _ _).setCell (by simp; omega) _).drew
          have hBW : Below w.heap.size W V := by rw [← eV]; exact below_drewN (Below.refl _ _) _
          refine ⟨(hEV.trans (KeepsOthers.setCell _ _ _)).trans (KeepsOthers.drew _), hBW.trans hBw, ⟨?_, ?_, ?_, ?_, ?_, allGood_snoc h5 HX⟩, hBV.trans hBw⟩
          · exact (H0.far (by simp; omega) _).drew
          · exact (H1.far (by simp; omega) _).drew
          · exact (H2.far (by simp; omega) _).drew
          · exact (H3.far (by simp; omega) _).drew
          · rw [hacc, ez]; exact (Blk.set_ H4 0 _).drew
        refine Round.held_round (S := fun X => X.cell? ⟨b0, 0, none⟩ = some (.slice (some aA) ns.length c) ∧ X.cell? ⟨b1, 0, none⟩ = some (.slice (some aB) ns.length d) ∧ X.cell? (aB.add k) = some (.int .u64 x)) (by kernel_rfl) (by kernel_rfl) ⟨k0, k1, kB⟩ (fun hHeld => ?_)
        refine wpAnyH_take (i := 1) (v := .slice (some aB) ns.length d) rfl (by kernel_rfl) (by kernel_rfl) (by kernel_rfl) (fun _ _ _ h => h) (Or.inl ⟨by rfl, fun X hX => by obtain ⟨z0, z1, z2⟩ := hX; go_simp⟩) hHeld ?_
        refine wpAnyH_take (i := 2) (v := .int .i64 k) rfl (by kernel_rfl) (by kernel_rfl) (by kernel_rfl) (fun _ _ _ h => h) (Or.inl ⟨by rfl, fun X hX => by obtain ⟨z0, z1, z2⟩ := hX; go_simp⟩) hHeld ?_
        refine wpAnyH_take (i := 3) (v := .pointer (some (aB.add k))) rfl (by kernel_rfl) (by kernel_rfl) (by kernel_rfl) (fun _ _ _ h => h) (Or.inl ⟨by rfl, fun X hX => by obtain ⟨z0, z1, z2⟩ := hX; go_simp⟩) hHeld ?_
        refine wpAnyH_take (i := 4) (v := .int .u64 x) rfl (by kernel_rfl) (by kernel_rfl) (by kernel_rfl) (fun _ _ _ h => h) (Or.inl ⟨by rfl, fun X hX => by obtain ⟨z0, z1, z2⟩ := hX; go_simp⟩) hHeld ?_
        refine wpAnyH_take (i := 5) (v := .int .i64 at_) rfl (by kernel_rfl) (by kernel_rfl) (by kernel_rfl) (fun _ _ _ h => h) (Or.inl ⟨by rfl, fun X hX => by obtain ⟨z0, z1, z2⟩ := hX; go_simp⟩) hHeld ?_
        refine wpAnyH_take (i := 6) (v := .int .u64 (IntKind.u64.wrap (x * 2 ^ at_.toNat))) rfl (by kernel_rfl) (by kernel_rfl) (by kernel_rfl) (fun _ _ _ h => h) (Or.inl ⟨by rfl, fun X hX => by obtain ⟨z0, z1, z2⟩ := hX; go_simp⟩) hHeld ?_
        refine Round.held_one 0 (by kernel_rfl) rfl (fun K hK => ?_)
        go_simp
        refine hK.out _ _ hHeld (fun hHeld => ?_)
        clear hK K
        refine wpAnyH_take (i := 7) (v := .int .u64 (bits .or .u64 acc (IntKind.u64.wrap (x * 2 ^ at_.toNat)))) rfl (by kernel_rfl) (by kernel_rfl) (by kernel_rfl) (fun _ _ _ h => h) (Or.inl ⟨by rfl, fun X hX => by obtain ⟨z0, z1, z2⟩ := hX; go_simp⟩) hHeld ?_
        refine Round.held_one 8 (by kernel_rfl) rfl (fun K hK => ?_)
        go_simp
        refine hK.out _ _ ⟨?_, ?_, ?_⟩ (fun hHeld => ?_)
        · exact ((H0.far (by simp; omega) _).drew).cell 0
        · exact ((H1.far (by simp; omega) _).drew).cell 0
        · exact (World.cell?_setCell_far V _ _ _ (by have := hv.block (by omega : 0 < ns.length); rw [block_of_add]; simp; omega)).trans kB
        refine wpAnyH_done (by kernel_rfl) ?_ _
        refine Round.OnlyN.normal ?_
        all_goals gi_wp2
        all_goals exact hleaf _ rfl
      · have HX : good ns vs ((k : Int), at_) = false := by rw [HG.out]; simp; intro _; simpa using hfit
        rw [show fitsB x y = false by simpa using hfit] at HF
        gi_wp2
        refine Round.quiet_round rfl (by kernel_rfl) (by kernel_rfl) (by kernel_rfl) ?_
        repeat (first
          | gi_big_quiet_step ((gi_at_call 123; exact CallsIn.quiet_of_same (callsIn_wide.2 (HF.out _))))
          | (refine BigFrame.wpQuietIn_skip (fun _ _ _ _ => trivial) (by rfl) ?_; simp only [Act.put, List.setIfInBounds_toArray, List.set_cons_zero, List.set_cons_succ])
          | (refine BigFrame.wpQuietIn_want (fun _ _ _ _ => trivial) (by rfl) ?_; intro K hK; gi_big_quiet_op; first | go_big_quiet_on | gi_big_quiet_call ((gi_at_call 123; exact CallsIn.quiet_of_same (callsIn_wide.2 (HF.out _))))))
        refine wpQuietIn_nil ?_
        intro _ hw'
        obtain ⟨nq, hw''⟩ := hw'
        subst hw''
        gi_wp2
        refine ⟨(((others_drewN _ _).trans (KeepsOthers.setCell _ _ _)).trans (KeepsOthers.setCell _ _ _)), ⟨rfl, ?_, ?_, not_allGood HX⟩, ?_⟩
        · exact (Blk.set_ (h2.drewN nq) 0 _).far (by simp; omega) _
        · exact Blk.set_ ((h3.drewN nq).far (by simp; omega) _) 0 _
        · exact ((below_drewN hB nq).setCell (by simp; omega) _).setCell (by simp; omega) _
  case done =>
    rintro D xs W hD rfl ⟨⟨h0, h1, h2, h3, h4, h5⟩, hB⟩ hDef
    have hp := packV_good h5
    obtain ⟨z, ez⟩ : ∃ z, accOf vs (upto ns (len ns) (Nat.le_refl _)) = z := ⟨_, rfl⟩
    rw [ez] at h4 hp
    have hne : w.heap.size ≤ b2 ∧ w.heap.size ≤ b3 ∧ b2 < b3 := by omega
    obtain ⟨hw2, hw3, hlt⟩ := hne
    have c4 : W.cell? ⟨b4, 0, none⟩ = some (.int .u64 z) := h4.cell 0
    have c2 : W.cell? ⟨b2, 0, none⟩ = some (.int .u64 0) := h2.cell 0
    have c3 : W.cell? ⟨b3, 0, none⟩ = some (.int .i64 0) := h3.cell 0
    have f2 := h2.frozen 0
    have f3 := h3.frozen 0
    gi_wp2
    obtain ⟨U, eU⟩ : ∃ U, (W.setCell ⟨b2, 0, none⟩ (.int .u64 z)).setCell ⟨b3, 0, none⟩ (.int .i64 0) = U := ⟨_, rfl⟩
    have u2 : Blk U b2 36 #[.int .u64 z] := by rw [← eU]; exact (Blk.set_ h2 0 _).far (by simp; omega) _
    have u3 : Blk U b3 26 #[.int .i64 0] := by rw [← eU]; exact Blk.set_ (h3.far (by simp; omega) _) 0 _
    have hO : KeepsOthers W U := by rw [← eU]; exact (KeepsOthers.setCell _ _ _).trans (KeepsOthers.setCell _ _ _)
    have hBU : Below w.heap.size w U := by rw [← eU]; exact (hB.setCell hw2 _).setCell hw3 _
    rw [eU]
    have hK := hO.same D _ hDef rfl
    refine ⟨by simp, .inl ⟨_, _, rfl, run_takeDeferred hK, ?_⟩⟩
    have g2 := (blk_own u2 (grownBy_putObj' _ D (.deferred none)) (fun r e => by cases e; exact ⟨_, hK, rfl⟩)).cell 0
    have g3 := (blk_own u3 (grownBy_putObj' _ D (.deferred none)) (fun r e => by cases e; exact ⟨_, hK, rfl⟩)).cell 0
    refine ⟨.tuple #[.int .u64 z, .int .i64 0], ?_, by rw [hp], Chg.of_below ((hBU.grown (grownBy_putObj' U D (.deferred none)) hBU.size (fun k e => by cases e; omega)))⟩
    simp [results, go_sem, g2, g3]
  case stop =>
    rintro D cc pre U hD ⟨k, hk, rfl⟩ ⟨⟨rfl, u2, u3, hX4⟩, hBU⟩ hK
    have hp := packV_bad hX4
    gi_wp2
    refine ⟨by simp, .inl ⟨_, _, rfl, run_takeDeferred hK, ?_⟩⟩
    have g2 := (blk_own u2 (grownBy_putObj' _ D (.deferred none)) (fun r e => by cases e; exact ⟨_, hK, rfl⟩)).cell 0
    have g3 := (blk_own u3 (grownBy_putObj' _ D (.deferred none)) (fun r e => by cases e; exact ⟨_, hK, rfl⟩)).cell 0
    refine ⟨.tuple #[.int .u64 0, .int .i64 1], ?_, by rw [hp], Chg.of_below ((hBU.grown (grownBy_putObj' U D (.deferred none)) hBU.size (fun k e => by cases e; omega)))⟩
    simp [results, go_sem, g2, g3]
end Go.Proofs.Ytknbeklplmhheaa.Pack
