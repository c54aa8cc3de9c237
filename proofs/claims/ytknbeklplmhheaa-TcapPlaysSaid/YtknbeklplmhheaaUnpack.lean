/- What 'all' and Unpack of package field do, each walked once over the iterator 'places'. -/
import Derived.Test.YtknbeklplmhheaaParts
import Derived.Test.YtknbeklplmhheaaRound2
import Derived.RangeFuncBox
import Derived.Deep.AppendLies
namespace Go.Proofs.Ytknbeklplmhheaa.Unpack
open Go Go.RowKit Go.Shelf Go.Proofs.Ytknbeklplmhheaa Go.Proofs.Ytknbeklplmhheaa.Heap Go.Proofs.Ytknbeklplmhheaa.Bits Go.Proofs.Ytknbeklplmhheaa.Field Go.Proofs.Ytknbeklplmhheaa.Places Go.Proofs.Ytknbeklplmhheaa.Pack Go.Proofs.Ytknbeklplmhheaa.Parts
attribute [local go_sem] Oper.semAt_some

/-- Where the last of the parts that came ends. -/
def endOf (ns : List Int) (pre : List (Pl ns)) : Int := pre.foldl (fun _ p => wrap64 (p.1.2 + ns.getD p.1.1.toNat 0)) 0
theorem endOf_snoc (ns : List Int) (pre : List (Pl ns)) (x : Pl ns) : endOf ns (pre ++ [x]) = wrap64 (x.1.2 + ns.getD x.1.1.toNat 0) := by simp [endOf]
theorem endOf_upto {ns : List Int} : ∀ k (h : k ≤ len ns), k ≤ ns.length → AllCan ns k → endOf ns (upto ns k h) = sumTo ns k
  | 0, _, _, _ => rfl
  | k + 1, h, hk, hc => by
    have hpl : placeAt ns k = ((k : Int), sumTo ns k) := if_pos (hc k (by omega))
    have hb := sumTo_bd hk hc
    rw [upto, endOf_snoc]
    change wrap64 ((placeAt ns k).2 + ns.getD (placeAt ns k).1.toNat 0) = _
    rw [hpl]
    simp only [Int.toNat_natCast]
    rw [← sumTo_succ hk]
    exact w64_small (by omega) (by omega)
theorem endOf_all {ns : List Int} (hc : AllCan ns ns.length) : endOf ns (upto ns (len ns) (Nat.le_refl _)) = sumTo ns ns.length := by
  have hl := len_of_all hc
  rw [endOf_upto (len ns) (Nat.le_refl _) (by omega) (by rw [hl]; exact hc), hl]

/-- Between two rounds of 'all'. -/
def AllI (n c : Nat) (A : Option Addr) (ns : List Int) (w : World) (b0 b1 : Nat) (pre : List (Pl ns)) (W : World) : Prop :=
  (Blk W b0 49 #[.slice A n c] ∧ Blk W b1 3 #[.int .i64 (endOf ns pre)]) ∧ Below w.heap.size w W

set_option maxRecDepth 100000 in
set_option maxHeartbeats 2000000 in
theorem all_ok (A : Option Addr) (c : Nat) (ns : List Int) (w : World) (hn : Nums w .i64 A ns.length ns) :
    Calls Try.prog 127 #[.slice A ns.length c] w fun e w' => e = .returned (.int .i64 (endOf ns (upto ns (len ns) (Nat.le_refl _)))) ∧ Chg [] w w' := by
  have bn := hn.2.1
  refine (callsIn_wide (n := 10)).1 ?_
  refine callsIn_of_wp_marks Try.func127 rfl trivial ?_ rfl
  simp only [Try.ntmps127, List.size_toArray, List.length_cons, List.length_nil, Nat.reduceAdd, Nat.reduceSub, Array.replicate_succ, Array.replicate_zero, List.push_toArray, List.append_toArray, List.nil_append, List.cons_append]
  gi_wp2_with (refine ⟨trivial, ?_⟩; gi_at_call 122; refine (places_in _ _ _ _).mono ?_; rintro e w' ⟨rfl, rfl⟩)
  obtain ⟨b0, e0⟩ : ∃ b, w.heap.size = b := ⟨_, rfl⟩
  rw [e0]
  obtain ⟨b1, e1⟩ : ∃ b, b0 + 1 = b := ⟨_, rfl⟩
  rw [e1]
  obtain ⟨b2, e2⟩ : ∃ b, b1 + 1 = b := ⟨_, rfl⟩
  rw [e2]
  obtain ⟨W0, hW0⟩ : ∃ W0, (((w.alloc (.cells #[.slice A ns.length c] 49)).alloc (.cells #[.int .i64 0] 3)).alloc (.cells #[.slice A ns.length c] 49)) = W0 := ⟨_, rfl⟩
  rw [hW0]
  have B0 : Blk W0 b0 49 #[.slice A ns.length c] := by rw [← hW0]; exact ((Blk.new' _ _ _ e0).alloc _).alloc _
  have B1 : Blk W0 b1 3 #[.int .i64 0] := by rw [← hW0]; exact (Blk.new' _ _ _ (by simp; omega)).alloc _
  have B2 : Blk W0 b2 49 #[.slice A ns.length c] := by rw [← hW0]; exact Blk.new' _ _ _ (by simp; omega)
  have K0 : Chg [] w W0 := by rw [← hW0]; exact (((Chg.refl [] w).alloc _).alloc _).alloc _
  have hs0 : W0.heap.size = b2 + 1 := by rw [← hW0]; simp; omega
  have hN0 := hn.chg K0 (by simp)
  have hAb : ∀ ad, A = some ad → 0 < ns.length → ad.block < w.heap.size := fun ad e h => by subst e; exact hn.block h
  refine wpIn_rangeFunc_ownF rfl (by decide) (gf := 128) (lb := #[.pointer (some ⟨b2, 0, none⟩)]) rfl trivial (enters_of Try.func128 (by kernel_rfl) rfl)
    (places_stops ns b2 w.heap.size A c W0 B2.lt (by omega) (B2.cell 0) hN0 hAb) belowK_t (belowK_b (by omega)) (Below.refl _ _) (fun _ => rfl)
    (AllI ns.length c A ns w b0 b1) (fun _ _ _ => False) ?hI ?hIx ?h0
    (fun x => { tmps := #[.slice A ns.length c, .pointer (some ⟨b0, 0, none⟩), .int .i64 0, .pointer (some ⟨b1, 0, none⟩), .int .i64 x.1.1, .int .i64 x.1.2, .slice A ns.length c, .func (.func 128) #[] #[.pointer (some ⟨b2, 0, none⟩)], .int .i64 x.1.1, .int .i64 x.1.2, undef, undef, undef, undef, undef, undef, undef], defers := [] }) ?assign ?body ?done ?stop
  case hI =>
    refine OwnFrom.and (Own.from (fun s P R row hs hg hr => ?_) _) (ownFrom_below (Nat.le_refl _) (by omega))
    obtain ⟨h0, h1⟩ := hs
    exact ⟨blk_own h0 hg hr, blk_own h1 hg hr⟩
  case hIx =>
    intro cc
    exact Own.from (fun _ _ _ _ hs _ _ => hs) _
  case h0 => exact ⟨⟨B0, B1⟩, K0.below (by simp) (Nat.le_refl _)⟩
  case assign =>
    intro l x W K hK
    gi_wp2
    exact hK
  case body =>
    rintro l pre ⟨⟨i, at_⟩, hi0, hi1, ha0, ha1⟩ W ⟨⟨h0, h1⟩, hB⟩ hlen
    dsimp only at hi0 hi1 ha0 ha1
    obtain ⟨k, rfl⟩ := Int.eq_ofNat_of_zero_le hi0
    have hk : k < ns.length := by omega
    have c0 : W.cell? ⟨b0, 0, none⟩ = some (.slice A ns.length c) := h0.cell 0
    have c1 : W.cell? ⟨b1, 0, none⟩ = some (.int .i64 (endOf ns pre)) := h1.cell 0
    have f1 := h1.frozen 0
    obtain ⟨aA, rfl, hcA⟩ := hn.2.2 (by omega)
    have cA : W.cell? (aA.add k) = some (.int .i64 (ns.getD k 0)) := (hB.cell (by rw [block_of_add]; exact hn.block (by omega))).trans (hcA k hk)
    have hend : endOf ns (pre ++ [(⟨((k : Int), at_), hi0, hi1, ha0, ha1⟩ : Pl ns)]) = wrap64 (at_ + ns.getD k 0) := endOf_snoc ns pre _
    obtain ⟨y, ey⟩ : ∃ y, ns.getD k 0 = y := ⟨_, rfl⟩
    rw [ey] at cA hend
    obtain ⟨z, ez⟩ : ∃ z, wrap64 (at_ + y) = z := ⟨_, rfl⟩
    have HE : Hid _ := hend
    clear ey hend
    gi_wp2
    have hE := HE.out
    refine ⟨KeepsOthers.setCell _ _ _, (Below.refl _ _).setCell (by simp; omega) _, ⟨h0.far (by simp; omega) _, ?_⟩, hB.setCell (by simp; omega) _⟩
    rw [hE, ez]
    exact Blk.set_ h1 0 _
  case done =>
    rintro D xs W hD rfl ⟨⟨h0, h1⟩, hB⟩ hDef
    obtain ⟨z, ez⟩ : ∃ z, endOf ns (upto ns (len ns) (Nat.le_refl _)) = z := ⟨_, rfl⟩
    rw [ez] at h1
    have c1 : W.cell? ⟨b1, 0, none⟩ = some (.int .i64 z) := h1.cell 0
    gi_wp2
    refine ⟨by simp, .inl ⟨_, _, rfl, run_takeDeferred hDef, ?_⟩⟩
    exact ⟨_, results_tmp rfl _ _ _, by rw [ez]; rfl, Chg.of_below (hB.grown (grownBy_putObj' W D (.deferred none)) hB.size (fun k e => by cases e; omega))⟩
  case stop =>
    rintro D cc pre W hD hp hf hDef
    exact hf.elim

/-- append at a step of a drawn region. -/
theorem step_app {P : Program} {w : World} {ops : Array Oper} {o : Oper} {a : Act} {K : Act → World → Prop} {Q : Exit → Act → World → Prop} {E : Prop} (hgd : o.guard = none) (s x : Operand) (t : TypeId)
    (ho : o.op = .call { callee := .builtin .append, args := #[s, x], argTypes := #[t, t] })
    (e : TypeId) (z : Value) (size bytes : Nat) (ht : P.underlying t = some (.slice e)) (hinfo : (P.info? e).map (fun i => (i.zero, i.size, i.bytes)) = some (some z, size, bytes)) (hzs : z.cells.size = size) (hsz : 0 < size) (hby : 0 < bytes)
    (v : Value) (n : Nat) (xs : List Value) (hs : a.eval s = v) (hown : w.ownsRow 0 e size v n xs)
    (ad : Addr) (m c : Nat) (news : List Value) (hx : a.eval x = .slice (some ad) m c) (hl : news.length = m * size) (hnews : ∀ j u, news[j]? = some u → w.cell? (ad.add j) = some u) (h1 : ∀ u ∈ news, u.oneCell' = true)
    (hm : 0 < m) (hbytes : (n + m) * bytes ≤ 140737488355328)
    (h : ∀ g cap w', w'.ownsRow 0 e size (.slice (some ⟨g, 0, none⟩) (n + m) cap) (n + m) (xs ++ news) → Chg v.ownBlock.toList w w' → (v.ownBlock = some g ∨ w.heap.size ≤ g) → KeepsOthers w w' →
      K (a.put o.dst (.slice (some ⟨g, 0, none⟩) (n + m) cap)) w') : if Region.wanted o (yielded ops a.tmps) = true then Oper.wp P o a w K Q else E := by
  obtain ⟨i0, hi, hzz⟩ := Option.map_eq_some_iff.1 hinfo
  simp only [Prod.mk.injEq] at hzz
  obtain ⟨hz0, hz1, hz2⟩ := hzz
  have hlen : n + m ≤ 140737488355328 := Nat.le_trans (Nat.le_mul_of_pos_right _ hby) hbytes
  refine step_append_lies w hgd s x t ho 0 e i0 z size bytes ht hi hz0 hz1 hz2 hzs hsz v n xs hs hown ad m c news hx hl hnews h1 hm (by simp only [maxLen]; omega) hbytes (Nat.zero_le _) w.heap.size rfl ?_
  intro g cap w1 hown1 hgrow hat _
  refine h g cap w1 hown1 (Chg.of_grown hgrow (fun k hk => .inl (by rw [hk]; simp))) ?_ (KeepsOthers.of_grownBy hgrow fun j o hj ho => by
    rcases hown.2 with ⟨rfl, _⟩ | ⟨g', cap', cur', rfl, _, hgb, _⟩
    · simp [Value.ownBlock] at hj
    · have e : g' = j := by simpa [Value.ownBlock] using hj
      subst e
      rw [hgb] at ho
      cases ho
      rfl)
  rcases hat with h1 | h1
  · exact .inl h1
  · exact .inr (by omega)

theorem own_grown {W W' : World} {row : Option Nat} {e size n : Nat} {v : Value} {xs : List Value} (h : W.ownsRow 0 e size v n xs) (hg : W.grownBy W' row) (hr : ∀ r, row = some r → ∃ o : Obj, W.heap[r]? = some o ∧ o.isCells = false) : W'.ownsRow 0 e size v n xs := by
  refine h.kept hg ?_
  rcases h.2 with ⟨rfl, _⟩ | ⟨g, cap, cur, rfl, _, hgb, _⟩
  · exact .inl rfl
  · refine .inr fun e' => ?_
    obtain ⟨o, ho, hc⟩ := hr g (by simpa [Value.ownBlock] using e'.symm)
    rw [hgb] at ho; cases ho; cases hc

theorem info_u64 : (Try.prog.info? 36).map (fun i => (i.zero, i.size, i.bytes)) = some (some (.int .u64 0), 1, 8) := by kernel_rfl
theorem not_own {v : Value} {b g : Nat} (hv : ∀ g, v.ownBlock = some g → b < g) (h : g ≤ b) : g ∉ v.ownBlock.toList := fun hm => by
  have := hv g (by simpa using hm)
  omega
/-- A part, as the code reckons it. -/
def gotAt (ns : List Int) (u : Int) (p : Int × Int) : Int := bits .and .u64 (u / 2 ^ p.2.toNat) (maskI (ns.getD p.1.toNat 0))
def gotOf (ns : List Int) (u : Int) (pre : List (Pl ns)) : List Int := pre.map fun p => gotAt ns u p.1
theorem gotOf_snoc (ns : List Int) (u : Int) (pre : List (Pl ns)) (x : Pl ns) : gotOf ns u (pre ++ [x]) = gotOf ns u pre ++ [gotAt ns u x.1] := by simp [gotOf]
def AllPl {ns : List Int} (pre : List (Pl ns)) : Prop := ∀ p ∈ pre, 0 ≤ p.1.2
theorem got_at {ns : List Int} {u : Int} {k : Nat} (h0 : 0 ≤ u) (h1 : u < 18446744073709551616) (hc : canB (sumTo ns k) (ns.getD k 0) = true) : gotAt ns u (placeAt ns k) = Parts.partAt ns u k := by
  have hb := can_bd hc
  have hpl : placeAt ns k = ((k : Int), sumTo ns k) := if_pos hc
  obtain ⟨m, rfl⟩ := Int.eq_ofNat_of_zero_le h0
  rw [hpl]
  unfold gotAt Parts.partAt maskI getN
  simp only [Int.toNat_natCast]
  have e : (m : Int) / 2 ^ (sumTo ns k).toNat = ((m / 2 ^ st ns k : Nat) : Int) := by rw [Int.natCast_ediv, Int.natCast_pow]; rfl
  have hlt : m / 2 ^ st ns k < 18446744073709551616 := Nat.lt_of_le_of_lt (Nat.div_le_self _ _) (by omega)
  obtain ⟨q, eq⟩ : ∃ q, m / 2 ^ st ns k = q := ⟨_, rfl⟩
  rw [eq] at e hlt
  rw [e, eq, and_msk (by omega) (by omega)]
  unfold wd
  rw [Nat.min_eq_left (by omega), Int.natCast_emod, Int.natCast_pow]
  rfl
theorem got_upto {ns : List Int} {u : Int} (h0 : 0 ≤ u) (h1 : u < 18446744073709551616) : ∀ k (h : k ≤ len ns), AllCan ns k → gotOf ns u (upto ns k h) = partsL ns u k
  | 0, _, _ => rfl
  | k + 1, h, hc => by
    rw [upto, gotOf_snoc, partsL_succ, got_upto h0 h1 k (by omega) (fun j hj => hc j (by omega))]
    congr 2
    exact got_at h0 h1 (hc k (by omega))
theorem all_of_pl {ns : List Int} (h : AllPl (upto ns (len ns) (Nat.le_refl _))) : AllCan ns ns.length := by
  rcases len_cases ns with ⟨h, _⟩ | ⟨j, hj, _, hb, hl'⟩
  · exact h
  · obtain ⟨p, hp, he⟩ := mem_upto (k := j) (Nat.le_refl (len ns)) (by omega)
    have := h p hp
    rw [he] at this
    unfold placeAt at this
    rw [if_neg (by rw [hb]; decide)] at this
    simp at this
theorem pl_of_all {ns : List Int} : ∀ k (h : k ≤ len ns), k ≤ ns.length → AllCan ns k → AllPl (upto ns k h)
  | 0, _, _, _ => fun _ hp => absurd hp List.not_mem_nil
  | k + 1, h, hk, hc => fun p hp => by
    rcases List.mem_append.1 hp with h1 | h1
    · exact pl_of_all k (by omega) (by omega) (fun j hj => hc j (by omega)) p h1
    · rw [List.mem_singleton.1 h1]
      change 0 ≤ (placeAt ns k).2
      unfold placeAt
      rw [if_pos (hc k (by omega))]
      exact (can_bd (hc k (by omega))).1
theorem len_le (ns : List Int) : len ns ≤ 65 := by
  rcases len_cases ns with ⟨h, hl⟩ | ⟨j, hj, ha, _, hl⟩
  · have := sumTo_bd (Nat.le_refl _) h; omega
  · have := sumTo_bd (Nat.le_of_lt hj) ha; omega
/-- What Unpack hands back. -/
def unpL (ns : List Int) (u : Int) : List Int := if UnpOk ns u then partsL ns u ns.length else []
def unpE (ns : List Int) (u : Int) : Int := if UnpOk ns u then 0 else 1

/-- Between two rounds of Unpack. -/
def UnpI (n c : Nat) (A : Option Addr) (ns : List Int) (u : Int) (w : World) (b0 b1 b2 b3 b4 : Nat) (pre : List (Pl ns)) (W : World) : Prop :=
  (Blk W b0 49 #[.slice A n c] ∧ Blk W b1 36 #[.int .u64 u] ∧ Blk W b2 47 #[.slice none 0 0] ∧ Blk W b3 26 #[.int .i64 0] ∧
    (∃ v, Blk W b4 47 #[v] ∧ W.ownsRow 0 36 1 v pre.length (nums .u64 (gotOf ns u pre)) ∧ ∀ g, v.ownBlock = some g → b4 < g) ∧ AllPl pre) ∧ Below w.heap.size w W
/-- Behind a round that has left. -/
def UnpX (ns : List Int) (w : World) (b2 b3 : Nat) (c : Code) (pre : List (Pl ns)) (W : World) : Prop :=
  (c = .ret ∧ Blk W b2 47 #[.slice none 0 0] ∧ Blk W b3 26 #[.int .i64 1] ∧ ¬ AllPl pre) ∧ Below w.heap.size w W

set_option maxRecDepth 100000 in
set_option maxHeartbeats 2000000 in
theorem unpack_ok (A : Option Addr) (n c : Nat) (ns : List Int) (u : Int) (w : World) (hn : Nums w .i64 A n ns) (h0 : 0 ≤ u) (h1 : u < 18446744073709551616) :
    Calls Try.prog 119 #[.slice A n c, .int .u64 u] w fun e w' => ∃ v, e = .returned (.tuple #[v, .int .i64 (unpE ns u)]) ∧ w'.ownsRow 0 36 1 v (unpL ns u).length (nums .u64 (unpL ns u)) ∧ (∀ g, v.ownBlock = some g → w.heap.size ≤ g) ∧ Chg [] w w' := by
  have ln := hn.1
  have bn := hn.2.1
  subst ln
  refine (callsIn_wide (n := 10)).1 ?_
  refine callsIn_of_wp_marks Try.func119 rfl trivial ?_ rfl
  simp only [Try.ntmps119, List.size_toArray, List.length_cons, List.length_nil, Nat.reduceAdd, Nat.reduceSub, Array.replicate_succ, Array.replicate_zero, List.push_toArray, List.append_toArray, List.nil_append, List.cons_append]
  gi_wp2_with (refine ⟨trivial, ?_⟩; gi_at_call 122; refine (places_in _ _ _ _).mono ?_; rintro e w' ⟨rfl, rfl⟩)
  obtain ⟨b0, e0⟩ : ∃ b, w.heap.size = b := ⟨_, rfl⟩
  rw [e0]
  obtain ⟨b1, e1⟩ : ∃ b, b0 + 1 = b := ⟨_, rfl⟩
  rw [e1]
  obtain ⟨b2, e2⟩ : ∃ b, b1 + 1 = b := ⟨_, rfl⟩
  rw [e2]
  obtain ⟨b3, e3⟩ : ∃ b, b2 + 1 = b := ⟨_, rfl⟩
  rw [e3]
  obtain ⟨b4, e4⟩ : ∃ b, b3 + 1 = b := ⟨_, rfl⟩
  rw [e4]
  obtain ⟨b5, e5⟩ : ∃ b, b4 + 1 = b := ⟨_, rfl⟩
  rw [e5]
  obtain ⟨W0, hW0⟩ : ∃ W0, ((((((w.alloc (.cells #[.slice A ns.length c] 49)).alloc (.cells #[.int .u64 u] 36)).alloc (.cells #[.slice none 0 0] 47)).alloc (.cells #[.int .i64 0] 26)).alloc (.cells #[.slice none 0 0] 47)).alloc (.cells #[.slice A ns.length c] 49)) = W0 := ⟨_, rfl⟩
  rw [hW0]
  have B0 : Blk W0 b0 49 #[.slice A ns.length c] := by rw [← hW0]; exact (((((Blk.new' _ _ _ e0).alloc _).alloc _).alloc _).alloc _).alloc _
  have B1 : Blk W0 b1 36 #[.int .u64 u] := by rw [← hW0]; exact ((((Blk.new' _ _ _ (by simp; omega)).alloc _).alloc _).alloc _).alloc _
  have B2 : Blk W0 b2 47 #[.slice none 0 0] := by rw [← hW0]; exact (((Blk.new' _ _ _ (by simp; omega)).alloc _).alloc _).alloc _
  have B3 : Blk W0 b3 26 #[.int .i64 0] := by rw [← hW0]; exact ((Blk.new' _ _ _ (by simp; omega)).alloc _).alloc _
  have B4 : Blk W0 b4 47 #[.slice none 0 0] := by rw [← hW0]; exact (Blk.new' _ _ _ (by simp; omega)).alloc _
  have B5 : Blk W0 b5 49 #[.slice A ns.length c] := by rw [← hW0]; exact Blk.new' _ _ _ (by simp; omega)
  have K0 : Chg [] w W0 := by rw [← hW0]; exact ((((((Chg.refl [] w).alloc _).alloc _).alloc _).alloc _).alloc _).alloc _
  have hs0 : W0.heap.size = b5 + 1 := by rw [← hW0]; simp; omega
  have hN0 := hn.chg K0 (by simp)
  have hAb : ∀ ad, A = some ad → 0 < ns.length → ad.block < w.heap.size := fun ad e h => by subst e; exact hn.block h
  refine wpIn_rangeFunc_ownF rfl (by decide) (gf := 128) (lb := #[.pointer (some ⟨b5, 0, none⟩)]) rfl trivial (enters_of Try.func128 (by kernel_rfl) rfl)
    (places_stops ns b5 w.heap.size A c W0 B5.lt (by omega) (B5.cell 0) hN0 hAb) belowK_t (belowK_b (by omega)) (Below.refl _ _) (fun _ => rfl)
    (UnpI ns.length c A ns u w b0 b1 b2 b3 b4) (UnpX ns w b2 b3) ?hI ?hIx ?h0
    (fun x => { tmps := #[.slice A ns.length c, .int .u64 u, .pointer (some ⟨b0, 0, none⟩), .pointer (some ⟨b1, 0, none⟩), .pointer (some ⟨b2, 0, none⟩), .pointer (some ⟨b3, 0, none⟩), .pointer (some ⟨b4, 0, none⟩), .int .i64 x.1.1, .int .i64 x.1.2, .slice A ns.length c, .func (.func 128) #[] #[.pointer (some ⟨b5, 0, none⟩)], .int .i64 x.1.1, .int .i64 x.1.2, undef, undef, undef, undef, undef, undef, undef, undef, undef, undef, undef, undef, undef, undef, undef, undef, undef, undef, undef, undef], defers := [] }) ?assign ?body ?done ?stop
  case hI =>
    refine OwnFrom.and (Own.from (fun s P R row hs hg hr => ?_) _) (ownFrom_below (Nat.le_refl _) (by omega))
    obtain ⟨h0, h1, h2, h3, ⟨v, h4, ho, hv⟩, h5⟩ := hs
    exact ⟨blk_own h0 hg hr, blk_own h1 hg hr, blk_own h2 hg hr, blk_own h3 hg hr, ⟨v, blk_own h4 hg hr, own_grown ho hg hr, hv⟩, h5⟩
  case hIx =>
    intro cc
    refine OwnFrom.and (Own.from (fun s P R row hs hg hr => ?_) _) (ownFrom_below (Nat.le_refl _) (by omega))
    obtain ⟨h0, h1, h2, h3⟩ := hs
    exact ⟨h0, blk_own h1 hg hr, blk_own h2 hg hr, h3⟩
  case h0 => exact ⟨⟨B0, B1, B2, B3, ⟨_, B4, World.ownsRow_nil _ _ _ _, fun g hg => by simp [Value.ownBlock] at hg⟩, fun _ hp => absurd hp List.not_mem_nil⟩, K0.below (by simp) (Nat.le_refl _)⟩
  case assign =>
    intro l x W K hK
    gi_wp2
    exact hK
  case body =>
    rintro l pre ⟨⟨i, at_⟩, hi0, hi1, ha0, ha1⟩ W ⟨⟨h0', h1', h2, h3, ⟨v, h4, ho, hv⟩, h5⟩, hB⟩ hlen
    dsimp only at hi0 hi1 ha0 ha1
    obtain ⟨k, rfl⟩ := Int.eq_ofNat_of_zero_le hi0
    have hk : k < ns.length := by omega
    have c2 : W.cell? ⟨b2, 0, none⟩ = some (.slice none 0 0) := h2.cell 0
    have c3 : W.cell? ⟨b3, 0, none⟩ = some (.int .i64 0) := h3.cell 0
    have f2 := h2.frozen 0
    have f3 := h3.frozen 0
    have hbb : w.heap.size ≤ b2 ∧ w.heap.size ≤ b3 ∧ w.heap.size ≤ b4 := by omega
    by_cases hat : at_ < 0
    · have hX : ¬ AllPl (pre ++ [(⟨((k : Int), at_), hi0, hi1, ha0, ha1⟩ : Pl ns)]) := fun h => by
        have := h _ (List.mem_append_right _ (List.mem_singleton.2 rfl))
        dsimp only at this
        omega
      gi_wp2
      refine ⟨((KeepsOthers.setCell _ _ _).trans (KeepsOthers.setCell _ _ _)), ⟨rfl, ?_, ?_, hX⟩, ?_⟩
      · exact (Blk.set_ h2 0 _).far (by simp; omega) _
      · exact Blk.set_ (h3.far (by simp; omega) _) 0 _
      · exact (hB.setCell (by simp; omega) _).setCell (by simp; omega) _
    · have hd : decide (at_ < 0) = false := by simpa using hat
      have h0at : 0 ≤ at_ := by omega
      have hX : AllPl (pre ++ [(⟨((k : Int), at_), hi0, hi1, ha0, ha1⟩ : Pl ns)]) := fun p hp => by
        rcases List.mem_append.1 hp with hp1 | hp1
        · exact h5 p hp1
        · rw [List.mem_singleton.1 hp1]; exact h0at
      have hG : gotOf ns u (pre ++ [(⟨((k : Int), at_), hi0, hi1, ha0, ha1⟩ : Pl ns)]) = gotOf ns u pre ++ [bits .and .u64 (u / 2 ^ at_.toNat) (maskI (ns.getD k 0))] := gotOf_snoc ns u pre _
      have c0 : W.cell? ⟨b0, 0, none⟩ = some (.slice A ns.length c) := h0'.cell 0
      have c1 : W.cell? ⟨b1, 0, none⟩ = some (.int .u64 u) := h1'.cell 0
      have c4 : W.cell? ⟨b4, 0, none⟩ = some v := h4.cell 0
      have f4 := h4.frozen 0
      obtain ⟨aA, rfl, hcA⟩ := hn.2.2 (by omega)
      have cA : W.cell? (aA.add k) = some (.int .i64 (ns.getD k 0)) := (hB.cell (by rw [block_of_add]; exact hn.block (by omega))).trans (hcA k hk)
      have hab : aA.block < w.heap.size := hn.block (by omega)
      obtain ⟨y, ey⟩ : ∃ y, ns.getD k 0 = y := ⟨_, rfl⟩
      rw [ey] at cA hG
      have hll : pre.length < 140737488355328 / 8 := by
        have h1 : len ns ≤ 65 := len_le ns
        omega
      have HG : Hid _ := hG
      have HM : Hid (∀ W, Calls Try.prog 126 #[.int .i64 y] W fun e w' => e = .returned (.int .u64 (maskI y)) ∧ w' = W) := fun W => mask_q y W
      clear ey hG hcA
      obtain ⟨M, eM⟩ : ∃ M, maskI y = M := ⟨_, rfl⟩
      rw [eM] at HG HM
      have HO : Hid _ := ho
      have s4 := h4.lt
      clear ho
      gi_wp2
      have hcAo : ∀ o, ((W.alloc o).drew).cell? (aA.add k) = some (.int .i64 y) := fun o => by
        show (W.alloc o).cell? _ = _
        rw [World.cell?_alloc_lt _ _ _ (by rw [block_of_add]; omega)]; exact cA
      have hc4o : ∀ o, ((W.alloc o).drew).cell? ⟨b4, 0, none⟩ = some v := fun o => (h4.alloc o).cell 0
      obtain ⟨g, eg⟩ : ∃ g, bits .and .u64 (u / 2 ^ at_.toNat) M = g := ⟨_, rfl⟩
      rw [eg] at HG
      have hleaf : ∀ q cap1 w1, w1.ownsRow 0 36 1 (.slice (some ⟨q, 0, none⟩) (pre.length + 1) cap1) (pre.length + 1) (nums .u64 (gotOf ns u pre) ++ [.int .u64 g]) → Chg v.ownBlock.toList (W.alloc (.cells #[.int .u64 g] 36)).drew w1 → (v.ownBlock = some q ∨ (W.alloc (.cells #[.int .u64 g] 36)).drew.heap.size ≤ q) → KeepsOthers (W.alloc (.cells #[.int .u64 g] 36)).drew w1 →
          ownPostK (Below w.heap.size) (UnpI ns.length c (some aA) ns u w b0 b1 b2 b3 b4) (UnpX ns w b2 b3) (pre ++ [(⟨((k : Int), at_), hi0, hi1, ha0, ha1⟩ : Pl ns)]) W .normal { tmps := #[], defers := [] } (w1.setCell ⟨b4, 0, none⟩ (.slice (some ⟨q, 0, none⟩) (pre.length + 1) cap1)) := by
        intro q cap1 w1 o1 k1 hq1 ko1
        have hbW : Below w.heap.size W (w1.setCell ⟨b4, 0, none⟩ (.slice (some ⟨q, 0, none⟩) (pre.length + 1) cap1)) :=
          ((((Below.refl _ W).alloc hB.size _).drew).trans (k1.below (fun s hs => by have := hv s (by simpa using hs); omega) (by simp only [World.drew, World.size_alloc]; have := hB.size; omega))).setCell (by simp; omega) _
        have hq4 : b4 < q := by
          rcases hq1 with h | h
          · exact hv q h
          · simp only [World.drew, World.size_alloc] at h; omega
        refine ⟨(((KeepsOthers.alloc _ _).trans (KeepsOthers.drew _)).trans ko1).trans (KeepsOthers.setCell _ _ _), hbW, ⟨?_, ?_, ?_, ?_, ⟨_, Blk.set_ ((h4.alloc _).drew.chg k1 (not_own hv (by omega))) 0 _, ?_, fun g hg => ?_⟩, hX⟩, hB.trans hbW⟩
        · exact ((h0'.alloc _).drew.chg k1 (not_own hv (by omega))).far (by simp; omega) _
        · exact ((h1'.alloc _).drew.chg k1 (not_own hv (by omega))).far (by simp; omega) _
        · exact ((h2.alloc _).drew.chg k1 (not_own hv (by omega))).far (by simp; omega) _
        · exact ((h3.alloc _).drew.chg k1 (not_own hv (by omega))).far (by simp; omega) _
        · rw [HG.out, show nums .u64 (gotOf ns u pre ++ [g]) = nums .u64 (gotOf ns u pre) ++ [.int .u64 g] by simp [nums], List.length_append]
          exact own_chg o1 ((Chg.refl [b4] w1).setCell (p := ⟨b4, 0, none⟩) (by simp) _) (fun g' hg' => by simp [Value.ownBlock] at hg'; simp; omega)
        · have : q = g := by simpa [Value.ownBlock] using hg
          omega
      have hc0o : ∀ o, ((W.alloc o).drew).cell? ⟨b0, 0, none⟩ = some (.slice (some aA) ns.length c) := fun o => (h0'.alloc o).cell 0
      have hc1o : ∀ o, ((W.alloc o).drew).cell? ⟨b1, 0, none⟩ = some (.int .u64 u) := fun o => (h1'.alloc o).cell 0
      have hafter : ∀ w1, Chg v.ownBlock.toList (W.alloc (.cells #[.int .u64 g] 36)).drew w1 → w1.cell? ⟨b0, 0, none⟩ = some (.slice (some aA) ns.length c) ∧ w1.cell? ⟨b1, 0, none⟩ = some (.int .u64 u) ∧ w1.cell? ⟨b4, 0, none⟩ = some v ∧ w1.frozen? ⟨b4, 0, none⟩ = false ∧ w1.cell? (aA.add k) = some (.int .i64 y) ∧
          (∀ x, (w1.setCell ⟨b4, 0, none⟩ x).cell? ⟨b0, 0, none⟩ = some (.slice (some aA) ns.length c)) ∧ (∀ x, (w1.setCell ⟨b4, 0, none⟩ x).cell? ⟨b1, 0, none⟩ = some (.int .u64 u)) ∧ (∀ x, (w1.setCell ⟨b4, 0, none⟩ x).cell? (aA.add k) = some (.int .i64 y)) := by
        intro w1 k1
        have d0 : Blk w1 b0 49 #[.slice (some aA) ns.length c] := Blk.chg ((h0'.alloc _).drew) k1 (not_own hv (by omega))
        have d1 : Blk w1 b1 36 #[.int .u64 u] := Blk.chg ((h1'.alloc _).drew) k1 (not_own hv (by omega))
        have d4 : Blk w1 b4 47 #[v] := Blk.chg ((h4.alloc _).drew) k1 (not_own hv (by omega))
        have dA : w1.cell? (aA.add k) = some (.int .i64 y) := arg_stays (B := b4) (by omega) (hcAo _) k1 (fun s hs => Nat.le_of_lt (hv s (by simpa using hs)))
        exact ⟨d0.cell 0, d1.cell 0, d4.cell 0, d4.frozen 0, dA, fun x => (d0.far (by simp; omega) x).cell 0, fun x => (d1.far (by simp; omega) x).cell 0, fun x => (World.cell?_setCell_far _ _ _ _ (by rw [block_of_add]; simp; omega)).trans dA⟩
      refine Round.held_round (S := fun V => V.cell? ⟨b0, 0, none⟩ = some (.slice (some aA) ns.length c) ∧ V.cell? ⟨b1, 0, none⟩ = some (.int .u64 u) ∧ V.cell? (aA.add k) = some (.int .i64 y)) (by kernel_rfl) (by kernel_rfl) ⟨c0, c1, cA⟩ (fun hHeld => ?_)
      refine wpAnyH_take (i := 1) (v := .int .u64 u) rfl (by kernel_rfl) (by kernel_rfl) (by kernel_rfl) (fun _ _ _ h => h) (Or.inl ⟨by rfl, fun X hX => by obtain ⟨z0, z1, z2⟩ := hX; go_simp⟩) hHeld ?_
      refine wpAnyH_take (i := 2) (v := .int .i64 at_) rfl (by kernel_rfl) (by kernel_rfl) (by kernel_rfl) (fun _ _ _ h => h) (Or.inl ⟨by rfl, fun X hX => by obtain ⟨z0, z1, z2⟩ := hX; go_simp⟩) hHeld ?_
      refine wpAnyH_take (i := 3) (v := .int .u64 (u / 2 ^ at_.toNat)) rfl (by kernel_rfl) (by kernel_rfl) (by kernel_rfl) (fun _ _ _ h => h) (Or.inl ⟨by rfl, fun X hX => by obtain ⟨z0, z1, z2⟩ := hX; go_simp⟩) hHeld ?_
      refine wpAnyH_take (i := 4) (v := .slice (some aA) ns.length c) rfl (by kernel_rfl) (by kernel_rfl) (by kernel_rfl) (fun _ _ _ h => h) (Or.inl ⟨by rfl, fun X hX => by obtain ⟨z0, z1, z2⟩ := hX; go_simp⟩) hHeld ?_
      refine wpAnyH_take (i := 5) (v := .int .i64 k) rfl (by kernel_rfl) (by kernel_rfl) (by kernel_rfl) (fun _ _ _ h => h) (Or.inl ⟨by rfl, fun X hX => by obtain ⟨z0, z1, z2⟩ := hX; go_simp⟩) hHeld ?_
      refine wpAnyH_take (i := 6) (v := .pointer (some (aA.add k))) rfl (by kernel_rfl) (by kernel_rfl) (by kernel_rfl) (fun _ _ _ h => h) (Or.inl ⟨by rfl, fun X hX => by obtain ⟨z0, z1, z2⟩ := hX; go_simp⟩) hHeld ?_
      refine wpAnyH_take (i := 7) (v := .int .i64 y) rfl (by kernel_rfl) (by kernel_rfl) (by kernel_rfl) (fun _ _ _ h => h) (Or.inl ⟨by rfl, fun X hX => by obtain ⟨z0, z1, z2⟩ := hX; go_simp⟩) hHeld ?_
      refine Round.held_two 0 8 (by kernel_rfl) rfl rfl (fun K hK => ?_) (fun K hK => ?_)
      · go_simp
        refine hK.out _ _ hHeld (fun hHeld => ?_)
        clear hK K
        refine Round.held_one 8 (by kernel_rfl) rfl (fun K hK => ?_)
        go_simp
        go_at_call 126
        refine Calls.mono (HM.out _) ?_
        rintro e w1 ⟨rfl, rfl⟩
        refine hK.out _ _ hHeld (fun hHeld => ?_)
        clear hK K
        refine wpAnyH_take (i := 9) (v := .int .u64 (bits .and .u64 (u / 2 ^ at_.toNat) M)) rfl (by kernel_rfl) (by kernel_rfl) (by kernel_rfl) (fun _ _ _ h => h) (Or.inl ⟨by rfl, fun X hX => by obtain ⟨z0, z1, z2⟩ := hX; go_simp⟩) hHeld ?_
        refine Round.held_one 10 (by kernel_rfl) rfl (fun K hK => ?_)
        go_simp
        refine hK.out _ _ ⟨hc0o _, hc1o _, hcAo _⟩ (fun hHeld => ?_)
        clear hK K
        refine Round.held_one 11 (by kernel_rfl) rfl (fun K hK => ?_)
        refine step_app rfl (.tmp 15) (.tmp 25) 47 rfl 36 (.int .u64 0) 1 8 Try.underlying47 info_u64 rfl (by decide) (by decide) v pre.length _ rfl ((own_drewN HO.out 1).alloc _) ⟨W.drew.heap.size, 0, none⟩ 1 1 [_] rfl rfl (cell_one_new W.drew _ _) (by simp [Value.oneCell']) (by decide) (by omega) ?_
        intro q cap1 w1 o1 k1 hq1 ko1
        obtain ⟨D0, D1, D4, df4, dA, E0, E1, EA⟩ := hafter w1 k1
        refine hK.out _ _ ⟨D0, D1, dA⟩ (fun hHeld => ?_)
        clear hK K
        refine Round.held_one 12 (by kernel_rfl) rfl (fun K hK => ?_)
        go_simp
        refine hK.out _ _ ⟨E0 _, E1 _, EA _⟩ (fun hHeld => ?_)
        clear hK K
        refine wpAnyH_done (by kernel_rfl) ?_ _
        refine Round.OnlyN.normal ?_
        gi_wp2
        exact hleaf q cap1 w1 o1 k1 hq1 ko1
      · go_simp
        go_at_call 126
        refine Calls.mono (HM.out _) ?_
        rintro e w1 ⟨rfl, rfl⟩
        refine hK.out _ _ hHeld (fun hHeld => ?_)
        clear hK K
        refine wpAnyH_take (i := 9) (v := .int .u64 (bits .and .u64 (u / 2 ^ at_.toNat) M)) rfl (by kernel_rfl) (by kernel_rfl) (by kernel_rfl) (fun _ _ _ h => h) (Or.inl ⟨by rfl, fun X hX => by obtain ⟨z0, z1, z2⟩ := hX; go_simp⟩) hHeld ?_
        refine Round.held_two 0 10 (by kernel_rfl) rfl rfl (fun K hK => ?_) (fun K hK => ?_)
        · go_simp
          refine hK.out _ _ hHeld (fun hHeld => ?_)
          clear hK K
          refine Round.held_one 10 (by kernel_rfl) rfl (fun K hK => ?_)
          go_simp
          refine hK.out _ _ ⟨hc0o _, hc1o _, hcAo _⟩ (fun hHeld => ?_)
          clear hK K
          refine Round.held_one 11 (by kernel_rfl) rfl (fun K hK => ?_)
          refine step_app rfl (.tmp 15) (.tmp 25) 47 rfl 36 (.int .u64 0) 1 8 Try.underlying47 info_u64 rfl (by decide) (by decide) v pre.length _ rfl ((own_drewN HO.out 1).alloc _) ⟨W.drew.heap.size, 0, none⟩ 1 1 [_] rfl rfl (cell_one_new W.drew _ _) (by simp [Value.oneCell']) (by decide) (by omega) ?_
          intro q cap1 w1 o1 k1 hq1 ko1
          obtain ⟨D0, D1, D4, df4, dA, E0, E1, EA⟩ := hafter w1 k1
          refine hK.out _ _ ⟨D0, D1, dA⟩ (fun hHeld => ?_)
          clear hK K
          refine Round.held_one 12 (by kernel_rfl) rfl (fun K hK => ?_)
          go_simp
          refine hK.out _ _ ⟨E0 _, E1 _, EA _⟩ (fun hHeld => ?_)
          clear hK K
          refine wpAnyH_done (by kernel_rfl) ?_ _
          refine Round.OnlyN.normal ?_
          gi_wp2
          exact hleaf q cap1 w1 o1 k1 hq1 ko1
        · go_simp
          refine hK.out _ _ ⟨hc0o _, hc1o _, hcAo _⟩ (fun hHeld => ?_)
          clear hK K
          refine Round.held_one 0 (by kernel_rfl) rfl (fun K hK => ?_)
          go_simp
          refine hK.out _ _ hHeld (fun hHeld => ?_)
          clear hK K
          refine Round.held_one 11 (by kernel_rfl) rfl (fun K hK => ?_)
          refine step_app rfl (.tmp 15) (.tmp 25) 47 rfl 36 (.int .u64 0) 1 8 Try.underlying47 info_u64 rfl (by decide) (by decide) v pre.length _ rfl ((own_drewN HO.out 1).alloc _) ⟨W.drew.heap.size, 0, none⟩ 1 1 [_] rfl rfl (cell_one_new W.drew _ _) (by simp [Value.oneCell']) (by decide) (by omega) ?_
          intro q cap1 w1 o1 k1 hq1 ko1
          obtain ⟨D0, D1, D4, df4, dA, E0, E1, EA⟩ := hafter w1 k1
          refine hK.out _ _ ⟨D0, D1, dA⟩ (fun hHeld => ?_)
          clear hK K
          refine Round.held_one 12 (by kernel_rfl) rfl (fun K hK => ?_)
          go_simp
          refine hK.out _ _ ⟨E0 _, E1 _, EA _⟩ (fun hHeld => ?_)
          clear hK K
          refine wpAnyH_done (by kernel_rfl) ?_ _
          refine Round.OnlyN.normal ?_
          gi_wp2
          exact hleaf q cap1 w1 o1 k1 hq1 ko1
  case done =>
    rintro D xs W hD rfl ⟨⟨h0', h1', h2, h3, ⟨v, h4, ho, hv⟩, h5⟩, hB⟩ hDef
    have hall := all_of_pl h5
    have hlen := len_of_all hall
    have hgot := got_upto h0 h1 (len ns) (Nat.le_refl _) (by rw [hlen]; exact hall)
    rw [hgot, upto_length, hlen] at ho
    have hc0 : W.drew.cell? ⟨b0, 0, none⟩ = some (.slice A ns.length c) := h0'.cell 0
    have hc1 : W.drew.cell? ⟨b1, 0, none⟩ = some (.int .u64 u) := h1'.cell 0
    have hN : Nums W.drew .i64 A ns.length ns := hn.chg (S := []) (Chg.of_below hB).drew (fun _ _ => by simp)
    have hA0 := all_ok A c ns W.drew hN
    rw [endOf_all hall] at hA0
    obtain ⟨s, es⟩ : ∃ s, sumTo ns ns.length = s := ⟨_, rfl⟩
    rw [es] at hA0
    have HA : Hid _ := hA0
    have HF : Hid (∀ W, Calls Try.prog 123 #[.int .u64 u, .int .i64 s] W fun e w' => e = .returned (.bool (fitsB u s)) ∧ W = w') := fun W => fits_ok u s h0 h1 W
    have HO : Hid _ := ho
    clear hA0 hN ho hc0 hc1
    have c0 : W.cell? ⟨b0, 0, none⟩ = some (.slice A ns.length c) := h0'.cell 0
    have c1 : W.cell? ⟨b1, 0, none⟩ = some (.int .u64 u) := h1'.cell 0
    have hU : UnpOk ns u ↔ fitsB u s = true := by
      unfold UnpOk
      rw [es]
      exact ⟨fun h => h.2, fun h => ⟨hall, h⟩⟩
    obtain ⟨f, ef⟩ : ∃ f, fitsB u s = f := ⟨_, rfl⟩
    rw [ef] at HF hU
    gi_wp2
    refine wpIn_wide.2 ?_
    go_region_held3 (fun V => V.cell? ⟨b0, 0, none⟩ = some (.slice A ns.length c) ∧ V.cell? ⟨b1, 0, none⟩ = some (.int .u64 u)) (first | go_keep | exact ⟨d0, d1⟩)
      (first
        | (go_at_call 127; refine Calls.mono HA.out ?_; rintro e w1 ⟨rfl, k1⟩; have d0 : w1.cell? ⟨b0, 0, none⟩ = some (.slice A ns.length c) := (h0'.drew.chg k1 (by simp)).cell 0; have d1 : w1.cell? ⟨b1, 0, none⟩ = some (.int .u64 u) := (h1'.drew.chg k1 (by simp)).cell 0)
        | (go_at_call 123; refine Calls.mono (HF.out _) ?_; rintro e w2 ⟨rfl, rfl⟩))
    have D2 : Blk w1 b2 47 #[.slice none 0 0] := h2.drew.chg k1 (by simp)
    have D3 : Blk w1 b3 26 #[.int .i64 0] := h3.drew.chg k1 (by simp)
    have D4 : Blk w1 b4 47 #[v] := h4.drew.chg k1 (by simp)
    have O1 : w1.ownsRow 0 36 1 v ns.length (nums .u64 (partsL ns u ns.length)) := own_chg (own_drewN HO.out 1) k1 (fun g _ => by simp)
    have hK1 : w1.heap[D]? = some (.deferred (some [])) := (k1.block D (Array.getElem?_eq_some_iff.1 hDef).1 (by simp)).trans hDef
    have hB1 : Below w.heap.size w w1 := hB.drew.trans (k1.below (by simp) hB.size)
    obtain ⟨A', n', c', rfl⟩ : ∃ A' n' c', v = .slice A' n' c' := by
      rcases O1.2 with ⟨rfl, _⟩ | ⟨g, cap, cur, rfl, _⟩ <;> exact ⟨_, _, _, rfl⟩
    have c2 : w1.cell? ⟨b2, 0, none⟩ = some (.slice none 0 0) := D2.cell 0
    have c3 : w1.cell? ⟨b3, 0, none⟩ = some (.int .i64 0) := D3.cell 0
    have c4 : w1.cell? ⟨b4, 0, none⟩ = some (.slice A' n' c') := D4.cell 0
    have f2 := D2.frozen 0
    have f3 := D3.frozen 0
    have hbb : w.heap.size ≤ b2 ∧ w.heap.size ≤ b3 := by omega
    clear d0 d1 c0 c1 HO HA HF hgot h2 h3 h4
    cases f with
    | true =>
      have hE : unpE ns u = 0 := if_pos (hU.2 rfl)
      have hL : unpL ns u = partsL ns u ns.length := if_pos (hU.2 rfl)
      gi_wp2
      obtain ⟨U, eU⟩ : ∃ U, (w1.setCell ⟨b2, 0, none⟩ (.slice A' n' c')).setCell ⟨b3, 0, none⟩ (.int .i64 0) = U := ⟨_, rfl⟩
      have u2 : Blk U b2 47 #[.slice A' n' c'] := by rw [← eU]; exact (Blk.set_ D2 0 _).far (by simp; omega) _
      have u3 : Blk U b3 26 #[.int .i64 0] := by rw [← eU]; exact Blk.set_ (D3.far (by simp; omega) _) 0 _
      have hO : KeepsOthers w1 U := by rw [← eU]; exact (KeepsOthers.setCell _ _ _).trans (KeepsOthers.setCell _ _ _)
      have hBU : Below w.heap.size w U := by rw [← eU]; exact (hB1.setCell (by simp; omega) _).setCell (by simp; omega) _
      have OU : U.ownsRow 0 36 1 (.slice A' n' c') ns.length (nums .u64 (partsL ns u ns.length)) := by
        rw [← eU]
        exact own_chg O1 (((Chg.refl [b2, b3] w1).setCell (p := ⟨b2, 0, none⟩) (by simp) _).setCell (p := ⟨b3, 0, none⟩) (by simp) _) (fun g hg => by have := hv g hg; simp; omega)
      rw [eU]
      have hK := hO.same D _ hK1 rfl
      refine ⟨by simp, .inl ⟨_, _, rfl, run_takeDeferred hK, ?_⟩⟩
      have hr : ∀ r, some D = some r → ∃ o : Obj, U.heap[r]? = some o ∧ o.isCells = false := fun r e => by cases e; exact ⟨_, hK, rfl⟩
      have g2 := (blk_own u2 (grownBy_putObj' _ D (.deferred none)) hr).cell 0
      have g3 := (blk_own u3 (grownBy_putObj' _ D (.deferred none)) hr).cell 0
      refine ⟨.tuple #[.slice A' n' c', .int .i64 0], ?_, .slice A' n' c', by first | rfl | rw [hE], ?_, fun g hg => by have := hv g hg; omega, Chg.of_below ((hBU.grown (grownBy_putObj' U D (.deferred none)) hBU.size (fun k e => by cases e; omega)))⟩
      · simp [results, go_sem, g2, g3]
      · try rw [hL]
        rw [partsL_length]
        exact own_grown OU (grownBy_putObj' _ D (.deferred none)) hr
    | false =>
      have hno : ¬ UnpOk ns u := fun h => absurd (hU.1 h) (by decide)
      have hE : unpE ns u = 1 := if_neg hno
      have hL : unpL ns u = [] := if_neg hno
      gi_wp2
      obtain ⟨U, eU⟩ : ∃ U, (w1.setCell ⟨b2, 0, none⟩ (.slice none 0 0)).setCell ⟨b3, 0, none⟩ (.int .i64 1) = U := ⟨_, rfl⟩
      have u2 : Blk U b2 47 #[.slice none 0 0] := by rw [← eU]; exact (Blk.set_ D2 0 _).far (by simp; omega) _
      have u3 : Blk U b3 26 #[.int .i64 1] := by rw [← eU]; exact Blk.set_ (D3.far (by simp; omega) _) 0 _
      have hO : KeepsOthers w1 U := by rw [← eU]; exact (KeepsOthers.setCell _ _ _).trans (KeepsOthers.setCell _ _ _)
      have hBU : Below w.heap.size w U := by rw [← eU]; exact (hB1.setCell (by simp; omega) _).setCell (by simp; omega) _
      rw [eU]
      have hK := hO.same D _ hK1 rfl
      refine ⟨by simp, .inl ⟨_, _, rfl, run_takeDeferred hK, ?_⟩⟩
      have hr : ∀ r, some D = some r → ∃ o : Obj, U.heap[r]? = some o ∧ o.isCells = false := fun r e => by cases e; exact ⟨_, hK, rfl⟩
      have g2 := (blk_own u2 (grownBy_putObj' _ D (.deferred none)) hr).cell 0
      have g3 := (blk_own u3 (grownBy_putObj' _ D (.deferred none)) hr).cell 0
      refine ⟨.tuple #[.slice none 0 0, .int .i64 1], ?_, .slice none 0 0, by first | rfl | rw [hE], by (try rw [hL]); exact World.ownsRow_nil _ _ _ _, fun g hg => by simp [Value.ownBlock] at hg, Chg.of_below ((hBU.grown (grownBy_putObj' U D (.deferred none)) hBU.size (fun k e => by cases e; omega)))⟩
      simp [results, go_sem, g2, g3]
  case stop =>
    rintro D cc pre W hD ⟨k, hk, rfl⟩ ⟨⟨rfl, u2, u3, hX4⟩, hBU⟩ hK
    have hno : ¬ UnpOk ns u := fun h => hX4 fun p hp => pl_of_all (len ns) (Nat.le_refl _) (by have := len_of_all h.1; omega) (by have := len_of_all h.1; rw [this]; exact h.1) p (upto_sub hk hk (Nat.le_refl _) hp)
    have hE : unpE ns u = 1 := if_neg hno
    have hL : unpL ns u = [] := if_neg hno
    gi_wp2
    refine ⟨by simp, .inl ⟨_, _, rfl, run_takeDeferred hK, ?_⟩⟩
    have g2 := (blk_own u2 (grownBy_putObj' _ D (.deferred none)) (fun r e => by cases e; exact ⟨_, hK, rfl⟩)).cell 0
    have g3 := (blk_own u3 (grownBy_putObj' _ D (.deferred none)) (fun r e => by cases e; exact ⟨_, hK, rfl⟩)).cell 0
    refine ⟨.tuple #[.slice none 0 0, .int .i64 1], ?_, .slice none 0 0, by first | rfl | rw [hE], by (try rw [hL]); exact World.ownsRow_nil _ _ _ _, fun g hg => by simp [Value.ownBlock] at hg, Chg.of_below ((hBU.grown (grownBy_putObj' W D (.deferred none)) hBU.size (fun k e => by cases e; omega)))⟩
    simp [results, go_sem, g2, g3]
end Go.Proofs.Ytknbeklplmhheaa.Unpack
