/- Package palanquinref02: the reference's memory, rows of words, each function walked once. -/
import Derived.Test.YtknbeklplmhheaaMem2
namespace Go.Proofs.Ytknbeklplmhheaa.Ref02
open Go Go.RowKit Go.Proofs.Ytknbeklplmhheaa.Heap Go.Proofs.Ytknbeklplmhheaa.Mem

/-- A row of 36 words, in a block with some room. -/
abbrev rowV (b : Nat × Nat) : Value := .slice (some ⟨b.1, 0, none⟩) 36 b.2

/-- A reference's memory of n frames with the words L; all its blocks from B on. -/
structure RM (w : World) (B p : Nat) (v : Value) (n : Nat) (bs : List (Nat × Nat)) (L : List Int) : Prop where
  len : L.length = 36 * n
  hd : Blk w p 134 #[v]
  own : w.ownsRow 0 47 1 v n (bs.map rowV)
  rows : ∀ j b, bs[j]? = some b → w.ownsRow 0 36 1 (rowV b) 36 (nums .u64 (frL L j))
  dis : (bs.map Prod.fst).Nodup
  fp : B ≤ p
  fv : ∀ g, v.ownBlock = some g → B ≤ g
  fb : ∀ b, b ∈ bs → B ≤ b.1

theorem own_blk {w : World} {e : TypeId} {size n g m cap : Nat} {xs : List Value} (h : w.ownsRow 0 e size (.slice (some ⟨g, 0, none⟩) m cap) n xs) : ∃ cs, Blk w g e cs := by
  rcases h.2 with ⟨h0, _⟩ | ⟨g', cap', cur, hv, _, hh, r⟩
  · cases h0
  · simp at hv
    obtain ⟨rfl, -, -⟩ := hv
    exact ⟨cur, hh⟩
theorem frL_getE {L : List Int} {f i : Nat} : (frL L f)[i]? = if i < 36 then L[f * 36 + i]? else none := by
  unfold frL
  rw [List.getElem?_take, List.getElem?_drop]
theorem frL_set {L : List Int} {f a j : Nat} {x : Int} (ha : a < 36) : frL (L.set (f * 36 + a) x) j = if j = f then (frL L f).set a x else frL L j := by
  apply List.ext_getElem?
  intro i
  by_cases h : j = f
  · subst h
    rw [if_pos rfl, frL_getE, List.getElem?_set]
    by_cases hi : i < 36
    · rw [if_pos hi, List.getElem?_set]
      by_cases e : a = i
      · subst e
        rw [if_pos rfl, if_pos rfl]
        by_cases hl : j * 36 + a < L.length
        · rw [if_pos hl, if_pos]; unfold frL; simp; omega
        · rw [if_neg hl, if_neg]; unfold frL; simp; omega
      · rw [if_neg (by omega), if_neg e, frL_getE, if_pos hi]
    · rw [if_neg hi, List.getElem?_set]
      by_cases e : a = i
      · omega
      · rw [if_neg e, frL_getE, if_neg hi]
  · rw [if_neg h, frL_getE, frL_getE]
    by_cases hi : i < 36
    · rw [if_pos hi, if_pos hi, List.getElem?_set, if_neg (by omega)]
    · rw [if_neg hi, if_neg hi]

section
variable {S : List Nat} {w w' : World} {B p n : Nat} {v : Value} {bs : List (Nat × Nat)} {L : List Int}
theorem RM.blen (h : RM w B p v n bs L) : bs.length = n := by have := h.own.1; simpa using this
theorem RM.chgS (h : RM w B p v n bs L) (hc : Chg S w w') (h1 : p ∉ S) (h2 : ∀ g, v.ownBlock = some g → g ∉ S) (h3 : ∀ b, b ∈ bs → b.1 ∉ S) : RM w' B p v n bs L :=
  ⟨h.len, h.hd.chg hc h1, own_chg h.own hc h2, fun j b hb => own_chg (h.rows j b hb) hc (fun g hg => by
    have : b.1 = g := by simpa [Value.ownBlock] using hg
    subst this
    exact h3 b (List.mem_of_getElem? hb)), h.dis, h.fp, h.fv, h.fb⟩
theorem RM.chg0 (h : RM w B p v n bs L) (hc : Chg [] w w') : RM w' B p v n bs L := h.chgS hc (by simp) (by simp) (by simp)
theorem RM.chgT {g t : Nat} {cs : Array Value} (h : RM w B p v n bs L) (hg : Blk w g t cs) (hc : Chg [g] w w') (t1 : t ≠ 134) (t2 : t ≠ 47) (t3 : t ≠ 36) : RM w' B p v n bs L := by
  refine h.chgS hc ?_ ?_ ?_
  · simpa using Blk.ne_ h.hd hg (Ne.symm t1)
  · intro q hq
    have := own_ne h.own hg (Ne.symm t2)
    rw [hq] at this
    simpa using this
  · intro b hb
    obtain ⟨j, hj⟩ := List.getElem?_of_mem hb
    obtain ⟨cs', hb'⟩ := own_blk (h.rows j b hj)
    simpa using Blk.ne_ hb' hg (Ne.symm t3)
theorem RM.alloc (h : RM w B p v n bs L) (o : Obj) : RM (w.alloc o) B p v n bs L := h.chg0 ((Chg.refl [] w).alloc o)
theorem RM.drewN (h : RM w B p v n bs L) (k : Nat) : RM (w.drewN k) B p v n bs L := h.chg0 ((Chg.refl [] w).drewN k)
theorem RM.drew (h : RM w B p v n bs L) : RM w.drew B p v n bs L := h.chg0 ((Chg.refl [] w).drew)
theorem RM.head (h : RM w B p v n bs L) : w.cell? ⟨p, 0, none⟩ = some v := h.hd.cell 0
theorem RM.at_ (h : RM w B p v n bs L) {k : Nat} (hk : k < n) : ∃ q cap b, v = .slice (some ⟨q, 0, none⟩) n cap ∧ bs[k]? = some b ∧ w.cell? ⟨q, k, none⟩ = some (rowV b) := by
  obtain ⟨q, cap, rfl, -, -⟩ := h.own.form (by omega)
  have hl := h.blen
  have hb : bs[k]? = some bs[k] := List.getElem?_eq_getElem (by omega)
  refine ⟨q, cap, bs[k], rfl, hb, ?_⟩
  rw [h.own.cellAt k (by omega), List.getElem?_map, hb]
  rfl
theorem RM.cell (h : RM w B p v n bs L) {k : Nat} {b : Nat × Nat} (hb : bs[k]? = some b) {a : Nat} (ha : a < 36) : w.cell? ⟨b.1, a, none⟩ = some (.int .u64 (L.getD (k * 36 + a) 0)) := by
  have hk : k < n := by rw [← h.blen]; exact (List.getElem?_eq_some_iff.1 hb).1
  rw [(h.rows k b hb).cellAt a (by omega), nums_get _ _ _ (by rw [frL_len h.len hk]; exact ha), frL_get ha]
theorem RM.free (h : RM w B p v n bs L) {k : Nat} {b : Nat × Nat} (hb : bs[k]? = some b) (a : Nat) : w.frozen? ⟨b.1, a, none⟩ = false := (h.rows k b hb).frozenAt a
theorem RM.nep (h : RM w B p v n bs L) {k : Nat} {b : Nat × Nat} (hb : bs[k]? = some b) : p ≠ b.1 ∧ (∀ g, v.ownBlock = some g → g ≠ b.1) ∧ ∀ j c, bs[j]? = some c → j ≠ k → c.1 ≠ b.1 := by
  obtain ⟨cs, hc⟩ := own_blk (h.rows k b hb)
  refine ⟨Blk.ne_ h.hd hc (by decide), fun g hg => ?_, fun j c hj hne e => ?_⟩
  · have := own_ne h.own hc (by decide)
    rw [hg] at this
    simpa using this
  · have h1 : (bs.map Prod.fst)[j]? = some c.1 := by rw [List.getElem?_map, hj]; rfl
    have h2 : (bs.map Prod.fst)[k]? = some c.1 := by rw [List.getElem?_map, hb, e]; rfl
    exact hne ((List.getElem?_inj (List.getElem?_eq_some_iff.1 h1).1 h.dis).1 (h1.trans h2.symm))
theorem RM.set_ (h : RM w B p v n bs L) {k : Nat} {b : Nat × Nat} (hb : bs[k]? = some b) {a : Nat} (ha : a < 36) (x : Int) : RM (w.setCell ⟨b.1, a, none⟩ (.int .u64 x)) B p v n bs (L.set (k * 36 + a) x) := by
  obtain ⟨n1, n2, n3⟩ := h.nep hb
  have hc : Chg [b.1] w (w.setCell ⟨b.1, a, none⟩ (.int .u64 x)) := (Chg.refl _ w).setCell (p := ⟨b.1, a, none⟩) (by simp) _
  refine ⟨by simpa using h.len, h.hd.chg hc (by simpa using n1), own_chg h.own hc (fun g hg => by simpa using n2 g hg), fun j c hj => ?_, h.dis, h.fp, h.fv, h.fb⟩
  rw [frL_set ha]
  by_cases e : j = k
  · subst e
    obtain rfl : c = b := by rw [hb] at hj; exact (Option.some.inj hj).symm
    rw [if_pos rfl]
    have := ((h.rows j c hj).stored a (.int .u64 x)).1
    simpa [nums, List.map_set] using this
  · rw [if_neg e]
    exact own_chg (h.rows j c hj) hc (fun g hg => by
      have : c.1 = g := by simpa [Value.ownBlock] using hg
      subst this
      simpa using n3 j c hj e)
end
/-- Rows of words alone have turned, and none below B. -/
def Chr (R : List Nat) (B : Nat) (w w' : World) : Prop := ∃ S, Chg S w w' ∧ ∀ s, s ∈ S → s ∈ R ∧ B ≤ s ∧ ∃ cs, Blk w s 36 cs
theorem Chr.of0 {R : List Nat} {B : Nat} {w w' : World} (h : Chg [] w w') : Chr R B w w' := ⟨[], h, fun s hs => by cases hs⟩
theorem RM.chr {w w' : World} {B p n : Nat} {v : Value} {bs : List (Nat × Nat)} {L : List Int} (h : RM w B p v n bs L) {k : Nat} {b : Nat × Nat} (hb : bs[k]? = some b) (hc : Chg [b.1] w w') : Chr (bs.map Prod.fst) B w w' :=
  ⟨_, hc, fun s hs => by
    obtain rfl : s = b.1 := by simpa using hs
    exact ⟨List.mem_map.2 ⟨b, List.mem_of_getElem? hb, rfl⟩, h.fb b (List.mem_of_getElem? hb), own_blk (h.rows k b hb)⟩⟩
theorem chr_mem {R : List Nat} {w w' : World} {B p g n : Nat} {L : List Int} (h : MemAt w p g n L) (hc : Chr R B w w') : MemAt w' p g n L := by
  obtain ⟨S, hc, hS⟩ := hc
  refine h.chg hc (fun hm => ?_) (fun hm => ?_)
  · obtain ⟨-, -, cs, hb⟩ := hS _ hm
    exact Blk.ne_ h.hd hb (by decide) rfl
  · obtain ⟨-, -, cs, hb⟩ := hS _ hm
    exact Blk.ne_ h.row hb (by decide) rfl
theorem chr_chg {R : List Nat} {w0 w w' : World} {B : Nat} (K : Chg [] w0 w) (hc : Chr R B w w') (hB : w0.heap.size ≤ B) : Chg [] w0 w' := by
  obtain ⟨S, hc, hS⟩ := hc
  exact K.trans hc (fun x hx => .inr (Nat.le_trans hB (hS x hx).2.1))
theorem chr_blk {R : List Nat} {w w' : World} {B g t : Nat} {cs : Array Value} (h : Blk w g t cs) (hc : Chr R B w w') (ht : t ≠ 36 ∨ g < B) : Blk w' g t cs := by
  obtain ⟨S, hc, hS⟩ := hc
  refine h.chg hc (fun hm => ?_)
  obtain ⟨-, hB, cs', hb⟩ := hS _ hm
  rcases ht with ht | ht
  · exact Blk.ne_ h hb ht rfl
  · omega
/-- Just rows of the memory have turned. -/
theorem chr_in {R : List Nat} {w w' : World} {B : Nat} (hc : Chr R B w w') : Chg R w w' := by
  obtain ⟨S, hc, hS⟩ := hc
  exact hc.mono (fun x hx => .inl (hS x hx).1)

set_option maxRecDepth 100000 in
theorem is_ok {w : World} {B p n : Nat} {v : Value} {bs : List (Nat × Nat)} {L : List Int} (h : RM w B p v n bs L) (h1 : 1 ≤ n) (h2 : n ≤ 64) (f : Int) : Calls Try.prog 104 #[.pointer (some ⟨p, 0, none⟩), .int .i64 f] w fun e w' => e = .returned (.bool (isF n f)) ∧ w = w' := by
  obtain ⟨q, cap, b, rfl, -, -⟩ := h.at_ (k := 0) (by omega)
  have c := h.head
  clear h
  unfold isF
  by_cases h0 : 0 ≤ f
  · by_cases hn : f < n
    · rw [decide_eq_true ⟨h0, hn⟩]
      go_enter Try.func104, Try.ntmps104
      go_wp2
      go_ret
      exact ⟨rfl, rfl⟩
    · rw [decide_eq_false (by omega)]
      have hn' : decide (f < (n : Int)) = false := by simpa using hn
      clear hn
      go_enter Try.func104, Try.ntmps104
      go_wp2
      go_ret
      exact ⟨rfl, rfl⟩
  · rw [decide_eq_false (by omega)]
    have h0' : f < 0 := by omega
    clear h0
    go_enter Try.func104, Try.ntmps104
    go_wp2
    go_ret
    exact ⟨rfl, rfl⟩

theorem bad3 {n : Nat} {f a : Int} (h : ¬ (0 ≤ f ∧ f < n ∧ 0 ≤ a ∧ a < 36)) : isF n f = false ∨ (isF n f = true ∧ a < 0) ∨ (isF n f = true ∧ 0 ≤ a ∧ 36 ≤ a) := by
  unfold isF
  by_cases hf : 0 ≤ f ∧ f < n
  · rw [decide_eq_true hf]
    by_cases ha : a < 0
    · exact .inr (.inl ⟨rfl, ha⟩)
    · exact .inr (.inr ⟨rfl, by omega, by omega⟩)
  · exact .inl (decide_eq_false hf)

set_option maxHeartbeats 1000000 in
set_option maxRecDepth 100000 in
theorem load_ok {w : World} {B p n : Nat} {v : Value} {bs : List (Nat × Nat)} {L : List Int} (h : RM w B p v n bs L) (h1 : 1 ≤ n) (h2 : n ≤ 64) (f a : Int) : Calls Try.prog 95 #[.pointer (some ⟨p, 0, none⟩), .int .i64 f, .int .i64 a] w fun e w' => e = .returned (.tuple #[.int .u64 (ldV n L f a), .int .i64 (canE n f a)]) ∧ w = w' := by
  have HC := is_ok h h1 h2 f
  unfold ldV canE
  by_cases ho : 0 ≤ f ∧ f < n ∧ 0 ≤ a ∧ a < 36
  · rw [if_pos ho, if_pos ho]
    rw [show isF n f = true from decide_eq_true ⟨ho.1, ho.2.1⟩] at HC
    obtain ⟨q, cap, b, rfl, hb, c1⟩ := h.at_ (k := f.toNat) (by omega)
    have c0 := h.head
    have c2 := h.cell hb (a := a.toNat) (by omega)
    generalize L.getD (f.toNat * 36 + a.toNat) 0 = x at *
    obtain ⟨o1, o2, o3, o4⟩ := ho
    clear h hb
    go_enter Try.func95, Try.ntmps95
    go_wp2_with (go_at_call 104; refine Calls.mono HC ?_; rintro e w' ⟨rfl, rfl⟩)
    go_ret2
    exact ⟨rfl, rfl⟩
  · rw [if_neg ho, if_neg ho]
    obtain ⟨q, cap, b, rfl, -, -⟩ := h.at_ (k := 0) (by omega)
    have hbad := bad3 ho
    generalize isF n f = T at *
    clear h ho
    rcases hbad with rfl | ⟨rfl, ha⟩ | ⟨rfl, ha, ha'⟩
    all_goals
      go_enter Try.func95, Try.ntmps95
      go_wp2_with (go_at_call 104; refine Calls.mono HC ?_; rintro e w' ⟨rfl, rfl⟩)
      go_ret2
      exact ⟨rfl, rfl⟩

set_option maxHeartbeats 1000000 in
set_option maxRecDepth 100000 in
theorem store_ok {w : World} {B p n : Nat} {v : Value} {bs : List (Nat × Nat)} {L : List Int} (h : RM w B p v n bs L) (h1 : 1 ≤ n) (h2 : n ≤ 64) (f a x : Int) : Calls Try.prog 74 #[.pointer (some ⟨p, 0, none⟩), .int .i64 f, .int .i64 a, .int .u64 x] w fun e w' => e = .returned (.int .i64 (canE n f a)) ∧ RM w' B p v n bs (stL n L f a x) ∧ Chr (bs.map Prod.fst) B w w' := by
  have HC := is_ok h h1 h2 f
  have H : Hid (RM w B p v n bs L) := h
  unfold stL canE
  by_cases ho : 0 ≤ f ∧ f < n ∧ 0 ≤ a ∧ a < 36
  · rw [if_pos ho, if_pos ho]
    rw [show isF n f = true from decide_eq_true ⟨ho.1, ho.2.1⟩] at HC
    obtain ⟨q, cap, b, rfl, hb, c1⟩ := h.at_ (k := f.toNat) (by omega)
    have c0 := h.head
    have c2 := h.cell hb (a := a.toNat) (by omega)
    have fz := h.free hb a.toNat
    have G := h.set_ hb (a := a.toNat) (by omega) x
    have KK := h.chr hb ((Chg.refl [b.1] w).setCell (p := ⟨b.1, a.toNat, none⟩) (by simp) (.int .u64 x))
    have HG : Hid _ := G
    have HK : Hid _ := KK
    generalize L.getD (f.toNat * 36 + a.toNat) 0 = y at *
    obtain ⟨o1, o2, o3, o4⟩ := ho
    clear h hb G KK
    go_enter Try.func74, Try.ntmps74
    go_wp2_with (go_at_call 104; refine Calls.mono HC ?_; rintro e w' ⟨rfl, rfl⟩)
    go_ret
    exact ⟨rfl, HG.out, HK.out⟩
  · rw [if_neg ho, if_neg ho]
    obtain ⟨q, cap, b, rfl, -, -⟩ := h.at_ (k := 0) (by omega)
    have hbad := bad3 ho
    generalize isF n f = T at *
    clear h ho
    rcases hbad with rfl | ⟨rfl, ha⟩ | ⟨rfl, ha, ha'⟩
    all_goals
      go_enter Try.func74, Try.ntmps74
      go_wp2_with (go_at_call 104; refine Calls.mono HC ?_; rintro e w' ⟨rfl, rfl⟩)
      go_ret
      exact ⟨rfl, H.out, Chr.of0 (Chg.refl _ _)⟩
end Go.Proofs.Ytknbeklplmhheaa.Ref02
