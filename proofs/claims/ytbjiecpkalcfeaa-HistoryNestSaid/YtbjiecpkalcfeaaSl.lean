/- A slice of one's own that may begin in the middle of its block: reading, cutting off its head, append. No program in sight. -/
import Derived.Test.YtbjiecpkalcfeaaHeap
import Derived.ArgAppend
namespace Go.Proofs.Ytbjiecpkalcfeaa.Sl
open Go Go.RowKit Go.Proofs.Ytbjiecpkalcfeaa.Heap

/-- v is a slice of n elements of type e, size cells each, that reads as the cells xs; its block is known whole and may be written. -/
def Sl (w : World) (e : TypeId) (size : Nat) (v : Value) (n : Nat) (xs : List Value) : Prop :=
  xs.length = n * size ∧ ((v = .slice none 0 0 ∧ n = 0) ∨ ∃ g off cap cs, v = .slice (some ⟨g, off, none⟩) n cap ∧ Blk w g e cs ∧ n ≤ cap ∧ off + cap * size ≤ cs.size ∧ ∀ j u, xs[j]? = some u → cs[off + j]? = some u)
section
variable {S : List Nat} {w w' : World} {e : TypeId} {size n : Nat} {v : Value} {xs : List Value}
theorem Sl.nil (w : World) (e : TypeId) (size : Nat) : Sl w e size (.slice none 0 0) 0 [] := ⟨by simp, .inl ⟨rfl, rfl⟩⟩
theorem Sl.of_own (h : w.ownsRow 0 e size v n xs) : Sl w e size v n xs := by
  refine ⟨h.1, ?_⟩
  rcases h.2 with h0 | ⟨g, cap, cur, rfl, _, hh, hnc, _, hs, ht⟩
  · exact .inl h0
  · refine .inr ⟨g, 0, cap, cur, rfl, hh, hnc, by omega, fun j u hj => ?_⟩
    rw [← ht, List.getElem?_take] at hj
    split at hj
    · rw [Nat.zero_add]; simpa using hj
    · cases hj
theorem Sl.chg (h : Sl w e size v n xs) (hc : Chg S w w') (hS : ∀ g, v.ownBlock = some g → g ∉ S) : Sl w' e size v n xs := by
  refine ⟨h.1, ?_⟩
  rcases h.2 with h0 | ⟨g, off, cap, cs, rfl, hb, r⟩
  · exact .inl h0
  · exact .inr ⟨g, off, cap, cs, rfl, hb.chg hc (hS g rfl), r⟩
theorem Sl.lt (h : Sl w e size v n xs) {g : Nat} (hg : v.ownBlock = some g) : g < w.heap.size := by
  rcases h.2 with ⟨rfl, _⟩ | ⟨g', off, cap, cs, rfl, hb, _⟩
  · cases hg
  · have : g' = g := by simpa [Value.ownBlock] using hg
    subst this
    exact hb.lt
theorem Sl.ne_ (h : Sl w e size v n xs) {g t : Nat} {cs : Array Value} (hb : Blk w g t cs) (hne : e ≠ t) : v.ownBlock ≠ some g := by
  rcases h.2 with ⟨rfl, _⟩ | ⟨g', off, cap, cs', rfl, hb', _⟩
  · simp [Value.ownBlock]
  · intro he
    have : g' = g := by simpa [Value.ownBlock] using he
    subst this
    exact Blk.ne_ hb' hb hne rfl
theorem Sl.form (h : Sl w e size v n xs) (hn : 0 < n) : ∃ g off cap, v = .slice (some ⟨g, off, none⟩) n cap ∧ n ≤ cap ∧ g < w.heap.size ∧ ∀ j u, xs[j]? = some u → w.cell? ⟨g, off + j, none⟩ = some u := by
  rcases h.2 with ⟨_, h0⟩ | ⟨g, off, cap, cs, rfl, hb, hnc, _, hx⟩
  · omega
  · exact ⟨g, off, cap, rfl, hnc, hb.lt, fun j u hj => by rw [hb.cell]; exact hx j u hj⟩
/-- The head is cut off; where the capacity is used up the address stays. -/
theorem Sl.tail {g off cap : Nat} (h : Sl w e size (.slice (some ⟨g, off, none⟩) (n + 1) cap) (n + 1) xs) :
    Sl w e size (.slice (some ⟨g, if cap = 1 then off else off + size, none⟩) n (cap - 1)) n (xs.drop size) := by
  have hl := h.1
  refine ⟨by rw [List.length_drop, hl, Nat.add_mul]; omega, ?_⟩
  rcases h.2 with ⟨h0, _⟩ | ⟨g', off', cap', cs, hv, hb, hnc, hs, hx⟩
  · cases h0
  · simp only [Value.slice.injEq, Option.some.injEq, Addr.mk.injEq, and_true, true_and] at hv
    obtain ⟨⟨rfl, rfl⟩, rfl⟩ := hv
    have hcs : cap * size = (cap - 1) * size + size := by
      obtain ⟨c, rfl⟩ : ∃ c, cap = c + 1 := ⟨cap - 1, by omega⟩
      rw [Nat.add_sub_cancel, Nat.add_mul, Nat.one_mul]
    refine .inr ⟨g, _, cap - 1, cs, rfl, hb, by omega, ?_, fun j u hj => ?_⟩
    · split
      · omega
      · omega
    · rw [List.getElem?_drop] at hj
      have hlt := (List.getElem?_eq_some_iff.1 hj).1
      by_cases h1 : cap = 1
      · subst h1
        have : n = 0 := by omega
        subst this
        omega
      · rw [if_neg h1, Nat.add_assoc]
        exact hx _ _ hj

/-- A block with a range stored. -/
theorem set_rangeB {w : World} {g t o : Nat} {cs : Array Value} (h : Blk w g t cs) (vs : List Value) (ho : o + vs.length ≤ cs.size) : Blk (w.setCells g o vs) g t (cs.toList.take o ++ vs ++ cs.toList.drop (o + vs.length)).toArray := by
  induction vs generalizing w cs o with
  | nil => simpa [World.setCells] using h
  | cons v r ih =>
    rw [World.setCells]
    have := ih (o := o + 1) (h.set_ o v) (by simp at ho ⊢; omega)
    simp only [Array.toList_setIfInBounds] at this
    have e : (cs.toList.set o v).take (o + 1) ++ r ++ (cs.toList.set o v).drop (o + 1 + r.length) = cs.toList.take o ++ (v :: r) ++ cs.toList.drop (o + (v :: r).length) := by
      have ho' : o < cs.toList.length := by simp at ho ⊢; omega
      rw [List.take_set, List.drop_set_of_lt (by omega), List.take_add_one, List.getElem?_eq_getElem ho']
      simp only [Option.toList_some]
      rw [List.set_append_right _ _ (by rw [List.length_take]; omega)]
      have : o - (cs.toList.take o).length = 0 := by rw [List.length_take]; omega
      rw [this]
      simp [Nat.add_assoc, Nat.add_comm 1]
    rw [e] at this
    exact this
theorem range_get {cs : List Value} {o : Nat} {vs : List Value} (ho : o + vs.length ≤ cs.length) (i : Nat) : (cs.take o ++ vs ++ cs.drop (o + vs.length))[i]? = if o ≤ i ∧ i < o + vs.length then vs[i - o]? else cs[i]? := by
  have e1 : (cs.take o).length = o := by rw [List.length_take]; omega
  by_cases h1 : i < o
  · rw [if_neg (by omega), List.append_assoc, List.getElem?_append_left (by omega), List.getElem?_take, if_pos h1]
  · by_cases h2 : i < o + vs.length
    · rw [if_pos (by omega), List.getElem?_append_left (by rw [List.length_append]; omega), List.getElem?_append_right (by omega), e1]
    · rw [if_neg (by omega), List.getElem?_append_right (by rw [List.length_append]; omega)]
      have : (cs.take o ++ vs).length = o + vs.length := by rw [List.length_append, e1]
      rw [this, List.getElem?_drop, show o + vs.length + (i - (o + vs.length)) = i by omega]
/-- append of one element at a plain region's list, wherever the slice begins. -/
theorem wpList_app_sl {P : Program} {ops : Array Oper} {rest : List Oper} {o : Oper} {a : Act} {Q : Exit → Act → World → Prop} (hgd : o.guard = none) (s x : Operand) (t : TypeId)
    (ho : o.op = .call { callee := .builtin .append, args := #[s, x], argTypes := #[t, t] })
    (e : TypeId) (z : Value) (size bytes : Nat) (ht : P.underlying t = some (.slice e)) (hinfo : (P.info? e).map (fun i => (i.zero, i.size, i.bytes)) = some (some z, size, bytes)) (hzs : z.cells.size = size) (hsz : 0 < size) (hby : 0 < bytes)
    (v : Value) (n : Nat) (xs : List Value) (hs : a.eval s = v) (h : Sl w e size v n xs)
    (ad : Addr) (c : Nat) (news : List Value) (hx : a.eval x = .slice (some ad) 1 c) (hl : news.length = size) (hnews : ∀ j u, news[j]? = some u → w.cell? (ad.add j) = some u) (h1 : ∀ u ∈ news, u.oneCell' = true)
    (hbytes : (n + 1) * bytes ≤ 140737488355328)
    (hK : ∀ v' w', Sl w' e size v' (n + 1) (xs ++ news) → Chg v.ownBlock.toList w w' → (∀ g, v'.ownBlock = some g → v.ownBlock = some g ∨ w.heap.size ≤ g) → wpList P ops Q rest (a.put o.dst v') w') : wpList P ops Q (o :: rest) a w := by
  obtain ⟨i0, hi, hzz⟩ := Option.map_eq_some_iff.1 hinfo
  simp only [Prod.mk.injEq] at hzz
  obtain ⟨hz0, hz1, hz2⟩ := hzz
  have hlen : n + 1 ≤ 140737488355328 := Nat.le_trans (Nat.le_mul_of_pos_right _ hby) hbytes
  have hxl := h.1
  rcases h.2 with ⟨rfl, rfl⟩ | ⟨g, off, cap, cs, rfl, hb, hnc, hsz2, hcells⟩
  · refine wpList_append_grows w hgd s x t ho e i0 z size bytes ht hi hz0 hz1 hz2 hzs hsz none 0 0 [] hs (fun _ => ⟨rfl, rfl⟩) (by simp) (fun b hb => by cases hb) ad 1 c news hx (by omega) hnews h1 (by omega) (by simp only [maxLen]; omega) hbytes ?_
    intro v' w' hown hgr
    have hnil : xs = [] := List.eq_nil_of_length_eq_zero (by omega)
    subst hnil
    refine hK v' w' (Sl.of_own ⟨hown.1, hown.2.imp id fun ⟨g, cap, cur, a1, _, a3⟩ => ⟨g, cap, cur, a1, Nat.zero_le _, a3⟩⟩) (Chg.of_grown hgr (fun k hk => by cases hk)) (fun g hg => .inr (hown.lt g hg).1)
  · by_cases hroom : n + 1 ≤ cap
    · have hmul : (n + 1) * size ≤ cap * size := Nat.mul_le_mul_right _ hroom
      have hmul' : (n + 1) * size = n * size + size := by rw [Nat.add_mul, Nat.one_mul]
      have hrun := run_append_room_cells (P := P) w t o.type e i0 ht hi g off n cap ad 1 c news (by omega) hnews h1 hroom
        (fun j hj => by rw [hb.cell, Array.getElem?_eq_getElem (by rw [hz1]; omega)]; rfl) (fun j hj => hb.frozen _)
      have K := (Chg.refl [g] w).setCells (g := g) (by simp) news (off + n * i0.size)
      rw [hz1] at hrun K
      refine wpList_plain hgd fun K' hK' => ?_
      unfold Oper.wp execOp
      simp only [ho, resolve, invoke, builtin, Sem.run_bind, Sem.run_pure, Result.andThen_ok, List.map_toArray, List.map_cons, List.map_nil, hs, hx, hrun]
      refine hK' _ _ (hK _ _ ⟨by rw [List.length_append, hxl, hl, hmul'], .inr ⟨g, off, cap, _, rfl, set_rangeB hb news (by omega), hroom, ?_, ?_⟩⟩ (by simpa [Value.ownBlock] using K) (fun g' hg' => .inl (by simpa [Value.ownBlock] using hg')))
      · rw [List.size_toArray, List.length_append, List.length_append, List.length_take, List.length_drop, (Array.length_toList : cs.toList.length = cs.size)]
        omega
      · intro j u hj
        rw [List.getElem?_toArray, range_get (cs := cs.toList) (o := off + n * size) (vs := news) (by have hq : cs.toList.length = cs.size := Array.length_toList; omega)]
        by_cases hjl : j < xs.length
        · rw [List.getElem?_append_left hjl] at hj
          rw [if_neg (by omega), Array.getElem?_toList]
          exact hcells j u hj
        · rw [List.getElem?_append_right (by omega)] at hj
          have hjn := (List.getElem?_eq_some_iff.1 hj).1
          rw [if_pos (by omega), show off + j - (off + n * size) = j - xs.length by omega]
          exact hj
    · have hmul : n * size ≤ cap * size := Nat.mul_le_mul_right _ hnc
      refine wpList_append_grows w hgd s x t ho e i0 z size bytes ht hi hz0 hz1 hz2 hzs hsz (some ⟨g, off, none⟩) n cap xs hs (fun h0 => by cases h0) hxl (fun b hb' j u hj => ?_) ad 1 c news hx (by omega) hnews h1 (by omega) (by simp only [maxLen]; omega) hbytes ?_
      · obtain rfl : (⟨g, off, none⟩ : Addr) = b := Option.some.inj hb'
        rw [add_plain, hb.cell]
        exact hcells j u hj
      · intro v' w' hown hgr
        exact hK v' w' (Sl.of_own ⟨hown.1, hown.2.imp id fun ⟨g, cap, cur, a1, _, a3⟩ => ⟨g, cap, cur, a1, Nat.zero_le _, a3⟩⟩) (Chg.of_grown hgr (fun k hk => by cases hk)) (fun g' hg' => .inr (hown.lt g' hg').1)
end
end Go.Proofs.Ytbjiecpkalcfeaa.Sl
