/- Package slot: the iterator 'slots' over a frame all of whose slots hold capabilities; All. -/
import Derived.Test.YtbjiecpkalcfeaaSlot
import Derived.Test.YtbjiecpkalcfeaaUnpack
namespace Go.Proofs.Ytbjiecpkalcfeaa.SlotAll
open Go Go.RowKit Go.Shelf Go.Proofs.Ytbjiecpkalcfeaa Go.Proofs.Ytbjiecpkalcfeaa.Heap Go.Proofs.Ytbjiecpkalcfeaa.Bits Go.Proofs.Ytbjiecpkalcfeaa.Cap Go.Proofs.Ytbjiecpkalcfeaa.CapGet Go.Proofs.Ytbjiecpkalcfeaa.Mem Go.Proofs.Ytbjiecpkalcfeaa.Two Go.Proofs.Ytbjiecpkalcfeaa.Slot Go.Proofs.Ytbjiecpkalcfeaa.Pack
attribute [local go_sem] Oper.semAt_some

/-- What the iterator hands over, by a slot's number. -/
def encS (n : Nat) (L : List Int) (f : Int) (k : Nat) : Array Value := #[sgV n L f k, .int .i64 (sgE n L f k)]
/-- What a round keeps: whatever lay below, and the iterator's two variables. -/
def KpS (n₀ bm bf : Nat) (W W' : World) : Prop := Below n₀ W W' ∧ W'.heap[bm]? = W.heap[bm]? ∧ W'.heap[bf]? = W.heap[bf]?
theorem kpS_t {n₀ bm bf : Nat} {A B C : World} (h : KpS n₀ bm bf A B) (k : KpS n₀ bm bf B C) : KpS n₀ bm bf A C := ⟨h.1.trans k.1, k.2.1.trans h.2.1, k.2.2.trans h.2.2⟩
theorem kpS_b {n₀ bm bf : Nat} {w : World} (hn : n₀ ≤ w.heap.size) (hm : bm < w.heap.size) (hf : bf < w.heap.size) (W : World) (l : Nat) (o o' : Obj) (hl : w.heap.size ≤ l) (h : W.heap[l]? = some o) (h1 : o.isCells = false) (h2 : o.isWalk = false) : KpS n₀ bm bf W (W.putObj l o') :=
  ⟨belowK_b hn W l o o' hl h h1 h2, World.putObj_heap_other (by omega), World.putObj_heap_other (by omega)⟩
theorem grown_of_chg {W W' : World} (k : Chg [] W W') : W.grownBy W' none := ⟨k.os, k.tape, k.output, k.size, fun i hi _ => k.block i hi (by simp)⟩
theorem cell_same {W W' : World} {b : Nat} (h : W'.heap[b]? = W.heap[b]?) (i : Nat) : W'.cell? ⟨b, i, none⟩ = W.cell? ⟨b, i, none⟩ := World.cell?_of_block h
theorem mem_below {w w' : World} {p g n n₀ : Nat} {L : List Int} (h : MemAt w p g n L) (hb : Below n₀ w w') (hp : p < n₀) (hg : g < n₀) : MemAt w' p g n L := ⟨h.len, h.pos, h.le, h.hd.below hb hp, h.row.below hb hg⟩

set_option maxRecDepth 100000 in
set_option maxHeartbeats 2000000 in
theorem slots_stops {n : Nat} {L : List Int} {f : Int} (bm bf n₀ p g : Nat) (w : World) (hbm : bm < w.heap.size) (hbf : bf < w.heap.size) (hn₀ : n₀ ≤ w.heap.size) (hp : p < n₀) (hg : g < n₀) (m : MemAt w p g n L) (hu : U64 L) (f0 : 0 ≤ f) (f1 : f < n)
    (hm : w.cell? ⟨bm, 0, none⟩ = some (.pointer (some ⟨p, 0, none⟩))) (hf : w.cell? ⟨bf, 0, none⟩ = some (.int .i64 f)) :
    SeqStopsK Fence.wide 9 Try.prog 92 #[.pointer (some ⟨bm, 0, none⟩), .pointer (some ⟨bf, 0, none⟩)] (encS n L f) (KpS n₀ bm bf) (fun ys => ys = List.range 16) (fun pre => ∃ k, k ≤ 16 ∧ pre = List.range k) 16 w := by
  intro l J Jx W hW hJ hJx hY h0
  have HG : Hid (∀ (k : Nat) (W : World), k < 16 → MemAt W p g n L → Calls Try.prog 38 #[.pointer (some ⟨p, 0, none⟩), .int .i64 f, .int .i64 k] W fun e w' => e = .returned (.tuple #[sgV n L f k, .int .i64 (sgE n L f k)]) ∧ Chg [] W w') := fun k W hk q => get_ok q hu f k f0 f1 (by omega) (by omega)
  have HY := Lib.hid hY
  have HJ := Lib.hid hJ
  have hm' : W.cell? ⟨bm, 0, none⟩ = some (.pointer (some ⟨p, 0, none⟩)) := (cell_same (hW.block _ hbm) 0).trans hm
  have hf' : W.cell? ⟨bf, 0, none⟩ = some (.int .i64 f) := (cell_same (hW.block _ hbf) 0).trans hf
  have mW := Lib.hid (mem_below m hW (by omega) (by omega))
  have hWs := hW.size
  clear hY hJ hJx m hm hf hW
  refine callsIn_of_wp Try.func92 rfl trivial ?_ rfl
  simp only [Try.ntmps92, List.size_toArray, List.length_cons, List.length_nil, Nat.reduceAdd, Nat.reduceSub, Array.replicate_succ, Array.replicate_zero, List.push_toArray, List.append_toArray, List.nil_append, List.cons_append]
  gi_wp2
  gi_loopw [5] (fun i wr => ∃ k : Nat, k ≤ 16 ∧ i = .int .i64 k ∧ J (List.range k) wr ∧ W.heap.size ≤ wr.heap.size ∧ KpS n₀ bm bf W wr) (fun i _ => 16 - (intOf i).toNat)
  case atStart => exact ⟨0, Nat.zero_le _, rfl, h0, Nat.le_refl _, Below.refl _ _, rfl, rfl⟩
  case round =>
    obtain ⟨k, hk, rfl, hJs, hsz, hK⟩ := hrel
    by_cases hlt : k < 16
    · have c1 : wr.cell? ⟨bm, 0, none⟩ = some (.pointer (some ⟨p, 0, none⟩)) := (cell_same hK.2.1 0).trans hm'
      have c2 : wr.cell? ⟨bf, 0, none⟩ = some (.int .i64 f) := (cell_same hK.2.2 0).trans hf'
      have mr := mem_below mW.out hK.1 hp hg
      have hki : (k : Int) < 16 := by omega
      have HG' := Lib.hid (HG.out k wr hlt mr)
      have HE : Hid (encS n L f k = #[sgV n L f k, .int .i64 (sgE n L f k)]) := rfl
      have hr1 : List.range k ++ [k] = List.range (k + 1) := List.range_succ.symm
      generalize sgV n L f k = v at *
      generalize sgE n L f k = ev at *
      clear mr
      gi_wp2_with (refine ⟨trivial, ?_⟩; gi_at_call 38; refine (callsIn_wide.2 HG'.out).mono ?_; rintro e w5 ⟨rfl, kk⟩; have hJ5 := HJ.out _ _ _ none hJs (grown_of_chg kk) (fun r e => by cases e); have K5 : KpS n₀ bm bf wr w5 := ⟨kk.below (by simp) (by omega), kk.block _ (by omega) (by simp), kk.block _ (by omega) (by simp)⟩; obtain ⟨fn, tmps, assign, body, hy, hR⟩ := HY.out _ k w5 hJ5 (by rw [List.length_range]; exact hlt); rw [HE.out] at hy)
      refine hR.mono ?_
      rintro e W3 (⟨rfl, hJ3, hk3⟩ | ⟨rfl, hJx3⟩)
      · rw [hr1] at hJ3
        gi_wp2
        go_roundw
        case rel => exact ⟨k + 1, by omega, by simp, hJ3, Nat.le_trans hsz (Nat.le_trans K5.1.size hk3.1.size), kpS_t hK (kpS_t K5 hk3)⟩
        case measure => simp [intOf]; omega
      · rw [hr1] at hJx3
        gi_wp2
        refine bodyPost_ret (results_none rfl _ _ _) rfl ?_
        exact ⟨⟨_, rfl⟩, .inr ⟨_, ⟨k + 1, by omega, rfl⟩, hJx3⟩⟩
    · obtain rfl : k = 16 := by omega
      gi_wp2
      go_end0
      exact ⟨⟨_, rfl⟩, .inl ⟨_, rfl, hJs⟩⟩

set_option maxRecDepth 100000 in
set_option maxHeartbeats 1000000 in
theorem slots_in (P f : Value) (w : World) (hP : ∃ a, P = .pointer a) (hf : ∃ x, f = .int .i64 x) :
    CallsIn Fence.wide 9 Try.prog 70 #[P, f] w fun e w' => e = .returned (.func (.func 92) #[] #[.pointer (some ⟨w.heap.size, 0, none⟩), .pointer (some ⟨w.heap.size + 1, 0, none⟩)]) ∧ w' = (w.alloc (.cells #[P] 24)).alloc (.cells #[f] 3) := by
  obtain ⟨a, rfl⟩ := hP
  obtain ⟨x, rfl⟩ := hf
  refine callsIn_of_wp Try.func70 rfl trivial ?_ rfl
  simp only [Try.ntmps70, List.size_toArray, List.length_cons, List.length_nil, Nat.reduceAdd, Nat.reduceSub, Array.replicate_succ, Array.replicate_zero, List.push_toArray, List.append_toArray, List.nil_append, List.cons_append]
  gi_wp2
  go_ret
  exact ⟨rfl, rfl⟩
end Go.Proofs.Ytbjiecpkalcfeaa.SlotAll
