/- Package ring: All. -/
import Derived.Test.YtbjiecpkalcfeaaRingPlain
namespace Go.Proofs.Ytbjiecpkalcfeaa.RingAll
open Go Go.RowKit Go.Proofs.Ytbjiecpkalcfeaa Go.Proofs.Ytbjiecpkalcfeaa.Heap Go.Proofs.Ytbjiecpkalcfeaa.HeadIs Go.Proofs.Ytbjiecpkalcfeaa.Mem Go.Proofs.Ytbjiecpkalcfeaa.Two Go.Proofs.Ytbjiecpkalcfeaa.RingWords Go.Proofs.Ytbjiecpkalcfeaa.Ring Go.Proofs.Ytbjiecpkalcfeaa.RingPlain

theorem info_ev : (Try.prog.info? 32).map (fun i => (i.zero, i.size, i.bytes)) = some (some (evV 0 0), 2, 16) := by kernel_rfl
theorem evs_take (es : List Ev) (k : Nat) (h : k < es.length) : evs (es.take (k + 1)) = evs (es.take k) ++ [.int .i64 (es.getD k (0, 0)).1, .int .i64 (es.getD k (0, 0)).2] := by
  have : es.take (k + 1) = es.take k ++ [es.getD k (0, 0)] := by
    rw [List.take_add_one, List.getD_eq_getElem?_getD, List.getElem?_eq_getElem h]
    rfl
  rw [this, evs_app]
theorem two_new (w : World) (a b : Value) (t : TypeId) {g : Nat} (hg : w.heap.size = g) : ∀ j u, [a, b][j]? = some u → (w.alloc (.cells #[a, b] t)).cell? ((⟨g, 0, none⟩ : Addr).add j) = some u := by
  intro j u hj
  rw [add_plain, (Blk.new' w t #[a, b] hg).cell]
  rw [Nat.zero_add]
  simpa using hj
set_option maxRecDepth 100000 in
set_option maxHeartbeats 4000000 in
theorem all_ok {w : World} {p g : Nat} {L : List Int} {b : Int} {es : List Ev} (h : MemAt w p g 1 L) (hr : RG L b es) : Calls Try.prog 14 #[.pointer (some ⟨p, 0, none⟩), .int .i64 0] w fun e w' => ∃ v, e = .returned (.tuple #[v, .int .i64 0]) ∧ w'.ownsRow 0 32 2 v es.length (evs es) ∧ (∀ q, v.ownBlock = some q → w.heap.size ≤ q) ∧ Chg [] w w' := by
  have HO := Lib.hid (fun (W : World) (q : MemAt W p g 1 L) => open_ok q hr.u hr.good)
  have HR : Hid (∀ (i : Nat) (W : World), i < es.length → MemAt W p g 1 L → Calls Try.prog 53 #[ringV p 0 b es.length, .int .i64 i] W fun e w' => e = .returned (.tuple #[evV (es.getD i (0, 0)).1 (es.getD i (0, 0)).2, .int .i64 0]) ∧ Chg [] W w') := fun i W hi q => by
    have hc := hr.good.c1
    have := read_ok q hr.u 0 b es.length i (by decide) (by decide) hr.good.b0 hr.good.b1 (by omega) (by omega)
    obtain ⟨-, -, e1, e2, e3⟩ := hr.ev i hi
    rw [e1, e2, e3] at this
    exact this
  have hc8 : es.length ≤ 8 := by have := hr.good.c1; omega
  have HT := Lib.hid (evs_take es)
  have HF : Hid (es.take es.length = es) := List.take_length
  have H0 : Hid (evs (es.take 0) = []) := rfl
  clear hr
  obtain ⟨c, ec⟩ : ∃ c, es.length = c := ⟨_, rfl⟩
  rw [ec] at HO HR HT HF hc8 ⊢
  go_enter Try.func14, Try.ntmps14
  go_wp2_with fail
  refine Calls.mono (HO.out _ h) ?_
  rintro e w1 ⟨rfl, k1⟩
  obtain ⟨d, ed⟩ : ∃ d, w1.heap.size = d := ⟨_, rfl⟩
  have D := Blk.new' w1 98 (ringC p 0 b c) ed
  have K := k1.alloc (.cells (ringC p 0 b c) 98)
  have m := (h.chg0 k1).alloc (.cells (ringC p 0 b c) 98)
  clear h k1
  obtain ⟨c0, c1, c2, c3⟩ := blk4 D
  go_wp2_with fail
  obtain ⟨W3, hW⟩ : ∃ W3, w1.alloc (.cells (ringC p 0 b c) 98) = W3 := ⟨_, rfl⟩
  rw [hW] at D K m ⊢
  have hdl := D.lt
  clear hW c0 c1 c2 c3
  go_loopw [8, 23] (fun s i wr => ∃ (j : Nat) (v : Value), i = .int .i64 j ∧ v = s ∧ j ≤ c ∧ Hid (wr.ownsRow 0 32 2 v j (evs (es.take j)) ∧ (∀ q, v.ownBlock = some q → W3.heap.size ≤ q)) ∧ Hid (Chg [] W3 wr)) (fun _ i _ => c - (intOf i).toNat)
  case atStart => exact ⟨0, _, rfl, rfl, Nat.zero_le _, ⟨by rw [H0.out]; exact World.ownsRow_nil _ _ _ _, fun q hq => by simp [Value.ownBlock] at hq⟩, Chg.refl _ _⟩
  case round =>
    obtain ⟨j, v, rfl, rfl, hj, HW, HC⟩ := hrel
    rcases (by omega : j = c ∨ j < c) with rfl | j5
    · go_wp2
      go_ret2
      refine ⟨v, rfl, ?_, ?_, K.trans HC.out (by simp)⟩
      · have := HW.out.1
        rw [HF.out] at this
        exact this
      · intro q hq
        have h1 := HW.out.2 q hq
        have h2 := K.size
        omega
    · have hR := Lib.hid (fun W => HR.out j W j5)
      have hT := Lib.hid (HT.out j j5)
      have hji : (j : Int) < c := by omega
      have m1 := m.chg0 HC.out
      have D1 := D.chg HC.out (by simp)
      obtain ⟨c0, c1, c2, c3⟩ := blk4 D1
      generalize (es.getD j (0, 0)).1 = y0 at *
      generalize (es.getD j (0, 0)).2 = y1 at *
      go_wp2_with fail
      refine Calls.mono (hR.out _ m1) ?_
      rintro e w5 ⟨rfl, k5⟩
      obtain ⟨x, ex⟩ : ∃ x, w5.heap.size = x := ⟨_, rfl⟩
      have X := Blk.new' w5 32 (evC y0 y1) ex
      have C5 := (HC.out.trans k5 (by simp)).alloc (.cells (evC y0 y1) 32)
      have O5 := own_chg HW.out.1 (k5.alloc (.cells (evC y0 y1) 32)) (by simp)
      have HO5 := Lib.hid O5
      have hs6 : W3.heap.size ≤ w5.heap.size := (HC.out.trans k5 (by simp)).size
      clear c0 c1 c2 c3 m1 D1 k5 O5
      obtain ⟨c0, c1⟩ := blk2 X
      go_wp2_with (at_builtin; refine wpList_app rfl (.tmp 35) (.tmp 37) 23 rfl 32 (evV 0 0) 2 16 Try.underlying23 info_ev rfl (by decide) (by decide) v j (evs (es.take j)) rfl (HO5.out.alloc _) ⟨x + 1, 0, none⟩ 1 1 [.int .i64 y0, .int .i64 y1] rfl rfl (two_new _ _ _ _ (by simp [ex])) (by simp [Value.oneCell']) (by decide) (by omega) ?_; intro q cap1 w7 o7 k7 hq7 lt7)
      have O2 : w7.ownsRow 0 32 2 (.slice (some ⟨q, 0, none⟩) (j + 1) cap1) (j + 1) (evs (es.take (j + 1))) := by
        rw [hT.out]
        exact o7
      have Q2 : ∀ g', (Value.slice (some ⟨q, 0, none⟩) (j + 1) cap1).ownBlock = some g' → W3.heap.size ≤ g' := fun g' hg' => by
        have e : q = g' := by simpa [Value.ownBlock] using hg'
        subst e
        rcases hq7 with h | h
        · exact HW.out.2 q h
        · simp at h; omega
      have C2 : Chg [] W3 w7 := (C5.alloc _).trans k7 (fun s hs => .inr (HW.out.2 s (by simpa using hs)))
      clear hT
      go_roundw
      case rel => exact ⟨j + 1, _, by go_num, rfl, by omega, ⟨O2, Q2⟩, C2⟩
      case measure => simp [intOf]; omega
end Go.Proofs.Ytbjiecpkalcfeaa.RingAll
