/- Package palanquinref02: New. -/
import Derived.Test.YtknbeklplmhheaaRef02b
import Derived.Lib.Hide
namespace Go.Proofs.Ytknbeklplmhheaa.Ref02
open Go Go.RowKit Go.Proofs.Ytknbeklplmhheaa.Heap Go.Proofs.Ytknbeklplmhheaa.Mem

theorem frL_rep {m j : Nat} (hj : j < m) : frL (List.replicate (36 * m) (0 : Int)) j = List.replicate 36 0 := by
  apply List.ext_getElem?
  intro i
  rw [frL_getE, List.getElem?_replicate, List.getElem?_replicate]
  by_cases h : i < 36
  · rw [if_pos h, if_pos h, if_pos (by omega)]
  · rw [if_neg h, if_neg h]
theorem not_in {w : World} {e g t size n : Nat} {v : Value} {xs : List Value} {cs : Array Value} (h : w.ownsRow 0 e size v n xs) (hb : Blk w g t cs) (hne : e ≠ t) : g ∉ v.ownBlock.toList := fun hm => by
  have := own_ne h hb hne
  cases hv : v.ownBlock with
  | none => rw [hv] at hm; simp at hm
  | some z => rw [hv] at hm this; simp at hm this; exact this hm.symm
theorem RM.push {w2 w3 : World} {B p k q capq : Nat} {v : Value} {bs : List (Nat × Nat)} {b : Nat × Nat} (R : RM w2 B p v k bs (List.replicate (36 * k) 0)) (hu : w2.ownsRow 0 36 1 (rowV b) 36 (nums .u64 (List.replicate 36 0)))
    (hnew : ∀ c, c ∈ bs → c.1 ≠ b.1) (hB : B ≤ b.1) (o : Obj) (k3 : Chg v.ownBlock.toList (w2.alloc o) w3) (o3 : w3.ownsRow 0 47 1 (.slice (some ⟨q, 0, none⟩) (k + 1) capq) (k + 1) (bs.map rowV ++ [rowV b])) (hq : v.ownBlock = some q ∨ (w2.alloc o).heap.size ≤ q) (hBs : B ≤ w2.heap.size) :
    RM (w3.setCell ⟨p, 0, none⟩ (.slice (some ⟨q, 0, none⟩) (k + 1) capq)) B p (.slice (some ⟨q, 0, none⟩) (k + 1) capq) (k + 1) (bs ++ [b]) (List.replicate (36 * (k + 1)) 0) := by
  have hp3 : Blk w3 p 134 #[v] := (R.hd.alloc o).chg k3 (not_in (R.own.alloc o) (R.hd.alloc o) (by decide))
  have hqp : q ≠ p := fun e => own_ne o3 hp3 (by decide) (by rw [e]; rfl)
  have KS : Chg [p] w3 (w3.setCell ⟨p, 0, none⟩ (.slice (some ⟨q, 0, none⟩) (k + 1) capq)) := (Chg.refl _ w3).setCell (p := ⟨p, 0, none⟩) (by simp) _
  have row : ∀ c xs, w2.ownsRow 0 36 1 (rowV c) 36 xs → (w3.setCell ⟨p, 0, none⟩ (.slice (some ⟨q, 0, none⟩) (k + 1) capq)).ownsRow 0 36 1 (rowV c) 36 xs := fun c xs hc => by
    have h1 : (w2.alloc o).ownsRow 0 36 1 (rowV c) 36 xs := hc.alloc o
    obtain ⟨cs, hcb⟩ := own_blk h1
    have h2 : w3.ownsRow 0 36 1 (rowV c) 36 xs := own_chg h1 k3 (fun g hg => by
      have : c.1 = g := by simpa [Value.ownBlock] using hg
      subst this
      exact not_in (R.own.alloc o) hcb (by decide))
    obtain ⟨cs2, hcb2⟩ := own_blk h2
    exact own_chg h2 KS (fun g hg => by
      have : c.1 = g := by simpa [Value.ownBlock] using hg
      subst this
      simpa using Blk.ne_ hcb2 hp3 (by decide))
  have hl := R.blen
  refine ⟨by simp, hp3.set_ 0 _, ?_, ?_, ?_, R.fp, ?_, ?_⟩
  · have := own_chg o3 KS (fun g hg => by
      have : q = g := by simpa [Value.ownBlock] using hg
      subst this
      simpa using hqp)
    simpa using this
  · intro j c hj
    have hjk : j < k + 1 := by
      have := (List.getElem?_eq_some_iff.1 hj).1
      simp at this; omega
    rw [frL_rep hjk]
    rcases Nat.lt_or_ge j k with hjl | hjl
    · rw [List.getElem?_append_left (by omega)] at hj
      have := R.rows j c hj
      rw [frL_rep hjl] at this
      exact row c _ this
    · obtain rfl : j = k := by omega
      rw [List.getElem?_append_right (by omega), hl] at hj
      obtain rfl : b = c := by simpa using hj
      exact row b _ hu
  · rw [List.map_append, List.nodup_append]
    refine ⟨R.dis, by simp, ?_⟩
    intro x hx y hy
    simp at hy
    subst hy
    obtain ⟨c, hc, rfl⟩ := List.mem_map.1 hx
    exact hnew c hc
  · intro g hg
    have : q = g := by simpa [Value.ownBlock] using hg
    subst this
    rcases hq with h | h
    · exact R.fv _ h
    · simp at h; omega
  · intro c hc
    rcases List.mem_append.1 hc with h | h
    · exact R.fb c h
    · simp at h; subst h; exact hB

theorem info_row : (Try.prog.info? 47).map (fun i => (i.zero, i.size, i.bytes)) = some (some (.slice none 0 0), 1, 24) := by kernel_rfl
theorem one_new (w : World) (v : Value) (t : TypeId) : ∀ j u, [v][j]? = some u → (w.alloc (.cells #[v] t)).cell? ((⟨w.heap.size, 0, none⟩ : Addr).add j) = some u := by
  intro j u hu
  have hj : j = 0 := by
    have := (List.getElem?_eq_some_iff.1 hu).1
    simp at this
    exact this
  subst hj
  rw [add_plain, (Blk.new w t #[v]).cell]
  simpa using hu
set_option maxHeartbeats 4000000 in
set_option maxRecDepth 100000 in
theorem new_ok (n : Nat) (h1 : 1 ≤ n) (h2 : n ≤ 64) (w : World) : Calls Try.prog 73 #[.int .i64 n] w fun e w' => ∃ p v bs, e = .returned (.tuple #[.pointer (some ⟨p, 0, none⟩), .int .i64 0]) ∧ RM w' w.heap.size p v n bs (List.replicate (36 * n) 0) ∧ Chg [] w w' := by
  obtain ⟨W, eW⟩ : ∃ W, w.heap.size = W := ⟨_, rfl⟩
  have HW : Hid (w.heap.size = W) := eW
  have B0 := Blk.new' w 134 #[.slice none 0 0] eW
  have K0 := (Chg.refl [] w).alloc (.cells #[.slice none 0 0] 134)
  rw [eW]
  have R0 : RM (w.alloc (.cells #[.slice none 0 0] 134)) W W (.slice none 0 0) 0 [] (List.replicate (36 * 0) 0) :=
    ⟨by simp, B0, World.ownsRow_nil _ _ _ _, fun j b hb => by simp at hb, by simp, Nat.le_refl _, fun g hg => by simp [Value.ownBlock] at hg, fun b hb => by simp at hb⟩
  clear B0
  go_enter Try.func73, Try.ntmps73
  go_wp2_with fail
  go_loopw [5] (fun i wr => ∃ (k : Nat) (v : Value) (bs : List (Nat × Nat)), k ≤ n ∧ i = .int .i64 k ∧ RM wr W W v k bs (List.replicate (36 * k) 0) ∧ Chg [] w wr) (fun i _ => n - (intOf i).toNat)
  case atStart =>
    exact ⟨0, _, [], Nat.zero_le _, rfl, R0, K0⟩
  case round =>
    clear R0 K0
    obtain ⟨k, v, bs, hk, rfl, R, K⟩ := hrel
    by_cases hlt : k < n
    · obtain ⟨wo, rfl⟩ : ∃ wo : World, wo = wr := ⟨_, rfl⟩
      go_wp2_with fail
      go_loopw [6, 7] (fun x i wr => ∃ (u : Value) (j : Nat), u = x ∧ j ≤ 36 ∧ i = .int .i64 j ∧ wr.ownsRow 0 36 1 u j (nums .u64 (List.replicate j 0)) ∧ (∀ g, u.ownBlock = some g → wo.heap.size ≤ g) ∧ Chg [] wo wr) (fun _ i _ => 36 - (intOf i).toNat)
      case atStart => exact ⟨_, 0, rfl, Nat.zero_le _, rfl, World.ownsRow_nil _ _ _ _, fun g hg => by simp [Value.ownBlock] at hg, Chg.refl _ _⟩
      case round =>
        obtain ⟨u, j, rfl, hj, rfl, hu, hf, KK⟩ := hrel
        by_cases hjt : j < 36
        · have HU := Lib.hid hu
          have HF : Hid _ := hf
          clear hu hf
          go_wp2_with (at_builtin; refine wpList_app rfl (.tmp 25) (.tmp 26) 47 rfl 36 (.int .u64 0) 1 8 Try.underlying47 info_u64' rfl (by decide) (by decide) u j _ rfl (HU.out.alloc _) ⟨wr.heap.size, 0, none⟩ 1 1 [.int .u64 0] rfl rfl (one_new wr _ _) (by simp [Value.oneCell']) (by decide) (by omega) ?_; intro g cap w1 o1 k1 hg1 lt1)
          have e : nums .u64 (List.replicate j 0) ++ [Value.int .u64 0] = nums .u64 (List.replicate (j + 1) 0) := by
            rw [List.replicate_succ']; simp [nums]
          rw [e] at o1
          go_roundw
          case rel =>
            refine ⟨_, j + 1, rfl, by omega, by go_num, o1, ?_, (KK.alloc _).trans k1 ?_⟩
            · intro y hy
              have hy' : g = y := by simpa [Value.ownBlock] using hy
              subst hy'
              rcases hg1 with h | h
              · exact HF.out _ h
              · have := KK.size; simp at h; omega
            · intro y hy
              right
              cases hv : u.ownBlock with
              | none => rw [hv] at hy; simp at hy
              | some z => rw [hv] at hy; simp at hy; subst hy; exact HF.out _ hv
          case measure => simp [intOf]; omega
        · obtain rfl : j = 36 := by omega
          obtain ⟨g, cap, rfl, -, -⟩ := hu.form (by decide)
          have R2 := R.chg0 KK
          have K2 := K.trans KK (by simp)
          have hnew : ∀ c, c ∈ bs → c.1 ≠ g := fun c hc e => by
            have hg := hf g rfl
            obtain ⟨i, hi⟩ := List.getElem?_of_mem hc
            obtain ⟨cs, hb⟩ := own_blk (R.rows i c hi)
            have := hb.lt
            omega
          have hBg : W ≤ g := by have := hf g rfl; have := K.size; rw [eW] at this; omega
          have hBs : W ≤ wr.heap.size := by have := K2.size; rw [eW] at this; exact this
          have HR : Hid _ := R2
          have HN : Hid _ := hnew
          have HU := Lib.hid hu
          have cp := R2.head
          have HT : Hid (∀ w3, Chg v.ownBlock.toList (wr.alloc (.cells #[rowV (g, cap)] 47)) w3 → Blk w3 W 134 #[v]) := fun w3 k3 =>
            (R2.hd.alloc (.cells #[rowV (g, cap)] 47)).chg k3 (not_in (R2.own.alloc (.cells #[rowV (g, cap)] 47)) (R2.hd.alloc (.cells #[rowV (g, cap)] 47)) (by decide))
          clear R2 hnew hu hf R K KK
          go_wp2_with (at_builtin; refine wpList_app rfl (.tmp 32) (.tmp 34) 132 rfl 47 (.slice none 0 0) 1 24 Try.underlying132 info_row rfl (by decide) (by decide) v k _ rfl (HR.out.own.alloc _) ⟨wr.heap.size, 0, none⟩ 1 1 [rowV (g, cap)] rfl rfl (one_new wr _ _) (by simp [Value.oneCell']) (by decide) (by omega) ?_; intro q capq w3 o3 k3 hq3 lt3; have hp3 := HT.out _ k3; have c3 : w3.cell? ⟨W, 0, none⟩ = some v := hp3.cell 0; have z3 := hp3.frozen 0)
          have P := HR.out.push (b := (g, cap)) HU.out HN.out hBg _ k3 o3 hq3 hBs
          have KS : Chg [] w w3 := (K2.alloc _).trans k3 (fun y hy => by
            right
            cases hv : v.ownBlock with
            | none => rw [hv] at hy; simp at hy
            | some z => rw [hv] at hy; simp at hy; subst hy; rw [eW]; exact HR.out.fv _ hv)
          have KS2 := KS.setCell (p := ⟨W, 0, none⟩) (.inr (by show w.heap.size ≤ W; omega)) (.slice (some ⟨q, 0, none⟩) (k + 1) capq)
          have HP : Hid _ := P
          clear P
          go_wp2
          go_roundw
          case rel => exact ⟨k + 1, _, _, by omega, by go_num, HP.out, KS2⟩
          case measure => simp [intOf]; omega
    · obtain rfl : k = n := by omega
      go_wp2
      go_ret2
      exact ⟨W, v, bs, rfl, R, K⟩
set_option maxRecDepth 100000 in
theorem new_no (n : Int) (h1 : ¬ (1 ≤ n ∧ n ≤ 64)) (w : World) : Calls Try.prog 73 #[.int .i64 n] w fun e w' => e = .returned (.tuple #[.pointer none, .int .i64 1]) ∧ w = w' := by
  by_cases h : n < 1
  · clear h1
    go_enter Try.func73, Try.ntmps73
    go_wp2
    go_ret2
    exact ⟨rfl, rfl⟩
  · have h' : 64 < n := by omega
    clear h1
    go_enter Try.func73, Try.ntmps73
    go_wp2
    go_ret2
    exact ⟨rfl, rfl⟩
end Go.Proofs.Ytknbeklplmhheaa.Ref02
