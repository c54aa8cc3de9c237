/- Package thd: can, each, Save, Load. -/
import Derived.Test.YtknbeklplmhheaaThdPut
import Derived.Test.YtknbeklplmhheaaRegs
namespace Go.Proofs.Ytknbeklplmhheaa.ThdRegs
open Go Go.RowKit Go.Proofs.Ytknbeklplmhheaa Go.Proofs.Ytknbeklplmhheaa.Heap Go.Proofs.Ytknbeklplmhheaa.Mem Go.Proofs.Ytknbeklplmhheaa.Two Go.Proofs.Ytknbeklplmhheaa.Head Go.Proofs.Ytknbeklplmhheaa.HeadPut Go.Proofs.Ytknbeklplmhheaa.HeadIs Go.Proofs.Ytknbeklplmhheaa.Lay Go.Proofs.Ytknbeklplmhheaa.Thd Go.Proofs.Ytknbeklplmhheaa.ThdGet Go.Proofs.Ytknbeklplmhheaa.Regs

/-- The words of a frame's registers. -/
def ldR (n : Nat) (L : List Int) (f : Int) : List Int := [ldV n L f 9, ldV n L f 10, ldV n L f 11, ldV n L f 12, ldV n L f 13, ldV n L f 14, ldV n L f 15, ldV n L f 16]
theorem ldR_get (n : Nat) (L : List Int) (f : Int) {i : Nat} (h : i < 8) : (ldR n L f).getD i 0 = ldV n L f (9 + (i : Int)) := by
  rcases (by omega : i = 0 ∨ i = 1 ∨ i = 2 ∨ i = 3 ∨ i = 4 ∨ i = 5 ∨ i = 6 ∨ i = 7) with rfl | rfl | rfl | rfl | rfl | rfl | rfl | rfl <;> rfl
theorem mix_step {l R : List Int} (hl : l.length = 8) (hR : R.length = 8) {i : Nat} (h : i < 8) : (l.take i ++ R.drop i).set i (l.getD i 0) = l.take (i + 1) ++ R.drop (i + 1) := by
  obtain ⟨a0, a1, a2, a3, a4, a5, a6, a7, rfl⟩ := list8 hl
  obtain ⟨b0, b1, b2, b3, b4, b5, b6, b7, rfl⟩ := list8 hR
  rcases (by omega : i = 0 ∨ i = 1 ∨ i = 2 ∨ i = 3 ∨ i = 4 ∨ i = 5 ∨ i = 6 ∨ i = 7) with rfl | rfl | rfl | rfl | rfl | rfl | rfl | rfl <;> rfl
theorem take_step {R : List Int} (hR : R.length = 8) {i : Nat} (h : i < 8) : R.take (i + 1) = R.take i ++ [R.getD i 0] := by
  obtain ⟨b0, b1, b2, b3, b4, b5, b6, b7, rfl⟩ := list8 hR
  rcases (by omega : i = 0 ∨ i = 1 ∨ i = 2 ∨ i = 3 ∨ i = 4 ∨ i = 5 ∨ i = 6 ∨ i = 7) with rfl | rfl | rfl | rfl | rfl | rfl | rfl | rfl <;> rfl
set_option maxRecDepth 100000
set_option maxHeartbeats 2000000
theorem all_zero {w : World} {g : Nat} (hc : w.cell? ⟨g, 8, none⟩ = some (.bool false)) : Calls Try.prog 40 #[.pointer (some ⟨g, 0, none⟩)] w fun e w' => e = .returned (.slice none 0 0) ∧ w = w' := by
  go_enter Try.func40, Try.ntmps40
  go_wp2_with fail
  refine (none_zero hc).mono ?_
  rintro e w' ⟨rfl, rfl⟩
  go_wp2
  go_ret
  exact ⟨rfl, rfl⟩
theorem can_zero (w : World) (P f : Value) {g : Nat} (hc : w.cell? ⟨g, 8, none⟩ = some (.bool false)) : Calls Try.prog 66 #[P, f, .pointer (some ⟨g, 0, none⟩)] w fun x w' => x = .returned (.int .i64 13) ∧ w = w' := by
  go_enter Try.func66, Try.ntmps66
  go_wp2_with fail
  refine (all_zero hc).mono ?_
  rintro e w' ⟨rfl, rfl⟩
  go_wp2
  go_ret
  exact ⟨rfl, rfl⟩
theorem can_nil (w : World) (P f : Value) : Calls Try.prog 66 #[P, f, .pointer none] w fun x w' => x = .returned (.int .i64 13) ∧ w = w' := by
  go_enter Try.func66, Try.ntmps66
  go_wp2_with fail
  refine (all_nil _).mono ?_
  rintro e w' ⟨rfl, rfl⟩
  go_wp2
  go_ret
  exact ⟨rfl, rfl⟩
theorem can_ok {w : World} {p g n q : Nat} {L R : List Int} (h : MemAt w p g n L) (hu : U64 L) (f : Int) (F : File w q R) : Calls Try.prog 66 #[.pointer (some ⟨p, 0, none⟩), .int .i64 f, .pointer (some ⟨q, 0, none⟩)] w fun x w' => x = .returned (.int .i64 (if isE n L f 4 = 0 then 0 else 4)) ∧ Chg [] w w' := by
  have HI := fun (W : World) (q : MemAt W p g n L) => ThdGet.is_ok q hu f
  have K := Chg.refl [] w
  by_cases h1 : isE n L f 4 = 0
  · rw [decide_eq_true h1] at HI
    rw [if_pos h1]
    clear h1 hu
    go_enter Try.func66, Try.ntmps66
    go_wp2_with fail
    refine Calls.mono (all_fresh F) ?_
    rintro e w1 ⟨b, rfl, hb, B, k1⟩
    replace h := h.chg0 k1
    replace K := K.trans k1 (by simp)
    clear k1 B hb F
    go_wp2_with fail
    refine Calls.mono (HI _ h) ?_
    rintro x w2 ⟨rfl, k1⟩
    replace K := K.trans k1 (by simp)
    go_wp2
    go_ret
    exact ⟨rfl, K⟩
  · rw [decide_eq_false h1] at HI
    rw [if_neg h1]
    clear h1 hu
    go_enter Try.func66, Try.ntmps66
    go_wp2_with fail
    refine Calls.mono (all_fresh F) ?_
    rintro e w1 ⟨b, rfl, hb, B, k1⟩
    replace h := h.chg0 k1
    replace K := K.trans k1 (by simp)
    clear k1 B hb F
    go_wp2_with fail
    refine Calls.mono (HI _ h) ?_
    rintro x w2 ⟨rfl, k1⟩
    replace K := K.trans k1 (by simp)
    go_wp2
    go_ret
    exact ⟨rfl, K⟩
/-- Three boxes: a memory, a frame, registers. -/
structure Box (w : World) (bm bf br p q : Nat) (f : Int) : Prop where
  m : Blk w bm 25 #[.pointer (some ⟨p, 0, none⟩)]
  f : Blk w bf 3 #[.int .i64 f]
  r : Blk w br 45 #[.pointer (some ⟨q, 0, none⟩)]
theorem Box.chg {w w' : World} {bm bf br p q s : Nat} {f : Int} {t : TypeId} {cs : Array Value} (h : Box w bm bf br p q f) (S : Blk w s t cs) (h1 : t ≠ 25) (h2 : t ≠ 3) (h3 : t ≠ 45) (k : Chg [s] w w') : Box w' bm bf br p q f :=
  ⟨h.m.chg k (by simpa using Blk.ne_ h.m S h1.symm), h.f.chg k (by simpa using Blk.ne_ h.f S h2.symm), h.r.chg k (by simpa using Blk.ne_ h.r S h3.symm)⟩
theorem Box.chg0 {w w' : World} {bm bf br p q : Nat} {f : Int} (h : Box w bm bf br p q f) (k : Chg [] w w') : Box w' bm bf br p q f := ⟨h.m.chg k (by simp), h.f.chg k (by simp), h.r.chg k (by simp)⟩
theorem save1_ok {w : World} {p g n q bm bf br : Nat} {L R : List Int} {f : Int} (h : MemAt w p g n L) (F : File w q R) (B : Box w bm bf br p q f) (hf : 0 ≤ f ∧ f < n) (i : Int) (hi : 0 ≤ i ∧ i < 8) :
    Calls Try.prog 68 #[.int .i64 i, .pointer (some ⟨br, 0, none⟩), .pointer (some ⟨bm, 0, none⟩), .pointer (some ⟨bf, 0, none⟩)] w fun x w' => x = .returned (.int .i64 0) ∧ MemAt w' p g n (stL n L f (9 + i) (R.getD i.toNat 0)) ∧ Chg [g] w w' := by
  have ew : IntKind.i64.wrap (9 + i) = 9 + i := by rw [IntKind.wrap_i64]; omega
  have HG := Regs.get_ok F i hi.1 hi.2
  generalize R.getD i.toNat 0 = x at *
  have HS := fun (W : World) (q : MemAt W p g n L) => Mem.store_ok q f (9 + i) x
  rw [canE_ok ⟨hf.1, hf.2, by omega, by omega⟩] at HS
  have HS' := Lib.hid HS
  have K := Chg.refl [g] w
  have c0 := B.m.cell 0
  have c1 := B.f.cell 0
  have c2 := B.r.cell 0
  clear HS hi hf F
  go_enter Try.func68, Try.ntmps68
  go_wp2_with fail
  refine Calls.mono HG ?_
  rintro y w1 ⟨rfl, k1⟩
  clear HG c0 c1 c2
  replace B := B.chg0 k1
  replace h := h.chg0 k1
  replace K := K.trans k1 (by simp)
  have c0 := B.m.cell 0
  have c1 := B.f.cell 0
  have c2 := B.r.cell 0
  clear k1
  go_wp2_with fail
  refine Calls.mono (HS'.out _ h) ?_
  rintro y w2 ⟨rfl, m2, k2⟩
  replace K := K.trans k2 (by simp)
  go_wp2
  go_ret
  exact ⟨rfl, m2, K⟩
theorem load1_ok {w : World} {p g n q bm bf br : Nat} {L R : List Int} {f : Int} (h : MemAt w p g n L) (F : File w q R) (B : Box w bm bf br p q f) (hf : 0 ≤ f ∧ f < n) (i : Int) (hi : 0 ≤ i ∧ i < 8) :
    Calls Try.prog 71 #[.int .i64 i, .pointer (some ⟨bm, 0, none⟩), .pointer (some ⟨bf, 0, none⟩), .pointer (some ⟨br, 0, none⟩)] w fun x w' => x = .returned (.int .i64 0) ∧ File w' q (R.set i.toNat (ldV n L f (9 + i))) ∧ Chg [q] w w' := by
  have ew : IntKind.i64.wrap (9 + i) = 9 + i := by rw [IntKind.wrap_i64]; omega
  have HS := Mem.load_ok h f (9 + i)
  rw [canE_ok ⟨hf.1, hf.2, by omega, by omega⟩] at HS
  generalize ldV n L f (9 + i) = x at *
  have HG := Regs.set_ok F i x hi.1 hi.2
  have HS' := Lib.hid HS
  have HG' := Lib.hid HG
  have c0 := B.m.cell 0
  have c1 := B.f.cell 0
  have c2 := B.r.cell 0
  clear HS HG hi hf F h
  go_enter Try.func71, Try.ntmps71
  go_wp2_with fail
  refine Calls.mono HS'.out ?_
  rintro y w1 ⟨rfl, rfl⟩
  clear HS'
  go_wp2_with fail
  refine Calls.mono HG'.out ?_
  rintro y w2 ⟨rfl, m2, k2⟩
  go_wp2
  go_ret
  exact ⟨rfl, m2, k2⟩
theorem each_save {w : World} {p g n q bm bf br : Nat} {L R : List Int} {f : Int} (h : MemAt w p g n L) (F : File w q R) (B : Box w bm bf br p q f) (hf : 0 ≤ f ∧ f < n) :
    Calls Try.prog 67 #[.func (.func 68) #[] #[.pointer (some ⟨br, 0, none⟩), .pointer (some ⟨bm, 0, none⟩), .pointer (some ⟨bf, 0, none⟩)]] w fun x w' => x = .returned (.int .i64 0) ∧ MemAt w' p g n (layL n L f 9 R) ∧ Chg [g] w w' := by
  have hqg : q ≠ g := Blk.ne_ F.2 h.row (by decide)
  have HF := Lib.hid F.1
  have K := Chg.refl [g] w
  go_enter Try.func67, Try.ntmps67
  go_wp2
  go_loopw [5] (fun i wr => ∃ j : Nat, i = .int .i64 j ∧ j ≤ 8 ∧ Hid (MemAt wr p g n (layL n L f 9 (R.take j)) ∧ File wr q R ∧ Box wr bm bf br p q f ∧ Chg [g] w wr)) (fun i _ => 8 - (intOf i).toNat)
  case atStart => exact ⟨0, rfl, by decide, h, F, B, K⟩
  case round =>
    clear h F B K
    obtain ⟨j, rfl, hj, H⟩ := hrel
    obtain ⟨h, F, B, K⟩ := H.out
    clear H
    by_cases h8 : j < 8
    · have HS := save1_ok h F B hf (j : Int) ⟨by omega, by omega⟩
      rw [Int.toNat_natCast] at HS
      have HS' := Lib.hid HS
      have e1 := take_step HF.out h8
      have e2 := layL_snoc n f (R.getD j 0) (R.take j) L 9
      rw [← e1, List.length_take, HF.out, Nat.min_eq_left (by omega)] at e2
      have E := Lib.hid e2
      have hji : (j : Int) < 8 := by omega
      clear HS e1 e2 hf
      go_wp2_with fail
      refine Calls.mono HS'.out ?_
      rintro y w1 ⟨rfl, m1, k1⟩
      clear HS'
      rw [← E.out] at m1
      replace F := F.chg k1 (by simpa using hqg)
      replace B := B.chg h.row (by decide) (by decide) (by decide) k1
      replace K := K.trans k1 (by simp)
      clear k1 h E
      go_wp2
      go_roundw
      case rel => exact ⟨j + 1, by go_num, by omega, m1, F, B, K⟩
      case measure => simp [intOf]; omega
    · obtain rfl : j = 8 := by omega
      have e : R.take 8 = R := List.take_of_length_le (by rw [HF.out]; decide)
      rw [e] at h
      go_wp2
      go_ret
      exact ⟨rfl, h, K⟩
theorem each_load {w : World} {p g n q bm bf br : Nat} {L R : List Int} {f : Int} (h : MemAt w p g n L) (F : File w q R) (B : Box w bm bf br p q f) (hf : 0 ≤ f ∧ f < n) :
    Calls Try.prog 67 #[.func (.func 71) #[] #[.pointer (some ⟨bm, 0, none⟩), .pointer (some ⟨bf, 0, none⟩), .pointer (some ⟨br, 0, none⟩)]] w fun x w' => x = .returned (.int .i64 0) ∧ File w' q (ldR n L f) ∧ Chg [q] w w' := by
  have hqg : q ≠ g := Blk.ne_ F.2 h.row (by decide)
  have hqp : q ≠ p := Blk.ne_ F.2 h.hd (by decide)
  have HF := Lib.hid F.1
  have K := Chg.refl [q] w
  go_enter Try.func67, Try.ntmps67
  go_wp2
  go_loopw [5] (fun i wr => ∃ j : Nat, i = .int .i64 j ∧ j ≤ 8 ∧ Hid (MemAt wr p g n L ∧ File wr q ((ldR n L f).take j ++ R.drop j) ∧ Box wr bm bf br p q f ∧ Chg [q] w wr)) (fun i _ => 8 - (intOf i).toNat)
  case atStart => exact ⟨0, rfl, by decide, h, F, B, K⟩
  case round =>
    clear h F B K
    obtain ⟨j, rfl, hj, H⟩ := hrel
    obtain ⟨h, F, B, K⟩ := H.out
    clear H
    by_cases h8 : j < 8
    · have HS := load1_ok h F B hf (j : Int) ⟨by omega, by omega⟩
      rw [Int.toNat_natCast, ← ldR_get n L f h8, mix_step rfl HF.out h8] at HS
      have HS' := Lib.hid HS
      have hji : (j : Int) < 8 := by omega
      clear HS hf
      go_wp2_with fail
      refine Calls.mono HS'.out ?_
      rintro y w1 ⟨rfl, m1, k1⟩
      clear HS'
      replace h := h.chg k1 (by simpa using hqp.symm) (by simpa using hqg.symm)
      replace B := B.chg F.2 (by decide) (by decide) (by decide) k1
      replace K := K.trans k1 (by simp)
      clear k1 F
      go_wp2
      go_roundw
      case rel => exact ⟨j + 1, by go_num, by omega, h, m1, B, K⟩
      case measure => simp [intOf]; omega
    · obtain rfl : j = 8 := by omega
      have e : (ldR n L f).take 8 ++ R.drop 8 = ldR n L f := by
        rw [List.drop_of_length_le (by rw [HF.out]; decide), List.append_nil]
        rfl
      rw [e] at F
      go_wp2
      go_ret
      exact ⟨rfl, F, K⟩
/-- What the boxes of Save and Load are. -/
theorem boxed (w : World) (p q : Nat) (f : Int) : ∃ bm bf br w', w' = ((w.alloc (.cells #[.pointer (some ⟨p, 0, none⟩)] 25)).alloc (.cells #[.int .i64 f] 3)).alloc (.cells #[.pointer (some ⟨q, 0, none⟩)] 45) ∧ bm = w.heap.size ∧ bf = w.heap.size + 1 ∧ br = w.heap.size + 2 ∧ Box w' bm bf br p q f ∧ Chg [] w w' := by
  refine ⟨_, _, _, _, rfl, rfl, rfl, rfl, ⟨?_, ?_, ?_⟩, (((Chg.refl [] w).alloc _).alloc _).alloc _⟩
  · exact ((Blk.new' w _ _ rfl).alloc _).alloc _
  · exact (Blk.new' _ _ _ (by simp)).alloc _
  · exact Blk.new' _ _ _ (by simp)
theorem save_ok {w : World} {p g n q : Nat} {L R : List Int} (h : MemAt w p g n L) (hu : U64 L) (f : Int) (F : File w q R) :
    Calls Try.prog 16 #[.pointer (some ⟨p, 0, none⟩), .int .i64 f, .pointer (some ⟨q, 0, none⟩)] w fun x w' => x = .returned (.int .i64 (if isE n L f 4 = 0 then 0 else 4)) ∧ MemAt w' p g n (if isE n L f 4 = 0 then layL n L f 9 R else L) ∧ Chg [g] w w' := by
  obtain ⟨bm, bf, br, w1, e1, e2, e3, e4, B, k1⟩ := boxed w p q f
  replace h := h.chg0 k1
  replace F := F.chg k1 (by simp)
  have K := (Chg.refl [g] w).trans k1 (by simp)
  have c0 := B.m.cell 0
  have c1 := B.f.cell 0
  have c2 := B.r.cell 0
  have HC := can_ok h hu f F
  have HI := fun (q : isE n L f 4 = 0) => isE_in q
  generalize isE n L f 4 = e at *
  clear hu k1
  by_cases h1 : e = 0
  · rw [if_pos h1] at HC
    rw [if_pos h1, if_pos h1]
    replace HI := HI h1
    have HC' := Lib.hid HC
    clear HC h1
    subst e1 e2 e3 e4
    go_enter Try.func16, Try.ntmps16
    go_wp2_with fail
    refine Calls.mono HC'.out ?_
    rintro x w2 ⟨rfl, k2⟩
    clear HC' c0 c1 c2
    have HE := each_save (h.chg0 k2) (F.chg k2 (by simp)) (B.chg0 k2) HI
    replace K := K.trans k2 (by simp)
    clear h F B k2 HI
    have HE' := Lib.hid HE
    clear HE
    go_wp2_with fail
    refine Calls.mono HE'.out ?_
    rintro x w3 ⟨rfl, m3, k3⟩
    replace K := K.trans k3 (by simp)
    clear HE' k3
    go_wp2
    go_ret
    exact ⟨rfl, m3, K⟩
  · rw [if_neg h1] at HC
    rw [if_neg h1, if_neg h1]
    have HC' := Lib.hid HC
    clear HC h1 HI
    subst e1 e2 e3 e4
    go_enter Try.func16, Try.ntmps16
    go_wp2_with fail
    refine Calls.mono HC'.out ?_
    rintro x w2 ⟨rfl, k2⟩
    replace h := h.chg0 k2
    replace K := K.trans k2 (by simp)
    clear k2 HC'
    go_wp2
    go_ret
    exact ⟨rfl, h, K⟩
theorem load_ok {w : World} {p g n q : Nat} {L R : List Int} (h : MemAt w p g n L) (hu : U64 L) (f : Int) (F : File w q R) :
    Calls Try.prog 17 #[.pointer (some ⟨p, 0, none⟩), .int .i64 f, .pointer (some ⟨q, 0, none⟩)] w fun x w' => x = .returned (.int .i64 (if isE n L f 4 = 0 then 0 else 4)) ∧ File w' q (if isE n L f 4 = 0 then ldR n L f else R) ∧ Chg [q] w w' := by
  obtain ⟨bm, bf, br, w1, e1, e2, e3, e4, B, k1⟩ := boxed w p q f
  replace h := h.chg0 k1
  replace F := F.chg k1 (by simp)
  have K := (Chg.refl [q] w).trans k1 (by simp)
  have c0 := B.m.cell 0
  have c1 := B.f.cell 0
  have c2 := B.r.cell 0
  have HC := can_ok h hu f F
  have HI := fun (q : isE n L f 4 = 0) => isE_in q
  generalize isE n L f 4 = e at *
  clear hu k1
  by_cases h1 : e = 0
  · rw [if_pos h1] at HC
    rw [if_pos h1, if_pos h1]
    replace HI := HI h1
    have HC' := Lib.hid HC
    clear HC h1
    subst e1 e2 e3 e4
    go_enter Try.func17, Try.ntmps17
    go_wp2_with fail
    refine Calls.mono HC'.out ?_
    rintro x w2 ⟨rfl, k2⟩
    clear HC' c0 c1 c2
    have HE := each_load (h.chg0 k2) (F.chg k2 (by simp)) (B.chg0 k2) HI
    replace K := K.trans k2 (by simp)
    clear h F B k2 HI
    have HE' := Lib.hid HE
    clear HE
    go_wp2_with fail
    refine Calls.mono HE'.out ?_
    rintro x w3 ⟨rfl, m3, k3⟩
    replace K := K.trans k3 (by simp)
    clear HE' k3
    go_wp2
    go_ret
    exact ⟨rfl, m3, K⟩
  · rw [if_neg h1] at HC
    rw [if_neg h1, if_neg h1]
    have HC' := Lib.hid HC
    clear HC h1 HI
    subst e1 e2 e3 e4
    go_enter Try.func17, Try.ntmps17
    go_wp2_with fail
    refine Calls.mono HC'.out ?_
    rintro x w2 ⟨rfl, k2⟩
    replace F := F.chg k2 (by simp)
    replace K := K.trans k2 (by simp)
    clear k2 HC'
    go_wp2
    go_ret
    exact ⟨rfl, F, K⟩
/-- Registers that nobody made. -/
theorem save_nil (w : World) (f : Int) (p : Nat) : Calls Try.prog 16 #[.pointer (some ⟨p, 0, none⟩), .int .i64 f, .pointer none] w fun x w' => x = .returned (.int .i64 13) ∧ Chg [] w w' := by
  have K := (((Chg.refl [] w).alloc (.cells #[.pointer (some ⟨p, 0, none⟩)] 25)).alloc (.cells #[.int .i64 f] 3)).alloc (.cells #[.pointer none] 45)
  go_enter Try.func16, Try.ntmps16
  go_wp2_with fail
  refine Calls.mono (can_nil _ _ _) ?_
  rintro x w2 ⟨rfl, rfl⟩
  go_wp2
  go_ret
  exact ⟨rfl, K⟩
theorem load_zero {w : World} (f : Int) (p : Nat) {q t : Nat} {a0 a1 a2 a3 a4 a5 a6 a7 : Value} (F : Blk w q t #[a0, a1, a2, a3, a4, a5, a6, a7, .bool false]) : Calls Try.prog 17 #[.pointer (some ⟨p, 0, none⟩), .int .i64 f, .pointer (some ⟨q, 0, none⟩)] w fun x w' => x = .returned (.int .i64 13) ∧ Chg [] w w' := by
  have K := (((Chg.refl [] w).alloc (.cells #[.pointer (some ⟨p, 0, none⟩)] 25)).alloc (.cells #[.int .i64 f] 3)).alloc (.cells #[.pointer (some ⟨q, 0, none⟩)] 45)
  have F2 := ((F.alloc (.cells #[.pointer (some ⟨p, 0, none⟩)] 25)).alloc (.cells #[.int .i64 f] 3)).alloc (.cells #[.pointer (some ⟨q, 0, none⟩)] 45)
  have c8 := F2.cell 8
  clear F F2
  go_enter Try.func17, Try.ntmps17
  go_wp2_with fail
  refine Calls.mono (can_zero _ _ _ c8) ?_
  rintro x w2 ⟨rfl, rfl⟩
  go_wp2
  go_ret
  exact ⟨rfl, K⟩
end Go.Proofs.Ytknbeklplmhheaa.ThdRegs
