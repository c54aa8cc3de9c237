/- Package mem: Copy and Same. -/
import Derived.Test.YtknbeklplmhheaaMem
import Derived.StillTailTactics
import Derived.Outline
namespace Go.Proofs.Ytknbeklplmhheaa.Mem
open Go Go.RowKit Go.Proofs.Ytknbeklplmhheaa.Heap

/-- A row that is read while the world stands still. -/
theorem still_load_mid {P : Program} {o : Oper} {a : Act} {w : World} {K : Act → Prop} (ty : TypeId) (x : Operand) (ho : o.op = .load ty x)
    (b off : Nat) (hx : a.eval x = .pointer (some ⟨b, off, none⟩)) (cs : List Value) (d : TypeDesc) (hc : w.rangeAt b off cs)
    (hu : P.underlying ty = some d) (hd : d.isRow = true) (hi : (P.info? ty).map (·.size) = some cs.length) (h : K (a.put o.dst (.agg cs.toArray))) : o.still P a w K := by
  unfold Oper.still execOp
  simp only [ho, hx, Instr.loadAt, Instr.sureAddr, Sem.run_bind, Sem.run_pure, Result.andThen_ok, run_loadVar_mid w b off ty cs d hc hu hd hi]
  exact ⟨rfl, h⟩
/-- The words behind a copy of a frame. -/
def cpL (n : Nat) (L : List Int) (f t : Int) : List Int := if (0 ≤ f ∧ f < n) ∧ (0 ≤ t ∧ t < n) then setF L t.toNat (frL L f.toNat) else L
def cpE (n : Nat) (f t : Int) : Int := if (0 ≤ f ∧ f < n) ∧ (0 ≤ t ∧ t < n) then 0 else 1
theorem range_eq : ∀ (xs ys : List Int), xs.length = ys.length → ((List.range xs.length).all fun i => xs.getD i 0 == ys.getD i 0) = decide (xs = ys)
  | [], [], _ => rfl
  | x :: xs, y :: ys, h => by
    have ih := range_eq xs ys (by simpa using h)
    rw [List.length_cons, List.range_succ_eq_map, List.all_cons, List.all_map]
    simp only [List.getD_cons_zero, Function.comp_def, List.getD_cons_succ, ih]
    rw [Bool.eq_iff_iff]
    simp
  | [], _ :: _, h => by simp at h
  | _ :: _, [], h => by simp at h
section
variable {P : Program} (w : World)
/-- Two arrays of whole numbers are the same just if they are, place by place. -/
theorem equalIn_nums (d : Nat) (t e : TypeId) (k : IntKind) (n : Nat) (ht : P.underlying t = some (.array n e)) (he : P.underlying e = some (.int k)) (hsz : ∀ w, (sizeOf e).run P w = .ok 1 w)
    (xs ys : List Int) (hx : xs.length = n) (hy : ys.length = n) :
    (Op.equalIn (d + 2) t (.agg (nums k xs).toArray) (.agg (nums k ys).toArray)).run P w = .ok (decide (xs = ys)) w := by
  rw [← range_eq xs ys (hx.trans hy.symm), hx, List.range_eq_range', Op.equalIn]
  simp only [Sem.run_bind, run_underlying ht, Result.andThen_ok, hsz, Std.Legacy.Range.forIn_eq_forIn_range', Std.Legacy.Range.size, Nat.sub_zero, Nat.add_sub_cancel, Nat.div_one]
  have hl : ∀ i ∈ List.range' 0 n 1, i < n := fun i hi => by simpa using (List.mem_range'_1.1 hi).2
  generalize List.range' 0 n 1 = l at hl ⊢
  induction l with
  | nil => simp
  | cons i l ih =>
    have hi : i < n := hl i (by simp)
    have px : (part e (nums k xs).toArray (i * 1)).run P w = .ok (.int k (xs.getD i 0)) w := by
      simp [part, isAgg, run_underlying he, nums, List.getD, List.getElem?_eq_getElem (show i < xs.length by omega)]
    have py : (part e (nums k ys).toArray (i * 1)).run P w = .ok (.int k (ys.getD i 0)) w := by
      simp [part, isAgg, run_underlying he, nums, List.getD, List.getElem?_eq_getElem (show i < ys.length by omega)]
    have pe : (Op.equalIn (d + 1) e (.int k (xs.getD i 0)) (.int k (ys.getD i 0))).run P w = .ok (xs.getD i 0 == ys.getD i 0) w := run_equalIn_int w d e k k _ _ he
    have ih' := ih (fun j hj => hl j (by simp [hj]))
    simp only [List.forIn_cons, Sem.run_bind, px, py, pe, Result.andThen_ok, List.all_cons]
    cases hb : (xs.getD i 0 == ys.getD i 0)
    · simp
    · simpa using ih'
end
theorem size_u64 (w : World) : (sizeOf 36).run Try.prog w = .ok 1 w := by kernel_rfl
theorem eql_frames (w : World) (xs ys : List Int) (hx : xs.length = 36) (hy : ys.length = 36) :
    (binOp .eql 109 (.agg (nums .u64 xs).toArray) (.agg (nums .u64 ys).toArray)).run Try.prog w = .ok (.bool (decide (xs = ys))) w := by
  rw [run_eql_struct, equalIn_nums w 9998 109 36 .u64 36 Try.underlying109 Try.underlying36 size_u64 xs ys hx hy]
  rfl
/-- Have two frames the same words? -/
def smB (n : Nat) (L : List Int) (f t : Int) : Bool := decide (0 ≤ f ∧ f < n) && decide (0 ≤ t ∧ t < n) && decide (frL L f.toNat = frL L t.toNat)
set_option maxHeartbeats 1000000 in
set_option maxRecDepth 100000 in
theorem same_ok {w : World} {p g n : Nat} {L : List Int} (h : MemAt w p g n L) (f t : Int) : Calls Try.prog 14 #[.pointer (some ⟨p, 0, none⟩), .int .i64 f, .int .i64 t] w fun e w' => e = .returned (.bool (smB n L f t)) ∧ Chg [] w w' := by
  have h1 := h.pos
  have h2 := h.le
  have HC := can_ok h f 0
  have HD := can_ok h t 0
  rw [canE_zero] at HC HD
  unfold smB canF at *
  by_cases ho : 0 ≤ f ∧ f < n
  · by_cases hp : 0 ≤ t ∧ t < n
    · rw [decide_eq_true ho, decide_eq_true hp, Bool.true_and, Bool.true_and]
      rw [if_pos ho] at HC
      rw [if_pos hp] at HD
      have c := h.head
      have R := h.drew.rangeAt (f := f.toNat) (by omega)
      have R' := h.drew.rangeAt (f := t.toNat) (by omega)
      have hl := frL_len h.len (f := f.toNat) (by omega)
      have hl' := frL_len h.len (f := t.toNat) (by omega)
      have heq := fun w => eql_frames w (frL L f.toNat) (frL L t.toNat) hl hl'
      generalize decide (frL L f.toNat = frL L t.toNat) = T at *
      have HI : Hid ((Try.prog.info? 109).map (·.size) = some (nums .u64 (frL L f.toNat)).length) := by rw [nums_length, hl]; exact info_frame_size
      have HI' : Hid ((Try.prog.info? 109).map (·.size) = some (nums .u64 (frL L t.toNat)).length) := by rw [nums_length, hl']; exact info_frame_size
      have HR : Hid _ := R
      have HR' : Hid _ := R'
      clear R R' hl hl'
      generalize nums .u64 (frL L f.toNat) = N at *
      generalize nums .u64 (frL L t.toNat) = M at *
      obtain ⟨o1, o2⟩ := ho
      obtain ⟨o3, o4⟩ := hp
      clear h
      go_enter Try.func14, Try.ntmps14
      go_wp2_with (first
        | (go_at_call 62; ((with_reducible refine Calls.mono HC ?_); rintro e w1 ⟨rfl, rfl⟩))
        | (go_at_call 62; ((with_reducible refine Calls.mono HD ?_); rintro e w1 ⟨rfl, rfl⟩)))
      refine wp_region_still_lit (by kernel_rfl) (by kernel_rfl) ?_
      repeat still_step
      refine wpStill_step (fun K hK => ?_)
      rw [if_pos (by rfl)]
      refine still_load_mid 109 (.tmp 22) rfl g (f.toNat * 36) rfl N _ HR.out Try.underlying109 rfl HI.out (hK _ ?_)
      clear hK K
      repeat still_step
      refine wpStill_step (fun K hK => ?_)
      rw [if_pos (by rfl)]
      refine still_load_mid 109 (.tmp 29) rfl g (t.toNat * 36) rfl M _ HR'.out Try.underlying109 rfl HI'.out (hK _ ?_)
      clear hK K
      repeat still_step
      refine wpStill_nil ?_
      go_wp2
      go_ret
      exact ⟨rfl, (Chg.refl [] w).drew⟩
    · rw [decide_eq_true ho, decide_eq_false hp]
      rw [if_pos ho] at HC
      rw [if_neg hp] at HD
      clear h ho hp
      go_enter Try.func14, Try.ntmps14
      go_wp2_with fail
      refine Calls.mono HC ?_
      rintro e w1 ⟨rfl, rfl⟩
      go_wp2_with fail
      refine Calls.mono HD ?_
      rintro e w1 ⟨rfl, rfl⟩
      go_wp2
      go_ret
      exact ⟨rfl, Chg.refl _ _⟩
  · rw [decide_eq_false ho]
    rw [if_neg ho] at HC
    clear h ho HD
    go_enter Try.func14, Try.ntmps14
    go_wp2_with fail
    refine Calls.mono HC ?_
    rintro e w1 ⟨rfl, rfl⟩
    go_wp2
    go_ret
    exact ⟨rfl, Chg.refl _ _⟩
end Go.Proofs.Ytknbeklplmhheaa.Mem
