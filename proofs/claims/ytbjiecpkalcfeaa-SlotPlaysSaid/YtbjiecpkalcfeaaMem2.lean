/- Package mem: Copy and Same. -/
import Derived.Test.YtbjiecpkalcfeaaMem
import Derived.StillTailTactics
import Derived.Outline
namespace Go.Proofs.Ytbjiecpkalcfeaa.Mem
open Go Go.RowKit Go.Proofs.Ytbjiecpkalcfeaa.Heap

/-- A row that is read while the world stands still. -/
theorem still_load_mid {P : Program} {o : Oper} {a : Act} {w : World} {K : Act → Prop} (ty : TypeId) (x : Operand) (ho : o.op = .load ty x)
    (b off : Nat) (hx : a.eval x = .pointer (some ⟨b, off, none⟩)) (cs : List Value) (d : TypeDesc) (hc : w.rangeAt b off cs)
    (hu : P.underlying ty = some d) (hd : d.isRow = true) (hi : (P.info? ty).map (·.size) = some cs.length) (h : K (a.put o.dst (.agg cs.toArray))) : o.still P a w K := by
  unfold Oper.still execOp
  simp only [ho, hx, Instr.loadAt, Instr.sureAddr, Sem.run_bind, Sem.run_pure, Result.andThen_ok, run_loadVar_mid w b off ty cs d hc hu hd hi]
  exact ⟨rfl, h⟩
/-- The words behind a copy of a frame. -/
def cpL (n : Nat) (L : List Int) (f t : Int) : List Int := if (0 ≤ f ∧ f < n) ∧ (0 ≤ t ∧ t < n) then setF L t.toNat (frL L f.toNat) else L
def cpE (n : Nat) (f t : Int) : Int := if (0 ≤ f ∧ f < n) ∧ (0 ≤ t ∧ t < n) then 0 else 1
theorem range_eq : ∀ (xs ys : List Int), xs.length = ys.length → ((List.range xs.length).all fun i => xs.getD i 0 == ys.getD i 0) = decide (xs = ys)
  | [], [], _ => rfl
  | x :: xs, y :: ys, h => by
    have ih := range_eq xs ys (by simpa using h)
    rw [List.length_cons, List.range_succ_eq_map, List.all_cons, List.all_map]
    simp only [List.getD_cons_zero, Function.comp_def, List.getD_cons_succ, ih]
    rw [Bool.eq_iff_iff]
    simp
  | [], _ :: _, h => by simp at h
  | _ :: _, [], h => by simp at h
section
variable {P : Program} (w : World)
/-- Two arrays of whole numbers are the same just if they are, place by place. -/
theorem equalIn_nums (d : Nat) (t e : TypeId) (k : IntKind) (n : Nat) (ht : P.underlying t = some (.array n e)) (he : P.underlying e = some (.int k)) (hsz : ∀ w, (sizeOf e).run P w = .ok 1 w)
    (xs ys : List Int) (hx : xs.length = n) (hy : ys.length = n) :
    (Op.equalIn (d + 2) t (.agg (nums k xs).toArray) (.agg (nums k ys).toArray)).run P w = .ok (decide (xs = ys)) w := by
  rw [← range_eq xs ys (hx.trans hy.symm), hx, List.range_eq_range', Op.equalIn]
  simp only [Sem.run_bind, run_underlying ht, Result.andThen_ok, hsz, Std.Legacy.Range.forIn_eq_forIn_range', Std.Legacy.Range.size, Nat.sub_zero, Nat.add_sub_cancel, Nat.div_one]
  have hl : ∀ i ∈ List.range' 0 n 1, i < n := fun i hi => by simpa using (List.mem_range'_1.1 hi).2
  generalize List.range' 0 n 1 = l at hl ⊢
  induction l with
  | nil => simp
  | cons i l ih =>
    have hi : i < n := hl i (by simp)
    have px : (part e (nums k xs).toArray (i * 1)).run P w = .ok (.int k (xs.getD i 0)) w := by
      simp [part, isAgg, run_underlying he, nums, List.getD, List.getElem?_eq_getElem (show i < xs.length by omega)]
    have py : (part e (nums k ys).toArray (i * 1)).run P w = .ok (.int k (ys.getD i 0)) w := by
      simp [part, isAgg, run_underlying he, nums, List.getD, List.getElem?_eq_getElem (show i < ys.length by omega)]
    have pe : (Op.equalIn (d + 1) e (.int k (xs.getD i 0)) (.int k (ys.getD i 0))).run P w = .ok (xs.getD i 0 == ys.getD i 0) w := run_equalIn_int w d e k k _ _ he
    have ih' := ih (fun j hj => hl j (by simp [hj]))
    simp only [List.forIn_cons, Sem.run_bind, px, py, pe, Result.andThen_ok, List.all_cons]
    cases hb : (xs.getD i 0 == ys.getD i 0)
    · simp
    · simpa using ih'
end
theorem size_u64 (w : World) : (sizeOf 102).run Try.prog w = .ok 1 w := by kernel_rfl
theorem eql_frames (w : World) (xs ys : List Int) (hx : xs.length = 36) (hy : ys.length = 36) :
    (binOp .eql 158 (.agg (nums .u64 xs).toArray) (.agg (nums .u64 ys).toArray)).run Try.prog w = .ok (.bool (decide (xs = ys))) w := by
  rw [run_eql_struct, equalIn_nums w 9998 158 102 .u64 36 Try.underlying158 Try.underlying102 size_u64 xs ys hx hy]
  rfl
/-- Have two frames the same words? -/
def smB (n : Nat) (L : List Int) (f t : Int) : Bool := decide (0 ≤ f ∧ f < n) && decide (0 ≤ t ∧ t < n) && decide (frL L f.toNat = frL L t.toNat)
end Go.Proofs.Ytbjiecpkalcfeaa.Mem
