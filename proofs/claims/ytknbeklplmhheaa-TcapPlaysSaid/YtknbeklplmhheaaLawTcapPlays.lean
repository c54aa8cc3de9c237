/- Any acts on budgets in frames of any words: all that is told behind each act is as the document's answer says; no conditions beyond the statement's own.
 -/
import Derived.Test.YtknbeklplmhheaaRows
import Derived.Test.YtknbeklplmhheaaTcapPlays
import Derived.Test.YtknbeklplmhheaaOpenRecs
import Derived.Test.YtknbeklplmhheaaOpen
import Derived.WalkKit
import Derived.ProofKit
import Derived.OpenShut
import Derived.ShutString
import Derived.ChangeOld
import Derived.Below
import Derived.SizedLaws
import Derived.Lib.SmallJoins
namespace Go.Proofs.Ytknbeklplmhheaa.tcapPlays
open Go.ChangeShapes Go.WideShapes Go.ChangeAt Go.RowKit Go.Proofs.Ytknbeklplmhheaa.Heap Go.Proofs.Ytknbeklplmhheaa.Open Go.Proofs.Ytknbeklplmhheaa
open Go.ChangeMaps (open_string shut_string)
set_option linter.unusedVariables false
theorem own : ownKnob Try.prog.godebug = none := by kernel_rfl
theorem laidOut : laidOutB Try.prog = true := by kernel_rfl
set_option maxRecDepth 100000 in
theorem lifted (os : Os) (started : os.Started) (H : Type) (enc : TypeId × Value → H) :
    ReturnsInHanded {} Try.checked os 5 .any (Rows.tcapPlaysSpec.pre6 enc Try.prog Try.f5 Rows.tcapPlaysRow.domain false) (Rows.tcapPlaysSpec.post enc Try.prog Try.f5 false true false false) := by
  refine returnsInHanded_of_change_sized (C := Try.checked) own started (by kernel_rfl) Try.func5
    (ChangeSpec.witness6 (enc := enc) (C := Try.checked) false ⟨#[], #[.slice none 0 0, .slice none 0 0, .slice none 0 0, .slice none 0 0, .slice none 0 0, .slice none 0 0], []⟩ 8 (by kernel_rfl) (by kernel_rfl) (by kernel_rfl) (by kernel_rfl)) ?_
  intro W base args ds gs before hval0 hW hcnd hsz0 _
  have hsz : (DataW.weightsEach Try.prog (Try.f5.params.toList ++ Rows.tcapPlaysSpec.plain.varTypes Try.prog) (ds ++ gs)).all (· ≤ reachBytes) = true := hsz0
  have hval : ∀ (j : Nat) t v, Try.f5.params[j]? = some t → args[j]? = some v → Value.okWide Try.prog W .any base t v := hval0
  have hW' := hW
  obtain ⟨p, q, hA0, hV, rfl, hfz, hnd⟩ := hW
  have hA : DataW.TrodAll enc Try.prog W 0 (fun _ => true) true Try.f5.params.toList args.toList ds p := hA0
  rw [Try.params5] at hA hval hsz
  obtain ⟨v0, vs0, d0, ds0, p0, q0, hargs, rfl, rfl, h0, r0⟩ := trodAll_cons hA
  obtain ⟨v1, vs1, d1, ds1, p1, q1, rfl, rfl, rfl, h1, r1⟩ := trodAll_cons r0
  obtain ⟨v2, vs2, d2, ds2, p2, q2, rfl, rfl, rfl, h2, r2⟩ := trodAll_cons r1
  obtain ⟨v3, vs3, d3, ds3, p3, q3, rfl, rfl, rfl, h3, r3⟩ := trodAll_cons r2
  obtain ⟨v4, vs4, d4, ds4, p4, q4, rfl, rfl, rfl, h4, r4⟩ := trodAll_cons r3
  obtain ⟨v5, vs5, d5, ds5, p5, q5, rfl, rfl, rfl, h5, r5⟩ := trodAll_cons r4
  obtain ⟨rfl, rfl, rfl⟩ := trodAll_nil r5
  obtain rfl : args = #[v0, v1, v2, v3, v4, v5] := by cases args; simp_all
  obtain ⟨rfl, rfl⟩ := trodVars_none hV
  obtain ⟨A0, len0, cap0, rfl⟩ := okWide_slice Try.underlying47 (hval 0 47 v0 rfl rfl)
  have lt0 : ∀ x ∈ p0, x.block < W.heap.size := by obtain ⟨m, hm⟩ := h0; exact DataW.trod_lt m _ _ _ hm
  obtain ⟨xs0, z0, w0, y0⟩ := open_nums (B := 8) hsz (j := 0) (t := 47) rfl rfl Try.underlying47 Try.underlying36 (by kernel_rfl) (by kernel_rfl) (by decide) h0
  obtain ⟨A1, len1, cap1, rfl⟩ := okWide_slice Try.underlying48 (hval 1 48 v1 rfl rfl)
  have lt1 : ∀ x ∈ p1, x.block < W.heap.size := by obtain ⟨m, hm⟩ := h1; exact DataW.trod_lt m _ _ _ hm
  obtain ⟨xs1, z1, w1, y1⟩ := open_nums (B := 1) hsz (j := 1) (t := 48) rfl rfl Try.underlying48 Try.underlying5 (by kernel_rfl) (by kernel_rfl) (by decide) h1
  obtain ⟨A2, len2, cap2, rfl⟩ := okWide_slice Try.underlying49 (hval 2 49 v2 rfl rfl)
  have lt2 : ∀ x ∈ p2, x.block < W.heap.size := by obtain ⟨m, hm⟩ := h2; exact DataW.trod_lt m _ _ _ hm
  obtain ⟨xs2, z2, w2, y2⟩ := open_nums (B := 8) hsz (j := 2) (t := 49) rfl rfl Try.underlying49 Try.underlying3 (by kernel_rfl) (by kernel_rfl) (by decide) h2
  obtain ⟨A3, len3, cap3, rfl⟩ := okWide_slice Try.underlying49 (hval 3 49 v3 rfl rfl)
  have lt3 : ∀ x ∈ p3, x.block < W.heap.size := by obtain ⟨m, hm⟩ := h3; exact DataW.trod_lt m _ _ _ hm
  obtain ⟨xs3, z3, w3, y3⟩ := open_nums (B := 8) hsz (j := 3) (t := 49) rfl rfl Try.underlying49 Try.underlying3 (by kernel_rfl) (by kernel_rfl) (by decide) h3
  obtain ⟨A4, len4, cap4, rfl⟩ := okWide_slice Try.underlying50 (hval 4 50 v4 rfl rfl)
  have lt4 : ∀ x ∈ p4, x.block < W.heap.size := by obtain ⟨m, hm⟩ := h4; exact DataW.trod_lt m _ _ _ hm
  have z4 := OpenRecs.recs_of hsz (q := 4) (t := 50) rfl rfl Try.underlying50 Try.underlying23 (by kernel_rfl) (by kernel_rfl) (B := 24) (by kernel_rfl) (by decide) [none, some .i64, some .i64] rfl (fun j f hf => by rcases j with _ | _ | _ | j <;> first | (simp at hf; subst hf; exact ⟨none, rfl, Try.underlying4⟩) | (simp at hf; subst hf; exact ⟨some .i64, rfl, Try.underlying3⟩) | (simp at hf)) h4
  obtain ⟨A5, len5, cap5, rfl⟩ := okWide_slice Try.underlying49 (hval 5 49 v5 rfl rfl)
  have lt5 : ∀ x ∈ p5, x.block < W.heap.size := by obtain ⟨m, hm⟩ := h5; exact DataW.trod_lt m _ _ _ hm
  obtain ⟨xs5, z5, w5, y5⟩ := open_nums (B := 8) hsz (j := 5) (t := 49) rfl rfl Try.underlying49 Try.underlying3 (by kernel_rfl) (by kernel_rfl) (by decide) h5
  clear hA0 hval0 hsz0 hsz
  refine (TcapPlays.tcapPlays_walk A0 len0 cap0 xs0 A1 len1 cap1 xs1 A2 len2 cap2 xs2 A3 len3 cap3 xs3 A4 len4 cap4 A5 len5 cap5 xs5 W z0 (fun x hx => Bits.wf_u64 (w0 x hx)) z1 (fun x hx => (Bits.wf_u8 (w1 x hx)).1) z2 z3 z4 z5).mono fun e W' ⟨he, chg⟩ => ?_
  subst he
  have bel : Below W.heap.size W W' := chg.below (fun x hx => by cases hx) (Nat.le_refl _)
  exact ⟨_, rfl, _, _, _, [], _, [], hW', trodAll_mk1 (shut_bool Try.underlying4 _), (trodAll_cons_mk (Below.trod laidOut (by kernel_rfl) (of_decide_eq_true (by kernel_rfl)) h0 bel lt0) (trodAll_cons_mk (Below.trod laidOut (by kernel_rfl) (of_decide_eq_true (by kernel_rfl)) h1 bel lt1) (trodAll_cons_mk (Below.trod laidOut (by kernel_rfl) (of_decide_eq_true (by kernel_rfl)) h2 bel lt2) (trodAll_cons_mk (Below.trod laidOut (by kernel_rfl) (of_decide_eq_true (by kernel_rfl)) h3 bel lt3) (trodAll_cons_mk (Below.trod laidOut (by kernel_rfl) (of_decide_eq_true (by kernel_rfl)) h4 bel lt4) (trodAll_cons_mk (Below.trod laidOut (by kernel_rfl) (of_decide_eq_true (by kernel_rfl)) h5 bel lt5) trodAll_mk0)))))), rfl, bel.frame _, fun h => by cases h⟩
theorem over : Rows.tcapPlaysRow.holds Try.pinned (OpenSpec.ofChange Rows.tcapPlaysSpec) :=
  OpenClaim.holds_of_wide 5 Try.f5 rfl rfl rfl rfl rfl rfl rfl ⟨rfl, rfl, rfl, rfl, rfl⟩ rfl rfl rfl rfl rfl (by kernel_rfl) Try.func5 (by kernel_rfl)
    (of_decide_eq_true (by kernel_rfl)) (by unfold Func.isWrapper; first | (rw [if_pos (by decide +kernel)]; kernel_rfl) | (rw [if_neg (by decide +kernel)]; exact ⟨rfl, rfl⟩))
    (fun os started H enc _ => lifted os started H enc)
theorem proved : Rows.TcapPlaysSaid := over
#print axioms proved
end Go.Proofs.Ytknbeklplmhheaa.tcapPlays
namespace Go.Proofs.Ytknbeklplmhheaa
/-- The row, under a short name, for the claim. -/
theorem tcapPlays_holds : Rows.TcapPlaysSaid := tcapPlays.proved
end Go.Proofs.Ytknbeklplmhheaa
