/- Package call: which calls there are, what they need, which of them may be. -/
import Derived.Test.YtdconfciacldmaaHeap
import Derived.Test.YtdconfciacldmaaField
import Derived.Deep.MidRow
import Derived.Laws.Rows
import Derived.Lib.Hide
namespace Go.Proofs.Ytdconfciacldmaa.Call
open Go Go.RowKit Go.Proofs.Ytdconfciacldmaa Go.Proofs.Ytdconfciacldmaa.Heap Go.Proofs.Ytdconfciacldmaa.Bits Go.Proofs.Ytdconfciacldmaa.Field

abbrev W30 : List ByteArray := [⟨#[110, 117, 108, 108]⟩, ⟨#[116, 121, 112, 101]⟩, ⟨#[117, 110, 116, 121, 112, 101]⟩, ⟨#[116, 98, 108]⟩, ⟨#[112, 103, 116]⟩, ⟨#[99, 111, 109, 112]⟩, ⟨#[116, 104, 100]⟩, ⟨#[116, 99, 97, 112]⟩, ⟨#[114, 99, 118]⟩, ⟨#[99, 111, 110, 115]⟩, ⟨#[100, 101, 99, 111, 110, 115]⟩, ⟨#[102, 114, 101, 101, 122, 101]⟩, ⟨#[99, 111, 112, 121]⟩, ⟨#[100, 114, 111, 112]⟩, ⟨#[105, 110, 118]⟩, ⟨#[115, 110, 100]⟩, ⟨#[107, 105, 108, 108]⟩, ⟨#[112, 99, 111, 110, 115]⟩, ⟨#[112, 100, 101, 99, 111, 110]⟩, ⟨#[109, 97, 112]⟩, ⟨#[117, 110, 109, 97, 112]⟩, ⟨#[112, 99, 111, 112, 121]⟩, ⟨#[99, 97, 108, 108]⟩, ⟨#[114, 101, 116]⟩, ⟨#[115, 119, 105, 116, 99, 104]⟩, ⟨#[103, 105, 118, 101]⟩, ⟨#[115, 101, 110, 100]⟩, ⟨#[114, 101, 99, 118]⟩, ⟨#[108, 105, 110, 101]⟩, ⟨#[104, 97, 110, 100]⟩]
abbrev N30 : List Int := [0, 3, 2, 3, 3, 5, 5, 3, 4, 3, 2, 1, 4, 2, 3, 2, 1, 3, 2, 4, 2, 5, 1, 0, 1, 4, 1, 1, 3, 3]
/-- All kinds of calls, as cells: a word and what it needs, each. -/
abbrev kindsC : Array Value := #[.string ⟨#[110, 117, 108, 108]⟩, .int .i64 0, .string ⟨#[116, 121, 112, 101]⟩, .int .i64 3, .string ⟨#[117, 110, 116, 121, 112, 101]⟩, .int .i64 2, .string ⟨#[116, 98, 108]⟩, .int .i64 3, .string ⟨#[112, 103, 116]⟩, .int .i64 3, .string ⟨#[99, 111, 109, 112]⟩, .int .i64 5, .string ⟨#[116, 104, 100]⟩, .int .i64 5, .string ⟨#[116, 99, 97, 112]⟩, .int .i64 3, .string ⟨#[114, 99, 118]⟩, .int .i64 4, .string ⟨#[99, 111, 110, 115]⟩, .int .i64 3, .string ⟨#[100, 101, 99, 111, 110, 115]⟩, .int .i64 2, .string ⟨#[102, 114, 101, 101, 122, 101]⟩, .int .i64 1, .string ⟨#[99, 111, 112, 121]⟩, .int .i64 4, .string ⟨#[100, 114, 111, 112]⟩, .int .i64 2, .string ⟨#[105, 110, 118]⟩, .int .i64 3, .string ⟨#[115, 110, 100]⟩, .int .i64 2, .string ⟨#[107, 105, 108, 108]⟩, .int .i64 1, .string ⟨#[112, 99, 111, 110, 115]⟩, .int .i64 3, .string ⟨#[112, 100, 101, 99, 111, 110]⟩, .int .i64 2, .string ⟨#[109, 97, 112]⟩, .int .i64 4, .string ⟨#[117, 110, 109, 97, 112]⟩, .int .i64 2, .string ⟨#[112, 99, 111, 112, 121]⟩, .int .i64 5, .string ⟨#[99, 97, 108, 108]⟩, .int .i64 1, .string ⟨#[114, 101, 116]⟩, .int .i64 0, .string ⟨#[115, 119, 105, 116, 99, 104]⟩, .int .i64 1, .string ⟨#[103, 105, 118, 101]⟩, .int .i64 4, .string ⟨#[115, 101, 110, 100]⟩, .int .i64 1, .string ⟨#[114, 101, 99, 118]⟩, .int .i64 1, .string ⟨#[108, 105, 110, 101]⟩, .int .i64 3, .string ⟨#[104, 97, 110, 100]⟩, .int .i64 3]
def wordS (n : Nat) : ByteArray := W30.getD n ⟨#[]⟩
def needsN (n : Nat) : Int := N30.getD n 0
theorem kx0 (w : World) : (Instr.index 58 (.agg kindsC) (.int .i64 0)).run Try.prog w = .ok (.agg #[.string (wordS 0), .int .i64 (needsN 0)]) w := by kernel_rfl
theorem kx1 (w : World) : (Instr.index 58 (.agg kindsC) (.int .i64 1)).run Try.prog w = .ok (.agg #[.string (wordS 1), .int .i64 (needsN 1)]) w := by kernel_rfl
theorem kx2 (w : World) : (Instr.index 58 (.agg kindsC) (.int .i64 2)).run Try.prog w = .ok (.agg #[.string (wordS 2), .int .i64 (needsN 2)]) w := by kernel_rfl
theorem kx3 (w : World) : (Instr.index 58 (.agg kindsC) (.int .i64 3)).run Try.prog w = .ok (.agg #[.string (wordS 3), .int .i64 (needsN 3)]) w := by kernel_rfl
theorem kx4 (w : World) : (Instr.index 58 (.agg kindsC) (.int .i64 4)).run Try.prog w = .ok (.agg #[.string (wordS 4), .int .i64 (needsN 4)]) w := by kernel_rfl
theorem kx5 (w : World) : (Instr.index 58 (.agg kindsC) (.int .i64 5)).run Try.prog w = .ok (.agg #[.string (wordS 5), .int .i64 (needsN 5)]) w := by kernel_rfl
theorem kx6 (w : World) : (Instr.index 58 (.agg kindsC) (.int .i64 6)).run Try.prog w = .ok (.agg #[.string (wordS 6), .int .i64 (needsN 6)]) w := by kernel_rfl
theorem kx7 (w : World) : (Instr.index 58 (.agg kindsC) (.int .i64 7)).run Try.prog w = .ok (.agg #[.string (wordS 7), .int .i64 (needsN 7)]) w := by kernel_rfl
theorem kx8 (w : World) : (Instr.index 58 (.agg kindsC) (.int .i64 8)).run Try.prog w = .ok (.agg #[.string (wordS 8), .int .i64 (needsN 8)]) w := by kernel_rfl
theorem kx9 (w : World) : (Instr.index 58 (.agg kindsC) (.int .i64 9)).run Try.prog w = .ok (.agg #[.string (wordS 9), .int .i64 (needsN 9)]) w := by kernel_rfl
theorem kx10 (w : World) : (Instr.index 58 (.agg kindsC) (.int .i64 10)).run Try.prog w = .ok (.agg #[.string (wordS 10), .int .i64 (needsN 10)]) w := by kernel_rfl
theorem kx11 (w : World) : (Instr.index 58 (.agg kindsC) (.int .i64 11)).run Try.prog w = .ok (.agg #[.string (wordS 11), .int .i64 (needsN 11)]) w := by kernel_rfl
theorem kx12 (w : World) : (Instr.index 58 (.agg kindsC) (.int .i64 12)).run Try.prog w = .ok (.agg #[.string (wordS 12), .int .i64 (needsN 12)]) w := by kernel_rfl
theorem kx13 (w : World) : (Instr.index 58 (.agg kindsC) (.int .i64 13)).run Try.prog w = .ok (.agg #[.string (wordS 13), .int .i64 (needsN 13)]) w := by kernel_rfl
theorem kx14 (w : World) : (Instr.index 58 (.agg kindsC) (.int .i64 14)).run Try.prog w = .ok (.agg #[.string (wordS 14), .int .i64 (needsN 14)]) w := by kernel_rfl
theorem kx15 (w : World) : (Instr.index 58 (.agg kindsC) (.int .i64 15)).run Try.prog w = .ok (.agg #[.string (wordS 15), .int .i64 (needsN 15)]) w := by kernel_rfl
theorem kx16 (w : World) : (Instr.index 58 (.agg kindsC) (.int .i64 16)).run Try.prog w = .ok (.agg #[.string (wordS 16), .int .i64 (needsN 16)]) w := by kernel_rfl
theorem kx17 (w : World) : (Instr.index 58 (.agg kindsC) (.int .i64 17)).run Try.prog w = .ok (.agg #[.string (wordS 17), .int .i64 (needsN 17)]) w := by kernel_rfl
theorem kx18 (w : World) : (Instr.index 58 (.agg kindsC) (.int .i64 18)).run Try.prog w = .ok (.agg #[.string (wordS 18), .int .i64 (needsN 18)]) w := by kernel_rfl
theorem kx19 (w : World) : (Instr.index 58 (.agg kindsC) (.int .i64 19)).run Try.prog w = .ok (.agg #[.string (wordS 19), .int .i64 (needsN 19)]) w := by kernel_rfl
theorem kx20 (w : World) : (Instr.index 58 (.agg kindsC) (.int .i64 20)).run Try.prog w = .ok (.agg #[.string (wordS 20), .int .i64 (needsN 20)]) w := by kernel_rfl
theorem kx21 (w : World) : (Instr.index 58 (.agg kindsC) (.int .i64 21)).run Try.prog w = .ok (.agg #[.string (wordS 21), .int .i64 (needsN 21)]) w := by kernel_rfl
theorem kx22 (w : World) : (Instr.index 58 (.agg kindsC) (.int .i64 22)).run Try.prog w = .ok (.agg #[.string (wordS 22), .int .i64 (needsN 22)]) w := by kernel_rfl
theorem kx23 (w : World) : (Instr.index 58 (.agg kindsC) (.int .i64 23)).run Try.prog w = .ok (.agg #[.string (wordS 23), .int .i64 (needsN 23)]) w := by kernel_rfl
theorem kx24 (w : World) : (Instr.index 58 (.agg kindsC) (.int .i64 24)).run Try.prog w = .ok (.agg #[.string (wordS 24), .int .i64 (needsN 24)]) w := by kernel_rfl
theorem kx25 (w : World) : (Instr.index 58 (.agg kindsC) (.int .i64 25)).run Try.prog w = .ok (.agg #[.string (wordS 25), .int .i64 (needsN 25)]) w := by kernel_rfl
theorem kx26 (w : World) : (Instr.index 58 (.agg kindsC) (.int .i64 26)).run Try.prog w = .ok (.agg #[.string (wordS 26), .int .i64 (needsN 26)]) w := by kernel_rfl
theorem kx27 (w : World) : (Instr.index 58 (.agg kindsC) (.int .i64 27)).run Try.prog w = .ok (.agg #[.string (wordS 27), .int .i64 (needsN 27)]) w := by kernel_rfl
theorem kx28 (w : World) : (Instr.index 58 (.agg kindsC) (.int .i64 28)).run Try.prog w = .ok (.agg #[.string (wordS 28), .int .i64 (needsN 28)]) w := by kernel_rfl
theorem kx29 (w : World) : (Instr.index 58 (.agg kindsC) (.int .i64 29)).run Try.prog w = .ok (.agg #[.string (wordS 29), .int .i64 (needsN 29)]) w := by kernel_rfl
theorem kix (n : Nat) (hn : n < 30) (w : World) : (Instr.index 58 (.agg kindsC) (.int .i64 (n : Int))).run Try.prog w = .ok (.agg #[.string (wordS n), .int .i64 (needsN n)]) w := by
  match n, hn with
  | 0, _ => exact kx0 w
  | 1, _ => exact kx1 w
  | 2, _ => exact kx2 w
  | 3, _ => exact kx3 w
  | 4, _ => exact kx4 w
  | 5, _ => exact kx5 w
  | 6, _ => exact kx6 w
  | 7, _ => exact kx7 w
  | 8, _ => exact kx8 w
  | 9, _ => exact kx9 w
  | 10, _ => exact kx10 w
  | 11, _ => exact kx11 w
  | 12, _ => exact kx12 w
  | 13, _ => exact kx13 w
  | 14, _ => exact kx14 w
  | 15, _ => exact kx15 w
  | 16, _ => exact kx16 w
  | 17, _ => exact kx17 w
  | 18, _ => exact kx18 w
  | 19, _ => exact kx19 w
  | 20, _ => exact kx20 w
  | 21, _ => exact kx21 w
  | 22, _ => exact kx22 w
  | 23, _ => exact kx23 w
  | 24, _ => exact kx24 w
  | 25, _ => exact kx25 w
  | 26, _ => exact kx26 w
  | 27, _ => exact kx27 w
  | 28, _ => exact kx28 w
  | 29, _ => exact kx29 w
  | n + 30, h => exact absurd h (by omega)
theorem needs_bd (n : Nat) : 0 ≤ needsN n ∧ needsN n ≤ 5 := by
  rcases Nat.lt_or_ge n 30 with h | h
  · have : ∀ n, n < 30 → 0 ≤ needsN n ∧ needsN n ≤ 5 := by decide
    exact this n h
  · unfold needsN
    rw [List.getD_eq_getElem?_getD, List.getElem?_eq_none (by simpa using h)]
    decide
theorem info_kinds : (Try.prog.info? 58).map (·.size) = some kindsC.size := by kernel_rfl
theorem one_kinds : kindsC.all (·.oneCell') = true := by kernel_rfl
theorem set_range {w : World} {g t o : Nat} {cs : Array Value} (h : Blk w g t cs) (vs : List Value) (ho : o + vs.length ≤ cs.size) : Blk (w.setCells g o vs) g t (cs.toList.take o ++ vs ++ cs.toList.drop (o + vs.length)).toArray := by
  induction vs generalizing w cs o with
  | nil => simpa [World.setCells] using h
  | cons v r ih =>
    rw [World.setCells]
    have := ih (o := o + 1) (h.set_ o v) (by simp at ho ⊢; omega)
    simp only [Array.toList_setIfInBounds] at this
    have e : (cs.toList.set o v).take (o + 1) ++ r ++ (cs.toList.set o v).drop (o + 1 + r.length) = cs.toList.take o ++ (v :: r) ++ cs.toList.drop (o + (v :: r).length) := by
      have ho' : o < cs.toList.length := by simp at ho ⊢; omega
      rw [List.take_set, List.drop_set_of_lt (by omega), List.take_add_one, List.getElem?_eq_getElem ho']
      simp only [Option.toList_some]
      rw [List.set_append_right _ _ (by rw [List.length_take]; omega)]
      have : o - (cs.toList.take o).length = 0 := by rw [List.length_take]; omega
      rw [this]
      simp [Nat.add_assoc, Nat.add_comm 1]
    rw [e] at this
    exact this
abbrev zK : Array Value := #[.string ⟨#[]⟩, .int .i64 0, .string ⟨#[]⟩, .int .i64 0, .string ⟨#[]⟩, .int .i64 0, .string ⟨#[]⟩, .int .i64 0, .string ⟨#[]⟩, .int .i64 0, .string ⟨#[]⟩, .int .i64 0, .string ⟨#[]⟩, .int .i64 0, .string ⟨#[]⟩, .int .i64 0, .string ⟨#[]⟩, .int .i64 0, .string ⟨#[]⟩, .int .i64 0, .string ⟨#[]⟩, .int .i64 0, .string ⟨#[]⟩, .int .i64 0, .string ⟨#[]⟩, .int .i64 0, .string ⟨#[]⟩, .int .i64 0, .string ⟨#[]⟩, .int .i64 0, .string ⟨#[]⟩, .int .i64 0, .string ⟨#[]⟩, .int .i64 0, .string ⟨#[]⟩, .int .i64 0, .string ⟨#[]⟩, .int .i64 0, .string ⟨#[]⟩, .int .i64 0, .string ⟨#[]⟩, .int .i64 0, .string ⟨#[]⟩, .int .i64 0, .string ⟨#[]⟩, .int .i64 0, .string ⟨#[]⟩, .int .i64 0, .string ⟨#[]⟩, .int .i64 0, .string ⟨#[]⟩, .int .i64 0, .string ⟨#[]⟩, .int .i64 0, .string ⟨#[]⟩, .int .i64 0, .string ⟨#[]⟩, .int .i64 0, .string ⟨#[]⟩, .int .i64 0]
set_option maxRecDepth 100000 in
set_option maxHeartbeats 2000000 in
theorem kinds_ok (w : World) : Calls Try.prog 24 #[] w fun e w' => e = .returned (.agg kindsC) ∧ Chg [] w w' := by
  have B := Blk.new w 58 zK
  have HB := Lib.hid B
  have HT : Hid ((w.alloc (.cells zK 58)).there w.heap.size 0 kindsC.size) := fun j hj => ⟨by
    rw [HB.out.cell]
    have : 0 + j < zK.size := by have : kindsC.size = zK.size := rfl; omega
    rw [Array.getElem?_eq_getElem this]; rfl, HB.out.frozen _⟩
  clear B
  go_enter Try.func24, Try.ntmps24
  go_wp2_with (refine wpList_store_mid (op := ⟨none, .store _ _ _, _, _, _, _⟩) rfl 58 (.tmp 0) (.tmp 31) rfl w.heap.size 0 kindsC rfl rfl HT.out info_kinds one_kinds ?_)
  have B2 : Blk ((w.alloc (.cells zK 58)).setCells w.heap.size 0 kindsC.toList) w.heap.size 58 kindsC := by
    have := set_range HB.out kindsC.toList (o := 0) (by have : kindsC.size = zK.size := rfl; rw [Array.length_toList]; omega)
    rw [show zK.toList.drop (0 + kindsC.toList.length) = [] from by kernel_rfl] at this
    simpa using this
  exact ⟨rfl, .agg kindsC, results_cell_row rfl _ _ w.heap.size 58 kindsC (0, 0) _ rfl B2 Try.underlying58 rfl info_kinds, rfl, ((Chg.refl [] w).alloc _).setCells (.inr (Nat.le_refl _)) _ _⟩
end Go.Proofs.Ytdconfciacldmaa.Call
