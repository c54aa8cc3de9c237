/- Two memories, the program's and the reference's, with the same words. -/
import Derived.Test.YtknbeklplmhheaaRef02c
import Derived.BigQuiet
import Derived.Deep.QuietTactic
import Derived.Deep.RegionHeld3
namespace Go.Proofs.Ytknbeklplmhheaa.Two
open Go Go.RowKit Go.Proofs.Ytknbeklplmhheaa.Heap Go.Proofs.Ytknbeklplmhheaa.Mem

/-- Words are of 64 bits. -/
def U64 (L : List Int) : Prop := ∀ x, x ∈ L → 0 ≤ x ∧ x < 18446744073709551616
theorem U64.get {L : List Int} (h : U64 L) (i : Nat) : 0 ≤ L.getD i 0 ∧ L.getD i 0 < 18446744073709551616 := by
  rw [List.getD_eq_getElem?_getD]
  cases e : L[i]? with
  | none => exact ⟨by simp, by simp⟩
  | some x => exact h x (List.mem_of_getElem? e)
theorem U64.set {L : List Int} (h : U64 L) (i : Nat) {x : Int} (h0 : 0 ≤ x) (h1 : x < 18446744073709551616) : U64 (L.set i x) := by
  intro y hy
  rcases List.mem_or_eq_of_mem_set hy with h2 | h2
  · exact h y h2
  · subst h2; exact ⟨h0, h1⟩
theorem U64.rep (n : Nat) : U64 (List.replicate n 0) := by
  intro x hx
  have := (List.mem_replicate.1 hx).2
  subst this
  decide
theorem U64.st {n : Nat} {L : List Int} (h : U64 L) (f a : Int) {x : Int} (h0 : 0 ≤ x) (h1 : x < 18446744073709551616) : U64 (stL n L f a x) := by
  unfold stL
  split
  · exact h.set _ h0 h1
  · exact h
theorem U64.ld {n : Nat} {L : List Int} (h : U64 L) (f a : Int) : 0 ≤ ldV n L f a ∧ ldV n L f a < 18446744073709551616 := by
  unfold ldV
  split
  · exact h.get _
  · exact ⟨by decide, by decide⟩
theorem U64.fr {L : List Int} (h : U64 L) (f : Nat) : U64 (frL L f) := fun x hx => h x (List.mem_of_mem_drop (List.mem_of_mem_take hx))
theorem U64.setF {L ws : List Int} (h : U64 L) (f : Nat) (hw : U64 ws) : U64 (setF L f ws) := by
  intro x hx
  unfold Mem.setF at hx
  rcases List.mem_append.1 hx with hx | hx
  · rcases List.mem_append.1 hx with hx | hx
    · exact h x (List.mem_of_mem_take hx)
    · exact hw x hx
  · exact h x (List.mem_of_mem_drop hx)
theorem U64.cl {n : Nat} {L : List Int} (h : U64 L) (f : Int) : U64 (clL n L f) := by
  unfold clL
  split
  · exact h.setF _ (U64.rep 36)
  · exact h

/-- Both memories since the world w0, with the same words; nothing that was there has turned. -/
structure Both (w0 w : World) (p r n B g : Nat) (v : Value) (bs : List (Nat × Nat)) (L : List Int) : Prop where
  m : MemAt w p g n L
  r : Ref02.RM w B r v n bs L
  fB : w0.heap.size ≤ B
  fp : w0.heap.size ≤ p
  fg : w0.heap.size ≤ g
  k : Chg [] w0 w
  u : U64 L
section
variable {w0 w w' : World} {p r n B g : Nat} {v : Value} {bs : List (Nat × Nat)} {L M : List Int}
theorem Both.chg0 (h : Both w0 w p r n B g v bs L) (hc : Chg [] w w') : Both w0 w' p r n B g v bs L := ⟨h.m.chg0 hc, h.r.chg0 hc, h.fB, h.fp, h.fg, h.k.trans hc (by simp), h.u⟩
theorem Both.drew (h : Both w0 w p r n B g v bs L) : Both w0 w.drew p r n B g v bs L := h.chg0 (Chg.refl [] w).drew
theorem ref_keep (h : MemAt w p g n L) (k : Ref02.RM w B r v n bs M) (hc : Chg [g] w w') : Ref02.RM w' B r v n bs M := k.chgT h.row hc (by decide) (by decide) (by decide)
end

theorem words_in {w : World} {p g n : Nat} {L : List Int} (h : MemAt w p g n L) (k : Nat) (hk : k < n) : Calls Try.prog 87 #[.pointer (some ⟨p, 0, none⟩), .int .i64 k] w fun e w' => ∃ b, e = .returned (.tuple #[.slice (some ⟨b, 0, none⟩) 36 36, .int .i64 0]) ∧ Blk w' b 36 (nums .u64 (frL L k)).toArray ∧ w.heap.size ≤ b ∧ Chg [] w w' := by
  have ho : (0 : Int) ≤ k ∧ (k : Int) < n := by omega
  refine (Mem.words_ok h k).mono ?_
  rintro e w' ⟨b, rfl, h1, h2, h3⟩
  exact ⟨b, by unfold wdsV canF; rw [if_pos ho, if_pos ho], h1 ho, h2, h3⟩

end Go.Proofs.Ytknbeklplmhheaa.Two
