/- Package history: push. -/
import Derived.Test.YtbjiecpkalcfeaaHistP1
import Derived.Test.YtbjiecpkalcfeaaHistP2
namespace Go.Proofs.Ytbjiecpkalcfeaa.HistP
open Go Go.RowKit Go.Proofs.Ytbjiecpkalcfeaa Go.Proofs.Ytbjiecpkalcfeaa.Heap Go.Proofs.Ytbjiecpkalcfeaa.Sl Go.Proofs.Ytbjiecpkalcfeaa.Hist Go.Proofs.Ytbjiecpkalcfeaa.HistF

theorem push_ok {w : World} {q t n : Nat} {cs : Array Value} {v : Value} {xs : List Value} (B : Blk w q 114 cs) (hv : cs[t * 3]? = some v) (hs : Sl w 120 2 v n xs) (hn : n ≤ 5) (a b : Int) :
    Calls Try.prog 63 #[.pointer (some ⟨q, t * 3, none⟩), .agg #[.int .i64 a, .int .i64 b]] w fun e w' => e = .returned (.tuple #[]) ∧ ∃ v', Blk w' q 114 (cs.setIfInBounds (t * 3) v') ∧ Sl w' 120 2 v' (n + 1) (xs ++ [.int .i64 a, .int .i64 b]) ∧ (∀ g, v'.ownBlock = some g → w.heap.size ≤ g) ∧ Chg [q] w w' := by
  by_cases h0 : v.ownBlock = none
  · exact HistP1.push_none B hv hs hn h0 a b
  · exact HistP2.push_some B hv hs hn h0 a b
end Go.Proofs.Ytbjiecpkalcfeaa.HistP
