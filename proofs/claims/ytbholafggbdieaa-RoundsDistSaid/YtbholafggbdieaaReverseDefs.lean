/- What graph.Reverse answers, in words. No walk. -/
import Derived.Test.YtbholafggbdieaaStrongLaw
import Derived.Test.YtbholafggbdieaaGraph
namespace Go.Proofs.Ytbholafggbdieaa
open Go.RowKit
def RevR (n : Nat) (es : List Ed) (w : World) (e : Ending) (w' : World) : Prop := ∃ bv bs, e = .returned (.tuple #[.agg #[.int .i64 n, bv], .int .i64 0]) ∧ Sl 3 encE w' w'.heap.size bv bs ∧ bs.length = es.length ∧ (∀ e, e ∈ bs ↔ ∃ x ∈ es, e = backE x) ∧ Below w.heap.size w w'
end Go.Proofs.Ytbholafggbdieaa
