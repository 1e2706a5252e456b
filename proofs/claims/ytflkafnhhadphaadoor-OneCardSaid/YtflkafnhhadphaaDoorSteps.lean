/- Plain: a piece more. -/
import Derived.Test.YtflkafnhhadphaaDoorChecked
import Derived.Test.YtflkafnhhadphaaDoorRun
namespace Go.Proofs.YtflkafnhhadphaaDoor
open Go Go.RowKit

theorem steps_snoc : ∀ (ps : List (List UInt8)) (p : List UInt8) (x : List Job × PSt), steps (ps ++ [p]) x = run (steps ps x).1 ((steps ps x).2.feed p)
  | [], p, x => rfl
  | q :: ps, p, x => steps_snoc ps p _
end Go.Proofs.YtflkafnhhadphaaDoor
