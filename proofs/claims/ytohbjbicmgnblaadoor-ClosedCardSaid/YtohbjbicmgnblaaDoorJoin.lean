/- Plain: a path out of a directory's and a name. -/
import Derived.Test.YtohbjbicmgnblaaDoorChecked
namespace Go.Proofs.YtohbjbicmgnblaaDoor
def joinP (d n : List UInt8) : List UInt8 := if d = [] then n else d ++ 47 :: n
end Go.Proofs.YtohbjbicmgnblaaDoor
