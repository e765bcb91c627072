/-
  No tables are read on this seat.
-/
import Derived.Test.YtffmiefhnbkcbaaGreatXTy
namespace Go.Proofs.YtffmiefhnbkcbaaGreat
open Go Go.Ab
instance : Tabs := ⟨[]⟩
end Go.Proofs.YtffmiefhnbkcbaaGreat
