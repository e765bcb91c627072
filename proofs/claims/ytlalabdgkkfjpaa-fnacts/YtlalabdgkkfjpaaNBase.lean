/-
  No tables are read on this seat.
-/
import Derived.Test.YtlalabdgkkfjpaaXTy
namespace Go.Proofs.Ytlalabdgkkfjpaa
open Go Go.Ab
instance : Tabs := ⟨[]⟩
end Go.Proofs.Ytlalabdgkkfjpaa
