/-
  Laws of two texts of bytes: the last step, where the statement's own reach bounds the lengths.
-/
import Derived.Test.YtkemmodgpafkmaaGreatDoorXLift
import Derived.SizedLaws
namespace Go.Ab
open Go Go.RowKit Go.ChangeShapes Go.WideShapes
section
variable {H : Type} {enc : TypeId × Value → H} {P : Program}
end
end Go.Ab
