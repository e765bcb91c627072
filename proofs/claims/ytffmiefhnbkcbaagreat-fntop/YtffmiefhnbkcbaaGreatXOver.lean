/-
  slices.overlaps at two blocks that are apart.
-/
import Derived.Test.YtffmiefhnbkcbaaGreatXCopy
namespace Go.Ab
open Go Go.RowKit
theorem overlaps_eq (st st2 : TypeId) (rs : Array TypeId) (a b : Addr) (la lb ca cb : Nat) : Extern.SlicesOverlaps.overlaps #[st, st2] rs #[.slice (some a) la ca, .slice (some b) lb cb] = (do
    let .slice elem ← underlying st | stuck "slices.overlaps: slice type expected"
    let size ← sizeOf elem
    if la = 0 ∨ lb = 0 ∨ size = 0 then pure (.bool false)
    else if a.block != b.block && (← frozen a) && (← frozen b) then unsupported .addressObserved
    else do
      if a.block != b.block then do
        noView a; noView b
        if ← mayBeOne a b then return .bool ((← choose (.extern "sameAddr.stringBytes" 2)) == 1)
      pure (.bool (a.block == b.block && a.off < b.off + lb * size && b.off < a.off + la * size)) : Sem Value) := rfl
theorem overlaps_run [Tabs] {P : Program} {w : World} {st st2 te : TypeId} {inf : TypeInfo} {rs : Array TypeId} (hu : P.underlying st = some (.slice te)) (hi : P.info? te = some inf) {q g o1 o2 l1 l2 c1 c2 : Nat} {ca cb : Array Value} {ta tb : TypeId} (ha : w.heap[q]? = some (.cells ca ta (0, 0))) (hb : w.heap[g]? = some (.cells cb tb (0, 0))) (hne : q ≠ g) :
    (Extern.SlicesOverlaps.overlaps #[st, st2] rs #[.slice (some ⟨q, o1, none⟩) l1 c1, .slice (some ⟨g, o2, none⟩) l2 c2]).run P w = .ok (.bool false) w := by
  have f1 : ∀ o, w.frozen? ⟨q, o, none⟩ = false := fun o => by simp [World.frozen?, ha]
  have f2 : ∀ o, w.frozen? ⟨g, o, none⟩ = false := fun o => by simp [World.frozen?, hb]
  have hne' : (q == g) = false := by simpa using hne
  have hne2 : (q != g) = true := by simpa using hne
  have s1 : w.shape? q = some (ta, ca.size) := by simp [World.shape?, ha]
  have s2 : w.shape? g = some (tb, cb.size) := by simp [World.shape?, hb]
  rw [overlaps_eq]
  by_cases h0 : l1 = 0 ∨ l2 = 0 ∨ inf.size = 0
  · simp [run_underlying hu, sizeOf, typeInfo, hi, h0]
  · simp [run_underlying hu, sizeOf, typeInfo, hi, h0, f1, f2, hne', hne2, hne, noView, viewAt, mayBeOne, stringish, s1, s2]
end Go.Ab
