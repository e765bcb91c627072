/-
  Rows of plain data: a slice's elements, row by row.
-/
import Derived.Test.YtffmiefhnbkcbaaGreatXDel
import Derived.Test.YtffmiefhnbkcbaaGreatXOps
import Derived.Test.YtffmiefhnbkcbaaGreatXOver
namespace Go.Ab
open Go Go.RowKit
def RowsOf (t : Ty) (w : World) (L : List Value) (zs : List t.den) : Prop := ∀ k x, zs[k]? = some x → Own w t ((L.drop (k * t.size)).take t.size) x (fun _ => False)
theorem own_plain [Tabs] {t : Ty} (hl : t.leads = false) {w w' : World} {ds : List Value} {x : t.den} {F : Blk} (h : Own w t ds x F) : Own w' t ds x (fun _ => False) :=
  Own.mono (fun b hb => hb.elim) (Rep.own_plain hl (Own.rep (S := fun _ => True) h fun _ _ => trivial))
theorem RowsOf.world {t : Ty} {w w' : World} {L : List Value} {zs : List t.den} (h : RowsOf t w L zs) : RowsOf t w' L zs := fun k x hk => Own.mono (fun _ hb => hb.elim) (h k x hk)
theorem RowsOf.append [Tabs] {t : Ty} {w : World} {A N : List Value} {xs ys : List t.den} (hA : A.length = xs.length * t.size) (h1 : RowsOf t w A xs) (h2 : RowsOf t w N ys) : RowsOf t w (A ++ N) (xs ++ ys) := fun k x hk => by
  rw [seg_append hA]
  by_cases h : k < xs.length
  · rw [if_pos h]
    rw [List.getElem?_append_left h] at hk
    exact h1 k x hk
  · rw [if_neg h]
    rw [List.getElem?_append_right (by omega)] at hk
    exact h2 _ x hk
theorem RowsOf.arr [Tabs] {t : Ty} {w : World} {g n cap : Nat} {row : Array Value} {te : TypeId} {S : Blk} {L : List Value} {zs : List t.den} (hg : w.heap[g]? = some (.cells row te (0, 0))) (hs : row.size = cap * t.size) (hn : zs.length = n) (hc : n ≤ cap) (hm : cap ≤ maxLen) (ht : row.toList.take (n * t.size) = L) (h : RowsOf t w L zs) :
    ArrRel S w true t (.slice (some ⟨g, 0, none⟩) n cap) zs (fun b => b = g) := by
  subst hn
  refine .inr ⟨g, cap, row, te, fun _ _ => False, rfl, hg, hs, hc, hm, fun k x hk => ?_, fun _ _ _ _ _ h => h.elim, fun _ _ h => h, fun b => ⟨fun h => .inl h, fun h => h.elim (fun h => h) fun ⟨_, _, h⟩ => h.elim⟩⟩
  have hlt : k < zs.length := (List.getElem?_eq_some_iff.1 hk).1
  rw [seg_of_take ht hlt]
  exact h k x hk
theorem cell_of [Tabs] {w : World} {g : Nat} {cur : Array Value} {te : TypeId} {fz : Nat × Nat} (hg : w.heap[g]? = some (.cells cur te fz)) {o n j : Nat} {v : Value} (h : ((cur.toList.drop o).take n)[j]? = some v) : w.cell? ⟨g, o + j, none⟩ = some v := by
  rw [cell_of_row w g (o + j) cur te fz hg]
  rw [seg_get] at h
  split at h
  · simpa using h
  · cases h
end Go.Ab
