/-
  Rows of plain data: a slice's elements, row by row.
-/
import Derived.Test.YthgnllgpdheidaaGreatDoorXDel
import Derived.Test.YthgnllgpdheidaaGreatDoorXOps
import Derived.Test.YthgnllgpdheidaaGreatDoorXOver
namespace Go.Ab
open Go Go.RowKit

def RowsOf (t : Ty) (w : World) (L : List Value) (zs : List t.den) : Prop := ∀ k x, zs[k]? = some x → Own w t ((L.drop (k * t.size)).take t.size) x (fun _ => False)

theorem own_plain [Tabs] {t : Ty} (hl : t.leads = false) {w w' : World} {ds : List Value} {x : t.den} {F : Blk} (h : Own w t ds x F) : Own w' t ds x (fun _ => False) :=
  Own.mono (fun b hb => hb.elim) (Rep.own_plain hl (Own.rep (S := fun _ => True) h fun _ _ => trivial))

theorem RowsOf.world {t : Ty} {w w' : World} {L : List Value} {zs : List t.den} (h : RowsOf t w L zs) : RowsOf t w' L zs := fun k x hk => Own.mono (fun _ hb => hb.elim) (h k x hk)

theorem RowsOf.append [Tabs] {t : Ty} {w : World} {A N : List Value} {xs ys : List t.den} (hA : A.length = xs.length * t.size) (h1 : RowsOf t w A xs) (h2 : RowsOf t w N ys) : RowsOf t w (A ++ N) (xs ++ ys) := fun k x hk => by
  rw [seg_append hA]
  by_cases h : k < xs.length
  · rw [if_pos h]
    rw [List.getElem?_append_left h] at hk
    exact h1 k x hk
  · rw [if_neg h]
    rw [List.getElem?_append_right (by omega)] at hk
    exact h2 _ x hk

theorem RowsOf.arr [Tabs] {t : Ty} {w : World} {g n cap : Nat} {row : Array Value} {te : TypeId} {S : Blk} {L : List Value} {zs : List t.den} (hg : w.heap[g]? = some (.cells row te (0, 0))) (hs : row.size = cap * t.size) (hn : zs.length = n) (hc : n ≤ cap) (hm : cap ≤ maxLen) (ht : row.toList.take (n * t.size) = L) (h : RowsOf t w L zs) :
    ArrRel S w true t (.slice (some ⟨g, 0, none⟩) n cap) zs (fun b => b = g) := by
  subst hn
  refine .inr ⟨g, cap, row, te, fun _ _ => False, rfl, hg, hs, hc, hm, fun k x hk => ?_, fun _ _ _ _ _ h => h.elim, fun _ _ h => h, fun b => ⟨fun h => .inl h, fun h => h.elim (fun h => h) fun ⟨_, _, h⟩ => h.elim⟩⟩
  have hlt : k < zs.length := (List.getElem?_eq_some_iff.1 hk).1
  rw [seg_of_take ht hlt]
  exact h k x hk

/-- the rows of an own slice: those ahead of a place, those behind it -/
theorem rows_head [Tabs] {t : Ty} (hl : t.leads = false) {w : World} {cur : List Value} {xs : List t.den} {Fs : Nat → Blk} (h : ∀ i x, xs[i]? = some x → Own w t ((cur.drop (i * t.size)).take t.size) x (Fs i)) (i : Nat) (hi : i ≤ xs.length) : RowsOf t w (cur.take (i * t.size)) (xs.take i) := fun k x hk => by
  rw [List.getElem?_take] at hk
  split at hk
  · rename_i hlt
    rw [← seg_of_take rfl hlt]
    exact own_plain hl (h k x hk)
  · cases hk
theorem rows_tail [Tabs] {t : Ty} (hl : t.leads = false) {w : World} {cur : List Value} {xs : List t.den} {Fs : Nat → Blk} (h : ∀ i x, xs[i]? = some x → Own w t ((cur.drop (i * t.size)).take t.size) x (Fs i)) (i : Nat) (hi : i ≤ xs.length) : RowsOf t w ((cur.drop (i * t.size)).take ((xs.length - i) * t.size)) (xs.drop i) := fun k x hk => by
  rw [List.getElem?_drop] at hk
  have hlt : i + k < xs.length := (List.getElem?_eq_some_iff.1 hk).1
  rw [← seg_of_take (n := xs.length - i) rfl (by omega), List.drop_drop, ← Nat.add_mul]
  exact own_plain hl (h (i + k) x hk)

theorem rows_one [Tabs] {t : Ty} (hpos : 0 < t.size) {w : World} {L : List Value} {zs : List t.den} (hl : L.length = zs.length * t.size) (h : RowsOf t w L zs) : ∀ u ∈ L, u.oneCell' = true := by
  intro u hu
  obtain ⟨j, hj, rfl⟩ := List.getElem_of_mem hu
  have hj' := hj
  rw [hl] at hj'
  have hi : j / t.size < zs.length := (Nat.div_lt_iff_lt_mul hpos).2 hj'
  have hy : zs[j / t.size]? = some zs[j / t.size] := by simp [hi]
  have ho := (h _ _ hy).rep (S := fun _ => True) (fun _ _ => trivial)
  refine (flat_rel (h := fun _ => none) (m := fun _ => none) ho).2.1 _ ?_
  refine List.mem_of_getElem? (i := j % t.size) ?_
  have e : j / t.size * t.size + j % t.size = j := by rw [Nat.mul_comm]; exact Nat.div_add_mod j t.size
  rw [seg_get, if_pos (Nat.mod_lt _ hpos), e]
  exact List.getElem?_eq_getElem hj

theorem cell_of [Tabs] {w : World} {g : Nat} {cur : Array Value} {te : TypeId} {fz : Nat × Nat} (hg : w.heap[g]? = some (.cells cur te fz)) {o n j : Nat} {v : Value} (h : ((cur.toList.drop o).take n)[j]? = some v) : w.cell? ⟨g, o + j, none⟩ = some v := by
  rw [cell_of_row w g (o + j) cur te fz hg]
  rw [seg_get] at h
  split at h
  · simpa using h
  · cases h
end Go.Ab
