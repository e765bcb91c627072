/-
  An own slice of data with all that they own: one more row between its rows.
-/
import Derived.Test.YtffmiefhnbkcbaaGreatXIns2
namespace Go.Ab
open Go Go.RowKit
def RowsX (t : Ty) (w : World) (L : List Value) (zs : List t.den) (Fs : Nat → Blk) : Prop := ∀ k x, zs[k]? = some x → Own w t ((L.drop (k * t.size)).take t.size) x (Fs k)
theorem RowsX.append [Tabs] {t : Ty} {w : World} {A N : List Value} {xs ys : List t.den} {Fs Gs : Nat → Blk} (hA : A.length = xs.length * t.size) (h1 : RowsX t w A xs Fs) (h2 : RowsX t w N ys Gs) : RowsX t w (A ++ N) (xs ++ ys) (fun k => if k < xs.length then Fs k else Gs (k - xs.length)) := fun k x hk => by
  rw [seg_append hA]
  by_cases h : k < xs.length
  · rw [if_pos h]
    simp only [h, if_true]
    rw [List.getElem?_append_left h] at hk
    exact h1 k x hk
  · rw [if_neg h]
    simp only [h, if_false]
    rw [List.getElem?_append_right (by omega)] at hk
    exact h2 _ x hk
theorem RowsX.world {t : Ty} {w w' : World} {L : List Value} {zs : List t.den} {Fs : Nat → Blk} (h : RowsX t w L zs Fs) (hw : ∀ k b, k < zs.length → Fs k b → w'.heap[b]? = w.heap[b]?) : RowsX t w' L zs Fs :=
  fun k x hk => Own.mono (fun b hb => hw k b (List.getElem?_eq_some_iff.1 hk).1 hb) (h k x hk)
theorem RowsX.head [Tabs] {t : Ty} {w : World} {cur : List Value} {xs : List t.den} {Fs : Nat → Blk} (h : ∀ i x, xs[i]? = some x → Own w t ((cur.drop (i * t.size)).take t.size) x (Fs i)) (i : Nat) : RowsX t w (cur.take (i * t.size)) (xs.take i) Fs := fun k x hk => by
  rw [List.getElem?_take] at hk
  split at hk
  · rename_i hlt
    rw [← seg_of_take rfl hlt]
    exact h k x hk
  · cases hk
theorem RowsX.tail [Tabs] {t : Ty} {w : World} {cur : List Value} {xs : List t.den} {Fs : Nat → Blk} (h : ∀ i x, xs[i]? = some x → Own w t ((cur.drop (i * t.size)).take t.size) x (Fs i)) (i : Nat) : RowsX t w ((cur.drop (i * t.size)).take ((xs.length - i) * t.size)) (xs.drop i) (fun k => Fs (i + k)) := fun k x hk => by
  rw [List.getElem?_drop] at hk
  have hlt : i + k < xs.length := (List.getElem?_eq_some_iff.1 hk).1
  rw [← seg_of_take (n := xs.length - i) rfl (by omega), List.drop_drop, ← Nat.add_mul]
  exact h (i + k) x hk
theorem RowsX.one [Tabs] {t : Ty} (hpos : 0 < t.size) {w : World} {L : List Value} {zs : List t.den} {Fs : Nat → Blk} (hl : L.length = zs.length * t.size) (h : RowsX t w L zs Fs) : ∀ u ∈ L, u.oneCell' = true := by
  intro u hu
  obtain ⟨j, hj, rfl⟩ := List.getElem_of_mem hu
  have hj' := hj
  rw [hl] at hj'
  have hi : j / t.size < zs.length := (Nat.div_lt_iff_lt_mul hpos).2 hj'
  have hy : zs[j / t.size]? = some zs[j / t.size] := by simp [hi]
  have ho := (h _ _ hy).rep (S := fun _ => True) (fun _ _ => trivial)
  refine (flat_rel (h := fun _ => none) (m := fun _ => none) ho).2.1 _ ?_
  refine List.mem_of_getElem? (i := j % t.size) ?_
  have e : j / t.size * t.size + j % t.size = j := by rw [Nat.mul_comm]; exact Nat.div_add_mod j t.size
  rw [seg_get, if_pos (Nat.mod_lt _ hpos), e]
  exact List.getElem?_eq_getElem hj
theorem RowsX.arr [Tabs] {t : Ty} {w : World} {g n cap : Nat} {row : Array Value} {te : TypeId} {S : Blk} {L : List Value} {zs : List t.den} {Fs : Nat → Blk} (hg : w.heap[g]? = some (.cells row te (0, 0))) (hs : row.size = cap * t.size) (hn : zs.length = n) (hc : n ≤ cap) (hm : cap ≤ maxLen) (ht : row.toList.take (n * t.size) = L) (h : RowsX t w L zs Fs)
    (hd : ∀ i j b, i < zs.length → j < zs.length → Fs i b → Fs j b → i = j) (hx : ∀ i, i < zs.length → ¬ Fs i g) :
    ArrRel S w true t (.slice (some ⟨g, 0, none⟩) n cap) zs (fun b => b = g ∨ ∃ i, i < zs.length ∧ Fs i b) := by
  subst hn
  refine .inr ⟨g, cap, row, te, Fs, rfl, hg, hs, hc, hm, fun k x hk => ?_, hd, hx, fun b => Iff.rfl⟩
  have hlt : k < zs.length := (List.getElem?_eq_some_iff.1 hk).1
  rw [seg_of_take ht hlt]
  exact h k x hk
theorem ins_arr [Tabs] {t : Ty} {w w' : World} {g cap i : Nat} {row : Array Value} {te : TypeId} {S : Blk} {xs : List t.den} {y : t.den} {A Y Z : List Value} {Fs : Nat → Blk} {F G G0 : Blk}
    (hA : A.length = i * t.size) (hY : Y.length = t.size) (hi : i ≤ xs.length) (rA : RowsX t w A (xs.take i) Fs) (rY : Own w t Y y G0) (rZ : RowsX t w Z (xs.drop i) (fun k => Fs (i + k)))
    (dF : ∀ j k b, j < xs.length → k < xs.length → Fs j b → Fs k b → j = k) (hF : ∀ j b, j < xs.length → Fs j b → F b) (hG : ∀ b, G0 b → G b) (hFG : ∀ q, F q → G q → False)
    (hw : ∀ b, F b ∨ G b → b ≠ g → w'.heap[b]? = w.heap[b]?) (gF : ∀ j, j < xs.length → ¬ Fs j g) (gG : ¬ G0 g)
    (hg : w'.heap[g]? = some (.cells row te (0, 0))) (hs : row.size = cap * t.size) (hc : xs.length + 1 ≤ cap) (hm : cap ≤ maxLen) (ht : row.toList.take ((xs.length + 1) * t.size) = A ++ Y ++ Z) :
    ∃ F', ArrRel S w' true t (.slice (some ⟨g, 0, none⟩) (xs.length + 1) cap) (xs.take i ++ y :: xs.drop i) F' ∧ ∀ q, F' q → q = g ∨ F q ∨ G q := by
  have hti : (xs.take i).length = i := by rw [List.length_take]; omega
  have rY1 : RowsX t w Y [y] (fun _ => G0) := fun k x hk => by
    cases k with
    | zero =>
      simp only [List.getElem?_cons_zero, Option.some.injEq] at hk
      subst hk
      rw [Nat.zero_mul, List.drop_zero, List.take_of_length_le (Nat.le_of_eq hY)]
      exact rY
    | succ k => simp at hk
  have h1 := RowsX.append (A := Y) (N := Z) (xs := [y]) (ys := xs.drop i) (by rw [hY]; simp) rY1 rZ
  have h2 := RowsX.append (A := A) (xs := xs.take i) (by rw [hA, hti]) rA h1
  have hlen : (xs.take i ++ ([y] ++ xs.drop i)).length = xs.length + 1 := by simp; omega
  let Fn : Nat → Blk := fun k => if k < i then Fs k else if k = i then G0 else Fs (k - 1)
  have hFn : ∀ k, (if k < (xs.take i).length then Fs k else (fun k => if k < [y].length then (fun _ => G0) k else (fun k => Fs (i + k)) (k - [y].length)) (k - (xs.take i).length)) = Fn k := fun k => by
    rw [hti]
    show _ = (if k < i then Fs k else if k = i then G0 else Fs (k - 1))
    by_cases h : k < i
    · simp only [h, if_true]
    · simp only [h, if_false, List.length_singleton]
      by_cases e : k = i
      · subst e; simp
      · have h3 : ¬ k - i < 1 := by omega
        simp only [h3, if_false, e]
        congr 1
        omega
  have h3 : RowsX t w (A ++ (Y ++ Z)) (xs.take i ++ ([y] ++ xs.drop i)) Fn := fun k x hk => by
    have := h2 k x hk
    simp only [] at this
    rw [← hFn k]
    exact this
  have kind : ∀ k b, k < xs.length + 1 → Fn k b → (k ≠ i ∧ ∃ j, j < xs.length ∧ Fs j b ∧ (j = k ∧ k < i ∨ j + 1 = k ∧ i < k)) ∨ (k = i ∧ G0 b) := fun k b hk hb => by
    have hb : (if k < i then Fs k else if k = i then G0 else Fs (k - 1)) b := hb
    by_cases h : k < i
    · rw [if_pos h] at hb
      exact .inl ⟨by omega, k, by omega, hb, .inl ⟨rfl, h⟩⟩
    · rw [if_neg h] at hb
      by_cases e : k = i
      · rw [if_pos e] at hb
        exact .inr ⟨e, hb⟩
      · rw [if_neg e] at hb
        exact .inl ⟨e, k - 1, by omega, hb, .inr ⟨by omega, by omega⟩⟩
  have h4 : RowsX t w' (A ++ (Y ++ Z)) (xs.take i ++ ([y] ++ xs.drop i)) Fn := h3.world fun k b hk hb => by
    rw [hlen] at hk
    rcases kind k b hk hb with ⟨_, j, j1, j2, _⟩ | ⟨_, j2⟩
    · exact hw b (.inl (hF j b j1 j2)) fun e => gF j j1 (e ▸ j2)
    · exact hw b (.inr (hG b j2)) fun e => gG (e ▸ j2)
  refine ⟨_, RowsX.arr hg hs hlen hc hm (by rw [ht, List.append_assoc]) h4 (fun a c b ha hc h5 h6 => ?_) (fun k hk hb => ?_), fun q hq => ?_⟩
  · replace ha : a < xs.length + 1 := by rw [← hlen]; exact ha
    replace hc : c < xs.length + 1 := by rw [← hlen]; exact hc
    rcases kind a b ha h5 with ⟨_, j, j1, j2, j3⟩ | ⟨e1, j2⟩ <;> rcases kind c b hc h6 with ⟨_, k, k1, k2, k3⟩ | ⟨e2, k2⟩
    · have := dF j k b j1 k1 j2 k2
      omega
    · exact (hFG b (hF j b j1 j2) (hG b k2)).elim
    · exact (hFG b (hF k b k1 k2) (hG b j2)).elim
    · omega
  · replace hk : k < xs.length + 1 := by rw [← hlen]; exact hk
    rcases kind k g hk hb with ⟨_, j, j1, j2, _⟩ | ⟨_, j2⟩
    · exact gF j j1 j2
    · exact gG j2
  · rcases hq with hq | ⟨k, hk, hb⟩
    · exact .inl hq
    · replace hk : k < xs.length + 1 := by rw [← hlen]; exact hk
      rcases kind k q hk hb with ⟨_, j, j1, j2, _⟩ | ⟨_, j2⟩
      · exact .inr (.inl (hF j q j1 j2))
      · exact .inr (.inr (hG q j2))
end Go.Ab
