/-
  The builtin copy, run.
-/
import Derived.Test.YtkemmodgpafkmaaGreatDoorXOwn
import Derived.Laws.AppendOwn
import Derived.Laws.CopyOwn
import Derived.Test.YtkemmodgpafkmaaGreatDoorXDel
import Derived.Test.YtkemmodgpafkmaaGreatDoorXOps
namespace Go.Ab
open Go Go.RowKit
theorem copy_run {P : Program} {w : World} {st te e ty : TypeId} {inf : TypeInfo} (hu : P.underlying st = some (.slice e)) (hi : P.info? e = some inf) {b off dl dc sl sc n : Nat} {ad : Addr} {cur : Array Value} (hg : w.heap[b]? = some (.cells cur te (0, 0)))
    {news : List Value} (hmin : Nat.min sl dl = n) (hn : news.length = n * inf.size) (hr : ∀ j v, news[j]? = some v → w.cell? (ad.add j) = some v) (h1 : ∀ u ∈ news, u.oneCell' = true) (hfit : off + news.length ≤ cur.size) :
    (Builtin.copy_ #[st, st] ty #[.slice (some ⟨b, off, none⟩) dl dc, .slice (some ad) sl sc]).run P w = .ok (goInt n) (w.setRow b (cur.toList.take off ++ news ++ cur.toList.drop (off + news.length)).toArray) := by
  have hst := run_storeCells_at P b off te news 0 cur w hg (by simpa using hfit) h1
  simp only [Nat.add_zero] at hst
  have hf := run_firstCells_some (P := P) w inf.size n ad sl sc news hn hr
  subst hmin
  have hlen : Builtin.lenOf (.slice (some ad) sl sc) = pure sl := rfl
  simp [Builtin.copy_, run_underlying hu, sizeOf, typeInfo, hi, hlen, hf, hst]
theorem step_copy_rows {P : Program} {ops : Array Oper} {o : Oper} {a : Act} {w w' : World} {K : Act → World → Prop} {Q : Exit → Act → World → Prop} {E : Prop} (hgd : o.guard = none) (d s : Operand) (st : TypeId)
    (ho : o.op = .call { callee := .builtin .copy, args := #[d, s], argTypes := #[st, st] }) {v dv sv : Value} (hd : a.eval d = dv) (hs : a.eval s = sv) (hrun : (Builtin.copy_ #[st, st] o.type #[dv, sv]).run P w = .ok v w')
    (h : K (a.put o.dst v) w') : if Region.wanted o (yielded ops a.tmps) = true then Oper.wp P o a w K Q else E := by
  have hw : Region.wanted o (yielded ops a.tmps) = true := by simp [Region.wanted, hgd]
  rw [if_pos hw]
  unfold Oper.wp
  simp [execOp, ho, resolve, invoke, builtin, hd, hs, hrun, Result.andThen]
  exact h
theorem wpList_app_run {P : Program} {w w' : World} {ops : Array Oper} {rest : List Oper} {o : Oper} {a : Act} {Q : Exit → Act → World → Prop} (hgd : o.guard = none) (d s : Operand) (st : TypeId)
    (ho : o.op = .call { callee := .builtin .append, args := #[d, s], argTypes := #[st, st] }) {v dv sv : Value} (hd : a.eval d = dv) (hs : a.eval s = sv) (hrun : (Builtin.append_ #[st, st] o.type #[dv, sv]).run P w = .ok v w')
    (h : wpList P ops Q rest (a.put o.dst v) w') : wpList P ops Q (o :: rest) a w := by
  refine wpList_plain hgd fun K hK => ?_
  unfold Oper.wp
  simp [execOp, ho, resolve, invoke, builtin, hd, hs, hrun, Result.andThen]
  exact hK _ _ h
end Go.Ab
namespace Go.Ab
open Go Go.RowKit
theorem overlaps_eq (st st2 : TypeId) (rs : Array TypeId) (a b : Addr) (la lb ca cb : Nat) : Extern.SlicesOverlaps.overlaps #[st, st2] rs #[.slice (some a) la ca, .slice (some b) lb cb] = (do
    let .slice elem ← underlying st | stuck "slices.overlaps: slice type expected"
    let size ← sizeOf elem
    if la = 0 ∨ lb = 0 ∨ size = 0 then pure (.bool false)
    else if a.block != b.block && (← frozen a) && (← frozen b) then unsupported .addressObserved
    else do
      if a.block != b.block then do
        noView a; noView b
        if ← mayBeOne a b then return .bool ((← choose (.extern "sameAddr.stringBytes" 2)) == 1)
      pure (.bool (a.block == b.block && a.off < b.off + lb * size && b.off < a.off + la * size)) : Sem Value) := rfl
theorem overlaps_run [Tabs] {P : Program} {w : World} {st st2 te : TypeId} {inf : TypeInfo} {rs : Array TypeId} (hu : P.underlying st = some (.slice te)) (hi : P.info? te = some inf) {q g o1 o2 l1 l2 c1 c2 : Nat} {ca cb : Array Value} {ta tb : TypeId} (ha : w.heap[q]? = some (.cells ca ta (0, 0))) (hb : w.heap[g]? = some (.cells cb tb (0, 0))) (hne : q ≠ g) :
    (Extern.SlicesOverlaps.overlaps #[st, st2] rs #[.slice (some ⟨q, o1, none⟩) l1 c1, .slice (some ⟨g, o2, none⟩) l2 c2]).run P w = .ok (.bool false) w := by
  have f1 : ∀ o, w.frozen? ⟨q, o, none⟩ = false := fun o => by simp [World.frozen?, ha]
  have f2 : ∀ o, w.frozen? ⟨g, o, none⟩ = false := fun o => by simp [World.frozen?, hb]
  have hne' : (q == g) = false := by simpa using hne
  have hne2 : (q != g) = true := by simpa using hne
  have s1 : w.shape? q = some (ta, ca.size) := by simp [World.shape?, ha]
  have s2 : w.shape? g = some (tb, cb.size) := by simp [World.shape?, hb]
  rw [overlaps_eq]
  by_cases h0 : l1 = 0 ∨ l2 = 0 ∨ inf.size = 0
  · simp [run_underlying hu, sizeOf, typeInfo, hi, h0]
  · simp [run_underlying hu, sizeOf, typeInfo, hi, h0, f1, f2, hne', hne2, hne, noView, viewAt, mayBeOne, stringish, s1, s2]
end Go.Ab
namespace Go.Ab
open Go Go.RowKit
def RowsOf (t : Ty) (w : World) (L : List Value) (zs : List t.den) : Prop := ∀ k x, zs[k]? = some x → Own w t ((L.drop (k * t.size)).take t.size) x (fun _ => False)
theorem own_plain [Tabs] {t : Ty} (hl : t.leads = false) {w w' : World} {ds : List Value} {x : t.den} {F : Blk} (h : Own w t ds x F) : Own w' t ds x (fun _ => False) :=
  Own.mono (fun b hb => hb.elim) (Rep.own_plain hl (Own.rep (S := fun _ => True) h fun _ _ => trivial))
theorem RowsOf.world {t : Ty} {w w' : World} {L : List Value} {zs : List t.den} (h : RowsOf t w L zs) : RowsOf t w' L zs := fun k x hk => Own.mono (fun _ hb => hb.elim) (h k x hk)
theorem RowsOf.append [Tabs] {t : Ty} {w : World} {A N : List Value} {xs ys : List t.den} (hA : A.length = xs.length * t.size) (h1 : RowsOf t w A xs) (h2 : RowsOf t w N ys) : RowsOf t w (A ++ N) (xs ++ ys) := fun k x hk => by
  rw [seg_append hA]
  by_cases h : k < xs.length
  · rw [if_pos h]
    rw [List.getElem?_append_left h] at hk
    exact h1 k x hk
  · rw [if_neg h]
    rw [List.getElem?_append_right (by omega)] at hk
    exact h2 _ x hk
theorem RowsOf.arr [Tabs] {t : Ty} {w : World} {g n cap : Nat} {row : Array Value} {te : TypeId} {S : Blk} {L : List Value} {zs : List t.den} (hg : w.heap[g]? = some (.cells row te (0, 0))) (hs : row.size = cap * t.size) (hn : zs.length = n) (hc : n ≤ cap) (hm : cap ≤ maxLen) (ht : row.toList.take (n * t.size) = L) (h : RowsOf t w L zs) :
    ArrRel S w true t (.slice (some ⟨g, 0, none⟩) n cap) zs (fun b => b = g) := by
  subst hn
  refine .inr ⟨g, cap, row, te, fun _ _ => False, rfl, hg, hs, hc, hm, fun k x hk => ?_, fun _ _ _ _ _ h => h.elim, fun _ _ h => h, fun b => ⟨fun h => .inl h, fun h => h.elim (fun h => h) fun ⟨_, _, h⟩ => h.elim⟩⟩
  have hlt : k < zs.length := (List.getElem?_eq_some_iff.1 hk).1
  rw [seg_of_take ht hlt]
  exact h k x hk
theorem cell_of [Tabs] {w : World} {g : Nat} {cur : Array Value} {te : TypeId} {fz : Nat × Nat} (hg : w.heap[g]? = some (.cells cur te fz)) {o n j : Nat} {v : Value} (h : ((cur.toList.drop o).take n)[j]? = some v) : w.cell? ⟨g, o + j, none⟩ = some v := by
  rw [cell_of_row w g (o + j) cur te fz hg]
  rw [seg_get] at h
  split at h
  · simpa using h
  · cases h
end Go.Ab
namespace Go.Ab
open Go Go.RowKit
def RowsX (t : Ty) (w : World) (L : List Value) (zs : List t.den) (Fs : Nat → Blk) : Prop := ∀ k x, zs[k]? = some x → Own w t ((L.drop (k * t.size)).take t.size) x (Fs k)
theorem RowsX.append [Tabs] {t : Ty} {w : World} {A N : List Value} {xs ys : List t.den} {Fs Gs : Nat → Blk} (hA : A.length = xs.length * t.size) (h1 : RowsX t w A xs Fs) (h2 : RowsX t w N ys Gs) : RowsX t w (A ++ N) (xs ++ ys) (fun k => if k < xs.length then Fs k else Gs (k - xs.length)) := fun k x hk => by
  rw [seg_append hA]
  by_cases h : k < xs.length
  · rw [if_pos h]
    simp only [h, if_true]
    rw [List.getElem?_append_left h] at hk
    exact h1 k x hk
  · rw [if_neg h]
    simp only [h, if_false]
    rw [List.getElem?_append_right (by omega)] at hk
    exact h2 _ x hk
theorem RowsX.world {t : Ty} {w w' : World} {L : List Value} {zs : List t.den} {Fs : Nat → Blk} (h : RowsX t w L zs Fs) (hw : ∀ k b, k < zs.length → Fs k b → w'.heap[b]? = w.heap[b]?) : RowsX t w' L zs Fs :=
  fun k x hk => Own.mono (fun b hb => hw k b (List.getElem?_eq_some_iff.1 hk).1 hb) (h k x hk)
theorem RowsX.head [Tabs] {t : Ty} {w : World} {cur : List Value} {xs : List t.den} {Fs : Nat → Blk} (h : ∀ i x, xs[i]? = some x → Own w t ((cur.drop (i * t.size)).take t.size) x (Fs i)) (i : Nat) : RowsX t w (cur.take (i * t.size)) (xs.take i) Fs := fun k x hk => by
  rw [List.getElem?_take] at hk
  split at hk
  · rename_i hlt
    rw [← seg_of_take rfl hlt]
    exact h k x hk
  · cases hk
theorem RowsX.tail [Tabs] {t : Ty} {w : World} {cur : List Value} {xs : List t.den} {Fs : Nat → Blk} (h : ∀ i x, xs[i]? = some x → Own w t ((cur.drop (i * t.size)).take t.size) x (Fs i)) (i : Nat) : RowsX t w ((cur.drop (i * t.size)).take ((xs.length - i) * t.size)) (xs.drop i) (fun k => Fs (i + k)) := fun k x hk => by
  rw [List.getElem?_drop] at hk
  have hlt : i + k < xs.length := (List.getElem?_eq_some_iff.1 hk).1
  rw [← seg_of_take (n := xs.length - i) rfl (by omega), List.drop_drop, ← Nat.add_mul]
  exact h (i + k) x hk
theorem RowsX.one [Tabs] {t : Ty} (hpos : 0 < t.size) {w : World} {L : List Value} {zs : List t.den} {Fs : Nat → Blk} (hl : L.length = zs.length * t.size) (h : RowsX t w L zs Fs) : ∀ u ∈ L, u.oneCell' = true := by
  intro u hu
  obtain ⟨j, hj, rfl⟩ := List.getElem_of_mem hu
  have hj' := hj
  rw [hl] at hj'
  have hi : j / t.size < zs.length := (Nat.div_lt_iff_lt_mul hpos).2 hj'
  have hy : zs[j / t.size]? = some zs[j / t.size] := by simp [hi]
  have ho := (h _ _ hy).rep (S := fun _ => True) (fun _ _ => trivial)
  refine (flat_rel (h := fun _ => none) (m := fun _ => none) ho).2.1 _ ?_
  refine List.mem_of_getElem? (i := j % t.size) ?_
  have e : j / t.size * t.size + j % t.size = j := by rw [Nat.mul_comm]; exact Nat.div_add_mod j t.size
  rw [seg_get, if_pos (Nat.mod_lt _ hpos), e]
  exact List.getElem?_eq_getElem hj
theorem RowsX.arr [Tabs] {t : Ty} {w : World} {g n cap : Nat} {row : Array Value} {te : TypeId} {S : Blk} {L : List Value} {zs : List t.den} {Fs : Nat → Blk} (hg : w.heap[g]? = some (.cells row te (0, 0))) (hs : row.size = cap * t.size) (hn : zs.length = n) (hc : n ≤ cap) (hm : cap ≤ maxLen) (ht : row.toList.take (n * t.size) = L) (h : RowsX t w L zs Fs)
    (hd : ∀ i j b, i < zs.length → j < zs.length → Fs i b → Fs j b → i = j) (hx : ∀ i, i < zs.length → ¬ Fs i g) :
    ArrRel S w true t (.slice (some ⟨g, 0, none⟩) n cap) zs (fun b => b = g ∨ ∃ i, i < zs.length ∧ Fs i b) := by
  subst hn
  refine .inr ⟨g, cap, row, te, Fs, rfl, hg, hs, hc, hm, fun k x hk => ?_, hd, hx, fun b => Iff.rfl⟩
  have hlt : k < zs.length := (List.getElem?_eq_some_iff.1 hk).1
  rw [seg_of_take ht hlt]
  exact h k x hk
theorem ins_arr [Tabs] {t : Ty} {w w' : World} {g cap i : Nat} {row : Array Value} {te : TypeId} {S : Blk} {xs : List t.den} {y : t.den} {A Y Z : List Value} {Fs : Nat → Blk} {F G G0 : Blk}
    (hA : A.length = i * t.size) (hY : Y.length = t.size) (hi : i ≤ xs.length) (rA : RowsX t w A (xs.take i) Fs) (rY : Own w t Y y G0) (rZ : RowsX t w Z (xs.drop i) (fun k => Fs (i + k)))
    (dF : ∀ j k b, j < xs.length → k < xs.length → Fs j b → Fs k b → j = k) (hF : ∀ j b, j < xs.length → Fs j b → F b) (hG : ∀ b, G0 b → G b) (hFG : ∀ q, F q → G q → False)
    (hw : ∀ b, F b ∨ G b → b ≠ g → w'.heap[b]? = w.heap[b]?) (gF : ∀ j, j < xs.length → ¬ Fs j g) (gG : ¬ G0 g)
    (hg : w'.heap[g]? = some (.cells row te (0, 0))) (hs : row.size = cap * t.size) (hc : xs.length + 1 ≤ cap) (hm : cap ≤ maxLen) (ht : row.toList.take ((xs.length + 1) * t.size) = A ++ Y ++ Z) :
    ∃ F', ArrRel S w' true t (.slice (some ⟨g, 0, none⟩) (xs.length + 1) cap) (xs.take i ++ y :: xs.drop i) F' ∧ ∀ q, F' q → q = g ∨ F q ∨ G q := by
  have hti : (xs.take i).length = i := by rw [List.length_take]; omega
  have rY1 : RowsX t w Y [y] (fun _ => G0) := fun k x hk => by
    cases k with
    | zero =>
      simp only [List.getElem?_cons_zero, Option.some.injEq] at hk
      subst hk
      rw [Nat.zero_mul, List.drop_zero, List.take_of_length_le (Nat.le_of_eq hY)]
      exact rY
    | succ k => simp at hk
  have h1 := RowsX.append (A := Y) (N := Z) (xs := [y]) (ys := xs.drop i) (by rw [hY]; simp) rY1 rZ
  have h2 := RowsX.append (A := A) (xs := xs.take i) (by rw [hA, hti]) rA h1
  have hlen : (xs.take i ++ ([y] ++ xs.drop i)).length = xs.length + 1 := by simp; omega
  let Fn : Nat → Blk := fun k => if k < i then Fs k else if k = i then G0 else Fs (k - 1)
  have hFn : ∀ k, (if k < (xs.take i).length then Fs k else (fun k => if k < [y].length then (fun _ => G0) k else (fun k => Fs (i + k)) (k - [y].length)) (k - (xs.take i).length)) = Fn k := fun k => by
    rw [hti]
    show _ = (if k < i then Fs k else if k = i then G0 else Fs (k - 1))
    by_cases h : k < i
    · simp only [h, if_true]
    · simp only [h, if_false, List.length_singleton]
      by_cases e : k = i
      · subst e; simp
      · have h3 : ¬ k - i < 1 := by omega
        simp only [h3, if_false, e]
        congr 1
        omega
  have h3 : RowsX t w (A ++ (Y ++ Z)) (xs.take i ++ ([y] ++ xs.drop i)) Fn := fun k x hk => by
    have := h2 k x hk
    simp only [] at this
    rw [← hFn k]
    exact this
  have kind : ∀ k b, k < xs.length + 1 → Fn k b → (k ≠ i ∧ ∃ j, j < xs.length ∧ Fs j b ∧ (j = k ∧ k < i ∨ j + 1 = k ∧ i < k)) ∨ (k = i ∧ G0 b) := fun k b hk hb => by
    have hb : (if k < i then Fs k else if k = i then G0 else Fs (k - 1)) b := hb
    by_cases h : k < i
    · rw [if_pos h] at hb
      exact .inl ⟨by omega, k, by omega, hb, .inl ⟨rfl, h⟩⟩
    · rw [if_neg h] at hb
      by_cases e : k = i
      · rw [if_pos e] at hb
        exact .inr ⟨e, hb⟩
      · rw [if_neg e] at hb
        exact .inl ⟨e, k - 1, by omega, hb, .inr ⟨by omega, by omega⟩⟩
  have h4 : RowsX t w' (A ++ (Y ++ Z)) (xs.take i ++ ([y] ++ xs.drop i)) Fn := h3.world fun k b hk hb => by
    rw [hlen] at hk
    rcases kind k b hk hb with ⟨_, j, j1, j2, _⟩ | ⟨_, j2⟩
    · exact hw b (.inl (hF j b j1 j2)) fun e => gF j j1 (e ▸ j2)
    · exact hw b (.inr (hG b j2)) fun e => gG (e ▸ j2)
  refine ⟨_, RowsX.arr hg hs hlen hc hm (by rw [ht, List.append_assoc]) h4 (fun a c b ha hc h5 h6 => ?_) (fun k hk hb => ?_), fun q hq => ?_⟩
  · replace ha : a < xs.length + 1 := by rw [← hlen]; exact ha
    replace hc : c < xs.length + 1 := by rw [← hlen]; exact hc
    rcases kind a b ha h5 with ⟨_, j, j1, j2, j3⟩ | ⟨e1, j2⟩ <;> rcases kind c b hc h6 with ⟨_, k, k1, k2, k3⟩ | ⟨e2, k2⟩
    · have := dF j k b j1 k1 j2 k2
      omega
    · exact (hFG b (hF j b j1 j2) (hG b k2)).elim
    · exact (hFG b (hF k b k1 k2) (hG b j2)).elim
    · omega
  · replace hk : k < xs.length + 1 := by rw [← hlen]; exact hk
    rcases kind k g hk hb with ⟨_, j, j1, j2, _⟩ | ⟨_, j2⟩
    · exact gF j j1 j2
    · exact gG j2
  · rcases hq with hq | ⟨k, hk, hb⟩
    · exact .inl hq
    · replace hk : k < xs.length + 1 := by rw [← hlen]; exact hk
      rcases kind k q hk hb with ⟨_, j, j1, j2, _⟩ | ⟨_, j2⟩
      · exact .inr (.inl (hF j q j1 j2))
      · exact .inr (.inr (hG q j2))
end Go.Ab
