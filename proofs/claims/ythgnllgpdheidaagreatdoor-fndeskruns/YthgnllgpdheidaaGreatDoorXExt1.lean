/-
  Contracts of library functions for the evaluator: strings.Split.
-/
import Derived.Test.YthgnllgpdheidaaGreatDoorXFun
import Derived.Lib.SplitLaws
namespace Go.Ab
open Go Go.RowKit Go.Lib

/-- a variable of the library's that holds some integer -/
def someInt : Obj → Prop := fun o => ∃ (cs : Array Value) (e : TypeId) (fz : Nat × Nat) (n : Int), o = .cells cs e fz ∧ cs[0]? = some (.int .i64 n)
theorem someInt_cell {w : World} {g : Nat} {o : Obj} (h : w.heap[g]? = some o) (hi : someInt o) : ∃ n, w.cell? ⟨g, 0, none⟩ = some (.int .i64 n) := by
  obtain ⟨cs, e, fz, n, rfl, h1⟩ := hi
  exact ⟨n, by simp only [World.cell?, h, Option.isSome_none, Bool.false_eq_true, if_false]; exact h1⟩

def splitF (s sep : Bytes) : Option (List Bytes) :=
  if s.length < 4294967281 ∧ 1 ≤ sep.length then some ((splitB ⟨⟨sep⟩⟩ 0 (countB ⟨⟨s⟩⟩ ⟨⟨sep⟩⟩) ⟨⟨s⟩⟩).map (·.data.toList)) else none

theorem splitB_small (sep : ByteArray) : ∀ (k : Nat) (s : ByteArray), ∀ x ∈ splitB sep 0 k s, x.size ≤ s.size
  | 0, s, x, h => by rw [splitB_zero] at h; simp at h; subst h; exact Nat.le_refl _
  | k + 1, s, x, h => by
    by_cases hm : indexB s sep = -1
    · rw [splitB_miss _ _ _ _ hm] at h; simp at h; subst h; exact Nat.le_refl _
    · have hn : 0 ≤ indexB s sep ∨ indexB s sep < 0 := by omega
      unfold splitB at h
      split at h
      · simp at h; subst h; exact Nat.le_refl _
      · rcases List.mem_cons.1 h with rfl | h
        · simp only [ByteArray.size_extract]; omega
        · have := splitB_small sep k _ x h
          simp only [ByteArray.size_extract] at this
          omega

/-- the blocks of one new row -/
theorem Past.alloc_one {w : World} (c : Array Value) (t : TypeId) (Ms : Blk) : Past w (w.alloc (.cells c t)) Ms :=
  let g := Grow.alloc w c t
  ⟨g.os, g.tape, g.output, g.size, fun q hq _ => g.block q hq, g.fz⟩

theorem split_sound [Tabs] {P : Program} {f : FuncId} {g : Nat} {t9 : TypeId}
    (hc : ∀ (s sep : ByteArray) (n : Int) (w : World), s.size < 4294967281 → w.cell? ⟨g, 0, none⟩ = some (.int .i64 n) → 1 ≤ sep.size → Calls P f #[.string s, .string sep] w fun e w' =>
      e = .returned (.slice (some ⟨w.heap.size, 0, none⟩) (countB s sep + 1) (countB s sep + 1)) ∧ w' = w.alloc (.cells ((splitB sep 0 (countB s sep) s).map Value.string).toArray t9))
    (hg : (g, someInt) ∈ Tabs.l) : Sound P f ⟨[.val .str, .val .str], [.own (.slice .str)], fun x => splitF x.1 x.2⟩ := by
  intro w args x r S Ms hT hS hargs hMs hr
  obtain ⟨v1, r1, rfl, ⟨d1, rfl, k1⟩, v2, r2, rfl, ⟨d2, rfl, k2⟩, rfl, _⟩ := hargs
  obtain ⟨rfl, l1⟩ := k1
  obtain ⟨rfl, l2⟩ := k2
  obtain ⟨x1, x2⟩ := x
  simp only [headD, tailD] at l1 l2 ⊢
  have hr : splitF x1 x2 = some r := hr
  unfold splitF at hr
  split at hr
  · rename_i hlen
    injection hr with hr
    obtain ⟨_, _, o, ho, hi⟩ := hT _ hg
    obtain ⟨n, hn⟩ := someInt_cell ho hi
    refine Calls.mono (hc ⟨⟨x1⟩⟩ ⟨⟨x2⟩⟩ n w hlen.1 hn hlen.2) ?_
    rintro e w' ⟨rfl, rfl⟩
    have hl := splitB_all ⟨⟨x2⟩⟩ hlen.2 0 _ ⟨⟨x1⟩⟩ rfl
    generalize hL : splitB ⟨⟨x2⟩⟩ 0 (countB ⟨⟨x1⟩⟩ ⟨⟨x2⟩⟩) ⟨⟨x1⟩⟩ = L at *
    have hsm : ∀ y ∈ L, y.size ≤ x1.length := fun y hy => splitB_small ⟨⟨x2⟩⟩ _ ⟨⟨x1⟩⟩ y (hL ▸ hy)
    have hcb : countB ⟨⟨x1⟩⟩ ⟨⟨x2⟩⟩ ≤ x1.length := countB_le ⟨⟨x2⟩⟩ hlen.2 x1.length ⟨⟨x1⟩⟩ (Nat.le_refl _)
    have hnew : (w.alloc (.cells (L.map Value.string).toArray t9)).heap[w.heap.size]? = some (.cells (L.map Value.string).toArray t9 (0, 0)) := Array.getElem?_push_size
    refine ⟨[.slice (some ⟨w.heap.size, 0, none⟩) (countB ⟨⟨x1⟩⟩ ⟨⟨x2⟩⟩ + 1) (countB ⟨⟨x1⟩⟩ ⟨⟨x2⟩⟩ + 1)], S, fun _ => False, fun q => q = w.heap.size, rfl, Past.alloc_one _ _ _, fun q h => h, fun q h => .inl h, ⟨fun q h => h, ?_⟩, fun q h => h.elim, fun q hq => ?_⟩
    · refine ⟨_, [], fun q => q = w.heap.size, fun _ => False, rfl, ⟨[_], rfl, ?_⟩, ⟨rfl, fun _ h => h⟩, fun _ _ h => h, fun q => by simp⟩
      refine ⟨_, rfl, .inr ⟨w.heap.size, countB ⟨⟨x1⟩⟩ ⟨⟨x2⟩⟩ + 1, (L.map Value.string).toArray, t9, fun _ _ => False, ?_, hnew, by simp [hl, Ty.size], ?_, ?_, fun i y hi => ?_, fun _ _ _ _ _ h => h.elim, fun _ _ h => h, fun b => by simp⟩⟩
      · show Value.slice _ _ _ = Value.slice _ (List.length r) _
        rw [← hr, List.length_map, hl]
      · show List.length r ≤ _
        rw [← hr, List.length_map, hl]; exact Nat.le_refl _
      · unfold maxLen; omega
      · have hi : r[i]? = some y := hi
        rw [← hr, List.getElem?_map] at hi
        cases hb : L[i]? with
        | none => rw [hb] at hi; cases hi
        | some b =>
          rw [hb] at hi
          simp only [Option.map_some, Option.some.injEq] at hi
          have hmem : b ∈ L := List.mem_of_getElem? hb
          have hlt : i < L.length := (List.getElem?_eq_some_iff.1 hb).1
          have e1 : ((L.map Value.string).toArray.toList.drop (i * Ty.size .str)).take (Ty.size .str) = [Value.string b] := by
            simp only [Ty.size, Nat.mul_one]
            rw [← List.map_drop, List.drop_eq_getElem_cons hlt]
            have : L[i] = b := by rw [List.getElem?_eq_getElem hlt] at hb; exact Option.some.inj hb
            simp [this]
          rw [e1]
          refine ⟨⟨?_, ?_⟩, fun _ h => h⟩
          · rw [← hi]
          · have := hsm b hmem
            have e2 : y.length = b.size := by rw [← hi]; exact (Array.length_toList (xs := b.data))
            rw [e2]; unfold maxLen; omega
    · subst hq
      refine ⟨Nat.le_refl _, by rw [show (w.alloc (.cells (L.map Value.string).toArray t9)).heap.size = w.heap.size + 1 from Array.size_push _]; omega, fun h => Nat.lt_irrefl _ (hS _ h), fun h => h⟩
  · cases hr
end Go.Ab
