/-
  Contracts of library functions for the evaluator: strings.Split.
-/
import Derived.Test.YtkemmodgpafkmaaGreatDoorXFun
import Derived.Lib.SplitLaws
import Derived.Sort.Grow
import Derived.Lib.ItoaLen
import Derived.Lib.LaidTab
import Derived.Lib.Join
namespace Go.Ab
open Go Go.RowKit Go.Lib
def someInt : Obj → Prop := fun o => ∃ (cs : Array Value) (e : TypeId) (fz : Nat × Nat) (n : Int), o = .cells cs e fz ∧ cs[0]? = some (.int .i64 n)
theorem someInt_cell {w : World} {g : Nat} {o : Obj} (h : w.heap[g]? = some o) (hi : someInt o) : ∃ n, w.cell? ⟨g, 0, none⟩ = some (.int .i64 n) := by
  obtain ⟨cs, e, fz, n, rfl, h1⟩ := hi
  exact ⟨n, by simp only [World.cell?, h, Option.isSome_none, Bool.false_eq_true, if_false]; exact h1⟩
def splitF (s sep : Bytes) : Option (List Bytes) :=
  if s.length < 4294967281 ∧ 1 ≤ sep.length then some ((splitB ⟨⟨sep⟩⟩ 0 (countB ⟨⟨s⟩⟩ ⟨⟨sep⟩⟩) ⟨⟨s⟩⟩).map (·.data.toList)) else none
theorem splitB_small (sep : ByteArray) : ∀ (k : Nat) (s : ByteArray), ∀ x ∈ splitB sep 0 k s, x.size ≤ s.size
  | 0, s, x, h => by rw [splitB_zero] at h; simp at h; subst h; exact Nat.le_refl _
  | k + 1, s, x, h => by
    by_cases hm : indexB s sep = -1
    · rw [splitB_miss _ _ _ _ hm] at h; simp at h; subst h; exact Nat.le_refl _
    · have hn : 0 ≤ indexB s sep ∨ indexB s sep < 0 := by omega
      unfold splitB at h
      split at h
      · simp at h; subst h; exact Nat.le_refl _
      · rcases List.mem_cons.1 h with rfl | h
        · simp only [ByteArray.size_extract]; omega
        · have := splitB_small sep k _ x h
          simp only [ByteArray.size_extract] at this
          omega
theorem Past.alloc_one {w : World} (c : Array Value) (t : TypeId) (Ms : Blk) : Past w (w.alloc (.cells c t)) Ms :=
  let g := Grow.alloc w c t
  ⟨g.os, g.tape, g.output, g.size, fun q hq _ => g.block q hq, g.fz⟩
theorem split_sound [Tabs] {P : Program} {f : FuncId} {g : Nat} {t9 : TypeId}
    (hc : ∀ (s sep : ByteArray) (n : Int) (w : World), s.size < 4294967281 → w.cell? ⟨g, 0, none⟩ = some (.int .i64 n) → 1 ≤ sep.size → Calls P f #[.string s, .string sep] w fun e w' =>
      e = .returned (.slice (some ⟨w.heap.size, 0, none⟩) (countB s sep + 1) (countB s sep + 1)) ∧ w' = w.alloc (.cells ((splitB sep 0 (countB s sep) s).map Value.string).toArray t9))
    (hg : (g, someInt) ∈ Tabs.l) : Sound P f ⟨[.val .str, .val .str], [.own (.slice .str)], fun x => splitF x.1 x.2⟩ := by
  intro w args x r S Ms hT hS hargs hMs hr
  obtain ⟨v1, r1, rfl, ⟨d1, rfl, k1⟩, v2, r2, rfl, ⟨d2, rfl, k2⟩, rfl, _⟩ := hargs
  obtain ⟨rfl, l1⟩ := k1
  obtain ⟨rfl, l2⟩ := k2
  obtain ⟨x1, x2⟩ := x
  simp only [headD, tailD] at l1 l2 ⊢
  have hr : splitF x1 x2 = some r := hr
  unfold splitF at hr
  split at hr
  · rename_i hlen
    injection hr with hr
    obtain ⟨_, _, o, ho, hi⟩ := hT _ hg
    obtain ⟨n, hn⟩ := someInt_cell ho hi
    refine Calls.mono (hc ⟨⟨x1⟩⟩ ⟨⟨x2⟩⟩ n w hlen.1 hn hlen.2) ?_
    rintro e w' ⟨rfl, rfl⟩
    have hl := splitB_all ⟨⟨x2⟩⟩ hlen.2 0 _ ⟨⟨x1⟩⟩ rfl
    generalize hL : splitB ⟨⟨x2⟩⟩ 0 (countB ⟨⟨x1⟩⟩ ⟨⟨x2⟩⟩) ⟨⟨x1⟩⟩ = L at *
    have hsm : ∀ y ∈ L, y.size ≤ x1.length := fun y hy => splitB_small ⟨⟨x2⟩⟩ _ ⟨⟨x1⟩⟩ y (hL ▸ hy)
    have hcb : countB ⟨⟨x1⟩⟩ ⟨⟨x2⟩⟩ ≤ x1.length := countB_le ⟨⟨x2⟩⟩ hlen.2 x1.length ⟨⟨x1⟩⟩ (Nat.le_refl _)
    have hnew : (w.alloc (.cells (L.map Value.string).toArray t9)).heap[w.heap.size]? = some (.cells (L.map Value.string).toArray t9 (0, 0)) := Array.getElem?_push_size
    refine ⟨[.slice (some ⟨w.heap.size, 0, none⟩) (countB ⟨⟨x1⟩⟩ ⟨⟨x2⟩⟩ + 1) (countB ⟨⟨x1⟩⟩ ⟨⟨x2⟩⟩ + 1)], S, fun _ => False, fun q => q = w.heap.size, rfl, Past.alloc_one _ _ _, fun q h => h, fun q h => .inl h, ⟨fun q h => h, ?_⟩, fun q h => h.elim, fun q hq => ?_⟩
    · refine ⟨_, [], fun q => q = w.heap.size, fun _ => False, rfl, ⟨[_], rfl, ?_⟩, ⟨rfl, fun _ h => h⟩, fun _ _ h => h, fun q => by simp⟩
      refine ⟨_, rfl, .inr ⟨w.heap.size, countB ⟨⟨x1⟩⟩ ⟨⟨x2⟩⟩ + 1, (L.map Value.string).toArray, t9, fun _ _ => False, ?_, hnew, by simp [hl, Ty.size], ?_, ?_, fun i y hi => ?_, fun _ _ _ _ _ h => h.elim, fun _ _ h => h, fun b => by simp⟩⟩
      · show Value.slice _ _ _ = Value.slice _ (List.length r) _
        rw [← hr, List.length_map, hl]
      · show List.length r ≤ _
        rw [← hr, List.length_map, hl]; exact Nat.le_refl _
      · unfold maxLen; omega
      · have hi : r[i]? = some y := hi
        rw [← hr, List.getElem?_map] at hi
        cases hb : L[i]? with
        | none => rw [hb] at hi; cases hi
        | some b =>
          rw [hb] at hi
          simp only [Option.map_some, Option.some.injEq] at hi
          have hmem : b ∈ L := List.mem_of_getElem? hb
          have hlt : i < L.length := (List.getElem?_eq_some_iff.1 hb).1
          have e1 : ((L.map Value.string).toArray.toList.drop (i * Ty.size .str)).take (Ty.size .str) = [Value.string b] := by
            simp only [Ty.size, Nat.mul_one]
            rw [← List.map_drop, List.drop_eq_getElem_cons hlt]
            have : L[i] = b := by rw [List.getElem?_eq_getElem hlt] at hb; exact Option.some.inj hb
            simp [this]
          rw [e1]
          refine ⟨⟨?_, ?_⟩, fun _ h => h⟩
          · rw [← hi]
          · have := hsm b hmem
            have e2 : y.length = b.size := by rw [← hi]; exact (Array.length_toList (xs := b.data))
            rw [e2]; unfold maxLen; omega
    · subst hq
      refine ⟨Nat.le_refl _, by rw [show (w.alloc (.cells (L.map Value.string).toArray t9)).heap.size = w.heap.size + 1 from Array.size_push _]; omega, fun h => Nat.lt_irrefl _ (hS _ h), fun h => h⟩
  · cases hr
end Go.Ab
namespace Go.Ab
open Go Go.RowKit Go.Lib
def holdsRow (cs : Array Value) : Obj → Prop := fun o => ∃ (e : TypeId) (fz : Nat × Nat), o = .cells cs e fz
theorem tabIs_of_row {P : Program} {w : World} {name : String} {g : Nat} {k : IntKind} {zs : List Int} {o : Obj} (hg : P.globalNamed name = some g) (ho : w.heap[g]? = some o) (h : holdsRow (zs.map fun z => Value.int k z).toArray o) : TabIs P w name k zs := by
  obtain ⟨e, fz, rfl⟩ := h
  unfold TabIs World.var?
  rw [hg]
  simp only [Option.bind_some, ho]
theorem row_of_tabIs {P : Program} {w : World} {name : String} {g : Nat} {k : IntKind} {zs : List Int} (hg : P.globalNamed name = some g) (h : TabIs P w name k zs) : g < w.heap.size ∧ ¬ False ∧ ∃ o, w.heap[g]? = some o ∧ holdsRow (zs.map fun z => Value.int k z).toArray o := by
  unfold TabIs World.var? at h
  rw [hg] at h
  simp only [Option.bind_some] at h
  split at h
  · rename_i cs e fz hh
    cases h
    exact ⟨(Array.getElem?_eq_some_iff.1 hh).1, fun h => h, _, hh, e, fz, rfl⟩
  · cases h
theorem frozen_block {w w' : World} {a : Addr} (h : w'.heap[a.block]? = w.heap[a.block]?) : w'.frozen? a = w.frozen? a := by
  unfold World.frozen?
  rw [h]
theorem Past.of_below {w w' : World} (h : Below w.heap.size w w') (Ms : Blk) : Past w w' Ms :=
  ⟨h.os, h.tape, h.output, h.size, fun q hq _ => h.block q hq, fun _ ha => frozen_block (h.block _ ha)⟩
theorem Past.of_grow {w : World} (k : Nat) (os : Array Obj) (Ms : Blk) : Past w (Sort.grow (w.drewN k) os) Ms := by
  have hb : ∀ q, q < w.heap.size → (Sort.grow (w.drewN k) os).heap[q]? = w.heap[q]? := fun q hq => by
    show (w.heap ++ os)[q]? = _
    rw [Array.getElem?_append_left hq]
  exact ⟨rfl, rfl, rfl, by show w.heap.size ≤ (w.heap ++ os).size; rw [Array.size_append]; omega, fun q hq _ => hb q hq, fun a ha => frozen_block (hb _ ha)⟩
def itoaF (n : Int) : Option Bytes := some (itoa n)
theorem str_post {w w' : World} {S Ms : Blk} (hS : ∀ q, S q → q < w.heap.size) (p : Past w w' Ms) {y : Bytes} (hy : y.length ≤ maxLen) :
    ∃ (vs : List Value) (S' FM FR : Blk), Ending.returned (Value.string ⟨⟨y⟩⟩) = .returned (retV vs) ∧ Past w w' Ms ∧ (∀ q, S q → S' q) ∧ (∀ q, S' q → S q ∨ (w.heap.size ≤ q ∧ q < w'.heap.size)) ∧
      ((∀ q, ¬ FM q) ∧ ResRel S' w' [.val .str] vs y FR) ∧ (∀ q, FM q → (Ms q ∨ w.heap.size ≤ q) ∧ q < w'.heap.size ∧ ¬ S' q) ∧ (∀ q, FR q → w.heap.size ≤ q ∧ q < w'.heap.size ∧ ¬ S' q ∧ ¬ FM q) :=
  ⟨[.string ⟨⟨y⟩⟩], S, fun _ => False, fun _ => False, rfl, p, fun _ h => h, fun _ h => .inl h, ⟨fun _ h => h, _, [], rfl, ⟨[_], rfl, rfl, hy⟩, rfl, fun _ h => h⟩, fun _ h => h.elim, fun _ h => h.elim⟩
theorem itoa_sound [Tabs] {P : Program} {f : FuncId} {g : Nat} (hgn : P.globalNamed "internal/strconv.uint64pow10" = some g)
    (hc : ∀ (n : Int) (w : World), -9223372036854775808 ≤ n → n ≤ 9223372036854775807 → TabIs P w "internal/strconv.uint64pow10" .u64 pow10Tab → Calls P f #[.int .i64 n] w fun e w' =>
      e = .returned (.string ⟨(itoa n).toArray⟩) ∧ ∃ k os, w' = Sort.grow (w.drewN k) os)
    (hg : (g, holdsRow (pow10Tab.map fun z => Value.int .u64 z).toArray) ∈ Tabs.l) : Sound P f ⟨[.val (.int .i64)], [.val .str], fun x => itoaF x⟩ := by
  intro w args x r S Ms hT hS hargs hMs hr
  obtain ⟨v1, r1, rfl, ⟨d1, rfl, k1⟩, rfl, _⟩ := hargs
  obtain ⟨rfl, l1⟩ := k1
  have hr : itoaF x = some r := hr
  cases hr
  obtain ⟨_, _, o, ho, hi⟩ := hT _ hg
  have hw : -9223372036854775808 ≤ (x : Int) ∧ (x : Int) ≤ 9223372036854775807 := by
    have : (Lit.int .i64 (x : Int)).wf = true := l1
    simp only [Lit.wf, Bool.and_eq_true, decide_eq_true_eq] at this
    exact this
  refine Calls.mono (hc x w hw.1 hw.2 (tabIs_of_row hgn ho hi)) ?_
  rintro e w' ⟨rfl, k, os, rfl⟩
  have hlen := itoa_length_le x hw.1 hw.2
  exact str_post hS (Past.of_grow k os Ms) (by unfold maxLen; omega)
def joinF (xs : List Bytes) (sep : Bytes) : Option Bytes :=
  if xs.length ≤ 140737488355328 ∧ (join xs sep).length ≤ 140737488355328 then some (join xs sep) else none
theorem join_sound [Tabs] {P : Program} {f : FuncId}
    (h0 : ∀ (a : Option Addr) (c : Nat) (sep : ByteArray) (w : World), Calls P f #[.slice a 0 c, .string sep] w fun e w' => e = .returned (.string ⟨#[]⟩) ∧ w' = w)
    (hc : ∀ (bk o c : Nat) (xs : List ByteArray) (sep : ByteArray) (w : World), (∀ (j : Nat) x, xs[j]? = some x → w.cell? ⟨bk, o + j, none⟩ = some (.string x)) → bk < w.heap.size → xs.length ≤ 140737488355328 → xs.length ≤ c →
      (join (xs.map (·.data.toList)) sep.data.toList).length ≤ 140737488355328 → Calls P f #[.slice (some ⟨bk, o, none⟩) xs.length c, .string sep] w fun e w' =>
        e = .returned (.string ⟨(join (xs.map (·.data.toList)) sep.data.toList).toArray⟩) ∧ Below w.heap.size w w') :
    Sound P f ⟨[.val (.slice .str), .val .str], [.val .str], fun x => joinF x.1 x.2⟩ := by
  intro w args x r S Ms hT hS hargs hMs hr
  obtain ⟨v1, r1, rfl, ⟨d1, rfl, k1⟩, v2, r2, rfl, ⟨d2, rfl, k2⟩, rfl, _⟩ := hargs
  obtain ⟨rfl, l2⟩ := k2
  obtain ⟨x1, x2⟩ := x
  simp only [headD, tailD] at k1 l2 ⊢
  have hr : joinF x1 x2 = some r := hr
  unfold joinF at hr
  split at hr
  · rename_i hlen
    injection hr with hr
    subst hr
    have big : ∀ n : Nat, n ≤ 140737488355328 → n ≤ maxLen := fun n h => by unfold maxLen; omega
    obtain ⟨hl, ⟨rfl, rfl⟩ | ⟨a, cap, rfl, hcap, hb, he⟩⟩ := k1
    · refine Calls.mono (h0 none 0 ⟨⟨x2⟩⟩ w) ?_
      rintro e w' ⟨rfl, rfl⟩
      exact str_post (y := []) hS (Past.of_below (Below.refl _ _) Ms) (by simp)
    · by_cases hx : x1 = []
      · subst hx
        refine Calls.mono (h0 (some a) cap ⟨⟨x2⟩⟩ w) ?_
        rintro e w' ⟨rfl, rfl⟩
        exact str_post (y := []) hS (Past.of_below (Below.refl _ _) Ms) (by simp)
      · obtain ⟨hsp, hSa, hbl⟩ := hb.resolve_left hx
        obtain ⟨bk, off, sp⟩ := a
        simp only at hsp hbl he hSa
        subst hsp
        have e1 : (x1.map fun b => (⟨⟨b⟩⟩ : ByteArray)).map (·.data.toList) = x1 := by rw [List.map_map]; simp [Function.comp_def]
        have call := hc bk off cap (x1.map fun b => ⟨⟨b⟩⟩) ⟨⟨x2⟩⟩ w (fun j y hj => by
          rw [List.getElem?_map] at hj
          cases hb : x1[j]? with
          | none => rw [hb] at hj; cases hj
          | some b =>
            rw [hb] at hj
            cases hj
            obtain ⟨ds, _, h2, rfl, _⟩ := he j b hb
            have := h2 0 _ rfl
            simpa [Ty.size] using this) hbl (by rw [List.length_map]; exact hlen.1) (by rw [List.length_map]; exact hcap.1) (by rw [e1]; exact hlen.2)
        rw [e1, List.length_map] at call
        refine Calls.mono call ?_
        rintro e w' ⟨rfl, hbel⟩
        exact str_post hS (Past.of_below hbel Ms) (big _ hlen.2)
  · cases hr
end Go.Ab
