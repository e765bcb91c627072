/-
  Contracts of library functions for the evaluator: strconv.Itoa, strings.Join.
-/
import Derived.Test.YthgnllgpdheidaaGreatDoorXExt1
import Derived.Sort.Grow
import Derived.Lib.ItoaLen
import Derived.Lib.LaidTab
import Derived.Lib.Join
namespace Go.Ab
open Go Go.RowKit Go.Lib

/-- a variable of the library's that holds these very cells -/
def holdsRow (cs : Array Value) : Obj → Prop := fun o => ∃ (e : TypeId) (fz : Nat × Nat), o = .cells cs e fz
theorem tabIs_of_row {P : Program} {w : World} {name : String} {g : Nat} {k : IntKind} {zs : List Int} {o : Obj} (hg : P.globalNamed name = some g) (ho : w.heap[g]? = some o) (h : holdsRow (zs.map fun z => Value.int k z).toArray o) : TabIs P w name k zs := by
  obtain ⟨e, fz, rfl⟩ := h
  unfold TabIs World.var?
  rw [hg]
  simp only [Option.bind_some, ho]
theorem row_of_tabIs {P : Program} {w : World} {name : String} {g : Nat} {k : IntKind} {zs : List Int} (hg : P.globalNamed name = some g) (h : TabIs P w name k zs) : g < w.heap.size ∧ ¬ False ∧ ∃ o, w.heap[g]? = some o ∧ holdsRow (zs.map fun z => Value.int k z).toArray o := by
  unfold TabIs World.var? at h
  rw [hg] at h
  simp only [Option.bind_some] at h
  split at h
  · rename_i cs e fz hh
    cases h
    exact ⟨(Array.getElem?_eq_some_iff.1 hh).1, fun h => h, _, hh, e, fz, rfl⟩
  · cases h

theorem frozen_block {w w' : World} {a : Addr} (h : w'.heap[a.block]? = w.heap[a.block]?) : w'.frozen? a = w.frozen? a := by
  unfold World.frozen?
  rw [h]
theorem Past.of_below {w w' : World} (h : Below w.heap.size w w') (Ms : Blk) : Past w w' Ms :=
  ⟨h.os, h.tape, h.output, h.size, fun q hq _ => h.block q hq, fun _ ha => frozen_block (h.block _ ha)⟩
theorem Past.of_grow {w : World} (k : Nat) (os : Array Obj) (Ms : Blk) : Past w (Sort.grow (w.drewN k) os) Ms := by
  have hb : ∀ q, q < w.heap.size → (Sort.grow (w.drewN k) os).heap[q]? = w.heap[q]? := fun q hq => by
    show (w.heap ++ os)[q]? = _
    rw [Array.getElem?_append_left hq]
  exact ⟨rfl, rfl, rfl, by show w.heap.size ≤ (w.heap ++ os).size; rw [Array.size_append]; omega, fun q hq _ => hb q hq, fun a ha => frozen_block (hb _ ha)⟩

def itoaF (n : Int) : Option Bytes := some (itoa n)

/-- a call that hands back a text and turns nothing that was there -/
theorem str_post {w w' : World} {S Ms : Blk} (hS : ∀ q, S q → q < w.heap.size) (p : Past w w' Ms) {y : Bytes} (hy : y.length ≤ maxLen) :
    ∃ (vs : List Value) (S' FM FR : Blk), Ending.returned (Value.string ⟨⟨y⟩⟩) = .returned (retV vs) ∧ Past w w' Ms ∧ (∀ q, S q → S' q) ∧ (∀ q, S' q → S q ∨ (w.heap.size ≤ q ∧ q < w'.heap.size)) ∧
      ((∀ q, ¬ FM q) ∧ ResRel S' w' [.val .str] vs y FR) ∧ (∀ q, FM q → (Ms q ∨ w.heap.size ≤ q) ∧ q < w'.heap.size ∧ ¬ S' q) ∧ (∀ q, FR q → w.heap.size ≤ q ∧ q < w'.heap.size ∧ ¬ S' q ∧ ¬ FM q) :=
  ⟨[.string ⟨⟨y⟩⟩], S, fun _ => False, fun _ => False, rfl, p, fun _ h => h, fun _ h => .inl h, ⟨fun _ h => h, _, [], rfl, ⟨[_], rfl, rfl, hy⟩, rfl, fun _ h => h⟩, fun _ h => h.elim, fun _ h => h.elim⟩

theorem itoa_sound [Tabs] {P : Program} {f : FuncId} {g : Nat} (hgn : P.globalNamed "internal/strconv.uint64pow10" = some g)
    (hc : ∀ (n : Int) (w : World), -9223372036854775808 ≤ n → n ≤ 9223372036854775807 → TabIs P w "internal/strconv.uint64pow10" .u64 pow10Tab → Calls P f #[.int .i64 n] w fun e w' =>
      e = .returned (.string ⟨(itoa n).toArray⟩) ∧ ∃ k os, w' = Sort.grow (w.drewN k) os)
    (hg : (g, holdsRow (pow10Tab.map fun z => Value.int .u64 z).toArray) ∈ Tabs.l) : Sound P f ⟨[.val (.int .i64)], [.val .str], fun x => itoaF x⟩ := by
  intro w args x r S Ms hT hS hargs hMs hr
  obtain ⟨v1, r1, rfl, ⟨d1, rfl, k1⟩, rfl, _⟩ := hargs
  obtain ⟨rfl, l1⟩ := k1
  have hr : itoaF x = some r := hr
  cases hr
  obtain ⟨_, _, o, ho, hi⟩ := hT _ hg
  have hw : -9223372036854775808 ≤ (x : Int) ∧ (x : Int) ≤ 9223372036854775807 := by
    have : (Lit.int .i64 (x : Int)).wf = true := l1
    simp only [Lit.wf, Bool.and_eq_true, decide_eq_true_eq] at this
    exact this
  refine Calls.mono (hc x w hw.1 hw.2 (tabIs_of_row hgn ho hi)) ?_
  rintro e w' ⟨rfl, k, os, rfl⟩
  have hlen := itoa_length_le x hw.1 hw.2
  exact str_post hS (Past.of_grow k os Ms) (by unfold maxLen; omega)

def joinF (xs : List Bytes) (sep : Bytes) : Option Bytes :=
  if xs.length ≤ 140737488355328 ∧ (join xs sep).length ≤ 140737488355328 then some (join xs sep) else none

theorem join_sound [Tabs] {P : Program} {f : FuncId}
    (h0 : ∀ (a : Option Addr) (c : Nat) (sep : ByteArray) (w : World), Calls P f #[.slice a 0 c, .string sep] w fun e w' => e = .returned (.string ⟨#[]⟩) ∧ w' = w)
    (hc : ∀ (bk o c : Nat) (xs : List ByteArray) (sep : ByteArray) (w : World), (∀ (j : Nat) x, xs[j]? = some x → w.cell? ⟨bk, o + j, none⟩ = some (.string x)) → bk < w.heap.size → xs.length ≤ 140737488355328 → xs.length ≤ c →
      (join (xs.map (·.data.toList)) sep.data.toList).length ≤ 140737488355328 → Calls P f #[.slice (some ⟨bk, o, none⟩) xs.length c, .string sep] w fun e w' =>
        e = .returned (.string ⟨(join (xs.map (·.data.toList)) sep.data.toList).toArray⟩) ∧ Below w.heap.size w w') :
    Sound P f ⟨[.val (.slice .str), .val .str], [.val .str], fun x => joinF x.1 x.2⟩ := by
  intro w args x r S Ms hT hS hargs hMs hr
  obtain ⟨v1, r1, rfl, ⟨d1, rfl, k1⟩, v2, r2, rfl, ⟨d2, rfl, k2⟩, rfl, _⟩ := hargs
  obtain ⟨rfl, l2⟩ := k2
  obtain ⟨x1, x2⟩ := x
  simp only [headD, tailD] at k1 l2 ⊢
  have hr : joinF x1 x2 = some r := hr
  unfold joinF at hr
  split at hr
  · rename_i hlen
    injection hr with hr
    subst hr
    have big : ∀ n : Nat, n ≤ 140737488355328 → n ≤ maxLen := fun n h => by unfold maxLen; omega
    obtain ⟨hl, ⟨rfl, rfl⟩ | ⟨a, cap, rfl, hcap, hb, he⟩⟩ := k1
    · refine Calls.mono (h0 none 0 ⟨⟨x2⟩⟩ w) ?_
      rintro e w' ⟨rfl, rfl⟩
      exact str_post (y := []) hS (Past.of_below (Below.refl _ _) Ms) (by simp)
    · by_cases hx : x1 = []
      · subst hx
        refine Calls.mono (h0 (some a) cap ⟨⟨x2⟩⟩ w) ?_
        rintro e w' ⟨rfl, rfl⟩
        exact str_post (y := []) hS (Past.of_below (Below.refl _ _) Ms) (by simp)
      · obtain ⟨hsp, hSa, hbl⟩ := hb.resolve_left hx
        obtain ⟨bk, off, sp⟩ := a
        simp only at hsp hbl he hSa
        subst hsp
        have e1 : (x1.map fun b => (⟨⟨b⟩⟩ : ByteArray)).map (·.data.toList) = x1 := by rw [List.map_map]; simp [Function.comp_def]
        have call := hc bk off cap (x1.map fun b => ⟨⟨b⟩⟩) ⟨⟨x2⟩⟩ w (fun j y hj => by
          rw [List.getElem?_map] at hj
          cases hb : x1[j]? with
          | none => rw [hb] at hj; cases hj
          | some b =>
            rw [hb] at hj
            cases hj
            obtain ⟨ds, _, h2, rfl, _⟩ := he j b hb
            have := h2 0 _ rfl
            simpa [Ty.size] using this) hbl (by rw [List.length_map]; exact hlen.1) (by rw [List.length_map]; exact hcap.1) (by rw [e1]; exact hlen.2)
        rw [e1, List.length_map] at call
        refine Calls.mono call ?_
        rintro e w' ⟨rfl, hbel⟩
        exact str_post hS (Past.of_below hbel Ms) (big _ hlen.2)
  · cases hr
end Go.Ab
