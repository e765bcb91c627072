/-
  How plain data lie in memory: data that stay, data that are owned.
-/
import Derived.Test.YtlhplhjibadplaaXAbs
import Derived.OpenShut
import Derived.Below
namespace Go.Ab
open Go Go.RowKit

abbrev Blk := Nat → Prop
abbrev wfI (k : IntKind) (x : Int) : Prop := (Lit.int k x).wf = true

/-- these values lie one behind the other -/
def ReadsAt (w : World) (b o : Nat) (ds : List Value) : Prop := ∀ j v, ds[j]? = some v → w.cell? ⟨b, o + j, none⟩ = some v

/-- data that stay: all the blocks that they lead to are in S -/
def Rep (S : Blk) (w : World) : (t : Ty) → List Value → t.den → Prop
  | .unit, cs, _ => cs = []
  | .bool, cs, x => cs = [.bool x]
  | .int k, cs, x => cs = [.int k x] ∧ wfI k x
  | .str, cs, x => cs = [.string ⟨⟨x⟩⟩] ∧ x.length ≤ maxLen
  | .slice t, cs, x => x.length ≤ maxLen ∧ ((cs = [.slice none 0 0] ∧ x = []) ∨
      ∃ (a : Addr) (cap : Nat), cs = [.slice (some a) x.length cap] ∧ (x.length ≤ cap ∧ cap ≤ maxLen) ∧ (x = [] ∨ (a.spot = none ∧ S a.block ∧ a.block < w.heap.size)) ∧
        ∀ i e, x[i]? = some e → ∃ ds, ds.length = t.size ∧ ReadsAt w a.block (a.off + i * t.size) ds ∧ Rep S w t ds e)
  | .pair a b, cs, x => ∃ c d, cs = c ++ d ∧ Rep S w a c x.1 ∧ Rep S w b d x.2

theorem Rep.len {S : Blk} {w : World} : {t : Ty} → {cs : List Value} → {x : t.den} → Rep S w t cs x → cs.length = t.size
  | .unit, _, _, h => by simp [Rep] at h; simp [h, Ty.size]
  | .bool, _, _, h => by simp [Rep] at h; simp [h, Ty.size]
  | .int _, _, _, h => by simp [Rep] at h; simp [h.1, Ty.size]
  | .str, _, _, h => by simp [Rep] at h; simp [h.1, Ty.size]
  | .slice _, _, _, h => by
    obtain ⟨_, ⟨h, _⟩ | ⟨_, _, h, _⟩⟩ := h <;> simp [h, Ty.size]
  | .pair _ _, _, _, h => by
    obtain ⟨c, d, rfl, h1, h2⟩ := h
    simp [Ty.size, Rep.len h1, Rep.len h2]

theorem ReadsAt.mono {w w' : World} {b o : Nat} {ds : List Value} (h : ReadsAt w b o ds) (hb : w'.heap[b]? = w.heap[b]?) : ReadsAt w' b o ds :=
  fun j v hj => (World.cell?_of_block (w := w) (w' := w') (a := ⟨b, o + j, none⟩) hb).trans (h j v hj)

/-- what stays, stays -/
theorem Rep.mono {S S' : Blk} {w w' : World} (hS : ∀ b, S b → S' b) (hw : ∀ b, S b → w'.heap[b]? = w.heap[b]?) (hz : w.heap.size ≤ w'.heap.size) :
    {t : Ty} → {cs : List Value} → {x : t.den} → Rep S w t cs x → Rep S' w' t cs x
  | .unit, _, _, h => h
  | .bool, _, _, h => h
  | .int _, _, _, h => h
  | .str, _, _, h => h
  | .slice _, _, _, h => by
    obtain ⟨hl, h | ⟨a, cap, h, hc, hb, he⟩⟩ := h
    · exact ⟨hl, .inl h⟩
    · refine ⟨hl, .inr ⟨a, cap, h, hc, hb.imp id fun hb => ⟨hb.1, hS _ hb.2.1, Nat.lt_of_lt_of_le hb.2.2 hz⟩, fun i e hi => ?_⟩⟩
      obtain ⟨ds, h1, h2, h3⟩ := he i e hi
      have hb := hb.resolve_left fun h0 => by rw [h0] at hi; simp at hi
      exact ⟨ds, h1, h2.mono (hw _ hb.2.1), Rep.mono hS hw hz h3⟩
  | .pair _ _, _, _, h => by
    obtain ⟨c, d, e, h1, h2⟩ := h
    exact ⟨c, d, e, Rep.mono hS hw hz h1, Rep.mono hS hw hz h2⟩

/-- a slice of our own: its array is in a block of ours, what its elements own is apart -/
def ArrOf {α : Type} (w : World) (sz : Nat) (El : List Value → α → Blk → Prop) (v : Value) (xs : List α) (F : Blk) : Prop :=
  ((∃ o : Option Addr, v = .slice o 0 0) ∧ xs = [] ∧ ∀ b, ¬ F b) ∨
  ∃ (g cap : Nat) (cur : Array Value) (e : TypeId) (Fs : Nat → Blk), v = .slice (some ⟨g, 0, none⟩) xs.length cap ∧ w.heap[g]? = some (.cells cur e (0, 0)) ∧ cur.size = cap * sz ∧ xs.length ≤ cap ∧ cap ≤ maxLen ∧
    (∀ i x, xs[i]? = some x → El ((cur.toList.drop (i * sz)).take sz) x (Fs i)) ∧
    (∀ i j b, i < xs.length → j < xs.length → Fs i b → Fs j b → i = j) ∧ (∀ i, i < xs.length → ¬ Fs i g) ∧
    (∀ b, F b ↔ b = g ∨ ∃ i, i < xs.length ∧ Fs i b)

/-- data with all that they own -/
def Own (w : World) : (t : Ty) → List Value → t.den → Blk → Prop
  | .unit, cs, _, F => cs = [] ∧ ∀ b, ¬ F b
  | .bool, cs, x, F => cs = [.bool x] ∧ ∀ b, ¬ F b
  | .int k, cs, x, F => (cs = [.int k x] ∧ wfI k x) ∧ ∀ b, ¬ F b
  | .str, cs, x, F => (cs = [.string ⟨⟨x⟩⟩] ∧ x.length ≤ maxLen) ∧ ∀ b, ¬ F b
  | .slice t, cs, x, F => ∃ v, cs = [v] ∧ ArrOf w t.size (fun ds y G => Own w t ds y G) v x F
  | .pair a b, cs, x, F => ∃ c d G H, cs = c ++ d ∧ Own w a c x.1 G ∧ Own w b d x.2 H ∧ (∀ q, G q → H q → False) ∧ ∀ q, F q ↔ G q ∨ H q

/-- an element of an own slice: with all that it owns, or data that stay -/
def El (S : Blk) (w : World) (deep : Bool) (t : Ty) (cs : List Value) (x : t.den) (F : Blk) : Prop :=
  match deep with
  | true => Own w t cs x F
  | false => Rep S w t cs x ∧ ∀ b, ¬ F b

def ArrRel (S : Blk) (w : World) (deep : Bool) (t : Ty) (v : Value) (xs : List t.den) (F : Blk) : Prop := ArrOf w t.size (fun ds y G => El S w deep t ds y G) v xs F

theorem ArrOf.imp {α : Type} {w w' : World} {sz : Nat} {El El' : List Value → α → Blk → Prop} {v : Value} {xs : List α} {F : Blk} (h : ArrOf w sz El v xs F)
    (hw : ∀ b, F b → w'.heap[b]? = w.heap[b]?) (hE : ∀ ds x G, (∀ b, G b → F b) → El ds x G → El' ds x G) : ArrOf w' sz El' v xs F := by
  rcases h with h | ⟨g, cap, cur, e, Fs, h1, h2, h3, h4, h5, h6, h7, h8, h9⟩
  · exact .inl h
  · refine .inr ⟨g, cap, cur, e, Fs, h1, (hw g ((h9 g).2 (.inl rfl))).trans h2, h3, h4, h5, fun i x hi => ?_, h7, h8, h9⟩
    have hlt : i < xs.length := (List.getElem?_eq_some_iff.1 hi).1
    exact hE _ _ _ (fun b hb => (h9 b).2 (.inr ⟨i, hlt, hb⟩)) (h6 i x hi)

theorem Own.mono {w w' : World} : {t : Ty} → {cs : List Value} → {x : t.den} → {F : Blk} → (hw : ∀ b, F b → w'.heap[b]? = w.heap[b]?) → Own w t cs x F → Own w' t cs x F
  | .unit, _, _, _, _, h => h
  | .bool, _, _, _, _, h => h
  | .int _, _, _, _, _, h => h
  | .str, _, _, _, _, h => h
  | .slice _, _, _, _, hw, h => by
    obtain ⟨v, e, h⟩ := h
    exact ⟨v, e, h.imp hw fun ds x G hG ho => Own.mono (fun b hb => hw b (hG b hb)) ho⟩
  | .pair _ _, _, _, _, hw, h => by
    obtain ⟨c, d, G, H, e, h1, h2, h3, h4⟩ := h
    exact ⟨c, d, G, H, e, Own.mono (fun b hb => hw b ((h4 b).2 (.inl hb))) h1, Own.mono (fun b hb => hw b ((h4 b).2 (.inr hb))) h2, h3, h4⟩

theorem Own.len {w : World} : {t : Ty} → {cs : List Value} → {x : t.den} → {F : Blk} → Own w t cs x F → cs.length = t.size
  | .unit, _, _, _, h => by simp [Own] at h; simp [h.1, Ty.size]
  | .bool, _, _, _, h => by simp [Own] at h; simp [h.1, Ty.size]
  | .int _, _, _, _, h => by simp [Own] at h; simp [h.1.1, Ty.size]
  | .str, _, _, _, h => by simp [Own] at h; simp [h.1.1, Ty.size]
  | .slice _, _, _, _, h => by obtain ⟨v, e, _⟩ := h; simp [e, Ty.size]
  | .pair _ _, _, _, _, h => by
    obtain ⟨c, d, G, H, rfl, h1, h2, _⟩ := h
    simp [Ty.size, Own.len h1, Own.len h2]

theorem lt_of_heap {w : World} {g : Nat} {o : Obj} (h : w.heap[g]? = some o) : g < w.heap.size := (Array.getElem?_eq_some_iff.1 h).1

/-- blocks that are owned are there -/
theorem Own.lt {w : World} : {t : Ty} → {cs : List Value} → {x : t.den} → {F : Blk} → Own w t cs x F → ∀ b, F b → b < w.heap.size
  | .unit, _, _, _, h, b, hb => (h.2 b hb).elim
  | .bool, _, _, _, h, b, hb => (h.2 b hb).elim
  | .int _, _, _, _, h, b, hb => (h.2 b hb).elim
  | .str, _, _, _, h, b, hb => (h.2 b hb).elim
  | .slice _, _, xs, _, h, b, hb => by
    obtain ⟨v, _, h⟩ := h
    rcases h with ⟨_, _, h⟩ | ⟨g, cap, cur, e, Fs, h1, h2, h3, h4, h5, h6, h7, h8, h9⟩
    · exact (h b hb).elim
    · rcases (h9 b).1 hb with rfl | ⟨i, hi, hF⟩
      · exact lt_of_heap h2
      · exact Own.lt (h6 i xs[i] (by simp [hi])) b hF
  | .pair _ _, _, _, _, h, b, hb => by
    obtain ⟨c, d, G, H, e, h1, h2, h3, h4⟩ := h
    rcases (h4 b).1 hb with hb | hb
    · exact Own.lt h1 b hb
    · exact Own.lt h2 b hb

theorem reads_of_cells {w : World} {g : Nat} {cur : Array Value} {e : TypeId} {f : Nat × Nat} (h : w.heap[g]? = some (.cells cur e f)) (o n : Nat) : ReadsAt w g o ((cur.toList.drop o).take n) := by
  intro j v hj
  simp only [World.cell?, h, Option.isSome_none, Bool.false_eq_true, if_false]
  rw [List.getElem?_take] at hj
  split at hj
  · rw [List.getElem?_drop] at hj
    simpa using hj
  · cases hj

/-- an own slice reads as data, once its blocks count as staying -/
theorem ArrOf.rep {S : Blk} {w : World} {t : Ty} {E : List Value → t.den → Blk → Prop} {v : Value} {xs : List t.den} {F : Blk} (h : ArrOf w t.size E v xs F) (hF : ∀ b, F b → S b)
    (hE : ∀ ds x G, (∀ b, G b → F b) → E ds x G → Rep S w t ds x) (hlen : ∀ ds x G, E ds x G → ds.length = t.size) : Rep S w (.slice t) [v] xs := by
  rcases h with ⟨⟨o, rfl⟩, rfl, _⟩ | ⟨g, cap, cur, e, Fs, rfl, h2, h3, h4, h5, h6, h7, h8, h9⟩
  · cases o with
    | none => exact ⟨by simp, .inl ⟨rfl, rfl⟩⟩
    | some a => exact ⟨by simp, .inr ⟨a, 0, rfl, ⟨Nat.le_refl _, Nat.zero_le _⟩, .inl rfl, fun i e h => by simp at h⟩⟩
  · refine ⟨by omega, .inr ⟨⟨g, 0, none⟩, cap, rfl, ⟨h4, h5⟩, .inr ⟨rfl, hF g ((h9 g).2 (.inl rfl)), lt_of_heap h2⟩, fun i x hi => ?_⟩⟩
    have hlt : i < xs.length := (List.getElem?_eq_some_iff.1 hi).1
    refine ⟨_, hlen _ _ _ (h6 i x hi), ?_, hE _ _ _ (fun b hb => (h9 b).2 (.inr ⟨i, hlt, hb⟩)) (h6 i x hi)⟩
    rw [Nat.zero_add]
    exact reads_of_cells h2 _ _

theorem Own.rep {S : Blk} {w : World} : {t : Ty} → {cs : List Value} → {x : t.den} → {F : Blk} → Own w t cs x F → (hF : ∀ b, F b → S b) → Rep S w t cs x
  | .unit, _, _, _, h, _ => h.1
  | .bool, _, _, _, h, _ => h.1
  | .int _, _, _, _, h, _ => h.1
  | .str, _, _, _, h, _ => h.1
  | .slice _, _, _, _, h, hF => by
    obtain ⟨v, rfl, h⟩ := h
    exact ArrOf.rep h hF (fun ds x G hG ho => Own.rep ho fun b hb => hF b (hG b hb)) (fun _ _ _ ho => Own.len ho)
  | .pair _ _, _, _, _, h, hF => by
    obtain ⟨c, d, G, H, e, h1, h2, h3, h4⟩ := h
    exact ⟨c, d, e, Own.rep h1 fun b hb => hF b ((h4 b).2 (.inl hb)), Own.rep h2 fun b hb => hF b ((h4 b).2 (.inr hb))⟩

theorem El.mono {S S' : Blk} {w w' : World} {deep : Bool} {t : Ty} {cs : List Value} {x : t.den} {F : Blk} (h : El S w deep t cs x F) (hS : ∀ b, S b → S' b)
    (hw : ∀ b, S b → w'.heap[b]? = w.heap[b]?) (hF : ∀ b, F b → w'.heap[b]? = w.heap[b]?) (hz : w.heap.size ≤ w'.heap.size) : El S' w' deep t cs x F := by
  cases deep with
  | true => exact Own.mono hF h
  | false => exact ⟨Rep.mono hS hw hz h.1, h.2⟩

theorem El.len {S : Blk} {w : World} {deep : Bool} {t : Ty} {cs : List Value} {x : t.den} {F : Blk} (h : El S w deep t cs x F) : cs.length = t.size := by
  cases deep with
  | true => exact Own.len h
  | false => exact Rep.len h.1

theorem El.rep {S S' : Blk} {w : World} {deep : Bool} {t : Ty} {cs : List Value} {x : t.den} {F : Blk} (h : El S w deep t cs x F) (hS : ∀ b, S b → S' b) (hF : ∀ b, F b → S' b) : Rep S' w t cs x := by
  cases deep with
  | true => exact Own.rep h hF
  | false => exact Rep.mono hS (fun _ _ => rfl) (Nat.le_refl _) h.1

theorem ArrRel.mono {S S' : Blk} {w w' : World} {deep : Bool} {t : Ty} {v : Value} {xs : List t.den} {F : Blk} (h : ArrRel S w deep t v xs F) (hS : ∀ b, S b → S' b)
    (hw : ∀ b, S b → w'.heap[b]? = w.heap[b]?) (hF : ∀ b, F b → w'.heap[b]? = w.heap[b]?) (hz : w.heap.size ≤ w'.heap.size) : ArrRel S' w' deep t v xs F :=
  ArrOf.imp h hF fun _ _ _ hG ho => El.mono ho hS hw (fun b hb => hF b (hG b hb)) hz

theorem ArrRel.rep {S S' : Blk} {w : World} {deep : Bool} {t : Ty} {v : Value} {xs : List t.den} {F : Blk} (h : ArrRel S w deep t v xs F) (hS : ∀ b, S b → S' b) (hF : ∀ b, F b → S' b) : Rep S' w (.slice t) [v] xs :=
  ArrOf.rep h hF (fun _ _ _ hG ho => El.rep ho hS fun b hb => hF b (hG b hb)) (fun _ _ _ ho => El.len ho)

theorem ArrRel.lt {S : Blk} {w : World} {deep : Bool} {t : Ty} {v : Value} {xs : List t.den} {F : Blk} (h : ArrRel S w deep t v xs F) : ∀ b, F b → b < w.heap.size := by
  intro b hb
  rcases h with ⟨_, _, h⟩ | ⟨g, cap, cur, e, Fs, h1, h2, h3, h4, h5, h6, h7, h8, h9⟩
  · exact (h b hb).elim
  · rcases (h9 b).1 hb with rfl | ⟨i, hi, hF⟩
    · exact lt_of_heap h2
    · have := h6 i xs[i] (by simp [hi])
      cases deep with
      | true => exact Own.lt this b hF
      | false => exact (this.2 b hF).elim

/-- an own slice whose elements are from now on read only -/
theorem ArrRel.shallow {S S' : Blk} {w : World} {deep : Bool} {t : Ty} {v : Value} {xs : List t.den} {F : Blk} (h : ArrRel S w deep t v xs F) (hS : ∀ b, S b → S' b) (hF : ∀ b, F b → (∀ cap n g, v = .slice (some ⟨g, 0, none⟩) n cap → b ≠ g) → S' b) :
    ∃ F', (∀ b, F' b → F b) ∧ (∀ b, F' b → ∃ cap n g, v = .slice (some ⟨g, 0, none⟩) n cap ∧ b = g) ∧ (∀ b, F b → (∃ cap n g, v = .slice (some ⟨g, 0, none⟩) n cap ∧ b = g) → F' b) ∧ ArrRel S' w false t v xs F' := by
  rcases h with ⟨⟨o, rfl⟩, rfl, h⟩ | ⟨g, cap, cur, e, Fs, rfl, h2, h3, h4, h5, h6, h7, h8, h9⟩
  · exact ⟨fun _ => False, fun _ h => h.elim, fun _ h => h.elim, fun b hb _ => h b hb, .inl ⟨⟨o, rfl⟩, rfl, fun _ h => h⟩⟩
  · refine ⟨fun b => b = g, fun b hb => (h9 b).2 (.inl hb), fun b hb => ⟨cap, xs.length, g, rfl, hb⟩, fun b _ ⟨cap', n', g', hv, hb⟩ => by
    simp only [Value.slice.injEq, Option.some.injEq, Addr.mk.injEq] at hv
    obtain ⟨⟨rfl, _⟩, _⟩ := hv
    exact hb, .inr ⟨g, cap, cur, e, fun _ _ => False, rfl, h2, h3, h4, h5, fun i x hi => ⟨?_, fun _ h => h⟩, fun _ _ _ _ _ h => h.elim, fun _ _ h => h, fun b => by simp⟩⟩
    have hlt : i < xs.length := (List.getElem?_eq_some_iff.1 hi).1
    exact El.rep (h6 i x hi) hS fun b hb => hF b ((h9 b).2 (.inr ⟨i, hlt, hb⟩)) fun cap' n' g' hv hbg => by
      simp only [Value.slice.injEq, Option.some.injEq, Addr.mk.injEq] at hv
      obtain ⟨⟨rfl, _⟩, _⟩ := hv
      subst hbg
      exact h8 i hlt hb

end Go.Ab
