/-
  A slice of our own, put in order in its place by Go's library.
-/
import Derived.Test.YtkemmodgpafkmaaGreatDoorXLift
import Derived.Sort.Row
import Derived.Sort.Grow
import Derived.Shelf.GgSortFunc.RowK
namespace Go.Ab
open Go Go.RowKit Go.Sort
structure Flat (t : Ty) (enc : t.den → List Value) (wf : t.den → Prop) : Prop where
  own : ∀ (w : World) (cs : List Value) (x : t.den) (F : Blk), Own w t cs x F ↔ (cs = enc x ∧ wf x) ∧ ∀ q, ¬ F q
  len : ∀ x, (enc x).length = t.size
theorem flat_int : Flat (.int .i64) (fun x => [.int .i64 x]) (wfI .i64) := ⟨fun _ _ _ _ => Iff.rfl, fun _ => rfl⟩
abbrev T3 : Ty := .pair (.int .i64) (.pair (.int .i64) (.pair (.int .i64) .unit))
def enc3 (x : T3.den) : List Value := [.int .i64 x.1, .int .i64 x.2.1, .int .i64 x.2.2.1]
def wf3 (x : T3.den) : Prop := wfI .i64 x.1 ∧ wfI .i64 x.2.1 ∧ wfI .i64 x.2.2.1
theorem flat_3 : Flat T3 enc3 wf3 := ⟨fun w cs x F => by
  constructor
  · rintro ⟨a, b, G, H, rfl, ⟨⟨rfl, w1⟩, hG⟩, ⟨c, d, G2, H2, rfl, ⟨⟨rfl, w2⟩, hG2⟩, ⟨e, f, G3, H3, rfl, ⟨⟨rfl, w3⟩, hG3⟩, ⟨rfl, hH3⟩, _, h6⟩, _, h5⟩, _, h4⟩
    refine ⟨⟨rfl, w1, w2, w3⟩, fun q hq => ?_⟩
    rcases (h4 q).1 hq with h | h
    · exact hG q h
    · rcases (h5 q).1 h with h | h
      · exact hG2 q h
      · rcases (h6 q).1 h with h | h
        · exact hG3 q h
        · exact hH3 q h
  · rintro ⟨⟨rfl, w1, w2, w3⟩, hF⟩
    refine ⟨[_], [_, _], F, F, rfl, ⟨⟨rfl, w1⟩, hF⟩, ⟨[_], [_], F, F, rfl, ⟨⟨rfl, w2⟩, hF⟩, ⟨[_], [], F, F, rfl, ⟨⟨rfl, w3⟩, hF⟩, ⟨rfl, hF⟩, fun q h => absurd h (hF q), fun q => by simp⟩, fun q h => absurd h (hF q), fun q => by simp⟩, fun q h => absurd h (hF q), fun q => by simp⟩, fun _ => rfl⟩
variable {P : Program} {f : FuncId} {t : Ty} {enc : t.den → List Value} {wf : t.den → Prop} {w : World}
theorem flatK_get [Inhabited t.den] (h : Flat t enc wf) (d : Array t.den) (i j : Nat) (hi : i < d.size) (hj : j < t.size) : (flatK enc t.size d)[i * t.size + j]! = (enc d[i]!)[j]! := by
  have hlt : i * t.size + j < d.size * t.size := by
    have := Nat.mul_le_mul_right t.size (Nat.succ_le_of_lt hi)
    rw [Nat.succ_mul] at this
    omega
  rw [get_flatK _ _ _ _ hlt]
  have h0 : 0 < t.size := by omega
  rw [Nat.mul_comm, Nat.mul_add_div h0, Nat.div_eq_of_lt hj, Nat.mul_add_mod, Nat.mod_eq_of_lt hj, Nat.add_zero]
theorem row_world [Inhabited t.den] {d : Array t.den} {n g : Nat} {os : Array Obj} {cur : Array Value} {e : TypeId} (hg : w.heap[g]? = some (.cells cur e (0, 0))) {w' : World} (hw : w' = grow (putRow id (Sort.ahead w n) g 0 (flatK enc t.size d)) os) :
    w'.heap[g]? = some (.cells (putCells id 0 (flatK enc t.size d) cur) e (0, 0)) ∧ (∀ q, q < w.heap.size → q ≠ g → w'.heap[q]? = w.heap[q]?) ∧ w.heap.size ≤ w'.heap.size ∧ w'.os = w.os ∧ w'.tape = w.tape ∧ w'.output = w.output ∧ ∀ a : Addr, a.block < w.heap.size → w'.frozen? a = w.frozen? a := by
  subst hw
  have hlt := lt_of_heap hg
  have hb : ∀ q, q < w.heap.size → (grow (putRow id (Sort.ahead w n) g 0 (flatK enc t.size d)) os).heap[q]? = (w.heap[q]?).map fun o => if q = g then onCells (putCells id 0 (flatK enc t.size d)) o else o := fun q hq => by
    have h1 : q < (w.heap.modify g (onCells (putCells id 0 (flatK enc t.size d)))).size := by simpa using hq
    show ((w.heap.modify g (onCells (putCells id 0 (flatK enc t.size d)))) ++ os)[q]? = _
    rw [Array.getElem?_append_left h1, Array.getElem?_modify]
    by_cases e : g = q
    · subst e; simp
    · rw [if_neg e]; have : ¬ q = g := fun h => e h.symm
      simp [this]
  refine ⟨by rw [hb g hlt, hg]; simp [onCells], fun q hq hne => by rw [hb q hq]; simp [hne], ?_, rfl, rfl, rfl, fun a ha => ?_⟩
  · show w.heap.size ≤ ((w.heap.modify g _) ++ os).size
    simp
  · unfold World.frozen?
    rw [hb a.block ha]
    by_cases e : a.block = g
    · rw [e, hg]; simp [onCells]
    · cases w.heap[a.block]? <;> simp [e]
theorem sort_own [Tabs] [Inhabited t.den] (hF : Flat t enc wf) (hp : 0 < t.size) {ps : List PK} (hv : allVal ps = true) {srt : List t.den → List t.den} (hperm : ∀ xs, (srt xs).Perm xs) {S : Blk} {v : Value} {xs : List t.den} {G : Blk} (o : Own w (.slice t) [v] xs G) :
    (∃ a : Option Addr, v = .slice a 0 0 ∧ xs = [] ∧ ∀ q, ¬ G q) ∨
    ∃ g cap, v = .slice (some ⟨g, 0, none⟩) xs.toArray.size cap ∧ xs.toArray.size ≤ maxLen ∧ HoldsK enc t.size w g 0 xs.toArray ∧ g < w.heap.size ∧ G g ∧ ∀ (n : Nat) (os : Array Obj) (w' : World), w' = grow (putRowK enc t.size (Sort.ahead w n) g 0 (srt xs).toArray) os →
      Past w w' G ∧ Own w' (.slice t) [v] (srt xs) G := by
  obtain ⟨v', hv', o⟩ := o
  cases hv'
  rcases o with ⟨⟨a, h1⟩, h2, h3⟩ | ⟨g, cap, cur, e, Fs, h1, h2, h3, h4, h5, h6, h7, h8, h9⟩
  · exact .inl ⟨a, h1, h2, h3⟩
  · refine .inr ⟨g, cap, by rw [h1]; simp, by simpa using Nat.le_trans h4 h5, ?_, lt_of_heap h2, (h9 g).2 (.inl rfl), ?_⟩
    · intro j hj
      simp only [size_flatK, List.size_toArray] at hj
      have hi : j / t.size < xs.length := Nat.div_lt_of_lt_mul (by rw [Nat.mul_comm]; exact hj)
      have hel := ((hF.own _ _ _ _).1 (h6 (j / t.size) xs[j / t.size] (by simp [hi]))).1.1
      have hm : j % t.size < t.size := Nat.mod_lt _ hp
      have hjl : j < cur.size := by
        have := Nat.mul_le_mul_right t.size h4
        omega
      refine ⟨?_, by unfold World.frozen?; rw [h2]; simp⟩
      unfold World.cell?
      rw [h2]
      simp only [Option.isSome_none, Bool.false_eq_true, if_false, Nat.zero_add]
      rw [show (flatK enc t.size xs.toArray)[j]! = (enc xs.toArray[j / t.size]!)[j % t.size]! from get_flatK _ _ _ _ (by simpa using hj)]
      have e1 : xs.toArray[j / t.size]! = xs[j / t.size] := by simp [hi]
      rw [e1, ← hel]
      have e2 : (((cur.toList.drop (j / t.size * t.size)).take t.size))[j % t.size]! = cur[j] := by
        have hjj : j / t.size * t.size + j % t.size = j := Nat.div_add_mod' j t.size
        rw [List.getElem!_eq_getElem?_getD, List.getElem?_take_of_lt hm, List.getElem?_drop, hjj]
        simp [hjl]
      rw [e2]
      simp [hjl, id]
    · intro n os w' hw
      obtain ⟨k1, k2, k3, k4, k5, k6, k7⟩ := row_world (t := t) (enc := enc) h2 hw
      have hpl := (hperm xs).length_eq
      refine ⟨⟨k4, k5, k6, k3, fun q hq hn => k2 q hq fun e => hn (e ▸ (h9 g).2 (.inl rfl)), k7⟩, v, rfl, .inr ⟨g, cap, _, e, fun _ _ => False, by rw [h1, hpl], k1, ?_, by rw [hpl]; exact h4, h5, fun i x hi => ?_, fun _ _ _ _ _ h => h.elim, fun _ _ h => h, fun q => ?_⟩⟩
      · simp [putCells, h3]
      · have hil : i < xs.length := by rw [← hpl]; exact (List.getElem?_eq_some_iff.1 hi).1
        refine (hF.own _ _ _ _).2 ⟨⟨?_, ?_⟩, fun _ h => h⟩
        · apply List.ext_getElem?
          intro j
          by_cases hj : j < t.size
          · have hb : i * t.size + j < xs.length * t.size := by
              have := Nat.mul_le_mul_right t.size (Nat.succ_le_of_lt hil)
              rw [Nat.succ_mul] at this
              omega
            have hc : i * t.size + j < cur.size := by
              have := Nat.mul_le_mul_right t.size h4
              omega
            rw [List.getElem?_take_of_lt hj, List.getElem?_drop, Array.getElem?_toList]
            have hz : (flatK enc t.size (srt xs).toArray).size = xs.length * t.size := by simp [hpl]
            simp only [putCells, Array.getElem?_mapIdx, Nat.zero_le, Nat.zero_add, true_and, hz]
            have hx : (srt xs).toArray[i]! = x := by
              have : i < (srt xs).length := by rw [hpl]; exact hil
              have hx := (List.getElem?_eq_some_iff.1 hi).2
              simp [this, hx]
            have := flatK_get hF (srt xs).toArray i j (by simp [hpl, hil]) hj
            rw [hx] at this
            simp only [Array.getElem?_eq_getElem hc, Option.map_some, if_pos hb, Nat.sub_zero, id, this]
            have hlen : j < (enc x).length := by rw [hF.len]; exact hj
            simp [hlen]
          · rw [List.getElem?_eq_none (by simp; omega), List.getElem?_eq_none (by rw [hF.len]; omega)]
        · have hmem : x ∈ xs := (hperm xs).mem_iff.1 (List.mem_of_getElem? hi)
          obtain ⟨j, hj, rfl⟩ := List.getElem_of_mem hmem
          exact ((hF.own _ _ _ _).1 (h6 j xs[j] (by simp [hj]))).1.2
      · have hn : ∀ i, i < xs.length → ¬ Fs i q := fun i hi h => ((hF.own _ _ _ _).1 (h6 i xs[i] (by simp [hi]))).2 q h
        exact ⟨fun h => .inl (((h9 q).1 h).resolve_right fun ⟨i, hi, h⟩ => hn i hi h), fun h => (h9 q).2 (.inl (h.resolve_right fun ⟨_, _, h⟩ => h))⟩
theorem sfFlat1 {α : Type} [Inhabited α] (c : α → Value) (d : Array α) : flatK (fun x => [c x]) 1 d = d.map c := by
  apply Array.ext
  · simp
  · intro i h1 h2
    have hi : i < d.size := by simpa using h2
    simp [flatK, hi, Nat.mod_one]
theorem sfHolds1 {α : Type} [Inhabited α] {c : α → Value} {b o : Nat} {d : Array α} (h : HoldsK (fun x => [c x]) 1 w b o d) : Holds c w b o d := by
  unfold HoldsK at h
  rw [sfFlat1] at h
  intro j hj
  have := h j (by simpa using hj)
  simpa [hj] using this
theorem sfPut1 {α : Type} [Inhabited α] (c : α → Value) (w : World) (b o : Nat) (d : Array α) : putRow c w b o d = putRowK (fun x => [c x]) 1 w b o d := by
  unfold putRowK putRow
  rw [sfFlat1]
  congr 1
  funext k
  unfold putCells
  apply Array.ext
  · simp
  · intro i h1 h2
    simp only [Array.getElem_mapIdx, Array.size_map]
    split
    · rename_i h
      have : i - o < d.size := by omega
      simp [this]
    · rfl
def sortL {α : Type} (srt : List α → List α) (l : List α) : Option (List α) := if l.length < 4611686018427387904 then some (srt l) else none
theorem sort_core [Tabs] [Inhabited t.den] (hF : Flat t enc wf) (hp : 0 < t.size) {srt : List t.den → List t.den} (hperm : ∀ xs, (srt xs).Perm xs) (mk : Value → Array Value)
    (hc0 : ∀ (a : Option Addr) (w : World), Calls P f (mk (.slice a 0 0)) w fun e w' => e = .returned (.tuple #[]) ∧ w' = w)
    (hc : ∀ (g cap : Nat) (xs : List t.den) (w : World), HoldsK enc t.size w g 0 xs.toArray → g < w.heap.size → xs.length < 4611686018427387904 → Calls P f (mk (.slice (some ⟨g, 0, none⟩) xs.toArray.size cap)) w fun e w' => e = .returned (.tuple #[]) ∧ ∃ n os, w' = grow (putRowK enc t.size (Sort.ahead w n) g 0 (srt xs).toArray) os)
    {v : Value} {x : List t.den} {G : Blk} (ho : OTy w (.slice t) v x G) (hx : x.length < 4611686018427387904) :
    Calls P f (mk v) w fun e w' => ∃ FM, e = .returned (.tuple #[]) ∧ Past w w' G ∧ OTy w' (.slice t) v (srt x) FM ∧ ∀ q, FM q → G q := by
  obtain ⟨cs, rfl, v0, rfl, ho⟩ := ho
  have ho : Own w (.slice t) [v0] x G := ⟨v0, rfl, ho⟩
  rcases sort_own hF hp (ps := []) rfl hperm (S := G) ho with ⟨a, h1, h2, h3⟩ | ⟨g, cap, h1, hm, h2, h3, h4, h5⟩
  · subst h1
    subst h2
    refine Calls.mono (hc0 a w) ?_
    rintro e w' ⟨rfl, rfl⟩
    have hs : srt [] = [] := List.Perm.eq_nil (hperm [])
    exact ⟨fun _ => False, rfl, ⟨rfl, rfl, rfl, Nat.le_refl _, fun _ _ _ => rfl, fun _ _ => rfl⟩, ⟨_, rfl, _, rfl, .inl ⟨⟨a, rfl⟩, hs, fun _ h => h⟩⟩, fun _ h => h.elim⟩
  · subst h1
    refine Calls.mono (hc g cap x w h2 h3 hx) ?_
    rintro e w' ⟨rfl, n, os, hw⟩
    obtain ⟨k1, k2⟩ := h5 n os w' hw
    exact ⟨G, rfl, k1, ⟨_, rfl, k2⟩, fun _ h => h⟩
theorem sort_out [Tabs] {srt : List t.den → List t.den} {v : Value} {x r : List t.den} {S Ms G : Blk} {e : Ending} {w' : World} (hMG : ∀ q, Ms q ↔ G q) (hMs : ∀ q, Ms q → ¬ S q ∧ q < w.heap.size) (hr : srt x = r)
    (h : ∃ FM, e = .returned (.tuple #[]) ∧ Past w w' G ∧ OTy w' (.slice t) v (srt x) FM ∧ ∀ q, FM q → G q) :
    ∃ (vs : List Value) (S' FM FR : Blk), e = .returned (retV vs) ∧ Past w w' Ms ∧ (∀ q, S q → S' q) ∧ (∀ q, S' q → S q ∨ (w.heap.size ≤ q ∧ q < w'.heap.size)) ∧
      (OTy w' (.slice t) v r FM ∧ vs = [] ∧ ∀ q, ¬ FR q) ∧ (∀ q, FM q → (Ms q ∨ w.heap.size ≤ q) ∧ q < w'.heap.size ∧ ¬ S' q) ∧ (∀ q, FR q → w.heap.size ≤ q ∧ q < w'.heap.size ∧ ¬ S' q ∧ ¬ FM q) := by
  obtain ⟨FM, rfl, k1, k2, k3⟩ := h
  subst hr
  have hm : ∀ q, FM q → Ms q := fun q h => (hMG q).2 (k3 q h)
  exact ⟨[], S, FM, fun _ => False, rfl, ⟨k1.os, k1.tape, k1.output, k1.size, fun q hq hn => k1.block q hq fun h => hn ((hMG q).2 h), k1.fz⟩, fun _ h => h, fun _ h => .inl h, ⟨k2, rfl, fun _ h => h⟩, fun q h => ⟨.inl (hm q h), Nat.lt_of_lt_of_le (hMs q (hm q h)).2 k1.size, (hMs q (hm q h)).1⟩, fun _ h => h.elim⟩
theorem sortL_some {α : Type} {srt : List α → List α} {l r : List α} (h : sortL srt l = some r) : l.length < 4611686018427387904 ∧ srt l = r := by
  unfold sortL at h
  split at h
  · exact ⟨by assumption, by injection h⟩
  · cases h
theorem sort_sound [Tabs] [Inhabited t.den] (hF : Flat t enc wf) (hp : 0 < t.size) {srt : List t.den → List t.den} (hperm : ∀ xs, (srt xs).Perm xs)
    (hc0 : ∀ (a : Option Addr) (w : World), Calls P f #[.slice a 0 0] w fun e w' => e = .returned (.tuple #[]) ∧ w' = w)
    (hc : ∀ (g cap : Nat) (xs : List t.den) (w : World), HoldsK enc t.size w g 0 xs.toArray → g < w.heap.size → xs.length < 4611686018427387904 → Calls P f #[.slice (some ⟨g, 0, none⟩) xs.toArray.size cap] w fun e w' => e = .returned (.tuple #[]) ∧ ∃ n os, w' = grow (putRowK enc t.size (Sort.ahead w n) g 0 (srt xs).toArray) os) :
    Sound P f ⟨[.own (.slice t)], [], fun x => sortL srt x⟩ := by
  intro w args x r S Ms hT hS hargs hMs hr
  obtain ⟨v, r1, G, H, rfl, ho, ⟨rfl, hH⟩, hd, hM⟩ := hargs
  have hr : sortL srt (x : List t.den) = some r := hr
  obtain ⟨hlen, hs⟩ := sortL_some hr
  refine Calls.mono (sort_core hF hp hperm (fun v => #[v]) hc0 hc ho hlen) fun e w' h => ?_
  obtain ⟨vs, S', FM, FR, k1, k2, k3, k4, ⟨k5, k6, k7⟩, k8, k9⟩ := sort_out (fun q => ⟨fun h => ((hM q).1 h).resolve_right (hH q), fun h => (hM q).2 (.inl h)⟩) hMs hs h
  exact ⟨vs, S', FM, FR, k1, k2, k3, k4, ⟨_, [], FM, fun _ => False, rfl, k5, ⟨fun _ h => h, k6, k7⟩, fun _ _ h => h, fun _ => by simp⟩, k8, k9⟩
theorem sort_soundF [Tabs] [Inhabited t.den] {c : Nat} (hF : Flat t enc wf) (hp : 0 < t.size) {srt : List t.den → List t.den} (hperm : ∀ xs, (srt xs).Perm xs)
    (hc0 : ∀ (a : Option Addr) (w : World), Calls P f #[.slice a 0 0, .func (.func c) #[] #[]] w fun e w' => e = .returned (.tuple #[]) ∧ w' = w)
    (hc : ∀ (g cap : Nat) (xs : List t.den) (w : World), HoldsK enc t.size w g 0 xs.toArray → g < w.heap.size → xs.length < 4611686018427387904 → Calls P f #[.slice (some ⟨g, 0, none⟩) xs.toArray.size cap, .func (.func c) #[] #[]] w fun e w' => e = .returned (.tuple #[]) ∧ ∃ n os, w' = grow (putRowK enc t.size (Sort.ahead w n) g 0 (srt xs).toArray) os) :
    Sound P f ⟨[.own (.slice t), .fn c []], [], fun x => sortL srt x.1⟩ := by
  intro w args x r S Ms hT hS hargs hMs hr
  obtain ⟨v, r1, G, H, rfl, ho, ⟨cs, r2, rfl, hcs, rfl, hH⟩, hd, hM⟩ := hargs
  obtain ⟨x, x2⟩ := x
  have hr : sortL srt (x : List t.den) = some r := hr
  obtain ⟨hlen, hs⟩ := sortL_some hr
  have hcs : cs = #[] := by
    have : cs.toList = [] := hcs
    simpa using this
  subst hcs
  refine Calls.mono (sort_core hF hp hperm (fun v => #[v, .func (.func c) #[] #[]]) hc0 hc ho hlen) fun e w' h => ?_
  obtain ⟨vs, S', FM, FR, k1, k2, k3, k4, ⟨k5, k6, k7⟩, k8, k9⟩ := sort_out (fun q => ⟨fun h => ((hM q).1 h).resolve_right (hH q), fun h => (hM q).2 (.inl h)⟩) hMs hs h
  exact ⟨vs, S', FM, FR, k1, k2, k3, k4, ⟨_, _, FM, fun _ => False, rfl, k5, ⟨fun _ h => h, k6, k7⟩, fun _ _ h => h, fun _ => by simp⟩, k8, k9⟩
end Go.Ab
