/-
  append: what it leaves in memory.
-/
import Derived.Test.YtlhplhjibadplaaXOps4
import Derived.Laws.AppendOwn
namespace Go.Ab
open Go Go.RowKit

theorem list_of {α : Type} {p : Nat → α → Prop} : ∀ (n : Nat), (∀ i, i < n → ∃ y, p i y) → ∃ xs : List α, xs.length = n ∧ ∀ i y, xs[i]? = some y → p i y
  | 0, _ => ⟨[], rfl, fun i y h => by simp at h⟩
  | n + 1, h => by
    obtain ⟨xs, h1, h2⟩ := list_of n fun i hi => h i (by omega)
    obtain ⟨y, hy⟩ := h n (by omega)
    refine ⟨xs ++ [y], by simp [h1], fun i z hz => ?_⟩
    by_cases hi : i < xs.length
    · rw [List.getElem?_append_left hi] at hz; exact h2 i z hz
    · rw [List.getElem?_append_right (by omega)] at hz
      have : i - xs.length = 0 := by
        have := (List.getElem?_eq_some_iff.1 hz).1
        simp at this
        omega
      rw [this] at hz
      simp at hz
      subst hz
      have : i = n := by omega
      subst this
      exact hy


/-! the rows of a slice's cells -/

theorem flatten_len {sz : Nat} : ∀ {L : List (List Value)}, (∀ l ∈ L, l.length = sz) → L.flatten.length = L.length * sz
  | [], _ => by simp
  | l :: L, h => by
    have h1 := h l (by simp)
    have h2 := flatten_len (L := L) fun x hx => h x (by simp [hx])
    simp only [List.flatten_cons, List.length_append, List.length_cons, Nat.add_mul, h1, h2]
    omega

theorem flatten_seg {sz : Nat} : ∀ {L : List (List Value)} {i : Nat} {l : List Value}, (∀ l ∈ L, l.length = sz) → L[i]? = some l → (L.flatten.drop (i * sz)).take sz = l
  | [], _, _, _, e => by simp at e
  | l0 :: L, 0, l, h, e => by
    simp at e
    subst e
    have := h l0 (by simp)
    simp only [Nat.zero_mul, List.drop_zero, List.flatten_cons]
    rw [← this, List.take_left]
  | l0 :: L, i + 1, l, h, e => by
    have h1 := h l0 (by simp)
    have := flatten_seg (L := L) (i := i) (fun x hx => h x (by simp [hx])) (by simpa using e)
    rw [List.flatten_cons, Nat.add_mul, Nat.one_mul, Nat.add_comm, ← List.drop_drop, ← h1, List.drop_left]
    rw [h1]
    exact this

theorem flatten_get {sz : Nat} : ∀ {L : List (List Value)} {j : Nat} {u : Value}, (∀ l ∈ L, l.length = sz) → L.flatten[j]? = some u → ∃ i r l, j = i * sz + r ∧ L[i]? = some l ∧ l[r]? = some u
  | [], _, _, _, e => by simp at e
  | l0 :: L, j, u, h, e => by
    have h1 := h l0 (by simp)
    rw [List.flatten_cons] at e
    by_cases hj : j < l0.length
    · rw [List.getElem?_append_left hj] at e
      exact ⟨0, j, l0, by simp, rfl, e⟩
    · rw [List.getElem?_append_right (by omega)] at e
      obtain ⟨i, r, l, e1, e2, e3⟩ := flatten_get (L := L) (fun x hx => h x (by simp [hx])) e
      exact ⟨i + 1, r, l, by rw [Nat.add_mul, Nat.one_mul]; omega, by simpa using e2, e3⟩

section
variable {P : Program} {E : Env} {h : HGet} {S : Blk} {w w' w0 : World} {m m' : OMap} {B : Nat} {M0 : Blk}

theorem frozen_setRow {w : World} {b : Nat} {cs ncs : Array Value} {t : TypeId} {i : Nat × Nat} (h : w.heap[b]? = some (.cells cs t i)) (a : Addr) : (w.setRow b ncs).frozen? a = w.frozen? a := by
  by_cases e : a.block = b
  · simp only [World.frozen?, e, setRow_heap w b cs ncs t i h, h]
  · simp only [World.frozen?, setRow_other w b a.block ncs e]

theorem size_setRow (g : Nat) (cur : Array Value) : (w.setRow g cur).heap.size = w.heap.size := by simp [World.setRow]

/-- a slice that is read: its cells, row by row -/
theorem Rep.rows [Tabs] {T : Blk} {t : Ty} {v : Value} {ys : List t.den} (r : Rep T w (.slice t) [v] ys) : (v = .slice none 0 0 ∧ ys = []) ∨
    ∃ (a : Addr) (cap : Nat) (news : List Value), v = .slice (some a) ys.length cap ∧ news.length = ys.length * t.size ∧ (∀ j u, news[j]? = some u → w.cell? (a.add j) = some u) ∧ (∀ u ∈ news, u.oneCell' = true) ∧ ∀ i y, ys[i]? = some y → Rep T w t ((news.drop (i * t.size)).take t.size) y := by
  obtain ⟨_, ⟨e, rfl⟩ | ⟨a, cap, e, _, hb, he⟩⟩ := r
  · simp at e; exact .inl ⟨e, rfl⟩
  · simp at e
    right
    have he' : ∀ i, i < ys.length → ∃ ds : List Value, ds.length = t.size ∧ ReadsAt w a.block (a.off + i * t.size) ds ∧ ∀ y, ys[i]? = some y → Rep T w t ds y := fun i hi => by
      obtain ⟨ds, h1, h2, h3⟩ := he i ys[i] (by simp [hi])
      exact ⟨ds, h1, h2, fun y hy => by simp [hi] at hy; subst hy; exact h3⟩
    obtain ⟨L, hL, hp⟩ := list_of (p := fun i (ds : List Value) => ds.length = t.size ∧ ReadsAt w a.block (a.off + i * t.size) ds ∧ ∀ y, ys[i]? = some y → Rep T w t ds y) ys.length he'
    have hlen : ∀ l ∈ L, l.length = t.size := fun l hl => by
      obtain ⟨i, hi, rfl⟩ := List.getElem_of_mem hl
      exact (hp i L[i] (by simp [hi])).1
    have each : ∀ j u, L.flatten[j]? = some u → w.cell? (a.add j) = some u ∧ u.oneCell' = true := fun j u hu => by
      obtain ⟨i, r, l, rfl, e2, e3⟩ := flatten_get hlen hu
      obtain ⟨_, k2, k3⟩ := hp i l e2
      have hi : i < ys.length := by have := (List.getElem?_eq_some_iff.1 e2).1; omega
      have hsp := (hb.resolve_left fun h0 => by rw [h0] at hi; simp at hi).1
      obtain ⟨b, o, sp⟩ := a
      simp only at hsp
      subst hsp
      have k4 := (flat_rel (h := fun _ => none) (m := fun _ => none) (k3 ys[i] (by simp [hi]))).2.1 u (List.mem_of_getElem? e3)
      refine ⟨?_, k4⟩
      rw [add_none]
      have := k2 r u e3
      rw [show o + (i * t.size + r) = o + i * t.size + r by omega]
      exact this
    refine ⟨a, cap, L.flatten, e, by rw [flatten_len hlen, hL], fun j u hu => (each j u hu).1, fun u hu => ?_, fun i y hy => ?_⟩
    · obtain ⟨j, hj, rfl⟩ := List.getElem_of_mem hu
      exact (each j _ (by simp)).2
    · have hi : i < L.length := by have := (List.getElem?_eq_some_iff.1 hy).1; omega
      rw [flatten_seg hlen (i := i) (l := L[i]) (by simp [hi])]
      exact (hp i L[i] (by simp [hi])).2.2 y hy

/-- data that lead nowhere own what they need -/
theorem Rep.own_plain {T : Blk} : ∀ {t : Ty} {ds : List Value} {x : t.den}, t.leads = false → Rep T w t ds x → Own w t ds x (fun _ => False)
  | .unit, _, _, _, r => ⟨r, fun _ h => h⟩
  | .bool, _, _, _, r => ⟨r, fun _ h => h⟩
  | .int _, _, _, _, r => ⟨r, fun _ h => h⟩
  | .str, _, _, _, r => ⟨r, fun _ h => h⟩
  | .slice _, _, _, h, _ => by cases h
  | .pair a b, _, _, h, r => by
    simp only [Ty.leads, Bool.or_eq_false_iff] at h
    obtain ⟨p, q, e, r1, r2⟩ := r
    exact ⟨p, q, _, _, e, Rep.own_plain h.1 r1, Rep.own_plain h.2 r2, fun _ h => h.elim, fun _ => by simp⟩

/-- the parts of a row, when a piece of one is written over -/

theorem Rep.any_leads {S' : Blk} {w' : World} : ∀ {t : Ty} {ds : List Value} {x : t.den}, t.leads = false → Rep S w t ds x → Rep S' w' t ds x
  | .unit, _, _, _, r => r
  | .bool, _, _, _, r => r
  | .int _, _, _, _, r => r
  | .str, _, _, _, r => r
  | .slice _, _, _, h, _ => by cases h
  | .pair a b, ds, x, h, r => by
    simp only [Ty.leads, Bool.or_eq_false_iff] at h
    obtain ⟨p, q, e, r1, r2⟩ := r
    exact ⟨p, q, e, Rep.any_leads h.1 r1, Rep.any_leads h.2 r2⟩

theorem seg_of_take [Tabs] {L M : List Value} {n sz k : Nat} (h : L.take (n * sz) = M) (hk : k < n) : (L.drop (k * sz)).take sz = (M.drop (k * sz)).take sz := by
  subst h
  have : (k + 1) * sz ≤ n * sz := Nat.mul_le_mul_right _ (by omega)
  rw [Nat.add_mul, Nat.one_mul] at this
  apply List.ext_getElem?
  intro j
  rw [seg_get, seg_get]
  split
  · rw [List.getElem?_take_of_lt (by omega)]
  · rfl

theorem seg_append [Tabs] {A N : List Value} {n sz k : Nat} (hA : A.length = n * sz) : ((A ++ N).drop (k * sz)).take sz = if k < n then (A.drop (k * sz)).take sz else (N.drop ((k - n) * sz)).take sz := by
  apply List.ext_getElem?
  intro j
  rw [seg_get]
  by_cases hk : k < n
  · have : (k + 1) * sz ≤ n * sz := Nat.mul_le_mul_right _ (by omega)
    rw [Nat.add_mul, Nat.one_mul] at this
    rw [if_pos hk, seg_get]
    split
    · rw [List.getElem?_append_left (by omega)]
    · rfl
  · have : n * sz ≤ k * sz := Nat.mul_le_mul_right _ (by omega)
    rw [if_neg hk, seg_get]
    split
    · rw [List.getElem?_append_right (by omega)]
      congr 1
      rw [Nat.sub_mul]
      omega
    · rfl

/-- the old elements and the new ones, in a block -/
theorem arr_joinX [Tabs] {D : Bool} {t : Ty} {xs ys : List t.den} {cur : Array Value} {te : TypeId} {g cap : Nat} {A N : List Value} {Fs Gs : Nat → Blk} (hg : w.heap[g]? = some (.cells cur te (0, 0))) (hc : cur.size = cap * t.size) (hcap : xs.length + ys.length ≤ cap) (hm : cap ≤ maxLen)
    (hA : A.length = xs.length * t.size) (hcut : cur.toList.take ((xs.length + ys.length) * t.size) = A ++ N)
    (hx : ∀ i x, xs[i]? = some x → El S w D t ((A.drop (i * t.size)).take t.size) x (Fs i)) (hy : ∀ i y, ys[i]? = some y → El S w D t ((N.drop (i * t.size)).take t.size) y (Gs i))
    (hd : ∀ i j b, i < xs.length → j < xs.length → Fs i b → Fs j b → i = j) (hn : ∀ i, i < xs.length → ¬ Fs i g)
    (hd2 : ∀ i j b, i < ys.length → j < ys.length → Gs i b → Gs j b → i = j) (hn2 : ∀ i, i < ys.length → ¬ Gs i g) (hx2 : ∀ i j b, i < xs.length → j < ys.length → Fs i b → Gs j b → False) :
    ArrRel S w D t (.slice (some ⟨g, 0, none⟩) (xs.length + ys.length) cap) (xs ++ ys) (fun b => b = g ∨ (∃ i, i < xs.length ∧ Fs i b) ∨ ∃ i, i < ys.length ∧ Gs i b) := by
  refine .inr ⟨g, cap, cur, te, fun i b => if i < xs.length then Fs i b else Gs (i - xs.length) b, by simp, hg, hc, by simpa using hcap, hm, fun i x hi => ?_, fun i j b hi hj h1 h2 => ?_, fun i hi h => ?_, fun b => ?_⟩
  · have hlt : i < xs.length + ys.length := by have := (List.getElem?_eq_some_iff.1 hi).1; simpa using this
    rw [seg_of_take hcut hlt, seg_append hA]
    by_cases h : i < xs.length
    · rw [List.getElem?_append_left h] at hi
      rw [if_pos h]
      have e : (fun b => if i < xs.length then Fs i b else Gs (i - xs.length) b) = Fs i := by funext b; simp [h]
      show El S w D t _ x (fun b => if i < xs.length then Fs i b else Gs (i - xs.length) b)
      rw [e]
      exact hx i x hi
    · rw [List.getElem?_append_right (by omega)] at hi
      rw [if_neg h]
      have e : (fun b => if i < xs.length then Fs i b else Gs (i - xs.length) b) = Gs (i - xs.length) := by funext b; simp [h]
      show El S w D t _ x (fun b => if i < xs.length then Fs i b else Gs (i - xs.length) b)
      rw [e]
      exact hy _ x hi
  · simp only [List.length_append] at hi hj
    by_cases c1 : i < xs.length
    · by_cases c2 : j < xs.length
      · simp only [if_pos c1] at h1; simp only [if_pos c2] at h2; exact hd i j b c1 c2 h1 h2
      · simp only [if_pos c1] at h1; simp only [if_neg c2] at h2; exact (hx2 i _ b c1 (by omega) h1 h2).elim
    · by_cases c2 : j < xs.length
      · simp only [if_neg c1] at h1; simp only [if_pos c2] at h2; exact (hx2 j _ b c2 (by omega) h2 h1).elim
      · simp only [if_neg c1] at h1; simp only [if_neg c2] at h2
        have := hd2 _ _ b (by omega) (by omega) h1 h2
        omega
  · simp only [List.length_append] at hi
    by_cases c1 : i < xs.length
    · simp only [if_pos c1] at h; exact hn i c1 h
    · simp only [if_neg c1] at h; exact hn2 _ (by omega) h
  · simp only [List.length_append]
    refine ⟨fun h => h.imp (fun h => h) fun h => ?_, fun h => h.imp (fun h => h) fun ⟨i, hi, hF⟩ => ?_⟩
    · rcases h with ⟨i, hi, hF⟩ | ⟨i, hi, hF⟩
      · exact ⟨i, by omega, by rw [if_pos hi]; exact hF⟩
      · exact ⟨xs.length + i, by omega, by rw [if_neg (by omega), Nat.add_sub_cancel_left]; exact hF⟩
    · by_cases c1 : i < xs.length
      · rw [if_pos c1] at hF; exact .inl ⟨i, c1, hF⟩
      · rw [if_neg c1] at hF; exact .inr ⟨i - xs.length, by omega, hF⟩

/-- append where there is room -/
theorem append_room {t ty te e : TypeId} {i : TypeInfo} (ht : P.underlying t = some (.slice e)) (hi : P.info? e = some i) {g sLen sCap : Nat} {cur : Array Value} (hg : w.heap[g]? = some (.cells cur te (0, 0))) {x : Value} {m : Nat} {news : List Value}
    (hlen : Builtin.lenOf x = pure m) (hf : (Builtin.firstCells i.size m x).run P w = .ok news.toArray w) (h1 : ∀ u ∈ news, u.oneCell' = true) (hroom : sLen + m ≤ sCap) (hfit : sLen * i.size + news.length ≤ cur.size) :
    (Builtin.append_ #[t, t] ty #[.slice (some ⟨g, 0, none⟩) sLen sCap, x]).run P w = .ok (.slice (some ⟨g, 0, none⟩) (sLen + m) sCap) (w.setRow g (cur.toList.take (sLen * i.size) ++ news ++ cur.toList.drop (sLen * i.size + news.length)).toArray) := by
  have hst := run_storeCells_at P g (sLen * i.size) te news 0 cur w hg (by simpa using hfit) h1
  simp only [Nat.add_zero] at hst
  simp [Builtin.append_, run_underlying ht, sizeOf, typeInfo, hi, hlen, hroom, hf, Addr.add_lit, hst]

theorem El.lt {d : Bool} {t : Ty} {cs : List Value} {x : t.den} {F : Blk} (e : El S w d t cs x F) : ∀ q, F q → q < w.heap.size := by
  cases d with
  | true => exact Own.lt e
  | false => exact fun q hq => (e.2 q hq).elim

theorem heap_new (w : World) (c : Array Value) (t : TypeId) : (w.drew.alloc (.cells c t)).heap[w.heap.size]? = some (.cells c t (0, 0)) := heap_alloc_new w.drew _
theorem frozen_new (w : World) (c : Array Value) (t : TypeId) (a : Addr) : (w.drew.alloc (.cells c t)).frozen? a = w.frozen? a := frozen?_alloc_cells w.drew c t a
theorem size_new (w : World) (c : Array Value) (t : TypeId) : (w.drew.alloc (.cells c t)).heap.size = w.heap.size + 1 := by simp

/-- append: what it leaves -/
theorem append_arrX [Tabs] {X : Blk} {Gs : Nat → Blk} {st te : TypeId} {i : TypeInfo} {z : Value} {t : Ty} {ty : TypeId} (ht : P.underlying st = some (.slice te)) (hi : P.info? te = some i) (hs : i.size = t.size) (hz : i.zero = some z) (hzs : z.cells.size = t.size) (hby : i.bytes ≤ 32768)
    {D : Bool} {v x : Value} {xs ys : List t.den} {F : Blk} (hr : ArrRel S w D t v xs F)
    (hx : (x = .slice none 0 0 ∧ ys = []) ∨ ∃ (a : Addr) (cap : Nat) (news : List Value), x = .slice (some a) ys.length cap ∧ news.length = ys.length * t.size ∧ (∀ j u, news[j]? = some u → w.cell? (a.add j) = some u) ∧ (∀ u ∈ news, u.oneCell' = true) ∧ ∀ i y, ys[i]? = some y → El S w D t ((news.drop (i * t.size)).take t.size) y (Gs i))
    (hG1 : ∀ i j q, i < ys.length → j < ys.length → Gs i q → Gs j q → i = j) (hG2 : ∀ i q, i < ys.length → Gs i q → X q) (hXF : ∀ q, X q → ¬ F q) (hXl : ∀ q, X q → q < w.heap.size) (hl : xs.length + ys.length ≤ lim) (hS : ∀ q, S q → q < w.heap.size ∧ ¬ F q) :
    ∃ v' w' F', (Builtin.append_ #[st, st] ty #[v, x]).run P w = .ok v' w' ∧ w.heap.size ≤ w'.heap.size ∧ (∀ q, q < w.heap.size → ¬ F q → w'.heap[q]? = w.heap[q]?) ∧ w'.os = w.os ∧ w'.tape = w.tape ∧ w'.output = w.output ∧ (∀ a, w'.frozen? a = w.frozen? a) ∧
      ArrRel S w' D t v' (xs ++ ys) F' ∧ ∀ q, F' q → F q ∨ X q ∨ (w.heap.size ≤ q ∧ q < w'.heap.size) := by
  have hlim : (lim : Int) = 4294967296 := rfl
  have hlimN : (lim : Nat) = 4294967296 := rfl
  have hlm : xs.length + ys.length ≤ maxLen := by unfold maxLen; omega
  have hbytes : (xs.length + ys.length) * i.bytes ≤ 140737488355328 := by
    have : (xs.length + ys.length) * i.bytes ≤ 4294967296 * 32768 := Nat.mul_le_mul (by omega) hby
    omega
  -- a new block: the old rows, the new ones, room
  have fresh : ∀ (A news : List Value) (old : Nat) (Fs : Nat → Blk), A.length = xs.length * t.size → news.length = ys.length * t.size →
      (∀ i x, xs[i]? = some x → El S w D t ((A.drop (i * t.size)).take t.size) x (Fs i)) → (∀ i y, ys[i]? = some y → El S w D t ((news.drop (i * t.size)).take t.size) y (Gs i)) →
      (∀ i j b, i < xs.length → j < xs.length → Fs i b → Fs j b → i = j) → (∀ i q, i < xs.length → Fs i q → F q) →
      (Builtin.append_ #[st, st] ty #[v, x]).run P w = .ok (.slice (some ⟨w.heap.size, 0, none⟩) (xs.length + ys.length) (grownCap w (xs.length + ys.length) old te)) (w.drew.alloc (.cells (A.toArray ++ news.toArray ++ Builtin.zeroCells z.cells (grownCap w (xs.length + ys.length) old te - (xs.length + ys.length))) te)) →
      ∃ v' w' F', (Builtin.append_ #[st, st] ty #[v, x]).run P w = .ok v' w' ∧ w.heap.size ≤ w'.heap.size ∧ (∀ q, q < w.heap.size → ¬ F q → w'.heap[q]? = w.heap[q]?) ∧ w'.os = w.os ∧ w'.tape = w.tape ∧ w'.output = w.output ∧ (∀ a, w'.frozen? a = w.frozen? a) ∧
        ArrRel S w' D t v' (xs ++ ys) F' ∧ ∀ q, F' q → F q ∨ X q ∨ (w.heap.size ≤ q ∧ q < w'.heap.size) := by
    intro A news old Fs hA hN ho hn hd hFs hrun
    have hge := grownCap_ge w (xs.length + ys.length) old te
    have hcm := grownCap_le_maxLen w (xs.length + ys.length) old te hlm
    generalize grownCap w (xs.length + ys.length) old te = nc at *
    have hsame : ∀ c q, q < w.heap.size → (w.drew.alloc (.cells c te)).heap[q]? = w.heap[q]? := fun c q hq => (Grow.alloc w.drew c te).block q hq
    refine ⟨_, _, _, hrun, by rw [size_new]; omega, fun q hq _ => hsame _ q hq, rfl, rfl, rfl, fun a => frozen_new w _ te a, arr_joinX (S := S) (A := A) (N := news) (Fs := Fs) (Gs := Gs) (heap_new w _ te) ?_ hge hcm hA ?_ (fun k y hk => ?_) (fun k y hk => ?_) hd (fun k hk hF => ?_) hG1 (fun k hk h => by have := hXl _ (hG2 k _ hk h); omega) (fun i j b hi hj h1 h2 => hXF b (hG2 j b hj h2) (hFs i b hi h1)), fun q hq => ?_⟩
    · simp only [Array.size_append, List.size_toArray, size_zeroCells, hzs, hA, hN]
      rw [← Nat.add_mul, ← Nat.add_mul]
      congr 1
      omega
    · simp only [Array.toList_append, List.append_assoc]
      rw [← List.append_assoc]
      have : (A ++ news).length = (xs.length + ys.length) * t.size := by rw [List.length_append, hA, hN, Nat.add_mul]
      rw [← this]
      exact List.take_left
    · have := ho k y hk
      exact this.mono (fun _ h => h) (fun q hq => hsame _ q (hS q hq).1) (fun q hq => hsame _ q (this.lt q hq)) (by rw [size_new]; omega)
    · have := hn k y hk
      exact this.mono (fun _ h => h) (fun q hq => hsame _ q (hS q hq).1) (fun q hq => hsame _ q (this.lt q hq)) (by rw [size_new]; omega)
    · have hx' : xs[k]? = some xs[k] := by simp [hk]
      have := (ho k _ hx').lt _ hF
      omega
    · rcases hq with rfl | ⟨k, hk, hF⟩ | ⟨k, hk, hF⟩
      · exact .inr (.inr ⟨Nat.le_refl _, by rw [size_new]; omega⟩)
      · exact .inl (hFs k q hk hF)
      · exact .inr (.inl (hG2 k q hk hF))
  rcases hr with ⟨⟨o, rfl⟩, rfl, hF⟩ | ⟨g, cap, cur, te', Fs, rfl, k2, k3, k4, k5, k6, k7, k8, k9⟩
  · have keep : ys = [] → (Builtin.append_ #[st, st] ty #[.slice o 0 0, x]).run P w = .ok (.slice o 0 0) w → _ := fun hy hrun =>
      (⟨.slice o 0 0, w, F, hrun, Nat.le_refl _, fun _ _ _ => rfl, rfl, rfl, rfl, fun _ => rfl, .inl ⟨⟨o, rfl⟩, by rw [hy]; rfl, hF⟩, fun q hq => .inl hq⟩ :
        ∃ v' w' F', (Builtin.append_ #[st, st] ty #[.slice o 0 0, x]).run P w = .ok v' w' ∧ w.heap.size ≤ w'.heap.size ∧ (∀ q, q < w.heap.size → ¬ F q → w'.heap[q]? = w.heap[q]?) ∧ w'.os = w.os ∧ w'.tape = w.tape ∧ w'.output = w.output ∧ (∀ a, w'.frozen? a = w.frozen? a) ∧
          ArrRel S w' D t v' ([] ++ ys) F' ∧ ∀ q, F' q → F q ∨ X q ∨ (w.heap.size ≤ q ∧ q < w'.heap.size))
    rcases hx with ⟨rfl, rfl⟩ | ⟨a, c, news, rfl, n1, n2, n3, n4⟩
    · refine keep rfl ?_
      cases o <;> simp [Builtin.append_, run_underlying ht, sizeOf, typeInfo, hi, Builtin.lenOf, Builtin.firstCells, storeCells]
    · by_cases h0 : ys = []
      · subst h0
        refine keep rfl ?_
        cases o <;> simp [Builtin.append_, run_underlying ht, sizeOf, typeInfo, hi, Builtin.lenOf, Builtin.firstCells, loadCells, loadCellsFrom, storeCells]
      · have hpos : 0 < ys.length := by cases ys with
          | nil => exact absurd rfl h0
          | cons _ _ => simp
        simp only [List.length_nil, Nat.zero_add] at hlm hbytes hl
        cases o with
        | none =>
          have hrun := run_append_nil (P := P) w st ty te i z ht hi hz a ys.length c news (by rw [n1, hs]) n2 hpos (by unfold maxLen at hlm; omega) (by omega)
          refine fresh [] news 0 (fun _ _ => False) (by simp) n1 (fun i x h => by simp at h) n4 (fun _ _ _ _ _ h => h.elim) (fun _ _ _ h => h.elim) ?_
          simp only [List.length_nil, Nat.zero_add, Array.empty_append] at hrun ⊢
          exact hrun
        | some b =>
          have hrun := run_append_grow (P := P) w st ty te i z ht hi hz b 0 0 [] (by simp) (fun j v h => by simp at h) a ys.length c news (by rw [n1, hs]) n2 (by omega) (by unfold maxLen at hlm; omega) (growslice_fits (by omega) (by simpa using hbytes))
          refine fresh [] news 0 (fun _ _ => False) (by simp) n1 (fun i x h => by simp at h) n4 (fun _ _ _ _ _ h => h.elim) (fun _ _ _ h => h.elim) ?_
          simp only [List.length_nil, Nat.zero_add, Array.empty_append] at hrun ⊢
          exact hrun
  · have holdlen : (cur.toList.take (xs.length * t.size)).length = xs.length * t.size := by
      have hc : cur.toList.length = cap * t.size := by rw [← k3]; exact Array.length_toList
      rw [List.length_take, hc]
      exact Nat.min_eq_left (Nat.mul_le_mul_right _ k4)
    have hold : ∀ i x, xs[i]? = some x → El S w D t (((cur.toList.take (xs.length * t.size)).drop (i * t.size)).take t.size) x (Fs i) := fun i x hix => by
      rw [← seg_of_take rfl (List.getElem?_eq_some_iff.1 hix).1]
      exact k6 i x hix
    have hFs : ∀ i q, i < xs.length → Fs i q → F q := fun i q hi hq => (k9 q).2 (.inr ⟨i, hi, hq⟩)
    have hgF : F g := (k9 g).2 (.inl rfl)
    by_cases hroom : xs.length + ys.length ≤ cap
    · have inplace : ∀ (news : List Value), news.length = ys.length * t.size → (∀ u ∈ news, u.oneCell' = true) → (∀ i y, ys[i]? = some y → El S w D t ((news.drop (i * t.size)).take t.size) y (Gs i)) → Builtin.lenOf x = pure ys.length → (Builtin.firstCells i.size ys.length x).run P w = .ok news.toArray w →
          ∃ v' w' F', (Builtin.append_ #[st, st] ty #[.slice (some ⟨g, 0, none⟩) xs.length cap, x]).run P w = .ok v' w' ∧ w.heap.size ≤ w'.heap.size ∧ (∀ q, q < w.heap.size → ¬ F q → w'.heap[q]? = w.heap[q]?) ∧ w'.os = w.os ∧ w'.tape = w.tape ∧ w'.output = w.output ∧ (∀ a, w'.frozen? a = w.frozen? a) ∧
            ArrRel S w' D t v' (xs ++ ys) F' ∧ ∀ q, F' q → F q ∨ X q ∨ (w.heap.size ≤ q ∧ q < w'.heap.size) := fun news n1 n3 n4 hlen hf => by
        have hfit : xs.length * i.size + news.length ≤ cur.size := by rw [n1, hs, k3, ← Nat.add_mul]; exact Nat.mul_le_mul_right _ hroom
        have hrun := append_room (P := P) (ty := ty) ht hi k2 (sLen := xs.length) (sCap := cap) hlen hf n3 hroom hfit
        rw [hs] at hrun hfit
        refine ⟨_, _, fun b => b = g ∨ (∃ i, i < xs.length ∧ Fs i b) ∨ ∃ i, i < ys.length ∧ Gs i b, hrun, by rw [size_setRow]; exact Nat.le_refl _, fun q _ hq => setRow_other w g q _ fun e => hq (e ▸ hgF), rfl, rfl, rfl, frozen_setRow k2, ?_⟩
        generalize hnew : (cur.toList.take (xs.length * t.size) ++ news ++ cur.toList.drop (xs.length * t.size + news.length)).toArray = ncur
        have hnl : ncur.toList = cur.toList.take (xs.length * t.size) ++ news ++ cur.toList.drop (xs.length * t.size + news.length) := by rw [← hnew]
        have hsame : ∀ q, q ≠ g → (w.setRow g ncur).heap[q]? = w.heap[q]? := fun q hq => setRow_other w g q ncur hq
        refine ⟨arr_joinX (S := S) (A := cur.toList.take (xs.length * t.size)) (N := news) (Fs := Fs) (Gs := Gs) (setRow_heap w g cur ncur te' _ k2) ?_ hroom k5 holdlen ?_ (fun k y hk => ?_) (fun k y hk => ?_) k7 (fun k hk => k8 k hk) hG1 (fun k hk h => hXF _ (hG2 k _ hk h) hgF) (fun i j b hi hj h1 h2 => hXF b (hG2 j b hj h2) (hFs i b hi h1)), fun q hq => ?_⟩
        · have hc1 : cur.toList.length = cur.size := Array.length_toList
          have hc2 : ncur.size = ncur.toList.length := Array.length_toList.symm
          rw [hc2, hnl, List.length_append, List.length_append, holdlen, List.length_drop, hc1, ← k3]
          omega
        · rw [hnl]
          have : (cur.toList.take (xs.length * t.size) ++ news).length = (xs.length + ys.length) * t.size := by rw [List.length_append, holdlen, n1, Nat.add_mul]
          rw [← this]
          exact List.take_left
        · have hk' := (List.getElem?_eq_some_iff.1 hk).1
          exact (hold k y hk).mono (fun _ h => h) (fun q hq => hsame q fun e => (hS q hq).2 (e ▸ hgF)) (fun q hq => hsame q fun e => k8 k hk' (e ▸ hq)) (by rw [size_setRow]; exact Nat.le_refl _)
        · have hkl := (List.getElem?_eq_some_iff.1 hk).1
          exact (n4 k y hk).mono (fun _ h => h) (fun q hq => hsame q fun e => (hS q hq).2 (e ▸ hgF)) (fun q hq => hsame q fun e => hXF q (hG2 k q hkl hq) (e ▸ hgF)) (by rw [size_setRow]; exact Nat.le_refl _)
        · rcases hq with rfl | ⟨k, hk, hF⟩ | ⟨k, hk, hF⟩
          · exact .inl hgF
          · exact .inl (hFs k q hk hF)
          · exact .inr (.inl (hG2 k q hk hF))
      rcases hx with ⟨rfl, rfl⟩ | ⟨a, c, news, rfl, n1, n2, n3, n4⟩
      · exact inplace [] (by simp) (fun _ h => by cases h) (fun _ _ h => by simp at h) rfl (by simp [Builtin.firstCells])
      · exact inplace news n1 n3 n4 rfl (run_firstCells_some (P := P) w i.size ys.length a ys.length c news (by rw [n1, hs]) n2)
    · rcases hx with ⟨rfl, rfl⟩ | ⟨a, c, news, rfl, n1, n2, n3, n4⟩
      · exact absurd k4 (by simpa using hroom)
      · have hcells : ∀ j v, (cur.toList.take (xs.length * t.size))[j]? = some v → w.cell? ((⟨g, 0, none⟩ : Addr).add j) = some v := fun j v hj => by
          rw [add_none, Nat.zero_add, cell_of_row w g j cur te' (0, 0) k2]
          rw [List.getElem?_take] at hj
          split at hj
          · simpa using hj
          · cases hj
        have hrun := run_append_grow (P := P) w st ty te i z ht hi hz ⟨g, 0, none⟩ xs.length cap (cur.toList.take (xs.length * t.size)) (by rw [holdlen, hs]) hcells a ys.length c news (by rw [n1, hs]) n2 (by omega) (by unfold maxLen at hlm; omega) (growslice_fits (by omega) hbytes)
        exact fresh _ news cap Fs holdlen n1 hold n4 k7 hFs hrun
/-- append: what it leaves -/
theorem append_arr [Tabs] {st te : TypeId} {i : TypeInfo} {z : Value} {t : Ty} {ty : TypeId} (ht : P.underlying st = some (.slice te)) (hi : P.info? te = some i) (hs : i.size = t.size) (hz : i.zero = some z) (hzs : z.cells.size = t.size) (hby : i.bytes ≤ 32768)
    {D : Bool} {v x : Value} {xs ys : List t.den} {F T : Blk} (hr : ArrRel S w D t v xs F)
    (hx : (x = .slice none 0 0 ∧ ys = []) ∨ ∃ (a : Addr) (cap : Nat) (news : List Value), x = .slice (some a) ys.length cap ∧ news.length = ys.length * t.size ∧ (∀ j u, news[j]? = some u → w.cell? (a.add j) = some u) ∧ (∀ u ∈ news, u.oneCell' = true) ∧ ∀ i y, ys[i]? = some y → Rep T w t ((news.drop (i * t.size)).take t.size) y)
    (hE : ∀ (i : Nat) y ds, ys[i]? = some y → Rep T w t ds y → El S w D t ds y (fun _ => False)) (hl : xs.length + ys.length ≤ lim) (hS : ∀ q, S q → q < w.heap.size ∧ ¬ F q) :
    ∃ v' w' F', (Builtin.append_ #[st, st] ty #[v, x]).run P w = .ok v' w' ∧ w.heap.size ≤ w'.heap.size ∧ (∀ q, q < w.heap.size → ¬ F q → w'.heap[q]? = w.heap[q]?) ∧ w'.os = w.os ∧ w'.tape = w.tape ∧ w'.output = w.output ∧ (∀ a, w'.frozen? a = w.frozen? a) ∧
      ArrRel S w' D t v' (xs ++ ys) F' ∧ ∀ q, F' q → F q ∨ (w.heap.size ≤ q ∧ q < w'.heap.size) := by
  obtain ⟨v', w', F', h1, h2, h3, h4, h5, h6, h7, h8, h9⟩ := append_arrX (P := P) (ty := ty) (X := fun _ => False) (Gs := fun _ _ => False) ht hi hs hz hzs hby hr
    (hx.imp (fun h => h) fun ⟨a, cap, news, e1, e2, e3, e4, e5⟩ => ⟨a, cap, news, e1, e2, e3, e4, fun i y hi => hE i y _ hi (e5 i y hi)⟩) (fun _ _ _ _ _ h => h.elim) (fun _ _ _ h => h) (fun _ h => h.elim) (fun _ h => h.elim) hl hS
  exact ⟨v', w', F', h1, h2, h3, h4, h5, h6, h7, h8, fun q hq => (h9 q hq).imp (fun h => h) fun h => h.resolve_left fun h => h⟩
end
end Go.Ab
