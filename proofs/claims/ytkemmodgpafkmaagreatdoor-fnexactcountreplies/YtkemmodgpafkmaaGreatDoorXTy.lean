/-
  When the evaluator's state stands for a frame and a world.
-/
import Derived.Test.YtkemmodgpafkmaaGreatDoorXRel
namespace Go.Ab
open Go Go.RowKit
class Tabs where
  l : List (Nat × (Obj → Prop))
def TabOk [Tabs] (w : World) (B : Nat) (Ms : Blk) : Prop := ∀ p ∈ Tabs.l, p.1 < B ∧ ¬ Ms p.1 ∧ ∃ o, w.heap[p.1]? = some o ∧ p.2 o
structure OC where
  v : Value
  F : Blk
  e : Ty
abbrev OMap := Nat → Option OC
abbrev HGet := Nat → Option AObj
def PcRel (S : Blk) (w : World) (t : Ty) (x : t.den) (v : Value) : Prop := ∃ b o ds, v = .pointer (some ⟨b, o, none⟩) ∧ S b ∧ b < w.heap.size ∧ ReadsAt w b o ds ∧ Rep S w t ds x
def CapsRel (S : Blk) (w : World) : List Cap → List Value → Prop
  | [], vs => vs = []
  | .val t x :: cs, vs => ∃ v r, vs = v :: r ∧ PcRel S w t x v ∧ CapsRel S w cs r
theorem PcRel.mono {S S' : Blk} {w w' : World} (hS : ∀ q, S q → S' q) (hw : ∀ q, S q → w'.heap[q]? = w.heap[q]?) (hz : w.heap.size ≤ w'.heap.size) {t : Ty} {x : t.den} {v : Value} (r : PcRel S w t x v) : PcRel S' w' t x v := by
  obtain ⟨b, o, ds, h1, h2, h3, h4, h5⟩ := r
  exact ⟨b, o, ds, h1, hS b h2, Nat.lt_of_lt_of_le h3 hz, h4.mono (hw b h2), h5.mono hS hw hz⟩
theorem CapsRel.mono [Tabs] {S S' : Blk} {w w' : World} (hS : ∀ q, S q → S' q) (hw : ∀ q, S q → w'.heap[q]? = w.heap[q]?) (hz : w.heap.size ≤ w'.heap.size) : ∀ {cs : List Cap} {vs : List Value}, CapsRel S w cs vs → CapsRel S' w' cs vs
  | [], _, r => r
  | .val _ _ :: _, _, r => by
    obtain ⟨v, q, e, h1, h2⟩ := r
    exact ⟨v, q, e, h1.mono hS hw hz, CapsRel.mono hS hw hz h2⟩
def SrcRel (w : World) (t : Ty) (k : Nat) (v : Value) (xs : List t.den) (F : Blk) : Prop :=
  ((∃ o : Option Addr, v = .slice o 0 0) ∧ xs = [] ∧ ∀ b, ¬ F b) ∨
  ∃ (g cap : Nat) (cur : Array Value) (e : TypeId) (Fs : Nat → Blk), v = .slice (some ⟨g, 0, none⟩) xs.length cap ∧ w.heap[g]? = some (.cells cur e (0, 0)) ∧ cur.size = cap * t.size ∧ xs.length ≤ cap ∧ cap ≤ maxLen ∧
    (∀ i x, k ≤ i → xs[i]? = some x → Own w t ((cur.toList.drop (i * t.size)).take t.size) x (Fs i)) ∧
    (∀ i j b, k ≤ i → k ≤ j → i < xs.length → j < xs.length → Fs i b → Fs j b → i = j) ∧ (∀ i, k ≤ i → i < xs.length → ¬ Fs i g) ∧
    (∀ b, F b ↔ b = g ∨ ∃ i, k ≤ i ∧ i < xs.length ∧ Fs i b)
theorem SrcRel.mono {w w' : World} {t : Ty} {k : Nat} {v : Value} {xs : List t.den} {F : Blk} (h : SrcRel w t k v xs F) (hw : ∀ b, F b → w'.heap[b]? = w.heap[b]?) : SrcRel w' t k v xs F := by
  rcases h with h | ⟨g, cap, cur, e, Fs, h1, h2, h3, h4, h5, h6, h7, h8, h9⟩
  · exact .inl h
  · refine .inr ⟨g, cap, cur, e, Fs, h1, (hw g ((h9 g).2 (.inl rfl))).trans h2, h3, h4, h5, fun i x hk hi => ?_, h7, h8, h9⟩
    have hlt : i < xs.length := (List.getElem?_eq_some_iff.1 hi).1
    exact Own.mono (fun b hb => hw b ((h9 b).2 (.inr ⟨i, hk, hlt, hb⟩))) (h6 i x hk hi)
theorem SrcRel.of_arr {S : Blk} {w : World} {t : Ty} {v : Value} {xs : List t.den} {F : Blk} (h : ArrRel S w true t v xs F) : SrcRel w t 0 v xs F := by
  rcases h with h | ⟨g, cap, cur, e, Fs, h1, h2, h3, h4, h5, h6, h7, h8, h9⟩
  · exact .inl h
  · exact .inr ⟨g, cap, cur, e, Fs, h1, h2, h3, h4, h5, fun i x _ hi => h6 i x hi, fun i j b _ _ => h7 i j b, fun i _ => h8 i, fun b => by simpa using h9 b⟩
def VkRel (w : World) (o : AObj) (c : OC) : VK → Value → Prop
  | .win lo hi, v => ∃ d t xs, o = .arr d t xs ∧ lo ≤ hi ∧ hi ≤ xs.length ∧
      ((∃ a : Option Addr, c.v = .slice a 0 0 ∧ v = .slice a 0 0 ∧ xs = []) ∨ ∃ g cap a, c.v = .slice (some ⟨g, 0, none⟩) xs.length cap ∧ v = .slice (some a) (hi - lo) (cap - lo) ∧ (cap ≠ lo → a = ⟨g, lo * t.size, none⟩))
  | .inn i off e y j, v => ∃ xs u z, o = .arr true e xs ∧ xs[i]? = some y ∧ (flat e y)[off]? = some (.pv (.slice u) z) ∧ j < List.length (α := u.den) z ∧
      ∃ g n cap g2 n2 cap2, c.v = .slice (some ⟨g, 0, none⟩) n cap ∧ w.cell? ⟨g, i * e.size + off, none⟩ = some (.slice (some ⟨g2, 0, none⟩) n2 cap2) ∧ v = .pointer (some ⟨g2, j * u.size, none⟩)
  | .app i off e y u ys, v => ∃ xs z, o = .arr true e xs ∧ xs[i]? = some y ∧ (flat e y)[off]? = some (.pv (.slice u) z) ∧
      ∃ g n cap g2 n2 cap2 cur te, c.v = .slice (some ⟨g, 0, none⟩) n cap ∧ w.cell? ⟨g, i * e.size + off, none⟩ = some (.slice (some ⟨g2, 0, none⟩) n2 cap2) ∧ c.F g2 ∧ v = .slice (some ⟨g2, 0, none⟩) (n2 + ys.length) cap2 ∧ n2 + ys.length ≤ cap2 ∧
        w.heap[g2]? = some (.cells cur te (0, 0)) ∧ ∀ k x, ys[k]? = some x → Own w u ((cur.toList.drop ((n2 + k) * u.size)).take u.size) x (fun _ => False)
  | .all, v => (∃ t k xs, o = .src t k xs) ∧ v = c.v
  | .el i, v => ∃ t k xs, o = .src t k xs ∧ i < xs.length ∧ ∃ g n cap, c.v = .slice (some ⟨g, 0, none⟩) n cap ∧ v = .pointer (some ⟨g, i * t.size, none⟩)
theorem VkRel.mono {w w' : World} {o : AObj} {c : OC} (hg : ∀ d t xs g n cap, o = .arr d t xs → 0 < xs.length → c.v = .slice (some ⟨g, 0, none⟩) n cap → c.F g) (hF : ∀ q, c.F q → w'.heap[q]? = w.heap[q]?) :
    {k : VK} → {v : Value} → VkRel w o c k v → VkRel w' o c k v
  | .win _ _, _, r => r
  | .inn i off e y j, v, r => by
    obtain ⟨xs, u, z, h1, h2, h3, h4, g, n, cap, g2, n2, cap2, h5, h6, h7⟩ := r
    have hk := hg _ _ _ g n cap h1 (Nat.zero_lt_of_lt (List.getElem?_eq_some_iff.1 h2).1) h5
    exact ⟨xs, u, z, h1, h2, h3, h4, g, n, cap, g2, n2, cap2, h5, (World.cell?_of_block (w := w) (w' := w') (hF g hk)).trans h6, h7⟩
  | .app i off e y u ys, v, r => by
    obtain ⟨xs, z, h1, h2, h3, g, n, cap, g2, n2, cap2, cur, te, h5, h6, h7, h8, h9, h10, h11⟩ := r
    have hk := hg _ _ _ g n cap h1 (Nat.zero_lt_of_lt (List.getElem?_eq_some_iff.1 h2).1) h5
    exact ⟨xs, z, h1, h2, h3, g, n, cap, g2, n2, cap2, cur, te, h5, (World.cell?_of_block (w := w) (w' := w') (hF g hk)).trans h6, h7, h8, h9, (hF g2 h7).trans h10, fun k x hx => Own.mono (fun _ h => h.elim) (h11 k x hx)⟩
  | .all, _, r => r
  | .el _, _, r => r
def AObj.noBox : AObj → Bool
  | .box _ => false
  | _ => true
def CellRel (h : HGet) (S : Blk) (w : World) (m : OMap) : ACell → Value → Prop
  | .und, _ => True
  | .nils, v => ∃ o : Option Addr, v = .slice o 0 0
  | .pv t x, v => t.isAgg = false ∧ Rep S w t [v] x
  | .pc t x, v => ∃ b o ds, v = .pointer (some ⟨b, o, none⟩) ∧ S b ∧ b < w.heap.size ∧ ReadsAt w b o ds ∧ Rep S w t ds x
  | .os id, v => (∃ d t xs, h id = some (.arr d t xs)) ∧ ∃ c, m id = some c ∧ v = c.v
  | .op id off, v => (∃ cs, h id = some (.box cs)) ∧ ∃ c b, m id = some c ∧ c.v = .pointer (some ⟨b, 0, none⟩) ∧ v = .pointer (some ⟨b, off, none⟩)
  | .oe id i off, v => (∃ d t xs, h id = some (.arr d t xs) ∧ i < xs.length) ∧ ∃ c g n cap, m id = some c ∧ c.v = .slice (some ⟨g, 0, none⟩) n cap ∧ v = .pointer (some ⟨g, i * c.e.size + off, none⟩)
  | .sb id i off e y, v => ∃ d xs, h id = some (.arr d e xs) ∧ xs[i]? = some y ∧ d = true ∧ (∃ u z, (flat e y)[off]? = some (.pv (.slice u) z)) ∧
      ∃ c g n cap, m id = some c ∧ c.v = .slice (some ⟨g, 0, none⟩) n cap ∧ w.cell? ⟨g, i * e.size + off, none⟩ = some v
  | .vw id k, v => ∃ o, h id = some o ∧ o.noBox = true ∧ ∃ c, m id = some c ∧ VkRel w o c k v
  | .cl f caps, v => ∃ cs : Array Value, v = .func (.func f) #[] cs ∧ CapsRel S w caps cs.toList
def CellsRel (h : HGet) (S : Blk) (w : World) (m : OMap) (cs : List ACell) (vs : List Value) : Prop :=
  cs.length = vs.length ∧ (∀ v ∈ vs, v.oneCell' = true) ∧ ∀ (i : Nat) (c : ACell) (v : Value), cs[i]? = some c → vs[i]? = some v → CellRel h S w m c v
def VRel1 (h : HGet) (S : Blk) (w : World) (m : OMap) (p : Bool × List ACell) (v : Value) : Prop :=
  match p with
  | (true, cs) => ∃ vs : Array Value, v = .agg vs ∧ CellsRel h S w m cs vs.toList
  | (false, cs) => ∃ c, cs = [c] ∧ CellRel h S w m c v
def VRel (h : HGet) (S : Blk) (w : World) (m : OMap) : AVal → Value → Prop
  | .one c, v => CellRel h S w m c v
  | .ag cs, v => ∃ vs : Array Value, v = .agg vs ∧ CellsRel h S w m cs vs.toList
  | .tu l, v => ∃ vs : Array Value, v = .tuple vs ∧ vs.size = l.length ∧ ∀ (i : Nat) (p : Bool × List ACell) (u : Value), l[i]? = some p → vs[i]? = some u → VRel1 h S w m p u
def ObjRel (h : HGet) (S : Blk) (w : World) (m : OMap) (o : AObj) (c : OC) : Prop :=
  match o with
  | .box cs => ∃ b cur e, c.v = .pointer (some ⟨b, 0, none⟩) ∧ w.heap[b]? = some (.cells cur e (0, 0)) ∧ CellsRel h S w m cs cur.toList ∧ ∀ q, c.F q ↔ q = b
  | .arr d t xs => c.e = t ∧ ArrRel S w d t c.v xs c.F
  | .src t k xs => c.e = t ∧ SrcRel w t k c.v xs c.F
structure Mem (h : HGet) (S : Blk) (w : World) (m : OMap) (B : Nat) (M0 : Blk) : Prop where
  obj : ∀ id o, h id = some o → ∃ c, m id = some c ∧ ObjRel h S w m o c
  dis : ∀ i j c d, i ≠ j → h i ≠ none → h j ≠ none → m i = some c → m j = some d → ∀ q, c.F q → d.F q → False
  apart : ∀ i c, h i ≠ none → m i = some c → ∀ q, c.F q → ¬ S q ∧ q < w.heap.size ∧ (B ≤ q ∨ M0 q)
  lt : ∀ q, S q → q < w.heap.size
structure Frm [Tabs] (w0 w : World) (B : Nat) (M0 : Blk) : Prop where
  os : w.os = w0.os
  tape : w.tape = w0.tape
  output : w.output = w0.output
  size : w0.heap.size ≤ w.heap.size
  block : ∀ q, q < B → ¬ M0 q → w.heap[q]? = w0.heap[q]?
  fz : ∀ a : Addr, a.block < w0.heap.size → w.frozen? a = w0.frozen? a
  tab : TabOk w0 B M0
structure Rel [Tabs] (w0 : World) (B : Nat) (M0 : Blk) (S : Blk) (m : OMap) (s : AS) (a : Act) (w : World) : Prop where
  mem : Mem s.h.get S w m B M0
  frm : Frm w0 w B M0
  tmps : ∀ i, VRel s.h.get S w m (s.ρ.getD i (.one .und)) (a.tmps.getD i undef)
  size : a.tmps.size = s.ρ.length
  defers : a.defers = []
structure Grow (w w' : World) : Prop where
  os : w'.os = w.os
  tape : w'.tape = w.tape
  output : w'.output = w.output
  size : w.heap.size ≤ w'.heap.size
  block : ∀ q, q < w.heap.size → w'.heap[q]? = w.heap[q]?
  fz : ∀ a : Addr, a.block < w.heap.size → w'.frozen? a = w.frozen? a
theorem Grow.refl (w : World) : Grow w w := ⟨rfl, rfl, rfl, Nat.le_refl _, fun _ _ => rfl, fun _ _ => rfl⟩
theorem Grow.trans {a b c : World} (h : Grow a b) (k : Grow b c) : Grow a c :=
  ⟨k.os.trans h.os, k.tape.trans h.tape, k.output.trans h.output, Nat.le_trans h.size k.size, fun q hq => (k.block q (Nat.lt_of_lt_of_le hq h.size)).trans (h.block q hq), fun a ha => (k.fz a (Nat.lt_of_lt_of_le ha h.size)).trans (h.fz a ha)⟩
theorem Grow.alloc (w : World) (c : Array Value) (t : TypeId) : Grow w (w.alloc (.cells c t)) := ⟨rfl, rfl, rfl, by simp, fun q hq => by simp only [World.alloc, Array.getElem?_push]; rw [if_neg (by omega)], fun a _ => frozen?_alloc_cells w c t a⟩
theorem Grow.drew (w : World) : Grow w w.drew := ⟨rfl, rfl, rfl, Nat.le_refl _, fun _ _ => rfl, fun _ _ => rfl⟩
theorem Frm.tabs [Tabs] {w0 w : World} {B : Nat} {M0 : Blk} (h : Frm w0 w B M0) (hB : B ≤ w.heap.size) {Ms : Blk} (hM : ∀ q, Ms q → B ≤ q ∨ M0 q) : TabOk w w.heap.size Ms := fun p hp => by
  obtain ⟨h1, h2, h3⟩ := h.tab p hp
  exact ⟨Nat.lt_of_lt_of_le h1 hB, fun hm => (hM _ hm).elim (fun h => by omega) h2, h3.imp fun o ho => ⟨(h.block _ h1 h2).trans ho.1, ho.2⟩⟩
theorem Frm.grow [Tabs] {w0 w w' : World} {B : Nat} {M0 : Blk} (h : Frm w0 w B M0) (hB : B ≤ w.heap.size) (g : Grow w w') : Frm w0 w' B M0 :=
  ⟨g.os.trans h.os, g.tape.trans h.tape, g.output.trans h.output, Nat.le_trans h.size g.size, fun q hq hm => (g.block q (Nat.lt_of_lt_of_le hq hB)).trans (h.block q hq hm), fun a ha => (g.fz a (Nat.lt_of_lt_of_le ha h.size)).trans (h.fz a ha), h.tab⟩
structure Wider (h h' : HGet) (S S' : Blk) (w w' : World) (m m' : OMap) : Prop where
  hk : ∀ id o, h id = some o → h' id = some o
  map : ∀ id, h id ≠ none → m' id = m id
  sub : ∀ q, S q → S' q
  size : w.heap.size ≤ w'.heap.size
  stay : ∀ q, S q → w'.heap[q]? = w.heap[q]?
  own : ∀ id c, h id ≠ none → m id = some c → ∀ q, c.F q → w'.heap[q]? = w.heap[q]?
theorem heap_ne {h : HGet} {id : Nat} {o : AObj} (e : h id = some o) : h id ≠ none := by rw [e]; exact fun h => nomatch h
theorem arr_block {S : Blk} {w : World} {d : Bool} {t : Ty} {v : Value} {xs : List t.den} {F : Blk} {g n cap : Nat} (h : ArrRel S w d t v xs F) (hne : 0 < xs.length) (hv : v = .slice (some ⟨g, 0, none⟩) n cap) : F g := by
  subst hv
  rcases h with ⟨_, rfl, _⟩ | ⟨g', cap', cur, e, Fs, h1, h2, h3, h4, h5, h6, h7, h8, h9⟩
  · simp at hne
  · simp only [Value.slice.injEq, Option.some.injEq, Addr.mk.injEq] at h1
    obtain ⟨⟨rfl, _⟩, _⟩ := h1
    exact (h9 g).2 (.inl rfl)
theorem vk_stay [Tabs] {h : HGet} {S : Blk} {w w' : World} {m : OMap} {B : Nat} {M0 : Blk} (M : Mem h S w m B M0) {id : Nat} {o : AObj} {c : OC} (ho : h id = some o) (hc : m id = some c) (hF : ∀ q, c.F q → w'.heap[q]? = w.heap[q]?) {k : VK} {v : Value} (r : VkRel w o c k v) : VkRel w' o c k v := by
  refine r.mono (fun d t xs g n cap e hx hv => ?_) hF
  subst e
  obtain ⟨c', hc', hr⟩ := M.obj _ _ ho
  obtain rfl : c' = c := Option.some.inj (hc'.symm.trans hc)
  exact arr_block hr.2 hx hv
theorem CellRel.wider [Tabs] {h h' : HGet} {S S' : Blk} {w w' : World} {m m' : OMap} {B : Nat} {M0 : Blk} (W : Wider h h' S S' w w' m m') (M : Mem h S w m B M0) :
    {c : ACell} → {v : Value} → CellRel h S w m c v → CellRel h' S' w' m' c v
  | .und, _, _ => trivial
  | .nils, _, r => r
  | .pv _ _, _, r => ⟨r.1, r.2.mono W.sub W.stay W.size⟩
  | .pc _ _, _, r => by
    obtain ⟨b, o, ds, h1, h2, h3, h4, h5⟩ := r
    exact ⟨b, o, ds, h1, W.sub b h2, Nat.lt_of_lt_of_le h3 W.size, h4.mono (W.stay b h2), h5.mono W.sub W.stay W.size⟩
  | .os _, _, r => by
    obtain ⟨⟨d, t, xs, e⟩, c, h1, h2⟩ := r
    exact ⟨⟨d, t, xs, W.hk _ _ e⟩, c, (W.map _ (heap_ne e)).trans h1, h2⟩
  | .op _ _, _, r => by
    obtain ⟨⟨cs, e⟩, c, b, h1, h2, h3⟩ := r
    exact ⟨⟨cs, W.hk _ _ e⟩, c, b, (W.map _ (heap_ne e)).trans h1, h2, h3⟩
  | .oe _ _ _, _, r => by
    obtain ⟨⟨d, t, xs, e, hi⟩, c, g, n, cap, h1, h2, h3⟩ := r
    exact ⟨⟨d, t, xs, W.hk _ _ e, hi⟩, c, g, n, cap, (W.map _ (heap_ne e)).trans h1, h2, h3⟩
  | .sb _ _ _ _ _, _, r => by
    obtain ⟨d, xs, e, hi, hd, hu, c, g, n, cap, h1, h2, h3⟩ := r
    refine ⟨d, xs, W.hk _ _ e, hi, hd, hu, c, g, n, cap, (W.map _ (heap_ne e)).trans h1, h2, ?_⟩
    obtain ⟨c', hc', ho⟩ := M.obj _ _ e
    obtain rfl : c' = c := Option.some.inj (hc'.symm.trans h1)
    have hF := arr_block ho.2 (Nat.zero_lt_of_lt (List.getElem?_eq_some_iff.1 hi).1) h2
    exact (World.cell?_of_block (w := w) (w' := w') (W.own _ _ (heap_ne e) h1 _ hF)).trans h3
  | .vw _ _, _, r => by
    obtain ⟨o, e, hd, c, h1, h2⟩ := r
    exact ⟨o, W.hk _ _ e, hd, c, (W.map _ (heap_ne e)).trans h1, vk_stay M e h1 (W.own _ _ (heap_ne e) h1) h2⟩
  | .cl _ _, _, r => by
    obtain ⟨cs, e, k⟩ := r
    exact ⟨cs, e, k.mono W.sub W.stay W.size⟩
theorem CellsRel.imp {h h' : HGet} {S S' : Blk} {w w' : World} {m m' : OMap} {cs : List ACell} {vs : List Value} (r : CellsRel h S w m cs vs) (f : ∀ c v, CellRel h S w m c v → CellRel h' S' w' m' c v) : CellsRel h' S' w' m' cs vs :=
  ⟨r.1, r.2.1, fun i c v hc hv => f c v (r.2.2 i c v hc hv)⟩
theorem VRel1.imp [Tabs] {h h' : HGet} {S S' : Blk} {w w' : World} {m m' : OMap} {p : Bool × List ACell} {v : Value} (r : VRel1 h S w m p v) (f : ∀ c v, CellRel h S w m c v → CellRel h' S' w' m' c v) : VRel1 h' S' w' m' p v := by
  obtain ⟨b, cs⟩ := p
  cases b with
  | true => obtain ⟨vs, e, r⟩ := r; exact ⟨vs, e, r.imp f⟩
  | false => obtain ⟨c, e, r⟩ := r; exact ⟨c, e, f _ _ r⟩
theorem VRel.imp [Tabs] {h h' : HGet} {S S' : Blk} {w w' : World} {m m' : OMap} {a : AVal} {v : Value} (r : VRel h S w m a v) (f : ∀ c v, CellRel h S w m c v → CellRel h' S' w' m' c v) : VRel h' S' w' m' a v := by
  cases a with
  | one c => exact f _ _ r
  | ag cs => obtain ⟨vs, e, r⟩ := r; exact ⟨vs, e, r.imp f⟩
  | tu l => obtain ⟨vs, e, n, r⟩ := r; exact ⟨vs, e, n, fun i p u hp hu => (r i p u hp hu).imp f⟩
theorem VRel.wider [Tabs] {h h' : HGet} {S S' : Blk} {w w' : World} {m m' : OMap} {B : Nat} {M0 : Blk} (W : Wider h h' S S' w w' m m') (M : Mem h S w m B M0) {a : AVal} {v : Value} (r : VRel h S w m a v) : VRel h' S' w' m' a v :=
  r.imp fun _ _ => CellRel.wider W M
theorem ObjRel.wider [Tabs] {h h' : HGet} {S S' : Blk} {w w' : World} {m m' : OMap} {B : Nat} {M0 : Blk} (W : Wider h h' S S' w w' m m') (M : Mem h S w m B M0) {o : AObj} {c : OC}
    (hF : ∀ q, c.F q → w'.heap[q]? = w.heap[q]?) (r : ObjRel h S w m o c) : ObjRel h' S' w' m' o c := by
  cases o with
  | box cs =>
    obtain ⟨b, cur, e, h1, h2, h3, h4⟩ := r
    exact ⟨b, cur, e, h1, (hF b ((h4 b).2 rfl)).trans h2, h3.imp fun _ _ => CellRel.wider W M, h4⟩
  | arr d t xs => exact ⟨r.1, r.2.mono W.sub W.stay hF W.size⟩
  | src t k xs => exact ⟨r.1, r.2.mono hF⟩
theorem Mem.grow [Tabs] {h : HGet} {S S' : Blk} {w w' : World} {m m' : OMap} {B : Nat} {M0 : Blk} (M : Mem h S w m B M0) (g : Grow w w') (hB : B ≤ w.heap.size) (os : AHeap)
    (hnew : ∀ id, AHeap.get os id ≠ none → h id = none) (hm : ∀ id, AHeap.get os id = none → m' id = m id) (hS : ∀ q, S q → S' q) (hS' : ∀ q, S' q → S q ∨ (w.heap.size ≤ q ∧ q < w'.heap.size))
    (hobj : ∀ id o, AHeap.get os id = some o → ∃ c, m' id = some c ∧ ObjRel (fun i => (AHeap.get os i).or (h i)) S' w' m' o c ∧ (∀ q, c.F q → w.heap.size ≤ q ∧ q < w'.heap.size ∧ ¬ S' q))
    (hdis : ∀ i j c d, i ≠ j → AHeap.get os i ≠ none → AHeap.get os j ≠ none → m' i = some c → m' j = some d → ∀ q, c.F q → d.F q → False) :
    Mem (fun i => (AHeap.get os i).or (h i)) S' w' m' B M0 ∧ Wider h (fun i => (AHeap.get os i).or (h i)) S S' w w' m m' := by
  have W : Wider h (fun i => (AHeap.get os i).or (h i)) S S' w w' m m' :=
    ⟨fun id o e => by
      have : AHeap.get os id = none := by
        cases e' : AHeap.get os id with
        | none => rfl
        | some x => have := hnew id (by rw [e']; simp); rw [this] at e; cases e
      simp [this, e],
     fun id e => hm id (by
        cases e' : AHeap.get os id with
        | none => rfl
        | some x => exact absurd (hnew id (by rw [e']; simp)) e),
     hS, g.size, fun q hq => g.block q (M.lt q hq), fun id c e hc q hq => g.block q (M.apart id c e hc q hq).2.1⟩
  have old : ∀ id, (AHeap.get os id).or (h id) ≠ none → AHeap.get os id = none → h id ≠ none := fun id e e' => by simpa [e'] using e
  refine ⟨⟨fun id o e => ?_, fun i j c d hij hi hj hc hd q hq hq' => ?_, fun i c hi hc q hq => ?_, fun q hq => ?_⟩, W⟩
  · cases e' : AHeap.get os id with
    | some x =>
      have : x = o := by simpa [e'] using e
      subst this
      obtain ⟨c, h1, h2, _⟩ := hobj id x e'
      exact ⟨c, h1, h2⟩
    | none =>
      have e2 : h id = some o := by simpa [e'] using e
      obtain ⟨c, h1, h2⟩ := M.obj id o e2
      exact ⟨c, (hm id e').trans h1, h2.wider W M fun q hq => W.own id c (heap_ne e2) h1 q hq⟩
  · cases ei : AHeap.get os i with
    | some x =>
      obtain ⟨c', h1, _, h3⟩ := hobj i x ei
      obtain rfl : c' = c := Option.some.inj (h1.symm.trans hc)
      cases ej : AHeap.get os j with
      | some y => exact hdis i j c' d hij (by rw [ei]; simp) (by rw [ej]; simp) hc hd q hq hq'
      | none =>
        have hd' : m j = some d := (hm j ej).symm.trans hd
        have := (M.apart j d (old j hj ej) hd' q hq').2.1
        have := (h3 q hq).1
        omega
    | none =>
      have hc' : m i = some c := (hm i ei).symm.trans hc
      cases ej : AHeap.get os j with
      | some y =>
        obtain ⟨d', h1, _, h3⟩ := hobj j y ej
        obtain rfl : d' = d := Option.some.inj (h1.symm.trans hd)
        have := (M.apart i c (old i hi ei) hc' q hq).2.1
        have := (h3 q hq').1
        omega
      | none =>
        have hd' : m j = some d := (hm j ej).symm.trans hd
        exact M.dis i j c d hij (old i hi ei) (old j hj ej) hc' hd' q hq hq'
  · cases ei : AHeap.get os i with
    | some x =>
      obtain ⟨c', h1, _, h3⟩ := hobj i x ei
      obtain rfl : c' = c := Option.some.inj (h1.symm.trans hc)
      have := h3 q hq
      exact ⟨this.2.2, this.2.1, .inl (by omega)⟩
    | none =>
      have hc' : m i = some c := (hm i ei).symm.trans hc
      have := M.apart i c (old i hi ei) hc' q hq
      refine ⟨fun hs => ?_, Nat.lt_of_lt_of_le this.2.1 g.size, this.2.2⟩
      rcases hS' q hs with hs | hs
      · exact this.1 hs
      · omega
  · rcases hS' q hq with hs | hs
    · exact Nat.lt_of_lt_of_le (M.lt q hs) g.size
    · exact hs.2
end Go.Ab
namespace Go.Ab
open Go Go.RowKit
def isZ : Ty → List Value → Option (List Value)
  | .unit, l => some l
  | .bool, .bool false :: r => some r
  | .int k, .int k' n :: r => bif decide (k = k') && decide (n = 0) then some r else none
  | .str, .string s :: r => bif s.data.toList.isEmpty then some r else none
  | .slice _, .slice none 0 0 :: r => some r
  | .raw, .slice none 0 0 :: r => some r
  | .pair a b, l => (isZ a l).bind fun r => isZ b r
  | _, _ => none
def descAgg : TypeDesc → Bool
  | .struct _ | .array _ _ => true
  | _ => false
def zOk (z : Option Value) (u : Ty) : Bool :=
  match z with
  | some v => match isZ u v.cells.toList with
    | some [] => true
    | _ => false
  | none => false
def fieldsOk (P : Program) : List Field → Ty → Nat → Bool
  | [], .unit, _ => true
  | f :: r, .pair a b, off =>
    Nat.beq f.offset off &&
    (match P.info? f.type with | some i => Nat.beq i.size a.size && Nat.blt 0 a.size | none => false) &&
    (match P.underlying f.type with | some d => descAgg d == a.isAgg | none => false) &&
    fieldsOk P r b (off + a.size)
  | _, _, _ => false
def elemOk (P : Program) (te : TypeId) : Ty → Bool
  | .int k => match P.underlying te with
    | some (.int k') => decide (k = k')
    | _ => false
  | _ => true
def descOk (P : Program) : TypeDesc → Ty → Bool
  | .bool, .bool => true
  | .int k, .int k' => decide (k = k')
  | .string, .str => true
  | .slice _, .raw => true
  | .slice te, .slice e => match P.info? te with
    | some i => Nat.beq i.size e.size && Nat.blt 0 e.size && zOk i.zero e && Nat.ble i.bytes 32768 && elemOk P te e
    | none => false
  | .struct fs, u => u.isAgg && (!isArrT u && fieldsOk P fs.toList u 0)
  | .array n te, u => u.isAgg && (isArrT u && (match arrIn u, P.info? te with | some p, some i => Nat.beq p.1 n && (Nat.beq i.size p.2.size && (match P.underlying te with | some d => decide (descAgg d = p.2.isAgg) | none => false)) | _, _ => false))
  | _, _ => false
def tyOk (P : Program) (t : TypeId) (u : Ty) : Bool :=
  (match P.info? t with | some i => Nat.beq i.size u.size && zOk i.zero u | none => false) &&
  (match P.underlying t with | some d => descOk P d u | none => false)
theorem isZ_spec {S : Blk} {w : World} {h : HGet} {m : OMap} : ∀ (u : Ty) (l r : List Value), isZ u l = some r →
    ∃ p, l = p ++ r ∧ CellsRel h S w m (zcells u) p ∧ Rep S w u p u.zero ∧ Own w u p u.zero (fun _ => False)
  | .unit, l, r, e => by
    simp only [isZ, Option.some.injEq] at e
    subst e
    exact ⟨[], rfl, ⟨rfl, by simp, by simp [zcells]⟩, rfl, rfl, fun _ h => h⟩
  | .bool, l, r, e => by
    match l, e with
    | .bool false :: r', e =>
      simp only [isZ, Option.some.injEq] at e
      subst e
      refine ⟨[.bool false], rfl, ⟨rfl, by simp [Value.oneCell'], ?_⟩, rfl, rfl, fun _ h => h⟩
      intro i c v hc hv
      match i, hc, hv with
      | 0, hc, hv =>
        simp [zcells] at hc hv
        subst hc; subst hv
        exact ⟨rfl, rfl⟩
  | .int k, l, r, e => by
    match l, e with
    | .int k' n :: r', e =>
      simp only [isZ] at e
      by_cases hk : k = k' ∧ n = 0
      · obtain ⟨rfl, rfl⟩ := hk
        simp only [decide_true, Bool.and_self, cond_true, Option.some.injEq] at e
        subst e
        have hwf : wfI k 0 := by cases k <;> decide
        refine ⟨[.int k 0], rfl, ⟨rfl, by simp [Value.oneCell'], ?_⟩, ⟨rfl, hwf⟩, ⟨rfl, hwf⟩, fun _ h => h⟩
        intro i c v hc hv
        match i, hc, hv with
        | 0, hc, hv =>
          simp [zcells] at hc hv
          subst hc; subst hv
          exact ⟨rfl, rfl, hwf⟩
      · have : (decide (k = k') && decide (n = 0)) = false := by simpa using hk
        rw [this] at e
        cases e
  | .str, l, r, e => by
    match l, e with
    | .string s :: r', e =>
      simp only [isZ] at e
      cases hs : s.data.toList.isEmpty with
      | false => rw [hs] at e; cases e
      | true =>
        rw [hs] at e
        simp only [cond_true, Option.some.injEq] at e
        subst e
        have : s = ⟨⟨[]⟩⟩ := by
          obtain ⟨⟨l⟩⟩ := s
          cases l with
          | nil => rfl
          | cons a b => cases hs
        subst this
        refine ⟨[.string ⟨⟨[]⟩⟩], rfl, ⟨rfl, by simp [Value.oneCell'], ?_⟩, ⟨rfl, Nat.zero_le _⟩, ⟨rfl, Nat.zero_le _⟩, fun _ h => h⟩
        intro i c v hc hv
        match i, hc, hv with
        | 0, hc, hv =>
          simp [zcells] at hc hv
          subst hc; subst hv
          exact ⟨rfl, rfl, Nat.zero_le _⟩
  | .raw, l, r, e => by
    match l, e with
    | .slice none 0 0 :: r', e =>
      simp only [isZ, Option.some.injEq] at e
      subst e
      refine ⟨[.slice none 0 0], rfl, ⟨rfl, by simp [Value.oneCell'], ?_⟩, ⟨rfl, rfl⟩, ⟨rfl, rfl⟩, fun _ h => h⟩
      intro i c v hc hv
      match i, hc, hv with
      | 0, hc, hv =>
        simp [zcells] at hc hv
        subst hc; subst hv
        exact ⟨rfl, rfl, rfl⟩
  | .slice t, l, r, e => by
    match l, e with
    | .slice none 0 0 :: r', e =>
      simp only [isZ, Option.some.injEq] at e
      subst e
      refine ⟨[.slice none 0 0], rfl, ⟨rfl, by simp [Value.oneCell'], ?_⟩, ⟨Nat.zero_le _, .inl ⟨rfl, rfl⟩⟩, ⟨_, rfl, .inl ⟨⟨_, rfl⟩, rfl, fun _ h => h⟩⟩⟩
      intro i c v hc hv
      match i, hc, hv with
      | 0, hc, hv =>
        simp [zcells] at hc hv
        subst hc; subst hv
        exact ⟨_, rfl⟩
  | .pair a b, l, r, e => by
    simp only [isZ, Option.bind_eq_some_iff] at e
    obtain ⟨r1, e1, e2⟩ := e
    obtain ⟨p, rfl, h1, h2, h3⟩ := isZ_spec (S := S) (w := w) (h := h) (m := m) a l r1 e1
    obtain ⟨q, rfl, k1, k2, k3⟩ := isZ_spec (S := S) (w := w) (h := h) (m := m) b r1 r e2
    refine ⟨p ++ q, by simp, ?_, ⟨p, q, rfl, h2, k2⟩, ⟨p, q, _, _, rfl, h3, k3, fun _ h => h.elim, fun _ => by simp⟩⟩
    exact CellsRel_append h1 k1
  where
  CellsRel_append {h : HGet} {S : Blk} {w : World} {m : OMap} {cs ds : List ACell} {vs us : List Value} (a : CellsRel h S w m cs vs) (b : CellsRel h S w m ds us) : CellsRel h S w m (cs ++ ds) (vs ++ us) := by
    refine ⟨by simp [a.1, b.1], fun v hv => ?_, fun i c v hc hv => ?_⟩
    · rcases List.mem_append.1 hv with hv | hv
      · exact a.2.1 v hv
      · exact b.2.1 v hv
    · have hl := a.1
      by_cases hi : i < cs.length
      · rw [List.getElem?_append_left hi] at hc
        rw [List.getElem?_append_left (by omega)] at hv
        exact a.2.2 i c v hc hv
      · rw [List.getElem?_append_right (by omega)] at hc
        rw [List.getElem?_append_right (by omega), ← hl] at hv
        exact b.2.2 _ c v hc hv
section
variable {h : HGet} {S : Blk} {w : World} {m : OMap}
theorem CellsRel.append {cs ds : List ACell} {vs us : List Value} (a : CellsRel h S w m cs vs) (b : CellsRel h S w m ds us) : CellsRel h S w m (cs ++ ds) (vs ++ us) := isZ_spec.CellsRel_append a b
theorem CellsRel.nil : CellsRel h S w m [] [] := ⟨rfl, by simp, by simp⟩
theorem CellsRel.one {c : ACell} {v : Value} (r : CellRel h S w m c v) (h1 : v.oneCell' = true) : CellsRel h S w m [c] [v] :=
  ⟨rfl, by simpa using h1, fun i c' v' hc hv => by
    match i, hc, hv with
    | 0, hc, hv => simp at hc hv; subst hc; subst hv; exact r⟩
theorem CellsRel.take {cs : List ACell} {vs : List Value} (r : CellsRel h S w m cs vs) (n : Nat) : CellsRel h S w m (cs.take n) (vs.take n) :=
  ⟨by simp [r.1], fun v hv => r.2.1 v (List.mem_of_mem_take hv), fun i c v hc hv => by
    rw [List.getElem?_take] at hc hv
    split at hc
    · rw [if_pos (by assumption)] at hv; exact r.2.2 i c v hc hv
    · cases hc⟩
theorem CellsRel.drop {cs : List ACell} {vs : List Value} (r : CellsRel h S w m cs vs) (n : Nat) : CellsRel h S w m (cs.drop n) (vs.drop n) :=
  ⟨by simp [r.1], fun v hv => r.2.1 v (List.mem_of_mem_drop hv), fun i c v hc hv => by
    rw [List.getElem?_drop] at hc hv
    exact r.2.2 _ c v hc hv⟩
theorem CellsRel.uncons [Tabs] {c : ACell} {cs : List ACell} {vs : List Value} (r : CellsRel h S w m (c :: cs) vs) : ∃ v us, vs = v :: us ∧ CellRel h S w m c v ∧ v.oneCell' = true ∧ CellsRel h S w m cs us := by
  match vs, r with
  | v :: us, r => exact ⟨v, us, rfl, r.2.2 0 c v rfl rfl, r.2.1 v (by simp), by simpa using r.drop 1⟩
  | [], r => exact absurd r.1 (by simp)
theorem flat_rel [Tabs] : ∀ {t : Ty} {ds : List Value} {x : t.den}, Rep S w t ds x → CellsRel h S w m (flat t x) ds
  | .unit, ds, x, r => by simp only [Rep] at r; subst r; exact CellsRel.nil
  | .bool, ds, x, r => by
    have r' := r
    simp only [Rep] at r
    subst r
    exact CellsRel.one ⟨rfl, r'⟩ rfl
  | .int k, ds, x, r => by
    have r' := r
    obtain ⟨rfl, _⟩ := r
    exact CellsRel.one ⟨rfl, r'⟩ rfl
  | .str, ds, x, r => by
    have r' := r
    obtain ⟨rfl, _⟩ := r
    exact CellsRel.one ⟨rfl, r'⟩ rfl
  | .raw, ds, x, r => by
    have r' := r
    obtain ⟨rfl, h1⟩ := r
    exact CellsRel.one ⟨rfl, r'⟩ h1
  | .slice t, ds, x, r => by
    have r' := r
    obtain ⟨_, ⟨rfl, _⟩ | ⟨_, _, rfl, _⟩⟩ := r
    · exact CellsRel.one ⟨rfl, r'⟩ rfl
    · exact CellsRel.one ⟨rfl, r'⟩ rfl
  | .pair a b, ds, x, r => by
    obtain ⟨c, d, rfl, h1, h2⟩ := r
    exact (flat_rel h1).append (flat_rel h2)
theorem Rep.oneCell [Tabs] {t : Ty} {ds : List Value} {x : t.den} (r : Rep S w t ds x) : ∀ v ∈ ds, v.oneCell' = true := (flat_rel (h := fun _ => none) (m := fun _ => none) r).2.1
theorem flat_length : ∀ (t : Ty) (x : t.den), (flat t x).length = t.size
  | .unit, _ => rfl
  | .bool, _ => rfl
  | .int _, _ => rfl
  | .str, _ => rfl
  | .raw, _ => rfl
  | .slice _, _ => rfl
  | .pair a b, x => by simp [flat, Ty.size, flat_length a, flat_length b]
theorem size_one {t : Ty} (h : t.isAgg = false) : t.size = 1 := by cases t <;> simp_all [Ty.isAgg, Ty.size]
theorem cast?_some {t t' : Ty} {x : t.den} {y : t'.den} (e : cast? t' x = some y) : ∃ h : t = t', h ▸ x = y := by
  unfold cast? at e
  split at e
  · rename_i h; exact ⟨h, Option.some.inj e⟩
  · cases e
def Plus (m : OMap) (h : HGet) (S : Blk) (ids : List Nat) : Blk := fun q => S q ∨ ∃ id ∈ ids, h id ≠ none ∧ ∃ c, m id = some c ∧ c.F q
theorem idsOf_append (a b : List ACell) : idsOf (a ++ b) = idsOf a ++ idsOf b := by
  induction a with
  | nil => rfl
  | cons c a ih => cases c <;> simp [idsOf, ih]
theorem idsOf_sub_take [Tabs] (a : List ACell) (n : Nat) : ∀ id ∈ idsOf (a.take n), id ∈ idsOf a := by
  intro id hid
  have := idsOf_append (a.take n) (a.drop n)
  rw [List.take_append_drop] at this
  rw [this]; simp [hid]
theorem idsOf_sub_drop [Tabs] (a : List ACell) (n : Nat) : ∀ id ∈ idsOf (a.drop n), id ∈ idsOf a := by
  intro id hid
  have := idsOf_append (a.take n) (a.drop n)
  rw [List.take_append_drop] at this
  rw [this]; simp [hid]
variable {B : Nat} {M0 : Blk}
theorem cellTo_rep [Tabs] {get : HGet} (M : Mem h S w m B M0) (hg : ∀ id o, get id = some o → h id ≠ none → h id = some o) {t : Ty} (ht : t.isAgg = false) {c : ACell} {v : Value} {x : t.den}
    (e : cellToG get t c = some x) (r : CellRel h S w m c v) : Rep (Plus m h S (idsOf [c])) w t [v] x := by
  have hsub : ∀ q, S q → Plus m h S (idsOf [c]) q := fun q hq => .inl hq
  cases c with
  | pv u y =>
    obtain ⟨rfl, rfl⟩ := cast?_some (e : cast? t y = some x)
    exact r.2.mono hsub (fun _ _ => rfl) (Nat.le_refl _)
  | nils =>
    obtain ⟨o, rfl⟩ : ∃ o : Option Addr, v = .slice o 0 0 := r
    cases t with
    | slice t' =>
      simp only [cellToG, Option.some.injEq] at e
      subst e
      cases o with
      | none => exact ⟨Nat.zero_le _, .inl ⟨rfl, rfl⟩⟩
      | some a => exact ⟨Nat.zero_le _, .inr ⟨a, 0, rfl, ⟨Nat.le_refl _, Nat.zero_le _⟩, .inl rfl, fun i e h => by simp at h⟩⟩
    | _ => cases e
  | os id =>
    obtain ⟨⟨d, t', xs, ho⟩, c, hc, rfl⟩ := r
    simp only [cellToG] at e
    cases hgi : get id with
    | none => simp [hgi] at e
    | some o =>
      have := hg id o hgi (heap_ne ho)
      rw [ho] at this
      cases this
      simp only [hgi] at e
      obtain ⟨rfl, rfl⟩ := cast?_some e
      obtain ⟨c', hc', he, hr⟩ := M.obj id _ ho
      obtain rfl : c' = c := Option.some.inj (hc'.symm.trans hc)
      exact ArrRel.rep hr hsub fun _ hq => .inr ⟨id, by simp [idsOf], heap_ne ho, c', hc, hq⟩
  | sb id i off e' y =>
    obtain ⟨d, xs, ho, hi, rfl, ⟨u, z, hf⟩, c, g, n, cap, hc, hv, hcell⟩ := r
    simp only [cellToG, hf] at e
    obtain ⟨rfl, rfl⟩ := cast?_some e
    obtain ⟨c', hc', he, hr⟩ := M.obj id _ ho
    obtain rfl : c' = c := Option.some.inj (hc'.symm.trans hc)
    rcases hr with ⟨_, rfl, _⟩ | ⟨g', cap', cur, te, Fs, h1, h2, h3, h4, h5, h6, h7, h8, h9⟩
    · simp at hi
    · rw [h1] at hv
      simp only [Value.slice.injEq, Option.some.injEq, Addr.mk.injEq] at hv
      obtain ⟨⟨rfl, _⟩, _⟩ := hv
      have hlt : i < xs.length := (List.getElem?_eq_some_iff.1 hi).1
      have hown := h6 i y hi
      have hrep : Rep (Plus m h S (idsOf [.sb id i off e' y])) w e' _ y := Own.rep hown fun q hq => .inr ⟨id, by simp [idsOf], heap_ne ho, c', hc, (h9 q).2 (.inr ⟨i, hlt, hq⟩)⟩
      have hfl := flat_rel (h := h) (m := m) hrep
      have hoff : off < e'.size := by
        have := (List.getElem?_eq_some_iff.1 hf).1
        rw [flat_length] at this; exact this
      have hcur : i * e'.size + off < cur.size := by
        have : (i + 1) * e'.size ≤ cur.size := by rw [h3]; exact Nat.mul_le_mul_right _ (by omega)
        rw [Nat.add_mul, Nat.one_mul] at this; omega
      have hvc : ((cur.toList.drop (i * e'.size)).take e'.size)[off]? = some v := by
        rw [List.getElem?_take, if_pos hoff, List.getElem?_drop]
        have := hcell
        simp only [World.cell?, h2, Option.isSome_none, Bool.false_eq_true, if_false] at this
        simpa using this
      exact (hfl.2.2 off _ v hf hvc).2
  | _ => cases e
theorem Rep.plus {t : Ty} {ds : List Value} {x : t.den} {l l' : List Nat} (r : Rep (Plus m h S l) w t ds x) (hl : ∀ id ∈ l, id ∈ l') : Rep (Plus m h S l') w t ds x :=
  r.mono (fun q hq => hq.imp id fun ⟨i, hi, rest⟩ => ⟨i, hl i hi, rest⟩) (fun _ _ => rfl) (Nat.le_refl _)
theorem gather_rep [Tabs] {get : HGet} (M : Mem h S w m B M0) (hg : ∀ id o, get id = some o → h id ≠ none → h id = some o) : ∀ {t : Ty} {cs : List ACell} {vs : List Value} {x : t.den},
    gatherG get t cs = some x → CellsRel h S w m cs vs → cs.length = t.size → Rep (Plus m h S (idsOf cs)) w t vs x
  | .unit, cs, vs, x, _, r, hl => by
    have : vs = [] := List.eq_nil_of_length_eq_zero (by rw [← r.1, hl]; rfl)
    exact this
  | .pair a b, cs, vs, x, e, r, hl => by
    simp only [gatherG, Option.bind_eq_some_iff, Option.some.injEq] at e
    obtain ⟨y, e1, z, e2, rfl⟩ := e
    have hl' : cs.length = a.size + b.size := hl
    have h1 := gather_rep M hg e1 (r.take a.size) (by simp; omega)
    have h2 := gather_rep M hg e2 (r.drop a.size) (by simp; omega)
    exact ⟨vs.take a.size, vs.drop a.size, by simp, h1.plus (idsOf_sub_take _ _), h2.plus (idsOf_sub_drop _ _)⟩
  | .bool, [c], vs, x, e, r, _ => by
    obtain ⟨v, us, rfl, hr, _, hu⟩ := r.uncons
    have : us = [] := List.eq_nil_of_length_eq_zero hu.1.symm
    subst this
    exact cellTo_rep M hg rfl e hr
  | .int k, [c], vs, x, e, r, _ => by
    obtain ⟨v, us, rfl, hr, _, hu⟩ := r.uncons
    have : us = [] := List.eq_nil_of_length_eq_zero hu.1.symm
    subst this
    exact cellTo_rep M hg rfl e hr
  | .str, [c], vs, x, e, r, _ => by
    obtain ⟨v, us, rfl, hr, _, hu⟩ := r.uncons
    have : us = [] := List.eq_nil_of_length_eq_zero hu.1.symm
    subst this
    exact cellTo_rep M hg rfl e hr
  | .raw, [c], vs, x, e, r, _ => by
    obtain ⟨v, us, rfl, hr, _, hu⟩ := r.uncons
    have : us = [] := List.eq_nil_of_length_eq_zero hu.1.symm
    subst this
    exact cellTo_rep M hg rfl e hr
  | .slice t, [c], vs, x, e, r, _ => by
    obtain ⟨v, us, rfl, hr, _, hu⟩ := r.uncons
    have : us = [] := List.eq_nil_of_length_eq_zero hu.1.symm
    subst this
    exact cellTo_rep M hg rfl e hr
theorem tyOk_info {P : Program} {t : TypeId} {u : Ty} (e : tyOk P t u = true) : ∃ i z, P.info? t = some i ∧ i.size = u.size ∧ i.zero = some z ∧ isZ u z.cells.toList = some [] := by
  unfold tyOk at e
  rw [Bool.and_eq_true] at e
  cases hi : P.info? t with
  | none => rw [hi] at e; cases e.1
  | some i =>
    rw [hi] at e
    have e1 := e.1
    simp only [Bool.and_eq_true] at e1
    unfold zOk at e1
    cases hz : i.zero with
    | none => rw [hz] at e1; cases e1.2
    | some z =>
      rw [hz] at e1
      refine ⟨i, z, rfl, Nat.eq_of_beq_eq_true e1.1, hz, ?_⟩
      have := e1.2
      simp only at this
      split at this
      · assumption
      · cases this
theorem lookS_spec {l : List (Nat × Ty)} {i : Nat} {u : Ty} (h : lookS l i = some u) : look l i = some u ∧ isArrT u = false := by
  unfold lookS at h
  cases hl : look l i with
  | none => rw [hl] at h; cases h
  | some v =>
    rw [hl] at h
    simp only at h
    cases ha : isArrT v with
    | true => rw [ha] at h; cases h
    | false => rw [ha] at h; cases h; exact ⟨rfl, ha⟩
theorem tyOk_desc {P : Program} {t : TypeId} {u : Ty} (e : tyOk P t u = true) : ∃ d, P.underlying t = some d ∧ descOk P d u = true := by
  unfold tyOk at e
  rw [Bool.and_eq_true] at e
  cases hd : P.underlying t with
  | none => rw [hd] at e; cases e.2
  | some d => rw [hd] at e; exact ⟨d, rfl, e.2⟩
theorem descOk_agg {P : Program} {d : TypeDesc} {u : Ty} (e : descOk P d u = true) : descAgg d = u.isAgg := by
  unfold descOk at e
  split at e <;> first | rfl | (simp only [Bool.and_eq_true] at e; rw [e.1]; rfl) | cases e
theorem run_isAgg_ty [Tabs] {P : Program} {t : TypeId} {u : Ty} (e : tyOk P t u = true) (w : World) : (isAgg t).run P w = .ok u.isAgg w := by
  obtain ⟨d, hd, ho⟩ := tyOk_desc e
  have ha := descOk_agg ho
  unfold isAgg
  simp only [Sem.run_bind, run_underlying hd, Result.andThen_ok]
  rw [← ha]
  cases d <;> rfl
theorem run_sizeOf_ty [Tabs] {P : Program} {t : TypeId} {u : Ty} (e : tyOk P t u = true) (w : World) : (sizeOf t).run P w = .ok u.size w := by
  obtain ⟨i, z, hi, hs, _⟩ := tyOk_info e
  simp [sizeOf, typeInfo, hi, hs]
theorem run_zero_ty [Tabs] {P : Program} {t : TypeId} {u : Ty} (e : tyOk P t u = true) (w : World) : ∃ z, (zeroValue t).run P w = .ok z w ∧ isZ u z.cells.toList = some [] := by
  obtain ⟨i, z, hi, hs, hz, hc⟩ := tyOk_info e
  exact ⟨z, by simp [zeroValue, typeInfo, hi, hz], hc⟩
def valV (agg : Bool) (ds : List Value) : Value := if agg then .agg ds.toArray else ds.headD undef
theorem valOf_rel [Tabs] {agg : Bool} {cs : List ACell} {ds : List Value} (r : CellsRel h S w m cs ds) (hn : agg = true ∨ ∃ c, cs = [c]) : VRel h S w m (valOf agg cs) (valV agg ds) := by
  cases agg with
  | true => exact ⟨ds.toArray, rfl, by simpa using r⟩
  | false =>
    obtain ⟨c, rfl⟩ := hn.resolve_left (by simp)
    obtain ⟨v, us, rfl, hr, _⟩ := r.uncons
    exact hr
theorem cells_one {v : Value} (h1 : v.oneCell' = true) : v.cells = #[v] := by cases v <;> first | rfl | cases h1
theorem VkRel.oneCell {o : AObj} {c : OC} (hc : (∃ t k xs, o = .src t k xs) → c.v.oneCell' = true) : {k : VK} → {v : Value} → VkRel w o c k v → v.oneCell' = true
  | .win _ _, v, r => by
    obtain ⟨_, _, _, _, _, _, ⟨_, _, rfl, _⟩ | ⟨_, _, _, _, rfl, _⟩⟩ := r <;> rfl
  | .inn _ _ _ _ _, v, r => by
    obtain ⟨_, _, _, _, _, _, _, _, _, _, _, _, _, _, _, rfl⟩ := r
    rfl
  | .app _ _ _ _ _ _, v, r => by
    obtain ⟨_, _, _, _, _, _, _, _, _, _, _, _, _, _, _, _, rfl, _⟩ := r
    rfl
  | .all, v, r => by rw [r.2]; exact hc r.1
  | .el _, v, r => by
    obtain ⟨_, _, _, _, _, _, _, _, _, rfl⟩ := r
    rfl
theorem CellRel.oneCell [Tabs] {c : ACell} {v : Value} (r : CellRel h S w m c v) (hc : c ≠ .und) (M : Mem h S w m B M0) : v.oneCell' = true := by
  cases c with
  | und => exact absurd rfl hc
  | nils => obtain ⟨o, rfl⟩ : ∃ o : Option Addr, v = .slice o 0 0 := r; rfl
  | pv t x => exact r.2.oneCell v (by simp)
  | pc t x => obtain ⟨_, _, _, rfl, _⟩ := r; rfl
  | os id =>
    obtain ⟨⟨d, t, xs, ho⟩, c, hc', rfl⟩ := r
    obtain ⟨c', h1, _, h3⟩ := M.obj _ _ ho
    obtain rfl : c' = c := Option.some.inj (h1.symm.trans hc')
    rcases h3 with ⟨⟨_, e⟩, _⟩ | ⟨g, cap, cur, te, Fs, e, _⟩ <;> rw [e] <;> rfl
  | op id off => obtain ⟨_, _, _, _, _, rfl⟩ := r; rfl
  | oe id i off => obtain ⟨_, _, _, _, _, _, _, rfl⟩ := r; rfl
  | sb id i off e y =>
    obtain ⟨d, xs, ho, hi, rfl, ⟨u, z, hf⟩, c, g, n, cap, hc', hv, hcell⟩ := r
    have := cellTo_rep (get := h) M (fun _ _ e _ => e) (t := .slice u) (c := .sb id i off e y) (v := v) (x := z) rfl (by simp only [cellToG, hf]; simp [cast?]) ⟨true, xs, ho, hi, rfl, ⟨u, z, hf⟩, c, g, n, cap, hc', hv, hcell⟩
    exact this.oneCell v (by simp)
  | vw id k =>
    obtain ⟨o, ho, _, c, hc', r⟩ := r
    refine r.oneCell ?_
    rintro ⟨t, k, xs, rfl⟩
    obtain ⟨c', h1, _, h3⟩ := M.obj _ _ ho
    obtain rfl : c' = c := Option.some.inj (h1.symm.trans hc')
    rcases h3 with ⟨⟨_, e⟩, _⟩ | ⟨g, cap, cur, te, Fs, e, _⟩ <;> rw [e] <;> rfl
  | cl f caps => obtain ⟨_, rfl, _⟩ := r; rfl
theorem VRel.cells [Tabs] {v : AVal} {u : Value} (r : VRel h S w m v u) (hs : v.solid = true) (M : Mem h S w m B M0) : CellsRel h S w m v.cells u.cells.toList := by
  cases v with
  | one c =>
    have hc : c ≠ .und := fun e => by subst e; cases hs
    have h1 := CellRel.oneCell r hc M
    rw [cells_one h1]
    exact CellsRel.one r h1
  | ag cs => obtain ⟨vs, rfl, r⟩ := r; exact r
  | tu l => cases hs
theorem run_loadVar_ty [Tabs] {P : Program} {t : TypeId} {u : Ty} (e : tyOk P t u = true) {b o : Nat} {ds : List Value} (hr : ReadsAt w b o ds) (hl : ds.length = u.size) : (loadVar t ⟨b, o, none⟩).run P w = .ok (valV u.isAgg ds) w := by
  have hc : ∀ j v, ds[j]? = some v → w.cell? ((⟨b, o, none⟩ : Addr).add j) = some v := by
    intro j v hj
    have : (⟨b, o, none⟩ : Addr).add j = ⟨b, o + j, none⟩ := by unfold Addr.add; split <;> simp_all
    rw [this]; exact hr j v hj
  unfold loadVar
  simp only [Sem.run_bind, run_isAgg_ty e, Result.andThen_ok]
  cases ha : u.isAgg with
  | true =>
    simp only [if_true, Sem.run_bind, run_sizeOf_ty e, Result.andThen_ok]
    rw [← hl, run_loadCells_list w _ ds hc]
    rfl
  | false =>
    have h1 := size_one ha
    match ds, hl, hc with
    | [d], hl, hc =>
      have := hc 0 d rfl
      have e0 : (⟨b, o, none⟩ : Addr).add 0 = ⟨b, o, none⟩ := by unfold Addr.add; simp
      rw [e0] at this
      simp [this, valV]
    | [], hl, _ => simp [h1] at hl
    | _ :: _ :: _, hl, _ => simp [h1] at hl
theorem seg_get (L : List Value) (a b j : Nat) : ((L.drop a).take b)[j]? = if j < b then L[a + j]? else none := by
  rw [List.getElem?_take]
  split
  · rw [List.getElem?_drop]
  · rfl
theorem own_each {get : HGet} : ∀ {t : Ty} {cs : List ACell} {vs : List Value} {x : t.den} {Fs : Nat → Blk}, gatherG get t cs = some x → cs.length = t.size → vs.length = t.size →
    (∀ (i : Nat) (c : ACell) (v : Value) (u : Ty) (z : u.den), cs[i]? = some c → vs[i]? = some v → u.isAgg = false → cellToG get u c = some z → Own w u [v] z (Fs i)) →
    (∀ i j q, Fs i q → Fs j q → i = j) → Own w t vs x (fun q => ∃ i, i < t.size ∧ Fs i q)
  | .unit, _, vs, _, _, _, _, hv, _, _ => ⟨List.eq_nil_of_length_eq_zero hv, fun q ⟨i, hi, _⟩ => by simp [Ty.size] at hi⟩
  | .pair a b, cs, vs, x, Fs, e, hl, hv, f, hd => by
    simp only [gatherG, Option.bind_eq_some_iff, Option.some.injEq] at e
    obtain ⟨y, e1, z, e2, rfl⟩ := e
    have hl' : cs.length = a.size + b.size := hl
    have hv' : vs.length = a.size + b.size := hv
    refine ⟨vs.take a.size, vs.drop a.size, _, _, by simp, own_each (Fs := Fs) e1 (by simp; omega) (by simp; omega) (fun i c v u z hc hu => ?_) hd, own_each (Fs := fun i => Fs (a.size + i)) e2 (by simp; omega) (by simp; omega) (fun i c v u z hc hu => ?_) (fun i j q h1 h2 => by have := hd _ _ q h1 h2; omega), fun q ⟨i, hi, h1⟩ ⟨j, hj, h2⟩ => ?_, fun q => ⟨fun ⟨i, hi, h1⟩ => ?_, fun h => ?_⟩⟩
    · rw [List.getElem?_take] at hc hu
      split at hc
      · rename_i hi; rw [if_pos hi] at hu; exact f i c v u z hc hu
      · cases hc
    · rw [List.getElem?_drop] at hc hu
      exact f (a.size + i) c v u z hc hu
    · have := hd _ _ q h1 h2; omega
    · have hi' : i < a.size + b.size := hi
      by_cases h : i < a.size
      · exact .inl ⟨i, h, h1⟩
      · exact .inr ⟨i - a.size, by omega, by rw [show a.size + (i - a.size) = i by omega]; exact h1⟩
    · have hsz : (Ty.pair a b).size = a.size + b.size := rfl
      rcases h with ⟨i, hi, h1⟩ | ⟨i, hi, h1⟩
      · exact ⟨i, by omega, h1⟩
      · exact ⟨a.size + i, by omega, h1⟩
  | .bool, [c], [v], x, Fs, e, _, _, f, _ => by
    obtain ⟨h1, h2⟩ := f 0 c v .bool x rfl rfl rfl e
    exact ⟨h1, fun q ⟨i, hi, hq⟩ => by simp [Ty.size] at hi; subst hi; exact h2 q hq⟩
  | .int k, [c], [v], x, Fs, e, _, _, f, _ => by
    obtain ⟨h1, h2⟩ := f 0 c v (.int k) x rfl rfl rfl e
    exact ⟨h1, fun q ⟨i, hi, hq⟩ => by simp [Ty.size] at hi; subst hi; exact h2 q hq⟩
  | .str, [c], [v], x, Fs, e, _, _, f, _ => by
    obtain ⟨h1, h2⟩ := f 0 c v .str x rfl rfl rfl e
    exact ⟨h1, fun q ⟨i, hi, hq⟩ => by simp [Ty.size] at hi; subst hi; exact h2 q hq⟩
  | .raw, [c], [v], x, Fs, e, _, _, f, _ => by
    obtain ⟨h1, h2⟩ := f 0 c v .raw x rfl rfl rfl e
    exact ⟨h1, fun q ⟨i, hi, hq⟩ => by simp [Ty.size] at hi; subst hi; exact h2 q hq⟩
  | .slice t, [c], [v], x, Fs, e, _, _, f, _ => by
    have := f 0 c v (.slice t) x rfl rfl rfl e
    have e2 : (fun q => ∃ i, i < (Ty.slice t).size ∧ Fs i q) = Fs 0 := by
      funext q
      refine propext ⟨fun ⟨i, hi, hq⟩ => ?_, fun hq => ⟨0, by simp [Ty.size], hq⟩⟩
      simp [Ty.size] at hi
      subst hi
      exact hq
    rw [e2]
    exact this
theorem own_flat1 [Tabs] {t : Ty} {ds : List Value} {x : t.den} {F : Blk} (ha : t.isAgg = false) (o : Own w t ds x F) : ∃ Fs : Nat → Blk,
    (∀ (i : Nat) (c : ACell) (v : Value), (flat t x)[i]? = some c → ds[i]? = some v → ∃ (u : Ty) (z : u.den), c = .pv u z ∧ Own w u [v] z (Fs i)) ∧ (∀ i j q, Fs i q → Fs j q → i = j) ∧ ∀ i q, Fs i q → F q := by
  have hl := o.len
  have h1 : t.size = 1 := size_one ha
  have hf : flat t x = [.pv t x] := by cases t <;> first | rfl | cases ha
  refine ⟨fun i q => i = 0 ∧ F q, fun i c v hi hv => ?_, fun i j q hi hj => hi.1.trans hj.1.symm, fun i q hi => hi.2⟩
  rw [hf] at hi
  cases i with
  | zero =>
    simp at hi
    refine ⟨t, x, hi.symm, ?_⟩
    match ds, hl, hv with
    | [v'], _, hv =>
      simp at hv
      subst hv
      have e : (fun q => (0 : Nat) = 0 ∧ F q) = F := by funext q; simp
      show Own w t [v'] x (fun q => (0 : Nat) = 0 ∧ F q)
      rw [e]
      exact o
    | [], hl, _ => rw [h1] at hl; cases hl
    | _ :: _ :: _, hl, _ => rw [h1] at hl; simp at hl
  | succ i => simp at hi
theorem own_flat [Tabs] : ∀ {t : Ty} {ds : List Value} {x : t.den} {F : Blk}, Own w t ds x F → ∃ Fs : Nat → Blk,
    (∀ (i : Nat) (c : ACell) (v : Value), (flat t x)[i]? = some c → ds[i]? = some v → ∃ (u : Ty) (z : u.den), c = .pv u z ∧ Own w u [v] z (Fs i)) ∧ (∀ i j q, Fs i q → Fs j q → i = j) ∧ ∀ i q, Fs i q → F q
  | .unit, ds, x, F, o => ⟨fun _ _ => False, fun i c v h => by simp [flat] at h, fun _ _ _ h => h.elim, fun _ _ h => h.elim⟩
  | .pair a b, ds, x, F, o => by
    obtain ⟨c, d, G, H, rfl, h1, h2, h3, h4⟩ := o
    obtain ⟨Fa, a1, a2, a3⟩ := own_flat h1
    obtain ⟨Fb, b1, b2, b3⟩ := own_flat h2
    have hc := h1.len
    have hfl : ∀ {t : Ty} (x : t.den), (flat t x).length = t.size := fun x => flat_length _ x
    refine ⟨fun i => if i < a.size then Fa i else Fb (i - a.size), fun i cc v hi hv => ?_, fun i j q hi hj => ?_, fun i q hi => ?_⟩
    · simp only [flat] at hi
      by_cases hl : i < a.size
      · rw [List.getElem?_append_left (by rw [hfl]; exact hl)] at hi
        rw [List.getElem?_append_left (by omega)] at hv
        simp only [if_pos hl]
        exact a1 i cc v hi hv
      · rw [List.getElem?_append_right (by rw [hfl]; omega), hfl] at hi
        rw [List.getElem?_append_right (by omega), hc] at hv
        simp only [if_neg hl]
        exact b1 _ cc v hi hv
    · by_cases li : i < a.size
      · by_cases lj : j < a.size
        · simp only [if_pos li] at hi; simp only [if_pos lj] at hj; exact a2 i j q hi hj
        · simp only [if_pos li] at hi; simp only [if_neg lj] at hj; exact (h3 q (a3 i q hi) (b3 _ q hj)).elim
      · by_cases lj : j < a.size
        · simp only [if_neg li] at hi; simp only [if_pos lj] at hj; exact (h3 q (a3 j q hj) (b3 _ q hi)).elim
        · simp only [if_neg li] at hi; simp only [if_neg lj] at hj
          have := b2 _ _ q hi hj
          omega
    · by_cases li : i < a.size
      · simp only [if_pos li] at hi; exact (h4 q).2 (.inl (a3 i q hi))
      · simp only [if_neg li] at hi; exact (h4 q).2 (.inr (b3 _ q hi))
  | .bool, ds, x, F, o => own_flat1 (t := .bool) rfl o
  | .int k, ds, x, F, o => own_flat1 (t := .int k) rfl o
  | .str, ds, x, F, o => own_flat1 (t := .str) rfl o
  | .raw, ds, x, F, o => own_flat1 (t := .raw) rfl o
  | .slice u, ds, x, F, o => own_flat1 (t := .slice u) rfl o
theorem sb_part [Tabs] (M : Mem h S w m B M0) {id i off : Nat} {e : Ty} {y : e.den} {v : Value} (r : CellRel h S w m (.sb id i off e y) v) :
    ∃ xs u z c g cap G0, h id = some (.arr true e xs) ∧ xs[i]? = some y ∧ (flat e y)[off]? = some (.pv (.slice u) z) ∧ m id = some c ∧ c.v = .slice (some ⟨g, 0, none⟩) xs.length cap ∧
      w.cell? ⟨g, i * e.size + off, none⟩ = some v ∧ Own w (.slice u) [v] z G0 ∧ ∀ q, G0 q → c.F q ∧ q ≠ g := by
  obtain ⟨d, xs, ho, hi, rfl, ⟨u, z, hf⟩, c, g, n, cap, hc, hv, hcell⟩ := r
  obtain ⟨c', hc', he, hr⟩ := M.obj id _ ho
  obtain rfl : c' = c := Option.some.inj (hc'.symm.trans hc)
  rcases hr with ⟨_, rfl, _⟩ | ⟨g', cap', cur, te, Fs, h1, h2, h3, h4, h5, h6, h7, h8, h9⟩
  · simp at hi
  have hv0 := hv
  rw [h1] at hv
  simp only [Value.slice.injEq, Option.some.injEq, Addr.mk.injEq] at hv
  obtain ⟨⟨rfl, _⟩, rfl, rfl⟩ := hv
  have hlt : i < xs.length := (List.getElem?_eq_some_iff.1 hi).1
  have hoff : off < e.size := by have := (List.getElem?_eq_some_iff.1 hf).1; rw [flat_length] at this; exact this
  have hseg : ((cur.toList.drop (i * e.size)).take e.size)[off]? = some v := by
    rw [seg_get, if_pos hoff]
    have := hcell
    simp only [World.cell?, h2, Option.isSome_none, Bool.false_eq_true, if_false] at this
    simpa using this
  obtain ⟨Fp, p1, p2, p3⟩ := own_flat (h6 i y hi)
  obtain ⟨u', z', hp, ho'⟩ := p1 off _ v hf hseg
  cases hp
  exact ⟨xs, u, z, c', g', cap', Fp off, ho, hi, hf, hc, hv0, hcell, ho', fun q hq => ⟨(h9 q).2 (.inr ⟨i, hlt, p3 off q hq⟩), fun e => h8 i hlt (e ▸ p3 off q hq)⟩⟩
end
end Go.Ab
