/-
  When the evaluator's state stands for a frame and a world.
-/
import Derived.Test.YtlhplhjibadplaaXRel
namespace Go.Ab
open Go Go.RowKit

/-- what lies in the library's tables and variables: a block, what is known of it -/
class Tabs where
  l : List (Nat × (Obj → Prop))
/-- the tables lie where they are, below B and apart from M -/
def TabOk [Tabs] (w : World) (B : Nat) (Ms : Blk) : Prop := ∀ p ∈ Tabs.l, p.1 < B ∧ ¬ Ms p.1 ∧ ∃ o, w.heap[p.1]? = some o ∧ p.2 o

/-- what an object is in memory: the value that leads to it, the blocks that are its own, a slice's element type -/
structure OC where
  v : Value
  F : Blk
  e : Ty
abbrev OMap := Nat → Option OC
abbrev HGet := Nat → Option AObj

/-- a variable that is never written again -/
def PcRel (S : Blk) (w : World) (t : Ty) (x : t.den) (v : Value) : Prop := ∃ b o ds, v = .pointer (some ⟨b, o, none⟩) ∧ S b ∧ b < w.heap.size ∧ ReadsAt w b o ds ∧ Rep S w t ds x
def CapsRel (S : Blk) (w : World) : List Cap → List Value → Prop
  | [], vs => vs = []
  | .val t x :: cs, vs => ∃ v r, vs = v :: r ∧ PcRel S w t x v ∧ CapsRel S w cs r
theorem PcRel.mono {S S' : Blk} {w w' : World} (hS : ∀ q, S q → S' q) (hw : ∀ q, S q → w'.heap[q]? = w.heap[q]?) (hz : w.heap.size ≤ w'.heap.size) {t : Ty} {x : t.den} {v : Value} (r : PcRel S w t x v) : PcRel S' w' t x v := by
  obtain ⟨b, o, ds, h1, h2, h3, h4, h5⟩ := r
  exact ⟨b, o, ds, h1, hS b h2, Nat.lt_of_lt_of_le h3 hz, h4.mono (hw b h2), h5.mono hS hw hz⟩
theorem CapsRel.mono [Tabs] {S S' : Blk} {w w' : World} (hS : ∀ q, S q → S' q) (hw : ∀ q, S q → w'.heap[q]? = w.heap[q]?) (hz : w.heap.size ≤ w'.heap.size) : ∀ {cs : List Cap} {vs : List Value}, CapsRel S w cs vs → CapsRel S' w' cs vs
  | [], _, r => r
  | .val _ _ :: _, _, r => by
    obtain ⟨v, q, e, h1, h2⟩ := r
    exact ⟨v, q, e, h1.mono hS hw hz, CapsRel.mono hS hw hz h2⟩

/-- what a view of an own slice is in memory -/
def VkRel (w : World) (o : AObj) (c : OC) : VK → Value → Prop
  | .win lo hi, v => ∃ d t xs, o = .arr d t xs ∧ lo ≤ hi ∧ hi ≤ xs.length ∧
      ((∃ a : Option Addr, c.v = .slice a 0 0 ∧ v = .slice a 0 0 ∧ xs = []) ∨ ∃ g cap a, c.v = .slice (some ⟨g, 0, none⟩) xs.length cap ∧ v = .slice (some a) (hi - lo) (cap - lo) ∧ (cap ≠ lo → a = ⟨g, lo * t.size, none⟩))
  | .inn i off e y j, v => ∃ xs u z, o = .arr true e xs ∧ xs[i]? = some y ∧ (flat e y)[off]? = some (.pv (.slice u) z) ∧ j < List.length (α := u.den) z ∧
      ∃ g n cap g2 n2 cap2, c.v = .slice (some ⟨g, 0, none⟩) n cap ∧ w.cell? ⟨g, i * e.size + off, none⟩ = some (.slice (some ⟨g2, 0, none⟩) n2 cap2) ∧ v = .pointer (some ⟨g2, j * u.size, none⟩)
  | .app i off e y u ys, v => ∃ xs z, o = .arr true e xs ∧ xs[i]? = some y ∧ (flat e y)[off]? = some (.pv (.slice u) z) ∧
      ∃ g n cap g2 n2 cap2 cur te, c.v = .slice (some ⟨g, 0, none⟩) n cap ∧ w.cell? ⟨g, i * e.size + off, none⟩ = some (.slice (some ⟨g2, 0, none⟩) n2 cap2) ∧ c.F g2 ∧ v = .slice (some ⟨g2, 0, none⟩) (n2 + ys.length) cap2 ∧ n2 + ys.length ≤ cap2 ∧
        w.heap[g2]? = some (.cells cur te (0, 0)) ∧ ∀ k x, ys[k]? = some x → Own w u ((cur.toList.drop ((n2 + k) * u.size)).take u.size) x (fun _ => False)

theorem VkRel.mono {w w' : World} {o : AObj} {c : OC} (hg : ∀ d t xs g n cap, o = .arr d t xs → 0 < xs.length → c.v = .slice (some ⟨g, 0, none⟩) n cap → c.F g) (hF : ∀ q, c.F q → w'.heap[q]? = w.heap[q]?) :
    {k : VK} → {v : Value} → VkRel w o c k v → VkRel w' o c k v
  | .win _ _, _, r => r
  | .inn i off e y j, v, r => by
    obtain ⟨xs, u, z, h1, h2, h3, h4, g, n, cap, g2, n2, cap2, h5, h6, h7⟩ := r
    have hk := hg _ _ _ g n cap h1 (Nat.zero_lt_of_lt (List.getElem?_eq_some_iff.1 h2).1) h5
    exact ⟨xs, u, z, h1, h2, h3, h4, g, n, cap, g2, n2, cap2, h5, (World.cell?_of_block (w := w) (w' := w') (hF g hk)).trans h6, h7⟩
  | .app i off e y u ys, v, r => by
    obtain ⟨xs, z, h1, h2, h3, g, n, cap, g2, n2, cap2, cur, te, h5, h6, h7, h8, h9, h10, h11⟩ := r
    have hk := hg _ _ _ g n cap h1 (Nat.zero_lt_of_lt (List.getElem?_eq_some_iff.1 h2).1) h5
    exact ⟨xs, z, h1, h2, h3, g, n, cap, g2, n2, cap2, cur, te, h5, (World.cell?_of_block (w := w) (w' := w') (hF g hk)).trans h6, h7, h8, h9, (hF g2 h7).trans h10, fun k x hx => Own.mono (fun _ h => h.elim) (h11 k x hx)⟩

def CellRel (h : HGet) (S : Blk) (w : World) (m : OMap) : ACell → Value → Prop
  | .und, _ => True
  | .nils, v => ∃ o : Option Addr, v = .slice o 0 0
  | .pv t x, v => t.isAgg = false ∧ Rep S w t [v] x
  | .pc t x, v => ∃ b o ds, v = .pointer (some ⟨b, o, none⟩) ∧ S b ∧ b < w.heap.size ∧ ReadsAt w b o ds ∧ Rep S w t ds x
  | .os id, v => (∃ d t xs, h id = some (.arr d t xs)) ∧ ∃ c, m id = some c ∧ v = c.v
  | .op id off, v => (∃ cs, h id = some (.box cs)) ∧ ∃ c b, m id = some c ∧ c.v = .pointer (some ⟨b, 0, none⟩) ∧ v = .pointer (some ⟨b, off, none⟩)
  | .oe id i off, v => (∃ d t xs, h id = some (.arr d t xs) ∧ i < xs.length) ∧ ∃ c g n cap, m id = some c ∧ c.v = .slice (some ⟨g, 0, none⟩) n cap ∧ v = .pointer (some ⟨g, i * c.e.size + off, none⟩)
  | .sb id i off e y, v => ∃ d xs, h id = some (.arr d e xs) ∧ xs[i]? = some y ∧ d = true ∧ (∃ u z, (flat e y)[off]? = some (.pv (.slice u) z)) ∧
      ∃ c g n cap, m id = some c ∧ c.v = .slice (some ⟨g, 0, none⟩) n cap ∧ w.cell? ⟨g, i * e.size + off, none⟩ = some v
  | .vw id k, v => ∃ o, h id = some o ∧ (∃ d t xs, o = .arr d t xs) ∧ ∃ c, m id = some c ∧ VkRel w o c k v
  | .cl f caps, v => ∃ cs : Array Value, v = .func (.func f) #[] cs ∧ CapsRel S w caps cs.toList

def CellsRel (h : HGet) (S : Blk) (w : World) (m : OMap) (cs : List ACell) (vs : List Value) : Prop :=
  cs.length = vs.length ∧ (∀ v ∈ vs, v.oneCell' = true) ∧ ∀ (i : Nat) (c : ACell) (v : Value), cs[i]? = some c → vs[i]? = some v → CellRel h S w m c v

def VRel1 (h : HGet) (S : Blk) (w : World) (m : OMap) (p : Bool × List ACell) (v : Value) : Prop :=
  match p with
  | (true, cs) => ∃ vs : Array Value, v = .agg vs ∧ CellsRel h S w m cs vs.toList
  | (false, cs) => ∃ c, cs = [c] ∧ CellRel h S w m c v

def VRel (h : HGet) (S : Blk) (w : World) (m : OMap) : AVal → Value → Prop
  | .one c, v => CellRel h S w m c v
  | .ag cs, v => ∃ vs : Array Value, v = .agg vs ∧ CellsRel h S w m cs vs.toList
  | .tu l, v => ∃ vs : Array Value, v = .tuple vs ∧ vs.size = l.length ∧ ∀ (i : Nat) (p : Bool × List ACell) (u : Value), l[i]? = some p → vs[i]? = some u → VRel1 h S w m p u

def ObjRel (h : HGet) (S : Blk) (w : World) (m : OMap) (o : AObj) (c : OC) : Prop :=
  match o with
  | .box cs => ∃ b cur e, c.v = .pointer (some ⟨b, 0, none⟩) ∧ w.heap[b]? = some (.cells cur e (0, 0)) ∧ CellsRel h S w m cs cur.toList ∧ ∀ q, c.F q ↔ q = b
  | .arr d t xs => c.e = t ∧ ArrRel S w d t c.v xs c.F

structure Mem (h : HGet) (S : Blk) (w : World) (m : OMap) (B : Nat) (M0 : Blk) : Prop where
  obj : ∀ id o, h id = some o → ∃ c, m id = some c ∧ ObjRel h S w m o c
  dis : ∀ i j c d, i ≠ j → h i ≠ none → h j ≠ none → m i = some c → m j = some d → ∀ q, c.F q → d.F q → False
  apart : ∀ i c, h i ≠ none → m i = some c → ∀ q, c.F q → ¬ S q ∧ q < w.heap.size ∧ (B ≤ q ∨ M0 q)
  lt : ∀ q, S q → q < w.heap.size

/-- nothing that was there has turned, but for blocks of M0 -/
structure Frm [Tabs] (w0 w : World) (B : Nat) (M0 : Blk) : Prop where
  os : w.os = w0.os
  tape : w.tape = w0.tape
  output : w.output = w0.output
  size : w0.heap.size ≤ w.heap.size
  block : ∀ q, q < B → ¬ M0 q → w.heap[q]? = w0.heap[q]?
  fz : ∀ a : Addr, a.block < w0.heap.size → w.frozen? a = w0.frozen? a
  tab : TabOk w0 B M0

structure Rel [Tabs] (w0 : World) (B : Nat) (M0 : Blk) (S : Blk) (m : OMap) (s : AS) (a : Act) (w : World) : Prop where
  mem : Mem s.h.get S w m B M0
  frm : Frm w0 w B M0
  tmps : ∀ i, VRel s.h.get S w m (s.ρ.getD i (.one .und)) (a.tmps.getD i undef)
  size : a.tmps.size = s.ρ.length
  defers : a.defers = []

/-- the world has grown: no block that was there has turned -/
structure Grow (w w' : World) : Prop where
  os : w'.os = w.os
  tape : w'.tape = w.tape
  output : w'.output = w.output
  size : w.heap.size ≤ w'.heap.size
  block : ∀ q, q < w.heap.size → w'.heap[q]? = w.heap[q]?
  fz : ∀ a : Addr, a.block < w.heap.size → w'.frozen? a = w.frozen? a

theorem Grow.refl (w : World) : Grow w w := ⟨rfl, rfl, rfl, Nat.le_refl _, fun _ _ => rfl, fun _ _ => rfl⟩
theorem Grow.trans {a b c : World} (h : Grow a b) (k : Grow b c) : Grow a c :=
  ⟨k.os.trans h.os, k.tape.trans h.tape, k.output.trans h.output, Nat.le_trans h.size k.size, fun q hq => (k.block q (Nat.lt_of_lt_of_le hq h.size)).trans (h.block q hq), fun a ha => (k.fz a (Nat.lt_of_lt_of_le ha h.size)).trans (h.fz a ha)⟩
theorem Grow.alloc (w : World) (c : Array Value) (t : TypeId) : Grow w (w.alloc (.cells c t)) := ⟨rfl, rfl, rfl, by simp, fun q hq => by simp only [World.alloc, Array.getElem?_push]; rw [if_neg (by omega)], fun a _ => frozen?_alloc_cells w c t a⟩
theorem Grow.drew (w : World) : Grow w w.drew := ⟨rfl, rfl, rfl, Nat.le_refl _, fun _ _ => rfl, fun _ _ => rfl⟩

/-- the tables, in a later world -/
theorem Frm.tabs [Tabs] {w0 w : World} {B : Nat} {M0 : Blk} (h : Frm w0 w B M0) (hB : B ≤ w.heap.size) {Ms : Blk} (hM : ∀ q, Ms q → B ≤ q ∨ M0 q) : TabOk w w.heap.size Ms := fun p hp => by
  obtain ⟨h1, h2, h3⟩ := h.tab p hp
  exact ⟨Nat.lt_of_lt_of_le h1 hB, fun hm => (hM _ hm).elim (fun h => by omega) h2, h3.imp fun o ho => ⟨(h.block _ h1 h2).trans ho.1, ho.2⟩⟩
theorem Frm.grow [Tabs] {w0 w w' : World} {B : Nat} {M0 : Blk} (h : Frm w0 w B M0) (hB : B ≤ w.heap.size) (g : Grow w w') : Frm w0 w' B M0 :=
  ⟨g.os.trans h.os, g.tape.trans h.tape, g.output.trans h.output, Nat.le_trans h.size g.size, fun q hq hm => (g.block q (Nat.lt_of_lt_of_le hq hB)).trans (h.block q hq hm), fun a ha => (g.fz a (Nat.lt_of_lt_of_le ha h.size)).trans (h.fz a ha), h.tab⟩

/-! what stands, stands in a larger state -/

/-- h' has what h has, under the same places; what S and the kept objects lead to has not turned -/
structure Wider (h h' : HGet) (S S' : Blk) (w w' : World) (m m' : OMap) : Prop where
  hk : ∀ id o, h id = some o → h' id = some o
  map : ∀ id, h id ≠ none → m' id = m id
  sub : ∀ q, S q → S' q
  size : w.heap.size ≤ w'.heap.size
  stay : ∀ q, S q → w'.heap[q]? = w.heap[q]?
  own : ∀ id c, h id ≠ none → m id = some c → ∀ q, c.F q → w'.heap[q]? = w.heap[q]?

theorem heap_ne {h : HGet} {id : Nat} {o : AObj} (e : h id = some o) : h id ≠ none := by rw [e]; exact fun h => nomatch h

theorem arr_block {S : Blk} {w : World} {d : Bool} {t : Ty} {v : Value} {xs : List t.den} {F : Blk} {g n cap : Nat} (h : ArrRel S w d t v xs F) (hne : 0 < xs.length) (hv : v = .slice (some ⟨g, 0, none⟩) n cap) : F g := by
  subst hv
  rcases h with ⟨_, rfl, _⟩ | ⟨g', cap', cur, e, Fs, h1, h2, h3, h4, h5, h6, h7, h8, h9⟩
  · simp at hne
  · simp only [Value.slice.injEq, Option.some.injEq, Addr.mk.injEq] at h1
    obtain ⟨⟨rfl, _⟩, _⟩ := h1
    exact (h9 g).2 (.inl rfl)

/-- a view goes on where its object does -/
theorem vk_stay [Tabs] {h : HGet} {S : Blk} {w w' : World} {m : OMap} {B : Nat} {M0 : Blk} (M : Mem h S w m B M0) {id : Nat} {o : AObj} {c : OC} (ho : h id = some o) (hc : m id = some c) (hF : ∀ q, c.F q → w'.heap[q]? = w.heap[q]?) {k : VK} {v : Value} (r : VkRel w o c k v) : VkRel w' o c k v := by
  refine r.mono (fun d t xs g n cap e hx hv => ?_) hF
  subst e
  obtain ⟨c', hc', hr⟩ := M.obj _ _ ho
  obtain rfl : c' = c := Option.some.inj (hc'.symm.trans hc)
  exact arr_block hr.2 hx hv

theorem CellRel.wider [Tabs] {h h' : HGet} {S S' : Blk} {w w' : World} {m m' : OMap} {B : Nat} {M0 : Blk} (W : Wider h h' S S' w w' m m') (M : Mem h S w m B M0) :
    {c : ACell} → {v : Value} → CellRel h S w m c v → CellRel h' S' w' m' c v
  | .und, _, _ => trivial
  | .nils, _, r => r
  | .pv _ _, _, r => ⟨r.1, r.2.mono W.sub W.stay W.size⟩
  | .pc _ _, _, r => by
    obtain ⟨b, o, ds, h1, h2, h3, h4, h5⟩ := r
    exact ⟨b, o, ds, h1, W.sub b h2, Nat.lt_of_lt_of_le h3 W.size, h4.mono (W.stay b h2), h5.mono W.sub W.stay W.size⟩
  | .os _, _, r => by
    obtain ⟨⟨d, t, xs, e⟩, c, h1, h2⟩ := r
    exact ⟨⟨d, t, xs, W.hk _ _ e⟩, c, (W.map _ (heap_ne e)).trans h1, h2⟩
  | .op _ _, _, r => by
    obtain ⟨⟨cs, e⟩, c, b, h1, h2, h3⟩ := r
    exact ⟨⟨cs, W.hk _ _ e⟩, c, b, (W.map _ (heap_ne e)).trans h1, h2, h3⟩
  | .oe _ _ _, _, r => by
    obtain ⟨⟨d, t, xs, e, hi⟩, c, g, n, cap, h1, h2, h3⟩ := r
    exact ⟨⟨d, t, xs, W.hk _ _ e, hi⟩, c, g, n, cap, (W.map _ (heap_ne e)).trans h1, h2, h3⟩
  | .sb _ _ _ _ _, _, r => by
    obtain ⟨d, xs, e, hi, hd, hu, c, g, n, cap, h1, h2, h3⟩ := r
    refine ⟨d, xs, W.hk _ _ e, hi, hd, hu, c, g, n, cap, (W.map _ (heap_ne e)).trans h1, h2, ?_⟩
    obtain ⟨c', hc', ho⟩ := M.obj _ _ e
    obtain rfl : c' = c := Option.some.inj (hc'.symm.trans h1)
    have hF := arr_block ho.2 (Nat.zero_lt_of_lt (List.getElem?_eq_some_iff.1 hi).1) h2
    exact (World.cell?_of_block (w := w) (w' := w') (W.own _ _ (heap_ne e) h1 _ hF)).trans h3
  | .vw _ _, _, r => by
    obtain ⟨o, e, hd, c, h1, h2⟩ := r
    exact ⟨o, W.hk _ _ e, hd, c, (W.map _ (heap_ne e)).trans h1, vk_stay M e h1 (W.own _ _ (heap_ne e) h1) h2⟩
  | .cl _ _, _, r => by
    obtain ⟨cs, e, k⟩ := r
    exact ⟨cs, e, k.mono W.sub W.stay W.size⟩

theorem CellsRel.imp {h h' : HGet} {S S' : Blk} {w w' : World} {m m' : OMap} {cs : List ACell} {vs : List Value} (r : CellsRel h S w m cs vs) (f : ∀ c v, CellRel h S w m c v → CellRel h' S' w' m' c v) : CellsRel h' S' w' m' cs vs :=
  ⟨r.1, r.2.1, fun i c v hc hv => f c v (r.2.2 i c v hc hv)⟩

theorem VRel1.imp [Tabs] {h h' : HGet} {S S' : Blk} {w w' : World} {m m' : OMap} {p : Bool × List ACell} {v : Value} (r : VRel1 h S w m p v) (f : ∀ c v, CellRel h S w m c v → CellRel h' S' w' m' c v) : VRel1 h' S' w' m' p v := by
  obtain ⟨b, cs⟩ := p
  cases b with
  | true => obtain ⟨vs, e, r⟩ := r; exact ⟨vs, e, r.imp f⟩
  | false => obtain ⟨c, e, r⟩ := r; exact ⟨c, e, f _ _ r⟩

theorem VRel.imp [Tabs] {h h' : HGet} {S S' : Blk} {w w' : World} {m m' : OMap} {a : AVal} {v : Value} (r : VRel h S w m a v) (f : ∀ c v, CellRel h S w m c v → CellRel h' S' w' m' c v) : VRel h' S' w' m' a v := by
  cases a with
  | one c => exact f _ _ r
  | ag cs => obtain ⟨vs, e, r⟩ := r; exact ⟨vs, e, r.imp f⟩
  | tu l => obtain ⟨vs, e, n, r⟩ := r; exact ⟨vs, e, n, fun i p u hp hu => (r i p u hp hu).imp f⟩

theorem VRel.wider [Tabs] {h h' : HGet} {S S' : Blk} {w w' : World} {m m' : OMap} {B : Nat} {M0 : Blk} (W : Wider h h' S S' w w' m m') (M : Mem h S w m B M0) {a : AVal} {v : Value} (r : VRel h S w m a v) : VRel h' S' w' m' a v :=
  r.imp fun _ _ => CellRel.wider W M

theorem ObjRel.wider [Tabs] {h h' : HGet} {S S' : Blk} {w w' : World} {m m' : OMap} {B : Nat} {M0 : Blk} (W : Wider h h' S S' w w' m m') (M : Mem h S w m B M0) {o : AObj} {c : OC}
    (hF : ∀ q, c.F q → w'.heap[q]? = w.heap[q]?) (r : ObjRel h S w m o c) : ObjRel h' S' w' m' o c := by
  cases o with
  | box cs =>
    obtain ⟨b, cur, e, h1, h2, h3, h4⟩ := r
    exact ⟨b, cur, e, h1, (hF b ((h4 b).2 rfl)).trans h2, h3.imp fun _ _ => CellRel.wider W M, h4⟩
  | arr d t xs => exact ⟨r.1, r.2.mono W.sub W.stay hF W.size⟩

/-- a state that has grown by new objects, each with blocks of its own -/
theorem Mem.grow [Tabs] {h : HGet} {S S' : Blk} {w w' : World} {m m' : OMap} {B : Nat} {M0 : Blk} (M : Mem h S w m B M0) (g : Grow w w') (hB : B ≤ w.heap.size) (os : AHeap)
    (hnew : ∀ id, AHeap.get os id ≠ none → h id = none) (hm : ∀ id, AHeap.get os id = none → m' id = m id) (hS : ∀ q, S q → S' q) (hS' : ∀ q, S' q → S q ∨ (w.heap.size ≤ q ∧ q < w'.heap.size))
    (hobj : ∀ id o, AHeap.get os id = some o → ∃ c, m' id = some c ∧ ObjRel (fun i => (AHeap.get os i).or (h i)) S' w' m' o c ∧ (∀ q, c.F q → w.heap.size ≤ q ∧ q < w'.heap.size ∧ ¬ S' q))
    (hdis : ∀ i j c d, i ≠ j → AHeap.get os i ≠ none → AHeap.get os j ≠ none → m' i = some c → m' j = some d → ∀ q, c.F q → d.F q → False) :
    Mem (fun i => (AHeap.get os i).or (h i)) S' w' m' B M0 ∧ Wider h (fun i => (AHeap.get os i).or (h i)) S S' w w' m m' := by
  have W : Wider h (fun i => (AHeap.get os i).or (h i)) S S' w w' m m' :=
    ⟨fun id o e => by
      have : AHeap.get os id = none := by
        cases e' : AHeap.get os id with
        | none => rfl
        | some x => have := hnew id (by rw [e']; simp); rw [this] at e; cases e
      simp [this, e],
     fun id e => hm id (by
        cases e' : AHeap.get os id with
        | none => rfl
        | some x => exact absurd (hnew id (by rw [e']; simp)) e),
     hS, g.size, fun q hq => g.block q (M.lt q hq), fun id c e hc q hq => g.block q (M.apart id c e hc q hq).2.1⟩
  have old : ∀ id, (AHeap.get os id).or (h id) ≠ none → AHeap.get os id = none → h id ≠ none := fun id e e' => by simpa [e'] using e
  refine ⟨⟨fun id o e => ?_, fun i j c d hij hi hj hc hd q hq hq' => ?_, fun i c hi hc q hq => ?_, fun q hq => ?_⟩, W⟩
  · cases e' : AHeap.get os id with
    | some x =>
      have : x = o := by simpa [e'] using e
      subst this
      obtain ⟨c, h1, h2, _⟩ := hobj id x e'
      exact ⟨c, h1, h2⟩
    | none =>
      have e2 : h id = some o := by simpa [e'] using e
      obtain ⟨c, h1, h2⟩ := M.obj id o e2
      exact ⟨c, (hm id e').trans h1, h2.wider W M fun q hq => W.own id c (heap_ne e2) h1 q hq⟩
  · cases ei : AHeap.get os i with
    | some x =>
      obtain ⟨c', h1, _, h3⟩ := hobj i x ei
      obtain rfl : c' = c := Option.some.inj (h1.symm.trans hc)
      cases ej : AHeap.get os j with
      | some y => exact hdis i j c' d hij (by rw [ei]; simp) (by rw [ej]; simp) hc hd q hq hq'
      | none =>
        have hd' : m j = some d := (hm j ej).symm.trans hd
        have := (M.apart j d (old j hj ej) hd' q hq').2.1
        have := (h3 q hq).1
        omega
    | none =>
      have hc' : m i = some c := (hm i ei).symm.trans hc
      cases ej : AHeap.get os j with
      | some y =>
        obtain ⟨d', h1, _, h3⟩ := hobj j y ej
        obtain rfl : d' = d := Option.some.inj (h1.symm.trans hd)
        have := (M.apart i c (old i hi ei) hc' q hq).2.1
        have := (h3 q hq').1
        omega
      | none =>
        have hd' : m j = some d := (hm j ej).symm.trans hd
        exact M.dis i j c d hij (old i hi ei) (old j hj ej) hc' hd' q hq hq'
  · cases ei : AHeap.get os i with
    | some x =>
      obtain ⟨c', h1, _, h3⟩ := hobj i x ei
      obtain rfl : c' = c := Option.some.inj (h1.symm.trans hc)
      have := h3 q hq
      exact ⟨this.2.2, this.2.1, .inl (by omega)⟩
    | none =>
      have hc' : m i = some c := (hm i ei).symm.trans hc
      have := M.apart i c (old i hi ei) hc' q hq
      refine ⟨fun hs => ?_, Nat.lt_of_lt_of_le this.2.1 g.size, this.2.2⟩
      rcases hS' q hs with hs | hs
      · exact this.1 hs
      · omega
  · rcases hS' q hq with hs | hs
    · exact Nat.lt_of_lt_of_le (M.lt q hs) g.size
    · exact hs.2

end Go.Ab
