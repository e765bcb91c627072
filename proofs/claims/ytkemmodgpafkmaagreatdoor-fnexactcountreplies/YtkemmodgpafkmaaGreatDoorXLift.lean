/-
  The arguments of a given statement, read as data.
-/
import Derived.Test.YtkemmodgpafkmaaGreatDoorXFun
import Derived.Deep.Slices
import Derived.ChangeSame
import Derived.ChangeStays
import Derived.ProofKit
import Derived.OpenShut
namespace Go.Ab
open Go Go.RowKit
def fieldsDeep (P : Program) (chk : TypeId → Ty → Bool) : List Field → Ty → Nat → Bool
  | [], .unit, _ => true
  | f :: r, .pair a b, off => Nat.beq f.offset off && Nat.beq (P.cellsOf f.type) a.size && chk f.type a && fieldsDeep P chk r b (off + a.size)
  | _, _, _ => false
def tyDeep (P : Program) : Nat → TypeId → Ty → Bool
  | 0, _, _ => false
  | n + 1, t, u => match P.underlying t, u with
    | some .bool, .bool => true
    | some (.int k), .int k' => decide (k = k')
    | some .string, .str => true
    | some (.slice te), .slice e => (Nat.beq (P.cellsOf te) e.size && Nat.blt 0 e.size) && tyDeep P n te e
    | some (.struct fs), u => u.isAgg && Nat.beq (P.cellsOf t) u.size && fieldsDeep P (tyDeep P n) fs.toList u 0
    | _, _ => false
section
variable {H : Type} {enc : TypeId × Value → H} {P : Program} {W : World} {base : Nat} {spare : Nat → Bool} {held : Bool}
def bulk : (t : Ty) → t.den → Nat
  | .unit, _ => 0
  | .bool, _ => 1
  | .int _, _ => 1
  | .str, x => x.length + 1
  | .raw, _ => 1
  | .slice t, xs => (xs.map (bulk t)).sum + 1
  | .pair a b, x => bulk a x.1 + bulk b x.2
structure Bulky {H : Type} (bk : DataW H → Nat) : Prop where
  lit : ∀ l, 1 ≤ bk (.lit l)
  str : ∀ b : List UInt8, b.length + 1 ≤ bk (.lit (.string b))
  nil : 1 ≤ bk .nil
  slice : ∀ e r, (e.map bk).sum + 1 ≤ bk (.slice e r)
  agg : ∀ e, (e.map bk).sum ≤ bk (.agg e)
abbrev Old (W : World) : Blk := fun q => q < W.heap.size
theorem sum_le {α β : Type} (f : α → Nat) (g : β → Nat) : ∀ (xs : List α) (ys : List β), xs.length = ys.length → (∀ (i : Nat) (x : α) (y : β), xs[i]? = some x → ys[i]? = some y → f x ≤ g y) → (xs.map f).sum ≤ (ys.map g).sum
  | [], _, _, _ => Nat.zero_le _
  | _ :: _, [], h, _ => by cases h
  | x :: xs, y :: ys, h, k => by
    have h1 := k 0 x y rfl rfl
    have h2 := sum_le f g xs ys (by simpa using h) fun i x y hx hy => k (i + 1) x y (by simpa using hx) (by simpa using hy)
    simp only [List.map_cons, List.sum_cons]
    omega
theorem open_fields {bk : DataW H → Nat} {n fuel : Nat} (ih : ∀ (u : Ty) (t : TypeId) (cs : List Value) (x : DataW H × List MemPlace), tyDeep P n t u = true → DataW.trod enc P W base spare held fuel t cs = some x → ∃ y : u.den, Rep (Old W) W u cs y ∧ bulk u y ≤ bk x.1) :
    ∀ (fs : List Field) (u : Ty) (off : Nat) (cs : List Value) (xs : List (DataW H × List MemPlace)), fieldsDeep P (tyDeep P n) fs u off = true → cs.length = off + u.size → xs.length = fs.length →
      (∀ (i : Nat) (f : Field) (x : DataW H × List MemPlace), fs[i]? = some f → xs[i]? = some x → DataW.trod enc P W base spare held fuel f.type ((cs.drop f.offset).take (P.cellsOf f.type)) = some x) → ∃ y : u.den, Rep (Old W) W u (cs.drop off) y ∧ bulk u y ≤ ((xs.map (·.1)).map bk).sum
  | [], .unit, off, cs, _, _, hl, _, _ => ⟨(), by simp [Rep]; simp [Ty.size] at hl; omega, Nat.zero_le _⟩
  | f :: fs, .pair a b, off, cs, [], h, hl, hn, hx => by cases hn
  | f :: fs, .pair a b, off, cs, x :: xs, h, hl, hn, hx => by
    simp only [fieldsDeep, Bool.and_eq_true] at h
    obtain ⟨⟨⟨h1, h2⟩, h3⟩, h4⟩ := h
    have h1 := Nat.eq_of_beq_eq_true h1
    have h2 := Nat.eq_of_beq_eq_true h2
    have hs : (Ty.pair a b).size = a.size + b.size := rfl
    have hx0 := hx 0 f x rfl rfl
    rw [h1, h2] at hx0
    obtain ⟨y, hy, by1⟩ := ih a f.type _ x h3 hx0
    obtain ⟨z, hz, bz⟩ := open_fields ih fs b (off + a.size) cs xs h4 (by omega) (by simpa using hn) fun i g x hg hx' => hx (i + 1) g x (by simpa using hg) (by simpa using hx')
    refine ⟨(y, z), ⟨(cs.drop off).take a.size, cs.drop (off + a.size), ?_, hy, hz⟩, ?_⟩
    · rw [← List.drop_drop, List.take_append_drop]
    · simp only [bulk, List.map_cons, List.sum_cons]; omega
  | [], .bool, _, _, _, h, _, _, _ => by cases h
  | [], .int _, _, _, _, h, _, _, _ => by cases h
  | [], .str, _, _, _, h, _, _, _ => by cases h
  | [], .raw, _, _, _, h, _, _, _ => by cases h
  | [], .slice _, _, _, _, h, _, _, _ => by cases h
  | [], .pair _ _, _, _, _, h, _, _, _ => by cases h
  | _ :: _, .unit, _, _, _, h, _, _, _ => by cases h
  | _ :: _, .bool, _, _, _, h, _, _, _ => by cases h
  | _ :: _, .int _, _, _, _, h, _, _, _ => by cases h
  | _ :: _, .str, _, _, _, h, _, _, _ => by cases h
  | _ :: _, .raw, _, _, _, h, _, _, _ => by cases h
  | _ :: _, .slice _, _, _, _, h, _, _, _ => by cases h
theorem open_ty [Tabs] {bk : DataW H → Nat} (hb : Bulky bk) : ∀ (n : Nat) {fuel : Nat} (u : Ty) (t : TypeId) (cs : List Value) (x : DataW H × List MemPlace), tyDeep P n t u = true → DataW.trod enc P W base spare held fuel t cs = some x → ∃ y : u.den, Rep (Old W) W u cs y ∧ bulk u y ≤ bk x.1
  | 0, _, _, _, _, _, h, _ => by cases h
  | n + 1, fuel, u, t, cs, x, h, hx => by
    unfold tyDeep at h
    split at h
    · rename_i hu
      obtain ⟨b, rfl, rfl⟩ := DataW.trod_bool hu hx
      exact ⟨b, rfl, hb.lit _⟩
    · rename_i k k' hu
      have hk := of_decide_eq_true h
      subst hk
      obtain ⟨v, rfl, rfl, hw⟩ := DataW.trod_int hu hx
      exact ⟨v, ⟨rfl, hw⟩, hb.lit _⟩
    · rename_i hu
      obtain ⟨b, rfl, rfl, hl⟩ := DataW.trod_string hu hx
      exact ⟨b.data.toList, ⟨rfl, by rw [Array.length_toList]; exact hl⟩, hb.str _⟩
    · rename_i te e hu
      simp only [Bool.and_eq_true] at h
      have hs := Nat.eq_of_beq_eq_true h.1.1
      have hpos : 0 < e.size := Nat.lt_of_succ_le (by simpa [Nat.blt] using h.1.2)
      rcases DataW.trod_slice hu hx with ⟨rfl, rfl⟩ | ⟨a, len, cap, elems, rest, m, _, rfl, rfl, hba, hl, hc, hel, hat, _, _⟩
      · exact ⟨[], ⟨by simp, .inl ⟨rfl, rfl⟩⟩, hb.nil⟩
      · have each : ∀ i, i < len → ∃ ds, W.cells? base (a.add (i * P.cellsOf te)) (P.cellsOf te) = some ds ∧ ∃ y, Rep (Old W) W e ds y ∧ ∀ x, elems[i]? = some x → bulk e y ≤ bk x.1 := fun i hi => by
          have := hat i hi
          have hlt : i < elems.length := by omega
          rw [List.getElem?_eq_getElem hlt, Option.bind_eq_some_iff] at this
          obtain ⟨ds, h1, h2⟩ := this
          obtain ⟨y, h3, h4⟩ := open_ty hb n e te ds _ h.2 h2
          exact ⟨ds, h1, y, h3, fun x hx => by rw [List.getElem?_eq_getElem hlt] at hx; cases hx; exact h4⟩
        obtain ⟨xs, hxl, hxs⟩ := list_of (p := fun i y => ∃ ds, W.cells? base (a.add (i * P.cellsOf te)) (P.cellsOf te) = some ds ∧ Rep (Old W) W e ds y ∧ ∀ x, elems[i]? = some x → bulk e y ≤ bk x.1) len fun i hi => by
          obtain ⟨ds, h1, y, h2⟩ := each i hi
          exact ⟨y, ds, h1, h2⟩
        subst hxl
        have hne : xs = [] ∨ (a.spot = none ∧ Old W a.block ∧ a.block < W.heap.size) := by
          cases xs with
          | nil => exact .inl rfl
          | cons y0 xs =>
            right
            obtain ⟨ds, h1, h2, _⟩ := hxs 0 y0 rfl
            obtain ⟨_, k2, k3⟩ := World.cells?_some h1
            have k4 := k3 0 (by omega)
            have hd : ∃ v, ds[0]? = some v := ⟨ds[0]'(by omega), by simp⟩
            obtain ⟨v, hv⟩ := hd
            rw [hv] at k4
            unfold World.cell? at k4
            split at k4
            · rename_i c' t' f' hb'
              split at k4
              · cases k4
              · rename_i hsp
                refine ⟨by simpa [Addr.add] using hsp, ?_, ?_⟩
                · exact lt_of_heap (by simpa [Addr.add] using hb')
                · exact lt_of_heap (by simpa [Addr.add] using hb')
            · cases k4
        have hbulk : ((xs.map (bulk e))).sum ≤ ((elems.map (·.1)).map bk).sum := by
          rw [List.map_map]
          exact sum_le _ _ xs elems hel.symm fun i y x hy hx => (hxs i y hy).choose_spec.2.2 x hx
        refine ⟨xs, ⟨Nat.le_trans hl hc, .inr ⟨a, cap, rfl, ⟨hl, hc⟩, hne, fun i y hi => ?_⟩⟩, Nat.le_trans (Nat.succ_le_succ hbulk) (hb.slice _ _)⟩
        obtain ⟨ds, h1, h2, _⟩ := hxs i y hi
        obtain ⟨_, k2, k3⟩ := World.cells?_some h1
        refine ⟨ds, by rw [k2, hs], fun j v hj => ?_, h2⟩
        have hjl := (List.getElem?_eq_some_iff.1 hj).1
        have k4 := (k3 j (by omega)).trans hj
        obtain ⟨hsp, _⟩ := hne.resolve_left fun h => by rw [h] at hi; simp at hi
        obtain ⟨b, o, sp⟩ := a
        simp only at hsp
        subst hsp
        rw [add_none, add_none, hs] at k4
        exact k4
    · rename_i u1 u2 fs hu
      simp only [Bool.and_eq_true] at h
      obtain ⟨xs, m, rfl, rfl, hl, hxl, hat⟩ := DataW.trod_struct hu hx
      have hs := Nat.eq_of_beq_eq_true h.1.2
      obtain ⟨y, h1, h2⟩ := open_fields (enc := enc) (base := base) (spare := spare) (held := held) (n := n) (fuel := m) (bk := bk) (fun u t cs x h hx => open_ty hb n u t cs x h hx) fs.toList _ 0 cs xs h.2 (by omega) (by simpa using hxl) fun i f x hf hx => by
        have := hat i f (by simpa using hf)
        rw [hx] at this
        exact this
      exact ⟨y, by simpa using h1, Nat.le_trans h2 (hb.agg _)⟩
    · cases h
theorem val_shape {r : Reach} {b0 n : Nat} {t : TypeId} {u : Ty} {v : Value} (h : tyDeep P n t u = true) (hv : Value.okWide P W r b0 t v) : v = valV u.isAgg v.cells.toList := by
  cases n with
  | zero => cases h
  | succ n =>
    unfold tyDeep at h
    split at h
    · rename_i hu
      unfold Value.okWide at hv
      simp only [hu] at hv
      unfold Cell.okWide at hv
      cases v <;> simp [Cell.ok, hu] at hv <;> rfl
    · rename_i hu
      unfold Value.okWide at hv
      simp only [hu] at hv
      unfold Cell.okWide at hv
      cases v <;> simp [Cell.ok, hu] at hv <;> rfl
    · rename_i hu
      unfold Value.okWide at hv
      simp only [hu] at hv
      unfold Cell.okWide at hv
      cases v <;> simp [Cell.ok, hu] at hv <;> rfl
    · rename_i hu
      unfold Value.okWide at hv
      simp only [hu] at hv
      unfold Cell.okWide at hv
      cases v <;> simp [Cell.ok, hu] at hv <;> rfl
    · rename_i hu
      unfold Value.okWide at hv
      simp only [hu] at hv
      simp only [Bool.and_eq_true] at h
      obtain ⟨cs, rfl, _⟩ := hv
      rw [h.1.1]
      rfl
    · cases h
def deepAll (P : Program) (n : Nat) : List TypeId → List PK → Bool
  | [], [] => true
  | t :: ts, .val u :: ps => tyDeep P n t u && deepAll P n ts ps
  | _, _ => false
def bulks : (ps : List PK) → dens (PK.tys ps) → Nat
  | [], _ => 0
  | .val t :: ps, x => bulk t (headD x) + bulks ps (tailD x)
  | .own t :: ps, x => bulk t (headD x) + bulks ps (tailD x)
  | .rp _ :: ps, x => bulks ps (tailD x)
  | .fn _ _ :: ps, x => bulks ps (tailD x)
  | .mbox t :: ps, x => bulk t (headD x) + bulks ps (tailD x)
  | .obox t :: ps, x => bulk t (headD x) + bulks ps (tailD x)
theorem open_args [Tabs] {bk : DataW H → Nat} (hb : Bulky bk) {r : Reach} {b0 n : Nat} : ∀ {ts : List TypeId} {ps : List PK} {vs : List Value} {ds : List (DataW H)} {p : List MemPlace}, deepAll P n ts ps = true → DataW.TrodAll enc P W base spare held ts vs ds p →
    (∀ (j : Nat) (t : TypeId) (v : Value), ts[j]? = some t → vs[j]? = some v → Value.okWide P W r b0 t v) → ∃ x, ArgsRel (Old W) W ps vs x (fun _ => False) ∧ bulks ps x ≤ (ds.map bk).sum
  | [], [], [], _, _, _, _, _ => ⟨(), ⟨rfl, fun _ h => h⟩, Nat.zero_le _⟩
  | [], [], _ :: _, [], _, _, h, _ => h.elim
  | [], [], _ :: _, _ :: _, _, _, h, _ => h.elim
  | t :: ts, .val u :: ps, vs, ds, p, hd, h, hv => by
    simp only [deepAll, Bool.and_eq_true] at hd
    match vs, ds, h with
    | v :: vs, d :: ds, h =>
      obtain ⟨p1, q1, ⟨fuel, h1⟩, h2, _⟩ := h
      obtain ⟨y, hy, by1⟩ := open_ty hb n u t _ _ hd.1 h1
      obtain ⟨z, hz, bz⟩ := open_args hb hd.2 h2 fun j t v ht hv' => hv (j + 1) t v (by simpa using ht) (by simpa using hv')
      refine ⟨consD y z, ⟨v, vs, rfl, ⟨v.cells.toList, val_shape hd.1 (hv 0 t v rfl rfl), ?_⟩, ?_⟩, ?_⟩
      · rw [headD_consD]; exact hy
      · rw [tailD_consD]; exact hz
      · simp only [bulks, headD_consD, tailD_consD, List.map_cons, List.sum_cons]
        simp only at by1
        omega
end
end Go.Ab
namespace Go.Ab
open Go Go.RowKit Go.ChangeShapes Go.WideShapes
def good : (t : Ty) → t.den → Prop
  | .unit, _ => True
  | .bool, _ => True
  | .int k, x => wfI k x
  | .str, x => x.length ≤ maxLen
  | .raw, _ => True
  | .slice t, xs => xs.length ≤ maxLen ∧ ∀ x ∈ xs, good t x
  | .pair a b, x => good a x.1 ∧ good b x.2
def goods : (ps : List PK) → dens (PK.tys ps) → Prop
  | [], _ => True
  | .val t :: ps, x => good t (headD x) ∧ goods ps (tailD x)
  | .own t :: ps, x => good t (headD x) ∧ goods ps (tailD x)
  | .mbox t :: ps, x => good t (headD x) ∧ goods ps (tailD x)
  | .obox t :: ps, x => good t (headD x) ∧ goods ps (tailD x)
  | .rp _ :: ps, x => goods ps (tailD x)
  | .fn _ _ :: ps, x => goods ps (tailD x)
theorem Rep.good {S : Blk} {w : World} : {t : Ty} → {cs : List Value} → {x : t.den} → Rep S w t cs x → good t x
  | .unit, _, _, _ => trivial
  | .bool, _, _, _ => trivial
  | .int _, _, _, h => h.2
  | .str, _, _, h => h.2
  | .raw, _, _, _ => trivial
  | .slice _, _, x, h => by
    obtain ⟨hl, h⟩ := h
    refine ⟨hl, fun y hy => ?_⟩
    rcases h with ⟨_, rfl⟩ | ⟨_, _, _, _, _, h⟩
    · cases hy
    · obtain ⟨i, hi, rfl⟩ := List.getElem_of_mem hy
      obtain ⟨ds, _, _, r⟩ := h i x[i] (by simp [hi])
      exact r.good
  | .pair _ _, _, _, h => by
    obtain ⟨_, _, _, h1, h2⟩ := h
    exact ⟨h1.good, h2.good⟩
theorem ArgsRel.goods [Tabs] {S : Blk} {w : World} : ∀ {ps : List PK} {vs : List Value} {x : dens (PK.tys ps)} {F : Blk}, allVal ps = true → ArgsRel S w ps vs x F → goods ps x
  | [], _, _, _, _, _ => trivial
  | .val t :: ps, vs, x, F, hv, h => by
    obtain ⟨v, r, rfl, ⟨ds, _, h1⟩, h2⟩ := h
    exact ⟨h1.good, ArgsRel.goods (ps := ps) hv h2⟩
  | .rp t :: ps, vs, x, F, hv, h => by
    obtain ⟨v, r, rfl, _, h2⟩ := h
    exact ArgsRel.goods (ps := ps) hv h2
  | .fn g ts :: ps, vs, x, F, hv, h => by
    obtain ⟨cs, r, rfl, _, h2⟩ := h
    exact ArgsRel.goods (ps := ps) hv h2
  | .own t :: ps, _, _, _, hv, _ => by cases hv
  | .mbox t :: ps, _, _, _, hv, _ => by cases hv
  | .obox t :: ps, _, _, _, hv, _ => by cases hv
theorem good_T {P : Program} {l : List (Nat × Ty)} (h : l.all (fun p => tyOk P p.1 p.2) = true) : ∀ p ∈ l, tyOk P p.1 p.2 = true := List.all_eq_true.1 h
theorem ins_nil [Tabs] {P : Program} : Libs P [] [] [] [] [] := ⟨(fun _ h => nomatch h), (fun _ h => nomatch h), (fun _ h => nomatch h), (fun _ h => nomatch h), (fun _ h => nomatch h)⟩
theorem ins_cons [Tabs] {P : Program} {f : Nat} {t : Ty} {l : List (Nat × Ty)} {d : List (Nat × DelFn)} {z : List (Nat × SelFn)} {q : List (Nat × Ty)} (h : InsOk P f t) (k : FnOk P f) {kc : List (Nat × KFn)} (r : Libs P l d z q kc) : Libs P ((f, t) :: l) d z q kc := ⟨(fun p hp => by
  rcases List.mem_cons.1 hp with rfl | hp
  · exact ⟨h, k⟩
  · exact r.1 p hp), r.2⟩
theorem del_cons [Tabs] {P : Program} {f : Nat} {D : DelFn} {l : List (Nat × Ty)} {d : List (Nat × DelFn)} {z : List (Nat × SelFn)} {q : List (Nat × Ty)} (h : DelOk P f D) (k : FnOk P f) {kc : List (Nat × KFn)} (r : Libs P l d z q kc) : Libs P l ((f, D) :: d) z q kc := ⟨r.1, (fun p hp => by
  rcases List.mem_cons.1 hp with rfl | hp
  · exact ⟨h, k⟩
  · exact r.2.1 p hp), r.2.2⟩
theorem sel_cons [Tabs] {P : Program} {f : Nat} {D : SelFn} {l : List (Nat × Ty)} {d : List (Nat × DelFn)} {z : List (Nat × SelFn)} {q : List (Nat × Ty)} (h : SelOk P f D) (k : FnOk P f) {kc : List (Nat × KFn)} (r : Libs P l d z q kc) : Libs P l d ((f, D) :: z) q kc := ⟨r.1, r.2.1, (fun p hp => by
  rcases List.mem_cons.1 hp with rfl | hp
  · exact ⟨h, k⟩
  · exact r.2.2.1 p hp), r.2.2.2⟩
theorem keep_cons [Tabs] {P : Program} {f : Nat} {D : KFn} {l : List (Nat × Ty)} {d : List (Nat × DelFn)} {z : List (Nat × SelFn)} {q : List (Nat × Ty)} (h : KOk P f D) (k : FnOk P f) {kc : List (Nat × KFn)} (r : Libs P l d z q kc) : Libs P l d z q ((f, D) :: kc) := ⟨r.1, r.2.1, r.2.2.1, r.2.2.2.1, (fun p hp => by
  rcases List.mem_cons.1 hp with rfl | hp
  · exact ⟨h, k⟩
  · exact r.2.2.2.2 p hp)⟩
theorem good_nil [Tabs] {P : Program} : ∀ p ∈ ([] : List (Nat × FnSpec)), Sound P p.1 p.2 ∧ FnOk P p.1 := fun _ h => by cases h
theorem good_cons [Tabs] {P : Program} {f : Nat} {C : FnSpec} {l : List (Nat × FnSpec)} (h : Sound P f C) (k : FnOk P f) (r : ∀ p ∈ l, Sound P p.1 p.2 ∧ FnOk P p.1) : ∀ p ∈ (f, C) :: l, Sound P p.1 p.2 ∧ FnOk P p.1 := fun p hp => by
  rcases List.mem_cons.1 hp with rfl | hp
  · exact ⟨h, k⟩
  · exact r p hp
noncomputable def limE {α : Type} (f : Nat → Option α) : Option α := by
  classical
  exact if h : ∃ k, (f k).isSome = true then f (Classical.choose h) else none
theorem limE_some {α : Type} {f : Nat → Option α} {r : α} (h : limE f = some r) : ∃ k, f k = some r := by
  unfold limE at h
  split at h
  · exact ⟨_, h⟩
  · cases h
theorem limE_of {α : Type} {f : Nat → Option α} {r : α} (h : ∃ k, f k = some r) (u : ∀ k r', f k = some r' → r' = r) : limE f = some r := by
  unfold limE
  have hx : ∃ k, (f k).isSome = true := h.imp fun k e => by rw [e]; rfl
  rw [dif_pos hx]
  obtain ⟨r', e⟩ := Option.isSome_iff_exists.1 (Classical.choose_spec hx)
  rw [e, u _ _ e]
theorem sound_lim [Tabs] {P : Program} {f : FuncId} {ps : List PK} {rs : List RK} {g : Nat → dens (PK.tys ps) → Option (dens (PK.mtys ps (RK.tys rs)))} (h : ∀ k, Sound P f ⟨ps, rs, g k⟩) : Sound P f ⟨ps, rs, fun x => limE fun k => g k x⟩ :=
  fun w args x r S Ms hT hS ha hM hr => let ⟨k, hk⟩ := limE_some hr; h k w args x r S Ms hT hS ha hM hk
def Deep (P : Program) (t : TypeId) : Prop := ∃ n u, tyDeep P n t u = true
section
variable {H : Type} {enc : TypeId × Value → H} {P : Program}
theorem fieldsDeep_spec {n : Nat} : ∀ {fs : List Field} {u : Ty} {off : Nat}, fieldsDeep P (tyDeep P n) fs u off = true →
    (∀ f ∈ fs, Deep P f.type) ∧ u.size = (fs.map fun f => P.cellsOf f.type).sum ∧ ∀ (j : Nat) (f : Field), fs[j]? = some f → f.offset = off + ((fs.take j).map fun f => P.cellsOf f.type).sum
  | [], .unit, _, _ => ⟨(fun _ h => by cases h), rfl, (fun _ _ h => by simp at h)⟩
  | f :: fs, .pair a b, off, h => by
    simp only [fieldsDeep, Bool.and_eq_true] at h
    obtain ⟨⟨⟨h1, h2⟩, h3⟩, h4⟩ := h
    have h1 := Nat.eq_of_beq_eq_true h1
    have h2 := Nat.eq_of_beq_eq_true h2
    obtain ⟨k1, k2, k3⟩ := fieldsDeep_spec h4
    refine ⟨fun g hg => ?_, ?_, fun j g hj => ?_⟩
    · rcases List.mem_cons.1 hg with rfl | hg
      · exact ⟨n, a, h3⟩
      · exact k1 g hg
    · simp only [Ty.size, List.map_cons, List.sum_cons]; omega
    · cases j with
      | zero => simp at hj; subst hj; simp [h1]
      | succ j =>
        have := k3 j g (by simpa using hj)
        rw [this]
        simp only [List.take_succ_cons, List.map_cons, List.sum_cons]
        omega
  | [], .bool, _, h => by cases h
  | [], .int _, _, h => by cases h
  | [], .str, _, h => by cases h
  | [], .raw, _, h => by cases h
  | [], .slice _, _, h => by cases h
  | [], .pair _ _, _, h => by cases h
  | _ :: _, .unit, _, h => by cases h
  | _ :: _, .bool, _, h => by cases h
  | _ :: _, .int _, _, h => by cases h
  | _ :: _, .str, _, h => by cases h
  | _ :: _, .raw, _, h => by cases h
  | _ :: _, .slice _, _, h => by cases h
theorem deep_slice {t e : TypeId} (h : Deep P t) (hu : P.underlying t = some (.slice e)) : Deep P e ∧ 0 < P.cellsOf e := by
  obtain ⟨n, u, h⟩ := h
  cases n with
  | zero => cases h
  | succ n =>
    unfold tyDeep at h
    rw [hu] at h
    cases u with
    | slice u =>
      simp only [Bool.and_eq_true] at h
      have := Nat.eq_of_beq_eq_true h.1.1
      have hpos : 0 < u.size := Nat.lt_of_succ_le (by simpa [Nat.blt] using h.1.2)
      exact ⟨⟨n, u, h.2⟩, by omega⟩
    | _ => cases h
theorem deep_struct [Tabs] {t : TypeId} {fs : Array Field} (h : Deep P t) (hu : P.underlying t = some (.struct fs)) :
    (∀ f ∈ fs.toList, Deep P f.type) ∧ P.cellsOf t = (fs.toList.map fun f => P.cellsOf f.type).sum ∧ ∀ (j : Nat) f, fs.toList[j]? = some f → f.offset = ((fs.toList.take j).map fun f => P.cellsOf f.type).sum := by
  obtain ⟨n, u, h⟩ := h
  cases n with
  | zero => cases h
  | succ n =>
    unfold tyDeep at h
    rw [hu] at h
    simp only [Bool.and_eq_true] at h
    have hs := Nat.eq_of_beq_eq_true h.1.2
    obtain ⟨k1, k2, k3⟩ := fieldsDeep_spec h.2
    exact ⟨k1, by omega, fun j f hj => by have := k3 j f hj; omega⟩
theorem deep_not {t : TypeId} (h : Deep P t) : (∀ e, P.underlying t ≠ some (.pointer e)) ∧ (∀ e n, P.underlying t ≠ some (.array n e)) ∧ (∀ k e, P.underlying t ≠ some (.map k e)) := by
  obtain ⟨n, u, h⟩ := h
  cases n with
  | zero => cases h
  | succ n =>
    unfold tyDeep at h
    refine ⟨fun e hu => ?_, fun e n hu => ?_, fun k e hu => ?_⟩ <;> rw [hu] at h <;> cases u <;> cases h
theorem deep_kids [Tabs] : Kids P (Deep P) :=
  ⟨fun h hu => absurd hu ((deep_not h).1 _), fun h hu => (deep_slice h hu).1, fun h hu => absurd hu ((deep_not h).2.1 _ _), fun h hu => deep_struct h hu, fun h hu => absurd hu ((deep_not h).2.2 _ _)⟩
theorem deepAll_deep {n : Nat} : ∀ {ts : List TypeId} {ps : List PK}, deepAll P n ts ps = true → ∀ t ∈ ts, Deep P t
  | [], [], _, _, h => by cases h
  | t :: ts, .val u :: ps, h, x, hx => by
    simp only [deepAll, Bool.and_eq_true] at h
    rcases List.mem_cons.1 hx with rfl | hx
    · exact ⟨n, u, h.1⟩
    · exact deepAll_deep h.2 x hx
theorem trodAll_stays [Tabs] {w w' : World} {base : Nat} {sp' : Nat → Bool} : ∀ {ts : List TypeId} {vs : List Value} {ds : List (DataW H)} {ps : List MemPlace}, (∀ t ∈ ts, Deep P t) → DataW.TrodAll enc P w base (fun _ => true) true ts vs ds ps →
    (∀ p ∈ ps, w.sameAt w' p) → (∀ p ∈ ps, sp' p.block = true) → DataW.TrodAll enc P w' base sp' true ts vs ds ps
  | [], _, _, _, _, h, _, _ => by
    obtain ⟨rfl, rfl, rfl⟩ := trodAll_nil h
    exact trodAll_mk0
  | t :: ts, vs, ds, ps, hT, h, h1, h2 => by
    obtain ⟨v, vs, d, ds, p, q, rfl, rfl, rfl, ⟨n, h3⟩, h4⟩ := trodAll_cons h
    refine ⟨p, q, ⟨n, ?_⟩, trodAll_stays (fun t ht => hT t (List.mem_cons_of_mem _ ht)) h4 (fun x hx => h1 x (by simp [hx])) (fun x hx => h2 x (by simp [hx])), rfl⟩
    exact DataW.trod_stays deep_kids (fun h hu => (deep_slice h hu).2) (fun h => by cases h) (hT t (by simp)) h3 (fun x hx => h1 x (by simp [hx])) (fun x hx => h2 x (by simp [hx]))
theorem trodAll_length {w : World} {base : Nat} {sp : Nat → Bool} {held : Bool} : ∀ {ts : List TypeId} {vs : List Value} {ds : List (DataW H)} {ps : List MemPlace}, DataW.TrodAll enc P w base sp held ts vs ds ps → ds.length = ts.length
  | [], _, _, _, h => by
    obtain ⟨rfl, rfl, rfl⟩ := trodAll_nil h
    rfl
  | t :: ts, _, _, _, h => by
    obtain ⟨v, vs, d, ds, p, q, rfl, rfl, rfl, _, h4⟩ := trodAll_cons h
    simp [trodAll_length h4]
theorem same_of_block {w w' : World} {p : MemPlace} (h : w'.heap[p.block]? = w.heap[p.block]?) : w.sameAt w' p := by
  cases p with
  | cell b o => exact World.cell?_of_block (w := w) (w' := w') h
  | map b => exact h
theorem keptBut_past {w w' : World} (p : Past w w' (fun _ => False)) (may : MemPlace → Prop) : w.keptBut w' may := by
  refine ⟨p.os, p.output, fun i hi => ?_⟩
  rw [p.block i hi (fun h => h)]
  cases w.heap[i]? with
  | none => trivial
  | some o => cases o <;> simp
theorem post_of_same_old {f : Func} {s : ChangeSpec} {apart fresh handsOn again : Bool} {W W' : World} {args : Array Value} {v : Value} {ds gs : List (DataW H)} {before pa pv : List MemPlace}
    (hW : DataW.Whole enc P f.params.toList s.vars apart W args.toList ds gs before)
    (hres : ∀ (b : Nat) (sp : Nat → Bool) (hd : Bool), DataW.TrodAll enc P W' b sp hd f.resultTypes.toList (v.resultList f.resultTypes.size) (s.fn H (ds ++ gs)).results [])
    (hargs : ∀ sp : Nat → Bool, (∀ p ∈ before, sp p.block = true) → DataW.TrodAll enc P W' 0 sp true f.params.toList args.toList (s.fn H (ds ++ gs)).args pa)
    (hvars : ∀ sp : Nat → Bool, (∀ p ∈ before, sp p.block = true) → DataW.TrodVars enc P W' sp s.vars (s.fn H (ds ++ gs)).vars pv)
    (hps : before = pa ++ pv) (hk : W.keptBut W' (· ∈ before)) (hfz : ∀ a : Addr, a.block < W.heap.size → W'.frozen? a = W.frozen? a)
    (hok : ∀ (j : Nat) (t : TypeId) (r : Value), f.resultTypes[j]? = some t → (v.resultList f.resultTypes.size)[j]? = some r → Value.okWide P W' .any 0 t r) :
    s.post enc P f apart fresh handsOn again W args v W' := by
  have hold : ∀ p ∈ before, (fun b => decide (b < W.heap.size)) p.block = true := fun p hp => by simpa using hW.lt p hp
  have hlt := hW.lt
  refine ⟨ds, gs, before, [], pa, pv, hW, hres _ _ _, hargs _ hold, hvars _ hold, World.keptBut_mono (fun p hp => ⟨hp, ?_⟩) hk, fun _ => ?_⟩
  · rw [hps, List.mem_append] at hp
    exact Or.inr hp
  · obtain ⟨_, _, _, _, _, hz, hn⟩ := hW
    refine ⟨hok, _, _, ([] ++ pa) ++ pv, ⟨[] ++ pa, pv, trodAll_append (hargs _ (fun _ _ => rfl)) (hres _ _ _), hvars _ (fun _ _ => rfl), rfl, ?_, ?_⟩, ?_⟩
    · intro b off hp
      have hb : MemPlace.cell b off ∈ before := by rw [hps]; simpa using hp
      rw [hfz _ (hlt _ hb)]
      exact hz b off hb
    · intro ha
      have := hn ha
      rw [hps] at this
      simpa using this
    · intro p hp _
      rw [hps]
      simpa using hp
theorem law_calls [Tabs] {f : FuncId} {fn : Func} {ps : List PK} {g : dens (PK.tys ps) → Option (dens (PK.mtys ps (RK.tys [.val .bool])))} (hC : Sound P f ⟨ps, [.val .bool], g⟩) (hv : allVal ps = true) {s : ChangeSpec} {bk : DataW H → Nat} (hb : Bulky bk) (n : Nat)
    (hd : deepAll P n fn.params.toList ps = true) {tb : TypeId} (hres : fn.resultTypes = #[tb]) (htb : P.underlying tb = some .bool) (hvars : s.vars = []) (hs : ∀ ds : List (DataW H), fn.params.toList.length = ds.length → s.fn H ds = ⟨[.lit (.bool true)], ds, []⟩) {N : Nat}
    (plain : ∀ x, goods ps x → bulks ps x ≤ N → ∃ r, g x = some r ∧ midV ps r = some true) {apart fresh handsOn again : Bool} {W : World} {base : Nat} {args : Array Value} {ds gs : List (DataW H)} {before : List MemPlace}
    (hval : ∀ (j : Nat) t v, fn.params[j]? = some t → args[j]? = some v → Value.okWide P W .any base t v) (hW : DataW.Whole enc P fn.params.toList s.vars apart W args.toList ds gs before) (hN : (ds.map bk).sum ≤ N) (hT : TabOk W W.heap.size (fun _ => False)) :
    Calls P f args W fun e W' => ∃ v, e = .returned v ∧ s.post enc P fn apart fresh handsOn again W args v W' := by
  have hW' := hW
  obtain ⟨p, q, hA0, hV, rfl, hfz, hnd⟩ := hW
  have hA : DataW.TrodAll enc P W 0 (fun _ => true) true fn.params.toList args.toList ds p := hA0
  rw [hvars] at hV
  obtain ⟨rfl, rfl⟩ := trodVars_none hV
  obtain ⟨x, hx, hbx⟩ := open_args hb hd hA fun j t v ht hv => hval j t v (by simpa using ht) (by simpa using hv)
  obtain ⟨r, hr, hm⟩ := plain x (hx.goods hv) (Nat.le_trans hbx hN)
  have call := hC W args.toList x r (Old W) (fun _ => False) hT (fun _ h => h) hx (fun _ h => h.elim) hr
  have e : args.toList.toArray = args := by simp
  rw [e] at call
  refine Calls.mono call fun e W' k => ?_
  obtain ⟨vs, S', FM, FR, rfl, past, _, _, out, _, _⟩ := k
  have res := out_val hv hm out
  obtain ⟨v, r', rfl, ⟨ds', e', k'⟩, rfl, _⟩ := res
  have k'' : ds' = [.bool true] := k'
  subst k''
  subst e'
  refine ⟨.bool true, rfl, ?_⟩
  have hs := hs ds (trodAll_length hA).symm
  have hlt := DataW.TrodAll.lt hA
  have hsame : ∀ p' ∈ p, W.sameAt W' p' := fun p' hp' => same_of_block (past.block p'.block (hlt p' hp') fun h => h)
  refine post_of_same_old (pa := p) (pv := []) hW' (fun b sp hd' => ?_) (fun sp hsp => ?_) (fun sp _ => ?_) rfl (keptBut_past past _) past.fz ?_
  · rw [List.append_nil, hs, hres]
    exact trodAll_mk1 (shut_bool htb true)
  · rw [List.append_nil, hs]
    simp only [List.append_nil] at hsp
    exact trodAll_stays (deepAll_deep hd) hA hsame hsp
  · rw [List.append_nil, hs, hvars]; exact rfl
  · exact ok_one hres rfl (okWide_bool_mk htb true)
end
end Go.Ab
