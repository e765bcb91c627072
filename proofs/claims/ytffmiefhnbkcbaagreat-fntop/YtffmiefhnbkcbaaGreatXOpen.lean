/-
  The arguments of a given statement, read as data.
-/
import Derived.Test.YtffmiefhnbkcbaaGreatXFun
import Derived.Deep.Slices
namespace Go.Ab
open Go Go.RowKit
def fieldsDeep (P : Program) (chk : TypeId → Ty → Bool) : List Field → Ty → Nat → Bool
  | [], .unit, _ => true
  | f :: r, .pair a b, off => Nat.beq f.offset off && Nat.beq (P.cellsOf f.type) a.size && chk f.type a && fieldsDeep P chk r b (off + a.size)
  | _, _, _ => false
def tyDeep (P : Program) : Nat → TypeId → Ty → Bool
  | 0, _, _ => false
  | n + 1, t, u => match P.underlying t, u with
    | some .bool, .bool => true
    | some (.int k), .int k' => decide (k = k')
    | some .string, .str => true
    | some (.slice te), .slice e => (Nat.beq (P.cellsOf te) e.size && Nat.blt 0 e.size) && tyDeep P n te e
    | some (.struct fs), u => u.isAgg && Nat.beq (P.cellsOf t) u.size && fieldsDeep P (tyDeep P n) fs.toList u 0
    | _, _ => false
section
variable {H : Type} {enc : TypeId × Value → H} {P : Program} {W : World} {base : Nat} {spare : Nat → Bool} {held : Bool}
def bulk : (t : Ty) → t.den → Nat
  | .unit, _ => 0
  | .bool, _ => 1
  | .int _, _ => 1
  | .str, x => x.length + 1
  | .slice t, xs => (xs.map (bulk t)).sum + 1
  | .pair a b, x => bulk a x.1 + bulk b x.2
structure Bulky {H : Type} (bk : DataW H → Nat) : Prop where
  lit : ∀ l, 1 ≤ bk (.lit l)
  str : ∀ b : List UInt8, b.length + 1 ≤ bk (.lit (.string b))
  nil : 1 ≤ bk .nil
  slice : ∀ e r, (e.map bk).sum + 1 ≤ bk (.slice e r)
  agg : ∀ e, (e.map bk).sum ≤ bk (.agg e)
abbrev Old (W : World) : Blk := fun q => q < W.heap.size
theorem sum_le {α β : Type} (f : α → Nat) (g : β → Nat) : ∀ (xs : List α) (ys : List β), xs.length = ys.length → (∀ (i : Nat) (x : α) (y : β), xs[i]? = some x → ys[i]? = some y → f x ≤ g y) → (xs.map f).sum ≤ (ys.map g).sum
  | [], _, _, _ => Nat.zero_le _
  | _ :: _, [], h, _ => by cases h
  | x :: xs, y :: ys, h, k => by
    have h1 := k 0 x y rfl rfl
    have h2 := sum_le f g xs ys (by simpa using h) fun i x y hx hy => k (i + 1) x y (by simpa using hx) (by simpa using hy)
    simp only [List.map_cons, List.sum_cons]
    omega
theorem open_fields {bk : DataW H → Nat} {n fuel : Nat} (ih : ∀ (u : Ty) (t : TypeId) (cs : List Value) (x : DataW H × List MemPlace), tyDeep P n t u = true → DataW.trod enc P W base spare held fuel t cs = some x → ∃ y : u.den, Rep (Old W) W u cs y ∧ bulk u y ≤ bk x.1) :
    ∀ (fs : List Field) (u : Ty) (off : Nat) (cs : List Value) (xs : List (DataW H × List MemPlace)), fieldsDeep P (tyDeep P n) fs u off = true → cs.length = off + u.size → xs.length = fs.length →
      (∀ (i : Nat) (f : Field) (x : DataW H × List MemPlace), fs[i]? = some f → xs[i]? = some x → DataW.trod enc P W base spare held fuel f.type ((cs.drop f.offset).take (P.cellsOf f.type)) = some x) → ∃ y : u.den, Rep (Old W) W u (cs.drop off) y ∧ bulk u y ≤ ((xs.map (·.1)).map bk).sum
  | [], .unit, off, cs, _, _, hl, _, _ => ⟨(), by simp [Rep]; simp [Ty.size] at hl; omega, Nat.zero_le _⟩
  | f :: fs, .pair a b, off, cs, [], h, hl, hn, hx => by cases hn
  | f :: fs, .pair a b, off, cs, x :: xs, h, hl, hn, hx => by
    simp only [fieldsDeep, Bool.and_eq_true] at h
    obtain ⟨⟨⟨h1, h2⟩, h3⟩, h4⟩ := h
    have h1 := Nat.eq_of_beq_eq_true h1
    have h2 := Nat.eq_of_beq_eq_true h2
    have hs : (Ty.pair a b).size = a.size + b.size := rfl
    have hx0 := hx 0 f x rfl rfl
    rw [h1, h2] at hx0
    obtain ⟨y, hy, by1⟩ := ih a f.type _ x h3 hx0
    obtain ⟨z, hz, bz⟩ := open_fields ih fs b (off + a.size) cs xs h4 (by omega) (by simpa using hn) fun i g x hg hx' => hx (i + 1) g x (by simpa using hg) (by simpa using hx')
    refine ⟨(y, z), ⟨(cs.drop off).take a.size, cs.drop (off + a.size), ?_, hy, hz⟩, ?_⟩
    · rw [← List.drop_drop, List.take_append_drop]
    · simp only [bulk, List.map_cons, List.sum_cons]; omega
  | [], .bool, _, _, _, h, _, _, _ => by cases h
  | [], .int _, _, _, _, h, _, _, _ => by cases h
  | [], .str, _, _, _, h, _, _, _ => by cases h
  | [], .slice _, _, _, _, h, _, _, _ => by cases h
  | [], .pair _ _, _, _, _, h, _, _, _ => by cases h
  | _ :: _, .unit, _, _, _, h, _, _, _ => by cases h
  | _ :: _, .bool, _, _, _, h, _, _, _ => by cases h
  | _ :: _, .int _, _, _, _, h, _, _, _ => by cases h
  | _ :: _, .str, _, _, _, h, _, _, _ => by cases h
  | _ :: _, .slice _, _, _, _, h, _, _, _ => by cases h
theorem open_ty [Tabs] {bk : DataW H → Nat} (hb : Bulky bk) : ∀ (n : Nat) {fuel : Nat} (u : Ty) (t : TypeId) (cs : List Value) (x : DataW H × List MemPlace), tyDeep P n t u = true → DataW.trod enc P W base spare held fuel t cs = some x → ∃ y : u.den, Rep (Old W) W u cs y ∧ bulk u y ≤ bk x.1
  | 0, _, _, _, _, _, h, _ => by cases h
  | n + 1, fuel, u, t, cs, x, h, hx => by
    unfold tyDeep at h
    split at h
    · rename_i hu
      obtain ⟨b, rfl, rfl⟩ := DataW.trod_bool hu hx
      exact ⟨b, rfl, hb.lit _⟩
    · rename_i k k' hu
      have hk := of_decide_eq_true h
      subst hk
      obtain ⟨v, rfl, rfl, hw⟩ := DataW.trod_int hu hx
      exact ⟨v, ⟨rfl, hw⟩, hb.lit _⟩
    · rename_i hu
      obtain ⟨b, rfl, rfl, hl⟩ := DataW.trod_string hu hx
      exact ⟨b.data.toList, ⟨rfl, by rw [Array.length_toList]; exact hl⟩, hb.str _⟩
    · rename_i te e hu
      simp only [Bool.and_eq_true] at h
      have hs := Nat.eq_of_beq_eq_true h.1.1
      have hpos : 0 < e.size := Nat.lt_of_succ_le (by simpa [Nat.blt] using h.1.2)
      rcases DataW.trod_slice hu hx with ⟨rfl, rfl⟩ | ⟨a, len, cap, elems, rest, m, _, rfl, rfl, hba, hl, hc, hel, hat, _, _⟩
      · exact ⟨[], ⟨by simp, .inl ⟨rfl, rfl⟩⟩, hb.nil⟩
      · have each : ∀ i, i < len → ∃ ds, W.cells? base (a.add (i * P.cellsOf te)) (P.cellsOf te) = some ds ∧ ∃ y, Rep (Old W) W e ds y ∧ ∀ x, elems[i]? = some x → bulk e y ≤ bk x.1 := fun i hi => by
          have := hat i hi
          have hlt : i < elems.length := by omega
          rw [List.getElem?_eq_getElem hlt, Option.bind_eq_some_iff] at this
          obtain ⟨ds, h1, h2⟩ := this
          obtain ⟨y, h3, h4⟩ := open_ty hb n e te ds _ h.2 h2
          exact ⟨ds, h1, y, h3, fun x hx => by rw [List.getElem?_eq_getElem hlt] at hx; cases hx; exact h4⟩
        obtain ⟨xs, hxl, hxs⟩ := list_of (p := fun i y => ∃ ds, W.cells? base (a.add (i * P.cellsOf te)) (P.cellsOf te) = some ds ∧ Rep (Old W) W e ds y ∧ ∀ x, elems[i]? = some x → bulk e y ≤ bk x.1) len fun i hi => by
          obtain ⟨ds, h1, y, h2⟩ := each i hi
          exact ⟨y, ds, h1, h2⟩
        subst hxl
        have hne : xs = [] ∨ (a.spot = none ∧ Old W a.block ∧ a.block < W.heap.size) := by
          cases xs with
          | nil => exact .inl rfl
          | cons y0 xs =>
            right
            obtain ⟨ds, h1, h2, _⟩ := hxs 0 y0 rfl
            obtain ⟨_, k2, k3⟩ := World.cells?_some h1
            have k4 := k3 0 (by omega)
            have hd : ∃ v, ds[0]? = some v := ⟨ds[0]'(by omega), by simp⟩
            obtain ⟨v, hv⟩ := hd
            rw [hv] at k4
            unfold World.cell? at k4
            split at k4
            · rename_i c' t' f' hb'
              split at k4
              · cases k4
              · rename_i hsp
                refine ⟨by simpa [Addr.add] using hsp, ?_, ?_⟩
                · exact lt_of_heap (by simpa [Addr.add] using hb')
                · exact lt_of_heap (by simpa [Addr.add] using hb')
            · cases k4
        have hbulk : ((xs.map (bulk e))).sum ≤ ((elems.map (·.1)).map bk).sum := by
          rw [List.map_map]
          exact sum_le _ _ xs elems hel.symm fun i y x hy hx => (hxs i y hy).choose_spec.2.2 x hx
        refine ⟨xs, ⟨Nat.le_trans hl hc, .inr ⟨a, cap, rfl, ⟨hl, hc⟩, hne, fun i y hi => ?_⟩⟩, Nat.le_trans (Nat.succ_le_succ hbulk) (hb.slice _ _)⟩
        obtain ⟨ds, h1, h2, _⟩ := hxs i y hi
        obtain ⟨_, k2, k3⟩ := World.cells?_some h1
        refine ⟨ds, by rw [k2, hs], fun j v hj => ?_, h2⟩
        have hjl := (List.getElem?_eq_some_iff.1 hj).1
        have k4 := (k3 j (by omega)).trans hj
        obtain ⟨hsp, _⟩ := hne.resolve_left fun h => by rw [h] at hi; simp at hi
        obtain ⟨b, o, sp⟩ := a
        simp only at hsp
        subst hsp
        rw [add_none, add_none, hs] at k4
        exact k4
    · rename_i u1 u2 fs hu
      simp only [Bool.and_eq_true] at h
      obtain ⟨xs, m, rfl, rfl, hl, hxl, hat⟩ := DataW.trod_struct hu hx
      have hs := Nat.eq_of_beq_eq_true h.1.2
      obtain ⟨y, h1, h2⟩ := open_fields (enc := enc) (base := base) (spare := spare) (held := held) (n := n) (fuel := m) (bk := bk) (fun u t cs x h hx => open_ty hb n u t cs x h hx) fs.toList _ 0 cs xs h.2 (by omega) (by simpa using hxl) fun i f x hf hx => by
        have := hat i f (by simpa using hf)
        rw [hx] at this
        exact this
      exact ⟨y, by simpa using h1, Nat.le_trans h2 (hb.agg _)⟩
    · cases h
theorem val_shape {r : Reach} {b0 n : Nat} {t : TypeId} {u : Ty} {v : Value} (h : tyDeep P n t u = true) (hv : Value.okWide P W r b0 t v) : v = valV u.isAgg v.cells.toList := by
  cases n with
  | zero => cases h
  | succ n =>
    unfold tyDeep at h
    split at h
    · rename_i hu
      unfold Value.okWide at hv
      simp only [hu] at hv
      unfold Cell.okWide at hv
      cases v <;> simp [Cell.ok, hu] at hv <;> rfl
    · rename_i hu
      unfold Value.okWide at hv
      simp only [hu] at hv
      unfold Cell.okWide at hv
      cases v <;> simp [Cell.ok, hu] at hv <;> rfl
    · rename_i hu
      unfold Value.okWide at hv
      simp only [hu] at hv
      unfold Cell.okWide at hv
      cases v <;> simp [Cell.ok, hu] at hv <;> rfl
    · rename_i hu
      unfold Value.okWide at hv
      simp only [hu] at hv
      unfold Cell.okWide at hv
      cases v <;> simp [Cell.ok, hu] at hv <;> rfl
    · rename_i hu
      unfold Value.okWide at hv
      simp only [hu] at hv
      simp only [Bool.and_eq_true] at h
      obtain ⟨cs, rfl, _⟩ := hv
      rw [h.1.1]
      rfl
    · cases h
def deepAll (P : Program) (n : Nat) : List TypeId → List PK → Bool
  | [], [] => true
  | t :: ts, .val u :: ps => tyDeep P n t u && deepAll P n ts ps
  | _, _ => false
def bulks : (ps : List PK) → dens (PK.tys ps) → Nat
  | [], _ => 0
  | .val t :: ps, x => bulk t (headD x) + bulks ps (tailD x)
  | .own t :: ps, x => bulk t (headD x) + bulks ps (tailD x)
  | .rp _ :: ps, x => bulks ps (tailD x)
  | .fn _ _ :: ps, x => bulks ps (tailD x)
  | .mbox t :: ps, x => bulk t (headD x) + bulks ps (tailD x)
theorem open_args [Tabs] {bk : DataW H → Nat} (hb : Bulky bk) {r : Reach} {b0 n : Nat} : ∀ {ts : List TypeId} {ps : List PK} {vs : List Value} {ds : List (DataW H)} {p : List MemPlace}, deepAll P n ts ps = true → DataW.TrodAll enc P W base spare held ts vs ds p →
    (∀ (j : Nat) (t : TypeId) (v : Value), ts[j]? = some t → vs[j]? = some v → Value.okWide P W r b0 t v) → ∃ x, ArgsRel (Old W) W ps vs x (fun _ => False) ∧ bulks ps x ≤ (ds.map bk).sum
  | [], [], [], _, _, _, _, _ => ⟨(), ⟨rfl, fun _ h => h⟩, Nat.zero_le _⟩
  | [], [], _ :: _, [], _, _, h, _ => h.elim
  | [], [], _ :: _, _ :: _, _, _, h, _ => h.elim
  | t :: ts, .val u :: ps, vs, ds, p, hd, h, hv => by
    simp only [deepAll, Bool.and_eq_true] at hd
    match vs, ds, h with
    | v :: vs, d :: ds, h =>
      obtain ⟨p1, q1, ⟨fuel, h1⟩, h2, _⟩ := h
      obtain ⟨y, hy, by1⟩ := open_ty hb n u t _ _ hd.1 h1
      obtain ⟨z, hz, bz⟩ := open_args hb hd.2 h2 fun j t v ht hv' => hv (j + 1) t v (by simpa using ht) (by simpa using hv')
      refine ⟨consD y z, ⟨v, vs, rfl, ⟨v.cells.toList, val_shape hd.1 (hv 0 t v rfl rfl), ?_⟩, ?_⟩, ?_⟩
      · rw [headD_consD]; exact hy
      · rw [tailD_consD]; exact hz
      · simp only [bulks, headD_consD, tailD_consD, List.map_cons, List.sum_cons]
        simp only at by1
        omega
end
end Go.Ab
