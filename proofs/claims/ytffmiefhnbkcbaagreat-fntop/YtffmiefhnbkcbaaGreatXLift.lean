/-
  From a proved law to the given statement's step.
-/
import Derived.Test.YtffmiefhnbkcbaaGreatXOpen
import Derived.ChangeSame
import Derived.ChangeStays
import Derived.ProofKit
import Derived.OpenShut
namespace Go.Ab
open Go Go.RowKit Go.ChangeShapes Go.WideShapes
def good : (t : Ty) → t.den → Prop
  | .unit, _ => True
  | .bool, _ => True
  | .int k, x => wfI k x
  | .str, x => x.length ≤ maxLen
  | .slice t, xs => xs.length ≤ maxLen ∧ ∀ x ∈ xs, good t x
  | .pair a b, x => good a x.1 ∧ good b x.2
def goods : (ps : List PK) → dens (PK.tys ps) → Prop
  | [], _ => True
  | .val t :: ps, x => good t (headD x) ∧ goods ps (tailD x)
  | .own t :: ps, x => good t (headD x) ∧ goods ps (tailD x)
  | .mbox t :: ps, x => good t (headD x) ∧ goods ps (tailD x)
  | .rp _ :: ps, x => goods ps (tailD x)
  | .fn _ _ :: ps, x => goods ps (tailD x)
theorem Rep.good {S : Blk} {w : World} : {t : Ty} → {cs : List Value} → {x : t.den} → Rep S w t cs x → good t x
  | .unit, _, _, _ => trivial
  | .bool, _, _, _ => trivial
  | .int _, _, _, h => h.2
  | .str, _, _, h => h.2
  | .slice _, _, x, h => by
    obtain ⟨hl, h⟩ := h
    refine ⟨hl, fun y hy => ?_⟩
    rcases h with ⟨_, rfl⟩ | ⟨_, _, _, _, _, h⟩
    · cases hy
    · obtain ⟨i, hi, rfl⟩ := List.getElem_of_mem hy
      obtain ⟨ds, _, _, r⟩ := h i x[i] (by simp [hi])
      exact r.good
  | .pair _ _, _, _, h => by
    obtain ⟨_, _, _, h1, h2⟩ := h
    exact ⟨h1.good, h2.good⟩
theorem ArgsRel.goods [Tabs] {S : Blk} {w : World} : ∀ {ps : List PK} {vs : List Value} {x : dens (PK.tys ps)} {F : Blk}, allVal ps = true → ArgsRel S w ps vs x F → goods ps x
  | [], _, _, _, _, _ => trivial
  | .val t :: ps, vs, x, F, hv, h => by
    obtain ⟨v, r, rfl, ⟨ds, _, h1⟩, h2⟩ := h
    exact ⟨h1.good, ArgsRel.goods (ps := ps) hv h2⟩
  | .rp t :: ps, vs, x, F, hv, h => by
    obtain ⟨v, r, rfl, _, h2⟩ := h
    exact ArgsRel.goods (ps := ps) hv h2
  | .fn g ts :: ps, vs, x, F, hv, h => by
    obtain ⟨cs, r, rfl, _, h2⟩ := h
    exact ArgsRel.goods (ps := ps) hv h2
  | .own t :: ps, _, _, _, hv, _ => by cases hv
  | .mbox t :: ps, _, _, _, hv, _ => by cases hv
theorem good_T {P : Program} {l : List (Nat × Ty)} (h : l.all (fun p => tyOk P p.1 p.2) = true) : ∀ p ∈ l, tyOk P p.1 p.2 = true := List.all_eq_true.1 h
theorem ins_nil [Tabs] {P : Program} : Libs P [] [] [] [] := ⟨(fun _ h => nomatch h), (fun _ h => nomatch h), (fun _ h => nomatch h), (fun _ h => nomatch h)⟩
theorem ins_cons [Tabs] {P : Program} {f : Nat} {t : Ty} {l : List (Nat × Ty)} {d : List (Nat × DelFn)} {z : List (Nat × SelFn)} {q : List (Nat × Ty)} (h : InsOk P f t) (k : FnOk P f) (r : Libs P l d z q) : Libs P ((f, t) :: l) d z q := ⟨(fun p hp => by
  rcases List.mem_cons.1 hp with rfl | hp
  · exact ⟨h, k⟩
  · exact r.1 p hp), r.2⟩
theorem good_nil [Tabs] {P : Program} : ∀ p ∈ ([] : List (Nat × FnSpec)), Sound P p.1 p.2 ∧ FnOk P p.1 := fun _ h => by cases h
theorem good_cons [Tabs] {P : Program} {f : Nat} {C : FnSpec} {l : List (Nat × FnSpec)} (h : Sound P f C) (k : FnOk P f) (r : ∀ p ∈ l, Sound P p.1 p.2 ∧ FnOk P p.1) : ∀ p ∈ (f, C) :: l, Sound P p.1 p.2 ∧ FnOk P p.1 := fun p hp => by
  rcases List.mem_cons.1 hp with rfl | hp
  · exact ⟨h, k⟩
  · exact r p hp
noncomputable def limE {α : Type} (f : Nat → Option α) : Option α := by
  classical
  exact if h : ∃ k, (f k).isSome = true then f (Classical.choose h) else none
theorem limE_some {α : Type} {f : Nat → Option α} {r : α} (h : limE f = some r) : ∃ k, f k = some r := by
  unfold limE at h
  split at h
  · exact ⟨_, h⟩
  · cases h
theorem limE_of {α : Type} {f : Nat → Option α} {r : α} (h : ∃ k, f k = some r) (u : ∀ k r', f k = some r' → r' = r) : limE f = some r := by
  unfold limE
  have hx : ∃ k, (f k).isSome = true := h.imp fun k e => by rw [e]; rfl
  rw [dif_pos hx]
  obtain ⟨r', e⟩ := Option.isSome_iff_exists.1 (Classical.choose_spec hx)
  rw [e, u _ _ e]
theorem sound_lim [Tabs] {P : Program} {f : FuncId} {ps : List PK} {rs : List RK} {g : Nat → dens (PK.tys ps) → Option (dens (PK.mtys ps (RK.tys rs)))} (h : ∀ k, Sound P f ⟨ps, rs, g k⟩) : Sound P f ⟨ps, rs, fun x => limE fun k => g k x⟩ :=
  fun w args x r S Ms hT hS ha hM hr => let ⟨k, hk⟩ := limE_some hr; h k w args x r S Ms hT hS ha hM hk
def Deep (P : Program) (t : TypeId) : Prop := ∃ n u, tyDeep P n t u = true
section
variable {H : Type} {enc : TypeId × Value → H} {P : Program}
theorem fieldsDeep_spec {n : Nat} : ∀ {fs : List Field} {u : Ty} {off : Nat}, fieldsDeep P (tyDeep P n) fs u off = true →
    (∀ f ∈ fs, Deep P f.type) ∧ u.size = (fs.map fun f => P.cellsOf f.type).sum ∧ ∀ (j : Nat) (f : Field), fs[j]? = some f → f.offset = off + ((fs.take j).map fun f => P.cellsOf f.type).sum
  | [], .unit, _, _ => ⟨(fun _ h => by cases h), rfl, (fun _ _ h => by simp at h)⟩
  | f :: fs, .pair a b, off, h => by
    simp only [fieldsDeep, Bool.and_eq_true] at h
    obtain ⟨⟨⟨h1, h2⟩, h3⟩, h4⟩ := h
    have h1 := Nat.eq_of_beq_eq_true h1
    have h2 := Nat.eq_of_beq_eq_true h2
    obtain ⟨k1, k2, k3⟩ := fieldsDeep_spec h4
    refine ⟨fun g hg => ?_, ?_, fun j g hj => ?_⟩
    · rcases List.mem_cons.1 hg with rfl | hg
      · exact ⟨n, a, h3⟩
      · exact k1 g hg
    · simp only [Ty.size, List.map_cons, List.sum_cons]; omega
    · cases j with
      | zero => simp at hj; subst hj; simp [h1]
      | succ j =>
        have := k3 j g (by simpa using hj)
        rw [this]
        simp only [List.take_succ_cons, List.map_cons, List.sum_cons]
        omega
  | [], .bool, _, h => by cases h
  | [], .int _, _, h => by cases h
  | [], .str, _, h => by cases h
  | [], .slice _, _, h => by cases h
  | [], .pair _ _, _, h => by cases h
  | _ :: _, .unit, _, h => by cases h
  | _ :: _, .bool, _, h => by cases h
  | _ :: _, .int _, _, h => by cases h
  | _ :: _, .str, _, h => by cases h
  | _ :: _, .slice _, _, h => by cases h
theorem deep_slice {t e : TypeId} (h : Deep P t) (hu : P.underlying t = some (.slice e)) : Deep P e ∧ 0 < P.cellsOf e := by
  obtain ⟨n, u, h⟩ := h
  cases n with
  | zero => cases h
  | succ n =>
    unfold tyDeep at h
    rw [hu] at h
    cases u with
    | slice u =>
      simp only [Bool.and_eq_true] at h
      have := Nat.eq_of_beq_eq_true h.1.1
      have hpos : 0 < u.size := Nat.lt_of_succ_le (by simpa [Nat.blt] using h.1.2)
      exact ⟨⟨n, u, h.2⟩, by omega⟩
    | _ => cases h
theorem deep_struct [Tabs] {t : TypeId} {fs : Array Field} (h : Deep P t) (hu : P.underlying t = some (.struct fs)) :
    (∀ f ∈ fs.toList, Deep P f.type) ∧ P.cellsOf t = (fs.toList.map fun f => P.cellsOf f.type).sum ∧ ∀ (j : Nat) f, fs.toList[j]? = some f → f.offset = ((fs.toList.take j).map fun f => P.cellsOf f.type).sum := by
  obtain ⟨n, u, h⟩ := h
  cases n with
  | zero => cases h
  | succ n =>
    unfold tyDeep at h
    rw [hu] at h
    simp only [Bool.and_eq_true] at h
    have hs := Nat.eq_of_beq_eq_true h.1.2
    obtain ⟨k1, k2, k3⟩ := fieldsDeep_spec h.2
    exact ⟨k1, by omega, fun j f hj => by have := k3 j f hj; omega⟩
theorem deep_not {t : TypeId} (h : Deep P t) : (∀ e, P.underlying t ≠ some (.pointer e)) ∧ (∀ e n, P.underlying t ≠ some (.array n e)) ∧ (∀ k e, P.underlying t ≠ some (.map k e)) := by
  obtain ⟨n, u, h⟩ := h
  cases n with
  | zero => cases h
  | succ n =>
    unfold tyDeep at h
    refine ⟨fun e hu => ?_, fun e n hu => ?_, fun k e hu => ?_⟩ <;> rw [hu] at h <;> cases u <;> cases h
theorem deep_kids [Tabs] : Kids P (Deep P) :=
  ⟨fun h hu => absurd hu ((deep_not h).1 _), fun h hu => (deep_slice h hu).1, fun h hu => absurd hu ((deep_not h).2.1 _ _), fun h hu => deep_struct h hu, fun h hu => absurd hu ((deep_not h).2.2 _ _)⟩
theorem deepAll_deep {n : Nat} : ∀ {ts : List TypeId} {ps : List PK}, deepAll P n ts ps = true → ∀ t ∈ ts, Deep P t
  | [], [], _, _, h => by cases h
  | t :: ts, .val u :: ps, h, x, hx => by
    simp only [deepAll, Bool.and_eq_true] at h
    rcases List.mem_cons.1 hx with rfl | hx
    · exact ⟨n, u, h.1⟩
    · exact deepAll_deep h.2 x hx
theorem trodAll_stays [Tabs] {w w' : World} {base : Nat} {sp' : Nat → Bool} : ∀ {ts : List TypeId} {vs : List Value} {ds : List (DataW H)} {ps : List MemPlace}, (∀ t ∈ ts, Deep P t) → DataW.TrodAll enc P w base (fun _ => true) true ts vs ds ps →
    (∀ p ∈ ps, w.sameAt w' p) → (∀ p ∈ ps, sp' p.block = true) → DataW.TrodAll enc P w' base sp' true ts vs ds ps
  | [], _, _, _, _, h, _, _ => by
    obtain ⟨rfl, rfl, rfl⟩ := trodAll_nil h
    exact trodAll_mk0
  | t :: ts, vs, ds, ps, hT, h, h1, h2 => by
    obtain ⟨v, vs, d, ds, p, q, rfl, rfl, rfl, ⟨n, h3⟩, h4⟩ := trodAll_cons h
    refine ⟨p, q, ⟨n, ?_⟩, trodAll_stays (fun t ht => hT t (List.mem_cons_of_mem _ ht)) h4 (fun x hx => h1 x (by simp [hx])) (fun x hx => h2 x (by simp [hx])), rfl⟩
    exact DataW.trod_stays deep_kids (fun h hu => (deep_slice h hu).2) (fun h => by cases h) (hT t (by simp)) h3 (fun x hx => h1 x (by simp [hx])) (fun x hx => h2 x (by simp [hx]))
theorem trodAll_length {w : World} {base : Nat} {sp : Nat → Bool} {held : Bool} : ∀ {ts : List TypeId} {vs : List Value} {ds : List (DataW H)} {ps : List MemPlace}, DataW.TrodAll enc P w base sp held ts vs ds ps → ds.length = ts.length
  | [], _, _, _, h => by
    obtain ⟨rfl, rfl, rfl⟩ := trodAll_nil h
    rfl
  | t :: ts, _, _, _, h => by
    obtain ⟨v, vs, d, ds, p, q, rfl, rfl, rfl, _, h4⟩ := trodAll_cons h
    simp [trodAll_length h4]
theorem same_of_block {w w' : World} {p : MemPlace} (h : w'.heap[p.block]? = w.heap[p.block]?) : w.sameAt w' p := by
  cases p with
  | cell b o => exact World.cell?_of_block (w := w) (w' := w') h
  | map b => exact h
theorem keptBut_past {w w' : World} (p : Past w w' (fun _ => False)) (may : MemPlace → Prop) : w.keptBut w' may := by
  refine ⟨p.os, p.output, fun i hi => ?_⟩
  rw [p.block i hi (fun h => h)]
  cases w.heap[i]? with
  | none => trivial
  | some o => cases o <;> simp
theorem post_of_same_old {f : Func} {s : ChangeSpec} {apart fresh handsOn again : Bool} {W W' : World} {args : Array Value} {v : Value} {ds gs : List (DataW H)} {before pa pv : List MemPlace}
    (hW : DataW.Whole enc P f.params.toList s.vars apart W args.toList ds gs before)
    (hres : ∀ (b : Nat) (sp : Nat → Bool) (hd : Bool), DataW.TrodAll enc P W' b sp hd f.resultTypes.toList (v.resultList f.resultTypes.size) (s.fn H (ds ++ gs)).results [])
    (hargs : ∀ sp : Nat → Bool, (∀ p ∈ before, sp p.block = true) → DataW.TrodAll enc P W' 0 sp true f.params.toList args.toList (s.fn H (ds ++ gs)).args pa)
    (hvars : ∀ sp : Nat → Bool, (∀ p ∈ before, sp p.block = true) → DataW.TrodVars enc P W' sp s.vars (s.fn H (ds ++ gs)).vars pv)
    (hps : before = pa ++ pv) (hk : W.keptBut W' (· ∈ before)) (hfz : ∀ a : Addr, a.block < W.heap.size → W'.frozen? a = W.frozen? a)
    (hok : ∀ (j : Nat) (t : TypeId) (r : Value), f.resultTypes[j]? = some t → (v.resultList f.resultTypes.size)[j]? = some r → Value.okWide P W' .any 0 t r) :
    s.post enc P f apart fresh handsOn again W args v W' := by
  have hold : ∀ p ∈ before, (fun b => decide (b < W.heap.size)) p.block = true := fun p hp => by simpa using hW.lt p hp
  have hlt := hW.lt
  refine ⟨ds, gs, before, [], pa, pv, hW, hres _ _ _, hargs _ hold, hvars _ hold, World.keptBut_mono (fun p hp => ⟨hp, ?_⟩) hk, fun _ => ?_⟩
  · rw [hps, List.mem_append] at hp
    exact Or.inr hp
  · obtain ⟨_, _, _, _, _, hz, hn⟩ := hW
    refine ⟨hok, _, _, ([] ++ pa) ++ pv, ⟨[] ++ pa, pv, trodAll_append (hargs _ (fun _ _ => rfl)) (hres _ _ _), hvars _ (fun _ _ => rfl), rfl, ?_, ?_⟩, ?_⟩
    · intro b off hp
      have hb : MemPlace.cell b off ∈ before := by rw [hps]; simpa using hp
      rw [hfz _ (hlt _ hb)]
      exact hz b off hb
    · intro ha
      have := hn ha
      rw [hps] at this
      simpa using this
    · intro p hp _
      rw [hps]
      simpa using hp
end
end Go.Ab
