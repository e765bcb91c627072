/-
  Contracts, and calls by contract.
-/
import Derived.Test.YtkemmodgpafkmaaGreatDoorXTouch
namespace Go.Ab
open Go Go.RowKit
def VTy (S : Blk) (w : World) (t : Ty) (v : Value) (x : t.den) : Prop := ∃ ds, v = valV t.isAgg ds ∧ Rep S w t ds x
def OTy (w : World) (t : Ty) (v : Value) (x : t.den) (F : Blk) : Prop := ∃ ds, v = valV t.isAgg ds ∧ Own w t ds x F
def OBox (w : World) (t : Ty) (v : Value) (x : t.den) (F : Blk) : Prop := ∃ b cur e G, v = .pointer (some ⟨b, 0, none⟩) ∧ w.heap[b]? = some (.cells cur e (0, 0)) ∧ Own w t cur.toList x G ∧ ¬ G b ∧ ∀ q, F q ↔ q = b ∨ G q
def ArgsRel (S : Blk) (w : World) : (ps : List PK) → List Value → dens (PK.tys ps) → Blk → Prop
  | [], vs, _, F => vs = [] ∧ ∀ q, ¬ F q
  | .val t :: ps, vs, x, F => ∃ v r, vs = v :: r ∧ VTy S w t v (headD x) ∧ ArgsRel S w ps r (tailD x) F
  | .rp t :: ps, vs, x, F => ∃ v r, vs = v :: r ∧ PcRel S w t (headD x) v ∧ ArgsRel S w ps r (tailD x) F
  | .fn g ts :: ps, vs, x, F => ∃ (cs : Array Value) (r : List Value), vs = .func (.func g) #[] cs :: r ∧ CapsRel S w (capsOf ts (headD x)) cs.toList ∧ ArgsRel S w ps r (tailD x) F
  | .own t :: ps, vs, x, F => ∃ v r G H, vs = v :: r ∧ OTy w t v (headD x) G ∧ ArgsRel S w ps r (tailD x) H ∧ (∀ q, G q → H q → False) ∧ ∀ q, F q ↔ G q ∨ H q
  | .mbox t :: ps, vs, x, F => ∃ b cur e r H, vs = .pointer (some ⟨b, 0, none⟩) :: r ∧ w.heap[b]? = some (.cells cur e (0, 0)) ∧ Rep S w t cur.toList (headD x) ∧ ArgsRel S w ps r (tailD x) H ∧ ¬ H b ∧ ∀ q, F q ↔ q = b ∨ H q
  | .obox t :: ps, vs, x, F => ∃ v r G H, vs = v :: r ∧ OBox w t v (headD x) G ∧ ArgsRel S w ps r (tailD x) H ∧ (∀ q, G q → H q → False) ∧ ∀ q, F q ↔ G q ∨ H q
def OutRel (S : Blk) (w : World) : (ps : List PK) → List Value → (ts : List Ty) → dens (PK.mtys ps ts) → Blk → (dens ts → Prop) → Prop
  | [], _, _, x, F, K => (∀ q, ¬ F q) ∧ K x
  | .val _ :: ps, vs, ts, x, F, K => OutRel S w ps vs.tail ts x F K
  | .rp _ :: ps, vs, ts, x, F, K => OutRel S w ps vs.tail ts x F K
  | .fn _ _ :: ps, vs, ts, x, F, K => OutRel S w ps vs.tail ts x F K
  | .own t :: ps, vs, ts, x, F, K => ∃ v r G H, vs = v :: r ∧ OTy w t v (headD x) G ∧ OutRel S w ps r ts (tailD x) H K ∧ (∀ q, G q → H q → False) ∧ ∀ q, F q ↔ G q ∨ H q
  | .mbox t :: ps, vs, ts, x, F, K => ∃ b cur e r H, vs = .pointer (some ⟨b, 0, none⟩) :: r ∧ w.heap[b]? = some (.cells cur e (0, 0)) ∧ Rep S w t cur.toList (headD x) ∧ OutRel S w ps r ts (tailD x) H K ∧ ¬ H b ∧ ∀ q, F q ↔ q = b ∨ H q
  | .obox t :: ps, vs, ts, x, F, K => ∃ v r G H, vs = v :: r ∧ OBox w t v (headD x) G ∧ OutRel S w ps r ts (tailD x) H K ∧ (∀ q, G q → H q → False) ∧ ∀ q, F q ↔ G q ∨ H q
def ResRel (S : Blk) (w : World) : (rs : List RK) → List Value → dens (RK.tys rs) → Blk → Prop
  | [], vs, _, F => vs = [] ∧ ∀ q, ¬ F q
  | .val t :: rs, vs, x, F => ∃ v r, vs = v :: r ∧ VTy S w t v (headD x) ∧ ResRel S w rs r (tailD x) F
  | .own t :: rs, vs, x, F => ∃ v r G H, vs = v :: r ∧ OTy w t v (headD x) G ∧ ResRel S w rs r (tailD x) H ∧ (∀ q, G q → H q → False) ∧ ∀ q, F q ↔ G q ∨ H q
  | .rp t :: rs, vs, x, F => ∃ v r, vs = v :: r ∧ PcRel S w t (headD x) v ∧ ResRel S w rs r (tailD x) F
  | .sh t :: rs, vs, x, F => ∃ v r G H, vs = v :: r ∧ ArrRel S w false t v (headD (t := .slice t) x) G ∧ ResRel S w rs r (tailD (t := .slice t) x) H ∧ (∀ q, G q → H q → False) ∧ ∀ q, F q ↔ G q ∨ H q
  | .ob t :: rs, vs, x, F => ∃ v r G H, vs = v :: r ∧ OBox w t v (headD x) G ∧ ResRel S w rs r (tailD x) H ∧ (∀ q, G q → H q → False) ∧ ∀ q, F q ↔ G q ∨ H q
def retV (vs : List Value) : Value :=
  match vs with
  | [v] => v
  | vs => .tuple vs.toArray
structure Past (w w' : World) (Ms : Blk) : Prop where
  os : w'.os = w.os
  tape : w'.tape = w.tape
  output : w'.output = w.output
  size : w.heap.size ≤ w'.heap.size
  block : ∀ q, q < w.heap.size → ¬ Ms q → w'.heap[q]? = w.heap[q]?
  fz : ∀ a : Addr, a.block < w.heap.size → w'.frozen? a = w.frozen? a
def Sound [Tabs] (P : Program) (f : FuncId) (C : FnSpec) : Prop :=
  ∀ (w : World) (args : List Value) (x : dens (PK.tys C.ps)) (r : dens (PK.mtys C.ps (RK.tys C.rs))) (S Ms : Blk),
    TabOk w w.heap.size Ms → (∀ q, S q → q < w.heap.size) → ArgsRel S w C.ps args x Ms → (∀ q, Ms q → ¬ S q ∧ q < w.heap.size) → C.fn x = some r →
    Calls P f args.toArray w fun e w' => ∃ vs S' FM FR, e = .returned (retV vs) ∧ Past w w' Ms ∧
      (∀ q, S q → S' q) ∧ (∀ q, S' q → S q ∨ (w.heap.size ≤ q ∧ q < w'.heap.size)) ∧
      OutRel S' w' C.ps args (RK.tys C.rs) r FM (fun z => ResRel S' w' C.rs vs z FR) ∧
      (∀ q, FM q → (Ms q ∨ w.heap.size ≤ q) ∧ q < w'.heap.size ∧ ¬ S' q) ∧ (∀ q, FR q → w.heap.size ≤ q ∧ q < w'.heap.size ∧ ¬ S' q ∧ ¬ FM q)
section
variable {P : Program} {E : Env} {h : HGet} {S : Blk} {w w' w0 : World} {m m' : OMap} {B : Nat} {M0 : Blk}
theorem headD_consD {t : Ty} : ∀ {ts : List Ty} (x : t.den) (y : dens ts), headD (consD x y) = x
  | [], _, _ => rfl
  | _ :: _, _, _ => rfl
theorem tailD_consD {t : Ty} : ∀ {ts : List Ty} (x : t.den) (y : dens ts), tailD (consD x y) = y
  | [], _, _ => rfl
  | _ :: _, _, _ => rfl
theorem fits_spec [Tabs] (M : Mem h S w m B M0) {a : AVal} {u : Value} {t : Ty} (hf : a.fits t = true) (r : VRel h S w m a u) : a.solid = true ∧ a.cells.length = t.size ∧ u = valV t.isAgg u.cells.toList := by
  unfold AVal.fits at hf
  simp only [Bool.and_eq_true] at hf
  obtain ⟨⟨h1, h2⟩, h3⟩ := hf
  refine ⟨h1, Nat.eq_of_beq_eq_true h2, ?_⟩
  cases a with
  | tu l => cases h1
  | one c =>
    have hc0 : c ≠ .und := fun e => by subst e; cases h1
    have ho := CellRel.oneCell r hc0 M
    simp only [Bool.not_eq_true'] at h3
    rw [cells_one ho, h3]
    rfl
  | ag cs =>
    obtain ⟨arr, rfl, _⟩ := r
    simp only at h3
    rw [h3]
    rfl
theorem ArgsRel.mono [Tabs] {S' : Blk} (hS : ∀ q, S q → S' q) : ∀ {ps : List PK} {us : List Value} {x : dens (PK.tys ps)} {F : Blk}, allVal ps = true → ArgsRel S w ps us x F → ArgsRel S' w ps us x F
  | [], _, _, _, _, r => r
  | .val t :: ps, _, _, _, hv, r => by
    obtain ⟨v, r', e, ⟨ds, e', k⟩, k2⟩ := r
    exact ⟨v, r', e, ⟨ds, e', k.mono hS (fun _ _ => rfl) (Nat.le_refl _)⟩, ArgsRel.mono hS (ps := ps) hv k2⟩
  | .rp t :: ps, _, _, _, hv, r => by
    obtain ⟨v, r', e, k, k2⟩ := r
    exact ⟨v, r', e, k.mono hS (fun _ _ => rfl) (Nat.le_refl _), ArgsRel.mono hS (ps := ps) hv k2⟩
  | .fn g ts :: ps, _, _, _, hv, r => by
    obtain ⟨cs, r', e, k, k2⟩ := r
    exact ⟨cs, r', e, k.mono hS (fun _ _ => rfl) (Nat.le_refl _), ArgsRel.mono hS (ps := ps) hv k2⟩
  | .own t :: ps, _, _, _, hv, _ => by cases hv
  | .mbox t :: ps, _, _, _, hv, _ => by cases hv
  | .obox t :: ps, _, _, _, hv, _ => by cases hv
theorem takeCaps_eq [Tabs] : ∀ {ts : List Ty} {cs : List Cap} {x : (prodTy ts).den}, takeCaps ts cs = some x → capsOf ts x = cs
  | [], [], _, _ => rfl
  | [], _ :: _, _, e => by cases e
  | _ :: _, [], _, e => by cases e
  | t :: ts, .val u y :: cs, x, e => by
    simp only [takeCaps, Option.bind_eq_some_iff, Option.some.injEq] at e
    obtain ⟨y', e1, z, e2, rfl⟩ := e
    obtain ⟨rfl, rfl⟩ := cast?_some e1
    simp only [capsOf, takeCaps_eq e2]
theorem args_val [Tabs] (M : Mem h S w m B M0) : ∀ {ps : List PK} {vs : List AVal} {us : List Value} {hp : AHeap} {x : dens (PK.tys ps)}, allVal ps = true → (∀ id o, hp.get id = some o → h id ≠ none → h id = some o) → takeArgs hp ps vs = some x →
    vs.length = us.length → (∀ (i : Nat) (a : AVal) (u : Value), vs[i]? = some a → us[i]? = some u → VRel h S w m a u) → ArgsRel (Plus m h S (argIds ps vs)) w ps us x (fun _ => False)
  | [], [], us, _, x, _, _, _, hl, _ => ⟨List.eq_nil_of_length_eq_zero hl.symm, fun _ h => h⟩
  | [], _ :: _, _, _, _, _, _, e, _, _ => by cases e
  | .val t :: ps, [], _, _, _, _, _, e, _, _ => by cases e
  | .val t :: ps, a :: vs, us, hp, x, hv, hg, e, hl, hr => by
    cases us with
    | nil => cases hl
    | cons u us =>
      simp only [takeArgs] at e
      cases hb : a.fits t with
      | false => rw [hb] at e; cases e
      | true =>
        rw [hb] at e
        simp only [cond_true, Option.bind_eq_some_iff, Option.some.injEq] at e
        obtain ⟨y, e1, z, e2, rfl⟩ := e
        have h0 := hr 0 a u rfl rfl
        obtain ⟨f1, f2, f3⟩ := fits_spec M hb h0
        have hrep := gather_rep M hg e1 (h0.cells f1 M) f2
        have ih := args_val M (ps := ps) (vs := vs) (us := us) hv hg e2 (by simpa using hl) (fun i a u h1 h2 => hr (i + 1) a u (by simpa using h1) (by simpa using h2))
        refine ⟨u, us, rfl, ⟨u.cells.toList, f3, ?_⟩, ?_⟩
        · rw [headD_consD]; exact hrep.plus fun id hid => by simp [argIds, hid]
        · rw [tailD_consD]
          exact ArgsRel.mono (fun q hq => hq.imp id fun ⟨i, hi, rest⟩ => ⟨i, by simp [argIds, hi], rest⟩) hv ih
  | .rp t :: ps, [], _, _, _, _, _, e, _, _ => by cases e
  | .fn g ts :: ps, [], _, _, _, _, _, e, _, _ => by cases e
  | .rp t :: ps, a :: vs, us, hp, x, hv, hg, e, hl, hr => by
    cases us with
    | nil => cases hl
    | cons u us =>
      cases a with
      | one c =>
        cases c with
        | pc t' y =>
          simp only [takeArgs, Option.bind_eq_some_iff, Option.some.injEq] at e
          obtain ⟨y', e1, z, e2, rfl⟩ := e
          obtain ⟨rfl, rfl⟩ := cast?_some e1
          have h0 := hr 0 _ u rfl rfl
          have ih := args_val M (ps := ps) (vs := vs) (us := us) hv hg e2 (by simpa using hl) (fun i a u h1 h2 => hr (i + 1) a u (by simpa using h1) (by simpa using h2))
          refine ⟨u, us, rfl, ?_, ?_⟩
          · rw [headD_consD]
            exact PcRel.mono (fun q hq => .inl hq) (fun _ _ => rfl) (Nat.le_refl _) h0
          · rw [tailD_consD]; exact ih
        | _ => cases e
      | _ => cases e
  | .fn g ts :: ps, a :: vs, us, hp, x, hv, hg, e, hl, hr => by
    cases us with
    | nil => cases hl
    | cons u us =>
      cases a with
      | one c =>
        cases c with
        | cl f caps =>
          simp only [takeArgs] at e
          cases hb : Nat.beq f g with
          | false => rw [hb] at e; cases e
          | true =>
            rw [hb] at e
            have := Nat.eq_of_beq_eq_true hb
            subst this
            simp only [cond_true, Option.bind_eq_some_iff, Option.some.injEq] at e
            obtain ⟨y', e1, z, e2, rfl⟩ := e
            have h0 := hr 0 _ u rfl rfl
            obtain ⟨cs, rfl, k⟩ := h0
            have ih := args_val M (ps := ps) (vs := vs) (us := us) hv hg e2 (by simpa using hl) (fun i a u h1 h2 => hr (i + 1) a u (by simpa using h1) (by simpa using h2))
            refine ⟨cs, us, rfl, ?_, ?_⟩
            · rw [headD_consD, takeCaps_eq e1]
              exact k.mono (fun q hq => .inl hq) (fun _ _ => rfl) (Nat.le_refl _)
            · rw [tailD_consD]; exact ih
        | _ => cases e
      | _ => cases e
  | .own t :: ps, _, _, _, _, hv, _, _, _, _ => by cases hv
  | .mbox t :: ps, _, _, _, _, hv, _, _, _, _ => by cases hv
  | .obox t :: ps, _, _, _, _, hv, _, _, _, _ => by cases hv
def Has (os : AHeap) (c : OMap) (h : HGet) (m : OMap) : Prop := ∀ id o, AHeap.get os id = some o → h id = some o ∧ m id = c id
structure NewObjs (S : Blk) (w : World) (os : AHeap) (c : OMap) (F : Blk) (lo hi : Nat) : Prop where
  le : lo ≤ hi
  ids : ∀ id, AHeap.get os id ≠ none → lo ≤ id ∧ id < hi
  obj : ∀ id o, AHeap.get os id = some o → ∃ oc, c id = some oc ∧ (∀ h m, Has os c h m → ObjRel h S w m o oc) ∧ ∀ q, oc.F q → F q
  dis : ∀ i j a b, i ≠ j → AHeap.get os i ≠ none → AHeap.get os j ≠ none → c i = some a → c j = some b → ∀ q, a.F q → b.F q → False
theorem get_append_none [Tabs] {a b : AHeap} {i : Nat} (h : AHeap.get a i = none) : AHeap.get (a ++ b) i = AHeap.get b i := by rw [get_append, h]; rfl
theorem NewObjs.nil (S : Blk) (w : World) (F : Blk) (n : Nat) : NewObjs S w [] (fun _ => none) F n n :=
  { le := Nat.le_refl _
    ids := fun _ h => absurd rfl h
    obj := fun _ _ (e : none = some _) => nomatch e
    dis := fun _ _ _ _ _ h _ => absurd rfl h }
theorem NewObjs.append [Tabs] {a b : AHeap} {c d : OMap} {F G H : Blk} {l k n : Nat} (x : NewObjs S w a c F l k) (y : NewObjs S w b d G k n) (hd : ∀ q, F q → G q → False) (hF : ∀ q, F q → H q) (hG : ∀ q, G q → H q) :
    NewObjs S w (a ++ b) (fun id => if id < k then c id else d id) H l n := by
  have ha : ∀ id, k ≤ id → AHeap.get a id = none := fun id hk => by
    cases e : AHeap.get a id with
    | none => rfl
    | some o => have := (x.ids id (by rw [e]; simp)).2; omega
  have hb : ∀ id, id < k → AHeap.get b id = none := fun id hk => by
    cases e : AHeap.get b id with
    | none => rfl
    | some o => have := (y.ids id (by rw [e]; simp)).1; omega
  have get : ∀ id, AHeap.get (a ++ b) id = if id < k then AHeap.get a id else AHeap.get b id := fun id => by
    rw [get_append]
    by_cases hk : id < k
    · rw [if_pos hk, hb id hk]; simp
    · rw [if_neg hk, ha id (by omega)]; rfl
  refine ⟨Nat.le_trans x.le y.le, fun id hid => ?_, fun id o e => ?_, fun i j p q hij hi hj hp hq z hz hz' => ?_⟩
  · rw [get id] at hid
    split at hid
    · have := x.ids id hid; have := y.le; omega
    · have := y.ids id hid; have := x.le; omega
  · rw [get id] at e
    split at e
    · obtain ⟨oc, h1, h4, h5⟩ := x.obj id o e
      exact ⟨oc, by rw [if_pos (by assumption)]; exact h1, fun h m hm => h4 h m fun i o ei => by
        have hi := (x.ids i (by rw [ei]; simp)).2
        have := hm i o (by rw [get i, if_pos hi]; exact ei)
        exact ⟨this.1, this.2.trans (if_pos hi)⟩, fun q hq => hF q (h5 q hq)⟩
    · obtain ⟨oc, h1, h4, h5⟩ := y.obj id o e
      exact ⟨oc, by rw [if_neg (by assumption)]; exact h1, fun h m hm => h4 h m fun i o ei => by
        have hi := Nat.not_lt.2 (y.ids i (by rw [ei]; simp)).1
        have := hm i o (by rw [get i, if_neg hi]; exact ei)
        exact ⟨this.1, this.2.trans (if_neg hi)⟩, fun q hq => hG q (h5 q hq)⟩
  · have fx : ∀ id oc, id < k → AHeap.get (a ++ b) id ≠ none → (if id < k then c id else d id) = some oc → (AHeap.get a id ≠ none ∧ c id = some oc) := fun id oc hk hn ho => by
      rw [get id, if_pos hk] at hn; rw [if_pos hk] at ho; exact ⟨hn, ho⟩
    have fy : ∀ id oc, ¬ id < k → AHeap.get (a ++ b) id ≠ none → (if id < k then c id else d id) = some oc → (AHeap.get b id ≠ none ∧ d id = some oc) := fun id oc hk hn ho => by
      rw [get id, if_neg hk] at hn; rw [if_neg hk] at ho; exact ⟨hn, ho⟩
    have inF : ∀ id oc, AHeap.get a id ≠ none → c id = some oc → ∀ q, oc.F q → F q := fun id oc hn ho q hq => by
      cases e : AHeap.get a id with
      | none => exact absurd e hn
      | some o =>
        obtain ⟨oc', h1, _, h5⟩ := x.obj id o e
        obtain rfl : oc' = oc := Option.some.inj (h1.symm.trans ho)
        exact h5 q hq
    have inG : ∀ id oc, AHeap.get b id ≠ none → d id = some oc → ∀ q, oc.F q → G q := fun id oc hn ho q hq => by
      cases e : AHeap.get b id with
      | none => exact absurd e hn
      | some o =>
        obtain ⟨oc', h1, _, h5⟩ := y.obj id o e
        obtain rfl : oc' = oc := Option.some.inj (h1.symm.trans ho)
        exact h5 q hq
    by_cases hik : i < k
    · obtain ⟨i1, i2⟩ := fx i p hik hi hp
      by_cases hjk : j < k
      · obtain ⟨j1, j2⟩ := fx j q hjk hj hq
        exact x.dis i j p q hij i1 j1 i2 j2 z hz hz'
      · obtain ⟨j1, j2⟩ := fy j q hjk hj hq
        exact hd z (inF i p i1 i2 z hz) (inG j q j1 j2 z hz')
    · obtain ⟨i1, i2⟩ := fy i p hik hi hp
      by_cases hjk : j < k
      · obtain ⟨j1, j2⟩ := fx j q hjk hj hq
        exact hd z (inF j q j1 j2 z hz') (inG i p i1 i2 z hz)
      · obtain ⟨j1, j2⟩ := fy j q hjk hj hq
        exact y.dis i j p q hij i1 j1 i2 j2 z hz hz'
theorem Has.left [Tabs] {a b : AHeap} {c d : OMap} {F : Blk} {l k : Nat} (x : NewObjs S w a c F l k) (hm : Has (a ++ b) (fun id => if id < k then c id else d id) h m) : Has a c h m := fun id o e => by
  have := hm id o (by rw [get_append, e]; rfl)
  refine ⟨this.1, this.2.trans ?_⟩
  exact if_pos (x.ids id (by rw [e]; simp)).2
theorem Has.right [Tabs] {a b : AHeap} {c d : OMap} {F G : Blk} {l k n : Nat} (x : NewObjs S w a c F l k) (y : NewObjs S w b d G k n) (hm : Has (a ++ b) (fun id => if id < k then c id else d id) h m) : Has b d h m := fun id o e => by
  have hk := (y.ids id (by rw [e]; simp)).1
  have hn : AHeap.get a id = none := by
    cases e' : AHeap.get a id with
    | none => rfl
    | some o' => have := (x.ids id (by rw [e']; simp)).2; omega
  have := hm id o (by rw [get_append_none hn]; exact e)
  refine ⟨this.1, this.2.trans ?_⟩
  exact if_neg (Nat.not_lt.2 hk)
theorem own_cells [Tabs] : ∀ {t : Ty} {ds : List Value} {x : t.den} {F : Blk} (base : Nat), Own w t ds x F → ∃ c, NewObjs S w (mutCells base t x).2.1 c F base (mutCells base t x).2.2 ∧
    ∀ (h : HGet) (S : Blk) (m : OMap), Has (mutCells base t x).2.1 c h m → CellsRel h S w m (mutCells base t x).1 ds
  | .unit, ds, x, F, base, r => by
    obtain ⟨rfl, _⟩ := r
    exact ⟨fun _ => none, NewObjs.nil S w F base, fun h S m _ => CellsRel.nil⟩
  | .bool, ds, x, F, base, r => by
    obtain ⟨rfl, _⟩ := r
    exact ⟨fun _ => none, NewObjs.nil S w F base, fun h S m _ => CellsRel.one (pv_bool (h := h) (S := S) (m := m) x) rfl⟩
  | .int k, ds, x, F, base, r => by
    obtain ⟨⟨rfl, hx⟩, _⟩ := r
    exact ⟨fun _ => none, NewObjs.nil S w F base, fun h S m _ => CellsRel.one (pv_int (h := h) (S := S) (m := m) hx) rfl⟩
  | .str, ds, x, F, base, r => by
    obtain ⟨⟨rfl, hx⟩, _⟩ := r
    exact ⟨fun _ => none, NewObjs.nil S w F base, fun h S m _ => CellsRel.one (pv_str (h := h) (S := S) (m := m) hx) rfl⟩
  | .raw, ds, x, F, base, r => by
    obtain ⟨⟨rfl, hx⟩, _⟩ := r
    exact ⟨fun _ => none, NewObjs.nil S w F base, fun h S m _ => CellsRel.one ⟨rfl, rfl, hx⟩ hx⟩
  | .slice t, ds, x, F, base, r => by
    obtain ⟨v, rfl, r⟩ := r
    have hbase : ∀ id, AHeap.get [(base, AObj.arr true t x)] id ≠ none → id = base := fun id hid => by
      rw [get_one] at hid
      by_cases e : id = base
      · exact e
      · simp [e] at hid
    refine ⟨fun id => if id = base then some ⟨v, F, t⟩ else none, ⟨by simp [mutCells], fun id hid => by have := hbase id hid; simp only [mutCells]; omega, fun id o e => ?_, fun i j a b hij hi hj => ?_⟩, fun h S m hm => ?_⟩
    · simp only [mutCells] at e
      rw [get_one] at e
      split at e
      · rename_i hid
        cases e
        exact ⟨⟨v, F, t⟩, by simp [hid], fun _ _ _ => ⟨rfl, r⟩, fun q hq => hq⟩
      · cases e
    · have := hbase i hi; have := hbase j hj; omega
    · have h1 : v.oneCell' = true := by
        rcases r with ⟨⟨_, e⟩, _⟩ | ⟨_, _, _, _, _, e, _⟩ <;> rw [e] <;> rfl
      have hb := hm base _ (show AHeap.get (mutCells base (.slice t) x).2.1 base = some (.arr true t x) by simp [mutCells, get_one])
      refine CellsRel.one ⟨⟨true, t, x, hb.1⟩, ⟨v, F, t⟩, ?_, rfl⟩ h1
      rw [hb.2]
      simp
  | .pair a b, ds, x, F, base, r => by
    obtain ⟨p, q, G, H, rfl, h1, h2, h3, h4⟩ := r
    obtain ⟨c1, n1, k1⟩ := own_cells base h1
    obtain ⟨c2, n2, k2⟩ := own_cells (mutCells base a x.1).2.2 h2
    refine ⟨fun id => if id < (mutCells base a x.1).2.2 then c1 id else c2 id, ?_, fun h S m hm => ?_⟩
    · have := n1.append n2 h3 (H := F) (fun q hq => (h4 q).2 (.inl hq)) (fun q hq => (h4 q).2 (.inr hq))
      simpa [mutCells] using this
    · simp only [mutCells] at hm ⊢
      exact (k1 h S m (Has.left n1 hm)).append (k2 h S m (Has.right n1 n2 hm))
theorem rel1_of_cells [Tabs] {agg : Bool} {cs : List ACell} {ds : List Value} (r : CellsRel h S w m cs ds) (hn : agg = true ∨ ∃ c, cs = [c]) : VRel1 h S w m (agg, cs) (valV agg ds) := by
  cases agg with
  | true => exact ⟨ds.toArray, rfl, by simpa using r⟩
  | false =>
    obtain ⟨c, rfl⟩ := hn.resolve_left (by simp)
    obtain ⟨v, us, rfl, hr, _⟩ := r.uncons
    exact ⟨c, rfl, hr⟩
theorem mutCells_length : ∀ (t : Ty) (base : Nat) (x : t.den), (mutCells base t x).1.length = t.size
  | .unit, _, _ => rfl
  | .bool, _, _ => rfl
  | .int _, _, _ => rfl
  | .str, _, _ => rfl
  | .raw, _, _ => rfl
  | .slice _, _, _ => rfl
  | .pair a b, base, x => by simp [mutCells, Ty.size, mutCells_length a, mutCells_length b]
theorem put_res [Tabs] : ∀ {rs : List RK} {vs : List Value} {z : dens (RK.tys rs)} {F : Blk} (base : Nat), ResRel S w rs vs z F → ∃ c, NewObjs S w (putRes base rs z).2.1 c F base (putRes base rs z).2.2 ∧ (putRes base rs z).1.length = vs.length ∧
    ∀ (h : HGet) (m : OMap), Has (putRes base rs z).2.1 c h m → ∀ (i : Nat) (p : Bool × List ACell) (v : Value), (putRes base rs z).1[i]? = some p → vs[i]? = some v → VRel1 h S w m p v
  | [], vs, z, F, base, r => by
    obtain ⟨rfl, _⟩ := r
    exact ⟨fun _ => none, NewObjs.nil S w F base, rfl, fun h m _ i p v hp => by simp [putRes] at hp⟩
  | .val t :: rs, vs, z, F, base, r => by
    obtain ⟨v, vs, rfl, ⟨ds, rfl, k⟩, r⟩ := r
    obtain ⟨c, n, hl, kk⟩ := put_res base r
    refine ⟨c, n, by simpa [putRes] using hl, fun h m hm i p v hp hv => ?_⟩
    cases i with
    | zero =>
      simp [putRes] at hp hv
      subst hp; subst hv
      exact rel1_of_cells (flat_rel k) (valV_len (flat_length _ _) size_one)
    | succ i => exact kk h m hm i p v (by simpa [putRes] using hp) (by simpa using hv)
  | .own t :: rs, vs, z, F, base, r => by
    obtain ⟨v, vs, G, H, rfl, ⟨ds, rfl, k⟩, r, h3, h4⟩ := r
    obtain ⟨c1, n1, k1⟩ := own_cells base k
    obtain ⟨c2, n2, hl, k2⟩ := put_res (mutCells base t (headD z)).2.2 r
    refine ⟨fun id => if id < (mutCells base t (headD z)).2.2 then c1 id else c2 id, ?_, by simpa [putRes] using hl, fun h m hm i p v hp hv => ?_⟩
    · have := n1.append n2 h3 (H := F) (fun q hq => (h4 q).2 (.inl hq)) (fun q hq => (h4 q).2 (.inr hq))
      simpa [putRes] using this
    · simp only [putRes] at hm hp
      cases i with
      | zero =>
        simp at hp hv
        subst hp; subst hv
        exact rel1_of_cells (k1 h S m (Has.left n1 hm)) (valV_len (mutCells_length _ _ _) size_one)
      | succ i => exact k2 h m (Has.right n1 n2 hm) i p v (by simpa using hp) (by simpa using hv)
  | .rp t :: rs, vs, z, F, base, r => by
    obtain ⟨v, vs, rfl, k, r⟩ := r
    obtain ⟨c, n, hl, kk⟩ := put_res base r
    refine ⟨c, n, by simpa [putRes] using hl, fun h m hm i p v hp hv => ?_⟩
    cases i with
    | zero =>
      simp [putRes] at hp hv
      subst hp; subst hv
      exact ⟨_, rfl, k⟩
    | succ i => exact kk h m hm i p v (by simpa [putRes] using hp) (by simpa using hv)
  | .sh t :: rs, vs, z, F, base, r => by
    obtain ⟨v, vs, G, H, rfl, k, r, h3, h4⟩ := r
    have hbase : ∀ id, AHeap.get [(base, AObj.arr false t (headD (t := .slice t) z))] id ≠ none → id = base := fun id hid => by
      rw [get_one] at hid
      by_cases e : id = base
      · exact e
      · simp [e] at hid
    have n1 : NewObjs S w [(base, AObj.arr false t (headD (t := .slice t) z))] (fun id => if id = base then some ⟨v, G, t⟩ else none) G base (base + 1) := by
      refine ⟨by omega, fun id hid => by have := hbase id hid; omega, fun id o e => ?_, fun i j a b hij hi hj => ?_⟩
      · rw [get_one] at e
        split at e
        · rename_i hid
          cases e
          exact ⟨⟨v, G, t⟩, by simp [hid], fun _ _ _ => ⟨rfl, k⟩, fun q hq => hq⟩
        · cases e
      · have := hbase i hi; have := hbase j hj; omega
    obtain ⟨c2, n2, hl, k2⟩ := put_res (base + 1) r
    refine ⟨fun id => if id < base + 1 then (if id = base then some ⟨v, G, t⟩ else none) else c2 id, ?_, by simpa [putRes] using hl, fun h m hm i p v' hp hv => ?_⟩
    · have := n1.append n2 h3 (H := F) (fun q hq => (h4 q).2 (.inl hq)) (fun q hq => (h4 q).2 (.inr hq))
      simpa [putRes] using this
    · simp only [putRes] at hm hp
      cases i with
      | zero =>
        simp at hp hv
        subst hp; subst hv
        have hb := Has.left n1 hm base _ (by rw [get_one, if_pos rfl])
        exact ⟨_, rfl, ⟨false, t, _, hb.1⟩, ⟨v, G, t⟩, by rw [hb.2]; simp, rfl⟩
      | succ i => exact k2 h m (Has.right n1 n2 hm) i p v' (by simpa using hp) (by simpa using hv)
  | .ob t :: rs, vs, z, F, base, r => by
    obtain ⟨v, vs, G, H, rfl, ⟨b, cur, te, G', rfl, hcur, hown, hGb, hG⟩, r, h3, h4⟩ := r
    obtain ⟨c1, n1, k1⟩ := own_cells (S := S) (base + 1) hown
    obtain ⟨c2, n2, hl, k2⟩ := put_res (mutCells (base + 1) t (headD z)).2.2 r
    have hlo : ∀ id, AHeap.get (mutCells (base + 1) t (headD z)).2.1 id ≠ none → base < id := fun id hn => (n1.ids id hn).1
    have hcb : AHeap.get (mutCells (base + 1) t (headD z)).2.1 base = none := by
      cases e : AHeap.get (mutCells (base + 1) t (headD z)).2.1 base with
      | none => rfl
      | some o => have := hlo base (by rw [e]; simp); omega
    let oc : OC := ⟨.pointer (some ⟨b, 0, none⟩), fun q => q = b, .unit⟩
    have n0 : NewObjs S w ((base, AObj.box (mutCells (base + 1) t (headD z)).1) :: (mutCells (base + 1) t (headD z)).2.1) (fun id => if id = base then some oc else c1 id) G base (mutCells (base + 1) t (headD z)).2.2 := by
      have hget : ∀ id, AHeap.get ((base, AObj.box (mutCells (base + 1) t (headD z)).1) :: (mutCells (base + 1) t (headD z)).2.1) id = if id = base then some (AObj.box (mutCells (base + 1) t (headD z)).1) else AHeap.get (mutCells (base + 1) t (headD z)).2.1 id := fun id => by
        by_cases e : id = base
        · subst e; simp [AHeap.get]
        · have : Nat.beq base id = false := by
            cases h : Nat.beq base id with
            | true => exact absurd (Nat.eq_of_beq_eq_true h).symm e
            | false => rfl
          simp [AHeap.get, this, e]
      have hfr : ∀ id oc', AHeap.get (mutCells (base + 1) t (headD z)).2.1 id ≠ none → c1 id = some oc' → ∀ q, oc'.F q → G' q := fun id oc' hn hc q hq => by
        cases e : AHeap.get (mutCells (base + 1) t (headD z)).2.1 id with
        | none => exact absurd e hn
        | some o =>
          obtain ⟨oc2, h1, _, h5⟩ := n1.obj id o e
          obtain rfl : oc2 = oc' := Option.some.inj (h1.symm.trans hc)
          exact h5 q hq
      refine ⟨by have := n1.le; omega, fun id hid => ?_, fun id o e => ?_, fun i j p q hij hi hj hp hq z' hz hz' => ?_⟩
      · rw [hget] at hid
        have := n1.le
        by_cases e : id = base
        · subst e; omega
        · rw [if_neg e] at hid
          have := n1.ids id hid
          omega
      · rw [hget] at e
        by_cases he : id = base
        · subst he
          rw [if_pos rfl] at e
          cases e
          refine ⟨oc, if_pos rfl, fun h m hm => ⟨b, cur, te, rfl, hcur, k1 h S m fun i o ei => ?_, fun q => Iff.rfl⟩, fun q hq => (hG q).2 (.inl hq)⟩
          have hne : i ≠ id := fun e' => by subst e'; rw [hcb] at ei; cases ei
          have := hm i o (by rw [hget, if_neg hne]; exact ei)
          exact ⟨this.1, this.2.trans (if_neg hne)⟩
        · rw [if_neg he] at e
          obtain ⟨oc', h1, h4, h5⟩ := n1.obj id o e
          refine ⟨oc', (if_neg he).trans h1, fun h m hm => h4 h m fun i o ei => ?_, fun q hq => (hG q).2 (.inr (h5 q hq))⟩
          have hne : i ≠ base := fun e' => by subst e'; rw [hcb] at ei; cases ei
          have := hm i o (by rw [hget, if_neg hne]; exact ei)
          exact ⟨this.1, this.2.trans (if_neg hne)⟩
      · rw [hget] at hi hj
        by_cases ei : i = base
        · subst ei
          have ej : j ≠ i := fun e => hij e.symm
          rw [if_neg ej] at hj hq
          rw [if_pos rfl] at hp
          cases hp
          have : z' = b := hz
          subst this
          exact hGb (hfr j q hj hq z' hz')
        · rw [if_neg ei] at hi hp
          by_cases ej : j = base
          · subst ej
            rw [if_pos rfl] at hq
            cases hq
            have : z' = b := hz'
            subst this
            exact hGb (hfr i p hi hp z' hz)
          · rw [if_neg ej] at hj hq
            exact n1.dis i j p q hij hi hj hp hq z' hz hz'
    refine ⟨fun id => if id < (mutCells (base + 1) t (headD z)).2.2 then (if id = base then some oc else c1 id) else c2 id, ?_, by simpa [putRes] using hl, fun h m hm i p v' hp hv => ?_⟩
    · have := n0.append n2 h3 (H := F) (fun q hq => (h4 q).2 (.inl hq)) (fun q hq => (h4 q).2 (.inr hq))
      simpa [putRes] using this
    · simp only [putRes] at hm hp
      cases i with
      | zero =>
        simp at hp hv
        subst hp; subst hv
        have hb := Has.left n0 hm base (AObj.box (mutCells (base + 1) t (headD z)).1) (by simp [AHeap.get])
        exact ⟨_, rfl, ⟨_, hb.1⟩, oc, b, by rw [hb.2]; simp, rfl, rfl⟩
      | succ i => exact k2 h m (Has.right n0 n2 hm) i p v' (by simpa using hp) (by simpa using hv)
theorem ret_rel {l : List (Bool × List ACell)} {vs : List Value} (hl : l.length = vs.length) (hr : ∀ (i : Nat) (p : Bool × List ACell) (v : Value), l[i]? = some p → vs[i]? = some v → VRel1 h S w m p v) : VRel h S w m (resVal l) (retV vs) := by
  have tuple : VRel h S w m (.tu l) (.tuple vs.toArray) := ⟨vs.toArray, rfl, by simpa using hl.symm, fun i p u hp hu => hr i p u hp (by simpa using hu)⟩
  match l, vs, hl, hr, tuple with
  | [p], [v], _, hr, _ =>
    have := hr 0 p v rfl rfl
    obtain ⟨b, cs⟩ := p
    cases b with
    | true => exact this
    | false => obtain ⟨c, e, k⟩ := this; subst e; exact k
  | [], [], _, _, t => exact t
  | _ :: _ :: _, _ :: _ :: _, _, _, t => exact t
theorem put_val : ∀ {ps : List PK} {vs : List AVal} {ts : List Ty} {x : dens (PK.mtys ps ts)} {s : AS} {R : Type} {k : dens ts → AS → Option R} {r : R}, allVal ps = true → putMuts ps vs ts x s k = some r → ∃ z, midV ps x = some z ∧ k z s = some r
  | [], _, _, x, _, _, _, _, _, e => ⟨x, rfl, e⟩
  | .val t :: ps, [], _, _, _, _, _, _, _, e => by cases e
  | .val t :: ps, _ :: vs, _, x, _, _, _, _, hv, e => put_val (ps := ps) (vs := vs) (x := x) hv e
  | .rp t :: ps, [], _, _, _, _, _, _, _, e => by cases e
  | .rp t :: ps, _ :: vs, _, x, _, _, _, _, hv, e => put_val (ps := ps) (vs := vs) (x := x) hv e
  | .fn g ts :: ps, [], _, _, _, _, _, _, _, e => by cases e
  | .fn g ts :: ps, _ :: vs, _, x, _, _, _, _, hv, e => put_val (ps := ps) (vs := vs) (x := x) hv e
  | .own t :: ps, _, _, _, _, _, _, _, hv, _ => by cases hv
  | .mbox t :: ps, _, _, _, _, _, _, _, hv, _ => by cases hv
  | .obox t :: ps, _, _, _, _, _, _, _, hv, _ => by cases hv
theorem out_val : ∀ {ps : List PK} {us : List Value} {ts : List Ty} {x : dens (PK.mtys ps ts)} {F : Blk} {K : dens ts → Prop} {z : dens ts}, allVal ps = true → midV ps x = some z → OutRel S w ps us ts x F K → K z
  | [], _, _, x, _, _, _, _, e, o => by cases e; exact o.2
  | .val t :: ps, us, _, x, _, _, _, hv, e, o => out_val (ps := ps) (us := us.tail) (x := x) hv e o
  | .rp t :: ps, us, _, x, _, _, _, hv, e, o => out_val (ps := ps) (us := us.tail) (x := x) hv e o
  | .fn g ts :: ps, us, _, x, _, _, _, hv, e, o => out_val (ps := ps) (us := us.tail) (x := x) hv e o
  | .own t :: ps, _, _, _, _, _, _, hv, _, _ => by cases hv
  | .mbox t :: ps, _, _, _, _, _, _, hv, _, _ => by cases hv
  | .obox t :: ps, _, _, _, _, _, _, hv, _, _ => by cases hv
theorem ResRel.any_leads [Tabs] {S' : Blk} : ∀ {rs : List RK} {vs : List Value} {z : dens (RK.tys rs)} {F : Blk}, RK.leads rs = false → ResRel S w rs vs z F → ResRel S' w rs vs z F
  | [], _, _, _, _, r => r
  | .val t :: rs, vs, z, F, h, r => by
    simp only [RK.leads, Bool.or_eq_false_iff] at h
    obtain ⟨v, vs, e, ⟨ds, e', k⟩, r⟩ := r
    exact ⟨v, vs, e, ⟨ds, e', k.any_leads h.1⟩, ResRel.any_leads h.2 r⟩
  | .own t :: rs, vs, z, F, h, r => by
    obtain ⟨v, vs, G, H, e, k, r, h3, h4⟩ := r
    exact ⟨v, vs, G, H, e, k, ResRel.any_leads (rs := rs) h r, h3, h4⟩
  | .rp t :: rs, vs, z, F, h, r => by cases h
  | .sh t :: rs, vs, z, F, h, r => by cases h
  | .ob t :: rs, vs, z, F, h, r => by
    obtain ⟨v, vs, G, H, e, k, r, h3, h4⟩ := r
    exact ⟨v, vs, G, H, e, k, ResRel.any_leads (rs := rs) h r, h3, h4⟩
theorem Past.grow {Ms : Blk} (p : Past w w' Ms) (h : ∀ q, ¬ Ms q) : Grow w w' := ⟨p.os, p.tape, p.output, p.size, fun q hq => p.block q hq (h q), p.fz⟩
theorem call_quiet [Tabs] {f : FuncId} {C : FnSpec} (hC : Sound P f C) (hT : TabOk w w.heap.size (fun _ => False)) (M : Mem h S w m B M0) {h2 : HGet} (M2 : Mem h2 S w m B M0) (hB : B ≤ w.heap.size) {d : Nat} (hfr : ∀ id, d * 16 ≤ id → id ≤ d * 16 + 15 → h2 id = none) (hv : allVal C.ps = true)
    {hp : AHeap} (hg : ∀ id o, hp.get id = some o → h id ≠ none → h id = some o) {vs : List AVal} {us : List Value} (hlen : vs.length = us.length) (hrel : ∀ (i : Nat) (a : AVal) (u : Value), vs[i]? = some a → us[i]? = some u → VRel h S w m a u)
    (hle : RK.leads C.rs = true → argIds C.ps vs = []) {x : dens (PK.tys C.ps)} (hx : takeArgs hp C.ps vs = some x) {r : dens (PK.mtys C.ps (RK.tys C.rs))} (hr : C.fn x = some r) {z : dens (RK.tys C.rs)} (hz : midV C.ps r = some z)
    (hn : (putRes (d * 16) C.rs z).2.2 ≤ d * 16 + 16) :
    Calls P f us.toArray w fun e w' => ∃ v' S' m', e = .returned v' ∧ QPost h2 S w m B M0 d (resVal (putRes (d * 16) C.rs z).1) (putRes (d * 16) C.rs z).2.1 v' w' S' m' := by
  have hargs := args_val M hv hg hx hlen hrel
  have hSl : ∀ q, Plus m h S (argIds C.ps vs) q → q < w.heap.size := fun q hq => by
    rcases hq with hq | ⟨id, _, hn, c, hc, hF⟩
    · exact M.lt q hq
    · exact (M.apart id c hn hc q hF).2.1
  refine Calls.mono (hC w us x r _ _ hT hSl hargs (fun q hq => hq.elim) hr) fun e w' k => ?_
  obtain ⟨rv, S', FM, FR, he, past, s1, s2, out, f1, f2⟩ := k
  have g : Grow w w' := past.grow fun _ h => h
  have res := out_val hv hz out
  have key : ∃ S2 : Blk, (∀ q, S q → S2 q) ∧ (∀ q, S2 q → S q ∨ (w.heap.size ≤ q ∧ q < w'.heap.size)) ∧ ResRel S2 w' C.rs rv z FR ∧ (∀ q, FR q → w.heap.size ≤ q ∧ q < w'.heap.size ∧ ¬ S2 q) := by
    cases hl : RK.leads C.rs with
    | true =>
      refine ⟨S', fun q hq => s1 q (.inl hq), fun q hq => (s2 q hq).imp (fun hp => ?_) id, res, fun q hq => ⟨(f2 q hq).1, (f2 q hq).2.1, (f2 q hq).2.2.1⟩⟩
      rcases hp with hp | ⟨id, hid, _⟩
      · exact hp
      · rw [hle hl] at hid; cases hid
    | false => exact ⟨S, fun _ h => h, fun _ h => .inl h, res.any_leads hl, fun q hq => ⟨(f2 q hq).1, (f2 q hq).2.1, fun hs => by have := M.lt q hs; have := (f2 q hq).1; omega⟩⟩
  obtain ⟨S2, t1, t2, res2, t3⟩ := key
  obtain ⟨c, no, hlen2, hval⟩ := put_res (d * 16) res2
  generalize (putRes (d * 16) C.rs z).1 = l at *
  generalize (putRes (d * 16) C.rs z).2.1 = os at *
  generalize (putRes (d * 16) C.rs z).2.2 = n at *
  have inos : ∀ id, AHeap.get os id ≠ none → d * 16 ≤ id ∧ id ≤ d * 16 + 15 := fun id hid => by have := no.ids id hid; omega
  have G := Mem.grow (m' := fun id => match AHeap.get os id with | some _ => c id | none => m id) (S' := S2) M2 g hB os (fun id hid => hfr id (inos id hid).1 (inos id hid).2)
    (fun id hid => by simp only [hid]) t1 t2
    (fun id o e => by
      obtain ⟨oc, h1, h4, h5⟩ := no.obj id o e
      exact ⟨oc, by simp only [e]; exact h1, h4 _ _ fun i o ei => ⟨by simp only [ei, Option.some_or], by simp only [ei]⟩, fun q hq => t3 q (h5 q hq)⟩)
    (fun i j a b hij hi hj ha hb q => by
      have e1 : ∀ {k : Nat} {oc : OC}, AHeap.get os k ≠ none → (match AHeap.get os k with | some _ => c k | none => m k) = some oc → c k = some oc := fun {k oc} hk ho => by
        cases e : AHeap.get os k with
        | none => exact absurd e hk
        | some _ => rw [e] at ho; exact ho
      exact no.dis i j a b hij hi hj (e1 hi ha) (e1 hj hb) q)
  refine ⟨_, S2, _, he, g, G.1, G.2, t2, ret_rel hlen2 (hval _ _ fun id o e => ⟨?_, ?_⟩), inos⟩
  · simp only [hplus, e, Option.some_or]
  · simp only [e]
end
end Go.Ab
