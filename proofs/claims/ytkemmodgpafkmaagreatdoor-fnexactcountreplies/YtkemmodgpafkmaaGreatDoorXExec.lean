/-
  A state weakened to what is kept of it: what is not kept is given up.
-/
import Derived.Test.YtkemmodgpafkmaaGreatDoorXFirst
import Derived.Test.YtkemmodgpafkmaaGreatDoorXTouch
namespace Go.Ab
open Go Go.RowKit
theorem nodupB_cons {i : Nat} {l : List Nat} (h : nodupB (i :: l) = true) : i ∉ l ∧ nodupB l = true := by
  unfold nodupB at h
  simp only [Bool.and_eq_true, Bool.not_eq_true', List.any_eq_false] at h
  exact ⟨fun hm => by have := h.1 i hm; simp at this, h.2⟩
theorem nodupB_append [Tabs] : ∀ {l r : List Nat}, nodupB (l ++ r) = true → nodupB r = true
  | [], _, h => h
  | _ :: l, _, h => nodupB_append (l := l) (nodupB_cons h).2
section
variable {P : Program} {E : Env} {h : HGet} {S : Blk} {w w0 : World} {m : OMap} {B : Nat} {M0 : Blk}
theorem takeVal_sound [Tabs] (M : Mem h S w m B M0) {hp hp' : AHeap} (hg : ∀ id o, hp.get id = some o → h id = some o) {t : Ty} {cs : List ACell} {vs : List Value} {x : t.den} (e : takeVal hp t cs = some (x, hp')) (r : CellsRel h S w m cs vs) :
    Rep (Plus m h S (osIn cs)) w t vs x ∧ hp' = (osIn cs).foldl AHeap.del hp ∧ cs.length = t.size := by
  unfold takeVal at e
  cases hb : (noSb cs && Nat.beq cs.length t.size) with
  | false => rw [hb] at e; cases e
  | true =>
    rw [hb] at e
    simp only [cond_true, Option.bind_eq_some_iff, Option.some.injEq, Prod.mk.injEq] at e
    obtain ⟨y, e1, rfl, rfl⟩ := e
    simp only [Bool.and_eq_true] at hb
    have hl := Nat.eq_of_beq_eq_true hb.2
    have := gather_rep M (fun id o h1 _ => hg id o h1) e1 r hl
    rw [noSb_ids hb.1] at this
    exact ⟨this, rfl, hl⟩
def InH (m : OMap) (hp : AHeap) : Blk := fun q => ∃ id c, hp.get id ≠ none ∧ m id = some c ∧ c.F q
def Given (m : OMap) (S : Blk) (hp : AHeap) (K V : Blk) : Prop := (∀ q, S q → V q) ∧ ∀ q, InH m hp q → ¬ K q → V q
def HasOs (os : AHeap) (c : OMap) (h' : HGet) (m' : OMap) : Prop := ∀ j p, os.get j = some p → h' j = some p ∧ m' j = c j
structure NewOs (w : World) (os : AHeap) (c : OMap) (K V : Blk) : Prop where
  obj : ∀ id o, os.get id = some o → ∃ oc, c id = some oc ∧ (∀ (h' : HGet) (m' : OMap), HasOs os c h' m' → ObjRel h' V w m' o oc) ∧ ∀ q, oc.F q → K q
  dis : ∀ i j a b, i ≠ j → os.get i ≠ none → os.get j ≠ none → c i = some a → c j = some b → ∀ q, a.F q → b.F q → False
def Claim (S : Blk) (w : World) (m : OMap) (hp os : AHeap) (I : List Nat) (vals : HGet → OMap → Blk → Prop) : Prop :=
  (∀ j, os.get j ≠ none → j ∈ I) ∧ ∃ c K, (∀ q, K q → InH m hp q) ∧ ∀ V, Given m S hp K V → NewOs w os c K V ∧ ∀ h' m', HasOs os c h' m' → vals h' m' V
theorem Claim.imp {hp os : AHeap} {I I' : List Nat} {vals vals' : HGet → OMap → Blk → Prop} (C : Claim S w m hp os I vals) (hi : ∀ j ∈ I, j ∈ I') (f : ∀ h' m' V, vals h' m' V → vals' h' m' V) : Claim S w m hp os I' vals' := by
  obtain ⟨h1, c, K, h2, h3⟩ := C
  exact ⟨fun j hj => hi j (h1 j hj), c, K, h2, fun V g => ⟨(h3 V g).1, fun h' m' hs => f h' m' V ((h3 V g).2 h' m' hs)⟩⟩
theorem claim_nil (hp : AHeap) (I : List Nat) {vals : HGet → OMap → Blk → Prop} (hv : ∀ h' m' V, vals h' m' V) : Claim S w m hp [] I vals :=
  ⟨fun j hj => absurd rfl hj, fun _ => none, fun _ => False, fun _ h => h.elim, fun V _ => ⟨⟨(fun id o e => by cases e), fun i j a b _ hi => absurd rfl hi⟩, fun h' m' _ => hv h' m' V⟩⟩
theorem claim_val [Tabs] (M : Mem h S w m B M0) {hp hp' os : AHeap} {I : List Nat} {vals : HGet → OMap → Blk → Prop} (hg : ∀ id o, hp.get id = some o → h id = some o) {t : Ty} {cs : List ACell} {vs : List Value} {x : t.den}
    (e : takeVal hp t cs = some (x, hp')) (r : CellsRel h S w m cs vs) (hin : ∀ id ∈ osIn cs, hp.get id ≠ none) (C : Claim S w m hp' os I vals) : Claim S w m hp os I (fun h' m' V => vals h' m' V ∧ Rep V w t vs x) := by
  obtain ⟨k1, rfl, _⟩ := takeVal_sound M hg e r
  obtain ⟨h1, c, K, h2, h3⟩ := C
  refine ⟨h1, c, K, fun q hq => ?_, fun V g => ?_⟩
  · obtain ⟨id, oc, i1, i2, i3⟩ := h2 q hq
    rw [dels_get] at i1
    split at i1
    · exact absurd rfl i1
    · exact ⟨id, oc, i1, i2, i3⟩
  · have g' : Given m S ((osIn cs).foldl AHeap.del hp) K V := ⟨g.1, fun q ⟨id, oc, i1, i2, i3⟩ hk => g.2 q ⟨id, oc, by rw [dels_get] at i1; split at i1 <;> first | exact absurd rfl i1 | exact i1, i2, i3⟩ hk⟩
    obtain ⟨n, v⟩ := h3 V g'
    refine ⟨n, fun h' m' hs => ⟨v h' m' hs, k1.mono (fun q hq => ?_) (fun _ _ => rfl) (Nat.le_refl _)⟩⟩
    rcases hq with hq | ⟨id, hid, hn, oc, ho, hF⟩
    · exact g.1 q hq
    · refine g.2 q ⟨id, oc, hin id hid, ho, hF⟩ fun hk => ?_
      obtain ⟨id2, oc2, i1, i2, i3⟩ := h2 q hk
      rw [dels_get] at i1
      split at i1
      · exact absurd rfl i1
      · rename_i hni
        have hne : h id2 ≠ none := by
          cases hx : hp.get id2 with
          | none => exact absurd hx i1
          | some o => rw [hg id2 o hx]; simp
        exact M.dis id id2 oc oc2 (fun e => hni (e ▸ hid)) hn hne ho i2 q hF i3
theorem win_front [Tabs] {d : Bool} {t : Ty} {xs : List t.den} {c : OC} {n : Nat} {v : Value} (hrel : ArrRel S w d t c.v xs c.F) (q : VkRel w (.arr d t xs) c (.win 0 n) v) : ∃ F', ArrRel S w d t v (xs.take n) F' ∧ ∀ q, F' q → c.F q := by
  obtain ⟨d2, t2, xs2, e3, _, h5, q4⟩ := q
  cases e3
  rcases hrel with ⟨⟨b, e4⟩, hxs, hF⟩ | ⟨g, cap, cur, te', Fs, k1, k2, k3, k4, k5, k6, k7, k8, k9⟩
  · refine ⟨fun _ => False, .inl ⟨?_, by rw [hxs]; simp, fun _ h => h⟩, fun _ h => h.elim⟩
    have hn : n = 0 := by rw [hxs] at h5; simpa using h5
    rcases q4 with ⟨b2, _, e5, _⟩ | ⟨g, cap, b2, e5, e6, _⟩
    · exact ⟨_, e5⟩
    · rw [e4] at e5
      simp only [Value.slice.injEq] at e5
      obtain ⟨_, _, rfl⟩ := e5
      rw [hn] at e6
      exact ⟨_, e6⟩
  · rcases q4 with ⟨b2, e5, e6, hxs⟩ | ⟨g2, cap2, b2, e5, e6, e7⟩
    · refine ⟨fun _ => False, .inl ⟨⟨_, e6⟩, by rw [hxs]; simp, fun _ h => h⟩, fun _ h => h.elim⟩
    · rw [k1] at e5
      simp only [Value.slice.injEq, Option.some.injEq, Addr.mk.injEq] at e5
      obtain ⟨⟨rfl, _⟩, _, rfl⟩ := e5
      rw [Nat.sub_zero, Nat.sub_zero] at e6
      rw [Nat.zero_mul] at e7
      by_cases hcap : cap = 0
      · subst hcap
        have hxs : xs = [] := List.length_eq_zero_iff.1 (by omega)
        have hn : n = 0 := by rw [hxs] at h5; simpa using h5
        rw [hn] at e6
        exact ⟨fun _ => False, .inl ⟨⟨_, e6⟩, by rw [hxs]; simp, fun _ h => h⟩, fun _ h => h.elim⟩
      · rw [e7 hcap] at e6
        obtain ⟨r3, r4⟩ := ArrRel.front (n := n) h5 k2 k3 k4 k5 k6 k7 k8 k9
        rw [e6]
        exact ⟨_, r3, r4⟩
theorem claim_own [Tabs] (M : Mem h S w m B M0) {hp hp' os : AHeap} {I : List Nat} {vals : HGet → OMap → Blk → Prop} (hg : ∀ id o, hp.get id = some o → h id = some o) {t : Ty} {d : Bool} {c0 : ACell} {v : Value} {x : List t.den} {id : Nat} (hid : id ∉ I)
    (e : takeOwn hp t d c0 = some (x, hp')) (r : CellRel h S w m c0 v) (C : Claim S w m hp' os I vals) : Claim S w m hp ((id, .arr d t x) :: os) (id :: I) (fun h' m' V => vals h' m' V ∧ CellRel h' V w m' (.os id) v) := by
  obtain ⟨h1, c, K, h2, h3⟩ := C
  have hget : ∀ j, AHeap.get ((id, AObj.arr d t x) :: os) j = if j = id then some (.arr d t x) else os.get j := fun j => by
    simp only [AHeap.get]
    cases hb : Nat.beq id j with
    | true => have := Nat.eq_of_beq_eq_true hb; subst this; simp
    | false => have : j ≠ id := fun e => by subst e; simp at hb
               simp [this]
  have hnos : os.get id = none := by
    cases hx : os.get id with
    | none => rfl
    | some o => exact absurd (h1 id (by rw [hx]; simp)) hid
  have key : ∃ F : Blk, (∀ q, F q → InH m hp q ∧ ¬ InH m hp' q) ∧ (∀ q, InH m hp' q → InH m hp q) ∧ ∀ V : Blk, (∀ q, S q → V q) → (∀ q, InH m hp q → ¬ InH m hp' q → ¬ F q → V q) → ArrRel V w d t v x F := by
    cases c0 with
    | nils =>
      simp only [takeOwn, Option.some.injEq, Prod.mk.injEq] at e
      obtain ⟨rfl, rfl⟩ := e
      obtain ⟨o, hv⟩ : ∃ o : Option Addr, v = .slice o 0 0 := r
      exact ⟨fun _ => False, fun _ h => h.elim, fun _ h => h, fun V _ _ => .inl ⟨⟨_, hv⟩, rfl, fun _ h => h⟩⟩
    | os j =>
      simp only [takeOwn] at e
      split at e
      · rename_i d' e' xs ho
        cases hb : (d' || !d) with
        | false => rw [hb] at e; cases e
        | true =>
          rw [hb] at e
          simp only [cond_true, Option.bind_eq_some_iff, Option.some.injEq, Prod.mk.injEq] at e
          obtain ⟨y, e1, rfl, rfl⟩ := e
          obtain ⟨hty, hxy⟩ := cast?_some e1
          have hty' : e' = t := by cases hty; rfl
          subst hty'
          cases hxy
          obtain ⟨_, oc, hc, hv⟩ := r
          obtain ⟨oc', hc', ho2⟩ := M.obj j _ (hg j _ ho)
          obtain rfl : oc' = oc := Option.some.inj (hc'.symm.trans hc)
          have hrel := ho2.2
          rw [← hv] at hrel
          have hjn : hp.get j ≠ none := by rw [ho]; simp
          have hin : ∀ q, oc'.F q → InH m hp q ∧ ¬ InH m (hp.del j) q := fun q hq => ⟨⟨j, oc', hjn, hc, hq⟩, fun ⟨k, ok, k1, k2, k3⟩ => by
            rw [get_del] at k1
            split at k1
            · exact absurd rfl k1
            · rename_i hkj
              have hkn : h k ≠ none := by
                cases hx : hp.get k with
                | none => exact absurd hx k1
                | some o => rw [hg k o hx]; simp
              exact M.dis k j ok oc' hkj hkn (by rw [hg j _ ho]; simp) k2 hc q k3 hq⟩
          have hout : ∀ q, InH m (hp.del j) q → InH m hp q := fun q ⟨k, ok, k1, k2, k3⟩ => ⟨k, ok, by rw [get_del] at k1; split at k1 <;> first | exact absurd rfl k1 | exact k1, k2, k3⟩
          cases d with
          | true =>
            simp only [Bool.not_true, Bool.or_false] at hb
            subst hb
            exact ⟨oc'.F, hin, hout, fun V hS _ => hrel.mono hS (fun _ _ => rfl) (fun _ _ => rfl) (Nat.le_refl _)⟩
          | false =>
            refine ⟨fun q => oc'.F q ∧ ∃ cap n g, v = .slice (some ⟨g, 0, none⟩) n cap ∧ q = g, fun q hq => hin q hq.1, hout, fun V hS hV => ?_⟩
            obtain ⟨F', f1, f2, f4, f3⟩ := hrel.shallow (S' := V) hS fun q hq hng => hV q (hin q hq).1 (hin q hq).2 fun ⟨_, cap, n, g, e1, e2⟩ => hng cap n g e1 e2
            have : F' = fun q => oc'.F q ∧ ∃ cap n g, v = .slice (some ⟨g, 0, none⟩) n cap ∧ q = g := by
              funext q
              exact propext ⟨fun hq => ⟨f1 q hq, f2 q hq⟩, fun ⟨hF, k⟩ => f4 q hF k⟩
            rw [← this]
            exact f3
      · cases e
    | vw j kk =>
      cases kk with
      | win lo n =>
        simp only [takeOwn] at e
        split at e
        · rename_i e' xs ho
          cases hb : (Nat.beq lo 0 && !d) with
          | false => rw [hb] at e; cases e
          | true =>
            rw [hb] at e
            simp only [cond_true, Option.bind_eq_some_iff, Option.some.injEq, Prod.mk.injEq] at e
            obtain ⟨y, e1, rfl, rfl⟩ := e
            simp only [Bool.and_eq_true, Bool.not_eq_true'] at hb
            obtain ⟨hlo, rfl⟩ := hb
            have := Nat.eq_of_beq_eq_true hlo
            subst this
            obtain ⟨hty, hxy⟩ := cast?_some e1
            have hty' : e' = t := by cases hty; rfl
            subst hty'
            cases hxy
            obtain ⟨o', ho', _, oc, hc, hvk⟩ := r
            rw [hg j _ ho] at ho'
            cases ho'
            obtain ⟨oc', hc', ho2⟩ := M.obj j _ (hg j _ ho)
            obtain rfl : oc' = oc := Option.some.inj (hc'.symm.trans hc)
            obtain ⟨F', hF1, hF2⟩ := win_front ho2.2 hvk
            have hjn : hp.get j ≠ none := by rw [ho]; simp
            have hin : ∀ q, oc'.F q → InH m hp q ∧ ¬ InH m (hp.del j) q := fun q hq => ⟨⟨j, oc', hjn, hc, hq⟩, fun ⟨k, ok, k1, k2, k3⟩ => by
              rw [get_del] at k1
              split at k1
              · exact absurd rfl k1
              · rename_i hkj
                have hkn : h k ≠ none := by
                  cases hx : hp.get k with
                  | none => exact absurd hx k1
                  | some o => rw [hg k o hx]; simp
                exact M.dis k j ok oc' hkj hkn (by rw [hg j _ ho]; simp) k2 hc q k3 hq⟩
            have hout : ∀ q, InH m (hp.del j) q → InH m hp q := fun q ⟨k, ok, k1, k2, k3⟩ => ⟨k, ok, by rw [get_del] at k1; split at k1 <;> first | exact absurd rfl k1 | exact k1, k2, k3⟩
            exact ⟨F', fun q hq => hin q (hF2 q hq), hout, fun V hS _ => hF1.mono hS (fun _ _ => rfl) (fun _ _ => rfl) (Nat.le_refl _)⟩
        · cases e
      | _ => cases e
    | _ => cases e
  obtain ⟨F, f1, f2, f3⟩ := key
  refine ⟨fun j hj => ?_, fun j => if j = id then some ⟨v, F, t⟩ else c j, fun q => K q ∨ F q, fun q hq => ?_, fun V g => ?_⟩
  · rw [hget] at hj
    split at hj
    · rename_i hji; subst hji; exact List.mem_cons_self
    · exact List.mem_cons_of_mem _ (h1 j hj)
  · rcases hq with hq | hq
    · exact f2 q (h2 q hq)
    · exact (f1 q hq).1
  · have g' : Given m S hp' K V := ⟨g.1, fun q hq hk => g.2 q (f2 q hq) fun hk' => hk'.elim hk fun hF => (f1 q hF).2 hq⟩
    obtain ⟨n, vl⟩ := h3 V g'
    have has : ∀ {h' m'}, HasOs ((id, AObj.arr d t x) :: os) (fun j => if j = id then some ⟨v, F, t⟩ else c j) h' m' → HasOs os c h' m' := fun {h' m'} hs j p hj => by
      have hji : j ≠ id := fun e => by subst e; rw [hnos] at hj; cases hj
      have := hs j p (by rw [hget, if_neg hji]; exact hj)
      simp only [if_neg hji] at this
      exact this
    have hobj : ArrRel V w d t v x F := f3 V g.1 fun q hq hn hF => g.2 q hq fun hk => hk.elim (fun hk => hn (h2 q hk)) hF
    refine ⟨⟨fun j o hj => ?_, fun i j a b hij hi hj ha hb q hqa hqb => ?_⟩, fun h' m' hs => ⟨vl h' m' (has hs), ?_⟩⟩
    · rw [hget] at hj
      split at hj
      · rename_i hji
        cases hj
        exact ⟨⟨v, F, t⟩, if_pos hji, fun h' m' _ => ⟨rfl, hobj⟩, fun q hq => .inr hq⟩
      · rename_i hji
        obtain ⟨oc, k1, k2, k3⟩ := n.obj j o hj
        exact ⟨oc, (if_neg hji).trans k1, fun h' m' hs => k2 h' m' (has hs), fun q hq => .inl (k3 q hq)⟩
    · rw [hget] at hi hj
      by_cases h1i : i = id
      · subst h1i
        simp only [if_true] at ha
        cases ha
        simp only [if_neg (Ne.symm hij)] at hj hb
        cases hx : os.get j with
        | none => exact absurd hx hj
        | some o =>
          obtain ⟨oc, k1, _, k3⟩ := n.obj j o hx
          obtain rfl : oc = b := Option.some.inj (k1.symm.trans hb)
          exact (f1 q hqa).2 (h2 q (k3 q hqb))
      · simp only [if_neg h1i] at hi ha
        by_cases h1j : j = id
        · subst h1j
          simp only [if_true] at hb
          cases hb
          cases hx : os.get i with
          | none => exact absurd hx hi
          | some o =>
            obtain ⟨oc, k1, _, k3⟩ := n.obj i o hx
            obtain rfl : oc = a := Option.some.inj (k1.symm.trans ha)
            exact (f1 q hqb).2 (h2 q (k3 q hqa))
        · simp only [if_neg h1j] at hj hb
          exact n.dis i j a b hij hi hj ha hb q hqa hqb
    · have := hs id _ (by rw [hget, if_pos rfl])
      simp only [if_true] at this
      exact ⟨⟨d, t, x, this.1⟩, ⟨v, F, t⟩, this.2, rfl⟩
theorem claim_src [Tabs] (M : Mem h S w m B M0) {hp hp' os : AHeap} {I : List Nat} {vals : HGet → OMap → Blk → Prop} (hg : ∀ id o, hp.get id = some o → h id = some o) {t : Ty} {n0 : Nat} {c0 : ACell} {v : Value} {x : List t.den} {id : Nat} (hid : id ∉ I)
    (e : takeSrc hp t c0 = some (n0, x, hp')) (r : CellRel h S w m c0 v) (C : Claim S w m hp' os I vals) : Claim S w m hp ((id, .src t n0 x) :: os) (id :: I) (fun h' m' V => vals h' m' V ∧ CellRel h' V w m' (.vw id .all) v) := by
  obtain ⟨h1, c, K, h2, h3⟩ := C
  have hget : ∀ j, AHeap.get ((id, AObj.src t n0 x) :: os) j = if j = id then some (.src t n0 x) else os.get j := fun j => by
    simp only [AHeap.get]
    cases hb : Nat.beq id j with
    | true => have := Nat.eq_of_beq_eq_true hb; subst this; simp
    | false => have : j ≠ id := fun e => by subst e; simp at hb
               simp [this]
  have hnos : os.get id = none := by
    cases hx : os.get id with
    | none => rfl
    | some o => exact absurd (h1 id (by rw [hx]; simp)) hid
  have key : ∃ F : Blk, (∀ q, F q → InH m hp q ∧ ¬ InH m hp' q) ∧ (∀ q, InH m hp' q → InH m hp q) ∧ ∀ V : Blk, (∀ q, S q → V q) → (∀ q, InH m hp q → ¬ InH m hp' q → ¬ F q → V q) → SrcRel w t n0 v x F := by
    have del : ∀ (j : Nat) (o : AObj) (oc : OC), hp.get j = some o → m j = some oc → (∀ q, oc.F q → InH m hp q ∧ ¬ InH m (hp.del j) q) ∧ ∀ q, InH m (hp.del j) q → InH m hp q := fun j o oc ho hc => by
      have hjn : hp.get j ≠ none := by rw [ho]; simp
      refine ⟨fun q hq => ⟨⟨j, oc, hjn, hc, hq⟩, fun ⟨k, ok, k1, k2, k3⟩ => ?_⟩, fun q ⟨k, ok, k1, k2, k3⟩ => ⟨k, ok, by rw [get_del] at k1; split at k1 <;> first | exact absurd rfl k1 | exact k1, k2, k3⟩⟩
      rw [get_del] at k1
      split at k1
      · exact absurd rfl k1
      · rename_i hkj
        have hkn : h k ≠ none := by
          cases hx : hp.get k with
          | none => exact absurd hx k1
          | some o => rw [hg k o hx]; simp
        exact M.dis k j ok oc hkj hkn (by rw [hg j _ ho]; simp) k2 hc q k3 hq
    cases c0 with
    | nils =>
      simp only [takeSrc, Option.some.injEq, Prod.mk.injEq] at e
      obtain ⟨rfl, rfl, rfl⟩ := e
      obtain ⟨o, hv⟩ : ∃ o : Option Addr, v = .slice o 0 0 := r
      exact ⟨fun _ => False, fun _ h => h.elim, fun _ h => h, fun V _ _ => .inl ⟨⟨_, hv⟩, rfl, fun _ h => h⟩⟩
    | os j =>
      simp only [takeSrc] at e
      split at e
      · rename_i e' xs ho
        simp only [Option.bind_eq_some_iff, Option.some.injEq, Prod.mk.injEq] at e
        obtain ⟨y, e1, rfl, rfl, rfl⟩ := e
        obtain ⟨hty, hxy⟩ := cast?_some e1
        have hty' : e' = t := by cases hty; rfl
        subst hty'
        cases hxy
        obtain ⟨_, oc, hc, hv⟩ := r
        obtain ⟨oc', hc', ho2⟩ := M.obj j _ (hg j _ ho)
        obtain rfl : oc' = oc := Option.some.inj (hc'.symm.trans hc)
        have hrel := ho2.2
        rw [← hv] at hrel
        obtain ⟨hin, hout⟩ := del j _ oc' ho hc
        exact ⟨oc'.F, hin, hout, fun V _ _ => SrcRel.of_arr hrel⟩
      · cases e
    | vw j kk =>
      cases kk with
      | all =>
        simp only [takeSrc] at e
        split at e
        · rename_i e' q xs ho
          simp only [Option.bind_eq_some_iff, Option.some.injEq, Prod.mk.injEq] at e
          obtain ⟨y, e1, rfl, rfl, rfl⟩ := e
          obtain ⟨hty, hxy⟩ := cast?_some e1
          have hty' : e' = t := by cases hty; rfl
          subst hty'
          cases hxy
          obtain ⟨_, _, _, oc, hc, _, hv⟩ := r
          obtain ⟨oc', hc', ho2⟩ := M.obj j _ (hg j _ ho)
          obtain rfl : oc' = oc := Option.some.inj (hc'.symm.trans hc)
          have hrel := ho2.2
          rw [← hv] at hrel
          obtain ⟨hin, hout⟩ := del j _ oc' ho hc
          exact ⟨oc'.F, hin, hout, fun V _ _ => hrel⟩
        · cases e
      | _ => cases e
    | _ => cases e
  obtain ⟨F, f1, f2, f3⟩ := key
  refine ⟨fun j hj => ?_, fun j => if j = id then some ⟨v, F, t⟩ else c j, fun q => K q ∨ F q, fun q hq => ?_, fun V g => ?_⟩
  · rw [hget] at hj
    split at hj
    · rename_i hji; subst hji; exact List.mem_cons_self
    · exact List.mem_cons_of_mem _ (h1 j hj)
  · rcases hq with hq | hq
    · exact f2 q (h2 q hq)
    · exact (f1 q hq).1
  · have g' : Given m S hp' K V := ⟨g.1, fun q hq hk => g.2 q (f2 q hq) fun hk' => hk'.elim hk fun hF => (f1 q hF).2 hq⟩
    obtain ⟨n, vl⟩ := h3 V g'
    have has : ∀ {h' m'}, HasOs ((id, AObj.src t n0 x) :: os) (fun j => if j = id then some ⟨v, F, t⟩ else c j) h' m' → HasOs os c h' m' := fun {h' m'} hs j p hj => by
      have hji : j ≠ id := fun e => by subst e; rw [hnos] at hj; cases hj
      have := hs j p (by rw [hget, if_neg hji]; exact hj)
      simp only [if_neg hji] at this
      exact this
    have hobj : SrcRel w t n0 v x F := f3 V g.1 fun q hq hn hF => g.2 q hq fun hk => hk.elim (fun hk => hn (h2 q hk)) hF
    refine ⟨⟨fun j o hj => ?_, fun i j a b hij hi hj ha hb q hqa hqb => ?_⟩, fun h' m' hs => ⟨vl h' m' (has hs), ?_⟩⟩
    · rw [hget] at hj
      split at hj
      · rename_i hji
        cases hj
        exact ⟨⟨v, F, t⟩, if_pos hji, fun h' m' _ => ⟨rfl, hobj⟩, fun q hq => .inr hq⟩
      · rename_i hji
        obtain ⟨oc, k1, k2, k3⟩ := n.obj j o hj
        exact ⟨oc, (if_neg hji).trans k1, fun h' m' hs => k2 h' m' (has hs), fun q hq => .inl (k3 q hq)⟩
    · rw [hget] at hi hj
      by_cases h1i : i = id
      · subst h1i
        simp only [if_true] at ha
        cases ha
        simp only [if_neg (Ne.symm hij)] at hj hb
        cases hx : os.get j with
        | none => exact absurd hx hj
        | some o =>
          obtain ⟨oc, k1, _, k3⟩ := n.obj j o hx
          obtain rfl : oc = b := Option.some.inj (k1.symm.trans hb)
          exact (f1 q hqa).2 (h2 q (k3 q hqb))
      · simp only [if_neg h1i] at hi ha
        by_cases h1j : j = id
        · subst h1j
          simp only [if_true] at hb
          cases hb
          cases hx : os.get i with
          | none => exact absurd hx hi
          | some o =>
            obtain ⟨oc, k1, _, k3⟩ := n.obj i o hx
            obtain rfl : oc = a := Option.some.inj (k1.symm.trans ha)
            exact (f1 q hqb).2 (h2 q (k3 q hqa))
        · simp only [if_neg h1j] at hj hb
          exact n.dis i j a b hij hi hj ha hb q hqa hqb
    · have := hs id _ (by rw [hget, if_pos rfl])
      simp only [if_true] at this
      exact ⟨_, this.1, rfl, _, this.2, ⟨_, _, _, rfl⟩, rfl⟩
theorem claim_box [Tabs] (M : Mem h S w m B M0) {hp os : AHeap} {I : List Nat} {vals : HGet → OMap → Blk → Prop} (hg : ∀ id o, hp.get id = some o → h id = some o) {j id : Nat} {cs cs' : List ACell} {b : Nat} {oc : OC} {cur : Array Value} {te : TypeId} (hid : id ∉ I)
    (ho : hp.get j = some (.box cs)) (hoc : m j = some oc) (hF : ∀ q, oc.F q ↔ q = b) (hb : w.heap[b]? = some (.cells cur te (0, 0)))
    (C : Claim S w m (hp.del j) os I (fun h' m' V => vals h' m' V ∧ CellsRel h' V w m' cs' cur.toList)) : Claim S w m hp ((id, .box cs') :: os) (id :: I) (fun h' m' V => vals h' m' V ∧ CellRel h' V w m' (.op id 0) (.pointer (some ⟨b, 0, none⟩))) := by
  obtain ⟨h1, c, K, h2, h3⟩ := C
  have hget : ∀ j, AHeap.get ((id, AObj.box cs') :: os) j = if j = id then some (.box cs') else os.get j := fun j => by
    simp only [AHeap.get]
    cases hb : Nat.beq id j with
    | true => have := Nat.eq_of_beq_eq_true hb; subst this; simp
    | false => have : j ≠ id := fun e => by subst e; simp at hb
               simp [this]
  have hnos : os.get id = none := by
    cases hx : os.get id with
    | none => rfl
    | some o => exact absurd (h1 id (by rw [hx]; simp)) hid
  have hjn : hp.get j ≠ none := by rw [ho]; simp
  have f1 : ∀ q, q = b → InH m hp q ∧ ¬ InH m (hp.del j) q := fun q hq => ⟨⟨j, oc, hjn, hoc, (hF q).2 hq⟩, fun ⟨k, ok, k1, k2, k3⟩ => by
    rw [get_del] at k1
    split at k1
    · exact absurd rfl k1
    · rename_i hkj
      have hkn : h k ≠ none := by
        cases hx : hp.get k with
        | none => exact absurd hx k1
        | some o => rw [hg k o hx]; simp
      exact M.dis k j ok oc hkj hkn (by rw [hg j _ ho]; simp) k2 hoc q k3 ((hF q).2 hq)⟩
  have f2 : ∀ q, InH m (hp.del j) q → InH m hp q := fun q ⟨k, ok, k1, k2, k3⟩ => ⟨k, ok, by rw [get_del] at k1; split at k1 <;> first | exact absurd rfl k1 | exact k1, k2, k3⟩
  refine ⟨fun j hj => ?_, fun j => if j = id then some ⟨.pointer (some ⟨b, 0, none⟩), fun q => q = b, .unit⟩ else c j, fun q => K q ∨ q = b, fun q hq => ?_, fun V g => ?_⟩
  · rw [hget] at hj
    split at hj
    · rename_i hji; subst hji; exact List.mem_cons_self
    · exact List.mem_cons_of_mem _ (h1 j hj)
  · rcases hq with hq | hq
    · exact f2 q (h2 q hq)
    · exact (f1 q hq).1
  · have g' : Given m S (hp.del j) K V := ⟨g.1, fun q hq hk => g.2 q (f2 q hq) fun hk' => hk'.elim hk fun hF => (f1 q hF).2 hq⟩
    obtain ⟨n, vl⟩ := h3 V g'
    have has : ∀ {h' m'}, HasOs ((id, AObj.box cs') :: os) (fun j => if j = id then some ⟨.pointer (some ⟨b, 0, none⟩), fun q => q = b, .unit⟩ else c j) h' m' → HasOs os c h' m' := fun {h' m'} hs j p hj => by
      have hji : j ≠ id := fun e => by subst e; rw [hnos] at hj; cases hj
      have := hs j p (by rw [hget, if_neg hji]; exact hj)
      simp only [if_neg hji] at this
      exact this
    refine ⟨⟨fun j o hj => ?_, fun i j a b hij hi hj ha hb q hqa hqb => ?_⟩, fun h' m' hs => ⟨(vl h' m' (has hs)).1, ?_⟩⟩
    · rw [hget] at hj
      split at hj
      · rename_i hji
        cases hj
        exact ⟨_, if_pos hji, fun h' m' hs => ⟨b, cur, te, rfl, hb, (vl h' m' (has hs)).2, fun q => Iff.rfl⟩, fun q hq => .inr hq⟩
      · rename_i hji
        obtain ⟨oc, k1, k2, k3⟩ := n.obj j o hj
        exact ⟨oc, (if_neg hji).trans k1, fun h' m' hs => k2 h' m' (has hs), fun q hq => .inl (k3 q hq)⟩
    · rw [hget] at hi hj
      by_cases h1i : i = id
      · subst h1i
        simp only [if_true] at ha
        cases ha
        simp only [if_neg (Ne.symm hij)] at hj hb
        cases hx : os.get j with
        | none => exact absurd hx hj
        | some o =>
          obtain ⟨oc, k1, _, k3⟩ := n.obj j o hx
          obtain rfl : oc = b := Option.some.inj (k1.symm.trans hb)
          exact (f1 q hqa).2 (h2 q (k3 q hqb))
      · simp only [if_neg h1i] at hi ha
        by_cases h1j : j = id
        · subst h1j
          simp only [if_true] at hb
          cases hb
          cases hx : os.get i with
          | none => exact absurd hx hi
          | some o =>
            obtain ⟨oc, k1, _, k3⟩ := n.obj i o hx
            obtain rfl : oc = a := Option.some.inj (k1.symm.trans ha)
            exact (f1 q hqb).2 (h2 q (k3 q hqa))
        · simp only [if_neg h1j] at hj hb
          exact n.dis i j a b hij hi hj ha hb q hqa hqb
    · have := hs id _ (by rw [hget, if_pos rfl])
      simp only [if_true] at this
      exact ⟨⟨cs', this.1⟩, _, b, this.2, rfl, rfl⟩
theorem takeVal_in [Tabs] {hp hp' : AHeap} {t : Ty} {cs : List ACell} {x : t.den} (e : takeVal hp t cs = some (x, hp')) : (∀ id ∈ osIn cs, hp.get id ≠ none) ∧ ∀ id o, hp'.get id = some o → hp.get id = some o := by
  unfold takeVal at e
  cases hb : (noSb cs && Nat.beq cs.length t.size) with
  | false => rw [hb] at e; cases e
  | true =>
    rw [hb] at e
    simp only [cond_true, Option.bind_eq_some_iff, Option.some.injEq, Prod.mk.injEq] at e
    obtain ⟨y, e1, rfl, rfl⟩ := e
    simp only [Bool.and_eq_true] at hb
    exact ⟨fun id hid => by obtain ⟨d, t', xs, h⟩ := gather_in e1 (Nat.eq_of_beq_eq_true hb.2) id hid; rw [h]; simp, fun id o h => by rw [dels_get] at h; split at h <;> first | cases h | exact h⟩
theorem takeOwn_sub [Tabs] {hp hp' : AHeap} {t : Ty} {d : Bool} {c : ACell} {x : List t.den} (e : takeOwn hp t d c = some (x, hp')) : ∀ id o, hp'.get id = some o → hp.get id = some o := by
  intro id o ho
  cases c with
  | nils => simp only [takeOwn, Option.some.injEq, Prod.mk.injEq] at e; obtain ⟨_, rfl⟩ := e; exact ho
  | os j =>
    simp only [takeOwn] at e
    split at e
    · rename_i d' e' xs h1
      cases hb : (d' || !d) with
      | false => rw [hb] at e; cases e
      | true =>
        rw [hb] at e
        simp only [cond_true, Option.bind_eq_some_iff, Option.some.injEq, Prod.mk.injEq] at e
        obtain ⟨y, _, _, rfl⟩ := e
        rw [get_del] at ho
        split at ho <;> first | cases ho | exact ho
    · cases e
  | vw j kk =>
    cases kk with
    | win lo n =>
      simp only [takeOwn] at e
      split at e
      · cases hb : (Nat.beq lo 0 && !d) with
        | false => rw [hb] at e; cases e
        | true =>
          rw [hb] at e
          simp only [cond_true, Option.bind_eq_some_iff, Option.some.injEq, Prod.mk.injEq] at e
          obtain ⟨y, _, _, rfl⟩ := e
          rw [get_del] at ho
          split at ho <;> first | cases ho | exact ho
      · cases e
    | _ => cases e
  | _ => cases e
theorem flat_cells [Tabs] {t : Ty} {vs : List Value} {x : t.den} {h' : HGet} {m' : OMap} (r : Rep S w t vs x) : CellsRel h' S w m' (flat t x) vs := flat_rel r
theorem un_cells [Tabs] (M : Mem h S w m B M0) {ts : List Ty} {k : AHeap → Option (dens ts)} {os : dens ts → AHeap} {I : List Nat} {vals : dens ts → HGet → OMap → Blk → Prop}
    (hk : ∀ hp y, (∀ id o, hp.get id = some o → h id = some o) → k hp = some y → Claim S w m hp (os y) I (vals y)) :
    ∀ {cks : List CK} {cs : List ACell} {vs : List Value} {hp : AHeap} {x : dens (CK.tys cks ts)}, (∀ id o, hp.get id = some o → h id = some o) → nodupB (CK.ids cks ++ I) = true → unCells hp cks cs k = some x → CellsRel h S w m cs vs →
      Claim S w m hp ((mkCells cks x).2.1 ++ os (mkCells cks x).2.2) (CK.ids cks ++ I) (fun h' m' V => vals (mkCells cks x).2.2 h' m' V ∧ CellsRel h' V w m' (mkCells cks x).1 vs)
  | [], [], vs, hp, x, hg, _, e, r => by
    have : vs = [] := List.eq_nil_of_length_eq_zero r.1.symm
    subst this
    exact (hk hp x hg e).imp (fun _ h => h) fun h' m' V v => ⟨v, CellsRel.nil⟩
  | [], _ :: _, _, _, _, _, _, e, _ => by cases e
  | .pv t :: cks, [], _, _, _, _, _, e, _ => by cases e
  | .own _ _ _ :: cks, [], _, _, _, _, _, e, _ => by cases e
  | .skip :: cks, [], _, _, _, _, _, e, _ => by cases e
  | .pv t :: cks, c :: cs, vs, hp, x, hg, hn, e, r => by
    simp only [unCells, Option.bind_eq_some_iff, Option.some.injEq] at e
    obtain ⟨⟨y, hp'⟩, e1, z, e2, rfl⟩ := e
    obtain ⟨v, us, rfl, hr, ho, hu⟩ := r.uncons
    obtain ⟨i1, i2⟩ := takeVal_in e1
    have ih := un_cells M hk (cks := cks) (fun id o h => hg id o (i2 id o h)) hn e2 hu
    have C := claim_val M hg e1 (CellsRel.one hr ho) i1 ih
    have e3 : mkCells (.pv t :: cks) (consD y z) = (flat t y ++ (mkCells cks z).1, (mkCells cks z).2.1, (mkCells cks z).2.2) := by
      simp only [mkCells, headD_consD, tailD_consD]
    rw [e3]
    refine C.imp (fun _ h => h) fun h' m' V v => ⟨v.1.1, ?_⟩
    exact (flat_cells v.2).append v.1.2
  | .own id t d :: cks, c :: cs, vs, hp, x, hg, hn, e, r => by
    simp only [unCells, Option.bind_eq_some_iff, Option.some.injEq] at e
    obtain ⟨⟨y, hp'⟩, e1, z, e2, rfl⟩ := e
    obtain ⟨v, us, rfl, hr, ho, hu⟩ := r.uncons
    obtain ⟨n1, n2⟩ := nodupB_cons (i := id) (l := CK.ids cks ++ I) hn
    have ih := un_cells M hk (cks := cks) (fun id o h => hg id o (takeOwn_sub e1 id o h)) n2 e2 hu
    have C := claim_own M hg n1 e1 hr ih
    have e3 : mkCells (.own id t d :: cks) (consD (t := .slice t) y z) = (.os id :: (mkCells cks z).1, (id, .arr d t y) :: (mkCells cks z).2.1, (mkCells cks z).2.2) := by
      simp only [mkCells, headD_consD, tailD_consD]
    rw [e3]
    refine C.imp (fun _ h => h) fun h' m' V k => ⟨k.1.1, ?_⟩
    exact (CellsRel.one k.2 ho).append k.1.2
  | .skip :: cks, c :: cs, vs, hp, x, hg, hn, e, r => by
    obtain ⟨v, us, rfl, hr, ho, hu⟩ := r.uncons
    have C := un_cells M hk (cks := cks) (x := x) hg hn e hu
    refine C.imp (fun _ h => h) fun h' m' V k => ⟨k.1, ?_⟩
    exact (CellsRel.one (c := .und) trivial ho).append k.2
def Vals (w : World) (tmps : Array Value) (ρ : List AVal) (h' : HGet) (m' : OMap) (V : Blk) : Prop := ∀ i, VRel h' V w m' (ρ.getD i (.one .und)) (tmps.getD i undef)
theorem Vals.set {tmps : Array Value} {ρ : List AVal} {h' : HGet} {m' : OMap} {V : Blk} (r : Vals w tmps ρ h' m' V) {i : Nat} {v : AVal} (hv : VRel h' V w m' v (tmps.getD i undef)) : Vals w tmps (ρ.set i v) h' m' V := fun j => by
  by_cases hj : i = j
  · subst hj
    by_cases hl : i < ρ.length
    · rw [List.getD_eq_getElem?_getD, List.getElem?_set_self hl]; exact hv
    · rw [List.set_eq_of_length_le (by omega)]; exact r i
  · rw [List.getD_eq_getElem?_getD, List.getElem?_set_ne hj, ← List.getD_eq_getElem?_getD]; exact r j
theorem Vals.sets [Tabs] {tmps : Array Value} {h' : HGet} {m' : OMap} {V : Blk} {v : AVal} : ∀ {al : List Nat} {ρ : List AVal}, Vals w tmps ρ h' m' V → (∀ j ∈ al, VRel h' V w m' v (tmps.getD j undef)) → Vals w tmps (al.foldl (fun ρ j => ρ.set j v) ρ) h' m' V
  | [], _, r, _ => r
  | j :: al, _, r, hv => Vals.sets (al := al) (r.set (hv j List.mem_cons_self)) fun i hi => hv i (List.mem_cons_of_mem _ hi)
theorem mkFrom_len : ∀ (L : List LItem) (x : dens (LItem.tys L)) (s : AS), (mkFrom L x s).ρ.length = s.ρ.length
  | [], _, _ => rfl
  | .tv i t :: r, x, s => by simp [mkFrom, mkFrom_len r]
  | .own i al id t d :: r, x, s => by
    have : ∀ (al : List Nat) (ρ : List AVal) (v : AVal), (al.foldl (fun ρ j => ρ.set j v) ρ).length = ρ.length := by
      intro al
      induction al with
      | nil => intro ρ v; rfl
      | cons j al ih => intro ρ v; simp [ih]
    simp [mkFrom, this, mkFrom_len r]
  | .bx i id cks :: r, x, s => by simp [mkFrom, mkFrom_len r]
  | .src i id t :: r, x, s => by simp [mkFrom, mkFrom_len r]
theorem takeSrc_sub [Tabs] {hp hp' : AHeap} {t : Ty} {n0 : Nat} {c : ACell} {x : List t.den} (e : takeSrc hp t c = some (n0, x, hp')) : ∀ id o, hp'.get id = some o → hp.get id = some o := by
  intro id o ho
  have del : ∀ j, (hp.del j).get id = some o → hp.get id = some o := fun j h => by
    rw [get_del] at h
    split at h <;> first | cases h | exact h
  cases c with
  | nils => simp only [takeSrc, Option.some.injEq, Prod.mk.injEq] at e; obtain ⟨_, _, rfl⟩ := e; exact ho
  | os j =>
    simp only [takeSrc] at e
    split at e
    · simp only [Option.bind_eq_some_iff, Option.some.injEq, Prod.mk.injEq] at e
      obtain ⟨y, _, _, _, rfl⟩ := e
      exact del j ho
    · cases e
  | vw j kk =>
    cases kk with
    | all =>
      simp only [takeSrc] at e
      split at e
      · simp only [Option.bind_eq_some_iff, Option.some.injEq, Prod.mk.injEq] at e
        obtain ⟨y, _, _, _, rfl⟩ := e
        exact del j ho
      · cases e
    | _ => cases e
  | _ => cases e
theorem un_all [Tabs] (M : Mem h S w m B M0) {ρ : List AVal} {tmps : Array Value} (hr : ∀ i, VRel h S w m (ρ.getD i (.one .und)) (tmps.getD i undef)) {s1 : AS} (hs1 : s1.h = []) :
    ∀ {L : List LItem} {hp : AHeap} {x : dens (LItem.tys L)}, (∀ id o, hp.get id = some o → h id = some o) → nodupB (LItem.ids L) = true → unL ρ L hp = some x →
      Claim S w m hp (mkFrom L x s1).h (LItem.ids L) (fun h' m' V => Vals w tmps s1.ρ h' m' V → Vals w tmps (mkFrom L x s1).ρ h' m' V)
  | [], hp, x, _, _, _ => by
    have : (mkFrom [] x s1).h = [] := hs1
    rw [this]
    exact claim_nil hp [] fun h' m' V v => v
  | .tv i t :: L, hp, x, hg, hn, e => by
    simp only [unL] at e
    cases hb : (ρ.getD i (.one .und)).fits t with
    | false => rw [hb] at e; cases e
    | true =>
      rw [hb] at e
      simp only [cond_true, Option.bind_eq_some_iff, Option.some.injEq] at e
      obtain ⟨⟨y, hp'⟩, e1, z, e2, rfl⟩ := e
      obtain ⟨f1, f2, f3⟩ := fits_spec M hb (hr i)
      obtain ⟨i1, i2⟩ := takeVal_in e1
      have ih := un_all M hr hs1 (L := L) (fun id o h => hg id o (i2 id o h)) hn e2
      have C := claim_val M hg e1 ((hr i).cells f1 M) i1 ih
      have hh : (mkFrom (.tv i t :: L) (consD y z) s1).h = (mkFrom L z s1).h := by simp only [mkFrom, tailD_consD]
      rw [hh]
      refine C.imp (fun _ h => h) fun h' m' V v v1 => ?_
      simp only [mkFrom, headD_consD, tailD_consD]
      refine (v.1 v1).set ?_
      rw [f3]
      exact ofDen_rel v.2
  | .own i al id t d :: L, hp, x, hg, hn, e => by
    simp only [unL] at e
    split at e
    · rename_i c hc
      cases hb : (!(al.all fun j => AVal.sameOne (ρ.getD j (.one .und)) c)) with
      | true => rw [hb] at e; cases e
      | false =>
        rw [hb] at e
        simp only [cond_false, Option.bind_eq_some_iff, Option.some.injEq] at e
        obtain ⟨⟨y, hp'⟩, e1, z, e2, rfl⟩ := e
        simp only [Bool.not_eq_false', List.all_eq_true] at hb
        obtain ⟨n1, n2⟩ := nodupB_cons (i := id) (l := LItem.ids L) hn
        have hri := hr i
        rw [hc] at hri
        have ih := un_all M hr hs1 (L := L) (fun id o h => hg id o (takeOwn_sub e1 id o h)) n2 e2
        have C := claim_own M hg n1 e1 hri ih
        have eq : ∀ j ∈ al, tmps.getD j undef = tmps.getD i undef := fun j hj => by
          have h1 := hb j hj
          have h2 := hr j
          cases hx : ρ.getD j (.one .und) with
          | one d =>
            rw [hx] at h1 h2
            cases d <;> cases c <;> first | cases h1 | skip
            rename_i a b
            have := Nat.eq_of_beq_eq_true h1
            subst this
            obtain ⟨_, o1, p1, p2⟩ := h2
            obtain ⟨_, o2, q1, q2⟩ := hri
            obtain rfl : o1 = o2 := Option.some.inj (p1.symm.trans q1)
            exact p2.trans q2.symm
          | _ => rw [hx] at h1; cases h1
        have hh : (mkFrom (.own i al id t d :: L) (consD (t := .slice t) y z) s1).h = (id, .arr d t y) :: (mkFrom L z s1).h := by simp only [mkFrom, headD_consD, tailD_consD]
        rw [hh]
        refine C.imp (fun _ h => h) fun h' m' V v v1 => ?_
        simp only [mkFrom, headD_consD, tailD_consD]
        refine Vals.sets ((v.1 v1).set v.2) fun j hj => ?_
        rw [eq j hj]
        exact v.2
    · cases e
  | .bx i id cks :: L, hp, x, hg, hn, e => by
    simp only [unL] at e
    split at e
    · rename_i j hc
      split at e
      · rename_i cs ho
        obtain ⟨n1, n2⟩ := nodupB_cons (i := id) (l := CK.ids cks ++ LItem.ids L) hn
        have hri := hr i
        rw [hc] at hri
        obtain ⟨_, oc, b, p1, p2, p3⟩ := hri
        obtain ⟨oc', q1, b', cur, te, q2, q3, q4, q5⟩ := M.obj j _ (hg j _ ho)
        obtain rfl : oc' = oc := Option.some.inj (q1.symm.trans p1)
        rw [p2] at q2
        simp only [Value.pointer.injEq, Option.some.injEq, Addr.mk.injEq] at q2
        obtain ⟨rfl, _⟩ := q2
        have sub : ∀ id o, (hp.del j).get id = some o → h id = some o := fun id o h1 => hg id o (by rw [get_del] at h1; split at h1 <;> first | cases h1 | exact h1)
        have C0 := un_cells M (os := fun y => (mkFrom L y s1).h) (I := LItem.ids L) (vals := fun y h' m' V => Vals w tmps s1.ρ h' m' V → Vals w tmps (mkFrom L y s1).ρ h' m' V) (fun hp' y hg' e' => un_all M hr hs1 (L := L) hg' (nodupB_append n2) e') sub n2 e q4
        have C := claim_box M hg n1 ho p1 q5 q3 C0
        refine C.imp (fun _ h => h) fun h' m' V v v1 => ?_
        simp only [mkFrom]
        refine (v.1 v1).set ?_
        rw [p3]
        exact v.2
      · cases e
    · cases e
  | .src i id t :: L, hp, x, hg, hn, e => by
    simp only [unL] at e
    split at e
    · rename_i c hc
      simp only [Option.bind_eq_some_iff, Option.some.injEq] at e
      obtain ⟨⟨n0, y, hp'⟩, e1, z, e2, rfl⟩ := e
      obtain ⟨n1, n2⟩ := nodupB_cons (i := id) (l := LItem.ids L) hn
      have hri := hr i
      rw [hc] at hri
      have ih := un_all M hr hs1 (L := L) (fun id o h => hg id o (takeSrc_sub e1 id o h)) n2 e2
      have C := claim_src M hg n1 e1 hri ih
      have hh : (mkFrom (.src i id t :: L) (consD (t := .int .i64) (n0 : Int) (consD (t := .slice t) y z)) s1).h = (id, .src t n0 y) :: (mkFrom L z s1).h := by simp only [mkFrom, headD_consD, tailD_consD, Int.toNat_natCast]
      rw [hh]
      refine C.imp (fun _ h => h) fun h' m' V v v1 => ?_
      simp only [mkFrom, headD_consD, tailD_consD]
      exact (v.1 v1).set v.2
    · cases e
end
end Go.Ab
namespace Go.Ab
open Go Go.RowKit
def toExit : AExit → Exit
  | .normal => .normal
  | .exit i => .exit i
  | .ret => .ret
section
variable {P : Program} {E : Env} {S : Blk} {w w0 : World} {m : OMap} {B : Nat} {M0 : Blk}
structure Gone [Tabs] (w0 : World) (B : Nat) (M0 S : Blk) (a : Act) (w : World) (ds : List Nat) (s' : AS) (a' : Act) (w' : World) (S' : Blk) (m' : OMap) : Prop where
  rel : Rel w0 B M0 S' m' s' a' w'
  ext : Ext B M0 S S' w w'
  keep : ∀ t, t ∉ ds → a'.tmps.getD t undef = a.tmps.getD t undef
  len : a'.tmps.size = a.tmps.size
theorem Gone.trans [Tabs] {a a' a'' : Act} {w' w'' : World} {S' S'' : Blk} {s' s'' : AS} {m' m'' : OMap} {d d' ds : List Nat} (x : Gone w0 B M0 S a w d s' a' w' S' m') (y : Gone w0 B M0 S' a' w' d' s'' a'' w'' S'' m'') (h1 : ∀ t, t ∈ d → t ∈ ds) (h2 : ∀ t, t ∈ d' → t ∈ ds) : Gone w0 B M0 S a w ds s'' a'' w'' S'' m'' :=
  ⟨y.rel, x.ext.trans y.ext, fun t ht => (y.keep t fun h => ht (h2 t h)).trans (x.keep t fun h => ht (h1 t h)), y.len.trans x.len⟩
theorem Gone.mono [Tabs] {a a' : Act} {w' : World} {S' : Blk} {s' : AS} {m' : OMap} {d ds : List Nat} (x : Gone w0 B M0 S a w d s' a' w' S' m') (h1 : ∀ t, t ∈ d → t ∈ ds) : Gone w0 B M0 S a w ds s' a' w' S' m' :=
  ⟨x.rel, x.ext, fun t ht => x.keep t fun h => ht (h1 t h), x.len⟩
theorem Gone.refl [Tabs] {s : AS} {a : Act} (R : Rel w0 B M0 S m s a w) (ds : List Nat) : Gone w0 B M0 S a w ds s a w S m := ⟨R, Ext.refl B M0 S w, fun _ _ => rfl, rfl⟩
theorem same_spec {e e' : AExit} (h : AExit.same e e' = true) : e = e' := by
  cases e <;> cases e' <;> first | rfl | cases h | exact congrArg AExit.exit (Nat.eq_of_beq_eq_true h)
theorem CellRel.noRef [Tabs] {h h' : HGet} {S' : Blk} {w' : World} {m' : OMap} (hS : ∀ q, S q → S' q) (hw : ∀ q, S q → w'.heap[q]? = w.heap[q]?) (hz : w.heap.size ≤ w'.heap.size) :
    {c : ACell} → {v : Value} → c.noRef = true → CellRel h S w m c v → CellRel h' S' w' m' c v
  | .und, _, _, _ => trivial
  | .nils, _, _, r => r
  | .pv _ _, _, _, r => ⟨r.1, r.2.mono hS hw hz⟩
  | .pc _ _, _, _, r => by
    obtain ⟨b, o, ds, h1, h2, h3, h4, h5⟩ := r
    exact ⟨b, o, ds, h1, hS b h2, Nat.lt_of_lt_of_le h3 hz, h4.mono (hw b h2), h5.mono hS hw hz⟩
  | .cl _ _, _, _, r => by
    obtain ⟨cs, e, k⟩ := r
    exact ⟨cs, e, k.mono hS hw hz⟩
  | .os _, _, h, _ => by cases h
  | .op _ _, _, h, _ => by cases h
  | .oe _ _ _, _, h, _ => by cases h
  | .sb _ _ _ _ _, _, h, _ => by cases h
  | .vw _ _, _, h, _ => by cases h
theorem VRel.noRef [Tabs] {h h' : HGet} {S' : Blk} {w' : World} {m' : OMap} (hS : ∀ q, S q → S' q) (hw : ∀ q, S q → w'.heap[q]? = w.heap[q]?) (hz : w.heap.size ≤ w'.heap.size) {v : AVal} {u : Value} (hn : v.noRef = true) (r : VRel h S w m v u) : VRel h' S' w' m' v u := by
  cases v with
  | one c => exact CellRel.noRef hS hw hz hn r
  | ag cs =>
    obtain ⟨vs, e, h1, h2, h3⟩ := r
    refine ⟨vs, e, h1, h2, fun i c v hc hv => CellRel.noRef hS hw hz ?_ (h3 i c v hc hv)⟩
    exact List.all_eq_true.1 hn c (List.mem_of_getElem? hc)
  | tu l => cases hn
theorem keepR_get (keep : List Nat) : ∀ (l : List AVal) (k i : Nat), (keepR keep k l).getD i (.one .und) = .one .und ∨ (k + i ∈ keep ∧ (l.getD i (.one .und)).noRef = true ∧ (keepR keep k l).getD i (.one .und) = l.getD i (.one .und))
  | [], _, _ => .inl rfl
  | v :: l, k, 0 => by
    simp only [keepR, List.getD_cons_zero]
    cases hb : (keep.any (Nat.beq k) && v.noRef) with
    | false => exact .inl rfl
    | true =>
      simp only [Bool.and_eq_true, List.any_eq_true] at hb
      obtain ⟨⟨j, hj, hk⟩, hn⟩ := hb
      have := Nat.eq_of_beq_eq_true hk
      subst this
      exact .inr ⟨hj, hn, rfl⟩
  | v :: l, k, i + 1 => by
    have := keepR_get keep l (k + 1) i
    simp only [keepR, List.getD_cons_succ]
    rw [show k + (i + 1) = k + 1 + i by omega]
    exact this
theorem keepR_len (keep : List Nat) : ∀ (l : List AVal) (k : Nat), (keepR keep k l).length = l.length
  | [], _ => rfl
  | _ :: l, k => by simp [keepR, keepR_len keep l]
theorem cut_sound [Tabs] {s0 : AS} {a0 : Act} {w1 : World} {S0 : Blk} {m0 : OMap} (R0 : Rel w0 B M0 S0 m0 s0 a0 w1) {ds : List Nat} {s : AS} {a : Act} (G : Gone w0 B M0 S0 a0 w1 ds s a w S m) {keep : List Nat} (hk : ∀ i ∈ keep, i ∉ ds) {L : List LItem} (hn : nodupB (LItem.ids L) = true) {x : dens (LItem.tys L)} (hx : unL s.ρ L s.h = some x) :
    ∃ S' m', Gone w0 B M0 S0 a0 w1 ds (mkL keep L s0 x) a w S' m' := by
  have M := G.rel.mem
  obtain ⟨_, c, K, hK, C⟩ := un_all M G.rel.tmps (s1 := { ρ := keepR keep 0 s0.ρ, h := [], t := s0.t + 1 }) rfl (L := L) (hp := s.h) (fun id o h => h) hn hx
  obtain ⟨n, vl⟩ := C (fun q => S q ∨ (InH m s.h q ∧ ¬ K q)) ⟨fun q h => .inl h, fun q h1 h2 => .inr ⟨h1, h2⟩⟩
  have inH : ∀ q, InH m s.h q → ¬ S q ∧ q < w.heap.size ∧ (B ≤ q ∨ M0 q) := fun q ⟨id, oc, i1, i2, i3⟩ => M.apart id oc i1 i2 q i3
  have base : Vals w a.tmps (keepR keep 0 s0.ρ) (mkL keep L s0 x).h.get c (fun q => S q ∨ (InH m s.h q ∧ ¬ K q)) := fun i => by
    rcases keepR_get keep s0.ρ 0 i with h | ⟨h1, h2, h3⟩
    · rw [h]; exact trivial
    · rw [h3]
      rw [Nat.zero_add] at h1
      rw [G.keep i (hk i h1)]
      exact (R0.tmps i).noRef (fun q hq => .inl (G.ext.sub q hq)) G.ext.stay G.ext.size h2
  have vals := vl (mkL keep L s0 x).h.get c (fun j p h => ⟨h, rfl⟩) base
  refine ⟨fun q => S q ∨ (InH m s.h q ∧ ¬ K q), c, ⟨⟨fun id o e => ?_, fun i j a b hij hi hj ha hb => ?_, fun i oc hi hc q hq => ?_, fun q hq => ?_⟩, G.rel.frm, vals, ?_, G.rel.defers⟩, ⟨fun q hq => .inl (G.ext.sub q hq), G.ext.size, G.ext.stay, fun q hq => ?_⟩, G.keep, G.len⟩
  · obtain ⟨oc, k1, k2, _⟩ := n.obj id o e
    exact ⟨oc, k1, k2 _ _ fun j p h => ⟨h, rfl⟩⟩
  · exact n.dis i j a b hij hi hj ha hb
  · cases e : (mkL keep L s0 x).h.get i with
    | none => exact absurd e hi
    | some o =>
      obtain ⟨oc', k1, _, k3⟩ := n.obj i o e
      obtain rfl : oc' = oc := Option.some.inj (k1.symm.trans hc)
      have hKq := k3 q hq
      have := inH q (hK q hKq)
      exact ⟨fun hs => hs.elim this.1 fun h => h.2 hKq, this.2⟩
  · rcases hq with hq | hq
    · exact M.lt q hq
    · exact (inH q hq.1).2.1
  · rw [G.len, R0.size]
    show s0.ρ.length = (mkFrom L x _).ρ.length
    rw [mkFrom_len]
    exact (keepR_len keep s0.ρ 0).symm
  · rcases hq with hq | hq
    · exact G.ext.news q hq
    · exact .inr (inH q hq.1).2.2
theorem out_sound [Tabs] {s0 : AS} {a0 : Act} {w1 : World} {S0 : Blk} {m0 : OMap} (R0 : Rel w0 B M0 S0 m0 s0 a0 w1) {ds : List Nat} {s : AS} {a : Act} (G : Gone w0 B M0 S0 a0 w1 ds s a w S m) {keep : List Nat} (hk : ∀ i ∈ keep, i ∉ ds) {R' : Type} {k : AExit → AS → Option R'} {r : R'} {e : AExit} :
    ∀ {l : List (AExit × List LItem)} {o : outD l}, (∀ p ∈ l, nodupB (LItem.ids p.2) = true) → toOut s e l = some o → fromOut keep s0 k l o = some r → ∃ s' S' m', k e s' = some r ∧ Gone w0 B M0 S0 a0 w1 ds s' a w S' m'
  | [], _, _, h, _ => by cases h
  | [p], o, hn, h, h2 => by
    simp only [toOut] at h
    cases hs : AExit.same e p.1 with
    | false => rw [hs] at h; cases h
    | true =>
      rw [hs] at h
      obtain ⟨S', m', G'⟩ := cut_sound R0 G hk (hn p List.mem_cons_self) h
      exact ⟨_, S', m', by rw [same_spec hs]; exact h2, G'⟩
  | p :: q :: l, o, hn, h, h2 => by
    simp only [toOut] at h
    cases hs : AExit.same e p.1 with
    | true =>
      rw [hs] at h
      simp only [cond_true, Option.bind_eq_some_iff, Option.some.injEq] at h
      obtain ⟨x, hx, rfl⟩ := h
      obtain ⟨S', m', G'⟩ := cut_sound R0 G hk (hn p List.mem_cons_self) hx
      exact ⟨_, S', m', by rw [same_spec hs]; exact h2, G'⟩
    | false =>
      rw [hs] at h
      simp only [cond_false, Option.bind_eq_some_iff, Option.some.injEq] at h
      obtain ⟨x, hx, rfl⟩ := h
      exact out_sound R0 G hk (l := q :: l) (fun p hp => hn p (List.mem_cons_of_mem _ hp)) hx h2
theorem least {p : Nat → Prop} (h : ∃ n, p n) : ∃ n, p n ∧ ∀ k, p k → n ≤ k := by
  obtain ⟨n, hn⟩ := h
  induction n using Nat.strongRecOn with
  | _ n ih =>
    by_cases hx : ∃ k, k < n ∧ p k
    · obtain ⟨k, hk, hp⟩ := hx
      exact ih k hk hp
    · exact ⟨n, hn, fun k hk => Nat.le_of_not_lt fun hl => hx ⟨k, hl, hk⟩⟩
theorem wp_loop_n [Tabs] {c : Code} {Q : Exit → Act → World → Prop} {a : Act} (J : Nat → Act → World → Prop) {n : Nat} (h0 : J n a w) (round : ∀ n a w, J n a w → c.wp P (Exit.then (fun a' w' => ∃ n', n' < n ∧ J n' a' w') Q) a w) : (Code.loop c).wp P Q a w := by
  classical
  refine wp_loop (fun a w => ∃ n, J n a w) (fun a w => if h : ∃ n, J n a w then Classical.choose (least h) else 0) ⟨n, h0⟩ fun a w h => ?_
  refine wp_mono (round _ a w (Classical.choose_spec (least h)).1) fun e a' w' q => ?_
  cases e with
  | normal =>
    obtain ⟨n', h1, h2⟩ := q
    refine ⟨⟨n', h2⟩, ?_⟩
    rw [dif_pos h, dif_pos ⟨n', h2⟩]
    exact Nat.lt_of_le_of_lt ((Classical.choose_spec (least ⟨n', h2⟩)).2 _ h2) h1
  | _ => exact q
inductive LoopN {α β : Type} (f : α → Option (α ⊕ β)) (b : β) : Nat → α → Prop
  | done {a : α} : f a = some (.inr b) → LoopN f b 0 a
  | step {n : Nat} {a a' : α} : f a = some (.inl a') → LoopN f b n a' → LoopN f b (n + 1) a
theorem LoopTo.count {α β : Type} {f : α → Option (α ⊕ β)} {a : α} {b : β} (h : LoopTo f a b) : ∃ n, LoopN f b n a := by
  induction h with
  | done h => exact ⟨0, .done h⟩
  | step h _ ih => obtain ⟨n, k⟩ := ih; exact ⟨n + 1, .step h k⟩
theorem loopE_spec {α β : Type} {f : α → Option (α ⊕ β)} {a : α} {b : β} (h : loopE f a = some b) : LoopTo f a b := by
  unfold loopE at h
  split at h
  · rename_i hx
    cases h
    exact Classical.choose_spec hx
  · cases h
theorem keepOk_spec {keep : List Nat} {c : Code} (h : keepOk keep c = true) : ∀ i ∈ keep, i ∉ dstsOf c := fun i hi hm => by
  unfold keepOk at h
  simp only [List.all_eq_true, Bool.not_eq_true', List.any_eq_false] at h
  have := h i hi i hm
  simp at this
theorem presA_rel [Tabs] {E : Env} {s : AS} {a : Act} {w : World} {S : Blk} {m : OMap} (R : Rel w0 B M0 S m s a w) (i : Nat) : ∃ S', (∀ q, S q → S' q) ∧ (∀ q, S' q → S q ∨ B ≤ q ∨ M0 q) ∧ Rel w0 B M0 S' m (presA E s i) a w := by
  unfold presA
  cases look E.pre i with
  | none => exact ⟨S, fun _ h => h, fun _ h => .inl h, R⟩
  | some l => exact R.frzAll l
theorem pres_rel [Tabs] {E : Env} {s : AS} {a : Act} {w : World} {S : Blk} {m : OMap} (R : Rel w0 B M0 S m s a w) (i : Nat) : ∃ S', (∀ q, S q → S' q) ∧ (∀ q, S' q → S q ∨ B ≤ q ∨ M0 q) ∧ Rel w0 B M0 S' m (pres E s i) a w := by
  unfold pres
  obtain ⟨S1, h1, n1, R1⟩ := presA_rel (E := E) R i
  cases look E.preb i with
  | none => exact ⟨S1, h1, n1, R1⟩
  | some l =>
    obtain ⟨S2, h2, n2, R2⟩ := Rel.frzBs l R1
    exact ⟨S2, fun q hq => h2 q (h1 q hq), fun q hq => (n2 q hq).elim (fun h => n1 q h) .inr, R2⟩
theorem mergeL_get (ds : List Nat) : ∀ (vs us : List AVal) (k i : Nat), i < vs.length → (mergeL ds k vs us).getD i (.one .und) = if k + i ∈ ds then (us.getD i (.one .und)).scalar else vs.getD i (.one .und)
  | [], _, _, _, h => absurd h (Nat.not_lt_zero _)
  | v :: vs, us, k, 0, _ => by
    simp only [mergeL, List.getD_cons_zero, Nat.add_zero]
    have e : us.headD (.one .und) = us.getD 0 (.one .und) := by cases us <;> rfl
    by_cases h : k ∈ ds
    · have : ds.any (Nat.beq k) = true := List.any_eq_true.2 ⟨k, h, by simp⟩
      rw [this, if_pos h, e]; rfl
    · have : ds.any (Nat.beq k) = false := by
        cases hb : ds.any (Nat.beq k) with
        | false => rfl
        | true =>
          obtain ⟨j, hj, e⟩ := List.any_eq_true.1 hb
          exact absurd (Nat.eq_of_beq_eq_true e ▸ hj) h
      rw [this, if_neg h]; rfl
  | v :: vs, us, k, i + 1, h => by
    simp only [mergeL, List.getD_cons_succ]
    rw [mergeL_get ds vs us.tail (k + 1) i (by simpa using h)]
    have e : us.tail.getD i (.one .und) = us.getD (i + 1) (.one .und) := by cases us <;> rfl
    rw [e, show k + 1 + i = k + (i + 1) by omega]
theorem mergeL_len (ds : List Nat) : ∀ (vs us : List AVal) (k : Nat), (mergeL ds k vs us).length = vs.length
  | [], _, _ => rfl
  | v :: vs, us, k => by simp [mergeL, mergeL_len ds vs]
theorem VRel.scalar [Tabs] {h h' : HGet} {S S' : Blk} {w : World} {m m' : OMap} {v : AVal} {u : Value} (r : VRel h S w m v u) : VRel h' S' w m' v.scalar u := by
  unfold AVal.scalar
  split
  · rename_i t x
    cases hl : t.leads with
    | true => exact trivial
    | false => exact ⟨r.1, r.2.any_leads hl⟩
  · exact trivial
theorem lend_sound [Tabs] (hE : Good P E) (hB0 : B ≤ w0.heap.size) {i : Nat} {ops : Array Oper} {d : Bool} {l : List (Nat × Ty)} {s : AS} {a : Act} {w : World} {S : Blk} {m : OMap} {R' : Type} {k : AExit → AS → Option R'} {r : R'} {Q : Exit → Act → World → Prop} (R : Rel w0 B M0 S m s a w)
    (e : aReg E (lendS s l) i ops d (fun s' => k .normal { ρ := mergeL (ops.toList.filterMap (·.dst)) 0 s.ρ s'.ρ, h := s.h, t := s.t }) = some r)
    (K : ∀ e s' a' w' S' m', k e s' = some r → Gone w0 B M0 S a w (dstsOf (.region i ops d)) s' a' w' S' m' → Q (toExit e) a' w') : (Code.region i ops d).wp P Q a w := by
  have hB : B ≤ w.heap.size := Nat.le_trans hB0 R.frm.size
  obtain ⟨S1, h1, n1, R1⟩ := Rel.frzBs l R
  have R2 : Rel w w.heap.size (fun _ => False) S1 (fun _ => none) (lendS s l) a w := by
    refine ⟨⟨fun id o e => (nomatch e), fun i j c d _ hi => absurd rfl hi, fun i c hi => absurd rfl hi, R1.mem.lt⟩, ⟨rfl, rfl, rfl, Nat.le_refl _, fun _ _ _ => rfl, fun _ _ => rfl, R.frm.tabs hB fun q hq => hq.elim⟩, fun j => ?_, by simp [lendS, R1.size], R.defers⟩
    have h := R1.tmps j
    simp only [lendS]
    rw [List.getD_eq_getElem?_getD, List.getElem?_map]
    rw [List.getD_eq_getElem?_getD] at h
    cases hv : (s.frzBs l).ρ[j]? with
    | none => exact trivial
    | some v =>
      rw [hv] at h
      simp only [Option.getD_some, Option.map_some] at h ⊢
      cases hn : v.noRef with
      | false => exact trivial
      | true => exact h.noRef (fun _ hq => hq) (fun _ _ => rfl) (Nat.le_refl _) hn
  unfold aReg at e
  refine region_sound hE (Nat.le_refl _) R2 e fun s' a' w' S' m' hk H => ?_
  have g : Grow w w' := ⟨H.rel.frm.os, H.rel.frm.tape, H.rel.frm.output, H.rel.frm.size, fun q hq => H.rel.frm.block q hq fun h => h, H.rel.frm.fz⟩
  have Gm := Mem.grow (m' := m) (S' := S) R.mem g hB [] (fun id hi => absurd rfl hi) (fun _ _ => rfl) (fun q hq => hq) (fun q hq => .inl hq) (fun id x e => by cases e) (fun i j c d hij hi => absurd rfl hi)
  have e0 : (fun i => (AHeap.get [] i).or (s.h.get i)) = s.h.get := rfl
  rw [e0] at Gm
  have hsz : a'.tmps.size = s.ρ.length := H.len.trans R.size
  refine K .normal _ a' w' S m hk ⟨⟨Gm.1, R.frm.grow hB g, fun j => ?_, by rw [mergeL_len]; exact hsz, H.rel.defers⟩, ⟨fun _ h => h, g.size, fun q hq => g.block q (R.mem.lt q hq), fun _ h => .inl h⟩, H.keep, H.len⟩
  by_cases hj : j < s.ρ.length
  · show VRel s.h.get S w' m ((mergeL _ 0 s.ρ s'.ρ).getD j (.one .und)) _
    rw [mergeL_get _ _ _ _ _ hj, Nat.zero_add]
    split
    · exact (H.rel.tmps j).scalar
    · rename_i hn
      rw [H.keep j hn]
      exact (R.tmps j).wider Gm.2 R.mem
  · have : (mergeL (ops.toList.filterMap (·.dst)) 0 s.ρ s'.ρ).getD j (.one .und) = .one .und := by
      rw [List.getD_eq_getElem?_getD, List.getElem?_eq_none (by rw [mergeL_len]; omega)]; rfl
    show VRel s.h.get S w' m ((mergeL _ 0 s.ρ s'.ρ).getD j (.one .und)) _
    rw [this]; exact trivial
theorem region_case [Tabs] (hE : Good P E) (hB0 : B ≤ w0.heap.size) {i : Nat} {ops : Array Oper} {d : Bool} {s : AS} {a : Act} {w : World} {S : Blk} {m : OMap} {R' : Type} {k : AExit → AS → Option R'} {r : R'} {Q : Exit → Act → World → Prop} (R : Rel w0 B M0 S m s a w)
    (e : aexec E (.region i ops d) s k = some r)
    (K : ∀ e s' a' w' S' m', k e s' = some r → Gone w0 B M0 S a w (dstsOf (.region i ops d)) s' a' w' S' m' → Q (toExit e) a' w') : (Code.region i ops d).wp P Q a w := by
  have e2 : (match look E.lend i with
    | some l => aReg E (lendS (pres E s i) l) i ops d fun s' => k .normal { ρ := mergeL (ops.toList.filterMap (·.dst)) 0 (pres E s i).ρ s'.ρ, h := (pres E s i).h, t := (pres E s i).t }
    | none => bif d && E.every.any (Nat.beq i) then runEv E ops ops.size (Array.replicate ops.size false) (pres E s i) (k .normal) else aReg E (pres E s i) i ops d (k .normal)) = some r := e
  clear e
  obtain ⟨S1, h1, n1, R1⟩ := pres_rel (E := E) R i
  generalize pres E s i = s1 at e2 R1
  cases hl : look E.lend i with
  | some l =>
    rw [hl] at e2
    exact lend_sound hE hB0 R1 e2 fun e s' a' w' S' m' hk G => K e s' a' w' S' m' hk ⟨G.rel, Ext.trans ⟨h1, Nat.le_refl _, fun _ _ => rfl, n1⟩ G.ext, G.keep, G.len⟩
  | none =>
    rw [hl] at e2
    simp only at e2
    cases hd : (d && E.every.any (Nat.beq i)) with
    | true =>
      rw [hd] at e2
      simp only [cond_true] at e2
      simp only [Bool.and_eq_true] at hd
      obtain ⟨rfl, _⟩ := hd
      have D0 := R1.drew (Nat.le_trans hB0 R1.frm.size)
      exact Code.wp_mono (Q := onlyN Q) (fun e a w hq => by obtain ⟨rfl, h⟩ := hq; exact h) (wp_region_any hE.mixed (wpAny_of_held _ _ _ _ (runEv_sound hE hB0 ops.size D0.rel e2 (fun s' a' w' S' m' hk H => ⟨rfl, K .normal s' a' w' S' m' hk ⟨H.rel, Ext.trans ⟨h1, Nat.le_refl _, fun _ _ => rfl, n1⟩ (D0.ext.trans H.ext), H.keep, H.len⟩⟩) (I := fun _ => True) (fun _ _ => trivial))))
    | false =>
    rw [hd] at e2
    simp only [cond_false] at e2
    unfold aReg at e2
    exact region_sound hE hB0 R1 (k := k .normal) e2 fun s' a' w' S' m' hk H => K .normal s' a' w' S' m' hk ⟨H.rel, Ext.trans ⟨h1, Nat.le_refl _, fun _ _ => rfl, n1⟩ H.ext, H.keep, H.len⟩
theorem aexec_sound [Tabs] (hE : Good P E) (hB0 : B ≤ w0.heap.size) : ∀ (c : Code) {s : AS} {a : Act} {w : World} {S : Blk} {m : OMap} {R' : Type} {k : AExit → AS → Option R'} {r : R'} {Q : Exit → Act → World → Prop}, Rel w0 B M0 S m s a w → aexec E c s k = some r →
    (∀ e s' a' w' S' m', k e s' = some r → Gone w0 B M0 S a w (dstsOf c) s' a' w' S' m' → Q (toExit e) a' w') → c.wp P Q a w
  | .skip, s, a, w, S, m, _, k, r, Q, R, e, K => wp_skip (K .normal s a w S m e (Gone.refl R _))
  | .exit i, s, a, w, S, m, _, k, r, Q, R, e, K => wp_exit (K (.exit i) s a w S m e (Gone.refl R _))
  | .ret, s, a, w, S, m, _, k, r, Q, R, e, K => wp_ret (K .ret s a w S m e (Gone.refl R _))
  | .region i ops d, s, a, w, S, m, _, k, r, Q, R, e, K => region_case hE hB0 R e K
  | .cond c x y, s, a, w, S, m, _, k, r, Q, R, e, K => by
    unfold aexec at e
    split at e
    · rename_i b hb
      have hc := ev_bool R hb
      cases b with
      | true => exact wp_cond_true hc (aexec_sound hE hB0 x R e fun e s' a' w' S' m' hk G => K e s' a' w' S' m' hk (G.mono fun t ht => by simp only [dstsOf, List.mem_append]; exact .inl ht))
      | false => exact wp_cond_false hc (aexec_sound hE hB0 y R e fun e s' a' w' S' m' hk G => K e s' a' w' S' m' hk (G.mono fun t ht => by simp only [dstsOf, List.mem_append]; exact .inr ht))
    · cases e
  | .block i c, s, a, w, S, m, _, k, r, Q, R, e, K => by
    unfold aexec at e
    refine wp_block (aexec_sound hE hB0 c R e fun e s' a' w' S' m' hk G => ?_)
    cases hs : AExit.same e (.exit i) with
    | true =>
      rw [hs] at hk
      have := same_spec hs
      subst this
      simp only [toExit, Exit.inBlock, if_true]
      exact K .normal s' a' w' S' m' hk G
    | false =>
      rw [hs] at hk
      have q := K e s' a' w' S' m' hk G
      cases e with
      | exit j =>
        have : j ≠ i := fun h => by subst h; simp [AExit.same] at hs
        simp only [toExit, Exit.inBlock, if_neg this]
        exact q
      | _ => exact q
  | .seq x y, s, a, w, S, m, _, k, r, Q, R, e, K => by
    have d1 : ∀ t, t ∈ dstsOf x → t ∈ dstsOf (.seq x y) := fun t ht => by simp only [dstsOf, List.mem_append]; exact .inl ht
    have d2 : ∀ t, t ∈ dstsOf y → t ∈ dstsOf (.seq x y) := fun t ht => by simp only [dstsOf, List.mem_append]; exact .inr ht
    have rest : ∀ {e s' a' w' S' m'}, Gone w0 B M0 S a w (dstsOf x) s' a' w' S' m' → (match e with | .normal => aexec E y s' k | e => k e s') = some r → Exit.then (y.wp P Q) Q (toExit e) a' w' := fun {e s' a' w' S' m'} G hk => by
      cases e with
      | normal => exact aexec_sound hE hB0 y G.rel hk fun e s2 a2 w2 S2 m2 hk2 G2 => K e s2 a2 w2 S2 m2 hk2 (G.trans G2 d1 d2)
      | _ => exact K _ s' a' w' S' m' hk (G.mono d1)
    unfold aexec at e
    refine wp_seq ?_
    split at e
    · exact aexec_sound hE hB0 x R e fun e s' a' w' S' m' hk G => rest G hk
    · rename_i cut hcut
      cases hok : (!(keepOk cut.keep x && cut.ok)) with
      | true => rw [hok] at e; cases e
      | false =>
        rw [hok] at e
        simp only [cond_false, Option.bind_eq_some_iff] at e
        obtain ⟨o, e1, e2⟩ := e
        simp only [Bool.not_eq_false', Bool.and_eq_true, Cut.ok, List.all_eq_true] at hok
        refine aexec_sound hE hB0 x R e1 fun e s' a' w' S' m' hk G => ?_
        obtain ⟨s2, S2, m2, hk2, G2⟩ := out_sound R G (keepOk_spec hok.1) hok.2.2 hk e2
        exact rest G2 hk2
  | .loop c, s, a, w, S, m, _, k, r, Q, R, e, K => by
    unfold aexec at e
    split at e
    · cases e
    · rename_i cut hcut
      cases hok : (!(keepOk cut.keep c && cut.ok)) with
      | true => rw [hok] at e; cases e
      | false =>
        rw [hok] at e
        simp only [cond_false, Option.bind_eq_some_iff] at e
        obtain ⟨t0, h0, o, h1, h2⟩ := e
        simp only [Bool.not_eq_false', Bool.and_eq_true, Cut.ok, List.all_eq_true] at hok
        obtain ⟨n, hn⟩ := (loopE_spec h1).count
        have hkeep := keepOk_spec hok.1
        obtain ⟨S1, m1, G1⟩ := cut_sound R (Gone.refl R (dstsOf c)) hkeep hok.2.1 h0
        refine wp_loop_n (fun n a' w' => ∃ t S' m', LoopN _ o n t ∧ Gone w0 B M0 S a w (dstsOf c) (mkL cut.keep cut.live s t) a' w' S' m') (n := n) ⟨t0, S1, m1, hn, G1⟩ fun n a1 w1 ⟨t, S1, m1, hn, G1⟩ => ?_
        cases hn with
        | done hf =>
          refine aexec_sound hE hB0 c G1.rel hf fun e s' a' w' S' m' hk G => ?_
          have G2 := G1.trans G (fun _ h => h) fun _ h => h
          cases e with
          | normal =>
            simp only [Option.bind_eq_some_iff] at hk
            obtain ⟨t', _, h⟩ := hk
            cases h
          | _ =>
            simp only [Option.bind_eq_some_iff, Option.some.injEq, Sum.inr.injEq] at hk
            obtain ⟨o', ho, rfl⟩ := hk
            obtain ⟨s2, S2, m2, hk2, G3⟩ := out_sound R G2 hkeep hok.2.2 ho h2
            exact K _ s2 a' w' S2 m2 hk2 G3
        | @step n' _ t' hf hn =>
          refine aexec_sound hE hB0 c G1.rel hf fun e s' a' w' S' m' hk G => ?_
          have G2 := G1.trans G (fun _ h => h) fun _ h => h
          cases e with
          | normal =>
            simp only [Option.bind_eq_some_iff, Option.some.injEq, Sum.inl.injEq] at hk
            obtain ⟨t2, ht, rfl⟩ := hk
            obtain ⟨S2, m2, G3⟩ := cut_sound R G2 hkeep hok.2.1 ht
            exact ⟨n', Nat.lt_succ_self _, _, S2, m2, hn, G3⟩
          | _ =>
            simp only [Option.bind_eq_some_iff] at hk
            obtain ⟨o', _, h⟩ := hk
            cases h
end
end Go.Ab
