/-
  A state weakened to what is kept of it: what is not kept is given up.
-/
import Derived.Test.YtffmiefhnbkcbaaGreatXRun
namespace Go.Ab
open Go Go.RowKit
theorem nodupB_cons {i : Nat} {l : List Nat} (h : nodupB (i :: l) = true) : i ∉ l ∧ nodupB l = true := by
  unfold nodupB at h
  simp only [Bool.and_eq_true, Bool.not_eq_true', List.any_eq_false] at h
  exact ⟨fun hm => by have := h.1 i hm; simp at this, h.2⟩
theorem nodupB_append [Tabs] : ∀ {l r : List Nat}, nodupB (l ++ r) = true → nodupB r = true
  | [], _, h => h
  | _ :: l, _, h => nodupB_append (l := l) (nodupB_cons h).2
section
variable {P : Program} {E : Env} {h : HGet} {S : Blk} {w w0 : World} {m : OMap} {B : Nat} {M0 : Blk}
theorem takeVal_sound [Tabs] (M : Mem h S w m B M0) {hp hp' : AHeap} (hg : ∀ id o, hp.get id = some o → h id = some o) {t : Ty} {cs : List ACell} {vs : List Value} {x : t.den} (e : takeVal hp t cs = some (x, hp')) (r : CellsRel h S w m cs vs) :
    Rep (Plus m h S (osIn cs)) w t vs x ∧ hp' = (osIn cs).foldl AHeap.del hp ∧ cs.length = t.size := by
  unfold takeVal at e
  cases hb : (noSb cs && Nat.beq cs.length t.size) with
  | false => rw [hb] at e; cases e
  | true =>
    rw [hb] at e
    simp only [cond_true, Option.bind_eq_some_iff, Option.some.injEq, Prod.mk.injEq] at e
    obtain ⟨y, e1, rfl, rfl⟩ := e
    simp only [Bool.and_eq_true] at hb
    have hl := Nat.eq_of_beq_eq_true hb.2
    have := gather_rep M (fun id o h1 _ => hg id o h1) e1 r hl
    rw [noSb_ids hb.1] at this
    exact ⟨this, rfl, hl⟩
def InH (m : OMap) (hp : AHeap) : Blk := fun q => ∃ id c, hp.get id ≠ none ∧ m id = some c ∧ c.F q
def Given (m : OMap) (S : Blk) (hp : AHeap) (K V : Blk) : Prop := (∀ q, S q → V q) ∧ ∀ q, InH m hp q → ¬ K q → V q
def HasOs (os : AHeap) (c : OMap) (h' : HGet) (m' : OMap) : Prop := ∀ j p, os.get j = some p → h' j = some p ∧ m' j = c j
structure NewOs (w : World) (os : AHeap) (c : OMap) (K V : Blk) : Prop where
  obj : ∀ id o, os.get id = some o → ∃ oc, c id = some oc ∧ (∀ (h' : HGet) (m' : OMap), HasOs os c h' m' → ObjRel h' V w m' o oc) ∧ ∀ q, oc.F q → K q
  dis : ∀ i j a b, i ≠ j → os.get i ≠ none → os.get j ≠ none → c i = some a → c j = some b → ∀ q, a.F q → b.F q → False
def Claim (S : Blk) (w : World) (m : OMap) (hp os : AHeap) (I : List Nat) (vals : HGet → OMap → Blk → Prop) : Prop :=
  (∀ j, os.get j ≠ none → j ∈ I) ∧ ∃ c K, (∀ q, K q → InH m hp q) ∧ ∀ V, Given m S hp K V → NewOs w os c K V ∧ ∀ h' m', HasOs os c h' m' → vals h' m' V
theorem Claim.imp {hp os : AHeap} {I I' : List Nat} {vals vals' : HGet → OMap → Blk → Prop} (C : Claim S w m hp os I vals) (hi : ∀ j ∈ I, j ∈ I') (f : ∀ h' m' V, vals h' m' V → vals' h' m' V) : Claim S w m hp os I' vals' := by
  obtain ⟨h1, c, K, h2, h3⟩ := C
  exact ⟨fun j hj => hi j (h1 j hj), c, K, h2, fun V g => ⟨(h3 V g).1, fun h' m' hs => f h' m' V ((h3 V g).2 h' m' hs)⟩⟩
theorem claim_nil (hp : AHeap) (I : List Nat) {vals : HGet → OMap → Blk → Prop} (hv : ∀ h' m' V, vals h' m' V) : Claim S w m hp [] I vals :=
  ⟨fun j hj => absurd rfl hj, fun _ => none, fun _ => False, fun _ h => h.elim, fun V _ => ⟨⟨(fun id o e => by cases e), fun i j a b _ hi => absurd rfl hi⟩, fun h' m' _ => hv h' m' V⟩⟩
theorem claim_val [Tabs] (M : Mem h S w m B M0) {hp hp' os : AHeap} {I : List Nat} {vals : HGet → OMap → Blk → Prop} (hg : ∀ id o, hp.get id = some o → h id = some o) {t : Ty} {cs : List ACell} {vs : List Value} {x : t.den}
    (e : takeVal hp t cs = some (x, hp')) (r : CellsRel h S w m cs vs) (hin : ∀ id ∈ osIn cs, hp.get id ≠ none) (C : Claim S w m hp' os I vals) : Claim S w m hp os I (fun h' m' V => vals h' m' V ∧ Rep V w t vs x) := by
  obtain ⟨k1, rfl, _⟩ := takeVal_sound M hg e r
  obtain ⟨h1, c, K, h2, h3⟩ := C
  refine ⟨h1, c, K, fun q hq => ?_, fun V g => ?_⟩
  · obtain ⟨id, oc, i1, i2, i3⟩ := h2 q hq
    rw [dels_get] at i1
    split at i1
    · exact absurd rfl i1
    · exact ⟨id, oc, i1, i2, i3⟩
  · have g' : Given m S ((osIn cs).foldl AHeap.del hp) K V := ⟨g.1, fun q ⟨id, oc, i1, i2, i3⟩ hk => g.2 q ⟨id, oc, by rw [dels_get] at i1; split at i1 <;> first | exact absurd rfl i1 | exact i1, i2, i3⟩ hk⟩
    obtain ⟨n, v⟩ := h3 V g'
    refine ⟨n, fun h' m' hs => ⟨v h' m' hs, k1.mono (fun q hq => ?_) (fun _ _ => rfl) (Nat.le_refl _)⟩⟩
    rcases hq with hq | ⟨id, hid, hn, oc, ho, hF⟩
    · exact g.1 q hq
    · refine g.2 q ⟨id, oc, hin id hid, ho, hF⟩ fun hk => ?_
      obtain ⟨id2, oc2, i1, i2, i3⟩ := h2 q hk
      rw [dels_get] at i1
      split at i1
      · exact absurd rfl i1
      · rename_i hni
        have hne : h id2 ≠ none := by
          cases hx : hp.get id2 with
          | none => exact absurd hx i1
          | some o => rw [hg id2 o hx]; simp
        exact M.dis id id2 oc oc2 (fun e => hni (e ▸ hid)) hn hne ho i2 q hF i3
theorem win_front [Tabs] {d : Bool} {t : Ty} {xs : List t.den} {c : OC} {n : Nat} {v : Value} (hrel : ArrRel S w d t c.v xs c.F) (q : VkRel w (.arr d t xs) c (.win 0 n) v) : ∃ F', ArrRel S w d t v (xs.take n) F' ∧ ∀ q, F' q → c.F q := by
  obtain ⟨d2, t2, xs2, e3, _, h5, q4⟩ := q
  cases e3
  rcases hrel with ⟨⟨b, e4⟩, hxs, hF⟩ | ⟨g, cap, cur, te', Fs, k1, k2, k3, k4, k5, k6, k7, k8, k9⟩
  · refine ⟨fun _ => False, .inl ⟨?_, by rw [hxs]; simp, fun _ h => h⟩, fun _ h => h.elim⟩
    have hn : n = 0 := by rw [hxs] at h5; simpa using h5
    rcases q4 with ⟨b2, _, e5, _⟩ | ⟨g, cap, b2, e5, e6, _⟩
    · exact ⟨_, e5⟩
    · rw [e4] at e5
      simp only [Value.slice.injEq] at e5
      obtain ⟨_, _, rfl⟩ := e5
      rw [hn] at e6
      exact ⟨_, e6⟩
  · rcases q4 with ⟨b2, e5, e6, hxs⟩ | ⟨g2, cap2, b2, e5, e6, e7⟩
    · refine ⟨fun _ => False, .inl ⟨⟨_, e6⟩, by rw [hxs]; simp, fun _ h => h⟩, fun _ h => h.elim⟩
    · rw [k1] at e5
      simp only [Value.slice.injEq, Option.some.injEq, Addr.mk.injEq] at e5
      obtain ⟨⟨rfl, _⟩, _, rfl⟩ := e5
      rw [Nat.sub_zero, Nat.sub_zero] at e6
      rw [Nat.zero_mul] at e7
      by_cases hcap : cap = 0
      · subst hcap
        have hxs : xs = [] := List.length_eq_zero_iff.1 (by omega)
        have hn : n = 0 := by rw [hxs] at h5; simpa using h5
        rw [hn] at e6
        exact ⟨fun _ => False, .inl ⟨⟨_, e6⟩, by rw [hxs]; simp, fun _ h => h⟩, fun _ h => h.elim⟩
      · rw [e7 hcap] at e6
        obtain ⟨r3, r4⟩ := ArrRel.front (n := n) h5 k2 k3 k4 k5 k6 k7 k8 k9
        rw [e6]
        exact ⟨_, r3, r4⟩
theorem claim_own [Tabs] (M : Mem h S w m B M0) {hp hp' os : AHeap} {I : List Nat} {vals : HGet → OMap → Blk → Prop} (hg : ∀ id o, hp.get id = some o → h id = some o) {t : Ty} {d : Bool} {c0 : ACell} {v : Value} {x : List t.den} {id : Nat} (hid : id ∉ I)
    (e : takeOwn hp t d c0 = some (x, hp')) (r : CellRel h S w m c0 v) (C : Claim S w m hp' os I vals) : Claim S w m hp ((id, .arr d t x) :: os) (id :: I) (fun h' m' V => vals h' m' V ∧ CellRel h' V w m' (.os id) v) := by
  obtain ⟨h1, c, K, h2, h3⟩ := C
  have hget : ∀ j, AHeap.get ((id, AObj.arr d t x) :: os) j = if j = id then some (.arr d t x) else os.get j := fun j => by
    simp only [AHeap.get]
    cases hb : Nat.beq id j with
    | true => have := Nat.eq_of_beq_eq_true hb; subst this; simp
    | false => have : j ≠ id := fun e => by subst e; simp at hb
               simp [this]
  have hnos : os.get id = none := by
    cases hx : os.get id with
    | none => rfl
    | some o => exact absurd (h1 id (by rw [hx]; simp)) hid
  have key : ∃ F : Blk, (∀ q, F q → InH m hp q ∧ ¬ InH m hp' q) ∧ (∀ q, InH m hp' q → InH m hp q) ∧ ∀ V : Blk, (∀ q, S q → V q) → (∀ q, InH m hp q → ¬ InH m hp' q → ¬ F q → V q) → ArrRel V w d t v x F := by
    cases c0 with
    | nils =>
      simp only [takeOwn, Option.some.injEq, Prod.mk.injEq] at e
      obtain ⟨rfl, rfl⟩ := e
      obtain ⟨o, hv⟩ : ∃ o : Option Addr, v = .slice o 0 0 := r
      exact ⟨fun _ => False, fun _ h => h.elim, fun _ h => h, fun V _ _ => .inl ⟨⟨_, hv⟩, rfl, fun _ h => h⟩⟩
    | os j =>
      simp only [takeOwn] at e
      split at e
      · rename_i d' e' xs ho
        cases hb : (d' || !d) with
        | false => rw [hb] at e; cases e
        | true =>
          rw [hb] at e
          simp only [cond_true, Option.bind_eq_some_iff, Option.some.injEq, Prod.mk.injEq] at e
          obtain ⟨y, e1, rfl, rfl⟩ := e
          obtain ⟨hty, hxy⟩ := cast?_some e1
          have hty' : e' = t := by cases hty; rfl
          subst hty'
          cases hxy
          obtain ⟨_, oc, hc, hv⟩ := r
          obtain ⟨oc', hc', ho2⟩ := M.obj j _ (hg j _ ho)
          obtain rfl : oc' = oc := Option.some.inj (hc'.symm.trans hc)
          have hrel := ho2.2
          rw [← hv] at hrel
          have hjn : hp.get j ≠ none := by rw [ho]; simp
          have hin : ∀ q, oc'.F q → InH m hp q ∧ ¬ InH m (hp.del j) q := fun q hq => ⟨⟨j, oc', hjn, hc, hq⟩, fun ⟨k, ok, k1, k2, k3⟩ => by
            rw [get_del] at k1
            split at k1
            · exact absurd rfl k1
            · rename_i hkj
              have hkn : h k ≠ none := by
                cases hx : hp.get k with
                | none => exact absurd hx k1
                | some o => rw [hg k o hx]; simp
              exact M.dis k j ok oc' hkj hkn (by rw [hg j _ ho]; simp) k2 hc q k3 hq⟩
          have hout : ∀ q, InH m (hp.del j) q → InH m hp q := fun q ⟨k, ok, k1, k2, k3⟩ => ⟨k, ok, by rw [get_del] at k1; split at k1 <;> first | exact absurd rfl k1 | exact k1, k2, k3⟩
          cases d with
          | true =>
            simp only [Bool.not_true, Bool.or_false] at hb
            subst hb
            exact ⟨oc'.F, hin, hout, fun V hS _ => hrel.mono hS (fun _ _ => rfl) (fun _ _ => rfl) (Nat.le_refl _)⟩
          | false =>
            refine ⟨fun q => oc'.F q ∧ ∃ cap n g, v = .slice (some ⟨g, 0, none⟩) n cap ∧ q = g, fun q hq => hin q hq.1, hout, fun V hS hV => ?_⟩
            obtain ⟨F', f1, f2, f4, f3⟩ := hrel.shallow (S' := V) hS fun q hq hng => hV q (hin q hq).1 (hin q hq).2 fun ⟨_, cap, n, g, e1, e2⟩ => hng cap n g e1 e2
            have : F' = fun q => oc'.F q ∧ ∃ cap n g, v = .slice (some ⟨g, 0, none⟩) n cap ∧ q = g := by
              funext q
              exact propext ⟨fun hq => ⟨f1 q hq, f2 q hq⟩, fun ⟨hF, k⟩ => f4 q hF k⟩
            rw [← this]
            exact f3
      · cases e
    | vw j kk =>
      cases kk with
      | win lo n =>
        simp only [takeOwn] at e
        split at e
        · rename_i e' xs ho
          cases hb : (Nat.beq lo 0 && !d) with
          | false => rw [hb] at e; cases e
          | true =>
            rw [hb] at e
            simp only [cond_true, Option.bind_eq_some_iff, Option.some.injEq, Prod.mk.injEq] at e
            obtain ⟨y, e1, rfl, rfl⟩ := e
            simp only [Bool.and_eq_true, Bool.not_eq_true'] at hb
            obtain ⟨hlo, rfl⟩ := hb
            have := Nat.eq_of_beq_eq_true hlo
            subst this
            obtain ⟨hty, hxy⟩ := cast?_some e1
            have hty' : e' = t := by cases hty; rfl
            subst hty'
            cases hxy
            obtain ⟨o', ho', _, oc, hc, hvk⟩ := r
            rw [hg j _ ho] at ho'
            cases ho'
            obtain ⟨oc', hc', ho2⟩ := M.obj j _ (hg j _ ho)
            obtain rfl : oc' = oc := Option.some.inj (hc'.symm.trans hc)
            obtain ⟨F', hF1, hF2⟩ := win_front ho2.2 hvk
            have hjn : hp.get j ≠ none := by rw [ho]; simp
            have hin : ∀ q, oc'.F q → InH m hp q ∧ ¬ InH m (hp.del j) q := fun q hq => ⟨⟨j, oc', hjn, hc, hq⟩, fun ⟨k, ok, k1, k2, k3⟩ => by
              rw [get_del] at k1
              split at k1
              · exact absurd rfl k1
              · rename_i hkj
                have hkn : h k ≠ none := by
                  cases hx : hp.get k with
                  | none => exact absurd hx k1
                  | some o => rw [hg k o hx]; simp
                exact M.dis k j ok oc' hkj hkn (by rw [hg j _ ho]; simp) k2 hc q k3 hq⟩
            have hout : ∀ q, InH m (hp.del j) q → InH m hp q := fun q ⟨k, ok, k1, k2, k3⟩ => ⟨k, ok, by rw [get_del] at k1; split at k1 <;> first | exact absurd rfl k1 | exact k1, k2, k3⟩
            exact ⟨F', fun q hq => hin q (hF2 q hq), hout, fun V hS _ => hF1.mono hS (fun _ _ => rfl) (fun _ _ => rfl) (Nat.le_refl _)⟩
        · cases e
      | _ => cases e
    | _ => cases e
  obtain ⟨F, f1, f2, f3⟩ := key
  refine ⟨fun j hj => ?_, fun j => if j = id then some ⟨v, F, t⟩ else c j, fun q => K q ∨ F q, fun q hq => ?_, fun V g => ?_⟩
  · rw [hget] at hj
    split at hj
    · rename_i hji; subst hji; exact List.mem_cons_self
    · exact List.mem_cons_of_mem _ (h1 j hj)
  · rcases hq with hq | hq
    · exact f2 q (h2 q hq)
    · exact (f1 q hq).1
  · have g' : Given m S hp' K V := ⟨g.1, fun q hq hk => g.2 q (f2 q hq) fun hk' => hk'.elim hk fun hF => (f1 q hF).2 hq⟩
    obtain ⟨n, vl⟩ := h3 V g'
    have has : ∀ {h' m'}, HasOs ((id, AObj.arr d t x) :: os) (fun j => if j = id then some ⟨v, F, t⟩ else c j) h' m' → HasOs os c h' m' := fun {h' m'} hs j p hj => by
      have hji : j ≠ id := fun e => by subst e; rw [hnos] at hj; cases hj
      have := hs j p (by rw [hget, if_neg hji]; exact hj)
      simp only [if_neg hji] at this
      exact this
    have hobj : ArrRel V w d t v x F := f3 V g.1 fun q hq hn hF => g.2 q hq fun hk => hk.elim (fun hk => hn (h2 q hk)) hF
    refine ⟨⟨fun j o hj => ?_, fun i j a b hij hi hj ha hb q hqa hqb => ?_⟩, fun h' m' hs => ⟨vl h' m' (has hs), ?_⟩⟩
    · rw [hget] at hj
      split at hj
      · rename_i hji
        cases hj
        exact ⟨⟨v, F, t⟩, if_pos hji, fun h' m' _ => ⟨rfl, hobj⟩, fun q hq => .inr hq⟩
      · rename_i hji
        obtain ⟨oc, k1, k2, k3⟩ := n.obj j o hj
        exact ⟨oc, (if_neg hji).trans k1, fun h' m' hs => k2 h' m' (has hs), fun q hq => .inl (k3 q hq)⟩
    · rw [hget] at hi hj
      by_cases h1i : i = id
      · subst h1i
        simp only [if_true] at ha
        cases ha
        simp only [if_neg (Ne.symm hij)] at hj hb
        cases hx : os.get j with
        | none => exact absurd hx hj
        | some o =>
          obtain ⟨oc, k1, _, k3⟩ := n.obj j o hx
          obtain rfl : oc = b := Option.some.inj (k1.symm.trans hb)
          exact (f1 q hqa).2 (h2 q (k3 q hqb))
      · simp only [if_neg h1i] at hi ha
        by_cases h1j : j = id
        · subst h1j
          simp only [if_true] at hb
          cases hb
          cases hx : os.get i with
          | none => exact absurd hx hi
          | some o =>
            obtain ⟨oc, k1, _, k3⟩ := n.obj i o hx
            obtain rfl : oc = a := Option.some.inj (k1.symm.trans ha)
            exact (f1 q hqb).2 (h2 q (k3 q hqa))
        · simp only [if_neg h1j] at hj hb
          exact n.dis i j a b hij hi hj ha hb q hqa hqb
    · have := hs id _ (by rw [hget, if_pos rfl])
      simp only [if_true] at this
      exact ⟨⟨d, t, x, this.1⟩, ⟨v, F, t⟩, this.2, rfl⟩
theorem claim_src [Tabs] (M : Mem h S w m B M0) {hp hp' os : AHeap} {I : List Nat} {vals : HGet → OMap → Blk → Prop} (hg : ∀ id o, hp.get id = some o → h id = some o) {t : Ty} {n0 : Nat} {c0 : ACell} {v : Value} {x : List t.den} {id : Nat} (hid : id ∉ I)
    (e : takeSrc hp t c0 = some (n0, x, hp')) (r : CellRel h S w m c0 v) (C : Claim S w m hp' os I vals) : Claim S w m hp ((id, .src t n0 x) :: os) (id :: I) (fun h' m' V => vals h' m' V ∧ CellRel h' V w m' (.vw id .all) v) := by
  obtain ⟨h1, c, K, h2, h3⟩ := C
  have hget : ∀ j, AHeap.get ((id, AObj.src t n0 x) :: os) j = if j = id then some (.src t n0 x) else os.get j := fun j => by
    simp only [AHeap.get]
    cases hb : Nat.beq id j with
    | true => have := Nat.eq_of_beq_eq_true hb; subst this; simp
    | false => have : j ≠ id := fun e => by subst e; simp at hb
               simp [this]
  have hnos : os.get id = none := by
    cases hx : os.get id with
    | none => rfl
    | some o => exact absurd (h1 id (by rw [hx]; simp)) hid
  have key : ∃ F : Blk, (∀ q, F q → InH m hp q ∧ ¬ InH m hp' q) ∧ (∀ q, InH m hp' q → InH m hp q) ∧ ∀ V : Blk, (∀ q, S q → V q) → (∀ q, InH m hp q → ¬ InH m hp' q → ¬ F q → V q) → SrcRel w t n0 v x F := by
    have del : ∀ (j : Nat) (o : AObj) (oc : OC), hp.get j = some o → m j = some oc → (∀ q, oc.F q → InH m hp q ∧ ¬ InH m (hp.del j) q) ∧ ∀ q, InH m (hp.del j) q → InH m hp q := fun j o oc ho hc => by
      have hjn : hp.get j ≠ none := by rw [ho]; simp
      refine ⟨fun q hq => ⟨⟨j, oc, hjn, hc, hq⟩, fun ⟨k, ok, k1, k2, k3⟩ => ?_⟩, fun q ⟨k, ok, k1, k2, k3⟩ => ⟨k, ok, by rw [get_del] at k1; split at k1 <;> first | exact absurd rfl k1 | exact k1, k2, k3⟩⟩
      rw [get_del] at k1
      split at k1
      · exact absurd rfl k1
      · rename_i hkj
        have hkn : h k ≠ none := by
          cases hx : hp.get k with
          | none => exact absurd hx k1
          | some o => rw [hg k o hx]; simp
        exact M.dis k j ok oc hkj hkn (by rw [hg j _ ho]; simp) k2 hc q k3 hq
    cases c0 with
    | nils =>
      simp only [takeSrc, Option.some.injEq, Prod.mk.injEq] at e
      obtain ⟨rfl, rfl, rfl⟩ := e
      obtain ⟨o, hv⟩ : ∃ o : Option Addr, v = .slice o 0 0 := r
      exact ⟨fun _ => False, fun _ h => h.elim, fun _ h => h, fun V _ _ => .inl ⟨⟨_, hv⟩, rfl, fun _ h => h⟩⟩
    | os j =>
      simp only [takeSrc] at e
      split at e
      · rename_i e' xs ho
        simp only [Option.bind_eq_some_iff, Option.some.injEq, Prod.mk.injEq] at e
        obtain ⟨y, e1, rfl, rfl, rfl⟩ := e
        obtain ⟨hty, hxy⟩ := cast?_some e1
        have hty' : e' = t := by cases hty; rfl
        subst hty'
        cases hxy
        obtain ⟨_, oc, hc, hv⟩ := r
        obtain ⟨oc', hc', ho2⟩ := M.obj j _ (hg j _ ho)
        obtain rfl : oc' = oc := Option.some.inj (hc'.symm.trans hc)
        have hrel := ho2.2
        rw [← hv] at hrel
        obtain ⟨hin, hout⟩ := del j _ oc' ho hc
        exact ⟨oc'.F, hin, hout, fun V _ _ => SrcRel.of_arr hrel⟩
      · cases e
    | vw j kk =>
      cases kk with
      | all =>
        simp only [takeSrc] at e
        split at e
        · rename_i e' q xs ho
          simp only [Option.bind_eq_some_iff, Option.some.injEq, Prod.mk.injEq] at e
          obtain ⟨y, e1, rfl, rfl, rfl⟩ := e
          obtain ⟨hty, hxy⟩ := cast?_some e1
          have hty' : e' = t := by cases hty; rfl
          subst hty'
          cases hxy
          obtain ⟨_, _, _, oc, hc, _, hv⟩ := r
          obtain ⟨oc', hc', ho2⟩ := M.obj j _ (hg j _ ho)
          obtain rfl : oc' = oc := Option.some.inj (hc'.symm.trans hc)
          have hrel := ho2.2
          rw [← hv] at hrel
          obtain ⟨hin, hout⟩ := del j _ oc' ho hc
          exact ⟨oc'.F, hin, hout, fun V _ _ => hrel⟩
        · cases e
      | _ => cases e
    | _ => cases e
  obtain ⟨F, f1, f2, f3⟩ := key
  refine ⟨fun j hj => ?_, fun j => if j = id then some ⟨v, F, t⟩ else c j, fun q => K q ∨ F q, fun q hq => ?_, fun V g => ?_⟩
  · rw [hget] at hj
    split at hj
    · rename_i hji; subst hji; exact List.mem_cons_self
    · exact List.mem_cons_of_mem _ (h1 j hj)
  · rcases hq with hq | hq
    · exact f2 q (h2 q hq)
    · exact (f1 q hq).1
  · have g' : Given m S hp' K V := ⟨g.1, fun q hq hk => g.2 q (f2 q hq) fun hk' => hk'.elim hk fun hF => (f1 q hF).2 hq⟩
    obtain ⟨n, vl⟩ := h3 V g'
    have has : ∀ {h' m'}, HasOs ((id, AObj.src t n0 x) :: os) (fun j => if j = id then some ⟨v, F, t⟩ else c j) h' m' → HasOs os c h' m' := fun {h' m'} hs j p hj => by
      have hji : j ≠ id := fun e => by subst e; rw [hnos] at hj; cases hj
      have := hs j p (by rw [hget, if_neg hji]; exact hj)
      simp only [if_neg hji] at this
      exact this
    have hobj : SrcRel w t n0 v x F := f3 V g.1 fun q hq hn hF => g.2 q hq fun hk => hk.elim (fun hk => hn (h2 q hk)) hF
    refine ⟨⟨fun j o hj => ?_, fun i j a b hij hi hj ha hb q hqa hqb => ?_⟩, fun h' m' hs => ⟨vl h' m' (has hs), ?_⟩⟩
    · rw [hget] at hj
      split at hj
      · rename_i hji
        cases hj
        exact ⟨⟨v, F, t⟩, if_pos hji, fun h' m' _ => ⟨rfl, hobj⟩, fun q hq => .inr hq⟩
      · rename_i hji
        obtain ⟨oc, k1, k2, k3⟩ := n.obj j o hj
        exact ⟨oc, (if_neg hji).trans k1, fun h' m' hs => k2 h' m' (has hs), fun q hq => .inl (k3 q hq)⟩
    · rw [hget] at hi hj
      by_cases h1i : i = id
      · subst h1i
        simp only [if_true] at ha
        cases ha
        simp only [if_neg (Ne.symm hij)] at hj hb
        cases hx : os.get j with
        | none => exact absurd hx hj
        | some o =>
          obtain ⟨oc, k1, _, k3⟩ := n.obj j o hx
          obtain rfl : oc = b := Option.some.inj (k1.symm.trans hb)
          exact (f1 q hqa).2 (h2 q (k3 q hqb))
      · simp only [if_neg h1i] at hi ha
        by_cases h1j : j = id
        · subst h1j
          simp only [if_true] at hb
          cases hb
          cases hx : os.get i with
          | none => exact absurd hx hi
          | some o =>
            obtain ⟨oc, k1, _, k3⟩ := n.obj i o hx
            obtain rfl : oc = a := Option.some.inj (k1.symm.trans ha)
            exact (f1 q hqb).2 (h2 q (k3 q hqa))
        · simp only [if_neg h1j] at hj hb
          exact n.dis i j a b hij hi hj ha hb q hqa hqb
    · have := hs id _ (by rw [hget, if_pos rfl])
      simp only [if_true] at this
      exact ⟨_, this.1, rfl, _, this.2, ⟨_, _, _, rfl⟩, rfl⟩
theorem claim_box [Tabs] (M : Mem h S w m B M0) {hp os : AHeap} {I : List Nat} {vals : HGet → OMap → Blk → Prop} (hg : ∀ id o, hp.get id = some o → h id = some o) {j id : Nat} {cs cs' : List ACell} {b : Nat} {oc : OC} {cur : Array Value} {te : TypeId} (hid : id ∉ I)
    (ho : hp.get j = some (.box cs)) (hoc : m j = some oc) (hF : ∀ q, oc.F q ↔ q = b) (hb : w.heap[b]? = some (.cells cur te (0, 0)))
    (C : Claim S w m (hp.del j) os I (fun h' m' V => vals h' m' V ∧ CellsRel h' V w m' cs' cur.toList)) : Claim S w m hp ((id, .box cs') :: os) (id :: I) (fun h' m' V => vals h' m' V ∧ CellRel h' V w m' (.op id 0) (.pointer (some ⟨b, 0, none⟩))) := by
  obtain ⟨h1, c, K, h2, h3⟩ := C
  have hget : ∀ j, AHeap.get ((id, AObj.box cs') :: os) j = if j = id then some (.box cs') else os.get j := fun j => by
    simp only [AHeap.get]
    cases hb : Nat.beq id j with
    | true => have := Nat.eq_of_beq_eq_true hb; subst this; simp
    | false => have : j ≠ id := fun e => by subst e; simp at hb
               simp [this]
  have hnos : os.get id = none := by
    cases hx : os.get id with
    | none => rfl
    | some o => exact absurd (h1 id (by rw [hx]; simp)) hid
  have hjn : hp.get j ≠ none := by rw [ho]; simp
  have f1 : ∀ q, q = b → InH m hp q ∧ ¬ InH m (hp.del j) q := fun q hq => ⟨⟨j, oc, hjn, hoc, (hF q).2 hq⟩, fun ⟨k, ok, k1, k2, k3⟩ => by
    rw [get_del] at k1
    split at k1
    · exact absurd rfl k1
    · rename_i hkj
      have hkn : h k ≠ none := by
        cases hx : hp.get k with
        | none => exact absurd hx k1
        | some o => rw [hg k o hx]; simp
      exact M.dis k j ok oc hkj hkn (by rw [hg j _ ho]; simp) k2 hoc q k3 ((hF q).2 hq)⟩
  have f2 : ∀ q, InH m (hp.del j) q → InH m hp q := fun q ⟨k, ok, k1, k2, k3⟩ => ⟨k, ok, by rw [get_del] at k1; split at k1 <;> first | exact absurd rfl k1 | exact k1, k2, k3⟩
  refine ⟨fun j hj => ?_, fun j => if j = id then some ⟨.pointer (some ⟨b, 0, none⟩), fun q => q = b, .unit⟩ else c j, fun q => K q ∨ q = b, fun q hq => ?_, fun V g => ?_⟩
  · rw [hget] at hj
    split at hj
    · rename_i hji; subst hji; exact List.mem_cons_self
    · exact List.mem_cons_of_mem _ (h1 j hj)
  · rcases hq with hq | hq
    · exact f2 q (h2 q hq)
    · exact (f1 q hq).1
  · have g' : Given m S (hp.del j) K V := ⟨g.1, fun q hq hk => g.2 q (f2 q hq) fun hk' => hk'.elim hk fun hF => (f1 q hF).2 hq⟩
    obtain ⟨n, vl⟩ := h3 V g'
    have has : ∀ {h' m'}, HasOs ((id, AObj.box cs') :: os) (fun j => if j = id then some ⟨.pointer (some ⟨b, 0, none⟩), fun q => q = b, .unit⟩ else c j) h' m' → HasOs os c h' m' := fun {h' m'} hs j p hj => by
      have hji : j ≠ id := fun e => by subst e; rw [hnos] at hj; cases hj
      have := hs j p (by rw [hget, if_neg hji]; exact hj)
      simp only [if_neg hji] at this
      exact this
    refine ⟨⟨fun j o hj => ?_, fun i j a b hij hi hj ha hb q hqa hqb => ?_⟩, fun h' m' hs => ⟨(vl h' m' (has hs)).1, ?_⟩⟩
    · rw [hget] at hj
      split at hj
      · rename_i hji
        cases hj
        exact ⟨_, if_pos hji, fun h' m' hs => ⟨b, cur, te, rfl, hb, (vl h' m' (has hs)).2, fun q => Iff.rfl⟩, fun q hq => .inr hq⟩
      · rename_i hji
        obtain ⟨oc, k1, k2, k3⟩ := n.obj j o hj
        exact ⟨oc, (if_neg hji).trans k1, fun h' m' hs => k2 h' m' (has hs), fun q hq => .inl (k3 q hq)⟩
    · rw [hget] at hi hj
      by_cases h1i : i = id
      · subst h1i
        simp only [if_true] at ha
        cases ha
        simp only [if_neg (Ne.symm hij)] at hj hb
        cases hx : os.get j with
        | none => exact absurd hx hj
        | some o =>
          obtain ⟨oc, k1, _, k3⟩ := n.obj j o hx
          obtain rfl : oc = b := Option.some.inj (k1.symm.trans hb)
          exact (f1 q hqa).2 (h2 q (k3 q hqb))
      · simp only [if_neg h1i] at hi ha
        by_cases h1j : j = id
        · subst h1j
          simp only [if_true] at hb
          cases hb
          cases hx : os.get i with
          | none => exact absurd hx hi
          | some o =>
            obtain ⟨oc, k1, _, k3⟩ := n.obj i o hx
            obtain rfl : oc = a := Option.some.inj (k1.symm.trans ha)
            exact (f1 q hqb).2 (h2 q (k3 q hqa))
        · simp only [if_neg h1j] at hj hb
          exact n.dis i j a b hij hi hj ha hb q hqa hqb
    · have := hs id _ (by rw [hget, if_pos rfl])
      simp only [if_true] at this
      exact ⟨⟨cs', this.1⟩, _, b, this.2, rfl, rfl⟩
theorem takeVal_in [Tabs] {hp hp' : AHeap} {t : Ty} {cs : List ACell} {x : t.den} (e : takeVal hp t cs = some (x, hp')) : (∀ id ∈ osIn cs, hp.get id ≠ none) ∧ ∀ id o, hp'.get id = some o → hp.get id = some o := by
  unfold takeVal at e
  cases hb : (noSb cs && Nat.beq cs.length t.size) with
  | false => rw [hb] at e; cases e
  | true =>
    rw [hb] at e
    simp only [cond_true, Option.bind_eq_some_iff, Option.some.injEq, Prod.mk.injEq] at e
    obtain ⟨y, e1, rfl, rfl⟩ := e
    simp only [Bool.and_eq_true] at hb
    exact ⟨fun id hid => by obtain ⟨d, t', xs, h⟩ := gather_in e1 (Nat.eq_of_beq_eq_true hb.2) id hid; rw [h]; simp, fun id o h => by rw [dels_get] at h; split at h <;> first | cases h | exact h⟩
theorem takeOwn_sub [Tabs] {hp hp' : AHeap} {t : Ty} {d : Bool} {c : ACell} {x : List t.den} (e : takeOwn hp t d c = some (x, hp')) : ∀ id o, hp'.get id = some o → hp.get id = some o := by
  intro id o ho
  cases c with
  | nils => simp only [takeOwn, Option.some.injEq, Prod.mk.injEq] at e; obtain ⟨_, rfl⟩ := e; exact ho
  | os j =>
    simp only [takeOwn] at e
    split at e
    · rename_i d' e' xs h1
      cases hb : (d' || !d) with
      | false => rw [hb] at e; cases e
      | true =>
        rw [hb] at e
        simp only [cond_true, Option.bind_eq_some_iff, Option.some.injEq, Prod.mk.injEq] at e
        obtain ⟨y, _, _, rfl⟩ := e
        rw [get_del] at ho
        split at ho <;> first | cases ho | exact ho
    · cases e
  | vw j kk =>
    cases kk with
    | win lo n =>
      simp only [takeOwn] at e
      split at e
      · cases hb : (Nat.beq lo 0 && !d) with
        | false => rw [hb] at e; cases e
        | true =>
          rw [hb] at e
          simp only [cond_true, Option.bind_eq_some_iff, Option.some.injEq, Prod.mk.injEq] at e
          obtain ⟨y, _, _, rfl⟩ := e
          rw [get_del] at ho
          split at ho <;> first | cases ho | exact ho
      · cases e
    | _ => cases e
  | _ => cases e
theorem flat_cells [Tabs] {t : Ty} {vs : List Value} {x : t.den} {h' : HGet} {m' : OMap} (r : Rep S w t vs x) : CellsRel h' S w m' (flat t x) vs := flat_rel r
theorem un_cells [Tabs] (M : Mem h S w m B M0) {ts : List Ty} {k : AHeap → Option (dens ts)} {os : dens ts → AHeap} {I : List Nat} {vals : dens ts → HGet → OMap → Blk → Prop}
    (hk : ∀ hp y, (∀ id o, hp.get id = some o → h id = some o) → k hp = some y → Claim S w m hp (os y) I (vals y)) :
    ∀ {cks : List CK} {cs : List ACell} {vs : List Value} {hp : AHeap} {x : dens (CK.tys cks ts)}, (∀ id o, hp.get id = some o → h id = some o) → nodupB (CK.ids cks ++ I) = true → unCells hp cks cs k = some x → CellsRel h S w m cs vs →
      Claim S w m hp ((mkCells cks x).2.1 ++ os (mkCells cks x).2.2) (CK.ids cks ++ I) (fun h' m' V => vals (mkCells cks x).2.2 h' m' V ∧ CellsRel h' V w m' (mkCells cks x).1 vs)
  | [], [], vs, hp, x, hg, _, e, r => by
    have : vs = [] := List.eq_nil_of_length_eq_zero r.1.symm
    subst this
    exact (hk hp x hg e).imp (fun _ h => h) fun h' m' V v => ⟨v, CellsRel.nil⟩
  | [], _ :: _, _, _, _, _, _, e, _ => by cases e
  | .pv t :: cks, [], _, _, _, _, _, e, _ => by cases e
  | .own _ _ _ :: cks, [], _, _, _, _, _, e, _ => by cases e
  | .skip :: cks, [], _, _, _, _, _, e, _ => by cases e
  | .pv t :: cks, c :: cs, vs, hp, x, hg, hn, e, r => by
    simp only [unCells, Option.bind_eq_some_iff, Option.some.injEq] at e
    obtain ⟨⟨y, hp'⟩, e1, z, e2, rfl⟩ := e
    obtain ⟨v, us, rfl, hr, ho, hu⟩ := r.uncons
    obtain ⟨i1, i2⟩ := takeVal_in e1
    have ih := un_cells M hk (cks := cks) (fun id o h => hg id o (i2 id o h)) hn e2 hu
    have C := claim_val M hg e1 (CellsRel.one hr ho) i1 ih
    have e3 : mkCells (.pv t :: cks) (consD y z) = (flat t y ++ (mkCells cks z).1, (mkCells cks z).2.1, (mkCells cks z).2.2) := by
      simp only [mkCells, headD_consD, tailD_consD]
    rw [e3]
    refine C.imp (fun _ h => h) fun h' m' V v => ⟨v.1.1, ?_⟩
    exact (flat_cells v.2).append v.1.2
  | .own id t d :: cks, c :: cs, vs, hp, x, hg, hn, e, r => by
    simp only [unCells, Option.bind_eq_some_iff, Option.some.injEq] at e
    obtain ⟨⟨y, hp'⟩, e1, z, e2, rfl⟩ := e
    obtain ⟨v, us, rfl, hr, ho, hu⟩ := r.uncons
    obtain ⟨n1, n2⟩ := nodupB_cons (i := id) (l := CK.ids cks ++ I) hn
    have ih := un_cells M hk (cks := cks) (fun id o h => hg id o (takeOwn_sub e1 id o h)) n2 e2 hu
    have C := claim_own M hg n1 e1 hr ih
    have e3 : mkCells (.own id t d :: cks) (consD (t := .slice t) y z) = (.os id :: (mkCells cks z).1, (id, .arr d t y) :: (mkCells cks z).2.1, (mkCells cks z).2.2) := by
      simp only [mkCells, headD_consD, tailD_consD]
    rw [e3]
    refine C.imp (fun _ h => h) fun h' m' V k => ⟨k.1.1, ?_⟩
    exact (CellsRel.one k.2 ho).append k.1.2
  | .skip :: cks, c :: cs, vs, hp, x, hg, hn, e, r => by
    obtain ⟨v, us, rfl, hr, ho, hu⟩ := r.uncons
    have C := un_cells M hk (cks := cks) (x := x) hg hn e hu
    refine C.imp (fun _ h => h) fun h' m' V k => ⟨k.1, ?_⟩
    exact (CellsRel.one (c := .und) trivial ho).append k.2
def Vals (w : World) (tmps : Array Value) (ρ : List AVal) (h' : HGet) (m' : OMap) (V : Blk) : Prop := ∀ i, VRel h' V w m' (ρ.getD i (.one .und)) (tmps.getD i undef)
theorem Vals.set {tmps : Array Value} {ρ : List AVal} {h' : HGet} {m' : OMap} {V : Blk} (r : Vals w tmps ρ h' m' V) {i : Nat} {v : AVal} (hv : VRel h' V w m' v (tmps.getD i undef)) : Vals w tmps (ρ.set i v) h' m' V := fun j => by
  by_cases hj : i = j
  · subst hj
    by_cases hl : i < ρ.length
    · rw [List.getD_eq_getElem?_getD, List.getElem?_set_self hl]; exact hv
    · rw [List.set_eq_of_length_le (by omega)]; exact r i
  · rw [List.getD_eq_getElem?_getD, List.getElem?_set_ne hj, ← List.getD_eq_getElem?_getD]; exact r j
theorem Vals.sets [Tabs] {tmps : Array Value} {h' : HGet} {m' : OMap} {V : Blk} {v : AVal} : ∀ {al : List Nat} {ρ : List AVal}, Vals w tmps ρ h' m' V → (∀ j ∈ al, VRel h' V w m' v (tmps.getD j undef)) → Vals w tmps (al.foldl (fun ρ j => ρ.set j v) ρ) h' m' V
  | [], _, r, _ => r
  | j :: al, _, r, hv => Vals.sets (al := al) (r.set (hv j List.mem_cons_self)) fun i hi => hv i (List.mem_cons_of_mem _ hi)
theorem mkFrom_len : ∀ (L : List LItem) (x : dens (LItem.tys L)) (s : AS), (mkFrom L x s).ρ.length = s.ρ.length
  | [], _, _ => rfl
  | .tv i t :: r, x, s => by simp [mkFrom, mkFrom_len r]
  | .own i al id t d :: r, x, s => by
    have : ∀ (al : List Nat) (ρ : List AVal) (v : AVal), (al.foldl (fun ρ j => ρ.set j v) ρ).length = ρ.length := by
      intro al
      induction al with
      | nil => intro ρ v; rfl
      | cons j al ih => intro ρ v; simp [ih]
    simp [mkFrom, this, mkFrom_len r]
  | .bx i id cks :: r, x, s => by simp [mkFrom, mkFrom_len r]
  | .src i id t :: r, x, s => by simp [mkFrom, mkFrom_len r]
theorem takeSrc_sub [Tabs] {hp hp' : AHeap} {t : Ty} {n0 : Nat} {c : ACell} {x : List t.den} (e : takeSrc hp t c = some (n0, x, hp')) : ∀ id o, hp'.get id = some o → hp.get id = some o := by
  intro id o ho
  have del : ∀ j, (hp.del j).get id = some o → hp.get id = some o := fun j h => by
    rw [get_del] at h
    split at h <;> first | cases h | exact h
  cases c with
  | nils => simp only [takeSrc, Option.some.injEq, Prod.mk.injEq] at e; obtain ⟨_, _, rfl⟩ := e; exact ho
  | os j =>
    simp only [takeSrc] at e
    split at e
    · simp only [Option.bind_eq_some_iff, Option.some.injEq, Prod.mk.injEq] at e
      obtain ⟨y, _, _, _, rfl⟩ := e
      exact del j ho
    · cases e
  | vw j kk =>
    cases kk with
    | all =>
      simp only [takeSrc] at e
      split at e
      · simp only [Option.bind_eq_some_iff, Option.some.injEq, Prod.mk.injEq] at e
        obtain ⟨y, _, _, _, rfl⟩ := e
        exact del j ho
      · cases e
    | _ => cases e
  | _ => cases e
theorem un_all [Tabs] (M : Mem h S w m B M0) {ρ : List AVal} {tmps : Array Value} (hr : ∀ i, VRel h S w m (ρ.getD i (.one .und)) (tmps.getD i undef)) {s1 : AS} (hs1 : s1.h = []) :
    ∀ {L : List LItem} {hp : AHeap} {x : dens (LItem.tys L)}, (∀ id o, hp.get id = some o → h id = some o) → nodupB (LItem.ids L) = true → unL ρ L hp = some x →
      Claim S w m hp (mkFrom L x s1).h (LItem.ids L) (fun h' m' V => Vals w tmps s1.ρ h' m' V → Vals w tmps (mkFrom L x s1).ρ h' m' V)
  | [], hp, x, _, _, _ => by
    have : (mkFrom [] x s1).h = [] := hs1
    rw [this]
    exact claim_nil hp [] fun h' m' V v => v
  | .tv i t :: L, hp, x, hg, hn, e => by
    simp only [unL] at e
    cases hb : (ρ.getD i (.one .und)).fits t with
    | false => rw [hb] at e; cases e
    | true =>
      rw [hb] at e
      simp only [cond_true, Option.bind_eq_some_iff, Option.some.injEq] at e
      obtain ⟨⟨y, hp'⟩, e1, z, e2, rfl⟩ := e
      obtain ⟨f1, f2, f3⟩ := fits_spec M hb (hr i)
      obtain ⟨i1, i2⟩ := takeVal_in e1
      have ih := un_all M hr hs1 (L := L) (fun id o h => hg id o (i2 id o h)) hn e2
      have C := claim_val M hg e1 ((hr i).cells f1 M) i1 ih
      have hh : (mkFrom (.tv i t :: L) (consD y z) s1).h = (mkFrom L z s1).h := by simp only [mkFrom, tailD_consD]
      rw [hh]
      refine C.imp (fun _ h => h) fun h' m' V v v1 => ?_
      simp only [mkFrom, headD_consD, tailD_consD]
      refine (v.1 v1).set ?_
      rw [f3]
      exact ofDen_rel v.2
  | .own i al id t d :: L, hp, x, hg, hn, e => by
    simp only [unL] at e
    split at e
    · rename_i c hc
      cases hb : (!(al.all fun j => AVal.sameOne (ρ.getD j (.one .und)) c)) with
      | true => rw [hb] at e; cases e
      | false =>
        rw [hb] at e
        simp only [cond_false, Option.bind_eq_some_iff, Option.some.injEq] at e
        obtain ⟨⟨y, hp'⟩, e1, z, e2, rfl⟩ := e
        simp only [Bool.not_eq_false', List.all_eq_true] at hb
        obtain ⟨n1, n2⟩ := nodupB_cons (i := id) (l := LItem.ids L) hn
        have hri := hr i
        rw [hc] at hri
        have ih := un_all M hr hs1 (L := L) (fun id o h => hg id o (takeOwn_sub e1 id o h)) n2 e2
        have C := claim_own M hg n1 e1 hri ih
        have eq : ∀ j ∈ al, tmps.getD j undef = tmps.getD i undef := fun j hj => by
          have h1 := hb j hj
          have h2 := hr j
          cases hx : ρ.getD j (.one .und) with
          | one d =>
            rw [hx] at h1 h2
            cases d <;> cases c <;> first | cases h1 | skip
            rename_i a b
            have := Nat.eq_of_beq_eq_true h1
            subst this
            obtain ⟨_, o1, p1, p2⟩ := h2
            obtain ⟨_, o2, q1, q2⟩ := hri
            obtain rfl : o1 = o2 := Option.some.inj (p1.symm.trans q1)
            exact p2.trans q2.symm
          | _ => rw [hx] at h1; cases h1
        have hh : (mkFrom (.own i al id t d :: L) (consD (t := .slice t) y z) s1).h = (id, .arr d t y) :: (mkFrom L z s1).h := by simp only [mkFrom, headD_consD, tailD_consD]
        rw [hh]
        refine C.imp (fun _ h => h) fun h' m' V v v1 => ?_
        simp only [mkFrom, headD_consD, tailD_consD]
        refine Vals.sets ((v.1 v1).set v.2) fun j hj => ?_
        rw [eq j hj]
        exact v.2
    · cases e
  | .bx i id cks :: L, hp, x, hg, hn, e => by
    simp only [unL] at e
    split at e
    · rename_i j hc
      split at e
      · rename_i cs ho
        obtain ⟨n1, n2⟩ := nodupB_cons (i := id) (l := CK.ids cks ++ LItem.ids L) hn
        have hri := hr i
        rw [hc] at hri
        obtain ⟨_, oc, b, p1, p2, p3⟩ := hri
        obtain ⟨oc', q1, b', cur, te, q2, q3, q4, q5⟩ := M.obj j _ (hg j _ ho)
        obtain rfl : oc' = oc := Option.some.inj (q1.symm.trans p1)
        rw [p2] at q2
        simp only [Value.pointer.injEq, Option.some.injEq, Addr.mk.injEq] at q2
        obtain ⟨rfl, _⟩ := q2
        have sub : ∀ id o, (hp.del j).get id = some o → h id = some o := fun id o h1 => hg id o (by rw [get_del] at h1; split at h1 <;> first | cases h1 | exact h1)
        have C0 := un_cells M (os := fun y => (mkFrom L y s1).h) (I := LItem.ids L) (vals := fun y h' m' V => Vals w tmps s1.ρ h' m' V → Vals w tmps (mkFrom L y s1).ρ h' m' V) (fun hp' y hg' e' => un_all M hr hs1 (L := L) hg' (nodupB_append n2) e') sub n2 e q4
        have C := claim_box M hg n1 ho p1 q5 q3 C0
        refine C.imp (fun _ h => h) fun h' m' V v v1 => ?_
        simp only [mkFrom]
        refine (v.1 v1).set ?_
        rw [p3]
        exact v.2
      · cases e
    · cases e
  | .src i id t :: L, hp, x, hg, hn, e => by
    simp only [unL] at e
    split at e
    · rename_i c hc
      simp only [Option.bind_eq_some_iff, Option.some.injEq] at e
      obtain ⟨⟨n0, y, hp'⟩, e1, z, e2, rfl⟩ := e
      obtain ⟨n1, n2⟩ := nodupB_cons (i := id) (l := LItem.ids L) hn
      have hri := hr i
      rw [hc] at hri
      have ih := un_all M hr hs1 (L := L) (fun id o h => hg id o (takeSrc_sub e1 id o h)) n2 e2
      have C := claim_src M hg n1 e1 hri ih
      have hh : (mkFrom (.src i id t :: L) (consD (t := .int .i64) (n0 : Int) (consD (t := .slice t) y z)) s1).h = (id, .src t n0 y) :: (mkFrom L z s1).h := by simp only [mkFrom, headD_consD, tailD_consD, Int.toNat_natCast]
      rw [hh]
      refine C.imp (fun _ h => h) fun h' m' V v v1 => ?_
      simp only [mkFrom, headD_consD, tailD_consD]
      exact (v.1 v1).set v.2
    · cases e
end
end Go.Ab
