/-
  Code.
-/
import Derived.Test.YtffmiefhnbkcbaaGreatXCut
import Derived.Test.YtffmiefhnbkcbaaGreatXFrzB
namespace Go.Ab
open Go Go.RowKit
def toExit : AExit → Exit
  | .normal => .normal
  | .exit i => .exit i
  | .ret => .ret
section
variable {P : Program} {E : Env} {S : Blk} {w w0 : World} {m : OMap} {B : Nat} {M0 : Blk}
structure Gone [Tabs] (w0 : World) (B : Nat) (M0 S : Blk) (a : Act) (w : World) (ds : List Nat) (s' : AS) (a' : Act) (w' : World) (S' : Blk) (m' : OMap) : Prop where
  rel : Rel w0 B M0 S' m' s' a' w'
  ext : Ext B M0 S S' w w'
  keep : ∀ t, t ∉ ds → a'.tmps.getD t undef = a.tmps.getD t undef
  len : a'.tmps.size = a.tmps.size
theorem Gone.trans [Tabs] {a a' a'' : Act} {w' w'' : World} {S' S'' : Blk} {s' s'' : AS} {m' m'' : OMap} {d d' ds : List Nat} (x : Gone w0 B M0 S a w d s' a' w' S' m') (y : Gone w0 B M0 S' a' w' d' s'' a'' w'' S'' m'') (h1 : ∀ t, t ∈ d → t ∈ ds) (h2 : ∀ t, t ∈ d' → t ∈ ds) : Gone w0 B M0 S a w ds s'' a'' w'' S'' m'' :=
  ⟨y.rel, x.ext.trans y.ext, fun t ht => (y.keep t fun h => ht (h2 t h)).trans (x.keep t fun h => ht (h1 t h)), y.len.trans x.len⟩
theorem Gone.mono [Tabs] {a a' : Act} {w' : World} {S' : Blk} {s' : AS} {m' : OMap} {d ds : List Nat} (x : Gone w0 B M0 S a w d s' a' w' S' m') (h1 : ∀ t, t ∈ d → t ∈ ds) : Gone w0 B M0 S a w ds s' a' w' S' m' :=
  ⟨x.rel, x.ext, fun t ht => x.keep t fun h => ht (h1 t h), x.len⟩
theorem Gone.refl [Tabs] {s : AS} {a : Act} (R : Rel w0 B M0 S m s a w) (ds : List Nat) : Gone w0 B M0 S a w ds s a w S m := ⟨R, Ext.refl B M0 S w, fun _ _ => rfl, rfl⟩
theorem same_spec {e e' : AExit} (h : AExit.same e e' = true) : e = e' := by
  cases e <;> cases e' <;> first | rfl | cases h | exact congrArg AExit.exit (Nat.eq_of_beq_eq_true h)
theorem CellRel.noRef [Tabs] {h h' : HGet} {S' : Blk} {w' : World} {m' : OMap} (hS : ∀ q, S q → S' q) (hw : ∀ q, S q → w'.heap[q]? = w.heap[q]?) (hz : w.heap.size ≤ w'.heap.size) :
    {c : ACell} → {v : Value} → c.noRef = true → CellRel h S w m c v → CellRel h' S' w' m' c v
  | .und, _, _, _ => trivial
  | .nils, _, _, r => r
  | .pv _ _, _, _, r => ⟨r.1, r.2.mono hS hw hz⟩
  | .pc _ _, _, _, r => by
    obtain ⟨b, o, ds, h1, h2, h3, h4, h5⟩ := r
    exact ⟨b, o, ds, h1, hS b h2, Nat.lt_of_lt_of_le h3 hz, h4.mono (hw b h2), h5.mono hS hw hz⟩
  | .cl _ _, _, _, r => by
    obtain ⟨cs, e, k⟩ := r
    exact ⟨cs, e, k.mono hS hw hz⟩
  | .os _, _, h, _ => by cases h
  | .op _ _, _, h, _ => by cases h
  | .oe _ _ _, _, h, _ => by cases h
  | .sb _ _ _ _ _, _, h, _ => by cases h
  | .vw _ _, _, h, _ => by cases h
theorem VRel.noRef [Tabs] {h h' : HGet} {S' : Blk} {w' : World} {m' : OMap} (hS : ∀ q, S q → S' q) (hw : ∀ q, S q → w'.heap[q]? = w.heap[q]?) (hz : w.heap.size ≤ w'.heap.size) {v : AVal} {u : Value} (hn : v.noRef = true) (r : VRel h S w m v u) : VRel h' S' w' m' v u := by
  cases v with
  | one c => exact CellRel.noRef hS hw hz hn r
  | ag cs =>
    obtain ⟨vs, e, h1, h2, h3⟩ := r
    refine ⟨vs, e, h1, h2, fun i c v hc hv => CellRel.noRef hS hw hz ?_ (h3 i c v hc hv)⟩
    exact List.all_eq_true.1 hn c (List.mem_of_getElem? hc)
  | tu l => cases hn
theorem keepR_get (keep : List Nat) : ∀ (l : List AVal) (k i : Nat), (keepR keep k l).getD i (.one .und) = .one .und ∨ (k + i ∈ keep ∧ (l.getD i (.one .und)).noRef = true ∧ (keepR keep k l).getD i (.one .und) = l.getD i (.one .und))
  | [], _, _ => .inl rfl
  | v :: l, k, 0 => by
    simp only [keepR, List.getD_cons_zero]
    cases hb : (keep.any (Nat.beq k) && v.noRef) with
    | false => exact .inl rfl
    | true =>
      simp only [Bool.and_eq_true, List.any_eq_true] at hb
      obtain ⟨⟨j, hj, hk⟩, hn⟩ := hb
      have := Nat.eq_of_beq_eq_true hk
      subst this
      exact .inr ⟨hj, hn, rfl⟩
  | v :: l, k, i + 1 => by
    have := keepR_get keep l (k + 1) i
    simp only [keepR, List.getD_cons_succ]
    rw [show k + (i + 1) = k + 1 + i by omega]
    exact this
theorem keepR_len (keep : List Nat) : ∀ (l : List AVal) (k : Nat), (keepR keep k l).length = l.length
  | [], _ => rfl
  | _ :: l, k => by simp [keepR, keepR_len keep l]
theorem cut_sound [Tabs] {s0 : AS} {a0 : Act} {w1 : World} {S0 : Blk} {m0 : OMap} (R0 : Rel w0 B M0 S0 m0 s0 a0 w1) {ds : List Nat} {s : AS} {a : Act} (G : Gone w0 B M0 S0 a0 w1 ds s a w S m) {keep : List Nat} (hk : ∀ i ∈ keep, i ∉ ds) {L : List LItem} (hn : nodupB (LItem.ids L) = true) {x : dens (LItem.tys L)} (hx : unL s.ρ L s.h = some x) :
    ∃ S' m', Gone w0 B M0 S0 a0 w1 ds (mkL keep L s0 x) a w S' m' := by
  have M := G.rel.mem
  obtain ⟨_, c, K, hK, C⟩ := un_all M G.rel.tmps (s1 := { ρ := keepR keep 0 s0.ρ, h := [], t := s0.t + 1 }) rfl (L := L) (hp := s.h) (fun id o h => h) hn hx
  obtain ⟨n, vl⟩ := C (fun q => S q ∨ (InH m s.h q ∧ ¬ K q)) ⟨fun q h => .inl h, fun q h1 h2 => .inr ⟨h1, h2⟩⟩
  have inH : ∀ q, InH m s.h q → ¬ S q ∧ q < w.heap.size ∧ (B ≤ q ∨ M0 q) := fun q ⟨id, oc, i1, i2, i3⟩ => M.apart id oc i1 i2 q i3
  have base : Vals w a.tmps (keepR keep 0 s0.ρ) (mkL keep L s0 x).h.get c (fun q => S q ∨ (InH m s.h q ∧ ¬ K q)) := fun i => by
    rcases keepR_get keep s0.ρ 0 i with h | ⟨h1, h2, h3⟩
    · rw [h]; exact trivial
    · rw [h3]
      rw [Nat.zero_add] at h1
      rw [G.keep i (hk i h1)]
      exact (R0.tmps i).noRef (fun q hq => .inl (G.ext.sub q hq)) G.ext.stay G.ext.size h2
  have vals := vl (mkL keep L s0 x).h.get c (fun j p h => ⟨h, rfl⟩) base
  refine ⟨fun q => S q ∨ (InH m s.h q ∧ ¬ K q), c, ⟨⟨fun id o e => ?_, fun i j a b hij hi hj ha hb => ?_, fun i oc hi hc q hq => ?_, fun q hq => ?_⟩, G.rel.frm, vals, ?_, G.rel.defers⟩, ⟨fun q hq => .inl (G.ext.sub q hq), G.ext.size, G.ext.stay, fun q hq => ?_⟩, G.keep, G.len⟩
  · obtain ⟨oc, k1, k2, _⟩ := n.obj id o e
    exact ⟨oc, k1, k2 _ _ fun j p h => ⟨h, rfl⟩⟩
  · exact n.dis i j a b hij hi hj ha hb
  · cases e : (mkL keep L s0 x).h.get i with
    | none => exact absurd e hi
    | some o =>
      obtain ⟨oc', k1, _, k3⟩ := n.obj i o e
      obtain rfl : oc' = oc := Option.some.inj (k1.symm.trans hc)
      have hKq := k3 q hq
      have := inH q (hK q hKq)
      exact ⟨fun hs => hs.elim this.1 fun h => h.2 hKq, this.2⟩
  · rcases hq with hq | hq
    · exact M.lt q hq
    · exact (inH q hq.1).2.1
  · rw [G.len, R0.size]
    show s0.ρ.length = (mkFrom L x _).ρ.length
    rw [mkFrom_len]
    exact (keepR_len keep s0.ρ 0).symm
  · rcases hq with hq | hq
    · exact G.ext.news q hq
    · exact .inr (inH q hq.1).2.2
theorem out_sound [Tabs] {s0 : AS} {a0 : Act} {w1 : World} {S0 : Blk} {m0 : OMap} (R0 : Rel w0 B M0 S0 m0 s0 a0 w1) {ds : List Nat} {s : AS} {a : Act} (G : Gone w0 B M0 S0 a0 w1 ds s a w S m) {keep : List Nat} (hk : ∀ i ∈ keep, i ∉ ds) {R' : Type} {k : AExit → AS → Option R'} {r : R'} {e : AExit} :
    ∀ {l : List (AExit × List LItem)} {o : outD l}, (∀ p ∈ l, nodupB (LItem.ids p.2) = true) → toOut s e l = some o → fromOut keep s0 k l o = some r → ∃ s' S' m', k e s' = some r ∧ Gone w0 B M0 S0 a0 w1 ds s' a w S' m'
  | [], _, _, h, _ => by cases h
  | [p], o, hn, h, h2 => by
    simp only [toOut] at h
    cases hs : AExit.same e p.1 with
    | false => rw [hs] at h; cases h
    | true =>
      rw [hs] at h
      obtain ⟨S', m', G'⟩ := cut_sound R0 G hk (hn p List.mem_cons_self) h
      exact ⟨_, S', m', by rw [same_spec hs]; exact h2, G'⟩
  | p :: q :: l, o, hn, h, h2 => by
    simp only [toOut] at h
    cases hs : AExit.same e p.1 with
    | true =>
      rw [hs] at h
      simp only [cond_true, Option.bind_eq_some_iff, Option.some.injEq] at h
      obtain ⟨x, hx, rfl⟩ := h
      obtain ⟨S', m', G'⟩ := cut_sound R0 G hk (hn p List.mem_cons_self) hx
      exact ⟨_, S', m', by rw [same_spec hs]; exact h2, G'⟩
    | false =>
      rw [hs] at h
      simp only [cond_false, Option.bind_eq_some_iff, Option.some.injEq] at h
      obtain ⟨x, hx, rfl⟩ := h
      exact out_sound R0 G hk (l := q :: l) (fun p hp => hn p (List.mem_cons_of_mem _ hp)) hx h2
theorem least {p : Nat → Prop} (h : ∃ n, p n) : ∃ n, p n ∧ ∀ k, p k → n ≤ k := by
  obtain ⟨n, hn⟩ := h
  induction n using Nat.strongRecOn with
  | _ n ih =>
    by_cases hx : ∃ k, k < n ∧ p k
    · obtain ⟨k, hk, hp⟩ := hx
      exact ih k hk hp
    · exact ⟨n, hn, fun k hk => Nat.le_of_not_lt fun hl => hx ⟨k, hl, hk⟩⟩
theorem wp_loop_n [Tabs] {c : Code} {Q : Exit → Act → World → Prop} {a : Act} (J : Nat → Act → World → Prop) {n : Nat} (h0 : J n a w) (round : ∀ n a w, J n a w → c.wp P (Exit.then (fun a' w' => ∃ n', n' < n ∧ J n' a' w') Q) a w) : (Code.loop c).wp P Q a w := by
  classical
  refine wp_loop (fun a w => ∃ n, J n a w) (fun a w => if h : ∃ n, J n a w then Classical.choose (least h) else 0) ⟨n, h0⟩ fun a w h => ?_
  refine wp_mono (round _ a w (Classical.choose_spec (least h)).1) fun e a' w' q => ?_
  cases e with
  | normal =>
    obtain ⟨n', h1, h2⟩ := q
    refine ⟨⟨n', h2⟩, ?_⟩
    rw [dif_pos h, dif_pos ⟨n', h2⟩]
    exact Nat.lt_of_le_of_lt ((Classical.choose_spec (least ⟨n', h2⟩)).2 _ h2) h1
  | _ => exact q
inductive LoopN {α β : Type} (f : α → Option (α ⊕ β)) (b : β) : Nat → α → Prop
  | done {a : α} : f a = some (.inr b) → LoopN f b 0 a
  | step {n : Nat} {a a' : α} : f a = some (.inl a') → LoopN f b n a' → LoopN f b (n + 1) a
theorem LoopTo.count {α β : Type} {f : α → Option (α ⊕ β)} {a : α} {b : β} (h : LoopTo f a b) : ∃ n, LoopN f b n a := by
  induction h with
  | done h => exact ⟨0, .done h⟩
  | step h _ ih => obtain ⟨n, k⟩ := ih; exact ⟨n + 1, .step h k⟩
theorem loopE_spec {α β : Type} {f : α → Option (α ⊕ β)} {a : α} {b : β} (h : loopE f a = some b) : LoopTo f a b := by
  unfold loopE at h
  split at h
  · rename_i hx
    cases h
    exact Classical.choose_spec hx
  · cases h
theorem keepOk_spec {keep : List Nat} {c : Code} (h : keepOk keep c = true) : ∀ i ∈ keep, i ∉ dstsOf c := fun i hi hm => by
  unfold keepOk at h
  simp only [List.all_eq_true, Bool.not_eq_true', List.any_eq_false] at h
  have := h i hi i hm
  simp at this
theorem presA_rel [Tabs] {E : Env} {s : AS} {a : Act} {w : World} {S : Blk} {m : OMap} (R : Rel w0 B M0 S m s a w) (i : Nat) : ∃ S', (∀ q, S q → S' q) ∧ (∀ q, S' q → S q ∨ B ≤ q ∨ M0 q) ∧ Rel w0 B M0 S' m (presA E s i) a w := by
  unfold presA
  cases look E.pre i with
  | none => exact ⟨S, fun _ h => h, fun _ h => .inl h, R⟩
  | some l => exact R.frzAll l
theorem pres_rel [Tabs] {E : Env} {s : AS} {a : Act} {w : World} {S : Blk} {m : OMap} (R : Rel w0 B M0 S m s a w) (i : Nat) : ∃ S', (∀ q, S q → S' q) ∧ (∀ q, S' q → S q ∨ B ≤ q ∨ M0 q) ∧ Rel w0 B M0 S' m (pres E s i) a w := by
  unfold pres
  obtain ⟨S1, h1, n1, R1⟩ := presA_rel (E := E) R i
  cases look E.preb i with
  | none => exact ⟨S1, h1, n1, R1⟩
  | some l =>
    obtain ⟨S2, h2, n2, R2⟩ := Rel.frzBs l R1
    exact ⟨S2, fun q hq => h2 q (h1 q hq), fun q hq => (n2 q hq).elim (fun h => n1 q h) .inr, R2⟩
theorem aexec_sound [Tabs] (hE : Good P E) (hB0 : B ≤ w0.heap.size) : ∀ (c : Code) {s : AS} {a : Act} {w : World} {S : Blk} {m : OMap} {R' : Type} {k : AExit → AS → Option R'} {r : R'} {Q : Exit → Act → World → Prop}, Rel w0 B M0 S m s a w → aexec E c s k = some r →
    (∀ e s' a' w' S' m', k e s' = some r → Gone w0 B M0 S a w (dstsOf c) s' a' w' S' m' → Q (toExit e) a' w') → c.wp P Q a w
  | .skip, s, a, w, S, m, _, k, r, Q, R, e, K => wp_skip (K .normal s a w S m e (Gone.refl R _))
  | .exit i, s, a, w, S, m, _, k, r, Q, R, e, K => wp_exit (K (.exit i) s a w S m e (Gone.refl R _))
  | .ret, s, a, w, S, m, _, k, r, Q, R, e, K => wp_ret (K .ret s a w S m e (Gone.refl R _))
  | .region i ops d, s, a, w, S, m, _, k, r, Q, R, e, K => by
    obtain ⟨S1, h1, n1, R1⟩ := pres_rel (E := E) R i
    refine region_sound hE hB0 R1 (k := k .normal) ?_ fun s' a' w' S' m' hk H => K .normal s' a' w' S' m' hk ⟨H.rel, Ext.trans ⟨h1, Nat.le_refl _, fun _ _ => rfl, n1⟩ H.ext, H.keep, H.len⟩
    unfold aexec at e
    exact e
  | .cond c x y, s, a, w, S, m, _, k, r, Q, R, e, K => by
    unfold aexec at e
    split at e
    · rename_i b hb
      have hc := ev_bool R hb
      cases b with
      | true => exact wp_cond_true hc (aexec_sound hE hB0 x R e fun e s' a' w' S' m' hk G => K e s' a' w' S' m' hk (G.mono fun t ht => by simp only [dstsOf, List.mem_append]; exact .inl ht))
      | false => exact wp_cond_false hc (aexec_sound hE hB0 y R e fun e s' a' w' S' m' hk G => K e s' a' w' S' m' hk (G.mono fun t ht => by simp only [dstsOf, List.mem_append]; exact .inr ht))
    · cases e
  | .block i c, s, a, w, S, m, _, k, r, Q, R, e, K => by
    unfold aexec at e
    refine wp_block (aexec_sound hE hB0 c R e fun e s' a' w' S' m' hk G => ?_)
    cases hs : AExit.same e (.exit i) with
    | true =>
      rw [hs] at hk
      have := same_spec hs
      subst this
      simp only [toExit, Exit.inBlock, if_true]
      exact K .normal s' a' w' S' m' hk G
    | false =>
      rw [hs] at hk
      have q := K e s' a' w' S' m' hk G
      cases e with
      | exit j =>
        have : j ≠ i := fun h => by subst h; simp [AExit.same] at hs
        simp only [toExit, Exit.inBlock, if_neg this]
        exact q
      | _ => exact q
  | .seq x y, s, a, w, S, m, _, k, r, Q, R, e, K => by
    have d1 : ∀ t, t ∈ dstsOf x → t ∈ dstsOf (.seq x y) := fun t ht => by simp only [dstsOf, List.mem_append]; exact .inl ht
    have d2 : ∀ t, t ∈ dstsOf y → t ∈ dstsOf (.seq x y) := fun t ht => by simp only [dstsOf, List.mem_append]; exact .inr ht
    have rest : ∀ {e s' a' w' S' m'}, Gone w0 B M0 S a w (dstsOf x) s' a' w' S' m' → (match e with | .normal => aexec E y s' k | e => k e s') = some r → Exit.then (y.wp P Q) Q (toExit e) a' w' := fun {e s' a' w' S' m'} G hk => by
      cases e with
      | normal => exact aexec_sound hE hB0 y G.rel hk fun e s2 a2 w2 S2 m2 hk2 G2 => K e s2 a2 w2 S2 m2 hk2 (G.trans G2 d1 d2)
      | _ => exact K _ s' a' w' S' m' hk (G.mono d1)
    unfold aexec at e
    refine wp_seq ?_
    split at e
    · exact aexec_sound hE hB0 x R e fun e s' a' w' S' m' hk G => rest G hk
    · rename_i cut hcut
      cases hok : (!(keepOk cut.keep x && cut.ok)) with
      | true => rw [hok] at e; cases e
      | false =>
        rw [hok] at e
        simp only [cond_false, Option.bind_eq_some_iff] at e
        obtain ⟨o, e1, e2⟩ := e
        simp only [Bool.not_eq_false', Bool.and_eq_true, Cut.ok, List.all_eq_true] at hok
        refine aexec_sound hE hB0 x R e1 fun e s' a' w' S' m' hk G => ?_
        obtain ⟨s2, S2, m2, hk2, G2⟩ := out_sound R G (keepOk_spec hok.1) hok.2.2 hk e2
        exact rest G2 hk2
  | .loop c, s, a, w, S, m, _, k, r, Q, R, e, K => by
    unfold aexec at e
    split at e
    · cases e
    · rename_i cut hcut
      cases hok : (!(keepOk cut.keep c && cut.ok)) with
      | true => rw [hok] at e; cases e
      | false =>
        rw [hok] at e
        simp only [cond_false, Option.bind_eq_some_iff] at e
        obtain ⟨t0, h0, o, h1, h2⟩ := e
        simp only [Bool.not_eq_false', Bool.and_eq_true, Cut.ok, List.all_eq_true] at hok
        obtain ⟨n, hn⟩ := (loopE_spec h1).count
        have hkeep := keepOk_spec hok.1
        obtain ⟨S1, m1, G1⟩ := cut_sound R (Gone.refl R (dstsOf c)) hkeep hok.2.1 h0
        refine wp_loop_n (fun n a' w' => ∃ t S' m', LoopN _ o n t ∧ Gone w0 B M0 S a w (dstsOf c) (mkL cut.keep cut.live s t) a' w' S' m') (n := n) ⟨t0, S1, m1, hn, G1⟩ fun n a1 w1 ⟨t, S1, m1, hn, G1⟩ => ?_
        cases hn with
        | done hf =>
          refine aexec_sound hE hB0 c G1.rel hf fun e s' a' w' S' m' hk G => ?_
          have G2 := G1.trans G (fun _ h => h) fun _ h => h
          cases e with
          | normal =>
            simp only [Option.bind_eq_some_iff] at hk
            obtain ⟨t', _, h⟩ := hk
            cases h
          | _ =>
            simp only [Option.bind_eq_some_iff, Option.some.injEq, Sum.inr.injEq] at hk
            obtain ⟨o', ho, rfl⟩ := hk
            obtain ⟨s2, S2, m2, hk2, G3⟩ := out_sound R G2 hkeep hok.2.2 ho h2
            exact K _ s2 a' w' S2 m2 hk2 G3
        | @step n' _ t' hf hn =>
          refine aexec_sound hE hB0 c G1.rel hf fun e s' a' w' S' m' hk G => ?_
          have G2 := G1.trans G (fun _ h => h) fun _ h => h
          cases e with
          | normal =>
            simp only [Option.bind_eq_some_iff, Option.some.injEq, Sum.inl.injEq] at hk
            obtain ⟨t2, ht, rfl⟩ := hk
            obtain ⟨S2, m2, G3⟩ := cut_sound R G2 hkeep hok.2.1 ht
            exact ⟨n', Nat.lt_succ_self _, _, S2, m2, hn, G3⟩
          | _ =>
            simp only [Option.bind_eq_some_iff] at hk
            obtain ⟨o', _, h⟩ := hk
            cases h
end
end Go.Ab
