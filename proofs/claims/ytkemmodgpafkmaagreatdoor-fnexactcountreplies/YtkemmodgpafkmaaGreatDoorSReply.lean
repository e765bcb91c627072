/-
  A script's reply leaves the last field of its state alone.
-/
import Derived.Test.YtkemmodgpafkmaaGreatDoorSFns1
import Derived.Test.YtkemmodgpafkmaaGreatDoorXLaw
namespace Go.Proofs.YtkemmodgpafkmaaGreatDoor.Sh
open Go Go.Ab Go.Proofs
def Q {α β : Type} (τ : α → β) (x : Option α) (y : Option β) : Prop := y = x.map τ
section
variable {α β γ δ : Type}
theorem q_none {τ : α → β} : Q τ none none := rfl
theorem q_some {τ : α → β} {a : α} {b : β} (h : τ a = b) : Q τ (some a) (some b) := by subst h; rfl
theorem q_bif {τ : α → β} (c : Bool) {x x2 : Option α} {y y2 : Option β} (h : Q τ x y) (h2 : Q τ x2 y2) : Q τ (bif c then x else x2) (bif c then y else y2) := by
  cases c
  · exact h2
  · exact h
theorem q_bind {τ : α → β} {x : Option γ} {f : γ → Option α} {g : γ → Option β} (h : ∀ a, Q τ (f a) (g a)) : Q τ (x.bind f) (x.bind g) := by
  cases x with
  | none => rfl
  | some a => exact h a
theorem q_join {τ : α → β} {σ : γ → δ} {x : Option γ} {y : Option δ} {f : γ → Option α} {g : δ → Option β} (k : Q σ x y) (h : ∀ a, Q τ (f a) (g (σ a))) : Q τ (x.bind f) (y.bind g) := by
  have k : y = x.map σ := k
  subst k
  cases x with
  | none => rfl
  | some a => exact h a
theorem q_loop {τ : α → β} {σ : γ → δ} {f : γ → Option (γ ⊕ α)} {g : δ → Option (δ ⊕ β)} (h : ∀ a, Q (Sum.map σ τ) (f a) (g (σ a))) (a : γ) : Q τ (loopE f a) (loopE g (σ a)) := by
  have one : ∀ {a : γ} {b : α}, LoopTo f a b → LoopTo g (σ a) (τ b) := by
    intro a b k
    induction k with
    | @done a b e => exact .done (by have := h a; unfold Q at this; rw [this, e]; rfl)
    | @step a a' b e _ ih => exact .step (by have := h a; unfold Q at this; rw [this, e]; rfl) ih
  have two : ∀ {d : δ} {b : β}, LoopTo g d b → ∀ a, σ a = d → ∃ c, LoopTo f a c := by
    intro d b k
    induction k with
    | @done d b e =>
      rintro a rfl
      have := h a
      unfold Q at this
      rw [this] at e
      cases hf : f a with
      | none => rw [hf] at e; cases e
      | some u =>
        rw [hf] at e
        rcases u with u | u
        · cases e
        · exact ⟨u, .done hf⟩
    | @step d d' b e _ ih =>
      rintro a rfl
      have := h a
      unfold Q at this
      rw [this] at e
      cases hf : f a with
      | none => rw [hf] at e; cases e
      | some u =>
        rw [hf] at e
        rcases u with u | u
        · injection e with e
          injection e with e
          obtain ⟨c, hc⟩ := ih u e
          exact ⟨c, .step hf hc⟩
        · cases e
  unfold Q
  cases e : loopE f a with
  | some b => exact loopE_of (one (loopE_to e))
  | none =>
    cases e2 : loopE g (σ a) with
    | none => rfl
    | some b =>
      obtain ⟨c, hc⟩ := two (loopE_to e2) a rfl
      rw [loopE_of hc] at e
      cases e
end
attribute [local irreducible] sortedF
abbrev sg (v : Value) (s : GscriptStateR) : GscriptStateR := (s.1, s.2.1, s.2.2.1, s.2.2.2.1, s.2.2.2.2.1, s.2.2.2.2.2.1, v, ())
abbrev t9 {A B C D E F G H I R : Type} (v : Value) (x : A × B × C × D × E × F × G × H × I × Value × R) : A × B × C × D × E × F × G × H × I × Value × R :=
  (x.1, x.2.1, x.2.2.1, x.2.2.2.1, x.2.2.2.2.1, x.2.2.2.2.2.1, x.2.2.2.2.2.2.1, x.2.2.2.2.2.2.2.1, x.2.2.2.2.2.2.2.2.1, v, x.2.2.2.2.2.2.2.2.2.2)
abbrev s1 {R : Type} (v : Value) (x : GscriptStateR × R) : GscriptStateR × R := (sg v x.1, x.2)
set_option maxRecDepth 100000 in
theorem q_book (v : Value) (s : GscriptStateR) (a b : Bytes) (n : List Int) : Q (s1 v) (i_scriptState_bookLine s a b n) (i_scriptState_bookLine (sg v s) a b n) := by
  unfold i_scriptState_bookLine
  repeat' (first | exact q_none | exact q_some rfl | refine q_bif _ ?_ ?_ | refine q_bind fun a => ?_)
set_option maxRecDepth 100000 in
theorem q_desk (v : Value) (s : GscriptStateR) (a : Bytes) (n : List Int) : Q (s1 v) (i_scriptState_deskLine s a n) (i_scriptState_deskLine (sg v s) a n) := by
  unfold i_scriptState_deskLine
  repeat' (first | exact q_none | exact q_some rfl | refine q_bif _ ?_ ?_ | refine q_bind fun a => ?_)
set_option maxRecDepth 100000 in
theorem q_net (v : Value) (s : GscriptStateR) (a : Bytes) (n : List Int) : Q (s1 v) (i_scriptState_netLine s a n) (i_scriptState_netLine (sg v s) a n) := by
  unfold i_scriptState_netLine
  repeat' (first | with_reducible exact q_none | (with_reducible refine q_some ?_; rfl) | with_reducible refine q_bif _ ?_ ?_ | with_reducible refine q_bind fun a => ?_)
set_option maxRecDepth 100000 in
set_option maxHeartbeats 4000000 in
theorem q_reply (v : Value) (s : GscriptStateR) (l : Bytes) : Q (s1 v) (i_scriptState_reply s l) (i_scriptState_reply (sg v s) l) := by
  unfold i_scriptState_reply
  refine q_bind fun r1 => q_bind fun e2 => q_bind fun l3 => q_join (σ := Sum.map (t9 v) (t9 v)) ?_ (Sum.rec (fun x11 => ?_) (fun y12 => q_some rfl))
  · repeat' (first | exact q_none | exact q_some rfl | refine q_bif _ ?_ ?_ | refine q_bind fun a => ?_)
  refine q_bif _ (q_join (σ := Sum.map (t9 v) (t9 v)) (q_loop (τ := Sum.map (t9 v) (t9 v)) (σ := t9 v) (fun st => ?_) _) (Sum.rec (fun x19 => ?_) (fun y20 => q_some rfl))) q_none
  · repeat' (first | exact q_none | exact q_some rfl | refine q_bif _ ?_ ?_ | refine q_bind fun a => ?_)
  refine q_bind fun r21 => q_bind fun r22 => q_bind fun r23 => q_bif _ (q_some rfl) (q_join (σ := t9 v) ?_ fun j24 => ?_)
  · repeat' (first | exact q_none | exact q_some rfl | refine q_bif _ ?_ ?_ | refine q_bind fun a => ?_)
  repeat' (first | exact q_none | exact q_some rfl | refine q_bif _ ?_ ?_ | refine q_join (q_book v _ _ _ _) (fun a => ?_) | refine q_join (q_desk v _ _ _) (fun a => ?_) | refine q_join (q_net v _ _ _) (fun a => ?_) | refine q_bind fun a => ?_)
abbrev dr (s : GscriptStateR) : GscriptStateK := (s.1, s.2.1, s.2.2.1, s.2.2.2.1, s.2.2.2.2.1, s.2.2.2.2.2.1, ())
abbrev wv (s : GscriptStateK) (v : Value) : GscriptStateR := (s.1, s.2.1, s.2.2.1, s.2.2.2.1, s.2.2.2.2.1, s.2.2.2.2.2.1, v, ())
noncomputable def replyF (s : GscriptStateK) (line : Bytes) : Option (GscriptStateK × Bytes) := (i_scriptState_reply (wv s (.bool false)) line).map fun r => (dr r.1, r.2)
noncomputable def ReplyK : KFn := ⟨TGscriptStateK, [.val .str], [.val .str], fun x => replyF x.1 x.2⟩
theorem ReplyKOk : KOk Tryz.prog 75 ReplyK := by
  refine ⟨C75.fn, S75, fun v x r hr => ?_⟩
  have hr : (i_scriptState_reply (wv x.1 (.bool false)) x.2).map (fun r => (dr r.1, r.2)) = some r := hr
  show i_scriptState_reply (wv x.1 v) x.2 = some (wv r.1 v, r.2)
  have hq : i_scriptState_reply (wv x.1 v) x.2 = (i_scriptState_reply (wv x.1 (.bool false)) x.2).map (s1 v) := q_reply v (wv x.1 (.bool false)) x.2
  rw [hq]
  cases h : i_scriptState_reply (wv x.1 (.bool false)) x.2 with
  | none => rw [h] at hr; cases hr
  | some u =>
    rw [h] at hr
    injection hr with hr
    subst hr
    rfl
end Go.Proofs.YtkemmodgpafkmaaGreatDoor.Sh
