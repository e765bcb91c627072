/-
  One operation: all kinds.
-/
import Derived.Test.YtkemmodgpafkmaaGreatDoorXWin
import Derived.Test.YtkemmodgpafkmaaGreatDoorXView
import Derived.Test.YtkemmodgpafkmaaGreatDoorXTake
import Derived.Test.YtkemmodgpafkmaaGreatDoorXGrow
namespace Go.Ab
open Go Go.RowKit
section
variable {P : Program} {E : Env} {S : Blk} {w w0 : World} {m : OMap} {B : Nat} {M0 : Blk}
structure Good [Tabs] (P : Program) (E : Env) : Prop where
  T : ∀ p ∈ E.T, tyOk P p.1 p.2 = true
  G : ∀ p ∈ E.G, Sound P p.1 p.2 ∧ FnOk P p.1
  mixed : P.follows .mixedOrders = true
  ins : Libs P E.ins E.del E.sel E.eqs E.keepc
theorem fzIdx_t {E : Env} {s : AS} {d : Nat} {x : Operand} {id : Nat} (h : fzIdx E s d x = some id) : (s.frz id).t = s.t + 1 := by
  unfold fzIdx at h
  cases hb : E.fz.any (Nat.beq d) with
  | false => rw [hb] at h; cases h
  | true =>
    rw [hb] at h
    simp only [cond_true] at h
    split at h
    · split at h
      · rename_i hg
        cases h
        unfold AS.frz
        rw [hg]
      · cases h
    · cases h
theorem aOp_sound [Tabs] (hE : Good P E) (hB0 : B ≤ w0.heap.size) {s : AS} {a : Act} (R : Rel w0 B M0 S m s a w) {o : Oper} {R' : Type} {k : AVal → AS → Option R'} {r : R'} (e : aOp E s o.dst o.op k = some r)
    {next : Act → World → Prop} {Q : Exit → Act → World → Prop} (K : ∀ v s' v' w' S' m', k v s' = some r → Moved w0 B M0 S m s a w v s' v' w' S' m' → next (a.put o.dst v') w') : o.wp P a w next Q := by
  have quiet : aQuiet E s (o.dst.getD 0) o.op k = some r → o.wp P a w next Q := fun e => aQuiet_sound hE.T hE.ins.2.2.2.1 hB0 R e K
  unfold aOp at e
  generalize hop : o.op = op at e quiet
  cases op with
  | store t x y =>
    simp only at e
    cases hu : look E.T t with
    | none => rw [hu] at e; cases e
    | some u =>
    cases hc : s.ev x with
    | one c =>
      rw [hu, hc] at e
      simp only at e
      rcases stSel_cases c (s.ev y) with ⟨id, i, off, el, y0, j, rfl, h2⟩ | ⟨id, i, off, el, y0, u', ys, i2, rfl, h2, h3⟩ | ⟨id, i, off, el, y0, i2, rfl, h2, h3⟩ | h2
      · rw [h2] at e
        exact aStoreInn_sound hE.T hB0 R hop hu hc e fun s' v' w' S' m' hk M => K _ s' v' w' S' m' hk M
      · rw [h3] at e
        simp only at e
        cases hd : decide (u = .slice u') with
        | false => rw [hd] at e; cases e
        | true =>
          rw [hd] at e
          have := of_decide_eq_true hd
          subst this
          simp only [cond_true] at e
          cases hbi : Nat.beq i i2 with
          | false => rw [hbi] at e; cases e
          | true =>
          rw [hbi] at e
          have := Nat.eq_of_beq_eq_true hbi
          subst this
          exact aStoreApp_sound hE.T hB0 R hop hu hc h2 e fun s' v' w' S' m' hk M => K _ s' v' w' S' m' hk M
      · rw [h3] at e
        simp only at e
        cases hsz : Nat.beq u.size 1 with
        | false => rw [hsz] at e; cases e
        | true =>
        rw [hsz] at e
        simp only [cond_true] at e
        cases hbi : Nat.beq i i2 with
        | false => rw [hbi] at e; cases e
        | true =>
        rw [hbi] at e
        have := Nat.eq_of_beq_eq_true hbi
        subst this
        exact aStoreSame_sound hE.T hB0 R hop hu (Nat.eq_of_beq_eq_true hsz) hc h2 e fun s' v' w' S' m' hk M => K _ s' v' w' S' m' hk M
      · rw [h2] at e
        exact aStore_sound hE.T hB0 R hop hu hc e K
    | _ => rw [hu, hc] at e; cases e
  | call c =>
    simp only at e
    cases hc : c.callee with
    | value f =>
      rw [hc] at e
      simp only at e
      cases hf : s.ev f with
      | one cc =>
        rw [hf] at e
        cases cc with
        | cl g cap =>
            simp only at e
            cases hl : lookG E.G g (c.args.toList.map s.ev) with
            | none =>
              rw [hl] at e
              simp only at e
              cases cap with
              | nil =>
                simp only [List.isEmpty_nil, cond_true] at e
                split at e
                · rename_i hsel
                  exact aSel_sound (hE.ins.2.2.1 _ (look_mem hsel)) hB0 R hop hc hf e K
                · split at e
                  · rename_i D _
                    cases hb : D.out.isSome with
                    | true => rw [hb] at e; exact aMv_sound hE.ins.2.1 hB0 R hop hc hf e K
                    | false => rw [hb] at e; exact aDel_sound hE.ins.2.1 hB0 R hop hc hf e K
                  · split at e
                    · rename_i hkc
                      exact aCallK_sound hB0 R hop hc hf (hE.ins.2.2.2.2 _ (look_mem hkc)) e K
                    · exact aIns_sound hE.ins.1 hB0 R hop hc hf e K
              | cons _ _ => cases e
            | some C =>
            rw [hl] at e
            cases hbx : boxShape C.ps with
            | true =>
              simp only [hbx, cond_true] at e
              exact aCallB_sound hE.G hB0 R hop hc hf (lookG_mem hl) hbx e K
            | false =>
            simp only [hbx, cond_false] at e
            cases hv : allVal C.ps with
            | true => exact aCall_sound hE.G hB0 R hop hc hf (lookG_mem hl) hv e K
            | false => exact aCallM_sound hE.G hB0 R hop hc hf (lookG_mem hl) hv e K
        | _ => cases e
      | _ => rw [hf] at e; cases e
    | builtin b =>
      rw [hc] at e
      cases b with
      | append =>
        simp only at e
        split at e
        · rename_i st st' ca cx h1 h2
          cases hq : quietApp E s st ca cx with
          | true =>
            rw [hq] at e
            exact quiet e
          | false =>
          rw [hq] at e
          simp only [cond_false] at e
          cases hb : Nat.beq st st' with
          | false => rw [hb] at e; cases e
          | true =>
            rw [hb] at e
            have := Nat.eq_of_beq_eq_true hb
            subst this
            obtain ⟨x, y, ha, hx, hy⟩ := map_two h2
            simp only [cond_true] at e
            cases hgr : growId E (o.dst.getD 0) ca with
            | some id =>
              rw [hgr] at e
              have := growId_spec hgr
              subst this
              exact aGrow_sound hE.T hB0 R hop hc h1 ha hx hy e K
            | none =>
            rw [hgr] at e
            simp only at e
            split at e
            · rename_i id n j q hcut
              exact aCut_sound hE.T hB0 R hop hc h1 ha hx hy hcut e K
            cases ca with
            | sb id i off el y0 => exact aAppSb_sound hE.T hB0 R hop hc h1 ha hx hy e K
            | _ => exact aAppend_sound hE.T hB0 R hop hc h1 ha hx hy e K
        · cases e
      | _ => exact quiet e
    | _ => rw [hc] at e; exact quiet e
  | binOp bop t x y t' =>
    simp only at e
    cases hb : isNilCmp E s bop t x y with
    | true => rw [hb] at e; exact aNil_sound hE.T R hop hb e K
    | false => rw [hb] at e; exact quiet e
  | buildSlice t n ps =>
    simp only at e
    cases hb : (E.mv && canBuildMv s ps.toList) with
    | true => rw [hb] at e; exact aBuildMv_sound hE.T hB0 R hop e K
    | false => rw [hb] at e; exact quiet e
  | indexAddr st x i =>
    simp only at e
    cases hz : fzIdx E s (o.dst.getD 0) x with
    | some id =>
      rw [hz] at e
      simp only at e
      rw [← hop] at e
      obtain ⟨S1, h1, n1, R1, _⟩ := R.frz id
      have ht := fzIdx_t hz
      exact aQuiet_sound hE.T hE.ins.2.2.2.1 hB0 R1 e fun v s' v' w' S' m' hk M => K v s' v' w' S' m' hk ⟨M.val, M.rel, Ext.trans ⟨h1, Nat.le_refl _, fun _ _ => rfl, n1⟩ M.ext, by have := M.t; omega, fun et => by have := M.t; omega⟩
    | none =>
    rw [hz] at e
    simp only at e
    cases hz2 : shLoad E s (o.dst.getD 0) x with
    | some s1 =>
      rw [hz2] at e
      simp only at e
      rw [← hop] at e
      obtain ⟨id, d, el, xs, h1, rfl⟩ := shLoad_spec hz2
      obtain ⟨S1, m1, c1, p1, p2, R1, _⟩ := R.shallowArr h1
      exact aQuiet_sound hE.T hE.ins.2.2.2.1 hB0 R1 e fun v s' v' w' S' m' hk M => K v s' v' w' S' m' hk ⟨M.val, M.rel, Ext.trans ⟨p1, Nat.le_refl _, fun _ _ => rfl, p2⟩ M.ext, by have h2 : s.t + 1 ≤ s'.t := M.t; omega, fun et => by have h2 : s.t + 1 ≤ s'.t := M.t; omega⟩
    | none =>
    rw [hz2] at e
    simp only at e
    cases hb : isIdxB E s st x i with
    | true => rw [hb] at e; exact aIdxB_sound hE.T R hop e K
    | false => rw [hb] at e; exact quiet e
  | index st x i =>
    simp only at e
    cases hb : isIdxV E s st x i with
    | true => rw [hb] at e; exact aIdxV_sound hE.T R hop hb e K
    | false => rw [hb] at e; exact quiet e
  | load t x =>
    simp only at e
    cases hta : takeAt s x with
    | some p =>
      rw [hta] at e
      unfold takeAt at hta
      split at hta
      · rename_i id i hx
        cases hta
        exact aTake_sound hE.T hB0 R hop hx e K
      · cases hta
    | none =>
    rw [hta] at e
    simp only at e
    cases hz : shLoad E s (o.dst.getD 0) x with
    | none => rw [hz] at e; exact quiet e
    | some s1 =>
      rw [hz] at e
      simp only at e
      rw [← hop] at e
      obtain ⟨id, d, el, xs, h1, rfl⟩ := shLoad_spec hz
      obtain ⟨S1, m1, c1, p1, p2, R1, _⟩ := R.shallowArr h1
      exact aQuiet_sound hE.T hE.ins.2.2.2.1 hB0 R1 e fun v s' v' w' S' m' hk M => K v s' v' w' S' m' hk ⟨M.val, M.rel, Ext.trans ⟨p1, Nat.le_refl _, fun _ _ => rfl, p2⟩ M.ext, by have h2 : s.t + 1 ≤ s'.t := M.t; omega, fun et => by have h2 : s.t + 1 ≤ s'.t := M.t; omega⟩
  | slice t x lo hi mx =>
    cases lo with
    | some lo => exact quiet e
    | none =>
    cases hi with
    | none => exact quiet e
    | some hi =>
    cases mx with
    | some mx => exact quiet e
    | none =>
    simp only at e
    cases hb : E.trim.any (Nat.beq (o.dst.getD 0)) with
    | true => rw [hb] at e; exact aTrim_sound hE.T hB0 R hop e K
    | false => rw [hb] at e; exact quiet e
  | _ => exact quiet e
end
end Go.Ab
