/-
  Logs: valid ones, and the entry of a part.
-/
import Derived.Test.YtffmiefhnbkcbaaGreatYA3
namespace Go.Proofs.YtffmiefhnbkcbaaGreat.Sh
open Go Go.Ab Go.Proofs
set_option maxRecDepth 100000
structure FineE (l : List GEntry) : Prop where
  len : l.length ≤ 1048576
  ent : ∀ e ∈ l, e.2.2.2.1.length ≤ 1048576 ∧ e.2.2.2.2.1.length ≤ 1048576
def entB (e : GEntry) : Bool := inB e.1 0 10000 && (inB e.2.1 1 999 && (inB e.2.2.1 0 8 && ((inB (e.2.2.2.1.length : Int) 1 8 && e.2.2.2.1.all fun x => inB x 0 63) && (inB (e.2.2.2.2.1.length : Int) 1 8 && e.2.2.2.2.1.all fun x => inB x 0 63))))
theorem i_ent {e : GEntry} (h : e.2.2.2.1.length ≤ 1048576 ∧ e.2.2.2.2.1.length ≤ 1048576) : i_IsEntry e = some (entB e) := by
  unfold i_IsEntry entB
  rw [i_all (by unfold maxLen; omega), i_all (by unfold maxLen; omega)]
  simp only [within_eq, Option.bind_some]
  cases inB e.1 0 10000 <;> cases inB e.2.1 1 999 <;> cases inB e.2.2.1 0 8 <;> cases inB (e.2.2.2.1.length : Int) 1 8 <;> cases (e.2.2.2.1.all fun x => inB x 0 63) <;> cases inB (e.2.2.2.2.1.length : Int) 1 8 <;> rfl
theorem s_ent {e : GEntry} (h : e.2.2.2.1.length ≤ 1048576 ∧ e.2.2.2.2.1.length ≤ 1048576) : s_lgEntry e = some (entB e) := by
  unfold s_lgEntry s_lgSignals entB
  rw [s_all (by unfold maxLen; omega), s_all (by unfold maxLen; omega)]
  simp only [l1In_eq, Option.bind_some]
  cases inB e.1 0 10000 <;> cases inB e.2.1 1 999 <;> cases inB e.2.2.1 0 8 <;> cases inB (e.2.2.2.1.length : Int) 1 8 <;> cases (e.2.2.2.1.all fun x => inB x 0 63) <;> cases inB (e.2.2.2.2.1.length : Int) 1 8 <;> rfl
def isP (m p : Int) (e : GEntry) : Bool := decide (e.2.1 = m) && decide (e.2.2.1 = p)
def atI : Option Nat → Int
  | some i => (i : Int)
  | none => -1
theorem i_at {l : List GEntry} (h : l.length ≤ 1048576) (m p : Int) : i_entryIndex l m p = some (atI (firstAt (isP m p) l 0)) := by
  unfold i_entryIndex slices_IndexFunc_Entry_112
  rw [find_loop (l := l) (isP m p) ?_ ?_]
  · cases firstAt (isP m p) l 0 <;> rfl
  · intro i x hx hi
    unfold i_entryIndex_1 isP
    simp only [idx_get, hx, Option.bind_some, at_lt hi, up (show l.length ≤ maxLen by unfold maxLen; omega) hi]
    cases decide (x.2.1 = m) <;> cases decide (x.2.2.1 = p) <;> rfl
  · simp
theorem s_at {l : List GEntry} (h : l.length ≤ 1048576) (m p : Int) : s_lgFind l m p = some (atI (firstAt (isP m p) l 0)) := by
  unfold s_lgFind
  rw [find_loop (l := l) (isP m p) ?_ ?_]
  · cases firstAt (isP m p) l 0 <;> rfl
  · intro i x hx hi
    unfold isP
    simp only [idx_get, hx, Option.bind_some, at_lt hi, up (show l.length ≤ maxLen by unfold maxLen; omega) hi]
    cases decide (x.2.1 = m) <;> cases decide (x.2.2.1 = p) <;> rfl
  · simp
def timeAt (l : List GEntry) (i : Nat) : Bool := match l[i]?, l[i - 1]? with
  | some e, some d => decide (i = 0) || !decide (e.1 < d.1)
  | _, _ => true
def newAt (l : List GEntry) (i : Nat) : Bool := match l[i]? with
  | some e => (firstAt (isP e.2.1 e.2.2.1) (l.take i) 0).isNone
  | none => true
def okE (l : List GEntry) (i : Nat) : Bool := (match l[i]? with | some e => entB e | none => false) && (newAt l i && timeAt l i)
def isLog (l : List GEntry) : Bool := (List.range l.length).all (okE l) && decide ((l.length : Int) ≤ 30)
theorem timeAt_eq {l : List GEntry} {i : Nat} (hi : i < l.length) : timeAt l i = (decide (i = 0) || !decide (l[i].1 < (l[i - 1]'(by omega)).1)) := by
  unfold timeAt
  rw [List.getElem?_eq_getElem hi, List.getElem?_eq_getElem (show i - 1 < l.length by omega)]
theorem time_res {l : List GEntry} (h : l.length ≤ 1048576) {i : Nat} (hi : i < l.length) : (bif decide ((0 : Int) < (i : Int)) then (idx l (w64 ((i : Int) - 1))).bind fun e7 => some (decide (l[i].1 < e7.1)) else some false) = some (!timeAt l i) := by
  rw [timeAt_eq hi]
  by_cases h0 : 0 < i
  · rw [dec_t (show (0 : Int) < (i : Int) by omega), prevI (show l.length ≤ maxLen by unfold maxLen; omega) hi h0, dec_f (show ¬ i = 0 by omega)]
    simp
  · rw [dec_f (show ¬ (0 : Int) < (i : Int) by omega), dec_t (show i = 0 by omega)]
    rfl
theorem isP_self (e : GEntry) : isP e.2.1 e.2.2.1 e = true := by unfold isP; simp
theorem s_log {l : List GEntry} (h : FineE l) : s_lgGood l = some (isLog l) := by
  unfold s_lgGood isLog
  rw [all_loop_at (n := l.length) (okE l) false ?_ ?_]
  · cases (List.range l.length).all (okE l) <;> rfl
  · intro i hi
    have hx : l[i]? = some l[i] := by simp [hi]
    have he := h.ent _ (List.getElem_mem hi)
    have hn : (!decide (atI (firstAt (isP l[i].2.1 l[i].2.2.1) l 0) = (i : Int))) = !newAt l i := by
      have hft := firstAt_take (isP l[i].2.1 l[i].2.2.1) l i 0 l[i] hx (isP_self _)
      rw [Nat.zero_add] at hft
      unfold newAt
      rw [hx]
      simp only
      cases hf : firstAt (isP l[i].2.1 l[i].2.2.1) l 0 with
      | none =>
        rw [hf] at hft
        have : decide (atI none = (i : Int)) = false := dec_f (show ¬ (-1 : Int) = (i : Int) by omega)
        rw [this]
        cases hg : firstAt (isP l[i].2.1 l[i].2.2.1) (l.take i) 0 with
        | none => exact absurd (hft.2 hg) (by simp)
        | some j => rfl
      | some j =>
        rw [hf] at hft
        cases hg : firstAt (isP l[i].2.1 l[i].2.2.1) (l.take i) 0 with
        | none =>
          have := hft.2 hg
          simp only [Option.some.injEq] at this
          subst this
          simp [atI]
        | some k =>
          have : ¬ j = i := fun e => by
            have := hft.1 (by rw [e])
            rw [hg] at this
            cases this
          have : decide (atI (some j) = (i : Int)) = false := dec_f (show ¬ (j : Int) = (i : Int) by omega)
          rw [this]
          rfl
    simp only [okE, idx_get, hx, Option.bind_some, at_lt hi, up (show l.length ≤ maxLen by unfold maxLen; have := h.len; omega) hi, s_ent he, s_at h.len, time_res h.len hi, hn, cond_true]
    cases entB l[i] <;> cases newAt l i <;> cases timeAt l i <;> rfl
  · simp
theorem i_log {l : List GEntry} (h : FineE l) : i_IsLog l = some (isLog l) := by
  unfold i_IsLog isLog
  have e30 : decide ((30 : Int) < (l.length : Int)) = !decide ((l.length : Int) ≤ 30) := by
    by_cases h : (l.length : Int) ≤ 30
    · rw [dec_t h, dec_f (by omega)]; rfl
    · rw [dec_f h, dec_t (by omega)]; rfl
  rw [e30]
  cases decide ((l.length : Int) ≤ 30) with
  | false => simp
  | true =>
  simp only [Bool.not_true, cond_false, Bool.and_true]
  rw [all_loop_at (n := l.length) (okE l) false ?_ ?_]
  · cases (List.range l.length).all (okE l) <;> rfl
  · intro i hi
    have hx : l[i]? = some l[i] := by simp [hi]
    have he := h.ent _ (List.getElem_mem hi)
    have hn : decide (0 ≤ atI (firstAt (isP l[i].2.1 l[i].2.2.1) (l.take i) 0)) = !newAt l i := by
      unfold newAt
      rw [hx]
      simp only
      cases firstAt (isP l[i].2.1 l[i].2.2.1) (l.take i) 0 with
      | none => rfl
      | some j => exact dec_t (show (0 : Int) ≤ (j : Int) by omega)
    have hsub : sub l 0 (i : Int) = some (l.take i) := sub_take (by omega)
    simp only [okE, idx_get, hx, Option.bind_some, at_lt hi, up (show l.length ≤ maxLen by unfold maxLen; have := h.len; omega) hi, i_ent he, time_res h.len hi, hsub, i_at (show (l.take i).length ≤ 1048576 by have := h.len; simp; omega), hn, cond_true]
    cases entB l[i] <;> cases newAt l i <;> cases timeAt l i <;> rfl
  · simp
def areLogs (L : List (List GEntry)) : Bool := inB (L.length : Int) 1 8 && L.all isLog
structure FineL (L : List (List GEntry)) : Prop where
  len : L.length ≤ 1048576
  log : ∀ l ∈ L, FineE l
theorem i_logs {L : List (List GEntry)} (h : FineL L) : i_AreLogs L = some (areLogs L) := by
  unfold i_AreLogs areLogs slices_ContainsFunc_Entry_70 slices_IndexFunc_Entry_70
  rw [find_loop (l := L) (fun l => !isLog l) ?_ ?_]
  · rw [within_eq]
    simp only [Option.bind_some]
    have hall : ∀ (L : List (List GEntry)) (k : Nat), decide (0 ≤ atI (firstAt (fun l => !isLog l) L k)) = !L.all isLog := fun L => by
      induction L with
      | nil => intro k; rfl
      | cons l L ih =>
        intro k
        unfold firstAt
        rw [List.all_cons]
        cases isLog l with
        | true => exact ih (k + 1)
        | false => exact dec_t (by show (0 : Int) ≤ (k : Int); omega)
    cases inB (L.length : Int) 1 8 with
    | false => rfl
    | true =>
      simp only [cond_true, Bool.true_and]
      have h0 := hall L 0
      cases hf : firstAt (fun l => !isLog l) L 0 with
      | none =>
        rw [hf] at h0
        have h1 : L.all isLog = true := by simpa [atI] using h0
        rw [h1]
        rfl
      | some j =>
        rw [hf] at h0
        have h1 : L.all isLog = false := by
          rw [dec_t (show (0 : Int) ≤ atI (some j) by show (0 : Int) ≤ (j : Int); omega)] at h0
          cases hh : L.all isLog with
          | false => rfl
          | true => rw [hh] at h0; cases h0
        simp only [Option.bind_some, dec_t (show (0 : Int) ≤ (j : Int) by omega), h1, Bool.not_true]
  · intro i x hx hi
    have hm : x ∈ L := List.mem_of_getElem? hx
    unfold i_AreLogs_1
    simp only [idx_get, hx, Option.bind_some, at_lt hi, up (show L.length ≤ maxLen by unfold maxLen; have := h.len; omega) hi, i_log (h.log x hm)]
    cases isLog x <;> rfl
  · simp
theorem s_logs {L : List (List GEntry)} (h : FineL L) : s_auGood L = some (areLogs L) := by
  unfold s_auGood areLogs
  rw [all_loop (l := L) isLog false ?_ ?_]
  · rw [l1In_eq]
    cases L.all isLog <;> cases inB (L.length : Int) 1 8 <;> rfl
  · intro i x hx hi
    have hm : x ∈ L := List.mem_of_getElem? hx
    simp only [idx_get, hx, Option.bind_some, at_lt hi, up (show L.length ≤ maxLen by unfold maxLen; have := h.len; omega) hi, s_log (h.log x hm)]
    cases isLog x <;> rfl
  · simp
end Go.Proofs.YtffmiefhnbkcbaaGreat.Sh
namespace Go.Proofs.YtffmiefhnbkcbaaGreat.Sh
open Go Go.Ab Go.Proofs
set_option maxRecDepth 100000
theorem range_eq {a b : List Int} (h : a.length = b.length) : ((List.range a.length).all fun i => decide (a[i]? = b[i]?)) = decide (a = b) := by
  by_cases he : a = b
  · subst he; simp
  · rw [dec_f he]
    cases hc : (List.range a.length).all fun i => decide (a[i]? = b[i]?) with
    | false => rfl
    | true =>
      exfalso
      rw [List.all_eq_true] at hc
      refine he (List.ext_getElem? fun i => ?_)
      by_cases hi : i < a.length
      · exact of_decide_eq_true (hc i (List.mem_range.2 hi))
      · rw [List.getElem?_eq_none (by omega), List.getElem?_eq_none (by omega)]
theorem len_ne {a b : List Int} (h : ¬ a.length = b.length) : decide (a = b) = false := dec_f fun e => h (by rw [e])
theorem equal_eq {a b : List Int} (h : a.length ≤ 1048576) : slices_Equal_int a b = some (decide (a = b)) := by
  unfold slices_Equal_int
  by_cases hl : a.length = b.length
  · rw [dec_t (show (a.length : Int) = (b.length : Int) by omega)]
    simp only [Bool.not_true, cond_false]
    rw [all_loop_at (n := a.length) (fun i => decide (a[i]? = b[i]?)) false ?_ ?_]
    · rw [range_eq hl]
      cases decide (a = b) <;> rfl
    · intro i hi
      have e1 : a[i]? = some a[i] := by simp [hi]
      have e2 : b[i]? = some (b[i]'(by omega)) := by simp [show i < b.length by omega]
      simp only [idx_get, e1, e2, Option.bind_some, at_lt hi, up (show a.length ≤ maxLen by unfold maxLen; omega) hi, Option.some.injEq, cond_true]
      cases decide (a[i] = b[i]'(by omega)) <;> rfl
    · simp
  · rw [dec_f (show ¬ (a.length : Int) = (b.length : Int) by omega), len_ne hl]; rfl
theorem same_eq {a b : List Int} (h : a.length ≤ 1048576) : s_l1Same a b = some (decide (a = b)) := by
  unfold s_l1Same
  by_cases hl : a.length = b.length
  · rw [dec_t (show (a.length : Int) = (b.length : Int) by omega)]
    simp only [Bool.not_true, cond_false]
    rw [all_loop_at (n := a.length) (fun i => decide (a[i]? = b[i]?)) false ?_ ?_]
    · rw [range_eq hl]
      cases decide (a = b) <;> rfl
    · intro i hi
      have e1 : a[i]? = some a[i] := by simp [hi]
      have e2 : b[i]? = some (b[i]'(by omega)) := by simp [show i < b.length by omega]
      simp only [idx_get, e1, e2, Option.bind_some, at_lt hi, up (show a.length ≤ maxLen by unfold maxLen; omega) hi, Option.some.injEq, cond_true]
      cases decide (a[i] = b[i]'(by omega)) <;> rfl
    · simp
  · rw [dec_f (show ¬ (a.length : Int) = (b.length : Int) by omega), len_ne hl]; rfl
theorem qInts_eq {a b : List Int} (h : a.length ≤ 1048576) : l_qInts a b = some (decide (a = b)) := by
  unfold l_qInts
  by_cases hl : a.length = b.length
  · rw [dec_t (show (a.length : Int) = (b.length : Int) by omega)]
    simp only [Bool.not_true, cond_false]
    rw [all_loop_at (n := a.length) (fun i => decide (a[i]? = b[i]?)) false ?_ ?_]
    · rw [range_eq hl]
      cases decide (a = b) <;> rfl
    · intro i hi
      have e1 : a[i]? = some a[i] := by simp [hi]
      have e2 : b[i]? = some (b[i]'(by omega)) := by simp [show i < b.length by omega]
      simp only [idx_get, e1, e2, Option.bind_some, at_lt hi, up (show a.length ≤ maxLen by unfold maxLen; omega) hi, Option.some.injEq, cond_true]
      cases decide (a[i] = b[i]'(by omega)) <;> rfl
    · simp
  · rw [dec_f (show ¬ (a.length : Int) = (b.length : Int) by omega), len_ne hl]; rfl
theorem coll_loop {α β : Type} {l : List α} (g : α → List β) {f : List β × Int → Option ((List β × Int) ⊕ List β)} (hl : l.length ≤ 1048576) (hg : ∀ x ∈ l, (g x).length ≤ 1)
    (hf : ∀ (out : List β) (i : Nat) x, l[i]? = some x → i < l.length → out.length ≤ 100000000 → f (out, (i : Int)) = some (.inl (out ++ g x, ((i + 1 : Nat) : Int)))) (hend : ∀ out, f (out, (l.length : Int)) = some (.inr out)) (init : List β) (hi : init.length ≤ 50000000) : loopE f (init, 0) = some (init ++ l.flatMap g) := by
  have main : ∀ (r pre : List α) (out : List β), l = pre ++ r → out.length ≤ 50000000 + pre.length → loopE f (out, (pre.length : Int)) = some (out ++ r.flatMap g) := by
    intro r
    induction r with
    | nil =>
      intro pre out e _
      rw [List.append_nil] at e
      subst e
      rw [loopE_done (hend out)]
      simp
    | cons x r ih =>
      intro pre out e ho
      have hp : pre.length < l.length := by rw [e]; simp
      have hx : l[pre.length]? = some x := by rw [e]; simp
      have h1 := hg x (by rw [e]; simp)
      rw [loopE_step (hf out pre.length x hx hp (by omega))]
      have := ih (pre ++ [x]) (out ++ g x) (by rw [e]; simp) (by simp; omega)
      simp only [List.length_append, List.length_singleton] at this
      rw [this]
      simp
  exact main l [] init rfl (by simpa using hi)
structure SmE (l : List GEntry) : Prop where
  len : l.length ≤ 100
  ent : ∀ e ∈ l, e.2.2.2.1.length ≤ 100 ∧ e.2.2.2.2.1.length ≤ 100
def kindV (b : List GEntry) (e : GEntry) : Int := match firstAt (isP e.2.1 e.2.2.1) b 0 with
  | none => 1
  | some j => match b[j]? with
    | none => 0
    | some d => bif !decide (d.2.2.2.1 = e.2.2.2.2.1) then 2 else bif decide (d.1 < e.1) then 3 else 0
def outK (b : List GEntry) (e : GEntry) : List (List Int) := bif decide (0 < kindV b e) then [[e.2.1, e.2.2.1, kindV b e]] else []
def newK (a : List GEntry) (e : GEntry) : List (List Int) := bif (firstAt (isP e.2.1 e.2.2.1) a 0).isNone then [[e.2.1, e.2.2.1, 4]] else []
def pairV (a b : List GEntry) : List (List Int) := a.flatMap (outK b) ++ b.flatMap (newK a)
theorem outK_len (b : List GEntry) (e : GEntry) : (outK b e).length ≤ 1 := by unfold outK; cases decide (0 < kindV b e) <;> simp
theorem newK_len (b : List GEntry) (e : GEntry) : (newK b e).length ≤ 1 := by unfold newK; cases (firstAt (isP e.2.1 e.2.2.1) b 0).isNone <;> simp
theorem flat_len {α β : Type} (g : α → List β) : ∀ l : List α, (∀ x ∈ l, (g x).length ≤ 1) → (l.flatMap g).length ≤ l.length
  | [], _ => by simp
  | x :: l, h => by
    have := flat_len g l fun y hy => h y (List.mem_cons_of_mem _ hy)
    have := h x (List.mem_cons_self ..)
    simp only [List.flatMap_cons, List.length_append, List.length_cons]
    omega
theorem pairV_len (a b : List GEntry) : (pairV a b).length ≤ a.length + b.length := by
  unfold pairV
  rw [List.length_append]
  have := flat_len (outK b) a fun x _ => outK_len b x
  have := flat_len (newK a) b fun x _ => newK_len a x
  omega
theorem pairV_3 {a b : List GEntry} {x : List Int} (h : x ∈ pairV a b) : x.length = 3 := by
  unfold pairV at h
  rw [List.mem_append] at h
  rcases h with h | h
  · obtain ⟨e, _, h⟩ := List.mem_flatMap.1 h
    unfold outK at h
    cases hd : decide (0 < kindV b e) with
    | true => rw [hd] at h; simp at h; rw [h]; rfl
    | false => rw [hd] at h; simp at h
  · obtain ⟨e, _, h⟩ := List.mem_flatMap.1 h
    unfold newK at h
    cases hd : (firstAt (isP e.2.1 e.2.2.1) a 0).isNone with
    | true => rw [hd] at h; simp at h; rw [h]; rfl
    | false => rw [hd] at h; simp at h
theorem up1 {i n : Nat} (hi : i < n) (hn : n ≤ 1048576) : w64 ((i : Int) + 1) = ((i + 1 : Nat) : Int) := w64_of (by omega) (by omega)
theorem lim1 {α : Type} {l : List α} {x : α} (h : l.length ≤ 100000000) : decide (List.length l + List.length [x] ≤ lim) = true := dec_t (by unfold lim; simp only [List.length_singleton]; omega)
theorem first_lt {l : List GEntry} {t : GEntry → Bool} {j : Nat} (h : firstAt t l 0 = some j) : j < l.length := by
  have := firstAt_lt t l 0 j h; omega
theorem i_pair {a b : List GEntry} (ha : SmE a) (hb : SmE b) : i_pairFaults a b = some (pairV a b) := by
  have hla := ha.len
  have hlb := hb.len
  unfold i_pairFaults
  rw [coll_loop (l := a) (outK b) (by omega) (fun x _ => outK_len b x) (fun out i x hx hi ho => ?_) (fun out => ?_) [] (by simp)]
  · simp only [Option.bind_some]
    rw [coll_loop (l := b) (newK a) (by omega) (fun x _ => newK_len a x) (fun out i x hx hi ho => ?_) (fun out => ?_) _ (by have := flat_len (outK b) a fun x _ => outK_len b x; simp only [List.nil_append]; omega)]
    · rfl
    · simp only [at_lt hi, cond_true, idx_get, hx, Option.bind_some, i_at (show a.length ≤ 1048576 by omega), newK, up1 hi (by omega)]
      cases hf : firstAt (isP x.2.1 x.2.2.1) a 0 with
      | none =>
        rw [dec_t (show atI none < 0 by decide), lim1 ho]
        rfl
      | some j =>
        rw [dec_f (show ¬ atI (some j) < 0 by show ¬ (j : Int) < 0; omega)]
        simp
    · simp
  · simp only [at_lt hi, cond_true, idx_get, hx, Option.bind_some, i_at (show b.length ≤ 1048576 by omega), outK, up1 hi (by omega)]
    have hex := ha.ent x (List.mem_of_getElem? hx)
    unfold kindV
    cases hf : firstAt (isP x.2.1 x.2.2.1) b 0 with
    | none =>
      rw [dec_t (show atI none < 0 by decide)]
      simp only [cond_true, lim1 ho]
      rfl
    | some j =>
      have hj := first_lt hf
      have hd : b[j]? = some b[j] := by simp [hj]
      have hed := hb.ent _ (List.getElem_mem hj)
      rw [dec_f (show ¬ atI (some j) < 0 by show ¬ (j : Int) < 0; omega)]
      simp only [cond_false, atI, idx_get, hd, Option.bind_some, equal_eq (show b[j].2.2.2.1.length ≤ 1048576 by omega)]
      cases decide (b[j].2.2.2.1 = x.2.2.2.2.1) with
      | false =>
        simp only [Bool.not_false, cond_true, lim1 ho]
        rfl
      | true =>
        simp only [Bool.not_true, cond_false]
        cases decide (b[j].1 < x.1) with
        | true => simp only [cond_true, lim1 ho]; rfl
        | false => simp
  · simp
theorem s_kind {b : List GEntry} (hb : SmE b) (e : GEntry) : s_auKind e b = some (kindV b e) := by
  have hlb := hb.len
  unfold s_auKind kindV
  rw [s_at (by omega)]
  simp only [Option.bind_some]
  cases hf : firstAt (isP e.2.1 e.2.2.1) b 0 with
  | none => rfl
  | some j =>
    have hj := first_lt hf
    have hd : b[j]? = some b[j] := by simp [hj]
    have hed := hb.ent _ (List.getElem_mem hj)
    rw [dec_f (show ¬ atI (some j) < 0 by show ¬ (j : Int) < 0; omega)]
    simp only [cond_false, atI, idx_get, hd, Option.bind_some, same_eq (show b[j].2.2.2.1.length ≤ 1048576 by omega)]
    cases decide (b[j].2.2.2.1 = e.2.2.2.2.1) <;> cases decide (b[j].1 < e.1) <;> rfl
theorem s_pair {a b : List GEntry} (ha : SmE a) (hb : SmE b) : s_auPair a b = some (pairV a b) := by
  have hla := ha.len
  have hlb := hb.len
  unfold s_auPair
  rw [coll_loop (l := a) (outK b) (by omega) (fun x _ => outK_len b x) (fun out i x hx hi ho => ?_) (fun out => ?_) [] (by simp)]
  · simp only [Option.bind_some]
    rw [coll_loop (l := b) (newK a) (by omega) (fun x _ => newK_len a x) (fun out i x hx hi ho => ?_) (fun out => ?_) _ (by have := flat_len (outK b) a fun x _ => outK_len b x; simp only [List.nil_append]; omega)]
    · rfl
    · simp only [at_lt hi, cond_true, idx_get, hx, Option.bind_some, s_at (show a.length ≤ 1048576 by omega), newK, up1 hi (by omega)]
      cases hf : firstAt (isP x.2.1 x.2.2.1) a 0 with
      | none =>
        rw [dec_t (show atI none < 0 by decide), lim1 ho]
        rfl
      | some j =>
        rw [dec_f (show ¬ atI (some j) < 0 by show ¬ (j : Int) < 0; omega)]
        simp
    · simp
  · simp only [at_lt hi, cond_true, idx_get, hx, Option.bind_some, s_kind hb, outK, up1 hi (by omega), lim1 ho]
    cases decide (0 < kindV b x) <;> simp
  · simp
end Go.Proofs.YtffmiefhnbkcbaaGreat.Sh
namespace Go.Proofs.YtffmiefhnbkcbaaGreat.Sh
open Go Go.Ab Go.Proofs
set_option maxRecDepth 100000
def chg (i : Nat) (e : GEntry) : List (List Int) := bif decide (e.2.2.2.1 = e.2.2.2.2.1) then [] else [[e.2.1, e.2.2.1, 5, (i : Int)]]
def nextV (i : Nat) (l : List GEntry) : List (List GEntry) → List (List Int)
  | [] => []
  | m :: _ => (pairV l m).map (· ++ [(i : Int)])
def lineV : Nat → List (List GEntry) → List (List Int)
  | _, [] => []
  | i, l :: r => l.flatMap (chg i) ++ nextV i l r ++ lineV (i + 1) r
theorem chg_len (i : Nat) (e : GEntry) : (chg i e).length ≤ 1 := by unfold chg; cases decide (e.2.2.2.1 = e.2.2.2.2.1) <;> simp
structure SmL (L : List (List GEntry)) : Prop where
  len : L.length ≤ 100
  log : ∀ l ∈ L, SmE l
theorem drop_at {α : Type} {L : List α} {i : Nat} (hi : i < L.length) : L.drop i = L[i] :: L.drop (i + 1) := List.drop_eq_getElem_cons hi
theorem i_line {L : List (List GEntry)} (h : SmL L) : i_lineFaults L = some (lineV 0 L) := by
  have hL := h.len
  unfold i_lineFaults
  suffices hh : To (loopE _ _) (fun r => r = lineV 0 L) by
    obtain ⟨r, e, rfl⟩ := hh
    exact bind_eq e rfl
  refine To.loop (fun m st => ∃ (i : Nat) (out : List (List Int)), st = (out, (i : Int)) ∧ i + m = L.length ∧ out.length ≤ 1000 * i ∧ out ++ lineV i (L.drop i) = lineV 0 L) (n := L.length) ⟨0, [], rfl, by omega, by simp, by simp⟩ fun m st ⟨i, out, hst, him, ho, hv⟩ => ?_
  subst hst
  simp only
  cases m with
  | zero =>
    obtain rfl : i = L.length := by omega
    rw [List.drop_length] at hv
    rw [dec_f (by omega)]
    exact .ret (Turn.end_ (by rw [← hv]; simp [lineV]))
  | succ m =>
    have hi : i < L.length := by omega
    have hx : L[i]? = some L[i] := by simp [hi]
    have hl := h.log _ (List.getElem_mem hi)
    rw [drop_at hi] at hv
    generalize L[i] = l at hx hl hv
    have hll := hl.len
    have hw : w64 ((i : Int) + 1) = ((i + 1 : Nat) : Int) := up1 hi (by omega)
    simp only [at_lt hi, cond_true, idx_get, hx, Option.bind_some, hw]
    refine To.bind (Q := fun o => o = out ++ l.flatMap (chg i)) ⟨_, coll_loop (l := l) (chg i) (by omega) (fun x _ => chg_len i x) (fun out i' x hx hi ho => ?_) (fun out => ?_) out (by omega), rfl⟩ fun o hoo => ?_
    · have hex := hl.ent x (List.mem_of_getElem? hx)
      simp only [at_lt hi, cond_true, idx_get, hx, Option.bind_some, chg, up1 hi (by omega), equal_eq (show x.2.2.2.1.length ≤ 1048576 by omega), lim1 ho]
      cases decide (x.2.2.2.1 = x.2.2.2.2.1) <;> simp
    · simp
    · subst hoo
      have hc := flat_len (chg i) l fun x _ => chg_len i x
      by_cases h2 : i + 1 < L.length
      · have hx2 : L[i + 1]? = some L[i + 1] := by simp [h2]
        have hl2 := h.log _ (List.getElem_mem h2)
        rw [dec_t (show ((i + 1 : Nat) : Int) < (L.length : Int) by omega)]
        have hv2 : out ++ (l.flatMap (chg i) ++ (pairV l L[i + 1]).map (· ++ [(i : Int)]) ++ lineV (i + 1) (L.drop (i + 1))) = lineV 0 L := by
          rw [← hv, lineV]
          congr 3
          rw [drop_at h2]
          rfl
        generalize L[i + 1] = l2 at hx2 hl2 hv2
        have hll2 := hl2.len
        simp only [cond_true, idx_get, hx2, Option.bind_some, i_pair hl hl2]
        have hp := pairV_len l l2
        have hp3 : ∀ x ∈ pairV l l2, x.length = 3 := fun x hx => pairV_3 hx
        generalize pairV l l2 = ps at hv2 hp hp3
        generalize hB : out ++ l.flatMap (chg i) = B
        have hBl : B.length ≤ 1000 * i + 100 := by rw [← hB, List.length_append]; omega
        refine (To.loop (fun m st => ∃ j : Nat, st = (B ++ (ps.take j).map (· ++ [(i : Int)]), (j : Int), ps, (j : Int)) ∧ j + m = ps.length) (Q := fun r => r = B ++ ps.map (· ++ [(i : Int)])) (n := ps.length) ⟨0, by simp, by omega⟩ fun m2 st ⟨j, hst, hj⟩ => ?_).bind fun r hr => .ret (Turn.on m (by omega) ⟨i + 1, r, rfl, by omega, ?_, ?_⟩)
        · subst hst
          simp only
          cases m2 with
          | zero =>
            obtain rfl : j = ps.length := by omega
            rw [dec_f (by omega)]
            exact .ret (Turn.end_ (by rw [List.take_length]))
          | succ m2 =>
            have hjl : j < ps.length := by omega
            have hxj : ps[j]? = some ps[j] := by simp [hjl]
            have h3 := hp3 _ (List.getElem_mem hjl)
            have htk : ps.take (j + 1) = ps.take j ++ [ps[j]] := by rw [List.take_add_one, hxj]; rfl
            have hlen : (B ++ (ps.take j).map (· ++ [(i : Int)])).length ≤ 100000000 := by
              rw [List.length_append, List.length_map, List.length_take]; omega
            generalize hT : B ++ (ps.take j).map (· ++ [(i : Int)]) = T at hlen
            rw [dec_t (show (j : Int) < (ps.length : Int) by omega), dec_t (show (0 : Int) ≤ (j : Int) by omega)]
            simp only [Bool.and_self, cond_true, Int.toNat_natCast, Nat.beq_refl, hxj, Option.bind_some, lim1 hlen, lim1 (show ps[j].length ≤ 100000000 by omega), up1 hjl (by omega)]
            refine .ret (Turn.on m2 (by omega) ⟨j + 1, ?_, by omega⟩)
            rw [htk, List.map_append, ← List.append_assoc, hT]
            rfl
        · rw [hr, List.length_append, List.length_map]; omega
        · rw [hr, ← hB, ← hv2]; simp
      · have hnil : L.drop (i + 1) = [] := List.drop_eq_nil_of_le (by omega)
        rw [dec_f (show ¬ ((i + 1 : Nat) : Int) < (L.length : Int) by omega)]
        refine .ret (Turn.on m (by omega) ⟨i + 1, _, rfl, by omega, by rw [List.length_append]; omega, ?_⟩)
        rw [hnil] at hv ⊢
        rw [← hv]
        simp [lineV, nextV]
theorem s_line {L : List (List GEntry)} (h : SmL L) : s_auLine L = some (lineV 0 L) := by
  have hL := h.len
  unfold s_auLine
  suffices hh : To (loopE _ _) (fun r => r = lineV 0 L) by
    obtain ⟨r, e, rfl⟩ := hh
    exact bind_eq e rfl
  refine To.loop (fun m st => ∃ (i : Nat) (out : List (List Int)), st = (out, (i : Int)) ∧ i + m = L.length ∧ out.length ≤ 1000 * i ∧ out ++ lineV i (L.drop i) = lineV 0 L) (n := L.length) ⟨0, [], rfl, by omega, by simp, by simp⟩ fun m st ⟨i, out, hst, him, ho, hv⟩ => ?_
  subst hst
  simp only
  cases m with
  | zero =>
    obtain rfl : i = L.length := by omega
    rw [List.drop_length] at hv
    rw [dec_f (by omega)]
    exact .ret (Turn.end_ (by rw [← hv]; simp [lineV]))
  | succ m =>
    have hi : i < L.length := by omega
    have hx : L[i]? = some L[i] := by simp [hi]
    have hl := h.log _ (List.getElem_mem hi)
    rw [drop_at hi] at hv
    generalize L[i] = l at hx hl hv
    have hll := hl.len
    have hw : w64 ((i : Int) + 1) = ((i + 1 : Nat) : Int) := up1 hi (by omega)
    simp only [at_lt hi, cond_true, idx_get, hx, Option.bind_some, hw]
    refine To.bind (Q := fun o => o = out ++ l.flatMap (chg i)) ⟨_, coll_loop (l := l) (chg i) (by omega) (fun x _ => chg_len i x) (fun out i' x hx hi ho => ?_) (fun out => ?_) out (by omega), rfl⟩ fun o hoo => ?_
    · have hex := hl.ent x (List.mem_of_getElem? hx)
      simp only [at_lt hi, cond_true, idx_get, hx, Option.bind_some, chg, up1 hi (by omega), same_eq (show x.2.2.2.1.length ≤ 1048576 by omega), lim1 ho]
      cases decide (x.2.2.2.1 = x.2.2.2.2.1) <;> simp
    · simp
    · subst hoo
      have hc := flat_len (chg i) l fun x _ => chg_len i x
      by_cases h2 : i + 1 < L.length
      · have hx2 : L[i + 1]? = some L[i + 1] := by simp [h2]
        have hl2 := h.log _ (List.getElem_mem h2)
        rw [dec_f (show ¬ ((i + 1 : Nat) : Int) = (L.length : Int) by omega)]
        have hv2 : out ++ (l.flatMap (chg i) ++ (pairV l L[i + 1]).map (· ++ [(i : Int)]) ++ lineV (i + 1) (L.drop (i + 1))) = lineV 0 L := by
          rw [← hv, lineV]
          congr 3
          rw [drop_at h2]
          rfl
        generalize L[i + 1] = l2 at hx2 hl2 hv2
        have hll2 := hl2.len
        simp only [cond_false, idx_get, hx2, Option.bind_some, s_pair hl hl2]
        have hp := pairV_len l l2
        have hp3 : ∀ x ∈ pairV l l2, x.length = 3 := fun x hx => pairV_3 hx
        generalize pairV l l2 = ps at hv2 hp hp3
        generalize hB : out ++ l.flatMap (chg i) = B
        have hBl : B.length ≤ 1000 * i + 100 := by rw [← hB, List.length_append]; omega
        refine (To.loop (fun m st => ∃ j : Nat, st = (B ++ (ps.take j).map (· ++ [(i : Int)]), ps, (j : Int)) ∧ j + m = ps.length) (Q := fun r => r = B ++ ps.map (· ++ [(i : Int)])) (n := ps.length) ⟨0, by simp, by omega⟩ fun m2 st ⟨j, hst, hj⟩ => ?_).bind fun r hr => .ret (Turn.on m (by omega) ⟨i + 1, r, rfl, by omega, ?_, ?_⟩)
        · subst hst
          simp only
          cases m2 with
          | zero =>
            obtain rfl : j = ps.length := by omega
            rw [dec_f (by omega)]
            exact .ret (Turn.end_ (by rw [List.take_length]))
          | succ m2 =>
            have hjl : j < ps.length := by omega
            have hxj : ps[j]? = some ps[j] := by simp [hjl]
            have h3 := hp3 _ (List.getElem_mem hjl)
            have htk : ps.take (j + 1) = ps.take j ++ [ps[j]] := by rw [List.take_add_one, hxj]; rfl
            have hlen : (B ++ (ps.take j).map (· ++ [(i : Int)])).length ≤ 100000000 := by
              rw [List.length_append, List.length_map, List.length_take]; omega
            generalize hT : B ++ (ps.take j).map (· ++ [(i : Int)]) = T at hlen
            rw [dec_t (show (j : Int) < (ps.length : Int) by omega), dec_t (show (0 : Int) ≤ (j : Int) by omega)]
            simp only [Bool.and_self, cond_true, Int.toNat_natCast, hxj, Option.bind_some, ownInt (show ps[j].length ≤ 1048576 by omega), lim1 hlen, lim1 (show ps[j].length ≤ 100000000 by omega), up1 hjl (by omega)]
            refine .ret (Turn.on m2 (by omega) ⟨j + 1, ?_, by omega⟩)
            rw [htk, List.map_append, ← List.append_assoc, hT]
            rfl
        · rw [hr, List.length_append, List.length_map]; omega
        · rw [hr, ← hB, ← hv2]; simp
      · have hnil : L.drop (i + 1) = [] := List.drop_eq_nil_of_le (by omega)
        rw [dec_t (show ((i + 1 : Nat) : Int) = (L.length : Int) by omega)]
        refine .ret (Turn.end_ ?_)
        rw [hnil] at hv
        rw [← hv]
        simp [lineV, nextV]
theorem sm_of {L : List (List GEntry)} (h : areLogs L = true) : SmL L := by
  unfold areLogs at h
  rw [Bool.and_eq_true, inB_iff, List.all_eq_true] at h
  refine ⟨by omega, fun l hl => ?_⟩
  have := h.2 l hl
  unfold isLog at this
  rw [Bool.and_eq_true, List.all_eq_true, decide_eq_true_eq] at this
  refine ⟨by omega, fun e he => ?_⟩
  obtain ⟨i, hi, rfl⟩ := List.getElem_of_mem he
  have := this.1 i (List.mem_range.2 hi)
  unfold okE at this
  rw [List.getElem?_eq_getElem hi, Bool.and_eq_true] at this
  have := this.1
  unfold entB at this
  simp only [Bool.and_eq_true, inB_iff] at this
  omega
def trueV (L : List (List GEntry)) : Bool × Bool := bif areLogs L then (decide (((lineV 0 L).length : Int) = 0), true) else (false, false)
theorem i_true {L : List (List GEntry)} (h : FineL L) : i_IsTrueLine L = some (trueV L) := by
  unfold i_IsTrueLine trueV
  rw [i_logs h]
  simp only [Option.bind_some]
  cases ha : areLogs L with
  | false => rfl
  | true => rw [i_line (sm_of ha)]; rfl
theorem s_true {L : List (List GEntry)} (h : FineL L) : s_IsTrueLine L = some (trueV L) := by
  unfold s_IsTrueLine trueV
  rw [s_logs h]
  simp only [Option.bind_some]
  cases ha : areLogs L with
  | false => rfl
  | true => rw [s_line (sm_of ha)]; rfl
end Go.Proofs.YtffmiefhnbkcbaaGreat.Sh
