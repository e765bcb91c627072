/-
  A line of a script taken apart, both ways the same.
-/
import Derived.Test.YtkemmodgpafkmaaGreatDoorSAW
import Derived.Test.YtkemmodgpafkmaaGreatDoorSPY3
import Derived.Test.YtkemmodgpafkmaaGreatDoorSRV
namespace Go.Proofs.YtkemmodgpafkmaaGreatDoor.Sh
open Go Go.Ab Go.Proofs
def isBad (r : Bytes) : Bool := decide (r = ([110, 111] : Bytes)) || decide (r = w_what)
abbrev csOf (s : GscriptStateK) (no what : List Int) (ln : Int) : GcsState := (s.1, s.2.1, s.2.2.1, s.2.2.2.1, s.2.2.2.2.1, s.2.2.2.2.2.1, no, what, ln, ())
def lettersV (x : Bytes) : Bool := x.all Q.low && inB (x.length : Int) 1 40
def numsV (w x : Bytes) (r : List Bytes) : Option (Bytes × List Int) := bif r.all isNum && inB (r.length : Int) ((wants w).getD (-1, -1)).1 ((wants w).getD (-1, -1)).2 then some (x, r.map rdV) else none
def parseV (w : Bytes) (rest : List Bytes) : Option (Bytes × List Int) :=
  bif decide (w = w_phrase) || decide (w = w_code) then
    match rest with
    | [] => none
    | x :: r => bif lettersV x then numsV w x r else none
  else numsV w [] rest
theorem split_32 {t : Bytes} (hl : t.length < 4294967290) : s_l1Split t 32 = some (cut 32 t) := split_loop (c := 32) rfl hl
theorem sub_one (w : Bytes) (rest : List Bytes) : sub (w :: rest) 1 ((w :: rest).length : Int) = some rest := by
  have := sub_drop (l := w :: rest) (n := 1) (by simp)
  simpa using this
theorem nums_end {w x : Bytes} {r : List Bytes} : ∃ p : Bytes × List Int × Bool, ((s_l1In ((r.map rdV).length : Int) ((wants w).getD (-1, -1)).1 ((wants w).getD (-1, -1)).2).bind fun r20 => some (x, r.map rdV, r20)) = some p ∧
    p.2.2 = inB (r.length : Int) ((wants w).getD (-1, -1)).1 ((wants w).getD (-1, -1)).2 ∧ p.1 = x ∧ p.2.1 = r.map rdV := by
  rw [l1In_eq, List.length_map]
  exact ⟨_, rfl, rfl, rfl, rfl⟩
theorem parse_s {w : Bytes} {rest : List Bytes} (hl : rest.length ≤ 100000) (hs : ∀ s ∈ rest, s.length ≤ maxLen) : ∃ p, s_csParse (w :: rest) = some p ∧ p.2.2 = (parseV w rest).isSome ∧ ∀ q, parseV w rest = some q → p.1 = q.1 ∧ p.2.1 = q.2 := by
  unfold s_csParse
  simp only [show idx (w :: rest) 0 = some w from rfl, count_s, Option.bind_some, sub_one]
  have e6 : (bif decide (w = w_phrase) then some true else some (decide (w = w_code))) = some (decide (w = w_phrase) || decide (w = w_code)) := by cases decide (w = w_phrase) <;> rfl
  rw [e6]
  unfold parseV
  simp only [Option.bind_some]
  cases decide (w = w_phrase) || decide (w = w_code) with
  | false =>
    simp only [cond_false, s_nums hl hs, Option.bind_some]
    unfold numsV
    cases rest.all isNum with
    | false => exact ⟨_, rfl, rfl, fun q h => by cases h⟩
    | true =>
      obtain ⟨p, h1, h2, h3, h4⟩ := nums_end (w := w) (x := []) (r := rest)
      refine ⟨p, h1, ?_, fun q hq => ?_⟩
      · rw [h2]
        cases inB (rest.length : Int) ((wants w).getD (-1, -1)).1 ((wants w).getD (-1, -1)).2 <;> rfl
      · cases hi : inB (rest.length : Int) ((wants w).getD (-1, -1)).1 ((wants w).getD (-1, -1)).2 with
        | false => rw [hi] at hq; cases hq
        | true => rw [hi] at hq; cases hq; exact ⟨h3, h4⟩
  | true =>
    simp only [cond_true]
    cases rest with
    | nil => exact ⟨_, rfl, rfl, fun q h => by cases h⟩
    | cons x r =>
      have hx := hs x (by simp)
      rw [show decide (((x :: r).length : Int) = 0) = false from decide_eq_false (by simp; omega)]
      simp only [cond_false, show idx (x :: r) 0 = some x from rfl, Option.bind_some, letters_s hx]
      rw [show (x.all Q.low && inB (x.length : Int) 1 40) = lettersV x from rfl]
      cases lettersV x with
      | false => exact ⟨_, rfl, rfl, fun q h => by cases h⟩
      | true =>
        simp only [Bool.not_true, cond_false, sub_one, Option.bind_some, s_nums (ws := r) (by simp at hl; omega) (fun s h => hs s (List.mem_cons_of_mem _ h)), cond_true]
        unfold numsV
        cases r.all isNum with
        | false => exact ⟨_, rfl, rfl, fun q h => by cases h⟩
        | true =>
          obtain ⟨p, h1, h2, h3, h4⟩ := nums_end (w := w) (x := x) (r := r)
          refine ⟨p, h1, ?_, fun q hq => ?_⟩
          · rw [h2]
            cases inB (r.length : Int) ((wants w).getD (-1, -1)).1 ((wants w).getD (-1, -1)).2 <;> rfl
          · cases hi : inB (r.length : Int) ((wants w).getD (-1, -1)).1 ((wants w).getD (-1, -1)).2 with
            | false => rw [hi] at hq; cases hq
            | true => rw [hi] at hq; cases hq; exact ⟨h3, h4⟩
theorem i_nums {ws : List Bytes} (hl : ws.length ≤ 100000) (hs : ∀ s ∈ ws, s.length ≤ 1048576) (a b c : List GTower) (d : List GPhrase) (e f : Int) (g : List Int) (h : List GTicket) (i : List GTower) (v : Value) : loopE (fun (st14 : (List GTower) × (List GTower) × (List GTower) × (List GPhrase) × Int × Int × (List Int) × (List GTicket) × (List GTower) × Value × (List Int) × Int) => (
  bif (decide (st14.2.2.2.2.2.2.2.2.2.2.2 < (ws.length : Int))) then
  (idx ws st14.2.2.2.2.2.2.2.2.2.2.2).bind fun e15 =>
  (readF e15).bind fun r16 =>
  (bif (!r16.2) then
  some true
  else
  some (decide (99999 < r16.1))).bind fun c17 =>
  bif c17 then
  some (.inr (.inr (st14.1, st14.2.1, st14.2.2.1, st14.2.2.2.1, st14.2.2.2.2.1, st14.2.2.2.2.2.1, st14.2.2.2.2.2.2.1, st14.2.2.2.2.2.2.2.1, st14.2.2.2.2.2.2.2.2.1, st14.2.2.2.2.2.2.2.2.2.1, w_what)))
  else
  bif decide (0 ≤ st14.2.2.2.2.2.2.2.2.2.2.2) && decide (st14.2.2.2.2.2.2.2.2.2.2.2 < (st14.2.2.2.2.2.2.2.2.2.2.1.length : Int)) then
  some (.inl (st14.1, st14.2.1, st14.2.2.1, st14.2.2.2.1, st14.2.2.2.2.1, st14.2.2.2.2.2.1, st14.2.2.2.2.2.2.1, st14.2.2.2.2.2.2.2.1, st14.2.2.2.2.2.2.2.2.1, st14.2.2.2.2.2.2.2.2.2.1, (st14.2.2.2.2.2.2.2.2.2.2.1.set (Int.toNat st14.2.2.2.2.2.2.2.2.2.2.2) r16.1), (w64 (st14.2.2.2.2.2.2.2.2.2.2.2 + 1))))
  else
  none
  else
  some (.inr (.inl (st14.1, st14.2.1, st14.2.2.1, st14.2.2.2.1, st14.2.2.2.2.1, st14.2.2.2.2.2.1, st14.2.2.2.2.2.2.1, st14.2.2.2.2.2.2.2.1, st14.2.2.2.2.2.2.2.2.1, st14.2.2.2.2.2.2.2.2.2.1, st14.2.2.2.2.2.2.2.2.2.2.1))) : Option (((List GTower) × (List GTower) × (List GTower) × (List GPhrase) × Int × Int × (List Int) × (List GTicket) × (List GTower) × Value × (List Int) × Int) ⊕ (((List GTower) × (List GTower) × (List GTower) × (List GPhrase) × Int × Int × (List Int) × (List GTicket) × (List GTower) × Value × (List Int)) ⊕ ((List GTower) × (List GTower) × (List GTower) × (List GPhrase) × Int × Int × (List Int) × (List GTicket) × (List GTower) × Value × Bytes))))) (a, b, c, d, e, f, g, h, i, v, (List.replicate (Int.toNat (ws.length : Int)) (0 : Int)), 0) = some (bif ws.all isNum then .inl (a, b, c, d, e, f, g, h, i, v, ws.map rdV) else .inr (a, b, c, d, e, f, g, h, i, v, w_what)) := by
  have hlm : ws.length ≤ maxLen := by unfold maxLen; omega
  rw [for_loop (a := ws) (fun (out : List Int) (k : Int) => (a, b, c, d, e, f, g, h, i, v, out, k)) (fun (out : List Int) k x => bif isNum x then (if k < out.length then some (.inl (out.set k (rdV x))) else none) else some (.inr (.inr (a, b, c, d, e, f, g, h, i, v, w_what)))) (fun out => .inl (a, b, c, d, e, f, g, h, i, v, out)) (List.replicate (Int.toNat (ws.length : Int)) (0 : Int)) rfl ?_ ?_]
  · have := copy_check isNum rdV (fun out => (Sum.inl (a, b, c, d, e, f, g, h, i, v, out) : _ ⊕ ((List GTower) × (List GTower) × (List GTower) × (List GPhrase) × Int × Int × (List Int) × (List GTicket) × (List GTower) × Value × Bytes))) (.inr (a, b, c, d, e, f, g, h, i, v, w_what)) ws [] (List.replicate ws.length (0 : Int)) (by simp)
    simpa using this
  · intro out k x hk hx
    have hxl := hs x (List.mem_of_getElem? hx)
    obtain ⟨r1, r2⟩ := read_same x
    have hF : readF x = some (readV x) := by
      unfold readF
      rw [if_pos (by omega)]
    have hc : (bif (!(readV x).2) then some true else some (decide (99999 < (readV x).1))) = some (!isNum x) := by
      have : isNum x = (decide ((readV x).2 = true) && decide ((readV x).1 ≤ 99999)) := r1.symm
      rw [this, show decide (99999 < (readV x).1) = !decide ((readV x).1 ≤ 99999) from not_lt 99999 (readV x).1]
      cases (readV x).2 <;> cases decide ((readV x).1 ≤ 99999) <;> rfl
    simp only [at_lt hk, cond_true, idx_get, hx, Option.bind_some, hF, hc]
    cases hn : isNum x with
    | false => rfl
    | true =>
      have hv : (readV x).1 = rdV x := r2 hn
      simp only [Bool.not_true, cond_false, cond_true, hv, up hlm hk]
      by_cases h2 : k < out.length
      · rw [if_pos h2, show (decide (0 ≤ (k : Int)) && decide ((k : Int) < (out.length : Int))) = true by simp; omega]
        rfl
      · rw [if_neg h2, show (decide (0 ≤ (k : Int)) && decide ((k : Int) < (out.length : Int))) = false by simp; omega]
        rfl
  · intro out
    simp
noncomputable def implTail (x19 : (List GTower) × (List GTower) × (List GTower) × (List GPhrase) × Int × Int × (List Int) × (List GTicket) × (List GTower) × Value × (List Int)) (e2 letters : Bytes) : Option (GscriptStateR × Bytes) :=
   (bif (decide (e2 = w_phrase)) then
   some (x19.1, x19.2.1, x19.2.2.1, x19.2.2.2.1, x19.2.2.2.2.1, x19.2.2.2.2.2.1, x19.2.2.2.2.2.2.1, x19.2.2.2.2.2.2.2.1, x19.2.2.2.2.2.2.2.2.1, x19.2.2.2.2.2.2.2.2.2.1, x19.2.2.2.2.2.2.2.2.2.2, (decide (e2 = w_phrase)))
   else
   bif (decide (e2 = w_code)) then
   some (x19.1, x19.2.1, x19.2.2.1, x19.2.2.2.1, x19.2.2.2.2.1, x19.2.2.2.2.2.1, x19.2.2.2.2.2.2.1, x19.2.2.2.2.2.2.2.1, x19.2.2.2.2.2.2.2.2.1, x19.2.2.2.2.2.2.2.2.2.1, x19.2.2.2.2.2.2.2.2.2.2, (decide (e2 = w_code)))
   else
   bif (decide (e2 = w_read)) then
   some (x19.1, x19.2.1, x19.2.2.1, x19.2.2.2.1, x19.2.2.2.2.1, x19.2.2.2.2.2.1, x19.2.2.2.2.2.2.1, x19.2.2.2.2.2.2.2.1, x19.2.2.2.2.2.2.2.2.1, x19.2.2.2.2.2.2.2.2.2.1, x19.2.2.2.2.2.2.2.2.2.2, (decide (e2 = w_read)))
   else
   some (x19.1, x19.2.1, x19.2.2.1, x19.2.2.2.1, x19.2.2.2.2.1, x19.2.2.2.2.2.1, x19.2.2.2.2.2.2.1, x19.2.2.2.2.2.2.2.1, x19.2.2.2.2.2.2.2.2.1, x19.2.2.2.2.2.2.2.2.2.1, x19.2.2.2.2.2.2.2.2.2.2, (decide (e2 = w_hide)))).bind fun j24 =>
   bif j24.2.2.2.2.2.2.2.2.2.2.2 then
   (i_scriptState_bookLine ((j24.1, j24.2.1, ()), j24.2.2.1, (j24.2.2.2.1, ()), (j24.2.2.2.2.1, j24.2.2.2.2.2.1, j24.2.2.2.2.2.2.1, ()), j24.2.2.2.2.2.2.2.1, j24.2.2.2.2.2.2.2.2.1, j24.2.2.2.2.2.2.2.2.2.1, ()) e2 letters j24.2.2.2.2.2.2.2.2.2.2.1).bind fun r25 =>
   bif (!r25.2.2) then
   some (r25.1, ([110, 111] : Bytes))
   else
   some (r25.1, r25.2.1)
   else
   bif (decide (e2 = w_accept)) then
   bif (decide (e2 = w_accept)) then
   (i_scriptState_deskLine ((j24.1, j24.2.1, ()), j24.2.2.1, (j24.2.2.2.1, ()), (j24.2.2.2.2.1, j24.2.2.2.2.2.1, j24.2.2.2.2.2.2.1, ()), j24.2.2.2.2.2.2.2.1, j24.2.2.2.2.2.2.2.2.1, j24.2.2.2.2.2.2.2.2.2.1, ()) e2 j24.2.2.2.2.2.2.2.2.2.2.1).bind fun r26 =>
   bif (!r26.2.2) then
   some (r26.1, ([110, 111] : Bytes))
   else
   some (r26.1, r26.2.1)
   else
   (i_scriptState_netLine ((j24.1, j24.2.1, ()), j24.2.2.1, (j24.2.2.2.1, ()), (j24.2.2.2.2.1, j24.2.2.2.2.2.1, j24.2.2.2.2.2.2.1, ()), j24.2.2.2.2.2.2.2.1, j24.2.2.2.2.2.2.2.2.1, j24.2.2.2.2.2.2.2.2.2.1, ()) e2 j24.2.2.2.2.2.2.2.2.2.2.1).bind fun r27 =>
   bif (!r27.2.2) then
   some (r27.1, ([110, 111] : Bytes))
   else
   some (r27.1, r27.2.1)
   else
   bif (decide (e2 = w_arrived)) then
   bif (decide (e2 = w_arrived)) then
   (i_scriptState_deskLine ((j24.1, j24.2.1, ()), j24.2.2.1, (j24.2.2.2.1, ()), (j24.2.2.2.2.1, j24.2.2.2.2.2.1, j24.2.2.2.2.2.2.1, ()), j24.2.2.2.2.2.2.2.1, j24.2.2.2.2.2.2.2.2.1, j24.2.2.2.2.2.2.2.2.2.1, ()) e2 j24.2.2.2.2.2.2.2.2.2.2.1).bind fun r28 =>
   bif (!r28.2.2) then
   some (r28.1, ([110, 111] : Bytes))
   else
   some (r28.1, r28.2.1)
   else
   (i_scriptState_netLine ((j24.1, j24.2.1, ()), j24.2.2.1, (j24.2.2.2.1, ()), (j24.2.2.2.2.1, j24.2.2.2.2.2.1, j24.2.2.2.2.2.2.1, ()), j24.2.2.2.2.2.2.2.1, j24.2.2.2.2.2.2.2.2.1, j24.2.2.2.2.2.2.2.2.2.1, ()) e2 j24.2.2.2.2.2.2.2.2.2.2.1).bind fun r29 =>
   bif (!r29.2.2) then
   some (r29.1, ([110, 111] : Bytes))
   else
   some (r29.1, r29.2.1)
   else
   bif (decide (e2 = w_fail)) then
   bif (decide (e2 = w_fail)) then
   (i_scriptState_deskLine ((j24.1, j24.2.1, ()), j24.2.2.1, (j24.2.2.2.1, ()), (j24.2.2.2.2.1, j24.2.2.2.2.2.1, j24.2.2.2.2.2.2.1, ()), j24.2.2.2.2.2.2.2.1, j24.2.2.2.2.2.2.2.2.1, j24.2.2.2.2.2.2.2.2.2.1, ()) e2 j24.2.2.2.2.2.2.2.2.2.2.1).bind fun r30 =>
   bif (!r30.2.2) then
   some (r30.1, ([110, 111] : Bytes))
   else
   some (r30.1, r30.2.1)
   else
   (i_scriptState_netLine ((j24.1, j24.2.1, ()), j24.2.2.1, (j24.2.2.2.1, ()), (j24.2.2.2.2.1, j24.2.2.2.2.2.1, j24.2.2.2.2.2.2.1, ()), j24.2.2.2.2.2.2.2.1, j24.2.2.2.2.2.2.2.2.1, j24.2.2.2.2.2.2.2.2.2.1, ()) e2 j24.2.2.2.2.2.2.2.2.2.2.1).bind fun r31 =>
   bif (!r31.2.2) then
   some (r31.1, ([110, 111] : Bytes))
   else
   some (r31.1, r31.2.1)
   else
   bif (decide (e2 = w_where)) then
   (i_scriptState_deskLine ((j24.1, j24.2.1, ()), j24.2.2.1, (j24.2.2.2.1, ()), (j24.2.2.2.2.1, j24.2.2.2.2.2.1, j24.2.2.2.2.2.2.1, ()), j24.2.2.2.2.2.2.2.1, j24.2.2.2.2.2.2.2.2.1, j24.2.2.2.2.2.2.2.2.2.1, ()) e2 j24.2.2.2.2.2.2.2.2.2.2.1).bind fun r32 =>
   bif (!r32.2.2) then
   some (r32.1, ([110, 111] : Bytes))
   else
   some (r32.1, r32.2.1)
   else
   (i_scriptState_netLine ((j24.1, j24.2.1, ()), j24.2.2.1, (j24.2.2.2.1, ()), (j24.2.2.2.2.1, j24.2.2.2.2.2.1, j24.2.2.2.2.2.2.1, ()), j24.2.2.2.2.2.2.2.1, j24.2.2.2.2.2.2.2.2.1, j24.2.2.2.2.2.2.2.2.2.1, ()) e2 j24.2.2.2.2.2.2.2.2.2.2.1).bind fun r33 =>
   bif (!r33.2.2) then
   some (r33.1, ([110, 111] : Bytes))
   else
   some (r33.1, r33.2.1)
set_option maxRecDepth 100000 in
theorem parse_i {line w : Bytes} {rest : List Bytes} (hc : cut 32 line = w :: rest) (hlen : line.length < 4294967281) (hl : rest.length ≤ 3000) (hs : ∀ s ∈ rest, s.length ≤ 1048576) (a b c : List GTower) (d : List GPhrase) (e f : Int) (g : List Int) (h : List GTicket) (i : List GTower) (v : Value) :
    i_scriptState_reply ((a, b, ()), c, (d, ()), (e, f, g, ()), h, i, v, ()) line = match parseV w rest with
      | none => some (((a, b, ()), c, (d, ()), (e, f, g, ()), h, i, v, ()), w_what)
      | some q => implTail (a, b, c, d, e, f, g, h, i, v, q.2) w q.1 := by
  unfold i_scriptState_reply
  simp only [splitF_one (c := 32) hlen, hc, Option.bind_some, show idx (w :: rest) 0 = some w from rfl, sub_one]
  have e6 : (bif decide (w = w_phrase) then some true else some (decide (w = w_code))) = some (decide (w = w_phrase) || decide (w = w_code)) := by cases decide (w = w_phrase) <;> rfl
  rw [e6]
  have key : ∀ (r : List Bytes) (x : Bytes), r.length ≤ 3000 → (∀ s ∈ r, s.length ≤ 1048576) → (match numsV w x r with
      | none => some (((a, b, ()), c, (d, ()), (e, f, g, ()), h, i, v, ()), w_what)
      | some q => implTail (a, b, c, d, e, f, g, h, i, v, q.2) w q.1) = (bif r.all isNum then (bif inB (r.length : Int) ((wants w).getD (-1, -1)).1 ((wants w).getD (-1, -1)).2 then implTail (a, b, c, d, e, f, g, h, i, v, r.map rdV) w x else some (((a, b, ()), c, (d, ()), (e, f, g, ()), h, i, v, ()), w_what)) else some (((a, b, ()), c, (d, ()), (e, f, g, ()), h, i, v, ()), w_what)) := fun r x _ _ => by
    unfold numsV
    cases r.all isNum <;> cases inB (r.length : Int) ((wants w).getD (-1, -1)).1 ((wants w).getD (-1, -1)).2 <;> rfl
  unfold parseV
  simp only [Option.bind_some]
  cases decide (w = w_phrase) || decide (w = w_code) with
  | false =>
    simp only [cond_false, Option.bind_some]
    rw [key rest [] hl hs, copy_guard (by omega), cond_true, i_nums (by omega) hs]
    cases rest.all isNum with
    | false => rfl
    | true =>
      simp only [cond_true, Option.bind_some, least_i, most_i, within_eq, List.length_map]
      rw [← wants_same w rest.length hl]
      cases inB (rest.length : Int) (((wants w).map (·.1)).getD 1073741824) (((wants w).map (·.2)).getD 1073741824) <;> rfl
  | true =>
    simp only [cond_true]
    cases rest with
    | nil => rfl
    | cons x r =>
      have hx := hs x (by simp)
      rw [show decide (((x :: r).length : Int) = 0) = false from decide_eq_false (by simp; omega)]
      simp only [cond_false, show idx (x :: r) 0 = some x from rfl, Option.bind_some, letters_i (big hx)]
      rw [show (x.all Q.low && inB (x.length : Int) 1 40) = lettersV x from rfl]
      cases lettersV x with
      | false => rfl
      | true =>
        have hr : r.length ≤ 3000 := by simp at hl; omega
        have hsr : ∀ s ∈ r, s.length ≤ 1048576 := fun s hh => hs s (List.mem_cons_of_mem _ hh)
        simp only [Bool.not_true, cond_false, sub_one, Option.bind_some, cond_true]
        rw [key r x hr hsr, copy_guard (by omega), cond_true, i_nums (by omega) hsr]
        cases r.all isNum with
        | false => rfl
        | true =>
          simp only [cond_true, Option.bind_some, least_i, most_i, within_eq, List.length_map]
          rw [← wants_same w r.length hr]
          cases inB (r.length : Int) (((wants w).map (·.1)).getD 1073741824) (((wants w).map (·.2)).getD 1073741824) <;> rfl
noncomputable def specTail (p_x : GcsState) (r1 : List Bytes) (r2 : Bytes × List Int × Bool) (e3 : Bytes) : Option (GcsState × Bytes) :=
 bif (decide (e3 = w_towers)) then
 (s_csWords [(p_x.1.1.length : Int), (p_x.1.2.1.length : Int)]).bind fun r4 =>
 some (p_x, r4)
 else
 bif (decide (e3 = w_code)) then
 (s_EncodeMessage p_x.2.2.1 r2.1).bind fun r5 =>
 (s_csList r5.1 r5.2).bind fun r6 =>
 some (p_x, r6)
 else
 bif (decide (e3 = w_phrase)) then
 (s_csState_phrase p_x r2.1 r2.2.1).bind fun r7 =>
 some (r7.1, r7.2)
 else
 bif (decide (e3 = w_tower)) then
 (s_csState_tower p_x r2.2.1).bind fun r8 =>
 some (r8.1, r8.2)
 else
 bif (decide (e3 = w_link)) then
 (s_csState_link p_x r2.2.1).bind fun r9 =>
 some (r9.1, r9.2)
 else
 bif (decide (e3 = w_fog)) then
 (s_csState_fog p_x r2.2.1).bind fun r10 =>
 some (r10.1, r10.2)
 else
 bif (decide (e3 = w_shift)) then
 (s_csState_shift p_x r2.2.1).bind fun r11 =>
 some (r11.1, r11.2)
 else
 bif (decide (e3 = w_read)) then
 (s_ReadMessage p_x.2.2.1 r2.2.1).bind fun r12 =>
 (s_csTold r12.1 r12.2).bind fun r13 =>
 some (p_x, r13)
 else
 bif (decide (e3 = w_hide)) then
 (s_csState_hide p_x r2.2.1).bind fun r14 =>
 some (r14.1, r14.2)
 else
 bif decide (0 ≤ 0) && decide (0 < (r1.length : Int)) then
 (r1[(Int.toNat 0)]?).bind fun e15 =>
 (s_csState_ask p_x e15 r2.2.1).bind fun r16 =>
 some (r16.1, r16.2)
 else
 none
theorem line_s {x : GcsState} {t w : Bytes} {rest : List Bytes} (hc : cut 32 t = w :: rest) (hlen : t.length < 4294967281) (hl : rest.length ≤ 3000) (hs : ∀ s ∈ rest, s.length ≤ 1048576) :
    s_csState_line x t = match parseV w rest with
      | none => some (x, w_what)
      | some q => specTail x (w :: rest) (q.1, q.2, true) w := by
  unfold s_csState_line
  obtain ⟨p, h1, h2, h3⟩ := parse_s (w := w) (rest := rest) (by omega) fun s h => big (hs s h)
  rw [split_32 (by omega), hc]
  simp only [Option.bind_some, h1, h2]
  obtain ⟨p1, p2, p3⟩ := p
  cases hq : parseV w rest with
  | none => rfl
  | some q =>
    obtain ⟨h4, h5⟩ := h3 q hq
    rw [hq] at h2
    have h2 : p3 = true := h2
    have h4 : p1 = q.1 := h4
    have h5 : p2 = q.2 := h5
    subst h2
    subst h4
    subst h5
    unfold specTail
    rw [show (decide ((0 : Nat) ≤ 0) && decide ((0 : Int) < ((w :: rest).length : Int))) = true by simp]
    rfl
end Go.Proofs.YtkemmodgpafkmaaGreatDoor.Sh
namespace Go.Proofs.YtkemmodgpafkmaaGreatDoor.Sh
open Go Go.Ab Go.Proofs Go.Lib
set_option maxRecDepth 100000
structure OkS (s : GscriptStateK) : Prop where
  net : isNet s.1 = true
  fogs : areFogs s.1.2.1.length s.2.1 = true
  book : Q.isBook s.2.2.1 = true
  bf : Q.Fine s.2.2.1
  key : ∃ k, k ≤ 10 ∧ s.2.2.2.1 = kb k
  tk : areTickets s.2.2.2.2.1 = true
  ts : Small s.2.2.2.2.1
  sh : areSh s.2.2.2.2.2.1 = true
def tailB (r : GscriptStateR × Bytes × Bool) : Option (GscriptStateR × Bytes) := bif (!r.2.2) then some (r.1, ([110, 111] : Bytes)) else some (r.1, r.2.1)
def Same (s : GscriptStateK) (sp : GcsState → Option (GcsState × Bytes)) (im : GscriptStateR → Option (GscriptStateR × Bytes × Bool)) : Prop :=
  ∃ s' r, (∀ no what ln, sp (csOf s no what ln) = some (csOf s' no what ln, r)) ∧ (∀ v, (im (wv s v)).bind tailB = some (wv s' v, r)) ∧ OkS s' ∧ (isBad r = true → s' = s) ∧ r.length ≤ 500000
def toldV (ok : Bool) (r : Bytes) : Bytes := bif ok then r else [110, 111]
theorem told_s (r : Bytes) (ok : Bool) : s_csTold r ok = some (toldV ok r) := by cases ok <;> rfl
theorem told_i (y : GscriptStateR) (r : Bytes) (ok : Bool) : tailB (y, r, ok) = some (y, toldV ok r) := by cases ok <;> rfl
theorem told_len {r : Bytes} {ok : Bool} (h : r.length ≤ 500000) : (toldV ok r).length ≤ 500000 := by
  cases ok
  · show ([110, 111] : Bytes).length ≤ 500000; simp
  · exact h
theorem lim5 {n : Nat} (h : n ≤ 1000000) : decide (n ≤ lim) = true := lim_ok (by omega)
theorem list_s {l : List Int} {ok : Bool} (hl : l.length ≤ 20000) (h : ∀ x ∈ l, 0 ≤ x ∧ x ≤ 9223372036854775807) (hne : ok = true → l ≠ []) : s_csList l ok = some (toldV ok (wordsJ l)) := by
  unfold s_csList
  rw [s_words (by omega) h]
  simp only [Option.bind_some, told_s]
  cases ok with
  | false => rfl
  | true => rw [if_neg (hne rfl)]
theorem words_le {l : List Int} (hl : l.length ≤ 20000) (h : ∀ x ∈ l, 0 ≤ x ∧ x ≤ 9223372036854775807) : (wordsJ l).length ≤ 500000 := by
  have := words_len l h
  omega
section
variable {s : GscriptStateK} (H : OkS s)
include H
theorem c_towers : Same s (fun x => (s_csWords [(x.1.1.length : Int), (x.1.2.1.length : Int)]).bind fun r4 => some (x, r4)) (fun y => i_scriptState_netLine y w_towers []) := by
  have hz := net_sz H.net
  have hb : ∀ x ∈ [(s.1.1.length : Int), (s.1.2.1.length : Int)], 0 ≤ x ∧ x ≤ 9223372036854775807 := fun x hx => by
    simp only [List.mem_cons, List.not_mem_nil, or_false] at hx
    omega
  refine ⟨s, wordsJ [(s.1.1.length : Int), (s.1.2.1.length : Int)], fun no what ln => ?_, fun v => ?_, H, fun _ => rfl, words_le (by simp) hb⟩
  · show (s_csWords [(s.1.1.length : Int), (s.1.2.1.length : Int)]).bind _ = _
    rw [s_words (by simp) hb, if_neg (by simp)]
    rfl
  · have e : i_scriptState_netLine (wv s v) w_towers [] = (i_joinNumbers [(s.1.1.length : Int), (s.1.2.1.length : Int)] ([32] : Bytes)).bind fun r34 => some (wv s v, r34, true) := by
      unfold i_scriptState_netLine
      simp only [show decide (w_towers = w_tower) = false from rfl, show decide (w_towers = w_link) = false from rfl, show decide (w_towers = w_fog) = false from rfl, show decide (w_towers = w_first) = false from rfl, show decide (w_towers = w_way) = false from rfl, show decide (w_towers = w_shift) = false from rfl, show decide (w_towers = w_duty) = false from rfl, decide_true, cond_false, cond_true]
    show (i_scriptState_netLine (wv s v) w_towers []).bind tailB = _
    rw [e, i_words (by simp) hb]
    rfl
theorem c_code {x : Bytes} (h0 : 0 < x.length) (hx : x.length ≤ 40) : Same s (fun y => (s_EncodeMessage y.2.2.1 x).bind fun r5 => (s_csList r5.1 r5.2).bind fun r6 => some (y, r6)) (fun y => i_scriptState_bookLine y w_code x []) := by
  obtain ⟨r, r1, r2, r3, r4, r5⟩ := Q.encode_same H.bf H.book (s := x) (by omega)
  have hb : ∀ z ∈ r.1, 0 ≤ z ∧ z ≤ 9223372036854775807 := fun z hz => by have := r4 z hz; omega
  refine ⟨s, toldV r.2 (wordsJ r.1), fun no what ln => ?_, fun v => ?_, H, fun _ => rfl, told_len (words_le (by omega) hb)⟩
  · show (s_EncodeMessage s.2.2.1 x).bind _ = _
    rw [r2]
    simp only [Option.bind_some, list_s (by omega) hb (fun h => r5 h h0)]
  · show ((i_EncodeMessage s.2.2.1 x).bind fun r2 => (i_joinNumbers r2.1 ([32] : Bytes)).bind fun r3 => some (wv s v, r3, r2.2)).bind tailB = _
    rw [r1]
    simp only [Option.bind_some, i_words (by omega) hb, told_i]
theorem c_phrase {x : Bytes} {n : List Int} (hx : x.length ≤ 40) (hn : n.length ≤ 20) : Same s (fun y => s_csState_phrase y x n) (fun y => i_scriptState_bookLine y w_phrase x n) := by
  have h1 : (x, n, ()).1.length ≤ maxLen := by show x.length ≤ maxLen; unfold maxLen; omega
  have h2 : (x, n, ()).2.1.length ≤ 1048576 := by show n.length ≤ 1048576; omega
  have e1 := Q.s_add H.book H.bf h1 h2
  have e2 := Q.i_add H.book H.bf h1 h2
  cases hN : Q.isBook (Q.addN s.2.2.1 (x, n, ())) with
  | false =>
    have ea : Q.addB s.2.2.1 (x, n, ()) = (([], ()), false) := by unfold Q.addB; rw [hN]; rfl
    refine ⟨s, [110, 111], fun no what ln => ?_, fun v => ?_, H, fun _ => rfl, by simp⟩
    · show ((s_AddPhrase s.2.2.1 (x, n, ())).bind _) = _
      rw [e1, ea]; rfl
    · show (((i_AddPhrase s.2.2.1 (x, n, ())).bind _ : Option (GscriptStateR × Bytes × Bool))).bind tailB = _
      rw [e2, ea]; rfl
  | true =>
    have ea : Q.addB s.2.2.1 (x, n, ()) = (Q.addN s.2.2.1 (x, n, ()), true) := by unfold Q.addB; rw [hN]; rfl
    refine ⟨(s.1, s.2.1, Q.addN s.2.2.1 (x, n, ()), s.2.2.2), [111, 107], fun no what ln => ?_, fun v => ?_, ⟨H.net, H.fogs, hN, Q.fine_addN H.book H.bf h1 (big h2), H.key, H.tk, H.ts, H.sh⟩, (fun h => by cases h), by simp⟩
    · show ((s_AddPhrase s.2.2.1 (x, n, ())).bind _) = _
      rw [e1, ea]; rfl
    · show (((i_AddPhrase s.2.2.1 (x, n, ())).bind _ : Option (GscriptStateR × Bytes × Bool))).bind tailB = _
      rw [e2, ea]; rfl
theorem c_read {n : List Int} (hn : n.length ≤ 20) : Same s (fun y => (s_ReadMessage y.2.2.1 n).bind fun r12 => (s_csTold r12.1 r12.2).bind fun r13 => some (y, r13)) (fun y => i_scriptState_bookLine y w_read [] n) := by
  obtain ⟨r, r1, r2, r3⟩ := Q.readMsg_same H.bf H.book hn
  refine ⟨s, toldV r.2 r.1, fun no what ln => ?_, fun v => ?_, H, fun _ => rfl, told_len (by omega)⟩
  · show (s_ReadMessage s.2.2.1 n).bind _ = _
    rw [r2]
    simp only [Option.bind_some, told_s]
  · show ((i_ReadMessage s.2.2.1 n).bind fun r4 => some (wv s v, r4.1, r4.2)).bind tailB = _
    rw [r1]
    simp only [Option.bind_some, told_i]
theorem secret_ne {k : Nat} {ns : List Int} : isBad (secretV k ns) = false := by
  have hm : (58 : UInt8) ∈ secretV k ns := by unfold secretV; simp
  unfold isBad
  rw [Bool.or_eq_false_iff]
  constructor
  · refine decide_eq_false fun e => ?_
    rw [e] at hm
    simp at hm
  · refine decide_eq_false fun e => ?_
    rw [e] at hm
    unfold w_what at hm
    simp at hm
theorem c_hide {n : List Int} (h1 : 1 ≤ n.length) (hn : n.length ≤ 20) : Same s (fun y => s_csState_hide y n) (fun y => i_scriptState_bookLine y w_hide [] n) := by
  obtain ⟨k, hk, ek⟩ := H.key
  have e1 := s_hideV hk h1 hn
  have e2 := i_hide hk h1 hn
  rw [← ek] at e1 e2
  have bad : hideV k n = ((0, 0, [], ()), ([], [], ()), false) → Same s (fun y => s_csState_hide y n) (fun y => i_scriptState_bookLine y w_hide [] n) := fun eh => by
    refine ⟨s, [110, 111], fun no what ln => ?_, fun v => ?_, H, fun _ => rfl, by simp⟩
    · show ((s_HideMessage s.2.2.2.1 n).bind _) = _
      rw [e1, eh]; rfl
    · show (((i_HideMessage s.2.2.2.1 n).bind _ : Option (GscriptStateR × Bytes × Bool))).bind tailB = _
      rw [e2, eh]; rfl
  cases ha : n.all (fun x => inB x 1 60) with
  | false => exact bad (by unfold hideV; rw [ha]; rfl)
  | true =>
    by_cases h10 : k = 10
    · exact bad (by unfold hideV; rw [ha, if_pos h10]; rfl)
    · have eh : hideV k n = (kb (k + 1), ([(k : Int)], hidV (pageV (kb k) (k : Int)) n, ()), true) := by unfold hideV; rw [ha, if_neg h10]; rfl
      have hb : ∀ x ∈ hidV (pageV (kb k) (k : Int)) n, 1 ≤ x ∧ x ≤ 60 := fun x hx => by
        unfold hidV at hx
        obtain ⟨i, _, rfl⟩ := List.mem_map.1 hx
        unfold hidN
        have h1 := Int.emod_nonneg (n.getD i 1 - 1 + (pageV (kb k) (k : Int)).getD i 0) (show (60 : Int) ≠ 0 by omega)
        have h2 := Int.emod_lt_of_pos (n.getD i 1 - 1 + (pageV (kb k) (k : Int)).getD i 0) (show (0 : Int) < 60 by omega)
        omega
      have hl : (hidV (pageV (kb k) (k : Int)) n).length = n.length := by simp [hidV]
      have t1 := s_secret (k := k) (by omega) (ns := hidV (pageV (kb k) (k : Int)) n) (by omega) hb
      have t2 := i_secret (k := k) (by omega) (ns := hidV (pageV (kb k) (k : Int)) n) (by omega) (by omega) hb
      refine ⟨(s.1, s.2.1, s.2.2.1, kb (k + 1), s.2.2.2.2), secretV k (hidV (pageV (kb k) (k : Int)) n), fun no what ln => ?_, fun v => ?_, ⟨H.net, H.fogs, H.book, H.bf, ⟨k + 1, by omega, rfl⟩, H.tk, H.ts, H.sh⟩, (fun h => by rw [secret_ne H] at h; cases h), ?_⟩
      · show ((s_HideMessage s.2.2.2.1 n).bind _) = _
        rw [e1, eh]
        simp only [Option.bind_some, Bool.not_true, cond_false, t1]
      · show (((i_HideMessage s.2.2.2.1 n).bind _ : Option (GscriptStateR × Bytes × Bool))).bind tailB = _
        rw [e2, eh]
        simp only [Option.bind_some, Bool.not_true, cond_false, t2]
        rfl
      · have w1 := words_len (hidV (pageV (kb k) (k : Int)) n) (fun x hx => by have := hb x hx; omega)
        have w2 := itoa_length_le (k : Int) (by omega) (by omega)
        unfold secretV
        simp only [List.length_append, List.length_cons, List.length_nil]
        omega
theorem own_s : s_neOwn s.1 = some s.1 := by
  have hz := net_sz H.net
  unfold s_neOwn
  rw [lim5 (by omega), lim5 (by omega)]
  rfl
theorem c_tower (p q z : Int) : Same s (fun y => s_csState_tower y [p, q, z]) (fun y => i_scriptState_netLine y w_tower [p, q, z]) := by
  have hz := net_sz H.net
  have hf := fine_addT H.net (p, q, z, ())
  have e1 := s_isNet hf
  have e2 := i_isNet hf
  have hlim : decide (List.length s.1.1 + List.length [(p, q, z, ())] ≤ lim) = true := lim5 (by simp; omega)
  have a1 : ∀ no what ln, s_csState_tower (csOf s no what ln) [p, q, z] = bif isNet (addT s.1 (p, q, z, ())) then some (csOf (addT s.1 (p, q, z, ()), s.2) no what ln, ([111, 107] : Bytes)) else some (csOf s no what ln, ([110, 111] : Bytes)) := fun no what ln => by
    unfold s_csState_tower
    rw [show (csOf s no what ln).1 = s.1 from rfl, own_s H]
    simp only [Option.bind_some, show idx [p, q, z] 0 = some p from rfl, show idx [p, q, z] 1 = some q from rfl, show idx [p, q, z] 2 = some z from rfl, hlim, cond_true]
    rw [show ((s.1.1 ++ [(p, q, z, ())], s.1.2) : GNet) = addT s.1 (p, q, z, ()) from rfl, e1]
    simp only [Option.bind_some]
    cases isNet (addT s.1 (p, q, z, ())) <;> rfl
  have a2 : ∀ v, (i_scriptState_netLine (wv s v) w_tower [p, q, z]).bind tailB = bif isNet (addT s.1 (p, q, z, ())) then some (wv (addT s.1 (p, q, z, ()), s.2) v, ([111, 107] : Bytes)) else some (wv s v, ([110, 111] : Bytes)) := fun v => by
    show (((i_cloneNet s.1).bind _ : Option (GscriptStateR × Bytes × Bool))).bind tailB = _
    rw [cloneNet (net_small H.net)]
    simp only [Option.bind_some, show idx [p, q, z] 0 = some p from rfl, show idx [p, q, z] 1 = some q from rfl, show idx [p, q, z] 2 = some z from rfl, hlim, cond_true]
    rw [show ((s.1.1 ++ [(p, q, z, ())], s.1.2) : GNet) = addT s.1 (p, q, z, ()) from rfl, e2]
    simp only [Option.bind_some]
    cases isNet (addT s.1 (p, q, z, ())) <;> rfl
  cases hN : isNet (addT s.1 (p, q, z, ())) with
  | false =>
    rw [hN] at a1 a2
    exact ⟨s, [110, 111], a1, a2, H, fun _ => rfl, by simp⟩
  | true =>
    rw [hN] at a1 a2
    exact ⟨(addT s.1 (p, q, z, ()), s.2), [111, 107], a1, a2, ⟨hN, H.fogs, H.book, H.bf, H.key, H.tk, H.ts, H.sh⟩, (fun h => by cases h), by simp⟩
theorem c_link (p q z : Int) : Same s (fun y => s_csState_link y [p, q, z]) (fun y => i_scriptState_netLine y w_link [p, q, z]) := by
  have e1 := s_addLink H.net (p, q, z, ())
  have e2 := i_addLink H.net (p, q, z, ())
  have a1 : ∀ no what ln, s_csState_link (csOf s no what ln) [p, q, z] = bif !(addLB s.1 (p, q, z, ())).2 || decide (0 < (s.2.1.length : Int)) then some (csOf s no what ln, ([110, 111] : Bytes)) else some (csOf ((addLB s.1 (p, q, z, ())).1, s.2) no what ln, ([111, 107] : Bytes)) := fun no what ln => by
    unfold s_csState_link
    simp only [Option.bind_some, show idx [p, q, z] 0 = some p from rfl, show idx [p, q, z] 1 = some q from rfl, show idx [p, q, z] 2 = some z from rfl]
    rw [show (csOf s no what ln).1 = s.1 from rfl, e1]
    simp only [Option.bind_some]
    cases (addLB s.1 (p, q, z, ())).2 <;> cases decide (0 < (s.2.1.length : Int)) <;> rfl
  have a2 : ∀ v, (i_scriptState_netLine (wv s v) w_link [p, q, z]).bind tailB = bif !(addLB s.1 (p, q, z, ())).2 || decide (0 < (s.2.1.length : Int)) then some (wv s v, ([110, 111] : Bytes)) else some (wv ((addLB s.1 (p, q, z, ())).1, s.2) v, ([111, 107] : Bytes)) := fun v => by
    show (((i_AddLink s.1 (p, q, z, ())).bind _ : Option (GscriptStateR × Bytes × Bool))).bind tailB = _
    rw [e2]
    simp only [Option.bind_some]
    cases (addLB s.1 (p, q, z, ())).2 <;> cases decide (0 < (s.2.1.length : Int)) <;> rfl
  cases hc : !(addLB s.1 (p, q, z, ())).2 || decide (0 < (s.2.1.length : Int)) with
  | true =>
    rw [hc] at a1 a2
    exact ⟨s, [110, 111], a1, a2, H, fun _ => rfl, by simp⟩
  | false =>
    rw [hc] at a1 a2
    rw [Bool.or_eq_false_iff] at hc
    have hf : s.2.1 = [] := List.eq_nil_of_length_eq_zero (by have := of_decide_eq_false hc.2; omega)
    have hn : isNet (addLB s.1 (p, q, z, ())).1 = true := by
      have h2 : (addLB s.1 (p, q, z, ())).2 = true := by simpa using hc.1
      unfold addLB at h2 ⊢
      cases hN : isNet (addL s.1 (p, q, z, ())) with
      | false => rw [hN] at h2; cases h2
      | true => exact hN
    refine ⟨((addLB s.1 (p, q, z, ())).1, s.2), [111, 107], a1, a2, ⟨hn, ?_, H.book, H.bf, H.key, H.tk, H.ts, H.sh⟩, (fun h => by cases h), by simp⟩
    show areFogs _ s.2.1 = true
    rw [hf]
    rfl
theorem c_fog (p q z : Int) : Same s (fun y => s_csState_fog y [p, q, z]) (fun y => i_scriptState_netLine y w_fog [p, q, z]) := by
  have e1 := s_addFog H.net H.fogs (p, q, z, ())
  have e2 := i_addFog H.net H.fogs (p, q, z, ())
  have a1 : ∀ no what ln, s_csState_fog (csOf s no what ln) [p, q, z] = bif (addF s.1.2.1.length s.2.1 (p, q, z, ())).2 then some (csOf (s.1, (addF s.1.2.1.length s.2.1 (p, q, z, ())).1, s.2.2) no what ln, ([111, 107] : Bytes)) else some (csOf s no what ln, ([110, 111] : Bytes)) := fun no what ln => by
    unfold s_csState_fog
    simp only [Option.bind_some, show idx [p, q, z] 0 = some p from rfl, show idx [p, q, z] 1 = some q from rfl, show idx [p, q, z] 2 = some z from rfl]
    rw [show (csOf s no what ln).1 = s.1 from rfl, show (csOf s no what ln).2.1 = s.2.1 from rfl, e1]
    simp only [Option.bind_some]
    cases (addF s.1.2.1.length s.2.1 (p, q, z, ())).2 <;> rfl
  have a2 : ∀ v, (i_scriptState_netLine (wv s v) w_fog [p, q, z]).bind tailB = bif (addF s.1.2.1.length s.2.1 (p, q, z, ())).2 then some (wv (s.1, (addF s.1.2.1.length s.2.1 (p, q, z, ())).1, s.2.2) v, ([111, 107] : Bytes)) else some (wv s v, ([110, 111] : Bytes)) := fun v => by
    show (((i_AddFog s.1 s.2.1 (p, q, z, ())).bind _ : Option (GscriptStateR × Bytes × Bool))).bind tailB = _
    rw [e2]
    simp only [Option.bind_some]
    cases (addF s.1.2.1.length s.2.1 (p, q, z, ())).2 <;> rfl
  cases hc : (addF s.1.2.1.length s.2.1 (p, q, z, ())).2 with
  | false =>
    rw [hc] at a1 a2
    exact ⟨s, [110, 111], a1, a2, H, fun _ => rfl, by simp⟩
  | true =>
    rw [hc] at a1 a2
    exact ⟨(s.1, (addF s.1.2.1.length s.2.1 (p, q, z, ())).1, s.2.2), [111, 107], a1, a2, ⟨H.net, addF_ok H.fogs hc, H.book, H.bf, H.key, H.tk, H.ts, H.sh⟩, (fun h => by cases h), by simp⟩
theorem cloneSh {l : List GTower} (h : l.length ≤ 1048576) : slices_Clone_Shift l = some l := cloneTower h
theorem c_shift (p q z : Int) : Same s (fun y => s_csState_shift y [p, q, z]) (fun y => i_scriptState_netLine y w_shift [p, q, z]) := by
  have hl := areSh_len H.sh
  have hl2 : (s.2.2.2.2.2.1 ++ [(p, q, z, ())]).length ≤ 1048576 := by simp; omega
  have e1 := s_sortS hl2
  have e2 := i_sortS hl2
  have hlim : decide (List.length s.2.2.2.2.2.1 + List.length [(p, q, z, ())] ≤ lim) = true := lim5 (by simp; omega)
  have hlim2 : decide (List.length s.2.2.2.2.2.1 ≤ lim) = true := lim5 (by omega)
  generalize hS : sortS (s.2.2.2.2.2.1 ++ [(p, q, z, ())]) = S at e1 e2
  have a1 : ∀ no what ln, s_csState_shift (csOf s no what ln) [p, q, z] = bif S.2 then some (csOf (s.1, s.2.1, s.2.2.1, s.2.2.2.1, s.2.2.2.2.1, S.1, ()) no what ln, ([111, 107] : Bytes)) else some (csOf s no what ln, ([110, 111] : Bytes)) := fun no what ln => by
    unfold s_csState_shift
    rw [show (csOf s no what ln).2.2.2.2.2.1 = s.2.2.2.2.2.1 from rfl]
    simp only [Option.bind_some, show idx [p, q, z] 0 = some p from rfl, show idx [p, q, z] 1 = some q from rfl, show idx [p, q, z] 2 = some z from rfl, hlim, hlim2, cond_true, e1]
    cases S.2 <;> rfl
  have a2 : ∀ v, (i_scriptState_netLine (wv s v) w_shift [p, q, z]).bind tailB = bif S.2 then some (wv (s.1, s.2.1, s.2.2.1, s.2.2.2.1, s.2.2.2.2.1, S.1, ()) v, ([111, 107] : Bytes)) else some (wv s v, ([110, 111] : Bytes)) := fun v => by
    show (((slices_Clone_Shift s.2.2.2.2.2.1).bind _ : Option (GscriptStateR × Bytes × Bool))).bind tailB = _
    rw [cloneSh H (by omega)]
    simp only [Option.bind_some, show idx [p, q, z] 0 = some p from rfl, show idx [p, q, z] 1 = some q from rfl, show idx [p, q, z] 2 = some z from rfl, hlim, cond_true, e2]
    cases S.2 <;> rfl
  cases hc : S.2 with
  | false =>
    rw [hc] at a1 a2
    exact ⟨s, [110, 111], a1, a2, H, fun _ => rfl, by simp⟩
  | true =>
    rw [hc] at a1 a2
    refine ⟨(s.1, s.2.1, s.2.2.1, s.2.2.2.1, s.2.2.2.2.1, S.1, ()), [111, 107], a1, a2, ⟨H.net, H.fogs, H.book, H.bf, H.key, H.tk, H.ts, ?_⟩, (fun h => by cases h), by simp⟩
    show areSh S.1 = true
    rw [← hS] at hc ⊢
    unfold sortS at hc ⊢
    cases hA : areSh ((s.2.2.2.2.2.1 ++ [(p, q, z, ())]).foldl insS []) with
    | false => rw [hA] at hc; cases hc
    | true => exact hA
theorem c_move (k p q : Int) : Same s (fun y => s_csState_desk y k p q) (fun y => (i_makeMove y.2.2.2.2.1 (k, p, q, ())).bind fun r3 => bif (!r3.2) then some (y, [], false) else some ((y.1, y.2.1, y.2.2.1, y.2.2.2.1, r3.1, y.2.2.2.2.2), ([111, 107] : Bytes), true)) := by
  have e1 := s_step H.ts H.tk (k, p, q, ())
  have e2 := i_step H.ts H.tk (k, p, q, ())
  obtain ⟨f1, f2⟩ := step_fine H.ts H.tk (k, p, q, ())
  generalize stepT s.2.2.2.2.1 (k, p, q, ()) = S at *
  have a1 : ∀ no what ln, s_csState_desk (csOf s no what ln) k p q = bif S.2 then some (csOf (s.1, s.2.1, s.2.2.1, s.2.2.2.1, S.1, s.2.2.2.2.2) no what ln, ([111, 107] : Bytes)) else some (csOf s no what ln, ([110, 111] : Bytes)) := fun no what ln => by
    unfold s_csState_desk
    rw [show (csOf s no what ln).2.2.2.2.1 = s.2.2.2.2.1 from rfl, e1]
    simp only [Option.bind_some]
    cases S.2 <;> rfl
  have a2 : ∀ v, ((i_makeMove (wv s v).2.2.2.2.1 (k, p, q, ())).bind fun r3 => bif (!r3.2) then some (wv s v, [], false) else some (((wv s v).1, (wv s v).2.1, (wv s v).2.2.1, (wv s v).2.2.2.1, r3.1, (wv s v).2.2.2.2.2), ([111, 107] : Bytes), true)).bind tailB = bif S.2 then some (wv (s.1, s.2.1, s.2.2.1, s.2.2.2.1, S.1, s.2.2.2.2.2) v, ([111, 107] : Bytes)) else some (wv s v, ([110, 111] : Bytes)) := fun v => by
    rw [show (wv s v).2.2.2.2.1 = s.2.2.2.2.1 from rfl, e2]
    simp only [Option.bind_some]
    cases S.2 <;> rfl
  cases hc : S.2 with
  | false =>
    rw [hc] at a1 a2
    exact ⟨s, [110, 111], a1, a2, H, fun _ => rfl, by simp⟩
  | true =>
    rw [hc] at a1 a2
    exact ⟨(s.1, s.2.1, s.2.2.1, s.2.2.2.1, S.1, s.2.2.2.2.2), [111, 107], a1, a2, ⟨H.net, H.fogs, H.book, H.bf, H.key, f2 hc, f1, H.sh⟩, (fun h => by cases h), by simp⟩
theorem Same.of_eq {sp : GcsState → Option (GcsState × Bytes)} {im im' : GscriptStateR → Option (GscriptStateR × Bytes × Bool)} (h : Same s sp im) (he : ∀ v, im' (wv s v) = im (wv s v)) : Same s sp im' := by
  obtain ⟨s', r, h1, h2, h3⟩ := h
  exact ⟨s', r, h1, fun v => by rw [he]; exact h2 v, h3⟩
theorem desk_ok : i_AreTickets s.2.2.2.2.1 = some true := by rw [i_good (small_fine H.ts), H.tk]
theorem c_accept (p q : Int) : Same s (fun y => s_csState_desk y 1 p q) (fun y => i_scriptState_deskLine y w_accept [p, q]) := (c_move H 1 p q).of_eq H fun v => by
  show (((i_AcceptMessage s.2.2.2.2.1 p q).bind _ : Option (GscriptStateR × Bytes × Bool))) = _
  unfold i_AcceptMessage
  rw [desk_ok H]
  simp only [Option.bind_some, Bool.not_true, cond_false]
  show _ = ((i_makeMove s.2.2.2.2.1 (1, p, q, ())).bind _ : Option (GscriptStateR × Bytes × Bool))
  cases i_makeMove s.2.2.2.2.1 (1, p, q, ()) <;> rfl
theorem c_arrived (p q : Int) : Same s (fun y => s_csState_desk y 2 p q) (fun y => i_scriptState_deskLine y w_arrived [p, q]) := (c_move H 2 p q).of_eq H fun v => by
  show (((i_NoteArrival s.2.2.2.2.1 p q).bind _ : Option (GscriptStateR × Bytes × Bool))) = _
  unfold i_NoteArrival
  rw [desk_ok H]
  simp only [Option.bind_some, Bool.not_true, cond_false]
  show _ = ((i_makeMove s.2.2.2.2.1 (2, p, q, ())).bind _ : Option (GscriptStateR × Bytes × Bool))
  cases i_makeMove s.2.2.2.2.1 (2, p, q, ()) <;> rfl
theorem c_fail (p : Int) : Same s (fun y => s_csState_desk y 3 p 0) (fun y => i_scriptState_deskLine y w_fail [p]) := (c_move H 3 p 0).of_eq H fun v => by
  show (((i_GiveUp s.2.2.2.2.1 p).bind _ : Option (GscriptStateR × Bytes × Bool))) = _
  unfold i_GiveUp
  rw [desk_ok H]
  simp only [Option.bind_some, Bool.not_true, cond_false]
  show _ = ((i_makeMove s.2.2.2.2.1 (3, p, 0, ())).bind _ : Option (GscriptStateR × Bytes × Bool))
  cases i_makeMove s.2.2.2.2.1 (3, p, 0, ()) <;> rfl
theorem c_where (p : Int) : Same s (fun y => (s_ReceiptText y.2.2.2.2.1 p).bind fun r10 => (s_csTold r10.1 r10.2).bind fun r11 => some (y, r11)) (fun y => i_scriptState_deskLine y w_where [p]) := by
  obtain ⟨r, r1, r2, r3⟩ := receipt_eq (small_fine H.ts) p
  refine ⟨s, toldV r.2 r.1, fun no what ln => ?_, fun v => ?_, H, fun _ => rfl, told_len (by omega)⟩
  · show (s_ReceiptText s.2.2.2.2.1 p).bind _ = _
    rw [r1]
    simp only [Option.bind_some, told_s]
  · show ((i_ReceiptText s.2.2.2.2.1 p).bind fun r10 => some (wv s v, r10.1, r10.2)).bind tailB = _
    rw [r2]
    simp only [Option.bind_some, told_i]
theorem c_duty (p : Int) : Same s (fun y => (s_OnDutyAt y.2.2.2.2.2.1 p).bind fun r13 => (s_csList r13.1 r13.2).bind fun r14 => some (y, r14)) (fun y => i_scriptState_netLine y w_duty [p]) := by
  have hl := areSh_len H.sh
  have e1 := s_duty (l := s.2.2.2.2.2.1) (by omega) p
  have e2 := i_duty (l := s.2.2.2.2.2.1) (by omega) p
  have hb : (dutyV s.2.2.2.2.2.1 p).1.length ≤ 60 ∧ ∀ x ∈ (dutyV s.2.2.2.2.2.1 p).1, 0 ≤ x ∧ x ≤ 9223372036854775807 := by
    unfold dutyV
    cases areSh s.2.2.2.2.2.1 && inB p 0 167 with
    | false => exact ⟨Nat.zero_le _, fun x h => nomatch h⟩
    | true =>
      obtain ⟨g1, _⟩ := put_fold (onL p s.2.2.2.2.2.1) [] List.Pairwise.nil (by simpa using on_nodup H.sh p)
      rw [List.nil_append] at g1
      refine ⟨?_, fun x hx => ?_⟩
      · show ((onL p s.2.2.2.2.2.1).foldl putI []).length ≤ 60
        rw [g1.length_eq]
        unfold onL
        rw [List.length_map]
        exact Nat.le_trans (List.length_filter_le _ _) hl
      · have hx : x ∈ onL p s.2.2.2.2.2.1 := g1.mem_iff.1 hx
        unfold onL at hx
        obtain ⟨y, hy, rfl⟩ := List.mem_map.1 hx
        have := (areSh_ok H.sh).1 y (List.mem_filter.1 hy).1
        simp only [okS, inB, Bool.and_eq_true, decide_eq_true_eq] at this
        omega
  generalize dutyV s.2.2.2.2.2.1 p = D at *
  have hw := s_words (l := D.1) (by omega) hb.2
  have hi := i_words (l := D.1) (by omega) hb.2
  refine ⟨s, toldV D.2 (if D.1 = [] then w_none else wordsJ D.1), fun no what ln => ?_, fun v => ?_, H, fun _ => rfl, told_len ?_⟩
  · show (s_OnDutyAt s.2.2.2.2.2.1 p).bind _ = _
    rw [e1]
    simp only [Option.bind_some, s_csList, hw, told_s]
  · show (((i_OnDutyAt s.2.2.2.2.2.1 p).bind _ : Option (GscriptStateR × Bytes × Bool))).bind tailB = _
    rw [e2]
    simp only [Option.bind_some, hi]
    obtain ⟨D1, D2⟩ := D
    cases D2 with
    | false => rfl
    | true =>
      cases D1 with
      | nil => rfl
      | cons x r =>
        rw [if_neg (by simp)]
        simp only [cond_true, Option.bind_some]
        rw [show decide (((x :: r).length : Int) = 0) = false from decide_eq_false (by simp; omega)]
        rfl
  · split
    · unfold w_none; simp
    · exact words_le (by omega) hb.2
theorem way_any (a b t : Int) : ∃ r, i_WayThrough s.1 s.2.1 a b t = some r ∧ s_WayThrough s.1 s.2.1 a b t = some r ∧ (r.2 = true → r.1 ≠ []) ∧ r.1.length ≤ 20000 ∧ ∀ x ∈ r.1, 0 ≤ x ∧ x ≤ 16 := by
  cases hc : inB a 0 ((s.1.1.length : Int) - 1) && inB t 0 10000 with
  | true =>
    simp only [inB, Bool.and_eq_true, decide_eq_true_eq] at hc
    obtain ⟨q, rfl⟩ : ∃ q : Nat, a = (q : Int) := ⟨a.toNat, by omega⟩
    exact wayThrough_same H.net H.fogs (a := q) (t := t) (by omega) ⟨by omega, by omega⟩ b
  | false =>
    have : (inB a 0 ((s.1.1.length : Int) - 1) && (inB b 0 ((s.1.1.length : Int) - 1) && inB t 0 10000)) = false := by
      cases h1 : inB a 0 ((s.1.1.length : Int) - 1) with
      | false => rfl
      | true => rw [h1, Bool.true_and] at hc; rw [hc, Bool.and_false]; rfl
    rw [way_i_def, way_s_def, asked_i H.net H.fogs, asked_s H.net H.fogs, this]
    exact ⟨([], false), rfl, rfl, (fun h => by cases h), by simp, fun _ h => nomatch h⟩
theorem first_any (a b t : Int) : ∃ r, i_FirstArrival s.1 s.2.1 a b t = some r ∧ s_FirstArrival s.1 s.2.1 a b t = some r ∧ 0 ≤ r.1 ∧ r.1 ≤ 10960 := by
  cases hc : inB a 0 ((s.1.1.length : Int) - 1) && inB t 0 10000 with
  | true =>
    simp only [inB, Bool.and_eq_true, decide_eq_true_eq] at hc
    obtain ⟨q, rfl⟩ : ∃ q : Nat, a = (q : Int) := ⟨a.toNat, by omega⟩
    exact firstArr_same H.net H.fogs (a := q) (t := t) (by omega) ⟨by omega, by omega⟩ b t rfl
  | false =>
    have : (inB a 0 ((s.1.1.length : Int) - 1) && (inB b 0 ((s.1.1.length : Int) - 1) && inB t 0 10000)) = false := by
      cases h1 : inB a 0 ((s.1.1.length : Int) - 1) with
      | false => rfl
      | true => rw [h1, Bool.true_and] at hc; rw [hc, Bool.and_false]; rfl
    unfold i_FirstArrival s_FirstArrival
    rw [asked_i H.net H.fogs, asked_s H.net H.fogs, this]
    exact ⟨(0, false), rfl, rfl, by simp, by simp⟩
theorem c_way (p q z : Int) : Same s (fun y => (s_WayThrough y.1 y.2.1 p q z).bind fun r18 => (s_csList r18.1 r18.2).bind fun r19 => some (y, r19)) (fun y => i_scriptState_netLine y w_way [p, q, z]) := by
  obtain ⟨r, r1, r2, r3, r4, r5⟩ := way_any H p q z
  have hb : ∀ x ∈ r.1, 0 ≤ x ∧ x ≤ 9223372036854775807 := fun x hx => by have := r5 x hx; omega
  refine ⟨s, toldV r.2 (wordsJ r.1), fun no what ln => ?_, fun v => ?_, H, fun _ => rfl, told_len (words_le r4 hb)⟩
  · show (s_WayThrough s.1 s.2.1 p q z).bind _ = _
    rw [r2]
    simp only [Option.bind_some, list_s r4 hb r3]
  · show ((i_WayThrough s.1 s.2.1 p q z).bind fun r23 => (i_joinNumbers r23.1 ([32] : Bytes)).bind fun r24 => some (wv s v, r24, r23.2)).bind tailB = _
    rw [r1]
    simp only [Option.bind_some, i_words (by omega) hb, told_i]
theorem c_first (p q z : Int) : Same s (fun y => (s_FirstArrival y.1 y.2.1 p q z).bind fun r23 => (s_l1Num r23.1).bind fun r24 => (s_csTold r24 r23.2).bind fun r25 => some (y, r25)) (fun y => i_scriptState_netLine y w_first [p, q, z]) := by
  obtain ⟨r, r1, r2, r3, r4⟩ := first_any H p q z
  have hl := itoa_len (n := r.1) r3 (by omega)
  refine ⟨s, toldV r.2 (itoa r.1), fun no what ln => ?_, fun v => ?_, H, fun _ => rfl, told_len (by omega)⟩
  · show (s_FirstArrival s.1 s.2.1 p q z).bind _ = _
    rw [r2]
    simp only [Option.bind_some, num_eq (n := r.1) r3 (by omega), told_s]
  · show ((i_FirstArrival s.1 s.2.1 p q z).bind fun r18 => (itoaF r18.1).bind fun r19 => some (wv s v, r19, r18.2)).bind tailB = _
    rw [r1]
    simp only [Option.bind_some, itoaF, told_i]
end
end Go.Proofs.YtkemmodgpafkmaaGreatDoor.Sh
namespace Go.Ab
open Go
theorem cut_mem (c : UInt8) : ∀ (s : Bytes), ∀ l ∈ cut c s, l.length ≤ s.length
  | [], l, h => by simp [cut] at h; rw [h]; simp
  | x :: r, l, h => by
    have ih := cut_mem c r
    unfold cut at h
    by_cases hx : x = c
    · rw [decide_eq_true hx] at h
      simp only [cond_true, List.mem_cons] at h
      rcases h with h | h
      · rw [h]; simp
      · have := ih l h; simp; omega
    · rw [decide_eq_false hx] at h
      simp only [cond_false] at h
      split at h
      · simp only [List.mem_singleton] at h
        rw [h]; simp
      · rename_i y ys e
        rw [e] at ih
        simp only [List.mem_cons] at h
        rcases h with h | h
        · have := ih y (by simp)
          rw [h]; simp; omega
        · have := ih l (List.mem_cons_of_mem _ h)
          simp; omega
end Go.Ab
namespace Go.Proofs.YtkemmodgpafkmaaGreatDoor.Sh
open Go Go.Ab Go.Proofs Go.Lib
set_option maxRecDepth 100000
def Line (s : GscriptStateK) (t : Bytes) : Prop := ∃ s' r, replyF s t = some (s', r) ∧ (∀ no what ln, s_csState_line (csOf s no what ln) t = some (csOf s' no what ln, r)) ∧ OkS s' ∧ (isBad r = true → s' = s) ∧ r.length ≤ 500000
theorem nums_facts {w x : Bytes} {r : List Bytes} {q : Bytes × List Int} (h : numsV w x r = some q) : inB (q.2.length : Int) ((wants w).getD (-1, -1)).1 ((wants w).getD (-1, -1)).2 = true ∧ q.1 = x := by
  unfold numsV at h
  cases hc : (r.all isNum && inB (r.length : Int) ((wants w).getD (-1, -1)).1 ((wants w).getD (-1, -1)).2) with
  | false => rw [hc] at h; cases h
  | true =>
    rw [hc] at h
    cases h
    rw [Bool.and_eq_true] at hc
    refine ⟨?_, rfl⟩
    show inB ((r.map rdV).length : Int) _ _ = true
    rw [List.length_map]
    exact hc.2
theorem parse_facts {w : Bytes} {rest : List Bytes} {q : Bytes × List Int} (h : parseV w rest = some q) : inB (q.2.length : Int) ((wants w).getD (-1, -1)).1 ((wants w).getD (-1, -1)).2 = true ∧ ((decide (w = w_phrase) || decide (w = w_code)) = false → q.1 = []) ∧ ((decide (w = w_phrase) || decide (w = w_code)) = true → 0 < q.1.length ∧ q.1.length ≤ 40) := by
  unfold parseV at h
  cases hc : (decide (w = w_phrase) || decide (w = w_code)) with
  | false =>
    rw [hc] at h
    obtain ⟨h1, h2⟩ := nums_facts h
    exact ⟨h1, fun _ => h2, fun h => by cases h⟩
  | true =>
    rw [hc] at h
    cases rest with
    | nil => cases h
    | cons x r =>
      simp only [cond_true] at h
      cases hx : lettersV x with
      | false => rw [hx] at h; cases h
      | true =>
        rw [hx] at h
        obtain ⟨h1, h2⟩ := nums_facts h
        refine ⟨h1, (fun h => by cases h), fun _ => ?_⟩
        rw [h2]
        simp only [lettersV, inB, Bool.and_eq_true, decide_eq_true_eq] at hx
        omega
section
variable {s : GscriptStateK} {t w : Bytes} {rest : List Bytes} (hc : cut 32 t = w :: rest) (hlen : t.length ≤ 2000) (hl : rest.length ≤ 3000) (hs : ∀ z ∈ rest, z.length ≤ 1048576)
include hc hlen hl hs
theorem line_bad (H : OkS s) (hq : parseV w rest = none) : Line s t := by
  refine ⟨s, w_what, ?_, fun no what ln => ?_, H, fun _ => rfl, by unfold w_what; simp⟩
  · unfold replyF
    have := parse_i hc (by omega) hl hs s.1.1 s.1.2.1 s.2.1 s.2.2.1.1 s.2.2.2.1.1 s.2.2.2.1.2.1 s.2.2.2.1.2.2.1 s.2.2.2.2.1 s.2.2.2.2.2.1 (.bool false)
    rw [hq] at this
    exact (congrArg (Option.map fun r : GscriptStateR × Bytes => (dr r.1, r.2)) this)
  · rw [line_s hc (by omega) hl hs, hq]
theorem line_of {q : Bytes × List Int} (hq : parseV w rest = some q) {sp : GcsState → Option (GcsState × Bytes)} {im : GscriptStateR → Option (GscriptStateR × Bytes × Bool)} (h : Same s sp im)
    (hsp : ∀ no what ln, specTail (csOf s no what ln) (w :: rest) (q.1, q.2, true) w = sp (csOf s no what ln))
    (him : ∀ v, implTail (s.1.1, s.1.2.1, s.2.1, s.2.2.1.1, s.2.2.2.1.1, s.2.2.2.1.2.1, s.2.2.2.1.2.2.1, s.2.2.2.2.1, s.2.2.2.2.2.1, v, q.2) w q.1 = (im (wv s v)).bind tailB) : Line s t := by
  obtain ⟨s', r, h1, h2, h3, h4, h5⟩ := h
  refine ⟨s', r, ?_, fun no what ln => ?_, h3, h4, h5⟩
  · unfold replyF
    have := parse_i hc (by omega) hl hs s.1.1 s.1.2.1 s.2.1 s.2.2.1.1 s.2.2.2.1.1 s.2.2.2.1.2.1 s.2.2.2.1.2.2.1 s.2.2.2.2.1 s.2.2.2.2.2.1 (.bool false)
    rw [hq] at this
    have this := this.trans ((him (.bool false)).trans (h2 (.bool false)))
    exact (congrArg (Option.map fun r : GscriptStateR × Bytes => (dr r.1, r.2)) this)
  · rw [line_s hc (by omega) hl hs, hq]
    exact (hsp no what ln).trans (h1 no what ln)
end
theorem bind_pair (a : Option (GcsState × Bytes)) : (a.bind fun r => some (r.1, r.2)) = a := by cases a <;> rfl
theorem ask_of {x : GcsState} {w : Bytes} {rest : List Bytes} {r2 : Bytes × List Int × Bool} (h1 : decide (w = w_towers) = false) (h2 : decide (w = w_code) = false) (h3 : decide (w = w_phrase) = false) (h4 : decide (w = w_tower) = false) (h5 : decide (w = w_link) = false) (h6 : decide (w = w_fog) = false) (h7 : decide (w = w_shift) = false) (h8 : decide (w = w_read) = false) (h9 : decide (w = w_hide) = false) :
    specTail x (w :: rest) r2 w = s_csState_ask x w r2.2.1 := by
  unfold specTail
  rw [h1, h2, h3, h4, h5, h6, h7, h8, h9, show (decide ((0 : Nat) ≤ 0) && decide ((0 : Int) < ((w :: rest).length : Int))) = true by simp]
  exact bind_pair _
theorem len_one {l : List Int} (h : inB (l.length : Int) 1 1 = true) : ∃ p, l = [p] := by
  simp only [inB, Bool.and_eq_true, decide_eq_true_eq] at h
  match l, h with
  | [p], _ => exact ⟨p, rfl⟩
  | [], h => simp at h
  | _ :: _ :: _, h => simp at h; omega
theorem len_two {l : List Int} (h : inB (l.length : Int) 2 2 = true) : ∃ p q, l = [p, q] := by
  simp only [inB, Bool.and_eq_true, decide_eq_true_eq] at h
  match l, h with
  | [p, q], _ => exact ⟨p, q, rfl⟩
  | [], h => simp at h
  | [_], h => simp at h
  | _ :: _ :: _ :: _, h => simp at h; omega
theorem len_three {l : List Int} (h : inB (l.length : Int) 3 3 = true) : ∃ p q z, l = [p, q, z] := by
  simp only [inB, Bool.and_eq_true, decide_eq_true_eq] at h
  match l, h with
  | [p, q, z], _ => exact ⟨p, q, z, rfl⟩
  | [], h => simp at h
  | [_], h => simp at h
  | [_, _], h => simp at h
  | _ :: _ :: _ :: _ :: _, h => simp at h; omega
theorem len_zero {l : List Int} (h : inB (l.length : Int) 0 0 = true) : l = [] := by
  simp only [inB, Bool.and_eq_true, decide_eq_true_eq] at h
  exact List.eq_nil_of_length_eq_zero (by omega)
theorem line_same {s : GscriptStateK} (H : OkS s) {t : Bytes} (hlen : t.length ≤ 2000) : Line s t := by
  have hne := cut_ne 32 t
  have hcl := cut_len 32 t
  have hcm := cut_mem 32 t
  cases hc : cut 32 t with
  | nil => exact absurd hc hne
  | cons w rest =>
    rw [hc] at hcl hcm
    have hl : rest.length ≤ 3000 := by simp at hcl; omega
    have hs : ∀ z ∈ rest, z.length ≤ 1048576 := fun z hz => by have := hcm z (List.mem_cons_of_mem _ hz); omega
    cases hq : parseV w rest with
    | none => exact line_bad hc hlen hl hs H hq
    | some q =>
      obtain ⟨q1, q2⟩ := q
      obtain ⟨f1, f2, f3⟩ := parse_facts hq
      have f1 : inB (q2.length : Int) ((wants w).getD (-1, -1)).1 ((wants w).getD (-1, -1)).2 = true := f1
      by_cases h_towers : w = w_towers
      · subst h_towers
        obtain rfl := len_zero f1
        refine line_of hc hlen hl hs hq (c_towers H) (fun no what ln => rfl) (fun v => ?_)
        unfold implTail
        simp only [show decide (w_towers = w_phrase) = false from rfl, show decide (w_towers = w_code) = false from rfl, show decide (w_towers = w_read) = false from rfl, show decide (w_towers = w_hide) = false from rfl, show decide (w_towers = w_accept) = false from rfl, show decide (w_towers = w_arrived) = false from rfl, show decide (w_towers = w_fail) = false from rfl, show decide (w_towers = w_where) = false from rfl, cond_false, Option.bind_some]
        generalize w_towers = y
        rfl
      by_cases h_code : w = w_code
      · subst h_code
        obtain rfl := len_zero f1
        obtain ⟨g1, g2⟩ := f3 rfl
        exact line_of hc hlen hl hs hq (c_code H g1 g2) (fun no what ln => rfl) (fun v => rfl)
      by_cases h_phrase : w = w_phrase
      · subst h_phrase
        obtain ⟨g1, g2⟩ := f3 rfl
        have hn : q2.length ≤ 20 := by
          have : inB (q2.length : Int) 1 3 = true := f1
          simp only [inB, Bool.and_eq_true, decide_eq_true_eq] at this
          omega
        exact line_of hc hlen hl hs hq (c_phrase H g2 hn) (fun no what ln => bind_pair _) (fun v => rfl)
      by_cases h_tower : w = w_tower
      · subst h_tower
        obtain ⟨p, q, z, rfl⟩ := len_three f1
        exact line_of hc hlen hl hs hq (c_tower H p q z) (fun no what ln => bind_pair _) (fun v => rfl)
      by_cases h_link : w = w_link
      · subst h_link
        obtain ⟨p, q, z, rfl⟩ := len_three f1
        exact line_of hc hlen hl hs hq (c_link H p q z) (fun no what ln => bind_pair _) (fun v => rfl)
      by_cases h_fog : w = w_fog
      · subst h_fog
        obtain ⟨p, q, z, rfl⟩ := len_three f1
        exact line_of hc hlen hl hs hq (c_fog H p q z) (fun no what ln => bind_pair _) (fun v => rfl)
      by_cases h_shift : w = w_shift
      · subst h_shift
        obtain ⟨p, q, z, rfl⟩ := len_three f1
        exact line_of hc hlen hl hs hq (c_shift H p q z) (fun no what ln => bind_pair _) (fun v => rfl)
      by_cases h_read : w = w_read
      · subst h_read
        have hx : q1 = [] := f2 rfl
        subst hx
        have hn : q2.length ≤ 20 := by
          have : inB (q2.length : Int) 1 20 = true := f1
          simp only [inB, Bool.and_eq_true, decide_eq_true_eq] at this
          omega
        exact line_of hc hlen hl hs hq (c_read H hn) (fun no what ln => rfl) (fun v => rfl)
      by_cases h_hide : w = w_hide
      · subst h_hide
        have hx : q1 = [] := f2 rfl
        subst hx
        have hn : 1 ≤ q2.length ∧ q2.length ≤ 20 := by
          have : inB (q2.length : Int) 1 20 = true := f1
          simp only [inB, Bool.and_eq_true, decide_eq_true_eq] at this
          omega
        exact line_of hc hlen hl hs hq (c_hide H hn.1 hn.2) (fun no what ln => bind_pair _) (fun v => rfl)
      by_cases h_accept : w = w_accept
      · subst h_accept
        obtain ⟨p, q, rfl⟩ := len_two f1
        exact line_of hc hlen hl hs hq (c_accept H p q) (fun no what ln => (ask_of rfl rfl rfl rfl rfl rfl rfl rfl rfl).trans (bind_pair _)) (fun v => rfl)
      by_cases h_arrived : w = w_arrived
      · subst h_arrived
        obtain ⟨p, q, rfl⟩ := len_two f1
        exact line_of hc hlen hl hs hq (c_arrived H p q) (fun no what ln => (ask_of rfl rfl rfl rfl rfl rfl rfl rfl rfl).trans (bind_pair _)) (fun v => rfl)
      by_cases h_fail : w = w_fail
      · subst h_fail
        obtain ⟨p, rfl⟩ := len_one f1
        exact line_of hc hlen hl hs hq (c_fail H p) (fun no what ln => (ask_of rfl rfl rfl rfl rfl rfl rfl rfl rfl).trans (bind_pair _)) (fun v => rfl)
      by_cases h_where : w = w_where
      · subst h_where
        obtain ⟨p, rfl⟩ := len_one f1
        exact line_of hc hlen hl hs hq (c_where H p) (fun no what ln => (ask_of rfl rfl rfl rfl rfl rfl rfl rfl rfl).trans rfl) (fun v => rfl)
      by_cases h_duty : w = w_duty
      · subst h_duty
        obtain ⟨p, rfl⟩ := len_one f1
        exact line_of hc hlen hl hs hq (c_duty H p) (fun no what ln => (ask_of rfl rfl rfl rfl rfl rfl rfl rfl rfl).trans rfl) (fun v => rfl)
      by_cases h_way : w = w_way
      · subst h_way
        obtain ⟨p, q, z, rfl⟩ := len_three f1
        exact line_of hc hlen hl hs hq (c_way H p q z) (fun no what ln => (ask_of rfl rfl rfl rfl rfl rfl rfl rfl rfl).trans rfl) (fun v => rfl)
      by_cases h_first : w = w_first
      · subst h_first
        obtain ⟨p, q, z, rfl⟩ := len_three f1
        exact line_of hc hlen hl hs hq (c_first H p q z) (fun no what ln => (ask_of rfl rfl rfl rfl rfl rfl rfl rfl rfl).trans rfl) (fun v => rfl)
      exfalso
      have : wants w = none := by
        unfold wants
        simp only [if_neg h_towers, if_neg h_code, if_neg h_fail, if_neg h_accept, if_neg h_tower, if_neg h_phrase, if_neg h_read, if_neg h_hide, if_neg h_link, if_neg h_fog, if_neg h_first, if_neg h_way, if_neg h_shift, if_neg h_duty, if_neg h_arrived, if_neg h_where]
      rw [this] at f1
      simp only [Option.getD_none, inB, Bool.and_eq_true, decide_eq_true_eq] at f1
      omega
end Go.Proofs.YtkemmodgpafkmaaGreatDoor.Sh
namespace Go.Proofs.YtkemmodgpafkmaaGreatDoor.Sh
open Go Go.Ab Go.Proofs Go.Lib
set_option maxRecDepth 100000
noncomputable def lineF (s : GscriptStateK) (t : Bytes) : GscriptStateK × Bytes := (replyF s t).getD (s, [])
def start : GscriptStateK := (([(0, 0, 20, ())], [], ()), [], ([(([97] : Bytes), [1], ())], ()), (7, 10, [], ()), [], [], ())
theorem start_ok : OkS start where
  net := by decide
  fogs := by decide
  book := by decide
  bf := ⟨by unfold maxLen; decide, fun x hx => by
    have hx : x ∈ [(([97] : Bytes), [(1 : Int)], ())] := hx
    rw [List.mem_singleton] at hx
    rw [hx]
    unfold maxLen
    decide, fun x hx => by
    have hx : x ∈ [(([97] : Bytes), [(1 : Int)], ())] := hx
    rw [List.mem_singleton] at hx
    rw [hx]
    unfold maxLen
    decide⟩
  key := ⟨0, by omega, rfl⟩
  tk := by decide
  ts := ⟨by decide, fun x hx => nomatch hx⟩
  sh := by decide
structure LineOk (s : GscriptStateK) (t : Bytes) : Prop where
  im : replyF s t = some (lineF s t)
  sp : ∀ no what ln, s_csState_line (csOf s no what ln) t = some (csOf (lineF s t).1 no what ln, (lineF s t).2)
  ok : OkS (lineF s t).1
  keep : isBad (lineF s t).2 = true → (lineF s t).1 = s
  len : (lineF s t).2.length ≤ 500000
theorem line_ok {s : GscriptStateK} (H : OkS s) {t : Bytes} (ht : t.length ≤ 2000) : LineOk s t := by
  obtain ⟨s', r, h1, h2, h3, h4, h5⟩ := line_same H ht
  have e : lineF s t = (s', r) := by unfold lineF; rw [h1]; rfl
  exact ⟨by rw [h1, e], by rw [e]; exact h2, by rw [e]; exact h3, by rw [e]; exact h4, by rw [e]; exact h5⟩
noncomputable def runK (ls : List Bytes) : GscriptStateK × List Bytes := runV lineF start ls
theorem runs_ok : ∀ (ls : List Bytes) (s : GscriptStateK), OkS s → (∀ l ∈ ls, l.length ≤ 2000) → OkS (runV lineF s ls).1 ∧ (∀ r ∈ (runV lineF s ls).2, r.length ≤ 500000) ∧ (runV lineF s (keepL isBad ls (runV lineF s ls).2)).1 = (runV lineF s ls).1
  | [], s, H, _ => ⟨H, (fun _ h => nomatch h), rfl⟩
  | t :: r, s, H, hl => by
    have L := line_ok H (hl t (by simp))
    obtain ⟨h1, h2, h3⟩ := runs_ok r _ L.ok fun l h => hl l (List.mem_cons_of_mem _ h)
    refine ⟨h1, fun y hy => ?_, ?_⟩
    · rcases List.mem_cons.1 hy with rfl | hy
      · exact L.len
      · exact h2 y hy
    · simp only [runV, keepL]
      cases hb : isBad (lineF s t).2 with
      | true =>
        have e := L.keep hb
        simp only [cond_true]
        rw [e] at h3 ⊢
        exact h3
      | false =>
        simp only [cond_false, runV]
        exact h3
theorem run_snocK (a : List Bytes) (t : Bytes) : runK (a ++ [t]) = ((lineF (runK a).1 t).1, (runK a).2 ++ [(lineF (runK a).1 t).2]) := run_snoc lineF a t start
theorem runK_len (a : List Bytes) : (runK a).2.length = a.length := run_len lineF a start
def isNo (r : Bytes) : Bool := decide (r = ([110, 111] : Bytes))
def isWhat (r : Bytes) : Bool := decide (r = w_what)
noncomputable def srunF (ls : List Bytes) : (List GTower) × (List GTower) × (List GTower) × (List GPhrase) × Int × Int × (List Int) × (List GTicket) × (List GTower) × (List Int) × (List Int) × Int × Bytes × Int → Option (((List GTower) × (List GTower) × (List GTower) × (List GPhrase) × Int × Int × (List Int) × (List GTicket) × (List GTower) × (List Int) × (List Int) × Int × Bytes × Int) ⊕ (((List GTower) × (List GTower) × (List GTower) × (List GPhrase) × Int × Int × (List Int) × (List GTicket) × (List GTower) × (List Int) × (List Int) × Int × Bytes))) := fun st4 =>
 bif (decide (st4.2.2.2.2.2.2.2.2.2.2.2.2.2 < (ls.length : Int))) then
 (idx ls st4.2.2.2.2.2.2.2.2.2.2.2.2.2).bind fun e5 =>
 (s_csState_line ((st4.1, st4.2.1, ()), st4.2.2.1, (st4.2.2.2.1, ()), (st4.2.2.2.2.1, st4.2.2.2.2.2.1, st4.2.2.2.2.2.2.1, ()), st4.2.2.2.2.2.2.2.1, st4.2.2.2.2.2.2.2.2.1, st4.2.2.2.2.2.2.2.2.2.1, st4.2.2.2.2.2.2.2.2.2.2.1, st4.2.2.2.2.2.2.2.2.2.2.2.1, ()) e5).bind fun r6 =>
 bif (decide (r6.2 = ([110, 111] : Bytes))) then
 bif decide (List.length r6.1.2.2.2.2.2.2.1 + List.length [(w64 (st4.2.2.2.2.2.2.2.2.2.2.2.2.2 + 1))] ≤ lim) then
 bif decide (List.length r6.2 + List.length ([10] : Bytes) ≤ lim) then
 bif decide (List.length st4.2.2.2.2.2.2.2.2.2.2.2.2.1 + List.length (r6.2 ++ ([10] : Bytes)) ≤ lim) then
 some (.inl (r6.1.1.1, r6.1.1.2.1, r6.1.2.1, r6.1.2.2.1.1, r6.1.2.2.2.1.1, r6.1.2.2.2.1.2.1, r6.1.2.2.2.1.2.2.1, r6.1.2.2.2.2.1, r6.1.2.2.2.2.2.1, (r6.1.2.2.2.2.2.2.1 ++ [(w64 (st4.2.2.2.2.2.2.2.2.2.2.2.2.2 + 1))]), r6.1.2.2.2.2.2.2.2.1, r6.1.2.2.2.2.2.2.2.2.1, (st4.2.2.2.2.2.2.2.2.2.2.2.2.1 ++ (r6.2 ++ ([10] : Bytes))), (w64 (st4.2.2.2.2.2.2.2.2.2.2.2.2.2 + 1))))
 else
 none
 else
 none
 else
 none
 else
 bif (decide (r6.2 = w_what)) then
 bif decide (List.length r6.1.2.2.2.2.2.2.2.1 + List.length [(w64 (st4.2.2.2.2.2.2.2.2.2.2.2.2.2 + 1))] ≤ lim) then
 bif decide (List.length r6.2 + List.length ([10] : Bytes) ≤ lim) then
 bif decide (List.length st4.2.2.2.2.2.2.2.2.2.2.2.2.1 + List.length (r6.2 ++ ([10] : Bytes)) ≤ lim) then
 some (.inl (r6.1.1.1, r6.1.1.2.1, r6.1.2.1, r6.1.2.2.1.1, r6.1.2.2.2.1.1, r6.1.2.2.2.1.2.1, r6.1.2.2.2.1.2.2.1, r6.1.2.2.2.2.1, r6.1.2.2.2.2.2.1, r6.1.2.2.2.2.2.2.1, (r6.1.2.2.2.2.2.2.2.1 ++ [(w64 (st4.2.2.2.2.2.2.2.2.2.2.2.2.2 + 1))]), r6.1.2.2.2.2.2.2.2.2.1, (st4.2.2.2.2.2.2.2.2.2.2.2.2.1 ++ (r6.2 ++ ([10] : Bytes))), (w64 (st4.2.2.2.2.2.2.2.2.2.2.2.2.2 + 1))))
 else
 none
 else
 none
 else
 none
 else
 bif decide (List.length r6.2 + List.length ([10] : Bytes) ≤ lim) then
 bif decide (List.length st4.2.2.2.2.2.2.2.2.2.2.2.2.1 + List.length (r6.2 ++ ([10] : Bytes)) ≤ lim) then
 some (.inl (r6.1.1.1, r6.1.1.2.1, r6.1.2.1, r6.1.2.2.1.1, r6.1.2.2.2.1.1, r6.1.2.2.2.1.2.1, r6.1.2.2.2.1.2.2.1, r6.1.2.2.2.2.1, r6.1.2.2.2.2.2.1, r6.1.2.2.2.2.2.2.1, r6.1.2.2.2.2.2.2.2.1, r6.1.2.2.2.2.2.2.2.2.1, (st4.2.2.2.2.2.2.2.2.2.2.2.2.1 ++ (r6.2 ++ ([10] : Bytes))), (w64 (st4.2.2.2.2.2.2.2.2.2.2.2.2.2 + 1))))
 else
 none
 else
 none
 else
 some (.inr (st4.1, st4.2.1, st4.2.2.1, st4.2.2.2.1, st4.2.2.2.2.1, st4.2.2.2.2.2.1, st4.2.2.2.2.2.2.1, st4.2.2.2.2.2.2.2.1, st4.2.2.2.2.2.2.2.2.1, st4.2.2.2.2.2.2.2.2.2.1, st4.2.2.2.2.2.2.2.2.2.2.1, st4.2.2.2.2.2.2.2.2.2.2.2.1, st4.2.2.2.2.2.2.2.2.2.2.2.2.1))
noncomputable def irunF (ls : List Bytes) : (List GTower) × (List GTower) × (List GTower) × (List GPhrase) × Int × Int × (List Int) × (List GTicket) × (List GTower) × (List Bytes) × (List GTower) × (List GTower) × (List GTower) × (List GPhrase) × Int × Int × (List Int) × (List GTicket) × (List GTower) × (List Bytes) × (List Bytes) × Int → Option (((List GTower) × (List GTower) × (List GTower) × (List GPhrase) × Int × Int × (List Int) × (List GTicket) × (List GTower) × (List Bytes) × (List GTower) × (List GTower) × (List GTower) × (List GPhrase) × Int × Int × (List Int) × (List GTicket) × (List GTower) × (List Bytes) × (List Bytes) × Int) ⊕ (((List GTower) × (List GTower) × (List GTower) × (List GPhrase) × Int × Int × (List Int) × (List GTicket) × (List GTower) × (List Bytes) × (List GTower) × (List GTower) × (List GTower) × (List GPhrase) × Int × Int × (List Int) × (List GTicket) × (List GTower) × (List Bytes)))) := fun st3 =>
 bif (decide (st3.2.2.2.2.2.2.2.2.2.2.2.2.2.2.2.2.2.2.2.2.2 < (ls.length : Int))) then
 bif decide (0 ≤ st3.2.2.2.2.2.2.2.2.2.2.2.2.2.2.2.2.2.2.2.2.2) && decide (st3.2.2.2.2.2.2.2.2.2.2.2.2.2.2.2.2.2.2.2.2.2 < (st3.2.2.2.2.2.2.2.2.2.2.2.2.2.2.2.2.2.2.2.2.1.length : Int)) then
 (st3.2.2.2.2.2.2.2.2.2.2.2.2.2.2.2.2.2.2.2.2.1[(Int.toNat st3.2.2.2.2.2.2.2.2.2.2.2.2.2.2.2.2.2.2.2.2.2)]?).bind fun e4 =>
 bothSame (
 (replyF ((st3.2.2.2.2.2.2.2.2.2.2.1, st3.2.2.2.2.2.2.2.2.2.2.2.1, ()), st3.2.2.2.2.2.2.2.2.2.2.2.2.1, (st3.2.2.2.2.2.2.2.2.2.2.2.2.2.1, ()), (st3.2.2.2.2.2.2.2.2.2.2.2.2.2.2.1, st3.2.2.2.2.2.2.2.2.2.2.2.2.2.2.2.1, st3.2.2.2.2.2.2.2.2.2.2.2.2.2.2.2.2.1, ()), st3.2.2.2.2.2.2.2.2.2.2.2.2.2.2.2.2.2.1, st3.2.2.2.2.2.2.2.2.2.2.2.2.2.2.2.2.2.2.1, ()) e4).bind fun r5 =>
 bif decide (List.length st3.2.2.2.2.2.2.2.2.2.2.2.2.2.2.2.2.2.2.2.1 + List.length [r5.2] ≤ lim) then
 some (.inl (st3.1, st3.2.1, st3.2.2.1, st3.2.2.2.1, st3.2.2.2.2.1, st3.2.2.2.2.2.1, st3.2.2.2.2.2.2.1, st3.2.2.2.2.2.2.2.1, st3.2.2.2.2.2.2.2.2.1, st3.2.2.2.2.2.2.2.2.2.1, r5.1.1.1, r5.1.1.2.1, r5.1.2.1, r5.1.2.2.1.1, r5.1.2.2.2.1.1, r5.1.2.2.2.1.2.1, r5.1.2.2.2.1.2.2.1, r5.1.2.2.2.2.1, r5.1.2.2.2.2.2.1, (st3.2.2.2.2.2.2.2.2.2.2.2.2.2.2.2.2.2.2.2.1 ++ [r5.2]), st3.2.2.2.2.2.2.2.2.2.2.2.2.2.2.2.2.2.2.2.2.1, (w64 (st3.2.2.2.2.2.2.2.2.2.2.2.2.2.2.2.2.2.2.2.2.2 + 1))))
 else
 none)
 (
 (replyF ((st3.2.2.2.2.2.2.2.2.2.2.1, st3.2.2.2.2.2.2.2.2.2.2.2.1, ()), st3.2.2.2.2.2.2.2.2.2.2.2.2.1, (st3.2.2.2.2.2.2.2.2.2.2.2.2.2.1, ()), (st3.2.2.2.2.2.2.2.2.2.2.2.2.2.2.1, st3.2.2.2.2.2.2.2.2.2.2.2.2.2.2.2.1, st3.2.2.2.2.2.2.2.2.2.2.2.2.2.2.2.2.1, ()), st3.2.2.2.2.2.2.2.2.2.2.2.2.2.2.2.2.2.1, st3.2.2.2.2.2.2.2.2.2.2.2.2.2.2.2.2.2.2.1, ()) e4).bind fun r6 =>
 bothSame (
 bif decide (List.length st3.2.2.2.2.2.2.2.2.2.2.2.2.2.2.2.2.2.2.2.1 + List.length [r6.2] ≤ lim) then
 some (.inl (st3.1, st3.2.1, st3.2.2.1, st3.2.2.2.1, st3.2.2.2.2.1, st3.2.2.2.2.2.1, st3.2.2.2.2.2.2.1, st3.2.2.2.2.2.2.2.1, st3.2.2.2.2.2.2.2.2.1, st3.2.2.2.2.2.2.2.2.2.1, r6.1.1.1, r6.1.1.2.1, r6.1.2.1, r6.1.2.2.1.1, r6.1.2.2.2.1.1, r6.1.2.2.2.1.2.1, r6.1.2.2.2.1.2.2.1, r6.1.2.2.2.2.1, r6.1.2.2.2.2.2.1, (st3.2.2.2.2.2.2.2.2.2.2.2.2.2.2.2.2.2.2.2.1 ++ [r6.2]), st3.2.2.2.2.2.2.2.2.2.2.2.2.2.2.2.2.2.2.2.2.1, (w64 (st3.2.2.2.2.2.2.2.2.2.2.2.2.2.2.2.2.2.2.2.2.2 + 1))))
 else
 none)
 (
 bif decide (List.length st3.2.2.2.2.2.2.2.2.2.2.2.2.2.2.2.2.2.2.2.1 + List.length [r6.2] ≤ lim) then
 some (.inl (st3.1, st3.2.1, st3.2.2.1, st3.2.2.2.1, st3.2.2.2.2.1, st3.2.2.2.2.2.1, st3.2.2.2.2.2.2.1, st3.2.2.2.2.2.2.2.1, st3.2.2.2.2.2.2.2.2.1, st3.2.2.2.2.2.2.2.2.2.1, r6.1.1.1, r6.1.1.2.1, r6.1.2.1, r6.1.2.2.1.1, r6.1.2.2.2.1.1, r6.1.2.2.2.1.2.1, r6.1.2.2.2.1.2.2.1, r6.1.2.2.2.2.1, r6.1.2.2.2.2.2.1, (st3.2.2.2.2.2.2.2.2.2.2.2.2.2.2.2.2.2.2.2.1 ++ [r6.2]), st3.2.2.2.2.2.2.2.2.2.2.2.2.2.2.2.2.2.2.2.2.1, (w64 (st3.2.2.2.2.2.2.2.2.2.2.2.2.2.2.2.2.2.2.2.2.2 + 1))))
 else
 none))
 else
 none
 else
 some (.inr (st3.1, st3.2.1, st3.2.2.1, st3.2.2.2.1, st3.2.2.2.2.1, st3.2.2.2.2.2.1, st3.2.2.2.2.2.2.1, st3.2.2.2.2.2.2.2.1, st3.2.2.2.2.2.2.2.2.1, st3.2.2.2.2.2.2.2.2.2.1, st3.2.2.2.2.2.2.2.2.2.2.1, st3.2.2.2.2.2.2.2.2.2.2.2.1, st3.2.2.2.2.2.2.2.2.2.2.2.2.1, st3.2.2.2.2.2.2.2.2.2.2.2.2.2.1, st3.2.2.2.2.2.2.2.2.2.2.2.2.2.2.1, st3.2.2.2.2.2.2.2.2.2.2.2.2.2.2.2.1, st3.2.2.2.2.2.2.2.2.2.2.2.2.2.2.2.2.1, st3.2.2.2.2.2.2.2.2.2.2.2.2.2.2.2.2.2.1, st3.2.2.2.2.2.2.2.2.2.2.2.2.2.2.2.2.2.2.1, st3.2.2.2.2.2.2.2.2.2.2.2.2.2.2.2.2.2.2.2.1))
abbrev tupS (s : GscriptStateK) (no what : List Int) (ln : Int) (out : Bytes) (j : Int) : (List GTower) × (List GTower) × (List GTower) × (List GPhrase) × Int × Int × (List Int) × (List GTicket) × (List GTower) × (List Int) × (List Int) × Int × Bytes × Int :=
  (s.1.1, s.1.2.1, s.2.1, s.2.2.1.1, s.2.2.2.1.1, s.2.2.2.1.2.1, s.2.2.2.1.2.2.1, s.2.2.2.2.1, s.2.2.2.2.2.1, no, what, ln, out, j)
abbrev tupI (s : GscriptStateK) (rs ls : List Bytes) (j : Int) : (List GTower) × (List GTower) × (List GTower) × (List GPhrase) × Int × Int × (List Int) × (List GTicket) × (List GTower) × (List Bytes) × (List GTower) × (List GTower) × (List GTower) × (List GPhrase) × Int × Int × (List Int) × (List GTicket) × (List GTower) × (List Bytes) × (List Bytes) × Int :=
  ([], [], [], [], 0, 0, [], [], [], [], s.1.1, s.1.2.1, s.2.1, s.2.2.1.1, s.2.2.2.1.1, s.2.2.2.1.2.1, s.2.2.2.1.2.2.1, s.2.2.2.2.1, s.2.2.2.2.2.1, rs, ls, j)
theorem lim_big {n : Nat} (h : n ≤ 4294967296) : decide (n ≤ lim) = true := by unfold lim; exact decide_eq_true h
theorem step_i {ls : List Bytes} (hls : ls.length ≤ 40) {j : Nat} {t : Bytes} (hj : ls[j]? = some t) {s : GscriptStateK} (L : LineOk s t) {rs : List Bytes} (hr : rs.length ≤ 40) :
    irunF ls (tupI s rs ls (j : Int)) = some (.inl (tupI (lineF s t).1 (rs ++ [(lineF s t).2]) ls ((j : Int) + 1))) := by
  have hlt := (List.getElem?_eq_some_iff.1 hj).1
  have h' : replyF ((s.1.1, s.1.2.1, ()), s.2.1, (s.2.2.1.1, ()), (s.2.2.2.1.1, s.2.2.2.1.2.1, s.2.2.2.1.2.2.1, ()), s.2.2.2.2.1, s.2.2.2.2.2.1, ()) t = some (lineF s t) := L.im
  have hlim : decide (List.length rs + List.length [(lineF s t).2] ≤ lim) = true := lim_big (by simp; omega)
  unfold irunF
  simp only [at_lt hlt, decide_eq_true (show (0 : Int) ≤ (j : Int) by omega), Bool.and_self, cond_true, Int.toNat_natCast, hj, Option.bind_some, h', hlim, bothSame_self, w64_of (show -9223372036854775808 ≤ (j : Int) + 1 by omega) (show (j : Int) + 1 ≤ 9223372036854775807 by omega)]
theorem run_i {ls : List Bytes} (hls : ls.length ≤ 40) (hl : ∀ l ∈ ls, l.length ≤ 2000) : ∀ (r pre : List Bytes), ls = pre ++ r → loopE (irunF ls) (tupI (runK pre).1 (runK pre).2 ls (pre.length : Int)) = some ([], [], [], [], 0, 0, [], [], [], [], (runK ls).1.1.1, (runK ls).1.1.2.1, (runK ls).1.2.1, (runK ls).1.2.2.1.1, (runK ls).1.2.2.2.1.1, (runK ls).1.2.2.2.1.2.1, (runK ls).1.2.2.2.1.2.2.1, (runK ls).1.2.2.2.2.1, (runK ls).1.2.2.2.2.2.1, (runK ls).2)
  | [], pre, e => by
    rw [List.append_nil] at e
    subst e
    refine loopE_done ?_
    unfold irunF
    simp only [show decide ((ls.length : Int) < (ls.length : Int)) = false from decide_eq_false (by omega), cond_false]
  | t :: r, pre, e => by
    have hj : ls[pre.length]? = some t := by rw [e]; simp
    have hp : pre.length < ls.length := by rw [e]; simp
    have H := (runs_ok pre start start_ok fun l h => hl l (by rw [e]; exact List.mem_append_left _ h)).1
    have L : LineOk (runK pre).1 t := line_ok (t := t) H (hl t (List.mem_of_getElem? hj))
    have ih := run_i hls hl r (pre ++ [t]) (by rw [e]; simp)
    rw [run_snocK, show ((pre ++ [t]).length : Int) = (pre.length : Int) + 1 by simp] at ih
    rw [loopE_step (step_i hls hj L (by rw [runK_len]; omega))]
    exact ih
theorem step_s {ls : List Bytes} (hls : ls.length ≤ 40) {j : Nat} {t : Bytes} (hj : ls[j]? = some t) {s : GscriptStateK} (L : LineOk s t) {no what : List Int} {ln : Int} {out : Bytes} (hn : no.length ≤ 40) (hw : what.length ≤ 40) (ho : out.length ≤ 40000000) :
    srunF ls (tupS s no what ln out (j : Int)) = some (.inl (tupS (lineF s t).1 (no ++ bif isNo (lineF s t).2 then [(j : Int) + 1] else []) (what ++ bif isWhat (lineF s t).2 then [(j : Int) + 1] else []) ln (out ++ ((lineF s t).2 ++ [10])) ((j : Int) + 1))) := by
  have hlt := (List.getElem?_eq_some_iff.1 hj).1
  have hL := L.len
  have h' : s_csState_line ((s.1.1, s.1.2.1, ()), s.2.1, (s.2.2.1.1, ()), (s.2.2.2.1.1, s.2.2.2.1.2.1, s.2.2.2.1.2.2.1, ()), s.2.2.2.2.1, s.2.2.2.2.2.1, no, what, ln, ()) t = some (csOf (lineF s t).1 no what ln, (lineF s t).2) := L.sp no what ln
  have l1 : decide (List.length no + List.length [(j : Int) + 1] ≤ lim) = true := lim_big (by simp; omega)
  have l2 : decide (List.length what + List.length [(j : Int) + 1] ≤ lim) = true := lim_big (by simp; omega)
  have l3 : decide (List.length (lineF s t).2 + List.length ([10] : Bytes) ≤ lim) = true := lim_big (by simp; omega)
  have l4 : decide (List.length out + List.length ((lineF s t).2 ++ ([10] : Bytes)) ≤ lim) = true := lim_big (by simp; omega)
  unfold srunF
  simp only [at_lt hlt, cond_true, idx_get, hj, Option.bind_some, h', l1, l2, l3, l4, w64_of (show -9223372036854775808 ≤ (j : Int) + 1 by omega) (show (j : Int) + 1 ≤ 9223372036854775807 by omega)]
  unfold isNo isWhat
  by_cases e1 : (lineF s t).2 = ([110, 111] : Bytes)
  · rw [e1]
    simp only [decide_true, cond_true, show decide (([110, 111] : Bytes) = w_what) = false from rfl, cond_false, List.append_nil]
  · rw [decide_eq_false e1]
    cases decide ((lineF s t).2 = w_what) <;> simp only [cond_false, cond_true, List.append_nil]
noncomputable def noL (ls : List Bytes) : List Int := badNos isNo 1 (runK ls).2
noncomputable def whatL (ls : List Bytes) : List Int := badNos isWhat 1 (runK ls).2
theorem noL_snoc (a : List Bytes) (t : Bytes) : noL (a ++ [t]) = noL a ++ bif isNo (lineF (runK a).1 t).2 then [(a.length : Int) + 1] else [] := by
  unfold noL
  rw [run_snocK, badNos_snoc, runK_len, show ((1 + a.length : Nat) : Int) = (a.length : Int) + 1 by omega]
theorem whatL_snoc (a : List Bytes) (t : Bytes) : whatL (a ++ [t]) = whatL a ++ bif isWhat (lineF (runK a).1 t).2 then [(a.length : Int) + 1] else [] := by
  unfold whatL
  rw [run_snocK, badNos_snoc, runK_len, show ((1 + a.length : Nat) : Int) = (a.length : Int) + 1 by omega]
theorem noL_len (ls : List Bytes) : (noL ls).length ≤ ls.length := by
  unfold noL
  rw [badNos_len]
  have := List.countP_le_length (p := isNo) (l := (runK ls).2)
  rw [runK_len] at this
  exact this
theorem whatL_len (ls : List Bytes) : (whatL ls).length ≤ ls.length := by
  unfold whatL
  rw [badNos_len]
  have := List.countP_le_length (p := isWhat) (l := (runK ls).2)
  rw [runK_len] at this
  exact this
theorem glue_le : ∀ (rs : List Bytes), (∀ r ∈ rs, r.length ≤ 500000) → (glue rs).length ≤ 500001 * rs.length
  | [], _ => Nat.le_refl _
  | r :: rs, h => by
    have ih := glue_le rs fun y hy => h y (List.mem_cons_of_mem _ hy)
    have := h r (by simp)
    rw [glue_cons]
    simp only [List.length_append, List.length_cons]
    omega
theorem run_s {ls : List Bytes} (hls : ls.length ≤ 40) (hl : ∀ l ∈ ls, l.length ≤ 2000) : ∀ (r pre : List Bytes), ls = pre ++ r → loopE (srunF ls) (tupS (runK pre).1 (noL pre) (whatL pre) 0 (glue (runK pre).2) (pre.length : Int)) = some ((runK ls).1.1.1, (runK ls).1.1.2.1, (runK ls).1.2.1, (runK ls).1.2.2.1.1, (runK ls).1.2.2.2.1.1, (runK ls).1.2.2.2.1.2.1, (runK ls).1.2.2.2.1.2.2.1, (runK ls).1.2.2.2.2.1, (runK ls).1.2.2.2.2.2.1, noL ls, whatL ls, 0, glue (runK ls).2)
  | [], pre, e => by
    rw [List.append_nil] at e
    subst e
    refine loopE_done ?_
    unfold srunF
    simp only [show decide ((ls.length : Int) < (ls.length : Int)) = false from decide_eq_false (by omega), cond_false]
  | t :: r, pre, e => by
    have hj : ls[pre.length]? = some t := by rw [e]; simp
    have hp : pre.length < ls.length := by rw [e]; simp
    obtain ⟨H, H2, _⟩ := runs_ok pre start start_ok fun l h => hl l (by rw [e]; exact List.mem_append_left _ h)
    have L : LineOk (runK pre).1 t := line_ok (t := t) H (hl t (List.mem_of_getElem? hj))
    have ih := run_s hls hl r (pre ++ [t]) (by rw [e]; simp)
    have g := glue_le (runK pre).2 H2
    rw [runK_len] at g
    have n1 := noL_len pre
    have n2 := whatL_len pre
    rw [run_snocK, noL_snoc, whatL_snoc, show ((pre ++ [t]).length : Int) = (pre.length : Int) + 1 by simp, glue_app] at ih
    rw [loopE_step (step_s hls hj L (by omega) (by omega) (by omega))]
    rw [show glue [(lineF (runK pre).1 t).2] = (lineF (runK pre).1 t).2 ++ [10] by simp [glue]] at ih
    exact ih
theorem runScript_i {s : Bytes} (hl : s.length < 4294967200) : i_runScript s = some (bif (linesP s).2 then (((runK (linesP s).1).1.1, (runK (linesP s).1).1.2.1, (runK (linesP s).1).1.2.2.1, (runK (linesP s).1).1.2.2.2.1, (runK (linesP s).1).1.2.2.2.2.1, (runK (linesP s).1).1.2.2.2.2.2.1, (runK (linesP s).1).2, ()), true) else ((([], [], ()), [], ([], ()), (0, 0, [], ()), [], [], [], ()), false)) := by
  unfold i_runScript
  rw [lines_i hl]
  simp only [Option.bind_some]
  cases hok : (linesP s).2 with
  | false => rfl
  | true =>
    simp only [Bool.not_true, cond_false, cond_true]
    obtain ⟨b1, b2⟩ : (linesP s).1.length ≤ 40 ∧ ∀ l ∈ (linesP s).1, l.length ≤ 2000 := by
      unfold linesP at hok ⊢
      by_cases h1 : 2000 < s.length
      · rw [decide_eq_true h1] at hok; cases hok
      · rw [decide_eq_false h1] at hok ⊢
        simp only [cond_false] at hok ⊢
        cases h2 : (!decide (s = []) && !decide (s.getLast? = some 10)) with
        | true => rw [h2] at hok; cases hok
        | false =>
          rw [h2] at hok
          simp only [cond_false] at hok ⊢
          by_cases h3 : 40 < (cut 10 s).dropLast.length
          · rw [decide_eq_true h3] at hok; cases hok
          · rw [decide_eq_false h3]
            refine ⟨by simp only [cond_false]; omega, fun l hlm => ?_⟩
            have := cut_mem 10 s l (List.dropLast_subset _ hlm)
            omega
    have := run_i b1 b2 (linesP s).1 [] rfl
    exact bind_eq this rfl
theorem lines_in {s : Bytes} (hok : (linesP s).2 = true) : (linesP s).1.length ≤ 40 ∧ (∀ l ∈ (linesP s).1, l.length ≤ 2000 ∧ (10 : UInt8) ∉ l) ∧ s = glue (linesP s).1 ∧ s.length ≤ 2000 := by
  unfold linesP at hok ⊢
  by_cases h1 : 2000 < s.length
  · rw [decide_eq_true h1] at hok; cases hok
  · rw [decide_eq_false h1] at hok ⊢
    simp only [cond_false] at hok ⊢
    cases h2 : (!decide (s = []) && !decide (s.getLast? = some 10)) with
    | true => rw [h2] at hok; cases hok
    | false =>
      rw [h2] at hok
      simp only [cond_false] at hok ⊢
      by_cases h3 : 40 < (cut 10 s).dropLast.length
      · rw [decide_eq_true h3] at hok; cases hok
      · rw [decide_eq_false h3]
        refine ⟨by simp only [cond_false]; omega, fun l hlm => ?_, ?_, by omega⟩
        · have := cut_mem 10 s l (List.dropLast_subset _ hlm)
          exact ⟨by omega, cut_free s l (List.dropLast_subset _ hlm)⟩
        · refine (glue_ends ?_).symm
          rw [Bool.and_eq_false_iff] at h2
          rcases h2 with h2 | h2
          · left; simpa using h2
          · right; simpa using h2
theorem csRun_s {s : Bytes} (hl : s.length < 4294967200) : s_csRun s = some (bif (linesP s).2 then (csOf (runK (linesP s).1).1 (noL (linesP s).1) (whatL (linesP s).1) ((linesP s).1.length : Int), glue (runK (linesP s).1).2, true) else (csOf start [] [] 0, [], false)) := by
  unfold s_csRun s_csStart
  rw [lines_s hl]
  simp only [Option.bind_some]
  cases hok : (linesP s).2 with
  | false => rfl
  | true =>
    simp only [Bool.not_true, cond_false, cond_true]
    obtain ⟨b1, b2, _⟩ := lines_in hok
    have := run_s b1 (fun l h => (b2 l h).1) (linesP s).1 [] rfl
    exact bind_eq this rfl
end Go.Proofs.YtkemmodgpafkmaaGreatDoor.Sh
