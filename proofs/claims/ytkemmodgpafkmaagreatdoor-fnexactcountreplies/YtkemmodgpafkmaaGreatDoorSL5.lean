/-
  Plain facts, over this seat.
-/
import Derived.Test.YtkemmodgpafkmaaGreatDoorSL4
import Derived.Test.YtkemmodgpafkmaaGreatDoorSFns3
namespace Go.Proofs.YtkemmodgpafkmaaGreatDoor.Sh
open Go Go.Ab Go.Proofs
end Go.Proofs.YtkemmodgpafkmaaGreatDoor.Sh
namespace Go.Proofs.YtkemmodgpafkmaaGreatDoor.Sh
open Go Go.Ab Go.Proofs
end Go.Proofs.YtkemmodgpafkmaaGreatDoor.Sh
namespace Go.Proofs.YtkemmodgpafkmaaGreatDoor.Sh
open Go Go.Ab Go.Proofs
end Go.Proofs.YtkemmodgpafkmaaGreatDoor.Sh
namespace Go.Proofs.YtkemmodgpafkmaaGreatDoor.Sh.Q.D
open Go Go.Ab
end Go.Proofs.YtkemmodgpafkmaaGreatDoor.Sh.Q.D
namespace Go.Proofs.YtkemmodgpafkmaaGreatDoor.Sh
open Go Go.Ab Go.Proofs Go.Lib
set_option maxRecDepth 100000
theorem runs_of {s : Bytes} (hok : (linesP s).2 = true) : OkS (runK (linesP s).1).1 ∧ (∀ r ∈ (runK (linesP s).1).2, r.length ≤ 500000) ∧ (runK (linesP s).1).2.length ≤ 40 := by
  obtain ⟨b1, b2, _⟩ := lines_in hok
  obtain ⟨h1, h2, _⟩ := runs_ok (linesP s).1 start start_ok fun l h => (b2 l h).1
  exact ⟨h1, h2, by rw [runK_len]; exact b1⟩
def isOther (r : Bytes) : Bool := !isBad r
theorem count_loop {rs : List Bytes} (h : rs.length ≤ 40) : ∀ (r pre : List Bytes), rs = pre ++ r → loopE (fun (st3 : Int × Int × Int × (List Bytes) × Int) => (
 bif (decide (st3.2.2.2.2 < (rs.length : Int))) then
 bif decide (0 ≤ st3.2.2.2.2) && decide (st3.2.2.2.2 < (st3.2.2.2.1.length : Int)) then
 (st3.2.2.2.1[(Int.toNat st3.2.2.2.2)]?).bind fun e4 =>
 bif (decide (e4 = ([110, 111] : Bytes))) then
 some (.inl ((w64 (st3.1 + 1)), st3.2.1, st3.2.2.1, st3.2.2.2.1, (w64 (st3.2.2.2.2 + 1))))
 else
 bif (decide (e4 = w_what)) then
 some (.inl (st3.1, (w64 (st3.2.1 + 1)), st3.2.2.1, st3.2.2.2.1, (w64 (st3.2.2.2.2 + 1))))
 else
 some (.inl (st3.1, st3.2.1, (w64 (st3.2.2.1 + 1)), st3.2.2.2.1, (w64 (st3.2.2.2.2 + 1))))
 else
 none
 else
 some (.inr (st3.1, st3.2.1, st3.2.2.1)) : Option ((Int × Int × Int × (List Bytes) × Int) ⊕ ((Int × Int × Int))))) (((pre.countP isNo : Nat) : Int), ((pre.countP isWhat : Nat) : Int), ((pre.countP isOther : Nat) : Int), rs, (pre.length : Int)) = some (((rs.countP isNo : Nat) : Int), ((rs.countP isWhat : Nat) : Int), ((rs.countP isOther : Nat) : Int))
  | [], pre, e => by
    rw [List.append_nil] at e
    subst e
    exact loopE_done (by simp)
  | x :: r, pre, e => by
    have hj : rs[pre.length]? = some x := by rw [e]; simp
    have hp : pre.length < rs.length := by rw [e]; simp
    have ih := count_loop h r (pre ++ [x]) (by rw [e]; simp)
    have c1 := List.countP_le_length (p := isNo) (l := pre)
    have c2 := List.countP_le_length (p := isWhat) (l := pre)
    have c3 := List.countP_le_length (p := isOther) (l := pre)
    simp only [List.countP_append, List.countP_cons, List.countP_nil, Nat.zero_add] at ih
    rw [show ((pre ++ [x]).length : Int) = (pre.length : Int) + 1 by simp] at ih
    have w0 : w64 ((pre.length : Int) + 1) = (pre.length : Int) + 1 := w64_of (by omega) (by omega)
    have w1 : w64 (((pre.countP isNo : Nat) : Int) + 1) = ((pre.countP isNo + 1 : Nat) : Int) := by rw [w64_of (by omega) (by omega)]; omega
    have w2 : w64 (((pre.countP isWhat : Nat) : Int) + 1) = ((pre.countP isWhat + 1 : Nat) : Int) := by rw [w64_of (by omega) (by omega)]; omega
    have w3 : w64 (((pre.countP isOther : Nat) : Int) + 1) = ((pre.countP isOther + 1 : Nat) : Int) := by rw [w64_of (by omega) (by omega)]; omega
    rw [loopE_step (a' := (((pre.countP isNo + (if isNo x = true then 1 else 0) : Nat) : Int), ((pre.countP isWhat + (if isWhat x = true then 1 else 0) : Nat) : Int), ((pre.countP isOther + (if isOther x = true then 1 else 0) : Nat) : Int), rs, (pre.length : Int) + 1)) ?_]
    · exact ih
    · simp only [at_lt hp, decide_eq_true (show (0 : Int) ≤ (pre.length : Int) by omega), Bool.and_self, cond_true, Int.toNat_natCast, hj, Option.bind_some, w0, w1, w2, w3]
      unfold isOther isBad isNo isWhat
      by_cases e1 : x = ([110, 111] : Bytes)
      · subst e1
        rfl
      · rw [decide_eq_false e1]
        cases decide (x = w_what) <;> rfl
theorem counts (rs : List Bytes) : rs.countP isNo + rs.countP isWhat + rs.countP isOther = rs.length := by
  induction rs with
  | nil => rfl
  | cons x rs ih =>
    simp only [List.countP_cons, List.length_cons]
    have : (if isNo x = true then 1 else 0) + (if isWhat x = true then 1 else 0) + (if isOther x = true then 1 else 0) = 1 := by
      unfold isOther isBad isNo isWhat
      by_cases e1 : x = ([110, 111] : Bytes)
      · subst e1
        rfl
      · rw [decide_eq_false e1]
        cases decide (x = w_what) <;> rfl
    omega
noncomputable def countsR (s : Bytes) : Int × Int × Int × Bool := bif (linesP s).2 then (((runK (linesP s).1).2.countP isNo : Nat), ((runK (linesP s).1).2.countP isWhat : Nat), ((runK (linesP s).1).2.countP isOther : Nat), true) else (0, 0, 0, false)
theorem counts_i {s : Bytes} (hl : s.length < 4294967200) : i_CountReplies s = some (countsR s) := by
  unfold i_CountReplies countsR
  rw [runScript_i hl]
  simp only [Option.bind_some]
  cases hok : (linesP s).2 with
  | false =>
    have := count_loop (rs := []) (by simp) [] [] rfl
    exact bind_eq this rfl
  | true =>
    obtain ⟨_, _, h3⟩ := runs_of hok
    have := count_loop h3 (runK (linesP s).1).2 [] rfl
    exact bind_eq this rfl
theorem counts_s {s : Bytes} (hl : s.length < 4294967200) : s_CountReplies s = some (countsR s) := by
  unfold s_CountReplies countsR
  rw [csRun_s hl]
  cases hok : (linesP s).2 with
  | false => rfl
  | true =>
    obtain ⟨_, _, h3⟩ := runs_of hok
    have hc := counts (runK (linesP s).1).2
    have hn : (noL (linesP s).1).length = (runK (linesP s).1).2.countP isNo := badNos_len _ _ _
    have hw : (whatL (linesP s).1).length = (runK (linesP s).1).2.countP isWhat := badNos_len _ _ _
    rw [runK_len] at hc h3
    simp only [cond_true, Option.bind_some, Bool.not_true, cond_false]
    rw [w64_of (x := ((linesP s).1.length : Int) - ((noL (linesP s).1).length : Int)) (by omega) (by omega), w64_of (by omega) (by omega), hn, hw]
    congr 4
    omega
theorem plain_CountReplies (s : Bytes) : l_FnExactCountReplies s = some true := by
  unfold l_FnExactCountReplies
  by_cases h : 1048576 < (s.length : Int)
  · rw [decide_eq_true h]; rfl
  · rw [decide_eq_false h]
    simp only [cond_false, counts_s (s := s) (by omega), counts_i (s := s) (by omega), Option.bind_some, decide_true, Bool.not_true, bne_self_eq_false]
end Go.Proofs.YtkemmodgpafkmaaGreatDoor.Sh
