/-
  Lines of scripts, and scripts joined: the program's and the specification's.
-/
import Derived.Test.YtbncfclmobcmeaaDoorJFns
import Derived.Test.YtbncfclmobcmeaaDoorXStr
namespace Go.Proofs.YtbncfclmobcmeaaDoor.Sh
open Go Go.Ab

theorem nil_or_last (s : Bytes) : s = [] ∨ ∃ (t : Bytes) (x : UInt8), s = t ++ [x] := by
  rcases List.eq_nil_or_concat s with h | ⟨t, x, h⟩
  · exact .inl h
  · exact .inr ⟨t, x, h.trans (by simp)⟩

theorem suffix_one (s : Bytes) (x : UInt8) (hl : s.length < 4294967290) : strings_CutSuffix (s ++ [x]) ([10] : Bytes) = some (bif decide (x = 10) then (s, true) else (s ++ [x], false)) := by
  unfold strings_CutSuffix internal_stringslite_CutSuffix internal_stringslite_HasSuffix
  have e1 : w64 (((s ++ [x]).length : Int) - (([10] : Bytes).length : Int)) = (s.length : Int) := by
    rw [w64_of] <;> simp <;> omega
  have e2 : sub (s ++ [x]) (s.length : Int) ((s ++ [x]).length : Int) = some [x] := by
    rw [sub_all (by simp), List.drop_left]
  have e3 : sub (s ++ [x]) 0 (s.length : Int) = some s := by
    have := sub_mid ([] : Bytes) s [x]
    simpa using this
  simp only [e1, e2, e3]
  rw [show decide ((([10] : Bytes).length : Int) ≤ ((s ++ [x]).length : Int)) = true by simp; omega]
  simp only [cond_true, Option.bind_some]
  by_cases h : x = 10
  · subst h; simp
  · rw [show decide (([x] : Bytes) = [10]) = false by simpa using h, show decide (x = 10) = false by simpa using h]
    rfl

theorem split_eq {s : Bytes} (hl : s.length < 4294967290) : s_l1Split s 10 = some (cut 10 s) := split_loop (c := 10) rfl hl

/-- the lines of a script -/
def linesP (s : Bytes) : List Bytes × Bool :=
  bif decide (2000 < s.length) then ([], false) else
  bif !decide (s = []) && !decide (s.getLast? = some 10) then ([], false) else
  bif decide (40 < (cut 10 s).dropLast.length) then ([], false) else ((cut 10 s).dropLast, true)

theorem lines_i {s : Bytes} (hl : s.length < 4294967200) : i_scriptLines s = some (linesP s) := by
  unfold i_scriptLines linesP
  by_cases h1 : 2000 < s.length
  · rw [decide_eq_true h1, show decide (2000 < (s.length : Int)) = true from decide_eq_true (by omega)]; rfl
  · rw [decide_eq_false h1, show decide (2000 < (s.length : Int)) = false from decide_eq_false (by omega)]
    simp only [cond_false]
    unfold i_linesOf
    rcases nil_or_last s with rfl | ⟨t, x, rfl⟩
    · rfl
    · rw [show decide (t ++ [x] = []) = false by simp]
      have hl' : t.length < 4294967199 := by simp at hl; omega
      simp only [cond_false, suffix_one t x (by omega), Option.bind_some]
      by_cases h2 : x = 10
      · subst h2
        rw [show decide ((10 : UInt8) = 10) = true from rfl]
        simp only [cond_true, Bool.not_true, cond_false, Option.bind_some, splitF_one (c := 10) (show t.length < 4294967281 by omega)]
        rw [show (t ++ [(10 : UInt8)]).getLast? = some 10 by simp, cut_last, List.dropLast_concat]
        simp only [decide_true, Bool.not_true, Bool.and_false, cond_false]
        by_cases h3 : 40 < (cut 10 t).length
        · rw [decide_eq_true h3, show decide (40 < ((cut 10 t).length : Int)) = true from decide_eq_true (by omega)]; rfl
        · rw [decide_eq_false h3, show decide (40 < ((cut 10 t).length : Int)) = false from decide_eq_false (by omega)]; rfl
      · rw [show decide (x = 10) = false by simpa using h2, show (t ++ [x]).getLast? = some x by simp, show decide (some x = some (10 : UInt8)) = false by simpa using h2]
        rfl

theorem lines_s {s : Bytes} (hl : s.length < 4294967200) : s_csLines s = some (linesP s) := by
  unfold s_csLines linesP
  by_cases h1 : 2000 < s.length
  · rw [decide_eq_true h1, show decide (2000 < (s.length : Int)) = true from decide_eq_true (by omega)]; rfl
  · rw [decide_eq_false h1, show decide (2000 < (s.length : Int)) = false from decide_eq_false (by omega)]
    simp only [cond_false, split_eq (show s.length < 4294967290 by omega), Option.bind_some]
    have hne := cut_ne 10 s
    have hsub : sub (cut 10 s) 0 (w64 (((cut 10 s).length : Int) - 1)) = some (cut 10 s).dropLast := by
      have hc := cut_len 10 s
      have hp : 0 < (cut 10 s).length := List.length_pos_iff.2 hne
      rw [w64_of (by omega) (by omega)]
      unfold sub
      rw [if_pos ⟨by omega, by omega, by omega⟩]
      rw [List.dropLast_eq_take]
      simp
    simp only [hsub, Option.bind_some]
    have fin : (bif decide (40 < (((cut 10 s).dropLast.length : Nat) : Int)) then some (([] : List Bytes), false) else some ((cut 10 s).dropLast, true)) = some (bif decide (40 < (cut 10 s).dropLast.length) then ([], false) else ((cut 10 s).dropLast, true)) := by
      by_cases h3 : 40 < (cut 10 s).dropLast.length
      · rw [decide_eq_true h3, show decide (40 < (((cut 10 s).dropLast.length : Nat) : Int)) = true from decide_eq_true (by omega)]; rfl
      · rw [decide_eq_false h3, show decide (40 < (((cut 10 s).dropLast.length : Nat) : Int)) = false from decide_eq_false (by omega)]; rfl
    rcases nil_or_last s with rfl | ⟨t, x, rfl⟩
    · rfl
    · rw [show decide (t ++ [x] = []) = false by simp, show (t ++ [x]).getLast? = some x by simp]
      have hx : idx (t ++ [x]) (w64 (((t ++ [x]).length : Int) - 1)) = some x := by
        rw [w64_of (by simp) (by simp at hl ⊢; omega)]
        rw [show (((t ++ [x]).length : Nat) : Int) - 1 = ((t.length : Nat) : Int) by simp, idx_get]
        simp
      simp only [Bool.not_false, cond_true, hx, Option.bind_some, Bool.true_and]
      by_cases h2 : x = 10
      · subst h2
        rw [show decide (((10 : UInt8).toNat : Int) = 10) = true from rfl, show decide (some (10 : UInt8) = some 10) = true from rfl]
        exact fin
      · rw [show decide ((x.toNat : Int) = 10) = false by
          simp only [decide_eq_false_iff_not]
          intro h
          exact h2 (UInt8.toNat_inj.1 (by rw [show (10 : UInt8).toNat = 10 from rfl]; omega)), show decide (some x = some (10 : UInt8)) = false by simpa using h2]
        rfl

theorem plain_JoinScripts (a b : Bytes) : l_FnExactJoinScripts a b = some true := by
  have hlim : lim = 4294967296 := rfl
  unfold l_FnExactJoinScripts
  by_cases h1 : 1048576 < a.length
  · rw [show decide (1048576 < (a.length : Int)) = true from decide_eq_true (by omega)]; rfl
  · rw [show decide (1048576 < (a.length : Int)) = false from decide_eq_false (by omega)]
    by_cases h2 : 1048576 < b.length
    · rw [show decide (1048576 < (b.length : Int)) = true from decide_eq_true (by omega)]; rfl
    · rw [show decide (1048576 < (b.length : Int)) = false from decide_eq_false (by omega)]
      simp only [cond_false]
      have same : s_JoinScripts a b = i_JoinScripts a b := by
        unfold s_JoinScripts i_JoinScripts
        rw [lines_i (show a.length < 4294967200 by omega), lines_i (show b.length < 4294967200 by omega), lines_i (show (a ++ b).length < 4294967200 by rw [List.length_append]; omega),
          lines_s (show a.length < 4294967200 by omega), lines_s (show b.length < 4294967200 by omega), lines_s (show (a ++ b).length < 4294967200 by rw [List.length_append]; omega)]
      have some' : ∃ p, i_JoinScripts a b = some p := by
        unfold i_JoinScripts
        rw [lines_i (show a.length < 4294967200 by omega), lines_i (show b.length < 4294967200 by omega), lines_i (show (a ++ b).length < 4294967200 by rw [List.length_append]; omega),
          decide_eq_true (show a.length + b.length ≤ lim by omega)]
        simp only [Option.bind_some, cond_true]
        cases (linesP a).2 <;> cases (linesP b).2 <;> cases (linesP (a ++ b)).2 <;> exact ⟨_, rfl⟩
      obtain ⟨p, hp⟩ := some'
      rw [same, hp]
      simp
end Go.Proofs.YtbncfclmobcmeaaDoor.Sh
