/-
  Further operations that turn no object: numbers, texts, structs, slices.
-/
import Derived.Test.YtlhplhjibadplaaXOps
namespace Go.Ab
open Go Go.RowKit

section
variable {P : Program} {E : Env} {h get : HGet} {S : Blk} {w : World} {m : OMap} {B : Nat} {M0 : Blk}

theorem wfI_wrap (k : IntKind) (n : Int) : wfI k (k.wrap n) := wf_wrap k n
theorem wfI_iff (k : IntKind) (n : Int) : wfI k n ↔ k.min ≤ n ∧ n ≤ k.max := by simp [wfI, Lit.wf]

theorem tmod_le {x y : Int} (h : 0 ≤ x) : x.tmod y ≤ x := by
  obtain ⟨n, rfl⟩ := Int.eq_ofNat_of_zero_le h
  have : ((n : Int).tmod y) = ((n % y.natAbs : Nat) : Int) := by
    rw [Int.tmod_eq_emod_of_nonneg (by omega)]
    rcases Int.natAbs_eq y with e | e
    · rw [e]; simp
    · rw [e]; simp
  rw [this]
  have := Nat.mod_le n y.natAbs
  omega

theorem wfI_tmod [Tabs] {k : IntKind} {x : Int} (hx : wfI k x) (y : Int) : wfI k (x.tmod y) := by
  rw [wfI_iff] at hx ⊢
  have h0 : k.min ≤ 0 := by cases k <;> decide
  have h1 : 0 ≤ k.max := by cases k <;> decide
  rcases Int.le_total 0 x with hp | hp
  · have a := Int.tmod_nonneg y hp
    have b : x.tmod y ≤ x := tmod_le hp
    omega
  · have a : 0 ≤ (-x).tmod y := Int.tmod_nonneg y (by omega)
    have b : (-x).tmod y ≤ -x := tmod_le (by omega)
    rw [Int.neg_tmod] at a b
    omega

theorem run_bool_eql {t : TypeId} (hd : P.underlying t = some .bool) (p q : Bool) : (binOp .eql t (.bool p) (.bool q)).run P w = .ok (.bool (p == q)) w := by
  have := run_equalIn_bool (P := P) w 9999 t p q hd
  show (do pure (.bool (← Op.equal t (.bool p) (.bool q))) : Sem Value).run P w = _
  simp only [Sem.run_bind, Op.equal, Op.maxDepth, this, Result.andThen_ok, Sem.run_pure]
theorem run_bool_neq {t : TypeId} (hd : P.underlying t = some .bool) (p q : Bool) : (binOp .neq t (.bool p) (.bool q)).run P w = .ok (.bool (p != q)) w := by
  have := run_equalIn_bool (P := P) w 9999 t p q hd
  show (do pure (.bool (!(← Op.equal t (.bool p) (.bool q)))) : Sem Value).run P w = _
  simp only [Sem.run_bind, Op.equal, Op.maxDepth, this, Result.andThen_ok, Sem.run_pure]
  rfl

theorem run_eqGuard_int (op : BinOp) (t : TypeId) (x y : Operand) (j k : IntKind) (a b : Int) : (eqGuard op t x y (.int j a) (.int k b)).run P w = .ok () w := by
  unfold eqGuard; cases op <;> rfl
theorem run_eqGuard_bool (op : BinOp) (t : TypeId) (x y : Operand) (a b : Bool) : (eqGuard op t x y (.bool a) (.bool b)).run P w = .ok () w := by
  unfold eqGuard; cases op <;> rfl
theorem run_eqGuard_string (op : BinOp) (t : TypeId) (x y : Operand) (a b : ByteArray) : (eqGuard op t x y (.string a) (.string b)).run P w = .ok () w := by
  unfold eqGuard; cases op <;> rfl

theorem pv_bool (b : Bool) : VRel h S w m (.one (.pv .bool b)) (.bool b) := ⟨rfl, rfl⟩
theorem pv_int {k : IntKind} {x : Int} (hx : wfI k x) : VRel h S w m (.one (.pv (.int k) x)) (.int k x) := ⟨rfl, rfl, hx⟩
theorem pv_str {x : Bytes} (hx : x.length ≤ maxLen) : VRel h S w m (.one (.pv .str x)) (.string ⟨⟨x⟩⟩) := ⟨rfl, rfl, hx⟩

theorem inv_bool {b : Bool} {v : Value} (r : CellRel h S w m (.pv .bool b) v) : v = .bool b := by have := r.2; simp only [Rep, List.cons.injEq, and_true] at this; exact this
theorem inv_int {k : IntKind} {x : Int} {v : Value} (r : CellRel h S w m (.pv (.int k) x) v) : v = .int k x ∧ wfI k x := by have := r.2; simp only [Rep, List.cons.injEq, and_true] at this; exact this
theorem inv_str {x : Bytes} {v : Value} (r : CellRel h S w m (.pv .str x) v) : v = .string ⟨⟨x⟩⟩ ∧ x.length ≤ maxLen := by have := r.2; simp only [Rep, List.cons.injEq, and_true] at this; exact this

theorem toList_mk (x : Bytes) : (ByteArray.mk ⟨x⟩).toList = x := ByteArray.toList_eq ⟨⟨x⟩⟩

theorem append_mk (p q : Bytes) : (ByteArray.mk ⟨p⟩ ++ ByteArray.mk ⟨q⟩) = ByteArray.mk ⟨p ++ q⟩ := by
  apply ByteArray.ext
  simp [ByteArray.data_append]

theorem beq_list {x y : Bytes} : (x == y) = decide (x = y) := by
  by_cases e : x = y
  · subst e; simp
  · simp [e]

theorem wfI_shift [Tabs] {k : IntKind} {x : Int} (hx : wfI k x) (op : BinOp) (y : Int) : wfI k (shiftI op k x y) := by
  unfold shiftI
  split
  · exact wfI_wrap _ _
  · rw [wfI_iff] at hx ⊢
    have hd : (0 : Int) < 2 ^ (min y.toNat k.bits) := Int.pow_pos (by decide)
    rw [Int.fdiv_eq_ediv_of_nonneg _ (Int.le_of_lt hd)]
    generalize (2 : Int) ^ (min y.toNat k.bits) = z at hd
    by_cases h0 : 0 ≤ x
    · have h1 := Int.ediv_nonneg h0 (Int.le_of_lt hd)
      have h2 := Int.ediv_le_self z h0
      have h3 : k.min ≤ 0 := by cases k <;> decide
      omega
    · have h1 : x / z < 0 := Int.ediv_neg_of_neg_of_pos (by omega) hd
      have h2 : x ≤ x / z := by
        rw [Int.le_ediv_iff_mul_le hd]
        have : z * (-x) ≥ 1 * (-x) := Int.mul_le_mul_of_nonneg_right (by omega) (by omega)
        have e : x * z = -(z * (-x)) := by rw [Int.mul_neg, Int.neg_neg, Int.mul_comm]
        omega
      have h3 : 0 ≤ k.max := by cases k <;> decide
      omega

theorem q_bin [Tabs] (M : Mem h S w m B M0) (d : Nat) {xT : TypeId} {tb : Bool} (htb : tb = true → tyOk P xT .bool = true) {op : BinOp} {a b : ACell} {x y : Value} {ox oy : Operand} {v : AVal} {os : AHeap}
    (e : (aBin tb op a b).gives v os) (ra : CellRel h S w m a x) (rb : CellRel h S w m b y) :
    QOk P h S w m B M0 d v os (do eqGuard op xT ox oy x y; binOp op xT x y) := by
  unfold aBin at e
  split at e
  · -- numbers
    rename_i j p j' q
    obtain ⟨rfl, hp⟩ := inv_int ra
    obtain ⟨rfl, hq⟩ := inv_int rb
    cases hsh : isShift op with
    | true =>
      simp only [hsh, cond_true] at e
      obtain ⟨hc, rfl, rfl⟩ := e
      have h0 : 0 ≤ q := by simpa using hc
      have h1 : ¬ (q < 0) := Int.not_lt.mpr h0
      refine QOk.same M d (v' := .int j (shiftI op j p q)) ?_ (pv_int (wfI_shift hp op q))
      simp only [Sem.run_bind, run_eqGuard_int, Result.andThen_ok]
      cases op <;> cases hsh
      · simp [binOp, Op.shift, h1, shiftI]
      · simp [binOp, Op.shift, h1, shiftI]
    | false =>
    simp only [hsh, cond_false] at e
    by_cases hj : j = j'
    · subst hj
      simp only [decide_true, cond_true] at e
      have red : ∀ (r : Value), (binOp op xT (.int j p) (.int j q)).run P w = .ok r w → (do eqGuard op xT ox oy (.int j p) (.int j q); binOp op xT (.int j p) (.int j q)).run P w = .ok r w := by
        intro r hr
        simp only [Sem.run_bind, run_eqGuard_int, Result.andThen_ok, hr]
      cases op <;> simp only [QRes.gives, qone] at e <;> (try exact e.elim)
      · obtain ⟨rfl, rfl⟩ := e
        exact QOk.same M d (red _ (by simp [binOp, Op.intArith])) (pv_int (wfI_wrap _ _))
      · obtain ⟨rfl, rfl⟩ := e
        exact QOk.same M d (red _ (by simp [binOp, Op.intArith])) (pv_int (wfI_wrap _ _))
      · obtain ⟨rfl, rfl⟩ := e
        exact QOk.same M d (red _ (by simp [binOp, Op.intArith])) (pv_int (wfI_wrap _ _))
      · obtain ⟨hc, rfl, rfl⟩ := e
        have h0 : q ≠ 0 := by simpa using hc
        exact QOk.same M d (red _ (by simp [binOp, Op.intDiv, h0])) (pv_int (wfI_wrap _ _))
      · obtain ⟨hc, rfl, rfl⟩ := e
        have h0 : q ≠ 0 := by simpa using hc
        exact QOk.same M d (red _ (by simp [binOp, Op.intDiv, h0])) (pv_int (wfI_tmod hp _))
      · obtain ⟨rfl, rfl⟩ := e
        exact QOk.same M d (red _ (by simp [binOp, Op.intBits, bitsI])) (pv_int (wfI_wrap _ _))
      · obtain ⟨rfl, rfl⟩ := e
        exact QOk.same M d (red _ (by simp [binOp, Op.intBits, bitsI])) (pv_int (wfI_wrap _ _))
      · obtain ⟨rfl, rfl⟩ := e
        exact QOk.same M d (red _ (by simp [binOp, Op.intBits, bitsI])) (pv_int (wfI_wrap _ _))
      · obtain ⟨rfl, rfl⟩ := e
        exact QOk.same M d (red _ (by simp [binOp, Op.intBits, bitsI])) (pv_int (wfI_wrap _ _))
      · obtain ⟨rfl, rfl⟩ := e
        exact QOk.same M d (red (.bool (decide (p = q))) (by simp [binOp, Op.intCmp]; rfl)) (pv_bool _)
      · obtain ⟨rfl, rfl⟩ := e
        exact QOk.same M d (red (.bool (!decide (p = q))) (by simp [binOp, Op.intCmp]; rfl)) (pv_bool _)
      · obtain ⟨rfl, rfl⟩ := e
        exact QOk.same M d (red _ (by simp [binOp, Op.intCmp])) (pv_bool _)
      · obtain ⟨rfl, rfl⟩ := e
        exact QOk.same M d (red _ (by simp [binOp, Op.intCmp])) (pv_bool _)
      · obtain ⟨rfl, rfl⟩ := e
        exact QOk.same M d (red _ (by simp [binOp, Op.intCmp])) (pv_bool _)
      · obtain ⟨rfl, rfl⟩ := e
        exact QOk.same M d (red _ (by simp [binOp, Op.intCmp])) (pv_bool _)
    · simp only [decide_eq_false hj, cond_false] at e
      exact e.elim
  · -- bools
    rename_i p q
    obtain rfl := inv_bool ra
    obtain rfl := inv_bool rb
    split at e
    · obtain ⟨rfl, rfl⟩ := e
      obtain ⟨dd, hd, ho⟩ := tyOk_desc (htb rfl)
      cases dd <;> (try cases ho)
      exact QOk.same M d (by simp only [Sem.run_bind, run_eqGuard_bool, Result.andThen_ok, run_bool_eql hd]) (pv_bool _)
    · obtain ⟨rfl, rfl⟩ := e
      obtain ⟨dd, hd, ho⟩ := tyOk_desc (htb rfl)
      cases dd <;> (try cases ho)
      exact QOk.same M d (by simp only [Sem.run_bind, run_eqGuard_bool, Result.andThen_ok, run_bool_neq hd]) (pv_bool _)
    · exact e.elim
  · -- texts
    rename_i p q
    obtain ⟨rfl, hp⟩ := inv_str ra
    obtain ⟨rfl, hq⟩ := inv_str rb
    have red : ∀ (r : Value), (Op.stringOp op ⟨⟨p⟩⟩ ⟨⟨q⟩⟩).run P w = .ok r w → (do eqGuard op xT ox oy (.string ⟨⟨p⟩⟩) (.string ⟨⟨q⟩⟩); binOp op xT (.string ⟨⟨p⟩⟩) (.string ⟨⟨q⟩⟩)).run P w = .ok r w := by
      intro r hr
      simp only [Sem.run_bind, run_eqGuard_string, Result.andThen_ok]
      have : binOp op xT (.string ⟨⟨p⟩⟩) (.string ⟨⟨q⟩⟩) = Op.stringOp op ⟨⟨p⟩⟩ ⟨⟨q⟩⟩ := by cases op <;> rfl
      rw [this, hr]
    cases op <;> simp only [QRes.gives, qone] at e <;> (try exact e.elim)
    · obtain ⟨hc, rfl, rfl⟩ := e
      have hl : p.length + q.length ≤ lim := by simpa using hc
      have hsz : ¬ (((ByteArray.mk ⟨p⟩).size + (ByteArray.mk ⟨q⟩).size : Nat) : Int) > IntKind.i64.max := by
        have e1 : (ByteArray.mk ⟨p⟩).size = p.length := by simp [ByteArray.size]
        have e2 : (ByteArray.mk ⟨q⟩).size = q.length := by simp [ByteArray.size]
        have e3 : IntKind.i64.max = 9223372036854775807 := by decide
        rw [e1, e2, e3]
        unfold lim at hl
        omega
      refine QOk.same M d (v' := .string ⟨⟨p ++ q⟩⟩) (red _ ?_) (pv_str (by unfold lim at hl; unfold maxLen; simp; omega))
      unfold Op.stringOp
      simp only [hsz, if_false]
      rw [append_mk]
      rfl
    · obtain ⟨rfl, rfl⟩ := e
      refine QOk.same M d (v' := .bool (decide (p = q))) (red _ ?_) (pv_bool _)
      simp only [Op.stringOp, toList_mk, beq_list, Sem.run_pure]
    · obtain ⟨rfl, rfl⟩ := e
      refine QOk.same M d (v' := .bool (!decide (p = q))) (red _ ?_) (pv_bool _)
      simp only [Op.stringOp, toList_mk, beq_list, Sem.run_pure]
    · obtain ⟨rfl, rfl⟩ := e
      refine QOk.same M d (red _ ?_) (pv_bool _)
      simp only [Op.stringOp, toList_mk, Sem.run_pure]
    · obtain ⟨rfl, rfl⟩ := e
      refine QOk.same M d (red _ ?_) (pv_bool _)
      simp only [Op.stringOp, toList_mk, beq_list, Sem.run_pure]
    · obtain ⟨rfl, rfl⟩ := e
      refine QOk.same M d (red _ ?_) (pv_bool _)
      simp only [Op.stringOp, toList_mk, beq_list, Sem.run_pure]
    · obtain ⟨rfl, rfl⟩ := e
      refine QOk.same M d (red _ ?_) (pv_bool _)
      simp only [Op.stringOp, toList_mk, Sem.run_pure]
  · exact e.elim

theorem q_un [Tabs] (M : Mem h S w m B M0) (d : Nat) {op : UnOp} {a : ACell} {x : Value} {v : AVal} {os : AHeap} (e : (aUn op a).gives v os) (ra : CellRel h S w m a x) :
    QOk P h S w m B M0 d v os (Op.unary op x) := by
  unfold aUn at e
  split at e
  · obtain ⟨rfl, rfl⟩ := e
    obtain rfl := inv_bool ra
    exact QOk.same M d (by simp [Op.unary]) (pv_bool _)
  · obtain ⟨rfl, rfl⟩ := e
    obtain ⟨rfl, hx⟩ := inv_int ra
    exact QOk.same M d (by simp [Op.unary, Op.intArith]) (pv_int (wfI_wrap _ _))
  · exact e.elim
end
end Go.Ab
