/-
  The builtin copy, run.
-/
import Derived.Test.YtffmiefhnbkcbaaGreatXOwn
import Derived.Laws.AppendOwn
import Derived.Laws.CopyOwn
namespace Go.Ab
open Go Go.RowKit
theorem copy_run {P : Program} {w : World} {st te e ty : TypeId} {inf : TypeInfo} (hu : P.underlying st = some (.slice e)) (hi : P.info? e = some inf) {b off dl dc sl sc n : Nat} {ad : Addr} {cur : Array Value} (hg : w.heap[b]? = some (.cells cur te (0, 0)))
    {news : List Value} (hmin : Nat.min sl dl = n) (hn : news.length = n * inf.size) (hr : ∀ j v, news[j]? = some v → w.cell? (ad.add j) = some v) (h1 : ∀ u ∈ news, u.oneCell' = true) (hfit : off + news.length ≤ cur.size) :
    (Builtin.copy_ #[st, st] ty #[.slice (some ⟨b, off, none⟩) dl dc, .slice (some ad) sl sc]).run P w = .ok (goInt n) (w.setRow b (cur.toList.take off ++ news ++ cur.toList.drop (off + news.length)).toArray) := by
  have hst := run_storeCells_at P b off te news 0 cur w hg (by simpa using hfit) h1
  simp only [Nat.add_zero] at hst
  have hf := run_firstCells_some (P := P) w inf.size n ad sl sc news hn hr
  subst hmin
  have hlen : Builtin.lenOf (.slice (some ad) sl sc) = pure sl := rfl
  simp [Builtin.copy_, run_underlying hu, sizeOf, typeInfo, hi, hlen, hf, hst]
theorem step_copy_rows {P : Program} {ops : Array Oper} {o : Oper} {a : Act} {w w' : World} {K : Act → World → Prop} {Q : Exit → Act → World → Prop} {E : Prop} (hgd : o.guard = none) (d s : Operand) (st : TypeId)
    (ho : o.op = .call { callee := .builtin .copy, args := #[d, s], argTypes := #[st, st] }) {v dv sv : Value} (hd : a.eval d = dv) (hs : a.eval s = sv) (hrun : (Builtin.copy_ #[st, st] o.type #[dv, sv]).run P w = .ok v w')
    (h : K (a.put o.dst v) w') : if Region.wanted o (yielded ops a.tmps) = true then Oper.wp P o a w K Q else E := by
  have hw : Region.wanted o (yielded ops a.tmps) = true := by simp [Region.wanted, hgd]
  rw [if_pos hw]
  unfold Oper.wp
  simp [execOp, ho, resolve, invoke, builtin, hd, hs, hrun, Result.andThen]
  exact h
theorem wpList_app_run {P : Program} {w w' : World} {ops : Array Oper} {rest : List Oper} {o : Oper} {a : Act} {Q : Exit → Act → World → Prop} (hgd : o.guard = none) (d s : Operand) (st : TypeId)
    (ho : o.op = .call { callee := .builtin .append, args := #[d, s], argTypes := #[st, st] }) {v dv sv : Value} (hd : a.eval d = dv) (hs : a.eval s = sv) (hrun : (Builtin.append_ #[st, st] o.type #[dv, sv]).run P w = .ok v w')
    (h : wpList P ops Q rest (a.put o.dst v) w') : wpList P ops Q (o :: rest) a w := by
  refine wpList_plain hgd fun K hK => ?_
  unfold Oper.wp
  simp [execOp, ho, resolve, invoke, builtin, hd, hs, hrun, Result.andThen]
  exact hK _ _ h
end Go.Ab
