/-
  An abstract evaluator for the loaded code: values without addresses, memory without blocks.
-/
import Derived.WalkKit
import Derived.Orders
import Derived.OpenShut
import Derived.Below
namespace Go.Ab
open Go
inductive Ty where
  | unit | bool | int (k : IntKind) | str | slice (t : Ty) | pair (a b : Ty)
  | raw
  deriving DecidableEq
abbrev Bytes := List UInt8
abbrev Ty.den : Ty → Type
  | .unit => Unit
  | .bool => Bool
  | .int _ => Int
  | .str => Bytes
  | .raw => Value
  | .slice t => List t.den
  | .pair a b => a.den × b.den
def Ty.size : Ty → Nat
  | .unit => 0
  | .bool | .int _ | .str | .slice _ | .raw => 1
  | .pair a b => a.size + b.size
def Ty.isAgg : Ty → Bool
  | .unit | .pair _ _ => true
  | _ => false
def Ty.zero : (t : Ty) → t.den
  | .unit => ()
  | .bool => false
  | .int _ => (0 : Int)
  | .str => []
  | .raw => .slice none 0 0
  | .slice _ => []
  | .pair a b => (a.zero, b.zero)
abbrev dens : List Ty → Type
  | [] => Unit
  | [t] => t.den
  | t :: u :: ts => t.den × dens (u :: ts)
inductive Cap where
  | val (t : Ty) (x : t.den)
inductive VK where
  | win (lo hi : Nat)
  | inn (i off : Nat) (e : Ty) (y : e.den) (j : Nat)
  | app (i off : Nat) (e : Ty) (y : e.den) (u : Ty) (ys : List u.den)
  | all
  | el (i : Nat)
inductive ACell where
  | und
  | nils
  | pv (t : Ty) (x : t.den)
  | pc (t : Ty) (x : t.den)
  | os (id : Nat)
  | op (id off : Nat)
  | oe (id i off : Nat)
  | sb (id i off : Nat) (e : Ty) (y : e.den)
  | vw (id : Nat) (k : VK)
  | cl (f : Nat) (cap : List Cap)
inductive AVal where
  | one (c : ACell)
  | ag (cs : List ACell)
  | tu (vs : List (Bool × List ACell))
inductive AObj where
  | box (cs : List ACell)
  | arr (deep : Bool) (t : Ty) (xs : List t.den)
  | src (t : Ty) (k : Nat) (xs : List t.den)
abbrev AHeap := List (Nat × AObj)
structure AS where
  ρ : List AVal
  h : AHeap
  t : Nat := 0
def AHeap.get (h : AHeap) (id : Nat) : Option AObj :=
  match h with
  | [] => none
  | (j, o) :: r => bif Nat.beq j id then some o else AHeap.get r id
def AHeap.del (h : AHeap) (id : Nat) : AHeap :=
  match h with
  | [] => []
  | (j, o) :: r => bif Nat.beq j id then AHeap.del r id else (j, o) :: AHeap.del r id
def ACell.kill (id : Nat) : ACell → ACell
  | .os j => bif Nat.beq j id then .und else .os j
  | .op j o => bif Nat.beq j id then .und else .op j o
  | .oe j i o => bif Nat.beq j id then .und else .oe j i o
  | .sb j i o e y => bif Nat.beq j id then .und else .sb j i o e y
  | .vw j k => bif Nat.beq j id then .und else .vw j k
  | c => c
def AVal.kill (id : Nat) : AVal → AVal
  | .one c => .one (c.kill id)
  | .ag cs => .ag (cs.map (·.kill id))
  | .tu vs => .tu (vs.map fun p => (p.1, p.2.map (·.kill id)))
def AObj.kill (id : Nat) : AObj → AObj
  | .box cs => .box (cs.map (·.kill id))
  | o => o
def AS.kill (id : Nat) (s : AS) : AS :=
  { ρ := s.ρ.map (·.kill id), h := (s.h.del id).map fun p => (p.1, p.2.kill id), t := s.t + 1 }
def AS.killL (s : AS) : List Nat → AS
  | [] => s
  | id :: r => (s.kill id).killL r
def AS.bear (s : AS) (id : Nat) (t : Ty) (zs : List t.den) : AS :=
  { ({ ρ := s.ρ, h := (id, .arr true t []) :: s.h, t := s.t } : AS).kill id with h := (id, .arr true t zs) :: (({ ρ := s.ρ, h := (id, .arr true t []) :: s.h, t := s.t } : AS).kill id).h, t := s.t + 1 }
def AS.upd (s : AS) (id : Nat) (o : AObj) : AS := { s with h := s.h.map (fun p => bif Nat.beq p.1 id then (p.1, o) else p), t := s.t + 1 }
def ACell.killSb (id : Nat) : ACell → ACell
  | .sb j i o e y => bif Nat.beq j id then .und else .sb j i o e y
  | .vw j k => bif Nat.beq j id then .und else .vw j k
  | c => c
def AVal.killSb (id : Nat) : AVal → AVal
  | .one c => .one (c.killSb id)
  | .ag cs => .ag (cs.map (·.killSb id))
  | .tu vs => .tu (vs.map fun p => (p.1, p.2.map (·.killSb id)))
def AObj.killSb (id : Nat) : AObj → AObj
  | .box cs => .box (cs.map (·.killSb id))
  | o => o
def AS.updA (s : AS) (id : Nat) (o : AObj) : AS :=
  { ρ := s.ρ.map (·.killSb id), h := s.h.map (fun p => bif Nat.beq p.1 id then (p.1, o) else (p.1, p.2.killSb id)), t := s.t + 1 }
def ACell.front (id n : Nat) : ACell → ACell
  | .os j => bif Nat.beq j id then .vw id (.win 0 n) else .os j
  | .oe j i o => bif Nat.beq j id then .und else .oe j i o
  | .sb j i o e y => bif Nat.beq j id then .und else .sb j i o e y
  | .vw j k => bif Nat.beq j id then .und else .vw j k
  | c => c
def AVal.front (id n : Nat) : AVal → AVal
  | .one c => .one (c.front id n)
  | .ag cs => .ag (cs.map (·.front id n))
  | .tu vs => .tu (vs.map fun p => (p.1, p.2.map (·.front id n)))
def AObj.front (id n : Nat) : AObj → AObj
  | .box cs => .box (cs.map (·.front id n))
  | o => o
def AS.front (s : AS) (id n : Nat) (o : AObj) : AS :=
  { ρ := s.ρ.map (·.front id n), h := s.h.map (fun p => bif Nat.beq p.1 id then (p.1, o) else (p.1, p.2.front id n)), t := s.t + 1 }
def ACell.frz (id : Nat) (t : Ty) (xs : List t.den) : ACell → ACell
  | .os j => bif Nat.beq j id then .pv (.slice t) xs else .os j
  | .oe j i o => bif Nat.beq j id then .und else .oe j i o
  | .sb j i o e y => bif Nat.beq j id then .und else .sb j i o e y
  | .vw j k => bif Nat.beq j id then .und else .vw j k
  | c => c
def AVal.frz (id : Nat) (t : Ty) (xs : List t.den) : AVal → AVal
  | .one c => .one (c.frz id t xs)
  | .ag cs => .ag (cs.map (·.frz id t xs))
  | .tu vs => .tu (vs.map fun p => (p.1, p.2.map (·.frz id t xs)))
def AObj.frz (id : Nat) (t : Ty) (xs : List t.den) : AObj → AObj
  | .box cs => .box (cs.map (·.frz id t xs))
  | o => o
def AS.frz (s : AS) (id : Nat) : AS :=
  match s.h.get id with
  | some (.arr _ t xs) => { ρ := s.ρ.map (·.frz id t xs), h := (s.h.del id).map (fun p => (p.1, p.2.frz id t xs)), t := s.t + 1 }
  | _ => s
def ACell.frzB (id : Nat) (t : Ty) (x : t.den) : ACell → ACell
  | .op j o => bif Nat.beq j id then (bif Nat.beq o 0 then .pc t x else .und) else .op j o
  | c => c
def AVal.frzB (id : Nat) (t : Ty) (x : t.den) : AVal → AVal
  | .one c => .one (c.frzB id t x)
  | .ag cs => .ag (cs.map (·.frzB id t x))
  | .tu vs => .tu (vs.map fun p => (p.1, p.2.map (·.frzB id t x)))
def AObj.frzB (id : Nat) (t : Ty) (x : t.den) : AObj → AObj
  | .box cs => .box (cs.map (·.frzB id t x))
  | o => o
def osIn : List ACell → List Nat
  | [] => []
  | .os id :: r => id :: osIn r
  | _ :: r => osIn r
def idsOf : List ACell → List Nat
  | [] => []
  | .os id :: r => id :: idsOf r
  | .sb id _ _ _ _ :: r => id :: idsOf r
  | .vw id _ :: r => id :: idsOf r
  | _ :: r => idsOf r
def AS.frzAll (s : AS) : List Nat → AS
  | [] => s
  | id :: r => (s.frz id).frzAll r
def plainIn : List ACell → Bool
  | [] => true
  | .nils :: r => plainIn r
  | .pv (.slice _) _ :: _ => false
  | .pv _ _ :: r => plainIn r
  | _ :: _ => false
def deepIn (h : AHeap) : List ACell → Bool
  | [] => true
  | .os id :: r => (match h.get id with | some (.arr d _ _) => d | _ => false) && deepIn (h.del id) r
  | .nils :: r => deepIn h r
  | .pv (.slice _) _ :: _ => false
  | .pv _ _ :: r => deepIn h r
  | _ :: _ => false
def AS.fresh (s : AS) (d : Nat) : AS :=
  (s.h.filter fun p => Nat.ble (d * 16) p.1 && Nat.ble p.1 (d * 16 + 15)).foldl (fun s p => s.kill p.1) s
def AS.put (s : AS) (d : Option Nat) (v : AVal) : AS :=
  match d with
  | some d => { s with ρ := s.ρ.set d v }
  | none => s
def flat : (t : Ty) → t.den → List ACell
  | .unit, _ => []
  | .pair a b, x => flat a x.1 ++ flat b x.2
  | .bool, x => [.pv .bool x]
  | .int k, x => [.pv (.int k) x]
  | .str, x => [.pv .str x]
  | .raw, x => [.pv .raw x]
  | .slice t, x => [.pv (.slice t) x]
def zcells : Ty → List ACell
  | .unit => []
  | .pair a b => zcells a ++ zcells b
  | .bool => [.pv .bool false]
  | .int k => [.pv (.int k) (0 : Int)]
  | .str => [.pv .str []]
  | .raw => [.pv .raw (.slice none 0 0 : Value)]
  | .slice _ => [.nils]
def cast? {t : Ty} (t' : Ty) (x : t.den) : Option t'.den := if h : t = t' then some (h ▸ x) else none
def cellToG (get : Nat → Option AObj) (t : Ty) : ACell → Option t.den
  | .pv _ x => cast? t x
  | .nils => match t with
    | .slice _ => some []
    | _ => none
  | .os id => match get id with
    | some (.arr _ e xs) => cast? (t := .slice e) t xs
    | _ => none
  | .sb _ _ off e y => match (flat e y)[off]? with
    | some (.pv _ xs) => cast? t xs
    | _ => none
  | _ => none
def gatherG (get : Nat → Option AObj) : (t : Ty) → List ACell → Option t.den
  | .unit, _ => some ()
  | .pair a b, cs => (gatherG get a (cs.take a.size)).bind fun x => (gatherG get b (cs.drop a.size)).bind fun y => some (x, y)
  | .bool, c :: _ => cellToG get .bool c
  | .int k, c :: _ => cellToG get (.int k) c
  | .str, c :: _ => cellToG get .str c
  | .raw, c :: _ => cellToG get .raw c
  | .slice t, c :: _ => cellToG get (.slice t) c
  | _, [] => none
abbrev gather (h : AHeap) (t : Ty) (cs : List ACell) : Option t.den := gatherG h.get t cs
def AS.frzB (s : AS) (id : Nat) (t : Ty) : AS :=
  match s.h.get id with
  | some (.box cs) => bif Nat.beq cs.length t.size then
      match idsOf cs, gatherG (fun _ => none) t cs with
      | [], some x => { ρ := s.ρ.map (·.frzB id t x), h := (s.h.del id).map (fun p => (p.1, p.2.frzB id t x)), t := s.t + 1 }
      | _, _ => s
    else s
  | _ => s
def AS.frzBs (s : AS) : List (Nat × Ty) → AS
  | [] => s
  | p :: r => (s.frzB p.1 p.2).frzBs r
def AVal.cells : AVal → List ACell
  | .one c => [c]
  | .ag cs => cs
  | .tu _ => []
def AVal.solid : AVal → Bool
  | .one .und => false
  | .tu _ => false
  | _ => true
def AVal.fits (v : AVal) (t : Ty) : Bool :=
  v.solid && Nat.beq v.cells.length t.size && (match v with
    | .one _ => !t.isAgg
    | .ag _ => t.isAgg
    | .tu _ => false)
def valOf (agg : Bool) (cs : List ACell) : AVal :=
  match agg, cs with
  | true, cs => .ag cs
  | false, c :: _ => .one c
  | false, [] => .one .und
def ofDen (t : Ty) (x : t.den) : AVal := valOf t.isAgg (flat t x)
def fieldAt : Ty → Nat → Option (Nat × Ty)
  | .pair a _, 0 => some (0, a)
  | .pair a b, i + 1 => (fieldAt b i).bind fun p => some (a.size + p.1, p.2)
  | _, _ => none
def isArrT : Ty → Bool
  | .pair .unit _ => true
  | _ => false
def lenOf (e : Ty) : Ty → Option Nat
  | .unit => some 0
  | .pair a r => bif decide (a = e) then (lenOf e r).map (· + 1) else none
  | _ => none
def arrIn : Ty → Option (Nat × Ty)
  | .pair .unit (.pair e r) => (lenOf e r).map fun n => (n + 1, e)
  | _ => none
def fieldDen : (t : Ty) → t.den → Nat → Option (Σ u : Ty, u.den)
  | .pair a _, x, 0 => some ⟨a, x.1⟩
  | .pair _ b, x, i + 1 => fieldDen b x.2 i
  | _, _, _ => none
def idx {α : Type} (xs : List α) (i : Int) : Option α := if i < 0 then none else xs[i.toNat]?
def sub {α : Type} (xs : List α) (lo hi : Int) : Option (List α) :=
  if 0 ≤ lo ∧ lo ≤ hi ∧ hi ≤ xs.length then some ((xs.take hi.toNat).drop lo.toNat) else none
def lim : Nat := 4294967296
def w64 (x : Int) : Int := IntKind.i64.wrap x
inductive LoopTo {α β : Type} (f : α → Option (α ⊕ β)) : α → β → Prop
  | done {a : α} {b : β} : f a = some (.inr b) → LoopTo f a b
  | step {a a' : α} {b : β} : f a = some (.inl a') → LoopTo f a' b → LoopTo f a b
open Classical in
noncomputable def loopE {α β : Type} (f : α → Option (α ⊕ β)) (a : α) : Option β :=
  if h : ∃ b, LoopTo f a b then some (Classical.choose h) else none
inductive CK where
  | pv (t : Ty)
  | own (id : Nat) (t : Ty) (deep : Bool)
  | skip
inductive LItem where
  | tv (i : Nat) (t : Ty)
  | own (i : Nat) (al : List Nat) (id : Nat) (t : Ty) (deep : Bool)
  | bx (i id : Nat) (cks : List CK)
  | src (i id : Nat) (t : Ty)
abbrev CK.tys : List CK → List Ty → List Ty
  | [], r => r
  | .pv t :: c, r => t :: CK.tys c r
  | .own _ t _ :: c, r => .slice t :: CK.tys c r
  | .skip :: c, r => CK.tys c r
abbrev LItem.tys : List LItem → List Ty
  | [] => []
  | .tv _ t :: r => t :: LItem.tys r
  | .own _ _ _ t _ :: r => .slice t :: LItem.tys r
  | .bx _ _ cks :: r => CK.tys cks (LItem.tys r)
  | .src _ _ t :: r => .int .i64 :: .slice t :: LItem.tys r
def consD {t : Ty} : {ts : List Ty} → t.den → dens ts → dens (t :: ts)
  | [], x, _ => x
  | _ :: _, x, y => (x, y)
def headD {t : Ty} : {ts : List Ty} → dens (t :: ts) → t.den
  | [], x => x
  | _ :: _, x => x.1
def tailD {t : Ty} : {ts : List Ty} → dens (t :: ts) → dens ts
  | [], _ => ()
  | _ :: _, x => x.2
def takeOwn (h : AHeap) (t : Ty) (deep : Bool) : ACell → Option (List t.den × AHeap)
  | .nils => some ([], h)
  | .os j => match h.get j with
    | some (.arr d e xs) => bif d || !deep then (cast? (t := .slice e) (.slice t) xs).bind fun x => some (x, h.del j) else none
    | _ => none
  | .vw j (.win lo n) => match h.get j with
    | some (.arr false e xs) => bif Nat.beq lo 0 && !deep then (cast? (t := .slice e) (.slice t) xs).bind fun x => some (List.take n x, h.del j) else none
    | _ => none
  | _ => none
def takeSrc (h : AHeap) (t : Ty) : ACell → Option (Nat × List t.den × AHeap)
  | .nils => some (0, [], h)
  | .os j => match h.get j with
    | some (.arr true e xs) => (cast? (t := .slice e) (.slice t) xs).bind fun x => some (0, x, h.del j)
    | _ => none
  | .vw j .all => match h.get j with
    | some (.src e k xs) => (cast? (t := .slice e) (.slice t) xs).bind fun x => some (k, x, h.del j)
    | _ => none
  | _ => none
def noSb : List ACell → Bool
  | [] => true
  | .sb _ _ _ _ _ :: _ => false
  | .vw _ _ :: _ => false
  | _ :: r => noSb r
def takeVal (h : AHeap) (t : Ty) (cs : List ACell) : Option (t.den × AHeap) :=
  bif noSb cs && Nat.beq cs.length t.size then (gather h t cs).bind fun x => some (x, (osIn cs).foldl AHeap.del h) else none
def ACell.same : ACell → ACell → Bool
  | .os i, .os j => Nat.beq i j
  | _, _ => false
def AVal.sameOne : AVal → ACell → Bool
  | .one d, c => ACell.same d c
  | _, _ => false
def unCells {ts : List Ty} (h : AHeap) : (cks : List CK) → List ACell → (AHeap → Option (dens ts)) → Option (dens (CK.tys cks ts))
  | [], [], k => k h
  | [], _ :: _, _ => none
  | .pv t :: r, c :: cs, k => (takeVal h t [c]).bind fun p => (unCells p.2 r cs k).bind fun y => some (consD p.1 y)
  | .own _ t d :: r, c :: cs, k => (takeOwn h t d c).bind fun p => (unCells p.2 r cs k).bind fun y => some (consD (t := .slice t) p.1 y)
  | .skip :: r, _ :: cs, k => unCells h r cs k
  | _ :: _, [], _ => none
def unL (ρ : List AVal) : (L : List LItem) → AHeap → Option (dens (LItem.tys L))
  | [], _ => some ()
  | .tv i t :: r, h => bif (ρ.getD i (.one .und)).fits t then (takeVal h t ((ρ.getD i (.one .und)).cells)).bind fun p => (unL ρ r p.2).bind fun y => some (consD p.1 y) else none
  | .own i al _ t d :: r, h => match ρ.getD i (.one .und) with
    | .one c => bif !(al.all fun j => AVal.sameOne (ρ.getD j (.one .und)) c) then none else (takeOwn h t d c).bind fun p => (unL ρ r p.2).bind fun y => some (consD (t := .slice t) p.1 y)
    | _ => none
  | .bx i _ cks :: r, h => match ρ.getD i (.one .und) with
    | .one (.op id 0) => match h.get id with
      | some (.box cs) => unCells (h.del id) cks cs (unL ρ r)
      | _ => none
    | _ => none
  | .src i _ t :: r, h => match ρ.getD i (.one .und) with
    | .one c => (takeSrc h t c).bind fun p => (unL ρ r p.2.2).bind fun y => some (consD (t := .int .i64) (p.1 : Int) (consD (t := .slice t) p.2.1 y))
    | _ => none
def ACell.noRef : ACell → Bool
  | .und | .nils | .pv _ _ | .pc _ _ | .cl _ _ => true
  | _ => false
def AVal.noRef : AVal → Bool
  | .one c => c.noRef
  | .ag cs => cs.all ACell.noRef
  | .tu _ => false
def keepR (keep : List Nat) (i : Nat) : List AVal → List AVal
  | [] => []
  | v :: r => (bif keep.any (Nat.beq i) && v.noRef then v else .one .und) :: keepR keep (i + 1) r
def mkCells {ts : List Ty} : (cks : List CK) → dens (CK.tys cks ts) → List ACell × AHeap × dens ts
  | [], x => ([], [], x)
  | .pv t :: r, x => match mkCells r (tailD x) with
    | (cs, h, y) => (flat t (headD x) ++ cs, h, y)
  | .own id t d :: r, x => match mkCells r (tailD x) with
    | (cs, h, y) => (.os id :: cs, (id, .arr d t (headD (t := .slice t) x)) :: h, y)
  | .skip :: r, x => match mkCells r x with
    | (cs, h, y) => (.und :: cs, h, y)
def mkFrom : (L : List LItem) → dens (LItem.tys L) → AS → AS
  | [], _, s => s
  | .tv i t :: r, x, s => let s' := mkFrom r (tailD x) s; { s' with ρ := s'.ρ.set i (ofDen t (headD x)) }
  | .own i al id t d :: r, x, s => let s' := mkFrom r (tailD x) s; { s' with ρ := al.foldl (fun ρ j => ρ.set j (.one (.os id))) (s'.ρ.set i (.one (.os id))), h := (id, .arr d t (headD (t := .slice t) x)) :: s'.h }
  | .bx i id cks :: r, x, s => match mkCells cks x with
    | (cs, h, y) => let s' := mkFrom r y s; { s' with ρ := s'.ρ.set i (.one (.op id 0)), h := (id, .box cs) :: (h ++ s'.h) }
  | .src i id t :: r, x, s => let s' := mkFrom r (tailD (t := .slice t) (tailD (t := .int .i64) x)) s; { s' with ρ := s'.ρ.set i (.one (.vw id .all)), h := (id, .src t (Int.toNat (headD (t := .int .i64) x)) (headD (t := .slice t) (tailD (t := .int .i64) x))) :: s'.h }
def mkL (keep : List Nat) (L : List LItem) (s0 : AS) (x : dens (LItem.tys L)) : AS :=
  mkFrom L x { ρ := keepR keep 0 s0.ρ, h := [], t := s0.t + 1 }
inductive AExit where
  | normal | exit (id : Nat) | ret
def AExit.same : AExit → AExit → Bool
  | .normal, .normal => true
  | .exit i, .exit j => Nat.beq i j
  | .ret, .ret => true
  | _, _ => false
structure Cut where
  keep : List Nat
  live : List LItem
  outs : List (AExit × List LItem)
abbrev outD : List (AExit × List LItem) → Type
  | [] => Empty
  | [p] => dens (LItem.tys p.2)
  | p :: q :: r => dens (LItem.tys p.2) ⊕ outD (q :: r)
def toOut (s : AS) (e : AExit) : (l : List (AExit × List LItem)) → Option (outD l)
  | [] => none
  | [p] => bif AExit.same e p.1 then unL s.ρ p.2 s.h else none
  | p :: q :: r => bif AExit.same e p.1 then (unL s.ρ p.2 s.h).bind fun x => some (.inl x) else (toOut s e (q :: r)).bind fun x => some (.inr x)
def fromOut {R : Type} (keep : List Nat) (s0 : AS) (k : AExit → AS → Option R) : (l : List (AExit × List LItem)) → outD l → Option R
  | [], _ => none
  | [p], x => k p.1 (mkL keep p.2 s0 x)
  | p :: q :: r, x => match x with
    | .inl x => k p.1 (mkL keep p.2 s0 x)
    | .inr y => fromOut keep s0 k (q :: r) y
inductive PK where
  | val (t : Ty)
  | own (t : Ty)
  | mbox (t : Ty)
  | obox (t : Ty)
  | rp (t : Ty)
  | fn (g : Nat) (ts : List Ty)
abbrev prodTy : List Ty → Ty
  | [] => .unit
  | t :: ts => .pair t (prodTy ts)
inductive RK where
  | val (t : Ty)
  | own (t : Ty)
  | rp (t : Ty)
  | sh (t : Ty)
  | ob (t : Ty)
abbrev PK.ty : PK → Ty
  | .val t => t
  | .own t => t
  | .mbox t => t
  | .obox t => t
  | .rp t => t
  | .fn _ ts => prodTy ts
abbrev PK.tys : List PK → List Ty
  | [] => []
  | p :: r => p.ty :: PK.tys r
abbrev PK.mtys : List PK → List Ty → List Ty
  | [], l => l
  | .val _ :: r, l => PK.mtys r l
  | .own t :: r, l => t :: PK.mtys r l
  | .mbox t :: r, l => t :: PK.mtys r l
  | .obox t :: r, l => t :: PK.mtys r l
  | .rp _ :: r, l => PK.mtys r l
  | .fn _ _ :: r, l => PK.mtys r l
abbrev RK.ty : RK → Ty
  | .val t => t
  | .own t => t
  | .rp t => t
  | .sh t => .slice t
  | .ob t => t
abbrev RK.tys : List RK → List Ty
  | [] => []
  | p :: r => p.ty :: RK.tys r
def Ty.leads : Ty → Bool
  | .slice _ => true
  | .pair a b => a.leads || b.leads
  | _ => false
def RK.leads : List RK → Bool
  | [] => false
  | .val t :: r => t.leads || RK.leads r
  | .own _ :: r => RK.leads r
  | .rp _ :: _ => true
  | .sh _ :: _ => true
  | .ob _ :: r => RK.leads r
structure FnSpec where
  ps : List PK
  rs : List RK
  fn : dens (PK.tys ps) → Option (dens (PK.mtys ps (RK.tys rs)))
def takeCaps : (ts : List Ty) → List Cap → Option (prodTy ts).den
  | [], [] => some ()
  | t :: ts, .val _ x :: cs => (cast? t x).bind fun x => (takeCaps ts cs).bind fun y => some (x, y)
  | _, _ => none
def capsOf : (ts : List Ty) → (prodTy ts).den → List Cap
  | [], _ => []
  | t :: ts, x => .val t x.1 :: capsOf ts x.2
def Cap.aval : Cap → AVal
  | .val t x => .one (.pc t x)
def pcsOf : List AVal → Option (List Cap)
  | [] => some []
  | .one (.pc t x) :: r => (pcsOf r).bind fun l => some (.val t x :: l)
  | _ :: _ => none
def takeArgs (h : AHeap) : (ps : List PK) → List AVal → Option (dens (PK.tys ps))
  | [], [] => some ()
  | .val t :: ps, v :: vs => bif v.fits t then (gather h t v.cells).bind fun x => (takeArgs h ps vs).bind fun y => some (consD x y) else none
  | .own t :: ps, v :: vs => bif v.fits t && deepArg h t.isAgg v.cells then (gather h t v.cells).bind fun x => (takeArgs ((osIn v.cells).foldl AHeap.del h) ps vs).bind fun y => some (consD x y) else none
  | .mbox t :: ps, .one (.op id 0) :: vs => match h.get id with
    | some (.box cs) => bif Nat.beq cs.length t.size && (idsOf cs).isEmpty then (gatherG (fun _ => none) t cs).bind fun x => (takeArgs (h.del id) ps vs).bind fun y => some (consD x y) else none
    | _ => none
  | .obox t :: ps, .one (.op id 0) :: vs => match h.get id with
    | some (.box cs) => bif Nat.beq cs.length t.size && deepIn (h.del id) cs then (gather h t cs).bind fun x => (takeArgs ((osIn cs).foldl AHeap.del (h.del id)) ps vs).bind fun y => some (consD x y) else none
    | _ => none
  | .rp t :: ps, .one (.pc _ x) :: vs => (cast? t x).bind fun x => (takeArgs h ps vs).bind fun y => some (consD x y)
  | .fn g ts :: ps, .one (.cl f caps) :: vs => bif Nat.beq f g then (takeCaps ts caps).bind fun x => (takeArgs h ps vs).bind fun y => some (consD x y) else none
  | _, _ => none
  where deepArg (h : AHeap) (agg : Bool) : List ACell → Bool
  | [.sb id _ _ _ _] => !agg && (match h.get id with
    | some (.arr d _ _) => d
    | _ => false)
  | cs => deepIn h cs
def backIn : (t : Ty) → t.den → List ACell → AS → {R : Type} → (AS → Option R) → Option R
  | .pair a b, x, cs, s, _, k => backIn a x.1 (cs.take a.size) s fun s => backIn b x.2 (cs.drop a.size) s k
  | .slice t, x, .os id :: _, s, _, k => match s.h.get id with
    | some (.arr d _ _) => k (s.updA id (.arr d t x))
    | _ => none
  | .slice t, x, .sb id i off e y :: _, s, _, k => match s.h.get id with
    | some (.arr d e' xs) => match gatherG (fun _ => none) e' ((flat e y).take off ++ [.pv (.slice t) x] ++ (flat e y).drop (off + 1)) with
      | some z => k (s.updA id (.arr d e' (xs.set i z)))
      | none => none
    | _ => none
  | _, _, _, s, _, k => k s
def putMuts : (ps : List PK) → List AVal → (ts : List Ty) → dens (PK.mtys ps ts) → AS → {R : Type} → (dens ts → AS → Option R) → Option R
  | [], _, _, x, s, _, k => k x s
  | .val _ :: ps, _ :: vs, ts, x, s, _, k => putMuts ps vs ts x s k
  | .rp _ :: ps, _ :: vs, ts, x, s, _, k => putMuts ps vs ts x s k
  | .fn _ _ :: ps, _ :: vs, ts, x, s, _, k => putMuts ps vs ts x s k
  | .own t :: ps, v :: vs, ts, x, s, _, k => backIn t (headD x) v.cells s fun s => putMuts ps vs ts (tailD x) s k
  | .mbox t :: ps, .one (.op id _) :: vs, ts, x, s, _, k => putMuts ps vs ts (tailD x) (s.upd id (.box (flat t (headD x)))) k
  | _, _, _, _, _, _, _ => none
def mutCells (base : Nat) : (t : Ty) → t.den → List ACell × AHeap × Nat
  | .unit, _ => ([], [], base)
  | .pair a b, x =>
    match mutCells base a x.1 with
    | (cs, h, n) => match mutCells n b x.2 with
      | (ds, g, n) => (cs ++ ds, h ++ g, n)
  | .slice t, x => ([.os base], [(base, .arr true t x)], base + 1)
  | .bool, x => ([.pv .bool x], [], base)
  | .int k, x => ([.pv (.int k) x], [], base)
  | .str, x => ([.pv .str x], [], base)
  | .raw, x => ([.pv .raw x], [], base)
def putRes (base : Nat) : (rs : List RK) → dens (RK.tys rs) → List (Bool × List ACell) × AHeap × Nat
  | [], _ => ([], [], base)
  | .val t :: rs, x => match putRes base rs (tailD x) with
    | (l, h, n) => ((t.isAgg, flat t (headD x)) :: l, h, n)
  | .own t :: rs, x => match mutCells base t (headD x) with
    | (cs, g, n) => match putRes n rs (tailD x) with
      | (l, h, n) => ((t.isAgg, cs) :: l, g ++ h, n)
  | .rp t :: rs, x => match putRes base rs (tailD x) with
    | (l, h, n) => ((false, [.pc t (headD x)]) :: l, h, n)
  | .sh t :: rs, x => match putRes (base + 1) rs (tailD (t := .slice t) x) with
    | (l, h, n) => ((false, [.os base]) :: l, (base, .arr false t (headD (t := .slice t) x)) :: h, n)
  | .ob t :: rs, x => match mutCells (base + 1) t (headD x) with
    | (cs, g, n) => match putRes n rs (tailD x) with
      | (l, h, n) => ((false, [.op base 0]) :: l, ((base, .box cs) :: g) ++ h, n)
def resVal : List (Bool × List ACell) → AVal
  | [p] => valOf p.1 p.2
  | l => .tu l
structure DelFn where
  t : Ty
  g : Nat
  keep : t.den → Bool
  out : Option (List t.den → Option (List t.den × Bool)) := none
structure SelFn where
  C : FnSpec
  same : dens (PK.tys C.ps) → Option Bool
def listT : Ty → Bool
  | .unit => true
  | .pair _ b => listT b
  | _ => false
def snocT : Ty → Ty → Ty
  | .pair a b, r => .pair a (snocT b r)
  | _, r => .pair r .unit
def snocD : (t : Ty) → t.den → (r : Ty) → r.den → (snocT t r).den
  | .pair _ b, x, r, v => (x.1, snocD b x.2 r v)
  | .unit, _, _, v => (v, ())
  | .bool, _, _, v => (v, ())
  | .int _, _, _, v => (v, ())
  | .str, _, _, v => (v, ())
  | .slice _, _, _, v => (v, ())
  | .raw, _, _, v => (v, ())
structure KFn where
  t : Ty
  ps : List PK
  rs : List RK
  fn : dens (PK.tys (.obox t :: ps)) → Option (dens (PK.mtys (.obox t :: ps) (RK.tys rs)))
structure Env where
  T : List (Nat × Ty)
  G : List (Nat × FnSpec)
  ro : List Nat
  loops : List (Nat × Cut)
  joins : List (Nat × Cut)
  mv : Bool := false
  forks : List Nat := []
  ins : List (Nat × Ty) := []
  fz : List Nat := []
  del : List (Nat × DelFn) := []
  sh : List Nat := []
  hoist : List (Nat × List Nat) := []
  aside : List (Nat × Nat) := []
  astore : List (Nat × Nat) := []
  pre : List (Nat × List Nat) := []
  preb : List (Nat × List (Nat × Ty)) := []
  lend : List (Nat × List (Nat × Ty)) := []
  areads : List Nat := []
  every : List Nat := []
  keepc : List (Nat × KFn) := []
  sel : List (Nat × SelFn) := []
  eqs : List (Nat × Ty) := []
  win : List Nat := []
  trim : List Nat := []
  grow : List Nat := []
  swaps : List (Nat × List (Nat × Nat)) := []
def look {α : Type} (l : List (Nat × α)) (i : Nat) : Option α :=
  match l with
  | [] => none
  | (j, a) :: r => bif Nat.beq j i then some a else look r i
def lookS (l : List (Nat × Ty)) (i : Nat) : Option Ty :=
  match look l i with
  | some u => bif isArrT u then none else some u
  | none => none
def AS.ev (s : AS) : Operand → AVal
  | .tmp t => s.ρ.getD t (.one .und)
  | .const v => match v with
    | .bool b => .one (.pv .bool b)
    | .int k n => bif decide (k.min ≤ n) && decide (n ≤ k.max) then .one (.pv (.int k) n) else .one .und
    | .string b => bif Nat.ble b.data.toList.length 140737488355328 then .one (.pv .str b.data.toList) else .one .und
    | .slice none 0 0 => .one .nils
    | _ => .one .und
  | .func f => .one (.cl f [])
  | .global _ => .one .und
inductive QRes where
  | fail
  | ok (v : AVal) (os : AHeap)
  | guard (c : Bool) (v : AVal) (os : AHeap)
  | bind (α : Type) (m : Option α) (f : α → AVal × AHeap)
def QRes.run (s : AS) {R : Type} (k : AVal → AS → Option R) : QRes → Option R
  | .fail => none
  | .ok v os => k v { s with h := os ++ s.h }
  | .guard c v os => bif c then k v { s with h := os ++ s.h } else none
  | .bind _ m f => m.bind fun x => k (f x).1 { s with h := (f x).2 ++ s.h }
def qone (c : ACell) : QRes := .ok (.one c) []
def isShift : BinOp → Bool
  | .shl | .shr => true
  | _ => false
def shiftI (op : BinOp) (k : IntKind) (x y : Int) : Int :=
  match op with
  | .shl => k.wrap (x * 2 ^ (min y.toNat k.bits))
  | _ => x.fdiv (2 ^ (min y.toNat k.bits))
def bitsI (op : BinOp) (k : IntKind) (x y : Int) : Int :=
  match op with
  | .and => k.wrap ((BitVec.ofInt k.bits x &&& BitVec.ofInt k.bits y).toNat : Int)
  | .or => k.wrap ((BitVec.ofInt k.bits x ||| BitVec.ofInt k.bits y).toNat : Int)
  | .xor => k.wrap ((BitVec.ofInt k.bits x ^^^ BitVec.ofInt k.bits y).toNat : Int)
  | _ => k.wrap ((BitVec.ofInt k.bits x &&& ~~~(BitVec.ofInt k.bits y)).toNat : Int)
def toStr (l : List Int) : Bytes := l.map fun n => UInt8.ofNat n.toNat
def aBin (tb : Bool) (op : BinOp) (a b : ACell) : QRes :=
  match a, b with
  | .pv (.int j) x, .pv (.int j') y =>
    bif isShift op then .guard (decide (0 ≤ y)) (.one (.pv (.int j) (shiftI op j x y))) [] else
    bif decide (j = j') then
      match op with
      | .add => qone (.pv (.int j) (j.wrap (x + y)))
      | .sub => qone (.pv (.int j) (j.wrap (x - y)))
      | .mul => qone (.pv (.int j) (j.wrap (x * y)))
      | .quo => .guard (!decide (y = 0)) (.one (.pv (.int j) (j.wrap (x.tdiv y)))) []
      | .rem => .guard (!decide (y = 0)) (.one (.pv (.int j) (x.tmod y))) []
      | .eql => qone (.pv .bool (decide (x = y)))
      | .neq => qone (.pv .bool (!decide (x = y)))
      | .lss => qone (.pv .bool (decide (x < y)))
      | .leq => qone (.pv .bool (decide (x ≤ y)))
      | .gtr => qone (.pv .bool (decide (y < x)))
      | .geq => qone (.pv .bool (decide (y ≤ x)))
      | .and => qone (.pv (.int j) (bitsI .and j x y))
      | .or => qone (.pv (.int j) (bitsI .or j x y))
      | .xor => qone (.pv (.int j) (bitsI .xor j x y))
      | .andNot => qone (.pv (.int j) (bitsI .andNot j x y))
      | _ => .fail
    else .fail
  | .pv .bool x, .pv .bool y =>
    match tb, op with
    | true, .eql => qone (.pv .bool (x == y))
    | true, .neq => qone (.pv .bool (x != y))
    | _, _ => .fail
  | .pv .str x, .pv .str y =>
    match op with
    | .add => .guard (decide (x.length + y.length ≤ lim)) (.one (.pv .str (x ++ y))) []
    | .eql => qone (.pv .bool (decide (x = y)))
    | .neq => qone (.pv .bool (!decide (x = y)))
    | .lss => qone (.pv .bool (Op.bytesLess x y))
    | .leq => qone (.pv .bool (Op.bytesLess x y || decide (x = y)))
    | .gtr => qone (.pv .bool (!(Op.bytesLess x y || decide (x = y))))
    | .geq => qone (.pv .bool (!Op.bytesLess x y))
    | _ => .fail
  | _, _ => .fail
def aUn (op : UnOp) (a : ACell) : QRes :=
  match op, a with
  | .not, .pv .bool x => qone (.pv .bool (!x))
  | .neg, .pv (.int j) x => qone (.pv (.int j) (j.wrap (0 - x)))
  | _, _ => .fail
def splice (cs : List ACell) (off : Nat) (ds : List ACell) : List ACell := cs.take off ++ ds ++ cs.drop (off + ds.length)
def aLoad (get : Nat → Option AObj) (t : Ty) (a : ACell) : QRes :=
  match a with
  | .pc u x => match cast? t x with
    | some y => .ok (ofDen t y) []
    | none => .fail
  | .op id off => match get id with
    | some (.box cs) => bif Nat.ble (off + t.size) cs.length then .ok (valOf t.isAgg ((cs.drop off).take t.size)) [] else .fail
    | _ => .fail
  | .oe id i off => match get id with
    | some (.arr d e xs) => bif Nat.ble (off + t.size) e.size then
        bif !d || plainIn (((flat e e.zero).drop off).take t.size) then .bind e.den xs[i]? fun y => (valOf t.isAgg (((flat e y).drop off).take t.size), [])
        else
          match (flat e e.zero)[off]?, t with
          | some (.pv (.slice u) _), .slice u' => bif decide (u = u') then .bind e.den xs[i]? fun y => (.one (.sb id i off e y), []) else .fail
          | _, _ => .fail
      else .fail
    | _ => .fail
  | _ => .fail
def aStore (mv : Bool) (s : AS) (t : Ty) (a : ACell) (v : AVal) {R : Type} (k : AS → Option R) : Option R :=
  match a with
  | .op id off => match s.h.get id with
    | some (.box cs) => bif v.solid && Nat.beq v.cells.length t.size && Nat.ble (off + t.size) cs.length then k (s.upd id (.box (splice cs off v.cells))) else none
    | _ => none
  | .oe id i off => match s.h.get id with
    | some (.arr d e xs) =>
      bif mv && (d && !plainIn v.cells && deepIn s.h v.cells) then
        bif v.solid && Nat.beq v.cells.length t.size && Nat.ble (off + t.size) e.size && !(osIn v.cells).any (Nat.beq id) then
          bif Nat.beq t.size e.size then
            match gather s.h e v.cells with
            | some y => k ((s.killL (osIn v.cells)).updA id (.arr true e (xs.set i y)))
            | none => none
          else (xs[i]?).bind fun x =>
            match gather s.h e (splice (flat e x) off v.cells) with
            | some y => k ((s.killL (osIn v.cells)).updA id (.arr true e (xs.set i y)))
            | none => none
        else none
      else
      bif v.solid && Nat.beq v.cells.length t.size && Nat.ble (off + t.size) e.size && (noSb v.cells && !(osIn v.cells).any (Nat.beq id)) then
        let dp := d && plainIn v.cells
        bif Nat.beq t.size e.size then
          match gather s.h e v.cells with
          | some y => k ((s.frzAll (osIn v.cells)).updA id (.arr dp e (xs.set i y)))
          | none => none
        else (xs[i]?).bind fun x =>
          match gather s.h e (splice (flat e x) off v.cells) with
          | some y => k ((s.frzAll (osIn v.cells)).updA id (.arr dp e (xs.set i y)))
          | none => none
      else none
    | _ => none
  | _ => none
def fillParts (t : Ty) (cs : List ACell) : List (Nat × AVal) → Option (List ACell)
  | [] => some cs
  | (i, v) :: r => match fieldAt t i with
    | some (off, u) => bif v.solid && Nat.beq v.cells.length u.size then fillParts t (splice cs off v.cells) r else none
    | none => none
def elemsOf (get : Nat → Option AObj) (t : Ty) : List (Nat × AVal) → Nat → Option (List t.den)
  | [], _ => some []
  | (i, v) :: r, n => bif Nat.beq i n && v.solid && Nat.beq v.cells.length t.size then (gatherG get t v.cells).bind fun x => (elemsOf get t r (n + 1)).bind fun xs => some (x :: xs) else none
def aLen (get : Nat → Option AObj) (u : Ty) (c : ACell) : Option Int :=
  match u, c with
  | .str, .pv .str x => some (x.length : Int)
  | .slice _, .pv (.slice _) x => some (x.length : Int)
  | .slice _, .nils => some 0
  | .slice _, .os id => match get id with
    | some (.arr _ _ xs) => some (xs.length : Int)
    | _ => none
  | .slice _, .sb _ _ off e y => match (flat e y)[off]? with
    | some (.pv (.slice _) x) => some (x.length : Int)
    | _ => none
  | _, _ => none
def srcOf (get : Nat → Option AObj) (t : Ty) (x : ACell) : Option (List t.den) := cellToG get (.slice t) x
def ACell.isNils : ACell → Bool
  | .nils => true
  | _ => false
def isDeep (s : AS) (j : Nat) : Bool := match s.h.get j with
  | some (.arr d _ _) => d
  | _ => false
def canMv (s : AS) (a x : ACell) : Bool := match x with
  | .os j => isDeep s j && (match a with
    | .nils => true
    | .os id => !Nat.beq id j && isDeep s id
    | _ => false)
  | _ => false
def aAppendMv (s : AS) (d : Nat) (t : Ty) (a x : ACell) {R : Type} (k : AVal → AS → Option R) : Option R :=
  match x with
  | .os j => match s.h.get j with
    | some (.arr true e ys0) => match cast? (t := .slice e) (.slice t) ys0 with
      | some ys => match a with
        | .nils => bif decide (ys.length ≤ lim) then k (.one (.os (d * 16))) (((s.kill j).fresh d).bear (d * 16) t ys) else none
        | .os id => match s.h.get id with
          | some (.arr true e' zs) => bif Nat.beq id j || (Nat.ble 100000 id && Nat.ble id 199999) then none else
            match cast? (t := .slice e') (.slice t) zs with
            | some xs => bif decide (xs.length + ys.length ≤ lim) then
                let s := (s.kill j).kill id
                k (.one (.os id)) { s with h := (id, .arr true t (xs ++ ys)) :: s.h } else none
            | none => none
          | _ => none
        | _ => none
      | none => none
    | _ => none
  | _ => none
def canBuildMv (s : AS) (ps : List (Nat × Operand)) : Bool := match ps with
  | [(0, x)] => !plainIn (s.ev x).cells && deepIn s.h (s.ev x).cells
  | _ => false
def aBuildMv (E : Env) (s : AS) (d : Nat) (t n : Nat) (ps : List (Nat × Operand)) {R : Type} (k : AVal → AS → Option R) : Option R :=
  match look E.T t, ps with
  | some (.slice u), [(0, x)] => bif Nat.beq n 1 && ((s.ev x).solid && Nat.beq (s.ev x).cells.length u.size && Nat.ble u.size 16777216) && deepIn s.h (s.ev x).cells then
      match gather s.h u (s.ev x).cells with
      | some y => k (.one (.os (d * 16))) (((s.killL (osIn (s.ev x).cells)).fresh d).bear (d * 16) u [y])
      | none => none
    else none
  | _, _ => none
def aAppend (E : Env) (s : AS) (d : Nat) (st : Nat) (a x : ACell) {R : Type} (k : AVal → AS → Option R) : Option R :=
  match look E.T st with
  | some (.slice t) =>
    bif E.mv && (t.leads && canMv s a x) then aAppendMv s d t a x k else
    bif t.leads && !noSb [x] then none else
    match srcOf s.h.get t x with
    | some ys =>
      let dp := !t.leads || x.isNils
      let s := bif t.leads then s.frzAll (osIn [x]) else s
      match a with
      | .nils => let s := s.fresh d
        bif decide (ys.length ≤ lim) then k (.one (.os (d * 16))) { ρ := s.ρ, h := (d * 16, .arr dp t ys) :: s.h, t := s.t + 1 } else none
      | .os id => match s.h.get id with
        | some (.arr d' e zs) => bif Nat.ble 100000 id && Nat.ble id 199999 then none else
          match cast? (t := .slice e) (.slice t) zs with
          | some xs => bif decide (xs.length + ys.length ≤ lim) then
              let s := s.kill id
              k (.one (.os id)) { s with h := (id, .arr (d' && dp) t (xs ++ ys)) :: s.h } else none
          | none => none
        | _ => none
      | _ => none
    | none => none
  | _ => none
noncomputable def bothSame {R : Type} (a b : Option R) : Option R := by
  classical
  exact if a = b then a else none
def innerSet (e : Ty) (y : e.den) (off : Nat) (u : Ty) (z : List u.den) : Option e.den :=
  gatherG (fun _ => none) e ((flat e y).take off ++ [.pv (.slice u) z] ++ (flat e y).drop (off + 1))
noncomputable def aAppSb (E : Env) (s : AS) (d : Nat) (st : Nat) (id i off : Nat) (e : Ty) (y : e.den) (x : ACell) {R : Type} (k : AVal → AS → Option R) : Option R :=
  match look E.T st, s.h.get id, (flat e y)[off]? with
  | some (.slice t), some (.arr true e' xs), some (.pv (.slice u) z) =>
    match cast? (t := .slice u) (.slice t) z, srcOf s.h.get t x with
    | some zs, some ys => bif t.leads || List.isEmpty ys then none else
      let s1 := s.fresh d
      match s1.h.get id with
      | some (.arr true _ _) => bif decide (zs.length + ys.length ≤ lim) then bothSame (k (.one (.vw id (.app i off e y t ys))) (s1.updA id (.arr true e' xs))) (k (.one (.os (d * 16))) { ρ := s1.ρ, h := (d * 16, .arr true t (zs ++ ys)) :: s1.h, t := s1.t + 1 }) else none
      | _ => none
    | _, _ => none
  | _, _, _ => none
def aStoreApp (s : AS) (id i off : Nat) (e : Ty) (y : e.den) (t : Ty) (ys : List t.den) {R : Type} (k : AS → Option R) : Option R :=
  match s.h.get id, (flat e y)[off]? with
  | some (.arr true e' xs), some (.pv (.slice u) z) =>
    match cast? (t := .slice u) (.slice t) z with
    | some zs => match innerSet e y off t (zs ++ ys) with
      | some y1 => match cast? e' y1 with
        | some y2 => k (s.updA id (.arr true e' (xs.set i y2)))
        | none => none
      | none => none
    | none => none
  | _, _ => none
def aStoreInn (s : AS) (u' : Ty) (id i off : Nat) (e : Ty) (y : e.den) (j : Nat) (v : AVal) {R : Type} (k : AS → Option R) : Option R :=
  match s.h.get id, (flat e y)[off]? with
  | some (.arr true e' xs), some (.pv (.slice u) z) =>
    bif u.leads || (u.isAgg || !(decide (u = u') && v.fits u)) then none else
    match gather s.h u v.cells with
    | some x => match innerSet e y off u (List.set z j x) with
      | some y1 => match cast? e' y1 with
        | some y2 => k (s.updA id (.arr true e' (xs.set i y2)))
        | none => none
      | none => none
    | none => none
  | _, _ => none
def argOs : List PK → List AVal → List Nat
  | .val t :: ps, v :: vs => bif t.leads then osIn v.cells ++ argOs ps vs else argOs ps vs
  | _ :: ps, _ :: vs => argOs ps vs
  | _, _ => []
def argIds : List PK → List AVal → List Nat
  | .val _ :: ps, v :: vs => idsOf v.cells ++ argIds ps vs
  | _ :: ps, _ :: vs => argIds ps vs
  | _, _ => []
def allVal : List PK → Bool
  | [] => true
  | .val _ :: r => allVal r
  | .rp _ :: r => allVal r
  | .fn _ _ :: r => allVal r
  | _ :: _ => false
def ownShape : List PK → Bool
  | .own _ :: ps => allVal ps
  | _ => false
def plainRs : List RK → Bool
  | [] => true
  | .val t :: r => !t.leads && plainRs r
  | .own _ :: _ => false
  | .rp _ :: _ => false
  | .sh _ :: _ => false
  | .ob _ :: _ => false
def callVals (ev : Operand → AVal) (xs : List Operand) (caps : List Cap) : List AVal := xs.map ev ++ caps.map Cap.aval
def aCall (s0 : AS) (d : Nat) (C : FnSpec) (xs : List Operand) (caps : List Cap) {R : Type} (k : AVal → AS → Option R) : Option R :=
  bif !(allVal C.ps || (ownShape C.ps && plainRs C.rs)) then none else
  let s := bif RK.leads C.rs then s0.frzAll (argOs C.ps (callVals s0.ev xs caps)) else s0
  let args := callVals s.ev xs caps
  bif (RK.leads C.rs || !allVal C.ps) && !(argIds C.ps args).isEmpty then none else
  match takeArgs s.h C.ps args with
  | some x => (C.fn x).bind fun r => putMuts C.ps args (RK.tys C.rs) r s fun r s => match putRes (d * 16) C.rs r with
    | (l, os, n) => bif Nat.ble n (d * 16 + 16) then
        let s := s.fresh d
        k (resVal l) { ρ := s.ρ, h := os ++ s.h, t := bif allVal C.ps then s.t else s.t + 1 }
      else none
  | none => none
def midV : (ps : List PK) → {ts : List Ty} → dens (PK.mtys ps ts) → Option (dens ts)
  | [], _, x => some x
  | .val _ :: ps, _, x => midV ps x
  | .rp _ :: ps, _, x => midV ps x
  | .fn _ _ :: ps, _, x => midV ps x
  | _ :: _, _, _ => none
def boxShape : List PK → Bool
  | .mbox _ :: ps => allVal ps
  | .obox _ :: ps => allVal ps
  | _ => false
def boxId : List AVal → Option Nat
  | .one (.op id 0) :: _ => some id
  | _ => none
def boxGo {t : Ty} {ps : List PK} {rs : List RK} (s : AS) (d id : Nat) (r : dens (PK.mtys (.mbox t :: ps) (RK.tys rs))) {R : Type} (k : AVal → AS → Option R) : Option R :=
  (midV ps (ts := RK.tys rs) (tailD (t := t) (ts := PK.mtys ps (RK.tys rs)) r)).bind fun z => match putRes (d * 16) rs z with
    | (l, os, n) => bif Nat.ble n (d * 16 + 16) then
        k (resVal l) { ρ := ((s.fresh d).upd id (.box (flat t (headD (t := t) (ts := PK.mtys ps (RK.tys rs)) r)))).ρ, h := os ++ ((s.fresh d).upd id (.box (flat t (headD (t := t) (ts := PK.mtys ps (RK.tys rs)) r)))).h, t := (s.fresh d).t + 1 }
      else none
def oboxGo {t : Ty} {ps : List PK} {rs : List RK} (s0 : AS) (d id : Nat) (r : dens (PK.mtys (.obox t :: ps) (RK.tys rs))) {R : Type} (k : AVal → AS → Option R) : Option R :=
  match s0.h.get id with
  | some (.box cs) =>
    let s := s0.killL (osIn cs)
    (midV ps (ts := RK.tys rs) (tailD (t := t) (ts := PK.mtys ps (RK.tys rs)) r)).bind fun z => match mutCells (d * 16) t (headD (t := t) (ts := PK.mtys ps (RK.tys rs)) r) with
      | (cs, os1, n1) => match putRes n1 rs z with
        | (l, os, n) => bif Nat.ble n (d * 16 + 16) then
            k (resVal l) { ρ := ((s.fresh d).upd id (.box cs)).ρ, h := (os1 ++ os) ++ ((s.fresh d).upd id (.box cs)).h, t := (s.fresh d).t + 2 }
          else none
  | _ => none
def aCallB (s0 : AS) (d : Nat) (C : FnSpec) (xs : List Operand) (caps : List Cap) {R : Type} (k : AVal → AS → Option R) : Option R :=
  match C with
  | ⟨.mbox t :: ps, rs, fn⟩ =>
    let s := s0.frzAll (argOs (.mbox t :: ps) (callVals s0.ev xs caps))
    let args := callVals s.ev xs caps
    bif !(argIds (.mbox t :: ps) args).isEmpty then none else
    match boxId args with
    | some id => bif Nat.ble (d * 16) id && Nat.ble id (d * 16 + 15) then none else
      match takeArgs s.h (.mbox t :: ps) args with
      | some x => (fn x).bind fun r => boxGo s d id r k
      | none => none
    | none => none
  | ⟨.obox t :: ps, rs, fn⟩ =>
    let s := s0.frzAll (argOs (.obox t :: ps) (callVals s0.ev xs caps))
    let args := callVals s.ev xs caps
    bif !(argIds (.obox t :: ps) args).isEmpty then none else
    match boxId args with
    | some id => bif Nat.ble (d * 16) id && Nat.ble id (d * 16 + 15) then none else
      match takeArgs s.h (.obox t :: ps) args with
      | some x => (fn x).bind fun r => oboxGo s d id r k
      | none => none
    | none => none
  | _ => none
def intOp (v : AVal) : Option Int :=
  match v with
  | .one (.pv (.int .i64) n) => some n
  | _ => none
def bound (ev : Operand → AVal) (dflt : Int) : Option Operand → Option Int
  | none => some dflt
  | some o => intOp (ev o)
def eqCells : Ty → List ACell → List ACell → Option Bool
  | .unit, [], [] => some true
  | .pair (.int k) u, .pv (.int i) x :: a, .pv (.int j) y :: b => bif decide (i = k) && decide (j = k) then match eqCells u a b with
    | some z => some (decide ((x : Int) = y) && z)
    | none => none
    else none
  | _, _, _ => none
def aEq (u : Ty) (op : BinOp) (a b : List ACell) : QRes :=
  match eqCells u a b with
  | some z => match op with
    | .eql => qone (.pv .bool z)
    | .neq => qone (.pv .bool (!z))
    | _ => .fail
  | none => .fail
def aQ (E : Env) (ev : Operand → AVal) (get : Nat → Option AObj) (d : Nat) (o : Op) : QRes :=
  match o with
  | .move x | .assign x => .ok (ev x) []
  | .alloc t => match look E.T t with
    | some u => .ok (.one (.op (d * 16) 0)) [(d * 16, .box (zcells u))]
    | none => .fail
  | .box t x => match look E.T t with
    | some u =>
      bif (ev x).solid && Nat.beq (ev x).cells.length u.size then
        bif E.ro.any (Nat.beq d) then
          match idsOf (ev x).cells, gatherG get u (ev x).cells with
          | [], some y => .ok (.one (.pc u y)) []
          | _, _ => .fail
        else .ok (.one (.op (d * 16) 0)) [(d * 16, .box (ev x).cells)]
      else .fail
    | none => .fail
  | .build t ps => match lookS E.T t with
    | some u => match fillParts u (zcells u) (ps.toList.map fun p => (p.1, ev p.2)) with
      | some cs => bif u.isAgg then .ok (.ag cs) [] else .fail
      | none => .fail
    | none => match look E.T t with
      | some (.pair .unit (.pair e r)) => bif (lenOf e r).isSome then (match fillParts (.pair e r) (zcells (.pair e r)) (ps.toList.map fun p => (p.1, ev p.2)) with
        | some cs => .ok (.ag cs) []
        | none => .fail) else .fail
      | _ => .fail
  | .buildSlice t n ps => match look E.T t with
    | some (.slice u) => bif Nat.beq ps.size n && Nat.ble (n * u.size) 16777216 then
      bif Nat.beq n 0 then qone .nils else
        match idsOf (ps.toList.flatMap fun p => (ev p.2).cells), elemsOf get u (ps.toList.map fun p => (p.1, ev p.2)) 0 with
        | [], some xs => bif E.ro.any (Nat.beq d) then .ok (.one (.pv (.slice u) xs)) [] else .ok (.one (.os (d * 16))) [(d * 16, .arr (plainIn (ps.toList.flatMap fun p => (ev p.2).cells)) u xs)]
        | _, _ => .fail
      else .fail
    | _ => .fail
  | .load t a => match look E.T t, ev a with
    | some u, .one c => aLoad get u c
    | _, _ => .fail
  | .binOp op t x y _ => match ev x, ev y with
    | .one a, .one b => aBin (match look E.T t with | some .bool => true | _ => false) op a b
    | .ag a, .ag b => match look E.eqs t with
      | some u => aEq u op a b
      | none => .fail
    | _, _ => .fail
  | .unOp op _ x => match ev x with
    | .one a => aUn op a
    | _ => .fail
  | .makeSlice t l c => match look E.T t, ev l, ev c with
    | some (.slice u), .one (.pv (.int .i64) n), .one (.pv (.int .i64) m) =>
      .guard (decide (0 ≤ n) && decide (n ≤ m) && decide (m ≤ lim)) (.one (.os (d * 16))) [(d * 16, .arr true u (List.replicate n.toNat u.zero))]
    | _, _, _ => .fail
  | .slice st x lo hi none => match look E.T st, ev x with
    | some (.slice t'), .one (.pv (.slice t) xs) => bif decide (t = t') then
        match bound ev 0 lo, bound ev xs.length hi with
        | some l, some h => .bind (List t.den) (sub xs l h) fun ys => (.one (.pv (.slice t) ys), [])
        | _, _ => .fail
      else .fail
    | some .str, .one (.pv .str xs) =>
      match bound ev 0 lo, bound ev xs.length hi with
      | some l, some h => .bind Bytes (sub xs l h) fun ys => (.one (.pv .str ys), [])
      | _, _ => .fail
    | some (.slice t'), .one (.os id) => match get id with
      | some (.arr _ t xs) => bif decide (t = t') && E.win.any (Nat.beq d) then
          match bound ev 0 lo, bound ev xs.length hi with
          | some l, some h => .guard (decide (0 ≤ l) && (decide (l ≤ h) && decide (h ≤ xs.length))) (.one (.vw id (.win l.toNat h.toNat))) []
          | _, _ => .fail
        else .fail
      | _ => .fail
    | _, _ => .fail
  | .slice st x lo (some hi) (some mx) => match look E.T st, ev x, bound ev 0 lo, intOp (ev hi), intOp (ev mx) with
    | some (.slice t'), .one (.pv (.slice t) _), some l, some r, some n => bif decide (t = t') && (decide (l = 0) && decide (r = 0) && decide (n = 0)) then .ok (.one (.os (d * 16))) [(d * 16, .arr true t [])] else .fail
    | _, _, _, _, _ => .fail
  | .fieldAddr t a f => match lookS E.T t, ev a with
    | some u, .one c => match fieldAt u f, c with
      | some p, .op id off => qone (.op id (off + p.1))
      | some p, .oe id i off => qone (.oe id i (off + p.1))
      | some _, .pc _ x => match cast? u x with
        | some y => match fieldDen u y f with
          | some q => qone (.pc q.1 q.2)
          | none => .fail
        | none => .fail
      | _, _ => .fail
    | _, _ => .fail
  | .field t x f => match lookS E.T t, ev x with
    | some u, .ag cs => match fieldAt u f with
      | some p => bif Nat.ble (p.1 + p.2.size) cs.length then .ok (valOf p.2.isAgg ((cs.drop p.1).take p.2.size)) [] else .fail
      | none => .fail
    | _, _ => .fail
  | .indexAddr st x i => match look E.T st, ev x, ev i with
    | some (.slice t'), .one (.pv (.slice t) xs), .one (.pv (.int _) n) => bif decide (t = t') then .bind t.den (idx xs n) fun e => (.one (.pc t e), []) else .fail
    | some (.slice t'), .one (.os id), .one (.pv (.int _) n) => match get id with
      | some (.arr _ t xs) => bif decide (t = t') then .guard (decide (0 ≤ n) && decide (n < xs.length)) (.one (.oe id n.toNat 0)) [] else .fail
      | _ => .fail
    | some (.slice t'), .one (.vw id .all), .one (.pv (.int _) n) => match get id with
      | some (.src t _ xs) => bif decide (t = t') then .guard (decide (0 ≤ n) && decide (n < xs.length)) (.one (.vw id (.el n.toNat))) [] else .fail
      | _ => .fail
    | some (.slice t'), .one (.sb id i off e y), .one (.pv (.int _) n) => match (flat e y)[off]? with
      | some (.pv (.slice u) z) => bif decide (u = t') then .guard (decide (0 ≤ n) && decide (n < (List.length (α := u.den) z : Int))) (.one (.vw id (.inn i off e y n.toNat))) [] else .fail
      | _ => .fail
    | some u, .one (.op id off), .one (.pv (.int _) n) => match arrIn u with
      | some p => bif decide (0 ≤ n) && decide (n < p.1) then qone (.op id (off + n.toNat * p.2.size)) else .fail
      | none => .fail
    | _, _, _ => .fail
  | .index st x i => match look E.T st, ev x, ev i with
    | some .str, .one (.pv .str xs), .one (.pv (.int _) n) => .bind UInt8 (idx xs n) fun b => (.one (.pv (.int .u8) (b.toNat : Int)), [])
    | _, _, _ => .fail
  | .extract x i => match ev x with
    | .tu l => match l[i]? with
      | some p => .ok (valOf p.1 p.2) []
      | none => .fail
    | _ => .fail
  | .nilCheck x => match ev x with
    | .one (.op id off) => qone (.op id off)
    | .one (.oe id i off) => qone (.oe id i off)
    | .one (.pc t x) => qone (.pc t x)
    | _ => .fail
  | .call c => match c.callee with
    | .builtin .len => match c.argTypes.toList, c.args.toList.map ev with
      | [t], [.one a] => match look E.T t with
        | some u => match aLen get u a with
          | some n => qone (.pv (.int .i64) n)
          | none => .fail
        | none => .fail
      | _, _ => .fail
    | .builtin .append => match c.argTypes.toList, c.args.toList.map ev with
      | [st, st'], [.one .nils, .one x] => match look E.T st with
        | some (.slice t) => bif Nat.beq st st' && !(t.leads && !(idsOf [x]).isEmpty) then
            match srcOf get t x with
            | some ys => .guard (decide (ys.length ≤ lim)) (.one (.os (d * 16))) [(d * 16, .arr (!t.leads || x.isNils) t ys)]
            | none => .fail
          else .fail
        | _ => .fail
      | _, _ => .fail
    | .builtin .min => match c.args.toList.map ev with
      | [.one (.pv (.int j) x), .one (.pv (.int j') y)] => bif decide (j = j') then qone (.pv (.int j) (bif decide (y < x) then y else x)) else .fail
      | _ => .fail
    | .builtin .max => match c.args.toList.map ev with
      | [.one (.pv (.int j) x), .one (.pv (.int j') y)] => bif decide (j = j') then qone (.pv (.int j) (bif decide (x < y) then y else x)) else .fail
      | _ => .fail
    | _ => .fail
  | .makeFunc fn first captured => match fn, first.toList, pcsOf (captured.toList.map ev) with
    | .func g, [], some caps => qone (.cl g caps)
    | _, _, _ => .fail
  | .convert src dst x => match look E.T src, look E.T dst, ev x with
    | some (.int _), some (.int k), .one (.pv (.int _) n) => qone (.pv (.int k) (k.wrap n))
    | some (.slice (.int .u8)), some .str, .one c => match cellToG get (.slice (.int .u8)) c with
      | some xs => qone (.pv .str (toStr xs))
      | none => .fail
    | _, _, _ => .fail
  | _ => .fail
def gives (E : Env) (s : AS) (d : Nat) (o : Op) : List Nat :=
  match o with
  | .box _ x => bif E.ro.any (Nat.beq d) then osIn (s.ev x).cells else []
  | .buildSlice _ _ ps => osIn (ps.toList.flatMap fun p => (s.ev p.2).cells)
  | .call c => match c.callee, c.argTypes.toList, c.args.toList with
    | .builtin .append, st :: _, [_, x] => match look E.T st with
      | some (.slice t) => bif t.leads then osIn (s.ev x).cells else []
      | _ => []
    | _, _, _ => []
  | _ => []
def quietApp (E : Env) (s : AS) (st : Nat) (a x : ACell) : Bool :=
  a.isNils && !(E.mv && ((match look E.T st with | some t => t.leads | none => false) && canMv s a x))
def aQuiet (E : Env) (s : AS) (d : Nat) (o : Op) {R : Type} (k : AVal → AS → Option R) : Option R :=
  let s1 := s.fresh d
  let s2 := s1.frzAll (gives E s1 d o)
  (aQ E s2.ev s2.h.get d o).run s2 k
def nilOp (op : BinOp) (b : Bool) : Bool :=
  match op with
  | .eql => b
  | _ => !b
def isNilCmp (E : Env) (s : AS) (op : BinOp) (t : TypeId) (x y : Operand) : Bool :=
  match op, look E.T t, s.ev x, y with
  | .eql, some (.slice _), .one (.pv (.slice _) _), .const (.slice none 0 0) => true
  | .neq, some (.slice _), .one (.pv (.slice _) _), .const (.slice none 0 0) => true
  | _, _, _, _ => false
noncomputable def aNil (s : AS) (op : BinOp) (x : Operand) {R : Type} (k : AVal → AS → Option R) : Option R :=
  match s.ev x with
  | .one (.pv (.slice _) xs) =>
    bif List.isEmpty xs then bothSame (k (.one (.pv .bool (nilOp op true))) { s with t := s.t + 1 }) (k (.one (.pv .bool (nilOp op false))) { s with t := s.t + 1 })
    else k (.one (.pv .bool (nilOp op false))) { s with t := s.t + 1 }
  | _ => none
def isConst : Operand → Bool
  | .const _ => true
  | _ => false
def isIdxB (E : Env) (s : AS) (st : TypeId) (x i : Operand) : Bool :=
  match look E.T st, s.ev x, s.ev i with
  | some u, .one (.op _ _), .one (.pv (.int _) _) => !isConst i && (arrIn u).isSome
  | _, _, _ => false
def pickB (n : Int) {R : Type} (k : Nat → Option R) : Nat → Option R
  | 0 => none
  | j + 1 => bif decide (n = (j : Int)) then k j else pickB n k j
def isIdxV (E : Env) (s : AS) (st : TypeId) (x i : Operand) : Bool :=
  match look E.T st, s.ev x, s.ev i with
  | some u, .ag cs, .one (.pv (.int _) _) => match arrIn u with
    | some p => Nat.ble (p.1 * p.2.size) cs.length
    | none => false
  | _, _, _ => false
def aIdxV (E : Env) (s : AS) (st : TypeId) (x i : Operand) {R : Type} (k : AVal → AS → Option R) : Option R :=
  match look E.T st, s.ev x, s.ev i with
  | some u, .ag cs, .one (.pv (.int _) n) => match arrIn u with
    | some p => pickB n (fun j => k (valOf p.2.isAgg ((cs.drop (j * p.2.size)).take p.2.size)) { s with t := s.t + 1 }) p.1
    | none => none
  | _, _, _ => none
def aIdxB (E : Env) (s : AS) (st : TypeId) (x i : Operand) {R : Type} (k : AVal → AS → Option R) : Option R :=
  match look E.T st, s.ev x, s.ev i with
  | some u, .one (.op id off), .one (.pv (.int _) n) => match arrIn u with
    | some p => pickB n (fun j => k (.one (.op id (off + j * p.2.size))) { s with t := s.t + 1 }) p.1
    | none => none
  | _, _, _ => none
def insV {α : Type} (xs : List α) (i : Int) (y : α) : List α := xs.take i.toNat ++ y :: xs.drop i.toNat
def aIns (E : Env) (s : AS) (g : Nat) (args : List Operand) {R : Type} (k : AVal → AS → Option R) : Option R :=
  match look E.ins g, args.map s.ev with
  | some t, [.one (.os id), .one (.pv (.int .i64) i), .one (.os jd)] =>
    match s.h.get id, s.h.get jd with
    | some (.arr true e zs), some (.arr true e' us) =>
      bif Nat.beq id jd || (Nat.ble 100000 id && Nat.ble id 199999) then none else
      match cast? (t := .slice e) (.slice t) zs, cast? (t := .slice e') (.slice t) us with
      | some xs, some ys => match ys with
        | [y] => bif decide (0 ≤ i) && decide (i ≤ (xs.length : Int)) && decide (xs.length ≤ 999999) then k (.one (.os id)) { (s.kill jd).kill id with h := (id, .arr true t (insV xs i y)) :: ((s.kill jd).kill id).h } else none
        | _ => none
      | _, _ => none
    | _, _ => none
  | _, _ => none
def aDel (E : Env) (s : AS) (f : Nat) (args : List Operand) {R : Type} (k : AVal → AS → Option R) : Option R :=
  match look E.del f, args.map s.ev with
  | some D, [.one (.os id), .one (.cl g [])] =>
    match s.h.get id with
    | some (.arr true e zs) =>
      bif (!(Nat.beq g D.g) || (Nat.ble 100000 id && Nat.ble id 199999)) || D.out.isSome then none else
      match cast? (t := .slice e) (.slice D.t) zs with
      | some xs => bif decide (List.length (α := D.t.den) xs ≤ 999999) then k (.one (.os id)) { s.kill id with h := (id, .arr true D.t (List.filter D.keep xs)) :: (s.kill id).h } else none
      | none => none
    | _ => none
  | _, _ => none
def aMv (E : Env) (s : AS) (f : Nat) (args : List Operand) {R : Type} (k : AVal → AS → Option R) : Option R :=
  match look E.del f, args.map s.ev with
  | some D, [.one (.os id)] =>
    match D.out, s.h.get id with
    | some F, some (.arr true e zs) =>
      bif (Nat.ble 100000 id && Nat.ble id 199999) then none else
      match cast? (t := .slice e) (.slice D.t) zs with
      | some xs => (F xs).bind fun p => k (.tu [(false, [.os id]), (false, [.pv .bool p.2])]) { s.kill id with h := (id, .arr true D.t p.1) :: (s.kill id).h }
      | none => none
    | _, _ => none
  | _, _ => none
noncomputable def aSel (s : AS) (d : Nat) (D : SelFn) (args : List Operand) {R : Type} (k : AVal → AS → Option R) : Option R :=
  match args with
  | a :: _ => match s.ev a with
    | .one c => bif allVal D.C.ps then (takeArgs s.h D.C.ps (callVals s.ev args [])).bind fun x => (D.same x).bind fun b => bif b then k (.one c) { s with t := s.t + 1 } else aCall { s with t := s.t + 1 } d D.C args [] k else none
    | _ => none
  | _ => none
def fzIdx (E : Env) (s : AS) (d : Nat) (x : Operand) : Option Nat :=
  bif E.fz.any (Nat.beq d) then match s.ev x with
    | .one (.os id) => match s.h.get id with
      | some (.arr _ _ _) => some id
      | _ => none
    | _ => none
  else none
def shLoad (E : Env) (s : AS) (d : Nat) (x : Operand) : Option AS :=
  bif E.sh.any (Nat.beq d) then match s.ev x with
    | .one (.oe id _ _) => match s.h.get id with
      | some (.arr _ e xs) => some (s.updA id (.arr false e xs))
      | _ => none
    | .one (.os id) => match s.h.get id with
      | some (.arr _ e xs) => some (s.updA id (.arr false e xs))
      | _ => none
    | _ => none
  else none
inductive StSel where
  | inn (id i off : Nat) (e : Ty) (y : e.den) (j : Nat)
  | app (id i off : Nat) (e : Ty) (y : e.den) (u : Ty) (ys : List u.den) (i2 : Nat)
  | same (id i off : Nat) (e : Ty) (y : e.den) (i2 : Nat)
  | plain
def stSel (c : ACell) (v : AVal) : StSel :=
  match c with
  | .vw id (.inn i off e y j) => .inn id i off e y j
  | .oe id i off => match v with
    | .one (.vw id' (.app i' off' e y u' ys)) => bif Nat.beq id id' && Nat.beq off off' then .app id i off e y u' ys i' else .plain
    | .one (.sb id' i' off' e y) => bif Nat.beq id id' && Nat.beq off off' then .same id i off e y i' else .plain
    | _ => .plain
  | _ => .plain
def aStoreSame (s : AS) (id : Nat) {R : Type} (k : AS → Option R) : Option R :=
  match s.h.get id with
  | some (.arr true e' xs) => k (s.updA id (.arr true e' xs))
  | _ => none
def fnOk : List PK → List AVal → Bool
  | [], _ => true
  | .fn h _ :: ps, .one (.cl f _) :: vs => Nat.beq f h && fnOk ps vs
  | .fn _ _ :: _, _ => false
  | .val _ :: ps, _ :: vs => fnOk ps vs
  | .own _ :: ps, _ :: vs => fnOk ps vs
  | .rp _ :: _, _ => true
  | .mbox _ :: ps, _ :: vs => fnOk ps vs
  | .obox _ :: ps, _ :: vs => fnOk ps vs
  | _ :: _, [] => false
def lookG (l : List (Nat × FnSpec)) (g : Nat) (vs : List AVal) : Option FnSpec :=
  match l with
  | [] => none
  | (j, C) :: r => bif Nat.beq j g && fnOk C.ps vs then some C else lookG r g vs
def aTrim (E : Env) (s : AS) (st : TypeId) (x hi : Operand) {R : Type} (k : AVal → AS → Option R) : Option R :=
  match look E.T st, s.ev x, s.ev hi with
  | some (.slice t'), .one (.os id), .one (.pv (.int .i64) n) => match s.h.get id with
    | some (.arr d t xs) => bif decide (t = t') && !(Nat.ble 100000 id && Nat.ble id 199999) then
        (bif decide (0 ≤ n) && decide (n ≤ (xs.length : Int)) then k (.one (.os id)) { s.kill id with h := (id, .arr d t (xs.take n.toNat)) :: (s.kill id).h } else none)
      else none
    | _ => none
  | _, _, _ => none
def aCut (E : Env) (s : AS) (st : TypeId) (id n j r : Nat) {R : Type} (k : AVal → AS → Option R) : Option R :=
  match look E.T st, s.h.get id with
  | some (.slice t'), some (.arr true t xs) => bif decide (t = t') && !(Nat.ble 100000 id && Nat.ble id 199999) then
      (bif Nat.ble n j && decide (List.length xs ≤ lim) then k (.one (.os id)) { s.kill id with h := (id, .arr true t (xs.take n ++ (xs.take r).drop j)) :: (s.kill id).h } else none)
    else none
  | _, _ => none
def cutOf (a x : ACell) : Option (Nat × Nat × Nat × Nat) :=
  match a, x with
  | .vw id (.win lo n), .vw id' (.win j r) => bif Nat.beq lo 0 && Nat.beq id id' then some (id, n, j, r) else none
  | _, _ => none
def growId (E : Env) (d : Nat) (a : ACell) : Option Nat := bif E.grow.any (Nat.beq d) then (match a with
  | .os id => some id
  | _ => none) else none
noncomputable def aGrow (E : Env) (s : AS) (d : Nat) (st : Nat) (id : Nat) (x : ACell) {R : Type} (k : AVal → AS → Option R) : Option R :=
  match look E.T st, noSb [x] with
  | some (.slice t), true => match srcOf s.h.get t x with
    | some ys => let s1 := (s.frzAll (osIn [x])).fresh d
      match s1.h.get id with
      | some (.arr _ e zs) => bif (Nat.ble 100000 id && Nat.ble id 199999) || List.isEmpty ys then none else
        match cast? (t := .slice e) (.slice t) zs with
        | some xs => bif decide (List.length (α := t.den) xs + List.length ys ≤ lim) then
            let s2 := s1.updA id (.arr false e zs)
            bothSame (k (.one (.os id)) (s2.front id (List.length (α := t.den) xs) (.arr false t (xs ++ ys)))) (k (.one (.os (d * 16))) { ρ := s2.ρ, h := (d * 16, .arr false t (xs ++ ys)) :: s2.h, t := s2.t + 1 })
          else none
        | none => none
      | _ => none
    | none => none
  | _, _ => none
def takeAt (s : AS) (x : Operand) : Option (Nat × Nat) := match s.ev x with
  | .one (.vw id (.el i)) => some (id, i)
  | _ => none
def aTake (E : Env) (s0 : AS) (d : Nat) (t : TypeId) (id i : Nat) {R : Type} (k : AVal → AS → Option R) : Option R :=
  let s := s0.fresh d
  match look E.T t, s.h.get id with
  | some (.slice u'), some (.src (.slice u) j xs) => bif decide (u = u') then
      (bif Nat.beq i j then (xs[j]?).bind fun y => k (.one (.os (d * 16))) { ρ := s.ρ, h := (d * 16, .arr true u y) :: (s.upd id (.src (.slice u) (j + 1) xs)).h, t := s.t + 1 } else none)
    else none
  | _, _ => none
def kboxGo (s0 : AS) (d id : Nat) (K : KFn) (r : dens (PK.mtys (.obox K.t :: K.ps) (RK.tys K.rs))) {R : Type} (k : AVal → AS → Option R) : Option R :=
  match s0.h.get id with
  | some (.box cs) =>
    match ((s0.killL (osIn (cs.take K.t.size))).fresh d).h.get id with
    | some (.box cs1) =>
      (midV K.ps (ts := RK.tys K.rs) (tailD (t := K.t) (ts := PK.mtys K.ps (RK.tys K.rs)) r)).bind fun z => match mutCells (d * 16) K.t (headD (t := K.t) (ts := PK.mtys K.ps (RK.tys K.rs)) r) with
        | (cs2, os1, n1) => match putRes n1 K.rs z with
          | (l, os, n) => bif Nat.ble n (d * 16 + 16) then
              k (resVal l) { ρ := (((s0.killL (osIn (cs.take K.t.size))).fresh d).upd id (.box (cs2 ++ cs1.drop K.t.size))).ρ, h := (os1 ++ os) ++ (((s0.killL (osIn (cs.take K.t.size))).fresh d).upd id (.box (cs2 ++ cs1.drop K.t.size))).h, t := ((s0.killL (osIn (cs.take K.t.size))).fresh d).t + 2 }
            else none
    | _ => none
  | _ => none
def aCallK (s0 : AS) (d : Nat) (K : KFn) (xs : List Operand) (caps : List Cap) {R : Type} (k : AVal → AS → Option R) : Option R :=
  bif !(allVal K.ps && listT K.t) then none else
  let s := s0.frzAll (argOs (.obox K.t :: K.ps) (callVals s0.ev xs caps))
  let args := callVals s.ev xs caps
  bif !(argIds (.obox K.t :: K.ps) args).isEmpty then none else
  match args with
  | .one (.op id 0) :: vs => bif Nat.ble (d * 16) id && Nat.ble id (d * 16 + 15) then none else
    match s.h.get id with
    | some (.box cs) => bif Nat.beq cs.length (K.t.size + 1) && deepIn (s.h.del id) (cs.take K.t.size) then
        (gather s.h K.t (cs.take K.t.size)).bind fun x0 => (takeArgs ((osIn (cs.take K.t.size)).foldl AHeap.del (s.h.del id)) K.ps vs).bind fun xr => (K.fn (consD x0 xr)).bind fun r => kboxGo s d id K r k
      else none
    | _ => none
  | _ => none
noncomputable def aOp (E : Env) (s : AS) (dst : Option Nat) (o : Op) {R : Type} (k : AVal → AS → Option R) : Option R :=
  let d := dst.getD 0
  match o with
  | .store t a x => match look E.T t, s.ev a with
    | some u, .one c => match stSel c (s.ev x) with
      | .inn id i off e y j => aStoreInn s u id i off e y j (s.ev x) fun s => k (.one .und) s
      | .app id i off e y u' ys i2 => bif decide (u = .slice u') then (bif Nat.beq i i2 then aStoreApp s id i off e y u' ys fun s => k (.one .und) s else none) else none
      | .same id i _ _ _ i2 => bif Nat.beq u.size 1 then (bif Nat.beq i i2 then aStoreSame s id fun s => k (.one .und) s else none) else none
      | .plain => aStore E.mv s u c (s.ev x) fun s => k (.one .und) s
    | _, _ => none
  | .call c => match c.callee with
    | .builtin .append => match c.argTypes.toList, c.args.toList.map s.ev with
      | [st, st'], [.one a, .one x] => bif quietApp E s st a x then aQuiet E s d o k else bif Nat.beq st st' then (match growId E d a with
        | some id => aGrow E s d st id x k
        | none => match cutOf a x with
        | some (id, n, j, r) => aCut E s st id n j r k
        | none => match a with
        | .sb id i off e y => aAppSb E s d st id i off e y x k
        | a => aAppend E s d st a x k) else none
      | _, _ => none
    | .value f => match s.ev f with
      | .one (.cl g caps) => match lookG E.G g (c.args.toList.map s.ev) with
        | some C => bif boxShape C.ps then aCallB s d C c.args.toList caps k else aCall s d C c.args.toList caps k
        | none => bif caps.isEmpty then (match look E.sel g with | some D => aSel s d D c.args.toList k | none => match look E.del g with | some D => bif D.out.isSome then aMv E s g c.args.toList k else aDel E s g c.args.toList k | none => match look E.keepc g with | some K => aCallK s d K c.args.toList caps k | none => aIns E s g c.args.toList k) else none
      | _ => none
    | _ => aQuiet E s d o k
  | .binOp op t x y _ => bif isNilCmp E s op t x y then aNil s op x k else aQuiet E s d o k
  | .buildSlice t n ps => bif E.mv && canBuildMv s ps.toList then aBuildMv E s d t n ps.toList k else aQuiet E s d o k
  | .indexAddr st x i => match fzIdx E s d x with
    | some id => aQuiet E (s.frz id) d o k
    | none => match shLoad E s d x with
      | some s1 => aQuiet E s1 d o k
      | none => bif isIdxB E s st x i then aIdxB E s st x i k else aQuiet E s d o k
  | .index st x i => bif isIdxV E s st x i then aIdxV E s st x i k else aQuiet E s d o k
  | .load t x => match takeAt s x with
    | some (id, i) => aTake E s d t id i k
    | none => match shLoad E s d x with
      | some s1 => aQuiet E s1 d o k
      | none => aQuiet E s d o k
  | .slice st x none (some hi) none => bif E.trim.any (Nat.beq d) then aTrim E s st x hi k else aQuiet E s d o k
  | _ => aQuiet E s d o k
noncomputable def runQ (E : Env) : List Oper → AS → {R : Type} → (AS → Option R) → Option R
  | [], s, _, k => k s
  | o :: r, s, _, k => aOp E s o.dst o.op fun v s' => bif Nat.beq s'.t s.t then runQ E r (s'.put o.dst v) k else none
def pureOp : Op → Bool
  | .move _ => true
  | .slice _ _ _ _ none => true
  | _ => false
def isAppend : Op → Bool
  | .call c => match c.callee with
    | .builtin .append => true
    | _ => false
  | _ => false
def lateSplit : List Oper → Option (List Oper × Oper × List Oper)
  | [] => none
  | o :: r => bif isAppend o.op then (bif r.isEmpty || !(r.all fun q => pureOp q.op) then none else some ([], o, r))
    else match lateSplit r with
      | none => none
      | some p => some (o :: p.1, p.2.1, p.2.2)
def AS.less (s : AS) (id : Nat) : AS := { s with h := s.h.del id }
def clearB (h : AHeap) (d : Nat) : Bool := h.all fun p => !(Nat.ble (d * 16) p.1 && Nat.ble p.1 (d * 16 + 15))
def clearO (h : AHeap) (d : Option Nat) : Bool := match d with
  | some d => clearB h d
  | none => false
def sameId (o : Option Nat) (id : Nat) : Bool := match o with
  | some i => Nat.beq i id
  | none => false
def dstC (o : Oper) : Option Nat := match o.dst with
  | some d => some d
  | none => match o.op with
    | .store _ (.tmp t) _ => some (1000000 + t)
    | _ => none
def oC (o : Oper) : Oper := { o with dst := dstC o }
def asideId (E : Env) (o : Oper) : Option Nat := match o.op with
  | .store _ x _ => (match x with
    | .tmp t => look E.astore t
    | _ => none)
  | _ => match o.dst with
    | some d => look E.aside d
    | none => none
def isRead (E : Env) (o : Oper) : Bool := match o.dst with
  | some d => E.areads.any (Nat.beq d)
  | none => false
def mustOrd (E : Env) (p q : Oper) : Bool := ((asideId E p).isSome && ((asideId E q).isSome || isRead E q)) || (isRead E p && (asideId E q).isSome)
def stretchIds (E : Env) (l : List Oper) : List Nat := l.filterMap (asideId E)
def AS.lessL (s : AS) (V : List Nat) : AS := { s with h := s.h.filter fun p => !V.any (Nat.beq p.1) }
def isBoxAt (s : AS) (i : Nat) : Bool := match s.h.get i with
  | some (.box _) => true
  | _ => false
noncomputable def runC (E : Env) (V : List Nat) : List Oper → AS → {R : Type} → (AS → Option R) → Option R
  | [], s, _, k => k s
  | o :: r, s, _, k => match asideId E o with
    | some idc => match o.op with
      | .call c => match c.callee with
        | .value f => match s.ev f with
          | .one (.cl g caps) => match lookG E.G g (c.args.toList.map s.ev) with
            | some C => bif boxShape C.ps && (sameId (boxId (callVals s.ev c.args.toList caps)) idc && clearO s.h o.dst) then
                aCallB s (o.dst.getD 0) C c.args.toList caps fun v s2 => bif Nat.beq s2.t (s.t + 1) then runC E V r (s2.put o.dst v) k else none
              else none
            | none => none
          | _ => none
        | _ => none
      | .store t x y => match o.dst, look E.T t, s.ev x, s.h.get idc with
        | none, some u, .one (.op id off), some (.box cs) =>
          bif Nat.beq id idc && clearO s.h (dstC o) && ((s.ev y).solid && Nat.beq (s.ev y).cells.length u.size && Nat.ble (off + u.size) cs.length) then
            runC E V r ((s.upd idc (.box (splice cs off (s.ev y).cells))).put (dstC o) (.one .und)) k
          else none
        | _, _, _, _ => none
      | _ => none
    | none => bif isRead E o then aOp E s o.dst o.op fun v s' => bif Nat.beq s'.t s.t && clearO s.h o.dst then runC E V r (({ s with h := s'.h.take (s'.h.length - s.h.length) ++ s.h } : AS).put o.dst v) k else none
      else aOp E (s.lessL V) o.dst o.op fun v s' => bif Nat.beq s'.t s.t && clearO s.h o.dst then runC E V r (({ s with h := s'.h.take (s'.h.length - (s.lessL V).h.length) ++ s.h } : AS).put o.dst v) k else none
def allDst (l : List Oper) : Bool := l.all fun o => match o.dst with
  | some _ => true
  | none => false
noncomputable def runMany (E : Env) (l : List Oper) (s : AS) {R : Type} (k : AS → Option R) : Option R :=
  match stretchIds E l with
  | i :: V => bif (i :: V).all (isBoxAt s) then runC E (i :: V) l s k else none
  | [] =>
  bif allDst l then
  match lateSplit l with
  | none => runQ E l s k
  | some p => runQ E (p.1 ++ p.2.2) s fun s' => aOp E s' p.2.1.dst p.2.1.op fun v s2 => k (s2.put p.2.1.dst v)
  else none
noncomputable def runSeg (E : Env) (l : List Oper) (s : AS) {R : Type} (k : AS → Option R) : Option R :=
  match l with
  | [o] => aOp E s o.dst o.op fun v s' => k (s'.put o.dst v)
  | l => runMany E l s k
def gEq (a b : Nat × Bool) : Bool := Nat.beq a.1 b.1 && (a.2 == b.2)
def grpOk (ops : Array Oper) (g : Nat × Bool) : List Nat → List Oper → Bool
  | _, [] => true
  | seen, q :: r => (match q.guard with
    | none => false
    | some g' => gEq g g' || (match (ops[g'.1]?).bind (·.dst) with | some x => seen.any (Nat.beq x) | none => false)) &&
    grpOk ops g (match q.dst with | some x => x :: seen | none => seen) r
def gIn (act : List (Nat × Bool)) : Option (Nat × Bool) → Bool
  | none => true
  | some g => act.any (gEq g)
def segGuard : List Oper → Option (Nat × Bool)
  | [] => none
  | o :: _ => o.guard
def dstIs (x : Nat) (q : Oper) : Bool := match q.dst with
  | some d => Nat.beq d x
  | none => false
def AVal.bool? : AVal → Option Bool
  | .one (.pv .bool r) => some r
  | _ => none
def undAll (l : List Oper) (s : AS) : AS := l.foldl (fun s q => s.put q.dst (.one .und)) s
noncomputable def runOps (E : Env) (ops : Array Oper) : Nat → List (Nat × Bool) → List (List Oper) → AS → {R : Type} → (AS → Option R) → Option R
  | 0, _, _, _, _, _ => none
  | _ + 1, _, [], s, _, k => k s
  | n + 1, act, g0 :: rest, s, R, k =>
    match segGuard g0 with
    | none => runSeg E g0 s fun s' => runOps E ops n act rest s' k
    | some g =>
      bif gIn act (some g) then runSeg E g0 s fun s' => runOps E ops n act rest s' k
      else
        match (ops[g.1]?).bind (·.dst) with
        | none => none
        | some gd =>
        match s.ρ.getD gd (.one .und) with
        | .one (.pv .bool x) =>
          let grp := (g0 :: rest).takeWhile fun p => !gIn act (segGuard p)
          match (g0 :: rest).dropWhile fun p => !gIn act (segGuard p) with
          | [p] :: after => match p.op with
            | .pick (.tmp c) a b =>
              bif !(Nat.beq c gd) || grp.flatten.any (dstIs gd) || !grpOk ops g [] grp.flatten then none else
              bif E.forks.any (Nat.beq gd) then
                let s1 := undAll grp.flatten s
                let run : Option R := runOps E ops n (g :: act) grp s fun s' => (AVal.bool? (s'.ev (bif g.2 then a else b))).bind fun r => runOps E ops n act after (s'.put p.dst (.one (.pv .bool r))) k
                let out : Option R := (AVal.bool? (s1.ev (bif g.2 then b else a))).bind fun r => runOps E ops n act after (s1.put p.dst (.one (.pv .bool r))) k
                bif x then (bif g.2 then run else out) else (bif g.2 then out else run)
              else
              let inn : AS → Option Bool := fun s' => bif !(Nat.beq s'.t s.t) then none else AVal.bool? (s'.ev (bif g.2 then a else b))
              let s1 := undAll grp.flatten s
              let out : Option Bool := AVal.bool? (s1.ev (bif g.2 then b else a))
              (bif x then (bif g.2 then runOps E ops n (g :: act) grp s inn else out) else (bif g.2 then out else runOps E ops n (g :: act) grp s inn)).bind fun r =>
                runOps E ops n act after (s1.put p.dst (.one (.pv .bool r))) k
            | _ => none
          | _ => none
        | _ => none
def key : Code → Nat
  | .region id _ _ => id
  | .seq a _ => key a
  | .cond _ a _ => key a
  | .block _ c => key c
  | .loop c => key c
  | _ => 1000000
def nodupB : List Nat → Bool
  | [] => true
  | i :: r => !r.any (Nat.beq i) && nodupB r
def ancOf (A : List Nat) (o : Oper) : Nat := o.after.toList.foldl (fun m e => bif Region.binds .any e then m ||| 2 ^ e.on ||| A.getD e.on 0 else m) 0
def ancs : List Oper → List Nat → List Nat
  | [], A => A
  | o :: r, A => ancs r (A ++ [ancOf A o])
def barAt (A : List Nat) (i : Nat) : Bool := (A.drop i).all fun m => Nat.beq (m &&& (2 ^ i - 1)) (2 ^ i - 1)
def segsFrom (A : List Nat) : Nat → List Oper → List Oper → List (List Oper)
  | _, [], acc => bif acc.isEmpty then [] else [acc]
  | i, o :: r, acc => bif !acc.isEmpty && barAt A i then acc :: segsFrom A (i + 1) r [o] else segsFrom A (i + 1) r (acc ++ [o])
def tmpsIn (o : Oper) : List Nat := o.op.operands.toList.filterMap fun | .tmp t => some t | _ => none
def dstNot (o : Oper) (l : List Nat) : Bool := match o.dst with
  | some d => !l.any (Nat.beq d)
  | none => true
def noWar : List Oper → Bool
  | [] => true
  | o :: r => (o :: r).all (fun q => dstNot q (tmpsIn o)) && noWar r
def lateOk (A : List Nat) (i : Nat) : Option (List Oper × Oper × List Oper) → Bool
  | none => true
  | some p => (List.range p.1.length).all (fun j => Nat.testBit (A.getD (i + p.1.length) 0) (i + j)) &&
    (p.2.2.all fun q => dstNot p.2.1 (tmpsIn q) && dstNot q (tmpsIn p.2.1)) && noWar p.2.2
def segOk (A : List Nat) (i : Nat) (l : List Oper) : Bool :=
  match l with
  | [_] => true
  | l => lateOk A i (lateSplit l) && (nodupB (l.filterMap (·.dst)) && l.zipIdx.all fun p =>
    (match segGuard l, p.1.guard with | none, none => true | some g, some g' => gEq g g' | _, _ => false) &&
    l.zipIdx.all fun q => match q.1.dst with
      | none => true
      | some t => !(tmpsIn p.1).any (Nat.beq t) || (bif Nat.blt q.2 p.2 then Nat.testBit (A.getD (i + p.2) 0) (i + q.2) else bif Nat.blt p.2 q.2 then Nat.testBit (A.getD (i + q.2) 0) (i + p.2) else true))
def segsOk (A : List Nat) : Nat → List (List Oper) → Bool
  | _, [] => true
  | i, l :: r => !l.isEmpty && segOk A i l && barAt A (i + l.length) && segsOk A (i + l.length) r
def ancOk (A : List Nat) (ops : List Oper) : Bool := Nat.beq A.length ops.length && ops.zipIdx.all fun p => Nat.beq (A.getD p.2 0) (ancOf A p.1) && p.1.after.toList.all fun e => !Region.binds .any e || Nat.blt e.on p.2
def regSegs (ops : List Oper) : Option (List (List Oper)) :=
  let A := ancs ops []
  let l := segsFrom A 0 ops []
  bif ancOk A ops && segsOk A 0 l then some l else none
def chainOk (E : Env) (A : List Nat) (i : Nat) (l : List Oper) : Bool :=
  nodupB ((l.map oC).filterMap (·.dst)) && (l.all fun o => (tmpsIn o).all fun t => Nat.blt t 1000000) &&
  l.zipIdx.all fun p => l.zipIdx.all fun q => !(Nat.blt p.2 q.2) || (!mustOrd E p.1 q.1 || Nat.testBit (A.getD (i + q.2) 0) (i + p.2))
def asideAll (E : Env) (A : List Nat) : Nat → List (List Oper) → Bool
  | _, [] => true
  | i, l :: r => (match stretchIds E l with | _ :: _ => chainOk E A i l | [] => true) && asideAll E A (i + l.length) r
def regSegsE (E : Env) (ops : List Oper) : Option (List (List Oper)) :=
  match regSegs ops with
  | some l => bif asideAll E (ancs ops []) 0 l then some l else none
  | none => none
def dstsOf : Code → List Nat
  | .region _ ops _ => ops.toList.filterMap (·.dst)
  | .seq a b => dstsOf a ++ dstsOf b
  | .cond _ a b => dstsOf a ++ dstsOf b
  | .block _ c => dstsOf c
  | .loop c => dstsOf c
  | _ => []
def keepOk (keep : List Nat) (c : Code) : Bool := let l := dstsOf c; keep.all fun i => !l.any (Nat.beq i)
def CK.ids : List CK → List Nat
  | [] => []
  | .own id _ _ :: r => id :: CK.ids r
  | _ :: r => CK.ids r
def LItem.ids : List LItem → List Nat
  | [] => []
  | .tv _ _ :: r => LItem.ids r
  | .own _ _ id _ _ :: r => id :: LItem.ids r
  | .bx _ id cks :: r => id :: (CK.ids cks ++ LItem.ids r)
  | .src _ id _ :: r => id :: LItem.ids r
def Cut.ok (c : Cut) : Bool := nodupB (LItem.ids c.live) && c.outs.all fun p => nodupB (LItem.ids p.2)
def freeOp : Op → Bool
  | .move _ => true
  | .binOp .add _ _ _ _ => true
  | .binOp .sub _ _ _ _ => true
  | .nilCheck _ => true
  | .fieldAddr _ _ _ => true
  | _ => false
def notPc : AVal → Bool
  | .one (.pc _ _) => false
  | _ => true
def freeV : Op → AVal → Bool
  | .fieldAddr _ _ _, v => notPc v
  | _, _ => true
def isExtract : Op → Bool
  | .extract _ _ => true
  | _ => false
def edgeOps (ops : Array Oper) (j k : Nat) : Array Oper := ops.mapIdx fun i o => bif Nat.beq i k then { o with after := o.after.push ⟨j, .data⟩ } else o
def predsFrom : List Edge → Array Bool → Array Bool
  | [], l => l
  | e :: r, l => predsFrom r (bif Region.binds .any e then l.setIfInBounds e.on true else l)
def edgeOk (ops : Array Oper) (j k : Nat) : Bool := Region.noSelect ops && match ops[j]?, ops[k]? with
  | some oj, some o => !Nat.beq j k && (isExtract oj.op && (oj.guard.isNone && ((oj.after.toList.all fun e => !Region.binds .any e || o.after.toList.any fun f => Region.binds .any f && Nat.beq f.on e.on) && Region.free .any ops (predsFrom oj.after.toList (Array.replicate ops.size false)) j)))
  | _, _ => false
def swapsOps (ops : Array Oper) : List (Nat × Nat) → Array Oper
  | [] => ops
  | (j, k) :: r => bif edgeOk ops j k then swapsOps (edgeOps ops j k) r else ops
def sops (E : Env) (id : Nat) (ops : Array Oper) : Array Oper := match look E.swaps id with
  | some l => swapsOps ops l
  | none => ops
def addEdges (ops : Array Oper) (l : List Nat) : Array Oper :=
  ops.mapIdx fun k o => bif l.any (Nat.beq k) then o else { o with after := o.after ++ ((l.filter fun j => Nat.blt j k).map fun j => (⟨j, .data⟩ : Edge)).toArray }
def hoistRun (E : Env) (ops : Array Oper) : List Nat → AS → Array Bool → Bool
  | [], _, _ => true
  | j :: r, s, listed => match ops[j]? with
    | some o => freeOp o.op && (o.guard.isNone && (Region.free .any ops listed j && ((Region.ready .any ops listed).contains j &&
        (match aQ E s.ev s.h.get (o.dst.getD 0) o.op with
          | .ok v [] => freeV o.op v && hoistRun E ops r (s.put o.dst v) (listed.setIfInBounds j true)
          | _ => false))))
    | none => false
def hops (E : Env) (s : AS) (id : Nat) (ops : Array Oper) : Array Oper :=
  match look E.hoist id with
    | some l => bif Nat.ble l.length ops.size && (Region.noSelect ops && hoistRun E ops l s (Array.replicate ops.size false)) then addEdges ops l else ops
    | none => ops
def rops (E : Env) (s : AS) (id : Nat) (ops : Array Oper) (draw : Bool) : Array Oper :=
  bif draw then hops E s id (sops E id ops) else ops
def presA (E : Env) (s : AS) (id : Nat) : AS := match look E.pre id with
  | some l => s.frzAll l
  | none => s
def pres (E : Env) (s : AS) (id : Nat) : AS := match look E.preb id with
  | some l => (presA E s id).frzBs l
  | none => presA E s id
def lendS (s : AS) (l : List (Nat × Ty)) : AS := { ρ := (s.frzBs l).ρ.map fun v => bif v.noRef then v else .one .und, h := [], t := 0 }
def AVal.scalar : AVal → AVal
  | .one (.pv t x) => bif t.leads then .one .und else .one (.pv t x)
  | _ => .one .und
def mergeL (ds : List Nat) : Nat → List AVal → List AVal → List AVal
  | _, [], _ => []
  | i, v :: vs, us => (bif ds.any (Nat.beq i) then (us.headD (.one .und)).scalar else v) :: mergeL ds (i + 1) vs us.tail
noncomputable def aReg (E : Env) (s : AS) (id : Nat) (ops : Array Oper) (draw : Bool) {R : Type} (k : AS → Option R) : Option R :=
  match (bif draw then regSegsE E (rops E s id ops draw).toList else some ((rops E s id ops draw).toList.map fun o => [o])) with
    | some l => runOps E (rops E s id ops draw) (2 * (rops E s id ops draw).size + 1) [] l s k
    | none => none
noncomputable def evAll : List Nat → {R : Type} → (Nat → Option R) → Option R
  | [], _, _ => none
  | [i], _, f => f i
  | i :: r, _, f => bothSame (f i) (evAll r f)
def firstOp (ev : Operand → AVal) : Op → Bool
  | .move _ => true
  | .fieldAddr _ x _ => match ev x with
    | .one (.pc _ _) => true
    | .one (.op _ _) => true
    | _ => false
  | .nilCheck x => match ev x with
    | .one (.pc _ _) => true
    | .one (.op _ _) => true
    | _ => false
  | .load _ x => match ev x with
    | .one (.pc _ _) => true
    | _ => false
  | .slice _ x _ _ none => match ev x with
    | .one (.pv (.slice _) _) => true
    | _ => false
  | _ => false
def firstE (E : Env) (ops : Array Oper) (listed : Array Bool) (s : AS) (i : Nat) : Bool := match ops[i]? with
  | some o => o.guard.isNone && (Region.noSelect ops && (Region.free .any ops listed i && firstOp ((s.fresh (o.dst.getD 0)).frzAll (gives E (s.fresh (o.dst.getD 0)) (o.dst.getD 0) o.op)).ev o.op))
  | none => false
noncomputable def runEv (E : Env) (ops : Array Oper) : Nat → Array Bool → AS → {R : Type} → (AS → Option R) → Option R
  | 0, listed, s, _, k => bif (Region.ready .any ops listed).isEmpty then k s else none
  | n + 1, listed, s, _, k => match Region.ready .any ops listed with
    | [] => k s
    | i :: r => match (i :: r).find? (firstE E ops listed s) with
      | some j => (match ops[j]? with
        | some o => aQuiet E s (o.dst.getD 0) o.op (fun v s' => runEv E ops n (listed.setIfInBounds j true) (s'.put o.dst v) k)
        | none => none)
      | none => evAll (i :: r) fun i => match ops[i]? with
        | some o => bif o.guard.isNone then aOp E s o.dst o.op (fun v s' => runEv E ops n (listed.setIfInBounds i true) (s'.put o.dst v) k) else none
        | none => none
noncomputable def aexec (E : Env) : Code → AS → {R : Type} → (AExit → AS → Option R) → Option R
  | .skip, s, _, k => k .normal s
  | .region id ops draw, s, _, k => match look E.lend id with
    | some l => aReg E (lendS (pres E s id) l) id ops draw fun s' => k .normal { ρ := mergeL (ops.toList.filterMap (·.dst)) 0 (pres E s id).ρ s'.ρ, h := (pres E s id).h, t := (pres E s id).t }
    | none => bif draw && E.every.any (Nat.beq id) then runEv E ops ops.size (Array.replicate ops.size false) (pres E s id) (k .normal) else aReg E (pres E s id) id ops draw (k .normal)
  | .seq a b, s, _, k =>
    match look E.joins (key b) with
    | none => aexec E a s fun e s' => match e with
      | .normal => aexec E b s' k
      | e => k e s'
    | some c => bif !(keepOk c.keep a && c.ok) then none else (aexec E a s fun e s' => toOut s' e c.outs).bind fun o =>
      fromOut c.keep s (fun e s' => match e with
        | .normal => aexec E b s' k
        | e => k e s') c.outs o
  | .cond c a b, s, _, k => match s.ev c with
    | .one (.pv .bool x) => bif x then aexec E a s k else aexec E b s k
    | _ => none
  | .block id c, s, _, k => aexec E c s fun e s' => k (bif AExit.same e (.exit id) then .normal else e) s'
  | .loop c, s, _, k =>
    match look E.loops (key c) with
    | none => none
    | some cut => bif !(keepOk cut.keep c && cut.ok) then none else (unL s.ρ cut.live s.h).bind fun t0 =>
      (loopE (fun t => aexec E c (mkL cut.keep cut.live s t) fun e s' => match e with
        | .normal => (unL s'.ρ cut.live s'.h).bind fun t' => some (Sum.inl t')
        | e => (toOut s' e cut.outs).bind fun o => some (Sum.inr o)) t0).bind fun o => fromOut cut.keep s k cut.outs o
  | .exit id, s, _, k => k (.exit id) s
  | .ret, s, _, k => k .ret s
  | _, _, _, _ => none
def initVals : (ps : List PK) → dens (PK.tys ps) → Nat → List AVal × AHeap
  | [], _, _ => ([], [])
  | .val t :: ps, x, i => match initVals ps (tailD x) (i + 1) with
    | (vs, h) => (ofDen t (headD x) :: vs, h)
  | .rp t :: ps, x, i => match initVals ps (tailD x) (i + 1) with
    | (vs, h) => (.one (.pc t (headD x)) :: vs, h)
  | .fn g ts :: ps, x, i => match initVals ps (tailD x) (i + 1) with
    | (vs, h) => (.one (.cl g (capsOf ts (headD x))) :: vs, h)
  | .own t :: ps, x, i => match initVals ps (tailD x) (i + 1), mutCells (100000 + 16 * i) t (headD x) with
    | (vs, h), (cs, g, _) => (valOf t.isAgg cs :: vs, g ++ h)
  | .mbox t :: ps, x, i => match initVals ps (tailD x) (i + 1) with
    | (vs, h) => (.one (.op (100000 + 16 * i) 0) :: vs, (100000 + 16 * i, .box (flat t (headD x))) :: h)
  | .obox t :: ps, x, i => match initVals ps (tailD x) (i + 1), mutCells (100000 + 16 * i + 1) t (headD x) with
    | (vs, h), (cs, g, _) => (.one (.op (100000 + 16 * i) 0) :: vs, (100000 + 16 * i, .box cs) :: g ++ h)
def mutBack (h : AHeap) (base : Nat) : (t : Ty) → t.den → Option (t.den × Nat)
  | .unit, _ => some ((), base)
  | .pair a b, x => (mutBack h base a x.1).bind fun p => (mutBack h p.2 b x.2).bind fun q => some ((p.1, q.1), q.2)
  | .slice t, _ => match h.get base with
    | some (.arr true e xs) => (cast? (t := .slice e) (.slice t) xs).bind fun y => some (y, base + 1)
    | _ => none
  | .bool, x => some (x, base)
  | .int _, x => some (x, base)
  | .str, x => some (x, base)
  | .raw, x => some (x, base)
def finMuts : (ps : List PK) → dens (PK.tys ps) → Nat → AHeap → (ts : List Ty) → dens ts → Option (dens (PK.mtys ps ts))
  | [], _, _, _, _, y => some y
  | .val _ :: ps, x, i, h, ts, y => finMuts ps (tailD x) (i + 1) h ts y
  | .rp _ :: ps, x, i, h, ts, y => finMuts ps (tailD x) (i + 1) h ts y
  | .fn _ _ :: ps, x, i, h, ts, y => finMuts ps (tailD x) (i + 1) h ts y
  | .own t :: ps, x, i, h, ts, y => (mutBack h (100000 + 16 * i) t (headD x)).bind fun p => (finMuts ps (tailD x) (i + 1) h ts y).bind fun z => some (consD p.1 z)
  | .mbox t :: ps, x, i, h, ts, y => match h.get (100000 + 16 * i) with
    | some (.box cs) => bif Nat.beq cs.length t.size && (idsOf cs).isEmpty then (gatherG (fun _ => none) t cs).bind fun v => (finMuts ps (tailD x) (i + 1) h ts y).bind fun z => some (consD v z) else none
    | _ => none
  | .obox t :: ps, x, i, h, ts, y => match h.get (100000 + 16 * i) with
    | some (.box cs) => bif Nat.beq cs.length t.size && deepIn (h.del (100000 + 16 * i)) cs then (gather h t cs).bind fun v => (finMuts ps (tailD x) (i + 1) h ts y).bind fun z => some (consD v z) else none
    | _ => none
def delMuts : List PK → Nat → AHeap → AHeap
  | [], _, h => h
  | .val _ :: ps, i, h => delMuts ps (i + 1) h
  | .rp _ :: ps, i, h => delMuts ps (i + 1) h
  | .fn _ _ :: ps, i, h => delMuts ps (i + 1) h
  | .obox _ :: ps, i, h => delMuts ps (i + 1) ((match h.get (100000 + 16 * i) with
    | some (.box cs) => osIn cs
    | _ => []).foldl AHeap.del (h.filter fun p => !(Nat.ble (100000 + 16 * i) p.1 && Nat.ble p.1 (100000 + 16 * i + 15))))
  | _ :: ps, i, h => delMuts ps (i + 1) (h.filter fun p => !(Nat.ble (100000 + 16 * i) p.1 && Nat.ble p.1 (100000 + 16 * i + 15)))
def pcTo (t : Ty) : AVal → Option t.den
  | .one (.pc _ x) => cast? t x
  | _ => none
def shTo (h : AHeap) (t : Ty) : AVal → Option (List t.den × AHeap)
  | .one .nils => some ([], h)
  | .one (.os j) => match h.get j with
    | some (.arr false e xs) => (cast? (t := .slice e) (.slice t) xs).bind fun x => some (x, h.del j)
    | _ => none
  | _ => none
def finRes : AHeap → (rs : List RK) → List AVal → Option (dens (RK.tys rs))
  | _, [], [] => some ()
  | _, [], _ :: _ => none
  | h, .val t :: rs, v :: vs => bif v.fits t then (takeVal h t v.cells).bind fun p => (finRes p.2 rs vs).bind fun y => some (consD p.1 y) else none
  | h, .own t :: rs, v :: vs => bif v.fits t && deepIn h v.cells then (takeVal h t v.cells).bind fun p => (finRes p.2 rs vs).bind fun y => some (consD p.1 y) else none
  | h, .rp t :: rs, v :: vs => (pcTo t v).bind fun x => (finRes h rs vs).bind fun y => some (consD x y)
  | h, .sh t :: rs, v :: vs => (shTo h t v).bind fun p => (finRes p.2 rs vs).bind fun y => some (consD (t := .slice t) p.1 y)
  | h, .ob t :: rs, v :: vs => match v with
    | .one (.op j 0) => match h.get j with
      | some (.box cs) => bif Nat.beq cs.length t.size && deepIn (h.del j) cs then (takeVal (h.del j) t cs).bind fun p => (finRes p.2 rs vs).bind fun y => some (consD p.1 y) else none
      | _ => none
    | _ => none
  | _, _ :: _, [] => none
def resOf (E : Env) (s : AS) : ResultVar → AVal
  | .tmp t => s.ρ.getD t (.one .und)
  | .cell a t => match look E.T t, s.ρ.getD a (.one .und) with
    | some u, .one (.op id off) => match s.h.get id with
      | some (.box cs) => bif Nat.ble (off + u.size) cs.length then valOf u.isAgg ((cs.drop off).take u.size) else .one .und
      | _ => .one .und
    | _, _ => .one .und
def sameOs : List ACell → List ACell → Bool
  | [], [] => true
  | c :: cs, .os id :: ds => (match c with | .os j => Nat.beq j id | _ => false) && sameOs cs ds
  | _ :: cs, _ :: ds => sameOs cs ds
  | _, _ => false
def ownOk : (ps : List PK) → dens (PK.tys ps) → Code → AS → Bool
  | .own t :: _, x, c, s => !(dstsOf c).any (Nat.beq 0) && (s.ρ.getD 0 (.one .und)).fits t && sameOs (s.ρ.getD 0 (.one .und)).cells (mutCells 100000 t (headD x)).1
  | .mbox _ :: _, _, c, s => !(dstsOf c).any (Nat.beq 0) && (match s.ρ.getD 0 (.one .und) with | .one (.op id 0) => Nat.beq id 100000 | _ => false)
  | .obox _ :: _, _, c, s => !(dstsOf c).any (Nat.beq 0) && (match s.ρ.getD 0 (.one .und) with | .one (.op id 0) => Nat.beq id 100000 | _ => false)
  | _, _, _, _ => true
noncomputable def afun (E : Env) (fn : Func) (ps : List PK) (rs : List RK) (x : dens (PK.tys ps)) : Option (dens (PK.mtys ps (RK.tys rs))) :=
  match fn.body with
  | none => none
  | some c =>
    match initVals ps x 0 with
    | (vs, h) =>
    aexec E c { ρ := vs ++ List.replicate (fn.ntmps - vs.length) (.one .und), h, t := 0 } fun e s =>
      bif (AExit.same e .ret || AExit.same e .normal) && ownOk ps x c s then
        (finRes (delMuts ps 0 s.h) rs (fn.results.toList.map (resOf E s))).bind fun y => finMuts ps x 0 s.h _ y
      else none
end Go.Ab
namespace Go.Ab
open Go Go.RowKit
abbrev Blk := Nat → Prop
abbrev wfI (k : IntKind) (x : Int) : Prop := (Lit.int k x).wf = true
def ReadsAt (w : World) (b o : Nat) (ds : List Value) : Prop := ∀ j v, ds[j]? = some v → w.cell? ⟨b, o + j, none⟩ = some v
def Rep (S : Blk) (w : World) : (t : Ty) → List Value → t.den → Prop
  | .unit, cs, _ => cs = []
  | .bool, cs, x => cs = [.bool x]
  | .int k, cs, x => cs = [.int k x] ∧ wfI k x
  | .str, cs, x => cs = [.string ⟨⟨x⟩⟩] ∧ x.length ≤ maxLen
  | .raw, cs, x => cs = [x] ∧ x.oneCell' = true
  | .slice t, cs, x => x.length ≤ maxLen ∧ ((cs = [.slice none 0 0] ∧ x = []) ∨
      ∃ (a : Addr) (cap : Nat), cs = [.slice (some a) x.length cap] ∧ (x.length ≤ cap ∧ cap ≤ maxLen) ∧ (x = [] ∨ (a.spot = none ∧ S a.block ∧ a.block < w.heap.size)) ∧
        ∀ i e, x[i]? = some e → ∃ ds, ds.length = t.size ∧ ReadsAt w a.block (a.off + i * t.size) ds ∧ Rep S w t ds e)
  | .pair a b, cs, x => ∃ c d, cs = c ++ d ∧ Rep S w a c x.1 ∧ Rep S w b d x.2
theorem Rep.len {S : Blk} {w : World} : {t : Ty} → {cs : List Value} → {x : t.den} → Rep S w t cs x → cs.length = t.size
  | .unit, _, _, h => by simp [Rep] at h; simp [h, Ty.size]
  | .bool, _, _, h => by simp [Rep] at h; simp [h, Ty.size]
  | .int _, _, _, h => by simp [Rep] at h; simp [h.1, Ty.size]
  | .str, _, _, h => by simp [Rep] at h; simp [h.1, Ty.size]
  | .raw, _, _, h => by simp [Rep] at h; simp [h.1, Ty.size]
  | .slice _, _, _, h => by
    obtain ⟨_, ⟨h, _⟩ | ⟨_, _, h, _⟩⟩ := h <;> simp [h, Ty.size]
  | .pair _ _, _, _, h => by
    obtain ⟨c, d, rfl, h1, h2⟩ := h
    simp [Ty.size, Rep.len h1, Rep.len h2]
theorem ReadsAt.mono {w w' : World} {b o : Nat} {ds : List Value} (h : ReadsAt w b o ds) (hb : w'.heap[b]? = w.heap[b]?) : ReadsAt w' b o ds :=
  fun j v hj => (World.cell?_of_block (w := w) (w' := w') (a := ⟨b, o + j, none⟩) hb).trans (h j v hj)
theorem Rep.mono {S S' : Blk} {w w' : World} (hS : ∀ b, S b → S' b) (hw : ∀ b, S b → w'.heap[b]? = w.heap[b]?) (hz : w.heap.size ≤ w'.heap.size) :
    {t : Ty} → {cs : List Value} → {x : t.den} → Rep S w t cs x → Rep S' w' t cs x
  | .unit, _, _, h => h
  | .bool, _, _, h => h
  | .int _, _, _, h => h
  | .str, _, _, h => h
  | .raw, _, _, h => h
  | .slice _, _, _, h => by
    obtain ⟨hl, h | ⟨a, cap, h, hc, hb, he⟩⟩ := h
    · exact ⟨hl, .inl h⟩
    · refine ⟨hl, .inr ⟨a, cap, h, hc, hb.imp id fun hb => ⟨hb.1, hS _ hb.2.1, Nat.lt_of_lt_of_le hb.2.2 hz⟩, fun i e hi => ?_⟩⟩
      obtain ⟨ds, h1, h2, h3⟩ := he i e hi
      have hb := hb.resolve_left fun h0 => by rw [h0] at hi; simp at hi
      exact ⟨ds, h1, h2.mono (hw _ hb.2.1), Rep.mono hS hw hz h3⟩
  | .pair _ _, _, _, h => by
    obtain ⟨c, d, e, h1, h2⟩ := h
    exact ⟨c, d, e, Rep.mono hS hw hz h1, Rep.mono hS hw hz h2⟩
def ArrOf {α : Type} (w : World) (sz : Nat) (El : List Value → α → Blk → Prop) (v : Value) (xs : List α) (F : Blk) : Prop :=
  ((∃ o : Option Addr, v = .slice o 0 0) ∧ xs = [] ∧ ∀ b, ¬ F b) ∨
  ∃ (g cap : Nat) (cur : Array Value) (e : TypeId) (Fs : Nat → Blk), v = .slice (some ⟨g, 0, none⟩) xs.length cap ∧ w.heap[g]? = some (.cells cur e (0, 0)) ∧ cur.size = cap * sz ∧ xs.length ≤ cap ∧ cap ≤ maxLen ∧
    (∀ i x, xs[i]? = some x → El ((cur.toList.drop (i * sz)).take sz) x (Fs i)) ∧
    (∀ i j b, i < xs.length → j < xs.length → Fs i b → Fs j b → i = j) ∧ (∀ i, i < xs.length → ¬ Fs i g) ∧
    (∀ b, F b ↔ b = g ∨ ∃ i, i < xs.length ∧ Fs i b)
def Own (w : World) : (t : Ty) → List Value → t.den → Blk → Prop
  | .unit, cs, _, F => cs = [] ∧ ∀ b, ¬ F b
  | .bool, cs, x, F => cs = [.bool x] ∧ ∀ b, ¬ F b
  | .int k, cs, x, F => (cs = [.int k x] ∧ wfI k x) ∧ ∀ b, ¬ F b
  | .str, cs, x, F => (cs = [.string ⟨⟨x⟩⟩] ∧ x.length ≤ maxLen) ∧ ∀ b, ¬ F b
  | .raw, cs, x, F => (cs = [x] ∧ x.oneCell' = true) ∧ ∀ b, ¬ F b
  | .slice t, cs, x, F => ∃ v, cs = [v] ∧ ArrOf w t.size (fun ds y G => Own w t ds y G) v x F
  | .pair a b, cs, x, F => ∃ c d G H, cs = c ++ d ∧ Own w a c x.1 G ∧ Own w b d x.2 H ∧ (∀ q, G q → H q → False) ∧ ∀ q, F q ↔ G q ∨ H q
def El (S : Blk) (w : World) (deep : Bool) (t : Ty) (cs : List Value) (x : t.den) (F : Blk) : Prop :=
  match deep with
  | true => Own w t cs x F
  | false => Rep S w t cs x ∧ ∀ b, ¬ F b
def ArrRel (S : Blk) (w : World) (deep : Bool) (t : Ty) (v : Value) (xs : List t.den) (F : Blk) : Prop := ArrOf w t.size (fun ds y G => El S w deep t ds y G) v xs F
theorem ArrOf.imp {α : Type} {w w' : World} {sz : Nat} {El El' : List Value → α → Blk → Prop} {v : Value} {xs : List α} {F : Blk} (h : ArrOf w sz El v xs F)
    (hw : ∀ b, F b → w'.heap[b]? = w.heap[b]?) (hE : ∀ ds x G, (∀ b, G b → F b) → El ds x G → El' ds x G) : ArrOf w' sz El' v xs F := by
  rcases h with h | ⟨g, cap, cur, e, Fs, h1, h2, h3, h4, h5, h6, h7, h8, h9⟩
  · exact .inl h
  · refine .inr ⟨g, cap, cur, e, Fs, h1, (hw g ((h9 g).2 (.inl rfl))).trans h2, h3, h4, h5, fun i x hi => ?_, h7, h8, h9⟩
    have hlt : i < xs.length := (List.getElem?_eq_some_iff.1 hi).1
    exact hE _ _ _ (fun b hb => (h9 b).2 (.inr ⟨i, hlt, hb⟩)) (h6 i x hi)
theorem Own.mono {w w' : World} : {t : Ty} → {cs : List Value} → {x : t.den} → {F : Blk} → (hw : ∀ b, F b → w'.heap[b]? = w.heap[b]?) → Own w t cs x F → Own w' t cs x F
  | .unit, _, _, _, _, h => h
  | .bool, _, _, _, _, h => h
  | .int _, _, _, _, _, h => h
  | .str, _, _, _, _, h => h
  | .raw, _, _, _, _, h => h
  | .slice _, _, _, _, hw, h => by
    obtain ⟨v, e, h⟩ := h
    exact ⟨v, e, h.imp hw fun ds x G hG ho => Own.mono (fun b hb => hw b (hG b hb)) ho⟩
  | .pair _ _, _, _, _, hw, h => by
    obtain ⟨c, d, G, H, e, h1, h2, h3, h4⟩ := h
    exact ⟨c, d, G, H, e, Own.mono (fun b hb => hw b ((h4 b).2 (.inl hb))) h1, Own.mono (fun b hb => hw b ((h4 b).2 (.inr hb))) h2, h3, h4⟩
theorem Own.len {w : World} : {t : Ty} → {cs : List Value} → {x : t.den} → {F : Blk} → Own w t cs x F → cs.length = t.size
  | .unit, _, _, _, h => by simp [Own] at h; simp [h.1, Ty.size]
  | .bool, _, _, _, h => by simp [Own] at h; simp [h.1, Ty.size]
  | .int _, _, _, _, h => by simp [Own] at h; simp [h.1.1, Ty.size]
  | .str, _, _, _, h => by simp [Own] at h; simp [h.1.1, Ty.size]
  | .raw, _, _, _, h => by simp [Own] at h; simp [h.1.1, Ty.size]
  | .slice _, _, _, _, h => by obtain ⟨v, e, _⟩ := h; simp [e, Ty.size]
  | .pair _ _, _, _, _, h => by
    obtain ⟨c, d, G, H, rfl, h1, h2, _⟩ := h
    simp [Ty.size, Own.len h1, Own.len h2]
theorem lt_of_heap {w : World} {g : Nat} {o : Obj} (h : w.heap[g]? = some o) : g < w.heap.size := (Array.getElem?_eq_some_iff.1 h).1
theorem Own.lt {w : World} : {t : Ty} → {cs : List Value} → {x : t.den} → {F : Blk} → Own w t cs x F → ∀ b, F b → b < w.heap.size
  | .unit, _, _, _, h, b, hb => (h.2 b hb).elim
  | .bool, _, _, _, h, b, hb => (h.2 b hb).elim
  | .int _, _, _, _, h, b, hb => (h.2 b hb).elim
  | .str, _, _, _, h, b, hb => (h.2 b hb).elim
  | .raw, _, _, _, h, b, hb => (h.2 b hb).elim
  | .slice _, _, xs, _, h, b, hb => by
    obtain ⟨v, _, h⟩ := h
    rcases h with ⟨_, _, h⟩ | ⟨g, cap, cur, e, Fs, h1, h2, h3, h4, h5, h6, h7, h8, h9⟩
    · exact (h b hb).elim
    · rcases (h9 b).1 hb with rfl | ⟨i, hi, hF⟩
      · exact lt_of_heap h2
      · exact Own.lt (h6 i xs[i] (by simp [hi])) b hF
  | .pair _ _, _, _, _, h, b, hb => by
    obtain ⟨c, d, G, H, e, h1, h2, h3, h4⟩ := h
    rcases (h4 b).1 hb with hb | hb
    · exact Own.lt h1 b hb
    · exact Own.lt h2 b hb
theorem reads_of_cells {w : World} {g : Nat} {cur : Array Value} {e : TypeId} {f : Nat × Nat} (h : w.heap[g]? = some (.cells cur e f)) (o n : Nat) : ReadsAt w g o ((cur.toList.drop o).take n) := by
  intro j v hj
  simp only [World.cell?, h, Option.isSome_none, Bool.false_eq_true, if_false]
  rw [List.getElem?_take] at hj
  split at hj
  · rw [List.getElem?_drop] at hj
    simpa using hj
  · cases hj
theorem ArrOf.rep {S : Blk} {w : World} {t : Ty} {E : List Value → t.den → Blk → Prop} {v : Value} {xs : List t.den} {F : Blk} (h : ArrOf w t.size E v xs F) (hF : ∀ b, F b → S b)
    (hE : ∀ ds x G, (∀ b, G b → F b) → E ds x G → Rep S w t ds x) (hlen : ∀ ds x G, E ds x G → ds.length = t.size) : Rep S w (.slice t) [v] xs := by
  rcases h with ⟨⟨o, rfl⟩, rfl, _⟩ | ⟨g, cap, cur, e, Fs, rfl, h2, h3, h4, h5, h6, h7, h8, h9⟩
  · cases o with
    | none => exact ⟨by simp, .inl ⟨rfl, rfl⟩⟩
    | some a => exact ⟨by simp, .inr ⟨a, 0, rfl, ⟨Nat.le_refl _, Nat.zero_le _⟩, .inl rfl, fun i e h => by simp at h⟩⟩
  · refine ⟨by omega, .inr ⟨⟨g, 0, none⟩, cap, rfl, ⟨h4, h5⟩, .inr ⟨rfl, hF g ((h9 g).2 (.inl rfl)), lt_of_heap h2⟩, fun i x hi => ?_⟩⟩
    have hlt : i < xs.length := (List.getElem?_eq_some_iff.1 hi).1
    refine ⟨_, hlen _ _ _ (h6 i x hi), ?_, hE _ _ _ (fun b hb => (h9 b).2 (.inr ⟨i, hlt, hb⟩)) (h6 i x hi)⟩
    rw [Nat.zero_add]
    exact reads_of_cells h2 _ _
theorem Own.rep {S : Blk} {w : World} : {t : Ty} → {cs : List Value} → {x : t.den} → {F : Blk} → Own w t cs x F → (hF : ∀ b, F b → S b) → Rep S w t cs x
  | .unit, _, _, _, h, _ => h.1
  | .bool, _, _, _, h, _ => h.1
  | .int _, _, _, _, h, _ => h.1
  | .str, _, _, _, h, _ => h.1
  | .raw, _, _, _, h, _ => h.1
  | .slice _, _, _, _, h, hF => by
    obtain ⟨v, rfl, h⟩ := h
    exact ArrOf.rep h hF (fun ds x G hG ho => Own.rep ho fun b hb => hF b (hG b hb)) (fun _ _ _ ho => Own.len ho)
  | .pair _ _, _, _, _, h, hF => by
    obtain ⟨c, d, G, H, e, h1, h2, h3, h4⟩ := h
    exact ⟨c, d, e, Own.rep h1 fun b hb => hF b ((h4 b).2 (.inl hb)), Own.rep h2 fun b hb => hF b ((h4 b).2 (.inr hb))⟩
theorem El.mono {S S' : Blk} {w w' : World} {deep : Bool} {t : Ty} {cs : List Value} {x : t.den} {F : Blk} (h : El S w deep t cs x F) (hS : ∀ b, S b → S' b)
    (hw : ∀ b, S b → w'.heap[b]? = w.heap[b]?) (hF : ∀ b, F b → w'.heap[b]? = w.heap[b]?) (hz : w.heap.size ≤ w'.heap.size) : El S' w' deep t cs x F := by
  cases deep with
  | true => exact Own.mono hF h
  | false => exact ⟨Rep.mono hS hw hz h.1, h.2⟩
theorem El.len {S : Blk} {w : World} {deep : Bool} {t : Ty} {cs : List Value} {x : t.den} {F : Blk} (h : El S w deep t cs x F) : cs.length = t.size := by
  cases deep with
  | true => exact Own.len h
  | false => exact Rep.len h.1
theorem El.rep {S S' : Blk} {w : World} {deep : Bool} {t : Ty} {cs : List Value} {x : t.den} {F : Blk} (h : El S w deep t cs x F) (hS : ∀ b, S b → S' b) (hF : ∀ b, F b → S' b) : Rep S' w t cs x := by
  cases deep with
  | true => exact Own.rep h hF
  | false => exact Rep.mono hS (fun _ _ => rfl) (Nat.le_refl _) h.1
theorem ArrRel.mono {S S' : Blk} {w w' : World} {deep : Bool} {t : Ty} {v : Value} {xs : List t.den} {F : Blk} (h : ArrRel S w deep t v xs F) (hS : ∀ b, S b → S' b)
    (hw : ∀ b, S b → w'.heap[b]? = w.heap[b]?) (hF : ∀ b, F b → w'.heap[b]? = w.heap[b]?) (hz : w.heap.size ≤ w'.heap.size) : ArrRel S' w' deep t v xs F :=
  ArrOf.imp h hF fun _ _ _ hG ho => El.mono ho hS hw (fun b hb => hF b (hG b hb)) hz
theorem ArrRel.rep {S S' : Blk} {w : World} {deep : Bool} {t : Ty} {v : Value} {xs : List t.den} {F : Blk} (h : ArrRel S w deep t v xs F) (hS : ∀ b, S b → S' b) (hF : ∀ b, F b → S' b) : Rep S' w (.slice t) [v] xs :=
  ArrOf.rep h hF (fun _ _ _ hG ho => El.rep ho hS fun b hb => hF b (hG b hb)) (fun _ _ _ ho => El.len ho)
theorem ArrRel.lt {S : Blk} {w : World} {deep : Bool} {t : Ty} {v : Value} {xs : List t.den} {F : Blk} (h : ArrRel S w deep t v xs F) : ∀ b, F b → b < w.heap.size := by
  intro b hb
  rcases h with ⟨_, _, h⟩ | ⟨g, cap, cur, e, Fs, h1, h2, h3, h4, h5, h6, h7, h8, h9⟩
  · exact (h b hb).elim
  · rcases (h9 b).1 hb with rfl | ⟨i, hi, hF⟩
    · exact lt_of_heap h2
    · have := h6 i xs[i] (by simp [hi])
      cases deep with
      | true => exact Own.lt this b hF
      | false => exact (this.2 b hF).elim
theorem ArrRel.shallow {S S' : Blk} {w : World} {deep : Bool} {t : Ty} {v : Value} {xs : List t.den} {F : Blk} (h : ArrRel S w deep t v xs F) (hS : ∀ b, S b → S' b) (hF : ∀ b, F b → (∀ cap n g, v = .slice (some ⟨g, 0, none⟩) n cap → b ≠ g) → S' b) :
    ∃ F', (∀ b, F' b → F b) ∧ (∀ b, F' b → ∃ cap n g, v = .slice (some ⟨g, 0, none⟩) n cap ∧ b = g) ∧ (∀ b, F b → (∃ cap n g, v = .slice (some ⟨g, 0, none⟩) n cap ∧ b = g) → F' b) ∧ ArrRel S' w false t v xs F' := by
  rcases h with ⟨⟨o, rfl⟩, rfl, h⟩ | ⟨g, cap, cur, e, Fs, rfl, h2, h3, h4, h5, h6, h7, h8, h9⟩
  · exact ⟨fun _ => False, fun _ h => h.elim, fun _ h => h.elim, fun b hb _ => h b hb, .inl ⟨⟨o, rfl⟩, rfl, fun _ h => h⟩⟩
  · refine ⟨fun b => b = g, fun b hb => (h9 b).2 (.inl hb), fun b hb => ⟨cap, xs.length, g, rfl, hb⟩, fun b _ ⟨cap', n', g', hv, hb⟩ => by
    simp only [Value.slice.injEq, Option.some.injEq, Addr.mk.injEq] at hv
    obtain ⟨⟨rfl, _⟩, _⟩ := hv
    exact hb, .inr ⟨g, cap, cur, e, fun _ _ => False, rfl, h2, h3, h4, h5, fun i x hi => ⟨?_, fun _ h => h⟩, fun _ _ _ _ _ h => h.elim, fun _ _ h => h, fun b => by simp⟩⟩
    have hlt : i < xs.length := (List.getElem?_eq_some_iff.1 hi).1
    exact El.rep (h6 i x hi) hS fun b hb => hF b ((h9 b).2 (.inr ⟨i, hlt, hb⟩)) fun cap' n' g' hv hbg => by
      simp only [Value.slice.injEq, Option.some.injEq, Addr.mk.injEq] at hv
      obtain ⟨⟨rfl, _⟩, _⟩ := hv
      subst hbg
      exact h8 i hlt hb
end Go.Ab
