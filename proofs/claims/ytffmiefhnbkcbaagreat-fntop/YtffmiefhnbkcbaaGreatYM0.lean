/-
  The parts of a message: facts that are gone through one by one.
-/
import Derived.Test.YtffmiefhnbkcbaaGreatYD3
namespace Go.Proofs.YtffmiefhnbkcbaaGreat.Sh
open Go Go.Ab Go.Proofs
set_option maxRecDepth 100000
def sg (p : Nat) : List Int := [1 + (p : Int), 60 - (p : Int)]
def sigL (N : Nat) : List Int := (List.range N).flatMap sg
def pkt (N p : Nat) : GPacket := (7, (p : Int), (N : Int), sg p, ())
def entP (p : Nat) : GEntry := ((p : Int), 7, (p : Int), sg p, sg p, ())
def bentP (p : Nat) : GEntry := ((p : Int), 7, (p : Int), sg p, [60 - (p : Int), 60 - (p : Int)], ())
def logR (R : Nat) : List GEntry := (bitsN R).map entP
def bentR (R i : Nat) : List GEntry := (logR R).set i (bentP ((bitsN R).getD i 0))
def deskV (N a : Nat) : List GTicket := [(7, (N : Int), bitsL a, (bif decide ((bitsL a).length = N) then 1 else 0), ())]
theorem enum_sig : ((List.range 10).all fun N => decide ((sigL N).length = 2 * N) && ((sigL N).all fun x => inB x 1 60) && ((List.range N).all fun p => decide (sub (sigL N) (2 * (p : Int)) (2 * (p : Int) + 2) = some (sg p)))) = true := by kernel_rfl
theorem enum_line : ((List.range 512).all fun R => areLogs [logR R, logR R, logR R] && decide (lineV 0 [logR R, logR R, logR R] = [])) = true := by kernel_rfl
theorem enum_bent : ((List.range 512).all fun R => (List.range (bitsN R).length).all fun i => areLogs [logR R, bentR R i, logR R] && decide (lineV 0 [logR R, bentR R i, logR R] = [[7, (((bitsN R).getD i 0 : Nat) : Int), 5, 1], [7, (((bitsN R).getD i 0 : Nat) : Int), 2, 1]])) = true := by kernel_rfl
theorem enum_new : ((List.range 10).all fun N => decide (N = 0) || (decide (accept [] 7 (N : Int) = (deskV N 0, true)))) = true := by kernel_rfl
theorem enum_desk : ((List.range 10).all fun N => decide (N = 0) || ((List.range (2 ^ N)).all fun a => areTickets (deskV N a))) = true := by kernel_rfl
theorem enum_note : ((List.range 10).all fun N => (List.range (2 ^ N)).all fun a => (List.range N).all fun p => a.testBit p || decide (notedT (deskV N a) 7 (p : Int) = (deskV N (a ||| 2 ^ p), true))) = true := by kernel_rfl
end Go.Proofs.YtffmiefhnbkcbaaGreat.Sh
