/- The loops of digits.Minimal, taken out of the translation. -/
import Derived.Test.YtajddminbfiipaaProg
import Derived.Control
namespace Go.Proofs.Ytajddminbfiipaa.Ext

abbrev Bytes := List UInt8

/-- All loops of a piece of code, outer ones first. -/
def loops : Code → List Code
  | .loop c => .loop c :: loops c
  | .seq a b => loops a ++ loops b
  | .block _ c => loops c
  | .scope c => loops c
  | .cond _ a b => loops a ++ loops b
  | _ => []
noncomputable def lp (i : Nat) : Code := (((Try.f21.body.map loops).getD [])[i]?).getD .skip
end Go.Proofs.Ytajddminbfiipaa.Ext
