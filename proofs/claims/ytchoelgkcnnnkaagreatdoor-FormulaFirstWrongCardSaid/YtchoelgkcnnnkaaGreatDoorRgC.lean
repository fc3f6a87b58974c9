/- REGIONS THAT DRAW: memory only grows. -/
import Derived.Test.YtchoelgkcnnnkaaGreatDoorRgA
set_option linter.all false
namespace Go.Proofs.YtchoelgkcnnnkaaGreatDoor
open Go Go.RowKit
def JB (w0 : World) (_ : Nat → Bool) (_ : Nat → Nat) (X : World) : Prop := Below w0.heap.size w0 X
theorem JB.trans {w0 X Y : World} {l l' : Nat → Bool} {ds ds' : Nat → Nat} (h : JB w0 l ds X) (hb : Below X.heap.size X Y) : JB w0 l' ds' Y := Below.trans h (hb.mono (Below.size h))
end Go.Proofs.YtchoelgkcnnnkaaGreatDoor
