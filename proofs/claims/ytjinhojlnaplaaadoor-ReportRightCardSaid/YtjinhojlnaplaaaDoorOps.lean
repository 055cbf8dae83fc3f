/- Single operations as the laid-out code has them, and what each gives. No program in sight. -/
import Derived.Test.YtjinhojlnaplaaaDoorSh
import Derived.WalkKit
import Derived.WalkSpells
import Derived.WalkLawsBesides
namespace Go.Proofs.YtjinhojlnaplaaaDoor
set_option maxRecDepth 100000
namespace Sh

def Pan (R : Ending → World → Prop) : List PanicEntry → World → Prop := fun ch w => R (.panicked ch) w
def PanD (P : Program) (fn : Func) (vs : List (Nat × Value)) (R : Ending → World → Prop) (ds : List Deferred) : List PanicEntry → World → Prop := fun ch w => LeavesE P fn vs R ds (.panicking ch) w
def NoX : List PanicEntry → World → Prop := fun _ _ => False
end Sh
end Go.Proofs.YtjinhojlnaplaaaDoor
