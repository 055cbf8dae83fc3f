/- Single operations as the laid-out code has them, and what each gives. No program in sight. -/
import Derived.Test.YtahplhcijlgelaaDoorSh
import Derived.WalkKit
import Derived.WalkSpells
import Derived.WalkLawsBesides
namespace Go.Proofs.YtahplhcijlgelaaDoor
set_option maxRecDepth 100000
namespace Sh

def Pan (R : Ending → World → Prop) : List PanicEntry → World → Prop := fun ch w => R (.panicked ch) w
def PanD (P : Program) (fn : Func) (vs : List (Nat × Value)) (R : Ending → World → Prop) (ds : List Deferred) : List PanicEntry → World → Prop := fun ch w => LeavesE P fn vs R ds (.panicking ch) w
end Sh
end Go.Proofs.YtahplhcijlgelaaDoor
