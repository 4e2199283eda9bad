/- Merged: RefSet. -/
import Derived.Test.YtgpdpalhkkjmiaaGreatDoorV17
import Derived.Test.YtgpdpalhkkjmiaaGreatDoorV18
import Derived.Test.YtgpdpalhkkjmiaaGreatDoorV24
import Derived.Test.YtgpdpalhkkjmiaaGreatDoorV25
import Derived.Test.YtgpdpalhkkjmiaaGreatDoorV27
/- The reference's Set, Count, Erase, NewCell. -/
namespace Go.Proofs.YtgpdpalhkkjmiaaGreatDoor
set_option linter.unusedVariables false
set_option linter.unusedSimpArgs false
set_option linter.unusedVariables false
set_option linter.unusedSimpArgs false
open Go.RowKit Go.Lib Go.Tt Go.Shelf
end Go.Proofs.YtgpdpalhkkjmiaaGreatDoor
