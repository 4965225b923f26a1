/- Own lemmas, laid together. -/
import Derived.Sort.WalkA14
import Derived.Sort.AssemblyPlain
import Derived.Sort.Walk7
import Derived.Sort.WalkA
import Derived.Test.YtflnpcgnenhogaaGreatDoorProg
import Derived.Test.YtflnpcgnenhogaaGreatDoorShelf
import Derived.Sort.Walk11
import Derived.Sort.WalkD2
import Derived.Sort.Walk13
import Derived.Sort.WalkB12
import Derived.Sort.WalkB3
import Derived.Sort.WalkB2
import Derived.Sort.WalkC
import Derived.Sort.WalkC4
import Derived.Sort.WalkA6
import Derived.Laws.OwnMore
import Derived.Lib.Hide
namespace Go.Proofs.YtflnpcgnenhogaaGreatDoor.so
open Go.RowKit Go.Sort Go.Lib

abbrev U : Int → Value := Value.int .u32
end Go.Proofs.YtflnpcgnenhogaaGreatDoor.so
