/-
  Texts of this claim, laid one behind the other by a program of mine (install.py): X.Sh11, X.Sh12, X.ShZ, X.Ew5, X.Tree, X.WrArg.
-/
import Derived.Test.YtfaagidbphhboaaGreatDoorM6
import Derived.Test.YtfaagidbphhboaaGreatDoorM10
import Derived.Test.YtfaagidbphhboaaGreatDoorM8
import Derived.Test.YtfaagidbphhboaaGreatDoorM7
import Derived.Test.YtfaagidbphhboaaGreatDoorM3
namespace Go.Proofs.YtfaagidbphhboaaGreatDoor
open Go.Dn Go.Proofs
set_option maxRecDepth 100000
namespace Ru
def lD:List Value:=[.pointer (J 70964 0),.slice (J 72775 0) 1 18446744073709551616,.slice (J 73318 0) 1 18446744073709551616,.slice (J 70977 0) 2 18446744073709551616]
def s11:AS:=⟨7783,[.row 73318 3 1 1 [I 0] (none),.row 72775 49 1 1 [.slice (J 72773 0) 1 18446744073709551616] (none),.row 72774 49 1 1 [.slice (J 72773 0) 1 18446744073709551616] (some 1),.row 72773 52 3 1 [I 1,I 3,T []] (none),.row 72541 239 1 1 [.pointer (J 72535 0)] (none),.cells 72535 [.slice (J 72537 0) 0 0,.slice (J 72533 0) 2 2] 238,.row 72533 242 10 2 [I 1,I 1,I 0,.int .u64 2,I 1,I 2,T [],I 1,I 2,T [],I 1,I 0,I 0,.int .u64 0,I 0,I 0,T [],I 0,I 0,T []] (some 2),.row 72537 52 3 0 [] (some 0),.row 72509 52 3 2 [I 1,I 2,T [],I 0,I 0,T []] (none),.row 72053 36 1 1 [I 0] (some 1),.row 72052 50 1 1 [.slice (J 72509 0) 2 18446744073709551616] (some 1),.row 72051 3 1 1 [I 1] (none),.row 71214 49 1 1 [.slice (J 71212 0) 2 18446744073709551616] (none),.row 71213 49 1 1 [.slice (J 71212 0) 2 18446744073709551616] (some 1),.row 71212 52 3 2 [I 1,I 1,T [],I 1,I 2,T []] (none),.loop 70996 .busy none,.mark 70995,.cells 70994 [.slice (J 69594 0) 2 2] 32,.cells 70993 [.pointer (J 70964 0)] 77,.cells 70991 [I 0] 36,.cells 70990 [.func (.func 75) #[] #[.pointer (J 70984 0),.pointer (J 70986 0)]] 149,.cells 70989 [.slice (J 70977 0) 2 18446744073709551616] 25,.cells 70988 [.pointer (J 70964 0)] 77,.cells 70986 [I 0] 3,.cells 70984 [.pointer (J 70983 0)] 151,.cells 70983 [.slice (J 70981 0) 2 18446744073709551616,.map (some 70982),.slice (J 72541 0) 1 18446744073709551616] 233,.mp 70982 [(⟨#[]⟩,.pointer (J 72535 0),0)] 1,.row 70981 3 1 2 [I 3,I 1] (none),.row 70978 3 1 1 [I 1] (some 1),.row 70976 54 6 1 [I 2,T [],I 0,I 0,T [],.slice none 0 0] (some 1),.cells 70974 [T [110],I 1,I 0,T [],I 0,I 0,T [],.slice none 0 0] 61,.row 70979 3 1 2 [I 3,I 1] (none),.row 70972 3 1 1 [I 3] (some 1),.row 70977 54 6 2 [I 1,T [97],I 0,I 0,T [],.slice none 0 0,I 2,T [],I 0,I 0,T [],.slice none 0 0] (none),.row 70970 54 6 1 [I 1,T [97],I 0,I 0,T [],.slice none 0 0] (some 1),.cells 70968 [T [115],I 3,I 1,T [97],I 0,I 0,T [],.slice none 0 0] 61,.row 70966 70 3 1 [T [97],I 1,.bool false] (none),.cells 70964 [.slice (J 70588 0) 1 18446744073709551616,.slice (J 68217 0) 2 18446744073709551616,.slice (J 68300 0) 1 18446744073709551616,.slice none 0 0,.slice none 0 0,I (-1),.slice (J 70803 0) 2 18446744073709551616,.bool true,.slice (J 70966 0) 1 18446744073709551616,.slice (J 70943 0) 1 18446744073709551616] 82,.row 70943 3 1 1 [I 0] (none),.row 70803 70 3 2 [T [115],I 1,.bool true,T [110],I 1,.bool true] (none),.row 70588 70 3 1 [T [97],I 1,.bool false] (none),.cells 69595 [.slice (J 69373 0) 1 18446744073709551616,.slice (J 68217 0) 2 18446744073709551616,.slice (J 68300 0) 1 18446744073709551616,.slice none 0 0,.slice none 0 0,I (-1),.slice (J 69588 0) 2 18446744073709551616,.bool true] 40,.row 69594 65 1 2 [.pointer (J 67391 0),.pointer (J 68088 0)] (some 2),.cells 69592 [.slice (J 69373 0) 1 18446744073709551616,.slice (J 68217 0) 2 18446744073709551616,.slice (J 68300 0) 1 18446744073709551616,.slice none 0 0,.slice none 0 0,I (-1),.slice (J 69588 0) 2 18446744073709551616,.bool true] 40,.row 69588 70 3 2 [T [115],I 1,.bool true,T [110],I 1,.bool true] (none),.row 69373 70 3 1 [T [97],I 1,.bool false] (none),.cells 68380 [.slice (J 68217 0) 2 18446744073709551616,.slice (J 68300 0) 1 18446744073709551616,.slice none 0 0,.slice none 0 0,I (-1)] 28,.row 68300 54 6 1 [I 10,T [],I 0,I 0,T [],.slice (J 68286 0) 2 2] (none),.row 68286 54 6 2 [I 2,T [],I 1,I 1,T [],.slice none 0 0,I 1,T [97],I 0,I 0,T [],.slice none 0 0] (some 2),.row 68217 61 8 2 [T [115],I 3,I 1,T [97],I 0,I 0,T [],.slice none 0 0,T [110],I 1,I 0,T [],I 0,I 0,T [],.slice none 0 0] (none),.cells 68088 [.pointer (J 67479 0)] 135,.row 67691 103 7 1 [I 0,I 1,I 3,T [],I 1,I 3,T []] (none),.row 67684 49 1 1 [.slice (J 67497 0) 1 1] (none),.row 67497 52 3 1 [I 1,I 3,T []] (some 1),.cells 67479 [.slice (J 67408 0) 1 18446744073709551616,.slice (J 67684 0) 1 18446744073709551616,.slice (J 67691 0) 1 18446744073709551616,I 1] 132,.row 67408 70 3 1 [T [97],I 1,.bool false] (none),.cells 67391 [.pointer (J 66543 0)] 135,.row 66847 103 7 1 [I 0,I 1,I 1,T [],I 1,I 2,T []] (none),.row 66840 49 1 1 [.slice (J 66572 0) 2 2] (none),.row 66572 52 3 2 [I 1,I 1,T [],I 1,I 2,T []] (some 2),.cells 66543 [.slice (J 66472 0) 1 18446744073709551616,.slice (J 66840 0) 1 18446744073709551616,.slice (J 66847 0) 1 18446744073709551616,I 2] 132,.row 66472 70 3 1 [T [97],I 1,.bool false] (none),.row 66073 50 1 1 [.slice (J 66072 0) 1 1] (some 1),.row 66072 52 3 1 [I 1,I 3,T []] (some 1),.cells 66070 [I 1,I 3,T []] 52,.row 65543 50 1 2 [.slice (J 65539 0) 1 1,.slice (J 65542 0) 1 1] (some 2),.row 65542 52 3 1 [I 1,I 2,T []] (some 1),.cells 65540 [I 1,I 2,T []] 52,.row 65539 52 3 1 [I 1,I 1,T []] (some 1),.cells 65537 [I 1,I 1,T []] 52,.row 65536 70 3 1 [T [97],I 1,.bool false] (some 1)]⟩
def v11:Value:=.tuple #[.slice (J 73319 0) 1 1,.slice (J 73320 0) 1 1]
def t11:AS:=⟨8105,[.row 73638 52 3 2 [I 1,I 3,T [],I 0,I 0,T []] (none),.row 73320 36 1 1 [I 0] (some 1),.row 73319 50 1 1 [.slice (J 73638 0) 2 18446744073709551616] (some 1),.row 73318 3 1 1 [I 0] (none),.row 72775 49 1 1 [.slice (J 72773 0) 1 18446744073709551616] (none),.row 72774 49 1 1 [.slice (J 72773 0) 1 18446744073709551616] (some 1),.row 72773 52 3 1 [I 1,I 3,T []] (none),.row 72541 239 1 1 [.pointer (J 72535 0)] (none),.cells 72535 [.slice (J 72537 0) 0 0,.slice (J 72533 0) 2 2] 238,.row 72533 242 10 2 [I 1,I 1,I 0,.int .u64 2,I 1,I 2,T [],I 1,I 2,T [],I 1,I 0,I 0,.int .u64 0,I 0,I 0,T [],I 0,I 0,T []] (some 2),.row 72537 52 3 0 [] (some 0),.row 72509 52 3 2 [I 1,I 2,T [],I 0,I 0,T []] (none),.row 72053 36 1 1 [I 0] (some 1),.row 72052 50 1 1 [.slice (J 72509 0) 2 18446744073709551616] (some 1),.row 72051 3 1 1 [I 1] (none),.row 71214 49 1 1 [.slice (J 71212 0) 2 18446744073709551616] (none),.row 71213 49 1 1 [.slice (J 71212 0) 2 18446744073709551616] (some 1),.row 71212 52 3 2 [I 1,I 1,T [],I 1,I 2,T []] (none),.loop 70996 .busy none,.mark 70995,.cells 70994 [.slice (J 69594 0) 2 2] 32,.cells 70993 [.pointer (J 70964 0)] 77,.cells 70991 [I 0] 36,.cells 70990 [.func (.func 75) #[] #[.pointer (J 70984 0),.pointer (J 70986 0)]] 149,.cells 70989 [.slice (J 70977 0) 2 18446744073709551616] 25,.cells 70988 [.pointer (J 70964 0)] 77,.cells 70986 [I 0] 3,.cells 70984 [.pointer (J 70983 0)] 151,.cells 70983 [.slice (J 70981 0) 2 18446744073709551616,.map (some 70982),.slice (J 72541 0) 1 18446744073709551616] 233,.mp 70982 [(⟨#[]⟩,.pointer (J 72535 0),0)] 1,.row 70981 3 1 2 [I 3,I 1] (none),.row 70978 3 1 1 [I 1] (some 1),.row 70976 54 6 1 [I 2,T [],I 0,I 0,T [],.slice none 0 0] (some 1),.cells 70974 [T [110],I 1,I 0,T [],I 0,I 0,T [],.slice none 0 0] 61,.row 70979 3 1 2 [I 3,I 1] (none),.row 70972 3 1 1 [I 3] (some 1),.row 70977 54 6 2 [I 1,T [97],I 0,I 0,T [],.slice none 0 0,I 2,T [],I 0,I 0,T [],.slice none 0 0] (none),.row 70970 54 6 1 [I 1,T [97],I 0,I 0,T [],.slice none 0 0] (some 1),.cells 70968 [T [115],I 3,I 1,T [97],I 0,I 0,T [],.slice none 0 0] 61,.row 70966 70 3 1 [T [97],I 1,.bool false] (none),.cells 70964 [.slice (J 70588 0) 1 18446744073709551616,.slice (J 68217 0) 2 18446744073709551616,.slice (J 68300 0) 1 18446744073709551616,.slice none 0 0,.slice none 0 0,I (-1),.slice (J 70803 0) 2 18446744073709551616,.bool true,.slice (J 70966 0) 1 18446744073709551616,.slice (J 70943 0) 1 18446744073709551616] 82,.row 70943 3 1 1 [I 0] (none),.row 70803 70 3 2 [T [115],I 1,.bool true,T [110],I 1,.bool true] (none),.row 70588 70 3 1 [T [97],I 1,.bool false] (none),.cells 69595 [.slice (J 69373 0) 1 18446744073709551616,.slice (J 68217 0) 2 18446744073709551616,.slice (J 68300 0) 1 18446744073709551616,.slice none 0 0,.slice none 0 0,I (-1),.slice (J 69588 0) 2 18446744073709551616,.bool true] 40,.row 69594 65 1 2 [.pointer (J 67391 0),.pointer (J 68088 0)] (some 2),.cells 69592 [.slice (J 69373 0) 1 18446744073709551616,.slice (J 68217 0) 2 18446744073709551616,.slice (J 68300 0) 1 18446744073709551616,.slice none 0 0,.slice none 0 0,I (-1),.slice (J 69588 0) 2 18446744073709551616,.bool true] 40,.row 69588 70 3 2 [T [115],I 1,.bool true,T [110],I 1,.bool true] (none),.row 69373 70 3 1 [T [97],I 1,.bool false] (none),.cells 68380 [.slice (J 68217 0) 2 18446744073709551616,.slice (J 68300 0) 1 18446744073709551616,.slice none 0 0,.slice none 0 0,I (-1)] 28,.row 68300 54 6 1 [I 10,T [],I 0,I 0,T [],.slice (J 68286 0) 2 2] (none),.row 68286 54 6 2 [I 2,T [],I 1,I 1,T [],.slice none 0 0,I 1,T [97],I 0,I 0,T [],.slice none 0 0] (some 2),.row 68217 61 8 2 [T [115],I 3,I 1,T [97],I 0,I 0,T [],.slice none 0 0,T [110],I 1,I 0,T [],I 0,I 0,T [],.slice none 0 0] (none),.cells 68088 [.pointer (J 67479 0)] 135,.row 67691 103 7 1 [I 0,I 1,I 3,T [],I 1,I 3,T []] (none),.row 67684 49 1 1 [.slice (J 67497 0) 1 1] (none),.row 67497 52 3 1 [I 1,I 3,T []] (some 1),.cells 67479 [.slice (J 67408 0) 1 18446744073709551616,.slice (J 67684 0) 1 18446744073709551616,.slice (J 67691 0) 1 18446744073709551616,I 1] 132,.row 67408 70 3 1 [T [97],I 1,.bool false] (none),.cells 67391 [.pointer (J 66543 0)] 135,.row 66847 103 7 1 [I 0,I 1,I 1,T [],I 1,I 2,T []] (none),.row 66840 49 1 1 [.slice (J 66572 0) 2 2] (none),.row 66572 52 3 2 [I 1,I 1,T [],I 1,I 2,T []] (some 2),.cells 66543 [.slice (J 66472 0) 1 18446744073709551616,.slice (J 66840 0) 1 18446744073709551616,.slice (J 66847 0) 1 18446744073709551616,I 2] 132,.row 66472 70 3 1 [T [97],I 1,.bool false] (none),.row 66073 50 1 1 [.slice (J 66072 0) 1 1] (some 1),.row 66072 52 3 1 [I 1,I 3,T []] (some 1),.cells 66070 [I 1,I 3,T []] 52,.row 65543 50 1 2 [.slice (J 65539 0) 1 1,.slice (J 65542 0) 1 1] (some 2),.row 65542 52 3 1 [I 1,I 2,T []] (some 1),.cells 65540 [I 1,I 2,T []] 52,.row 65539 52 3 1 [I 1,I 1,T []] (some 1),.cells 65537 [I 1,I 1,T []] 52,.row 65536 70 3 1 [T [97],I 1,.bool false] (some 1)]⟩
theorem p11:Va Tryz.prog G1 O1 100000 300 (.fn f.DI) lD [] s11=some (v11,t11):=EA (by kernel_rfl)
end Ru
end Go.Proofs.YtfaagidbphhboaaGreatDoor
namespace Go.Proofs.YtfaagidbphhboaaGreatDoor
open Go.Dn Go.Proofs
set_option maxRecDepth 100000
namespace Ru
def a12:List Value:=[.agg #[.slice (J 69373 0) 1 18446744073709551616,.slice (J 68217 0) 2 18446744073709551616,.slice (J 68300 0) 1 18446744073709551616,.slice none 0 0,.slice none 0 0,I (-1),.slice (J 69588 0) 2 18446744073709551616,.bool true],.slice (J 69594 0) 2 2]
def s12:AS:=⟨4059,[.row 69594 65 1 2 [.pointer (J 67391 0),.pointer (J 68088 0)] (some 2),.cells 69592 [.slice (J 69373 0) 1 18446744073709551616,.slice (J 68217 0) 2 18446744073709551616,.slice (J 68300 0) 1 18446744073709551616,.slice none 0 0,.slice none 0 0,I (-1),.slice (J 69588 0) 2 18446744073709551616,.bool true] 40,.row 69588 70 3 2 [T [115],I 1,.bool true,T [110],I 1,.bool true] (none),.row 69373 70 3 1 [T [97],I 1,.bool false] (none),.cells 68380 [.slice (J 68217 0) 2 18446744073709551616,.slice (J 68300 0) 1 18446744073709551616,.slice none 0 0,.slice none 0 0,I (-1)] 28,.row 68300 54 6 1 [I 10,T [],I 0,I 0,T [],.slice (J 68286 0) 2 2] (none),.row 68286 54 6 2 [I 2,T [],I 1,I 1,T [],.slice none 0 0,I 1,T [97],I 0,I 0,T [],.slice none 0 0] (some 2),.row 68217 61 8 2 [T [115],I 3,I 1,T [97],I 0,I 0,T [],.slice none 0 0,T [110],I 1,I 0,T [],I 0,I 0,T [],.slice none 0 0] (none),.cells 68088 [.pointer (J 67479 0)] 135,.row 67691 103 7 1 [I 0,I 1,I 3,T [],I 1,I 3,T []] (none),.row 67684 49 1 1 [.slice (J 67497 0) 1 1] (none),.row 67497 52 3 1 [I 1,I 3,T []] (some 1),.cells 67479 [.slice (J 67408 0) 1 18446744073709551616,.slice (J 67684 0) 1 18446744073709551616,.slice (J 67691 0) 1 18446744073709551616,I 1] 132,.row 67408 70 3 1 [T [97],I 1,.bool false] (none),.cells 67391 [.pointer (J 66543 0)] 135,.row 66847 103 7 1 [I 0,I 1,I 1,T [],I 1,I 2,T []] (none),.row 66840 49 1 1 [.slice (J 66572 0) 2 2] (none),.row 66572 52 3 2 [I 1,I 1,T [],I 1,I 2,T []] (some 2),.cells 66543 [.slice (J 66472 0) 1 18446744073709551616,.slice (J 66840 0) 1 18446744073709551616,.slice (J 66847 0) 1 18446744073709551616,I 2] 132,.row 66472 70 3 1 [T [97],I 1,.bool false] (none),.row 66073 50 1 1 [.slice (J 66072 0) 1 1] (some 1),.row 66072 52 3 1 [I 1,I 3,T []] (some 1),.cells 66070 [I 1,I 3,T []] 52,.row 65543 50 1 2 [.slice (J 65539 0) 1 1,.slice (J 65542 0) 1 1] (some 2),.row 65542 52 3 1 [I 1,I 2,T []] (some 1),.cells 65540 [I 1,I 2,T []] 52,.row 65539 52 3 1 [I 1,I 1,T []] (some 1),.cells 65537 [I 1,I 1,T []] 52,.row 65536 70 3 1 [T [97],I 1,.bool false] (some 1)]⟩
def v12:Value:=.tuple #[.slice (J 73761 0) 1 18446744073709551616,I 0]
def t12:AS:=⟨8226,[.row 73761 50 1 1 [.slice (J 73759 0) 2 18446744073709551616] (none),.row 73759 52 3 2 [I 1,I 5,T [],I 1,I 2,T []] (none),.row 69594 65 1 2 [.pointer (J 67391 0),.pointer (J 68088 0)] (some 2),.cells 69592 [.slice (J 69373 0) 1 18446744073709551616,.slice (J 68217 0) 2 18446744073709551616,.slice (J 68300 0) 1 18446744073709551616,.slice none 0 0,.slice none 0 0,I (-1),.slice (J 69588 0) 2 18446744073709551616,.bool true] 40,.row 69588 70 3 2 [T [115],I 1,.bool true,T [110],I 1,.bool true] (none),.row 69373 70 3 1 [T [97],I 1,.bool false] (none),.cells 68380 [.slice (J 68217 0) 2 18446744073709551616,.slice (J 68300 0) 1 18446744073709551616,.slice none 0 0,.slice none 0 0,I (-1)] 28,.row 68300 54 6 1 [I 10,T [],I 0,I 0,T [],.slice (J 68286 0) 2 2] (none),.row 68286 54 6 2 [I 2,T [],I 1,I 1,T [],.slice none 0 0,I 1,T [97],I 0,I 0,T [],.slice none 0 0] (some 2),.row 68217 61 8 2 [T [115],I 3,I 1,T [97],I 0,I 0,T [],.slice none 0 0,T [110],I 1,I 0,T [],I 0,I 0,T [],.slice none 0 0] (none),.cells 68088 [.pointer (J 67479 0)] 135,.row 67691 103 7 1 [I 0,I 1,I 3,T [],I 1,I 3,T []] (none),.row 67684 49 1 1 [.slice (J 67497 0) 1 1] (none),.row 67497 52 3 1 [I 1,I 3,T []] (some 1),.cells 67479 [.slice (J 67408 0) 1 18446744073709551616,.slice (J 67684 0) 1 18446744073709551616,.slice (J 67691 0) 1 18446744073709551616,I 1] 132,.row 67408 70 3 1 [T [97],I 1,.bool false] (none),.cells 67391 [.pointer (J 66543 0)] 135,.row 66847 103 7 1 [I 0,I 1,I 1,T [],I 1,I 2,T []] (none),.row 66840 49 1 1 [.slice (J 66572 0) 2 2] (none),.row 66572 52 3 2 [I 1,I 1,T [],I 1,I 2,T []] (some 2),.cells 66543 [.slice (J 66472 0) 1 18446744073709551616,.slice (J 66840 0) 1 18446744073709551616,.slice (J 66847 0) 1 18446744073709551616,I 2] 132,.row 66472 70 3 1 [T [97],I 1,.bool false] (none),.row 66073 50 1 1 [.slice (J 66072 0) 1 1] (some 1),.row 66072 52 3 1 [I 1,I 3,T []] (some 1),.cells 66070 [I 1,I 3,T []] 52,.row 65543 50 1 2 [.slice (J 65539 0) 1 1,.slice (J 65542 0) 1 1] (some 2),.row 65542 52 3 1 [I 1,I 2,T []] (some 1),.cells 65540 [I 1,I 2,T []] 52,.row 65539 52 3 1 [I 1,I 1,T []] (some 1),.cells 65537 [I 1,I 1,T []] 52,.row 65536 70 3 1 [T [97],I 1,.bool false] (some 1)]⟩
def O3:OF:=(GS (GS (GS O1 f.NW (Oa a7 s7 (v7,t7))) f.D9 (orO (Oa a8 s8 (v8,t8)) (Oa a10 s10 (v10,t10)))) f.DI (orO (Oa a9 s9 (v9,t9)) (Oa lD s11 (v11,t11))))
theorem AhL:OOK Tryz.prog G1 O3:=(CH (CH (CH Hd (DG mixed Hd p7)) (VD (DG mixed Hd p8) (DG mixed Hd p10))) (VD (DG mixed Hd p9) (DG mixed Hd p11)))
theorem p12:Va Tryz.prog G1 O3 100000 300 (.fn f.Mo) a12 [] s12=some (v12,t12):=EA (by kernel_rfl)
end Ru
end Go.Proofs.YtfaagidbphhboaaGreatDoor
namespace Go.Proofs.YtfaagidbphhboaaGreatDoor
open Go.Dn Go.Proofs
set_option maxRecDepth 100000
namespace Ru
def O2:OF:=(GS (GS (GS (GS (GS O1 f.EP (orO (Oa a1 s1 (v1,t1)) (Oa a2 s2 (v2,t2)))) f.FQ (orO (Oa a3 s3 (v3,t3)) (Oa a4 s4 (v4,t4)))) f.O7 (Oa a5 s5 (v5,t5))) f.Of (Oa a6 s6 (v6,t6))) f.Mo (Oa a12 s12 (v12,t12)))
theorem AhK:OOK Tryz.prog G1 O2:=(CH (CH (CH (CH (CH Hd (VD (DG mixed Hd p1) (DG mixed Hd p2))) (VD (DG mixed Hd p3) (DG mixed Hd p4))) (DG mixed Hd p5)) (DG mixed Hd p6)) (DG mixed AhL p12))
theorem whole:∃ t,Va Tryz.prog G1 O2 100000 300 (.fn f.OX) [] [] ⟨0,[]⟩=some (.bool true,t):=⟨_,EA (v:=.bool true) (T:=⟨8230,[]⟩) (by kernel_rfl)⟩
end Ru
theorem Rl{w:World}(hG:IF Ru.G1 w):Calls Tryz.prog f.OX #[] w (AD λ v w'=>v=.bool true/\Go.RowKit.Below w.heap.size w w'):=by
 obtain⟨t,h⟩:=Ru.whole;refine (AbV mixed Ru.AhK h rfl hG).mono ?_;rintro _ w' ⟨rfl,B⟩;exact⟨_,rfl,rfl,B⟩
end Go.Proofs.YtfaagidbphhboaaGreatDoor
namespace Go.Proofs.YtfaagidbphhboaaGreatDoor
open _root_.List.cons renaming injEq -> AkT
open _root_.List renaming drop_succ_cons -> AkS, drop_zero -> Akg, mem_cons -> Aje, not_mem_nil -> Akz, take_succ_cons -> AkQ, take_zero -> AkR
open _root_.Nat renaming le_trans -> AjF
set_option maxRecDepth 100000
open Go.Dn Go.Proofs
open Go.RowKit (Below)
set_option linter.unusedVariables false
theorem Air:LR Tryz.prog ty.Fx=some (ty.GJ,1,8,.pointer none):=by kernel_rfl
theorem Abr{G:GT}{w w':World}(h:IF G w)(B:Below w.heap.size w w'):IF G w':=λ b vs hb=>⟨(h b vs hb).1,λ i v hi=>(Aq.AQ (F:=λ _=>False) B).cell ((h b vs hb).2 i v hi) (by simp)⟩
section
variable {w:World}{a:Option Addr}{c sc:Nat}{cs:List AA}
theorem ZM(T:L9 w)(hl:Rd w a (AO cs))(hR:Ai cs=true)(hn:cs.length<=9223372036854775807)(hq:∀ c∈cs,c.1.size<=9223372036854775807){b:Nat}(hb:w.cell? ⟨b,0,none⟩=some (.slice none 0 0)) :
  Calls Tryz.prog f.Vw #[.slice a cs.length c,.slice (some ⟨b,0,none⟩) 1 sc] w (AD λ r w'=>∃ g p aH a' c',r=.tuple #[.slice a' 1 c',.bool true]/\Rd w' a' [.pointer (some g)]/\w'.cell? g=some (.pointer (some p))/\GW w' p cs aH 0/\Below w.heap.size w w'):=by
 apply R.Lk
 delta R.Ad R.Ux R.Uy R.F R.G R.H R.I R.J R.Ks R.Ls R.N R.O R.P R.IY R.S R.T R.W R.X;try dsimp only [R.Ps]
 refine Vl 1 (λ i a' l' c' w1=>(i=0/\a'=none/\l'=0/\c'=0/\w1=w)\/(i=1/\l'=1/\∃ g p aH,Rd w1 a' [.pointer (some g)]/\w1.cell? g=some (.pointer (some p))/\GW w1 p cs aH 0/\Below w.heap.size w w1)) (by omega) (.inl ⟨rfl,rfl,rfl,rfl,rfl⟩) λ I M a' l' c' i w1 hi h next=>?_;rcases h with ⟨rfl,rfl,rfl,rfl,rfl⟩ | ⟨rfl,rfl,g,p,aH,h1,h2,h3,B1⟩
 ·refine Aa (λ aB=>⟨⟨by omega,aB⟩,?_⟩) (λ h=>by omega);have hs:Cw cs []:=⟨hR,by simp,by simp,by simp,rfl⟩;refine⟨_,_,_,by rw [Ma];exact hb,(Hy (ps:=[]) rfl T hl hn hq ⟨Rd.nil _ _,by simp⟩ (by simp) (by simp [rws])).mono ?_⟩;rintro _ w2 ⟨_,rfl,hW,B2⟩;rcases hW with ⟨aq,_⟩ | ⟨_,bb,rfl,hI⟩
  ·exact absurd hs aq
  have dM:=FA.len hs hI;refine⟨_,_,rfl,(PT (T.grown B2) (Dz bb) (by rw [BL];omega) ⟨cs,[],hs,by rw [CM];exact hI⟩).mono ?_⟩;rintro _ w3 ⟨v,rfl,hO⟩;rw [CM] at hO;obtain⟨g,p,aH,rfl,hg,hA,_,B3⟩:=hO.Jk hs hI;have C3:=Ac B2 B3;refine⟨_,_,rfl,As (λ h=>absurd rfl h) (λ _=>As (λ h=>absurd rfl h) (λ _=>AN ((ST.start w3).Ak λ b4 w4 _ _ S4=>(S4.nil ty.GJ 1).app 0 rfl Air rfl (by omega) (by omega) (S4.rdc 0 rfl) (mm:=1) rfl (by intro u hu;simp at hu;rw [hu];rfl) (by omega) λ a5 c5 w5 S5=>⟨_,_,_,rfl,next _ _ _ _ (by omega) (.inr ⟨rfl,rfl,g,p,aH,?_,?_,hA.grown S5.Ah,Ac C3 S5.Ah⟩)⟩)))⟩
  ·exact S5.rd 0 rfl
  ·exact (Aq.AQ (F:=λ _=>False) S5.Ah).cell hg (by simp)
 ·exact Aa (λ h=>by omega) (λ _=>⟨g,p,aH,a',c',rfl,h1,h2,h3,B1⟩)
variable {q:Qu}{a1 ai aw ag ao x6 sa:Option Addr}{c1 ci cw cg co l6 ja:Nat}{g7:Bool}{sg:List Sg}{out:List AA}
theorem Mp(A:LS w cs a1 q ai aw ag ao ci c1)(hm:DZ cs q=.ok out)(hs:Rd w sa (sg.map sgV))(eS:sg.length<=9223372036854775807)(hg:∀ s∈sg,YI w s)(dd:sg.all (Ti cs)=false) :
  Calls Tryz.prog f.Mo #[.agg #[.slice a1 cs.length c1,.slice ai q.it.length ci,.slice aw q.wh.length cw,.slice ag q.gr.length cg,.slice ao q.od.length co,.int .i64 q.lim,.slice x6 l6 ja,.bool g7],.slice sa sg.length sc] w
   (AD λ r w'=>r=.tuple #[.slice none 0 0,.int .i64 2]/\Below w.heap.size w w'):=by
 apply R.Jg
 delta R.A R.Ab R.Ux R.Dd R.D R.E R.F R.G R.H R.I R.Lb R.Li R.Ls R.N R.O R.P R.S;try dsimp only [R.Ps]
 refine (ST.start w).Ak λ b0 w1 _ _ S1=>⟨_,_,_,S1.cell 0 rfl rfl,_,_,_,S1.cell 0 rfl rfl,_,_,_,S1.cell 0 rfl rfl,_,_,_,S1.cell 0 rfl rfl,_,_,_,S1.cell 0 rfl rfl,_,S1.cell 0 rfl rfl,_,_,_,S1.cell 0 rfl rfl,_,S1.cell 0 rfl rfl,(HU (A.grown S1.Ah) (hs.grown S1.Ah) eS (λ s h=>(hg s h).grown S1.Ah)).mono ?_⟩;rintro _ w2 ⟨_,rfl,⟨e,eg,he,rfl,B2⟩ | ⟨out',eg,aC,rfl,B2⟩ | ⟨out',b,eg,aC,rfl,_⟩⟩
 ·rw [hm] at eg;cases eg
 ·exact⟨_,_,rfl,As (λ _=>⟨rfl,Ac S1.Ah B2⟩) (λ h=>by cases h)⟩
 ·rw [dd] at aC;cases aC
theorem Pr(A:LS w cs a1 q ai aw ag ao ci c1)(hm:DZ cs q=.ok out)(hs:Rd w sa (sg.map sgV))(eS:sg.length<=9223372036854775807)(hg:∀ s∈sg,YI w s)(dd:sg.all (Ti cs)=false) :
  Calls Tryz.prog f.W2 #[.agg #[.slice a1 cs.length c1,.slice ai q.it.length ci,.slice aw q.wh.length cw,.slice ag q.gr.length cg,.slice ao q.od.length co,.int .i64 q.lim,.slice x6 l6 ja,.bool g7],.slice sa sg.length sc] w
   (AD λ r w'=>r=.tuple #[.int .i64 0,.int .i64 2]/\Below w.heap.size w w'):=by
 apply R.Mn
 delta R.A R.Ab R.Ad R.Ux R.Cb R.E R.F R.G R.H R.I R.Lb R.Li R.Lp R.Ls R.N R.P R.Qii R.S R.W R.X;try dsimp only [R.Ps]
 refine (ST.start w).Ak λ b0 w1 _ _ S1=>⟨_,_,_,S1.cell 0 rfl rfl,_,_,_,S1.cell 0 rfl rfl,_,_,_,S1.cell 0 rfl rfl,_,_,_,S1.cell 0 rfl rfl,_,_,_,S1.cell 0 rfl rfl,_,S1.cell 0 rfl rfl,_,_,_,S1.cell 0 rfl rfl,_,S1.cell 0 rfl rfl,(HU (A.grown S1.Ah) (hs.grown S1.Ah) eS (λ s h=>(hg s h).grown S1.Ah)).mono ?_⟩;rintro _ w2 ⟨_,rfl,⟨e,eg,he,rfl,B2⟩ | ⟨out',eg,aC,rfl,B2⟩ | ⟨out',b,eg,aC,rfl,_⟩⟩
 ·rw [hm] at eg;cases eg
 ·exact⟨_,_,rfl,As (λ _=>⟨rfl,Ac S1.Ah B2⟩) (λ h=>by cases h)⟩
 ·rw [dd] at aC;cases aC
theorem Qp(A:LS w cs a1 q ai aw ag ao ci c1)(T:L9 w)(hG:IF Ru.G1 w){os:List AA}{b1:Option Addr}{d1:Nat}(ho:Rd w b1 (AO os))(pU:os.length<=9223372036854775807)(pV:∀ c∈os,c.1.size<=9223372036854775807) :
  Calls Tryz.prog f.Iw #[.slice a1 cs.length c1,.slice b1 os.length d1,.agg ⟨quL q ai aw ag ao ci cw cg co⟩] w (AD λ v w'=>v=.bool true/\Below w.heap.size w w'):=by
 apply R.IJ
 delta R.A R.Ab R.EM R.Pj R.AcW R.Dd R.Cb R.E R.F R.G R.I R.J R.Li R.Ls R.N R.O R.P R.S R.Ae R.Zb;try dsimp only [R.Ps]
 refine (ST.start w).Ak λ b7 w1 _ _ S1=>S1.call (Rl (Abr hG S1.Ah)) λ w2 _ S2=>⟨_,rfl,?_⟩;have S2:ST w w2 [IA b7 q ai aw ag ao ci cw cg co]:=S2;have A2:=A.grown S2.Ah;refine stQ S2 0 rfl ((MX A2.E A2.r A2.n A2.s A2.Q A2.c).mono ?_);rintro _ w3 ⟨_,rfl,a0,c0,bi,di,bw,dw,bg,dg,bo,d_o,a6,c6,rfl,P3,pA,B3⟩;have S3:=S2.grown B3;refine⟨_,_,_,_,_,_,_,_,_,_,_,_,_,_,_,_,_,_,_,_,_,rfl,S3.Ak λ lq w4 _ _ S4=>S4.Aez 0 rfl λ cI bM=>?_⟩;have bM:ST w cI [plI lq (Bi cs q).1 a0 c0 bi di bw dw bg dg bo d_o a6 c6,IA b7 q ai aw ag ao ci cw cg co]:=bM;refine bM.Adr (RR (ho.grown bM.Ah) pU pV) ⟨_,rfl,?_⟩;refine⟨λ st w'=>∃ t:Bool,st=[.bool t]/\ST w w' [plI lq (Bi cs q).1 a0 c0 bi di bw dw bg dg bo d_o a6 c6,IA b7 q ai aw ag ao ci cw cg co]/\(t=true\/((Bi cs q).2=0/\Ai os=true/\cs≠os)),As (λ _=>⟨true,rfl,bM,.inl rfl⟩) (λ h0=>Ap (Ao (λ hr=>(Td (A.r.grown bM.Ah) (ho.grown bM.Ah) A.n).mono ?_) (λ _=>⟨true,rfl,bM,.inl rfl⟩))),?_⟩
 ·rintro _ bR ⟨_,rfl,kx,rfl⟩;refine⟨_,rfl,_,rfl,bM.grown kx,?_⟩;by_cases he:cs=os
  ·exact .inl (decide_eq_true he)
  ·exact .inr ⟨h0,hr,he⟩
 ·rintro t bR ⟨t,aA,aQ,ht⟩;cases aA;refine Ao (λ h1=>stQ aQ 1 rfl ((Vc (A.grown aQ.Ah)).mono ?_)) (λ h1=>?_)
  ·rintro _ bG ⟨_,rfl,a,n,c,e,rfl,he,cU⟩;have C:=(aQ.grown cU).Ah;exact⟨_,_,_,_,rfl,A0 (Aj (λ _=>⟨rfl,C⟩) (λ aV=>⟨by rw [he aV,beq_self_eq_true],C⟩))⟩
  ·obtain⟨h0,hR,aV⟩:(Bi cs q).2=0/\Ai os=true/\cs≠os:=by
    rcases ht with ht | ht
    ·rw [h1] at ht;cases ht
    ·exact ht
   obtain⟨out,hm,_⟩:=AfT h0;refine aQ.Ak λ dq bG _ _ cC=>(ZM (T.grown cC.Ah) (ho.grown cC.Ah) hR pU pV (cC.cell 0 rfl rfl)).mono ?_;rintro _ cB ⟨_,rfl,g,p,aH,oV,oe,rfl,hp,gH,hA,eV⟩;have au:=cC.grown eV;have bad:[(some (g,os):Sg)].all (Ti cs)=false:=by simp [Ti,Ne.symm aV]
   have ko:∀ {w'},Below cB.heap.size cB w'->∀ s∈[(some (g,os):Sg)],YI w' s:=by
    intro w' B s hs g' aE e;simp only [List.mem_singleton] at hs;rw [hs] at e;cases e;exact⟨p,aH,0,(Aq.AQ (F:=λ _=>False) B).cell gH (by simp),hA.grown B⟩
   refine⟨_,_,_,_,rfl,Ap (A0 (stQ au 2 rfl ((Mp (sg:=[(some (g,os):Sg)]) (A.grown au.Ah) hm hp (by simp) (ko (.refl _ _)) bad).mono ?_)))⟩;rintro _ cd ⟨_,rfl,rfl,iD⟩;have cP:=au.grown iD;refine⟨_,_,_,_,rfl,stQ cP 2 rfl (cP.Ak λ oW cO _ iE bn=>(Mp (sg:=[(none:Sg)]) (A.grown bn.Ah) hm (bn.rdc 0 rfl) (by simp) (by intro s hs g' aE e;simp only [List.mem_singleton] at hs;rw [hs] at e;cases e) rfl).mono ?_)⟩;rintro _ cT ⟨_,rfl,rfl,fv⟩;have bN:=bn.grown fv;have fw:=Ac (Ac iD iE) fv;refine⟨_,_,_,_,rfl,stQ bN 3 rfl ((Pr (sg:=[(some (g,os):Sg)]) (A.grown bN.Ah) hm (hp.grown fw) (by simp) (ko fw) bad).mono ?_)⟩;rintro _ fR ⟨_,rfl,rfl,j5⟩;exact⟨_,_,rfl,A0 (A0 (A0 ⟨rfl,(bN.grown j5).Ah⟩))⟩
end
section
variable {P:Program}{w:World}
theorem Vo{n:Nat}{t:TypeId}{cs:List Value}{l:List (TypeId × Nat)}(h:Go.Dn.Good P w (n+1) t cs)(ht:Co P t=some l) :
  cs.length=P.cellsOf t/\∀ x∈l,Go.Dn.Good P w n x.1 ((cs.drop x.2).take (P.cellsOf x.1)):=by
 unfold Co at ht;split at ht
 ·rename_i fs hu;unfold Go.Dn.Good at h;rw [hu] at h;cases ht;refine⟨h.1,λ x hx=>?_⟩;obtain⟨f,hf,rfl⟩:=List.mem_map.1 hx;exact h.2 f hf
 ·cases ht
theorem Xc{n:Nat}{t e:TypeId}{cs:List Value}(h:Go.Dn.Good P w (n+1) t cs)(ht:P.underlying t=some (.slice e)):∃ a len cap,cs=[.slice a len cap]/\len<=cap/\cap<=maxLen/\(a=none->cap=0) /\
  ∃ rows:List (List Value),rows.length=len/\Rd w a rows.flatten/\∀ r∈rows,r.length=P.cellsOf e/\Go.Dn.Good P w n e r:=by
 unfold Go.Dn.Good at h;rw [ht] at h;exact h
end
theorem AcO{x:Int}(h:(Lit.int .i64 x).wf=true):i64 x:=by simpa [Lit.wf,IntKind.min,IntKind.max,IntKind.signed,IntKind.bits] using h
theorem Ew:Tryz.prog.cellsOf ty.int=1:=by kernel_rfl
theorem UL:Tryz.prog.cellsOf ty.int64=1:=by kernel_rfl
theorem HO:Tryz.prog.cellsOf ty.string=1:=by kernel_rfl
theorem OL:Tryz.prog.cellsOf ty.bool=1:=by kernel_rfl
theorem QM:Tryz.prog.cellsOf ty.AY=3:=by kernel_rfl
theorem TA:Tryz.prog.cellsOf ty.CW=6:=by kernel_rfl
theorem QL:Tryz.prog.cellsOf ty.DH=1:=by kernel_rfl
theorem AbA:Tryz.prog.cellsOf ty.I6=8:=by kernel_rfl
theorem YS:Tryz.prog.cellsOf ty.KO=1:=by kernel_rfl
theorem YV:Tryz.prog.cellsOf ty.P8=2:=by kernel_rfl
theorem WC:Tryz.prog.cellsOf ty.NO=1:=by kernel_rfl
theorem AbB:Tryz.prog.cellsOf ty.F0=5:=by kernel_rfl
theorem HB:Tryz.prog.underlying ty.int=some (.int .i64):=by kernel_rfl
theorem Aak:Tryz.prog.underlying ty.int64=some (.int .i64):=by kernel_rfl
theorem Nt:Tryz.prog.underlying ty.string=some .string:=by kernel_rfl
theorem Ur:Tryz.prog.underlying ty.bool=some .bool:=by kernel_rfl
theorem Sk:Tryz.prog.underlying ty.DH=some (.slice ty.CW):=by kernel_rfl
theorem AeL:Tryz.prog.underlying ty.KO=some (.slice ty.I6):=by kernel_rfl
theorem AcJ:Tryz.prog.underlying ty.NO=some (.slice ty.P8):=by kernel_rfl
theorem Afp:Co Tryz.prog ty.AY=some [(ty.int,0),(ty.int64,1),(ty.string,2)]:=by kernel_rfl
theorem Ag1:Co Tryz.prog ty.CW=some [(ty.int,0),(ty.string,1),(ty.AY,2),(ty.DH,5)]:=by kernel_rfl
theorem Ag2:Co Tryz.prog ty.I6=some [(ty.string,0),(ty.int,1),(ty.CW,2)]:=by kernel_rfl
theorem Afo:Co Tryz.prog ty.P8=some [(ty.int,0),(ty.bool,1)]:=by kernel_rfl
theorem AdN:Co Tryz.prog ty.F0=some [(ty.KO,0),(ty.DH,1),(ty.DH,2),(ty.NO,3),(ty.int,4)]:=by kernel_rfl
section
variable {w:World}
theorem AdT{n:Nat}{cs:List Value}(h:Go.Dn.Good Tryz.prog w n ty.AY cs):∃ v:AV,cs=[.int .i64 v.1,.int .i64 v.2.1,.string v.2.2]/\i64 v.1/\i64 v.2.1/\v.2.2.size<=maxLen:=by
 obtain⟨hl,m,hf⟩:=h.fields Afp;rw [QM] at hl
 match cs,hl with
 | [v0,v1,v2],_ =>
  simp only [Aje,Akz,or_false,forall_eq_or_imp,forall_eq,Ew,UL,HO] at hf;obtain⟨h0,h1,h2⟩:=hf;obtain⟨x0,e0,q0⟩:=h0.int HB;obtain⟨x1,e1,q1⟩:=h1.int Aak;obtain⟨x2,e2,q2⟩:=h2.str Nt;simp only [Akg,AkQ,AkR,AkS,AkT,and_true] at e0 e1 e2;exact⟨(x0,x1,x2),by rw [e0,e1,e2],AcO q0,AcO q1,q2⟩
theorem RW{α:Type}{C:α->List Value->Prop}:∀ {rows:List (List Value)},(∀ r∈rows,∃ x,C x r)->∃ xs:List α,xs.length=rows.length/\Ax C xs rows.flatten
 | [],_=>⟨[],rfl,rfl⟩
 | r :: rows,h=>by
  obtain⟨x,hx⟩:=h r (by simp);obtain⟨xs,h1,h2⟩:=RW (rows:=rows) λ r hr=>h r (by simp [hr]);exact⟨x :: xs,by simp [h1],by rw [List.flatten_cons];exact⟨r,_,rfl,hx,h2⟩⟩
theorem Vn:∀(n:Nat) (cs:List Value),Go.Dn.Good Tryz.prog w n ty.CW cs->∃ x,DT (λ _=>False) w x cs:=by
 intro n
 induction n using Nat.strongRecOn with
 | ind n ih =>
  intro cs h;cases n with
  | zero=>exact h.elim
  | succ n =>
   obtain⟨hl,hf⟩:=Vo h Ag1;rw [TA] at hl
   match cs,hl with
   | [v0,v1,v2,v3,v4,v5],_ =>
    simp only [Aje,Akz,or_false,forall_eq_or_imp,forall_eq,Ew,HO,QM,QL] at hf;obtain⟨h0,h1,h2,h5⟩:=hf;obtain⟨x0,e0,q0⟩:=h0.int HB;obtain⟨x1,e1,q1⟩:=h1.str Nt;obtain⟨v,e2,q2,q3,q4⟩:=AdT h2;cases n with
    | zero=>exact h5.elim
    | succ n =>
     obtain⟨a,len,cap,e5,g1,g2,g3,rows,rfl,g4,g5⟩:=Xc h5 Sk;obtain⟨ks,k1,k2⟩:=RW (C:=DT (λ _=>False) w) (rows:=rows) λ r hr=>ih n (by omega) r (g5 r hr).2;simp only [Akg,AkQ,AkR,AkS,AkT,and_true] at e0 e1 e2 e5;obtain⟨e2,e3,e4⟩:=e2;refine⟨.mk x0 x1 v ks,?_⟩;have:=DT.close (F:=λ _=>False) (w:=w) (x:=.mk x0 x1 v ks) (a:=a) (cap:=cap) g4 (λ _ _ _ h=>h) (by show ks.length<=cap;omega) g2 g3 ⟨AcO q0,q1,q2,q3,q4⟩ (F2.1 k2);rw [e0,e1,e2,e3,e4,e5];rw [<- k1];exact this
theorem Afq{n:Nat}{cs:List Value}(h:Go.Dn.Good Tryz.prog w n ty.I6 cs):∃ x,L3 (λ _=>False) w x cs:=by
 obtain⟨hl,m,hf⟩:=h.fields Ag2;rw [AbA] at hl
 match cs,hl with
 | v0 :: v1 :: c,hl =>
  simp only [Aje,Akz,or_false,forall_eq_or_imp,forall_eq,Ew,HO,TA] at hf;obtain⟨h0,h1,h2⟩:=hf;obtain⟨x0,e0,q0⟩:=h0.str Nt;obtain⟨x1,e1,q1⟩:=h1.int HB;simp only [Akg,AkQ,AkR,AkS,AkT,and_true] at e0 e1 h2;rw [List.take_of_length_le (by simp at hl;omega)] at h2;obtain⟨x,hx⟩:=Vn _ _ h2;exact⟨(x0,x1,x),c,by rw [e0,e1],hx,q0,AcO q1⟩
theorem AdS{n:Nat}{cs:List Value}(h:Go.Dn.Good Tryz.prog w n ty.P8 cs):∃ x,Lj x cs:=by
 obtain⟨hl,m,hf⟩:=h.fields Afo;rw [YV] at hl
 match cs,hl with
 | [v0,v1],_ =>
  simp only [Aje,Akz,or_false,forall_eq_or_imp,forall_eq,Ew,OL] at hf;obtain⟨h0,h1⟩:=hf;obtain⟨x0,e0,q0⟩:=h0.int HB;obtain⟨x1,e1⟩:=h1.bool Ur;simp only [Akg,AkQ,AkR,AkS,AkT,and_true] at e0 e1;exact⟨(x0,x1),by rw [e0,e1],AcO q0⟩
theorem Qb{α:Type}{C:α->List Value->Prop}{n:Nat}{t e:TypeId}{cs:List Value}(h:Go.Dn.Good Tryz.prog w n t cs)(ht:Tryz.prog.underlying t=some (.slice e))(hC:∀ m r,Go.Dn.Good Tryz.prog w m e r->∃ x,C x r):∃ l v,cs=[v]/\SlC (λ _=>False) w C l v:=by
 obtain⟨a,len,cap,rfl,h1,h2,h3,m,rows,rfl,hr,hrs⟩:=h.slice ht;obtain⟨l,k1,k2⟩:=RW (C:=C) (rows:=rows) λ r hr=>hC m r (hrs r hr).2;exact⟨l,_,rfl,⟨a,cap,_,by rw [k1],hr,λ _ _ _ h=>h,by omega,h2,h3,k2⟩⟩
theorem Afr{n:Nat}{cs:List Value}(h:Go.Dn.Good Tryz.prog w n ty.F0 cs):∃ q,QuC (λ _=>False) w q cs:=by
 obtain⟨hl,m,hf⟩:=h.fields AdN;rw [AbB] at hl
 match cs,hl with
 | [v0,v1,v2,v3,v4],_ =>
  simp only [Aje,Akz,or_false,forall_eq_or_imp,forall_eq,Ew,YS,QL,WC] at hf;obtain⟨h0,h1,h2,h3,h4⟩:=hf;obtain⟨l0,u0,e0,s0⟩:=Qb h0 AeL λ _ _ h=>Afq h;obtain⟨l1,u1,e1,s1⟩:=Qb h1 Sk λ _ _ h=>Vn _ _ h;obtain⟨l2,u2,e2,s2⟩:=Qb h2 Sk λ _ _ h=>Vn _ _ h;obtain⟨l3,u3,e3,s3⟩:=Qb h3 AcJ λ _ _ h=>AdS h;obtain⟨x4,e4,q4⟩:=h4.int HB;simp only [Akg,AkQ,AkR,AkS,AkT,and_true] at e0 e1 e2 e3 e4;refine⟨⟨l0,l1,l2,l3,x4⟩,⟨u0,u1,u2,u3,by rw [e0,e1,e2,e3,e4],s0,s1,s2,s3,AcO q4⟩⟩
end
def Ae8(c:AA):Prop:=c.1.size<=maxLen
theorem Afn:Co Tryz.prog ty.Bt=some [(ty.string,0),(ty.int,1),(ty.bool,2)]:=by kernel_rfl
theorem YU:Tryz.prog.cellsOf ty.Bt=3:=by kernel_rfl
theorem Iu{w:World}:∀ m r,r.length=Tryz.prog.cellsOf ty.Bt->Go.Dn.Good Tryz.prog w m ty.Bt r->∃ x,r=Hi x/\Ae8 x:=by
 intro m r hl h;obtain⟨_,n,hf⟩:=h.fields Afn;rw [YU] at hl
 match r,hl with
 | [v0,v1,v2],_ =>
  simp only [Aje,Akz,or_false,forall_eq_or_imp,forall_eq,Ew,OL,HO] at hf;obtain⟨h0,h1,h2⟩:=hf;obtain⟨x0,e0,q0⟩:=h0.str Nt;obtain⟨x1,e1,q1⟩:=h1.int HB;obtain⟨x2,e2⟩:=h2.bool Ur;refine⟨(x0,x1,x2),?_,q0⟩;simp only [Akg,AkQ,AkR,AkS,AkT,and_true] at e0 e1 e2;rw [e0,e1,e2];rfl
theorem AfM{H:Type}{enc:TypeId × Value->H}{W:World}{base b:Nat}{sp:Nat->Bool}{held:Bool}{v:Value}{d:DataW H}{p:List MemPlace}(hv:Value.okWide Tryz.prog W .any base ty.F0 v)(h:DataW.Trod enc Tryz.prog W b sp held ty.F0 v d p) :
  ∃ x:List Value,v=.agg ⟨x⟩/\∃ q,QuC (λ _=>False) W q x:=by
 obtain⟨cs,rfl⟩:=ZK AdN hv;obtain⟨n,hn⟩:=h;obtain⟨q,hq⟩:=Afr (Eb n _ _ _ hn);exact⟨cs.toList,rfl,q,hq⟩
theorem Ae3{w:World}(E:Env w){a:Option Addr}{cs:List AA}{c:Nat}(g:GL w Hi Ae8 a cs c){x:List Value}(hx:∃ q,QuC (λ _=>False) w q x) :
  ∃ q ai aw ag ao ci cw cg co,x=quL q ai aw ag ao ci cw cg co/\LS w cs a q ai aw ag ao ci c:=by
 obtain⟨q,hq⟩:=hx;obtain⟨ai,aw,ag,ao,ci,cw,cg,co,rfl,Q,gE,_⟩:=hq.at;exact⟨q,ai,aw,ag,ao,ci,cw,cg,co,rfl,E,g.2.2.2.1,AjF (AjF g.1 g.2.1) (by decide),λ v hv=>AjF (g.2.2.2.2 v hv) (by decide),Q,gE,g.1⟩
theorem LY{w:World}(E:XE w)(a:Option Addr)(cs:List AA)(c:Nat)(g:GL w Hi Ae8 a cs c)(_y:c*Tryz.prog.bytesOf ty.Bt<=reachBytes)(a2:Option Addr)(os:List AA)(c2:Nat)(g2:GL w Hi Ae8 a2 os c2)(_y2:c2*Tryz.prog.bytesOf ty.Bt<=reachBytes)(x:List Value)(hx:∃ q,QuC (λ _=>False) w q x) :
  Calls Tryz.prog f.Iw #[.slice a cs.length c,.slice a2 os.length c2,.agg ⟨x⟩] w (AD λ r w'=>r=.bool true/\Below w.heap.size w w'):=by
 obtain⟨q,ai,aw,ag,ao,ci,cw,cg,co,rfl,A⟩:=Ae3 E.E g hx;exact Qp A E.T E.G g2.2.2.2.1 (AjF (AjF g2.1 g2.2.1) (by decide)) (λ v hv=>AjF (g2.2.2.2.2 v hv) (by decide))
end Go.Proofs.YtfaagidbphhboaaGreatDoor
