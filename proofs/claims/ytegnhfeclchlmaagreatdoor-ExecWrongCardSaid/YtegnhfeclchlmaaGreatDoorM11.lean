/-
  Texts of this claim, laid one behind the other by a program of mine (install.py): Z.Sh11, Z.Sh12, Z.ShZ, Z.Ew5, Z.Tree, Z.WrArg.
-/
import Derived.Test.YtegnhfeclchlmaaGreatDoorM6
import Derived.Test.YtegnhfeclchlmaaGreatDoorM10
import Derived.Test.YtegnhfeclchlmaaGreatDoorM8
import Derived.Test.YtegnhfeclchlmaaGreatDoorM7
import Derived.Test.YtegnhfeclchlmaaGreatDoorM3
namespace Go.Proofs.YtegnhfeclchlmaaGreatDoor
open Go.Dn Go.Proofs
set_option maxRecDepth 100000
namespace Ru
def lD:List Value:=[.pointer (J 70964 0),.slice (J 72775 0) 1 18446744073709551616,.slice (J 73318 0) 1 18446744073709551616,.slice (J 70977 0) 2 18446744073709551616]
def s11:AS:=⟨7783,[.row 73318 3 1 1 [I 0] (none),.row 72775 53 1 1 [.slice (J 72773 0) 1 18446744073709551616] (none),.row 72774 53 1 1 [.slice (J 72773 0) 1 18446744073709551616] (some 1),.row 72773 51 3 1 [I 1,I 3,T []] (none),.row 72541 233 1 1 [.pointer (J 72535 0)] (none),.cells 72535 [.slice (J 72537 0) 0 0,.slice (J 72533 0) 2 2] 232,.row 72533 236 10 2 [I 1,I 1,I 0,.int .u64 2,I 1,I 2,T [],I 1,I 2,T [],I 1,I 0,I 0,.int .u64 0,I 0,I 0,T [],I 0,I 0,T []] (some 2),.row 72537 51 3 0 [] (some 0),.row 72509 51 3 2 [I 1,I 2,T [],I 0,I 0,T []] (none),.row 72053 31 1 1 [I 0] (some 1),.row 72052 54 1 1 [.slice (J 72509 0) 2 18446744073709551616] (some 1),.row 72051 3 1 1 [I 1] (none),.row 71214 53 1 1 [.slice (J 71212 0) 2 18446744073709551616] (none),.row 71213 53 1 1 [.slice (J 71212 0) 2 18446744073709551616] (some 1),.row 71212 51 3 2 [I 1,I 1,T [],I 1,I 2,T []] (none),.loop 70996 .busy none,.mark 70995,.cells 70994 [.slice (J 69594 0) 2 2] 39,.cells 70993 [.pointer (J 70964 0)] 79,.cells 70991 [I 0] 31,.cells 70990 [.func (.func 59) #[] #[.pointer (J 70984 0),.pointer (J 70986 0)]] 138,.cells 70989 [.slice (J 70977 0) 2 18446744073709551616] 24,.cells 70988 [.pointer (J 70964 0)] 79,.cells 70986 [I 0] 3,.cells 70984 [.pointer (J 70983 0)] 140,.cells 70983 [.slice (J 70981 0) 2 18446744073709551616,.map (some 70982),.slice (J 72541 0) 1 18446744073709551616] 227,.mp 70982 [(⟨#[]⟩,.pointer (J 72535 0),0)] 1,.row 70981 3 1 2 [I 3,I 1] (none),.row 70978 3 1 1 [I 1] (some 1),.row 70976 63 6 1 [I 2,T [],I 0,I 0,T [],.slice none 0 0] (some 1),.cells 70974 [T [110],I 1,I 0,T [],I 0,I 0,T [],.slice none 0 0] 65,.row 70979 3 1 2 [I 3,I 1] (none),.row 70972 3 1 1 [I 3] (some 1),.row 70977 63 6 2 [I 1,T [97],I 0,I 0,T [],.slice none 0 0,I 2,T [],I 0,I 0,T [],.slice none 0 0] (none),.row 70970 63 6 1 [I 1,T [97],I 0,I 0,T [],.slice none 0 0] (some 1),.cells 70968 [T [115],I 3,I 1,T [97],I 0,I 0,T [],.slice none 0 0] 65,.row 70966 47 3 1 [T [97],I 1,.bool false] (none),.cells 70964 [.slice (J 70588 0) 1 18446744073709551616,.slice (J 68217 0) 2 18446744073709551616,.slice (J 68300 0) 1 18446744073709551616,.slice none 0 0,.slice none 0 0,I (-1),.slice (J 70803 0) 2 18446744073709551616,.bool true,.slice (J 70966 0) 1 18446744073709551616,.slice (J 70943 0) 1 18446744073709551616] 85,.row 70943 3 1 1 [I 0] (none),.row 70803 47 3 2 [T [115],I 1,.bool true,T [110],I 1,.bool true] (none),.row 70588 47 3 1 [T [97],I 1,.bool false] (none),.cells 69595 [.slice (J 69373 0) 1 18446744073709551616,.slice (J 68217 0) 2 18446744073709551616,.slice (J 68300 0) 1 18446744073709551616,.slice none 0 0,.slice none 0 0,I (-1),.slice (J 69588 0) 2 18446744073709551616,.bool true] 30,.row 69594 55 1 2 [.pointer (J 67391 0),.pointer (J 68088 0)] (some 2),.cells 69592 [.slice (J 69373 0) 1 18446744073709551616,.slice (J 68217 0) 2 18446744073709551616,.slice (J 68300 0) 1 18446744073709551616,.slice none 0 0,.slice none 0 0,I (-1),.slice (J 69588 0) 2 18446744073709551616,.bool true] 30,.row 69588 47 3 2 [T [115],I 1,.bool true,T [110],I 1,.bool true] (none),.row 69373 47 3 1 [T [97],I 1,.bool false] (none),.cells 68380 [.slice (J 68217 0) 2 18446744073709551616,.slice (J 68300 0) 1 18446744073709551616,.slice none 0 0,.slice none 0 0,I (-1)] 27,.row 68300 63 6 1 [I 10,T [],I 0,I 0,T [],.slice (J 68286 0) 2 2] (none),.row 68286 63 6 2 [I 2,T [],I 1,I 1,T [],.slice none 0 0,I 1,T [97],I 0,I 0,T [],.slice none 0 0] (some 2),.row 68217 65 8 2 [T [115],I 3,I 1,T [97],I 0,I 0,T [],.slice none 0 0,T [110],I 1,I 0,T [],I 0,I 0,T [],.slice none 0 0] (none),.cells 68088 [.pointer (J 67479 0)] 118,.row 67691 101 7 1 [I 0,I 1,I 3,T [],I 1,I 3,T []] (none),.row 67684 53 1 1 [.slice (J 67497 0) 1 1] (none),.row 67497 51 3 1 [I 1,I 3,T []] (some 1),.cells 67479 [.slice (J 67408 0) 1 18446744073709551616,.slice (J 67684 0) 1 18446744073709551616,.slice (J 67691 0) 1 18446744073709551616,I 1] 115,.row 67408 47 3 1 [T [97],I 1,.bool false] (none),.cells 67391 [.pointer (J 66543 0)] 118,.row 66847 101 7 1 [I 0,I 1,I 1,T [],I 1,I 2,T []] (none),.row 66840 53 1 1 [.slice (J 66572 0) 2 2] (none),.row 66572 51 3 2 [I 1,I 1,T [],I 1,I 2,T []] (some 2),.cells 66543 [.slice (J 66472 0) 1 18446744073709551616,.slice (J 66840 0) 1 18446744073709551616,.slice (J 66847 0) 1 18446744073709551616,I 2] 115,.row 66472 47 3 1 [T [97],I 1,.bool false] (none),.row 66073 54 1 1 [.slice (J 66072 0) 1 1] (some 1),.row 66072 51 3 1 [I 1,I 3,T []] (some 1),.cells 66070 [I 1,I 3,T []] 51,.row 65543 54 1 2 [.slice (J 65539 0) 1 1,.slice (J 65542 0) 1 1] (some 2),.row 65542 51 3 1 [I 1,I 2,T []] (some 1),.cells 65540 [I 1,I 2,T []] 51,.row 65539 51 3 1 [I 1,I 1,T []] (some 1),.cells 65537 [I 1,I 1,T []] 51,.row 65536 47 3 1 [T [97],I 1,.bool false] (some 1)]⟩
def v11:Value:=.tuple #[.slice (J 73319 0) 1 1,.slice (J 73320 0) 1 1]
def t11:AS:=⟨8105,[.row 73638 51 3 2 [I 1,I 3,T [],I 0,I 0,T []] (none),.row 73320 31 1 1 [I 0] (some 1),.row 73319 54 1 1 [.slice (J 73638 0) 2 18446744073709551616] (some 1),.row 73318 3 1 1 [I 0] (none),.row 72775 53 1 1 [.slice (J 72773 0) 1 18446744073709551616] (none),.row 72774 53 1 1 [.slice (J 72773 0) 1 18446744073709551616] (some 1),.row 72773 51 3 1 [I 1,I 3,T []] (none),.row 72541 233 1 1 [.pointer (J 72535 0)] (none),.cells 72535 [.slice (J 72537 0) 0 0,.slice (J 72533 0) 2 2] 232,.row 72533 236 10 2 [I 1,I 1,I 0,.int .u64 2,I 1,I 2,T [],I 1,I 2,T [],I 1,I 0,I 0,.int .u64 0,I 0,I 0,T [],I 0,I 0,T []] (some 2),.row 72537 51 3 0 [] (some 0),.row 72509 51 3 2 [I 1,I 2,T [],I 0,I 0,T []] (none),.row 72053 31 1 1 [I 0] (some 1),.row 72052 54 1 1 [.slice (J 72509 0) 2 18446744073709551616] (some 1),.row 72051 3 1 1 [I 1] (none),.row 71214 53 1 1 [.slice (J 71212 0) 2 18446744073709551616] (none),.row 71213 53 1 1 [.slice (J 71212 0) 2 18446744073709551616] (some 1),.row 71212 51 3 2 [I 1,I 1,T [],I 1,I 2,T []] (none),.loop 70996 .busy none,.mark 70995,.cells 70994 [.slice (J 69594 0) 2 2] 39,.cells 70993 [.pointer (J 70964 0)] 79,.cells 70991 [I 0] 31,.cells 70990 [.func (.func 59) #[] #[.pointer (J 70984 0),.pointer (J 70986 0)]] 138,.cells 70989 [.slice (J 70977 0) 2 18446744073709551616] 24,.cells 70988 [.pointer (J 70964 0)] 79,.cells 70986 [I 0] 3,.cells 70984 [.pointer (J 70983 0)] 140,.cells 70983 [.slice (J 70981 0) 2 18446744073709551616,.map (some 70982),.slice (J 72541 0) 1 18446744073709551616] 227,.mp 70982 [(⟨#[]⟩,.pointer (J 72535 0),0)] 1,.row 70981 3 1 2 [I 3,I 1] (none),.row 70978 3 1 1 [I 1] (some 1),.row 70976 63 6 1 [I 2,T [],I 0,I 0,T [],.slice none 0 0] (some 1),.cells 70974 [T [110],I 1,I 0,T [],I 0,I 0,T [],.slice none 0 0] 65,.row 70979 3 1 2 [I 3,I 1] (none),.row 70972 3 1 1 [I 3] (some 1),.row 70977 63 6 2 [I 1,T [97],I 0,I 0,T [],.slice none 0 0,I 2,T [],I 0,I 0,T [],.slice none 0 0] (none),.row 70970 63 6 1 [I 1,T [97],I 0,I 0,T [],.slice none 0 0] (some 1),.cells 70968 [T [115],I 3,I 1,T [97],I 0,I 0,T [],.slice none 0 0] 65,.row 70966 47 3 1 [T [97],I 1,.bool false] (none),.cells 70964 [.slice (J 70588 0) 1 18446744073709551616,.slice (J 68217 0) 2 18446744073709551616,.slice (J 68300 0) 1 18446744073709551616,.slice none 0 0,.slice none 0 0,I (-1),.slice (J 70803 0) 2 18446744073709551616,.bool true,.slice (J 70966 0) 1 18446744073709551616,.slice (J 70943 0) 1 18446744073709551616] 85,.row 70943 3 1 1 [I 0] (none),.row 70803 47 3 2 [T [115],I 1,.bool true,T [110],I 1,.bool true] (none),.row 70588 47 3 1 [T [97],I 1,.bool false] (none),.cells 69595 [.slice (J 69373 0) 1 18446744073709551616,.slice (J 68217 0) 2 18446744073709551616,.slice (J 68300 0) 1 18446744073709551616,.slice none 0 0,.slice none 0 0,I (-1),.slice (J 69588 0) 2 18446744073709551616,.bool true] 30,.row 69594 55 1 2 [.pointer (J 67391 0),.pointer (J 68088 0)] (some 2),.cells 69592 [.slice (J 69373 0) 1 18446744073709551616,.slice (J 68217 0) 2 18446744073709551616,.slice (J 68300 0) 1 18446744073709551616,.slice none 0 0,.slice none 0 0,I (-1),.slice (J 69588 0) 2 18446744073709551616,.bool true] 30,.row 69588 47 3 2 [T [115],I 1,.bool true,T [110],I 1,.bool true] (none),.row 69373 47 3 1 [T [97],I 1,.bool false] (none),.cells 68380 [.slice (J 68217 0) 2 18446744073709551616,.slice (J 68300 0) 1 18446744073709551616,.slice none 0 0,.slice none 0 0,I (-1)] 27,.row 68300 63 6 1 [I 10,T [],I 0,I 0,T [],.slice (J 68286 0) 2 2] (none),.row 68286 63 6 2 [I 2,T [],I 1,I 1,T [],.slice none 0 0,I 1,T [97],I 0,I 0,T [],.slice none 0 0] (some 2),.row 68217 65 8 2 [T [115],I 3,I 1,T [97],I 0,I 0,T [],.slice none 0 0,T [110],I 1,I 0,T [],I 0,I 0,T [],.slice none 0 0] (none),.cells 68088 [.pointer (J 67479 0)] 118,.row 67691 101 7 1 [I 0,I 1,I 3,T [],I 1,I 3,T []] (none),.row 67684 53 1 1 [.slice (J 67497 0) 1 1] (none),.row 67497 51 3 1 [I 1,I 3,T []] (some 1),.cells 67479 [.slice (J 67408 0) 1 18446744073709551616,.slice (J 67684 0) 1 18446744073709551616,.slice (J 67691 0) 1 18446744073709551616,I 1] 115,.row 67408 47 3 1 [T [97],I 1,.bool false] (none),.cells 67391 [.pointer (J 66543 0)] 118,.row 66847 101 7 1 [I 0,I 1,I 1,T [],I 1,I 2,T []] (none),.row 66840 53 1 1 [.slice (J 66572 0) 2 2] (none),.row 66572 51 3 2 [I 1,I 1,T [],I 1,I 2,T []] (some 2),.cells 66543 [.slice (J 66472 0) 1 18446744073709551616,.slice (J 66840 0) 1 18446744073709551616,.slice (J 66847 0) 1 18446744073709551616,I 2] 115,.row 66472 47 3 1 [T [97],I 1,.bool false] (none),.row 66073 54 1 1 [.slice (J 66072 0) 1 1] (some 1),.row 66072 51 3 1 [I 1,I 3,T []] (some 1),.cells 66070 [I 1,I 3,T []] 51,.row 65543 54 1 2 [.slice (J 65539 0) 1 1,.slice (J 65542 0) 1 1] (some 2),.row 65542 51 3 1 [I 1,I 2,T []] (some 1),.cells 65540 [I 1,I 2,T []] 51,.row 65539 51 3 1 [I 1,I 1,T []] (some 1),.cells 65537 [I 1,I 1,T []] 51,.row 65536 47 3 1 [T [97],I 1,.bool false] (some 1)]⟩
theorem p11:U7 Tryz.prog G1 O1 100000 300 (.fn f.DI) lD [] s11=some (v11,t11):=EA (by kernel_rfl)
end Ru
end Go.Proofs.YtegnhfeclchlmaaGreatDoor
namespace Go.Proofs.YtegnhfeclchlmaaGreatDoor
open Go.Dn Go.Proofs
set_option maxRecDepth 100000
namespace Ru
def a12:List Value:=[.agg #[.slice (J 69373 0) 1 18446744073709551616,.slice (J 68217 0) 2 18446744073709551616,.slice (J 68300 0) 1 18446744073709551616,.slice none 0 0,.slice none 0 0,I (-1),.slice (J 69588 0) 2 18446744073709551616,.bool true],.slice (J 69594 0) 2 2]
def s12:AS:=⟨4059,[.row 69594 55 1 2 [.pointer (J 67391 0),.pointer (J 68088 0)] (some 2),.cells 69592 [.slice (J 69373 0) 1 18446744073709551616,.slice (J 68217 0) 2 18446744073709551616,.slice (J 68300 0) 1 18446744073709551616,.slice none 0 0,.slice none 0 0,I (-1),.slice (J 69588 0) 2 18446744073709551616,.bool true] 30,.row 69588 47 3 2 [T [115],I 1,.bool true,T [110],I 1,.bool true] (none),.row 69373 47 3 1 [T [97],I 1,.bool false] (none),.cells 68380 [.slice (J 68217 0) 2 18446744073709551616,.slice (J 68300 0) 1 18446744073709551616,.slice none 0 0,.slice none 0 0,I (-1)] 27,.row 68300 63 6 1 [I 10,T [],I 0,I 0,T [],.slice (J 68286 0) 2 2] (none),.row 68286 63 6 2 [I 2,T [],I 1,I 1,T [],.slice none 0 0,I 1,T [97],I 0,I 0,T [],.slice none 0 0] (some 2),.row 68217 65 8 2 [T [115],I 3,I 1,T [97],I 0,I 0,T [],.slice none 0 0,T [110],I 1,I 0,T [],I 0,I 0,T [],.slice none 0 0] (none),.cells 68088 [.pointer (J 67479 0)] 118,.row 67691 101 7 1 [I 0,I 1,I 3,T [],I 1,I 3,T []] (none),.row 67684 53 1 1 [.slice (J 67497 0) 1 1] (none),.row 67497 51 3 1 [I 1,I 3,T []] (some 1),.cells 67479 [.slice (J 67408 0) 1 18446744073709551616,.slice (J 67684 0) 1 18446744073709551616,.slice (J 67691 0) 1 18446744073709551616,I 1] 115,.row 67408 47 3 1 [T [97],I 1,.bool false] (none),.cells 67391 [.pointer (J 66543 0)] 118,.row 66847 101 7 1 [I 0,I 1,I 1,T [],I 1,I 2,T []] (none),.row 66840 53 1 1 [.slice (J 66572 0) 2 2] (none),.row 66572 51 3 2 [I 1,I 1,T [],I 1,I 2,T []] (some 2),.cells 66543 [.slice (J 66472 0) 1 18446744073709551616,.slice (J 66840 0) 1 18446744073709551616,.slice (J 66847 0) 1 18446744073709551616,I 2] 115,.row 66472 47 3 1 [T [97],I 1,.bool false] (none),.row 66073 54 1 1 [.slice (J 66072 0) 1 1] (some 1),.row 66072 51 3 1 [I 1,I 3,T []] (some 1),.cells 66070 [I 1,I 3,T []] 51,.row 65543 54 1 2 [.slice (J 65539 0) 1 1,.slice (J 65542 0) 1 1] (some 2),.row 65542 51 3 1 [I 1,I 2,T []] (some 1),.cells 65540 [I 1,I 2,T []] 51,.row 65539 51 3 1 [I 1,I 1,T []] (some 1),.cells 65537 [I 1,I 1,T []] 51,.row 65536 47 3 1 [T [97],I 1,.bool false] (some 1)]⟩
def v12:Value:=.tuple #[.slice (J 73761 0) 1 18446744073709551616,I 0]
def t12:AS:=⟨8226,[.row 73761 54 1 1 [.slice (J 73759 0) 2 18446744073709551616] (none),.row 73759 51 3 2 [I 1,I 5,T [],I 1,I 2,T []] (none),.row 69594 55 1 2 [.pointer (J 67391 0),.pointer (J 68088 0)] (some 2),.cells 69592 [.slice (J 69373 0) 1 18446744073709551616,.slice (J 68217 0) 2 18446744073709551616,.slice (J 68300 0) 1 18446744073709551616,.slice none 0 0,.slice none 0 0,I (-1),.slice (J 69588 0) 2 18446744073709551616,.bool true] 30,.row 69588 47 3 2 [T [115],I 1,.bool true,T [110],I 1,.bool true] (none),.row 69373 47 3 1 [T [97],I 1,.bool false] (none),.cells 68380 [.slice (J 68217 0) 2 18446744073709551616,.slice (J 68300 0) 1 18446744073709551616,.slice none 0 0,.slice none 0 0,I (-1)] 27,.row 68300 63 6 1 [I 10,T [],I 0,I 0,T [],.slice (J 68286 0) 2 2] (none),.row 68286 63 6 2 [I 2,T [],I 1,I 1,T [],.slice none 0 0,I 1,T [97],I 0,I 0,T [],.slice none 0 0] (some 2),.row 68217 65 8 2 [T [115],I 3,I 1,T [97],I 0,I 0,T [],.slice none 0 0,T [110],I 1,I 0,T [],I 0,I 0,T [],.slice none 0 0] (none),.cells 68088 [.pointer (J 67479 0)] 118,.row 67691 101 7 1 [I 0,I 1,I 3,T [],I 1,I 3,T []] (none),.row 67684 53 1 1 [.slice (J 67497 0) 1 1] (none),.row 67497 51 3 1 [I 1,I 3,T []] (some 1),.cells 67479 [.slice (J 67408 0) 1 18446744073709551616,.slice (J 67684 0) 1 18446744073709551616,.slice (J 67691 0) 1 18446744073709551616,I 1] 115,.row 67408 47 3 1 [T [97],I 1,.bool false] (none),.cells 67391 [.pointer (J 66543 0)] 118,.row 66847 101 7 1 [I 0,I 1,I 1,T [],I 1,I 2,T []] (none),.row 66840 53 1 1 [.slice (J 66572 0) 2 2] (none),.row 66572 51 3 2 [I 1,I 1,T [],I 1,I 2,T []] (some 2),.cells 66543 [.slice (J 66472 0) 1 18446744073709551616,.slice (J 66840 0) 1 18446744073709551616,.slice (J 66847 0) 1 18446744073709551616,I 2] 115,.row 66472 47 3 1 [T [97],I 1,.bool false] (none),.row 66073 54 1 1 [.slice (J 66072 0) 1 1] (some 1),.row 66072 51 3 1 [I 1,I 3,T []] (some 1),.cells 66070 [I 1,I 3,T []] 51,.row 65543 54 1 2 [.slice (J 65539 0) 1 1,.slice (J 65542 0) 1 1] (some 2),.row 65542 51 3 1 [I 1,I 2,T []] (some 1),.cells 65540 [I 1,I 2,T []] 51,.row 65539 51 3 1 [I 1,I 1,T []] (some 1),.cells 65537 [I 1,I 1,T []] 51,.row 65536 47 3 1 [T [97],I 1,.bool false] (some 1)]⟩
def O3:OF:=(GS (GS (GS O1 f.NV (N9 a7 s7 (v7,t7))) f.D9 (orO (N9 a8 s8 (v8,t8)) (N9 a10 s10 (v10,t10)))) f.DI (orO (N9 a9 s9 (v9,t9)) (N9 lD s11 (v11,t11))))
theorem AhJ:OOK Tryz.prog G1 O3:=(CH (CH (CH Hd (DG mixed Hd p7)) (VC (DG mixed Hd p8) (DG mixed Hd p10))) (VC (DG mixed Hd p9) (DG mixed Hd p11)))
theorem p12:U7 Tryz.prog G1 O3 100000 300 (.fn f.Ml) a12 [] s12=some (v12,t12):=EA (by kernel_rfl)
end Ru
end Go.Proofs.YtegnhfeclchlmaaGreatDoor
namespace Go.Proofs.YtegnhfeclchlmaaGreatDoor
open Go.Dn Go.Proofs
set_option maxRecDepth 100000
namespace Ru
def O2:OF:=(GS (GS (GS (GS (GS O1 f.EP (orO (N9 a1 s1 (v1,t1)) (N9 a2 s2 (v2,t2)))) f.FQ (orO (N9 a3 s3 (v3,t3)) (N9 a4 s4 (v4,t4)))) f.O7 (N9 a5 s5 (v5,t5))) f.Oe (N9 a6 s6 (v6,t6))) f.Ml (N9 a12 s12 (v12,t12)))
theorem AhI:OOK Tryz.prog G1 O2:=(CH (CH (CH (CH (CH Hd (VC (DG mixed Hd p1) (DG mixed Hd p2))) (VC (DG mixed Hd p3) (DG mixed Hd p4))) (DG mixed Hd p5)) (DG mixed Hd p6)) (DG mixed AhJ p12))
theorem whole:∃ t,U7 Tryz.prog G1 O2 100000 300 (.fn f.OX) [] [] ⟨0,[]⟩=some (.bool true,t):=⟨_,EA (v:=.bool true) (T:=⟨8230,[]⟩) (by kernel_rfl)⟩
end Ru
theorem Rk{w:World}(hG:IE Ru.G1 w):Calls Tryz.prog f.OX #[] w (AD λ v w'=>v=.bool true/\Go.RowKit.Below w.heap.size w w'):=by
 obtain⟨t,h⟩:=Ru.whole;refine (AbT mixed Ru.AhI h rfl hG).mono ?_;rintro _ w' ⟨rfl,B⟩;exact⟨_,rfl,rfl,B⟩
end Go.Proofs.YtegnhfeclchlmaaGreatDoor
namespace Go.Proofs.YtegnhfeclchlmaaGreatDoor
open _root_.List.cons renaming injEq -> AkQ
open _root_.List renaming drop_succ_cons -> AkP, drop_zero -> Akd, mem_cons -> Ajc, not_mem_nil -> Akw, take_succ_cons -> AkN, take_zero -> AkO
open _root_.Nat renaming le_trans -> AjD
set_option maxRecDepth 100000
open Go.Dn Go.Proofs
open Go.RowKit (Below)
set_option linter.unusedVariables false
theorem Aip:LO Tryz.prog ty.Fx=some (ty.GJ,1,8,.pointer none):=by kernel_rfl
theorem Abp{G:GT}{w w':World}(h:IE G w)(B:Below w.heap.size w w'):IE G w':=λ b vs hb=>⟨(h b vs hb).1,λ i v hi=>(Aq.AQ (F:=λ _=>False) B).cell ((h b vs hb).2 i v hi) (by simp)⟩
section
variable {w:World}{a:Option Addr}{c sc:Nat}{cs:List AA}
theorem ZL(T:L6 w)(hl:Rd w a (AO cs))(hR:Ai cs=true)(hn:cs.length<=9223372036854775807)(hq:∀ c∈cs,c.1.size<=9223372036854775807){b:Nat}(hb:w.cell? ⟨b,0,none⟩=some (.slice none 0 0)) :
  Calls Tryz.prog f.Vv #[.slice a cs.length c,.slice (some ⟨b,0,none⟩) 1 sc] w (AD λ r w'=>∃ g p aH a' c',r=.tuple #[.slice a' 1 c',.bool true]/\Rd w' a' [.pointer (some g)]/\w'.cell? g=some (.pointer (some p))/\GW w' p cs aH 0/\Below w.heap.size w w'):=by
 apply R.Lj
 delta R.Ad R.Uw R.Ux R.F R.G R.H R.I R.J R.Ks R.Ls R.N R.O R.P R.J2 R.S R.T R.W R.X;try dsimp only [R.Ps]
 refine Vk 1 (λ i a' l' c' w1=>(i=0/\a'=none/\l'=0/\c'=0/\w1=w)\/(i=1/\l'=1/\∃ g p aH,Rd w1 a' [.pointer (some g)]/\w1.cell? g=some (.pointer (some p))/\GW w1 p cs aH 0/\Below w.heap.size w w1)) (by omega) (.inl ⟨rfl,rfl,rfl,rfl,rfl⟩) λ I M a' l' c' i w1 hi h next=>?_;rcases h with ⟨rfl,rfl,rfl,rfl,rfl⟩ | ⟨rfl,rfl,g,p,aH,h1,h2,h3,B1⟩
 ·refine Aa (λ aB=>⟨⟨by omega,aB⟩,?_⟩) (λ h=>by omega);have hs:Cw cs []:=⟨hR,by simp,by simp,by simp,rfl⟩;refine⟨_,_,_,by rw [L7];exact hb,(Hx (ps:=[]) rfl T hl hn hq ⟨Rd.nil _ _,by simp⟩ (by simp) (by simp [rws])).mono ?_⟩;rintro _ w2 ⟨_,rfl,hW,B2⟩;rcases hW with ⟨aq,_⟩ | ⟨_,bb,rfl,hI⟩
  ·exact absurd hs aq
  have dM:=FA.len hs hI;refine⟨_,_,rfl,(PT (T.grown B2) (Dz bb) (by rw [BL];omega) ⟨cs,[],hs,by rw [CM];exact hI⟩).mono ?_⟩;rintro _ w3 ⟨v,rfl,hO⟩;rw [CM] at hO;obtain⟨g,p,aH,rfl,hg,hA,_,B3⟩:=hO.Ji hs hI;have C3:=Ac B2 B3;refine⟨_,_,rfl,As (λ h=>absurd rfl h) (λ _=>As (λ h=>absurd rfl h) (λ _=>AN ((ST.start w3).Ak λ b4 w4 _ _ S4=>(S4.nil ty.GJ 1).app 0 rfl Aip rfl (by omega) (by omega) (S4.rdc 0 rfl) (mm:=1) rfl (by intro u hu;simp at hu;rw [hu];rfl) (by omega) λ a5 c5 w5 S5=>⟨_,_,_,rfl,next _ _ _ _ (by omega) (.inr ⟨rfl,rfl,g,p,aH,?_,?_,hA.grown S5.Ag,Ac C3 S5.Ag⟩)⟩)))⟩
  ·exact S5.rd 0 rfl
  ·exact (Aq.AQ (F:=λ _=>False) S5.Ag).cell hg (by simp)
 ·exact Aa (λ h=>by omega) (λ _=>⟨g,p,aH,a',c',rfl,h1,h2,h3,B1⟩)
variable {q:Qu}{a1 ai aw ag ao x6 sa:Option Addr}{c1 ci cw cg co l6 ja:Nat}{g7:Bool}{sg:List Sg}{out:List AA}
theorem Mm(A:LP w cs a1 q ai aw ag ao ci c1)(hm:DZ cs q=.ok out)(hs:Rd w sa (sg.map sgV))(eS:sg.length<=9223372036854775807)(hg:∀ s∈sg,YG w s)(dd:sg.all (Th cs)=false) :
  Calls Tryz.prog f.Ml #[.agg #[.slice a1 cs.length c1,.slice ai q.it.length ci,.slice aw q.wh.length cw,.slice ag q.gr.length cg,.slice ao q.od.length co,.int .i64 q.lim,.slice x6 l6 ja,.bool g7],.slice sa sg.length sc] w
   (AD λ r w'=>r=.tuple #[.slice none 0 0,.int .i64 2]/\Below w.heap.size w w'):=by
 apply R.Je
 delta R.A R.Ab R.Uw R.Dd R.D R.E R.F R.G R.H R.I R.Lb R.Li R.Ls R.N R.O R.P R.S;try dsimp only [R.Ps]
 refine (ST.start w).Ak λ b0 w1 _ _ S1=>⟨_,_,_,S1.cell 0 rfl rfl,_,_,_,S1.cell 0 rfl rfl,_,_,_,S1.cell 0 rfl rfl,_,_,_,S1.cell 0 rfl rfl,_,_,_,S1.cell 0 rfl rfl,_,S1.cell 0 rfl rfl,_,_,_,S1.cell 0 rfl rfl,_,S1.cell 0 rfl rfl,(HT (A.grown S1.Ag) (hs.grown S1.Ag) eS (λ s h=>(hg s h).grown S1.Ag)).mono ?_⟩;rintro _ w2 ⟨_,rfl,⟨e,eg,he,rfl,B2⟩ | ⟨out',eg,aC,rfl,B2⟩ | ⟨out',b,eg,aC,rfl,_⟩⟩
 ·rw [hm] at eg;cases eg
 ·exact⟨_,_,rfl,As (λ _=>⟨rfl,Ac S1.Ag B2⟩) (λ h=>by cases h)⟩
 ·rw [dd] at aC;cases aC
theorem Pr(A:LP w cs a1 q ai aw ag ao ci c1)(hm:DZ cs q=.ok out)(hs:Rd w sa (sg.map sgV))(eS:sg.length<=9223372036854775807)(hg:∀ s∈sg,YG w s)(dd:sg.all (Th cs)=false) :
  Calls Tryz.prog f.W0 #[.agg #[.slice a1 cs.length c1,.slice ai q.it.length ci,.slice aw q.wh.length cw,.slice ag q.gr.length cg,.slice ao q.od.length co,.int .i64 q.lim,.slice x6 l6 ja,.bool g7],.slice sa sg.length sc] w
   (AD λ r w'=>r=.tuple #[.int .i64 0,.int .i64 2]/\Below w.heap.size w w'):=by
 apply R.Mk
 delta R.A R.Ab R.Ad R.Uw R.Cb R.E R.F R.G R.H R.I R.Lb R.Li R.Lp R.Ls R.N R.P R.Qii R.S R.W R.X;try dsimp only [R.Ps]
 refine (ST.start w).Ak λ b0 w1 _ _ S1=>⟨_,_,_,S1.cell 0 rfl rfl,_,_,_,S1.cell 0 rfl rfl,_,_,_,S1.cell 0 rfl rfl,_,_,_,S1.cell 0 rfl rfl,_,_,_,S1.cell 0 rfl rfl,_,S1.cell 0 rfl rfl,_,_,_,S1.cell 0 rfl rfl,_,S1.cell 0 rfl rfl,(HT (A.grown S1.Ag) (hs.grown S1.Ag) eS (λ s h=>(hg s h).grown S1.Ag)).mono ?_⟩;rintro _ w2 ⟨_,rfl,⟨e,eg,he,rfl,B2⟩ | ⟨out',eg,aC,rfl,B2⟩ | ⟨out',b,eg,aC,rfl,_⟩⟩
 ·rw [hm] at eg;cases eg
 ·exact⟨_,_,rfl,As (λ _=>⟨rfl,Ac S1.Ag B2⟩) (λ h=>by cases h)⟩
 ·rw [dd] at aC;cases aC
theorem Qp(A:LP w cs a1 q ai aw ag ao ci c1)(T:L6 w)(hG:IE Ru.G1 w){os:List AA}{b1:Option Addr}{d1:Nat}(ho:Rd w b1 (AO os))(pU:os.length<=9223372036854775807)(pV:∀ c∈os,c.1.size<=9223372036854775807) :
  Calls Tryz.prog f.Iv #[.slice a1 cs.length c1,.slice b1 os.length d1,.agg ⟨quL q ai aw ag ao ci cw cg co⟩] w (AD λ v w'=>v=.bool true/\Below w.heap.size w w'):=by
 apply R.II
 delta R.A R.Ab R.EM R.Pj R.AcT R.Dd R.Cb R.E R.F R.G R.I R.J R.Li R.Ls R.N R.O R.P R.S R.Ae R.Zb;try dsimp only [R.Ps]
 refine (ST.start w).Ak λ b7 w1 _ _ S1=>S1.call (Rk (Abp hG S1.Ag)) λ w2 _ S2=>⟨_,rfl,?_⟩;have S2:ST w w2 [Iz b7 q ai aw ag ao ci cw cg co]:=S2;have A2:=A.grown S2.Ag;refine stQ S2 0 rfl ((MU A2.E A2.r A2.n A2.s A2.Q A2.c).mono ?_);rintro _ w3 ⟨_,rfl,a0,c0,bi,di,bw,dw,bg,dg,bo,d_o,a6,c6,rfl,P3,pA,B3⟩;have S3:=S2.grown B3;refine⟨_,_,_,_,_,_,_,_,_,_,_,_,_,_,_,_,_,_,_,_,_,rfl,S3.Ak λ lq w4 _ _ S4=>S4.Aex 0 rfl λ cI bM=>?_⟩;have bM:ST w cI [plI lq (Bi cs q).1 a0 c0 bi di bw dw bg dg bo d_o a6 c6,Iz b7 q ai aw ag ao ci cw cg co]:=bM;refine bM.Ado (RQ (ho.grown bM.Ag) pU pV) ⟨_,rfl,?_⟩;refine⟨λ st w'=>∃ t:Bool,st=[.bool t]/\ST w w' [plI lq (Bi cs q).1 a0 c0 bi di bw dw bg dg bo d_o a6 c6,Iz b7 q ai aw ag ao ci cw cg co]/\(t=true\/((Bi cs q).2=0/\Ai os=true/\cs≠os)),As (λ _=>⟨true,rfl,bM,.inl rfl⟩) (λ h0=>Ap (Ao (λ hr=>(Tc (A.r.grown bM.Ag) (ho.grown bM.Ag) A.n).mono ?_) (λ _=>⟨true,rfl,bM,.inl rfl⟩))),?_⟩
 ·rintro _ bQ ⟨_,rfl,kx,rfl⟩;refine⟨_,rfl,_,rfl,bM.grown kx,?_⟩;by_cases he:cs=os
  ·exact .inl (decide_eq_true he)
  ·exact .inr ⟨h0,hr,he⟩
 ·rintro t bQ ⟨t,aA,aQ,ht⟩;cases aA;refine Ao (λ h1=>stQ aQ 1 rfl ((Vb (A.grown aQ.Ag)).mono ?_)) (λ h1=>?_)
  ·rintro _ bG ⟨_,rfl,a,n,c,e,rfl,he,cS⟩;have C:=(aQ.grown cS).Ag;exact⟨_,_,_,_,rfl,AZ (Aj (λ _=>⟨rfl,C⟩) (λ aV=>⟨by rw [he aV,beq_self_eq_true],C⟩))⟩
  ·obtain⟨h0,hR,aV⟩:(Bi cs q).2=0/\Ai os=true/\cs≠os:=by
    rcases ht with ht | ht
    ·rw [h1] at ht;cases ht
    ·exact ht
   obtain⟨out,hm,_⟩:=AfQ h0;refine aQ.Ak λ dq bG _ _ cC=>(ZL (T.grown cC.Ag) (ho.grown cC.Ag) hR pU pV (cC.cell 0 rfl rfl)).mono ?_;rintro _ cB ⟨_,rfl,g,p,aH,oV,oe,rfl,hp,gH,hA,eV⟩;have au:=cC.grown eV;have bad:[(some (g,os):Sg)].all (Th cs)=false:=by simp [Th,Ne.symm aV]
   have ko:∀ {w'},Below cB.heap.size cB w'->∀ s∈[(some (g,os):Sg)],YG w' s:=by
    intro w' B s hs g' aD e;simp only [List.mem_singleton] at hs;rw [hs] at e;cases e;exact⟨p,aH,0,(Aq.AQ (F:=λ _=>False) B).cell gH (by simp),hA.grown B⟩
   refine⟨_,_,_,_,rfl,Ap (AZ (stQ au 2 rfl ((Mm (sg:=[(some (g,os):Sg)]) (A.grown au.Ag) hm hp (by simp) (ko (.refl _ _)) bad).mono ?_)))⟩;rintro _ cZ ⟨_,rfl,rfl,iD⟩;have cN:=au.grown iD;refine⟨_,_,_,_,rfl,stQ cN 2 rfl (cN.Ak λ oW cM _ iE bn=>(Mm (sg:=[(none:Sg)]) (A.grown bn.Ag) hm (bn.rdc 0 rfl) (by simp) (by intro s hs g' aD e;simp only [List.mem_singleton] at hs;rw [hs] at e;cases e) rfl).mono ?_)⟩;rintro _ cR ⟨_,rfl,rfl,fv⟩;have bN:=bn.grown fv;have fw:=Ac (Ac iD iE) fv;refine⟨_,_,_,_,rfl,stQ bN 3 rfl ((Pr (sg:=[(some (g,os):Sg)]) (A.grown bN.Ag) hm (hp.grown fw) (by simp) (ko fw) bad).mono ?_)⟩;rintro _ fR ⟨_,rfl,rfl,j5⟩;exact⟨_,_,rfl,AZ (AZ (AZ ⟨rfl,(bN.grown j5).Ag⟩))⟩
end
section
variable {P:Program}{w:World}
theorem Vn{n:Nat}{t:TypeId}{cs:List Value}{l:List (TypeId × Nat)}(h:Go.Dn.Good P w (n+1) t cs)(ht:Co P t=some l) :
  cs.length=P.cellsOf t/\∀ x∈l,Go.Dn.Good P w n x.1 ((cs.drop x.2).take (P.cellsOf x.1)):=by
 unfold Co at ht;split at ht
 ·rename_i fs hu;unfold Go.Dn.Good at h;rw [hu] at h;cases ht;refine⟨h.1,λ x hx=>?_⟩;obtain⟨f,hf,rfl⟩:=List.mem_map.1 hx;exact h.2 f hf
 ·cases ht
theorem Xa{n:Nat}{t e:TypeId}{cs:List Value}(h:Go.Dn.Good P w (n+1) t cs)(ht:P.underlying t=some (.slice e)):∃ a len cap,cs=[.slice a len cap]/\len<=cap/\cap<=maxLen/\(a=none->cap=0) /\
  ∃ rows:List (List Value),rows.length=len/\Rd w a rows.flatten/\∀ r∈rows,r.length=P.cellsOf e/\Go.Dn.Good P w n e r:=by
 unfold Go.Dn.Good at h;rw [ht] at h;exact h
end
theorem AcM{x:Int}(h:(Lit.int .i64 x).wf=true):i64 x:=by simpa [Lit.wf,IntKind.min,IntKind.max,IntKind.signed,IntKind.bits] using h
theorem Ew:Tryz.prog.cellsOf ty.int=1:=by kernel_rfl
theorem UK:Tryz.prog.cellsOf ty.int64=1:=by kernel_rfl
theorem HM:Tryz.prog.cellsOf ty.string=1:=by kernel_rfl
theorem OL:Tryz.prog.cellsOf ty.bool=1:=by kernel_rfl
theorem QM:Tryz.prog.cellsOf ty.AX=3:=by kernel_rfl
theorem Tz:Tryz.prog.cellsOf ty.CW=6:=by kernel_rfl
theorem QL:Tryz.prog.cellsOf ty.DH=1:=by kernel_rfl
theorem Aby:Tryz.prog.cellsOf ty.I4=8:=by kernel_rfl
theorem YQ:Tryz.prog.cellsOf ty.KN=1:=by kernel_rfl
theorem YS:Tryz.prog.cellsOf ty.P8=2:=by kernel_rfl
theorem WA:Tryz.prog.cellsOf ty.NN=1:=by kernel_rfl
theorem Abz:Tryz.prog.cellsOf ty.F0=5:=by kernel_rfl
theorem HA:Tryz.prog.underlying ty.int=some (.int .i64):=by kernel_rfl
theorem Aai:Tryz.prog.underlying ty.int64=some (.int .i64):=by kernel_rfl
theorem Nr:Tryz.prog.underlying ty.string=some .string:=by kernel_rfl
theorem Uq:Tryz.prog.underlying ty.bool=some .bool:=by kernel_rfl
theorem Sj:Tryz.prog.underlying ty.DH=some (.slice ty.CW):=by kernel_rfl
theorem AeI:Tryz.prog.underlying ty.KN=some (.slice ty.I4):=by kernel_rfl
theorem AcH:Tryz.prog.underlying ty.NN=some (.slice ty.P8):=by kernel_rfl
theorem Afm:Co Tryz.prog ty.AX=some [(ty.int,0),(ty.int64,1),(ty.string,2)]:=by kernel_rfl
theorem AgZ:Co Tryz.prog ty.CW=some [(ty.int,0),(ty.string,1),(ty.AX,2),(ty.DH,5)]:=by kernel_rfl
theorem Ag0:Co Tryz.prog ty.I4=some [(ty.string,0),(ty.int,1),(ty.CW,2)]:=by kernel_rfl
theorem Afl:Co Tryz.prog ty.P8=some [(ty.int,0),(ty.bool,1)]:=by kernel_rfl
theorem AdK:Co Tryz.prog ty.F0=some [(ty.KN,0),(ty.DH,1),(ty.DH,2),(ty.NN,3),(ty.int,4)]:=by kernel_rfl
section
variable {w:World}
theorem AdQ{n:Nat}{cs:List Value}(h:Go.Dn.Good Tryz.prog w n ty.AX cs):∃ v:AW,cs=[.int .i64 v.1,.int .i64 v.2.1,.string v.2.2]/\i64 v.1/\i64 v.2.1/\v.2.2.size<=maxLen:=by
 obtain⟨hl,m,hf⟩:=h.fields Afm;rw [QM] at hl
 match cs,hl with
 | [v0,v1,v2],_ =>
  simp only [Ajc,Akw,or_false,forall_eq_or_imp,forall_eq,Ew,UK,HM] at hf;obtain⟨h0,h1,h2⟩:=hf;obtain⟨x0,e0,q0⟩:=h0.int HA;obtain⟨x1,e1,q1⟩:=h1.int Aai;obtain⟨x2,e2,q2⟩:=h2.str Nr;simp only [Akd,AkN,AkO,AkP,AkQ,and_true] at e0 e1 e2;exact⟨(x0,x1,x2),by rw [e0,e1,e2],AcM q0,AcM q1,q2⟩
theorem RV{α:Type}{C:α->List Value->Prop}:∀ {rows:List (List Value)},(∀ r∈rows,∃ x,C x r)->∃ xs:List α,xs.length=rows.length/\Ax C xs rows.flatten
 | [],_=>⟨[],rfl,rfl⟩
 | r :: rows,h=>by
  obtain⟨x,hx⟩:=h r (by simp);obtain⟨xs,h1,h2⟩:=RV (rows:=rows) λ r hr=>h r (by simp [hr]);exact⟨x :: xs,by simp [h1],by rw [List.flatten_cons];exact⟨r,_,rfl,hx,h2⟩⟩
theorem Vm:∀(n:Nat) (cs:List Value),Go.Dn.Good Tryz.prog w n ty.CW cs->∃ x,DT (λ _=>False) w x cs:=by
 intro n
 induction n using Nat.strongRecOn with
 | ind n ih =>
  intro cs h;cases n with
  | zero=>exact h.elim
  | succ n =>
   obtain⟨hl,hf⟩:=Vn h AgZ;rw [Tz] at hl
   match cs,hl with
   | [v0,v1,v2,v3,v4,v5],_ =>
    simp only [Ajc,Akw,or_false,forall_eq_or_imp,forall_eq,Ew,HM,QM,QL] at hf;obtain⟨h0,h1,h2,h5⟩:=hf;obtain⟨x0,e0,q0⟩:=h0.int HA;obtain⟨x1,e1,q1⟩:=h1.str Nr;obtain⟨v,e2,q2,q3,q4⟩:=AdQ h2;cases n with
    | zero=>exact h5.elim
    | succ n =>
     obtain⟨a,len,cap,e5,g1,g2,g3,rows,rfl,g4,g5⟩:=Xa h5 Sj;obtain⟨ks,k1,k2⟩:=RV (C:=DT (λ _=>False) w) (rows:=rows) λ r hr=>ih n (by omega) r (g5 r hr).2;simp only [Akd,AkN,AkO,AkP,AkQ,and_true] at e0 e1 e2 e5;obtain⟨e2,e3,e4⟩:=e2;refine⟨.mk x0 x1 v ks,?_⟩;have:=DT.close (F:=λ _=>False) (w:=w) (x:=.mk x0 x1 v ks) (a:=a) (cap:=cap) g4 (λ _ _ _ h=>h) (by show ks.length<=cap;omega) g2 g3 ⟨AcM q0,q1,q2,q3,q4⟩ (F2.1 k2);rw [e0,e1,e2,e3,e4,e5];rw [<- k1];exact this
theorem Afn{n:Nat}{cs:List Value}(h:Go.Dn.Good Tryz.prog w n ty.I4 cs):∃ x,LX (λ _=>False) w x cs:=by
 obtain⟨hl,m,hf⟩:=h.fields Ag0;rw [Aby] at hl
 match cs,hl with
 | v0 :: v1 :: c,hl =>
  simp only [Ajc,Akw,or_false,forall_eq_or_imp,forall_eq,Ew,HM,Tz] at hf;obtain⟨h0,h1,h2⟩:=hf;obtain⟨x0,e0,q0⟩:=h0.str Nr;obtain⟨x1,e1,q1⟩:=h1.int HA;simp only [Akd,AkN,AkO,AkP,AkQ,and_true] at e0 e1 h2;rw [List.take_of_length_le (by simp at hl;omega)] at h2;obtain⟨x,hx⟩:=Vm _ _ h2;exact⟨(x0,x1,x),c,by rw [e0,e1],hx,q0,AcM q1⟩
theorem AdP{n:Nat}{cs:List Value}(h:Go.Dn.Good Tryz.prog w n ty.P8 cs):∃ x,Lh x cs:=by
 obtain⟨hl,m,hf⟩:=h.fields Afl;rw [YS] at hl
 match cs,hl with
 | [v0,v1],_ =>
  simp only [Ajc,Akw,or_false,forall_eq_or_imp,forall_eq,Ew,OL] at hf;obtain⟨h0,h1⟩:=hf;obtain⟨x0,e0,q0⟩:=h0.int HA;obtain⟨x1,e1⟩:=h1.bool Uq;simp only [Akd,AkN,AkO,AkP,AkQ,and_true] at e0 e1;exact⟨(x0,x1),by rw [e0,e1],AcM q0⟩
theorem Qb{α:Type}{C:α->List Value->Prop}{n:Nat}{t e:TypeId}{cs:List Value}(h:Go.Dn.Good Tryz.prog w n t cs)(ht:Tryz.prog.underlying t=some (.slice e))(hC:∀ m r,Go.Dn.Good Tryz.prog w m e r->∃ x,C x r):∃ l v,cs=[v]/\SlC (λ _=>False) w C l v:=by
 obtain⟨a,len,cap,rfl,h1,h2,h3,m,rows,rfl,hr,hrs⟩:=h.slice ht;obtain⟨l,k1,k2⟩:=RV (C:=C) (rows:=rows) λ r hr=>hC m r (hrs r hr).2;exact⟨l,_,rfl,⟨a,cap,_,by rw [k1],hr,λ _ _ _ h=>h,by omega,h2,h3,k2⟩⟩
theorem Afo{n:Nat}{cs:List Value}(h:Go.Dn.Good Tryz.prog w n ty.F0 cs):∃ q,QuC (λ _=>False) w q cs:=by
 obtain⟨hl,m,hf⟩:=h.fields AdK;rw [Abz] at hl
 match cs,hl with
 | [v0,v1,v2,v3,v4],_ =>
  simp only [Ajc,Akw,or_false,forall_eq_or_imp,forall_eq,Ew,YQ,QL,WA] at hf;obtain⟨h0,h1,h2,h3,h4⟩:=hf;obtain⟨l0,u0,e0,s0⟩:=Qb h0 AeI λ _ _ h=>Afn h;obtain⟨l1,u1,e1,s1⟩:=Qb h1 Sj λ _ _ h=>Vm _ _ h;obtain⟨l2,u2,e2,s2⟩:=Qb h2 Sj λ _ _ h=>Vm _ _ h;obtain⟨l3,u3,e3,s3⟩:=Qb h3 AcH λ _ _ h=>AdP h;obtain⟨x4,e4,q4⟩:=h4.int HA;simp only [Akd,AkN,AkO,AkP,AkQ,and_true] at e0 e1 e2 e3 e4;refine⟨⟨l0,l1,l2,l3,x4⟩,⟨u0,u1,u2,u3,by rw [e0,e1,e2,e3,e4],s0,s1,s2,s3,AcM q4⟩⟩
end
def Ae5(c:AA):Prop:=c.1.size<=maxLen
theorem Afk:Co Tryz.prog ty.Bt=some [(ty.string,0),(ty.int,1),(ty.bool,2)]:=by kernel_rfl
theorem YR:Tryz.prog.cellsOf ty.Bt=3:=by kernel_rfl
theorem Is{w:World}:∀ m r,r.length=Tryz.prog.cellsOf ty.Bt->Go.Dn.Good Tryz.prog w m ty.Bt r->∃ x,r=Hi x/\Ae5 x:=by
 intro m r hl h;obtain⟨_,n,hf⟩:=h.fields Afk;rw [YR] at hl
 match r,hl with
 | [v0,v1,v2],_ =>
  simp only [Ajc,Akw,or_false,forall_eq_or_imp,forall_eq,Ew,OL,HM] at hf;obtain⟨h0,h1,h2⟩:=hf;obtain⟨x0,e0,q0⟩:=h0.str Nr;obtain⟨x1,e1,q1⟩:=h1.int HA;obtain⟨x2,e2⟩:=h2.bool Uq;refine⟨(x0,x1,x2),?_,q0⟩;simp only [Akd,AkN,AkO,AkP,AkQ,and_true] at e0 e1 e2;rw [e0,e1,e2];rfl
theorem AfJ{H:Type}{enc:TypeId × Value->H}{W:World}{base b:Nat}{sp:Nat->Bool}{held:Bool}{v:Value}{d:DataW H}{p:List MemPlace}(hv:Value.okWide Tryz.prog W .any base ty.F0 v)(h:DataW.Trod enc Tryz.prog W b sp held ty.F0 v d p) :
  ∃ x:List Value,v=.agg ⟨x⟩/\∃ q,QuC (λ _=>False) W q x:=by
 obtain⟨cs,rfl⟩:=ZJ AdK hv;obtain⟨n,hn⟩:=h;obtain⟨q,hq⟩:=Afo (Eb n _ _ _ hn);exact⟨cs.toList,rfl,q,hq⟩
theorem Ae0{w:World}(E:Env w){a:Option Addr}{cs:List AA}{c:Nat}(g:GL w Hi Ae5 a cs c){x:List Value}(hx:∃ q,QuC (λ _=>False) w q x) :
  ∃ q ai aw ag ao ci cw cg co,x=quL q ai aw ag ao ci cw cg co/\LP w cs a q ai aw ag ao ci c:=by
 obtain⟨q,hq⟩:=hx;obtain⟨ai,aw,ag,ao,ci,cw,cg,co,rfl,Q,gE,_⟩:=hq.at;exact⟨q,ai,aw,ag,ao,ci,cw,cg,co,rfl,E,g.2.2.2.1,AjD (AjD g.1 g.2.1) (by decide),λ v hv=>AjD (g.2.2.2.2 v hv) (by decide),Q,gE,g.1⟩
theorem LV{w:World}(E:XE w)(a:Option Addr)(cs:List AA)(c:Nat)(g:GL w Hi Ae5 a cs c)(_y:c*Tryz.prog.bytesOf ty.Bt<=reachBytes)(a2:Option Addr)(os:List AA)(c2:Nat)(g2:GL w Hi Ae5 a2 os c2)(_y2:c2*Tryz.prog.bytesOf ty.Bt<=reachBytes)(x:List Value)(hx:∃ q,QuC (λ _=>False) w q x) :
  Calls Tryz.prog f.Iv #[.slice a cs.length c,.slice a2 os.length c2,.agg ⟨x⟩] w (AD λ r w'=>r=.bool true/\Below w.heap.size w w'):=by
 obtain⟨q,ai,aw,ag,ao,ci,cw,cg,co,rfl,A⟩:=Ae0 E.E g hx;exact Qp A E.T E.G g2.2.2.2.1 (AjD (AjD g2.1 g2.2.1) (by decide)) (λ v hv=>AjD (g2.2.2.2.2 v hv) (by decide))
end Go.Proofs.YtegnhfeclchlmaaGreatDoor
