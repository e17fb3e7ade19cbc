/- The functions, as they are read. No conditions. -/
import Derived.Test.YtgmljppiiighmaaGreatDoorFN
namespace Go.Proofs.YtgmljppiiighmaaGreatDoor.Ab
/-- laws FnExactReadState -/
def F_laws_FnExactReadState : Fun := ⟨1,
 (.seq
 (.seq (.ops [⟨(some 2), (.mov (.c (.bool false))), none⟩])
 (.keep [0]))
 (.seq
 (.seq
 (.seq (.ops [⟨(some 11), (.mov (.t 0)), none⟩,
 ⟨(some 12), (.lnS (.t 11)), none⟩,
 ⟨(some 13), (.bin .gtr (.t 12) (.c (.int .i64 1048576))), none⟩])
 (.keep [0, 13]))
 (.cond (.t 13)
 (.seq
 (.seq (.ops [⟨(some 2), (.mov (.c (.bool true))), none⟩])
 (.keep [2]))
 .ret)
 .skip))
 (.seq
 (.seq (.ops [⟨(some 15), (.mov (.t 0)), none⟩,
 ⟨(some 16), (.call n_spec_ReadState [(.t 15)]), none⟩,
 ⟨(some 14), (.mov (.t 16)), none⟩,
 ⟨(some 17), (.ext 0 (.t 14)), none⟩,
 ⟨(some 18), (.ext 1 (.t 14)), none⟩,
 ⟨(some 3), (.mov (.t 17)), none⟩,
 ⟨(some 4), (.mov (.t 18)), none⟩])
 (.keep [0, 3, 4]))
 (.seq
 (.seq (.ops [⟨(some 20), (.mov (.t 0)), none⟩,
 ⟨(some 21), (.call n_impl_ReadState [(.t 20)]), none⟩,
 ⟨(some 19), (.mov (.t 21)), none⟩,
 ⟨(some 22), (.ext 0 (.t 19)), none⟩,
 ⟨(some 23), (.ext 1 (.t 19)), none⟩,
 ⟨(some 5), (.mov (.t 22)), none⟩,
 ⟨(some 6), (.mov (.t 23)), none⟩])
 (.keep [0, 3, 4, 5, 6]))
 (.seq
 (.seq
 (.seq (.ops [⟨(some 24), (.mov (.t 5)), none⟩,
 ⟨(some 25), (.mov (.t 3)), none⟩,
 ⟨(some 26), (.call n_laws_eqPairS [(.t 24), (.t 25)]), none⟩,
 ⟨(some 27), (.un .not (.t 26)), none⟩,
 ⟨(some 28), (.mov (.t 27)), none⟩,
 ⟨(some 29), (.mov (.t 6)), (some (28, false))⟩,
 ⟨(some 30), (.mov (.t 4)), (some (28, false))⟩,
 ⟨(some 31), (.binB .neq (.t 29) (.t 30)), (some (28, false))⟩,
 ⟨(some 32), (.pick (.t 28) (.c (.bool true)) (.t 31)), none⟩])
 (.keep [0, 3, 4, 5, 32]))
 (.cond (.t 32)
 (.seq
 (.seq (.ops [⟨(some 2), (.mov (.c (.bool false))), none⟩])
 (.keep [2]))
 .ret)
 .skip))
 (.seq
 (.seq (.ops [⟨(some 7), (.mov (.c (.int .i64 1))), none⟩])
 (.keep [0, 3, 4, 5, 7]))
 (.seq
 (.seq (.ops [⟨(some 33), (.mov (.t 5)), none⟩,
 ⟨(some 34), (.mov (.t 7)), none⟩,
 ⟨(some 35), (.call n_laws_markPairS [(.t 33), (.t 34)]), none⟩,
 ⟨(some 7), (.mov (.t 35)), none⟩])
 (.keep [0, 3, 4, 5, 7]))
 (.seq
 (.seq (.ops [⟨(some 8), (.mov (.c (.int .i64 1))), none⟩])
 (.keep [0, 3, 4, 5, 7, 8]))
 (.seq
 (.seq (.ops [⟨(some 36), (.mov (.t 5)), none⟩,
 ⟨(some 37), (.mov (.t 8)), none⟩,
 ⟨(some 38), (.call n_laws_heldPairS [(.t 36), (.t 37)]), none⟩,
 ⟨(some 8), (.mov (.t 38)), none⟩])
 (.keep [0, 3, 4, 5, 7, 8]))
 (.seq
 (.seq
 (.seq (.ops [⟨(some 39), (.mov (.t 8)), none⟩,
 ⟨(some 40), (.bin .lss (.t 39) (.c (.int .i64 0))), none⟩])
 (.keep [0, 3, 4, 5, 7, 8, 40]))
 (.cond (.t 40)
 (.seq
 (.seq (.ops [⟨(some 2), (.mov (.c (.bool false))), none⟩])
 (.keep [2]))
 .ret)
 .skip))
 (.seq
 (.seq
 (.seq (.ops [⟨(some 41), (.mov (.t 8)), none⟩,
 ⟨(some 42), (.mov (.t 7)), none⟩,
 ⟨(some 43), (.bin .neq (.t 41) (.t 42)), none⟩])
 (.keep [0, 3, 4, 5, 7, 43]))
 (.cond (.t 43)
 (.seq
 (.seq (.ops [⟨(some 2), (.mov (.c (.bool false))), none⟩])
 (.keep [2]))
 .ret)
 .skip))
 (.seq
 (.seq (.ops [⟨(some 45), (.mov (.t 0)), none⟩,
 ⟨(some 46), (.call n_impl_ReadState [(.t 45)]), none⟩,
 ⟨(some 44), (.mov (.t 46)), none⟩,
 ⟨(some 47), (.ext 0 (.t 44)), none⟩,
 ⟨(some 48), (.ext 1 (.t 44)), none⟩,
 ⟨(some 9), (.mov (.t 47)), none⟩,
 ⟨(some 10), (.mov (.t 48)), none⟩])
 (.keep [3, 4, 5, 7, 9, 10]))
 (.seq
 (.seq
 (.seq (.ops [⟨(some 49), (.mov (.t 9)), none⟩,
 ⟨(some 50), (.mov (.t 3)), none⟩,
 ⟨(some 51), (.call n_laws_eqPairS [(.t 49), (.t 50)]), none⟩,
 ⟨(some 52), (.un .not (.t 51)), none⟩,
 ⟨(some 53), (.mov (.t 52)), none⟩,
 ⟨(some 54), (.mov (.t 10)), (some (53, false))⟩,
 ⟨(some 55), (.mov (.t 4)), (some (53, false))⟩,
 ⟨(some 56), (.binB .neq (.t 54) (.t 55)), (some (53, false))⟩,
 ⟨(some 57), (.pick (.t 53) (.c (.bool true)) (.t 56)), none⟩])
 (.keep [5, 7, 57]))
 (.cond (.t 57)
 (.seq
 (.seq (.ops [⟨(some 2), (.mov (.c (.bool false))), none⟩])
 (.keep [2]))
 .ret)
 .skip))
 (.seq
 (.seq (.ops [⟨(some 8), (.mov (.c (.int .i64 1))), none⟩])
 (.keep [5, 7, 8]))
 (.seq
 (.seq (.ops [⟨(some 58), (.mov (.t 5)), none⟩,
 ⟨(some 59), (.mov (.t 8)), none⟩,
 ⟨(some 60), (.call n_laws_heldPairS [(.t 58), (.t 59)]), none⟩,
 ⟨(some 8), (.mov (.t 60)), none⟩])
 (.keep [7, 8]))
 (.seq
 (.seq
 (.seq (.ops [⟨(some 61), (.mov (.t 8)), none⟩,
 ⟨(some 62), (.bin .lss (.t 61) (.c (.int .i64 0))), none⟩])
 (.keep [7, 8, 62]))
 (.cond (.t 62)
 (.seq
 (.seq (.ops [⟨(some 2), (.mov (.c (.bool false))), none⟩])
 (.keep [2]))
 .ret)
 .skip))
 (.seq
 (.seq
 (.seq (.ops [⟨(some 63), (.mov (.t 8)), none⟩,
 ⟨(some 64), (.mov (.t 7)), none⟩,
 ⟨(some 65), (.bin .neq (.t 63) (.t 64)), none⟩])
 (.keep [65]))
 (.cond (.t 65)
 (.seq
 (.seq (.ops [⟨(some 2), (.mov (.c (.bool false))), none⟩])
 (.keep [2]))
 .ret)
 .skip))
 (.seq
 (.seq (.ops [⟨(some 2), (.mov (.c (.bool true))), none⟩])
 (.keep [2]))
 .ret)))))))))))))))))),
 [(.slot 2)]⟩
/-- laws eqPairS -/
def F_laws_eqPairS : Fun := ⟨2,
 (.seq
 (.seq (.ops [⟨(some 4), (.mov (.c (.bool false))), none⟩])
 (.keep [0, 1]))
 (.seq
 (.seq
 (.seq (.ops [⟨(some 6), (.mov (.t 0)), none⟩,
 ⟨(some 7), (.ln (.t 6)), none⟩,
 ⟨(some 8), (.mov (.t 1)), none⟩,
 ⟨(some 9), (.ln (.t 8)), none⟩,
 ⟨(some 10), (.bin .neq (.t 7) (.t 9)), none⟩])
 (.keep [0, 1, 10]))
 (.cond (.t 10)
 (.seq
 (.seq (.ops [⟨(some 4), (.mov (.c (.bool false))), none⟩])
 (.keep [4]))
 .ret)
 .skip))
 (.seq
 (.seq
 (.seq (.ops [⟨(some 5), (.mov (.c (.int .i64 0))), none⟩])
 (.keep [0, 1, 5]))
 (.block 0
 (.loop
 (.seq
 (.seq
 (.seq (.ops [⟨(some 11), (.mov (.t 5)), none⟩,
 ⟨(some 12), (.mov (.t 0)), none⟩,
 ⟨(some 13), (.ln (.t 12)), none⟩,
 ⟨(some 14), (.bin .lss (.t 11) (.t 13)), none⟩])
 (.keep [0, 1, 5, 14]))
 (.cond (.t 14)
 .skip
 (.exit 0)))
 (.seq
 (.block 1
 (.seq
 (.seq (.free true [⟨(some 17), (.mov (.t 0)), none⟩,
 ⟨(some 18), (.mov (.t 5)), none⟩,
 ⟨(some 19), (.ia 2 (.t 17) (.t 18)), none⟩,
 ⟨(some 20), (.ld 2 true (.t 19)), none⟩,
 ⟨(some 21), (.mov (.t 1)), none⟩,
 ⟨(some 22), (.mov (.t 5)), none⟩,
 ⟨(some 23), (.ia 2 (.t 21) (.t 22)), none⟩,
 ⟨(some 24), (.ld 2 true (.t 23)), none⟩,
 ⟨(some 25), (.call n_laws_eqPair [(.t 20), (.t 24)]), none⟩,
 ⟨(some 26), (.un .not (.t 25)), none⟩])
 (.keep [0, 1, 5, 26]))
 (.cond (.t 26)
 (.seq
 (.seq (.ops [⟨(some 4), (.mov (.c (.bool false))), none⟩])
 (.keep [4]))
 .ret)
 .skip)))
 (.seq (.ops [⟨(some 15), (.mov (.t 5)), none⟩,
 ⟨(some 16), (.bin .add (.t 15) (.c (.int .i64 1))), none⟩,
 ⟨(some 5), (.mov (.t 16)), none⟩])
 (.keep [0, 1, 5])))))))
 (.seq
 (.seq (.ops [⟨(some 4), (.mov (.c (.bool true))), none⟩])
 (.keep [4]))
 .ret)))),
 [(.slot 4)]⟩
/-- spec StateText -/
def F_spec_StateText : Fun := ⟨1,
 (.seq
 (.seq (.ops [⟨(some 2), (.mov (.c (.string ⟨⟨[]⟩⟩))), none⟩,
 ⟨(some 3), (.mov (.c (.bool false))), none⟩])
 (.keep [0]))
 (.seq
 (.seq
 (.seq (.ops [⟨(some 6), (.mov (.t 0)), none⟩,
 ⟨(some 7), (.call n_spec_StateOk [(.t 6)]), none⟩,
 ⟨(some 8), (.un .not (.t 7)), none⟩])
 (.keep [0, 8]))
 (.cond (.t 8)
 (.seq
 (.seq (.ops [⟨(some 2), (.mov (.c (.string ⟨⟨[]⟩⟩))), none⟩,
 ⟨(some 3), (.mov (.c (.bool false))), none⟩])
 (.keep [2, 3]))
 .ret)
 .skip))
 (.seq
 (.seq (.ops [⟨(some 9), (.mov (.t 0)), none⟩,
 ⟨(some 10), (.ln (.t 9)), none⟩,
 ⟨(some 11), (.call n_spec_l01Var [(.t 10)]), none⟩,
 ⟨(some 4), (.mov (.t 11)), none⟩])
 (.keep [0, 4]))
 (.seq
 (.seq
 (.seq (.ops [⟨(some 5), (.mov (.c (.int .i64 0))), none⟩])
 (.keep [0, 4, 5]))
 (.block 0
 (.loop
 (.seq
 (.seq
 (.seq (.ops [⟨(some 12), (.mov (.t 5)), none⟩,
 ⟨(some 13), (.mov (.t 0)), none⟩,
 ⟨(some 14), (.ln (.t 13)), none⟩,
 ⟨(some 15), (.bin .lss (.t 12) (.t 14)), none⟩])
 (.keep [0, 4, 5, 15]))
 (.cond (.t 15)
 .skip
 (.exit 0)))
 (.seq
 (.block 1
 (.seq (.free false [⟨(some 18), (.mov (.t 4)), none⟩,
 ⟨(some 19), (.mov (.t 0)), none⟩,
 ⟨(some 20), (.mov (.t 5)), none⟩,
 ⟨(some 21), (.ia 2 (.t 19) (.t 20)), none⟩,
 ⟨(some 22), (.fa 0 (.t 21)), none⟩,
 ⟨(some 23), (.ld 1 false (.t 22)), none⟩,
 ⟨(some 24), (.call n_spec_l04Short [(.t 23)]), none⟩,
 ⟨(some 25), (.bin .add (.t 18) (.t 24)), none⟩,
 ⟨(some 26), (.mov (.t 0)), none⟩,
 ⟨(some 27), (.mov (.t 5)), none⟩,
 ⟨(some 28), (.ia 2 (.t 26) (.t 27)), none⟩,
 ⟨(some 29), (.fa 1 (.t 28)), none⟩,
 ⟨(some 30), (.ld 1 false (.t 29)), none⟩,
 ⟨(some 31), (.call n_spec_l04Short [(.t 30)]), none⟩,
 ⟨(some 32), (.bin .add (.t 25) (.t 31)), none⟩,
 ⟨(some 4), (.mov (.t 32)), none⟩])
 (.keep [0, 4, 5])))
 (.seq (.ops [⟨(some 16), (.mov (.t 5)), none⟩,
 ⟨(some 17), (.bin .add (.t 16) (.c (.int .i64 1))), none⟩,
 ⟨(some 5), (.mov (.t 17)), none⟩])
 (.keep [0, 4, 5])))))))
 (.seq
 (.seq (.ops [⟨(some 33), (.mov (.t 4)), none⟩,
 ⟨(some 34), (.call n_spec_Sealed [(.t 33)]), none⟩,
 ⟨(some 35), (.ext 0 (.t 34)), none⟩,
 ⟨(some 36), (.ext 1 (.t 34)), none⟩,
 ⟨(some 2), (.mov (.t 35)), none⟩,
 ⟨(some 3), (.mov (.t 36)), none⟩])
 (.keep [2, 3]))
 .ret))))),
 [(.slot 2), (.slot 3)]⟩
/-- spec ReadState -/
def F_spec_ReadState : Fun := ⟨1,
 (.seq
 (.seq (.ops [⟨(some 2), (.mov (.c (.slice none 0 0))), none⟩,
 ⟨(some 3), (.mov (.c (.bool false))), none⟩])
 (.keep [0]))
 (.seq
 (.seq (.ops [⟨(some 20), (.mov (.t 0)), none⟩,
 ⟨(some 21), (.call n_spec_Unsealed [(.t 20)]), none⟩,
 ⟨(some 19), (.mov (.t 21)), none⟩,
 ⟨(some 22), (.ext 0 (.t 19)), none⟩,
 ⟨(some 23), (.ext 1 (.t 19)), none⟩,
 ⟨(some 4), (.mov (.t 22)), none⟩,
 ⟨(some 5), (.mov (.t 23)), none⟩])
 (.keep [0, 4, 5]))
 (.seq
 (.seq (.ops [⟨(some 25), (.mov (.t 4)), none⟩,
 ⟨(some 26), (.call n_spec_ReadVar [(.t 25), (.c (.int .i64 0))]), none⟩,
 ⟨(some 24), (.mov (.t 26)), none⟩,
 ⟨(some 27), (.ext 0 (.t 24)), none⟩,
 ⟨(some 28), (.ext 1 (.t 24)), none⟩,
 ⟨(some 29), (.ext 2 (.t 24)), none⟩,
 ⟨(some 6), (.mov (.t 27)), none⟩,
 ⟨(some 7), (.mov (.t 28)), none⟩,
 ⟨(some 8), (.mov (.t 29)), none⟩])
 (.keep [0, 4, 5, 6, 7, 8]))
 (.seq
 (.seq (.ops [⟨(some 30), (.lit 0 2 y_Pair [(.string ⟨⟨[]⟩⟩), (.string ⟨⟨[]⟩⟩)] []), none⟩,
 ⟨(some 9), (.mov (.t 30)), none⟩])
 (.keep [0, 4, 5, 6, 7, 8, 9]))
 (.seq
 (.seq (.ops [⟨(some 31), (.mov (.t 5)), none⟩,
 ⟨(some 32), (.mov (.t 31)), none⟩,
 ⟨(some 33), (.mov (.t 8)), (some (32, true))⟩,
 ⟨(some 34), (.pick (.t 32) (.t 33) (.c (.bool false))), none⟩,
 ⟨(some 5), (.mov (.t 34)), none⟩])
 (.keep [0, 4, 5, 6, 7, 9]))
 (.seq
 (.seq
 (.seq (.ops [⟨(some 10), (.mov (.c (.int .i64 0))), none⟩])
 (.keep [0, 4, 5, 6, 7, 9, 10]))
 (.block 0
 (.loop
 (.seq
 (.seq
 (.seq (.ops [⟨(some 35), (.mov (.t 10)), none⟩,
 ⟨(some 36), (.mov (.t 6)), none⟩,
 ⟨(some 37), (.bin .lss (.t 35) (.t 36)), none⟩,
 ⟨(some 38), (.mov (.t 37)), none⟩,
 ⟨(some 39), (.mov (.t 5)), (some (38, true))⟩,
 ⟨(some 40), (.pick (.t 38) (.t 39) (.c (.bool false))), none⟩,
 ⟨(some 41), (.mov (.t 40)), none⟩,
 ⟨(some 42), (.mov (.t 10)), (some (41, true))⟩,
 ⟨(some 43), (.bin .leq (.t 42) (.c (.int .i64 120))), (some (41, true))⟩,
 ⟨(some 44), (.pick (.t 41) (.t 43) (.c (.bool false))), none⟩])
 (.keep [0, 4, 5, 6, 7, 9, 10, 44]))
 (.cond (.t 44)
 .skip
 (.exit 0)))
 (.seq
 (.block 1
 (.seq
 (.seq (.ops [⟨(some 48), (.mov (.t 4)), none⟩,
 ⟨(some 49), (.mov (.t 7)), none⟩,
 ⟨(some 50), (.call n_spec_ReadShort [(.t 48), (.t 49)]), none⟩,
 ⟨(some 47), (.mov (.t 50)), none⟩,
 ⟨(some 51), (.ext 0 (.t 47)), none⟩,
 ⟨(some 52), (.ext 1 (.t 47)), none⟩,
 ⟨(some 53), (.ext 2 (.t 47)), none⟩,
 ⟨(some 11), (.mov (.t 51)), none⟩,
 ⟨(some 12), (.mov (.t 52)), none⟩,
 ⟨(some 13), (.mov (.t 53)), none⟩])
 (.keep [0, 4, 6, 9, 10, 11, 12, 13]))
 (.seq
 (.seq (.ops [⟨(some 55), (.mov (.t 4)), none⟩,
 ⟨(some 56), (.mov (.t 12)), none⟩,
 ⟨(some 57), (.call n_spec_ReadShort [(.t 55), (.t 56)]), none⟩,
 ⟨(some 54), (.mov (.t 57)), none⟩,
 ⟨(some 58), (.ext 0 (.t 54)), none⟩,
 ⟨(some 59), (.ext 1 (.t 54)), none⟩,
 ⟨(some 60), (.ext 2 (.t 54)), none⟩,
 ⟨(some 14), (.mov (.t 58)), none⟩,
 ⟨(some 15), (.mov (.t 59)), none⟩,
 ⟨(some 16), (.mov (.t 60)), none⟩])
 (.keep [0, 4, 6, 9, 10, 11, 13, 14, 15, 16]))
 (.seq
 (.seq (.ops [⟨(some 61), (.mov (.t 13)), none⟩,
 ⟨(some 62), (.mov (.t 61)), none⟩,
 ⟨(some 63), (.mov (.t 16)), (some (62, true))⟩,
 ⟨(some 64), (.pick (.t 62) (.t 63) (.c (.bool false))), none⟩,
 ⟨(some 5), (.mov (.t 64)), none⟩])
 (.keep [0, 4, 5, 6, 9, 10, 11, 14, 15]))
 (.seq
 (.seq (.ops [⟨(some 65), (.mov (.t 15)), none⟩,
 ⟨(some 7), (.mov (.t 65)), none⟩])
 (.keep [0, 4, 5, 6, 7, 9, 10, 11, 14]))
 (.seq (.ops [⟨(some 66), (.mov (.t 9)), none⟩,
 ⟨(some 67), (.mov (.t 11)), none⟩,
 ⟨(some 68), (.mov (.t 14)), none⟩,
 ⟨(some 69), (.bld [(.string ⟨⟨[]⟩⟩), (.string ⟨⟨[]⟩⟩)] [(0, (1, (.t 67))), (1, (1, (.t 68)))]), none⟩,
 ⟨(some 70), (.litL 1 2 [(.string ⟨⟨[]⟩⟩), (.string ⟨⟨[]⟩⟩)] [(0, (.t 69))]), none⟩,
 ⟨(some 71), (.appL 2 y_Pair 32 1 (.t 66) 70), none⟩,
 ⟨(some 9), (.mov (.t 71)), none⟩])
 (.keep [0, 4, 5, 6, 7, 9, 10])))))))
 (.seq (.ops [⟨(some 45), (.mov (.t 10)), none⟩,
 ⟨(some 46), (.bin .add (.t 45) (.c (.int .i64 1))), none⟩,
 ⟨(some 10), (.mov (.t 46)), none⟩])
 (.keep [0, 4, 5, 6, 7, 9, 10])))))))
 (.seq
 (.seq (.ops [⟨(some 73), (.mov (.t 9)), none⟩,
 ⟨(some 74), (.call n_spec_StateText [(.t 73)]), none⟩,
 ⟨(some 72), (.mov (.t 74)), none⟩,
 ⟨(some 75), (.ext 0 (.t 72)), none⟩,
 ⟨(some 76), (.ext 1 (.t 72)), none⟩,
 ⟨(some 17), (.mov (.t 75)), none⟩,
 ⟨(some 18), (.mov (.t 76)), none⟩])
 (.keep [0, 5, 9, 17, 18]))
 (.seq
 (.seq
 (.seq (.ops [⟨(some 77), (.mov (.t 5)), none⟩,
 ⟨(some 78), (.un .not (.t 77)), none⟩,
 ⟨(some 79), (.mov (.t 78)), none⟩,
 ⟨(some 80), (.mov (.t 18)), (some (79, false))⟩,
 ⟨(some 81), (.un .not (.t 80)), (some (79, false))⟩,
 ⟨(some 82), (.pick (.t 79) (.c (.bool true)) (.t 81)), none⟩,
 ⟨(some 83), (.mov (.t 82)), none⟩,
 ⟨(some 84), (.mov (.t 17)), (some (83, false))⟩,
 ⟨(some 85), (.mov (.t 0)), (some (83, false))⟩,
 ⟨(some 86), (.bin .neq (.t 84) (.t 85)), (some (83, false))⟩,
 ⟨(some 87), (.pick (.t 83) (.c (.bool true)) (.t 86)), none⟩])
 (.keep [9, 87]))
 (.cond (.t 87)
 (.seq
 (.seq (.ops [⟨(some 88), (.lit 0 2 y_Pair [(.string ⟨⟨[]⟩⟩), (.string ⟨⟨[]⟩⟩)] []), none⟩,
 ⟨(some 2), (.mov (.t 88)), none⟩,
 ⟨(some 3), (.mov (.c (.bool false))), none⟩])
 (.keep [2, 3]))
 .ret)
 .skip))
 (.seq
 (.seq (.ops [⟨(some 89), (.mov (.t 9)), none⟩,
 ⟨(some 2), (.mov (.t 89)), none⟩,
 ⟨(some 3), (.mov (.c (.bool true))), none⟩])
 (.keep [2, 3]))
 .ret))))))))),
 [(.slot 2), (.slot 3)]⟩
/-- impl ReadState -/
def F_impl_ReadState : Fun := ⟨1,
 (.seq
 (.seq (.ops [⟨(some 2), (.mov (.c (.slice none 0 0))), none⟩,
 ⟨(some 3), (.mov (.c (.bool false))), none⟩])
 (.keep [0]))
 (.seq
 (.seq (.ops [⟨(some 12), (.mov (.t 0)), none⟩,
 ⟨(some 13), (.call n_impl_Unsealed [(.t 12)]), none⟩,
 ⟨(some 11), (.mov (.t 13)), none⟩,
 ⟨(some 14), (.ext 0 (.t 11)), none⟩,
 ⟨(some 15), (.ext 1 (.t 11)), none⟩,
 ⟨(some 4), (.mov (.t 14)), none⟩,
 ⟨(some 5), (.mov (.t 15)), none⟩])
 (.keep [4, 5]))
 (.seq
 (.seq
 (.seq (.ops [⟨(some 16), (.mov (.t 5)), none⟩,
 ⟨(some 17), (.un .not (.t 16)), none⟩])
 (.keep [4, 17]))
 (.cond (.t 17)
 (.seq
 (.seq (.ops [⟨(some 2), (.mov (.c (.slice none 0 0))), none⟩,
 ⟨(some 3), (.mov (.c (.bool false))), none⟩])
 (.keep [2, 3]))
 .ret)
 .skip))
 (.seq
 (.seq (.ops [⟨(some 18), (.mov (.t 4)), none⟩,
 ⟨(some 19), (.bld [(.string ⟨⟨[]⟩⟩), (.int .i64 0), (.bool false)] [(0, (1, (.t 18)))]), none⟩,
 ⟨(some 20), (.bx y_reader 3 (.t 19)), none⟩,
 ⟨(some 6), (.mov (.t 20)), none⟩])
 (.keep [6]))
 (.seq
 (.seq (.ops [⟨(some 7), (.mov (.c (.slice none 0 0))), none⟩])
 (.keep [6, 7]))
 (.seq
 (.seq (.ops [⟨(some 21), (.mov (.t 6)), none⟩,
 ⟨(some 22), (.call n_impl_reader_num [(.t 21)]), none⟩,
 ⟨(some 8), (.mov (.t 22)), none⟩])
 (.keep [6, 7, 8]))
 (.seq
 (.block 0
 (.loop
 (.seq
 (.seq
 (.seq (.ops [⟨(some 23), (.mov (.t 8)), none⟩,
 ⟨(some 24), (.bin .gtr (.t 23) (.c (.int .i64 0))), none⟩,
 ⟨(some 25), (.mov (.t 24)), none⟩,
 ⟨(some 26), (.mov (.t 6)), (some (25, true))⟩,
 ⟨(some 27), (.chk (.t 26)), (some (25, true))⟩,
 ⟨(some 28), (.fa 2 (.t 27)), (some (25, true))⟩,
 ⟨(some 29), (.ld 1 false (.t 28)), (some (25, true))⟩,
 ⟨(some 30), (.un .not (.t 29)), (some (25, true))⟩,
 ⟨(some 31), (.pick (.t 25) (.t 30) (.c (.bool false))), none⟩])
 (.keep [6, 7, 8, 31]))
 (.cond (.t 31)
 .skip
 (.exit 0)))
 (.seq
 (.block 1
 (.seq
 (.seq (.ops [⟨(some 34), (.mov (.t 6)), none⟩,
 ⟨(some 35), (.call n_impl_reader_short [(.t 34)]), none⟩,
 ⟨(some 9), (.mov (.t 35)), none⟩])
 (.keep [6, 7, 8, 9]))
 (.seq
 (.seq (.ops [⟨(some 36), (.mov (.t 6)), none⟩,
 ⟨(some 37), (.call n_impl_reader_short [(.t 36)]), none⟩,
 ⟨(some 10), (.mov (.t 37)), none⟩])
 (.keep [6, 7, 8, 9, 10]))
 (.seq (.ops [⟨(some 38), (.mov (.t 7)), none⟩,
 ⟨(some 39), (.mov (.t 9)), none⟩,
 ⟨(some 40), (.mov (.t 10)), none⟩,
 ⟨(some 41), (.bld [(.string ⟨⟨[]⟩⟩), (.string ⟨⟨[]⟩⟩)] [(0, (1, (.t 39))), (1, (1, (.t 40)))]), none⟩,
 ⟨(some 42), (.litL 1 2 [(.string ⟨⟨[]⟩⟩), (.string ⟨⟨[]⟩⟩)] [(0, (.t 41))]), none⟩,
 ⟨(some 43), (.appL 2 y_Pair 32 1 (.t 38) 42), none⟩,
 ⟨(some 7), (.mov (.t 43)), none⟩])
 (.keep [6, 7, 8])))))
 (.seq (.ops [⟨(some 32), (.mov (.t 8)), none⟩,
 ⟨(some 33), (.bin .sub (.t 32) (.c (.int .i64 1))), none⟩,
 ⟨(some 8), (.mov (.t 33)), none⟩])
 (.keep [6, 7, 8]))))))
 (.seq
 (.seq
 (.seq (.ops [⟨(some 44), (.mov (.t 6)), none⟩,
 ⟨(some 45), (.call n_impl_reader_ends [(.t 44)]), none⟩,
 ⟨(some 46), (.un .not (.t 45)), none⟩,
 ⟨(some 47), (.mov (.t 46)), none⟩,
 ⟨(some 48), (.mov (.t 7)), (some (47, false))⟩,
 ⟨(some 49), (.call n_impl_StateOk [(.t 48)]), (some (47, false))⟩,
 ⟨(some 50), (.un .not (.t 49)), (some (47, false))⟩,
 ⟨(some 51), (.pick (.t 47) (.c (.bool true)) (.t 50)), none⟩])
 (.keep [7, 51]))
 (.cond (.t 51)
 (.seq
 (.seq (.ops [⟨(some 2), (.mov (.c (.slice none 0 0))), none⟩,
 ⟨(some 3), (.mov (.c (.bool false))), none⟩])
 (.keep [2, 3]))
 .ret)
 .skip))
 (.seq
 (.seq (.ops [⟨(some 52), (.mov (.t 7)), none⟩,
 ⟨(some 2), (.mov (.t 52)), none⟩,
 ⟨(some 3), (.mov (.c (.bool true))), none⟩])
 (.keep [2, 3]))
 .ret))))))))),
 [(.slot 2), (.slot 3)]⟩
/-- laws markPairS -/
def F_laws_markPairS : Fun := ⟨2,
 (.seq
 (.seq (.ops [⟨(some 4), (.mov (.c (.int .i64 0))), none⟩])
 (.keep [0, 1]))
 (.seq
 (.seq
 (.seq (.ops [⟨(some 5), (.mov (.c (.int .i64 0))), none⟩])
 (.keep [0, 1, 5]))
 (.block 0
 (.loop
 (.seq
 (.seq
 (.seq (.ops [⟨(some 6), (.mov (.t 5)), none⟩,
 ⟨(some 7), (.mov (.t 0)), none⟩,
 ⟨(some 8), (.ln (.t 7)), none⟩,
 ⟨(some 9), (.bin .lss (.t 6) (.t 8)), none⟩])
 (.keep [0, 1, 5, 9]))
 (.cond (.t 9)
 .skip
 (.exit 0)))
 (.seq
 (.block 1
 (.seq
 (.seq (.ops [⟨(some 12), (.mov (.t 0)), none⟩,
 ⟨(some 13), (.mov (.t 5)), none⟩,
 ⟨(some 14), (.mov (.t 1)), none⟩,
 ⟨(some 15), (.call n_laws_markText [(.t 14)]), none⟩,
 ⟨(some 16), (.ia 2 (.t 12) (.t 13)), none⟩,
 ⟨(some 17), (.fa 0 (.t 16)), none⟩,
 ⟨none, (.st 1 (.t 17) (.t 15)), none⟩])
 (.keep [0, 1, 5]))
 (.seq
 (.seq (.ops [⟨(some 18), (.mov (.t 1)), none⟩,
 ⟨(some 19), (.bin .add (.t 18) (.c (.int .i64 1))), none⟩,
 ⟨(some 1), (.mov (.t 19)), none⟩])
 (.keep [0, 1, 5]))
 (.seq
 (.seq (.ops [⟨(some 20), (.mov (.t 0)), none⟩,
 ⟨(some 21), (.mov (.t 5)), none⟩,
 ⟨(some 22), (.mov (.t 1)), none⟩,
 ⟨(some 23), (.call n_laws_markText [(.t 22)]), none⟩,
 ⟨(some 24), (.ia 2 (.t 20) (.t 21)), none⟩,
 ⟨(some 25), (.fa 1 (.t 24)), none⟩,
 ⟨none, (.st 1 (.t 25) (.t 23)), none⟩])
 (.keep [0, 1, 5]))
 (.seq (.ops [⟨(some 26), (.mov (.t 1)), none⟩,
 ⟨(some 27), (.bin .add (.t 26) (.c (.int .i64 1))), none⟩,
 ⟨(some 1), (.mov (.t 27)), none⟩])
 (.keep [0, 1, 5]))))))
 (.seq (.ops [⟨(some 10), (.mov (.t 5)), none⟩,
 ⟨(some 11), (.bin .add (.t 10) (.c (.int .i64 1))), none⟩,
 ⟨(some 5), (.mov (.t 11)), none⟩])
 (.keep [0, 1, 5])))))))
 (.seq
 (.seq (.ops [⟨(some 28), (.mov (.t 1)), none⟩,
 ⟨(some 4), (.mov (.t 28)), none⟩])
 (.keep [4]))
 .ret))),
 [(.slot 4)]⟩
/-- laws heldPairS -/
def F_laws_heldPairS : Fun := ⟨2,
 (.seq
 (.seq (.ops [⟨(some 4), (.mov (.c (.int .i64 0))), none⟩])
 (.keep [0, 1]))
 (.seq
 (.seq
 (.seq (.ops [⟨(some 5), (.mov (.c (.int .i64 0))), none⟩])
 (.keep [0, 1, 5]))
 (.block 0
 (.loop
 (.seq
 (.seq
 (.seq (.ops [⟨(some 6), (.mov (.t 5)), none⟩,
 ⟨(some 7), (.mov (.t 0)), none⟩,
 ⟨(some 8), (.ln (.t 7)), none⟩,
 ⟨(some 9), (.bin .lss (.t 6) (.t 8)), none⟩])
 (.keep [0, 1, 5, 9]))
 (.cond (.t 9)
 .skip
 (.exit 0)))
 (.seq
 (.block 1
 (.seq
 (.seq
 (.seq (.free false [⟨(some 12), (.mov (.t 0)), none⟩,
 ⟨(some 13), (.mov (.t 5)), none⟩,
 ⟨(some 14), (.ia 2 (.t 12) (.t 13)), none⟩,
 ⟨(some 15), (.fa 0 (.t 14)), none⟩,
 ⟨(some 16), (.ld 1 false (.t 15)), none⟩,
 ⟨(some 17), (.mov (.t 1)), none⟩,
 ⟨(some 18), (.call n_laws_markText [(.t 17)]), none⟩,
 ⟨(some 19), (.bin .neq (.t 16) (.t 18)), none⟩])
 (.keep [0, 1, 5, 19]))
 (.cond (.t 19)
 (.seq
 (.seq (.ops [⟨(some 4), (.mov (.c (.int .i64 (-1)))), none⟩])
 (.keep [4]))
 .ret)
 .skip))
 (.seq
 (.seq (.ops [⟨(some 20), (.mov (.t 1)), none⟩,
 ⟨(some 21), (.bin .add (.t 20) (.c (.int .i64 1))), none⟩,
 ⟨(some 1), (.mov (.t 21)), none⟩])
 (.keep [0, 1, 5]))
 (.seq
 (.seq
 (.seq (.free false [⟨(some 22), (.mov (.t 0)), none⟩,
 ⟨(some 23), (.mov (.t 5)), none⟩,
 ⟨(some 24), (.ia 2 (.t 22) (.t 23)), none⟩,
 ⟨(some 25), (.fa 1 (.t 24)), none⟩,
 ⟨(some 26), (.ld 1 false (.t 25)), none⟩,
 ⟨(some 27), (.mov (.t 1)), none⟩,
 ⟨(some 28), (.call n_laws_markText [(.t 27)]), none⟩,
 ⟨(some 29), (.bin .neq (.t 26) (.t 28)), none⟩])
 (.keep [0, 1, 5, 29]))
 (.cond (.t 29)
 (.seq
 (.seq (.ops [⟨(some 4), (.mov (.c (.int .i64 (-1)))), none⟩])
 (.keep [4]))
 .ret)
 .skip))
 (.seq (.ops [⟨(some 30), (.mov (.t 1)), none⟩,
 ⟨(some 31), (.bin .add (.t 30) (.c (.int .i64 1))), none⟩,
 ⟨(some 1), (.mov (.t 31)), none⟩])
 (.keep [0, 1, 5]))))))
 (.seq (.ops [⟨(some 10), (.mov (.t 5)), none⟩,
 ⟨(some 11), (.bin .add (.t 10) (.c (.int .i64 1))), none⟩,
 ⟨(some 5), (.mov (.t 11)), none⟩])
 (.keep [0, 1, 5])))))))
 (.seq
 (.seq (.ops [⟨(some 32), (.mov (.t 1)), none⟩,
 ⟨(some 4), (.mov (.t 32)), none⟩])
 (.keep [4]))
 .ret))),
 [(.slot 4)]⟩
/-- spec Decimal -/
def F_spec_Decimal : Fun := ⟨1,
 (.seq
 (.seq (.ops [⟨(some 2), (.mov (.c (.string ⟨⟨[]⟩⟩))), none⟩])
 (.keep [0]))
 (.seq
 (.seq
 (.seq (.ops [⟨(some 6), (.mov (.t 0)), none⟩,
 ⟨(some 7), (.bin .eql (.t 6) (.c (.int .i64 0))), none⟩])
 (.keep [0, 7]))
 (.cond (.t 7)
 (.seq
 (.seq (.ops [⟨(some 2), (.mov (.c (.string ⟨⟨[48]⟩⟩))), none⟩])
 (.keep [2]))
 .ret)
 .skip))
 (.seq
 (.seq (.ops [⟨(some 8), (.mov (.t 0)), none⟩,
 ⟨(some 9), (.bin .lss (.t 8) (.c (.int .i64 0))), none⟩,
 ⟨(some 3), (.mov (.t 9)), none⟩])
 (.keep [0, 3]))
 (.seq
 (.seq (.ops [⟨(some 4), (.mov (.c (.string ⟨⟨[]⟩⟩))), none⟩])
 (.keep [0, 3, 4]))
 (.seq
 (.block 0
 (.loop
 (.seq
 (.seq
 (.seq (.ops [⟨(some 10), (.mov (.t 0)), none⟩,
 ⟨(some 11), (.bin .neq (.t 10) (.c (.int .i64 0))), none⟩])
 (.keep [0, 3, 4, 11]))
 (.cond (.t 11)
 .skip
 (.exit 0)))
 (.block 1
 (.seq
 (.seq (.ops [⟨(some 12), (.mov (.t 0)), none⟩,
 ⟨(some 13), (.bin .rem (.t 12) (.c (.int .i64 10))), none⟩,
 ⟨(some 5), (.mov (.t 13)), none⟩])
 (.keep [0, 3, 4, 5]))
 (.seq
 (.seq
 (.seq (.ops [⟨(some 14), (.mov (.t 5)), none⟩,
 ⟨(some 15), (.bin .lss (.t 14) (.c (.int .i64 0))), none⟩])
 (.keep [0, 3, 4, 5, 15]))
 (.cond (.t 15)
 (.seq (.ops [⟨(some 16), (.mov (.t 5)), none⟩,
 ⟨(some 17), (.un .neg (.t 16)), none⟩,
 ⟨(some 5), (.mov (.t 17)), none⟩])
 (.keep [0, 3, 4, 5]))
 .skip))
 (.seq
 (.seq (.ops [⟨(some 18), (.mov (.t 5)), none⟩,
 ⟨(some 19), (.call n_spec_l01Figure [(.t 18)]), none⟩,
 ⟨(some 20), (.litL 1 1 [(.int .u8 0)] [(0, (.t 19))]), none⟩,
 ⟨(some 21), (.strL 1 20), none⟩,
 ⟨(some 22), (.mov (.t 4)), none⟩,
 ⟨(some 23), (.bin .add (.t 21) (.t 22)), none⟩,
 ⟨(some 4), (.mov (.t 23)), none⟩])
 (.keep [0, 3, 4]))
 (.seq (.ops [⟨(some 24), (.mov (.t 0)), none⟩,
 ⟨(some 25), (.bin .quo (.t 24) (.c (.int .i64 10))), none⟩,
 ⟨(some 0), (.mov (.t 25)), none⟩])
 (.keep [0, 3, 4])))))))))
 (.seq
 (.seq
 (.seq (.ops [⟨(some 26), (.mov (.t 3)), none⟩])
 (.keep [4, 26]))
 (.cond (.t 26)
 (.seq
 (.seq (.ops [⟨(some 27), (.mov (.t 4)), none⟩,
 ⟨(some 28), (.bin .add (.c (.string ⟨⟨[45]⟩⟩)) (.t 27)), none⟩,
 ⟨(some 2), (.mov (.t 28)), none⟩])
 (.keep [2]))
 .ret)
 .skip))
 (.seq
 (.seq (.ops [⟨(some 29), (.mov (.t 4)), none⟩,
 ⟨(some 2), (.mov (.t 29)), none⟩])
 (.keep [2]))
 .ret))))))),
 [(.slot 2)]⟩
/-- spec l13Pool -/
def F_spec_l13Pool : Fun := ⟨2,
 (.seq
 (.seq (.ops [⟨(some 4), (.mov (.c (.slice none 0 0))), none⟩])
 (.keep [0, 1]))
 (.seq
 (.seq (.ops [⟨(some 10), (.mov (.t 0)), none⟩,
 ⟨(some 11), (.mov (.t 1)), none⟩,
 ⟨(some 12), (.call n_spec_l13Two [(.t 11)]), none⟩,
 ⟨(some 13), (.bin .add (.c (.string ⟨⟨[113]⟩⟩)) (.t 12)), none⟩,
 ⟨(some 14), (.call n_spec_l13Get [(.t 10), (.t 13)]), none⟩,
 ⟨(some 9), (.mov (.t 14)), none⟩,
 ⟨(some 15), (.ext 0 (.t 9)), none⟩,
 ⟨(some 16), (.ext 1 (.t 9)), none⟩,
 ⟨(some 5), (.mov (.t 15)), none⟩,
 ⟨(some 6), (.mov (.t 16)), none⟩])
 (.keep [5]))
 (.seq
 (.seq (.ops [⟨(some 17), (.lit 0 1 y_int [(.int .i64 0)] []), none⟩,
 ⟨(some 7), (.mov (.t 17)), none⟩])
 (.keep [5, 7]))
 (.seq
 (.seq
 (.seq (.ops [⟨(some 8), (.mov (.c (.int .i64 0))), none⟩])
 (.keep [5, 7, 8]))
 (.block 0
 (.loop
 (.seq
 (.seq
 (.seq (.ops [⟨(some 18), (.mov (.t 8)), none⟩,
 ⟨(some 19), (.mov (.t 5)), none⟩,
 ⟨(some 20), (.lnS (.t 19)), none⟩,
 ⟨(some 21), (.bin .lss (.t 18) (.t 20)), none⟩])
 (.keep [5, 7, 8, 21]))
 (.cond (.t 21)
 .skip
 (.exit 0)))
 (.seq
 (.block 1
 (.seq (.ops [⟨(some 24), (.mov (.t 7)), none⟩,
 ⟨(some 25), (.mov (.t 5)), none⟩,
 ⟨(some 26), (.mov (.t 8)), none⟩,
 ⟨(some 27), (.ix (.t 25) (.t 26)), none⟩,
 ⟨(some 28), (.conv .i64 (.t 27)), none⟩,
 ⟨(some 29), (.litL 1 1 [(.int .i64 0)] [(0, (.t 28))]), none⟩,
 ⟨(some 30), (.appL 1 y_int 8 1 (.t 24) 29), none⟩,
 ⟨(some 7), (.mov (.t 30)), none⟩])
 (.keep [5, 7, 8])))
 (.seq (.ops [⟨(some 22), (.mov (.t 8)), none⟩,
 ⟨(some 23), (.bin .add (.t 22) (.c (.int .i64 1))), none⟩,
 ⟨(some 8), (.mov (.t 23)), none⟩])
 (.keep [5, 7, 8])))))))
 (.seq
 (.seq (.ops [⟨(some 31), (.mov (.t 7)), none⟩,
 ⟨(some 4), (.mov (.t 31)), none⟩])
 (.keep [4]))
 .ret))))),
 [(.slot 4)]⟩
/-- spec l03In -/
def F_spec_l03In : Fun := ⟨2,
 (.seq
 (.seq (.ops [⟨(some 4), (.mov (.c (.bool false))), none⟩])
 (.keep [0, 1]))
 (.seq
 (.seq
 (.seq (.ops [⟨(some 5), (.mov (.c (.int .i64 0))), none⟩])
 (.keep [0, 1, 5]))
 (.block 0
 (.loop
 (.seq
 (.seq
 (.seq (.ops [⟨(some 6), (.mov (.t 5)), none⟩,
 ⟨(some 7), (.mov (.t 0)), none⟩,
 ⟨(some 8), (.ln (.t 7)), none⟩,
 ⟨(some 9), (.bin .lss (.t 6) (.t 8)), none⟩])
 (.keep [0, 1, 5, 9]))
 (.cond (.t 9)
 .skip
 (.exit 0)))
 (.seq
 (.block 1
 (.seq
 (.seq (.ops [⟨(some 12), (.mov (.t 0)), none⟩,
 ⟨(some 13), (.mov (.t 5)), none⟩,
 ⟨(some 14), (.ia 1 (.t 12) (.t 13)), none⟩,
 ⟨(some 15), (.ld 1 false (.t 14)), none⟩,
 ⟨(some 16), (.mov (.t 1)), none⟩,
 ⟨(some 17), (.bin .eql (.t 15) (.t 16)), none⟩])
 (.keep [0, 1, 5, 17]))
 (.cond (.t 17)
 (.seq
 (.seq (.ops [⟨(some 4), (.mov (.c (.bool true))), none⟩])
 (.keep [4]))
 .ret)
 .skip)))
 (.seq (.ops [⟨(some 10), (.mov (.t 5)), none⟩,
 ⟨(some 11), (.bin .add (.t 10) (.c (.int .i64 1))), none⟩,
 ⟨(some 5), (.mov (.t 11)), none⟩])
 (.keep [0, 1, 5])))))))
 (.seq
 (.seq (.ops [⟨(some 4), (.mov (.c (.bool false))), none⟩])
 (.keep [4]))
 .ret))),
 [(.slot 4)]⟩
/-- impl hasInt -/
def F_impl_hasInt : Fun := ⟨2,
 (.seq
 (.seq (.ops [⟨(some 4), (.mov (.c (.bool false))), none⟩])
 (.keep [0, 1]))
 (.seq
 (.seq
 (.seq (.ops [⟨(some 7), (.mov (.t 0)), none⟩,
 ⟨(some 8), (.ln (.t 7)), none⟩,
 ⟨(some 9), (.mov (.c (.int .i64 0))), none⟩])
 (.keep [1, 7, 8, 9]))
 (.block 0
 (.loop
 (.seq
 (.seq (.ops [⟨(some 10), (.bin .lss (.t 9) (.t 8)), none⟩])
 (.keep [1, 7, 8, 9, 10]))
 (.seq
 (.cond (.t 10)
 .skip
 (.exit 0))
 (.seq
 (.block 1
 (.seq
 (.seq (.ops [⟨(some 11), (.ia 1 (.t 7) (.t 9)), none⟩,
 ⟨(some 12), (.ld 1 false (.t 11)), none⟩,
 ⟨(some 6), (.mov (.t 12)), none⟩])
 (.keep [1, 6, 7, 8, 9]))
 (.seq
 (.seq (.ops [⟨(some 13), (.mov (.t 6)), none⟩,
 ⟨(some 14), (.mov (.t 1)), none⟩,
 ⟨(some 15), (.bin .eql (.t 13) (.t 14)), none⟩])
 (.keep [1, 7, 8, 9, 15]))
 (.cond (.t 15)
 (.seq
 (.seq (.ops [⟨(some 4), (.mov (.c (.bool true))), none⟩])
 (.keep [4]))
 .ret)
 .skip))))
 (.seq (.ops [⟨(some 16), (.bin .add (.t 9) (.c (.int .i64 1))), none⟩,
 ⟨(some 9), (.mov (.t 16)), none⟩])
 (.keep [1, 7, 8, 9]))))))))
 (.seq
 (.seq (.ops [⟨(some 4), (.mov (.c (.bool false))), none⟩])
 (.keep [4]))
 .ret))),
 [(.slot 4)]⟩
/-- laws eqPair -/
def F_laws_eqPair : Fun := ⟨2,
 (.seq
 (.seq (.ops [⟨(some 2), (.boxL 2 (.t 0)), none⟩,
 ⟨(some 3), (.boxL 2 (.t 1)), none⟩,
 ⟨(some 4), (.mov (.c (.bool false))), none⟩])
 (.keep [2, 3]))
 (.seq
 (.seq
 (.seq (.ops [⟨(some 5), (.faB 0 2), none⟩,
 ⟨(some 6), (.ldE 1 false 2 5), none⟩,
 ⟨(some 7), (.faB 0 3), none⟩,
 ⟨(some 8), (.ldE 1 false 3 7), none⟩,
 ⟨(some 9), (.bin .neq (.t 6) (.t 8)), none⟩])
 (.keep [2, 3, 9]))
 (.cond (.t 9)
 (.seq
 (.seq (.ops [⟨(some 4), (.mov (.c (.bool false))), none⟩])
 (.keep [4]))
 .ret)
 .skip))
 (.seq
 (.seq
 (.seq (.ops [⟨(some 10), (.faB 1 2), none⟩,
 ⟨(some 11), (.ldE 1 false 2 10), none⟩,
 ⟨(some 12), (.faB 1 3), none⟩,
 ⟨(some 13), (.ldE 1 false 3 12), none⟩,
 ⟨(some 14), (.bin .neq (.t 11) (.t 13)), none⟩])
 (.keep [14]))
 (.cond (.t 14)
 (.seq
 (.seq (.ops [⟨(some 4), (.mov (.c (.bool false))), none⟩])
 (.keep [4]))
 .ret)
 .skip))
 (.seq
 (.seq (.ops [⟨(some 4), (.mov (.c (.bool true))), none⟩])
 (.keep [4]))
 .ret)))),
 [(.slot 4)]⟩
/-- spec StateOk -/
def F_spec_StateOk : Fun := ⟨1,
 (.seq
 (.seq (.ops [⟨(some 2), (.mov (.c (.bool false))), none⟩])
 (.keep [0]))
 (.seq
 (.seq
 (.seq (.ops [⟨(some 9), (.mov (.t 0)), none⟩,
 ⟨(some 10), (.call n_spec_MapOk [(.t 9)]), none⟩,
 ⟨(some 11), (.un .not (.t 10)), none⟩])
 (.keep [0, 11]))
 (.cond (.t 11)
 (.seq
 (.seq (.ops [⟨(some 2), (.mov (.c (.bool false))), none⟩])
 (.keep [2]))
 .ret)
 .skip))
 (.seq
 (.seq (.ops [⟨(some 12), (.mov (.t 0)), none⟩,
 ⟨(some 13), (.call n_spec_l13Rounds [(.t 12)]), none⟩,
 ⟨(some 3), (.mov (.t 13)), none⟩])
 (.keep [0, 3]))
 (.seq
 (.seq
 (.seq (.ops [⟨(some 14), (.mov (.t 3)), none⟩,
 ⟨(some 15), (.bin .gtr (.t 14) (.c (.int .i64 6))), none⟩])
 (.keep [0, 3, 15]))
 (.cond (.t 15)
 (.seq
 (.seq (.ops [⟨(some 2), (.mov (.c (.bool false))), none⟩])
 (.keep [2]))
 .ret)
 .skip))
 (.seq
 (.seq
 (.seq (.ops [⟨(some 4), (.mov (.c (.int .i64 0))), none⟩])
 (.keep [0, 3, 4]))
 (.block 0
 (.loop
 (.seq
 (.seq
 (.seq (.ops [⟨(some 16), (.mov (.t 4)), none⟩,
 ⟨(some 17), (.mov (.t 0)), none⟩,
 ⟨(some 18), (.ln (.t 17)), none⟩,
 ⟨(some 19), (.bin .lss (.t 16) (.t 18)), none⟩])
 (.keep [0, 3, 4, 19]))
 (.cond (.t 19)
 .skip
 (.exit 0)))
 (.seq
 (.block 1
 (.seq
 (.seq (.ops [⟨(some 22), (.mov (.t 0)), none⟩,
 ⟨(some 23), (.mov (.t 0)), none⟩,
 ⟨(some 24), (.mov (.t 4)), none⟩,
 ⟨(some 25), (.ia 2 (.t 23) (.t 24)), none⟩,
 ⟨(some 26), (.ld 2 true (.t 25)), none⟩,
 ⟨(some 27), (.mov (.t 3)), none⟩,
 ⟨(some 28), (.call n_spec_l13KeyOk [(.t 22), (.t 26), (.t 27)]), none⟩,
 ⟨(some 29), (.un .not (.t 28)), none⟩])
 (.keep [0, 3, 4, 29]))
 (.cond (.t 29)
 (.seq
 (.seq (.ops [⟨(some 2), (.mov (.c (.bool false))), none⟩])
 (.keep [2]))
 .ret)
 .skip)))
 (.seq (.ops [⟨(some 20), (.mov (.t 4)), none⟩,
 ⟨(some 21), (.bin .add (.t 20) (.c (.int .i64 1))), none⟩,
 ⟨(some 4), (.mov (.t 21)), none⟩])
 (.keep [0, 3, 4])))))))
 (.seq
 (.seq (.ops [⟨(some 5), (.mov (.c (.int .i64 0))), none⟩])
 (.keep [0, 3, 5]))
 (.seq
 (.seq
 (.seq (.ops [⟨(some 6), (.mov (.c (.int .i64 0))), none⟩])
 (.keep [0, 3, 5, 6]))
 (.block 2
 (.loop
 (.seq
 (.seq
 (.seq (.ops [⟨(some 30), (.mov (.t 6)), none⟩,
 ⟨(some 31), (.mov (.t 3)), none⟩,
 ⟨(some 32), (.bin .lss (.t 30) (.t 31)), none⟩])
 (.keep [0, 3, 5, 6, 32]))
 (.cond (.t 32)
 .skip
 (.exit 2)))
 (.seq
 (.block 3
 (.seq
 (.seq
 (.seq (.ops [⟨(some 35), (.mov (.t 0)), none⟩,
 ⟨(some 36), (.mov (.t 6)), none⟩,
 ⟨(some 37), (.call n_spec_l13RoundOk [(.t 35), (.t 36)]), none⟩,
 ⟨(some 38), (.un .not (.t 37)), none⟩])
 (.keep [0, 3, 5, 6, 38]))
 (.cond (.t 38)
 (.seq
 (.seq (.ops [⟨(some 2), (.mov (.c (.bool false))), none⟩])
 (.keep [2]))
 .ret)
 .skip))
 (.seq (.ops [⟨(some 39), (.mov (.t 5)), none⟩,
 ⟨(some 40), (.mov (.t 0)), none⟩,
 ⟨(some 41), (.mov (.t 6)), none⟩,
 ⟨(some 42), (.call n_spec_l13Text [(.t 40), (.t 41)]), none⟩,
 ⟨(some 43), (.call n_spec_CertParts [(.t 42)]), none⟩,
 ⟨(some 44), (.ln (.t 43)), none⟩,
 ⟨(some 45), (.bin .add (.t 39) (.t 44)), none⟩,
 ⟨(some 5), (.mov (.t 45)), none⟩])
 (.keep [0, 3, 5, 6]))))
 (.seq (.ops [⟨(some 33), (.mov (.t 6)), none⟩,
 ⟨(some 34), (.bin .add (.t 33) (.c (.int .i64 1))), none⟩,
 ⟨(some 6), (.mov (.t 34)), none⟩])
 (.keep [0, 3, 5, 6])))))))
 (.seq
 (.seq (.ops [⟨(some 7), (.mov (.c (.int .i64 0))), none⟩])
 (.keep [0, 5, 7]))
 (.seq
 (.seq
 (.seq (.ops [⟨(some 8), (.mov (.c (.int .i64 0))), none⟩])
 (.keep [0, 5, 7, 8]))
 (.block 4
 (.loop
 (.seq
 (.seq
 (.seq (.ops [⟨(some 46), (.mov (.t 8)), none⟩,
 ⟨(some 47), (.mov (.t 0)), none⟩,
 ⟨(some 48), (.ln (.t 47)), none⟩,
 ⟨(some 49), (.bin .lss (.t 46) (.t 48)), none⟩])
 (.keep [0, 5, 7, 8, 49]))
 (.cond (.t 49)
 .skip
 (.exit 4)))
 (.seq
 (.block 5
 (.seq
 (.seq (.ops [⟨(some 52), (.mov (.t 0)), none⟩,
 ⟨(some 53), (.mov (.t 8)), none⟩,
 ⟨(some 54), (.ia 2 (.t 52) (.t 53)), none⟩,
 ⟨(some 55), (.fa 0 (.t 54)), none⟩,
 ⟨(some 56), (.ld 1 false (.t 55)), none⟩,
 ⟨(some 57), (.ix (.t 56) (.c (.int .i64 0))), none⟩,
 ⟨(some 58), (.bin .eql (.t 57) (.c (.int .u8 114))), none⟩])
 (.keep [0, 5, 7, 8, 58]))
 (.cond (.t 58)
 (.seq (.ops [⟨(some 59), (.mov (.t 7)), none⟩,
 ⟨(some 60), (.bin .add (.t 59) (.c (.int .i64 1))), none⟩,
 ⟨(some 7), (.mov (.t 60)), none⟩])
 (.keep [0, 5, 7, 8]))
 .skip)))
 (.seq (.ops [⟨(some 50), (.mov (.t 8)), none⟩,
 ⟨(some 51), (.bin .add (.t 50) (.c (.int .i64 1))), none⟩,
 ⟨(some 8), (.mov (.t 51)), none⟩])
 (.keep [0, 5, 7, 8])))))))
 (.seq
 (.seq (.ops [⟨(some 61), (.mov (.t 7)), none⟩,
 ⟨(some 62), (.mov (.t 5)), none⟩,
 ⟨(some 63), (.bin .eql (.t 61) (.t 62)), none⟩,
 ⟨(some 2), (.mov (.t 63)), none⟩])
 (.keep [2]))
 .ret)))))))))),
 [(.slot 2)]⟩
/-- spec l01In -/
def F_spec_l01In : Fun := ⟨3,
 (.seq
 (.seq (.ops [⟨(some 6), (.mov (.c (.bool false))), none⟩])
 (.keep [0, 1, 2]))
 (.seq
 (.seq (.ops [⟨(some 7), (.mov (.t 0)), none⟩,
 ⟨(some 8), (.mov (.t 1)), none⟩,
 ⟨(some 9), (.bin .geq (.t 7) (.t 8)), none⟩,
 ⟨(some 10), (.mov (.t 9)), none⟩,
 ⟨(some 11), (.mov (.t 0)), (some (10, true))⟩,
 ⟨(some 12), (.mov (.t 2)), (some (10, true))⟩,
 ⟨(some 13), (.bin .leq (.t 11) (.t 12)), (some (10, true))⟩,
 ⟨(some 14), (.pick (.t 10) (.t 13) (.c (.bool false))), none⟩,
 ⟨(some 6), (.mov (.t 14)), none⟩])
 (.keep [6]))
 .ret)),
 [(.slot 6)]⟩
/-- spec l13Get -/
def F_spec_l13Get : Fun := ⟨2,
 (.seq
 (.seq (.ops [⟨(some 4), (.mov (.c (.string ⟨⟨[]⟩⟩))), none⟩,
 ⟨(some 5), (.mov (.c (.bool false))), none⟩])
 (.keep [0, 1]))
 (.seq
 (.seq
 (.seq (.ops [⟨(some 6), (.mov (.c (.int .i64 0))), none⟩])
 (.keep [0, 1, 6]))
 (.block 0
 (.loop
 (.seq
 (.seq
 (.seq (.ops [⟨(some 7), (.mov (.t 6)), none⟩,
 ⟨(some 8), (.mov (.t 0)), none⟩,
 ⟨(some 9), (.ln (.t 8)), none⟩,
 ⟨(some 10), (.bin .lss (.t 7) (.t 9)), none⟩])
 (.keep [0, 1, 6, 10]))
 (.cond (.t 10)
 .skip
 (.exit 0)))
 (.seq
 (.block 1
 (.seq
 (.seq (.ops [⟨(some 13), (.mov (.t 0)), none⟩,
 ⟨(some 14), (.mov (.t 6)), none⟩,
 ⟨(some 15), (.ia 2 (.t 13) (.t 14)), none⟩,
 ⟨(some 16), (.fa 0 (.t 15)), none⟩,
 ⟨(some 17), (.ld 1 false (.t 16)), none⟩,
 ⟨(some 18), (.mov (.t 1)), none⟩,
 ⟨(some 19), (.bin .eql (.t 17) (.t 18)), none⟩])
 (.keep [0, 1, 6, 19]))
 (.cond (.t 19)
 (.seq
 (.seq (.ops [⟨(some 20), (.mov (.t 0)), none⟩,
 ⟨(some 21), (.mov (.t 6)), none⟩,
 ⟨(some 22), (.ia 2 (.t 20) (.t 21)), none⟩,
 ⟨(some 23), (.fa 1 (.t 22)), none⟩,
 ⟨(some 24), (.ld 1 false (.t 23)), none⟩,
 ⟨(some 4), (.mov (.t 24)), none⟩,
 ⟨(some 5), (.mov (.c (.bool true))), none⟩])
 (.keep [4, 5]))
 .ret)
 .skip)))
 (.seq (.ops [⟨(some 11), (.mov (.t 6)), none⟩,
 ⟨(some 12), (.bin .add (.t 11) (.c (.int .i64 1))), none⟩,
 ⟨(some 6), (.mov (.t 12)), none⟩])
 (.keep [0, 1, 6])))))))
 (.seq
 (.seq (.ops [⟨(some 4), (.mov (.c (.string ⟨⟨[]⟩⟩))), none⟩,
 ⟨(some 5), (.mov (.c (.bool false))), none⟩])
 (.keep [4, 5]))
 .ret))),
 [(.slot 4), (.slot 5)]⟩
/-- spec l13Two -/
def F_spec_l13Two : Fun := ⟨1,
 (.seq
 (.seq (.ops [⟨(some 2), (.mov (.c (.string ⟨⟨[]⟩⟩))), none⟩])
 (.keep [0]))
 (.seq
 (.seq
 (.seq (.ops [⟨(some 3), (.mov (.t 0)), none⟩,
 ⟨(some 4), (.bin .lss (.t 3) (.c (.int .i64 10))), none⟩])
 (.keep [0, 4]))
 (.cond (.t 4)
 (.seq
 (.seq (.ops [⟨(some 5), (.mov (.t 0)), none⟩,
 ⟨(some 6), (.call n_spec_Decimal [(.t 5)]), none⟩,
 ⟨(some 7), (.bin .add (.c (.string ⟨⟨[48]⟩⟩)) (.t 6)), none⟩,
 ⟨(some 2), (.mov (.t 7)), none⟩])
 (.keep [2]))
 .ret)
 .skip))
 (.seq
 (.seq (.ops [⟨(some 8), (.mov (.t 0)), none⟩,
 ⟨(some 9), (.call n_spec_Decimal [(.t 8)]), none⟩,
 ⟨(some 2), (.mov (.t 9)), none⟩])
 (.keep [2]))
 .ret))),
 [(.slot 2)]⟩
/-- spec ReadDecimal -/
def F_spec_ReadDecimal : Fun := ⟨1,
 (.seq
 (.seq (.ops [⟨(some 2), (.mov (.c (.int .i64 0))), none⟩,
 ⟨(some 3), (.mov (.c (.bool false))), none⟩])
 (.keep [0]))
 (.seq
 (.seq
 (.seq (.ops [⟨(some 6), (.mov (.t 0)), none⟩,
 ⟨(some 7), (.lnS (.t 6)), none⟩,
 ⟨(some 8), (.bin .gtr (.t 7) (.c (.int .i64 10))), none⟩])
 (.keep [0, 8]))
 (.cond (.t 8)
 (.seq
 (.seq (.ops [⟨(some 2), (.mov (.c (.int .i64 0))), none⟩,
 ⟨(some 3), (.mov (.c (.bool false))), none⟩])
 (.keep [2, 3]))
 .ret)
 .skip))
 (.seq
 (.seq (.ops [⟨(some 4), (.mov (.c (.int .i64 0))), none⟩])
 (.keep [0, 4]))
 (.seq
 (.seq
 (.seq (.ops [⟨(some 5), (.mov (.c (.int .i64 0))), none⟩])
 (.keep [0, 4, 5]))
 (.block 0
 (.loop
 (.seq
 (.seq
 (.seq (.ops [⟨(some 9), (.mov (.t 5)), none⟩,
 ⟨(some 10), (.mov (.t 0)), none⟩,
 ⟨(some 11), (.lnS (.t 10)), none⟩,
 ⟨(some 12), (.bin .lss (.t 9) (.t 11)), none⟩])
 (.keep [0, 4, 5, 12]))
 (.cond (.t 12)
 .skip
 (.exit 0)))
 (.seq
 (.block 1
 (.seq
 (.seq
 (.seq (.ops [⟨(some 15), (.mov (.t 0)), none⟩,
 ⟨(some 16), (.mov (.t 5)), none⟩,
 ⟨(some 17), (.ix (.t 15) (.t 16)), none⟩,
 ⟨(some 18), (.bin .lss (.t 17) (.c (.int .u8 48))), none⟩,
 ⟨(some 19), (.mov (.t 18)), none⟩,
 ⟨(some 20), (.mov (.t 0)), (some (19, false))⟩,
 ⟨(some 21), (.mov (.t 5)), (some (19, false))⟩,
 ⟨(some 22), (.ix (.t 20) (.t 21)), (some (19, false))⟩,
 ⟨(some 23), (.bin .gtr (.t 22) (.c (.int .u8 57))), (some (19, false))⟩,
 ⟨(some 24), (.pick (.t 19) (.c (.bool true)) (.t 23)), none⟩])
 (.keep [0, 4, 5, 24]))
 (.cond (.t 24)
 (.seq
 (.seq (.ops [⟨(some 2), (.mov (.c (.int .i64 0))), none⟩,
 ⟨(some 3), (.mov (.c (.bool false))), none⟩])
 (.keep [2, 3]))
 .ret)
 .skip))
 (.seq (.ops [⟨(some 25), (.mov (.t 4)), none⟩,
 ⟨(some 26), (.bin .mul (.c (.int .i64 10)) (.t 25)), none⟩,
 ⟨(some 27), (.mov (.t 0)), none⟩,
 ⟨(some 28), (.mov (.t 5)), none⟩,
 ⟨(some 29), (.ix (.t 27) (.t 28)), none⟩,
 ⟨(some 30), (.conv .i64 (.t 29)), none⟩,
 ⟨(some 31), (.bin .add (.t 26) (.t 30)), none⟩,
 ⟨(some 32), (.bin .sub (.t 31) (.c (.int .i64 48))), none⟩,
 ⟨(some 4), (.mov (.t 32)), none⟩])
 (.keep [0, 4, 5]))))
 (.seq (.ops [⟨(some 13), (.mov (.t 5)), none⟩,
 ⟨(some 14), (.bin .add (.t 13) (.c (.int .i64 1))), none⟩,
 ⟨(some 5), (.mov (.t 14)), none⟩])
 (.keep [0, 4, 5])))))))
 (.seq
 (.seq
 (.seq (.ops [⟨(some 33), (.mov (.t 4)), none⟩,
 ⟨(some 34), (.bin .gtr (.t 33) (.c (.int .i64 1000000000))), none⟩,
 ⟨(some 35), (.mov (.t 34)), none⟩,
 ⟨(some 36), (.mov (.t 4)), (some (35, false))⟩,
 ⟨(some 37), (.call n_spec_Decimal [(.t 36)]), (some (35, false))⟩,
 ⟨(some 38), (.mov (.t 0)), (some (35, false))⟩,
 ⟨(some 39), (.bin .neq (.t 37) (.t 38)), (some (35, false))⟩,
 ⟨(some 40), (.pick (.t 35) (.c (.bool true)) (.t 39)), none⟩])
 (.keep [4, 40]))
 (.cond (.t 40)
 (.seq
 (.seq (.ops [⟨(some 2), (.mov (.c (.int .i64 0))), none⟩,
 ⟨(some 3), (.mov (.c (.bool false))), none⟩])
 (.keep [2, 3]))
 .ret)
 .skip))
 (.seq
 (.seq (.ops [⟨(some 41), (.mov (.t 4)), none⟩,
 ⟨(some 2), (.mov (.t 41)), none⟩,
 ⟨(some 3), (.mov (.c (.bool true))), none⟩])
 (.keep [2, 3]))
 .ret)))))),
 [(.slot 2), (.slot 3)]⟩
/-- impl StateOk -/
def F_impl_StateOk : Fun := ⟨1,
 (.seq
 (.seq (.ops [⟨(some 2), (.mov (.c (.bool false))), none⟩])
 (.keep [0]))
 (.seq
 (.seq
 (.seq (.ops [⟨(some 6), (.mov (.t 0)), none⟩,
 ⟨(some 7), (.call n_impl_MapOk [(.t 6)]), none⟩,
 ⟨(some 8), (.un .not (.t 7)), none⟩,
 ⟨(some 9), (.mov (.t 8)), none⟩,
 ⟨(some 10), (.mov (.t 0)), (some (9, false))⟩,
 ⟨(some 11), (.call n_impl_roundsOf [(.t 10)]), (some (9, false))⟩,
 ⟨(some 12), (.bin .gtr (.t 11) (.c (.int .i64 6))), (some (9, false))⟩,
 ⟨(some 13), (.pick (.t 9) (.c (.bool true)) (.t 12)), none⟩])
 (.keep [0, 13]))
 (.cond (.t 13)
 (.seq
 (.seq (.ops [⟨(some 2), (.mov (.c (.bool false))), none⟩])
 (.keep [2]))
 .ret)
 .skip))
 (.seq
 (.seq
 (.seq (.ops [⟨(some 14), (.mov (.t 0)), none⟩,
 ⟨(some 15), (.ln (.t 14)), none⟩,
 ⟨(some 16), (.mov (.c (.int .i64 0))), none⟩])
 (.keep [0, 14, 15, 16]))
 (.block 0
 (.loop
 (.seq
 (.seq (.ops [⟨(some 17), (.bin .lss (.t 16) (.t 15)), none⟩])
 (.keep [0, 14, 15, 16, 17]))
 (.seq
 (.cond (.t 17)
 .skip
 (.exit 0))
 (.seq
 (.block 1
 (.seq
 (.seq (.ops [⟨(some 18), (.ia 2 (.t 14) (.t 16)), none⟩,
 ⟨(some 19), (.ld 2 true (.t 18)), none⟩,
 ⟨(some 4), (.newL [(.string ⟨⟨[]⟩⟩), (.string ⟨⟨[]⟩⟩)]), none⟩,
 ⟨none, (.stB 2 4 (.t 19)), none⟩])
 (.keep [0, 4, 14, 15, 16]))
 (.seq
 (.seq (.ops [⟨(some 5), (.mov (.c (.bool false))), none⟩])
 (.keep [0, 4, 5, 14, 15, 16]))
 (.seq
 (.seq
 (.seq (.ops [⟨(some 20), (.faB 0 4), none⟩,
 ⟨(some 21), (.ldE 1 false 4 20), none⟩,
 ⟨(some 22), (.ix (.t 21) (.c (.int .i64 0))), none⟩])
 (.keep [0, 4, 5, 14, 15, 16, 22]))
 (.block 2
 (.seq
 (.seq (.ops [⟨(some 24), (.bin .eql (.t 22) (.c (.int .u8 118))), none⟩,
 ⟨(some 23), (.mov (.t 24)), none⟩])
 (.keep [0, 4, 5, 14, 15, 16, 22, 23]))
 (.cond (.t 23)
 (.seq (.ops [⟨(some 25), (.mov (.t 0)), none⟩,
 ⟨(some 26), (.ldB 2 true 4), none⟩,
 ⟨(some 27), (.call n_impl_idOk [(.t 25), (.t 26)]), none⟩,
 ⟨(some 5), (.mov (.t 27)), none⟩])
 (.keep [0, 5, 14, 15, 16]))
 (.seq
 (.seq (.ops [⟨(some 29), (.bin .eql (.t 22) (.c (.int .u8 101))), none⟩,
 ⟨(some 28), (.mov (.t 29)), none⟩])
 (.keep [0, 4, 5, 14, 15, 16, 22, 28]))
 (.cond (.t 28)
 (.seq (.ops [⟨(some 30), (.mov (.t 0)), none⟩,
 ⟨(some 31), (.ldB 2 true 4), none⟩,
 ⟨(some 32), (.call n_impl_linkOk [(.t 30), (.t 31)]), none⟩,
 ⟨(some 5), (.mov (.t 32)), none⟩])
 (.keep [0, 5, 14, 15, 16]))
 (.seq
 (.seq (.ops [⟨(some 34), (.bin .eql (.t 22) (.c (.int .u8 113))), none⟩,
 ⟨(some 33), (.mov (.t 34)), none⟩])
 (.keep [0, 4, 5, 14, 15, 16, 22, 33]))
 (.cond (.t 33)
 (.seq (.ops [⟨(some 35), (.mov (.t 0)), none⟩,
 ⟨(some 36), (.ldB 2 true 4), none⟩,
 ⟨(some 37), (.call n_impl_poolOk [(.t 35), (.t 36)]), none⟩,
 ⟨(some 5), (.mov (.t 37)), none⟩])
 (.keep [0, 5, 14, 15, 16]))
 (.seq
 (.seq (.ops [⟨(some 39), (.bin .eql (.t 22) (.c (.int .u8 114))), none⟩,
 ⟨(some 38), (.mov (.t 39)), none⟩])
 (.keep [0, 4, 5, 14, 15, 16, 38]))
 (.cond (.t 38)
 (.seq (.ops [⟨(some 40), (.mov (.t 0)), none⟩,
 ⟨(some 41), (.ldB 2 true 4), none⟩,
 ⟨(some 42), (.call n_impl_partOk [(.t 40), (.t 41)]), none⟩,
 ⟨(some 5), (.mov (.t 42)), none⟩])
 (.keep [0, 5, 14, 15, 16]))
 .skip))))))))))
 (.seq
 (.seq (.ops [⟨(some 43), (.mov (.t 5)), none⟩,
 ⟨(some 44), (.un .not (.t 43)), none⟩])
 (.keep [0, 14, 15, 16, 44]))
 (.cond (.t 44)
 (.seq
 (.seq (.ops [⟨(some 2), (.mov (.c (.bool false))), none⟩])
 (.keep [2]))
 .ret)
 .skip))))))
 (.seq (.ops [⟨(some 45), (.bin .add (.t 16) (.c (.int .i64 1))), none⟩,
 ⟨(some 16), (.mov (.t 45)), none⟩])
 (.keep [0, 14, 15, 16]))))))))
 (.seq
 (.seq (.ops [⟨(some 2), (.mov (.c (.bool true))), none⟩])
 (.keep [2]))
 .ret)))),
 [(.slot 2)]⟩
/-- impl in -/
def F_impl_in : Fun := ⟨3,
 (.seq
 (.seq (.ops [⟨(some 6), (.mov (.c (.bool false))), none⟩])
 (.keep [0, 1, 2]))
 (.seq
 (.seq (.ops [⟨(some 7), (.mov (.t 0)), none⟩,
 ⟨(some 8), (.mov (.t 1)), none⟩,
 ⟨(some 9), (.bin .geq (.t 7) (.t 8)), none⟩,
 ⟨(some 10), (.mov (.t 9)), none⟩,
 ⟨(some 11), (.mov (.t 0)), (some (10, true))⟩,
 ⟨(some 12), (.mov (.t 2)), (some (10, true))⟩,
 ⟨(some 13), (.bin .leq (.t 11) (.t 12)), (some (10, true))⟩,
 ⟨(some 14), (.pick (.t 10) (.t 13) (.c (.bool false))), none⟩,
 ⟨(some 6), (.mov (.t 14)), none⟩])
 (.keep [6]))
 .ret)),
 [(.slot 6)]⟩
/-- impl get -/
def F_impl_get : Fun := ⟨2,
 (.seq
 (.seq (.ops [⟨(some 4), (.mov (.c (.string ⟨⟨[]⟩⟩))), none⟩,
 ⟨(some 5), (.mov (.c (.bool false))), none⟩])
 (.keep [0, 1]))
 (.seq
 (.seq
 (.seq (.ops [⟨(some 8), (.mov (.t 0)), none⟩,
 ⟨(some 9), (.ln (.t 8)), none⟩,
 ⟨(some 10), (.mov (.c (.int .i64 0))), none⟩])
 (.keep [1, 8, 9, 10]))
 (.block 0
 (.loop
 (.seq
 (.seq (.ops [⟨(some 11), (.bin .lss (.t 10) (.t 9)), none⟩])
 (.keep [1, 8, 9, 10, 11]))
 (.seq
 (.cond (.t 11)
 .skip
 (.exit 0))
 (.seq
 (.block 1
 (.seq
 (.seq (.ops [⟨(some 12), (.ia 2 (.t 8) (.t 10)), none⟩,
 ⟨(some 13), (.ld 2 true (.t 12)), none⟩,
 ⟨(some 7), (.newL [(.string ⟨⟨[]⟩⟩), (.string ⟨⟨[]⟩⟩)]), none⟩,
 ⟨none, (.stB 2 7 (.t 13)), none⟩])
 (.keep [1, 7, 8, 9, 10]))
 (.seq
 (.seq (.ops [⟨(some 14), (.faB 0 7), none⟩,
 ⟨(some 15), (.ldE 1 false 7 14), none⟩,
 ⟨(some 16), (.mov (.t 1)), none⟩,
 ⟨(some 17), (.bin .eql (.t 15) (.t 16)), none⟩])
 (.keep [1, 7, 8, 9, 10, 17]))
 (.cond (.t 17)
 (.seq
 (.seq (.ops [⟨(some 18), (.faB 1 7), none⟩,
 ⟨(some 19), (.ldE 1 false 7 18), none⟩,
 ⟨(some 4), (.mov (.t 19)), none⟩,
 ⟨(some 5), (.mov (.c (.bool true))), none⟩])
 (.keep [4, 5]))
 .ret)
 .skip))))
 (.seq (.ops [⟨(some 20), (.bin .add (.t 10) (.c (.int .i64 1))), none⟩,
 ⟨(some 10), (.mov (.t 20)), none⟩])
 (.keep [1, 8, 9, 10]))))))))
 (.seq
 (.seq (.ops [⟨(some 4), (.mov (.c (.string ⟨⟨[]⟩⟩))), none⟩,
 ⟨(some 5), (.mov (.c (.bool false))), none⟩])
 (.keep [4, 5]))
 .ret))),
 [(.slot 4), (.slot 5)]⟩
/-- impl two -/
def F_impl_two : Fun := ⟨1,
 (.seq
 (.seq (.ops [⟨(some 2), (.mov (.c (.string ⟨⟨[]⟩⟩))), none⟩])
 (.keep [0]))
 (.seq
 (.seq
 (.seq (.ops [⟨(some 3), (.mov (.t 0)), none⟩,
 ⟨(some 4), (.bin .lss (.t 3) (.c (.int .i64 10))), none⟩])
 (.keep [0, 4]))
 (.cond (.t 4)
 (.seq
 (.seq (.ops [⟨(some 5), (.mov (.t 0)), none⟩,
 ⟨(some 6), (.call n_impl_Decimal [(.t 5)]), none⟩,
 ⟨(some 7), (.bin .add (.c (.string ⟨⟨[48]⟩⟩)) (.t 6)), none⟩,
 ⟨(some 2), (.mov (.t 7)), none⟩])
 (.keep [2]))
 .ret)
 .skip))
 (.seq
 (.seq (.ops [⟨(some 8), (.mov (.t 0)), none⟩,
 ⟨(some 9), (.call n_impl_Decimal [(.t 8)]), none⟩,
 ⟨(some 2), (.mov (.t 9)), none⟩])
 (.keep [2]))
 .ret))),
 [(.slot 2)]⟩
/-- spec l01Var -/
def F_spec_l01Var : Fun := ⟨1,
 (.seq
 (.seq (.ops [⟨(some 2), (.mov (.c (.string ⟨⟨[]⟩⟩))), none⟩])
 (.keep [0]))
 (.seq
 (.seq (.ops [⟨(some 4), (.lit 0 1 y_byte [(.int .u8 0)] []), none⟩,
 ⟨(some 3), (.mov (.t 4)), none⟩])
 (.keep [0, 3]))
 (.seq
 (.block 0
 (.loop
 (.seq
 (.seq
 (.seq (.ops [⟨(some 5), (.mov (.t 0)), none⟩,
 ⟨(some 6), (.bin .gtr (.t 5) (.c (.int .i64 127))), none⟩])
 (.keep [0, 3, 6]))
 (.cond (.t 6)
 .skip
 (.exit 0)))
 (.block 1
 (.seq
 (.seq (.ops [⟨(some 7), (.mov (.t 3)), none⟩,
 ⟨(some 8), (.mov (.t 0)), none⟩,
 ⟨(some 9), (.bin .rem (.t 8) (.c (.int .i64 128))), none⟩,
 ⟨(some 10), (.bin .add (.t 9) (.c (.int .i64 128))), none⟩,
 ⟨(some 11), (.conv .u8 (.t 10)), none⟩,
 ⟨(some 12), (.litL 1 1 [(.int .u8 0)] [(0, (.t 11))]), none⟩,
 ⟨(some 13), (.appL 1 y_byte 1 1 (.t 7) 12), none⟩,
 ⟨(some 3), (.mov (.t 13)), none⟩])
 (.keep [0, 3]))
 (.seq (.ops [⟨(some 14), (.mov (.t 0)), none⟩,
 ⟨(some 15), (.bin .quo (.t 14) (.c (.int .i64 128))), none⟩,
 ⟨(some 0), (.mov (.t 15)), none⟩])
 (.keep [0, 3])))))))
 (.seq
 (.seq (.ops [⟨(some 16), (.mov (.t 3)), none⟩,
 ⟨(some 17), (.mov (.t 0)), none⟩,
 ⟨(some 18), (.conv .u8 (.t 17)), none⟩,
 ⟨(some 19), (.litL 1 1 [(.int .u8 0)] [(0, (.t 18))]), none⟩,
 ⟨(some 20), (.appL 1 y_byte 1 1 (.t 16) 19), none⟩,
 ⟨(some 21), (.str (.t 20)), none⟩,
 ⟨(some 2), (.mov (.t 21)), none⟩])
 (.keep [2]))
 .ret)))),
 [(.slot 2)]⟩
/-- spec l04Short -/
def F_spec_l04Short : Fun := ⟨1,
 (.seq
 (.seq (.ops [⟨(some 2), (.mov (.c (.string ⟨⟨[]⟩⟩))), none⟩])
 (.keep [0]))
 (.seq
 (.seq (.ops [⟨(some 3), (.mov (.t 0)), none⟩,
 ⟨(some 4), (.lnS (.t 3)), none⟩,
 ⟨(some 5), (.call n_spec_l01Var [(.t 4)]), none⟩,
 ⟨(some 6), (.mov (.t 0)), none⟩,
 ⟨(some 7), (.bin .add (.t 5) (.t 6)), none⟩,
 ⟨(some 2), (.mov (.t 7)), none⟩])
 (.keep [2]))
 .ret)),
 [(.slot 2)]⟩
/-- spec Sealed -/
def F_spec_Sealed : Fun := ⟨1,
 (.seq
 (.seq (.ops [⟨(some 2), (.mov (.c (.string ⟨⟨[]⟩⟩))), none⟩,
 ⟨(some 3), (.mov (.c (.bool false))), none⟩])
 (.keep [0]))
 (.seq
 (.seq
 (.seq (.ops [⟨(some 4), (.mov (.t 0)), none⟩,
 ⟨(some 5), (.lnS (.t 4)), none⟩,
 ⟨(some 6), (.bin .gtr (.t 5) (.c (.int .i64 8000))), none⟩])
 (.keep [0, 6]))
 (.cond (.t 6)
 (.seq
 (.seq (.ops [⟨(some 2), (.mov (.c (.string ⟨⟨[]⟩⟩))), none⟩,
 ⟨(some 3), (.mov (.c (.bool false))), none⟩])
 (.keep [2, 3]))
 .ret)
 .skip))
 (.seq
 (.seq (.ops [⟨(some 7), (.mov (.t 0)), none⟩,
 ⟨(some 8), (.mov (.t 0)), none⟩,
 ⟨(some 9), (.call n_spec_SumOf [(.t 8)]), none⟩,
 ⟨(some 10), (.call n_spec_l02Four [(.t 9)]), none⟩,
 ⟨(some 11), (.bin .add (.t 7) (.t 10)), none⟩,
 ⟨(some 2), (.mov (.t 11)), none⟩,
 ⟨(some 3), (.mov (.c (.bool true))), none⟩])
 (.keep [2, 3]))
 .ret))),
 [(.slot 2), (.slot 3)]⟩
/-- impl Sealed -/
def F_impl_Sealed : Fun := ⟨1,
 (.seq
 (.seq (.ops [⟨(some 2), (.mov (.c (.string ⟨⟨[]⟩⟩))), none⟩,
 ⟨(some 3), (.mov (.c (.bool false))), none⟩])
 (.keep [0]))
 (.seq
 (.seq
 (.seq (.ops [⟨(some 5), (.mov (.t 0)), none⟩,
 ⟨(some 6), (.lnS (.t 5)), none⟩,
 ⟨(some 7), (.bin .gtr (.t 6) (.c (.int .i64 8000))), none⟩])
 (.keep [0, 7]))
 (.cond (.t 7)
 (.seq
 (.seq (.ops [⟨(some 2), (.mov (.c (.string ⟨⟨[]⟩⟩))), none⟩,
 ⟨(some 3), (.mov (.c (.bool false))), none⟩])
 (.keep [2, 3]))
 .ret)
 .skip))
 (.seq
 (.seq (.ops [⟨(some 8), (.mov (.t 0)), none⟩,
 ⟨(some 9), (.call n_impl_SumOf [(.t 8)]), none⟩,
 ⟨(some 4), (.mov (.t 9)), none⟩])
 (.keep [0, 4]))
 (.seq
 (.seq (.ops [⟨(some 10), (.mov (.t 0)), none⟩,
 ⟨(some 11), (.mov (.t 4)), none⟩,
 ⟨(some 12), (.bin .shr (.t 11) (.c (.int .u64 24))), none⟩,
 ⟨(some 13), (.conv .u8 (.t 12)), none⟩,
 ⟨(some 14), (.mov (.t 4)), none⟩,
 ⟨(some 15), (.bin .shr (.t 14) (.c (.int .u64 16))), none⟩,
 ⟨(some 16), (.conv .u8 (.t 15)), none⟩,
 ⟨(some 17), (.mov (.t 4)), none⟩,
 ⟨(some 18), (.bin .shr (.t 17) (.c (.int .u64 8))), none⟩,
 ⟨(some 19), (.conv .u8 (.t 18)), none⟩,
 ⟨(some 20), (.mov (.t 4)), none⟩,
 ⟨(some 21), (.conv .u8 (.t 20)), none⟩,
 ⟨(some 22), (.litL 4 1 [(.int .u8 0)] [(0, (.t 13)), (1, (.t 16)), (2, (.t 19)), (3, (.t 21))]), none⟩,
 ⟨(some 23), (.strL 4 22), none⟩,
 ⟨(some 24), (.bin .add (.t 10) (.t 23)), none⟩,
 ⟨(some 2), (.mov (.t 24)), none⟩,
 ⟨(some 3), (.mov (.c (.bool true))), none⟩])
 (.keep [2, 3]))
 .ret)))),
 [(.slot 2), (.slot 3)]⟩
/-- spec Unsealed -/
def F_spec_Unsealed : Fun := ⟨1,
 (.seq
 (.seq (.ops [⟨(some 2), (.mov (.c (.string ⟨⟨[]⟩⟩))), none⟩,
 ⟨(some 3), (.mov (.c (.bool false))), none⟩])
 (.keep [0]))
 (.seq
 (.seq (.ops [⟨(some 5), (.mov (.t 0)), none⟩,
 ⟨(some 6), (.lnS (.t 5)), none⟩,
 ⟨(some 7), (.bin .sub (.t 6) (.c (.int .i64 4))), none⟩,
 ⟨(some 4), (.mov (.t 7)), none⟩])
 (.keep [0, 4]))
 (.seq
 (.seq
 (.seq (.free true [⟨(some 8), (.mov (.t 4)), none⟩,
 ⟨(some 9), (.bin .lss (.t 8) (.c (.int .i64 0))), none⟩,
 ⟨(some 10), (.mov (.t 9)), none⟩,
 ⟨(some 11), (.mov (.t 4)), (some (10, false))⟩,
 ⟨(some 12), (.bin .gtr (.t 11) (.c (.int .i64 8000))), (some (10, false))⟩,
 ⟨(some 13), (.pick (.t 10) (.c (.bool true)) (.t 12)), none⟩,
 ⟨(some 14), (.mov (.t 13)), none⟩,
 ⟨(some 15), (.mov (.t 0)), (some (14, false))⟩,
 ⟨(some 16), (.mov (.t 4)), (some (14, false))⟩,
 ⟨(some 17), (.slS (.t 15) (some (.t 16)) none), (some (14, false))⟩,
 ⟨(some 18), (.mov (.t 0)), (some (14, false))⟩,
 ⟨(some 19), (.mov (.t 4)), (some (14, false))⟩,
 ⟨(some 20), (.slS (.t 18) none (some (.t 19))), (some (14, false))⟩,
 ⟨(some 21), (.call n_spec_SumOf [(.t 20)]), (some (14, false))⟩,
 ⟨(some 22), (.call n_spec_l02Four [(.t 21)]), (some (14, false))⟩,
 ⟨(some 23), (.bin .neq (.t 17) (.t 22)), (some (14, false))⟩,
 ⟨(some 24), (.pick (.t 14) (.c (.bool true)) (.t 23)), none⟩])
 (.keep [0, 4, 24]))
 (.cond (.t 24)
 (.seq
 (.seq (.ops [⟨(some 2), (.mov (.c (.string ⟨⟨[]⟩⟩))), none⟩,
 ⟨(some 3), (.mov (.c (.bool false))), none⟩])
 (.keep [2, 3]))
 .ret)
 .skip))
 (.seq
 (.seq (.ops [⟨(some 25), (.mov (.t 0)), none⟩,
 ⟨(some 26), (.mov (.t 4)), none⟩,
 ⟨(some 27), (.slS (.t 25) none (some (.t 26))), none⟩,
 ⟨(some 2), (.mov (.t 27)), none⟩,
 ⟨(some 3), (.mov (.c (.bool true))), none⟩])
 (.keep [2, 3]))
 .ret)))),
 [(.slot 2), (.slot 3)]⟩
/-- spec ReadVar -/
def F_spec_ReadVar : Fun := ⟨2,
 (.seq
 (.seq (.ops [⟨(some 4), (.mov (.c (.int .i64 0))), none⟩,
 ⟨(some 5), (.mov (.c (.int .i64 0))), none⟩,
 ⟨(some 6), (.mov (.c (.bool false))), none⟩])
 (.keep [0, 1]))
 (.seq
 (.seq
 (.seq (.ops [⟨(some 10), (.mov (.t 1)), none⟩,
 ⟨(some 11), (.mov (.t 0)), none⟩,
 ⟨(some 12), (.lnS (.t 11)), none⟩,
 ⟨(some 13), (.call n_spec_l01In [(.t 10), (.c (.int .i64 0)), (.t 12)]), none⟩,
 ⟨(some 14), (.un .not (.t 13)), none⟩])
 (.keep [0, 1, 14]))
 (.cond (.t 14)
 (.seq
 (.seq (.ops [⟨(some 4), (.mov (.c (.int .i64 0))), none⟩,
 ⟨(some 5), (.mov (.c (.int .i64 0))), none⟩,
 ⟨(some 6), (.mov (.c (.bool false))), none⟩])
 (.keep [4, 5, 6]))
 .ret)
 .skip))
 (.seq
 (.seq (.ops [⟨(some 7), (.mov (.c (.int .i64 0))), none⟩])
 (.keep [0, 1, 7]))
 (.seq
 (.seq (.ops [⟨(some 8), (.mov (.c (.int .i64 1))), none⟩])
 (.keep [0, 1, 7, 8]))
 (.seq
 (.seq
 (.seq (.ops [⟨(some 15), (.mov (.t 1)), none⟩,
 ⟨(some 9), (.mov (.t 15)), none⟩])
 (.keep [0, 1, 7, 8, 9]))
 (.block 0
 (.loop
 (.seq
 (.seq
 (.seq (.ops [⟨(some 16), (.mov (.t 9)), none⟩,
 ⟨(some 17), (.mov (.t 0)), none⟩,
 ⟨(some 18), (.lnS (.t 17)), none⟩,
 ⟨(some 19), (.bin .lss (.t 16) (.t 18)), none⟩,
 ⟨(some 20), (.mov (.t 19)), none⟩,
 ⟨(some 21), (.mov (.t 9)), (some (20, true))⟩,
 ⟨(some 22), (.mov (.t 1)), (some (20, true))⟩,
 ⟨(some 23), (.bin .add (.t 22) (.c (.int .i64 5))), (some (20, true))⟩,
 ⟨(some 24), (.bin .lss (.t 21) (.t 23)), (some (20, true))⟩,
 ⟨(some 25), (.pick (.t 20) (.t 24) (.c (.bool false))), none⟩])
 (.keep [0, 1, 7, 8, 9, 25]))
 (.cond (.t 25)
 .skip
 (.exit 0)))
 (.seq
 (.block 1
 (.seq
 (.seq (.ops [⟨(some 28), (.mov (.t 7)), none⟩,
 ⟨(some 29), (.mov (.t 0)), none⟩,
 ⟨(some 30), (.mov (.t 9)), none⟩,
 ⟨(some 31), (.ix (.t 29) (.t 30)), none⟩,
 ⟨(some 32), (.conv .i64 (.t 31)), none⟩,
 ⟨(some 33), (.bin .rem (.t 32) (.c (.int .i64 128))), none⟩,
 ⟨(some 34), (.mov (.t 8)), none⟩,
 ⟨(some 35), (.bin .mul (.t 33) (.t 34)), none⟩,
 ⟨(some 36), (.bin .add (.t 28) (.t 35)), none⟩,
 ⟨(some 7), (.mov (.t 36)), none⟩])
 (.keep [0, 1, 7, 8, 9]))
 (.seq
 (.seq (.ops [⟨(some 37), (.mov (.t 8)), none⟩,
 ⟨(some 38), (.bin .mul (.t 37) (.c (.int .i64 128))), none⟩,
 ⟨(some 8), (.mov (.t 38)), none⟩])
 (.keep [0, 1, 7, 8, 9]))
 (.seq
 (.seq (.ops [⟨(some 39), (.mov (.t 0)), none⟩,
 ⟨(some 40), (.mov (.t 9)), none⟩,
 ⟨(some 41), (.ix (.t 39) (.t 40)), none⟩,
 ⟨(some 42), (.bin .lss (.t 41) (.c (.int .u8 128))), none⟩])
 (.keep [0, 1, 7, 8, 9, 42]))
 (.cond (.t 42)
 (.seq
 (.seq
 (.seq (.free true [⟨(some 43), (.mov (.t 7)), none⟩,
 ⟨(some 44), (.bin .gtr (.t 43) (.c (.int .i64 1000000000))), none⟩,
 ⟨(some 45), (.mov (.t 44)), none⟩,
 ⟨(some 46), (.mov (.t 7)), (some (45, false))⟩,
 ⟨(some 47), (.call n_spec_l01Var [(.t 46)]), (some (45, false))⟩,
 ⟨(some 48), (.mov (.t 0)), (some (45, false))⟩,
 ⟨(some 49), (.mov (.t 1)), (some (45, false))⟩,
 ⟨(some 50), (.mov (.t 9)), (some (45, false))⟩,
 ⟨(some 51), (.bin .add (.t 50) (.c (.int .i64 1))), (some (45, false))⟩,
 ⟨(some 52), (.slS (.t 48) (some (.t 49)) (some (.t 51))), (some (45, false))⟩,
 ⟨(some 53), (.bin .neq (.t 47) (.t 52)), (some (45, false))⟩,
 ⟨(some 54), (.pick (.t 45) (.c (.bool true)) (.t 53)), none⟩])
 (.keep [7, 9, 54]))
 (.cond (.t 54)
 (.seq
 (.seq (.ops [⟨(some 4), (.mov (.c (.int .i64 0))), none⟩,
 ⟨(some 5), (.mov (.c (.int .i64 0))), none⟩,
 ⟨(some 6), (.mov (.c (.bool false))), none⟩])
 (.keep [4, 5, 6]))
 .ret)
 .skip))
 (.seq
 (.seq (.ops [⟨(some 55), (.mov (.t 7)), none⟩,
 ⟨(some 56), (.mov (.t 9)), none⟩,
 ⟨(some 57), (.bin .add (.t 56) (.c (.int .i64 1))), none⟩,
 ⟨(some 4), (.mov (.t 55)), none⟩,
 ⟨(some 5), (.mov (.t 57)), none⟩,
 ⟨(some 6), (.mov (.c (.bool true))), none⟩])
 (.keep [4, 5, 6]))
 .ret))
 .skip)))))
 (.seq (.ops [⟨(some 26), (.mov (.t 9)), none⟩,
 ⟨(some 27), (.bin .add (.t 26) (.c (.int .i64 1))), none⟩,
 ⟨(some 9), (.mov (.t 27)), none⟩])
 (.keep [0, 1, 7, 8, 9])))))))
 (.seq
 (.seq (.ops [⟨(some 4), (.mov (.c (.int .i64 0))), none⟩,
 ⟨(some 5), (.mov (.c (.int .i64 0))), none⟩,
 ⟨(some 6), (.mov (.c (.bool false))), none⟩])
 (.keep [4, 5, 6]))
 .ret)))))),
 [(.slot 4), (.slot 5), (.slot 6)]⟩
/-- spec ReadShort -/
def F_spec_ReadShort : Fun := ⟨2,
 (.seq
 (.seq (.ops [⟨(some 4), (.mov (.c (.string ⟨⟨[]⟩⟩))), none⟩,
 ⟨(some 5), (.mov (.c (.int .i64 0))), none⟩,
 ⟨(some 6), (.mov (.c (.bool false))), none⟩])
 (.keep [0, 1]))
 (.seq
 (.seq (.ops [⟨(some 11), (.mov (.t 0)), none⟩,
 ⟨(some 12), (.mov (.t 1)), none⟩,
 ⟨(some 13), (.call n_spec_ReadVar [(.t 11), (.t 12)]), none⟩,
 ⟨(some 10), (.mov (.t 13)), none⟩,
 ⟨(some 14), (.ext 0 (.t 10)), none⟩,
 ⟨(some 15), (.ext 1 (.t 10)), none⟩,
 ⟨(some 16), (.ext 2 (.t 10)), none⟩,
 ⟨(some 7), (.mov (.t 14)), none⟩,
 ⟨(some 8), (.mov (.t 15)), none⟩,
 ⟨(some 9), (.mov (.t 16)), none⟩])
 (.keep [0, 7, 8, 9]))
 (.seq
 (.seq
 (.seq (.ops [⟨(some 17), (.mov (.t 9)), none⟩,
 ⟨(some 18), (.un .not (.t 17)), none⟩,
 ⟨(some 19), (.mov (.t 18)), none⟩,
 ⟨(some 20), (.mov (.t 7)), (some (19, false))⟩,
 ⟨(some 21), (.bin .gtr (.t 20) (.c (.int .i64 8000))), (some (19, false))⟩,
 ⟨(some 22), (.pick (.t 19) (.c (.bool true)) (.t 21)), none⟩,
 ⟨(some 23), (.mov (.t 22)), none⟩,
 ⟨(some 24), (.mov (.t 7)), (some (23, false))⟩,
 ⟨(some 25), (.mov (.t 0)), (some (23, false))⟩,
 ⟨(some 26), (.lnS (.t 25)), (some (23, false))⟩,
 ⟨(some 27), (.mov (.t 8)), (some (23, false))⟩,
 ⟨(some 28), (.bin .sub (.t 26) (.t 27)), (some (23, false))⟩,
 ⟨(some 29), (.bin .gtr (.t 24) (.t 28)), (some (23, false))⟩,
 ⟨(some 30), (.pick (.t 23) (.c (.bool true)) (.t 29)), none⟩])
 (.keep [0, 7, 8, 30]))
 (.cond (.t 30)
 (.seq
 (.seq (.ops [⟨(some 4), (.mov (.c (.string ⟨⟨[]⟩⟩))), none⟩,
 ⟨(some 5), (.mov (.c (.int .i64 0))), none⟩,
 ⟨(some 6), (.mov (.c (.bool false))), none⟩])
 (.keep [4, 5, 6]))
 .ret)
 .skip))
 (.seq
 (.seq (.ops [⟨(some 31), (.mov (.t 0)), none⟩,
 ⟨(some 32), (.mov (.t 8)), none⟩,
 ⟨(some 33), (.mov (.t 8)), none⟩,
 ⟨(some 34), (.mov (.t 7)), none⟩,
 ⟨(some 35), (.bin .add (.t 33) (.t 34)), none⟩,
 ⟨(some 36), (.slS (.t 31) (some (.t 32)) (some (.t 35))), none⟩,
 ⟨(some 37), (.mov (.t 8)), none⟩,
 ⟨(some 38), (.mov (.t 7)), none⟩,
 ⟨(some 39), (.bin .add (.t 37) (.t 38)), none⟩,
 ⟨(some 4), (.mov (.t 36)), none⟩,
 ⟨(some 5), (.mov (.t 39)), none⟩,
 ⟨(some 6), (.mov (.c (.bool true))), none⟩])
 (.keep [4, 5, 6]))
 .ret)))),
 [(.slot 4), (.slot 5), (.slot 6)]⟩
/-- impl Unsealed -/
def F_impl_Unsealed : Fun := ⟨1,
 (.seq
 (.seq (.ops [⟨(some 2), (.mov (.c (.string ⟨⟨[]⟩⟩))), none⟩,
 ⟨(some 3), (.mov (.c (.bool false))), none⟩])
 (.keep [0]))
 (.seq
 (.seq
 (.seq (.ops [⟨(some 7), (.mov (.t 0)), none⟩,
 ⟨(some 8), (.lnS (.t 7)), none⟩,
 ⟨(some 9), (.bin .lss (.t 8) (.c (.int .i64 4))), none⟩])
 (.keep [0, 9]))
 (.cond (.t 9)
 (.seq
 (.seq (.ops [⟨(some 2), (.mov (.c (.string ⟨⟨[]⟩⟩))), none⟩,
 ⟨(some 3), (.mov (.c (.bool false))), none⟩])
 (.keep [2, 3]))
 .ret)
 .skip))
 (.seq
 (.seq (.ops [⟨(some 10), (.mov (.t 0)), none⟩,
 ⟨(some 11), (.mov (.t 0)), none⟩,
 ⟨(some 12), (.lnS (.t 11)), none⟩,
 ⟨(some 13), (.bin .sub (.t 12) (.c (.int .i64 4))), none⟩,
 ⟨(some 14), (.slS (.t 10) none (some (.t 13))), none⟩,
 ⟨(some 4), (.mov (.t 14)), none⟩])
 (.keep [0, 4]))
 (.seq
 (.seq (.ops [⟨(some 16), (.mov (.t 4)), none⟩,
 ⟨(some 17), (.call n_impl_Sealed [(.t 16)]), none⟩,
 ⟨(some 15), (.mov (.t 17)), none⟩,
 ⟨(some 18), (.ext 0 (.t 15)), none⟩,
 ⟨(some 19), (.ext 1 (.t 15)), none⟩,
 ⟨(some 5), (.mov (.t 18)), none⟩,
 ⟨(some 6), (.mov (.t 19)), none⟩])
 (.keep [0, 4, 5, 6]))
 (.seq
 (.seq
 (.seq (.ops [⟨(some 20), (.mov (.t 6)), none⟩,
 ⟨(some 21), (.un .not (.t 20)), none⟩,
 ⟨(some 22), (.mov (.t 21)), none⟩,
 ⟨(some 23), (.mov (.t 5)), (some (22, false))⟩,
 ⟨(some 24), (.mov (.t 0)), (some (22, false))⟩,
 ⟨(some 25), (.bin .neq (.t 23) (.t 24)), (some (22, false))⟩,
 ⟨(some 26), (.pick (.t 22) (.c (.bool true)) (.t 25)), none⟩])
 (.keep [4, 26]))
 (.cond (.t 26)
 (.seq
 (.seq (.ops [⟨(some 2), (.mov (.c (.string ⟨⟨[]⟩⟩))), none⟩,
 ⟨(some 3), (.mov (.c (.bool false))), none⟩])
 (.keep [2, 3]))
 .ret)
 .skip))
 (.seq
 (.seq (.ops [⟨(some 27), (.mov (.t 4)), none⟩,
 ⟨(some 2), (.mov (.t 27)), none⟩,
 ⟨(some 3), (.mov (.c (.bool true))), none⟩])
 (.keep [2, 3]))
 .ret)))))),
 [(.slot 2), (.slot 3)]⟩
/-- impl reader num -/
def F_impl_reader_num : Fun := ⟨1,
 (.seq
 (.seq (.ops [⟨(some 2), (.mov (.c (.int .i64 0))), none⟩])
 (.keep [0]))
 (.seq
 (.seq (.free true [⟨(some 7), (.mov (.t 0)), none⟩,
 ⟨(some 8), (.chk (.t 7)), none⟩,
 ⟨(some 9), (.fa 0 (.t 8)), none⟩,
 ⟨(some 10), (.ld 1 false (.t 9)), none⟩,
 ⟨(some 11), (.mov (.t 0)), none⟩,
 ⟨(some 12), (.chk (.t 11)), none⟩,
 ⟨(some 13), (.fa 1 (.t 12)), none⟩,
 ⟨(some 14), (.ld 1 false (.t 13)), none⟩,
 ⟨(some 15), (.call n_impl_ReadVar [(.t 10), (.t 14)]), none⟩,
 ⟨(some 6), (.mov (.t 15)), none⟩,
 ⟨(some 16), (.ext 0 (.t 6)), none⟩,
 ⟨(some 17), (.ext 1 (.t 6)), none⟩,
 ⟨(some 18), (.ext 2 (.t 6)), none⟩,
 ⟨(some 3), (.mov (.t 16)), none⟩,
 ⟨(some 4), (.mov (.t 17)), none⟩,
 ⟨(some 5), (.mov (.t 18)), none⟩])
 (.keep [0, 3, 4, 5]))
 (.seq
 (.seq
 (.seq (.ops [⟨(some 19), (.mov (.t 0)), none⟩,
 ⟨(some 20), (.chk (.t 19)), none⟩,
 ⟨(some 21), (.fa 2 (.t 20)), none⟩,
 ⟨(some 22), (.ld 1 false (.t 21)), none⟩,
 ⟨(some 23), (.mov (.t 22)), none⟩,
 ⟨(some 24), (.mov (.t 5)), (some (23, false))⟩,
 ⟨(some 25), (.un .not (.t 24)), (some (23, false))⟩,
 ⟨(some 26), (.pick (.t 23) (.c (.bool true)) (.t 25)), none⟩])
 (.keep [0, 3, 4, 26]))
 (.cond (.t 26)
 (.seq
 (.seq (.ops [⟨(some 27), (.mov (.t 0)), none⟩,
 ⟨(some 28), (.chk (.t 27)), none⟩,
 ⟨(some 29), (.fa 2 (.t 28)), none⟩,
 ⟨none, (.st 1 (.t 29) (.c (.bool true))), none⟩])
 (.keep []))
 (.seq
 (.seq (.ops [⟨(some 2), (.mov (.c (.int .i64 0))), none⟩])
 (.keep [2]))
 .ret))
 .skip))
 (.seq
 (.seq (.ops [⟨(some 30), (.mov (.t 0)), none⟩,
 ⟨(some 31), (.mov (.t 4)), none⟩,
 ⟨(some 32), (.chk (.t 30)), none⟩,
 ⟨(some 33), (.fa 1 (.t 32)), none⟩,
 ⟨none, (.st 1 (.t 33) (.t 31)), none⟩])
 (.keep [3]))
 (.seq
 (.seq (.ops [⟨(some 34), (.mov (.t 3)), none⟩,
 ⟨(some 2), (.mov (.t 34)), none⟩])
 (.keep [2]))
 .ret))))),
 [(.slot 2)]⟩
/-- impl reader short -/
def F_impl_reader_short : Fun := ⟨1,
 (.seq
 (.seq (.ops [⟨(some 2), (.mov (.c (.string ⟨⟨[]⟩⟩))), none⟩])
 (.keep [0]))
 (.seq
 (.seq (.free true [⟨(some 7), (.mov (.t 0)), none⟩,
 ⟨(some 8), (.chk (.t 7)), none⟩,
 ⟨(some 9), (.fa 0 (.t 8)), none⟩,
 ⟨(some 10), (.ld 1 false (.t 9)), none⟩,
 ⟨(some 11), (.mov (.t 0)), none⟩,
 ⟨(some 12), (.chk (.t 11)), none⟩,
 ⟨(some 13), (.fa 1 (.t 12)), none⟩,
 ⟨(some 14), (.ld 1 false (.t 13)), none⟩,
 ⟨(some 15), (.call n_impl_ReadShort [(.t 10), (.t 14)]), none⟩,
 ⟨(some 6), (.mov (.t 15)), none⟩,
 ⟨(some 16), (.ext 0 (.t 6)), none⟩,
 ⟨(some 17), (.ext 1 (.t 6)), none⟩,
 ⟨(some 18), (.ext 2 (.t 6)), none⟩,
 ⟨(some 3), (.mov (.t 16)), none⟩,
 ⟨(some 4), (.mov (.t 17)), none⟩,
 ⟨(some 5), (.mov (.t 18)), none⟩])
 (.keep [0, 3, 4, 5]))
 (.seq
 (.seq
 (.seq (.ops [⟨(some 19), (.mov (.t 0)), none⟩,
 ⟨(some 20), (.chk (.t 19)), none⟩,
 ⟨(some 21), (.fa 2 (.t 20)), none⟩,
 ⟨(some 22), (.ld 1 false (.t 21)), none⟩,
 ⟨(some 23), (.mov (.t 22)), none⟩,
 ⟨(some 24), (.mov (.t 5)), (some (23, false))⟩,
 ⟨(some 25), (.un .not (.t 24)), (some (23, false))⟩,
 ⟨(some 26), (.pick (.t 23) (.c (.bool true)) (.t 25)), none⟩])
 (.keep [0, 3, 4, 26]))
 (.cond (.t 26)
 (.seq
 (.seq (.ops [⟨(some 27), (.mov (.t 0)), none⟩,
 ⟨(some 28), (.chk (.t 27)), none⟩,
 ⟨(some 29), (.fa 2 (.t 28)), none⟩,
 ⟨none, (.st 1 (.t 29) (.c (.bool true))), none⟩])
 (.keep []))
 (.seq
 (.seq (.ops [⟨(some 2), (.mov (.c (.string ⟨⟨[]⟩⟩))), none⟩])
 (.keep [2]))
 .ret))
 .skip))
 (.seq
 (.seq (.ops [⟨(some 30), (.mov (.t 0)), none⟩,
 ⟨(some 31), (.mov (.t 4)), none⟩,
 ⟨(some 32), (.chk (.t 30)), none⟩,
 ⟨(some 33), (.fa 1 (.t 32)), none⟩,
 ⟨none, (.st 1 (.t 33) (.t 31)), none⟩])
 (.keep [3]))
 (.seq
 (.seq (.ops [⟨(some 34), (.mov (.t 3)), none⟩,
 ⟨(some 2), (.mov (.t 34)), none⟩])
 (.keep [2]))
 .ret))))),
 [(.slot 2)]⟩
/-- impl reader ends -/
def F_impl_reader_ends : Fun := ⟨1,
 (.seq
 (.seq (.ops [⟨(some 2), (.mov (.c (.bool false))), none⟩])
 (.keep [0]))
 (.seq
 (.seq (.free true [⟨(some 3), (.mov (.t 0)), none⟩,
 ⟨(some 4), (.chk (.t 3)), none⟩,
 ⟨(some 5), (.fa 2 (.t 4)), none⟩,
 ⟨(some 6), (.ld 1 false (.t 5)), none⟩,
 ⟨(some 7), (.un .not (.t 6)), none⟩,
 ⟨(some 8), (.mov (.t 7)), none⟩,
 ⟨(some 9), (.mov (.t 0)), (some (8, true))⟩,
 ⟨(some 10), (.chk (.t 9)), (some (8, true))⟩,
 ⟨(some 11), (.fa 1 (.t 10)), (some (8, true))⟩,
 ⟨(some 12), (.ld 1 false (.t 11)), (some (8, true))⟩,
 ⟨(some 13), (.mov (.t 0)), (some (8, true))⟩,
 ⟨(some 14), (.chk (.t 13)), (some (8, true))⟩,
 ⟨(some 15), (.fa 0 (.t 14)), (some (8, true))⟩,
 ⟨(some 16), (.ld 1 false (.t 15)), (some (8, true))⟩,
 ⟨(some 17), (.lnS (.t 16)), (some (8, true))⟩,
 ⟨(some 18), (.bin .eql (.t 12) (.t 17)), (some (8, true))⟩,
 ⟨(some 19), (.pick (.t 8) (.t 18) (.c (.bool false))), none⟩,
 ⟨(some 2), (.mov (.t 19)), none⟩])
 (.keep [2]))
 .ret)),
 [(.slot 2)]⟩
/-- laws markText -/
def F_laws_markText : Fun := ⟨1,
 (.seq
 (.seq (.ops [⟨(some 2), (.mov (.c (.string ⟨⟨[]⟩⟩))), none⟩])
 (.keep [0]))
 (.seq
 (.seq
 (.seq (.ops [⟨(some 4), (.mov (.t 0)), none⟩,
 ⟨(some 5), (.bin .leq (.t 4) (.c (.int .i64 0))), none⟩])
 (.keep [0, 5]))
 (.cond (.t 5)
 (.seq
 (.seq (.ops [⟨(some 2), (.mov (.c (.string ⟨⟨[109, 48]⟩⟩))), none⟩])
 (.keep [2]))
 .ret)
 .skip))
 (.seq
 (.seq (.ops [⟨(some 3), (.mov (.c (.string ⟨⟨[]⟩⟩))), none⟩])
 (.keep [0, 3]))
 (.seq
 (.block 0
 (.loop
 (.seq
 (.seq
 (.seq (.ops [⟨(some 6), (.mov (.t 0)), none⟩,
 ⟨(some 7), (.bin .gtr (.t 6) (.c (.int .i64 0))), none⟩])
 (.keep [0, 3, 7]))
 (.cond (.t 7)
 .skip
 (.exit 0)))
 (.block 1
 (.seq
 (.seq (.ops [⟨(some 8), (.mov (.t 0)), none⟩,
 ⟨(some 9), (.bin .rem (.t 8) (.c (.int .i64 10))), none⟩,
 ⟨(some 10), (.bin .add (.c (.int .i64 48)) (.t 9)), none⟩,
 ⟨(some 11), (.conv .u8 (.t 10)), none⟩,
 ⟨(some 12), (.litL 1 1 [(.int .u8 0)] [(0, (.t 11))]), none⟩,
 ⟨(some 13), (.strL 1 12), none⟩,
 ⟨(some 14), (.mov (.t 3)), none⟩,
 ⟨(some 15), (.bin .add (.t 13) (.t 14)), none⟩,
 ⟨(some 3), (.mov (.t 15)), none⟩])
 (.keep [0, 3]))
 (.seq (.ops [⟨(some 16), (.mov (.t 0)), none⟩,
 ⟨(some 17), (.bin .quo (.t 16) (.c (.int .i64 10))), none⟩,
 ⟨(some 0), (.mov (.t 17)), none⟩])
 (.keep [0, 3])))))))
 (.seq
 (.seq (.ops [⟨(some 18), (.mov (.t 3)), none⟩,
 ⟨(some 19), (.bin .add (.c (.string ⟨⟨[109]⟩⟩)) (.t 18)), none⟩,
 ⟨(some 2), (.mov (.t 19)), none⟩])
 (.keep [2]))
 .ret))))),
 [(.slot 2)]⟩
/-- spec l13Rounds -/
def F_spec_l13Rounds : Fun := ⟨1,
 (.seq
 (.seq (.ops [⟨(some 2), (.mov (.c (.int .i64 0))), none⟩])
 (.keep [0]))
 (.seq
 (.seq (.ops [⟨(some 3), (.mov (.c (.int .i64 0))), none⟩])
 (.keep [0, 3]))
 (.seq
 (.seq (.ops [⟨(some 7), (.mov (.t 0)), none⟩,
 ⟨(some 8), (.mov (.t 3)), none⟩,
 ⟨(some 9), (.call n_spec_l13Two [(.t 8)]), none⟩,
 ⟨(some 10), (.bin .add (.c (.string ⟨⟨[113]⟩⟩)) (.t 9)), none⟩,
 ⟨(some 11), (.call n_spec_l13Get [(.t 7), (.t 10)]), none⟩,
 ⟨(some 6), (.mov (.t 11)), none⟩,
 ⟨(some 12), (.ext 0 (.t 6)), none⟩,
 ⟨(some 13), (.ext 1 (.t 6)), none⟩,
 ⟨(some 4), (.mov (.t 12)), none⟩,
 ⟨(some 5), (.mov (.t 13)), none⟩])
 (.keep [0, 3, 5]))
 (.seq
 (.block 0
 (.loop
 (.seq
 (.seq
 (.seq (.ops [⟨(some 14), (.mov (.t 5)), none⟩])
 (.keep [0, 3, 14]))
 (.cond (.t 14)
 .skip
 (.exit 0)))
 (.block 1
 (.seq
 (.seq (.ops [⟨(some 15), (.mov (.t 3)), none⟩,
 ⟨(some 16), (.bin .add (.t 15) (.c (.int .i64 1))), none⟩,
 ⟨(some 3), (.mov (.t 16)), none⟩])
 (.keep [0, 3]))
 (.seq (.ops [⟨(some 18), (.mov (.t 0)), none⟩,
 ⟨(some 19), (.mov (.t 3)), none⟩,
 ⟨(some 20), (.call n_spec_l13Two [(.t 19)]), none⟩,
 ⟨(some 21), (.bin .add (.c (.string ⟨⟨[113]⟩⟩)) (.t 20)), none⟩,
 ⟨(some 22), (.call n_spec_l13Get [(.t 18), (.t 21)]), none⟩,
 ⟨(some 17), (.mov (.t 22)), none⟩,
 ⟨(some 23), (.ext 0 (.t 17)), none⟩,
 ⟨(some 24), (.ext 1 (.t 17)), none⟩,
 ⟨(some 5), (.mov (.t 24)), none⟩])
 (.keep [0, 3, 5])))))))
 (.seq
 (.seq (.ops [⟨(some 25), (.mov (.t 3)), none⟩,
 ⟨(some 2), (.mov (.t 25)), none⟩])
 (.keep [2]))
 .ret))))),
 [(.slot 2)]⟩
/-- impl roundsOf -/
def F_impl_roundsOf : Fun := ⟨1,
 (.seq
 (.seq (.ops [⟨(some 2), (.mov (.c (.int .i64 0))), none⟩])
 (.keep [0]))
 (.seq
 (.seq (.ops [⟨(some 3), (.mov (.c (.int .i64 0))), none⟩])
 (.keep [0, 3]))
 (.seq
 (.block 0
 (.loop
 (.seq
 (.seq
 (.seq (.ops [⟨(some 6), (.mov (.t 3)), none⟩,
 ⟨(some 7), (.bin .leq (.t 6) (.c (.int .i64 6))), none⟩])
 (.keep [0, 3, 7]))
 (.cond (.t 7)
 .skip
 (.exit 0)))
 (.block 1
 (.seq
 (.seq
 (.seq (.ops [⟨(some 9), (.mov (.t 0)), none⟩,
 ⟨(some 10), (.mov (.t 3)), none⟩,
 ⟨(some 11), (.call n_impl_two [(.t 10)]), none⟩,
 ⟨(some 12), (.bin .add (.c (.string ⟨⟨[113]⟩⟩)) (.t 11)), none⟩,
 ⟨(some 13), (.call n_impl_get [(.t 9), (.t 12)]), none⟩,
 ⟨(some 8), (.mov (.t 13)), none⟩,
 ⟨(some 14), (.ext 0 (.t 8)), none⟩,
 ⟨(some 15), (.ext 1 (.t 8)), none⟩,
 ⟨(some 4), (.mov (.t 14)), none⟩,
 ⟨(some 5), (.mov (.t 15)), none⟩])
 (.keep [0, 3, 5]))
 (.seq
 (.seq (.ops [⟨(some 16), (.mov (.t 5)), none⟩,
 ⟨(some 17), (.un .not (.t 16)), none⟩])
 (.keep [0, 3, 17]))
 (.cond (.t 17)
 (.exit 0)
 .skip)))
 (.seq (.ops [⟨(some 18), (.mov (.t 3)), none⟩,
 ⟨(some 19), (.bin .add (.t 18) (.c (.int .i64 1))), none⟩,
 ⟨(some 3), (.mov (.t 19)), none⟩])
 (.keep [0, 3])))))))
 (.seq
 (.seq (.ops [⟨(some 20), (.mov (.t 3)), none⟩,
 ⟨(some 2), (.mov (.t 20)), none⟩])
 (.keep [2]))
 .ret)))),
 [(.slot 2)]⟩
/-- spec l01Figure -/
def F_spec_l01Figure : Fun := ⟨1,
 (.seq
 (.seq (.ops [⟨(some 2), (.mov (.c (.int .u8 0))), none⟩])
 (.keep [0]))
 (.seq
 (.seq
 (.seq (.ops [⟨(some 3), (.mov (.t 0)), none⟩,
 ⟨(some 4), (.bin .lss (.t 3) (.c (.int .i64 10))), none⟩])
 (.keep [0, 4]))
 (.cond (.t 4)
 (.seq
 (.seq (.ops [⟨(some 5), (.mov (.t 0)), none⟩,
 ⟨(some 6), (.bin .add (.c (.int .i64 48)) (.t 5)), none⟩,
 ⟨(some 7), (.conv .u8 (.t 6)), none⟩,
 ⟨(some 2), (.mov (.t 7)), none⟩])
 (.keep [2]))
 .ret)
 .skip))
 (.seq
 (.seq (.ops [⟨(some 8), (.mov (.t 0)), none⟩,
 ⟨(some 9), (.bin .add (.c (.int .i64 97)) (.t 8)), none⟩,
 ⟨(some 10), (.bin .sub (.t 9) (.c (.int .i64 10))), none⟩,
 ⟨(some 11), (.conv .u8 (.t 10)), none⟩,
 ⟨(some 2), (.mov (.t 11)), none⟩])
 (.keep [2]))
 .ret))),
 [(.slot 2)]⟩
/-- impl certOf -/
def F_impl_certOf : Fun := ⟨2,
 (.seq
 (.seq (.ops [⟨(some 4), (.mov (.c (.string ⟨⟨[]⟩⟩))), none⟩,
 ⟨(some 5), (.mov (.c (.int .i64 0))), none⟩])
 (.keep [0, 1]))
 (.seq
 (.seq (.ops [⟨(some 6), (.mov (.c (.string ⟨⟨[]⟩⟩))), none⟩])
 (.keep [0, 1, 6]))
 (.seq
 (.seq (.ops [⟨(some 7), (.mov (.c (.int .i64 0))), none⟩])
 (.keep [0, 1, 6, 7]))
 (.block 0
 (.loop
 (.block 1
 (.seq
 (.seq (.ops [⟨(some 11), (.mov (.t 0)), none⟩,
 ⟨(some 12), (.mov (.t 1)), none⟩,
 ⟨(some 13), (.call n_impl_two [(.t 12)]), none⟩,
 ⟨(some 14), (.bin .add (.c (.string ⟨⟨[114]⟩⟩)) (.t 13)), none⟩,
 ⟨(some 15), (.mov (.t 7)), none⟩,
 ⟨(some 16), (.call n_impl_two [(.t 15)]), none⟩,
 ⟨(some 17), (.bin .add (.t 14) (.t 16)), none⟩,
 ⟨(some 18), (.call n_impl_get [(.t 11), (.t 17)]), none⟩,
 ⟨(some 10), (.mov (.t 18)), none⟩,
 ⟨(some 19), (.ext 0 (.t 10)), none⟩,
 ⟨(some 20), (.ext 1 (.t 10)), none⟩,
 ⟨(some 8), (.mov (.t 19)), none⟩,
 ⟨(some 9), (.mov (.t 20)), none⟩])
 (.keep [0, 1, 6, 7, 8, 9]))
 (.seq
 (.seq
 (.seq (.ops [⟨(some 21), (.mov (.t 9)), none⟩,
 ⟨(some 22), (.un .not (.t 21)), none⟩,
 ⟨(some 23), (.mov (.t 22)), none⟩,
 ⟨(some 24), (.mov (.t 7)), (some (23, false))⟩,
 ⟨(some 25), (.bin .gtr (.t 24) (.c (.int .i64 99))), (some (23, false))⟩,
 ⟨(some 26), (.pick (.t 23) (.c (.bool true)) (.t 25)), none⟩])
 (.keep [0, 1, 6, 7, 8, 26]))
 (.cond (.t 26)
 (.seq
 (.seq (.ops [⟨(some 27), (.mov (.t 6)), none⟩,
 ⟨(some 28), (.mov (.t 7)), none⟩,
 ⟨(some 4), (.mov (.t 27)), none⟩,
 ⟨(some 5), (.mov (.t 28)), none⟩])
 (.keep [4, 5]))
 .ret)
 .skip))
 (.seq
 (.seq (.ops [⟨(some 29), (.mov (.t 6)), none⟩,
 ⟨(some 30), (.mov (.t 8)), none⟩,
 ⟨(some 31), (.bin .add (.t 29) (.t 30)), none⟩,
 ⟨(some 6), (.mov (.t 31)), none⟩])
 (.keep [0, 1, 6, 7]))
 (.seq (.ops [⟨(some 32), (.mov (.t 7)), none⟩,
 ⟨(some 33), (.bin .add (.t 32) (.c (.int .i64 1))), none⟩,
 ⟨(some 7), (.mov (.t 33)), none⟩])
 (.keep [0, 1, 6, 7]))))))))))),
 [(.slot 4), (.slot 5)]⟩
/-- impl ReadCert -/
def F_impl_ReadCert : Fun := ⟨1,
 (.seq
 (.seq (.ops [⟨(some 2), (.newL [(.int .i64 0), (.slice none 0 0), (.slice none 0 0), (.slice none 0 0), (.slice none 0 0)]), none⟩,
 ⟨(some 3), (.mov (.c (.bool false))), none⟩])
 (.keep [0, 2]))
 (.seq
 (.seq (.ops [⟨(some 12), (.mov (.t 0)), none⟩,
 ⟨(some 13), (.bld [(.string ⟨⟨[]⟩⟩), (.int .i64 0), (.bool false)] [(0, (1, (.t 12)))]), none⟩,
 ⟨(some 14), (.bx y_reader 3 (.t 13)), none⟩,
 ⟨(some 4), (.mov (.t 14)), none⟩])
 (.keep [2, 4]))
 (.seq
 (.seq (.ops [⟨(some 5), (.newL [(.int .i64 0), (.slice none 0 0), (.slice none 0 0), (.slice none 0 0), (.slice none 0 0)]), none⟩])
 (.keep [2, 4, 5]))
 (.seq
 (.seq (.ops [⟨(some 15), (.mov (.t 4)), none⟩,
 ⟨(some 16), (.call n_impl_reader_num [(.t 15)]), none⟩,
 ⟨(some 17), (.faB 0 5), none⟩,
 ⟨(some 18), (.faE 0 5 17), none⟩,
 ⟨none, (.stE 1 5 18 (.t 16)), none⟩])
 (.keep [2, 4, 5]))
 (.seq
 (.seq (.ops [⟨(some 19), (.mov (.t 4)), none⟩,
 ⟨(some 20), (.call n_impl_reader_num [(.t 19)]), none⟩,
 ⟨(some 6), (.mov (.t 20)), none⟩])
 (.keep [2, 4, 5, 6]))
 (.seq
 (.block 0
 (.loop
 (.seq
 (.seq
 (.seq (.ops [⟨(some 21), (.mov (.t 6)), none⟩,
 ⟨(some 22), (.bin .gtr (.t 21) (.c (.int .i64 0))), none⟩,
 ⟨(some 23), (.mov (.t 22)), none⟩,
 ⟨(some 24), (.mov (.t 4)), (some (23, true))⟩,
 ⟨(some 25), (.chk (.t 24)), (some (23, true))⟩,
 ⟨(some 26), (.fa 2 (.t 25)), (some (23, true))⟩,
 ⟨(some 27), (.ld 1 false (.t 26)), (some (23, true))⟩,
 ⟨(some 28), (.un .not (.t 27)), (some (23, true))⟩,
 ⟨(some 29), (.pick (.t 23) (.t 28) (.c (.bool false))), none⟩])
 (.keep [2, 4, 5, 6, 29]))
 (.cond (.t 29)
 .skip
 (.exit 0)))
 (.seq
 (.block 1
 (.seq
 (.seq (.ops [⟨(some 7), (.newL [(.int .i64 0), (.int .i64 0), (.int .i64 0), (.int .i64 0), (.int .i64 0)]), none⟩])
 (.keep [2, 4, 5, 6, 7]))
 (.seq
 (.seq (.ops [⟨(some 32), (.mov (.t 4)), none⟩,
 ⟨(some 33), (.call n_impl_reader_num [(.t 32)]), none⟩,
 ⟨(some 34), (.faB 0 7), none⟩,
 ⟨none, (.stE 1 7 34 (.t 33)), none⟩])
 (.keep [2, 4, 5, 6, 7]))
 (.seq
 (.seq (.ops [⟨(some 35), (.mov (.t 4)), none⟩,
 ⟨(some 36), (.call n_impl_reader_num [(.t 35)]), none⟩,
 ⟨(some 37), (.faB 1 7), none⟩,
 ⟨none, (.stE 1 7 37 (.t 36)), none⟩])
 (.keep [2, 4, 5, 6, 7]))
 (.seq
 (.seq (.ops [⟨(some 38), (.mov (.t 4)), none⟩,
 ⟨(some 39), (.call n_impl_reader_num [(.t 38)]), none⟩,
 ⟨(some 40), (.faB 2 7), none⟩,
 ⟨none, (.stE 1 7 40 (.t 39)), none⟩])
 (.keep [2, 4, 5, 6, 7]))
 (.seq
 (.seq (.ops [⟨(some 41), (.mov (.t 4)), none⟩,
 ⟨(some 42), (.call n_impl_reader_num [(.t 41)]), none⟩,
 ⟨(some 43), (.faB 3 7), none⟩,
 ⟨none, (.stE 1 7 43 (.t 42)), none⟩])
 (.keep [2, 4, 5, 6, 7]))
 (.seq
 (.seq (.ops [⟨(some 44), (.mov (.t 4)), none⟩,
 ⟨(some 45), (.call n_impl_reader_num [(.t 44)]), none⟩,
 ⟨(some 46), (.faB 4 7), none⟩,
 ⟨none, (.stE 1 7 46 (.t 45)), none⟩])
 (.keep [2, 4, 5, 6, 7]))
 (.seq (.ops [⟨(some 47), (.faB 0 5), none⟩,
 ⟨(some 48), (.faE 1 5 47), none⟩,
 ⟨(some 49), (.ldE 1 false 5 48), none⟩,
 ⟨(some 50), (.ldB 5 true 7), none⟩,
 ⟨(some 51), (.litL 1 5 [(.int .i64 0), (.int .i64 0), (.int .i64 0), (.int .i64 0), (.int .i64 0)] [(0, (.t 50))]), none⟩,
 ⟨(some 52), (.appL 5 y_Edge 40 1 (.t 49) 51), none⟩,
 ⟨(some 53), (.faB 0 5), none⟩,
 ⟨(some 54), (.faE 1 5 53), none⟩,
 ⟨none, (.stE 1 5 54 (.t 52)), none⟩])
 (.keep [2, 4, 5, 6])))))))))
 (.seq (.ops [⟨(some 30), (.mov (.t 6)), none⟩,
 ⟨(some 31), (.bin .sub (.t 30) (.c (.int .i64 1))), none⟩,
 ⟨(some 6), (.mov (.t 31)), none⟩])
 (.keep [2, 4, 5, 6]))))))
 (.seq
 (.seq (.ops [⟨(some 55), (.mov (.t 4)), none⟩,
 ⟨(some 56), (.call n_impl_reader_num [(.t 55)]), none⟩,
 ⟨(some 6), (.mov (.t 56)), none⟩])
 (.keep [2, 4, 5, 6]))
 (.seq
 (.block 2
 (.loop
 (.seq
 (.seq
 (.seq (.ops [⟨(some 57), (.mov (.t 6)), none⟩,
 ⟨(some 58), (.bin .gtr (.t 57) (.c (.int .i64 0))), none⟩,
 ⟨(some 59), (.mov (.t 58)), none⟩,
 ⟨(some 60), (.mov (.t 4)), (some (59, true))⟩,
 ⟨(some 61), (.chk (.t 60)), (some (59, true))⟩,
 ⟨(some 62), (.fa 2 (.t 61)), (some (59, true))⟩,
 ⟨(some 63), (.ld 1 false (.t 62)), (some (59, true))⟩,
 ⟨(some 64), (.un .not (.t 63)), (some (59, true))⟩,
 ⟨(some 65), (.pick (.t 59) (.t 64) (.c (.bool false))), none⟩])
 (.keep [2, 4, 5, 6, 65]))
 (.cond (.t 65)
 .skip
 (.exit 2)))
 (.seq
 (.block 3
 (.seq
 (.seq (.ops [⟨(some 8), (.newL [(.int .i64 0), (.int .i64 0)]), none⟩])
 (.keep [2, 4, 5, 6, 8]))
 (.seq
 (.seq (.ops [⟨(some 68), (.mov (.t 4)), none⟩,
 ⟨(some 69), (.call n_impl_reader_num [(.t 68)]), none⟩,
 ⟨(some 70), (.faB 0 8), none⟩,
 ⟨none, (.stE 1 8 70 (.t 69)), none⟩])
 (.keep [2, 4, 5, 6, 8]))
 (.seq
 (.seq (.ops [⟨(some 71), (.mov (.t 4)), none⟩,
 ⟨(some 72), (.call n_impl_reader_num [(.t 71)]), none⟩,
 ⟨(some 73), (.faB 1 8), none⟩,
 ⟨none, (.stE 1 8 73 (.t 72)), none⟩])
 (.keep [2, 4, 5, 6, 8]))
 (.seq (.ops [⟨(some 74), (.faB 2 5), none⟩,
 ⟨(some 75), (.ldE 1 false 5 74), none⟩,
 ⟨(some 76), (.ldB 2 true 8), none⟩,
 ⟨(some 77), (.litL 1 2 [(.int .i64 0), (.int .i64 0)] [(0, (.t 76))]), none⟩,
 ⟨(some 78), (.appL 2 y_Couple 16 1 (.t 75) 77), none⟩,
 ⟨(some 79), (.faB 2 5), none⟩,
 ⟨none, (.stE 1 5 79 (.t 78)), none⟩])
 (.keep [2, 4, 5, 6]))))))
 (.seq (.ops [⟨(some 66), (.mov (.t 6)), none⟩,
 ⟨(some 67), (.bin .sub (.t 66) (.c (.int .i64 1))), none⟩,
 ⟨(some 6), (.mov (.t 67)), none⟩])
 (.keep [2, 4, 5, 6]))))))
 (.seq
 (.seq
 (.seq (.ops [⟨(some 80), (.faB 0 5), none⟩,
 ⟨(some 81), (.faE 0 5 80), none⟩,
 ⟨(some 82), (.ldE 1 false 5 81), none⟩,
 ⟨(some 9), (.mov (.t 82)), none⟩])
 (.keep [2, 4, 5, 9]))
 (.block 4
 (.loop
 (.seq
 (.seq
 (.seq (.ops [⟨(some 83), (.mov (.t 9)), none⟩,
 ⟨(some 84), (.bin .gtr (.t 83) (.c (.int .i64 0))), none⟩,
 ⟨(some 85), (.mov (.t 84)), none⟩,
 ⟨(some 86), (.mov (.t 4)), (some (85, true))⟩,
 ⟨(some 87), (.chk (.t 86)), (some (85, true))⟩,
 ⟨(some 88), (.fa 2 (.t 87)), (some (85, true))⟩,
 ⟨(some 89), (.ld 1 false (.t 88)), (some (85, true))⟩,
 ⟨(some 90), (.un .not (.t 89)), (some (85, true))⟩,
 ⟨(some 91), (.pick (.t 85) (.t 90) (.c (.bool false))), none⟩])
 (.keep [2, 4, 5, 9, 91]))
 (.cond (.t 91)
 .skip
 (.exit 4)))
 (.seq
 (.block 5
 (.seq
 (.seq (.ops [⟨(some 94), (.mov (.t 4)), none⟩,
 ⟨(some 95), (.call n_impl_reader_num [(.t 94)]), none⟩,
 ⟨(some 10), (.mov (.t 95)), none⟩])
 (.keep [2, 4, 5, 9, 10]))
 (.seq (.ops [⟨(some 96), (.faB 3 5), none⟩,
 ⟨(some 97), (.faE 0 5 96), none⟩,
 ⟨(some 98), (.ldE 1 false 5 97), none⟩,
 ⟨(some 99), (.mov (.t 10)), none⟩,
 ⟨(some 100), (.litL 1 1 [(.int .i64 0)] [(0, (.t 99))]), none⟩,
 ⟨(some 101), (.appL 1 y_int 8 1 (.t 98) 100), none⟩,
 ⟨(some 102), (.faB 3 5), none⟩,
 ⟨(some 103), (.faE 0 5 102), none⟩,
 ⟨none, (.stE 1 5 103 (.t 101)), none⟩])
 (.keep [2, 4, 5, 9]))))
 (.seq (.ops [⟨(some 92), (.mov (.t 9)), none⟩,
 ⟨(some 93), (.bin .sub (.t 92) (.c (.int .i64 1))), none⟩,
 ⟨(some 9), (.mov (.t 93)), none⟩])
 (.keep [2, 4, 5, 9])))))))
 (.seq
 (.seq (.ops [⟨(some 104), (.mov (.t 4)), none⟩,
 ⟨(some 105), (.call n_impl_reader_num [(.t 104)]), none⟩,
 ⟨(some 6), (.mov (.t 105)), none⟩])
 (.keep [2, 4, 5, 6]))
 (.seq
 (.block 6
 (.loop
 (.seq
 (.seq
 (.seq (.ops [⟨(some 106), (.mov (.t 6)), none⟩,
 ⟨(some 107), (.bin .gtr (.t 106) (.c (.int .i64 0))), none⟩,
 ⟨(some 108), (.mov (.t 107)), none⟩,
 ⟨(some 109), (.mov (.t 4)), (some (108, true))⟩,
 ⟨(some 110), (.chk (.t 109)), (some (108, true))⟩,
 ⟨(some 111), (.fa 2 (.t 110)), (some (108, true))⟩,
 ⟨(some 112), (.ld 1 false (.t 111)), (some (108, true))⟩,
 ⟨(some 113), (.un .not (.t 112)), (some (108, true))⟩,
 ⟨(some 114), (.pick (.t 108) (.t 113) (.c (.bool false))), none⟩])
 (.keep [2, 4, 5, 6, 114]))
 (.cond (.t 114)
 .skip
 (.exit 6)))
 (.seq
 (.block 7
 (.seq
 (.seq (.ops [⟨(some 117), (.mov (.t 4)), none⟩,
 ⟨(some 118), (.call n_impl_reader_group [(.t 117)]), none⟩,
 ⟨(some 11), (.newL [(.slice none 0 0), (.int .i64 0)]), none⟩,
 ⟨none, (.stB 2 11 (.t 118)), none⟩])
 (.keep [2, 4, 5, 6, 11]))
 (.seq (.ops [⟨(some 119), (.faB 3 5), none⟩,
 ⟨(some 120), (.faE 1 5 119), none⟩,
 ⟨(some 121), (.ldE 1 false 5 120), none⟩,
 ⟨(some 122), (.ldB 2 true 11), none⟩,
 ⟨(some 123), (.litL 1 2 [(.slice none 0 0), (.int .i64 0)] [(0, (.t 122))]), none⟩,
 ⟨(some 124), (.appL 2 y_Group 32 1 (.t 121) 123), none⟩,
 ⟨(some 125), (.faB 3 5), none⟩,
 ⟨(some 126), (.faE 1 5 125), none⟩,
 ⟨none, (.stE 1 5 126 (.t 124)), none⟩])
 (.keep [2, 4, 5, 6]))))
 (.seq (.ops [⟨(some 115), (.mov (.t 6)), none⟩,
 ⟨(some 116), (.bin .sub (.t 115) (.c (.int .i64 1))), none⟩,
 ⟨(some 6), (.mov (.t 116)), none⟩])
 (.keep [2, 4, 5, 6]))))))
 (.seq
 (.seq
 (.seq (.ops [⟨(some 127), (.mov (.t 4)), none⟩,
 ⟨(some 128), (.call n_impl_reader_ends [(.t 127)]), none⟩,
 ⟨(some 129), (.un .not (.t 128)), none⟩,
 ⟨(some 130), (.mov (.t 129)), none⟩,
 ⟨(some 131), (.faB 0 5), (some (130, false))⟩,
 ⟨(some 132), (.ldE 2 true 5 131), (some (130, false))⟩,
 ⟨(some 133), (.faB 2 5), (some (130, false))⟩,
 ⟨(some 134), (.ldE 1 false 5 133), (some (130, false))⟩,
 ⟨(some 135), (.faB 3 5), (some (130, false))⟩,
 ⟨(some 136), (.ldE 2 true 5 135), (some (130, false))⟩,
 ⟨(some 137), (.call n_impl_Certifies [(.t 132), (.t 134), (.t 136)]), (some (130, false))⟩,
 ⟨(some 138), (.un .not (.t 137)), (some (130, false))⟩,
 ⟨(some 139), (.pick (.t 130) (.c (.bool true)) (.t 138)), none⟩])
 (.keep [2, 5, 139]))
 (.cond (.t 139)
 (.seq
 (.seq (.ops [⟨(some 140), (.bld [(.int .i64 0), (.slice none 0 0), (.slice none 0 0), (.slice none 0 0), (.slice none 0 0)] []), none⟩,
 ⟨none, (.stB 5 2 (.t 140)), none⟩,
 ⟨(some 3), (.mov (.c (.bool false))), none⟩])
 (.keep [2, 3]))
 .ret)
 .skip))
 (.seq
 (.seq (.ops [⟨(some 141), (.ldB 5 true 5), none⟩,
 ⟨none, (.stB 5 2 (.t 141)), none⟩,
 ⟨(some 3), (.mov (.c (.bool true))), none⟩])
 (.keep [2, 3]))
 .ret))))))))))))),
 [(.box 2 5 true), (.slot 3)]⟩
/-- spec MapOk -/
def F_spec_MapOk : Fun := ⟨1,
 (.seq
 (.seq (.ops [⟨(some 2), (.mov (.c (.bool false))), none⟩])
 (.keep [0]))
 (.seq
 (.seq
 (.seq (.ops [⟨(some 4), (.mov (.t 0)), none⟩,
 ⟨(some 5), (.ln (.t 4)), none⟩,
 ⟨(some 6), (.bin .gtr (.t 5) (.c (.int .i64 120))), none⟩])
 (.keep [0, 6]))
 (.cond (.t 6)
 (.seq
 (.seq (.ops [⟨(some 2), (.mov (.c (.bool false))), none⟩])
 (.keep [2]))
 .ret)
 .skip))
 (.seq
 (.seq
 (.seq (.ops [⟨(some 3), (.mov (.c (.int .i64 0))), none⟩])
 (.keep [0, 3]))
 (.block 0
 (.loop
 (.seq
 (.seq
 (.seq (.ops [⟨(some 7), (.mov (.t 3)), none⟩,
 ⟨(some 8), (.mov (.t 0)), none⟩,
 ⟨(some 9), (.ln (.t 8)), none⟩,
 ⟨(some 10), (.bin .lss (.t 7) (.t 9)), none⟩])
 (.keep [0, 3, 10]))
 (.cond (.t 10)
 .skip
 (.exit 0)))
 (.seq
 (.block 1
 (.seq
 (.seq (.free true [⟨(some 13), (.mov (.t 0)), none⟩,
 ⟨(some 14), (.mov (.t 3)), none⟩,
 ⟨(some 15), (.ia 2 (.t 13) (.t 14)), none⟩,
 ⟨(some 16), (.fa 0 (.t 15)), none⟩,
 ⟨(some 17), (.ld 1 false (.t 16)), none⟩,
 ⟨(some 18), (.lnS (.t 17)), none⟩,
 ⟨(some 19), (.call n_spec_l01In [(.t 18), (.c (.int .i64 1)), (.c (.int .i64 8))]), none⟩,
 ⟨(some 20), (.un .not (.t 19)), none⟩,
 ⟨(some 21), (.mov (.t 20)), none⟩,
 ⟨(some 22), (.mov (.t 0)), (some (21, false))⟩,
 ⟨(some 23), (.mov (.t 3)), (some (21, false))⟩,
 ⟨(some 24), (.ia 2 (.t 22) (.t 23)), (some (21, false))⟩,
 ⟨(some 25), (.fa 1 (.t 24)), (some (21, false))⟩,
 ⟨(some 26), (.ld 1 false (.t 25)), (some (21, false))⟩,
 ⟨(some 27), (.lnS (.t 26)), (some (21, false))⟩,
 ⟨(some 28), (.bin .gtr (.t 27) (.c (.int .i64 40))), (some (21, false))⟩,
 ⟨(some 29), (.pick (.t 21) (.c (.bool true)) (.t 28)), none⟩,
 ⟨(some 30), (.mov (.t 29)), none⟩,
 ⟨(some 31), (.mov (.t 3)), (some (30, false))⟩,
 ⟨(some 32), (.bin .gtr (.t 31) (.c (.int .i64 0))), (some (30, false))⟩,
 ⟨(some 33), (.mov (.t 32)), (some (30, false))⟩,
 ⟨(some 34), (.mov (.t 0)), (some (33, true))⟩,
 ⟨(some 35), (.mov (.t 3)), (some (33, true))⟩,
 ⟨(some 36), (.bin .sub (.t 35) (.c (.int .i64 1))), (some (33, true))⟩,
 ⟨(some 37), (.ia 2 (.t 34) (.t 36)), (some (33, true))⟩,
 ⟨(some 38), (.fa 0 (.t 37)), (some (33, true))⟩,
 ⟨(some 39), (.ld 1 false (.t 38)), (some (33, true))⟩,
 ⟨(some 40), (.mov (.t 0)), (some (33, true))⟩,
 ⟨(some 41), (.mov (.t 3)), (some (33, true))⟩,
 ⟨(some 42), (.ia 2 (.t 40) (.t 41)), (some (33, true))⟩,
 ⟨(some 43), (.fa 0 (.t 42)), (some (33, true))⟩,
 ⟨(some 44), (.ld 1 false (.t 43)), (some (33, true))⟩,
 ⟨(some 45), (.bin .geq (.t 39) (.t 44)), (some (33, true))⟩,
 ⟨(some 46), (.pick (.t 33) (.t 45) (.c (.bool false))), (some (30, false))⟩,
 ⟨(some 47), (.pick (.t 30) (.c (.bool true)) (.t 46)), none⟩])
 (.keep [0, 3, 47]))
 (.cond (.t 47)
 (.seq
 (.seq (.ops [⟨(some 2), (.mov (.c (.bool false))), none⟩])
 (.keep [2]))
 .ret)
 .skip)))
 (.seq (.ops [⟨(some 11), (.mov (.t 3)), none⟩,
 ⟨(some 12), (.bin .add (.t 11) (.c (.int .i64 1))), none⟩,
 ⟨(some 3), (.mov (.t 12)), none⟩])
 (.keep [0, 3])))))))
 (.seq
 (.seq (.ops [⟨(some 2), (.mov (.c (.bool true))), none⟩])
 (.keep [2]))
 .ret)))),
 [(.slot 2)]⟩
/-- spec l13KeyOk -/
def F_spec_l13KeyOk : Fun := ⟨3,
 (.seq
 (.seq (.ops [⟨(some 4), (.boxL 2 (.t 1)), none⟩,
 ⟨(some 6), (.mov (.c (.bool false))), none⟩])
 (.keep [0, 2, 4]))
 (.seq
 (.seq (.ops [⟨(some 26), (.faB 0 4), none⟩,
 ⟨(some 27), (.ldE 1 false 4 26), none⟩,
 ⟨(some 7), (.mov (.t 27)), none⟩])
 (.keep [0, 2, 4, 7]))
 (.seq
 (.block 0
 (.seq
 (.seq (.ops [⟨(some 29), (.mov (.t 7)), none⟩,
 ⟨(some 30), (.lnS (.t 29)), none⟩,
 ⟨(some 31), (.bin .eql (.t 30) (.c (.int .i64 3))), none⟩,
 ⟨(some 32), (.mov (.t 31)), none⟩,
 ⟨(some 33), (.mov (.t 7)), (some (32, true))⟩,
 ⟨(some 34), (.ix (.t 33) (.c (.int .i64 0))), (some (32, true))⟩,
 ⟨(some 35), (.bin .eql (.t 34) (.c (.int .u8 118))), (some (32, true))⟩,
 ⟨(some 36), (.pick (.t 32) (.t 35) (.c (.bool false))), none⟩,
 ⟨(some 28), (.mov (.t 36)), none⟩])
 (.keep [0, 2, 4, 7, 28]))
 (.cond (.t 28)
 (.seq
 (.seq (.ops [⟨(some 38), (.mov (.t 7)), none⟩,
 ⟨(some 39), (.slS (.t 38) (some (.c (.int .i64 1))) none), none⟩,
 ⟨(some 40), (.call n_spec_l13Num [(.t 39)]), none⟩,
 ⟨(some 37), (.mov (.t 40)), none⟩,
 ⟨(some 41), (.ext 0 (.t 37)), none⟩,
 ⟨(some 42), (.ext 1 (.t 37)), none⟩,
 ⟨(some 8), (.mov (.t 41)), none⟩,
 ⟨(some 9), (.mov (.t 42)), none⟩])
 (.keep [2, 4, 8, 9]))
 (.seq
 (.seq
 (.seq (.ops [⟨(some 43), (.mov (.t 9)), none⟩,
 ⟨(some 44), (.un .not (.t 43)), none⟩,
 ⟨(some 45), (.mov (.t 44)), none⟩,
 ⟨(some 46), (.mov (.t 8)), (some (45, false))⟩,
 ⟨(some 47), (.bin .geq (.t 46) (.c (.int .i64 12))), (some (45, false))⟩,
 ⟨(some 48), (.pick (.t 45) (.c (.bool true)) (.t 47)), none⟩])
 (.keep [2, 4, 48]))
 (.cond (.t 48)
 (.seq
 (.seq (.ops [⟨(some 6), (.mov (.c (.bool false))), none⟩])
 (.keep [6]))
 .ret)
 .skip))
 (.seq
 (.seq
 (.seq (.ops [⟨(some 49), (.faB 1 4), none⟩,
 ⟨(some 50), (.ldE 1 false 4 49), none⟩,
 ⟨(some 51), (.bin .eql (.t 50) (.c (.string ⟨⟨[97]⟩⟩))), none⟩,
 ⟨(some 52), (.mov (.t 51)), none⟩,
 ⟨(some 53), (.faB 1 4), (some (52, false))⟩,
 ⟨(some 54), (.ldE 1 false 4 53), (some (52, false))⟩,
 ⟨(some 55), (.bin .eql (.t 54) (.c (.string ⟨⟨[108]⟩⟩))), (some (52, false))⟩,
 ⟨(some 56), (.pick (.t 52) (.c (.bool true)) (.t 55)), none⟩])
 (.keep [2, 4, 56]))
 (.cond (.t 56)
 (.seq
 (.seq (.ops [⟨(some 6), (.mov (.c (.bool true))), none⟩])
 (.keep [6]))
 .ret)
 .skip))
 (.seq
 (.seq
 (.seq (.ops [⟨(some 57), (.faB 1 4), none⟩,
 ⟨(some 58), (.ldE 1 false 4 57), none⟩,
 ⟨(some 59), (.lnS (.t 58)), none⟩,
 ⟨(some 60), (.bin .lss (.t 59) (.c (.int .i64 2))), none⟩,
 ⟨(some 61), (.mov (.t 60)), none⟩,
 ⟨(some 62), (.faB 1 4), (some (61, false))⟩,
 ⟨(some 63), (.ldE 1 false 4 62), (some (61, false))⟩,
 ⟨(some 64), (.ix (.t 63) (.c (.int .i64 0))), (some (61, false))⟩,
 ⟨(some 65), (.bin .neq (.t 64) (.c (.int .u8 112))), (some (61, false))⟩,
 ⟨(some 66), (.pick (.t 61) (.c (.bool true)) (.t 65)), none⟩])
 (.keep [2, 4, 66]))
 (.cond (.t 66)
 (.seq
 (.seq (.ops [⟨(some 6), (.mov (.c (.bool false))), none⟩])
 (.keep [6]))
 .ret)
 .skip))
 (.seq
 (.seq (.ops [⟨(some 68), (.faB 1 4), none⟩,
 ⟨(some 69), (.ldE 1 false 4 68), none⟩,
 ⟨(some 70), (.slS (.t 69) (some (.c (.int .i64 1))) none), none⟩,
 ⟨(some 71), (.call n_spec_ReadDecimal [(.t 70)]), none⟩,
 ⟨(some 67), (.mov (.t 71)), none⟩,
 ⟨(some 72), (.ext 0 (.t 67)), none⟩,
 ⟨(some 73), (.ext 1 (.t 67)), none⟩,
 ⟨(some 10), (.mov (.t 72)), none⟩,
 ⟨(some 11), (.mov (.t 73)), none⟩])
 (.keep [2, 10, 11]))
 (.seq
 (.seq (.ops [⟨(some 74), (.mov (.t 11)), none⟩,
 ⟨(some 75), (.mov (.t 74)), none⟩,
 ⟨(some 76), (.mov (.t 10)), (some (75, true))⟩,
 ⟨(some 77), (.mov (.t 2)), (some (75, true))⟩,
 ⟨(some 78), (.bin .lss (.t 76) (.t 77)), (some (75, true))⟩,
 ⟨(some 79), (.pick (.t 75) (.t 78) (.c (.bool false))), none⟩,
 ⟨(some 6), (.mov (.t 79)), none⟩])
 (.keep [6]))
 .ret))))))
 (.seq
 (.seq (.ops [⟨(some 81), (.mov (.t 7)), none⟩,
 ⟨(some 82), (.lnS (.t 81)), none⟩,
 ⟨(some 83), (.bin .eql (.t 82) (.c (.int .i64 5))), none⟩,
 ⟨(some 84), (.mov (.t 83)), none⟩,
 ⟨(some 85), (.mov (.t 7)), (some (84, true))⟩,
 ⟨(some 86), (.ix (.t 85) (.c (.int .i64 0))), (some (84, true))⟩,
 ⟨(some 87), (.bin .eql (.t 86) (.c (.int .u8 101))), (some (84, true))⟩,
 ⟨(some 88), (.pick (.t 84) (.t 87) (.c (.bool false))), none⟩,
 ⟨(some 80), (.mov (.t 88)), none⟩])
 (.keep [0, 2, 4, 7, 80]))
 (.cond (.t 80)
 (.seq
 (.seq (.ops [⟨(some 90), (.mov (.t 7)), none⟩,
 ⟨(some 91), (.slS (.t 90) (some (.c (.int .i64 1))) (some (.c (.int .i64 3)))), none⟩,
 ⟨(some 92), (.call n_spec_l13Num [(.t 91)]), none⟩,
 ⟨(some 89), (.mov (.t 92)), none⟩,
 ⟨(some 93), (.ext 0 (.t 89)), none⟩,
 ⟨(some 94), (.ext 1 (.t 89)), none⟩,
 ⟨(some 12), (.mov (.t 93)), none⟩,
 ⟨(some 13), (.mov (.t 94)), none⟩])
 (.keep [0, 4, 7, 12, 13]))
 (.seq
 (.seq (.ops [⟨(some 96), (.mov (.t 7)), none⟩,
 ⟨(some 97), (.slS (.t 96) (some (.c (.int .i64 3))) none), none⟩,
 ⟨(some 98), (.call n_spec_l13Num [(.t 97)]), none⟩,
 ⟨(some 95), (.mov (.t 98)), none⟩,
 ⟨(some 99), (.ext 0 (.t 95)), none⟩,
 ⟨(some 100), (.ext 1 (.t 95)), none⟩,
 ⟨(some 14), (.mov (.t 99)), none⟩,
 ⟨(some 15), (.mov (.t 100)), none⟩])
 (.keep [0, 4, 7, 12, 13, 14, 15]))
 (.seq
 (.seq
 (.seq (.ops [⟨(some 101), (.mov (.t 13)), none⟩,
 ⟨(some 102), (.un .not (.t 101)), none⟩,
 ⟨(some 103), (.mov (.t 102)), none⟩,
 ⟨(some 104), (.mov (.t 15)), (some (103, false))⟩,
 ⟨(some 105), (.un .not (.t 104)), (some (103, false))⟩,
 ⟨(some 106), (.pick (.t 103) (.c (.bool true)) (.t 105)), none⟩,
 ⟨(some 107), (.mov (.t 106)), none⟩,
 ⟨(some 108), (.mov (.t 12)), (some (107, false))⟩,
 ⟨(some 109), (.mov (.t 14)), (some (107, false))⟩,
 ⟨(some 110), (.bin .geq (.t 108) (.t 109)), (some (107, false))⟩,
 ⟨(some 111), (.pick (.t 107) (.c (.bool true)) (.t 110)), none⟩,
 ⟨(some 112), (.mov (.t 111)), none⟩,
 ⟨(some 113), (.faB 1 4), (some (112, false))⟩,
 ⟨(some 114), (.ldE 1 false 4 113), (some (112, false))⟩,
 ⟨(some 115), (.lnS (.t 114)), (some (112, false))⟩,
 ⟨(some 116), (.bin .neq (.t 115) (.c (.int .i64 3))), (some (112, false))⟩,
 ⟨(some 117), (.pick (.t 112) (.c (.bool true)) (.t 116)), none⟩])
 (.keep [0, 4, 7, 117]))
 (.cond (.t 117)
 (.seq
 (.seq (.ops [⟨(some 6), (.mov (.c (.bool false))), none⟩])
 (.keep [6]))
 .ret)
 .skip))
 (.seq
 (.seq (.ops [⟨(some 119), (.mov (.t 0)), none⟩,
 ⟨(some 120), (.mov (.t 7)), none⟩,
 ⟨(some 121), (.slS (.t 120) (some (.c (.int .i64 1))) (some (.c (.int .i64 3)))), none⟩,
 ⟨(some 122), (.bin .add (.c (.string ⟨⟨[118]⟩⟩)) (.t 121)), none⟩,
 ⟨(some 123), (.call n_spec_l13Get [(.t 119), (.t 122)]), none⟩,
 ⟨(some 118), (.mov (.t 123)), none⟩,
 ⟨(some 124), (.ext 0 (.t 118)), none⟩,
 ⟨(some 125), (.ext 1 (.t 118)), none⟩,
 ⟨(some 16), (.mov (.t 124)), none⟩,
 ⟨(some 17), (.mov (.t 125)), none⟩])
 (.keep [0, 4, 7, 17]))
 (.seq
 (.seq (.ops [⟨(some 127), (.mov (.t 0)), none⟩,
 ⟨(some 128), (.mov (.t 7)), none⟩,
 ⟨(some 129), (.slS (.t 128) (some (.c (.int .i64 3))) none), none⟩,
 ⟨(some 130), (.bin .add (.c (.string ⟨⟨[118]⟩⟩)) (.t 129)), none⟩,
 ⟨(some 131), (.call n_spec_l13Get [(.t 127), (.t 130)]), none⟩,
 ⟨(some 126), (.mov (.t 131)), none⟩,
 ⟨(some 132), (.ext 0 (.t 126)), none⟩,
 ⟨(some 133), (.ext 1 (.t 126)), none⟩,
 ⟨(some 18), (.mov (.t 132)), none⟩,
 ⟨(some 19), (.mov (.t 133)), none⟩])
 (.keep [4, 17, 19]))
 (.seq
 (.seq (.ops [⟨(some 134), (.mov (.t 17)), none⟩,
 ⟨(some 135), (.mov (.t 134)), none⟩,
 ⟨(some 136), (.mov (.t 19)), (some (135, true))⟩,
 ⟨(some 137), (.pick (.t 135) (.t 136) (.c (.bool false))), none⟩,
 ⟨(some 138), (.mov (.t 137)), none⟩,
 ⟨(some 139), (.faB 1 4), (some (138, true))⟩,
 ⟨(some 140), (.ldE 1 false 4 139), (some (138, true))⟩,
 ⟨(some 141), (.ix (.t 140) (.c (.int .i64 0))), (some (138, true))⟩,
 ⟨(some 142), (.conv .i64 (.t 141)), (some (138, true))⟩,
 ⟨(some 143), (.bin .leq (.t 142) (.c (.int .i64 50))), (some (138, true))⟩,
 ⟨(some 144), (.pick (.t 138) (.t 143) (.c (.bool false))), none⟩,
 ⟨(some 145), (.mov (.t 144)), none⟩,
 ⟨(some 146), (.faB 1 4), (some (145, true))⟩,
 ⟨(some 147), (.ldE 1 false 4 146), (some (145, true))⟩,
 ⟨(some 148), (.ix (.t 147) (.c (.int .i64 1))), (some (145, true))⟩,
 ⟨(some 149), (.conv .i64 (.t 148)), (some (145, true))⟩,
 ⟨(some 150), (.bin .leq (.t 149) (.c (.int .i64 50))), (some (145, true))⟩,
 ⟨(some 151), (.pick (.t 145) (.t 150) (.c (.bool false))), none⟩,
 ⟨(some 152), (.mov (.t 151)), none⟩,
 ⟨(some 153), (.faB 1 4), (some (152, true))⟩,
 ⟨(some 154), (.ldE 1 false 4 153), (some (152, true))⟩,
 ⟨(some 155), (.ix (.t 154) (.c (.int .i64 2))), (some (152, true))⟩,
 ⟨(some 156), (.conv .i64 (.t 155)), (some (152, true))⟩,
 ⟨(some 157), (.bin .leq (.t 156) (.c (.int .i64 50))), (some (152, true))⟩,
 ⟨(some 158), (.pick (.t 152) (.t 157) (.c (.bool false))), none⟩,
 ⟨(some 6), (.mov (.t 158)), none⟩])
 (.keep [6]))
 .ret))))))
 (.seq
 (.seq (.ops [⟨(some 160), (.mov (.t 7)), none⟩,
 ⟨(some 161), (.lnS (.t 160)), none⟩,
 ⟨(some 162), (.bin .eql (.t 161) (.c (.int .i64 5))), none⟩,
 ⟨(some 163), (.mov (.t 162)), none⟩,
 ⟨(some 164), (.mov (.t 7)), (some (163, true))⟩,
 ⟨(some 165), (.ix (.t 164) (.c (.int .i64 0))), (some (163, true))⟩,
 ⟨(some 166), (.bin .eql (.t 165) (.c (.int .u8 114))), (some (163, true))⟩,
 ⟨(some 167), (.pick (.t 163) (.t 166) (.c (.bool false))), none⟩,
 ⟨(some 159), (.mov (.t 167)), none⟩])
 (.keep [2, 7, 159]))
 (.cond (.t 159)
 (.seq
 (.seq (.ops [⟨(some 169), (.mov (.t 7)), none⟩,
 ⟨(some 170), (.slS (.t 169) (some (.c (.int .i64 1))) (some (.c (.int .i64 3)))), none⟩,
 ⟨(some 171), (.call n_spec_l13Num [(.t 170)]), none⟩,
 ⟨(some 168), (.mov (.t 171)), none⟩,
 ⟨(some 172), (.ext 0 (.t 168)), none⟩,
 ⟨(some 173), (.ext 1 (.t 168)), none⟩,
 ⟨(some 20), (.mov (.t 172)), none⟩,
 ⟨(some 21), (.mov (.t 173)), none⟩])
 (.keep [2, 7, 20, 21]))
 (.seq
 (.seq (.ops [⟨(some 175), (.mov (.t 7)), none⟩,
 ⟨(some 176), (.slS (.t 175) (some (.c (.int .i64 3))) none), none⟩,
 ⟨(some 177), (.call n_spec_l13Num [(.t 176)]), none⟩,
 ⟨(some 174), (.mov (.t 177)), none⟩,
 ⟨(some 178), (.ext 0 (.t 174)), none⟩,
 ⟨(some 179), (.ext 1 (.t 174)), none⟩,
 ⟨(some 22), (.mov (.t 178)), none⟩,
 ⟨(some 23), (.mov (.t 179)), none⟩])
 (.keep [2, 20, 21, 23]))
 (.seq
 (.seq (.ops [⟨(some 180), (.mov (.t 21)), none⟩,
 ⟨(some 181), (.mov (.t 180)), none⟩,
 ⟨(some 182), (.mov (.t 23)), (some (181, true))⟩,
 ⟨(some 183), (.pick (.t 181) (.t 182) (.c (.bool false))), none⟩,
 ⟨(some 184), (.mov (.t 183)), none⟩,
 ⟨(some 185), (.mov (.t 20)), (some (184, true))⟩,
 ⟨(some 186), (.mov (.t 2)), (some (184, true))⟩,
 ⟨(some 187), (.bin .lss (.t 185) (.t 186)), (some (184, true))⟩,
 ⟨(some 188), (.pick (.t 184) (.t 187) (.c (.bool false))), none⟩,
 ⟨(some 6), (.mov (.t 188)), none⟩])
 (.keep [6]))
 .ret)))
 (.seq
 (.seq (.ops [⟨(some 190), (.mov (.t 7)), none⟩,
 ⟨(some 191), (.lnS (.t 190)), none⟩,
 ⟨(some 192), (.bin .eql (.t 191) (.c (.int .i64 3))), none⟩,
 ⟨(some 193), (.mov (.t 192)), none⟩,
 ⟨(some 194), (.mov (.t 7)), (some (193, true))⟩,
 ⟨(some 195), (.ix (.t 194) (.c (.int .i64 0))), (some (193, true))⟩,
 ⟨(some 196), (.bin .eql (.t 195) (.c (.int .u8 113))), (some (193, true))⟩,
 ⟨(some 197), (.pick (.t 193) (.t 196) (.c (.bool false))), none⟩,
 ⟨(some 189), (.mov (.t 197)), none⟩])
 (.keep [2, 7, 189]))
 (.cond (.t 189)
 (.seq
 (.seq (.ops [⟨(some 199), (.mov (.t 7)), none⟩,
 ⟨(some 200), (.slS (.t 199) (some (.c (.int .i64 1))) none), none⟩,
 ⟨(some 201), (.call n_spec_l13Num [(.t 200)]), none⟩,
 ⟨(some 198), (.mov (.t 201)), none⟩,
 ⟨(some 202), (.ext 0 (.t 198)), none⟩,
 ⟨(some 203), (.ext 1 (.t 198)), none⟩,
 ⟨(some 24), (.mov (.t 202)), none⟩,
 ⟨(some 25), (.mov (.t 203)), none⟩])
 (.keep [2, 24, 25]))
 (.seq
 (.seq (.ops [⟨(some 204), (.mov (.t 25)), none⟩,
 ⟨(some 205), (.mov (.t 204)), none⟩,
 ⟨(some 206), (.mov (.t 24)), (some (205, true))⟩,
 ⟨(some 207), (.mov (.t 2)), (some (205, true))⟩,
 ⟨(some 208), (.bin .lss (.t 206) (.t 207)), (some (205, true))⟩,
 ⟨(some 209), (.pick (.t 205) (.t 208) (.c (.bool false))), none⟩,
 ⟨(some 6), (.mov (.t 209)), none⟩])
 (.keep [6]))
 .ret))
 .skip)))))))))
 (.seq
 (.seq (.ops [⟨(some 6), (.mov (.c (.bool false))), none⟩])
 (.keep [6]))
 .ret)))),
 [(.slot 6)]⟩
/-- spec l13RoundOk -/
def F_spec_l13RoundOk : Fun := ⟨2,
 (.seq
 (.seq (.ops [⟨(some 4), (.mov (.c (.bool false))), none⟩])
 (.keep [0, 1]))
 (.seq
 (.seq (.ops [⟨(some 18), (.mov (.t 0)), none⟩,
 ⟨(some 19), (.mov (.t 1)), none⟩,
 ⟨(some 20), (.call n_spec_l13Pool [(.t 18), (.t 19)]), none⟩,
 ⟨(some 5), (.mov (.t 20)), none⟩])
 (.keep [0, 1, 5]))
 (.seq
 (.seq
 (.seq (.ops [⟨(some 21), (.mov (.t 5)), none⟩,
 ⟨(some 22), (.ln (.t 21)), none⟩,
 ⟨(some 23), (.bin .gtr (.t 22) (.c (.int .i64 9))), none⟩])
 (.keep [0, 1, 5, 23]))
 (.cond (.t 23)
 (.seq
 (.seq (.ops [⟨(some 4), (.mov (.c (.bool false))), none⟩])
 (.keep [4]))
 .ret)
 .skip))
 (.seq
 (.seq
 (.seq (.ops [⟨(some 6), (.mov (.c (.int .i64 0))), none⟩])
 (.keep [0, 1, 5, 6]))
 (.block 0
 (.loop
 (.seq
 (.seq
 (.seq (.ops [⟨(some 24), (.mov (.t 6)), none⟩,
 ⟨(some 25), (.mov (.t 5)), none⟩,
 ⟨(some 26), (.ln (.t 25)), none⟩,
 ⟨(some 27), (.bin .lss (.t 24) (.t 26)), none⟩])
 (.keep [0, 1, 5, 6, 27]))
 (.cond (.t 27)
 .skip
 (.exit 0)))
 (.seq
 (.block 1
 (.seq
 (.seq (.ops [⟨(some 31), (.mov (.t 0)), none⟩,
 ⟨(some 32), (.mov (.t 5)), none⟩,
 ⟨(some 33), (.mov (.t 6)), none⟩,
 ⟨(some 34), (.ia 1 (.t 32) (.t 33)), none⟩,
 ⟨(some 35), (.ld 1 false (.t 34)), none⟩,
 ⟨(some 36), (.call n_spec_l13Two [(.t 35)]), none⟩,
 ⟨(some 37), (.bin .add (.c (.string ⟨⟨[118]⟩⟩)) (.t 36)), none⟩,
 ⟨(some 38), (.call n_spec_l13Get [(.t 31), (.t 37)]), none⟩,
 ⟨(some 30), (.mov (.t 38)), none⟩,
 ⟨(some 39), (.ext 0 (.t 30)), none⟩,
 ⟨(some 40), (.ext 1 (.t 30)), none⟩,
 ⟨(some 7), (.mov (.t 39)), none⟩,
 ⟨(some 8), (.mov (.t 40)), none⟩])
 (.keep [0, 1, 5, 6, 8]))
 (.seq
 (.seq (.free true [⟨(some 41), (.mov (.t 5)), none⟩,
 ⟨(some 42), (.mov (.t 6)), none⟩,
 ⟨(some 43), (.ia 1 (.t 41) (.t 42)), none⟩,
 ⟨(some 44), (.ld 1 false (.t 43)), none⟩,
 ⟨(some 45), (.bin .geq (.t 44) (.c (.int .i64 12))), none⟩,
 ⟨(some 46), (.mov (.t 45)), none⟩,
 ⟨(some 47), (.mov (.t 8)), (some (46, false))⟩,
 ⟨(some 48), (.un .not (.t 47)), (some (46, false))⟩,
 ⟨(some 49), (.pick (.t 46) (.c (.bool true)) (.t 48)), none⟩,
 ⟨(some 50), (.mov (.t 49)), none⟩,
 ⟨(some 51), (.mov (.t 6)), (some (50, false))⟩,
 ⟨(some 52), (.bin .gtr (.t 51) (.c (.int .i64 0))), (some (50, false))⟩,
 ⟨(some 53), (.mov (.t 52)), (some (50, false))⟩,
 ⟨(some 54), (.mov (.t 5)), (some (53, true))⟩,
 ⟨(some 55), (.mov (.t 6)), (some (53, true))⟩,
 ⟨(some 56), (.bin .sub (.t 55) (.c (.int .i64 1))), (some (53, true))⟩,
 ⟨(some 57), (.ia 1 (.t 54) (.t 56)), (some (53, true))⟩,
 ⟨(some 58), (.ld 1 false (.t 57)), (some (53, true))⟩,
 ⟨(some 59), (.mov (.t 5)), (some (53, true))⟩,
 ⟨(some 60), (.mov (.t 6)), (some (53, true))⟩,
 ⟨(some 61), (.ia 1 (.t 59) (.t 60)), (some (53, true))⟩,
 ⟨(some 62), (.ld 1 false (.t 61)), (some (53, true))⟩,
 ⟨(some 63), (.bin .geq (.t 58) (.t 62)), (some (53, true))⟩,
 ⟨(some 64), (.pick (.t 53) (.t 63) (.c (.bool false))), (some (50, false))⟩,
 ⟨(some 65), (.pick (.t 50) (.c (.bool true)) (.t 64)), none⟩])
 (.keep [0, 1, 5, 6, 65]))
 (.cond (.t 65)
 (.seq
 (.seq (.ops [⟨(some 4), (.mov (.c (.bool false))), none⟩])
 (.keep [4]))
 .ret)
 .skip))))
 (.seq (.ops [⟨(some 28), (.mov (.t 6)), none⟩,
 ⟨(some 29), (.bin .add (.t 28) (.c (.int .i64 1))), none⟩,
 ⟨(some 6), (.mov (.t 29)), none⟩])
 (.keep [0, 1, 5, 6])))))))
 (.seq
 (.seq (.ops [⟨(some 66), (.mov (.t 0)), none⟩,
 ⟨(some 67), (.mov (.t 1)), none⟩,
 ⟨(some 68), (.call n_spec_l13Text [(.t 66), (.t 67)]), none⟩,
 ⟨(some 9), (.mov (.t 68)), none⟩])
 (.keep [0, 1, 5, 9]))
 (.seq
 (.seq (.ops [⟨(some 69), (.mov (.t 9)), none⟩,
 ⟨(some 70), (.call n_spec_CertParts [(.t 69)]), none⟩,
 ⟨(some 10), (.mov (.t 70)), none⟩])
 (.keep [0, 1, 5, 9, 10]))
 (.seq
 (.seq
 (.seq (.ops [⟨(some 11), (.mov (.c (.int .i64 0))), none⟩])
 (.keep [0, 1, 5, 9, 10, 11]))
 (.block 2
 (.loop
 (.seq
 (.seq
 (.seq (.ops [⟨(some 71), (.mov (.t 11)), none⟩,
 ⟨(some 72), (.mov (.t 10)), none⟩,
 ⟨(some 73), (.ln (.t 72)), none⟩,
 ⟨(some 74), (.bin .lss (.t 71) (.t 73)), none⟩])
 (.keep [0, 1, 5, 9, 10, 11, 74]))
 (.cond (.t 74)
 .skip
 (.exit 2)))
 (.seq
 (.block 3
 (.seq
 (.seq (.ops [⟨(some 78), (.mov (.t 0)), none⟩,
 ⟨(some 79), (.mov (.t 1)), none⟩,
 ⟨(some 80), (.call n_spec_l13Two [(.t 79)]), none⟩,
 ⟨(some 81), (.bin .add (.c (.string ⟨⟨[114]⟩⟩)) (.t 80)), none⟩,
 ⟨(some 82), (.mov (.t 11)), none⟩,
 ⟨(some 83), (.call n_spec_l13Two [(.t 82)]), none⟩,
 ⟨(some 84), (.bin .add (.t 81) (.t 83)), none⟩,
 ⟨(some 85), (.call n_spec_l13Get [(.t 78), (.t 84)]), none⟩,
 ⟨(some 77), (.mov (.t 85)), none⟩,
 ⟨(some 86), (.ext 0 (.t 77)), none⟩,
 ⟨(some 87), (.ext 1 (.t 77)), none⟩,
 ⟨(some 12), (.mov (.t 86)), none⟩,
 ⟨(some 13), (.mov (.t 87)), none⟩])
 (.keep [0, 1, 5, 9, 10, 11, 12, 13]))
 (.seq
 (.seq (.ops [⟨(some 88), (.mov (.t 11)), none⟩,
 ⟨(some 89), (.bin .gtr (.t 88) (.c (.int .i64 99))), none⟩,
 ⟨(some 90), (.mov (.t 89)), none⟩,
 ⟨(some 91), (.mov (.t 13)), (some (90, false))⟩,
 ⟨(some 92), (.un .not (.t 91)), (some (90, false))⟩,
 ⟨(some 93), (.pick (.t 90) (.c (.bool true)) (.t 92)), none⟩,
 ⟨(some 94), (.mov (.t 93)), none⟩,
 ⟨(some 95), (.mov (.t 12)), (some (94, false))⟩,
 ⟨(some 96), (.mov (.t 10)), (some (94, false))⟩,
 ⟨(some 97), (.mov (.t 11)), (some (94, false))⟩,
 ⟨(some 98), (.ia 1 (.t 96) (.t 97)), (some (94, false))⟩,
 ⟨(some 99), (.ld 1 false (.t 98)), (some (94, false))⟩,
 ⟨(some 100), (.bin .neq (.t 95) (.t 99)), (some (94, false))⟩,
 ⟨(some 101), (.pick (.t 94) (.c (.bool true)) (.t 100)), none⟩])
 (.keep [0, 1, 5, 9, 10, 11, 101]))
 (.cond (.t 101)
 (.seq
 (.seq (.ops [⟨(some 4), (.mov (.c (.bool false))), none⟩])
 (.keep [4]))
 .ret)
 .skip))))
 (.seq (.ops [⟨(some 75), (.mov (.t 11)), none⟩,
 ⟨(some 76), (.bin .add (.t 75) (.c (.int .i64 1))), none⟩,
 ⟨(some 11), (.mov (.t 76)), none⟩])
 (.keep [0, 1, 5, 9, 10, 11])))))))
 (.seq
 (.seq (.ops [⟨(some 103), (.mov (.t 0)), none⟩,
 ⟨(some 104), (.mov (.t 1)), none⟩,
 ⟨(some 105), (.call n_spec_l13Two [(.t 104)]), none⟩,
 ⟨(some 106), (.bin .add (.c (.string ⟨⟨[114]⟩⟩)) (.t 105)), none⟩,
 ⟨(some 107), (.mov (.t 10)), none⟩,
 ⟨(some 108), (.ln (.t 107)), none⟩,
 ⟨(some 109), (.call n_spec_l13Two [(.t 108)]), none⟩,
 ⟨(some 110), (.bin .add (.t 106) (.t 109)), none⟩,
 ⟨(some 111), (.call n_spec_l13Get [(.t 103), (.t 110)]), none⟩,
 ⟨(some 102), (.mov (.t 111)), none⟩,
 ⟨(some 112), (.ext 0 (.t 102)), none⟩,
 ⟨(some 113), (.ext 1 (.t 102)), none⟩,
 ⟨(some 14), (.mov (.t 112)), none⟩,
 ⟨(some 15), (.mov (.t 113)), none⟩])
 (.keep [5, 9, 15]))
 (.seq
 (.seq (.ops [⟨(some 115), (.mov (.t 9)), none⟩,
 ⟨(some 116), (.call n_spec_ReadCert [(.t 115)]), none⟩,
 ⟨(some 114), (.mov (.t 116)), none⟩,
 ⟨(some 117), (.ext 0 (.t 114)), none⟩,
 ⟨(some 118), (.ext 1 (.t 114)), none⟩,
 ⟨(some 16), (.newL [(.int .i64 0), (.slice none 0 0), (.slice none 0 0), (.slice none 0 0), (.slice none 0 0)]), none⟩,
 ⟨none, (.stB 5 16 (.t 117)), none⟩,
 ⟨(some 17), (.mov (.t 118)), none⟩])
 (.keep [5, 15, 16, 17]))
 (.seq
 (.seq (.ops [⟨(some 119), (.mov (.t 17)), none⟩,
 ⟨(some 120), (.mov (.t 119)), none⟩,
 ⟨(some 121), (.mov (.t 15)), (some (120, true))⟩,
 ⟨(some 122), (.un .not (.t 121)), (some (120, true))⟩,
 ⟨(some 123), (.pick (.t 120) (.t 122) (.c (.bool false))), none⟩,
 ⟨(some 124), (.mov (.t 123)), none⟩,
 ⟨(some 125), (.faB 0 16), (some (124, true))⟩,
 ⟨(some 126), (.faE 0 16 125), (some (124, true))⟩,
 ⟨(some 127), (.ldE 1 false 16 126), (some (124, true))⟩,
 ⟨(some 128), (.mov (.t 5)), (some (124, true))⟩,
 ⟨(some 129), (.ln (.t 128)), (some (124, true))⟩,
 ⟨(some 130), (.bin .eql (.t 127) (.t 129)), (some (124, true))⟩,
 ⟨(some 131), (.pick (.t 124) (.t 130) (.c (.bool false))), none⟩,
 ⟨(some 4), (.mov (.t 131)), none⟩])
 (.keep [4]))
 .ret)))))))))),
 [(.slot 4)]⟩
/-- spec CertParts -/
def F_spec_CertParts : Fun := ⟨1,
 (.seq
 (.seq (.ops [⟨(some 2), (.mov (.c (.slice none 0 0))), none⟩])
 (.keep [0]))
 (.seq
 (.seq (.ops [⟨(some 4), (.lit 0 1 y_string [(.string ⟨⟨[]⟩⟩)] []), none⟩,
 ⟨(some 3), (.mov (.t 4)), none⟩])
 (.keep [0, 3]))
 (.seq
 (.block 0
 (.loop
 (.seq
 (.seq
 (.seq (.ops [⟨(some 5), (.mov (.t 0)), none⟩,
 ⟨(some 6), (.lnS (.t 5)), none⟩,
 ⟨(some 7), (.bin .gtr (.t 6) (.c (.int .i64 40))), none⟩])
 (.keep [0, 3, 7]))
 (.cond (.t 7)
 .skip
 (.exit 0)))
 (.block 1
 (.seq
 (.seq (.ops [⟨(some 8), (.mov (.t 3)), none⟩,
 ⟨(some 9), (.mov (.t 0)), none⟩,
 ⟨(some 10), (.slS (.t 9) none (some (.c (.int .i64 40)))), none⟩,
 ⟨(some 11), (.litL 1 1 [(.string ⟨⟨[]⟩⟩)] [(0, (.t 10))]), none⟩,
 ⟨(some 12), (.appL 1 y_string 16 1 (.t 8) 11), none⟩,
 ⟨(some 3), (.mov (.t 12)), none⟩])
 (.keep [0, 3]))
 (.seq (.ops [⟨(some 13), (.mov (.t 0)), none⟩,
 ⟨(some 14), (.slS (.t 13) (some (.c (.int .i64 40))) none), none⟩,
 ⟨(some 0), (.mov (.t 14)), none⟩])
 (.keep [0, 3])))))))
 (.seq
 (.seq
 (.seq (.ops [⟨(some 15), (.mov (.t 0)), none⟩,
 ⟨(some 16), (.lnS (.t 15)), none⟩,
 ⟨(some 17), (.bin .gtr (.t 16) (.c (.int .i64 0))), none⟩])
 (.keep [0, 3, 17]))
 (.cond (.t 17)
 (.seq (.ops [⟨(some 18), (.mov (.t 3)), none⟩,
 ⟨(some 19), (.mov (.t 0)), none⟩,
 ⟨(some 20), (.litL 1 1 [(.string ⟨⟨[]⟩⟩)] [(0, (.t 19))]), none⟩,
 ⟨(some 21), (.appL 1 y_string 16 1 (.t 18) 20), none⟩,
 ⟨(some 3), (.mov (.t 21)), none⟩])
 (.keep [3]))
 .skip))
 (.seq
 (.seq (.ops [⟨(some 22), (.mov (.t 3)), none⟩,
 ⟨(some 2), (.mov (.t 22)), none⟩])
 (.keep [2]))
 .ret))))),
 [(.slot 2)]⟩
/-- spec l13Text -/
def F_spec_l13Text : Fun := ⟨2,
 (.seq
 (.seq (.ops [⟨(some 4), (.mov (.c (.string ⟨⟨[]⟩⟩))), none⟩])
 (.keep [0, 1]))
 (.seq
 (.seq (.ops [⟨(some 5), (.mov (.c (.string ⟨⟨[]⟩⟩))), none⟩])
 (.keep [0, 1, 5]))
 (.seq
 (.seq
 (.seq (.ops [⟨(some 6), (.mov (.c (.int .i64 0))), none⟩])
 (.keep [0, 1, 5, 6]))
 (.block 0
 (.loop
 (.seq
 (.seq
 (.seq (.ops [⟨(some 7), (.mov (.t 6)), none⟩,
 ⟨(some 8), (.mov (.t 0)), none⟩,
 ⟨(some 9), (.ln (.t 8)), none⟩,
 ⟨(some 10), (.bin .lss (.t 7) (.t 9)), none⟩])
 (.keep [0, 1, 5, 6, 10]))
 (.cond (.t 10)
 .skip
 (.exit 0)))
 (.seq
 (.block 1
 (.seq
 (.seq (.free false [⟨(some 13), (.mov (.t 0)), none⟩,
 ⟨(some 14), (.mov (.t 6)), none⟩,
 ⟨(some 15), (.ia 2 (.t 13) (.t 14)), none⟩,
 ⟨(some 16), (.fa 0 (.t 15)), none⟩,
 ⟨(some 17), (.ld 1 false (.t 16)), none⟩,
 ⟨(some 18), (.lnS (.t 17)), none⟩,
 ⟨(some 19), (.bin .eql (.t 18) (.c (.int .i64 5))), none⟩,
 ⟨(some 20), (.mov (.t 19)), none⟩,
 ⟨(some 21), (.mov (.t 0)), (some (20, true))⟩,
 ⟨(some 22), (.mov (.t 6)), (some (20, true))⟩,
 ⟨(some 23), (.ia 2 (.t 21) (.t 22)), (some (20, true))⟩,
 ⟨(some 24), (.fa 0 (.t 23)), (some (20, true))⟩,
 ⟨(some 25), (.ld 1 false (.t 24)), (some (20, true))⟩,
 ⟨(some 26), (.slS (.t 25) none (some (.c (.int .i64 3)))), (some (20, true))⟩,
 ⟨(some 27), (.mov (.t 1)), (some (20, true))⟩,
 ⟨(some 28), (.call n_spec_l13Two [(.t 27)]), (some (20, true))⟩,
 ⟨(some 29), (.bin .add (.c (.string ⟨⟨[114]⟩⟩)) (.t 28)), (some (20, true))⟩,
 ⟨(some 30), (.bin .eql (.t 26) (.t 29)), (some (20, true))⟩,
 ⟨(some 31), (.pick (.t 20) (.t 30) (.c (.bool false))), none⟩])
 (.keep [0, 1, 5, 6, 31]))
 (.cond (.t 31)
 (.seq (.ops [⟨(some 32), (.mov (.t 5)), none⟩,
 ⟨(some 33), (.mov (.t 0)), none⟩,
 ⟨(some 34), (.mov (.t 6)), none⟩,
 ⟨(some 35), (.ia 2 (.t 33) (.t 34)), none⟩,
 ⟨(some 36), (.fa 1 (.t 35)), none⟩,
 ⟨(some 37), (.ld 1 false (.t 36)), none⟩,
 ⟨(some 38), (.bin .add (.t 32) (.t 37)), none⟩,
 ⟨(some 5), (.mov (.t 38)), none⟩])
 (.keep [0, 1, 5, 6]))
 .skip)))
 (.seq (.ops [⟨(some 11), (.mov (.t 6)), none⟩,
 ⟨(some 12), (.bin .add (.t 11) (.c (.int .i64 1))), none⟩,
 ⟨(some 6), (.mov (.t 12)), none⟩])
 (.keep [0, 1, 5, 6])))))))
 (.seq
 (.seq (.ops [⟨(some 39), (.mov (.t 5)), none⟩,
 ⟨(some 4), (.mov (.t 39)), none⟩])
 (.keep [4]))
 .ret)))),
 [(.slot 4)]⟩
/-- impl MapOk -/
def F_impl_MapOk : Fun := ⟨1,
 (.seq
 (.seq (.ops [⟨(some 2), (.mov (.c (.bool false))), none⟩])
 (.keep [0]))
 (.seq
 (.seq
 (.seq (.ops [⟨(some 5), (.mov (.t 0)), none⟩,
 ⟨(some 6), (.ln (.t 5)), none⟩,
 ⟨(some 7), (.mov (.c (.int .i64 0))), none⟩])
 (.keep [0, 5, 6, 7]))
 (.block 0
 (.loop
 (.seq
 (.seq (.ops [⟨(some 8), (.bin .lss (.t 7) (.t 6)), none⟩])
 (.keep [0, 5, 6, 7, 8]))
 (.seq
 (.cond (.t 8)
 .skip
 (.exit 0))
 (.seq
 (.block 1
 (.seq
 (.seq (.ops [⟨(some 9), (.mov (.t 7)), none⟩,
 ⟨(some 10), (.ia 2 (.t 5) (.t 7)), none⟩,
 ⟨(some 11), (.ld 2 true (.t 10)), none⟩,
 ⟨(some 4), (.newL [(.string ⟨⟨[]⟩⟩), (.string ⟨⟨[]⟩⟩)]), none⟩,
 ⟨(some 3), (.mov (.t 9)), none⟩,
 ⟨none, (.stB 2 4 (.t 11)), none⟩])
 (.keep [0, 3, 4, 5, 6, 7]))
 (.seq
 (.seq (.free true [⟨(some 12), (.faB 0 4), none⟩,
 ⟨(some 13), (.ldE 1 false 4 12), none⟩,
 ⟨(some 14), (.lnS (.t 13)), none⟩,
 ⟨(some 15), (.call n_impl_in [(.t 14), (.c (.int .i64 1)), (.c (.int .i64 8))]), none⟩,
 ⟨(some 16), (.un .not (.t 15)), none⟩,
 ⟨(some 17), (.mov (.t 16)), none⟩,
 ⟨(some 18), (.faB 1 4), (some (17, false))⟩,
 ⟨(some 19), (.ldE 1 false 4 18), (some (17, false))⟩,
 ⟨(some 20), (.lnS (.t 19)), (some (17, false))⟩,
 ⟨(some 21), (.bin .gtr (.t 20) (.c (.int .i64 40))), (some (17, false))⟩,
 ⟨(some 22), (.pick (.t 17) (.c (.bool true)) (.t 21)), none⟩,
 ⟨(some 23), (.mov (.t 22)), none⟩,
 ⟨(some 24), (.mov (.t 3)), (some (23, false))⟩,
 ⟨(some 25), (.bin .gtr (.t 24) (.c (.int .i64 0))), (some (23, false))⟩,
 ⟨(some 26), (.mov (.t 25)), (some (23, false))⟩,
 ⟨(some 27), (.mov (.t 0)), (some (26, true))⟩,
 ⟨(some 28), (.mov (.t 3)), (some (26, true))⟩,
 ⟨(some 29), (.bin .sub (.t 28) (.c (.int .i64 1))), (some (26, true))⟩,
 ⟨(some 30), (.ia 2 (.t 27) (.t 29)), (some (26, true))⟩,
 ⟨(some 31), (.fa 0 (.t 30)), (some (26, true))⟩,
 ⟨(some 32), (.ld 1 false (.t 31)), (some (26, true))⟩,
 ⟨(some 33), (.faB 0 4), (some (26, true))⟩,
 ⟨(some 34), (.ldE 1 false 4 33), (some (26, true))⟩,
 ⟨(some 35), (.bin .geq (.t 32) (.t 34)), (some (26, true))⟩,
 ⟨(some 36), (.pick (.t 26) (.t 35) (.c (.bool false))), (some (23, false))⟩,
 ⟨(some 37), (.pick (.t 23) (.c (.bool true)) (.t 36)), none⟩])
 (.keep [0, 5, 6, 7, 37]))
 (.cond (.t 37)
 (.seq
 (.seq (.ops [⟨(some 2), (.mov (.c (.bool false))), none⟩])
 (.keep [2]))
 .ret)
 .skip))))
 (.seq (.ops [⟨(some 38), (.bin .add (.t 7) (.c (.int .i64 1))), none⟩,
 ⟨(some 7), (.mov (.t 38)), none⟩])
 (.keep [0, 5, 6, 7]))))))))
 (.seq
 (.seq (.ops [⟨(some 39), (.mov (.t 0)), none⟩,
 ⟨(some 40), (.ln (.t 39)), none⟩,
 ⟨(some 41), (.bin .leq (.t 40) (.c (.int .i64 120))), none⟩,
 ⟨(some 2), (.mov (.t 41)), none⟩])
 (.keep [2]))
 .ret))),
 [(.slot 2)]⟩
/-- impl idOk -/
def F_impl_idOk : Fun := ⟨2,
 (.seq
 (.seq (.ops [⟨(some 3), (.boxL 2 (.t 1)), none⟩,
 ⟨(some 4), (.mov (.c (.bool false))), none⟩])
 (.keep [0, 3]))
 (.seq
 (.seq (.ops [⟨(some 10), (.faB 0 3), none⟩,
 ⟨(some 11), (.ldE 1 false 3 10), none⟩,
 ⟨(some 12), (.slS (.t 11) (some (.c (.int .i64 1))) none), none⟩,
 ⟨(some 13), (.call n_impl_readTwo [(.t 12)]), none⟩,
 ⟨(some 9), (.mov (.t 13)), none⟩,
 ⟨(some 14), (.ext 0 (.t 9)), none⟩,
 ⟨(some 15), (.ext 1 (.t 9)), none⟩,
 ⟨(some 5), (.mov (.t 14)), none⟩,
 ⟨(some 6), (.mov (.t 15)), none⟩])
 (.keep [0, 3, 5, 6]))
 (.seq
 (.seq
 (.seq (.ops [⟨(some 16), (.mov (.t 6)), none⟩,
 ⟨(some 17), (.un .not (.t 16)), none⟩,
 ⟨(some 18), (.mov (.t 17)), none⟩,
 ⟨(some 19), (.mov (.t 5)), (some (18, false))⟩,
 ⟨(some 20), (.bin .geq (.t 19) (.c (.int .i64 12))), (some (18, false))⟩,
 ⟨(some 21), (.pick (.t 18) (.c (.bool true)) (.t 20)), none⟩,
 ⟨(some 22), (.mov (.t 21)), none⟩,
 ⟨(some 23), (.faB 1 3), (some (22, false))⟩,
 ⟨(some 24), (.ldE 1 false 3 23), (some (22, false))⟩,
 ⟨(some 25), (.bin .eql (.t 24) (.c (.string ⟨⟨[]⟩⟩))), (some (22, false))⟩,
 ⟨(some 26), (.pick (.t 22) (.c (.bool true)) (.t 25)), none⟩])
 (.keep [0, 3, 26]))
 (.cond (.t 26)
 (.seq
 (.seq (.ops [⟨(some 4), (.mov (.c (.bool false))), none⟩])
 (.keep [4]))
 .ret)
 .skip))
 (.seq
 (.seq
 (.seq (.ops [⟨(some 27), (.faB 1 3), none⟩,
 ⟨(some 28), (.ldE 1 false 3 27), none⟩,
 ⟨(some 29), (.bin .eql (.t 28) (.c (.string ⟨⟨[97]⟩⟩))), none⟩,
 ⟨(some 30), (.mov (.t 29)), none⟩,
 ⟨(some 31), (.faB 1 3), (some (30, false))⟩,
 ⟨(some 32), (.ldE 1 false 3 31), (some (30, false))⟩,
 ⟨(some 33), (.bin .eql (.t 32) (.c (.string ⟨⟨[108]⟩⟩))), (some (30, false))⟩,
 ⟨(some 34), (.pick (.t 30) (.c (.bool true)) (.t 33)), none⟩])
 (.keep [0, 3, 34]))
 (.cond (.t 34)
 (.seq
 (.seq (.ops [⟨(some 4), (.mov (.c (.bool true))), none⟩])
 (.keep [4]))
 .ret)
 .skip))
 (.seq
 (.seq (.ops [⟨(some 36), (.faB 1 3), none⟩,
 ⟨(some 37), (.ldE 1 false 3 36), none⟩,
 ⟨(some 38), (.slS (.t 37) (some (.c (.int .i64 1))) none), none⟩,
 ⟨(some 39), (.call n_impl_ReadDecimal [(.t 38)]), none⟩,
 ⟨(some 35), (.mov (.t 39)), none⟩,
 ⟨(some 40), (.ext 0 (.t 35)), none⟩,
 ⟨(some 41), (.ext 1 (.t 35)), none⟩,
 ⟨(some 7), (.mov (.t 40)), none⟩,
 ⟨(some 8), (.mov (.t 41)), none⟩])
 (.keep [0, 3, 7, 8]))
 (.seq
 (.seq (.ops [⟨(some 42), (.faB 1 3), none⟩,
 ⟨(some 43), (.ldE 1 false 3 42), none⟩,
 ⟨(some 44), (.ix (.t 43) (.c (.int .i64 0))), none⟩,
 ⟨(some 45), (.bin .eql (.t 44) (.c (.int .u8 112))), none⟩,
 ⟨(some 46), (.mov (.t 45)), none⟩,
 ⟨(some 47), (.mov (.t 8)), (some (46, true))⟩,
 ⟨(some 48), (.pick (.t 46) (.t 47) (.c (.bool false))), none⟩,
 ⟨(some 49), (.mov (.t 48)), none⟩,
 ⟨(some 50), (.mov (.t 7)), (some (49, true))⟩,
 ⟨(some 51), (.mov (.t 0)), (some (49, true))⟩,
 ⟨(some 52), (.call n_impl_roundsOf [(.t 51)]), (some (49, true))⟩,
 ⟨(some 53), (.bin .lss (.t 50) (.t 52)), (some (49, true))⟩,
 ⟨(some 54), (.pick (.t 49) (.t 53) (.c (.bool false))), none⟩,
 ⟨(some 4), (.mov (.t 54)), none⟩])
 (.keep [4]))
 .ret)))))),
 [(.slot 4)]⟩
/-- impl linkOk -/
def F_impl_linkOk : Fun := ⟨2,
 (.seq
 (.seq (.ops [⟨(some 3), (.boxL 2 (.t 1)), none⟩,
 ⟨(some 4), (.mov (.c (.bool false))), none⟩])
 (.keep [0, 3]))
 (.seq
 (.seq
 (.seq (.ops [⟨(some 9), (.faB 0 3), none⟩,
 ⟨(some 10), (.ldE 1 false 3 9), none⟩,
 ⟨(some 11), (.lnS (.t 10)), none⟩,
 ⟨(some 12), (.bin .neq (.t 11) (.c (.int .i64 5))), none⟩,
 ⟨(some 13), (.mov (.t 12)), none⟩,
 ⟨(some 14), (.faB 1 3), (some (13, false))⟩,
 ⟨(some 15), (.ldE 1 false 3 14), (some (13, false))⟩,
 ⟨(some 16), (.lnS (.t 15)), (some (13, false))⟩,
 ⟨(some 17), (.bin .neq (.t 16) (.c (.int .i64 3))), (some (13, false))⟩,
 ⟨(some 18), (.pick (.t 13) (.c (.bool true)) (.t 17)), none⟩])
 (.keep [0, 3, 18]))
 (.cond (.t 18)
 (.seq
 (.seq (.ops [⟨(some 4), (.mov (.c (.bool false))), none⟩])
 (.keep [4]))
 .ret)
 .skip))
 (.seq
 (.seq (.ops [⟨(some 20), (.faB 0 3), none⟩,
 ⟨(some 21), (.ldE 1 false 3 20), none⟩,
 ⟨(some 22), (.slS (.t 21) (some (.c (.int .i64 1))) (some (.c (.int .i64 3)))), none⟩,
 ⟨(some 23), (.call n_impl_readTwo [(.t 22)]), none⟩,
 ⟨(some 19), (.mov (.t 23)), none⟩,
 ⟨(some 24), (.ext 0 (.t 19)), none⟩,
 ⟨(some 25), (.ext 1 (.t 19)), none⟩,
 ⟨(some 5), (.mov (.t 24)), none⟩,
 ⟨(some 6), (.mov (.t 25)), none⟩])
 (.keep [0, 3, 5, 6]))
 (.seq
 (.seq (.ops [⟨(some 27), (.faB 0 3), none⟩,
 ⟨(some 28), (.ldE 1 false 3 27), none⟩,
 ⟨(some 29), (.slS (.t 28) (some (.c (.int .i64 3))) none), none⟩,
 ⟨(some 30), (.call n_impl_readTwo [(.t 29)]), none⟩,
 ⟨(some 26), (.mov (.t 30)), none⟩,
 ⟨(some 31), (.ext 0 (.t 26)), none⟩,
 ⟨(some 32), (.ext 1 (.t 26)), none⟩,
 ⟨(some 7), (.mov (.t 31)), none⟩,
 ⟨(some 8), (.mov (.t 32)), none⟩])
 (.keep [0, 3, 5, 6, 7, 8]))
 (.seq
 (.seq
 (.seq (.ops [⟨(some 33), (.mov (.t 6)), none⟩,
 ⟨(some 34), (.un .not (.t 33)), none⟩,
 ⟨(some 35), (.mov (.t 34)), none⟩,
 ⟨(some 36), (.mov (.t 8)), (some (35, false))⟩,
 ⟨(some 37), (.un .not (.t 36)), (some (35, false))⟩,
 ⟨(some 38), (.pick (.t 35) (.c (.bool true)) (.t 37)), none⟩,
 ⟨(some 39), (.mov (.t 38)), none⟩,
 ⟨(some 40), (.mov (.t 5)), (some (39, false))⟩,
 ⟨(some 41), (.mov (.t 7)), (some (39, false))⟩,
 ⟨(some 42), (.bin .geq (.t 40) (.t 41)), (some (39, false))⟩,
 ⟨(some 43), (.pick (.t 39) (.c (.bool true)) (.t 42)), none⟩,
 ⟨(some 44), (.mov (.t 43)), none⟩,
 ⟨(some 45), (.mov (.t 0)), (some (44, false))⟩,
 ⟨(some 46), (.mov (.t 5)), (some (44, false))⟩,
 ⟨(some 47), (.call n_impl_joined [(.t 45), (.t 46)]), (some (44, false))⟩,
 ⟨(some 48), (.un .not (.t 47)), (some (44, false))⟩,
 ⟨(some 49), (.pick (.t 44) (.c (.bool true)) (.t 48)), none⟩,
 ⟨(some 50), (.mov (.t 49)), none⟩,
 ⟨(some 51), (.mov (.t 0)), (some (50, false))⟩,
 ⟨(some 52), (.mov (.t 7)), (some (50, false))⟩,
 ⟨(some 53), (.call n_impl_joined [(.t 51), (.t 52)]), (some (50, false))⟩,
 ⟨(some 54), (.un .not (.t 53)), (some (50, false))⟩,
 ⟨(some 55), (.pick (.t 50) (.c (.bool true)) (.t 54)), none⟩])
 (.keep [3, 55]))
 (.cond (.t 55)
 (.seq
 (.seq (.ops [⟨(some 4), (.mov (.c (.bool false))), none⟩])
 (.keep [4]))
 .ret)
 .skip))
 (.seq
 (.seq (.ops [⟨(some 56), (.faB 1 3), none⟩,
 ⟨(some 57), (.ldE 1 false 3 56), none⟩,
 ⟨(some 58), (.ix (.t 57) (.c (.int .i64 0))), none⟩,
 ⟨(some 59), (.bin .leq (.t 58) (.c (.int .u8 50))), none⟩,
 ⟨(some 60), (.mov (.t 59)), none⟩,
 ⟨(some 61), (.faB 1 3), (some (60, true))⟩,
 ⟨(some 62), (.ldE 1 false 3 61), (some (60, true))⟩,
 ⟨(some 63), (.ix (.t 62) (.c (.int .i64 1))), (some (60, true))⟩,
 ⟨(some 64), (.bin .leq (.t 63) (.c (.int .u8 50))), (some (60, true))⟩,
 ⟨(some 65), (.pick (.t 60) (.t 64) (.c (.bool false))), none⟩,
 ⟨(some 66), (.mov (.t 65)), none⟩,
 ⟨(some 67), (.faB 1 3), (some (66, true))⟩,
 ⟨(some 68), (.ldE 1 false 3 67), (some (66, true))⟩,
 ⟨(some 69), (.ix (.t 68) (.c (.int .i64 2))), (some (66, true))⟩,
 ⟨(some 70), (.bin .leq (.t 69) (.c (.int .u8 50))), (some (66, true))⟩,
 ⟨(some 71), (.pick (.t 66) (.t 70) (.c (.bool false))), none⟩,
 ⟨(some 4), (.mov (.t 71)), none⟩])
 (.keep [4]))
 .ret)))))),
 [(.slot 4)]⟩
/-- impl poolOk -/
def F_impl_poolOk : Fun := ⟨2,
 (.seq
 (.seq (.ops [⟨(some 3), (.boxL 2 (.t 1)), none⟩,
 ⟨(some 4), (.mov (.c (.bool false))), none⟩])
 (.keep [0, 3]))
 (.seq
 (.seq (.ops [⟨(some 18), (.faB 0 3), none⟩,
 ⟨(some 19), (.ldE 1 false 3 18), none⟩,
 ⟨(some 20), (.slS (.t 19) (some (.c (.int .i64 1))) none), none⟩,
 ⟨(some 21), (.call n_impl_readTwo [(.t 20)]), none⟩,
 ⟨(some 17), (.mov (.t 21)), none⟩,
 ⟨(some 22), (.ext 0 (.t 17)), none⟩,
 ⟨(some 23), (.ext 1 (.t 17)), none⟩,
 ⟨(some 5), (.mov (.t 22)), none⟩,
 ⟨(some 6), (.mov (.t 23)), none⟩])
 (.keep [0, 3, 5, 6]))
 (.seq
 (.seq
 (.seq (.ops [⟨(some 24), (.mov (.t 6)), none⟩,
 ⟨(some 25), (.un .not (.t 24)), none⟩,
 ⟨(some 26), (.mov (.t 25)), none⟩,
 ⟨(some 27), (.mov (.t 5)), (some (26, false))⟩,
 ⟨(some 28), (.mov (.t 0)), (some (26, false))⟩,
 ⟨(some 29), (.call n_impl_roundsOf [(.t 28)]), (some (26, false))⟩,
 ⟨(some 30), (.bin .geq (.t 27) (.t 29)), (some (26, false))⟩,
 ⟨(some 31), (.pick (.t 26) (.c (.bool true)) (.t 30)), none⟩,
 ⟨(some 32), (.mov (.t 31)), none⟩,
 ⟨(some 33), (.faB 1 3), (some (32, false))⟩,
 ⟨(some 34), (.ldE 1 false 3 33), (some (32, false))⟩,
 ⟨(some 35), (.lnS (.t 34)), (some (32, false))⟩,
 ⟨(some 36), (.bin .gtr (.t 35) (.c (.int .i64 9))), (some (32, false))⟩,
 ⟨(some 37), (.pick (.t 32) (.c (.bool true)) (.t 36)), none⟩])
 (.keep [0, 3, 5, 37]))
 (.cond (.t 37)
 (.seq
 (.seq (.ops [⟨(some 4), (.mov (.c (.bool false))), none⟩])
 (.keep [4]))
 .ret)
 .skip))
 (.seq
 (.seq
 (.seq (.ops [⟨(some 38), (.faB 1 3), none⟩,
 ⟨(some 39), (.ldE 1 false 3 38), none⟩,
 ⟨(some 40), (.lnS (.t 39)), none⟩,
 ⟨(some 41), (.mov (.c (.int .i64 0))), none⟩])
 (.keep [0, 3, 5, 40, 41]))
 (.block 0
 (.loop
 (.seq
 (.seq (.ops [⟨(some 42), (.bin .lss (.t 41) (.t 40)), none⟩])
 (.keep [0, 3, 5, 40, 41, 42]))
 (.seq
 (.cond (.t 42)
 .skip
 (.exit 0))
 (.seq
 (.block 1
 (.seq
 (.seq (.ops [⟨(some 43), (.mov (.t 41)), none⟩,
 ⟨(some 7), (.mov (.t 43)), none⟩])
 (.keep [0, 3, 5, 7, 40, 41]))
 (.seq
 (.seq (.free true [⟨(some 44), (.mov (.t 0)), none⟩,
 ⟨(some 45), (.faB 1 3), none⟩,
 ⟨(some 46), (.ldE 1 false 3 45), none⟩,
 ⟨(some 47), (.mov (.t 7)), none⟩,
 ⟨(some 48), (.ix (.t 46) (.t 47)), none⟩,
 ⟨(some 49), (.conv .i64 (.t 48)), none⟩,
 ⟨(some 50), (.call n_impl_joined [(.t 44), (.t 49)]), none⟩,
 ⟨(some 51), (.un .not (.t 50)), none⟩,
 ⟨(some 52), (.mov (.t 51)), none⟩,
 ⟨(some 53), (.mov (.t 7)), (some (52, false))⟩,
 ⟨(some 54), (.bin .gtr (.t 53) (.c (.int .i64 0))), (some (52, false))⟩,
 ⟨(some 55), (.mov (.t 54)), (some (52, false))⟩,
 ⟨(some 56), (.faB 1 3), (some (55, true))⟩,
 ⟨(some 57), (.ldE 1 false 3 56), (some (55, true))⟩,
 ⟨(some 58), (.mov (.t 7)), (some (55, true))⟩,
 ⟨(some 59), (.bin .sub (.t 58) (.c (.int .i64 1))), (some (55, true))⟩,
 ⟨(some 60), (.ix (.t 57) (.t 59)), (some (55, true))⟩,
 ⟨(some 61), (.faB 1 3), (some (55, true))⟩,
 ⟨(some 62), (.ldE 1 false 3 61), (some (55, true))⟩,
 ⟨(some 63), (.mov (.t 7)), (some (55, true))⟩,
 ⟨(some 64), (.ix (.t 62) (.t 63)), (some (55, true))⟩,
 ⟨(some 65), (.bin .geq (.t 60) (.t 64)), (some (55, true))⟩,
 ⟨(some 66), (.pick (.t 55) (.t 65) (.c (.bool false))), (some (52, false))⟩,
 ⟨(some 67), (.pick (.t 52) (.c (.bool true)) (.t 66)), none⟩])
 (.keep [0, 3, 5, 40, 41, 67]))
 (.cond (.t 67)
 (.seq
 (.seq (.ops [⟨(some 4), (.mov (.c (.bool false))), none⟩])
 (.keep [4]))
 .ret)
 .skip))))
 (.seq (.ops [⟨(some 68), (.bin .add (.t 41) (.c (.int .i64 1))), none⟩,
 ⟨(some 41), (.mov (.t 68)), none⟩])
 (.keep [0, 3, 5, 40, 41]))))))))
 (.seq
 (.seq (.ops [⟨(some 70), (.mov (.t 0)), none⟩,
 ⟨(some 71), (.mov (.t 5)), none⟩,
 ⟨(some 72), (.call n_impl_certOf [(.t 70), (.t 71)]), none⟩,
 ⟨(some 69), (.mov (.t 72)), none⟩,
 ⟨(some 73), (.ext 0 (.t 69)), none⟩,
 ⟨(some 74), (.ext 1 (.t 69)), none⟩,
 ⟨(some 8), (.mov (.t 73)), none⟩,
 ⟨(some 9), (.mov (.t 74)), none⟩])
 (.keep [0, 3, 5, 8, 9]))
 (.seq
 (.seq (.ops [⟨(some 76), (.mov (.t 8)), none⟩,
 ⟨(some 77), (.call n_impl_ReadCert [(.t 76)]), none⟩,
 ⟨(some 75), (.mov (.t 77)), none⟩,
 ⟨(some 78), (.ext 0 (.t 75)), none⟩,
 ⟨(some 79), (.ext 1 (.t 75)), none⟩,
 ⟨(some 10), (.newL [(.int .i64 0), (.slice none 0 0), (.slice none 0 0), (.slice none 0 0), (.slice none 0 0)]), none⟩,
 ⟨none, (.stB 5 10 (.t 78)), none⟩,
 ⟨(some 11), (.mov (.t 79)), none⟩])
 (.keep [0, 3, 5, 8, 9, 10, 11]))
 (.seq
 (.seq (.ops [⟨(some 80), (.mov (.t 8)), none⟩,
 ⟨(some 81), (.call n_impl_CertParts [(.t 80)]), none⟩,
 ⟨(some 12), (.mov (.t 81)), none⟩])
 (.keep [0, 3, 5, 9, 10, 11, 12]))
 (.seq
 (.seq
 (.seq (.ops [⟨(some 82), (.mov (.t 11)), none⟩,
 ⟨(some 83), (.un .not (.t 82)), none⟩,
 ⟨(some 84), (.mov (.t 83)), none⟩,
 ⟨(some 85), (.faB 0 10), (some (84, false))⟩,
 ⟨(some 86), (.faE 0 10 85), (some (84, false))⟩,
 ⟨(some 87), (.ldE 1 false 10 86), (some (84, false))⟩,
 ⟨(some 88), (.faB 1 3), (some (84, false))⟩,
 ⟨(some 89), (.ldE 1 false 3 88), (some (84, false))⟩,
 ⟨(some 90), (.lnS (.t 89)), (some (84, false))⟩,
 ⟨(some 91), (.bin .neq (.t 87) (.t 90)), (some (84, false))⟩,
 ⟨(some 92), (.pick (.t 84) (.c (.bool true)) (.t 91)), none⟩,
 ⟨(some 93), (.mov (.t 92)), none⟩,
 ⟨(some 94), (.mov (.t 12)), (some (93, false))⟩,
 ⟨(some 95), (.ln (.t 94)), (some (93, false))⟩,
 ⟨(some 96), (.mov (.t 9)), (some (93, false))⟩,
 ⟨(some 97), (.bin .neq (.t 95) (.t 96)), (some (93, false))⟩,
 ⟨(some 98), (.pick (.t 93) (.c (.bool true)) (.t 97)), none⟩])
 (.keep [0, 5, 12, 98]))
 (.cond (.t 98)
 (.seq
 (.seq (.ops [⟨(some 4), (.mov (.c (.bool false))), none⟩])
 (.keep [4]))
 .ret)
 .skip))
 (.seq
 (.seq
 (.seq (.ops [⟨(some 99), (.mov (.t 12)), none⟩,
 ⟨(some 100), (.ln (.t 99)), none⟩,
 ⟨(some 101), (.mov (.c (.int .i64 0))), none⟩])
 (.keep [0, 5, 99, 100, 101]))
 (.block 2
 (.loop
 (.seq
 (.seq (.ops [⟨(some 102), (.bin .lss (.t 101) (.t 100)), none⟩])
 (.keep [0, 5, 99, 100, 101, 102]))
 (.seq
 (.cond (.t 102)
 .skip
 (.exit 2))
 (.seq
 (.block 3
 (.seq
 (.seq (.ops [⟨(some 103), (.mov (.t 101)), none⟩,
 ⟨(some 104), (.ia 1 (.t 99) (.t 101)), none⟩,
 ⟨(some 105), (.ld 1 false (.t 104)), none⟩,
 ⟨(some 13), (.mov (.t 103)), none⟩,
 ⟨(some 14), (.mov (.t 105)), none⟩])
 (.keep [0, 5, 13, 14, 99, 100, 101]))
 (.seq
 (.seq (.ops [⟨(some 107), (.mov (.t 0)), none⟩,
 ⟨(some 108), (.mov (.t 5)), none⟩,
 ⟨(some 109), (.call n_impl_two [(.t 108)]), none⟩,
 ⟨(some 110), (.bin .add (.c (.string ⟨⟨[114]⟩⟩)) (.t 109)), none⟩,
 ⟨(some 111), (.mov (.t 13)), none⟩,
 ⟨(some 112), (.call n_impl_two [(.t 111)]), none⟩,
 ⟨(some 113), (.bin .add (.t 110) (.t 112)), none⟩,
 ⟨(some 114), (.call n_impl_get [(.t 107), (.t 113)]), none⟩,
 ⟨(some 106), (.mov (.t 114)), none⟩,
 ⟨(some 115), (.ext 0 (.t 106)), none⟩,
 ⟨(some 116), (.ext 1 (.t 106)), none⟩,
 ⟨(some 15), (.mov (.t 115)), none⟩,
 ⟨(some 16), (.mov (.t 116)), none⟩])
 (.keep [0, 5, 14, 15, 99, 100, 101]))
 (.seq
 (.seq (.ops [⟨(some 117), (.mov (.t 15)), none⟩,
 ⟨(some 118), (.mov (.t 14)), none⟩,
 ⟨(some 119), (.bin .neq (.t 117) (.t 118)), none⟩])
 (.keep [0, 5, 99, 100, 101, 119]))
 (.cond (.t 119)
 (.seq
 (.seq (.ops [⟨(some 4), (.mov (.c (.bool false))), none⟩])
 (.keep [4]))
 .ret)
 .skip)))))
 (.seq (.ops [⟨(some 120), (.bin .add (.t 101) (.c (.int .i64 1))), none⟩,
 ⟨(some 101), (.mov (.t 120)), none⟩])
 (.keep [0, 5, 99, 100, 101]))))))))
 (.seq
 (.seq (.ops [⟨(some 4), (.mov (.c (.bool true))), none⟩])
 (.keep [4]))
 .ret)))))))))),
 [(.slot 4)]⟩
/-- impl partOk -/
def F_impl_partOk : Fun := ⟨2,
 (.seq
 (.seq (.ops [⟨(some 3), (.boxL 2 (.t 1)), none⟩,
 ⟨(some 4), (.mov (.c (.bool false))), none⟩])
 (.keep [0, 3]))
 (.seq
 (.seq
 (.seq (.ops [⟨(some 11), (.faB 0 3), none⟩,
 ⟨(some 12), (.ldE 1 false 3 11), none⟩,
 ⟨(some 13), (.lnS (.t 12)), none⟩,
 ⟨(some 14), (.bin .neq (.t 13) (.c (.int .i64 5))), none⟩])
 (.keep [0, 3, 14]))
 (.cond (.t 14)
 (.seq
 (.seq (.ops [⟨(some 4), (.mov (.c (.bool false))), none⟩])
 (.keep [4]))
 .ret)
 .skip))
 (.seq
 (.seq (.ops [⟨(some 16), (.faB 0 3), none⟩,
 ⟨(some 17), (.ldE 1 false 3 16), none⟩,
 ⟨(some 18), (.slS (.t 17) (some (.c (.int .i64 1))) (some (.c (.int .i64 3)))), none⟩,
 ⟨(some 19), (.call n_impl_readTwo [(.t 18)]), none⟩,
 ⟨(some 15), (.mov (.t 19)), none⟩,
 ⟨(some 20), (.ext 0 (.t 15)), none⟩,
 ⟨(some 21), (.ext 1 (.t 15)), none⟩,
 ⟨(some 5), (.mov (.t 20)), none⟩,
 ⟨(some 6), (.mov (.t 21)), none⟩])
 (.keep [0, 3, 5, 6]))
 (.seq
 (.seq (.ops [⟨(some 23), (.faB 0 3), none⟩,
 ⟨(some 24), (.ldE 1 false 3 23), none⟩,
 ⟨(some 25), (.slS (.t 24) (some (.c (.int .i64 3))) none), none⟩,
 ⟨(some 26), (.call n_impl_readTwo [(.t 25)]), none⟩,
 ⟨(some 22), (.mov (.t 26)), none⟩,
 ⟨(some 27), (.ext 0 (.t 22)), none⟩,
 ⟨(some 28), (.ext 1 (.t 22)), none⟩,
 ⟨(some 7), (.mov (.t 27)), none⟩,
 ⟨(some 8), (.mov (.t 28)), none⟩])
 (.keep [0, 5, 6, 7, 8]))
 (.seq
 (.seq
 (.seq (.ops [⟨(some 29), (.mov (.t 6)), none⟩,
 ⟨(some 30), (.un .not (.t 29)), none⟩,
 ⟨(some 31), (.mov (.t 30)), none⟩,
 ⟨(some 32), (.mov (.t 8)), (some (31, false))⟩,
 ⟨(some 33), (.un .not (.t 32)), (some (31, false))⟩,
 ⟨(some 34), (.pick (.t 31) (.c (.bool true)) (.t 33)), none⟩,
 ⟨(some 35), (.mov (.t 34)), none⟩,
 ⟨(some 36), (.mov (.t 5)), (some (35, false))⟩,
 ⟨(some 37), (.mov (.t 0)), (some (35, false))⟩,
 ⟨(some 38), (.call n_impl_roundsOf [(.t 37)]), (some (35, false))⟩,
 ⟨(some 39), (.bin .geq (.t 36) (.t 38)), (some (35, false))⟩,
 ⟨(some 40), (.pick (.t 35) (.c (.bool true)) (.t 39)), none⟩])
 (.keep [0, 5, 7, 40]))
 (.cond (.t 40)
 (.seq
 (.seq (.ops [⟨(some 4), (.mov (.c (.bool false))), none⟩])
 (.keep [4]))
 .ret)
 .skip))
 (.seq
 (.seq (.ops [⟨(some 42), (.mov (.t 0)), none⟩,
 ⟨(some 43), (.mov (.t 5)), none⟩,
 ⟨(some 44), (.call n_impl_certOf [(.t 42), (.t 43)]), none⟩,
 ⟨(some 41), (.mov (.t 44)), none⟩,
 ⟨(some 45), (.ext 0 (.t 41)), none⟩,
 ⟨(some 46), (.ext 1 (.t 41)), none⟩,
 ⟨(some 9), (.mov (.t 45)), none⟩,
 ⟨(some 10), (.mov (.t 46)), none⟩])
 (.keep [7, 10]))
 (.seq
 (.seq (.ops [⟨(some 47), (.mov (.t 7)), none⟩,
 ⟨(some 48), (.mov (.t 10)), none⟩,
 ⟨(some 49), (.bin .lss (.t 47) (.t 48)), none⟩,
 ⟨(some 4), (.mov (.t 49)), none⟩])
 (.keep [4]))
 .ret))))))),
 [(.slot 4)]⟩
/-- spec l02Four -/
def F_spec_l02Four : Fun := ⟨1,
 (.seq
 (.seq (.ops [⟨(some 2), (.mov (.c (.string ⟨⟨[]⟩⟩))), none⟩])
 (.keep [0]))
 (.seq
 (.seq (.ops [⟨(some 3), (.mov (.t 0)), none⟩,
 ⟨(some 4), (.bin .shr (.t 3) (.c (.int .u64 24))), none⟩,
 ⟨(some 5), (.conv .u8 (.t 4)), none⟩,
 ⟨(some 6), (.mov (.t 0)), none⟩,
 ⟨(some 7), (.bin .shr (.t 6) (.c (.int .u64 16))), none⟩,
 ⟨(some 8), (.conv .u8 (.t 7)), none⟩,
 ⟨(some 9), (.mov (.t 0)), none⟩,
 ⟨(some 10), (.bin .shr (.t 9) (.c (.int .u64 8))), none⟩,
 ⟨(some 11), (.conv .u8 (.t 10)), none⟩,
 ⟨(some 12), (.mov (.t 0)), none⟩,
 ⟨(some 13), (.conv .u8 (.t 12)), none⟩,
 ⟨(some 14), (.litL 4 1 [(.int .u8 0)] [(0, (.t 5)), (1, (.t 8)), (2, (.t 11)), (3, (.t 13))]), none⟩,
 ⟨(some 15), (.strL 4 14), none⟩,
 ⟨(some 2), (.mov (.t 15)), none⟩])
 (.keep [2]))
 .ret)),
 [(.slot 2)]⟩
/-- spec SumOf -/
def F_spec_SumOf : Fun := ⟨1,
 (.seq
 (.seq (.ops [⟨(some 2), (.mov (.c (.int .u32 0))), none⟩])
 (.keep [0]))
 (.seq
 (.seq (.ops [⟨(some 3), (.mov (.t 0)), none⟩,
 ⟨(some 4), (.call n_spec_SumMore [(.c (.int .u32 4294967295)), (.t 3)]), none⟩,
 ⟨(some 2), (.mov (.t 4)), none⟩])
 (.keep [2]))
 .ret)),
 [(.slot 2)]⟩
/-- impl SumOf -/
def F_impl_SumOf : Fun := ⟨1,
 (.seq
 (.seq (.ops [⟨(some 2), (.mov (.c (.int .u32 0))), none⟩])
 (.keep [0]))
 (.seq
 (.seq (.ops [⟨(some 3), (.mov (.t 0)), none⟩,
 ⟨(some 4), (.call n_impl_SumMore [(.c (.int .u32 4294967295)), (.t 3)]), none⟩,
 ⟨(some 2), (.mov (.t 4)), none⟩])
 (.keep [2]))
 .ret)),
 [(.slot 2)]⟩
/-- impl ReadVar -/
def F_impl_ReadVar : Fun := ⟨2,
 (.seq
 (.seq (.ops [⟨(some 4), (.mov (.c (.int .i64 0))), none⟩,
 ⟨(some 5), (.mov (.c (.int .i64 0))), none⟩,
 ⟨(some 6), (.mov (.c (.bool false))), none⟩])
 (.keep [0, 1]))
 (.seq
 (.seq
 (.seq (.ops [⟨(some 11), (.mov (.t 1)), none⟩,
 ⟨(some 12), (.mov (.t 0)), none⟩,
 ⟨(some 13), (.lnS (.t 12)), none⟩,
 ⟨(some 14), (.call n_impl_in [(.t 11), (.c (.int .i64 0)), (.t 13)]), none⟩,
 ⟨(some 15), (.un .not (.t 14)), none⟩])
 (.keep [0, 1, 15]))
 (.cond (.t 15)
 (.seq
 (.seq (.ops [⟨(some 4), (.mov (.c (.int .i64 0))), none⟩,
 ⟨(some 5), (.mov (.c (.int .i64 0))), none⟩,
 ⟨(some 6), (.mov (.c (.bool false))), none⟩])
 (.keep [4, 5, 6]))
 .ret)
 .skip))
 (.seq
 (.seq (.ops [⟨(some 7), (.mov (.c (.int .i64 0))), none⟩,
 ⟨(some 8), (.mov (.c (.int .i64 1))), none⟩])
 (.keep [0, 1, 7, 8]))
 (.seq
 (.seq
 (.seq (.ops [⟨(some 16), (.mov (.t 1)), none⟩,
 ⟨(some 9), (.mov (.t 16)), none⟩])
 (.keep [0, 1, 7, 8, 9]))
 (.block 0
 (.loop
 (.seq
 (.seq
 (.seq (.ops [⟨(some 17), (.mov (.t 9)), none⟩,
 ⟨(some 18), (.mov (.t 0)), none⟩,
 ⟨(some 19), (.lnS (.t 18)), none⟩,
 ⟨(some 20), (.bin .lss (.t 17) (.t 19)), none⟩,
 ⟨(some 21), (.mov (.t 20)), none⟩,
 ⟨(some 22), (.mov (.t 9)), (some (21, true))⟩,
 ⟨(some 23), (.mov (.t 1)), (some (21, true))⟩,
 ⟨(some 24), (.bin .add (.t 23) (.c (.int .i64 5))), (some (21, true))⟩,
 ⟨(some 25), (.bin .lss (.t 22) (.t 24)), (some (21, true))⟩,
 ⟨(some 26), (.pick (.t 21) (.t 25) (.c (.bool false))), none⟩])
 (.keep [0, 1, 7, 8, 9, 26]))
 (.cond (.t 26)
 .skip
 (.exit 0)))
 (.seq
 (.block 1
 (.seq
 (.seq (.ops [⟨(some 29), (.mov (.t 0)), none⟩,
 ⟨(some 30), (.mov (.t 9)), none⟩,
 ⟨(some 31), (.ix (.t 29) (.t 30)), none⟩,
 ⟨(some 32), (.conv .i64 (.t 31)), none⟩,
 ⟨(some 10), (.mov (.t 32)), none⟩])
 (.keep [0, 1, 7, 8, 9, 10]))
 (.seq
 (.seq (.ops [⟨(some 33), (.mov (.t 7)), none⟩,
 ⟨(some 34), (.mov (.t 10)), none⟩,
 ⟨(some 35), (.bin .rem (.t 34) (.c (.int .i64 128))), none⟩,
 ⟨(some 36), (.mov (.t 8)), none⟩,
 ⟨(some 37), (.bin .mul (.t 35) (.t 36)), none⟩,
 ⟨(some 38), (.bin .add (.t 33) (.t 37)), none⟩,
 ⟨(some 7), (.mov (.t 38)), none⟩])
 (.keep [0, 1, 7, 8, 9, 10]))
 (.seq
 (.seq (.ops [⟨(some 39), (.mov (.t 8)), none⟩,
 ⟨(some 40), (.bin .mul (.t 39) (.c (.int .i64 128))), none⟩,
 ⟨(some 8), (.mov (.t 40)), none⟩])
 (.keep [0, 1, 7, 8, 9, 10]))
 (.seq
 (.seq (.ops [⟨(some 41), (.mov (.t 10)), none⟩,
 ⟨(some 42), (.bin .lss (.t 41) (.c (.int .i64 128))), none⟩])
 (.keep [0, 1, 7, 8, 9, 10, 42]))
 (.cond (.t 42)
 (.seq
 (.seq
 (.seq (.ops [⟨(some 43), (.mov (.t 10)), none⟩,
 ⟨(some 44), (.bin .eql (.t 43) (.c (.int .i64 0))), none⟩,
 ⟨(some 45), (.mov (.t 44)), none⟩,
 ⟨(some 46), (.mov (.t 9)), (some (45, true))⟩,
 ⟨(some 47), (.mov (.t 1)), (some (45, true))⟩,
 ⟨(some 48), (.bin .gtr (.t 46) (.t 47)), (some (45, true))⟩,
 ⟨(some 49), (.pick (.t 45) (.t 48) (.c (.bool false))), none⟩,
 ⟨(some 50), (.mov (.t 49)), none⟩,
 ⟨(some 51), (.mov (.t 7)), (some (50, false))⟩,
 ⟨(some 52), (.bin .gtr (.t 51) (.c (.int .i64 1000000000))), (some (50, false))⟩,
 ⟨(some 53), (.pick (.t 50) (.c (.bool true)) (.t 52)), none⟩])
 (.keep [7, 9, 53]))
 (.cond (.t 53)
 (.exit 0)
 .skip))
 (.seq
 (.seq (.ops [⟨(some 54), (.mov (.t 7)), none⟩,
 ⟨(some 55), (.mov (.t 9)), none⟩,
 ⟨(some 56), (.bin .add (.t 55) (.c (.int .i64 1))), none⟩,
 ⟨(some 4), (.mov (.t 54)), none⟩,
 ⟨(some 5), (.mov (.t 56)), none⟩,
 ⟨(some 6), (.mov (.c (.bool true))), none⟩])
 (.keep [4, 5, 6]))
 .ret))
 .skip))))))
 (.seq (.ops [⟨(some 27), (.mov (.t 9)), none⟩,
 ⟨(some 28), (.bin .add (.t 27) (.c (.int .i64 1))), none⟩,
 ⟨(some 9), (.mov (.t 28)), none⟩])
 (.keep [0, 1, 7, 8, 9])))))))
 (.seq
 (.seq (.ops [⟨(some 4), (.mov (.c (.int .i64 0))), none⟩,
 ⟨(some 5), (.mov (.c (.int .i64 0))), none⟩,
 ⟨(some 6), (.mov (.c (.bool false))), none⟩])
 (.keep [4, 5, 6]))
 .ret))))),
 [(.slot 4), (.slot 5), (.slot 6)]⟩
/-- impl ReadShort -/
def F_impl_ReadShort : Fun := ⟨2,
 (.seq
 (.seq (.ops [⟨(some 4), (.mov (.c (.string ⟨⟨[]⟩⟩))), none⟩,
 ⟨(some 5), (.mov (.c (.int .i64 0))), none⟩,
 ⟨(some 6), (.mov (.c (.bool false))), none⟩])
 (.keep [0, 1]))
 (.seq
 (.seq (.ops [⟨(some 11), (.mov (.t 0)), none⟩,
 ⟨(some 12), (.mov (.t 1)), none⟩,
 ⟨(some 13), (.call n_impl_ReadVar [(.t 11), (.t 12)]), none⟩,
 ⟨(some 10), (.mov (.t 13)), none⟩,
 ⟨(some 14), (.ext 0 (.t 10)), none⟩,
 ⟨(some 15), (.ext 1 (.t 10)), none⟩,
 ⟨(some 16), (.ext 2 (.t 10)), none⟩,
 ⟨(some 7), (.mov (.t 14)), none⟩,
 ⟨(some 8), (.mov (.t 15)), none⟩,
 ⟨(some 9), (.mov (.t 16)), none⟩])
 (.keep [0, 7, 8, 9]))
 (.seq
 (.seq
 (.seq (.ops [⟨(some 17), (.mov (.t 9)), none⟩,
 ⟨(some 18), (.un .not (.t 17)), none⟩,
 ⟨(some 19), (.mov (.t 18)), none⟩,
 ⟨(some 20), (.mov (.t 7)), (some (19, false))⟩,
 ⟨(some 21), (.bin .gtr (.t 20) (.c (.int .i64 8000))), (some (19, false))⟩,
 ⟨(some 22), (.pick (.t 19) (.c (.bool true)) (.t 21)), none⟩,
 ⟨(some 23), (.mov (.t 22)), none⟩,
 ⟨(some 24), (.mov (.t 7)), (some (23, false))⟩,
 ⟨(some 25), (.mov (.t 0)), (some (23, false))⟩,
 ⟨(some 26), (.lnS (.t 25)), (some (23, false))⟩,
 ⟨(some 27), (.mov (.t 8)), (some (23, false))⟩,
 ⟨(some 28), (.bin .sub (.t 26) (.t 27)), (some (23, false))⟩,
 ⟨(some 29), (.bin .gtr (.t 24) (.t 28)), (some (23, false))⟩,
 ⟨(some 30), (.pick (.t 23) (.c (.bool true)) (.t 29)), none⟩])
 (.keep [0, 7, 8, 30]))
 (.cond (.t 30)
 (.seq
 (.seq (.ops [⟨(some 4), (.mov (.c (.string ⟨⟨[]⟩⟩))), none⟩,
 ⟨(some 5), (.mov (.c (.int .i64 0))), none⟩,
 ⟨(some 6), (.mov (.c (.bool false))), none⟩])
 (.keep [4, 5, 6]))
 .ret)
 .skip))
 (.seq
 (.seq (.ops [⟨(some 31), (.mov (.t 0)), none⟩,
 ⟨(some 32), (.mov (.t 8)), none⟩,
 ⟨(some 33), (.mov (.t 8)), none⟩,
 ⟨(some 34), (.mov (.t 7)), none⟩,
 ⟨(some 35), (.bin .add (.t 33) (.t 34)), none⟩,
 ⟨(some 36), (.slS (.t 31) (some (.t 32)) (some (.t 35))), none⟩,
 ⟨(some 37), (.mov (.t 8)), none⟩,
 ⟨(some 38), (.mov (.t 7)), none⟩,
 ⟨(some 39), (.bin .add (.t 37) (.t 38)), none⟩,
 ⟨(some 4), (.mov (.t 36)), none⟩,
 ⟨(some 5), (.mov (.t 39)), none⟩,
 ⟨(some 6), (.mov (.c (.bool true))), none⟩])
 (.keep [4, 5, 6]))
 .ret)))),
 [(.slot 4), (.slot 5), (.slot 6)]⟩
/-- spec ReadCert -/
def F_spec_ReadCert : Fun := ⟨1,
 (.seq
 (.seq (.ops [⟨(some 2), (.newL [(.int .i64 0), (.slice none 0 0), (.slice none 0 0), (.slice none 0 0), (.slice none 0 0)]), none⟩,
 ⟨(some 3), (.mov (.c (.bool false))), none⟩])
 (.keep [0, 2]))
 (.seq
 (.seq (.ops [⟨(some 18), (.mov (.t 0)), none⟩,
 ⟨(some 19), (.bld [(.string ⟨⟨[]⟩⟩), (.int .i64 0), (.bool false)] [(0, (1, (.t 18)))]), none⟩,
 ⟨(some 20), (.bx y_l12Cur 3 (.t 19)), none⟩,
 ⟨(some 4), (.mov (.t 20)), none⟩])
 (.keep [0, 2, 4]))
 (.seq
 (.seq (.ops [⟨(some 21), (.bld [(.int .i64 0), (.slice none 0 0), (.slice none 0 0), (.slice none 0 0), (.slice none 0 0)] []), none⟩,
 ⟨(some 5), (.newL [(.int .i64 0), (.slice none 0 0), (.slice none 0 0), (.slice none 0 0), (.slice none 0 0)]), none⟩,
 ⟨none, (.stB 5 5 (.t 21)), none⟩])
 (.keep [0, 2, 4, 5]))
 (.seq
 (.seq (.ops [⟨(some 22), (.mov (.t 4)), none⟩,
 ⟨(some 23), (.call n_spec_l12Var [(.t 22)]), none⟩,
 ⟨(some 24), (.faB 0 5), none⟩,
 ⟨(some 25), (.faE 0 5 24), none⟩,
 ⟨none, (.stE 1 5 25 (.t 23)), none⟩])
 (.keep [0, 2, 4, 5]))
 (.seq
 (.seq (.ops [⟨(some 26), (.mov (.t 4)), none⟩,
 ⟨(some 27), (.call n_spec_l12Var [(.t 26)]), none⟩,
 ⟨(some 6), (.mov (.t 27)), none⟩])
 (.keep [0, 2, 4, 5, 6]))
 (.seq
 (.seq
 (.seq (.ops [⟨(some 7), (.mov (.c (.int .i64 0))), none⟩])
 (.keep [0, 2, 4, 5, 6, 7]))
 (.block 0
 (.loop
 (.seq
 (.seq
 (.seq (.ops [⟨(some 28), (.mov (.t 7)), none⟩,
 ⟨(some 29), (.mov (.t 6)), none⟩,
 ⟨(some 30), (.bin .lss (.t 28) (.t 29)), none⟩,
 ⟨(some 31), (.mov (.t 30)), none⟩,
 ⟨(some 32), (.mov (.t 4)), (some (31, true))⟩,
 ⟨(some 33), (.chk (.t 32)), (some (31, true))⟩,
 ⟨(some 34), (.fa 2 (.t 33)), (some (31, true))⟩,
 ⟨(some 35), (.ld 1 false (.t 34)), (some (31, true))⟩,
 ⟨(some 36), (.un .not (.t 35)), (some (31, true))⟩,
 ⟨(some 37), (.pick (.t 31) (.t 36) (.c (.bool false))), none⟩,
 ⟨(some 38), (.mov (.t 37)), none⟩,
 ⟨(some 39), (.mov (.t 7)), (some (38, true))⟩,
 ⟨(some 40), (.bin .lss (.t 39) (.c (.int .i64 100))), (some (38, true))⟩,
 ⟨(some 41), (.pick (.t 38) (.t 40) (.c (.bool false))), none⟩])
 (.keep [0, 2, 4, 5, 6, 7, 41]))
 (.cond (.t 41)
 .skip
 (.exit 0)))
 (.seq
 (.block 1
 (.seq
 (.seq (.ops [⟨(some 44), (.bld [(.int .i64 0), (.int .i64 0), (.int .i64 0), (.int .i64 0), (.int .i64 0)] []), none⟩,
 ⟨(some 8), (.newL [(.int .i64 0), (.int .i64 0), (.int .i64 0), (.int .i64 0), (.int .i64 0)]), none⟩,
 ⟨none, (.stB 5 8 (.t 44)), none⟩])
 (.keep [0, 2, 4, 5, 6, 7, 8]))
 (.seq
 (.seq (.ops [⟨(some 45), (.mov (.t 4)), none⟩,
 ⟨(some 46), (.call n_spec_l12Var [(.t 45)]), none⟩,
 ⟨(some 47), (.faB 0 8), none⟩,
 ⟨none, (.stE 1 8 47 (.t 46)), none⟩])
 (.keep [0, 2, 4, 5, 6, 7, 8]))
 (.seq
 (.seq (.ops [⟨(some 48), (.mov (.t 4)), none⟩,
 ⟨(some 49), (.call n_spec_l12Var [(.t 48)]), none⟩,
 ⟨(some 50), (.faB 1 8), none⟩,
 ⟨none, (.stE 1 8 50 (.t 49)), none⟩])
 (.keep [0, 2, 4, 5, 6, 7, 8]))
 (.seq
 (.seq (.ops [⟨(some 51), (.mov (.t 4)), none⟩,
 ⟨(some 52), (.call n_spec_l12Var [(.t 51)]), none⟩,
 ⟨(some 53), (.faB 2 8), none⟩,
 ⟨none, (.stE 1 8 53 (.t 52)), none⟩])
 (.keep [0, 2, 4, 5, 6, 7, 8]))
 (.seq
 (.seq (.ops [⟨(some 54), (.mov (.t 4)), none⟩,
 ⟨(some 55), (.call n_spec_l12Var [(.t 54)]), none⟩,
 ⟨(some 56), (.faB 3 8), none⟩,
 ⟨none, (.stE 1 8 56 (.t 55)), none⟩])
 (.keep [0, 2, 4, 5, 6, 7, 8]))
 (.seq
 (.seq (.ops [⟨(some 57), (.mov (.t 4)), none⟩,
 ⟨(some 58), (.call n_spec_l12Var [(.t 57)]), none⟩,
 ⟨(some 59), (.faB 4 8), none⟩,
 ⟨none, (.stE 1 8 59 (.t 58)), none⟩])
 (.keep [0, 2, 4, 5, 6, 7, 8]))
 (.seq (.ops [⟨(some 60), (.faB 0 5), none⟩,
 ⟨(some 61), (.faE 1 5 60), none⟩,
 ⟨(some 62), (.ldE 1 false 5 61), none⟩,
 ⟨(some 63), (.ldB 5 true 8), none⟩,
 ⟨(some 64), (.litL 1 5 [(.int .i64 0), (.int .i64 0), (.int .i64 0), (.int .i64 0), (.int .i64 0)] [(0, (.t 63))]), none⟩,
 ⟨(some 65), (.appL 5 y_Edge 40 1 (.t 62) 64), none⟩,
 ⟨(some 66), (.faB 0 5), none⟩,
 ⟨(some 67), (.faE 1 5 66), none⟩,
 ⟨none, (.stE 1 5 67 (.t 65)), none⟩])
 (.keep [0, 2, 4, 5, 6, 7])))))))))
 (.seq (.ops [⟨(some 42), (.mov (.t 7)), none⟩,
 ⟨(some 43), (.bin .add (.t 42) (.c (.int .i64 1))), none⟩,
 ⟨(some 7), (.mov (.t 43)), none⟩])
 (.keep [0, 2, 4, 5, 6, 7])))))))
 (.seq
 (.seq (.ops [⟨(some 68), (.mov (.t 4)), none⟩,
 ⟨(some 69), (.call n_spec_l12Var [(.t 68)]), none⟩,
 ⟨(some 6), (.mov (.t 69)), none⟩])
 (.keep [0, 2, 4, 5, 6]))
 (.seq
 (.seq
 (.seq (.ops [⟨(some 9), (.mov (.c (.int .i64 0))), none⟩])
 (.keep [0, 2, 4, 5, 6, 9]))
 (.block 2
 (.loop
 (.seq
 (.seq
 (.seq (.ops [⟨(some 70), (.mov (.t 9)), none⟩,
 ⟨(some 71), (.mov (.t 6)), none⟩,
 ⟨(some 72), (.bin .lss (.t 70) (.t 71)), none⟩,
 ⟨(some 73), (.mov (.t 72)), none⟩,
 ⟨(some 74), (.mov (.t 4)), (some (73, true))⟩,
 ⟨(some 75), (.chk (.t 74)), (some (73, true))⟩,
 ⟨(some 76), (.fa 2 (.t 75)), (some (73, true))⟩,
 ⟨(some 77), (.ld 1 false (.t 76)), (some (73, true))⟩,
 ⟨(some 78), (.un .not (.t 77)), (some (73, true))⟩,
 ⟨(some 79), (.pick (.t 73) (.t 78) (.c (.bool false))), none⟩,
 ⟨(some 80), (.mov (.t 79)), none⟩,
 ⟨(some 81), (.mov (.t 9)), (some (80, true))⟩,
 ⟨(some 82), (.bin .lss (.t 81) (.c (.int .i64 100))), (some (80, true))⟩,
 ⟨(some 83), (.pick (.t 80) (.t 82) (.c (.bool false))), none⟩])
 (.keep [0, 2, 4, 5, 6, 9, 83]))
 (.cond (.t 83)
 .skip
 (.exit 2)))
 (.seq
 (.block 3
 (.seq
 (.seq (.ops [⟨(some 86), (.bld [(.int .i64 0), (.int .i64 0)] []), none⟩,
 ⟨(some 10), (.newL [(.int .i64 0), (.int .i64 0)]), none⟩,
 ⟨none, (.stB 2 10 (.t 86)), none⟩])
 (.keep [0, 2, 4, 5, 6, 9, 10]))
 (.seq
 (.seq (.ops [⟨(some 87), (.mov (.t 4)), none⟩,
 ⟨(some 88), (.call n_spec_l12Var [(.t 87)]), none⟩,
 ⟨(some 89), (.faB 0 10), none⟩,
 ⟨none, (.stE 1 10 89 (.t 88)), none⟩])
 (.keep [0, 2, 4, 5, 6, 9, 10]))
 (.seq
 (.seq (.ops [⟨(some 90), (.mov (.t 4)), none⟩,
 ⟨(some 91), (.call n_spec_l12Var [(.t 90)]), none⟩,
 ⟨(some 92), (.faB 1 10), none⟩,
 ⟨none, (.stE 1 10 92 (.t 91)), none⟩])
 (.keep [0, 2, 4, 5, 6, 9, 10]))
 (.seq (.ops [⟨(some 93), (.faB 2 5), none⟩,
 ⟨(some 94), (.ldE 1 false 5 93), none⟩,
 ⟨(some 95), (.ldB 2 true 10), none⟩,
 ⟨(some 96), (.litL 1 2 [(.int .i64 0), (.int .i64 0)] [(0, (.t 95))]), none⟩,
 ⟨(some 97), (.appL 2 y_Couple 16 1 (.t 94) 96), none⟩,
 ⟨(some 98), (.faB 2 5), none⟩,
 ⟨none, (.stE 1 5 98 (.t 97)), none⟩])
 (.keep [0, 2, 4, 5, 6, 9]))))))
 (.seq (.ops [⟨(some 84), (.mov (.t 9)), none⟩,
 ⟨(some 85), (.bin .add (.t 84) (.c (.int .i64 1))), none⟩,
 ⟨(some 9), (.mov (.t 85)), none⟩])
 (.keep [0, 2, 4, 5, 6, 9])))))))
 (.seq
 (.seq
 (.seq (.ops [⟨(some 11), (.mov (.c (.int .i64 0))), none⟩])
 (.keep [0, 2, 4, 5, 11]))
 (.block 4
 (.loop
 (.seq
 (.seq
 (.seq (.ops [⟨(some 99), (.mov (.t 11)), none⟩,
 ⟨(some 100), (.faB 0 5), none⟩,
 ⟨(some 101), (.faE 0 5 100), none⟩,
 ⟨(some 102), (.ldE 1 false 5 101), none⟩,
 ⟨(some 103), (.bin .lss (.t 99) (.t 102)), none⟩,
 ⟨(some 104), (.mov (.t 103)), none⟩,
 ⟨(some 105), (.mov (.t 4)), (some (104, true))⟩,
 ⟨(some 106), (.chk (.t 105)), (some (104, true))⟩,
 ⟨(some 107), (.fa 2 (.t 106)), (some (104, true))⟩,
 ⟨(some 108), (.ld 1 false (.t 107)), (some (104, true))⟩,
 ⟨(some 109), (.un .not (.t 108)), (some (104, true))⟩,
 ⟨(some 110), (.pick (.t 104) (.t 109) (.c (.bool false))), none⟩,
 ⟨(some 111), (.mov (.t 110)), none⟩,
 ⟨(some 112), (.mov (.t 11)), (some (111, true))⟩,
 ⟨(some 113), (.bin .lss (.t 112) (.c (.int .i64 100))), (some (111, true))⟩,
 ⟨(some 114), (.pick (.t 111) (.t 113) (.c (.bool false))), none⟩])
 (.keep [0, 2, 4, 5, 11, 114]))
 (.cond (.t 114)
 .skip
 (.exit 4)))
 (.seq
 (.block 5
 (.seq (.free true [⟨(some 117), (.faB 3 5), none⟩,
 ⟨(some 118), (.faE 0 5 117), none⟩,
 ⟨(some 119), (.ldE 1 false 5 118), none⟩,
 ⟨(some 120), (.mov (.t 4)), none⟩,
 ⟨(some 121), (.call n_spec_l12Var [(.t 120)]), none⟩,
 ⟨(some 122), (.litL 1 1 [(.int .i64 0)] [(0, (.t 121))]), none⟩,
 ⟨(some 123), (.appL 1 y_int 8 1 (.t 119) 122), none⟩,
 ⟨(some 124), (.faB 3 5), none⟩,
 ⟨(some 125), (.faE 0 5 124), none⟩,
 ⟨none, (.stE 1 5 125 (.t 123)), none⟩])
 (.keep [0, 2, 4, 5, 11])))
 (.seq (.ops [⟨(some 115), (.mov (.t 11)), none⟩,
 ⟨(some 116), (.bin .add (.t 115) (.c (.int .i64 1))), none⟩,
 ⟨(some 11), (.mov (.t 116)), none⟩])
 (.keep [0, 2, 4, 5, 11])))))))
 (.seq
 (.seq (.ops [⟨(some 126), (.mov (.t 4)), none⟩,
 ⟨(some 127), (.call n_spec_l12Var [(.t 126)]), none⟩,
 ⟨(some 6), (.mov (.t 127)), none⟩])
 (.keep [0, 2, 4, 5, 6]))
 (.seq
 (.seq
 (.seq (.ops [⟨(some 12), (.mov (.c (.int .i64 0))), none⟩])
 (.keep [0, 2, 4, 5, 6, 12]))
 (.block 6
 (.loop
 (.seq
 (.seq
 (.seq (.ops [⟨(some 128), (.mov (.t 12)), none⟩,
 ⟨(some 129), (.mov (.t 6)), none⟩,
 ⟨(some 130), (.bin .lss (.t 128) (.t 129)), none⟩,
 ⟨(some 131), (.mov (.t 130)), none⟩,
 ⟨(some 132), (.mov (.t 4)), (some (131, true))⟩,
 ⟨(some 133), (.chk (.t 132)), (some (131, true))⟩,
 ⟨(some 134), (.fa 2 (.t 133)), (some (131, true))⟩,
 ⟨(some 135), (.ld 1 false (.t 134)), (some (131, true))⟩,
 ⟨(some 136), (.un .not (.t 135)), (some (131, true))⟩,
 ⟨(some 137), (.pick (.t 131) (.t 136) (.c (.bool false))), none⟩,
 ⟨(some 138), (.mov (.t 137)), none⟩,
 ⟨(some 139), (.mov (.t 12)), (some (138, true))⟩,
 ⟨(some 140), (.bin .lss (.t 139) (.c (.int .i64 100))), (some (138, true))⟩,
 ⟨(some 141), (.pick (.t 138) (.t 140) (.c (.bool false))), none⟩])
 (.keep [0, 2, 4, 5, 6, 12, 141]))
 (.cond (.t 141)
 .skip
 (.exit 6)))
 (.seq
 (.block 7
 (.seq
 (.seq (.ops [⟨(some 144), (.bld [(.slice none 0 0), (.int .i64 0)] []), none⟩,
 ⟨(some 13), (.newL [(.slice none 0 0), (.int .i64 0)]), none⟩,
 ⟨none, (.stB 2 13 (.t 144)), none⟩])
 (.keep [0, 2, 4, 5, 6, 12, 13]))
 (.seq
 (.seq (.ops [⟨(some 145), (.mov (.t 4)), none⟩,
 ⟨(some 146), (.call n_spec_l12Var [(.t 145)]), none⟩,
 ⟨(some 14), (.mov (.t 146)), none⟩])
 (.keep [0, 2, 4, 5, 6, 12, 13, 14]))
 (.seq
 (.seq
 (.seq (.ops [⟨(some 15), (.mov (.c (.int .i64 0))), none⟩])
 (.keep [0, 2, 4, 5, 6, 12, 13, 14, 15]))
 (.block 8
 (.loop
 (.seq
 (.seq
 (.seq (.ops [⟨(some 147), (.mov (.t 15)), none⟩,
 ⟨(some 148), (.mov (.t 14)), none⟩,
 ⟨(some 149), (.bin .lss (.t 147) (.t 148)), none⟩,
 ⟨(some 150), (.mov (.t 149)), none⟩,
 ⟨(some 151), (.mov (.t 4)), (some (150, true))⟩,
 ⟨(some 152), (.chk (.t 151)), (some (150, true))⟩,
 ⟨(some 153), (.fa 2 (.t 152)), (some (150, true))⟩,
 ⟨(some 154), (.ld 1 false (.t 153)), (some (150, true))⟩,
 ⟨(some 155), (.un .not (.t 154)), (some (150, true))⟩,
 ⟨(some 156), (.pick (.t 150) (.t 155) (.c (.bool false))), none⟩,
 ⟨(some 157), (.mov (.t 156)), none⟩,
 ⟨(some 158), (.mov (.t 15)), (some (157, true))⟩,
 ⟨(some 159), (.bin .lss (.t 158) (.c (.int .i64 100))), (some (157, true))⟩,
 ⟨(some 160), (.pick (.t 157) (.t 159) (.c (.bool false))), none⟩])
 (.keep [0, 2, 4, 5, 6, 12, 13, 14, 15, 160]))
 (.cond (.t 160)
 .skip
 (.exit 8)))
 (.seq
 (.block 9
 (.seq (.free true [⟨(some 163), (.faB 0 13), none⟩,
 ⟨(some 164), (.ldE 1 false 13 163), none⟩,
 ⟨(some 165), (.mov (.t 4)), none⟩,
 ⟨(some 166), (.call n_spec_l12Var [(.t 165)]), none⟩,
 ⟨(some 167), (.litL 1 1 [(.int .i64 0)] [(0, (.t 166))]), none⟩,
 ⟨(some 168), (.appL 1 y_int 8 1 (.t 164) 167), none⟩,
 ⟨(some 169), (.faB 0 13), none⟩,
 ⟨none, (.stE 1 13 169 (.t 168)), none⟩])
 (.keep [0, 2, 4, 5, 6, 12, 13, 14, 15])))
 (.seq (.ops [⟨(some 161), (.mov (.t 15)), none⟩,
 ⟨(some 162), (.bin .add (.t 161) (.c (.int .i64 1))), none⟩,
 ⟨(some 15), (.mov (.t 162)), none⟩])
 (.keep [0, 2, 4, 5, 6, 12, 13, 14, 15])))))))
 (.seq
 (.seq (.ops [⟨(some 170), (.mov (.t 4)), none⟩,
 ⟨(some 171), (.call n_spec_l12Var [(.t 170)]), none⟩,
 ⟨(some 172), (.faB 1 13), none⟩,
 ⟨none, (.stE 1 13 172 (.t 171)), none⟩])
 (.keep [0, 2, 4, 5, 6, 12, 13]))
 (.seq (.ops [⟨(some 173), (.faB 3 5), none⟩,
 ⟨(some 174), (.faE 1 5 173), none⟩,
 ⟨(some 175), (.ldE 1 false 5 174), none⟩,
 ⟨(some 176), (.ldB 2 true 13), none⟩,
 ⟨(some 177), (.litL 1 2 [(.slice none 0 0), (.int .i64 0)] [(0, (.t 176))]), none⟩,
 ⟨(some 178), (.appL 2 y_Group 32 1 (.t 175) 177), none⟩,
 ⟨(some 179), (.faB 3 5), none⟩,
 ⟨(some 180), (.faE 1 5 179), none⟩,
 ⟨none, (.stE 1 5 180 (.t 178)), none⟩])
 (.keep [0, 2, 4, 5, 6, 12])))))))
 (.seq (.ops [⟨(some 142), (.mov (.t 12)), none⟩,
 ⟨(some 143), (.bin .add (.t 142) (.c (.int .i64 1))), none⟩,
 ⟨(some 12), (.mov (.t 143)), none⟩])
 (.keep [0, 2, 4, 5, 6, 12])))))))
 (.seq
 (.seq (.ops [⟨(some 182), (.ldB 5 true 5), none⟩,
 ⟨(some 183), (.call n_spec_CertText [(.t 182)]), none⟩,
 ⟨(some 181), (.mov (.t 183)), none⟩,
 ⟨(some 184), (.ext 0 (.t 181)), none⟩,
 ⟨(some 185), (.ext 1 (.t 181)), none⟩,
 ⟨(some 16), (.mov (.t 184)), none⟩,
 ⟨(some 17), (.mov (.t 185)), none⟩])
 (.keep [0, 2, 4, 5, 16, 17]))
 (.seq
 (.seq
 (.seq (.ops [⟨(some 186), (.mov (.t 4)), none⟩,
 ⟨(some 187), (.chk (.t 186)), none⟩,
 ⟨(some 188), (.fa 2 (.t 187)), none⟩,
 ⟨(some 189), (.ld 1 false (.t 188)), none⟩,
 ⟨(some 190), (.mov (.t 189)), none⟩,
 ⟨(some 191), (.mov (.t 17)), (some (190, false))⟩,
 ⟨(some 192), (.un .not (.t 191)), (some (190, false))⟩,
 ⟨(some 193), (.pick (.t 190) (.c (.bool true)) (.t 192)), none⟩,
 ⟨(some 194), (.mov (.t 193)), none⟩,
 ⟨(some 195), (.mov (.t 16)), (some (194, false))⟩,
 ⟨(some 196), (.mov (.t 0)), (some (194, false))⟩,
 ⟨(some 197), (.bin .neq (.t 195) (.t 196)), (some (194, false))⟩,
 ⟨(some 198), (.pick (.t 194) (.c (.bool true)) (.t 197)), none⟩])
 (.keep [2, 5, 198]))
 (.cond (.t 198)
 (.seq
 (.seq (.ops [⟨(some 199), (.bld [(.int .i64 0), (.slice none 0 0), (.slice none 0 0), (.slice none 0 0), (.slice none 0 0)] []), none⟩,
 ⟨none, (.stB 5 2 (.t 199)), none⟩,
 ⟨(some 3), (.mov (.c (.bool false))), none⟩])
 (.keep [2, 3]))
 .ret)
 .skip))
 (.seq
 (.seq (.ops [⟨(some 200), (.ldB 5 true 5), none⟩,
 ⟨none, (.stB 5 2 (.t 200)), none⟩,
 ⟨(some 3), (.mov (.c (.bool true))), none⟩])
 (.keep [2, 3]))
 .ret)))))))))))))),
 [(.box 2 5 true), (.slot 3)]⟩
/-- spec GraphOk -/
def F_spec_GraphOk : Fun := ⟨1,
 (.seq
 (.seq (.ops [⟨(some 1), (.boxL 2 (.t 0)), none⟩,
 ⟨(some 2), (.mov (.c (.bool false))), none⟩])
 (.keep [1]))
 (.seq
 (.seq
 (.seq (.ops [⟨(some 5), (.faB 0 1), none⟩,
 ⟨(some 6), (.ldE 1 false 1 5), none⟩,
 ⟨(some 7), (.call n_spec_l01In [(.t 6), (.c (.int .i64 0)), (.c (.int .i64 9))]), none⟩,
 ⟨(some 8), (.un .not (.t 7)), none⟩])
 (.keep [1, 8]))
 (.cond (.t 8)
 (.seq
 (.seq (.ops [⟨(some 2), (.mov (.c (.bool false))), none⟩])
 (.keep [2]))
 .ret)
 .skip))
 (.seq
 (.seq
 (.seq (.ops [⟨(some 3), (.mov (.c (.int .i64 0))), none⟩])
 (.keep [1, 3]))
 (.block 0
 (.loop
 (.seq
 (.seq
 (.seq (.ops [⟨(some 9), (.mov (.t 3)), none⟩,
 ⟨(some 10), (.faB 1 1), none⟩,
 ⟨(some 11), (.ldE 1 false 1 10), none⟩,
 ⟨(some 12), (.ln (.t 11)), none⟩,
 ⟨(some 13), (.bin .lss (.t 9) (.t 12)), none⟩])
 (.keep [1, 3, 13]))
 (.cond (.t 13)
 .skip
 (.exit 0)))
 (.seq
 (.block 1
 (.seq
 (.seq (.ops [⟨(some 16), (.faB 1 1), none⟩,
 ⟨(some 17), (.ldE 1 false 1 16), none⟩,
 ⟨(some 18), (.mov (.t 3)), none⟩,
 ⟨(some 19), (.ia 5 (.t 17) (.t 18)), none⟩,
 ⟨(some 20), (.ld 5 true (.t 19)), none⟩,
 ⟨(some 4), (.newL [(.int .i64 0), (.int .i64 0), (.int .i64 0), (.int .i64 0), (.int .i64 0)]), none⟩,
 ⟨none, (.stB 5 4 (.t 20)), none⟩])
 (.keep [1, 3, 4]))
 (.seq
 (.seq
 (.seq (.ops [⟨(some 21), (.faB 0 4), none⟩,
 ⟨(some 22), (.ldE 1 false 4 21), none⟩,
 ⟨(some 23), (.bin .lss (.t 22) (.c (.int .i64 0))), none⟩,
 ⟨(some 24), (.mov (.t 23)), none⟩,
 ⟨(some 25), (.faB 0 4), (some (24, false))⟩,
 ⟨(some 26), (.ldE 1 false 4 25), (some (24, false))⟩,
 ⟨(some 27), (.faB 1 4), (some (24, false))⟩,
 ⟨(some 28), (.ldE 1 false 4 27), (some (24, false))⟩,
 ⟨(some 29), (.bin .geq (.t 26) (.t 28)), (some (24, false))⟩,
 ⟨(some 30), (.pick (.t 24) (.c (.bool true)) (.t 29)), none⟩,
 ⟨(some 31), (.mov (.t 30)), none⟩,
 ⟨(some 32), (.faB 1 4), (some (31, false))⟩,
 ⟨(some 33), (.ldE 1 false 4 32), (some (31, false))⟩,
 ⟨(some 34), (.faB 0 1), (some (31, false))⟩,
 ⟨(some 35), (.ldE 1 false 1 34), (some (31, false))⟩,
 ⟨(some 36), (.bin .geq (.t 33) (.t 35)), (some (31, false))⟩,
 ⟨(some 37), (.pick (.t 31) (.c (.bool true)) (.t 36)), none⟩,
 ⟨(some 38), (.mov (.t 37)), none⟩,
 ⟨(some 39), (.faB 2 4), (some (38, false))⟩,
 ⟨(some 40), (.ldE 1 false 4 39), (some (38, false))⟩,
 ⟨(some 41), (.call n_spec_l08Worth [(.t 40)]), (some (38, false))⟩,
 ⟨(some 42), (.un .not (.t 41)), (some (38, false))⟩,
 ⟨(some 43), (.pick (.t 38) (.c (.bool true)) (.t 42)), none⟩,
 ⟨(some 44), (.mov (.t 43)), none⟩,
 ⟨(some 45), (.faB 3 4), (some (44, false))⟩,
 ⟨(some 46), (.ldE 1 false 4 45), (some (44, false))⟩,
 ⟨(some 47), (.call n_spec_l08Worth [(.t 46)]), (some (44, false))⟩,
 ⟨(some 48), (.un .not (.t 47)), (some (44, false))⟩,
 ⟨(some 49), (.pick (.t 44) (.c (.bool true)) (.t 48)), none⟩,
 ⟨(some 50), (.mov (.t 49)), none⟩,
 ⟨(some 51), (.faB 4 4), (some (50, false))⟩,
 ⟨(some 52), (.ldE 1 false 4 51), (some (50, false))⟩,
 ⟨(some 53), (.call n_spec_l08Worth [(.t 52)]), (some (50, false))⟩,
 ⟨(some 54), (.un .not (.t 53)), (some (50, false))⟩,
 ⟨(some 55), (.pick (.t 50) (.c (.bool true)) (.t 54)), none⟩])
 (.keep [1, 3, 4, 55]))
 (.cond (.t 55)
 (.seq
 (.seq (.ops [⟨(some 2), (.mov (.c (.bool false))), none⟩])
 (.keep [2]))
 .ret)
 .skip))
 (.seq
 (.seq (.free true [⟨(some 56), (.mov (.t 3)), none⟩,
 ⟨(some 57), (.bin .gtr (.t 56) (.c (.int .i64 0))), none⟩,
 ⟨(some 58), (.mov (.t 57)), none⟩,
 ⟨(some 59), (.faB 1 1), (some (58, true))⟩,
 ⟨(some 60), (.ldE 1 false 1 59), (some (58, true))⟩,
 ⟨(some 61), (.mov (.t 3)), (some (58, true))⟩,
 ⟨(some 62), (.bin .sub (.t 61) (.c (.int .i64 1))), (some (58, true))⟩,
 ⟨(some 63), (.ia 5 (.t 60) (.t 62)), (some (58, true))⟩,
 ⟨(some 64), (.fa 0 (.t 63)), (some (58, true))⟩,
 ⟨(some 65), (.ld 1 false (.t 64)), (some (58, true))⟩,
 ⟨(some 66), (.faB 0 4), (some (58, true))⟩,
 ⟨(some 67), (.ldE 1 false 4 66), (some (58, true))⟩,
 ⟨(some 68), (.bin .gtr (.t 65) (.t 67)), (some (58, true))⟩,
 ⟨(some 69), (.mov (.t 68)), (some (58, true))⟩,
 ⟨(some 70), (.faB 1 1), (some (69, false))⟩,
 ⟨(some 71), (.ldE 1 false 1 70), (some (69, false))⟩,
 ⟨(some 72), (.mov (.t 3)), (some (69, false))⟩,
 ⟨(some 73), (.bin .sub (.t 72) (.c (.int .i64 1))), (some (69, false))⟩,
 ⟨(some 74), (.ia 5 (.t 71) (.t 73)), (some (69, false))⟩,
 ⟨(some 75), (.fa 0 (.t 74)), (some (69, false))⟩,
 ⟨(some 76), (.ld 1 false (.t 75)), (some (69, false))⟩,
 ⟨(some 77), (.faB 0 4), (some (69, false))⟩,
 ⟨(some 78), (.ldE 1 false 4 77), (some (69, false))⟩,
 ⟨(some 79), (.bin .eql (.t 76) (.t 78)), (some (69, false))⟩,
 ⟨(some 80), (.mov (.t 79)), (some (69, false))⟩,
 ⟨(some 81), (.faB 1 1), (some (80, true))⟩,
 ⟨(some 82), (.ldE 1 false 1 81), (some (80, true))⟩,
 ⟨(some 83), (.mov (.t 3)), (some (80, true))⟩,
 ⟨(some 84), (.bin .sub (.t 83) (.c (.int .i64 1))), (some (80, true))⟩,
 ⟨(some 85), (.ia 5 (.t 82) (.t 84)), (some (80, true))⟩,
 ⟨(some 86), (.fa 1 (.t 85)), (some (80, true))⟩,
 ⟨(some 87), (.ld 1 false (.t 86)), (some (80, true))⟩,
 ⟨(some 88), (.faB 1 4), (some (80, true))⟩,
 ⟨(some 89), (.ldE 1 false 4 88), (some (80, true))⟩,
 ⟨(some 90), (.bin .geq (.t 87) (.t 89)), (some (80, true))⟩,
 ⟨(some 91), (.pick (.t 80) (.t 90) (.c (.bool false))), (some (69, false))⟩,
 ⟨(some 92), (.pick (.t 69) (.c (.bool true)) (.t 91)), (some (58, true))⟩,
 ⟨(some 93), (.pick (.t 58) (.t 92) (.c (.bool false))), none⟩])
 (.keep [1, 3, 93]))
 (.cond (.t 93)
 (.seq
 (.seq (.ops [⟨(some 2), (.mov (.c (.bool false))), none⟩])
 (.keep [2]))
 .ret)
 .skip)))))
 (.seq (.ops [⟨(some 14), (.mov (.t 3)), none⟩,
 ⟨(some 15), (.bin .add (.t 14) (.c (.int .i64 1))), none⟩,
 ⟨(some 3), (.mov (.t 15)), none⟩])
 (.keep [1, 3])))))))
 (.seq
 (.seq (.ops [⟨(some 2), (.mov (.c (.bool true))), none⟩])
 (.keep [2]))
 .ret)))),
 [(.slot 2)]⟩
/-- spec MatchOk -/
def F_spec_MatchOk : Fun := ⟨2,
 (.seq
 (.seq (.ops [⟨(some 2), (.boxL 2 (.t 0)), none⟩,
 ⟨(some 4), (.mov (.c (.bool false))), none⟩])
 (.keep [1, 2]))
 (.seq
 (.seq
 (.seq (.ops [⟨(some 8), (.ldB 2 true 2), none⟩,
 ⟨(some 9), (.call n_spec_GraphOk [(.t 8)]), none⟩,
 ⟨(some 10), (.un .not (.t 9)), none⟩,
 ⟨(some 11), (.mov (.t 10)), none⟩,
 ⟨(some 12), (.mov (.t 1)), (some (11, false))⟩,
 ⟨(some 13), (.ln (.t 12)), (some (11, false))⟩,
 ⟨(some 14), (.bin .gtr (.t 13) (.c (.int .i64 9))), (some (11, false))⟩,
 ⟨(some 15), (.pick (.t 11) (.c (.bool true)) (.t 14)), none⟩])
 (.keep [1, 2, 15]))
 (.cond (.t 15)
 (.seq
 (.seq (.ops [⟨(some 4), (.mov (.c (.bool false))), none⟩])
 (.keep [4]))
 .ret)
 .skip))
 (.seq
 (.seq (.ops [⟨(some 16), (.lit 0 1 y_int [(.int .i64 0)] []), none⟩,
 ⟨(some 5), (.mov (.t 16)), none⟩])
 (.keep [1, 2, 5]))
 (.seq
 (.seq
 (.seq (.ops [⟨(some 6), (.mov (.c (.int .i64 0))), none⟩])
 (.keep [1, 2, 5, 6]))
 (.block 0
 (.loop
 (.seq
 (.seq
 (.seq (.ops [⟨(some 17), (.mov (.t 6)), none⟩,
 ⟨(some 18), (.mov (.t 1)), none⟩,
 ⟨(some 19), (.ln (.t 18)), none⟩,
 ⟨(some 20), (.bin .lss (.t 17) (.t 19)), none⟩])
 (.keep [1, 2, 5, 6, 20]))
 (.cond (.t 20)
 .skip
 (.exit 0)))
 (.seq
 (.block 1
 (.seq
 (.seq (.ops [⟨(some 23), (.mov (.t 1)), none⟩,
 ⟨(some 24), (.mov (.t 6)), none⟩,
 ⟨(some 25), (.ia 2 (.t 23) (.t 24)), none⟩,
 ⟨(some 26), (.ld 2 true (.t 25)), none⟩,
 ⟨(some 7), (.newL [(.int .i64 0), (.int .i64 0)]), none⟩,
 ⟨none, (.stB 2 7 (.t 26)), none⟩])
 (.keep [1, 2, 5, 6, 7]))
 (.seq
 (.seq
 (.seq (.free true [⟨(some 27), (.faB 0 7), none⟩,
 ⟨(some 28), (.ldE 1 false 7 27), none⟩,
 ⟨(some 29), (.faB 1 7), none⟩,
 ⟨(some 30), (.ldE 1 false 7 29), none⟩,
 ⟨(some 31), (.bin .geq (.t 28) (.t 30)), none⟩,
 ⟨(some 32), (.mov (.t 31)), none⟩,
 ⟨(some 33), (.mov (.t 6)), (some (32, false))⟩,
 ⟨(some 34), (.bin .gtr (.t 33) (.c (.int .i64 0))), (some (32, false))⟩,
 ⟨(some 35), (.mov (.t 34)), (some (32, false))⟩,
 ⟨(some 36), (.mov (.t 1)), (some (35, true))⟩,
 ⟨(some 37), (.mov (.t 6)), (some (35, true))⟩,
 ⟨(some 38), (.bin .sub (.t 37) (.c (.int .i64 1))), (some (35, true))⟩,
 ⟨(some 39), (.ia 2 (.t 36) (.t 38)), (some (35, true))⟩,
 ⟨(some 40), (.fa 0 (.t 39)), (some (35, true))⟩,
 ⟨(some 41), (.ld 1 false (.t 40)), (some (35, true))⟩,
 ⟨(some 42), (.faB 0 7), (some (35, true))⟩,
 ⟨(some 43), (.ldE 1 false 7 42), (some (35, true))⟩,
 ⟨(some 44), (.bin .geq (.t 41) (.t 43)), (some (35, true))⟩,
 ⟨(some 45), (.pick (.t 35) (.t 44) (.c (.bool false))), (some (32, false))⟩,
 ⟨(some 46), (.pick (.t 32) (.c (.bool true)) (.t 45)), none⟩,
 ⟨(some 47), (.mov (.t 46)), none⟩,
 ⟨(some 48), (.ldB 2 true 2), (some (47, false))⟩,
 ⟨(some 49), (.faB 0 7), (some (47, false))⟩,
 ⟨(some 50), (.ldE 1 false 7 49), (some (47, false))⟩,
 ⟨(some 51), (.faB 1 7), (some (47, false))⟩,
 ⟨(some 52), (.ldE 1 false 7 51), (some (47, false))⟩,
 ⟨(some 53), (.call n_spec_l08At [(.t 48), (.t 50), (.t 52)]), (some (47, false))⟩,
 ⟨(some 54), (.bin .lss (.t 53) (.c (.int .i64 0))), (some (47, false))⟩,
 ⟨(some 55), (.pick (.t 47) (.c (.bool true)) (.t 54)), none⟩,
 ⟨(some 56), (.mov (.t 55)), none⟩,
 ⟨(some 57), (.mov (.t 5)), (some (56, false))⟩,
 ⟨(some 58), (.faB 0 7), (some (56, false))⟩,
 ⟨(some 59), (.ldE 1 false 7 58), (some (56, false))⟩,
 ⟨(some 60), (.call n_spec_l03In [(.t 57), (.t 59)]), (some (56, false))⟩,
 ⟨(some 61), (.pick (.t 56) (.c (.bool true)) (.t 60)), none⟩,
 ⟨(some 62), (.mov (.t 61)), none⟩,
 ⟨(some 63), (.mov (.t 5)), (some (62, false))⟩,
 ⟨(some 64), (.faB 1 7), (some (62, false))⟩,
 ⟨(some 65), (.ldE 1 false 7 64), (some (62, false))⟩,
 ⟨(some 66), (.call n_spec_l03In [(.t 63), (.t 65)]), (some (62, false))⟩,
 ⟨(some 67), (.pick (.t 62) (.c (.bool true)) (.t 66)), none⟩])
 (.keep [1, 2, 5, 6, 7, 67]))
 (.cond (.t 67)
 (.seq
 (.seq (.ops [⟨(some 4), (.mov (.c (.bool false))), none⟩])
 (.keep [4]))
 .ret)
 .skip))
 (.seq (.ops [⟨(some 68), (.mov (.t 5)), none⟩,
 ⟨(some 69), (.faB 0 7), none⟩,
 ⟨(some 70), (.ldE 1 false 7 69), none⟩,
 ⟨(some 71), (.faB 1 7), none⟩,
 ⟨(some 72), (.ldE 1 false 7 71), none⟩,
 ⟨(some 73), (.litL 2 1 [(.int .i64 0)] [(0, (.t 70)), (1, (.t 72))]), none⟩,
 ⟨(some 74), (.appL 1 y_int 8 2 (.t 68) 73), none⟩,
 ⟨(some 5), (.mov (.t 74)), none⟩])
 (.keep [1, 2, 5, 6])))))
 (.seq (.ops [⟨(some 21), (.mov (.t 6)), none⟩,
 ⟨(some 22), (.bin .add (.t 21) (.c (.int .i64 1))), none⟩,
 ⟨(some 6), (.mov (.t 22)), none⟩])
 (.keep [1, 2, 5, 6])))))))
 (.seq
 (.seq (.ops [⟨(some 4), (.mov (.c (.bool true))), none⟩])
 (.keep [4]))
 .ret))))),
 [(.slot 4)]⟩
/-- spec l13Num -/
def F_spec_l13Num : Fun := ⟨1,
 (.seq
 (.seq (.ops [⟨(some 2), (.mov (.c (.int .i64 0))), none⟩,
 ⟨(some 3), (.mov (.c (.bool false))), none⟩])
 (.keep [0]))
 (.seq
 (.seq
 (.seq (.ops [⟨(some 4), (.mov (.t 0)), none⟩,
 ⟨(some 5), (.lnS (.t 4)), none⟩,
 ⟨(some 6), (.bin .neq (.t 5) (.c (.int .i64 2))), none⟩,
 ⟨(some 7), (.mov (.t 6)), none⟩,
 ⟨(some 8), (.mov (.t 0)), (some (7, false))⟩,
 ⟨(some 9), (.ix (.t 8) (.c (.int .i64 0))), (some (7, false))⟩,
 ⟨(some 10), (.bin .lss (.t 9) (.c (.int .u8 48))), (some (7, false))⟩,
 ⟨(some 11), (.pick (.t 7) (.c (.bool true)) (.t 10)), none⟩,
 ⟨(some 12), (.mov (.t 11)), none⟩,
 ⟨(some 13), (.mov (.t 0)), (some (12, false))⟩,
 ⟨(some 14), (.ix (.t 13) (.c (.int .i64 0))), (some (12, false))⟩,
 ⟨(some 15), (.bin .gtr (.t 14) (.c (.int .u8 57))), (some (12, false))⟩,
 ⟨(some 16), (.pick (.t 12) (.c (.bool true)) (.t 15)), none⟩,
 ⟨(some 17), (.mov (.t 16)), none⟩,
 ⟨(some 18), (.mov (.t 0)), (some (17, false))⟩,
 ⟨(some 19), (.ix (.t 18) (.c (.int .i64 1))), (some (17, false))⟩,
 ⟨(some 20), (.bin .lss (.t 19) (.c (.int .u8 48))), (some (17, false))⟩,
 ⟨(some 21), (.pick (.t 17) (.c (.bool true)) (.t 20)), none⟩,
 ⟨(some 22), (.mov (.t 21)), none⟩,
 ⟨(some 23), (.mov (.t 0)), (some (22, false))⟩,
 ⟨(some 24), (.ix (.t 23) (.c (.int .i64 1))), (some (22, false))⟩,
 ⟨(some 25), (.bin .gtr (.t 24) (.c (.int .u8 57))), (some (22, false))⟩,
 ⟨(some 26), (.pick (.t 22) (.c (.bool true)) (.t 25)), none⟩])
 (.keep [0, 26]))
 (.cond (.t 26)
 (.seq
 (.seq (.ops [⟨(some 2), (.mov (.c (.int .i64 0))), none⟩,
 ⟨(some 3), (.mov (.c (.bool false))), none⟩])
 (.keep [2, 3]))
 .ret)
 .skip))
 (.seq
 (.seq (.free true [⟨(some 27), (.mov (.t 0)), none⟩,
 ⟨(some 28), (.ix (.t 27) (.c (.int .i64 0))), none⟩,
 ⟨(some 29), (.bin .sub (.t 28) (.c (.int .u8 48))), none⟩,
 ⟨(some 30), (.conv .i64 (.t 29)), none⟩,
 ⟨(some 31), (.bin .mul (.c (.int .i64 10)) (.t 30)), none⟩,
 ⟨(some 32), (.mov (.t 0)), none⟩,
 ⟨(some 33), (.ix (.t 32) (.c (.int .i64 1))), none⟩,
 ⟨(some 34), (.bin .sub (.t 33) (.c (.int .u8 48))), none⟩,
 ⟨(some 35), (.conv .i64 (.t 34)), none⟩,
 ⟨(some 36), (.bin .add (.t 31) (.t 35)), none⟩,
 ⟨(some 2), (.mov (.t 36)), none⟩,
 ⟨(some 3), (.mov (.c (.bool true))), none⟩])
 (.keep [2, 3]))
 .ret))),
 [(.slot 2), (.slot 3)]⟩
/-- impl GraphOk -/
def F_impl_GraphOk : Fun := ⟨1,
 (.seq
 (.seq (.ops [⟨(some 1), (.boxL 2 (.t 0)), none⟩,
 ⟨(some 2), (.mov (.c (.bool false))), none⟩])
 (.keep [1]))
 (.seq
 (.seq
 (.seq (.ops [⟨(some 6), (.faB 0 1), none⟩,
 ⟨(some 7), (.ldE 1 false 1 6), none⟩,
 ⟨(some 8), (.call n_impl_in [(.t 7), (.c (.int .i64 0)), (.c (.int .i64 9))]), none⟩,
 ⟨(some 9), (.un .not (.t 8)), none⟩])
 (.keep [1, 9]))
 (.cond (.t 9)
 (.seq
 (.seq (.ops [⟨(some 2), (.mov (.c (.bool false))), none⟩])
 (.keep [2]))
 .ret)
 .skip))
 (.seq
 (.seq
 (.seq (.ops [⟨(some 10), (.faB 1 1), none⟩,
 ⟨(some 11), (.ldE 1 false 1 10), none⟩,
 ⟨(some 12), (.ln (.t 11)), none⟩,
 ⟨(some 13), (.mov (.c (.int .i64 0))), none⟩])
 (.keep [1, 11, 12, 13]))
 (.block 0
 (.loop
 (.seq
 (.seq (.ops [⟨(some 14), (.bin .lss (.t 13) (.t 12)), none⟩])
 (.keep [1, 11, 12, 13, 14]))
 (.seq
 (.cond (.t 14)
 .skip
 (.exit 0))
 (.seq
 (.block 1
 (.seq
 (.seq (.ops [⟨(some 15), (.mov (.t 13)), none⟩,
 ⟨(some 16), (.ia 5 (.t 11) (.t 13)), none⟩,
 ⟨(some 17), (.ld 5 true (.t 16)), none⟩,
 ⟨(some 4), (.newL [(.int .i64 0), (.int .i64 0), (.int .i64 0), (.int .i64 0), (.int .i64 0)]), none⟩,
 ⟨(some 3), (.mov (.t 15)), none⟩,
 ⟨none, (.stB 5 4 (.t 17)), none⟩])
 (.keep [1, 3, 4, 11, 12, 13]))
 (.seq
 (.seq
 (.seq (.ops [⟨(some 18), (.faB 0 4), none⟩,
 ⟨(some 19), (.ldE 1 false 4 18), none⟩,
 ⟨(some 20), (.faB 0 1), none⟩,
 ⟨(some 21), (.ldE 1 false 1 20), none⟩,
 ⟨(some 22), (.bin .sub (.t 21) (.c (.int .i64 1))), none⟩,
 ⟨(some 23), (.call n_impl_in [(.t 19), (.c (.int .i64 0)), (.t 22)]), none⟩,
 ⟨(some 24), (.un .not (.t 23)), none⟩,
 ⟨(some 25), (.mov (.t 24)), none⟩,
 ⟨(some 26), (.faB 1 4), (some (25, false))⟩,
 ⟨(some 27), (.ldE 1 false 4 26), (some (25, false))⟩,
 ⟨(some 28), (.faB 0 1), (some (25, false))⟩,
 ⟨(some 29), (.ldE 1 false 1 28), (some (25, false))⟩,
 ⟨(some 30), (.bin .sub (.t 29) (.c (.int .i64 1))), (some (25, false))⟩,
 ⟨(some 31), (.call n_impl_in [(.t 27), (.c (.int .i64 0)), (.t 30)]), (some (25, false))⟩,
 ⟨(some 32), (.un .not (.t 31)), (some (25, false))⟩,
 ⟨(some 33), (.pick (.t 25) (.c (.bool true)) (.t 32)), none⟩,
 ⟨(some 34), (.mov (.t 33)), none⟩,
 ⟨(some 35), (.faB 0 4), (some (34, false))⟩,
 ⟨(some 36), (.ldE 1 false 4 35), (some (34, false))⟩,
 ⟨(some 37), (.faB 1 4), (some (34, false))⟩,
 ⟨(some 38), (.ldE 1 false 4 37), (some (34, false))⟩,
 ⟨(some 39), (.bin .geq (.t 36) (.t 38)), (some (34, false))⟩,
 ⟨(some 40), (.pick (.t 34) (.c (.bool true)) (.t 39)), none⟩,
 ⟨(some 41), (.mov (.t 40)), none⟩,
 ⟨(some 42), (.faB 2 4), (some (41, false))⟩,
 ⟨(some 43), (.ldE 1 false 4 42), (some (41, false))⟩,
 ⟨(some 44), (.call n_impl_in [(.t 43), (.c (.int .i64 0)), (.c (.int .i64 50))]), (some (41, false))⟩,
 ⟨(some 45), (.un .not (.t 44)), (some (41, false))⟩,
 ⟨(some 46), (.pick (.t 41) (.c (.bool true)) (.t 45)), none⟩,
 ⟨(some 47), (.mov (.t 46)), none⟩,
 ⟨(some 48), (.faB 3 4), (some (47, false))⟩,
 ⟨(some 49), (.ldE 1 false 4 48), (some (47, false))⟩,
 ⟨(some 50), (.call n_impl_in [(.t 49), (.c (.int .i64 0)), (.c (.int .i64 50))]), (some (47, false))⟩,
 ⟨(some 51), (.un .not (.t 50)), (some (47, false))⟩,
 ⟨(some 52), (.pick (.t 47) (.c (.bool true)) (.t 51)), none⟩,
 ⟨(some 53), (.mov (.t 52)), none⟩,
 ⟨(some 54), (.faB 4 4), (some (53, false))⟩,
 ⟨(some 55), (.ldE 1 false 4 54), (some (53, false))⟩,
 ⟨(some 56), (.call n_impl_in [(.t 55), (.c (.int .i64 0)), (.c (.int .i64 50))]), (some (53, false))⟩,
 ⟨(some 57), (.un .not (.t 56)), (some (53, false))⟩,
 ⟨(some 58), (.pick (.t 53) (.c (.bool true)) (.t 57)), none⟩])
 (.keep [1, 3, 4, 11, 12, 13, 58]))
 (.cond (.t 58)
 (.seq
 (.seq (.ops [⟨(some 2), (.mov (.c (.bool false))), none⟩])
 (.keep [2]))
 .ret)
 .skip))
 (.seq
 (.seq (.ops [⟨(some 59), (.mov (.t 3)), none⟩,
 ⟨(some 60), (.bin .sub (.t 59) (.c (.int .i64 1))), none⟩,
 ⟨(some 5), (.mov (.t 60)), none⟩])
 (.keep [1, 3, 4, 5, 11, 12, 13]))
 (.seq
 (.seq (.free true [⟨(some 61), (.mov (.t 3)), none⟩,
 ⟨(some 62), (.bin .gtr (.t 61) (.c (.int .i64 0))), none⟩,
 ⟨(some 63), (.mov (.t 62)), none⟩,
 ⟨(some 64), (.faB 1 1), (some (63, true))⟩,
 ⟨(some 65), (.ldE 1 false 1 64), (some (63, true))⟩,
 ⟨(some 66), (.mov (.t 5)), (some (63, true))⟩,
 ⟨(some 67), (.ia 5 (.t 65) (.t 66)), (some (63, true))⟩,
 ⟨(some 68), (.fa 0 (.t 67)), (some (63, true))⟩,
 ⟨(some 69), (.ld 1 false (.t 68)), (some (63, true))⟩,
 ⟨(some 70), (.faB 0 4), (some (63, true))⟩,
 ⟨(some 71), (.ldE 1 false 4 70), (some (63, true))⟩,
 ⟨(some 72), (.bin .gtr (.t 69) (.t 71)), (some (63, true))⟩,
 ⟨(some 73), (.mov (.t 72)), (some (63, true))⟩,
 ⟨(some 74), (.faB 1 1), (some (73, false))⟩,
 ⟨(some 75), (.ldE 1 false 1 74), (some (73, false))⟩,
 ⟨(some 76), (.mov (.t 5)), (some (73, false))⟩,
 ⟨(some 77), (.ia 5 (.t 75) (.t 76)), (some (73, false))⟩,
 ⟨(some 78), (.fa 0 (.t 77)), (some (73, false))⟩,
 ⟨(some 79), (.ld 1 false (.t 78)), (some (73, false))⟩,
 ⟨(some 80), (.faB 0 4), (some (73, false))⟩,
 ⟨(some 81), (.ldE 1 false 4 80), (some (73, false))⟩,
 ⟨(some 82), (.bin .eql (.t 79) (.t 81)), (some (73, false))⟩,
 ⟨(some 83), (.mov (.t 82)), (some (73, false))⟩,
 ⟨(some 84), (.faB 1 1), (some (83, true))⟩,
 ⟨(some 85), (.ldE 1 false 1 84), (some (83, true))⟩,
 ⟨(some 86), (.mov (.t 5)), (some (83, true))⟩,
 ⟨(some 87), (.ia 5 (.t 85) (.t 86)), (some (83, true))⟩,
 ⟨(some 88), (.fa 1 (.t 87)), (some (83, true))⟩,
 ⟨(some 89), (.ld 1 false (.t 88)), (some (83, true))⟩,
 ⟨(some 90), (.faB 1 4), (some (83, true))⟩,
 ⟨(some 91), (.ldE 1 false 4 90), (some (83, true))⟩,
 ⟨(some 92), (.bin .geq (.t 89) (.t 91)), (some (83, true))⟩,
 ⟨(some 93), (.pick (.t 83) (.t 92) (.c (.bool false))), (some (73, false))⟩,
 ⟨(some 94), (.pick (.t 73) (.c (.bool true)) (.t 93)), (some (63, true))⟩,
 ⟨(some 95), (.pick (.t 63) (.t 94) (.c (.bool false))), none⟩])
 (.keep [1, 11, 12, 13, 95]))
 (.cond (.t 95)
 (.seq
 (.seq (.ops [⟨(some 2), (.mov (.c (.bool false))), none⟩])
 (.keep [2]))
 .ret)
 .skip))))))
 (.seq (.ops [⟨(some 96), (.bin .add (.t 13) (.c (.int .i64 1))), none⟩,
 ⟨(some 13), (.mov (.t 96)), none⟩])
 (.keep [1, 11, 12, 13]))))))))
 (.seq
 (.seq (.ops [⟨(some 2), (.mov (.c (.bool true))), none⟩])
 (.keep [2]))
 .ret)))),
 [(.slot 2)]⟩
/-- impl MatchOk -/
def F_impl_MatchOk : Fun := ⟨2,
 (.seq
 (.seq (.ops [⟨(some 2), (.boxL 2 (.t 0)), none⟩,
 ⟨(some 4), (.mov (.c (.bool false))), none⟩])
 (.keep [1, 2]))
 (.seq
 (.seq
 (.seq (.ops [⟨(some 8), (.ldB 2 true 2), none⟩,
 ⟨(some 9), (.call n_impl_GraphOk [(.t 8)]), none⟩,
 ⟨(some 10), (.un .not (.t 9)), none⟩])
 (.keep [1, 2, 10]))
 (.cond (.t 10)
 (.seq
 (.seq (.ops [⟨(some 4), (.mov (.c (.bool false))), none⟩])
 (.keep [4]))
 .ret)
 .skip))
 (.seq
 (.seq (.ops [⟨(some 5), (.mov (.c (.slice none 0 0))), none⟩])
 (.keep [1, 2, 5]))
 (.seq
 (.seq
 (.seq (.ops [⟨(some 11), (.mov (.t 1)), none⟩,
 ⟨(some 12), (.ln (.t 11)), none⟩,
 ⟨(some 13), (.mov (.c (.int .i64 0))), none⟩])
 (.keep [1, 2, 5, 11, 12, 13]))
 (.block 0
 (.loop
 (.seq
 (.seq (.ops [⟨(some 14), (.bin .lss (.t 13) (.t 12)), none⟩])
 (.keep [1, 2, 5, 11, 12, 13, 14]))
 (.seq
 (.cond (.t 14)
 .skip
 (.exit 0))
 (.seq
 (.block 1
 (.seq
 (.seq (.ops [⟨(some 15), (.mov (.t 13)), none⟩,
 ⟨(some 16), (.ia 2 (.t 11) (.t 13)), none⟩,
 ⟨(some 17), (.ld 2 true (.t 16)), none⟩,
 ⟨(some 7), (.newL [(.int .i64 0), (.int .i64 0)]), none⟩,
 ⟨(some 6), (.mov (.t 15)), none⟩,
 ⟨none, (.stB 2 7 (.t 17)), none⟩])
 (.keep [1, 2, 5, 6, 7, 11, 12, 13]))
 (.seq
 (.seq
 (.seq (.free true [⟨(some 18), (.faB 0 7), none⟩,
 ⟨(some 19), (.ldE 1 false 7 18), none⟩,
 ⟨(some 20), (.faB 1 7), none⟩,
 ⟨(some 21), (.ldE 1 false 7 20), none⟩,
 ⟨(some 22), (.bin .geq (.t 19) (.t 21)), none⟩,
 ⟨(some 23), (.mov (.t 22)), none⟩,
 ⟨(some 24), (.ldB 2 true 2), (some (23, false))⟩,
 ⟨(some 25), (.faB 0 7), (some (23, false))⟩,
 ⟨(some 26), (.ldE 1 false 7 25), (some (23, false))⟩,
 ⟨(some 27), (.faB 1 7), (some (23, false))⟩,
 ⟨(some 28), (.ldE 1 false 7 27), (some (23, false))⟩,
 ⟨(some 29), (.call n_impl_edgeAt [(.t 24), (.t 26), (.t 28)]), (some (23, false))⟩,
 ⟨(some 30), (.bin .lss (.t 29) (.c (.int .i64 0))), (some (23, false))⟩,
 ⟨(some 31), (.pick (.t 23) (.c (.bool true)) (.t 30)), none⟩,
 ⟨(some 32), (.mov (.t 31)), none⟩,
 ⟨(some 33), (.mov (.t 6)), (some (32, false))⟩,
 ⟨(some 34), (.bin .gtr (.t 33) (.c (.int .i64 0))), (some (32, false))⟩,
 ⟨(some 35), (.mov (.t 34)), (some (32, false))⟩,
 ⟨(some 36), (.mov (.t 1)), (some (35, true))⟩,
 ⟨(some 37), (.mov (.t 6)), (some (35, true))⟩,
 ⟨(some 38), (.bin .sub (.t 37) (.c (.int .i64 1))), (some (35, true))⟩,
 ⟨(some 39), (.ia 2 (.t 36) (.t 38)), (some (35, true))⟩,
 ⟨(some 40), (.fa 0 (.t 39)), (some (35, true))⟩,
 ⟨(some 41), (.ld 1 false (.t 40)), (some (35, true))⟩,
 ⟨(some 42), (.faB 0 7), (some (35, true))⟩,
 ⟨(some 43), (.ldE 1 false 7 42), (some (35, true))⟩,
 ⟨(some 44), (.bin .geq (.t 41) (.t 43)), (some (35, true))⟩,
 ⟨(some 45), (.pick (.t 35) (.t 44) (.c (.bool false))), (some (32, false))⟩,
 ⟨(some 46), (.pick (.t 32) (.c (.bool true)) (.t 45)), none⟩,
 ⟨(some 47), (.mov (.t 46)), none⟩,
 ⟨(some 48), (.mov (.t 5)), (some (47, false))⟩,
 ⟨(some 49), (.faB 0 7), (some (47, false))⟩,
 ⟨(some 50), (.ldE 1 false 7 49), (some (47, false))⟩,
 ⟨(some 51), (.call n_impl_hasInt [(.t 48), (.t 50)]), (some (47, false))⟩,
 ⟨(some 52), (.pick (.t 47) (.c (.bool true)) (.t 51)), none⟩,
 ⟨(some 53), (.mov (.t 52)), none⟩,
 ⟨(some 54), (.mov (.t 5)), (some (53, false))⟩,
 ⟨(some 55), (.faB 1 7), (some (53, false))⟩,
 ⟨(some 56), (.ldE 1 false 7 55), (some (53, false))⟩,
 ⟨(some 57), (.call n_impl_hasInt [(.t 54), (.t 56)]), (some (53, false))⟩,
 ⟨(some 58), (.pick (.t 53) (.c (.bool true)) (.t 57)), none⟩])
 (.keep [1, 2, 5, 7, 11, 12, 13, 58]))
 (.cond (.t 58)
 (.seq
 (.seq (.ops [⟨(some 4), (.mov (.c (.bool false))), none⟩])
 (.keep [4]))
 .ret)
 .skip))
 (.seq (.ops [⟨(some 59), (.mov (.t 5)), none⟩,
 ⟨(some 60), (.faB 0 7), none⟩,
 ⟨(some 61), (.ldE 1 false 7 60), none⟩,
 ⟨(some 62), (.faB 1 7), none⟩,
 ⟨(some 63), (.ldE 1 false 7 62), none⟩,
 ⟨(some 64), (.litL 2 1 [(.int .i64 0)] [(0, (.t 61)), (1, (.t 63))]), none⟩,
 ⟨(some 65), (.appL 1 y_int 8 2 (.t 59) 64), none⟩,
 ⟨(some 5), (.mov (.t 65)), none⟩])
 (.keep [1, 2, 5, 11, 12, 13])))))
 (.seq (.ops [⟨(some 66), (.bin .add (.t 13) (.c (.int .i64 1))), none⟩,
 ⟨(some 13), (.mov (.t 66)), none⟩])
 (.keep [1, 2, 5, 11, 12, 13]))))))))
 (.seq
 (.seq (.ops [⟨(some 4), (.mov (.c (.bool true))), none⟩])
 (.keep [4]))
 .ret))))),
 [(.slot 4)]⟩
/-- impl edgeAt -/
def F_impl_edgeAt : Fun := ⟨3,
 (.seq
 (.seq (.ops [⟨(some 3), (.boxL 2 (.t 0)), none⟩,
 ⟨(some 6), (.mov (.c (.int .i64 0))), none⟩])
 (.keep [1, 2, 3]))
 (.seq
 (.seq
 (.seq (.ops [⟨(some 9), (.faB 1 3), none⟩,
 ⟨(some 10), (.ldE 1 false 3 9), none⟩,
 ⟨(some 11), (.ln (.t 10)), none⟩,
 ⟨(some 12), (.mov (.c (.int .i64 0))), none⟩])
 (.keep [1, 2, 10, 11, 12]))
 (.block 0
 (.loop
 (.seq
 (.seq (.ops [⟨(some 13), (.bin .lss (.t 12) (.t 11)), none⟩])
 (.keep [1, 2, 10, 11, 12, 13]))
 (.seq
 (.cond (.t 13)
 .skip
 (.exit 0))
 (.seq
 (.block 1
 (.seq
 (.seq (.ops [⟨(some 14), (.mov (.t 12)), none⟩,
 ⟨(some 15), (.ia 5 (.t 10) (.t 12)), none⟩,
 ⟨(some 16), (.ld 5 true (.t 15)), none⟩,
 ⟨(some 8), (.newL [(.int .i64 0), (.int .i64 0), (.int .i64 0), (.int .i64 0), (.int .i64 0)]), none⟩,
 ⟨(some 7), (.mov (.t 14)), none⟩,
 ⟨none, (.stB 5 8 (.t 16)), none⟩])
 (.keep [1, 2, 7, 8, 10, 11, 12]))
 (.seq
 (.seq (.ops [⟨(some 17), (.faB 0 8), none⟩,
 ⟨(some 18), (.ldE 1 false 8 17), none⟩,
 ⟨(some 19), (.mov (.t 1)), none⟩,
 ⟨(some 20), (.bin .eql (.t 18) (.t 19)), none⟩,
 ⟨(some 21), (.mov (.t 20)), none⟩,
 ⟨(some 22), (.faB 1 8), (some (21, true))⟩,
 ⟨(some 23), (.ldE 1 false 8 22), (some (21, true))⟩,
 ⟨(some 24), (.mov (.t 2)), (some (21, true))⟩,
 ⟨(some 25), (.bin .eql (.t 23) (.t 24)), (some (21, true))⟩,
 ⟨(some 26), (.pick (.t 21) (.t 25) (.c (.bool false))), none⟩,
 ⟨(some 27), (.mov (.t 26)), none⟩,
 ⟨(some 28), (.faB 0 8), (some (27, false))⟩,
 ⟨(some 29), (.ldE 1 false 8 28), (some (27, false))⟩,
 ⟨(some 30), (.mov (.t 2)), (some (27, false))⟩,
 ⟨(some 31), (.bin .eql (.t 29) (.t 30)), (some (27, false))⟩,
 ⟨(some 32), (.mov (.t 31)), (some (27, false))⟩,
 ⟨(some 33), (.faB 1 8), (some (32, true))⟩,
 ⟨(some 34), (.ldE 1 false 8 33), (some (32, true))⟩,
 ⟨(some 35), (.mov (.t 1)), (some (32, true))⟩,
 ⟨(some 36), (.bin .eql (.t 34) (.t 35)), (some (32, true))⟩,
 ⟨(some 37), (.pick (.t 32) (.t 36) (.c (.bool false))), (some (27, false))⟩,
 ⟨(some 38), (.pick (.t 27) (.c (.bool true)) (.t 37)), none⟩])
 (.keep [1, 2, 7, 10, 11, 12, 38]))
 (.cond (.t 38)
 (.seq
 (.seq (.ops [⟨(some 39), (.mov (.t 7)), none⟩,
 ⟨(some 6), (.mov (.t 39)), none⟩])
 (.keep [6]))
 .ret)
 .skip))))
 (.seq (.ops [⟨(some 40), (.bin .add (.t 12) (.c (.int .i64 1))), none⟩,
 ⟨(some 12), (.mov (.t 40)), none⟩])
 (.keep [1, 2, 10, 11, 12]))))))))
 (.seq
 (.seq (.ops [⟨(some 6), (.mov (.c (.int .i64 (-1)))), none⟩])
 (.keep [6]))
 .ret))),
 [(.slot 6)]⟩
/-- impl reader group -/
def F_impl_reader_group : Fun := ⟨1,
 (.seq
 (.seq (.ops [⟨(some 2), (.newL [(.slice none 0 0), (.int .i64 0)]), none⟩])
 (.keep [0, 2]))
 (.seq
 (.seq (.ops [⟨(some 3), (.newL [(.slice none 0 0), (.int .i64 0)]), none⟩])
 (.keep [0, 2, 3]))
 (.seq
 (.seq (.ops [⟨(some 6), (.mov (.t 0)), none⟩,
 ⟨(some 7), (.call n_impl_reader_num [(.t 6)]), none⟩,
 ⟨(some 4), (.mov (.t 7)), none⟩])
 (.keep [0, 2, 3, 4]))
 (.seq
 (.block 0
 (.loop
 (.seq
 (.seq
 (.seq (.ops [⟨(some 8), (.mov (.t 4)), none⟩,
 ⟨(some 9), (.bin .gtr (.t 8) (.c (.int .i64 0))), none⟩,
 ⟨(some 10), (.mov (.t 9)), none⟩,
 ⟨(some 11), (.mov (.t 0)), (some (10, true))⟩,
 ⟨(some 12), (.chk (.t 11)), (some (10, true))⟩,
 ⟨(some 13), (.fa 2 (.t 12)), (some (10, true))⟩,
 ⟨(some 14), (.ld 1 false (.t 13)), (some (10, true))⟩,
 ⟨(some 15), (.un .not (.t 14)), (some (10, true))⟩,
 ⟨(some 16), (.pick (.t 10) (.t 15) (.c (.bool false))), none⟩])
 (.keep [0, 2, 3, 4, 16]))
 (.cond (.t 16)
 .skip
 (.exit 0)))
 (.seq
 (.block 1
 (.seq
 (.seq (.ops [⟨(some 19), (.mov (.t 0)), none⟩,
 ⟨(some 20), (.call n_impl_reader_num [(.t 19)]), none⟩,
 ⟨(some 5), (.mov (.t 20)), none⟩])
 (.keep [0, 2, 3, 4, 5]))
 (.seq (.ops [⟨(some 21), (.faB 0 3), none⟩,
 ⟨(some 22), (.ldE 1 false 3 21), none⟩,
 ⟨(some 23), (.mov (.t 5)), none⟩,
 ⟨(some 24), (.litL 1 1 [(.int .i64 0)] [(0, (.t 23))]), none⟩,
 ⟨(some 25), (.appL 1 y_int 8 1 (.t 22) 24), none⟩,
 ⟨(some 26), (.faB 0 3), none⟩,
 ⟨none, (.stE 1 3 26 (.t 25)), none⟩])
 (.keep [0, 2, 3, 4]))))
 (.seq (.ops [⟨(some 17), (.mov (.t 4)), none⟩,
 ⟨(some 18), (.bin .sub (.t 17) (.c (.int .i64 1))), none⟩,
 ⟨(some 4), (.mov (.t 18)), none⟩])
 (.keep [0, 2, 3, 4]))))))
 (.seq
 (.seq (.ops [⟨(some 27), (.mov (.t 0)), none⟩,
 ⟨(some 28), (.call n_impl_reader_num [(.t 27)]), none⟩,
 ⟨(some 29), (.faB 1 3), none⟩,
 ⟨none, (.stE 1 3 29 (.t 28)), none⟩])
 (.keep [2, 3]))
 (.seq
 (.seq (.ops [⟨(some 30), (.ldB 2 true 3), none⟩,
 ⟨none, (.stB 2 2 (.t 30)), none⟩])
 (.keep [2]))
 .ret)))))),
 [(.box 2 2 true)]⟩
/-- impl Certifies -/
def F_impl_Certifies : Fun := ⟨3,
 (.seq
 (.seq (.ops [⟨(some 3), (.boxL 2 (.t 0)), none⟩,
 ⟨(some 5), (.boxL 2 (.t 2)), none⟩,
 ⟨(some 6), (.mov (.c (.bool false))), none⟩])
 (.keep [1, 3, 5]))
 (.seq
 (.seq
 (.seq (.ops [⟨(some 10), (.ldB 2 true 3), none⟩,
 ⟨(some 11), (.ldB 2 true 5), none⟩,
 ⟨(some 12), (.call n_impl_ProofOk [(.t 10), (.t 11)]), none⟩,
 ⟨(some 13), (.un .not (.t 12)), none⟩,
 ⟨(some 14), (.mov (.t 13)), none⟩,
 ⟨(some 15), (.ldB 2 true 3), (some (14, false))⟩,
 ⟨(some 16), (.mov (.t 1)), (some (14, false))⟩,
 ⟨(some 17), (.call n_impl_MatchOk [(.t 15), (.t 16)]), (some (14, false))⟩,
 ⟨(some 18), (.un .not (.t 17)), (some (14, false))⟩,
 ⟨(some 19), (.pick (.t 14) (.c (.bool true)) (.t 18)), none⟩])
 (.keep [1, 3, 5, 19]))
 (.cond (.t 19)
 (.seq
 (.seq (.ops [⟨(some 6), (.mov (.c (.bool false))), none⟩])
 (.keep [6]))
 .ret)
 .skip))
 (.seq
 (.seq (.ops [⟨(some 7), (.mov (.c (.int .i64 0))), none⟩])
 (.keep [1, 3, 5, 7]))
 (.seq
 (.seq
 (.seq (.ops [⟨(some 20), (.mov (.t 1)), none⟩,
 ⟨(some 21), (.ln (.t 20)), none⟩,
 ⟨(some 22), (.mov (.c (.int .i64 0))), none⟩])
 (.keep [3, 5, 7, 20, 21, 22]))
 (.block 0
 (.loop
 (.seq
 (.seq (.ops [⟨(some 23), (.bin .lss (.t 22) (.t 21)), none⟩])
 (.keep [3, 5, 7, 20, 21, 22, 23]))
 (.seq
 (.cond (.t 23)
 .skip
 (.exit 0))
 (.seq
 (.block 1
 (.seq
 (.seq (.ops [⟨(some 24), (.ia 2 (.t 20) (.t 22)), none⟩,
 ⟨(some 25), (.ld 2 true (.t 24)), none⟩,
 ⟨(some 9), (.newL [(.int .i64 0), (.int .i64 0)]), none⟩,
 ⟨none, (.stB 2 9 (.t 25)), none⟩])
 (.keep [3, 5, 7, 9, 20, 21, 22]))
 (.seq (.free true [⟨(some 26), (.mov (.t 7)), none⟩,
 ⟨(some 27), (.faB 1 3), none⟩,
 ⟨(some 28), (.ldE 1 false 3 27), none⟩,
 ⟨(some 29), (.ldB 2 true 3), none⟩,
 ⟨(some 30), (.faB 0 9), none⟩,
 ⟨(some 31), (.ldE 1 false 9 30), none⟩,
 ⟨(some 32), (.faB 1 9), none⟩,
 ⟨(some 33), (.ldE 1 false 9 32), none⟩,
 ⟨(some 34), (.call n_impl_edgeAt [(.t 29), (.t 31), (.t 33)]), none⟩,
 ⟨(some 35), (.ia 5 (.t 28) (.t 34)), none⟩,
 ⟨(some 36), (.ld 5 true (.t 35)), none⟩,
 ⟨(some 37), (.call n_impl_Scalar [(.t 36)]), none⟩,
 ⟨(some 38), (.bin .add (.t 26) (.t 37)), none⟩,
 ⟨(some 7), (.mov (.t 38)), none⟩])
 (.keep [3, 5, 7, 20, 21, 22]))))
 (.seq (.ops [⟨(some 39), (.bin .add (.t 22) (.c (.int .i64 1))), none⟩,
 ⟨(some 22), (.mov (.t 39)), none⟩])
 (.keep [3, 5, 7, 20, 21, 22]))))))))
 (.seq
 (.seq (.ops [⟨(some 40), (.mov (.t 7)), none⟩,
 ⟨(some 41), (.bin .mul (.c (.int .i64 2)) (.t 40)), none⟩,
 ⟨(some 42), (.ldB 2 true 5), none⟩,
 ⟨(some 43), (.call n_impl_weight [(.t 42)]), none⟩,
 ⟨(some 44), (.bin .eql (.t 41) (.t 43)), none⟩,
 ⟨(some 6), (.mov (.t 44)), none⟩])
 (.keep [6]))
 .ret))))),
 [(.slot 6)]⟩
/-- impl readTwo -/
def F_impl_readTwo : Fun := ⟨1,
 (.seq
 (.seq (.ops [⟨(some 2), (.mov (.c (.int .i64 0))), none⟩,
 ⟨(some 3), (.mov (.c (.bool false))), none⟩])
 (.keep [0]))
 (.seq
 (.seq
 (.seq (.ops [⟨(some 4), (.mov (.t 0)), none⟩,
 ⟨(some 5), (.lnS (.t 4)), none⟩,
 ⟨(some 6), (.bin .neq (.t 5) (.c (.int .i64 2))), none⟩,
 ⟨(some 7), (.mov (.t 6)), none⟩,
 ⟨(some 8), (.mov (.t 0)), (some (7, false))⟩,
 ⟨(some 9), (.ix (.t 8) (.c (.int .i64 0))), (some (7, false))⟩,
 ⟨(some 10), (.bin .lss (.t 9) (.c (.int .u8 48))), (some (7, false))⟩,
 ⟨(some 11), (.pick (.t 7) (.c (.bool true)) (.t 10)), none⟩,
 ⟨(some 12), (.mov (.t 11)), none⟩,
 ⟨(some 13), (.mov (.t 0)), (some (12, false))⟩,
 ⟨(some 14), (.ix (.t 13) (.c (.int .i64 0))), (some (12, false))⟩,
 ⟨(some 15), (.bin .gtr (.t 14) (.c (.int .u8 57))), (some (12, false))⟩,
 ⟨(some 16), (.pick (.t 12) (.c (.bool true)) (.t 15)), none⟩,
 ⟨(some 17), (.mov (.t 16)), none⟩,
 ⟨(some 18), (.mov (.t 0)), (some (17, false))⟩,
 ⟨(some 19), (.ix (.t 18) (.c (.int .i64 1))), (some (17, false))⟩,
 ⟨(some 20), (.bin .lss (.t 19) (.c (.int .u8 48))), (some (17, false))⟩,
 ⟨(some 21), (.pick (.t 17) (.c (.bool true)) (.t 20)), none⟩,
 ⟨(some 22), (.mov (.t 21)), none⟩,
 ⟨(some 23), (.mov (.t 0)), (some (22, false))⟩,
 ⟨(some 24), (.ix (.t 23) (.c (.int .i64 1))), (some (22, false))⟩,
 ⟨(some 25), (.bin .gtr (.t 24) (.c (.int .u8 57))), (some (22, false))⟩,
 ⟨(some 26), (.pick (.t 22) (.c (.bool true)) (.t 25)), none⟩])
 (.keep [0, 26]))
 (.cond (.t 26)
 (.seq
 (.seq (.ops [⟨(some 2), (.mov (.c (.int .i64 0))), none⟩,
 ⟨(some 3), (.mov (.c (.bool false))), none⟩])
 (.keep [2, 3]))
 .ret)
 .skip))
 (.seq
 (.seq (.free true [⟨(some 27), (.mov (.t 0)), none⟩,
 ⟨(some 28), (.ix (.t 27) (.c (.int .i64 0))), none⟩,
 ⟨(some 29), (.bin .sub (.t 28) (.c (.int .u8 48))), none⟩,
 ⟨(some 30), (.conv .i64 (.t 29)), none⟩,
 ⟨(some 31), (.bin .mul (.t 30) (.c (.int .i64 10))), none⟩,
 ⟨(some 32), (.mov (.t 0)), none⟩,
 ⟨(some 33), (.ix (.t 32) (.c (.int .i64 1))), none⟩,
 ⟨(some 34), (.bin .sub (.t 33) (.c (.int .u8 48))), none⟩,
 ⟨(some 35), (.conv .i64 (.t 34)), none⟩,
 ⟨(some 36), (.bin .add (.t 31) (.t 35)), none⟩,
 ⟨(some 2), (.mov (.t 36)), none⟩,
 ⟨(some 3), (.mov (.c (.bool true))), none⟩])
 (.keep [2, 3]))
 .ret))),
 [(.slot 2), (.slot 3)]⟩
/-- impl joined -/
def F_impl_joined : Fun := ⟨2,
 (.seq
 (.seq (.ops [⟨(some 4), (.mov (.c (.bool false))), none⟩])
 (.keep [0, 1]))
 (.seq
 (.seq (.ops [⟨(some 8), (.mov (.t 0)), none⟩,
 ⟨(some 9), (.mov (.t 1)), none⟩,
 ⟨(some 10), (.call n_impl_two [(.t 9)]), none⟩,
 ⟨(some 11), (.bin .add (.c (.string ⟨⟨[118]⟩⟩)) (.t 10)), none⟩,
 ⟨(some 12), (.call n_impl_get [(.t 8), (.t 11)]), none⟩,
 ⟨(some 7), (.mov (.t 12)), none⟩,
 ⟨(some 13), (.ext 0 (.t 7)), none⟩,
 ⟨(some 14), (.ext 1 (.t 7)), none⟩,
 ⟨(some 5), (.mov (.t 13)), none⟩,
 ⟨(some 6), (.mov (.t 14)), none⟩])
 (.keep [1, 6]))
 (.seq
 (.seq (.ops [⟨(some 15), (.mov (.t 6)), none⟩,
 ⟨(some 16), (.mov (.t 15)), none⟩,
 ⟨(some 17), (.mov (.t 1)), (some (16, true))⟩,
 ⟨(some 18), (.call n_impl_in [(.t 17), (.c (.int .i64 0)), (.c (.int .i64 11))]), (some (16, true))⟩,
 ⟨(some 19), (.pick (.t 16) (.t 18) (.c (.bool false))), none⟩,
 ⟨(some 4), (.mov (.t 19)), none⟩])
 (.keep [4]))
 .ret))),
 [(.slot 4)]⟩
/-- impl CertParts -/
def F_impl_CertParts : Fun := ⟨1,
 (.seq
 (.seq (.ops [⟨(some 2), (.mov (.c (.slice none 0 0))), none⟩])
 (.keep [0]))
 (.seq
 (.seq (.ops [⟨(some 3), (.mov (.c (.slice none 0 0))), none⟩])
 (.keep [0, 3]))
 (.seq
 (.block 0
 (.loop
 (.seq
 (.seq
 (.seq (.ops [⟨(some 4), (.mov (.t 0)), none⟩,
 ⟨(some 5), (.lnS (.t 4)), none⟩,
 ⟨(some 6), (.bin .gtr (.t 5) (.c (.int .i64 40))), none⟩])
 (.keep [0, 3, 6]))
 (.cond (.t 6)
 .skip
 (.exit 0)))
 (.block 1
 (.seq
 (.seq (.ops [⟨(some 7), (.mov (.t 3)), none⟩,
 ⟨(some 8), (.mov (.t 0)), none⟩,
 ⟨(some 9), (.slS (.t 8) none (some (.c (.int .i64 40)))), none⟩,
 ⟨(some 10), (.litL 1 1 [(.string ⟨⟨[]⟩⟩)] [(0, (.t 9))]), none⟩,
 ⟨(some 11), (.appL 1 y_string 16 1 (.t 7) 10), none⟩,
 ⟨(some 3), (.mov (.t 11)), none⟩])
 (.keep [0, 3]))
 (.seq (.ops [⟨(some 12), (.mov (.t 0)), none⟩,
 ⟨(some 13), (.slS (.t 12) (some (.c (.int .i64 40))) none), none⟩,
 ⟨(some 0), (.mov (.t 13)), none⟩])
 (.keep [0, 3])))))))
 (.seq
 (.seq
 (.seq (.ops [⟨(some 14), (.mov (.t 0)), none⟩,
 ⟨(some 15), (.bin .neq (.t 14) (.c (.string ⟨⟨[]⟩⟩))), none⟩])
 (.keep [0, 3, 15]))
 (.cond (.t 15)
 (.seq (.ops [⟨(some 16), (.mov (.t 3)), none⟩,
 ⟨(some 17), (.mov (.t 0)), none⟩,
 ⟨(some 18), (.litL 1 1 [(.string ⟨⟨[]⟩⟩)] [(0, (.t 17))]), none⟩,
 ⟨(some 19), (.appL 1 y_string 16 1 (.t 16) 18), none⟩,
 ⟨(some 3), (.mov (.t 19)), none⟩])
 (.keep [3]))
 .skip))
 (.seq
 (.seq (.ops [⟨(some 20), (.mov (.t 3)), none⟩,
 ⟨(some 2), (.mov (.t 20)), none⟩])
 (.keep [2]))
 .ret))))),
 [(.slot 2)]⟩
end Go.Proofs.YtgmljppiiighmaaGreatDoor.Ab
