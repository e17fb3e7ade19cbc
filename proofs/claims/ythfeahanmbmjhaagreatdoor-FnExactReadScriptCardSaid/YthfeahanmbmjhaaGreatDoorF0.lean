/- The functions, as they are read. No conditions. -/
import Derived.Test.YthfeahanmbmjhaaGreatDoorFN
namespace Go.Proofs.YthfeahanmbmjhaaGreatDoor.Ab
/-- laws FnExactReadScript -/
def F_laws_FnExactReadScript : Fun := ⟨1,
 (.seq
 (.seq (.ops [⟨(some 2), (.mov (.c (.bool false))), none⟩])
 (.keep [0]))
 (.seq
 (.seq
 (.seq (.ops [⟨(some 14), (.mov (.t 0)), none⟩,
 ⟨(some 15), (.lnS (.t 14)), none⟩,
 ⟨(some 16), (.bin .gtr (.t 15) (.c (.int .i64 1048576))), none⟩])
 (.keep [0, 16]))
 (.cond (.t 16)
 (.seq
 (.seq (.ops [⟨(some 2), (.mov (.c (.bool true))), none⟩])
 (.keep [2]))
 .ret)
 .skip))
 (.seq
 (.seq (.ops [⟨(some 18), (.mov (.t 0)), none⟩,
 ⟨(some 19), (.call n_spec_ReadScript [(.t 18)]), none⟩,
 ⟨(some 17), (.mov (.t 19)), none⟩,
 ⟨(some 20), (.ext 0 (.t 17)), none⟩,
 ⟨(some 21), (.ext 1 (.t 17)), none⟩,
 ⟨(some 22), (.ext 2 (.t 17)), none⟩,
 ⟨(some 3), (.mov (.t 20)), none⟩,
 ⟨(some 4), (.mov (.t 21)), none⟩,
 ⟨(some 5), (.mov (.t 22)), none⟩])
 (.keep [0, 3, 4, 5]))
 (.seq
 (.seq (.ops [⟨(some 24), (.mov (.t 0)), none⟩,
 ⟨(some 25), (.call n_impl_ReadScript [(.t 24)]), none⟩,
 ⟨(some 23), (.mov (.t 25)), none⟩,
 ⟨(some 26), (.ext 0 (.t 23)), none⟩,
 ⟨(some 27), (.ext 1 (.t 23)), none⟩,
 ⟨(some 28), (.ext 2 (.t 23)), none⟩,
 ⟨(some 6), (.mov (.t 26)), none⟩,
 ⟨(some 7), (.mov (.t 27)), none⟩,
 ⟨(some 8), (.mov (.t 28)), none⟩])
 (.keep [0, 3, 4, 5, 6, 7, 8]))
 (.seq
 (.seq
 (.seq (.ops [⟨(some 29), (.mov (.t 6)), none⟩,
 ⟨(some 30), (.mov (.t 3)), none⟩,
 ⟨(some 31), (.bin .neq (.t 29) (.t 30)), none⟩,
 ⟨(some 32), (.mov (.t 31)), none⟩,
 ⟨(some 33), (.mov (.t 7)), (some (32, false))⟩,
 ⟨(some 34), (.mov (.t 4)), (some (32, false))⟩,
 ⟨(some 35), (.call n_laws_eqDeedS [(.t 33), (.t 34)]), (some (32, false))⟩,
 ⟨(some 36), (.un .not (.t 35)), (some (32, false))⟩,
 ⟨(some 37), (.pick (.t 32) (.c (.bool true)) (.t 36)), none⟩,
 ⟨(some 38), (.mov (.t 37)), none⟩,
 ⟨(some 39), (.mov (.t 8)), (some (38, false))⟩,
 ⟨(some 40), (.mov (.t 5)), (some (38, false))⟩,
 ⟨(some 41), (.bin .neq (.t 39) (.t 40)), (some (38, false))⟩,
 ⟨(some 42), (.pick (.t 38) (.c (.bool true)) (.t 41)), none⟩])
 (.keep [0, 3, 4, 5, 7, 42]))
 (.cond (.t 42)
 (.seq
 (.seq (.ops [⟨(some 2), (.mov (.c (.bool false))), none⟩])
 (.keep [2]))
 .ret)
 .skip))
 (.seq
 (.seq (.ops [⟨(some 9), (.mov (.c (.int .i64 1))), none⟩])
 (.keep [0, 3, 4, 5, 7, 9]))
 (.seq
 (.seq (.ops [⟨(some 43), (.mov (.t 7)), none⟩,
 ⟨(some 44), (.mov (.t 9)), none⟩,
 ⟨(some 45), (.call n_laws_markDeedS [(.t 43), (.t 44)]), none⟩,
 ⟨(some 9), (.mov (.t 45)), none⟩])
 (.keep [0, 3, 4, 5, 7, 9]))
 (.seq
 (.seq (.ops [⟨(some 10), (.mov (.c (.int .i64 1))), none⟩])
 (.keep [0, 3, 4, 5, 7, 9, 10]))
 (.seq
 (.seq (.ops [⟨(some 46), (.mov (.t 7)), none⟩,
 ⟨(some 47), (.mov (.t 10)), none⟩,
 ⟨(some 48), (.call n_laws_heldDeedS [(.t 46), (.t 47)]), none⟩,
 ⟨(some 10), (.mov (.t 48)), none⟩])
 (.keep [0, 3, 4, 5, 7, 9, 10]))
 (.seq
 (.seq
 (.seq (.ops [⟨(some 49), (.mov (.t 10)), none⟩,
 ⟨(some 50), (.bin .lss (.t 49) (.c (.int .i64 0))), none⟩])
 (.keep [0, 3, 4, 5, 7, 9, 10, 50]))
 (.cond (.t 50)
 (.seq
 (.seq (.ops [⟨(some 2), (.mov (.c (.bool false))), none⟩])
 (.keep [2]))
 .ret)
 .skip))
 (.seq
 (.seq
 (.seq (.ops [⟨(some 51), (.mov (.t 10)), none⟩,
 ⟨(some 52), (.mov (.t 9)), none⟩,
 ⟨(some 53), (.bin .neq (.t 51) (.t 52)), none⟩])
 (.keep [0, 3, 4, 5, 7, 9, 53]))
 (.cond (.t 53)
 (.seq
 (.seq (.ops [⟨(some 2), (.mov (.c (.bool false))), none⟩])
 (.keep [2]))
 .ret)
 .skip))
 (.seq
 (.seq (.ops [⟨(some 55), (.mov (.t 0)), none⟩,
 ⟨(some 56), (.call n_impl_ReadScript [(.t 55)]), none⟩,
 ⟨(some 54), (.mov (.t 56)), none⟩,
 ⟨(some 57), (.ext 0 (.t 54)), none⟩,
 ⟨(some 58), (.ext 1 (.t 54)), none⟩,
 ⟨(some 59), (.ext 2 (.t 54)), none⟩,
 ⟨(some 11), (.mov (.t 57)), none⟩,
 ⟨(some 12), (.mov (.t 58)), none⟩,
 ⟨(some 13), (.mov (.t 59)), none⟩])
 (.keep [3, 4, 5, 7, 9, 11, 12, 13]))
 (.seq
 (.seq
 (.seq (.ops [⟨(some 60), (.mov (.t 11)), none⟩,
 ⟨(some 61), (.mov (.t 3)), none⟩,
 ⟨(some 62), (.bin .neq (.t 60) (.t 61)), none⟩,
 ⟨(some 63), (.mov (.t 62)), none⟩,
 ⟨(some 64), (.mov (.t 12)), (some (63, false))⟩,
 ⟨(some 65), (.mov (.t 4)), (some (63, false))⟩,
 ⟨(some 66), (.call n_laws_eqDeedS [(.t 64), (.t 65)]), (some (63, false))⟩,
 ⟨(some 67), (.un .not (.t 66)), (some (63, false))⟩,
 ⟨(some 68), (.pick (.t 63) (.c (.bool true)) (.t 67)), none⟩,
 ⟨(some 69), (.mov (.t 68)), none⟩,
 ⟨(some 70), (.mov (.t 13)), (some (69, false))⟩,
 ⟨(some 71), (.mov (.t 5)), (some (69, false))⟩,
 ⟨(some 72), (.bin .neq (.t 70) (.t 71)), (some (69, false))⟩,
 ⟨(some 73), (.pick (.t 69) (.c (.bool true)) (.t 72)), none⟩])
 (.keep [7, 9, 73]))
 (.cond (.t 73)
 (.seq
 (.seq (.ops [⟨(some 2), (.mov (.c (.bool false))), none⟩])
 (.keep [2]))
 .ret)
 .skip))
 (.seq
 (.seq (.ops [⟨(some 10), (.mov (.c (.int .i64 1))), none⟩])
 (.keep [7, 9, 10]))
 (.seq
 (.seq (.ops [⟨(some 74), (.mov (.t 7)), none⟩,
 ⟨(some 75), (.mov (.t 10)), none⟩,
 ⟨(some 76), (.call n_laws_heldDeedS [(.t 74), (.t 75)]), none⟩,
 ⟨(some 10), (.mov (.t 76)), none⟩])
 (.keep [9, 10]))
 (.seq
 (.seq
 (.seq (.ops [⟨(some 77), (.mov (.t 10)), none⟩,
 ⟨(some 78), (.bin .lss (.t 77) (.c (.int .i64 0))), none⟩])
 (.keep [9, 10, 78]))
 (.cond (.t 78)
 (.seq
 (.seq (.ops [⟨(some 2), (.mov (.c (.bool false))), none⟩])
 (.keep [2]))
 .ret)
 .skip))
 (.seq
 (.seq
 (.seq (.ops [⟨(some 79), (.mov (.t 10)), none⟩,
 ⟨(some 80), (.mov (.t 9)), none⟩,
 ⟨(some 81), (.bin .neq (.t 79) (.t 80)), none⟩])
 (.keep [81]))
 (.cond (.t 81)
 (.seq
 (.seq (.ops [⟨(some 2), (.mov (.c (.bool false))), none⟩])
 (.keep [2]))
 .ret)
 .skip))
 (.seq
 (.seq (.ops [⟨(some 2), (.mov (.c (.bool true))), none⟩])
 (.keep [2]))
 .ret)))))))))))))))))),
 [(.slot 2)]⟩
/-- spec ReadScript -/
def F_spec_ReadScript : Fun := ⟨1,
 (.seq
 (.seq (.ops [⟨(some 2), (.mov (.c (.int .i64 0))), none⟩,
 ⟨(some 3), (.mov (.c (.slice none 0 0))), none⟩,
 ⟨(some 4), (.mov (.c (.int .i64 0))), none⟩])
 (.keep [0]))
 (.seq
 (.seq (.ops [⟨(some 17), (.lit 0 6 y_Deed [(.string ⟨⟨[]⟩⟩), (.bool false), (.int .i64 0), (.slice none 0 0), (.int .i64 0), (.int .i64 0)] []), none⟩,
 ⟨(some 5), (.mov (.t 17)), none⟩])
 (.keep [0, 5]))
 (.seq
 (.seq
 (.seq (.ops [⟨(some 18), (.mov (.t 0)), none⟩,
 ⟨(some 19), (.lnS (.t 18)), none⟩,
 ⟨(some 20), (.bin .gtr (.t 19) (.c (.int .i64 6000))), none⟩,
 ⟨(some 21), (.mov (.t 20)), none⟩,
 ⟨(some 22), (.mov (.t 0)), (some (21, false))⟩,
 ⟨(some 23), (.call n_spec_l16Lines [(.t 22)]), (some (21, false))⟩,
 ⟨(some 24), (.ln (.t 23)), (some (21, false))⟩,
 ⟨(some 25), (.bin .gtr (.t 24) (.c (.int .i64 60))), (some (21, false))⟩,
 ⟨(some 26), (.pick (.t 21) (.c (.bool true)) (.t 25)), none⟩])
 (.keep [0, 5, 26]))
 (.cond (.t 26)
 (.seq
 (.seq (.ops [⟨(some 27), (.mov (.t 5)), none⟩,
 ⟨(some 2), (.mov (.c (.int .i64 0))), none⟩,
 ⟨(some 3), (.mov (.t 27)), none⟩,
 ⟨(some 4), (.mov (.c (.int .i64 (-1)))), none⟩])
 (.keep [2, 3, 4]))
 .ret)
 .skip))
 (.seq
 (.seq (.ops [⟨(some 28), (.mov (.t 0)), none⟩,
 ⟨(some 29), (.call n_spec_l16Lines [(.t 28)]), none⟩,
 ⟨(some 6), (.mov (.t 29)), none⟩])
 (.keep [5, 6]))
 (.seq
 (.seq (.ops [⟨(some 7), (.mov (.c (.int .i64 0))), none⟩])
 (.keep [5, 6, 7]))
 (.seq
 (.seq (.ops [⟨(some 30), (.lit 0 6 y_Deed [(.string ⟨⟨[]⟩⟩), (.bool false), (.int .i64 0), (.slice none 0 0), (.int .i64 0), (.int .i64 0)] []), none⟩,
 ⟨(some 8), (.mov (.t 30)), none⟩])
 (.keep [5, 6, 7, 8]))
 (.seq
 (.seq
 (.seq (.ops [⟨(some 9), (.mov (.c (.int .i64 0))), none⟩])
 (.keep [5, 6, 7, 8, 9]))
 (.block 0
 (.loop
 (.seq
 (.seq
 (.seq (.ops [⟨(some 31), (.mov (.t 9)), none⟩,
 ⟨(some 32), (.mov (.t 6)), none⟩,
 ⟨(some 33), (.ln (.t 32)), none⟩,
 ⟨(some 34), (.bin .lss (.t 31) (.t 33)), none⟩])
 (.keep [5, 6, 7, 8, 9, 34]))
 (.cond (.t 34)
 .skip
 (.exit 0)))
 (.seq
 (.block 1
 (.seq
 (.seq (.ops [⟨(some 38), (.mov (.t 6)), none⟩,
 ⟨(some 39), (.mov (.t 9)), none⟩,
 ⟨(some 40), (.ia 1 (.t 38) (.t 39)), none⟩,
 ⟨(some 41), (.ld 1 false (.t 40)), none⟩,
 ⟨(some 42), (.call n_spec_PartsOf [(.t 41)]), none⟩,
 ⟨(some 37), (.mov (.t 42)), none⟩,
 ⟨(some 43), (.ext 0 (.t 37)), none⟩,
 ⟨(some 44), (.ext 1 (.t 37)), none⟩,
 ⟨(some 10), (.mov (.t 43)), none⟩,
 ⟨(some 11), (.mov (.t 44)), none⟩])
 (.keep [5, 6, 7, 8, 9, 10, 11]))
 (.seq
 (.seq
 (.seq (.ops [⟨(some 45), (.mov (.t 11)), none⟩,
 ⟨(some 46), (.mov (.t 45)), none⟩,
 ⟨(some 47), (.mov (.t 10)), (some (46, true))⟩,
 ⟨(some 48), (.ln (.t 47)), (some (46, true))⟩,
 ⟨(some 49), (.bin .eql (.t 48) (.c (.int .i64 0))), (some (46, true))⟩,
 ⟨(some 50), (.mov (.t 49)), (some (46, true))⟩,
 ⟨(some 51), (.mov (.t 10)), (some (50, false))⟩,
 ⟨(some 52), (.ia 1 (.t 51) (.c (.int .i64 0))), (some (50, false))⟩,
 ⟨(some 53), (.ld 1 false (.t 52)), (some (50, false))⟩,
 ⟨(some 54), (.ix (.t 53) (.c (.int .i64 0))), (some (50, false))⟩,
 ⟨(some 55), (.bin .eql (.t 54) (.c (.int .u8 35))), (some (50, false))⟩,
 ⟨(some 56), (.pick (.t 50) (.c (.bool true)) (.t 55)), (some (46, true))⟩,
 ⟨(some 57), (.pick (.t 46) (.t 56) (.c (.bool false))), none⟩])
 (.keep [5, 6, 7, 8, 9, 10, 11, 57]))
 (.cond (.t 57)
 (.exit 1)
 .skip))
 (.seq
 (.seq
 (.seq (.ops [⟨(some 58), (.mov (.t 11)), none⟩,
 ⟨(some 59), (.un .not (.t 58)), none⟩])
 (.keep [5, 6, 7, 8, 9, 10, 11, 59]))
 (.cond (.t 59)
 (.seq
 (.seq (.ops [⟨(some 60), (.mov (.t 5)), none⟩,
 ⟨(some 61), (.mov (.t 9)), none⟩,
 ⟨(some 62), (.bin .add (.t 61) (.c (.int .i64 1))), none⟩,
 ⟨(some 2), (.mov (.c (.int .i64 0))), none⟩,
 ⟨(some 3), (.mov (.t 60)), none⟩,
 ⟨(some 4), (.mov (.t 62)), none⟩])
 (.keep [2, 3, 4]))
 .ret)
 .skip))
 (.seq
 (.seq
 (.seq (.ops [⟨(some 63), (.mov (.t 7)), none⟩,
 ⟨(some 64), (.bin .eql (.t 63) (.c (.int .i64 0))), none⟩])
 (.keep [5, 6, 7, 8, 9, 10, 11, 64]))
 (.cond (.t 64)
 (.seq
 (.seq (.ops [⟨(some 12), (.mov (.c (.int .i64 0))), none⟩])
 (.keep [5, 6, 8, 9, 10, 11, 12]))
 (.seq
 (.seq
 (.seq (.ops [⟨(some 65), (.mov (.t 10)), none⟩,
 ⟨(some 66), (.ln (.t 65)), none⟩,
 ⟨(some 67), (.bin .eql (.t 66) (.c (.int .i64 2))), none⟩,
 ⟨(some 68), (.mov (.t 67)), none⟩,
 ⟨(some 69), (.mov (.t 10)), (some (68, true))⟩,
 ⟨(some 70), (.ia 1 (.t 69) (.c (.int .i64 0))), (some (68, true))⟩,
 ⟨(some 71), (.ld 1 false (.t 70)), (some (68, true))⟩,
 ⟨(some 72), (.bin .eql (.t 71) (.c (.string ⟨⟨[104, 97, 108, 108]⟩⟩))), (some (68, true))⟩,
 ⟨(some 73), (.pick (.t 68) (.t 72) (.c (.bool false))), none⟩])
 (.keep [5, 6, 8, 9, 10, 11, 12, 73]))
 (.cond (.t 73)
 (.seq (.ops [⟨(some 75), (.mov (.t 10)), none⟩,
 ⟨(some 76), (.ia 1 (.t 75) (.c (.int .i64 1))), none⟩,
 ⟨(some 77), (.ld 1 false (.t 76)), none⟩,
 ⟨(some 78), (.call n_spec_ReadDecimal [(.t 77)]), none⟩,
 ⟨(some 74), (.mov (.t 78)), none⟩,
 ⟨(some 79), (.ext 0 (.t 74)), none⟩,
 ⟨(some 80), (.ext 1 (.t 74)), none⟩,
 ⟨(some 12), (.mov (.t 79)), none⟩,
 ⟨(some 11), (.mov (.t 80)), none⟩])
 (.keep [5, 6, 8, 9, 11, 12]))
 .skip))
 (.seq
 (.seq (.ops [⟨(some 82), (.mov (.t 12)), none⟩,
 ⟨(some 83), (.call n_spec_FormatStore [(.t 82)]), none⟩,
 ⟨(some 81), (.mov (.t 83)), none⟩,
 ⟨(some 84), (.ext 0 (.t 81)), none⟩,
 ⟨(some 85), (.ext 1 (.t 81)), none⟩,
 ⟨(some 13), (.newL [(.slice none 0 0), (.slice none 0 0), (.slice none 0 0), (.int .i64 0), (.int .i64 0)]), none⟩,
 ⟨none, (.stB 5 13 (.t 84)), none⟩,
 ⟨(some 14), (.mov (.t 85)), none⟩])
 (.keep [5, 6, 8, 9, 11, 12, 14]))
 (.seq
 (.seq
 (.seq (.ops [⟨(some 86), (.mov (.t 11)), none⟩,
 ⟨(some 87), (.un .not (.t 86)), none⟩,
 ⟨(some 88), (.mov (.t 87)), none⟩,
 ⟨(some 89), (.mov (.t 14)), (some (88, false))⟩,
 ⟨(some 90), (.un .not (.t 89)), (some (88, false))⟩,
 ⟨(some 91), (.pick (.t 88) (.c (.bool true)) (.t 90)), none⟩])
 (.keep [5, 6, 8, 9, 12, 91]))
 (.cond (.t 91)
 (.seq
 (.seq (.ops [⟨(some 92), (.mov (.t 5)), none⟩,
 ⟨(some 93), (.mov (.t 9)), none⟩,
 ⟨(some 94), (.bin .add (.t 93) (.c (.int .i64 1))), none⟩,
 ⟨(some 2), (.mov (.c (.int .i64 0))), none⟩,
 ⟨(some 3), (.mov (.t 92)), none⟩,
 ⟨(some 4), (.mov (.t 94)), none⟩])
 (.keep [2, 3, 4]))
 .ret)
 .skip))
 (.seq
 (.seq (.ops [⟨(some 95), (.mov (.t 12)), none⟩,
 ⟨(some 7), (.mov (.t 95)), none⟩])
 (.keep [5, 6, 7, 8, 9]))
 (.exit 1))))))
 .skip))
 (.seq
 (.seq (.ops [⟨(some 97), (.mov (.t 10)), none⟩,
 ⟨(some 98), (.call n_spec_l16Deed [(.t 97)]), none⟩,
 ⟨(some 96), (.mov (.t 98)), none⟩,
 ⟨(some 99), (.ext 0 (.t 96)), none⟩,
 ⟨(some 100), (.ext 1 (.t 96)), none⟩,
 ⟨(some 15), (.newL [(.string ⟨⟨[]⟩⟩), (.bool false), (.int .i64 0), (.slice none 0 0), (.int .i64 0), (.int .i64 0)]), none⟩,
 ⟨none, (.stB 6 15 (.t 99)), none⟩,
 ⟨(some 16), (.mov (.t 100)), none⟩])
 (.keep [5, 6, 7, 8, 9, 15, 16]))
 (.seq
 (.seq
 (.seq (.ops [⟨(some 101), (.mov (.t 16)), none⟩,
 ⟨(some 102), (.un .not (.t 101)), none⟩,
 ⟨(some 103), (.mov (.t 102)), none⟩,
 ⟨(some 104), (.mov (.t 8)), (some (103, false))⟩,
 ⟨(some 105), (.ln (.t 104)), (some (103, false))⟩,
 ⟨(some 106), (.bin .eql (.t 105) (.c (.int .i64 40))), (some (103, false))⟩,
 ⟨(some 107), (.pick (.t 103) (.c (.bool true)) (.t 106)), none⟩])
 (.keep [5, 6, 7, 8, 9, 15, 107]))
 (.cond (.t 107)
 (.seq
 (.seq (.ops [⟨(some 108), (.mov (.t 5)), none⟩,
 ⟨(some 109), (.mov (.t 9)), none⟩,
 ⟨(some 110), (.bin .add (.t 109) (.c (.int .i64 1))), none⟩,
 ⟨(some 2), (.mov (.c (.int .i64 0))), none⟩,
 ⟨(some 3), (.mov (.t 108)), none⟩,
 ⟨(some 4), (.mov (.t 110)), none⟩])
 (.keep [2, 3, 4]))
 .ret)
 .skip))
 (.seq (.ops [⟨(some 111), (.mov (.t 8)), none⟩,
 ⟨(some 112), (.ldB 6 true 15), none⟩,
 ⟨(some 113), (.litL 1 6 [(.string ⟨⟨[]⟩⟩), (.bool false), (.int .i64 0), (.slice none 0 0), (.int .i64 0), (.int .i64 0)] [(0, (.t 112))]), none⟩,
 ⟨(some 114), (.appL 6 y_Deed 72 1 (.t 111) 113), none⟩,
 ⟨(some 8), (.mov (.t 114)), none⟩])
 (.keep [5, 6, 7, 8, 9])))))))))
 (.seq (.ops [⟨(some 35), (.mov (.t 9)), none⟩,
 ⟨(some 36), (.bin .add (.t 35) (.c (.int .i64 1))), none⟩,
 ⟨(some 9), (.mov (.t 36)), none⟩])
 (.keep [5, 6, 7, 8, 9])))))))
 (.seq
 (.seq
 (.seq (.ops [⟨(some 115), (.mov (.t 7)), none⟩,
 ⟨(some 116), (.bin .eql (.t 115) (.c (.int .i64 0))), none⟩])
 (.keep [5, 7, 8, 116]))
 (.cond (.t 116)
 (.seq
 (.seq (.ops [⟨(some 117), (.mov (.t 5)), none⟩,
 ⟨(some 2), (.mov (.c (.int .i64 0))), none⟩,
 ⟨(some 3), (.mov (.t 117)), none⟩,
 ⟨(some 4), (.mov (.c (.int .i64 1))), none⟩])
 (.keep [2, 3, 4]))
 .ret)
 .skip))
 (.seq
 (.seq (.ops [⟨(some 118), (.mov (.t 7)), none⟩,
 ⟨(some 119), (.mov (.t 8)), none⟩,
 ⟨(some 2), (.mov (.t 118)), none⟩,
 ⟨(some 3), (.mov (.t 119)), none⟩,
 ⟨(some 4), (.mov (.c (.int .i64 0))), none⟩])
 (.keep [2, 3, 4]))
 .ret))))))))),
 [(.slot 2), (.slot 3), (.slot 4)]⟩
/-- impl ReadScript -/
def F_impl_ReadScript : Fun := ⟨1,
 (.seq
 (.seq (.ops [⟨(some 2), (.mov (.c (.int .i64 0))), none⟩,
 ⟨(some 3), (.mov (.c (.slice none 0 0))), none⟩,
 ⟨(some 4), (.mov (.c (.int .i64 0))), none⟩])
 (.keep [0]))
 (.seq
 (.seq (.ops [⟨(some 16), (.mov (.t 0)), none⟩,
 ⟨(some 17), (.call n_impl_linesOf [(.t 16)]), none⟩,
 ⟨(some 5), (.mov (.t 17)), none⟩])
 (.keep [0, 5]))
 (.seq
 (.seq
 (.seq (.ops [⟨(some 18), (.mov (.t 0)), none⟩,
 ⟨(some 19), (.lnS (.t 18)), none⟩,
 ⟨(some 20), (.bin .gtr (.t 19) (.c (.int .i64 6000))), none⟩,
 ⟨(some 21), (.mov (.t 20)), none⟩,
 ⟨(some 22), (.mov (.t 5)), (some (21, false))⟩,
 ⟨(some 23), (.ln (.t 22)), (some (21, false))⟩,
 ⟨(some 24), (.bin .gtr (.t 23) (.c (.int .i64 60))), (some (21, false))⟩,
 ⟨(some 25), (.pick (.t 21) (.c (.bool true)) (.t 24)), none⟩])
 (.keep [5, 25]))
 (.cond (.t 25)
 (.seq
 (.seq (.ops [⟨(some 2), (.mov (.c (.int .i64 0))), none⟩,
 ⟨(some 3), (.mov (.c (.slice none 0 0))), none⟩,
 ⟨(some 4), (.mov (.c (.int .i64 (-1)))), none⟩])
 (.keep [2, 3, 4]))
 .ret)
 .skip))
 (.seq
 (.seq (.ops [⟨(some 6), (.mov (.c (.int .i64 0))), none⟩])
 (.keep [5, 6]))
 (.seq
 (.seq (.ops [⟨(some 7), (.mov (.c (.slice none 0 0))), none⟩])
 (.keep [5, 6, 7]))
 (.seq
 (.seq
 (.seq (.ops [⟨(some 26), (.mov (.t 5)), none⟩,
 ⟨(some 27), (.ln (.t 26)), none⟩,
 ⟨(some 28), (.mov (.c (.int .i64 0))), none⟩])
 (.keep [6, 7, 26, 27, 28]))
 (.block 0
 (.loop
 (.seq
 (.seq (.ops [⟨(some 29), (.bin .lss (.t 28) (.t 27)), none⟩])
 (.keep [6, 7, 26, 27, 28, 29]))
 (.seq
 (.cond (.t 29)
 .skip
 (.exit 0))
 (.seq
 (.block 1
 (.seq
 (.seq (.ops [⟨(some 30), (.mov (.t 28)), none⟩,
 ⟨(some 31), (.ia 1 (.t 26) (.t 28)), none⟩,
 ⟨(some 32), (.ld 1 false (.t 31)), none⟩,
 ⟨(some 8), (.mov (.t 30)), none⟩,
 ⟨(some 9), (.mov (.t 32)), none⟩])
 (.keep [6, 7, 8, 9, 26, 27, 28]))
 (.seq
 (.seq (.ops [⟨(some 34), (.mov (.t 9)), none⟩,
 ⟨(some 35), (.call n_impl_PartsOf [(.t 34)]), none⟩,
 ⟨(some 33), (.mov (.t 35)), none⟩,
 ⟨(some 36), (.ext 0 (.t 33)), none⟩,
 ⟨(some 37), (.ext 1 (.t 33)), none⟩,
 ⟨(some 10), (.mov (.t 36)), none⟩,
 ⟨(some 11), (.mov (.t 37)), none⟩])
 (.keep [6, 7, 8, 10, 11, 26, 27, 28]))
 (.seq
 (.seq
 (.seq (.ops [⟨(some 38), (.mov (.t 11)), none⟩,
 ⟨(some 39), (.mov (.t 38)), none⟩,
 ⟨(some 40), (.mov (.t 10)), (some (39, true))⟩,
 ⟨(some 41), (.ln (.t 40)), (some (39, true))⟩,
 ⟨(some 42), (.bin .eql (.t 41) (.c (.int .i64 0))), (some (39, true))⟩,
 ⟨(some 43), (.mov (.t 42)), (some (39, true))⟩,
 ⟨(some 44), (.mov (.t 10)), (some (43, false))⟩,
 ⟨(some 45), (.ia 1 (.t 44) (.c (.int .i64 0))), (some (43, false))⟩,
 ⟨(some 46), (.ld 1 false (.t 45)), (some (43, false))⟩,
 ⟨(some 47), (.ix (.t 46) (.c (.int .i64 0))), (some (43, false))⟩,
 ⟨(some 48), (.bin .eql (.t 47) (.c (.int .u8 35))), (some (43, false))⟩,
 ⟨(some 49), (.pick (.t 43) (.c (.bool true)) (.t 48)), (some (39, true))⟩,
 ⟨(some 50), (.pick (.t 39) (.t 49) (.c (.bool false))), none⟩])
 (.keep [6, 7, 8, 10, 11, 26, 27, 28, 50]))
 (.cond (.t 50)
 (.exit 1)
 .skip))
 (.seq
 (.seq
 (.seq (.ops [⟨(some 51), (.mov (.t 11)), none⟩,
 ⟨(some 52), (.un .not (.t 51)), none⟩])
 (.keep [6, 7, 8, 10, 26, 27, 28, 52]))
 (.cond (.t 52)
 (.seq
 (.seq (.ops [⟨(some 53), (.mov (.t 8)), none⟩,
 ⟨(some 54), (.bin .add (.t 53) (.c (.int .i64 1))), none⟩,
 ⟨(some 2), (.mov (.c (.int .i64 0))), none⟩,
 ⟨(some 3), (.mov (.c (.slice none 0 0))), none⟩,
 ⟨(some 4), (.mov (.t 54)), none⟩])
 (.keep [2, 3, 4]))
 .ret)
 .skip))
 (.seq
 (.seq
 (.seq (.ops [⟨(some 55), (.mov (.t 6)), none⟩,
 ⟨(some 56), (.bin .eql (.t 55) (.c (.int .i64 0))), none⟩])
 (.keep [6, 7, 8, 10, 26, 27, 28, 56]))
 (.cond (.t 56)
 (.seq
 (.seq (.ops [⟨(some 58), (.mov (.t 10)), none⟩,
 ⟨(some 59), (.call n_impl_hall [(.t 58)]), none⟩,
 ⟨(some 57), (.mov (.t 59)), none⟩,
 ⟨(some 60), (.ext 0 (.t 57)), none⟩,
 ⟨(some 61), (.ext 1 (.t 57)), none⟩,
 ⟨(some 12), (.mov (.t 60)), none⟩,
 ⟨(some 13), (.mov (.t 61)), none⟩])
 (.keep [7, 8, 12, 13, 26, 27, 28]))
 (.seq
 (.seq
 (.seq (.ops [⟨(some 62), (.mov (.t 13)), none⟩,
 ⟨(some 63), (.un .not (.t 62)), none⟩])
 (.keep [7, 8, 12, 26, 27, 28, 63]))
 (.cond (.t 63)
 (.seq
 (.seq (.ops [⟨(some 64), (.mov (.t 8)), none⟩,
 ⟨(some 65), (.bin .add (.t 64) (.c (.int .i64 1))), none⟩,
 ⟨(some 2), (.mov (.c (.int .i64 0))), none⟩,
 ⟨(some 3), (.mov (.c (.slice none 0 0))), none⟩,
 ⟨(some 4), (.mov (.t 65)), none⟩])
 (.keep [2, 3, 4]))
 .ret)
 .skip))
 (.seq
 (.seq (.ops [⟨(some 66), (.mov (.t 12)), none⟩,
 ⟨(some 6), (.mov (.t 66)), none⟩])
 (.keep [6, 7, 26, 27, 28]))
 (.exit 1))))
 .skip))
 (.seq
 (.seq (.ops [⟨(some 68), (.mov (.t 10)), none⟩,
 ⟨(some 69), (.call n_impl_deed [(.t 68)]), none⟩,
 ⟨(some 67), (.mov (.t 69)), none⟩,
 ⟨(some 70), (.ext 0 (.t 67)), none⟩,
 ⟨(some 71), (.ext 1 (.t 67)), none⟩,
 ⟨(some 14), (.newL [(.string ⟨⟨[]⟩⟩), (.bool false), (.int .i64 0), (.slice none 0 0), (.int .i64 0), (.int .i64 0)]), none⟩,
 ⟨none, (.stB 6 14 (.t 70)), none⟩,
 ⟨(some 15), (.mov (.t 71)), none⟩])
 (.keep [6, 7, 8, 14, 15, 26, 27, 28]))
 (.seq
 (.seq
 (.seq (.ops [⟨(some 72), (.mov (.t 15)), none⟩,
 ⟨(some 73), (.un .not (.t 72)), none⟩,
 ⟨(some 74), (.mov (.t 73)), none⟩,
 ⟨(some 75), (.mov (.t 7)), (some (74, false))⟩,
 ⟨(some 76), (.ln (.t 75)), (some (74, false))⟩,
 ⟨(some 77), (.bin .geq (.t 76) (.c (.int .i64 40))), (some (74, false))⟩,
 ⟨(some 78), (.pick (.t 74) (.c (.bool true)) (.t 77)), none⟩])
 (.keep [6, 7, 8, 14, 26, 27, 28, 78]))
 (.cond (.t 78)
 (.seq
 (.seq (.ops [⟨(some 79), (.mov (.t 8)), none⟩,
 ⟨(some 80), (.bin .add (.t 79) (.c (.int .i64 1))), none⟩,
 ⟨(some 2), (.mov (.c (.int .i64 0))), none⟩,
 ⟨(some 3), (.mov (.c (.slice none 0 0))), none⟩,
 ⟨(some 4), (.mov (.t 80)), none⟩])
 (.keep [2, 3, 4]))
 .ret)
 .skip))
 (.seq (.ops [⟨(some 81), (.mov (.t 7)), none⟩,
 ⟨(some 82), (.ldB 6 true 14), none⟩,
 ⟨(some 83), (.litL 1 6 [(.string ⟨⟨[]⟩⟩), (.bool false), (.int .i64 0), (.slice none 0 0), (.int .i64 0), (.int .i64 0)] [(0, (.t 82))]), none⟩,
 ⟨(some 84), (.appL 6 y_Deed 72 1 (.t 81) 83), none⟩,
 ⟨(some 7), (.mov (.t 84)), none⟩])
 (.keep [6, 7, 26, 27, 28]))))))))))
 (.seq (.ops [⟨(some 85), (.bin .add (.t 28) (.c (.int .i64 1))), none⟩,
 ⟨(some 28), (.mov (.t 85)), none⟩])
 (.keep [6, 7, 26, 27, 28]))))))))
 (.seq
 (.seq
 (.seq (.ops [⟨(some 86), (.mov (.t 6)), none⟩,
 ⟨(some 87), (.bin .eql (.t 86) (.c (.int .i64 0))), none⟩])
 (.keep [6, 7, 87]))
 (.cond (.t 87)
 (.seq
 (.seq (.ops [⟨(some 2), (.mov (.c (.int .i64 0))), none⟩,
 ⟨(some 3), (.mov (.c (.slice none 0 0))), none⟩,
 ⟨(some 4), (.mov (.c (.int .i64 1))), none⟩])
 (.keep [2, 3, 4]))
 .ret)
 .skip))
 (.seq
 (.seq (.ops [⟨(some 88), (.mov (.t 6)), none⟩,
 ⟨(some 89), (.mov (.t 7)), none⟩,
 ⟨(some 2), (.mov (.t 88)), none⟩,
 ⟨(some 3), (.mov (.t 89)), none⟩,
 ⟨(some 4), (.mov (.c (.int .i64 0))), none⟩])
 (.keep [2, 3, 4]))
 .ret)))))))),
 [(.slot 2), (.slot 3), (.slot 4)]⟩
/-- laws eqDeedS -/
def F_laws_eqDeedS : Fun := ⟨2,
 (.seq
 (.seq (.ops [⟨(some 4), (.mov (.c (.bool false))), none⟩])
 (.keep [0, 1]))
 (.seq
 (.seq
 (.seq (.ops [⟨(some 6), (.mov (.t 0)), none⟩,
 ⟨(some 7), (.ln (.t 6)), none⟩,
 ⟨(some 8), (.mov (.t 1)), none⟩,
 ⟨(some 9), (.ln (.t 8)), none⟩,
 ⟨(some 10), (.bin .neq (.t 7) (.t 9)), none⟩])
 (.keep [0, 1, 10]))
 (.cond (.t 10)
 (.seq
 (.seq (.ops [⟨(some 4), (.mov (.c (.bool false))), none⟩])
 (.keep [4]))
 .ret)
 .skip))
 (.seq
 (.seq
 (.seq (.ops [⟨(some 5), (.mov (.c (.int .i64 0))), none⟩])
 (.keep [0, 1, 5]))
 (.block 0
 (.loop
 (.seq
 (.seq
 (.seq (.ops [⟨(some 11), (.mov (.t 5)), none⟩,
 ⟨(some 12), (.mov (.t 0)), none⟩,
 ⟨(some 13), (.ln (.t 12)), none⟩,
 ⟨(some 14), (.bin .lss (.t 11) (.t 13)), none⟩])
 (.keep [0, 1, 5, 14]))
 (.cond (.t 14)
 .skip
 (.exit 0)))
 (.seq
 (.block 1
 (.seq
 (.seq (.free true [⟨(some 17), (.mov (.t 0)), none⟩,
 ⟨(some 18), (.mov (.t 5)), none⟩,
 ⟨(some 19), (.ia 6 (.t 17) (.t 18)), none⟩,
 ⟨(some 20), (.ld 6 true (.t 19)), none⟩,
 ⟨(some 21), (.mov (.t 1)), none⟩,
 ⟨(some 22), (.mov (.t 5)), none⟩,
 ⟨(some 23), (.ia 6 (.t 21) (.t 22)), none⟩,
 ⟨(some 24), (.ld 6 true (.t 23)), none⟩,
 ⟨(some 25), (.call n_laws_eqDeed [(.t 20), (.t 24)]), none⟩,
 ⟨(some 26), (.un .not (.t 25)), none⟩])
 (.keep [0, 1, 5, 26]))
 (.cond (.t 26)
 (.seq
 (.seq (.ops [⟨(some 4), (.mov (.c (.bool false))), none⟩])
 (.keep [4]))
 .ret)
 .skip)))
 (.seq (.ops [⟨(some 15), (.mov (.t 5)), none⟩,
 ⟨(some 16), (.bin .add (.t 15) (.c (.int .i64 1))), none⟩,
 ⟨(some 5), (.mov (.t 16)), none⟩])
 (.keep [0, 1, 5])))))))
 (.seq
 (.seq (.ops [⟨(some 4), (.mov (.c (.bool true))), none⟩])
 (.keep [4]))
 .ret)))),
 [(.slot 4)]⟩
/-- laws markDeedS -/
def F_laws_markDeedS : Fun := ⟨2,
 (.seq
 (.seq (.ops [⟨(some 4), (.mov (.c (.int .i64 0))), none⟩])
 (.keep [0, 1]))
 (.seq
 (.seq
 (.seq (.ops [⟨(some 5), (.mov (.c (.int .i64 0))), none⟩])
 (.keep [0, 1, 5]))
 (.block 0
 (.loop
 (.seq
 (.seq
 (.seq (.ops [⟨(some 6), (.mov (.t 5)), none⟩,
 ⟨(some 7), (.mov (.t 0)), none⟩,
 ⟨(some 8), (.ln (.t 7)), none⟩,
 ⟨(some 9), (.bin .lss (.t 6) (.t 8)), none⟩])
 (.keep [0, 1, 5, 9]))
 (.cond (.t 9)
 .skip
 (.exit 0)))
 (.seq
 (.block 1
 (.seq
 (.seq (.ops [⟨(some 12), (.mov (.t 0)), none⟩,
 ⟨(some 13), (.mov (.t 5)), none⟩,
 ⟨(some 14), (.mov (.t 1)), none⟩,
 ⟨(some 15), (.call n_laws_markText [(.t 14)]), none⟩,
 ⟨(some 16), (.ia 6 (.t 12) (.t 13)), none⟩,
 ⟨(some 17), (.fa 0 (.t 16)), none⟩,
 ⟨none, (.st 1 (.t 17) (.t 15)), none⟩])
 (.keep [0, 1, 5]))
 (.seq
 (.seq (.ops [⟨(some 18), (.mov (.t 1)), none⟩,
 ⟨(some 19), (.bin .add (.t 18) (.c (.int .i64 1))), none⟩,
 ⟨(some 1), (.mov (.t 19)), none⟩])
 (.keep [0, 1, 5]))
 (.seq
 (.seq (.ops [⟨(some 20), (.mov (.t 0)), none⟩,
 ⟨(some 21), (.mov (.t 5)), none⟩,
 ⟨(some 22), (.mov (.t 1)), none⟩,
 ⟨(some 23), (.bin .rem (.t 22) (.c (.int .i64 3))), none⟩,
 ⟨(some 24), (.bin .eql (.t 23) (.c (.int .i64 0))), none⟩,
 ⟨(some 25), (.ia 6 (.t 20) (.t 21)), none⟩,
 ⟨(some 26), (.fa 1 (.t 25)), none⟩,
 ⟨none, (.st 1 (.t 26) (.t 24)), none⟩])
 (.keep [0, 1, 5]))
 (.seq
 (.seq (.ops [⟨(some 27), (.mov (.t 1)), none⟩,
 ⟨(some 28), (.bin .add (.t 27) (.c (.int .i64 1))), none⟩,
 ⟨(some 1), (.mov (.t 28)), none⟩])
 (.keep [0, 1, 5]))
 (.seq
 (.seq (.ops [⟨(some 29), (.mov (.t 0)), none⟩,
 ⟨(some 30), (.mov (.t 5)), none⟩,
 ⟨(some 31), (.mov (.t 1)), none⟩,
 ⟨(some 32), (.ia 6 (.t 29) (.t 30)), none⟩,
 ⟨(some 33), (.fa 2 (.t 32)), none⟩,
 ⟨none, (.st 1 (.t 33) (.t 31)), none⟩])
 (.keep [0, 1, 5]))
 (.seq
 (.seq (.ops [⟨(some 34), (.mov (.t 1)), none⟩,
 ⟨(some 35), (.bin .add (.t 34) (.c (.int .i64 1))), none⟩,
 ⟨(some 1), (.mov (.t 35)), none⟩])
 (.keep [0, 1, 5]))
 (.seq
 (.seq (.ops [⟨(some 36), (.mov (.t 0)), none⟩,
 ⟨(some 37), (.mov (.t 5)), none⟩,
 ⟨(some 38), (.ia 6 (.t 36) (.t 37)), none⟩,
 ⟨(some 39), (.fa 3 (.t 38)), none⟩,
 ⟨(some 40), (.ld 1 false (.t 39)), none⟩,
 ⟨(some 41), (.mov (.t 1)), none⟩,
 ⟨(some 42), (.call n_laws_markIntS [(.t 40), (.t 41)]), none⟩,
 ⟨(some 1), (.mov (.t 42)), none⟩])
 (.keep [0, 1, 5]))
 (.seq
 (.seq (.ops [⟨(some 43), (.mov (.t 0)), none⟩,
 ⟨(some 44), (.mov (.t 5)), none⟩,
 ⟨(some 45), (.mov (.t 1)), none⟩,
 ⟨(some 46), (.ia 6 (.t 43) (.t 44)), none⟩,
 ⟨(some 47), (.fa 4 (.t 46)), none⟩,
 ⟨none, (.st 1 (.t 47) (.t 45)), none⟩])
 (.keep [0, 1, 5]))
 (.seq
 (.seq (.ops [⟨(some 48), (.mov (.t 1)), none⟩,
 ⟨(some 49), (.bin .add (.t 48) (.c (.int .i64 1))), none⟩,
 ⟨(some 1), (.mov (.t 49)), none⟩])
 (.keep [0, 1, 5]))
 (.seq
 (.seq (.ops [⟨(some 50), (.mov (.t 0)), none⟩,
 ⟨(some 51), (.mov (.t 5)), none⟩,
 ⟨(some 52), (.mov (.t 1)), none⟩,
 ⟨(some 53), (.ia 6 (.t 50) (.t 51)), none⟩,
 ⟨(some 54), (.fa 5 (.t 53)), none⟩,
 ⟨none, (.st 1 (.t 54) (.t 52)), none⟩])
 (.keep [0, 1, 5]))
 (.seq (.ops [⟨(some 55), (.mov (.t 1)), none⟩,
 ⟨(some 56), (.bin .add (.t 55) (.c (.int .i64 1))), none⟩,
 ⟨(some 1), (.mov (.t 56)), none⟩])
 (.keep [0, 1, 5])))))))))))))
 (.seq (.ops [⟨(some 10), (.mov (.t 5)), none⟩,
 ⟨(some 11), (.bin .add (.t 10) (.c (.int .i64 1))), none⟩,
 ⟨(some 5), (.mov (.t 11)), none⟩])
 (.keep [0, 1, 5])))))))
 (.seq
 (.seq (.ops [⟨(some 57), (.mov (.t 1)), none⟩,
 ⟨(some 4), (.mov (.t 57)), none⟩])
 (.keep [4]))
 .ret))),
 [(.slot 4)]⟩
/-- laws heldDeedS -/
def F_laws_heldDeedS : Fun := ⟨2,
 (.seq
 (.seq (.ops [⟨(some 4), (.mov (.c (.int .i64 0))), none⟩])
 (.keep [0, 1]))
 (.seq
 (.seq
 (.seq (.ops [⟨(some 5), (.mov (.c (.int .i64 0))), none⟩])
 (.keep [0, 1, 5]))
 (.block 0
 (.loop
 (.seq
 (.seq
 (.seq (.ops [⟨(some 6), (.mov (.t 5)), none⟩,
 ⟨(some 7), (.mov (.t 0)), none⟩,
 ⟨(some 8), (.ln (.t 7)), none⟩,
 ⟨(some 9), (.bin .lss (.t 6) (.t 8)), none⟩])
 (.keep [0, 1, 5, 9]))
 (.cond (.t 9)
 .skip
 (.exit 0)))
 (.seq
 (.block 1
 (.seq
 (.seq
 (.seq (.free false [⟨(some 12), (.mov (.t 0)), none⟩,
 ⟨(some 13), (.mov (.t 5)), none⟩,
 ⟨(some 14), (.ia 6 (.t 12) (.t 13)), none⟩,
 ⟨(some 15), (.fa 0 (.t 14)), none⟩,
 ⟨(some 16), (.ld 1 false (.t 15)), none⟩,
 ⟨(some 17), (.mov (.t 1)), none⟩,
 ⟨(some 18), (.call n_laws_markText [(.t 17)]), none⟩,
 ⟨(some 19), (.bin .neq (.t 16) (.t 18)), none⟩])
 (.keep [0, 1, 5, 19]))
 (.cond (.t 19)
 (.seq
 (.seq (.ops [⟨(some 4), (.mov (.c (.int .i64 (-1)))), none⟩])
 (.keep [4]))
 .ret)
 .skip))
 (.seq
 (.seq (.ops [⟨(some 20), (.mov (.t 1)), none⟩,
 ⟨(some 21), (.bin .add (.t 20) (.c (.int .i64 1))), none⟩,
 ⟨(some 1), (.mov (.t 21)), none⟩])
 (.keep [0, 1, 5]))
 (.seq
 (.seq
 (.seq (.ops [⟨(some 22), (.mov (.t 0)), none⟩,
 ⟨(some 23), (.mov (.t 5)), none⟩,
 ⟨(some 24), (.ia 6 (.t 22) (.t 23)), none⟩,
 ⟨(some 25), (.fa 1 (.t 24)), none⟩,
 ⟨(some 26), (.ld 1 false (.t 25)), none⟩,
 ⟨(some 27), (.mov (.t 1)), none⟩,
 ⟨(some 28), (.bin .rem (.t 27) (.c (.int .i64 3))), none⟩,
 ⟨(some 29), (.bin .eql (.t 28) (.c (.int .i64 0))), none⟩,
 ⟨(some 30), (.binB .neq (.t 26) (.t 29)), none⟩])
 (.keep [0, 1, 5, 30]))
 (.cond (.t 30)
 (.seq
 (.seq (.ops [⟨(some 4), (.mov (.c (.int .i64 (-1)))), none⟩])
 (.keep [4]))
 .ret)
 .skip))
 (.seq
 (.seq (.ops [⟨(some 31), (.mov (.t 1)), none⟩,
 ⟨(some 32), (.bin .add (.t 31) (.c (.int .i64 1))), none⟩,
 ⟨(some 1), (.mov (.t 32)), none⟩])
 (.keep [0, 1, 5]))
 (.seq
 (.seq
 (.seq (.ops [⟨(some 33), (.mov (.t 0)), none⟩,
 ⟨(some 34), (.mov (.t 5)), none⟩,
 ⟨(some 35), (.ia 6 (.t 33) (.t 34)), none⟩,
 ⟨(some 36), (.fa 2 (.t 35)), none⟩,
 ⟨(some 37), (.ld 1 false (.t 36)), none⟩,
 ⟨(some 38), (.mov (.t 1)), none⟩,
 ⟨(some 39), (.bin .neq (.t 37) (.t 38)), none⟩])
 (.keep [0, 1, 5, 39]))
 (.cond (.t 39)
 (.seq
 (.seq (.ops [⟨(some 4), (.mov (.c (.int .i64 (-1)))), none⟩])
 (.keep [4]))
 .ret)
 .skip))
 (.seq
 (.seq (.ops [⟨(some 40), (.mov (.t 1)), none⟩,
 ⟨(some 41), (.bin .add (.t 40) (.c (.int .i64 1))), none⟩,
 ⟨(some 1), (.mov (.t 41)), none⟩])
 (.keep [0, 1, 5]))
 (.seq
 (.seq (.ops [⟨(some 42), (.mov (.t 0)), none⟩,
 ⟨(some 43), (.mov (.t 5)), none⟩,
 ⟨(some 44), (.ia 6 (.t 42) (.t 43)), none⟩,
 ⟨(some 45), (.fa 3 (.t 44)), none⟩,
 ⟨(some 46), (.ld 1 false (.t 45)), none⟩,
 ⟨(some 47), (.mov (.t 1)), none⟩,
 ⟨(some 48), (.call n_laws_heldIntS [(.t 46), (.t 47)]), none⟩,
 ⟨(some 1), (.mov (.t 48)), none⟩])
 (.keep [0, 1, 5]))
 (.seq
 (.seq
 (.seq (.ops [⟨(some 49), (.mov (.t 1)), none⟩,
 ⟨(some 50), (.bin .lss (.t 49) (.c (.int .i64 0))), none⟩])
 (.keep [0, 1, 5, 50]))
 (.cond (.t 50)
 (.seq
 (.seq (.ops [⟨(some 4), (.mov (.c (.int .i64 (-1)))), none⟩])
 (.keep [4]))
 .ret)
 .skip))
 (.seq
 (.seq
 (.seq (.ops [⟨(some 51), (.mov (.t 0)), none⟩,
 ⟨(some 52), (.mov (.t 5)), none⟩,
 ⟨(some 53), (.ia 6 (.t 51) (.t 52)), none⟩,
 ⟨(some 54), (.fa 4 (.t 53)), none⟩,
 ⟨(some 55), (.ld 1 false (.t 54)), none⟩,
 ⟨(some 56), (.mov (.t 1)), none⟩,
 ⟨(some 57), (.bin .neq (.t 55) (.t 56)), none⟩])
 (.keep [0, 1, 5, 57]))
 (.cond (.t 57)
 (.seq
 (.seq (.ops [⟨(some 4), (.mov (.c (.int .i64 (-1)))), none⟩])
 (.keep [4]))
 .ret)
 .skip))
 (.seq
 (.seq (.ops [⟨(some 58), (.mov (.t 1)), none⟩,
 ⟨(some 59), (.bin .add (.t 58) (.c (.int .i64 1))), none⟩,
 ⟨(some 1), (.mov (.t 59)), none⟩])
 (.keep [0, 1, 5]))
 (.seq
 (.seq
 (.seq (.ops [⟨(some 60), (.mov (.t 0)), none⟩,
 ⟨(some 61), (.mov (.t 5)), none⟩,
 ⟨(some 62), (.ia 6 (.t 60) (.t 61)), none⟩,
 ⟨(some 63), (.fa 5 (.t 62)), none⟩,
 ⟨(some 64), (.ld 1 false (.t 63)), none⟩,
 ⟨(some 65), (.mov (.t 1)), none⟩,
 ⟨(some 66), (.bin .neq (.t 64) (.t 65)), none⟩])
 (.keep [0, 1, 5, 66]))
 (.cond (.t 66)
 (.seq
 (.seq (.ops [⟨(some 4), (.mov (.c (.int .i64 (-1)))), none⟩])
 (.keep [4]))
 .ret)
 .skip))
 (.seq (.ops [⟨(some 67), (.mov (.t 1)), none⟩,
 ⟨(some 68), (.bin .add (.t 67) (.c (.int .i64 1))), none⟩,
 ⟨(some 1), (.mov (.t 68)), none⟩])
 (.keep [0, 1, 5]))))))))))))))
 (.seq (.ops [⟨(some 10), (.mov (.t 5)), none⟩,
 ⟨(some 11), (.bin .add (.t 10) (.c (.int .i64 1))), none⟩,
 ⟨(some 5), (.mov (.t 11)), none⟩])
 (.keep [0, 1, 5])))))))
 (.seq
 (.seq (.ops [⟨(some 69), (.mov (.t 1)), none⟩,
 ⟨(some 4), (.mov (.t 69)), none⟩])
 (.keep [4]))
 .ret))),
 [(.slot 4)]⟩
/-- spec l16Lines -/
def F_spec_l16Lines : Fun := ⟨1,
 (.seq
 (.seq (.ops [⟨(some 2), (.mov (.c (.slice none 0 0))), none⟩])
 (.keep [0]))
 (.seq
 (.seq (.ops [⟨(some 6), (.lit 0 1 y_string [(.string ⟨⟨[]⟩⟩)] []), none⟩,
 ⟨(some 3), (.mov (.t 6)), none⟩])
 (.keep [0, 3]))
 (.seq
 (.seq (.ops [⟨(some 4), (.mov (.c (.int .i64 0))), none⟩])
 (.keep [0, 3, 4]))
 (.seq
 (.seq
 (.seq (.ops [⟨(some 5), (.mov (.c (.int .i64 0))), none⟩])
 (.keep [0, 3, 4, 5]))
 (.block 0
 (.loop
 (.seq
 (.seq
 (.seq (.ops [⟨(some 7), (.mov (.t 5)), none⟩,
 ⟨(some 8), (.mov (.t 0)), none⟩,
 ⟨(some 9), (.lnS (.t 8)), none⟩,
 ⟨(some 10), (.bin .lss (.t 7) (.t 9)), none⟩])
 (.keep [0, 3, 4, 5, 10]))
 (.cond (.t 10)
 .skip
 (.exit 0)))
 (.seq
 (.block 1
 (.seq
 (.seq (.ops [⟨(some 13), (.mov (.t 0)), none⟩,
 ⟨(some 14), (.mov (.t 5)), none⟩,
 ⟨(some 15), (.ix (.t 13) (.t 14)), none⟩,
 ⟨(some 16), (.bin .eql (.t 15) (.c (.int .u8 10))), none⟩])
 (.keep [0, 3, 4, 5, 16]))
 (.cond (.t 16)
 (.seq
 (.seq (.ops [⟨(some 17), (.mov (.t 3)), none⟩,
 ⟨(some 18), (.mov (.t 0)), none⟩,
 ⟨(some 19), (.mov (.t 4)), none⟩,
 ⟨(some 20), (.mov (.t 5)), none⟩,
 ⟨(some 21), (.slS (.t 18) (some (.t 19)) (some (.t 20))), none⟩,
 ⟨(some 22), (.litL 1 1 [(.string ⟨⟨[]⟩⟩)] [(0, (.t 21))]), none⟩,
 ⟨(some 23), (.appL 1 y_string 16 1 (.t 17) 22), none⟩,
 ⟨(some 3), (.mov (.t 23)), none⟩])
 (.keep [0, 3, 5]))
 (.seq (.ops [⟨(some 24), (.mov (.t 5)), none⟩,
 ⟨(some 25), (.bin .add (.t 24) (.c (.int .i64 1))), none⟩,
 ⟨(some 4), (.mov (.t 25)), none⟩])
 (.keep [0, 3, 4, 5])))
 .skip)))
 (.seq (.ops [⟨(some 11), (.mov (.t 5)), none⟩,
 ⟨(some 12), (.bin .add (.t 11) (.c (.int .i64 1))), none⟩,
 ⟨(some 5), (.mov (.t 12)), none⟩])
 (.keep [0, 3, 4, 5])))))))
 (.seq
 (.seq
 (.seq (.ops [⟨(some 26), (.mov (.t 4)), none⟩,
 ⟨(some 27), (.mov (.t 0)), none⟩,
 ⟨(some 28), (.lnS (.t 27)), none⟩,
 ⟨(some 29), (.bin .lss (.t 26) (.t 28)), none⟩])
 (.keep [0, 3, 4, 29]))
 (.cond (.t 29)
 (.seq (.ops [⟨(some 30), (.mov (.t 3)), none⟩,
 ⟨(some 31), (.mov (.t 0)), none⟩,
 ⟨(some 32), (.mov (.t 4)), none⟩,
 ⟨(some 33), (.slS (.t 31) (some (.t 32)) none), none⟩,
 ⟨(some 34), (.litL 1 1 [(.string ⟨⟨[]⟩⟩)] [(0, (.t 33))]), none⟩,
 ⟨(some 35), (.appL 1 y_string 16 1 (.t 30) 34), none⟩,
 ⟨(some 3), (.mov (.t 35)), none⟩])
 (.keep [3]))
 .skip))
 (.seq
 (.seq (.ops [⟨(some 36), (.mov (.t 3)), none⟩,
 ⟨(some 2), (.mov (.t 36)), none⟩])
 (.keep [2]))
 .ret)))))),
 [(.slot 2)]⟩
/-- spec PartsOf -/
def F_spec_PartsOf : Fun := ⟨1,
 (.seq
 (.seq (.ops [⟨(some 2), (.mov (.c (.slice none 0 0))), none⟩,
 ⟨(some 3), (.mov (.c (.bool false))), none⟩])
 (.keep [0]))
 (.seq
 (.seq (.ops [⟨(some 7), (.lit 0 1 y_string [(.string ⟨⟨[]⟩⟩)] []), none⟩,
 ⟨(some 4), (.mov (.t 7)), none⟩])
 (.keep [0, 4]))
 (.seq
 (.seq
 (.seq (.ops [⟨(some 8), (.mov (.t 0)), none⟩,
 ⟨(some 9), (.lnS (.t 8)), none⟩,
 ⟨(some 10), (.bin .gtr (.t 9) (.c (.int .i64 400))), none⟩])
 (.keep [0, 4, 10]))
 (.cond (.t 10)
 (.seq
 (.seq (.ops [⟨(some 11), (.mov (.t 4)), none⟩,
 ⟨(some 2), (.mov (.t 11)), none⟩,
 ⟨(some 3), (.mov (.c (.bool false))), none⟩])
 (.keep [2, 3]))
 .ret)
 .skip))
 (.seq
 (.seq (.ops [⟨(some 5), (.mov (.c (.int .i64 0))), none⟩])
 (.keep [0, 4, 5]))
 (.seq
 (.seq
 (.seq (.ops [⟨(some 6), (.mov (.c (.int .i64 0))), none⟩])
 (.keep [0, 4, 5, 6]))
 (.block 0
 (.loop
 (.seq
 (.seq
 (.seq (.ops [⟨(some 12), (.mov (.t 6)), none⟩,
 ⟨(some 13), (.mov (.t 0)), none⟩,
 ⟨(some 14), (.lnS (.t 13)), none⟩,
 ⟨(some 15), (.bin .leq (.t 12) (.t 14)), none⟩])
 (.keep [0, 4, 5, 6, 15]))
 (.cond (.t 15)
 .skip
 (.exit 0)))
 (.seq
 (.block 1
 (.seq
 (.seq
 (.seq (.ops [⟨(some 18), (.mov (.t 6)), none⟩,
 ⟨(some 19), (.mov (.t 0)), none⟩,
 ⟨(some 20), (.lnS (.t 19)), none⟩,
 ⟨(some 21), (.bin .lss (.t 18) (.t 20)), none⟩,
 ⟨(some 22), (.mov (.t 21)), none⟩,
 ⟨(some 23), (.mov (.t 0)), (some (22, true))⟩,
 ⟨(some 24), (.mov (.t 6)), (some (22, true))⟩,
 ⟨(some 25), (.ix (.t 23) (.t 24)), (some (22, true))⟩,
 ⟨(some 26), (.bin .lss (.t 25) (.c (.int .u8 32))), (some (22, true))⟩,
 ⟨(some 27), (.mov (.t 26)), (some (22, true))⟩,
 ⟨(some 28), (.mov (.t 0)), (some (27, false))⟩,
 ⟨(some 29), (.mov (.t 6)), (some (27, false))⟩,
 ⟨(some 30), (.ix (.t 28) (.t 29)), (some (27, false))⟩,
 ⟨(some 31), (.bin .gtr (.t 30) (.c (.int .u8 126))), (some (27, false))⟩,
 ⟨(some 32), (.pick (.t 27) (.c (.bool true)) (.t 31)), (some (22, true))⟩,
 ⟨(some 33), (.pick (.t 22) (.t 32) (.c (.bool false))), none⟩])
 (.keep [0, 4, 5, 6, 33]))
 (.cond (.t 33)
 (.seq
 (.seq (.ops [⟨(some 34), (.lit 0 1 y_string [(.string ⟨⟨[]⟩⟩)] []), none⟩,
 ⟨(some 2), (.mov (.t 34)), none⟩,
 ⟨(some 3), (.mov (.c (.bool false))), none⟩])
 (.keep [2, 3]))
 .ret)
 .skip))
 (.seq
 (.seq
 (.seq (.ops [⟨(some 35), (.mov (.t 6)), none⟩,
 ⟨(some 36), (.mov (.t 0)), none⟩,
 ⟨(some 37), (.lnS (.t 36)), none⟩,
 ⟨(some 38), (.bin .lss (.t 35) (.t 37)), none⟩,
 ⟨(some 39), (.mov (.t 38)), none⟩,
 ⟨(some 40), (.mov (.t 0)), (some (39, true))⟩,
 ⟨(some 41), (.mov (.t 6)), (some (39, true))⟩,
 ⟨(some 42), (.ix (.t 40) (.t 41)), (some (39, true))⟩,
 ⟨(some 43), (.bin .neq (.t 42) (.c (.int .u8 32))), (some (39, true))⟩,
 ⟨(some 44), (.pick (.t 39) (.t 43) (.c (.bool false))), none⟩])
 (.keep [0, 4, 5, 6, 44]))
 (.cond (.t 44)
 (.exit 1)
 .skip))
 (.seq
 (.seq
 (.seq (.ops [⟨(some 45), (.mov (.t 5)), none⟩,
 ⟨(some 46), (.mov (.t 6)), none⟩,
 ⟨(some 47), (.bin .lss (.t 45) (.t 46)), none⟩])
 (.keep [0, 4, 5, 6, 47]))
 (.cond (.t 47)
 (.seq (.ops [⟨(some 48), (.mov (.t 4)), none⟩,
 ⟨(some 49), (.mov (.t 0)), none⟩,
 ⟨(some 50), (.mov (.t 5)), none⟩,
 ⟨(some 51), (.mov (.t 6)), none⟩,
 ⟨(some 52), (.slS (.t 49) (some (.t 50)) (some (.t 51))), none⟩,
 ⟨(some 53), (.litL 1 1 [(.string ⟨⟨[]⟩⟩)] [(0, (.t 52))]), none⟩,
 ⟨(some 54), (.appL 1 y_string 16 1 (.t 48) 53), none⟩,
 ⟨(some 4), (.mov (.t 54)), none⟩])
 (.keep [0, 4, 6]))
 .skip))
 (.seq (.ops [⟨(some 55), (.mov (.t 6)), none⟩,
 ⟨(some 56), (.bin .add (.t 55) (.c (.int .i64 1))), none⟩,
 ⟨(some 5), (.mov (.t 56)), none⟩])
 (.keep [0, 4, 5, 6]))))))
 (.seq (.ops [⟨(some 16), (.mov (.t 6)), none⟩,
 ⟨(some 17), (.bin .add (.t 16) (.c (.int .i64 1))), none⟩,
 ⟨(some 6), (.mov (.t 17)), none⟩])
 (.keep [0, 4, 5, 6])))))))
 (.seq
 (.seq
 (.seq (.ops [⟨(some 57), (.mov (.t 4)), none⟩,
 ⟨(some 58), (.ln (.t 57)), none⟩,
 ⟨(some 59), (.bin .gtr (.t 58) (.c (.int .i64 8))), none⟩])
 (.keep [4, 59]))
 (.cond (.t 59)
 (.seq
 (.seq (.ops [⟨(some 60), (.lit 0 1 y_string [(.string ⟨⟨[]⟩⟩)] []), none⟩,
 ⟨(some 2), (.mov (.t 60)), none⟩,
 ⟨(some 3), (.mov (.c (.bool false))), none⟩])
 (.keep [2, 3]))
 .ret)
 .skip))
 (.seq
 (.seq (.ops [⟨(some 61), (.mov (.t 4)), none⟩,
 ⟨(some 2), (.mov (.t 61)), none⟩,
 ⟨(some 3), (.mov (.c (.bool true))), none⟩])
 (.keep [2, 3]))
 .ret))))))),
 [(.slot 2), (.slot 3)]⟩
/-- spec ReadDecimal -/
def F_spec_ReadDecimal : Fun := ⟨1,
 (.seq
 (.seq (.ops [⟨(some 2), (.mov (.c (.int .i64 0))), none⟩,
 ⟨(some 3), (.mov (.c (.bool false))), none⟩])
 (.keep [0]))
 (.seq
 (.seq
 (.seq (.ops [⟨(some 6), (.mov (.t 0)), none⟩,
 ⟨(some 7), (.lnS (.t 6)), none⟩,
 ⟨(some 8), (.bin .gtr (.t 7) (.c (.int .i64 10))), none⟩])
 (.keep [0, 8]))
 (.cond (.t 8)
 (.seq
 (.seq (.ops [⟨(some 2), (.mov (.c (.int .i64 0))), none⟩,
 ⟨(some 3), (.mov (.c (.bool false))), none⟩])
 (.keep [2, 3]))
 .ret)
 .skip))
 (.seq
 (.seq (.ops [⟨(some 4), (.mov (.c (.int .i64 0))), none⟩])
 (.keep [0, 4]))
 (.seq
 (.seq
 (.seq (.ops [⟨(some 5), (.mov (.c (.int .i64 0))), none⟩])
 (.keep [0, 4, 5]))
 (.block 0
 (.loop
 (.seq
 (.seq
 (.seq (.ops [⟨(some 9), (.mov (.t 5)), none⟩,
 ⟨(some 10), (.mov (.t 0)), none⟩,
 ⟨(some 11), (.lnS (.t 10)), none⟩,
 ⟨(some 12), (.bin .lss (.t 9) (.t 11)), none⟩])
 (.keep [0, 4, 5, 12]))
 (.cond (.t 12)
 .skip
 (.exit 0)))
 (.seq
 (.block 1
 (.seq
 (.seq
 (.seq (.ops [⟨(some 15), (.mov (.t 0)), none⟩,
 ⟨(some 16), (.mov (.t 5)), none⟩,
 ⟨(some 17), (.ix (.t 15) (.t 16)), none⟩,
 ⟨(some 18), (.bin .lss (.t 17) (.c (.int .u8 48))), none⟩,
 ⟨(some 19), (.mov (.t 18)), none⟩,
 ⟨(some 20), (.mov (.t 0)), (some (19, false))⟩,
 ⟨(some 21), (.mov (.t 5)), (some (19, false))⟩,
 ⟨(some 22), (.ix (.t 20) (.t 21)), (some (19, false))⟩,
 ⟨(some 23), (.bin .gtr (.t 22) (.c (.int .u8 57))), (some (19, false))⟩,
 ⟨(some 24), (.pick (.t 19) (.c (.bool true)) (.t 23)), none⟩])
 (.keep [0, 4, 5, 24]))
 (.cond (.t 24)
 (.seq
 (.seq (.ops [⟨(some 2), (.mov (.c (.int .i64 0))), none⟩,
 ⟨(some 3), (.mov (.c (.bool false))), none⟩])
 (.keep [2, 3]))
 .ret)
 .skip))
 (.seq (.ops [⟨(some 25), (.mov (.t 4)), none⟩,
 ⟨(some 26), (.bin .mul (.c (.int .i64 10)) (.t 25)), none⟩,
 ⟨(some 27), (.mov (.t 0)), none⟩,
 ⟨(some 28), (.mov (.t 5)), none⟩,
 ⟨(some 29), (.ix (.t 27) (.t 28)), none⟩,
 ⟨(some 30), (.conv .i64 (.t 29)), none⟩,
 ⟨(some 31), (.bin .add (.t 26) (.t 30)), none⟩,
 ⟨(some 32), (.bin .sub (.t 31) (.c (.int .i64 48))), none⟩,
 ⟨(some 4), (.mov (.t 32)), none⟩])
 (.keep [0, 4, 5]))))
 (.seq (.ops [⟨(some 13), (.mov (.t 5)), none⟩,
 ⟨(some 14), (.bin .add (.t 13) (.c (.int .i64 1))), none⟩,
 ⟨(some 5), (.mov (.t 14)), none⟩])
 (.keep [0, 4, 5])))))))
 (.seq
 (.seq
 (.seq (.ops [⟨(some 33), (.mov (.t 4)), none⟩,
 ⟨(some 34), (.bin .gtr (.t 33) (.c (.int .i64 1000000000))), none⟩,
 ⟨(some 35), (.mov (.t 34)), none⟩,
 ⟨(some 36), (.mov (.t 4)), (some (35, false))⟩,
 ⟨(some 37), (.call n_spec_Decimal [(.t 36)]), (some (35, false))⟩,
 ⟨(some 38), (.mov (.t 0)), (some (35, false))⟩,
 ⟨(some 39), (.bin .neq (.t 37) (.t 38)), (some (35, false))⟩,
 ⟨(some 40), (.pick (.t 35) (.c (.bool true)) (.t 39)), none⟩])
 (.keep [4, 40]))
 (.cond (.t 40)
 (.seq
 (.seq (.ops [⟨(some 2), (.mov (.c (.int .i64 0))), none⟩,
 ⟨(some 3), (.mov (.c (.bool false))), none⟩])
 (.keep [2, 3]))
 .ret)
 .skip))
 (.seq
 (.seq (.ops [⟨(some 41), (.mov (.t 4)), none⟩,
 ⟨(some 2), (.mov (.t 41)), none⟩,
 ⟨(some 3), (.mov (.c (.bool true))), none⟩])
 (.keep [2, 3]))
 .ret)))))),
 [(.slot 2), (.slot 3)]⟩
/-- spec FormatStore -/
def F_spec_FormatStore : Fun := ⟨1,
 (.seq
 (.seq (.ops [⟨(some 2), (.newL [(.slice none 0 0), (.slice none 0 0), (.slice none 0 0), (.int .i64 0), (.int .i64 0)]), none⟩,
 ⟨(some 3), (.mov (.c (.bool false))), none⟩])
 (.keep [0, 2]))
 (.seq
 (.seq (.ops [⟨(some 9), (.mov (.t 0)), none⟩,
 ⟨(some 10), (.call n_spec_DeviceNew [(.t 9)]), none⟩,
 ⟨(some 8), (.mov (.t 10)), none⟩,
 ⟨(some 11), (.ext 0 (.t 8)), none⟩,
 ⟨(some 12), (.ext 1 (.t 8)), none⟩,
 ⟨(some 4), (.newL [(.slice none 0 0), (.slice none 0 0)]), none⟩,
 ⟨none, (.stB 2 4 (.t 11)), none⟩,
 ⟨(some 5), (.mov (.t 12)), none⟩])
 (.keep [0, 2, 4, 5]))
 (.seq
 (.seq
 (.seq (.ops [⟨(some 13), (.mov (.t 5)), none⟩,
 ⟨(some 14), (.un .not (.t 13)), none⟩,
 ⟨(some 15), (.mov (.t 14)), none⟩,
 ⟨(some 16), (.mov (.t 0)), (some (15, false))⟩,
 ⟨(some 17), (.bin .lss (.t 16) (.c (.int .i64 4))), (some (15, false))⟩,
 ⟨(some 18), (.pick (.t 15) (.c (.bool true)) (.t 17)), none⟩])
 (.keep [2, 4, 18]))
 (.cond (.t 18)
 (.seq
 (.seq (.ops [⟨(some 19), (.bld [(.slice none 0 0), (.slice none 0 0), (.slice none 0 0), (.int .i64 0), (.int .i64 0)] []), none⟩,
 ⟨none, (.stB 5 2 (.t 19)), none⟩,
 ⟨(some 3), (.mov (.c (.bool false))), none⟩])
 (.keep [2, 3]))
 .ret)
 .skip))
 (.seq
 (.seq (.ops [⟨(some 21), (.bld [(.int .i64 0), (.int .i64 0)] [(1, (1, (.c (.int .i64 (-1)))))]), none⟩,
 ⟨(some 22), (.call n_spec_RootText [(.t 21)]), none⟩,
 ⟨(some 20), (.mov (.t 22)), none⟩,
 ⟨(some 23), (.ext 0 (.t 20)), none⟩,
 ⟨(some 24), (.ext 1 (.t 20)), none⟩,
 ⟨(some 6), (.mov (.t 23)), none⟩,
 ⟨(some 7), (.mov (.t 24)), none⟩])
 (.keep [2, 4, 6]))
 (.seq
 (.seq (.ops [⟨(some 25), (.faB 0 4), none⟩,
 ⟨(some 26), (.ldE 1 false 4 25), none⟩,
 ⟨(some 27), (.mov (.t 6)), none⟩,
 ⟨(some 28), (.ia 1 (.t 26) (.c (.int .i64 0))), none⟩,
 ⟨none, (.st 1 (.t 28) (.t 27)), none⟩])
 (.keep [2, 4]))
 (.seq
 (.seq (.ops [⟨(some 29), (.ldB 2 true 4), none⟩,
 ⟨(some 30), (.bld [(.int .i64 0), (.int .i64 0)] [(1, (1, (.c (.int .i64 (-1)))))]), none⟩,
 ⟨(some 31), (.bld [(.slice none 0 0), (.slice none 0 0), (.slice none 0 0), (.int .i64 0), (.int .i64 0)] [(0, (2, (.t 29))), (3, (2, (.t 30)))]), none⟩,
 ⟨none, (.stB 5 2 (.t 31)), none⟩,
 ⟨(some 3), (.mov (.c (.bool true))), none⟩])
 (.keep [2, 3]))
 .ret)))))),
 [(.box 2 5 true), (.slot 3)]⟩
/-- spec l16Deed -/
def F_spec_l16Deed : Fun := ⟨1,
 (.seq
 (.seq (.ops [⟨(some 2), (.newL [(.string ⟨⟨[]⟩⟩), (.bool false), (.int .i64 0), (.slice none 0 0), (.int .i64 0), (.int .i64 0)]), none⟩,
 ⟨(some 3), (.mov (.c (.bool false))), none⟩])
 (.keep [0, 2]))
 (.seq
 (.seq (.ops [⟨(some 13), (.bld [(.string ⟨⟨[]⟩⟩), (.bool false), (.int .i64 0), (.slice none 0 0), (.int .i64 0), (.int .i64 0)] []), none⟩,
 ⟨(some 4), (.newL [(.string ⟨⟨[]⟩⟩), (.bool false), (.int .i64 0), (.slice none 0 0), (.int .i64 0), (.int .i64 0)]), none⟩,
 ⟨none, (.stB 6 4 (.t 13)), none⟩])
 (.keep [0, 2, 4]))
 (.seq
 (.seq
 (.seq (.ops [⟨(some 14), (.mov (.t 0)), none⟩,
 ⟨(some 15), (.ia 1 (.t 14) (.c (.int .i64 0))), none⟩,
 ⟨(some 16), (.ld 1 false (.t 15)), none⟩,
 ⟨(some 17), (.bin .eql (.t 16) (.c (.string ⟨⟨[112, 111, 119, 101, 114]⟩⟩))), none⟩])
 (.keep [0, 2, 4, 17]))
 (.cond (.t 17)
 (.seq
 (.seq
 (.seq (.ops [⟨(some 18), (.mov (.t 0)), none⟩,
 ⟨(some 19), (.ln (.t 18)), none⟩,
 ⟨(some 20), (.bin .lss (.t 19) (.c (.int .i64 5))), none⟩])
 (.keep [0, 2, 4, 20]))
 (.cond (.t 20)
 (.seq
 (.seq (.ops [⟨(some 21), (.ldB 6 true 4), none⟩,
 ⟨none, (.stB 6 2 (.t 21)), none⟩,
 ⟨(some 3), (.mov (.c (.bool false))), none⟩])
 (.keep [2, 3]))
 .ret)
 .skip))
 (.seq
 (.seq (.ops [⟨(some 22), (.lit 0 1 y_int [(.int .i64 0)] []), none⟩,
 ⟨(some 5), (.mov (.t 22)), none⟩])
 (.keep [0, 2, 4, 5]))
 (.seq
 (.seq
 (.seq (.ops [⟨(some 6), (.mov (.c (.int .i64 1))), none⟩])
 (.keep [0, 2, 4, 5, 6]))
 (.block 0
 (.loop
 (.seq
 (.seq
 (.seq (.ops [⟨(some 23), (.mov (.t 6)), none⟩,
 ⟨(some 24), (.bin .lss (.t 23) (.c (.int .i64 4))), none⟩])
 (.keep [0, 2, 4, 5, 6, 24]))
 (.cond (.t 24)
 .skip
 (.exit 0)))
 (.seq
 (.block 1
 (.seq
 (.seq (.ops [⟨(some 28), (.mov (.t 0)), none⟩,
 ⟨(some 29), (.mov (.t 6)), none⟩,
 ⟨(some 30), (.ia 1 (.t 28) (.t 29)), none⟩,
 ⟨(some 31), (.ld 1 false (.t 30)), none⟩,
 ⟨(some 32), (.call n_spec_ReadDecimal [(.t 31)]), none⟩,
 ⟨(some 27), (.mov (.t 32)), none⟩,
 ⟨(some 33), (.ext 0 (.t 27)), none⟩,
 ⟨(some 34), (.ext 1 (.t 27)), none⟩,
 ⟨(some 7), (.mov (.t 33)), none⟩,
 ⟨(some 8), (.mov (.t 34)), none⟩])
 (.keep [0, 2, 4, 5, 6, 7, 8]))
 (.seq
 (.seq
 (.seq (.ops [⟨(some 35), (.mov (.t 8)), none⟩,
 ⟨(some 36), (.un .not (.t 35)), none⟩])
 (.keep [0, 2, 4, 5, 6, 7, 36]))
 (.cond (.t 36)
 (.seq
 (.seq (.ops [⟨(some 37), (.ldB 6 true 4), none⟩,
 ⟨none, (.stB 6 2 (.t 37)), none⟩,
 ⟨(some 3), (.mov (.c (.bool false))), none⟩])
 (.keep [2, 3]))
 .ret)
 .skip))
 (.seq (.ops [⟨(some 38), (.mov (.t 5)), none⟩,
 ⟨(some 39), (.mov (.t 7)), none⟩,
 ⟨(some 40), (.litL 1 1 [(.int .i64 0)] [(0, (.t 39))]), none⟩,
 ⟨(some 41), (.appL 1 y_int 8 1 (.t 38) 40), none⟩,
 ⟨(some 5), (.mov (.t 41)), none⟩])
 (.keep [0, 2, 4, 5, 6])))))
 (.seq (.ops [⟨(some 25), (.mov (.t 6)), none⟩,
 ⟨(some 26), (.bin .add (.t 25) (.c (.int .i64 1))), none⟩,
 ⟨(some 6), (.mov (.t 26)), none⟩])
 (.keep [0, 2, 4, 5, 6])))))))
 (.seq
 (.seq (.ops [⟨(some 42), (.faB 1 4), none⟩,
 ⟨none, (.stE 1 4 42 (.c (.bool true))), none⟩])
 (.keep [0, 2, 4, 5]))
 (.seq
 (.seq (.ops [⟨(some 43), (.mov (.t 5)), none⟩,
 ⟨(some 44), (.ia 1 (.t 43) (.c (.int .i64 0))), none⟩,
 ⟨(some 45), (.ld 1 false (.t 44)), none⟩,
 ⟨(some 46), (.faB 2 4), none⟩,
 ⟨none, (.stE 1 4 46 (.t 45)), none⟩])
 (.keep [0, 2, 4, 5]))
 (.seq
 (.seq (.ops [⟨(some 47), (.mov (.t 5)), none⟩,
 ⟨(some 48), (.ia 1 (.t 47) (.c (.int .i64 1))), none⟩,
 ⟨(some 49), (.ld 1 false (.t 48)), none⟩,
 ⟨(some 50), (.faB 4 4), none⟩,
 ⟨none, (.stE 1 4 50 (.t 49)), none⟩])
 (.keep [0, 2, 4, 5]))
 (.seq
 (.seq (.ops [⟨(some 51), (.mov (.t 5)), none⟩,
 ⟨(some 52), (.ia 1 (.t 51) (.c (.int .i64 2))), none⟩,
 ⟨(some 53), (.ld 1 false (.t 52)), none⟩,
 ⟨(some 54), (.faB 5 4), none⟩,
 ⟨none, (.stE 1 4 54 (.t 53)), none⟩])
 (.keep [0, 2, 4]))
 (.seq
 (.seq (.ops [⟨(some 55), (.mov (.t 0)), none⟩,
 ⟨(some 56), (.slL 1 (.t 55) (some (.c (.int .i64 4))) none), none⟩,
 ⟨(some 0), (.mov (.t 56)), none⟩])
 (.keep [0, 2, 4]))
 (.seq
 (.seq (.ops [⟨(some 57), (.mov (.t 0)), none⟩,
 ⟨(some 58), (.ia 1 (.t 57) (.c (.int .i64 0))), none⟩,
 ⟨(some 59), (.ld 1 false (.t 58)), none⟩,
 ⟨(some 60), (.ix (.t 59) (.c (.int .i64 0))), none⟩,
 ⟨(some 61), (.bin .geq (.t 60) (.c (.int .u8 48))), none⟩,
 ⟨(some 62), (.mov (.t 61)), none⟩,
 ⟨(some 63), (.mov (.t 0)), (some (62, true))⟩,
 ⟨(some 64), (.ia 1 (.t 63) (.c (.int .i64 0))), (some (62, true))⟩,
 ⟨(some 65), (.ld 1 false (.t 64)), (some (62, true))⟩,
 ⟨(some 66), (.ix (.t 65) (.c (.int .i64 0))), (some (62, true))⟩,
 ⟨(some 67), (.bin .leq (.t 66) (.c (.int .u8 57))), (some (62, true))⟩,
 ⟨(some 68), (.pick (.t 62) (.t 67) (.c (.bool false))), none⟩])
 (.keep [0, 2, 4, 68]))
 (.cond (.t 68)
 (.seq
 (.seq (.ops [⟨(some 70), (.mov (.t 0)), none⟩,
 ⟨(some 71), (.ia 1 (.t 70) (.c (.int .i64 0))), none⟩,
 ⟨(some 72), (.ld 1 false (.t 71)), none⟩,
 ⟨(some 73), (.call n_spec_l16Commas [(.t 72)]), none⟩,
 ⟨(some 69), (.mov (.t 73)), none⟩,
 ⟨(some 74), (.ext 0 (.t 69)), none⟩,
 ⟨(some 75), (.ext 1 (.t 69)), none⟩,
 ⟨(some 9), (.mov (.t 74)), none⟩,
 ⟨(some 10), (.mov (.t 75)), none⟩])
 (.keep [0, 2, 4, 9, 10]))
 (.seq
 (.seq
 (.seq (.ops [⟨(some 76), (.mov (.t 10)), none⟩,
 ⟨(some 77), (.un .not (.t 76)), none⟩])
 (.keep [0, 2, 4, 9, 77]))
 (.cond (.t 77)
 (.seq
 (.seq (.ops [⟨(some 78), (.ldB 6 true 4), none⟩,
 ⟨none, (.stB 6 2 (.t 78)), none⟩,
 ⟨(some 3), (.mov (.c (.bool false))), none⟩])
 (.keep [2, 3]))
 .ret)
 .skip))
 (.seq
 (.seq (.ops [⟨(some 79), (.mov (.t 9)), none⟩,
 ⟨(some 80), (.faB 3 4), none⟩,
 ⟨none, (.stE 1 4 80 (.t 79)), none⟩])
 (.keep [0, 2, 4]))
 (.seq (.ops [⟨(some 81), (.mov (.t 0)), none⟩,
 ⟨(some 82), (.slL 1 (.t 81) (some (.c (.int .i64 1))) none), none⟩,
 ⟨(some 0), (.mov (.t 82)), none⟩])
 (.keep [0, 2, 4])))))
 .skip))))))))))
 .skip))
 (.seq
 (.seq (.ops [⟨(some 84), (.mov (.t 0)), none⟩,
 ⟨(some 85), (.call n_spec_l16Ask [(.t 84)]), none⟩,
 ⟨(some 83), (.mov (.t 85)), none⟩,
 ⟨(some 86), (.ext 0 (.t 83)), none⟩,
 ⟨(some 87), (.ext 1 (.t 83)), none⟩,
 ⟨(some 11), (.mov (.t 86)), none⟩,
 ⟨(some 12), (.mov (.t 87)), none⟩])
 (.keep [2, 4, 11, 12]))
 (.seq
 (.seq (.ops [⟨(some 88), (.mov (.t 11)), none⟩,
 ⟨(some 89), (.faB 0 4), none⟩,
 ⟨none, (.stE 1 4 89 (.t 88)), none⟩])
 (.keep [2, 4, 12]))
 (.seq
 (.seq (.free true [⟨(some 90), (.ldB 6 true 4), none⟩,
 ⟨(some 91), (.mov (.t 12)), none⟩,
 ⟨(some 92), (.mov (.t 91)), none⟩,
 ⟨(some 93), (.ldB 6 true 4), (some (92, true))⟩,
 ⟨(some 94), (.call n_spec_DeedOk [(.t 93)]), (some (92, true))⟩,
 ⟨(some 95), (.pick (.t 92) (.t 94) (.c (.bool false))), none⟩,
 ⟨none, (.stB 6 2 (.t 90)), none⟩,
 ⟨(some 3), (.mov (.t 95)), none⟩])
 (.keep [2, 3]))
 .ret)))))),
 [(.box 2 6 true), (.slot 3)]⟩
/-- impl linesOf -/
def F_impl_linesOf : Fun := ⟨1,
 (.seq
 (.seq (.ops [⟨(some 2), (.mov (.c (.slice none 0 0))), none⟩])
 (.keep [0]))
 (.seq
 (.seq (.ops [⟨(some 4), (.mov (.t 0)), none⟩,
 ⟨(some 5), (.call n_strings_Split [(.t 4), (.c (.string ⟨⟨[10]⟩⟩))]), none⟩,
 ⟨(some 3), (.mov (.t 5)), none⟩])
 (.keep [3]))
 (.seq
 (.seq
 (.seq (.ops [⟨(some 6), (.mov (.t 3)), none⟩,
 ⟨(some 7), (.mov (.t 3)), none⟩,
 ⟨(some 8), (.ln (.t 7)), none⟩,
 ⟨(some 9), (.bin .sub (.t 8) (.c (.int .i64 1))), none⟩,
 ⟨(some 10), (.ia 1 (.t 6) (.t 9)), none⟩,
 ⟨(some 11), (.ld 1 false (.t 10)), none⟩,
 ⟨(some 12), (.bin .eql (.t 11) (.c (.string ⟨⟨[]⟩⟩))), none⟩])
 (.keep [3, 12]))
 (.cond (.t 12)
 (.seq
 (.seq (.ops [⟨(some 13), (.mov (.t 3)), none⟩,
 ⟨(some 14), (.mov (.t 3)), none⟩,
 ⟨(some 15), (.ln (.t 14)), none⟩,
 ⟨(some 16), (.bin .sub (.t 15) (.c (.int .i64 1))), none⟩,
 ⟨(some 17), (.slL 1 (.t 13) none (some (.t 16))), none⟩,
 ⟨(some 2), (.mov (.t 17)), none⟩])
 (.keep [2]))
 .ret)
 .skip))
 (.seq
 (.seq (.ops [⟨(some 18), (.mov (.t 3)), none⟩,
 ⟨(some 2), (.mov (.t 18)), none⟩])
 (.keep [2]))
 .ret)))),
 [(.slot 2)]⟩
/-- impl PartsOf -/
def F_impl_PartsOf : Fun := ⟨1,
 (.seq
 (.seq (.ops [⟨(some 2), (.mov (.c (.slice none 0 0))), none⟩,
 ⟨(some 3), (.mov (.c (.bool false))), none⟩])
 (.keep [0]))
 (.seq
 (.seq
 (.seq (.ops [⟨(some 8), (.mov (.t 0)), none⟩,
 ⟨(some 9), (.lnS (.t 8)), none⟩,
 ⟨(some 10), (.bin .gtr (.t 9) (.c (.int .i64 400))), none⟩])
 (.keep [0, 10]))
 (.cond (.t 10)
 (.seq
 (.seq (.ops [⟨(some 2), (.mov (.c (.slice none 0 0))), none⟩,
 ⟨(some 3), (.mov (.c (.bool false))), none⟩])
 (.keep [2, 3]))
 .ret)
 .skip))
 (.seq
 (.seq (.ops [⟨(some 4), (.mov (.c (.slice none 0 0))), none⟩])
 (.keep [0, 4]))
 (.seq
 (.seq
 (.seq (.ops [⟨(some 11), (.mov (.t 0)), none⟩,
 ⟨(some 12), (.lnS (.t 11)), none⟩,
 ⟨(some 13), (.mov (.c (.int .i64 0))), none⟩])
 (.keep [0, 4, 12, 13]))
 (.block 0
 (.loop
 (.seq
 (.seq (.ops [⟨(some 14), (.bin .lss (.t 13) (.t 12)), none⟩])
 (.keep [0, 4, 12, 13, 14]))
 (.seq
 (.cond (.t 14)
 .skip
 (.exit 0))
 (.seq
 (.block 1
 (.seq
 (.seq (.ops [⟨(some 15), (.mov (.t 13)), none⟩,
 ⟨(some 5), (.mov (.t 15)), none⟩])
 (.keep [0, 4, 5, 12, 13]))
 (.seq
 (.seq (.ops [⟨(some 16), (.mov (.t 0)), none⟩,
 ⟨(some 17), (.mov (.t 5)), none⟩,
 ⟨(some 18), (.ix (.t 16) (.t 17)), none⟩,
 ⟨(some 19), (.bin .lss (.t 18) (.c (.int .u8 32))), none⟩,
 ⟨(some 20), (.mov (.t 19)), none⟩,
 ⟨(some 21), (.mov (.t 0)), (some (20, false))⟩,
 ⟨(some 22), (.mov (.t 5)), (some (20, false))⟩,
 ⟨(some 23), (.ix (.t 21) (.t 22)), (some (20, false))⟩,
 ⟨(some 24), (.bin .gtr (.t 23) (.c (.int .u8 126))), (some (20, false))⟩,
 ⟨(some 25), (.pick (.t 20) (.c (.bool true)) (.t 24)), none⟩])
 (.keep [0, 4, 12, 13, 25]))
 (.cond (.t 25)
 (.seq
 (.seq (.ops [⟨(some 2), (.mov (.c (.slice none 0 0))), none⟩,
 ⟨(some 3), (.mov (.c (.bool false))), none⟩])
 (.keep [2, 3]))
 .ret)
 .skip))))
 (.seq (.ops [⟨(some 26), (.bin .add (.t 13) (.c (.int .i64 1))), none⟩,
 ⟨(some 13), (.mov (.t 26)), none⟩])
 (.keep [0, 4, 12, 13]))))))))
 (.seq
 (.seq
 (.seq (.ops [⟨(some 27), (.mov (.t 0)), none⟩,
 ⟨(some 28), (.call n_strings_Split [(.t 27), (.c (.string ⟨⟨[32]⟩⟩))]), none⟩,
 ⟨(some 29), (.ln (.t 28)), none⟩,
 ⟨(some 30), (.mov (.c (.int .i64 0))), none⟩])
 (.keep [4, 28, 29, 30]))
 (.block 2
 (.loop
 (.seq
 (.seq (.ops [⟨(some 31), (.bin .lss (.t 30) (.t 29)), none⟩])
 (.keep [4, 28, 29, 30, 31]))
 (.seq
 (.cond (.t 31)
 .skip
 (.exit 2))
 (.seq
 (.block 3
 (.seq
 (.seq (.ops [⟨(some 32), (.ia 1 (.t 28) (.t 30)), none⟩,
 ⟨(some 33), (.ld 1 false (.t 32)), none⟩,
 ⟨(some 7), (.mov (.t 33)), none⟩])
 (.keep [4, 7, 28, 29, 30]))
 (.seq
 (.seq (.ops [⟨(some 34), (.mov (.t 7)), none⟩,
 ⟨(some 35), (.bin .neq (.t 34) (.c (.string ⟨⟨[]⟩⟩))), none⟩])
 (.keep [4, 7, 28, 29, 30, 35]))
 (.cond (.t 35)
 (.seq (.ops [⟨(some 36), (.mov (.t 4)), none⟩,
 ⟨(some 37), (.mov (.t 7)), none⟩,
 ⟨(some 38), (.litL 1 1 [(.string ⟨⟨[]⟩⟩)] [(0, (.t 37))]), none⟩,
 ⟨(some 39), (.appL 1 y_string 16 1 (.t 36) 38), none⟩,
 ⟨(some 4), (.mov (.t 39)), none⟩])
 (.keep [4, 28, 29, 30]))
 .skip))))
 (.seq (.ops [⟨(some 40), (.bin .add (.t 30) (.c (.int .i64 1))), none⟩,
 ⟨(some 30), (.mov (.t 40)), none⟩])
 (.keep [4, 28, 29, 30]))))))))
 (.seq
 (.seq
 (.seq (.ops [⟨(some 41), (.mov (.t 4)), none⟩,
 ⟨(some 42), (.ln (.t 41)), none⟩,
 ⟨(some 43), (.bin .gtr (.t 42) (.c (.int .i64 8))), none⟩])
 (.keep [4, 43]))
 (.cond (.t 43)
 (.seq
 (.seq (.ops [⟨(some 2), (.mov (.c (.slice none 0 0))), none⟩,
 ⟨(some 3), (.mov (.c (.bool false))), none⟩])
 (.keep [2, 3]))
 .ret)
 .skip))
 (.seq
 (.seq (.ops [⟨(some 44), (.mov (.t 4)), none⟩,
 ⟨(some 2), (.mov (.t 44)), none⟩,
 ⟨(some 3), (.mov (.c (.bool true))), none⟩])
 (.keep [2, 3]))
 .ret))))))),
 [(.slot 2), (.slot 3)]⟩
/-- impl hall -/
def F_impl_hall : Fun := ⟨1,
 (.seq
 (.seq (.ops [⟨(some 2), (.mov (.c (.int .i64 0))), none⟩,
 ⟨(some 3), (.mov (.c (.bool false))), none⟩])
 (.keep [0]))
 (.seq
 (.seq
 (.seq (.ops [⟨(some 8), (.mov (.t 0)), none⟩,
 ⟨(some 9), (.ln (.t 8)), none⟩,
 ⟨(some 10), (.bin .neq (.t 9) (.c (.int .i64 2))), none⟩,
 ⟨(some 11), (.mov (.t 10)), none⟩,
 ⟨(some 12), (.mov (.t 0)), (some (11, false))⟩,
 ⟨(some 13), (.ia 1 (.t 12) (.c (.int .i64 0))), (some (11, false))⟩,
 ⟨(some 14), (.ld 1 false (.t 13)), (some (11, false))⟩,
 ⟨(some 15), (.bin .neq (.t 14) (.c (.string ⟨⟨[104, 97, 108, 108]⟩⟩))), (some (11, false))⟩,
 ⟨(some 16), (.pick (.t 11) (.c (.bool true)) (.t 15)), none⟩])
 (.keep [0, 16]))
 (.cond (.t 16)
 (.seq
 (.seq (.ops [⟨(some 2), (.mov (.c (.int .i64 0))), none⟩,
 ⟨(some 3), (.mov (.c (.bool false))), none⟩])
 (.keep [2, 3]))
 .ret)
 .skip))
 (.seq
 (.seq (.ops [⟨(some 18), (.mov (.t 0)), none⟩,
 ⟨(some 19), (.ia 1 (.t 18) (.c (.int .i64 1))), none⟩,
 ⟨(some 20), (.ld 1 false (.t 19)), none⟩,
 ⟨(some 21), (.call n_impl_ReadDecimal [(.t 20)]), none⟩,
 ⟨(some 17), (.mov (.t 21)), none⟩,
 ⟨(some 22), (.ext 0 (.t 17)), none⟩,
 ⟨(some 23), (.ext 1 (.t 17)), none⟩,
 ⟨(some 4), (.mov (.t 22)), none⟩,
 ⟨(some 5), (.mov (.t 23)), none⟩])
 (.keep [4, 5]))
 (.seq
 (.seq (.ops [⟨(some 25), (.mov (.t 4)), none⟩,
 ⟨(some 26), (.call n_impl_FormatStore [(.t 25)]), none⟩,
 ⟨(some 24), (.mov (.t 26)), none⟩,
 ⟨(some 27), (.ext 0 (.t 24)), none⟩,
 ⟨(some 28), (.ext 1 (.t 24)), none⟩,
 ⟨(some 6), (.newL [(.slice none 0 0), (.slice none 0 0), (.slice none 0 0), (.int .i64 0), (.int .i64 0)]), none⟩,
 ⟨none, (.stB 5 6 (.t 27)), none⟩,
 ⟨(some 7), (.mov (.t 28)), none⟩])
 (.keep [4, 5, 7]))
 (.seq
 (.seq (.ops [⟨(some 29), (.mov (.t 4)), none⟩,
 ⟨(some 30), (.mov (.t 5)), none⟩,
 ⟨(some 31), (.mov (.t 30)), none⟩,
 ⟨(some 32), (.mov (.t 7)), (some (31, true))⟩,
 ⟨(some 33), (.pick (.t 31) (.t 32) (.c (.bool false))), none⟩,
 ⟨(some 2), (.mov (.t 29)), none⟩,
 ⟨(some 3), (.mov (.t 33)), none⟩])
 (.keep [2, 3]))
 .ret))))),
 [(.slot 2), (.slot 3)]⟩
/-- impl deed -/
def F_impl_deed : Fun := ⟨1,
 (.seq
 (.seq (.ops [⟨(some 2), (.newL [(.string ⟨⟨[]⟩⟩), (.bool false), (.int .i64 0), (.slice none 0 0), (.int .i64 0), (.int .i64 0)]), none⟩,
 ⟨(some 3), (.mov (.c (.bool false))), none⟩])
 (.keep [0, 2]))
 (.seq
 (.seq (.ops [⟨(some 4), (.newL [(.string ⟨⟨[]⟩⟩), (.bool false), (.int .i64 0), (.slice none 0 0), (.int .i64 0), (.int .i64 0)]), none⟩])
 (.keep [0, 2, 4]))
 (.seq
 (.seq
 (.seq (.ops [⟨(some 11), (.mov (.t 0)), none⟩,
 ⟨(some 12), (.ia 1 (.t 11) (.c (.int .i64 0))), none⟩,
 ⟨(some 13), (.ld 1 false (.t 12)), none⟩,
 ⟨(some 14), (.bin .eql (.t 13) (.c (.string ⟨⟨[112, 111, 119, 101, 114]⟩⟩))), none⟩])
 (.keep [0, 2, 4, 14]))
 (.cond (.t 14)
 (.seq
 (.seq
 (.seq (.ops [⟨(some 15), (.mov (.t 0)), none⟩,
 ⟨(some 16), (.ln (.t 15)), none⟩,
 ⟨(some 17), (.bin .lss (.t 16) (.c (.int .i64 5))), none⟩])
 (.keep [0, 2, 4, 17]))
 (.cond (.t 17)
 (.seq
 (.seq (.ops [⟨(some 18), (.bld [(.string ⟨⟨[]⟩⟩), (.bool false), (.int .i64 0), (.slice none 0 0), (.int .i64 0), (.int .i64 0)] []), none⟩,
 ⟨none, (.stB 6 2 (.t 18)), none⟩,
 ⟨(some 3), (.mov (.c (.bool false))), none⟩])
 (.keep [2, 3]))
 .ret)
 .skip))
 (.seq
 (.seq (.ops [⟨(some 20), (.mov (.t 0)), none⟩,
 ⟨(some 21), (.slL 1 (.t 20) (some (.c (.int .i64 1))) (some (.c (.int .i64 4)))), none⟩,
 ⟨(some 22), (.call n_impl_numbers [(.t 21)]), none⟩,
 ⟨(some 19), (.mov (.t 22)), none⟩,
 ⟨(some 23), (.ext 0 (.t 19)), none⟩,
 ⟨(some 24), (.ext 1 (.t 19)), none⟩,
 ⟨(some 5), (.mov (.t 23)), none⟩,
 ⟨(some 6), (.mov (.t 24)), none⟩])
 (.keep [0, 2, 4, 5, 6]))
 (.seq
 (.seq
 (.seq (.ops [⟨(some 25), (.mov (.t 6)), none⟩,
 ⟨(some 26), (.un .not (.t 25)), none⟩])
 (.keep [0, 2, 4, 5, 26]))
 (.cond (.t 26)
 (.seq
 (.seq (.ops [⟨(some 27), (.bld [(.string ⟨⟨[]⟩⟩), (.bool false), (.int .i64 0), (.slice none 0 0), (.int .i64 0), (.int .i64 0)] []), none⟩,
 ⟨none, (.stB 6 2 (.t 27)), none⟩,
 ⟨(some 3), (.mov (.c (.bool false))), none⟩])
 (.keep [2, 3]))
 .ret)
 .skip))
 (.seq
 (.seq (.free true [⟨(some 28), (.mov (.t 5)), none⟩,
 ⟨(some 29), (.ia 1 (.t 28) (.c (.int .i64 0))), none⟩,
 ⟨(some 30), (.ld 1 false (.t 29)), none⟩,
 ⟨(some 31), (.mov (.t 5)), none⟩,
 ⟨(some 32), (.ia 1 (.t 31) (.c (.int .i64 1))), none⟩,
 ⟨(some 33), (.ld 1 false (.t 32)), none⟩,
 ⟨(some 34), (.mov (.t 5)), none⟩,
 ⟨(some 35), (.ia 1 (.t 34) (.c (.int .i64 2))), none⟩,
 ⟨(some 36), (.ld 1 false (.t 35)), none⟩,
 ⟨(some 37), (.faB 1 4), none⟩,
 ⟨none, (.stE 1 4 37 (.c (.bool true))), none⟩,
 ⟨(some 38), (.faB 2 4), none⟩,
 ⟨none, (.stE 1 4 38 (.t 30)), none⟩,
 ⟨(some 39), (.faB 4 4), none⟩,
 ⟨none, (.stE 1 4 39 (.t 33)), none⟩,
 ⟨(some 40), (.faB 5 4), none⟩,
 ⟨none, (.stE 1 4 40 (.t 36)), none⟩])
 (.keep [0, 2, 4]))
 (.seq
 (.seq (.ops [⟨(some 41), (.mov (.t 0)), none⟩,
 ⟨(some 42), (.slL 1 (.t 41) (some (.c (.int .i64 4))) none), none⟩,
 ⟨(some 0), (.mov (.t 42)), none⟩])
 (.keep [0, 2, 4]))
 (.seq
 (.seq (.ops [⟨(some 43), (.mov (.t 0)), none⟩,
 ⟨(some 44), (.ia 1 (.t 43) (.c (.int .i64 0))), none⟩,
 ⟨(some 45), (.ld 1 false (.t 44)), none⟩,
 ⟨(some 46), (.ix (.t 45) (.c (.int .i64 0))), none⟩,
 ⟨(some 47), (.bin .geq (.t 46) (.c (.int .u8 48))), none⟩,
 ⟨(some 48), (.mov (.t 47)), none⟩,
 ⟨(some 49), (.mov (.t 0)), (some (48, true))⟩,
 ⟨(some 50), (.ia 1 (.t 49) (.c (.int .i64 0))), (some (48, true))⟩,
 ⟨(some 51), (.ld 1 false (.t 50)), (some (48, true))⟩,
 ⟨(some 52), (.ix (.t 51) (.c (.int .i64 0))), (some (48, true))⟩,
 ⟨(some 53), (.bin .leq (.t 52) (.c (.int .u8 57))), (some (48, true))⟩,
 ⟨(some 54), (.pick (.t 48) (.t 53) (.c (.bool false))), none⟩])
 (.keep [0, 2, 4, 54]))
 (.cond (.t 54)
 (.seq
 (.seq (.ops [⟨(some 56), (.mov (.t 0)), none⟩,
 ⟨(some 57), (.ia 1 (.t 56) (.c (.int .i64 0))), none⟩,
 ⟨(some 58), (.ld 1 false (.t 57)), none⟩,
 ⟨(some 59), (.call n_strings_Split [(.t 58), (.c (.string ⟨⟨[44]⟩⟩))]), none⟩,
 ⟨(some 60), (.call n_impl_numbers [(.t 59)]), none⟩,
 ⟨(some 55), (.mov (.t 60)), none⟩,
 ⟨(some 61), (.ext 0 (.t 55)), none⟩,
 ⟨(some 62), (.ext 1 (.t 55)), none⟩,
 ⟨(some 7), (.mov (.t 61)), none⟩,
 ⟨(some 8), (.mov (.t 62)), none⟩])
 (.keep [0, 2, 4, 7, 8]))
 (.seq
 (.seq
 (.seq (.ops [⟨(some 63), (.mov (.t 8)), none⟩,
 ⟨(some 64), (.un .not (.t 63)), none⟩])
 (.keep [0, 2, 4, 7, 64]))
 (.cond (.t 64)
 (.seq
 (.seq (.ops [⟨(some 65), (.bld [(.string ⟨⟨[]⟩⟩), (.bool false), (.int .i64 0), (.slice none 0 0), (.int .i64 0), (.int .i64 0)] []), none⟩,
 ⟨none, (.stB 6 2 (.t 65)), none⟩,
 ⟨(some 3), (.mov (.c (.bool false))), none⟩])
 (.keep [2, 3]))
 .ret)
 .skip))
 (.seq
 (.seq (.ops [⟨(some 66), (.mov (.t 7)), none⟩,
 ⟨(some 67), (.faB 3 4), none⟩,
 ⟨none, (.stE 1 4 67 (.t 66)), none⟩])
 (.keep [0, 2, 4]))
 (.seq (.ops [⟨(some 68), (.mov (.t 0)), none⟩,
 ⟨(some 69), (.slL 1 (.t 68) (some (.c (.int .i64 1))) none), none⟩,
 ⟨(some 0), (.mov (.t 69)), none⟩])
 (.keep [0, 2, 4])))))
 .skip)))))))
 .skip))
 (.seq
 (.seq (.ops [⟨(some 71), (.mov (.t 0)), none⟩,
 ⟨(some 72), (.call n_impl_textOf [(.t 71)]), none⟩,
 ⟨(some 70), (.mov (.t 72)), none⟩,
 ⟨(some 73), (.ext 0 (.t 70)), none⟩,
 ⟨(some 74), (.ext 1 (.t 70)), none⟩,
 ⟨(some 9), (.mov (.t 73)), none⟩,
 ⟨(some 10), (.mov (.t 74)), none⟩])
 (.keep [2, 4, 9, 10]))
 (.seq
 (.seq (.ops [⟨(some 75), (.mov (.t 9)), none⟩,
 ⟨(some 76), (.faB 0 4), none⟩,
 ⟨none, (.stE 1 4 76 (.t 75)), none⟩])
 (.keep [2, 4, 10]))
 (.seq
 (.seq (.free true [⟨(some 77), (.ldB 6 true 4), none⟩,
 ⟨(some 78), (.mov (.t 10)), none⟩,
 ⟨(some 79), (.mov (.t 78)), none⟩,
 ⟨(some 80), (.ldB 6 true 4), (some (79, true))⟩,
 ⟨(some 81), (.call n_impl_DeedOk [(.t 80)]), (some (79, true))⟩,
 ⟨(some 82), (.pick (.t 79) (.t 81) (.c (.bool false))), none⟩,
 ⟨none, (.stB 6 2 (.t 77)), none⟩,
 ⟨(some 3), (.mov (.t 82)), none⟩])
 (.keep [2, 3]))
 .ret)))))),
 [(.box 2 6 true), (.slot 3)]⟩
/-- laws eqDeed -/
def F_laws_eqDeed : Fun := ⟨2,
 (.seq
 (.seq (.ops [⟨(some 2), (.boxL 6 (.t 0)), none⟩,
 ⟨(some 3), (.boxL 6 (.t 1)), none⟩,
 ⟨(some 4), (.mov (.c (.bool false))), none⟩])
 (.keep [2, 3]))
 (.seq
 (.seq
 (.seq (.ops [⟨(some 5), (.faB 0 2), none⟩,
 ⟨(some 6), (.ldE 1 false 2 5), none⟩,
 ⟨(some 7), (.faB 0 3), none⟩,
 ⟨(some 8), (.ldE 1 false 3 7), none⟩,
 ⟨(some 9), (.bin .neq (.t 6) (.t 8)), none⟩])
 (.keep [2, 3, 9]))
 (.cond (.t 9)
 (.seq
 (.seq (.ops [⟨(some 4), (.mov (.c (.bool false))), none⟩])
 (.keep [4]))
 .ret)
 .skip))
 (.seq
 (.seq
 (.seq (.ops [⟨(some 10), (.faB 1 2), none⟩,
 ⟨(some 11), (.ldE 1 false 2 10), none⟩,
 ⟨(some 12), (.faB 1 3), none⟩,
 ⟨(some 13), (.ldE 1 false 3 12), none⟩,
 ⟨(some 14), (.binB .neq (.t 11) (.t 13)), none⟩])
 (.keep [2, 3, 14]))
 (.cond (.t 14)
 (.seq
 (.seq (.ops [⟨(some 4), (.mov (.c (.bool false))), none⟩])
 (.keep [4]))
 .ret)
 .skip))
 (.seq
 (.seq
 (.seq (.ops [⟨(some 15), (.faB 2 2), none⟩,
 ⟨(some 16), (.ldE 1 false 2 15), none⟩,
 ⟨(some 17), (.faB 2 3), none⟩,
 ⟨(some 18), (.ldE 1 false 3 17), none⟩,
 ⟨(some 19), (.bin .neq (.t 16) (.t 18)), none⟩])
 (.keep [2, 3, 19]))
 (.cond (.t 19)
 (.seq
 (.seq (.ops [⟨(some 4), (.mov (.c (.bool false))), none⟩])
 (.keep [4]))
 .ret)
 .skip))
 (.seq
 (.seq
 (.seq (.ops [⟨(some 20), (.faB 3 2), none⟩,
 ⟨(some 21), (.ldE 1 false 2 20), none⟩,
 ⟨(some 22), (.faB 3 3), none⟩,
 ⟨(some 23), (.ldE 1 false 3 22), none⟩,
 ⟨(some 24), (.call n_laws_eqIntS [(.t 21), (.t 23)]), none⟩,
 ⟨(some 25), (.un .not (.t 24)), none⟩])
 (.keep [2, 3, 25]))
 (.cond (.t 25)
 (.seq
 (.seq (.ops [⟨(some 4), (.mov (.c (.bool false))), none⟩])
 (.keep [4]))
 .ret)
 .skip))
 (.seq
 (.seq
 (.seq (.ops [⟨(some 26), (.faB 4 2), none⟩,
 ⟨(some 27), (.ldE 1 false 2 26), none⟩,
 ⟨(some 28), (.faB 4 3), none⟩,
 ⟨(some 29), (.ldE 1 false 3 28), none⟩,
 ⟨(some 30), (.bin .neq (.t 27) (.t 29)), none⟩])
 (.keep [2, 3, 30]))
 (.cond (.t 30)
 (.seq
 (.seq (.ops [⟨(some 4), (.mov (.c (.bool false))), none⟩])
 (.keep [4]))
 .ret)
 .skip))
 (.seq
 (.seq
 (.seq (.ops [⟨(some 31), (.faB 5 2), none⟩,
 ⟨(some 32), (.ldE 1 false 2 31), none⟩,
 ⟨(some 33), (.faB 5 3), none⟩,
 ⟨(some 34), (.ldE 1 false 3 33), none⟩,
 ⟨(some 35), (.bin .neq (.t 32) (.t 34)), none⟩])
 (.keep [35]))
 (.cond (.t 35)
 (.seq
 (.seq (.ops [⟨(some 4), (.mov (.c (.bool false))), none⟩])
 (.keep [4]))
 .ret)
 .skip))
 (.seq
 (.seq (.ops [⟨(some 4), (.mov (.c (.bool true))), none⟩])
 (.keep [4]))
 .ret)))))))),
 [(.slot 4)]⟩
/-- laws markText -/
def F_laws_markText : Fun := ⟨1,
 (.seq
 (.seq (.ops [⟨(some 2), (.mov (.c (.string ⟨⟨[]⟩⟩))), none⟩])
 (.keep [0]))
 (.seq
 (.seq
 (.seq (.ops [⟨(some 4), (.mov (.t 0)), none⟩,
 ⟨(some 5), (.bin .leq (.t 4) (.c (.int .i64 0))), none⟩])
 (.keep [0, 5]))
 (.cond (.t 5)
 (.seq
 (.seq (.ops [⟨(some 2), (.mov (.c (.string ⟨⟨[109, 48]⟩⟩))), none⟩])
 (.keep [2]))
 .ret)
 .skip))
 (.seq
 (.seq (.ops [⟨(some 3), (.mov (.c (.string ⟨⟨[]⟩⟩))), none⟩])
 (.keep [0, 3]))
 (.seq
 (.block 0
 (.loop
 (.seq
 (.seq
 (.seq (.ops [⟨(some 6), (.mov (.t 0)), none⟩,
 ⟨(some 7), (.bin .gtr (.t 6) (.c (.int .i64 0))), none⟩])
 (.keep [0, 3, 7]))
 (.cond (.t 7)
 .skip
 (.exit 0)))
 (.block 1
 (.seq
 (.seq (.ops [⟨(some 8), (.mov (.t 0)), none⟩,
 ⟨(some 9), (.bin .rem (.t 8) (.c (.int .i64 10))), none⟩,
 ⟨(some 10), (.bin .add (.c (.int .i64 48)) (.t 9)), none⟩,
 ⟨(some 11), (.conv .u8 (.t 10)), none⟩,
 ⟨(some 12), (.litL 1 1 [(.int .u8 0)] [(0, (.t 11))]), none⟩,
 ⟨(some 13), (.strL 1 12), none⟩,
 ⟨(some 14), (.mov (.t 3)), none⟩,
 ⟨(some 15), (.bin .add (.t 13) (.t 14)), none⟩,
 ⟨(some 3), (.mov (.t 15)), none⟩])
 (.keep [0, 3]))
 (.seq (.ops [⟨(some 16), (.mov (.t 0)), none⟩,
 ⟨(some 17), (.bin .quo (.t 16) (.c (.int .i64 10))), none⟩,
 ⟨(some 0), (.mov (.t 17)), none⟩])
 (.keep [0, 3])))))))
 (.seq
 (.seq (.ops [⟨(some 18), (.mov (.t 3)), none⟩,
 ⟨(some 19), (.bin .add (.c (.string ⟨⟨[109]⟩⟩)) (.t 18)), none⟩,
 ⟨(some 2), (.mov (.t 19)), none⟩])
 (.keep [2]))
 .ret))))),
 [(.slot 2)]⟩
/-- laws markIntS -/
def F_laws_markIntS : Fun := ⟨2,
 (.seq
 (.seq (.ops [⟨(some 4), (.mov (.c (.int .i64 0))), none⟩])
 (.keep [0, 1]))
 (.seq
 (.seq
 (.seq (.ops [⟨(some 5), (.mov (.c (.int .i64 0))), none⟩])
 (.keep [0, 1, 5]))
 (.block 0
 (.loop
 (.seq
 (.seq
 (.seq (.ops [⟨(some 6), (.mov (.t 5)), none⟩,
 ⟨(some 7), (.mov (.t 0)), none⟩,
 ⟨(some 8), (.ln (.t 7)), none⟩,
 ⟨(some 9), (.bin .lss (.t 6) (.t 8)), none⟩])
 (.keep [0, 1, 5, 9]))
 (.cond (.t 9)
 .skip
 (.exit 0)))
 (.seq
 (.block 1
 (.seq
 (.seq (.ops [⟨(some 12), (.mov (.t 0)), none⟩,
 ⟨(some 13), (.mov (.t 5)), none⟩,
 ⟨(some 14), (.mov (.t 1)), none⟩,
 ⟨(some 15), (.ia 1 (.t 12) (.t 13)), none⟩,
 ⟨none, (.st 1 (.t 15) (.t 14)), none⟩])
 (.keep [0, 1, 5]))
 (.seq (.ops [⟨(some 16), (.mov (.t 1)), none⟩,
 ⟨(some 17), (.bin .add (.t 16) (.c (.int .i64 1))), none⟩,
 ⟨(some 1), (.mov (.t 17)), none⟩])
 (.keep [0, 1, 5]))))
 (.seq (.ops [⟨(some 10), (.mov (.t 5)), none⟩,
 ⟨(some 11), (.bin .add (.t 10) (.c (.int .i64 1))), none⟩,
 ⟨(some 5), (.mov (.t 11)), none⟩])
 (.keep [0, 1, 5])))))))
 (.seq
 (.seq (.ops [⟨(some 18), (.mov (.t 1)), none⟩,
 ⟨(some 4), (.mov (.t 18)), none⟩])
 (.keep [4]))
 .ret))),
 [(.slot 4)]⟩
/-- laws heldIntS -/
def F_laws_heldIntS : Fun := ⟨2,
 (.seq
 (.seq (.ops [⟨(some 4), (.mov (.c (.int .i64 0))), none⟩])
 (.keep [0, 1]))
 (.seq
 (.seq
 (.seq (.ops [⟨(some 5), (.mov (.c (.int .i64 0))), none⟩])
 (.keep [0, 1, 5]))
 (.block 0
 (.loop
 (.seq
 (.seq
 (.seq (.ops [⟨(some 6), (.mov (.t 5)), none⟩,
 ⟨(some 7), (.mov (.t 0)), none⟩,
 ⟨(some 8), (.ln (.t 7)), none⟩,
 ⟨(some 9), (.bin .lss (.t 6) (.t 8)), none⟩])
 (.keep [0, 1, 5, 9]))
 (.cond (.t 9)
 .skip
 (.exit 0)))
 (.seq
 (.block 1
 (.seq
 (.seq
 (.seq (.ops [⟨(some 12), (.mov (.t 0)), none⟩,
 ⟨(some 13), (.mov (.t 5)), none⟩,
 ⟨(some 14), (.ia 1 (.t 12) (.t 13)), none⟩,
 ⟨(some 15), (.ld 1 false (.t 14)), none⟩,
 ⟨(some 16), (.mov (.t 1)), none⟩,
 ⟨(some 17), (.bin .neq (.t 15) (.t 16)), none⟩])
 (.keep [0, 1, 5, 17]))
 (.cond (.t 17)
 (.seq
 (.seq (.ops [⟨(some 4), (.mov (.c (.int .i64 (-1)))), none⟩])
 (.keep [4]))
 .ret)
 .skip))
 (.seq (.ops [⟨(some 18), (.mov (.t 1)), none⟩,
 ⟨(some 19), (.bin .add (.t 18) (.c (.int .i64 1))), none⟩,
 ⟨(some 1), (.mov (.t 19)), none⟩])
 (.keep [0, 1, 5]))))
 (.seq (.ops [⟨(some 10), (.mov (.t 5)), none⟩,
 ⟨(some 11), (.bin .add (.t 10) (.c (.int .i64 1))), none⟩,
 ⟨(some 5), (.mov (.t 11)), none⟩])
 (.keep [0, 1, 5])))))))
 (.seq
 (.seq (.ops [⟨(some 20), (.mov (.t 1)), none⟩,
 ⟨(some 4), (.mov (.t 20)), none⟩])
 (.keep [4]))
 .ret))),
 [(.slot 4)]⟩
/-- spec Decimal -/
def F_spec_Decimal : Fun := ⟨1,
 (.seq
 (.seq (.ops [⟨(some 2), (.mov (.c (.string ⟨⟨[]⟩⟩))), none⟩])
 (.keep [0]))
 (.seq
 (.seq
 (.seq (.ops [⟨(some 6), (.mov (.t 0)), none⟩,
 ⟨(some 7), (.bin .eql (.t 6) (.c (.int .i64 0))), none⟩])
 (.keep [0, 7]))
 (.cond (.t 7)
 (.seq
 (.seq (.ops [⟨(some 2), (.mov (.c (.string ⟨⟨[48]⟩⟩))), none⟩])
 (.keep [2]))
 .ret)
 .skip))
 (.seq
 (.seq (.ops [⟨(some 8), (.mov (.t 0)), none⟩,
 ⟨(some 9), (.bin .lss (.t 8) (.c (.int .i64 0))), none⟩,
 ⟨(some 3), (.mov (.t 9)), none⟩])
 (.keep [0, 3]))
 (.seq
 (.seq (.ops [⟨(some 4), (.mov (.c (.string ⟨⟨[]⟩⟩))), none⟩])
 (.keep [0, 3, 4]))
 (.seq
 (.block 0
 (.loop
 (.seq
 (.seq
 (.seq (.ops [⟨(some 10), (.mov (.t 0)), none⟩,
 ⟨(some 11), (.bin .neq (.t 10) (.c (.int .i64 0))), none⟩])
 (.keep [0, 3, 4, 11]))
 (.cond (.t 11)
 .skip
 (.exit 0)))
 (.block 1
 (.seq
 (.seq (.ops [⟨(some 12), (.mov (.t 0)), none⟩,
 ⟨(some 13), (.bin .rem (.t 12) (.c (.int .i64 10))), none⟩,
 ⟨(some 5), (.mov (.t 13)), none⟩])
 (.keep [0, 3, 4, 5]))
 (.seq
 (.seq
 (.seq (.ops [⟨(some 14), (.mov (.t 5)), none⟩,
 ⟨(some 15), (.bin .lss (.t 14) (.c (.int .i64 0))), none⟩])
 (.keep [0, 3, 4, 5, 15]))
 (.cond (.t 15)
 (.seq (.ops [⟨(some 16), (.mov (.t 5)), none⟩,
 ⟨(some 17), (.un .neg (.t 16)), none⟩,
 ⟨(some 5), (.mov (.t 17)), none⟩])
 (.keep [0, 3, 4, 5]))
 .skip))
 (.seq
 (.seq (.ops [⟨(some 18), (.mov (.t 5)), none⟩,
 ⟨(some 19), (.call n_spec_l01Figure [(.t 18)]), none⟩,
 ⟨(some 20), (.litL 1 1 [(.int .u8 0)] [(0, (.t 19))]), none⟩,
 ⟨(some 21), (.strL 1 20), none⟩,
 ⟨(some 22), (.mov (.t 4)), none⟩,
 ⟨(some 23), (.bin .add (.t 21) (.t 22)), none⟩,
 ⟨(some 4), (.mov (.t 23)), none⟩])
 (.keep [0, 3, 4]))
 (.seq (.ops [⟨(some 24), (.mov (.t 0)), none⟩,
 ⟨(some 25), (.bin .quo (.t 24) (.c (.int .i64 10))), none⟩,
 ⟨(some 0), (.mov (.t 25)), none⟩])
 (.keep [0, 3, 4])))))))))
 (.seq
 (.seq
 (.seq (.ops [⟨(some 26), (.mov (.t 3)), none⟩])
 (.keep [4, 26]))
 (.cond (.t 26)
 (.seq
 (.seq (.ops [⟨(some 27), (.mov (.t 4)), none⟩,
 ⟨(some 28), (.bin .add (.c (.string ⟨⟨[45]⟩⟩)) (.t 27)), none⟩,
 ⟨(some 2), (.mov (.t 28)), none⟩])
 (.keep [2]))
 .ret)
 .skip))
 (.seq
 (.seq (.ops [⟨(some 29), (.mov (.t 4)), none⟩,
 ⟨(some 2), (.mov (.t 29)), none⟩])
 (.keep [2]))
 .ret))))))),
 [(.slot 2)]⟩
/-- spec DeviceNew -/
def F_spec_DeviceNew : Fun := ⟨1,
 (.seq
 (.seq (.ops [⟨(some 2), (.newL [(.slice none 0 0), (.slice none 0 0)]), none⟩,
 ⟨(some 3), (.mov (.c (.bool false))), none⟩])
 (.keep [0, 2]))
 (.seq
 (.seq
 (.seq (.ops [⟨(some 4), (.mov (.t 0)), none⟩,
 ⟨(some 5), (.call n_spec_l01In [(.t 4), (.c (.int .i64 1)), (.c (.int .i64 400))]), none⟩,
 ⟨(some 6), (.un .not (.t 5)), none⟩])
 (.keep [0, 2, 6]))
 (.cond (.t 6)
 (.seq
 (.seq (.ops [⟨(some 7), (.bld [(.slice none 0 0), (.slice none 0 0)] []), none⟩,
 ⟨none, (.stB 2 2 (.t 7)), none⟩,
 ⟨(some 3), (.mov (.c (.bool false))), none⟩])
 (.keep [2, 3]))
 .ret)
 .skip))
 (.seq
 (.seq (.ops [⟨(some 8), (.mov (.t 0)), none⟩,
 ⟨(some 9), (.mk 1 y_string 16 [(.string ⟨⟨[]⟩⟩)] (.t 8)), none⟩,
 ⟨(some 10), (.bld [(.slice none 0 0), (.slice none 0 0)] [(0, (1, (.t 9)))]), none⟩,
 ⟨none, (.stB 2 2 (.t 10)), none⟩,
 ⟨(some 3), (.mov (.c (.bool true))), none⟩])
 (.keep [2, 3]))
 .ret))),
 [(.box 2 2 true), (.slot 3)]⟩
/-- spec RootText -/
def F_spec_RootText : Fun := ⟨1,
 (.seq
 (.seq (.ops [⟨(some 1), (.boxL 2 (.t 0)), none⟩,
 ⟨(some 2), (.mov (.c (.string ⟨⟨[]⟩⟩))), none⟩,
 ⟨(some 3), (.mov (.c (.bool false))), none⟩])
 (.keep [1]))
 (.seq
 (.seq
 (.seq (.ops [⟨(some 4), (.faB 0 1), none⟩,
 ⟨(some 5), (.ldE 1 false 1 4), none⟩,
 ⟨(some 6), (.call n_spec_l01In [(.t 5), (.c (.int .i64 0)), (.c (.int .i64 1000000000))]), none⟩,
 ⟨(some 7), (.un .not (.t 6)), none⟩,
 ⟨(some 8), (.mov (.t 7)), none⟩,
 ⟨(some 9), (.faB 1 1), (some (8, false))⟩,
 ⟨(some 10), (.ldE 1 false 1 9), (some (8, false))⟩,
 ⟨(some 11), (.call n_spec_l01In [(.t 10), (.c (.int .i64 (-1))), (.c (.int .i64 399))]), (some (8, false))⟩,
 ⟨(some 12), (.un .not (.t 11)), (some (8, false))⟩,
 ⟨(some 13), (.pick (.t 8) (.c (.bool true)) (.t 12)), none⟩])
 (.keep [1, 13]))
 (.cond (.t 13)
 (.seq
 (.seq (.ops [⟨(some 2), (.mov (.c (.string ⟨⟨[]⟩⟩))), none⟩,
 ⟨(some 3), (.mov (.c (.bool false))), none⟩])
 (.keep [2, 3]))
 .ret)
 .skip))
 (.seq
 (.seq (.free true [⟨(some 14), (.faB 0 1), none⟩,
 ⟨(some 15), (.ldE 1 false 1 14), none⟩,
 ⟨(some 16), (.call n_spec_l06Big [(.t 15), (.c (.int .i64 4))]), none⟩,
 ⟨(some 17), (.bin .add (.c (.string ⟨⟨[82]⟩⟩)) (.t 16)), none⟩,
 ⟨(some 18), (.faB 1 1), none⟩,
 ⟨(some 19), (.ldE 1 false 1 18), none⟩,
 ⟨(some 20), (.bin .add (.t 19) (.c (.int .i64 1))), none⟩,
 ⟨(some 21), (.call n_spec_l06Big [(.t 20), (.c (.int .i64 2))]), none⟩,
 ⟨(some 22), (.bin .add (.t 17) (.t 21)), none⟩,
 ⟨(some 23), (.call n_spec_Sealed [(.t 22)]), none⟩,
 ⟨(some 24), (.ext 0 (.t 23)), none⟩,
 ⟨(some 25), (.ext 1 (.t 23)), none⟩,
 ⟨(some 2), (.mov (.t 24)), none⟩,
 ⟨(some 3), (.mov (.t 25)), none⟩])
 (.keep [2, 3]))
 .ret))),
 [(.slot 2), (.slot 3)]⟩
/-- spec l16Commas -/
def F_spec_l16Commas : Fun := ⟨1,
 (.seq
 (.seq (.ops [⟨(some 2), (.mov (.c (.slice none 0 0))), none⟩,
 ⟨(some 3), (.mov (.c (.bool false))), none⟩])
 (.keep [0]))
 (.seq
 (.seq (.ops [⟨(some 9), (.lit 0 1 y_int [(.int .i64 0)] []), none⟩,
 ⟨(some 4), (.mov (.t 9)), none⟩])
 (.keep [0, 4]))
 (.seq
 (.seq (.ops [⟨(some 5), (.mov (.c (.int .i64 0))), none⟩])
 (.keep [0, 4, 5]))
 (.seq
 (.seq
 (.seq (.ops [⟨(some 6), (.mov (.c (.int .i64 0))), none⟩])
 (.keep [0, 4, 5, 6]))
 (.block 0
 (.loop
 (.seq
 (.seq
 (.seq (.ops [⟨(some 10), (.mov (.t 6)), none⟩,
 ⟨(some 11), (.mov (.t 0)), none⟩,
 ⟨(some 12), (.lnS (.t 11)), none⟩,
 ⟨(some 13), (.bin .leq (.t 10) (.t 12)), none⟩])
 (.keep [0, 4, 5, 6, 13]))
 (.cond (.t 13)
 .skip
 (.exit 0)))
 (.seq
 (.block 1
 (.seq
 (.seq
 (.seq (.ops [⟨(some 16), (.mov (.t 6)), none⟩,
 ⟨(some 17), (.mov (.t 0)), none⟩,
 ⟨(some 18), (.lnS (.t 17)), none⟩,
 ⟨(some 19), (.bin .lss (.t 16) (.t 18)), none⟩,
 ⟨(some 20), (.mov (.t 19)), none⟩,
 ⟨(some 21), (.mov (.t 0)), (some (20, true))⟩,
 ⟨(some 22), (.mov (.t 6)), (some (20, true))⟩,
 ⟨(some 23), (.ix (.t 21) (.t 22)), (some (20, true))⟩,
 ⟨(some 24), (.bin .neq (.t 23) (.c (.int .u8 44))), (some (20, true))⟩,
 ⟨(some 25), (.pick (.t 20) (.t 24) (.c (.bool false))), none⟩])
 (.keep [0, 4, 5, 6, 25]))
 (.cond (.t 25)
 (.exit 1)
 .skip))
 (.seq
 (.seq (.ops [⟨(some 27), (.mov (.t 0)), none⟩,
 ⟨(some 28), (.mov (.t 5)), none⟩,
 ⟨(some 29), (.mov (.t 6)), none⟩,
 ⟨(some 30), (.slS (.t 27) (some (.t 28)) (some (.t 29))), none⟩,
 ⟨(some 31), (.call n_spec_ReadDecimal [(.t 30)]), none⟩,
 ⟨(some 26), (.mov (.t 31)), none⟩,
 ⟨(some 32), (.ext 0 (.t 26)), none⟩,
 ⟨(some 33), (.ext 1 (.t 26)), none⟩,
 ⟨(some 7), (.mov (.t 32)), none⟩,
 ⟨(some 8), (.mov (.t 33)), none⟩])
 (.keep [0, 4, 6, 7, 8]))
 (.seq
 (.seq
 (.seq (.ops [⟨(some 34), (.mov (.t 8)), none⟩,
 ⟨(some 35), (.un .not (.t 34)), none⟩])
 (.keep [0, 4, 6, 7, 35]))
 (.cond (.t 35)
 (.seq
 (.seq (.ops [⟨(some 36), (.lit 0 1 y_int [(.int .i64 0)] []), none⟩,
 ⟨(some 2), (.mov (.t 36)), none⟩,
 ⟨(some 3), (.mov (.c (.bool false))), none⟩])
 (.keep [2, 3]))
 .ret)
 .skip))
 (.seq
 (.seq (.ops [⟨(some 37), (.mov (.t 4)), none⟩,
 ⟨(some 38), (.mov (.t 7)), none⟩,
 ⟨(some 39), (.litL 1 1 [(.int .i64 0)] [(0, (.t 38))]), none⟩,
 ⟨(some 40), (.appL 1 y_int 8 1 (.t 37) 39), none⟩,
 ⟨(some 4), (.mov (.t 40)), none⟩])
 (.keep [0, 4, 6]))
 (.seq (.ops [⟨(some 41), (.mov (.t 6)), none⟩,
 ⟨(some 42), (.bin .add (.t 41) (.c (.int .i64 1))), none⟩,
 ⟨(some 5), (.mov (.t 42)), none⟩])
 (.keep [0, 4, 5, 6])))))))
 (.seq (.ops [⟨(some 14), (.mov (.t 6)), none⟩,
 ⟨(some 15), (.bin .add (.t 14) (.c (.int .i64 1))), none⟩,
 ⟨(some 6), (.mov (.t 15)), none⟩])
 (.keep [0, 4, 5, 6])))))))
 (.seq
 (.seq (.ops [⟨(some 43), (.mov (.t 4)), none⟩,
 ⟨(some 2), (.mov (.t 43)), none⟩,
 ⟨(some 3), (.mov (.c (.bool true))), none⟩])
 (.keep [2, 3]))
 .ret))))),
 [(.slot 2), (.slot 3)]⟩
/-- spec l16Ask -/
def F_spec_l16Ask : Fun := ⟨1,
 (.seq
 (.seq (.ops [⟨(some 2), (.mov (.c (.string ⟨⟨[]⟩⟩))), none⟩,
 ⟨(some 3), (.mov (.c (.bool false))), none⟩])
 (.keep [0]))
 (.seq
 (.seq
 (.seq (.ops [⟨(some 10), (.mov (.t 0)), none⟩,
 ⟨(some 11), (.ln (.t 10)), none⟩,
 ⟨(some 12), (.bin .eql (.t 11) (.c (.int .i64 2))), none⟩,
 ⟨(some 13), (.mov (.t 12)), none⟩,
 ⟨(some 14), (.mov (.t 0)), (some (13, true))⟩,
 ⟨(some 15), (.ia 1 (.t 14) (.c (.int .i64 0))), (some (13, true))⟩,
 ⟨(some 16), (.ld 1 false (.t 15)), (some (13, true))⟩,
 ⟨(some 17), (.bin .eql (.t 16) (.c (.string ⟨⟨[114, 97, 119]⟩⟩))), (some (13, true))⟩,
 ⟨(some 18), (.pick (.t 13) (.t 17) (.c (.bool false))), none⟩])
 (.keep [0, 18]))
 (.cond (.t 18)
 (.seq
 (.seq (.ops [⟨(some 19), (.mov (.t 0)), none⟩,
 ⟨(some 20), (.ia 1 (.t 19) (.c (.int .i64 1))), none⟩,
 ⟨(some 21), (.ld 1 false (.t 20)), none⟩,
 ⟨(some 22), (.call n_spec_Unhex [(.t 21)]), none⟩,
 ⟨(some 23), (.ext 0 (.t 22)), none⟩,
 ⟨(some 24), (.ext 1 (.t 22)), none⟩,
 ⟨(some 2), (.mov (.t 23)), none⟩,
 ⟨(some 3), (.mov (.t 24)), none⟩])
 (.keep [2, 3]))
 .ret)
 .skip))
 (.seq
 (.seq
 (.seq (.ops [⟨(some 25), (.mov (.t 0)), none⟩,
 ⟨(some 26), (.ln (.t 25)), none⟩,
 ⟨(some 27), (.bin .eql (.t 26) (.c (.int .i64 0))), none⟩])
 (.keep [0, 27]))
 (.cond (.t 27)
 (.seq
 (.seq (.ops [⟨(some 2), (.mov (.c (.string ⟨⟨[]⟩⟩))), none⟩,
 ⟨(some 3), (.mov (.c (.bool false))), none⟩])
 (.keep [2, 3]))
 .ret)
 .skip))
 (.seq
 (.seq (.ops [⟨(some 29), (.mov (.t 0)), none⟩,
 ⟨(some 30), (.ia 1 (.t 29) (.c (.int .i64 0))), none⟩,
 ⟨(some 31), (.ld 1 false (.t 30)), none⟩,
 ⟨(some 32), (.call n_spec_l16Word [(.t 31)]), none⟩,
 ⟨(some 28), (.mov (.t 32)), none⟩,
 ⟨(some 33), (.ext 0 (.t 28)), none⟩,
 ⟨(some 34), (.ext 1 (.t 28)), none⟩,
 ⟨(some 4), (.mov (.t 33)), none⟩,
 ⟨(some 5), (.mov (.t 34)), none⟩])
 (.keep [0, 4, 5]))
 (.seq
 (.seq
 (.seq (.ops [⟨(some 35), (.mov (.t 5)), none⟩,
 ⟨(some 36), (.bin .lss (.t 35) (.c (.int .i64 0))), none⟩,
 ⟨(some 37), (.mov (.t 36)), none⟩,
 ⟨(some 38), (.mov (.t 0)), (some (37, false))⟩,
 ⟨(some 39), (.ln (.t 38)), (some (37, false))⟩,
 ⟨(some 40), (.mov (.t 5)), (some (37, false))⟩,
 ⟨(some 41), (.bin .add (.t 40) (.c (.int .i64 1))), (some (37, false))⟩,
 ⟨(some 42), (.bin .neq (.t 39) (.t 41)), (some (37, false))⟩,
 ⟨(some 43), (.pick (.t 37) (.c (.bool true)) (.t 42)), none⟩])
 (.keep [0, 4, 5, 43]))
 (.cond (.t 43)
 (.seq
 (.seq (.ops [⟨(some 2), (.mov (.c (.string ⟨⟨[]⟩⟩))), none⟩,
 ⟨(some 3), (.mov (.c (.bool false))), none⟩])
 (.keep [2, 3]))
 .ret)
 .skip))
 (.seq
 (.seq (.ops [⟨(some 44), (.lit 5 1 y_int [(.int .i64 0)] [(0, (.c (.int .i64 0))), (1, (.c (.int .i64 0))), (2, (.c (.int .i64 0))), (3, (.c (.int .i64 0))), (4, (.c (.int .i64 0)))]), none⟩,
 ⟨(some 6), (.mov (.t 44)), none⟩])
 (.keep [0, 4, 5, 6]))
 (.seq
 (.seq
 (.seq (.ops [⟨(some 7), (.mov (.c (.int .i64 0))), none⟩])
 (.keep [0, 4, 5, 6, 7]))
 (.block 0
 (.loop
 (.seq
 (.seq
 (.seq (.ops [⟨(some 45), (.mov (.t 7)), none⟩,
 ⟨(some 46), (.mov (.t 5)), none⟩,
 ⟨(some 47), (.bin .lss (.t 45) (.t 46)), none⟩])
 (.keep [0, 4, 5, 6, 7, 47]))
 (.cond (.t 47)
 .skip
 (.exit 0)))
 (.seq
 (.block 1
 (.seq
 (.seq (.ops [⟨(some 51), (.mov (.t 0)), none⟩,
 ⟨(some 52), (.mov (.t 7)), none⟩,
 ⟨(some 53), (.bin .add (.c (.int .i64 1)) (.t 52)), none⟩,
 ⟨(some 54), (.ia 1 (.t 51) (.t 53)), none⟩,
 ⟨(some 55), (.ld 1 false (.t 54)), none⟩,
 ⟨(some 56), (.call n_spec_ReadDecimal [(.t 55)]), none⟩,
 ⟨(some 50), (.mov (.t 56)), none⟩,
 ⟨(some 57), (.ext 0 (.t 50)), none⟩,
 ⟨(some 58), (.ext 1 (.t 50)), none⟩,
 ⟨(some 8), (.mov (.t 57)), none⟩,
 ⟨(some 9), (.mov (.t 58)), none⟩])
 (.keep [0, 4, 5, 6, 7, 8, 9]))
 (.seq
 (.seq
 (.seq (.ops [⟨(some 59), (.mov (.t 9)), none⟩,
 ⟨(some 60), (.un .not (.t 59)), none⟩])
 (.keep [0, 4, 5, 6, 7, 8, 60]))
 (.cond (.t 60)
 (.seq
 (.seq (.ops [⟨(some 2), (.mov (.c (.string ⟨⟨[]⟩⟩))), none⟩,
 ⟨(some 3), (.mov (.c (.bool false))), none⟩])
 (.keep [2, 3]))
 .ret)
 .skip))
 (.seq (.ops [⟨(some 61), (.mov (.t 6)), none⟩,
 ⟨(some 62), (.mov (.t 7)), none⟩,
 ⟨(some 63), (.mov (.t 8)), none⟩,
 ⟨(some 64), (.ia 1 (.t 61) (.t 62)), none⟩,
 ⟨none, (.st 1 (.t 64) (.t 63)), none⟩])
 (.keep [0, 4, 5, 6, 7])))))
 (.seq (.ops [⟨(some 48), (.mov (.t 7)), none⟩,
 ⟨(some 49), (.bin .add (.t 48) (.c (.int .i64 1))), none⟩,
 ⟨(some 7), (.mov (.t 49)), none⟩])
 (.keep [0, 4, 5, 6, 7])))))))
 (.seq
 (.seq (.free true [⟨(some 65), (.mov (.t 4)), none⟩,
 ⟨(some 66), (.mov (.t 6)), none⟩,
 ⟨(some 67), (.ia 1 (.t 66) (.c (.int .i64 0))), none⟩,
 ⟨(some 68), (.ld 1 false (.t 67)), none⟩,
 ⟨(some 69), (.mov (.t 6)), none⟩,
 ⟨(some 70), (.ia 1 (.t 69) (.c (.int .i64 1))), none⟩,
 ⟨(some 71), (.ld 1 false (.t 70)), none⟩,
 ⟨(some 72), (.mov (.t 6)), none⟩,
 ⟨(some 73), (.ia 1 (.t 72) (.c (.int .i64 2))), none⟩,
 ⟨(some 74), (.ld 1 false (.t 73)), none⟩,
 ⟨(some 75), (.mov (.t 6)), none⟩,
 ⟨(some 76), (.ia 1 (.t 75) (.c (.int .i64 3))), none⟩,
 ⟨(some 77), (.ld 1 false (.t 76)), none⟩,
 ⟨(some 78), (.mov (.t 6)), none⟩,
 ⟨(some 79), (.ia 1 (.t 78) (.c (.int .i64 4))), none⟩,
 ⟨(some 80), (.ld 1 false (.t 79)), none⟩,
 ⟨(some 81), (.bld [(.int .i64 0), (.int .i64 0), (.int .i64 0), (.int .i64 0), (.int .i64 0), (.int .i64 0)] [(0, (1, (.t 65))), (1, (1, (.t 68))), (2, (1, (.t 71))), (3, (1, (.t 74))), (4, (1, (.t 77))), (5, (1, (.t 80)))]), none⟩,
 ⟨(some 82), (.call n_spec_AskText [(.t 81)]), none⟩,
 ⟨(some 83), (.ext 0 (.t 82)), none⟩,
 ⟨(some 84), (.ext 1 (.t 82)), none⟩,
 ⟨(some 2), (.mov (.t 83)), none⟩,
 ⟨(some 3), (.mov (.t 84)), none⟩])
 (.keep [2, 3]))
 .ret)))))))),
 [(.slot 2), (.slot 3)]⟩
/-- spec DeedOk -/
def F_spec_DeedOk : Fun := ⟨1,
 (.seq
 (.seq (.ops [⟨(some 1), (.boxL 6 (.t 0)), none⟩,
 ⟨(some 2), (.mov (.c (.bool false))), none⟩])
 (.keep [1]))
 (.seq
 (.seq (.ops [⟨(some 3), (.faB 0 1), none⟩,
 ⟨(some 4), (.ldE 1 false 1 3), none⟩,
 ⟨(some 5), (.lnS (.t 4)), none⟩,
 ⟨(some 6), (.bin .leq (.t 5) (.c (.int .i64 40))), none⟩,
 ⟨(some 7), (.mov (.t 6)), none⟩,
 ⟨(some 8), (.faB 2 1), (some (7, true))⟩,
 ⟨(some 9), (.ldE 1 false 1 8), (some (7, true))⟩,
 ⟨(some 10), (.call n_spec_l01In [(.t 9), (.c (.int .i64 0)), (.c (.int .i64 1))]), (some (7, true))⟩,
 ⟨(some 11), (.pick (.t 7) (.t 10) (.c (.bool false))), none⟩,
 ⟨(some 12), (.mov (.t 11)), none⟩,
 ⟨(some 13), (.faB 3 1), (some (12, true))⟩,
 ⟨(some 14), (.ldE 1 false 1 13), (some (12, true))⟩,
 ⟨(some 15), (.ln (.t 14)), (some (12, true))⟩,
 ⟨(some 16), (.bin .leq (.t 15) (.c (.int .i64 60))), (some (12, true))⟩,
 ⟨(some 17), (.pick (.t 12) (.t 16) (.c (.bool false))), none⟩,
 ⟨(some 18), (.mov (.t 17)), none⟩,
 ⟨(some 19), (.faB 5 1), (some (18, true))⟩,
 ⟨(some 20), (.ldE 1 false 1 19), (some (18, true))⟩,
 ⟨(some 21), (.call n_spec_l01In [(.t 20), (.c (.int .i64 0)), (.c (.int .i64 64))]), (some (18, true))⟩,
 ⟨(some 22), (.pick (.t 18) (.t 21) (.c (.bool false))), none⟩,
 ⟨(some 2), (.mov (.t 22)), none⟩])
 (.keep [2]))
 .ret)),
 [(.slot 2)]⟩
/-- strings Split -/
def F_strings_Split : Fun := ⟨2,
 (.seq
 (.seq (.ops [⟨(some 4), (.mov (.c (.slice none 0 0))), none⟩])
 (.keep [0, 1]))
 (.seq
 (.seq (.ops [⟨(some 5), (.mov (.t 0)), none⟩,
 ⟨(some 6), (.mov (.t 1)), none⟩,
 ⟨(some 7), (.call n_strings_genSplit [(.t 5), (.t 6), (.c (.int .i64 0)), (.c (.int .i64 (-1)))]), none⟩,
 ⟨(some 4), (.mov (.t 7)), none⟩])
 (.keep [4]))
 .ret)),
 [(.slot 4)]⟩
/-- impl FormatStore -/
def F_impl_FormatStore : Fun := ⟨1,
 (.seq
 (.seq (.ops [⟨(some 2), (.newL [(.slice none 0 0), (.slice none 0 0), (.slice none 0 0), (.int .i64 0), (.int .i64 0)]), none⟩,
 ⟨(some 3), (.mov (.c (.bool false))), none⟩])
 (.keep [0, 2]))
 (.seq
 (.seq
 (.seq (.ops [⟨(some 8), (.mov (.t 0)), none⟩,
 ⟨(some 9), (.call n_impl_in [(.t 8), (.c (.int .i64 4)), (.c (.int .i64 400))]), none⟩,
 ⟨(some 10), (.un .not (.t 9)), none⟩])
 (.keep [0, 2, 10]))
 (.cond (.t 10)
 (.seq
 (.seq (.ops [⟨(some 11), (.bld [(.slice none 0 0), (.slice none 0 0), (.slice none 0 0), (.int .i64 0), (.int .i64 0)] []), none⟩,
 ⟨none, (.stB 5 2 (.t 11)), none⟩,
 ⟨(some 3), (.mov (.c (.bool false))), none⟩])
 (.keep [2, 3]))
 .ret)
 .skip))
 (.seq
 (.seq (.ops [⟨(some 13), (.mov (.t 0)), none⟩,
 ⟨(some 14), (.call n_impl_DeviceNew [(.t 13)]), none⟩,
 ⟨(some 12), (.mov (.t 14)), none⟩,
 ⟨(some 15), (.ext 0 (.t 12)), none⟩,
 ⟨(some 16), (.ext 1 (.t 12)), none⟩,
 ⟨(some 4), (.newL [(.slice none 0 0), (.slice none 0 0)]), none⟩,
 ⟨none, (.stB 2 4 (.t 15)), none⟩,
 ⟨(some 5), (.mov (.t 16)), none⟩])
 (.keep [2, 4]))
 (.seq
 (.seq (.ops [⟨(some 18), (.bld [(.int .i64 0), (.int .i64 0)] [(0, (1, (.c (.int .i64 0)))), (1, (1, (.c (.int .i64 (-1)))))]), none⟩,
 ⟨(some 19), (.call n_impl_RootText [(.t 18)]), none⟩,
 ⟨(some 17), (.mov (.t 19)), none⟩,
 ⟨(some 20), (.ext 0 (.t 17)), none⟩,
 ⟨(some 21), (.ext 1 (.t 17)), none⟩,
 ⟨(some 6), (.mov (.t 20)), none⟩,
 ⟨(some 7), (.mov (.t 21)), none⟩])
 (.keep [2, 4, 6]))
 (.seq
 (.seq (.ops [⟨(some 22), (.faB 0 4), none⟩,
 ⟨(some 23), (.ldE 1 false 4 22), none⟩,
 ⟨(some 24), (.mov (.t 6)), none⟩,
 ⟨(some 25), (.ia 1 (.t 23) (.c (.int .i64 0))), none⟩,
 ⟨none, (.st 1 (.t 25) (.t 24)), none⟩])
 (.keep [2, 4]))
 (.seq
 (.seq (.ops [⟨(some 26), (.ldB 2 true 4), none⟩,
 ⟨(some 27), (.bld [(.int .i64 0), (.int .i64 0)] [(0, (1, (.c (.int .i64 0)))), (1, (1, (.c (.int .i64 (-1)))))]), none⟩,
 ⟨(some 28), (.bld [(.slice none 0 0), (.slice none 0 0), (.slice none 0 0), (.int .i64 0), (.int .i64 0)] [(0, (2, (.t 26))), (3, (2, (.t 27)))]), none⟩,
 ⟨none, (.stB 5 2 (.t 28)), none⟩,
 ⟨(some 3), (.mov (.c (.bool true))), none⟩])
 (.keep [2, 3]))
 .ret)))))),
 [(.box 2 5 true), (.slot 3)]⟩
/-- impl numbers -/
def F_impl_numbers : Fun := ⟨1,
 (.seq
 (.seq (.ops [⟨(some 2), (.mov (.c (.slice none 0 0))), none⟩,
 ⟨(some 3), (.mov (.c (.bool false))), none⟩])
 (.keep [0]))
 (.seq
 (.seq (.ops [⟨(some 4), (.mov (.c (.slice none 0 0))), none⟩])
 (.keep [0, 4]))
 (.seq
 (.seq
 (.seq (.ops [⟨(some 9), (.mov (.t 0)), none⟩,
 ⟨(some 10), (.ln (.t 9)), none⟩,
 ⟨(some 11), (.mov (.c (.int .i64 0))), none⟩])
 (.keep [4, 9, 10, 11]))
 (.block 0
 (.loop
 (.seq
 (.seq (.ops [⟨(some 12), (.bin .lss (.t 11) (.t 10)), none⟩])
 (.keep [4, 9, 10, 11, 12]))
 (.seq
 (.cond (.t 12)
 .skip
 (.exit 0))
 (.seq
 (.block 1
 (.seq
 (.seq (.ops [⟨(some 13), (.ia 1 (.t 9) (.t 11)), none⟩,
 ⟨(some 14), (.ld 1 false (.t 13)), none⟩,
 ⟨(some 6), (.mov (.t 14)), none⟩])
 (.keep [4, 6, 9, 10, 11]))
 (.seq
 (.seq (.ops [⟨(some 16), (.mov (.t 6)), none⟩,
 ⟨(some 17), (.call n_impl_ReadDecimal [(.t 16)]), none⟩,
 ⟨(some 15), (.mov (.t 17)), none⟩,
 ⟨(some 18), (.ext 0 (.t 15)), none⟩,
 ⟨(some 19), (.ext 1 (.t 15)), none⟩,
 ⟨(some 7), (.mov (.t 18)), none⟩,
 ⟨(some 8), (.mov (.t 19)), none⟩])
 (.keep [4, 7, 8, 9, 10, 11]))
 (.seq
 (.seq
 (.seq (.ops [⟨(some 20), (.mov (.t 8)), none⟩,
 ⟨(some 21), (.un .not (.t 20)), none⟩])
 (.keep [4, 7, 9, 10, 11, 21]))
 (.cond (.t 21)
 (.seq
 (.seq (.ops [⟨(some 2), (.mov (.c (.slice none 0 0))), none⟩,
 ⟨(some 3), (.mov (.c (.bool false))), none⟩])
 (.keep [2, 3]))
 .ret)
 .skip))
 (.seq (.ops [⟨(some 22), (.mov (.t 4)), none⟩,
 ⟨(some 23), (.mov (.t 7)), none⟩,
 ⟨(some 24), (.litL 1 1 [(.int .i64 0)] [(0, (.t 23))]), none⟩,
 ⟨(some 25), (.appL 1 y_int 8 1 (.t 22) 24), none⟩,
 ⟨(some 4), (.mov (.t 25)), none⟩])
 (.keep [4, 9, 10, 11]))))))
 (.seq (.ops [⟨(some 26), (.bin .add (.t 11) (.c (.int .i64 1))), none⟩,
 ⟨(some 11), (.mov (.t 26)), none⟩])
 (.keep [4, 9, 10, 11]))))))))
 (.seq
 (.seq (.ops [⟨(some 27), (.mov (.t 4)), none⟩,
 ⟨(some 2), (.mov (.t 27)), none⟩,
 ⟨(some 3), (.mov (.c (.bool true))), none⟩])
 (.keep [2, 3]))
 .ret)))),
 [(.slot 2), (.slot 3)]⟩
/-- impl textOf -/
def F_impl_textOf : Fun := ⟨1,
 (.seq
 (.seq (.ops [⟨(some 2), (.mov (.c (.string ⟨⟨[]⟩⟩))), none⟩,
 ⟨(some 3), (.mov (.c (.bool false))), none⟩])
 (.keep [0]))
 (.seq
 (.seq
 (.seq (.ops [⟨(some 13), (.mov (.t 0)), none⟩,
 ⟨(some 14), (.ln (.t 13)), none⟩,
 ⟨(some 15), (.bin .eql (.t 14) (.c (.int .i64 2))), none⟩,
 ⟨(some 16), (.mov (.t 15)), none⟩,
 ⟨(some 17), (.mov (.t 0)), (some (16, true))⟩,
 ⟨(some 18), (.ia 1 (.t 17) (.c (.int .i64 0))), (some (16, true))⟩,
 ⟨(some 19), (.ld 1 false (.t 18)), (some (16, true))⟩,
 ⟨(some 20), (.bin .eql (.t 19) (.c (.string ⟨⟨[114, 97, 119]⟩⟩))), (some (16, true))⟩,
 ⟨(some 21), (.pick (.t 16) (.t 20) (.c (.bool false))), none⟩])
 (.keep [0, 21]))
 (.cond (.t 21)
 (.seq
 (.seq (.ops [⟨(some 23), (.mov (.t 0)), none⟩,
 ⟨(some 24), (.ia 1 (.t 23) (.c (.int .i64 1))), none⟩,
 ⟨(some 25), (.ld 1 false (.t 24)), none⟩,
 ⟨(some 26), (.call n_impl_Unhex [(.t 25)]), none⟩,
 ⟨(some 22), (.mov (.t 26)), none⟩,
 ⟨(some 27), (.ext 0 (.t 22)), none⟩,
 ⟨(some 28), (.ext 1 (.t 22)), none⟩,
 ⟨(some 4), (.mov (.t 27)), none⟩,
 ⟨(some 5), (.mov (.t 28)), none⟩])
 (.keep [4, 5]))
 (.seq
 (.seq (.ops [⟨(some 29), (.mov (.t 4)), none⟩,
 ⟨(some 30), (.mov (.t 5)), none⟩,
 ⟨(some 2), (.mov (.t 29)), none⟩,
 ⟨(some 3), (.mov (.t 30)), none⟩])
 (.keep [2, 3]))
 .ret))
 .skip))
 (.seq
 (.seq
 (.seq (.ops [⟨(some 31), (.mov (.t 0)), none⟩,
 ⟨(some 32), (.ln (.t 31)), none⟩,
 ⟨(some 33), (.bin .eql (.t 32) (.c (.int .i64 0))), none⟩])
 (.keep [0, 33]))
 (.cond (.t 33)
 (.seq
 (.seq (.ops [⟨(some 2), (.mov (.c (.string ⟨⟨[]⟩⟩))), none⟩,
 ⟨(some 3), (.mov (.c (.bool false))), none⟩])
 (.keep [2, 3]))
 .ret)
 .skip))
 (.seq
 (.seq (.ops [⟨(some 35), (.mov (.t 0)), none⟩,
 ⟨(some 36), (.ia 1 (.t 35) (.c (.int .i64 0))), none⟩,
 ⟨(some 37), (.ld 1 false (.t 36)), none⟩,
 ⟨(some 38), (.call n_impl_opOf [(.t 37)]), none⟩,
 ⟨(some 34), (.mov (.t 38)), none⟩,
 ⟨(some 39), (.ext 0 (.t 34)), none⟩,
 ⟨(some 40), (.ext 1 (.t 34)), none⟩,
 ⟨(some 6), (.mov (.t 39)), none⟩,
 ⟨(some 7), (.mov (.t 40)), none⟩])
 (.keep [0, 6, 7]))
 (.seq
 (.seq (.ops [⟨(some 42), (.mov (.t 0)), none⟩,
 ⟨(some 43), (.slL 1 (.t 42) (some (.c (.int .i64 1))) none), none⟩,
 ⟨(some 44), (.call n_impl_numbers [(.t 43)]), none⟩,
 ⟨(some 41), (.mov (.t 44)), none⟩,
 ⟨(some 45), (.ext 0 (.t 41)), none⟩,
 ⟨(some 46), (.ext 1 (.t 41)), none⟩,
 ⟨(some 8), (.mov (.t 45)), none⟩,
 ⟨(some 9), (.mov (.t 46)), none⟩])
 (.keep [6, 7, 8, 9]))
 (.seq
 (.seq
 (.seq (.ops [⟨(some 47), (.mov (.t 6)), none⟩,
 ⟨(some 48), (.bin .eql (.t 47) (.c (.int .i64 0))), none⟩,
 ⟨(some 49), (.mov (.t 48)), none⟩,
 ⟨(some 50), (.mov (.t 9)), (some (49, false))⟩,
 ⟨(some 51), (.un .not (.t 50)), (some (49, false))⟩,
 ⟨(some 52), (.pick (.t 49) (.c (.bool true)) (.t 51)), none⟩,
 ⟨(some 53), (.mov (.t 52)), none⟩,
 ⟨(some 54), (.mov (.t 8)), (some (53, false))⟩,
 ⟨(some 55), (.ln (.t 54)), (some (53, false))⟩,
 ⟨(some 56), (.mov (.t 7)), (some (53, false))⟩,
 ⟨(some 57), (.bin .neq (.t 55) (.t 56)), (some (53, false))⟩,
 ⟨(some 58), (.pick (.t 53) (.c (.bool true)) (.t 57)), none⟩])
 (.keep [6, 7, 8, 58]))
 (.cond (.t 58)
 (.seq
 (.seq (.ops [⟨(some 2), (.mov (.c (.string ⟨⟨[]⟩⟩))), none⟩,
 ⟨(some 3), (.mov (.c (.bool false))), none⟩])
 (.keep [2, 3]))
 .ret)
 .skip))
 (.seq
 (.seq (.ops [⟨(some 59), (.mov (.t 6)), none⟩,
 ⟨(some 60), (.bld [(.int .i64 0), (.int .i64 0), (.int .i64 0), (.int .i64 0), (.int .i64 0), (.int .i64 0)] [(0, (1, (.t 59)))]), none⟩,
 ⟨(some 10), (.newL [(.int .i64 0), (.int .i64 0), (.int .i64 0), (.int .i64 0), (.int .i64 0), (.int .i64 0)]), none⟩,
 ⟨none, (.stB 6 10 (.t 60)), none⟩])
 (.keep [7, 8, 10]))
 (.seq
 (.seq
 (.seq (.ops [⟨(some 61), (.mov (.t 7)), none⟩,
 ⟨(some 62), (.bin .gtr (.t 61) (.c (.int .i64 0))), none⟩])
 (.keep [7, 8, 10, 62]))
 (.cond (.t 62)
 (.seq (.ops [⟨(some 63), (.mov (.t 8)), none⟩,
 ⟨(some 64), (.ia 1 (.t 63) (.c (.int .i64 0))), none⟩,
 ⟨(some 65), (.ld 1 false (.t 64)), none⟩,
 ⟨(some 66), (.faB 1 10), none⟩,
 ⟨none, (.stE 1 10 66 (.t 65)), none⟩])
 (.keep [7, 8, 10]))
 .skip))
 (.seq
 (.seq
 (.seq (.ops [⟨(some 67), (.mov (.t 7)), none⟩,
 ⟨(some 68), (.bin .eql (.t 67) (.c (.int .i64 5))), none⟩])
 (.keep [8, 10, 68]))
 (.cond (.t 68)
 (.seq (.free true [⟨(some 69), (.mov (.t 8)), none⟩,
 ⟨(some 70), (.ia 1 (.t 69) (.c (.int .i64 1))), none⟩,
 ⟨(some 71), (.ld 1 false (.t 70)), none⟩,
 ⟨(some 72), (.mov (.t 8)), none⟩,
 ⟨(some 73), (.ia 1 (.t 72) (.c (.int .i64 2))), none⟩,
 ⟨(some 74), (.ld 1 false (.t 73)), none⟩,
 ⟨(some 75), (.mov (.t 8)), none⟩,
 ⟨(some 76), (.ia 1 (.t 75) (.c (.int .i64 3))), none⟩,
 ⟨(some 77), (.ld 1 false (.t 76)), none⟩,
 ⟨(some 78), (.mov (.t 8)), none⟩,
 ⟨(some 79), (.ia 1 (.t 78) (.c (.int .i64 4))), none⟩,
 ⟨(some 80), (.ld 1 false (.t 79)), none⟩,
 ⟨(some 81), (.faB 2 10), none⟩,
 ⟨none, (.stE 1 10 81 (.t 71)), none⟩,
 ⟨(some 82), (.faB 3 10), none⟩,
 ⟨none, (.stE 1 10 82 (.t 74)), none⟩,
 ⟨(some 83), (.faB 4 10), none⟩,
 ⟨none, (.stE 1 10 83 (.t 77)), none⟩,
 ⟨(some 84), (.faB 5 10), none⟩,
 ⟨none, (.stE 1 10 84 (.t 80)), none⟩])
 (.keep [10]))
 .skip))
 (.seq
 (.seq (.ops [⟨(some 86), (.ldB 6 true 10), none⟩,
 ⟨(some 87), (.call n_impl_AskText [(.t 86)]), none⟩,
 ⟨(some 85), (.mov (.t 87)), none⟩,
 ⟨(some 88), (.ext 0 (.t 85)), none⟩,
 ⟨(some 89), (.ext 1 (.t 85)), none⟩,
 ⟨(some 11), (.mov (.t 88)), none⟩,
 ⟨(some 12), (.mov (.t 89)), none⟩])
 (.keep [11, 12]))
 (.seq
 (.seq (.ops [⟨(some 90), (.mov (.t 11)), none⟩,
 ⟨(some 91), (.mov (.t 12)), none⟩,
 ⟨(some 2), (.mov (.t 90)), none⟩,
 ⟨(some 3), (.mov (.t 91)), none⟩])
 (.keep [2, 3]))
 .ret))))))))))),
 [(.slot 2), (.slot 3)]⟩
/-- impl DeedOk -/
def F_impl_DeedOk : Fun := ⟨1,
 (.seq
 (.seq (.ops [⟨(some 1), (.boxL 6 (.t 0)), none⟩,
 ⟨(some 2), (.mov (.c (.bool false))), none⟩])
 (.keep [1]))
 (.seq
 (.seq (.ops [⟨(some 3), (.faB 0 1), none⟩,
 ⟨(some 4), (.ldE 1 false 1 3), none⟩,
 ⟨(some 5), (.lnS (.t 4)), none⟩,
 ⟨(some 6), (.bin .leq (.t 5) (.c (.int .i64 40))), none⟩,
 ⟨(some 7), (.mov (.t 6)), none⟩,
 ⟨(some 8), (.faB 2 1), (some (7, true))⟩,
 ⟨(some 9), (.ldE 1 false 1 8), (some (7, true))⟩,
 ⟨(some 10), (.call n_impl_in [(.t 9), (.c (.int .i64 0)), (.c (.int .i64 1))]), (some (7, true))⟩,
 ⟨(some 11), (.pick (.t 7) (.t 10) (.c (.bool false))), none⟩,
 ⟨(some 12), (.mov (.t 11)), none⟩,
 ⟨(some 13), (.faB 3 1), (some (12, true))⟩,
 ⟨(some 14), (.ldE 1 false 1 13), (some (12, true))⟩,
 ⟨(some 15), (.ln (.t 14)), (some (12, true))⟩,
 ⟨(some 16), (.bin .leq (.t 15) (.c (.int .i64 60))), (some (12, true))⟩,
 ⟨(some 17), (.pick (.t 12) (.t 16) (.c (.bool false))), none⟩,
 ⟨(some 18), (.mov (.t 17)), none⟩,
 ⟨(some 19), (.faB 5 1), (some (18, true))⟩,
 ⟨(some 20), (.ldE 1 false 1 19), (some (18, true))⟩,
 ⟨(some 21), (.call n_impl_in [(.t 20), (.c (.int .i64 0)), (.c (.int .i64 64))]), (some (18, true))⟩,
 ⟨(some 22), (.pick (.t 18) (.t 21) (.c (.bool false))), none⟩,
 ⟨(some 2), (.mov (.t 22)), none⟩])
 (.keep [2]))
 .ret)),
 [(.slot 2)]⟩
/-- laws eqIntS -/
def F_laws_eqIntS : Fun := ⟨2,
 (.seq
 (.seq (.ops [⟨(some 4), (.mov (.c (.bool false))), none⟩])
 (.keep [0, 1]))
 (.seq
 (.seq
 (.seq (.ops [⟨(some 6), (.mov (.t 0)), none⟩,
 ⟨(some 7), (.ln (.t 6)), none⟩,
 ⟨(some 8), (.mov (.t 1)), none⟩,
 ⟨(some 9), (.ln (.t 8)), none⟩,
 ⟨(some 10), (.bin .neq (.t 7) (.t 9)), none⟩])
 (.keep [0, 1, 10]))
 (.cond (.t 10)
 (.seq
 (.seq (.ops [⟨(some 4), (.mov (.c (.bool false))), none⟩])
 (.keep [4]))
 .ret)
 .skip))
 (.seq
 (.seq
 (.seq (.ops [⟨(some 5), (.mov (.c (.int .i64 0))), none⟩])
 (.keep [0, 1, 5]))
 (.block 0
 (.loop
 (.seq
 (.seq
 (.seq (.ops [⟨(some 11), (.mov (.t 5)), none⟩,
 ⟨(some 12), (.mov (.t 0)), none⟩,
 ⟨(some 13), (.ln (.t 12)), none⟩,
 ⟨(some 14), (.bin .lss (.t 11) (.t 13)), none⟩])
 (.keep [0, 1, 5, 14]))
 (.cond (.t 14)
 .skip
 (.exit 0)))
 (.seq
 (.block 1
 (.seq
 (.seq (.free true [⟨(some 17), (.mov (.t 0)), none⟩,
 ⟨(some 18), (.mov (.t 5)), none⟩,
 ⟨(some 19), (.ia 1 (.t 17) (.t 18)), none⟩,
 ⟨(some 20), (.ld 1 false (.t 19)), none⟩,
 ⟨(some 21), (.mov (.t 1)), none⟩,
 ⟨(some 22), (.mov (.t 5)), none⟩,
 ⟨(some 23), (.ia 1 (.t 21) (.t 22)), none⟩,
 ⟨(some 24), (.ld 1 false (.t 23)), none⟩,
 ⟨(some 25), (.bin .neq (.t 20) (.t 24)), none⟩])
 (.keep [0, 1, 5, 25]))
 (.cond (.t 25)
 (.seq
 (.seq (.ops [⟨(some 4), (.mov (.c (.bool false))), none⟩])
 (.keep [4]))
 .ret)
 .skip)))
 (.seq (.ops [⟨(some 15), (.mov (.t 5)), none⟩,
 ⟨(some 16), (.bin .add (.t 15) (.c (.int .i64 1))), none⟩,
 ⟨(some 5), (.mov (.t 16)), none⟩])
 (.keep [0, 1, 5])))))))
 (.seq
 (.seq (.ops [⟨(some 4), (.mov (.c (.bool true))), none⟩])
 (.keep [4]))
 .ret)))),
 [(.slot 4)]⟩
/-- spec l01Figure -/
def F_spec_l01Figure : Fun := ⟨1,
 (.seq
 (.seq (.ops [⟨(some 2), (.mov (.c (.int .u8 0))), none⟩])
 (.keep [0]))
 (.seq
 (.seq
 (.seq (.ops [⟨(some 3), (.mov (.t 0)), none⟩,
 ⟨(some 4), (.bin .lss (.t 3) (.c (.int .i64 10))), none⟩])
 (.keep [0, 4]))
 (.cond (.t 4)
 (.seq
 (.seq (.ops [⟨(some 5), (.mov (.t 0)), none⟩,
 ⟨(some 6), (.bin .add (.c (.int .i64 48)) (.t 5)), none⟩,
 ⟨(some 7), (.conv .u8 (.t 6)), none⟩,
 ⟨(some 2), (.mov (.t 7)), none⟩])
 (.keep [2]))
 .ret)
 .skip))
 (.seq
 (.seq (.ops [⟨(some 8), (.mov (.t 0)), none⟩,
 ⟨(some 9), (.bin .add (.c (.int .i64 97)) (.t 8)), none⟩,
 ⟨(some 10), (.bin .sub (.t 9) (.c (.int .i64 10))), none⟩,
 ⟨(some 11), (.conv .u8 (.t 10)), none⟩,
 ⟨(some 2), (.mov (.t 11)), none⟩])
 (.keep [2]))
 .ret))),
 [(.slot 2)]⟩
/-- spec l01In -/
def F_spec_l01In : Fun := ⟨3,
 (.seq
 (.seq (.ops [⟨(some 6), (.mov (.c (.bool false))), none⟩])
 (.keep [0, 1, 2]))
 (.seq
 (.seq (.ops [⟨(some 7), (.mov (.t 0)), none⟩,
 ⟨(some 8), (.mov (.t 1)), none⟩,
 ⟨(some 9), (.bin .geq (.t 7) (.t 8)), none⟩,
 ⟨(some 10), (.mov (.t 9)), none⟩,
 ⟨(some 11), (.mov (.t 0)), (some (10, true))⟩,
 ⟨(some 12), (.mov (.t 2)), (some (10, true))⟩,
 ⟨(some 13), (.bin .leq (.t 11) (.t 12)), (some (10, true))⟩,
 ⟨(some 14), (.pick (.t 10) (.t 13) (.c (.bool false))), none⟩,
 ⟨(some 6), (.mov (.t 14)), none⟩])
 (.keep [6]))
 .ret)),
 [(.slot 6)]⟩
/-- spec Sealed -/
def F_spec_Sealed : Fun := ⟨1,
 (.seq
 (.seq (.ops [⟨(some 2), (.mov (.c (.string ⟨⟨[]⟩⟩))), none⟩,
 ⟨(some 3), (.mov (.c (.bool false))), none⟩])
 (.keep [0]))
 (.seq
 (.seq
 (.seq (.ops [⟨(some 4), (.mov (.t 0)), none⟩,
 ⟨(some 5), (.lnS (.t 4)), none⟩,
 ⟨(some 6), (.bin .gtr (.t 5) (.c (.int .i64 8000))), none⟩])
 (.keep [0, 6]))
 (.cond (.t 6)
 (.seq
 (.seq (.ops [⟨(some 2), (.mov (.c (.string ⟨⟨[]⟩⟩))), none⟩,
 ⟨(some 3), (.mov (.c (.bool false))), none⟩])
 (.keep [2, 3]))
 .ret)
 .skip))
 (.seq
 (.seq (.ops [⟨(some 7), (.mov (.t 0)), none⟩,
 ⟨(some 8), (.mov (.t 0)), none⟩,
 ⟨(some 9), (.call n_spec_SumOf [(.t 8)]), none⟩,
 ⟨(some 10), (.call n_spec_l02Four [(.t 9)]), none⟩,
 ⟨(some 11), (.bin .add (.t 7) (.t 10)), none⟩,
 ⟨(some 2), (.mov (.t 11)), none⟩,
 ⟨(some 3), (.mov (.c (.bool true))), none⟩])
 (.keep [2, 3]))
 .ret))),
 [(.slot 2), (.slot 3)]⟩
/-- spec l06Big -/
def F_spec_l06Big : Fun := ⟨2,
 (.seq
 (.seq (.ops [⟨(some 4), (.mov (.c (.string ⟨⟨[]⟩⟩))), none⟩])
 (.keep [0, 1]))
 (.seq
 (.seq (.ops [⟨(some 5), (.mov (.c (.string ⟨⟨[]⟩⟩))), none⟩])
 (.keep [0, 1, 5]))
 (.seq
 (.seq
 (.seq (.ops [⟨(some 6), (.mov (.c (.int .i64 0))), none⟩])
 (.keep [0, 1, 5, 6]))
 (.block 0
 (.loop
 (.seq
 (.seq
 (.seq (.ops [⟨(some 7), (.mov (.t 6)), none⟩,
 ⟨(some 8), (.mov (.t 1)), none⟩,
 ⟨(some 9), (.bin .lss (.t 7) (.t 8)), none⟩])
 (.keep [0, 1, 5, 6, 9]))
 (.cond (.t 9)
 .skip
 (.exit 0)))
 (.seq
 (.block 1
 (.seq
 (.seq (.ops [⟨(some 12), (.mov (.t 0)), none⟩,
 ⟨(some 13), (.bin .rem (.t 12) (.c (.int .i64 256))), none⟩,
 ⟨(some 14), (.conv .u8 (.t 13)), none⟩,
 ⟨(some 15), (.litL 1 1 [(.int .u8 0)] [(0, (.t 14))]), none⟩,
 ⟨(some 16), (.strL 1 15), none⟩,
 ⟨(some 17), (.mov (.t 5)), none⟩,
 ⟨(some 18), (.bin .add (.t 16) (.t 17)), none⟩,
 ⟨(some 5), (.mov (.t 18)), none⟩])
 (.keep [0, 1, 5, 6]))
 (.seq (.ops [⟨(some 19), (.mov (.t 0)), none⟩,
 ⟨(some 20), (.bin .quo (.t 19) (.c (.int .i64 256))), none⟩,
 ⟨(some 0), (.mov (.t 20)), none⟩])
 (.keep [0, 1, 5, 6]))))
 (.seq (.ops [⟨(some 10), (.mov (.t 6)), none⟩,
 ⟨(some 11), (.bin .add (.t 10) (.c (.int .i64 1))), none⟩,
 ⟨(some 6), (.mov (.t 11)), none⟩])
 (.keep [0, 1, 5, 6])))))))
 (.seq
 (.seq (.ops [⟨(some 21), (.mov (.t 5)), none⟩,
 ⟨(some 4), (.mov (.t 21)), none⟩])
 (.keep [4]))
 .ret)))),
 [(.slot 4)]⟩
/-- spec Unhex -/
def F_spec_Unhex : Fun := ⟨1,
 (.seq
 (.seq (.ops [⟨(some 2), (.mov (.c (.string ⟨⟨[]⟩⟩))), none⟩,
 ⟨(some 3), (.mov (.c (.bool false))), none⟩])
 (.keep [0]))
 (.seq
 (.seq
 (.seq (.ops [⟨(some 8), (.mov (.t 0)), none⟩,
 ⟨(some 9), (.lnS (.t 8)), none⟩,
 ⟨(some 10), (.bin .gtr (.t 9) (.c (.int .i64 16000))), none⟩,
 ⟨(some 11), (.mov (.t 10)), none⟩,
 ⟨(some 12), (.mov (.t 0)), (some (11, false))⟩,
 ⟨(some 13), (.lnS (.t 12)), (some (11, false))⟩,
 ⟨(some 14), (.bin .rem (.t 13) (.c (.int .i64 2))), (some (11, false))⟩,
 ⟨(some 15), (.bin .neq (.t 14) (.c (.int .i64 0))), (some (11, false))⟩,
 ⟨(some 16), (.pick (.t 11) (.c (.bool true)) (.t 15)), none⟩])
 (.keep [0, 16]))
 (.cond (.t 16)
 (.seq
 (.seq (.ops [⟨(some 2), (.mov (.c (.string ⟨⟨[]⟩⟩))), none⟩,
 ⟨(some 3), (.mov (.c (.bool false))), none⟩])
 (.keep [2, 3]))
 .ret)
 .skip))
 (.seq
 (.seq (.ops [⟨(some 17), (.lit 0 1 y_byte [(.int .u8 0)] []), none⟩,
 ⟨(some 4), (.mov (.t 17)), none⟩])
 (.keep [0, 4]))
 (.seq
 (.seq
 (.seq (.ops [⟨(some 5), (.mov (.c (.int .i64 0))), none⟩])
 (.keep [0, 4, 5]))
 (.block 0
 (.loop
 (.seq
 (.seq
 (.seq (.ops [⟨(some 18), (.mov (.t 5)), none⟩,
 ⟨(some 19), (.mov (.t 0)), none⟩,
 ⟨(some 20), (.lnS (.t 19)), none⟩,
 ⟨(some 21), (.bin .lss (.t 18) (.t 20)), none⟩])
 (.keep [0, 4, 5, 21]))
 (.cond (.t 21)
 .skip
 (.exit 0)))
 (.seq
 (.block 1
 (.seq
 (.seq (.ops [⟨(some 24), (.mov (.t 0)), none⟩,
 ⟨(some 25), (.mov (.t 5)), none⟩,
 ⟨(some 26), (.ix (.t 24) (.t 25)), none⟩,
 ⟨(some 27), (.call n_spec_l01Value [(.t 26)]), none⟩,
 ⟨(some 6), (.mov (.t 27)), none⟩])
 (.keep [0, 4, 5, 6]))
 (.seq
 (.seq (.ops [⟨(some 28), (.mov (.t 0)), none⟩,
 ⟨(some 29), (.mov (.t 5)), none⟩,
 ⟨(some 30), (.bin .add (.t 29) (.c (.int .i64 1))), none⟩,
 ⟨(some 31), (.ix (.t 28) (.t 30)), none⟩,
 ⟨(some 32), (.call n_spec_l01Value [(.t 31)]), none⟩,
 ⟨(some 7), (.mov (.t 32)), none⟩])
 (.keep [0, 4, 5, 6, 7]))
 (.seq
 (.seq
 (.seq (.ops [⟨(some 33), (.mov (.t 6)), none⟩,
 ⟨(some 34), (.bin .lss (.t 33) (.c (.int .i64 0))), none⟩,
 ⟨(some 35), (.mov (.t 34)), none⟩,
 ⟨(some 36), (.mov (.t 7)), (some (35, false))⟩,
 ⟨(some 37), (.bin .lss (.t 36) (.c (.int .i64 0))), (some (35, false))⟩,
 ⟨(some 38), (.pick (.t 35) (.c (.bool true)) (.t 37)), none⟩])
 (.keep [0, 4, 5, 6, 7, 38]))
 (.cond (.t 38)
 (.seq
 (.seq (.ops [⟨(some 2), (.mov (.c (.string ⟨⟨[]⟩⟩))), none⟩,
 ⟨(some 3), (.mov (.c (.bool false))), none⟩])
 (.keep [2, 3]))
 .ret)
 .skip))
 (.seq (.ops [⟨(some 39), (.mov (.t 4)), none⟩,
 ⟨(some 40), (.mov (.t 6)), none⟩,
 ⟨(some 41), (.bin .mul (.c (.int .i64 16)) (.t 40)), none⟩,
 ⟨(some 42), (.mov (.t 7)), none⟩,
 ⟨(some 43), (.bin .add (.t 41) (.t 42)), none⟩,
 ⟨(some 44), (.conv .u8 (.t 43)), none⟩,
 ⟨(some 45), (.litL 1 1 [(.int .u8 0)] [(0, (.t 44))]), none⟩,
 ⟨(some 46), (.appL 1 y_byte 1 1 (.t 39) 45), none⟩,
 ⟨(some 4), (.mov (.t 46)), none⟩])
 (.keep [0, 4, 5]))))))
 (.seq (.ops [⟨(some 22), (.mov (.t 5)), none⟩,
 ⟨(some 23), (.bin .add (.t 22) (.c (.int .i64 2))), none⟩,
 ⟨(some 5), (.mov (.t 23)), none⟩])
 (.keep [0, 4, 5])))))))
 (.seq
 (.seq (.ops [⟨(some 47), (.mov (.t 4)), none⟩,
 ⟨(some 48), (.str (.t 47)), none⟩,
 ⟨(some 2), (.mov (.t 48)), none⟩,
 ⟨(some 3), (.mov (.c (.bool true))), none⟩])
 (.keep [2, 3]))
 .ret))))),
 [(.slot 2), (.slot 3)]⟩
/-- spec l16Word -/
def F_spec_l16Word : Fun := ⟨1,
 (.seq
 (.seq (.ops [⟨(some 2), (.mov (.c (.int .i64 0))), none⟩,
 ⟨(some 3), (.mov (.c (.int .i64 0))), none⟩])
 (.keep [0]))
 (.seq
 (.seq
 (.seq (.ops [⟨(some 4), (.mov (.t 0)), none⟩])
 (.keep [4]))
 (.block 0
 (.seq
 (.seq (.ops [⟨(some 6), (.bin .eql (.t 4) (.c (.string ⟨⟨[106, 111, 105, 110]⟩⟩))), none⟩,
 ⟨(some 5), (.mov (.t 6)), none⟩])
 (.keep [4, 5]))
 (.cond (.t 5)
 (.seq
 (.seq (.ops [⟨(some 2), (.mov (.c (.int .i64 1))), none⟩,
 ⟨(some 3), (.mov (.c (.int .i64 1))), none⟩])
 (.keep [2, 3]))
 .ret)
 (.seq
 (.seq (.ops [⟨(some 8), (.bin .eql (.t 4) (.c (.string ⟨⟨[108, 105, 110, 107]⟩⟩))), none⟩,
 ⟨(some 7), (.mov (.t 8)), none⟩])
 (.keep [4, 7]))
 (.cond (.t 7)
 (.seq
 (.seq (.ops [⟨(some 2), (.mov (.c (.int .i64 2))), none⟩,
 ⟨(some 3), (.mov (.c (.int .i64 5))), none⟩])
 (.keep [2, 3]))
 .ret)
 (.seq
 (.seq (.ops [⟨(some 10), (.bin .eql (.t 4) (.c (.string ⟨⟨[108, 101, 97, 118, 101]⟩⟩))), none⟩,
 ⟨(some 9), (.mov (.t 10)), none⟩])
 (.keep [4, 9]))
 (.cond (.t 9)
 (.seq
 (.seq (.ops [⟨(some 2), (.mov (.c (.int .i64 3))), none⟩,
 ⟨(some 3), (.mov (.c (.int .i64 1))), none⟩])
 (.keep [2, 3]))
 .ret)
 (.seq
 (.seq (.ops [⟨(some 12), (.bin .eql (.t 4) (.c (.string ⟨⟨[99, 108, 101, 97, 114]⟩⟩))), none⟩,
 ⟨(some 11), (.mov (.t 12)), none⟩])
 (.keep [4, 11]))
 (.cond (.t 11)
 (.seq
 (.seq (.ops [⟨(some 2), (.mov (.c (.int .i64 4))), none⟩,
 ⟨(some 3), (.mov (.c (.int .i64 0))), none⟩])
 (.keep [2, 3]))
 .ret)
 (.seq
 (.seq (.ops [⟨(some 14), (.bin .eql (.t 4) (.c (.string ⟨⟨[97, 117, 100, 105, 116]⟩⟩))), none⟩,
 ⟨(some 13), (.mov (.t 14)), none⟩])
 (.keep [4, 13]))
 (.cond (.t 13)
 (.seq
 (.seq (.ops [⟨(some 2), (.mov (.c (.int .i64 5))), none⟩,
 ⟨(some 3), (.mov (.c (.int .i64 1))), none⟩])
 (.keep [2, 3]))
 .ret)
 (.seq
 (.seq (.ops [⟨(some 16), (.bin .eql (.t 4) (.c (.string ⟨⟨[115, 104, 111, 119]⟩⟩))), none⟩,
 ⟨(some 15), (.mov (.t 16)), none⟩])
 (.keep [15]))
 (.cond (.t 15)
 (.seq
 (.seq (.ops [⟨(some 2), (.mov (.c (.int .i64 6))), none⟩,
 ⟨(some 3), (.mov (.c (.int .i64 0))), none⟩])
 (.keep [2, 3]))
 .ret)
 .skip))))))))))))))
 (.seq
 (.seq (.ops [⟨(some 2), (.mov (.c (.int .i64 0))), none⟩,
 ⟨(some 3), (.mov (.c (.int .i64 (-1)))), none⟩])
 (.keep [2, 3]))
 .ret))),
 [(.slot 2), (.slot 3)]⟩
/-- spec AskText -/
def F_spec_AskText : Fun := ⟨1,
 (.seq
 (.seq (.ops [⟨(some 1), (.boxL 6 (.t 0)), none⟩,
 ⟨(some 2), (.mov (.c (.string ⟨⟨[]⟩⟩))), none⟩,
 ⟨(some 3), (.mov (.c (.bool false))), none⟩])
 (.keep [1]))
 (.seq
 (.seq
 (.seq (.ops [⟨(some 7), (.faB 0 1), none⟩,
 ⟨(some 8), (.ldE 1 false 1 7), none⟩,
 ⟨(some 9), (.call n_spec_l01In [(.t 8), (.c (.int .i64 1)), (.c (.int .i64 6))]), none⟩,
 ⟨(some 10), (.un .not (.t 9)), none⟩])
 (.keep [1, 10]))
 (.cond (.t 10)
 (.seq
 (.seq (.ops [⟨(some 2), (.mov (.c (.string ⟨⟨[]⟩⟩))), none⟩,
 ⟨(some 3), (.mov (.c (.bool false))), none⟩])
 (.keep [2, 3]))
 .ret)
 .skip))
 (.seq
 (.seq (.ops [⟨(some 11), (.faB 0 1), none⟩,
 ⟨(some 12), (.ldE 1 false 1 11), none⟩,
 ⟨(some 13), (.conv .u8 (.t 12)), none⟩,
 ⟨(some 14), (.litL 1 1 [(.int .u8 0)] [(0, (.t 13))]), none⟩,
 ⟨(some 15), (.strL 1 14), none⟩,
 ⟨(some 4), (.mov (.t 15)), none⟩])
 (.keep [1, 4]))
 (.seq
 (.seq (.ops [⟨(some 16), (.ldB 6 true 1), none⟩,
 ⟨(some 17), (.call n_spec_l14List [(.t 16)]), none⟩,
 ⟨(some 5), (.mov (.t 17)), none⟩])
 (.keep [1, 4, 5]))
 (.seq
 (.seq
 (.seq (.ops [⟨(some 6), (.mov (.c (.int .i64 0))), none⟩])
 (.keep [1, 4, 5, 6]))
 (.block 0
 (.loop
 (.seq
 (.seq
 (.seq (.ops [⟨(some 18), (.mov (.t 6)), none⟩,
 ⟨(some 19), (.bin .lss (.t 18) (.c (.int .i64 5))), none⟩])
 (.keep [1, 4, 5, 6, 19]))
 (.cond (.t 19)
 .skip
 (.exit 0)))
 (.seq
 (.block 1
 (.seq
 (.seq
 (.seq (.ops [⟨(some 22), (.mov (.t 5)), none⟩,
 ⟨(some 23), (.mov (.t 6)), none⟩,
 ⟨(some 24), (.ia 1 (.t 22) (.t 23)), none⟩,
 ⟨(some 25), (.ld 1 false (.t 24)), none⟩,
 ⟨(some 26), (.call n_spec_l01In [(.t 25), (.c (.int .i64 0)), (.c (.int .i64 1000000000))]), none⟩,
 ⟨(some 27), (.un .not (.t 26)), none⟩,
 ⟨(some 28), (.mov (.t 27)), none⟩,
 ⟨(some 29), (.mov (.t 6)), (some (28, false))⟩,
 ⟨(some 30), (.faB 0 1), (some (28, false))⟩,
 ⟨(some 31), (.ldE 1 false 1 30), (some (28, false))⟩,
 ⟨(some 32), (.call n_spec_l14Numbers [(.t 31)]), (some (28, false))⟩,
 ⟨(some 33), (.bin .geq (.t 29) (.t 32)), (some (28, false))⟩,
 ⟨(some 34), (.mov (.t 33)), (some (28, false))⟩,
 ⟨(some 35), (.mov (.t 5)), (some (34, true))⟩,
 ⟨(some 36), (.mov (.t 6)), (some (34, true))⟩,
 ⟨(some 37), (.ia 1 (.t 35) (.t 36)), (some (34, true))⟩,
 ⟨(some 38), (.ld 1 false (.t 37)), (some (34, true))⟩,
 ⟨(some 39), (.bin .neq (.t 38) (.c (.int .i64 0))), (some (34, true))⟩,
 ⟨(some 40), (.pick (.t 34) (.t 39) (.c (.bool false))), (some (28, false))⟩,
 ⟨(some 41), (.pick (.t 28) (.c (.bool true)) (.t 40)), none⟩])
 (.keep [1, 4, 5, 6, 41]))
 (.cond (.t 41)
 (.seq
 (.seq (.ops [⟨(some 2), (.mov (.c (.string ⟨⟨[]⟩⟩))), none⟩,
 ⟨(some 3), (.mov (.c (.bool false))), none⟩])
 (.keep [2, 3]))
 .ret)
 .skip))
 (.seq
 (.seq (.ops [⟨(some 42), (.mov (.t 6)), none⟩,
 ⟨(some 43), (.faB 0 1), none⟩,
 ⟨(some 44), (.ldE 1 false 1 43), none⟩,
 ⟨(some 45), (.call n_spec_l14Numbers [(.t 44)]), none⟩,
 ⟨(some 46), (.bin .lss (.t 42) (.t 45)), none⟩])
 (.keep [1, 4, 5, 6, 46]))
 (.cond (.t 46)
 (.seq (.ops [⟨(some 47), (.mov (.t 4)), none⟩,
 ⟨(some 48), (.mov (.t 5)), none⟩,
 ⟨(some 49), (.mov (.t 6)), none⟩,
 ⟨(some 50), (.ia 1 (.t 48) (.t 49)), none⟩,
 ⟨(some 51), (.ld 1 false (.t 50)), none⟩,
 ⟨(some 52), (.call n_spec_l01Var [(.t 51)]), none⟩,
 ⟨(some 53), (.bin .add (.t 47) (.t 52)), none⟩,
 ⟨(some 4), (.mov (.t 53)), none⟩])
 (.keep [1, 4, 5, 6]))
 .skip))))
 (.seq (.ops [⟨(some 20), (.mov (.t 6)), none⟩,
 ⟨(some 21), (.bin .add (.t 20) (.c (.int .i64 1))), none⟩,
 ⟨(some 6), (.mov (.t 21)), none⟩])
 (.keep [1, 4, 5, 6])))))))
 (.seq
 (.seq (.ops [⟨(some 54), (.mov (.t 4)), none⟩,
 ⟨(some 2), (.mov (.t 54)), none⟩,
 ⟨(some 3), (.mov (.c (.bool true))), none⟩])
 (.keep [2, 3]))
 .ret)))))),
 [(.slot 2), (.slot 3)]⟩
/-- strings genSplit -/
def F_strings_genSplit : Fun := ⟨4,
 (.seq
 (.seq (.ops [⟨(some 8), (.mov (.c (.slice none 0 0))), none⟩])
 (.keep [0, 1, 2, 3]))
 (.seq
 (.seq
 (.seq (.ops [⟨(some 12), (.mov (.t 3)), none⟩,
 ⟨(some 13), (.bin .eql (.t 12) (.c (.int .i64 0))), none⟩])
 (.keep [0, 1, 2, 3, 13]))
 (.cond (.t 13)
 (.seq
 (.seq (.ops [⟨(some 8), (.mov (.c (.slice none 0 0))), none⟩])
 (.keep [8]))
 .ret)
 .skip))
 (.seq
 (.seq
 (.seq (.ops [⟨(some 14), (.mov (.t 1)), none⟩,
 ⟨(some 15), (.bin .eql (.t 14) (.c (.string ⟨⟨[]⟩⟩))), none⟩])
 (.keep [0, 1, 2, 3, 15]))
 (.cond (.t 15)
 (.seq
 (.seq (.ops [⟨(some 16), (.mov (.t 0)), none⟩,
 ⟨(some 17), (.mov (.t 3)), none⟩,
 ⟨(some 18), (.call n_strings_explode [(.t 16), (.t 17)]), none⟩,
 ⟨(some 8), (.mov (.t 18)), none⟩])
 (.keep [8]))
 .ret)
 .skip))
 (.seq
 (.seq
 (.seq (.ops [⟨(some 19), (.mov (.t 3)), none⟩,
 ⟨(some 20), (.bin .lss (.t 19) (.c (.int .i64 0))), none⟩])
 (.keep [0, 1, 2, 3, 20]))
 (.cond (.t 20)
 (.seq (.ops [⟨(some 21), (.mov (.t 0)), none⟩,
 ⟨(some 22), (.mov (.t 1)), none⟩,
 ⟨(some 23), (.call n_strings_Count [(.t 21), (.t 22)]), none⟩,
 ⟨(some 24), (.bin .add (.t 23) (.c (.int .i64 1))), none⟩,
 ⟨(some 3), (.mov (.t 24)), none⟩])
 (.keep [0, 1, 2, 3]))
 .skip))
 (.seq
 (.seq (.ops [⟨(some 25), (.mov (.t 3)), none⟩,
 ⟨(some 26), (.mov (.t 0)), none⟩,
 ⟨(some 27), (.lnS (.t 26)), none⟩,
 ⟨(some 28), (.bin .add (.t 27) (.c (.int .i64 1))), none⟩,
 ⟨(some 29), (.mm false (.t 25) (.t 28)), none⟩,
 ⟨(some 3), (.mov (.t 29)), none⟩])
 (.keep [0, 1, 2, 3]))
 (.seq
 (.seq (.ops [⟨(some 30), (.mov (.t 3)), none⟩,
 ⟨(some 31), (.mk 1 y_string 16 [(.string ⟨⟨[]⟩⟩)] (.t 30)), none⟩,
 ⟨(some 9), (.mov (.t 31)), none⟩])
 (.keep [0, 1, 2, 3, 9]))
 (.seq
 (.seq (.ops [⟨(some 32), (.mov (.t 3)), none⟩,
 ⟨(some 33), (.bin .sub (.t 32) (.c (.int .i64 1))), none⟩,
 ⟨(some 3), (.mov (.t 33)), none⟩])
 (.keep [0, 1, 2, 3, 9]))
 (.seq
 (.seq (.ops [⟨(some 10), (.mov (.c (.int .i64 0))), none⟩])
 (.keep [0, 1, 2, 3, 9, 10]))
 (.seq
 (.block 0
 (.loop
 (.seq
 (.seq
 (.seq (.ops [⟨(some 34), (.mov (.t 10)), none⟩,
 ⟨(some 35), (.mov (.t 3)), none⟩,
 ⟨(some 36), (.bin .lss (.t 34) (.t 35)), none⟩])
 (.keep [0, 1, 2, 3, 9, 10, 36]))
 (.cond (.t 36)
 .skip
 (.exit 0)))
 (.block 1
 (.seq
 (.seq (.ops [⟨(some 37), (.mov (.t 0)), none⟩,
 ⟨(some 38), (.mov (.t 1)), none⟩,
 ⟨(some 39), (.call n_strings_Index [(.t 37), (.t 38)]), none⟩,
 ⟨(some 11), (.mov (.t 39)), none⟩])
 (.keep [0, 1, 2, 3, 9, 10, 11]))
 (.seq
 (.seq
 (.seq (.ops [⟨(some 40), (.mov (.t 11)), none⟩,
 ⟨(some 41), (.bin .lss (.t 40) (.c (.int .i64 0))), none⟩])
 (.keep [0, 1, 2, 3, 9, 10, 11, 41]))
 (.cond (.t 41)
 (.exit 0)
 .skip))
 (.seq
 (.seq (.ops [⟨(some 42), (.mov (.t 9)), none⟩,
 ⟨(some 43), (.mov (.t 10)), none⟩,
 ⟨(some 44), (.mov (.t 0)), none⟩,
 ⟨(some 45), (.mov (.t 11)), none⟩,
 ⟨(some 46), (.mov (.t 2)), none⟩,
 ⟨(some 47), (.bin .add (.t 45) (.t 46)), none⟩,
 ⟨(some 48), (.slS (.t 44) none (some (.t 47))), none⟩,
 ⟨(some 49), (.ia 1 (.t 42) (.t 43)), none⟩,
 ⟨none, (.st 1 (.t 49) (.t 48)), none⟩])
 (.keep [0, 1, 2, 3, 9, 10, 11]))
 (.seq
 (.seq (.ops [⟨(some 50), (.mov (.t 0)), none⟩,
 ⟨(some 51), (.mov (.t 11)), none⟩,
 ⟨(some 52), (.mov (.t 1)), none⟩,
 ⟨(some 53), (.lnS (.t 52)), none⟩,
 ⟨(some 54), (.bin .add (.t 51) (.t 53)), none⟩,
 ⟨(some 55), (.slS (.t 50) (some (.t 54)) none), none⟩,
 ⟨(some 0), (.mov (.t 55)), none⟩])
 (.keep [0, 1, 2, 3, 9, 10]))
 (.seq (.ops [⟨(some 56), (.mov (.t 10)), none⟩,
 ⟨(some 57), (.bin .add (.t 56) (.c (.int .i64 1))), none⟩,
 ⟨(some 10), (.mov (.t 57)), none⟩])
 (.keep [0, 1, 2, 3, 9, 10]))))))))))
 (.seq
 (.seq (.ops [⟨(some 58), (.mov (.t 9)), none⟩,
 ⟨(some 59), (.mov (.t 10)), none⟩,
 ⟨(some 60), (.mov (.t 0)), none⟩,
 ⟨(some 61), (.ia 1 (.t 58) (.t 59)), none⟩,
 ⟨none, (.st 1 (.t 61) (.t 60)), none⟩])
 (.keep [9, 10]))
 (.seq
 (.seq (.ops [⟨(some 62), (.mov (.t 9)), none⟩,
 ⟨(some 63), (.mov (.t 10)), none⟩,
 ⟨(some 64), (.bin .add (.t 63) (.c (.int .i64 1))), none⟩,
 ⟨(some 65), (.slL 1 (.t 62) none (some (.t 64))), none⟩,
 ⟨(some 8), (.mov (.t 65)), none⟩])
 (.keep [8]))
 .ret))))))))))),
 [(.slot 8)]⟩
/-- impl in -/
def F_impl_in : Fun := ⟨3,
 (.seq
 (.seq (.ops [⟨(some 6), (.mov (.c (.bool false))), none⟩])
 (.keep [0, 1, 2]))
 (.seq
 (.seq (.ops [⟨(some 7), (.mov (.t 0)), none⟩,
 ⟨(some 8), (.mov (.t 1)), none⟩,
 ⟨(some 9), (.bin .geq (.t 7) (.t 8)), none⟩,
 ⟨(some 10), (.mov (.t 9)), none⟩,
 ⟨(some 11), (.mov (.t 0)), (some (10, true))⟩,
 ⟨(some 12), (.mov (.t 2)), (some (10, true))⟩,
 ⟨(some 13), (.bin .leq (.t 11) (.t 12)), (some (10, true))⟩,
 ⟨(some 14), (.pick (.t 10) (.t 13) (.c (.bool false))), none⟩,
 ⟨(some 6), (.mov (.t 14)), none⟩])
 (.keep [6]))
 .ret)),
 [(.slot 6)]⟩
/-- impl DeviceNew -/
def F_impl_DeviceNew : Fun := ⟨1,
 (.seq
 (.seq (.ops [⟨(some 2), (.newL [(.slice none 0 0), (.slice none 0 0)]), none⟩,
 ⟨(some 3), (.mov (.c (.bool false))), none⟩])
 (.keep [0, 2]))
 (.seq
 (.seq
 (.seq (.ops [⟨(some 4), (.mov (.t 0)), none⟩,
 ⟨(some 5), (.call n_impl_in [(.t 4), (.c (.int .i64 1)), (.c (.int .i64 400))]), none⟩,
 ⟨(some 6), (.un .not (.t 5)), none⟩])
 (.keep [0, 2, 6]))
 (.cond (.t 6)
 (.seq
 (.seq (.ops [⟨(some 7), (.bld [(.slice none 0 0), (.slice none 0 0)] []), none⟩,
 ⟨none, (.stB 2 2 (.t 7)), none⟩,
 ⟨(some 3), (.mov (.c (.bool false))), none⟩])
 (.keep [2, 3]))
 .ret)
 .skip))
 (.seq
 (.seq (.ops [⟨(some 8), (.mov (.t 0)), none⟩,
 ⟨(some 9), (.mk 1 y_string 16 [(.string ⟨⟨[]⟩⟩)] (.t 8)), none⟩,
 ⟨(some 10), (.bld [(.slice none 0 0), (.slice none 0 0)] [(0, (1, (.t 9)))]), none⟩,
 ⟨none, (.stB 2 2 (.t 10)), none⟩,
 ⟨(some 3), (.mov (.c (.bool true))), none⟩])
 (.keep [2, 3]))
 .ret))),
 [(.box 2 2 true), (.slot 3)]⟩
/-- impl RootText -/
def F_impl_RootText : Fun := ⟨1,
 (.seq
 (.seq (.ops [⟨(some 1), (.boxL 2 (.t 0)), none⟩,
 ⟨(some 2), (.mov (.c (.string ⟨⟨[]⟩⟩))), none⟩,
 ⟨(some 3), (.mov (.c (.bool false))), none⟩])
 (.keep [1]))
 (.seq
 (.seq
 (.seq (.ops [⟨(some 8), (.faB 0 1), none⟩,
 ⟨(some 9), (.ldE 1 false 1 8), none⟩,
 ⟨(some 10), (.call n_impl_in [(.t 9), (.c (.int .i64 0)), (.c (.int .i64 1000000000))]), none⟩,
 ⟨(some 11), (.un .not (.t 10)), none⟩,
 ⟨(some 12), (.mov (.t 11)), none⟩,
 ⟨(some 13), (.faB 1 1), (some (12, false))⟩,
 ⟨(some 14), (.ldE 1 false 1 13), (some (12, false))⟩,
 ⟨(some 15), (.call n_impl_in [(.t 14), (.c (.int .i64 (-1))), (.c (.int .i64 399))]), (some (12, false))⟩,
 ⟨(some 16), (.un .not (.t 15)), (some (12, false))⟩,
 ⟨(some 17), (.pick (.t 12) (.c (.bool true)) (.t 16)), none⟩])
 (.keep [1, 17]))
 (.cond (.t 17)
 (.seq
 (.seq (.ops [⟨(some 2), (.mov (.c (.string ⟨⟨[]⟩⟩))), none⟩,
 ⟨(some 3), (.mov (.c (.bool false))), none⟩])
 (.keep [2, 3]))
 .ret)
 .skip))
 (.seq
 (.seq (.free true [⟨(some 18), (.faB 0 1), none⟩,
 ⟨(some 19), (.ldE 1 false 1 18), none⟩,
 ⟨(some 20), (.faB 1 1), none⟩,
 ⟨(some 21), (.ldE 1 false 1 20), none⟩,
 ⟨(some 22), (.bin .add (.t 21) (.c (.int .i64 1))), none⟩,
 ⟨(some 4), (.mov (.t 19)), none⟩,
 ⟨(some 5), (.mov (.t 22)), none⟩])
 (.keep [4, 5]))
 (.seq
 (.seq (.ops [⟨(some 24), (.mov (.t 4)), none⟩,
 ⟨(some 25), (.bin .shr (.t 24) (.c (.int .u64 24))), none⟩,
 ⟨(some 26), (.conv .u8 (.t 25)), none⟩,
 ⟨(some 27), (.mov (.t 4)), none⟩,
 ⟨(some 28), (.bin .shr (.t 27) (.c (.int .u64 16))), none⟩,
 ⟨(some 29), (.conv .u8 (.t 28)), none⟩,
 ⟨(some 30), (.mov (.t 4)), none⟩,
 ⟨(some 31), (.bin .shr (.t 30) (.c (.int .u64 8))), none⟩,
 ⟨(some 32), (.conv .u8 (.t 31)), none⟩,
 ⟨(some 33), (.mov (.t 4)), none⟩,
 ⟨(some 34), (.conv .u8 (.t 33)), none⟩,
 ⟨(some 35), (.mov (.t 5)), none⟩,
 ⟨(some 36), (.bin .shr (.t 35) (.c (.int .u64 8))), none⟩,
 ⟨(some 37), (.conv .u8 (.t 36)), none⟩,
 ⟨(some 38), (.mov (.t 5)), none⟩,
 ⟨(some 39), (.conv .u8 (.t 38)), none⟩,
 ⟨(some 40), (.litL 6 1 [(.int .u8 0)] [(0, (.t 26)), (1, (.t 29)), (2, (.t 32)), (3, (.t 34)), (4, (.t 37)), (5, (.t 39))]), none⟩,
 ⟨(some 41), (.strL 6 40), none⟩,
 ⟨(some 42), (.bin .add (.c (.string ⟨⟨[82]⟩⟩)) (.t 41)), none⟩,
 ⟨(some 43), (.call n_impl_Sealed [(.t 42)]), none⟩,
 ⟨(some 23), (.mov (.t 43)), none⟩,
 ⟨(some 44), (.ext 0 (.t 23)), none⟩,
 ⟨(some 45), (.ext 1 (.t 23)), none⟩,
 ⟨(some 6), (.mov (.t 44)), none⟩,
 ⟨(some 7), (.mov (.t 45)), none⟩])
 (.keep [6, 7]))
 (.seq
 (.seq (.ops [⟨(some 46), (.mov (.t 6)), none⟩,
 ⟨(some 47), (.mov (.t 7)), none⟩,
 ⟨(some 2), (.mov (.t 46)), none⟩,
 ⟨(some 3), (.mov (.t 47)), none⟩])
 (.keep [2, 3]))
 .ret))))),
 [(.slot 2), (.slot 3)]⟩
/-- impl Unhex -/
def F_impl_Unhex : Fun := ⟨1,
 (.seq
 (.seq (.ops [⟨(some 2), (.mov (.c (.string ⟨⟨[]⟩⟩))), none⟩,
 ⟨(some 3), (.mov (.c (.bool false))), none⟩])
 (.keep [0]))
 (.seq
 (.seq
 (.seq (.ops [⟨(some 8), (.mov (.t 0)), none⟩,
 ⟨(some 9), (.lnS (.t 8)), none⟩,
 ⟨(some 10), (.bin .rem (.t 9) (.c (.int .i64 2))), none⟩,
 ⟨(some 11), (.bin .neq (.t 10) (.c (.int .i64 0))), none⟩,
 ⟨(some 12), (.mov (.t 11)), none⟩,
 ⟨(some 13), (.mov (.t 0)), (some (12, false))⟩,
 ⟨(some 14), (.lnS (.t 13)), (some (12, false))⟩,
 ⟨(some 15), (.bin .gtr (.t 14) (.c (.int .i64 16000))), (some (12, false))⟩,
 ⟨(some 16), (.pick (.t 12) (.c (.bool true)) (.t 15)), none⟩])
 (.keep [0, 16]))
 (.cond (.t 16)
 (.seq
 (.seq (.ops [⟨(some 2), (.mov (.c (.string ⟨⟨[]⟩⟩))), none⟩,
 ⟨(some 3), (.mov (.c (.bool false))), none⟩])
 (.keep [2, 3]))
 .ret)
 .skip))
 (.seq
 (.seq (.ops [⟨(some 4), (.mov (.c (.slice none 0 0))), none⟩])
 (.keep [0, 4]))
 (.seq
 (.seq
 (.seq (.ops [⟨(some 5), (.mov (.c (.int .i64 0))), none⟩])
 (.keep [0, 4, 5]))
 (.block 0
 (.loop
 (.seq
 (.seq
 (.seq (.ops [⟨(some 17), (.mov (.t 5)), none⟩,
 ⟨(some 18), (.mov (.t 0)), none⟩,
 ⟨(some 19), (.lnS (.t 18)), none⟩,
 ⟨(some 20), (.bin .lss (.t 17) (.t 19)), none⟩])
 (.keep [0, 4, 5, 20]))
 (.cond (.t 20)
 .skip
 (.exit 0)))
 (.seq
 (.block 1
 (.seq
 (.seq (.free true [⟨(some 23), (.mov (.t 0)), none⟩,
 ⟨(some 24), (.mov (.t 5)), none⟩,
 ⟨(some 25), (.ix (.t 23) (.t 24)), none⟩,
 ⟨(some 26), (.call n_strings_IndexByte [(.c (.string ⟨⟨[48, 49, 50, 51, 52, 53, 54, 55, 56, 57, 97, 98, 99, 100, 101, 102]⟩⟩)), (.t 25)]), none⟩,
 ⟨(some 27), (.mov (.t 0)), none⟩,
 ⟨(some 28), (.mov (.t 5)), none⟩,
 ⟨(some 29), (.bin .add (.t 28) (.c (.int .i64 1))), none⟩,
 ⟨(some 30), (.ix (.t 27) (.t 29)), none⟩,
 ⟨(some 31), (.call n_strings_IndexByte [(.c (.string ⟨⟨[48, 49, 50, 51, 52, 53, 54, 55, 56, 57, 97, 98, 99, 100, 101, 102]⟩⟩)), (.t 30)]), none⟩,
 ⟨(some 6), (.mov (.t 26)), none⟩,
 ⟨(some 7), (.mov (.t 31)), none⟩])
 (.keep [0, 4, 5, 6, 7]))
 (.seq
 (.seq
 (.seq (.ops [⟨(some 32), (.mov (.t 6)), none⟩,
 ⟨(some 33), (.bin .lss (.t 32) (.c (.int .i64 0))), none⟩,
 ⟨(some 34), (.mov (.t 33)), none⟩,
 ⟨(some 35), (.mov (.t 7)), (some (34, false))⟩,
 ⟨(some 36), (.bin .lss (.t 35) (.c (.int .i64 0))), (some (34, false))⟩,
 ⟨(some 37), (.pick (.t 34) (.c (.bool true)) (.t 36)), none⟩])
 (.keep [0, 4, 5, 6, 7, 37]))
 (.cond (.t 37)
 (.seq
 (.seq (.ops [⟨(some 2), (.mov (.c (.string ⟨⟨[]⟩⟩))), none⟩,
 ⟨(some 3), (.mov (.c (.bool false))), none⟩])
 (.keep [2, 3]))
 .ret)
 .skip))
 (.seq (.ops [⟨(some 38), (.mov (.t 4)), none⟩,
 ⟨(some 39), (.mov (.t 6)), none⟩,
 ⟨(some 40), (.bin .mul (.c (.int .i64 16)) (.t 39)), none⟩,
 ⟨(some 41), (.mov (.t 7)), none⟩,
 ⟨(some 42), (.bin .add (.t 40) (.t 41)), none⟩,
 ⟨(some 43), (.conv .u8 (.t 42)), none⟩,
 ⟨(some 44), (.litL 1 1 [(.int .u8 0)] [(0, (.t 43))]), none⟩,
 ⟨(some 45), (.appL 1 y_byte 1 1 (.t 38) 44), none⟩,
 ⟨(some 4), (.mov (.t 45)), none⟩])
 (.keep [0, 4, 5])))))
 (.seq (.ops [⟨(some 21), (.mov (.t 5)), none⟩,
 ⟨(some 22), (.bin .add (.t 21) (.c (.int .i64 2))), none⟩,
 ⟨(some 5), (.mov (.t 22)), none⟩])
 (.keep [0, 4, 5])))))))
 (.seq
 (.seq (.ops [⟨(some 46), (.mov (.t 4)), none⟩,
 ⟨(some 47), (.str (.t 46)), none⟩,
 ⟨(some 2), (.mov (.t 47)), none⟩,
 ⟨(some 3), (.mov (.c (.bool true))), none⟩])
 (.keep [2, 3]))
 .ret))))),
 [(.slot 2), (.slot 3)]⟩
/-- impl opOf -/
def F_impl_opOf : Fun := ⟨1,
 (.seq
 (.seq (.ops [⟨(some 2), (.mov (.c (.int .i64 0))), none⟩,
 ⟨(some 3), (.mov (.c (.int .i64 0))), none⟩])
 (.keep [0]))
 (.seq
 (.seq
 (.seq (.ops [⟨(some 4), (.mov (.t 0)), none⟩])
 (.keep [4]))
 (.block 0
 (.seq
 (.seq (.ops [⟨(some 6), (.bin .eql (.t 4) (.c (.string ⟨⟨[106, 111, 105, 110]⟩⟩))), none⟩,
 ⟨(some 5), (.mov (.t 6)), none⟩])
 (.keep [4, 5]))
 (.cond (.t 5)
 (.seq
 (.seq (.ops [⟨(some 2), (.mov (.c (.int .i64 1))), none⟩,
 ⟨(some 3), (.mov (.c (.int .i64 1))), none⟩])
 (.keep [2, 3]))
 .ret)
 (.seq
 (.seq (.ops [⟨(some 8), (.bin .eql (.t 4) (.c (.string ⟨⟨[108, 105, 110, 107]⟩⟩))), none⟩,
 ⟨(some 7), (.mov (.t 8)), none⟩])
 (.keep [4, 7]))
 (.cond (.t 7)
 (.seq
 (.seq (.ops [⟨(some 2), (.mov (.c (.int .i64 2))), none⟩,
 ⟨(some 3), (.mov (.c (.int .i64 5))), none⟩])
 (.keep [2, 3]))
 .ret)
 (.seq
 (.seq (.ops [⟨(some 10), (.bin .eql (.t 4) (.c (.string ⟨⟨[108, 101, 97, 118, 101]⟩⟩))), none⟩,
 ⟨(some 9), (.mov (.t 10)), none⟩])
 (.keep [4, 9]))
 (.cond (.t 9)
 (.seq
 (.seq (.ops [⟨(some 2), (.mov (.c (.int .i64 3))), none⟩,
 ⟨(some 3), (.mov (.c (.int .i64 1))), none⟩])
 (.keep [2, 3]))
 .ret)
 (.seq
 (.seq (.ops [⟨(some 12), (.bin .eql (.t 4) (.c (.string ⟨⟨[99, 108, 101, 97, 114]⟩⟩))), none⟩,
 ⟨(some 11), (.mov (.t 12)), none⟩])
 (.keep [4, 11]))
 (.cond (.t 11)
 (.seq
 (.seq (.ops [⟨(some 2), (.mov (.c (.int .i64 4))), none⟩,
 ⟨(some 3), (.mov (.c (.int .i64 0))), none⟩])
 (.keep [2, 3]))
 .ret)
 (.seq
 (.seq (.ops [⟨(some 14), (.bin .eql (.t 4) (.c (.string ⟨⟨[97, 117, 100, 105, 116]⟩⟩))), none⟩,
 ⟨(some 13), (.mov (.t 14)), none⟩])
 (.keep [4, 13]))
 (.cond (.t 13)
 (.seq
 (.seq (.ops [⟨(some 2), (.mov (.c (.int .i64 5))), none⟩,
 ⟨(some 3), (.mov (.c (.int .i64 1))), none⟩])
 (.keep [2, 3]))
 .ret)
 (.seq
 (.seq (.ops [⟨(some 16), (.bin .eql (.t 4) (.c (.string ⟨⟨[115, 104, 111, 119]⟩⟩))), none⟩,
 ⟨(some 15), (.mov (.t 16)), none⟩])
 (.keep [15]))
 (.cond (.t 15)
 (.seq
 (.seq (.ops [⟨(some 2), (.mov (.c (.int .i64 6))), none⟩,
 ⟨(some 3), (.mov (.c (.int .i64 0))), none⟩])
 (.keep [2, 3]))
 .ret)
 .skip))))))))))))))
 (.seq
 (.seq (.ops [⟨(some 2), (.mov (.c (.int .i64 0))), none⟩,
 ⟨(some 3), (.mov (.c (.int .i64 0))), none⟩])
 (.keep [2, 3]))
 .ret))),
 [(.slot 2), (.slot 3)]⟩
/-- impl AskText -/
def F_impl_AskText : Fun := ⟨1,
 (.seq
 (.seq (.ops [⟨(some 1), (.boxL 6 (.t 0)), none⟩,
 ⟨(some 2), (.mov (.c (.string ⟨⟨[]⟩⟩))), none⟩,
 ⟨(some 3), (.mov (.c (.bool false))), none⟩])
 (.keep [1]))
 (.seq
 (.seq (.ops [⟨(some 7), (.ldB 6 true 1), none⟩,
 ⟨(some 8), (.call n_impl_told [(.t 7)]), none⟩,
 ⟨(some 4), (.mov (.t 8)), none⟩])
 (.keep [1, 4]))
 (.seq
 (.seq
 (.seq (.ops [⟨(some 9), (.faB 0 1), none⟩,
 ⟨(some 10), (.ldE 1 false 1 9), none⟩,
 ⟨(some 11), (.call n_impl_in [(.t 10), (.c (.int .i64 1)), (.c (.int .i64 6))]), none⟩,
 ⟨(some 12), (.un .not (.t 11)), none⟩,
 ⟨(some 13), (.mov (.t 12)), none⟩,
 ⟨(some 14), (.mov (.t 4)), (some (13, false))⟩,
 ⟨(some 15), (.ln (.t 14)), (some (13, false))⟩,
 ⟨(some 16), (.bin .lss (.t 15) (.c (.int .i64 5))), (some (13, false))⟩,
 ⟨(some 17), (.mov (.t 16)), (some (13, false))⟩,
 ⟨(some 18), (.faB 2 1), (some (17, true))⟩,
 ⟨(some 19), (.ldE 1 false 1 18), (some (17, true))⟩,
 ⟨(some 20), (.bin .neq (.t 19) (.c (.int .i64 0))), (some (17, true))⟩,
 ⟨(some 21), (.mov (.t 20)), (some (17, true))⟩,
 ⟨(some 22), (.faB 3 1), (some (21, false))⟩,
 ⟨(some 23), (.ldE 1 false 1 22), (some (21, false))⟩,
 ⟨(some 24), (.bin .neq (.t 23) (.c (.int .i64 0))), (some (21, false))⟩,
 ⟨(some 25), (.pick (.t 21) (.c (.bool true)) (.t 24)), (some (17, true))⟩,
 ⟨(some 26), (.mov (.t 25)), (some (17, true))⟩,
 ⟨(some 27), (.faB 4 1), (some (26, false))⟩,
 ⟨(some 28), (.ldE 1 false 1 27), (some (26, false))⟩,
 ⟨(some 29), (.bin .neq (.t 28) (.c (.int .i64 0))), (some (26, false))⟩,
 ⟨(some 30), (.pick (.t 26) (.c (.bool true)) (.t 29)), (some (17, true))⟩,
 ⟨(some 31), (.mov (.t 30)), (some (17, true))⟩,
 ⟨(some 32), (.faB 5 1), (some (31, false))⟩,
 ⟨(some 33), (.ldE 1 false 1 32), (some (31, false))⟩,
 ⟨(some 34), (.bin .neq (.t 33) (.c (.int .i64 0))), (some (31, false))⟩,
 ⟨(some 35), (.pick (.t 31) (.c (.bool true)) (.t 34)), (some (17, true))⟩,
 ⟨(some 36), (.pick (.t 17) (.t 35) (.c (.bool false))), (some (13, false))⟩,
 ⟨(some 37), (.pick (.t 13) (.c (.bool true)) (.t 36)), none⟩,
 ⟨(some 38), (.mov (.t 37)), none⟩,
 ⟨(some 39), (.mov (.t 4)), (some (38, false))⟩,
 ⟨(some 40), (.ln (.t 39)), (some (38, false))⟩,
 ⟨(some 41), (.bin .eql (.t 40) (.c (.int .i64 0))), (some (38, false))⟩,
 ⟨(some 42), (.mov (.t 41)), (some (38, false))⟩,
 ⟨(some 43), (.faB 1 1), (some (42, true))⟩,
 ⟨(some 44), (.ldE 1 false 1 43), (some (42, true))⟩,
 ⟨(some 45), (.bin .neq (.t 44) (.c (.int .i64 0))), (some (42, true))⟩,
 ⟨(some 46), (.pick (.t 42) (.t 45) (.c (.bool false))), (some (38, false))⟩,
 ⟨(some 47), (.pick (.t 38) (.c (.bool true)) (.t 46)), none⟩])
 (.keep [1, 4, 47]))
 (.cond (.t 47)
 (.seq
 (.seq (.ops [⟨(some 2), (.mov (.c (.string ⟨⟨[]⟩⟩))), none⟩,
 ⟨(some 3), (.mov (.c (.bool false))), none⟩])
 (.keep [2, 3]))
 .ret)
 .skip))
 (.seq
 (.seq
 (.seq (.ops [⟨(some 48), (.mov (.t 4)), none⟩,
 ⟨(some 49), (.ln (.t 48)), none⟩,
 ⟨(some 50), (.mov (.c (.int .i64 0))), none⟩])
 (.keep [1, 4, 48, 49, 50]))
 (.block 0
 (.loop
 (.seq
 (.seq (.ops [⟨(some 51), (.bin .lss (.t 50) (.t 49)), none⟩])
 (.keep [1, 4, 48, 49, 50, 51]))
 (.seq
 (.cond (.t 51)
 .skip
 (.exit 0))
 (.seq
 (.block 1
 (.seq
 (.seq (.ops [⟨(some 52), (.ia 1 (.t 48) (.t 50)), none⟩,
 ⟨(some 53), (.ld 1 false (.t 52)), none⟩,
 ⟨(some 6), (.mov (.t 53)), none⟩])
 (.keep [1, 4, 6, 48, 49, 50]))
 (.seq
 (.seq (.ops [⟨(some 54), (.mov (.t 6)), none⟩,
 ⟨(some 55), (.call n_impl_in [(.t 54), (.c (.int .i64 0)), (.c (.int .i64 1000000000))]), none⟩,
 ⟨(some 56), (.un .not (.t 55)), none⟩])
 (.keep [1, 4, 48, 49, 50, 56]))
 (.cond (.t 56)
 (.seq
 (.seq (.ops [⟨(some 2), (.mov (.c (.string ⟨⟨[]⟩⟩))), none⟩,
 ⟨(some 3), (.mov (.c (.bool false))), none⟩])
 (.keep [2, 3]))
 .ret)
 .skip))))
 (.seq (.ops [⟨(some 57), (.bin .add (.t 50) (.c (.int .i64 1))), none⟩,
 ⟨(some 50), (.mov (.t 57)), none⟩])
 (.keep [1, 4, 48, 49, 50]))))))))
 (.seq
 (.seq (.free true [⟨(some 58), (.faB 0 1), none⟩,
 ⟨(some 59), (.ldE 1 false 1 58), none⟩,
 ⟨(some 60), (.conv .u8 (.t 59)), none⟩,
 ⟨(some 61), (.litL 1 1 [(.int .u8 0)] [(0, (.t 60))]), none⟩,
 ⟨(some 62), (.strL 1 61), none⟩,
 ⟨(some 63), (.mov (.t 4)), none⟩,
 ⟨(some 64), (.call n_impl_vars [(.t 63)]), none⟩,
 ⟨(some 65), (.bin .add (.t 62) (.t 64)), none⟩,
 ⟨(some 2), (.mov (.t 65)), none⟩,
 ⟨(some 3), (.mov (.c (.bool true))), none⟩])
 (.keep [2, 3]))
 .ret))))),
 [(.slot 2), (.slot 3)]⟩
/-- spec l02Four -/
def F_spec_l02Four : Fun := ⟨1,
 (.seq
 (.seq (.ops [⟨(some 2), (.mov (.c (.string ⟨⟨[]⟩⟩))), none⟩])
 (.keep [0]))
 (.seq
 (.seq (.ops [⟨(some 3), (.mov (.t 0)), none⟩,
 ⟨(some 4), (.bin .shr (.t 3) (.c (.int .u64 24))), none⟩,
 ⟨(some 5), (.conv .u8 (.t 4)), none⟩,
 ⟨(some 6), (.mov (.t 0)), none⟩,
 ⟨(some 7), (.bin .shr (.t 6) (.c (.int .u64 16))), none⟩,
 ⟨(some 8), (.conv .u8 (.t 7)), none⟩,
 ⟨(some 9), (.mov (.t 0)), none⟩,
 ⟨(some 10), (.bin .shr (.t 9) (.c (.int .u64 8))), none⟩,
 ⟨(some 11), (.conv .u8 (.t 10)), none⟩,
 ⟨(some 12), (.mov (.t 0)), none⟩,
 ⟨(some 13), (.conv .u8 (.t 12)), none⟩,
 ⟨(some 14), (.litL 4 1 [(.int .u8 0)] [(0, (.t 5)), (1, (.t 8)), (2, (.t 11)), (3, (.t 13))]), none⟩,
 ⟨(some 15), (.strL 4 14), none⟩,
 ⟨(some 2), (.mov (.t 15)), none⟩])
 (.keep [2]))
 .ret)),
 [(.slot 2)]⟩
/-- spec SumOf -/
def F_spec_SumOf : Fun := ⟨1,
 (.seq
 (.seq (.ops [⟨(some 2), (.mov (.c (.int .u32 0))), none⟩])
 (.keep [0]))
 (.seq
 (.seq (.ops [⟨(some 3), (.mov (.t 0)), none⟩,
 ⟨(some 4), (.call n_spec_SumMore [(.c (.int .u32 4294967295)), (.t 3)]), none⟩,
 ⟨(some 2), (.mov (.t 4)), none⟩])
 (.keep [2]))
 .ret)),
 [(.slot 2)]⟩
/-- spec l01Value -/
def F_spec_l01Value : Fun := ⟨1,
 (.seq
 (.seq (.ops [⟨(some 2), (.mov (.c (.int .i64 0))), none⟩])
 (.keep [0]))
 (.seq
 (.seq
 (.seq (.ops [⟨(some 3), (.mov (.t 0)), none⟩,
 ⟨(some 4), (.bin .geq (.t 3) (.c (.int .u8 48))), none⟩,
 ⟨(some 5), (.mov (.t 4)), none⟩,
 ⟨(some 6), (.mov (.t 0)), (some (5, true))⟩,
 ⟨(some 7), (.bin .leq (.t 6) (.c (.int .u8 57))), (some (5, true))⟩,
 ⟨(some 8), (.pick (.t 5) (.t 7) (.c (.bool false))), none⟩])
 (.keep [0, 8]))
 (.cond (.t 8)
 (.seq
 (.seq (.ops [⟨(some 9), (.mov (.t 0)), none⟩,
 ⟨(some 10), (.conv .i64 (.t 9)), none⟩,
 ⟨(some 11), (.bin .sub (.t 10) (.c (.int .i64 48))), none⟩,
 ⟨(some 2), (.mov (.t 11)), none⟩])
 (.keep [2]))
 .ret)
 .skip))
 (.seq
 (.seq
 (.seq (.ops [⟨(some 12), (.mov (.t 0)), none⟩,
 ⟨(some 13), (.bin .geq (.t 12) (.c (.int .u8 97))), none⟩,
 ⟨(some 14), (.mov (.t 13)), none⟩,
 ⟨(some 15), (.mov (.t 0)), (some (14, true))⟩,
 ⟨(some 16), (.bin .leq (.t 15) (.c (.int .u8 102))), (some (14, true))⟩,
 ⟨(some 17), (.pick (.t 14) (.t 16) (.c (.bool false))), none⟩])
 (.keep [0, 17]))
 (.cond (.t 17)
 (.seq
 (.seq (.ops [⟨(some 18), (.mov (.t 0)), none⟩,
 ⟨(some 19), (.conv .i64 (.t 18)), none⟩,
 ⟨(some 20), (.bin .sub (.t 19) (.c (.int .i64 97))), none⟩,
 ⟨(some 21), (.bin .add (.t 20) (.c (.int .i64 10))), none⟩,
 ⟨(some 2), (.mov (.t 21)), none⟩])
 (.keep [2]))
 .ret)
 .skip))
 (.seq
 (.seq (.ops [⟨(some 2), (.mov (.c (.int .i64 (-1)))), none⟩])
 (.keep [2]))
 .ret)))),
 [(.slot 2)]⟩
/-- spec l14List -/
def F_spec_l14List : Fun := ⟨1,
 (.seq
 (.seq (.ops [⟨(some 1), (.boxL 6 (.t 0)), none⟩,
 ⟨(some 2), (.mov (.c (.slice none 0 0))), none⟩])
 (.keep [1]))
 (.seq
 (.seq (.ops [⟨(some 3), (.faB 1 1), none⟩,
 ⟨(some 4), (.ldE 1 false 1 3), none⟩,
 ⟨(some 5), (.faB 2 1), none⟩,
 ⟨(some 6), (.ldE 1 false 1 5), none⟩,
 ⟨(some 7), (.faB 3 1), none⟩,
 ⟨(some 8), (.ldE 1 false 1 7), none⟩,
 ⟨(some 9), (.faB 4 1), none⟩,
 ⟨(some 10), (.ldE 1 false 1 9), none⟩,
 ⟨(some 11), (.faB 5 1), none⟩,
 ⟨(some 12), (.ldE 1 false 1 11), none⟩,
 ⟨(some 13), (.lit 5 1 y_int [(.int .i64 0)] [(0, (.t 4)), (1, (.t 6)), (2, (.t 8)), (3, (.t 10)), (4, (.t 12))]), none⟩,
 ⟨(some 2), (.mov (.t 13)), none⟩])
 (.keep [2]))
 .ret)),
 [(.slot 2)]⟩
/-- spec l14Numbers -/
def F_spec_l14Numbers : Fun := ⟨1,
 (.seq
 (.seq (.ops [⟨(some 2), (.mov (.c (.int .i64 0))), none⟩])
 (.keep [0]))
 (.seq
 (.seq
 (.seq (.ops [⟨(some 3), (.mov (.t 0)), none⟩])
 (.keep [3]))
 (.block 0
 (.seq
 (.seq
 (.seq (.ops [⟨(some 5), (.bin .eql (.t 3) (.c (.int .i64 1))), none⟩,
 ⟨(some 4), (.mov (.t 5)), none⟩])
 (.keep [3, 4]))
 (.cond (.t 4)
 .skip
 (.seq
 (.seq (.ops [⟨(some 6), (.bin .eql (.t 3) (.c (.int .i64 3))), none⟩,
 ⟨(some 4), (.mov (.t 6)), none⟩])
 (.keep [3, 4]))
 (.cond (.t 4)
 .skip
 (.seq (.ops [⟨(some 7), (.bin .eql (.t 3) (.c (.int .i64 5))), none⟩,
 ⟨(some 4), (.mov (.t 7)), none⟩])
 (.keep [3, 4]))))))
 (.cond (.t 4)
 (.seq
 (.seq (.ops [⟨(some 2), (.mov (.c (.int .i64 1))), none⟩])
 (.keep [2]))
 .ret)
 (.seq
 (.seq (.ops [⟨(some 9), (.bin .eql (.t 3) (.c (.int .i64 2))), none⟩,
 ⟨(some 8), (.mov (.t 9)), none⟩])
 (.keep [8]))
 (.cond (.t 8)
 (.seq
 (.seq (.ops [⟨(some 2), (.mov (.c (.int .i64 5))), none⟩])
 (.keep [2]))
 .ret)
 .skip))))))
 (.seq
 (.seq (.ops [⟨(some 2), (.mov (.c (.int .i64 0))), none⟩])
 (.keep [2]))
 .ret))),
 [(.slot 2)]⟩
/-- spec l01Var -/
def F_spec_l01Var : Fun := ⟨1,
 (.seq
 (.seq (.ops [⟨(some 2), (.mov (.c (.string ⟨⟨[]⟩⟩))), none⟩])
 (.keep [0]))
 (.seq
 (.seq (.ops [⟨(some 4), (.lit 0 1 y_byte [(.int .u8 0)] []), none⟩,
 ⟨(some 3), (.mov (.t 4)), none⟩])
 (.keep [0, 3]))
 (.seq
 (.block 0
 (.loop
 (.seq
 (.seq
 (.seq (.ops [⟨(some 5), (.mov (.t 0)), none⟩,
 ⟨(some 6), (.bin .gtr (.t 5) (.c (.int .i64 127))), none⟩])
 (.keep [0, 3, 6]))
 (.cond (.t 6)
 .skip
 (.exit 0)))
 (.block 1
 (.seq
 (.seq (.ops [⟨(some 7), (.mov (.t 3)), none⟩,
 ⟨(some 8), (.mov (.t 0)), none⟩,
 ⟨(some 9), (.bin .rem (.t 8) (.c (.int .i64 128))), none⟩,
 ⟨(some 10), (.bin .add (.t 9) (.c (.int .i64 128))), none⟩,
 ⟨(some 11), (.conv .u8 (.t 10)), none⟩,
 ⟨(some 12), (.litL 1 1 [(.int .u8 0)] [(0, (.t 11))]), none⟩,
 ⟨(some 13), (.appL 1 y_byte 1 1 (.t 7) 12), none⟩,
 ⟨(some 3), (.mov (.t 13)), none⟩])
 (.keep [0, 3]))
 (.seq (.ops [⟨(some 14), (.mov (.t 0)), none⟩,
 ⟨(some 15), (.bin .quo (.t 14) (.c (.int .i64 128))), none⟩,
 ⟨(some 0), (.mov (.t 15)), none⟩])
 (.keep [0, 3])))))))
 (.seq
 (.seq (.ops [⟨(some 16), (.mov (.t 3)), none⟩,
 ⟨(some 17), (.mov (.t 0)), none⟩,
 ⟨(some 18), (.conv .u8 (.t 17)), none⟩,
 ⟨(some 19), (.litL 1 1 [(.int .u8 0)] [(0, (.t 18))]), none⟩,
 ⟨(some 20), (.appL 1 y_byte 1 1 (.t 16) 19), none⟩,
 ⟨(some 21), (.str (.t 20)), none⟩,
 ⟨(some 2), (.mov (.t 21)), none⟩])
 (.keep [2]))
 .ret)))),
 [(.slot 2)]⟩
/-- strings explode -/
def F_strings_explode : Fun := ⟨2,
 (.seq
 (.seq (.ops [⟨(some 4), (.mov (.c (.slice none 0 0))), none⟩])
 (.keep [0, 1]))
 (.seq
 (.seq (.ops [⟨(some 10), (.mov (.t 0)), none⟩,
 ⟨(some 11), (.call 68 [(.t 10)]), none⟩,
 ⟨(some 5), (.mov (.t 11)), none⟩])
 (.keep [0, 1, 5]))
 (.seq
 (.seq
 (.seq (.ops [⟨(some 12), (.mov (.t 1)), none⟩,
 ⟨(some 13), (.bin .lss (.t 12) (.c (.int .i64 0))), none⟩,
 ⟨(some 14), (.mov (.t 13)), none⟩,
 ⟨(some 15), (.mov (.t 1)), (some (14, false))⟩,
 ⟨(some 16), (.mov (.t 5)), (some (14, false))⟩,
 ⟨(some 17), (.bin .gtr (.t 15) (.t 16)), (some (14, false))⟩,
 ⟨(some 18), (.pick (.t 14) (.c (.bool true)) (.t 17)), none⟩])
 (.keep [0, 1, 5, 18]))
 (.cond (.t 18)
 (.seq (.ops [⟨(some 19), (.mov (.t 5)), none⟩,
 ⟨(some 1), (.mov (.t 19)), none⟩])
 (.keep [0, 1]))
 .skip))
 (.seq
 (.seq (.ops [⟨(some 20), (.mov (.t 1)), none⟩,
 ⟨(some 21), (.mk 1 y_string 16 [(.string ⟨⟨[]⟩⟩)] (.t 20)), none⟩,
 ⟨(some 6), (.mov (.t 21)), none⟩])
 (.keep [0, 1, 6]))
 (.seq
 (.seq
 (.seq (.ops [⟨(some 7), (.mov (.c (.int .i64 0))), none⟩])
 (.keep [0, 1, 6, 7]))
 (.block 0
 (.loop
 (.seq
 (.seq
 (.seq (.ops [⟨(some 22), (.mov (.t 7)), none⟩,
 ⟨(some 23), (.mov (.t 1)), none⟩,
 ⟨(some 24), (.bin .sub (.t 23) (.c (.int .i64 1))), none⟩,
 ⟨(some 25), (.bin .lss (.t 22) (.t 24)), none⟩])
 (.keep [0, 1, 6, 7, 25]))
 (.cond (.t 25)
 .skip
 (.exit 0)))
 (.seq
 (.block 1
 (.seq
 (.seq (.ops [⟨(some 29), (.mov (.t 0)), none⟩,
 ⟨(some 30), (.call n_unicode_utf8_DecodeRuneInString [(.t 29)]), none⟩,
 ⟨(some 28), (.mov (.t 30)), none⟩,
 ⟨(some 31), (.ext 0 (.t 28)), none⟩,
 ⟨(some 32), (.ext 1 (.t 28)), none⟩,
 ⟨(some 8), (.mov (.t 31)), none⟩,
 ⟨(some 9), (.mov (.t 32)), none⟩])
 (.keep [0, 1, 6, 7, 9]))
 (.seq
 (.seq (.ops [⟨(some 33), (.mov (.t 6)), none⟩,
 ⟨(some 34), (.mov (.t 7)), none⟩,
 ⟨(some 35), (.mov (.t 0)), none⟩,
 ⟨(some 36), (.mov (.t 9)), none⟩,
 ⟨(some 37), (.slS (.t 35) none (some (.t 36))), none⟩,
 ⟨(some 38), (.ia 1 (.t 33) (.t 34)), none⟩,
 ⟨none, (.st 1 (.t 38) (.t 37)), none⟩])
 (.keep [0, 1, 6, 7, 9]))
 (.seq (.ops [⟨(some 39), (.mov (.t 0)), none⟩,
 ⟨(some 40), (.mov (.t 9)), none⟩,
 ⟨(some 41), (.slS (.t 39) (some (.t 40)) none), none⟩,
 ⟨(some 0), (.mov (.t 41)), none⟩])
 (.keep [0, 1, 6, 7])))))
 (.seq (.ops [⟨(some 26), (.mov (.t 7)), none⟩,
 ⟨(some 27), (.bin .add (.t 26) (.c (.int .i64 1))), none⟩,
 ⟨(some 7), (.mov (.t 27)), none⟩])
 (.keep [0, 1, 6, 7])))))))
 (.seq
 (.seq
 (.seq (.ops [⟨(some 42), (.mov (.t 1)), none⟩,
 ⟨(some 43), (.bin .gtr (.t 42) (.c (.int .i64 0))), none⟩])
 (.keep [0, 1, 6, 43]))
 (.cond (.t 43)
 (.seq (.ops [⟨(some 44), (.mov (.t 6)), none⟩,
 ⟨(some 45), (.mov (.t 1)), none⟩,
 ⟨(some 46), (.bin .sub (.t 45) (.c (.int .i64 1))), none⟩,
 ⟨(some 47), (.mov (.t 0)), none⟩,
 ⟨(some 48), (.ia 1 (.t 44) (.t 46)), none⟩,
 ⟨none, (.st 1 (.t 48) (.t 47)), none⟩])
 (.keep [6]))
 .skip))
 (.seq
 (.seq (.ops [⟨(some 49), (.mov (.t 6)), none⟩,
 ⟨(some 4), (.mov (.t 49)), none⟩])
 (.keep [4]))
 .ret))))))),
 [(.slot 4)]⟩
/-- impl Sealed -/
def F_impl_Sealed : Fun := ⟨1,
 (.seq
 (.seq (.ops [⟨(some 2), (.mov (.c (.string ⟨⟨[]⟩⟩))), none⟩,
 ⟨(some 3), (.mov (.c (.bool false))), none⟩])
 (.keep [0]))
 (.seq
 (.seq
 (.seq (.ops [⟨(some 5), (.mov (.t 0)), none⟩,
 ⟨(some 6), (.lnS (.t 5)), none⟩,
 ⟨(some 7), (.bin .gtr (.t 6) (.c (.int .i64 8000))), none⟩])
 (.keep [0, 7]))
 (.cond (.t 7)
 (.seq
 (.seq (.ops [⟨(some 2), (.mov (.c (.string ⟨⟨[]⟩⟩))), none⟩,
 ⟨(some 3), (.mov (.c (.bool false))), none⟩])
 (.keep [2, 3]))
 .ret)
 .skip))
 (.seq
 (.seq (.ops [⟨(some 8), (.mov (.t 0)), none⟩,
 ⟨(some 9), (.call n_impl_SumOf [(.t 8)]), none⟩,
 ⟨(some 4), (.mov (.t 9)), none⟩])
 (.keep [0, 4]))
 (.seq
 (.seq (.ops [⟨(some 10), (.mov (.t 0)), none⟩,
 ⟨(some 11), (.mov (.t 4)), none⟩,
 ⟨(some 12), (.bin .shr (.t 11) (.c (.int .u64 24))), none⟩,
 ⟨(some 13), (.conv .u8 (.t 12)), none⟩,
 ⟨(some 14), (.mov (.t 4)), none⟩,
 ⟨(some 15), (.bin .shr (.t 14) (.c (.int .u64 16))), none⟩,
 ⟨(some 16), (.conv .u8 (.t 15)), none⟩,
 ⟨(some 17), (.mov (.t 4)), none⟩,
 ⟨(some 18), (.bin .shr (.t 17) (.c (.int .u64 8))), none⟩,
 ⟨(some 19), (.conv .u8 (.t 18)), none⟩,
 ⟨(some 20), (.mov (.t 4)), none⟩,
 ⟨(some 21), (.conv .u8 (.t 20)), none⟩,
 ⟨(some 22), (.litL 4 1 [(.int .u8 0)] [(0, (.t 13)), (1, (.t 16)), (2, (.t 19)), (3, (.t 21))]), none⟩,
 ⟨(some 23), (.strL 4 22), none⟩,
 ⟨(some 24), (.bin .add (.t 10) (.t 23)), none⟩,
 ⟨(some 2), (.mov (.t 24)), none⟩,
 ⟨(some 3), (.mov (.c (.bool true))), none⟩])
 (.keep [2, 3]))
 .ret)))),
 [(.slot 2), (.slot 3)]⟩
/-- impl told -/
def F_impl_told : Fun := ⟨1,
 (.seq
 (.seq (.ops [⟨(some 1), (.boxL 6 (.t 0)), none⟩,
 ⟨(some 2), (.mov (.c (.slice none 0 0))), none⟩])
 (.keep [1]))
 (.seq
 (.seq
 (.seq (.ops [⟨(some 3), (.faB 0 1), none⟩,
 ⟨(some 4), (.ldE 1 false 1 3), none⟩])
 (.keep [1, 4]))
 (.block 0
 (.seq
 (.seq
 (.seq (.ops [⟨(some 6), (.bin .eql (.t 4) (.c (.int .i64 1))), none⟩,
 ⟨(some 5), (.mov (.t 6)), none⟩])
 (.keep [1, 4, 5]))
 (.cond (.t 5)
 .skip
 (.seq
 (.seq (.ops [⟨(some 7), (.bin .eql (.t 4) (.c (.int .i64 3))), none⟩,
 ⟨(some 5), (.mov (.t 7)), none⟩])
 (.keep [1, 4, 5]))
 (.cond (.t 5)
 .skip
 (.seq (.ops [⟨(some 8), (.bin .eql (.t 4) (.c (.int .i64 5))), none⟩,
 ⟨(some 5), (.mov (.t 8)), none⟩])
 (.keep [1, 4, 5]))))))
 (.cond (.t 5)
 (.seq
 (.seq (.ops [⟨(some 9), (.faB 1 1), none⟩,
 ⟨(some 10), (.ldE 1 false 1 9), none⟩,
 ⟨(some 11), (.lit 1 1 y_int [(.int .i64 0)] [(0, (.t 10))]), none⟩,
 ⟨(some 2), (.mov (.t 11)), none⟩])
 (.keep [2]))
 .ret)
 (.seq
 (.seq (.ops [⟨(some 13), (.bin .eql (.t 4) (.c (.int .i64 2))), none⟩,
 ⟨(some 12), (.mov (.t 13)), none⟩])
 (.keep [1, 12]))
 (.cond (.t 12)
 (.seq
 (.seq (.ops [⟨(some 14), (.faB 1 1), none⟩,
 ⟨(some 15), (.ldE 1 false 1 14), none⟩,
 ⟨(some 16), (.faB 2 1), none⟩,
 ⟨(some 17), (.ldE 1 false 1 16), none⟩,
 ⟨(some 18), (.faB 3 1), none⟩,
 ⟨(some 19), (.ldE 1 false 1 18), none⟩,
 ⟨(some 20), (.faB 4 1), none⟩,
 ⟨(some 21), (.ldE 1 false 1 20), none⟩,
 ⟨(some 22), (.faB 5 1), none⟩,
 ⟨(some 23), (.ldE 1 false 1 22), none⟩,
 ⟨(some 24), (.lit 5 1 y_int [(.int .i64 0)] [(0, (.t 15)), (1, (.t 17)), (2, (.t 19)), (3, (.t 21)), (4, (.t 23))]), none⟩,
 ⟨(some 2), (.mov (.t 24)), none⟩])
 (.keep [2]))
 .ret)
 .skip))))))
 (.seq
 (.seq (.ops [⟨(some 2), (.mov (.c (.slice none 0 0))), none⟩])
 (.keep [2]))
 .ret))),
 [(.slot 2)]⟩
/-- impl vars -/
def F_impl_vars : Fun := ⟨1,
 (.seq
 (.seq (.ops [⟨(some 2), (.mov (.c (.string ⟨⟨[]⟩⟩))), none⟩])
 (.keep [0]))
 (.seq
 (.seq (.ops [⟨(some 3), (.mov (.c (.string ⟨⟨[]⟩⟩))), none⟩])
 (.keep [0, 3]))
 (.seq
 (.seq
 (.seq (.ops [⟨(some 8), (.mov (.t 0)), none⟩,
 ⟨(some 9), (.ln (.t 8)), none⟩,
 ⟨(some 10), (.mov (.c (.int .i64 0))), none⟩])
 (.keep [3, 8, 9, 10]))
 (.block 0
 (.loop
 (.seq
 (.seq (.ops [⟨(some 11), (.bin .lss (.t 10) (.t 9)), none⟩])
 (.keep [3, 8, 9, 10, 11]))
 (.seq
 (.cond (.t 11)
 .skip
 (.exit 0))
 (.seq
 (.block 1
 (.seq
 (.seq (.ops [⟨(some 12), (.ia 1 (.t 8) (.t 10)), none⟩,
 ⟨(some 13), (.ld 1 false (.t 12)), none⟩,
 ⟨(some 5), (.mov (.t 13)), none⟩])
 (.keep [3, 5, 8, 9, 10]))
 (.seq
 (.seq (.ops [⟨(some 15), (.mov (.t 5)), none⟩,
 ⟨(some 16), (.call n_impl_VarText [(.t 15)]), none⟩,
 ⟨(some 14), (.mov (.t 16)), none⟩,
 ⟨(some 17), (.ext 0 (.t 14)), none⟩,
 ⟨(some 18), (.ext 1 (.t 14)), none⟩,
 ⟨(some 6), (.mov (.t 17)), none⟩,
 ⟨(some 7), (.mov (.t 18)), none⟩])
 (.keep [3, 6, 8, 9, 10]))
 (.seq (.ops [⟨(some 19), (.mov (.t 3)), none⟩,
 ⟨(some 20), (.mov (.t 6)), none⟩,
 ⟨(some 21), (.bin .add (.t 19) (.t 20)), none⟩,
 ⟨(some 3), (.mov (.t 21)), none⟩])
 (.keep [3, 8, 9, 10])))))
 (.seq (.ops [⟨(some 22), (.bin .add (.t 10) (.c (.int .i64 1))), none⟩,
 ⟨(some 10), (.mov (.t 22)), none⟩])
 (.keep [3, 8, 9, 10]))))))))
 (.seq
 (.seq (.ops [⟨(some 23), (.mov (.t 3)), none⟩,
 ⟨(some 2), (.mov (.t 23)), none⟩])
 (.keep [2]))
 .ret)))),
 [(.slot 2)]⟩
/-- spec SumMore -/
def F_spec_SumMore : Fun := ⟨2,
 (.seq
 (.seq (.ops [⟨(some 4), (.mov (.c (.int .u32 0))), none⟩])
 (.keep [0, 1]))
 (.seq
 (.seq
 (.seq (.ops [⟨(some 5), (.mov (.c (.int .i64 0))), none⟩])
 (.keep [0, 1, 5]))
 (.block 0
 (.loop
 (.seq
 (.seq
 (.seq (.ops [⟨(some 8), (.mov (.t 5)), none⟩,
 ⟨(some 9), (.mov (.t 1)), none⟩,
 ⟨(some 10), (.lnS (.t 9)), none⟩,
 ⟨(some 11), (.bin .lss (.t 8) (.t 10)), none⟩])
 (.keep [0, 1, 5, 11]))
 (.cond (.t 11)
 .skip
 (.exit 0)))
 (.seq
 (.block 1
 (.seq
 (.seq (.ops [⟨(some 14), (.mov (.t 0)), none⟩,
 ⟨(some 15), (.mov (.t 1)), none⟩,
 ⟨(some 16), (.mov (.t 5)), none⟩,
 ⟨(some 17), (.ix (.t 15) (.t 16)), none⟩,
 ⟨(some 18), (.conv .u32 (.t 17)), none⟩,
 ⟨(some 19), (.bin .xor (.t 14) (.t 18)), none⟩,
 ⟨(some 0), (.mov (.t 19)), none⟩])
 (.keep [0, 1, 5]))
 (.seq
 (.seq (.ops [⟨(some 6), (.mov (.c (.int .i64 0))), none⟩])
 (.keep [0, 1, 5, 6]))
 (.block 2
 (.loop
 (.seq
 (.seq
 (.seq (.ops [⟨(some 20), (.mov (.t 6)), none⟩,
 ⟨(some 21), (.bin .lss (.t 20) (.c (.int .i64 8))), none⟩])
 (.keep [0, 1, 5, 6, 21]))
 (.cond (.t 21)
 .skip
 (.exit 2)))
 (.seq
 (.block 3
 (.seq
 (.seq (.ops [⟨(some 24), (.mov (.t 0)), none⟩,
 ⟨(some 25), (.bin .rem (.t 24) (.c (.int .u32 2))), none⟩,
 ⟨(some 26), (.bin .eql (.t 25) (.c (.int .u32 1))), none⟩,
 ⟨(some 7), (.mov (.t 26)), none⟩])
 (.keep [0, 1, 5, 6, 7]))
 (.seq
 (.seq (.ops [⟨(some 27), (.mov (.t 0)), none⟩,
 ⟨(some 28), (.bin .quo (.t 27) (.c (.int .u32 2))), none⟩,
 ⟨(some 0), (.mov (.t 28)), none⟩])
 (.keep [0, 1, 5, 6, 7]))
 (.seq
 (.seq (.ops [⟨(some 29), (.mov (.t 7)), none⟩])
 (.keep [0, 1, 5, 6, 29]))
 (.cond (.t 29)
 (.seq (.ops [⟨(some 30), (.mov (.t 0)), none⟩,
 ⟨(some 31), (.bin .xor (.t 30) (.c (.int .u32 3558460437))), none⟩,
 ⟨(some 0), (.mov (.t 31)), none⟩])
 (.keep [0, 1, 5, 6]))
 .skip)))))
 (.seq (.ops [⟨(some 22), (.mov (.t 6)), none⟩,
 ⟨(some 23), (.bin .add (.t 22) (.c (.int .i64 1))), none⟩,
 ⟨(some 6), (.mov (.t 23)), none⟩])
 (.keep [0, 1, 5, 6])))))))))
 (.seq (.ops [⟨(some 12), (.mov (.t 5)), none⟩,
 ⟨(some 13), (.bin .add (.t 12) (.c (.int .i64 1))), none⟩,
 ⟨(some 5), (.mov (.t 13)), none⟩])
 (.keep [0, 1, 5])))))))
 (.seq
 (.seq (.ops [⟨(some 32), (.mov (.t 0)), none⟩,
 ⟨(some 4), (.mov (.t 32)), none⟩])
 (.keep [4]))
 .ret))),
 [(.slot 4)]⟩
/-- unicode utf8 DecodeRuneInString -/
def F_unicode_utf8_DecodeRuneInString : Fun := ⟨1,
 (.seq
 (.seq (.ops [⟨(some 2), (.mov (.c (.int .i32 0))), none⟩,
 ⟨(some 3), (.mov (.c (.int .i64 0))), none⟩])
 (.keep [0]))
 (.seq
 (.seq
 (.seq (.ops [⟨(some 4), (.mov (.t 0)), none⟩,
 ⟨(some 5), (.bin .neq (.t 4) (.c (.string ⟨⟨[]⟩⟩))), none⟩,
 ⟨(some 6), (.mov (.t 5)), none⟩,
 ⟨(some 7), (.mov (.t 0)), (some (6, true))⟩,
 ⟨(some 8), (.ix (.t 7) (.c (.int .i64 0))), (some (6, true))⟩,
 ⟨(some 9), (.bin .lss (.t 8) (.c (.int .u8 128))), (some (6, true))⟩,
 ⟨(some 10), (.pick (.t 6) (.t 9) (.c (.bool false))), none⟩])
 (.keep [0, 10]))
 (.cond (.t 10)
 (.seq
 (.seq (.ops [⟨(some 11), (.mov (.t 0)), none⟩,
 ⟨(some 12), (.ix (.t 11) (.c (.int .i64 0))), none⟩,
 ⟨(some 13), (.conv .i32 (.t 12)), none⟩,
 ⟨(some 2), (.mov (.t 13)), none⟩,
 ⟨(some 3), (.mov (.c (.int .i64 1))), none⟩])
 (.keep [2, 3]))
 .ret)
 (.seq (.ops [⟨(some 15), (.mov (.t 0)), none⟩,
 ⟨(some 16), (.call 81 [(.t 15)]), none⟩,
 ⟨(some 14), (.mov (.t 16)), none⟩,
 ⟨(some 17), (.ext 0 (.t 14)), none⟩,
 ⟨(some 18), (.ext 1 (.t 14)), none⟩,
 ⟨(some 2), (.mov (.t 17)), none⟩,
 ⟨(some 3), (.mov (.t 18)), none⟩])
 (.keep [2, 3]))))
 .ret)),
 [(.slot 2), (.slot 3)]⟩
/-- impl SumOf -/
def F_impl_SumOf : Fun := ⟨1,
 (.seq
 (.seq (.ops [⟨(some 2), (.mov (.c (.int .u32 0))), none⟩])
 (.keep [0]))
 (.seq
 (.seq (.ops [⟨(some 3), (.mov (.t 0)), none⟩,
 ⟨(some 4), (.call n_impl_SumMore [(.c (.int .u32 4294967295)), (.t 3)]), none⟩,
 ⟨(some 2), (.mov (.t 4)), none⟩])
 (.keep [2]))
 .ret)),
 [(.slot 2)]⟩
/-- impl VarText -/
def F_impl_VarText : Fun := ⟨1,
 (.seq
 (.seq (.ops [⟨(some 2), (.mov (.c (.string ⟨⟨[]⟩⟩))), none⟩,
 ⟨(some 3), (.mov (.c (.bool false))), none⟩])
 (.keep [0]))
 (.seq
 (.seq
 (.seq (.ops [⟨(some 5), (.mov (.t 0)), none⟩,
 ⟨(some 6), (.call n_impl_in [(.t 5), (.c (.int .i64 0)), (.c (.int .i64 1000000000))]), none⟩,
 ⟨(some 7), (.un .not (.t 6)), none⟩])
 (.keep [0, 7]))
 (.cond (.t 7)
 (.seq
 (.seq (.ops [⟨(some 2), (.mov (.c (.string ⟨⟨[]⟩⟩))), none⟩,
 ⟨(some 3), (.mov (.c (.bool false))), none⟩])
 (.keep [2, 3]))
 .ret)
 .skip))
 (.seq
 (.seq (.ops [⟨(some 4), (.mov (.c (.slice none 0 0))), none⟩])
 (.keep [0, 4]))
 (.seq
 (.block 0
 (.loop
 (.seq
 (.seq
 (.seq (.ops [⟨(some 8), (.mov (.t 0)), none⟩,
 ⟨(some 9), (.bin .gtr (.t 8) (.c (.int .i64 127))), none⟩])
 (.keep [0, 4, 9]))
 (.cond (.t 9)
 .skip
 (.exit 0)))
 (.block 1
 (.seq
 (.seq (.ops [⟨(some 10), (.mov (.t 4)), none⟩,
 ⟨(some 11), (.mov (.t 0)), none⟩,
 ⟨(some 12), (.bin .rem (.t 11) (.c (.int .i64 128))), none⟩,
 ⟨(some 13), (.bin .add (.t 12) (.c (.int .i64 128))), none⟩,
 ⟨(some 14), (.conv .u8 (.t 13)), none⟩,
 ⟨(some 15), (.litL 1 1 [(.int .u8 0)] [(0, (.t 14))]), none⟩,
 ⟨(some 16), (.appL 1 y_byte 1 1 (.t 10) 15), none⟩,
 ⟨(some 4), (.mov (.t 16)), none⟩])
 (.keep [0, 4]))
 (.seq (.ops [⟨(some 17), (.mov (.t 0)), none⟩,
 ⟨(some 18), (.bin .quo (.t 17) (.c (.int .i64 128))), none⟩,
 ⟨(some 0), (.mov (.t 18)), none⟩])
 (.keep [0, 4])))))))
 (.seq
 (.seq (.ops [⟨(some 19), (.mov (.t 4)), none⟩,
 ⟨(some 20), (.mov (.t 0)), none⟩,
 ⟨(some 21), (.conv .u8 (.t 20)), none⟩,
 ⟨(some 22), (.litL 1 1 [(.int .u8 0)] [(0, (.t 21))]), none⟩,
 ⟨(some 23), (.appL 1 y_byte 1 1 (.t 19) 22), none⟩,
 ⟨(some 24), (.str (.t 23)), none⟩,
 ⟨(some 2), (.mov (.t 24)), none⟩,
 ⟨(some 3), (.mov (.c (.bool true))), none⟩])
 (.keep [2, 3]))
 .ret))))),
 [(.slot 2), (.slot 3)]⟩
/-- impl SumMore -/
def F_impl_SumMore : Fun := ⟨2,
 (.seq
 (.seq (.ops [⟨(some 4), (.mov (.c (.int .u32 0))), none⟩])
 (.keep [0, 1]))
 (.seq
 (.seq
 (.seq (.ops [⟨(some 7), (.mov (.t 1)), none⟩,
 ⟨(some 8), (.lnS (.t 7)), none⟩,
 ⟨(some 9), (.mov (.c (.int .i64 0))), none⟩])
 (.keep [0, 1, 8, 9]))
 (.block 0
 (.loop
 (.seq
 (.seq (.ops [⟨(some 10), (.bin .lss (.t 9) (.t 8)), none⟩])
 (.keep [0, 1, 8, 9, 10]))
 (.seq
 (.cond (.t 10)
 .skip
 (.exit 0))
 (.seq
 (.block 1
 (.seq
 (.seq (.ops [⟨(some 11), (.mov (.t 9)), none⟩,
 ⟨(some 5), (.mov (.t 11)), none⟩])
 (.keep [0, 1, 5, 8, 9]))
 (.seq
 (.seq (.ops [⟨(some 12), (.mov (.t 0)), none⟩,
 ⟨(some 13), (.mov (.t 1)), none⟩,
 ⟨(some 14), (.mov (.t 5)), none⟩,
 ⟨(some 15), (.ix (.t 13) (.t 14)), none⟩,
 ⟨(some 16), (.conv .u32 (.t 15)), none⟩,
 ⟨(some 17), (.bin .xor (.t 12) (.t 16)), none⟩,
 ⟨(some 0), (.mov (.t 17)), none⟩])
 (.keep [0, 1, 8, 9]))
 (.seq
 (.seq (.ops [⟨(some 18), (.mov (.c (.int .i64 0))), none⟩])
 (.keep [0, 1, 8, 9, 18]))
 (.block 2
 (.loop
 (.seq
 (.seq (.ops [⟨(some 19), (.bin .lss (.t 18) (.c (.int .i64 8))), none⟩])
 (.keep [0, 1, 8, 9, 18, 19]))
 (.seq
 (.cond (.t 19)
 .skip
 (.exit 2))
 (.seq
 (.block 3
 (.seq
 (.seq (.ops [⟨(some 20), (.mov (.t 0)), none⟩,
 ⟨(some 21), (.bin .and (.t 20) (.c (.int .u32 1))), none⟩,
 ⟨(some 22), (.bin .eql (.t 21) (.c (.int .u32 1))), none⟩,
 ⟨(some 6), (.mov (.t 22)), none⟩])
 (.keep [0, 1, 6, 8, 9, 18]))
 (.seq
 (.seq (.ops [⟨(some 23), (.mov (.t 0)), none⟩,
 ⟨(some 24), (.bin .shr (.t 23) (.c (.int .u64 1))), none⟩,
 ⟨(some 0), (.mov (.t 24)), none⟩])
 (.keep [0, 1, 6, 8, 9, 18]))
 (.seq
 (.seq (.ops [⟨(some 25), (.mov (.t 6)), none⟩])
 (.keep [0, 1, 8, 9, 18, 25]))
 (.cond (.t 25)
 (.seq (.ops [⟨(some 26), (.mov (.t 0)), none⟩,
 ⟨(some 27), (.bin .xor (.t 26) (.c (.int .u32 3558460437))), none⟩,
 ⟨(some 0), (.mov (.t 27)), none⟩])
 (.keep [0, 1, 8, 9, 18]))
 .skip)))))
 (.seq (.ops [⟨(some 28), (.bin .add (.t 18) (.c (.int .i64 1))), none⟩,
 ⟨(some 18), (.mov (.t 28)), none⟩])
 (.keep [0, 1, 8, 9, 18])))))))))))
 (.seq (.ops [⟨(some 29), (.bin .add (.t 9) (.c (.int .i64 1))), none⟩,
 ⟨(some 9), (.mov (.t 29)), none⟩])
 (.keep [0, 1, 8, 9]))))))))
 (.seq
 (.seq (.ops [⟨(some 30), (.mov (.t 0)), none⟩,
 ⟨(some 4), (.mov (.t 30)), none⟩])
 (.keep [4]))
 .ret))),
 [(.slot 4)]⟩
end Go.Proofs.YthfeahanmbmjhaaGreatDoor.Ab
