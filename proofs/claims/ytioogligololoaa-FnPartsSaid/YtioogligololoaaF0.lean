/- The functions, as they are read. No conditions. -/
import Derived.Test.YtioogligololoaaFN
namespace Go.Proofs.Ytioogligololoaa.Ab
/-- laws FnExactMostCouples -/
def F_laws_FnExactMostCouples : Fun := ⟨1,
 (.seq
 (.seq (.ops [⟨(some 1), (.boxL 2 (.t 0)), none⟩,
 ⟨(some 2), (.mov (.c (.bool false))), none⟩])
 (.keep [1]))
 (.seq
 (.seq (.ops [⟨(some 3), (.mov (.c (.int .i64 1048576))), none⟩])
 (.keep [1, 3]))
 (.seq
 (.seq (.ops [⟨(some 7), (.ldB 2 true 1), none⟩,
 ⟨(some 8), (.mov (.t 3)), none⟩,
 ⟨(some 9), (.call n_laws_szGraph [(.t 7), (.t 8)]), none⟩,
 ⟨(some 3), (.mov (.t 9)), none⟩])
 (.keep [1, 3]))
 (.seq
 (.seq
 (.seq (.ops [⟨(some 10), (.mov (.t 3)), none⟩,
 ⟨(some 11), (.bin .lss (.t 10) (.c (.int .i64 0))), none⟩])
 (.keep [1, 11]))
 (.cond (.t 11)
 (.seq
 (.seq (.ops [⟨(some 2), (.mov (.c (.bool true))), none⟩])
 (.keep [2]))
 .ret)
 .skip))
 (.seq
 (.seq (.ops [⟨(some 12), (.ldB 2 true 1), none⟩,
 ⟨(some 13), (.call n_laws_toGraph [(.t 12)]), none⟩,
 ⟨(some 14), (.call n_spec_MostCouples [(.t 13)]), none⟩,
 ⟨(some 4), (.mov (.t 14)), none⟩])
 (.keep [1, 4]))
 (.seq
 (.seq (.ops [⟨(some 15), (.ldB 2 true 1), none⟩,
 ⟨(some 16), (.call n_laws_toGraph [(.t 15)]), none⟩,
 ⟨(some 5), (.newL [(.int .i64 0), (.slice none 0 0)]), none⟩,
 ⟨none, (.stB 2 5 (.t 16)), none⟩])
 (.keep [1, 4, 5]))
 (.seq
 (.seq (.ops [⟨(some 17), (.ldB 2 true 5), none⟩,
 ⟨(some 18), (.call n_impl_MostCouples [(.t 17)]), none⟩,
 ⟨(some 6), (.mov (.t 18)), none⟩])
 (.keep [1, 4, 5, 6]))
 (.seq
 (.seq
 (.seq (.ops [⟨(some 19), (.mov (.t 6)), none⟩,
 ⟨(some 20), (.mov (.t 4)), none⟩,
 ⟨(some 21), (.bin .neq (.t 19) (.t 20)), none⟩])
 (.keep [1, 5, 21]))
 (.cond (.t 21)
 (.seq
 (.seq (.ops [⟨(some 2), (.mov (.c (.bool false))), none⟩])
 (.keep [2]))
 .ret)
 .skip))
 (.seq
 (.seq
 (.seq (.free true [⟨(some 22), (.ldB 2 true 5), none⟩,
 ⟨(some 23), (.ldB 2 true 1), none⟩,
 ⟨(some 24), (.call n_laws_toGraph [(.t 23)]), none⟩,
 ⟨(some 25), (.call n_laws_eqGraph [(.t 22), (.t 24)]), none⟩,
 ⟨(some 26), (.un .not (.t 25)), none⟩])
 (.keep [26]))
 (.cond (.t 26)
 (.seq
 (.seq (.ops [⟨(some 2), (.mov (.c (.bool false))), none⟩])
 (.keep [2]))
 .ret)
 .skip))
 (.seq
 (.seq (.ops [⟨(some 2), (.mov (.c (.bool true))), none⟩])
 (.keep [2]))
 .ret)))))))))),
 [(.slot 2)]⟩
/-- laws FnParts -/
def F_laws_FnParts : Fun := ⟨1,
 (.seq
 (.seq (.ops [⟨(some 2), (.mov (.c (.bool false))), none⟩])
 (.keep [0]))
 (.seq
 (.seq
 (.seq (.ops [⟨(some 17), (.mov (.t 0)), none⟩,
 ⟨(some 18), (.call n_laws_big [(.t 17)]), none⟩])
 (.keep [0, 18]))
 (.cond (.t 18)
 (.seq
 (.seq (.ops [⟨(some 2), (.mov (.c (.bool true))), none⟩])
 (.keep [2]))
 .ret)
 .skip))
 (.seq
 (.seq (.ops [⟨(some 19), (.mov (.t 0)), none⟩,
 ⟨(some 20), (.call n_spec_DrawRightGraph [(.t 19)]), none⟩,
 ⟨(some 3), (.newL [(.int .i64 0), (.slice none 0 0)]), none⟩,
 ⟨none, (.stB 2 3 (.t 20)), none⟩])
 (.keep [0, 3]))
 (.seq
 (.seq (.ops [⟨(some 21), (.mov (.t 0)), none⟩,
 ⟨(some 22), (.call n_spec_DrawPlaces [(.t 21)]), none⟩,
 ⟨(some 4), (.mov (.t 22)), none⟩])
 (.keep [3, 4]))
 (.seq
 (.seq (.ops [⟨(some 23), (.lit 0 1 y_int [(.int .i64 0)] []), none⟩,
 ⟨(some 5), (.mov (.t 23)), none⟩])
 (.keep [3, 4, 5]))
 (.seq
 (.seq
 (.seq (.ops [⟨(some 6), (.mov (.c (.int .i64 0))), none⟩])
 (.keep [3, 4, 5, 6]))
 (.block 0
 (.loop
 (.seq
 (.seq
 (.seq (.ops [⟨(some 24), (.mov (.t 6)), none⟩,
 ⟨(some 25), (.faB 0 3), none⟩,
 ⟨(some 26), (.ldE 1 false 3 25), none⟩,
 ⟨(some 27), (.bin .lss (.t 24) (.t 26)), none⟩])
 (.keep [3, 4, 5, 6, 27]))
 (.cond (.t 27)
 .skip
 (.exit 0)))
 (.seq
 (.block 1
 (.seq
 (.seq (.ops [⟨(some 30), (.mov (.t 4)), none⟩,
 ⟨(some 31), (.mov (.t 6)), none⟩,
 ⟨(some 32), (.bin .rem (.t 31) (.c (.int .i64 12))), none⟩,
 ⟨(some 33), (.ia 1 (.t 30) (.t 32)), none⟩,
 ⟨(some 34), (.ld 1 false (.t 33)), none⟩,
 ⟨(some 35), (.bin .rem (.t 34) (.c (.int .i64 4))), none⟩,
 ⟨(some 36), (.bin .eql (.t 35) (.c (.int .i64 0))), none⟩])
 (.keep [3, 4, 5, 6, 36]))
 (.cond (.t 36)
 (.seq (.ops [⟨(some 37), (.mov (.t 5)), none⟩,
 ⟨(some 38), (.mov (.t 6)), none⟩,
 ⟨(some 39), (.litL 1 1 [(.int .i64 0)] [(0, (.t 38))]), none⟩,
 ⟨(some 40), (.appL 1 y_int 8 1 (.t 37) 39), none⟩,
 ⟨(some 5), (.mov (.t 40)), none⟩])
 (.keep [3, 4, 5, 6]))
 .skip)))
 (.seq (.ops [⟨(some 28), (.mov (.t 6)), none⟩,
 ⟨(some 29), (.bin .add (.t 28) (.c (.int .i64 1))), none⟩,
 ⟨(some 6), (.mov (.t 29)), none⟩])
 (.keep [3, 4, 5, 6])))))))
 (.seq
 (.seq (.ops [⟨(some 41), (.ldB 2 true 3), none⟩,
 ⟨(some 42), (.mov (.t 5)), none⟩,
 ⟨(some 43), (.call n_impl_PiecesOf [(.t 41), (.t 42)]), none⟩,
 ⟨(some 7), (.mov (.t 43)), none⟩])
 (.keep [3, 5, 7]))
 (.seq
 (.seq (.ops [⟨(some 44), (.faB 0 3), none⟩,
 ⟨(some 45), (.ldE 1 false 3 44), none⟩,
 ⟨(some 46), (.mk 1 y_int 8 [(.int .i64 0)] (.t 45)), none⟩,
 ⟨(some 8), (.mov (.t 46)), none⟩])
 (.keep [3, 5, 7, 8]))
 (.seq
 (.seq (.ops [⟨(some 9), (.mov (.c (.int .i64 0))), none⟩])
 (.keep [3, 5, 7, 8, 9]))
 (.seq
 (.seq
 (.seq (.ops [⟨(some 10), (.mov (.c (.int .i64 0))), none⟩])
 (.keep [3, 5, 7, 8, 9, 10]))
 (.block 2
 (.loop
 (.seq
 (.seq
 (.seq (.ops [⟨(some 47), (.mov (.t 10)), none⟩,
 ⟨(some 48), (.mov (.t 7)), none⟩,
 ⟨(some 49), (.ln (.t 48)), none⟩,
 ⟨(some 50), (.bin .lss (.t 47) (.t 49)), none⟩])
 (.keep [3, 5, 7, 8, 9, 10, 50]))
 (.cond (.t 50)
 .skip
 (.exit 2)))
 (.seq
 (.block 3
 (.seq
 (.seq (.ops [⟨(some 11), (.mov (.c (.int .i64 0))), none⟩])
 (.keep [3, 5, 7, 8, 9, 10, 11]))
 (.block 4
 (.loop
 (.seq
 (.seq
 (.seq (.ops [⟨(some 53), (.mov (.t 11)), none⟩,
 ⟨(some 54), (.mov (.t 7)), none⟩,
 ⟨(some 55), (.mov (.t 10)), none⟩,
 ⟨(some 56), (.ia 1 (.t 54) (.t 55)), none⟩,
 ⟨(some 57), (.ld 1 false (.t 56)), none⟩,
 ⟨(some 58), (.ln (.t 57)), none⟩,
 ⟨(some 59), (.bin .lss (.t 53) (.t 58)), none⟩])
 (.keep [3, 5, 7, 8, 9, 10, 11, 59]))
 (.cond (.t 59)
 .skip
 (.exit 4)))
 (.seq
 (.block 5
 (.seq
 (.seq (.ops [⟨(some 62), (.mov (.t 7)), none⟩,
 ⟨(some 63), (.mov (.t 10)), none⟩,
 ⟨(some 64), (.ia 1 (.t 62) (.t 63)), none⟩,
 ⟨(some 65), (.ld 1 false (.t 64)), none⟩,
 ⟨(some 66), (.mov (.t 11)), none⟩,
 ⟨(some 67), (.ia 1 (.t 65) (.t 66)), none⟩,
 ⟨(some 68), (.ld 1 false (.t 67)), none⟩,
 ⟨(some 12), (.mov (.t 68)), none⟩])
 (.keep [3, 5, 7, 8, 9, 10, 11, 12]))
 (.seq
 (.seq
 (.seq (.ops [⟨(some 69), (.mov (.t 12)), none⟩,
 ⟨(some 70), (.bin .lss (.t 69) (.c (.int .i64 0))), none⟩,
 ⟨(some 71), (.mov (.t 70)), none⟩,
 ⟨(some 72), (.mov (.t 12)), (some (71, false))⟩,
 ⟨(some 73), (.faB 0 3), (some (71, false))⟩,
 ⟨(some 74), (.ldE 1 false 3 73), (some (71, false))⟩,
 ⟨(some 75), (.bin .geq (.t 72) (.t 74)), (some (71, false))⟩,
 ⟨(some 76), (.pick (.t 71) (.c (.bool true)) (.t 75)), none⟩,
 ⟨(some 77), (.mov (.t 76)), none⟩,
 ⟨(some 78), (.mov (.t 8)), (some (77, false))⟩,
 ⟨(some 79), (.mov (.t 12)), (some (77, false))⟩,
 ⟨(some 80), (.ia 1 (.t 78) (.t 79)), (some (77, false))⟩,
 ⟨(some 81), (.ld 1 false (.t 80)), (some (77, false))⟩,
 ⟨(some 82), (.bin .neq (.t 81) (.c (.int .i64 0))), (some (77, false))⟩,
 ⟨(some 83), (.pick (.t 77) (.c (.bool true)) (.t 82)), none⟩,
 ⟨(some 84), (.mov (.t 83)), none⟩,
 ⟨(some 85), (.mov (.t 5)), (some (84, false))⟩,
 ⟨(some 86), (.mov (.t 12)), (some (84, false))⟩,
 ⟨(some 87), (.call n_laws_within [(.t 85), (.t 86)]), (some (84, false))⟩,
 ⟨(some 88), (.pick (.t 84) (.c (.bool true)) (.t 87)), none⟩])
 (.keep [3, 5, 7, 8, 9, 10, 11, 12, 88]))
 (.cond (.t 88)
 (.seq
 (.seq (.ops [⟨(some 2), (.mov (.c (.bool false))), none⟩])
 (.keep [2]))
 .ret)
 .skip))
 (.seq
 (.seq (.ops [⟨(some 89), (.mov (.t 8)), none⟩,
 ⟨(some 90), (.mov (.t 12)), none⟩,
 ⟨(some 91), (.mov (.t 10)), none⟩,
 ⟨(some 92), (.bin .add (.t 91) (.c (.int .i64 1))), none⟩,
 ⟨(some 93), (.ia 1 (.t 89) (.t 90)), none⟩,
 ⟨none, (.st 1 (.t 93) (.t 92)), none⟩])
 (.keep [3, 5, 7, 8, 9, 10, 11]))
 (.seq (.ops [⟨(some 94), (.mov (.t 9)), none⟩,
 ⟨(some 95), (.bin .add (.t 94) (.c (.int .i64 1))), none⟩,
 ⟨(some 9), (.mov (.t 95)), none⟩])
 (.keep [3, 5, 7, 8, 9, 10, 11]))))))
 (.seq (.ops [⟨(some 60), (.mov (.t 11)), none⟩,
 ⟨(some 61), (.bin .add (.t 60) (.c (.int .i64 1))), none⟩,
 ⟨(some 11), (.mov (.t 61)), none⟩])
 (.keep [3, 5, 7, 8, 9, 10, 11]))))))))
 (.seq (.ops [⟨(some 51), (.mov (.t 10)), none⟩,
 ⟨(some 52), (.bin .add (.t 51) (.c (.int .i64 1))), none⟩,
 ⟨(some 10), (.mov (.t 52)), none⟩])
 (.keep [3, 5, 7, 8, 9, 10])))))))
 (.seq
 (.seq
 (.seq (.ops [⟨(some 13), (.mov (.c (.int .i64 0))), none⟩])
 (.keep [3, 5, 7, 8, 9, 13]))
 (.block 6
 (.loop
 (.seq
 (.seq
 (.seq (.ops [⟨(some 96), (.mov (.t 13)), none⟩,
 ⟨(some 97), (.faB 1 3), none⟩,
 ⟨(some 98), (.ldE 1 false 3 97), none⟩,
 ⟨(some 99), (.ln (.t 98)), none⟩,
 ⟨(some 100), (.bin .lss (.t 96) (.t 99)), none⟩])
 (.keep [3, 5, 7, 8, 9, 13, 100]))
 (.cond (.t 100)
 .skip
 (.exit 6)))
 (.seq
 (.block 7
 (.seq
 (.seq (.ops [⟨(some 103), (.mov (.t 8)), none⟩,
 ⟨(some 104), (.faB 1 3), none⟩,
 ⟨(some 105), (.ldE 1 false 3 104), none⟩,
 ⟨(some 106), (.mov (.t 13)), none⟩,
 ⟨(some 107), (.ia 5 (.t 105) (.t 106)), none⟩,
 ⟨(some 108), (.fa 0 (.t 107)), none⟩,
 ⟨(some 109), (.ld 1 false (.t 108)), none⟩,
 ⟨(some 110), (.ia 1 (.t 103) (.t 109)), none⟩,
 ⟨(some 111), (.ld 1 false (.t 110)), none⟩,
 ⟨(some 14), (.mov (.t 111)), none⟩])
 (.keep [3, 5, 7, 8, 9, 13, 14]))
 (.seq
 (.seq (.ops [⟨(some 112), (.mov (.t 8)), none⟩,
 ⟨(some 113), (.faB 1 3), none⟩,
 ⟨(some 114), (.ldE 1 false 3 113), none⟩,
 ⟨(some 115), (.mov (.t 13)), none⟩,
 ⟨(some 116), (.ia 5 (.t 114) (.t 115)), none⟩,
 ⟨(some 117), (.fa 1 (.t 116)), none⟩,
 ⟨(some 118), (.ld 1 false (.t 117)), none⟩,
 ⟨(some 119), (.ia 1 (.t 112) (.t 118)), none⟩,
 ⟨(some 120), (.ld 1 false (.t 119)), none⟩,
 ⟨(some 15), (.mov (.t 120)), none⟩])
 (.keep [3, 5, 7, 8, 9, 13, 14, 15]))
 (.seq
 (.seq (.ops [⟨(some 121), (.mov (.t 14)), none⟩,
 ⟨(some 122), (.bin .gtr (.t 121) (.c (.int .i64 0))), none⟩,
 ⟨(some 123), (.mov (.t 122)), none⟩,
 ⟨(some 124), (.mov (.t 15)), (some (123, true))⟩,
 ⟨(some 125), (.bin .gtr (.t 124) (.c (.int .i64 0))), (some (123, true))⟩,
 ⟨(some 126), (.pick (.t 123) (.t 125) (.c (.bool false))), none⟩,
 ⟨(some 127), (.mov (.t 126)), none⟩,
 ⟨(some 128), (.mov (.t 14)), (some (127, true))⟩,
 ⟨(some 129), (.mov (.t 15)), (some (127, true))⟩,
 ⟨(some 130), (.bin .neq (.t 128) (.t 129)), (some (127, true))⟩,
 ⟨(some 131), (.pick (.t 127) (.t 130) (.c (.bool false))), none⟩])
 (.keep [3, 5, 7, 8, 9, 13, 131]))
 (.cond (.t 131)
 (.seq
 (.seq (.ops [⟨(some 2), (.mov (.c (.bool false))), none⟩])
 (.keep [2]))
 .ret)
 .skip)))))
 (.seq (.ops [⟨(some 101), (.mov (.t 13)), none⟩,
 ⟨(some 102), (.bin .add (.t 101) (.c (.int .i64 1))), none⟩,
 ⟨(some 13), (.mov (.t 102)), none⟩])
 (.keep [3, 5, 7, 8, 9, 13])))))))
 (.seq
 (.seq
 (.seq (.ops [⟨(some 16), (.mov (.c (.int .i64 0))), none⟩])
 (.keep [3, 5, 7, 9, 16]))
 (.block 8
 (.loop
 (.seq
 (.seq
 (.seq (.ops [⟨(some 132), (.mov (.t 16)), none⟩,
 ⟨(some 133), (.faB 0 3), none⟩,
 ⟨(some 134), (.ldE 1 false 3 133), none⟩,
 ⟨(some 135), (.bin .lss (.t 132) (.t 134)), none⟩])
 (.keep [3, 5, 7, 9, 16, 135]))
 (.cond (.t 135)
 .skip
 (.exit 8)))
 (.seq
 (.block 9
 (.seq
 (.seq (.free true [⟨(some 138), (.ldB 2 true 3), none⟩,
 ⟨(some 139), (.mov (.t 16)), none⟩,
 ⟨(some 140), (.call n_impl_Neighbours [(.t 138), (.t 139)]), none⟩,
 ⟨(some 141), (.ln (.t 140)), none⟩,
 ⟨(some 142), (.faB 0 3), none⟩,
 ⟨(some 143), (.ldE 1 false 3 142), none⟩,
 ⟨(some 144), (.bin .sub (.t 143) (.c (.int .i64 1))), none⟩,
 ⟨(some 145), (.bin .gtr (.t 141) (.t 144)), none⟩])
 (.keep [3, 5, 7, 9, 16, 145]))
 (.cond (.t 145)
 (.seq
 (.seq (.ops [⟨(some 2), (.mov (.c (.bool false))), none⟩])
 (.keep [2]))
 .ret)
 .skip)))
 (.seq (.ops [⟨(some 136), (.mov (.t 16)), none⟩,
 ⟨(some 137), (.bin .add (.t 136) (.c (.int .i64 1))), none⟩,
 ⟨(some 16), (.mov (.t 137)), none⟩])
 (.keep [3, 5, 7, 9, 16])))))))
 (.seq
 (.seq (.ops [⟨(some 146), (.mov (.t 9)), none⟩,
 ⟨(some 147), (.faB 0 3), none⟩,
 ⟨(some 148), (.ldE 1 false 3 147), none⟩,
 ⟨(some 149), (.mov (.t 5)), none⟩,
 ⟨(some 150), (.ln (.t 149)), none⟩,
 ⟨(some 151), (.bin .sub (.t 148) (.t 150)), none⟩,
 ⟨(some 152), (.bin .eql (.t 146) (.t 151)), none⟩,
 ⟨(some 153), (.mov (.t 152)), none⟩,
 ⟨(some 154), (.mov (.t 7)), (some (153, true))⟩,
 ⟨(some 155), (.ln (.t 154)), (some (153, true))⟩,
 ⟨(some 156), (.ldB 2 true 3), (some (153, true))⟩,
 ⟨(some 157), (.mov (.t 5)), (some (153, true))⟩,
 ⟨(some 158), (.call n_spec_PiecesOf [(.t 156), (.t 157)]), (some (153, true))⟩,
 ⟨(some 159), (.ln (.t 158)), (some (153, true))⟩,
 ⟨(some 160), (.bin .eql (.t 155) (.t 159)), (some (153, true))⟩,
 ⟨(some 161), (.pick (.t 153) (.t 160) (.c (.bool false))), none⟩,
 ⟨(some 2), (.mov (.t 161)), none⟩])
 (.keep [2]))
 .ret))))))))))))),
 [(.slot 2)]⟩
/-- laws FnAsks -/
def F_laws_FnAsks : Fun := ⟨1,
 (.seq
 (.seq (.ops [⟨(some 2), (.mov (.c (.bool false))), none⟩])
 (.keep [0]))
 (.seq
 (.seq
 (.seq (.ops [⟨(some 17), (.mov (.t 0)), none⟩,
 ⟨(some 18), (.call n_laws_big [(.t 17)]), none⟩])
 (.keep [0, 18]))
 (.cond (.t 18)
 (.seq
 (.seq (.ops [⟨(some 2), (.mov (.c (.bool true))), none⟩])
 (.keep [2]))
 .ret)
 .skip))
 (.seq
 (.seq (.ops [⟨(some 19), (.mov (.t 0)), none⟩,
 ⟨(some 20), (.call n_spec_DrawAskText [(.t 19)]), none⟩,
 ⟨(some 3), (.newL [(.int .i64 0), (.int .i64 0), (.int .i64 0), (.int .i64 0), (.int .i64 0), (.int .i64 0)]), none⟩,
 ⟨none, (.stB 6 3 (.t 20)), none⟩])
 (.keep [0, 3]))
 (.seq
 (.seq (.ops [⟨(some 22), (.ldB 6 true 3), none⟩,
 ⟨(some 23), (.call n_impl_AskText [(.t 22)]), none⟩,
 ⟨(some 21), (.mov (.t 23)), none⟩,
 ⟨(some 24), (.ext 0 (.t 21)), none⟩,
 ⟨(some 25), (.ext 1 (.t 21)), none⟩,
 ⟨(some 4), (.mov (.t 24)), none⟩,
 ⟨(some 5), (.mov (.t 25)), none⟩])
 (.keep [0, 3, 4, 5]))
 (.seq
 (.seq (.ops [⟨(some 27), (.ldB 6 true 3), none⟩,
 ⟨(some 28), (.call n_spec_AskText [(.t 27)]), none⟩,
 ⟨(some 26), (.mov (.t 28)), none⟩,
 ⟨(some 29), (.ext 0 (.t 26)), none⟩,
 ⟨(some 30), (.ext 1 (.t 26)), none⟩,
 ⟨(some 6), (.mov (.t 29)), none⟩,
 ⟨(some 7), (.mov (.t 30)), none⟩])
 (.keep [0, 3, 4, 5, 7]))
 (.seq
 (.seq (.ops [⟨(some 32), (.mov (.t 4)), none⟩,
 ⟨(some 33), (.call n_impl_ReadAsk [(.t 32)]), none⟩,
 ⟨(some 31), (.mov (.t 33)), none⟩,
 ⟨(some 34), (.ext 0 (.t 31)), none⟩,
 ⟨(some 35), (.ext 1 (.t 31)), none⟩,
 ⟨(some 8), (.newL [(.int .i64 0), (.int .i64 0), (.int .i64 0), (.int .i64 0), (.int .i64 0), (.int .i64 0)]), none⟩,
 ⟨none, (.stB 6 8 (.t 34)), none⟩,
 ⟨(some 9), (.mov (.t 35)), none⟩])
 (.keep [0, 3, 5, 7, 8, 9]))
 (.seq
 (.seq
 (.seq (.ops [⟨(some 36), (.mov (.t 5)), none⟩,
 ⟨(some 37), (.mov (.t 7)), none⟩,
 ⟨(some 38), (.binB .neq (.t 36) (.t 37)), none⟩,
 ⟨(some 39), (.mov (.t 38)), none⟩,
 ⟨(some 40), (.mov (.t 5)), (some (39, false))⟩,
 ⟨(some 41), (.mov (.t 40)), (some (39, false))⟩,
 ⟨(some 42), (.mov (.t 9)), (some (41, true))⟩,
 ⟨(some 43), (.un .not (.t 42)), (some (41, true))⟩,
 ⟨(some 44), (.mov (.t 43)), (some (41, true))⟩,
 ⟨(some 45), (.ldB 6 true 8), (some (44, false))⟩,
 ⟨(some 46), (.ldB 6 true 3), (some (44, false))⟩,
 ⟨(some 47), (.eqS [0, 0, 0, 0, 0, 0] true (.t 45) (.t 46)), (some (44, false))⟩,
 ⟨(some 48), (.pick (.t 44) (.c (.bool true)) (.t 47)), (some (41, true))⟩,
 ⟨(some 49), (.pick (.t 41) (.t 48) (.c (.bool false))), (some (39, false))⟩,
 ⟨(some 50), (.pick (.t 39) (.c (.bool true)) (.t 49)), none⟩])
 (.keep [0, 50]))
 (.cond (.t 50)
 (.seq
 (.seq (.ops [⟨(some 2), (.mov (.c (.bool false))), none⟩])
 (.keep [2]))
 .ret)
 .skip))
 (.seq
 (.seq (.ops [⟨(some 51), (.mov (.t 0)), none⟩,
 ⟨(some 52), (.call n_spec_DrawReadAsk [(.t 51)]), none⟩,
 ⟨(some 10), (.mov (.t 52)), none⟩])
 (.keep [10]))
 (.seq
 (.seq (.ops [⟨(some 54), (.mov (.t 10)), none⟩,
 ⟨(some 55), (.call n_impl_ReadAsk [(.t 54)]), none⟩,
 ⟨(some 53), (.mov (.t 55)), none⟩,
 ⟨(some 56), (.ext 0 (.t 53)), none⟩,
 ⟨(some 57), (.ext 1 (.t 53)), none⟩,
 ⟨(some 11), (.newL [(.int .i64 0), (.int .i64 0), (.int .i64 0), (.int .i64 0), (.int .i64 0), (.int .i64 0)]), none⟩,
 ⟨none, (.stB 6 11 (.t 56)), none⟩,
 ⟨(some 12), (.mov (.t 57)), none⟩])
 (.keep [10, 11, 12]))
 (.seq
 (.seq (.ops [⟨(some 59), (.mov (.t 10)), none⟩,
 ⟨(some 60), (.call n_spec_ReadAsk [(.t 59)]), none⟩,
 ⟨(some 58), (.mov (.t 60)), none⟩,
 ⟨(some 61), (.ext 0 (.t 58)), none⟩,
 ⟨(some 62), (.ext 1 (.t 58)), none⟩,
 ⟨(some 13), (.newL [(.int .i64 0), (.int .i64 0), (.int .i64 0), (.int .i64 0), (.int .i64 0), (.int .i64 0)]), none⟩,
 ⟨none, (.stB 6 13 (.t 61)), none⟩,
 ⟨(some 14), (.mov (.t 62)), none⟩])
 (.keep [10, 11, 12, 14]))
 (.seq
 (.seq (.ops [⟨(some 64), (.ldB 6 true 11), none⟩,
 ⟨(some 65), (.call n_impl_AskText [(.t 64)]), none⟩,
 ⟨(some 63), (.mov (.t 65)), none⟩,
 ⟨(some 66), (.ext 0 (.t 63)), none⟩,
 ⟨(some 67), (.ext 1 (.t 63)), none⟩,
 ⟨(some 15), (.mov (.t 66)), none⟩,
 ⟨(some 16), (.mov (.t 67)), none⟩])
 (.keep [10, 12, 14, 15]))
 (.seq
 (.seq (.ops [⟨(some 68), (.mov (.t 12)), none⟩,
 ⟨(some 69), (.mov (.t 14)), none⟩,
 ⟨(some 70), (.binB .eql (.t 68) (.t 69)), none⟩,
 ⟨(some 71), (.mov (.t 70)), none⟩,
 ⟨(some 72), (.mov (.t 12)), (some (71, true))⟩,
 ⟨(some 73), (.un .not (.t 72)), (some (71, true))⟩,
 ⟨(some 74), (.mov (.t 73)), (some (71, true))⟩,
 ⟨(some 75), (.mov (.t 15)), (some (74, false))⟩,
 ⟨(some 76), (.mov (.t 10)), (some (74, false))⟩,
 ⟨(some 77), (.bin .eql (.t 75) (.t 76)), (some (74, false))⟩,
 ⟨(some 78), (.pick (.t 74) (.c (.bool true)) (.t 77)), (some (71, true))⟩,
 ⟨(some 79), (.pick (.t 71) (.t 78) (.c (.bool false))), none⟩,
 ⟨(some 2), (.mov (.t 79)), none⟩])
 (.keep [2]))
 .ret)))))))))))),
 [(.slot 2)]⟩
/-- laws FnExactCertText -/
def F_laws_FnExactCertText : Fun := ⟨1,
 (.seq
 (.seq (.ops [⟨(some 1), (.boxL 5 (.t 0)), none⟩,
 ⟨(some 2), (.mov (.c (.bool false))), none⟩])
 (.keep [1]))
 (.seq
 (.seq (.ops [⟨(some 3), (.mov (.c (.int .i64 1048576))), none⟩])
 (.keep [1, 3]))
 (.seq
 (.seq (.ops [⟨(some 9), (.ldB 5 true 1), none⟩,
 ⟨(some 10), (.mov (.t 3)), none⟩,
 ⟨(some 11), (.call n_laws_szCert [(.t 9), (.t 10)]), none⟩,
 ⟨(some 3), (.mov (.t 11)), none⟩])
 (.keep [1, 3]))
 (.seq
 (.seq
 (.seq (.ops [⟨(some 12), (.mov (.t 3)), none⟩,
 ⟨(some 13), (.bin .lss (.t 12) (.c (.int .i64 0))), none⟩])
 (.keep [1, 13]))
 (.cond (.t 13)
 (.seq
 (.seq (.ops [⟨(some 2), (.mov (.c (.bool true))), none⟩])
 (.keep [2]))
 .ret)
 .skip))
 (.seq
 (.seq (.ops [⟨(some 15), (.ldB 5 true 1), none⟩,
 ⟨(some 16), (.call n_laws_toCert [(.t 15)]), none⟩,
 ⟨(some 17), (.call n_spec_CertText [(.t 16)]), none⟩,
 ⟨(some 14), (.mov (.t 17)), none⟩,
 ⟨(some 18), (.ext 0 (.t 14)), none⟩,
 ⟨(some 19), (.ext 1 (.t 14)), none⟩,
 ⟨(some 4), (.mov (.t 18)), none⟩,
 ⟨(some 5), (.mov (.t 19)), none⟩])
 (.keep [1, 4, 5]))
 (.seq
 (.seq (.ops [⟨(some 20), (.ldB 5 true 1), none⟩,
 ⟨(some 21), (.call n_laws_toCert [(.t 20)]), none⟩,
 ⟨(some 6), (.newL [(.int .i64 0), (.slice none 0 0), (.slice none 0 0), (.slice none 0 0), (.slice none 0 0)]), none⟩,
 ⟨none, (.stB 5 6 (.t 21)), none⟩])
 (.keep [1, 4, 5, 6]))
 (.seq
 (.seq (.ops [⟨(some 23), (.ldB 5 true 6), none⟩,
 ⟨(some 24), (.call n_impl_CertText [(.t 23)]), none⟩,
 ⟨(some 22), (.mov (.t 24)), none⟩,
 ⟨(some 25), (.ext 0 (.t 22)), none⟩,
 ⟨(some 26), (.ext 1 (.t 22)), none⟩,
 ⟨(some 7), (.mov (.t 25)), none⟩,
 ⟨(some 8), (.mov (.t 26)), none⟩])
 (.keep [1, 4, 5, 6, 7, 8]))
 (.seq
 (.seq
 (.seq (.ops [⟨(some 27), (.mov (.t 7)), none⟩,
 ⟨(some 28), (.mov (.t 4)), none⟩,
 ⟨(some 29), (.bin .neq (.t 27) (.t 28)), none⟩,
 ⟨(some 30), (.mov (.t 29)), none⟩,
 ⟨(some 31), (.mov (.t 8)), (some (30, false))⟩,
 ⟨(some 32), (.mov (.t 5)), (some (30, false))⟩,
 ⟨(some 33), (.binB .neq (.t 31) (.t 32)), (some (30, false))⟩,
 ⟨(some 34), (.pick (.t 30) (.c (.bool true)) (.t 33)), none⟩])
 (.keep [1, 6, 34]))
 (.cond (.t 34)
 (.seq
 (.seq (.ops [⟨(some 2), (.mov (.c (.bool false))), none⟩])
 (.keep [2]))
 .ret)
 .skip))
 (.seq
 (.seq
 (.seq (.free true [⟨(some 35), (.ldB 5 true 6), none⟩,
 ⟨(some 36), (.ldB 5 true 1), none⟩,
 ⟨(some 37), (.call n_laws_toCert [(.t 36)]), none⟩,
 ⟨(some 38), (.call n_laws_eqCert [(.t 35), (.t 37)]), none⟩,
 ⟨(some 39), (.un .not (.t 38)), none⟩])
 (.keep [39]))
 (.cond (.t 39)
 (.seq
 (.seq (.ops [⟨(some 2), (.mov (.c (.bool false))), none⟩])
 (.keep [2]))
 .ret)
 .skip))
 (.seq
 (.seq (.ops [⟨(some 2), (.mov (.c (.bool true))), none⟩])
 (.keep [2]))
 .ret)))))))))),
 [(.slot 2)]⟩
/-- laws FnExactReadCert -/
def F_laws_FnExactReadCert : Fun := ⟨1,
 (.seq
 (.seq (.ops [⟨(some 2), (.mov (.c (.bool false))), none⟩])
 (.keep [0]))
 (.seq
 (.seq
 (.seq (.ops [⟨(some 11), (.mov (.t 0)), none⟩,
 ⟨(some 12), (.lnS (.t 11)), none⟩,
 ⟨(some 13), (.bin .gtr (.t 12) (.c (.int .i64 1048576))), none⟩])
 (.keep [0, 13]))
 (.cond (.t 13)
 (.seq
 (.seq (.ops [⟨(some 2), (.mov (.c (.bool true))), none⟩])
 (.keep [2]))
 .ret)
 .skip))
 (.seq
 (.seq (.ops [⟨(some 15), (.mov (.t 0)), none⟩,
 ⟨(some 16), (.call n_spec_ReadCert [(.t 15)]), none⟩,
 ⟨(some 14), (.mov (.t 16)), none⟩,
 ⟨(some 17), (.ext 0 (.t 14)), none⟩,
 ⟨(some 18), (.ext 1 (.t 14)), none⟩,
 ⟨(some 3), (.newL [(.int .i64 0), (.slice none 0 0), (.slice none 0 0), (.slice none 0 0), (.slice none 0 0)]), none⟩,
 ⟨none, (.stB 5 3 (.t 17)), none⟩,
 ⟨(some 4), (.mov (.t 18)), none⟩])
 (.keep [0, 3, 4]))
 (.seq
 (.seq (.ops [⟨(some 20), (.mov (.t 0)), none⟩,
 ⟨(some 21), (.call n_impl_ReadCert [(.t 20)]), none⟩,
 ⟨(some 19), (.mov (.t 21)), none⟩,
 ⟨(some 22), (.ext 0 (.t 19)), none⟩,
 ⟨(some 23), (.ext 1 (.t 19)), none⟩,
 ⟨(some 5), (.newL [(.int .i64 0), (.slice none 0 0), (.slice none 0 0), (.slice none 0 0), (.slice none 0 0)]), none⟩,
 ⟨none, (.stB 5 5 (.t 22)), none⟩,
 ⟨(some 6), (.mov (.t 23)), none⟩])
 (.keep [0, 3, 4, 5, 6]))
 (.seq
 (.seq
 (.seq (.ops [⟨(some 24), (.ldB 5 true 5), none⟩,
 ⟨(some 25), (.ldB 5 true 3), none⟩,
 ⟨(some 26), (.call n_laws_eqCert [(.t 24), (.t 25)]), none⟩,
 ⟨(some 27), (.un .not (.t 26)), none⟩,
 ⟨(some 28), (.mov (.t 27)), none⟩,
 ⟨(some 29), (.mov (.t 6)), (some (28, false))⟩,
 ⟨(some 30), (.mov (.t 4)), (some (28, false))⟩,
 ⟨(some 31), (.binB .neq (.t 29) (.t 30)), (some (28, false))⟩,
 ⟨(some 32), (.pick (.t 28) (.c (.bool true)) (.t 31)), none⟩])
 (.keep [0, 3, 4, 5, 32]))
 (.cond (.t 32)
 (.seq
 (.seq (.ops [⟨(some 2), (.mov (.c (.bool false))), none⟩])
 (.keep [2]))
 .ret)
 .skip))
 (.seq
 (.seq (.ops [⟨(some 7), (.mov (.c (.int .i64 1))), none⟩])
 (.keep [0, 3, 4, 5, 7]))
 (.seq
 (.seq (.ops [⟨(some 33), (.ldB 5 true 5), none⟩,
 ⟨(some 34), (.mov (.t 7)), none⟩,
 ⟨(some 35), (.call n_laws_markCert [(.t 33), (.t 34)]), none⟩,
 ⟨(some 7), (.mov (.t 35)), none⟩])
 (.keep [0, 3, 4, 5, 7]))
 (.seq
 (.seq (.ops [⟨(some 8), (.mov (.c (.int .i64 1))), none⟩])
 (.keep [0, 3, 4, 5, 7, 8]))
 (.seq
 (.seq (.ops [⟨(some 36), (.ldB 5 true 5), none⟩,
 ⟨(some 37), (.mov (.t 8)), none⟩,
 ⟨(some 38), (.call n_laws_heldCert [(.t 36), (.t 37)]), none⟩,
 ⟨(some 8), (.mov (.t 38)), none⟩])
 (.keep [0, 3, 4, 5, 7, 8]))
 (.seq
 (.seq
 (.seq (.ops [⟨(some 39), (.mov (.t 8)), none⟩,
 ⟨(some 40), (.bin .lss (.t 39) (.c (.int .i64 0))), none⟩])
 (.keep [0, 3, 4, 5, 7, 8, 40]))
 (.cond (.t 40)
 (.seq
 (.seq (.ops [⟨(some 2), (.mov (.c (.bool false))), none⟩])
 (.keep [2]))
 .ret)
 .skip))
 (.seq
 (.seq
 (.seq (.ops [⟨(some 41), (.mov (.t 8)), none⟩,
 ⟨(some 42), (.mov (.t 7)), none⟩,
 ⟨(some 43), (.bin .neq (.t 41) (.t 42)), none⟩])
 (.keep [0, 3, 4, 5, 7, 43]))
 (.cond (.t 43)
 (.seq
 (.seq (.ops [⟨(some 2), (.mov (.c (.bool false))), none⟩])
 (.keep [2]))
 .ret)
 .skip))
 (.seq
 (.seq (.ops [⟨(some 45), (.mov (.t 0)), none⟩,
 ⟨(some 46), (.call n_impl_ReadCert [(.t 45)]), none⟩,
 ⟨(some 44), (.mov (.t 46)), none⟩,
 ⟨(some 47), (.ext 0 (.t 44)), none⟩,
 ⟨(some 48), (.ext 1 (.t 44)), none⟩,
 ⟨(some 9), (.newL [(.int .i64 0), (.slice none 0 0), (.slice none 0 0), (.slice none 0 0), (.slice none 0 0)]), none⟩,
 ⟨none, (.stB 5 9 (.t 47)), none⟩,
 ⟨(some 10), (.mov (.t 48)), none⟩])
 (.keep [3, 4, 5, 7, 9, 10]))
 (.seq
 (.seq
 (.seq (.ops [⟨(some 49), (.ldB 5 true 9), none⟩,
 ⟨(some 50), (.ldB 5 true 3), none⟩,
 ⟨(some 51), (.call n_laws_eqCert [(.t 49), (.t 50)]), none⟩,
 ⟨(some 52), (.un .not (.t 51)), none⟩,
 ⟨(some 53), (.mov (.t 52)), none⟩,
 ⟨(some 54), (.mov (.t 10)), (some (53, false))⟩,
 ⟨(some 55), (.mov (.t 4)), (some (53, false))⟩,
 ⟨(some 56), (.binB .neq (.t 54) (.t 55)), (some (53, false))⟩,
 ⟨(some 57), (.pick (.t 53) (.c (.bool true)) (.t 56)), none⟩])
 (.keep [5, 7, 57]))
 (.cond (.t 57)
 (.seq
 (.seq (.ops [⟨(some 2), (.mov (.c (.bool false))), none⟩])
 (.keep [2]))
 .ret)
 .skip))
 (.seq
 (.seq (.ops [⟨(some 8), (.mov (.c (.int .i64 1))), none⟩])
 (.keep [5, 7, 8]))
 (.seq
 (.seq (.ops [⟨(some 58), (.ldB 5 true 5), none⟩,
 ⟨(some 59), (.mov (.t 8)), none⟩,
 ⟨(some 60), (.call n_laws_heldCert [(.t 58), (.t 59)]), none⟩,
 ⟨(some 8), (.mov (.t 60)), none⟩])
 (.keep [7, 8]))
 (.seq
 (.seq
 (.seq (.ops [⟨(some 61), (.mov (.t 8)), none⟩,
 ⟨(some 62), (.bin .lss (.t 61) (.c (.int .i64 0))), none⟩])
 (.keep [7, 8, 62]))
 (.cond (.t 62)
 (.seq
 (.seq (.ops [⟨(some 2), (.mov (.c (.bool false))), none⟩])
 (.keep [2]))
 .ret)
 .skip))
 (.seq
 (.seq
 (.seq (.ops [⟨(some 63), (.mov (.t 8)), none⟩,
 ⟨(some 64), (.mov (.t 7)), none⟩,
 ⟨(some 65), (.bin .neq (.t 63) (.t 64)), none⟩])
 (.keep [65]))
 (.cond (.t 65)
 (.seq
 (.seq (.ops [⟨(some 2), (.mov (.c (.bool false))), none⟩])
 (.keep [2]))
 .ret)
 .skip))
 (.seq
 (.seq (.ops [⟨(some 2), (.mov (.c (.bool true))), none⟩])
 (.keep [2]))
 .ret)))))))))))))))))),
 [(.slot 2)]⟩
/-- laws szGraph -/
def F_laws_szGraph : Fun := ⟨2,
 (.seq
 (.seq (.ops [⟨(some 2), (.boxL 2 (.t 0)), none⟩,
 ⟨(some 4), (.mov (.c (.int .i64 0))), none⟩])
 (.keep [1, 2]))
 (.seq
 (.seq (.ops [⟨(some 5), (.faB 1 2), none⟩,
 ⟨(some 6), (.ldE 1 false 2 5), none⟩,
 ⟨(some 7), (.mov (.t 1)), none⟩,
 ⟨(some 8), (.call n_laws_szEdgeS [(.t 6), (.t 7)]), none⟩,
 ⟨(some 1), (.mov (.t 8)), none⟩])
 (.keep [1]))
 (.seq
 (.seq
 (.seq (.ops [⟨(some 9), (.mov (.t 1)), none⟩,
 ⟨(some 10), (.bin .lss (.t 9) (.c (.int .i64 0))), none⟩])
 (.keep [1, 10]))
 (.cond (.t 10)
 (.seq
 (.seq (.ops [⟨(some 4), (.mov (.c (.int .i64 (-1)))), none⟩])
 (.keep [4]))
 .ret)
 .skip))
 (.seq
 (.seq (.ops [⟨(some 11), (.mov (.t 1)), none⟩,
 ⟨(some 4), (.mov (.t 11)), none⟩])
 (.keep [4]))
 .ret)))),
 [(.slot 4)]⟩
/-- spec MostCouples -/
def F_spec_MostCouples : Fun := ⟨1,
 (.seq
 (.seq (.ops [⟨(some 1), (.boxL 2 (.t 0)), none⟩,
 ⟨(some 2), (.mov (.c (.int .i64 0))), none⟩])
 (.keep [1]))
 (.seq
 (.seq
 (.seq (.ops [⟨(some 7), (.ldB 2 true 1), none⟩,
 ⟨(some 8), (.call n_spec_GraphOk [(.t 7)]), none⟩,
 ⟨(some 9), (.un .not (.t 8)), none⟩])
 (.keep [1, 9]))
 (.cond (.t 9)
 (.seq
 (.seq (.ops [⟨(some 2), (.mov (.c (.int .i64 (-1)))), none⟩])
 (.keep [2]))
 .ret)
 .skip))
 (.seq
 (.seq (.ops [⟨(some 10), (.faB 0 1), none⟩,
 ⟨(some 11), (.ldE 1 false 1 10), none⟩,
 ⟨(some 12), (.bld [(.int .i64 0), (.slice none 0 0)] [(0, (1, (.t 11)))]), none⟩,
 ⟨(some 3), (.newL [(.int .i64 0), (.slice none 0 0)]), none⟩,
 ⟨none, (.stB 2 3 (.t 12)), none⟩])
 (.keep [1, 3]))
 (.seq
 (.seq
 (.seq (.ops [⟨(some 4), (.mov (.c (.int .i64 0))), none⟩])
 (.keep [1, 3, 4]))
 (.block 0
 (.loop
 (.seq
 (.seq
 (.seq (.ops [⟨(some 13), (.mov (.t 4)), none⟩,
 ⟨(some 14), (.faB 1 1), none⟩,
 ⟨(some 15), (.ldE 1 false 1 14), none⟩,
 ⟨(some 16), (.ln (.t 15)), none⟩,
 ⟨(some 17), (.bin .lss (.t 13) (.t 16)), none⟩])
 (.keep [1, 3, 4, 17]))
 (.cond (.t 17)
 .skip
 (.exit 0)))
 (.seq
 (.block 1
 (.seq (.free true [⟨(some 20), (.faB 1 3), none⟩,
 ⟨(some 21), (.ldE 1 false 3 20), none⟩,
 ⟨(some 22), (.faB 1 1), none⟩,
 ⟨(some 23), (.ldE 1 false 1 22), none⟩,
 ⟨(some 24), (.mov (.t 4)), none⟩,
 ⟨(some 25), (.ia 5 (.t 23) (.t 24)), none⟩,
 ⟨(some 26), (.fa 0 (.t 25)), none⟩,
 ⟨(some 27), (.ld 1 false (.t 26)), none⟩,
 ⟨(some 28), (.faB 1 1), none⟩,
 ⟨(some 29), (.ldE 1 false 1 28), none⟩,
 ⟨(some 30), (.mov (.t 4)), none⟩,
 ⟨(some 31), (.ia 5 (.t 29) (.t 30)), none⟩,
 ⟨(some 32), (.fa 1 (.t 31)), none⟩,
 ⟨(some 33), (.ld 1 false (.t 32)), none⟩,
 ⟨(some 34), (.bld [(.int .i64 0), (.int .i64 0), (.int .i64 0), (.int .i64 0), (.int .i64 0)] [(0, (1, (.t 27))), (1, (1, (.t 33))), (2, (1, (.c (.int .i64 1))))]), none⟩,
 ⟨(some 35), (.litL 1 5 [(.int .i64 0), (.int .i64 0), (.int .i64 0), (.int .i64 0), (.int .i64 0)] [(0, (.t 34))]), none⟩,
 ⟨(some 36), (.appL 5 y_Edge 40 1 (.t 21) 35), none⟩,
 ⟨(some 37), (.faB 1 3), none⟩,
 ⟨none, (.stE 1 3 37 (.t 36)), none⟩])
 (.keep [1, 3, 4])))
 (.seq (.ops [⟨(some 18), (.mov (.t 4)), none⟩,
 ⟨(some 19), (.bin .add (.t 18) (.c (.int .i64 1))), none⟩,
 ⟨(some 4), (.mov (.t 19)), none⟩])
 (.keep [1, 3, 4])))))))
 (.seq
 (.seq (.ops [⟨(some 39), (.ldB 2 true 3), none⟩,
 ⟨(some 40), (.lit 0 1 y_int [(.int .i64 0)] []), none⟩,
 ⟨(some 41), (.call n_spec_l09Best [(.t 39), (.c (.int .i64 0)), (.t 40)]), none⟩,
 ⟨(some 38), (.mov (.t 41)), none⟩,
 ⟨(some 42), (.ext 0 (.t 38)), none⟩,
 ⟨(some 43), (.ext 1 (.t 38)), none⟩,
 ⟨(some 5), (.newL [(.int .i64 0), (.int .i64 0), (.int .i64 0)]), none⟩,
 ⟨none, (.stB 3 5 (.t 42)), none⟩,
 ⟨(some 6), (.mov (.t 43)), none⟩])
 (.keep [5]))
 (.seq
 (.seq (.ops [⟨(some 44), (.faB 0 5), none⟩,
 ⟨(some 45), (.ldE 1 false 5 44), none⟩,
 ⟨(some 2), (.mov (.t 45)), none⟩])
 (.keep [2]))
 .ret)))))),
 [(.slot 2)]⟩
/-- laws toGraph -/
def F_laws_toGraph : Fun := ⟨1,
 (.seq
 (.seq (.ops [⟨(some 1), (.boxL 2 (.t 0)), none⟩,
 ⟨(some 2), (.newL [(.int .i64 0), (.slice none 0 0)]), none⟩])
 (.keep [1, 2]))
 (.seq
 (.seq (.ops [⟨(some 3), (.newL [(.int .i64 0), (.slice none 0 0)]), none⟩])
 (.keep [1, 2, 3]))
 (.seq
 (.seq (.ops [⟨(some 4), (.faB 0 1), none⟩,
 ⟨(some 5), (.ldE 1 false 1 4), none⟩,
 ⟨(some 6), (.faB 0 3), none⟩,
 ⟨none, (.stE 1 3 6 (.t 5)), none⟩])
 (.keep [1, 2, 3]))
 (.seq
 (.seq (.ops [⟨(some 7), (.faB 1 1), none⟩,
 ⟨(some 8), (.ldE 1 false 1 7), none⟩,
 ⟨(some 9), (.call n_laws_toEdgeS [(.t 8)]), none⟩,
 ⟨(some 10), (.faB 1 3), none⟩,
 ⟨none, (.stE 1 3 10 (.t 9)), none⟩])
 (.keep [2, 3]))
 (.seq
 (.seq (.ops [⟨(some 11), (.ldB 2 true 3), none⟩,
 ⟨none, (.stB 2 2 (.t 11)), none⟩])
 (.keep [2]))
 .ret))))),
 [(.box 2 2 true)]⟩
/-- impl MostCouples -/
def F_impl_MostCouples : Fun := ⟨1,
 (.seq
 (.seq (.ops [⟨(some 1), (.boxL 2 (.t 0)), none⟩,
 ⟨(some 2), (.mov (.c (.int .i64 0))), none⟩])
 (.keep [1]))
 (.seq
 (.seq
 (.seq (.ops [⟨(some 4), (.ldB 2 true 1), none⟩,
 ⟨(some 5), (.call n_impl_GraphOk [(.t 4)]), none⟩,
 ⟨(some 6), (.un .not (.t 5)), none⟩])
 (.keep [1, 6]))
 (.cond (.t 6)
 (.seq
 (.seq (.ops [⟨(some 2), (.mov (.c (.int .i64 (-1)))), none⟩])
 (.keep [2]))
 .ret)
 .skip))
 (.seq
 (.seq (.ops [⟨(some 3), (.nw y_int [(.int .i64 0)]), none⟩,
 ⟨none, (.st 1 (.t 3) (.c (.int .i64 0))), none⟩])
 (.keep [1, 3]))
 (.seq
 (.seq (.ops [⟨(some 7), (.ldB 2 true 1), none⟩,
 ⟨(some 8), (.bld [(.int .i64 0), (.int .i64 0), (.int .i64 0)] []), none⟩,
 ⟨(some 9), (.fn (.func n_impl_MostCouples_1) [(.t 3)]), none⟩,
 ⟨(some 10), (.call n_impl_every [(.t 7), (.c (.int .i64 0)), (.c (.int .i64 0)), (.t 8), (.c (.int .i64 0)), (.t 9)]), none⟩])
 (.keep [3]))
 (.seq
 (.seq (.ops [⟨(some 11), (.ld 1 false (.t 3)), none⟩,
 ⟨(some 2), (.mov (.t 11)), none⟩])
 (.keep [2]))
 .ret))))),
 [(.slot 2)]⟩
/-- laws eqGraph -/
def F_laws_eqGraph : Fun := ⟨2,
 (.seq
 (.seq (.ops [⟨(some 2), (.boxL 2 (.t 0)), none⟩,
 ⟨(some 3), (.boxL 2 (.t 1)), none⟩,
 ⟨(some 4), (.mov (.c (.bool false))), none⟩])
 (.keep [2, 3]))
 (.seq
 (.seq
 (.seq (.ops [⟨(some 5), (.faB 0 2), none⟩,
 ⟨(some 6), (.ldE 1 false 2 5), none⟩,
 ⟨(some 7), (.faB 0 3), none⟩,
 ⟨(some 8), (.ldE 1 false 3 7), none⟩,
 ⟨(some 9), (.bin .neq (.t 6) (.t 8)), none⟩])
 (.keep [2, 3, 9]))
 (.cond (.t 9)
 (.seq
 (.seq (.ops [⟨(some 4), (.mov (.c (.bool false))), none⟩])
 (.keep [4]))
 .ret)
 .skip))
 (.seq
 (.seq
 (.seq (.ops [⟨(some 10), (.faB 1 2), none⟩,
 ⟨(some 11), (.ldE 1 false 2 10), none⟩,
 ⟨(some 12), (.faB 1 3), none⟩,
 ⟨(some 13), (.ldE 1 false 3 12), none⟩,
 ⟨(some 14), (.call n_laws_eqEdgeS [(.t 11), (.t 13)]), none⟩,
 ⟨(some 15), (.un .not (.t 14)), none⟩])
 (.keep [15]))
 (.cond (.t 15)
 (.seq
 (.seq (.ops [⟨(some 4), (.mov (.c (.bool false))), none⟩])
 (.keep [4]))
 .ret)
 .skip))
 (.seq
 (.seq (.ops [⟨(some 4), (.mov (.c (.bool true))), none⟩])
 (.keep [4]))
 .ret)))),
 [(.slot 4)]⟩
/-- laws big -/
def F_laws_big : Fun := ⟨1,
 (.seq
 (.seq (.ops [⟨(some 2), (.mov (.c (.bool false))), none⟩])
 (.keep [0]))
 (.seq
 (.seq (.ops [⟨(some 3), (.mov (.t 0)), none⟩,
 ⟨(some 4), (.ln (.t 3)), none⟩,
 ⟨(some 5), (.bin .gtr (.t 4) (.c (.int .i64 1048576))), none⟩,
 ⟨(some 2), (.mov (.t 5)), none⟩])
 (.keep [2]))
 .ret)),
 [(.slot 2)]⟩
/-- spec DrawRightGraph -/
def F_spec_DrawRightGraph : Fun := ⟨1,
 (.seq
 (.seq (.ops [⟨(some 2), (.newL [(.int .i64 0), (.slice none 0 0)]), none⟩])
 (.keep [0, 2]))
 (.seq
 (.seq (.ops [⟨(some 3), (.mov (.t 0)), none⟩,
 ⟨(some 4), (.call n_spec_l01New [(.t 3)]), none⟩,
 ⟨(some 5), (.call n_spec_l08Graph [(.t 4)]), none⟩,
 ⟨none, (.stB 2 2 (.t 5)), none⟩])
 (.keep [2]))
 .ret)),
 [(.box 2 2 true)]⟩
/-- spec DrawPlaces -/
def F_spec_DrawPlaces : Fun := ⟨1,
 (.seq
 (.seq (.ops [⟨(some 2), (.mov (.c (.slice none 0 0))), none⟩])
 (.keep [0]))
 (.seq
 (.seq (.ops [⟨(some 6), (.mov (.t 0)), none⟩,
 ⟨(some 7), (.call n_spec_l01New [(.t 6)]), none⟩,
 ⟨(some 3), (.mov (.t 7)), none⟩])
 (.keep [3]))
 (.seq
 (.seq (.ops [⟨(some 8), (.mov (.t 3)), none⟩,
 ⟨(some 9), (.call n_spec_l01Byte [(.t 8)]), none⟩])
 (.keep [3]))
 (.seq
 (.seq (.ops [⟨(some 10), (.lit 0 1 y_int [(.int .i64 0)] []), none⟩,
 ⟨(some 4), (.mov (.t 10)), none⟩])
 (.keep [3, 4]))
 (.seq
 (.seq
 (.seq (.ops [⟨(some 5), (.mov (.c (.int .i64 0))), none⟩])
 (.keep [3, 4, 5]))
 (.block 0
 (.loop
 (.seq
 (.seq
 (.seq (.ops [⟨(some 11), (.mov (.t 5)), none⟩,
 ⟨(some 12), (.bin .lss (.t 11) (.c (.int .i64 12))), none⟩])
 (.keep [3, 4, 5, 12]))
 (.cond (.t 12)
 .skip
 (.exit 0)))
 (.seq
 (.block 1
 (.seq (.ops [⟨(some 15), (.mov (.t 4)), none⟩,
 ⟨(some 16), (.mov (.t 3)), none⟩,
 ⟨(some 17), (.call n_spec_l01Below [(.t 16), (.c (.int .i64 10000))]), none⟩,
 ⟨(some 18), (.litL 1 1 [(.int .i64 0)] [(0, (.t 17))]), none⟩,
 ⟨(some 19), (.appL 1 y_int 8 1 (.t 15) 18), none⟩,
 ⟨(some 4), (.mov (.t 19)), none⟩])
 (.keep [3, 4, 5])))
 (.seq (.ops [⟨(some 13), (.mov (.t 5)), none⟩,
 ⟨(some 14), (.bin .add (.t 13) (.c (.int .i64 1))), none⟩,
 ⟨(some 5), (.mov (.t 14)), none⟩])
 (.keep [3, 4, 5])))))))
 (.seq
 (.seq (.ops [⟨(some 20), (.mov (.t 4)), none⟩,
 ⟨(some 2), (.mov (.t 20)), none⟩])
 (.keep [2]))
 .ret)))))),
 [(.slot 2)]⟩
/-- impl PiecesOf -/
def F_impl_PiecesOf : Fun := ⟨2,
 (.seq
 (.seq (.ops [⟨(some 2), (.boxL 2 (.t 0)), none⟩,
 ⟨(some 4), (.mov (.c (.slice none 0 0))), none⟩])
 (.keep [1, 2]))
 (.seq
 (.seq
 (.seq (.ops [⟨(some 5), (.ldB 2 true 2), none⟩,
 ⟨(some 6), (.call n_impl_GraphOk [(.t 5)]), none⟩,
 ⟨(some 7), (.un .not (.t 6)), none⟩])
 (.keep [1, 2, 7]))
 (.cond (.t 7)
 (.seq
 (.seq (.ops [⟨(some 4), (.mov (.c (.slice none 0 0))), none⟩])
 (.keep [4]))
 .ret)
 .skip))
 (.seq
 (.seq (.ops [⟨(some 8), (.faB 0 2), none⟩,
 ⟨(some 9), (.ldE 1 false 2 8), none⟩,
 ⟨(some 10), (.faB 1 2), none⟩,
 ⟨(some 11), (.ldE 1 false 2 10), none⟩,
 ⟨(some 12), (.mov (.t 1)), none⟩,
 ⟨(some 13), (.call n_impl_pieces [(.t 9), (.t 11), (.t 12)]), none⟩,
 ⟨(some 4), (.mov (.t 13)), none⟩])
 (.keep [4]))
 .ret))),
 [(.slot 4)]⟩
/-- laws within -/
def F_laws_within : Fun := ⟨2,
 (.seq
 (.seq (.ops [⟨(some 4), (.mov (.c (.bool false))), none⟩])
 (.keep [0, 1]))
 (.seq
 (.seq
 (.seq (.ops [⟨(some 5), (.mov (.c (.int .i64 0))), none⟩])
 (.keep [0, 1, 5]))
 (.block 0
 (.loop
 (.seq
 (.seq
 (.seq (.ops [⟨(some 6), (.mov (.t 5)), none⟩,
 ⟨(some 7), (.mov (.t 0)), none⟩,
 ⟨(some 8), (.ln (.t 7)), none⟩,
 ⟨(some 9), (.bin .lss (.t 6) (.t 8)), none⟩])
 (.keep [0, 1, 5, 9]))
 (.cond (.t 9)
 .skip
 (.exit 0)))
 (.seq
 (.block 1
 (.seq
 (.seq (.ops [⟨(some 12), (.mov (.t 0)), none⟩,
 ⟨(some 13), (.mov (.t 5)), none⟩,
 ⟨(some 14), (.ia 1 (.t 12) (.t 13)), none⟩,
 ⟨(some 15), (.ld 1 false (.t 14)), none⟩,
 ⟨(some 16), (.mov (.t 1)), none⟩,
 ⟨(some 17), (.bin .eql (.t 15) (.t 16)), none⟩])
 (.keep [0, 1, 5, 17]))
 (.cond (.t 17)
 (.seq
 (.seq (.ops [⟨(some 4), (.mov (.c (.bool true))), none⟩])
 (.keep [4]))
 .ret)
 .skip)))
 (.seq (.ops [⟨(some 10), (.mov (.t 5)), none⟩,
 ⟨(some 11), (.bin .add (.t 10) (.c (.int .i64 1))), none⟩,
 ⟨(some 5), (.mov (.t 11)), none⟩])
 (.keep [0, 1, 5])))))))
 (.seq
 (.seq (.ops [⟨(some 4), (.mov (.c (.bool false))), none⟩])
 (.keep [4]))
 .ret))),
 [(.slot 4)]⟩
/-- impl Neighbours -/
def F_impl_Neighbours : Fun := ⟨2,
 (.seq
 (.seq (.ops [⟨(some 2), (.boxL 2 (.t 0)), none⟩,
 ⟨(some 4), (.mov (.c (.slice none 0 0))), none⟩])
 (.keep [1, 2]))
 (.seq
 (.seq (.ops [⟨(some 5), (.mov (.c (.slice none 0 0))), none⟩])
 (.keep [1, 2, 5]))
 (.seq
 (.seq
 (.seq (.ops [⟨(some 8), (.ldB 2 true 2), none⟩,
 ⟨(some 9), (.call n_impl_GraphOk [(.t 8)]), none⟩,
 ⟨(some 10), (.un .not (.t 9)), none⟩])
 (.keep [1, 2, 5, 10]))
 (.cond (.t 10)
 (.seq
 (.seq (.ops [⟨(some 11), (.mov (.t 5)), none⟩,
 ⟨(some 4), (.mov (.t 11)), none⟩])
 (.keep [4]))
 .ret)
 .skip))
 (.seq
 (.seq
 (.seq (.ops [⟨(some 12), (.faB 1 2), none⟩,
 ⟨(some 13), (.ldE 1 false 2 12), none⟩,
 ⟨(some 14), (.ln (.t 13)), none⟩,
 ⟨(some 15), (.mov (.c (.int .i64 0))), none⟩])
 (.keep [1, 5, 13, 14, 15]))
 (.block 0
 (.loop
 (.seq
 (.seq (.ops [⟨(some 16), (.bin .lss (.t 15) (.t 14)), none⟩])
 (.keep [1, 5, 13, 14, 15, 16]))
 (.seq
 (.cond (.t 16)
 .skip
 (.exit 0))
 (.seq
 (.block 1
 (.seq
 (.seq (.ops [⟨(some 17), (.ia 5 (.t 13) (.t 15)), none⟩,
 ⟨(some 18), (.ld 5 true (.t 17)), none⟩,
 ⟨(some 7), (.newL [(.int .i64 0), (.int .i64 0), (.int .i64 0), (.int .i64 0), (.int .i64 0)]), none⟩,
 ⟨none, (.stB 5 7 (.t 18)), none⟩])
 (.keep [1, 5, 7, 13, 14, 15]))
 (.seq
 (.seq
 (.seq (.ops [⟨(some 19), (.faB 0 7), none⟩,
 ⟨(some 20), (.ldE 1 false 7 19), none⟩,
 ⟨(some 21), (.mov (.t 1)), none⟩,
 ⟨(some 22), (.bin .eql (.t 20) (.t 21)), none⟩])
 (.keep [1, 5, 7, 13, 14, 15, 22]))
 (.cond (.t 22)
 (.seq (.ops [⟨(some 23), (.mov (.t 5)), none⟩,
 ⟨(some 24), (.faB 1 7), none⟩,
 ⟨(some 25), (.ldE 1 false 7 24), none⟩,
 ⟨(some 26), (.call n_impl_with [(.t 23), (.t 25)]), none⟩,
 ⟨(some 5), (.mov (.t 26)), none⟩])
 (.keep [1, 5, 7, 13, 14, 15]))
 .skip))
 (.seq
 (.seq (.ops [⟨(some 27), (.faB 1 7), none⟩,
 ⟨(some 28), (.ldE 1 false 7 27), none⟩,
 ⟨(some 29), (.mov (.t 1)), none⟩,
 ⟨(some 30), (.bin .eql (.t 28) (.t 29)), none⟩])
 (.keep [1, 5, 7, 13, 14, 15, 30]))
 (.cond (.t 30)
 (.seq (.ops [⟨(some 31), (.mov (.t 5)), none⟩,
 ⟨(some 32), (.faB 0 7), none⟩,
 ⟨(some 33), (.ldE 1 false 7 32), none⟩,
 ⟨(some 34), (.call n_impl_with [(.t 31), (.t 33)]), none⟩,
 ⟨(some 5), (.mov (.t 34)), none⟩])
 (.keep [1, 5, 13, 14, 15]))
 .skip)))))
 (.seq (.ops [⟨(some 35), (.bin .add (.t 15) (.c (.int .i64 1))), none⟩,
 ⟨(some 15), (.mov (.t 35)), none⟩])
 (.keep [1, 5, 13, 14, 15]))))))))
 (.seq
 (.seq (.ops [⟨(some 36), (.mov (.t 5)), none⟩,
 ⟨(some 4), (.mov (.t 36)), none⟩])
 (.keep [4]))
 .ret))))),
 [(.slot 4)]⟩
/-- spec PiecesOf -/
def F_spec_PiecesOf : Fun := ⟨2,
 (.seq
 (.seq (.ops [⟨(some 2), (.boxL 2 (.t 0)), none⟩,
 ⟨(some 4), (.mov (.c (.slice none 0 0))), none⟩])
 (.keep [1, 2]))
 (.seq
 (.seq
 (.seq (.ops [⟨(some 5), (.ldB 2 true 2), none⟩,
 ⟨(some 6), (.call n_spec_GraphOk [(.t 5)]), none⟩,
 ⟨(some 7), (.un .not (.t 6)), none⟩])
 (.keep [1, 2, 7]))
 (.cond (.t 7)
 (.seq
 (.seq (.ops [⟨(some 8), (.lit 0 1 y_ints [(.slice none 0 0)] []), none⟩,
 ⟨(some 4), (.mov (.t 8)), none⟩])
 (.keep [4]))
 .ret)
 .skip))
 (.seq
 (.seq (.ops [⟨(some 9), (.ldB 2 true 2), none⟩,
 ⟨(some 10), (.mov (.t 1)), none⟩,
 ⟨(some 11), (.call n_spec_l17Parts [(.t 9), (.t 10)]), none⟩,
 ⟨(some 4), (.mov (.t 11)), none⟩])
 (.keep [4]))
 .ret))),
 [(.slot 4)]⟩
/-- spec DrawAskText -/
def F_spec_DrawAskText : Fun := ⟨1,
 (.seq
 (.seq (.ops [⟨(some 2), (.newL [(.int .i64 0), (.int .i64 0), (.int .i64 0), (.int .i64 0), (.int .i64 0), (.int .i64 0)]), none⟩])
 (.keep [0, 2]))
 (.seq
 (.seq (.ops [⟨(some 5), (.mov (.t 0)), none⟩,
 ⟨(some 6), (.call n_spec_l01New [(.t 5)]), none⟩,
 ⟨(some 3), (.mov (.t 6)), none⟩])
 (.keep [2, 3]))
 (.seq
 (.seq (.ops [⟨(some 7), (.mov (.t 3)), none⟩,
 ⟨(some 8), (.lit 0 2 y_Pair [(.string ⟨⟨[]⟩⟩), (.string ⟨⟨[]⟩⟩)] []), none⟩,
 ⟨(some 9), (.call n_spec_l13Ask [(.t 7), (.t 8)]), none⟩,
 ⟨(some 4), (.newL [(.int .i64 0), (.int .i64 0), (.int .i64 0), (.int .i64 0), (.int .i64 0), (.int .i64 0)]), none⟩,
 ⟨none, (.stB 6 4 (.t 9)), none⟩])
 (.keep [2, 3, 4]))
 (.seq
 (.seq
 (.seq (.ops [⟨(some 10), (.mov (.t 3)), none⟩,
 ⟨(some 11), (.call n_spec_l01Once [(.t 10), (.c (.int .i64 8))]), none⟩])
 (.keep [2, 3, 4, 11]))
 (.cond (.t 11)
 (.seq (.ops [⟨(some 12), (.mov (.t 3)), none⟩,
 ⟨(some 13), (.lit 4 1 y_int [(.int .i64 0)] [(0, (.c (.int .i64 1))), (1, (.c (.int .i64 (-1)))), (2, (.c (.int .i64 1000000000))), (3, (.c (.int .i64 1000000001)))]), none⟩,
 ⟨(some 14), (.call n_spec_l01PickInt [(.t 12), (.t 13)]), none⟩,
 ⟨(some 15), (.faB 5 4), none⟩,
 ⟨none, (.stE 1 4 15 (.t 14)), none⟩])
 (.keep [2, 4]))
 .skip))
 (.seq
 (.seq (.ops [⟨(some 16), (.ldB 6 true 4), none⟩,
 ⟨none, (.stB 6 2 (.t 16)), none⟩])
 (.keep [2]))
 .ret))))),
 [(.box 2 6 true)]⟩
/-- impl AskText -/
def F_impl_AskText : Fun := ⟨1,
 (.seq
 (.seq (.ops [⟨(some 1), (.boxL 6 (.t 0)), none⟩,
 ⟨(some 2), (.mov (.c (.string ⟨⟨[]⟩⟩))), none⟩,
 ⟨(some 3), (.mov (.c (.bool false))), none⟩])
 (.keep [1]))
 (.seq
 (.seq (.ops [⟨(some 7), (.ldB 6 true 1), none⟩,
 ⟨(some 8), (.call n_impl_told [(.t 7)]), none⟩,
 ⟨(some 4), (.mov (.t 8)), none⟩])
 (.keep [1, 4]))
 (.seq
 (.seq
 (.seq (.ops [⟨(some 9), (.faB 0 1), none⟩,
 ⟨(some 10), (.ldE 1 false 1 9), none⟩,
 ⟨(some 11), (.call n_impl_in [(.t 10), (.c (.int .i64 1)), (.c (.int .i64 6))]), none⟩,
 ⟨(some 12), (.un .not (.t 11)), none⟩,
 ⟨(some 13), (.mov (.t 12)), none⟩,
 ⟨(some 14), (.mov (.t 4)), (some (13, false))⟩,
 ⟨(some 15), (.ln (.t 14)), (some (13, false))⟩,
 ⟨(some 16), (.bin .lss (.t 15) (.c (.int .i64 5))), (some (13, false))⟩,
 ⟨(some 17), (.mov (.t 16)), (some (13, false))⟩,
 ⟨(some 18), (.faB 2 1), (some (17, true))⟩,
 ⟨(some 19), (.ldE 1 false 1 18), (some (17, true))⟩,
 ⟨(some 20), (.bin .neq (.t 19) (.c (.int .i64 0))), (some (17, true))⟩,
 ⟨(some 21), (.mov (.t 20)), (some (17, true))⟩,
 ⟨(some 22), (.faB 3 1), (some (21, false))⟩,
 ⟨(some 23), (.ldE 1 false 1 22), (some (21, false))⟩,
 ⟨(some 24), (.bin .neq (.t 23) (.c (.int .i64 0))), (some (21, false))⟩,
 ⟨(some 25), (.pick (.t 21) (.c (.bool true)) (.t 24)), (some (17, true))⟩,
 ⟨(some 26), (.mov (.t 25)), (some (17, true))⟩,
 ⟨(some 27), (.faB 4 1), (some (26, false))⟩,
 ⟨(some 28), (.ldE 1 false 1 27), (some (26, false))⟩,
 ⟨(some 29), (.bin .neq (.t 28) (.c (.int .i64 0))), (some (26, false))⟩,
 ⟨(some 30), (.pick (.t 26) (.c (.bool true)) (.t 29)), (some (17, true))⟩,
 ⟨(some 31), (.mov (.t 30)), (some (17, true))⟩,
 ⟨(some 32), (.faB 5 1), (some (31, false))⟩,
 ⟨(some 33), (.ldE 1 false 1 32), (some (31, false))⟩,
 ⟨(some 34), (.bin .neq (.t 33) (.c (.int .i64 0))), (some (31, false))⟩,
 ⟨(some 35), (.pick (.t 31) (.c (.bool true)) (.t 34)), (some (17, true))⟩,
 ⟨(some 36), (.pick (.t 17) (.t 35) (.c (.bool false))), (some (13, false))⟩,
 ⟨(some 37), (.pick (.t 13) (.c (.bool true)) (.t 36)), none⟩,
 ⟨(some 38), (.mov (.t 37)), none⟩,
 ⟨(some 39), (.mov (.t 4)), (some (38, false))⟩,
 ⟨(some 40), (.ln (.t 39)), (some (38, false))⟩,
 ⟨(some 41), (.bin .eql (.t 40) (.c (.int .i64 0))), (some (38, false))⟩,
 ⟨(some 42), (.mov (.t 41)), (some (38, false))⟩,
 ⟨(some 43), (.faB 1 1), (some (42, true))⟩,
 ⟨(some 44), (.ldE 1 false 1 43), (some (42, true))⟩,
 ⟨(some 45), (.bin .neq (.t 44) (.c (.int .i64 0))), (some (42, true))⟩,
 ⟨(some 46), (.pick (.t 42) (.t 45) (.c (.bool false))), (some (38, false))⟩,
 ⟨(some 47), (.pick (.t 38) (.c (.bool true)) (.t 46)), none⟩])
 (.keep [1, 4, 47]))
 (.cond (.t 47)
 (.seq
 (.seq (.ops [⟨(some 2), (.mov (.c (.string ⟨⟨[]⟩⟩))), none⟩,
 ⟨(some 3), (.mov (.c (.bool false))), none⟩])
 (.keep [2, 3]))
 .ret)
 .skip))
 (.seq
 (.seq
 (.seq (.ops [⟨(some 48), (.mov (.t 4)), none⟩,
 ⟨(some 49), (.ln (.t 48)), none⟩,
 ⟨(some 50), (.mov (.c (.int .i64 0))), none⟩])
 (.keep [1, 4, 48, 49, 50]))
 (.block 0
 (.loop
 (.seq
 (.seq (.ops [⟨(some 51), (.bin .lss (.t 50) (.t 49)), none⟩])
 (.keep [1, 4, 48, 49, 50, 51]))
 (.seq
 (.cond (.t 51)
 .skip
 (.exit 0))
 (.seq
 (.block 1
 (.seq
 (.seq (.ops [⟨(some 52), (.ia 1 (.t 48) (.t 50)), none⟩,
 ⟨(some 53), (.ld 1 false (.t 52)), none⟩,
 ⟨(some 6), (.mov (.t 53)), none⟩])
 (.keep [1, 4, 6, 48, 49, 50]))
 (.seq
 (.seq (.ops [⟨(some 54), (.mov (.t 6)), none⟩,
 ⟨(some 55), (.call n_impl_in [(.t 54), (.c (.int .i64 0)), (.c (.int .i64 1000000000))]), none⟩,
 ⟨(some 56), (.un .not (.t 55)), none⟩])
 (.keep [1, 4, 48, 49, 50, 56]))
 (.cond (.t 56)
 (.seq
 (.seq (.ops [⟨(some 2), (.mov (.c (.string ⟨⟨[]⟩⟩))), none⟩,
 ⟨(some 3), (.mov (.c (.bool false))), none⟩])
 (.keep [2, 3]))
 .ret)
 .skip))))
 (.seq (.ops [⟨(some 57), (.bin .add (.t 50) (.c (.int .i64 1))), none⟩,
 ⟨(some 50), (.mov (.t 57)), none⟩])
 (.keep [1, 4, 48, 49, 50]))))))))
 (.seq
 (.seq (.free true [⟨(some 58), (.faB 0 1), none⟩,
 ⟨(some 59), (.ldE 1 false 1 58), none⟩,
 ⟨(some 60), (.conv .u8 (.t 59)), none⟩,
 ⟨(some 61), (.litL 1 1 [(.int .u8 0)] [(0, (.t 60))]), none⟩,
 ⟨(some 62), (.strL 1 61), none⟩,
 ⟨(some 63), (.mov (.t 4)), none⟩,
 ⟨(some 64), (.call n_impl_vars [(.t 63)]), none⟩,
 ⟨(some 65), (.bin .add (.t 62) (.t 64)), none⟩,
 ⟨(some 2), (.mov (.t 65)), none⟩,
 ⟨(some 3), (.mov (.c (.bool true))), none⟩])
 (.keep [2, 3]))
 .ret))))),
 [(.slot 2), (.slot 3)]⟩
/-- spec AskText -/
def F_spec_AskText : Fun := ⟨1,
 (.seq
 (.seq (.ops [⟨(some 1), (.boxL 6 (.t 0)), none⟩,
 ⟨(some 2), (.mov (.c (.string ⟨⟨[]⟩⟩))), none⟩,
 ⟨(some 3), (.mov (.c (.bool false))), none⟩])
 (.keep [1]))
 (.seq
 (.seq
 (.seq (.ops [⟨(some 7), (.faB 0 1), none⟩,
 ⟨(some 8), (.ldE 1 false 1 7), none⟩,
 ⟨(some 9), (.call n_spec_l01In [(.t 8), (.c (.int .i64 1)), (.c (.int .i64 6))]), none⟩,
 ⟨(some 10), (.un .not (.t 9)), none⟩])
 (.keep [1, 10]))
 (.cond (.t 10)
 (.seq
 (.seq (.ops [⟨(some 2), (.mov (.c (.string ⟨⟨[]⟩⟩))), none⟩,
 ⟨(some 3), (.mov (.c (.bool false))), none⟩])
 (.keep [2, 3]))
 .ret)
 .skip))
 (.seq
 (.seq (.ops [⟨(some 11), (.faB 0 1), none⟩,
 ⟨(some 12), (.ldE 1 false 1 11), none⟩,
 ⟨(some 13), (.conv .u8 (.t 12)), none⟩,
 ⟨(some 14), (.litL 1 1 [(.int .u8 0)] [(0, (.t 13))]), none⟩,
 ⟨(some 15), (.strL 1 14), none⟩,
 ⟨(some 4), (.mov (.t 15)), none⟩])
 (.keep [1, 4]))
 (.seq
 (.seq (.ops [⟨(some 16), (.ldB 6 true 1), none⟩,
 ⟨(some 17), (.call n_spec_l14List [(.t 16)]), none⟩,
 ⟨(some 5), (.mov (.t 17)), none⟩])
 (.keep [1, 4, 5]))
 (.seq
 (.seq
 (.seq (.ops [⟨(some 6), (.mov (.c (.int .i64 0))), none⟩])
 (.keep [1, 4, 5, 6]))
 (.block 0
 (.loop
 (.seq
 (.seq
 (.seq (.ops [⟨(some 18), (.mov (.t 6)), none⟩,
 ⟨(some 19), (.bin .lss (.t 18) (.c (.int .i64 5))), none⟩])
 (.keep [1, 4, 5, 6, 19]))
 (.cond (.t 19)
 .skip
 (.exit 0)))
 (.seq
 (.block 1
 (.seq
 (.seq
 (.seq (.ops [⟨(some 22), (.mov (.t 5)), none⟩,
 ⟨(some 23), (.mov (.t 6)), none⟩,
 ⟨(some 24), (.ia 1 (.t 22) (.t 23)), none⟩,
 ⟨(some 25), (.ld 1 false (.t 24)), none⟩,
 ⟨(some 26), (.call n_spec_l01In [(.t 25), (.c (.int .i64 0)), (.c (.int .i64 1000000000))]), none⟩,
 ⟨(some 27), (.un .not (.t 26)), none⟩,
 ⟨(some 28), (.mov (.t 27)), none⟩,
 ⟨(some 29), (.mov (.t 6)), (some (28, false))⟩,
 ⟨(some 30), (.faB 0 1), (some (28, false))⟩,
 ⟨(some 31), (.ldE 1 false 1 30), (some (28, false))⟩,
 ⟨(some 32), (.call n_spec_l14Numbers [(.t 31)]), (some (28, false))⟩,
 ⟨(some 33), (.bin .geq (.t 29) (.t 32)), (some (28, false))⟩,
 ⟨(some 34), (.mov (.t 33)), (some (28, false))⟩,
 ⟨(some 35), (.mov (.t 5)), (some (34, true))⟩,
 ⟨(some 36), (.mov (.t 6)), (some (34, true))⟩,
 ⟨(some 37), (.ia 1 (.t 35) (.t 36)), (some (34, true))⟩,
 ⟨(some 38), (.ld 1 false (.t 37)), (some (34, true))⟩,
 ⟨(some 39), (.bin .neq (.t 38) (.c (.int .i64 0))), (some (34, true))⟩,
 ⟨(some 40), (.pick (.t 34) (.t 39) (.c (.bool false))), (some (28, false))⟩,
 ⟨(some 41), (.pick (.t 28) (.c (.bool true)) (.t 40)), none⟩])
 (.keep [1, 4, 5, 6, 41]))
 (.cond (.t 41)
 (.seq
 (.seq (.ops [⟨(some 2), (.mov (.c (.string ⟨⟨[]⟩⟩))), none⟩,
 ⟨(some 3), (.mov (.c (.bool false))), none⟩])
 (.keep [2, 3]))
 .ret)
 .skip))
 (.seq
 (.seq (.ops [⟨(some 42), (.mov (.t 6)), none⟩,
 ⟨(some 43), (.faB 0 1), none⟩,
 ⟨(some 44), (.ldE 1 false 1 43), none⟩,
 ⟨(some 45), (.call n_spec_l14Numbers [(.t 44)]), none⟩,
 ⟨(some 46), (.bin .lss (.t 42) (.t 45)), none⟩])
 (.keep [1, 4, 5, 6, 46]))
 (.cond (.t 46)
 (.seq (.ops [⟨(some 47), (.mov (.t 4)), none⟩,
 ⟨(some 48), (.mov (.t 5)), none⟩,
 ⟨(some 49), (.mov (.t 6)), none⟩,
 ⟨(some 50), (.ia 1 (.t 48) (.t 49)), none⟩,
 ⟨(some 51), (.ld 1 false (.t 50)), none⟩,
 ⟨(some 52), (.call n_spec_l01Var [(.t 51)]), none⟩,
 ⟨(some 53), (.bin .add (.t 47) (.t 52)), none⟩,
 ⟨(some 4), (.mov (.t 53)), none⟩])
 (.keep [1, 4, 5, 6]))
 .skip))))
 (.seq (.ops [⟨(some 20), (.mov (.t 6)), none⟩,
 ⟨(some 21), (.bin .add (.t 20) (.c (.int .i64 1))), none⟩,
 ⟨(some 6), (.mov (.t 21)), none⟩])
 (.keep [1, 4, 5, 6])))))))
 (.seq
 (.seq (.ops [⟨(some 54), (.mov (.t 4)), none⟩,
 ⟨(some 2), (.mov (.t 54)), none⟩,
 ⟨(some 3), (.mov (.c (.bool true))), none⟩])
 (.keep [2, 3]))
 .ret)))))),
 [(.slot 2), (.slot 3)]⟩
/-- impl ReadAsk -/
def F_impl_ReadAsk : Fun := ⟨1,
 (.seq
 (.seq (.ops [⟨(some 2), (.newL [(.int .i64 0), (.int .i64 0), (.int .i64 0), (.int .i64 0), (.int .i64 0), (.int .i64 0)]), none⟩,
 ⟨(some 3), (.mov (.c (.bool false))), none⟩])
 (.keep [0, 2]))
 (.seq
 (.seq (.ops [⟨(some 9), (.mov (.t 0)), none⟩,
 ⟨(some 10), (.bld [(.string ⟨⟨[]⟩⟩), (.int .i64 0), (.bool false)] [(0, (1, (.t 9)))]), none⟩,
 ⟨(some 11), (.bx y_reader 3 (.t 10)), none⟩,
 ⟨(some 4), (.mov (.t 11)), none⟩])
 (.keep [0, 2, 4]))
 (.seq
 (.seq (.ops [⟨(some 5), (.newL [(.int .i64 0), (.int .i64 0), (.int .i64 0), (.int .i64 0), (.int .i64 0), (.int .i64 0)]), none⟩])
 (.keep [0, 2, 4, 5]))
 (.seq
 (.seq (.ops [⟨(some 12), (.mov (.t 4)), none⟩,
 ⟨(some 13), (.call n_impl_reader_one [(.t 12)]), none⟩,
 ⟨(some 14), (.faB 0 5), none⟩,
 ⟨none, (.stE 1 5 14 (.t 13)), none⟩])
 (.keep [0, 2, 4, 5]))
 (.seq
 (.seq
 (.seq (.ops [⟨(some 15), (.ldB 6 true 5), none⟩,
 ⟨(some 16), (.call n_impl_told [(.t 15)]), none⟩,
 ⟨(some 17), (.ln (.t 16)), none⟩,
 ⟨(some 6), (.mov (.t 17)), none⟩])
 (.keep [0, 2, 4, 5, 6]))
 (.seq
 (.seq (.ops [⟨(some 18), (.mov (.t 6)), none⟩,
 ⟨(some 19), (.bin .gtr (.t 18) (.c (.int .i64 0))), none⟩])
 (.keep [0, 2, 4, 5, 6, 19]))
 (.cond (.t 19)
 (.seq
 (.seq (.ops [⟨(some 20), (.mov (.t 4)), none⟩,
 ⟨(some 21), (.call n_impl_reader_num [(.t 20)]), none⟩,
 ⟨(some 22), (.faB 1 5), none⟩,
 ⟨none, (.stE 1 5 22 (.t 21)), none⟩])
 (.keep [0, 2, 4, 5, 6]))
 (.seq
 (.seq (.ops [⟨(some 23), (.mov (.t 6)), none⟩,
 ⟨(some 24), (.bin .eql (.t 23) (.c (.int .i64 5))), none⟩])
 (.keep [0, 2, 4, 5, 24]))
 (.cond (.t 24)
 (.seq
 (.seq (.ops [⟨(some 25), (.mov (.t 4)), none⟩,
 ⟨(some 26), (.call n_impl_reader_num [(.t 25)]), none⟩,
 ⟨(some 27), (.faB 2 5), none⟩,
 ⟨none, (.stE 1 5 27 (.t 26)), none⟩])
 (.keep [0, 2, 4, 5]))
 (.seq
 (.seq (.ops [⟨(some 28), (.mov (.t 4)), none⟩,
 ⟨(some 29), (.call n_impl_reader_num [(.t 28)]), none⟩,
 ⟨(some 30), (.faB 3 5), none⟩,
 ⟨none, (.stE 1 5 30 (.t 29)), none⟩])
 (.keep [0, 2, 4, 5]))
 (.seq
 (.seq (.ops [⟨(some 31), (.mov (.t 4)), none⟩,
 ⟨(some 32), (.call n_impl_reader_num [(.t 31)]), none⟩,
 ⟨(some 33), (.faB 4 5), none⟩,
 ⟨none, (.stE 1 5 33 (.t 32)), none⟩])
 (.keep [0, 2, 4, 5]))
 (.seq (.ops [⟨(some 34), (.mov (.t 4)), none⟩,
 ⟨(some 35), (.call n_impl_reader_num [(.t 34)]), none⟩,
 ⟨(some 36), (.faB 5 5), none⟩,
 ⟨none, (.stE 1 5 36 (.t 35)), none⟩])
 (.keep [0, 2, 4, 5])))))
 .skip)))
 .skip)))
 (.seq
 (.seq
 (.seq (.ops [⟨(some 38), (.ldB 6 true 5), none⟩,
 ⟨(some 39), (.call n_impl_AskText [(.t 38)]), none⟩,
 ⟨(some 37), (.mov (.t 39)), none⟩,
 ⟨(some 40), (.ext 0 (.t 37)), none⟩,
 ⟨(some 41), (.ext 1 (.t 37)), none⟩,
 ⟨(some 7), (.mov (.t 40)), none⟩,
 ⟨(some 8), (.mov (.t 41)), none⟩])
 (.keep [0, 2, 4, 5, 7, 8]))
 (.seq
 (.seq (.ops [⟨(some 42), (.mov (.t 4)), none⟩,
 ⟨(some 43), (.call n_impl_reader_ends [(.t 42)]), none⟩,
 ⟨(some 44), (.un .not (.t 43)), none⟩,
 ⟨(some 45), (.mov (.t 44)), none⟩,
 ⟨(some 46), (.mov (.t 8)), (some (45, false))⟩,
 ⟨(some 47), (.un .not (.t 46)), (some (45, false))⟩,
 ⟨(some 48), (.pick (.t 45) (.c (.bool true)) (.t 47)), none⟩,
 ⟨(some 49), (.mov (.t 48)), none⟩,
 ⟨(some 50), (.mov (.t 7)), (some (49, false))⟩,
 ⟨(some 51), (.mov (.t 0)), (some (49, false))⟩,
 ⟨(some 52), (.bin .neq (.t 50) (.t 51)), (some (49, false))⟩,
 ⟨(some 53), (.pick (.t 49) (.c (.bool true)) (.t 52)), none⟩])
 (.keep [2, 5, 53]))
 (.cond (.t 53)
 (.seq
 (.seq (.ops [⟨(some 54), (.bld [(.int .i64 0), (.int .i64 0), (.int .i64 0), (.int .i64 0), (.int .i64 0), (.int .i64 0)] []), none⟩,
 ⟨none, (.stB 6 2 (.t 54)), none⟩,
 ⟨(some 3), (.mov (.c (.bool false))), none⟩])
 (.keep [2, 3]))
 .ret)
 .skip)))
 (.seq
 (.seq (.ops [⟨(some 55), (.ldB 6 true 5), none⟩,
 ⟨none, (.stB 6 2 (.t 55)), none⟩,
 ⟨(some 3), (.mov (.c (.bool true))), none⟩])
 (.keep [2, 3]))
 .ret))))))),
 [(.box 2 6 true), (.slot 3)]⟩
/-- spec DrawReadAsk -/
def F_spec_DrawReadAsk : Fun := ⟨1,
 (.seq
 (.seq (.ops [⟨(some 2), (.mov (.c (.string ⟨⟨[]⟩⟩))), none⟩])
 (.keep [0]))
 (.seq
 (.seq (.ops [⟨(some 6), (.mov (.t 0)), none⟩,
 ⟨(some 7), (.call n_spec_l01New [(.t 6)]), none⟩,
 ⟨(some 3), (.mov (.t 7)), none⟩])
 (.keep [3]))
 (.seq
 (.seq (.ops [⟨(some 9), (.mov (.t 3)), none⟩,
 ⟨(some 10), (.bld [(.string ⟨⟨[]⟩⟩), (.string ⟨⟨[]⟩⟩)] [(0, (1, (.c (.string ⟨⟨[118, 48, 49]⟩⟩)))), (1, (1, (.c (.string ⟨⟨[97]⟩⟩))))]), none⟩,
 ⟨(some 11), (.bld [(.string ⟨⟨[]⟩⟩), (.string ⟨⟨[]⟩⟩)] [(0, (1, (.c (.string ⟨⟨[118, 48, 51]⟩⟩)))), (1, (1, (.c (.string ⟨⟨[97]⟩⟩))))]), none⟩,
 ⟨(some 12), (.lit 2 2 y_Pair [(.string ⟨⟨[]⟩⟩), (.string ⟨⟨[]⟩⟩)] [(0, (.t 10)), (1, (.t 11))]), none⟩,
 ⟨(some 13), (.call n_spec_l13Ask [(.t 9), (.t 12)]), none⟩,
 ⟨(some 14), (.call n_spec_AskText [(.t 13)]), none⟩,
 ⟨(some 8), (.mov (.t 14)), none⟩,
 ⟨(some 15), (.ext 0 (.t 8)), none⟩,
 ⟨(some 16), (.ext 1 (.t 8)), none⟩,
 ⟨(some 4), (.mov (.t 15)), none⟩,
 ⟨(some 5), (.mov (.t 16)), none⟩])
 (.keep [3, 4]))
 (.seq
 (.seq (.ops [⟨(some 17), (.mov (.t 3)), none⟩,
 ⟨(some 18), (.mov (.t 4)), none⟩,
 ⟨(some 19), (.call n_spec_l02Spoilt [(.t 17), (.t 18)]), none⟩,
 ⟨(some 2), (.mov (.t 19)), none⟩])
 (.keep [2]))
 .ret)))),
 [(.slot 2)]⟩
/-- spec ReadAsk -/
def F_spec_ReadAsk : Fun := ⟨1,
 (.seq
 (.seq (.ops [⟨(some 2), (.newL [(.int .i64 0), (.int .i64 0), (.int .i64 0), (.int .i64 0), (.int .i64 0), (.int .i64 0)]), none⟩,
 ⟨(some 3), (.mov (.c (.bool false))), none⟩])
 (.keep [0, 2]))
 (.seq
 (.seq
 (.seq (.ops [⟨(some 10), (.mov (.t 0)), none⟩,
 ⟨(some 11), (.lnS (.t 10)), none⟩,
 ⟨(some 12), (.bin .eql (.t 11) (.c (.int .i64 0))), none⟩])
 (.keep [0, 2, 12]))
 (.cond (.t 12)
 (.seq
 (.seq (.ops [⟨(some 13), (.bld [(.int .i64 0), (.int .i64 0), (.int .i64 0), (.int .i64 0), (.int .i64 0), (.int .i64 0)] []), none⟩,
 ⟨none, (.stB 6 2 (.t 13)), none⟩,
 ⟨(some 3), (.mov (.c (.bool false))), none⟩])
 (.keep [2, 3]))
 .ret)
 .skip))
 (.seq
 (.seq (.ops [⟨(some 14), (.mov (.t 0)), none⟩,
 ⟨(some 15), (.bld [(.string ⟨⟨[]⟩⟩), (.int .i64 0), (.bool false)] [(0, (1, (.t 14))), (1, (1, (.c (.int .i64 1))))]), none⟩,
 ⟨(some 16), (.bx y_l12Cur 3 (.t 15)), none⟩,
 ⟨(some 4), (.mov (.t 16)), none⟩])
 (.keep [0, 2, 4]))
 (.seq
 (.seq (.ops [⟨(some 17), (.lit 5 1 y_int [(.int .i64 0)] [(0, (.c (.int .i64 0))), (1, (.c (.int .i64 0))), (2, (.c (.int .i64 0))), (3, (.c (.int .i64 0))), (4, (.c (.int .i64 0)))]), none⟩,
 ⟨(some 5), (.mov (.t 17)), none⟩])
 (.keep [0, 2, 4, 5]))
 (.seq
 (.seq
 (.seq (.ops [⟨(some 6), (.mov (.c (.int .i64 0))), none⟩])
 (.keep [0, 2, 4, 5, 6]))
 (.block 0
 (.loop
 (.seq
 (.seq
 (.seq (.ops [⟨(some 18), (.mov (.t 6)), none⟩,
 ⟨(some 19), (.mov (.t 0)), none⟩,
 ⟨(some 20), (.ix (.t 19) (.c (.int .i64 0))), none⟩,
 ⟨(some 21), (.conv .i64 (.t 20)), none⟩,
 ⟨(some 22), (.call n_spec_l14Numbers [(.t 21)]), none⟩,
 ⟨(some 23), (.bin .lss (.t 18) (.t 22)), none⟩])
 (.keep [0, 2, 4, 5, 6, 23]))
 (.cond (.t 23)
 .skip
 (.exit 0)))
 (.seq
 (.block 1
 (.seq (.ops [⟨(some 26), (.mov (.t 5)), none⟩,
 ⟨(some 27), (.mov (.t 6)), none⟩,
 ⟨(some 28), (.mov (.t 4)), none⟩,
 ⟨(some 29), (.call n_spec_l12Var [(.t 28)]), none⟩,
 ⟨(some 30), (.ia 1 (.t 26) (.t 27)), none⟩,
 ⟨none, (.st 1 (.t 30) (.t 29)), none⟩])
 (.keep [0, 2, 4, 5, 6])))
 (.seq (.ops [⟨(some 24), (.mov (.t 6)), none⟩,
 ⟨(some 25), (.bin .add (.t 24) (.c (.int .i64 1))), none⟩,
 ⟨(some 6), (.mov (.t 25)), none⟩])
 (.keep [0, 2, 4, 5, 6])))))))
 (.seq
 (.seq (.free true [⟨(some 31), (.mov (.t 0)), none⟩,
 ⟨(some 32), (.ix (.t 31) (.c (.int .i64 0))), none⟩,
 ⟨(some 33), (.conv .i64 (.t 32)), none⟩,
 ⟨(some 34), (.mov (.t 5)), none⟩,
 ⟨(some 35), (.ia 1 (.t 34) (.c (.int .i64 0))), none⟩,
 ⟨(some 36), (.ld 1 false (.t 35)), none⟩,
 ⟨(some 37), (.mov (.t 5)), none⟩,
 ⟨(some 38), (.ia 1 (.t 37) (.c (.int .i64 1))), none⟩,
 ⟨(some 39), (.ld 1 false (.t 38)), none⟩,
 ⟨(some 40), (.mov (.t 5)), none⟩,
 ⟨(some 41), (.ia 1 (.t 40) (.c (.int .i64 2))), none⟩,
 ⟨(some 42), (.ld 1 false (.t 41)), none⟩,
 ⟨(some 43), (.mov (.t 5)), none⟩,
 ⟨(some 44), (.ia 1 (.t 43) (.c (.int .i64 3))), none⟩,
 ⟨(some 45), (.ld 1 false (.t 44)), none⟩,
 ⟨(some 46), (.mov (.t 5)), none⟩,
 ⟨(some 47), (.ia 1 (.t 46) (.c (.int .i64 4))), none⟩,
 ⟨(some 48), (.ld 1 false (.t 47)), none⟩,
 ⟨(some 49), (.bld [(.int .i64 0), (.int .i64 0), (.int .i64 0), (.int .i64 0), (.int .i64 0), (.int .i64 0)] [(0, (1, (.t 33))), (1, (1, (.t 36))), (2, (1, (.t 39))), (3, (1, (.t 42))), (4, (1, (.t 45))), (5, (1, (.t 48)))]), none⟩,
 ⟨(some 7), (.newL [(.int .i64 0), (.int .i64 0), (.int .i64 0), (.int .i64 0), (.int .i64 0), (.int .i64 0)]), none⟩,
 ⟨none, (.stB 6 7 (.t 49)), none⟩])
 (.keep [0, 2, 4, 7]))
 (.seq
 (.seq (.ops [⟨(some 51), (.ldB 6 true 7), none⟩,
 ⟨(some 52), (.call n_spec_AskText [(.t 51)]), none⟩,
 ⟨(some 50), (.mov (.t 52)), none⟩,
 ⟨(some 53), (.ext 0 (.t 50)), none⟩,
 ⟨(some 54), (.ext 1 (.t 50)), none⟩,
 ⟨(some 8), (.mov (.t 53)), none⟩,
 ⟨(some 9), (.mov (.t 54)), none⟩])
 (.keep [0, 2, 4, 7, 8, 9]))
 (.seq
 (.seq
 (.seq (.ops [⟨(some 55), (.mov (.t 4)), none⟩,
 ⟨(some 56), (.chk (.t 55)), none⟩,
 ⟨(some 57), (.fa 2 (.t 56)), none⟩,
 ⟨(some 58), (.ld 1 false (.t 57)), none⟩,
 ⟨(some 59), (.mov (.t 58)), none⟩,
 ⟨(some 60), (.mov (.t 9)), (some (59, false))⟩,
 ⟨(some 61), (.un .not (.t 60)), (some (59, false))⟩,
 ⟨(some 62), (.pick (.t 59) (.c (.bool true)) (.t 61)), none⟩,
 ⟨(some 63), (.mov (.t 62)), none⟩,
 ⟨(some 64), (.mov (.t 8)), (some (63, false))⟩,
 ⟨(some 65), (.mov (.t 0)), (some (63, false))⟩,
 ⟨(some 66), (.bin .neq (.t 64) (.t 65)), (some (63, false))⟩,
 ⟨(some 67), (.pick (.t 63) (.c (.bool true)) (.t 66)), none⟩])
 (.keep [2, 7, 67]))
 (.cond (.t 67)
 (.seq
 (.seq (.ops [⟨(some 68), (.bld [(.int .i64 0), (.int .i64 0), (.int .i64 0), (.int .i64 0), (.int .i64 0), (.int .i64 0)] []), none⟩,
 ⟨none, (.stB 6 2 (.t 68)), none⟩,
 ⟨(some 3), (.mov (.c (.bool false))), none⟩])
 (.keep [2, 3]))
 .ret)
 .skip))
 (.seq
 (.seq (.ops [⟨(some 69), (.ldB 6 true 7), none⟩,
 ⟨none, (.stB 6 2 (.t 69)), none⟩,
 ⟨(some 3), (.mov (.c (.bool true))), none⟩])
 (.keep [2, 3]))
 .ret))))))))),
 [(.box 2 6 true), (.slot 3)]⟩
/-- laws szCert -/
def F_laws_szCert : Fun := ⟨2,
 (.seq
 (.seq (.ops [⟨(some 2), (.boxL 5 (.t 0)), none⟩,
 ⟨(some 4), (.mov (.c (.int .i64 0))), none⟩])
 (.keep [1, 2]))
 (.seq
 (.seq (.ops [⟨(some 5), (.faB 0 2), none⟩,
 ⟨(some 6), (.ldE 2 true 2 5), none⟩,
 ⟨(some 7), (.mov (.t 1)), none⟩,
 ⟨(some 8), (.call n_laws_szGraph [(.t 6), (.t 7)]), none⟩,
 ⟨(some 1), (.mov (.t 8)), none⟩])
 (.keep [1, 2]))
 (.seq
 (.seq
 (.seq (.ops [⟨(some 9), (.mov (.t 1)), none⟩,
 ⟨(some 10), (.bin .lss (.t 9) (.c (.int .i64 0))), none⟩])
 (.keep [1, 2, 10]))
 (.cond (.t 10)
 (.seq
 (.seq (.ops [⟨(some 4), (.mov (.c (.int .i64 (-1)))), none⟩])
 (.keep [4]))
 .ret)
 .skip))
 (.seq
 (.seq (.ops [⟨(some 11), (.faB 2 2), none⟩,
 ⟨(some 12), (.ldE 1 false 2 11), none⟩,
 ⟨(some 13), (.mov (.t 1)), none⟩,
 ⟨(some 14), (.call n_laws_szCoupleS [(.t 12), (.t 13)]), none⟩,
 ⟨(some 1), (.mov (.t 14)), none⟩])
 (.keep [1, 2]))
 (.seq
 (.seq
 (.seq (.ops [⟨(some 15), (.mov (.t 1)), none⟩,
 ⟨(some 16), (.bin .lss (.t 15) (.c (.int .i64 0))), none⟩])
 (.keep [1, 2, 16]))
 (.cond (.t 16)
 (.seq
 (.seq (.ops [⟨(some 4), (.mov (.c (.int .i64 (-1)))), none⟩])
 (.keep [4]))
 .ret)
 .skip))
 (.seq
 (.seq (.ops [⟨(some 17), (.faB 3 2), none⟩,
 ⟨(some 18), (.ldE 2 true 2 17), none⟩,
 ⟨(some 19), (.mov (.t 1)), none⟩,
 ⟨(some 20), (.call n_laws_szProof [(.t 18), (.t 19)]), none⟩,
 ⟨(some 1), (.mov (.t 20)), none⟩])
 (.keep [1]))
 (.seq
 (.seq
 (.seq (.ops [⟨(some 21), (.mov (.t 1)), none⟩,
 ⟨(some 22), (.bin .lss (.t 21) (.c (.int .i64 0))), none⟩])
 (.keep [1, 22]))
 (.cond (.t 22)
 (.seq
 (.seq (.ops [⟨(some 4), (.mov (.c (.int .i64 (-1)))), none⟩])
 (.keep [4]))
 .ret)
 .skip))
 (.seq
 (.seq (.ops [⟨(some 23), (.mov (.t 1)), none⟩,
 ⟨(some 4), (.mov (.t 23)), none⟩])
 (.keep [4]))
 .ret)))))))),
 [(.slot 4)]⟩
/-- spec CertText -/
def F_spec_CertText : Fun := ⟨1,
 (.seq
 (.seq (.ops [⟨(some 1), (.boxL 5 (.t 0)), none⟩,
 ⟨(some 2), (.mov (.c (.string ⟨⟨[]⟩⟩))), none⟩,
 ⟨(some 3), (.mov (.c (.bool false))), none⟩])
 (.keep [1]))
 (.seq
 (.seq
 (.seq (.ops [⟨(some 12), (.faB 0 1), none⟩,
 ⟨(some 13), (.ldE 2 true 1 12), none⟩,
 ⟨(some 14), (.faB 2 1), none⟩,
 ⟨(some 15), (.ldE 1 false 1 14), none⟩,
 ⟨(some 16), (.faB 3 1), none⟩,
 ⟨(some 17), (.ldE 2 true 1 16), none⟩,
 ⟨(some 18), (.call n_spec_Certifies [(.t 13), (.t 15), (.t 17)]), none⟩,
 ⟨(some 19), (.un .not (.t 18)), none⟩])
 (.keep [1, 19]))
 (.cond (.t 19)
 (.seq
 (.seq (.ops [⟨(some 2), (.mov (.c (.string ⟨⟨[]⟩⟩))), none⟩,
 ⟨(some 3), (.mov (.c (.bool false))), none⟩])
 (.keep [2, 3]))
 .ret)
 .skip))
 (.seq
 (.seq (.free false [⟨(some 20), (.faB 0 1), none⟩,
 ⟨(some 21), (.faE 0 1 20), none⟩,
 ⟨(some 22), (.ldE 1 false 1 21), none⟩,
 ⟨(some 23), (.call n_spec_l01Var [(.t 22)]), none⟩,
 ⟨(some 24), (.faB 0 1), none⟩,
 ⟨(some 25), (.faE 1 1 24), none⟩,
 ⟨(some 26), (.ldE 1 false 1 25), none⟩,
 ⟨(some 27), (.ln (.t 26)), none⟩,
 ⟨(some 28), (.call n_spec_l01Var [(.t 27)]), none⟩,
 ⟨(some 29), (.bin .add (.t 23) (.t 28)), none⟩,
 ⟨(some 4), (.mov (.t 29)), none⟩])
 (.keep [1, 4]))
 (.seq
 (.seq
 (.seq (.ops [⟨(some 5), (.mov (.c (.int .i64 0))), none⟩])
 (.keep [1, 4, 5]))
 (.block 0
 (.loop
 (.seq
 (.seq
 (.seq (.ops [⟨(some 30), (.mov (.t 5)), none⟩,
 ⟨(some 31), (.faB 0 1), none⟩,
 ⟨(some 32), (.faE 1 1 31), none⟩,
 ⟨(some 33), (.ldE 1 false 1 32), none⟩,
 ⟨(some 34), (.ln (.t 33)), none⟩,
 ⟨(some 35), (.bin .lss (.t 30) (.t 34)), none⟩])
 (.keep [1, 4, 5, 35]))
 (.cond (.t 35)
 .skip
 (.exit 0)))
 (.seq
 (.block 1
 (.seq
 (.seq (.ops [⟨(some 38), (.faB 0 1), none⟩,
 ⟨(some 39), (.faE 1 1 38), none⟩,
 ⟨(some 40), (.ldE 1 false 1 39), none⟩,
 ⟨(some 41), (.mov (.t 5)), none⟩,
 ⟨(some 42), (.ia 5 (.t 40) (.t 41)), none⟩,
 ⟨(some 43), (.ld 5 true (.t 42)), none⟩,
 ⟨(some 6), (.newL [(.int .i64 0), (.int .i64 0), (.int .i64 0), (.int .i64 0), (.int .i64 0)]), none⟩,
 ⟨none, (.stB 5 6 (.t 43)), none⟩])
 (.keep [1, 4, 5, 6]))
 (.seq (.free true [⟨(some 44), (.mov (.t 4)), none⟩,
 ⟨(some 45), (.faB 0 6), none⟩,
 ⟨(some 46), (.ldE 1 false 6 45), none⟩,
 ⟨(some 47), (.call n_spec_l01Var [(.t 46)]), none⟩,
 ⟨(some 48), (.bin .add (.t 44) (.t 47)), none⟩,
 ⟨(some 49), (.faB 1 6), none⟩,
 ⟨(some 50), (.ldE 1 false 6 49), none⟩,
 ⟨(some 51), (.call n_spec_l01Var [(.t 50)]), none⟩,
 ⟨(some 52), (.bin .add (.t 48) (.t 51)), none⟩,
 ⟨(some 53), (.faB 2 6), none⟩,
 ⟨(some 54), (.ldE 1 false 6 53), none⟩,
 ⟨(some 55), (.call n_spec_l01Var [(.t 54)]), none⟩,
 ⟨(some 56), (.bin .add (.t 52) (.t 55)), none⟩,
 ⟨(some 57), (.faB 3 6), none⟩,
 ⟨(some 58), (.ldE 1 false 6 57), none⟩,
 ⟨(some 59), (.call n_spec_l01Var [(.t 58)]), none⟩,
 ⟨(some 60), (.bin .add (.t 56) (.t 59)), none⟩,
 ⟨(some 61), (.faB 4 6), none⟩,
 ⟨(some 62), (.ldE 1 false 6 61), none⟩,
 ⟨(some 63), (.call n_spec_l01Var [(.t 62)]), none⟩,
 ⟨(some 64), (.bin .add (.t 60) (.t 63)), none⟩,
 ⟨(some 4), (.mov (.t 64)), none⟩])
 (.keep [1, 4, 5]))))
 (.seq (.ops [⟨(some 36), (.mov (.t 5)), none⟩,
 ⟨(some 37), (.bin .add (.t 36) (.c (.int .i64 1))), none⟩,
 ⟨(some 5), (.mov (.t 37)), none⟩])
 (.keep [1, 4, 5])))))))
 (.seq
 (.seq (.ops [⟨(some 65), (.mov (.t 4)), none⟩,
 ⟨(some 66), (.faB 2 1), none⟩,
 ⟨(some 67), (.ldE 1 false 1 66), none⟩,
 ⟨(some 68), (.ln (.t 67)), none⟩,
 ⟨(some 69), (.call n_spec_l01Var [(.t 68)]), none⟩,
 ⟨(some 70), (.bin .add (.t 65) (.t 69)), none⟩,
 ⟨(some 4), (.mov (.t 70)), none⟩])
 (.keep [1, 4]))
 (.seq
 (.seq
 (.seq (.ops [⟨(some 7), (.mov (.c (.int .i64 0))), none⟩])
 (.keep [1, 4, 7]))
 (.block 2
 (.loop
 (.seq
 (.seq
 (.seq (.ops [⟨(some 71), (.mov (.t 7)), none⟩,
 ⟨(some 72), (.faB 2 1), none⟩,
 ⟨(some 73), (.ldE 1 false 1 72), none⟩,
 ⟨(some 74), (.ln (.t 73)), none⟩,
 ⟨(some 75), (.bin .lss (.t 71) (.t 74)), none⟩])
 (.keep [1, 4, 7, 75]))
 (.cond (.t 75)
 .skip
 (.exit 2)))
 (.seq
 (.block 3
 (.seq (.free false [⟨(some 78), (.mov (.t 4)), none⟩,
 ⟨(some 79), (.faB 2 1), none⟩,
 ⟨(some 80), (.ldE 1 false 1 79), none⟩,
 ⟨(some 81), (.mov (.t 7)), none⟩,
 ⟨(some 82), (.ia 2 (.t 80) (.t 81)), none⟩,
 ⟨(some 83), (.fa 0 (.t 82)), none⟩,
 ⟨(some 84), (.ld 1 false (.t 83)), none⟩,
 ⟨(some 85), (.call n_spec_l01Var [(.t 84)]), none⟩,
 ⟨(some 86), (.bin .add (.t 78) (.t 85)), none⟩,
 ⟨(some 87), (.faB 2 1), none⟩,
 ⟨(some 88), (.ldE 1 false 1 87), none⟩,
 ⟨(some 89), (.mov (.t 7)), none⟩,
 ⟨(some 90), (.ia 2 (.t 88) (.t 89)), none⟩,
 ⟨(some 91), (.fa 1 (.t 90)), none⟩,
 ⟨(some 92), (.ld 1 false (.t 91)), none⟩,
 ⟨(some 93), (.call n_spec_l01Var [(.t 92)]), none⟩,
 ⟨(some 94), (.bin .add (.t 86) (.t 93)), none⟩,
 ⟨(some 4), (.mov (.t 94)), none⟩])
 (.keep [1, 4, 7])))
 (.seq (.ops [⟨(some 76), (.mov (.t 7)), none⟩,
 ⟨(some 77), (.bin .add (.t 76) (.c (.int .i64 1))), none⟩,
 ⟨(some 7), (.mov (.t 77)), none⟩])
 (.keep [1, 4, 7])))))))
 (.seq
 (.seq
 (.seq (.ops [⟨(some 8), (.mov (.c (.int .i64 0))), none⟩])
 (.keep [1, 4, 8]))
 (.block 4
 (.loop
 (.seq
 (.seq
 (.seq (.ops [⟨(some 95), (.mov (.t 8)), none⟩,
 ⟨(some 96), (.faB 3 1), none⟩,
 ⟨(some 97), (.faE 0 1 96), none⟩,
 ⟨(some 98), (.ldE 1 false 1 97), none⟩,
 ⟨(some 99), (.ln (.t 98)), none⟩,
 ⟨(some 100), (.bin .lss (.t 95) (.t 99)), none⟩])
 (.keep [1, 4, 8, 100]))
 (.cond (.t 100)
 .skip
 (.exit 4)))
 (.seq
 (.block 5
 (.seq (.ops [⟨(some 103), (.mov (.t 4)), none⟩,
 ⟨(some 104), (.faB 3 1), none⟩,
 ⟨(some 105), (.faE 0 1 104), none⟩,
 ⟨(some 106), (.ldE 1 false 1 105), none⟩,
 ⟨(some 107), (.mov (.t 8)), none⟩,
 ⟨(some 108), (.ia 1 (.t 106) (.t 107)), none⟩,
 ⟨(some 109), (.ld 1 false (.t 108)), none⟩,
 ⟨(some 110), (.call n_spec_l01Var [(.t 109)]), none⟩,
 ⟨(some 111), (.bin .add (.t 103) (.t 110)), none⟩,
 ⟨(some 4), (.mov (.t 111)), none⟩])
 (.keep [1, 4, 8])))
 (.seq (.ops [⟨(some 101), (.mov (.t 8)), none⟩,
 ⟨(some 102), (.bin .add (.t 101) (.c (.int .i64 1))), none⟩,
 ⟨(some 8), (.mov (.t 102)), none⟩])
 (.keep [1, 4, 8])))))))
 (.seq
 (.seq (.ops [⟨(some 112), (.mov (.t 4)), none⟩,
 ⟨(some 113), (.faB 3 1), none⟩,
 ⟨(some 114), (.faE 1 1 113), none⟩,
 ⟨(some 115), (.ldE 1 false 1 114), none⟩,
 ⟨(some 116), (.ln (.t 115)), none⟩,
 ⟨(some 117), (.call n_spec_l01Var [(.t 116)]), none⟩,
 ⟨(some 118), (.bin .add (.t 112) (.t 117)), none⟩,
 ⟨(some 4), (.mov (.t 118)), none⟩])
 (.keep [1, 4]))
 (.seq
 (.seq
 (.seq (.ops [⟨(some 9), (.mov (.c (.int .i64 0))), none⟩])
 (.keep [1, 4, 9]))
 (.block 6
 (.loop
 (.seq
 (.seq
 (.seq (.ops [⟨(some 119), (.mov (.t 9)), none⟩,
 ⟨(some 120), (.faB 3 1), none⟩,
 ⟨(some 121), (.faE 1 1 120), none⟩,
 ⟨(some 122), (.ldE 1 false 1 121), none⟩,
 ⟨(some 123), (.ln (.t 122)), none⟩,
 ⟨(some 124), (.bin .lss (.t 119) (.t 123)), none⟩])
 (.keep [1, 4, 9, 124]))
 (.cond (.t 124)
 .skip
 (.exit 6)))
 (.seq
 (.block 7
 (.seq
 (.seq (.ops [⟨(some 127), (.faB 3 1), none⟩,
 ⟨(some 128), (.faE 1 1 127), none⟩,
 ⟨(some 129), (.ldE 1 false 1 128), none⟩,
 ⟨(some 130), (.mov (.t 9)), none⟩,
 ⟨(some 131), (.ia 2 (.t 129) (.t 130)), none⟩,
 ⟨(some 132), (.ld 2 true (.t 131)), none⟩,
 ⟨(some 10), (.newL [(.slice none 0 0), (.int .i64 0)]), none⟩,
 ⟨none, (.stB 2 10 (.t 132)), none⟩])
 (.keep [1, 4, 9, 10]))
 (.seq
 (.seq (.ops [⟨(some 133), (.mov (.t 4)), none⟩,
 ⟨(some 134), (.faB 0 10), none⟩,
 ⟨(some 135), (.ldE 1 false 10 134), none⟩,
 ⟨(some 136), (.ln (.t 135)), none⟩,
 ⟨(some 137), (.call n_spec_l01Var [(.t 136)]), none⟩,
 ⟨(some 138), (.bin .add (.t 133) (.t 137)), none⟩,
 ⟨(some 4), (.mov (.t 138)), none⟩])
 (.keep [1, 4, 9, 10]))
 (.seq
 (.seq
 (.seq (.ops [⟨(some 11), (.mov (.c (.int .i64 0))), none⟩])
 (.keep [1, 4, 9, 10, 11]))
 (.block 8
 (.loop
 (.seq
 (.seq
 (.seq (.ops [⟨(some 139), (.mov (.t 11)), none⟩,
 ⟨(some 140), (.faB 0 10), none⟩,
 ⟨(some 141), (.ldE 1 false 10 140), none⟩,
 ⟨(some 142), (.ln (.t 141)), none⟩,
 ⟨(some 143), (.bin .lss (.t 139) (.t 142)), none⟩])
 (.keep [1, 4, 9, 10, 11, 143]))
 (.cond (.t 143)
 .skip
 (.exit 8)))
 (.seq
 (.block 9
 (.seq (.ops [⟨(some 146), (.mov (.t 4)), none⟩,
 ⟨(some 147), (.faB 0 10), none⟩,
 ⟨(some 148), (.ldE 1 false 10 147), none⟩,
 ⟨(some 149), (.mov (.t 11)), none⟩,
 ⟨(some 150), (.ia 1 (.t 148) (.t 149)), none⟩,
 ⟨(some 151), (.ld 1 false (.t 150)), none⟩,
 ⟨(some 152), (.call n_spec_l01Var [(.t 151)]), none⟩,
 ⟨(some 153), (.bin .add (.t 146) (.t 152)), none⟩,
 ⟨(some 4), (.mov (.t 153)), none⟩])
 (.keep [1, 4, 9, 10, 11])))
 (.seq (.ops [⟨(some 144), (.mov (.t 11)), none⟩,
 ⟨(some 145), (.bin .add (.t 144) (.c (.int .i64 1))), none⟩,
 ⟨(some 11), (.mov (.t 145)), none⟩])
 (.keep [1, 4, 9, 10, 11])))))))
 (.seq (.ops [⟨(some 154), (.mov (.t 4)), none⟩,
 ⟨(some 155), (.faB 1 10), none⟩,
 ⟨(some 156), (.ldE 1 false 10 155), none⟩,
 ⟨(some 157), (.call n_spec_l01Var [(.t 156)]), none⟩,
 ⟨(some 158), (.bin .add (.t 154) (.t 157)), none⟩,
 ⟨(some 4), (.mov (.t 158)), none⟩])
 (.keep [1, 4, 9]))))))
 (.seq (.ops [⟨(some 125), (.mov (.t 9)), none⟩,
 ⟨(some 126), (.bin .add (.t 125) (.c (.int .i64 1))), none⟩,
 ⟨(some 9), (.mov (.t 126)), none⟩])
 (.keep [1, 4, 9])))))))
 (.seq
 (.seq (.ops [⟨(some 159), (.mov (.t 4)), none⟩,
 ⟨(some 2), (.mov (.t 159)), none⟩,
 ⟨(some 3), (.mov (.c (.bool true))), none⟩])
 (.keep [2, 3]))
 .ret)))))))))),
 [(.slot 2), (.slot 3)]⟩
/-- laws toCert -/
def F_laws_toCert : Fun := ⟨1,
 (.seq
 (.seq (.ops [⟨(some 1), (.boxL 5 (.t 0)), none⟩,
 ⟨(some 2), (.newL [(.int .i64 0), (.slice none 0 0), (.slice none 0 0), (.slice none 0 0), (.slice none 0 0)]), none⟩])
 (.keep [1, 2]))
 (.seq
 (.seq (.ops [⟨(some 3), (.newL [(.int .i64 0), (.slice none 0 0), (.slice none 0 0), (.slice none 0 0), (.slice none 0 0)]), none⟩])
 (.keep [1, 2, 3]))
 (.seq
 (.seq (.ops [⟨(some 4), (.faB 0 1), none⟩,
 ⟨(some 5), (.ldE 2 true 1 4), none⟩,
 ⟨(some 6), (.call n_laws_toGraph [(.t 5)]), none⟩,
 ⟨(some 7), (.faB 0 3), none⟩,
 ⟨none, (.stE 2 3 7 (.t 6)), none⟩])
 (.keep [1, 2, 3]))
 (.seq
 (.seq (.ops [⟨(some 8), (.faB 2 1), none⟩,
 ⟨(some 9), (.ldE 1 false 1 8), none⟩,
 ⟨(some 10), (.call n_laws_toCoupleS [(.t 9)]), none⟩,
 ⟨(some 11), (.faB 2 3), none⟩,
 ⟨none, (.stE 1 3 11 (.t 10)), none⟩])
 (.keep [1, 2, 3]))
 (.seq
 (.seq (.ops [⟨(some 12), (.faB 3 1), none⟩,
 ⟨(some 13), (.ldE 2 true 1 12), none⟩,
 ⟨(some 14), (.call n_laws_toProof [(.t 13)]), none⟩,
 ⟨(some 15), (.faB 3 3), none⟩,
 ⟨none, (.stE 2 3 15 (.t 14)), none⟩])
 (.keep [2, 3]))
 (.seq
 (.seq (.ops [⟨(some 16), (.ldB 5 true 3), none⟩,
 ⟨none, (.stB 5 2 (.t 16)), none⟩])
 (.keep [2]))
 .ret)))))),
 [(.box 2 5 true)]⟩
/-- impl CertText -/
def F_impl_CertText : Fun := ⟨1,
 (.seq
 (.seq (.ops [⟨(some 1), (.boxL 5 (.t 0)), none⟩,
 ⟨(some 2), (.mov (.c (.string ⟨⟨[]⟩⟩))), none⟩,
 ⟨(some 3), (.mov (.c (.bool false))), none⟩])
 (.keep [1]))
 (.seq
 (.seq
 (.seq (.ops [⟨(some 11), (.faB 0 1), none⟩,
 ⟨(some 12), (.ldE 2 true 1 11), none⟩,
 ⟨(some 13), (.faB 2 1), none⟩,
 ⟨(some 14), (.ldE 1 false 1 13), none⟩,
 ⟨(some 15), (.faB 3 1), none⟩,
 ⟨(some 16), (.ldE 2 true 1 15), none⟩,
 ⟨(some 17), (.call n_impl_Certifies [(.t 12), (.t 14), (.t 16)]), none⟩,
 ⟨(some 18), (.un .not (.t 17)), none⟩])
 (.keep [1, 18]))
 (.cond (.t 18)
 (.seq
 (.seq (.ops [⟨(some 2), (.mov (.c (.string ⟨⟨[]⟩⟩))), none⟩,
 ⟨(some 3), (.mov (.c (.bool false))), none⟩])
 (.keep [2, 3]))
 .ret)
 .skip))
 (.seq
 (.seq (.ops [⟨(some 19), (.faB 0 1), none⟩,
 ⟨(some 20), (.faE 0 1 19), none⟩,
 ⟨(some 21), (.ldE 1 false 1 20), none⟩,
 ⟨(some 22), (.faB 0 1), none⟩,
 ⟨(some 23), (.faE 1 1 22), none⟩,
 ⟨(some 24), (.ldE 1 false 1 23), none⟩,
 ⟨(some 25), (.ln (.t 24)), none⟩,
 ⟨(some 26), (.litL 2 1 [(.int .i64 0)] [(0, (.t 21)), (1, (.t 25))]), none⟩,
 ⟨(some 27), (.callL n_impl_vars 2 1 y_int 26), none⟩,
 ⟨(some 4), (.mov (.t 27)), none⟩])
 (.keep [1, 4]))
 (.seq
 (.seq
 (.seq (.ops [⟨(some 28), (.faB 0 1), none⟩,
 ⟨(some 29), (.faE 1 1 28), none⟩,
 ⟨(some 30), (.ldE 1 false 1 29), none⟩,
 ⟨(some 31), (.ln (.t 30)), none⟩,
 ⟨(some 32), (.mov (.c (.int .i64 0))), none⟩])
 (.keep [1, 4, 30, 31, 32]))
 (.block 0
 (.loop
 (.seq
 (.seq (.ops [⟨(some 33), (.bin .lss (.t 32) (.t 31)), none⟩])
 (.keep [1, 4, 30, 31, 32, 33]))
 (.seq
 (.cond (.t 33)
 .skip
 (.exit 0))
 (.seq
 (.block 1
 (.seq
 (.seq (.ops [⟨(some 34), (.ia 5 (.t 30) (.t 32)), none⟩,
 ⟨(some 35), (.ld 5 true (.t 34)), none⟩,
 ⟨(some 6), (.newL [(.int .i64 0), (.int .i64 0), (.int .i64 0), (.int .i64 0), (.int .i64 0)]), none⟩,
 ⟨none, (.stB 5 6 (.t 35)), none⟩])
 (.keep [1, 4, 6, 30, 31, 32]))
 (.seq (.ops [⟨(some 36), (.mov (.t 4)), none⟩,
 ⟨(some 37), (.faB 0 6), none⟩,
 ⟨(some 38), (.ldE 1 false 6 37), none⟩,
 ⟨(some 39), (.faB 1 6), none⟩,
 ⟨(some 40), (.ldE 1 false 6 39), none⟩,
 ⟨(some 41), (.faB 2 6), none⟩,
 ⟨(some 42), (.ldE 1 false 6 41), none⟩,
 ⟨(some 43), (.faB 3 6), none⟩,
 ⟨(some 44), (.ldE 1 false 6 43), none⟩,
 ⟨(some 45), (.faB 4 6), none⟩,
 ⟨(some 46), (.ldE 1 false 6 45), none⟩,
 ⟨(some 47), (.litL 5 1 [(.int .i64 0)] [(0, (.t 38)), (1, (.t 40)), (2, (.t 42)), (3, (.t 44)), (4, (.t 46))]), none⟩,
 ⟨(some 48), (.callL n_impl_vars 5 1 y_int 47), none⟩,
 ⟨(some 49), (.bin .add (.t 36) (.t 48)), none⟩,
 ⟨(some 4), (.mov (.t 49)), none⟩])
 (.keep [1, 4, 30, 31, 32]))))
 (.seq (.ops [⟨(some 50), (.bin .add (.t 32) (.c (.int .i64 1))), none⟩,
 ⟨(some 32), (.mov (.t 50)), none⟩])
 (.keep [1, 4, 30, 31, 32]))))))))
 (.seq
 (.seq (.ops [⟨(some 51), (.mov (.t 4)), none⟩,
 ⟨(some 52), (.faB 2 1), none⟩,
 ⟨(some 53), (.ldE 1 false 1 52), none⟩,
 ⟨(some 54), (.ln (.t 53)), none⟩,
 ⟨(some 55), (.litL 1 1 [(.int .i64 0)] [(0, (.t 54))]), none⟩,
 ⟨(some 56), (.callL n_impl_vars 1 1 y_int 55), none⟩,
 ⟨(some 57), (.bin .add (.t 51) (.t 56)), none⟩,
 ⟨(some 4), (.mov (.t 57)), none⟩])
 (.keep [1, 4]))
 (.seq
 (.seq
 (.seq (.ops [⟨(some 58), (.faB 2 1), none⟩,
 ⟨(some 59), (.ldE 1 false 1 58), none⟩,
 ⟨(some 60), (.ln (.t 59)), none⟩,
 ⟨(some 61), (.mov (.c (.int .i64 0))), none⟩])
 (.keep [1, 4, 59, 60, 61]))
 (.block 2
 (.loop
 (.seq
 (.seq (.ops [⟨(some 62), (.bin .lss (.t 61) (.t 60)), none⟩])
 (.keep [1, 4, 59, 60, 61, 62]))
 (.seq
 (.cond (.t 62)
 .skip
 (.exit 2))
 (.seq
 (.block 3
 (.seq
 (.seq (.ops [⟨(some 63), (.ia 2 (.t 59) (.t 61)), none⟩,
 ⟨(some 64), (.ld 2 true (.t 63)), none⟩,
 ⟨(some 8), (.newL [(.int .i64 0), (.int .i64 0)]), none⟩,
 ⟨none, (.stB 2 8 (.t 64)), none⟩])
 (.keep [1, 4, 8, 59, 60, 61]))
 (.seq (.ops [⟨(some 65), (.mov (.t 4)), none⟩,
 ⟨(some 66), (.faB 0 8), none⟩,
 ⟨(some 67), (.ldE 1 false 8 66), none⟩,
 ⟨(some 68), (.faB 1 8), none⟩,
 ⟨(some 69), (.ldE 1 false 8 68), none⟩,
 ⟨(some 70), (.litL 2 1 [(.int .i64 0)] [(0, (.t 67)), (1, (.t 69))]), none⟩,
 ⟨(some 71), (.callL n_impl_vars 2 1 y_int 70), none⟩,
 ⟨(some 72), (.bin .add (.t 65) (.t 71)), none⟩,
 ⟨(some 4), (.mov (.t 72)), none⟩])
 (.keep [1, 4, 59, 60, 61]))))
 (.seq (.ops [⟨(some 73), (.bin .add (.t 61) (.c (.int .i64 1))), none⟩,
 ⟨(some 61), (.mov (.t 73)), none⟩])
 (.keep [1, 4, 59, 60, 61]))))))))
 (.seq
 (.seq (.free false [⟨(some 74), (.mov (.t 4)), none⟩,
 ⟨(some 75), (.faB 3 1), none⟩,
 ⟨(some 76), (.faE 0 1 75), none⟩,
 ⟨(some 77), (.ldE 1 false 1 76), none⟩,
 ⟨(some 78), (.call n_impl_vars [(.t 77)]), none⟩,
 ⟨(some 79), (.faB 3 1), none⟩,
 ⟨(some 80), (.faE 1 1 79), none⟩,
 ⟨(some 81), (.ldE 1 false 1 80), none⟩,
 ⟨(some 82), (.ln (.t 81)), none⟩,
 ⟨(some 83), (.litL 1 1 [(.int .i64 0)] [(0, (.t 82))]), none⟩,
 ⟨(some 84), (.callL n_impl_vars 1 1 y_int 83), none⟩,
 ⟨(some 85), (.bin .add (.t 78) (.t 84)), none⟩,
 ⟨(some 86), (.bin .add (.t 74) (.t 85)), none⟩,
 ⟨(some 4), (.mov (.t 86)), none⟩])
 (.keep [1, 4]))
 (.seq
 (.seq
 (.seq (.ops [⟨(some 87), (.faB 3 1), none⟩,
 ⟨(some 88), (.faE 1 1 87), none⟩,
 ⟨(some 89), (.ldE 1 false 1 88), none⟩,
 ⟨(some 90), (.ln (.t 89)), none⟩,
 ⟨(some 91), (.mov (.c (.int .i64 0))), none⟩])
 (.keep [4, 89, 90, 91]))
 (.block 4
 (.loop
 (.seq
 (.seq (.ops [⟨(some 92), (.bin .lss (.t 91) (.t 90)), none⟩])
 (.keep [4, 89, 90, 91, 92]))
 (.seq
 (.cond (.t 92)
 .skip
 (.exit 4))
 (.seq
 (.block 5
 (.seq
 (.seq (.ops [⟨(some 93), (.ia 2 (.t 89) (.t 91)), none⟩,
 ⟨(some 94), (.ld 2 true (.t 93)), none⟩,
 ⟨(some 10), (.newL [(.slice none 0 0), (.int .i64 0)]), none⟩,
 ⟨none, (.stB 2 10 (.t 94)), none⟩])
 (.keep [4, 10, 89, 90, 91]))
 (.seq (.free true [⟨(some 95), (.mov (.t 4)), none⟩,
 ⟨(some 96), (.faB 0 10), none⟩,
 ⟨(some 97), (.ldE 1 false 10 96), none⟩,
 ⟨(some 98), (.ln (.t 97)), none⟩,
 ⟨(some 99), (.litL 1 1 [(.int .i64 0)] [(0, (.t 98))]), none⟩,
 ⟨(some 100), (.callL n_impl_vars 1 1 y_int 99), none⟩,
 ⟨(some 101), (.faB 0 10), none⟩,
 ⟨(some 102), (.ldE 1 false 10 101), none⟩,
 ⟨(some 103), (.call n_impl_vars [(.t 102)]), none⟩,
 ⟨(some 104), (.bin .add (.t 100) (.t 103)), none⟩,
 ⟨(some 105), (.faB 1 10), none⟩,
 ⟨(some 106), (.ldE 1 false 10 105), none⟩,
 ⟨(some 107), (.litL 1 1 [(.int .i64 0)] [(0, (.t 106))]), none⟩,
 ⟨(some 108), (.callL n_impl_vars 1 1 y_int 107), none⟩,
 ⟨(some 109), (.bin .add (.t 104) (.t 108)), none⟩,
 ⟨(some 110), (.bin .add (.t 95) (.t 109)), none⟩,
 ⟨(some 4), (.mov (.t 110)), none⟩])
 (.keep [4, 89, 90, 91]))))
 (.seq (.ops [⟨(some 111), (.bin .add (.t 91) (.c (.int .i64 1))), none⟩,
 ⟨(some 91), (.mov (.t 111)), none⟩])
 (.keep [4, 89, 90, 91]))))))))
 (.seq
 (.seq (.ops [⟨(some 112), (.mov (.t 4)), none⟩,
 ⟨(some 2), (.mov (.t 112)), none⟩,
 ⟨(some 3), (.mov (.c (.bool true))), none⟩])
 (.keep [2, 3]))
 .ret))))))))),
 [(.slot 2), (.slot 3)]⟩
/-- laws eqCert -/
def F_laws_eqCert : Fun := ⟨2,
 (.seq
 (.seq (.ops [⟨(some 2), (.boxL 5 (.t 0)), none⟩,
 ⟨(some 3), (.boxL 5 (.t 1)), none⟩,
 ⟨(some 4), (.mov (.c (.bool false))), none⟩])
 (.keep [2, 3]))
 (.seq
 (.seq
 (.seq (.ops [⟨(some 5), (.faB 0 2), none⟩,
 ⟨(some 6), (.ldE 2 true 2 5), none⟩,
 ⟨(some 7), (.faB 0 3), none⟩,
 ⟨(some 8), (.ldE 2 true 3 7), none⟩,
 ⟨(some 9), (.call n_laws_eqGraph [(.t 6), (.t 8)]), none⟩,
 ⟨(some 10), (.un .not (.t 9)), none⟩])
 (.keep [2, 3, 10]))
 (.cond (.t 10)
 (.seq
 (.seq (.ops [⟨(some 4), (.mov (.c (.bool false))), none⟩])
 (.keep [4]))
 .ret)
 .skip))
 (.seq
 (.seq
 (.seq (.ops [⟨(some 11), (.faB 2 2), none⟩,
 ⟨(some 12), (.ldE 1 false 2 11), none⟩,
 ⟨(some 13), (.faB 2 3), none⟩,
 ⟨(some 14), (.ldE 1 false 3 13), none⟩,
 ⟨(some 15), (.call n_laws_eqCoupleS [(.t 12), (.t 14)]), none⟩,
 ⟨(some 16), (.un .not (.t 15)), none⟩])
 (.keep [2, 3, 16]))
 (.cond (.t 16)
 (.seq
 (.seq (.ops [⟨(some 4), (.mov (.c (.bool false))), none⟩])
 (.keep [4]))
 .ret)
 .skip))
 (.seq
 (.seq
 (.seq (.ops [⟨(some 17), (.faB 3 2), none⟩,
 ⟨(some 18), (.ldE 2 true 2 17), none⟩,
 ⟨(some 19), (.faB 3 3), none⟩,
 ⟨(some 20), (.ldE 2 true 3 19), none⟩,
 ⟨(some 21), (.call n_laws_eqProof [(.t 18), (.t 20)]), none⟩,
 ⟨(some 22), (.un .not (.t 21)), none⟩])
 (.keep [22]))
 (.cond (.t 22)
 (.seq
 (.seq (.ops [⟨(some 4), (.mov (.c (.bool false))), none⟩])
 (.keep [4]))
 .ret)
 .skip))
 (.seq
 (.seq (.ops [⟨(some 4), (.mov (.c (.bool true))), none⟩])
 (.keep [4]))
 .ret))))),
 [(.slot 4)]⟩
/-- spec ReadCert -/
def F_spec_ReadCert : Fun := ⟨1,
 (.seq
 (.seq (.ops [⟨(some 2), (.newL [(.int .i64 0), (.slice none 0 0), (.slice none 0 0), (.slice none 0 0), (.slice none 0 0)]), none⟩,
 ⟨(some 3), (.mov (.c (.bool false))), none⟩])
 (.keep [0, 2]))
 (.seq
 (.seq (.ops [⟨(some 18), (.mov (.t 0)), none⟩,
 ⟨(some 19), (.bld [(.string ⟨⟨[]⟩⟩), (.int .i64 0), (.bool false)] [(0, (1, (.t 18)))]), none⟩,
 ⟨(some 20), (.bx y_l12Cur 3 (.t 19)), none⟩,
 ⟨(some 4), (.mov (.t 20)), none⟩])
 (.keep [0, 2, 4]))
 (.seq
 (.seq (.ops [⟨(some 21), (.bld [(.int .i64 0), (.slice none 0 0), (.slice none 0 0), (.slice none 0 0), (.slice none 0 0)] []), none⟩,
 ⟨(some 5), (.newL [(.int .i64 0), (.slice none 0 0), (.slice none 0 0), (.slice none 0 0), (.slice none 0 0)]), none⟩,
 ⟨none, (.stB 5 5 (.t 21)), none⟩])
 (.keep [0, 2, 4, 5]))
 (.seq
 (.seq (.ops [⟨(some 22), (.mov (.t 4)), none⟩,
 ⟨(some 23), (.call n_spec_l12Var [(.t 22)]), none⟩,
 ⟨(some 24), (.faB 0 5), none⟩,
 ⟨(some 25), (.faE 0 5 24), none⟩,
 ⟨none, (.stE 1 5 25 (.t 23)), none⟩])
 (.keep [0, 2, 4, 5]))
 (.seq
 (.seq (.ops [⟨(some 26), (.mov (.t 4)), none⟩,
 ⟨(some 27), (.call n_spec_l12Var [(.t 26)]), none⟩,
 ⟨(some 6), (.mov (.t 27)), none⟩])
 (.keep [0, 2, 4, 5, 6]))
 (.seq
 (.seq
 (.seq (.ops [⟨(some 7), (.mov (.c (.int .i64 0))), none⟩])
 (.keep [0, 2, 4, 5, 6, 7]))
 (.block 0
 (.loop
 (.seq
 (.seq
 (.seq (.ops [⟨(some 28), (.mov (.t 7)), none⟩,
 ⟨(some 29), (.mov (.t 6)), none⟩,
 ⟨(some 30), (.bin .lss (.t 28) (.t 29)), none⟩,
 ⟨(some 31), (.mov (.t 30)), none⟩,
 ⟨(some 32), (.mov (.t 4)), (some (31, true))⟩,
 ⟨(some 33), (.chk (.t 32)), (some (31, true))⟩,
 ⟨(some 34), (.fa 2 (.t 33)), (some (31, true))⟩,
 ⟨(some 35), (.ld 1 false (.t 34)), (some (31, true))⟩,
 ⟨(some 36), (.un .not (.t 35)), (some (31, true))⟩,
 ⟨(some 37), (.pick (.t 31) (.t 36) (.c (.bool false))), none⟩,
 ⟨(some 38), (.mov (.t 37)), none⟩,
 ⟨(some 39), (.mov (.t 7)), (some (38, true))⟩,
 ⟨(some 40), (.bin .lss (.t 39) (.c (.int .i64 100))), (some (38, true))⟩,
 ⟨(some 41), (.pick (.t 38) (.t 40) (.c (.bool false))), none⟩])
 (.keep [0, 2, 4, 5, 6, 7, 41]))
 (.cond (.t 41)
 .skip
 (.exit 0)))
 (.seq
 (.block 1
 (.seq
 (.seq (.ops [⟨(some 44), (.bld [(.int .i64 0), (.int .i64 0), (.int .i64 0), (.int .i64 0), (.int .i64 0)] []), none⟩,
 ⟨(some 8), (.newL [(.int .i64 0), (.int .i64 0), (.int .i64 0), (.int .i64 0), (.int .i64 0)]), none⟩,
 ⟨none, (.stB 5 8 (.t 44)), none⟩])
 (.keep [0, 2, 4, 5, 6, 7, 8]))
 (.seq
 (.seq (.ops [⟨(some 45), (.mov (.t 4)), none⟩,
 ⟨(some 46), (.call n_spec_l12Var [(.t 45)]), none⟩,
 ⟨(some 47), (.faB 0 8), none⟩,
 ⟨none, (.stE 1 8 47 (.t 46)), none⟩])
 (.keep [0, 2, 4, 5, 6, 7, 8]))
 (.seq
 (.seq (.ops [⟨(some 48), (.mov (.t 4)), none⟩,
 ⟨(some 49), (.call n_spec_l12Var [(.t 48)]), none⟩,
 ⟨(some 50), (.faB 1 8), none⟩,
 ⟨none, (.stE 1 8 50 (.t 49)), none⟩])
 (.keep [0, 2, 4, 5, 6, 7, 8]))
 (.seq
 (.seq (.ops [⟨(some 51), (.mov (.t 4)), none⟩,
 ⟨(some 52), (.call n_spec_l12Var [(.t 51)]), none⟩,
 ⟨(some 53), (.faB 2 8), none⟩,
 ⟨none, (.stE 1 8 53 (.t 52)), none⟩])
 (.keep [0, 2, 4, 5, 6, 7, 8]))
 (.seq
 (.seq (.ops [⟨(some 54), (.mov (.t 4)), none⟩,
 ⟨(some 55), (.call n_spec_l12Var [(.t 54)]), none⟩,
 ⟨(some 56), (.faB 3 8), none⟩,
 ⟨none, (.stE 1 8 56 (.t 55)), none⟩])
 (.keep [0, 2, 4, 5, 6, 7, 8]))
 (.seq
 (.seq (.ops [⟨(some 57), (.mov (.t 4)), none⟩,
 ⟨(some 58), (.call n_spec_l12Var [(.t 57)]), none⟩,
 ⟨(some 59), (.faB 4 8), none⟩,
 ⟨none, (.stE 1 8 59 (.t 58)), none⟩])
 (.keep [0, 2, 4, 5, 6, 7, 8]))
 (.seq (.ops [⟨(some 60), (.faB 0 5), none⟩,
 ⟨(some 61), (.faE 1 5 60), none⟩,
 ⟨(some 62), (.ldE 1 false 5 61), none⟩,
 ⟨(some 63), (.ldB 5 true 8), none⟩,
 ⟨(some 64), (.litL 1 5 [(.int .i64 0), (.int .i64 0), (.int .i64 0), (.int .i64 0), (.int .i64 0)] [(0, (.t 63))]), none⟩,
 ⟨(some 65), (.appL 5 y_Edge 40 1 (.t 62) 64), none⟩,
 ⟨(some 66), (.faB 0 5), none⟩,
 ⟨(some 67), (.faE 1 5 66), none⟩,
 ⟨none, (.stE 1 5 67 (.t 65)), none⟩])
 (.keep [0, 2, 4, 5, 6, 7])))))))))
 (.seq (.ops [⟨(some 42), (.mov (.t 7)), none⟩,
 ⟨(some 43), (.bin .add (.t 42) (.c (.int .i64 1))), none⟩,
 ⟨(some 7), (.mov (.t 43)), none⟩])
 (.keep [0, 2, 4, 5, 6, 7])))))))
 (.seq
 (.seq (.ops [⟨(some 68), (.mov (.t 4)), none⟩,
 ⟨(some 69), (.call n_spec_l12Var [(.t 68)]), none⟩,
 ⟨(some 6), (.mov (.t 69)), none⟩])
 (.keep [0, 2, 4, 5, 6]))
 (.seq
 (.seq
 (.seq (.ops [⟨(some 9), (.mov (.c (.int .i64 0))), none⟩])
 (.keep [0, 2, 4, 5, 6, 9]))
 (.block 2
 (.loop
 (.seq
 (.seq
 (.seq (.ops [⟨(some 70), (.mov (.t 9)), none⟩,
 ⟨(some 71), (.mov (.t 6)), none⟩,
 ⟨(some 72), (.bin .lss (.t 70) (.t 71)), none⟩,
 ⟨(some 73), (.mov (.t 72)), none⟩,
 ⟨(some 74), (.mov (.t 4)), (some (73, true))⟩,
 ⟨(some 75), (.chk (.t 74)), (some (73, true))⟩,
 ⟨(some 76), (.fa 2 (.t 75)), (some (73, true))⟩,
 ⟨(some 77), (.ld 1 false (.t 76)), (some (73, true))⟩,
 ⟨(some 78), (.un .not (.t 77)), (some (73, true))⟩,
 ⟨(some 79), (.pick (.t 73) (.t 78) (.c (.bool false))), none⟩,
 ⟨(some 80), (.mov (.t 79)), none⟩,
 ⟨(some 81), (.mov (.t 9)), (some (80, true))⟩,
 ⟨(some 82), (.bin .lss (.t 81) (.c (.int .i64 100))), (some (80, true))⟩,
 ⟨(some 83), (.pick (.t 80) (.t 82) (.c (.bool false))), none⟩])
 (.keep [0, 2, 4, 5, 6, 9, 83]))
 (.cond (.t 83)
 .skip
 (.exit 2)))
 (.seq
 (.block 3
 (.seq
 (.seq (.ops [⟨(some 86), (.bld [(.int .i64 0), (.int .i64 0)] []), none⟩,
 ⟨(some 10), (.newL [(.int .i64 0), (.int .i64 0)]), none⟩,
 ⟨none, (.stB 2 10 (.t 86)), none⟩])
 (.keep [0, 2, 4, 5, 6, 9, 10]))
 (.seq
 (.seq (.ops [⟨(some 87), (.mov (.t 4)), none⟩,
 ⟨(some 88), (.call n_spec_l12Var [(.t 87)]), none⟩,
 ⟨(some 89), (.faB 0 10), none⟩,
 ⟨none, (.stE 1 10 89 (.t 88)), none⟩])
 (.keep [0, 2, 4, 5, 6, 9, 10]))
 (.seq
 (.seq (.ops [⟨(some 90), (.mov (.t 4)), none⟩,
 ⟨(some 91), (.call n_spec_l12Var [(.t 90)]), none⟩,
 ⟨(some 92), (.faB 1 10), none⟩,
 ⟨none, (.stE 1 10 92 (.t 91)), none⟩])
 (.keep [0, 2, 4, 5, 6, 9, 10]))
 (.seq (.ops [⟨(some 93), (.faB 2 5), none⟩,
 ⟨(some 94), (.ldE 1 false 5 93), none⟩,
 ⟨(some 95), (.ldB 2 true 10), none⟩,
 ⟨(some 96), (.litL 1 2 [(.int .i64 0), (.int .i64 0)] [(0, (.t 95))]), none⟩,
 ⟨(some 97), (.appL 2 y_Couple 16 1 (.t 94) 96), none⟩,
 ⟨(some 98), (.faB 2 5), none⟩,
 ⟨none, (.stE 1 5 98 (.t 97)), none⟩])
 (.keep [0, 2, 4, 5, 6, 9]))))))
 (.seq (.ops [⟨(some 84), (.mov (.t 9)), none⟩,
 ⟨(some 85), (.bin .add (.t 84) (.c (.int .i64 1))), none⟩,
 ⟨(some 9), (.mov (.t 85)), none⟩])
 (.keep [0, 2, 4, 5, 6, 9])))))))
 (.seq
 (.seq
 (.seq (.ops [⟨(some 11), (.mov (.c (.int .i64 0))), none⟩])
 (.keep [0, 2, 4, 5, 11]))
 (.block 4
 (.loop
 (.seq
 (.seq
 (.seq (.ops [⟨(some 99), (.mov (.t 11)), none⟩,
 ⟨(some 100), (.faB 0 5), none⟩,
 ⟨(some 101), (.faE 0 5 100), none⟩,
 ⟨(some 102), (.ldE 1 false 5 101), none⟩,
 ⟨(some 103), (.bin .lss (.t 99) (.t 102)), none⟩,
 ⟨(some 104), (.mov (.t 103)), none⟩,
 ⟨(some 105), (.mov (.t 4)), (some (104, true))⟩,
 ⟨(some 106), (.chk (.t 105)), (some (104, true))⟩,
 ⟨(some 107), (.fa 2 (.t 106)), (some (104, true))⟩,
 ⟨(some 108), (.ld 1 false (.t 107)), (some (104, true))⟩,
 ⟨(some 109), (.un .not (.t 108)), (some (104, true))⟩,
 ⟨(some 110), (.pick (.t 104) (.t 109) (.c (.bool false))), none⟩,
 ⟨(some 111), (.mov (.t 110)), none⟩,
 ⟨(some 112), (.mov (.t 11)), (some (111, true))⟩,
 ⟨(some 113), (.bin .lss (.t 112) (.c (.int .i64 100))), (some (111, true))⟩,
 ⟨(some 114), (.pick (.t 111) (.t 113) (.c (.bool false))), none⟩])
 (.keep [0, 2, 4, 5, 11, 114]))
 (.cond (.t 114)
 .skip
 (.exit 4)))
 (.seq
 (.block 5
 (.seq (.free true [⟨(some 117), (.faB 3 5), none⟩,
 ⟨(some 118), (.faE 0 5 117), none⟩,
 ⟨(some 119), (.ldE 1 false 5 118), none⟩,
 ⟨(some 120), (.mov (.t 4)), none⟩,
 ⟨(some 121), (.call n_spec_l12Var [(.t 120)]), none⟩,
 ⟨(some 122), (.litL 1 1 [(.int .i64 0)] [(0, (.t 121))]), none⟩,
 ⟨(some 123), (.appL 1 y_int 8 1 (.t 119) 122), none⟩,
 ⟨(some 124), (.faB 3 5), none⟩,
 ⟨(some 125), (.faE 0 5 124), none⟩,
 ⟨none, (.stE 1 5 125 (.t 123)), none⟩])
 (.keep [0, 2, 4, 5, 11])))
 (.seq (.ops [⟨(some 115), (.mov (.t 11)), none⟩,
 ⟨(some 116), (.bin .add (.t 115) (.c (.int .i64 1))), none⟩,
 ⟨(some 11), (.mov (.t 116)), none⟩])
 (.keep [0, 2, 4, 5, 11])))))))
 (.seq
 (.seq (.ops [⟨(some 126), (.mov (.t 4)), none⟩,
 ⟨(some 127), (.call n_spec_l12Var [(.t 126)]), none⟩,
 ⟨(some 6), (.mov (.t 127)), none⟩])
 (.keep [0, 2, 4, 5, 6]))
 (.seq
 (.seq
 (.seq (.ops [⟨(some 12), (.mov (.c (.int .i64 0))), none⟩])
 (.keep [0, 2, 4, 5, 6, 12]))
 (.block 6
 (.loop
 (.seq
 (.seq
 (.seq (.ops [⟨(some 128), (.mov (.t 12)), none⟩,
 ⟨(some 129), (.mov (.t 6)), none⟩,
 ⟨(some 130), (.bin .lss (.t 128) (.t 129)), none⟩,
 ⟨(some 131), (.mov (.t 130)), none⟩,
 ⟨(some 132), (.mov (.t 4)), (some (131, true))⟩,
 ⟨(some 133), (.chk (.t 132)), (some (131, true))⟩,
 ⟨(some 134), (.fa 2 (.t 133)), (some (131, true))⟩,
 ⟨(some 135), (.ld 1 false (.t 134)), (some (131, true))⟩,
 ⟨(some 136), (.un .not (.t 135)), (some (131, true))⟩,
 ⟨(some 137), (.pick (.t 131) (.t 136) (.c (.bool false))), none⟩,
 ⟨(some 138), (.mov (.t 137)), none⟩,
 ⟨(some 139), (.mov (.t 12)), (some (138, true))⟩,
 ⟨(some 140), (.bin .lss (.t 139) (.c (.int .i64 100))), (some (138, true))⟩,
 ⟨(some 141), (.pick (.t 138) (.t 140) (.c (.bool false))), none⟩])
 (.keep [0, 2, 4, 5, 6, 12, 141]))
 (.cond (.t 141)
 .skip
 (.exit 6)))
 (.seq
 (.block 7
 (.seq
 (.seq (.ops [⟨(some 144), (.bld [(.slice none 0 0), (.int .i64 0)] []), none⟩,
 ⟨(some 13), (.newL [(.slice none 0 0), (.int .i64 0)]), none⟩,
 ⟨none, (.stB 2 13 (.t 144)), none⟩])
 (.keep [0, 2, 4, 5, 6, 12, 13]))
 (.seq
 (.seq (.ops [⟨(some 145), (.mov (.t 4)), none⟩,
 ⟨(some 146), (.call n_spec_l12Var [(.t 145)]), none⟩,
 ⟨(some 14), (.mov (.t 146)), none⟩])
 (.keep [0, 2, 4, 5, 6, 12, 13, 14]))
 (.seq
 (.seq
 (.seq (.ops [⟨(some 15), (.mov (.c (.int .i64 0))), none⟩])
 (.keep [0, 2, 4, 5, 6, 12, 13, 14, 15]))
 (.block 8
 (.loop
 (.seq
 (.seq
 (.seq (.ops [⟨(some 147), (.mov (.t 15)), none⟩,
 ⟨(some 148), (.mov (.t 14)), none⟩,
 ⟨(some 149), (.bin .lss (.t 147) (.t 148)), none⟩,
 ⟨(some 150), (.mov (.t 149)), none⟩,
 ⟨(some 151), (.mov (.t 4)), (some (150, true))⟩,
 ⟨(some 152), (.chk (.t 151)), (some (150, true))⟩,
 ⟨(some 153), (.fa 2 (.t 152)), (some (150, true))⟩,
 ⟨(some 154), (.ld 1 false (.t 153)), (some (150, true))⟩,
 ⟨(some 155), (.un .not (.t 154)), (some (150, true))⟩,
 ⟨(some 156), (.pick (.t 150) (.t 155) (.c (.bool false))), none⟩,
 ⟨(some 157), (.mov (.t 156)), none⟩,
 ⟨(some 158), (.mov (.t 15)), (some (157, true))⟩,
 ⟨(some 159), (.bin .lss (.t 158) (.c (.int .i64 100))), (some (157, true))⟩,
 ⟨(some 160), (.pick (.t 157) (.t 159) (.c (.bool false))), none⟩])
 (.keep [0, 2, 4, 5, 6, 12, 13, 14, 15, 160]))
 (.cond (.t 160)
 .skip
 (.exit 8)))
 (.seq
 (.block 9
 (.seq (.free true [⟨(some 163), (.faB 0 13), none⟩,
 ⟨(some 164), (.ldE 1 false 13 163), none⟩,
 ⟨(some 165), (.mov (.t 4)), none⟩,
 ⟨(some 166), (.call n_spec_l12Var [(.t 165)]), none⟩,
 ⟨(some 167), (.litL 1 1 [(.int .i64 0)] [(0, (.t 166))]), none⟩,
 ⟨(some 168), (.appL 1 y_int 8 1 (.t 164) 167), none⟩,
 ⟨(some 169), (.faB 0 13), none⟩,
 ⟨none, (.stE 1 13 169 (.t 168)), none⟩])
 (.keep [0, 2, 4, 5, 6, 12, 13, 14, 15])))
 (.seq (.ops [⟨(some 161), (.mov (.t 15)), none⟩,
 ⟨(some 162), (.bin .add (.t 161) (.c (.int .i64 1))), none⟩,
 ⟨(some 15), (.mov (.t 162)), none⟩])
 (.keep [0, 2, 4, 5, 6, 12, 13, 14, 15])))))))
 (.seq
 (.seq (.ops [⟨(some 170), (.mov (.t 4)), none⟩,
 ⟨(some 171), (.call n_spec_l12Var [(.t 170)]), none⟩,
 ⟨(some 172), (.faB 1 13), none⟩,
 ⟨none, (.stE 1 13 172 (.t 171)), none⟩])
 (.keep [0, 2, 4, 5, 6, 12, 13]))
 (.seq (.ops [⟨(some 173), (.faB 3 5), none⟩,
 ⟨(some 174), (.faE 1 5 173), none⟩,
 ⟨(some 175), (.ldE 1 false 5 174), none⟩,
 ⟨(some 176), (.ldB 2 true 13), none⟩,
 ⟨(some 177), (.litL 1 2 [(.slice none 0 0), (.int .i64 0)] [(0, (.t 176))]), none⟩,
 ⟨(some 178), (.appL 2 y_Group 32 1 (.t 175) 177), none⟩,
 ⟨(some 179), (.faB 3 5), none⟩,
 ⟨(some 180), (.faE 1 5 179), none⟩,
 ⟨none, (.stE 1 5 180 (.t 178)), none⟩])
 (.keep [0, 2, 4, 5, 6, 12])))))))
 (.seq (.ops [⟨(some 142), (.mov (.t 12)), none⟩,
 ⟨(some 143), (.bin .add (.t 142) (.c (.int .i64 1))), none⟩,
 ⟨(some 12), (.mov (.t 143)), none⟩])
 (.keep [0, 2, 4, 5, 6, 12])))))))
 (.seq
 (.seq (.ops [⟨(some 182), (.ldB 5 true 5), none⟩,
 ⟨(some 183), (.call n_spec_CertText [(.t 182)]), none⟩,
 ⟨(some 181), (.mov (.t 183)), none⟩,
 ⟨(some 184), (.ext 0 (.t 181)), none⟩,
 ⟨(some 185), (.ext 1 (.t 181)), none⟩,
 ⟨(some 16), (.mov (.t 184)), none⟩,
 ⟨(some 17), (.mov (.t 185)), none⟩])
 (.keep [0, 2, 4, 5, 16, 17]))
 (.seq
 (.seq
 (.seq (.ops [⟨(some 186), (.mov (.t 4)), none⟩,
 ⟨(some 187), (.chk (.t 186)), none⟩,
 ⟨(some 188), (.fa 2 (.t 187)), none⟩,
 ⟨(some 189), (.ld 1 false (.t 188)), none⟩,
 ⟨(some 190), (.mov (.t 189)), none⟩,
 ⟨(some 191), (.mov (.t 17)), (some (190, false))⟩,
 ⟨(some 192), (.un .not (.t 191)), (some (190, false))⟩,
 ⟨(some 193), (.pick (.t 190) (.c (.bool true)) (.t 192)), none⟩,
 ⟨(some 194), (.mov (.t 193)), none⟩,
 ⟨(some 195), (.mov (.t 16)), (some (194, false))⟩,
 ⟨(some 196), (.mov (.t 0)), (some (194, false))⟩,
 ⟨(some 197), (.bin .neq (.t 195) (.t 196)), (some (194, false))⟩,
 ⟨(some 198), (.pick (.t 194) (.c (.bool true)) (.t 197)), none⟩])
 (.keep [2, 5, 198]))
 (.cond (.t 198)
 (.seq
 (.seq (.ops [⟨(some 199), (.bld [(.int .i64 0), (.slice none 0 0), (.slice none 0 0), (.slice none 0 0), (.slice none 0 0)] []), none⟩,
 ⟨none, (.stB 5 2 (.t 199)), none⟩,
 ⟨(some 3), (.mov (.c (.bool false))), none⟩])
 (.keep [2, 3]))
 .ret)
 .skip))
 (.seq
 (.seq (.ops [⟨(some 200), (.ldB 5 true 5), none⟩,
 ⟨none, (.stB 5 2 (.t 200)), none⟩,
 ⟨(some 3), (.mov (.c (.bool true))), none⟩])
 (.keep [2, 3]))
 .ret)))))))))))))),
 [(.box 2 5 true), (.slot 3)]⟩
/-- impl ReadCert -/
def F_impl_ReadCert : Fun := ⟨1,
 (.seq
 (.seq (.ops [⟨(some 2), (.newL [(.int .i64 0), (.slice none 0 0), (.slice none 0 0), (.slice none 0 0), (.slice none 0 0)]), none⟩,
 ⟨(some 3), (.mov (.c (.bool false))), none⟩])
 (.keep [0, 2]))
 (.seq
 (.seq (.ops [⟨(some 12), (.mov (.t 0)), none⟩,
 ⟨(some 13), (.bld [(.string ⟨⟨[]⟩⟩), (.int .i64 0), (.bool false)] [(0, (1, (.t 12)))]), none⟩,
 ⟨(some 14), (.bx y_reader 3 (.t 13)), none⟩,
 ⟨(some 4), (.mov (.t 14)), none⟩])
 (.keep [2, 4]))
 (.seq
 (.seq (.ops [⟨(some 5), (.newL [(.int .i64 0), (.slice none 0 0), (.slice none 0 0), (.slice none 0 0), (.slice none 0 0)]), none⟩])
 (.keep [2, 4, 5]))
 (.seq
 (.seq (.ops [⟨(some 15), (.mov (.t 4)), none⟩,
 ⟨(some 16), (.call n_impl_reader_num [(.t 15)]), none⟩,
 ⟨(some 17), (.faB 0 5), none⟩,
 ⟨(some 18), (.faE 0 5 17), none⟩,
 ⟨none, (.stE 1 5 18 (.t 16)), none⟩])
 (.keep [2, 4, 5]))
 (.seq
 (.seq (.ops [⟨(some 19), (.mov (.t 4)), none⟩,
 ⟨(some 20), (.call n_impl_reader_num [(.t 19)]), none⟩,
 ⟨(some 6), (.mov (.t 20)), none⟩])
 (.keep [2, 4, 5, 6]))
 (.seq
 (.block 0
 (.loop
 (.seq
 (.seq
 (.seq (.ops [⟨(some 21), (.mov (.t 6)), none⟩,
 ⟨(some 22), (.bin .gtr (.t 21) (.c (.int .i64 0))), none⟩,
 ⟨(some 23), (.mov (.t 22)), none⟩,
 ⟨(some 24), (.mov (.t 4)), (some (23, true))⟩,
 ⟨(some 25), (.chk (.t 24)), (some (23, true))⟩,
 ⟨(some 26), (.fa 2 (.t 25)), (some (23, true))⟩,
 ⟨(some 27), (.ld 1 false (.t 26)), (some (23, true))⟩,
 ⟨(some 28), (.un .not (.t 27)), (some (23, true))⟩,
 ⟨(some 29), (.pick (.t 23) (.t 28) (.c (.bool false))), none⟩])
 (.keep [2, 4, 5, 6, 29]))
 (.cond (.t 29)
 .skip
 (.exit 0)))
 (.seq
 (.block 1
 (.seq
 (.seq (.ops [⟨(some 7), (.newL [(.int .i64 0), (.int .i64 0), (.int .i64 0), (.int .i64 0), (.int .i64 0)]), none⟩])
 (.keep [2, 4, 5, 6, 7]))
 (.seq
 (.seq (.ops [⟨(some 32), (.mov (.t 4)), none⟩,
 ⟨(some 33), (.call n_impl_reader_num [(.t 32)]), none⟩,
 ⟨(some 34), (.faB 0 7), none⟩,
 ⟨none, (.stE 1 7 34 (.t 33)), none⟩])
 (.keep [2, 4, 5, 6, 7]))
 (.seq
 (.seq (.ops [⟨(some 35), (.mov (.t 4)), none⟩,
 ⟨(some 36), (.call n_impl_reader_num [(.t 35)]), none⟩,
 ⟨(some 37), (.faB 1 7), none⟩,
 ⟨none, (.stE 1 7 37 (.t 36)), none⟩])
 (.keep [2, 4, 5, 6, 7]))
 (.seq
 (.seq (.ops [⟨(some 38), (.mov (.t 4)), none⟩,
 ⟨(some 39), (.call n_impl_reader_num [(.t 38)]), none⟩,
 ⟨(some 40), (.faB 2 7), none⟩,
 ⟨none, (.stE 1 7 40 (.t 39)), none⟩])
 (.keep [2, 4, 5, 6, 7]))
 (.seq
 (.seq (.ops [⟨(some 41), (.mov (.t 4)), none⟩,
 ⟨(some 42), (.call n_impl_reader_num [(.t 41)]), none⟩,
 ⟨(some 43), (.faB 3 7), none⟩,
 ⟨none, (.stE 1 7 43 (.t 42)), none⟩])
 (.keep [2, 4, 5, 6, 7]))
 (.seq
 (.seq (.ops [⟨(some 44), (.mov (.t 4)), none⟩,
 ⟨(some 45), (.call n_impl_reader_num [(.t 44)]), none⟩,
 ⟨(some 46), (.faB 4 7), none⟩,
 ⟨none, (.stE 1 7 46 (.t 45)), none⟩])
 (.keep [2, 4, 5, 6, 7]))
 (.seq (.ops [⟨(some 47), (.faB 0 5), none⟩,
 ⟨(some 48), (.faE 1 5 47), none⟩,
 ⟨(some 49), (.ldE 1 false 5 48), none⟩,
 ⟨(some 50), (.ldB 5 true 7), none⟩,
 ⟨(some 51), (.litL 1 5 [(.int .i64 0), (.int .i64 0), (.int .i64 0), (.int .i64 0), (.int .i64 0)] [(0, (.t 50))]), none⟩,
 ⟨(some 52), (.appL 5 y_Edge 40 1 (.t 49) 51), none⟩,
 ⟨(some 53), (.faB 0 5), none⟩,
 ⟨(some 54), (.faE 1 5 53), none⟩,
 ⟨none, (.stE 1 5 54 (.t 52)), none⟩])
 (.keep [2, 4, 5, 6])))))))))
 (.seq (.ops [⟨(some 30), (.mov (.t 6)), none⟩,
 ⟨(some 31), (.bin .sub (.t 30) (.c (.int .i64 1))), none⟩,
 ⟨(some 6), (.mov (.t 31)), none⟩])
 (.keep [2, 4, 5, 6]))))))
 (.seq
 (.seq (.ops [⟨(some 55), (.mov (.t 4)), none⟩,
 ⟨(some 56), (.call n_impl_reader_num [(.t 55)]), none⟩,
 ⟨(some 6), (.mov (.t 56)), none⟩])
 (.keep [2, 4, 5, 6]))
 (.seq
 (.block 2
 (.loop
 (.seq
 (.seq
 (.seq (.ops [⟨(some 57), (.mov (.t 6)), none⟩,
 ⟨(some 58), (.bin .gtr (.t 57) (.c (.int .i64 0))), none⟩,
 ⟨(some 59), (.mov (.t 58)), none⟩,
 ⟨(some 60), (.mov (.t 4)), (some (59, true))⟩,
 ⟨(some 61), (.chk (.t 60)), (some (59, true))⟩,
 ⟨(some 62), (.fa 2 (.t 61)), (some (59, true))⟩,
 ⟨(some 63), (.ld 1 false (.t 62)), (some (59, true))⟩,
 ⟨(some 64), (.un .not (.t 63)), (some (59, true))⟩,
 ⟨(some 65), (.pick (.t 59) (.t 64) (.c (.bool false))), none⟩])
 (.keep [2, 4, 5, 6, 65]))
 (.cond (.t 65)
 .skip
 (.exit 2)))
 (.seq
 (.block 3
 (.seq
 (.seq (.ops [⟨(some 8), (.newL [(.int .i64 0), (.int .i64 0)]), none⟩])
 (.keep [2, 4, 5, 6, 8]))
 (.seq
 (.seq (.ops [⟨(some 68), (.mov (.t 4)), none⟩,
 ⟨(some 69), (.call n_impl_reader_num [(.t 68)]), none⟩,
 ⟨(some 70), (.faB 0 8), none⟩,
 ⟨none, (.stE 1 8 70 (.t 69)), none⟩])
 (.keep [2, 4, 5, 6, 8]))
 (.seq
 (.seq (.ops [⟨(some 71), (.mov (.t 4)), none⟩,
 ⟨(some 72), (.call n_impl_reader_num [(.t 71)]), none⟩,
 ⟨(some 73), (.faB 1 8), none⟩,
 ⟨none, (.stE 1 8 73 (.t 72)), none⟩])
 (.keep [2, 4, 5, 6, 8]))
 (.seq (.ops [⟨(some 74), (.faB 2 5), none⟩,
 ⟨(some 75), (.ldE 1 false 5 74), none⟩,
 ⟨(some 76), (.ldB 2 true 8), none⟩,
 ⟨(some 77), (.litL 1 2 [(.int .i64 0), (.int .i64 0)] [(0, (.t 76))]), none⟩,
 ⟨(some 78), (.appL 2 y_Couple 16 1 (.t 75) 77), none⟩,
 ⟨(some 79), (.faB 2 5), none⟩,
 ⟨none, (.stE 1 5 79 (.t 78)), none⟩])
 (.keep [2, 4, 5, 6]))))))
 (.seq (.ops [⟨(some 66), (.mov (.t 6)), none⟩,
 ⟨(some 67), (.bin .sub (.t 66) (.c (.int .i64 1))), none⟩,
 ⟨(some 6), (.mov (.t 67)), none⟩])
 (.keep [2, 4, 5, 6]))))))
 (.seq
 (.seq
 (.seq (.ops [⟨(some 80), (.faB 0 5), none⟩,
 ⟨(some 81), (.faE 0 5 80), none⟩,
 ⟨(some 82), (.ldE 1 false 5 81), none⟩,
 ⟨(some 9), (.mov (.t 82)), none⟩])
 (.keep [2, 4, 5, 9]))
 (.block 4
 (.loop
 (.seq
 (.seq
 (.seq (.ops [⟨(some 83), (.mov (.t 9)), none⟩,
 ⟨(some 84), (.bin .gtr (.t 83) (.c (.int .i64 0))), none⟩,
 ⟨(some 85), (.mov (.t 84)), none⟩,
 ⟨(some 86), (.mov (.t 4)), (some (85, true))⟩,
 ⟨(some 87), (.chk (.t 86)), (some (85, true))⟩,
 ⟨(some 88), (.fa 2 (.t 87)), (some (85, true))⟩,
 ⟨(some 89), (.ld 1 false (.t 88)), (some (85, true))⟩,
 ⟨(some 90), (.un .not (.t 89)), (some (85, true))⟩,
 ⟨(some 91), (.pick (.t 85) (.t 90) (.c (.bool false))), none⟩])
 (.keep [2, 4, 5, 9, 91]))
 (.cond (.t 91)
 .skip
 (.exit 4)))
 (.seq
 (.block 5
 (.seq
 (.seq (.ops [⟨(some 94), (.mov (.t 4)), none⟩,
 ⟨(some 95), (.call n_impl_reader_num [(.t 94)]), none⟩,
 ⟨(some 10), (.mov (.t 95)), none⟩])
 (.keep [2, 4, 5, 9, 10]))
 (.seq (.ops [⟨(some 96), (.faB 3 5), none⟩,
 ⟨(some 97), (.faE 0 5 96), none⟩,
 ⟨(some 98), (.ldE 1 false 5 97), none⟩,
 ⟨(some 99), (.mov (.t 10)), none⟩,
 ⟨(some 100), (.litL 1 1 [(.int .i64 0)] [(0, (.t 99))]), none⟩,
 ⟨(some 101), (.appL 1 y_int 8 1 (.t 98) 100), none⟩,
 ⟨(some 102), (.faB 3 5), none⟩,
 ⟨(some 103), (.faE 0 5 102), none⟩,
 ⟨none, (.stE 1 5 103 (.t 101)), none⟩])
 (.keep [2, 4, 5, 9]))))
 (.seq (.ops [⟨(some 92), (.mov (.t 9)), none⟩,
 ⟨(some 93), (.bin .sub (.t 92) (.c (.int .i64 1))), none⟩,
 ⟨(some 9), (.mov (.t 93)), none⟩])
 (.keep [2, 4, 5, 9])))))))
 (.seq
 (.seq (.ops [⟨(some 104), (.mov (.t 4)), none⟩,
 ⟨(some 105), (.call n_impl_reader_num [(.t 104)]), none⟩,
 ⟨(some 6), (.mov (.t 105)), none⟩])
 (.keep [2, 4, 5, 6]))
 (.seq
 (.block 6
 (.loop
 (.seq
 (.seq
 (.seq (.ops [⟨(some 106), (.mov (.t 6)), none⟩,
 ⟨(some 107), (.bin .gtr (.t 106) (.c (.int .i64 0))), none⟩,
 ⟨(some 108), (.mov (.t 107)), none⟩,
 ⟨(some 109), (.mov (.t 4)), (some (108, true))⟩,
 ⟨(some 110), (.chk (.t 109)), (some (108, true))⟩,
 ⟨(some 111), (.fa 2 (.t 110)), (some (108, true))⟩,
 ⟨(some 112), (.ld 1 false (.t 111)), (some (108, true))⟩,
 ⟨(some 113), (.un .not (.t 112)), (some (108, true))⟩,
 ⟨(some 114), (.pick (.t 108) (.t 113) (.c (.bool false))), none⟩])
 (.keep [2, 4, 5, 6, 114]))
 (.cond (.t 114)
 .skip
 (.exit 6)))
 (.seq
 (.block 7
 (.seq
 (.seq (.ops [⟨(some 117), (.mov (.t 4)), none⟩,
 ⟨(some 118), (.call n_impl_reader_group [(.t 117)]), none⟩,
 ⟨(some 11), (.newL [(.slice none 0 0), (.int .i64 0)]), none⟩,
 ⟨none, (.stB 2 11 (.t 118)), none⟩])
 (.keep [2, 4, 5, 6, 11]))
 (.seq (.ops [⟨(some 119), (.faB 3 5), none⟩,
 ⟨(some 120), (.faE 1 5 119), none⟩,
 ⟨(some 121), (.ldE 1 false 5 120), none⟩,
 ⟨(some 122), (.ldB 2 true 11), none⟩,
 ⟨(some 123), (.litL 1 2 [(.slice none 0 0), (.int .i64 0)] [(0, (.t 122))]), none⟩,
 ⟨(some 124), (.appL 2 y_Group 32 1 (.t 121) 123), none⟩,
 ⟨(some 125), (.faB 3 5), none⟩,
 ⟨(some 126), (.faE 1 5 125), none⟩,
 ⟨none, (.stE 1 5 126 (.t 124)), none⟩])
 (.keep [2, 4, 5, 6]))))
 (.seq (.ops [⟨(some 115), (.mov (.t 6)), none⟩,
 ⟨(some 116), (.bin .sub (.t 115) (.c (.int .i64 1))), none⟩,
 ⟨(some 6), (.mov (.t 116)), none⟩])
 (.keep [2, 4, 5, 6]))))))
 (.seq
 (.seq
 (.seq (.ops [⟨(some 127), (.mov (.t 4)), none⟩,
 ⟨(some 128), (.call n_impl_reader_ends [(.t 127)]), none⟩,
 ⟨(some 129), (.un .not (.t 128)), none⟩,
 ⟨(some 130), (.mov (.t 129)), none⟩,
 ⟨(some 131), (.faB 0 5), (some (130, false))⟩,
 ⟨(some 132), (.ldE 2 true 5 131), (some (130, false))⟩,
 ⟨(some 133), (.faB 2 5), (some (130, false))⟩,
 ⟨(some 134), (.ldE 1 false 5 133), (some (130, false))⟩,
 ⟨(some 135), (.faB 3 5), (some (130, false))⟩,
 ⟨(some 136), (.ldE 2 true 5 135), (some (130, false))⟩,
 ⟨(some 137), (.call n_impl_Certifies [(.t 132), (.t 134), (.t 136)]), (some (130, false))⟩,
 ⟨(some 138), (.un .not (.t 137)), (some (130, false))⟩,
 ⟨(some 139), (.pick (.t 130) (.c (.bool true)) (.t 138)), none⟩])
 (.keep [2, 5, 139]))
 (.cond (.t 139)
 (.seq
 (.seq (.ops [⟨(some 140), (.bld [(.int .i64 0), (.slice none 0 0), (.slice none 0 0), (.slice none 0 0), (.slice none 0 0)] []), none⟩,
 ⟨none, (.stB 5 2 (.t 140)), none⟩,
 ⟨(some 3), (.mov (.c (.bool false))), none⟩])
 (.keep [2, 3]))
 .ret)
 .skip))
 (.seq
 (.seq (.ops [⟨(some 141), (.ldB 5 true 5), none⟩,
 ⟨none, (.stB 5 2 (.t 141)), none⟩,
 ⟨(some 3), (.mov (.c (.bool true))), none⟩])
 (.keep [2, 3]))
 .ret))))))))))))),
 [(.box 2 5 true), (.slot 3)]⟩
/-- laws markCert -/
def F_laws_markCert : Fun := ⟨2,
 (.seq
 (.seq (.ops [⟨(some 2), (.boxL 5 (.t 0)), none⟩,
 ⟨(some 4), (.mov (.c (.int .i64 0))), none⟩])
 (.keep [1, 2]))
 (.seq
 (.seq (.ops [⟨(some 5), (.faB 0 2), none⟩,
 ⟨(some 6), (.ldE 2 true 2 5), none⟩,
 ⟨(some 7), (.mov (.t 1)), none⟩,
 ⟨(some 8), (.call n_laws_markGraph [(.t 6), (.t 7)]), none⟩,
 ⟨(some 1), (.mov (.t 8)), none⟩])
 (.keep [1, 2]))
 (.seq
 (.seq (.ops [⟨(some 9), (.faB 2 2), none⟩,
 ⟨(some 10), (.ldE 1 false 2 9), none⟩,
 ⟨(some 11), (.mov (.t 1)), none⟩,
 ⟨(some 12), (.call n_laws_markCoupleS [(.t 10), (.t 11)]), none⟩,
 ⟨(some 1), (.mov (.t 12)), none⟩])
 (.keep [1, 2]))
 (.seq
 (.seq (.ops [⟨(some 13), (.faB 3 2), none⟩,
 ⟨(some 14), (.ldE 2 true 2 13), none⟩,
 ⟨(some 15), (.mov (.t 1)), none⟩,
 ⟨(some 16), (.call n_laws_markProof [(.t 14), (.t 15)]), none⟩,
 ⟨(some 1), (.mov (.t 16)), none⟩])
 (.keep [1]))
 (.seq
 (.seq (.ops [⟨(some 17), (.mov (.t 1)), none⟩,
 ⟨(some 4), (.mov (.t 17)), none⟩])
 (.keep [4]))
 .ret))))),
 [(.slot 4)]⟩
/-- laws heldCert -/
def F_laws_heldCert : Fun := ⟨2,
 (.seq
 (.seq (.ops [⟨(some 2), (.boxL 5 (.t 0)), none⟩,
 ⟨(some 4), (.mov (.c (.int .i64 0))), none⟩])
 (.keep [1, 2]))
 (.seq
 (.seq (.ops [⟨(some 5), (.faB 0 2), none⟩,
 ⟨(some 6), (.ldE 2 true 2 5), none⟩,
 ⟨(some 7), (.mov (.t 1)), none⟩,
 ⟨(some 8), (.call n_laws_heldGraph [(.t 6), (.t 7)]), none⟩,
 ⟨(some 1), (.mov (.t 8)), none⟩])
 (.keep [1, 2]))
 (.seq
 (.seq
 (.seq (.ops [⟨(some 9), (.mov (.t 1)), none⟩,
 ⟨(some 10), (.bin .lss (.t 9) (.c (.int .i64 0))), none⟩])
 (.keep [1, 2, 10]))
 (.cond (.t 10)
 (.seq
 (.seq (.ops [⟨(some 4), (.mov (.c (.int .i64 (-1)))), none⟩])
 (.keep [4]))
 .ret)
 .skip))
 (.seq
 (.seq (.ops [⟨(some 11), (.faB 2 2), none⟩,
 ⟨(some 12), (.ldE 1 false 2 11), none⟩,
 ⟨(some 13), (.mov (.t 1)), none⟩,
 ⟨(some 14), (.call n_laws_heldCoupleS [(.t 12), (.t 13)]), none⟩,
 ⟨(some 1), (.mov (.t 14)), none⟩])
 (.keep [1, 2]))
 (.seq
 (.seq
 (.seq (.ops [⟨(some 15), (.mov (.t 1)), none⟩,
 ⟨(some 16), (.bin .lss (.t 15) (.c (.int .i64 0))), none⟩])
 (.keep [1, 2, 16]))
 (.cond (.t 16)
 (.seq
 (.seq (.ops [⟨(some 4), (.mov (.c (.int .i64 (-1)))), none⟩])
 (.keep [4]))
 .ret)
 .skip))
 (.seq
 (.seq (.ops [⟨(some 17), (.faB 3 2), none⟩,
 ⟨(some 18), (.ldE 2 true 2 17), none⟩,
 ⟨(some 19), (.mov (.t 1)), none⟩,
 ⟨(some 20), (.call n_laws_heldProof [(.t 18), (.t 19)]), none⟩,
 ⟨(some 1), (.mov (.t 20)), none⟩])
 (.keep [1]))
 (.seq
 (.seq
 (.seq (.ops [⟨(some 21), (.mov (.t 1)), none⟩,
 ⟨(some 22), (.bin .lss (.t 21) (.c (.int .i64 0))), none⟩])
 (.keep [1, 22]))
 (.cond (.t 22)
 (.seq
 (.seq (.ops [⟨(some 4), (.mov (.c (.int .i64 (-1)))), none⟩])
 (.keep [4]))
 .ret)
 .skip))
 (.seq
 (.seq (.ops [⟨(some 23), (.mov (.t 1)), none⟩,
 ⟨(some 4), (.mov (.t 23)), none⟩])
 (.keep [4]))
 .ret)))))))),
 [(.slot 4)]⟩
/-- laws szEdgeS -/
def F_laws_szEdgeS : Fun := ⟨2,
 (.seq
 (.seq (.ops [⟨(some 4), (.mov (.c (.int .i64 0))), none⟩])
 (.keep [0, 1]))
 (.seq
 (.seq (.ops [⟨(some 5), (.mov (.t 1)), none⟩,
 ⟨(some 6), (.mov (.t 0)), none⟩,
 ⟨(some 7), (.ln (.t 6)), none⟩,
 ⟨(some 8), (.bin .sub (.t 5) (.t 7)), none⟩,
 ⟨(some 1), (.mov (.t 8)), none⟩])
 (.keep [1]))
 (.seq
 (.seq
 (.seq (.ops [⟨(some 9), (.mov (.t 1)), none⟩,
 ⟨(some 10), (.bin .lss (.t 9) (.c (.int .i64 0))), none⟩])
 (.keep [1, 10]))
 (.cond (.t 10)
 (.seq
 (.seq (.ops [⟨(some 4), (.mov (.c (.int .i64 (-1)))), none⟩])
 (.keep [4]))
 .ret)
 .skip))
 (.seq
 (.seq (.ops [⟨(some 11), (.mov (.t 1)), none⟩,
 ⟨(some 4), (.mov (.t 11)), none⟩])
 (.keep [4]))
 .ret)))),
 [(.slot 4)]⟩
/-- spec GraphOk -/
def F_spec_GraphOk : Fun := ⟨1,
 (.seq
 (.seq (.ops [⟨(some 1), (.boxL 2 (.t 0)), none⟩,
 ⟨(some 2), (.mov (.c (.bool false))), none⟩])
 (.keep [1]))
 (.seq
 (.seq
 (.seq (.ops [⟨(some 5), (.faB 0 1), none⟩,
 ⟨(some 6), (.ldE 1 false 1 5), none⟩,
 ⟨(some 7), (.call n_spec_l01In [(.t 6), (.c (.int .i64 0)), (.c (.int .i64 9))]), none⟩,
 ⟨(some 8), (.un .not (.t 7)), none⟩])
 (.keep [1, 8]))
 (.cond (.t 8)
 (.seq
 (.seq (.ops [⟨(some 2), (.mov (.c (.bool false))), none⟩])
 (.keep [2]))
 .ret)
 .skip))
 (.seq
 (.seq
 (.seq (.ops [⟨(some 3), (.mov (.c (.int .i64 0))), none⟩])
 (.keep [1, 3]))
 (.block 0
 (.loop
 (.seq
 (.seq
 (.seq (.ops [⟨(some 9), (.mov (.t 3)), none⟩,
 ⟨(some 10), (.faB 1 1), none⟩,
 ⟨(some 11), (.ldE 1 false 1 10), none⟩,
 ⟨(some 12), (.ln (.t 11)), none⟩,
 ⟨(some 13), (.bin .lss (.t 9) (.t 12)), none⟩])
 (.keep [1, 3, 13]))
 (.cond (.t 13)
 .skip
 (.exit 0)))
 (.seq
 (.block 1
 (.seq
 (.seq (.ops [⟨(some 16), (.faB 1 1), none⟩,
 ⟨(some 17), (.ldE 1 false 1 16), none⟩,
 ⟨(some 18), (.mov (.t 3)), none⟩,
 ⟨(some 19), (.ia 5 (.t 17) (.t 18)), none⟩,
 ⟨(some 20), (.ld 5 true (.t 19)), none⟩,
 ⟨(some 4), (.newL [(.int .i64 0), (.int .i64 0), (.int .i64 0), (.int .i64 0), (.int .i64 0)]), none⟩,
 ⟨none, (.stB 5 4 (.t 20)), none⟩])
 (.keep [1, 3, 4]))
 (.seq
 (.seq
 (.seq (.ops [⟨(some 21), (.faB 0 4), none⟩,
 ⟨(some 22), (.ldE 1 false 4 21), none⟩,
 ⟨(some 23), (.bin .lss (.t 22) (.c (.int .i64 0))), none⟩,
 ⟨(some 24), (.mov (.t 23)), none⟩,
 ⟨(some 25), (.faB 0 4), (some (24, false))⟩,
 ⟨(some 26), (.ldE 1 false 4 25), (some (24, false))⟩,
 ⟨(some 27), (.faB 1 4), (some (24, false))⟩,
 ⟨(some 28), (.ldE 1 false 4 27), (some (24, false))⟩,
 ⟨(some 29), (.bin .geq (.t 26) (.t 28)), (some (24, false))⟩,
 ⟨(some 30), (.pick (.t 24) (.c (.bool true)) (.t 29)), none⟩,
 ⟨(some 31), (.mov (.t 30)), none⟩,
 ⟨(some 32), (.faB 1 4), (some (31, false))⟩,
 ⟨(some 33), (.ldE 1 false 4 32), (some (31, false))⟩,
 ⟨(some 34), (.faB 0 1), (some (31, false))⟩,
 ⟨(some 35), (.ldE 1 false 1 34), (some (31, false))⟩,
 ⟨(some 36), (.bin .geq (.t 33) (.t 35)), (some (31, false))⟩,
 ⟨(some 37), (.pick (.t 31) (.c (.bool true)) (.t 36)), none⟩,
 ⟨(some 38), (.mov (.t 37)), none⟩,
 ⟨(some 39), (.faB 2 4), (some (38, false))⟩,
 ⟨(some 40), (.ldE 1 false 4 39), (some (38, false))⟩,
 ⟨(some 41), (.call n_spec_l08Worth [(.t 40)]), (some (38, false))⟩,
 ⟨(some 42), (.un .not (.t 41)), (some (38, false))⟩,
 ⟨(some 43), (.pick (.t 38) (.c (.bool true)) (.t 42)), none⟩,
 ⟨(some 44), (.mov (.t 43)), none⟩,
 ⟨(some 45), (.faB 3 4), (some (44, false))⟩,
 ⟨(some 46), (.ldE 1 false 4 45), (some (44, false))⟩,
 ⟨(some 47), (.call n_spec_l08Worth [(.t 46)]), (some (44, false))⟩,
 ⟨(some 48), (.un .not (.t 47)), (some (44, false))⟩,
 ⟨(some 49), (.pick (.t 44) (.c (.bool true)) (.t 48)), none⟩,
 ⟨(some 50), (.mov (.t 49)), none⟩,
 ⟨(some 51), (.faB 4 4), (some (50, false))⟩,
 ⟨(some 52), (.ldE 1 false 4 51), (some (50, false))⟩,
 ⟨(some 53), (.call n_spec_l08Worth [(.t 52)]), (some (50, false))⟩,
 ⟨(some 54), (.un .not (.t 53)), (some (50, false))⟩,
 ⟨(some 55), (.pick (.t 50) (.c (.bool true)) (.t 54)), none⟩])
 (.keep [1, 3, 4, 55]))
 (.cond (.t 55)
 (.seq
 (.seq (.ops [⟨(some 2), (.mov (.c (.bool false))), none⟩])
 (.keep [2]))
 .ret)
 .skip))
 (.seq
 (.seq (.free true [⟨(some 56), (.mov (.t 3)), none⟩,
 ⟨(some 57), (.bin .gtr (.t 56) (.c (.int .i64 0))), none⟩,
 ⟨(some 58), (.mov (.t 57)), none⟩,
 ⟨(some 59), (.faB 1 1), (some (58, true))⟩,
 ⟨(some 60), (.ldE 1 false 1 59), (some (58, true))⟩,
 ⟨(some 61), (.mov (.t 3)), (some (58, true))⟩,
 ⟨(some 62), (.bin .sub (.t 61) (.c (.int .i64 1))), (some (58, true))⟩,
 ⟨(some 63), (.ia 5 (.t 60) (.t 62)), (some (58, true))⟩,
 ⟨(some 64), (.fa 0 (.t 63)), (some (58, true))⟩,
 ⟨(some 65), (.ld 1 false (.t 64)), (some (58, true))⟩,
 ⟨(some 66), (.faB 0 4), (some (58, true))⟩,
 ⟨(some 67), (.ldE 1 false 4 66), (some (58, true))⟩,
 ⟨(some 68), (.bin .gtr (.t 65) (.t 67)), (some (58, true))⟩,
 ⟨(some 69), (.mov (.t 68)), (some (58, true))⟩,
 ⟨(some 70), (.faB 1 1), (some (69, false))⟩,
 ⟨(some 71), (.ldE 1 false 1 70), (some (69, false))⟩,
 ⟨(some 72), (.mov (.t 3)), (some (69, false))⟩,
 ⟨(some 73), (.bin .sub (.t 72) (.c (.int .i64 1))), (some (69, false))⟩,
 ⟨(some 74), (.ia 5 (.t 71) (.t 73)), (some (69, false))⟩,
 ⟨(some 75), (.fa 0 (.t 74)), (some (69, false))⟩,
 ⟨(some 76), (.ld 1 false (.t 75)), (some (69, false))⟩,
 ⟨(some 77), (.faB 0 4), (some (69, false))⟩,
 ⟨(some 78), (.ldE 1 false 4 77), (some (69, false))⟩,
 ⟨(some 79), (.bin .eql (.t 76) (.t 78)), (some (69, false))⟩,
 ⟨(some 80), (.mov (.t 79)), (some (69, false))⟩,
 ⟨(some 81), (.faB 1 1), (some (80, true))⟩,
 ⟨(some 82), (.ldE 1 false 1 81), (some (80, true))⟩,
 ⟨(some 83), (.mov (.t 3)), (some (80, true))⟩,
 ⟨(some 84), (.bin .sub (.t 83) (.c (.int .i64 1))), (some (80, true))⟩,
 ⟨(some 85), (.ia 5 (.t 82) (.t 84)), (some (80, true))⟩,
 ⟨(some 86), (.fa 1 (.t 85)), (some (80, true))⟩,
 ⟨(some 87), (.ld 1 false (.t 86)), (some (80, true))⟩,
 ⟨(some 88), (.faB 1 4), (some (80, true))⟩,
 ⟨(some 89), (.ldE 1 false 4 88), (some (80, true))⟩,
 ⟨(some 90), (.bin .geq (.t 87) (.t 89)), (some (80, true))⟩,
 ⟨(some 91), (.pick (.t 80) (.t 90) (.c (.bool false))), (some (69, false))⟩,
 ⟨(some 92), (.pick (.t 69) (.c (.bool true)) (.t 91)), (some (58, true))⟩,
 ⟨(some 93), (.pick (.t 58) (.t 92) (.c (.bool false))), none⟩])
 (.keep [1, 3, 93]))
 (.cond (.t 93)
 (.seq
 (.seq (.ops [⟨(some 2), (.mov (.c (.bool false))), none⟩])
 (.keep [2]))
 .ret)
 .skip)))))
 (.seq (.ops [⟨(some 14), (.mov (.t 3)), none⟩,
 ⟨(some 15), (.bin .add (.t 14) (.c (.int .i64 1))), none⟩,
 ⟨(some 3), (.mov (.t 15)), none⟩])
 (.keep [1, 3])))))))
 (.seq
 (.seq (.ops [⟨(some 2), (.mov (.c (.bool true))), none⟩])
 (.keep [2]))
 .ret)))),
 [(.slot 2)]⟩
/-- spec l09Best -/
def F_spec_l09Best : Fun := ⟨3,
 (.seq
 (.seq (.ops [⟨(some 3), (.boxL 2 (.t 0)), none⟩,
 ⟨(some 6), (.newL [(.int .i64 0), (.int .i64 0), (.int .i64 0)]), none⟩,
 ⟨(some 7), (.mov (.c (.int .i64 0))), none⟩])
 (.keep [1, 2, 3, 6]))
 (.seq
 (.block 0
 (.loop
 (.seq
 (.seq
 (.seq (.ops [⟨(some 15), (.mov (.t 1)), none⟩,
 ⟨(some 16), (.faB 0 3), none⟩,
 ⟨(some 17), (.ldE 1 false 3 16), none⟩,
 ⟨(some 18), (.bin .lss (.t 15) (.t 17)), none⟩,
 ⟨(some 19), (.mov (.t 18)), none⟩,
 ⟨(some 20), (.mov (.t 2)), (some (19, true))⟩,
 ⟨(some 21), (.mov (.t 1)), (some (19, true))⟩,
 ⟨(some 22), (.call n_spec_l03In [(.t 20), (.t 21)]), (some (19, true))⟩,
 ⟨(some 23), (.pick (.t 19) (.t 22) (.c (.bool false))), none⟩])
 (.keep [1, 2, 3, 6, 23]))
 (.cond (.t 23)
 .skip
 (.exit 0)))
 (.block 1
 (.seq (.ops [⟨(some 24), (.mov (.t 1)), none⟩,
 ⟨(some 25), (.bin .add (.t 24) (.c (.int .i64 1))), none⟩,
 ⟨(some 1), (.mov (.t 25)), none⟩])
 (.keep [1, 2, 3, 6]))))))
 (.seq
 (.seq
 (.seq (.ops [⟨(some 26), (.mov (.t 1)), none⟩,
 ⟨(some 27), (.faB 0 3), none⟩,
 ⟨(some 28), (.ldE 1 false 3 27), none⟩,
 ⟨(some 29), (.bin .geq (.t 26) (.t 28)), none⟩])
 (.keep [1, 2, 3, 6, 29]))
 (.cond (.t 29)
 (.seq
 (.seq (.ops [⟨(some 30), (.bld [(.int .i64 0), (.int .i64 0), (.int .i64 0)] []), none⟩,
 ⟨none, (.stB 3 6 (.t 30)), none⟩,
 ⟨(some 7), (.mov (.c (.int .i64 1))), none⟩])
 (.keep [6, 7]))
 .ret)
 .skip))
 (.seq
 (.seq (.ops [⟨(some 32), (.ldB 2 true 3), none⟩,
 ⟨(some 33), (.mov (.t 1)), none⟩,
 ⟨(some 34), (.bin .add (.t 33) (.c (.int .i64 1))), none⟩,
 ⟨(some 35), (.mov (.t 2)), none⟩,
 ⟨(some 36), (.call n_spec_l09Best [(.t 32), (.t 34), (.t 35)]), none⟩,
 ⟨(some 31), (.mov (.t 36)), none⟩,
 ⟨(some 37), (.ext 0 (.t 31)), none⟩,
 ⟨(some 38), (.ext 1 (.t 31)), none⟩,
 ⟨(some 8), (.newL [(.int .i64 0), (.int .i64 0), (.int .i64 0)]), none⟩,
 ⟨none, (.stB 3 8 (.t 37)), none⟩,
 ⟨(some 9), (.mov (.t 38)), none⟩])
 (.keep [1, 2, 3, 6, 8, 9]))
 (.seq
 (.seq
 (.seq (.ops [⟨(some 39), (.mov (.t 1)), none⟩,
 ⟨(some 40), (.bin .add (.t 39) (.c (.int .i64 1))), none⟩,
 ⟨(some 10), (.mov (.t 40)), none⟩])
 (.keep [1, 2, 3, 6, 8, 9, 10]))
 (.block 2
 (.loop
 (.seq
 (.seq
 (.seq (.ops [⟨(some 41), (.mov (.t 10)), none⟩,
 ⟨(some 42), (.faB 0 3), none⟩,
 ⟨(some 43), (.ldE 1 false 3 42), none⟩,
 ⟨(some 44), (.bin .lss (.t 41) (.t 43)), none⟩])
 (.keep [1, 2, 3, 6, 8, 9, 10, 44]))
 (.cond (.t 44)
 .skip
 (.exit 2)))
 (.seq
 (.block 3
 (.seq
 (.seq (.ops [⟨(some 47), (.ldB 2 true 3), none⟩,
 ⟨(some 48), (.mov (.t 1)), none⟩,
 ⟨(some 49), (.mov (.t 10)), none⟩,
 ⟨(some 50), (.call n_spec_l08At [(.t 47), (.t 48), (.t 49)]), none⟩,
 ⟨(some 11), (.mov (.t 50)), none⟩])
 (.keep [1, 2, 3, 6, 8, 9, 10, 11]))
 (.seq
 (.seq
 (.seq (.ops [⟨(some 51), (.mov (.t 11)), none⟩,
 ⟨(some 52), (.bin .lss (.t 51) (.c (.int .i64 0))), none⟩,
 ⟨(some 53), (.mov (.t 52)), none⟩,
 ⟨(some 54), (.mov (.t 2)), (some (53, false))⟩,
 ⟨(some 55), (.mov (.t 10)), (some (53, false))⟩,
 ⟨(some 56), (.call n_spec_l03In [(.t 54), (.t 55)]), (some (53, false))⟩,
 ⟨(some 57), (.pick (.t 53) (.c (.bool true)) (.t 56)), none⟩])
 (.keep [1, 2, 3, 6, 8, 9, 10, 11, 57]))
 (.cond (.t 57)
 (.exit 3)
 .skip))
 (.seq
 (.seq (.free true [⟨(some 59), (.ldB 2 true 3), none⟩,
 ⟨(some 60), (.mov (.t 1)), none⟩,
 ⟨(some 61), (.bin .add (.t 60) (.c (.int .i64 1))), none⟩,
 ⟨(some 62), (.lit 0 1 y_int [(.int .i64 0)] []), none⟩,
 ⟨(some 63), (.mov (.t 2)), none⟩,
 ⟨(some 64), (.app 1 y_int 8 (.t 62) (.t 63)), none⟩,
 ⟨(some 65), (.mov (.t 10)), none⟩,
 ⟨(some 66), (.litL 1 1 [(.int .i64 0)] [(0, (.t 65))]), none⟩,
 ⟨(some 67), (.appL 1 y_int 8 1 (.t 64) 66), none⟩,
 ⟨(some 68), (.call n_spec_l09Best [(.t 59), (.t 61), (.t 67)]), none⟩,
 ⟨(some 58), (.mov (.t 68)), none⟩,
 ⟨(some 69), (.ext 0 (.t 58)), none⟩,
 ⟨(some 70), (.ext 1 (.t 58)), none⟩,
 ⟨(some 12), (.newL [(.int .i64 0), (.int .i64 0), (.int .i64 0)]), none⟩,
 ⟨none, (.stB 3 12 (.t 69)), none⟩,
 ⟨(some 13), (.mov (.t 70)), none⟩])
 (.keep [1, 2, 3, 6, 8, 9, 10, 11, 12, 13]))
 (.seq
 (.seq (.ops [⟨(some 71), (.faB 1 3), none⟩,
 ⟨(some 72), (.ldE 1 false 3 71), none⟩,
 ⟨(some 73), (.mov (.t 11)), none⟩,
 ⟨(some 74), (.ia 5 (.t 72) (.t 73)), none⟩,
 ⟨(some 75), (.ld 5 true (.t 74)), none⟩,
 ⟨(some 14), (.newL [(.int .i64 0), (.int .i64 0), (.int .i64 0), (.int .i64 0), (.int .i64 0)]), none⟩,
 ⟨none, (.stB 5 14 (.t 75)), none⟩])
 (.keep [1, 2, 3, 6, 8, 9, 10, 12, 13, 14]))
 (.seq
 (.seq (.ops [⟨(some 76), (.faB 0 12), none⟩,
 ⟨(some 77), (.ldE 1 false 12 76), none⟩,
 ⟨(some 78), (.faB 2 14), none⟩,
 ⟨(some 79), (.ldE 1 false 14 78), none⟩,
 ⟨(some 80), (.bin .add (.t 77) (.t 79)), none⟩,
 ⟨(some 81), (.faB 0 12), none⟩,
 ⟨none, (.stE 1 12 81 (.t 80)), none⟩])
 (.keep [1, 2, 3, 6, 8, 9, 10, 12, 13, 14]))
 (.seq
 (.seq (.ops [⟨(some 82), (.faB 1 12), none⟩,
 ⟨(some 83), (.ldE 1 false 12 82), none⟩,
 ⟨(some 84), (.faB 3 14), none⟩,
 ⟨(some 85), (.ldE 1 false 14 84), none⟩,
 ⟨(some 86), (.bin .add (.t 83) (.t 85)), none⟩,
 ⟨(some 87), (.faB 1 12), none⟩,
 ⟨none, (.stE 1 12 87 (.t 86)), none⟩])
 (.keep [1, 2, 3, 6, 8, 9, 10, 12, 13, 14]))
 (.seq
 (.seq (.ops [⟨(some 88), (.faB 2 12), none⟩,
 ⟨(some 89), (.ldE 1 false 12 88), none⟩,
 ⟨(some 90), (.faB 4 14), none⟩,
 ⟨(some 91), (.ldE 1 false 14 90), none⟩,
 ⟨(some 92), (.bin .add (.t 89) (.t 91)), none⟩,
 ⟨(some 93), (.faB 2 12), none⟩,
 ⟨none, (.stE 1 12 93 (.t 92)), none⟩])
 (.keep [1, 2, 3, 6, 8, 9, 10, 12, 13]))
 (.seq
 (.seq (.ops [⟨(some 94), (.mov (.t 9)), none⟩,
 ⟨(some 95), (.mov (.t 13)), none⟩,
 ⟨(some 96), (.bin .add (.t 94) (.t 95)), none⟩,
 ⟨(some 9), (.mov (.t 96)), none⟩])
 (.keep [1, 2, 3, 6, 8, 9, 10, 12]))
 (.seq
 (.seq (.ops [⟨(some 97), (.ldB 3 true 12), none⟩,
 ⟨(some 98), (.ldB 3 true 8), none⟩,
 ⟨(some 99), (.call n_spec_Better [(.t 97), (.t 98)]), none⟩])
 (.keep [1, 2, 3, 6, 8, 9, 10, 12, 99]))
 (.cond (.t 99)
 (.seq (.ops [⟨(some 100), (.ldB 3 true 12), none⟩,
 ⟨none, (.stB 3 8 (.t 100)), none⟩])
 (.keep [1, 2, 3, 6, 8, 9, 10]))
 .skip)))))))))))
 (.seq (.ops [⟨(some 45), (.mov (.t 10)), none⟩,
 ⟨(some 46), (.bin .add (.t 45) (.c (.int .i64 1))), none⟩,
 ⟨(some 10), (.mov (.t 46)), none⟩])
 (.keep [1, 2, 3, 6, 8, 9, 10])))))))
 (.seq
 (.seq (.ops [⟨(some 101), (.ldB 3 true 8), none⟩,
 ⟨(some 102), (.mov (.t 9)), none⟩,
 ⟨none, (.stB 3 6 (.t 101)), none⟩,
 ⟨(some 7), (.mov (.t 102)), none⟩])
 (.keep [6, 7]))
 .ret)))))),
 [(.box 6 3 true), (.slot 7)]⟩
/-- laws toEdgeS -/
def F_laws_toEdgeS : Fun := ⟨1,
 (.seq
 (.seq (.ops [⟨(some 2), (.mov (.c (.slice none 0 0))), none⟩])
 (.keep [0]))
 (.seq
 (.seq (.ops [⟨(some 5), (.mov (.t 0)), none⟩,
 ⟨(some 6), (.ln (.t 5)), none⟩,
 ⟨(some 7), (.mk 5 y_Edge 40 [(.int .i64 0), (.int .i64 0), (.int .i64 0), (.int .i64 0), (.int .i64 0)] (.t 6)), none⟩,
 ⟨(some 3), (.mov (.t 7)), none⟩])
 (.keep [0, 3]))
 (.seq
 (.seq
 (.seq (.ops [⟨(some 4), (.mov (.c (.int .i64 0))), none⟩])
 (.keep [0, 3, 4]))
 (.block 0
 (.loop
 (.seq
 (.seq
 (.seq (.ops [⟨(some 8), (.mov (.t 4)), none⟩,
 ⟨(some 9), (.mov (.t 0)), none⟩,
 ⟨(some 10), (.ln (.t 9)), none⟩,
 ⟨(some 11), (.bin .lss (.t 8) (.t 10)), none⟩])
 (.keep [0, 3, 4, 11]))
 (.cond (.t 11)
 .skip
 (.exit 0)))
 (.seq
 (.block 1
 (.seq (.ops [⟨(some 14), (.mov (.t 3)), none⟩,
 ⟨(some 15), (.mov (.t 4)), none⟩,
 ⟨(some 16), (.mov (.t 0)), none⟩,
 ⟨(some 17), (.mov (.t 4)), none⟩,
 ⟨(some 18), (.ia 5 (.t 16) (.t 17)), none⟩,
 ⟨(some 19), (.ld 5 true (.t 18)), none⟩,
 ⟨(some 20), (.call n_laws_toEdge [(.t 19)]), none⟩,
 ⟨(some 21), (.ia 5 (.t 14) (.t 15)), none⟩,
 ⟨none, (.st 5 (.t 21) (.t 20)), none⟩])
 (.keep [0, 3, 4])))
 (.seq (.ops [⟨(some 12), (.mov (.t 4)), none⟩,
 ⟨(some 13), (.bin .add (.t 12) (.c (.int .i64 1))), none⟩,
 ⟨(some 4), (.mov (.t 13)), none⟩])
 (.keep [0, 3, 4])))))))
 (.seq
 (.seq (.ops [⟨(some 22), (.mov (.t 3)), none⟩,
 ⟨(some 2), (.mov (.t 22)), none⟩])
 (.keep [2]))
 .ret)))),
 [(.slot 2)]⟩
/-- impl GraphOk -/
def F_impl_GraphOk : Fun := ⟨1,
 (.seq
 (.seq (.ops [⟨(some 1), (.boxL 2 (.t 0)), none⟩,
 ⟨(some 2), (.mov (.c (.bool false))), none⟩])
 (.keep [1]))
 (.seq
 (.seq
 (.seq (.ops [⟨(some 6), (.faB 0 1), none⟩,
 ⟨(some 7), (.ldE 1 false 1 6), none⟩,
 ⟨(some 8), (.call n_impl_in [(.t 7), (.c (.int .i64 0)), (.c (.int .i64 9))]), none⟩,
 ⟨(some 9), (.un .not (.t 8)), none⟩])
 (.keep [1, 9]))
 (.cond (.t 9)
 (.seq
 (.seq (.ops [⟨(some 2), (.mov (.c (.bool false))), none⟩])
 (.keep [2]))
 .ret)
 .skip))
 (.seq
 (.seq
 (.seq (.ops [⟨(some 10), (.faB 1 1), none⟩,
 ⟨(some 11), (.ldE 1 false 1 10), none⟩,
 ⟨(some 12), (.ln (.t 11)), none⟩,
 ⟨(some 13), (.mov (.c (.int .i64 0))), none⟩])
 (.keep [1, 11, 12, 13]))
 (.block 0
 (.loop
 (.seq
 (.seq (.ops [⟨(some 14), (.bin .lss (.t 13) (.t 12)), none⟩])
 (.keep [1, 11, 12, 13, 14]))
 (.seq
 (.cond (.t 14)
 .skip
 (.exit 0))
 (.seq
 (.block 1
 (.seq
 (.seq (.ops [⟨(some 15), (.mov (.t 13)), none⟩,
 ⟨(some 16), (.ia 5 (.t 11) (.t 13)), none⟩,
 ⟨(some 17), (.ld 5 true (.t 16)), none⟩,
 ⟨(some 4), (.newL [(.int .i64 0), (.int .i64 0), (.int .i64 0), (.int .i64 0), (.int .i64 0)]), none⟩,
 ⟨(some 3), (.mov (.t 15)), none⟩,
 ⟨none, (.stB 5 4 (.t 17)), none⟩])
 (.keep [1, 3, 4, 11, 12, 13]))
 (.seq
 (.seq
 (.seq (.ops [⟨(some 18), (.faB 0 4), none⟩,
 ⟨(some 19), (.ldE 1 false 4 18), none⟩,
 ⟨(some 20), (.faB 0 1), none⟩,
 ⟨(some 21), (.ldE 1 false 1 20), none⟩,
 ⟨(some 22), (.bin .sub (.t 21) (.c (.int .i64 1))), none⟩,
 ⟨(some 23), (.call n_impl_in [(.t 19), (.c (.int .i64 0)), (.t 22)]), none⟩,
 ⟨(some 24), (.un .not (.t 23)), none⟩,
 ⟨(some 25), (.mov (.t 24)), none⟩,
 ⟨(some 26), (.faB 1 4), (some (25, false))⟩,
 ⟨(some 27), (.ldE 1 false 4 26), (some (25, false))⟩,
 ⟨(some 28), (.faB 0 1), (some (25, false))⟩,
 ⟨(some 29), (.ldE 1 false 1 28), (some (25, false))⟩,
 ⟨(some 30), (.bin .sub (.t 29) (.c (.int .i64 1))), (some (25, false))⟩,
 ⟨(some 31), (.call n_impl_in [(.t 27), (.c (.int .i64 0)), (.t 30)]), (some (25, false))⟩,
 ⟨(some 32), (.un .not (.t 31)), (some (25, false))⟩,
 ⟨(some 33), (.pick (.t 25) (.c (.bool true)) (.t 32)), none⟩,
 ⟨(some 34), (.mov (.t 33)), none⟩,
 ⟨(some 35), (.faB 0 4), (some (34, false))⟩,
 ⟨(some 36), (.ldE 1 false 4 35), (some (34, false))⟩,
 ⟨(some 37), (.faB 1 4), (some (34, false))⟩,
 ⟨(some 38), (.ldE 1 false 4 37), (some (34, false))⟩,
 ⟨(some 39), (.bin .geq (.t 36) (.t 38)), (some (34, false))⟩,
 ⟨(some 40), (.pick (.t 34) (.c (.bool true)) (.t 39)), none⟩,
 ⟨(some 41), (.mov (.t 40)), none⟩,
 ⟨(some 42), (.faB 2 4), (some (41, false))⟩,
 ⟨(some 43), (.ldE 1 false 4 42), (some (41, false))⟩,
 ⟨(some 44), (.call n_impl_in [(.t 43), (.c (.int .i64 0)), (.c (.int .i64 50))]), (some (41, false))⟩,
 ⟨(some 45), (.un .not (.t 44)), (some (41, false))⟩,
 ⟨(some 46), (.pick (.t 41) (.c (.bool true)) (.t 45)), none⟩,
 ⟨(some 47), (.mov (.t 46)), none⟩,
 ⟨(some 48), (.faB 3 4), (some (47, false))⟩,
 ⟨(some 49), (.ldE 1 false 4 48), (some (47, false))⟩,
 ⟨(some 50), (.call n_impl_in [(.t 49), (.c (.int .i64 0)), (.c (.int .i64 50))]), (some (47, false))⟩,
 ⟨(some 51), (.un .not (.t 50)), (some (47, false))⟩,
 ⟨(some 52), (.pick (.t 47) (.c (.bool true)) (.t 51)), none⟩,
 ⟨(some 53), (.mov (.t 52)), none⟩,
 ⟨(some 54), (.faB 4 4), (some (53, false))⟩,
 ⟨(some 55), (.ldE 1 false 4 54), (some (53, false))⟩,
 ⟨(some 56), (.call n_impl_in [(.t 55), (.c (.int .i64 0)), (.c (.int .i64 50))]), (some (53, false))⟩,
 ⟨(some 57), (.un .not (.t 56)), (some (53, false))⟩,
 ⟨(some 58), (.pick (.t 53) (.c (.bool true)) (.t 57)), none⟩])
 (.keep [1, 3, 4, 11, 12, 13, 58]))
 (.cond (.t 58)
 (.seq
 (.seq (.ops [⟨(some 2), (.mov (.c (.bool false))), none⟩])
 (.keep [2]))
 .ret)
 .skip))
 (.seq
 (.seq (.ops [⟨(some 59), (.mov (.t 3)), none⟩,
 ⟨(some 60), (.bin .sub (.t 59) (.c (.int .i64 1))), none⟩,
 ⟨(some 5), (.mov (.t 60)), none⟩])
 (.keep [1, 3, 4, 5, 11, 12, 13]))
 (.seq
 (.seq (.free true [⟨(some 61), (.mov (.t 3)), none⟩,
 ⟨(some 62), (.bin .gtr (.t 61) (.c (.int .i64 0))), none⟩,
 ⟨(some 63), (.mov (.t 62)), none⟩,
 ⟨(some 64), (.faB 1 1), (some (63, true))⟩,
 ⟨(some 65), (.ldE 1 false 1 64), (some (63, true))⟩,
 ⟨(some 66), (.mov (.t 5)), (some (63, true))⟩,
 ⟨(some 67), (.ia 5 (.t 65) (.t 66)), (some (63, true))⟩,
 ⟨(some 68), (.fa 0 (.t 67)), (some (63, true))⟩,
 ⟨(some 69), (.ld 1 false (.t 68)), (some (63, true))⟩,
 ⟨(some 70), (.faB 0 4), (some (63, true))⟩,
 ⟨(some 71), (.ldE 1 false 4 70), (some (63, true))⟩,
 ⟨(some 72), (.bin .gtr (.t 69) (.t 71)), (some (63, true))⟩,
 ⟨(some 73), (.mov (.t 72)), (some (63, true))⟩,
 ⟨(some 74), (.faB 1 1), (some (73, false))⟩,
 ⟨(some 75), (.ldE 1 false 1 74), (some (73, false))⟩,
 ⟨(some 76), (.mov (.t 5)), (some (73, false))⟩,
 ⟨(some 77), (.ia 5 (.t 75) (.t 76)), (some (73, false))⟩,
 ⟨(some 78), (.fa 0 (.t 77)), (some (73, false))⟩,
 ⟨(some 79), (.ld 1 false (.t 78)), (some (73, false))⟩,
 ⟨(some 80), (.faB 0 4), (some (73, false))⟩,
 ⟨(some 81), (.ldE 1 false 4 80), (some (73, false))⟩,
 ⟨(some 82), (.bin .eql (.t 79) (.t 81)), (some (73, false))⟩,
 ⟨(some 83), (.mov (.t 82)), (some (73, false))⟩,
 ⟨(some 84), (.faB 1 1), (some (83, true))⟩,
 ⟨(some 85), (.ldE 1 false 1 84), (some (83, true))⟩,
 ⟨(some 86), (.mov (.t 5)), (some (83, true))⟩,
 ⟨(some 87), (.ia 5 (.t 85) (.t 86)), (some (83, true))⟩,
 ⟨(some 88), (.fa 1 (.t 87)), (some (83, true))⟩,
 ⟨(some 89), (.ld 1 false (.t 88)), (some (83, true))⟩,
 ⟨(some 90), (.faB 1 4), (some (83, true))⟩,
 ⟨(some 91), (.ldE 1 false 4 90), (some (83, true))⟩,
 ⟨(some 92), (.bin .geq (.t 89) (.t 91)), (some (83, true))⟩,
 ⟨(some 93), (.pick (.t 83) (.t 92) (.c (.bool false))), (some (73, false))⟩,
 ⟨(some 94), (.pick (.t 73) (.c (.bool true)) (.t 93)), (some (63, true))⟩,
 ⟨(some 95), (.pick (.t 63) (.t 94) (.c (.bool false))), none⟩])
 (.keep [1, 11, 12, 13, 95]))
 (.cond (.t 95)
 (.seq
 (.seq (.ops [⟨(some 2), (.mov (.c (.bool false))), none⟩])
 (.keep [2]))
 .ret)
 .skip))))))
 (.seq (.ops [⟨(some 96), (.bin .add (.t 13) (.c (.int .i64 1))), none⟩,
 ⟨(some 13), (.mov (.t 96)), none⟩])
 (.keep [1, 11, 12, 13]))))))))
 (.seq
 (.seq (.ops [⟨(some 2), (.mov (.c (.bool true))), none⟩])
 (.keep [2]))
 .ret)))),
 [(.slot 2)]⟩
/-- impl every -/
def F_impl_every : Fun := ⟨6,
 (.seq
 (.seq (.ops [⟨(some 6), (.boxL 2 (.t 0)), none⟩,
 ⟨(some 9), (.boxL 3 (.t 3)), none⟩])
 (.keep [1, 2, 4, 5, 6, 9]))
 (.seq
 (.seq
 (.seq (.ops [⟨(some 14), (.mov (.t 1)), none⟩,
 ⟨(some 15), (.faB 1 6), none⟩,
 ⟨(some 16), (.ldE 1 false 6 15), none⟩,
 ⟨(some 17), (.ln (.t 16)), none⟩,
 ⟨(some 18), (.bin .eql (.t 14) (.t 17)), none⟩])
 (.keep [1, 2, 4, 5, 6, 9, 18]))
 (.cond (.t 18)
 (.seq
 (.seq (.ops [⟨(some 19), (.mov (.t 5)), none⟩,
 ⟨(some 20), (.ldB 3 true 9), none⟩,
 ⟨(some 21), (.mov (.t 4)), none⟩,
 ⟨(some 22), (.callV (.t 19) [(.t 20), (.t 21)]), none⟩])
 (.keep []))
 .ret)
 .skip))
 (.seq
 (.seq (.ops [⟨(some 23), (.ldB 2 true 6), none⟩,
 ⟨(some 24), (.mov (.t 1)), none⟩,
 ⟨(some 25), (.bin .add (.t 24) (.c (.int .i64 1))), none⟩,
 ⟨(some 26), (.mov (.t 2)), none⟩,
 ⟨(some 27), (.ldB 3 true 9), none⟩,
 ⟨(some 28), (.mov (.t 4)), none⟩,
 ⟨(some 29), (.mov (.t 5)), none⟩,
 ⟨(some 30), (.call n_impl_every [(.t 23), (.t 25), (.t 26), (.t 27), (.t 28), (.t 29)]), none⟩])
 (.keep [1, 2, 4, 5, 6, 9]))
 (.seq
 (.seq (.ops [⟨(some 31), (.faB 1 6), none⟩,
 ⟨(some 32), (.ldE 1 false 6 31), none⟩,
 ⟨(some 33), (.mov (.t 1)), none⟩,
 ⟨(some 34), (.ia 5 (.t 32) (.t 33)), none⟩,
 ⟨(some 35), (.ld 5 true (.t 34)), none⟩,
 ⟨(some 12), (.newL [(.int .i64 0), (.int .i64 0), (.int .i64 0), (.int .i64 0), (.int .i64 0)]), none⟩,
 ⟨none, (.stB 5 12 (.t 35)), none⟩])
 (.keep [1, 2, 4, 5, 6, 9, 12]))
 (.seq
 (.seq (.free true [⟨(some 36), (.faB 0 12), none⟩,
 ⟨(some 37), (.ldE 1 false 12 36), none⟩,
 ⟨(some 38), (.bin .shl (.c (.int .i64 1)) (.t 37)), none⟩,
 ⟨(some 39), (.faB 1 12), none⟩,
 ⟨(some 40), (.ldE 1 false 12 39), none⟩,
 ⟨(some 41), (.bin .shl (.c (.int .i64 1)) (.t 40)), none⟩,
 ⟨(some 42), (.bin .or (.t 38) (.t 41)), none⟩,
 ⟨(some 13), (.mov (.t 42)), none⟩])
 (.keep [1, 2, 4, 5, 6, 9, 12, 13]))
 (.seq
 (.seq (.ops [⟨(some 43), (.mov (.t 2)), none⟩,
 ⟨(some 44), (.mov (.t 13)), none⟩,
 ⟨(some 45), (.bin .and (.t 43) (.t 44)), none⟩,
 ⟨(some 46), (.bin .eql (.t 45) (.c (.int .i64 0))), none⟩])
 (.keep [1, 2, 4, 5, 6, 9, 12, 13, 46]))
 (.cond (.t 46)
 (.seq (.free true [⟨(some 47), (.ldB 2 true 6), none⟩,
 ⟨(some 48), (.mov (.t 1)), none⟩,
 ⟨(some 49), (.bin .add (.t 48) (.c (.int .i64 1))), none⟩,
 ⟨(some 50), (.mov (.t 2)), none⟩,
 ⟨(some 51), (.mov (.t 13)), none⟩,
 ⟨(some 52), (.bin .or (.t 50) (.t 51)), none⟩,
 ⟨(some 53), (.ldB 3 true 9), none⟩,
 ⟨(some 54), (.ldB 5 true 12), none⟩,
 ⟨(some 55), (.call n_impl_Sums_plus [(.t 53), (.t 54)]), none⟩,
 ⟨(some 56), (.mov (.t 4)), none⟩,
 ⟨(some 57), (.bin .add (.t 56) (.c (.int .i64 1))), none⟩,
 ⟨(some 58), (.mov (.t 5)), none⟩,
 ⟨(some 59), (.call n_impl_every [(.t 47), (.t 49), (.t 52), (.t 55), (.t 57), (.t 58)]), none⟩])
 (.keep []))
 .skip))))))),
 []⟩
/-- impl MostCouples 1 -/
def F_impl_MostCouples_1 : Fun := ⟨3,
 (.seq
 (.seq (.ops [⟨(some 3), (.boxL 3 (.t 0)), none⟩])
 (.keep [1, 2]))
 (.seq (.ops [⟨(some 5), (.ld 1 false (.t 2)), none⟩,
 ⟨(some 6), (.mov (.t 1)), none⟩,
 ⟨(some 7), (.mm true (.t 5) (.t 6)), none⟩,
 ⟨none, (.st 1 (.t 2) (.t 7)), none⟩])
 (.keep []))),
 []⟩
/-- laws eqEdgeS -/
def F_laws_eqEdgeS : Fun := ⟨2,
 (.seq
 (.seq (.ops [⟨(some 4), (.mov (.c (.bool false))), none⟩])
 (.keep [0, 1]))
 (.seq
 (.seq
 (.seq (.ops [⟨(some 6), (.mov (.t 0)), none⟩,
 ⟨(some 7), (.ln (.t 6)), none⟩,
 ⟨(some 8), (.mov (.t 1)), none⟩,
 ⟨(some 9), (.ln (.t 8)), none⟩,
 ⟨(some 10), (.bin .neq (.t 7) (.t 9)), none⟩])
 (.keep [0, 1, 10]))
 (.cond (.t 10)
 (.seq
 (.seq (.ops [⟨(some 4), (.mov (.c (.bool false))), none⟩])
 (.keep [4]))
 .ret)
 .skip))
 (.seq
 (.seq
 (.seq (.ops [⟨(some 5), (.mov (.c (.int .i64 0))), none⟩])
 (.keep [0, 1, 5]))
 (.block 0
 (.loop
 (.seq
 (.seq
 (.seq (.ops [⟨(some 11), (.mov (.t 5)), none⟩,
 ⟨(some 12), (.mov (.t 0)), none⟩,
 ⟨(some 13), (.ln (.t 12)), none⟩,
 ⟨(some 14), (.bin .lss (.t 11) (.t 13)), none⟩])
 (.keep [0, 1, 5, 14]))
 (.cond (.t 14)
 .skip
 (.exit 0)))
 (.seq
 (.block 1
 (.seq
 (.seq (.free true [⟨(some 17), (.mov (.t 0)), none⟩,
 ⟨(some 18), (.mov (.t 5)), none⟩,
 ⟨(some 19), (.ia 5 (.t 17) (.t 18)), none⟩,
 ⟨(some 20), (.ld 5 true (.t 19)), none⟩,
 ⟨(some 21), (.mov (.t 1)), none⟩,
 ⟨(some 22), (.mov (.t 5)), none⟩,
 ⟨(some 23), (.ia 5 (.t 21) (.t 22)), none⟩,
 ⟨(some 24), (.ld 5 true (.t 23)), none⟩,
 ⟨(some 25), (.call n_laws_eqEdge [(.t 20), (.t 24)]), none⟩,
 ⟨(some 26), (.un .not (.t 25)), none⟩])
 (.keep [0, 1, 5, 26]))
 (.cond (.t 26)
 (.seq
 (.seq (.ops [⟨(some 4), (.mov (.c (.bool false))), none⟩])
 (.keep [4]))
 .ret)
 .skip)))
 (.seq (.ops [⟨(some 15), (.mov (.t 5)), none⟩,
 ⟨(some 16), (.bin .add (.t 15) (.c (.int .i64 1))), none⟩,
 ⟨(some 5), (.mov (.t 16)), none⟩])
 (.keep [0, 1, 5])))))))
 (.seq
 (.seq (.ops [⟨(some 4), (.mov (.c (.bool true))), none⟩])
 (.keep [4]))
 .ret)))),
 [(.slot 4)]⟩
/-- spec l08Graph -/
def F_spec_l08Graph : Fun := ⟨1,
 (.seq
 (.seq (.ops [⟨(some 2), (.newL [(.int .i64 0), (.slice none 0 0)]), none⟩])
 (.keep [0, 2]))
 (.seq
 (.seq (.ops [⟨(some 9), (.mov (.t 0)), none⟩,
 ⟨(some 10), (.call n_spec_l01Below [(.t 9), (.c (.int .i64 10))]), none⟩,
 ⟨(some 11), (.bld [(.int .i64 0), (.slice none 0 0)] [(0, (1, (.t 10)))]), none⟩,
 ⟨(some 3), (.newL [(.int .i64 0), (.slice none 0 0)]), none⟩,
 ⟨none, (.stB 2 3 (.t 11)), none⟩])
 (.keep [0, 2, 3]))
 (.seq
 (.seq (.ops [⟨(some 12), (.mov (.t 0)), none⟩,
 ⟨(some 13), (.call n_spec_l01Below [(.t 12), (.c (.int .i64 3))]), none⟩,
 ⟨(some 14), (.bin .add (.c (.int .i64 1)) (.t 13)), none⟩,
 ⟨(some 4), (.mov (.t 14)), none⟩])
 (.keep [0, 2, 3, 4]))
 (.seq
 (.seq (.ops [⟨(some 15), (.mov (.t 0)), none⟩,
 ⟨(some 16), (.lit 3 1 y_int [(.int .i64 0)] [(0, (.c (.int .i64 2))), (1, (.c (.int .i64 4))), (2, (.c (.int .i64 51)))]), none⟩,
 ⟨(some 17), (.call n_spec_l01PickInt [(.t 15), (.t 16)]), none⟩,
 ⟨(some 5), (.mov (.t 17)), none⟩])
 (.keep [0, 2, 3, 4, 5]))
 (.seq
 (.seq
 (.seq (.ops [⟨(some 6), (.mov (.c (.int .i64 0))), none⟩])
 (.keep [0, 2, 3, 4, 5, 6]))
 (.block 0
 (.loop
 (.seq
 (.seq
 (.seq (.ops [⟨(some 18), (.mov (.t 6)), none⟩,
 ⟨(some 19), (.faB 0 3), none⟩,
 ⟨(some 20), (.ldE 1 false 3 19), none⟩,
 ⟨(some 21), (.bin .lss (.t 18) (.t 20)), none⟩])
 (.keep [0, 2, 3, 4, 5, 6, 21]))
 (.cond (.t 21)
 .skip
 (.exit 0)))
 (.seq
 (.block 1
 (.seq
 (.seq (.ops [⟨(some 24), (.mov (.t 6)), none⟩,
 ⟨(some 25), (.bin .add (.t 24) (.c (.int .i64 1))), none⟩,
 ⟨(some 7), (.mov (.t 25)), none⟩])
 (.keep [0, 2, 3, 4, 5, 6, 7]))
 (.block 2
 (.loop
 (.seq
 (.seq
 (.seq (.ops [⟨(some 26), (.mov (.t 7)), none⟩,
 ⟨(some 27), (.faB 0 3), none⟩,
 ⟨(some 28), (.ldE 1 false 3 27), none⟩,
 ⟨(some 29), (.bin .lss (.t 26) (.t 28)), none⟩])
 (.keep [0, 2, 3, 4, 5, 6, 7, 29]))
 (.cond (.t 29)
 .skip
 (.exit 2)))
 (.seq
 (.block 3
 (.seq
 (.seq (.ops [⟨(some 32), (.mov (.t 0)), none⟩,
 ⟨(some 33), (.mov (.t 4)), none⟩,
 ⟨(some 34), (.bin .add (.t 33) (.c (.int .i64 1))), none⟩,
 ⟨(some 35), (.call n_spec_l01Once [(.t 32), (.t 34)]), none⟩,
 ⟨(some 36), (.un .not (.t 35)), none⟩,
 ⟨(some 37), (.mov (.t 36)), none⟩,
 ⟨(some 38), (.mov (.t 4)), (some (37, false))⟩,
 ⟨(some 39), (.bin .eql (.t 38) (.c (.int .i64 3))), (some (37, false))⟩,
 ⟨(some 40), (.pick (.t 37) (.c (.bool true)) (.t 39)), none⟩])
 (.keep [0, 2, 3, 4, 5, 6, 7, 40]))
 (.cond (.t 40)
 (.seq
 (.seq (.ops [⟨(some 41), (.mov (.t 6)), none⟩,
 ⟨(some 42), (.mov (.t 7)), none⟩,
 ⟨(some 43), (.mov (.t 0)), none⟩,
 ⟨(some 44), (.mov (.t 5)), none⟩,
 ⟨(some 45), (.call n_spec_l01Below [(.t 43), (.t 44)]), none⟩,
 ⟨(some 46), (.mov (.t 0)), none⟩,
 ⟨(some 47), (.mov (.t 5)), none⟩,
 ⟨(some 48), (.call n_spec_l01Below [(.t 46), (.t 47)]), none⟩,
 ⟨(some 49), (.mov (.t 0)), none⟩,
 ⟨(some 50), (.mov (.t 5)), none⟩,
 ⟨(some 51), (.call n_spec_l01Below [(.t 49), (.t 50)]), none⟩,
 ⟨(some 52), (.bld [(.int .i64 0), (.int .i64 0), (.int .i64 0), (.int .i64 0), (.int .i64 0)] [(0, (1, (.t 41))), (1, (1, (.t 42))), (2, (1, (.t 45))), (3, (1, (.t 48))), (4, (1, (.t 51)))]), none⟩,
 ⟨(some 8), (.newL [(.int .i64 0), (.int .i64 0), (.int .i64 0), (.int .i64 0), (.int .i64 0)]), none⟩,
 ⟨none, (.stB 5 8 (.t 52)), none⟩])
 (.keep [0, 2, 3, 4, 5, 6, 7, 8]))
 (.seq
 (.seq
 (.seq (.ops [⟨(some 53), (.mov (.t 5)), none⟩,
 ⟨(some 54), (.bin .eql (.t 53) (.c (.int .i64 4))), none⟩])
 (.keep [0, 2, 3, 4, 5, 6, 7, 8, 54]))
 (.cond (.t 54)
 (.seq
 (.seq (.ops [⟨(some 55), (.faB 3 8), none⟩,
 ⟨none, (.stE 1 8 55 (.c (.int .i64 0))), none⟩])
 (.keep [0, 2, 3, 4, 5, 6, 7, 8]))
 (.seq (.ops [⟨(some 56), (.faB 4 8), none⟩,
 ⟨none, (.stE 1 8 56 (.c (.int .i64 0))), none⟩])
 (.keep [0, 2, 3, 4, 5, 6, 7, 8])))
 .skip))
 (.seq (.ops [⟨(some 57), (.faB 1 3), none⟩,
 ⟨(some 58), (.ldE 1 false 3 57), none⟩,
 ⟨(some 59), (.ldB 5 true 8), none⟩,
 ⟨(some 60), (.litL 1 5 [(.int .i64 0), (.int .i64 0), (.int .i64 0), (.int .i64 0), (.int .i64 0)] [(0, (.t 59))]), none⟩,
 ⟨(some 61), (.appL 5 y_Edge 40 1 (.t 58) 60), none⟩,
 ⟨(some 62), (.faB 1 3), none⟩,
 ⟨none, (.stE 1 3 62 (.t 61)), none⟩])
 (.keep [0, 2, 3, 4, 5, 6, 7]))))
 .skip)))
 (.seq (.ops [⟨(some 30), (.mov (.t 7)), none⟩,
 ⟨(some 31), (.bin .add (.t 30) (.c (.int .i64 1))), none⟩,
 ⟨(some 7), (.mov (.t 31)), none⟩])
 (.keep [0, 2, 3, 4, 5, 6, 7]))))))))
 (.seq (.ops [⟨(some 22), (.mov (.t 6)), none⟩,
 ⟨(some 23), (.bin .add (.t 22) (.c (.int .i64 1))), none⟩,
 ⟨(some 6), (.mov (.t 23)), none⟩])
 (.keep [0, 2, 3, 4, 5, 6])))))))
 (.seq
 (.seq (.ops [⟨(some 63), (.ldB 2 true 3), none⟩,
 ⟨none, (.stB 2 2 (.t 63)), none⟩])
 (.keep [2]))
 .ret)))))),
 [(.box 2 2 true)]⟩
/-- spec l01New -/
def F_spec_l01New : Fun := ⟨1,
 (.seq
 (.seq (.ops [⟨(some 2), (.mov (.c (.pointer none))), none⟩])
 (.keep [0]))
 (.seq
 (.seq (.ops [⟨(some 5), (.mov (.t 0)), none⟩,
 ⟨(some 6), (.ln (.t 5)), none⟩,
 ⟨(some 7), (.bin .add (.c (.int .i64 10501)) (.t 6)), none⟩,
 ⟨(some 3), (.mov (.t 7)), none⟩])
 (.keep [0, 3]))
 (.seq
 (.seq
 (.seq (.ops [⟨(some 4), (.mov (.c (.int .i64 0))), none⟩])
 (.keep [0, 3, 4]))
 (.block 0
 (.loop
 (.seq
 (.seq
 (.seq (.ops [⟨(some 8), (.mov (.t 4)), none⟩,
 ⟨(some 9), (.mov (.t 0)), none⟩,
 ⟨(some 10), (.ln (.t 9)), none⟩,
 ⟨(some 11), (.bin .lss (.t 8) (.t 10)), none⟩,
 ⟨(some 12), (.mov (.t 11)), none⟩,
 ⟨(some 13), (.mov (.t 4)), (some (12, true))⟩,
 ⟨(some 14), (.bin .lss (.t 13) (.c (.int .i64 4000))), (some (12, true))⟩,
 ⟨(some 15), (.pick (.t 12) (.t 14) (.c (.bool false))), none⟩])
 (.keep [0, 3, 4, 15]))
 (.cond (.t 15)
 .skip
 (.exit 0)))
 (.seq
 (.block 1
 (.seq (.ops [⟨(some 18), (.mov (.t 3)), none⟩,
 ⟨(some 19), (.bin .mul (.t 18) (.c (.int .i64 131))), none⟩,
 ⟨(some 20), (.mov (.t 0)), none⟩,
 ⟨(some 21), (.mov (.t 4)), none⟩,
 ⟨(some 22), (.ia 1 (.t 20) (.t 21)), none⟩,
 ⟨(some 23), (.ld 1 false (.t 22)), none⟩,
 ⟨(some 24), (.conv .i64 (.t 23)), none⟩,
 ⟨(some 25), (.bin .add (.t 19) (.t 24)), none⟩,
 ⟨(some 26), (.bin .add (.t 25) (.c (.int .i64 7))), none⟩,
 ⟨(some 27), (.bin .and (.t 26) (.c (.int .i64 1073741823))), none⟩,
 ⟨(some 3), (.mov (.t 27)), none⟩])
 (.keep [0, 3, 4])))
 (.seq (.ops [⟨(some 16), (.mov (.t 4)), none⟩,
 ⟨(some 17), (.bin .add (.t 16) (.c (.int .i64 1))), none⟩,
 ⟨(some 4), (.mov (.t 17)), none⟩])
 (.keep [0, 3, 4])))))))
 (.seq
 (.seq (.ops [⟨(some 28), (.mov (.t 0)), none⟩,
 ⟨(some 29), (.mov (.t 3)), none⟩,
 ⟨(some 30), (.bld [(.slice none 0 0), (.int .i64 0), (.int .i64 0)] [(0, (1, (.t 28))), (2, (1, (.t 29)))]), none⟩,
 ⟨(some 31), (.bx y_l01Cur 3 (.t 30)), none⟩,
 ⟨(some 2), (.mov (.t 31)), none⟩])
 (.keep [2]))
 .ret)))),
 [(.slot 2)]⟩
/-- spec l01Byte -/
def F_spec_l01Byte : Fun := ⟨1,
 (.seq
 (.seq (.ops [⟨(some 2), (.mov (.c (.int .i64 0))), none⟩])
 (.keep [0]))
 (.seq
 (.seq (.ops [⟨(some 4), (.mov (.t 0)), none⟩,
 ⟨(some 5), (.mov (.t 0)), none⟩,
 ⟨(some 6), (.chk (.t 5)), none⟩,
 ⟨(some 7), (.fa 2 (.t 6)), none⟩,
 ⟨(some 8), (.ld 1 false (.t 7)), none⟩,
 ⟨(some 9), (.bin .mul (.t 8) (.c (.int .i64 6364136223846793005))), none⟩,
 ⟨(some 10), (.bin .add (.t 9) (.c (.int .i64 1442695040888963407))), none⟩,
 ⟨(some 11), (.chk (.t 4)), none⟩,
 ⟨(some 12), (.fa 2 (.t 11)), none⟩,
 ⟨none, (.st 1 (.t 12) (.t 10)), none⟩])
 (.keep [0]))
 (.seq
 (.seq (.free true [⟨(some 13), (.mov (.t 0)), none⟩,
 ⟨(some 14), (.chk (.t 13)), none⟩,
 ⟨(some 15), (.fa 2 (.t 14)), none⟩,
 ⟨(some 16), (.ld 1 false (.t 15)), none⟩,
 ⟨(some 17), (.bin .shr (.t 16) (.c (.int .u64 33))), none⟩,
 ⟨(some 18), (.mov (.t 0)), none⟩,
 ⟨(some 19), (.chk (.t 18)), none⟩,
 ⟨(some 20), (.fa 2 (.t 19)), none⟩,
 ⟨(some 21), (.ld 1 false (.t 20)), none⟩,
 ⟨(some 22), (.bin .shr (.t 21) (.c (.int .u64 45))), none⟩,
 ⟨(some 23), (.bin .xor (.t 17) (.t 22)), none⟩,
 ⟨(some 24), (.bin .and (.t 23) (.c (.int .i64 255))), none⟩,
 ⟨(some 3), (.mov (.t 24)), none⟩])
 (.keep [0, 3]))
 (.seq
 (.seq
 (.seq (.free true [⟨(some 25), (.mov (.t 0)), none⟩,
 ⟨(some 26), (.chk (.t 25)), none⟩,
 ⟨(some 27), (.fa 1 (.t 26)), none⟩,
 ⟨(some 28), (.ld 1 false (.t 27)), none⟩,
 ⟨(some 29), (.mov (.t 0)), none⟩,
 ⟨(some 30), (.chk (.t 29)), none⟩,
 ⟨(some 31), (.fa 0 (.t 30)), none⟩,
 ⟨(some 32), (.ld 1 false (.t 31)), none⟩,
 ⟨(some 33), (.ln (.t 32)), none⟩,
 ⟨(some 34), (.bin .lss (.t 28) (.t 33)), none⟩])
 (.keep [0, 3, 34]))
 (.cond (.t 34)
 (.seq
 (.seq (.free true [⟨(some 35), (.mov (.t 3)), none⟩,
 ⟨(some 36), (.mov (.t 0)), none⟩,
 ⟨(some 37), (.chk (.t 36)), none⟩,
 ⟨(some 38), (.fa 0 (.t 37)), none⟩,
 ⟨(some 39), (.ld 1 false (.t 38)), none⟩,
 ⟨(some 40), (.mov (.t 0)), none⟩,
 ⟨(some 41), (.chk (.t 40)), none⟩,
 ⟨(some 42), (.fa 1 (.t 41)), none⟩,
 ⟨(some 43), (.ld 1 false (.t 42)), none⟩,
 ⟨(some 44), (.ia 1 (.t 39) (.t 43)), none⟩,
 ⟨(some 45), (.ld 1 false (.t 44)), none⟩,
 ⟨(some 46), (.conv .i64 (.t 45)), none⟩,
 ⟨(some 47), (.bin .add (.t 35) (.t 46)), none⟩,
 ⟨(some 48), (.bin .and (.t 47) (.c (.int .i64 255))), none⟩,
 ⟨(some 3), (.mov (.t 48)), none⟩])
 (.keep [0, 3]))
 (.seq (.ops [⟨(some 49), (.mov (.t 0)), none⟩,
 ⟨(some 50), (.mov (.t 0)), none⟩,
 ⟨(some 51), (.chk (.t 50)), none⟩,
 ⟨(some 52), (.fa 1 (.t 51)), none⟩,
 ⟨(some 53), (.ld 1 false (.t 52)), none⟩,
 ⟨(some 54), (.bin .add (.t 53) (.c (.int .i64 1))), none⟩,
 ⟨(some 55), (.chk (.t 49)), none⟩,
 ⟨(some 56), (.fa 1 (.t 55)), none⟩,
 ⟨none, (.st 1 (.t 56) (.t 54)), none⟩])
 (.keep [3])))
 .skip))
 (.seq
 (.seq (.ops [⟨(some 57), (.mov (.t 3)), none⟩,
 ⟨(some 2), (.mov (.t 57)), none⟩])
 (.keep [2]))
 .ret))))),
 [(.slot 2)]⟩
/-- spec l01Below -/
def F_spec_l01Below : Fun := ⟨2,
 (.seq
 (.seq (.ops [⟨(some 4), (.mov (.c (.int .i64 0))), none⟩])
 (.keep [0, 1]))
 (.seq
 (.seq
 (.seq (.ops [⟨(some 9), (.mov (.t 1)), none⟩,
 ⟨(some 10), (.bin .leq (.t 9) (.c (.int .i64 0))), none⟩])
 (.keep [0, 1, 10]))
 (.cond (.t 10)
 (.seq
 (.seq (.ops [⟨(some 4), (.mov (.c (.int .i64 0))), none⟩])
 (.keep [4]))
 .ret)
 .skip))
 (.seq
 (.seq
 (.seq (.ops [⟨(some 11), (.mov (.t 1)), none⟩,
 ⟨(some 12), (.bin .leq (.t 11) (.c (.int .i64 256))), none⟩])
 (.keep [0, 1, 12]))
 (.cond (.t 12)
 (.seq
 (.seq (.ops [⟨(some 13), (.mov (.t 0)), none⟩,
 ⟨(some 14), (.call n_spec_l01Byte [(.t 13)]), none⟩,
 ⟨(some 15), (.mov (.t 1)), none⟩,
 ⟨(some 16), (.bin .rem (.t 14) (.t 15)), none⟩,
 ⟨(some 4), (.mov (.t 16)), none⟩])
 (.keep [4]))
 .ret)
 .skip))
 (.seq
 (.seq (.ops [⟨(some 17), (.mov (.t 0)), none⟩,
 ⟨(some 18), (.call n_spec_l01Byte [(.t 17)]), none⟩,
 ⟨(some 5), (.mov (.t 18)), none⟩])
 (.keep [0, 1, 5]))
 (.seq
 (.seq (.ops [⟨(some 19), (.mov (.t 0)), none⟩,
 ⟨(some 20), (.call n_spec_l01Byte [(.t 19)]), none⟩,
 ⟨(some 6), (.mov (.t 20)), none⟩])
 (.keep [0, 1, 5, 6]))
 (.seq
 (.seq (.ops [⟨(some 21), (.mov (.t 0)), none⟩,
 ⟨(some 22), (.call n_spec_l01Byte [(.t 21)]), none⟩,
 ⟨(some 7), (.mov (.t 22)), none⟩])
 (.keep [0, 1, 5, 6, 7]))
 (.seq
 (.seq (.ops [⟨(some 23), (.mov (.t 0)), none⟩,
 ⟨(some 24), (.call n_spec_l01Byte [(.t 23)]), none⟩,
 ⟨(some 8), (.mov (.t 24)), none⟩])
 (.keep [1, 5, 6, 7, 8]))
 (.seq
 (.seq (.ops [⟨(some 25), (.mov (.t 5)), none⟩,
 ⟨(some 26), (.bin .mul (.t 25) (.c (.int .i64 16777216))), none⟩,
 ⟨(some 27), (.mov (.t 6)), none⟩,
 ⟨(some 28), (.bin .mul (.t 27) (.c (.int .i64 65536))), none⟩,
 ⟨(some 29), (.bin .add (.t 26) (.t 28)), none⟩,
 ⟨(some 30), (.mov (.t 7)), none⟩,
 ⟨(some 31), (.bin .mul (.t 30) (.c (.int .i64 256))), none⟩,
 ⟨(some 32), (.bin .add (.t 29) (.t 31)), none⟩,
 ⟨(some 33), (.mov (.t 8)), none⟩,
 ⟨(some 34), (.bin .add (.t 32) (.t 33)), none⟩,
 ⟨(some 35), (.mov (.t 1)), none⟩,
 ⟨(some 36), (.bin .rem (.t 34) (.t 35)), none⟩,
 ⟨(some 4), (.mov (.t 36)), none⟩])
 (.keep [4]))
 .ret)))))))),
 [(.slot 4)]⟩
/-- impl pieces -/
def F_impl_pieces : Fun := ⟨3,
 (.seq
 (.seq (.ops [⟨(some 6), (.mov (.c (.slice none 0 0))), none⟩])
 (.keep [0, 1, 2]))
 (.seq
 (.seq (.ops [⟨(some 18), (.mov (.t 0)), none⟩,
 ⟨(some 19), (.mk 1 y_int 8 [(.int .i64 0)] (.t 18)), none⟩,
 ⟨(some 7), (.mov (.t 19)), none⟩])
 (.keep [0, 1, 2, 7]))
 (.seq
 (.seq
 (.seq (.ops [⟨(some 20), (.mov (.t 7)), none⟩,
 ⟨(some 21), (.ln (.t 20)), none⟩,
 ⟨(some 22), (.mov (.c (.int .i64 0))), none⟩])
 (.keep [0, 1, 2, 7, 21, 22]))
 (.block 0
 (.loop
 (.seq
 (.seq (.ops [⟨(some 23), (.bin .lss (.t 22) (.t 21)), none⟩])
 (.keep [0, 1, 2, 7, 21, 22, 23]))
 (.seq
 (.cond (.t 23)
 .skip
 (.exit 0))
 (.seq
 (.block 1
 (.seq
 (.seq (.ops [⟨(some 24), (.mov (.t 22)), none⟩,
 ⟨(some 8), (.mov (.t 24)), none⟩])
 (.keep [0, 1, 2, 7, 8, 21, 22]))
 (.seq (.ops [⟨(some 25), (.mov (.t 7)), none⟩,
 ⟨(some 26), (.mov (.t 8)), none⟩,
 ⟨(some 27), (.mov (.t 8)), none⟩,
 ⟨(some 28), (.ia 1 (.t 25) (.t 26)), none⟩,
 ⟨none, (.st 1 (.t 28) (.t 27)), none⟩])
 (.keep [0, 1, 2, 7, 21, 22]))))
 (.seq (.ops [⟨(some 29), (.bin .add (.t 22) (.c (.int .i64 1))), none⟩,
 ⟨(some 22), (.mov (.t 29)), none⟩])
 (.keep [0, 1, 2, 7, 21, 22]))))))))
 (.seq
 (.seq
 (.seq (.ops [⟨(some 30), (.mov (.t 1)), none⟩,
 ⟨(some 31), (.ln (.t 30)), none⟩,
 ⟨(some 32), (.mov (.c (.int .i64 0))), none⟩])
 (.keep [0, 2, 7, 30, 31, 32]))
 (.block 2
 (.loop
 (.seq
 (.seq (.ops [⟨(some 33), (.bin .lss (.t 32) (.t 31)), none⟩])
 (.keep [0, 2, 7, 30, 31, 32, 33]))
 (.seq
 (.cond (.t 33)
 .skip
 (.exit 2))
 (.seq
 (.block 3
 (.seq
 (.seq (.ops [⟨(some 34), (.ia 5 (.t 30) (.t 32)), none⟩,
 ⟨(some 35), (.ld 5 true (.t 34)), none⟩,
 ⟨(some 10), (.newL [(.int .i64 0), (.int .i64 0), (.int .i64 0), (.int .i64 0), (.int .i64 0)]), none⟩,
 ⟨none, (.stB 5 10 (.t 35)), none⟩])
 (.keep [0, 2, 7, 10, 30, 31, 32]))
 (.seq
 (.seq (.free true [⟨(some 36), (.mov (.t 7)), none⟩,
 ⟨(some 37), (.faB 0 10), none⟩,
 ⟨(some 38), (.ldE 1 false 10 37), none⟩,
 ⟨(some 39), (.ia 1 (.t 36) (.t 38)), none⟩,
 ⟨(some 40), (.ld 1 false (.t 39)), none⟩,
 ⟨(some 41), (.mov (.t 7)), none⟩,
 ⟨(some 42), (.faB 1 10), none⟩,
 ⟨(some 43), (.ldE 1 false 10 42), none⟩,
 ⟨(some 44), (.ia 1 (.t 41) (.t 43)), none⟩,
 ⟨(some 45), (.ld 1 false (.t 44)), none⟩,
 ⟨(some 11), (.mov (.t 40)), none⟩,
 ⟨(some 12), (.mov (.t 45)), none⟩])
 (.keep [0, 2, 7, 10, 11, 12, 30, 31, 32]))
 (.seq
 (.seq
 (.seq (.ops [⟨(some 46), (.mov (.t 2)), none⟩,
 ⟨(some 47), (.faB 0 10), none⟩,
 ⟨(some 48), (.ldE 1 false 10 47), none⟩,
 ⟨(some 49), (.call n_impl_hasInt [(.t 46), (.t 48)]), none⟩,
 ⟨(some 50), (.mov (.t 49)), none⟩,
 ⟨(some 51), (.mov (.t 2)), (some (50, false))⟩,
 ⟨(some 52), (.faB 1 10), (some (50, false))⟩,
 ⟨(some 53), (.ldE 1 false 10 52), (some (50, false))⟩,
 ⟨(some 54), (.call n_impl_hasInt [(.t 51), (.t 53)]), (some (50, false))⟩,
 ⟨(some 55), (.pick (.t 50) (.c (.bool true)) (.t 54)), none⟩,
 ⟨(some 56), (.mov (.t 55)), none⟩,
 ⟨(some 57), (.mov (.t 11)), (some (56, false))⟩,
 ⟨(some 58), (.mov (.t 12)), (some (56, false))⟩,
 ⟨(some 59), (.bin .eql (.t 57) (.t 58)), (some (56, false))⟩,
 ⟨(some 60), (.pick (.t 56) (.c (.bool true)) (.t 59)), none⟩])
 (.keep [0, 2, 7, 11, 12, 30, 31, 32, 60]))
 (.cond (.t 60)
 (.exit 3)
 .skip))
 (.seq
 (.seq (.ops [⟨(some 61), (.mov (.t 7)), none⟩,
 ⟨(some 62), (.ln (.t 61)), none⟩,
 ⟨(some 63), (.mov (.c (.int .i64 0))), none⟩])
 (.keep [0, 2, 7, 11, 12, 30, 31, 32, 62, 63]))
 (.block 4
 (.loop
 (.seq
 (.seq (.ops [⟨(some 64), (.bin .lss (.t 63) (.t 62)), none⟩])
 (.keep [0, 2, 7, 11, 12, 30, 31, 32, 62, 63, 64]))
 (.seq
 (.cond (.t 64)
 .skip
 (.exit 4))
 (.seq
 (.block 5
 (.seq
 (.seq (.ops [⟨(some 65), (.mov (.t 63)), none⟩,
 ⟨(some 13), (.mov (.t 65)), none⟩])
 (.keep [0, 2, 7, 11, 12, 13, 30, 31, 32, 62, 63]))
 (.seq
 (.seq (.ops [⟨(some 66), (.mov (.t 7)), none⟩,
 ⟨(some 67), (.mov (.t 13)), none⟩,
 ⟨(some 68), (.ia 1 (.t 66) (.t 67)), none⟩,
 ⟨(some 69), (.ld 1 false (.t 68)), none⟩,
 ⟨(some 70), (.mov (.t 11)), none⟩,
 ⟨(some 71), (.mov (.t 12)), none⟩,
 ⟨(some 72), (.mm true (.t 70) (.t 71)), none⟩,
 ⟨(some 73), (.bin .eql (.t 69) (.t 72)), none⟩])
 (.keep [0, 2, 7, 11, 12, 13, 30, 31, 32, 62, 63, 73]))
 (.cond (.t 73)
 (.seq (.ops [⟨(some 74), (.mov (.t 7)), none⟩,
 ⟨(some 75), (.mov (.t 13)), none⟩,
 ⟨(some 76), (.mov (.t 11)), none⟩,
 ⟨(some 77), (.mov (.t 12)), none⟩,
 ⟨(some 78), (.mm false (.t 76) (.t 77)), none⟩,
 ⟨(some 79), (.ia 1 (.t 74) (.t 75)), none⟩,
 ⟨none, (.st 1 (.t 79) (.t 78)), none⟩])
 (.keep [0, 2, 7, 11, 12, 30, 31, 32, 62, 63]))
 .skip))))
 (.seq (.ops [⟨(some 80), (.bin .add (.t 63) (.c (.int .i64 1))), none⟩,
 ⟨(some 63), (.mov (.t 80)), none⟩])
 (.keep [0, 2, 7, 11, 12, 30, 31, 32, 62, 63]))))))))))))
 (.seq (.ops [⟨(some 81), (.bin .add (.t 32) (.c (.int .i64 1))), none⟩,
 ⟨(some 32), (.mov (.t 81)), none⟩])
 (.keep [0, 2, 7, 30, 31, 32]))))))))
 (.seq
 (.seq (.ops [⟨(some 14), (.mov (.c (.slice none 0 0))), none⟩])
 (.keep [0, 2, 7, 14]))
 (.seq
 (.seq
 (.seq (.ops [⟨(some 82), (.mov (.t 0)), none⟩,
 ⟨(some 83), (.mov (.c (.int .i64 0))), none⟩])
 (.keep [0, 2, 7, 14, 82, 83]))
 (.block 6
 (.loop
 (.seq
 (.seq (.ops [⟨(some 84), (.bin .lss (.t 83) (.t 82)), none⟩])
 (.keep [0, 2, 7, 14, 82, 83, 84]))
 (.seq
 (.cond (.t 84)
 .skip
 (.exit 6))
 (.seq
 (.block 7
 (.seq
 (.seq (.ops [⟨(some 85), (.mov (.t 83)), none⟩,
 ⟨(some 15), (.mov (.t 85)), none⟩])
 (.keep [0, 2, 7, 14, 15, 82, 83]))
 (.seq
 (.seq
 (.seq (.ops [⟨(some 86), (.mov (.t 7)), none⟩,
 ⟨(some 87), (.mov (.t 15)), none⟩,
 ⟨(some 88), (.ia 1 (.t 86) (.t 87)), none⟩,
 ⟨(some 89), (.ld 1 false (.t 88)), none⟩,
 ⟨(some 90), (.mov (.t 15)), none⟩,
 ⟨(some 91), (.bin .neq (.t 89) (.t 90)), none⟩,
 ⟨(some 92), (.mov (.t 91)), none⟩,
 ⟨(some 93), (.mov (.t 2)), (some (92, false))⟩,
 ⟨(some 94), (.mov (.t 15)), (some (92, false))⟩,
 ⟨(some 95), (.call n_impl_hasInt [(.t 93), (.t 94)]), (some (92, false))⟩,
 ⟨(some 96), (.pick (.t 92) (.c (.bool true)) (.t 95)), none⟩])
 (.keep [0, 2, 7, 14, 15, 82, 83, 96]))
 (.cond (.t 96)
 (.exit 7)
 .skip))
 (.seq
 (.seq (.ops [⟨(some 16), (.mov (.c (.slice none 0 0))), none⟩])
 (.keep [0, 2, 7, 14, 15, 16, 82, 83]))
 (.seq
 (.seq
 (.seq (.ops [⟨(some 97), (.mov (.t 0)), none⟩,
 ⟨(some 98), (.mov (.c (.int .i64 0))), none⟩])
 (.keep [0, 2, 7, 14, 15, 16, 82, 83, 97, 98]))
 (.block 8
 (.loop
 (.seq
 (.seq (.ops [⟨(some 99), (.bin .lss (.t 98) (.t 97)), none⟩])
 (.keep [0, 2, 7, 14, 15, 16, 82, 83, 97, 98, 99]))
 (.seq
 (.cond (.t 99)
 .skip
 (.exit 8))
 (.seq
 (.block 9
 (.seq
 (.seq (.ops [⟨(some 100), (.mov (.t 98)), none⟩,
 ⟨(some 17), (.mov (.t 100)), none⟩])
 (.keep [0, 2, 7, 14, 15, 16, 17, 82, 83, 97, 98]))
 (.seq
 (.seq (.ops [⟨(some 101), (.mov (.t 7)), none⟩,
 ⟨(some 102), (.mov (.t 17)), none⟩,
 ⟨(some 103), (.ia 1 (.t 101) (.t 102)), none⟩,
 ⟨(some 104), (.ld 1 false (.t 103)), none⟩,
 ⟨(some 105), (.mov (.t 15)), none⟩,
 ⟨(some 106), (.bin .eql (.t 104) (.t 105)), none⟩])
 (.keep [0, 2, 7, 14, 15, 16, 17, 82, 83, 97, 98, 106]))
 (.cond (.t 106)
 (.seq (.ops [⟨(some 107), (.mov (.t 16)), none⟩,
 ⟨(some 108), (.mov (.t 17)), none⟩,
 ⟨(some 109), (.litL 1 1 [(.int .i64 0)] [(0, (.t 108))]), none⟩,
 ⟨(some 110), (.appL 1 y_int 8 1 (.t 107) 109), none⟩,
 ⟨(some 16), (.mov (.t 110)), none⟩])
 (.keep [0, 2, 7, 14, 15, 16, 82, 83, 97, 98]))
 .skip))))
 (.seq (.ops [⟨(some 111), (.bin .add (.t 98) (.c (.int .i64 1))), none⟩,
 ⟨(some 98), (.mov (.t 111)), none⟩])
 (.keep [0, 2, 7, 14, 15, 16, 82, 83, 97, 98]))))))))
 (.seq (.ops [⟨(some 112), (.mov (.t 14)), none⟩,
 ⟨(some 113), (.mov (.t 16)), none⟩,
 ⟨(some 114), (.litL 1 1 [(.slice none 0 0)] [(0, (.t 113))]), none⟩,
 ⟨(some 115), (.appL 1 y_ints 24 1 (.t 112) 114), none⟩,
 ⟨(some 14), (.mov (.t 115)), none⟩])
 (.keep [0, 2, 7, 14, 82, 83])))))))
 (.seq (.ops [⟨(some 116), (.bin .add (.t 83) (.c (.int .i64 1))), none⟩,
 ⟨(some 83), (.mov (.t 116)), none⟩])
 (.keep [0, 2, 7, 14, 82, 83]))))))))
 (.seq
 (.seq (.ops [⟨(some 117), (.mov (.t 14)), none⟩,
 ⟨(some 6), (.mov (.t 117)), none⟩])
 (.keep [6]))
 .ret))))))),
 [(.slot 6)]⟩
/-- impl with -/
def F_impl_with : Fun := ⟨2,
 (.seq
 (.seq (.ops [⟨(some 4), (.mov (.c (.slice none 0 0))), none⟩])
 (.keep [0, 1]))
 (.seq
 (.seq (.ops [⟨(some 5), (.mov (.c (.int .i64 0))), none⟩])
 (.keep [0, 1, 5]))
 (.seq
 (.block 0
 (.loop
 (.seq
 (.seq
 (.seq (.ops [⟨(some 6), (.mov (.t 5)), none⟩,
 ⟨(some 7), (.mov (.t 0)), none⟩,
 ⟨(some 8), (.ln (.t 7)), none⟩,
 ⟨(some 9), (.bin .lss (.t 6) (.t 8)), none⟩,
 ⟨(some 10), (.mov (.t 9)), none⟩,
 ⟨(some 11), (.mov (.t 0)), (some (10, true))⟩,
 ⟨(some 12), (.mov (.t 5)), (some (10, true))⟩,
 ⟨(some 13), (.ia 1 (.t 11) (.t 12)), (some (10, true))⟩,
 ⟨(some 14), (.ld 1 false (.t 13)), (some (10, true))⟩,
 ⟨(some 15), (.mov (.t 1)), (some (10, true))⟩,
 ⟨(some 16), (.bin .lss (.t 14) (.t 15)), (some (10, true))⟩,
 ⟨(some 17), (.pick (.t 10) (.t 16) (.c (.bool false))), none⟩])
 (.keep [0, 1, 5, 17]))
 (.cond (.t 17)
 .skip
 (.exit 0)))
 (.block 1
 (.seq (.ops [⟨(some 18), (.mov (.t 5)), none⟩,
 ⟨(some 19), (.bin .add (.t 18) (.c (.int .i64 1))), none⟩,
 ⟨(some 5), (.mov (.t 19)), none⟩])
 (.keep [0, 1, 5]))))))
 (.seq
 (.seq
 (.seq (.ops [⟨(some 20), (.mov (.t 5)), none⟩,
 ⟨(some 21), (.mov (.t 0)), none⟩,
 ⟨(some 22), (.ln (.t 21)), none⟩,
 ⟨(some 23), (.bin .lss (.t 20) (.t 22)), none⟩,
 ⟨(some 24), (.mov (.t 23)), none⟩,
 ⟨(some 25), (.mov (.t 0)), (some (24, true))⟩,
 ⟨(some 26), (.mov (.t 5)), (some (24, true))⟩,
 ⟨(some 27), (.ia 1 (.t 25) (.t 26)), (some (24, true))⟩,
 ⟨(some 28), (.ld 1 false (.t 27)), (some (24, true))⟩,
 ⟨(some 29), (.mov (.t 1)), (some (24, true))⟩,
 ⟨(some 30), (.bin .eql (.t 28) (.t 29)), (some (24, true))⟩,
 ⟨(some 31), (.pick (.t 24) (.t 30) (.c (.bool false))), none⟩])
 (.keep [0, 1, 5, 31]))
 (.cond (.t 31)
 (.seq
 (.seq (.ops [⟨(some 32), (.mov (.t 0)), none⟩,
 ⟨(some 4), (.mov (.t 32)), none⟩])
 (.keep [4]))
 .ret)
 .skip))
 (.seq
 (.seq (.free false [⟨(some 33), (.mov (.t 0)), none⟩,
 ⟨(some 34), (.mov (.t 5)), none⟩,
 ⟨(some 35), (.slL 1 (.t 33) none (some (.t 34))), none⟩,
 ⟨(some 36), (.call n_impl_copyInts [(.t 35)]), none⟩,
 ⟨(some 37), (.mov (.t 1)), none⟩,
 ⟨(some 38), (.litL 1 1 [(.int .i64 0)] [(0, (.t 37))]), none⟩,
 ⟨(some 39), (.appL 1 y_int 8 1 (.t 36) 38), none⟩,
 ⟨(some 40), (.mov (.t 0)), none⟩,
 ⟨(some 41), (.mov (.t 5)), none⟩,
 ⟨(some 42), (.slL 1 (.t 40) (some (.t 41)) none), none⟩,
 ⟨(some 43), (.app 1 y_int 8 (.t 39) (.t 42)), none⟩,
 ⟨(some 4), (.mov (.t 43)), none⟩])
 (.keep [4]))
 .ret))))),
 [(.slot 4)]⟩
/-- spec l17Parts -/
def F_spec_l17Parts : Fun := ⟨2,
 (.seq
 (.seq (.ops [⟨(some 2), (.boxL 2 (.t 0)), none⟩,
 ⟨(some 4), (.mov (.c (.slice none 0 0))), none⟩])
 (.keep [1, 2]))
 (.seq
 (.seq (.ops [⟨(some 9), (.lit 0 1 y_ints [(.slice none 0 0)] []), none⟩,
 ⟨(some 5), (.mov (.t 9)), none⟩])
 (.keep [1, 2, 5]))
 (.seq
 (.seq (.ops [⟨(some 10), (.lit 0 1 y_int [(.int .i64 0)] []), none⟩,
 ⟨(some 6), (.mov (.t 10)), none⟩])
 (.keep [1, 2, 5, 6]))
 (.seq
 (.seq
 (.seq (.ops [⟨(some 7), (.mov (.c (.int .i64 0))), none⟩])
 (.keep [1, 2, 5, 6, 7]))
 (.block 0
 (.loop
 (.seq
 (.seq
 (.seq (.ops [⟨(some 11), (.mov (.t 7)), none⟩,
 ⟨(some 12), (.faB 0 2), none⟩,
 ⟨(some 13), (.ldE 1 false 2 12), none⟩,
 ⟨(some 14), (.bin .lss (.t 11) (.t 13)), none⟩])
 (.keep [1, 2, 5, 6, 7, 14]))
 (.cond (.t 14)
 .skip
 (.exit 0)))
 (.seq
 (.block 1
 (.seq
 (.seq
 (.seq (.ops [⟨(some 17), (.mov (.t 1)), none⟩,
 ⟨(some 18), (.mov (.t 7)), none⟩,
 ⟨(some 19), (.call n_spec_l03In [(.t 17), (.t 18)]), none⟩,
 ⟨(some 20), (.mov (.t 19)), none⟩,
 ⟨(some 21), (.mov (.t 6)), (some (20, false))⟩,
 ⟨(some 22), (.mov (.t 7)), (some (20, false))⟩,
 ⟨(some 23), (.call n_spec_l03In [(.t 21), (.t 22)]), (some (20, false))⟩,
 ⟨(some 24), (.pick (.t 20) (.c (.bool true)) (.t 23)), none⟩])
 (.keep [1, 2, 5, 6, 7, 24]))
 (.cond (.t 24)
 (.exit 1)
 .skip))
 (.seq
 (.seq (.ops [⟨(some 25), (.ldB 2 true 2), none⟩,
 ⟨(some 26), (.mov (.t 7)), none⟩,
 ⟨(some 27), (.mov (.t 1)), none⟩,
 ⟨(some 28), (.call n_spec_l17Part [(.t 25), (.t 26), (.t 27)]), none⟩,
 ⟨(some 8), (.mov (.t 28)), none⟩])
 (.keep [1, 2, 5, 6, 7, 8]))
 (.seq
 (.seq (.ops [⟨(some 29), (.mov (.t 6)), none⟩,
 ⟨(some 30), (.mov (.t 8)), none⟩,
 ⟨(some 31), (.app 1 y_int 8 (.t 29) (.t 30)), none⟩,
 ⟨(some 6), (.mov (.t 31)), none⟩])
 (.keep [1, 2, 5, 6, 7, 8]))
 (.seq (.ops [⟨(some 32), (.mov (.t 5)), none⟩,
 ⟨(some 33), (.mov (.t 8)), none⟩,
 ⟨(some 34), (.litL 1 1 [(.slice none 0 0)] [(0, (.t 33))]), none⟩,
 ⟨(some 35), (.appL 1 y_ints 24 1 (.t 32) 34), none⟩,
 ⟨(some 5), (.mov (.t 35)), none⟩])
 (.keep [1, 2, 5, 6, 7]))))))
 (.seq (.ops [⟨(some 15), (.mov (.t 7)), none⟩,
 ⟨(some 16), (.bin .add (.t 15) (.c (.int .i64 1))), none⟩,
 ⟨(some 7), (.mov (.t 16)), none⟩])
 (.keep [1, 2, 5, 6, 7])))))))
 (.seq
 (.seq (.ops [⟨(some 36), (.mov (.t 5)), none⟩,
 ⟨(some 4), (.mov (.t 36)), none⟩])
 (.keep [4]))
 .ret))))),
 [(.slot 4)]⟩
/-- spec l13Ask -/
def F_spec_l13Ask : Fun := ⟨2,
 (.seq
 (.seq (.ops [⟨(some 4), (.newL [(.int .i64 0), (.int .i64 0), (.int .i64 0), (.int .i64 0), (.int .i64 0), (.int .i64 0)]), none⟩])
 (.keep [0, 1, 4]))
 (.seq
 (.seq (.ops [⟨(some 9), (.mov (.t 0)), none⟩,
 ⟨(some 10), (.lit 11 1 y_int [(.int .i64 0)] [(0, (.c (.int .i64 1))), (1, (.c (.int .i64 1))), (2, (.c (.int .i64 2))), (3, (.c (.int .i64 2))), (4, (.c (.int .i64 2))), (5, (.c (.int .i64 2))), (6, (.c (.int .i64 2))), (7, (.c (.int .i64 3))), (8, (.c (.int .i64 4))), (9, (.c (.int .i64 5))), (10, (.c (.int .i64 6)))]), none⟩,
 ⟨(some 11), (.call n_spec_l01PickInt [(.t 9), (.t 10)]), none⟩,
 ⟨(some 12), (.bld [(.int .i64 0), (.int .i64 0), (.int .i64 0), (.int .i64 0), (.int .i64 0), (.int .i64 0)] [(0, (1, (.t 11)))]), none⟩,
 ⟨(some 5), (.newL [(.int .i64 0), (.int .i64 0), (.int .i64 0), (.int .i64 0), (.int .i64 0), (.int .i64 0)]), none⟩,
 ⟨none, (.stB 6 5 (.t 12)), none⟩])
 (.keep [0, 1, 4, 5]))
 (.seq
 (.seq (.ops [⟨(some 13), (.mov (.t 1)), none⟩,
 ⟨(some 14), (.call n_spec_l13Ids [(.t 13), (.c (.string ⟨⟨[97]⟩⟩))]), none⟩,
 ⟨(some 6), (.mov (.t 14)), none⟩])
 (.keep [0, 4, 5, 6]))
 (.seq
 (.seq
 (.seq (.ops [⟨(some 15), (.faB 0 5), none⟩,
 ⟨(some 16), (.ldE 1 false 5 15), none⟩])
 (.keep [0, 4, 5, 6, 16]))
 (.block 0
 (.seq
 (.seq (.ops [⟨(some 18), (.bin .eql (.t 16) (.c (.int .i64 1))), none⟩,
 ⟨(some 17), (.mov (.t 18)), none⟩])
 (.keep [0, 4, 5, 6, 16, 17]))
 (.cond (.t 17)
 (.seq (.ops [⟨(some 19), (.mov (.t 0)), none⟩,
 ⟨(some 20), (.call n_spec_l01Below [(.t 19), (.c (.int .i64 12))]), none⟩,
 ⟨(some 21), (.faB 1 5), none⟩,
 ⟨none, (.stE 1 5 21 (.t 20)), none⟩])
 (.keep [0, 4, 5]))
 (.seq
 (.seq (.ops [⟨(some 23), (.bin .eql (.t 16) (.c (.int .i64 2))), none⟩,
 ⟨(some 22), (.mov (.t 23)), none⟩])
 (.keep [0, 4, 5, 6, 16, 22]))
 (.cond (.t 22)
 (.seq
 (.seq
 (.seq (.ops [⟨(some 24), (.mov (.t 6)), none⟩,
 ⟨(some 25), (.ln (.t 24)), none⟩,
 ⟨(some 26), (.bin .gtr (.t 25) (.c (.int .i64 1))), none⟩])
 (.keep [0, 4, 5, 6, 26]))
 (.cond (.t 26)
 (.seq
 (.seq (.ops [⟨(some 27), (.mov (.t 0)), none⟩,
 ⟨(some 28), (.mov (.t 6)), none⟩,
 ⟨(some 29), (.ln (.t 28)), none⟩,
 ⟨(some 30), (.call n_spec_l01Below [(.t 27), (.t 29)]), none⟩,
 ⟨(some 7), (.mov (.t 30)), none⟩])
 (.keep [0, 4, 5, 6, 7]))
 (.seq
 (.seq (.ops [⟨(some 31), (.mov (.t 6)), none⟩,
 ⟨(some 32), (.mov (.t 7)), none⟩,
 ⟨(some 33), (.ia 1 (.t 31) (.t 32)), none⟩,
 ⟨(some 34), (.ld 1 false (.t 33)), none⟩,
 ⟨(some 35), (.faB 1 5), none⟩,
 ⟨none, (.stE 1 5 35 (.t 34)), none⟩])
 (.keep [0, 4, 5, 6, 7]))
 (.seq (.ops [⟨(some 36), (.mov (.t 6)), none⟩,
 ⟨(some 37), (.mov (.t 7)), none⟩,
 ⟨(some 38), (.bin .add (.t 37) (.c (.int .i64 1))), none⟩,
 ⟨(some 39), (.mov (.t 0)), none⟩,
 ⟨(some 40), (.mov (.t 6)), none⟩,
 ⟨(some 41), (.ln (.t 40)), none⟩,
 ⟨(some 42), (.bin .sub (.t 41) (.c (.int .i64 1))), none⟩,
 ⟨(some 43), (.call n_spec_l01Below [(.t 39), (.t 42)]), none⟩,
 ⟨(some 44), (.bin .add (.t 38) (.t 43)), none⟩,
 ⟨(some 45), (.mov (.t 6)), none⟩,
 ⟨(some 46), (.ln (.t 45)), none⟩,
 ⟨(some 47), (.bin .rem (.t 44) (.t 46)), none⟩,
 ⟨(some 48), (.ia 1 (.t 36) (.t 47)), none⟩,
 ⟨(some 49), (.ld 1 false (.t 48)), none⟩,
 ⟨(some 50), (.faB 2 5), none⟩,
 ⟨none, (.stE 1 5 50 (.t 49)), none⟩])
 (.keep [0, 4, 5]))))
 .skip))
 (.seq
 (.seq (.ops [⟨(some 51), (.mov (.t 0)), none⟩,
 ⟨(some 52), (.lit 2 1 y_int [(.int .i64 0)] [(0, (.c (.int .i64 3))), (1, (.c (.int .i64 51)))]), none⟩,
 ⟨(some 53), (.call n_spec_l01PickInt [(.t 51), (.t 52)]), none⟩,
 ⟨(some 8), (.mov (.t 53)), none⟩])
 (.keep [0, 4, 5, 8]))
 (.seq
 (.seq (.ops [⟨(some 54), (.mov (.t 0)), none⟩,
 ⟨(some 55), (.mov (.t 8)), none⟩,
 ⟨(some 56), (.call n_spec_l01Below [(.t 54), (.t 55)]), none⟩,
 ⟨(some 57), (.faB 3 5), none⟩,
 ⟨none, (.stE 1 5 57 (.t 56)), none⟩])
 (.keep [0, 4, 5, 8]))
 (.seq
 (.seq (.ops [⟨(some 58), (.mov (.t 0)), none⟩,
 ⟨(some 59), (.mov (.t 8)), none⟩,
 ⟨(some 60), (.call n_spec_l01Below [(.t 58), (.t 59)]), none⟩,
 ⟨(some 61), (.faB 4 5), none⟩,
 ⟨none, (.stE 1 5 61 (.t 60)), none⟩])
 (.keep [0, 4, 5, 8]))
 (.seq (.ops [⟨(some 62), (.mov (.t 0)), none⟩,
 ⟨(some 63), (.mov (.t 8)), none⟩,
 ⟨(some 64), (.call n_spec_l01Below [(.t 62), (.t 63)]), none⟩,
 ⟨(some 65), (.faB 5 5), none⟩,
 ⟨none, (.stE 1 5 65 (.t 64)), none⟩])
 (.keep [0, 4, 5]))))))
 (.seq
 (.seq (.ops [⟨(some 67), (.bin .eql (.t 16) (.c (.int .i64 3))), none⟩,
 ⟨(some 66), (.mov (.t 67)), none⟩])
 (.keep [0, 4, 5, 6, 16, 66]))
 (.cond (.t 66)
 (.seq
 (.seq (.ops [⟨(some 68), (.mov (.t 6)), none⟩,
 ⟨(some 69), (.ln (.t 68)), none⟩,
 ⟨(some 70), (.bin .gtr (.t 69) (.c (.int .i64 0))), none⟩])
 (.keep [0, 4, 5, 6, 70]))
 (.cond (.t 70)
 (.seq (.ops [⟨(some 71), (.mov (.t 6)), none⟩,
 ⟨(some 72), (.mov (.t 0)), none⟩,
 ⟨(some 73), (.mov (.t 6)), none⟩,
 ⟨(some 74), (.ln (.t 73)), none⟩,
 ⟨(some 75), (.call n_spec_l01Below [(.t 72), (.t 74)]), none⟩,
 ⟨(some 76), (.ia 1 (.t 71) (.t 75)), none⟩,
 ⟨(some 77), (.ld 1 false (.t 76)), none⟩,
 ⟨(some 78), (.faB 1 5), none⟩,
 ⟨none, (.stE 1 5 78 (.t 77)), none⟩])
 (.keep [0, 4, 5]))
 .skip))
 (.seq
 (.seq (.ops [⟨(some 80), (.bin .eql (.t 16) (.c (.int .i64 5))), none⟩,
 ⟨(some 79), (.mov (.t 80)), none⟩])
 (.keep [0, 4, 5, 79]))
 (.cond (.t 79)
 (.seq (.ops [⟨(some 81), (.mov (.t 0)), none⟩,
 ⟨(some 82), (.call n_spec_l01Below [(.t 81), (.c (.int .i64 3))]), none⟩,
 ⟨(some 83), (.faB 1 5), none⟩,
 ⟨none, (.stE 1 5 83 (.t 82)), none⟩])
 (.keep [0, 4, 5]))
 .skip))))))))))
 (.seq
 (.seq
 (.seq (.ops [⟨(some 84), (.mov (.t 0)), none⟩,
 ⟨(some 85), (.call n_spec_l01Below [(.t 84), (.c (.int .i64 30))]), none⟩])
 (.keep [0, 4, 5, 85]))
 (.block 1
 (.seq
 (.seq (.ops [⟨(some 87), (.bin .eql (.t 85) (.c (.int .i64 0))), none⟩,
 ⟨(some 86), (.mov (.t 87)), none⟩])
 (.keep [0, 4, 5, 85, 86]))
 (.cond (.t 86)
 (.seq (.ops [⟨(some 88), (.mov (.t 0)), none⟩,
 ⟨(some 89), (.lit 4 1 y_int [(.int .i64 0)] [(0, (.c (.int .i64 (-1)))), (1, (.c (.int .i64 11))), (2, (.c (.int .i64 12))), (3, (.c (.int .i64 3)))]), none⟩,
 ⟨(some 90), (.call n_spec_l01PickInt [(.t 88), (.t 89)]), none⟩,
 ⟨(some 91), (.faB 1 5), none⟩,
 ⟨none, (.stE 1 5 91 (.t 90)), none⟩])
 (.keep [4, 5]))
 (.seq
 (.seq (.ops [⟨(some 93), (.bin .eql (.t 85) (.c (.int .i64 1))), none⟩,
 ⟨(some 92), (.mov (.t 93)), none⟩])
 (.keep [0, 4, 5, 85, 92]))
 (.cond (.t 92)
 (.seq (.ops [⟨(some 94), (.mov (.t 0)), none⟩,
 ⟨(some 95), (.lit 3 1 y_int [(.int .i64 0)] [(0, (.c (.int .i64 (-1)))), (1, (.c (.int .i64 50))), (2, (.c (.int .i64 51)))]), none⟩,
 ⟨(some 96), (.call n_spec_l01PickInt [(.t 94), (.t 95)]), none⟩,
 ⟨(some 97), (.faB 3 5), none⟩,
 ⟨none, (.stE 1 5 97 (.t 96)), none⟩])
 (.keep [4, 5]))
 (.seq
 (.seq (.ops [⟨(some 99), (.bin .eql (.t 85) (.c (.int .i64 2))), none⟩,
 ⟨(some 98), (.mov (.t 99)), none⟩])
 (.keep [0, 4, 5, 85, 98]))
 (.cond (.t 98)
 (.seq (.ops [⟨(some 100), (.faB 1 5), none⟩,
 ⟨(some 101), (.ldE 1 false 5 100), none⟩,
 ⟨(some 102), (.faB 2 5), none⟩,
 ⟨none, (.stE 1 5 102 (.t 101)), none⟩])
 (.keep [4, 5]))
 (.seq
 (.seq (.ops [⟨(some 104), (.bin .eql (.t 85) (.c (.int .i64 3))), none⟩,
 ⟨(some 103), (.mov (.t 104)), none⟩])
 (.keep [0, 4, 5, 103]))
 (.cond (.t 103)
 (.seq (.ops [⟨(some 105), (.mov (.t 0)), none⟩,
 ⟨(some 106), (.lit 2 1 y_int [(.int .i64 0)] [(0, (.c (.int .i64 0))), (1, (.c (.int .i64 7)))]), none⟩,
 ⟨(some 107), (.call n_spec_l01PickInt [(.t 105), (.t 106)]), none⟩,
 ⟨(some 108), (.faB 0 5), none⟩,
 ⟨none, (.stE 1 5 108 (.t 107)), none⟩])
 (.keep [4, 5]))
 .skip))))))))))
 (.seq
 (.seq (.ops [⟨(some 109), (.ldB 6 true 5), none⟩,
 ⟨none, (.stB 6 4 (.t 109)), none⟩])
 (.keep [4]))
 .ret)))))),
 [(.box 4 6 true)]⟩
/-- spec l01Once -/
def F_spec_l01Once : Fun := ⟨2,
 (.seq
 (.seq (.ops [⟨(some 4), (.mov (.c (.bool false))), none⟩])
 (.keep [0, 1]))
 (.seq
 (.seq (.ops [⟨(some 5), (.mov (.t 0)), none⟩,
 ⟨(some 6), (.mov (.t 1)), none⟩,
 ⟨(some 7), (.call n_spec_l01Below [(.t 5), (.t 6)]), none⟩,
 ⟨(some 8), (.bin .eql (.t 7) (.c (.int .i64 0))), none⟩,
 ⟨(some 4), (.mov (.t 8)), none⟩])
 (.keep [4]))
 .ret)),
 [(.slot 4)]⟩
/-- spec l01PickInt -/
def F_spec_l01PickInt : Fun := ⟨2,
 (.seq
 (.seq (.ops [⟨(some 4), (.mov (.c (.int .i64 0))), none⟩])
 (.keep [0, 1]))
 (.seq
 (.seq (.ops [⟨(some 5), (.mov (.t 1)), none⟩,
 ⟨(some 6), (.mov (.t 0)), none⟩,
 ⟨(some 7), (.mov (.t 1)), none⟩,
 ⟨(some 8), (.ln (.t 7)), none⟩,
 ⟨(some 9), (.call n_spec_l01Below [(.t 6), (.t 8)]), none⟩,
 ⟨(some 10), (.ia 1 (.t 5) (.t 9)), none⟩,
 ⟨(some 11), (.ld 1 false (.t 10)), none⟩,
 ⟨(some 4), (.mov (.t 11)), none⟩])
 (.keep [4]))
 .ret)),
 [(.slot 4)]⟩
/-- impl told -/
def F_impl_told : Fun := ⟨1,
 (.seq
 (.seq (.ops [⟨(some 1), (.boxL 6 (.t 0)), none⟩,
 ⟨(some 2), (.mov (.c (.slice none 0 0))), none⟩])
 (.keep [1]))
 (.seq
 (.seq
 (.seq (.ops [⟨(some 3), (.faB 0 1), none⟩,
 ⟨(some 4), (.ldE 1 false 1 3), none⟩])
 (.keep [1, 4]))
 (.block 0
 (.seq
 (.seq
 (.seq (.ops [⟨(some 6), (.bin .eql (.t 4) (.c (.int .i64 1))), none⟩,
 ⟨(some 5), (.mov (.t 6)), none⟩])
 (.keep [1, 4, 5]))
 (.cond (.t 5)
 .skip
 (.seq
 (.seq (.ops [⟨(some 7), (.bin .eql (.t 4) (.c (.int .i64 3))), none⟩,
 ⟨(some 5), (.mov (.t 7)), none⟩])
 (.keep [1, 4, 5]))
 (.cond (.t 5)
 .skip
 (.seq (.ops [⟨(some 8), (.bin .eql (.t 4) (.c (.int .i64 5))), none⟩,
 ⟨(some 5), (.mov (.t 8)), none⟩])
 (.keep [1, 4, 5]))))))
 (.cond (.t 5)
 (.seq
 (.seq (.ops [⟨(some 9), (.faB 1 1), none⟩,
 ⟨(some 10), (.ldE 1 false 1 9), none⟩,
 ⟨(some 11), (.lit 1 1 y_int [(.int .i64 0)] [(0, (.t 10))]), none⟩,
 ⟨(some 2), (.mov (.t 11)), none⟩])
 (.keep [2]))
 .ret)
 (.seq
 (.seq (.ops [⟨(some 13), (.bin .eql (.t 4) (.c (.int .i64 2))), none⟩,
 ⟨(some 12), (.mov (.t 13)), none⟩])
 (.keep [1, 12]))
 (.cond (.t 12)
 (.seq
 (.seq (.ops [⟨(some 14), (.faB 1 1), none⟩,
 ⟨(some 15), (.ldE 1 false 1 14), none⟩,
 ⟨(some 16), (.faB 2 1), none⟩,
 ⟨(some 17), (.ldE 1 false 1 16), none⟩,
 ⟨(some 18), (.faB 3 1), none⟩,
 ⟨(some 19), (.ldE 1 false 1 18), none⟩,
 ⟨(some 20), (.faB 4 1), none⟩,
 ⟨(some 21), (.ldE 1 false 1 20), none⟩,
 ⟨(some 22), (.faB 5 1), none⟩,
 ⟨(some 23), (.ldE 1 false 1 22), none⟩,
 ⟨(some 24), (.lit 5 1 y_int [(.int .i64 0)] [(0, (.t 15)), (1, (.t 17)), (2, (.t 19)), (3, (.t 21)), (4, (.t 23))]), none⟩,
 ⟨(some 2), (.mov (.t 24)), none⟩])
 (.keep [2]))
 .ret)
 .skip))))))
 (.seq
 (.seq (.ops [⟨(some 2), (.mov (.c (.slice none 0 0))), none⟩])
 (.keep [2]))
 .ret))),
 [(.slot 2)]⟩
/-- impl in -/
def F_impl_in : Fun := ⟨3,
 (.seq
 (.seq (.ops [⟨(some 6), (.mov (.c (.bool false))), none⟩])
 (.keep [0, 1, 2]))
 (.seq
 (.seq (.ops [⟨(some 7), (.mov (.t 0)), none⟩,
 ⟨(some 8), (.mov (.t 1)), none⟩,
 ⟨(some 9), (.bin .geq (.t 7) (.t 8)), none⟩,
 ⟨(some 10), (.mov (.t 9)), none⟩,
 ⟨(some 11), (.mov (.t 0)), (some (10, true))⟩,
 ⟨(some 12), (.mov (.t 2)), (some (10, true))⟩,
 ⟨(some 13), (.bin .leq (.t 11) (.t 12)), (some (10, true))⟩,
 ⟨(some 14), (.pick (.t 10) (.t 13) (.c (.bool false))), none⟩,
 ⟨(some 6), (.mov (.t 14)), none⟩])
 (.keep [6]))
 .ret)),
 [(.slot 6)]⟩
/-- impl vars -/
def F_impl_vars : Fun := ⟨1,
 (.seq
 (.seq (.ops [⟨(some 2), (.mov (.c (.string ⟨⟨[]⟩⟩))), none⟩])
 (.keep [0]))
 (.seq
 (.seq (.ops [⟨(some 3), (.mov (.c (.string ⟨⟨[]⟩⟩))), none⟩])
 (.keep [0, 3]))
 (.seq
 (.seq
 (.seq (.ops [⟨(some 8), (.mov (.t 0)), none⟩,
 ⟨(some 9), (.ln (.t 8)), none⟩,
 ⟨(some 10), (.mov (.c (.int .i64 0))), none⟩])
 (.keep [3, 8, 9, 10]))
 (.block 0
 (.loop
 (.seq
 (.seq (.ops [⟨(some 11), (.bin .lss (.t 10) (.t 9)), none⟩])
 (.keep [3, 8, 9, 10, 11]))
 (.seq
 (.cond (.t 11)
 .skip
 (.exit 0))
 (.seq
 (.block 1
 (.seq
 (.seq (.ops [⟨(some 12), (.ia 1 (.t 8) (.t 10)), none⟩,
 ⟨(some 13), (.ld 1 false (.t 12)), none⟩,
 ⟨(some 5), (.mov (.t 13)), none⟩])
 (.keep [3, 5, 8, 9, 10]))
 (.seq
 (.seq (.ops [⟨(some 15), (.mov (.t 5)), none⟩,
 ⟨(some 16), (.call n_impl_VarText [(.t 15)]), none⟩,
 ⟨(some 14), (.mov (.t 16)), none⟩,
 ⟨(some 17), (.ext 0 (.t 14)), none⟩,
 ⟨(some 18), (.ext 1 (.t 14)), none⟩,
 ⟨(some 6), (.mov (.t 17)), none⟩,
 ⟨(some 7), (.mov (.t 18)), none⟩])
 (.keep [3, 6, 8, 9, 10]))
 (.seq (.ops [⟨(some 19), (.mov (.t 3)), none⟩,
 ⟨(some 20), (.mov (.t 6)), none⟩,
 ⟨(some 21), (.bin .add (.t 19) (.t 20)), none⟩,
 ⟨(some 3), (.mov (.t 21)), none⟩])
 (.keep [3, 8, 9, 10])))))
 (.seq (.ops [⟨(some 22), (.bin .add (.t 10) (.c (.int .i64 1))), none⟩,
 ⟨(some 10), (.mov (.t 22)), none⟩])
 (.keep [3, 8, 9, 10]))))))))
 (.seq
 (.seq (.ops [⟨(some 23), (.mov (.t 3)), none⟩,
 ⟨(some 2), (.mov (.t 23)), none⟩])
 (.keep [2]))
 .ret)))),
 [(.slot 2)]⟩
/-- spec l01In -/
def F_spec_l01In : Fun := ⟨3,
 (.seq
 (.seq (.ops [⟨(some 6), (.mov (.c (.bool false))), none⟩])
 (.keep [0, 1, 2]))
 (.seq
 (.seq (.ops [⟨(some 7), (.mov (.t 0)), none⟩,
 ⟨(some 8), (.mov (.t 1)), none⟩,
 ⟨(some 9), (.bin .geq (.t 7) (.t 8)), none⟩,
 ⟨(some 10), (.mov (.t 9)), none⟩,
 ⟨(some 11), (.mov (.t 0)), (some (10, true))⟩,
 ⟨(some 12), (.mov (.t 2)), (some (10, true))⟩,
 ⟨(some 13), (.bin .leq (.t 11) (.t 12)), (some (10, true))⟩,
 ⟨(some 14), (.pick (.t 10) (.t 13) (.c (.bool false))), none⟩,
 ⟨(some 6), (.mov (.t 14)), none⟩])
 (.keep [6]))
 .ret)),
 [(.slot 6)]⟩
/-- spec l14List -/
def F_spec_l14List : Fun := ⟨1,
 (.seq
 (.seq (.ops [⟨(some 1), (.boxL 6 (.t 0)), none⟩,
 ⟨(some 2), (.mov (.c (.slice none 0 0))), none⟩])
 (.keep [1]))
 (.seq
 (.seq (.ops [⟨(some 3), (.faB 1 1), none⟩,
 ⟨(some 4), (.ldE 1 false 1 3), none⟩,
 ⟨(some 5), (.faB 2 1), none⟩,
 ⟨(some 6), (.ldE 1 false 1 5), none⟩,
 ⟨(some 7), (.faB 3 1), none⟩,
 ⟨(some 8), (.ldE 1 false 1 7), none⟩,
 ⟨(some 9), (.faB 4 1), none⟩,
 ⟨(some 10), (.ldE 1 false 1 9), none⟩,
 ⟨(some 11), (.faB 5 1), none⟩,
 ⟨(some 12), (.ldE 1 false 1 11), none⟩,
 ⟨(some 13), (.lit 5 1 y_int [(.int .i64 0)] [(0, (.t 4)), (1, (.t 6)), (2, (.t 8)), (3, (.t 10)), (4, (.t 12))]), none⟩,
 ⟨(some 2), (.mov (.t 13)), none⟩])
 (.keep [2]))
 .ret)),
 [(.slot 2)]⟩
/-- spec l14Numbers -/
def F_spec_l14Numbers : Fun := ⟨1,
 (.seq
 (.seq (.ops [⟨(some 2), (.mov (.c (.int .i64 0))), none⟩])
 (.keep [0]))
 (.seq
 (.seq
 (.seq (.ops [⟨(some 3), (.mov (.t 0)), none⟩])
 (.keep [3]))
 (.block 0
 (.seq
 (.seq
 (.seq (.ops [⟨(some 5), (.bin .eql (.t 3) (.c (.int .i64 1))), none⟩,
 ⟨(some 4), (.mov (.t 5)), none⟩])
 (.keep [3, 4]))
 (.cond (.t 4)
 .skip
 (.seq
 (.seq (.ops [⟨(some 6), (.bin .eql (.t 3) (.c (.int .i64 3))), none⟩,
 ⟨(some 4), (.mov (.t 6)), none⟩])
 (.keep [3, 4]))
 (.cond (.t 4)
 .skip
 (.seq (.ops [⟨(some 7), (.bin .eql (.t 3) (.c (.int .i64 5))), none⟩,
 ⟨(some 4), (.mov (.t 7)), none⟩])
 (.keep [3, 4]))))))
 (.cond (.t 4)
 (.seq
 (.seq (.ops [⟨(some 2), (.mov (.c (.int .i64 1))), none⟩])
 (.keep [2]))
 .ret)
 (.seq
 (.seq (.ops [⟨(some 9), (.bin .eql (.t 3) (.c (.int .i64 2))), none⟩,
 ⟨(some 8), (.mov (.t 9)), none⟩])
 (.keep [8]))
 (.cond (.t 8)
 (.seq
 (.seq (.ops [⟨(some 2), (.mov (.c (.int .i64 5))), none⟩])
 (.keep [2]))
 .ret)
 .skip))))))
 (.seq
 (.seq (.ops [⟨(some 2), (.mov (.c (.int .i64 0))), none⟩])
 (.keep [2]))
 .ret))),
 [(.slot 2)]⟩
/-- spec l01Var -/
def F_spec_l01Var : Fun := ⟨1,
 (.seq
 (.seq (.ops [⟨(some 2), (.mov (.c (.string ⟨⟨[]⟩⟩))), none⟩])
 (.keep [0]))
 (.seq
 (.seq (.ops [⟨(some 4), (.lit 0 1 y_byte [(.int .u8 0)] []), none⟩,
 ⟨(some 3), (.mov (.t 4)), none⟩])
 (.keep [0, 3]))
 (.seq
 (.block 0
 (.loop
 (.seq
 (.seq
 (.seq (.ops [⟨(some 5), (.mov (.t 0)), none⟩,
 ⟨(some 6), (.bin .gtr (.t 5) (.c (.int .i64 127))), none⟩])
 (.keep [0, 3, 6]))
 (.cond (.t 6)
 .skip
 (.exit 0)))
 (.block 1
 (.seq
 (.seq (.ops [⟨(some 7), (.mov (.t 3)), none⟩,
 ⟨(some 8), (.mov (.t 0)), none⟩,
 ⟨(some 9), (.bin .rem (.t 8) (.c (.int .i64 128))), none⟩,
 ⟨(some 10), (.bin .add (.t 9) (.c (.int .i64 128))), none⟩,
 ⟨(some 11), (.conv .u8 (.t 10)), none⟩,
 ⟨(some 12), (.litL 1 1 [(.int .u8 0)] [(0, (.t 11))]), none⟩,
 ⟨(some 13), (.appL 1 y_byte 1 1 (.t 7) 12), none⟩,
 ⟨(some 3), (.mov (.t 13)), none⟩])
 (.keep [0, 3]))
 (.seq (.ops [⟨(some 14), (.mov (.t 0)), none⟩,
 ⟨(some 15), (.bin .quo (.t 14) (.c (.int .i64 128))), none⟩,
 ⟨(some 0), (.mov (.t 15)), none⟩])
 (.keep [0, 3])))))))
 (.seq
 (.seq (.ops [⟨(some 16), (.mov (.t 3)), none⟩,
 ⟨(some 17), (.mov (.t 0)), none⟩,
 ⟨(some 18), (.conv .u8 (.t 17)), none⟩,
 ⟨(some 19), (.litL 1 1 [(.int .u8 0)] [(0, (.t 18))]), none⟩,
 ⟨(some 20), (.appL 1 y_byte 1 1 (.t 16) 19), none⟩,
 ⟨(some 21), (.str (.t 20)), none⟩,
 ⟨(some 2), (.mov (.t 21)), none⟩])
 (.keep [2]))
 .ret)))),
 [(.slot 2)]⟩
/-- impl reader one -/
def F_impl_reader_one : Fun := ⟨1,
 (.seq
 (.seq (.ops [⟨(some 2), (.mov (.c (.int .i64 0))), none⟩])
 (.keep [0]))
 (.seq
 (.seq
 (.seq (.free true [⟨(some 3), (.mov (.t 0)), none⟩,
 ⟨(some 4), (.chk (.t 3)), none⟩,
 ⟨(some 5), (.fa 2 (.t 4)), none⟩,
 ⟨(some 6), (.ld 1 false (.t 5)), none⟩,
 ⟨(some 7), (.mov (.t 6)), none⟩,
 ⟨(some 8), (.mov (.t 0)), (some (7, false))⟩,
 ⟨(some 9), (.chk (.t 8)), (some (7, false))⟩,
 ⟨(some 10), (.fa 1 (.t 9)), (some (7, false))⟩,
 ⟨(some 11), (.ld 1 false (.t 10)), (some (7, false))⟩,
 ⟨(some 12), (.mov (.t 0)), (some (7, false))⟩,
 ⟨(some 13), (.chk (.t 12)), (some (7, false))⟩,
 ⟨(some 14), (.fa 0 (.t 13)), (some (7, false))⟩,
 ⟨(some 15), (.ld 1 false (.t 14)), (some (7, false))⟩,
 ⟨(some 16), (.lnS (.t 15)), (some (7, false))⟩,
 ⟨(some 17), (.bin .geq (.t 11) (.t 16)), (some (7, false))⟩,
 ⟨(some 18), (.pick (.t 7) (.c (.bool true)) (.t 17)), none⟩])
 (.keep [0, 18]))
 (.cond (.t 18)
 (.seq
 (.seq (.ops [⟨(some 19), (.mov (.t 0)), none⟩,
 ⟨(some 20), (.chk (.t 19)), none⟩,
 ⟨(some 21), (.fa 2 (.t 20)), none⟩,
 ⟨none, (.st 1 (.t 21) (.c (.bool true))), none⟩])
 (.keep []))
 (.seq
 (.seq (.ops [⟨(some 2), (.mov (.c (.int .i64 0))), none⟩])
 (.keep [2]))
 .ret))
 .skip))
 (.seq
 (.seq (.ops [⟨(some 22), (.mov (.t 0)), none⟩,
 ⟨(some 23), (.chk (.t 22)), none⟩,
 ⟨(some 24), (.fa 1 (.t 23)), none⟩,
 ⟨(some 25), (.ld 1 false (.t 24)), none⟩,
 ⟨(some 26), (.bin .add (.t 25) (.c (.int .i64 1))), none⟩,
 ⟨(some 27), (.chk (.t 22)), none⟩,
 ⟨(some 28), (.fa 1 (.t 27)), none⟩,
 ⟨none, (.st 1 (.t 28) (.t 26)), none⟩])
 (.keep [0]))
 (.seq
 (.seq (.free true [⟨(some 29), (.mov (.t 0)), none⟩,
 ⟨(some 30), (.chk (.t 29)), none⟩,
 ⟨(some 31), (.fa 0 (.t 30)), none⟩,
 ⟨(some 32), (.ld 1 false (.t 31)), none⟩,
 ⟨(some 33), (.mov (.t 0)), none⟩,
 ⟨(some 34), (.chk (.t 33)), none⟩,
 ⟨(some 35), (.fa 1 (.t 34)), none⟩,
 ⟨(some 36), (.ld 1 false (.t 35)), none⟩,
 ⟨(some 37), (.bin .sub (.t 36) (.c (.int .i64 1))), none⟩,
 ⟨(some 38), (.ix (.t 32) (.t 37)), none⟩,
 ⟨(some 39), (.conv .i64 (.t 38)), none⟩,
 ⟨(some 2), (.mov (.t 39)), none⟩])
 (.keep [2]))
 .ret)))),
 [(.slot 2)]⟩
/-- impl reader num -/
def F_impl_reader_num : Fun := ⟨1,
 (.seq
 (.seq (.ops [⟨(some 2), (.mov (.c (.int .i64 0))), none⟩])
 (.keep [0]))
 (.seq
 (.seq (.free true [⟨(some 7), (.mov (.t 0)), none⟩,
 ⟨(some 8), (.chk (.t 7)), none⟩,
 ⟨(some 9), (.fa 0 (.t 8)), none⟩,
 ⟨(some 10), (.ld 1 false (.t 9)), none⟩,
 ⟨(some 11), (.mov (.t 0)), none⟩,
 ⟨(some 12), (.chk (.t 11)), none⟩,
 ⟨(some 13), (.fa 1 (.t 12)), none⟩,
 ⟨(some 14), (.ld 1 false (.t 13)), none⟩,
 ⟨(some 15), (.call n_impl_ReadVar [(.t 10), (.t 14)]), none⟩,
 ⟨(some 6), (.mov (.t 15)), none⟩,
 ⟨(some 16), (.ext 0 (.t 6)), none⟩,
 ⟨(some 17), (.ext 1 (.t 6)), none⟩,
 ⟨(some 18), (.ext 2 (.t 6)), none⟩,
 ⟨(some 3), (.mov (.t 16)), none⟩,
 ⟨(some 4), (.mov (.t 17)), none⟩,
 ⟨(some 5), (.mov (.t 18)), none⟩])
 (.keep [0, 3, 4, 5]))
 (.seq
 (.seq
 (.seq (.ops [⟨(some 19), (.mov (.t 0)), none⟩,
 ⟨(some 20), (.chk (.t 19)), none⟩,
 ⟨(some 21), (.fa 2 (.t 20)), none⟩,
 ⟨(some 22), (.ld 1 false (.t 21)), none⟩,
 ⟨(some 23), (.mov (.t 22)), none⟩,
 ⟨(some 24), (.mov (.t 5)), (some (23, false))⟩,
 ⟨(some 25), (.un .not (.t 24)), (some (23, false))⟩,
 ⟨(some 26), (.pick (.t 23) (.c (.bool true)) (.t 25)), none⟩])
 (.keep [0, 3, 4, 26]))
 (.cond (.t 26)
 (.seq
 (.seq (.ops [⟨(some 27), (.mov (.t 0)), none⟩,
 ⟨(some 28), (.chk (.t 27)), none⟩,
 ⟨(some 29), (.fa 2 (.t 28)), none⟩,
 ⟨none, (.st 1 (.t 29) (.c (.bool true))), none⟩])
 (.keep []))
 (.seq
 (.seq (.ops [⟨(some 2), (.mov (.c (.int .i64 0))), none⟩])
 (.keep [2]))
 .ret))
 .skip))
 (.seq
 (.seq (.ops [⟨(some 30), (.mov (.t 0)), none⟩,
 ⟨(some 31), (.mov (.t 4)), none⟩,
 ⟨(some 32), (.chk (.t 30)), none⟩,
 ⟨(some 33), (.fa 1 (.t 32)), none⟩,
 ⟨none, (.st 1 (.t 33) (.t 31)), none⟩])
 (.keep [3]))
 (.seq
 (.seq (.ops [⟨(some 34), (.mov (.t 3)), none⟩,
 ⟨(some 2), (.mov (.t 34)), none⟩])
 (.keep [2]))
 .ret))))),
 [(.slot 2)]⟩
/-- impl reader ends -/
def F_impl_reader_ends : Fun := ⟨1,
 (.seq
 (.seq (.ops [⟨(some 2), (.mov (.c (.bool false))), none⟩])
 (.keep [0]))
 (.seq
 (.seq (.free true [⟨(some 3), (.mov (.t 0)), none⟩,
 ⟨(some 4), (.chk (.t 3)), none⟩,
 ⟨(some 5), (.fa 2 (.t 4)), none⟩,
 ⟨(some 6), (.ld 1 false (.t 5)), none⟩,
 ⟨(some 7), (.un .not (.t 6)), none⟩,
 ⟨(some 8), (.mov (.t 7)), none⟩,
 ⟨(some 9), (.mov (.t 0)), (some (8, true))⟩,
 ⟨(some 10), (.chk (.t 9)), (some (8, true))⟩,
 ⟨(some 11), (.fa 1 (.t 10)), (some (8, true))⟩,
 ⟨(some 12), (.ld 1 false (.t 11)), (some (8, true))⟩,
 ⟨(some 13), (.mov (.t 0)), (some (8, true))⟩,
 ⟨(some 14), (.chk (.t 13)), (some (8, true))⟩,
 ⟨(some 15), (.fa 0 (.t 14)), (some (8, true))⟩,
 ⟨(some 16), (.ld 1 false (.t 15)), (some (8, true))⟩,
 ⟨(some 17), (.lnS (.t 16)), (some (8, true))⟩,
 ⟨(some 18), (.bin .eql (.t 12) (.t 17)), (some (8, true))⟩,
 ⟨(some 19), (.pick (.t 8) (.t 18) (.c (.bool false))), none⟩,
 ⟨(some 2), (.mov (.t 19)), none⟩])
 (.keep [2]))
 .ret)),
 [(.slot 2)]⟩
/-- spec l02Spoilt -/
def F_spec_l02Spoilt : Fun := ⟨2,
 (.seq
 (.seq (.ops [⟨(some 4), (.mov (.c (.string ⟨⟨[]⟩⟩))), none⟩])
 (.keep [0, 1]))
 (.seq
 (.seq
 (.seq (.ops [⟨(some 6), (.mov (.t 0)), none⟩,
 ⟨(some 7), (.call n_spec_l01Below [(.t 6), (.c (.int .i64 12))]), none⟩])
 (.keep [0, 1, 7]))
 (.block 0
 (.seq
 (.seq (.ops [⟨(some 9), (.bin .eql (.t 7) (.c (.int .i64 0))), none⟩,
 ⟨(some 8), (.mov (.t 9)), none⟩])
 (.keep [0, 1, 7, 8]))
 (.cond (.t 8)
 (.seq
 (.seq (.ops [⟨(some 10), (.mov (.t 1)), none⟩,
 ⟨(some 11), (.mov (.t 0)), none⟩,
 ⟨(some 12), (.call n_spec_l01Text [(.t 11), (.c (.int .i64 1))]), none⟩,
 ⟨(some 13), (.bin .add (.t 10) (.t 12)), none⟩,
 ⟨(some 4), (.mov (.t 13)), none⟩])
 (.keep [4]))
 .ret)
 (.seq
 (.seq (.ops [⟨(some 15), (.bin .eql (.t 7) (.c (.int .i64 1))), none⟩,
 ⟨(some 14), (.mov (.t 15)), none⟩])
 (.keep [0, 1, 7, 14]))
 (.cond (.t 14)
 (.seq
 (.seq (.ops [⟨(some 16), (.mov (.t 1)), none⟩,
 ⟨(some 17), (.mov (.t 0)), none⟩,
 ⟨(some 18), (.mov (.t 1)), none⟩,
 ⟨(some 19), (.lnS (.t 18)), none⟩,
 ⟨(some 20), (.bin .add (.t 19) (.c (.int .i64 1))), none⟩,
 ⟨(some 21), (.call n_spec_l01Below [(.t 17), (.t 20)]), none⟩,
 ⟨(some 22), (.slS (.t 16) none (some (.t 21))), none⟩,
 ⟨(some 4), (.mov (.t 22)), none⟩])
 (.keep [4]))
 .ret)
 (.seq
 (.seq
 (.seq (.ops [⟨(some 24), (.bin .eql (.t 7) (.c (.int .i64 2))), none⟩,
 ⟨(some 23), (.mov (.t 24)), none⟩])
 (.keep [0, 1, 7, 23]))
 (.cond (.t 23)
 .skip
 (.seq (.ops [⟨(some 25), (.bin .eql (.t 7) (.c (.int .i64 3))), none⟩,
 ⟨(some 23), (.mov (.t 25)), none⟩])
 (.keep [0, 1, 23]))))
 (.cond (.t 23)
 (.seq
 (.seq (.ops [⟨(some 26), (.mov (.t 1)), none⟩,
 ⟨(some 27), (.lnS (.t 26)), none⟩,
 ⟨(some 28), (.bin .gtr (.t 27) (.c (.int .i64 0))), none⟩])
 (.keep [0, 1, 28]))
 (.cond (.t 28)
 (.seq
 (.seq (.ops [⟨(some 29), (.mov (.t 0)), none⟩,
 ⟨(some 30), (.mov (.t 1)), none⟩,
 ⟨(some 31), (.lnS (.t 30)), none⟩,
 ⟨(some 32), (.call n_spec_l01Below [(.t 29), (.t 31)]), none⟩,
 ⟨(some 5), (.mov (.t 32)), none⟩])
 (.keep [0, 1, 5]))
 (.seq
 (.seq (.free true [⟨(some 33), (.mov (.t 1)), none⟩,
 ⟨(some 34), (.mov (.t 5)), none⟩,
 ⟨(some 35), (.slS (.t 33) none (some (.t 34))), none⟩,
 ⟨(some 36), (.mov (.t 0)), none⟩,
 ⟨(some 37), (.call n_spec_l01Text [(.t 36), (.c (.int .i64 1))]), none⟩,
 ⟨(some 38), (.bin .add (.t 35) (.t 37)), none⟩,
 ⟨(some 39), (.mov (.t 1)), none⟩,
 ⟨(some 40), (.mov (.t 5)), none⟩,
 ⟨(some 41), (.bin .add (.t 40) (.c (.int .i64 1))), none⟩,
 ⟨(some 42), (.slS (.t 39) (some (.t 41)) none), none⟩,
 ⟨(some 43), (.bin .add (.t 38) (.t 42)), none⟩,
 ⟨(some 4), (.mov (.t 43)), none⟩])
 (.keep [4]))
 .ret))
 .skip))
 .skip))))))))
 (.seq
 (.seq (.ops [⟨(some 44), (.mov (.t 1)), none⟩,
 ⟨(some 4), (.mov (.t 44)), none⟩])
 (.keep [4]))
 .ret))),
 [(.slot 4)]⟩
/-- spec l12Var -/
def F_spec_l12Var : Fun := ⟨1,
 (.seq
 (.seq (.ops [⟨(some 2), (.mov (.c (.int .i64 0))), none⟩])
 (.keep [0]))
 (.seq
 (.seq (.free true [⟨(some 7), (.mov (.t 0)), none⟩,
 ⟨(some 8), (.chk (.t 7)), none⟩,
 ⟨(some 9), (.fa 0 (.t 8)), none⟩,
 ⟨(some 10), (.ld 1 false (.t 9)), none⟩,
 ⟨(some 11), (.mov (.t 0)), none⟩,
 ⟨(some 12), (.chk (.t 11)), none⟩,
 ⟨(some 13), (.fa 1 (.t 12)), none⟩,
 ⟨(some 14), (.ld 1 false (.t 13)), none⟩,
 ⟨(some 15), (.call n_spec_ReadVar [(.t 10), (.t 14)]), none⟩,
 ⟨(some 6), (.mov (.t 15)), none⟩,
 ⟨(some 16), (.ext 0 (.t 6)), none⟩,
 ⟨(some 17), (.ext 1 (.t 6)), none⟩,
 ⟨(some 18), (.ext 2 (.t 6)), none⟩,
 ⟨(some 3), (.mov (.t 16)), none⟩,
 ⟨(some 4), (.mov (.t 17)), none⟩,
 ⟨(some 5), (.mov (.t 18)), none⟩])
 (.keep [0, 3, 4, 5]))
 (.seq
 (.seq
 (.seq (.ops [⟨(some 19), (.mov (.t 0)), none⟩,
 ⟨(some 20), (.chk (.t 19)), none⟩,
 ⟨(some 21), (.fa 2 (.t 20)), none⟩,
 ⟨(some 22), (.ld 1 false (.t 21)), none⟩,
 ⟨(some 23), (.mov (.t 22)), none⟩,
 ⟨(some 24), (.mov (.t 5)), (some (23, false))⟩,
 ⟨(some 25), (.un .not (.t 24)), (some (23, false))⟩,
 ⟨(some 26), (.pick (.t 23) (.c (.bool true)) (.t 25)), none⟩])
 (.keep [0, 3, 4, 26]))
 (.cond (.t 26)
 (.seq
 (.seq (.ops [⟨(some 27), (.mov (.t 0)), none⟩,
 ⟨(some 28), (.chk (.t 27)), none⟩,
 ⟨(some 29), (.fa 2 (.t 28)), none⟩,
 ⟨none, (.st 1 (.t 29) (.c (.bool true))), none⟩])
 (.keep []))
 (.seq
 (.seq (.ops [⟨(some 2), (.mov (.c (.int .i64 0))), none⟩])
 (.keep [2]))
 .ret))
 .skip))
 (.seq
 (.seq (.ops [⟨(some 30), (.mov (.t 0)), none⟩,
 ⟨(some 31), (.mov (.t 4)), none⟩,
 ⟨(some 32), (.chk (.t 30)), none⟩,
 ⟨(some 33), (.fa 1 (.t 32)), none⟩,
 ⟨none, (.st 1 (.t 33) (.t 31)), none⟩])
 (.keep [3]))
 (.seq
 (.seq (.ops [⟨(some 34), (.mov (.t 3)), none⟩,
 ⟨(some 2), (.mov (.t 34)), none⟩])
 (.keep [2]))
 .ret))))),
 [(.slot 2)]⟩
/-- laws szCoupleS -/
def F_laws_szCoupleS : Fun := ⟨2,
 (.seq
 (.seq (.ops [⟨(some 4), (.mov (.c (.int .i64 0))), none⟩])
 (.keep [0, 1]))
 (.seq
 (.seq (.ops [⟨(some 5), (.mov (.t 1)), none⟩,
 ⟨(some 6), (.mov (.t 0)), none⟩,
 ⟨(some 7), (.ln (.t 6)), none⟩,
 ⟨(some 8), (.bin .sub (.t 5) (.t 7)), none⟩,
 ⟨(some 1), (.mov (.t 8)), none⟩])
 (.keep [1]))
 (.seq
 (.seq
 (.seq (.ops [⟨(some 9), (.mov (.t 1)), none⟩,
 ⟨(some 10), (.bin .lss (.t 9) (.c (.int .i64 0))), none⟩])
 (.keep [1, 10]))
 (.cond (.t 10)
 (.seq
 (.seq (.ops [⟨(some 4), (.mov (.c (.int .i64 (-1)))), none⟩])
 (.keep [4]))
 .ret)
 .skip))
 (.seq
 (.seq (.ops [⟨(some 11), (.mov (.t 1)), none⟩,
 ⟨(some 4), (.mov (.t 11)), none⟩])
 (.keep [4]))
 .ret)))),
 [(.slot 4)]⟩
/-- laws szProof -/
def F_laws_szProof : Fun := ⟨2,
 (.seq
 (.seq (.ops [⟨(some 2), (.boxL 2 (.t 0)), none⟩,
 ⟨(some 4), (.mov (.c (.int .i64 0))), none⟩])
 (.keep [1, 2]))
 (.seq
 (.seq (.ops [⟨(some 5), (.faB 0 2), none⟩,
 ⟨(some 6), (.ldE 1 false 2 5), none⟩,
 ⟨(some 7), (.mov (.t 1)), none⟩,
 ⟨(some 8), (.call n_laws_szIntS [(.t 6), (.t 7)]), none⟩,
 ⟨(some 1), (.mov (.t 8)), none⟩])
 (.keep [1, 2]))
 (.seq
 (.seq
 (.seq (.ops [⟨(some 9), (.mov (.t 1)), none⟩,
 ⟨(some 10), (.bin .lss (.t 9) (.c (.int .i64 0))), none⟩])
 (.keep [1, 2, 10]))
 (.cond (.t 10)
 (.seq
 (.seq (.ops [⟨(some 4), (.mov (.c (.int .i64 (-1)))), none⟩])
 (.keep [4]))
 .ret)
 .skip))
 (.seq
 (.seq (.ops [⟨(some 11), (.faB 1 2), none⟩,
 ⟨(some 12), (.ldE 1 false 2 11), none⟩,
 ⟨(some 13), (.mov (.t 1)), none⟩,
 ⟨(some 14), (.call n_laws_szGroupS [(.t 12), (.t 13)]), none⟩,
 ⟨(some 1), (.mov (.t 14)), none⟩])
 (.keep [1]))
 (.seq
 (.seq
 (.seq (.ops [⟨(some 15), (.mov (.t 1)), none⟩,
 ⟨(some 16), (.bin .lss (.t 15) (.c (.int .i64 0))), none⟩])
 (.keep [1, 16]))
 (.cond (.t 16)
 (.seq
 (.seq (.ops [⟨(some 4), (.mov (.c (.int .i64 (-1)))), none⟩])
 (.keep [4]))
 .ret)
 .skip))
 (.seq
 (.seq (.ops [⟨(some 17), (.mov (.t 1)), none⟩,
 ⟨(some 4), (.mov (.t 17)), none⟩])
 (.keep [4]))
 .ret)))))),
 [(.slot 4)]⟩
/-- spec Certifies -/
def F_spec_Certifies : Fun := ⟨3,
 (.seq
 (.seq (.ops [⟨(some 3), (.boxL 2 (.t 0)), none⟩,
 ⟨(some 5), (.boxL 2 (.t 2)), none⟩,
 ⟨(some 6), (.mov (.c (.bool false))), none⟩])
 (.keep [1, 3, 5]))
 (.seq
 (.seq (.free true [⟨(some 7), (.ldB 2 true 3), none⟩,
 ⟨(some 8), (.ldB 2 true 5), none⟩,
 ⟨(some 9), (.call n_spec_ProofOk [(.t 7), (.t 8)]), none⟩,
 ⟨(some 10), (.mov (.t 9)), none⟩,
 ⟨(some 11), (.ldB 2 true 3), (some (10, true))⟩,
 ⟨(some 12), (.mov (.t 1)), (some (10, true))⟩,
 ⟨(some 13), (.call n_spec_MatchOk [(.t 11), (.t 12)]), (some (10, true))⟩,
 ⟨(some 14), (.pick (.t 10) (.t 13) (.c (.bool false))), none⟩,
 ⟨(some 15), (.mov (.t 14)), none⟩,
 ⟨(some 16), (.ldB 2 true 3), (some (15, true))⟩,
 ⟨(some 17), (.mov (.t 1)), (some (15, true))⟩,
 ⟨(some 18), (.call n_spec_l11Worth [(.t 16), (.t 17)]), (some (15, true))⟩,
 ⟨(some 19), (.bin .mul (.c (.int .i64 2)) (.t 18)), (some (15, true))⟩,
 ⟨(some 20), (.ldB 2 true 5), (some (15, true))⟩,
 ⟨(some 21), (.call n_spec_l11Sum [(.t 20)]), (some (15, true))⟩,
 ⟨(some 22), (.bin .eql (.t 19) (.t 21)), (some (15, true))⟩,
 ⟨(some 23), (.pick (.t 15) (.t 22) (.c (.bool false))), none⟩,
 ⟨(some 6), (.mov (.t 23)), none⟩])
 (.keep [6]))
 .ret)),
 [(.slot 6)]⟩
/-- laws toCoupleS -/
def F_laws_toCoupleS : Fun := ⟨1,
 (.seq
 (.seq (.ops [⟨(some 2), (.mov (.c (.slice none 0 0))), none⟩])
 (.keep [0]))
 (.seq
 (.seq (.ops [⟨(some 5), (.mov (.t 0)), none⟩,
 ⟨(some 6), (.ln (.t 5)), none⟩,
 ⟨(some 7), (.mk 2 y_Couple 16 [(.int .i64 0), (.int .i64 0)] (.t 6)), none⟩,
 ⟨(some 3), (.mov (.t 7)), none⟩])
 (.keep [0, 3]))
 (.seq
 (.seq
 (.seq (.ops [⟨(some 4), (.mov (.c (.int .i64 0))), none⟩])
 (.keep [0, 3, 4]))
 (.block 0
 (.loop
 (.seq
 (.seq
 (.seq (.ops [⟨(some 8), (.mov (.t 4)), none⟩,
 ⟨(some 9), (.mov (.t 0)), none⟩,
 ⟨(some 10), (.ln (.t 9)), none⟩,
 ⟨(some 11), (.bin .lss (.t 8) (.t 10)), none⟩])
 (.keep [0, 3, 4, 11]))
 (.cond (.t 11)
 .skip
 (.exit 0)))
 (.seq
 (.block 1
 (.seq (.ops [⟨(some 14), (.mov (.t 3)), none⟩,
 ⟨(some 15), (.mov (.t 4)), none⟩,
 ⟨(some 16), (.mov (.t 0)), none⟩,
 ⟨(some 17), (.mov (.t 4)), none⟩,
 ⟨(some 18), (.ia 2 (.t 16) (.t 17)), none⟩,
 ⟨(some 19), (.ld 2 true (.t 18)), none⟩,
 ⟨(some 20), (.call n_laws_toCouple [(.t 19)]), none⟩,
 ⟨(some 21), (.ia 2 (.t 14) (.t 15)), none⟩,
 ⟨none, (.st 2 (.t 21) (.t 20)), none⟩])
 (.keep [0, 3, 4])))
 (.seq (.ops [⟨(some 12), (.mov (.t 4)), none⟩,
 ⟨(some 13), (.bin .add (.t 12) (.c (.int .i64 1))), none⟩,
 ⟨(some 4), (.mov (.t 13)), none⟩])
 (.keep [0, 3, 4])))))))
 (.seq
 (.seq (.ops [⟨(some 22), (.mov (.t 3)), none⟩,
 ⟨(some 2), (.mov (.t 22)), none⟩])
 (.keep [2]))
 .ret)))),
 [(.slot 2)]⟩
end Go.Proofs.Ytioogligololoaa.Ab
