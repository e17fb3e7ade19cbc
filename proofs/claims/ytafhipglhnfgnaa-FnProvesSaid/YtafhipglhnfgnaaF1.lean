/- The functions, as they are read. No conditions. -/
import Derived.Test.YtafhipglhnfgnaaFN
namespace Go.Proofs.Ytafhipglhnfgnaa.Ab
def F_spec_l10Augment : Fun := ⟨3,
 (.seq
 (.seq (.ops [⟨some 5,.boxL 5 (.t 2),none⟩])
 (.keep [0,1,5]))
 (.seq
 (.seq (.free true [⟨some 12,.mov (.t 0),none⟩,
⟨some 13,.mov (.t 1),none⟩,
⟨some 14,.mov (.t 0),none⟩,
⟨some 15,.faB 0 5,none⟩,
⟨some 16,.ldE 1 false 5 15,none⟩,
⟨some 17,.call n_spec_l10Top [(.t 14),(.t 16)],none⟩,
⟨some 18,.call n_spec_l10Way [(.t 12),(.t 13),(.t 17)],none⟩,
⟨some 19,.mov (.t 0),none⟩,
⟨some 20,.mov (.t 1),none⟩,
⟨some 21,.mov (.t 0),none⟩,
⟨some 22,.faB 1 5,none⟩,
⟨some 23,.ldE 1 false 5 22,none⟩,
⟨some 24,.call n_spec_l10Top [(.t 21),(.t 23)],none⟩,
⟨some 25,.call n_spec_l10Way [(.t 19),(.t 20),(.t 24)],none⟩,
⟨some 26,.lit 2 1 y_ints [(.slice none 0 0)] [(0,(.t 18)),(1,(.t 25))],none⟩,
⟨some 6,.mov (.t 26),none⟩])
 (.keep [0,1,5,6]))
 (.seq
 (.seq
 (.seq (.ops [⟨some 7,.mov (.c (.int .i64 0)),none⟩])
 (.keep [0,1,5,6,7]))
 (.block 0
 (.loop
 (.seq
 (.seq
 (.seq (.ops [⟨some 27,.mov (.t 7),none⟩,
⟨some 28,.bin .lss (.t 27) (.c (.int .i64 2)),none⟩])
 (.keep [0,1,5,6,7,28]))
 (.cond (.t 28)
 .skip
 (.exit 0)))
 (.seq
 (.block 1
 (.seq
 (.seq (.ops [⟨some 8,.mov (.c (.int .i64 0)),none⟩])
 (.keep [0,1,5,6,7,8]))
 (.block 2
 (.loop
 (.seq
 (.seq
 (.seq (.ops [⟨some 31,.mov (.t 8),none⟩,
⟨some 32,.mov (.t 6),none⟩,
⟨some 33,.mov (.t 7),none⟩,
⟨some 34,.ia 1 (.t 32) (.t 33),none⟩,
⟨some 35,.ld 1 false (.t 34),none⟩,
⟨some 36,.ln (.t 35),none⟩,
⟨some 37,.bin .lss (.t 31) (.t 36),none⟩])
 (.keep [0,1,5,6,7,8,37]))
 (.cond (.t 37)
 .skip
 (.exit 2)))
 (.seq
 (.block 3
 (.seq (.ops [⟨some 40,.mov (.t 0),none⟩,
⟨some 41,.mov (.t 6),none⟩,
⟨some 42,.mov (.t 7),none⟩,
⟨some 43,.ia 1 (.t 41) (.t 42),none⟩,
⟨some 44,.ld 1 false (.t 43),none⟩,
⟨some 45,.mov (.t 8),none⟩,
⟨some 46,.ia 1 (.t 44) (.t 45),none⟩,
⟨some 47,.ld 1 false (.t 46),none⟩,
⟨some 48,.call n_spec_l10Without [(.t 40),(.t 47)],none⟩])
 (.keep [0,1,5,6,7,8])))
 (.seq (.ops [⟨some 38,.mov (.t 8),none⟩,
⟨some 39,.bin .add (.t 38) (.c (.int .i64 1)),none⟩,
⟨some 8,.mov (.t 39),none⟩])
 (.keep [0,1,5,6,7,8]))))))))
 (.seq (.ops [⟨some 29,.mov (.t 7),none⟩,
⟨some 30,.bin .add (.t 29) (.c (.int .i64 1)),none⟩,
⟨some 7,.mov (.t 30),none⟩])
 (.keep [0,1,5,6,7])))))))
 (.seq
 (.seq (.free true [⟨some 49,.mov (.t 0),none⟩,
⟨some 50,.mov (.t 0),none⟩,
⟨some 51,.chk (.t 50),none⟩,
⟨some 52,.fa 4 (.t 51),none⟩,
⟨some 53,.ld 1 false (.t 52),none⟩,
⟨some 54,.faB 0 5,none⟩,
⟨some 55,.ldE 1 false 5 54,none⟩,
⟨some 56,.faB 1 5,none⟩,
⟨some 57,.ldE 1 false 5 56,none⟩,
⟨some 58,.bld [(.int .i64 0),(.int .i64 0)] [(0,(1,(.t 55))),(1,(1,(.t 57)))],none⟩,
⟨some 59,.litL 1 2 [(.int .i64 0),(.int .i64 0)] [(0,(.t 58))],none⟩,
⟨some 60,.appL 2 y_l10Link 16 1 (.t 53) 59,none⟩,
⟨some 61,.chk (.t 49),none⟩,
⟨some 62,.fa 4 (.t 61),none⟩,
⟨none,.st 1 (.t 62) (.t 60),none⟩])
 (.keep [0,1,6]))
 (.seq
 (.seq
 (.seq (.ops [⟨some 9,.mov (.c (.int .i64 0)),none⟩])
 (.keep [0,1,6,9]))
 (.block 4
 (.loop
 (.seq
 (.seq
 (.seq (.ops [⟨some 63,.mov (.t 9),none⟩,
⟨some 64,.bin .lss (.t 63) (.c (.int .i64 2)),none⟩])
 (.keep [0,1,6,9,64]))
 (.cond (.t 64)
 .skip
 (.exit 4)))
 (.seq
 (.block 5
 (.seq
 (.seq (.ops [⟨some 10,.mov (.c (.int .i64 0)),none⟩])
 (.keep [0,1,6,9,10]))
 (.block 6
 (.loop
 (.seq
 (.seq
 (.seq (.ops [⟨some 67,.mov (.t 10),none⟩,
⟨some 68,.mov (.t 6),none⟩,
⟨some 69,.mov (.t 9),none⟩,
⟨some 70,.ia 1 (.t 68) (.t 69),none⟩,
⟨some 71,.ld 1 false (.t 70),none⟩,
⟨some 72,.ln (.t 71),none⟩,
⟨some 73,.bin .lss (.t 67) (.t 72),none⟩])
 (.keep [0,1,6,9,10,73]))
 (.cond (.t 73)
 .skip
 (.exit 6)))
 (.seq
 (.block 7
 (.seq
 (.seq (.free true [⟨some 76,.mov (.t 1),none⟩,
⟨some 77,.chk (.t 76),none⟩,
⟨some 78,.fa 0 (.t 77),none⟩,
⟨some 79,.ld 1 false (.t 78),none⟩,
⟨some 80,.mov (.t 6),none⟩,
⟨some 81,.mov (.t 9),none⟩,
⟨some 82,.ia 1 (.t 80) (.t 81),none⟩,
⟨some 83,.ld 1 false (.t 82),none⟩,
⟨some 84,.mov (.t 10),none⟩,
⟨some 85,.ia 1 (.t 83) (.t 84),none⟩,
⟨some 86,.ld 1 false (.t 85),none⟩,
⟨some 87,.ia 1 (.t 79) (.t 86),none⟩,
⟨some 88,.ld 1 false (.t 87),none⟩,
⟨some 89,.bin .eql (.t 88) (.c (.int .i64 2)),none⟩])
 (.keep [0,1,6,9,10,89]))
 (.cond (.t 89)
 (.seq (.free true [⟨some 90,.mov (.t 0),none⟩,
⟨some 91,.mov (.t 0),none⟩,
⟨some 92,.chk (.t 91),none⟩,
⟨some 93,.fa 4 (.t 92),none⟩,
⟨some 94,.ld 1 false (.t 93),none⟩,
⟨some 95,.mov (.t 1),none⟩,
⟨some 96,.chk (.t 95),none⟩,
⟨some 97,.fa 1 (.t 96),none⟩,
⟨some 98,.ld 1 false (.t 97),none⟩,
⟨some 99,.mov (.t 6),none⟩,
⟨some 100,.mov (.t 9),none⟩,
⟨some 101,.ia 1 (.t 99) (.t 100),none⟩,
⟨some 102,.ld 1 false (.t 101),none⟩,
⟨some 103,.mov (.t 10),none⟩,
⟨some 104,.ia 1 (.t 102) (.t 103),none⟩,
⟨some 105,.ld 1 false (.t 104),none⟩,
⟨some 106,.ia 2 (.t 98) (.t 105),none⟩,
⟨some 107,.ld 2 true (.t 106),none⟩,
⟨some 108,.litL 1 2 [(.int .i64 0),(.int .i64 0)] [(0,(.t 107))],none⟩,
⟨some 109,.appL 2 y_l10Link 16 1 (.t 94) 108,none⟩,
⟨some 110,.chk (.t 90),none⟩,
⟨some 111,.fa 4 (.t 110),none⟩,
⟨none,.st 1 (.t 111) (.t 109),none⟩])
 (.keep [0,1,6,9,10]))
 .skip)))
 (.seq (.ops [⟨some 74,.mov (.t 10),none⟩,
⟨some 75,.bin .add (.t 74) (.c (.int .i64 1)),none⟩,
⟨some 10,.mov (.t 75),none⟩])
 (.keep [0,1,6,9,10]))))))))
 (.seq (.ops [⟨some 65,.mov (.t 9),none⟩,
⟨some 66,.bin .add (.t 65) (.c (.int .i64 1)),none⟩,
⟨some 9,.mov (.t 66),none⟩])
 (.keep [0,1,6,9])))))))
 (.seq
 (.seq (.ops [⟨some 112,.mov (.t 0),none⟩,
⟨some 113,.lit 0 1 y_int [(.int .i64 0)] [],none⟩,
⟨some 114,.call n_spec_l10First [(.t 112),(.t 113)],none⟩,
⟨some 11,.mov (.t 114),none⟩])
 (.keep [0,11]))
 (.block 8
 (.loop
 (.seq
 (.seq
 (.seq (.ops [⟨some 115,.mov (.t 11),none⟩,
⟨some 116,.bin .geq (.t 115) (.c (.int .i64 0)),none⟩])
 (.keep [0,11,116]))
 (.cond (.t 116)
 .skip
 (.exit 8)))
 (.block 9
 (.seq
 (.seq (.ops [⟨some 117,.mov (.t 0),none⟩,
⟨some 118,.mov (.t 11),none⟩,
⟨some 119,.call n_spec_l10Open [(.t 117),(.t 118)],none⟩])
 (.keep [0]))
 (.seq (.ops [⟨some 120,.mov (.t 0),none⟩,
⟨some 121,.lit 0 1 y_int [(.int .i64 0)] [],none⟩,
⟨some 122,.call n_spec_l10First [(.t 120),(.t 121)],none⟩,
⟨some 11,.mov (.t 122),none⟩])
 (.keep [0,11]))))))))))))),
 []⟩
def F_spec_l10Mate : Fun := ⟨2,
 (.seq
 (.seq (.ops [⟨some 4,.newL [(.int .i64 0),(.int .i64 0)],none⟩,
⟨some 5,.mov (.c (.bool false)),none⟩])
 (.keep [0,1,4]))
 (.seq
 (.seq
 (.seq (.ops [⟨some 6,.mov (.c (.int .i64 0)),none⟩])
 (.keep [0,1,4,6]))
 (.block 0
 (.loop
 (.seq
 (.seq
 (.seq (.ops [⟨some 8,.mov (.t 6),none⟩,
⟨some 9,.mov (.t 0),none⟩,
⟨some 10,.chk (.t 9),none⟩,
⟨some 11,.fa 4 (.t 10),none⟩,
⟨some 12,.ld 1 false (.t 11),none⟩,
⟨some 13,.ln (.t 12),none⟩,
⟨some 14,.bin .lss (.t 8) (.t 13),none⟩])
 (.keep [0,1,4,6,14]))
 (.cond (.t 14)
 .skip
 (.exit 0)))
 (.seq
 (.block 1
 (.seq
 (.seq (.ops [⟨some 17,.mov (.t 0),none⟩,
⟨some 18,.chk (.t 17),none⟩,
⟨some 19,.fa 4 (.t 18),none⟩,
⟨some 20,.ld 1 false (.t 19),none⟩,
⟨some 21,.mov (.t 6),none⟩,
⟨some 22,.ia 2 (.t 20) (.t 21),none⟩,
⟨some 23,.ld 2 true (.t 22),none⟩,
⟨some 7,.newL [(.int .i64 0),(.int .i64 0)],none⟩,
⟨none,.stB 2 7 (.t 23),none⟩])
 (.keep [0,1,4,6,7]))
 (.seq
 (.seq
 (.seq (.ops [⟨some 24,.mov (.t 0),none⟩,
⟨some 25,.faB 0 7,none⟩,
⟨some 26,.ldE 1 false 7 25,none⟩,
⟨some 27,.call n_spec_l10Top [(.t 24),(.t 26)],none⟩,
⟨some 28,.mov (.t 1),none⟩,
⟨some 29,.bin .eql (.t 27) (.t 28),none⟩])
 (.keep [0,1,4,6,7,29]))
 (.cond (.t 29)
 (.seq
 (.seq (.ops [⟨some 30,.ldB 2 true 7,none⟩,
⟨none,.stB 2 4 (.t 30),none⟩,
⟨some 5,.mov (.c (.bool true)),none⟩])
 (.keep [4,5]))
 .ret)
 .skip))
 (.seq
 (.seq (.ops [⟨some 31,.mov (.t 0),none⟩,
⟨some 32,.faB 1 7,none⟩,
⟨some 33,.ldE 1 false 7 32,none⟩,
⟨some 34,.call n_spec_l10Top [(.t 31),(.t 33)],none⟩,
⟨some 35,.mov (.t 1),none⟩,
⟨some 36,.bin .eql (.t 34) (.t 35),none⟩])
 (.keep [0,1,4,6,7,36]))
 (.cond (.t 36)
 (.seq
 (.seq (.ops [⟨some 37,.faB 1 7,none⟩,
⟨some 38,.ldE 1 false 7 37,none⟩,
⟨some 39,.faB 0 7,none⟩,
⟨some 40,.ldE 1 false 7 39,none⟩,
⟨some 41,.bld [(.int .i64 0),(.int .i64 0)] [(0,(1,(.t 38))),(1,(1,(.t 40)))],none⟩,
⟨none,.stB 2 4 (.t 41),none⟩,
⟨some 5,.mov (.c (.bool true)),none⟩])
 (.keep [4,5]))
 .ret)
 .skip)))))
 (.seq (.ops [⟨some 15,.mov (.t 6),none⟩,
⟨some 16,.bin .add (.t 15) (.c (.int .i64 1)),none⟩,
⟨some 6,.mov (.t 16),none⟩])
 (.keep [0,1,4,6])))))))
 (.seq
 (.seq (.ops [⟨some 42,.bld [(.int .i64 0),(.int .i64 0)] [],none⟩,
⟨none,.stB 2 4 (.t 42),none⟩,
⟨some 5,.mov (.c (.bool false)),none⟩])
 (.keep [4,5]))
 .ret))),
 [(.box 4 2 true),(.slot 5)]⟩
def F_spec_l10Slack : Fun := ⟨2,
 (.seq
 (.seq (.ops [⟨some 3,.boxL 5 (.t 1),none⟩,
⟨some 4,.mov (.c (.int .i64 0)),none⟩])
 (.keep [0,3]))
 (.seq
 (.seq (.free false [⟨some 7,.mov (.t 0),none⟩,
⟨some 8,.chk (.t 7),none⟩,
⟨some 9,.fa 2 (.t 8),none⟩,
⟨some 10,.ld 1 false (.t 9),none⟩,
⟨some 11,.faB 0 3,none⟩,
⟨some 12,.ldE 1 false 3 11,none⟩,
⟨some 13,.ia 1 (.t 10) (.t 12),none⟩,
⟨some 14,.ld 1 false (.t 13),none⟩,
⟨some 15,.mov (.t 0),none⟩,
⟨some 16,.chk (.t 15),none⟩,
⟨some 17,.fa 2 (.t 16),none⟩,
⟨some 18,.ld 1 false (.t 17),none⟩,
⟨some 19,.faB 1 3,none⟩,
⟨some 20,.ldE 1 false 3 19,none⟩,
⟨some 21,.ia 1 (.t 18) (.t 20),none⟩,
⟨some 22,.ld 1 false (.t 21),none⟩,
⟨some 23,.bin .add (.t 14) (.t 22),none⟩,
⟨some 24,.ldB 5 true 3,none⟩,
⟨some 25,.call n_spec_Scalar [(.t 24)],none⟩,
⟨some 26,.bin .mul (.c (.int .i64 2)) (.t 25),none⟩,
⟨some 27,.bin .sub (.t 23) (.t 26),none⟩,
⟨some 5,.mov (.t 27),none⟩])
 (.keep [0,3,5]))
 (.seq
 (.seq
 (.seq (.ops [⟨some 28,.mov (.t 0),none⟩,
⟨some 29,.chk (.t 28),none⟩,
⟨some 30,.fa 0 (.t 29),none⟩,
⟨some 31,.fa 0 (.t 30),none⟩,
⟨some 32,.ld 1 false (.t 31),none⟩,
⟨some 6,.mov (.t 32),none⟩])
 (.keep [0,3,5,6]))
 (.block 0
 (.loop
 (.seq
 (.seq
 (.seq (.ops [⟨some 33,.mov (.t 6),none⟩,
⟨some 34,.mov (.t 0),none⟩,
⟨some 35,.chk (.t 34),none⟩,
⟨some 36,.fa 3 (.t 35),none⟩,
⟨some 37,.ld 1 false (.t 36),none⟩,
⟨some 38,.ln (.t 37),none⟩,
⟨some 39,.bin .lss (.t 33) (.t 38),none⟩])
 (.keep [0,3,5,6,39]))
 (.cond (.t 39)
 .skip
 (.exit 0)))
 (.seq
 (.block 1
 (.seq
 (.seq (.ops [⟨some 42,.mov (.t 0),none⟩,
⟨some 43,.chk (.t 42),none⟩,
⟨some 44,.fa 3 (.t 43),none⟩,
⟨some 45,.ld 1 false (.t 44),none⟩,
⟨some 46,.mov (.t 6),none⟩,
⟨some 47,.ia 6 (.t 45) (.t 46),none⟩,
⟨some 48,.fa 5 (.t 47),none⟩,
⟨some 49,.ld 1 false (.t 48),none⟩,
⟨some 50,.un .not (.t 49),none⟩,
⟨some 51,.mov (.t 50),none⟩,
⟨some 52,.mov (.t 0),some (51,true)⟩,
⟨some 53,.faB 0 3,some (51,true)⟩,
⟨some 54,.ldE 1 false 3 53,some (51,true)⟩,
⟨some 55,.mov (.t 6),some (51,true)⟩,
⟨some 56,.call n_spec_l10Within [(.t 52),(.t 54),(.t 55)],some (51,true)⟩,
⟨some 57,.pick (.t 51) (.t 56) (.c (.bool false)),none⟩,
⟨some 58,.mov (.t 57),none⟩,
⟨some 59,.mov (.t 0),some (58,true)⟩,
⟨some 60,.faB 1 3,some (58,true)⟩,
⟨some 61,.ldE 1 false 3 60,some (58,true)⟩,
⟨some 62,.mov (.t 6),some (58,true)⟩,
⟨some 63,.call n_spec_l10Within [(.t 59),(.t 61),(.t 62)],some (58,true)⟩,
⟨some 64,.pick (.t 58) (.t 63) (.c (.bool false)),none⟩])
 (.keep [0,3,5,6,64]))
 (.cond (.t 64)
 (.seq (.ops [⟨some 65,.mov (.t 5),none⟩,
⟨some 66,.mov (.t 0),none⟩,
⟨some 67,.chk (.t 66),none⟩,
⟨some 68,.fa 3 (.t 67),none⟩,
⟨some 69,.ld 1 false (.t 68),none⟩,
⟨some 70,.mov (.t 6),none⟩,
⟨some 71,.ia 6 (.t 69) (.t 70),none⟩,
⟨some 72,.fa 3 (.t 71),none⟩,
⟨some 73,.ld 1 false (.t 72),none⟩,
⟨some 74,.bin .add (.t 65) (.t 73),none⟩,
⟨some 5,.mov (.t 74),none⟩])
 (.keep [0,3,5,6]))
 .skip)))
 (.seq (.ops [⟨some 40,.mov (.t 6),none⟩,
⟨some 41,.bin .add (.t 40) (.c (.int .i64 1)),none⟩,
⟨some 6,.mov (.t 41),none⟩])
 (.keep [0,3,5,6])))))))
 (.seq
 (.seq (.ops [⟨some 75,.mov (.t 5),none⟩,
⟨some 4,.mov (.t 75),none⟩])
 (.keep [4]))
 .ret)))),
 [(.slot 4)]⟩
def F_spec_l10Step : Fun := ⟨2,
 (.seq
 (.seq (.ops [⟨some 4,.mov (.c (.int .i64 0)),none⟩,
⟨some 5,.mov (.c (.int .i64 0)),none⟩])
 (.keep [0,1]))
 (.seq
 (.seq (.ops [⟨some 6,.mov (.c (.int .i64 (-1))),none⟩])
 (.keep [0,1]))
 (.seq
 (.seq (.ops [⟨some 7,.mov (.c (.int .i64 (-1))),none⟩])
 (.keep [0,1,7]))
 (.seq
 (.seq
 (.seq (.ops [⟨some 8,.mov (.c (.int .i64 0)),none⟩])
 (.keep [0,1,7,8]))
 (.block 0
 (.loop
 (.seq
 (.seq
 (.seq (.ops [⟨some 14,.mov (.t 8),none⟩,
⟨some 15,.mov (.t 0),none⟩,
⟨some 16,.chk (.t 15),none⟩,
⟨some 17,.fa 0 (.t 16),none⟩,
⟨some 18,.fa 0 (.t 17),none⟩,
⟨some 19,.ld 1 false (.t 18),none⟩,
⟨some 20,.bin .lss (.t 14) (.t 19),none⟩])
 (.keep [0,1,7,8,20]))
 (.cond (.t 20)
 .skip
 (.exit 0)))
 (.seq
 (.block 1
 (.seq
 (.seq (.free false [⟨some 23,.mov (.t 1),none⟩,
⟨some 24,.chk (.t 23),none⟩,
⟨some 25,.fa 0 (.t 24),none⟩,
⟨some 26,.ld 1 false (.t 25),none⟩,
⟨some 27,.mov (.t 0),none⟩,
⟨some 28,.mov (.t 8),none⟩,
⟨some 29,.call n_spec_l10Top [(.t 27),(.t 28)],none⟩,
⟨some 30,.ia 1 (.t 26) (.t 29),none⟩,
⟨some 31,.ld 1 false (.t 30),none⟩,
⟨some 32,.bin .eql (.t 31) (.c (.int .i64 1)),none⟩])
 (.keep [0,1,7,8,32]))
 (.cond (.t 32)
 (.seq (.ops [⟨some 33,.mov (.t 7),none⟩,
⟨some 34,.mov (.t 0),none⟩,
⟨some 35,.chk (.t 34),none⟩,
⟨some 36,.fa 2 (.t 35),none⟩,
⟨some 37,.ld 1 false (.t 36),none⟩,
⟨some 38,.mov (.t 8),none⟩,
⟨some 39,.ia 1 (.t 37) (.t 38),none⟩,
⟨some 40,.ld 1 false (.t 39),none⟩,
⟨some 41,.call n_spec_l10Least [(.t 33),(.t 40)],none⟩,
⟨some 7,.mov (.t 41),none⟩])
 (.keep [0,1,7,8]))
 .skip)))
 (.seq (.ops [⟨some 21,.mov (.t 8),none⟩,
⟨some 22,.bin .add (.t 21) (.c (.int .i64 1)),none⟩,
⟨some 8,.mov (.t 22),none⟩])
 (.keep [0,1,7,8])))))))
 (.seq
 (.seq
 (.seq (.ops [⟨some 42,.mov (.t 7),none⟩,
⟨some 43,.bin .lss (.t 42) (.c (.int .i64 0)),none⟩])
 (.keep [0,1,7,43]))
 (.cond (.t 43)
 (.seq
 (.seq (.ops [⟨some 4,.mov (.c (.int .i64 (-1))),none⟩,
⟨some 5,.mov (.c (.int .i64 (-1))),none⟩])
 (.keep [4,5]))
 .ret)
 .skip))
 (.seq
 (.seq (.ops [⟨some 44,.mov (.t 7),none⟩,
⟨some 6,.mov (.t 44),none⟩])
 (.keep [0,1,6,7]))
 (.seq
 (.seq
 (.seq (.ops [⟨some 9,.mov (.c (.int .i64 0)),none⟩])
 (.keep [0,1,6,7,9]))
 (.block 2
 (.loop
 (.seq
 (.seq
 (.seq (.ops [⟨some 45,.mov (.t 9),none⟩,
⟨some 46,.mov (.t 0),none⟩,
⟨some 47,.chk (.t 46),none⟩,
⟨some 48,.fa 0 (.t 47),none⟩,
⟨some 49,.fa 1 (.t 48),none⟩,
⟨some 50,.ld 1 false (.t 49),none⟩,
⟨some 51,.ln (.t 50),none⟩,
⟨some 52,.bin .lss (.t 45) (.t 51),none⟩])
 (.keep [0,1,6,7,9,52]))
 (.cond (.t 52)
 .skip
 (.exit 2)))
 (.seq
 (.block 3
 (.seq
 (.seq (.ops [⟨some 55,.mov (.t 0),none⟩,
⟨some 56,.chk (.t 55),none⟩,
⟨some 57,.fa 0 (.t 56),none⟩,
⟨some 58,.fa 1 (.t 57),none⟩,
⟨some 59,.ld 1 false (.t 58),none⟩,
⟨some 60,.mov (.t 9),none⟩,
⟨some 61,.ia 5 (.t 59) (.t 60),none⟩,
⟨some 62,.ld 5 true (.t 61),none⟩,
⟨some 10,.newL [(.int .i64 0),(.int .i64 0),(.int .i64 0),(.int .i64 0),(.int .i64 0)],none⟩,
⟨none,.stB 5 10 (.t 62),none⟩])
 (.keep [0,1,6,7,9,10]))
 (.seq
 (.seq (.ops [⟨some 63,.mov (.t 0),none⟩,
⟨some 64,.faB 0 10,none⟩,
⟨some 65,.ldE 1 false 10 64,none⟩,
⟨some 66,.call n_spec_l10Top [(.t 63),(.t 65)],none⟩,
⟨some 11,.mov (.t 66),none⟩])
 (.keep [0,1,6,7,9,10,11]))
 (.seq
 (.seq (.ops [⟨some 67,.mov (.t 0),none⟩,
⟨some 68,.faB 1 10,none⟩,
⟨some 69,.ldE 1 false 10 68,none⟩,
⟨some 70,.call n_spec_l10Top [(.t 67),(.t 69)],none⟩,
⟨some 12,.mov (.t 70),none⟩])
 (.keep [0,1,6,7,9,10,11,12]))
 (.seq
 (.seq
 (.seq (.ops [⟨some 71,.mov (.t 11),none⟩,
⟨some 72,.mov (.t 12),none⟩,
⟨some 73,.bin .eql (.t 71) (.t 72),none⟩,
⟨some 74,.mov (.t 73),none⟩,
⟨some 75,.mov (.t 1),some (74,false)⟩,
⟨some 76,.chk (.t 75),some (74,false)⟩,
⟨some 77,.fa 0 (.t 76),some (74,false)⟩,
⟨some 78,.ld 1 false (.t 77),some (74,false)⟩,
⟨some 79,.mov (.t 11),some (74,false)⟩,
⟨some 80,.ia 1 (.t 78) (.t 79),some (74,false)⟩,
⟨some 81,.ld 1 false (.t 80),some (74,false)⟩,
⟨some 82,.bin .eql (.t 81) (.c (.int .i64 2)),some (74,false)⟩,
⟨some 83,.pick (.t 74) (.c (.bool true)) (.t 82),none⟩,
⟨some 84,.mov (.t 83),none⟩,
⟨some 85,.mov (.t 1),some (84,false)⟩,
⟨some 86,.chk (.t 85),some (84,false)⟩,
⟨some 87,.fa 0 (.t 86),some (84,false)⟩,
⟨some 88,.ld 1 false (.t 87),some (84,false)⟩,
⟨some 89,.mov (.t 12),some (84,false)⟩,
⟨some 90,.ia 1 (.t 88) (.t 89),some (84,false)⟩,
⟨some 91,.ld 1 false (.t 90),some (84,false)⟩,
⟨some 92,.bin .eql (.t 91) (.c (.int .i64 2)),some (84,false)⟩,
⟨some 93,.pick (.t 84) (.c (.bool true)) (.t 92),none⟩])
 (.keep [0,1,6,7,9,10,11,12,93]))
 (.cond (.t 93)
 (.exit 3)
 .skip))
 (.seq
 (.seq (.ops [⟨some 94,.mov (.t 1),none⟩,
⟨some 95,.chk (.t 94),none⟩,
⟨some 96,.fa 0 (.t 95),none⟩,
⟨some 97,.ld 1 false (.t 96),none⟩,
⟨some 98,.mov (.t 11),none⟩,
⟨some 99,.ia 1 (.t 97) (.t 98),none⟩,
⟨some 100,.ld 1 false (.t 99),none⟩,
⟨some 101,.bin .eql (.t 100) (.c (.int .i64 1)),none⟩,
⟨some 102,.mov (.t 101),none⟩,
⟨some 103,.mov (.t 1),some (102,true)⟩,
⟨some 104,.chk (.t 103),some (102,true)⟩,
⟨some 105,.fa 0 (.t 104),some (102,true)⟩,
⟨some 106,.ld 1 false (.t 105),some (102,true)⟩,
⟨some 107,.mov (.t 12),some (102,true)⟩,
⟨some 108,.ia 1 (.t 106) (.t 107),some (102,true)⟩,
⟨some 109,.ld 1 false (.t 108),some (102,true)⟩,
⟨some 110,.bin .eql (.t 109) (.c (.int .i64 1)),some (102,true)⟩,
⟨some 111,.pick (.t 102) (.t 110) (.c (.bool false)),none⟩])
 (.keep [0,1,6,7,9,10,11,12,111]))
 (.cond (.t 111)
 (.seq (.ops [⟨some 112,.mov (.t 6),none⟩,
⟨some 113,.mov (.t 0),none⟩,
⟨some 114,.ldB 5 true 10,none⟩,
⟨some 115,.call n_spec_l10Slack [(.t 113),(.t 114)],none⟩,
⟨some 116,.bin .quo (.t 115) (.c (.int .i64 2)),none⟩,
⟨some 117,.call n_spec_l10Least [(.t 112),(.t 116)],none⟩,
⟨some 6,.mov (.t 117),none⟩])
 (.keep [0,1,6,7,9]))
 (.seq
 (.seq (.ops [⟨some 118,.mov (.t 1),none⟩,
⟨some 119,.chk (.t 118),none⟩,
⟨some 120,.fa 0 (.t 119),none⟩,
⟨some 121,.ld 1 false (.t 120),none⟩,
⟨some 122,.mov (.t 11),none⟩,
⟨some 123,.ia 1 (.t 121) (.t 122),none⟩,
⟨some 124,.ld 1 false (.t 123),none⟩,
⟨some 125,.bin .eql (.t 124) (.c (.int .i64 1)),none⟩,
⟨some 126,.mov (.t 125),none⟩,
⟨some 127,.mov (.t 1),some (126,false)⟩,
⟨some 128,.chk (.t 127),some (126,false)⟩,
⟨some 129,.fa 0 (.t 128),some (126,false)⟩,
⟨some 130,.ld 1 false (.t 129),some (126,false)⟩,
⟨some 131,.mov (.t 12),some (126,false)⟩,
⟨some 132,.ia 1 (.t 130) (.t 131),some (126,false)⟩,
⟨some 133,.ld 1 false (.t 132),some (126,false)⟩,
⟨some 134,.bin .eql (.t 133) (.c (.int .i64 1)),some (126,false)⟩,
⟨some 135,.pick (.t 126) (.c (.bool true)) (.t 134),none⟩])
 (.keep [0,1,6,7,9,10,135]))
 (.cond (.t 135)
 (.seq (.ops [⟨some 136,.mov (.t 6),none⟩,
⟨some 137,.mov (.t 0),none⟩,
⟨some 138,.ldB 5 true 10,none⟩,
⟨some 139,.call n_spec_l10Slack [(.t 137),(.t 138)],none⟩,
⟨some 140,.call n_spec_l10Least [(.t 136),(.t 139)],none⟩,
⟨some 6,.mov (.t 140),none⟩])
 (.keep [0,1,6,7,9]))
 .skip)))))))))
 (.seq (.ops [⟨some 53,.mov (.t 9),none⟩,
⟨some 54,.bin .add (.t 53) (.c (.int .i64 1)),none⟩,
⟨some 9,.mov (.t 54),none⟩])
 (.keep [0,1,6,7,9])))))))
 (.seq
 (.seq
 (.seq (.ops [⟨some 141,.mov (.t 0),none⟩,
⟨some 142,.chk (.t 141),none⟩,
⟨some 143,.fa 0 (.t 142),none⟩,
⟨some 144,.fa 0 (.t 143),none⟩,
⟨some 145,.ld 1 false (.t 144),none⟩,
⟨some 13,.mov (.t 145),none⟩])
 (.keep [0,1,6,7,13]))
 (.block 4
 (.loop
 (.seq
 (.seq
 (.seq (.ops [⟨some 146,.mov (.t 13),none⟩,
⟨some 147,.mov (.t 0),none⟩,
⟨some 148,.chk (.t 147),none⟩,
⟨some 149,.fa 3 (.t 148),none⟩,
⟨some 150,.ld 1 false (.t 149),none⟩,
⟨some 151,.ln (.t 150),none⟩,
⟨some 152,.bin .lss (.t 146) (.t 151),none⟩])
 (.keep [0,1,6,7,13,152]))
 (.cond (.t 152)
 .skip
 (.exit 4)))
 (.seq
 (.block 5
 (.seq
 (.seq (.ops [⟨some 155,.mov (.t 0),none⟩,
⟨some 156,.mov (.t 13),none⟩,
⟨some 157,.call n_spec_l10IsTop [(.t 155),(.t 156)],none⟩,
⟨some 158,.mov (.t 157),none⟩,
⟨some 159,.mov (.t 1),some (158,true)⟩,
⟨some 160,.chk (.t 159),some (158,true)⟩,
⟨some 161,.fa 0 (.t 160),some (158,true)⟩,
⟨some 162,.ld 1 false (.t 161),some (158,true)⟩,
⟨some 163,.mov (.t 13),some (158,true)⟩,
⟨some 164,.ia 1 (.t 162) (.t 163),some (158,true)⟩,
⟨some 165,.ld 1 false (.t 164),some (158,true)⟩,
⟨some 166,.bin .eql (.t 165) (.c (.int .i64 2)),some (158,true)⟩,
⟨some 167,.pick (.t 158) (.t 166) (.c (.bool false)),none⟩])
 (.keep [0,1,6,7,13,167]))
 (.cond (.t 167)
 (.seq (.ops [⟨some 168,.mov (.t 6),none⟩,
⟨some 169,.mov (.t 0),none⟩,
⟨some 170,.chk (.t 169),none⟩,
⟨some 171,.fa 3 (.t 170),none⟩,
⟨some 172,.ld 1 false (.t 171),none⟩,
⟨some 173,.mov (.t 13),none⟩,
⟨some 174,.ia 6 (.t 172) (.t 173),none⟩,
⟨some 175,.fa 3 (.t 174),none⟩,
⟨some 176,.ld 1 false (.t 175),none⟩,
⟨some 177,.bin .quo (.t 176) (.c (.int .i64 2)),none⟩,
⟨some 178,.call n_spec_l10Least [(.t 168),(.t 177)],none⟩,
⟨some 6,.mov (.t 178),none⟩])
 (.keep [0,1,6,7,13]))
 .skip)))
 (.seq (.ops [⟨some 153,.mov (.t 13),none⟩,
⟨some 154,.bin .add (.t 153) (.c (.int .i64 1)),none⟩,
⟨some 13,.mov (.t 154),none⟩])
 (.keep [0,1,6,7,13])))))))
 (.seq
 (.seq (.ops [⟨some 179,.mov (.t 6),none⟩,
⟨some 180,.mov (.t 7),none⟩,
⟨some 4,.mov (.t 179),none⟩,
⟨some 5,.mov (.t 180),none⟩])
 (.keep [4,5]))
 .ret))))))))),
 [(.slot 4),(.slot 5)]⟩
def F_spec_l10First : Fun := ⟨2,
 (.seq
 (.seq (.ops [⟨some 4,.mov (.c (.int .i64 0)),none⟩])
 (.keep [0,1]))
 (.seq
 (.seq
 (.seq (.ops [⟨some 6,.mov (.t 0),none⟩,
⟨some 7,.chk (.t 6),none⟩,
⟨some 8,.fa 0 (.t 7),none⟩,
⟨some 9,.fa 0 (.t 8),none⟩,
⟨some 10,.ld 1 false (.t 9),none⟩,
⟨some 5,.mov (.t 10),none⟩])
 (.keep [0,1,5]))
 (.block 0
 (.loop
 (.seq
 (.seq
 (.seq (.ops [⟨some 11,.mov (.t 5),none⟩,
⟨some 12,.mov (.t 0),none⟩,
⟨some 13,.chk (.t 12),none⟩,
⟨some 14,.fa 3 (.t 13),none⟩,
⟨some 15,.ld 1 false (.t 14),none⟩,
⟨some 16,.ln (.t 15),none⟩,
⟨some 17,.bin .lss (.t 11) (.t 16),none⟩])
 (.keep [0,1,5,17]))
 (.cond (.t 17)
 .skip
 (.exit 0)))
 (.seq
 (.block 1
 (.seq
 (.seq (.ops [⟨some 20,.mov (.t 0),none⟩,
⟨some 21,.mov (.t 5),none⟩,
⟨some 22,.call n_spec_l10IsTop [(.t 20),(.t 21)],none⟩,
⟨some 23,.mov (.t 22),none⟩,
⟨some 24,.mov (.t 0),some (23,true)⟩,
⟨some 25,.chk (.t 24),some (23,true)⟩,
⟨some 26,.fa 3 (.t 25),some (23,true)⟩,
⟨some 27,.ld 1 false (.t 26),some (23,true)⟩,
⟨some 28,.mov (.t 5),some (23,true)⟩,
⟨some 29,.ia 6 (.t 27) (.t 28),some (23,true)⟩,
⟨some 30,.fa 3 (.t 29),some (23,true)⟩,
⟨some 31,.ld 1 false (.t 30),some (23,true)⟩,
⟨some 32,.bin .eql (.t 31) (.c (.int .i64 0)),some (23,true)⟩,
⟨some 33,.pick (.t 23) (.t 32) (.c (.bool false)),none⟩,
⟨some 34,.mov (.t 33),none⟩,
⟨some 35,.mov (.t 1),some (34,true)⟩,
⟨some 36,.ln (.t 35),some (34,true)⟩,
⟨some 37,.bin .eql (.t 36) (.c (.int .i64 0)),some (34,true)⟩,
⟨some 38,.mov (.t 37),some (34,true)⟩,
⟨some 39,.mov (.t 1),some (38,false)⟩,
⟨some 40,.mov (.t 5),some (38,false)⟩,
⟨some 41,.ia 1 (.t 39) (.t 40),some (38,false)⟩,
⟨some 42,.ld 1 false (.t 41),some (38,false)⟩,
⟨some 43,.bin .eql (.t 42) (.c (.int .i64 2)),some (38,false)⟩,
⟨some 44,.pick (.t 38) (.c (.bool true)) (.t 43),some (34,true)⟩,
⟨some 45,.pick (.t 34) (.t 44) (.c (.bool false)),none⟩])
 (.keep [0,1,5,45]))
 (.cond (.t 45)
 (.seq
 (.seq (.ops [⟨some 46,.mov (.t 5),none⟩,
⟨some 4,.mov (.t 46),none⟩])
 (.keep [4]))
 .ret)
 .skip)))
 (.seq (.ops [⟨some 18,.mov (.t 5),none⟩,
⟨some 19,.bin .add (.t 18) (.c (.int .i64 1)),none⟩,
⟨some 5,.mov (.t 19),none⟩])
 (.keep [0,1,5])))))))
 (.seq
 (.seq (.ops [⟨some 4,.mov (.c (.int .i64 (-1))),none⟩])
 (.keep [4]))
 .ret))),
 [(.slot 4)]⟩
def F_spec_l10Way : Fun := ⟨3,
 (.seq
 (.seq (.ops [⟨some 6,.mov (.c (.slice none 0 0)),none⟩])
 (.keep [0,1,2]))
 (.seq
 (.seq (.ops [⟨some 8,.mov (.t 2),none⟩,
⟨some 9,.lit 1 1 y_int [(.int .i64 0)] [(0,(.t 8))],none⟩,
⟨some 7,.mov (.t 9),none⟩])
 (.keep [0,1,2,7]))
 (.seq
 (.block 0
 (.loop
 (.seq
 (.seq
 (.seq (.ops [⟨some 10,.mov (.t 1),none⟩,
⟨some 11,.chk (.t 10),none⟩,
⟨some 12,.fa 2 (.t 11),none⟩,
⟨some 13,.ld 1 false (.t 12),none⟩,
⟨some 14,.mov (.t 2),none⟩,
⟨some 15,.ia 1 (.t 13) (.t 14),none⟩,
⟨some 16,.ld 1 false (.t 15),none⟩,
⟨some 17,.mov (.t 2),none⟩,
⟨some 18,.bin .neq (.t 16) (.t 17),none⟩])
 (.keep [0,1,2,7,18]))
 (.cond (.t 18)
 .skip
 (.exit 0)))
 (.block 1
 (.seq
 (.seq (.ops [⟨some 19,.mov (.t 0),none⟩,
⟨some 20,.mov (.t 1),none⟩,
⟨some 21,.chk (.t 20),none⟩,
⟨some 22,.fa 1 (.t 21),none⟩,
⟨some 23,.ld 1 false (.t 22),none⟩,
⟨some 24,.mov (.t 2),none⟩,
⟨some 25,.ia 2 (.t 23) (.t 24),none⟩,
⟨some 26,.fa 0 (.t 25),none⟩,
⟨some 27,.ld 1 false (.t 26),none⟩,
⟨some 28,.call n_spec_l10Top [(.t 19),(.t 27)],none⟩,
⟨some 2,.mov (.t 28),none⟩])
 (.keep [0,1,2,7]))
 (.seq (.ops [⟨some 29,.mov (.t 7),none⟩,
⟨some 30,.mov (.t 2),none⟩,
⟨some 31,.litL 1 1 [(.int .i64 0)] [(0,(.t 30))],none⟩,
⟨some 32,.appL 1 y_int 8 1 (.t 29) 31,none⟩,
⟨some 7,.mov (.t 32),none⟩])
 (.keep [0,1,2,7])))))))
 (.seq
 (.seq (.ops [⟨some 33,.mov (.t 7),none⟩,
⟨some 6,.mov (.t 33),none⟩])
 (.keep [6]))
 .ret)))),
 [(.slot 6)]⟩
def F_spec_l08Place : Fun := ⟨2,
 (.seq
 (.seq (.ops [⟨some 4,.mov (.c (.int .i64 0)),none⟩])
 (.keep [0,1]))
 (.seq
 (.seq
 (.seq (.ops [⟨some 5,.mov (.c (.int .i64 0)),none⟩])
 (.keep [0,1,5]))
 (.block 0
 (.loop
 (.seq
 (.seq
 (.seq (.ops [⟨some 6,.mov (.t 5),none⟩,
⟨some 7,.mov (.t 0),none⟩,
⟨some 8,.ln (.t 7),none⟩,
⟨some 9,.bin .lss (.t 6) (.t 8),none⟩])
 (.keep [0,1,5,9]))
 (.cond (.t 9)
 .skip
 (.exit 0)))
 (.seq
 (.block 1
 (.seq
 (.seq (.ops [⟨some 12,.mov (.t 0),none⟩,
⟨some 13,.mov (.t 5),none⟩,
⟨some 14,.ia 1 (.t 12) (.t 13),none⟩,
⟨some 15,.ld 1 false (.t 14),none⟩,
⟨some 16,.mov (.t 1),none⟩,
⟨some 17,.bin .eql (.t 15) (.t 16),none⟩])
 (.keep [0,1,5,17]))
 (.cond (.t 17)
 (.seq
 (.seq (.ops [⟨some 18,.mov (.t 5),none⟩,
⟨some 4,.mov (.t 18),none⟩])
 (.keep [4]))
 .ret)
 .skip)))
 (.seq (.ops [⟨some 10,.mov (.t 5),none⟩,
⟨some 11,.bin .add (.t 10) (.c (.int .i64 1)),none⟩,
⟨some 5,.mov (.t 11),none⟩])
 (.keep [0,1,5])))))))
 (.seq
 (.seq (.ops [⟨some 4,.mov (.c (.int .i64 (-1))),none⟩])
 (.keep [4]))
 .ret))),
 [(.slot 4)]⟩
def F_spec_l10Without : Fun := ⟨2,
 (.seq
 (.seq (.ops [⟨some 6,.lit 0 2 y_l10Link [(.int .i64 0),(.int .i64 0)] [],none⟩,
⟨some 4,.mov (.t 6),none⟩])
 (.keep [0,1,4]))
 (.seq
 (.seq
 (.seq (.ops [⟨some 5,.mov (.c (.int .i64 0)),none⟩])
 (.keep [0,1,4,5]))
 (.block 0
 (.loop
 (.seq
 (.seq
 (.seq (.ops [⟨some 7,.mov (.t 5),none⟩,
⟨some 8,.mov (.t 0),none⟩,
⟨some 9,.chk (.t 8),none⟩,
⟨some 10,.fa 4 (.t 9),none⟩,
⟨some 11,.ld 1 false (.t 10),none⟩,
⟨some 12,.ln (.t 11),none⟩,
⟨some 13,.bin .lss (.t 7) (.t 12),none⟩])
 (.keep [0,1,4,5,13]))
 (.cond (.t 13)
 .skip
 (.exit 0)))
 (.seq
 (.block 1
 (.seq
 (.seq (.ops [⟨some 16,.mov (.t 0),none⟩,
⟨some 17,.mov (.t 0),none⟩,
⟨some 18,.chk (.t 17),none⟩,
⟨some 19,.fa 4 (.t 18),none⟩,
⟨some 20,.ld 1 false (.t 19),none⟩,
⟨some 21,.mov (.t 5),none⟩,
⟨some 22,.ia 2 (.t 20) (.t 21),none⟩,
⟨some 23,.fa 0 (.t 22),none⟩,
⟨some 24,.ld 1 false (.t 23),none⟩,
⟨some 25,.call n_spec_l10Top [(.t 16),(.t 24)],none⟩,
⟨some 26,.mov (.t 1),none⟩,
⟨some 27,.bin .neq (.t 25) (.t 26),none⟩,
⟨some 28,.mov (.t 27),none⟩,
⟨some 29,.mov (.t 0),some (28,true)⟩,
⟨some 30,.mov (.t 0),some (28,true)⟩,
⟨some 31,.chk (.t 30),some (28,true)⟩,
⟨some 32,.fa 4 (.t 31),some (28,true)⟩,
⟨some 33,.ld 1 false (.t 32),some (28,true)⟩,
⟨some 34,.mov (.t 5),some (28,true)⟩,
⟨some 35,.ia 2 (.t 33) (.t 34),some (28,true)⟩,
⟨some 36,.fa 1 (.t 35),some (28,true)⟩,
⟨some 37,.ld 1 false (.t 36),some (28,true)⟩,
⟨some 38,.call n_spec_l10Top [(.t 29),(.t 37)],some (28,true)⟩,
⟨some 39,.mov (.t 1),some (28,true)⟩,
⟨some 40,.bin .neq (.t 38) (.t 39),some (28,true)⟩,
⟨some 41,.pick (.t 28) (.t 40) (.c (.bool false)),none⟩])
 (.keep [0,1,4,5,41]))
 (.cond (.t 41)
 (.seq (.ops [⟨some 42,.mov (.t 4),none⟩,
⟨some 43,.mov (.t 0),none⟩,
⟨some 44,.chk (.t 43),none⟩,
⟨some 45,.fa 4 (.t 44),none⟩,
⟨some 46,.ld 1 false (.t 45),none⟩,
⟨some 47,.mov (.t 5),none⟩,
⟨some 48,.ia 2 (.t 46) (.t 47),none⟩,
⟨some 49,.ld 2 true (.t 48),none⟩,
⟨some 50,.litL 1 2 [(.int .i64 0),(.int .i64 0)] [(0,(.t 49))],none⟩,
⟨some 51,.appL 2 y_l10Link 16 1 (.t 42) 50,none⟩,
⟨some 4,.mov (.t 51),none⟩])
 (.keep [0,1,4,5]))
 .skip)))
 (.seq (.ops [⟨some 14,.mov (.t 5),none⟩,
⟨some 15,.bin .add (.t 14) (.c (.int .i64 1)),none⟩,
⟨some 5,.mov (.t 15),none⟩])
 (.keep [0,1,4,5])))))))
 (.seq (.ops [⟨some 52,.mov (.t 0),none⟩,
⟨some 53,.mov (.t 4),none⟩,
⟨some 54,.chk (.t 52),none⟩,
⟨some 55,.fa 4 (.t 54),none⟩,
⟨none,.st 1 (.t 55) (.t 53),none⟩])
 (.keep [])))),
 []⟩
def F_spec_l10Least : Fun := ⟨2,
 (.seq
 (.seq (.ops [⟨some 4,.mov (.c (.int .i64 0)),none⟩])
 (.keep [0,1]))
 (.seq
 (.seq
 (.seq (.ops [⟨some 5,.mov (.t 0),none⟩,
⟨some 6,.bin .lss (.t 5) (.c (.int .i64 0)),none⟩,
⟨some 7,.mov (.t 6),none⟩,
⟨some 8,.mov (.t 1),some (7,false)⟩,
⟨some 9,.mov (.t 0),some (7,false)⟩,
⟨some 10,.bin .lss (.t 8) (.t 9),some (7,false)⟩,
⟨some 11,.pick (.t 7) (.c (.bool true)) (.t 10),none⟩])
 (.keep [0,1,11]))
 (.cond (.t 11)
 (.seq
 (.seq (.ops [⟨some 12,.mov (.t 1),none⟩,
⟨some 4,.mov (.t 12),none⟩])
 (.keep [4]))
 .ret)
 .skip))
 (.seq
 (.seq (.ops [⟨some 13,.mov (.t 0),none⟩,
⟨some 4,.mov (.t 13),none⟩])
 (.keep [4]))
 .ret))),
 [(.slot 4)]⟩
end Go.Proofs.Ytafhipglhnfgnaa.Ab
