/- The functions, as they are read. No conditions. -/
import Derived.Test.YtafhipglhnfgnaaFN
namespace Go.Proofs.Ytafhipglhnfgnaa.Ab
def F_laws_FnProves : Fun := ⟨1,
 (.seq
 (.seq (.ops [⟨some 2,.mov (.c (.bool false)),none⟩])
 (.keep [0]))
 (.seq
 (.seq
 (.seq (.ops [⟨some 14,.mov (.t 0),none⟩,
⟨some 15,.call n_laws_big [(.t 14)],none⟩])
 (.keep [0,15]))
 (.cond (.t 15)
 (.seq
 (.seq (.ops [⟨some 2,.mov (.c (.bool true)),none⟩])
 (.keep [2]))
 .ret)
 .skip))
 (.seq
 (.seq (.ops [⟨some 17,.mov (.t 0),none⟩,
⟨some 18,.call n_spec_DrawAnyProof [(.t 17)],none⟩,
⟨some 16,.mov (.t 18),none⟩,
⟨some 19,.ext 0 (.t 16),none⟩,
⟨some 20,.ext 1 (.t 16),none⟩,
⟨some 3,.newL [(.int .i64 0),(.slice none 0 0)],none⟩,
⟨some 4,.newL [(.slice none 0 0),(.slice none 0 0)],none⟩,
⟨none,.stB 2 3 (.t 19),none⟩,
⟨none,.stB 2 4 (.t 20),none⟩])
 (.keep [0,3,4]))
 (.seq
 (.seq (.ops [⟨some 21,.ldB 2 true 3,none⟩,
⟨some 22,.ldB 2 true 4,none⟩,
⟨some 23,.call n_impl_ProofOk [(.t 21),(.t 22)],none⟩,
⟨some 5,.mov (.t 23),none⟩])
 (.keep [0,3,4,5]))
 (.seq
 (.seq
 (.seq (.ops [⟨some 24,.mov (.t 5),none⟩,
⟨some 25,.ldB 2 true 3,none⟩,
⟨some 26,.ldB 2 true 4,none⟩,
⟨some 27,.call n_spec_ProofOk [(.t 25),(.t 26)],none⟩,
⟨some 28,.binB .neq (.t 24) (.t 27),none⟩])
 (.keep [0,3,4,5,28]))
 (.cond (.t 28)
 (.seq
 (.seq (.ops [⟨some 2,.mov (.c (.bool false)),none⟩])
 (.keep [2]))
 .ret)
 .skip))
 (.seq
 (.seq
 (.seq (.ops [⟨some 29,.mov (.t 5),none⟩,
⟨some 30,.un .not (.t 29),none⟩])
 (.keep [0,3,4,30]))
 (.cond (.t 30)
 (.seq
 (.seq (.ops [⟨some 31,.ldB 2 true 3,none⟩,
⟨some 32,.ldB 2 true 4,none⟩,
⟨some 33,.call n_impl_Bound [(.t 31),(.t 32)],none⟩,
⟨some 34,.bin .eql (.t 33) (.c (.int .i64 0)),none⟩,
⟨some 2,.mov (.t 34),none⟩])
 (.keep [2]))
 .ret)
 .skip))
 (.seq
 (.seq (.ops [⟨some 36,.ldB 2 true 3,none⟩,
⟨some 37,.call n_spec_BestSums [(.t 36)],none⟩,
⟨some 35,.mov (.t 37),none⟩,
⟨some 38,.ext 0 (.t 35),none⟩,
⟨some 39,.ext 1 (.t 35),none⟩,
⟨some 6,.newL [(.int .i64 0),(.int .i64 0),(.int .i64 0)],none⟩,
⟨none,.stB 3 6 (.t 38),none⟩,
⟨some 7,.mov (.t 39),none⟩])
 (.keep [0,3,4,6]))
 (.seq
 (.seq (.ops [⟨some 40,.faB 0 6,none⟩,
⟨some 41,.ldE 1 false 6 40,none⟩,
⟨some 42,.bin .mul (.c (.int .i64 90000)) (.t 41),none⟩,
⟨some 43,.faB 1 6,none⟩,
⟨some 44,.ldE 1 false 6 43,none⟩,
⟨some 45,.bin .mul (.c (.int .i64 300)) (.t 44),none⟩,
⟨some 46,.bin .add (.t 42) (.t 45),none⟩,
⟨some 47,.faB 2 6,none⟩,
⟨some 48,.ldE 1 false 6 47,none⟩,
⟨some 49,.bin .add (.t 46) (.t 48),none⟩,
⟨some 8,.mov (.t 49),none⟩])
 (.keep [0,3,4,8]))
 (.seq
 (.seq (.ops [⟨some 51,.mov (.t 0),none⟩,
⟨some 52,.call n_spec_DrawRightMatch [(.t 51)],none⟩,
⟨some 50,.mov (.t 52),none⟩,
⟨some 53,.ext 0 (.t 50),none⟩,
⟨some 54,.ext 1 (.t 50),none⟩,
⟨some 9,.newL [(.int .i64 0),(.slice none 0 0)],none⟩,
⟨none,.stB 2 9 (.t 53),none⟩,
⟨some 10,.mov (.t 54),none⟩])
 (.keep [3,4,8,10]))
 (.seq
 (.seq (.ops [⟨some 56,.ldB 2 true 3,none⟩,
⟨some 57,.call n_spec_Solve [(.t 56)],none⟩,
⟨some 55,.mov (.t 57),none⟩,
⟨some 58,.ext 0 (.t 55),none⟩,
⟨some 59,.ext 1 (.t 55),none⟩,
⟨some 60,.ext 2 (.t 55),none⟩,
⟨some 12,.newL [(.slice none 0 0),(.slice none 0 0)],none⟩,
⟨some 11,.mov (.t 58),none⟩,
⟨none,.stB 2 12 (.t 59),none⟩,
⟨some 13,.mov (.t 60),none⟩])
 (.keep [3,4,8,10,11]))
 (.seq
 (.seq
 (.seq (.free true [⟨some 61,.ldB 2 true 3,none⟩,
⟨some 62,.ldB 2 true 4,none⟩,
⟨some 63,.call n_impl_Bound [(.t 61),(.t 62)],none⟩,
⟨some 64,.mov (.t 8),none⟩,
⟨some 65,.bin .lss (.t 63) (.t 64),none⟩,
⟨some 66,.mov (.t 65),none⟩,
⟨some 67,.ldB 2 true 3,some (66,false)⟩,
⟨some 68,.mov (.t 11),some (66,false)⟩,
⟨some 69,.ldB 2 true 4,some (66,false)⟩,
⟨some 70,.call n_impl_Certifies [(.t 67),(.t 68),(.t 69)],some (66,false)⟩,
⟨some 71,.ldB 2 true 3,some (66,false)⟩,
⟨some 72,.mov (.t 11),some (66,false)⟩,
⟨some 73,.ldB 2 true 4,some (66,false)⟩,
⟨some 74,.call n_spec_Certifies [(.t 71),(.t 72),(.t 73)],some (66,false)⟩,
⟨some 75,.binB .neq (.t 70) (.t 74),some (66,false)⟩,
⟨some 76,.pick (.t 66) (.c (.bool true)) (.t 75),none⟩])
 (.keep [3,4,8,10,76]))
 (.cond (.t 76)
 (.seq
 (.seq (.ops [⟨some 2,.mov (.c (.bool false)),none⟩])
 (.keep [2]))
 .ret)
 .skip))
 (.seq
 (.seq (.ops [⟨some 77,.ldB 2 true 3,none⟩,
⟨some 78,.mov (.t 10),none⟩,
⟨some 79,.call n_spec_MatchOk [(.t 77),(.t 78)],none⟩,
⟨some 80,.un .not (.t 79),none⟩,
⟨some 81,.mov (.t 80),none⟩,
⟨some 82,.ldB 2 true 3,some (81,false)⟩,
⟨some 83,.mov (.t 10),some (81,false)⟩,
⟨some 84,.ldB 2 true 4,some (81,false)⟩,
⟨some 85,.call n_impl_Certifies [(.t 82),(.t 83),(.t 84)],some (81,false)⟩,
⟨some 86,.un .not (.t 85),some (81,false)⟩,
⟨some 87,.pick (.t 81) (.c (.bool true)) (.t 86),none⟩,
⟨some 88,.mov (.t 87),none⟩,
⟨some 89,.ldB 2 true 3,some (88,false)⟩,
⟨some 90,.mov (.t 10),some (88,false)⟩,
⟨some 91,.call n_laws_worth [(.t 89),(.t 90)],some (88,false)⟩,
⟨some 92,.mov (.t 8),some (88,false)⟩,
⟨some 93,.bin .eql (.t 91) (.t 92),some (88,false)⟩,
⟨some 94,.pick (.t 88) (.c (.bool true)) (.t 93),none⟩,
⟨some 2,.mov (.t 94),none⟩])
 (.keep [2]))
 .ret)))))))))))),
 [(.slot 2)]⟩
def F_laws_big : Fun := ⟨1,
 (.seq
 (.seq (.ops [⟨some 2,.mov (.c (.bool false)),none⟩])
 (.keep [0]))
 (.seq
 (.seq (.ops [⟨some 3,.mov (.t 0),none⟩,
⟨some 4,.ln (.t 3),none⟩,
⟨some 5,.bin .gtr (.t 4) (.c (.int .i64 1048576)),none⟩,
⟨some 2,.mov (.t 5),none⟩])
 (.keep [2]))
 .ret)),
 [(.slot 2)]⟩
def F_spec_DrawAnyProof : Fun := ⟨1,
 (.seq
 (.seq (.ops [⟨some 2,.newL [(.int .i64 0),(.slice none 0 0)],none⟩,
⟨some 3,.newL [(.slice none 0 0),(.slice none 0 0)],none⟩])
 (.keep [0,2,3]))
 (.seq
 (.seq (.ops [⟨some 10,.mov (.t 0),none⟩,
⟨some 11,.call n_spec_l01New [(.t 10)],none⟩,
⟨some 4,.mov (.t 11),none⟩])
 (.keep [2,3,4]))
 (.seq
 (.seq (.ops [⟨some 12,.mov (.t 4),none⟩,
⟨some 13,.call n_spec_l08Graph [(.t 12)],none⟩,
⟨some 5,.newL [(.int .i64 0),(.slice none 0 0)],none⟩,
⟨none,.stB 2 5 (.t 13),none⟩])
 (.keep [2,3,4,5]))
 (.seq
 (.seq (.ops [⟨some 15,.ldB 2 true 5,none⟩,
⟨some 16,.call n_spec_Solve [(.t 15)],none⟩,
⟨some 14,.mov (.t 16),none⟩,
⟨some 17,.ext 0 (.t 14),none⟩,
⟨some 18,.ext 1 (.t 14),none⟩,
⟨some 19,.ext 2 (.t 14),none⟩,
⟨some 7,.newL [(.slice none 0 0),(.slice none 0 0)],none⟩,
⟨some 6,.mov (.t 17),none⟩,
⟨none,.stB 2 7 (.t 18),none⟩,
⟨some 8,.mov (.t 19),none⟩])
 (.keep [2,3,4,5,7]))
 (.seq
 (.seq
 (.seq (.ops [⟨some 9,.mov (.c (.int .i64 0)),none⟩])
 (.keep [2,3,4,5,7,9]))
 (.block 0
 (.loop
 (.seq
 (.seq
 (.seq (.ops [⟨some 20,.mov (.t 9),none⟩,
⟨some 21,.faB 0 7,none⟩,
⟨some 22,.ldE 1 false 7 21,none⟩,
⟨some 23,.ln (.t 22),none⟩,
⟨some 24,.bin .lss (.t 20) (.t 23),none⟩])
 (.keep [2,3,4,5,7,9,24]))
 (.cond (.t 24)
 .skip
 (.exit 0)))
 (.seq
 (.block 1
 (.seq
 (.seq (.ops [⟨some 27,.mov (.t 4),none⟩,
⟨some 28,.call n_spec_l01Once [(.t 27),(.c (.int .i64 3))],none⟩])
 (.keep [2,3,4,5,7,9,28]))
 (.cond (.t 28)
 (.seq (.opn [(.c,⟨some 37,.mov (.t 4),none⟩),
 (.m,⟨some 38,.call n_spec_l01Below [(.t 37),(.c (.int .i64 700))],none⟩),
 (.c,⟨some 29,.faB 0 7,none⟩),
 (.c,⟨some 30,.ldE 1 false 7 29,none⟩),
 (.c,⟨some 31,.mov (.t 9),none⟩),
 (.c,⟨some 32,.faB 0 7,none⟩),
 (.c,⟨some 33,.ldE 1 false 7 32,none⟩),
 (.c,⟨some 34,.mov (.t 9),none⟩),
 ((.l 0),⟨some 35,.ia 1 (.t 33) (.t 34),none⟩),
 ((.l 0),⟨some 36,.ld 1 false (.t 35),none⟩),
 (.c,⟨some 39,.bin .add (.t 36) (.t 38),none⟩),
 ((.l 1),⟨some 40,.ia 1 (.t 30) (.t 31),none⟩),
 (.m,⟨none,.st 1 (.t 40) (.t 39),none⟩)])
 (.keep [2,3,4,5,7,9]))
 .skip)))
 (.seq (.ops [⟨some 25,.mov (.t 9),none⟩,
⟨some 26,.bin .add (.t 25) (.c (.int .i64 1)),none⟩,
⟨some 9,.mov (.t 26),none⟩])
 (.keep [2,3,4,5,7,9])))))))
 (.seq
 (.seq
 (.seq (.ops [⟨some 41,.faB 0 5,none⟩,
⟨some 42,.ldE 1 false 5 41,none⟩,
⟨some 43,.bin .gtr (.t 42) (.c (.int .i64 2)),none⟩,
⟨some 44,.mov (.t 43),none⟩,
⟨some 45,.faB 1 7,some (44,true)⟩,
⟨some 46,.ldE 1 false 7 45,some (44,true)⟩,
⟨some 47,.ln (.t 46),some (44,true)⟩,
⟨some 48,.bin .eql (.t 47) (.c (.int .i64 0)),some (44,true)⟩,
⟨some 49,.pick (.t 44) (.t 48) (.c (.bool false)),none⟩,
⟨some 50,.mov (.t 49),none⟩,
⟨some 51,.mov (.t 4),some (50,true)⟩,
⟨some 52,.call n_spec_l01Once [(.t 51),(.c (.int .i64 2))],some (50,true)⟩,
⟨some 53,.pick (.t 50) (.t 52) (.c (.bool false)),none⟩])
 (.keep [2,3,4,5,7,53]))
 (.cond (.t 53)
 (.seq (.free true [⟨some 54,.faB 1 7,none⟩,
⟨some 55,.ldE 1 false 7 54,none⟩,
⟨some 57,.mov (.t 4),none⟩,
⟨some 58,.call n_spec_l01Below [(.t 57),(.c (.int .i64 9))],none⟩,
⟨some 59,.bin .add (.c (.int .i64 1)) (.t 58),none⟩,
⟨some 56,.lit 3 1 y_int [(.int .i64 0)] [(0,(.c (.int .i64 0))),(1,(.c (.int .i64 1))),(2,(.c (.int .i64 2)))],none⟩,
⟨some 60,.bld [(.slice none 0 0),(.int .i64 0)] [(0,(1,(.t 56))),(1,(1,(.t 59)))],none⟩,
⟨some 61,.litL 1 2 [(.slice none 0 0),(.int .i64 0)] [(0,(.t 60))],none⟩,
⟨some 62,.appL 2 y_Group 32 1 (.t 55) 61,none⟩,
⟨some 63,.faB 1 7,none⟩,
⟨none,.stE 1 7 63 (.t 62),none⟩])
 (.keep [2,3,5,7]))
 .skip))
 (.seq
 (.seq (.free true [⟨some 64,.ldB 2 true 5,none⟩,
⟨some 65,.ldB 2 true 7,none⟩,
⟨none,.stB 2 2 (.t 64),none⟩,
⟨none,.stB 2 3 (.t 65),none⟩])
 (.keep [2,3]))
 .ret))))))),
 [(.box 2 2 true),(.box 3 2 true)]⟩
def F_impl_ProofOk : Fun := ⟨2,
 (.seq
 (.seq (.ops [⟨some 2,.boxL 2 (.t 0),none⟩,
⟨some 3,.boxL 2 (.t 1),none⟩,
⟨some 4,.mov (.c (.bool false)),none⟩])
 (.keep [2,3]))
 (.seq
 (.seq
 (.seq (.ops [⟨some 17,.ldB 2 true 2,none⟩,
⟨some 18,.call n_impl_GraphOk [(.t 17)],none⟩,
⟨some 19,.un .not (.t 18),none⟩,
⟨some 20,.mov (.t 19),none⟩,
⟨some 21,.faB 0 3,some (20,false)⟩,
⟨some 22,.ldE 1 false 3 21,some (20,false)⟩,
⟨some 23,.ln (.t 22),some (20,false)⟩,
⟨some 24,.faB 0 2,some (20,false)⟩,
⟨some 25,.ldE 1 false 2 24,some (20,false)⟩,
⟨some 26,.bin .neq (.t 23) (.t 25),some (20,false)⟩,
⟨some 27,.pick (.t 20) (.c (.bool true)) (.t 26),none⟩,
⟨some 28,.mov (.t 27),none⟩,
⟨some 29,.faB 1 3,some (28,false)⟩,
⟨some 30,.ldE 1 false 3 29,some (28,false)⟩,
⟨some 31,.ln (.t 30),some (28,false)⟩,
⟨some 32,.bin .gtr (.t 31) (.c (.int .i64 8)),some (28,false)⟩,
⟨some 33,.pick (.t 28) (.c (.bool true)) (.t 32),none⟩])
 (.keep [2,3,33]))
 (.cond (.t 33)
 (.seq
 (.seq (.ops [⟨some 4,.mov (.c (.bool false)),none⟩])
 (.keep [4]))
 .ret)
 .skip))
 (.seq
 (.seq
 (.seq (.ops [⟨some 34,.faB 0 3,none⟩,
⟨some 35,.ldE 1 false 3 34,none⟩,
⟨some 36,.ln (.t 35),none⟩,
⟨some 37,.mov (.c (.int .i64 0)),none⟩])
 (.keep [2,3,35,36,37]))
 (.block 0
 (.loop
 (.seq
 (.seq (.ops [⟨some 38,.bin .lss (.t 37) (.t 36),none⟩])
 (.keep [2,3,35,36,37,38]))
 (.seq
 (.cond (.t 38)
 .skip
 (.exit 0))
 (.seq
 (.block 1
 (.seq
 (.seq (.ops [⟨some 39,.ia 1 (.t 35) (.t 37),none⟩,
⟨some 40,.ld 1 false (.t 39),none⟩,
⟨some 6,.mov (.t 40),none⟩])
 (.keep [2,3,6,35,36,37]))
 (.seq
 (.seq (.ops [⟨some 41,.mov (.t 6),none⟩,
⟨some 42,.call n_impl_in [(.t 41),(.c (.int .i64 0)),(.c (.int .i64 1000000000))],none⟩,
⟨some 43,.un .not (.t 42),none⟩])
 (.keep [2,3,35,36,37,43]))
 (.cond (.t 43)
 (.seq
 (.seq (.ops [⟨some 4,.mov (.c (.bool false)),none⟩])
 (.keep [4]))
 .ret)
 .skip))))
 (.seq (.ops [⟨some 44,.bin .add (.t 37) (.c (.int .i64 1)),none⟩,
⟨some 37,.mov (.t 44),none⟩])
 (.keep [2,3,35,36,37]))))))))
 (.seq
 (.seq
 (.seq (.ops [⟨some 45,.faB 1 3,none⟩,
⟨some 46,.ldE 1 false 3 45,none⟩,
⟨some 47,.ln (.t 46),none⟩,
⟨some 48,.mov (.c (.int .i64 0)),none⟩])
 (.keep [2,3,46,47,48]))
 (.block 2
 (.loop
 (.seq
 (.seq (.ops [⟨some 49,.bin .lss (.t 48) (.t 47),none⟩])
 (.keep [2,3,46,47,48,49]))
 (.seq
 (.cond (.t 49)
 .skip
 (.exit 2))
 (.seq
 (.block 3
 (.seq
 (.seq (.ops [⟨some 50,.mov (.t 48),none⟩,
⟨some 51,.ia 2 (.t 46) (.t 48),none⟩,
⟨some 52,.ld 2 true (.t 51),none⟩,
⟨some 8,.newL [(.slice none 0 0),(.int .i64 0)],none⟩,
⟨some 7,.mov (.t 50),none⟩,
⟨none,.stB 2 8 (.t 52),none⟩])
 (.keep [2,3,7,8,46,47,48]))
 (.seq
 (.seq
 (.seq (.ops [⟨some 53,.ldB 2 true 2,none⟩,
⟨some 54,.ldB 2 true 8,none⟩,
⟨some 55,.call n_impl_groupOk [(.t 53),(.t 54)],none⟩,
⟨some 56,.un .not (.t 55),none⟩])
 (.keep [2,3,7,8,46,47,48,56]))
 (.cond (.t 56)
 (.seq
 (.seq (.ops [⟨some 4,.mov (.c (.bool false)),none⟩])
 (.keep [4]))
 .ret)
 .skip))
 (.seq
 (.seq (.ops [⟨some 57,.faB 1 3,none⟩,
⟨some 58,.ldE 1 false 3 57,none⟩,
⟨some 59,.mov (.t 7),none⟩,
⟨some 60,.slL 2 (.t 58) none (some (.t 59)),none⟩,
⟨some 61,.ln (.t 60),none⟩,
⟨some 62,.mov (.c (.int .i64 0)),none⟩])
 (.keep [2,3,8,46,47,48,60,61,62]))
 (.block 4
 (.loop
 (.seq
 (.seq (.ops [⟨some 63,.bin .lss (.t 62) (.t 61),none⟩])
 (.keep [2,3,8,46,47,48,60,61,62,63]))
 (.seq
 (.cond (.t 63)
 .skip
 (.exit 4))
 (.seq
 (.block 5
 (.seq
 (.seq (.ops [⟨some 64,.ia 2 (.t 60) (.t 62),none⟩,
⟨some 65,.ld 2 true (.t 64),none⟩,
⟨some 10,.newL [(.slice none 0 0),(.int .i64 0)],none⟩,
⟨none,.stB 2 10 (.t 65),none⟩])
 (.keep [2,3,8,10,46,47,48,60,61,62]))
 (.seq
 (.seq (.ops [⟨some 67,.faB 0 8,none⟩,
⟨some 68,.ldE 1 false 8 67,none⟩,
⟨some 69,.faB 0 10,none⟩,
⟨some 70,.ldE 1 false 10 69,none⟩,
⟨some 71,.call n_impl_within [(.t 68),(.t 70)],none⟩,
⟨some 66,.mov (.t 71),none⟩,
⟨some 72,.ext 0 (.t 66),none⟩,
⟨some 73,.ext 1 (.t 66),none⟩,
⟨some 11,.mov (.t 72),none⟩,
⟨some 12,.mov (.t 73),none⟩])
 (.keep [2,3,8,10,11,12,46,47,48,60,61,62]))
 (.seq
 (.seq (.ops [⟨some 75,.faB 0 10,none⟩,
⟨some 76,.ldE 1 false 10 75,none⟩,
⟨some 77,.faB 0 8,none⟩,
⟨some 78,.ldE 1 false 8 77,none⟩,
⟨some 79,.call n_impl_within [(.t 76),(.t 78)],none⟩,
⟨some 74,.mov (.t 79),none⟩,
⟨some 80,.ext 0 (.t 74),none⟩,
⟨some 81,.ext 1 (.t 74),none⟩,
⟨some 13,.mov (.t 80),none⟩,
⟨some 14,.mov (.t 81),none⟩])
 (.keep [2,3,8,11,12,13,46,47,48,60,61,62]))
 (.seq
 (.seq (.ops [⟨some 82,.mov (.t 11),none⟩,
⟨some 83,.un .not (.t 82),none⟩,
⟨some 84,.mov (.t 83),none⟩,
⟨some 85,.mov (.t 12),some (84,true)⟩,
⟨some 86,.un .not (.t 85),some (84,true)⟩,
⟨some 87,.pick (.t 84) (.t 86) (.c (.bool false)),none⟩,
⟨some 88,.mov (.t 87),none⟩,
⟨some 89,.mov (.t 13),some (88,true)⟩,
⟨some 90,.un .not (.t 89),some (88,true)⟩,
⟨some 91,.pick (.t 88) (.t 90) (.c (.bool false)),none⟩])
 (.keep [2,3,8,46,47,48,60,61,62,91]))
 (.cond (.t 91)
 (.seq
 (.seq (.ops [⟨some 4,.mov (.c (.bool false)),none⟩])
 (.keep [4]))
 .ret)
 .skip))))))
 (.seq (.ops [⟨some 92,.bin .add (.t 62) (.c (.int .i64 1)),none⟩,
⟨some 62,.mov (.t 92),none⟩])
 (.keep [2,3,8,46,47,48,60,61,62])))))))))))
 (.seq (.ops [⟨some 93,.bin .add (.t 48) (.c (.int .i64 1)),none⟩,
⟨some 48,.mov (.t 93),none⟩])
 (.keep [2,3,46,47,48]))))))))
 (.seq
 (.seq
 (.seq (.ops [⟨some 94,.faB 1 2,none⟩,
⟨some 95,.ldE 1 false 2 94,none⟩,
⟨some 96,.ln (.t 95),none⟩,
⟨some 97,.mov (.c (.int .i64 0)),none⟩])
 (.keep [3,95,96,97]))
 (.block 6
 (.loop
 (.seq
 (.seq (.ops [⟨some 98,.bin .lss (.t 97) (.t 96),none⟩])
 (.keep [3,95,96,97,98]))
 (.seq
 (.cond (.t 98)
 .skip
 (.exit 6))
 (.seq
 (.block 7
 (.seq
 (.seq (.ops [⟨some 99,.ia 5 (.t 95) (.t 97),none⟩,
⟨some 100,.ld 5 true (.t 99),none⟩,
⟨some 16,.newL [(.int .i64 0),(.int .i64 0),(.int .i64 0),(.int .i64 0),(.int .i64 0)],none⟩,
⟨none,.stB 5 16 (.t 100),none⟩])
 (.keep [3,16,95,96,97]))
 (.seq
 (.seq (.ops [⟨some 101,.ldB 5 true 16,none⟩,
⟨some 102,.ldB 2 true 3,none⟩,
⟨some 103,.call n_impl_slackOf [(.t 101),(.t 102)],none⟩,
⟨some 104,.bin .lss (.t 103) (.c (.int .i64 0)),none⟩])
 (.keep [3,95,96,97,104]))
 (.cond (.t 104)
 (.seq
 (.seq (.ops [⟨some 4,.mov (.c (.bool false)),none⟩])
 (.keep [4]))
 .ret)
 .skip))))
 (.seq (.ops [⟨some 105,.bin .add (.t 97) (.c (.int .i64 1)),none⟩,
⟨some 97,.mov (.t 105),none⟩])
 (.keep [3,95,96,97]))))))))
 (.seq
 (.seq (.ops [⟨some 4,.mov (.c (.bool true)),none⟩])
 (.keep [4]))
 .ret)))))),
 [(.slot 4)]⟩
def F_spec_ProofOk : Fun := ⟨2,
 (.seq
 (.seq (.ops [⟨some 2,.boxL 2 (.t 0),none⟩,
⟨some 3,.boxL 2 (.t 1),none⟩,
⟨some 4,.mov (.c (.bool false)),none⟩])
 (.keep [2,3]))
 (.seq
 (.seq
 (.seq (.ops [⟨some 11,.ldB 2 true 2,none⟩,
⟨some 12,.call n_spec_GraphOk [(.t 11)],none⟩,
⟨some 13,.un .not (.t 12),none⟩,
⟨some 14,.mov (.t 13),none⟩,
⟨some 15,.faB 0 3,some (14,false)⟩,
⟨some 16,.ldE 1 false 3 15,some (14,false)⟩,
⟨some 17,.ln (.t 16),some (14,false)⟩,
⟨some 18,.faB 0 2,some (14,false)⟩,
⟨some 19,.ldE 1 false 2 18,some (14,false)⟩,
⟨some 20,.bin .neq (.t 17) (.t 19),some (14,false)⟩,
⟨some 21,.pick (.t 14) (.c (.bool true)) (.t 20),none⟩,
⟨some 22,.mov (.t 21),none⟩,
⟨some 23,.faB 1 3,some (22,false)⟩,
⟨some 24,.ldE 1 false 3 23,some (22,false)⟩,
⟨some 25,.ln (.t 24),some (22,false)⟩,
⟨some 26,.bin .gtr (.t 25) (.c (.int .i64 8)),some (22,false)⟩,
⟨some 27,.pick (.t 22) (.c (.bool true)) (.t 26),none⟩])
 (.keep [2,3,27]))
 (.cond (.t 27)
 (.seq
 (.seq (.ops [⟨some 4,.mov (.c (.bool false)),none⟩])
 (.keep [4]))
 .ret)
 .skip))
 (.seq
 (.seq
 (.seq (.ops [⟨some 5,.mov (.c (.int .i64 0)),none⟩])
 (.keep [2,3,5]))
 (.block 0
 (.loop
 (.seq
 (.seq
 (.seq (.ops [⟨some 28,.mov (.t 5),none⟩,
⟨some 29,.faB 0 3,none⟩,
⟨some 30,.ldE 1 false 3 29,none⟩,
⟨some 31,.ln (.t 30),none⟩,
⟨some 32,.bin .lss (.t 28) (.t 31),none⟩])
 (.keep [2,3,5,32]))
 (.cond (.t 32)
 .skip
 (.exit 0)))
 (.seq
 (.block 1
 (.seq
 (.seq (.ops [⟨some 35,.faB 0 3,none⟩,
⟨some 36,.ldE 1 false 3 35,none⟩,
⟨some 37,.mov (.t 5),none⟩,
⟨some 38,.ia 1 (.t 36) (.t 37),none⟩,
⟨some 39,.ld 1 false (.t 38),none⟩,
⟨some 40,.call n_spec_l01In [(.t 39),(.c (.int .i64 0)),(.c (.int .i64 1000000000))],none⟩,
⟨some 41,.un .not (.t 40),none⟩])
 (.keep [2,3,5,41]))
 (.cond (.t 41)
 (.seq
 (.seq (.ops [⟨some 4,.mov (.c (.bool false)),none⟩])
 (.keep [4]))
 .ret)
 .skip)))
 (.seq (.ops [⟨some 33,.mov (.t 5),none⟩,
⟨some 34,.bin .add (.t 33) (.c (.int .i64 1)),none⟩,
⟨some 5,.mov (.t 34),none⟩])
 (.keep [2,3,5])))))))
 (.seq
 (.seq
 (.seq (.ops [⟨some 6,.mov (.c (.int .i64 0)),none⟩])
 (.keep [2,3,6]))
 (.block 2
 (.loop
 (.seq
 (.seq
 (.seq (.ops [⟨some 42,.mov (.t 6),none⟩,
⟨some 43,.faB 1 3,none⟩,
⟨some 44,.ldE 1 false 3 43,none⟩,
⟨some 45,.ln (.t 44),none⟩,
⟨some 46,.bin .lss (.t 42) (.t 45),none⟩])
 (.keep [2,3,6,46]))
 (.cond (.t 46)
 .skip
 (.exit 2)))
 (.seq
 (.block 3
 (.seq
 (.seq (.ops [⟨some 49,.faB 1 3,none⟩,
⟨some 50,.ldE 1 false 3 49,none⟩,
⟨some 51,.mov (.t 6),none⟩,
⟨some 52,.ia 2 (.t 50) (.t 51),none⟩,
⟨some 53,.ld 2 true (.t 52),none⟩,
⟨some 7,.newL [(.slice none 0 0),(.int .i64 0)],none⟩,
⟨none,.stB 2 7 (.t 53),none⟩])
 (.keep [2,3,6,7]))
 (.seq
 (.seq
 (.seq (.ops [⟨some 54,.faB 0 7,none⟩,
⟨some 55,.ldE 1 false 7 54,none⟩,
⟨some 56,.ln (.t 55),none⟩,
⟨some 57,.bin .lss (.t 56) (.c (.int .i64 3)),none⟩,
⟨some 58,.mov (.t 57),none⟩,
⟨some 59,.faB 0 7,some (58,false)⟩,
⟨some 60,.ldE 1 false 7 59,some (58,false)⟩,
⟨some 61,.ln (.t 60),some (58,false)⟩,
⟨some 62,.bin .rem (.t 61) (.c (.int .i64 2)),some (58,false)⟩,
⟨some 63,.bin .eql (.t 62) (.c (.int .i64 0)),some (58,false)⟩,
⟨some 64,.pick (.t 58) (.c (.bool true)) (.t 63),none⟩,
⟨some 65,.mov (.t 64),none⟩,
⟨some 66,.faB 0 7,some (65,false)⟩,
⟨some 67,.ldE 1 false 7 66,some (65,false)⟩,
⟨some 68,.ln (.t 67),some (65,false)⟩,
⟨some 69,.faB 0 2,some (65,false)⟩,
⟨some 70,.ldE 1 false 2 69,some (65,false)⟩,
⟨some 71,.bin .gtr (.t 68) (.t 70),some (65,false)⟩,
⟨some 72,.pick (.t 65) (.c (.bool true)) (.t 71),none⟩,
⟨some 73,.mov (.t 72),none⟩,
⟨some 74,.faB 1 7,some (73,false)⟩,
⟨some 75,.ldE 1 false 7 74,some (73,false)⟩,
⟨some 76,.call n_spec_l01In [(.t 75),(.c (.int .i64 1)),(.c (.int .i64 1000000000))],some (73,false)⟩,
⟨some 77,.un .not (.t 76),some (73,false)⟩,
⟨some 78,.pick (.t 73) (.c (.bool true)) (.t 77),none⟩])
 (.keep [2,3,6,7,78]))
 (.cond (.t 78)
 (.seq
 (.seq (.ops [⟨some 4,.mov (.c (.bool false)),none⟩])
 (.keep [4]))
 .ret)
 .skip))
 (.seq
 (.seq
 (.seq (.ops [⟨some 8,.mov (.c (.int .i64 0)),none⟩])
 (.keep [2,3,6,7,8]))
 (.block 4
 (.loop
 (.seq
 (.seq
 (.seq (.ops [⟨some 79,.mov (.t 8),none⟩,
⟨some 80,.faB 0 7,none⟩,
⟨some 81,.ldE 1 false 7 80,none⟩,
⟨some 82,.ln (.t 81),none⟩,
⟨some 83,.bin .lss (.t 79) (.t 82),none⟩])
 (.keep [2,3,6,7,8,83]))
 (.cond (.t 83)
 .skip
 (.exit 4)))
 (.seq
 (.block 5
 (.seq
 (.seq (.free true [⟨some 86,.faB 0 7,none⟩,
⟨some 87,.ldE 1 false 7 86,none⟩,
⟨some 88,.mov (.t 8),none⟩,
⟨some 89,.ia 1 (.t 87) (.t 88),none⟩,
⟨some 90,.ld 1 false (.t 89),none⟩,
⟨some 91,.faB 0 2,none⟩,
⟨some 92,.ldE 1 false 2 91,none⟩,
⟨some 93,.bin .sub (.t 92) (.c (.int .i64 1)),none⟩,
⟨some 94,.call n_spec_l01In [(.t 90),(.c (.int .i64 0)),(.t 93)],none⟩,
⟨some 95,.un .not (.t 94),none⟩,
⟨some 96,.mov (.t 95),none⟩,
⟨some 97,.mov (.t 8),some (96,false)⟩,
⟨some 98,.bin .gtr (.t 97) (.c (.int .i64 0)),some (96,false)⟩,
⟨some 99,.mov (.t 98),some (96,false)⟩,
⟨some 100,.faB 0 7,some (99,true)⟩,
⟨some 101,.ldE 1 false 7 100,some (99,true)⟩,
⟨some 102,.mov (.t 8),some (99,true)⟩,
⟨some 103,.bin .sub (.t 102) (.c (.int .i64 1)),some (99,true)⟩,
⟨some 104,.ia 1 (.t 101) (.t 103),some (99,true)⟩,
⟨some 105,.ld 1 false (.t 104),some (99,true)⟩,
⟨some 106,.faB 0 7,some (99,true)⟩,
⟨some 107,.ldE 1 false 7 106,some (99,true)⟩,
⟨some 108,.mov (.t 8),some (99,true)⟩,
⟨some 109,.ia 1 (.t 107) (.t 108),some (99,true)⟩,
⟨some 110,.ld 1 false (.t 109),some (99,true)⟩,
⟨some 111,.bin .geq (.t 105) (.t 110),some (99,true)⟩,
⟨some 112,.pick (.t 99) (.t 111) (.c (.bool false)),some (96,false)⟩,
⟨some 113,.pick (.t 96) (.c (.bool true)) (.t 112),none⟩])
 (.keep [2,3,6,7,8,113]))
 (.cond (.t 113)
 (.seq
 (.seq (.ops [⟨some 4,.mov (.c (.bool false)),none⟩])
 (.keep [4]))
 .ret)
 .skip)))
 (.seq (.ops [⟨some 84,.mov (.t 8),none⟩,
⟨some 85,.bin .add (.t 84) (.c (.int .i64 1)),none⟩,
⟨some 8,.mov (.t 85),none⟩])
 (.keep [2,3,6,7,8])))))))
 (.seq
 (.seq (.ops [⟨some 9,.mov (.c (.int .i64 0)),none⟩])
 (.keep [2,3,6,7,9]))
 (.block 6
 (.loop
 (.seq
 (.seq
 (.seq (.ops [⟨some 114,.mov (.t 9),none⟩,
⟨some 115,.mov (.t 6),none⟩,
⟨some 116,.bin .lss (.t 114) (.t 115),none⟩])
 (.keep [2,3,6,7,9,116]))
 (.cond (.t 116)
 .skip
 (.exit 6)))
 (.seq
 (.block 7
 (.seq
 (.seq (.free true [⟨some 119,.faB 1 3,none⟩,
⟨some 120,.ldE 1 false 3 119,none⟩,
⟨some 121,.mov (.t 9),none⟩,
⟨some 122,.ia 2 (.t 120) (.t 121),none⟩,
⟨some 123,.fa 0 (.t 122),none⟩,
⟨some 124,.ld 1 false (.t 123),none⟩,
⟨some 125,.faB 0 7,none⟩,
⟨some 126,.ldE 1 false 7 125,none⟩,
⟨some 127,.call n_spec_l11Nested [(.t 124),(.t 126)],none⟩,
⟨some 128,.un .not (.t 127),none⟩])
 (.keep [2,3,6,7,9,128]))
 (.cond (.t 128)
 (.seq
 (.seq (.ops [⟨some 4,.mov (.c (.bool false)),none⟩])
 (.keep [4]))
 .ret)
 .skip)))
 (.seq (.ops [⟨some 117,.mov (.t 9),none⟩,
⟨some 118,.bin .add (.t 117) (.c (.int .i64 1)),none⟩,
⟨some 9,.mov (.t 118),none⟩])
 (.keep [2,3,6,7,9])))))))))))
 (.seq (.ops [⟨some 47,.mov (.t 6),none⟩,
⟨some 48,.bin .add (.t 47) (.c (.int .i64 1)),none⟩,
⟨some 6,.mov (.t 48),none⟩])
 (.keep [2,3,6])))))))
 (.seq
 (.seq
 (.seq (.ops [⟨some 10,.mov (.c (.int .i64 0)),none⟩])
 (.keep [2,3,10]))
 (.block 8
 (.loop
 (.seq
 (.seq
 (.seq (.ops [⟨some 129,.mov (.t 10),none⟩,
⟨some 130,.faB 1 2,none⟩,
⟨some 131,.ldE 1 false 2 130,none⟩,
⟨some 132,.ln (.t 131),none⟩,
⟨some 133,.bin .lss (.t 129) (.t 132),none⟩])
 (.keep [2,3,10,133]))
 (.cond (.t 133)
 .skip
 (.exit 8)))
 (.seq
 (.block 9
 (.seq
 (.seq (.free true [⟨some 136,.ldB 2 true 3,none⟩,
⟨some 137,.faB 1 2,none⟩,
⟨some 138,.ldE 1 false 2 137,none⟩,
⟨some 139,.mov (.t 10),none⟩,
⟨some 140,.ia 5 (.t 138) (.t 139),none⟩,
⟨some 141,.ld 5 true (.t 140),none⟩,
⟨some 142,.call n_spec_l11Slack [(.t 136),(.t 141)],none⟩,
⟨some 143,.bin .lss (.t 142) (.c (.int .i64 0)),none⟩])
 (.keep [2,3,10,143]))
 (.cond (.t 143)
 (.seq
 (.seq (.ops [⟨some 4,.mov (.c (.bool false)),none⟩])
 (.keep [4]))
 .ret)
 .skip)))
 (.seq (.ops [⟨some 134,.mov (.t 10),none⟩,
⟨some 135,.bin .add (.t 134) (.c (.int .i64 1)),none⟩,
⟨some 10,.mov (.t 135),none⟩])
 (.keep [2,3,10])))))))
 (.seq
 (.seq (.ops [⟨some 4,.mov (.c (.bool true)),none⟩])
 (.keep [4]))
 .ret)))))),
 [(.slot 4)]⟩
def F_impl_Bound : Fun := ⟨2,
 (.seq
 (.seq (.ops [⟨some 2,.boxL 2 (.t 0),none⟩,
⟨some 3,.boxL 2 (.t 1),none⟩,
⟨some 4,.mov (.c (.int .i64 0)),none⟩])
 (.keep [2,3]))
 (.seq
 (.seq
 (.seq (.ops [⟨some 5,.ldB 2 true 2,none⟩,
⟨some 6,.ldB 2 true 3,none⟩,
⟨some 7,.call n_impl_ProofOk [(.t 5),(.t 6)],none⟩,
⟨some 8,.un .not (.t 7),none⟩])
 (.keep [3,8]))
 (.cond (.t 8)
 (.seq
 (.seq (.ops [⟨some 4,.mov (.c (.int .i64 0)),none⟩])
 (.keep [4]))
 .ret)
 .skip))
 (.seq
 (.seq (.ops [⟨some 9,.ldB 2 true 3,none⟩,
⟨some 10,.call n_impl_weight [(.t 9)],none⟩,
⟨some 11,.bin .quo (.t 10) (.c (.int .i64 2)),none⟩,
⟨some 4,.mov (.t 11),none⟩])
 (.keep [4]))
 .ret))),
 [(.slot 4)]⟩
def F_spec_BestSums : Fun := ⟨1,
 (.seq
 (.seq (.ops [⟨some 1,.boxL 2 (.t 0),none⟩,
⟨some 2,.newL [(.int .i64 0),(.int .i64 0),(.int .i64 0)],none⟩,
⟨some 3,.mov (.c (.bool false)),none⟩])
 (.keep [1,2]))
 (.seq
 (.seq
 (.seq (.ops [⟨some 6,.ldB 2 true 1,none⟩,
⟨some 7,.call n_spec_GraphOk [(.t 6)],none⟩,
⟨some 8,.un .not (.t 7),none⟩])
 (.keep [1,2,8]))
 (.cond (.t 8)
 (.seq
 (.seq (.ops [⟨some 9,.bld [(.int .i64 0),(.int .i64 0),(.int .i64 0)] [],none⟩,
⟨none,.stB 3 2 (.t 9),none⟩,
⟨some 3,.mov (.c (.bool false)),none⟩])
 (.keep [2,3]))
 .ret)
 .skip))
 (.seq
 (.seq (.ops [⟨some 11,.ldB 2 true 1,none⟩,
⟨some 12,.lit 0 1 y_int [(.int .i64 0)] [],none⟩,
⟨some 13,.call n_spec_l09Best [(.t 11),(.c (.int .i64 0)),(.t 12)],none⟩,
⟨some 10,.mov (.t 13),none⟩,
⟨some 14,.ext 0 (.t 10),none⟩,
⟨some 15,.ext 1 (.t 10),none⟩,
⟨some 4,.newL [(.int .i64 0),(.int .i64 0),(.int .i64 0)],none⟩,
⟨none,.stB 3 4 (.t 14),none⟩,
⟨some 5,.mov (.t 15),none⟩])
 (.keep [2,4]))
 (.seq
 (.seq (.ops [⟨some 16,.ldB 3 true 4,none⟩,
⟨none,.stB 3 2 (.t 16),none⟩,
⟨some 3,.mov (.c (.bool true)),none⟩])
 (.keep [2,3]))
 .ret)))),
 [(.box 2 3 true),(.slot 3)]⟩
def F_spec_DrawRightMatch : Fun := ⟨1,
 (.seq
 (.seq (.ops [⟨some 2,.newL [(.int .i64 0),(.slice none 0 0)],none⟩,
⟨some 3,.mov (.c (.slice none 0 0)),none⟩])
 (.keep [0,2]))
 (.seq
 (.seq (.ops [⟨some 7,.mov (.t 0),none⟩,
⟨some 8,.call n_spec_l01New [(.t 7)],none⟩,
⟨some 4,.mov (.t 8),none⟩])
 (.keep [2,4]))
 (.seq
 (.seq (.ops [⟨some 9,.mov (.t 4),none⟩,
⟨some 10,.call n_spec_l08Graph [(.t 9)],none⟩,
⟨some 5,.newL [(.int .i64 0),(.slice none 0 0)],none⟩,
⟨none,.stB 2 5 (.t 10),none⟩])
 (.keep [2,4,5]))
 (.seq
 (.seq (.ops [⟨some 11,.mov (.t 4),none⟩,
⟨some 12,.ldB 2 true 5,none⟩,
⟨some 13,.call n_spec_l09Match [(.t 11),(.t 12)],none⟩,
⟨some 6,.mov (.t 13),none⟩])
 (.keep [2,5,6]))
 (.seq
 (.seq
 (.seq (.ops [⟨some 14,.ldB 2 true 5,none⟩,
⟨some 15,.mov (.t 6),none⟩,
⟨some 16,.call n_spec_MatchOk [(.t 14),(.t 15)],none⟩,
⟨some 17,.un .not (.t 16),none⟩])
 (.keep [2,5,6,17]))
 (.cond (.t 17)
 (.seq
 (.seq (.ops [⟨some 18,.ldB 2 true 5,none⟩,
⟨some 19,.lit 0 2 y_Couple [(.int .i64 0),(.int .i64 0)] [],none⟩,
⟨none,.stB 2 2 (.t 18),none⟩,
⟨some 3,.mov (.t 19),none⟩])
 (.keep [2,3]))
 .ret)
 .skip))
 (.seq
 (.seq (.ops [⟨some 20,.ldB 2 true 5,none⟩,
⟨some 21,.mov (.t 6),none⟩,
⟨none,.stB 2 2 (.t 20),none⟩,
⟨some 3,.mov (.t 21),none⟩])
 (.keep [2,3]))
 .ret)))))),
 [(.box 2 2 true),(.slot 3)]⟩
def F_spec_Solve : Fun := ⟨1,
 (.seq
 (.seq (.ops [⟨some 1,.boxL 2 (.t 0),none⟩,
⟨some 2,.mov (.c (.slice none 0 0)),none⟩,
⟨some 3,.newL [(.slice none 0 0),(.slice none 0 0)],none⟩,
⟨some 4,.mov (.c (.bool false)),none⟩])
 (.keep [1,3]))
 (.seq
 (.seq
 (.seq (.ops [⟨some 13,.ldB 2 true 1,none⟩,
⟨some 14,.call n_spec_GraphOk [(.t 13)],none⟩,
⟨some 15,.un .not (.t 14),none⟩])
 (.keep [1,3,15]))
 (.cond (.t 15)
 (.seq
 (.seq (.ops [⟨some 16,.lit 0 2 y_Couple [(.int .i64 0),(.int .i64 0)] [],none⟩,
⟨some 17,.bld [(.slice none 0 0),(.slice none 0 0)] [],none⟩,
⟨some 2,.mov (.t 16),none⟩,
⟨none,.stB 2 3 (.t 17),none⟩,
⟨some 4,.mov (.c (.bool false)),none⟩])
 (.keep [2,3,4]))
 .ret)
 .skip))
 (.seq
 (.seq (.ops [⟨some 18,.ldB 2 true 1,none⟩,
⟨some 19,.call n_spec_l10Solve [(.t 18)],none⟩,
⟨some 5,.mov (.t 19),none⟩])
 (.keep [1,3,5]))
 (.seq
 (.seq (.ops [⟨some 20,.lit 0 1 y_int [(.int .i64 0)] [],none⟩,
⟨some 21,.mov (.t 5),none⟩,
⟨some 22,.chk (.t 21),none⟩,
⟨some 23,.fa 2 (.t 22),none⟩,
⟨some 24,.ld 1 false (.t 23),none⟩,
⟨some 25,.app 1 y_int 8 (.t 20) (.t 24),none⟩,
⟨some 26,.mov (.t 5),none⟩,
⟨some 27,.call n_spec_l10Groups [(.t 26)],none⟩,
⟨some 28,.bld [(.slice none 0 0),(.slice none 0 0)] [(0,(1,(.t 25))),(1,(1,(.t 27)))],none⟩,
⟨some 6,.newL [(.slice none 0 0),(.slice none 0 0)],none⟩,
⟨none,.stB 2 6 (.t 28),none⟩])
 (.keep [1,3,5,6]))
 (.seq
 (.seq
 (.seq (.ops [⟨some 7,.mov (.c (.int .i64 0)),none⟩])
 (.keep [1,3,5,6,7]))
 (.block 0
 (.loop
 (.seq
 (.seq
 (.seq (.ops [⟨some 29,.mov (.t 7),none⟩,
⟨some 30,.mov (.t 5),none⟩,
⟨some 31,.chk (.t 30),none⟩,
⟨some 32,.fa 3 (.t 31),none⟩,
⟨some 33,.ld 1 false (.t 32),none⟩,
⟨some 34,.ln (.t 33),none⟩,
⟨some 35,.bin .lss (.t 29) (.t 34),none⟩])
 (.keep [1,3,5,6,7,35]))
 (.cond (.t 35)
 .skip
 (.exit 0)))
 (.seq
 (.block 1
 (.seq
 (.seq (.ops [⟨some 38,.mov (.t 5),none⟩,
⟨some 39,.chk (.t 38),none⟩,
⟨some 40,.fa 0 (.t 39),none⟩,
⟨some 41,.fa 0 (.t 40),none⟩,
⟨some 42,.ld 1 false (.t 41),none⟩,
⟨some 8,.mov (.t 42),none⟩])
 (.keep [1,3,5,6,7,8]))
 (.block 2
 (.loop
 (.seq
 (.seq
 (.seq (.ops [⟨some 43,.mov (.t 8),none⟩,
⟨some 44,.mov (.t 5),none⟩,
⟨some 45,.chk (.t 44),none⟩,
⟨some 46,.fa 3 (.t 45),none⟩,
⟨some 47,.ld 1 false (.t 46),none⟩,
⟨some 48,.ln (.t 47),none⟩,
⟨some 49,.bin .lss (.t 43) (.t 48),none⟩])
 (.keep [1,3,5,6,7,8,49]))
 (.cond (.t 49)
 .skip
 (.exit 2)))
 (.seq
 (.block 3
 (.seq
 (.seq (.ops [⟨some 52,.mov (.t 5),none⟩,
⟨some 53,.mov (.t 8),none⟩,
⟨some 54,.call n_spec_l10IsTop [(.t 52),(.t 53)],none⟩])
 (.keep [1,3,5,6,7,8,54]))
 (.cond (.t 54)
 (.seq (.ops [⟨some 55,.mov (.t 5),none⟩,
⟨some 56,.mov (.t 8),none⟩,
⟨some 57,.call n_spec_l10Open [(.t 55),(.t 56)],none⟩])
 (.keep [1,3,5,6,7,8]))
 .skip)))
 (.seq (.ops [⟨some 50,.mov (.t 8),none⟩,
⟨some 51,.bin .add (.t 50) (.c (.int .i64 1)),none⟩,
⟨some 8,.mov (.t 51),none⟩])
 (.keep [1,3,5,6,7,8]))))))))
 (.seq (.ops [⟨some 36,.mov (.t 7),none⟩,
⟨some 37,.bin .add (.t 36) (.c (.int .i64 1)),none⟩,
⟨some 7,.mov (.t 37),none⟩])
 (.keep [1,3,5,6,7])))))))
 (.seq
 (.seq (.ops [⟨some 58,.lit 0 2 y_Couple [(.int .i64 0),(.int .i64 0)] [],none⟩,
⟨some 9,.mov (.t 58),none⟩])
 (.keep [1,3,5,6,9]))
 (.seq
 (.seq
 (.seq (.ops [⟨some 10,.mov (.c (.int .i64 0)),none⟩])
 (.keep [1,3,5,6,9,10]))
 (.block 4
 (.loop
 (.seq
 (.seq
 (.seq (.ops [⟨some 59,.mov (.t 10),none⟩,
⟨some 60,.faB 0 1,none⟩,
⟨some 61,.ldE 1 false 1 60,none⟩,
⟨some 62,.bin .lss (.t 59) (.t 61),none⟩])
 (.keep [1,3,5,6,9,10,62]))
 (.cond (.t 62)
 .skip
 (.exit 4)))
 (.seq
 (.block 5
 (.seq
 (.seq (.ops [⟨some 11,.mov (.c (.int .i64 0)),none⟩])
 (.keep [1,3,5,6,9,10,11]))
 (.block 6
 (.loop
 (.seq
 (.seq
 (.seq (.ops [⟨some 65,.mov (.t 11),none⟩,
⟨some 66,.mov (.t 5),none⟩,
⟨some 67,.chk (.t 66),none⟩,
⟨some 68,.fa 4 (.t 67),none⟩,
⟨some 69,.ld 1 false (.t 68),none⟩,
⟨some 70,.ln (.t 69),none⟩,
⟨some 71,.bin .lss (.t 65) (.t 70),none⟩])
 (.keep [1,3,5,6,9,10,11,71]))
 (.cond (.t 71)
 .skip
 (.exit 6)))
 (.seq
 (.block 7
 (.seq
 (.seq (.ops [⟨some 74,.mov (.t 5),none⟩,
⟨some 75,.chk (.t 74),none⟩,
⟨some 76,.fa 4 (.t 75),none⟩,
⟨some 77,.ld 1 false (.t 76),none⟩,
⟨some 78,.mov (.t 11),none⟩,
⟨some 79,.ia 2 (.t 77) (.t 78),none⟩,
⟨some 80,.ld 2 true (.t 79),none⟩,
⟨some 12,.newL [(.int .i64 0),(.int .i64 0)],none⟩,
⟨none,.stB 2 12 (.t 80),none⟩])
 (.keep [1,3,5,6,9,10,11,12]))
 (.seq
 (.seq
 (.seq (.ops [⟨some 81,.faB 0 12,none⟩,
⟨some 82,.ldE 1 false 12 81,none⟩,
⟨some 83,.mov (.t 10),none⟩,
⟨some 84,.bin .eql (.t 82) (.t 83),none⟩,
⟨some 85,.mov (.t 84),none⟩,
⟨some 86,.faB 1 12,some (85,true)⟩,
⟨some 87,.ldE 1 false 12 86,some (85,true)⟩,
⟨some 88,.mov (.t 10),some (85,true)⟩,
⟨some 89,.bin .gtr (.t 87) (.t 88),some (85,true)⟩,
⟨some 90,.pick (.t 85) (.t 89) (.c (.bool false)),none⟩])
 (.keep [1,3,5,6,9,10,11,12,90]))
 (.cond (.t 90)
 (.seq (.ops [⟨some 91,.mov (.t 9),none⟩,
⟨some 92,.mov (.t 10),none⟩,
⟨some 93,.faB 1 12,none⟩,
⟨some 94,.ldE 1 false 12 93,none⟩,
⟨some 95,.bld [(.int .i64 0),(.int .i64 0)] [(0,(1,(.t 92))),(1,(1,(.t 94)))],none⟩,
⟨some 96,.litL 1 2 [(.int .i64 0),(.int .i64 0)] [(0,(.t 95))],none⟩,
⟨some 97,.appL 2 y_Couple 16 1 (.t 91) 96,none⟩,
⟨some 9,.mov (.t 97),none⟩])
 (.keep [1,3,5,6,9,10,11,12]))
 .skip))
 (.seq
 (.seq (.ops [⟨some 98,.faB 1 12,none⟩,
⟨some 99,.ldE 1 false 12 98,none⟩,
⟨some 100,.mov (.t 10),none⟩,
⟨some 101,.bin .eql (.t 99) (.t 100),none⟩,
⟨some 102,.mov (.t 101),none⟩,
⟨some 103,.faB 0 12,some (102,true)⟩,
⟨some 104,.ldE 1 false 12 103,some (102,true)⟩,
⟨some 105,.mov (.t 10),some (102,true)⟩,
⟨some 106,.bin .gtr (.t 104) (.t 105),some (102,true)⟩,
⟨some 107,.pick (.t 102) (.t 106) (.c (.bool false)),none⟩])
 (.keep [1,3,5,6,9,10,11,12,107]))
 (.cond (.t 107)
 (.seq (.ops [⟨some 108,.mov (.t 9),none⟩,
⟨some 109,.mov (.t 10),none⟩,
⟨some 110,.faB 0 12,none⟩,
⟨some 111,.ldE 1 false 12 110,none⟩,
⟨some 112,.bld [(.int .i64 0),(.int .i64 0)] [(0,(1,(.t 109))),(1,(1,(.t 111)))],none⟩,
⟨some 113,.litL 1 2 [(.int .i64 0),(.int .i64 0)] [(0,(.t 112))],none⟩,
⟨some 114,.appL 2 y_Couple 16 1 (.t 108) 113,none⟩,
⟨some 9,.mov (.t 114),none⟩])
 (.keep [1,3,5,6,9,10,11]))
 .skip)))))
 (.seq (.ops [⟨some 72,.mov (.t 11),none⟩,
⟨some 73,.bin .add (.t 72) (.c (.int .i64 1)),none⟩,
⟨some 11,.mov (.t 73),none⟩])
 (.keep [1,3,5,6,9,10,11]))))))))
 (.seq (.ops [⟨some 63,.mov (.t 10),none⟩,
⟨some 64,.bin .add (.t 63) (.c (.int .i64 1)),none⟩,
⟨some 10,.mov (.t 64),none⟩])
 (.keep [1,3,5,6,9,10])))))))
 (.seq
 (.seq (.free true [⟨some 115,.mov (.t 9),none⟩,
⟨some 116,.ldB 2 true 6,none⟩,
⟨some 2,.mov (.t 115),none⟩,
⟨none,.stB 2 3 (.t 116),none⟩,
⟨some 4,.mov (.c (.bool true)),none⟩])
 (.keep [2,3,4]))
 .ret)))))))),
 [(.slot 2),(.box 3 2 true),(.slot 4)]⟩
def F_impl_Certifies : Fun := ⟨3,
 (.seq
 (.seq (.ops [⟨some 3,.boxL 2 (.t 0),none⟩,
⟨some 5,.boxL 2 (.t 2),none⟩,
⟨some 6,.mov (.c (.bool false)),none⟩])
 (.keep [1,3,5]))
 (.seq
 (.seq
 (.seq (.ops [⟨some 10,.ldB 2 true 3,none⟩,
⟨some 11,.ldB 2 true 5,none⟩,
⟨some 12,.call n_impl_ProofOk [(.t 10),(.t 11)],none⟩,
⟨some 13,.un .not (.t 12),none⟩,
⟨some 14,.mov (.t 13),none⟩,
⟨some 15,.ldB 2 true 3,some (14,false)⟩,
⟨some 16,.mov (.t 1),some (14,false)⟩,
⟨some 17,.call n_impl_MatchOk [(.t 15),(.t 16)],some (14,false)⟩,
⟨some 18,.un .not (.t 17),some (14,false)⟩,
⟨some 19,.pick (.t 14) (.c (.bool true)) (.t 18),none⟩])
 (.keep [1,3,5,19]))
 (.cond (.t 19)
 (.seq
 (.seq (.ops [⟨some 6,.mov (.c (.bool false)),none⟩])
 (.keep [6]))
 .ret)
 .skip))
 (.seq
 (.seq (.ops [⟨some 7,.mov (.c (.int .i64 0)),none⟩])
 (.keep [1,3,5,7]))
 (.seq
 (.seq
 (.seq (.ops [⟨some 20,.mov (.t 1),none⟩,
⟨some 21,.ln (.t 20),none⟩,
⟨some 22,.mov (.c (.int .i64 0)),none⟩])
 (.keep [3,5,7,20,21,22]))
 (.block 0
 (.loop
 (.seq
 (.seq (.ops [⟨some 23,.bin .lss (.t 22) (.t 21),none⟩])
 (.keep [3,5,7,20,21,22,23]))
 (.seq
 (.cond (.t 23)
 .skip
 (.exit 0))
 (.seq
 (.block 1
 (.seq
 (.seq (.ops [⟨some 24,.ia 2 (.t 20) (.t 22),none⟩,
⟨some 25,.ld 2 true (.t 24),none⟩,
⟨some 9,.newL [(.int .i64 0),(.int .i64 0)],none⟩,
⟨none,.stB 2 9 (.t 25),none⟩])
 (.keep [3,5,7,9,20,21,22]))
 (.seq (.free true [⟨some 26,.mov (.t 7),none⟩,
⟨some 27,.faB 1 3,none⟩,
⟨some 28,.ldE 1 false 3 27,none⟩,
⟨some 29,.ldB 2 true 3,none⟩,
⟨some 30,.faB 0 9,none⟩,
⟨some 31,.ldE 1 false 9 30,none⟩,
⟨some 32,.faB 1 9,none⟩,
⟨some 33,.ldE 1 false 9 32,none⟩,
⟨some 34,.call n_impl_edgeAt [(.t 29),(.t 31),(.t 33)],none⟩,
⟨some 35,.ia 5 (.t 28) (.t 34),none⟩,
⟨some 36,.ld 5 true (.t 35),none⟩,
⟨some 37,.call n_impl_Scalar [(.t 36)],none⟩,
⟨some 38,.bin .add (.t 26) (.t 37),none⟩,
⟨some 7,.mov (.t 38),none⟩])
 (.keep [3,5,7,20,21,22]))))
 (.seq (.ops [⟨some 39,.bin .add (.t 22) (.c (.int .i64 1)),none⟩,
⟨some 22,.mov (.t 39),none⟩])
 (.keep [3,5,7,20,21,22]))))))))
 (.seq
 (.seq (.ops [⟨some 40,.mov (.t 7),none⟩,
⟨some 41,.bin .mul (.c (.int .i64 2)) (.t 40),none⟩,
⟨some 42,.ldB 2 true 5,none⟩,
⟨some 43,.call n_impl_weight [(.t 42)],none⟩,
⟨some 44,.bin .eql (.t 41) (.t 43),none⟩,
⟨some 6,.mov (.t 44),none⟩])
 (.keep [6]))
 .ret))))),
 [(.slot 6)]⟩
def F_spec_Certifies : Fun := ⟨3,
 (.seq
 (.seq (.ops [⟨some 3,.boxL 2 (.t 0),none⟩,
⟨some 5,.boxL 2 (.t 2),none⟩,
⟨some 6,.mov (.c (.bool false)),none⟩])
 (.keep [1,3,5]))
 (.seq
 (.seq (.free true [⟨some 7,.ldB 2 true 3,none⟩,
⟨some 8,.ldB 2 true 5,none⟩,
⟨some 9,.call n_spec_ProofOk [(.t 7),(.t 8)],none⟩,
⟨some 10,.mov (.t 9),none⟩,
⟨some 11,.ldB 2 true 3,some (10,true)⟩,
⟨some 12,.mov (.t 1),some (10,true)⟩,
⟨some 13,.call n_spec_MatchOk [(.t 11),(.t 12)],some (10,true)⟩,
⟨some 14,.pick (.t 10) (.t 13) (.c (.bool false)),none⟩,
⟨some 15,.mov (.t 14),none⟩,
⟨some 16,.ldB 2 true 3,some (15,true)⟩,
⟨some 17,.mov (.t 1),some (15,true)⟩,
⟨some 18,.call n_spec_l11Worth [(.t 16),(.t 17)],some (15,true)⟩,
⟨some 19,.bin .mul (.c (.int .i64 2)) (.t 18),some (15,true)⟩,
⟨some 20,.ldB 2 true 5,some (15,true)⟩,
⟨some 21,.call n_spec_l11Sum [(.t 20)],some (15,true)⟩,
⟨some 22,.bin .eql (.t 19) (.t 21),some (15,true)⟩,
⟨some 23,.pick (.t 15) (.t 22) (.c (.bool false)),none⟩,
⟨some 6,.mov (.t 23),none⟩])
 (.keep [6]))
 .ret)),
 [(.slot 6)]⟩
def F_spec_MatchOk : Fun := ⟨2,
 (.seq
 (.seq (.ops [⟨some 2,.boxL 2 (.t 0),none⟩,
⟨some 4,.mov (.c (.bool false)),none⟩])
 (.keep [1,2]))
 (.seq
 (.seq
 (.seq (.ops [⟨some 8,.ldB 2 true 2,none⟩,
⟨some 9,.call n_spec_GraphOk [(.t 8)],none⟩,
⟨some 10,.un .not (.t 9),none⟩,
⟨some 11,.mov (.t 10),none⟩,
⟨some 12,.mov (.t 1),some (11,false)⟩,
⟨some 13,.ln (.t 12),some (11,false)⟩,
⟨some 14,.bin .gtr (.t 13) (.c (.int .i64 9)),some (11,false)⟩,
⟨some 15,.pick (.t 11) (.c (.bool true)) (.t 14),none⟩])
 (.keep [1,2,15]))
 (.cond (.t 15)
 (.seq
 (.seq (.ops [⟨some 4,.mov (.c (.bool false)),none⟩])
 (.keep [4]))
 .ret)
 .skip))
 (.seq
 (.seq (.ops [⟨some 16,.lit 0 1 y_int [(.int .i64 0)] [],none⟩,
⟨some 5,.mov (.t 16),none⟩])
 (.keep [1,2,5]))
 (.seq
 (.seq
 (.seq (.ops [⟨some 6,.mov (.c (.int .i64 0)),none⟩])
 (.keep [1,2,5,6]))
 (.block 0
 (.loop
 (.seq
 (.seq
 (.seq (.ops [⟨some 17,.mov (.t 6),none⟩,
⟨some 18,.mov (.t 1),none⟩,
⟨some 19,.ln (.t 18),none⟩,
⟨some 20,.bin .lss (.t 17) (.t 19),none⟩])
 (.keep [1,2,5,6,20]))
 (.cond (.t 20)
 .skip
 (.exit 0)))
 (.seq
 (.block 1
 (.seq
 (.seq (.ops [⟨some 23,.mov (.t 1),none⟩,
⟨some 24,.mov (.t 6),none⟩,
⟨some 25,.ia 2 (.t 23) (.t 24),none⟩,
⟨some 26,.ld 2 true (.t 25),none⟩,
⟨some 7,.newL [(.int .i64 0),(.int .i64 0)],none⟩,
⟨none,.stB 2 7 (.t 26),none⟩])
 (.keep [1,2,5,6,7]))
 (.seq
 (.seq
 (.seq (.free true [⟨some 27,.faB 0 7,none⟩,
⟨some 28,.ldE 1 false 7 27,none⟩,
⟨some 29,.faB 1 7,none⟩,
⟨some 30,.ldE 1 false 7 29,none⟩,
⟨some 31,.bin .geq (.t 28) (.t 30),none⟩,
⟨some 32,.mov (.t 31),none⟩,
⟨some 33,.mov (.t 6),some (32,false)⟩,
⟨some 34,.bin .gtr (.t 33) (.c (.int .i64 0)),some (32,false)⟩,
⟨some 35,.mov (.t 34),some (32,false)⟩,
⟨some 36,.mov (.t 1),some (35,true)⟩,
⟨some 37,.mov (.t 6),some (35,true)⟩,
⟨some 38,.bin .sub (.t 37) (.c (.int .i64 1)),some (35,true)⟩,
⟨some 39,.ia 2 (.t 36) (.t 38),some (35,true)⟩,
⟨some 40,.fa 0 (.t 39),some (35,true)⟩,
⟨some 41,.ld 1 false (.t 40),some (35,true)⟩,
⟨some 42,.faB 0 7,some (35,true)⟩,
⟨some 43,.ldE 1 false 7 42,some (35,true)⟩,
⟨some 44,.bin .geq (.t 41) (.t 43),some (35,true)⟩,
⟨some 45,.pick (.t 35) (.t 44) (.c (.bool false)),some (32,false)⟩,
⟨some 46,.pick (.t 32) (.c (.bool true)) (.t 45),none⟩,
⟨some 47,.mov (.t 46),none⟩,
⟨some 48,.ldB 2 true 2,some (47,false)⟩,
⟨some 49,.faB 0 7,some (47,false)⟩,
⟨some 50,.ldE 1 false 7 49,some (47,false)⟩,
⟨some 51,.faB 1 7,some (47,false)⟩,
⟨some 52,.ldE 1 false 7 51,some (47,false)⟩,
⟨some 53,.call n_spec_l08At [(.t 48),(.t 50),(.t 52)],some (47,false)⟩,
⟨some 54,.bin .lss (.t 53) (.c (.int .i64 0)),some (47,false)⟩,
⟨some 55,.pick (.t 47) (.c (.bool true)) (.t 54),none⟩,
⟨some 56,.mov (.t 55),none⟩,
⟨some 57,.mov (.t 5),some (56,false)⟩,
⟨some 58,.faB 0 7,some (56,false)⟩,
⟨some 59,.ldE 1 false 7 58,some (56,false)⟩,
⟨some 60,.call n_spec_l03In [(.t 57),(.t 59)],some (56,false)⟩,
⟨some 61,.pick (.t 56) (.c (.bool true)) (.t 60),none⟩,
⟨some 62,.mov (.t 61),none⟩,
⟨some 63,.mov (.t 5),some (62,false)⟩,
⟨some 64,.faB 1 7,some (62,false)⟩,
⟨some 65,.ldE 1 false 7 64,some (62,false)⟩,
⟨some 66,.call n_spec_l03In [(.t 63),(.t 65)],some (62,false)⟩,
⟨some 67,.pick (.t 62) (.c (.bool true)) (.t 66),none⟩])
 (.keep [1,2,5,6,7,67]))
 (.cond (.t 67)
 (.seq
 (.seq (.ops [⟨some 4,.mov (.c (.bool false)),none⟩])
 (.keep [4]))
 .ret)
 .skip))
 (.seq (.ops [⟨some 68,.mov (.t 5),none⟩,
⟨some 69,.faB 0 7,none⟩,
⟨some 70,.ldE 1 false 7 69,none⟩,
⟨some 71,.faB 1 7,none⟩,
⟨some 72,.ldE 1 false 7 71,none⟩,
⟨some 73,.litL 2 1 [(.int .i64 0)] [(0,(.t 70)),(1,(.t 72))],none⟩,
⟨some 74,.appL 1 y_int 8 2 (.t 68) 73,none⟩,
⟨some 5,.mov (.t 74),none⟩])
 (.keep [1,2,5,6])))))
 (.seq (.ops [⟨some 21,.mov (.t 6),none⟩,
⟨some 22,.bin .add (.t 21) (.c (.int .i64 1)),none⟩,
⟨some 6,.mov (.t 22),none⟩])
 (.keep [1,2,5,6])))))))
 (.seq
 (.seq (.ops [⟨some 4,.mov (.c (.bool true)),none⟩])
 (.keep [4]))
 .ret))))),
 [(.slot 4)]⟩
def F_laws_worth : Fun := ⟨2,
 (.seq
 (.seq (.ops [⟨some 2,.boxL 2 (.t 0),none⟩,
⟨some 4,.mov (.c (.int .i64 0)),none⟩])
 (.keep [1,2]))
 (.seq
 (.seq (.ops [⟨some 5,.mov (.c (.int .i64 0)),none⟩])
 (.keep [1,2,5]))
 (.seq
 (.seq
 (.seq (.ops [⟨some 6,.mov (.c (.int .i64 0)),none⟩])
 (.keep [1,2,5,6]))
 (.block 0
 (.loop
 (.seq
 (.seq
 (.seq (.ops [⟨some 8,.mov (.t 6),none⟩,
⟨some 9,.mov (.t 1),none⟩,
⟨some 10,.ln (.t 9),none⟩,
⟨some 11,.bin .lss (.t 8) (.t 10),none⟩])
 (.keep [1,2,5,6,11]))
 (.cond (.t 11)
 .skip
 (.exit 0)))
 (.seq
 (.block 1
 (.seq
 (.seq (.free true [⟨some 14,.ldB 2 true 2,none⟩,
⟨some 15,.mov (.t 1),none⟩,
⟨some 16,.mov (.t 6),none⟩,
⟨some 17,.ia 2 (.t 15) (.t 16),none⟩,
⟨some 18,.fa 0 (.t 17),none⟩,
⟨some 19,.ld 1 false (.t 18),none⟩,
⟨some 20,.mov (.t 1),none⟩,
⟨some 21,.mov (.t 6),none⟩,
⟨some 22,.ia 2 (.t 20) (.t 21),none⟩,
⟨some 23,.fa 1 (.t 22),none⟩,
⟨some 24,.ld 1 false (.t 23),none⟩,
⟨some 25,.call n_spec_EdgeAt [(.t 14),(.t 19),(.t 24)],none⟩,
⟨some 7,.mov (.t 25),none⟩])
 (.keep [1,2,5,6,7]))
 (.seq
 (.seq (.ops [⟨some 26,.mov (.t 7),none⟩,
⟨some 27,.bin .geq (.t 26) (.c (.int .i64 0)),none⟩])
 (.keep [1,2,5,6,7,27]))
 (.cond (.t 27)
 (.seq (.ops [⟨some 28,.mov (.t 5),none⟩,
⟨some 29,.faB 1 2,none⟩,
⟨some 30,.ldE 1 false 2 29,none⟩,
⟨some 31,.mov (.t 7),none⟩,
⟨some 32,.ia 5 (.t 30) (.t 31),none⟩,
⟨some 33,.ld 5 true (.t 32),none⟩,
⟨some 34,.call n_spec_Scalar [(.t 33)],none⟩,
⟨some 35,.bin .add (.t 28) (.t 34),none⟩,
⟨some 5,.mov (.t 35),none⟩])
 (.keep [1,2,5,6]))
 .skip))))
 (.seq (.ops [⟨some 12,.mov (.t 6),none⟩,
⟨some 13,.bin .add (.t 12) (.c (.int .i64 1)),none⟩,
⟨some 6,.mov (.t 13),none⟩])
 (.keep [1,2,5,6])))))))
 (.seq
 (.seq (.ops [⟨some 36,.mov (.t 5),none⟩,
⟨some 4,.mov (.t 36),none⟩])
 (.keep [4]))
 .ret)))),
 [(.slot 4)]⟩
def F_spec_l01New : Fun := ⟨1,
 (.seq
 (.seq (.ops [⟨some 2,.mov (.c (.pointer none)),none⟩])
 (.keep [0]))
 (.seq
 (.seq (.ops [⟨some 5,.mov (.t 0),none⟩,
⟨some 6,.ln (.t 5),none⟩,
⟨some 7,.bin .add (.c (.int .i64 10501)) (.t 6),none⟩,
⟨some 3,.mov (.t 7),none⟩])
 (.keep [0,3]))
 (.seq
 (.seq
 (.seq (.ops [⟨some 4,.mov (.c (.int .i64 0)),none⟩])
 (.keep [0,3,4]))
 (.block 0
 (.loop
 (.seq
 (.seq
 (.seq (.ops [⟨some 8,.mov (.t 4),none⟩,
⟨some 9,.mov (.t 0),none⟩,
⟨some 10,.ln (.t 9),none⟩,
⟨some 11,.bin .lss (.t 8) (.t 10),none⟩,
⟨some 12,.mov (.t 11),none⟩,
⟨some 13,.mov (.t 4),some (12,true)⟩,
⟨some 14,.bin .lss (.t 13) (.c (.int .i64 4000)),some (12,true)⟩,
⟨some 15,.pick (.t 12) (.t 14) (.c (.bool false)),none⟩])
 (.keep [0,3,4,15]))
 (.cond (.t 15)
 .skip
 (.exit 0)))
 (.seq
 (.block 1
 (.seq (.ops [⟨some 18,.mov (.t 3),none⟩,
⟨some 19,.bin .mul (.t 18) (.c (.int .i64 131)),none⟩,
⟨some 20,.mov (.t 0),none⟩,
⟨some 21,.mov (.t 4),none⟩,
⟨some 22,.ia 1 (.t 20) (.t 21),none⟩,
⟨some 23,.ld 1 false (.t 22),none⟩,
⟨some 24,.conv .i64 (.t 23),none⟩,
⟨some 25,.bin .add (.t 19) (.t 24),none⟩,
⟨some 26,.bin .add (.t 25) (.c (.int .i64 7)),none⟩,
⟨some 27,.bin .and (.t 26) (.c (.int .i64 1073741823)),none⟩,
⟨some 3,.mov (.t 27),none⟩])
 (.keep [0,3,4])))
 (.seq (.ops [⟨some 16,.mov (.t 4),none⟩,
⟨some 17,.bin .add (.t 16) (.c (.int .i64 1)),none⟩,
⟨some 4,.mov (.t 17),none⟩])
 (.keep [0,3,4])))))))
 (.seq
 (.seq (.ops [⟨some 28,.mov (.t 0),none⟩,
⟨some 29,.mov (.t 3),none⟩,
⟨some 30,.bld [(.slice none 0 0),(.int .i64 0),(.int .i64 0)] [(0,(1,(.t 28))),(2,(1,(.t 29)))],none⟩,
⟨some 31,.bx y_l01Cur 3 (.t 30),none⟩,
⟨some 2,.mov (.t 31),none⟩])
 (.keep [2]))
 .ret)))),
 [(.slot 2)]⟩
def F_spec_l08Graph : Fun := ⟨1,
 (.seq
 (.seq (.ops [⟨some 2,.newL [(.int .i64 0),(.slice none 0 0)],none⟩])
 (.keep [0,2]))
 (.seq
 (.seq (.ops [⟨some 9,.mov (.t 0),none⟩,
⟨some 10,.call n_spec_l01Below [(.t 9),(.c (.int .i64 10))],none⟩,
⟨some 11,.bld [(.int .i64 0),(.slice none 0 0)] [(0,(1,(.t 10)))],none⟩,
⟨some 3,.newL [(.int .i64 0),(.slice none 0 0)],none⟩,
⟨none,.stB 2 3 (.t 11),none⟩])
 (.keep [0,2,3]))
 (.seq
 (.seq (.ops [⟨some 12,.mov (.t 0),none⟩,
⟨some 13,.call n_spec_l01Below [(.t 12),(.c (.int .i64 3))],none⟩,
⟨some 14,.bin .add (.c (.int .i64 1)) (.t 13),none⟩,
⟨some 4,.mov (.t 14),none⟩])
 (.keep [0,2,3,4]))
 (.seq
 (.seq (.ops [⟨some 15,.mov (.t 0),none⟩,
⟨some 16,.lit 3 1 y_int [(.int .i64 0)] [(0,(.c (.int .i64 2))),(1,(.c (.int .i64 4))),(2,(.c (.int .i64 51)))],none⟩,
⟨some 17,.call n_spec_l01PickInt [(.t 15),(.t 16)],none⟩,
⟨some 5,.mov (.t 17),none⟩])
 (.keep [0,2,3,4,5]))
 (.seq
 (.seq
 (.seq (.ops [⟨some 6,.mov (.c (.int .i64 0)),none⟩])
 (.keep [0,2,3,4,5,6]))
 (.block 0
 (.loop
 (.seq
 (.seq
 (.seq (.ops [⟨some 18,.mov (.t 6),none⟩,
⟨some 19,.faB 0 3,none⟩,
⟨some 20,.ldE 1 false 3 19,none⟩,
⟨some 21,.bin .lss (.t 18) (.t 20),none⟩])
 (.keep [0,2,3,4,5,6,21]))
 (.cond (.t 21)
 .skip
 (.exit 0)))
 (.seq
 (.block 1
 (.seq
 (.seq (.ops [⟨some 24,.mov (.t 6),none⟩,
⟨some 25,.bin .add (.t 24) (.c (.int .i64 1)),none⟩,
⟨some 7,.mov (.t 25),none⟩])
 (.keep [0,2,3,4,5,6,7]))
 (.block 2
 (.loop
 (.seq
 (.seq
 (.seq (.ops [⟨some 26,.mov (.t 7),none⟩,
⟨some 27,.faB 0 3,none⟩,
⟨some 28,.ldE 1 false 3 27,none⟩,
⟨some 29,.bin .lss (.t 26) (.t 28),none⟩])
 (.keep [0,2,3,4,5,6,7,29]))
 (.cond (.t 29)
 .skip
 (.exit 2)))
 (.seq
 (.block 3
 (.seq
 (.seq (.ops [⟨some 32,.mov (.t 0),none⟩,
⟨some 33,.mov (.t 4),none⟩,
⟨some 34,.bin .add (.t 33) (.c (.int .i64 1)),none⟩,
⟨some 35,.call n_spec_l01Once [(.t 32),(.t 34)],none⟩,
⟨some 36,.un .not (.t 35),none⟩,
⟨some 37,.mov (.t 36),none⟩,
⟨some 38,.mov (.t 4),some (37,false)⟩,
⟨some 39,.bin .eql (.t 38) (.c (.int .i64 3)),some (37,false)⟩,
⟨some 40,.pick (.t 37) (.c (.bool true)) (.t 39),none⟩])
 (.keep [0,2,3,4,5,6,7,40]))
 (.cond (.t 40)
 (.seq
 (.seq (.ops [⟨some 41,.mov (.t 6),none⟩,
⟨some 42,.mov (.t 7),none⟩,
⟨some 43,.mov (.t 0),none⟩,
⟨some 44,.mov (.t 5),none⟩,
⟨some 45,.call n_spec_l01Below [(.t 43),(.t 44)],none⟩,
⟨some 46,.mov (.t 0),none⟩,
⟨some 47,.mov (.t 5),none⟩,
⟨some 48,.call n_spec_l01Below [(.t 46),(.t 47)],none⟩,
⟨some 49,.mov (.t 0),none⟩,
⟨some 50,.mov (.t 5),none⟩,
⟨some 51,.call n_spec_l01Below [(.t 49),(.t 50)],none⟩,
⟨some 52,.bld [(.int .i64 0),(.int .i64 0),(.int .i64 0),(.int .i64 0),(.int .i64 0)] [(0,(1,(.t 41))),(1,(1,(.t 42))),(2,(1,(.t 45))),(3,(1,(.t 48))),(4,(1,(.t 51)))],none⟩,
⟨some 8,.newL [(.int .i64 0),(.int .i64 0),(.int .i64 0),(.int .i64 0),(.int .i64 0)],none⟩,
⟨none,.stB 5 8 (.t 52),none⟩])
 (.keep [0,2,3,4,5,6,7,8]))
 (.seq
 (.seq
 (.seq (.ops [⟨some 53,.mov (.t 5),none⟩,
⟨some 54,.bin .eql (.t 53) (.c (.int .i64 4)),none⟩])
 (.keep [0,2,3,4,5,6,7,8,54]))
 (.cond (.t 54)
 (.seq
 (.seq (.ops [⟨some 55,.faB 3 8,none⟩,
⟨none,.stE 1 8 55 (.c (.int .i64 0)),none⟩])
 (.keep [0,2,3,4,5,6,7,8]))
 (.seq (.ops [⟨some 56,.faB 4 8,none⟩,
⟨none,.stE 1 8 56 (.c (.int .i64 0)),none⟩])
 (.keep [0,2,3,4,5,6,7,8])))
 .skip))
 (.seq (.ops [⟨some 57,.faB 1 3,none⟩,
⟨some 58,.ldE 1 false 3 57,none⟩,
⟨some 59,.ldB 5 true 8,none⟩,
⟨some 60,.litL 1 5 [(.int .i64 0),(.int .i64 0),(.int .i64 0),(.int .i64 0),(.int .i64 0)] [(0,(.t 59))],none⟩,
⟨some 61,.appL 5 y_Edge 40 1 (.t 58) 60,none⟩,
⟨some 62,.faB 1 3,none⟩,
⟨none,.stE 1 3 62 (.t 61),none⟩])
 (.keep [0,2,3,4,5,6,7]))))
 .skip)))
 (.seq (.ops [⟨some 30,.mov (.t 7),none⟩,
⟨some 31,.bin .add (.t 30) (.c (.int .i64 1)),none⟩,
⟨some 7,.mov (.t 31),none⟩])
 (.keep [0,2,3,4,5,6,7]))))))))
 (.seq (.ops [⟨some 22,.mov (.t 6),none⟩,
⟨some 23,.bin .add (.t 22) (.c (.int .i64 1)),none⟩,
⟨some 6,.mov (.t 23),none⟩])
 (.keep [0,2,3,4,5,6])))))))
 (.seq
 (.seq (.ops [⟨some 63,.ldB 2 true 3,none⟩,
⟨none,.stB 2 2 (.t 63),none⟩])
 (.keep [2]))
 .ret)))))),
 [(.box 2 2 true)]⟩
def F_spec_l01Once : Fun := ⟨2,
 (.seq
 (.seq (.ops [⟨some 4,.mov (.c (.bool false)),none⟩])
 (.keep [0,1]))
 (.seq
 (.seq (.ops [⟨some 5,.mov (.t 0),none⟩,
⟨some 6,.mov (.t 1),none⟩,
⟨some 7,.call n_spec_l01Below [(.t 5),(.t 6)],none⟩,
⟨some 8,.bin .eql (.t 7) (.c (.int .i64 0)),none⟩,
⟨some 4,.mov (.t 8),none⟩])
 (.keep [4]))
 .ret)),
 [(.slot 4)]⟩
def F_spec_l01Below : Fun := ⟨2,
 (.seq
 (.seq (.ops [⟨some 4,.mov (.c (.int .i64 0)),none⟩])
 (.keep [0,1]))
 (.seq
 (.seq
 (.seq (.ops [⟨some 9,.mov (.t 1),none⟩,
⟨some 10,.bin .leq (.t 9) (.c (.int .i64 0)),none⟩])
 (.keep [0,1,10]))
 (.cond (.t 10)
 (.seq
 (.seq (.ops [⟨some 4,.mov (.c (.int .i64 0)),none⟩])
 (.keep [4]))
 .ret)
 .skip))
 (.seq
 (.seq
 (.seq (.ops [⟨some 11,.mov (.t 1),none⟩,
⟨some 12,.bin .leq (.t 11) (.c (.int .i64 256)),none⟩])
 (.keep [0,1,12]))
 (.cond (.t 12)
 (.seq
 (.seq (.ops [⟨some 13,.mov (.t 0),none⟩,
⟨some 14,.call n_spec_l01Byte [(.t 13)],none⟩,
⟨some 15,.mov (.t 1),none⟩,
⟨some 16,.bin .rem (.t 14) (.t 15),none⟩,
⟨some 4,.mov (.t 16),none⟩])
 (.keep [4]))
 .ret)
 .skip))
 (.seq
 (.seq (.ops [⟨some 17,.mov (.t 0),none⟩,
⟨some 18,.call n_spec_l01Byte [(.t 17)],none⟩,
⟨some 5,.mov (.t 18),none⟩])
 (.keep [0,1,5]))
 (.seq
 (.seq (.ops [⟨some 19,.mov (.t 0),none⟩,
⟨some 20,.call n_spec_l01Byte [(.t 19)],none⟩,
⟨some 6,.mov (.t 20),none⟩])
 (.keep [0,1,5,6]))
 (.seq
 (.seq (.ops [⟨some 21,.mov (.t 0),none⟩,
⟨some 22,.call n_spec_l01Byte [(.t 21)],none⟩,
⟨some 7,.mov (.t 22),none⟩])
 (.keep [0,1,5,6,7]))
 (.seq
 (.seq (.ops [⟨some 23,.mov (.t 0),none⟩,
⟨some 24,.call n_spec_l01Byte [(.t 23)],none⟩,
⟨some 8,.mov (.t 24),none⟩])
 (.keep [1,5,6,7,8]))
 (.seq
 (.seq (.ops [⟨some 25,.mov (.t 5),none⟩,
⟨some 26,.bin .mul (.t 25) (.c (.int .i64 16777216)),none⟩,
⟨some 27,.mov (.t 6),none⟩,
⟨some 28,.bin .mul (.t 27) (.c (.int .i64 65536)),none⟩,
⟨some 29,.bin .add (.t 26) (.t 28),none⟩,
⟨some 30,.mov (.t 7),none⟩,
⟨some 31,.bin .mul (.t 30) (.c (.int .i64 256)),none⟩,
⟨some 32,.bin .add (.t 29) (.t 31),none⟩,
⟨some 33,.mov (.t 8),none⟩,
⟨some 34,.bin .add (.t 32) (.t 33),none⟩,
⟨some 35,.mov (.t 1),none⟩,
⟨some 36,.bin .rem (.t 34) (.t 35),none⟩,
⟨some 4,.mov (.t 36),none⟩])
 (.keep [4]))
 .ret)))))))),
 [(.slot 4)]⟩
def F_impl_GraphOk : Fun := ⟨1,
 (.seq
 (.seq (.ops [⟨some 1,.boxL 2 (.t 0),none⟩,
⟨some 2,.mov (.c (.bool false)),none⟩])
 (.keep [1]))
 (.seq
 (.seq
 (.seq (.ops [⟨some 6,.faB 0 1,none⟩,
⟨some 7,.ldE 1 false 1 6,none⟩,
⟨some 8,.call n_impl_in [(.t 7),(.c (.int .i64 0)),(.c (.int .i64 9))],none⟩,
⟨some 9,.un .not (.t 8),none⟩])
 (.keep [1,9]))
 (.cond (.t 9)
 (.seq
 (.seq (.ops [⟨some 2,.mov (.c (.bool false)),none⟩])
 (.keep [2]))
 .ret)
 .skip))
 (.seq
 (.seq
 (.seq (.ops [⟨some 10,.faB 1 1,none⟩,
⟨some 11,.ldE 1 false 1 10,none⟩,
⟨some 12,.ln (.t 11),none⟩,
⟨some 13,.mov (.c (.int .i64 0)),none⟩])
 (.keep [1,11,12,13]))
 (.block 0
 (.loop
 (.seq
 (.seq (.ops [⟨some 14,.bin .lss (.t 13) (.t 12),none⟩])
 (.keep [1,11,12,13,14]))
 (.seq
 (.cond (.t 14)
 .skip
 (.exit 0))
 (.seq
 (.block 1
 (.seq
 (.seq (.ops [⟨some 15,.mov (.t 13),none⟩,
⟨some 16,.ia 5 (.t 11) (.t 13),none⟩,
⟨some 17,.ld 5 true (.t 16),none⟩,
⟨some 4,.newL [(.int .i64 0),(.int .i64 0),(.int .i64 0),(.int .i64 0),(.int .i64 0)],none⟩,
⟨some 3,.mov (.t 15),none⟩,
⟨none,.stB 5 4 (.t 17),none⟩])
 (.keep [1,3,4,11,12,13]))
 (.seq
 (.seq
 (.seq (.ops [⟨some 18,.faB 0 4,none⟩,
⟨some 19,.ldE 1 false 4 18,none⟩,
⟨some 20,.faB 0 1,none⟩,
⟨some 21,.ldE 1 false 1 20,none⟩,
⟨some 22,.bin .sub (.t 21) (.c (.int .i64 1)),none⟩,
⟨some 23,.call n_impl_in [(.t 19),(.c (.int .i64 0)),(.t 22)],none⟩,
⟨some 24,.un .not (.t 23),none⟩,
⟨some 25,.mov (.t 24),none⟩,
⟨some 26,.faB 1 4,some (25,false)⟩,
⟨some 27,.ldE 1 false 4 26,some (25,false)⟩,
⟨some 28,.faB 0 1,some (25,false)⟩,
⟨some 29,.ldE 1 false 1 28,some (25,false)⟩,
⟨some 30,.bin .sub (.t 29) (.c (.int .i64 1)),some (25,false)⟩,
⟨some 31,.call n_impl_in [(.t 27),(.c (.int .i64 0)),(.t 30)],some (25,false)⟩,
⟨some 32,.un .not (.t 31),some (25,false)⟩,
⟨some 33,.pick (.t 25) (.c (.bool true)) (.t 32),none⟩,
⟨some 34,.mov (.t 33),none⟩,
⟨some 35,.faB 0 4,some (34,false)⟩,
⟨some 36,.ldE 1 false 4 35,some (34,false)⟩,
⟨some 37,.faB 1 4,some (34,false)⟩,
⟨some 38,.ldE 1 false 4 37,some (34,false)⟩,
⟨some 39,.bin .geq (.t 36) (.t 38),some (34,false)⟩,
⟨some 40,.pick (.t 34) (.c (.bool true)) (.t 39),none⟩,
⟨some 41,.mov (.t 40),none⟩,
⟨some 42,.faB 2 4,some (41,false)⟩,
⟨some 43,.ldE 1 false 4 42,some (41,false)⟩,
⟨some 44,.call n_impl_in [(.t 43),(.c (.int .i64 0)),(.c (.int .i64 50))],some (41,false)⟩,
⟨some 45,.un .not (.t 44),some (41,false)⟩,
⟨some 46,.pick (.t 41) (.c (.bool true)) (.t 45),none⟩,
⟨some 47,.mov (.t 46),none⟩,
⟨some 48,.faB 3 4,some (47,false)⟩,
⟨some 49,.ldE 1 false 4 48,some (47,false)⟩,
⟨some 50,.call n_impl_in [(.t 49),(.c (.int .i64 0)),(.c (.int .i64 50))],some (47,false)⟩,
⟨some 51,.un .not (.t 50),some (47,false)⟩,
⟨some 52,.pick (.t 47) (.c (.bool true)) (.t 51),none⟩,
⟨some 53,.mov (.t 52),none⟩,
⟨some 54,.faB 4 4,some (53,false)⟩,
⟨some 55,.ldE 1 false 4 54,some (53,false)⟩,
⟨some 56,.call n_impl_in [(.t 55),(.c (.int .i64 0)),(.c (.int .i64 50))],some (53,false)⟩,
⟨some 57,.un .not (.t 56),some (53,false)⟩,
⟨some 58,.pick (.t 53) (.c (.bool true)) (.t 57),none⟩])
 (.keep [1,3,4,11,12,13,58]))
 (.cond (.t 58)
 (.seq
 (.seq (.ops [⟨some 2,.mov (.c (.bool false)),none⟩])
 (.keep [2]))
 .ret)
 .skip))
 (.seq
 (.seq (.ops [⟨some 59,.mov (.t 3),none⟩,
⟨some 60,.bin .sub (.t 59) (.c (.int .i64 1)),none⟩,
⟨some 5,.mov (.t 60),none⟩])
 (.keep [1,3,4,5,11,12,13]))
 (.seq
 (.seq (.free true [⟨some 61,.mov (.t 3),none⟩,
⟨some 62,.bin .gtr (.t 61) (.c (.int .i64 0)),none⟩,
⟨some 63,.mov (.t 62),none⟩,
⟨some 64,.faB 1 1,some (63,true)⟩,
⟨some 65,.ldE 1 false 1 64,some (63,true)⟩,
⟨some 66,.mov (.t 5),some (63,true)⟩,
⟨some 67,.ia 5 (.t 65) (.t 66),some (63,true)⟩,
⟨some 68,.fa 0 (.t 67),some (63,true)⟩,
⟨some 69,.ld 1 false (.t 68),some (63,true)⟩,
⟨some 70,.faB 0 4,some (63,true)⟩,
⟨some 71,.ldE 1 false 4 70,some (63,true)⟩,
⟨some 72,.bin .gtr (.t 69) (.t 71),some (63,true)⟩,
⟨some 73,.mov (.t 72),some (63,true)⟩,
⟨some 74,.faB 1 1,some (73,false)⟩,
⟨some 75,.ldE 1 false 1 74,some (73,false)⟩,
⟨some 76,.mov (.t 5),some (73,false)⟩,
⟨some 77,.ia 5 (.t 75) (.t 76),some (73,false)⟩,
⟨some 78,.fa 0 (.t 77),some (73,false)⟩,
⟨some 79,.ld 1 false (.t 78),some (73,false)⟩,
⟨some 80,.faB 0 4,some (73,false)⟩,
⟨some 81,.ldE 1 false 4 80,some (73,false)⟩,
⟨some 82,.bin .eql (.t 79) (.t 81),some (73,false)⟩,
⟨some 83,.mov (.t 82),some (73,false)⟩,
⟨some 84,.faB 1 1,some (83,true)⟩,
⟨some 85,.ldE 1 false 1 84,some (83,true)⟩,
⟨some 86,.mov (.t 5),some (83,true)⟩,
⟨some 87,.ia 5 (.t 85) (.t 86),some (83,true)⟩,
⟨some 88,.fa 1 (.t 87),some (83,true)⟩,
⟨some 89,.ld 1 false (.t 88),some (83,true)⟩,
⟨some 90,.faB 1 4,some (83,true)⟩,
⟨some 91,.ldE 1 false 4 90,some (83,true)⟩,
⟨some 92,.bin .geq (.t 89) (.t 91),some (83,true)⟩,
⟨some 93,.pick (.t 83) (.t 92) (.c (.bool false)),some (73,false)⟩,
⟨some 94,.pick (.t 73) (.c (.bool true)) (.t 93),some (63,true)⟩,
⟨some 95,.pick (.t 63) (.t 94) (.c (.bool false)),none⟩])
 (.keep [1,11,12,13,95]))
 (.cond (.t 95)
 (.seq
 (.seq (.ops [⟨some 2,.mov (.c (.bool false)),none⟩])
 (.keep [2]))
 .ret)
 .skip))))))
 (.seq (.ops [⟨some 96,.bin .add (.t 13) (.c (.int .i64 1)),none⟩,
⟨some 13,.mov (.t 96),none⟩])
 (.keep [1,11,12,13]))))))))
 (.seq
 (.seq (.ops [⟨some 2,.mov (.c (.bool true)),none⟩])
 (.keep [2]))
 .ret)))),
 [(.slot 2)]⟩
def F_impl_in : Fun := ⟨3,
 (.seq
 (.seq (.ops [⟨some 6,.mov (.c (.bool false)),none⟩])
 (.keep [0,1,2]))
 (.seq
 (.seq (.ops [⟨some 7,.mov (.t 0),none⟩,
⟨some 8,.mov (.t 1),none⟩,
⟨some 9,.bin .geq (.t 7) (.t 8),none⟩,
⟨some 10,.mov (.t 9),none⟩,
⟨some 11,.mov (.t 0),some (10,true)⟩,
⟨some 12,.mov (.t 2),some (10,true)⟩,
⟨some 13,.bin .leq (.t 11) (.t 12),some (10,true)⟩,
⟨some 14,.pick (.t 10) (.t 13) (.c (.bool false)),none⟩,
⟨some 6,.mov (.t 14),none⟩])
 (.keep [6]))
 .ret)),
 [(.slot 6)]⟩
def F_impl_groupOk : Fun := ⟨2,
 (.seq
 (.seq (.ops [⟨some 2,.boxL 2 (.t 0),none⟩,
⟨some 3,.boxL 2 (.t 1),none⟩,
⟨some 4,.mov (.c (.bool false)),none⟩])
 (.keep [2,3]))
 (.seq
 (.seq
 (.seq (.ops [⟨some 7,.faB 0 3,none⟩,
⟨some 8,.ldE 1 false 3 7,none⟩,
⟨some 9,.ln (.t 8),none⟩,
⟨some 10,.bin .lss (.t 9) (.c (.int .i64 3)),none⟩,
⟨some 11,.mov (.t 10),none⟩,
⟨some 12,.faB 0 3,some (11,false)⟩,
⟨some 13,.ldE 1 false 3 12,some (11,false)⟩,
⟨some 14,.ln (.t 13),some (11,false)⟩,
⟨some 15,.bin .rem (.t 14) (.c (.int .i64 2)),some (11,false)⟩,
⟨some 16,.bin .eql (.t 15) (.c (.int .i64 0)),some (11,false)⟩,
⟨some 17,.pick (.t 11) (.c (.bool true)) (.t 16),none⟩,
⟨some 18,.mov (.t 17),none⟩,
⟨some 19,.faB 1 3,some (18,false)⟩,
⟨some 20,.ldE 1 false 3 19,some (18,false)⟩,
⟨some 21,.call n_impl_in [(.t 20),(.c (.int .i64 1)),(.c (.int .i64 1000000000))],some (18,false)⟩,
⟨some 22,.un .not (.t 21),some (18,false)⟩,
⟨some 23,.pick (.t 18) (.c (.bool true)) (.t 22),none⟩])
 (.keep [2,3,23]))
 (.cond (.t 23)
 (.seq
 (.seq (.ops [⟨some 4,.mov (.c (.bool false)),none⟩])
 (.keep [4]))
 .ret)
 .skip))
 (.seq
 (.seq
 (.seq (.ops [⟨some 24,.faB 0 3,none⟩,
⟨some 25,.ldE 1 false 3 24,none⟩,
⟨some 26,.ln (.t 25),none⟩,
⟨some 27,.mov (.c (.int .i64 0)),none⟩])
 (.keep [2,3,25,26,27]))
 (.block 0
 (.loop
 (.seq
 (.seq (.ops [⟨some 28,.bin .lss (.t 27) (.t 26),none⟩])
 (.keep [2,3,25,26,27,28]))
 (.seq
 (.cond (.t 28)
 .skip
 (.exit 0))
 (.seq
 (.block 1
 (.seq
 (.seq (.ops [⟨some 29,.mov (.t 27),none⟩,
⟨some 30,.ia 1 (.t 25) (.t 27),none⟩,
⟨some 31,.ld 1 false (.t 30),none⟩,
⟨some 5,.mov (.t 29),none⟩,
⟨some 6,.mov (.t 31),none⟩])
 (.keep [2,3,5,6,25,26,27]))
 (.seq
 (.seq (.ops [⟨some 32,.mov (.t 6),none⟩,
⟨some 33,.faB 0 2,none⟩,
⟨some 34,.ldE 1 false 2 33,none⟩,
⟨some 35,.bin .sub (.t 34) (.c (.int .i64 1)),none⟩,
⟨some 36,.call n_impl_in [(.t 32),(.c (.int .i64 0)),(.t 35)],none⟩,
⟨some 37,.un .not (.t 36),none⟩,
⟨some 38,.mov (.t 37),none⟩,
⟨some 39,.mov (.t 5),some (38,false)⟩,
⟨some 40,.bin .gtr (.t 39) (.c (.int .i64 0)),some (38,false)⟩,
⟨some 41,.mov (.t 40),some (38,false)⟩,
⟨some 42,.faB 0 3,some (41,true)⟩,
⟨some 43,.ldE 1 false 3 42,some (41,true)⟩,
⟨some 44,.mov (.t 5),some (41,true)⟩,
⟨some 45,.bin .sub (.t 44) (.c (.int .i64 1)),some (41,true)⟩,
⟨some 46,.ia 1 (.t 43) (.t 45),some (41,true)⟩,
⟨some 47,.ld 1 false (.t 46),some (41,true)⟩,
⟨some 48,.mov (.t 6),some (41,true)⟩,
⟨some 49,.bin .geq (.t 47) (.t 48),some (41,true)⟩,
⟨some 50,.pick (.t 41) (.t 49) (.c (.bool false)),some (38,false)⟩,
⟨some 51,.pick (.t 38) (.c (.bool true)) (.t 50),none⟩])
 (.keep [2,3,25,26,27,51]))
 (.cond (.t 51)
 (.seq
 (.seq (.ops [⟨some 4,.mov (.c (.bool false)),none⟩])
 (.keep [4]))
 .ret)
 .skip))))
 (.seq (.ops [⟨some 52,.bin .add (.t 27) (.c (.int .i64 1)),none⟩,
⟨some 27,.mov (.t 52),none⟩])
 (.keep [2,3,25,26,27]))))))))
 (.seq
 (.seq (.ops [⟨some 4,.mov (.c (.bool true)),none⟩])
 (.keep [4]))
 .ret)))),
 [(.slot 4)]⟩
def F_impl_within : Fun := ⟨2,
 (.seq
 (.seq (.ops [⟨some 4,.mov (.c (.bool false)),none⟩,
⟨some 5,.mov (.c (.bool false)),none⟩])
 (.keep [0,1]))
 (.seq
 (.seq (.ops [⟨some 6,.mov (.c (.bool true)),none⟩,
⟨some 7,.mov (.c (.bool true)),none⟩])
 (.keep [0,1,6,7]))
 (.seq
 (.seq
 (.seq (.ops [⟨some 11,.mov (.t 0),none⟩,
⟨some 12,.ln (.t 11),none⟩,
⟨some 13,.mov (.c (.int .i64 0)),none⟩])
 (.keep [1,6,7,11,12,13]))
 (.block 0
 (.loop
 (.seq
 (.seq (.ops [⟨some 14,.bin .lss (.t 13) (.t 12),none⟩])
 (.keep [1,6,7,11,12,13,14]))
 (.seq
 (.cond (.t 14)
 .skip
 (.exit 0))
 (.seq
 (.block 1
 (.seq
 (.seq (.ops [⟨some 15,.ia 1 (.t 11) (.t 13),none⟩,
⟨some 16,.ld 1 false (.t 15),none⟩,
⟨some 9,.mov (.t 16),none⟩])
 (.keep [1,6,7,9,11,12,13]))
 (.seq
 (.seq (.ops [⟨some 17,.mov (.t 1),none⟩,
⟨some 18,.mov (.t 9),none⟩,
⟨some 19,.call n_impl_hasInt [(.t 17),(.t 18)],none⟩,
⟨some 10,.mov (.t 19),none⟩])
 (.keep [1,6,7,10,11,12,13]))
 (.seq (.ops [⟨some 20,.mov (.t 6),none⟩,
⟨some 21,.mov (.t 20),none⟩,
⟨some 22,.mov (.t 10),some (21,true)⟩,
⟨some 23,.pick (.t 21) (.t 22) (.c (.bool false)),none⟩,
⟨some 24,.mov (.t 7),none⟩,
⟨some 25,.mov (.t 24),none⟩,
⟨some 26,.mov (.t 10),some (25,true)⟩,
⟨some 27,.un .not (.t 26),some (25,true)⟩,
⟨some 28,.pick (.t 25) (.t 27) (.c (.bool false)),none⟩,
⟨some 6,.mov (.t 23),none⟩,
⟨some 7,.mov (.t 28),none⟩])
 (.keep [1,6,7,11,12,13])))))
 (.seq (.ops [⟨some 29,.bin .add (.t 13) (.c (.int .i64 1)),none⟩,
⟨some 13,.mov (.t 29),none⟩])
 (.keep [1,6,7,11,12,13]))))))))
 (.seq
 (.seq (.ops [⟨some 30,.mov (.t 6),none⟩,
⟨some 31,.mov (.t 7),none⟩,
⟨some 4,.mov (.t 30),none⟩,
⟨some 5,.mov (.t 31),none⟩])
 (.keep [4,5]))
 .ret)))),
 [(.slot 4),(.slot 5)]⟩
def F_impl_slackOf : Fun := ⟨2,
 (.seq
 (.seq (.ops [⟨some 2,.boxL 5 (.t 0),none⟩,
⟨some 3,.boxL 2 (.t 1),none⟩,
⟨some 4,.mov (.c (.int .i64 0)),none⟩])
 (.keep [2,3]))
 (.seq
 (.seq (.free false [⟨some 8,.faB 0 3,none⟩,
⟨some 9,.ldE 1 false 3 8,none⟩,
⟨some 10,.faB 0 2,none⟩,
⟨some 11,.ldE 1 false 2 10,none⟩,
⟨some 12,.ia 1 (.t 9) (.t 11),none⟩,
⟨some 13,.ld 1 false (.t 12),none⟩,
⟨some 14,.faB 0 3,none⟩,
⟨some 15,.ldE 1 false 3 14,none⟩,
⟨some 16,.faB 1 2,none⟩,
⟨some 17,.ldE 1 false 2 16,none⟩,
⟨some 18,.ia 1 (.t 15) (.t 17),none⟩,
⟨some 19,.ld 1 false (.t 18),none⟩,
⟨some 20,.bin .add (.t 13) (.t 19),none⟩,
⟨some 21,.ldB 5 true 2,none⟩,
⟨some 22,.call n_impl_Scalar [(.t 21)],none⟩,
⟨some 23,.bin .mul (.c (.int .i64 2)) (.t 22),none⟩,
⟨some 24,.bin .sub (.t 20) (.t 23),none⟩,
⟨some 5,.mov (.t 24),none⟩])
 (.keep [2,3,5]))
 (.seq
 (.seq
 (.seq (.ops [⟨some 25,.faB 1 3,none⟩,
⟨some 26,.ldE 1 false 3 25,none⟩,
⟨some 27,.ln (.t 26),none⟩,
⟨some 28,.mov (.c (.int .i64 0)),none⟩])
 (.keep [2,5,26,27,28]))
 (.block 0
 (.loop
 (.seq
 (.seq (.ops [⟨some 29,.bin .lss (.t 28) (.t 27),none⟩])
 (.keep [2,5,26,27,28,29]))
 (.seq
 (.cond (.t 29)
 .skip
 (.exit 0))
 (.seq
 (.block 1
 (.seq
 (.seq (.ops [⟨some 30,.ia 2 (.t 26) (.t 28),none⟩,
⟨some 31,.ld 2 true (.t 30),none⟩,
⟨some 7,.newL [(.slice none 0 0),(.int .i64 0)],none⟩,
⟨none,.stB 2 7 (.t 31),none⟩])
 (.keep [2,5,7,26,27,28]))
 (.seq
 (.seq (.ops [⟨some 32,.faB 0 7,none⟩,
⟨some 33,.ldE 1 false 7 32,none⟩,
⟨some 34,.faB 0 2,none⟩,
⟨some 35,.ldE 1 false 2 34,none⟩,
⟨some 36,.call n_impl_hasInt [(.t 33),(.t 35)],none⟩,
⟨some 37,.mov (.t 36),none⟩,
⟨some 38,.faB 0 7,some (37,true)⟩,
⟨some 39,.ldE 1 false 7 38,some (37,true)⟩,
⟨some 40,.faB 1 2,some (37,true)⟩,
⟨some 41,.ldE 1 false 2 40,some (37,true)⟩,
⟨some 42,.call n_impl_hasInt [(.t 39),(.t 41)],some (37,true)⟩,
⟨some 43,.pick (.t 37) (.t 42) (.c (.bool false)),none⟩])
 (.keep [2,5,7,26,27,28,43]))
 (.cond (.t 43)
 (.seq (.ops [⟨some 44,.mov (.t 5),none⟩,
⟨some 45,.faB 1 7,none⟩,
⟨some 46,.ldE 1 false 7 45,none⟩,
⟨some 47,.bin .add (.t 44) (.t 46),none⟩,
⟨some 5,.mov (.t 47),none⟩])
 (.keep [2,5,26,27,28]))
 .skip))))
 (.seq (.ops [⟨some 48,.bin .add (.t 28) (.c (.int .i64 1)),none⟩,
⟨some 28,.mov (.t 48),none⟩])
 (.keep [2,5,26,27,28]))))))))
 (.seq
 (.seq (.ops [⟨some 49,.mov (.t 5),none⟩,
⟨some 4,.mov (.t 49),none⟩])
 (.keep [4]))
 .ret)))),
 [(.slot 4)]⟩
def F_spec_GraphOk : Fun := ⟨1,
 (.seq
 (.seq (.ops [⟨some 1,.boxL 2 (.t 0),none⟩,
⟨some 2,.mov (.c (.bool false)),none⟩])
 (.keep [1]))
 (.seq
 (.seq
 (.seq (.ops [⟨some 5,.faB 0 1,none⟩,
⟨some 6,.ldE 1 false 1 5,none⟩,
⟨some 7,.call n_spec_l01In [(.t 6),(.c (.int .i64 0)),(.c (.int .i64 9))],none⟩,
⟨some 8,.un .not (.t 7),none⟩])
 (.keep [1,8]))
 (.cond (.t 8)
 (.seq
 (.seq (.ops [⟨some 2,.mov (.c (.bool false)),none⟩])
 (.keep [2]))
 .ret)
 .skip))
 (.seq
 (.seq
 (.seq (.ops [⟨some 3,.mov (.c (.int .i64 0)),none⟩])
 (.keep [1,3]))
 (.block 0
 (.loop
 (.seq
 (.seq
 (.seq (.ops [⟨some 9,.mov (.t 3),none⟩,
⟨some 10,.faB 1 1,none⟩,
⟨some 11,.ldE 1 false 1 10,none⟩,
⟨some 12,.ln (.t 11),none⟩,
⟨some 13,.bin .lss (.t 9) (.t 12),none⟩])
 (.keep [1,3,13]))
 (.cond (.t 13)
 .skip
 (.exit 0)))
 (.seq
 (.block 1
 (.seq
 (.seq (.ops [⟨some 16,.faB 1 1,none⟩,
⟨some 17,.ldE 1 false 1 16,none⟩,
⟨some 18,.mov (.t 3),none⟩,
⟨some 19,.ia 5 (.t 17) (.t 18),none⟩,
⟨some 20,.ld 5 true (.t 19),none⟩,
⟨some 4,.newL [(.int .i64 0),(.int .i64 0),(.int .i64 0),(.int .i64 0),(.int .i64 0)],none⟩,
⟨none,.stB 5 4 (.t 20),none⟩])
 (.keep [1,3,4]))
 (.seq
 (.seq
 (.seq (.ops [⟨some 21,.faB 0 4,none⟩,
⟨some 22,.ldE 1 false 4 21,none⟩,
⟨some 23,.bin .lss (.t 22) (.c (.int .i64 0)),none⟩,
⟨some 24,.mov (.t 23),none⟩,
⟨some 25,.faB 0 4,some (24,false)⟩,
⟨some 26,.ldE 1 false 4 25,some (24,false)⟩,
⟨some 27,.faB 1 4,some (24,false)⟩,
⟨some 28,.ldE 1 false 4 27,some (24,false)⟩,
⟨some 29,.bin .geq (.t 26) (.t 28),some (24,false)⟩,
⟨some 30,.pick (.t 24) (.c (.bool true)) (.t 29),none⟩,
⟨some 31,.mov (.t 30),none⟩,
⟨some 32,.faB 1 4,some (31,false)⟩,
⟨some 33,.ldE 1 false 4 32,some (31,false)⟩,
⟨some 34,.faB 0 1,some (31,false)⟩,
⟨some 35,.ldE 1 false 1 34,some (31,false)⟩,
⟨some 36,.bin .geq (.t 33) (.t 35),some (31,false)⟩,
⟨some 37,.pick (.t 31) (.c (.bool true)) (.t 36),none⟩,
⟨some 38,.mov (.t 37),none⟩,
⟨some 39,.faB 2 4,some (38,false)⟩,
⟨some 40,.ldE 1 false 4 39,some (38,false)⟩,
⟨some 41,.call n_spec_l08Worth [(.t 40)],some (38,false)⟩,
⟨some 42,.un .not (.t 41),some (38,false)⟩,
⟨some 43,.pick (.t 38) (.c (.bool true)) (.t 42),none⟩,
⟨some 44,.mov (.t 43),none⟩,
⟨some 45,.faB 3 4,some (44,false)⟩,
⟨some 46,.ldE 1 false 4 45,some (44,false)⟩,
⟨some 47,.call n_spec_l08Worth [(.t 46)],some (44,false)⟩,
⟨some 48,.un .not (.t 47),some (44,false)⟩,
⟨some 49,.pick (.t 44) (.c (.bool true)) (.t 48),none⟩,
⟨some 50,.mov (.t 49),none⟩,
⟨some 51,.faB 4 4,some (50,false)⟩,
⟨some 52,.ldE 1 false 4 51,some (50,false)⟩,
⟨some 53,.call n_spec_l08Worth [(.t 52)],some (50,false)⟩,
⟨some 54,.un .not (.t 53),some (50,false)⟩,
⟨some 55,.pick (.t 50) (.c (.bool true)) (.t 54),none⟩])
 (.keep [1,3,4,55]))
 (.cond (.t 55)
 (.seq
 (.seq (.ops [⟨some 2,.mov (.c (.bool false)),none⟩])
 (.keep [2]))
 .ret)
 .skip))
 (.seq
 (.seq (.free true [⟨some 56,.mov (.t 3),none⟩,
⟨some 57,.bin .gtr (.t 56) (.c (.int .i64 0)),none⟩,
⟨some 58,.mov (.t 57),none⟩,
⟨some 59,.faB 1 1,some (58,true)⟩,
⟨some 60,.ldE 1 false 1 59,some (58,true)⟩,
⟨some 61,.mov (.t 3),some (58,true)⟩,
⟨some 62,.bin .sub (.t 61) (.c (.int .i64 1)),some (58,true)⟩,
⟨some 63,.ia 5 (.t 60) (.t 62),some (58,true)⟩,
⟨some 64,.fa 0 (.t 63),some (58,true)⟩,
⟨some 65,.ld 1 false (.t 64),some (58,true)⟩,
⟨some 66,.faB 0 4,some (58,true)⟩,
⟨some 67,.ldE 1 false 4 66,some (58,true)⟩,
⟨some 68,.bin .gtr (.t 65) (.t 67),some (58,true)⟩,
⟨some 69,.mov (.t 68),some (58,true)⟩,
⟨some 70,.faB 1 1,some (69,false)⟩,
⟨some 71,.ldE 1 false 1 70,some (69,false)⟩,
⟨some 72,.mov (.t 3),some (69,false)⟩,
⟨some 73,.bin .sub (.t 72) (.c (.int .i64 1)),some (69,false)⟩,
⟨some 74,.ia 5 (.t 71) (.t 73),some (69,false)⟩,
⟨some 75,.fa 0 (.t 74),some (69,false)⟩,
⟨some 76,.ld 1 false (.t 75),some (69,false)⟩,
⟨some 77,.faB 0 4,some (69,false)⟩,
⟨some 78,.ldE 1 false 4 77,some (69,false)⟩,
⟨some 79,.bin .eql (.t 76) (.t 78),some (69,false)⟩,
⟨some 80,.mov (.t 79),some (69,false)⟩,
⟨some 81,.faB 1 1,some (80,true)⟩,
⟨some 82,.ldE 1 false 1 81,some (80,true)⟩,
⟨some 83,.mov (.t 3),some (80,true)⟩,
⟨some 84,.bin .sub (.t 83) (.c (.int .i64 1)),some (80,true)⟩,
⟨some 85,.ia 5 (.t 82) (.t 84),some (80,true)⟩,
⟨some 86,.fa 1 (.t 85),some (80,true)⟩,
⟨some 87,.ld 1 false (.t 86),some (80,true)⟩,
⟨some 88,.faB 1 4,some (80,true)⟩,
⟨some 89,.ldE 1 false 4 88,some (80,true)⟩,
⟨some 90,.bin .geq (.t 87) (.t 89),some (80,true)⟩,
⟨some 91,.pick (.t 80) (.t 90) (.c (.bool false)),some (69,false)⟩,
⟨some 92,.pick (.t 69) (.c (.bool true)) (.t 91),some (58,true)⟩,
⟨some 93,.pick (.t 58) (.t 92) (.c (.bool false)),none⟩])
 (.keep [1,3,93]))
 (.cond (.t 93)
 (.seq
 (.seq (.ops [⟨some 2,.mov (.c (.bool false)),none⟩])
 (.keep [2]))
 .ret)
 .skip)))))
 (.seq (.ops [⟨some 14,.mov (.t 3),none⟩,
⟨some 15,.bin .add (.t 14) (.c (.int .i64 1)),none⟩,
⟨some 3,.mov (.t 15),none⟩])
 (.keep [1,3])))))))
 (.seq
 (.seq (.ops [⟨some 2,.mov (.c (.bool true)),none⟩])
 (.keep [2]))
 .ret)))),
 [(.slot 2)]⟩
def F_spec_l01In : Fun := ⟨3,
 (.seq
 (.seq (.ops [⟨some 6,.mov (.c (.bool false)),none⟩])
 (.keep [0,1,2]))
 (.seq
 (.seq (.ops [⟨some 7,.mov (.t 0),none⟩,
⟨some 8,.mov (.t 1),none⟩,
⟨some 9,.bin .geq (.t 7) (.t 8),none⟩,
⟨some 10,.mov (.t 9),none⟩,
⟨some 11,.mov (.t 0),some (10,true)⟩,
⟨some 12,.mov (.t 2),some (10,true)⟩,
⟨some 13,.bin .leq (.t 11) (.t 12),some (10,true)⟩,
⟨some 14,.pick (.t 10) (.t 13) (.c (.bool false)),none⟩,
⟨some 6,.mov (.t 14),none⟩])
 (.keep [6]))
 .ret)),
 [(.slot 6)]⟩
def F_spec_l11Nested : Fun := ⟨2,
 (.seq
 (.seq (.ops [⟨some 4,.mov (.c (.bool false)),none⟩])
 (.keep [0,1]))
 (.seq
 (.seq (.ops [⟨some 5,.mov (.c (.int .i64 0)),none⟩])
 (.keep [0,1,5]))
 (.seq
 (.seq
 (.seq (.ops [⟨some 6,.mov (.c (.int .i64 0)),none⟩])
 (.keep [0,1,5,6]))
 (.block 0
 (.loop
 (.seq
 (.seq
 (.seq (.ops [⟨some 7,.mov (.t 6),none⟩,
⟨some 8,.mov (.t 0),none⟩,
⟨some 9,.ln (.t 8),none⟩,
⟨some 10,.bin .lss (.t 7) (.t 9),none⟩])
 (.keep [0,1,5,6,10]))
 (.cond (.t 10)
 .skip
 (.exit 0)))
 (.seq
 (.block 1
 (.seq
 (.seq (.ops [⟨some 13,.mov (.t 1),none⟩,
⟨some 14,.mov (.t 0),none⟩,
⟨some 15,.mov (.t 6),none⟩,
⟨some 16,.ia 1 (.t 14) (.t 15),none⟩,
⟨some 17,.ld 1 false (.t 16),none⟩,
⟨some 18,.call n_spec_l03In [(.t 13),(.t 17)],none⟩])
 (.keep [0,1,5,6,18]))
 (.cond (.t 18)
 (.seq (.ops [⟨some 19,.mov (.t 5),none⟩,
⟨some 20,.bin .add (.t 19) (.c (.int .i64 1)),none⟩,
⟨some 5,.mov (.t 20),none⟩])
 (.keep [0,1,5,6]))
 .skip)))
 (.seq (.ops [⟨some 11,.mov (.t 6),none⟩,
⟨some 12,.bin .add (.t 11) (.c (.int .i64 1)),none⟩,
⟨some 6,.mov (.t 12),none⟩])
 (.keep [0,1,5,6])))))))
 (.seq
 (.seq (.ops [⟨some 21,.mov (.t 5),none⟩,
⟨some 22,.bin .eql (.t 21) (.c (.int .i64 0)),none⟩,
⟨some 23,.mov (.t 22),none⟩,
⟨some 24,.mov (.t 5),some (23,false)⟩,
⟨some 25,.mov (.t 0),some (23,false)⟩,
⟨some 26,.ln (.t 25),some (23,false)⟩,
⟨some 27,.bin .eql (.t 24) (.t 26),some (23,false)⟩,
⟨some 28,.pick (.t 23) (.c (.bool true)) (.t 27),none⟩,
⟨some 29,.mov (.t 28),none⟩,
⟨some 30,.mov (.t 5),some (29,false)⟩,
⟨some 31,.mov (.t 1),some (29,false)⟩,
⟨some 32,.ln (.t 31),some (29,false)⟩,
⟨some 33,.bin .eql (.t 30) (.t 32),some (29,false)⟩,
⟨some 34,.pick (.t 29) (.c (.bool true)) (.t 33),none⟩,
⟨some 4,.mov (.t 34),none⟩])
 (.keep [4]))
 .ret)))),
 [(.slot 4)]⟩
def F_spec_l11Slack : Fun := ⟨2,
 (.seq
 (.seq (.ops [⟨some 2,.boxL 2 (.t 0),none⟩,
⟨some 3,.boxL 5 (.t 1),none⟩,
⟨some 4,.mov (.c (.int .i64 0)),none⟩])
 (.keep [2,3]))
 (.seq
 (.seq (.free false [⟨some 7,.faB 0 2,none⟩,
⟨some 8,.ldE 1 false 2 7,none⟩,
⟨some 9,.faB 0 3,none⟩,
⟨some 10,.ldE 1 false 3 9,none⟩,
⟨some 11,.ia 1 (.t 8) (.t 10),none⟩,
⟨some 12,.ld 1 false (.t 11),none⟩,
⟨some 13,.faB 0 2,none⟩,
⟨some 14,.ldE 1 false 2 13,none⟩,
⟨some 15,.faB 1 3,none⟩,
⟨some 16,.ldE 1 false 3 15,none⟩,
⟨some 17,.ia 1 (.t 14) (.t 16),none⟩,
⟨some 18,.ld 1 false (.t 17),none⟩,
⟨some 19,.bin .add (.t 12) (.t 18),none⟩,
⟨some 20,.ldB 5 true 3,none⟩,
⟨some 21,.call n_spec_Scalar [(.t 20)],none⟩,
⟨some 22,.bin .mul (.c (.int .i64 2)) (.t 21),none⟩,
⟨some 23,.bin .sub (.t 19) (.t 22),none⟩,
⟨some 5,.mov (.t 23),none⟩])
 (.keep [2,3,5]))
 (.seq
 (.seq
 (.seq (.ops [⟨some 6,.mov (.c (.int .i64 0)),none⟩])
 (.keep [2,3,5,6]))
 (.block 0
 (.loop
 (.seq
 (.seq
 (.seq (.ops [⟨some 24,.mov (.t 6),none⟩,
⟨some 25,.faB 1 2,none⟩,
⟨some 26,.ldE 1 false 2 25,none⟩,
⟨some 27,.ln (.t 26),none⟩,
⟨some 28,.bin .lss (.t 24) (.t 27),none⟩])
 (.keep [2,3,5,6,28]))
 (.cond (.t 28)
 .skip
 (.exit 0)))
 (.seq
 (.block 1
 (.seq
 (.seq (.free true [⟨some 31,.faB 1 2,none⟩,
⟨some 32,.ldE 1 false 2 31,none⟩,
⟨some 33,.mov (.t 6),none⟩,
⟨some 34,.ia 2 (.t 32) (.t 33),none⟩,
⟨some 35,.fa 0 (.t 34),none⟩,
⟨some 36,.ld 1 false (.t 35),none⟩,
⟨some 37,.faB 0 3,none⟩,
⟨some 38,.ldE 1 false 3 37,none⟩,
⟨some 39,.call n_spec_l03In [(.t 36),(.t 38)],none⟩,
⟨some 40,.mov (.t 39),none⟩,
⟨some 41,.faB 1 2,some (40,true)⟩,
⟨some 42,.ldE 1 false 2 41,some (40,true)⟩,
⟨some 43,.mov (.t 6),some (40,true)⟩,
⟨some 44,.ia 2 (.t 42) (.t 43),some (40,true)⟩,
⟨some 45,.fa 0 (.t 44),some (40,true)⟩,
⟨some 46,.ld 1 false (.t 45),some (40,true)⟩,
⟨some 47,.faB 1 3,some (40,true)⟩,
⟨some 48,.ldE 1 false 3 47,some (40,true)⟩,
⟨some 49,.call n_spec_l03In [(.t 46),(.t 48)],some (40,true)⟩,
⟨some 50,.pick (.t 40) (.t 49) (.c (.bool false)),none⟩])
 (.keep [2,3,5,6,50]))
 (.cond (.t 50)
 (.seq (.ops [⟨some 51,.mov (.t 5),none⟩,
⟨some 52,.faB 1 2,none⟩,
⟨some 53,.ldE 1 false 2 52,none⟩,
⟨some 54,.mov (.t 6),none⟩,
⟨some 55,.ia 2 (.t 53) (.t 54),none⟩,
⟨some 56,.fa 1 (.t 55),none⟩,
⟨some 57,.ld 1 false (.t 56),none⟩,
⟨some 58,.bin .add (.t 51) (.t 57),none⟩,
⟨some 5,.mov (.t 58),none⟩])
 (.keep [2,3,5,6]))
 .skip)))
 (.seq (.ops [⟨some 29,.mov (.t 6),none⟩,
⟨some 30,.bin .add (.t 29) (.c (.int .i64 1)),none⟩,
⟨some 6,.mov (.t 30),none⟩])
 (.keep [2,3,5,6])))))))
 (.seq
 (.seq (.ops [⟨some 59,.mov (.t 5),none⟩,
⟨some 4,.mov (.t 59),none⟩])
 (.keep [4]))
 .ret)))),
 [(.slot 4)]⟩
def F_impl_weight : Fun := ⟨1,
 (.seq
 (.seq (.ops [⟨some 1,.boxL 2 (.t 0),none⟩,
⟨some 2,.mov (.c (.int .i64 0)),none⟩])
 (.keep [1]))
 (.seq
 (.seq (.ops [⟨some 3,.mov (.c (.int .i64 0)),none⟩])
 (.keep [1,3]))
 (.seq
 (.seq
 (.seq (.ops [⟨some 8,.faB 0 1,none⟩,
⟨some 9,.ldE 1 false 1 8,none⟩,
⟨some 10,.ln (.t 9),none⟩,
⟨some 11,.mov (.c (.int .i64 0)),none⟩])
 (.keep [1,3,9,10,11]))
 (.block 0
 (.loop
 (.seq
 (.seq (.ops [⟨some 12,.bin .lss (.t 11) (.t 10),none⟩])
 (.keep [1,3,9,10,11,12]))
 (.seq
 (.cond (.t 12)
 .skip
 (.exit 0))
 (.seq
 (.block 1
 (.seq
 (.seq (.ops [⟨some 13,.ia 1 (.t 9) (.t 11),none⟩,
⟨some 14,.ld 1 false (.t 13),none⟩,
⟨some 5,.mov (.t 14),none⟩])
 (.keep [1,3,5,9,10,11]))
 (.seq (.ops [⟨some 15,.mov (.t 3),none⟩,
⟨some 16,.mov (.t 5),none⟩,
⟨some 17,.bin .add (.t 15) (.t 16),none⟩,
⟨some 3,.mov (.t 17),none⟩])
 (.keep [1,3,9,10,11]))))
 (.seq (.ops [⟨some 18,.bin .add (.t 11) (.c (.int .i64 1)),none⟩,
⟨some 11,.mov (.t 18),none⟩])
 (.keep [1,3,9,10,11]))))))))
 (.seq
 (.seq
 (.seq (.ops [⟨some 19,.faB 1 1,none⟩,
⟨some 20,.ldE 1 false 1 19,none⟩,
⟨some 21,.ln (.t 20),none⟩,
⟨some 22,.mov (.c (.int .i64 0)),none⟩])
 (.keep [3,20,21,22]))
 (.block 2
 (.loop
 (.seq
 (.seq (.ops [⟨some 23,.bin .lss (.t 22) (.t 21),none⟩])
 (.keep [3,20,21,22,23]))
 (.seq
 (.cond (.t 23)
 .skip
 (.exit 2))
 (.seq
 (.block 3
 (.seq
 (.seq (.ops [⟨some 24,.ia 2 (.t 20) (.t 22),none⟩,
⟨some 25,.ld 2 true (.t 24),none⟩,
⟨some 7,.newL [(.slice none 0 0),(.int .i64 0)],none⟩,
⟨none,.stB 2 7 (.t 25),none⟩])
 (.keep [3,7,20,21,22]))
 (.seq (.ops [⟨some 26,.mov (.t 3),none⟩,
⟨some 27,.faB 1 7,none⟩,
⟨some 28,.ldE 1 false 7 27,none⟩,
⟨some 29,.faB 0 7,none⟩,
⟨some 30,.ldE 1 false 7 29,none⟩,
⟨some 31,.ln (.t 30),none⟩,
⟨some 32,.bin .sub (.t 31) (.c (.int .i64 1)),none⟩,
⟨some 33,.bin .quo (.t 32) (.c (.int .i64 2)),none⟩,
⟨some 34,.bin .mul (.t 28) (.t 33),none⟩,
⟨some 35,.bin .add (.t 26) (.t 34),none⟩,
⟨some 3,.mov (.t 35),none⟩])
 (.keep [3,20,21,22]))))
 (.seq (.ops [⟨some 36,.bin .add (.t 22) (.c (.int .i64 1)),none⟩,
⟨some 22,.mov (.t 36),none⟩])
 (.keep [3,20,21,22]))))))))
 (.seq
 (.seq (.ops [⟨some 37,.mov (.t 3),none⟩,
⟨some 2,.mov (.t 37),none⟩])
 (.keep [2]))
 .ret))))),
 [(.slot 2)]⟩
def F_spec_l09Best : Fun := ⟨3,
 (.seq
 (.seq (.ops [⟨some 3,.boxL 2 (.t 0),none⟩,
⟨some 6,.newL [(.int .i64 0),(.int .i64 0),(.int .i64 0)],none⟩,
⟨some 7,.mov (.c (.int .i64 0)),none⟩])
 (.keep [1,2,3,6]))
 (.seq
 (.block 0
 (.loop
 (.seq
 (.seq
 (.seq (.ops [⟨some 15,.mov (.t 1),none⟩,
⟨some 16,.faB 0 3,none⟩,
⟨some 17,.ldE 1 false 3 16,none⟩,
⟨some 18,.bin .lss (.t 15) (.t 17),none⟩,
⟨some 19,.mov (.t 18),none⟩,
⟨some 20,.mov (.t 2),some (19,true)⟩,
⟨some 21,.mov (.t 1),some (19,true)⟩,
⟨some 22,.call n_spec_l03In [(.t 20),(.t 21)],some (19,true)⟩,
⟨some 23,.pick (.t 19) (.t 22) (.c (.bool false)),none⟩])
 (.keep [1,2,3,6,23]))
 (.cond (.t 23)
 .skip
 (.exit 0)))
 (.block 1
 (.seq (.ops [⟨some 24,.mov (.t 1),none⟩,
⟨some 25,.bin .add (.t 24) (.c (.int .i64 1)),none⟩,
⟨some 1,.mov (.t 25),none⟩])
 (.keep [1,2,3,6]))))))
 (.seq
 (.seq
 (.seq (.ops [⟨some 26,.mov (.t 1),none⟩,
⟨some 27,.faB 0 3,none⟩,
⟨some 28,.ldE 1 false 3 27,none⟩,
⟨some 29,.bin .geq (.t 26) (.t 28),none⟩])
 (.keep [1,2,3,6,29]))
 (.cond (.t 29)
 (.seq
 (.seq (.ops [⟨some 30,.bld [(.int .i64 0),(.int .i64 0),(.int .i64 0)] [],none⟩,
⟨none,.stB 3 6 (.t 30),none⟩,
⟨some 7,.mov (.c (.int .i64 1)),none⟩])
 (.keep [6,7]))
 .ret)
 .skip))
 (.seq
 (.seq (.ops [⟨some 32,.ldB 2 true 3,none⟩,
⟨some 33,.mov (.t 1),none⟩,
⟨some 34,.bin .add (.t 33) (.c (.int .i64 1)),none⟩,
⟨some 35,.mov (.t 2),none⟩,
⟨some 36,.call n_spec_l09Best [(.t 32),(.t 34),(.t 35)],none⟩,
⟨some 31,.mov (.t 36),none⟩,
⟨some 37,.ext 0 (.t 31),none⟩,
⟨some 38,.ext 1 (.t 31),none⟩,
⟨some 8,.newL [(.int .i64 0),(.int .i64 0),(.int .i64 0)],none⟩,
⟨none,.stB 3 8 (.t 37),none⟩,
⟨some 9,.mov (.t 38),none⟩])
 (.keep [1,2,3,6,8,9]))
 (.seq
 (.seq
 (.seq (.ops [⟨some 39,.mov (.t 1),none⟩,
⟨some 40,.bin .add (.t 39) (.c (.int .i64 1)),none⟩,
⟨some 10,.mov (.t 40),none⟩])
 (.keep [1,2,3,6,8,9,10]))
 (.block 2
 (.loop
 (.seq
 (.seq
 (.seq (.ops [⟨some 41,.mov (.t 10),none⟩,
⟨some 42,.faB 0 3,none⟩,
⟨some 43,.ldE 1 false 3 42,none⟩,
⟨some 44,.bin .lss (.t 41) (.t 43),none⟩])
 (.keep [1,2,3,6,8,9,10,44]))
 (.cond (.t 44)
 .skip
 (.exit 2)))
 (.seq
 (.block 3
 (.seq
 (.seq (.ops [⟨some 47,.ldB 2 true 3,none⟩,
⟨some 48,.mov (.t 1),none⟩,
⟨some 49,.mov (.t 10),none⟩,
⟨some 50,.call n_spec_l08At [(.t 47),(.t 48),(.t 49)],none⟩,
⟨some 11,.mov (.t 50),none⟩])
 (.keep [1,2,3,6,8,9,10,11]))
 (.seq
 (.seq
 (.seq (.ops [⟨some 51,.mov (.t 11),none⟩,
⟨some 52,.bin .lss (.t 51) (.c (.int .i64 0)),none⟩,
⟨some 53,.mov (.t 52),none⟩,
⟨some 54,.mov (.t 2),some (53,false)⟩,
⟨some 55,.mov (.t 10),some (53,false)⟩,
⟨some 56,.call n_spec_l03In [(.t 54),(.t 55)],some (53,false)⟩,
⟨some 57,.pick (.t 53) (.c (.bool true)) (.t 56),none⟩])
 (.keep [1,2,3,6,8,9,10,11,57]))
 (.cond (.t 57)
 (.exit 3)
 .skip))
 (.seq
 (.seq (.free true [⟨some 59,.ldB 2 true 3,none⟩,
⟨some 60,.mov (.t 1),none⟩,
⟨some 61,.bin .add (.t 60) (.c (.int .i64 1)),none⟩,
⟨some 62,.lit 0 1 y_int [(.int .i64 0)] [],none⟩,
⟨some 63,.mov (.t 2),none⟩,
⟨some 64,.app 1 y_int 8 (.t 62) (.t 63),none⟩,
⟨some 65,.mov (.t 10),none⟩,
⟨some 66,.litL 1 1 [(.int .i64 0)] [(0,(.t 65))],none⟩,
⟨some 67,.appL 1 y_int 8 1 (.t 64) 66,none⟩,
⟨some 68,.call n_spec_l09Best [(.t 59),(.t 61),(.t 67)],none⟩,
⟨some 58,.mov (.t 68),none⟩,
⟨some 69,.ext 0 (.t 58),none⟩,
⟨some 70,.ext 1 (.t 58),none⟩,
⟨some 12,.newL [(.int .i64 0),(.int .i64 0),(.int .i64 0)],none⟩,
⟨none,.stB 3 12 (.t 69),none⟩,
⟨some 13,.mov (.t 70),none⟩])
 (.keep [1,2,3,6,8,9,10,11,12,13]))
 (.seq
 (.seq (.ops [⟨some 71,.faB 1 3,none⟩,
⟨some 72,.ldE 1 false 3 71,none⟩,
⟨some 73,.mov (.t 11),none⟩,
⟨some 74,.ia 5 (.t 72) (.t 73),none⟩,
⟨some 75,.ld 5 true (.t 74),none⟩,
⟨some 14,.newL [(.int .i64 0),(.int .i64 0),(.int .i64 0),(.int .i64 0),(.int .i64 0)],none⟩,
⟨none,.stB 5 14 (.t 75),none⟩])
 (.keep [1,2,3,6,8,9,10,12,13,14]))
 (.seq
 (.seq (.ops [⟨some 76,.faB 0 12,none⟩,
⟨some 77,.ldE 1 false 12 76,none⟩,
⟨some 78,.faB 2 14,none⟩,
⟨some 79,.ldE 1 false 14 78,none⟩,
⟨some 80,.bin .add (.t 77) (.t 79),none⟩,
⟨some 81,.faB 0 12,none⟩,
⟨none,.stE 1 12 81 (.t 80),none⟩])
 (.keep [1,2,3,6,8,9,10,12,13,14]))
 (.seq
 (.seq (.ops [⟨some 82,.faB 1 12,none⟩,
⟨some 83,.ldE 1 false 12 82,none⟩,
⟨some 84,.faB 3 14,none⟩,
⟨some 85,.ldE 1 false 14 84,none⟩,
⟨some 86,.bin .add (.t 83) (.t 85),none⟩,
⟨some 87,.faB 1 12,none⟩,
⟨none,.stE 1 12 87 (.t 86),none⟩])
 (.keep [1,2,3,6,8,9,10,12,13,14]))
 (.seq
 (.seq (.ops [⟨some 88,.faB 2 12,none⟩,
⟨some 89,.ldE 1 false 12 88,none⟩,
⟨some 90,.faB 4 14,none⟩,
⟨some 91,.ldE 1 false 14 90,none⟩,
⟨some 92,.bin .add (.t 89) (.t 91),none⟩,
⟨some 93,.faB 2 12,none⟩,
⟨none,.stE 1 12 93 (.t 92),none⟩])
 (.keep [1,2,3,6,8,9,10,12,13]))
 (.seq
 (.seq (.ops [⟨some 94,.mov (.t 9),none⟩,
⟨some 95,.mov (.t 13),none⟩,
⟨some 96,.bin .add (.t 94) (.t 95),none⟩,
⟨some 9,.mov (.t 96),none⟩])
 (.keep [1,2,3,6,8,9,10,12]))
 (.seq
 (.seq (.ops [⟨some 97,.ldB 3 true 12,none⟩,
⟨some 98,.ldB 3 true 8,none⟩,
⟨some 99,.call n_spec_Better [(.t 97),(.t 98)],none⟩])
 (.keep [1,2,3,6,8,9,10,12,99]))
 (.cond (.t 99)
 (.seq (.ops [⟨some 100,.ldB 3 true 12,none⟩,
⟨none,.stB 3 8 (.t 100),none⟩])
 (.keep [1,2,3,6,8,9,10]))
 .skip)))))))))))
 (.seq (.ops [⟨some 45,.mov (.t 10),none⟩,
⟨some 46,.bin .add (.t 45) (.c (.int .i64 1)),none⟩,
⟨some 10,.mov (.t 46),none⟩])
 (.keep [1,2,3,6,8,9,10])))))))
 (.seq
 (.seq (.ops [⟨some 101,.ldB 3 true 8,none⟩,
⟨some 102,.mov (.t 9),none⟩,
⟨none,.stB 3 6 (.t 101),none⟩,
⟨some 7,.mov (.t 102),none⟩])
 (.keep [6,7]))
 .ret)))))),
 [(.box 6 3 true),(.slot 7)]⟩
def F_spec_l09Match : Fun := ⟨2,
 (.seq
 (.seq (.ops [⟨some 3,.boxL 2 (.t 1),none⟩,
⟨some 4,.mov (.c (.slice none 0 0)),none⟩])
 (.keep [0,3]))
 (.seq
 (.seq (.ops [⟨some 9,.lit 0 2 y_Couple [(.int .i64 0),(.int .i64 0)] [],none⟩,
⟨some 5,.mov (.t 9),none⟩])
 (.keep [0,3,5]))
 (.seq
 (.seq (.ops [⟨some 10,.lit 0 1 y_int [(.int .i64 0)] [],none⟩,
⟨some 6,.mov (.t 10),none⟩])
 (.keep [0,3,5,6]))
 (.seq
 (.seq
 (.seq (.ops [⟨some 7,.mov (.c (.int .i64 0)),none⟩])
 (.keep [0,3,5,6,7]))
 (.block 0
 (.loop
 (.seq
 (.seq
 (.seq (.ops [⟨some 11,.mov (.t 7),none⟩,
⟨some 12,.faB 1 3,none⟩,
⟨some 13,.ldE 1 false 3 12,none⟩,
⟨some 14,.ln (.t 13),none⟩,
⟨some 15,.bin .lss (.t 11) (.t 14),none⟩])
 (.keep [0,3,5,6,7,15]))
 (.cond (.t 15)
 .skip
 (.exit 0)))
 (.seq
 (.block 1
 (.seq
 (.seq (.ops [⟨some 18,.faB 1 3,none⟩,
⟨some 19,.ldE 1 false 3 18,none⟩,
⟨some 20,.mov (.t 7),none⟩,
⟨some 21,.ia 5 (.t 19) (.t 20),none⟩,
⟨some 22,.ld 5 true (.t 21),none⟩,
⟨some 8,.newL [(.int .i64 0),(.int .i64 0),(.int .i64 0),(.int .i64 0),(.int .i64 0)],none⟩,
⟨none,.stB 5 8 (.t 22),none⟩])
 (.keep [0,3,5,6,7,8]))
 (.seq
 (.seq (.free true [⟨some 23,.mov (.t 0),none⟩,
⟨some 24,.call n_spec_l01Once [(.t 23),(.c (.int .i64 3))],none⟩,
⟨some 25,.mov (.t 24),none⟩,
⟨some 26,.mov (.t 6),some (25,true)⟩,
⟨some 27,.faB 0 8,some (25,true)⟩,
⟨some 28,.ldE 1 false 8 27,some (25,true)⟩,
⟨some 29,.call n_spec_l03In [(.t 26),(.t 28)],some (25,true)⟩,
⟨some 30,.un .not (.t 29),some (25,true)⟩,
⟨some 31,.pick (.t 25) (.t 30) (.c (.bool false)),none⟩,
⟨some 32,.mov (.t 31),none⟩,
⟨some 33,.mov (.t 6),some (32,true)⟩,
⟨some 34,.faB 1 8,some (32,true)⟩,
⟨some 35,.ldE 1 false 8 34,some (32,true)⟩,
⟨some 36,.call n_spec_l03In [(.t 33),(.t 35)],some (32,true)⟩,
⟨some 37,.un .not (.t 36),some (32,true)⟩,
⟨some 38,.pick (.t 32) (.t 37) (.c (.bool false)),none⟩,
⟨some 39,.mov (.t 38),none⟩,
⟨some 40,.mov (.t 5),some (39,true)⟩,
⟨some 41,.ln (.t 40),some (39,true)⟩,
⟨some 42,.bin .eql (.t 41) (.c (.int .i64 0)),some (39,true)⟩,
⟨some 43,.mov (.t 42),some (39,true)⟩,
⟨some 44,.mov (.t 5),some (43,false)⟩,
⟨some 45,.mov (.t 5),some (43,false)⟩,
⟨some 46,.ln (.t 45),some (43,false)⟩,
⟨some 47,.bin .sub (.t 46) (.c (.int .i64 1)),some (43,false)⟩,
⟨some 48,.ia 2 (.t 44) (.t 47),some (43,false)⟩,
⟨some 49,.fa 0 (.t 48),some (43,false)⟩,
⟨some 50,.ld 1 false (.t 49),some (43,false)⟩,
⟨some 51,.faB 0 8,some (43,false)⟩,
⟨some 52,.ldE 1 false 8 51,some (43,false)⟩,
⟨some 53,.bin .lss (.t 50) (.t 52),some (43,false)⟩,
⟨some 54,.pick (.t 43) (.c (.bool true)) (.t 53),some (39,true)⟩,
⟨some 55,.pick (.t 39) (.t 54) (.c (.bool false)),none⟩])
 (.keep [0,3,5,6,7,8,55]))
 (.cond (.t 55)
 (.seq
 (.seq (.ops [⟨some 56,.mov (.t 5),none⟩,
⟨some 57,.faB 0 8,none⟩,
⟨some 58,.ldE 1 false 8 57,none⟩,
⟨some 59,.faB 1 8,none⟩,
⟨some 60,.ldE 1 false 8 59,none⟩,
⟨some 61,.bld [(.int .i64 0),(.int .i64 0)] [(0,(1,(.t 58))),(1,(1,(.t 60)))],none⟩,
⟨some 62,.litL 1 2 [(.int .i64 0),(.int .i64 0)] [(0,(.t 61))],none⟩,
⟨some 63,.appL 2 y_Couple 16 1 (.t 56) 62,none⟩,
⟨some 5,.mov (.t 63),none⟩])
 (.keep [0,3,5,6,7,8]))
 (.seq (.ops [⟨some 64,.mov (.t 6),none⟩,
⟨some 65,.faB 0 8,none⟩,
⟨some 66,.ldE 1 false 8 65,none⟩,
⟨some 67,.faB 1 8,none⟩,
⟨some 68,.ldE 1 false 8 67,none⟩,
⟨some 69,.litL 2 1 [(.int .i64 0)] [(0,(.t 66)),(1,(.t 68))],none⟩,
⟨some 70,.appL 1 y_int 8 2 (.t 64) 69,none⟩,
⟨some 6,.mov (.t 70),none⟩])
 (.keep [0,3,5,6,7])))
 .skip))))
 (.seq (.ops [⟨some 16,.mov (.t 7),none⟩,
⟨some 17,.bin .add (.t 16) (.c (.int .i64 1)),none⟩,
⟨some 7,.mov (.t 17),none⟩])
 (.keep [0,3,5,6,7])))))))
 (.seq
 (.seq
 (.seq (.ops [⟨some 71,.mov (.t 0),none⟩,
⟨some 72,.call n_spec_l01Once [(.t 71),(.c (.int .i64 15))],none⟩])
 (.keep [0,5,72]))
 (.cond (.t 72)
 (.seq (.ops [⟨some 73,.mov (.t 5),none⟩,
⟨some 74,.mov (.t 0),none⟩,
⟨some 75,.call n_spec_l01Below [(.t 74),(.c (.int .i64 9))],none⟩,
⟨some 76,.mov (.t 0),none⟩,
⟨some 77,.call n_spec_l01Below [(.t 76),(.c (.int .i64 10))],none⟩,
⟨some 78,.bld [(.int .i64 0),(.int .i64 0)] [(0,(1,(.t 75))),(1,(1,(.t 77)))],none⟩,
⟨some 79,.litL 1 2 [(.int .i64 0),(.int .i64 0)] [(0,(.t 78))],none⟩,
⟨some 80,.appL 2 y_Couple 16 1 (.t 73) 79,none⟩,
⟨some 5,.mov (.t 80),none⟩])
 (.keep [5]))
 .skip))
 (.seq
 (.seq (.ops [⟨some 81,.mov (.t 5),none⟩,
⟨some 4,.mov (.t 81),none⟩])
 (.keep [4]))
 .ret)))))),
 [(.slot 4)]⟩
def F_spec_l10Solve : Fun := ⟨1,
 (.seq
 (.seq (.ops [⟨some 1,.boxL 2 (.t 0),none⟩,
⟨some 2,.mov (.c (.pointer none)),none⟩])
 (.keep [1]))
 (.seq
 (.seq (.free true [⟨some 7,.ldB 2 true 1,none⟩,
⟨some 8,.faB 0 1,none⟩,
⟨some 9,.ldE 1 false 1 8,none⟩,
⟨some 10,.mk 1 y_int 8 [(.int .i64 0)] (.t 9),none⟩,
⟨some 11,.bld [(.int .i64 0),(.slice none 0 0),(.slice none 0 0),(.slice none 0 0),(.slice none 0 0),(.int .i64 0),(.bool false)] [(0,(2,(.t 7))),(2,(1,(.t 10)))],none⟩,
⟨some 12,.bx y_l10Run 7 (.t 11),none⟩,
⟨some 3,.mov (.t 12),none⟩])
 (.keep [1,3]))
 (.seq
 (.seq (.ops [⟨some 4,.mov (.c (.int .i64 0)),none⟩])
 (.keep [1,3,4]))
 (.seq
 (.seq
 (.seq (.ops [⟨some 5,.mov (.c (.int .i64 0)),none⟩])
 (.keep [1,3,4,5]))
 (.block 0
 (.loop
 (.seq
 (.seq
 (.seq (.ops [⟨some 13,.mov (.t 5),none⟩,
⟨some 14,.faB 1 1,none⟩,
⟨some 15,.ldE 1 false 1 14,none⟩,
⟨some 16,.ln (.t 15),none⟩,
⟨some 17,.bin .lss (.t 13) (.t 16),none⟩])
 (.keep [1,3,4,5,17]))
 (.cond (.t 17)
 .skip
 (.exit 0)))
 (.seq
 (.block 1
 (.seq
 (.seq (.ops [⟨some 20,.faB 1 1,none⟩,
⟨some 21,.ldE 1 false 1 20,none⟩,
⟨some 22,.mov (.t 5),none⟩,
⟨some 23,.ia 5 (.t 21) (.t 22),none⟩,
⟨some 24,.ld 5 true (.t 23),none⟩,
⟨some 25,.call n_spec_Scalar [(.t 24)],none⟩,
⟨some 26,.mov (.t 4),none⟩,
⟨some 27,.bin .gtr (.t 25) (.t 26),none⟩])
 (.keep [1,3,4,5,27]))
 (.cond (.t 27)
 (.seq (.ops [⟨some 28,.faB 1 1,none⟩,
⟨some 29,.ldE 1 false 1 28,none⟩,
⟨some 30,.mov (.t 5),none⟩,
⟨some 31,.ia 5 (.t 29) (.t 30),none⟩,
⟨some 32,.ld 5 true (.t 31),none⟩,
⟨some 33,.call n_spec_Scalar [(.t 32)],none⟩,
⟨some 4,.mov (.t 33),none⟩])
 (.keep [1,3,4,5]))
 .skip)))
 (.seq (.ops [⟨some 18,.mov (.t 5),none⟩,
⟨some 19,.bin .add (.t 18) (.c (.int .i64 1)),none⟩,
⟨some 5,.mov (.t 19),none⟩])
 (.keep [1,3,4,5])))))))
 (.seq
 (.seq
 (.seq (.ops [⟨some 6,.mov (.c (.int .i64 0)),none⟩])
 (.keep [1,3,4,6]))
 (.block 2
 (.loop
 (.seq
 (.seq
 (.seq (.ops [⟨some 34,.mov (.t 6),none⟩,
⟨some 35,.faB 0 1,none⟩,
⟨some 36,.ldE 1 false 1 35,none⟩,
⟨some 37,.bin .lss (.t 34) (.t 36),none⟩])
 (.keep [1,3,4,6,37]))
 (.cond (.t 37)
 .skip
 (.exit 2)))
 (.seq
 (.block 3
 (.seq
 (.seq (.ops [⟨some 40,.mov (.t 3),none⟩,
⟨some 41,.chk (.t 40),none⟩,
⟨some 42,.fa 2 (.t 41),none⟩,
⟨some 43,.ld 1 false (.t 42),none⟩,
⟨some 44,.mov (.t 6),none⟩,
⟨some 45,.mov (.t 4),none⟩,
⟨some 46,.ia 1 (.t 43) (.t 44),none⟩,
⟨none,.st 1 (.t 46) (.t 45),none⟩])
 (.keep [1,3,4,6]))
 (.seq (.ops [⟨some 47,.mov (.t 3),none⟩,
⟨some 48,.mov (.t 3),none⟩,
⟨some 49,.chk (.t 48),none⟩,
⟨some 50,.fa 3 (.t 49),none⟩,
⟨some 51,.ld 1 false (.t 50),none⟩,
⟨some 52,.mov (.t 6),none⟩,
⟨some 53,.bld [(.slice none 0 0),(.slice none 0 0),(.int .i64 0),(.int .i64 0),(.int .i64 0),(.bool false)] [(2,(1,(.t 52))),(4,(1,(.c (.int .i64 (-1)))))],none⟩,
⟨some 54,.litL 1 6 [(.slice none 0 0),(.slice none 0 0),(.int .i64 0),(.int .i64 0),(.int .i64 0),(.bool false)] [(0,(.t 53))],none⟩,
⟨some 55,.appL 6 y_l10Node 80 1 (.t 51) 54,none⟩,
⟨some 56,.chk (.t 47),none⟩,
⟨some 57,.fa 3 (.t 56),none⟩,
⟨none,.st 1 (.t 57) (.t 55),none⟩])
 (.keep [1,3,4,6]))))
 (.seq (.ops [⟨some 38,.mov (.t 6),none⟩,
⟨some 39,.bin .add (.t 38) (.c (.int .i64 1)),none⟩,
⟨some 6,.mov (.t 39),none⟩])
 (.keep [1,3,4,6])))))))
 (.seq
 (.block 4
 (.loop
 (.seq
 (.seq
 (.seq (.ops [⟨some 58,.mov (.t 3),none⟩,
⟨some 59,.chk (.t 58),none⟩,
⟨some 60,.fa 5 (.t 59),none⟩,
⟨some 61,.ld 1 false (.t 60),none⟩,
⟨some 62,.bin .lss (.t 61) (.c (.int .i64 20000)),none⟩,
⟨some 63,.mov (.t 62),none⟩,
⟨some 64,.mov (.t 3),some (63,true)⟩,
⟨some 65,.chk (.t 64),some (63,true)⟩,
⟨some 66,.fa 6 (.t 65),some (63,true)⟩,
⟨some 67,.ld 1 false (.t 66),some (63,true)⟩,
⟨some 68,.un .not (.t 67),some (63,true)⟩,
⟨some 69,.pick (.t 63) (.t 68) (.c (.bool false)),none⟩])
 (.keep [3,69]))
 (.cond (.t 69)
 .skip
 (.exit 4)))
 (.block 5
 (.seq
 (.seq (.ops [⟨some 70,.mov (.t 3),none⟩,
⟨some 71,.mov (.t 3),none⟩,
⟨some 72,.chk (.t 71),none⟩,
⟨some 73,.fa 5 (.t 72),none⟩,
⟨some 74,.ld 1 false (.t 73),none⟩,
⟨some 75,.bin .add (.t 74) (.c (.int .i64 1)),none⟩,
⟨some 76,.chk (.t 70),none⟩,
⟨some 77,.fa 5 (.t 76),none⟩,
⟨none,.st 1 (.t 77) (.t 75),none⟩])
 (.keep [3]))
 (.seq (.ops [⟨some 78,.mov (.t 3),none⟩,
⟨some 79,.call n_spec_l10Round [(.t 78)],none⟩])
 (.keep [3])))))))
 (.seq
 (.seq (.ops [⟨some 80,.mov (.t 3),none⟩,
⟨some 2,.mov (.t 80),none⟩])
 (.keep [2]))
 .ret))))))),
 [(.slot 2)]⟩
def F_spec_l10Groups : Fun := ⟨1,
 (.seq
 (.seq (.ops [⟨some 2,.mov (.c (.slice none 0 0)),none⟩])
 (.keep [0]))
 (.seq
 (.seq (.ops [⟨some 9,.lit 0 2 y_Group [(.slice none 0 0),(.int .i64 0)] [],none⟩,
⟨some 3,.mov (.t 9),none⟩])
 (.keep [0,3]))
 (.seq
 (.seq
 (.seq (.ops [⟨some 10,.mov (.t 0),none⟩,
⟨some 11,.chk (.t 10),none⟩,
⟨some 12,.fa 0 (.t 11),none⟩,
⟨some 13,.fa 0 (.t 12),none⟩,
⟨some 14,.ld 1 false (.t 13),none⟩,
⟨some 4,.mov (.t 14),none⟩])
 (.keep [0,3,4]))
 (.block 0
 (.loop
 (.seq
 (.seq
 (.seq (.ops [⟨some 15,.mov (.t 4),none⟩,
⟨some 16,.mov (.t 0),none⟩,
⟨some 17,.chk (.t 16),none⟩,
⟨some 18,.fa 3 (.t 17),none⟩,
⟨some 19,.ld 1 false (.t 18),none⟩,
⟨some 20,.ln (.t 19),none⟩,
⟨some 21,.bin .lss (.t 15) (.t 20),none⟩])
 (.keep [0,3,4,21]))
 (.cond (.t 21)
 .skip
 (.exit 0)))
 (.seq
 (.block 1
 (.seq
 (.seq
 (.seq (.ops [⟨some 24,.mov (.t 0),none⟩,
⟨some 25,.chk (.t 24),none⟩,
⟨some 26,.fa 3 (.t 25),none⟩,
⟨some 27,.ld 1 false (.t 26),none⟩,
⟨some 28,.mov (.t 4),none⟩,
⟨some 29,.ia 6 (.t 27) (.t 28),none⟩,
⟨some 30,.fa 5 (.t 29),none⟩,
⟨some 31,.ld 1 false (.t 30),none⟩,
⟨some 32,.mov (.t 31),none⟩,
⟨some 33,.mov (.t 0),some (32,false)⟩,
⟨some 34,.chk (.t 33),some (32,false)⟩,
⟨some 35,.fa 3 (.t 34),some (32,false)⟩,
⟨some 36,.ld 1 false (.t 35),some (32,false)⟩,
⟨some 37,.mov (.t 4),some (32,false)⟩,
⟨some 38,.ia 6 (.t 36) (.t 37),some (32,false)⟩,
⟨some 39,.fa 3 (.t 38),some (32,false)⟩,
⟨some 40,.ld 1 false (.t 39),some (32,false)⟩,
⟨some 41,.bin .leq (.t 40) (.c (.int .i64 0)),some (32,false)⟩,
⟨some 42,.pick (.t 32) (.c (.bool true)) (.t 41),none⟩])
 (.keep [0,3,4,42]))
 (.cond (.t 42)
 (.exit 1)
 .skip))
 (.seq
 (.seq (.ops [⟨some 43,.mov (.t 0),none⟩,
⟨some 44,.chk (.t 43),none⟩,
⟨some 45,.fa 3 (.t 44),none⟩,
⟨some 46,.ld 1 false (.t 45),none⟩,
⟨some 47,.mov (.t 4),none⟩,
⟨some 48,.ia 6 (.t 46) (.t 47),none⟩,
⟨some 49,.fa 3 (.t 48),none⟩,
⟨some 50,.ld 1 false (.t 49),none⟩,
⟨some 51,.bld [(.slice none 0 0),(.int .i64 0)] [(1,(1,(.t 50)))],none⟩,
⟨some 5,.newL [(.slice none 0 0),(.int .i64 0)],none⟩,
⟨none,.stB 2 5 (.t 51),none⟩])
 (.keep [0,3,4,5]))
 (.seq
 (.seq
 (.seq (.ops [⟨some 6,.mov (.c (.int .i64 0)),none⟩])
 (.keep [0,3,4,5,6]))
 (.block 2
 (.loop
 (.seq
 (.seq
 (.seq (.ops [⟨some 52,.mov (.t 6),none⟩,
⟨some 53,.mov (.t 0),none⟩,
⟨some 54,.chk (.t 53),none⟩,
⟨some 55,.fa 0 (.t 54),none⟩,
⟨some 56,.fa 0 (.t 55),none⟩,
⟨some 57,.ld 1 false (.t 56),none⟩,
⟨some 58,.bin .lss (.t 52) (.t 57),none⟩])
 (.keep [0,3,4,5,6,58]))
 (.cond (.t 58)
 .skip
 (.exit 2)))
 (.seq
 (.block 3
 (.seq
 (.seq (.ops [⟨some 61,.mov (.t 0),none⟩,
⟨some 62,.mov (.t 6),none⟩,
⟨some 63,.mov (.t 4),none⟩,
⟨some 64,.call n_spec_l10Within [(.t 61),(.t 62),(.t 63)],none⟩])
 (.keep [0,3,4,5,6,64]))
 (.cond (.t 64)
 (.seq (.ops [⟨some 65,.faB 0 5,none⟩,
⟨some 66,.ldE 1 false 5 65,none⟩,
⟨some 67,.mov (.t 6),none⟩,
⟨some 68,.litL 1 1 [(.int .i64 0)] [(0,(.t 67))],none⟩,
⟨some 69,.appL 1 y_int 8 1 (.t 66) 68,none⟩,
⟨some 70,.faB 0 5,none⟩,
⟨none,.stE 1 5 70 (.t 69),none⟩])
 (.keep [0,3,4,5,6]))
 .skip)))
 (.seq (.ops [⟨some 59,.mov (.t 6),none⟩,
⟨some 60,.bin .add (.t 59) (.c (.int .i64 1)),none⟩,
⟨some 6,.mov (.t 60),none⟩])
 (.keep [0,3,4,5,6])))))))
 (.seq
 (.seq (.ops [⟨some 71,.mov (.t 3),none⟩,
⟨some 72,.ln (.t 71),none⟩,
⟨some 7,.mov (.t 72),none⟩])
 (.keep [0,3,4,5,7]))
 (.seq
 (.block 4
 (.loop
 (.seq
 (.seq
 (.seq (.free true [⟨some 73,.mov (.t 7),none⟩,
⟨some 74,.bin .gtr (.t 73) (.c (.int .i64 0)),none⟩,
⟨some 75,.mov (.t 74),none⟩,
⟨some 76,.faB 0 5,some (75,true)⟩,
⟨some 77,.ldE 1 false 5 76,some (75,true)⟩,
⟨some 78,.mov (.t 3),some (75,true)⟩,
⟨some 79,.mov (.t 7),some (75,true)⟩,
⟨some 80,.bin .sub (.t 79) (.c (.int .i64 1)),some (75,true)⟩,
⟨some 81,.ia 2 (.t 78) (.t 80),some (75,true)⟩,
⟨some 82,.fa 0 (.t 81),some (75,true)⟩,
⟨some 83,.ld 1 false (.t 82),some (75,true)⟩,
⟨some 84,.call n_spec_l10Ahead [(.t 77),(.t 83)],some (75,true)⟩,
⟨some 85,.pick (.t 75) (.t 84) (.c (.bool false)),none⟩])
 (.keep [0,3,4,5,7,85]))
 (.cond (.t 85)
 .skip
 (.exit 4)))
 (.block 5
 (.seq (.ops [⟨some 86,.mov (.t 7),none⟩,
⟨some 87,.bin .sub (.t 86) (.c (.int .i64 1)),none⟩,
⟨some 7,.mov (.t 87),none⟩])
 (.keep [0,3,4,5,7]))))))
 (.seq
 (.seq (.ops [⟨some 88,.lit 0 2 y_Group [(.slice none 0 0),(.int .i64 0)] [],none⟩,
⟨some 89,.mov (.t 3),none⟩,
⟨some 90,.mov (.t 7),none⟩,
⟨some 91,.slL 2 (.t 89) none (some (.t 90)),none⟩,
⟨some 92,.app 2 y_Group 32 (.t 88) (.t 91),none⟩,
⟨some 8,.mov (.t 92),none⟩])
 (.keep [0,3,4,5,7,8]))
 (.seq
 (.seq (.ops [⟨some 93,.mov (.t 8),none⟩,
⟨some 94,.ldB 2 true 5,none⟩,
⟨some 95,.litL 1 2 [(.slice none 0 0),(.int .i64 0)] [(0,(.t 94))],none⟩,
⟨some 96,.appL 2 y_Group 32 1 (.t 93) 95,none⟩,
⟨some 8,.mov (.t 96),none⟩])
 (.keep [0,3,4,7,8]))
 (.seq (.ops [⟨some 97,.mov (.t 8),none⟩,
⟨some 98,.mov (.t 3),none⟩,
⟨some 99,.mov (.t 7),none⟩,
⟨some 100,.slL 2 (.t 98) (some (.t 99)) none,none⟩,
⟨some 101,.app 2 y_Group 32 (.t 97) (.t 100),none⟩,
⟨some 3,.mov (.t 101),none⟩])
 (.keep [0,3,4]))))))))))
 (.seq (.ops [⟨some 22,.mov (.t 4),none⟩,
⟨some 23,.bin .add (.t 22) (.c (.int .i64 1)),none⟩,
⟨some 4,.mov (.t 23),none⟩])
 (.keep [0,3,4])))))))
 (.seq
 (.seq (.ops [⟨some 102,.mov (.t 3),none⟩,
⟨some 2,.mov (.t 102),none⟩])
 (.keep [2]))
 .ret)))),
 [(.slot 2)]⟩
def F_spec_l10IsTop : Fun := ⟨2,
 (.seq
 (.seq (.ops [⟨some 4,.mov (.c (.bool false)),none⟩])
 (.keep [0,1]))
 (.seq
 (.seq (.ops [⟨some 5,.mov (.t 0),none⟩,
⟨some 6,.chk (.t 5),none⟩,
⟨some 7,.fa 3 (.t 6),none⟩,
⟨some 8,.ld 1 false (.t 7),none⟩,
⟨some 9,.mov (.t 1),none⟩,
⟨some 10,.ia 6 (.t 8) (.t 9),none⟩,
⟨some 11,.fa 5 (.t 10),none⟩,
⟨some 12,.ld 1 false (.t 11),none⟩,
⟨some 13,.un .not (.t 12),none⟩,
⟨some 14,.mov (.t 13),none⟩,
⟨some 15,.mov (.t 0),some (14,true)⟩,
⟨some 16,.chk (.t 15),some (14,true)⟩,
⟨some 17,.fa 3 (.t 16),some (14,true)⟩,
⟨some 18,.ld 1 false (.t 17),some (14,true)⟩,
⟨some 19,.mov (.t 1),some (14,true)⟩,
⟨some 20,.ia 6 (.t 18) (.t 19),some (14,true)⟩,
⟨some 21,.fa 4 (.t 20),some (14,true)⟩,
⟨some 22,.ld 1 false (.t 21),some (14,true)⟩,
⟨some 23,.bin .lss (.t 22) (.c (.int .i64 0)),some (14,true)⟩,
⟨some 24,.pick (.t 14) (.t 23) (.c (.bool false)),none⟩,
⟨some 4,.mov (.t 24),none⟩])
 (.keep [4]))
 .ret)),
 [(.slot 4)]⟩
def F_spec_l10Open : Fun := ⟨2,
 (.seq
 (.seq (.ops [⟨some 11,.mov (.t 0),none⟩,
⟨some 12,.mov (.t 1),none⟩,
⟨some 13,.call n_spec_l10Base [(.t 11),(.t 12)],none⟩,
⟨some 4,.mov (.t 13),none⟩])
 (.keep [0,1,4]))
 (.seq
 (.seq (.ops [⟨some 14,.mov (.t 0),none⟩,
⟨some 15,.chk (.t 14),none⟩,
⟨some 16,.fa 3 (.t 15),none⟩,
⟨some 17,.ld 1 false (.t 16),none⟩,
⟨some 18,.mov (.t 1),none⟩,
⟨some 19,.ia 6 (.t 17) (.t 18),none⟩,
⟨some 20,.ld 6 true (.t 19),none⟩,
⟨some 5,.newL [(.slice none 0 0),(.slice none 0 0),(.int .i64 0),(.int .i64 0),(.int .i64 0),(.bool false)],none⟩,
⟨none,.stB 6 5 (.t 20),none⟩])
 (.keep [0,1,4,5]))
 (.seq
 (.seq (.ops [⟨some 21,.faB 0 5,none⟩,
⟨some 22,.ldE 1 false 5 21,none⟩,
⟨some 23,.ln (.t 22),none⟩,
⟨some 6,.mov (.t 23),none⟩])
 (.keep [0,1,4,5,6]))
 (.seq
 (.seq (.ops [⟨some 7,.mov (.c (.int .i64 0)),none⟩])
 (.keep [0,1,4,5,6,7]))
 (.seq
 (.seq
 (.seq (.ops [⟨some 8,.mov (.c (.int .i64 0)),none⟩])
 (.keep [0,1,4,5,6,7,8]))
 (.block 0
 (.loop
 (.seq
 (.seq
 (.seq (.ops [⟨some 24,.mov (.t 8),none⟩,
⟨some 25,.mov (.t 6),none⟩,
⟨some 26,.bin .lss (.t 24) (.t 25),none⟩])
 (.keep [0,1,4,5,6,7,8,26]))
 (.cond (.t 26)
 .skip
 (.exit 0)))
 (.seq
 (.block 1
 (.seq
 (.seq (.ops [⟨some 29,.mov (.t 0),none⟩,
⟨some 30,.mov (.t 4),none⟩,
⟨some 31,.faB 0 5,none⟩,
⟨some 32,.ldE 1 false 5 31,none⟩,
⟨some 33,.mov (.t 8),none⟩,
⟨some 34,.ia 1 (.t 32) (.t 33),none⟩,
⟨some 35,.ld 1 false (.t 34),none⟩,
⟨some 36,.call n_spec_l10Within [(.t 29),(.t 30),(.t 35)],none⟩])
 (.keep [0,1,4,5,6,7,8,36]))
 (.cond (.t 36)
 (.seq (.ops [⟨some 37,.mov (.t 8),none⟩,
⟨some 7,.mov (.t 37),none⟩])
 (.keep [0,1,4,5,6,7,8]))
 .skip)))
 (.seq (.ops [⟨some 27,.mov (.t 8),none⟩,
⟨some 28,.bin .add (.t 27) (.c (.int .i64 1)),none⟩,
⟨some 8,.mov (.t 28),none⟩])
 (.keep [0,1,4,5,6,7,8])))))))
 (.seq
 (.seq
 (.seq (.ops [⟨some 9,.mov (.c (.int .i64 0)),none⟩])
 (.keep [0,1,5,6,7,9]))
 (.block 2
 (.loop
 (.seq
 (.seq
 (.seq (.ops [⟨some 38,.mov (.t 9),none⟩,
⟨some 39,.mov (.t 6),none⟩,
⟨some 40,.bin .lss (.t 38) (.t 39),none⟩])
 (.keep [0,1,5,6,7,9,40]))
 (.cond (.t 40)
 .skip
 (.exit 2)))
 (.seq
 (.block 3
 (.seq (.free true [⟨some 43,.mov (.t 0),none⟩,
⟨some 44,.chk (.t 43),none⟩,
⟨some 45,.fa 3 (.t 44),none⟩,
⟨some 46,.ld 1 false (.t 45),none⟩,
⟨some 47,.faB 0 5,none⟩,
⟨some 48,.ldE 1 false 5 47,none⟩,
⟨some 49,.mov (.t 9),none⟩,
⟨some 50,.ia 1 (.t 48) (.t 49),none⟩,
⟨some 51,.ld 1 false (.t 50),none⟩,
⟨some 52,.ia 6 (.t 46) (.t 51),none⟩,
⟨some 53,.fa 4 (.t 52),none⟩,
⟨none,.st 1 (.t 53) (.c (.int .i64 (-1))),none⟩])
 (.keep [0,1,5,6,7,9])))
 (.seq (.ops [⟨some 41,.mov (.t 9),none⟩,
⟨some 42,.bin .add (.t 41) (.c (.int .i64 1)),none⟩,
⟨some 9,.mov (.t 42),none⟩])
 (.keep [0,1,5,6,7,9])))))))
 (.seq
 (.seq (.ops [⟨some 54,.mov (.t 0),none⟩,
⟨some 55,.chk (.t 54),none⟩,
⟨some 56,.fa 3 (.t 55),none⟩,
⟨some 57,.ld 1 false (.t 56),none⟩,
⟨some 58,.mov (.t 1),none⟩,
⟨some 59,.ia 6 (.t 57) (.t 58),none⟩,
⟨some 60,.fa 5 (.t 59),none⟩,
⟨none,.st 1 (.t 60) (.c (.bool true)),none⟩])
 (.keep [0,5,6,7]))
 (.seq
 (.seq (.ops [⟨some 10,.mov (.c (.int .i64 1)),none⟩])
 (.keep [0,5,6,7,10]))
 (.block 4
 (.loop
 (.seq
 (.seq
 (.seq (.ops [⟨some 61,.mov (.t 10),none⟩,
⟨some 62,.mov (.t 6),none⟩,
⟨some 63,.bin .lss (.t 61) (.t 62),none⟩])
 (.keep [0,5,6,7,10,63]))
 (.cond (.t 63)
 .skip
 (.exit 4)))
 (.seq
 (.block 5
 (.seq (.free true [⟨some 66,.mov (.t 0),none⟩,
⟨some 67,.mov (.t 0),none⟩,
⟨some 68,.chk (.t 67),none⟩,
⟨some 69,.fa 4 (.t 68),none⟩,
⟨some 70,.ld 1 false (.t 69),none⟩,
⟨some 71,.faB 1 5,none⟩,
⟨some 72,.ldE 1 false 5 71,none⟩,
⟨some 73,.mov (.t 7),none⟩,
⟨some 74,.mov (.t 10),none⟩,
⟨some 75,.bin .add (.t 73) (.t 74),none⟩,
⟨some 76,.mov (.t 6),none⟩,
⟨some 77,.bin .rem (.t 75) (.t 76),none⟩,
⟨some 78,.ia 2 (.t 72) (.t 77),none⟩,
⟨some 79,.ld 2 true (.t 78),none⟩,
⟨some 80,.litL 1 2 [(.int .i64 0),(.int .i64 0)] [(0,(.t 79))],none⟩,
⟨some 81,.appL 2 y_l10Link 16 1 (.t 70) 80,none⟩,
⟨some 82,.chk (.t 66),none⟩,
⟨some 83,.fa 4 (.t 82),none⟩,
⟨none,.st 1 (.t 83) (.t 81),none⟩])
 (.keep [0,5,6,7,10])))
 (.seq (.ops [⟨some 64,.mov (.t 10),none⟩,
⟨some 65,.bin .add (.t 64) (.c (.int .i64 2)),none⟩,
⟨some 10,.mov (.t 65),none⟩])
 (.keep [0,5,6,7,10])))))))))))))),
 []⟩
def F_impl_MatchOk : Fun := ⟨2,
 (.seq
 (.seq (.ops [⟨some 2,.boxL 2 (.t 0),none⟩,
⟨some 4,.mov (.c (.bool false)),none⟩])
 (.keep [1,2]))
 (.seq
 (.seq
 (.seq (.ops [⟨some 8,.ldB 2 true 2,none⟩,
⟨some 9,.call n_impl_GraphOk [(.t 8)],none⟩,
⟨some 10,.un .not (.t 9),none⟩])
 (.keep [1,2,10]))
 (.cond (.t 10)
 (.seq
 (.seq (.ops [⟨some 4,.mov (.c (.bool false)),none⟩])
 (.keep [4]))
 .ret)
 .skip))
 (.seq
 (.seq (.ops [⟨some 5,.mov (.c (.slice none 0 0)),none⟩])
 (.keep [1,2,5]))
 (.seq
 (.seq
 (.seq (.ops [⟨some 11,.mov (.t 1),none⟩,
⟨some 12,.ln (.t 11),none⟩,
⟨some 13,.mov (.c (.int .i64 0)),none⟩])
 (.keep [1,2,5,11,12,13]))
 (.block 0
 (.loop
 (.seq
 (.seq (.ops [⟨some 14,.bin .lss (.t 13) (.t 12),none⟩])
 (.keep [1,2,5,11,12,13,14]))
 (.seq
 (.cond (.t 14)
 .skip
 (.exit 0))
 (.seq
 (.block 1
 (.seq
 (.seq (.ops [⟨some 15,.mov (.t 13),none⟩,
⟨some 16,.ia 2 (.t 11) (.t 13),none⟩,
⟨some 17,.ld 2 true (.t 16),none⟩,
⟨some 7,.newL [(.int .i64 0),(.int .i64 0)],none⟩,
⟨some 6,.mov (.t 15),none⟩,
⟨none,.stB 2 7 (.t 17),none⟩])
 (.keep [1,2,5,6,7,11,12,13]))
 (.seq
 (.seq
 (.seq (.free true [⟨some 18,.faB 0 7,none⟩,
⟨some 19,.ldE 1 false 7 18,none⟩,
⟨some 20,.faB 1 7,none⟩,
⟨some 21,.ldE 1 false 7 20,none⟩,
⟨some 22,.bin .geq (.t 19) (.t 21),none⟩,
⟨some 23,.mov (.t 22),none⟩,
⟨some 24,.ldB 2 true 2,some (23,false)⟩,
⟨some 25,.faB 0 7,some (23,false)⟩,
⟨some 26,.ldE 1 false 7 25,some (23,false)⟩,
⟨some 27,.faB 1 7,some (23,false)⟩,
⟨some 28,.ldE 1 false 7 27,some (23,false)⟩,
⟨some 29,.call n_impl_edgeAt [(.t 24),(.t 26),(.t 28)],some (23,false)⟩,
⟨some 30,.bin .lss (.t 29) (.c (.int .i64 0)),some (23,false)⟩,
⟨some 31,.pick (.t 23) (.c (.bool true)) (.t 30),none⟩,
⟨some 32,.mov (.t 31),none⟩,
⟨some 33,.mov (.t 6),some (32,false)⟩,
⟨some 34,.bin .gtr (.t 33) (.c (.int .i64 0)),some (32,false)⟩,
⟨some 35,.mov (.t 34),some (32,false)⟩,
⟨some 36,.mov (.t 1),some (35,true)⟩,
⟨some 37,.mov (.t 6),some (35,true)⟩,
⟨some 38,.bin .sub (.t 37) (.c (.int .i64 1)),some (35,true)⟩,
⟨some 39,.ia 2 (.t 36) (.t 38),some (35,true)⟩,
⟨some 40,.fa 0 (.t 39),some (35,true)⟩,
⟨some 41,.ld 1 false (.t 40),some (35,true)⟩,
⟨some 42,.faB 0 7,some (35,true)⟩,
⟨some 43,.ldE 1 false 7 42,some (35,true)⟩,
⟨some 44,.bin .geq (.t 41) (.t 43),some (35,true)⟩,
⟨some 45,.pick (.t 35) (.t 44) (.c (.bool false)),some (32,false)⟩,
⟨some 46,.pick (.t 32) (.c (.bool true)) (.t 45),none⟩,
⟨some 47,.mov (.t 46),none⟩,
⟨some 48,.mov (.t 5),some (47,false)⟩,
⟨some 49,.faB 0 7,some (47,false)⟩,
⟨some 50,.ldE 1 false 7 49,some (47,false)⟩,
⟨some 51,.call n_impl_hasInt [(.t 48),(.t 50)],some (47,false)⟩,
⟨some 52,.pick (.t 47) (.c (.bool true)) (.t 51),none⟩,
⟨some 53,.mov (.t 52),none⟩,
⟨some 54,.mov (.t 5),some (53,false)⟩,
⟨some 55,.faB 1 7,some (53,false)⟩,
⟨some 56,.ldE 1 false 7 55,some (53,false)⟩,
⟨some 57,.call n_impl_hasInt [(.t 54),(.t 56)],some (53,false)⟩,
⟨some 58,.pick (.t 53) (.c (.bool true)) (.t 57),none⟩])
 (.keep [1,2,5,7,11,12,13,58]))
 (.cond (.t 58)
 (.seq
 (.seq (.ops [⟨some 4,.mov (.c (.bool false)),none⟩])
 (.keep [4]))
 .ret)
 .skip))
 (.seq (.ops [⟨some 59,.mov (.t 5),none⟩,
⟨some 60,.faB 0 7,none⟩,
⟨some 61,.ldE 1 false 7 60,none⟩,
⟨some 62,.faB 1 7,none⟩,
⟨some 63,.ldE 1 false 7 62,none⟩,
⟨some 64,.litL 2 1 [(.int .i64 0)] [(0,(.t 61)),(1,(.t 63))],none⟩,
⟨some 65,.appL 1 y_int 8 2 (.t 59) 64,none⟩,
⟨some 5,.mov (.t 65),none⟩])
 (.keep [1,2,5,11,12,13])))))
 (.seq (.ops [⟨some 66,.bin .add (.t 13) (.c (.int .i64 1)),none⟩,
⟨some 13,.mov (.t 66),none⟩])
 (.keep [1,2,5,11,12,13]))))))))
 (.seq
 (.seq (.ops [⟨some 4,.mov (.c (.bool true)),none⟩])
 (.keep [4]))
 .ret))))),
 [(.slot 4)]⟩
def F_impl_Scalar : Fun := ⟨1,
 (.seq
 (.seq (.ops [⟨some 1,.boxL 5 (.t 0),none⟩,
⟨some 2,.mov (.c (.int .i64 0)),none⟩])
 (.keep [1]))
 (.seq
 (.seq (.ops [⟨some 3,.faB 2 1,none⟩,
⟨some 4,.ldE 1 false 1 3,none⟩,
⟨some 5,.bin .mul (.c (.int .i64 90000)) (.t 4),none⟩,
⟨some 6,.faB 3 1,none⟩,
⟨some 7,.ldE 1 false 1 6,none⟩,
⟨some 8,.bin .mul (.c (.int .i64 300)) (.t 7),none⟩,
⟨some 9,.bin .add (.t 5) (.t 8),none⟩,
⟨some 10,.faB 4 1,none⟩,
⟨some 11,.ldE 1 false 1 10,none⟩,
⟨some 12,.bin .add (.t 9) (.t 11),none⟩,
⟨some 2,.mov (.t 12),none⟩])
 (.keep [2]))
 .ret)),
 [(.slot 2)]⟩
def F_impl_edgeAt : Fun := ⟨3,
 (.seq
 (.seq (.ops [⟨some 3,.boxL 2 (.t 0),none⟩,
⟨some 6,.mov (.c (.int .i64 0)),none⟩])
 (.keep [1,2,3]))
 (.seq
 (.seq
 (.seq (.ops [⟨some 9,.faB 1 3,none⟩,
⟨some 10,.ldE 1 false 3 9,none⟩,
⟨some 11,.ln (.t 10),none⟩,
⟨some 12,.mov (.c (.int .i64 0)),none⟩])
 (.keep [1,2,10,11,12]))
 (.block 0
 (.loop
 (.seq
 (.seq (.ops [⟨some 13,.bin .lss (.t 12) (.t 11),none⟩])
 (.keep [1,2,10,11,12,13]))
 (.seq
 (.cond (.t 13)
 .skip
 (.exit 0))
 (.seq
 (.block 1
 (.seq
 (.seq (.ops [⟨some 14,.mov (.t 12),none⟩,
⟨some 15,.ia 5 (.t 10) (.t 12),none⟩,
⟨some 16,.ld 5 true (.t 15),none⟩,
⟨some 8,.newL [(.int .i64 0),(.int .i64 0),(.int .i64 0),(.int .i64 0),(.int .i64 0)],none⟩,
⟨some 7,.mov (.t 14),none⟩,
⟨none,.stB 5 8 (.t 16),none⟩])
 (.keep [1,2,7,8,10,11,12]))
 (.seq
 (.seq (.ops [⟨some 17,.faB 0 8,none⟩,
⟨some 18,.ldE 1 false 8 17,none⟩,
⟨some 19,.mov (.t 1),none⟩,
⟨some 20,.bin .eql (.t 18) (.t 19),none⟩,
⟨some 21,.mov (.t 20),none⟩,
⟨some 22,.faB 1 8,some (21,true)⟩,
⟨some 23,.ldE 1 false 8 22,some (21,true)⟩,
⟨some 24,.mov (.t 2),some (21,true)⟩,
⟨some 25,.bin .eql (.t 23) (.t 24),some (21,true)⟩,
⟨some 26,.pick (.t 21) (.t 25) (.c (.bool false)),none⟩,
⟨some 27,.mov (.t 26),none⟩,
⟨some 28,.faB 0 8,some (27,false)⟩,
⟨some 29,.ldE 1 false 8 28,some (27,false)⟩,
⟨some 30,.mov (.t 2),some (27,false)⟩,
⟨some 31,.bin .eql (.t 29) (.t 30),some (27,false)⟩,
⟨some 32,.mov (.t 31),some (27,false)⟩,
⟨some 33,.faB 1 8,some (32,true)⟩,
⟨some 34,.ldE 1 false 8 33,some (32,true)⟩,
⟨some 35,.mov (.t 1),some (32,true)⟩,
⟨some 36,.bin .eql (.t 34) (.t 35),some (32,true)⟩,
⟨some 37,.pick (.t 32) (.t 36) (.c (.bool false)),some (27,false)⟩,
⟨some 38,.pick (.t 27) (.c (.bool true)) (.t 37),none⟩])
 (.keep [1,2,7,10,11,12,38]))
 (.cond (.t 38)
 (.seq
 (.seq (.ops [⟨some 39,.mov (.t 7),none⟩,
⟨some 6,.mov (.t 39),none⟩])
 (.keep [6]))
 .ret)
 .skip))))
 (.seq (.ops [⟨some 40,.bin .add (.t 12) (.c (.int .i64 1)),none⟩,
⟨some 12,.mov (.t 40),none⟩])
 (.keep [1,2,10,11,12]))))))))
 (.seq
 (.seq (.ops [⟨some 6,.mov (.c (.int .i64 (-1))),none⟩])
 (.keep [6]))
 .ret))),
 [(.slot 6)]⟩
def F_spec_l11Worth : Fun := ⟨2,
 (.seq
 (.seq (.ops [⟨some 2,.boxL 2 (.t 0),none⟩,
⟨some 4,.mov (.c (.int .i64 0)),none⟩])
 (.keep [1,2]))
 (.seq
 (.seq (.ops [⟨some 5,.mov (.c (.int .i64 0)),none⟩])
 (.keep [1,2,5]))
 (.seq
 (.seq
 (.seq (.ops [⟨some 6,.mov (.c (.int .i64 0)),none⟩])
 (.keep [1,2,5,6]))
 (.block 0
 (.loop
 (.seq
 (.seq
 (.seq (.ops [⟨some 7,.mov (.t 6),none⟩,
⟨some 8,.mov (.t 1),none⟩,
⟨some 9,.ln (.t 8),none⟩,
⟨some 10,.bin .lss (.t 7) (.t 9),none⟩])
 (.keep [1,2,5,6,10]))
 (.cond (.t 10)
 .skip
 (.exit 0)))
 (.seq
 (.block 1
 (.seq (.free true [⟨some 13,.mov (.t 5),none⟩,
⟨some 14,.faB 1 2,none⟩,
⟨some 15,.ldE 1 false 2 14,none⟩,
⟨some 16,.ldB 2 true 2,none⟩,
⟨some 17,.mov (.t 1),none⟩,
⟨some 18,.mov (.t 6),none⟩,
⟨some 19,.ia 2 (.t 17) (.t 18),none⟩,
⟨some 20,.fa 0 (.t 19),none⟩,
⟨some 21,.ld 1 false (.t 20),none⟩,
⟨some 22,.mov (.t 1),none⟩,
⟨some 23,.mov (.t 6),none⟩,
⟨some 24,.ia 2 (.t 22) (.t 23),none⟩,
⟨some 25,.fa 1 (.t 24),none⟩,
⟨some 26,.ld 1 false (.t 25),none⟩,
⟨some 27,.call n_spec_l08At [(.t 16),(.t 21),(.t 26)],none⟩,
⟨some 28,.ia 5 (.t 15) (.t 27),none⟩,
⟨some 29,.ld 5 true (.t 28),none⟩,
⟨some 30,.call n_spec_Scalar [(.t 29)],none⟩,
⟨some 31,.bin .add (.t 13) (.t 30),none⟩,
⟨some 5,.mov (.t 31),none⟩])
 (.keep [1,2,5,6])))
 (.seq (.ops [⟨some 11,.mov (.t 6),none⟩,
⟨some 12,.bin .add (.t 11) (.c (.int .i64 1)),none⟩,
⟨some 6,.mov (.t 12),none⟩])
 (.keep [1,2,5,6])))))))
 (.seq
 (.seq (.ops [⟨some 32,.mov (.t 5),none⟩,
⟨some 4,.mov (.t 32),none⟩])
 (.keep [4]))
 .ret)))),
 [(.slot 4)]⟩
def F_spec_l11Sum : Fun := ⟨1,
 (.seq
 (.seq (.ops [⟨some 1,.boxL 2 (.t 0),none⟩,
⟨some 2,.mov (.c (.int .i64 0)),none⟩])
 (.keep [1]))
 (.seq
 (.seq (.ops [⟨some 3,.mov (.c (.int .i64 0)),none⟩])
 (.keep [1,3]))
 (.seq
 (.seq
 (.seq (.ops [⟨some 4,.mov (.c (.int .i64 0)),none⟩])
 (.keep [1,3,4]))
 (.block 0
 (.loop
 (.seq
 (.seq
 (.seq (.ops [⟨some 6,.mov (.t 4),none⟩,
⟨some 7,.faB 0 1,none⟩,
⟨some 8,.ldE 1 false 1 7,none⟩,
⟨some 9,.ln (.t 8),none⟩,
⟨some 10,.bin .lss (.t 6) (.t 9),none⟩])
 (.keep [1,3,4,10]))
 (.cond (.t 10)
 .skip
 (.exit 0)))
 (.seq
 (.block 1
 (.seq (.ops [⟨some 13,.mov (.t 3),none⟩,
⟨some 14,.faB 0 1,none⟩,
⟨some 15,.ldE 1 false 1 14,none⟩,
⟨some 16,.mov (.t 4),none⟩,
⟨some 17,.ia 1 (.t 15) (.t 16),none⟩,
⟨some 18,.ld 1 false (.t 17),none⟩,
⟨some 19,.bin .add (.t 13) (.t 18),none⟩,
⟨some 3,.mov (.t 19),none⟩])
 (.keep [1,3,4])))
 (.seq (.ops [⟨some 11,.mov (.t 4),none⟩,
⟨some 12,.bin .add (.t 11) (.c (.int .i64 1)),none⟩,
⟨some 4,.mov (.t 12),none⟩])
 (.keep [1,3,4])))))))
 (.seq
 (.seq
 (.seq (.ops [⟨some 5,.mov (.c (.int .i64 0)),none⟩])
 (.keep [1,3,5]))
 (.block 2
 (.loop
 (.seq
 (.seq
 (.seq (.ops [⟨some 20,.mov (.t 5),none⟩,
⟨some 21,.faB 1 1,none⟩,
⟨some 22,.ldE 1 false 1 21,none⟩,
⟨some 23,.ln (.t 22),none⟩,
⟨some 24,.bin .lss (.t 20) (.t 23),none⟩])
 (.keep [1,3,5,24]))
 (.cond (.t 24)
 .skip
 (.exit 2)))
 (.seq
 (.block 3
 (.seq (.free true [⟨some 27,.mov (.t 3),none⟩,
⟨some 28,.faB 1 1,none⟩,
⟨some 29,.ldE 1 false 1 28,none⟩,
⟨some 30,.mov (.t 5),none⟩,
⟨some 31,.ia 2 (.t 29) (.t 30),none⟩,
⟨some 32,.fa 1 (.t 31),none⟩,
⟨some 33,.ld 1 false (.t 32),none⟩,
⟨some 34,.faB 1 1,none⟩,
⟨some 35,.ldE 1 false 1 34,none⟩,
⟨some 36,.mov (.t 5),none⟩,
⟨some 37,.ia 2 (.t 35) (.t 36),none⟩,
⟨some 38,.fa 0 (.t 37),none⟩,
⟨some 39,.ld 1 false (.t 38),none⟩,
⟨some 40,.ln (.t 39),none⟩,
⟨some 41,.bin .quo (.t 40) (.c (.int .i64 2)),none⟩,
⟨some 42,.bin .mul (.t 33) (.t 41),none⟩,
⟨some 43,.bin .add (.t 27) (.t 42),none⟩,
⟨some 3,.mov (.t 43),none⟩])
 (.keep [1,3,5])))
 (.seq (.ops [⟨some 25,.mov (.t 5),none⟩,
⟨some 26,.bin .add (.t 25) (.c (.int .i64 1)),none⟩,
⟨some 5,.mov (.t 26),none⟩])
 (.keep [1,3,5])))))))
 (.seq
 (.seq (.ops [⟨some 44,.mov (.t 3),none⟩,
⟨some 2,.mov (.t 44),none⟩])
 (.keep [2]))
 .ret))))),
 [(.slot 2)]⟩
def F_spec_l08At : Fun := ⟨3,
 (.seq
 (.seq (.ops [⟨some 3,.boxL 2 (.t 0),none⟩,
⟨some 6,.mov (.c (.int .i64 0)),none⟩])
 (.keep [1,2,3]))
 (.seq
 (.seq
 (.seq (.ops [⟨some 7,.mov (.c (.int .i64 0)),none⟩])
 (.keep [1,2,3,7]))
 (.block 0
 (.loop
 (.seq
 (.seq
 (.seq (.ops [⟨some 8,.mov (.t 7),none⟩,
⟨some 9,.faB 1 3,none⟩,
⟨some 10,.ldE 1 false 3 9,none⟩,
⟨some 11,.ln (.t 10),none⟩,
⟨some 12,.bin .lss (.t 8) (.t 11),none⟩])
 (.keep [1,2,3,7,12]))
 (.cond (.t 12)
 .skip
 (.exit 0)))
 (.seq
 (.block 1
 (.seq
 (.seq (.ops [⟨some 15,.faB 1 3,none⟩,
⟨some 16,.ldE 1 false 3 15,none⟩,
⟨some 17,.mov (.t 7),none⟩,
⟨some 18,.ia 5 (.t 16) (.t 17),none⟩,
⟨some 19,.fa 0 (.t 18),none⟩,
⟨some 20,.ld 1 false (.t 19),none⟩,
⟨some 21,.mov (.t 1),none⟩,
⟨some 22,.bin .eql (.t 20) (.t 21),none⟩,
⟨some 23,.mov (.t 22),none⟩,
⟨some 24,.faB 1 3,some (23,true)⟩,
⟨some 25,.ldE 1 false 3 24,some (23,true)⟩,
⟨some 26,.mov (.t 7),some (23,true)⟩,
⟨some 27,.ia 5 (.t 25) (.t 26),some (23,true)⟩,
⟨some 28,.fa 1 (.t 27),some (23,true)⟩,
⟨some 29,.ld 1 false (.t 28),some (23,true)⟩,
⟨some 30,.mov (.t 2),some (23,true)⟩,
⟨some 31,.bin .eql (.t 29) (.t 30),some (23,true)⟩,
⟨some 32,.pick (.t 23) (.t 31) (.c (.bool false)),none⟩,
⟨some 33,.mov (.t 32),none⟩,
⟨some 34,.faB 1 3,some (33,false)⟩,
⟨some 35,.ldE 1 false 3 34,some (33,false)⟩,
⟨some 36,.mov (.t 7),some (33,false)⟩,
⟨some 37,.ia 5 (.t 35) (.t 36),some (33,false)⟩,
⟨some 38,.fa 0 (.t 37),some (33,false)⟩,
⟨some 39,.ld 1 false (.t 38),some (33,false)⟩,
⟨some 40,.mov (.t 2),some (33,false)⟩,
⟨some 41,.bin .eql (.t 39) (.t 40),some (33,false)⟩,
⟨some 42,.mov (.t 41),some (33,false)⟩,
⟨some 43,.faB 1 3,some (42,true)⟩,
⟨some 44,.ldE 1 false 3 43,some (42,true)⟩,
⟨some 45,.mov (.t 7),some (42,true)⟩,
⟨some 46,.ia 5 (.t 44) (.t 45),some (42,true)⟩,
⟨some 47,.fa 1 (.t 46),some (42,true)⟩,
⟨some 48,.ld 1 false (.t 47),some (42,true)⟩,
⟨some 49,.mov (.t 1),some (42,true)⟩,
⟨some 50,.bin .eql (.t 48) (.t 49),some (42,true)⟩,
⟨some 51,.pick (.t 42) (.t 50) (.c (.bool false)),some (33,false)⟩,
⟨some 52,.pick (.t 33) (.c (.bool true)) (.t 51),none⟩])
 (.keep [1,2,3,7,52]))
 (.cond (.t 52)
 (.seq
 (.seq (.ops [⟨some 53,.mov (.t 7),none⟩,
⟨some 6,.mov (.t 53),none⟩])
 (.keep [6]))
 .ret)
 .skip)))
 (.seq (.ops [⟨some 13,.mov (.t 7),none⟩,
⟨some 14,.bin .add (.t 13) (.c (.int .i64 1)),none⟩,
⟨some 7,.mov (.t 14),none⟩])
 (.keep [1,2,3,7])))))))
 (.seq
 (.seq (.ops [⟨some 6,.mov (.c (.int .i64 (-1))),none⟩])
 (.keep [6]))
 .ret))),
 [(.slot 6)]⟩
def F_spec_l03In : Fun := ⟨2,
 (.seq
 (.seq (.ops [⟨some 4,.mov (.c (.bool false)),none⟩])
 (.keep [0,1]))
 (.seq
 (.seq
 (.seq (.ops [⟨some 5,.mov (.c (.int .i64 0)),none⟩])
 (.keep [0,1,5]))
 (.block 0
 (.loop
 (.seq
 (.seq
 (.seq (.ops [⟨some 6,.mov (.t 5),none⟩,
⟨some 7,.mov (.t 0),none⟩,
⟨some 8,.ln (.t 7),none⟩,
⟨some 9,.bin .lss (.t 6) (.t 8),none⟩])
 (.keep [0,1,5,9]))
 (.cond (.t 9)
 .skip
 (.exit 0)))
 (.seq
 (.block 1
 (.seq
 (.seq (.ops [⟨some 12,.mov (.t 0),none⟩,
⟨some 13,.mov (.t 5),none⟩,
⟨some 14,.ia 1 (.t 12) (.t 13),none⟩,
⟨some 15,.ld 1 false (.t 14),none⟩,
⟨some 16,.mov (.t 1),none⟩,
⟨some 17,.bin .eql (.t 15) (.t 16),none⟩])
 (.keep [0,1,5,17]))
 (.cond (.t 17)
 (.seq
 (.seq (.ops [⟨some 4,.mov (.c (.bool true)),none⟩])
 (.keep [4]))
 .ret)
 .skip)))
 (.seq (.ops [⟨some 10,.mov (.t 5),none⟩,
⟨some 11,.bin .add (.t 10) (.c (.int .i64 1)),none⟩,
⟨some 5,.mov (.t 11),none⟩])
 (.keep [0,1,5])))))))
 (.seq
 (.seq (.ops [⟨some 4,.mov (.c (.bool false)),none⟩])
 (.keep [4]))
 .ret))),
 [(.slot 4)]⟩
def F_spec_EdgeAt : Fun := ⟨3,
 (.seq
 (.seq (.ops [⟨some 3,.boxL 2 (.t 0),none⟩,
⟨some 6,.mov (.c (.int .i64 0)),none⟩])
 (.keep [1,2,3]))
 (.seq
 (.seq
 (.seq (.ops [⟨some 7,.ldB 2 true 3,none⟩,
⟨some 8,.call n_spec_GraphOk [(.t 7)],none⟩,
⟨some 9,.un .not (.t 8),none⟩])
 (.keep [1,2,3,9]))
 (.cond (.t 9)
 (.seq
 (.seq (.ops [⟨some 6,.mov (.c (.int .i64 (-1))),none⟩])
 (.keep [6]))
 .ret)
 .skip))
 (.seq
 (.seq (.ops [⟨some 10,.ldB 2 true 3,none⟩,
⟨some 11,.mov (.t 1),none⟩,
⟨some 12,.mov (.t 2),none⟩,
⟨some 13,.call n_spec_l08At [(.t 10),(.t 11),(.t 12)],none⟩,
⟨some 6,.mov (.t 13),none⟩])
 (.keep [6]))
 .ret))),
 [(.slot 6)]⟩
def F_spec_Scalar : Fun := ⟨1,
 (.seq
 (.seq (.ops [⟨some 1,.boxL 5 (.t 0),none⟩,
⟨some 2,.mov (.c (.int .i64 0)),none⟩])
 (.keep [1]))
 (.seq
 (.seq (.ops [⟨some 3,.faB 2 1,none⟩,
⟨some 4,.ldE 1 false 1 3,none⟩,
⟨some 5,.bin .mul (.c (.int .i64 90000)) (.t 4),none⟩,
⟨some 6,.faB 3 1,none⟩,
⟨some 7,.ldE 1 false 1 6,none⟩,
⟨some 8,.bin .mul (.c (.int .i64 300)) (.t 7),none⟩,
⟨some 9,.bin .add (.t 5) (.t 8),none⟩,
⟨some 10,.faB 4 1,none⟩,
⟨some 11,.ldE 1 false 1 10,none⟩,
⟨some 12,.bin .add (.t 9) (.t 11),none⟩,
⟨some 2,.mov (.t 12),none⟩])
 (.keep [2]))
 .ret)),
 [(.slot 2)]⟩
def F_impl_hasInt : Fun := ⟨2,
 (.seq
 (.seq (.ops [⟨some 4,.mov (.c (.bool false)),none⟩])
 (.keep [0,1]))
 (.seq
 (.seq
 (.seq (.ops [⟨some 7,.mov (.t 0),none⟩,
⟨some 8,.ln (.t 7),none⟩,
⟨some 9,.mov (.c (.int .i64 0)),none⟩])
 (.keep [1,7,8,9]))
 (.block 0
 (.loop
 (.seq
 (.seq (.ops [⟨some 10,.bin .lss (.t 9) (.t 8),none⟩])
 (.keep [1,7,8,9,10]))
 (.seq
 (.cond (.t 10)
 .skip
 (.exit 0))
 (.seq
 (.block 1
 (.seq
 (.seq (.ops [⟨some 11,.ia 1 (.t 7) (.t 9),none⟩,
⟨some 12,.ld 1 false (.t 11),none⟩,
⟨some 6,.mov (.t 12),none⟩])
 (.keep [1,6,7,8,9]))
 (.seq
 (.seq (.ops [⟨some 13,.mov (.t 6),none⟩,
⟨some 14,.mov (.t 1),none⟩,
⟨some 15,.bin .eql (.t 13) (.t 14),none⟩])
 (.keep [1,7,8,9,15]))
 (.cond (.t 15)
 (.seq
 (.seq (.ops [⟨some 4,.mov (.c (.bool true)),none⟩])
 (.keep [4]))
 .ret)
 .skip))))
 (.seq (.ops [⟨some 16,.bin .add (.t 9) (.c (.int .i64 1)),none⟩,
⟨some 9,.mov (.t 16),none⟩])
 (.keep [1,7,8,9]))))))))
 (.seq
 (.seq (.ops [⟨some 4,.mov (.c (.bool false)),none⟩])
 (.keep [4]))
 .ret))),
 [(.slot 4)]⟩
def F_spec_l01PickInt : Fun := ⟨2,
 (.seq
 (.seq (.ops [⟨some 4,.mov (.c (.int .i64 0)),none⟩])
 (.keep [0,1]))
 (.seq
 (.seq (.ops [⟨some 5,.mov (.t 1),none⟩,
⟨some 6,.mov (.t 0),none⟩,
⟨some 7,.mov (.t 1),none⟩,
⟨some 8,.ln (.t 7),none⟩,
⟨some 9,.call n_spec_l01Below [(.t 6),(.t 8)],none⟩,
⟨some 10,.ia 1 (.t 5) (.t 9),none⟩,
⟨some 11,.ld 1 false (.t 10),none⟩,
⟨some 4,.mov (.t 11),none⟩])
 (.keep [4]))
 .ret)),
 [(.slot 4)]⟩
def F_spec_l01Byte : Fun := ⟨1,
 (.seq
 (.seq (.ops [⟨some 2,.mov (.c (.int .i64 0)),none⟩])
 (.keep [0]))
 (.seq
 (.seq (.ops [⟨some 4,.mov (.t 0),none⟩,
⟨some 5,.mov (.t 0),none⟩,
⟨some 6,.chk (.t 5),none⟩,
⟨some 7,.fa 2 (.t 6),none⟩,
⟨some 8,.ld 1 false (.t 7),none⟩,
⟨some 9,.bin .mul (.t 8) (.c (.int .i64 6364136223846793005)),none⟩,
⟨some 10,.bin .add (.t 9) (.c (.int .i64 1442695040888963407)),none⟩,
⟨some 11,.chk (.t 4),none⟩,
⟨some 12,.fa 2 (.t 11),none⟩,
⟨none,.st 1 (.t 12) (.t 10),none⟩])
 (.keep [0]))
 (.seq
 (.seq (.free true [⟨some 13,.mov (.t 0),none⟩,
⟨some 14,.chk (.t 13),none⟩,
⟨some 15,.fa 2 (.t 14),none⟩,
⟨some 16,.ld 1 false (.t 15),none⟩,
⟨some 17,.bin .shr (.t 16) (.c (.int .u64 33)),none⟩,
⟨some 18,.mov (.t 0),none⟩,
⟨some 19,.chk (.t 18),none⟩,
⟨some 20,.fa 2 (.t 19),none⟩,
⟨some 21,.ld 1 false (.t 20),none⟩,
⟨some 22,.bin .shr (.t 21) (.c (.int .u64 45)),none⟩,
⟨some 23,.bin .xor (.t 17) (.t 22),none⟩,
⟨some 24,.bin .and (.t 23) (.c (.int .i64 255)),none⟩,
⟨some 3,.mov (.t 24),none⟩])
 (.keep [0,3]))
 (.seq
 (.seq
 (.seq (.free true [⟨some 25,.mov (.t 0),none⟩,
⟨some 26,.chk (.t 25),none⟩,
⟨some 27,.fa 1 (.t 26),none⟩,
⟨some 28,.ld 1 false (.t 27),none⟩,
⟨some 29,.mov (.t 0),none⟩,
⟨some 30,.chk (.t 29),none⟩,
⟨some 31,.fa 0 (.t 30),none⟩,
⟨some 32,.ld 1 false (.t 31),none⟩,
⟨some 33,.ln (.t 32),none⟩,
⟨some 34,.bin .lss (.t 28) (.t 33),none⟩])
 (.keep [0,3,34]))
 (.cond (.t 34)
 (.seq
 (.seq (.free true [⟨some 35,.mov (.t 3),none⟩,
⟨some 36,.mov (.t 0),none⟩,
⟨some 37,.chk (.t 36),none⟩,
⟨some 38,.fa 0 (.t 37),none⟩,
⟨some 39,.ld 1 false (.t 38),none⟩,
⟨some 40,.mov (.t 0),none⟩,
⟨some 41,.chk (.t 40),none⟩,
⟨some 42,.fa 1 (.t 41),none⟩,
⟨some 43,.ld 1 false (.t 42),none⟩,
⟨some 44,.ia 1 (.t 39) (.t 43),none⟩,
⟨some 45,.ld 1 false (.t 44),none⟩,
⟨some 46,.conv .i64 (.t 45),none⟩,
⟨some 47,.bin .add (.t 35) (.t 46),none⟩,
⟨some 48,.bin .and (.t 47) (.c (.int .i64 255)),none⟩,
⟨some 3,.mov (.t 48),none⟩])
 (.keep [0,3]))
 (.seq (.ops [⟨some 49,.mov (.t 0),none⟩,
⟨some 50,.mov (.t 0),none⟩,
⟨some 51,.chk (.t 50),none⟩,
⟨some 52,.fa 1 (.t 51),none⟩,
⟨some 53,.ld 1 false (.t 52),none⟩,
⟨some 54,.bin .add (.t 53) (.c (.int .i64 1)),none⟩,
⟨some 55,.chk (.t 49),none⟩,
⟨some 56,.fa 1 (.t 55),none⟩,
⟨none,.st 1 (.t 56) (.t 54),none⟩])
 (.keep [3])))
 .skip))
 (.seq
 (.seq (.ops [⟨some 57,.mov (.t 3),none⟩,
⟨some 2,.mov (.t 57),none⟩])
 (.keep [2]))
 .ret))))),
 [(.slot 2)]⟩
def F_spec_l08Worth : Fun := ⟨1,
 (.seq
 (.seq (.ops [⟨some 2,.mov (.c (.bool false)),none⟩])
 (.keep [0]))
 (.seq
 (.seq (.ops [⟨some 3,.mov (.t 0),none⟩,
⟨some 4,.call n_spec_l01In [(.t 3),(.c (.int .i64 0)),(.c (.int .i64 50))],none⟩,
⟨some 2,.mov (.t 4),none⟩])
 (.keep [2]))
 .ret)),
 [(.slot 2)]⟩
def F_spec_Better : Fun := ⟨2,
 (.seq
 (.seq (.ops [⟨some 2,.boxL 3 (.t 0),none⟩,
⟨some 3,.boxL 3 (.t 1),none⟩,
⟨some 4,.mov (.c (.bool false)),none⟩])
 (.keep [2,3]))
 (.seq
 (.seq
 (.seq (.ops [⟨some 5,.faB 0 2,none⟩,
⟨some 6,.ldE 1 false 2 5,none⟩,
⟨some 7,.faB 0 3,none⟩,
⟨some 8,.ldE 1 false 3 7,none⟩,
⟨some 9,.bin .neq (.t 6) (.t 8),none⟩])
 (.keep [2,3,9]))
 (.cond (.t 9)
 (.seq
 (.seq (.ops [⟨some 10,.faB 0 2,none⟩,
⟨some 11,.ldE 1 false 2 10,none⟩,
⟨some 12,.faB 0 3,none⟩,
⟨some 13,.ldE 1 false 3 12,none⟩,
⟨some 14,.bin .gtr (.t 11) (.t 13),none⟩,
⟨some 4,.mov (.t 14),none⟩])
 (.keep [4]))
 .ret)
 .skip))
 (.seq
 (.seq
 (.seq (.ops [⟨some 15,.faB 1 2,none⟩,
⟨some 16,.ldE 1 false 2 15,none⟩,
⟨some 17,.faB 1 3,none⟩,
⟨some 18,.ldE 1 false 3 17,none⟩,
⟨some 19,.bin .neq (.t 16) (.t 18),none⟩])
 (.keep [2,3,19]))
 (.cond (.t 19)
 (.seq
 (.seq (.ops [⟨some 20,.faB 1 2,none⟩,
⟨some 21,.ldE 1 false 2 20,none⟩,
⟨some 22,.faB 1 3,none⟩,
⟨some 23,.ldE 1 false 3 22,none⟩,
⟨some 24,.bin .gtr (.t 21) (.t 23),none⟩,
⟨some 4,.mov (.t 24),none⟩])
 (.keep [4]))
 .ret)
 .skip))
 (.seq
 (.seq (.ops [⟨some 25,.faB 2 2,none⟩,
⟨some 26,.ldE 1 false 2 25,none⟩,
⟨some 27,.faB 2 3,none⟩,
⟨some 28,.ldE 1 false 3 27,none⟩,
⟨some 29,.bin .gtr (.t 26) (.t 28),none⟩,
⟨some 4,.mov (.t 29),none⟩])
 (.keep [4]))
 .ret)))),
 [(.slot 4)]⟩
def F_spec_l10Round : Fun := ⟨1,
 (.seq
 (.seq (.ops [⟨some 6,.mov (.t 0),none⟩,
⟨some 7,.call n_spec_l10Label [(.t 6)],none⟩,
⟨some 5,.mov (.t 7),none⟩,
⟨some 8,.ext 0 (.t 5),none⟩,
⟨some 9,.ext 1 (.t 5),none⟩,
⟨some 2,.mov (.t 8),none⟩,
⟨some 3,.mov (.t 9),none⟩])
 (.keep [0,2,3]))
 (.seq
 (.seq
 (.seq (.ops [⟨some 10,.mov (.t 3),none⟩,
⟨some 11,.bin .lss (.t 10) (.c (.int .i64 0)),none⟩])
 (.keep [0,2,3,11]))
 (.cond (.t 11)
 (.seq
 (.seq (.ops [⟨some 12,.mov (.t 0),none⟩,
⟨some 13,.mov (.t 2),none⟩,
⟨some 14,.call n_spec_l10Adjust [(.t 12),(.t 13)],none⟩])
 (.keep []))
 .ret)
 .skip))
 (.seq
 (.seq (.ops [⟨some 15,.mov (.t 0),none⟩,
⟨some 16,.chk (.t 15),none⟩,
⟨some 17,.fa 0 (.t 16),none⟩,
⟨some 18,.fa 1 (.t 17),none⟩,
⟨some 19,.ld 1 false (.t 18),none⟩,
⟨some 20,.mov (.t 3),none⟩,
⟨some 21,.ia 5 (.t 19) (.t 20),none⟩,
⟨some 22,.ld 5 true (.t 21),none⟩,
⟨some 4,.newL [(.int .i64 0),(.int .i64 0),(.int .i64 0),(.int .i64 0),(.int .i64 0)],none⟩,
⟨none,.stB 5 4 (.t 22),none⟩])
 (.keep [0,2,4]))
 (.seq
 (.seq
 (.seq (.free false [⟨some 23,.mov (.t 2),none⟩,
⟨some 24,.chk (.t 23),none⟩,
⟨some 25,.fa 2 (.t 24),none⟩,
⟨some 26,.ld 1 false (.t 25),none⟩,
⟨some 27,.mov (.t 0),none⟩,
⟨some 28,.faB 0 4,none⟩,
⟨some 29,.ldE 1 false 4 28,none⟩,
⟨some 30,.call n_spec_l10Top [(.t 27),(.t 29)],none⟩,
⟨some 31,.ia 1 (.t 26) (.t 30),none⟩,
⟨some 32,.ld 1 false (.t 31),none⟩,
⟨some 33,.mov (.t 2),none⟩,
⟨some 34,.chk (.t 33),none⟩,
⟨some 35,.fa 2 (.t 34),none⟩,
⟨some 36,.ld 1 false (.t 35),none⟩,
⟨some 37,.mov (.t 0),none⟩,
⟨some 38,.faB 1 4,none⟩,
⟨some 39,.ldE 1 false 4 38,none⟩,
⟨some 40,.call n_spec_l10Top [(.t 37),(.t 39)],none⟩,
⟨some 41,.ia 1 (.t 36) (.t 40),none⟩,
⟨some 42,.ld 1 false (.t 41),none⟩,
⟨some 43,.bin .eql (.t 32) (.t 42),none⟩])
 (.keep [0,2,4,43]))
 (.cond (.t 43)
 (.seq
 (.seq (.ops [⟨some 44,.mov (.t 0),none⟩,
⟨some 45,.mov (.t 2),none⟩,
⟨some 46,.ldB 5 true 4,none⟩,
⟨some 47,.call n_spec_l10Shrink [(.t 44),(.t 45),(.t 46)],none⟩])
 (.keep []))
 .ret)
 .skip))
 (.seq (.ops [⟨some 48,.mov (.t 0),none⟩,
⟨some 49,.mov (.t 2),none⟩,
⟨some 50,.ldB 5 true 4,none⟩,
⟨some 51,.call n_spec_l10Augment [(.t 48),(.t 49),(.t 50)],none⟩])
 (.keep [])))))),
 []⟩
def F_spec_l10Within : Fun := ⟨3,
 (.seq
 (.seq (.ops [⟨some 6,.mov (.c (.bool false)),none⟩])
 (.keep [0,1,2]))
 (.seq
 (.block 0
 (.loop
 (.seq
 (.seq
 (.seq (.ops [⟨some 7,.mov (.t 1),none⟩,
⟨some 8,.bin .geq (.t 7) (.c (.int .i64 0)),none⟩,
⟨some 9,.mov (.t 8),none⟩,
⟨some 10,.mov (.t 1),some (9,true)⟩,
⟨some 11,.mov (.t 2),some (9,true)⟩,
⟨some 12,.bin .neq (.t 10) (.t 11),some (9,true)⟩,
⟨some 13,.pick (.t 9) (.t 12) (.c (.bool false)),none⟩])
 (.keep [0,1,2,13]))
 (.cond (.t 13)
 .skip
 (.exit 0)))
 (.block 1
 (.seq (.ops [⟨some 14,.mov (.t 0),none⟩,
⟨some 15,.chk (.t 14),none⟩,
⟨some 16,.fa 3 (.t 15),none⟩,
⟨some 17,.ld 1 false (.t 16),none⟩,
⟨some 18,.mov (.t 1),none⟩,
⟨some 19,.ia 6 (.t 17) (.t 18),none⟩,
⟨some 20,.fa 4 (.t 19),none⟩,
⟨some 21,.ld 1 false (.t 20),none⟩,
⟨some 1,.mov (.t 21),none⟩])
 (.keep [0,1,2]))))))
 (.seq
 (.seq (.ops [⟨some 22,.mov (.t 1),none⟩,
⟨some 23,.mov (.t 2),none⟩,
⟨some 24,.bin .eql (.t 22) (.t 23),none⟩,
⟨some 6,.mov (.t 24),none⟩])
 (.keep [6]))
 .ret))),
 [(.slot 6)]⟩
def F_spec_l10Ahead : Fun := ⟨2,
 (.seq
 (.seq (.ops [⟨some 4,.mov (.c (.bool false)),none⟩])
 (.keep [0,1]))
 (.seq
 (.seq
 (.seq (.ops [⟨some 5,.mov (.c (.int .i64 0)),none⟩])
 (.keep [0,1,5]))
 (.block 0
 (.loop
 (.seq
 (.seq
 (.seq (.ops [⟨some 6,.mov (.t 5),none⟩,
⟨some 7,.mov (.t 0),none⟩,
⟨some 8,.ln (.t 7),none⟩,
⟨some 9,.bin .lss (.t 6) (.t 8),none⟩,
⟨some 10,.mov (.t 9),none⟩,
⟨some 11,.mov (.t 5),some (10,true)⟩,
⟨some 12,.mov (.t 1),some (10,true)⟩,
⟨some 13,.ln (.t 12),some (10,true)⟩,
⟨some 14,.bin .lss (.t 11) (.t 13),some (10,true)⟩,
⟨some 15,.pick (.t 10) (.t 14) (.c (.bool false)),none⟩])
 (.keep [0,1,5,15]))
 (.cond (.t 15)
 .skip
 (.exit 0)))
 (.seq
 (.block 1
 (.seq
 (.seq (.free true [⟨some 18,.mov (.t 0),none⟩,
⟨some 19,.mov (.t 5),none⟩,
⟨some 20,.ia 1 (.t 18) (.t 19),none⟩,
⟨some 21,.ld 1 false (.t 20),none⟩,
⟨some 22,.mov (.t 1),none⟩,
⟨some 23,.mov (.t 5),none⟩,
⟨some 24,.ia 1 (.t 22) (.t 23),none⟩,
⟨some 25,.ld 1 false (.t 24),none⟩,
⟨some 26,.bin .neq (.t 21) (.t 25),none⟩])
 (.keep [0,1,5,26]))
 (.cond (.t 26)
 (.seq
 (.seq (.free true [⟨some 27,.mov (.t 0),none⟩,
⟨some 28,.mov (.t 5),none⟩,
⟨some 29,.ia 1 (.t 27) (.t 28),none⟩,
⟨some 30,.ld 1 false (.t 29),none⟩,
⟨some 31,.mov (.t 1),none⟩,
⟨some 32,.mov (.t 5),none⟩,
⟨some 33,.ia 1 (.t 31) (.t 32),none⟩,
⟨some 34,.ld 1 false (.t 33),none⟩,
⟨some 35,.bin .lss (.t 30) (.t 34),none⟩,
⟨some 4,.mov (.t 35),none⟩])
 (.keep [4]))
 .ret)
 .skip)))
 (.seq (.ops [⟨some 16,.mov (.t 5),none⟩,
⟨some 17,.bin .add (.t 16) (.c (.int .i64 1)),none⟩,
⟨some 5,.mov (.t 17),none⟩])
 (.keep [0,1,5])))))))
 (.seq
 (.seq (.ops [⟨some 36,.mov (.t 0),none⟩,
⟨some 37,.ln (.t 36),none⟩,
⟨some 38,.mov (.t 1),none⟩,
⟨some 39,.ln (.t 38),none⟩,
⟨some 40,.bin .lss (.t 37) (.t 39),none⟩,
⟨some 4,.mov (.t 40),none⟩])
 (.keep [4]))
 .ret))),
 [(.slot 4)]⟩
def F_spec_l10Base : Fun := ⟨2,
 (.seq
 (.seq (.ops [⟨some 4,.mov (.c (.int .i64 0)),none⟩])
 (.keep [0,1]))
 (.seq
 (.seq (.ops [⟨some 8,.mov (.t 0),none⟩,
⟨some 9,.mov (.t 1),none⟩,
⟨some 10,.call n_spec_l10Mate [(.t 8),(.t 9)],none⟩,
⟨some 7,.mov (.t 10),none⟩,
⟨some 11,.ext 0 (.t 7),none⟩,
⟨some 12,.ext 1 (.t 7),none⟩,
⟨some 5,.newL [(.int .i64 0),(.int .i64 0)],none⟩,
⟨none,.stB 2 5 (.t 11),none⟩,
⟨some 6,.mov (.t 12),none⟩])
 (.keep [0,1,5,6]))
 (.seq
 (.seq
 (.seq (.ops [⟨some 13,.mov (.t 6),none⟩])
 (.keep [0,1,5,13]))
 (.cond (.t 13)
 (.seq
 (.seq (.ops [⟨some 14,.faB 0 5,none⟩,
⟨some 15,.ldE 1 false 5 14,none⟩,
⟨some 4,.mov (.t 15),none⟩])
 (.keep [4]))
 .ret)
 .skip))
 (.seq
 (.seq (.ops [⟨some 16,.mov (.t 0),none⟩,
⟨some 17,.chk (.t 16),none⟩,
⟨some 18,.fa 3 (.t 17),none⟩,
⟨some 19,.ld 1 false (.t 18),none⟩,
⟨some 20,.mov (.t 1),none⟩,
⟨some 21,.ia 6 (.t 19) (.t 20),none⟩,
⟨some 22,.fa 2 (.t 21),none⟩,
⟨some 23,.ld 1 false (.t 22),none⟩,
⟨some 4,.mov (.t 23),none⟩])
 (.keep [4]))
 .ret)))),
 [(.slot 4)]⟩
def F_spec_l10Label : Fun := ⟨1,
 (.seq
 (.seq (.ops [⟨some 2,.mov (.c (.pointer none)),none⟩,
⟨some 3,.mov (.c (.int .i64 0)),none⟩])
 (.keep [0]))
 (.seq
 (.seq (.ops [⟨some 18,.mov (.t 0),none⟩,
⟨some 19,.chk (.t 18),none⟩,
⟨some 20,.fa 3 (.t 19),none⟩,
⟨some 21,.ld 1 false (.t 20),none⟩,
⟨some 22,.ln (.t 21),none⟩,
⟨some 4,.mov (.t 22),none⟩])
 (.keep [0,4]))
 (.seq
 (.seq (.free true [⟨some 23,.mov (.t 4),none⟩,
⟨some 25,.mov (.t 4),none⟩,
⟨some 27,.mov (.t 4),none⟩,
⟨some 24,.mk 1 y_int 8 [(.int .i64 0)] (.t 23),none⟩,
⟨some 26,.mk 2 y_l10Link 16 [(.int .i64 0),(.int .i64 0)] (.t 25),none⟩,
⟨some 28,.mk 1 y_int 8 [(.int .i64 0)] (.t 27),none⟩,
⟨some 29,.bld [(.slice none 0 0),(.slice none 0 0),(.slice none 0 0)] [(0,(1,(.t 24))),(1,(1,(.t 26))),(2,(1,(.t 28)))],none⟩,
⟨some 30,.bx y_l10Tops 3 (.t 29),none⟩,
⟨some 5,.mov (.t 30),none⟩])
 (.keep [0,4,5]))
 (.seq
 (.seq
 (.seq (.ops [⟨some 6,.mov (.c (.int .i64 0)),none⟩])
 (.keep [0,4,5,6]))
 (.block 0
 (.loop
 (.seq
 (.seq
 (.seq (.ops [⟨some 31,.mov (.t 6),none⟩,
⟨some 32,.mov (.t 4),none⟩,
⟨some 33,.bin .lss (.t 31) (.t 32),none⟩])
 (.keep [0,4,5,6,33]))
 (.cond (.t 33)
 .skip
 (.exit 0)))
 (.seq
 (.block 1
 (.seq
 (.seq (.ops [⟨some 37,.mov (.t 0),none⟩,
⟨some 38,.mov (.t 6),none⟩,
⟨some 39,.call n_spec_l10Mate [(.t 37),(.t 38)],none⟩,
⟨some 36,.mov (.t 39),none⟩,
⟨some 40,.ext 0 (.t 36),none⟩,
⟨some 41,.ext 1 (.t 36),none⟩,
⟨some 7,.newL [(.int .i64 0),(.int .i64 0)],none⟩,
⟨none,.stB 2 7 (.t 40),none⟩,
⟨some 8,.mov (.t 41),none⟩])
 (.keep [0,4,5,6,8]))
 (.seq
 (.seq (.ops [⟨some 42,.mov (.t 0),none⟩,
⟨some 43,.mov (.t 6),none⟩,
⟨some 44,.call n_spec_l10IsTop [(.t 42),(.t 43)],none⟩,
⟨some 45,.mov (.t 44),none⟩,
⟨some 46,.mov (.t 8),some (45,true)⟩,
⟨some 47,.un .not (.t 46),some (45,true)⟩,
⟨some 48,.pick (.t 45) (.t 47) (.c (.bool false)),none⟩])
 (.keep [0,4,5,6,48]))
 (.cond (.t 48)
 (.seq
 (.seq (.ops [⟨some 49,.mov (.t 5),none⟩,
⟨some 50,.chk (.t 49),none⟩,
⟨some 51,.fa 0 (.t 50),none⟩,
⟨some 52,.ld 1 false (.t 51),none⟩,
⟨some 53,.mov (.t 6),none⟩,
⟨some 54,.ia 1 (.t 52) (.t 53),none⟩,
⟨none,.st 1 (.t 54) (.c (.int .i64 1)),none⟩])
 (.keep [0,4,5,6]))
 (.seq (.ops [⟨some 55,.mov (.t 5),none⟩,
⟨some 56,.chk (.t 55),none⟩,
⟨some 57,.fa 2 (.t 56),none⟩,
⟨some 58,.ld 1 false (.t 57),none⟩,
⟨some 59,.mov (.t 6),none⟩,
⟨some 60,.mov (.t 6),none⟩,
⟨some 61,.ia 1 (.t 58) (.t 59),none⟩,
⟨none,.st 1 (.t 61) (.t 60),none⟩])
 (.keep [0,4,5,6])))
 .skip))))
 (.seq (.ops [⟨some 34,.mov (.t 6),none⟩,
⟨some 35,.bin .add (.t 34) (.c (.int .i64 1)),none⟩,
⟨some 6,.mov (.t 35),none⟩])
 (.keep [0,4,5,6])))))))
 (.seq
 (.seq (.ops [⟨some 9,.mov (.c (.bool true)),none⟩])
 (.keep [0,5,9]))
 (.seq
 (.block 2
 (.loop
 (.seq
 (.seq
 (.seq (.ops [⟨some 62,.mov (.t 9),none⟩])
 (.keep [0,5,62]))
 (.cond (.t 62)
 .skip
 (.exit 2)))
 (.block 3
 (.seq
 (.seq (.ops [⟨some 9,.mov (.c (.bool false)),none⟩])
 (.keep [0,5,9]))
 (.seq
 (.seq (.ops [⟨some 10,.mov (.c (.int .i64 0)),none⟩])
 (.keep [0,5,9,10]))
 (.block 4
 (.loop
 (.seq
 (.seq
 (.seq (.ops [⟨some 63,.mov (.t 10),none⟩,
⟨some 64,.mov (.t 0),none⟩,
⟨some 65,.chk (.t 64),none⟩,
⟨some 66,.fa 0 (.t 65),none⟩,
⟨some 67,.fa 1 (.t 66),none⟩,
⟨some 68,.ld 1 false (.t 67),none⟩,
⟨some 69,.ln (.t 68),none⟩,
⟨some 70,.bin .lss (.t 63) (.t 69),none⟩,
⟨some 71,.mov (.t 70),none⟩,
⟨some 72,.mov (.t 9),some (71,true)⟩,
⟨some 73,.un .not (.t 72),some (71,true)⟩,
⟨some 74,.pick (.t 71) (.t 73) (.c (.bool false)),none⟩])
 (.keep [0,5,9,10,74]))
 (.cond (.t 74)
 .skip
 (.exit 4)))
 (.seq
 (.block 5
 (.seq
 (.seq (.ops [⟨some 77,.mov (.t 0),none⟩,
⟨some 78,.chk (.t 77),none⟩,
⟨some 79,.fa 0 (.t 78),none⟩,
⟨some 80,.fa 1 (.t 79),none⟩,
⟨some 81,.ld 1 false (.t 80),none⟩,
⟨some 82,.mov (.t 10),none⟩,
⟨some 83,.ia 5 (.t 81) (.t 82),none⟩,
⟨some 84,.ld 5 true (.t 83),none⟩,
⟨some 11,.newL [(.int .i64 0),(.int .i64 0),(.int .i64 0),(.int .i64 0),(.int .i64 0)],none⟩,
⟨none,.stB 5 11 (.t 84),none⟩])
 (.keep [0,5,9,10,11]))
 (.seq
 (.seq (.ops [⟨some 85,.mov (.t 0),none⟩,
⟨some 86,.faB 0 11,none⟩,
⟨some 87,.ldE 1 false 11 86,none⟩,
⟨some 88,.call n_spec_l10Top [(.t 85),(.t 87)],none⟩,
⟨some 12,.mov (.t 88),none⟩])
 (.keep [0,5,9,10,11,12]))
 (.seq
 (.seq (.ops [⟨some 89,.mov (.t 0),none⟩,
⟨some 90,.faB 1 11,none⟩,
⟨some 91,.ldE 1 false 11 90,none⟩,
⟨some 92,.call n_spec_l10Top [(.t 89),(.t 91)],none⟩,
⟨some 13,.mov (.t 92),none⟩])
 (.keep [0,5,9,10,11,12,13]))
 (.seq
 (.seq
 (.seq (.ops [⟨some 93,.mov (.t 12),none⟩,
⟨some 94,.mov (.t 13),none⟩,
⟨some 95,.bin .eql (.t 93) (.t 94),none⟩,
⟨some 96,.mov (.t 95),none⟩,
⟨some 97,.mov (.t 0),some (96,false)⟩,
⟨some 98,.ldB 5 true 11,some (96,false)⟩,
⟨some 99,.call n_spec_l10Slack [(.t 97),(.t 98)],some (96,false)⟩,
⟨some 100,.bin .neq (.t 99) (.c (.int .i64 0)),some (96,false)⟩,
⟨some 101,.pick (.t 96) (.c (.bool true)) (.t 100),none⟩,
⟨some 102,.mov (.t 101),none⟩,
⟨some 103,.mov (.t 5),some (102,false)⟩,
⟨some 104,.chk (.t 103),some (102,false)⟩,
⟨some 105,.fa 0 (.t 104),some (102,false)⟩,
⟨some 106,.ld 1 false (.t 105),some (102,false)⟩,
⟨some 107,.mov (.t 12),some (102,false)⟩,
⟨some 108,.ia 1 (.t 106) (.t 107),some (102,false)⟩,
⟨some 109,.ld 1 false (.t 108),some (102,false)⟩,
⟨some 110,.bin .neq (.t 109) (.c (.int .i64 1)),some (102,false)⟩,
⟨some 111,.mov (.t 110),some (102,false)⟩,
⟨some 112,.mov (.t 5),some (111,true)⟩,
⟨some 113,.chk (.t 112),some (111,true)⟩,
⟨some 114,.fa 0 (.t 113),some (111,true)⟩,
⟨some 115,.ld 1 false (.t 114),some (111,true)⟩,
⟨some 116,.mov (.t 13),some (111,true)⟩,
⟨some 117,.ia 1 (.t 115) (.t 116),some (111,true)⟩,
⟨some 118,.ld 1 false (.t 117),some (111,true)⟩,
⟨some 119,.bin .neq (.t 118) (.c (.int .i64 1)),some (111,true)⟩,
⟨some 120,.pick (.t 111) (.t 119) (.c (.bool false)),some (102,false)⟩,
⟨some 121,.pick (.t 102) (.c (.bool true)) (.t 120),none⟩,
⟨some 122,.mov (.t 121),none⟩,
⟨some 123,.mov (.t 5),some (122,false)⟩,
⟨some 124,.chk (.t 123),some (122,false)⟩,
⟨some 125,.fa 0 (.t 124),some (122,false)⟩,
⟨some 126,.ld 1 false (.t 125),some (122,false)⟩,
⟨some 127,.mov (.t 12),some (122,false)⟩,
⟨some 128,.ia 1 (.t 126) (.t 127),some (122,false)⟩,
⟨some 129,.ld 1 false (.t 128),some (122,false)⟩,
⟨some 130,.bin .eql (.t 129) (.c (.int .i64 2)),some (122,false)⟩,
⟨some 131,.pick (.t 122) (.c (.bool true)) (.t 130),none⟩,
⟨some 132,.mov (.t 131),none⟩,
⟨some 133,.mov (.t 5),some (132,false)⟩,
⟨some 134,.chk (.t 133),some (132,false)⟩,
⟨some 135,.fa 0 (.t 134),some (132,false)⟩,
⟨some 136,.ld 1 false (.t 135),some (132,false)⟩,
⟨some 137,.mov (.t 13),some (132,false)⟩,
⟨some 138,.ia 1 (.t 136) (.t 137),some (132,false)⟩,
⟨some 139,.ld 1 false (.t 138),some (132,false)⟩,
⟨some 140,.bin .eql (.t 139) (.c (.int .i64 2)),some (132,false)⟩,
⟨some 141,.pick (.t 132) (.c (.bool true)) (.t 140),none⟩])
 (.keep [0,5,9,10,11,12,13,141]))
 (.cond (.t 141)
 (.exit 5)
 .skip))
 (.seq
 (.seq
 (.seq (.ops [⟨some 142,.mov (.t 5),none⟩,
⟨some 143,.chk (.t 142),none⟩,
⟨some 144,.fa 0 (.t 143),none⟩,
⟨some 145,.ld 1 false (.t 144),none⟩,
⟨some 146,.mov (.t 12),none⟩,
⟨some 147,.ia 1 (.t 145) (.t 146),none⟩,
⟨some 148,.ld 1 false (.t 147),none⟩,
⟨some 149,.bin .eql (.t 148) (.c (.int .i64 1)),none⟩,
⟨some 150,.mov (.t 149),none⟩,
⟨some 151,.mov (.t 5),some (150,true)⟩,
⟨some 152,.chk (.t 151),some (150,true)⟩,
⟨some 153,.fa 0 (.t 152),some (150,true)⟩,
⟨some 154,.ld 1 false (.t 153),some (150,true)⟩,
⟨some 155,.mov (.t 13),some (150,true)⟩,
⟨some 156,.ia 1 (.t 154) (.t 155),some (150,true)⟩,
⟨some 157,.ld 1 false (.t 156),some (150,true)⟩,
⟨some 158,.bin .eql (.t 157) (.c (.int .i64 1)),some (150,true)⟩,
⟨some 159,.pick (.t 150) (.t 158) (.c (.bool false)),none⟩])
 (.keep [0,5,10,11,12,13,159]))
 (.cond (.t 159)
 (.seq
 (.seq (.ops [⟨some 160,.mov (.t 5),none⟩,
⟨some 161,.mov (.t 10),none⟩,
⟨some 2,.mov (.t 160),none⟩,
⟨some 3,.mov (.t 161),none⟩])
 (.keep [2,3]))
 .ret)
 .skip))
 (.seq
 (.seq (.ops [⟨some 162,.faB 0 11,none⟩,
⟨some 163,.ldE 1 false 11 162,none⟩,
⟨some 164,.faB 1 11,none⟩,
⟨some 165,.ldE 1 false 11 164,none⟩,
⟨some 166,.bld [(.int .i64 0),(.int .i64 0)] [(0,(1,(.t 163))),(1,(1,(.t 165)))],none⟩,
⟨some 14,.newL [(.int .i64 0),(.int .i64 0)],none⟩,
⟨none,.stB 2 14 (.t 166),none⟩])
 (.keep [0,5,10,11,12,13,14]))
 (.seq
 (.seq
 (.seq (.ops [⟨some 167,.mov (.t 5),none⟩,
⟨some 168,.chk (.t 167),none⟩,
⟨some 169,.fa 0 (.t 168),none⟩,
⟨some 170,.ld 1 false (.t 169),none⟩,
⟨some 171,.mov (.t 12),none⟩,
⟨some 172,.ia 1 (.t 170) (.t 171),none⟩,
⟨some 173,.ld 1 false (.t 172),none⟩,
⟨some 174,.bin .neq (.t 173) (.c (.int .i64 1)),none⟩])
 (.keep [0,5,10,11,12,13,14,174]))
 (.cond (.t 174)
 (.seq
 (.seq (.ops [⟨some 175,.faB 1 11,none⟩,
⟨some 176,.ldE 1 false 11 175,none⟩,
⟨some 177,.faB 0 11,none⟩,
⟨some 178,.ldE 1 false 11 177,none⟩,
⟨some 179,.bld [(.int .i64 0),(.int .i64 0)] [(0,(1,(.t 176))),(1,(1,(.t 178)))],none⟩,
⟨none,.stB 2 14 (.t 179),none⟩])
 (.keep [0,5,10,12,13,14]))
 (.seq (.ops [⟨some 180,.mov (.t 13),none⟩,
⟨some 181,.mov (.t 12),none⟩,
⟨some 12,.mov (.t 180),none⟩,
⟨some 13,.mov (.t 181),none⟩])
 (.keep [0,5,10,12,13,14])))
 .skip))
 (.seq
 (.seq (.ops [⟨some 183,.mov (.t 0),none⟩,
⟨some 184,.mov (.t 13),none⟩,
⟨some 185,.call n_spec_l10Mate [(.t 183),(.t 184)],none⟩,
⟨some 182,.mov (.t 185),none⟩,
⟨some 186,.ext 0 (.t 182),none⟩,
⟨some 187,.ext 1 (.t 182),none⟩,
⟨some 15,.newL [(.int .i64 0),(.int .i64 0)],none⟩,
⟨none,.stB 2 15 (.t 186),none⟩,
⟨some 16,.mov (.t 187),none⟩])
 (.keep [0,5,10,12,13,14,15]))
 (.seq
 (.seq (.ops [⟨some 188,.mov (.t 0),none⟩,
⟨some 189,.faB 1 15,none⟩,
⟨some 190,.ldE 1 false 15 189,none⟩,
⟨some 191,.call n_spec_l10Top [(.t 188),(.t 190)],none⟩,
⟨some 17,.mov (.t 191),none⟩])
 (.keep [0,5,10,12,13,14,15,17]))
 (.seq
 (.seq (.ops [⟨some 192,.mov (.t 5),none⟩,
⟨some 193,.chk (.t 192),none⟩,
⟨some 194,.fa 0 (.t 193),none⟩,
⟨some 195,.ld 1 false (.t 194),none⟩,
⟨some 196,.mov (.t 13),none⟩,
⟨some 197,.ia 1 (.t 195) (.t 196),none⟩,
⟨none,.st 1 (.t 197) (.c (.int .i64 2)),none⟩])
 (.keep [0,5,10,12,13,14,15,17]))
 (.seq
 (.seq (.free true [⟨some 198,.mov (.t 5),none⟩,
⟨some 199,.chk (.t 198),none⟩,
⟨some 200,.fa 1 (.t 199),none⟩,
⟨some 201,.ld 1 false (.t 200),none⟩,
⟨some 202,.mov (.t 13),none⟩,
⟨some 203,.ldB 2 true 14,none⟩,
⟨some 204,.ia 2 (.t 201) (.t 202),none⟩,
⟨none,.st 2 (.t 204) (.t 203),none⟩])
 (.keep [0,5,10,12,13,15,17]))
 (.seq
 (.seq (.free true [⟨some 205,.mov (.t 5),none⟩,
⟨some 206,.chk (.t 205),none⟩,
⟨some 207,.fa 2 (.t 206),none⟩,
⟨some 208,.ld 1 false (.t 207),none⟩,
⟨some 209,.mov (.t 13),none⟩,
⟨some 210,.mov (.t 5),none⟩,
⟨some 211,.chk (.t 210),none⟩,
⟨some 212,.fa 2 (.t 211),none⟩,
⟨some 213,.ld 1 false (.t 212),none⟩,
⟨some 214,.mov (.t 12),none⟩,
⟨some 215,.ia 1 (.t 213) (.t 214),none⟩,
⟨some 216,.ld 1 false (.t 215),none⟩,
⟨some 217,.ia 1 (.t 208) (.t 209),none⟩,
⟨none,.st 1 (.t 217) (.t 216),none⟩])
 (.keep [0,5,10,12,15,17]))
 (.seq
 (.seq (.ops [⟨some 218,.mov (.t 5),none⟩,
⟨some 219,.chk (.t 218),none⟩,
⟨some 220,.fa 0 (.t 219),none⟩,
⟨some 221,.ld 1 false (.t 220),none⟩,
⟨some 222,.mov (.t 17),none⟩,
⟨some 223,.ia 1 (.t 221) (.t 222),none⟩,
⟨none,.st 1 (.t 223) (.c (.int .i64 1)),none⟩])
 (.keep [0,5,10,12,15,17]))
 (.seq
 (.seq (.free true [⟨some 224,.mov (.t 5),none⟩,
⟨some 225,.chk (.t 224),none⟩,
⟨some 226,.fa 1 (.t 225),none⟩,
⟨some 227,.ld 1 false (.t 226),none⟩,
⟨some 228,.mov (.t 17),none⟩,
⟨some 229,.ldB 2 true 15,none⟩,
⟨some 230,.ia 2 (.t 227) (.t 228),none⟩,
⟨none,.st 2 (.t 230) (.t 229),none⟩])
 (.keep [0,5,10,12,17]))
 (.seq
 (.seq (.free true [⟨some 231,.mov (.t 5),none⟩,
⟨some 232,.chk (.t 231),none⟩,
⟨some 233,.fa 2 (.t 232),none⟩,
⟨some 234,.ld 1 false (.t 233),none⟩,
⟨some 235,.mov (.t 17),none⟩,
⟨some 236,.mov (.t 5),none⟩,
⟨some 237,.chk (.t 236),none⟩,
⟨some 238,.fa 2 (.t 237),none⟩,
⟨some 239,.ld 1 false (.t 238),none⟩,
⟨some 240,.mov (.t 12),none⟩,
⟨some 241,.ia 1 (.t 239) (.t 240),none⟩,
⟨some 242,.ld 1 false (.t 241),none⟩,
⟨some 243,.ia 1 (.t 234) (.t 235),none⟩,
⟨none,.st 1 (.t 243) (.t 242),none⟩])
 (.keep [0,5,10]))
 (.seq (.ops [⟨some 9,.mov (.c (.bool true)),none⟩])
 (.keep [0,5,9,10]))))))))))))))))))
 (.seq (.ops [⟨some 75,.mov (.t 10),none⟩,
⟨some 76,.bin .add (.t 75) (.c (.int .i64 1)),none⟩,
⟨some 10,.mov (.t 76),none⟩])
 (.keep [0,5,9,10]))))))))))))
 (.seq
 (.seq (.ops [⟨some 244,.mov (.t 5),none⟩,
⟨some 2,.mov (.t 244),none⟩,
⟨some 3,.mov (.c (.int .i64 (-1))),none⟩])
 (.keep [2,3]))
 .ret))))))),
 [(.slot 2),(.slot 3)]⟩
def F_spec_l10Adjust : Fun := ⟨2,
 (.seq
 (.seq (.ops [⟨some 10,.mov (.t 0),none⟩,
⟨some 11,.mov (.t 1),none⟩,
⟨some 12,.call n_spec_l10Step [(.t 10),(.t 11)],none⟩,
⟨some 9,.mov (.t 12),none⟩,
⟨some 13,.ext 0 (.t 9),none⟩,
⟨some 14,.ext 1 (.t 9),none⟩,
⟨some 4,.mov (.t 13),none⟩,
⟨some 5,.mov (.t 14),none⟩])
 (.keep [0,1,4,5]))
 (.seq
 (.seq
 (.seq (.ops [⟨some 15,.mov (.t 4),none⟩,
⟨some 16,.bin .lss (.t 15) (.c (.int .i64 0)),none⟩])
 (.keep [0,1,4,5,16]))
 (.cond (.t 16)
 (.seq
 (.seq (.ops [⟨some 17,.mov (.t 0),none⟩,
⟨some 18,.chk (.t 17),none⟩,
⟨some 19,.fa 6 (.t 18),none⟩,
⟨none,.st 1 (.t 19) (.c (.bool true)),none⟩])
 (.keep []))
 .ret)
 .skip))
 (.seq
 (.seq
 (.seq (.ops [⟨some 6,.mov (.c (.int .i64 0)),none⟩])
 (.keep [0,1,4,5,6]))
 (.block 0
 (.loop
 (.seq
 (.seq
 (.seq (.ops [⟨some 20,.mov (.t 6),none⟩,
⟨some 21,.mov (.t 0),none⟩,
⟨some 22,.chk (.t 21),none⟩,
⟨some 23,.fa 0 (.t 22),none⟩,
⟨some 24,.fa 0 (.t 23),none⟩,
⟨some 25,.ld 1 false (.t 24),none⟩,
⟨some 26,.bin .lss (.t 20) (.t 25),none⟩])
 (.keep [0,1,4,5,6,26]))
 (.cond (.t 26)
 .skip
 (.exit 0)))
 (.seq
 (.block 1
 (.seq
 (.seq (.free false [⟨some 29,.mov (.t 1),none⟩,
⟨some 30,.chk (.t 29),none⟩,
⟨some 31,.fa 0 (.t 30),none⟩,
⟨some 32,.ld 1 false (.t 31),none⟩,
⟨some 33,.mov (.t 0),none⟩,
⟨some 34,.mov (.t 6),none⟩,
⟨some 35,.call n_spec_l10Top [(.t 33),(.t 34)],none⟩,
⟨some 36,.ia 1 (.t 32) (.t 35),none⟩,
⟨some 37,.ld 1 false (.t 36),none⟩])
 (.keep [0,1,4,5,6,37]))
 (.block 2
 (.seq
 (.seq (.ops [⟨some 39,.bin .eql (.t 37) (.c (.int .i64 1)),none⟩,
⟨some 38,.mov (.t 39),none⟩])
 (.keep [0,1,4,5,6,37,38]))
 (.cond (.t 38)
 (.seq (.free true [⟨some 40,.mov (.t 0),none⟩,
⟨some 41,.chk (.t 40),none⟩,
⟨some 42,.fa 2 (.t 41),none⟩,
⟨some 43,.ld 1 false (.t 42),none⟩,
⟨some 44,.mov (.t 6),none⟩,
⟨some 45,.mov (.t 0),none⟩,
⟨some 46,.chk (.t 45),none⟩,
⟨some 47,.fa 2 (.t 46),none⟩,
⟨some 48,.ld 1 false (.t 47),none⟩,
⟨some 49,.mov (.t 6),none⟩,
⟨some 50,.ia 1 (.t 48) (.t 49),none⟩,
⟨some 51,.ld 1 false (.t 50),none⟩,
⟨some 52,.mov (.t 4),none⟩,
⟨some 53,.bin .sub (.t 51) (.t 52),none⟩,
⟨some 54,.ia 1 (.t 43) (.t 44),none⟩,
⟨none,.st 1 (.t 54) (.t 53),none⟩])
 (.keep [0,1,4,5,6]))
 (.seq
 (.seq (.ops [⟨some 56,.bin .eql (.t 37) (.c (.int .i64 2)),none⟩,
⟨some 55,.mov (.t 56),none⟩])
 (.keep [0,1,4,5,6,55]))
 (.cond (.t 55)
 (.seq (.free true [⟨some 57,.mov (.t 0),none⟩,
⟨some 58,.chk (.t 57),none⟩,
⟨some 59,.fa 2 (.t 58),none⟩,
⟨some 60,.ld 1 false (.t 59),none⟩,
⟨some 61,.mov (.t 6),none⟩,
⟨some 62,.mov (.t 0),none⟩,
⟨some 63,.chk (.t 62),none⟩,
⟨some 64,.fa 2 (.t 63),none⟩,
⟨some 65,.ld 1 false (.t 64),none⟩,
⟨some 66,.mov (.t 6),none⟩,
⟨some 67,.ia 1 (.t 65) (.t 66),none⟩,
⟨some 68,.ld 1 false (.t 67),none⟩,
⟨some 69,.mov (.t 4),none⟩,
⟨some 70,.bin .add (.t 68) (.t 69),none⟩,
⟨some 71,.ia 1 (.t 60) (.t 61),none⟩,
⟨none,.st 1 (.t 71) (.t 70),none⟩])
 (.keep [0,1,4,5,6]))
 .skip)))))))
 (.seq (.ops [⟨some 27,.mov (.t 6),none⟩,
⟨some 28,.bin .add (.t 27) (.c (.int .i64 1)),none⟩,
⟨some 6,.mov (.t 28),none⟩])
 (.keep [0,1,4,5,6])))))))
 (.seq
 (.seq
 (.seq (.ops [⟨some 72,.mov (.t 0),none⟩,
⟨some 73,.chk (.t 72),none⟩,
⟨some 74,.fa 0 (.t 73),none⟩,
⟨some 75,.fa 0 (.t 74),none⟩,
⟨some 76,.ld 1 false (.t 75),none⟩,
⟨some 7,.mov (.t 76),none⟩])
 (.keep [0,1,4,5,7]))
 (.block 3
 (.loop
 (.seq
 (.seq
 (.seq (.ops [⟨some 77,.mov (.t 7),none⟩,
⟨some 78,.mov (.t 0),none⟩,
⟨some 79,.chk (.t 78),none⟩,
⟨some 80,.fa 3 (.t 79),none⟩,
⟨some 81,.ld 1 false (.t 80),none⟩,
⟨some 82,.ln (.t 81),none⟩,
⟨some 83,.bin .lss (.t 77) (.t 82),none⟩])
 (.keep [0,1,4,5,7,83]))
 (.cond (.t 83)
 .skip
 (.exit 3)))
 (.seq
 (.block 4
 (.seq
 (.seq
 (.seq (.ops [⟨some 86,.mov (.t 0),none⟩,
⟨some 87,.mov (.t 7),none⟩,
⟨some 88,.call n_spec_l10IsTop [(.t 86),(.t 87)],none⟩,
⟨some 89,.un .not (.t 88),none⟩])
 (.keep [0,1,4,5,7,89]))
 (.cond (.t 89)
 (.exit 4)
 .skip))
 (.seq
 (.seq (.ops [⟨some 90,.mov (.t 1),none⟩,
⟨some 91,.chk (.t 90),none⟩,
⟨some 92,.fa 0 (.t 91),none⟩,
⟨some 93,.ld 1 false (.t 92),none⟩,
⟨some 94,.mov (.t 7),none⟩,
⟨some 95,.ia 1 (.t 93) (.t 94),none⟩,
⟨some 96,.ld 1 false (.t 95),none⟩])
 (.keep [0,1,4,5,7,96]))
 (.block 5
 (.seq
 (.seq (.ops [⟨some 98,.bin .eql (.t 96) (.c (.int .i64 1)),none⟩,
⟨some 97,.mov (.t 98),none⟩])
 (.keep [0,1,4,5,7,96,97]))
 (.cond (.t 97)
 (.seq (.free true [⟨some 99,.mov (.t 0),none⟩,
⟨some 100,.chk (.t 99),none⟩,
⟨some 101,.fa 3 (.t 100),none⟩,
⟨some 102,.ld 1 false (.t 101),none⟩,
⟨some 103,.mov (.t 7),none⟩,
⟨some 104,.mov (.t 0),none⟩,
⟨some 105,.chk (.t 104),none⟩,
⟨some 106,.fa 3 (.t 105),none⟩,
⟨some 107,.ld 1 false (.t 106),none⟩,
⟨some 108,.mov (.t 7),none⟩,
⟨some 109,.ia 6 (.t 107) (.t 108),none⟩,
⟨some 110,.fa 3 (.t 109),none⟩,
⟨some 111,.ld 1 false (.t 110),none⟩,
⟨some 112,.mov (.t 4),none⟩,
⟨some 113,.bin .mul (.c (.int .i64 2)) (.t 112),none⟩,
⟨some 114,.bin .add (.t 111) (.t 113),none⟩,
⟨some 115,.ia 6 (.t 102) (.t 103),none⟩,
⟨some 116,.fa 3 (.t 115),none⟩,
⟨none,.st 1 (.t 116) (.t 114),none⟩])
 (.keep [0,1,4,5,7]))
 (.seq
 (.seq (.ops [⟨some 118,.bin .eql (.t 96) (.c (.int .i64 2)),none⟩,
⟨some 117,.mov (.t 118),none⟩])
 (.keep [0,1,4,5,7,117]))
 (.cond (.t 117)
 (.seq (.free true [⟨some 119,.mov (.t 0),none⟩,
⟨some 120,.chk (.t 119),none⟩,
⟨some 121,.fa 3 (.t 120),none⟩,
⟨some 122,.ld 1 false (.t 121),none⟩,
⟨some 123,.mov (.t 7),none⟩,
⟨some 124,.mov (.t 0),none⟩,
⟨some 125,.chk (.t 124),none⟩,
⟨some 126,.fa 3 (.t 125),none⟩,
⟨some 127,.ld 1 false (.t 126),none⟩,
⟨some 128,.mov (.t 7),none⟩,
⟨some 129,.ia 6 (.t 127) (.t 128),none⟩,
⟨some 130,.fa 3 (.t 129),none⟩,
⟨some 131,.ld 1 false (.t 130),none⟩,
⟨some 132,.mov (.t 4),none⟩,
⟨some 133,.bin .mul (.c (.int .i64 2)) (.t 132),none⟩,
⟨some 134,.bin .sub (.t 131) (.t 133),none⟩,
⟨some 135,.ia 6 (.t 122) (.t 123),none⟩,
⟨some 136,.fa 3 (.t 135),none⟩,
⟨none,.st 1 (.t 136) (.t 134),none⟩])
 (.keep [0,1,4,5,7]))
 .skip))))))))
 (.seq (.ops [⟨some 84,.mov (.t 7),none⟩,
⟨some 85,.bin .add (.t 84) (.c (.int .i64 1)),none⟩,
⟨some 7,.mov (.t 85),none⟩])
 (.keep [0,1,4,5,7])))))))
 (.seq
 (.seq
 (.seq (.ops [⟨some 137,.mov (.t 5),none⟩,
⟨some 138,.mov (.t 4),none⟩,
⟨some 139,.bin .eql (.t 137) (.t 138),none⟩])
 (.keep [0,1,139]))
 (.cond (.t 139)
 (.seq
 (.seq (.ops [⟨some 140,.mov (.t 0),none⟩,
⟨some 141,.chk (.t 140),none⟩,
⟨some 142,.fa 6 (.t 141),none⟩,
⟨none,.st 1 (.t 142) (.c (.bool true)),none⟩])
 (.keep []))
 .ret)
 .skip))
 (.seq
 (.seq (.ops [⟨some 143,.mov (.t 0),none⟩,
⟨some 144,.mov (.t 1),none⟩,
⟨some 145,.chk (.t 144),none⟩,
⟨some 146,.fa 0 (.t 145),none⟩,
⟨some 147,.ld 1 false (.t 146),none⟩,
⟨some 148,.call n_spec_l10First [(.t 143),(.t 147)],none⟩,
⟨some 8,.mov (.t 148),none⟩])
 (.keep [0,8]))
 (.seq
 (.seq (.ops [⟨some 149,.mov (.t 8),none⟩,
⟨some 150,.bin .geq (.t 149) (.c (.int .i64 0)),none⟩])
 (.keep [0,8,150]))
 (.cond (.t 150)
 (.seq (.ops [⟨some 151,.mov (.t 0),none⟩,
⟨some 152,.mov (.t 8),none⟩,
⟨some 153,.call n_spec_l10Open [(.t 151),(.t 152)],none⟩])
 (.keep []))
 .skip)))))))),
 []⟩
def F_spec_l10Top : Fun := ⟨2,
 (.seq
 (.seq (.ops [⟨some 4,.mov (.c (.int .i64 0)),none⟩])
 (.keep [0,1]))
 (.seq
 (.block 0
 (.loop
 (.seq
 (.seq
 (.seq (.ops [⟨some 5,.mov (.t 0),none⟩,
⟨some 6,.chk (.t 5),none⟩,
⟨some 7,.fa 3 (.t 6),none⟩,
⟨some 8,.ld 1 false (.t 7),none⟩,
⟨some 9,.mov (.t 1),none⟩,
⟨some 10,.ia 6 (.t 8) (.t 9),none⟩,
⟨some 11,.fa 4 (.t 10),none⟩,
⟨some 12,.ld 1 false (.t 11),none⟩,
⟨some 13,.bin .geq (.t 12) (.c (.int .i64 0)),none⟩])
 (.keep [0,1,13]))
 (.cond (.t 13)
 .skip
 (.exit 0)))
 (.block 1
 (.seq (.ops [⟨some 14,.mov (.t 0),none⟩,
⟨some 15,.chk (.t 14),none⟩,
⟨some 16,.fa 3 (.t 15),none⟩,
⟨some 17,.ld 1 false (.t 16),none⟩,
⟨some 18,.mov (.t 1),none⟩,
⟨some 19,.ia 6 (.t 17) (.t 18),none⟩,
⟨some 20,.fa 4 (.t 19),none⟩,
⟨some 21,.ld 1 false (.t 20),none⟩,
⟨some 1,.mov (.t 21),none⟩])
 (.keep [0,1]))))))
 (.seq
 (.seq (.ops [⟨some 22,.mov (.t 1),none⟩,
⟨some 4,.mov (.t 22),none⟩])
 (.keep [4]))
 .ret))),
 [(.slot 4)]⟩
def F_spec_l10Shrink : Fun := ⟨3,
 (.seq
 (.seq (.ops [⟨some 5,.boxL 5 (.t 2),none⟩])
 (.keep [0,1,5]))
 (.seq
 (.seq (.ops [⟨some 19,.mov (.t 0),none⟩,
⟨some 20,.mov (.t 1),none⟩,
⟨some 21,.mov (.t 0),none⟩,
⟨some 22,.faB 0 5,none⟩,
⟨some 23,.ldE 1 false 5 22,none⟩,
⟨some 24,.call n_spec_l10Top [(.t 21),(.t 23)],none⟩,
⟨some 25,.call n_spec_l10Way [(.t 19),(.t 20),(.t 24)],none⟩,
⟨some 6,.mov (.t 25),none⟩])
 (.keep [0,1,5,6]))
 (.seq
 (.seq (.ops [⟨some 26,.mov (.t 0),none⟩,
⟨some 27,.mov (.t 1),none⟩,
⟨some 28,.mov (.t 0),none⟩,
⟨some 29,.faB 1 5,none⟩,
⟨some 30,.ldE 1 false 5 29,none⟩,
⟨some 31,.call n_spec_l10Top [(.t 28),(.t 30)],none⟩,
⟨some 32,.call n_spec_l10Way [(.t 26),(.t 27),(.t 31)],none⟩,
⟨some 7,.mov (.t 32),none⟩])
 (.keep [0,1,5,6,7]))
 (.seq
 (.seq (.ops [⟨some 8,.mov (.c (.int .i64 0)),none⟩])
 (.keep [0,1,5,6,7,8]))
 (.seq
 (.block 0
 (.loop
 (.seq
 (.seq
 (.seq (.ops [⟨some 33,.mov (.t 7),none⟩,
⟨some 34,.mov (.t 6),none⟩,
⟨some 35,.mov (.t 8),none⟩,
⟨some 36,.ia 1 (.t 34) (.t 35),none⟩,
⟨some 37,.ld 1 false (.t 36),none⟩,
⟨some 38,.call n_spec_l03In [(.t 33),(.t 37)],none⟩,
⟨some 39,.un .not (.t 38),none⟩])
 (.keep [0,1,5,6,7,8,39]))
 (.cond (.t 39)
 .skip
 (.exit 0)))
 (.block 1
 (.seq (.ops [⟨some 40,.mov (.t 8),none⟩,
⟨some 41,.bin .add (.t 40) (.c (.int .i64 1)),none⟩,
⟨some 8,.mov (.t 41),none⟩])
 (.keep [0,1,5,6,7,8]))))))
 (.seq
 (.seq (.ops [⟨some 42,.mov (.t 7),none⟩,
⟨some 43,.mov (.t 6),none⟩,
⟨some 44,.mov (.t 8),none⟩,
⟨some 45,.ia 1 (.t 43) (.t 44),none⟩,
⟨some 46,.ld 1 false (.t 45),none⟩,
⟨some 47,.call n_spec_l08Place [(.t 42),(.t 46)],none⟩,
⟨some 9,.mov (.t 47),none⟩])
 (.keep [0,1,5,6,7,8,9]))
 (.seq
 (.seq (.ops [⟨some 48,.mov (.t 6),none⟩,
⟨some 49,.mov (.t 8),none⟩,
⟨some 50,.ia 1 (.t 48) (.t 49),none⟩,
⟨some 51,.ld 1 false (.t 50),none⟩,
⟨some 52,.lit 1 1 y_int [(.int .i64 0)] [(0,(.t 51))],none⟩,
⟨some 10,.mov (.t 52),none⟩])
 (.keep [0,1,5,6,7,8,9,10]))
 (.seq
 (.seq (.ops [⟨some 53,.lit 0 2 y_l10Link [(.int .i64 0),(.int .i64 0)] [],none⟩,
⟨some 11,.mov (.t 53),none⟩])
 (.keep [0,1,5,6,7,8,9,10,11]))
 (.seq
 (.seq
 (.seq (.ops [⟨some 54,.mov (.t 8),none⟩,
⟨some 55,.bin .sub (.t 54) (.c (.int .i64 1)),none⟩,
⟨some 12,.mov (.t 55),none⟩])
 (.keep [0,1,5,6,7,8,9,10,11,12]))
 (.block 2
 (.loop
 (.seq
 (.seq
 (.seq (.ops [⟨some 56,.mov (.t 12),none⟩,
⟨some 57,.bin .geq (.t 56) (.c (.int .i64 0)),none⟩])
 (.keep [0,1,5,6,7,8,9,10,11,12,57]))
 (.cond (.t 57)
 .skip
 (.exit 2)))
 (.seq
 (.block 3
 (.seq
 (.seq (.ops [⟨some 60,.mov (.t 10),none⟩,
⟨some 61,.mov (.t 6),none⟩,
⟨some 62,.mov (.t 12),none⟩,
⟨some 63,.ia 1 (.t 61) (.t 62),none⟩,
⟨some 64,.ld 1 false (.t 63),none⟩,
⟨some 65,.litL 1 1 [(.int .i64 0)] [(0,(.t 64))],none⟩,
⟨some 66,.appL 1 y_int 8 1 (.t 60) 65,none⟩,
⟨some 10,.mov (.t 66),none⟩])
 (.keep [0,1,5,6,7,8,9,10,11,12]))
 (.seq (.free true [⟨some 67,.mov (.t 11),none⟩,
⟨some 68,.mov (.t 1),none⟩,
⟨some 69,.chk (.t 68),none⟩,
⟨some 70,.fa 1 (.t 69),none⟩,
⟨some 71,.ld 1 false (.t 70),none⟩,
⟨some 72,.mov (.t 6),none⟩,
⟨some 73,.mov (.t 12),none⟩,
⟨some 74,.ia 1 (.t 72) (.t 73),none⟩,
⟨some 75,.ld 1 false (.t 74),none⟩,
⟨some 76,.ia 2 (.t 71) (.t 75),none⟩,
⟨some 77,.ld 2 true (.t 76),none⟩,
⟨some 78,.litL 1 2 [(.int .i64 0),(.int .i64 0)] [(0,(.t 77))],none⟩,
⟨some 79,.appL 2 y_l10Link 16 1 (.t 67) 78,none⟩,
⟨some 11,.mov (.t 79),none⟩])
 (.keep [0,1,5,6,7,8,9,10,11,12]))))
 (.seq (.ops [⟨some 58,.mov (.t 12),none⟩,
⟨some 59,.bin .sub (.t 58) (.c (.int .i64 1)),none⟩,
⟨some 12,.mov (.t 59),none⟩])
 (.keep [0,1,5,6,7,8,9,10,11,12])))))))
 (.seq
 (.seq (.ops [⟨some 80,.mov (.t 11),none⟩,
⟨some 81,.faB 0 5,none⟩,
⟨some 82,.ldE 1 false 5 81,none⟩,
⟨some 83,.faB 1 5,none⟩,
⟨some 84,.ldE 1 false 5 83,none⟩,
⟨some 85,.bld [(.int .i64 0),(.int .i64 0)] [(0,(1,(.t 82))),(1,(1,(.t 84)))],none⟩,
⟨some 86,.litL 1 2 [(.int .i64 0),(.int .i64 0)] [(0,(.t 85))],none⟩,
⟨some 87,.appL 2 y_l10Link 16 1 (.t 80) 86,none⟩,
⟨some 11,.mov (.t 87),none⟩])
 (.keep [0,1,6,7,8,9,10,11]))
 (.seq
 (.seq
 (.seq (.ops [⟨some 13,.mov (.c (.int .i64 0)),none⟩])
 (.keep [0,1,6,7,8,9,10,11,13]))
 (.block 4
 (.loop
 (.seq
 (.seq
 (.seq (.ops [⟨some 88,.mov (.t 13),none⟩,
⟨some 89,.mov (.t 9),none⟩,
⟨some 90,.bin .lss (.t 88) (.t 89),none⟩])
 (.keep [0,1,6,7,8,9,10,11,13,90]))
 (.cond (.t 90)
 .skip
 (.exit 4)))
 (.seq
 (.block 5
 (.seq
 (.seq (.ops [⟨some 93,.mov (.t 10),none⟩,
⟨some 94,.mov (.t 7),none⟩,
⟨some 95,.mov (.t 13),none⟩,
⟨some 96,.ia 1 (.t 94) (.t 95),none⟩,
⟨some 97,.ld 1 false (.t 96),none⟩,
⟨some 98,.litL 1 1 [(.int .i64 0)] [(0,(.t 97))],none⟩,
⟨some 99,.appL 1 y_int 8 1 (.t 93) 98,none⟩,
⟨some 10,.mov (.t 99),none⟩])
 (.keep [0,1,6,7,8,9,10,11,13]))
 (.seq
 (.seq (.free true [⟨some 100,.mov (.t 1),none⟩,
⟨some 101,.chk (.t 100),none⟩,
⟨some 102,.fa 1 (.t 101),none⟩,
⟨some 103,.ld 1 false (.t 102),none⟩,
⟨some 104,.mov (.t 7),none⟩,
⟨some 105,.mov (.t 13),none⟩,
⟨some 106,.ia 1 (.t 104) (.t 105),none⟩,
⟨some 107,.ld 1 false (.t 106),none⟩,
⟨some 108,.ia 2 (.t 103) (.t 107),none⟩,
⟨some 109,.ld 2 true (.t 108),none⟩,
⟨some 14,.newL [(.int .i64 0),(.int .i64 0)],none⟩,
⟨none,.stB 2 14 (.t 109),none⟩])
 (.keep [0,1,6,7,8,9,10,11,13,14]))
 (.seq (.ops [⟨some 110,.mov (.t 11),none⟩,
⟨some 111,.faB 1 14,none⟩,
⟨some 112,.ldE 1 false 14 111,none⟩,
⟨some 113,.faB 0 14,none⟩,
⟨some 114,.ldE 1 false 14 113,none⟩,
⟨some 115,.bld [(.int .i64 0),(.int .i64 0)] [(0,(1,(.t 112))),(1,(1,(.t 114)))],none⟩,
⟨some 116,.litL 1 2 [(.int .i64 0),(.int .i64 0)] [(0,(.t 115))],none⟩,
⟨some 117,.appL 2 y_l10Link 16 1 (.t 110) 116,none⟩,
⟨some 11,.mov (.t 117),none⟩])
 (.keep [0,1,6,7,8,9,10,11,13])))))
 (.seq (.ops [⟨some 91,.mov (.t 13),none⟩,
⟨some 92,.bin .add (.t 91) (.c (.int .i64 1)),none⟩,
⟨some 13,.mov (.t 92),none⟩])
 (.keep [0,1,6,7,8,9,10,11,13])))))))
 (.seq
 (.seq (.ops [⟨some 118,.lit 0 2 y_l10Link [(.int .i64 0),(.int .i64 0)] [],none⟩,
⟨some 15,.mov (.t 118),none⟩])
 (.keep [0,6,8,10,11,15]))
 (.seq
 (.seq
 (.seq (.ops [⟨some 16,.mov (.c (.int .i64 0)),none⟩])
 (.keep [0,6,8,10,11,15,16]))
 (.block 6
 (.loop
 (.seq
 (.seq
 (.seq (.ops [⟨some 119,.mov (.t 16),none⟩,
⟨some 120,.mov (.t 0),none⟩,
⟨some 121,.chk (.t 120),none⟩,
⟨some 122,.fa 4 (.t 121),none⟩,
⟨some 123,.ld 1 false (.t 122),none⟩,
⟨some 124,.ln (.t 123),none⟩,
⟨some 125,.bin .lss (.t 119) (.t 124),none⟩])
 (.keep [0,6,8,10,11,15,16,125]))
 (.cond (.t 125)
 .skip
 (.exit 6)))
 (.seq
 (.block 7
 (.seq
 (.seq (.ops [⟨some 128,.mov (.t 10),none⟩,
⟨some 129,.mov (.t 0),none⟩,
⟨some 130,.mov (.t 0),none⟩,
⟨some 131,.chk (.t 130),none⟩,
⟨some 132,.fa 4 (.t 131),none⟩,
⟨some 133,.ld 1 false (.t 132),none⟩,
⟨some 134,.mov (.t 16),none⟩,
⟨some 135,.ia 2 (.t 133) (.t 134),none⟩,
⟨some 136,.fa 0 (.t 135),none⟩,
⟨some 137,.ld 1 false (.t 136),none⟩,
⟨some 138,.call n_spec_l10Top [(.t 129),(.t 137)],none⟩,
⟨some 139,.call n_spec_l03In [(.t 128),(.t 138)],none⟩,
⟨some 140,.un .not (.t 139),none⟩,
⟨some 141,.mov (.t 140),none⟩,
⟨some 142,.mov (.t 10),some (141,false)⟩,
⟨some 143,.mov (.t 0),some (141,false)⟩,
⟨some 144,.mov (.t 0),some (141,false)⟩,
⟨some 145,.chk (.t 144),some (141,false)⟩,
⟨some 146,.fa 4 (.t 145),some (141,false)⟩,
⟨some 147,.ld 1 false (.t 146),some (141,false)⟩,
⟨some 148,.mov (.t 16),some (141,false)⟩,
⟨some 149,.ia 2 (.t 147) (.t 148),some (141,false)⟩,
⟨some 150,.fa 1 (.t 149),some (141,false)⟩,
⟨some 151,.ld 1 false (.t 150),some (141,false)⟩,
⟨some 152,.call n_spec_l10Top [(.t 143),(.t 151)],some (141,false)⟩,
⟨some 153,.call n_spec_l03In [(.t 142),(.t 152)],some (141,false)⟩,
⟨some 154,.un .not (.t 153),some (141,false)⟩,
⟨some 155,.pick (.t 141) (.c (.bool true)) (.t 154),none⟩])
 (.keep [0,6,8,10,11,15,16,155]))
 (.cond (.t 155)
 (.seq (.ops [⟨some 156,.mov (.t 15),none⟩,
⟨some 157,.mov (.t 0),none⟩,
⟨some 158,.chk (.t 157),none⟩,
⟨some 159,.fa 4 (.t 158),none⟩,
⟨some 160,.ld 1 false (.t 159),none⟩,
⟨some 161,.mov (.t 16),none⟩,
⟨some 162,.ia 2 (.t 160) (.t 161),none⟩,
⟨some 163,.ld 2 true (.t 162),none⟩,
⟨some 164,.litL 1 2 [(.int .i64 0),(.int .i64 0)] [(0,(.t 163))],none⟩,
⟨some 165,.appL 2 y_l10Link 16 1 (.t 156) 164,none⟩,
⟨some 15,.mov (.t 165),none⟩])
 (.keep [0,6,8,10,11,15,16]))
 .skip)))
 (.seq (.ops [⟨some 126,.mov (.t 16),none⟩,
⟨some 127,.bin .add (.t 126) (.c (.int .i64 1)),none⟩,
⟨some 16,.mov (.t 127),none⟩])
 (.keep [0,6,8,10,11,15,16])))))))
 (.seq
 (.seq (.ops [⟨some 166,.mov (.t 0),none⟩,
⟨some 167,.mov (.t 6),none⟩,
⟨some 168,.mov (.t 8),none⟩,
⟨some 169,.ia 1 (.t 167) (.t 168),none⟩,
⟨some 170,.ld 1 false (.t 169),none⟩,
⟨some 171,.call n_spec_l10Base [(.t 166),(.t 170)],none⟩,
⟨some 17,.mov (.t 171),none⟩])
 (.keep [0,10,11,15,17]))
 (.seq
 (.seq (.ops [⟨some 172,.mov (.t 0),none⟩,
⟨some 173,.mov (.t 15),none⟩,
⟨some 174,.chk (.t 172),none⟩,
⟨some 175,.fa 4 (.t 174),none⟩,
⟨none,.st 1 (.t 175) (.t 173),none⟩])
 (.keep [0,10,11,17]))
 (.seq
 (.seq (.ops [⟨some 176,.mov (.t 0),none⟩,
⟨some 177,.mov (.t 0),none⟩,
⟨some 178,.chk (.t 177),none⟩,
⟨some 179,.fa 3 (.t 178),none⟩,
⟨some 180,.ld 1 false (.t 179),none⟩,
⟨some 181,.mov (.t 10),none⟩,
⟨some 182,.mov (.t 11),none⟩,
⟨some 183,.mov (.t 17),none⟩,
⟨some 184,.bld [(.slice none 0 0),(.slice none 0 0),(.int .i64 0),(.int .i64 0),(.int .i64 0),(.bool false)] [(0,(1,(.t 181))),(1,(1,(.t 182))),(2,(1,(.t 183))),(4,(1,(.c (.int .i64 (-1)))))],none⟩,
⟨some 185,.litL 1 6 [(.slice none 0 0),(.slice none 0 0),(.int .i64 0),(.int .i64 0),(.int .i64 0),(.bool false)] [(0,(.t 184))],none⟩,
⟨some 186,.appL 6 y_l10Node 80 1 (.t 180) 185,none⟩,
⟨some 187,.chk (.t 176),none⟩,
⟨some 188,.fa 3 (.t 187),none⟩,
⟨none,.st 1 (.t 188) (.t 186),none⟩])
 (.keep [0,10]))
 (.seq
 (.seq (.ops [⟨some 18,.mov (.c (.int .i64 0)),none⟩])
 (.keep [0,10,18]))
 (.block 8
 (.loop
 (.seq
 (.seq
 (.seq (.ops [⟨some 189,.mov (.t 18),none⟩,
⟨some 190,.mov (.t 10),none⟩,
⟨some 191,.ln (.t 190),none⟩,
⟨some 192,.bin .lss (.t 189) (.t 191),none⟩])
 (.keep [0,10,18,192]))
 (.cond (.t 192)
 .skip
 (.exit 8)))
 (.seq
 (.block 9
 (.seq (.free true [⟨some 195,.mov (.t 0),none⟩,
⟨some 196,.chk (.t 195),none⟩,
⟨some 197,.fa 3 (.t 196),none⟩,
⟨some 198,.ld 1 false (.t 197),none⟩,
⟨some 199,.mov (.t 10),none⟩,
⟨some 200,.mov (.t 18),none⟩,
⟨some 201,.ia 1 (.t 199) (.t 200),none⟩,
⟨some 202,.ld 1 false (.t 201),none⟩,
⟨some 203,.mov (.t 0),none⟩,
⟨some 204,.chk (.t 203),none⟩,
⟨some 205,.fa 3 (.t 204),none⟩,
⟨some 206,.ld 1 false (.t 205),none⟩,
⟨some 207,.ln (.t 206),none⟩,
⟨some 208,.bin .sub (.t 207) (.c (.int .i64 1)),none⟩,
⟨some 209,.ia 6 (.t 198) (.t 202),none⟩,
⟨some 210,.fa 4 (.t 209),none⟩,
⟨none,.st 1 (.t 210) (.t 208),none⟩])
 (.keep [0,10,18])))
 (.seq (.ops [⟨some 193,.mov (.t 18),none⟩,
⟨some 194,.bin .add (.t 193) (.c (.int .i64 1)),none⟩,
⟨some 18,.mov (.t 194),none⟩])
 (.keep [0,10,18]))))))))))))))))))))))),
 []⟩
end Go.Proofs.Ytafhipglhnfgnaa.Ab
