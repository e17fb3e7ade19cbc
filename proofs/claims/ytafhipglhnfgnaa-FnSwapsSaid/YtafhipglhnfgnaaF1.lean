/- The functions, as they are read. No conditions. -/
import Derived.Test.YtafhipglhnfgnaaFN
namespace Go.Proofs.Ytafhipglhnfgnaa.Ab
def F_spec_l10Way : Fun := ⟨3,
 (.seq
 (.seq (.ops [⟨some 6,.mov (.c (.slice none 0 0)),none⟩])
 (.keep [0,1,2]))
 (.seq
 (.seq (.ops [⟨some 8,.mov (.t 2),none⟩,
⟨some 9,.lit 1 1 y_int [(.int .i64 0)] [(0,(.t 8))],none⟩,
⟨some 7,.mov (.t 9),none⟩])
 (.keep [0,1,2,7]))
 (.seq
 (.block 0
 (.loop
 (.seq
 (.seq
 (.seq (.ops [⟨some 10,.mov (.t 1),none⟩,
⟨some 11,.chk (.t 10),none⟩,
⟨some 12,.fa 2 (.t 11),none⟩,
⟨some 13,.ld 1 false (.t 12),none⟩,
⟨some 14,.mov (.t 2),none⟩,
⟨some 15,.ia 1 (.t 13) (.t 14),none⟩,
⟨some 16,.ld 1 false (.t 15),none⟩,
⟨some 17,.mov (.t 2),none⟩,
⟨some 18,.bin .neq (.t 16) (.t 17),none⟩])
 (.keep [0,1,2,7,18]))
 (.cond (.t 18)
 .skip
 (.exit 0)))
 (.block 1
 (.seq
 (.seq (.ops [⟨some 19,.mov (.t 0),none⟩,
⟨some 20,.mov (.t 1),none⟩,
⟨some 21,.chk (.t 20),none⟩,
⟨some 22,.fa 1 (.t 21),none⟩,
⟨some 23,.ld 1 false (.t 22),none⟩,
⟨some 24,.mov (.t 2),none⟩,
⟨some 25,.ia 2 (.t 23) (.t 24),none⟩,
⟨some 26,.fa 0 (.t 25),none⟩,
⟨some 27,.ld 1 false (.t 26),none⟩,
⟨some 28,.call n_spec_l10Top [(.t 19),(.t 27)],none⟩,
⟨some 2,.mov (.t 28),none⟩])
 (.keep [0,1,2,7]))
 (.seq (.ops [⟨some 29,.mov (.t 7),none⟩,
⟨some 30,.mov (.t 2),none⟩,
⟨some 31,.litL 1 1 [(.int .i64 0)] [(0,(.t 30))],none⟩,
⟨some 32,.appL 1 y_int 8 1 (.t 29) 31,none⟩,
⟨some 7,.mov (.t 32),none⟩])
 (.keep [0,1,2,7])))))))
 (.seq
 (.seq (.ops [⟨some 33,.mov (.t 7),none⟩,
⟨some 6,.mov (.t 33),none⟩])
 (.keep [6]))
 .ret)))),
 [(.slot 6)]⟩
def F_spec_l08Place : Fun := ⟨2,
 (.seq
 (.seq (.ops [⟨some 4,.mov (.c (.int .i64 0)),none⟩])
 (.keep [0,1]))
 (.seq
 (.seq
 (.seq (.ops [⟨some 5,.mov (.c (.int .i64 0)),none⟩])
 (.keep [0,1,5]))
 (.block 0
 (.loop
 (.seq
 (.seq
 (.seq (.ops [⟨some 6,.mov (.t 5),none⟩,
⟨some 7,.mov (.t 0),none⟩,
⟨some 8,.ln (.t 7),none⟩,
⟨some 9,.bin .lss (.t 6) (.t 8),none⟩])
 (.keep [0,1,5,9]))
 (.cond (.t 9)
 .skip
 (.exit 0)))
 (.seq
 (.block 1
 (.seq
 (.seq (.ops [⟨some 12,.mov (.t 0),none⟩,
⟨some 13,.mov (.t 5),none⟩,
⟨some 14,.ia 1 (.t 12) (.t 13),none⟩,
⟨some 15,.ld 1 false (.t 14),none⟩,
⟨some 16,.mov (.t 1),none⟩,
⟨some 17,.bin .eql (.t 15) (.t 16),none⟩])
 (.keep [0,1,5,17]))
 (.cond (.t 17)
 (.seq
 (.seq (.ops [⟨some 18,.mov (.t 5),none⟩,
⟨some 4,.mov (.t 18),none⟩])
 (.keep [4]))
 .ret)
 .skip)))
 (.seq (.ops [⟨some 10,.mov (.t 5),none⟩,
⟨some 11,.bin .add (.t 10) (.c (.int .i64 1)),none⟩,
⟨some 5,.mov (.t 11),none⟩])
 (.keep [0,1,5])))))))
 (.seq
 (.seq (.ops [⟨some 4,.mov (.c (.int .i64 (-1))),none⟩])
 (.keep [4]))
 .ret))),
 [(.slot 4)]⟩
def F_spec_l10Without : Fun := ⟨2,
 (.seq
 (.seq (.ops [⟨some 6,.lit 0 2 y_l10Link [(.int .i64 0),(.int .i64 0)] [],none⟩,
⟨some 4,.mov (.t 6),none⟩])
 (.keep [0,1,4]))
 (.seq
 (.seq
 (.seq (.ops [⟨some 5,.mov (.c (.int .i64 0)),none⟩])
 (.keep [0,1,4,5]))
 (.block 0
 (.loop
 (.seq
 (.seq
 (.seq (.ops [⟨some 7,.mov (.t 5),none⟩,
⟨some 8,.mov (.t 0),none⟩,
⟨some 9,.chk (.t 8),none⟩,
⟨some 10,.fa 4 (.t 9),none⟩,
⟨some 11,.ld 1 false (.t 10),none⟩,
⟨some 12,.ln (.t 11),none⟩,
⟨some 13,.bin .lss (.t 7) (.t 12),none⟩])
 (.keep [0,1,4,5,13]))
 (.cond (.t 13)
 .skip
 (.exit 0)))
 (.seq
 (.block 1
 (.seq
 (.seq (.ops [⟨some 16,.mov (.t 0),none⟩,
⟨some 17,.mov (.t 0),none⟩,
⟨some 18,.chk (.t 17),none⟩,
⟨some 19,.fa 4 (.t 18),none⟩,
⟨some 20,.ld 1 false (.t 19),none⟩,
⟨some 21,.mov (.t 5),none⟩,
⟨some 22,.ia 2 (.t 20) (.t 21),none⟩,
⟨some 23,.fa 0 (.t 22),none⟩,
⟨some 24,.ld 1 false (.t 23),none⟩,
⟨some 25,.call n_spec_l10Top [(.t 16),(.t 24)],none⟩,
⟨some 26,.mov (.t 1),none⟩,
⟨some 27,.bin .neq (.t 25) (.t 26),none⟩,
⟨some 28,.mov (.t 27),none⟩,
⟨some 29,.mov (.t 0),some (28,true)⟩,
⟨some 30,.mov (.t 0),some (28,true)⟩,
⟨some 31,.chk (.t 30),some (28,true)⟩,
⟨some 32,.fa 4 (.t 31),some (28,true)⟩,
⟨some 33,.ld 1 false (.t 32),some (28,true)⟩,
⟨some 34,.mov (.t 5),some (28,true)⟩,
⟨some 35,.ia 2 (.t 33) (.t 34),some (28,true)⟩,
⟨some 36,.fa 1 (.t 35),some (28,true)⟩,
⟨some 37,.ld 1 false (.t 36),some (28,true)⟩,
⟨some 38,.call n_spec_l10Top [(.t 29),(.t 37)],some (28,true)⟩,
⟨some 39,.mov (.t 1),some (28,true)⟩,
⟨some 40,.bin .neq (.t 38) (.t 39),some (28,true)⟩,
⟨some 41,.pick (.t 28) (.t 40) (.c (.bool false)),none⟩])
 (.keep [0,1,4,5,41]))
 (.cond (.t 41)
 (.seq (.ops [⟨some 42,.mov (.t 4),none⟩,
⟨some 43,.mov (.t 0),none⟩,
⟨some 44,.chk (.t 43),none⟩,
⟨some 45,.fa 4 (.t 44),none⟩,
⟨some 46,.ld 1 false (.t 45),none⟩,
⟨some 47,.mov (.t 5),none⟩,
⟨some 48,.ia 2 (.t 46) (.t 47),none⟩,
⟨some 49,.ld 2 true (.t 48),none⟩,
⟨some 50,.litL 1 2 [(.int .i64 0),(.int .i64 0)] [(0,(.t 49))],none⟩,
⟨some 51,.appL 2 y_l10Link 16 1 (.t 42) 50,none⟩,
⟨some 4,.mov (.t 51),none⟩])
 (.keep [0,1,4,5]))
 .skip)))
 (.seq (.ops [⟨some 14,.mov (.t 5),none⟩,
⟨some 15,.bin .add (.t 14) (.c (.int .i64 1)),none⟩,
⟨some 5,.mov (.t 15),none⟩])
 (.keep [0,1,4,5])))))))
 (.seq (.ops [⟨some 52,.mov (.t 0),none⟩,
⟨some 53,.mov (.t 4),none⟩,
⟨some 54,.chk (.t 52),none⟩,
⟨some 55,.fa 4 (.t 54),none⟩,
⟨none,.st 1 (.t 55) (.t 53),none⟩])
 (.keep [])))),
 []⟩
def F_spec_l10Least : Fun := ⟨2,
 (.seq
 (.seq (.ops [⟨some 4,.mov (.c (.int .i64 0)),none⟩])
 (.keep [0,1]))
 (.seq
 (.seq
 (.seq (.ops [⟨some 5,.mov (.t 0),none⟩,
⟨some 6,.bin .lss (.t 5) (.c (.int .i64 0)),none⟩,
⟨some 7,.mov (.t 6),none⟩,
⟨some 8,.mov (.t 1),some (7,false)⟩,
⟨some 9,.mov (.t 0),some (7,false)⟩,
⟨some 10,.bin .lss (.t 8) (.t 9),some (7,false)⟩,
⟨some 11,.pick (.t 7) (.c (.bool true)) (.t 10),none⟩])
 (.keep [0,1,11]))
 (.cond (.t 11)
 (.seq
 (.seq (.ops [⟨some 12,.mov (.t 1),none⟩,
⟨some 4,.mov (.t 12),none⟩])
 (.keep [4]))
 .ret)
 .skip))
 (.seq
 (.seq (.ops [⟨some 13,.mov (.t 0),none⟩,
⟨some 4,.mov (.t 13),none⟩])
 (.keep [4]))
 .ret))),
 [(.slot 4)]⟩
end Go.Proofs.Ytafhipglhnfgnaa.Ab
