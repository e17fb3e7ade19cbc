/- The functions, as they are read. No conditions. -/
import Derived.Test.YtgmljppiiighmaaGreatDoorFN
namespace Go.Proofs.YtgmljppiiighmaaGreatDoor.Ab
/-- spec SumMore -/
def F_spec_SumMore : Fun := ⟨2,
 (.seq
 (.seq (.ops [⟨(some 4), (.mov (.c (.int .u32 0))), none⟩])
 (.keep [0, 1]))
 (.seq
 (.seq
 (.seq (.ops [⟨(some 5), (.mov (.c (.int .i64 0))), none⟩])
 (.keep [0, 1, 5]))
 (.block 0
 (.loop
 (.seq
 (.seq
 (.seq (.ops [⟨(some 8), (.mov (.t 5)), none⟩,
 ⟨(some 9), (.mov (.t 1)), none⟩,
 ⟨(some 10), (.lnS (.t 9)), none⟩,
 ⟨(some 11), (.bin .lss (.t 8) (.t 10)), none⟩])
 (.keep [0, 1, 5, 11]))
 (.cond (.t 11)
 .skip
 (.exit 0)))
 (.seq
 (.block 1
 (.seq
 (.seq (.ops [⟨(some 14), (.mov (.t 0)), none⟩,
 ⟨(some 15), (.mov (.t 1)), none⟩,
 ⟨(some 16), (.mov (.t 5)), none⟩,
 ⟨(some 17), (.ix (.t 15) (.t 16)), none⟩,
 ⟨(some 18), (.conv .u32 (.t 17)), none⟩,
 ⟨(some 19), (.bin .xor (.t 14) (.t 18)), none⟩,
 ⟨(some 0), (.mov (.t 19)), none⟩])
 (.keep [0, 1, 5]))
 (.seq
 (.seq (.ops [⟨(some 6), (.mov (.c (.int .i64 0))), none⟩])
 (.keep [0, 1, 5, 6]))
 (.block 2
 (.loop
 (.seq
 (.seq
 (.seq (.ops [⟨(some 20), (.mov (.t 6)), none⟩,
 ⟨(some 21), (.bin .lss (.t 20) (.c (.int .i64 8))), none⟩])
 (.keep [0, 1, 5, 6, 21]))
 (.cond (.t 21)
 .skip
 (.exit 2)))
 (.seq
 (.block 3
 (.seq
 (.seq (.ops [⟨(some 24), (.mov (.t 0)), none⟩,
 ⟨(some 25), (.bin .rem (.t 24) (.c (.int .u32 2))), none⟩,
 ⟨(some 26), (.bin .eql (.t 25) (.c (.int .u32 1))), none⟩,
 ⟨(some 7), (.mov (.t 26)), none⟩])
 (.keep [0, 1, 5, 6, 7]))
 (.seq
 (.seq (.ops [⟨(some 27), (.mov (.t 0)), none⟩,
 ⟨(some 28), (.bin .quo (.t 27) (.c (.int .u32 2))), none⟩,
 ⟨(some 0), (.mov (.t 28)), none⟩])
 (.keep [0, 1, 5, 6, 7]))
 (.seq
 (.seq (.ops [⟨(some 29), (.mov (.t 7)), none⟩])
 (.keep [0, 1, 5, 6, 29]))
 (.cond (.t 29)
 (.seq (.ops [⟨(some 30), (.mov (.t 0)), none⟩,
 ⟨(some 31), (.bin .xor (.t 30) (.c (.int .u32 3558460437))), none⟩,
 ⟨(some 0), (.mov (.t 31)), none⟩])
 (.keep [0, 1, 5, 6]))
 .skip)))))
 (.seq (.ops [⟨(some 22), (.mov (.t 6)), none⟩,
 ⟨(some 23), (.bin .add (.t 22) (.c (.int .i64 1))), none⟩,
 ⟨(some 6), (.mov (.t 23)), none⟩])
 (.keep [0, 1, 5, 6])))))))))
 (.seq (.ops [⟨(some 12), (.mov (.t 5)), none⟩,
 ⟨(some 13), (.bin .add (.t 12) (.c (.int .i64 1))), none⟩,
 ⟨(some 5), (.mov (.t 13)), none⟩])
 (.keep [0, 1, 5])))))))
 (.seq
 (.seq (.ops [⟨(some 32), (.mov (.t 0)), none⟩,
 ⟨(some 4), (.mov (.t 32)), none⟩])
 (.keep [4]))
 .ret))),
 [(.slot 4)]⟩
/-- impl SumMore -/
def F_impl_SumMore : Fun := ⟨2,
 (.seq
 (.seq (.ops [⟨(some 4), (.mov (.c (.int .u32 0))), none⟩])
 (.keep [0, 1]))
 (.seq
 (.seq
 (.seq (.ops [⟨(some 7), (.mov (.t 1)), none⟩,
 ⟨(some 8), (.lnS (.t 7)), none⟩,
 ⟨(some 9), (.mov (.c (.int .i64 0))), none⟩])
 (.keep [0, 1, 8, 9]))
 (.block 0
 (.loop
 (.seq
 (.seq (.ops [⟨(some 10), (.bin .lss (.t 9) (.t 8)), none⟩])
 (.keep [0, 1, 8, 9, 10]))
 (.seq
 (.cond (.t 10)
 .skip
 (.exit 0))
 (.seq
 (.block 1
 (.seq
 (.seq (.ops [⟨(some 11), (.mov (.t 9)), none⟩,
 ⟨(some 5), (.mov (.t 11)), none⟩])
 (.keep [0, 1, 5, 8, 9]))
 (.seq
 (.seq (.ops [⟨(some 12), (.mov (.t 0)), none⟩,
 ⟨(some 13), (.mov (.t 1)), none⟩,
 ⟨(some 14), (.mov (.t 5)), none⟩,
 ⟨(some 15), (.ix (.t 13) (.t 14)), none⟩,
 ⟨(some 16), (.conv .u32 (.t 15)), none⟩,
 ⟨(some 17), (.bin .xor (.t 12) (.t 16)), none⟩,
 ⟨(some 0), (.mov (.t 17)), none⟩])
 (.keep [0, 1, 8, 9]))
 (.seq
 (.seq (.ops [⟨(some 18), (.mov (.c (.int .i64 0))), none⟩])
 (.keep [0, 1, 8, 9, 18]))
 (.block 2
 (.loop
 (.seq
 (.seq (.ops [⟨(some 19), (.bin .lss (.t 18) (.c (.int .i64 8))), none⟩])
 (.keep [0, 1, 8, 9, 18, 19]))
 (.seq
 (.cond (.t 19)
 .skip
 (.exit 2))
 (.seq
 (.block 3
 (.seq
 (.seq (.ops [⟨(some 20), (.mov (.t 0)), none⟩,
 ⟨(some 21), (.bin .and (.t 20) (.c (.int .u32 1))), none⟩,
 ⟨(some 22), (.bin .eql (.t 21) (.c (.int .u32 1))), none⟩,
 ⟨(some 6), (.mov (.t 22)), none⟩])
 (.keep [0, 1, 6, 8, 9, 18]))
 (.seq
 (.seq (.ops [⟨(some 23), (.mov (.t 0)), none⟩,
 ⟨(some 24), (.bin .shr (.t 23) (.c (.int .u64 1))), none⟩,
 ⟨(some 0), (.mov (.t 24)), none⟩])
 (.keep [0, 1, 6, 8, 9, 18]))
 (.seq
 (.seq (.ops [⟨(some 25), (.mov (.t 6)), none⟩])
 (.keep [0, 1, 8, 9, 18, 25]))
 (.cond (.t 25)
 (.seq (.ops [⟨(some 26), (.mov (.t 0)), none⟩,
 ⟨(some 27), (.bin .xor (.t 26) (.c (.int .u32 3558460437))), none⟩,
 ⟨(some 0), (.mov (.t 27)), none⟩])
 (.keep [0, 1, 8, 9, 18]))
 .skip)))))
 (.seq (.ops [⟨(some 28), (.bin .add (.t 18) (.c (.int .i64 1))), none⟩,
 ⟨(some 18), (.mov (.t 28)), none⟩])
 (.keep [0, 1, 8, 9, 18])))))))))))
 (.seq (.ops [⟨(some 29), (.bin .add (.t 9) (.c (.int .i64 1))), none⟩,
 ⟨(some 9), (.mov (.t 29)), none⟩])
 (.keep [0, 1, 8, 9]))))))))
 (.seq
 (.seq (.ops [⟨(some 30), (.mov (.t 0)), none⟩,
 ⟨(some 4), (.mov (.t 30)), none⟩])
 (.keep [4]))
 .ret))),
 [(.slot 4)]⟩
/-- spec l12Var -/
def F_spec_l12Var : Fun := ⟨1,
 (.seq
 (.seq (.ops [⟨(some 2), (.mov (.c (.int .i64 0))), none⟩])
 (.keep [0]))
 (.seq
 (.seq (.free true [⟨(some 7), (.mov (.t 0)), none⟩,
 ⟨(some 8), (.chk (.t 7)), none⟩,
 ⟨(some 9), (.fa 0 (.t 8)), none⟩,
 ⟨(some 10), (.ld 1 false (.t 9)), none⟩,
 ⟨(some 11), (.mov (.t 0)), none⟩,
 ⟨(some 12), (.chk (.t 11)), none⟩,
 ⟨(some 13), (.fa 1 (.t 12)), none⟩,
 ⟨(some 14), (.ld 1 false (.t 13)), none⟩,
 ⟨(some 15), (.call n_spec_ReadVar [(.t 10), (.t 14)]), none⟩,
 ⟨(some 6), (.mov (.t 15)), none⟩,
 ⟨(some 16), (.ext 0 (.t 6)), none⟩,
 ⟨(some 17), (.ext 1 (.t 6)), none⟩,
 ⟨(some 18), (.ext 2 (.t 6)), none⟩,
 ⟨(some 3), (.mov (.t 16)), none⟩,
 ⟨(some 4), (.mov (.t 17)), none⟩,
 ⟨(some 5), (.mov (.t 18)), none⟩])
 (.keep [0, 3, 4, 5]))
 (.seq
 (.seq
 (.seq (.ops [⟨(some 19), (.mov (.t 0)), none⟩,
 ⟨(some 20), (.chk (.t 19)), none⟩,
 ⟨(some 21), (.fa 2 (.t 20)), none⟩,
 ⟨(some 22), (.ld 1 false (.t 21)), none⟩,
 ⟨(some 23), (.mov (.t 22)), none⟩,
 ⟨(some 24), (.mov (.t 5)), (some (23, false))⟩,
 ⟨(some 25), (.un .not (.t 24)), (some (23, false))⟩,
 ⟨(some 26), (.pick (.t 23) (.c (.bool true)) (.t 25)), none⟩])
 (.keep [0, 3, 4, 26]))
 (.cond (.t 26)
 (.seq
 (.seq (.ops [⟨(some 27), (.mov (.t 0)), none⟩,
 ⟨(some 28), (.chk (.t 27)), none⟩,
 ⟨(some 29), (.fa 2 (.t 28)), none⟩,
 ⟨none, (.st 1 (.t 29) (.c (.bool true))), none⟩])
 (.keep []))
 (.seq
 (.seq (.ops [⟨(some 2), (.mov (.c (.int .i64 0))), none⟩])
 (.keep [2]))
 .ret))
 .skip))
 (.seq
 (.seq (.ops [⟨(some 30), (.mov (.t 0)), none⟩,
 ⟨(some 31), (.mov (.t 4)), none⟩,
 ⟨(some 32), (.chk (.t 30)), none⟩,
 ⟨(some 33), (.fa 1 (.t 32)), none⟩,
 ⟨none, (.st 1 (.t 33) (.t 31)), none⟩])
 (.keep [3]))
 (.seq
 (.seq (.ops [⟨(some 34), (.mov (.t 3)), none⟩,
 ⟨(some 2), (.mov (.t 34)), none⟩])
 (.keep [2]))
 .ret))))),
 [(.slot 2)]⟩
/-- spec CertText -/
def F_spec_CertText : Fun := ⟨1,
 (.seq
 (.seq (.ops [⟨(some 1), (.boxL 5 (.t 0)), none⟩,
 ⟨(some 2), (.mov (.c (.string ⟨⟨[]⟩⟩))), none⟩,
 ⟨(some 3), (.mov (.c (.bool false))), none⟩])
 (.keep [1]))
 (.seq
 (.seq
 (.seq (.ops [⟨(some 12), (.faB 0 1), none⟩,
 ⟨(some 13), (.ldE 2 true 1 12), none⟩,
 ⟨(some 14), (.faB 2 1), none⟩,
 ⟨(some 15), (.ldE 1 false 1 14), none⟩,
 ⟨(some 16), (.faB 3 1), none⟩,
 ⟨(some 17), (.ldE 2 true 1 16), none⟩,
 ⟨(some 18), (.call n_spec_Certifies [(.t 13), (.t 15), (.t 17)]), none⟩,
 ⟨(some 19), (.un .not (.t 18)), none⟩])
 (.keep [1, 19]))
 (.cond (.t 19)
 (.seq
 (.seq (.ops [⟨(some 2), (.mov (.c (.string ⟨⟨[]⟩⟩))), none⟩,
 ⟨(some 3), (.mov (.c (.bool false))), none⟩])
 (.keep [2, 3]))
 .ret)
 .skip))
 (.seq
 (.seq (.free false [⟨(some 20), (.faB 0 1), none⟩,
 ⟨(some 21), (.faE 0 1 20), none⟩,
 ⟨(some 22), (.ldE 1 false 1 21), none⟩,
 ⟨(some 23), (.call n_spec_l01Var [(.t 22)]), none⟩,
 ⟨(some 24), (.faB 0 1), none⟩,
 ⟨(some 25), (.faE 1 1 24), none⟩,
 ⟨(some 26), (.ldE 1 false 1 25), none⟩,
 ⟨(some 27), (.ln (.t 26)), none⟩,
 ⟨(some 28), (.call n_spec_l01Var [(.t 27)]), none⟩,
 ⟨(some 29), (.bin .add (.t 23) (.t 28)), none⟩,
 ⟨(some 4), (.mov (.t 29)), none⟩])
 (.keep [1, 4]))
 (.seq
 (.seq
 (.seq (.ops [⟨(some 5), (.mov (.c (.int .i64 0))), none⟩])
 (.keep [1, 4, 5]))
 (.block 0
 (.loop
 (.seq
 (.seq
 (.seq (.ops [⟨(some 30), (.mov (.t 5)), none⟩,
 ⟨(some 31), (.faB 0 1), none⟩,
 ⟨(some 32), (.faE 1 1 31), none⟩,
 ⟨(some 33), (.ldE 1 false 1 32), none⟩,
 ⟨(some 34), (.ln (.t 33)), none⟩,
 ⟨(some 35), (.bin .lss (.t 30) (.t 34)), none⟩])
 (.keep [1, 4, 5, 35]))
 (.cond (.t 35)
 .skip
 (.exit 0)))
 (.seq
 (.block 1
 (.seq
 (.seq (.ops [⟨(some 38), (.faB 0 1), none⟩,
 ⟨(some 39), (.faE 1 1 38), none⟩,
 ⟨(some 40), (.ldE 1 false 1 39), none⟩,
 ⟨(some 41), (.mov (.t 5)), none⟩,
 ⟨(some 42), (.ia 5 (.t 40) (.t 41)), none⟩,
 ⟨(some 43), (.ld 5 true (.t 42)), none⟩,
 ⟨(some 6), (.newL [(.int .i64 0), (.int .i64 0), (.int .i64 0), (.int .i64 0), (.int .i64 0)]), none⟩,
 ⟨none, (.stB 5 6 (.t 43)), none⟩])
 (.keep [1, 4, 5, 6]))
 (.seq (.free true [⟨(some 44), (.mov (.t 4)), none⟩,
 ⟨(some 45), (.faB 0 6), none⟩,
 ⟨(some 46), (.ldE 1 false 6 45), none⟩,
 ⟨(some 47), (.call n_spec_l01Var [(.t 46)]), none⟩,
 ⟨(some 48), (.bin .add (.t 44) (.t 47)), none⟩,
 ⟨(some 49), (.faB 1 6), none⟩,
 ⟨(some 50), (.ldE 1 false 6 49), none⟩,
 ⟨(some 51), (.call n_spec_l01Var [(.t 50)]), none⟩,
 ⟨(some 52), (.bin .add (.t 48) (.t 51)), none⟩,
 ⟨(some 53), (.faB 2 6), none⟩,
 ⟨(some 54), (.ldE 1 false 6 53), none⟩,
 ⟨(some 55), (.call n_spec_l01Var [(.t 54)]), none⟩,
 ⟨(some 56), (.bin .add (.t 52) (.t 55)), none⟩,
 ⟨(some 57), (.faB 3 6), none⟩,
 ⟨(some 58), (.ldE 1 false 6 57), none⟩,
 ⟨(some 59), (.call n_spec_l01Var [(.t 58)]), none⟩,
 ⟨(some 60), (.bin .add (.t 56) (.t 59)), none⟩,
 ⟨(some 61), (.faB 4 6), none⟩,
 ⟨(some 62), (.ldE 1 false 6 61), none⟩,
 ⟨(some 63), (.call n_spec_l01Var [(.t 62)]), none⟩,
 ⟨(some 64), (.bin .add (.t 60) (.t 63)), none⟩,
 ⟨(some 4), (.mov (.t 64)), none⟩])
 (.keep [1, 4, 5]))))
 (.seq (.ops [⟨(some 36), (.mov (.t 5)), none⟩,
 ⟨(some 37), (.bin .add (.t 36) (.c (.int .i64 1))), none⟩,
 ⟨(some 5), (.mov (.t 37)), none⟩])
 (.keep [1, 4, 5])))))))
 (.seq
 (.seq (.ops [⟨(some 65), (.mov (.t 4)), none⟩,
 ⟨(some 66), (.faB 2 1), none⟩,
 ⟨(some 67), (.ldE 1 false 1 66), none⟩,
 ⟨(some 68), (.ln (.t 67)), none⟩,
 ⟨(some 69), (.call n_spec_l01Var [(.t 68)]), none⟩,
 ⟨(some 70), (.bin .add (.t 65) (.t 69)), none⟩,
 ⟨(some 4), (.mov (.t 70)), none⟩])
 (.keep [1, 4]))
 (.seq
 (.seq
 (.seq (.ops [⟨(some 7), (.mov (.c (.int .i64 0))), none⟩])
 (.keep [1, 4, 7]))
 (.block 2
 (.loop
 (.seq
 (.seq
 (.seq (.ops [⟨(some 71), (.mov (.t 7)), none⟩,
 ⟨(some 72), (.faB 2 1), none⟩,
 ⟨(some 73), (.ldE 1 false 1 72), none⟩,
 ⟨(some 74), (.ln (.t 73)), none⟩,
 ⟨(some 75), (.bin .lss (.t 71) (.t 74)), none⟩])
 (.keep [1, 4, 7, 75]))
 (.cond (.t 75)
 .skip
 (.exit 2)))
 (.seq
 (.block 3
 (.seq (.free false [⟨(some 78), (.mov (.t 4)), none⟩,
 ⟨(some 79), (.faB 2 1), none⟩,
 ⟨(some 80), (.ldE 1 false 1 79), none⟩,
 ⟨(some 81), (.mov (.t 7)), none⟩,
 ⟨(some 82), (.ia 2 (.t 80) (.t 81)), none⟩,
 ⟨(some 83), (.fa 0 (.t 82)), none⟩,
 ⟨(some 84), (.ld 1 false (.t 83)), none⟩,
 ⟨(some 85), (.call n_spec_l01Var [(.t 84)]), none⟩,
 ⟨(some 86), (.bin .add (.t 78) (.t 85)), none⟩,
 ⟨(some 87), (.faB 2 1), none⟩,
 ⟨(some 88), (.ldE 1 false 1 87), none⟩,
 ⟨(some 89), (.mov (.t 7)), none⟩,
 ⟨(some 90), (.ia 2 (.t 88) (.t 89)), none⟩,
 ⟨(some 91), (.fa 1 (.t 90)), none⟩,
 ⟨(some 92), (.ld 1 false (.t 91)), none⟩,
 ⟨(some 93), (.call n_spec_l01Var [(.t 92)]), none⟩,
 ⟨(some 94), (.bin .add (.t 86) (.t 93)), none⟩,
 ⟨(some 4), (.mov (.t 94)), none⟩])
 (.keep [1, 4, 7])))
 (.seq (.ops [⟨(some 76), (.mov (.t 7)), none⟩,
 ⟨(some 77), (.bin .add (.t 76) (.c (.int .i64 1))), none⟩,
 ⟨(some 7), (.mov (.t 77)), none⟩])
 (.keep [1, 4, 7])))))))
 (.seq
 (.seq
 (.seq (.ops [⟨(some 8), (.mov (.c (.int .i64 0))), none⟩])
 (.keep [1, 4, 8]))
 (.block 4
 (.loop
 (.seq
 (.seq
 (.seq (.ops [⟨(some 95), (.mov (.t 8)), none⟩,
 ⟨(some 96), (.faB 3 1), none⟩,
 ⟨(some 97), (.faE 0 1 96), none⟩,
 ⟨(some 98), (.ldE 1 false 1 97), none⟩,
 ⟨(some 99), (.ln (.t 98)), none⟩,
 ⟨(some 100), (.bin .lss (.t 95) (.t 99)), none⟩])
 (.keep [1, 4, 8, 100]))
 (.cond (.t 100)
 .skip
 (.exit 4)))
 (.seq
 (.block 5
 (.seq (.ops [⟨(some 103), (.mov (.t 4)), none⟩,
 ⟨(some 104), (.faB 3 1), none⟩,
 ⟨(some 105), (.faE 0 1 104), none⟩,
 ⟨(some 106), (.ldE 1 false 1 105), none⟩,
 ⟨(some 107), (.mov (.t 8)), none⟩,
 ⟨(some 108), (.ia 1 (.t 106) (.t 107)), none⟩,
 ⟨(some 109), (.ld 1 false (.t 108)), none⟩,
 ⟨(some 110), (.call n_spec_l01Var [(.t 109)]), none⟩,
 ⟨(some 111), (.bin .add (.t 103) (.t 110)), none⟩,
 ⟨(some 4), (.mov (.t 111)), none⟩])
 (.keep [1, 4, 8])))
 (.seq (.ops [⟨(some 101), (.mov (.t 8)), none⟩,
 ⟨(some 102), (.bin .add (.t 101) (.c (.int .i64 1))), none⟩,
 ⟨(some 8), (.mov (.t 102)), none⟩])
 (.keep [1, 4, 8])))))))
 (.seq
 (.seq (.ops [⟨(some 112), (.mov (.t 4)), none⟩,
 ⟨(some 113), (.faB 3 1), none⟩,
 ⟨(some 114), (.faE 1 1 113), none⟩,
 ⟨(some 115), (.ldE 1 false 1 114), none⟩,
 ⟨(some 116), (.ln (.t 115)), none⟩,
 ⟨(some 117), (.call n_spec_l01Var [(.t 116)]), none⟩,
 ⟨(some 118), (.bin .add (.t 112) (.t 117)), none⟩,
 ⟨(some 4), (.mov (.t 118)), none⟩])
 (.keep [1, 4]))
 (.seq
 (.seq
 (.seq (.ops [⟨(some 9), (.mov (.c (.int .i64 0))), none⟩])
 (.keep [1, 4, 9]))
 (.block 6
 (.loop
 (.seq
 (.seq
 (.seq (.ops [⟨(some 119), (.mov (.t 9)), none⟩,
 ⟨(some 120), (.faB 3 1), none⟩,
 ⟨(some 121), (.faE 1 1 120), none⟩,
 ⟨(some 122), (.ldE 1 false 1 121), none⟩,
 ⟨(some 123), (.ln (.t 122)), none⟩,
 ⟨(some 124), (.bin .lss (.t 119) (.t 123)), none⟩])
 (.keep [1, 4, 9, 124]))
 (.cond (.t 124)
 .skip
 (.exit 6)))
 (.seq
 (.block 7
 (.seq
 (.seq (.ops [⟨(some 127), (.faB 3 1), none⟩,
 ⟨(some 128), (.faE 1 1 127), none⟩,
 ⟨(some 129), (.ldE 1 false 1 128), none⟩,
 ⟨(some 130), (.mov (.t 9)), none⟩,
 ⟨(some 131), (.ia 2 (.t 129) (.t 130)), none⟩,
 ⟨(some 132), (.ld 2 true (.t 131)), none⟩,
 ⟨(some 10), (.newL [(.slice none 0 0), (.int .i64 0)]), none⟩,
 ⟨none, (.stB 2 10 (.t 132)), none⟩])
 (.keep [1, 4, 9, 10]))
 (.seq
 (.seq (.ops [⟨(some 133), (.mov (.t 4)), none⟩,
 ⟨(some 134), (.faB 0 10), none⟩,
 ⟨(some 135), (.ldE 1 false 10 134), none⟩,
 ⟨(some 136), (.ln (.t 135)), none⟩,
 ⟨(some 137), (.call n_spec_l01Var [(.t 136)]), none⟩,
 ⟨(some 138), (.bin .add (.t 133) (.t 137)), none⟩,
 ⟨(some 4), (.mov (.t 138)), none⟩])
 (.keep [1, 4, 9, 10]))
 (.seq
 (.seq
 (.seq (.ops [⟨(some 11), (.mov (.c (.int .i64 0))), none⟩])
 (.keep [1, 4, 9, 10, 11]))
 (.block 8
 (.loop
 (.seq
 (.seq
 (.seq (.ops [⟨(some 139), (.mov (.t 11)), none⟩,
 ⟨(some 140), (.faB 0 10), none⟩,
 ⟨(some 141), (.ldE 1 false 10 140), none⟩,
 ⟨(some 142), (.ln (.t 141)), none⟩,
 ⟨(some 143), (.bin .lss (.t 139) (.t 142)), none⟩])
 (.keep [1, 4, 9, 10, 11, 143]))
 (.cond (.t 143)
 .skip
 (.exit 8)))
 (.seq
 (.block 9
 (.seq (.ops [⟨(some 146), (.mov (.t 4)), none⟩,
 ⟨(some 147), (.faB 0 10), none⟩,
 ⟨(some 148), (.ldE 1 false 10 147), none⟩,
 ⟨(some 149), (.mov (.t 11)), none⟩,
 ⟨(some 150), (.ia 1 (.t 148) (.t 149)), none⟩,
 ⟨(some 151), (.ld 1 false (.t 150)), none⟩,
 ⟨(some 152), (.call n_spec_l01Var [(.t 151)]), none⟩,
 ⟨(some 153), (.bin .add (.t 146) (.t 152)), none⟩,
 ⟨(some 4), (.mov (.t 153)), none⟩])
 (.keep [1, 4, 9, 10, 11])))
 (.seq (.ops [⟨(some 144), (.mov (.t 11)), none⟩,
 ⟨(some 145), (.bin .add (.t 144) (.c (.int .i64 1))), none⟩,
 ⟨(some 11), (.mov (.t 145)), none⟩])
 (.keep [1, 4, 9, 10, 11])))))))
 (.seq (.ops [⟨(some 154), (.mov (.t 4)), none⟩,
 ⟨(some 155), (.faB 1 10), none⟩,
 ⟨(some 156), (.ldE 1 false 10 155), none⟩,
 ⟨(some 157), (.call n_spec_l01Var [(.t 156)]), none⟩,
 ⟨(some 158), (.bin .add (.t 154) (.t 157)), none⟩,
 ⟨(some 4), (.mov (.t 158)), none⟩])
 (.keep [1, 4, 9]))))))
 (.seq (.ops [⟨(some 125), (.mov (.t 9)), none⟩,
 ⟨(some 126), (.bin .add (.t 125) (.c (.int .i64 1))), none⟩,
 ⟨(some 9), (.mov (.t 126)), none⟩])
 (.keep [1, 4, 9])))))))
 (.seq
 (.seq (.ops [⟨(some 159), (.mov (.t 4)), none⟩,
 ⟨(some 2), (.mov (.t 159)), none⟩,
 ⟨(some 3), (.mov (.c (.bool true))), none⟩])
 (.keep [2, 3]))
 .ret)))))))))),
 [(.slot 2), (.slot 3)]⟩
/-- spec l08Worth -/
def F_spec_l08Worth : Fun := ⟨1,
 (.seq
 (.seq (.ops [⟨(some 2), (.mov (.c (.bool false))), none⟩])
 (.keep [0]))
 (.seq
 (.seq (.ops [⟨(some 3), (.mov (.t 0)), none⟩,
 ⟨(some 4), (.call n_spec_l01In [(.t 3), (.c (.int .i64 0)), (.c (.int .i64 50))]), none⟩,
 ⟨(some 2), (.mov (.t 4)), none⟩])
 (.keep [2]))
 .ret)),
 [(.slot 2)]⟩
/-- spec l08At -/
def F_spec_l08At : Fun := ⟨3,
 (.seq
 (.seq (.ops [⟨(some 3), (.boxL 2 (.t 0)), none⟩,
 ⟨(some 6), (.mov (.c (.int .i64 0))), none⟩])
 (.keep [1, 2, 3]))
 (.seq
 (.seq
 (.seq (.ops [⟨(some 7), (.mov (.c (.int .i64 0))), none⟩])
 (.keep [1, 2, 3, 7]))
 (.block 0
 (.loop
 (.seq
 (.seq
 (.seq (.ops [⟨(some 8), (.mov (.t 7)), none⟩,
 ⟨(some 9), (.faB 1 3), none⟩,
 ⟨(some 10), (.ldE 1 false 3 9), none⟩,
 ⟨(some 11), (.ln (.t 10)), none⟩,
 ⟨(some 12), (.bin .lss (.t 8) (.t 11)), none⟩])
 (.keep [1, 2, 3, 7, 12]))
 (.cond (.t 12)
 .skip
 (.exit 0)))
 (.seq
 (.block 1
 (.seq
 (.seq (.ops [⟨(some 15), (.faB 1 3), none⟩,
 ⟨(some 16), (.ldE 1 false 3 15), none⟩,
 ⟨(some 17), (.mov (.t 7)), none⟩,
 ⟨(some 18), (.ia 5 (.t 16) (.t 17)), none⟩,
 ⟨(some 19), (.fa 0 (.t 18)), none⟩,
 ⟨(some 20), (.ld 1 false (.t 19)), none⟩,
 ⟨(some 21), (.mov (.t 1)), none⟩,
 ⟨(some 22), (.bin .eql (.t 20) (.t 21)), none⟩,
 ⟨(some 23), (.mov (.t 22)), none⟩,
 ⟨(some 24), (.faB 1 3), (some (23, true))⟩,
 ⟨(some 25), (.ldE 1 false 3 24), (some (23, true))⟩,
 ⟨(some 26), (.mov (.t 7)), (some (23, true))⟩,
 ⟨(some 27), (.ia 5 (.t 25) (.t 26)), (some (23, true))⟩,
 ⟨(some 28), (.fa 1 (.t 27)), (some (23, true))⟩,
 ⟨(some 29), (.ld 1 false (.t 28)), (some (23, true))⟩,
 ⟨(some 30), (.mov (.t 2)), (some (23, true))⟩,
 ⟨(some 31), (.bin .eql (.t 29) (.t 30)), (some (23, true))⟩,
 ⟨(some 32), (.pick (.t 23) (.t 31) (.c (.bool false))), none⟩,
 ⟨(some 33), (.mov (.t 32)), none⟩,
 ⟨(some 34), (.faB 1 3), (some (33, false))⟩,
 ⟨(some 35), (.ldE 1 false 3 34), (some (33, false))⟩,
 ⟨(some 36), (.mov (.t 7)), (some (33, false))⟩,
 ⟨(some 37), (.ia 5 (.t 35) (.t 36)), (some (33, false))⟩,
 ⟨(some 38), (.fa 0 (.t 37)), (some (33, false))⟩,
 ⟨(some 39), (.ld 1 false (.t 38)), (some (33, false))⟩,
 ⟨(some 40), (.mov (.t 2)), (some (33, false))⟩,
 ⟨(some 41), (.bin .eql (.t 39) (.t 40)), (some (33, false))⟩,
 ⟨(some 42), (.mov (.t 41)), (some (33, false))⟩,
 ⟨(some 43), (.faB 1 3), (some (42, true))⟩,
 ⟨(some 44), (.ldE 1 false 3 43), (some (42, true))⟩,
 ⟨(some 45), (.mov (.t 7)), (some (42, true))⟩,
 ⟨(some 46), (.ia 5 (.t 44) (.t 45)), (some (42, true))⟩,
 ⟨(some 47), (.fa 1 (.t 46)), (some (42, true))⟩,
 ⟨(some 48), (.ld 1 false (.t 47)), (some (42, true))⟩,
 ⟨(some 49), (.mov (.t 1)), (some (42, true))⟩,
 ⟨(some 50), (.bin .eql (.t 48) (.t 49)), (some (42, true))⟩,
 ⟨(some 51), (.pick (.t 42) (.t 50) (.c (.bool false))), (some (33, false))⟩,
 ⟨(some 52), (.pick (.t 33) (.c (.bool true)) (.t 51)), none⟩])
 (.keep [1, 2, 3, 7, 52]))
 (.cond (.t 52)
 (.seq
 (.seq (.ops [⟨(some 53), (.mov (.t 7)), none⟩,
 ⟨(some 6), (.mov (.t 53)), none⟩])
 (.keep [6]))
 .ret)
 .skip)))
 (.seq (.ops [⟨(some 13), (.mov (.t 7)), none⟩,
 ⟨(some 14), (.bin .add (.t 13) (.c (.int .i64 1))), none⟩,
 ⟨(some 7), (.mov (.t 14)), none⟩])
 (.keep [1, 2, 3, 7])))))))
 (.seq
 (.seq (.ops [⟨(some 6), (.mov (.c (.int .i64 (-1)))), none⟩])
 (.keep [6]))
 .ret))),
 [(.slot 6)]⟩
/-- impl ProofOk -/
def F_impl_ProofOk : Fun := ⟨2,
 (.seq
 (.seq (.ops [⟨(some 2), (.boxL 2 (.t 0)), none⟩,
 ⟨(some 3), (.boxL 2 (.t 1)), none⟩,
 ⟨(some 4), (.mov (.c (.bool false))), none⟩])
 (.keep [2, 3]))
 (.seq
 (.seq
 (.seq (.ops [⟨(some 17), (.ldB 2 true 2), none⟩,
 ⟨(some 18), (.call n_impl_GraphOk [(.t 17)]), none⟩,
 ⟨(some 19), (.un .not (.t 18)), none⟩,
 ⟨(some 20), (.mov (.t 19)), none⟩,
 ⟨(some 21), (.faB 0 3), (some (20, false))⟩,
 ⟨(some 22), (.ldE 1 false 3 21), (some (20, false))⟩,
 ⟨(some 23), (.ln (.t 22)), (some (20, false))⟩,
 ⟨(some 24), (.faB 0 2), (some (20, false))⟩,
 ⟨(some 25), (.ldE 1 false 2 24), (some (20, false))⟩,
 ⟨(some 26), (.bin .neq (.t 23) (.t 25)), (some (20, false))⟩,
 ⟨(some 27), (.pick (.t 20) (.c (.bool true)) (.t 26)), none⟩,
 ⟨(some 28), (.mov (.t 27)), none⟩,
 ⟨(some 29), (.faB 1 3), (some (28, false))⟩,
 ⟨(some 30), (.ldE 1 false 3 29), (some (28, false))⟩,
 ⟨(some 31), (.ln (.t 30)), (some (28, false))⟩,
 ⟨(some 32), (.bin .gtr (.t 31) (.c (.int .i64 8))), (some (28, false))⟩,
 ⟨(some 33), (.pick (.t 28) (.c (.bool true)) (.t 32)), none⟩])
 (.keep [2, 3, 33]))
 (.cond (.t 33)
 (.seq
 (.seq (.ops [⟨(some 4), (.mov (.c (.bool false))), none⟩])
 (.keep [4]))
 .ret)
 .skip))
 (.seq
 (.seq
 (.seq (.ops [⟨(some 34), (.faB 0 3), none⟩,
 ⟨(some 35), (.ldE 1 false 3 34), none⟩,
 ⟨(some 36), (.ln (.t 35)), none⟩,
 ⟨(some 37), (.mov (.c (.int .i64 0))), none⟩])
 (.keep [2, 3, 35, 36, 37]))
 (.block 0
 (.loop
 (.seq
 (.seq (.ops [⟨(some 38), (.bin .lss (.t 37) (.t 36)), none⟩])
 (.keep [2, 3, 35, 36, 37, 38]))
 (.seq
 (.cond (.t 38)
 .skip
 (.exit 0))
 (.seq
 (.block 1
 (.seq
 (.seq (.ops [⟨(some 39), (.ia 1 (.t 35) (.t 37)), none⟩,
 ⟨(some 40), (.ld 1 false (.t 39)), none⟩,
 ⟨(some 6), (.mov (.t 40)), none⟩])
 (.keep [2, 3, 6, 35, 36, 37]))
 (.seq
 (.seq (.ops [⟨(some 41), (.mov (.t 6)), none⟩,
 ⟨(some 42), (.call n_impl_in [(.t 41), (.c (.int .i64 0)), (.c (.int .i64 1000000000))]), none⟩,
 ⟨(some 43), (.un .not (.t 42)), none⟩])
 (.keep [2, 3, 35, 36, 37, 43]))
 (.cond (.t 43)
 (.seq
 (.seq (.ops [⟨(some 4), (.mov (.c (.bool false))), none⟩])
 (.keep [4]))
 .ret)
 .skip))))
 (.seq (.ops [⟨(some 44), (.bin .add (.t 37) (.c (.int .i64 1))), none⟩,
 ⟨(some 37), (.mov (.t 44)), none⟩])
 (.keep [2, 3, 35, 36, 37]))))))))
 (.seq
 (.seq
 (.seq (.ops [⟨(some 45), (.faB 1 3), none⟩,
 ⟨(some 46), (.ldE 1 false 3 45), none⟩,
 ⟨(some 47), (.ln (.t 46)), none⟩,
 ⟨(some 48), (.mov (.c (.int .i64 0))), none⟩])
 (.keep [2, 3, 46, 47, 48]))
 (.block 2
 (.loop
 (.seq
 (.seq (.ops [⟨(some 49), (.bin .lss (.t 48) (.t 47)), none⟩])
 (.keep [2, 3, 46, 47, 48, 49]))
 (.seq
 (.cond (.t 49)
 .skip
 (.exit 2))
 (.seq
 (.block 3
 (.seq
 (.seq (.ops [⟨(some 50), (.mov (.t 48)), none⟩,
 ⟨(some 51), (.ia 2 (.t 46) (.t 48)), none⟩,
 ⟨(some 52), (.ld 2 true (.t 51)), none⟩,
 ⟨(some 8), (.newL [(.slice none 0 0), (.int .i64 0)]), none⟩,
 ⟨(some 7), (.mov (.t 50)), none⟩,
 ⟨none, (.stB 2 8 (.t 52)), none⟩])
 (.keep [2, 3, 7, 8, 46, 47, 48]))
 (.seq
 (.seq
 (.seq (.ops [⟨(some 53), (.ldB 2 true 2), none⟩,
 ⟨(some 54), (.ldB 2 true 8), none⟩,
 ⟨(some 55), (.call n_impl_groupOk [(.t 53), (.t 54)]), none⟩,
 ⟨(some 56), (.un .not (.t 55)), none⟩])
 (.keep [2, 3, 7, 8, 46, 47, 48, 56]))
 (.cond (.t 56)
 (.seq
 (.seq (.ops [⟨(some 4), (.mov (.c (.bool false))), none⟩])
 (.keep [4]))
 .ret)
 .skip))
 (.seq
 (.seq (.ops [⟨(some 57), (.faB 1 3), none⟩,
 ⟨(some 58), (.ldE 1 false 3 57), none⟩,
 ⟨(some 59), (.mov (.t 7)), none⟩,
 ⟨(some 60), (.slL 2 (.t 58) none (some (.t 59))), none⟩,
 ⟨(some 61), (.ln (.t 60)), none⟩,
 ⟨(some 62), (.mov (.c (.int .i64 0))), none⟩])
 (.keep [2, 3, 8, 46, 47, 48, 60, 61, 62]))
 (.block 4
 (.loop
 (.seq
 (.seq (.ops [⟨(some 63), (.bin .lss (.t 62) (.t 61)), none⟩])
 (.keep [2, 3, 8, 46, 47, 48, 60, 61, 62, 63]))
 (.seq
 (.cond (.t 63)
 .skip
 (.exit 4))
 (.seq
 (.block 5
 (.seq
 (.seq (.ops [⟨(some 64), (.ia 2 (.t 60) (.t 62)), none⟩,
 ⟨(some 65), (.ld 2 true (.t 64)), none⟩,
 ⟨(some 10), (.newL [(.slice none 0 0), (.int .i64 0)]), none⟩,
 ⟨none, (.stB 2 10 (.t 65)), none⟩])
 (.keep [2, 3, 8, 10, 46, 47, 48, 60, 61, 62]))
 (.seq
 (.seq (.ops [⟨(some 67), (.faB 0 8), none⟩,
 ⟨(some 68), (.ldE 1 false 8 67), none⟩,
 ⟨(some 69), (.faB 0 10), none⟩,
 ⟨(some 70), (.ldE 1 false 10 69), none⟩,
 ⟨(some 71), (.call n_impl_within [(.t 68), (.t 70)]), none⟩,
 ⟨(some 66), (.mov (.t 71)), none⟩,
 ⟨(some 72), (.ext 0 (.t 66)), none⟩,
 ⟨(some 73), (.ext 1 (.t 66)), none⟩,
 ⟨(some 11), (.mov (.t 72)), none⟩,
 ⟨(some 12), (.mov (.t 73)), none⟩])
 (.keep [2, 3, 8, 10, 11, 12, 46, 47, 48, 60, 61, 62]))
 (.seq
 (.seq (.ops [⟨(some 75), (.faB 0 10), none⟩,
 ⟨(some 76), (.ldE 1 false 10 75), none⟩,
 ⟨(some 77), (.faB 0 8), none⟩,
 ⟨(some 78), (.ldE 1 false 8 77), none⟩,
 ⟨(some 79), (.call n_impl_within [(.t 76), (.t 78)]), none⟩,
 ⟨(some 74), (.mov (.t 79)), none⟩,
 ⟨(some 80), (.ext 0 (.t 74)), none⟩,
 ⟨(some 81), (.ext 1 (.t 74)), none⟩,
 ⟨(some 13), (.mov (.t 80)), none⟩,
 ⟨(some 14), (.mov (.t 81)), none⟩])
 (.keep [2, 3, 8, 11, 12, 13, 46, 47, 48, 60, 61, 62]))
 (.seq
 (.seq (.ops [⟨(some 82), (.mov (.t 11)), none⟩,
 ⟨(some 83), (.un .not (.t 82)), none⟩,
 ⟨(some 84), (.mov (.t 83)), none⟩,
 ⟨(some 85), (.mov (.t 12)), (some (84, true))⟩,
 ⟨(some 86), (.un .not (.t 85)), (some (84, true))⟩,
 ⟨(some 87), (.pick (.t 84) (.t 86) (.c (.bool false))), none⟩,
 ⟨(some 88), (.mov (.t 87)), none⟩,
 ⟨(some 89), (.mov (.t 13)), (some (88, true))⟩,
 ⟨(some 90), (.un .not (.t 89)), (some (88, true))⟩,
 ⟨(some 91), (.pick (.t 88) (.t 90) (.c (.bool false))), none⟩])
 (.keep [2, 3, 8, 46, 47, 48, 60, 61, 62, 91]))
 (.cond (.t 91)
 (.seq
 (.seq (.ops [⟨(some 4), (.mov (.c (.bool false))), none⟩])
 (.keep [4]))
 .ret)
 .skip))))))
 (.seq (.ops [⟨(some 92), (.bin .add (.t 62) (.c (.int .i64 1))), none⟩,
 ⟨(some 62), (.mov (.t 92)), none⟩])
 (.keep [2, 3, 8, 46, 47, 48, 60, 61, 62])))))))))))
 (.seq (.ops [⟨(some 93), (.bin .add (.t 48) (.c (.int .i64 1))), none⟩,
 ⟨(some 48), (.mov (.t 93)), none⟩])
 (.keep [2, 3, 46, 47, 48]))))))))
 (.seq
 (.seq
 (.seq (.ops [⟨(some 94), (.faB 1 2), none⟩,
 ⟨(some 95), (.ldE 1 false 2 94), none⟩,
 ⟨(some 96), (.ln (.t 95)), none⟩,
 ⟨(some 97), (.mov (.c (.int .i64 0))), none⟩])
 (.keep [3, 95, 96, 97]))
 (.block 6
 (.loop
 (.seq
 (.seq (.ops [⟨(some 98), (.bin .lss (.t 97) (.t 96)), none⟩])
 (.keep [3, 95, 96, 97, 98]))
 (.seq
 (.cond (.t 98)
 .skip
 (.exit 6))
 (.seq
 (.block 7
 (.seq
 (.seq (.ops [⟨(some 99), (.ia 5 (.t 95) (.t 97)), none⟩,
 ⟨(some 100), (.ld 5 true (.t 99)), none⟩,
 ⟨(some 16), (.newL [(.int .i64 0), (.int .i64 0), (.int .i64 0), (.int .i64 0), (.int .i64 0)]), none⟩,
 ⟨none, (.stB 5 16 (.t 100)), none⟩])
 (.keep [3, 16, 95, 96, 97]))
 (.seq
 (.seq (.ops [⟨(some 101), (.ldB 5 true 16), none⟩,
 ⟨(some 102), (.ldB 2 true 3), none⟩,
 ⟨(some 103), (.call n_impl_slackOf [(.t 101), (.t 102)]), none⟩,
 ⟨(some 104), (.bin .lss (.t 103) (.c (.int .i64 0))), none⟩])
 (.keep [3, 95, 96, 97, 104]))
 (.cond (.t 104)
 (.seq
 (.seq (.ops [⟨(some 4), (.mov (.c (.bool false))), none⟩])
 (.keep [4]))
 .ret)
 .skip))))
 (.seq (.ops [⟨(some 105), (.bin .add (.t 97) (.c (.int .i64 1))), none⟩,
 ⟨(some 97), (.mov (.t 105)), none⟩])
 (.keep [3, 95, 96, 97]))))))))
 (.seq
 (.seq (.ops [⟨(some 4), (.mov (.c (.bool true))), none⟩])
 (.keep [4]))
 .ret)))))),
 [(.slot 4)]⟩
/-- impl Scalar -/
def F_impl_Scalar : Fun := ⟨1,
 (.seq
 (.seq (.ops [⟨(some 1), (.boxL 5 (.t 0)), none⟩,
 ⟨(some 2), (.mov (.c (.int .i64 0))), none⟩])
 (.keep [1]))
 (.seq
 (.seq (.ops [⟨(some 3), (.faB 2 1), none⟩,
 ⟨(some 4), (.ldE 1 false 1 3), none⟩,
 ⟨(some 5), (.bin .mul (.c (.int .i64 90000)) (.t 4)), none⟩,
 ⟨(some 6), (.faB 3 1), none⟩,
 ⟨(some 7), (.ldE 1 false 1 6), none⟩,
 ⟨(some 8), (.bin .mul (.c (.int .i64 300)) (.t 7)), none⟩,
 ⟨(some 9), (.bin .add (.t 5) (.t 8)), none⟩,
 ⟨(some 10), (.faB 4 1), none⟩,
 ⟨(some 11), (.ldE 1 false 1 10), none⟩,
 ⟨(some 12), (.bin .add (.t 9) (.t 11)), none⟩,
 ⟨(some 2), (.mov (.t 12)), none⟩])
 (.keep [2]))
 .ret)),
 [(.slot 2)]⟩
/-- impl weight -/
def F_impl_weight : Fun := ⟨1,
 (.seq
 (.seq (.ops [⟨(some 1), (.boxL 2 (.t 0)), none⟩,
 ⟨(some 2), (.mov (.c (.int .i64 0))), none⟩])
 (.keep [1]))
 (.seq
 (.seq (.ops [⟨(some 3), (.mov (.c (.int .i64 0))), none⟩])
 (.keep [1, 3]))
 (.seq
 (.seq
 (.seq (.ops [⟨(some 8), (.faB 0 1), none⟩,
 ⟨(some 9), (.ldE 1 false 1 8), none⟩,
 ⟨(some 10), (.ln (.t 9)), none⟩,
 ⟨(some 11), (.mov (.c (.int .i64 0))), none⟩])
 (.keep [1, 3, 9, 10, 11]))
 (.block 0
 (.loop
 (.seq
 (.seq (.ops [⟨(some 12), (.bin .lss (.t 11) (.t 10)), none⟩])
 (.keep [1, 3, 9, 10, 11, 12]))
 (.seq
 (.cond (.t 12)
 .skip
 (.exit 0))
 (.seq
 (.block 1
 (.seq
 (.seq (.ops [⟨(some 13), (.ia 1 (.t 9) (.t 11)), none⟩,
 ⟨(some 14), (.ld 1 false (.t 13)), none⟩,
 ⟨(some 5), (.mov (.t 14)), none⟩])
 (.keep [1, 3, 5, 9, 10, 11]))
 (.seq (.ops [⟨(some 15), (.mov (.t 3)), none⟩,
 ⟨(some 16), (.mov (.t 5)), none⟩,
 ⟨(some 17), (.bin .add (.t 15) (.t 16)), none⟩,
 ⟨(some 3), (.mov (.t 17)), none⟩])
 (.keep [1, 3, 9, 10, 11]))))
 (.seq (.ops [⟨(some 18), (.bin .add (.t 11) (.c (.int .i64 1))), none⟩,
 ⟨(some 11), (.mov (.t 18)), none⟩])
 (.keep [1, 3, 9, 10, 11]))))))))
 (.seq
 (.seq
 (.seq (.ops [⟨(some 19), (.faB 1 1), none⟩,
 ⟨(some 20), (.ldE 1 false 1 19), none⟩,
 ⟨(some 21), (.ln (.t 20)), none⟩,
 ⟨(some 22), (.mov (.c (.int .i64 0))), none⟩])
 (.keep [3, 20, 21, 22]))
 (.block 2
 (.loop
 (.seq
 (.seq (.ops [⟨(some 23), (.bin .lss (.t 22) (.t 21)), none⟩])
 (.keep [3, 20, 21, 22, 23]))
 (.seq
 (.cond (.t 23)
 .skip
 (.exit 2))
 (.seq
 (.block 3
 (.seq
 (.seq (.ops [⟨(some 24), (.ia 2 (.t 20) (.t 22)), none⟩,
 ⟨(some 25), (.ld 2 true (.t 24)), none⟩,
 ⟨(some 7), (.newL [(.slice none 0 0), (.int .i64 0)]), none⟩,
 ⟨none, (.stB 2 7 (.t 25)), none⟩])
 (.keep [3, 7, 20, 21, 22]))
 (.seq (.ops [⟨(some 26), (.mov (.t 3)), none⟩,
 ⟨(some 27), (.faB 1 7), none⟩,
 ⟨(some 28), (.ldE 1 false 7 27), none⟩,
 ⟨(some 29), (.faB 0 7), none⟩,
 ⟨(some 30), (.ldE 1 false 7 29), none⟩,
 ⟨(some 31), (.ln (.t 30)), none⟩,
 ⟨(some 32), (.bin .sub (.t 31) (.c (.int .i64 1))), none⟩,
 ⟨(some 33), (.bin .quo (.t 32) (.c (.int .i64 2))), none⟩,
 ⟨(some 34), (.bin .mul (.t 28) (.t 33)), none⟩,
 ⟨(some 35), (.bin .add (.t 26) (.t 34)), none⟩,
 ⟨(some 3), (.mov (.t 35)), none⟩])
 (.keep [3, 20, 21, 22]))))
 (.seq (.ops [⟨(some 36), (.bin .add (.t 22) (.c (.int .i64 1))), none⟩,
 ⟨(some 22), (.mov (.t 36)), none⟩])
 (.keep [3, 20, 21, 22]))))))))
 (.seq
 (.seq (.ops [⟨(some 37), (.mov (.t 3)), none⟩,
 ⟨(some 2), (.mov (.t 37)), none⟩])
 (.keep [2]))
 .ret))))),
 [(.slot 2)]⟩
/-- spec Certifies -/
def F_spec_Certifies : Fun := ⟨3,
 (.seq
 (.seq (.ops [⟨(some 3), (.boxL 2 (.t 0)), none⟩,
 ⟨(some 5), (.boxL 2 (.t 2)), none⟩,
 ⟨(some 6), (.mov (.c (.bool false))), none⟩])
 (.keep [1, 3, 5]))
 (.seq
 (.seq (.free true [⟨(some 7), (.ldB 2 true 3), none⟩,
 ⟨(some 8), (.ldB 2 true 5), none⟩,
 ⟨(some 9), (.call n_spec_ProofOk [(.t 7), (.t 8)]), none⟩,
 ⟨(some 10), (.mov (.t 9)), none⟩,
 ⟨(some 11), (.ldB 2 true 3), (some (10, true))⟩,
 ⟨(some 12), (.mov (.t 1)), (some (10, true))⟩,
 ⟨(some 13), (.call n_spec_MatchOk [(.t 11), (.t 12)]), (some (10, true))⟩,
 ⟨(some 14), (.pick (.t 10) (.t 13) (.c (.bool false))), none⟩,
 ⟨(some 15), (.mov (.t 14)), none⟩,
 ⟨(some 16), (.ldB 2 true 3), (some (15, true))⟩,
 ⟨(some 17), (.mov (.t 1)), (some (15, true))⟩,
 ⟨(some 18), (.call n_spec_l11Worth [(.t 16), (.t 17)]), (some (15, true))⟩,
 ⟨(some 19), (.bin .mul (.c (.int .i64 2)) (.t 18)), (some (15, true))⟩,
 ⟨(some 20), (.ldB 2 true 5), (some (15, true))⟩,
 ⟨(some 21), (.call n_spec_l11Sum [(.t 20)]), (some (15, true))⟩,
 ⟨(some 22), (.bin .eql (.t 19) (.t 21)), (some (15, true))⟩,
 ⟨(some 23), (.pick (.t 15) (.t 22) (.c (.bool false))), none⟩,
 ⟨(some 6), (.mov (.t 23)), none⟩])
 (.keep [6]))
 .ret)),
 [(.slot 6)]⟩
/-- impl groupOk -/
def F_impl_groupOk : Fun := ⟨2,
 (.seq
 (.seq (.ops [⟨(some 2), (.boxL 2 (.t 0)), none⟩,
 ⟨(some 3), (.boxL 2 (.t 1)), none⟩,
 ⟨(some 4), (.mov (.c (.bool false))), none⟩])
 (.keep [2, 3]))
 (.seq
 (.seq
 (.seq (.ops [⟨(some 7), (.faB 0 3), none⟩,
 ⟨(some 8), (.ldE 1 false 3 7), none⟩,
 ⟨(some 9), (.ln (.t 8)), none⟩,
 ⟨(some 10), (.bin .lss (.t 9) (.c (.int .i64 3))), none⟩,
 ⟨(some 11), (.mov (.t 10)), none⟩,
 ⟨(some 12), (.faB 0 3), (some (11, false))⟩,
 ⟨(some 13), (.ldE 1 false 3 12), (some (11, false))⟩,
 ⟨(some 14), (.ln (.t 13)), (some (11, false))⟩,
 ⟨(some 15), (.bin .rem (.t 14) (.c (.int .i64 2))), (some (11, false))⟩,
 ⟨(some 16), (.bin .eql (.t 15) (.c (.int .i64 0))), (some (11, false))⟩,
 ⟨(some 17), (.pick (.t 11) (.c (.bool true)) (.t 16)), none⟩,
 ⟨(some 18), (.mov (.t 17)), none⟩,
 ⟨(some 19), (.faB 1 3), (some (18, false))⟩,
 ⟨(some 20), (.ldE 1 false 3 19), (some (18, false))⟩,
 ⟨(some 21), (.call n_impl_in [(.t 20), (.c (.int .i64 1)), (.c (.int .i64 1000000000))]), (some (18, false))⟩,
 ⟨(some 22), (.un .not (.t 21)), (some (18, false))⟩,
 ⟨(some 23), (.pick (.t 18) (.c (.bool true)) (.t 22)), none⟩])
 (.keep [2, 3, 23]))
 (.cond (.t 23)
 (.seq
 (.seq (.ops [⟨(some 4), (.mov (.c (.bool false))), none⟩])
 (.keep [4]))
 .ret)
 .skip))
 (.seq
 (.seq
 (.seq (.ops [⟨(some 24), (.faB 0 3), none⟩,
 ⟨(some 25), (.ldE 1 false 3 24), none⟩,
 ⟨(some 26), (.ln (.t 25)), none⟩,
 ⟨(some 27), (.mov (.c (.int .i64 0))), none⟩])
 (.keep [2, 3, 25, 26, 27]))
 (.block 0
 (.loop
 (.seq
 (.seq (.ops [⟨(some 28), (.bin .lss (.t 27) (.t 26)), none⟩])
 (.keep [2, 3, 25, 26, 27, 28]))
 (.seq
 (.cond (.t 28)
 .skip
 (.exit 0))
 (.seq
 (.block 1
 (.seq
 (.seq (.ops [⟨(some 29), (.mov (.t 27)), none⟩,
 ⟨(some 30), (.ia 1 (.t 25) (.t 27)), none⟩,
 ⟨(some 31), (.ld 1 false (.t 30)), none⟩,
 ⟨(some 5), (.mov (.t 29)), none⟩,
 ⟨(some 6), (.mov (.t 31)), none⟩])
 (.keep [2, 3, 5, 6, 25, 26, 27]))
 (.seq
 (.seq (.ops [⟨(some 32), (.mov (.t 6)), none⟩,
 ⟨(some 33), (.faB 0 2), none⟩,
 ⟨(some 34), (.ldE 1 false 2 33), none⟩,
 ⟨(some 35), (.bin .sub (.t 34) (.c (.int .i64 1))), none⟩,
 ⟨(some 36), (.call n_impl_in [(.t 32), (.c (.int .i64 0)), (.t 35)]), none⟩,
 ⟨(some 37), (.un .not (.t 36)), none⟩,
 ⟨(some 38), (.mov (.t 37)), none⟩,
 ⟨(some 39), (.mov (.t 5)), (some (38, false))⟩,
 ⟨(some 40), (.bin .gtr (.t 39) (.c (.int .i64 0))), (some (38, false))⟩,
 ⟨(some 41), (.mov (.t 40)), (some (38, false))⟩,
 ⟨(some 42), (.faB 0 3), (some (41, true))⟩,
 ⟨(some 43), (.ldE 1 false 3 42), (some (41, true))⟩,
 ⟨(some 44), (.mov (.t 5)), (some (41, true))⟩,
 ⟨(some 45), (.bin .sub (.t 44) (.c (.int .i64 1))), (some (41, true))⟩,
 ⟨(some 46), (.ia 1 (.t 43) (.t 45)), (some (41, true))⟩,
 ⟨(some 47), (.ld 1 false (.t 46)), (some (41, true))⟩,
 ⟨(some 48), (.mov (.t 6)), (some (41, true))⟩,
 ⟨(some 49), (.bin .geq (.t 47) (.t 48)), (some (41, true))⟩,
 ⟨(some 50), (.pick (.t 41) (.t 49) (.c (.bool false))), (some (38, false))⟩,
 ⟨(some 51), (.pick (.t 38) (.c (.bool true)) (.t 50)), none⟩])
 (.keep [2, 3, 25, 26, 27, 51]))
 (.cond (.t 51)
 (.seq
 (.seq (.ops [⟨(some 4), (.mov (.c (.bool false))), none⟩])
 (.keep [4]))
 .ret)
 .skip))))
 (.seq (.ops [⟨(some 52), (.bin .add (.t 27) (.c (.int .i64 1))), none⟩,
 ⟨(some 27), (.mov (.t 52)), none⟩])
 (.keep [2, 3, 25, 26, 27]))))))))
 (.seq
 (.seq (.ops [⟨(some 4), (.mov (.c (.bool true))), none⟩])
 (.keep [4]))
 .ret)))),
 [(.slot 4)]⟩
/-- impl within -/
def F_impl_within : Fun := ⟨2,
 (.seq
 (.seq (.ops [⟨(some 4), (.mov (.c (.bool false))), none⟩,
 ⟨(some 5), (.mov (.c (.bool false))), none⟩])
 (.keep [0, 1]))
 (.seq
 (.seq (.ops [⟨(some 6), (.mov (.c (.bool true))), none⟩,
 ⟨(some 7), (.mov (.c (.bool true))), none⟩])
 (.keep [0, 1, 6, 7]))
 (.seq
 (.seq
 (.seq (.ops [⟨(some 11), (.mov (.t 0)), none⟩,
 ⟨(some 12), (.ln (.t 11)), none⟩,
 ⟨(some 13), (.mov (.c (.int .i64 0))), none⟩])
 (.keep [1, 6, 7, 11, 12, 13]))
 (.block 0
 (.loop
 (.seq
 (.seq (.ops [⟨(some 14), (.bin .lss (.t 13) (.t 12)), none⟩])
 (.keep [1, 6, 7, 11, 12, 13, 14]))
 (.seq
 (.cond (.t 14)
 .skip
 (.exit 0))
 (.seq
 (.block 1
 (.seq
 (.seq (.ops [⟨(some 15), (.ia 1 (.t 11) (.t 13)), none⟩,
 ⟨(some 16), (.ld 1 false (.t 15)), none⟩,
 ⟨(some 9), (.mov (.t 16)), none⟩])
 (.keep [1, 6, 7, 9, 11, 12, 13]))
 (.seq
 (.seq (.ops [⟨(some 17), (.mov (.t 1)), none⟩,
 ⟨(some 18), (.mov (.t 9)), none⟩,
 ⟨(some 19), (.call n_impl_hasInt [(.t 17), (.t 18)]), none⟩,
 ⟨(some 10), (.mov (.t 19)), none⟩])
 (.keep [1, 6, 7, 10, 11, 12, 13]))
 (.seq (.ops [⟨(some 20), (.mov (.t 6)), none⟩,
 ⟨(some 21), (.mov (.t 20)), none⟩,
 ⟨(some 22), (.mov (.t 10)), (some (21, true))⟩,
 ⟨(some 23), (.pick (.t 21) (.t 22) (.c (.bool false))), none⟩,
 ⟨(some 24), (.mov (.t 7)), none⟩,
 ⟨(some 25), (.mov (.t 24)), none⟩,
 ⟨(some 26), (.mov (.t 10)), (some (25, true))⟩,
 ⟨(some 27), (.un .not (.t 26)), (some (25, true))⟩,
 ⟨(some 28), (.pick (.t 25) (.t 27) (.c (.bool false))), none⟩,
 ⟨(some 6), (.mov (.t 23)), none⟩,
 ⟨(some 7), (.mov (.t 28)), none⟩])
 (.keep [1, 6, 7, 11, 12, 13])))))
 (.seq (.ops [⟨(some 29), (.bin .add (.t 13) (.c (.int .i64 1))), none⟩,
 ⟨(some 13), (.mov (.t 29)), none⟩])
 (.keep [1, 6, 7, 11, 12, 13]))))))))
 (.seq
 (.seq (.ops [⟨(some 30), (.mov (.t 6)), none⟩,
 ⟨(some 31), (.mov (.t 7)), none⟩,
 ⟨(some 4), (.mov (.t 30)), none⟩,
 ⟨(some 5), (.mov (.t 31)), none⟩])
 (.keep [4, 5]))
 .ret)))),
 [(.slot 4), (.slot 5)]⟩
/-- impl slackOf -/
def F_impl_slackOf : Fun := ⟨2,
 (.seq
 (.seq (.ops [⟨(some 2), (.boxL 5 (.t 0)), none⟩,
 ⟨(some 3), (.boxL 2 (.t 1)), none⟩,
 ⟨(some 4), (.mov (.c (.int .i64 0))), none⟩])
 (.keep [2, 3]))
 (.seq
 (.seq (.free false [⟨(some 8), (.faB 0 3), none⟩,
 ⟨(some 9), (.ldE 1 false 3 8), none⟩,
 ⟨(some 10), (.faB 0 2), none⟩,
 ⟨(some 11), (.ldE 1 false 2 10), none⟩,
 ⟨(some 12), (.ia 1 (.t 9) (.t 11)), none⟩,
 ⟨(some 13), (.ld 1 false (.t 12)), none⟩,
 ⟨(some 14), (.faB 0 3), none⟩,
 ⟨(some 15), (.ldE 1 false 3 14), none⟩,
 ⟨(some 16), (.faB 1 2), none⟩,
 ⟨(some 17), (.ldE 1 false 2 16), none⟩,
 ⟨(some 18), (.ia 1 (.t 15) (.t 17)), none⟩,
 ⟨(some 19), (.ld 1 false (.t 18)), none⟩,
 ⟨(some 20), (.bin .add (.t 13) (.t 19)), none⟩,
 ⟨(some 21), (.ldB 5 true 2), none⟩,
 ⟨(some 22), (.call n_impl_Scalar [(.t 21)]), none⟩,
 ⟨(some 23), (.bin .mul (.c (.int .i64 2)) (.t 22)), none⟩,
 ⟨(some 24), (.bin .sub (.t 20) (.t 23)), none⟩,
 ⟨(some 5), (.mov (.t 24)), none⟩])
 (.keep [2, 3, 5]))
 (.seq
 (.seq
 (.seq (.ops [⟨(some 25), (.faB 1 3), none⟩,
 ⟨(some 26), (.ldE 1 false 3 25), none⟩,
 ⟨(some 27), (.ln (.t 26)), none⟩,
 ⟨(some 28), (.mov (.c (.int .i64 0))), none⟩])
 (.keep [2, 5, 26, 27, 28]))
 (.block 0
 (.loop
 (.seq
 (.seq (.ops [⟨(some 29), (.bin .lss (.t 28) (.t 27)), none⟩])
 (.keep [2, 5, 26, 27, 28, 29]))
 (.seq
 (.cond (.t 29)
 .skip
 (.exit 0))
 (.seq
 (.block 1
 (.seq
 (.seq (.ops [⟨(some 30), (.ia 2 (.t 26) (.t 28)), none⟩,
 ⟨(some 31), (.ld 2 true (.t 30)), none⟩,
 ⟨(some 7), (.newL [(.slice none 0 0), (.int .i64 0)]), none⟩,
 ⟨none, (.stB 2 7 (.t 31)), none⟩])
 (.keep [2, 5, 7, 26, 27, 28]))
 (.seq
 (.seq (.ops [⟨(some 32), (.faB 0 7), none⟩,
 ⟨(some 33), (.ldE 1 false 7 32), none⟩,
 ⟨(some 34), (.faB 0 2), none⟩,
 ⟨(some 35), (.ldE 1 false 2 34), none⟩,
 ⟨(some 36), (.call n_impl_hasInt [(.t 33), (.t 35)]), none⟩,
 ⟨(some 37), (.mov (.t 36)), none⟩,
 ⟨(some 38), (.faB 0 7), (some (37, true))⟩,
 ⟨(some 39), (.ldE 1 false 7 38), (some (37, true))⟩,
 ⟨(some 40), (.faB 1 2), (some (37, true))⟩,
 ⟨(some 41), (.ldE 1 false 2 40), (some (37, true))⟩,
 ⟨(some 42), (.call n_impl_hasInt [(.t 39), (.t 41)]), (some (37, true))⟩,
 ⟨(some 43), (.pick (.t 37) (.t 42) (.c (.bool false))), none⟩])
 (.keep [2, 5, 7, 26, 27, 28, 43]))
 (.cond (.t 43)
 (.seq (.ops [⟨(some 44), (.mov (.t 5)), none⟩,
 ⟨(some 45), (.faB 1 7), none⟩,
 ⟨(some 46), (.ldE 1 false 7 45), none⟩,
 ⟨(some 47), (.bin .add (.t 44) (.t 46)), none⟩,
 ⟨(some 5), (.mov (.t 47)), none⟩])
 (.keep [2, 5, 26, 27, 28]))
 .skip))))
 (.seq (.ops [⟨(some 48), (.bin .add (.t 28) (.c (.int .i64 1))), none⟩,
 ⟨(some 28), (.mov (.t 48)), none⟩])
 (.keep [2, 5, 26, 27, 28]))))))))
 (.seq
 (.seq (.ops [⟨(some 49), (.mov (.t 5)), none⟩,
 ⟨(some 4), (.mov (.t 49)), none⟩])
 (.keep [4]))
 .ret)))),
 [(.slot 4)]⟩
/-- spec ProofOk -/
def F_spec_ProofOk : Fun := ⟨2,
 (.seq
 (.seq (.ops [⟨(some 2), (.boxL 2 (.t 0)), none⟩,
 ⟨(some 3), (.boxL 2 (.t 1)), none⟩,
 ⟨(some 4), (.mov (.c (.bool false))), none⟩])
 (.keep [2, 3]))
 (.seq
 (.seq
 (.seq (.ops [⟨(some 11), (.ldB 2 true 2), none⟩,
 ⟨(some 12), (.call n_spec_GraphOk [(.t 11)]), none⟩,
 ⟨(some 13), (.un .not (.t 12)), none⟩,
 ⟨(some 14), (.mov (.t 13)), none⟩,
 ⟨(some 15), (.faB 0 3), (some (14, false))⟩,
 ⟨(some 16), (.ldE 1 false 3 15), (some (14, false))⟩,
 ⟨(some 17), (.ln (.t 16)), (some (14, false))⟩,
 ⟨(some 18), (.faB 0 2), (some (14, false))⟩,
 ⟨(some 19), (.ldE 1 false 2 18), (some (14, false))⟩,
 ⟨(some 20), (.bin .neq (.t 17) (.t 19)), (some (14, false))⟩,
 ⟨(some 21), (.pick (.t 14) (.c (.bool true)) (.t 20)), none⟩,
 ⟨(some 22), (.mov (.t 21)), none⟩,
 ⟨(some 23), (.faB 1 3), (some (22, false))⟩,
 ⟨(some 24), (.ldE 1 false 3 23), (some (22, false))⟩,
 ⟨(some 25), (.ln (.t 24)), (some (22, false))⟩,
 ⟨(some 26), (.bin .gtr (.t 25) (.c (.int .i64 8))), (some (22, false))⟩,
 ⟨(some 27), (.pick (.t 22) (.c (.bool true)) (.t 26)), none⟩])
 (.keep [2, 3, 27]))
 (.cond (.t 27)
 (.seq
 (.seq (.ops [⟨(some 4), (.mov (.c (.bool false))), none⟩])
 (.keep [4]))
 .ret)
 .skip))
 (.seq
 (.seq
 (.seq (.ops [⟨(some 5), (.mov (.c (.int .i64 0))), none⟩])
 (.keep [2, 3, 5]))
 (.block 0
 (.loop
 (.seq
 (.seq
 (.seq (.ops [⟨(some 28), (.mov (.t 5)), none⟩,
 ⟨(some 29), (.faB 0 3), none⟩,
 ⟨(some 30), (.ldE 1 false 3 29), none⟩,
 ⟨(some 31), (.ln (.t 30)), none⟩,
 ⟨(some 32), (.bin .lss (.t 28) (.t 31)), none⟩])
 (.keep [2, 3, 5, 32]))
 (.cond (.t 32)
 .skip
 (.exit 0)))
 (.seq
 (.block 1
 (.seq
 (.seq (.ops [⟨(some 35), (.faB 0 3), none⟩,
 ⟨(some 36), (.ldE 1 false 3 35), none⟩,
 ⟨(some 37), (.mov (.t 5)), none⟩,
 ⟨(some 38), (.ia 1 (.t 36) (.t 37)), none⟩,
 ⟨(some 39), (.ld 1 false (.t 38)), none⟩,
 ⟨(some 40), (.call n_spec_l01In [(.t 39), (.c (.int .i64 0)), (.c (.int .i64 1000000000))]), none⟩,
 ⟨(some 41), (.un .not (.t 40)), none⟩])
 (.keep [2, 3, 5, 41]))
 (.cond (.t 41)
 (.seq
 (.seq (.ops [⟨(some 4), (.mov (.c (.bool false))), none⟩])
 (.keep [4]))
 .ret)
 .skip)))
 (.seq (.ops [⟨(some 33), (.mov (.t 5)), none⟩,
 ⟨(some 34), (.bin .add (.t 33) (.c (.int .i64 1))), none⟩,
 ⟨(some 5), (.mov (.t 34)), none⟩])
 (.keep [2, 3, 5])))))))
 (.seq
 (.seq
 (.seq (.ops [⟨(some 6), (.mov (.c (.int .i64 0))), none⟩])
 (.keep [2, 3, 6]))
 (.block 2
 (.loop
 (.seq
 (.seq
 (.seq (.ops [⟨(some 42), (.mov (.t 6)), none⟩,
 ⟨(some 43), (.faB 1 3), none⟩,
 ⟨(some 44), (.ldE 1 false 3 43), none⟩,
 ⟨(some 45), (.ln (.t 44)), none⟩,
 ⟨(some 46), (.bin .lss (.t 42) (.t 45)), none⟩])
 (.keep [2, 3, 6, 46]))
 (.cond (.t 46)
 .skip
 (.exit 2)))
 (.seq
 (.block 3
 (.seq
 (.seq (.ops [⟨(some 49), (.faB 1 3), none⟩,
 ⟨(some 50), (.ldE 1 false 3 49), none⟩,
 ⟨(some 51), (.mov (.t 6)), none⟩,
 ⟨(some 52), (.ia 2 (.t 50) (.t 51)), none⟩,
 ⟨(some 53), (.ld 2 true (.t 52)), none⟩,
 ⟨(some 7), (.newL [(.slice none 0 0), (.int .i64 0)]), none⟩,
 ⟨none, (.stB 2 7 (.t 53)), none⟩])
 (.keep [2, 3, 6, 7]))
 (.seq
 (.seq
 (.seq (.ops [⟨(some 54), (.faB 0 7), none⟩,
 ⟨(some 55), (.ldE 1 false 7 54), none⟩,
 ⟨(some 56), (.ln (.t 55)), none⟩,
 ⟨(some 57), (.bin .lss (.t 56) (.c (.int .i64 3))), none⟩,
 ⟨(some 58), (.mov (.t 57)), none⟩,
 ⟨(some 59), (.faB 0 7), (some (58, false))⟩,
 ⟨(some 60), (.ldE 1 false 7 59), (some (58, false))⟩,
 ⟨(some 61), (.ln (.t 60)), (some (58, false))⟩,
 ⟨(some 62), (.bin .rem (.t 61) (.c (.int .i64 2))), (some (58, false))⟩,
 ⟨(some 63), (.bin .eql (.t 62) (.c (.int .i64 0))), (some (58, false))⟩,
 ⟨(some 64), (.pick (.t 58) (.c (.bool true)) (.t 63)), none⟩,
 ⟨(some 65), (.mov (.t 64)), none⟩,
 ⟨(some 66), (.faB 0 7), (some (65, false))⟩,
 ⟨(some 67), (.ldE 1 false 7 66), (some (65, false))⟩,
 ⟨(some 68), (.ln (.t 67)), (some (65, false))⟩,
 ⟨(some 69), (.faB 0 2), (some (65, false))⟩,
 ⟨(some 70), (.ldE 1 false 2 69), (some (65, false))⟩,
 ⟨(some 71), (.bin .gtr (.t 68) (.t 70)), (some (65, false))⟩,
 ⟨(some 72), (.pick (.t 65) (.c (.bool true)) (.t 71)), none⟩,
 ⟨(some 73), (.mov (.t 72)), none⟩,
 ⟨(some 74), (.faB 1 7), (some (73, false))⟩,
 ⟨(some 75), (.ldE 1 false 7 74), (some (73, false))⟩,
 ⟨(some 76), (.call n_spec_l01In [(.t 75), (.c (.int .i64 1)), (.c (.int .i64 1000000000))]), (some (73, false))⟩,
 ⟨(some 77), (.un .not (.t 76)), (some (73, false))⟩,
 ⟨(some 78), (.pick (.t 73) (.c (.bool true)) (.t 77)), none⟩])
 (.keep [2, 3, 6, 7, 78]))
 (.cond (.t 78)
 (.seq
 (.seq (.ops [⟨(some 4), (.mov (.c (.bool false))), none⟩])
 (.keep [4]))
 .ret)
 .skip))
 (.seq
 (.seq
 (.seq (.ops [⟨(some 8), (.mov (.c (.int .i64 0))), none⟩])
 (.keep [2, 3, 6, 7, 8]))
 (.block 4
 (.loop
 (.seq
 (.seq
 (.seq (.ops [⟨(some 79), (.mov (.t 8)), none⟩,
 ⟨(some 80), (.faB 0 7), none⟩,
 ⟨(some 81), (.ldE 1 false 7 80), none⟩,
 ⟨(some 82), (.ln (.t 81)), none⟩,
 ⟨(some 83), (.bin .lss (.t 79) (.t 82)), none⟩])
 (.keep [2, 3, 6, 7, 8, 83]))
 (.cond (.t 83)
 .skip
 (.exit 4)))
 (.seq
 (.block 5
 (.seq
 (.seq (.free true [⟨(some 86), (.faB 0 7), none⟩,
 ⟨(some 87), (.ldE 1 false 7 86), none⟩,
 ⟨(some 88), (.mov (.t 8)), none⟩,
 ⟨(some 89), (.ia 1 (.t 87) (.t 88)), none⟩,
 ⟨(some 90), (.ld 1 false (.t 89)), none⟩,
 ⟨(some 91), (.faB 0 2), none⟩,
 ⟨(some 92), (.ldE 1 false 2 91), none⟩,
 ⟨(some 93), (.bin .sub (.t 92) (.c (.int .i64 1))), none⟩,
 ⟨(some 94), (.call n_spec_l01In [(.t 90), (.c (.int .i64 0)), (.t 93)]), none⟩,
 ⟨(some 95), (.un .not (.t 94)), none⟩,
 ⟨(some 96), (.mov (.t 95)), none⟩,
 ⟨(some 97), (.mov (.t 8)), (some (96, false))⟩,
 ⟨(some 98), (.bin .gtr (.t 97) (.c (.int .i64 0))), (some (96, false))⟩,
 ⟨(some 99), (.mov (.t 98)), (some (96, false))⟩,
 ⟨(some 100), (.faB 0 7), (some (99, true))⟩,
 ⟨(some 101), (.ldE 1 false 7 100), (some (99, true))⟩,
 ⟨(some 102), (.mov (.t 8)), (some (99, true))⟩,
 ⟨(some 103), (.bin .sub (.t 102) (.c (.int .i64 1))), (some (99, true))⟩,
 ⟨(some 104), (.ia 1 (.t 101) (.t 103)), (some (99, true))⟩,
 ⟨(some 105), (.ld 1 false (.t 104)), (some (99, true))⟩,
 ⟨(some 106), (.faB 0 7), (some (99, true))⟩,
 ⟨(some 107), (.ldE 1 false 7 106), (some (99, true))⟩,
 ⟨(some 108), (.mov (.t 8)), (some (99, true))⟩,
 ⟨(some 109), (.ia 1 (.t 107) (.t 108)), (some (99, true))⟩,
 ⟨(some 110), (.ld 1 false (.t 109)), (some (99, true))⟩,
 ⟨(some 111), (.bin .geq (.t 105) (.t 110)), (some (99, true))⟩,
 ⟨(some 112), (.pick (.t 99) (.t 111) (.c (.bool false))), (some (96, false))⟩,
 ⟨(some 113), (.pick (.t 96) (.c (.bool true)) (.t 112)), none⟩])
 (.keep [2, 3, 6, 7, 8, 113]))
 (.cond (.t 113)
 (.seq
 (.seq (.ops [⟨(some 4), (.mov (.c (.bool false))), none⟩])
 (.keep [4]))
 .ret)
 .skip)))
 (.seq (.ops [⟨(some 84), (.mov (.t 8)), none⟩,
 ⟨(some 85), (.bin .add (.t 84) (.c (.int .i64 1))), none⟩,
 ⟨(some 8), (.mov (.t 85)), none⟩])
 (.keep [2, 3, 6, 7, 8])))))))
 (.seq
 (.seq (.ops [⟨(some 9), (.mov (.c (.int .i64 0))), none⟩])
 (.keep [2, 3, 6, 7, 9]))
 (.block 6
 (.loop
 (.seq
 (.seq
 (.seq (.ops [⟨(some 114), (.mov (.t 9)), none⟩,
 ⟨(some 115), (.mov (.t 6)), none⟩,
 ⟨(some 116), (.bin .lss (.t 114) (.t 115)), none⟩])
 (.keep [2, 3, 6, 7, 9, 116]))
 (.cond (.t 116)
 .skip
 (.exit 6)))
 (.seq
 (.block 7
 (.seq
 (.seq (.free true [⟨(some 119), (.faB 1 3), none⟩,
 ⟨(some 120), (.ldE 1 false 3 119), none⟩,
 ⟨(some 121), (.mov (.t 9)), none⟩,
 ⟨(some 122), (.ia 2 (.t 120) (.t 121)), none⟩,
 ⟨(some 123), (.fa 0 (.t 122)), none⟩,
 ⟨(some 124), (.ld 1 false (.t 123)), none⟩,
 ⟨(some 125), (.faB 0 7), none⟩,
 ⟨(some 126), (.ldE 1 false 7 125), none⟩,
 ⟨(some 127), (.call n_spec_l11Nested [(.t 124), (.t 126)]), none⟩,
 ⟨(some 128), (.un .not (.t 127)), none⟩])
 (.keep [2, 3, 6, 7, 9, 128]))
 (.cond (.t 128)
 (.seq
 (.seq (.ops [⟨(some 4), (.mov (.c (.bool false))), none⟩])
 (.keep [4]))
 .ret)
 .skip)))
 (.seq (.ops [⟨(some 117), (.mov (.t 9)), none⟩,
 ⟨(some 118), (.bin .add (.t 117) (.c (.int .i64 1))), none⟩,
 ⟨(some 9), (.mov (.t 118)), none⟩])
 (.keep [2, 3, 6, 7, 9])))))))))))
 (.seq (.ops [⟨(some 47), (.mov (.t 6)), none⟩,
 ⟨(some 48), (.bin .add (.t 47) (.c (.int .i64 1))), none⟩,
 ⟨(some 6), (.mov (.t 48)), none⟩])
 (.keep [2, 3, 6])))))))
 (.seq
 (.seq
 (.seq (.ops [⟨(some 10), (.mov (.c (.int .i64 0))), none⟩])
 (.keep [2, 3, 10]))
 (.block 8
 (.loop
 (.seq
 (.seq
 (.seq (.ops [⟨(some 129), (.mov (.t 10)), none⟩,
 ⟨(some 130), (.faB 1 2), none⟩,
 ⟨(some 131), (.ldE 1 false 2 130), none⟩,
 ⟨(some 132), (.ln (.t 131)), none⟩,
 ⟨(some 133), (.bin .lss (.t 129) (.t 132)), none⟩])
 (.keep [2, 3, 10, 133]))
 (.cond (.t 133)
 .skip
 (.exit 8)))
 (.seq
 (.block 9
 (.seq
 (.seq (.free true [⟨(some 136), (.ldB 2 true 3), none⟩,
 ⟨(some 137), (.faB 1 2), none⟩,
 ⟨(some 138), (.ldE 1 false 2 137), none⟩,
 ⟨(some 139), (.mov (.t 10)), none⟩,
 ⟨(some 140), (.ia 5 (.t 138) (.t 139)), none⟩,
 ⟨(some 141), (.ld 5 true (.t 140)), none⟩,
 ⟨(some 142), (.call n_spec_l11Slack [(.t 136), (.t 141)]), none⟩,
 ⟨(some 143), (.bin .lss (.t 142) (.c (.int .i64 0))), none⟩])
 (.keep [2, 3, 10, 143]))
 (.cond (.t 143)
 (.seq
 (.seq (.ops [⟨(some 4), (.mov (.c (.bool false))), none⟩])
 (.keep [4]))
 .ret)
 .skip)))
 (.seq (.ops [⟨(some 134), (.mov (.t 10)), none⟩,
 ⟨(some 135), (.bin .add (.t 134) (.c (.int .i64 1))), none⟩,
 ⟨(some 10), (.mov (.t 135)), none⟩])
 (.keep [2, 3, 10])))))))
 (.seq
 (.seq (.ops [⟨(some 4), (.mov (.c (.bool true))), none⟩])
 (.keep [4]))
 .ret)))))),
 [(.slot 4)]⟩
/-- spec l11Worth -/
def F_spec_l11Worth : Fun := ⟨2,
 (.seq
 (.seq (.ops [⟨(some 2), (.boxL 2 (.t 0)), none⟩,
 ⟨(some 4), (.mov (.c (.int .i64 0))), none⟩])
 (.keep [1, 2]))
 (.seq
 (.seq (.ops [⟨(some 5), (.mov (.c (.int .i64 0))), none⟩])
 (.keep [1, 2, 5]))
 (.seq
 (.seq
 (.seq (.ops [⟨(some 6), (.mov (.c (.int .i64 0))), none⟩])
 (.keep [1, 2, 5, 6]))
 (.block 0
 (.loop
 (.seq
 (.seq
 (.seq (.ops [⟨(some 7), (.mov (.t 6)), none⟩,
 ⟨(some 8), (.mov (.t 1)), none⟩,
 ⟨(some 9), (.ln (.t 8)), none⟩,
 ⟨(some 10), (.bin .lss (.t 7) (.t 9)), none⟩])
 (.keep [1, 2, 5, 6, 10]))
 (.cond (.t 10)
 .skip
 (.exit 0)))
 (.seq
 (.block 1
 (.seq (.free true [⟨(some 13), (.mov (.t 5)), none⟩,
 ⟨(some 14), (.faB 1 2), none⟩,
 ⟨(some 15), (.ldE 1 false 2 14), none⟩,
 ⟨(some 16), (.ldB 2 true 2), none⟩,
 ⟨(some 17), (.mov (.t 1)), none⟩,
 ⟨(some 18), (.mov (.t 6)), none⟩,
 ⟨(some 19), (.ia 2 (.t 17) (.t 18)), none⟩,
 ⟨(some 20), (.fa 0 (.t 19)), none⟩,
 ⟨(some 21), (.ld 1 false (.t 20)), none⟩,
 ⟨(some 22), (.mov (.t 1)), none⟩,
 ⟨(some 23), (.mov (.t 6)), none⟩,
 ⟨(some 24), (.ia 2 (.t 22) (.t 23)), none⟩,
 ⟨(some 25), (.fa 1 (.t 24)), none⟩,
 ⟨(some 26), (.ld 1 false (.t 25)), none⟩,
 ⟨(some 27), (.call n_spec_l08At [(.t 16), (.t 21), (.t 26)]), none⟩,
 ⟨(some 28), (.ia 5 (.t 15) (.t 27)), none⟩,
 ⟨(some 29), (.ld 5 true (.t 28)), none⟩,
 ⟨(some 30), (.call n_spec_Scalar [(.t 29)]), none⟩,
 ⟨(some 31), (.bin .add (.t 13) (.t 30)), none⟩,
 ⟨(some 5), (.mov (.t 31)), none⟩])
 (.keep [1, 2, 5, 6])))
 (.seq (.ops [⟨(some 11), (.mov (.t 6)), none⟩,
 ⟨(some 12), (.bin .add (.t 11) (.c (.int .i64 1))), none⟩,
 ⟨(some 6), (.mov (.t 12)), none⟩])
 (.keep [1, 2, 5, 6])))))))
 (.seq
 (.seq (.ops [⟨(some 32), (.mov (.t 5)), none⟩,
 ⟨(some 4), (.mov (.t 32)), none⟩])
 (.keep [4]))
 .ret)))),
 [(.slot 4)]⟩
/-- spec l11Sum -/
def F_spec_l11Sum : Fun := ⟨1,
 (.seq
 (.seq (.ops [⟨(some 1), (.boxL 2 (.t 0)), none⟩,
 ⟨(some 2), (.mov (.c (.int .i64 0))), none⟩])
 (.keep [1]))
 (.seq
 (.seq (.ops [⟨(some 3), (.mov (.c (.int .i64 0))), none⟩])
 (.keep [1, 3]))
 (.seq
 (.seq
 (.seq (.ops [⟨(some 4), (.mov (.c (.int .i64 0))), none⟩])
 (.keep [1, 3, 4]))
 (.block 0
 (.loop
 (.seq
 (.seq
 (.seq (.ops [⟨(some 6), (.mov (.t 4)), none⟩,
 ⟨(some 7), (.faB 0 1), none⟩,
 ⟨(some 8), (.ldE 1 false 1 7), none⟩,
 ⟨(some 9), (.ln (.t 8)), none⟩,
 ⟨(some 10), (.bin .lss (.t 6) (.t 9)), none⟩])
 (.keep [1, 3, 4, 10]))
 (.cond (.t 10)
 .skip
 (.exit 0)))
 (.seq
 (.block 1
 (.seq (.ops [⟨(some 13), (.mov (.t 3)), none⟩,
 ⟨(some 14), (.faB 0 1), none⟩,
 ⟨(some 15), (.ldE 1 false 1 14), none⟩,
 ⟨(some 16), (.mov (.t 4)), none⟩,
 ⟨(some 17), (.ia 1 (.t 15) (.t 16)), none⟩,
 ⟨(some 18), (.ld 1 false (.t 17)), none⟩,
 ⟨(some 19), (.bin .add (.t 13) (.t 18)), none⟩,
 ⟨(some 3), (.mov (.t 19)), none⟩])
 (.keep [1, 3, 4])))
 (.seq (.ops [⟨(some 11), (.mov (.t 4)), none⟩,
 ⟨(some 12), (.bin .add (.t 11) (.c (.int .i64 1))), none⟩,
 ⟨(some 4), (.mov (.t 12)), none⟩])
 (.keep [1, 3, 4])))))))
 (.seq
 (.seq
 (.seq (.ops [⟨(some 5), (.mov (.c (.int .i64 0))), none⟩])
 (.keep [1, 3, 5]))
 (.block 2
 (.loop
 (.seq
 (.seq
 (.seq (.ops [⟨(some 20), (.mov (.t 5)), none⟩,
 ⟨(some 21), (.faB 1 1), none⟩,
 ⟨(some 22), (.ldE 1 false 1 21), none⟩,
 ⟨(some 23), (.ln (.t 22)), none⟩,
 ⟨(some 24), (.bin .lss (.t 20) (.t 23)), none⟩])
 (.keep [1, 3, 5, 24]))
 (.cond (.t 24)
 .skip
 (.exit 2)))
 (.seq
 (.block 3
 (.seq (.free true [⟨(some 27), (.mov (.t 3)), none⟩,
 ⟨(some 28), (.faB 1 1), none⟩,
 ⟨(some 29), (.ldE 1 false 1 28), none⟩,
 ⟨(some 30), (.mov (.t 5)), none⟩,
 ⟨(some 31), (.ia 2 (.t 29) (.t 30)), none⟩,
 ⟨(some 32), (.fa 1 (.t 31)), none⟩,
 ⟨(some 33), (.ld 1 false (.t 32)), none⟩,
 ⟨(some 34), (.faB 1 1), none⟩,
 ⟨(some 35), (.ldE 1 false 1 34), none⟩,
 ⟨(some 36), (.mov (.t 5)), none⟩,
 ⟨(some 37), (.ia 2 (.t 35) (.t 36)), none⟩,
 ⟨(some 38), (.fa 0 (.t 37)), none⟩,
 ⟨(some 39), (.ld 1 false (.t 38)), none⟩,
 ⟨(some 40), (.ln (.t 39)), none⟩,
 ⟨(some 41), (.bin .quo (.t 40) (.c (.int .i64 2))), none⟩,
 ⟨(some 42), (.bin .mul (.t 33) (.t 41)), none⟩,
 ⟨(some 43), (.bin .add (.t 27) (.t 42)), none⟩,
 ⟨(some 3), (.mov (.t 43)), none⟩])
 (.keep [1, 3, 5])))
 (.seq (.ops [⟨(some 25), (.mov (.t 5)), none⟩,
 ⟨(some 26), (.bin .add (.t 25) (.c (.int .i64 1))), none⟩,
 ⟨(some 5), (.mov (.t 26)), none⟩])
 (.keep [1, 3, 5])))))))
 (.seq
 (.seq (.ops [⟨(some 44), (.mov (.t 3)), none⟩,
 ⟨(some 2), (.mov (.t 44)), none⟩])
 (.keep [2]))
 .ret))))),
 [(.slot 2)]⟩
/-- spec l11Nested -/
def F_spec_l11Nested : Fun := ⟨2,
 (.seq
 (.seq (.ops [⟨(some 4), (.mov (.c (.bool false))), none⟩])
 (.keep [0, 1]))
 (.seq
 (.seq (.ops [⟨(some 5), (.mov (.c (.int .i64 0))), none⟩])
 (.keep [0, 1, 5]))
 (.seq
 (.seq
 (.seq (.ops [⟨(some 6), (.mov (.c (.int .i64 0))), none⟩])
 (.keep [0, 1, 5, 6]))
 (.block 0
 (.loop
 (.seq
 (.seq
 (.seq (.ops [⟨(some 7), (.mov (.t 6)), none⟩,
 ⟨(some 8), (.mov (.t 0)), none⟩,
 ⟨(some 9), (.ln (.t 8)), none⟩,
 ⟨(some 10), (.bin .lss (.t 7) (.t 9)), none⟩])
 (.keep [0, 1, 5, 6, 10]))
 (.cond (.t 10)
 .skip
 (.exit 0)))
 (.seq
 (.block 1
 (.seq
 (.seq (.ops [⟨(some 13), (.mov (.t 1)), none⟩,
 ⟨(some 14), (.mov (.t 0)), none⟩,
 ⟨(some 15), (.mov (.t 6)), none⟩,
 ⟨(some 16), (.ia 1 (.t 14) (.t 15)), none⟩,
 ⟨(some 17), (.ld 1 false (.t 16)), none⟩,
 ⟨(some 18), (.call n_spec_l03In [(.t 13), (.t 17)]), none⟩])
 (.keep [0, 1, 5, 6, 18]))
 (.cond (.t 18)
 (.seq (.ops [⟨(some 19), (.mov (.t 5)), none⟩,
 ⟨(some 20), (.bin .add (.t 19) (.c (.int .i64 1))), none⟩,
 ⟨(some 5), (.mov (.t 20)), none⟩])
 (.keep [0, 1, 5, 6]))
 .skip)))
 (.seq (.ops [⟨(some 11), (.mov (.t 6)), none⟩,
 ⟨(some 12), (.bin .add (.t 11) (.c (.int .i64 1))), none⟩,
 ⟨(some 6), (.mov (.t 12)), none⟩])
 (.keep [0, 1, 5, 6])))))))
 (.seq
 (.seq (.ops [⟨(some 21), (.mov (.t 5)), none⟩,
 ⟨(some 22), (.bin .eql (.t 21) (.c (.int .i64 0))), none⟩,
 ⟨(some 23), (.mov (.t 22)), none⟩,
 ⟨(some 24), (.mov (.t 5)), (some (23, false))⟩,
 ⟨(some 25), (.mov (.t 0)), (some (23, false))⟩,
 ⟨(some 26), (.ln (.t 25)), (some (23, false))⟩,
 ⟨(some 27), (.bin .eql (.t 24) (.t 26)), (some (23, false))⟩,
 ⟨(some 28), (.pick (.t 23) (.c (.bool true)) (.t 27)), none⟩,
 ⟨(some 29), (.mov (.t 28)), none⟩,
 ⟨(some 30), (.mov (.t 5)), (some (29, false))⟩,
 ⟨(some 31), (.mov (.t 1)), (some (29, false))⟩,
 ⟨(some 32), (.ln (.t 31)), (some (29, false))⟩,
 ⟨(some 33), (.bin .eql (.t 30) (.t 32)), (some (29, false))⟩,
 ⟨(some 34), (.pick (.t 29) (.c (.bool true)) (.t 33)), none⟩,
 ⟨(some 4), (.mov (.t 34)), none⟩])
 (.keep [4]))
 .ret)))),
 [(.slot 4)]⟩
/-- spec l11Slack -/
def F_spec_l11Slack : Fun := ⟨2,
 (.seq
 (.seq (.ops [⟨(some 2), (.boxL 2 (.t 0)), none⟩,
 ⟨(some 3), (.boxL 5 (.t 1)), none⟩,
 ⟨(some 4), (.mov (.c (.int .i64 0))), none⟩])
 (.keep [2, 3]))
 (.seq
 (.seq (.free false [⟨(some 7), (.faB 0 2), none⟩,
 ⟨(some 8), (.ldE 1 false 2 7), none⟩,
 ⟨(some 9), (.faB 0 3), none⟩,
 ⟨(some 10), (.ldE 1 false 3 9), none⟩,
 ⟨(some 11), (.ia 1 (.t 8) (.t 10)), none⟩,
 ⟨(some 12), (.ld 1 false (.t 11)), none⟩,
 ⟨(some 13), (.faB 0 2), none⟩,
 ⟨(some 14), (.ldE 1 false 2 13), none⟩,
 ⟨(some 15), (.faB 1 3), none⟩,
 ⟨(some 16), (.ldE 1 false 3 15), none⟩,
 ⟨(some 17), (.ia 1 (.t 14) (.t 16)), none⟩,
 ⟨(some 18), (.ld 1 false (.t 17)), none⟩,
 ⟨(some 19), (.bin .add (.t 12) (.t 18)), none⟩,
 ⟨(some 20), (.ldB 5 true 3), none⟩,
 ⟨(some 21), (.call n_spec_Scalar [(.t 20)]), none⟩,
 ⟨(some 22), (.bin .mul (.c (.int .i64 2)) (.t 21)), none⟩,
 ⟨(some 23), (.bin .sub (.t 19) (.t 22)), none⟩,
 ⟨(some 5), (.mov (.t 23)), none⟩])
 (.keep [2, 3, 5]))
 (.seq
 (.seq
 (.seq (.ops [⟨(some 6), (.mov (.c (.int .i64 0))), none⟩])
 (.keep [2, 3, 5, 6]))
 (.block 0
 (.loop
 (.seq
 (.seq
 (.seq (.ops [⟨(some 24), (.mov (.t 6)), none⟩,
 ⟨(some 25), (.faB 1 2), none⟩,
 ⟨(some 26), (.ldE 1 false 2 25), none⟩,
 ⟨(some 27), (.ln (.t 26)), none⟩,
 ⟨(some 28), (.bin .lss (.t 24) (.t 27)), none⟩])
 (.keep [2, 3, 5, 6, 28]))
 (.cond (.t 28)
 .skip
 (.exit 0)))
 (.seq
 (.block 1
 (.seq
 (.seq (.free true [⟨(some 31), (.faB 1 2), none⟩,
 ⟨(some 32), (.ldE 1 false 2 31), none⟩,
 ⟨(some 33), (.mov (.t 6)), none⟩,
 ⟨(some 34), (.ia 2 (.t 32) (.t 33)), none⟩,
 ⟨(some 35), (.fa 0 (.t 34)), none⟩,
 ⟨(some 36), (.ld 1 false (.t 35)), none⟩,
 ⟨(some 37), (.faB 0 3), none⟩,
 ⟨(some 38), (.ldE 1 false 3 37), none⟩,
 ⟨(some 39), (.call n_spec_l03In [(.t 36), (.t 38)]), none⟩,
 ⟨(some 40), (.mov (.t 39)), none⟩,
 ⟨(some 41), (.faB 1 2), (some (40, true))⟩,
 ⟨(some 42), (.ldE 1 false 2 41), (some (40, true))⟩,
 ⟨(some 43), (.mov (.t 6)), (some (40, true))⟩,
 ⟨(some 44), (.ia 2 (.t 42) (.t 43)), (some (40, true))⟩,
 ⟨(some 45), (.fa 0 (.t 44)), (some (40, true))⟩,
 ⟨(some 46), (.ld 1 false (.t 45)), (some (40, true))⟩,
 ⟨(some 47), (.faB 1 3), (some (40, true))⟩,
 ⟨(some 48), (.ldE 1 false 3 47), (some (40, true))⟩,
 ⟨(some 49), (.call n_spec_l03In [(.t 46), (.t 48)]), (some (40, true))⟩,
 ⟨(some 50), (.pick (.t 40) (.t 49) (.c (.bool false))), none⟩])
 (.keep [2, 3, 5, 6, 50]))
 (.cond (.t 50)
 (.seq (.ops [⟨(some 51), (.mov (.t 5)), none⟩,
 ⟨(some 52), (.faB 1 2), none⟩,
 ⟨(some 53), (.ldE 1 false 2 52), none⟩,
 ⟨(some 54), (.mov (.t 6)), none⟩,
 ⟨(some 55), (.ia 2 (.t 53) (.t 54)), none⟩,
 ⟨(some 56), (.fa 1 (.t 55)), none⟩,
 ⟨(some 57), (.ld 1 false (.t 56)), none⟩,
 ⟨(some 58), (.bin .add (.t 51) (.t 57)), none⟩,
 ⟨(some 5), (.mov (.t 58)), none⟩])
 (.keep [2, 3, 5, 6]))
 .skip)))
 (.seq (.ops [⟨(some 29), (.mov (.t 6)), none⟩,
 ⟨(some 30), (.bin .add (.t 29) (.c (.int .i64 1))), none⟩,
 ⟨(some 6), (.mov (.t 30)), none⟩])
 (.keep [2, 3, 5, 6])))))))
 (.seq
 (.seq (.ops [⟨(some 59), (.mov (.t 5)), none⟩,
 ⟨(some 4), (.mov (.t 59)), none⟩])
 (.keep [4]))
 .ret)))),
 [(.slot 4)]⟩
/-- spec Scalar -/
def F_spec_Scalar : Fun := ⟨1,
 (.seq
 (.seq (.ops [⟨(some 1), (.boxL 5 (.t 0)), none⟩,
 ⟨(some 2), (.mov (.c (.int .i64 0))), none⟩])
 (.keep [1]))
 (.seq
 (.seq (.ops [⟨(some 3), (.faB 2 1), none⟩,
 ⟨(some 4), (.ldE 1 false 1 3), none⟩,
 ⟨(some 5), (.bin .mul (.c (.int .i64 90000)) (.t 4)), none⟩,
 ⟨(some 6), (.faB 3 1), none⟩,
 ⟨(some 7), (.ldE 1 false 1 6), none⟩,
 ⟨(some 8), (.bin .mul (.c (.int .i64 300)) (.t 7)), none⟩,
 ⟨(some 9), (.bin .add (.t 5) (.t 8)), none⟩,
 ⟨(some 10), (.faB 4 1), none⟩,
 ⟨(some 11), (.ldE 1 false 1 10), none⟩,
 ⟨(some 12), (.bin .add (.t 9) (.t 11)), none⟩,
 ⟨(some 2), (.mov (.t 12)), none⟩])
 (.keep [2]))
 .ret)),
 [(.slot 2)]⟩
end Go.Proofs.YtgmljppiiighmaaGreatDoor.Ab
