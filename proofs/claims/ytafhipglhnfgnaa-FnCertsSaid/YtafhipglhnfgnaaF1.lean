/- The functions, as they are read. No conditions. -/
import Derived.Test.YtafhipglhnfgnaaFN
namespace Go.Proofs.Ytafhipglhnfgnaa.Ab
def Wr : Fun := ⟨1,
(xS [xM 6 0,
xO 7 (.call QU [(.t 6)]),
xM 5 7,
xO 8 (.ext 0 (.t 5)),
xO 9 (.ext 1 (.t 5)),
xM 2 8,
xM 3 9] [0,2,3]
 (.seq
 (xS [xM 10 3,
xO 11 (.bin .lss (.t 10) (.c (.int .i64 0)))] [0,2,3,11]
 (.cond (.t 11)
 (xS [xM 12 0,
xM 13 2,
xO 14 (.call Qy [(.t 12),(.t 13)])] []
 .ret)
 .skip))
 (xS [xM 15 0,
xO 16 (.chk (.t 15)),
xO 17 (.fa 0 (.t 16)),
xO 18 (.fa 1 (.t 17)),
xO 19 (.ld 1 false (.t 18)),
xM 20 3,
xO 21 (.ia 5 (.t 19) (.t 20)),
xO 22 (.ld 5 true (.t 21)),
xO 4 (.newL [(.int .i64 0),(.int .i64 0),(.int .i64 0),(.int .i64 0),(.int .i64 0)]),
⟨none,.stB 5 4 (.t 22),none⟩] [0,2,4]
 (.seq
 (.seq
 (.seq (.free false [xM 23 2,
xO 24 (.chk (.t 23)),
xO 25 (.fa 2 (.t 24)),
xO 26 (.ld 1 false (.t 25)),
xM 27 0,
xO 28 (.faB 0 4),
xO 29 (.ldE 1 false 4 28),
xO 30 (.call zH [(.t 27),(.t 29)]),
xO 31 (.ia 1 (.t 26) (.t 30)),
xO 32 (.ld 1 false (.t 31)),
xM 33 2,
xO 34 (.chk (.t 33)),
xO 35 (.fa 2 (.t 34)),
xO 36 (.ld 1 false (.t 35)),
xM 37 0,
xO 38 (.faB 1 4),
xO 39 (.ldE 1 false 4 38),
xO 40 (.call zH [(.t 37),(.t 39)]),
xO 41 (.ia 1 (.t 36) (.t 40)),
xO 42 (.ld 1 false (.t 41)),
xO 43 (.bin .eql (.t 32) (.t 42))])
 (.keep [0,2,4,43]))
 (.cond (.t 43)
 (xS [xM 44 0,
xM 45 2,
xO 46 (.ldB 5 true 4),
xO 47 (.call QB [(.t 44),(.t 45),(.t 46)])] []
 .ret)
 .skip))
 (.seq (.ops [xM 48 0,
xM 49 2,
xO 50 (.ldB 5 true 4),
xO 51 (.call Qe [(.t 48),(.t 49),(.t 50)])])
 (.keep [])))))),
 []⟩
def wE : Fun := ⟨3,
(xS [xO 6 (.mov (.c (.bool false)))] [0,1,2]
 (.seq
 (.block 0
 (.loop
 (.seq
 (xS [xM 7 1,
xO 8 (.bin .geq (.t 7) (.c (.int .i64 0))),
xM 9 8,
xG 10 (.mov (.t 1)) 9 true,
xG 11 (.mov (.t 2)) 9 true,
xG 12 (.bin .neq (.t 10) (.t 11)) 9 true,
xO 13 (.pick (.t 9) (.t 12) (.c (.bool false)))] [0,1,2,13]
 (.cond (.t 13)
 .skip
 (.exit 0)))
 (.block 1
 (.seq (.ops [xM 14 0,
xO 15 (.chk (.t 14)),
xO 16 (.fa 3 (.t 15)),
xO 17 (.ld 1 false (.t 16)),
xM 18 1,
xO 19 (.ia 6 (.t 17) (.t 18)),
xO 20 (.fa 4 (.t 19)),
xO 21 (.ld 1 false (.t 20)),
xM 1 21])
 (.keep [0,1,2]))))))
 (xS [xM 22 1,
xM 23 2,
xO 24 (.bin .eql (.t 22) (.t 23)),
xM 6 24] [6]
 .ret))),
 [(.slot 6)]⟩
def Wm : Fun := ⟨2,
(xS [xO 4 (.mov (.c (.bool false)))] [0,1]
 (.seq
 (xS [xO 5 (.mov (.c (.int .i64 0)))] [0,1,5]
 (.block 0
 (.loop
 (.seq
 (xS [xM 6 5,
xM 7 0,
xO 8 (.ln (.t 7)),
xO 9 (.bin .lss (.t 6) (.t 8)),
xM 10 9,
xG 11 (.mov (.t 5)) 10 true,
xG 12 (.mov (.t 1)) 10 true,
xG 13 (.ln (.t 12)) 10 true,
xG 14 (.bin .lss (.t 11) (.t 13)) 10 true,
xO 15 (.pick (.t 10) (.t 14) (.c (.bool false)))] [0,1,5,15]
 (.cond (.t 15)
 .skip
 (.exit 0)))
 (.seq
 (.block 1
 (.seq
 (.seq (.free true [xM 18 0,
xM 19 5,
xO 20 (.ia 1 (.t 18) (.t 19)),
xO 21 (.ld 1 false (.t 20)),
xM 22 1,
xM 23 5,
xO 24 (.ia 1 (.t 22) (.t 23)),
xO 25 (.ld 1 false (.t 24)),
xO 26 (.bin .neq (.t 21) (.t 25))])
 (.keep [0,1,5,26]))
 (.cond (.t 26)
 (.seq
 (.seq (.free true [xM 27 0,
xM 28 5,
xO 29 (.ia 1 (.t 27) (.t 28)),
xO 30 (.ld 1 false (.t 29)),
xM 31 1,
xM 32 5,
xO 33 (.ia 1 (.t 31) (.t 32)),
xO 34 (.ld 1 false (.t 33)),
xO 35 (.bin .lss (.t 30) (.t 34)),
xM 4 35])
 (.keep [4]))
 .ret)
 .skip)))
 (.seq (.ops [xM 16 5,
xO 17 (.bin .add (.t 16) (.c (.int .i64 1))),
xM 5 17])
 (.keep [0,1,5])))))))
 (xS [xM 36 0,
xO 37 (.ln (.t 36)),
xM 38 1,
xO 39 (.ln (.t 38)),
xO 40 (.bin .lss (.t 37) (.t 39)),
xM 4 40] [4]
 .ret))),
 [(.slot 4)]⟩
def W9 : Fun := ⟨2,
(xS [xO 4 (.mov (.c (.int .i64 0)))] [0,1]
 (xS [xM 8 0,
xM 9 1,
xO 10 (.call QA [(.t 8),(.t 9)]),
xM 7 10,
xO 11 (.ext 0 (.t 7)),
xO 12 (.ext 1 (.t 7)),
xO 5 (.newL [(.int .i64 0),(.int .i64 0)]),
⟨none,.stB 2 5 (.t 11),none⟩,
xM 6 12] [0,1,5,6]
 (.seq
 (xS [xM 13 6] [0,1,5,13]
 (.cond (.t 13)
 (xS [xO 14 (.faB 0 5),
xO 15 (.ldE 1 false 5 14),
xM 4 15] [4]
 .ret)
 .skip))
 (xS [xM 16 0,
xO 17 (.chk (.t 16)),
xO 18 (.fa 3 (.t 17)),
xO 19 (.ld 1 false (.t 18)),
xM 20 1,
xO 21 (.ia 6 (.t 19) (.t 20)),
xO 22 (.fa 2 (.t 21)),
xO 23 (.ld 1 false (.t 22)),
xM 4 23] [4]
 .ret)))),
 [(.slot 4)]⟩
def Wu : Fun := ⟨2,
(xS [xO 3 (.boxL 2 (.t 1)),
xO 4 (.newL [(.slice none 0 0),(.slice none 0 0)])] [0,3,4]
 (xS [xO 11 (.ldB 2 true 3),
xO 12 (.call wJ [(.t 11)]),
xM 10 12,
xO 13 (.ext 0 (.t 10)),
xO 14 (.ext 1 (.t 10)),
xO 15 (.ext 2 (.t 10)),
xO 6 (.newL [(.slice none 0 0),(.slice none 0 0)]),
xM 5 13,
⟨none,.stB 2 6 (.t 14),none⟩,
xM 7 15] [0,4,6]
 (.seq
 (xS [xO 16 (.faB 0 6),
xO 17 (.ldE 1 false 6 16),
xO 18 (.ln (.t 17)),
xO 19 (.bin .eql (.t 18) (.c (.int .i64 0)))] [0,4,6,19]
 (.cond (.t 19)
 (xS [xO 20 (.ldB 2 true 6),
⟨none,.stB 2 4 (.t 20),none⟩] [4]
 .ret)
 .skip))
 (xS [xM 21 0,
xO 22 (.faB 0 6),
xO 23 (.ldE 1 false 6 22),
xO 24 (.ln (.t 23)),
xO 25 (.call zJ [(.t 21),(.t 24)]),
xM 8 25] [0,4,6,8]
 (.seq
 (xS [xM 26 0,
xO 27 (.call zJ [(.t 26),(.c (.int .i64 10))])] [0,4,6,8,27]
 (.block 0
 (xS [xO 29 (.bin .eql (.t 27) (.c (.int .i64 0))),
xM 28 29] [0,4,6,8,27,28]
 (.cond (.t 28)
 (.seq (.opn [(.m,xO 39 (.lit 4 1 zf [(.int .i64 0)] [(0,(.c (.int .i64 1))),(1,(.c (.int .i64 2))),(2,(.c (.int .i64 600))),(3,(.c (.int .i64 (-1))))])),
(.c,xM 38 0),
(.m,xO 40 (.call Zc [(.t 38),(.t 39)])),
(.c,xO 30 (.faB 0 6)),
(.c,xO 31 (.ldE 1 false 6 30)),
(.c,xM 32 8),
(.c,xO 33 (.faB 0 6)),
(.c,xO 34 (.ldE 1 false 6 33)),
(.c,xM 35 8),
((.l 0),xO 36 (.ia 1 (.t 34) (.t 35))),
((.l 0),xO 37 (.ld 1 false (.t 36))),
(.c,xO 41 (.bin .add (.t 37) (.t 40))),
((.l 2),xO 42 (.ia 1 (.t 31) (.t 32))),
(.m,⟨none,.st 1 (.t 42) (.t 41),none⟩)])
 (.keep [4,6]))
 (xS [xO 44 (.bin .eql (.t 27) (.c (.int .i64 1))),
xM 43 44] [0,4,6,27,43]
 (.cond (.t 43)
 (.seq (.free true [xO 45 (.faB 1 6),
xO 46 (.ldE 1 false 6 45),
xM 48 0,
xO 49 (.call zJ [(.t 48),(.c (.int .i64 3))]),
xO 50 (.bin .add (.c (.int .i64 1)) (.t 49)),
xO 47 (.lit 3 1 zf [(.int .i64 0)] [(0,(.c (.int .i64 0))),(1,(.c (.int .i64 1))),(2,(.c (.int .i64 2)))]),
xO 51 (.bld [(.slice none 0 0),(.int .i64 0)] [(0,(1,(.t 47))),(1,(1,(.t 50)))]),
xO 52 (.litL 1 2 [(.slice none 0 0),(.int .i64 0)] [(0,(.t 51))]),
xO 53 (.appL 2 zW 32 1 (.t 46) 52),
xO 54 (.faB 1 6),
⟨none,.stE 1 6 54 (.t 53),none⟩])
 (.keep [4,6]))
 (xS [xO 56 (.bin .eql (.t 27) (.c (.int .i64 2))),
xM 55 56] [0,4,6,27,55]
 (.cond (.t 55)
 (xS [xO 57 (.faB 1 6),
xO 58 (.ldE 1 false 6 57),
xO 59 (.ln (.t 58)),
xO 60 (.bin .gtr (.t 59) (.c (.int .i64 0)))] [0,4,6,60]
 (.cond (.t 60)
 (.seq (.opn [(.m,xO 69 (.lit 3 1 zf [(.int .i64 0)] [(0,(.c (.int .i64 1))),(1,(.c (.int .i64 (-1)))),(2,(.c (.int .i64 1000000000)))])),
(.c,xM 68 0),
(.m,xO 70 (.call Zc [(.t 68),(.t 69)])),
(.c,xO 61 (.faB 1 6)),
(.c,xO 62 (.ldE 1 false 6 61)),
(.c,xO 63 (.faB 1 6)),
(.c,xO 64 (.ldE 1 false 6 63)),
((.l 0),xO 65 (.ia 2 (.t 64) (.c (.int .i64 0)))),
((.l 0),xO 66 (.fa 1 (.t 65))),
((.l 0),xO 67 (.ld 1 false (.t 66))),
(.c,xO 71 (.bin .add (.t 67) (.t 70))),
((.l 2),xO 72 (.ia 2 (.t 62) (.c (.int .i64 0)))),
((.l 2),xO 73 (.fa 1 (.t 72))),
(.m,⟨none,.st 1 (.t 73) (.t 71),none⟩)])
 (.keep [4,6]))
 .skip))
 (xS [xO 75 (.bin .eql (.t 27) (.c (.int .i64 3))),
xM 74 75] [0,4,6,27,74]
 (.cond (.t 74)
 (.seq (.ops [xO 76 (.lit 0 2 zW [(.slice none 0 0),(.int .i64 0)] []),
xO 77 (.faB 1 6),
⟨none,.stE 1 6 77 (.t 76),none⟩])
 (.keep [4,6]))
 (xS [xO 79 (.bin .eql (.t 27) (.c (.int .i64 4))),
xM 78 79] [0,4,6,27,78]
 (.cond (.t 78)
 (xS [xO 9 (.mov (.c (.int .i64 0)))] [4,6,9]
 (.block 1
 (.loop
 (.seq
 (xS [xM 80 9,
xO 81 (.faB 0 6),
xO 82 (.ldE 1 false 6 81),
xO 83 (.ln (.t 82)),
xO 84 (.bin .lss (.t 80) (.t 83))] [4,6,9,84]
 (.cond (.t 84)
 .skip
 (.exit 1)))
 (.seq
 (.block 2
 (.seq (.ops [xO 87 (.faB 0 6),
xO 88 (.ldE 1 false 6 87),
xM 89 9,
xO 90 (.ia 1 (.t 88) (.t 89)),
⟨none,.st 1 (.t 90) (.c (.int .i64 9000000)),none⟩])
 (.keep [4,6,9])))
 (.seq (.ops [xM 85 9,
xO 86 (.bin .add (.t 85) (.c (.int .i64 1))),
xM 9 86])
 (.keep [4,6,9])))))))
 (xS [xO 92 (.bin .eql (.t 27) (.c (.int .i64 5))),
xM 91 92] [0,4,6,91]
 (.cond (.t 91)
 (.seq (.free true [xO 93 (.faB 1 6),
xO 94 (.ldE 1 false 6 93),
xM 95 0,
xO 96 (.call wk [(.t 95)]),
xO 97 (.bld [(.slice none 0 0),(.int .i64 0)] [(0,(1,(.t 96))),(1,(1,(.c (.int .i64 2))))]),
xO 98 (.litL 1 2 [(.slice none 0 0),(.int .i64 0)] [(0,(.t 97))]),
xO 99 (.appL 2 zW 32 1 (.t 94) 98),
xO 100 (.faB 1 6),
⟨none,.stE 1 6 100 (.t 99),none⟩])
 (.keep [4,6]))
 .skip))))))))))))))
 (xS [xO 101 (.ldB 2 true 6),
⟨none,.stB 2 4 (.t 101),none⟩] [4]
 .ret)))))),
 [(.box 4 2 true)]⟩
def WY : Fun := ⟨1,
(xS [xO 2 (.mov (.c (.string ⟨⟨[]⟩⟩))),
xO 3 (.mov (.c (.bool false)))] [0]
 (.seq
 (xS [xM 5 0,
xO 6 (.call qg [(.t 5),(.c (.int .i64 0)),(.c (.int .i64 1000000000))]),
xO 7 (.un .not (.t 6))] [0,7]
 (.cond (.t 7)
 (xS [xO 2 (.mov (.c (.string ⟨⟨[]⟩⟩))),
xO 3 (.mov (.c (.bool false)))] [2,3]
 .ret)
 .skip))
 (xS [xO 4 (.mov (.c (.slice none 0 0)))] [0,4]
 (.seq
 (.block 0
 (.loop
 (.seq
 (xS [xM 8 0,
xO 9 (.bin .gtr (.t 8) (.c (.int .i64 127)))] [0,4,9]
 (.cond (.t 9)
 .skip
 (.exit 0)))
 (.block 1
 (xS [xM 10 4,
xM 11 0,
xO 12 (.bin .rem (.t 11) (.c (.int .i64 128))),
xO 13 (.bin .add (.t 12) (.c (.int .i64 128))),
xO 14 (.conv .u8 (.t 13)),
xO 15 (.litL 1 1 [(.int .u8 0)] [(0,(.t 14))]),
xO 16 (.appL 1 VS 1 1 (.t 10) 15),
xM 4 16] [0,4]
 (.seq (.ops [xM 17 0,
xO 18 (.bin .quo (.t 17) (.c (.int .i64 128))),
xM 0 18])
 (.keep [0,4])))))))
 (xS [xM 19 4,
xM 20 0,
xO 21 (.conv .u8 (.t 20)),
xO 22 (.litL 1 1 [(.int .u8 0)] [(0,(.t 21))]),
xO 23 (.appL 1 VS 1 1 (.t 19) 22),
xO 24 (.str (.t 23)),
xM 2 24,
xO 3 (.mov (.c (.bool true)))] [2,3]
 .ret))))),
 [(.slot 2),(.slot 3)]⟩
def WX : Fun := ⟨2,
(xS [xO 4 (.mov (.c (.int .i64 0))),
xO 5 (.mov (.c (.int .i64 0))),
xO 6 (.mov (.c (.bool false)))] [0,1]
 (.seq
 (xS [xM 11 1,
xM 12 0,
xO 13 (.lnS (.t 12)),
xO 14 (.call qg [(.t 11),(.c (.int .i64 0)),(.t 13)]),
xO 15 (.un .not (.t 14))] [0,1,15]
 (.cond (.t 15)
 (xS [xO 4 (.mov (.c (.int .i64 0))),
xO 5 (.mov (.c (.int .i64 0))),
xO 6 (.mov (.c (.bool false)))] [4,5,6]
 .ret)
 .skip))
 (xS [xO 7 (.mov (.c (.int .i64 0))),
xO 8 (.mov (.c (.int .i64 1)))] [0,1,7,8]
 (.seq
 (xS [xM 16 1,
xM 9 16] [0,1,7,8,9]
 (.block 0
 (.loop
 (.seq
 (xS [xM 17 9,
xM 18 0,
xO 19 (.lnS (.t 18)),
xO 20 (.bin .lss (.t 17) (.t 19)),
xM 21 20,
xG 22 (.mov (.t 9)) 21 true,
xG 23 (.mov (.t 1)) 21 true,
xG 24 (.bin .add (.t 23) (.c (.int .i64 5))) 21 true,
xG 25 (.bin .lss (.t 22) (.t 24)) 21 true,
xO 26 (.pick (.t 21) (.t 25) (.c (.bool false)))] [0,1,7,8,9,26]
 (.cond (.t 26)
 .skip
 (.exit 0)))
 (.seq
 (.block 1
 (xS [xM 29 0,
xM 30 9,
xO 31 (.ix (.t 29) (.t 30)),
xO 32 (.conv .i64 (.t 31)),
xM 10 32] [0,1,7,8,9,10]
 (xS [xM 33 7,
xM 34 10,
xO 35 (.bin .rem (.t 34) (.c (.int .i64 128))),
xM 36 8,
xO 37 (.bin .mul (.t 35) (.t 36)),
xO 38 (.bin .add (.t 33) (.t 37)),
xM 7 38] [0,1,7,8,9,10]
 (xS [xM 39 8,
xO 40 (.bin .mul (.t 39) (.c (.int .i64 128))),
xM 8 40] [0,1,7,8,9,10]
 (xS [xM 41 10,
xO 42 (.bin .lss (.t 41) (.c (.int .i64 128)))] [0,1,7,8,9,10,42]
 (.cond (.t 42)
 (.seq
 (xS [xM 43 10,
xO 44 (.bin .eql (.t 43) (.c (.int .i64 0))),
xM 45 44,
xG 46 (.mov (.t 9)) 45 true,
xG 47 (.mov (.t 1)) 45 true,
xG 48 (.bin .gtr (.t 46) (.t 47)) 45 true,
xO 49 (.pick (.t 45) (.t 48) (.c (.bool false))),
xM 50 49,
xG 51 (.mov (.t 7)) 50 false,
xG 52 (.bin .gtr (.t 51) (.c (.int .i64 1000000000))) 50 false,
xO 53 (.pick (.t 50) (.c (.bool true)) (.t 52))] [7,9,53]
 (.cond (.t 53)
 (.exit 0)
 .skip))
 (xS [xM 54 7,
xM 55 9,
xO 56 (.bin .add (.t 55) (.c (.int .i64 1))),
xM 4 54,
xM 5 56,
xO 6 (.mov (.c (.bool true)))] [4,5,6]
 .ret))
 .skip))))))
 (.seq (.ops [xM 27 9,
xO 28 (.bin .add (.t 27) (.c (.int .i64 1))),
xM 9 28])
 (.keep [0,1,7,8,9])))))))
 (xS [xO 4 (.mov (.c (.int .i64 0))),
xO 5 (.mov (.c (.int .i64 0))),
xO 6 (.mov (.c (.bool false)))] [4,5,6]
 .ret))))),
 [(.slot 4),(.slot 5),(.slot 6)]⟩
def Vq : Fun := ⟨1,
(xS [xO 2 (.mov (.c (.string ⟨⟨[]⟩⟩)))] [0]
 (xS [xO 4 (.lit 0 1 VS [(.int .u8 0)] []),
xM 3 4] [0,3]
 (.seq
 (.block 0
 (.loop
 (.seq
 (xS [xM 5 0,
xO 6 (.bin .gtr (.t 5) (.c (.int .i64 127)))] [0,3,6]
 (.cond (.t 6)
 .skip
 (.exit 0)))
 (.block 1
 (xS [xM 7 3,
xM 8 0,
xO 9 (.bin .rem (.t 8) (.c (.int .i64 128))),
xO 10 (.bin .add (.t 9) (.c (.int .i64 128))),
xO 11 (.conv .u8 (.t 10)),
xO 12 (.litL 1 1 [(.int .u8 0)] [(0,(.t 11))]),
xO 13 (.appL 1 VS 1 1 (.t 7) 12),
xM 3 13] [0,3]
 (.seq (.ops [xM 14 0,
xO 15 (.bin .quo (.t 14) (.c (.int .i64 128))),
xM 0 15])
 (.keep [0,3])))))))
 (xS [xM 16 3,
xM 17 0,
xO 18 (.conv .u8 (.t 17)),
xO 19 (.litL 1 1 [(.int .u8 0)] [(0,(.t 18))]),
xO 20 (.appL 1 VS 1 1 (.t 16) 19),
xO 21 (.str (.t 20)),
xM 2 21] [2]
 .ret)))),
 [(.slot 2)]⟩
def W5 : Fun := ⟨2,
(xS [xO 4 (.mov (.c (.int .i64 0))),
xO 5 (.mov (.c (.int .i64 0))),
xO 6 (.mov (.c (.bool false)))] [0,1]
 (.seq
 (xS [xM 10 1,
xM 11 0,
xO 12 (.lnS (.t 11)),
xO 13 (.call qA [(.t 10),(.c (.int .i64 0)),(.t 12)]),
xO 14 (.un .not (.t 13))] [0,1,14]
 (.cond (.t 14)
 (xS [xO 4 (.mov (.c (.int .i64 0))),
xO 5 (.mov (.c (.int .i64 0))),
xO 6 (.mov (.c (.bool false)))] [4,5,6]
 .ret)
 .skip))
 (xS [xO 7 (.mov (.c (.int .i64 0)))] [0,1,7]
 (xS [xO 8 (.mov (.c (.int .i64 1)))] [0,1,7,8]
 (.seq
 (xS [xM 15 1,
xM 9 15] [0,1,7,8,9]
 (.block 0
 (.loop
 (.seq
 (xS [xM 16 9,
xM 17 0,
xO 18 (.lnS (.t 17)),
xO 19 (.bin .lss (.t 16) (.t 18)),
xM 20 19,
xG 21 (.mov (.t 9)) 20 true,
xG 22 (.mov (.t 1)) 20 true,
xG 23 (.bin .add (.t 22) (.c (.int .i64 5))) 20 true,
xG 24 (.bin .lss (.t 21) (.t 23)) 20 true,
xO 25 (.pick (.t 20) (.t 24) (.c (.bool false)))] [0,1,7,8,9,25]
 (.cond (.t 25)
 .skip
 (.exit 0)))
 (.seq
 (.block 1
 (xS [xM 28 7,
xM 29 0,
xM 30 9,
xO 31 (.ix (.t 29) (.t 30)),
xO 32 (.conv .i64 (.t 31)),
xO 33 (.bin .rem (.t 32) (.c (.int .i64 128))),
xM 34 8,
xO 35 (.bin .mul (.t 33) (.t 34)),
xO 36 (.bin .add (.t 28) (.t 35)),
xM 7 36] [0,1,7,8,9]
 (xS [xM 37 8,
xO 38 (.bin .mul (.t 37) (.c (.int .i64 128))),
xM 8 38] [0,1,7,8,9]
 (xS [xM 39 0,
xM 40 9,
xO 41 (.ix (.t 39) (.t 40)),
xO 42 (.bin .lss (.t 41) (.c (.int .u8 128)))] [0,1,7,8,9,42]
 (.cond (.t 42)
 (.seq
 (.seq
 (.seq (.free true [xM 43 7,
xO 44 (.bin .gtr (.t 43) (.c (.int .i64 1000000000))),
xM 45 44,
xG 46 (.mov (.t 7)) 45 false,
xG 47 (.call zQ [(.t 46)]) 45 false,
xG 48 (.mov (.t 0)) 45 false,
xG 49 (.mov (.t 1)) 45 false,
xG 50 (.mov (.t 9)) 45 false,
xG 51 (.bin .add (.t 50) (.c (.int .i64 1))) 45 false,
xG 52 (.slS (.t 48) (some (.t 49)) (some (.t 51))) 45 false,
xG 53 (.bin .neq (.t 47) (.t 52)) 45 false,
xO 54 (.pick (.t 45) (.c (.bool true)) (.t 53))])
 (.keep [7,9,54]))
 (.cond (.t 54)
 (xS [xO 4 (.mov (.c (.int .i64 0))),
xO 5 (.mov (.c (.int .i64 0))),
xO 6 (.mov (.c (.bool false)))] [4,5,6]
 .ret)
 .skip))
 (xS [xM 55 7,
xM 56 9,
xO 57 (.bin .add (.t 56) (.c (.int .i64 1))),
xM 4 55,
xM 5 57,
xO 6 (.mov (.c (.bool true)))] [4,5,6]
 .ret))
 .skip)))))
 (.seq (.ops [xM 26 9,
xO 27 (.bin .add (.t 26) (.c (.int .i64 1))),
xM 9 27])
 (.keep [0,1,7,8,9])))))))
 (xS [xO 4 (.mov (.c (.int .i64 0))),
xO 5 (.mov (.c (.int .i64 0))),
xO 6 (.mov (.c (.bool false)))] [4,5,6]
 .ret)))))),
 [(.slot 4),(.slot 5),(.slot 6)]⟩
def Wp : Fun := ⟨1,
(xS [xO 2 (.mov (.c (.pointer none))),
xO 3 (.mov (.c (.int .i64 0)))] [0]
 (xS [xM 18 0,
xO 19 (.chk (.t 18)),
xO 20 (.fa 3 (.t 19)),
xO 21 (.ld 1 false (.t 20)),
xO 22 (.ln (.t 21)),
xM 4 22] [0,4]
 (.seq
 (.seq (.free true [xM 23 4,
xM 25 4,
xM 27 4,
xO 24 (.mk 1 zf 8 [(.int .i64 0)] (.t 23)),
xO 26 (.mk 2 zS 16 [(.int .i64 0),(.int .i64 0)] (.t 25)),
xO 28 (.mk 1 zf 8 [(.int .i64 0)] (.t 27)),
xO 29 (.bld [(.slice none 0 0),(.slice none 0 0),(.slice none 0 0)] [(0,(1,(.t 24))),(1,(1,(.t 26))),(2,(1,(.t 28)))]),
xO 30 (.bx UB 3 (.t 29)),
xM 5 30])
 (.keep [0,4,5]))
 (.seq
 (xS [xO 6 (.mov (.c (.int .i64 0)))] [0,4,5,6]
 (.block 0
 (.loop
 (.seq
 (xS [xM 31 6,
xM 32 4,
xO 33 (.bin .lss (.t 31) (.t 32))] [0,4,5,6,33]
 (.cond (.t 33)
 .skip
 (.exit 0)))
 (.seq
 (.block 1
 (xS [xM 37 0,
xM 38 6,
xO 39 (.call QA [(.t 37),(.t 38)]),
xM 36 39,
xO 40 (.ext 0 (.t 36)),
xO 41 (.ext 1 (.t 36)),
xO 7 (.newL [(.int .i64 0),(.int .i64 0)]),
⟨none,.stB 2 7 (.t 40),none⟩,
xM 8 41] [0,4,5,6,8]
 (xS [xM 42 0,
xM 43 6,
xO 44 (.call Z0 [(.t 42),(.t 43)]),
xM 45 44,
xG 46 (.mov (.t 8)) 45 true,
xG 47 (.un .not (.t 46)) 45 true,
xO 48 (.pick (.t 45) (.t 47) (.c (.bool false)))] [0,4,5,6,48]
 (.cond (.t 48)
 (xS [xM 49 5,
xO 50 (.chk (.t 49)),
xO 51 (.fa 0 (.t 50)),
xO 52 (.ld 1 false (.t 51)),
xM 53 6,
xO 54 (.ia 1 (.t 52) (.t 53)),
⟨none,.st 1 (.t 54) (.c (.int .i64 1)),none⟩] [0,4,5,6]
 (.seq (.ops [xM 55 5,
xO 56 (.chk (.t 55)),
xO 57 (.fa 2 (.t 56)),
xO 58 (.ld 1 false (.t 57)),
xM 59 6,
xM 60 6,
xO 61 (.ia 1 (.t 58) (.t 59)),
⟨none,.st 1 (.t 61) (.t 60),none⟩])
 (.keep [0,4,5,6])))
 .skip))))
 (.seq (.ops [xM 34 6,
xO 35 (.bin .add (.t 34) (.c (.int .i64 1))),
xM 6 35])
 (.keep [0,4,5,6])))))))
 (xS [xO 9 (.mov (.c (.bool true)))] [0,5,9]
 (.seq
 (.block 2
 (.loop
 (.seq
 (xS [xM 62 9] [0,5,62]
 (.cond (.t 62)
 .skip
 (.exit 2)))
 (.block 3
 (xS [xO 9 (.mov (.c (.bool false)))] [0,5,9]
 (xS [xO 10 (.mov (.c (.int .i64 0)))] [0,5,9,10]
 (.block 4
 (.loop
 (.seq
 (xS [xM 63 10,
xM 64 0,
xO 65 (.chk (.t 64)),
xO 66 (.fa 0 (.t 65)),
xO 67 (.fa 1 (.t 66)),
xO 68 (.ld 1 false (.t 67)),
xO 69 (.ln (.t 68)),
xO 70 (.bin .lss (.t 63) (.t 69)),
xM 71 70,
xG 72 (.mov (.t 9)) 71 true,
xG 73 (.un .not (.t 72)) 71 true,
xO 74 (.pick (.t 71) (.t 73) (.c (.bool false)))] [0,5,9,10,74]
 (.cond (.t 74)
 .skip
 (.exit 4)))
 (.seq
 (.block 5
 (xS [xM 77 0,
xO 78 (.chk (.t 77)),
xO 79 (.fa 0 (.t 78)),
xO 80 (.fa 1 (.t 79)),
xO 81 (.ld 1 false (.t 80)),
xM 82 10,
xO 83 (.ia 5 (.t 81) (.t 82)),
xO 84 (.ld 5 true (.t 83)),
xO 11 (.newL [(.int .i64 0),(.int .i64 0),(.int .i64 0),(.int .i64 0),(.int .i64 0)]),
⟨none,.stB 5 11 (.t 84),none⟩] [0,5,9,10,11]
 (xS [xM 85 0,
xO 86 (.faB 0 11),
xO 87 (.ldE 1 false 11 86),
xO 88 (.call zH [(.t 85),(.t 87)]),
xM 12 88] [0,5,9,10,11,12]
 (xS [xM 89 0,
xO 90 (.faB 1 11),
xO 91 (.ldE 1 false 11 90),
xO 92 (.call zH [(.t 89),(.t 91)]),
xM 13 92] [0,5,9,10,11,12,13]
 (.seq
 (xS [xM 93 12,
xM 94 13,
xO 95 (.bin .eql (.t 93) (.t 94)),
xM 96 95,
xG 97 (.mov (.t 0)) 96 false,
xG 98 (.ldB 5 true 11) 96 false,
xG 99 (.call qW [(.t 97),(.t 98)]) 96 false,
xG 100 (.bin .neq (.t 99) (.c (.int .i64 0))) 96 false,
xO 101 (.pick (.t 96) (.c (.bool true)) (.t 100)),
xM 102 101,
xG 103 (.mov (.t 5)) 102 false,
xG 104 (.chk (.t 103)) 102 false,
xG 105 (.fa 0 (.t 104)) 102 false,
xG 106 (.ld 1 false (.t 105)) 102 false,
xG 107 (.mov (.t 12)) 102 false,
xG 108 (.ia 1 (.t 106) (.t 107)) 102 false,
xG 109 (.ld 1 false (.t 108)) 102 false,
xG 110 (.bin .neq (.t 109) (.c (.int .i64 1))) 102 false,
xG 111 (.mov (.t 110)) 102 false,
xG 112 (.mov (.t 5)) 111 true,
xG 113 (.chk (.t 112)) 111 true,
xG 114 (.fa 0 (.t 113)) 111 true,
xG 115 (.ld 1 false (.t 114)) 111 true,
xG 116 (.mov (.t 13)) 111 true,
xG 117 (.ia 1 (.t 115) (.t 116)) 111 true,
xG 118 (.ld 1 false (.t 117)) 111 true,
xG 119 (.bin .neq (.t 118) (.c (.int .i64 1))) 111 true,
xG 120 (.pick (.t 111) (.t 119) (.c (.bool false))) 102 false,
xO 121 (.pick (.t 102) (.c (.bool true)) (.t 120)),
xM 122 121,
xG 123 (.mov (.t 5)) 122 false,
xG 124 (.chk (.t 123)) 122 false,
xG 125 (.fa 0 (.t 124)) 122 false,
xG 126 (.ld 1 false (.t 125)) 122 false,
xG 127 (.mov (.t 12)) 122 false,
xG 128 (.ia 1 (.t 126) (.t 127)) 122 false,
xG 129 (.ld 1 false (.t 128)) 122 false,
xG 130 (.bin .eql (.t 129) (.c (.int .i64 2))) 122 false,
xO 131 (.pick (.t 122) (.c (.bool true)) (.t 130)),
xM 132 131,
xG 133 (.mov (.t 5)) 132 false,
xG 134 (.chk (.t 133)) 132 false,
xG 135 (.fa 0 (.t 134)) 132 false,
xG 136 (.ld 1 false (.t 135)) 132 false,
xG 137 (.mov (.t 13)) 132 false,
xG 138 (.ia 1 (.t 136) (.t 137)) 132 false,
xG 139 (.ld 1 false (.t 138)) 132 false,
xG 140 (.bin .eql (.t 139) (.c (.int .i64 2))) 132 false,
xO 141 (.pick (.t 132) (.c (.bool true)) (.t 140))] [0,5,9,10,11,12,13,141]
 (.cond (.t 141)
 (.exit 5)
 .skip))
 (.seq
 (xS [xM 142 5,
xO 143 (.chk (.t 142)),
xO 144 (.fa 0 (.t 143)),
xO 145 (.ld 1 false (.t 144)),
xM 146 12,
xO 147 (.ia 1 (.t 145) (.t 146)),
xO 148 (.ld 1 false (.t 147)),
xO 149 (.bin .eql (.t 148) (.c (.int .i64 1))),
xM 150 149,
xG 151 (.mov (.t 5)) 150 true,
xG 152 (.chk (.t 151)) 150 true,
xG 153 (.fa 0 (.t 152)) 150 true,
xG 154 (.ld 1 false (.t 153)) 150 true,
xG 155 (.mov (.t 13)) 150 true,
xG 156 (.ia 1 (.t 154) (.t 155)) 150 true,
xG 157 (.ld 1 false (.t 156)) 150 true,
xG 158 (.bin .eql (.t 157) (.c (.int .i64 1))) 150 true,
xO 159 (.pick (.t 150) (.t 158) (.c (.bool false)))] [0,5,10,11,12,13,159]
 (.cond (.t 159)
 (xS [xM 160 5,
xM 161 10,
xM 2 160,
xM 3 161] [2,3]
 .ret)
 .skip))
 (xS [xO 162 (.faB 0 11),
xO 163 (.ldE 1 false 11 162),
xO 164 (.faB 1 11),
xO 165 (.ldE 1 false 11 164),
xO 166 (.bld [(.int .i64 0),(.int .i64 0)] [(0,(1,(.t 163))),(1,(1,(.t 165)))]),
xO 14 (.newL [(.int .i64 0),(.int .i64 0)]),
⟨none,.stB 2 14 (.t 166),none⟩] [0,5,10,11,12,13,14]
 (.seq
 (xS [xM 167 5,
xO 168 (.chk (.t 167)),
xO 169 (.fa 0 (.t 168)),
xO 170 (.ld 1 false (.t 169)),
xM 171 12,
xO 172 (.ia 1 (.t 170) (.t 171)),
xO 173 (.ld 1 false (.t 172)),
xO 174 (.bin .neq (.t 173) (.c (.int .i64 1)))] [0,5,10,11,12,13,14,174]
 (.cond (.t 174)
 (xS [xO 175 (.faB 1 11),
xO 176 (.ldE 1 false 11 175),
xO 177 (.faB 0 11),
xO 178 (.ldE 1 false 11 177),
xO 179 (.bld [(.int .i64 0),(.int .i64 0)] [(0,(1,(.t 176))),(1,(1,(.t 178)))]),
⟨none,.stB 2 14 (.t 179),none⟩] [0,5,10,12,13,14]
 (.seq (.ops [xM 180 13,
xM 181 12,
xM 12 180,
xM 13 181])
 (.keep [0,5,10,12,13,14])))
 .skip))
 (xS [xM 183 0,
xM 184 13,
xO 185 (.call QA [(.t 183),(.t 184)]),
xM 182 185,
xO 186 (.ext 0 (.t 182)),
xO 187 (.ext 1 (.t 182)),
xO 15 (.newL [(.int .i64 0),(.int .i64 0)]),
⟨none,.stB 2 15 (.t 186),none⟩,
xM 16 187] [0,5,10,12,13,14,15]
 (xS [xM 188 0,
xO 189 (.faB 1 15),
xO 190 (.ldE 1 false 15 189),
xO 191 (.call zH [(.t 188),(.t 190)]),
xM 17 191] [0,5,10,12,13,14,15,17]
 (xS [xM 192 5,
xO 193 (.chk (.t 192)),
xO 194 (.fa 0 (.t 193)),
xO 195 (.ld 1 false (.t 194)),
xM 196 13,
xO 197 (.ia 1 (.t 195) (.t 196)),
⟨none,.st 1 (.t 197) (.c (.int .i64 2)),none⟩] [0,5,10,12,13,14,15,17]
 (.seq
 (.seq (.free true [xM 198 5,
xO 199 (.chk (.t 198)),
xO 200 (.fa 1 (.t 199)),
xO 201 (.ld 1 false (.t 200)),
xM 202 13,
xO 203 (.ldB 2 true 14),
xO 204 (.ia 2 (.t 201) (.t 202)),
⟨none,.st 2 (.t 204) (.t 203),none⟩])
 (.keep [0,5,10,12,13,15,17]))
 (.seq
 (.seq (.free true [xM 205 5,
xO 206 (.chk (.t 205)),
xO 207 (.fa 2 (.t 206)),
xO 208 (.ld 1 false (.t 207)),
xM 209 13,
xM 210 5,
xO 211 (.chk (.t 210)),
xO 212 (.fa 2 (.t 211)),
xO 213 (.ld 1 false (.t 212)),
xM 214 12,
xO 215 (.ia 1 (.t 213) (.t 214)),
xO 216 (.ld 1 false (.t 215)),
xO 217 (.ia 1 (.t 208) (.t 209)),
⟨none,.st 1 (.t 217) (.t 216),none⟩])
 (.keep [0,5,10,12,15,17]))
 (xS [xM 218 5,
xO 219 (.chk (.t 218)),
xO 220 (.fa 0 (.t 219)),
xO 221 (.ld 1 false (.t 220)),
xM 222 17,
xO 223 (.ia 1 (.t 221) (.t 222)),
⟨none,.st 1 (.t 223) (.c (.int .i64 1)),none⟩] [0,5,10,12,15,17]
 (.seq
 (.seq (.free true [xM 224 5,
xO 225 (.chk (.t 224)),
xO 226 (.fa 1 (.t 225)),
xO 227 (.ld 1 false (.t 226)),
xM 228 17,
xO 229 (.ldB 2 true 15),
xO 230 (.ia 2 (.t 227) (.t 228)),
⟨none,.st 2 (.t 230) (.t 229),none⟩])
 (.keep [0,5,10,12,17]))
 (.seq
 (.seq (.free true [xM 231 5,
xO 232 (.chk (.t 231)),
xO 233 (.fa 2 (.t 232)),
xO 234 (.ld 1 false (.t 233)),
xM 235 17,
xM 236 5,
xO 237 (.chk (.t 236)),
xO 238 (.fa 2 (.t 237)),
xO 239 (.ld 1 false (.t 238)),
xM 240 12,
xO 241 (.ia 1 (.t 239) (.t 240)),
xO 242 (.ld 1 false (.t 241)),
xO 243 (.ia 1 (.t 234) (.t 235)),
⟨none,.st 1 (.t 243) (.t 242),none⟩])
 (.keep [0,5,10]))
 (.seq (.ops [xO 9 (.mov (.c (.bool true)))])
 (.keep [0,5,9,10]))))))))))))))))))
 (.seq (.ops [xM 75 10,
xO 76 (.bin .add (.t 75) (.c (.int .i64 1))),
xM 10 76])
 (.keep [0,5,9,10]))))))))))))
 (xS [xM 244 5,
xM 2 244,
xO 3 (.mov (.c (.int .i64 (-1))))] [2,3]
 .ret))))))),
 [(.slot 2),(.slot 3)]⟩
def wB : Fun := ⟨2,
(xS [xM 10 0,
xM 11 1,
xO 12 (.call wj [(.t 10),(.t 11)]),
xM 9 12,
xO 13 (.ext 0 (.t 9)),
xO 14 (.ext 1 (.t 9)),
xM 4 13,
xM 5 14] [0,1,4,5]
 (.seq
 (xS [xM 15 4,
xO 16 (.bin .lss (.t 15) (.c (.int .i64 0)))] [0,1,4,5,16]
 (.cond (.t 16)
 (xS [xM 17 0,
xO 18 (.chk (.t 17)),
xO 19 (.fa 6 (.t 18)),
⟨none,.st 1 (.t 19) (.c (.bool true)),none⟩] []
 .ret)
 .skip))
 (.seq
 (xS [xO 6 (.mov (.c (.int .i64 0)))] [0,1,4,5,6]
 (.block 0
 (.loop
 (.seq
 (xS [xM 20 6,
xM 21 0,
xO 22 (.chk (.t 21)),
xO 23 (.fa 0 (.t 22)),
xO 24 (.fa 0 (.t 23)),
xO 25 (.ld 1 false (.t 24)),
xO 26 (.bin .lss (.t 20) (.t 25))] [0,1,4,5,6,26]
 (.cond (.t 26)
 .skip
 (.exit 0)))
 (.seq
 (.block 1
 (.seq
 (.seq (.free false [xM 29 1,
xO 30 (.chk (.t 29)),
xO 31 (.fa 0 (.t 30)),
xO 32 (.ld 1 false (.t 31)),
xM 33 0,
xM 34 6,
xO 35 (.call zH [(.t 33),(.t 34)]),
xO 36 (.ia 1 (.t 32) (.t 35)),
xO 37 (.ld 1 false (.t 36))])
 (.keep [0,1,4,5,6,37]))
 (.block 2
 (xS [xO 39 (.bin .eql (.t 37) (.c (.int .i64 1))),
xM 38 39] [0,1,4,5,6,37,38]
 (.cond (.t 38)
 (.seq (.free true [xM 40 0,
xO 41 (.chk (.t 40)),
xO 42 (.fa 2 (.t 41)),
xO 43 (.ld 1 false (.t 42)),
xM 44 6,
xM 45 0,
xO 46 (.chk (.t 45)),
xO 47 (.fa 2 (.t 46)),
xO 48 (.ld 1 false (.t 47)),
xM 49 6,
xO 50 (.ia 1 (.t 48) (.t 49)),
xO 51 (.ld 1 false (.t 50)),
xM 52 4,
xO 53 (.bin .sub (.t 51) (.t 52)),
xO 54 (.ia 1 (.t 43) (.t 44)),
⟨none,.st 1 (.t 54) (.t 53),none⟩])
 (.keep [0,1,4,5,6]))
 (xS [xO 56 (.bin .eql (.t 37) (.c (.int .i64 2))),
xM 55 56] [0,1,4,5,6,55]
 (.cond (.t 55)
 (.seq (.free true [xM 57 0,
xO 58 (.chk (.t 57)),
xO 59 (.fa 2 (.t 58)),
xO 60 (.ld 1 false (.t 59)),
xM 61 6,
xM 62 0,
xO 63 (.chk (.t 62)),
xO 64 (.fa 2 (.t 63)),
xO 65 (.ld 1 false (.t 64)),
xM 66 6,
xO 67 (.ia 1 (.t 65) (.t 66)),
xO 68 (.ld 1 false (.t 67)),
xM 69 4,
xO 70 (.bin .add (.t 68) (.t 69)),
xO 71 (.ia 1 (.t 60) (.t 61)),
⟨none,.st 1 (.t 71) (.t 70),none⟩])
 (.keep [0,1,4,5,6]))
 .skip)))))))
 (.seq (.ops [xM 27 6,
xO 28 (.bin .add (.t 27) (.c (.int .i64 1))),
xM 6 28])
 (.keep [0,1,4,5,6])))))))
 (.seq
 (xS [xM 72 0,
xO 73 (.chk (.t 72)),
xO 74 (.fa 0 (.t 73)),
xO 75 (.fa 0 (.t 74)),
xO 76 (.ld 1 false (.t 75)),
xM 7 76] [0,1,4,5,7]
 (.block 3
 (.loop
 (.seq
 (xS [xM 77 7,
xM 78 0,
xO 79 (.chk (.t 78)),
xO 80 (.fa 3 (.t 79)),
xO 81 (.ld 1 false (.t 80)),
xO 82 (.ln (.t 81)),
xO 83 (.bin .lss (.t 77) (.t 82))] [0,1,4,5,7,83]
 (.cond (.t 83)
 .skip
 (.exit 3)))
 (.seq
 (.block 4
 (.seq
 (xS [xM 86 0,
xM 87 7,
xO 88 (.call Z0 [(.t 86),(.t 87)]),
xO 89 (.un .not (.t 88))] [0,1,4,5,7,89]
 (.cond (.t 89)
 (.exit 4)
 .skip))
 (xS [xM 90 1,
xO 91 (.chk (.t 90)),
xO 92 (.fa 0 (.t 91)),
xO 93 (.ld 1 false (.t 92)),
xM 94 7,
xO 95 (.ia 1 (.t 93) (.t 94)),
xO 96 (.ld 1 false (.t 95))] [0,1,4,5,7,96]
 (.block 5
 (xS [xO 98 (.bin .eql (.t 96) (.c (.int .i64 1))),
xM 97 98] [0,1,4,5,7,96,97]
 (.cond (.t 97)
 (.seq (.free true [xM 99 0,
xO 100 (.chk (.t 99)),
xO 101 (.fa 3 (.t 100)),
xO 102 (.ld 1 false (.t 101)),
xM 103 7,
xM 104 0,
xO 105 (.chk (.t 104)),
xO 106 (.fa 3 (.t 105)),
xO 107 (.ld 1 false (.t 106)),
xM 108 7,
xO 109 (.ia 6 (.t 107) (.t 108)),
xO 110 (.fa 3 (.t 109)),
xO 111 (.ld 1 false (.t 110)),
xM 112 4,
xO 113 (.bin .mul (.c (.int .i64 2)) (.t 112)),
xO 114 (.bin .add (.t 111) (.t 113)),
xO 115 (.ia 6 (.t 102) (.t 103)),
xO 116 (.fa 3 (.t 115)),
⟨none,.st 1 (.t 116) (.t 114),none⟩])
 (.keep [0,1,4,5,7]))
 (xS [xO 118 (.bin .eql (.t 96) (.c (.int .i64 2))),
xM 117 118] [0,1,4,5,7,117]
 (.cond (.t 117)
 (.seq (.free true [xM 119 0,
xO 120 (.chk (.t 119)),
xO 121 (.fa 3 (.t 120)),
xO 122 (.ld 1 false (.t 121)),
xM 123 7,
xM 124 0,
xO 125 (.chk (.t 124)),
xO 126 (.fa 3 (.t 125)),
xO 127 (.ld 1 false (.t 126)),
xM 128 7,
xO 129 (.ia 6 (.t 127) (.t 128)),
xO 130 (.fa 3 (.t 129)),
xO 131 (.ld 1 false (.t 130)),
xM 132 4,
xO 133 (.bin .mul (.c (.int .i64 2)) (.t 132)),
xO 134 (.bin .sub (.t 131) (.t 133)),
xO 135 (.ia 6 (.t 122) (.t 123)),
xO 136 (.fa 3 (.t 135)),
⟨none,.st 1 (.t 136) (.t 134),none⟩])
 (.keep [0,1,4,5,7]))
 .skip))))))))
 (.seq (.ops [xM 84 7,
xO 85 (.bin .add (.t 84) (.c (.int .i64 1))),
xM 7 85])
 (.keep [0,1,4,5,7])))))))
 (.seq
 (xS [xM 137 5,
xM 138 4,
xO 139 (.bin .eql (.t 137) (.t 138))] [0,1,139]
 (.cond (.t 139)
 (xS [xM 140 0,
xO 141 (.chk (.t 140)),
xO 142 (.fa 6 (.t 141)),
⟨none,.st 1 (.t 142) (.c (.bool true)),none⟩] []
 .ret)
 .skip))
 (xS [xM 143 0,
xM 144 1,
xO 145 (.chk (.t 144)),
xO 146 (.fa 0 (.t 145)),
xO 147 (.ld 1 false (.t 146)),
xO 148 (.call ZZ [(.t 143),(.t 147)]),
xM 8 148] [0,8]
 (xS [xM 149 8,
xO 150 (.bin .geq (.t 149) (.c (.int .i64 0)))] [0,8,150]
 (.cond (.t 150)
 (.seq (.ops [xM 151 0,
xM 152 8,
xO 153 (.call qe [(.t 151),(.t 152)])])
 (.keep []))
 .skip)))))))),
 []⟩
def Vr : Fun := ⟨2,
(xS [xO 4 (.mov (.c (.int .i64 0)))] [0,1]
 (.seq
 (.block 0
 (.loop
 (.seq
 (xS [xM 5 0,
xO 6 (.chk (.t 5)),
xO 7 (.fa 3 (.t 6)),
xO 8 (.ld 1 false (.t 7)),
xM 9 1,
xO 10 (.ia 6 (.t 8) (.t 9)),
xO 11 (.fa 4 (.t 10)),
xO 12 (.ld 1 false (.t 11)),
xO 13 (.bin .geq (.t 12) (.c (.int .i64 0)))] [0,1,13]
 (.cond (.t 13)
 .skip
 (.exit 0)))
 (.block 1
 (.seq (.ops [xM 14 0,
xO 15 (.chk (.t 14)),
xO 16 (.fa 3 (.t 15)),
xO 17 (.ld 1 false (.t 16)),
xM 18 1,
xO 19 (.ia 6 (.t 17) (.t 18)),
xO 20 (.fa 4 (.t 19)),
xO 21 (.ld 1 false (.t 20)),
xM 1 21])
 (.keep [0,1]))))))
 (xS [xM 22 1,
xM 4 22] [4]
 .ret))),
 [(.slot 4)]⟩
def wD : Fun := ⟨3,
(xS [xO 5 (.boxL 5 (.t 2))] [0,1,5]
 (xS [xM 19 0,
xM 20 1,
xM 21 0,
xO 22 (.faB 0 5),
xO 23 (.ldE 1 false 5 22),
xO 24 (.call zH [(.t 21),(.t 23)]),
xO 25 (.call Qj [(.t 19),(.t 20),(.t 24)]),
xM 6 25] [0,1,5,6]
 (xS [xM 26 0,
xM 27 1,
xM 28 0,
xO 29 (.faB 1 5),
xO 30 (.ldE 1 false 5 29),
xO 31 (.call zH [(.t 28),(.t 30)]),
xO 32 (.call Qj [(.t 26),(.t 27),(.t 31)]),
xM 7 32] [0,1,5,6,7]
 (xS [xO 8 (.mov (.c (.int .i64 0)))] [0,1,5,6,7,8]
 (.seq
 (.block 0
 (.loop
 (.seq
 (xS [xM 33 7,
xM 34 6,
xM 35 8,
xO 36 (.ia 1 (.t 34) (.t 35)),
xO 37 (.ld 1 false (.t 36)),
xO 38 (.call ZH [(.t 33),(.t 37)]),
xO 39 (.un .not (.t 38))] [0,1,5,6,7,8,39]
 (.cond (.t 39)
 .skip
 (.exit 0)))
 (.block 1
 (.seq (.ops [xM 40 8,
xO 41 (.bin .add (.t 40) (.c (.int .i64 1))),
xM 8 41])
 (.keep [0,1,5,6,7,8]))))))
 (xS [xM 42 7,
xM 43 6,
xM 44 8,
xO 45 (.ia 1 (.t 43) (.t 44)),
xO 46 (.ld 1 false (.t 45)),
xO 47 (.call Wy [(.t 42),(.t 46)]),
xM 9 47] [0,1,5,6,7,8,9]
 (xS [xM 48 6,
xM 49 8,
xO 50 (.ia 1 (.t 48) (.t 49)),
xO 51 (.ld 1 false (.t 50)),
xO 52 (.lit 1 1 zf [(.int .i64 0)] [(0,(.t 51))]),
xM 10 52] [0,1,5,6,7,8,9,10]
 (xS [xO 53 (.lit 0 2 zS [(.int .i64 0),(.int .i64 0)] []),
xM 11 53] [0,1,5,6,7,8,9,10,11]
 (.seq
 (xS [xM 54 8,
xO 55 (.bin .sub (.t 54) (.c (.int .i64 1))),
xM 12 55] [0,1,5,6,7,8,9,10,11,12]
 (.block 2
 (.loop
 (.seq
 (xS [xM 56 12,
xO 57 (.bin .geq (.t 56) (.c (.int .i64 0)))] [0,1,5,6,7,8,9,10,11,12,57]
 (.cond (.t 57)
 .skip
 (.exit 2)))
 (.seq
 (.block 3
 (xS [xM 60 10,
xM 61 6,
xM 62 12,
xO 63 (.ia 1 (.t 61) (.t 62)),
xO 64 (.ld 1 false (.t 63)),
xO 65 (.litL 1 1 [(.int .i64 0)] [(0,(.t 64))]),
xO 66 (.appL 1 zf 8 1 (.t 60) 65),
xM 10 66] [0,1,5,6,7,8,9,10,11,12]
 (.seq (.free true [xM 67 11,
xM 68 1,
xO 69 (.chk (.t 68)),
xO 70 (.fa 1 (.t 69)),
xO 71 (.ld 1 false (.t 70)),
xM 72 6,
xM 73 12,
xO 74 (.ia 1 (.t 72) (.t 73)),
xO 75 (.ld 1 false (.t 74)),
xO 76 (.ia 2 (.t 71) (.t 75)),
xO 77 (.ld 2 true (.t 76)),
xO 78 (.litL 1 2 [(.int .i64 0),(.int .i64 0)] [(0,(.t 77))]),
xO 79 (.appL 2 zS 16 1 (.t 67) 78),
xM 11 79])
 (.keep [0,1,5,6,7,8,9,10,11,12]))))
 (.seq (.ops [xM 58 12,
xO 59 (.bin .sub (.t 58) (.c (.int .i64 1))),
xM 12 59])
 (.keep [0,1,5,6,7,8,9,10,11,12])))))))
 (xS [xM 80 11,
xO 81 (.faB 0 5),
xO 82 (.ldE 1 false 5 81),
xO 83 (.faB 1 5),
xO 84 (.ldE 1 false 5 83),
xO 85 (.bld [(.int .i64 0),(.int .i64 0)] [(0,(1,(.t 82))),(1,(1,(.t 84)))]),
xO 86 (.litL 1 2 [(.int .i64 0),(.int .i64 0)] [(0,(.t 85))]),
xO 87 (.appL 2 zS 16 1 (.t 80) 86),
xM 11 87] [0,1,6,7,8,9,10,11]
 (.seq
 (xS [xO 13 (.mov (.c (.int .i64 0)))] [0,1,6,7,8,9,10,11,13]
 (.block 4
 (.loop
 (.seq
 (xS [xM 88 13,
xM 89 9,
xO 90 (.bin .lss (.t 88) (.t 89))] [0,1,6,7,8,9,10,11,13,90]
 (.cond (.t 90)
 .skip
 (.exit 4)))
 (.seq
 (.block 5
 (xS [xM 93 10,
xM 94 7,
xM 95 13,
xO 96 (.ia 1 (.t 94) (.t 95)),
xO 97 (.ld 1 false (.t 96)),
xO 98 (.litL 1 1 [(.int .i64 0)] [(0,(.t 97))]),
xO 99 (.appL 1 zf 8 1 (.t 93) 98),
xM 10 99] [0,1,6,7,8,9,10,11,13]
 (.seq
 (.seq (.free true [xM 100 1,
xO 101 (.chk (.t 100)),
xO 102 (.fa 1 (.t 101)),
xO 103 (.ld 1 false (.t 102)),
xM 104 7,
xM 105 13,
xO 106 (.ia 1 (.t 104) (.t 105)),
xO 107 (.ld 1 false (.t 106)),
xO 108 (.ia 2 (.t 103) (.t 107)),
xO 109 (.ld 2 true (.t 108)),
xO 14 (.newL [(.int .i64 0),(.int .i64 0)]),
⟨none,.stB 2 14 (.t 109),none⟩])
 (.keep [0,1,6,7,8,9,10,11,13,14]))
 (.seq (.ops [xM 110 11,
xO 111 (.faB 1 14),
xO 112 (.ldE 1 false 14 111),
xO 113 (.faB 0 14),
xO 114 (.ldE 1 false 14 113),
xO 115 (.bld [(.int .i64 0),(.int .i64 0)] [(0,(1,(.t 112))),(1,(1,(.t 114)))]),
xO 116 (.litL 1 2 [(.int .i64 0),(.int .i64 0)] [(0,(.t 115))]),
xO 117 (.appL 2 zS 16 1 (.t 110) 116),
xM 11 117])
 (.keep [0,1,6,7,8,9,10,11,13])))))
 (.seq (.ops [xM 91 13,
xO 92 (.bin .add (.t 91) (.c (.int .i64 1))),
xM 13 92])
 (.keep [0,1,6,7,8,9,10,11,13])))))))
 (xS [xO 118 (.lit 0 2 zS [(.int .i64 0),(.int .i64 0)] []),
xM 15 118] [0,6,8,10,11,15]
 (.seq
 (xS [xO 16 (.mov (.c (.int .i64 0)))] [0,6,8,10,11,15,16]
 (.block 6
 (.loop
 (.seq
 (xS [xM 119 16,
xM 120 0,
xO 121 (.chk (.t 120)),
xO 122 (.fa 4 (.t 121)),
xO 123 (.ld 1 false (.t 122)),
xO 124 (.ln (.t 123)),
xO 125 (.bin .lss (.t 119) (.t 124))] [0,6,8,10,11,15,16,125]
 (.cond (.t 125)
 .skip
 (.exit 6)))
 (.seq
 (.block 7
 (xS [xM 128 10,
xM 129 0,
xM 130 0,
xO 131 (.chk (.t 130)),
xO 132 (.fa 4 (.t 131)),
xO 133 (.ld 1 false (.t 132)),
xM 134 16,
xO 135 (.ia 2 (.t 133) (.t 134)),
xO 136 (.fa 0 (.t 135)),
xO 137 (.ld 1 false (.t 136)),
xO 138 (.call zH [(.t 129),(.t 137)]),
xO 139 (.call ZH [(.t 128),(.t 138)]),
xO 140 (.un .not (.t 139)),
xM 141 140,
xG 142 (.mov (.t 10)) 141 false,
xG 143 (.mov (.t 0)) 141 false,
xG 144 (.mov (.t 0)) 141 false,
xG 145 (.chk (.t 144)) 141 false,
xG 146 (.fa 4 (.t 145)) 141 false,
xG 147 (.ld 1 false (.t 146)) 141 false,
xG 148 (.mov (.t 16)) 141 false,
xG 149 (.ia 2 (.t 147) (.t 148)) 141 false,
xG 150 (.fa 1 (.t 149)) 141 false,
xG 151 (.ld 1 false (.t 150)) 141 false,
xG 152 (.call zH [(.t 143),(.t 151)]) 141 false,
xG 153 (.call ZH [(.t 142),(.t 152)]) 141 false,
xG 154 (.un .not (.t 153)) 141 false,
xO 155 (.pick (.t 141) (.c (.bool true)) (.t 154))] [0,6,8,10,11,15,16,155]
 (.cond (.t 155)
 (.seq (.ops [xM 156 15,
xM 157 0,
xO 158 (.chk (.t 157)),
xO 159 (.fa 4 (.t 158)),
xO 160 (.ld 1 false (.t 159)),
xM 161 16,
xO 162 (.ia 2 (.t 160) (.t 161)),
xO 163 (.ld 2 true (.t 162)),
xO 164 (.litL 1 2 [(.int .i64 0),(.int .i64 0)] [(0,(.t 163))]),
xO 165 (.appL 2 zS 16 1 (.t 156) 164),
xM 15 165])
 (.keep [0,6,8,10,11,15,16]))
 .skip)))
 (.seq (.ops [xM 126 16,
xO 127 (.bin .add (.t 126) (.c (.int .i64 1))),
xM 16 127])
 (.keep [0,6,8,10,11,15,16])))))))
 (xS [xM 166 0,
xM 167 6,
xM 168 8,
xO 169 (.ia 1 (.t 167) (.t 168)),
xO 170 (.ld 1 false (.t 169)),
xO 171 (.call wh [(.t 166),(.t 170)]),
xM 17 171] [0,10,11,15,17]
 (xS [xM 172 0,
xM 173 15,
xO 174 (.chk (.t 172)),
xO 175 (.fa 4 (.t 174)),
⟨none,.st 1 (.t 175) (.t 173),none⟩] [0,10,11,17]
 (xS [xM 176 0,
xM 177 0,
xO 178 (.chk (.t 177)),
xO 179 (.fa 3 (.t 178)),
xO 180 (.ld 1 false (.t 179)),
xM 181 10,
xM 182 11,
xM 183 17,
xO 184 (.bld [(.slice none 0 0),(.slice none 0 0),(.int .i64 0),(.int .i64 0),(.int .i64 0),(.bool false)] [(0,(1,(.t 181))),(1,(1,(.t 182))),(2,(1,(.t 183))),(4,(1,(.c (.int .i64 (-1)))))]),
xO 185 (.litL 1 6 [(.slice none 0 0),(.slice none 0 0),(.int .i64 0),(.int .i64 0),(.int .i64 0),(.bool false)] [(0,(.t 184))]),
xO 186 (.appL 6 Yw 80 1 (.t 180) 185),
xO 187 (.chk (.t 176)),
xO 188 (.fa 3 (.t 187)),
⟨none,.st 1 (.t 188) (.t 186),none⟩] [0,10]
 (xS [xO 18 (.mov (.c (.int .i64 0)))] [0,10,18]
 (.block 8
 (.loop
 (.seq
 (xS [xM 189 18,
xM 190 10,
xO 191 (.ln (.t 190)),
xO 192 (.bin .lss (.t 189) (.t 191))] [0,10,18,192]
 (.cond (.t 192)
 .skip
 (.exit 8)))
 (.seq
 (.block 9
 (.seq (.free true [xM 195 0,
xO 196 (.chk (.t 195)),
xO 197 (.fa 3 (.t 196)),
xO 198 (.ld 1 false (.t 197)),
xM 199 10,
xM 200 18,
xO 201 (.ia 1 (.t 199) (.t 200)),
xO 202 (.ld 1 false (.t 201)),
xM 203 0,
xO 204 (.chk (.t 203)),
xO 205 (.fa 3 (.t 204)),
xO 206 (.ld 1 false (.t 205)),
xO 207 (.ln (.t 206)),
xO 208 (.bin .sub (.t 207) (.c (.int .i64 1))),
xO 209 (.ia 6 (.t 198) (.t 202)),
xO 210 (.fa 4 (.t 209)),
⟨none,.st 1 (.t 210) (.t 208),none⟩])
 (.keep [0,10,18])))
 (.seq (.ops [xM 193 18,
xO 194 (.bin .add (.t 193) (.c (.int .i64 1))),
xM 18 194])
 (.keep [0,10,18]))))))))))))))))))))))),
 []⟩
def Q3 : Fun := ⟨3,
(xS [xO 5 (.boxL 5 (.t 2))] [0,1,5]
 (.seq
 (.seq (.free true [xM 12 0,
xM 13 1,
xM 14 0,
xO 15 (.faB 0 5),
xO 16 (.ldE 1 false 5 15),
xO 17 (.call zH [(.t 14),(.t 16)]),
xO 18 (.call Qj [(.t 12),(.t 13),(.t 17)]),
xM 19 0,
xM 20 1,
xM 21 0,
xO 22 (.faB 1 5),
xO 23 (.ldE 1 false 5 22),
xO 24 (.call zH [(.t 21),(.t 23)]),
xO 25 (.call Qj [(.t 19),(.t 20),(.t 24)]),
xO 26 (.lit 2 1 jl [(.slice none 0 0)] [(0,(.t 18)),(1,(.t 25))]),
xM 6 26])
 (.keep [0,1,5,6]))
 (.seq
 (xS [xO 7 (.mov (.c (.int .i64 0)))] [0,1,5,6,7]
 (.block 0
 (.loop
 (.seq
 (xS [xM 27 7,
xO 28 (.bin .lss (.t 27) (.c (.int .i64 2)))] [0,1,5,6,7,28]
 (.cond (.t 28)
 .skip
 (.exit 0)))
 (.seq
 (.block 1
 (xS [xO 8 (.mov (.c (.int .i64 0)))] [0,1,5,6,7,8]
 (.block 2
 (.loop
 (.seq
 (xS [xM 31 8,
xM 32 6,
xM 33 7,
xO 34 (.ia 1 (.t 32) (.t 33)),
xO 35 (.ld 1 false (.t 34)),
xO 36 (.ln (.t 35)),
xO 37 (.bin .lss (.t 31) (.t 36))] [0,1,5,6,7,8,37]
 (.cond (.t 37)
 .skip
 (.exit 2)))
 (.seq
 (.block 3
 (.seq (.ops [xM 40 0,
xM 41 6,
xM 42 7,
xO 43 (.ia 1 (.t 41) (.t 42)),
xO 44 (.ld 1 false (.t 43)),
xM 45 8,
xO 46 (.ia 1 (.t 44) (.t 45)),
xO 47 (.ld 1 false (.t 46)),
xO 48 (.call Qf [(.t 40),(.t 47)])])
 (.keep [0,1,5,6,7,8])))
 (.seq (.ops [xM 38 8,
xO 39 (.bin .add (.t 38) (.c (.int .i64 1))),
xM 8 39])
 (.keep [0,1,5,6,7,8]))))))))
 (.seq (.ops [xM 29 7,
xO 30 (.bin .add (.t 29) (.c (.int .i64 1))),
xM 7 30])
 (.keep [0,1,5,6,7])))))))
 (.seq
 (.seq (.free true [xM 49 0,
xM 50 0,
xO 51 (.chk (.t 50)),
xO 52 (.fa 4 (.t 51)),
xO 53 (.ld 1 false (.t 52)),
xO 54 (.faB 0 5),
xO 55 (.ldE 1 false 5 54),
xO 56 (.faB 1 5),
xO 57 (.ldE 1 false 5 56),
xO 58 (.bld [(.int .i64 0),(.int .i64 0)] [(0,(1,(.t 55))),(1,(1,(.t 57)))]),
xO 59 (.litL 1 2 [(.int .i64 0),(.int .i64 0)] [(0,(.t 58))]),
xO 60 (.appL 2 zS 16 1 (.t 53) 59),
xO 61 (.chk (.t 49)),
xO 62 (.fa 4 (.t 61)),
⟨none,.st 1 (.t 62) (.t 60),none⟩])
 (.keep [0,1,6]))
 (.seq
 (xS [xO 9 (.mov (.c (.int .i64 0)))] [0,1,6,9]
 (.block 4
 (.loop
 (.seq
 (xS [xM 63 9,
xO 64 (.bin .lss (.t 63) (.c (.int .i64 2)))] [0,1,6,9,64]
 (.cond (.t 64)
 .skip
 (.exit 4)))
 (.seq
 (.block 5
 (xS [xO 10 (.mov (.c (.int .i64 0)))] [0,1,6,9,10]
 (.block 6
 (.loop
 (.seq
 (xS [xM 67 10,
xM 68 6,
xM 69 9,
xO 70 (.ia 1 (.t 68) (.t 69)),
xO 71 (.ld 1 false (.t 70)),
xO 72 (.ln (.t 71)),
xO 73 (.bin .lss (.t 67) (.t 72))] [0,1,6,9,10,73]
 (.cond (.t 73)
 .skip
 (.exit 6)))
 (.seq
 (.block 7
 (.seq
 (.seq (.free true [xM 76 1,
xO 77 (.chk (.t 76)),
xO 78 (.fa 0 (.t 77)),
xO 79 (.ld 1 false (.t 78)),
xM 80 6,
xM 81 9,
xO 82 (.ia 1 (.t 80) (.t 81)),
xO 83 (.ld 1 false (.t 82)),
xM 84 10,
xO 85 (.ia 1 (.t 83) (.t 84)),
xO 86 (.ld 1 false (.t 85)),
xO 87 (.ia 1 (.t 79) (.t 86)),
xO 88 (.ld 1 false (.t 87)),
xO 89 (.bin .eql (.t 88) (.c (.int .i64 2)))])
 (.keep [0,1,6,9,10,89]))
 (.cond (.t 89)
 (.seq (.free true [xM 90 0,
xM 91 0,
xO 92 (.chk (.t 91)),
xO 93 (.fa 4 (.t 92)),
xO 94 (.ld 1 false (.t 93)),
xM 95 1,
xO 96 (.chk (.t 95)),
xO 97 (.fa 1 (.t 96)),
xO 98 (.ld 1 false (.t 97)),
xM 99 6,
xM 100 9,
xO 101 (.ia 1 (.t 99) (.t 100)),
xO 102 (.ld 1 false (.t 101)),
xM 103 10,
xO 104 (.ia 1 (.t 102) (.t 103)),
xO 105 (.ld 1 false (.t 104)),
xO 106 (.ia 2 (.t 98) (.t 105)),
xO 107 (.ld 2 true (.t 106)),
xO 108 (.litL 1 2 [(.int .i64 0),(.int .i64 0)] [(0,(.t 107))]),
xO 109 (.appL 2 zS 16 1 (.t 94) 108),
xO 110 (.chk (.t 90)),
xO 111 (.fa 4 (.t 110)),
⟨none,.st 1 (.t 111) (.t 109),none⟩])
 (.keep [0,1,6,9,10]))
 .skip)))
 (.seq (.ops [xM 74 10,
xO 75 (.bin .add (.t 74) (.c (.int .i64 1))),
xM 10 75])
 (.keep [0,1,6,9,10]))))))))
 (.seq (.ops [xM 65 9,
xO 66 (.bin .add (.t 65) (.c (.int .i64 1))),
xM 9 66])
 (.keep [0,1,6,9])))))))
 (xS [xM 112 0,
xO 113 (.lit 0 1 zf [(.int .i64 0)] []),
xO 114 (.call ZZ [(.t 112),(.t 113)]),
xM 11 114] [0,11]
 (.block 8
 (.loop
 (.seq
 (xS [xM 115 11,
xO 116 (.bin .geq (.t 115) (.c (.int .i64 0)))] [0,11,116]
 (.cond (.t 116)
 .skip
 (.exit 8)))
 (.block 9
 (xS [xM 117 0,
xM 118 11,
xO 119 (.call qe [(.t 117),(.t 118)])] [0]
 (.seq (.ops [xM 120 0,
xO 121 (.lit 0 1 zf [(.int .i64 0)] []),
xO 122 (.call ZZ [(.t 120),(.t 121)]),
xM 11 122])
 (.keep [0,11]))))))))))))),
 []⟩
def vc : Fun := ⟨2,
(xS [xO 4 (.newL [(.int .i64 0),(.int .i64 0)]),
xO 5 (.mov (.c (.bool false)))] [0,1,4]
 (.seq
 (xS [xO 6 (.mov (.c (.int .i64 0)))] [0,1,4,6]
 (.block 0
 (.loop
 (.seq
 (xS [xM 8 6,
xM 9 0,
xO 10 (.chk (.t 9)),
xO 11 (.fa 4 (.t 10)),
xO 12 (.ld 1 false (.t 11)),
xO 13 (.ln (.t 12)),
xO 14 (.bin .lss (.t 8) (.t 13))] [0,1,4,6,14]
 (.cond (.t 14)
 .skip
 (.exit 0)))
 (.seq
 (.block 1
 (xS [xM 17 0,
xO 18 (.chk (.t 17)),
xO 19 (.fa 4 (.t 18)),
xO 20 (.ld 1 false (.t 19)),
xM 21 6,
xO 22 (.ia 2 (.t 20) (.t 21)),
xO 23 (.ld 2 true (.t 22)),
xO 7 (.newL [(.int .i64 0),(.int .i64 0)]),
⟨none,.stB 2 7 (.t 23),none⟩] [0,1,4,6,7]
 (.seq
 (xS [xM 24 0,
xO 25 (.faB 0 7),
xO 26 (.ldE 1 false 7 25),
xO 27 (.call zH [(.t 24),(.t 26)]),
xM 28 1,
xO 29 (.bin .eql (.t 27) (.t 28))] [0,1,4,6,7,29]
 (.cond (.t 29)
 (xS [xO 30 (.ldB 2 true 7),
⟨none,.stB 2 4 (.t 30),none⟩,
xO 5 (.mov (.c (.bool true)))] [4,5]
 .ret)
 .skip))
 (xS [xM 31 0,
xO 32 (.faB 1 7),
xO 33 (.ldE 1 false 7 32),
xO 34 (.call zH [(.t 31),(.t 33)]),
xM 35 1,
xO 36 (.bin .eql (.t 34) (.t 35))] [0,1,4,6,7,36]
 (.cond (.t 36)
 (xS [xO 37 (.faB 1 7),
xO 38 (.ldE 1 false 7 37),
xO 39 (.faB 0 7),
xO 40 (.ldE 1 false 7 39),
xO 41 (.bld [(.int .i64 0),(.int .i64 0)] [(0,(1,(.t 38))),(1,(1,(.t 40)))]),
⟨none,.stB 2 4 (.t 41),none⟩,
xO 5 (.mov (.c (.bool true)))] [4,5]
 .ret)
 .skip)))))
 (.seq (.ops [xM 15 6,
xO 16 (.bin .add (.t 15) (.c (.int .i64 1))),
xM 6 16])
 (.keep [0,1,4,6])))))))
 (xS [xO 42 (.bld [(.int .i64 0),(.int .i64 0)] []),
⟨none,.stB 2 4 (.t 42),none⟩,
xO 5 (.mov (.c (.bool false)))] [4,5]
 .ret))),
 [(.box 4 2 true),(.slot 5)]⟩
def vf : Fun := ⟨1,
(xS [xO 2 (.mov (.c (.slice none 0 0)))] [0]
 (xS [xO 3 (.lit 3 1 zf [(.int .i64 0)] [(0,(.c (.int .i64 0))),(1,(.c (.int .i64 2))),(2,(.c (.int .i64 3)))]),
xO 4 (.lit 2 1 zf [(.int .i64 0)] [(0,(.c (.int .i64 0))),(1,(.c (.int .i64 1)))]),
xO 5 (.lit 0 1 zf [(.int .i64 0)] []),
xO 6 (.lit 3 1 zf [(.int .i64 0)] [(0,(.c (.int .i64 2))),(1,(.c (.int .i64 1))),(2,(.c (.int .i64 0)))]),
xO 7 (.lit 5 1 zf [(.int .i64 0)] [(0,(.c (.int .i64 0))),(1,(.c (.int .i64 1))),(2,(.c (.int .i64 2))),(3,(.c (.int .i64 3))),(4,(.c (.int .i64 4)))]),
xO 8 (.lit 3 1 zf [(.int .i64 0)] [(0,(.c (.int .i64 1))),(1,(.c (.int .i64 2))),(2,(.c (.int .i64 9)))]),
xO 9 (.lit 6 1 jl [(.slice none 0 0)] [(0,(.t 3)),(1,(.t 4)),(2,(.t 5)),(3,(.t 6)),(4,(.t 7)),(5,(.t 8))]),
xM 10 0,
xO 11 (.call zJ [(.t 10),(.c (.int .i64 6))]),
xO 12 (.ia 1 (.t 9) (.t 11)),
xO 13 (.ld 1 false (.t 12)),
xM 2 13] [2]
 .ret)),
 [(.slot 2)]⟩
def Ws : Fun := ⟨2,
(xS [xO 3 (.boxL 5 (.t 1)),
xO 4 (.mov (.c (.int .i64 0)))] [0,3]
 (.seq
 (.seq (.free false [xM 7 0,
xO 8 (.chk (.t 7)),
xO 9 (.fa 2 (.t 8)),
xO 10 (.ld 1 false (.t 9)),
xO 11 (.faB 0 3),
xO 12 (.ldE 1 false 3 11),
xO 13 (.ia 1 (.t 10) (.t 12)),
xO 14 (.ld 1 false (.t 13)),
xM 15 0,
xO 16 (.chk (.t 15)),
xO 17 (.fa 2 (.t 16)),
xO 18 (.ld 1 false (.t 17)),
xO 19 (.faB 1 3),
xO 20 (.ldE 1 false 3 19),
xO 21 (.ia 1 (.t 18) (.t 20)),
xO 22 (.ld 1 false (.t 21)),
xO 23 (.bin .add (.t 14) (.t 22)),
xO 24 (.ldB 5 true 3),
xO 25 (.call qG [(.t 24)]),
xO 26 (.bin .mul (.c (.int .i64 2)) (.t 25)),
xO 27 (.bin .sub (.t 23) (.t 26)),
xM 5 27])
 (.keep [0,3,5]))
 (.seq
 (xS [xM 28 0,
xO 29 (.chk (.t 28)),
xO 30 (.fa 0 (.t 29)),
xO 31 (.fa 0 (.t 30)),
xO 32 (.ld 1 false (.t 31)),
xM 6 32] [0,3,5,6]
 (.block 0
 (.loop
 (.seq
 (xS [xM 33 6,
xM 34 0,
xO 35 (.chk (.t 34)),
xO 36 (.fa 3 (.t 35)),
xO 37 (.ld 1 false (.t 36)),
xO 38 (.ln (.t 37)),
xO 39 (.bin .lss (.t 33) (.t 38))] [0,3,5,6,39]
 (.cond (.t 39)
 .skip
 (.exit 0)))
 (.seq
 (.block 1
 (xS [xM 42 0,
xO 43 (.chk (.t 42)),
xO 44 (.fa 3 (.t 43)),
xO 45 (.ld 1 false (.t 44)),
xM 46 6,
xO 47 (.ia 6 (.t 45) (.t 46)),
xO 48 (.fa 5 (.t 47)),
xO 49 (.ld 1 false (.t 48)),
xO 50 (.un .not (.t 49)),
xM 51 50,
xG 52 (.mov (.t 0)) 51 true,
xG 53 (.faB 0 3) 51 true,
xG 54 (.ldE 1 false 3 53) 51 true,
xG 55 (.mov (.t 6)) 51 true,
xG 56 (.call qb [(.t 52),(.t 54),(.t 55)]) 51 true,
xO 57 (.pick (.t 51) (.t 56) (.c (.bool false))),
xM 58 57,
xG 59 (.mov (.t 0)) 58 true,
xG 60 (.faB 1 3) 58 true,
xG 61 (.ldE 1 false 3 60) 58 true,
xG 62 (.mov (.t 6)) 58 true,
xG 63 (.call qb [(.t 59),(.t 61),(.t 62)]) 58 true,
xO 64 (.pick (.t 58) (.t 63) (.c (.bool false)))] [0,3,5,6,64]
 (.cond (.t 64)
 (.seq (.ops [xM 65 5,
xM 66 0,
xO 67 (.chk (.t 66)),
xO 68 (.fa 3 (.t 67)),
xO 69 (.ld 1 false (.t 68)),
xM 70 6,
xO 71 (.ia 6 (.t 69) (.t 70)),
xO 72 (.fa 3 (.t 71)),
xO 73 (.ld 1 false (.t 72)),
xO 74 (.bin .add (.t 65) (.t 73)),
xM 5 74])
 (.keep [0,3,5,6]))
 .skip)))
 (.seq (.ops [xM 40 6,
xO 41 (.bin .add (.t 40) (.c (.int .i64 1))),
xM 6 41])
 (.keep [0,3,5,6])))))))
 (xS [xM 75 5,
xM 4 75] [4]
 .ret)))),
 [(.slot 4)]⟩
def ve : Fun := ⟨2,
(xS [xO 4 (.mov (.c (.int .i64 0))),
xO 5 (.mov (.c (.int .i64 0)))] [0,1]
 (xS [xO 6 (.mov (.c (.int .i64 (-1))))] [0,1]
 (xS [xO 7 (.mov (.c (.int .i64 (-1))))] [0,1,7]
 (.seq
 (xS [xO 8 (.mov (.c (.int .i64 0)))] [0,1,7,8]
 (.block 0
 (.loop
 (.seq
 (xS [xM 14 8,
xM 15 0,
xO 16 (.chk (.t 15)),
xO 17 (.fa 0 (.t 16)),
xO 18 (.fa 0 (.t 17)),
xO 19 (.ld 1 false (.t 18)),
xO 20 (.bin .lss (.t 14) (.t 19))] [0,1,7,8,20]
 (.cond (.t 20)
 .skip
 (.exit 0)))
 (.seq
 (.block 1
 (.seq
 (.seq (.free false [xM 23 1,
xO 24 (.chk (.t 23)),
xO 25 (.fa 0 (.t 24)),
xO 26 (.ld 1 false (.t 25)),
xM 27 0,
xM 28 8,
xO 29 (.call zH [(.t 27),(.t 28)]),
xO 30 (.ia 1 (.t 26) (.t 29)),
xO 31 (.ld 1 false (.t 30)),
xO 32 (.bin .eql (.t 31) (.c (.int .i64 1)))])
 (.keep [0,1,7,8,32]))
 (.cond (.t 32)
 (.seq (.ops [xM 33 7,
xM 34 0,
xO 35 (.chk (.t 34)),
xO 36 (.fa 2 (.t 35)),
xO 37 (.ld 1 false (.t 36)),
xM 38 8,
xO 39 (.ia 1 (.t 37) (.t 38)),
xO 40 (.ld 1 false (.t 39)),
xO 41 (.call qi [(.t 33),(.t 40)]),
xM 7 41])
 (.keep [0,1,7,8]))
 .skip)))
 (.seq (.ops [xM 21 8,
xO 22 (.bin .add (.t 21) (.c (.int .i64 1))),
xM 8 22])
 (.keep [0,1,7,8])))))))
 (.seq
 (xS [xM 42 7,
xO 43 (.bin .lss (.t 42) (.c (.int .i64 0)))] [0,1,7,43]
 (.cond (.t 43)
 (xS [xO 4 (.mov (.c (.int .i64 (-1)))),
xO 5 (.mov (.c (.int .i64 (-1))))] [4,5]
 .ret)
 .skip))
 (xS [xM 44 7,
xM 6 44] [0,1,6,7]
 (.seq
 (xS [xO 9 (.mov (.c (.int .i64 0)))] [0,1,6,7,9]
 (.block 2
 (.loop
 (.seq
 (xS [xM 45 9,
xM 46 0,
xO 47 (.chk (.t 46)),
xO 48 (.fa 0 (.t 47)),
xO 49 (.fa 1 (.t 48)),
xO 50 (.ld 1 false (.t 49)),
xO 51 (.ln (.t 50)),
xO 52 (.bin .lss (.t 45) (.t 51))] [0,1,6,7,9,52]
 (.cond (.t 52)
 .skip
 (.exit 2)))
 (.seq
 (.block 3
 (xS [xM 55 0,
xO 56 (.chk (.t 55)),
xO 57 (.fa 0 (.t 56)),
xO 58 (.fa 1 (.t 57)),
xO 59 (.ld 1 false (.t 58)),
xM 60 9,
xO 61 (.ia 5 (.t 59) (.t 60)),
xO 62 (.ld 5 true (.t 61)),
xO 10 (.newL [(.int .i64 0),(.int .i64 0),(.int .i64 0),(.int .i64 0),(.int .i64 0)]),
⟨none,.stB 5 10 (.t 62),none⟩] [0,1,6,7,9,10]
 (xS [xM 63 0,
xO 64 (.faB 0 10),
xO 65 (.ldE 1 false 10 64),
xO 66 (.call zH [(.t 63),(.t 65)]),
xM 11 66] [0,1,6,7,9,10,11]
 (xS [xM 67 0,
xO 68 (.faB 1 10),
xO 69 (.ldE 1 false 10 68),
xO 70 (.call zH [(.t 67),(.t 69)]),
xM 12 70] [0,1,6,7,9,10,11,12]
 (.seq
 (xS [xM 71 11,
xM 72 12,
xO 73 (.bin .eql (.t 71) (.t 72)),
xM 74 73,
xG 75 (.mov (.t 1)) 74 false,
xG 76 (.chk (.t 75)) 74 false,
xG 77 (.fa 0 (.t 76)) 74 false,
xG 78 (.ld 1 false (.t 77)) 74 false,
xG 79 (.mov (.t 11)) 74 false,
xG 80 (.ia 1 (.t 78) (.t 79)) 74 false,
xG 81 (.ld 1 false (.t 80)) 74 false,
xG 82 (.bin .eql (.t 81) (.c (.int .i64 2))) 74 false,
xO 83 (.pick (.t 74) (.c (.bool true)) (.t 82)),
xM 84 83,
xG 85 (.mov (.t 1)) 84 false,
xG 86 (.chk (.t 85)) 84 false,
xG 87 (.fa 0 (.t 86)) 84 false,
xG 88 (.ld 1 false (.t 87)) 84 false,
xG 89 (.mov (.t 12)) 84 false,
xG 90 (.ia 1 (.t 88) (.t 89)) 84 false,
xG 91 (.ld 1 false (.t 90)) 84 false,
xG 92 (.bin .eql (.t 91) (.c (.int .i64 2))) 84 false,
xO 93 (.pick (.t 84) (.c (.bool true)) (.t 92))] [0,1,6,7,9,10,11,12,93]
 (.cond (.t 93)
 (.exit 3)
 .skip))
 (xS [xM 94 1,
xO 95 (.chk (.t 94)),
xO 96 (.fa 0 (.t 95)),
xO 97 (.ld 1 false (.t 96)),
xM 98 11,
xO 99 (.ia 1 (.t 97) (.t 98)),
xO 100 (.ld 1 false (.t 99)),
xO 101 (.bin .eql (.t 100) (.c (.int .i64 1))),
xM 102 101,
xG 103 (.mov (.t 1)) 102 true,
xG 104 (.chk (.t 103)) 102 true,
xG 105 (.fa 0 (.t 104)) 102 true,
xG 106 (.ld 1 false (.t 105)) 102 true,
xG 107 (.mov (.t 12)) 102 true,
xG 108 (.ia 1 (.t 106) (.t 107)) 102 true,
xG 109 (.ld 1 false (.t 108)) 102 true,
xG 110 (.bin .eql (.t 109) (.c (.int .i64 1))) 102 true,
xO 111 (.pick (.t 102) (.t 110) (.c (.bool false)))] [0,1,6,7,9,10,11,12,111]
 (.cond (.t 111)
 (.seq (.ops [xM 112 6,
xM 113 0,
xO 114 (.ldB 5 true 10),
xO 115 (.call qW [(.t 113),(.t 114)]),
xO 116 (.bin .quo (.t 115) (.c (.int .i64 2))),
xO 117 (.call qi [(.t 112),(.t 116)]),
xM 6 117])
 (.keep [0,1,6,7,9]))
 (xS [xM 118 1,
xO 119 (.chk (.t 118)),
xO 120 (.fa 0 (.t 119)),
xO 121 (.ld 1 false (.t 120)),
xM 122 11,
xO 123 (.ia 1 (.t 121) (.t 122)),
xO 124 (.ld 1 false (.t 123)),
xO 125 (.bin .eql (.t 124) (.c (.int .i64 1))),
xM 126 125,
xG 127 (.mov (.t 1)) 126 false,
xG 128 (.chk (.t 127)) 126 false,
xG 129 (.fa 0 (.t 128)) 126 false,
xG 130 (.ld 1 false (.t 129)) 126 false,
xG 131 (.mov (.t 12)) 126 false,
xG 132 (.ia 1 (.t 130) (.t 131)) 126 false,
xG 133 (.ld 1 false (.t 132)) 126 false,
xG 134 (.bin .eql (.t 133) (.c (.int .i64 1))) 126 false,
xO 135 (.pick (.t 126) (.c (.bool true)) (.t 134))] [0,1,6,7,9,10,135]
 (.cond (.t 135)
 (.seq (.ops [xM 136 6,
xM 137 0,
xO 138 (.ldB 5 true 10),
xO 139 (.call qW [(.t 137),(.t 138)]),
xO 140 (.call qi [(.t 136),(.t 139)]),
xM 6 140])
 (.keep [0,1,6,7,9]))
 .skip)))))))))
 (.seq (.ops [xM 53 9,
xO 54 (.bin .add (.t 53) (.c (.int .i64 1))),
xM 9 54])
 (.keep [0,1,6,7,9])))))))
 (.seq
 (xS [xM 141 0,
xO 142 (.chk (.t 141)),
xO 143 (.fa 0 (.t 142)),
xO 144 (.fa 0 (.t 143)),
xO 145 (.ld 1 false (.t 144)),
xM 13 145] [0,1,6,7,13]
 (.block 4
 (.loop
 (.seq
 (xS [xM 146 13,
xM 147 0,
xO 148 (.chk (.t 147)),
xO 149 (.fa 3 (.t 148)),
xO 150 (.ld 1 false (.t 149)),
xO 151 (.ln (.t 150)),
xO 152 (.bin .lss (.t 146) (.t 151))] [0,1,6,7,13,152]
 (.cond (.t 152)
 .skip
 (.exit 4)))
 (.seq
 (.block 5
 (xS [xM 155 0,
xM 156 13,
xO 157 (.call Z0 [(.t 155),(.t 156)]),
xM 158 157,
xG 159 (.mov (.t 1)) 158 true,
xG 160 (.chk (.t 159)) 158 true,
xG 161 (.fa 0 (.t 160)) 158 true,
xG 162 (.ld 1 false (.t 161)) 158 true,
xG 163 (.mov (.t 13)) 158 true,
xG 164 (.ia 1 (.t 162) (.t 163)) 158 true,
xG 165 (.ld 1 false (.t 164)) 158 true,
xG 166 (.bin .eql (.t 165) (.c (.int .i64 2))) 158 true,
xO 167 (.pick (.t 158) (.t 166) (.c (.bool false)))] [0,1,6,7,13,167]
 (.cond (.t 167)
 (.seq (.ops [xM 168 6,
xM 169 0,
xO 170 (.chk (.t 169)),
xO 171 (.fa 3 (.t 170)),
xO 172 (.ld 1 false (.t 171)),
xM 173 13,
xO 174 (.ia 6 (.t 172) (.t 173)),
xO 175 (.fa 3 (.t 174)),
xO 176 (.ld 1 false (.t 175)),
xO 177 (.bin .quo (.t 176) (.c (.int .i64 2))),
xO 178 (.call qi [(.t 168),(.t 177)]),
xM 6 178])
 (.keep [0,1,6,7,13]))
 .skip)))
 (.seq (.ops [xM 153 13,
xO 154 (.bin .add (.t 153) (.c (.int .i64 1))),
xM 13 154])
 (.keep [0,1,6,7,13])))))))
 (xS [xM 179 6,
xM 180 7,
xM 4 179,
xM 5 180] [4,5]
 .ret))))))))),
 [(.slot 4),(.slot 5)]⟩
def Wn : Fun := ⟨2,
(xS [xO 4 (.mov (.c (.int .i64 0)))] [0,1]
 (.seq
 (xS [xM 6 0,
xO 7 (.chk (.t 6)),
xO 8 (.fa 0 (.t 7)),
xO 9 (.fa 0 (.t 8)),
xO 10 (.ld 1 false (.t 9)),
xM 5 10] [0,1,5]
 (.block 0
 (.loop
 (.seq
 (xS [xM 11 5,
xM 12 0,
xO 13 (.chk (.t 12)),
xO 14 (.fa 3 (.t 13)),
xO 15 (.ld 1 false (.t 14)),
xO 16 (.ln (.t 15)),
xO 17 (.bin .lss (.t 11) (.t 16))] [0,1,5,17]
 (.cond (.t 17)
 .skip
 (.exit 0)))
 (.seq
 (.block 1
 (xS [xM 20 0,
xM 21 5,
xO 22 (.call Z0 [(.t 20),(.t 21)]),
xM 23 22,
xG 24 (.mov (.t 0)) 23 true,
xG 25 (.chk (.t 24)) 23 true,
xG 26 (.fa 3 (.t 25)) 23 true,
xG 27 (.ld 1 false (.t 26)) 23 true,
xG 28 (.mov (.t 5)) 23 true,
xG 29 (.ia 6 (.t 27) (.t 28)) 23 true,
xG 30 (.fa 3 (.t 29)) 23 true,
xG 31 (.ld 1 false (.t 30)) 23 true,
xG 32 (.bin .eql (.t 31) (.c (.int .i64 0))) 23 true,
xO 33 (.pick (.t 23) (.t 32) (.c (.bool false))),
xM 34 33,
xG 35 (.mov (.t 1)) 34 true,
xG 36 (.ln (.t 35)) 34 true,
xG 37 (.bin .eql (.t 36) (.c (.int .i64 0))) 34 true,
xG 38 (.mov (.t 37)) 34 true,
xG 39 (.mov (.t 1)) 38 false,
xG 40 (.mov (.t 5)) 38 false,
xG 41 (.ia 1 (.t 39) (.t 40)) 38 false,
xG 42 (.ld 1 false (.t 41)) 38 false,
xG 43 (.bin .eql (.t 42) (.c (.int .i64 2))) 38 false,
xG 44 (.pick (.t 38) (.c (.bool true)) (.t 43)) 34 true,
xO 45 (.pick (.t 34) (.t 44) (.c (.bool false)))] [0,1,5,45]
 (.cond (.t 45)
 (xS [xM 46 5,
xM 4 46] [4]
 .ret)
 .skip)))
 (.seq (.ops [xM 18 5,
xO 19 (.bin .add (.t 18) (.c (.int .i64 1))),
xM 5 19])
 (.keep [0,1,5])))))))
 (xS [xO 4 (.mov (.c (.int .i64 (-1))))] [4]
 .ret))),
 [(.slot 4)]⟩
def Vs : Fun := ⟨3,
(xS [xO 6 (.mov (.c (.slice none 0 0)))] [0,1,2]
 (xS [xM 8 2,
xO 9 (.lit 1 1 zf [(.int .i64 0)] [(0,(.t 8))]),
xM 7 9] [0,1,2,7]
 (.seq
 (.block 0
 (.loop
 (.seq
 (xS [xM 10 1,
xO 11 (.chk (.t 10)),
xO 12 (.fa 2 (.t 11)),
xO 13 (.ld 1 false (.t 12)),
xM 14 2,
xO 15 (.ia 1 (.t 13) (.t 14)),
xO 16 (.ld 1 false (.t 15)),
xM 17 2,
xO 18 (.bin .neq (.t 16) (.t 17))] [0,1,2,7,18]
 (.cond (.t 18)
 .skip
 (.exit 0)))
 (.block 1
 (xS [xM 19 0,
xM 20 1,
xO 21 (.chk (.t 20)),
xO 22 (.fa 1 (.t 21)),
xO 23 (.ld 1 false (.t 22)),
xM 24 2,
xO 25 (.ia 2 (.t 23) (.t 24)),
xO 26 (.fa 0 (.t 25)),
xO 27 (.ld 1 false (.t 26)),
xO 28 (.call zH [(.t 19),(.t 27)]),
xM 2 28] [0,1,2,7]
 (.seq (.ops [xM 29 7,
xM 30 2,
xO 31 (.litL 1 1 [(.int .i64 0)] [(0,(.t 30))]),
xO 32 (.appL 1 zf 8 1 (.t 29) 31),
xM 7 32])
 (.keep [0,1,2,7])))))))
 (xS [xM 33 7,
xM 6 33] [6]
 .ret)))),
 [(.slot 6)]⟩
def Wk : Fun := ⟨2,
(xS [xO 4 (.mov (.c (.int .i64 0)))] [0,1]
 (.seq
 (xS [xO 5 (.mov (.c (.int .i64 0)))] [0,1,5]
 (.block 0
 (.loop
 (.seq
 (xS [xM 6 5,
xM 7 0,
xO 8 (.ln (.t 7)),
xO 9 (.bin .lss (.t 6) (.t 8))] [0,1,5,9]
 (.cond (.t 9)
 .skip
 (.exit 0)))
 (.seq
 (.block 1
 (xS [xM 12 0,
xM 13 5,
xO 14 (.ia 1 (.t 12) (.t 13)),
xO 15 (.ld 1 false (.t 14)),
xM 16 1,
xO 17 (.bin .eql (.t 15) (.t 16))] [0,1,5,17]
 (.cond (.t 17)
 (xS [xM 18 5,
xM 4 18] [4]
 .ret)
 .skip)))
 (.seq (.ops [xM 10 5,
xO 11 (.bin .add (.t 10) (.c (.int .i64 1))),
xM 5 11])
 (.keep [0,1,5])))))))
 (xS [xO 4 (.mov (.c (.int .i64 (-1))))] [4]
 .ret))),
 [(.slot 4)]⟩
def Q4 : Fun := ⟨2,
(xS [xO 6 (.lit 0 2 zS [(.int .i64 0),(.int .i64 0)] []),
xM 4 6] [0,1,4]
 (.seq
 (xS [xO 5 (.mov (.c (.int .i64 0)))] [0,1,4,5]
 (.block 0
 (.loop
 (.seq
 (xS [xM 7 5,
xM 8 0,
xO 9 (.chk (.t 8)),
xO 10 (.fa 4 (.t 9)),
xO 11 (.ld 1 false (.t 10)),
xO 12 (.ln (.t 11)),
xO 13 (.bin .lss (.t 7) (.t 12))] [0,1,4,5,13]
 (.cond (.t 13)
 .skip
 (.exit 0)))
 (.seq
 (.block 1
 (xS [xM 16 0,
xM 17 0,
xO 18 (.chk (.t 17)),
xO 19 (.fa 4 (.t 18)),
xO 20 (.ld 1 false (.t 19)),
xM 21 5,
xO 22 (.ia 2 (.t 20) (.t 21)),
xO 23 (.fa 0 (.t 22)),
xO 24 (.ld 1 false (.t 23)),
xO 25 (.call zH [(.t 16),(.t 24)]),
xM 26 1,
xO 27 (.bin .neq (.t 25) (.t 26)),
xM 28 27,
xG 29 (.mov (.t 0)) 28 true,
xG 30 (.mov (.t 0)) 28 true,
xG 31 (.chk (.t 30)) 28 true,
xG 32 (.fa 4 (.t 31)) 28 true,
xG 33 (.ld 1 false (.t 32)) 28 true,
xG 34 (.mov (.t 5)) 28 true,
xG 35 (.ia 2 (.t 33) (.t 34)) 28 true,
xG 36 (.fa 1 (.t 35)) 28 true,
xG 37 (.ld 1 false (.t 36)) 28 true,
xG 38 (.call zH [(.t 29),(.t 37)]) 28 true,
xG 39 (.mov (.t 1)) 28 true,
xG 40 (.bin .neq (.t 38) (.t 39)) 28 true,
xO 41 (.pick (.t 28) (.t 40) (.c (.bool false)))] [0,1,4,5,41]
 (.cond (.t 41)
 (.seq (.ops [xM 42 4,
xM 43 0,
xO 44 (.chk (.t 43)),
xO 45 (.fa 4 (.t 44)),
xO 46 (.ld 1 false (.t 45)),
xM 47 5,
xO 48 (.ia 2 (.t 46) (.t 47)),
xO 49 (.ld 2 true (.t 48)),
xO 50 (.litL 1 2 [(.int .i64 0),(.int .i64 0)] [(0,(.t 49))]),
xO 51 (.appL 2 zS 16 1 (.t 42) 50),
xM 4 51])
 (.keep [0,1,4,5]))
 .skip)))
 (.seq (.ops [xM 14 5,
xO 15 (.bin .add (.t 14) (.c (.int .i64 1))),
xM 5 15])
 (.keep [0,1,4,5])))))))
 (.seq (.ops [xM 52 0,
xM 53 4,
xO 54 (.chk (.t 52)),
xO 55 (.fa 4 (.t 54)),
⟨none,.st 1 (.t 55) (.t 53),none⟩])
 (.keep [])))),
 []⟩
def Wq : Fun := ⟨2,
(xS [xO 4 (.mov (.c (.int .i64 0)))] [0,1]
 (.seq
 (xS [xM 5 0,
xO 6 (.bin .lss (.t 5) (.c (.int .i64 0))),
xM 7 6,
xG 8 (.mov (.t 1)) 7 false,
xG 9 (.mov (.t 0)) 7 false,
xG 10 (.bin .lss (.t 8) (.t 9)) 7 false,
xO 11 (.pick (.t 7) (.c (.bool true)) (.t 10))] [0,1,11]
 (.cond (.t 11)
 (xS [xM 12 1,
xM 4 12] [4]
 .ret)
 .skip))
 (xS [xM 13 0,
xM 4 13] [4]
 .ret))),
 [(.slot 4)]⟩
end Go.Proofs.Ytafhipglhnfgnaa.Ab
