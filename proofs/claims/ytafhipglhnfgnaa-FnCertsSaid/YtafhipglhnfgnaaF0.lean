/- The functions, as they are read. No conditions. -/
import Derived.Test.YtafhipglhnfgnaaFN
namespace Go.Proofs.Ytafhipglhnfgnaa.Ab
def W1 : Fun := ⟨1,
(xS [xO 2 (.mov (.c (.bool false)))] [0]
 (.seq
 (xS [xM 19 0,
xO 20 (.call UR [(.t 19)])] [0,20]
 (.cond (.t 20)
 (xS [xO 2 (.mov (.c (.bool true)))] [2]
 .ret)
 .skip))
 (xS [xM 21 0,
xO 22 (.call qu [(.t 21)]),
xO 3 (.newL [(.int .i64 0),(.slice none 0 0),(.slice none 0 0),(.slice none 0 0),(.slice none 0 0)]),
⟨none,.stB 5 3 (.t 22),none⟩] [0,3]
 (xS [xO 24 (.ldB 5 true 3),
xO 25 (.call QP [(.t 24)]),
xM 23 25,
xO 26 (.ext 0 (.t 23)),
xO 27 (.ext 1 (.t 23)),
xM 4 26,
xM 5 27] [0,3,4,5]
 (xS [xM 29 4,
xO 30 (.call QQ [(.t 29)]),
xM 28 30,
xO 31 (.ext 0 (.t 28)),
xO 32 (.ext 1 (.t 28)),
xO 6 (.newL [(.int .i64 0),(.slice none 0 0),(.slice none 0 0),(.slice none 0 0),(.slice none 0 0)]),
⟨none,.stB 5 6 (.t 31),none⟩,
xM 7 32] [0,3,5,6,7]
 (.seq
 (xS [xM 33 5,
xO 34 (.faB 0 3),
xO 35 (.ldE 2 true 3 34),
xO 36 (.faB 2 3),
xO 37 (.ldE 1 false 3 36),
xO 38 (.faB 3 3),
xO 39 (.ldE 2 true 3 38),
xO 40 (.call Qu [(.t 35),(.t 37),(.t 39)]),
xO 41 (.binB .neq (.t 33) (.t 40)),
xM 42 41,
xG 43 (.mov (.t 5)) 42 false,
xG 44 (.mov (.t 43)) 42 false,
xG 45 (.mov (.t 7)) 44 true,
xG 46 (.un .not (.t 45)) 44 true,
xG 47 (.mov (.t 46)) 44 true,
xG 48 (.faB 0 3) 47 false,
xG 49 (.ldE 2 true 3 48) 47 false,
xG 50 (.faB 0 6) 47 false,
xG 51 (.ldE 2 true 6 50) 47 false,
xG 52 (.call wH [(.t 49),(.t 51)]) 47 false,
xG 53 (.un .not (.t 52)) 47 false,
xG 54 (.pick (.t 47) (.c (.bool true)) (.t 53)) 44 true,
xG 55 (.mov (.t 54)) 44 true,
xG 56 (.faB 2 3) 55 false,
xG 57 (.ldE 1 false 3 56) 55 false,
xG 58 (.faB 2 6) 55 false,
xG 59 (.ldE 1 false 6 58) 55 false,
xG 60 (.call QL [(.t 57),(.t 59)]) 55 false,
xG 61 (.un .not (.t 60)) 55 false,
xG 62 (.pick (.t 55) (.c (.bool true)) (.t 61)) 44 true,
xG 63 (.mov (.t 62)) 44 true,
xG 64 (.faB 3 3) 63 false,
xG 65 (.ldE 2 true 3 64) 63 false,
xG 66 (.faB 3 6) 63 false,
xG 67 (.ldE 2 true 6 66) 63 false,
xG 68 (.call wI [(.t 65),(.t 67)]) 63 false,
xG 69 (.un .not (.t 68)) 63 false,
xG 70 (.pick (.t 63) (.c (.bool true)) (.t 69)) 44 true,
xG 71 (.pick (.t 44) (.t 70) (.c (.bool false))) 42 false,
xO 72 (.pick (.t 42) (.c (.bool true)) (.t 71))] [0,72]
 (.cond (.t 72)
 (xS [xO 2 (.mov (.c (.bool false)))] [2]
 .ret)
 .skip))
 (xS [xM 73 0,
xO 74 (.call qv [(.t 73)]),
xM 8 74] [0,8]
 (xS [xM 76 8,
xO 77 (.call QQ [(.t 76)]),
xM 75 77,
xO 78 (.ext 0 (.t 75)),
xO 79 (.ext 1 (.t 75)),
xO 9 (.newL [(.int .i64 0),(.slice none 0 0),(.slice none 0 0),(.slice none 0 0),(.slice none 0 0)]),
⟨none,.stB 5 9 (.t 78),none⟩,
xM 10 79] [0,8,9,10]
 (xS [xM 81 8,
xO 82 (.call Wx [(.t 81)]),
xM 80 82,
xO 83 (.ext 0 (.t 80)),
xO 84 (.ext 1 (.t 80)),
xO 11 (.newL [(.int .i64 0),(.slice none 0 0),(.slice none 0 0),(.slice none 0 0),(.slice none 0 0)]),
⟨none,.stB 5 11 (.t 83),none⟩,
xM 12 84] [0,8,9,10,12]
 (xS [xO 86 (.ldB 5 true 9),
xO 87 (.call QP [(.t 86)]),
xM 85 87,
xO 88 (.ext 0 (.t 85)),
xO 89 (.ext 1 (.t 85)),
xM 13 88,
xM 14 89] [0,8,10,12,13]
 (.seq
 (xS [xM 90 10,
xM 91 12,
xO 92 (.binB .neq (.t 90) (.t 91)),
xM 93 92,
xG 94 (.mov (.t 10)) 93 false,
xG 95 (.mov (.t 94)) 93 false,
xG 96 (.mov (.t 13)) 95 true,
xG 97 (.mov (.t 8)) 95 true,
xG 98 (.bin .neq (.t 96) (.t 97)) 95 true,
xG 99 (.pick (.t 95) (.t 98) (.c (.bool false))) 93 false,
xO 100 (.pick (.t 93) (.c (.bool true)) (.t 99))] [0,100]
 (.cond (.t 100)
 (xS [xO 2 (.mov (.c (.bool false)))] [2]
 .ret)
 .skip))
 (xS [xM 101 0,
xO 102 (.call qd [(.t 101)]),
xM 15 102] [15]
 (xS [xM 103 15,
xO 104 (.call Qs [(.t 103)]),
xM 16 104] [15,16]
 (xS [xO 17 (.mov (.c (.string ⟨⟨[]⟩⟩)))] [15,16,17]
 (.seq
 (xS [xO 18 (.mov (.c (.int .i64 0)))] [15,16,17,18]
 (.block 0
 (.loop
 (.seq
 (xS [xM 105 18,
xM 106 16,
xO 107 (.ln (.t 106)),
xO 108 (.bin .lss (.t 105) (.t 107))] [15,16,17,18,108]
 (.cond (.t 108)
 .skip
 (.exit 0)))
 (.seq
 (.block 1
 (.seq
 (xS [xM 111 16,
xM 112 18,
xO 113 (.ia 1 (.t 111) (.t 112)),
xO 114 (.ld 1 false (.t 113)),
xO 115 (.lnS (.t 114)),
xO 116 (.bin .eql (.t 115) (.c (.int .i64 0))),
xM 117 116,
xG 118 (.mov (.t 16)) 117 false,
xG 119 (.mov (.t 18)) 117 false,
xG 120 (.ia 1 (.t 118) (.t 119)) 117 false,
xG 121 (.ld 1 false (.t 120)) 117 false,
xG 122 (.lnS (.t 121)) 117 false,
xG 123 (.bin .gtr (.t 122) (.c (.int .i64 40))) 117 false,
xO 124 (.pick (.t 117) (.c (.bool true)) (.t 123)),
xM 125 124,
xG 126 (.mov (.t 18)) 125 false,
xG 127 (.bin .add (.t 126) (.c (.int .i64 1))) 125 false,
xG 128 (.mov (.t 16)) 125 false,
xG 129 (.ln (.t 128)) 125 false,
xG 130 (.bin .lss (.t 127) (.t 129)) 125 false,
xG 131 (.mov (.t 130)) 125 false,
xG 132 (.mov (.t 16)) 131 true,
xG 133 (.mov (.t 18)) 131 true,
xG 134 (.ia 1 (.t 132) (.t 133)) 131 true,
xG 135 (.ld 1 false (.t 134)) 131 true,
xG 136 (.lnS (.t 135)) 131 true,
xG 137 (.bin .neq (.t 136) (.c (.int .i64 40))) 131 true,
xG 138 (.pick (.t 131) (.t 137) (.c (.bool false))) 125 false,
xO 139 (.pick (.t 125) (.c (.bool true)) (.t 138))] [15,16,17,18,139]
 (.cond (.t 139)
 (xS [xO 2 (.mov (.c (.bool false)))] [2]
 .ret)
 .skip))
 (.seq (.ops [xM 140 17,
xM 141 16,
xM 142 18,
xO 143 (.ia 1 (.t 141) (.t 142)),
xO 144 (.ld 1 false (.t 143)),
xO 145 (.bin .add (.t 140) (.t 144)),
xM 17 145])
 (.keep [15,16,17,18]))))
 (.seq (.ops [xM 109 18,
xO 110 (.bin .add (.t 109) (.c (.int .i64 1))),
xM 18 110])
 (.keep [15,16,17,18])))))))
 (xS [xM 146 17,
xM 147 15,
xO 148 (.bin .eql (.t 146) (.t 147)),
xM 2 148] [2]
 .ret)))))))))))))))),
 [(.slot 2)]⟩
def UC : Fun := ⟨1,
(xS [xO 2 (.mov (.c (.bool false)))] [0]
 (xS [xM 3 0,
xO 4 (.ln (.t 3)),
xO 5 (.bin .gtr (.t 4) (.c (.int .i64 1048576))),
xM 2 5] [2]
 .ret)),
 [(.slot 2)]⟩
def WW : Fun := ⟨2,
(xS [xO 2 (.boxL 2 (.t 0)),
xO 3 (.boxL 2 (.t 1)),
xO 4 (.mov (.c (.bool false)))] [2,3]
 (.seq
 (xS [xO 17 (.ldB 2 true 2),
xO 18 (.call wd [(.t 17)]),
xO 19 (.un .not (.t 18)),
xM 20 19,
xG 21 (.faB 0 3) 20 false,
xG 22 (.ldE 1 false 3 21) 20 false,
xG 23 (.ln (.t 22)) 20 false,
xG 24 (.faB 0 2) 20 false,
xG 25 (.ldE 1 false 2 24) 20 false,
xG 26 (.bin .neq (.t 23) (.t 25)) 20 false,
xO 27 (.pick (.t 20) (.c (.bool true)) (.t 26)),
xM 28 27,
xG 29 (.faB 1 3) 28 false,
xG 30 (.ldE 1 false 3 29) 28 false,
xG 31 (.ln (.t 30)) 28 false,
xG 32 (.bin .gtr (.t 31) (.c (.int .i64 8))) 28 false,
xO 33 (.pick (.t 28) (.c (.bool true)) (.t 32))] [2,3,33]
 (.cond (.t 33)
 (xS [xO 4 (.mov (.c (.bool false)))] [4]
 .ret)
 .skip))
 (.seq
 (xS [xO 34 (.faB 0 3),
xO 35 (.ldE 1 false 3 34),
xO 36 (.ln (.t 35)),
xO 37 (.mov (.c (.int .i64 0)))] [2,3,35,36,37]
 (.block 0
 (.loop
 (xS [xO 38 (.bin .lss (.t 37) (.t 36))] [2,3,35,36,37,38]
 (.seq
 (.cond (.t 38)
 .skip
 (.exit 0))
 (.seq
 (.block 1
 (xS [xO 39 (.ia 1 (.t 35) (.t 37)),
xO 40 (.ld 1 false (.t 39)),
xM 6 40] [2,3,6,35,36,37]
 (xS [xM 41 6,
xO 42 (.call qg [(.t 41),(.c (.int .i64 0)),(.c (.int .i64 1000000000))]),
xO 43 (.un .not (.t 42))] [2,3,35,36,37,43]
 (.cond (.t 43)
 (xS [xO 4 (.mov (.c (.bool false)))] [4]
 .ret)
 .skip))))
 (.seq (.ops [xO 44 (.bin .add (.t 37) (.c (.int .i64 1))),
xM 37 44])
 (.keep [2,3,35,36,37]))))))))
 (.seq
 (xS [xO 45 (.faB 1 3),
xO 46 (.ldE 1 false 3 45),
xO 47 (.ln (.t 46)),
xO 48 (.mov (.c (.int .i64 0)))] [2,3,46,47,48]
 (.block 2
 (.loop
 (xS [xO 49 (.bin .lss (.t 48) (.t 47))] [2,3,46,47,48,49]
 (.seq
 (.cond (.t 49)
 .skip
 (.exit 2))
 (.seq
 (.block 3
 (xS [xM 50 48,
xO 51 (.ia 2 (.t 46) (.t 48)),
xO 52 (.ld 2 true (.t 51)),
xO 8 (.newL [(.slice none 0 0),(.int .i64 0)]),
xM 7 50,
⟨none,.stB 2 8 (.t 52),none⟩] [2,3,7,8,46,47,48]
 (.seq
 (xS [xO 53 (.ldB 2 true 2),
xO 54 (.ldB 2 true 8),
xO 55 (.call vD [(.t 53),(.t 54)]),
xO 56 (.un .not (.t 55))] [2,3,7,8,46,47,48,56]
 (.cond (.t 56)
 (xS [xO 4 (.mov (.c (.bool false)))] [4]
 .ret)
 .skip))
 (xS [xO 57 (.faB 1 3),
xO 58 (.ldE 1 false 3 57),
xM 59 7,
xO 60 (.slL 2 (.t 58) none (some (.t 59))),
xO 61 (.ln (.t 60)),
xO 62 (.mov (.c (.int .i64 0)))] [2,3,8,46,47,48,60,61,62]
 (.block 4
 (.loop
 (xS [xO 63 (.bin .lss (.t 62) (.t 61))] [2,3,8,46,47,48,60,61,62,63]
 (.seq
 (.cond (.t 63)
 .skip
 (.exit 4))
 (.seq
 (.block 5
 (xS [xO 64 (.ia 2 (.t 60) (.t 62)),
xO 65 (.ld 2 true (.t 64)),
xO 10 (.newL [(.slice none 0 0),(.int .i64 0)]),
⟨none,.stB 2 10 (.t 65),none⟩] [2,3,8,10,46,47,48,60,61,62]
 (xS [xO 67 (.faB 0 8),
xO 68 (.ldE 1 false 8 67),
xO 69 (.faB 0 10),
xO 70 (.ldE 1 false 10 69),
xO 71 (.call w8 [(.t 68),(.t 70)]),
xM 66 71,
xO 72 (.ext 0 (.t 66)),
xO 73 (.ext 1 (.t 66)),
xM 11 72,
xM 12 73] [2,3,8,10,11,12,46,47,48,60,61,62]
 (xS [xO 75 (.faB 0 10),
xO 76 (.ldE 1 false 10 75),
xO 77 (.faB 0 8),
xO 78 (.ldE 1 false 8 77),
xO 79 (.call w8 [(.t 76),(.t 78)]),
xM 74 79,
xO 80 (.ext 0 (.t 74)),
xO 81 (.ext 1 (.t 74)),
xM 13 80,
xM 14 81] [2,3,8,11,12,13,46,47,48,60,61,62]
 (xS [xM 82 11,
xO 83 (.un .not (.t 82)),
xM 84 83,
xG 85 (.mov (.t 12)) 84 true,
xG 86 (.un .not (.t 85)) 84 true,
xO 87 (.pick (.t 84) (.t 86) (.c (.bool false))),
xM 88 87,
xG 89 (.mov (.t 13)) 88 true,
xG 90 (.un .not (.t 89)) 88 true,
xO 91 (.pick (.t 88) (.t 90) (.c (.bool false)))] [2,3,8,46,47,48,60,61,62,91]
 (.cond (.t 91)
 (xS [xO 4 (.mov (.c (.bool false)))] [4]
 .ret)
 .skip))))))
 (.seq (.ops [xO 92 (.bin .add (.t 62) (.c (.int .i64 1))),
xM 62 92])
 (.keep [2,3,8,46,47,48,60,61,62])))))))))))
 (.seq (.ops [xO 93 (.bin .add (.t 48) (.c (.int .i64 1))),
xM 48 93])
 (.keep [2,3,46,47,48]))))))))
 (.seq
 (xS [xO 94 (.faB 1 2),
xO 95 (.ldE 1 false 2 94),
xO 96 (.ln (.t 95)),
xO 97 (.mov (.c (.int .i64 0)))] [3,95,96,97]
 (.block 6
 (.loop
 (xS [xO 98 (.bin .lss (.t 97) (.t 96))] [3,95,96,97,98]
 (.seq
 (.cond (.t 98)
 .skip
 (.exit 6))
 (.seq
 (.block 7
 (xS [xO 99 (.ia 5 (.t 95) (.t 97)),
xO 100 (.ld 5 true (.t 99)),
xO 16 (.newL [(.int .i64 0),(.int .i64 0),(.int .i64 0),(.int .i64 0),(.int .i64 0)]),
⟨none,.stB 5 16 (.t 100),none⟩] [3,16,95,96,97]
 (xS [xO 101 (.ldB 5 true 16),
xO 102 (.ldB 2 true 3),
xO 103 (.call vE [(.t 101),(.t 102)]),
xO 104 (.bin .lss (.t 103) (.c (.int .i64 0)))] [3,95,96,97,104]
 (.cond (.t 104)
 (xS [xO 4 (.mov (.c (.bool false)))] [4]
 .ret)
 .skip))))
 (.seq (.ops [xO 105 (.bin .add (.t 97) (.c (.int .i64 1))),
xM 97 105])
 (.keep [3,95,96,97]))))))))
 (xS [xO 4 (.mov (.c (.bool true)))] [4]
 .ret)))))),
 [(.slot 4)]⟩
def W4 : Fun := ⟨2,
(xS [xO 2 (.boxL 2 (.t 0)),
xO 3 (.boxL 2 (.t 1)),
xO 4 (.mov (.c (.bool false)))] [2,3]
 (.seq
 (xS [xO 11 (.ldB 2 true 2),
xO 12 (.call Qv [(.t 11)]),
xO 13 (.un .not (.t 12)),
xM 14 13,
xG 15 (.faB 0 3) 14 false,
xG 16 (.ldE 1 false 3 15) 14 false,
xG 17 (.ln (.t 16)) 14 false,
xG 18 (.faB 0 2) 14 false,
xG 19 (.ldE 1 false 2 18) 14 false,
xG 20 (.bin .neq (.t 17) (.t 19)) 14 false,
xO 21 (.pick (.t 14) (.c (.bool true)) (.t 20)),
xM 22 21,
xG 23 (.faB 1 3) 22 false,
xG 24 (.ldE 1 false 3 23) 22 false,
xG 25 (.ln (.t 24)) 22 false,
xG 26 (.bin .gtr (.t 25) (.c (.int .i64 8))) 22 false,
xO 27 (.pick (.t 22) (.c (.bool true)) (.t 26))] [2,3,27]
 (.cond (.t 27)
 (xS [xO 4 (.mov (.c (.bool false)))] [4]
 .ret)
 .skip))
 (.seq
 (xS [xO 5 (.mov (.c (.int .i64 0)))] [2,3,5]
 (.block 0
 (.loop
 (.seq
 (xS [xM 28 5,
xO 29 (.faB 0 3),
xO 30 (.ldE 1 false 3 29),
xO 31 (.ln (.t 30)),
xO 32 (.bin .lss (.t 28) (.t 31))] [2,3,5,32]
 (.cond (.t 32)
 .skip
 (.exit 0)))
 (.seq
 (.block 1
 (xS [xO 35 (.faB 0 3),
xO 36 (.ldE 1 false 3 35),
xM 37 5,
xO 38 (.ia 1 (.t 36) (.t 37)),
xO 39 (.ld 1 false (.t 38)),
xO 40 (.call qA [(.t 39),(.c (.int .i64 0)),(.c (.int .i64 1000000000))]),
xO 41 (.un .not (.t 40))] [2,3,5,41]
 (.cond (.t 41)
 (xS [xO 4 (.mov (.c (.bool false)))] [4]
 .ret)
 .skip)))
 (.seq (.ops [xM 33 5,
xO 34 (.bin .add (.t 33) (.c (.int .i64 1))),
xM 5 34])
 (.keep [2,3,5])))))))
 (.seq
 (xS [xO 6 (.mov (.c (.int .i64 0)))] [2,3,6]
 (.block 2
 (.loop
 (.seq
 (xS [xM 42 6,
xO 43 (.faB 1 3),
xO 44 (.ldE 1 false 3 43),
xO 45 (.ln (.t 44)),
xO 46 (.bin .lss (.t 42) (.t 45))] [2,3,6,46]
 (.cond (.t 46)
 .skip
 (.exit 2)))
 (.seq
 (.block 3
 (xS [xO 49 (.faB 1 3),
xO 50 (.ldE 1 false 3 49),
xM 51 6,
xO 52 (.ia 2 (.t 50) (.t 51)),
xO 53 (.ld 2 true (.t 52)),
xO 7 (.newL [(.slice none 0 0),(.int .i64 0)]),
⟨none,.stB 2 7 (.t 53),none⟩] [2,3,6,7]
 (.seq
 (xS [xO 54 (.faB 0 7),
xO 55 (.ldE 1 false 7 54),
xO 56 (.ln (.t 55)),
xO 57 (.bin .lss (.t 56) (.c (.int .i64 3))),
xM 58 57,
xG 59 (.faB 0 7) 58 false,
xG 60 (.ldE 1 false 7 59) 58 false,
xG 61 (.ln (.t 60)) 58 false,
xG 62 (.bin .rem (.t 61) (.c (.int .i64 2))) 58 false,
xG 63 (.bin .eql (.t 62) (.c (.int .i64 0))) 58 false,
xO 64 (.pick (.t 58) (.c (.bool true)) (.t 63)),
xM 65 64,
xG 66 (.faB 0 7) 65 false,
xG 67 (.ldE 1 false 7 66) 65 false,
xG 68 (.ln (.t 67)) 65 false,
xG 69 (.faB 0 2) 65 false,
xG 70 (.ldE 1 false 2 69) 65 false,
xG 71 (.bin .gtr (.t 68) (.t 70)) 65 false,
xO 72 (.pick (.t 65) (.c (.bool true)) (.t 71)),
xM 73 72,
xG 74 (.faB 1 7) 73 false,
xG 75 (.ldE 1 false 7 74) 73 false,
xG 76 (.call qA [(.t 75),(.c (.int .i64 1)),(.c (.int .i64 1000000000))]) 73 false,
xG 77 (.un .not (.t 76)) 73 false,
xO 78 (.pick (.t 73) (.c (.bool true)) (.t 77))] [2,3,6,7,78]
 (.cond (.t 78)
 (xS [xO 4 (.mov (.c (.bool false)))] [4]
 .ret)
 .skip))
 (.seq
 (xS [xO 8 (.mov (.c (.int .i64 0)))] [2,3,6,7,8]
 (.block 4
 (.loop
 (.seq
 (xS [xM 79 8,
xO 80 (.faB 0 7),
xO 81 (.ldE 1 false 7 80),
xO 82 (.ln (.t 81)),
xO 83 (.bin .lss (.t 79) (.t 82))] [2,3,6,7,8,83]
 (.cond (.t 83)
 .skip
 (.exit 4)))
 (.seq
 (.block 5
 (.seq
 (.seq (.free true [xO 86 (.faB 0 7),
xO 87 (.ldE 1 false 7 86),
xM 88 8,
xO 89 (.ia 1 (.t 87) (.t 88)),
xO 90 (.ld 1 false (.t 89)),
xO 91 (.faB 0 2),
xO 92 (.ldE 1 false 2 91),
xO 93 (.bin .sub (.t 92) (.c (.int .i64 1))),
xO 94 (.call qA [(.t 90),(.c (.int .i64 0)),(.t 93)]),
xO 95 (.un .not (.t 94)),
xM 96 95,
xG 97 (.mov (.t 8)) 96 false,
xG 98 (.bin .gtr (.t 97) (.c (.int .i64 0))) 96 false,
xG 99 (.mov (.t 98)) 96 false,
xG 100 (.faB 0 7) 99 true,
xG 101 (.ldE 1 false 7 100) 99 true,
xG 102 (.mov (.t 8)) 99 true,
xG 103 (.bin .sub (.t 102) (.c (.int .i64 1))) 99 true,
xG 104 (.ia 1 (.t 101) (.t 103)) 99 true,
xG 105 (.ld 1 false (.t 104)) 99 true,
xG 106 (.faB 0 7) 99 true,
xG 107 (.ldE 1 false 7 106) 99 true,
xG 108 (.mov (.t 8)) 99 true,
xG 109 (.ia 1 (.t 107) (.t 108)) 99 true,
xG 110 (.ld 1 false (.t 109)) 99 true,
xG 111 (.bin .geq (.t 105) (.t 110)) 99 true,
xG 112 (.pick (.t 99) (.t 111) (.c (.bool false))) 96 false,
xO 113 (.pick (.t 96) (.c (.bool true)) (.t 112))])
 (.keep [2,3,6,7,8,113]))
 (.cond (.t 113)
 (xS [xO 4 (.mov (.c (.bool false)))] [4]
 .ret)
 .skip)))
 (.seq (.ops [xM 84 8,
xO 85 (.bin .add (.t 84) (.c (.int .i64 1))),
xM 8 85])
 (.keep [2,3,6,7,8])))))))
 (xS [xO 9 (.mov (.c (.int .i64 0)))] [2,3,6,7,9]
 (.block 6
 (.loop
 (.seq
 (xS [xM 114 9,
xM 115 6,
xO 116 (.bin .lss (.t 114) (.t 115))] [2,3,6,7,9,116]
 (.cond (.t 116)
 .skip
 (.exit 6)))
 (.seq
 (.block 7
 (.seq
 (.seq (.free true [xO 119 (.faB 1 3),
xO 120 (.ldE 1 false 3 119),
xM 121 9,
xO 122 (.ia 2 (.t 120) (.t 121)),
xO 123 (.fa 0 (.t 122)),
xO 124 (.ld 1 false (.t 123)),
xO 125 (.faB 0 7),
xO 126 (.ldE 1 false 7 125),
xO 127 (.call wK [(.t 124),(.t 126)]),
xO 128 (.un .not (.t 127))])
 (.keep [2,3,6,7,9,128]))
 (.cond (.t 128)
 (xS [xO 4 (.mov (.c (.bool false)))] [4]
 .ret)
 .skip)))
 (.seq (.ops [xM 117 9,
xO 118 (.bin .add (.t 117) (.c (.int .i64 1))),
xM 9 118])
 (.keep [2,3,6,7,9])))))))))))
 (.seq (.ops [xM 47 6,
xO 48 (.bin .add (.t 47) (.c (.int .i64 1))),
xM 6 48])
 (.keep [2,3,6])))))))
 (.seq
 (xS [xO 10 (.mov (.c (.int .i64 0)))] [2,3,10]
 (.block 8
 (.loop
 (.seq
 (xS [xM 129 10,
xO 130 (.faB 1 2),
xO 131 (.ldE 1 false 2 130),
xO 132 (.ln (.t 131)),
xO 133 (.bin .lss (.t 129) (.t 132))] [2,3,10,133]
 (.cond (.t 133)
 .skip
 (.exit 8)))
 (.seq
 (.block 9
 (.seq
 (.seq (.free true [xO 136 (.ldB 2 true 3),
xO 137 (.faB 1 2),
xO 138 (.ldE 1 false 2 137),
xM 139 10,
xO 140 (.ia 5 (.t 138) (.t 139)),
xO 141 (.ld 5 true (.t 140)),
xO 142 (.call WA [(.t 136),(.t 141)]),
xO 143 (.bin .lss (.t 142) (.c (.int .i64 0)))])
 (.keep [2,3,10,143]))
 (.cond (.t 143)
 (xS [xO 4 (.mov (.c (.bool false)))] [4]
 .ret)
 .skip)))
 (.seq (.ops [xM 134 10,
xO 135 (.bin .add (.t 134) (.c (.int .i64 1))),
xM 10 135])
 (.keep [2,3,10])))))))
 (xS [xO 4 (.mov (.c (.bool true)))] [4]
 .ret)))))),
 [(.slot 4)]⟩
def VX : Fun := ⟨1,
(xS [xO 1 (.boxL 2 (.t 0)),
xO 2 (.mov (.c (.slice none 0 0))),
xO 3 (.newL [(.slice none 0 0),(.slice none 0 0)]),
xO 4 (.mov (.c (.bool false)))] [1,3]
 (.seq
 (xS [xO 13 (.ldB 2 true 1),
xO 14 (.call Qv [(.t 13)]),
xO 15 (.un .not (.t 14))] [1,3,15]
 (.cond (.t 15)
 (xS [xO 16 (.lit 0 2 Zl [(.int .i64 0),(.int .i64 0)] []),
xO 17 (.bld [(.slice none 0 0),(.slice none 0 0)] []),
xM 2 16,
⟨none,.stB 2 3 (.t 17),none⟩,
xO 4 (.mov (.c (.bool false)))] [2,3,4]
 .ret)
 .skip))
 (xS [xO 18 (.ldB 2 true 1),
xO 19 (.call QW [(.t 18)]),
xM 5 19] [1,3,5]
 (xS [xO 20 (.lit 0 1 zf [(.int .i64 0)] []),
xM 21 5,
xO 22 (.chk (.t 21)),
xO 23 (.fa 2 (.t 22)),
xO 24 (.ld 1 false (.t 23)),
xO 25 (.app 1 zf 8 (.t 20) (.t 24)),
xM 26 5,
xO 27 (.call Qz [(.t 26)]),
xO 28 (.bld [(.slice none 0 0),(.slice none 0 0)] [(0,(1,(.t 25))),(1,(1,(.t 27)))]),
xO 6 (.newL [(.slice none 0 0),(.slice none 0 0)]),
⟨none,.stB 2 6 (.t 28),none⟩] [1,3,5,6]
 (.seq
 (xS [xO 7 (.mov (.c (.int .i64 0)))] [1,3,5,6,7]
 (.block 0
 (.loop
 (.seq
 (xS [xM 29 7,
xM 30 5,
xO 31 (.chk (.t 30)),
xO 32 (.fa 3 (.t 31)),
xO 33 (.ld 1 false (.t 32)),
xO 34 (.ln (.t 33)),
xO 35 (.bin .lss (.t 29) (.t 34))] [1,3,5,6,7,35]
 (.cond (.t 35)
 .skip
 (.exit 0)))
 (.seq
 (.block 1
 (xS [xM 38 5,
xO 39 (.chk (.t 38)),
xO 40 (.fa 0 (.t 39)),
xO 41 (.fa 0 (.t 40)),
xO 42 (.ld 1 false (.t 41)),
xM 8 42] [1,3,5,6,7,8]
 (.block 2
 (.loop
 (.seq
 (xS [xM 43 8,
xM 44 5,
xO 45 (.chk (.t 44)),
xO 46 (.fa 3 (.t 45)),
xO 47 (.ld 1 false (.t 46)),
xO 48 (.ln (.t 47)),
xO 49 (.bin .lss (.t 43) (.t 48))] [1,3,5,6,7,8,49]
 (.cond (.t 49)
 .skip
 (.exit 2)))
 (.seq
 (.block 3
 (xS [xM 52 5,
xM 53 8,
xO 54 (.call Z0 [(.t 52),(.t 53)])] [1,3,5,6,7,8,54]
 (.cond (.t 54)
 (.seq (.ops [xM 55 5,
xM 56 8,
xO 57 (.call qe [(.t 55),(.t 56)])])
 (.keep [1,3,5,6,7,8]))
 .skip)))
 (.seq (.ops [xM 50 8,
xO 51 (.bin .add (.t 50) (.c (.int .i64 1))),
xM 8 51])
 (.keep [1,3,5,6,7,8]))))))))
 (.seq (.ops [xM 36 7,
xO 37 (.bin .add (.t 36) (.c (.int .i64 1))),
xM 7 37])
 (.keep [1,3,5,6,7])))))))
 (xS [xO 58 (.lit 0 2 Zl [(.int .i64 0),(.int .i64 0)] []),
xM 9 58] [1,3,5,6,9]
 (.seq
 (xS [xO 10 (.mov (.c (.int .i64 0)))] [1,3,5,6,9,10]
 (.block 4
 (.loop
 (.seq
 (xS [xM 59 10,
xO 60 (.faB 0 1),
xO 61 (.ldE 1 false 1 60),
xO 62 (.bin .lss (.t 59) (.t 61))] [1,3,5,6,9,10,62]
 (.cond (.t 62)
 .skip
 (.exit 4)))
 (.seq
 (.block 5
 (xS [xO 11 (.mov (.c (.int .i64 0)))] [1,3,5,6,9,10,11]
 (.block 6
 (.loop
 (.seq
 (xS [xM 65 11,
xM 66 5,
xO 67 (.chk (.t 66)),
xO 68 (.fa 4 (.t 67)),
xO 69 (.ld 1 false (.t 68)),
xO 70 (.ln (.t 69)),
xO 71 (.bin .lss (.t 65) (.t 70))] [1,3,5,6,9,10,11,71]
 (.cond (.t 71)
 .skip
 (.exit 6)))
 (.seq
 (.block 7
 (xS [xM 74 5,
xO 75 (.chk (.t 74)),
xO 76 (.fa 4 (.t 75)),
xO 77 (.ld 1 false (.t 76)),
xM 78 11,
xO 79 (.ia 2 (.t 77) (.t 78)),
xO 80 (.ld 2 true (.t 79)),
xO 12 (.newL [(.int .i64 0),(.int .i64 0)]),
⟨none,.stB 2 12 (.t 80),none⟩] [1,3,5,6,9,10,11,12]
 (.seq
 (xS [xO 81 (.faB 0 12),
xO 82 (.ldE 1 false 12 81),
xM 83 10,
xO 84 (.bin .eql (.t 82) (.t 83)),
xM 85 84,
xG 86 (.faB 1 12) 85 true,
xG 87 (.ldE 1 false 12 86) 85 true,
xG 88 (.mov (.t 10)) 85 true,
xG 89 (.bin .gtr (.t 87) (.t 88)) 85 true,
xO 90 (.pick (.t 85) (.t 89) (.c (.bool false)))] [1,3,5,6,9,10,11,12,90]
 (.cond (.t 90)
 (.seq (.ops [xM 91 9,
xM 92 10,
xO 93 (.faB 1 12),
xO 94 (.ldE 1 false 12 93),
xO 95 (.bld [(.int .i64 0),(.int .i64 0)] [(0,(1,(.t 92))),(1,(1,(.t 94)))]),
xO 96 (.litL 1 2 [(.int .i64 0),(.int .i64 0)] [(0,(.t 95))]),
xO 97 (.appL 2 Zl 16 1 (.t 91) 96),
xM 9 97])
 (.keep [1,3,5,6,9,10,11,12]))
 .skip))
 (xS [xO 98 (.faB 1 12),
xO 99 (.ldE 1 false 12 98),
xM 100 10,
xO 101 (.bin .eql (.t 99) (.t 100)),
xM 102 101,
xG 103 (.faB 0 12) 102 true,
xG 104 (.ldE 1 false 12 103) 102 true,
xG 105 (.mov (.t 10)) 102 true,
xG 106 (.bin .gtr (.t 104) (.t 105)) 102 true,
xO 107 (.pick (.t 102) (.t 106) (.c (.bool false)))] [1,3,5,6,9,10,11,12,107]
 (.cond (.t 107)
 (.seq (.ops [xM 108 9,
xM 109 10,
xO 110 (.faB 0 12),
xO 111 (.ldE 1 false 12 110),
xO 112 (.bld [(.int .i64 0),(.int .i64 0)] [(0,(1,(.t 109))),(1,(1,(.t 111)))]),
xO 113 (.litL 1 2 [(.int .i64 0),(.int .i64 0)] [(0,(.t 112))]),
xO 114 (.appL 2 Zl 16 1 (.t 108) 113),
xM 9 114])
 (.keep [1,3,5,6,9,10,11]))
 .skip)))))
 (.seq (.ops [xM 72 11,
xO 73 (.bin .add (.t 72) (.c (.int .i64 1))),
xM 11 73])
 (.keep [1,3,5,6,9,10,11]))))))))
 (.seq (.ops [xM 63 10,
xO 64 (.bin .add (.t 63) (.c (.int .i64 1))),
xM 10 64])
 (.keep [1,3,5,6,9,10])))))))
 (.seq
 (.seq (.free true [xM 115 9,
xO 116 (.ldB 2 true 6),
xM 2 115,
⟨none,.stB 2 3 (.t 116),none⟩,
xO 4 (.mov (.c (.bool true)))])
 (.keep [2,3,4]))
 .ret)))))))),
 [(.slot 2),(.box 3 2 true),(.slot 4)]⟩
def wo : Fun := ⟨3,
(xS [xO 3 (.boxL 2 (.t 0)),
xO 5 (.boxL 2 (.t 2)),
xO 6 (.mov (.c (.bool false)))] [1,3,5]
 (.seq
 (xS [xO 10 (.ldB 2 true 3),
xO 11 (.ldB 2 true 5),
xO 12 (.call vw [(.t 10),(.t 11)]),
xO 13 (.un .not (.t 12)),
xM 14 13,
xG 15 (.ldB 2 true 3) 14 false,
xG 16 (.mov (.t 1)) 14 false,
xG 17 (.call vu [(.t 15),(.t 16)]) 14 false,
xG 18 (.un .not (.t 17)) 14 false,
xO 19 (.pick (.t 14) (.c (.bool true)) (.t 18))] [1,3,5,19]
 (.cond (.t 19)
 (xS [xO 6 (.mov (.c (.bool false)))] [6]
 .ret)
 .skip))
 (xS [xO 7 (.mov (.c (.int .i64 0)))] [1,3,5,7]
 (.seq
 (xS [xM 20 1,
xO 21 (.ln (.t 20)),
xO 22 (.mov (.c (.int .i64 0)))] [3,5,7,20,21,22]
 (.block 0
 (.loop
 (xS [xO 23 (.bin .lss (.t 22) (.t 21))] [3,5,7,20,21,22,23]
 (.seq
 (.cond (.t 23)
 .skip
 (.exit 0))
 (.seq
 (.block 1
 (xS [xO 24 (.ia 2 (.t 20) (.t 22)),
xO 25 (.ld 2 true (.t 24)),
xO 9 (.newL [(.int .i64 0),(.int .i64 0)]),
⟨none,.stB 2 9 (.t 25),none⟩] [3,5,7,9,20,21,22]
 (.seq (.free true [xM 26 7,
xO 27 (.faB 1 3),
xO 28 (.ldE 1 false 3 27),
xO 29 (.ldB 2 true 3),
xO 30 (.faB 0 9),
xO 31 (.ldE 1 false 9 30),
xO 32 (.faB 1 9),
xO 33 (.ldE 1 false 9 32),
xO 34 (.call w7 [(.t 29),(.t 31),(.t 33)]),
xO 35 (.ia 5 (.t 28) (.t 34)),
xO 36 (.ld 5 true (.t 35)),
xO 37 (.call w6 [(.t 36)]),
xO 38 (.bin .add (.t 26) (.t 37)),
xM 7 38])
 (.keep [3,5,7,20,21,22]))))
 (.seq (.ops [xO 39 (.bin .add (.t 22) (.c (.int .i64 1))),
xM 22 39])
 (.keep [3,5,7,20,21,22]))))))))
 (xS [xM 40 7,
xO 41 (.bin .mul (.c (.int .i64 2)) (.t 40)),
xO 42 (.ldB 2 true 5),
xO 43 (.call Vz [(.t 42)]),
xO 44 (.bin .eql (.t 41) (.t 43)),
xM 6 44] [6]
 .ret))))),
 [(.slot 6)]⟩
def ww : Fun := ⟨3,
(xS [xO 3 (.boxL 2 (.t 0)),
xO 5 (.boxL 2 (.t 2)),
xO 6 (.mov (.c (.bool false)))] [1,3,5]
 (.seq
 (.seq (.free true [xO 7 (.ldB 2 true 3),
xO 8 (.ldB 2 true 5),
xO 9 (.call vH [(.t 7),(.t 8)]),
xM 10 9,
xG 11 (.ldB 2 true 3) 10 true,
xG 12 (.mov (.t 1)) 10 true,
xG 13 (.call vG [(.t 11),(.t 12)]) 10 true,
xO 14 (.pick (.t 10) (.t 13) (.c (.bool false))),
xM 15 14,
xG 16 (.ldB 2 true 3) 15 true,
xG 17 (.mov (.t 1)) 15 true,
xG 18 (.call WB [(.t 16),(.t 17)]) 15 true,
xG 19 (.bin .mul (.c (.int .i64 2)) (.t 18)) 15 true,
xG 20 (.ldB 2 true 5) 15 true,
xG 21 (.call VA [(.t 20)]) 15 true,
xG 22 (.bin .eql (.t 19) (.t 21)) 15 true,
xO 23 (.pick (.t 15) (.t 22) (.c (.bool false))),
xM 6 23])
 (.keep [6]))
 .ret)),
 [(.slot 6)]⟩
def W3 : Fun := ⟨2,
(xS [xO 2 (.boxL 2 (.t 0)),
xO 4 (.mov (.c (.bool false)))] [1,2]
 (.seq
 (xS [xO 8 (.ldB 2 true 2),
xO 9 (.call Qv [(.t 8)]),
xO 10 (.un .not (.t 9)),
xM 11 10,
xG 12 (.mov (.t 1)) 11 false,
xG 13 (.ln (.t 12)) 11 false,
xG 14 (.bin .gtr (.t 13) (.c (.int .i64 9))) 11 false,
xO 15 (.pick (.t 11) (.c (.bool true)) (.t 14))] [1,2,15]
 (.cond (.t 15)
 (xS [xO 4 (.mov (.c (.bool false)))] [4]
 .ret)
 .skip))
 (xS [xO 16 (.lit 0 1 zf [(.int .i64 0)] []),
xM 5 16] [1,2,5]
 (.seq
 (xS [xO 6 (.mov (.c (.int .i64 0)))] [1,2,5,6]
 (.block 0
 (.loop
 (.seq
 (xS [xM 17 6,
xM 18 1,
xO 19 (.ln (.t 18)),
xO 20 (.bin .lss (.t 17) (.t 19))] [1,2,5,6,20]
 (.cond (.t 20)
 .skip
 (.exit 0)))
 (.seq
 (.block 1
 (xS [xM 23 1,
xM 24 6,
xO 25 (.ia 2 (.t 23) (.t 24)),
xO 26 (.ld 2 true (.t 25)),
xO 7 (.newL [(.int .i64 0),(.int .i64 0)]),
⟨none,.stB 2 7 (.t 26),none⟩] [1,2,5,6,7]
 (.seq
 (.seq
 (.seq (.free true [xO 27 (.faB 0 7),
xO 28 (.ldE 1 false 7 27),
xO 29 (.faB 1 7),
xO 30 (.ldE 1 false 7 29),
xO 31 (.bin .geq (.t 28) (.t 30)),
xM 32 31,
xG 33 (.mov (.t 6)) 32 false,
xG 34 (.bin .gtr (.t 33) (.c (.int .i64 0))) 32 false,
xG 35 (.mov (.t 34)) 32 false,
xG 36 (.mov (.t 1)) 35 true,
xG 37 (.mov (.t 6)) 35 true,
xG 38 (.bin .sub (.t 37) (.c (.int .i64 1))) 35 true,
xG 39 (.ia 2 (.t 36) (.t 38)) 35 true,
xG 40 (.fa 0 (.t 39)) 35 true,
xG 41 (.ld 1 false (.t 40)) 35 true,
xG 42 (.faB 0 7) 35 true,
xG 43 (.ldE 1 false 7 42) 35 true,
xG 44 (.bin .geq (.t 41) (.t 43)) 35 true,
xG 45 (.pick (.t 35) (.t 44) (.c (.bool false))) 32 false,
xO 46 (.pick (.t 32) (.c (.bool true)) (.t 45)),
xM 47 46,
xG 48 (.ldB 2 true 2) 47 false,
xG 49 (.faB 0 7) 47 false,
xG 50 (.ldE 1 false 7 49) 47 false,
xG 51 (.faB 1 7) 47 false,
xG 52 (.ldE 1 false 7 51) 47 false,
xG 53 (.call vJ [(.t 48),(.t 50),(.t 52)]) 47 false,
xG 54 (.bin .lss (.t 53) (.c (.int .i64 0))) 47 false,
xO 55 (.pick (.t 47) (.c (.bool true)) (.t 54)),
xM 56 55,
xG 57 (.mov (.t 5)) 56 false,
xG 58 (.faB 0 7) 56 false,
xG 59 (.ldE 1 false 7 58) 56 false,
xG 60 (.call ZH [(.t 57),(.t 59)]) 56 false,
xO 61 (.pick (.t 56) (.c (.bool true)) (.t 60)),
xM 62 61,
xG 63 (.mov (.t 5)) 62 false,
xG 64 (.faB 1 7) 62 false,
xG 65 (.ldE 1 false 7 64) 62 false,
xG 66 (.call ZH [(.t 63),(.t 65)]) 62 false,
xO 67 (.pick (.t 62) (.c (.bool true)) (.t 66))])
 (.keep [1,2,5,6,7,67]))
 (.cond (.t 67)
 (xS [xO 4 (.mov (.c (.bool false)))] [4]
 .ret)
 .skip))
 (.seq (.ops [xM 68 5,
xO 69 (.faB 0 7),
xO 70 (.ldE 1 false 7 69),
xO 71 (.faB 1 7),
xO 72 (.ldE 1 false 7 71),
xO 73 (.litL 2 1 [(.int .i64 0)] [(0,(.t 70)),(1,(.t 72))]),
xO 74 (.appL 1 zf 8 2 (.t 68) 73),
xM 5 74])
 (.keep [1,2,5,6])))))
 (.seq (.ops [xM 21 6,
xO 22 (.bin .add (.t 21) (.c (.int .i64 1))),
xM 6 22])
 (.keep [1,2,5,6])))))))
 (xS [xO 4 (.mov (.c (.bool true)))] [4]
 .ret))))),
 [(.slot 4)]⟩
def We : Fun := ⟨2,
(xS [xO 4 (.mov (.c (.bool false)))] [0,1]
 (.seq
 (xS [xM 6 0,
xO 7 (.ln (.t 6)),
xM 8 1,
xO 9 (.ln (.t 8)),
xO 10 (.bin .neq (.t 7) (.t 9))] [0,1,10]
 (.cond (.t 10)
 (xS [xO 4 (.mov (.c (.bool false)))] [4]
 .ret)
 .skip))
 (.seq
 (xS [xO 5 (.mov (.c (.int .i64 0)))] [0,1,5]
 (.block 0
 (.loop
 (.seq
 (xS [xM 11 5,
xM 12 0,
xO 13 (.ln (.t 12)),
xO 14 (.bin .lss (.t 11) (.t 13))] [0,1,5,14]
 (.cond (.t 14)
 .skip
 (.exit 0)))
 (.seq
 (.block 1
 (.seq
 (.seq (.free true [xM 17 0,
xM 18 5,
xO 19 (.ia 1 (.t 17) (.t 18)),
xO 20 (.ld 1 false (.t 19)),
xM 21 1,
xM 22 5,
xO 23 (.ia 1 (.t 21) (.t 22)),
xO 24 (.ld 1 false (.t 23)),
xO 25 (.bin .neq (.t 20) (.t 24))])
 (.keep [0,1,5,25]))
 (.cond (.t 25)
 (xS [xO 4 (.mov (.c (.bool false)))] [4]
 .ret)
 .skip)))
 (.seq (.ops [xM 15 5,
xO 16 (.bin .add (.t 15) (.c (.int .i64 1))),
xM 5 16])
 (.keep [0,1,5])))))))
 (xS [xO 4 (.mov (.c (.bool true)))] [4]
 .ret)))),
 [(.slot 4)]⟩
def Qn : Fun := ⟨1,
(xS [xO 2 (.newL [(.int .i64 0),(.slice none 0 0),(.slice none 0 0),(.slice none 0 0),(.slice none 0 0)])] [0,2]
 (xS [xM 3 0,
xO 4 (.call Qi [(.t 3)]),
xO 5 (.call QC [(.t 4)]),
⟨none,.stB 5 2 (.t 5),none⟩] [2]
 .ret)),
 [(.box 2 5 true)]⟩
def Wc : Fun := ⟨1,
(xS [xO 1 (.boxL 5 (.t 0)),
xO 2 (.mov (.c (.string ⟨⟨[]⟩⟩))),
xO 3 (.mov (.c (.bool false)))] [1]
 (.seq
 (xS [xO 11 (.faB 0 1),
xO 12 (.ldE 2 true 1 11),
xO 13 (.faB 2 1),
xO 14 (.ldE 1 false 1 13),
xO 15 (.faB 3 1),
xO 16 (.ldE 2 true 1 15),
xO 17 (.call Qt [(.t 12),(.t 14),(.t 16)]),
xO 18 (.un .not (.t 17))] [1,18]
 (.cond (.t 18)
 (xS [xO 2 (.mov (.c (.string ⟨⟨[]⟩⟩))),
xO 3 (.mov (.c (.bool false)))] [2,3]
 .ret)
 .skip))
 (xS [xO 19 (.faB 0 1),
xO 20 (.faE 0 1 19),
xO 21 (.ldE 1 false 1 20),
xO 22 (.faB 0 1),
xO 23 (.faE 1 1 22),
xO 24 (.ldE 1 false 1 23),
xO 25 (.ln (.t 24)),
xO 26 (.litL 2 1 [(.int .i64 0)] [(0,(.t 21)),(1,(.t 25))]),
xO 27 (.callL Zk 2 1 zf 26),
xM 4 27] [1,4]
 (.seq
 (xS [xO 28 (.faB 0 1),
xO 29 (.faE 1 1 28),
xO 30 (.ldE 1 false 1 29),
xO 31 (.ln (.t 30)),
xO 32 (.mov (.c (.int .i64 0)))] [1,4,30,31,32]
 (.block 0
 (.loop
 (xS [xO 33 (.bin .lss (.t 32) (.t 31))] [1,4,30,31,32,33]
 (.seq
 (.cond (.t 33)
 .skip
 (.exit 0))
 (.seq
 (.block 1
 (xS [xO 34 (.ia 5 (.t 30) (.t 32)),
xO 35 (.ld 5 true (.t 34)),
xO 6 (.newL [(.int .i64 0),(.int .i64 0),(.int .i64 0),(.int .i64 0),(.int .i64 0)]),
⟨none,.stB 5 6 (.t 35),none⟩] [1,4,6,30,31,32]
 (.seq (.ops [xM 36 4,
xO 37 (.faB 0 6),
xO 38 (.ldE 1 false 6 37),
xO 39 (.faB 1 6),
xO 40 (.ldE 1 false 6 39),
xO 41 (.faB 2 6),
xO 42 (.ldE 1 false 6 41),
xO 43 (.faB 3 6),
xO 44 (.ldE 1 false 6 43),
xO 45 (.faB 4 6),
xO 46 (.ldE 1 false 6 45),
xO 47 (.litL 5 1 [(.int .i64 0)] [(0,(.t 38)),(1,(.t 40)),(2,(.t 42)),(3,(.t 44)),(4,(.t 46))]),
xO 48 (.callL Zk 5 1 zf 47),
xO 49 (.bin .add (.t 36) (.t 48)),
xM 4 49])
 (.keep [1,4,30,31,32]))))
 (.seq (.ops [xO 50 (.bin .add (.t 32) (.c (.int .i64 1))),
xM 32 50])
 (.keep [1,4,30,31,32]))))))))
 (xS [xM 51 4,
xO 52 (.faB 2 1),
xO 53 (.ldE 1 false 1 52),
xO 54 (.ln (.t 53)),
xO 55 (.litL 1 1 [(.int .i64 0)] [(0,(.t 54))]),
xO 56 (.callL Zk 1 1 zf 55),
xO 57 (.bin .add (.t 51) (.t 56)),
xM 4 57] [1,4]
 (.seq
 (xS [xO 58 (.faB 2 1),
xO 59 (.ldE 1 false 1 58),
xO 60 (.ln (.t 59)),
xO 61 (.mov (.c (.int .i64 0)))] [1,4,59,60,61]
 (.block 2
 (.loop
 (xS [xO 62 (.bin .lss (.t 61) (.t 60))] [1,4,59,60,61,62]
 (.seq
 (.cond (.t 62)
 .skip
 (.exit 2))
 (.seq
 (.block 3
 (xS [xO 63 (.ia 2 (.t 59) (.t 61)),
xO 64 (.ld 2 true (.t 63)),
xO 8 (.newL [(.int .i64 0),(.int .i64 0)]),
⟨none,.stB 2 8 (.t 64),none⟩] [1,4,8,59,60,61]
 (.seq (.ops [xM 65 4,
xO 66 (.faB 0 8),
xO 67 (.ldE 1 false 8 66),
xO 68 (.faB 1 8),
xO 69 (.ldE 1 false 8 68),
xO 70 (.litL 2 1 [(.int .i64 0)] [(0,(.t 67)),(1,(.t 69))]),
xO 71 (.callL Zk 2 1 zf 70),
xO 72 (.bin .add (.t 65) (.t 71)),
xM 4 72])
 (.keep [1,4,59,60,61]))))
 (.seq (.ops [xO 73 (.bin .add (.t 61) (.c (.int .i64 1))),
xM 61 73])
 (.keep [1,4,59,60,61]))))))))
 (.seq
 (.seq (.free false [xM 74 4,
xO 75 (.faB 3 1),
xO 76 (.faE 0 1 75),
xO 77 (.ldE 1 false 1 76),
xO 78 (.call Zk [(.t 77)]),
xO 79 (.faB 3 1),
xO 80 (.faE 1 1 79),
xO 81 (.ldE 1 false 1 80),
xO 82 (.ln (.t 81)),
xO 83 (.litL 1 1 [(.int .i64 0)] [(0,(.t 82))]),
xO 84 (.callL Zk 1 1 zf 83),
xO 85 (.bin .add (.t 78) (.t 84)),
xO 86 (.bin .add (.t 74) (.t 85)),
xM 4 86])
 (.keep [1,4]))
 (.seq
 (xS [xO 87 (.faB 3 1),
xO 88 (.faE 1 1 87),
xO 89 (.ldE 1 false 1 88),
xO 90 (.ln (.t 89)),
xO 91 (.mov (.c (.int .i64 0)))] [4,89,90,91]
 (.block 4
 (.loop
 (xS [xO 92 (.bin .lss (.t 91) (.t 90))] [4,89,90,91,92]
 (.seq
 (.cond (.t 92)
 .skip
 (.exit 4))
 (.seq
 (.block 5
 (xS [xO 93 (.ia 2 (.t 89) (.t 91)),
xO 94 (.ld 2 true (.t 93)),
xO 10 (.newL [(.slice none 0 0),(.int .i64 0)]),
⟨none,.stB 2 10 (.t 94),none⟩] [4,10,89,90,91]
 (.seq (.free true [xM 95 4,
xO 96 (.faB 0 10),
xO 97 (.ldE 1 false 10 96),
xO 98 (.ln (.t 97)),
xO 99 (.litL 1 1 [(.int .i64 0)] [(0,(.t 98))]),
xO 100 (.callL Zk 1 1 zf 99),
xO 101 (.faB 0 10),
xO 102 (.ldE 1 false 10 101),
xO 103 (.call Zk [(.t 102)]),
xO 104 (.bin .add (.t 100) (.t 103)),
xO 105 (.faB 1 10),
xO 106 (.ldE 1 false 10 105),
xO 107 (.litL 1 1 [(.int .i64 0)] [(0,(.t 106))]),
xO 108 (.callL Zk 1 1 zf 107),
xO 109 (.bin .add (.t 104) (.t 108)),
xO 110 (.bin .add (.t 95) (.t 109)),
xM 4 110])
 (.keep [4,89,90,91]))))
 (.seq (.ops [xO 111 (.bin .add (.t 91) (.c (.int .i64 1))),
xM 91 111])
 (.keep [4,89,90,91]))))))))
 (xS [xM 112 4,
xM 2 112,
xO 3 (.mov (.c (.bool true)))] [2,3]
 .ret))))))))),
 [(.slot 2),(.slot 3)]⟩
def Wd : Fun := ⟨1,
(xS [xO 2 (.newL [(.int .i64 0),(.slice none 0 0),(.slice none 0 0),(.slice none 0 0),(.slice none 0 0)]),
xO 3 (.mov (.c (.bool false)))] [0,2]
 (xS [xM 12 0,
xO 13 (.bld [(.string ⟨⟨[]⟩⟩),(.int .i64 0),(.bool false)] [(0,(1,(.t 12)))]),
xO 14 (.bx zL 3 (.t 13)),
xM 4 14] [2,4]
 (xS [xO 5 (.newL [(.int .i64 0),(.slice none 0 0),(.slice none 0 0),(.slice none 0 0),(.slice none 0 0)])] [2,4,5]
 (xS [xM 15 4,
xO 16 (.call zu [(.t 15)]),
xO 17 (.faB 0 5),
xO 18 (.faE 0 5 17),
⟨none,.stE 1 5 18 (.t 16),none⟩] [2,4,5]
 (xS [xM 19 4,
xO 20 (.call zu [(.t 19)]),
xM 6 20] [2,4,5,6]
 (.seq
 (.block 0
 (.loop
 (.seq
 (xS [xM 21 6,
xO 22 (.bin .gtr (.t 21) (.c (.int .i64 0))),
xM 23 22,
xG 24 (.mov (.t 4)) 23 true,
xG 25 (.chk (.t 24)) 23 true,
xG 26 (.fa 2 (.t 25)) 23 true,
xG 27 (.ld 1 false (.t 26)) 23 true,
xG 28 (.un .not (.t 27)) 23 true,
xO 29 (.pick (.t 23) (.t 28) (.c (.bool false)))] [2,4,5,6,29]
 (.cond (.t 29)
 .skip
 (.exit 0)))
 (.seq
 (.block 1
 (xS [xO 7 (.newL [(.int .i64 0),(.int .i64 0),(.int .i64 0),(.int .i64 0),(.int .i64 0)])] [2,4,5,6,7]
 (xS [xM 32 4,
xO 33 (.call zu [(.t 32)]),
xO 34 (.faB 0 7),
⟨none,.stE 1 7 34 (.t 33),none⟩] [2,4,5,6,7]
 (xS [xM 35 4,
xO 36 (.call zu [(.t 35)]),
xO 37 (.faB 1 7),
⟨none,.stE 1 7 37 (.t 36),none⟩] [2,4,5,6,7]
 (xS [xM 38 4,
xO 39 (.call zu [(.t 38)]),
xO 40 (.faB 2 7),
⟨none,.stE 1 7 40 (.t 39),none⟩] [2,4,5,6,7]
 (xS [xM 41 4,
xO 42 (.call zu [(.t 41)]),
xO 43 (.faB 3 7),
⟨none,.stE 1 7 43 (.t 42),none⟩] [2,4,5,6,7]
 (xS [xM 44 4,
xO 45 (.call zu [(.t 44)]),
xO 46 (.faB 4 7),
⟨none,.stE 1 7 46 (.t 45),none⟩] [2,4,5,6,7]
 (.seq (.ops [xO 47 (.faB 0 5),
xO 48 (.faE 1 5 47),
xO 49 (.ldE 1 false 5 48),
xO 50 (.ldB 5 true 7),
xO 51 (.litL 1 5 [(.int .i64 0),(.int .i64 0),(.int .i64 0),(.int .i64 0),(.int .i64 0)] [(0,(.t 50))]),
xO 52 (.appL 5 qD 40 1 (.t 49) 51),
xO 53 (.faB 0 5),
xO 54 (.faE 1 5 53),
⟨none,.stE 1 5 54 (.t 52),none⟩])
 (.keep [2,4,5,6])))))))))
 (.seq (.ops [xM 30 6,
xO 31 (.bin .sub (.t 30) (.c (.int .i64 1))),
xM 6 31])
 (.keep [2,4,5,6]))))))
 (xS [xM 55 4,
xO 56 (.call zu [(.t 55)]),
xM 6 56] [2,4,5,6]
 (.seq
 (.block 2
 (.loop
 (.seq
 (xS [xM 57 6,
xO 58 (.bin .gtr (.t 57) (.c (.int .i64 0))),
xM 59 58,
xG 60 (.mov (.t 4)) 59 true,
xG 61 (.chk (.t 60)) 59 true,
xG 62 (.fa 2 (.t 61)) 59 true,
xG 63 (.ld 1 false (.t 62)) 59 true,
xG 64 (.un .not (.t 63)) 59 true,
xO 65 (.pick (.t 59) (.t 64) (.c (.bool false)))] [2,4,5,6,65]
 (.cond (.t 65)
 .skip
 (.exit 2)))
 (.seq
 (.block 3
 (xS [xO 8 (.newL [(.int .i64 0),(.int .i64 0)])] [2,4,5,6,8]
 (xS [xM 68 4,
xO 69 (.call zu [(.t 68)]),
xO 70 (.faB 0 8),
⟨none,.stE 1 8 70 (.t 69),none⟩] [2,4,5,6,8]
 (xS [xM 71 4,
xO 72 (.call zu [(.t 71)]),
xO 73 (.faB 1 8),
⟨none,.stE 1 8 73 (.t 72),none⟩] [2,4,5,6,8]
 (.seq (.ops [xO 74 (.faB 2 5),
xO 75 (.ldE 1 false 5 74),
xO 76 (.ldB 2 true 8),
xO 77 (.litL 1 2 [(.int .i64 0),(.int .i64 0)] [(0,(.t 76))]),
xO 78 (.appL 2 Zl 16 1 (.t 75) 77),
xO 79 (.faB 2 5),
⟨none,.stE 1 5 79 (.t 78),none⟩])
 (.keep [2,4,5,6]))))))
 (.seq (.ops [xM 66 6,
xO 67 (.bin .sub (.t 66) (.c (.int .i64 1))),
xM 6 67])
 (.keep [2,4,5,6]))))))
 (.seq
 (xS [xO 80 (.faB 0 5),
xO 81 (.faE 0 5 80),
xO 82 (.ldE 1 false 5 81),
xM 9 82] [2,4,5,9]
 (.block 4
 (.loop
 (.seq
 (xS [xM 83 9,
xO 84 (.bin .gtr (.t 83) (.c (.int .i64 0))),
xM 85 84,
xG 86 (.mov (.t 4)) 85 true,
xG 87 (.chk (.t 86)) 85 true,
xG 88 (.fa 2 (.t 87)) 85 true,
xG 89 (.ld 1 false (.t 88)) 85 true,
xG 90 (.un .not (.t 89)) 85 true,
xO 91 (.pick (.t 85) (.t 90) (.c (.bool false)))] [2,4,5,9,91]
 (.cond (.t 91)
 .skip
 (.exit 4)))
 (.seq
 (.block 5
 (xS [xM 94 4,
xO 95 (.call zu [(.t 94)]),
xM 10 95] [2,4,5,9,10]
 (.seq (.ops [xO 96 (.faB 3 5),
xO 97 (.faE 0 5 96),
xO 98 (.ldE 1 false 5 97),
xM 99 10,
xO 100 (.litL 1 1 [(.int .i64 0)] [(0,(.t 99))]),
xO 101 (.appL 1 zf 8 1 (.t 98) 100),
xO 102 (.faB 3 5),
xO 103 (.faE 0 5 102),
⟨none,.stE 1 5 103 (.t 101),none⟩])
 (.keep [2,4,5,9]))))
 (.seq (.ops [xM 92 9,
xO 93 (.bin .sub (.t 92) (.c (.int .i64 1))),
xM 9 93])
 (.keep [2,4,5,9])))))))
 (xS [xM 104 4,
xO 105 (.call zu [(.t 104)]),
xM 6 105] [2,4,5,6]
 (.seq
 (.block 6
 (.loop
 (.seq
 (xS [xM 106 6,
xO 107 (.bin .gtr (.t 106) (.c (.int .i64 0))),
xM 108 107,
xG 109 (.mov (.t 4)) 108 true,
xG 110 (.chk (.t 109)) 108 true,
xG 111 (.fa 2 (.t 110)) 108 true,
xG 112 (.ld 1 false (.t 111)) 108 true,
xG 113 (.un .not (.t 112)) 108 true,
xO 114 (.pick (.t 108) (.t 113) (.c (.bool false)))] [2,4,5,6,114]
 (.cond (.t 114)
 .skip
 (.exit 6)))
 (.seq
 (.block 7
 (xS [xM 117 4,
xO 118 (.call qt [(.t 117)]),
xO 11 (.newL [(.slice none 0 0),(.int .i64 0)]),
⟨none,.stB 2 11 (.t 118),none⟩] [2,4,5,6,11]
 (.seq (.ops [xO 119 (.faB 3 5),
xO 120 (.faE 1 5 119),
xO 121 (.ldE 1 false 5 120),
xO 122 (.ldB 2 true 11),
xO 123 (.litL 1 2 [(.slice none 0 0),(.int .i64 0)] [(0,(.t 122))]),
xO 124 (.appL 2 zW 32 1 (.t 121) 123),
xO 125 (.faB 3 5),
xO 126 (.faE 1 5 125),
⟨none,.stE 1 5 126 (.t 124),none⟩])
 (.keep [2,4,5,6]))))
 (.seq (.ops [xM 115 6,
xO 116 (.bin .sub (.t 115) (.c (.int .i64 1))),
xM 6 116])
 (.keep [2,4,5,6]))))))
 (.seq
 (xS [xM 127 4,
xO 128 (.call ZP [(.t 127)]),
xO 129 (.un .not (.t 128)),
xM 130 129,
xG 131 (.faB 0 5) 130 false,
xG 132 (.ldE 2 true 5 131) 130 false,
xG 133 (.faB 2 5) 130 false,
xG 134 (.ldE 1 false 5 133) 130 false,
xG 135 (.faB 3 5) 130 false,
xG 136 (.ldE 2 true 5 135) 130 false,
xG 137 (.call Qt [(.t 132),(.t 134),(.t 136)]) 130 false,
xG 138 (.un .not (.t 137)) 130 false,
xO 139 (.pick (.t 130) (.c (.bool true)) (.t 138))] [2,5,139]
 (.cond (.t 139)
 (xS [xO 140 (.bld [(.int .i64 0),(.slice none 0 0),(.slice none 0 0),(.slice none 0 0),(.slice none 0 0)] []),
⟨none,.stB 5 2 (.t 140),none⟩,
xO 3 (.mov (.c (.bool false)))] [2,3]
 .ret)
 .skip))
 (xS [xO 141 (.ldB 5 true 5),
⟨none,.stB 5 2 (.t 141),none⟩,
xO 3 (.mov (.c (.bool true)))] [2,3]
 .ret))))))))))))),
 [(.box 2 5 true),(.slot 3)]⟩
def wr : Fun := ⟨2,
(xS [xO 2 (.boxL 2 (.t 0)),
xO 3 (.boxL 2 (.t 1)),
xO 4 (.mov (.c (.bool false)))] [2,3]
 (.seq
 (xS [xO 6 (.faB 0 2),
xO 7 (.ldE 1 false 2 6),
xO 8 (.faB 0 3),
xO 9 (.ldE 1 false 3 8),
xO 10 (.bin .neq (.t 7) (.t 9)),
xM 11 10,
xG 12 (.faB 1 2) 11 false,
xG 13 (.ldE 1 false 2 12) 11 false,
xG 14 (.ln (.t 13)) 11 false,
xG 15 (.faB 1 3) 11 false,
xG 16 (.ldE 1 false 3 15) 11 false,
xG 17 (.ln (.t 16)) 11 false,
xG 18 (.bin .neq (.t 14) (.t 17)) 11 false,
xO 19 (.pick (.t 11) (.c (.bool true)) (.t 18))] [2,3,19]
 (.cond (.t 19)
 (xS [xO 4 (.mov (.c (.bool false)))] [4]
 .ret)
 .skip))
 (.seq
 (xS [xO 5 (.mov (.c (.int .i64 0)))] [2,3,5]
 (.block 0
 (.loop
 (.seq
 (xS [xM 20 5,
xO 21 (.faB 1 2),
xO 22 (.ldE 1 false 2 21),
xO 23 (.ln (.t 22)),
xO 24 (.bin .lss (.t 20) (.t 23))] [2,3,5,24]
 (.cond (.t 24)
 .skip
 (.exit 0)))
 (.seq
 (.block 1
 (.seq
 (.seq (.free true [xO 27 (.faB 1 2),
xO 28 (.ldE 1 false 2 27),
xM 29 5,
xO 30 (.ia 5 (.t 28) (.t 29)),
xO 31 (.ld 5 true (.t 30)),
xO 32 (.faB 1 3),
xO 33 (.ldE 1 false 3 32),
xM 34 5,
xO 35 (.ia 5 (.t 33) (.t 34)),
xO 36 (.ld 5 true (.t 35)),
xO 37 (.eqS [0,0,0,0,0] true (.t 31) (.t 36))])
 (.keep [2,3,5,37]))
 (.cond (.t 37)
 (xS [xO 4 (.mov (.c (.bool false)))] [4]
 .ret)
 .skip)))
 (.seq (.ops [xM 25 5,
xO 26 (.bin .add (.t 25) (.c (.int .i64 1))),
xM 5 26])
 (.keep [2,3,5])))))))
 (xS [xO 4 (.mov (.c (.bool true)))] [4]
 .ret)))),
 [(.slot 4)]⟩
def QI : Fun := ⟨2,
(xS [xO 4 (.mov (.c (.bool false)))] [0,1]
 (.seq
 (xS [xM 6 0,
xO 7 (.ln (.t 6)),
xM 8 1,
xO 9 (.ln (.t 8)),
xO 10 (.bin .neq (.t 7) (.t 9))] [0,1,10]
 (.cond (.t 10)
 (xS [xO 4 (.mov (.c (.bool false)))] [4]
 .ret)
 .skip))
 (.seq
 (xS [xO 5 (.mov (.c (.int .i64 0)))] [0,1,5]
 (.block 0
 (.loop
 (.seq
 (xS [xM 11 5,
xM 12 0,
xO 13 (.ln (.t 12)),
xO 14 (.bin .lss (.t 11) (.t 13))] [0,1,5,14]
 (.cond (.t 14)
 .skip
 (.exit 0)))
 (.seq
 (.block 1
 (.seq
 (.seq (.free true [xM 17 0,
xM 18 5,
xO 19 (.ia 2 (.t 17) (.t 18)),
xO 20 (.ld 2 true (.t 19)),
xM 21 1,
xM 22 5,
xO 23 (.ia 2 (.t 21) (.t 22)),
xO 24 (.ld 2 true (.t 23)),
xO 25 (.eqS [0,0] true (.t 20) (.t 24))])
 (.keep [0,1,5,25]))
 (.cond (.t 25)
 (xS [xO 4 (.mov (.c (.bool false)))] [4]
 .ret)
 .skip)))
 (.seq (.ops [xM 15 5,
xO 16 (.bin .add (.t 15) (.c (.int .i64 1))),
xM 5 16])
 (.keep [0,1,5])))))))
 (xS [xO 4 (.mov (.c (.bool true)))] [4]
 .ret)))),
 [(.slot 4)]⟩
def wu : Fun := ⟨2,
(xS [xO 2 (.boxL 2 (.t 0)),
xO 3 (.boxL 2 (.t 1)),
xO 4 (.mov (.c (.bool false)))] [2,3]
 (.seq
 (xS [xO 6 (.faB 0 2),
xO 7 (.ldE 1 false 2 6),
xO 8 (.faB 0 3),
xO 9 (.ldE 1 false 3 8),
xO 10 (.call QR [(.t 7),(.t 9)]),
xO 11 (.un .not (.t 10)),
xM 12 11,
xG 13 (.faB 1 2) 12 false,
xG 14 (.ldE 1 false 2 13) 12 false,
xG 15 (.ln (.t 14)) 12 false,
xG 16 (.faB 1 3) 12 false,
xG 17 (.ldE 1 false 3 16) 12 false,
xG 18 (.ln (.t 17)) 12 false,
xG 19 (.bin .neq (.t 15) (.t 18)) 12 false,
xO 20 (.pick (.t 12) (.c (.bool true)) (.t 19))] [2,3,20]
 (.cond (.t 20)
 (xS [xO 4 (.mov (.c (.bool false)))] [4]
 .ret)
 .skip))
 (.seq
 (xS [xO 5 (.mov (.c (.int .i64 0)))] [2,3,5]
 (.block 0
 (.loop
 (.seq
 (xS [xM 21 5,
xO 22 (.faB 1 2),
xO 23 (.ldE 1 false 2 22),
xO 24 (.ln (.t 23)),
xO 25 (.bin .lss (.t 21) (.t 24))] [2,3,5,25]
 (.cond (.t 25)
 .skip
 (.exit 0)))
 (.seq
 (.block 1
 (.seq
 (.seq (.free true [xO 28 (.faB 1 2),
xO 29 (.ldE 1 false 2 28),
xM 30 5,
xO 31 (.ia 2 (.t 29) (.t 30)),
xO 32 (.fa 1 (.t 31)),
xO 33 (.ld 1 false (.t 32)),
xO 34 (.faB 1 3),
xO 35 (.ldE 1 false 3 34),
xM 36 5,
xO 37 (.ia 2 (.t 35) (.t 36)),
xO 38 (.fa 1 (.t 37)),
xO 39 (.ld 1 false (.t 38)),
xO 40 (.bin .neq (.t 33) (.t 39)),
xM 41 40,
xG 42 (.faB 1 2) 41 false,
xG 43 (.ldE 1 false 2 42) 41 false,
xG 44 (.mov (.t 5)) 41 false,
xG 45 (.ia 2 (.t 43) (.t 44)) 41 false,
xG 46 (.fa 0 (.t 45)) 41 false,
xG 47 (.ld 1 false (.t 46)) 41 false,
xG 48 (.faB 1 3) 41 false,
xG 49 (.ldE 1 false 3 48) 41 false,
xG 50 (.mov (.t 5)) 41 false,
xG 51 (.ia 2 (.t 49) (.t 50)) 41 false,
xG 52 (.fa 0 (.t 51)) 41 false,
xG 53 (.ld 1 false (.t 52)) 41 false,
xG 54 (.call QR [(.t 47),(.t 53)]) 41 false,
xG 55 (.un .not (.t 54)) 41 false,
xO 56 (.pick (.t 41) (.c (.bool true)) (.t 55))])
 (.keep [2,3,5,56]))
 (.cond (.t 56)
 (xS [xO 4 (.mov (.c (.bool false)))] [4]
 .ret)
 .skip)))
 (.seq (.ops [xM 26 5,
xO 27 (.bin .add (.t 26) (.c (.int .i64 1))),
xM 5 27])
 (.keep [2,3,5])))))))
 (xS [xO 4 (.mov (.c (.bool true)))] [4]
 .ret)))),
 [(.slot 4)]⟩
def Qo : Fun := ⟨1,
(xS [xO 2 (.mov (.c (.string ⟨⟨[]⟩⟩)))] [0]
 (xS [xM 6 0,
xO 7 (.call Qi [(.t 6)]),
xM 3 7] [3]
 (xS [xM 9 3,
xO 10 (.call QC [(.t 9)]),
xO 11 (.call QS [(.t 10)]),
xM 8 11,
xO 12 (.ext 0 (.t 8)),
xO 13 (.ext 1 (.t 8)),
xM 4 12,
xM 5 13] [3,4]
 (xS [xM 14 3,
xM 15 4,
xO 16 (.call Qx [(.t 14),(.t 15)]),
xM 2 16] [2]
 .ret)))),
 [(.slot 2)]⟩
def Wg : Fun := ⟨1,
(xS [xO 2 (.newL [(.int .i64 0),(.slice none 0 0),(.slice none 0 0),(.slice none 0 0),(.slice none 0 0)]),
xO 3 (.mov (.c (.bool false)))] [0,2]
 (xS [xM 18 0,
xO 19 (.bld [(.string ⟨⟨[]⟩⟩),(.int .i64 0),(.bool false)] [(0,(1,(.t 18)))]),
xO 20 (.bx zO 3 (.t 19)),
xM 4 20] [0,2,4]
 (xS [xO 21 (.bld [(.int .i64 0),(.slice none 0 0),(.slice none 0 0),(.slice none 0 0),(.slice none 0 0)] []),
xO 5 (.newL [(.int .i64 0),(.slice none 0 0),(.slice none 0 0),(.slice none 0 0),(.slice none 0 0)]),
⟨none,.stB 5 5 (.t 21),none⟩] [0,2,4,5]
 (xS [xM 22 4,
xO 23 (.call zV [(.t 22)]),
xO 24 (.faB 0 5),
xO 25 (.faE 0 5 24),
⟨none,.stE 1 5 25 (.t 23),none⟩] [0,2,4,5]
 (xS [xM 26 4,
xO 27 (.call zV [(.t 26)]),
xM 6 27] [0,2,4,5,6]
 (.seq
 (xS [xO 7 (.mov (.c (.int .i64 0)))] [0,2,4,5,6,7]
 (.block 0
 (.loop
 (.seq
 (xS [xM 28 7,
xM 29 6,
xO 30 (.bin .lss (.t 28) (.t 29)),
xM 31 30,
xG 32 (.mov (.t 4)) 31 true,
xG 33 (.chk (.t 32)) 31 true,
xG 34 (.fa 2 (.t 33)) 31 true,
xG 35 (.ld 1 false (.t 34)) 31 true,
xG 36 (.un .not (.t 35)) 31 true,
xO 37 (.pick (.t 31) (.t 36) (.c (.bool false))),
xM 38 37,
xG 39 (.mov (.t 7)) 38 true,
xG 40 (.bin .lss (.t 39) (.c (.int .i64 100))) 38 true,
xO 41 (.pick (.t 38) (.t 40) (.c (.bool false)))] [0,2,4,5,6,7,41]
 (.cond (.t 41)
 .skip
 (.exit 0)))
 (.seq
 (.block 1
 (xS [xO 44 (.bld [(.int .i64 0),(.int .i64 0),(.int .i64 0),(.int .i64 0),(.int .i64 0)] []),
xO 8 (.newL [(.int .i64 0),(.int .i64 0),(.int .i64 0),(.int .i64 0),(.int .i64 0)]),
⟨none,.stB 5 8 (.t 44),none⟩] [0,2,4,5,6,7,8]
 (xS [xM 45 4,
xO 46 (.call zV [(.t 45)]),
xO 47 (.faB 0 8),
⟨none,.stE 1 8 47 (.t 46),none⟩] [0,2,4,5,6,7,8]
 (xS [xM 48 4,
xO 49 (.call zV [(.t 48)]),
xO 50 (.faB 1 8),
⟨none,.stE 1 8 50 (.t 49),none⟩] [0,2,4,5,6,7,8]
 (xS [xM 51 4,
xO 52 (.call zV [(.t 51)]),
xO 53 (.faB 2 8),
⟨none,.stE 1 8 53 (.t 52),none⟩] [0,2,4,5,6,7,8]
 (xS [xM 54 4,
xO 55 (.call zV [(.t 54)]),
xO 56 (.faB 3 8),
⟨none,.stE 1 8 56 (.t 55),none⟩] [0,2,4,5,6,7,8]
 (xS [xM 57 4,
xO 58 (.call zV [(.t 57)]),
xO 59 (.faB 4 8),
⟨none,.stE 1 8 59 (.t 58),none⟩] [0,2,4,5,6,7,8]
 (.seq (.ops [xO 60 (.faB 0 5),
xO 61 (.faE 1 5 60),
xO 62 (.ldE 1 false 5 61),
xO 63 (.ldB 5 true 8),
xO 64 (.litL 1 5 [(.int .i64 0),(.int .i64 0),(.int .i64 0),(.int .i64 0),(.int .i64 0)] [(0,(.t 63))]),
xO 65 (.appL 5 qD 40 1 (.t 62) 64),
xO 66 (.faB 0 5),
xO 67 (.faE 1 5 66),
⟨none,.stE 1 5 67 (.t 65),none⟩])
 (.keep [0,2,4,5,6,7])))))))))
 (.seq (.ops [xM 42 7,
xO 43 (.bin .add (.t 42) (.c (.int .i64 1))),
xM 7 43])
 (.keep [0,2,4,5,6,7])))))))
 (xS [xM 68 4,
xO 69 (.call zV [(.t 68)]),
xM 6 69] [0,2,4,5,6]
 (.seq
 (xS [xO 9 (.mov (.c (.int .i64 0)))] [0,2,4,5,6,9]
 (.block 2
 (.loop
 (.seq
 (xS [xM 70 9,
xM 71 6,
xO 72 (.bin .lss (.t 70) (.t 71)),
xM 73 72,
xG 74 (.mov (.t 4)) 73 true,
xG 75 (.chk (.t 74)) 73 true,
xG 76 (.fa 2 (.t 75)) 73 true,
xG 77 (.ld 1 false (.t 76)) 73 true,
xG 78 (.un .not (.t 77)) 73 true,
xO 79 (.pick (.t 73) (.t 78) (.c (.bool false))),
xM 80 79,
xG 81 (.mov (.t 9)) 80 true,
xG 82 (.bin .lss (.t 81) (.c (.int .i64 100))) 80 true,
xO 83 (.pick (.t 80) (.t 82) (.c (.bool false)))] [0,2,4,5,6,9,83]
 (.cond (.t 83)
 .skip
 (.exit 2)))
 (.seq
 (.block 3
 (xS [xO 86 (.bld [(.int .i64 0),(.int .i64 0)] []),
xO 10 (.newL [(.int .i64 0),(.int .i64 0)]),
⟨none,.stB 2 10 (.t 86),none⟩] [0,2,4,5,6,9,10]
 (xS [xM 87 4,
xO 88 (.call zV [(.t 87)]),
xO 89 (.faB 0 10),
⟨none,.stE 1 10 89 (.t 88),none⟩] [0,2,4,5,6,9,10]
 (xS [xM 90 4,
xO 91 (.call zV [(.t 90)]),
xO 92 (.faB 1 10),
⟨none,.stE 1 10 92 (.t 91),none⟩] [0,2,4,5,6,9,10]
 (.seq (.ops [xO 93 (.faB 2 5),
xO 94 (.ldE 1 false 5 93),
xO 95 (.ldB 2 true 10),
xO 96 (.litL 1 2 [(.int .i64 0),(.int .i64 0)] [(0,(.t 95))]),
xO 97 (.appL 2 Zl 16 1 (.t 94) 96),
xO 98 (.faB 2 5),
⟨none,.stE 1 5 98 (.t 97),none⟩])
 (.keep [0,2,4,5,6,9]))))))
 (.seq (.ops [xM 84 9,
xO 85 (.bin .add (.t 84) (.c (.int .i64 1))),
xM 9 85])
 (.keep [0,2,4,5,6,9])))))))
 (.seq
 (xS [xO 11 (.mov (.c (.int .i64 0)))] [0,2,4,5,11]
 (.block 4
 (.loop
 (.seq
 (xS [xM 99 11,
xO 100 (.faB 0 5),
xO 101 (.faE 0 5 100),
xO 102 (.ldE 1 false 5 101),
xO 103 (.bin .lss (.t 99) (.t 102)),
xM 104 103,
xG 105 (.mov (.t 4)) 104 true,
xG 106 (.chk (.t 105)) 104 true,
xG 107 (.fa 2 (.t 106)) 104 true,
xG 108 (.ld 1 false (.t 107)) 104 true,
xG 109 (.un .not (.t 108)) 104 true,
xO 110 (.pick (.t 104) (.t 109) (.c (.bool false))),
xM 111 110,
xG 112 (.mov (.t 11)) 111 true,
xG 113 (.bin .lss (.t 112) (.c (.int .i64 100))) 111 true,
xO 114 (.pick (.t 111) (.t 113) (.c (.bool false)))] [0,2,4,5,11,114]
 (.cond (.t 114)
 .skip
 (.exit 4)))
 (.seq
 (.block 5
 (.seq (.free true [xO 117 (.faB 3 5),
xO 118 (.faE 0 5 117),
xO 119 (.ldE 1 false 5 118),
xM 120 4,
xO 121 (.call zV [(.t 120)]),
xO 122 (.litL 1 1 [(.int .i64 0)] [(0,(.t 121))]),
xO 123 (.appL 1 zf 8 1 (.t 119) 122),
xO 124 (.faB 3 5),
xO 125 (.faE 0 5 124),
⟨none,.stE 1 5 125 (.t 123),none⟩])
 (.keep [0,2,4,5,11])))
 (.seq (.ops [xM 115 11,
xO 116 (.bin .add (.t 115) (.c (.int .i64 1))),
xM 11 116])
 (.keep [0,2,4,5,11])))))))
 (xS [xM 126 4,
xO 127 (.call zV [(.t 126)]),
xM 6 127] [0,2,4,5,6]
 (.seq
 (xS [xO 12 (.mov (.c (.int .i64 0)))] [0,2,4,5,6,12]
 (.block 6
 (.loop
 (.seq
 (xS [xM 128 12,
xM 129 6,
xO 130 (.bin .lss (.t 128) (.t 129)),
xM 131 130,
xG 132 (.mov (.t 4)) 131 true,
xG 133 (.chk (.t 132)) 131 true,
xG 134 (.fa 2 (.t 133)) 131 true,
xG 135 (.ld 1 false (.t 134)) 131 true,
xG 136 (.un .not (.t 135)) 131 true,
xO 137 (.pick (.t 131) (.t 136) (.c (.bool false))),
xM 138 137,
xG 139 (.mov (.t 12)) 138 true,
xG 140 (.bin .lss (.t 139) (.c (.int .i64 100))) 138 true,
xO 141 (.pick (.t 138) (.t 140) (.c (.bool false)))] [0,2,4,5,6,12,141]
 (.cond (.t 141)
 .skip
 (.exit 6)))
 (.seq
 (.block 7
 (xS [xO 144 (.bld [(.slice none 0 0),(.int .i64 0)] []),
xO 13 (.newL [(.slice none 0 0),(.int .i64 0)]),
⟨none,.stB 2 13 (.t 144),none⟩] [0,2,4,5,6,12,13]
 (xS [xM 145 4,
xO 146 (.call zV [(.t 145)]),
xM 14 146] [0,2,4,5,6,12,13,14]
 (.seq
 (xS [xO 15 (.mov (.c (.int .i64 0)))] [0,2,4,5,6,12,13,14,15]
 (.block 8
 (.loop
 (.seq
 (xS [xM 147 15,
xM 148 14,
xO 149 (.bin .lss (.t 147) (.t 148)),
xM 150 149,
xG 151 (.mov (.t 4)) 150 true,
xG 152 (.chk (.t 151)) 150 true,
xG 153 (.fa 2 (.t 152)) 150 true,
xG 154 (.ld 1 false (.t 153)) 150 true,
xG 155 (.un .not (.t 154)) 150 true,
xO 156 (.pick (.t 150) (.t 155) (.c (.bool false))),
xM 157 156,
xG 158 (.mov (.t 15)) 157 true,
xG 159 (.bin .lss (.t 158) (.c (.int .i64 100))) 157 true,
xO 160 (.pick (.t 157) (.t 159) (.c (.bool false)))] [0,2,4,5,6,12,13,14,15,160]
 (.cond (.t 160)
 .skip
 (.exit 8)))
 (.seq
 (.block 9
 (.seq (.free true [xO 163 (.faB 0 13),
xO 164 (.ldE 1 false 13 163),
xM 165 4,
xO 166 (.call zV [(.t 165)]),
xO 167 (.litL 1 1 [(.int .i64 0)] [(0,(.t 166))]),
xO 168 (.appL 1 zf 8 1 (.t 164) 167),
xO 169 (.faB 0 13),
⟨none,.stE 1 13 169 (.t 168),none⟩])
 (.keep [0,2,4,5,6,12,13,14,15])))
 (.seq (.ops [xM 161 15,
xO 162 (.bin .add (.t 161) (.c (.int .i64 1))),
xM 15 162])
 (.keep [0,2,4,5,6,12,13,14,15])))))))
 (xS [xM 170 4,
xO 171 (.call zV [(.t 170)]),
xO 172 (.faB 1 13),
⟨none,.stE 1 13 172 (.t 171),none⟩] [0,2,4,5,6,12,13]
 (.seq (.ops [xO 173 (.faB 3 5),
xO 174 (.faE 1 5 173),
xO 175 (.ldE 1 false 5 174),
xO 176 (.ldB 2 true 13),
xO 177 (.litL 1 2 [(.slice none 0 0),(.int .i64 0)] [(0,(.t 176))]),
xO 178 (.appL 2 zW 32 1 (.t 175) 177),
xO 179 (.faB 3 5),
xO 180 (.faE 1 5 179),
⟨none,.stE 1 5 180 (.t 178),none⟩])
 (.keep [0,2,4,5,6,12])))))))
 (.seq (.ops [xM 142 12,
xO 143 (.bin .add (.t 142) (.c (.int .i64 1))),
xM 12 143])
 (.keep [0,2,4,5,6,12])))))))
 (xS [xO 182 (.ldB 5 true 5),
xO 183 (.call QS [(.t 182)]),
xM 181 183,
xO 184 (.ext 0 (.t 181)),
xO 185 (.ext 1 (.t 181)),
xM 16 184,
xM 17 185] [0,2,4,5,16,17]
 (.seq
 (xS [xM 186 4,
xO 187 (.chk (.t 186)),
xO 188 (.fa 2 (.t 187)),
xO 189 (.ld 1 false (.t 188)),
xM 190 189,
xG 191 (.mov (.t 17)) 190 false,
xG 192 (.un .not (.t 191)) 190 false,
xO 193 (.pick (.t 190) (.c (.bool true)) (.t 192)),
xM 194 193,
xG 195 (.mov (.t 16)) 194 false,
xG 196 (.mov (.t 0)) 194 false,
xG 197 (.bin .neq (.t 195) (.t 196)) 194 false,
xO 198 (.pick (.t 194) (.c (.bool true)) (.t 197))] [2,5,198]
 (.cond (.t 198)
 (xS [xO 199 (.bld [(.int .i64 0),(.slice none 0 0),(.slice none 0 0),(.slice none 0 0),(.slice none 0 0)] []),
⟨none,.stB 5 2 (.t 199),none⟩,
xO 3 (.mov (.c (.bool false)))] [2,3]
 .ret)
 .skip))
 (xS [xO 200 (.ldB 5 true 5),
⟨none,.stB 5 2 (.t 200),none⟩,
xO 3 (.mov (.c (.bool true)))] [2,3]
 .ret)))))))))))))),
 [(.box 2 5 true),(.slot 3)]⟩
def qY : Fun := ⟨1,
(xS [xO 2 (.mov (.c (.string ⟨⟨[]⟩⟩)))] [0]
 (xS [xM 4 0,
xO 5 (.call Qi [(.t 4)]),
xM 3 5] [3]
 (xS [xM 6 3,
xM 7 3,
xM 8 3,
xO 9 (.call zJ [(.t 8),(.c (.int .i64 300))]),
xO 10 (.lit 9 1 zf [(.int .i64 0)] [(0,(.c (.int .i64 0))),(1,(.c (.int .i64 1))),(2,(.c (.int .i64 39))),(3,(.c (.int .i64 40))),(4,(.c (.int .i64 41))),(5,(.c (.int .i64 80))),(6,(.c (.int .i64 81))),(7,(.c (.int .i64 200))),(8,(.t 9))]),
xO 11 (.call Zc [(.t 7),(.t 10)]),
xO 12 (.call qO [(.t 6),(.t 11)]),
xM 2 12] [2]
 .ret))),
 [(.slot 2)]⟩
def wn : Fun := ⟨1,
(xS [xO 2 (.mov (.c (.slice none 0 0)))] [0]
 (xS [xO 3 (.mov (.c (.slice none 0 0)))] [0,3]
 (.seq
 (.block 0
 (.loop
 (.seq
 (xS [xM 4 0,
xO 5 (.lnS (.t 4)),
xO 6 (.bin .gtr (.t 5) (.c (.int .i64 40)))] [0,3,6]
 (.cond (.t 6)
 .skip
 (.exit 0)))
 (.block 1
 (xS [xM 7 3,
xM 8 0,
xO 9 (.slS (.t 8) none (some (.c (.int .i64 40)))),
xO 10 (.litL 1 1 [(.string ⟨⟨[]⟩⟩)] [(0,(.t 9))]),
xO 11 (.appL 1 yZ 16 1 (.t 7) 10),
xM 3 11] [0,3]
 (.seq (.ops [xM 12 0,
xO 13 (.slS (.t 12) (some (.c (.int .i64 40))) none),
xM 0 13])
 (.keep [0,3])))))))
 (.seq
 (xS [xM 14 0,
xO 15 (.bin .neq (.t 14) (.c (.string ⟨⟨[]⟩⟩)))] [0,3,15]
 (.cond (.t 15)
 (.seq (.ops [xM 16 3,
xM 17 0,
xO 18 (.litL 1 1 [(.string ⟨⟨[]⟩⟩)] [(0,(.t 17))]),
xO 19 (.appL 1 yZ 16 1 (.t 16) 18),
xM 3 19])
 (.keep [3]))
 .skip))
 (xS [xM 20 3,
xM 2 20] [2]
 .ret))))),
 [(.slot 2)]⟩
def Vp : Fun := ⟨1,
(xS [xO 2 (.mov (.c (.pointer none)))] [0]
 (xS [xM 5 0,
xO 6 (.ln (.t 5)),
xO 7 (.bin .add (.c (.int .i64 10501)) (.t 6)),
xM 3 7] [0,3]
 (.seq
 (xS [xO 4 (.mov (.c (.int .i64 0)))] [0,3,4]
 (.block 0
 (.loop
 (.seq
 (xS [xM 8 4,
xM 9 0,
xO 10 (.ln (.t 9)),
xO 11 (.bin .lss (.t 8) (.t 10)),
xM 12 11,
xG 13 (.mov (.t 4)) 12 true,
xG 14 (.bin .lss (.t 13) (.c (.int .i64 4000))) 12 true,
xO 15 (.pick (.t 12) (.t 14) (.c (.bool false)))] [0,3,4,15]
 (.cond (.t 15)
 .skip
 (.exit 0)))
 (.seq
 (.block 1
 (.seq (.ops [xM 18 3,
xO 19 (.bin .mul (.t 18) (.c (.int .i64 131))),
xM 20 0,
xM 21 4,
xO 22 (.ia 1 (.t 20) (.t 21)),
xO 23 (.ld 1 false (.t 22)),
xO 24 (.conv .i64 (.t 23)),
xO 25 (.bin .add (.t 19) (.t 24)),
xO 26 (.bin .add (.t 25) (.c (.int .i64 7))),
xO 27 (.bin .and (.t 26) (.c (.int .i64 1073741823))),
xM 3 27])
 (.keep [0,3,4])))
 (.seq (.ops [xM 16 4,
xO 17 (.bin .add (.t 16) (.c (.int .i64 1))),
xM 4 17])
 (.keep [0,3,4])))))))
 (xS [xM 28 0,
xM 29 3,
xO 30 (.bld [(.slice none 0 0),(.int .i64 0),(.int .i64 0)] [(0,(1,(.t 28))),(2,(1,(.t 29)))]),
xO 31 (.bx x9 3 (.t 30)),
xM 2 31] [2]
 .ret)))),
 [(.slot 2)]⟩
def Wj : Fun := ⟨1,
(xS [xO 2 (.newL [(.int .i64 0),(.slice none 0 0)])] [0,2]
 (xS [xM 9 0,
xO 10 (.call zJ [(.t 9),(.c (.int .i64 10))]),
xO 11 (.bld [(.int .i64 0),(.slice none 0 0)] [(0,(1,(.t 10)))]),
xO 3 (.newL [(.int .i64 0),(.slice none 0 0)]),
⟨none,.stB 2 3 (.t 11),none⟩] [0,2,3]
 (xS [xM 12 0,
xO 13 (.call zJ [(.t 12),(.c (.int .i64 3))]),
xO 14 (.bin .add (.c (.int .i64 1)) (.t 13)),
xM 4 14] [0,2,3,4]
 (xS [xM 15 0,
xO 16 (.lit 3 1 zf [(.int .i64 0)] [(0,(.c (.int .i64 2))),(1,(.c (.int .i64 4))),(2,(.c (.int .i64 51)))]),
xO 17 (.call Zc [(.t 15),(.t 16)]),
xM 5 17] [0,2,3,4,5]
 (.seq
 (xS [xO 6 (.mov (.c (.int .i64 0)))] [0,2,3,4,5,6]
 (.block 0
 (.loop
 (.seq
 (xS [xM 18 6,
xO 19 (.faB 0 3),
xO 20 (.ldE 1 false 3 19),
xO 21 (.bin .lss (.t 18) (.t 20))] [0,2,3,4,5,6,21]
 (.cond (.t 21)
 .skip
 (.exit 0)))
 (.seq
 (.block 1
 (xS [xM 24 6,
xO 25 (.bin .add (.t 24) (.c (.int .i64 1))),
xM 7 25] [0,2,3,4,5,6,7]
 (.block 2
 (.loop
 (.seq
 (xS [xM 26 7,
xO 27 (.faB 0 3),
xO 28 (.ldE 1 false 3 27),
xO 29 (.bin .lss (.t 26) (.t 28))] [0,2,3,4,5,6,7,29]
 (.cond (.t 29)
 .skip
 (.exit 2)))
 (.seq
 (.block 3
 (xS [xM 32 0,
xM 33 4,
xO 34 (.bin .add (.t 33) (.c (.int .i64 1))),
xO 35 (.call Qw [(.t 32),(.t 34)]),
xO 36 (.un .not (.t 35)),
xM 37 36,
xG 38 (.mov (.t 4)) 37 false,
xG 39 (.bin .eql (.t 38) (.c (.int .i64 3))) 37 false,
xO 40 (.pick (.t 37) (.c (.bool true)) (.t 39))] [0,2,3,4,5,6,7,40]
 (.cond (.t 40)
 (xS [xM 41 6,
xM 42 7,
xM 43 0,
xM 44 5,
xO 45 (.call zJ [(.t 43),(.t 44)]),
xM 46 0,
xM 47 5,
xO 48 (.call zJ [(.t 46),(.t 47)]),
xM 49 0,
xM 50 5,
xO 51 (.call zJ [(.t 49),(.t 50)]),
xO 52 (.bld [(.int .i64 0),(.int .i64 0),(.int .i64 0),(.int .i64 0),(.int .i64 0)] [(0,(1,(.t 41))),(1,(1,(.t 42))),(2,(1,(.t 45))),(3,(1,(.t 48))),(4,(1,(.t 51)))]),
xO 8 (.newL [(.int .i64 0),(.int .i64 0),(.int .i64 0),(.int .i64 0),(.int .i64 0)]),
⟨none,.stB 5 8 (.t 52),none⟩] [0,2,3,4,5,6,7,8]
 (.seq
 (xS [xM 53 5,
xO 54 (.bin .eql (.t 53) (.c (.int .i64 4)))] [0,2,3,4,5,6,7,8,54]
 (.cond (.t 54)
 (xS [xO 55 (.faB 3 8),
⟨none,.stE 1 8 55 (.c (.int .i64 0)),none⟩] [0,2,3,4,5,6,7,8]
 (.seq (.ops [xO 56 (.faB 4 8),
⟨none,.stE 1 8 56 (.c (.int .i64 0)),none⟩])
 (.keep [0,2,3,4,5,6,7,8])))
 .skip))
 (.seq (.ops [xO 57 (.faB 1 3),
xO 58 (.ldE 1 false 3 57),
xO 59 (.ldB 5 true 8),
xO 60 (.litL 1 5 [(.int .i64 0),(.int .i64 0),(.int .i64 0),(.int .i64 0),(.int .i64 0)] [(0,(.t 59))]),
xO 61 (.appL 5 qD 40 1 (.t 58) 60),
xO 62 (.faB 1 3),
⟨none,.stE 1 3 62 (.t 61),none⟩])
 (.keep [0,2,3,4,5,6,7]))))
 .skip)))
 (.seq (.ops [xM 30 7,
xO 31 (.bin .add (.t 30) (.c (.int .i64 1))),
xM 7 31])
 (.keep [0,2,3,4,5,6,7]))))))))
 (.seq (.ops [xM 22 6,
xO 23 (.bin .add (.t 22) (.c (.int .i64 1))),
xM 6 23])
 (.keep [0,2,3,4,5,6])))))))
 (xS [xO 63 (.ldB 2 true 3),
⟨none,.stB 2 2 (.t 63),none⟩] [2]
 .ret)))))),
 [(.box 2 2 true)]⟩
def W7 : Fun := ⟨2,
(xS [xO 4 (.mov (.c (.bool false)))] [0,1]
 (xS [xM 5 0,
xM 6 1,
xO 7 (.call zJ [(.t 5),(.t 6)]),
xO 8 (.bin .eql (.t 7) (.c (.int .i64 0))),
xM 4 8] [4]
 .ret)),
 [(.slot 4)]⟩
def Wh : Fun := ⟨2,
(xS [xO 4 (.mov (.c (.int .i64 0)))] [0,1]
 (.seq
 (xS [xM 9 1,
xO 10 (.bin .leq (.t 9) (.c (.int .i64 0)))] [0,1,10]
 (.cond (.t 10)
 (xS [xO 4 (.mov (.c (.int .i64 0)))] [4]
 .ret)
 .skip))
 (.seq
 (xS [xM 11 1,
xO 12 (.bin .leq (.t 11) (.c (.int .i64 256)))] [0,1,12]
 (.cond (.t 12)
 (xS [xM 13 0,
xO 14 (.call ZM [(.t 13)]),
xM 15 1,
xO 16 (.bin .rem (.t 14) (.t 15)),
xM 4 16] [4]
 .ret)
 .skip))
 (xS [xM 17 0,
xO 18 (.call ZM [(.t 17)]),
xM 5 18] [0,1,5]
 (xS [xM 19 0,
xO 20 (.call ZM [(.t 19)]),
xM 6 20] [0,1,5,6]
 (xS [xM 21 0,
xO 22 (.call ZM [(.t 21)]),
xM 7 22] [0,1,5,6,7]
 (xS [xM 23 0,
xO 24 (.call ZM [(.t 23)]),
xM 8 24] [1,5,6,7,8]
 (xS [xM 25 5,
xO 26 (.bin .mul (.t 25) (.c (.int .i64 16777216))),
xM 27 6,
xO 28 (.bin .mul (.t 27) (.c (.int .i64 65536))),
xO 29 (.bin .add (.t 26) (.t 28)),
xM 30 7,
xO 31 (.bin .mul (.t 30) (.c (.int .i64 256))),
xO 32 (.bin .add (.t 29) (.t 31)),
xM 33 8,
xO 34 (.bin .add (.t 32) (.t 33)),
xM 35 1,
xO 36 (.bin .rem (.t 34) (.t 35)),
xM 4 36] [4]
 .ret)))))))),
 [(.slot 4)]⟩
def WU : Fun := ⟨1,
(xS [xO 1 (.boxL 2 (.t 0)),
xO 2 (.mov (.c (.bool false)))] [1]
 (.seq
 (xS [xO 6 (.faB 0 1),
xO 7 (.ldE 1 false 1 6),
xO 8 (.call qg [(.t 7),(.c (.int .i64 0)),(.c (.int .i64 9))]),
xO 9 (.un .not (.t 8))] [1,9]
 (.cond (.t 9)
 (xS [xO 2 (.mov (.c (.bool false)))] [2]
 .ret)
 .skip))
 (.seq
 (xS [xO 10 (.faB 1 1),
xO 11 (.ldE 1 false 1 10),
xO 12 (.ln (.t 11)),
xO 13 (.mov (.c (.int .i64 0)))] [1,11,12,13]
 (.block 0
 (.loop
 (xS [xO 14 (.bin .lss (.t 13) (.t 12))] [1,11,12,13,14]
 (.seq
 (.cond (.t 14)
 .skip
 (.exit 0))
 (.seq
 (.block 1
 (xS [xM 15 13,
xO 16 (.ia 5 (.t 11) (.t 13)),
xO 17 (.ld 5 true (.t 16)),
xO 4 (.newL [(.int .i64 0),(.int .i64 0),(.int .i64 0),(.int .i64 0),(.int .i64 0)]),
xM 3 15,
⟨none,.stB 5 4 (.t 17),none⟩] [1,3,4,11,12,13]
 (.seq
 (xS [xO 18 (.faB 0 4),
xO 19 (.ldE 1 false 4 18),
xO 20 (.faB 0 1),
xO 21 (.ldE 1 false 1 20),
xO 22 (.bin .sub (.t 21) (.c (.int .i64 1))),
xO 23 (.call qg [(.t 19),(.c (.int .i64 0)),(.t 22)]),
xO 24 (.un .not (.t 23)),
xM 25 24,
xG 26 (.faB 1 4) 25 false,
xG 27 (.ldE 1 false 4 26) 25 false,
xG 28 (.faB 0 1) 25 false,
xG 29 (.ldE 1 false 1 28) 25 false,
xG 30 (.bin .sub (.t 29) (.c (.int .i64 1))) 25 false,
xG 31 (.call qg [(.t 27),(.c (.int .i64 0)),(.t 30)]) 25 false,
xG 32 (.un .not (.t 31)) 25 false,
xO 33 (.pick (.t 25) (.c (.bool true)) (.t 32)),
xM 34 33,
xG 35 (.faB 0 4) 34 false,
xG 36 (.ldE 1 false 4 35) 34 false,
xG 37 (.faB 1 4) 34 false,
xG 38 (.ldE 1 false 4 37) 34 false,
xG 39 (.bin .geq (.t 36) (.t 38)) 34 false,
xO 40 (.pick (.t 34) (.c (.bool true)) (.t 39)),
xM 41 40,
xG 42 (.faB 2 4) 41 false,
xG 43 (.ldE 1 false 4 42) 41 false,
xG 44 (.call qg [(.t 43),(.c (.int .i64 0)),(.c (.int .i64 50))]) 41 false,
xG 45 (.un .not (.t 44)) 41 false,
xO 46 (.pick (.t 41) (.c (.bool true)) (.t 45)),
xM 47 46,
xG 48 (.faB 3 4) 47 false,
xG 49 (.ldE 1 false 4 48) 47 false,
xG 50 (.call qg [(.t 49),(.c (.int .i64 0)),(.c (.int .i64 50))]) 47 false,
xG 51 (.un .not (.t 50)) 47 false,
xO 52 (.pick (.t 47) (.c (.bool true)) (.t 51)),
xM 53 52,
xG 54 (.faB 4 4) 53 false,
xG 55 (.ldE 1 false 4 54) 53 false,
xG 56 (.call qg [(.t 55),(.c (.int .i64 0)),(.c (.int .i64 50))]) 53 false,
xG 57 (.un .not (.t 56)) 53 false,
xO 58 (.pick (.t 53) (.c (.bool true)) (.t 57))] [1,3,4,11,12,13,58]
 (.cond (.t 58)
 (xS [xO 2 (.mov (.c (.bool false)))] [2]
 .ret)
 .skip))
 (xS [xM 59 3,
xO 60 (.bin .sub (.t 59) (.c (.int .i64 1))),
xM 5 60] [1,3,4,5,11,12,13]
 (.seq
 (.seq (.free true [xM 61 3,
xO 62 (.bin .gtr (.t 61) (.c (.int .i64 0))),
xM 63 62,
xG 64 (.faB 1 1) 63 true,
xG 65 (.ldE 1 false 1 64) 63 true,
xG 66 (.mov (.t 5)) 63 true,
xG 67 (.ia 5 (.t 65) (.t 66)) 63 true,
xG 68 (.fa 0 (.t 67)) 63 true,
xG 69 (.ld 1 false (.t 68)) 63 true,
xG 70 (.faB 0 4) 63 true,
xG 71 (.ldE 1 false 4 70) 63 true,
xG 72 (.bin .gtr (.t 69) (.t 71)) 63 true,
xG 73 (.mov (.t 72)) 63 true,
xG 74 (.faB 1 1) 73 false,
xG 75 (.ldE 1 false 1 74) 73 false,
xG 76 (.mov (.t 5)) 73 false,
xG 77 (.ia 5 (.t 75) (.t 76)) 73 false,
xG 78 (.fa 0 (.t 77)) 73 false,
xG 79 (.ld 1 false (.t 78)) 73 false,
xG 80 (.faB 0 4) 73 false,
xG 81 (.ldE 1 false 4 80) 73 false,
xG 82 (.bin .eql (.t 79) (.t 81)) 73 false,
xG 83 (.mov (.t 82)) 73 false,
xG 84 (.faB 1 1) 83 true,
xG 85 (.ldE 1 false 1 84) 83 true,
xG 86 (.mov (.t 5)) 83 true,
xG 87 (.ia 5 (.t 85) (.t 86)) 83 true,
xG 88 (.fa 1 (.t 87)) 83 true,
xG 89 (.ld 1 false (.t 88)) 83 true,
xG 90 (.faB 1 4) 83 true,
xG 91 (.ldE 1 false 4 90) 83 true,
xG 92 (.bin .geq (.t 89) (.t 91)) 83 true,
xG 93 (.pick (.t 83) (.t 92) (.c (.bool false))) 73 false,
xG 94 (.pick (.t 73) (.c (.bool true)) (.t 93)) 63 true,
xO 95 (.pick (.t 63) (.t 94) (.c (.bool false)))])
 (.keep [1,11,12,13,95]))
 (.cond (.t 95)
 (xS [xO 2 (.mov (.c (.bool false)))] [2]
 .ret)
 .skip))))))
 (.seq (.ops [xO 96 (.bin .add (.t 13) (.c (.int .i64 1))),
xM 13 96])
 (.keep [1,11,12,13]))))))))
 (xS [xO 2 (.mov (.c (.bool true)))] [2]
 .ret)))),
 [(.slot 2)]⟩
def y5 : Fun := ⟨3,
(xS [xO 6 (.mov (.c (.bool false)))] [0,1,2]
 (xS [xM 7 0,
xM 8 1,
xO 9 (.bin .geq (.t 7) (.t 8)),
xM 10 9,
xG 11 (.mov (.t 0)) 10 true,
xG 12 (.mov (.t 2)) 10 true,
xG 13 (.bin .leq (.t 11) (.t 12)) 10 true,
xO 14 (.pick (.t 10) (.t 13) (.c (.bool false))),
xM 6 14] [6]
 .ret)),
 [(.slot 6)]⟩
def WZ : Fun := ⟨2,
(xS [xO 2 (.boxL 2 (.t 0)),
xO 3 (.boxL 2 (.t 1)),
xO 4 (.mov (.c (.bool false)))] [2,3]
 (.seq
 (xS [xO 7 (.faB 0 3),
xO 8 (.ldE 1 false 3 7),
xO 9 (.ln (.t 8)),
xO 10 (.bin .lss (.t 9) (.c (.int .i64 3))),
xM 11 10,
xG 12 (.faB 0 3) 11 false,
xG 13 (.ldE 1 false 3 12) 11 false,
xG 14 (.ln (.t 13)) 11 false,
xG 15 (.bin .rem (.t 14) (.c (.int .i64 2))) 11 false,
xG 16 (.bin .eql (.t 15) (.c (.int .i64 0))) 11 false,
xO 17 (.pick (.t 11) (.c (.bool true)) (.t 16)),
xM 18 17,
xG 19 (.faB 1 3) 18 false,
xG 20 (.ldE 1 false 3 19) 18 false,
xG 21 (.call qg [(.t 20),(.c (.int .i64 1)),(.c (.int .i64 1000000000))]) 18 false,
xG 22 (.un .not (.t 21)) 18 false,
xO 23 (.pick (.t 18) (.c (.bool true)) (.t 22))] [2,3,23]
 (.cond (.t 23)
 (xS [xO 4 (.mov (.c (.bool false)))] [4]
 .ret)
 .skip))
 (.seq
 (xS [xO 24 (.faB 0 3),
xO 25 (.ldE 1 false 3 24),
xO 26 (.ln (.t 25)),
xO 27 (.mov (.c (.int .i64 0)))] [2,3,25,26,27]
 (.block 0
 (.loop
 (xS [xO 28 (.bin .lss (.t 27) (.t 26))] [2,3,25,26,27,28]
 (.seq
 (.cond (.t 28)
 .skip
 (.exit 0))
 (.seq
 (.block 1
 (xS [xM 29 27,
xO 30 (.ia 1 (.t 25) (.t 27)),
xO 31 (.ld 1 false (.t 30)),
xM 5 29,
xM 6 31] [2,3,5,6,25,26,27]
 (xS [xM 32 6,
xO 33 (.faB 0 2),
xO 34 (.ldE 1 false 2 33),
xO 35 (.bin .sub (.t 34) (.c (.int .i64 1))),
xO 36 (.call qg [(.t 32),(.c (.int .i64 0)),(.t 35)]),
xO 37 (.un .not (.t 36)),
xM 38 37,
xG 39 (.mov (.t 5)) 38 false,
xG 40 (.bin .gtr (.t 39) (.c (.int .i64 0))) 38 false,
xG 41 (.mov (.t 40)) 38 false,
xG 42 (.faB 0 3) 41 true,
xG 43 (.ldE 1 false 3 42) 41 true,
xG 44 (.mov (.t 5)) 41 true,
xG 45 (.bin .sub (.t 44) (.c (.int .i64 1))) 41 true,
xG 46 (.ia 1 (.t 43) (.t 45)) 41 true,
xG 47 (.ld 1 false (.t 46)) 41 true,
xG 48 (.mov (.t 6)) 41 true,
xG 49 (.bin .geq (.t 47) (.t 48)) 41 true,
xG 50 (.pick (.t 41) (.t 49) (.c (.bool false))) 38 false,
xO 51 (.pick (.t 38) (.c (.bool true)) (.t 50))] [2,3,25,26,27,51]
 (.cond (.t 51)
 (xS [xO 4 (.mov (.c (.bool false)))] [4]
 .ret)
 .skip))))
 (.seq (.ops [xO 52 (.bin .add (.t 27) (.c (.int .i64 1))),
xM 27 52])
 (.keep [2,3,25,26,27]))))))))
 (xS [xO 4 (.mov (.c (.bool true)))] [4]
 .ret)))),
 [(.slot 4)]⟩
def Vn : Fun := ⟨2,
(xS [xO 4 (.mov (.c (.bool false))),
xO 5 (.mov (.c (.bool false)))] [0,1]
 (xS [xO 6 (.mov (.c (.bool true))),
xO 7 (.mov (.c (.bool true)))] [0,1,6,7]
 (.seq
 (xS [xM 11 0,
xO 12 (.ln (.t 11)),
xO 13 (.mov (.c (.int .i64 0)))] [1,6,7,11,12,13]
 (.block 0
 (.loop
 (xS [xO 14 (.bin .lss (.t 13) (.t 12))] [1,6,7,11,12,13,14]
 (.seq
 (.cond (.t 14)
 .skip
 (.exit 0))
 (.seq
 (.block 1
 (xS [xO 15 (.ia 1 (.t 11) (.t 13)),
xO 16 (.ld 1 false (.t 15)),
xM 9 16] [1,6,7,9,11,12,13]
 (xS [xM 17 1,
xM 18 9,
xO 19 (.call qF [(.t 17),(.t 18)]),
xM 10 19] [1,6,7,10,11,12,13]
 (.seq (.ops [xM 20 6,
xM 21 20,
xG 22 (.mov (.t 10)) 21 true,
xO 23 (.pick (.t 21) (.t 22) (.c (.bool false))),
xM 24 7,
xM 25 24,
xG 26 (.mov (.t 10)) 25 true,
xG 27 (.un .not (.t 26)) 25 true,
xO 28 (.pick (.t 25) (.t 27) (.c (.bool false))),
xM 6 23,
xM 7 28])
 (.keep [1,6,7,11,12,13])))))
 (.seq (.ops [xO 29 (.bin .add (.t 13) (.c (.int .i64 1))),
xM 13 29])
 (.keep [1,6,7,11,12,13]))))))))
 (xS [xM 30 6,
xM 31 7,
xM 4 30,
xM 5 31] [4,5]
 .ret)))),
 [(.slot 4),(.slot 5)]⟩
def W0 : Fun := ⟨2,
(xS [xO 2 (.boxL 5 (.t 0)),
xO 3 (.boxL 2 (.t 1)),
xO 4 (.mov (.c (.int .i64 0)))] [2,3]
 (.seq
 (.seq (.free false [xO 8 (.faB 0 3),
xO 9 (.ldE 1 false 3 8),
xO 10 (.faB 0 2),
xO 11 (.ldE 1 false 2 10),
xO 12 (.ia 1 (.t 9) (.t 11)),
xO 13 (.ld 1 false (.t 12)),
xO 14 (.faB 0 3),
xO 15 (.ldE 1 false 3 14),
xO 16 (.faB 1 2),
xO 17 (.ldE 1 false 2 16),
xO 18 (.ia 1 (.t 15) (.t 17)),
xO 19 (.ld 1 false (.t 18)),
xO 20 (.bin .add (.t 13) (.t 19)),
xO 21 (.ldB 5 true 2),
xO 22 (.call w6 [(.t 21)]),
xO 23 (.bin .mul (.c (.int .i64 2)) (.t 22)),
xO 24 (.bin .sub (.t 20) (.t 23)),
xM 5 24])
 (.keep [2,3,5]))
 (.seq
 (xS [xO 25 (.faB 1 3),
xO 26 (.ldE 1 false 3 25),
xO 27 (.ln (.t 26)),
xO 28 (.mov (.c (.int .i64 0)))] [2,5,26,27,28]
 (.block 0
 (.loop
 (xS [xO 29 (.bin .lss (.t 28) (.t 27))] [2,5,26,27,28,29]
 (.seq
 (.cond (.t 29)
 .skip
 (.exit 0))
 (.seq
 (.block 1
 (xS [xO 30 (.ia 2 (.t 26) (.t 28)),
xO 31 (.ld 2 true (.t 30)),
xO 7 (.newL [(.slice none 0 0),(.int .i64 0)]),
⟨none,.stB 2 7 (.t 31),none⟩] [2,5,7,26,27,28]
 (xS [xO 32 (.faB 0 7),
xO 33 (.ldE 1 false 7 32),
xO 34 (.faB 0 2),
xO 35 (.ldE 1 false 2 34),
xO 36 (.call qF [(.t 33),(.t 35)]),
xM 37 36,
xG 38 (.faB 0 7) 37 true,
xG 39 (.ldE 1 false 7 38) 37 true,
xG 40 (.faB 1 2) 37 true,
xG 41 (.ldE 1 false 2 40) 37 true,
xG 42 (.call qF [(.t 39),(.t 41)]) 37 true,
xO 43 (.pick (.t 37) (.t 42) (.c (.bool false)))] [2,5,7,26,27,28,43]
 (.cond (.t 43)
 (.seq (.ops [xM 44 5,
xO 45 (.faB 1 7),
xO 46 (.ldE 1 false 7 45),
xO 47 (.bin .add (.t 44) (.t 46)),
xM 5 47])
 (.keep [2,5,26,27,28]))
 .skip))))
 (.seq (.ops [xO 48 (.bin .add (.t 28) (.c (.int .i64 1))),
xM 28 48])
 (.keep [2,5,26,27,28]))))))))
 (xS [xM 49 5,
xM 4 49] [4]
 .ret)))),
 [(.slot 4)]⟩
def W2 : Fun := ⟨1,
(xS [xO 1 (.boxL 2 (.t 0)),
xO 2 (.mov (.c (.bool false)))] [1]
 (.seq
 (xS [xO 5 (.faB 0 1),
xO 6 (.ldE 1 false 1 5),
xO 7 (.call qA [(.t 6),(.c (.int .i64 0)),(.c (.int .i64 9))]),
xO 8 (.un .not (.t 7))] [1,8]
 (.cond (.t 8)
 (xS [xO 2 (.mov (.c (.bool false)))] [2]
 .ret)
 .skip))
 (.seq
 (xS [xO 3 (.mov (.c (.int .i64 0)))] [1,3]
 (.block 0
 (.loop
 (.seq
 (xS [xM 9 3,
xO 10 (.faB 1 1),
xO 11 (.ldE 1 false 1 10),
xO 12 (.ln (.t 11)),
xO 13 (.bin .lss (.t 9) (.t 12))] [1,3,13]
 (.cond (.t 13)
 .skip
 (.exit 0)))
 (.seq
 (.block 1
 (xS [xO 16 (.faB 1 1),
xO 17 (.ldE 1 false 1 16),
xM 18 3,
xO 19 (.ia 5 (.t 17) (.t 18)),
xO 20 (.ld 5 true (.t 19)),
xO 4 (.newL [(.int .i64 0),(.int .i64 0),(.int .i64 0),(.int .i64 0),(.int .i64 0)]),
⟨none,.stB 5 4 (.t 20),none⟩] [1,3,4]
 (.seq
 (xS [xO 21 (.faB 0 4),
xO 22 (.ldE 1 false 4 21),
xO 23 (.bin .lss (.t 22) (.c (.int .i64 0))),
xM 24 23,
xG 25 (.faB 0 4) 24 false,
xG 26 (.ldE 1 false 4 25) 24 false,
xG 27 (.faB 1 4) 24 false,
xG 28 (.ldE 1 false 4 27) 24 false,
xG 29 (.bin .geq (.t 26) (.t 28)) 24 false,
xO 30 (.pick (.t 24) (.c (.bool true)) (.t 29)),
xM 31 30,
xG 32 (.faB 1 4) 31 false,
xG 33 (.ldE 1 false 4 32) 31 false,
xG 34 (.faB 0 1) 31 false,
xG 35 (.ldE 1 false 1 34) 31 false,
xG 36 (.bin .geq (.t 33) (.t 35)) 31 false,
xO 37 (.pick (.t 31) (.c (.bool true)) (.t 36)),
xM 38 37,
xG 39 (.faB 2 4) 38 false,
xG 40 (.ldE 1 false 4 39) 38 false,
xG 41 (.call qV [(.t 40)]) 38 false,
xG 42 (.un .not (.t 41)) 38 false,
xO 43 (.pick (.t 38) (.c (.bool true)) (.t 42)),
xM 44 43,
xG 45 (.faB 3 4) 44 false,
xG 46 (.ldE 1 false 4 45) 44 false,
xG 47 (.call qV [(.t 46)]) 44 false,
xG 48 (.un .not (.t 47)) 44 false,
xO 49 (.pick (.t 44) (.c (.bool true)) (.t 48)),
xM 50 49,
xG 51 (.faB 4 4) 50 false,
xG 52 (.ldE 1 false 4 51) 50 false,
xG 53 (.call qV [(.t 52)]) 50 false,
xG 54 (.un .not (.t 53)) 50 false,
xO 55 (.pick (.t 50) (.c (.bool true)) (.t 54))] [1,3,4,55]
 (.cond (.t 55)
 (xS [xO 2 (.mov (.c (.bool false)))] [2]
 .ret)
 .skip))
 (.seq
 (.seq (.free true [xM 56 3,
xO 57 (.bin .gtr (.t 56) (.c (.int .i64 0))),
xM 58 57,
xG 59 (.faB 1 1) 58 true,
xG 60 (.ldE 1 false 1 59) 58 true,
xG 61 (.mov (.t 3)) 58 true,
xG 62 (.bin .sub (.t 61) (.c (.int .i64 1))) 58 true,
xG 63 (.ia 5 (.t 60) (.t 62)) 58 true,
xG 64 (.fa 0 (.t 63)) 58 true,
xG 65 (.ld 1 false (.t 64)) 58 true,
xG 66 (.faB 0 4) 58 true,
xG 67 (.ldE 1 false 4 66) 58 true,
xG 68 (.bin .gtr (.t 65) (.t 67)) 58 true,
xG 69 (.mov (.t 68)) 58 true,
xG 70 (.faB 1 1) 69 false,
xG 71 (.ldE 1 false 1 70) 69 false,
xG 72 (.mov (.t 3)) 69 false,
xG 73 (.bin .sub (.t 72) (.c (.int .i64 1))) 69 false,
xG 74 (.ia 5 (.t 71) (.t 73)) 69 false,
xG 75 (.fa 0 (.t 74)) 69 false,
xG 76 (.ld 1 false (.t 75)) 69 false,
xG 77 (.faB 0 4) 69 false,
xG 78 (.ldE 1 false 4 77) 69 false,
xG 79 (.bin .eql (.t 76) (.t 78)) 69 false,
xG 80 (.mov (.t 79)) 69 false,
xG 81 (.faB 1 1) 80 true,
xG 82 (.ldE 1 false 1 81) 80 true,
xG 83 (.mov (.t 3)) 80 true,
xG 84 (.bin .sub (.t 83) (.c (.int .i64 1))) 80 true,
xG 85 (.ia 5 (.t 82) (.t 84)) 80 true,
xG 86 (.fa 1 (.t 85)) 80 true,
xG 87 (.ld 1 false (.t 86)) 80 true,
xG 88 (.faB 1 4) 80 true,
xG 89 (.ldE 1 false 4 88) 80 true,
xG 90 (.bin .geq (.t 87) (.t 89)) 80 true,
xG 91 (.pick (.t 80) (.t 90) (.c (.bool false))) 69 false,
xG 92 (.pick (.t 69) (.c (.bool true)) (.t 91)) 58 true,
xO 93 (.pick (.t 58) (.t 92) (.c (.bool false)))])
 (.keep [1,3,93]))
 (.cond (.t 93)
 (xS [xO 2 (.mov (.c (.bool false)))] [2]
 .ret)
 .skip)))))
 (.seq (.ops [xM 14 3,
xO 15 (.bin .add (.t 14) (.c (.int .i64 1))),
xM 3 15])
 (.keep [1,3])))))))
 (xS [xO 2 (.mov (.c (.bool true)))] [2]
 .ret)))),
 [(.slot 2)]⟩
def VY : Fun := ⟨3,
(xS [xO 6 (.mov (.c (.bool false)))] [0,1,2]
 (xS [xM 7 0,
xM 8 1,
xO 9 (.bin .geq (.t 7) (.t 8)),
xM 10 9,
xG 11 (.mov (.t 0)) 10 true,
xG 12 (.mov (.t 2)) 10 true,
xG 13 (.bin .leq (.t 11) (.t 12)) 10 true,
xO 14 (.pick (.t 10) (.t 13) (.c (.bool false))),
xM 6 14] [6]
 .ret)),
 [(.slot 6)]⟩
def wF : Fun := ⟨2,
(xS [xO 4 (.mov (.c (.bool false)))] [0,1]
 (xS [xO 5 (.mov (.c (.int .i64 0)))] [0,1,5]
 (.seq
 (xS [xO 6 (.mov (.c (.int .i64 0)))] [0,1,5,6]
 (.block 0
 (.loop
 (.seq
 (xS [xM 7 6,
xM 8 0,
xO 9 (.ln (.t 8)),
xO 10 (.bin .lss (.t 7) (.t 9))] [0,1,5,6,10]
 (.cond (.t 10)
 .skip
 (.exit 0)))
 (.seq
 (.block 1
 (xS [xM 13 1,
xM 14 0,
xM 15 6,
xO 16 (.ia 1 (.t 14) (.t 15)),
xO 17 (.ld 1 false (.t 16)),
xO 18 (.call ZH [(.t 13),(.t 17)])] [0,1,5,6,18]
 (.cond (.t 18)
 (.seq (.ops [xM 19 5,
xO 20 (.bin .add (.t 19) (.c (.int .i64 1))),
xM 5 20])
 (.keep [0,1,5,6]))
 .skip)))
 (.seq (.ops [xM 11 6,
xO 12 (.bin .add (.t 11) (.c (.int .i64 1))),
xM 6 12])
 (.keep [0,1,5,6])))))))
 (xS [xM 21 5,
xO 22 (.bin .eql (.t 21) (.c (.int .i64 0))),
xM 23 22,
xG 24 (.mov (.t 5)) 23 false,
xG 25 (.mov (.t 0)) 23 false,
xG 26 (.ln (.t 25)) 23 false,
xG 27 (.bin .eql (.t 24) (.t 26)) 23 false,
xO 28 (.pick (.t 23) (.c (.bool true)) (.t 27)),
xM 29 28,
xG 30 (.mov (.t 5)) 29 false,
xG 31 (.mov (.t 1)) 29 false,
xG 32 (.ln (.t 31)) 29 false,
xG 33 (.bin .eql (.t 30) (.t 32)) 29 false,
xO 34 (.pick (.t 29) (.c (.bool true)) (.t 33)),
xM 4 34] [4]
 .ret)))),
 [(.slot 4)]⟩
def Wv : Fun := ⟨2,
(xS [xO 2 (.boxL 2 (.t 0)),
xO 3 (.boxL 5 (.t 1)),
xO 4 (.mov (.c (.int .i64 0)))] [2,3]
 (.seq
 (.seq (.free false [xO 7 (.faB 0 2),
xO 8 (.ldE 1 false 2 7),
xO 9 (.faB 0 3),
xO 10 (.ldE 1 false 3 9),
xO 11 (.ia 1 (.t 8) (.t 10)),
xO 12 (.ld 1 false (.t 11)),
xO 13 (.faB 0 2),
xO 14 (.ldE 1 false 2 13),
xO 15 (.faB 1 3),
xO 16 (.ldE 1 false 3 15),
xO 17 (.ia 1 (.t 14) (.t 16)),
xO 18 (.ld 1 false (.t 17)),
xO 19 (.bin .add (.t 12) (.t 18)),
xO 20 (.ldB 5 true 3),
xO 21 (.call qG [(.t 20)]),
xO 22 (.bin .mul (.c (.int .i64 2)) (.t 21)),
xO 23 (.bin .sub (.t 19) (.t 22)),
xM 5 23])
 (.keep [2,3,5]))
 (.seq
 (xS [xO 6 (.mov (.c (.int .i64 0)))] [2,3,5,6]
 (.block 0
 (.loop
 (.seq
 (xS [xM 24 6,
xO 25 (.faB 1 2),
xO 26 (.ldE 1 false 2 25),
xO 27 (.ln (.t 26)),
xO 28 (.bin .lss (.t 24) (.t 27))] [2,3,5,6,28]
 (.cond (.t 28)
 .skip
 (.exit 0)))
 (.seq
 (.block 1
 (.seq
 (.seq (.free true [xO 31 (.faB 1 2),
xO 32 (.ldE 1 false 2 31),
xM 33 6,
xO 34 (.ia 2 (.t 32) (.t 33)),
xO 35 (.fa 0 (.t 34)),
xO 36 (.ld 1 false (.t 35)),
xO 37 (.faB 0 3),
xO 38 (.ldE 1 false 3 37),
xO 39 (.call ZH [(.t 36),(.t 38)]),
xM 40 39,
xG 41 (.faB 1 2) 40 true,
xG 42 (.ldE 1 false 2 41) 40 true,
xG 43 (.mov (.t 6)) 40 true,
xG 44 (.ia 2 (.t 42) (.t 43)) 40 true,
xG 45 (.fa 0 (.t 44)) 40 true,
xG 46 (.ld 1 false (.t 45)) 40 true,
xG 47 (.faB 1 3) 40 true,
xG 48 (.ldE 1 false 3 47) 40 true,
xG 49 (.call ZH [(.t 46),(.t 48)]) 40 true,
xO 50 (.pick (.t 40) (.t 49) (.c (.bool false)))])
 (.keep [2,3,5,6,50]))
 (.cond (.t 50)
 (.seq (.ops [xM 51 5,
xO 52 (.faB 1 2),
xO 53 (.ldE 1 false 2 52),
xM 54 6,
xO 55 (.ia 2 (.t 53) (.t 54)),
xO 56 (.fa 1 (.t 55)),
xO 57 (.ld 1 false (.t 56)),
xO 58 (.bin .add (.t 51) (.t 57)),
xM 5 58])
 (.keep [2,3,5,6]))
 .skip)))
 (.seq (.ops [xM 29 6,
xO 30 (.bin .add (.t 29) (.c (.int .i64 1))),
xM 6 30])
 (.keep [2,3,5,6])))))))
 (xS [xM 59 5,
xM 4 59] [4]
 .ret)))),
 [(.slot 4)]⟩
def Vm : Fun := ⟨1,
(xS [xO 1 (.boxL 2 (.t 0)),
xO 2 (.mov (.c (.int .i64 0)))] [1]
 (xS [xO 3 (.mov (.c (.int .i64 0)))] [1,3]
 (.seq
 (xS [xO 8 (.faB 0 1),
xO 9 (.ldE 1 false 1 8),
xO 10 (.ln (.t 9)),
xO 11 (.mov (.c (.int .i64 0)))] [1,3,9,10,11]
 (.block 0
 (.loop
 (xS [xO 12 (.bin .lss (.t 11) (.t 10))] [1,3,9,10,11,12]
 (.seq
 (.cond (.t 12)
 .skip
 (.exit 0))
 (.seq
 (.block 1
 (xS [xO 13 (.ia 1 (.t 9) (.t 11)),
xO 14 (.ld 1 false (.t 13)),
xM 5 14] [1,3,5,9,10,11]
 (.seq (.ops [xM 15 3,
xM 16 5,
xO 17 (.bin .add (.t 15) (.t 16)),
xM 3 17])
 (.keep [1,3,9,10,11]))))
 (.seq (.ops [xO 18 (.bin .add (.t 11) (.c (.int .i64 1))),
xM 11 18])
 (.keep [1,3,9,10,11]))))))))
 (.seq
 (xS [xO 19 (.faB 1 1),
xO 20 (.ldE 1 false 1 19),
xO 21 (.ln (.t 20)),
xO 22 (.mov (.c (.int .i64 0)))] [3,20,21,22]
 (.block 2
 (.loop
 (xS [xO 23 (.bin .lss (.t 22) (.t 21))] [3,20,21,22,23]
 (.seq
 (.cond (.t 23)
 .skip
 (.exit 2))
 (.seq
 (.block 3
 (xS [xO 24 (.ia 2 (.t 20) (.t 22)),
xO 25 (.ld 2 true (.t 24)),
xO 7 (.newL [(.slice none 0 0),(.int .i64 0)]),
⟨none,.stB 2 7 (.t 25),none⟩] [3,7,20,21,22]
 (.seq (.ops [xM 26 3,
xO 27 (.faB 1 7),
xO 28 (.ldE 1 false 7 27),
xO 29 (.faB 0 7),
xO 30 (.ldE 1 false 7 29),
xO 31 (.ln (.t 30)),
xO 32 (.bin .sub (.t 31) (.c (.int .i64 1))),
xO 33 (.bin .quo (.t 32) (.c (.int .i64 2))),
xO 34 (.bin .mul (.t 28) (.t 33)),
xO 35 (.bin .add (.t 26) (.t 34)),
xM 3 35])
 (.keep [3,20,21,22]))))
 (.seq (.ops [xO 36 (.bin .add (.t 22) (.c (.int .i64 1))),
xM 22 36])
 (.keep [3,20,21,22]))))))))
 (xS [xM 37 3,
xM 2 37] [2]
 .ret))))),
 [(.slot 2)]⟩
def Wt : Fun := ⟨1,
(xS [xO 1 (.boxL 2 (.t 0)),
xO 2 (.mov (.c (.pointer none)))] [1]
 (.seq
 (.seq (.free true [xO 7 (.ldB 2 true 1),
xO 8 (.faB 0 1),
xO 9 (.ldE 1 false 1 8),
xO 10 (.mk 1 zf 8 [(.int .i64 0)] (.t 9)),
xO 11 (.bld [(.int .i64 0),(.slice none 0 0),(.slice none 0 0),(.slice none 0 0),(.slice none 0 0),(.int .i64 0),(.bool false)] [(0,(2,(.t 7))),(2,(1,(.t 10)))]),
xO 12 (.bx Jv 7 (.t 11)),
xM 3 12])
 (.keep [1,3]))
 (xS [xO 4 (.mov (.c (.int .i64 0)))] [1,3,4]
 (.seq
 (xS [xO 5 (.mov (.c (.int .i64 0)))] [1,3,4,5]
 (.block 0
 (.loop
 (.seq
 (xS [xM 13 5,
xO 14 (.faB 1 1),
xO 15 (.ldE 1 false 1 14),
xO 16 (.ln (.t 15)),
xO 17 (.bin .lss (.t 13) (.t 16))] [1,3,4,5,17]
 (.cond (.t 17)
 .skip
 (.exit 0)))
 (.seq
 (.block 1
 (xS [xO 20 (.faB 1 1),
xO 21 (.ldE 1 false 1 20),
xM 22 5,
xO 23 (.ia 5 (.t 21) (.t 22)),
xO 24 (.ld 5 true (.t 23)),
xO 25 (.call qG [(.t 24)]),
xM 26 4,
xO 27 (.bin .gtr (.t 25) (.t 26))] [1,3,4,5,27]
 (.cond (.t 27)
 (.seq (.ops [xO 28 (.faB 1 1),
xO 29 (.ldE 1 false 1 28),
xM 30 5,
xO 31 (.ia 5 (.t 29) (.t 30)),
xO 32 (.ld 5 true (.t 31)),
xO 33 (.call qG [(.t 32)]),
xM 4 33])
 (.keep [1,3,4,5]))
 .skip)))
 (.seq (.ops [xM 18 5,
xO 19 (.bin .add (.t 18) (.c (.int .i64 1))),
xM 5 19])
 (.keep [1,3,4,5])))))))
 (.seq
 (xS [xO 6 (.mov (.c (.int .i64 0)))] [1,3,4,6]
 (.block 2
 (.loop
 (.seq
 (xS [xM 34 6,
xO 35 (.faB 0 1),
xO 36 (.ldE 1 false 1 35),
xO 37 (.bin .lss (.t 34) (.t 36))] [1,3,4,6,37]
 (.cond (.t 37)
 .skip
 (.exit 2)))
 (.seq
 (.block 3
 (xS [xM 40 3,
xO 41 (.chk (.t 40)),
xO 42 (.fa 2 (.t 41)),
xO 43 (.ld 1 false (.t 42)),
xM 44 6,
xM 45 4,
xO 46 (.ia 1 (.t 43) (.t 44)),
⟨none,.st 1 (.t 46) (.t 45),none⟩] [1,3,4,6]
 (.seq (.ops [xM 47 3,
xM 48 3,
xO 49 (.chk (.t 48)),
xO 50 (.fa 3 (.t 49)),
xO 51 (.ld 1 false (.t 50)),
xM 52 6,
xO 53 (.bld [(.slice none 0 0),(.slice none 0 0),(.int .i64 0),(.int .i64 0),(.int .i64 0),(.bool false)] [(2,(1,(.t 52))),(4,(1,(.c (.int .i64 (-1)))))]),
xO 54 (.litL 1 6 [(.slice none 0 0),(.slice none 0 0),(.int .i64 0),(.int .i64 0),(.int .i64 0),(.bool false)] [(0,(.t 53))]),
xO 55 (.appL 6 Yw 80 1 (.t 51) 54),
xO 56 (.chk (.t 47)),
xO 57 (.fa 3 (.t 56)),
⟨none,.st 1 (.t 57) (.t 55),none⟩])
 (.keep [1,3,4,6]))))
 (.seq (.ops [xM 38 6,
xO 39 (.bin .add (.t 38) (.c (.int .i64 1))),
xM 6 39])
 (.keep [1,3,4,6])))))))
 (.seq
 (.block 4
 (.loop
 (.seq
 (xS [xM 58 3,
xO 59 (.chk (.t 58)),
xO 60 (.fa 5 (.t 59)),
xO 61 (.ld 1 false (.t 60)),
xO 62 (.bin .lss (.t 61) (.c (.int .i64 20000))),
xM 63 62,
xG 64 (.mov (.t 3)) 63 true,
xG 65 (.chk (.t 64)) 63 true,
xG 66 (.fa 6 (.t 65)) 63 true,
xG 67 (.ld 1 false (.t 66)) 63 true,
xG 68 (.un .not (.t 67)) 63 true,
xO 69 (.pick (.t 63) (.t 68) (.c (.bool false)))] [3,69]
 (.cond (.t 69)
 .skip
 (.exit 4)))
 (.block 5
 (xS [xM 70 3,
xM 71 3,
xO 72 (.chk (.t 71)),
xO 73 (.fa 5 (.t 72)),
xO 74 (.ld 1 false (.t 73)),
xO 75 (.bin .add (.t 74) (.c (.int .i64 1))),
xO 76 (.chk (.t 70)),
xO 77 (.fa 5 (.t 76)),
⟨none,.st 1 (.t 77) (.t 75),none⟩] [3]
 (.seq (.ops [xM 78 3,
xO 79 (.call QV [(.t 78)])])
 (.keep [3])))))))
 (xS [xM 80 3,
xM 2 80] [2]
 .ret))))))),
 [(.slot 2)]⟩
def wC : Fun := ⟨1,
(xS [xO 2 (.mov (.c (.slice none 0 0)))] [0]
 (xS [xO 9 (.lit 0 2 zW [(.slice none 0 0),(.int .i64 0)] []),
xM 3 9] [0,3]
 (.seq
 (xS [xM 10 0,
xO 11 (.chk (.t 10)),
xO 12 (.fa 0 (.t 11)),
xO 13 (.fa 0 (.t 12)),
xO 14 (.ld 1 false (.t 13)),
xM 4 14] [0,3,4]
 (.block 0
 (.loop
 (.seq
 (xS [xM 15 4,
xM 16 0,
xO 17 (.chk (.t 16)),
xO 18 (.fa 3 (.t 17)),
xO 19 (.ld 1 false (.t 18)),
xO 20 (.ln (.t 19)),
xO 21 (.bin .lss (.t 15) (.t 20))] [0,3,4,21]
 (.cond (.t 21)
 .skip
 (.exit 0)))
 (.seq
 (.block 1
 (.seq
 (xS [xM 24 0,
xO 25 (.chk (.t 24)),
xO 26 (.fa 3 (.t 25)),
xO 27 (.ld 1 false (.t 26)),
xM 28 4,
xO 29 (.ia 6 (.t 27) (.t 28)),
xO 30 (.fa 5 (.t 29)),
xO 31 (.ld 1 false (.t 30)),
xM 32 31,
xG 33 (.mov (.t 0)) 32 false,
xG 34 (.chk (.t 33)) 32 false,
xG 35 (.fa 3 (.t 34)) 32 false,
xG 36 (.ld 1 false (.t 35)) 32 false,
xG 37 (.mov (.t 4)) 32 false,
xG 38 (.ia 6 (.t 36) (.t 37)) 32 false,
xG 39 (.fa 3 (.t 38)) 32 false,
xG 40 (.ld 1 false (.t 39)) 32 false,
xG 41 (.bin .leq (.t 40) (.c (.int .i64 0))) 32 false,
xO 42 (.pick (.t 32) (.c (.bool true)) (.t 41))] [0,3,4,42]
 (.cond (.t 42)
 (.exit 1)
 .skip))
 (xS [xM 43 0,
xO 44 (.chk (.t 43)),
xO 45 (.fa 3 (.t 44)),
xO 46 (.ld 1 false (.t 45)),
xM 47 4,
xO 48 (.ia 6 (.t 46) (.t 47)),
xO 49 (.fa 3 (.t 48)),
xO 50 (.ld 1 false (.t 49)),
xO 51 (.bld [(.slice none 0 0),(.int .i64 0)] [(1,(1,(.t 50)))]),
xO 5 (.newL [(.slice none 0 0),(.int .i64 0)]),
⟨none,.stB 2 5 (.t 51),none⟩] [0,3,4,5]
 (.seq
 (xS [xO 6 (.mov (.c (.int .i64 0)))] [0,3,4,5,6]
 (.block 2
 (.loop
 (.seq
 (xS [xM 52 6,
xM 53 0,
xO 54 (.chk (.t 53)),
xO 55 (.fa 0 (.t 54)),
xO 56 (.fa 0 (.t 55)),
xO 57 (.ld 1 false (.t 56)),
xO 58 (.bin .lss (.t 52) (.t 57))] [0,3,4,5,6,58]
 (.cond (.t 58)
 .skip
 (.exit 2)))
 (.seq
 (.block 3
 (xS [xM 61 0,
xM 62 6,
xM 63 4,
xO 64 (.call qb [(.t 61),(.t 62),(.t 63)])] [0,3,4,5,6,64]
 (.cond (.t 64)
 (.seq (.ops [xO 65 (.faB 0 5),
xO 66 (.ldE 1 false 5 65),
xM 67 6,
xO 68 (.litL 1 1 [(.int .i64 0)] [(0,(.t 67))]),
xO 69 (.appL 1 zf 8 1 (.t 66) 68),
xO 70 (.faB 0 5),
⟨none,.stE 1 5 70 (.t 69),none⟩])
 (.keep [0,3,4,5,6]))
 .skip)))
 (.seq (.ops [xM 59 6,
xO 60 (.bin .add (.t 59) (.c (.int .i64 1))),
xM 6 60])
 (.keep [0,3,4,5,6])))))))
 (xS [xM 71 3,
xO 72 (.ln (.t 71)),
xM 7 72] [0,3,4,5,7]
 (.seq
 (.block 4
 (.loop
 (.seq
 (.seq
 (.seq (.free true [xM 73 7,
xO 74 (.bin .gtr (.t 73) (.c (.int .i64 0))),
xM 75 74,
xG 76 (.faB 0 5) 75 true,
xG 77 (.ldE 1 false 5 76) 75 true,
xG 78 (.mov (.t 3)) 75 true,
xG 79 (.mov (.t 7)) 75 true,
xG 80 (.bin .sub (.t 79) (.c (.int .i64 1))) 75 true,
xG 81 (.ia 2 (.t 78) (.t 80)) 75 true,
xG 82 (.fa 0 (.t 81)) 75 true,
xG 83 (.ld 1 false (.t 82)) 75 true,
xG 84 (.call Wz [(.t 77),(.t 83)]) 75 true,
xO 85 (.pick (.t 75) (.t 84) (.c (.bool false)))])
 (.keep [0,3,4,5,7,85]))
 (.cond (.t 85)
 .skip
 (.exit 4)))
 (.block 5
 (.seq (.ops [xM 86 7,
xO 87 (.bin .sub (.t 86) (.c (.int .i64 1))),
xM 7 87])
 (.keep [0,3,4,5,7]))))))
 (xS [xO 88 (.lit 0 2 zW [(.slice none 0 0),(.int .i64 0)] []),
xM 89 3,
xM 90 7,
xO 91 (.slL 2 (.t 89) none (some (.t 90))),
xO 92 (.app 2 zW 32 (.t 88) (.t 91)),
xM 8 92] [0,3,4,5,7,8]
 (xS [xM 93 8,
xO 94 (.ldB 2 true 5),
xO 95 (.litL 1 2 [(.slice none 0 0),(.int .i64 0)] [(0,(.t 94))]),
xO 96 (.appL 2 zW 32 1 (.t 93) 95),
xM 8 96] [0,3,4,7,8]
 (.seq (.ops [xM 97 8,
xM 98 3,
xM 99 7,
xO 100 (.slL 2 (.t 98) (some (.t 99)) none),
xO 101 (.app 2 zW 32 (.t 97) (.t 100)),
xM 3 101])
 (.keep [0,3,4]))))))))))
 (.seq (.ops [xM 22 4,
xO 23 (.bin .add (.t 22) (.c (.int .i64 1))),
xM 4 23])
 (.keep [0,3,4])))))))
 (xS [xM 102 3,
xM 2 102] [2]
 .ret)))),
 [(.slot 2)]⟩
def Wo : Fun := ⟨2,
(xS [xO 4 (.mov (.c (.bool false)))] [0,1]
 (xS [xM 5 0,
xO 6 (.chk (.t 5)),
xO 7 (.fa 3 (.t 6)),
xO 8 (.ld 1 false (.t 7)),
xM 9 1,
xO 10 (.ia 6 (.t 8) (.t 9)),
xO 11 (.fa 5 (.t 10)),
xO 12 (.ld 1 false (.t 11)),
xO 13 (.un .not (.t 12)),
xM 14 13,
xG 15 (.mov (.t 0)) 14 true,
xG 16 (.chk (.t 15)) 14 true,
xG 17 (.fa 3 (.t 16)) 14 true,
xG 18 (.ld 1 false (.t 17)) 14 true,
xG 19 (.mov (.t 1)) 14 true,
xG 20 (.ia 6 (.t 18) (.t 19)) 14 true,
xG 21 (.fa 4 (.t 20)) 14 true,
xG 22 (.ld 1 false (.t 21)) 14 true,
xG 23 (.bin .lss (.t 22) (.c (.int .i64 0))) 14 true,
xO 24 (.pick (.t 14) (.t 23) (.c (.bool false))),
xM 4 24] [4]
 .ret)),
 [(.slot 4)]⟩
def vd : Fun := ⟨2,
(xS [xM 11 0,
xM 12 1,
xO 13 (.call wh [(.t 11),(.t 12)]),
xM 4 13] [0,1,4]
 (xS [xM 14 0,
xO 15 (.chk (.t 14)),
xO 16 (.fa 3 (.t 15)),
xO 17 (.ld 1 false (.t 16)),
xM 18 1,
xO 19 (.ia 6 (.t 17) (.t 18)),
xO 20 (.ld 6 true (.t 19)),
xO 5 (.newL [(.slice none 0 0),(.slice none 0 0),(.int .i64 0),(.int .i64 0),(.int .i64 0),(.bool false)]),
⟨none,.stB 6 5 (.t 20),none⟩] [0,1,4,5]
 (xS [xO 21 (.faB 0 5),
xO 22 (.ldE 1 false 5 21),
xO 23 (.ln (.t 22)),
xM 6 23] [0,1,4,5,6]
 (xS [xO 7 (.mov (.c (.int .i64 0)))] [0,1,4,5,6,7]
 (.seq
 (xS [xO 8 (.mov (.c (.int .i64 0)))] [0,1,4,5,6,7,8]
 (.block 0
 (.loop
 (.seq
 (xS [xM 24 8,
xM 25 6,
xO 26 (.bin .lss (.t 24) (.t 25))] [0,1,4,5,6,7,8,26]
 (.cond (.t 26)
 .skip
 (.exit 0)))
 (.seq
 (.block 1
 (xS [xM 29 0,
xM 30 4,
xO 31 (.faB 0 5),
xO 32 (.ldE 1 false 5 31),
xM 33 8,
xO 34 (.ia 1 (.t 32) (.t 33)),
xO 35 (.ld 1 false (.t 34)),
xO 36 (.call qb [(.t 29),(.t 30),(.t 35)])] [0,1,4,5,6,7,8,36]
 (.cond (.t 36)
 (.seq (.ops [xM 37 8,
xM 7 37])
 (.keep [0,1,4,5,6,7,8]))
 .skip)))
 (.seq (.ops [xM 27 8,
xO 28 (.bin .add (.t 27) (.c (.int .i64 1))),
xM 8 28])
 (.keep [0,1,4,5,6,7,8])))))))
 (.seq
 (xS [xO 9 (.mov (.c (.int .i64 0)))] [0,1,5,6,7,9]
 (.block 2
 (.loop
 (.seq
 (xS [xM 38 9,
xM 39 6,
xO 40 (.bin .lss (.t 38) (.t 39))] [0,1,5,6,7,9,40]
 (.cond (.t 40)
 .skip
 (.exit 2)))
 (.seq
 (.block 3
 (.seq (.free true [xM 43 0,
xO 44 (.chk (.t 43)),
xO 45 (.fa 3 (.t 44)),
xO 46 (.ld 1 false (.t 45)),
xO 47 (.faB 0 5),
xO 48 (.ldE 1 false 5 47),
xM 49 9,
xO 50 (.ia 1 (.t 48) (.t 49)),
xO 51 (.ld 1 false (.t 50)),
xO 52 (.ia 6 (.t 46) (.t 51)),
xO 53 (.fa 4 (.t 52)),
⟨none,.st 1 (.t 53) (.c (.int .i64 (-1))),none⟩])
 (.keep [0,1,5,6,7,9])))
 (.seq (.ops [xM 41 9,
xO 42 (.bin .add (.t 41) (.c (.int .i64 1))),
xM 9 42])
 (.keep [0,1,5,6,7,9])))))))
 (xS [xM 54 0,
xO 55 (.chk (.t 54)),
xO 56 (.fa 3 (.t 55)),
xO 57 (.ld 1 false (.t 56)),
xM 58 1,
xO 59 (.ia 6 (.t 57) (.t 58)),
xO 60 (.fa 5 (.t 59)),
⟨none,.st 1 (.t 60) (.c (.bool true)),none⟩] [0,5,6,7]
 (xS [xO 10 (.mov (.c (.int .i64 1)))] [0,5,6,7,10]
 (.block 4
 (.loop
 (.seq
 (xS [xM 61 10,
xM 62 6,
xO 63 (.bin .lss (.t 61) (.t 62))] [0,5,6,7,10,63]
 (.cond (.t 63)
 .skip
 (.exit 4)))
 (.seq
 (.block 5
 (.seq (.free true [xM 66 0,
xM 67 0,
xO 68 (.chk (.t 67)),
xO 69 (.fa 4 (.t 68)),
xO 70 (.ld 1 false (.t 69)),
xO 71 (.faB 1 5),
xO 72 (.ldE 1 false 5 71),
xM 73 7,
xM 74 10,
xO 75 (.bin .add (.t 73) (.t 74)),
xM 76 6,
xO 77 (.bin .rem (.t 75) (.t 76)),
xO 78 (.ia 2 (.t 72) (.t 77)),
xO 79 (.ld 2 true (.t 78)),
xO 80 (.litL 1 2 [(.int .i64 0),(.int .i64 0)] [(0,(.t 79))]),
xO 81 (.appL 2 zS 16 1 (.t 70) 80),
xO 82 (.chk (.t 66)),
xO 83 (.fa 4 (.t 82)),
⟨none,.st 1 (.t 83) (.t 81),none⟩])
 (.keep [0,5,6,7,10])))
 (.seq (.ops [xM 64 10,
xO 65 (.bin .add (.t 64) (.c (.int .i64 2))),
xM 10 65])
 (.keep [0,5,6,7,10])))))))))))))),
 []⟩
def WV : Fun := ⟨2,
(xS [xO 2 (.boxL 2 (.t 0)),
xO 4 (.mov (.c (.bool false)))] [1,2]
 (.seq
 (xS [xO 8 (.ldB 2 true 2),
xO 9 (.call wd [(.t 8)]),
xO 10 (.un .not (.t 9))] [1,2,10]
 (.cond (.t 10)
 (xS [xO 4 (.mov (.c (.bool false)))] [4]
 .ret)
 .skip))
 (xS [xO 5 (.mov (.c (.slice none 0 0)))] [1,2,5]
 (.seq
 (xS [xM 11 1,
xO 12 (.ln (.t 11)),
xO 13 (.mov (.c (.int .i64 0)))] [1,2,5,11,12,13]
 (.block 0
 (.loop
 (xS [xO 14 (.bin .lss (.t 13) (.t 12))] [1,2,5,11,12,13,14]
 (.seq
 (.cond (.t 14)
 .skip
 (.exit 0))
 (.seq
 (.block 1
 (xS [xM 15 13,
xO 16 (.ia 2 (.t 11) (.t 13)),
xO 17 (.ld 2 true (.t 16)),
xO 7 (.newL [(.int .i64 0),(.int .i64 0)]),
xM 6 15,
⟨none,.stB 2 7 (.t 17),none⟩] [1,2,5,6,7,11,12,13]
 (.seq
 (.seq
 (.seq (.free true [xO 18 (.faB 0 7),
xO 19 (.ldE 1 false 7 18),
xO 20 (.faB 1 7),
xO 21 (.ldE 1 false 7 20),
xO 22 (.bin .geq (.t 19) (.t 21)),
xM 23 22,
xG 24 (.ldB 2 true 2) 23 false,
xG 25 (.faB 0 7) 23 false,
xG 26 (.ldE 1 false 7 25) 23 false,
xG 27 (.faB 1 7) 23 false,
xG 28 (.ldE 1 false 7 27) 23 false,
xG 29 (.call w7 [(.t 24),(.t 26),(.t 28)]) 23 false,
xG 30 (.bin .lss (.t 29) (.c (.int .i64 0))) 23 false,
xO 31 (.pick (.t 23) (.c (.bool true)) (.t 30)),
xM 32 31,
xG 33 (.mov (.t 6)) 32 false,
xG 34 (.bin .gtr (.t 33) (.c (.int .i64 0))) 32 false,
xG 35 (.mov (.t 34)) 32 false,
xG 36 (.mov (.t 1)) 35 true,
xG 37 (.mov (.t 6)) 35 true,
xG 38 (.bin .sub (.t 37) (.c (.int .i64 1))) 35 true,
xG 39 (.ia 2 (.t 36) (.t 38)) 35 true,
xG 40 (.fa 0 (.t 39)) 35 true,
xG 41 (.ld 1 false (.t 40)) 35 true,
xG 42 (.faB 0 7) 35 true,
xG 43 (.ldE 1 false 7 42) 35 true,
xG 44 (.bin .geq (.t 41) (.t 43)) 35 true,
xG 45 (.pick (.t 35) (.t 44) (.c (.bool false))) 32 false,
xO 46 (.pick (.t 32) (.c (.bool true)) (.t 45)),
xM 47 46,
xG 48 (.mov (.t 5)) 47 false,
xG 49 (.faB 0 7) 47 false,
xG 50 (.ldE 1 false 7 49) 47 false,
xG 51 (.call qF [(.t 48),(.t 50)]) 47 false,
xO 52 (.pick (.t 47) (.c (.bool true)) (.t 51)),
xM 53 52,
xG 54 (.mov (.t 5)) 53 false,
xG 55 (.faB 1 7) 53 false,
xG 56 (.ldE 1 false 7 55) 53 false,
xG 57 (.call qF [(.t 54),(.t 56)]) 53 false,
xO 58 (.pick (.t 53) (.c (.bool true)) (.t 57))])
 (.keep [1,2,5,7,11,12,13,58]))
 (.cond (.t 58)
 (xS [xO 4 (.mov (.c (.bool false)))] [4]
 .ret)
 .skip))
 (.seq (.ops [xM 59 5,
xO 60 (.faB 0 7),
xO 61 (.ldE 1 false 7 60),
xO 62 (.faB 1 7),
xO 63 (.ldE 1 false 7 62),
xO 64 (.litL 2 1 [(.int .i64 0)] [(0,(.t 61)),(1,(.t 63))]),
xO 65 (.appL 1 zf 8 2 (.t 59) 64),
xM 5 65])
 (.keep [1,2,5,11,12,13])))))
 (.seq (.ops [xO 66 (.bin .add (.t 13) (.c (.int .i64 1))),
xM 13 66])
 (.keep [1,2,5,11,12,13]))))))))
 (xS [xO 4 (.mov (.c (.bool true)))] [4]
 .ret))))),
 [(.slot 4)]⟩
def Vj : Fun := ⟨1,
(xS [xO 1 (.boxL 5 (.t 0)),
xO 2 (.mov (.c (.int .i64 0)))] [1]
 (xS [xO 3 (.faB 2 1),
xO 4 (.ldE 1 false 1 3),
xO 5 (.bin .mul (.c (.int .i64 90000)) (.t 4)),
xO 6 (.faB 3 1),
xO 7 (.ldE 1 false 1 6),
xO 8 (.bin .mul (.c (.int .i64 300)) (.t 7)),
xO 9 (.bin .add (.t 5) (.t 8)),
xO 10 (.faB 4 1),
xO 11 (.ldE 1 false 1 10),
xO 12 (.bin .add (.t 9) (.t 11)),
xM 2 12] [2]
 .ret)),
 [(.slot 2)]⟩
def Vk : Fun := ⟨3,
(xS [xO 3 (.boxL 2 (.t 0)),
xO 6 (.mov (.c (.int .i64 0)))] [1,2,3]
 (.seq
 (xS [xO 9 (.faB 1 3),
xO 10 (.ldE 1 false 3 9),
xO 11 (.ln (.t 10)),
xO 12 (.mov (.c (.int .i64 0)))] [1,2,10,11,12]
 (.block 0
 (.loop
 (xS [xO 13 (.bin .lss (.t 12) (.t 11))] [1,2,10,11,12,13]
 (.seq
 (.cond (.t 13)
 .skip
 (.exit 0))
 (.seq
 (.block 1
 (xS [xM 14 12,
xO 15 (.ia 5 (.t 10) (.t 12)),
xO 16 (.ld 5 true (.t 15)),
xO 8 (.newL [(.int .i64 0),(.int .i64 0),(.int .i64 0),(.int .i64 0),(.int .i64 0)]),
xM 7 14,
⟨none,.stB 5 8 (.t 16),none⟩] [1,2,7,8,10,11,12]
 (xS [xO 17 (.faB 0 8),
xO 18 (.ldE 1 false 8 17),
xM 19 1,
xO 20 (.bin .eql (.t 18) (.t 19)),
xM 21 20,
xG 22 (.faB 1 8) 21 true,
xG 23 (.ldE 1 false 8 22) 21 true,
xG 24 (.mov (.t 2)) 21 true,
xG 25 (.bin .eql (.t 23) (.t 24)) 21 true,
xO 26 (.pick (.t 21) (.t 25) (.c (.bool false))),
xM 27 26,
xG 28 (.faB 0 8) 27 false,
xG 29 (.ldE 1 false 8 28) 27 false,
xG 30 (.mov (.t 2)) 27 false,
xG 31 (.bin .eql (.t 29) (.t 30)) 27 false,
xG 32 (.mov (.t 31)) 27 false,
xG 33 (.faB 1 8) 32 true,
xG 34 (.ldE 1 false 8 33) 32 true,
xG 35 (.mov (.t 1)) 32 true,
xG 36 (.bin .eql (.t 34) (.t 35)) 32 true,
xG 37 (.pick (.t 32) (.t 36) (.c (.bool false))) 27 false,
xO 38 (.pick (.t 27) (.c (.bool true)) (.t 37))] [1,2,7,10,11,12,38]
 (.cond (.t 38)
 (xS [xM 39 7,
xM 6 39] [6]
 .ret)
 .skip))))
 (.seq (.ops [xO 40 (.bin .add (.t 12) (.c (.int .i64 1))),
xM 12 40])
 (.keep [1,2,10,11,12]))))))))
 (xS [xO 6 (.mov (.c (.int .i64 (-1))))] [6]
 .ret))),
 [(.slot 6)]⟩
def Ww : Fun := ⟨2,
(xS [xO 2 (.boxL 2 (.t 0)),
xO 4 (.mov (.c (.int .i64 0)))] [1,2]
 (xS [xO 5 (.mov (.c (.int .i64 0)))] [1,2,5]
 (.seq
 (xS [xO 6 (.mov (.c (.int .i64 0)))] [1,2,5,6]
 (.block 0
 (.loop
 (.seq
 (xS [xM 7 6,
xM 8 1,
xO 9 (.ln (.t 8)),
xO 10 (.bin .lss (.t 7) (.t 9))] [1,2,5,6,10]
 (.cond (.t 10)
 .skip
 (.exit 0)))
 (.seq
 (.block 1
 (.seq (.free true [xM 13 5,
xO 14 (.faB 1 2),
xO 15 (.ldE 1 false 2 14),
xO 16 (.ldB 2 true 2),
xM 17 1,
xM 18 6,
xO 19 (.ia 2 (.t 17) (.t 18)),
xO 20 (.fa 0 (.t 19)),
xO 21 (.ld 1 false (.t 20)),
xM 22 1,
xM 23 6,
xO 24 (.ia 2 (.t 22) (.t 23)),
xO 25 (.fa 1 (.t 24)),
xO 26 (.ld 1 false (.t 25)),
xO 27 (.call vJ [(.t 16),(.t 21),(.t 26)]),
xO 28 (.ia 5 (.t 15) (.t 27)),
xO 29 (.ld 5 true (.t 28)),
xO 30 (.call qG [(.t 29)]),
xO 31 (.bin .add (.t 13) (.t 30)),
xM 5 31])
 (.keep [1,2,5,6])))
 (.seq (.ops [xM 11 6,
xO 12 (.bin .add (.t 11) (.c (.int .i64 1))),
xM 6 12])
 (.keep [1,2,5,6])))))))
 (xS [xM 32 5,
xM 4 32] [4]
 .ret)))),
 [(.slot 4)]⟩
def Vt : Fun := ⟨1,
(xS [xO 1 (.boxL 2 (.t 0)),
xO 2 (.mov (.c (.int .i64 0)))] [1]
 (xS [xO 3 (.mov (.c (.int .i64 0)))] [1,3]
 (.seq
 (xS [xO 4 (.mov (.c (.int .i64 0)))] [1,3,4]
 (.block 0
 (.loop
 (.seq
 (xS [xM 6 4,
xO 7 (.faB 0 1),
xO 8 (.ldE 1 false 1 7),
xO 9 (.ln (.t 8)),
xO 10 (.bin .lss (.t 6) (.t 9))] [1,3,4,10]
 (.cond (.t 10)
 .skip
 (.exit 0)))
 (.seq
 (.block 1
 (.seq (.ops [xM 13 3,
xO 14 (.faB 0 1),
xO 15 (.ldE 1 false 1 14),
xM 16 4,
xO 17 (.ia 1 (.t 15) (.t 16)),
xO 18 (.ld 1 false (.t 17)),
xO 19 (.bin .add (.t 13) (.t 18)),
xM 3 19])
 (.keep [1,3,4])))
 (.seq (.ops [xM 11 4,
xO 12 (.bin .add (.t 11) (.c (.int .i64 1))),
xM 4 12])
 (.keep [1,3,4])))))))
 (.seq
 (xS [xO 5 (.mov (.c (.int .i64 0)))] [1,3,5]
 (.block 2
 (.loop
 (.seq
 (xS [xM 20 5,
xO 21 (.faB 1 1),
xO 22 (.ldE 1 false 1 21),
xO 23 (.ln (.t 22)),
xO 24 (.bin .lss (.t 20) (.t 23))] [1,3,5,24]
 (.cond (.t 24)
 .skip
 (.exit 2)))
 (.seq
 (.block 3
 (.seq (.free true [xM 27 3,
xO 28 (.faB 1 1),
xO 29 (.ldE 1 false 1 28),
xM 30 5,
xO 31 (.ia 2 (.t 29) (.t 30)),
xO 32 (.fa 1 (.t 31)),
xO 33 (.ld 1 false (.t 32)),
xO 34 (.faB 1 1),
xO 35 (.ldE 1 false 1 34),
xM 36 5,
xO 37 (.ia 2 (.t 35) (.t 36)),
xO 38 (.fa 0 (.t 37)),
xO 39 (.ld 1 false (.t 38)),
xO 40 (.ln (.t 39)),
xO 41 (.bin .quo (.t 40) (.c (.int .i64 2))),
xO 42 (.bin .mul (.t 33) (.t 41)),
xO 43 (.bin .add (.t 27) (.t 42)),
xM 3 43])
 (.keep [1,3,5])))
 (.seq (.ops [xM 25 5,
xO 26 (.bin .add (.t 25) (.c (.int .i64 1))),
xM 5 26])
 (.keep [1,3,5])))))))
 (xS [xM 44 3,
xM 2 44] [2]
 .ret))))),
 [(.slot 2)]⟩
def V2 : Fun := ⟨3,
(xS [xO 3 (.boxL 2 (.t 0)),
xO 6 (.mov (.c (.int .i64 0)))] [1,2,3]
 (.seq
 (xS [xO 7 (.mov (.c (.int .i64 0)))] [1,2,3,7]
 (.block 0
 (.loop
 (.seq
 (xS [xM 8 7,
xO 9 (.faB 1 3),
xO 10 (.ldE 1 false 3 9),
xO 11 (.ln (.t 10)),
xO 12 (.bin .lss (.t 8) (.t 11))] [1,2,3,7,12]
 (.cond (.t 12)
 .skip
 (.exit 0)))
 (.seq
 (.block 1
 (xS [xO 15 (.faB 1 3),
xO 16 (.ldE 1 false 3 15),
xM 17 7,
xO 18 (.ia 5 (.t 16) (.t 17)),
xO 19 (.fa 0 (.t 18)),
xO 20 (.ld 1 false (.t 19)),
xM 21 1,
xO 22 (.bin .eql (.t 20) (.t 21)),
xM 23 22,
xG 24 (.faB 1 3) 23 true,
xG 25 (.ldE 1 false 3 24) 23 true,
xG 26 (.mov (.t 7)) 23 true,
xG 27 (.ia 5 (.t 25) (.t 26)) 23 true,
xG 28 (.fa 1 (.t 27)) 23 true,
xG 29 (.ld 1 false (.t 28)) 23 true,
xG 30 (.mov (.t 2)) 23 true,
xG 31 (.bin .eql (.t 29) (.t 30)) 23 true,
xO 32 (.pick (.t 23) (.t 31) (.c (.bool false))),
xM 33 32,
xG 34 (.faB 1 3) 33 false,
xG 35 (.ldE 1 false 3 34) 33 false,
xG 36 (.mov (.t 7)) 33 false,
xG 37 (.ia 5 (.t 35) (.t 36)) 33 false,
xG 38 (.fa 0 (.t 37)) 33 false,
xG 39 (.ld 1 false (.t 38)) 33 false,
xG 40 (.mov (.t 2)) 33 false,
xG 41 (.bin .eql (.t 39) (.t 40)) 33 false,
xG 42 (.mov (.t 41)) 33 false,
xG 43 (.faB 1 3) 42 true,
xG 44 (.ldE 1 false 3 43) 42 true,
xG 45 (.mov (.t 7)) 42 true,
xG 46 (.ia 5 (.t 44) (.t 45)) 42 true,
xG 47 (.fa 1 (.t 46)) 42 true,
xG 48 (.ld 1 false (.t 47)) 42 true,
xG 49 (.mov (.t 1)) 42 true,
xG 50 (.bin .eql (.t 48) (.t 49)) 42 true,
xG 51 (.pick (.t 42) (.t 50) (.c (.bool false))) 33 false,
xO 52 (.pick (.t 33) (.c (.bool true)) (.t 51))] [1,2,3,7,52]
 (.cond (.t 52)
 (xS [xM 53 7,
xM 6 53] [6]
 .ret)
 .skip)))
 (.seq (.ops [xM 13 7,
xO 14 (.bin .add (.t 13) (.c (.int .i64 1))),
xM 7 14])
 (.keep [1,2,3,7])))))))
 (xS [xO 6 (.mov (.c (.int .i64 (-1))))] [6]
 .ret))),
 [(.slot 6)]⟩
def VZ : Fun := ⟨2,
(xS [xO 4 (.mov (.c (.bool false)))] [0,1]
 (.seq
 (xS [xO 5 (.mov (.c (.int .i64 0)))] [0,1,5]
 (.block 0
 (.loop
 (.seq
 (xS [xM 6 5,
xM 7 0,
xO 8 (.ln (.t 7)),
xO 9 (.bin .lss (.t 6) (.t 8))] [0,1,5,9]
 (.cond (.t 9)
 .skip
 (.exit 0)))
 (.seq
 (.block 1
 (xS [xM 12 0,
xM 13 5,
xO 14 (.ia 1 (.t 12) (.t 13)),
xO 15 (.ld 1 false (.t 14)),
xM 16 1,
xO 17 (.bin .eql (.t 15) (.t 16))] [0,1,5,17]
 (.cond (.t 17)
 (xS [xO 4 (.mov (.c (.bool true)))] [4]
 .ret)
 .skip)))
 (.seq (.ops [xM 10 5,
xO 11 (.bin .add (.t 10) (.c (.int .i64 1))),
xM 5 11])
 (.keep [0,1,5])))))))
 (xS [xO 4 (.mov (.c (.bool false)))] [4]
 .ret))),
 [(.slot 4)]⟩
def Vo : Fun := ⟨1,
(xS [xO 1 (.boxL 5 (.t 0)),
xO 2 (.mov (.c (.int .i64 0)))] [1]
 (xS [xO 3 (.faB 2 1),
xO 4 (.ldE 1 false 1 3),
xO 5 (.bin .mul (.c (.int .i64 90000)) (.t 4)),
xO 6 (.faB 3 1),
xO 7 (.ldE 1 false 1 6),
xO 8 (.bin .mul (.c (.int .i64 300)) (.t 7)),
xO 9 (.bin .add (.t 5) (.t 8)),
xO 10 (.faB 4 1),
xO 11 (.ldE 1 false 1 10),
xO 12 (.bin .add (.t 9) (.t 11)),
xM 2 12] [2]
 .ret)),
 [(.slot 2)]⟩
def Vl : Fun := ⟨2,
(xS [xO 4 (.mov (.c (.bool false)))] [0,1]
 (.seq
 (xS [xM 7 0,
xO 8 (.ln (.t 7)),
xO 9 (.mov (.c (.int .i64 0)))] [1,7,8,9]
 (.block 0
 (.loop
 (xS [xO 10 (.bin .lss (.t 9) (.t 8))] [1,7,8,9,10]
 (.seq
 (.cond (.t 10)
 .skip
 (.exit 0))
 (.seq
 (.block 1
 (xS [xO 11 (.ia 1 (.t 7) (.t 9)),
xO 12 (.ld 1 false (.t 11)),
xM 6 12] [1,6,7,8,9]
 (xS [xM 13 6,
xM 14 1,
xO 15 (.bin .eql (.t 13) (.t 14))] [1,7,8,9,15]
 (.cond (.t 15)
 (xS [xO 4 (.mov (.c (.bool true)))] [4]
 .ret)
 .skip))))
 (.seq (.ops [xO 16 (.bin .add (.t 9) (.c (.int .i64 1))),
xM 9 16])
 (.keep [1,7,8,9]))))))))
 (xS [xO 4 (.mov (.c (.bool false)))] [4]
 .ret))),
 [(.slot 4)]⟩
def vh : Fun := ⟨1,
(xS [xO 2 (.newL [(.int .i64 0),(.slice none 0 0),(.slice none 0 0),(.slice none 0 0),(.slice none 0 0)])] [0,2]
 (xS [xM 7 0,
xO 8 (.call QT [(.t 7)]),
xO 3 (.newL [(.int .i64 0),(.slice none 0 0)]),
⟨none,.stB 2 3 (.t 8),none⟩] [0,2,3]
 (xS [xO 10 (.ldB 2 true 3),
xO 11 (.call wJ [(.t 10)]),
xM 9 11,
xO 12 (.ext 0 (.t 9)),
xO 13 (.ext 1 (.t 9)),
xO 14 (.ext 2 (.t 9)),
xO 5 (.newL [(.slice none 0 0),(.slice none 0 0)]),
xM 4 12,
⟨none,.stB 2 5 (.t 13),none⟩,
xM 6 14] [0,2,3,4,5]
 (.seq
 (xS [xM 15 0,
xO 16 (.call Qw [(.t 15),(.c (.int .i64 5))])] [0,2,3,4,5,16]
 (.cond (.t 16)
 (.seq (.ops [xM 17 0,
xO 18 (.ldB 2 true 3),
xO 19 (.call QX [(.t 17),(.t 18)]),
⟨none,.stB 2 5 (.t 19),none⟩])
 (.keep [2,3,4,5]))
 .skip))
 (xS [xO 20 (.ldB 2 true 3),
xM 21 4,
xO 22 (.ldB 2 true 5),
xO 23 (.bld [(.int .i64 0),(.slice none 0 0),(.slice none 0 0),(.slice none 0 0),(.slice none 0 0)] [(0,(2,(.t 20))),(2,(1,(.t 21))),(3,(2,(.t 22)))]),
⟨none,.stB 5 2 (.t 23),none⟩] [2]
 .ret))))),
 [(.box 2 5 true)]⟩
def uF : Fun := ⟨1,
(xS [xO 2 (.mov (.c (.string ⟨⟨[]⟩⟩)))] [0]
 (xS [xO 3 (.mov (.c (.string ⟨⟨[]⟩⟩)))] [0,3]
 (.seq
 (xS [xM 8 0,
xO 9 (.ln (.t 8)),
xO 10 (.mov (.c (.int .i64 0)))] [3,8,9,10]
 (.block 0
 (.loop
 (xS [xO 11 (.bin .lss (.t 10) (.t 9))] [3,8,9,10,11]
 (.seq
 (.cond (.t 11)
 .skip
 (.exit 0))
 (.seq
 (.block 1
 (xS [xO 12 (.ia 1 (.t 8) (.t 10)),
xO 13 (.ld 1 false (.t 12)),
xM 5 13] [3,5,8,9,10]
 (xS [xM 15 5,
xO 16 (.call we [(.t 15)]),
xM 14 16,
xO 17 (.ext 0 (.t 14)),
xO 18 (.ext 1 (.t 14)),
xM 6 17,
xM 7 18] [3,6,8,9,10]
 (.seq (.ops [xM 19 3,
xM 20 6,
xO 21 (.bin .add (.t 19) (.t 20)),
xM 3 21])
 (.keep [3,8,9,10])))))
 (.seq (.ops [xO 22 (.bin .add (.t 10) (.c (.int .i64 1))),
xM 10 22])
 (.keep [3,8,9,10]))))))))
 (xS [xM 23 3,
xM 2 23] [2]
 .ret)))),
 [(.slot 2)]⟩
def Q1 : Fun := ⟨1,
(xS [xO 2 (.mov (.c (.int .i64 0)))] [0]
 (.seq
 (.seq (.free true [xM 7 0,
xO 8 (.chk (.t 7)),
xO 9 (.fa 0 (.t 8)),
xO 10 (.ld 1 false (.t 9)),
xM 11 0,
xO 12 (.chk (.t 11)),
xO 13 (.fa 1 (.t 12)),
xO 14 (.ld 1 false (.t 13)),
xO 15 (.call vC [(.t 10),(.t 14)]),
xM 6 15,
xO 16 (.ext 0 (.t 6)),
xO 17 (.ext 1 (.t 6)),
xO 18 (.ext 2 (.t 6)),
xM 3 16,
xM 4 17,
xM 5 18])
 (.keep [0,3,4,5]))
 (.seq
 (xS [xM 19 0,
xO 20 (.chk (.t 19)),
xO 21 (.fa 2 (.t 20)),
xO 22 (.ld 1 false (.t 21)),
xM 23 22,
xG 24 (.mov (.t 5)) 23 false,
xG 25 (.un .not (.t 24)) 23 false,
xO 26 (.pick (.t 23) (.c (.bool true)) (.t 25))] [0,3,4,26]
 (.cond (.t 26)
 (xS [xM 27 0,
xO 28 (.chk (.t 27)),
xO 29 (.fa 2 (.t 28)),
⟨none,.st 1 (.t 29) (.c (.bool true)),none⟩] []
 (xS [xO 2 (.mov (.c (.int .i64 0)))] [2]
 .ret))
 .skip))
 (xS [xM 30 0,
xM 31 4,
xO 32 (.chk (.t 30)),
xO 33 (.fa 1 (.t 32)),
⟨none,.st 1 (.t 33) (.t 31),none⟩] [3]
 (xS [xM 34 3,
xM 2 34] [2]
 .ret))))),
 [(.slot 2)]⟩
def Qm : Fun := ⟨1,
(xS [xO 2 (.newL [(.slice none 0 0),(.int .i64 0)])] [0,2]
 (xS [xO 3 (.newL [(.slice none 0 0),(.int .i64 0)])] [0,2,3]
 (xS [xM 6 0,
xO 7 (.call zu [(.t 6)]),
xM 4 7] [0,2,3,4]
 (.seq
 (.block 0
 (.loop
 (.seq
 (xS [xM 8 4,
xO 9 (.bin .gtr (.t 8) (.c (.int .i64 0))),
xM 10 9,
xG 11 (.mov (.t 0)) 10 true,
xG 12 (.chk (.t 11)) 10 true,
xG 13 (.fa 2 (.t 12)) 10 true,
xG 14 (.ld 1 false (.t 13)) 10 true,
xG 15 (.un .not (.t 14)) 10 true,
xO 16 (.pick (.t 10) (.t 15) (.c (.bool false)))] [0,2,3,4,16]
 (.cond (.t 16)
 .skip
 (.exit 0)))
 (.seq
 (.block 1
 (xS [xM 19 0,
xO 20 (.call zu [(.t 19)]),
xM 5 20] [0,2,3,4,5]
 (.seq (.ops [xO 21 (.faB 0 3),
xO 22 (.ldE 1 false 3 21),
xM 23 5,
xO 24 (.litL 1 1 [(.int .i64 0)] [(0,(.t 23))]),
xO 25 (.appL 1 zf 8 1 (.t 22) 24),
xO 26 (.faB 0 3),
⟨none,.stE 1 3 26 (.t 25),none⟩])
 (.keep [0,2,3,4]))))
 (.seq (.ops [xM 17 4,
xO 18 (.bin .sub (.t 17) (.c (.int .i64 1))),
xM 4 18])
 (.keep [0,2,3,4]))))))
 (xS [xM 27 0,
xO 28 (.call zu [(.t 27)]),
xO 29 (.faB 1 3),
⟨none,.stE 1 3 29 (.t 28),none⟩] [2,3]
 (xS [xO 30 (.ldB 2 true 3),
⟨none,.stB 2 2 (.t 30),none⟩] [2]
 .ret)))))),
 [(.box 2 2 true)]⟩
def QH : Fun := ⟨1,
(xS [xO 2 (.mov (.c (.bool false)))] [0]
 (.seq
 (.seq (.free true [xM 3 0,
xO 4 (.chk (.t 3)),
xO 5 (.fa 2 (.t 4)),
xO 6 (.ld 1 false (.t 5)),
xO 7 (.un .not (.t 6)),
xM 8 7,
xG 9 (.mov (.t 0)) 8 true,
xG 10 (.chk (.t 9)) 8 true,
xG 11 (.fa 1 (.t 10)) 8 true,
xG 12 (.ld 1 false (.t 11)) 8 true,
xG 13 (.mov (.t 0)) 8 true,
xG 14 (.chk (.t 13)) 8 true,
xG 15 (.fa 0 (.t 14)) 8 true,
xG 16 (.ld 1 false (.t 15)) 8 true,
xG 17 (.lnS (.t 16)) 8 true,
xG 18 (.bin .eql (.t 12) (.t 17)) 8 true,
xO 19 (.pick (.t 8) (.t 18) (.c (.bool false))),
xM 2 19])
 (.keep [2]))
 .ret)),
 [(.slot 2)]⟩
def Wf : Fun := ⟨1,
(xS [xO 1 (.boxL 5 (.t 0)),
xO 2 (.mov (.c (.string ⟨⟨[]⟩⟩))),
xO 3 (.mov (.c (.bool false)))] [1]
 (.seq
 (xS [xO 12 (.faB 0 1),
xO 13 (.ldE 2 true 1 12),
xO 14 (.faB 2 1),
xO 15 (.ldE 1 false 1 14),
xO 16 (.faB 3 1),
xO 17 (.ldE 2 true 1 16),
xO 18 (.call Qu [(.t 13),(.t 15),(.t 17)]),
xO 19 (.un .not (.t 18))] [1,19]
 (.cond (.t 19)
 (xS [xO 2 (.mov (.c (.string ⟨⟨[]⟩⟩))),
xO 3 (.mov (.c (.bool false)))] [2,3]
 .ret)
 .skip))
 (.seq
 (.seq (.free false [xO 20 (.faB 0 1),
xO 21 (.faE 0 1 20),
xO 22 (.ldE 1 false 1 21),
xO 23 (.call zQ [(.t 22)]),
xO 24 (.faB 0 1),
xO 25 (.faE 1 1 24),
xO 26 (.ldE 1 false 1 25),
xO 27 (.ln (.t 26)),
xO 28 (.call zQ [(.t 27)]),
xO 29 (.bin .add (.t 23) (.t 28)),
xM 4 29])
 (.keep [1,4]))
 (.seq
 (xS [xO 5 (.mov (.c (.int .i64 0)))] [1,4,5]
 (.block 0
 (.loop
 (.seq
 (xS [xM 30 5,
xO 31 (.faB 0 1),
xO 32 (.faE 1 1 31),
xO 33 (.ldE 1 false 1 32),
xO 34 (.ln (.t 33)),
xO 35 (.bin .lss (.t 30) (.t 34))] [1,4,5,35]
 (.cond (.t 35)
 .skip
 (.exit 0)))
 (.seq
 (.block 1
 (xS [xO 38 (.faB 0 1),
xO 39 (.faE 1 1 38),
xO 40 (.ldE 1 false 1 39),
xM 41 5,
xO 42 (.ia 5 (.t 40) (.t 41)),
xO 43 (.ld 5 true (.t 42)),
xO 6 (.newL [(.int .i64 0),(.int .i64 0),(.int .i64 0),(.int .i64 0),(.int .i64 0)]),
⟨none,.stB 5 6 (.t 43),none⟩] [1,4,5,6]
 (.seq (.free true [xM 44 4,
xO 45 (.faB 0 6),
xO 46 (.ldE 1 false 6 45),
xO 47 (.call zQ [(.t 46)]),
xO 48 (.bin .add (.t 44) (.t 47)),
xO 49 (.faB 1 6),
xO 50 (.ldE 1 false 6 49),
xO 51 (.call zQ [(.t 50)]),
xO 52 (.bin .add (.t 48) (.t 51)),
xO 53 (.faB 2 6),
xO 54 (.ldE 1 false 6 53),
xO 55 (.call zQ [(.t 54)]),
xO 56 (.bin .add (.t 52) (.t 55)),
xO 57 (.faB 3 6),
xO 58 (.ldE 1 false 6 57),
xO 59 (.call zQ [(.t 58)]),
xO 60 (.bin .add (.t 56) (.t 59)),
xO 61 (.faB 4 6),
xO 62 (.ldE 1 false 6 61),
xO 63 (.call zQ [(.t 62)]),
xO 64 (.bin .add (.t 60) (.t 63)),
xM 4 64])
 (.keep [1,4,5]))))
 (.seq (.ops [xM 36 5,
xO 37 (.bin .add (.t 36) (.c (.int .i64 1))),
xM 5 37])
 (.keep [1,4,5])))))))
 (xS [xM 65 4,
xO 66 (.faB 2 1),
xO 67 (.ldE 1 false 1 66),
xO 68 (.ln (.t 67)),
xO 69 (.call zQ [(.t 68)]),
xO 70 (.bin .add (.t 65) (.t 69)),
xM 4 70] [1,4]
 (.seq
 (xS [xO 7 (.mov (.c (.int .i64 0)))] [1,4,7]
 (.block 2
 (.loop
 (.seq
 (xS [xM 71 7,
xO 72 (.faB 2 1),
xO 73 (.ldE 1 false 1 72),
xO 74 (.ln (.t 73)),
xO 75 (.bin .lss (.t 71) (.t 74))] [1,4,7,75]
 (.cond (.t 75)
 .skip
 (.exit 2)))
 (.seq
 (.block 3
 (.seq (.free false [xM 78 4,
xO 79 (.faB 2 1),
xO 80 (.ldE 1 false 1 79),
xM 81 7,
xO 82 (.ia 2 (.t 80) (.t 81)),
xO 83 (.fa 0 (.t 82)),
xO 84 (.ld 1 false (.t 83)),
xO 85 (.call zQ [(.t 84)]),
xO 86 (.bin .add (.t 78) (.t 85)),
xO 87 (.faB 2 1),
xO 88 (.ldE 1 false 1 87),
xM 89 7,
xO 90 (.ia 2 (.t 88) (.t 89)),
xO 91 (.fa 1 (.t 90)),
xO 92 (.ld 1 false (.t 91)),
xO 93 (.call zQ [(.t 92)]),
xO 94 (.bin .add (.t 86) (.t 93)),
xM 4 94])
 (.keep [1,4,7])))
 (.seq (.ops [xM 76 7,
xO 77 (.bin .add (.t 76) (.c (.int .i64 1))),
xM 7 77])
 (.keep [1,4,7])))))))
 (.seq
 (xS [xO 8 (.mov (.c (.int .i64 0)))] [1,4,8]
 (.block 4
 (.loop
 (.seq
 (xS [xM 95 8,
xO 96 (.faB 3 1),
xO 97 (.faE 0 1 96),
xO 98 (.ldE 1 false 1 97),
xO 99 (.ln (.t 98)),
xO 100 (.bin .lss (.t 95) (.t 99))] [1,4,8,100]
 (.cond (.t 100)
 .skip
 (.exit 4)))
 (.seq
 (.block 5
 (.seq (.ops [xM 103 4,
xO 104 (.faB 3 1),
xO 105 (.faE 0 1 104),
xO 106 (.ldE 1 false 1 105),
xM 107 8,
xO 108 (.ia 1 (.t 106) (.t 107)),
xO 109 (.ld 1 false (.t 108)),
xO 110 (.call zQ [(.t 109)]),
xO 111 (.bin .add (.t 103) (.t 110)),
xM 4 111])
 (.keep [1,4,8])))
 (.seq (.ops [xM 101 8,
xO 102 (.bin .add (.t 101) (.c (.int .i64 1))),
xM 8 102])
 (.keep [1,4,8])))))))
 (xS [xM 112 4,
xO 113 (.faB 3 1),
xO 114 (.faE 1 1 113),
xO 115 (.ldE 1 false 1 114),
xO 116 (.ln (.t 115)),
xO 117 (.call zQ [(.t 116)]),
xO 118 (.bin .add (.t 112) (.t 117)),
xM 4 118] [1,4]
 (.seq
 (xS [xO 9 (.mov (.c (.int .i64 0)))] [1,4,9]
 (.block 6
 (.loop
 (.seq
 (xS [xM 119 9,
xO 120 (.faB 3 1),
xO 121 (.faE 1 1 120),
xO 122 (.ldE 1 false 1 121),
xO 123 (.ln (.t 122)),
xO 124 (.bin .lss (.t 119) (.t 123))] [1,4,9,124]
 (.cond (.t 124)
 .skip
 (.exit 6)))
 (.seq
 (.block 7
 (xS [xO 127 (.faB 3 1),
xO 128 (.faE 1 1 127),
xO 129 (.ldE 1 false 1 128),
xM 130 9,
xO 131 (.ia 2 (.t 129) (.t 130)),
xO 132 (.ld 2 true (.t 131)),
xO 10 (.newL [(.slice none 0 0),(.int .i64 0)]),
⟨none,.stB 2 10 (.t 132),none⟩] [1,4,9,10]
 (xS [xM 133 4,
xO 134 (.faB 0 10),
xO 135 (.ldE 1 false 10 134),
xO 136 (.ln (.t 135)),
xO 137 (.call zQ [(.t 136)]),
xO 138 (.bin .add (.t 133) (.t 137)),
xM 4 138] [1,4,9,10]
 (.seq
 (xS [xO 11 (.mov (.c (.int .i64 0)))] [1,4,9,10,11]
 (.block 8
 (.loop
 (.seq
 (xS [xM 139 11,
xO 140 (.faB 0 10),
xO 141 (.ldE 1 false 10 140),
xO 142 (.ln (.t 141)),
xO 143 (.bin .lss (.t 139) (.t 142))] [1,4,9,10,11,143]
 (.cond (.t 143)
 .skip
 (.exit 8)))
 (.seq
 (.block 9
 (.seq (.ops [xM 146 4,
xO 147 (.faB 0 10),
xO 148 (.ldE 1 false 10 147),
xM 149 11,
xO 150 (.ia 1 (.t 148) (.t 149)),
xO 151 (.ld 1 false (.t 150)),
xO 152 (.call zQ [(.t 151)]),
xO 153 (.bin .add (.t 146) (.t 152)),
xM 4 153])
 (.keep [1,4,9,10,11])))
 (.seq (.ops [xM 144 11,
xO 145 (.bin .add (.t 144) (.c (.int .i64 1))),
xM 11 145])
 (.keep [1,4,9,10,11])))))))
 (.seq (.ops [xM 154 4,
xO 155 (.faB 1 10),
xO 156 (.ldE 1 false 10 155),
xO 157 (.call zQ [(.t 156)]),
xO 158 (.bin .add (.t 154) (.t 157)),
xM 4 158])
 (.keep [1,4,9]))))))
 (.seq (.ops [xM 125 9,
xO 126 (.bin .add (.t 125) (.c (.int .i64 1))),
xM 9 126])
 (.keep [1,4,9])))))))
 (xS [xM 159 4,
xM 2 159,
xO 3 (.mov (.c (.bool true)))] [2,3]
 .ret)))))))))),
 [(.slot 2),(.slot 3)]⟩
def wA : Fun := ⟨2,
(xS [xO 4 (.mov (.c (.string ⟨⟨[]⟩⟩)))] [0,1]
 (.seq
 (xS [xM 6 0,
xO 7 (.call zJ [(.t 6),(.c (.int .i64 12))])] [0,1,7]
 (.block 0
 (xS [xO 9 (.bin .eql (.t 7) (.c (.int .i64 0))),
xM 8 9] [0,1,7,8]
 (.cond (.t 8)
 (xS [xM 10 1,
xM 11 0,
xO 12 (.call qO [(.t 11),(.c (.int .i64 1))]),
xO 13 (.bin .add (.t 10) (.t 12)),
xM 4 13] [4]
 .ret)
 (xS [xO 15 (.bin .eql (.t 7) (.c (.int .i64 1))),
xM 14 15] [0,1,7,14]
 (.cond (.t 14)
 (xS [xM 16 1,
xM 17 0,
xM 18 1,
xO 19 (.lnS (.t 18)),
xO 20 (.bin .add (.t 19) (.c (.int .i64 1))),
xO 21 (.call zJ [(.t 17),(.t 20)]),
xO 22 (.slS (.t 16) none (some (.t 21))),
xM 4 22] [4]
 .ret)
 (.seq
 (xS [xO 24 (.bin .eql (.t 7) (.c (.int .i64 2))),
xM 23 24] [0,1,7,23]
 (.cond (.t 23)
 .skip
 (.seq (.ops [xO 25 (.bin .eql (.t 7) (.c (.int .i64 3))),
xM 23 25])
 (.keep [0,1,23]))))
 (.cond (.t 23)
 (xS [xM 26 1,
xO 27 (.lnS (.t 26)),
xO 28 (.bin .gtr (.t 27) (.c (.int .i64 0)))] [0,1,28]
 (.cond (.t 28)
 (xS [xM 29 0,
xM 30 1,
xO 31 (.lnS (.t 30)),
xO 32 (.call zJ [(.t 29),(.t 31)]),
xM 5 32] [0,1,5]
 (.seq
 (.seq (.free true [xM 33 1,
xM 34 5,
xO 35 (.slS (.t 33) none (some (.t 34))),
xM 36 0,
xO 37 (.call qO [(.t 36),(.c (.int .i64 1))]),
xO 38 (.bin .add (.t 35) (.t 37)),
xM 39 1,
xM 40 5,
xO 41 (.bin .add (.t 40) (.c (.int .i64 1))),
xO 42 (.slS (.t 39) (some (.t 41)) none),
xO 43 (.bin .add (.t 38) (.t 42)),
xM 4 43])
 (.keep [4]))
 .ret))
 .skip))
 .skip))))))))
 (xS [xM 44 1,
xM 4 44] [4]
 .ret))),
 [(.slot 4)]⟩
def Vu : Fun := ⟨1,
(xS [xO 2 (.mov (.c (.int .i64 0)))] [0]
 (.seq
 (.seq (.free true [xM 7 0,
xO 8 (.chk (.t 7)),
xO 9 (.fa 0 (.t 8)),
xO 10 (.ld 1 false (.t 9)),
xM 11 0,
xO 12 (.chk (.t 11)),
xO 13 (.fa 1 (.t 12)),
xO 14 (.ld 1 false (.t 13)),
xO 15 (.call vI [(.t 10),(.t 14)]),
xM 6 15,
xO 16 (.ext 0 (.t 6)),
xO 17 (.ext 1 (.t 6)),
xO 18 (.ext 2 (.t 6)),
xM 3 16,
xM 4 17,
xM 5 18])
 (.keep [0,3,4,5]))
 (.seq
 (xS [xM 19 0,
xO 20 (.chk (.t 19)),
xO 21 (.fa 2 (.t 20)),
xO 22 (.ld 1 false (.t 21)),
xM 23 22,
xG 24 (.mov (.t 5)) 23 false,
xG 25 (.un .not (.t 24)) 23 false,
xO 26 (.pick (.t 23) (.c (.bool true)) (.t 25))] [0,3,4,26]
 (.cond (.t 26)
 (xS [xM 27 0,
xO 28 (.chk (.t 27)),
xO 29 (.fa 2 (.t 28)),
⟨none,.st 1 (.t 29) (.c (.bool true)),none⟩] []
 (xS [xO 2 (.mov (.c (.int .i64 0)))] [2]
 .ret))
 .skip))
 (xS [xM 30 0,
xM 31 4,
xO 32 (.chk (.t 30)),
xO 33 (.fa 1 (.t 32)),
⟨none,.st 1 (.t 33) (.t 31),none⟩] [3]
 (xS [xM 34 3,
xM 2 34] [2]
 .ret))))),
 [(.slot 2)]⟩
def W8 : Fun := ⟨2,
(xS [xO 4 (.mov (.c (.string ⟨⟨[]⟩⟩)))] [0,1]
 (.seq
 (xS [xM 7 1,
xO 8 (.bin .gtr (.t 7) (.c (.int .i64 5000)))] [0,1,8]
 (.cond (.t 8)
 (.seq (.ops [xO 1 (.mov (.c (.int .i64 5000)))])
 (.keep [0,1]))
 .skip))
 (xS [xO 9 (.lit 0 1 VS [(.int .u8 0)] []),
xM 5 9] [0,1,5]
 (.seq
 (xS [xO 6 (.mov (.c (.int .i64 0)))] [0,1,5,6]
 (.block 0
 (.loop
 (.seq
 (xS [xM 10 6,
xM 11 1,
xO 12 (.bin .lss (.t 10) (.t 11))] [0,1,5,6,12]
 (.cond (.t 12)
 .skip
 (.exit 0)))
 (.seq
 (.block 1
 (.seq (.ops [xM 15 5,
xM 16 0,
xO 17 (.call ZM [(.t 16)]),
xO 18 (.conv .u8 (.t 17)),
xO 19 (.litL 1 1 [(.int .u8 0)] [(0,(.t 18))]),
xO 20 (.appL 1 VS 1 1 (.t 15) 19),
xM 5 20])
 (.keep [0,1,5,6])))
 (.seq (.ops [xM 13 6,
xO 14 (.bin .add (.t 13) (.c (.int .i64 1))),
xM 6 14])
 (.keep [0,1,5,6])))))))
 (xS [xM 21 5,
xO 22 (.str (.t 21)),
xM 4 22] [4]
 .ret))))),
 [(.slot 4)]⟩
def Q2 : Fun := ⟨2,
(xS [xO 4 (.mov (.c (.int .i64 0)))] [0,1]
 (xS [xM 5 1,
xM 6 0,
xM 7 1,
xO 8 (.ln (.t 7)),
xO 9 (.call zJ [(.t 6),(.t 8)]),
xO 10 (.ia 1 (.t 5) (.t 9)),
xO 11 (.ld 1 false (.t 10)),
xM 4 11] [4]
 .ret)),
 [(.slot 4)]⟩
def W6 : Fun := ⟨1,
(xS [xO 2 (.mov (.c (.int .i64 0)))] [0]
 (xS [xM 4 0,
xM 5 0,
xO 6 (.chk (.t 5)),
xO 7 (.fa 2 (.t 6)),
xO 8 (.ld 1 false (.t 7)),
xO 9 (.bin .mul (.t 8) (.c (.int .i64 6364136223846793005))),
xO 10 (.bin .add (.t 9) (.c (.int .i64 1442695040888963407))),
xO 11 (.chk (.t 4)),
xO 12 (.fa 2 (.t 11)),
⟨none,.st 1 (.t 12) (.t 10),none⟩] [0]
 (.seq
 (.seq (.free true [xM 13 0,
xO 14 (.chk (.t 13)),
xO 15 (.fa 2 (.t 14)),
xO 16 (.ld 1 false (.t 15)),
xO 17 (.bin .shr (.t 16) (.c (.int .u64 33))),
xM 18 0,
xO 19 (.chk (.t 18)),
xO 20 (.fa 2 (.t 19)),
xO 21 (.ld 1 false (.t 20)),
xO 22 (.bin .shr (.t 21) (.c (.int .u64 45))),
xO 23 (.bin .xor (.t 17) (.t 22)),
xO 24 (.bin .and (.t 23) (.c (.int .i64 255))),
xM 3 24])
 (.keep [0,3]))
 (.seq
 (.seq
 (.seq (.free true [xM 25 0,
xO 26 (.chk (.t 25)),
xO 27 (.fa 1 (.t 26)),
xO 28 (.ld 1 false (.t 27)),
xM 29 0,
xO 30 (.chk (.t 29)),
xO 31 (.fa 0 (.t 30)),
xO 32 (.ld 1 false (.t 31)),
xO 33 (.ln (.t 32)),
xO 34 (.bin .lss (.t 28) (.t 33))])
 (.keep [0,3,34]))
 (.cond (.t 34)
 (.seq
 (.seq (.free true [xM 35 3,
xM 36 0,
xO 37 (.chk (.t 36)),
xO 38 (.fa 0 (.t 37)),
xO 39 (.ld 1 false (.t 38)),
xM 40 0,
xO 41 (.chk (.t 40)),
xO 42 (.fa 1 (.t 41)),
xO 43 (.ld 1 false (.t 42)),
xO 44 (.ia 1 (.t 39) (.t 43)),
xO 45 (.ld 1 false (.t 44)),
xO 46 (.conv .i64 (.t 45)),
xO 47 (.bin .add (.t 35) (.t 46)),
xO 48 (.bin .and (.t 47) (.c (.int .i64 255))),
xM 3 48])
 (.keep [0,3]))
 (.seq (.ops [xM 49 0,
xM 50 0,
xO 51 (.chk (.t 50)),
xO 52 (.fa 1 (.t 51)),
xO 53 (.ld 1 false (.t 52)),
xO 54 (.bin .add (.t 53) (.c (.int .i64 1))),
xO 55 (.chk (.t 49)),
xO 56 (.fa 1 (.t 55)),
⟨none,.st 1 (.t 56) (.t 54),none⟩])
 (.keep [3])))
 .skip))
 (xS [xM 57 3,
xM 2 57] [2]
 .ret))))),
 [(.slot 2)]⟩
def Wl : Fun := ⟨1,
(xS [xO 2 (.mov (.c (.bool false)))] [0]
 (xS [xM 3 0,
xO 4 (.call qA [(.t 3),(.c (.int .i64 0)),(.c (.int .i64 50))]),
xM 2 4] [2]
 .ret)),
 [(.slot 2)]⟩
end Go.Proofs.Ytafhipglhnfgnaa.Ab
