/- The functions, as they are read. No conditions. -/
import Derived.Test.YtlndlccbecnjoaaFN
namespace Go.Proofs.Ytlndlccbecnjoaa.Ab
/-- laws FnExactCertParts -/
def F_laws_FnExactCertParts : Fun := ⟨1,
 (.seq
 (.seq (.ops [⟨(some 2), (.mov (.c (.bool false))), none⟩])
 (.keep [0]))
 (.seq
 (.seq
 (.seq (.ops [⟨(some 8), (.mov (.t 0)), none⟩,
 ⟨(some 9), (.lnS (.t 8)), none⟩,
 ⟨(some 10), (.bin .gtr (.t 9) (.c (.int .i64 1048576))), none⟩])
 (.keep [0, 10]))
 (.cond (.t 10)
 (.seq
 (.seq (.ops [⟨(some 2), (.mov (.c (.bool true))), none⟩])
 (.keep [2]))
 .ret)
 .skip))
 (.seq
 (.seq (.ops [⟨(some 11), (.mov (.t 0)), none⟩,
 ⟨(some 12), (.call n_spec_CertParts [(.t 11)]), none⟩,
 ⟨(some 3), (.mov (.t 12)), none⟩])
 (.keep [0, 3]))
 (.seq
 (.seq (.ops [⟨(some 13), (.mov (.t 0)), none⟩,
 ⟨(some 14), (.call n_impl_CertParts [(.t 13)]), none⟩,
 ⟨(some 4), (.mov (.t 14)), none⟩])
 (.keep [0, 3, 4]))
 (.seq
 (.seq
 (.seq (.ops [⟨(some 15), (.mov (.t 4)), none⟩,
 ⟨(some 16), (.mov (.t 3)), none⟩,
 ⟨(some 17), (.call n_laws_eqStringS [(.t 15), (.t 16)]), none⟩,
 ⟨(some 18), (.un .not (.t 17)), none⟩])
 (.keep [0, 3, 4, 18]))
 (.cond (.t 18)
 (.seq
 (.seq (.ops [⟨(some 2), (.mov (.c (.bool false))), none⟩])
 (.keep [2]))
 .ret)
 .skip))
 (.seq
 (.seq (.ops [⟨(some 5), (.mov (.c (.int .i64 1))), none⟩])
 (.keep [0, 3, 4, 5]))
 (.seq
 (.seq (.ops [⟨(some 19), (.mov (.t 4)), none⟩,
 ⟨(some 20), (.mov (.t 5)), none⟩,
 ⟨(some 21), (.call n_laws_markStringS [(.t 19), (.t 20)]), none⟩,
 ⟨(some 5), (.mov (.t 21)), none⟩])
 (.keep [0, 3, 4, 5]))
 (.seq
 (.seq (.ops [⟨(some 6), (.mov (.c (.int .i64 1))), none⟩])
 (.keep [0, 3, 4, 5, 6]))
 (.seq
 (.seq (.ops [⟨(some 22), (.mov (.t 4)), none⟩,
 ⟨(some 23), (.mov (.t 6)), none⟩,
 ⟨(some 24), (.call n_laws_heldStringS [(.t 22), (.t 23)]), none⟩,
 ⟨(some 6), (.mov (.t 24)), none⟩])
 (.keep [0, 3, 4, 5, 6]))
 (.seq
 (.seq
 (.seq (.ops [⟨(some 25), (.mov (.t 6)), none⟩,
 ⟨(some 26), (.bin .lss (.t 25) (.c (.int .i64 0))), none⟩])
 (.keep [0, 3, 4, 5, 6, 26]))
 (.cond (.t 26)
 (.seq
 (.seq (.ops [⟨(some 2), (.mov (.c (.bool false))), none⟩])
 (.keep [2]))
 .ret)
 .skip))
 (.seq
 (.seq
 (.seq (.ops [⟨(some 27), (.mov (.t 6)), none⟩,
 ⟨(some 28), (.mov (.t 5)), none⟩,
 ⟨(some 29), (.bin .neq (.t 27) (.t 28)), none⟩])
 (.keep [0, 3, 4, 5, 29]))
 (.cond (.t 29)
 (.seq
 (.seq (.ops [⟨(some 2), (.mov (.c (.bool false))), none⟩])
 (.keep [2]))
 .ret)
 .skip))
 (.seq
 (.seq (.ops [⟨(some 30), (.mov (.t 0)), none⟩,
 ⟨(some 31), (.call n_impl_CertParts [(.t 30)]), none⟩,
 ⟨(some 7), (.mov (.t 31)), none⟩])
 (.keep [3, 4, 5, 7]))
 (.seq
 (.seq
 (.seq (.ops [⟨(some 32), (.mov (.t 7)), none⟩,
 ⟨(some 33), (.mov (.t 3)), none⟩,
 ⟨(some 34), (.call n_laws_eqStringS [(.t 32), (.t 33)]), none⟩,
 ⟨(some 35), (.un .not (.t 34)), none⟩])
 (.keep [4, 5, 35]))
 (.cond (.t 35)
 (.seq
 (.seq (.ops [⟨(some 2), (.mov (.c (.bool false))), none⟩])
 (.keep [2]))
 .ret)
 .skip))
 (.seq
 (.seq (.ops [⟨(some 6), (.mov (.c (.int .i64 1))), none⟩])
 (.keep [4, 5, 6]))
 (.seq
 (.seq (.ops [⟨(some 36), (.mov (.t 4)), none⟩,
 ⟨(some 37), (.mov (.t 6)), none⟩,
 ⟨(some 38), (.call n_laws_heldStringS [(.t 36), (.t 37)]), none⟩,
 ⟨(some 6), (.mov (.t 38)), none⟩])
 (.keep [5, 6]))
 (.seq
 (.seq
 (.seq (.ops [⟨(some 39), (.mov (.t 6)), none⟩,
 ⟨(some 40), (.bin .lss (.t 39) (.c (.int .i64 0))), none⟩])
 (.keep [5, 6, 40]))
 (.cond (.t 40)
 (.seq
 (.seq (.ops [⟨(some 2), (.mov (.c (.bool false))), none⟩])
 (.keep [2]))
 .ret)
 .skip))
 (.seq
 (.seq
 (.seq (.ops [⟨(some 41), (.mov (.t 6)), none⟩,
 ⟨(some 42), (.mov (.t 5)), none⟩,
 ⟨(some 43), (.bin .neq (.t 41) (.t 42)), none⟩])
 (.keep [43]))
 (.cond (.t 43)
 (.seq
 (.seq (.ops [⟨(some 2), (.mov (.c (.bool false))), none⟩])
 (.keep [2]))
 .ret)
 .skip))
 (.seq
 (.seq (.ops [⟨(some 2), (.mov (.c (.bool true))), none⟩])
 (.keep [2]))
 .ret)))))))))))))))))),
 [(.slot 2)]⟩
/-- laws FnExactDeedOk -/
def F_laws_FnExactDeedOk : Fun := ⟨1,
 (.seq
 (.seq (.ops [⟨(some 1), (.boxL 6 (.t 0)), none⟩,
 ⟨(some 2), (.mov (.c (.bool false))), none⟩])
 (.keep [1]))
 (.seq
 (.seq (.ops [⟨(some 3), (.mov (.c (.int .i64 1048576))), none⟩])
 (.keep [1, 3]))
 (.seq
 (.seq (.ops [⟨(some 7), (.ldB 6 true 1), none⟩,
 ⟨(some 8), (.mov (.t 3)), none⟩,
 ⟨(some 9), (.call n_laws_szDeed [(.t 7), (.t 8)]), none⟩,
 ⟨(some 3), (.mov (.t 9)), none⟩])
 (.keep [1, 3]))
 (.seq
 (.seq
 (.seq (.ops [⟨(some 10), (.mov (.t 3)), none⟩,
 ⟨(some 11), (.bin .lss (.t 10) (.c (.int .i64 0))), none⟩])
 (.keep [1, 11]))
 (.cond (.t 11)
 (.seq
 (.seq (.ops [⟨(some 2), (.mov (.c (.bool true))), none⟩])
 (.keep [2]))
 .ret)
 .skip))
 (.seq
 (.seq (.ops [⟨(some 12), (.ldB 6 true 1), none⟩,
 ⟨(some 13), (.call n_laws_toDeed [(.t 12)]), none⟩,
 ⟨(some 14), (.call n_spec_DeedOk [(.t 13)]), none⟩,
 ⟨(some 4), (.mov (.t 14)), none⟩])
 (.keep [1, 4]))
 (.seq
 (.seq (.ops [⟨(some 15), (.ldB 6 true 1), none⟩,
 ⟨(some 16), (.call n_laws_toDeed [(.t 15)]), none⟩,
 ⟨(some 5), (.newL [(.string ⟨⟨[]⟩⟩), (.bool false), (.int .i64 0), (.slice none 0 0), (.int .i64 0), (.int .i64 0)]), none⟩,
 ⟨none, (.stB 6 5 (.t 16)), none⟩])
 (.keep [1, 4, 5]))
 (.seq
 (.seq (.ops [⟨(some 17), (.ldB 6 true 5), none⟩,
 ⟨(some 18), (.call n_impl_DeedOk [(.t 17)]), none⟩,
 ⟨(some 6), (.mov (.t 18)), none⟩])
 (.keep [1, 4, 5, 6]))
 (.seq
 (.seq
 (.seq (.ops [⟨(some 19), (.mov (.t 6)), none⟩,
 ⟨(some 20), (.mov (.t 4)), none⟩,
 ⟨(some 21), (.binB .neq (.t 19) (.t 20)), none⟩])
 (.keep [1, 5, 21]))
 (.cond (.t 21)
 (.seq
 (.seq (.ops [⟨(some 2), (.mov (.c (.bool false))), none⟩])
 (.keep [2]))
 .ret)
 .skip))
 (.seq
 (.seq
 (.seq (.free true [⟨(some 22), (.ldB 6 true 5), none⟩,
 ⟨(some 23), (.ldB 6 true 1), none⟩,
 ⟨(some 24), (.call n_laws_toDeed [(.t 23)]), none⟩,
 ⟨(some 25), (.call n_laws_eqDeed [(.t 22), (.t 24)]), none⟩,
 ⟨(some 26), (.un .not (.t 25)), none⟩])
 (.keep [26]))
 (.cond (.t 26)
 (.seq
 (.seq (.ops [⟨(some 2), (.mov (.c (.bool false))), none⟩])
 (.keep [2]))
 .ret)
 .skip))
 (.seq
 (.seq (.ops [⟨(some 2), (.mov (.c (.bool true))), none⟩])
 (.keep [2]))
 .ret)))))))))),
 [(.slot 2)]⟩
/-- laws FnExactAskText -/
def F_laws_FnExactAskText : Fun := ⟨1,
 (.seq
 (.seq (.ops [⟨(some 1), (.boxL 6 (.t 0)), none⟩,
 ⟨(some 2), (.mov (.c (.bool false))), none⟩])
 (.keep [1]))
 (.seq
 (.seq (.ops [⟨(some 8), (.ldB 6 true 1), none⟩,
 ⟨(some 9), (.call n_laws_toAsk [(.t 8)]), none⟩,
 ⟨(some 10), (.call n_spec_AskText [(.t 9)]), none⟩,
 ⟨(some 7), (.mov (.t 10)), none⟩,
 ⟨(some 11), (.ext 0 (.t 7)), none⟩,
 ⟨(some 12), (.ext 1 (.t 7)), none⟩,
 ⟨(some 3), (.mov (.t 11)), none⟩,
 ⟨(some 4), (.mov (.t 12)), none⟩])
 (.keep [1, 3, 4]))
 (.seq
 (.seq (.ops [⟨(some 14), (.ldB 6 true 1), none⟩,
 ⟨(some 15), (.call n_laws_toAsk [(.t 14)]), none⟩,
 ⟨(some 16), (.call n_impl_AskText [(.t 15)]), none⟩,
 ⟨(some 13), (.mov (.t 16)), none⟩,
 ⟨(some 17), (.ext 0 (.t 13)), none⟩,
 ⟨(some 18), (.ext 1 (.t 13)), none⟩,
 ⟨(some 5), (.mov (.t 17)), none⟩,
 ⟨(some 6), (.mov (.t 18)), none⟩])
 (.keep [3, 4, 5, 6]))
 (.seq
 (.seq
 (.seq (.ops [⟨(some 19), (.mov (.t 5)), none⟩,
 ⟨(some 20), (.mov (.t 3)), none⟩,
 ⟨(some 21), (.bin .neq (.t 19) (.t 20)), none⟩,
 ⟨(some 22), (.mov (.t 21)), none⟩,
 ⟨(some 23), (.mov (.t 6)), (some (22, false))⟩,
 ⟨(some 24), (.mov (.t 4)), (some (22, false))⟩,
 ⟨(some 25), (.binB .neq (.t 23) (.t 24)), (some (22, false))⟩,
 ⟨(some 26), (.pick (.t 22) (.c (.bool true)) (.t 25)), none⟩])
 (.keep [26]))
 (.cond (.t 26)
 (.seq
 (.seq (.ops [⟨(some 2), (.mov (.c (.bool false))), none⟩])
 (.keep [2]))
 .ret)
 .skip))
 (.seq
 (.seq (.ops [⟨(some 2), (.mov (.c (.bool true))), none⟩])
 (.keep [2]))
 .ret))))),
 [(.slot 2)]⟩
/-- laws FnExactReadAsk -/
def F_laws_FnExactReadAsk : Fun := ⟨1,
 (.seq
 (.seq (.ops [⟨(some 2), (.mov (.c (.bool false))), none⟩])
 (.keep [0]))
 (.seq
 (.seq
 (.seq (.ops [⟨(some 7), (.mov (.t 0)), none⟩,
 ⟨(some 8), (.lnS (.t 7)), none⟩,
 ⟨(some 9), (.bin .gtr (.t 8) (.c (.int .i64 1048576))), none⟩])
 (.keep [0, 9]))
 (.cond (.t 9)
 (.seq
 (.seq (.ops [⟨(some 2), (.mov (.c (.bool true))), none⟩])
 (.keep [2]))
 .ret)
 .skip))
 (.seq
 (.seq (.ops [⟨(some 11), (.mov (.t 0)), none⟩,
 ⟨(some 12), (.call n_spec_ReadAsk [(.t 11)]), none⟩,
 ⟨(some 10), (.mov (.t 12)), none⟩,
 ⟨(some 13), (.ext 0 (.t 10)), none⟩,
 ⟨(some 14), (.ext 1 (.t 10)), none⟩,
 ⟨(some 3), (.newL [(.int .i64 0), (.int .i64 0), (.int .i64 0), (.int .i64 0), (.int .i64 0), (.int .i64 0)]), none⟩,
 ⟨none, (.stB 6 3 (.t 13)), none⟩,
 ⟨(some 4), (.mov (.t 14)), none⟩])
 (.keep [0, 3, 4]))
 (.seq
 (.seq (.ops [⟨(some 16), (.mov (.t 0)), none⟩,
 ⟨(some 17), (.call n_impl_ReadAsk [(.t 16)]), none⟩,
 ⟨(some 15), (.mov (.t 17)), none⟩,
 ⟨(some 18), (.ext 0 (.t 15)), none⟩,
 ⟨(some 19), (.ext 1 (.t 15)), none⟩,
 ⟨(some 5), (.newL [(.int .i64 0), (.int .i64 0), (.int .i64 0), (.int .i64 0), (.int .i64 0), (.int .i64 0)]), none⟩,
 ⟨none, (.stB 6 5 (.t 18)), none⟩,
 ⟨(some 6), (.mov (.t 19)), none⟩])
 (.keep [3, 4, 5, 6]))
 (.seq
 (.seq
 (.seq (.ops [⟨(some 20), (.ldB 6 true 5), none⟩,
 ⟨(some 21), (.ldB 6 true 3), none⟩,
 ⟨(some 22), (.call n_laws_eqAsk [(.t 20), (.t 21)]), none⟩,
 ⟨(some 23), (.un .not (.t 22)), none⟩,
 ⟨(some 24), (.mov (.t 23)), none⟩,
 ⟨(some 25), (.mov (.t 6)), (some (24, false))⟩,
 ⟨(some 26), (.mov (.t 4)), (some (24, false))⟩,
 ⟨(some 27), (.binB .neq (.t 25) (.t 26)), (some (24, false))⟩,
 ⟨(some 28), (.pick (.t 24) (.c (.bool true)) (.t 27)), none⟩])
 (.keep [28]))
 (.cond (.t 28)
 (.seq
 (.seq (.ops [⟨(some 2), (.mov (.c (.bool false))), none⟩])
 (.keep [2]))
 .ret)
 .skip))
 (.seq
 (.seq (.ops [⟨(some 2), (.mov (.c (.bool true))), none⟩])
 (.keep [2]))
 .ret)))))),
 [(.slot 2)]⟩
/-- laws FnExactNeighbours -/
def F_laws_FnExactNeighbours : Fun := ⟨2,
 (.seq
 (.seq (.ops [⟨(some 2), (.boxL 2 (.t 0)), none⟩,
 ⟨(some 4), (.mov (.c (.bool false))), none⟩])
 (.keep [1, 2]))
 (.seq
 (.seq (.ops [⟨(some 5), (.mov (.c (.int .i64 1048576))), none⟩])
 (.keep [1, 2, 5]))
 (.seq
 (.seq (.ops [⟨(some 13), (.ldB 2 true 2), none⟩,
 ⟨(some 14), (.mov (.t 5)), none⟩,
 ⟨(some 15), (.call n_laws_szGraph [(.t 13), (.t 14)]), none⟩,
 ⟨(some 5), (.mov (.t 15)), none⟩])
 (.keep [1, 2, 5]))
 (.seq
 (.seq
 (.seq (.ops [⟨(some 16), (.mov (.t 5)), none⟩,
 ⟨(some 17), (.bin .lss (.t 16) (.c (.int .i64 0))), none⟩])
 (.keep [1, 2, 17]))
 (.cond (.t 17)
 (.seq
 (.seq (.ops [⟨(some 4), (.mov (.c (.bool true))), none⟩])
 (.keep [4]))
 .ret)
 .skip))
 (.seq
 (.seq (.ops [⟨(some 18), (.ldB 2 true 2), none⟩,
 ⟨(some 19), (.call n_laws_toGraph [(.t 18)]), none⟩,
 ⟨(some 20), (.mov (.t 1)), none⟩,
 ⟨(some 21), (.call n_spec_Neighbours [(.t 19), (.t 20)]), none⟩,
 ⟨(some 6), (.mov (.t 21)), none⟩])
 (.keep [1, 2, 6]))
 (.seq
 (.seq (.ops [⟨(some 22), (.ldB 2 true 2), none⟩,
 ⟨(some 23), (.call n_laws_toGraph [(.t 22)]), none⟩,
 ⟨(some 7), (.newL [(.int .i64 0), (.slice none 0 0)]), none⟩,
 ⟨none, (.stB 2 7 (.t 23)), none⟩])
 (.keep [1, 2, 6, 7]))
 (.seq
 (.seq (.ops [⟨(some 24), (.ldB 2 true 7), none⟩,
 ⟨(some 25), (.mov (.t 1)), none⟩,
 ⟨(some 26), (.call n_impl_Neighbours [(.t 24), (.t 25)]), none⟩,
 ⟨(some 8), (.mov (.t 26)), none⟩])
 (.keep [1, 2, 6, 7, 8]))
 (.seq
 (.seq
 (.seq (.ops [⟨(some 27), (.mov (.t 8)), none⟩,
 ⟨(some 28), (.mov (.t 6)), none⟩,
 ⟨(some 29), (.call n_laws_eqIntS [(.t 27), (.t 28)]), none⟩,
 ⟨(some 30), (.un .not (.t 29)), none⟩])
 (.keep [1, 2, 6, 7, 8, 30]))
 (.cond (.t 30)
 (.seq
 (.seq (.ops [⟨(some 4), (.mov (.c (.bool false))), none⟩])
 (.keep [4]))
 .ret)
 .skip))
 (.seq
 (.seq
 (.seq (.free true [⟨(some 31), (.ldB 2 true 7), none⟩,
 ⟨(some 32), (.ldB 2 true 2), none⟩,
 ⟨(some 33), (.call n_laws_toGraph [(.t 32)]), none⟩,
 ⟨(some 34), (.call n_laws_eqGraph [(.t 31), (.t 33)]), none⟩,
 ⟨(some 35), (.un .not (.t 34)), none⟩])
 (.keep [1, 2, 6, 7, 8, 35]))
 (.cond (.t 35)
 (.seq
 (.seq (.ops [⟨(some 4), (.mov (.c (.bool false))), none⟩])
 (.keep [4]))
 .ret)
 .skip))
 (.seq
 (.seq (.ops [⟨(some 9), (.mov (.c (.int .i64 1))), none⟩])
 (.keep [1, 2, 6, 7, 8, 9]))
 (.seq
 (.seq (.ops [⟨(some 36), (.ldB 2 true 7), none⟩,
 ⟨(some 37), (.mov (.t 9)), none⟩,
 ⟨(some 38), (.call n_laws_markGraph [(.t 36), (.t 37)]), none⟩,
 ⟨(some 9), (.mov (.t 38)), none⟩])
 (.keep [1, 2, 6, 8, 9]))
 (.seq
 (.seq
 (.seq (.ops [⟨(some 39), (.mov (.t 9)), none⟩,
 ⟨(some 40), (.bin .lss (.t 39) (.c (.int .i64 0))), none⟩,
 ⟨(some 41), (.mov (.t 40)), none⟩,
 ⟨(some 42), (.mov (.t 8)), (some (41, false))⟩,
 ⟨(some 43), (.mov (.t 6)), (some (41, false))⟩,
 ⟨(some 44), (.call n_laws_eqIntS [(.t 42), (.t 43)]), (some (41, false))⟩,
 ⟨(some 45), (.un .not (.t 44)), (some (41, false))⟩,
 ⟨(some 46), (.pick (.t 41) (.c (.bool true)) (.t 45)), none⟩])
 (.keep [1, 2, 6, 8, 46]))
 (.cond (.t 46)
 (.seq
 (.seq (.ops [⟨(some 4), (.mov (.c (.bool false))), none⟩])
 (.keep [4]))
 .ret)
 .skip))
 (.seq
 (.seq (.ops [⟨(some 10), (.mov (.c (.int .i64 1))), none⟩])
 (.keep [1, 2, 6, 8, 10]))
 (.seq
 (.seq (.ops [⟨(some 47), (.mov (.t 8)), none⟩,
 ⟨(some 48), (.mov (.t 10)), none⟩,
 ⟨(some 49), (.call n_laws_markIntS [(.t 47), (.t 48)]), none⟩,
 ⟨(some 10), (.mov (.t 49)), none⟩])
 (.keep [1, 2, 6, 8, 10]))
 (.seq
 (.seq (.ops [⟨(some 11), (.mov (.c (.int .i64 1))), none⟩])
 (.keep [1, 2, 6, 8, 10, 11]))
 (.seq
 (.seq (.ops [⟨(some 50), (.mov (.t 8)), none⟩,
 ⟨(some 51), (.mov (.t 11)), none⟩,
 ⟨(some 52), (.call n_laws_heldIntS [(.t 50), (.t 51)]), none⟩,
 ⟨(some 11), (.mov (.t 52)), none⟩])
 (.keep [1, 2, 6, 8, 10, 11]))
 (.seq
 (.seq
 (.seq (.ops [⟨(some 53), (.mov (.t 11)), none⟩,
 ⟨(some 54), (.bin .lss (.t 53) (.c (.int .i64 0))), none⟩])
 (.keep [1, 2, 6, 8, 10, 11, 54]))
 (.cond (.t 54)
 (.seq
 (.seq (.ops [⟨(some 4), (.mov (.c (.bool false))), none⟩])
 (.keep [4]))
 .ret)
 .skip))
 (.seq
 (.seq
 (.seq (.ops [⟨(some 55), (.mov (.t 11)), none⟩,
 ⟨(some 56), (.mov (.t 10)), none⟩,
 ⟨(some 57), (.bin .neq (.t 55) (.t 56)), none⟩])
 (.keep [1, 2, 6, 8, 10, 57]))
 (.cond (.t 57)
 (.seq
 (.seq (.ops [⟨(some 4), (.mov (.c (.bool false))), none⟩])
 (.keep [4]))
 .ret)
 .skip))
 (.seq
 (.seq (.ops [⟨(some 58), (.ldB 2 true 2), none⟩,
 ⟨(some 59), (.call n_laws_toGraph [(.t 58)]), none⟩,
 ⟨(some 60), (.mov (.t 1)), none⟩,
 ⟨(some 61), (.call n_impl_Neighbours [(.t 59), (.t 60)]), none⟩,
 ⟨(some 12), (.mov (.t 61)), none⟩])
 (.keep [6, 8, 10, 12]))
 (.seq
 (.seq
 (.seq (.ops [⟨(some 62), (.mov (.t 12)), none⟩,
 ⟨(some 63), (.mov (.t 6)), none⟩,
 ⟨(some 64), (.call n_laws_eqIntS [(.t 62), (.t 63)]), none⟩,
 ⟨(some 65), (.un .not (.t 64)), none⟩])
 (.keep [8, 10, 65]))
 (.cond (.t 65)
 (.seq
 (.seq (.ops [⟨(some 4), (.mov (.c (.bool false))), none⟩])
 (.keep [4]))
 .ret)
 .skip))
 (.seq
 (.seq (.ops [⟨(some 11), (.mov (.c (.int .i64 1))), none⟩])
 (.keep [8, 10, 11]))
 (.seq
 (.seq (.ops [⟨(some 66), (.mov (.t 8)), none⟩,
 ⟨(some 67), (.mov (.t 11)), none⟩,
 ⟨(some 68), (.call n_laws_heldIntS [(.t 66), (.t 67)]), none⟩,
 ⟨(some 11), (.mov (.t 68)), none⟩])
 (.keep [10, 11]))
 (.seq
 (.seq
 (.seq (.ops [⟨(some 69), (.mov (.t 11)), none⟩,
 ⟨(some 70), (.bin .lss (.t 69) (.c (.int .i64 0))), none⟩])
 (.keep [10, 11, 70]))
 (.cond (.t 70)
 (.seq
 (.seq (.ops [⟨(some 4), (.mov (.c (.bool false))), none⟩])
 (.keep [4]))
 .ret)
 .skip))
 (.seq
 (.seq
 (.seq (.ops [⟨(some 71), (.mov (.t 11)), none⟩,
 ⟨(some 72), (.mov (.t 10)), none⟩,
 ⟨(some 73), (.bin .neq (.t 71) (.t 72)), none⟩])
 (.keep [73]))
 (.cond (.t 73)
 (.seq
 (.seq (.ops [⟨(some 4), (.mov (.c (.bool false))), none⟩])
 (.keep [4]))
 .ret)
 .skip))
 (.seq
 (.seq (.ops [⟨(some 4), (.mov (.c (.bool true))), none⟩])
 (.keep [4]))
 .ret))))))))))))))))))))))))),
 [(.slot 4)]⟩
/-- laws FnExactOddParts -/
def F_laws_FnExactOddParts : Fun := ⟨2,
 (.seq
 (.seq (.ops [⟨(some 2), (.boxL 2 (.t 0)), none⟩,
 ⟨(some 4), (.mov (.c (.bool false))), none⟩])
 (.keep [1, 2]))
 (.seq
 (.seq
 (.seq (.ops [⟨(some 10), (.mov (.t 1)), none⟩,
 ⟨(some 11), (.ln (.t 10)), none⟩,
 ⟨(some 12), (.bin .gtr (.t 11) (.c (.int .i64 1048576))), none⟩])
 (.keep [1, 2, 12]))
 (.cond (.t 12)
 (.seq
 (.seq (.ops [⟨(some 4), (.mov (.c (.bool true))), none⟩])
 (.keep [4]))
 .ret)
 .skip))
 (.seq
 (.seq (.ops [⟨(some 5), (.mov (.c (.int .i64 1048576))), none⟩])
 (.keep [1, 2, 5]))
 (.seq
 (.seq (.ops [⟨(some 13), (.ldB 2 true 2), none⟩,
 ⟨(some 14), (.mov (.t 5)), none⟩,
 ⟨(some 15), (.call n_laws_szGraph [(.t 13), (.t 14)]), none⟩,
 ⟨(some 5), (.mov (.t 15)), none⟩])
 (.keep [1, 2, 5]))
 (.seq
 (.seq
 (.seq (.ops [⟨(some 16), (.mov (.t 5)), none⟩,
 ⟨(some 17), (.bin .lss (.t 16) (.c (.int .i64 0))), none⟩])
 (.keep [1, 2, 17]))
 (.cond (.t 17)
 (.seq
 (.seq (.ops [⟨(some 4), (.mov (.c (.bool true))), none⟩])
 (.keep [4]))
 .ret)
 .skip))
 (.seq
 (.seq (.ops [⟨(some 18), (.ldB 2 true 2), none⟩,
 ⟨(some 19), (.call n_laws_toGraph [(.t 18)]), none⟩,
 ⟨(some 20), (.mov (.t 1)), none⟩,
 ⟨(some 21), (.call n_laws_toIntS [(.t 20)]), none⟩,
 ⟨(some 22), (.call n_spec_OddParts [(.t 19), (.t 21)]), none⟩,
 ⟨(some 6), (.mov (.t 22)), none⟩])
 (.keep [1, 2, 6]))
 (.seq
 (.seq (.ops [⟨(some 23), (.ldB 2 true 2), none⟩,
 ⟨(some 24), (.call n_laws_toGraph [(.t 23)]), none⟩,
 ⟨(some 7), (.newL [(.int .i64 0), (.slice none 0 0)]), none⟩,
 ⟨none, (.stB 2 7 (.t 24)), none⟩])
 (.keep [1, 2, 6, 7]))
 (.seq
 (.seq (.ops [⟨(some 25), (.mov (.t 1)), none⟩,
 ⟨(some 26), (.call n_laws_toIntS [(.t 25)]), none⟩,
 ⟨(some 8), (.mov (.t 26)), none⟩])
 (.keep [1, 2, 6, 7, 8]))
 (.seq
 (.seq (.ops [⟨(some 27), (.ldB 2 true 7), none⟩,
 ⟨(some 28), (.mov (.t 8)), none⟩,
 ⟨(some 29), (.call n_impl_OddParts [(.t 27), (.t 28)]), none⟩,
 ⟨(some 9), (.mov (.t 29)), none⟩])
 (.keep [1, 2, 6, 7, 8, 9]))
 (.seq
 (.seq
 (.seq (.ops [⟨(some 30), (.mov (.t 9)), none⟩,
 ⟨(some 31), (.mov (.t 6)), none⟩,
 ⟨(some 32), (.bin .neq (.t 30) (.t 31)), none⟩])
 (.keep [1, 2, 7, 8, 32]))
 (.cond (.t 32)
 (.seq
 (.seq (.ops [⟨(some 4), (.mov (.c (.bool false))), none⟩])
 (.keep [4]))
 .ret)
 .skip))
 (.seq
 (.seq
 (.seq (.free true [⟨(some 33), (.ldB 2 true 7), none⟩,
 ⟨(some 34), (.ldB 2 true 2), none⟩,
 ⟨(some 35), (.call n_laws_toGraph [(.t 34)]), none⟩,
 ⟨(some 36), (.call n_laws_eqGraph [(.t 33), (.t 35)]), none⟩,
 ⟨(some 37), (.un .not (.t 36)), none⟩])
 (.keep [1, 8, 37]))
 (.cond (.t 37)
 (.seq
 (.seq (.ops [⟨(some 4), (.mov (.c (.bool false))), none⟩])
 (.keep [4]))
 .ret)
 .skip))
 (.seq
 (.seq
 (.seq (.ops [⟨(some 38), (.mov (.t 8)), none⟩,
 ⟨(some 39), (.mov (.t 1)), none⟩,
 ⟨(some 40), (.call n_laws_toIntS [(.t 39)]), none⟩,
 ⟨(some 41), (.call n_laws_eqIntS [(.t 38), (.t 40)]), none⟩,
 ⟨(some 42), (.un .not (.t 41)), none⟩])
 (.keep [42]))
 (.cond (.t 42)
 (.seq
 (.seq (.ops [⟨(some 4), (.mov (.c (.bool false))), none⟩])
 (.keep [4]))
 .ret)
 .skip))
 (.seq
 (.seq (.ops [⟨(some 4), (.mov (.c (.bool true))), none⟩])
 (.keep [4]))
 .ret))))))))))))),
 [(.slot 4)]⟩
/-- laws FnExactLonely -/
def F_laws_FnExactLonely : Fun := ⟨2,
 (.seq
 (.seq (.ops [⟨(some 2), (.boxL 2 (.t 0)), none⟩,
 ⟨(some 4), (.mov (.c (.bool false))), none⟩])
 (.keep [1, 2]))
 (.seq
 (.seq (.ops [⟨(some 5), (.mov (.c (.int .i64 1048576))), none⟩])
 (.keep [1, 2, 5]))
 (.seq
 (.seq (.ops [⟨(some 14), (.ldB 2 true 2), none⟩,
 ⟨(some 15), (.mov (.t 5)), none⟩,
 ⟨(some 16), (.call n_laws_szGraph [(.t 14), (.t 15)]), none⟩,
 ⟨(some 5), (.mov (.t 16)), none⟩])
 (.keep [1, 2, 5]))
 (.seq
 (.seq
 (.seq (.ops [⟨(some 17), (.mov (.t 5)), none⟩,
 ⟨(some 18), (.bin .lss (.t 17) (.c (.int .i64 0))), none⟩])
 (.keep [1, 2, 5, 18]))
 (.cond (.t 18)
 (.seq
 (.seq (.ops [⟨(some 4), (.mov (.c (.bool true))), none⟩])
 (.keep [4]))
 .ret)
 .skip))
 (.seq
 (.seq (.ops [⟨(some 19), (.mov (.t 1)), none⟩,
 ⟨(some 20), (.mov (.t 5)), none⟩,
 ⟨(some 21), (.call n_laws_szCoupleS [(.t 19), (.t 20)]), none⟩,
 ⟨(some 5), (.mov (.t 21)), none⟩])
 (.keep [1, 2, 5]))
 (.seq
 (.seq
 (.seq (.ops [⟨(some 22), (.mov (.t 5)), none⟩,
 ⟨(some 23), (.bin .lss (.t 22) (.c (.int .i64 0))), none⟩])
 (.keep [1, 2, 23]))
 (.cond (.t 23)
 (.seq
 (.seq (.ops [⟨(some 4), (.mov (.c (.bool true))), none⟩])
 (.keep [4]))
 .ret)
 .skip))
 (.seq
 (.seq (.ops [⟨(some 24), (.ldB 2 true 2), none⟩,
 ⟨(some 25), (.call n_laws_toGraph [(.t 24)]), none⟩,
 ⟨(some 26), (.mov (.t 1)), none⟩,
 ⟨(some 27), (.call n_laws_toCoupleS [(.t 26)]), none⟩,
 ⟨(some 28), (.call n_spec_Lonely [(.t 25), (.t 27)]), none⟩,
 ⟨(some 6), (.mov (.t 28)), none⟩])
 (.keep [1, 2, 6]))
 (.seq
 (.seq (.ops [⟨(some 29), (.ldB 2 true 2), none⟩,
 ⟨(some 30), (.call n_laws_toGraph [(.t 29)]), none⟩,
 ⟨(some 7), (.newL [(.int .i64 0), (.slice none 0 0)]), none⟩,
 ⟨none, (.stB 2 7 (.t 30)), none⟩])
 (.keep [1, 2, 6, 7]))
 (.seq
 (.seq (.ops [⟨(some 31), (.mov (.t 1)), none⟩,
 ⟨(some 32), (.call n_laws_toCoupleS [(.t 31)]), none⟩,
 ⟨(some 8), (.mov (.t 32)), none⟩])
 (.keep [1, 2, 6, 7, 8]))
 (.seq
 (.seq (.ops [⟨(some 33), (.ldB 2 true 7), none⟩,
 ⟨(some 34), (.mov (.t 8)), none⟩,
 ⟨(some 35), (.call n_impl_Lonely [(.t 33), (.t 34)]), none⟩,
 ⟨(some 9), (.mov (.t 35)), none⟩])
 (.keep [1, 2, 6, 7, 8, 9]))
 (.seq
 (.seq
 (.seq (.ops [⟨(some 36), (.mov (.t 9)), none⟩,
 ⟨(some 37), (.mov (.t 6)), none⟩,
 ⟨(some 38), (.call n_laws_eqIntS [(.t 36), (.t 37)]), none⟩,
 ⟨(some 39), (.un .not (.t 38)), none⟩])
 (.keep [1, 2, 6, 7, 8, 9, 39]))
 (.cond (.t 39)
 (.seq
 (.seq (.ops [⟨(some 4), (.mov (.c (.bool false))), none⟩])
 (.keep [4]))
 .ret)
 .skip))
 (.seq
 (.seq
 (.seq (.free true [⟨(some 40), (.ldB 2 true 7), none⟩,
 ⟨(some 41), (.ldB 2 true 2), none⟩,
 ⟨(some 42), (.call n_laws_toGraph [(.t 41)]), none⟩,
 ⟨(some 43), (.call n_laws_eqGraph [(.t 40), (.t 42)]), none⟩,
 ⟨(some 44), (.un .not (.t 43)), none⟩])
 (.keep [1, 2, 6, 7, 8, 9, 44]))
 (.cond (.t 44)
 (.seq
 (.seq (.ops [⟨(some 4), (.mov (.c (.bool false))), none⟩])
 (.keep [4]))
 .ret)
 .skip))
 (.seq
 (.seq
 (.seq (.ops [⟨(some 45), (.mov (.t 8)), none⟩,
 ⟨(some 46), (.mov (.t 1)), none⟩,
 ⟨(some 47), (.call n_laws_toCoupleS [(.t 46)]), none⟩,
 ⟨(some 48), (.call n_laws_eqCoupleS [(.t 45), (.t 47)]), none⟩,
 ⟨(some 49), (.un .not (.t 48)), none⟩])
 (.keep [1, 2, 6, 7, 8, 9, 49]))
 (.cond (.t 49)
 (.seq
 (.seq (.ops [⟨(some 4), (.mov (.c (.bool false))), none⟩])
 (.keep [4]))
 .ret)
 .skip))
 (.seq
 (.seq (.ops [⟨(some 10), (.mov (.c (.int .i64 1))), none⟩])
 (.keep [1, 2, 6, 7, 8, 9, 10]))
 (.seq
 (.seq (.ops [⟨(some 50), (.ldB 2 true 7), none⟩,
 ⟨(some 51), (.mov (.t 10)), none⟩,
 ⟨(some 52), (.call n_laws_markGraph [(.t 50), (.t 51)]), none⟩,
 ⟨(some 10), (.mov (.t 52)), none⟩])
 (.keep [1, 2, 6, 8, 9, 10]))
 (.seq
 (.seq (.ops [⟨(some 53), (.mov (.t 8)), none⟩,
 ⟨(some 54), (.mov (.t 10)), none⟩,
 ⟨(some 55), (.call n_laws_markCoupleS [(.t 53), (.t 54)]), none⟩,
 ⟨(some 10), (.mov (.t 55)), none⟩])
 (.keep [1, 2, 6, 9, 10]))
 (.seq
 (.seq
 (.seq (.ops [⟨(some 56), (.mov (.t 10)), none⟩,
 ⟨(some 57), (.bin .lss (.t 56) (.c (.int .i64 0))), none⟩,
 ⟨(some 58), (.mov (.t 57)), none⟩,
 ⟨(some 59), (.mov (.t 9)), (some (58, false))⟩,
 ⟨(some 60), (.mov (.t 6)), (some (58, false))⟩,
 ⟨(some 61), (.call n_laws_eqIntS [(.t 59), (.t 60)]), (some (58, false))⟩,
 ⟨(some 62), (.un .not (.t 61)), (some (58, false))⟩,
 ⟨(some 63), (.pick (.t 58) (.c (.bool true)) (.t 62)), none⟩])
 (.keep [1, 2, 6, 9, 63]))
 (.cond (.t 63)
 (.seq
 (.seq (.ops [⟨(some 4), (.mov (.c (.bool false))), none⟩])
 (.keep [4]))
 .ret)
 .skip))
 (.seq
 (.seq (.ops [⟨(some 11), (.mov (.c (.int .i64 1))), none⟩])
 (.keep [1, 2, 6, 9, 11]))
 (.seq
 (.seq (.ops [⟨(some 64), (.mov (.t 9)), none⟩,
 ⟨(some 65), (.mov (.t 11)), none⟩,
 ⟨(some 66), (.call n_laws_markIntS [(.t 64), (.t 65)]), none⟩,
 ⟨(some 11), (.mov (.t 66)), none⟩])
 (.keep [1, 2, 6, 9, 11]))
 (.seq
 (.seq (.ops [⟨(some 12), (.mov (.c (.int .i64 1))), none⟩])
 (.keep [1, 2, 6, 9, 11, 12]))
 (.seq
 (.seq (.ops [⟨(some 67), (.mov (.t 9)), none⟩,
 ⟨(some 68), (.mov (.t 12)), none⟩,
 ⟨(some 69), (.call n_laws_heldIntS [(.t 67), (.t 68)]), none⟩,
 ⟨(some 12), (.mov (.t 69)), none⟩])
 (.keep [1, 2, 6, 9, 11, 12]))
 (.seq
 (.seq
 (.seq (.ops [⟨(some 70), (.mov (.t 12)), none⟩,
 ⟨(some 71), (.bin .lss (.t 70) (.c (.int .i64 0))), none⟩])
 (.keep [1, 2, 6, 9, 11, 12, 71]))
 (.cond (.t 71)
 (.seq
 (.seq (.ops [⟨(some 4), (.mov (.c (.bool false))), none⟩])
 (.keep [4]))
 .ret)
 .skip))
 (.seq
 (.seq
 (.seq (.ops [⟨(some 72), (.mov (.t 12)), none⟩,
 ⟨(some 73), (.mov (.t 11)), none⟩,
 ⟨(some 74), (.bin .neq (.t 72) (.t 73)), none⟩])
 (.keep [1, 2, 6, 9, 11, 74]))
 (.cond (.t 74)
 (.seq
 (.seq (.ops [⟨(some 4), (.mov (.c (.bool false))), none⟩])
 (.keep [4]))
 .ret)
 .skip))
 (.seq
 (.seq (.ops [⟨(some 75), (.ldB 2 true 2), none⟩,
 ⟨(some 76), (.call n_laws_toGraph [(.t 75)]), none⟩,
 ⟨(some 77), (.mov (.t 1)), none⟩,
 ⟨(some 78), (.call n_laws_toCoupleS [(.t 77)]), none⟩,
 ⟨(some 79), (.call n_impl_Lonely [(.t 76), (.t 78)]), none⟩,
 ⟨(some 13), (.mov (.t 79)), none⟩])
 (.keep [6, 9, 11, 13]))
 (.seq
 (.seq
 (.seq (.ops [⟨(some 80), (.mov (.t 13)), none⟩,
 ⟨(some 81), (.mov (.t 6)), none⟩,
 ⟨(some 82), (.call n_laws_eqIntS [(.t 80), (.t 81)]), none⟩,
 ⟨(some 83), (.un .not (.t 82)), none⟩])
 (.keep [9, 11, 83]))
 (.cond (.t 83)
 (.seq
 (.seq (.ops [⟨(some 4), (.mov (.c (.bool false))), none⟩])
 (.keep [4]))
 .ret)
 .skip))
 (.seq
 (.seq (.ops [⟨(some 12), (.mov (.c (.int .i64 1))), none⟩])
 (.keep [9, 11, 12]))
 (.seq
 (.seq (.ops [⟨(some 84), (.mov (.t 9)), none⟩,
 ⟨(some 85), (.mov (.t 12)), none⟩,
 ⟨(some 86), (.call n_laws_heldIntS [(.t 84), (.t 85)]), none⟩,
 ⟨(some 12), (.mov (.t 86)), none⟩])
 (.keep [11, 12]))
 (.seq
 (.seq
 (.seq (.ops [⟨(some 87), (.mov (.t 12)), none⟩,
 ⟨(some 88), (.bin .lss (.t 87) (.c (.int .i64 0))), none⟩])
 (.keep [11, 12, 88]))
 (.cond (.t 88)
 (.seq
 (.seq (.ops [⟨(some 4), (.mov (.c (.bool false))), none⟩])
 (.keep [4]))
 .ret)
 .skip))
 (.seq
 (.seq
 (.seq (.ops [⟨(some 89), (.mov (.t 12)), none⟩,
 ⟨(some 90), (.mov (.t 11)), none⟩,
 ⟨(some 91), (.bin .neq (.t 89) (.t 90)), none⟩])
 (.keep [91]))
 (.cond (.t 91)
 (.seq
 (.seq (.ops [⟨(some 4), (.mov (.c (.bool false))), none⟩])
 (.keep [4]))
 .ret)
 .skip))
 (.seq
 (.seq (.ops [⟨(some 4), (.mov (.c (.bool true))), none⟩])
 (.keep [4]))
 .ret)))))))))))))))))))))))))))))),
 [(.slot 4)]⟩
/-- laws FnExactPiecesOf -/
def F_laws_FnExactPiecesOf : Fun := ⟨2,
 (.seq
 (.seq (.ops [⟨(some 2), (.boxL 2 (.t 0)), none⟩,
 ⟨(some 4), (.mov (.c (.bool false))), none⟩])
 (.keep [1, 2]))
 (.seq
 (.seq
 (.seq (.ops [⟨(some 14), (.mov (.t 1)), none⟩,
 ⟨(some 15), (.ln (.t 14)), none⟩,
 ⟨(some 16), (.bin .gtr (.t 15) (.c (.int .i64 1048576))), none⟩])
 (.keep [1, 2, 16]))
 (.cond (.t 16)
 (.seq
 (.seq (.ops [⟨(some 4), (.mov (.c (.bool true))), none⟩])
 (.keep [4]))
 .ret)
 .skip))
 (.seq
 (.seq (.ops [⟨(some 5), (.mov (.c (.int .i64 1048576))), none⟩])
 (.keep [1, 2, 5]))
 (.seq
 (.seq (.ops [⟨(some 17), (.ldB 2 true 2), none⟩,
 ⟨(some 18), (.mov (.t 5)), none⟩,
 ⟨(some 19), (.call n_laws_szGraph [(.t 17), (.t 18)]), none⟩,
 ⟨(some 5), (.mov (.t 19)), none⟩])
 (.keep [1, 2, 5]))
 (.seq
 (.seq
 (.seq (.ops [⟨(some 20), (.mov (.t 5)), none⟩,
 ⟨(some 21), (.bin .lss (.t 20) (.c (.int .i64 0))), none⟩])
 (.keep [1, 2, 21]))
 (.cond (.t 21)
 (.seq
 (.seq (.ops [⟨(some 4), (.mov (.c (.bool true))), none⟩])
 (.keep [4]))
 .ret)
 .skip))
 (.seq
 (.seq (.ops [⟨(some 22), (.ldB 2 true 2), none⟩,
 ⟨(some 23), (.call n_laws_toGraph [(.t 22)]), none⟩,
 ⟨(some 24), (.mov (.t 1)), none⟩,
 ⟨(some 25), (.call n_laws_toIntS [(.t 24)]), none⟩,
 ⟨(some 26), (.call n_spec_PiecesOf [(.t 23), (.t 25)]), none⟩,
 ⟨(some 6), (.mov (.t 26)), none⟩])
 (.keep [1, 2, 6]))
 (.seq
 (.seq (.ops [⟨(some 27), (.ldB 2 true 2), none⟩,
 ⟨(some 28), (.call n_laws_toGraph [(.t 27)]), none⟩,
 ⟨(some 7), (.newL [(.int .i64 0), (.slice none 0 0)]), none⟩,
 ⟨none, (.stB 2 7 (.t 28)), none⟩])
 (.keep [1, 2, 6, 7]))
 (.seq
 (.seq (.ops [⟨(some 29), (.mov (.t 1)), none⟩,
 ⟨(some 30), (.call n_laws_toIntS [(.t 29)]), none⟩,
 ⟨(some 8), (.mov (.t 30)), none⟩])
 (.keep [1, 2, 6, 7, 8]))
 (.seq
 (.seq (.ops [⟨(some 31), (.ldB 2 true 7), none⟩,
 ⟨(some 32), (.mov (.t 8)), none⟩,
 ⟨(some 33), (.call n_impl_PiecesOf [(.t 31), (.t 32)]), none⟩,
 ⟨(some 9), (.mov (.t 33)), none⟩])
 (.keep [1, 2, 6, 7, 8, 9]))
 (.seq
 (.seq
 (.seq (.ops [⟨(some 34), (.mov (.t 9)), none⟩,
 ⟨(some 35), (.mov (.t 6)), none⟩,
 ⟨(some 36), (.call n_laws_eqIntSS [(.t 34), (.t 35)]), none⟩,
 ⟨(some 37), (.un .not (.t 36)), none⟩])
 (.keep [1, 2, 6, 7, 8, 9, 37]))
 (.cond (.t 37)
 (.seq
 (.seq (.ops [⟨(some 4), (.mov (.c (.bool false))), none⟩])
 (.keep [4]))
 .ret)
 .skip))
 (.seq
 (.seq
 (.seq (.free true [⟨(some 38), (.ldB 2 true 7), none⟩,
 ⟨(some 39), (.ldB 2 true 2), none⟩,
 ⟨(some 40), (.call n_laws_toGraph [(.t 39)]), none⟩,
 ⟨(some 41), (.call n_laws_eqGraph [(.t 38), (.t 40)]), none⟩,
 ⟨(some 42), (.un .not (.t 41)), none⟩])
 (.keep [1, 2, 6, 7, 8, 9, 42]))
 (.cond (.t 42)
 (.seq
 (.seq (.ops [⟨(some 4), (.mov (.c (.bool false))), none⟩])
 (.keep [4]))
 .ret)
 .skip))
 (.seq
 (.seq
 (.seq (.ops [⟨(some 43), (.mov (.t 8)), none⟩,
 ⟨(some 44), (.mov (.t 1)), none⟩,
 ⟨(some 45), (.call n_laws_toIntS [(.t 44)]), none⟩,
 ⟨(some 46), (.call n_laws_eqIntS [(.t 43), (.t 45)]), none⟩,
 ⟨(some 47), (.un .not (.t 46)), none⟩])
 (.keep [1, 2, 6, 7, 8, 9, 47]))
 (.cond (.t 47)
 (.seq
 (.seq (.ops [⟨(some 4), (.mov (.c (.bool false))), none⟩])
 (.keep [4]))
 .ret)
 .skip))
 (.seq
 (.seq (.ops [⟨(some 10), (.mov (.c (.int .i64 1))), none⟩])
 (.keep [1, 2, 6, 7, 8, 9, 10]))
 (.seq
 (.seq (.ops [⟨(some 48), (.ldB 2 true 7), none⟩,
 ⟨(some 49), (.mov (.t 10)), none⟩,
 ⟨(some 50), (.call n_laws_markGraph [(.t 48), (.t 49)]), none⟩,
 ⟨(some 10), (.mov (.t 50)), none⟩])
 (.keep [1, 2, 6, 8, 9, 10]))
 (.seq
 (.seq (.ops [⟨(some 51), (.mov (.t 8)), none⟩,
 ⟨(some 52), (.mov (.t 10)), none⟩,
 ⟨(some 53), (.call n_laws_markIntS [(.t 51), (.t 52)]), none⟩,
 ⟨(some 10), (.mov (.t 53)), none⟩])
 (.keep [1, 2, 6, 9, 10]))
 (.seq
 (.seq
 (.seq (.ops [⟨(some 54), (.mov (.t 10)), none⟩,
 ⟨(some 55), (.bin .lss (.t 54) (.c (.int .i64 0))), none⟩,
 ⟨(some 56), (.mov (.t 55)), none⟩,
 ⟨(some 57), (.mov (.t 9)), (some (56, false))⟩,
 ⟨(some 58), (.mov (.t 6)), (some (56, false))⟩,
 ⟨(some 59), (.call n_laws_eqIntSS [(.t 57), (.t 58)]), (some (56, false))⟩,
 ⟨(some 60), (.un .not (.t 59)), (some (56, false))⟩,
 ⟨(some 61), (.pick (.t 56) (.c (.bool true)) (.t 60)), none⟩])
 (.keep [1, 2, 6, 9, 61]))
 (.cond (.t 61)
 (.seq
 (.seq (.ops [⟨(some 4), (.mov (.c (.bool false))), none⟩])
 (.keep [4]))
 .ret)
 .skip))
 (.seq
 (.seq (.ops [⟨(some 11), (.mov (.c (.int .i64 1))), none⟩])
 (.keep [1, 2, 6, 9, 11]))
 (.seq
 (.seq (.ops [⟨(some 62), (.mov (.t 9)), none⟩,
 ⟨(some 63), (.mov (.t 11)), none⟩,
 ⟨(some 64), (.call n_laws_markIntSS [(.t 62), (.t 63)]), none⟩,
 ⟨(some 11), (.mov (.t 64)), none⟩])
 (.keep [1, 2, 6, 9, 11]))
 (.seq
 (.seq (.ops [⟨(some 12), (.mov (.c (.int .i64 1))), none⟩])
 (.keep [1, 2, 6, 9, 11, 12]))
 (.seq
 (.seq (.ops [⟨(some 65), (.mov (.t 9)), none⟩,
 ⟨(some 66), (.mov (.t 12)), none⟩,
 ⟨(some 67), (.call n_laws_heldIntSS [(.t 65), (.t 66)]), none⟩,
 ⟨(some 12), (.mov (.t 67)), none⟩])
 (.keep [1, 2, 6, 9, 11, 12]))
 (.seq
 (.seq
 (.seq (.ops [⟨(some 68), (.mov (.t 12)), none⟩,
 ⟨(some 69), (.bin .lss (.t 68) (.c (.int .i64 0))), none⟩])
 (.keep [1, 2, 6, 9, 11, 12, 69]))
 (.cond (.t 69)
 (.seq
 (.seq (.ops [⟨(some 4), (.mov (.c (.bool false))), none⟩])
 (.keep [4]))
 .ret)
 .skip))
 (.seq
 (.seq
 (.seq (.ops [⟨(some 70), (.mov (.t 12)), none⟩,
 ⟨(some 71), (.mov (.t 11)), none⟩,
 ⟨(some 72), (.bin .neq (.t 70) (.t 71)), none⟩])
 (.keep [1, 2, 6, 9, 11, 72]))
 (.cond (.t 72)
 (.seq
 (.seq (.ops [⟨(some 4), (.mov (.c (.bool false))), none⟩])
 (.keep [4]))
 .ret)
 .skip))
 (.seq
 (.seq (.ops [⟨(some 73), (.ldB 2 true 2), none⟩,
 ⟨(some 74), (.call n_laws_toGraph [(.t 73)]), none⟩,
 ⟨(some 75), (.mov (.t 1)), none⟩,
 ⟨(some 76), (.call n_laws_toIntS [(.t 75)]), none⟩,
 ⟨(some 77), (.call n_impl_PiecesOf [(.t 74), (.t 76)]), none⟩,
 ⟨(some 13), (.mov (.t 77)), none⟩])
 (.keep [6, 9, 11, 13]))
 (.seq
 (.seq
 (.seq (.ops [⟨(some 78), (.mov (.t 13)), none⟩,
 ⟨(some 79), (.mov (.t 6)), none⟩,
 ⟨(some 80), (.call n_laws_eqIntSS [(.t 78), (.t 79)]), none⟩,
 ⟨(some 81), (.un .not (.t 80)), none⟩])
 (.keep [9, 11, 81]))
 (.cond (.t 81)
 (.seq
 (.seq (.ops [⟨(some 4), (.mov (.c (.bool false))), none⟩])
 (.keep [4]))
 .ret)
 .skip))
 (.seq
 (.seq (.ops [⟨(some 12), (.mov (.c (.int .i64 1))), none⟩])
 (.keep [9, 11, 12]))
 (.seq
 (.seq (.ops [⟨(some 82), (.mov (.t 9)), none⟩,
 ⟨(some 83), (.mov (.t 12)), none⟩,
 ⟨(some 84), (.call n_laws_heldIntSS [(.t 82), (.t 83)]), none⟩,
 ⟨(some 12), (.mov (.t 84)), none⟩])
 (.keep [11, 12]))
 (.seq
 (.seq
 (.seq (.ops [⟨(some 85), (.mov (.t 12)), none⟩,
 ⟨(some 86), (.bin .lss (.t 85) (.c (.int .i64 0))), none⟩])
 (.keep [11, 12, 86]))
 (.cond (.t 86)
 (.seq
 (.seq (.ops [⟨(some 4), (.mov (.c (.bool false))), none⟩])
 (.keep [4]))
 .ret)
 .skip))
 (.seq
 (.seq
 (.seq (.ops [⟨(some 87), (.mov (.t 12)), none⟩,
 ⟨(some 88), (.mov (.t 11)), none⟩,
 ⟨(some 89), (.bin .neq (.t 87) (.t 88)), none⟩])
 (.keep [89]))
 (.cond (.t 89)
 (.seq
 (.seq (.ops [⟨(some 4), (.mov (.c (.bool false))), none⟩])
 (.keep [4]))
 .ret)
 .skip))
 (.seq
 (.seq (.ops [⟨(some 4), (.mov (.c (.bool true))), none⟩])
 (.keep [4]))
 .ret))))))))))))))))))))))))))))),
 [(.slot 4)]⟩
/-- laws FnExactBlocks -/
def F_laws_FnExactBlocks : Fun := ⟨1,
 (.seq
 (.seq (.ops [⟨(some 1), (.boxL 2 (.t 0)), none⟩,
 ⟨(some 2), (.mov (.c (.bool false))), none⟩])
 (.keep [1]))
 (.seq
 (.seq (.ops [⟨(some 3), (.mov (.c (.int .i64 1048576))), none⟩])
 (.keep [1, 3]))
 (.seq
 (.seq (.ops [⟨(some 11), (.ldB 2 true 1), none⟩,
 ⟨(some 12), (.mov (.t 3)), none⟩,
 ⟨(some 13), (.call n_laws_szGraph [(.t 11), (.t 12)]), none⟩,
 ⟨(some 3), (.mov (.t 13)), none⟩])
 (.keep [1, 3]))
 (.seq
 (.seq
 (.seq (.ops [⟨(some 14), (.mov (.t 3)), none⟩,
 ⟨(some 15), (.bin .lss (.t 14) (.c (.int .i64 0))), none⟩])
 (.keep [1, 15]))
 (.cond (.t 15)
 (.seq
 (.seq (.ops [⟨(some 2), (.mov (.c (.bool true))), none⟩])
 (.keep [2]))
 .ret)
 .skip))
 (.seq
 (.seq (.ops [⟨(some 16), (.ldB 2 true 1), none⟩,
 ⟨(some 17), (.call n_laws_toGraph [(.t 16)]), none⟩,
 ⟨(some 18), (.call n_spec_Blocks [(.t 17)]), none⟩,
 ⟨(some 4), (.mov (.t 18)), none⟩])
 (.keep [1, 4]))
 (.seq
 (.seq (.ops [⟨(some 19), (.ldB 2 true 1), none⟩,
 ⟨(some 20), (.call n_laws_toGraph [(.t 19)]), none⟩,
 ⟨(some 5), (.newL [(.int .i64 0), (.slice none 0 0)]), none⟩,
 ⟨none, (.stB 2 5 (.t 20)), none⟩])
 (.keep [1, 4, 5]))
 (.seq
 (.seq (.ops [⟨(some 21), (.ldB 2 true 5), none⟩,
 ⟨(some 22), (.call n_impl_Blocks [(.t 21)]), none⟩,
 ⟨(some 6), (.mov (.t 22)), none⟩])
 (.keep [1, 4, 5, 6]))
 (.seq
 (.seq
 (.seq (.ops [⟨(some 23), (.mov (.t 6)), none⟩,
 ⟨(some 24), (.mov (.t 4)), none⟩,
 ⟨(some 25), (.call n_laws_eqIntS [(.t 23), (.t 24)]), none⟩,
 ⟨(some 26), (.un .not (.t 25)), none⟩])
 (.keep [1, 4, 5, 6, 26]))
 (.cond (.t 26)
 (.seq
 (.seq (.ops [⟨(some 2), (.mov (.c (.bool false))), none⟩])
 (.keep [2]))
 .ret)
 .skip))
 (.seq
 (.seq
 (.seq (.free true [⟨(some 27), (.ldB 2 true 5), none⟩,
 ⟨(some 28), (.ldB 2 true 1), none⟩,
 ⟨(some 29), (.call n_laws_toGraph [(.t 28)]), none⟩,
 ⟨(some 30), (.call n_laws_eqGraph [(.t 27), (.t 29)]), none⟩,
 ⟨(some 31), (.un .not (.t 30)), none⟩])
 (.keep [1, 4, 5, 6, 31]))
 (.cond (.t 31)
 (.seq
 (.seq (.ops [⟨(some 2), (.mov (.c (.bool false))), none⟩])
 (.keep [2]))
 .ret)
 .skip))
 (.seq
 (.seq (.ops [⟨(some 7), (.mov (.c (.int .i64 1))), none⟩])
 (.keep [1, 4, 5, 6, 7]))
 (.seq
 (.seq (.ops [⟨(some 32), (.ldB 2 true 5), none⟩,
 ⟨(some 33), (.mov (.t 7)), none⟩,
 ⟨(some 34), (.call n_laws_markGraph [(.t 32), (.t 33)]), none⟩,
 ⟨(some 7), (.mov (.t 34)), none⟩])
 (.keep [1, 4, 6, 7]))
 (.seq
 (.seq
 (.seq (.ops [⟨(some 35), (.mov (.t 7)), none⟩,
 ⟨(some 36), (.bin .lss (.t 35) (.c (.int .i64 0))), none⟩,
 ⟨(some 37), (.mov (.t 36)), none⟩,
 ⟨(some 38), (.mov (.t 6)), (some (37, false))⟩,
 ⟨(some 39), (.mov (.t 4)), (some (37, false))⟩,
 ⟨(some 40), (.call n_laws_eqIntS [(.t 38), (.t 39)]), (some (37, false))⟩,
 ⟨(some 41), (.un .not (.t 40)), (some (37, false))⟩,
 ⟨(some 42), (.pick (.t 37) (.c (.bool true)) (.t 41)), none⟩])
 (.keep [1, 4, 6, 42]))
 (.cond (.t 42)
 (.seq
 (.seq (.ops [⟨(some 2), (.mov (.c (.bool false))), none⟩])
 (.keep [2]))
 .ret)
 .skip))
 (.seq
 (.seq (.ops [⟨(some 8), (.mov (.c (.int .i64 1))), none⟩])
 (.keep [1, 4, 6, 8]))
 (.seq
 (.seq (.ops [⟨(some 43), (.mov (.t 6)), none⟩,
 ⟨(some 44), (.mov (.t 8)), none⟩,
 ⟨(some 45), (.call n_laws_markIntS [(.t 43), (.t 44)]), none⟩,
 ⟨(some 8), (.mov (.t 45)), none⟩])
 (.keep [1, 4, 6, 8]))
 (.seq
 (.seq (.ops [⟨(some 9), (.mov (.c (.int .i64 1))), none⟩])
 (.keep [1, 4, 6, 8, 9]))
 (.seq
 (.seq (.ops [⟨(some 46), (.mov (.t 6)), none⟩,
 ⟨(some 47), (.mov (.t 9)), none⟩,
 ⟨(some 48), (.call n_laws_heldIntS [(.t 46), (.t 47)]), none⟩,
 ⟨(some 9), (.mov (.t 48)), none⟩])
 (.keep [1, 4, 6, 8, 9]))
 (.seq
 (.seq
 (.seq (.ops [⟨(some 49), (.mov (.t 9)), none⟩,
 ⟨(some 50), (.bin .lss (.t 49) (.c (.int .i64 0))), none⟩])
 (.keep [1, 4, 6, 8, 9, 50]))
 (.cond (.t 50)
 (.seq
 (.seq (.ops [⟨(some 2), (.mov (.c (.bool false))), none⟩])
 (.keep [2]))
 .ret)
 .skip))
 (.seq
 (.seq
 (.seq (.ops [⟨(some 51), (.mov (.t 9)), none⟩,
 ⟨(some 52), (.mov (.t 8)), none⟩,
 ⟨(some 53), (.bin .neq (.t 51) (.t 52)), none⟩])
 (.keep [1, 4, 6, 8, 53]))
 (.cond (.t 53)
 (.seq
 (.seq (.ops [⟨(some 2), (.mov (.c (.bool false))), none⟩])
 (.keep [2]))
 .ret)
 .skip))
 (.seq
 (.seq (.ops [⟨(some 54), (.ldB 2 true 1), none⟩,
 ⟨(some 55), (.call n_laws_toGraph [(.t 54)]), none⟩,
 ⟨(some 56), (.call n_impl_Blocks [(.t 55)]), none⟩,
 ⟨(some 10), (.mov (.t 56)), none⟩])
 (.keep [4, 6, 8, 10]))
 (.seq
 (.seq
 (.seq (.ops [⟨(some 57), (.mov (.t 10)), none⟩,
 ⟨(some 58), (.mov (.t 4)), none⟩,
 ⟨(some 59), (.call n_laws_eqIntS [(.t 57), (.t 58)]), none⟩,
 ⟨(some 60), (.un .not (.t 59)), none⟩])
 (.keep [6, 8, 60]))
 (.cond (.t 60)
 (.seq
 (.seq (.ops [⟨(some 2), (.mov (.c (.bool false))), none⟩])
 (.keep [2]))
 .ret)
 .skip))
 (.seq
 (.seq (.ops [⟨(some 9), (.mov (.c (.int .i64 1))), none⟩])
 (.keep [6, 8, 9]))
 (.seq
 (.seq (.ops [⟨(some 61), (.mov (.t 6)), none⟩,
 ⟨(some 62), (.mov (.t 9)), none⟩,
 ⟨(some 63), (.call n_laws_heldIntS [(.t 61), (.t 62)]), none⟩,
 ⟨(some 9), (.mov (.t 63)), none⟩])
 (.keep [8, 9]))
 (.seq
 (.seq
 (.seq (.ops [⟨(some 64), (.mov (.t 9)), none⟩,
 ⟨(some 65), (.bin .lss (.t 64) (.c (.int .i64 0))), none⟩])
 (.keep [8, 9, 65]))
 (.cond (.t 65)
 (.seq
 (.seq (.ops [⟨(some 2), (.mov (.c (.bool false))), none⟩])
 (.keep [2]))
 .ret)
 .skip))
 (.seq
 (.seq
 (.seq (.ops [⟨(some 66), (.mov (.t 9)), none⟩,
 ⟨(some 67), (.mov (.t 8)), none⟩,
 ⟨(some 68), (.bin .neq (.t 66) (.t 67)), none⟩])
 (.keep [68]))
 (.cond (.t 68)
 (.seq
 (.seq (.ops [⟨(some 2), (.mov (.c (.bool false))), none⟩])
 (.keep [2]))
 .ret)
 .skip))
 (.seq
 (.seq (.ops [⟨(some 2), (.mov (.c (.bool true))), none⟩])
 (.keep [2]))
 .ret))))))))))))))))))))))))),
 [(.slot 2)]⟩
/-- laws FnExactBound -/
def F_laws_FnExactBound : Fun := ⟨2,
 (.seq
 (.seq (.ops [⟨(some 2), (.boxL 2 (.t 0)), none⟩,
 ⟨(some 3), (.boxL 2 (.t 1)), none⟩,
 ⟨(some 4), (.mov (.c (.bool false))), none⟩])
 (.keep [2, 3]))
 (.seq
 (.seq (.ops [⟨(some 5), (.mov (.c (.int .i64 1048576))), none⟩])
 (.keep [2, 3, 5]))
 (.seq
 (.seq (.ops [⟨(some 10), (.ldB 2 true 2), none⟩,
 ⟨(some 11), (.mov (.t 5)), none⟩,
 ⟨(some 12), (.call n_laws_szGraph [(.t 10), (.t 11)]), none⟩,
 ⟨(some 5), (.mov (.t 12)), none⟩])
 (.keep [2, 3, 5]))
 (.seq
 (.seq
 (.seq (.ops [⟨(some 13), (.mov (.t 5)), none⟩,
 ⟨(some 14), (.bin .lss (.t 13) (.c (.int .i64 0))), none⟩])
 (.keep [2, 3, 5, 14]))
 (.cond (.t 14)
 (.seq
 (.seq (.ops [⟨(some 4), (.mov (.c (.bool true))), none⟩])
 (.keep [4]))
 .ret)
 .skip))
 (.seq
 (.seq (.ops [⟨(some 15), (.ldB 2 true 3), none⟩,
 ⟨(some 16), (.mov (.t 5)), none⟩,
 ⟨(some 17), (.call n_laws_szProof [(.t 15), (.t 16)]), none⟩,
 ⟨(some 5), (.mov (.t 17)), none⟩])
 (.keep [2, 3, 5]))
 (.seq
 (.seq
 (.seq (.ops [⟨(some 18), (.mov (.t 5)), none⟩,
 ⟨(some 19), (.bin .lss (.t 18) (.c (.int .i64 0))), none⟩])
 (.keep [2, 3, 19]))
 (.cond (.t 19)
 (.seq
 (.seq (.ops [⟨(some 4), (.mov (.c (.bool true))), none⟩])
 (.keep [4]))
 .ret)
 .skip))
 (.seq
 (.seq (.free true [⟨(some 20), (.ldB 2 true 2), none⟩,
 ⟨(some 21), (.call n_laws_toGraph [(.t 20)]), none⟩,
 ⟨(some 22), (.ldB 2 true 3), none⟩,
 ⟨(some 23), (.call n_laws_toProof [(.t 22)]), none⟩,
 ⟨(some 24), (.call n_spec_Bound [(.t 21), (.t 23)]), none⟩,
 ⟨(some 6), (.mov (.t 24)), none⟩])
 (.keep [2, 3, 6]))
 (.seq
 (.seq (.ops [⟨(some 25), (.ldB 2 true 2), none⟩,
 ⟨(some 26), (.call n_laws_toGraph [(.t 25)]), none⟩,
 ⟨(some 7), (.newL [(.int .i64 0), (.slice none 0 0)]), none⟩,
 ⟨none, (.stB 2 7 (.t 26)), none⟩])
 (.keep [2, 3, 6, 7]))
 (.seq
 (.seq (.ops [⟨(some 27), (.ldB 2 true 3), none⟩,
 ⟨(some 28), (.call n_laws_toProof [(.t 27)]), none⟩,
 ⟨(some 8), (.newL [(.slice none 0 0), (.slice none 0 0)]), none⟩,
 ⟨none, (.stB 2 8 (.t 28)), none⟩])
 (.keep [2, 3, 6, 7, 8]))
 (.seq
 (.seq (.ops [⟨(some 29), (.ldB 2 true 7), none⟩,
 ⟨(some 30), (.ldB 2 true 8), none⟩,
 ⟨(some 31), (.call n_impl_Bound [(.t 29), (.t 30)]), none⟩,
 ⟨(some 9), (.mov (.t 31)), none⟩])
 (.keep [2, 3, 6, 7, 8, 9]))
 (.seq
 (.seq
 (.seq (.ops [⟨(some 32), (.mov (.t 9)), none⟩,
 ⟨(some 33), (.mov (.t 6)), none⟩,
 ⟨(some 34), (.bin .neq (.t 32) (.t 33)), none⟩])
 (.keep [2, 3, 7, 8, 34]))
 (.cond (.t 34)
 (.seq
 (.seq (.ops [⟨(some 4), (.mov (.c (.bool false))), none⟩])
 (.keep [4]))
 .ret)
 .skip))
 (.seq
 (.seq
 (.seq (.free true [⟨(some 35), (.ldB 2 true 7), none⟩,
 ⟨(some 36), (.ldB 2 true 2), none⟩,
 ⟨(some 37), (.call n_laws_toGraph [(.t 36)]), none⟩,
 ⟨(some 38), (.call n_laws_eqGraph [(.t 35), (.t 37)]), none⟩,
 ⟨(some 39), (.un .not (.t 38)), none⟩])
 (.keep [3, 8, 39]))
 (.cond (.t 39)
 (.seq
 (.seq (.ops [⟨(some 4), (.mov (.c (.bool false))), none⟩])
 (.keep [4]))
 .ret)
 .skip))
 (.seq
 (.seq
 (.seq (.free true [⟨(some 40), (.ldB 2 true 8), none⟩,
 ⟨(some 41), (.ldB 2 true 3), none⟩,
 ⟨(some 42), (.call n_laws_toProof [(.t 41)]), none⟩,
 ⟨(some 43), (.call n_laws_eqProof [(.t 40), (.t 42)]), none⟩,
 ⟨(some 44), (.un .not (.t 43)), none⟩])
 (.keep [44]))
 (.cond (.t 44)
 (.seq
 (.seq (.ops [⟨(some 4), (.mov (.c (.bool false))), none⟩])
 (.keep [4]))
 .ret)
 .skip))
 (.seq
 (.seq (.ops [⟨(some 4), (.mov (.c (.bool true))), none⟩])
 (.keep [4]))
 .ret)))))))))))))),
 [(.slot 4)]⟩
/-- laws FnExactSwapped -/
def F_laws_FnExactSwapped : Fun := ⟨3,
 (.seq
 (.seq (.ops [⟨(some 3), (.boxL 2 (.t 0)), none⟩,
 ⟨(some 6), (.mov (.c (.bool false))), none⟩])
 (.keep [1, 2, 3]))
 (.seq
 (.seq (.ops [⟨(some 7), (.mov (.c (.int .i64 1048576))), none⟩])
 (.keep [1, 2, 3, 7]))
 (.seq
 (.seq (.ops [⟨(some 17), (.ldB 2 true 3), none⟩,
 ⟨(some 18), (.mov (.t 7)), none⟩,
 ⟨(some 19), (.call n_laws_szGraph [(.t 17), (.t 18)]), none⟩,
 ⟨(some 7), (.mov (.t 19)), none⟩])
 (.keep [1, 2, 3, 7]))
 (.seq
 (.seq
 (.seq (.ops [⟨(some 20), (.mov (.t 7)), none⟩,
 ⟨(some 21), (.bin .lss (.t 20) (.c (.int .i64 0))), none⟩])
 (.keep [1, 2, 3, 7, 21]))
 (.cond (.t 21)
 (.seq
 (.seq (.ops [⟨(some 6), (.mov (.c (.bool true))), none⟩])
 (.keep [6]))
 .ret)
 .skip))
 (.seq
 (.seq (.ops [⟨(some 22), (.mov (.t 1)), none⟩,
 ⟨(some 23), (.mov (.t 7)), none⟩,
 ⟨(some 24), (.call n_laws_szCoupleS [(.t 22), (.t 23)]), none⟩,
 ⟨(some 7), (.mov (.t 24)), none⟩])
 (.keep [1, 2, 3, 7]))
 (.seq
 (.seq
 (.seq (.ops [⟨(some 25), (.mov (.t 7)), none⟩,
 ⟨(some 26), (.bin .lss (.t 25) (.c (.int .i64 0))), none⟩])
 (.keep [1, 2, 3, 7, 26]))
 (.cond (.t 26)
 (.seq
 (.seq (.ops [⟨(some 6), (.mov (.c (.bool true))), none⟩])
 (.keep [6]))
 .ret)
 .skip))
 (.seq
 (.seq (.ops [⟨(some 27), (.mov (.t 2)), none⟩,
 ⟨(some 28), (.mov (.t 7)), none⟩,
 ⟨(some 29), (.call n_laws_szCoupleS [(.t 27), (.t 28)]), none⟩,
 ⟨(some 7), (.mov (.t 29)), none⟩])
 (.keep [1, 2, 3, 7]))
 (.seq
 (.seq
 (.seq (.ops [⟨(some 30), (.mov (.t 7)), none⟩,
 ⟨(some 31), (.bin .lss (.t 30) (.c (.int .i64 0))), none⟩])
 (.keep [1, 2, 3, 31]))
 (.cond (.t 31)
 (.seq
 (.seq (.ops [⟨(some 6), (.mov (.c (.bool true))), none⟩])
 (.keep [6]))
 .ret)
 .skip))
 (.seq
 (.seq (.ops [⟨(some 32), (.ldB 2 true 3), none⟩,
 ⟨(some 33), (.call n_laws_toGraph [(.t 32)]), none⟩,
 ⟨(some 34), (.mov (.t 1)), none⟩,
 ⟨(some 35), (.call n_laws_toCoupleS [(.t 34)]), none⟩,
 ⟨(some 36), (.mov (.t 2)), none⟩,
 ⟨(some 37), (.call n_laws_toCoupleS [(.t 36)]), none⟩,
 ⟨(some 38), (.call n_spec_Swapped [(.t 33), (.t 35), (.t 37)]), none⟩,
 ⟨(some 8), (.mov (.t 38)), none⟩])
 (.keep [1, 2, 3, 8]))
 (.seq
 (.seq (.ops [⟨(some 39), (.ldB 2 true 3), none⟩,
 ⟨(some 40), (.call n_laws_toGraph [(.t 39)]), none⟩,
 ⟨(some 9), (.newL [(.int .i64 0), (.slice none 0 0)]), none⟩,
 ⟨none, (.stB 2 9 (.t 40)), none⟩])
 (.keep [1, 2, 3, 8, 9]))
 (.seq
 (.seq (.ops [⟨(some 41), (.mov (.t 1)), none⟩,
 ⟨(some 42), (.call n_laws_toCoupleS [(.t 41)]), none⟩,
 ⟨(some 10), (.mov (.t 42)), none⟩])
 (.keep [1, 2, 3, 8, 9, 10]))
 (.seq
 (.seq (.ops [⟨(some 43), (.mov (.t 2)), none⟩,
 ⟨(some 44), (.call n_laws_toCoupleS [(.t 43)]), none⟩,
 ⟨(some 11), (.mov (.t 44)), none⟩])
 (.keep [1, 2, 3, 8, 9, 10, 11]))
 (.seq
 (.seq (.ops [⟨(some 45), (.ldB 2 true 9), none⟩,
 ⟨(some 46), (.mov (.t 10)), none⟩,
 ⟨(some 47), (.mov (.t 11)), none⟩,
 ⟨(some 48), (.call n_impl_Swapped [(.t 45), (.t 46), (.t 47)]), none⟩,
 ⟨(some 12), (.mov (.t 48)), none⟩])
 (.keep [1, 2, 3, 8, 9, 10, 11, 12]))
 (.seq
 (.seq
 (.seq (.ops [⟨(some 49), (.mov (.t 12)), none⟩,
 ⟨(some 50), (.mov (.t 8)), none⟩,
 ⟨(some 51), (.call n_laws_eqIntSS [(.t 49), (.t 50)]), none⟩,
 ⟨(some 52), (.un .not (.t 51)), none⟩])
 (.keep [1, 2, 3, 8, 9, 10, 11, 12, 52]))
 (.cond (.t 52)
 (.seq
 (.seq (.ops [⟨(some 6), (.mov (.c (.bool false))), none⟩])
 (.keep [6]))
 .ret)
 .skip))
 (.seq
 (.seq
 (.seq (.free true [⟨(some 53), (.ldB 2 true 9), none⟩,
 ⟨(some 54), (.ldB 2 true 3), none⟩,
 ⟨(some 55), (.call n_laws_toGraph [(.t 54)]), none⟩,
 ⟨(some 56), (.call n_laws_eqGraph [(.t 53), (.t 55)]), none⟩,
 ⟨(some 57), (.un .not (.t 56)), none⟩])
 (.keep [1, 2, 3, 8, 9, 10, 11, 12, 57]))
 (.cond (.t 57)
 (.seq
 (.seq (.ops [⟨(some 6), (.mov (.c (.bool false))), none⟩])
 (.keep [6]))
 .ret)
 .skip))
 (.seq
 (.seq
 (.seq (.ops [⟨(some 58), (.mov (.t 10)), none⟩,
 ⟨(some 59), (.mov (.t 1)), none⟩,
 ⟨(some 60), (.call n_laws_toCoupleS [(.t 59)]), none⟩,
 ⟨(some 61), (.call n_laws_eqCoupleS [(.t 58), (.t 60)]), none⟩,
 ⟨(some 62), (.un .not (.t 61)), none⟩])
 (.keep [1, 2, 3, 8, 9, 10, 11, 12, 62]))
 (.cond (.t 62)
 (.seq
 (.seq (.ops [⟨(some 6), (.mov (.c (.bool false))), none⟩])
 (.keep [6]))
 .ret)
 .skip))
 (.seq
 (.seq
 (.seq (.ops [⟨(some 63), (.mov (.t 11)), none⟩,
 ⟨(some 64), (.mov (.t 2)), none⟩,
 ⟨(some 65), (.call n_laws_toCoupleS [(.t 64)]), none⟩,
 ⟨(some 66), (.call n_laws_eqCoupleS [(.t 63), (.t 65)]), none⟩,
 ⟨(some 67), (.un .not (.t 66)), none⟩])
 (.keep [1, 2, 3, 8, 9, 10, 11, 12, 67]))
 (.cond (.t 67)
 (.seq
 (.seq (.ops [⟨(some 6), (.mov (.c (.bool false))), none⟩])
 (.keep [6]))
 .ret)
 .skip))
 (.seq
 (.seq (.ops [⟨(some 13), (.mov (.c (.int .i64 1))), none⟩])
 (.keep [1, 2, 3, 8, 9, 10, 11, 12, 13]))
 (.seq
 (.seq (.ops [⟨(some 68), (.ldB 2 true 9), none⟩,
 ⟨(some 69), (.mov (.t 13)), none⟩,
 ⟨(some 70), (.call n_laws_markGraph [(.t 68), (.t 69)]), none⟩,
 ⟨(some 13), (.mov (.t 70)), none⟩])
 (.keep [1, 2, 3, 8, 10, 11, 12, 13]))
 (.seq
 (.seq (.ops [⟨(some 71), (.mov (.t 10)), none⟩,
 ⟨(some 72), (.mov (.t 13)), none⟩,
 ⟨(some 73), (.call n_laws_markCoupleS [(.t 71), (.t 72)]), none⟩,
 ⟨(some 13), (.mov (.t 73)), none⟩])
 (.keep [1, 2, 3, 8, 11, 12, 13]))
 (.seq
 (.seq (.ops [⟨(some 74), (.mov (.t 11)), none⟩,
 ⟨(some 75), (.mov (.t 13)), none⟩,
 ⟨(some 76), (.call n_laws_markCoupleS [(.t 74), (.t 75)]), none⟩,
 ⟨(some 13), (.mov (.t 76)), none⟩])
 (.keep [1, 2, 3, 8, 12, 13]))
 (.seq
 (.seq
 (.seq (.ops [⟨(some 77), (.mov (.t 13)), none⟩,
 ⟨(some 78), (.bin .lss (.t 77) (.c (.int .i64 0))), none⟩,
 ⟨(some 79), (.mov (.t 78)), none⟩,
 ⟨(some 80), (.mov (.t 12)), (some (79, false))⟩,
 ⟨(some 81), (.mov (.t 8)), (some (79, false))⟩,
 ⟨(some 82), (.call n_laws_eqIntSS [(.t 80), (.t 81)]), (some (79, false))⟩,
 ⟨(some 83), (.un .not (.t 82)), (some (79, false))⟩,
 ⟨(some 84), (.pick (.t 79) (.c (.bool true)) (.t 83)), none⟩])
 (.keep [1, 2, 3, 8, 12, 84]))
 (.cond (.t 84)
 (.seq
 (.seq (.ops [⟨(some 6), (.mov (.c (.bool false))), none⟩])
 (.keep [6]))
 .ret)
 .skip))
 (.seq
 (.seq (.ops [⟨(some 14), (.mov (.c (.int .i64 1))), none⟩])
 (.keep [1, 2, 3, 8, 12, 14]))
 (.seq
 (.seq (.ops [⟨(some 85), (.mov (.t 12)), none⟩,
 ⟨(some 86), (.mov (.t 14)), none⟩,
 ⟨(some 87), (.call n_laws_markIntSS [(.t 85), (.t 86)]), none⟩,
 ⟨(some 14), (.mov (.t 87)), none⟩])
 (.keep [1, 2, 3, 8, 12, 14]))
 (.seq
 (.seq (.ops [⟨(some 15), (.mov (.c (.int .i64 1))), none⟩])
 (.keep [1, 2, 3, 8, 12, 14, 15]))
 (.seq
 (.seq (.ops [⟨(some 88), (.mov (.t 12)), none⟩,
 ⟨(some 89), (.mov (.t 15)), none⟩,
 ⟨(some 90), (.call n_laws_heldIntSS [(.t 88), (.t 89)]), none⟩,
 ⟨(some 15), (.mov (.t 90)), none⟩])
 (.keep [1, 2, 3, 8, 12, 14, 15]))
 (.seq
 (.seq
 (.seq (.ops [⟨(some 91), (.mov (.t 15)), none⟩,
 ⟨(some 92), (.bin .lss (.t 91) (.c (.int .i64 0))), none⟩])
 (.keep [1, 2, 3, 8, 12, 14, 15, 92]))
 (.cond (.t 92)
 (.seq
 (.seq (.ops [⟨(some 6), (.mov (.c (.bool false))), none⟩])
 (.keep [6]))
 .ret)
 .skip))
 (.seq
 (.seq
 (.seq (.ops [⟨(some 93), (.mov (.t 15)), none⟩,
 ⟨(some 94), (.mov (.t 14)), none⟩,
 ⟨(some 95), (.bin .neq (.t 93) (.t 94)), none⟩])
 (.keep [1, 2, 3, 8, 12, 14, 95]))
 (.cond (.t 95)
 (.seq
 (.seq (.ops [⟨(some 6), (.mov (.c (.bool false))), none⟩])
 (.keep [6]))
 .ret)
 .skip))
 (.seq
 (.seq (.ops [⟨(some 96), (.ldB 2 true 3), none⟩,
 ⟨(some 97), (.call n_laws_toGraph [(.t 96)]), none⟩,
 ⟨(some 98), (.mov (.t 1)), none⟩,
 ⟨(some 99), (.call n_laws_toCoupleS [(.t 98)]), none⟩,
 ⟨(some 100), (.mov (.t 2)), none⟩,
 ⟨(some 101), (.call n_laws_toCoupleS [(.t 100)]), none⟩,
 ⟨(some 102), (.call n_impl_Swapped [(.t 97), (.t 99), (.t 101)]), none⟩,
 ⟨(some 16), (.mov (.t 102)), none⟩])
 (.keep [8, 12, 14, 16]))
 (.seq
 (.seq
 (.seq (.ops [⟨(some 103), (.mov (.t 16)), none⟩,
 ⟨(some 104), (.mov (.t 8)), none⟩,
 ⟨(some 105), (.call n_laws_eqIntSS [(.t 103), (.t 104)]), none⟩,
 ⟨(some 106), (.un .not (.t 105)), none⟩])
 (.keep [12, 14, 106]))
 (.cond (.t 106)
 (.seq
 (.seq (.ops [⟨(some 6), (.mov (.c (.bool false))), none⟩])
 (.keep [6]))
 .ret)
 .skip))
 (.seq
 (.seq (.ops [⟨(some 15), (.mov (.c (.int .i64 1))), none⟩])
 (.keep [12, 14, 15]))
 (.seq
 (.seq (.ops [⟨(some 107), (.mov (.t 12)), none⟩,
 ⟨(some 108), (.mov (.t 15)), none⟩,
 ⟨(some 109), (.call n_laws_heldIntSS [(.t 107), (.t 108)]), none⟩,
 ⟨(some 15), (.mov (.t 109)), none⟩])
 (.keep [14, 15]))
 (.seq
 (.seq
 (.seq (.ops [⟨(some 110), (.mov (.t 15)), none⟩,
 ⟨(some 111), (.bin .lss (.t 110) (.c (.int .i64 0))), none⟩])
 (.keep [14, 15, 111]))
 (.cond (.t 111)
 (.seq
 (.seq (.ops [⟨(some 6), (.mov (.c (.bool false))), none⟩])
 (.keep [6]))
 .ret)
 .skip))
 (.seq
 (.seq
 (.seq (.ops [⟨(some 112), (.mov (.t 15)), none⟩,
 ⟨(some 113), (.mov (.t 14)), none⟩,
 ⟨(some 114), (.bin .neq (.t 112) (.t 113)), none⟩])
 (.keep [114]))
 (.cond (.t 114)
 (.seq
 (.seq (.ops [⟨(some 6), (.mov (.c (.bool false))), none⟩])
 (.keep [6]))
 .ret)
 .skip))
 (.seq
 (.seq (.ops [⟨(some 6), (.mov (.c (.bool true))), none⟩])
 (.keep [6]))
 .ret))))))))))))))))))))))))))))))))))),
 [(.slot 6)]⟩
/-- laws FnExactCertifies -/
def F_laws_FnExactCertifies : Fun := ⟨3,
 (.seq
 (.seq (.ops [⟨(some 3), (.boxL 2 (.t 0)), none⟩,
 ⟨(some 5), (.boxL 2 (.t 2)), none⟩,
 ⟨(some 6), (.mov (.c (.bool false))), none⟩])
 (.keep [1, 3, 5]))
 (.seq
 (.seq (.ops [⟨(some 7), (.mov (.c (.int .i64 1048576))), none⟩])
 (.keep [1, 3, 5, 7]))
 (.seq
 (.seq (.ops [⟨(some 13), (.ldB 2 true 3), none⟩,
 ⟨(some 14), (.mov (.t 7)), none⟩,
 ⟨(some 15), (.call n_laws_szGraph [(.t 13), (.t 14)]), none⟩,
 ⟨(some 7), (.mov (.t 15)), none⟩])
 (.keep [1, 3, 5, 7]))
 (.seq
 (.seq
 (.seq (.ops [⟨(some 16), (.mov (.t 7)), none⟩,
 ⟨(some 17), (.bin .lss (.t 16) (.c (.int .i64 0))), none⟩])
 (.keep [1, 3, 5, 7, 17]))
 (.cond (.t 17)
 (.seq
 (.seq (.ops [⟨(some 6), (.mov (.c (.bool true))), none⟩])
 (.keep [6]))
 .ret)
 .skip))
 (.seq
 (.seq (.ops [⟨(some 18), (.mov (.t 1)), none⟩,
 ⟨(some 19), (.mov (.t 7)), none⟩,
 ⟨(some 20), (.call n_laws_szCoupleS [(.t 18), (.t 19)]), none⟩,
 ⟨(some 7), (.mov (.t 20)), none⟩])
 (.keep [1, 3, 5, 7]))
 (.seq
 (.seq
 (.seq (.ops [⟨(some 21), (.mov (.t 7)), none⟩,
 ⟨(some 22), (.bin .lss (.t 21) (.c (.int .i64 0))), none⟩])
 (.keep [1, 3, 5, 7, 22]))
 (.cond (.t 22)
 (.seq
 (.seq (.ops [⟨(some 6), (.mov (.c (.bool true))), none⟩])
 (.keep [6]))
 .ret)
 .skip))
 (.seq
 (.seq (.ops [⟨(some 23), (.ldB 2 true 5), none⟩,
 ⟨(some 24), (.mov (.t 7)), none⟩,
 ⟨(some 25), (.call n_laws_szProof [(.t 23), (.t 24)]), none⟩,
 ⟨(some 7), (.mov (.t 25)), none⟩])
 (.keep [1, 3, 5, 7]))
 (.seq
 (.seq
 (.seq (.ops [⟨(some 26), (.mov (.t 7)), none⟩,
 ⟨(some 27), (.bin .lss (.t 26) (.c (.int .i64 0))), none⟩])
 (.keep [1, 3, 5, 27]))
 (.cond (.t 27)
 (.seq
 (.seq (.ops [⟨(some 6), (.mov (.c (.bool true))), none⟩])
 (.keep [6]))
 .ret)
 .skip))
 (.seq
 (.seq (.free true [⟨(some 28), (.ldB 2 true 3), none⟩,
 ⟨(some 29), (.call n_laws_toGraph [(.t 28)]), none⟩,
 ⟨(some 30), (.mov (.t 1)), none⟩,
 ⟨(some 31), (.call n_laws_toCoupleS [(.t 30)]), none⟩,
 ⟨(some 32), (.ldB 2 true 5), none⟩,
 ⟨(some 33), (.call n_laws_toProof [(.t 32)]), none⟩,
 ⟨(some 34), (.call n_spec_Certifies [(.t 29), (.t 31), (.t 33)]), none⟩,
 ⟨(some 8), (.mov (.t 34)), none⟩])
 (.keep [1, 3, 5, 8]))
 (.seq
 (.seq (.ops [⟨(some 35), (.ldB 2 true 3), none⟩,
 ⟨(some 36), (.call n_laws_toGraph [(.t 35)]), none⟩,
 ⟨(some 9), (.newL [(.int .i64 0), (.slice none 0 0)]), none⟩,
 ⟨none, (.stB 2 9 (.t 36)), none⟩])
 (.keep [1, 3, 5, 8, 9]))
 (.seq
 (.seq (.ops [⟨(some 37), (.mov (.t 1)), none⟩,
 ⟨(some 38), (.call n_laws_toCoupleS [(.t 37)]), none⟩,
 ⟨(some 10), (.mov (.t 38)), none⟩])
 (.keep [1, 3, 5, 8, 9, 10]))
 (.seq
 (.seq (.ops [⟨(some 39), (.ldB 2 true 5), none⟩,
 ⟨(some 40), (.call n_laws_toProof [(.t 39)]), none⟩,
 ⟨(some 11), (.newL [(.slice none 0 0), (.slice none 0 0)]), none⟩,
 ⟨none, (.stB 2 11 (.t 40)), none⟩])
 (.keep [1, 3, 5, 8, 9, 10, 11]))
 (.seq
 (.seq (.ops [⟨(some 41), (.ldB 2 true 9), none⟩,
 ⟨(some 42), (.mov (.t 10)), none⟩,
 ⟨(some 43), (.ldB 2 true 11), none⟩,
 ⟨(some 44), (.call n_impl_Certifies [(.t 41), (.t 42), (.t 43)]), none⟩,
 ⟨(some 12), (.mov (.t 44)), none⟩])
 (.keep [1, 3, 5, 8, 9, 10, 11, 12]))
 (.seq
 (.seq
 (.seq (.ops [⟨(some 45), (.mov (.t 12)), none⟩,
 ⟨(some 46), (.mov (.t 8)), none⟩,
 ⟨(some 47), (.binB .neq (.t 45) (.t 46)), none⟩])
 (.keep [1, 3, 5, 9, 10, 11, 47]))
 (.cond (.t 47)
 (.seq
 (.seq (.ops [⟨(some 6), (.mov (.c (.bool false))), none⟩])
 (.keep [6]))
 .ret)
 .skip))
 (.seq
 (.seq
 (.seq (.free true [⟨(some 48), (.ldB 2 true 9), none⟩,
 ⟨(some 49), (.ldB 2 true 3), none⟩,
 ⟨(some 50), (.call n_laws_toGraph [(.t 49)]), none⟩,
 ⟨(some 51), (.call n_laws_eqGraph [(.t 48), (.t 50)]), none⟩,
 ⟨(some 52), (.un .not (.t 51)), none⟩])
 (.keep [1, 5, 10, 11, 52]))
 (.cond (.t 52)
 (.seq
 (.seq (.ops [⟨(some 6), (.mov (.c (.bool false))), none⟩])
 (.keep [6]))
 .ret)
 .skip))
 (.seq
 (.seq
 (.seq (.ops [⟨(some 53), (.mov (.t 10)), none⟩,
 ⟨(some 54), (.mov (.t 1)), none⟩,
 ⟨(some 55), (.call n_laws_toCoupleS [(.t 54)]), none⟩,
 ⟨(some 56), (.call n_laws_eqCoupleS [(.t 53), (.t 55)]), none⟩,
 ⟨(some 57), (.un .not (.t 56)), none⟩])
 (.keep [5, 11, 57]))
 (.cond (.t 57)
 (.seq
 (.seq (.ops [⟨(some 6), (.mov (.c (.bool false))), none⟩])
 (.keep [6]))
 .ret)
 .skip))
 (.seq
 (.seq
 (.seq (.free true [⟨(some 58), (.ldB 2 true 11), none⟩,
 ⟨(some 59), (.ldB 2 true 5), none⟩,
 ⟨(some 60), (.call n_laws_toProof [(.t 59)]), none⟩,
 ⟨(some 61), (.call n_laws_eqProof [(.t 58), (.t 60)]), none⟩,
 ⟨(some 62), (.un .not (.t 61)), none⟩])
 (.keep [62]))
 (.cond (.t 62)
 (.seq
 (.seq (.ops [⟨(some 6), (.mov (.c (.bool false))), none⟩])
 (.keep [6]))
 .ret)
 .skip))
 (.seq
 (.seq (.ops [⟨(some 6), (.mov (.c (.bool true))), none⟩])
 (.keep [6]))
 .ret)))))))))))))))))),
 [(.slot 6)]⟩
/-- spec CertParts -/
def F_spec_CertParts : Fun := ⟨1,
 (.seq
 (.seq (.ops [⟨(some 2), (.mov (.c (.slice none 0 0))), none⟩])
 (.keep [0]))
 (.seq
 (.seq (.ops [⟨(some 4), (.lit 0 1 y_string [(.string ⟨⟨[]⟩⟩)] []), none⟩,
 ⟨(some 3), (.mov (.t 4)), none⟩])
 (.keep [0, 3]))
 (.seq
 (.block 0
 (.loop
 (.seq
 (.seq
 (.seq (.ops [⟨(some 5), (.mov (.t 0)), none⟩,
 ⟨(some 6), (.lnS (.t 5)), none⟩,
 ⟨(some 7), (.bin .gtr (.t 6) (.c (.int .i64 40))), none⟩])
 (.keep [0, 3, 7]))
 (.cond (.t 7)
 .skip
 (.exit 0)))
 (.block 1
 (.seq
 (.seq (.ops [⟨(some 8), (.mov (.t 3)), none⟩,
 ⟨(some 9), (.mov (.t 0)), none⟩,
 ⟨(some 10), (.slS (.t 9) none (some (.c (.int .i64 40)))), none⟩,
 ⟨(some 11), (.litL 1 1 [(.string ⟨⟨[]⟩⟩)] [(0, (.t 10))]), none⟩,
 ⟨(some 12), (.appL 1 y_string 16 1 (.t 8) 11), none⟩,
 ⟨(some 3), (.mov (.t 12)), none⟩])
 (.keep [0, 3]))
 (.seq (.ops [⟨(some 13), (.mov (.t 0)), none⟩,
 ⟨(some 14), (.slS (.t 13) (some (.c (.int .i64 40))) none), none⟩,
 ⟨(some 0), (.mov (.t 14)), none⟩])
 (.keep [0, 3])))))))
 (.seq
 (.seq
 (.seq (.ops [⟨(some 15), (.mov (.t 0)), none⟩,
 ⟨(some 16), (.lnS (.t 15)), none⟩,
 ⟨(some 17), (.bin .gtr (.t 16) (.c (.int .i64 0))), none⟩])
 (.keep [0, 3, 17]))
 (.cond (.t 17)
 (.seq (.ops [⟨(some 18), (.mov (.t 3)), none⟩,
 ⟨(some 19), (.mov (.t 0)), none⟩,
 ⟨(some 20), (.litL 1 1 [(.string ⟨⟨[]⟩⟩)] [(0, (.t 19))]), none⟩,
 ⟨(some 21), (.appL 1 y_string 16 1 (.t 18) 20), none⟩,
 ⟨(some 3), (.mov (.t 21)), none⟩])
 (.keep [3]))
 .skip))
 (.seq
 (.seq (.ops [⟨(some 22), (.mov (.t 3)), none⟩,
 ⟨(some 2), (.mov (.t 22)), none⟩])
 (.keep [2]))
 .ret))))),
 [(.slot 2)]⟩
/-- impl CertParts -/
def F_impl_CertParts : Fun := ⟨1,
 (.seq
 (.seq (.ops [⟨(some 2), (.mov (.c (.slice none 0 0))), none⟩])
 (.keep [0]))
 (.seq
 (.seq (.ops [⟨(some 3), (.mov (.c (.slice none 0 0))), none⟩])
 (.keep [0, 3]))
 (.seq
 (.block 0
 (.loop
 (.seq
 (.seq
 (.seq (.ops [⟨(some 4), (.mov (.t 0)), none⟩,
 ⟨(some 5), (.lnS (.t 4)), none⟩,
 ⟨(some 6), (.bin .gtr (.t 5) (.c (.int .i64 40))), none⟩])
 (.keep [0, 3, 6]))
 (.cond (.t 6)
 .skip
 (.exit 0)))
 (.block 1
 (.seq
 (.seq (.ops [⟨(some 7), (.mov (.t 3)), none⟩,
 ⟨(some 8), (.mov (.t 0)), none⟩,
 ⟨(some 9), (.slS (.t 8) none (some (.c (.int .i64 40)))), none⟩,
 ⟨(some 10), (.litL 1 1 [(.string ⟨⟨[]⟩⟩)] [(0, (.t 9))]), none⟩,
 ⟨(some 11), (.appL 1 y_string 16 1 (.t 7) 10), none⟩,
 ⟨(some 3), (.mov (.t 11)), none⟩])
 (.keep [0, 3]))
 (.seq (.ops [⟨(some 12), (.mov (.t 0)), none⟩,
 ⟨(some 13), (.slS (.t 12) (some (.c (.int .i64 40))) none), none⟩,
 ⟨(some 0), (.mov (.t 13)), none⟩])
 (.keep [0, 3])))))))
 (.seq
 (.seq
 (.seq (.ops [⟨(some 14), (.mov (.t 0)), none⟩,
 ⟨(some 15), (.bin .neq (.t 14) (.c (.string ⟨⟨[]⟩⟩))), none⟩])
 (.keep [0, 3, 15]))
 (.cond (.t 15)
 (.seq (.ops [⟨(some 16), (.mov (.t 3)), none⟩,
 ⟨(some 17), (.mov (.t 0)), none⟩,
 ⟨(some 18), (.litL 1 1 [(.string ⟨⟨[]⟩⟩)] [(0, (.t 17))]), none⟩,
 ⟨(some 19), (.appL 1 y_string 16 1 (.t 16) 18), none⟩,
 ⟨(some 3), (.mov (.t 19)), none⟩])
 (.keep [3]))
 .skip))
 (.seq
 (.seq (.ops [⟨(some 20), (.mov (.t 3)), none⟩,
 ⟨(some 2), (.mov (.t 20)), none⟩])
 (.keep [2]))
 .ret))))),
 [(.slot 2)]⟩
/-- laws eqStringS -/
def F_laws_eqStringS : Fun := ⟨2,
 (.seq
 (.seq (.ops [⟨(some 4), (.mov (.c (.bool false))), none⟩])
 (.keep [0, 1]))
 (.seq
 (.seq
 (.seq (.ops [⟨(some 6), (.mov (.t 0)), none⟩,
 ⟨(some 7), (.ln (.t 6)), none⟩,
 ⟨(some 8), (.mov (.t 1)), none⟩,
 ⟨(some 9), (.ln (.t 8)), none⟩,
 ⟨(some 10), (.bin .neq (.t 7) (.t 9)), none⟩])
 (.keep [0, 1, 10]))
 (.cond (.t 10)
 (.seq
 (.seq (.ops [⟨(some 4), (.mov (.c (.bool false))), none⟩])
 (.keep [4]))
 .ret)
 .skip))
 (.seq
 (.seq
 (.seq (.ops [⟨(some 5), (.mov (.c (.int .i64 0))), none⟩])
 (.keep [0, 1, 5]))
 (.block 0
 (.loop
 (.seq
 (.seq
 (.seq (.ops [⟨(some 11), (.mov (.t 5)), none⟩,
 ⟨(some 12), (.mov (.t 0)), none⟩,
 ⟨(some 13), (.ln (.t 12)), none⟩,
 ⟨(some 14), (.bin .lss (.t 11) (.t 13)), none⟩])
 (.keep [0, 1, 5, 14]))
 (.cond (.t 14)
 .skip
 (.exit 0)))
 (.seq
 (.block 1
 (.seq
 (.seq (.free true [⟨(some 17), (.mov (.t 0)), none⟩,
 ⟨(some 18), (.mov (.t 5)), none⟩,
 ⟨(some 19), (.ia 1 (.t 17) (.t 18)), none⟩,
 ⟨(some 20), (.ld 1 false (.t 19)), none⟩,
 ⟨(some 21), (.mov (.t 1)), none⟩,
 ⟨(some 22), (.mov (.t 5)), none⟩,
 ⟨(some 23), (.ia 1 (.t 21) (.t 22)), none⟩,
 ⟨(some 24), (.ld 1 false (.t 23)), none⟩,
 ⟨(some 25), (.bin .neq (.t 20) (.t 24)), none⟩])
 (.keep [0, 1, 5, 25]))
 (.cond (.t 25)
 (.seq
 (.seq (.ops [⟨(some 4), (.mov (.c (.bool false))), none⟩])
 (.keep [4]))
 .ret)
 .skip)))
 (.seq (.ops [⟨(some 15), (.mov (.t 5)), none⟩,
 ⟨(some 16), (.bin .add (.t 15) (.c (.int .i64 1))), none⟩,
 ⟨(some 5), (.mov (.t 16)), none⟩])
 (.keep [0, 1, 5])))))))
 (.seq
 (.seq (.ops [⟨(some 4), (.mov (.c (.bool true))), none⟩])
 (.keep [4]))
 .ret)))),
 [(.slot 4)]⟩
/-- laws markStringS -/
def F_laws_markStringS : Fun := ⟨2,
 (.seq
 (.seq (.ops [⟨(some 4), (.mov (.c (.int .i64 0))), none⟩])
 (.keep [0, 1]))
 (.seq
 (.seq
 (.seq (.ops [⟨(some 5), (.mov (.c (.int .i64 0))), none⟩])
 (.keep [0, 1, 5]))
 (.block 0
 (.loop
 (.seq
 (.seq
 (.seq (.ops [⟨(some 6), (.mov (.t 5)), none⟩,
 ⟨(some 7), (.mov (.t 0)), none⟩,
 ⟨(some 8), (.ln (.t 7)), none⟩,
 ⟨(some 9), (.bin .lss (.t 6) (.t 8)), none⟩])
 (.keep [0, 1, 5, 9]))
 (.cond (.t 9)
 .skip
 (.exit 0)))
 (.seq
 (.block 1
 (.seq
 (.seq (.ops [⟨(some 12), (.mov (.t 0)), none⟩,
 ⟨(some 13), (.mov (.t 5)), none⟩,
 ⟨(some 14), (.mov (.t 1)), none⟩,
 ⟨(some 15), (.call n_laws_markText [(.t 14)]), none⟩,
 ⟨(some 16), (.ia 1 (.t 12) (.t 13)), none⟩,
 ⟨none, (.st 1 (.t 16) (.t 15)), none⟩])
 (.keep [0, 1, 5]))
 (.seq (.ops [⟨(some 17), (.mov (.t 1)), none⟩,
 ⟨(some 18), (.bin .add (.t 17) (.c (.int .i64 1))), none⟩,
 ⟨(some 1), (.mov (.t 18)), none⟩])
 (.keep [0, 1, 5]))))
 (.seq (.ops [⟨(some 10), (.mov (.t 5)), none⟩,
 ⟨(some 11), (.bin .add (.t 10) (.c (.int .i64 1))), none⟩,
 ⟨(some 5), (.mov (.t 11)), none⟩])
 (.keep [0, 1, 5])))))))
 (.seq
 (.seq (.ops [⟨(some 19), (.mov (.t 1)), none⟩,
 ⟨(some 4), (.mov (.t 19)), none⟩])
 (.keep [4]))
 .ret))),
 [(.slot 4)]⟩
/-- laws heldStringS -/
def F_laws_heldStringS : Fun := ⟨2,
 (.seq
 (.seq (.ops [⟨(some 4), (.mov (.c (.int .i64 0))), none⟩])
 (.keep [0, 1]))
 (.seq
 (.seq
 (.seq (.ops [⟨(some 5), (.mov (.c (.int .i64 0))), none⟩])
 (.keep [0, 1, 5]))
 (.block 0
 (.loop
 (.seq
 (.seq
 (.seq (.ops [⟨(some 6), (.mov (.t 5)), none⟩,
 ⟨(some 7), (.mov (.t 0)), none⟩,
 ⟨(some 8), (.ln (.t 7)), none⟩,
 ⟨(some 9), (.bin .lss (.t 6) (.t 8)), none⟩])
 (.keep [0, 1, 5, 9]))
 (.cond (.t 9)
 .skip
 (.exit 0)))
 (.seq
 (.block 1
 (.seq
 (.seq
 (.seq (.free false [⟨(some 12), (.mov (.t 0)), none⟩,
 ⟨(some 13), (.mov (.t 5)), none⟩,
 ⟨(some 14), (.ia 1 (.t 12) (.t 13)), none⟩,
 ⟨(some 15), (.ld 1 false (.t 14)), none⟩,
 ⟨(some 16), (.mov (.t 1)), none⟩,
 ⟨(some 17), (.call n_laws_markText [(.t 16)]), none⟩,
 ⟨(some 18), (.bin .neq (.t 15) (.t 17)), none⟩])
 (.keep [0, 1, 5, 18]))
 (.cond (.t 18)
 (.seq
 (.seq (.ops [⟨(some 4), (.mov (.c (.int .i64 (-1)))), none⟩])
 (.keep [4]))
 .ret)
 .skip))
 (.seq (.ops [⟨(some 19), (.mov (.t 1)), none⟩,
 ⟨(some 20), (.bin .add (.t 19) (.c (.int .i64 1))), none⟩,
 ⟨(some 1), (.mov (.t 20)), none⟩])
 (.keep [0, 1, 5]))))
 (.seq (.ops [⟨(some 10), (.mov (.t 5)), none⟩,
 ⟨(some 11), (.bin .add (.t 10) (.c (.int .i64 1))), none⟩,
 ⟨(some 5), (.mov (.t 11)), none⟩])
 (.keep [0, 1, 5])))))))
 (.seq
 (.seq (.ops [⟨(some 21), (.mov (.t 1)), none⟩,
 ⟨(some 4), (.mov (.t 21)), none⟩])
 (.keep [4]))
 .ret))),
 [(.slot 4)]⟩
/-- laws szDeed -/
def F_laws_szDeed : Fun := ⟨2,
 (.seq
 (.seq (.ops [⟨(some 2), (.boxL 6 (.t 0)), none⟩,
 ⟨(some 4), (.mov (.c (.int .i64 0))), none⟩])
 (.keep [1, 2]))
 (.seq
 (.seq (.ops [⟨(some 5), (.mov (.t 1)), none⟩,
 ⟨(some 6), (.faB 0 2), none⟩,
 ⟨(some 7), (.ldE 1 false 2 6), none⟩,
 ⟨(some 8), (.lnS (.t 7)), none⟩,
 ⟨(some 9), (.bin .sub (.t 5) (.t 8)), none⟩,
 ⟨(some 1), (.mov (.t 9)), none⟩])
 (.keep [1, 2]))
 (.seq
 (.seq
 (.seq (.ops [⟨(some 10), (.mov (.t 1)), none⟩,
 ⟨(some 11), (.bin .lss (.t 10) (.c (.int .i64 0))), none⟩])
 (.keep [1, 2, 11]))
 (.cond (.t 11)
 (.seq
 (.seq (.ops [⟨(some 4), (.mov (.c (.int .i64 (-1)))), none⟩])
 (.keep [4]))
 .ret)
 .skip))
 (.seq
 (.seq (.ops [⟨(some 12), (.faB 3 2), none⟩,
 ⟨(some 13), (.ldE 1 false 2 12), none⟩,
 ⟨(some 14), (.mov (.t 1)), none⟩,
 ⟨(some 15), (.call n_laws_szIntS [(.t 13), (.t 14)]), none⟩,
 ⟨(some 1), (.mov (.t 15)), none⟩])
 (.keep [1]))
 (.seq
 (.seq
 (.seq (.ops [⟨(some 16), (.mov (.t 1)), none⟩,
 ⟨(some 17), (.bin .lss (.t 16) (.c (.int .i64 0))), none⟩])
 (.keep [1, 17]))
 (.cond (.t 17)
 (.seq
 (.seq (.ops [⟨(some 4), (.mov (.c (.int .i64 (-1)))), none⟩])
 (.keep [4]))
 .ret)
 .skip))
 (.seq
 (.seq (.ops [⟨(some 18), (.mov (.t 1)), none⟩,
 ⟨(some 4), (.mov (.t 18)), none⟩])
 (.keep [4]))
 .ret)))))),
 [(.slot 4)]⟩
/-- spec DeedOk -/
def F_spec_DeedOk : Fun := ⟨1,
 (.seq
 (.seq (.ops [⟨(some 1), (.boxL 6 (.t 0)), none⟩,
 ⟨(some 2), (.mov (.c (.bool false))), none⟩])
 (.keep [1]))
 (.seq
 (.seq (.ops [⟨(some 3), (.faB 0 1), none⟩,
 ⟨(some 4), (.ldE 1 false 1 3), none⟩,
 ⟨(some 5), (.lnS (.t 4)), none⟩,
 ⟨(some 6), (.bin .leq (.t 5) (.c (.int .i64 40))), none⟩,
 ⟨(some 7), (.mov (.t 6)), none⟩,
 ⟨(some 8), (.faB 2 1), (some (7, true))⟩,
 ⟨(some 9), (.ldE 1 false 1 8), (some (7, true))⟩,
 ⟨(some 10), (.call n_spec_l01In [(.t 9), (.c (.int .i64 0)), (.c (.int .i64 1))]), (some (7, true))⟩,
 ⟨(some 11), (.pick (.t 7) (.t 10) (.c (.bool false))), none⟩,
 ⟨(some 12), (.mov (.t 11)), none⟩,
 ⟨(some 13), (.faB 3 1), (some (12, true))⟩,
 ⟨(some 14), (.ldE 1 false 1 13), (some (12, true))⟩,
 ⟨(some 15), (.ln (.t 14)), (some (12, true))⟩,
 ⟨(some 16), (.bin .leq (.t 15) (.c (.int .i64 60))), (some (12, true))⟩,
 ⟨(some 17), (.pick (.t 12) (.t 16) (.c (.bool false))), none⟩,
 ⟨(some 18), (.mov (.t 17)), none⟩,
 ⟨(some 19), (.faB 5 1), (some (18, true))⟩,
 ⟨(some 20), (.ldE 1 false 1 19), (some (18, true))⟩,
 ⟨(some 21), (.call n_spec_l01In [(.t 20), (.c (.int .i64 0)), (.c (.int .i64 64))]), (some (18, true))⟩,
 ⟨(some 22), (.pick (.t 18) (.t 21) (.c (.bool false))), none⟩,
 ⟨(some 2), (.mov (.t 22)), none⟩])
 (.keep [2]))
 .ret)),
 [(.slot 2)]⟩
/-- laws toDeed -/
def F_laws_toDeed : Fun := ⟨1,
 (.seq
 (.seq (.ops [⟨(some 1), (.boxL 6 (.t 0)), none⟩,
 ⟨(some 2), (.newL [(.string ⟨⟨[]⟩⟩), (.bool false), (.int .i64 0), (.slice none 0 0), (.int .i64 0), (.int .i64 0)]), none⟩])
 (.keep [1, 2]))
 (.seq
 (.seq (.ops [⟨(some 3), (.newL [(.string ⟨⟨[]⟩⟩), (.bool false), (.int .i64 0), (.slice none 0 0), (.int .i64 0), (.int .i64 0)]), none⟩])
 (.keep [1, 2, 3]))
 (.seq
 (.seq (.ops [⟨(some 4), (.faB 0 1), none⟩,
 ⟨(some 5), (.ldE 1 false 1 4), none⟩,
 ⟨(some 6), (.faB 0 3), none⟩,
 ⟨none, (.stE 1 3 6 (.t 5)), none⟩])
 (.keep [1, 2, 3]))
 (.seq
 (.seq (.ops [⟨(some 7), (.faB 1 1), none⟩,
 ⟨(some 8), (.ldE 1 false 1 7), none⟩,
 ⟨(some 9), (.faB 1 3), none⟩,
 ⟨none, (.stE 1 3 9 (.t 8)), none⟩])
 (.keep [1, 2, 3]))
 (.seq
 (.seq (.ops [⟨(some 10), (.faB 2 1), none⟩,
 ⟨(some 11), (.ldE 1 false 1 10), none⟩,
 ⟨(some 12), (.faB 2 3), none⟩,
 ⟨none, (.stE 1 3 12 (.t 11)), none⟩])
 (.keep [1, 2, 3]))
 (.seq
 (.seq (.ops [⟨(some 13), (.faB 3 1), none⟩,
 ⟨(some 14), (.ldE 1 false 1 13), none⟩,
 ⟨(some 15), (.call n_laws_toIntS [(.t 14)]), none⟩,
 ⟨(some 16), (.faB 3 3), none⟩,
 ⟨none, (.stE 1 3 16 (.t 15)), none⟩])
 (.keep [1, 2, 3]))
 (.seq
 (.seq (.ops [⟨(some 17), (.faB 4 1), none⟩,
 ⟨(some 18), (.ldE 1 false 1 17), none⟩,
 ⟨(some 19), (.faB 4 3), none⟩,
 ⟨none, (.stE 1 3 19 (.t 18)), none⟩])
 (.keep [1, 2, 3]))
 (.seq
 (.seq (.ops [⟨(some 20), (.faB 5 1), none⟩,
 ⟨(some 21), (.ldE 1 false 1 20), none⟩,
 ⟨(some 22), (.faB 5 3), none⟩,
 ⟨none, (.stE 1 3 22 (.t 21)), none⟩])
 (.keep [2, 3]))
 (.seq
 (.seq (.ops [⟨(some 23), (.ldB 6 true 3), none⟩,
 ⟨none, (.stB 6 2 (.t 23)), none⟩])
 (.keep [2]))
 .ret))))))))),
 [(.box 2 6 true)]⟩
/-- impl DeedOk -/
def F_impl_DeedOk : Fun := ⟨1,
 (.seq
 (.seq (.ops [⟨(some 1), (.boxL 6 (.t 0)), none⟩,
 ⟨(some 2), (.mov (.c (.bool false))), none⟩])
 (.keep [1]))
 (.seq
 (.seq (.ops [⟨(some 3), (.faB 0 1), none⟩,
 ⟨(some 4), (.ldE 1 false 1 3), none⟩,
 ⟨(some 5), (.lnS (.t 4)), none⟩,
 ⟨(some 6), (.bin .leq (.t 5) (.c (.int .i64 40))), none⟩,
 ⟨(some 7), (.mov (.t 6)), none⟩,
 ⟨(some 8), (.faB 2 1), (some (7, true))⟩,
 ⟨(some 9), (.ldE 1 false 1 8), (some (7, true))⟩,
 ⟨(some 10), (.call n_impl_in [(.t 9), (.c (.int .i64 0)), (.c (.int .i64 1))]), (some (7, true))⟩,
 ⟨(some 11), (.pick (.t 7) (.t 10) (.c (.bool false))), none⟩,
 ⟨(some 12), (.mov (.t 11)), none⟩,
 ⟨(some 13), (.faB 3 1), (some (12, true))⟩,
 ⟨(some 14), (.ldE 1 false 1 13), (some (12, true))⟩,
 ⟨(some 15), (.ln (.t 14)), (some (12, true))⟩,
 ⟨(some 16), (.bin .leq (.t 15) (.c (.int .i64 60))), (some (12, true))⟩,
 ⟨(some 17), (.pick (.t 12) (.t 16) (.c (.bool false))), none⟩,
 ⟨(some 18), (.mov (.t 17)), none⟩,
 ⟨(some 19), (.faB 5 1), (some (18, true))⟩,
 ⟨(some 20), (.ldE 1 false 1 19), (some (18, true))⟩,
 ⟨(some 21), (.call n_impl_in [(.t 20), (.c (.int .i64 0)), (.c (.int .i64 64))]), (some (18, true))⟩,
 ⟨(some 22), (.pick (.t 18) (.t 21) (.c (.bool false))), none⟩,
 ⟨(some 2), (.mov (.t 22)), none⟩])
 (.keep [2]))
 .ret)),
 [(.slot 2)]⟩
/-- laws eqDeed -/
def F_laws_eqDeed : Fun := ⟨2,
 (.seq
 (.seq (.ops [⟨(some 2), (.boxL 6 (.t 0)), none⟩,
 ⟨(some 3), (.boxL 6 (.t 1)), none⟩,
 ⟨(some 4), (.mov (.c (.bool false))), none⟩])
 (.keep [2, 3]))
 (.seq
 (.seq
 (.seq (.ops [⟨(some 5), (.faB 0 2), none⟩,
 ⟨(some 6), (.ldE 1 false 2 5), none⟩,
 ⟨(some 7), (.faB 0 3), none⟩,
 ⟨(some 8), (.ldE 1 false 3 7), none⟩,
 ⟨(some 9), (.bin .neq (.t 6) (.t 8)), none⟩])
 (.keep [2, 3, 9]))
 (.cond (.t 9)
 (.seq
 (.seq (.ops [⟨(some 4), (.mov (.c (.bool false))), none⟩])
 (.keep [4]))
 .ret)
 .skip))
 (.seq
 (.seq
 (.seq (.ops [⟨(some 10), (.faB 1 2), none⟩,
 ⟨(some 11), (.ldE 1 false 2 10), none⟩,
 ⟨(some 12), (.faB 1 3), none⟩,
 ⟨(some 13), (.ldE 1 false 3 12), none⟩,
 ⟨(some 14), (.binB .neq (.t 11) (.t 13)), none⟩])
 (.keep [2, 3, 14]))
 (.cond (.t 14)
 (.seq
 (.seq (.ops [⟨(some 4), (.mov (.c (.bool false))), none⟩])
 (.keep [4]))
 .ret)
 .skip))
 (.seq
 (.seq
 (.seq (.ops [⟨(some 15), (.faB 2 2), none⟩,
 ⟨(some 16), (.ldE 1 false 2 15), none⟩,
 ⟨(some 17), (.faB 2 3), none⟩,
 ⟨(some 18), (.ldE 1 false 3 17), none⟩,
 ⟨(some 19), (.bin .neq (.t 16) (.t 18)), none⟩])
 (.keep [2, 3, 19]))
 (.cond (.t 19)
 (.seq
 (.seq (.ops [⟨(some 4), (.mov (.c (.bool false))), none⟩])
 (.keep [4]))
 .ret)
 .skip))
 (.seq
 (.seq
 (.seq (.ops [⟨(some 20), (.faB 3 2), none⟩,
 ⟨(some 21), (.ldE 1 false 2 20), none⟩,
 ⟨(some 22), (.faB 3 3), none⟩,
 ⟨(some 23), (.ldE 1 false 3 22), none⟩,
 ⟨(some 24), (.call n_laws_eqIntS [(.t 21), (.t 23)]), none⟩,
 ⟨(some 25), (.un .not (.t 24)), none⟩])
 (.keep [2, 3, 25]))
 (.cond (.t 25)
 (.seq
 (.seq (.ops [⟨(some 4), (.mov (.c (.bool false))), none⟩])
 (.keep [4]))
 .ret)
 .skip))
 (.seq
 (.seq
 (.seq (.ops [⟨(some 26), (.faB 4 2), none⟩,
 ⟨(some 27), (.ldE 1 false 2 26), none⟩,
 ⟨(some 28), (.faB 4 3), none⟩,
 ⟨(some 29), (.ldE 1 false 3 28), none⟩,
 ⟨(some 30), (.bin .neq (.t 27) (.t 29)), none⟩])
 (.keep [2, 3, 30]))
 (.cond (.t 30)
 (.seq
 (.seq (.ops [⟨(some 4), (.mov (.c (.bool false))), none⟩])
 (.keep [4]))
 .ret)
 .skip))
 (.seq
 (.seq
 (.seq (.ops [⟨(some 31), (.faB 5 2), none⟩,
 ⟨(some 32), (.ldE 1 false 2 31), none⟩,
 ⟨(some 33), (.faB 5 3), none⟩,
 ⟨(some 34), (.ldE 1 false 3 33), none⟩,
 ⟨(some 35), (.bin .neq (.t 32) (.t 34)), none⟩])
 (.keep [35]))
 (.cond (.t 35)
 (.seq
 (.seq (.ops [⟨(some 4), (.mov (.c (.bool false))), none⟩])
 (.keep [4]))
 .ret)
 .skip))
 (.seq
 (.seq (.ops [⟨(some 4), (.mov (.c (.bool true))), none⟩])
 (.keep [4]))
 .ret)))))))),
 [(.slot 4)]⟩
/-- spec AskText -/
def F_spec_AskText : Fun := ⟨1,
 (.seq
 (.seq (.ops [⟨(some 1), (.boxL 6 (.t 0)), none⟩,
 ⟨(some 2), (.mov (.c (.string ⟨⟨[]⟩⟩))), none⟩,
 ⟨(some 3), (.mov (.c (.bool false))), none⟩])
 (.keep [1]))
 (.seq
 (.seq
 (.seq (.ops [⟨(some 7), (.faB 0 1), none⟩,
 ⟨(some 8), (.ldE 1 false 1 7), none⟩,
 ⟨(some 9), (.call n_spec_l01In [(.t 8), (.c (.int .i64 1)), (.c (.int .i64 6))]), none⟩,
 ⟨(some 10), (.un .not (.t 9)), none⟩])
 (.keep [1, 10]))
 (.cond (.t 10)
 (.seq
 (.seq (.ops [⟨(some 2), (.mov (.c (.string ⟨⟨[]⟩⟩))), none⟩,
 ⟨(some 3), (.mov (.c (.bool false))), none⟩])
 (.keep [2, 3]))
 .ret)
 .skip))
 (.seq
 (.seq (.ops [⟨(some 11), (.faB 0 1), none⟩,
 ⟨(some 12), (.ldE 1 false 1 11), none⟩,
 ⟨(some 13), (.conv .u8 (.t 12)), none⟩,
 ⟨(some 14), (.litL 1 1 [(.int .u8 0)] [(0, (.t 13))]), none⟩,
 ⟨(some 15), (.strL 1 14), none⟩,
 ⟨(some 4), (.mov (.t 15)), none⟩])
 (.keep [1, 4]))
 (.seq
 (.seq (.ops [⟨(some 16), (.ldB 6 true 1), none⟩,
 ⟨(some 17), (.call n_spec_l14List [(.t 16)]), none⟩,
 ⟨(some 5), (.mov (.t 17)), none⟩])
 (.keep [1, 4, 5]))
 (.seq
 (.seq
 (.seq (.ops [⟨(some 6), (.mov (.c (.int .i64 0))), none⟩])
 (.keep [1, 4, 5, 6]))
 (.block 0
 (.loop
 (.seq
 (.seq
 (.seq (.ops [⟨(some 18), (.mov (.t 6)), none⟩,
 ⟨(some 19), (.bin .lss (.t 18) (.c (.int .i64 5))), none⟩])
 (.keep [1, 4, 5, 6, 19]))
 (.cond (.t 19)
 .skip
 (.exit 0)))
 (.seq
 (.block 1
 (.seq
 (.seq
 (.seq (.ops [⟨(some 22), (.mov (.t 5)), none⟩,
 ⟨(some 23), (.mov (.t 6)), none⟩,
 ⟨(some 24), (.ia 1 (.t 22) (.t 23)), none⟩,
 ⟨(some 25), (.ld 1 false (.t 24)), none⟩,
 ⟨(some 26), (.call n_spec_l01In [(.t 25), (.c (.int .i64 0)), (.c (.int .i64 1000000000))]), none⟩,
 ⟨(some 27), (.un .not (.t 26)), none⟩,
 ⟨(some 28), (.mov (.t 27)), none⟩,
 ⟨(some 29), (.mov (.t 6)), (some (28, false))⟩,
 ⟨(some 30), (.faB 0 1), (some (28, false))⟩,
 ⟨(some 31), (.ldE 1 false 1 30), (some (28, false))⟩,
 ⟨(some 32), (.call n_spec_l14Numbers [(.t 31)]), (some (28, false))⟩,
 ⟨(some 33), (.bin .geq (.t 29) (.t 32)), (some (28, false))⟩,
 ⟨(some 34), (.mov (.t 33)), (some (28, false))⟩,
 ⟨(some 35), (.mov (.t 5)), (some (34, true))⟩,
 ⟨(some 36), (.mov (.t 6)), (some (34, true))⟩,
 ⟨(some 37), (.ia 1 (.t 35) (.t 36)), (some (34, true))⟩,
 ⟨(some 38), (.ld 1 false (.t 37)), (some (34, true))⟩,
 ⟨(some 39), (.bin .neq (.t 38) (.c (.int .i64 0))), (some (34, true))⟩,
 ⟨(some 40), (.pick (.t 34) (.t 39) (.c (.bool false))), (some (28, false))⟩,
 ⟨(some 41), (.pick (.t 28) (.c (.bool true)) (.t 40)), none⟩])
 (.keep [1, 4, 5, 6, 41]))
 (.cond (.t 41)
 (.seq
 (.seq (.ops [⟨(some 2), (.mov (.c (.string ⟨⟨[]⟩⟩))), none⟩,
 ⟨(some 3), (.mov (.c (.bool false))), none⟩])
 (.keep [2, 3]))
 .ret)
 .skip))
 (.seq
 (.seq (.ops [⟨(some 42), (.mov (.t 6)), none⟩,
 ⟨(some 43), (.faB 0 1), none⟩,
 ⟨(some 44), (.ldE 1 false 1 43), none⟩,
 ⟨(some 45), (.call n_spec_l14Numbers [(.t 44)]), none⟩,
 ⟨(some 46), (.bin .lss (.t 42) (.t 45)), none⟩])
 (.keep [1, 4, 5, 6, 46]))
 (.cond (.t 46)
 (.seq (.ops [⟨(some 47), (.mov (.t 4)), none⟩,
 ⟨(some 48), (.mov (.t 5)), none⟩,
 ⟨(some 49), (.mov (.t 6)), none⟩,
 ⟨(some 50), (.ia 1 (.t 48) (.t 49)), none⟩,
 ⟨(some 51), (.ld 1 false (.t 50)), none⟩,
 ⟨(some 52), (.call n_spec_l01Var [(.t 51)]), none⟩,
 ⟨(some 53), (.bin .add (.t 47) (.t 52)), none⟩,
 ⟨(some 4), (.mov (.t 53)), none⟩])
 (.keep [1, 4, 5, 6]))
 .skip))))
 (.seq (.ops [⟨(some 20), (.mov (.t 6)), none⟩,
 ⟨(some 21), (.bin .add (.t 20) (.c (.int .i64 1))), none⟩,
 ⟨(some 6), (.mov (.t 21)), none⟩])
 (.keep [1, 4, 5, 6])))))))
 (.seq
 (.seq (.ops [⟨(some 54), (.mov (.t 4)), none⟩,
 ⟨(some 2), (.mov (.t 54)), none⟩,
 ⟨(some 3), (.mov (.c (.bool true))), none⟩])
 (.keep [2, 3]))
 .ret)))))),
 [(.slot 2), (.slot 3)]⟩
/-- laws toAsk -/
def F_laws_toAsk : Fun := ⟨1,
 (.seq
 (.seq (.ops [⟨(some 1), (.boxL 6 (.t 0)), none⟩,
 ⟨(some 2), (.newL [(.int .i64 0), (.int .i64 0), (.int .i64 0), (.int .i64 0), (.int .i64 0), (.int .i64 0)]), none⟩])
 (.keep [1, 2]))
 (.seq
 (.seq (.ops [⟨(some 3), (.newL [(.int .i64 0), (.int .i64 0), (.int .i64 0), (.int .i64 0), (.int .i64 0), (.int .i64 0)]), none⟩])
 (.keep [1, 2, 3]))
 (.seq
 (.seq (.ops [⟨(some 4), (.faB 0 1), none⟩,
 ⟨(some 5), (.ldE 1 false 1 4), none⟩,
 ⟨(some 6), (.faB 0 3), none⟩,
 ⟨none, (.stE 1 3 6 (.t 5)), none⟩])
 (.keep [1, 2, 3]))
 (.seq
 (.seq (.ops [⟨(some 7), (.faB 1 1), none⟩,
 ⟨(some 8), (.ldE 1 false 1 7), none⟩,
 ⟨(some 9), (.faB 1 3), none⟩,
 ⟨none, (.stE 1 3 9 (.t 8)), none⟩])
 (.keep [1, 2, 3]))
 (.seq
 (.seq (.ops [⟨(some 10), (.faB 2 1), none⟩,
 ⟨(some 11), (.ldE 1 false 1 10), none⟩,
 ⟨(some 12), (.faB 2 3), none⟩,
 ⟨none, (.stE 1 3 12 (.t 11)), none⟩])
 (.keep [1, 2, 3]))
 (.seq
 (.seq (.ops [⟨(some 13), (.faB 3 1), none⟩,
 ⟨(some 14), (.ldE 1 false 1 13), none⟩,
 ⟨(some 15), (.faB 3 3), none⟩,
 ⟨none, (.stE 1 3 15 (.t 14)), none⟩])
 (.keep [1, 2, 3]))
 (.seq
 (.seq (.ops [⟨(some 16), (.faB 4 1), none⟩,
 ⟨(some 17), (.ldE 1 false 1 16), none⟩,
 ⟨(some 18), (.faB 4 3), none⟩,
 ⟨none, (.stE 1 3 18 (.t 17)), none⟩])
 (.keep [1, 2, 3]))
 (.seq
 (.seq (.ops [⟨(some 19), (.faB 5 1), none⟩,
 ⟨(some 20), (.ldE 1 false 1 19), none⟩,
 ⟨(some 21), (.faB 5 3), none⟩,
 ⟨none, (.stE 1 3 21 (.t 20)), none⟩])
 (.keep [2, 3]))
 (.seq
 (.seq (.ops [⟨(some 22), (.ldB 6 true 3), none⟩,
 ⟨none, (.stB 6 2 (.t 22)), none⟩])
 (.keep [2]))
 .ret))))))))),
 [(.box 2 6 true)]⟩
/-- impl AskText -/
def F_impl_AskText : Fun := ⟨1,
 (.seq
 (.seq (.ops [⟨(some 1), (.boxL 6 (.t 0)), none⟩,
 ⟨(some 2), (.mov (.c (.string ⟨⟨[]⟩⟩))), none⟩,
 ⟨(some 3), (.mov (.c (.bool false))), none⟩])
 (.keep [1]))
 (.seq
 (.seq (.ops [⟨(some 7), (.ldB 6 true 1), none⟩,
 ⟨(some 8), (.call n_impl_told [(.t 7)]), none⟩,
 ⟨(some 4), (.mov (.t 8)), none⟩])
 (.keep [1, 4]))
 (.seq
 (.seq
 (.seq (.ops [⟨(some 9), (.faB 0 1), none⟩,
 ⟨(some 10), (.ldE 1 false 1 9), none⟩,
 ⟨(some 11), (.call n_impl_in [(.t 10), (.c (.int .i64 1)), (.c (.int .i64 6))]), none⟩,
 ⟨(some 12), (.un .not (.t 11)), none⟩,
 ⟨(some 13), (.mov (.t 12)), none⟩,
 ⟨(some 14), (.mov (.t 4)), (some (13, false))⟩,
 ⟨(some 15), (.ln (.t 14)), (some (13, false))⟩,
 ⟨(some 16), (.bin .lss (.t 15) (.c (.int .i64 5))), (some (13, false))⟩,
 ⟨(some 17), (.mov (.t 16)), (some (13, false))⟩,
 ⟨(some 18), (.faB 2 1), (some (17, true))⟩,
 ⟨(some 19), (.ldE 1 false 1 18), (some (17, true))⟩,
 ⟨(some 20), (.bin .neq (.t 19) (.c (.int .i64 0))), (some (17, true))⟩,
 ⟨(some 21), (.mov (.t 20)), (some (17, true))⟩,
 ⟨(some 22), (.faB 3 1), (some (21, false))⟩,
 ⟨(some 23), (.ldE 1 false 1 22), (some (21, false))⟩,
 ⟨(some 24), (.bin .neq (.t 23) (.c (.int .i64 0))), (some (21, false))⟩,
 ⟨(some 25), (.pick (.t 21) (.c (.bool true)) (.t 24)), (some (17, true))⟩,
 ⟨(some 26), (.mov (.t 25)), (some (17, true))⟩,
 ⟨(some 27), (.faB 4 1), (some (26, false))⟩,
 ⟨(some 28), (.ldE 1 false 1 27), (some (26, false))⟩,
 ⟨(some 29), (.bin .neq (.t 28) (.c (.int .i64 0))), (some (26, false))⟩,
 ⟨(some 30), (.pick (.t 26) (.c (.bool true)) (.t 29)), (some (17, true))⟩,
 ⟨(some 31), (.mov (.t 30)), (some (17, true))⟩,
 ⟨(some 32), (.faB 5 1), (some (31, false))⟩,
 ⟨(some 33), (.ldE 1 false 1 32), (some (31, false))⟩,
 ⟨(some 34), (.bin .neq (.t 33) (.c (.int .i64 0))), (some (31, false))⟩,
 ⟨(some 35), (.pick (.t 31) (.c (.bool true)) (.t 34)), (some (17, true))⟩,
 ⟨(some 36), (.pick (.t 17) (.t 35) (.c (.bool false))), (some (13, false))⟩,
 ⟨(some 37), (.pick (.t 13) (.c (.bool true)) (.t 36)), none⟩,
 ⟨(some 38), (.mov (.t 37)), none⟩,
 ⟨(some 39), (.mov (.t 4)), (some (38, false))⟩,
 ⟨(some 40), (.ln (.t 39)), (some (38, false))⟩,
 ⟨(some 41), (.bin .eql (.t 40) (.c (.int .i64 0))), (some (38, false))⟩,
 ⟨(some 42), (.mov (.t 41)), (some (38, false))⟩,
 ⟨(some 43), (.faB 1 1), (some (42, true))⟩,
 ⟨(some 44), (.ldE 1 false 1 43), (some (42, true))⟩,
 ⟨(some 45), (.bin .neq (.t 44) (.c (.int .i64 0))), (some (42, true))⟩,
 ⟨(some 46), (.pick (.t 42) (.t 45) (.c (.bool false))), (some (38, false))⟩,
 ⟨(some 47), (.pick (.t 38) (.c (.bool true)) (.t 46)), none⟩])
 (.keep [1, 4, 47]))
 (.cond (.t 47)
 (.seq
 (.seq (.ops [⟨(some 2), (.mov (.c (.string ⟨⟨[]⟩⟩))), none⟩,
 ⟨(some 3), (.mov (.c (.bool false))), none⟩])
 (.keep [2, 3]))
 .ret)
 .skip))
 (.seq
 (.seq
 (.seq (.ops [⟨(some 48), (.mov (.t 4)), none⟩,
 ⟨(some 49), (.ln (.t 48)), none⟩,
 ⟨(some 50), (.mov (.c (.int .i64 0))), none⟩])
 (.keep [1, 4, 48, 49, 50]))
 (.block 0
 (.loop
 (.seq
 (.seq (.ops [⟨(some 51), (.bin .lss (.t 50) (.t 49)), none⟩])
 (.keep [1, 4, 48, 49, 50, 51]))
 (.seq
 (.cond (.t 51)
 .skip
 (.exit 0))
 (.seq
 (.block 1
 (.seq
 (.seq (.ops [⟨(some 52), (.ia 1 (.t 48) (.t 50)), none⟩,
 ⟨(some 53), (.ld 1 false (.t 52)), none⟩,
 ⟨(some 6), (.mov (.t 53)), none⟩])
 (.keep [1, 4, 6, 48, 49, 50]))
 (.seq
 (.seq (.ops [⟨(some 54), (.mov (.t 6)), none⟩,
 ⟨(some 55), (.call n_impl_in [(.t 54), (.c (.int .i64 0)), (.c (.int .i64 1000000000))]), none⟩,
 ⟨(some 56), (.un .not (.t 55)), none⟩])
 (.keep [1, 4, 48, 49, 50, 56]))
 (.cond (.t 56)
 (.seq
 (.seq (.ops [⟨(some 2), (.mov (.c (.string ⟨⟨[]⟩⟩))), none⟩,
 ⟨(some 3), (.mov (.c (.bool false))), none⟩])
 (.keep [2, 3]))
 .ret)
 .skip))))
 (.seq (.ops [⟨(some 57), (.bin .add (.t 50) (.c (.int .i64 1))), none⟩,
 ⟨(some 50), (.mov (.t 57)), none⟩])
 (.keep [1, 4, 48, 49, 50]))))))))
 (.seq
 (.seq (.free true [⟨(some 58), (.faB 0 1), none⟩,
 ⟨(some 59), (.ldE 1 false 1 58), none⟩,
 ⟨(some 60), (.conv .u8 (.t 59)), none⟩,
 ⟨(some 61), (.litL 1 1 [(.int .u8 0)] [(0, (.t 60))]), none⟩,
 ⟨(some 62), (.strL 1 61), none⟩,
 ⟨(some 63), (.mov (.t 4)), none⟩,
 ⟨(some 64), (.call n_impl_vars [(.t 63)]), none⟩,
 ⟨(some 65), (.bin .add (.t 62) (.t 64)), none⟩,
 ⟨(some 2), (.mov (.t 65)), none⟩,
 ⟨(some 3), (.mov (.c (.bool true))), none⟩])
 (.keep [2, 3]))
 .ret))))),
 [(.slot 2), (.slot 3)]⟩
/-- spec ReadAsk -/
def F_spec_ReadAsk : Fun := ⟨1,
 (.seq
 (.seq (.ops [⟨(some 2), (.newL [(.int .i64 0), (.int .i64 0), (.int .i64 0), (.int .i64 0), (.int .i64 0), (.int .i64 0)]), none⟩,
 ⟨(some 3), (.mov (.c (.bool false))), none⟩])
 (.keep [0, 2]))
 (.seq
 (.seq
 (.seq (.ops [⟨(some 10), (.mov (.t 0)), none⟩,
 ⟨(some 11), (.lnS (.t 10)), none⟩,
 ⟨(some 12), (.bin .eql (.t 11) (.c (.int .i64 0))), none⟩])
 (.keep [0, 2, 12]))
 (.cond (.t 12)
 (.seq
 (.seq (.ops [⟨(some 13), (.bld [(.int .i64 0), (.int .i64 0), (.int .i64 0), (.int .i64 0), (.int .i64 0), (.int .i64 0)] []), none⟩,
 ⟨none, (.stB 6 2 (.t 13)), none⟩,
 ⟨(some 3), (.mov (.c (.bool false))), none⟩])
 (.keep [2, 3]))
 .ret)
 .skip))
 (.seq
 (.seq (.ops [⟨(some 14), (.mov (.t 0)), none⟩,
 ⟨(some 15), (.bld [(.string ⟨⟨[]⟩⟩), (.int .i64 0), (.bool false)] [(0, (1, (.t 14))), (1, (1, (.c (.int .i64 1))))]), none⟩,
 ⟨(some 16), (.bx y_l12Cur 3 (.t 15)), none⟩,
 ⟨(some 4), (.mov (.t 16)), none⟩])
 (.keep [0, 2, 4]))
 (.seq
 (.seq (.ops [⟨(some 17), (.lit 5 1 y_int [(.int .i64 0)] [(0, (.c (.int .i64 0))), (1, (.c (.int .i64 0))), (2, (.c (.int .i64 0))), (3, (.c (.int .i64 0))), (4, (.c (.int .i64 0)))]), none⟩,
 ⟨(some 5), (.mov (.t 17)), none⟩])
 (.keep [0, 2, 4, 5]))
 (.seq
 (.seq
 (.seq (.ops [⟨(some 6), (.mov (.c (.int .i64 0))), none⟩])
 (.keep [0, 2, 4, 5, 6]))
 (.block 0
 (.loop
 (.seq
 (.seq
 (.seq (.ops [⟨(some 18), (.mov (.t 6)), none⟩,
 ⟨(some 19), (.mov (.t 0)), none⟩,
 ⟨(some 20), (.ix (.t 19) (.c (.int .i64 0))), none⟩,
 ⟨(some 21), (.conv .i64 (.t 20)), none⟩,
 ⟨(some 22), (.call n_spec_l14Numbers [(.t 21)]), none⟩,
 ⟨(some 23), (.bin .lss (.t 18) (.t 22)), none⟩])
 (.keep [0, 2, 4, 5, 6, 23]))
 (.cond (.t 23)
 .skip
 (.exit 0)))
 (.seq
 (.block 1
 (.seq (.ops [⟨(some 26), (.mov (.t 5)), none⟩,
 ⟨(some 27), (.mov (.t 6)), none⟩,
 ⟨(some 28), (.mov (.t 4)), none⟩,
 ⟨(some 29), (.call n_spec_l12Var [(.t 28)]), none⟩,
 ⟨(some 30), (.ia 1 (.t 26) (.t 27)), none⟩,
 ⟨none, (.st 1 (.t 30) (.t 29)), none⟩])
 (.keep [0, 2, 4, 5, 6])))
 (.seq (.ops [⟨(some 24), (.mov (.t 6)), none⟩,
 ⟨(some 25), (.bin .add (.t 24) (.c (.int .i64 1))), none⟩,
 ⟨(some 6), (.mov (.t 25)), none⟩])
 (.keep [0, 2, 4, 5, 6])))))))
 (.seq
 (.seq (.free true [⟨(some 31), (.mov (.t 0)), none⟩,
 ⟨(some 32), (.ix (.t 31) (.c (.int .i64 0))), none⟩,
 ⟨(some 33), (.conv .i64 (.t 32)), none⟩,
 ⟨(some 34), (.mov (.t 5)), none⟩,
 ⟨(some 35), (.ia 1 (.t 34) (.c (.int .i64 0))), none⟩,
 ⟨(some 36), (.ld 1 false (.t 35)), none⟩,
 ⟨(some 37), (.mov (.t 5)), none⟩,
 ⟨(some 38), (.ia 1 (.t 37) (.c (.int .i64 1))), none⟩,
 ⟨(some 39), (.ld 1 false (.t 38)), none⟩,
 ⟨(some 40), (.mov (.t 5)), none⟩,
 ⟨(some 41), (.ia 1 (.t 40) (.c (.int .i64 2))), none⟩,
 ⟨(some 42), (.ld 1 false (.t 41)), none⟩,
 ⟨(some 43), (.mov (.t 5)), none⟩,
 ⟨(some 44), (.ia 1 (.t 43) (.c (.int .i64 3))), none⟩,
 ⟨(some 45), (.ld 1 false (.t 44)), none⟩,
 ⟨(some 46), (.mov (.t 5)), none⟩,
 ⟨(some 47), (.ia 1 (.t 46) (.c (.int .i64 4))), none⟩,
 ⟨(some 48), (.ld 1 false (.t 47)), none⟩,
 ⟨(some 49), (.bld [(.int .i64 0), (.int .i64 0), (.int .i64 0), (.int .i64 0), (.int .i64 0), (.int .i64 0)] [(0, (1, (.t 33))), (1, (1, (.t 36))), (2, (1, (.t 39))), (3, (1, (.t 42))), (4, (1, (.t 45))), (5, (1, (.t 48)))]), none⟩,
 ⟨(some 7), (.newL [(.int .i64 0), (.int .i64 0), (.int .i64 0), (.int .i64 0), (.int .i64 0), (.int .i64 0)]), none⟩,
 ⟨none, (.stB 6 7 (.t 49)), none⟩])
 (.keep [0, 2, 4, 7]))
 (.seq
 (.seq (.ops [⟨(some 51), (.ldB 6 true 7), none⟩,
 ⟨(some 52), (.call n_spec_AskText [(.t 51)]), none⟩,
 ⟨(some 50), (.mov (.t 52)), none⟩,
 ⟨(some 53), (.ext 0 (.t 50)), none⟩,
 ⟨(some 54), (.ext 1 (.t 50)), none⟩,
 ⟨(some 8), (.mov (.t 53)), none⟩,
 ⟨(some 9), (.mov (.t 54)), none⟩])
 (.keep [0, 2, 4, 7, 8, 9]))
 (.seq
 (.seq
 (.seq (.ops [⟨(some 55), (.mov (.t 4)), none⟩,
 ⟨(some 56), (.chk (.t 55)), none⟩,
 ⟨(some 57), (.fa 2 (.t 56)), none⟩,
 ⟨(some 58), (.ld 1 false (.t 57)), none⟩,
 ⟨(some 59), (.mov (.t 58)), none⟩,
 ⟨(some 60), (.mov (.t 9)), (some (59, false))⟩,
 ⟨(some 61), (.un .not (.t 60)), (some (59, false))⟩,
 ⟨(some 62), (.pick (.t 59) (.c (.bool true)) (.t 61)), none⟩,
 ⟨(some 63), (.mov (.t 62)), none⟩,
 ⟨(some 64), (.mov (.t 8)), (some (63, false))⟩,
 ⟨(some 65), (.mov (.t 0)), (some (63, false))⟩,
 ⟨(some 66), (.bin .neq (.t 64) (.t 65)), (some (63, false))⟩,
 ⟨(some 67), (.pick (.t 63) (.c (.bool true)) (.t 66)), none⟩])
 (.keep [2, 7, 67]))
 (.cond (.t 67)
 (.seq
 (.seq (.ops [⟨(some 68), (.bld [(.int .i64 0), (.int .i64 0), (.int .i64 0), (.int .i64 0), (.int .i64 0), (.int .i64 0)] []), none⟩,
 ⟨none, (.stB 6 2 (.t 68)), none⟩,
 ⟨(some 3), (.mov (.c (.bool false))), none⟩])
 (.keep [2, 3]))
 .ret)
 .skip))
 (.seq
 (.seq (.ops [⟨(some 69), (.ldB 6 true 7), none⟩,
 ⟨none, (.stB 6 2 (.t 69)), none⟩,
 ⟨(some 3), (.mov (.c (.bool true))), none⟩])
 (.keep [2, 3]))
 .ret))))))))),
 [(.box 2 6 true), (.slot 3)]⟩
/-- impl ReadAsk -/
def F_impl_ReadAsk : Fun := ⟨1,
 (.seq
 (.seq (.ops [⟨(some 2), (.newL [(.int .i64 0), (.int .i64 0), (.int .i64 0), (.int .i64 0), (.int .i64 0), (.int .i64 0)]), none⟩,
 ⟨(some 3), (.mov (.c (.bool false))), none⟩])
 (.keep [0, 2]))
 (.seq
 (.seq (.ops [⟨(some 9), (.mov (.t 0)), none⟩,
 ⟨(some 10), (.bld [(.string ⟨⟨[]⟩⟩), (.int .i64 0), (.bool false)] [(0, (1, (.t 9)))]), none⟩,
 ⟨(some 11), (.bx y_reader 3 (.t 10)), none⟩,
 ⟨(some 4), (.mov (.t 11)), none⟩])
 (.keep [0, 2, 4]))
 (.seq
 (.seq (.ops [⟨(some 5), (.newL [(.int .i64 0), (.int .i64 0), (.int .i64 0), (.int .i64 0), (.int .i64 0), (.int .i64 0)]), none⟩])
 (.keep [0, 2, 4, 5]))
 (.seq
 (.seq (.ops [⟨(some 12), (.mov (.t 4)), none⟩,
 ⟨(some 13), (.call n_impl_reader_one [(.t 12)]), none⟩,
 ⟨(some 14), (.faB 0 5), none⟩,
 ⟨none, (.stE 1 5 14 (.t 13)), none⟩])
 (.keep [0, 2, 4, 5]))
 (.seq
 (.seq
 (.seq (.ops [⟨(some 15), (.ldB 6 true 5), none⟩,
 ⟨(some 16), (.call n_impl_told [(.t 15)]), none⟩,
 ⟨(some 17), (.ln (.t 16)), none⟩,
 ⟨(some 6), (.mov (.t 17)), none⟩])
 (.keep [0, 2, 4, 5, 6]))
 (.seq
 (.seq (.ops [⟨(some 18), (.mov (.t 6)), none⟩,
 ⟨(some 19), (.bin .gtr (.t 18) (.c (.int .i64 0))), none⟩])
 (.keep [0, 2, 4, 5, 6, 19]))
 (.cond (.t 19)
 (.seq
 (.seq (.ops [⟨(some 20), (.mov (.t 4)), none⟩,
 ⟨(some 21), (.call n_impl_reader_num [(.t 20)]), none⟩,
 ⟨(some 22), (.faB 1 5), none⟩,
 ⟨none, (.stE 1 5 22 (.t 21)), none⟩])
 (.keep [0, 2, 4, 5, 6]))
 (.seq
 (.seq (.ops [⟨(some 23), (.mov (.t 6)), none⟩,
 ⟨(some 24), (.bin .eql (.t 23) (.c (.int .i64 5))), none⟩])
 (.keep [0, 2, 4, 5, 24]))
 (.cond (.t 24)
 (.seq
 (.seq (.ops [⟨(some 25), (.mov (.t 4)), none⟩,
 ⟨(some 26), (.call n_impl_reader_num [(.t 25)]), none⟩,
 ⟨(some 27), (.faB 2 5), none⟩,
 ⟨none, (.stE 1 5 27 (.t 26)), none⟩])
 (.keep [0, 2, 4, 5]))
 (.seq
 (.seq (.ops [⟨(some 28), (.mov (.t 4)), none⟩,
 ⟨(some 29), (.call n_impl_reader_num [(.t 28)]), none⟩,
 ⟨(some 30), (.faB 3 5), none⟩,
 ⟨none, (.stE 1 5 30 (.t 29)), none⟩])
 (.keep [0, 2, 4, 5]))
 (.seq
 (.seq (.ops [⟨(some 31), (.mov (.t 4)), none⟩,
 ⟨(some 32), (.call n_impl_reader_num [(.t 31)]), none⟩,
 ⟨(some 33), (.faB 4 5), none⟩,
 ⟨none, (.stE 1 5 33 (.t 32)), none⟩])
 (.keep [0, 2, 4, 5]))
 (.seq (.ops [⟨(some 34), (.mov (.t 4)), none⟩,
 ⟨(some 35), (.call n_impl_reader_num [(.t 34)]), none⟩,
 ⟨(some 36), (.faB 5 5), none⟩,
 ⟨none, (.stE 1 5 36 (.t 35)), none⟩])
 (.keep [0, 2, 4, 5])))))
 .skip)))
 .skip)))
 (.seq
 (.seq
 (.seq (.ops [⟨(some 38), (.ldB 6 true 5), none⟩,
 ⟨(some 39), (.call n_impl_AskText [(.t 38)]), none⟩,
 ⟨(some 37), (.mov (.t 39)), none⟩,
 ⟨(some 40), (.ext 0 (.t 37)), none⟩,
 ⟨(some 41), (.ext 1 (.t 37)), none⟩,
 ⟨(some 7), (.mov (.t 40)), none⟩,
 ⟨(some 8), (.mov (.t 41)), none⟩])
 (.keep [0, 2, 4, 5, 7, 8]))
 (.seq
 (.seq (.ops [⟨(some 42), (.mov (.t 4)), none⟩,
 ⟨(some 43), (.call n_impl_reader_ends [(.t 42)]), none⟩,
 ⟨(some 44), (.un .not (.t 43)), none⟩,
 ⟨(some 45), (.mov (.t 44)), none⟩,
 ⟨(some 46), (.mov (.t 8)), (some (45, false))⟩,
 ⟨(some 47), (.un .not (.t 46)), (some (45, false))⟩,
 ⟨(some 48), (.pick (.t 45) (.c (.bool true)) (.t 47)), none⟩,
 ⟨(some 49), (.mov (.t 48)), none⟩,
 ⟨(some 50), (.mov (.t 7)), (some (49, false))⟩,
 ⟨(some 51), (.mov (.t 0)), (some (49, false))⟩,
 ⟨(some 52), (.bin .neq (.t 50) (.t 51)), (some (49, false))⟩,
 ⟨(some 53), (.pick (.t 49) (.c (.bool true)) (.t 52)), none⟩])
 (.keep [2, 5, 53]))
 (.cond (.t 53)
 (.seq
 (.seq (.ops [⟨(some 54), (.bld [(.int .i64 0), (.int .i64 0), (.int .i64 0), (.int .i64 0), (.int .i64 0), (.int .i64 0)] []), none⟩,
 ⟨none, (.stB 6 2 (.t 54)), none⟩,
 ⟨(some 3), (.mov (.c (.bool false))), none⟩])
 (.keep [2, 3]))
 .ret)
 .skip)))
 (.seq
 (.seq (.ops [⟨(some 55), (.ldB 6 true 5), none⟩,
 ⟨none, (.stB 6 2 (.t 55)), none⟩,
 ⟨(some 3), (.mov (.c (.bool true))), none⟩])
 (.keep [2, 3]))
 .ret))))))),
 [(.box 2 6 true), (.slot 3)]⟩
/-- laws eqAsk -/
def F_laws_eqAsk : Fun := ⟨2,
 (.seq
 (.seq (.ops [⟨(some 2), (.boxL 6 (.t 0)), none⟩,
 ⟨(some 3), (.boxL 6 (.t 1)), none⟩,
 ⟨(some 4), (.mov (.c (.bool false))), none⟩])
 (.keep [2, 3]))
 (.seq
 (.seq
 (.seq (.ops [⟨(some 5), (.faB 0 2), none⟩,
 ⟨(some 6), (.ldE 1 false 2 5), none⟩,
 ⟨(some 7), (.faB 0 3), none⟩,
 ⟨(some 8), (.ldE 1 false 3 7), none⟩,
 ⟨(some 9), (.bin .neq (.t 6) (.t 8)), none⟩])
 (.keep [2, 3, 9]))
 (.cond (.t 9)
 (.seq
 (.seq (.ops [⟨(some 4), (.mov (.c (.bool false))), none⟩])
 (.keep [4]))
 .ret)
 .skip))
 (.seq
 (.seq
 (.seq (.ops [⟨(some 10), (.faB 1 2), none⟩,
 ⟨(some 11), (.ldE 1 false 2 10), none⟩,
 ⟨(some 12), (.faB 1 3), none⟩,
 ⟨(some 13), (.ldE 1 false 3 12), none⟩,
 ⟨(some 14), (.bin .neq (.t 11) (.t 13)), none⟩])
 (.keep [2, 3, 14]))
 (.cond (.t 14)
 (.seq
 (.seq (.ops [⟨(some 4), (.mov (.c (.bool false))), none⟩])
 (.keep [4]))
 .ret)
 .skip))
 (.seq
 (.seq
 (.seq (.ops [⟨(some 15), (.faB 2 2), none⟩,
 ⟨(some 16), (.ldE 1 false 2 15), none⟩,
 ⟨(some 17), (.faB 2 3), none⟩,
 ⟨(some 18), (.ldE 1 false 3 17), none⟩,
 ⟨(some 19), (.bin .neq (.t 16) (.t 18)), none⟩])
 (.keep [2, 3, 19]))
 (.cond (.t 19)
 (.seq
 (.seq (.ops [⟨(some 4), (.mov (.c (.bool false))), none⟩])
 (.keep [4]))
 .ret)
 .skip))
 (.seq
 (.seq
 (.seq (.ops [⟨(some 20), (.faB 3 2), none⟩,
 ⟨(some 21), (.ldE 1 false 2 20), none⟩,
 ⟨(some 22), (.faB 3 3), none⟩,
 ⟨(some 23), (.ldE 1 false 3 22), none⟩,
 ⟨(some 24), (.bin .neq (.t 21) (.t 23)), none⟩])
 (.keep [2, 3, 24]))
 (.cond (.t 24)
 (.seq
 (.seq (.ops [⟨(some 4), (.mov (.c (.bool false))), none⟩])
 (.keep [4]))
 .ret)
 .skip))
 (.seq
 (.seq
 (.seq (.ops [⟨(some 25), (.faB 4 2), none⟩,
 ⟨(some 26), (.ldE 1 false 2 25), none⟩,
 ⟨(some 27), (.faB 4 3), none⟩,
 ⟨(some 28), (.ldE 1 false 3 27), none⟩,
 ⟨(some 29), (.bin .neq (.t 26) (.t 28)), none⟩])
 (.keep [2, 3, 29]))
 (.cond (.t 29)
 (.seq
 (.seq (.ops [⟨(some 4), (.mov (.c (.bool false))), none⟩])
 (.keep [4]))
 .ret)
 .skip))
 (.seq
 (.seq
 (.seq (.ops [⟨(some 30), (.faB 5 2), none⟩,
 ⟨(some 31), (.ldE 1 false 2 30), none⟩,
 ⟨(some 32), (.faB 5 3), none⟩,
 ⟨(some 33), (.ldE 1 false 3 32), none⟩,
 ⟨(some 34), (.bin .neq (.t 31) (.t 33)), none⟩])
 (.keep [34]))
 (.cond (.t 34)
 (.seq
 (.seq (.ops [⟨(some 4), (.mov (.c (.bool false))), none⟩])
 (.keep [4]))
 .ret)
 .skip))
 (.seq
 (.seq (.ops [⟨(some 4), (.mov (.c (.bool true))), none⟩])
 (.keep [4]))
 .ret)))))))),
 [(.slot 4)]⟩
/-- laws szGraph -/
def F_laws_szGraph : Fun := ⟨2,
 (.seq
 (.seq (.ops [⟨(some 2), (.boxL 2 (.t 0)), none⟩,
 ⟨(some 4), (.mov (.c (.int .i64 0))), none⟩])
 (.keep [1, 2]))
 (.seq
 (.seq (.ops [⟨(some 5), (.faB 1 2), none⟩,
 ⟨(some 6), (.ldE 1 false 2 5), none⟩,
 ⟨(some 7), (.mov (.t 1)), none⟩,
 ⟨(some 8), (.call n_laws_szEdgeS [(.t 6), (.t 7)]), none⟩,
 ⟨(some 1), (.mov (.t 8)), none⟩])
 (.keep [1]))
 (.seq
 (.seq
 (.seq (.ops [⟨(some 9), (.mov (.t 1)), none⟩,
 ⟨(some 10), (.bin .lss (.t 9) (.c (.int .i64 0))), none⟩])
 (.keep [1, 10]))
 (.cond (.t 10)
 (.seq
 (.seq (.ops [⟨(some 4), (.mov (.c (.int .i64 (-1)))), none⟩])
 (.keep [4]))
 .ret)
 .skip))
 (.seq
 (.seq (.ops [⟨(some 11), (.mov (.t 1)), none⟩,
 ⟨(some 4), (.mov (.t 11)), none⟩])
 (.keep [4]))
 .ret)))),
 [(.slot 4)]⟩
/-- spec Neighbours -/
def F_spec_Neighbours : Fun := ⟨2,
 (.seq
 (.seq (.ops [⟨(some 2), (.boxL 2 (.t 0)), none⟩,
 ⟨(some 4), (.mov (.c (.slice none 0 0))), none⟩])
 (.keep [1, 2]))
 (.seq
 (.seq
 (.seq (.ops [⟨(some 5), (.ldB 2 true 2), none⟩,
 ⟨(some 6), (.call n_spec_GraphOk [(.t 5)]), none⟩,
 ⟨(some 7), (.un .not (.t 6)), none⟩,
 ⟨(some 8), (.mov (.t 7)), none⟩,
 ⟨(some 9), (.mov (.t 1)), (some (8, false))⟩,
 ⟨(some 10), (.faB 0 2), (some (8, false))⟩,
 ⟨(some 11), (.ldE 1 false 2 10), (some (8, false))⟩,
 ⟨(some 12), (.bin .sub (.t 11) (.c (.int .i64 1))), (some (8, false))⟩,
 ⟨(some 13), (.call n_spec_l01In [(.t 9), (.c (.int .i64 0)), (.t 12)]), (some (8, false))⟩,
 ⟨(some 14), (.un .not (.t 13)), (some (8, false))⟩,
 ⟨(some 15), (.pick (.t 8) (.c (.bool true)) (.t 14)), none⟩])
 (.keep [1, 2, 15]))
 (.cond (.t 15)
 (.seq
 (.seq (.ops [⟨(some 16), (.lit 0 1 y_int [(.int .i64 0)] []), none⟩,
 ⟨(some 4), (.mov (.t 16)), none⟩])
 (.keep [4]))
 .ret)
 .skip))
 (.seq
 (.seq (.ops [⟨(some 17), (.ldB 2 true 2), none⟩,
 ⟨(some 18), (.mov (.t 1)), none⟩,
 ⟨(some 19), (.call n_spec_l17Next [(.t 17), (.t 18)]), none⟩,
 ⟨(some 4), (.mov (.t 19)), none⟩])
 (.keep [4]))
 .ret))),
 [(.slot 4)]⟩
/-- laws toGraph -/
def F_laws_toGraph : Fun := ⟨1,
 (.seq
 (.seq (.ops [⟨(some 1), (.boxL 2 (.t 0)), none⟩,
 ⟨(some 2), (.newL [(.int .i64 0), (.slice none 0 0)]), none⟩])
 (.keep [1, 2]))
 (.seq
 (.seq (.ops [⟨(some 3), (.newL [(.int .i64 0), (.slice none 0 0)]), none⟩])
 (.keep [1, 2, 3]))
 (.seq
 (.seq (.ops [⟨(some 4), (.faB 0 1), none⟩,
 ⟨(some 5), (.ldE 1 false 1 4), none⟩,
 ⟨(some 6), (.faB 0 3), none⟩,
 ⟨none, (.stE 1 3 6 (.t 5)), none⟩])
 (.keep [1, 2, 3]))
 (.seq
 (.seq (.ops [⟨(some 7), (.faB 1 1), none⟩,
 ⟨(some 8), (.ldE 1 false 1 7), none⟩,
 ⟨(some 9), (.call n_laws_toEdgeS [(.t 8)]), none⟩,
 ⟨(some 10), (.faB 1 3), none⟩,
 ⟨none, (.stE 1 3 10 (.t 9)), none⟩])
 (.keep [2, 3]))
 (.seq
 (.seq (.ops [⟨(some 11), (.ldB 2 true 3), none⟩,
 ⟨none, (.stB 2 2 (.t 11)), none⟩])
 (.keep [2]))
 .ret))))),
 [(.box 2 2 true)]⟩
/-- impl Neighbours -/
def F_impl_Neighbours : Fun := ⟨2,
 (.seq
 (.seq (.ops [⟨(some 2), (.boxL 2 (.t 0)), none⟩,
 ⟨(some 4), (.mov (.c (.slice none 0 0))), none⟩])
 (.keep [1, 2]))
 (.seq
 (.seq (.ops [⟨(some 5), (.mov (.c (.slice none 0 0))), none⟩])
 (.keep [1, 2, 5]))
 (.seq
 (.seq
 (.seq (.ops [⟨(some 8), (.ldB 2 true 2), none⟩,
 ⟨(some 9), (.call n_impl_GraphOk [(.t 8)]), none⟩,
 ⟨(some 10), (.un .not (.t 9)), none⟩])
 (.keep [1, 2, 5, 10]))
 (.cond (.t 10)
 (.seq
 (.seq (.ops [⟨(some 11), (.mov (.t 5)), none⟩,
 ⟨(some 4), (.mov (.t 11)), none⟩])
 (.keep [4]))
 .ret)
 .skip))
 (.seq
 (.seq
 (.seq (.ops [⟨(some 12), (.faB 1 2), none⟩,
 ⟨(some 13), (.ldE 1 false 2 12), none⟩,
 ⟨(some 14), (.ln (.t 13)), none⟩,
 ⟨(some 15), (.mov (.c (.int .i64 0))), none⟩])
 (.keep [1, 5, 13, 14, 15]))
 (.block 0
 (.loop
 (.seq
 (.seq (.ops [⟨(some 16), (.bin .lss (.t 15) (.t 14)), none⟩])
 (.keep [1, 5, 13, 14, 15, 16]))
 (.seq
 (.cond (.t 16)
 .skip
 (.exit 0))
 (.seq
 (.block 1
 (.seq
 (.seq (.ops [⟨(some 17), (.ia 5 (.t 13) (.t 15)), none⟩,
 ⟨(some 18), (.ld 5 true (.t 17)), none⟩,
 ⟨(some 7), (.newL [(.int .i64 0), (.int .i64 0), (.int .i64 0), (.int .i64 0), (.int .i64 0)]), none⟩,
 ⟨none, (.stB 5 7 (.t 18)), none⟩])
 (.keep [1, 5, 7, 13, 14, 15]))
 (.seq
 (.seq
 (.seq (.ops [⟨(some 19), (.faB 0 7), none⟩,
 ⟨(some 20), (.ldE 1 false 7 19), none⟩,
 ⟨(some 21), (.mov (.t 1)), none⟩,
 ⟨(some 22), (.bin .eql (.t 20) (.t 21)), none⟩])
 (.keep [1, 5, 7, 13, 14, 15, 22]))
 (.cond (.t 22)
 (.seq (.ops [⟨(some 23), (.mov (.t 5)), none⟩,
 ⟨(some 24), (.faB 1 7), none⟩,
 ⟨(some 25), (.ldE 1 false 7 24), none⟩,
 ⟨(some 26), (.call n_impl_with [(.t 23), (.t 25)]), none⟩,
 ⟨(some 5), (.mov (.t 26)), none⟩])
 (.keep [1, 5, 7, 13, 14, 15]))
 .skip))
 (.seq
 (.seq (.ops [⟨(some 27), (.faB 1 7), none⟩,
 ⟨(some 28), (.ldE 1 false 7 27), none⟩,
 ⟨(some 29), (.mov (.t 1)), none⟩,
 ⟨(some 30), (.bin .eql (.t 28) (.t 29)), none⟩])
 (.keep [1, 5, 7, 13, 14, 15, 30]))
 (.cond (.t 30)
 (.seq (.ops [⟨(some 31), (.mov (.t 5)), none⟩,
 ⟨(some 32), (.faB 0 7), none⟩,
 ⟨(some 33), (.ldE 1 false 7 32), none⟩,
 ⟨(some 34), (.call n_impl_with [(.t 31), (.t 33)]), none⟩,
 ⟨(some 5), (.mov (.t 34)), none⟩])
 (.keep [1, 5, 13, 14, 15]))
 .skip)))))
 (.seq (.ops [⟨(some 35), (.bin .add (.t 15) (.c (.int .i64 1))), none⟩,
 ⟨(some 15), (.mov (.t 35)), none⟩])
 (.keep [1, 5, 13, 14, 15]))))))))
 (.seq
 (.seq (.ops [⟨(some 36), (.mov (.t 5)), none⟩,
 ⟨(some 4), (.mov (.t 36)), none⟩])
 (.keep [4]))
 .ret))))),
 [(.slot 4)]⟩
/-- laws eqIntS -/
def F_laws_eqIntS : Fun := ⟨2,
 (.seq
 (.seq (.ops [⟨(some 4), (.mov (.c (.bool false))), none⟩])
 (.keep [0, 1]))
 (.seq
 (.seq
 (.seq (.ops [⟨(some 6), (.mov (.t 0)), none⟩,
 ⟨(some 7), (.ln (.t 6)), none⟩,
 ⟨(some 8), (.mov (.t 1)), none⟩,
 ⟨(some 9), (.ln (.t 8)), none⟩,
 ⟨(some 10), (.bin .neq (.t 7) (.t 9)), none⟩])
 (.keep [0, 1, 10]))
 (.cond (.t 10)
 (.seq
 (.seq (.ops [⟨(some 4), (.mov (.c (.bool false))), none⟩])
 (.keep [4]))
 .ret)
 .skip))
 (.seq
 (.seq
 (.seq (.ops [⟨(some 5), (.mov (.c (.int .i64 0))), none⟩])
 (.keep [0, 1, 5]))
 (.block 0
 (.loop
 (.seq
 (.seq
 (.seq (.ops [⟨(some 11), (.mov (.t 5)), none⟩,
 ⟨(some 12), (.mov (.t 0)), none⟩,
 ⟨(some 13), (.ln (.t 12)), none⟩,
 ⟨(some 14), (.bin .lss (.t 11) (.t 13)), none⟩])
 (.keep [0, 1, 5, 14]))
 (.cond (.t 14)
 .skip
 (.exit 0)))
 (.seq
 (.block 1
 (.seq
 (.seq (.free true [⟨(some 17), (.mov (.t 0)), none⟩,
 ⟨(some 18), (.mov (.t 5)), none⟩,
 ⟨(some 19), (.ia 1 (.t 17) (.t 18)), none⟩,
 ⟨(some 20), (.ld 1 false (.t 19)), none⟩,
 ⟨(some 21), (.mov (.t 1)), none⟩,
 ⟨(some 22), (.mov (.t 5)), none⟩,
 ⟨(some 23), (.ia 1 (.t 21) (.t 22)), none⟩,
 ⟨(some 24), (.ld 1 false (.t 23)), none⟩,
 ⟨(some 25), (.bin .neq (.t 20) (.t 24)), none⟩])
 (.keep [0, 1, 5, 25]))
 (.cond (.t 25)
 (.seq
 (.seq (.ops [⟨(some 4), (.mov (.c (.bool false))), none⟩])
 (.keep [4]))
 .ret)
 .skip)))
 (.seq (.ops [⟨(some 15), (.mov (.t 5)), none⟩,
 ⟨(some 16), (.bin .add (.t 15) (.c (.int .i64 1))), none⟩,
 ⟨(some 5), (.mov (.t 16)), none⟩])
 (.keep [0, 1, 5])))))))
 (.seq
 (.seq (.ops [⟨(some 4), (.mov (.c (.bool true))), none⟩])
 (.keep [4]))
 .ret)))),
 [(.slot 4)]⟩
/-- laws eqGraph -/
def F_laws_eqGraph : Fun := ⟨2,
 (.seq
 (.seq (.ops [⟨(some 2), (.boxL 2 (.t 0)), none⟩,
 ⟨(some 3), (.boxL 2 (.t 1)), none⟩,
 ⟨(some 4), (.mov (.c (.bool false))), none⟩])
 (.keep [2, 3]))
 (.seq
 (.seq
 (.seq (.ops [⟨(some 5), (.faB 0 2), none⟩,
 ⟨(some 6), (.ldE 1 false 2 5), none⟩,
 ⟨(some 7), (.faB 0 3), none⟩,
 ⟨(some 8), (.ldE 1 false 3 7), none⟩,
 ⟨(some 9), (.bin .neq (.t 6) (.t 8)), none⟩])
 (.keep [2, 3, 9]))
 (.cond (.t 9)
 (.seq
 (.seq (.ops [⟨(some 4), (.mov (.c (.bool false))), none⟩])
 (.keep [4]))
 .ret)
 .skip))
 (.seq
 (.seq
 (.seq (.ops [⟨(some 10), (.faB 1 2), none⟩,
 ⟨(some 11), (.ldE 1 false 2 10), none⟩,
 ⟨(some 12), (.faB 1 3), none⟩,
 ⟨(some 13), (.ldE 1 false 3 12), none⟩,
 ⟨(some 14), (.call n_laws_eqEdgeS [(.t 11), (.t 13)]), none⟩,
 ⟨(some 15), (.un .not (.t 14)), none⟩])
 (.keep [15]))
 (.cond (.t 15)
 (.seq
 (.seq (.ops [⟨(some 4), (.mov (.c (.bool false))), none⟩])
 (.keep [4]))
 .ret)
 .skip))
 (.seq
 (.seq (.ops [⟨(some 4), (.mov (.c (.bool true))), none⟩])
 (.keep [4]))
 .ret)))),
 [(.slot 4)]⟩
/-- laws markGraph -/
def F_laws_markGraph : Fun := ⟨2,
 (.seq
 (.seq (.ops [⟨(some 2), (.boxL 2 (.t 0)), none⟩,
 ⟨(some 4), (.mov (.c (.int .i64 0))), none⟩])
 (.keep [1, 2]))
 (.seq
 (.seq (.ops [⟨(some 5), (.faB 1 2), none⟩,
 ⟨(some 6), (.ldE 1 false 2 5), none⟩,
 ⟨(some 7), (.mov (.t 1)), none⟩,
 ⟨(some 8), (.call n_laws_markEdgeS [(.t 6), (.t 7)]), none⟩,
 ⟨(some 1), (.mov (.t 8)), none⟩])
 (.keep [1]))
 (.seq
 (.seq (.ops [⟨(some 9), (.mov (.t 1)), none⟩,
 ⟨(some 4), (.mov (.t 9)), none⟩])
 (.keep [4]))
 .ret))),
 [(.slot 4)]⟩
/-- laws markIntS -/
def F_laws_markIntS : Fun := ⟨2,
 (.seq
 (.seq (.ops [⟨(some 4), (.mov (.c (.int .i64 0))), none⟩])
 (.keep [0, 1]))
 (.seq
 (.seq
 (.seq (.ops [⟨(some 5), (.mov (.c (.int .i64 0))), none⟩])
 (.keep [0, 1, 5]))
 (.block 0
 (.loop
 (.seq
 (.seq
 (.seq (.ops [⟨(some 6), (.mov (.t 5)), none⟩,
 ⟨(some 7), (.mov (.t 0)), none⟩,
 ⟨(some 8), (.ln (.t 7)), none⟩,
 ⟨(some 9), (.bin .lss (.t 6) (.t 8)), none⟩])
 (.keep [0, 1, 5, 9]))
 (.cond (.t 9)
 .skip
 (.exit 0)))
 (.seq
 (.block 1
 (.seq
 (.seq (.ops [⟨(some 12), (.mov (.t 0)), none⟩,
 ⟨(some 13), (.mov (.t 5)), none⟩,
 ⟨(some 14), (.mov (.t 1)), none⟩,
 ⟨(some 15), (.ia 1 (.t 12) (.t 13)), none⟩,
 ⟨none, (.st 1 (.t 15) (.t 14)), none⟩])
 (.keep [0, 1, 5]))
 (.seq (.ops [⟨(some 16), (.mov (.t 1)), none⟩,
 ⟨(some 17), (.bin .add (.t 16) (.c (.int .i64 1))), none⟩,
 ⟨(some 1), (.mov (.t 17)), none⟩])
 (.keep [0, 1, 5]))))
 (.seq (.ops [⟨(some 10), (.mov (.t 5)), none⟩,
 ⟨(some 11), (.bin .add (.t 10) (.c (.int .i64 1))), none⟩,
 ⟨(some 5), (.mov (.t 11)), none⟩])
 (.keep [0, 1, 5])))))))
 (.seq
 (.seq (.ops [⟨(some 18), (.mov (.t 1)), none⟩,
 ⟨(some 4), (.mov (.t 18)), none⟩])
 (.keep [4]))
 .ret))),
 [(.slot 4)]⟩
/-- laws heldIntS -/
def F_laws_heldIntS : Fun := ⟨2,
 (.seq
 (.seq (.ops [⟨(some 4), (.mov (.c (.int .i64 0))), none⟩])
 (.keep [0, 1]))
 (.seq
 (.seq
 (.seq (.ops [⟨(some 5), (.mov (.c (.int .i64 0))), none⟩])
 (.keep [0, 1, 5]))
 (.block 0
 (.loop
 (.seq
 (.seq
 (.seq (.ops [⟨(some 6), (.mov (.t 5)), none⟩,
 ⟨(some 7), (.mov (.t 0)), none⟩,
 ⟨(some 8), (.ln (.t 7)), none⟩,
 ⟨(some 9), (.bin .lss (.t 6) (.t 8)), none⟩])
 (.keep [0, 1, 5, 9]))
 (.cond (.t 9)
 .skip
 (.exit 0)))
 (.seq
 (.block 1
 (.seq
 (.seq
 (.seq (.ops [⟨(some 12), (.mov (.t 0)), none⟩,
 ⟨(some 13), (.mov (.t 5)), none⟩,
 ⟨(some 14), (.ia 1 (.t 12) (.t 13)), none⟩,
 ⟨(some 15), (.ld 1 false (.t 14)), none⟩,
 ⟨(some 16), (.mov (.t 1)), none⟩,
 ⟨(some 17), (.bin .neq (.t 15) (.t 16)), none⟩])
 (.keep [0, 1, 5, 17]))
 (.cond (.t 17)
 (.seq
 (.seq (.ops [⟨(some 4), (.mov (.c (.int .i64 (-1)))), none⟩])
 (.keep [4]))
 .ret)
 .skip))
 (.seq (.ops [⟨(some 18), (.mov (.t 1)), none⟩,
 ⟨(some 19), (.bin .add (.t 18) (.c (.int .i64 1))), none⟩,
 ⟨(some 1), (.mov (.t 19)), none⟩])
 (.keep [0, 1, 5]))))
 (.seq (.ops [⟨(some 10), (.mov (.t 5)), none⟩,
 ⟨(some 11), (.bin .add (.t 10) (.c (.int .i64 1))), none⟩,
 ⟨(some 5), (.mov (.t 11)), none⟩])
 (.keep [0, 1, 5])))))))
 (.seq
 (.seq (.ops [⟨(some 20), (.mov (.t 1)), none⟩,
 ⟨(some 4), (.mov (.t 20)), none⟩])
 (.keep [4]))
 .ret))),
 [(.slot 4)]⟩
/-- spec OddParts -/
def F_spec_OddParts : Fun := ⟨2,
 (.seq
 (.seq (.ops [⟨(some 2), (.boxL 2 (.t 0)), none⟩,
 ⟨(some 4), (.mov (.c (.int .i64 0))), none⟩])
 (.keep [1, 2]))
 (.seq
 (.seq
 (.seq (.ops [⟨(some 5), (.ldB 2 true 2), none⟩,
 ⟨(some 6), (.call n_spec_GraphOk [(.t 5)]), none⟩,
 ⟨(some 7), (.un .not (.t 6)), none⟩])
 (.keep [1, 2, 7]))
 (.cond (.t 7)
 (.seq
 (.seq (.ops [⟨(some 4), (.mov (.c (.int .i64 (-1)))), none⟩])
 (.keep [4]))
 .ret)
 .skip))
 (.seq
 (.seq (.ops [⟨(some 8), (.ldB 2 true 2), none⟩,
 ⟨(some 9), (.mov (.t 1)), none⟩,
 ⟨(some 10), (.call n_spec_l17Odd [(.t 8), (.t 9)]), none⟩,
 ⟨(some 4), (.mov (.t 10)), none⟩])
 (.keep [4]))
 .ret))),
 [(.slot 4)]⟩
/-- laws toIntS -/
def F_laws_toIntS : Fun := ⟨1,
 (.seq
 (.seq (.ops [⟨(some 2), (.mov (.c (.slice none 0 0))), none⟩])
 (.keep [0]))
 (.seq
 (.seq (.ops [⟨(some 5), (.mov (.t 0)), none⟩,
 ⟨(some 6), (.ln (.t 5)), none⟩,
 ⟨(some 7), (.mk 1 y_int 8 [(.int .i64 0)] (.t 6)), none⟩,
 ⟨(some 3), (.mov (.t 7)), none⟩])
 (.keep [0, 3]))
 (.seq
 (.seq
 (.seq (.ops [⟨(some 4), (.mov (.c (.int .i64 0))), none⟩])
 (.keep [0, 3, 4]))
 (.block 0
 (.loop
 (.seq
 (.seq
 (.seq (.ops [⟨(some 8), (.mov (.t 4)), none⟩,
 ⟨(some 9), (.mov (.t 0)), none⟩,
 ⟨(some 10), (.ln (.t 9)), none⟩,
 ⟨(some 11), (.bin .lss (.t 8) (.t 10)), none⟩])
 (.keep [0, 3, 4, 11]))
 (.cond (.t 11)
 .skip
 (.exit 0)))
 (.seq
 (.block 1
 (.seq (.ops [⟨(some 14), (.mov (.t 3)), none⟩,
 ⟨(some 15), (.mov (.t 4)), none⟩,
 ⟨(some 16), (.mov (.t 0)), none⟩,
 ⟨(some 17), (.mov (.t 4)), none⟩,
 ⟨(some 18), (.ia 1 (.t 16) (.t 17)), none⟩,
 ⟨(some 19), (.ld 1 false (.t 18)), none⟩,
 ⟨(some 20), (.ia 1 (.t 14) (.t 15)), none⟩,
 ⟨none, (.st 1 (.t 20) (.t 19)), none⟩])
 (.keep [0, 3, 4])))
 (.seq (.ops [⟨(some 12), (.mov (.t 4)), none⟩,
 ⟨(some 13), (.bin .add (.t 12) (.c (.int .i64 1))), none⟩,
 ⟨(some 4), (.mov (.t 13)), none⟩])
 (.keep [0, 3, 4])))))))
 (.seq
 (.seq (.ops [⟨(some 21), (.mov (.t 3)), none⟩,
 ⟨(some 2), (.mov (.t 21)), none⟩])
 (.keep [2]))
 .ret)))),
 [(.slot 2)]⟩
/-- impl OddParts -/
def F_impl_OddParts : Fun := ⟨2,
 (.seq
 (.seq (.ops [⟨(some 2), (.boxL 2 (.t 0)), none⟩,
 ⟨(some 4), (.mov (.c (.int .i64 0))), none⟩])
 (.keep [1, 2]))
 (.seq
 (.seq
 (.seq (.ops [⟨(some 8), (.ldB 2 true 2), none⟩,
 ⟨(some 9), (.call n_impl_GraphOk [(.t 8)]), none⟩,
 ⟨(some 10), (.un .not (.t 9)), none⟩])
 (.keep [1, 2, 10]))
 (.cond (.t 10)
 (.seq
 (.seq (.ops [⟨(some 4), (.mov (.c (.int .i64 (-1)))), none⟩])
 (.keep [4]))
 .ret)
 .skip))
 (.seq
 (.seq (.ops [⟨(some 5), (.mov (.c (.int .i64 0))), none⟩])
 (.keep [1, 2, 5]))
 (.seq
 (.seq
 (.seq (.ops [⟨(some 11), (.faB 0 2), none⟩,
 ⟨(some 12), (.ldE 1 false 2 11), none⟩,
 ⟨(some 13), (.faB 1 2), none⟩,
 ⟨(some 14), (.ldE 1 false 2 13), none⟩,
 ⟨(some 15), (.mov (.t 1)), none⟩,
 ⟨(some 16), (.call n_impl_pieces [(.t 12), (.t 14), (.t 15)]), none⟩,
 ⟨(some 17), (.ln (.t 16)), none⟩,
 ⟨(some 18), (.mov (.c (.int .i64 0))), none⟩])
 (.keep [5, 16, 17, 18]))
 (.block 0
 (.loop
 (.seq
 (.seq (.ops [⟨(some 19), (.bin .lss (.t 18) (.t 17)), none⟩])
 (.keep [5, 16, 17, 18, 19]))
 (.seq
 (.cond (.t 19)
 .skip
 (.exit 0))
 (.seq
 (.block 1
 (.seq
 (.seq (.ops [⟨(some 20), (.ia 1 (.t 16) (.t 18)), none⟩,
 ⟨(some 21), (.ld 1 false (.t 20)), none⟩,
 ⟨(some 7), (.mov (.t 21)), none⟩])
 (.keep [5, 7, 16, 17, 18]))
 (.seq (.ops [⟨(some 22), (.mov (.t 5)), none⟩,
 ⟨(some 23), (.mov (.t 7)), none⟩,
 ⟨(some 24), (.ln (.t 23)), none⟩,
 ⟨(some 25), (.bin .rem (.t 24) (.c (.int .i64 2))), none⟩,
 ⟨(some 26), (.bin .add (.t 22) (.t 25)), none⟩,
 ⟨(some 5), (.mov (.t 26)), none⟩])
 (.keep [5, 16, 17, 18]))))
 (.seq (.ops [⟨(some 27), (.bin .add (.t 18) (.c (.int .i64 1))), none⟩,
 ⟨(some 18), (.mov (.t 27)), none⟩])
 (.keep [5, 16, 17, 18]))))))))
 (.seq
 (.seq (.ops [⟨(some 28), (.mov (.t 5)), none⟩,
 ⟨(some 4), (.mov (.t 28)), none⟩])
 (.keep [4]))
 .ret))))),
 [(.slot 4)]⟩
/-- laws szCoupleS -/
def F_laws_szCoupleS : Fun := ⟨2,
 (.seq
 (.seq (.ops [⟨(some 4), (.mov (.c (.int .i64 0))), none⟩])
 (.keep [0, 1]))
 (.seq
 (.seq (.ops [⟨(some 5), (.mov (.t 1)), none⟩,
 ⟨(some 6), (.mov (.t 0)), none⟩,
 ⟨(some 7), (.ln (.t 6)), none⟩,
 ⟨(some 8), (.bin .sub (.t 5) (.t 7)), none⟩,
 ⟨(some 1), (.mov (.t 8)), none⟩])
 (.keep [1]))
 (.seq
 (.seq
 (.seq (.ops [⟨(some 9), (.mov (.t 1)), none⟩,
 ⟨(some 10), (.bin .lss (.t 9) (.c (.int .i64 0))), none⟩])
 (.keep [1, 10]))
 (.cond (.t 10)
 (.seq
 (.seq (.ops [⟨(some 4), (.mov (.c (.int .i64 (-1)))), none⟩])
 (.keep [4]))
 .ret)
 .skip))
 (.seq
 (.seq (.ops [⟨(some 11), (.mov (.t 1)), none⟩,
 ⟨(some 4), (.mov (.t 11)), none⟩])
 (.keep [4]))
 .ret)))),
 [(.slot 4)]⟩
/-- spec Lonely -/
def F_spec_Lonely : Fun := ⟨2,
 (.seq
 (.seq (.ops [⟨(some 2), (.boxL 2 (.t 0)), none⟩,
 ⟨(some 4), (.mov (.c (.slice none 0 0))), none⟩])
 (.keep [1, 2]))
 (.seq
 (.seq (.ops [⟨(some 10), (.lit 0 1 y_int [(.int .i64 0)] []), none⟩,
 ⟨(some 5), (.mov (.t 10)), none⟩])
 (.keep [1, 2, 5]))
 (.seq
 (.seq (.ops [⟨(some 11), (.ldB 2 true 2), none⟩,
 ⟨(some 12), (.mov (.t 1)), none⟩,
 ⟨(some 13), (.call n_spec_MatchOk [(.t 11), (.t 12)]), none⟩,
 ⟨(some 6), (.mov (.t 13)), none⟩])
 (.keep [1, 2, 5, 6]))
 (.seq
 (.seq
 (.seq (.ops [⟨(some 7), (.mov (.c (.int .i64 0))), none⟩])
 (.keep [1, 2, 5, 6, 7]))
 (.block 0
 (.loop
 (.seq
 (.seq
 (.seq (.ops [⟨(some 14), (.mov (.t 7)), none⟩,
 ⟨(some 15), (.faB 0 2), none⟩,
 ⟨(some 16), (.ldE 1 false 2 15), none⟩,
 ⟨(some 17), (.bin .lss (.t 14) (.t 16)), none⟩,
 ⟨(some 18), (.mov (.t 17)), none⟩,
 ⟨(some 19), (.mov (.t 6)), (some (18, true))⟩,
 ⟨(some 20), (.pick (.t 18) (.t 19) (.c (.bool false))), none⟩])
 (.keep [1, 2, 5, 6, 7, 20]))
 (.cond (.t 20)
 .skip
 (.exit 0)))
 (.seq
 (.block 1
 (.seq
 (.seq (.ops [⟨(some 8), (.mov (.c (.bool true))), none⟩])
 (.keep [1, 2, 5, 6, 7, 8]))
 (.seq
 (.seq
 (.seq (.ops [⟨(some 9), (.mov (.c (.int .i64 0))), none⟩])
 (.keep [1, 2, 5, 6, 7, 8, 9]))
 (.block 2
 (.loop
 (.seq
 (.seq
 (.seq (.ops [⟨(some 23), (.mov (.t 9)), none⟩,
 ⟨(some 24), (.mov (.t 1)), none⟩,
 ⟨(some 25), (.ln (.t 24)), none⟩,
 ⟨(some 26), (.bin .lss (.t 23) (.t 25)), none⟩])
 (.keep [1, 2, 5, 6, 7, 8, 9, 26]))
 (.cond (.t 26)
 .skip
 (.exit 2)))
 (.seq
 (.block 3
 (.seq (.ops [⟨(some 29), (.mov (.t 8)), none⟩,
 ⟨(some 30), (.mov (.t 29)), none⟩,
 ⟨(some 31), (.mov (.t 1)), (some (30, true))⟩,
 ⟨(some 32), (.mov (.t 9)), (some (30, true))⟩,
 ⟨(some 33), (.ia 2 (.t 31) (.t 32)), (some (30, true))⟩,
 ⟨(some 34), (.fa 0 (.t 33)), (some (30, true))⟩,
 ⟨(some 35), (.ld 1 false (.t 34)), (some (30, true))⟩,
 ⟨(some 36), (.mov (.t 7)), (some (30, true))⟩,
 ⟨(some 37), (.bin .neq (.t 35) (.t 36)), (some (30, true))⟩,
 ⟨(some 38), (.pick (.t 30) (.t 37) (.c (.bool false))), none⟩,
 ⟨(some 39), (.mov (.t 38)), none⟩,
 ⟨(some 40), (.mov (.t 1)), (some (39, true))⟩,
 ⟨(some 41), (.mov (.t 9)), (some (39, true))⟩,
 ⟨(some 42), (.ia 2 (.t 40) (.t 41)), (some (39, true))⟩,
 ⟨(some 43), (.fa 1 (.t 42)), (some (39, true))⟩,
 ⟨(some 44), (.ld 1 false (.t 43)), (some (39, true))⟩,
 ⟨(some 45), (.mov (.t 7)), (some (39, true))⟩,
 ⟨(some 46), (.bin .neq (.t 44) (.t 45)), (some (39, true))⟩,
 ⟨(some 47), (.pick (.t 39) (.t 46) (.c (.bool false))), none⟩,
 ⟨(some 8), (.mov (.t 47)), none⟩])
 (.keep [1, 2, 5, 6, 7, 8, 9])))
 (.seq (.ops [⟨(some 27), (.mov (.t 9)), none⟩,
 ⟨(some 28), (.bin .add (.t 27) (.c (.int .i64 1))), none⟩,
 ⟨(some 9), (.mov (.t 28)), none⟩])
 (.keep [1, 2, 5, 6, 7, 8, 9])))))))
 (.seq
 (.seq (.ops [⟨(some 48), (.mov (.t 8)), none⟩])
 (.keep [1, 2, 5, 6, 7, 48]))
 (.cond (.t 48)
 (.seq (.ops [⟨(some 49), (.mov (.t 5)), none⟩,
 ⟨(some 50), (.mov (.t 7)), none⟩,
 ⟨(some 51), (.litL 1 1 [(.int .i64 0)] [(0, (.t 50))]), none⟩,
 ⟨(some 52), (.appL 1 y_int 8 1 (.t 49) 51), none⟩,
 ⟨(some 5), (.mov (.t 52)), none⟩])
 (.keep [1, 2, 5, 6, 7]))
 .skip)))))
 (.seq (.ops [⟨(some 21), (.mov (.t 7)), none⟩,
 ⟨(some 22), (.bin .add (.t 21) (.c (.int .i64 1))), none⟩,
 ⟨(some 7), (.mov (.t 22)), none⟩])
 (.keep [1, 2, 5, 6, 7])))))))
 (.seq
 (.seq (.ops [⟨(some 53), (.mov (.t 5)), none⟩,
 ⟨(some 4), (.mov (.t 53)), none⟩])
 (.keep [4]))
 .ret))))),
 [(.slot 4)]⟩
/-- laws toCoupleS -/
def F_laws_toCoupleS : Fun := ⟨1,
 (.seq
 (.seq (.ops [⟨(some 2), (.mov (.c (.slice none 0 0))), none⟩])
 (.keep [0]))
 (.seq
 (.seq (.ops [⟨(some 5), (.mov (.t 0)), none⟩,
 ⟨(some 6), (.ln (.t 5)), none⟩,
 ⟨(some 7), (.mk 2 y_Couple 16 [(.int .i64 0), (.int .i64 0)] (.t 6)), none⟩,
 ⟨(some 3), (.mov (.t 7)), none⟩])
 (.keep [0, 3]))
 (.seq
 (.seq
 (.seq (.ops [⟨(some 4), (.mov (.c (.int .i64 0))), none⟩])
 (.keep [0, 3, 4]))
 (.block 0
 (.loop
 (.seq
 (.seq
 (.seq (.ops [⟨(some 8), (.mov (.t 4)), none⟩,
 ⟨(some 9), (.mov (.t 0)), none⟩,
 ⟨(some 10), (.ln (.t 9)), none⟩,
 ⟨(some 11), (.bin .lss (.t 8) (.t 10)), none⟩])
 (.keep [0, 3, 4, 11]))
 (.cond (.t 11)
 .skip
 (.exit 0)))
 (.seq
 (.block 1
 (.seq (.ops [⟨(some 14), (.mov (.t 3)), none⟩,
 ⟨(some 15), (.mov (.t 4)), none⟩,
 ⟨(some 16), (.mov (.t 0)), none⟩,
 ⟨(some 17), (.mov (.t 4)), none⟩,
 ⟨(some 18), (.ia 2 (.t 16) (.t 17)), none⟩,
 ⟨(some 19), (.ld 2 true (.t 18)), none⟩,
 ⟨(some 20), (.call n_laws_toCouple [(.t 19)]), none⟩,
 ⟨(some 21), (.ia 2 (.t 14) (.t 15)), none⟩,
 ⟨none, (.st 2 (.t 21) (.t 20)), none⟩])
 (.keep [0, 3, 4])))
 (.seq (.ops [⟨(some 12), (.mov (.t 4)), none⟩,
 ⟨(some 13), (.bin .add (.t 12) (.c (.int .i64 1))), none⟩,
 ⟨(some 4), (.mov (.t 13)), none⟩])
 (.keep [0, 3, 4])))))))
 (.seq
 (.seq (.ops [⟨(some 22), (.mov (.t 3)), none⟩,
 ⟨(some 2), (.mov (.t 22)), none⟩])
 (.keep [2]))
 .ret)))),
 [(.slot 2)]⟩
/-- impl Lonely -/
def F_impl_Lonely : Fun := ⟨2,
 (.seq
 (.seq (.ops [⟨(some 2), (.boxL 2 (.t 0)), none⟩,
 ⟨(some 4), (.mov (.c (.slice none 0 0))), none⟩])
 (.keep [1, 2]))
 (.seq
 (.seq
 (.seq (.ops [⟨(some 10), (.ldB 2 true 2), none⟩,
 ⟨(some 11), (.mov (.t 1)), none⟩,
 ⟨(some 12), (.call n_impl_MatchOk [(.t 10), (.t 11)]), none⟩,
 ⟨(some 13), (.un .not (.t 12)), none⟩])
 (.keep [1, 2, 13]))
 (.cond (.t 13)
 (.seq
 (.seq (.ops [⟨(some 4), (.mov (.c (.slice none 0 0))), none⟩])
 (.keep [4]))
 .ret)
 .skip))
 (.seq
 (.seq (.ops [⟨(some 5), (.mov (.c (.slice none 0 0))), none⟩])
 (.keep [1, 2, 5]))
 (.seq
 (.seq
 (.seq (.ops [⟨(some 14), (.mov (.t 1)), none⟩,
 ⟨(some 15), (.ln (.t 14)), none⟩,
 ⟨(some 16), (.mov (.c (.int .i64 0))), none⟩])
 (.keep [2, 5, 14, 15, 16]))
 (.block 0
 (.loop
 (.seq
 (.seq (.ops [⟨(some 17), (.bin .lss (.t 16) (.t 15)), none⟩])
 (.keep [2, 5, 14, 15, 16, 17]))
 (.seq
 (.cond (.t 17)
 .skip
 (.exit 0))
 (.seq
 (.block 1
 (.seq
 (.seq (.ops [⟨(some 18), (.ia 2 (.t 14) (.t 16)), none⟩,
 ⟨(some 19), (.ld 2 true (.t 18)), none⟩,
 ⟨(some 7), (.newL [(.int .i64 0), (.int .i64 0)]), none⟩,
 ⟨none, (.stB 2 7 (.t 19)), none⟩])
 (.keep [2, 5, 7, 14, 15, 16]))
 (.seq (.ops [⟨(some 20), (.mov (.t 5)), none⟩,
 ⟨(some 21), (.faB 0 7), none⟩,
 ⟨(some 22), (.ldE 1 false 7 21), none⟩,
 ⟨(some 23), (.faB 1 7), none⟩,
 ⟨(some 24), (.ldE 1 false 7 23), none⟩,
 ⟨(some 25), (.litL 2 1 [(.int .i64 0)] [(0, (.t 22)), (1, (.t 24))]), none⟩,
 ⟨(some 26), (.appL 1 y_int 8 2 (.t 20) 25), none⟩,
 ⟨(some 5), (.mov (.t 26)), none⟩])
 (.keep [2, 5, 14, 15, 16]))))
 (.seq (.ops [⟨(some 27), (.bin .add (.t 16) (.c (.int .i64 1))), none⟩,
 ⟨(some 16), (.mov (.t 27)), none⟩])
 (.keep [2, 5, 14, 15, 16]))))))))
 (.seq
 (.seq (.ops [⟨(some 8), (.mov (.c (.slice none 0 0))), none⟩])
 (.keep [2, 5, 8]))
 (.seq
 (.seq
 (.seq (.ops [⟨(some 28), (.faB 0 2), none⟩,
 ⟨(some 29), (.ldE 1 false 2 28), none⟩,
 ⟨(some 30), (.mov (.c (.int .i64 0))), none⟩])
 (.keep [5, 8, 29, 30]))
 (.block 2
 (.loop
 (.seq
 (.seq (.ops [⟨(some 31), (.bin .lss (.t 30) (.t 29)), none⟩])
 (.keep [5, 8, 29, 30, 31]))
 (.seq
 (.cond (.t 31)
 .skip
 (.exit 2))
 (.seq
 (.block 3
 (.seq
 (.seq (.ops [⟨(some 32), (.mov (.t 30)), none⟩,
 ⟨(some 9), (.mov (.t 32)), none⟩])
 (.keep [5, 8, 9, 29, 30]))
 (.seq
 (.seq (.ops [⟨(some 33), (.mov (.t 5)), none⟩,
 ⟨(some 34), (.mov (.t 9)), none⟩,
 ⟨(some 35), (.call n_impl_hasInt [(.t 33), (.t 34)]), none⟩,
 ⟨(some 36), (.un .not (.t 35)), none⟩])
 (.keep [5, 8, 9, 29, 30, 36]))
 (.cond (.t 36)
 (.seq (.ops [⟨(some 37), (.mov (.t 8)), none⟩,
 ⟨(some 38), (.mov (.t 9)), none⟩,
 ⟨(some 39), (.litL 1 1 [(.int .i64 0)] [(0, (.t 38))]), none⟩,
 ⟨(some 40), (.appL 1 y_int 8 1 (.t 37) 39), none⟩,
 ⟨(some 8), (.mov (.t 40)), none⟩])
 (.keep [5, 8, 29, 30]))
 .skip))))
 (.seq (.ops [⟨(some 41), (.bin .add (.t 30) (.c (.int .i64 1))), none⟩,
 ⟨(some 30), (.mov (.t 41)), none⟩])
 (.keep [5, 8, 29, 30]))))))))
 (.seq
 (.seq (.ops [⟨(some 42), (.mov (.t 8)), none⟩,
 ⟨(some 4), (.mov (.t 42)), none⟩])
 (.keep [4]))
 .ret))))))),
 [(.slot 4)]⟩
/-- laws eqCoupleS -/
def F_laws_eqCoupleS : Fun := ⟨2,
 (.seq
 (.seq (.ops [⟨(some 4), (.mov (.c (.bool false))), none⟩])
 (.keep [0, 1]))
 (.seq
 (.seq
 (.seq (.ops [⟨(some 6), (.mov (.t 0)), none⟩,
 ⟨(some 7), (.ln (.t 6)), none⟩,
 ⟨(some 8), (.mov (.t 1)), none⟩,
 ⟨(some 9), (.ln (.t 8)), none⟩,
 ⟨(some 10), (.bin .neq (.t 7) (.t 9)), none⟩])
 (.keep [0, 1, 10]))
 (.cond (.t 10)
 (.seq
 (.seq (.ops [⟨(some 4), (.mov (.c (.bool false))), none⟩])
 (.keep [4]))
 .ret)
 .skip))
 (.seq
 (.seq
 (.seq (.ops [⟨(some 5), (.mov (.c (.int .i64 0))), none⟩])
 (.keep [0, 1, 5]))
 (.block 0
 (.loop
 (.seq
 (.seq
 (.seq (.ops [⟨(some 11), (.mov (.t 5)), none⟩,
 ⟨(some 12), (.mov (.t 0)), none⟩,
 ⟨(some 13), (.ln (.t 12)), none⟩,
 ⟨(some 14), (.bin .lss (.t 11) (.t 13)), none⟩])
 (.keep [0, 1, 5, 14]))
 (.cond (.t 14)
 .skip
 (.exit 0)))
 (.seq
 (.block 1
 (.seq
 (.seq (.free true [⟨(some 17), (.mov (.t 0)), none⟩,
 ⟨(some 18), (.mov (.t 5)), none⟩,
 ⟨(some 19), (.ia 2 (.t 17) (.t 18)), none⟩,
 ⟨(some 20), (.ld 2 true (.t 19)), none⟩,
 ⟨(some 21), (.mov (.t 1)), none⟩,
 ⟨(some 22), (.mov (.t 5)), none⟩,
 ⟨(some 23), (.ia 2 (.t 21) (.t 22)), none⟩,
 ⟨(some 24), (.ld 2 true (.t 23)), none⟩,
 ⟨(some 25), (.call n_laws_eqCouple [(.t 20), (.t 24)]), none⟩,
 ⟨(some 26), (.un .not (.t 25)), none⟩])
 (.keep [0, 1, 5, 26]))
 (.cond (.t 26)
 (.seq
 (.seq (.ops [⟨(some 4), (.mov (.c (.bool false))), none⟩])
 (.keep [4]))
 .ret)
 .skip)))
 (.seq (.ops [⟨(some 15), (.mov (.t 5)), none⟩,
 ⟨(some 16), (.bin .add (.t 15) (.c (.int .i64 1))), none⟩,
 ⟨(some 5), (.mov (.t 16)), none⟩])
 (.keep [0, 1, 5])))))))
 (.seq
 (.seq (.ops [⟨(some 4), (.mov (.c (.bool true))), none⟩])
 (.keep [4]))
 .ret)))),
 [(.slot 4)]⟩
/-- laws markCoupleS -/
def F_laws_markCoupleS : Fun := ⟨2,
 (.seq
 (.seq (.ops [⟨(some 4), (.mov (.c (.int .i64 0))), none⟩])
 (.keep [0, 1]))
 (.seq
 (.seq
 (.seq (.ops [⟨(some 5), (.mov (.c (.int .i64 0))), none⟩])
 (.keep [0, 1, 5]))
 (.block 0
 (.loop
 (.seq
 (.seq
 (.seq (.ops [⟨(some 6), (.mov (.t 5)), none⟩,
 ⟨(some 7), (.mov (.t 0)), none⟩,
 ⟨(some 8), (.ln (.t 7)), none⟩,
 ⟨(some 9), (.bin .lss (.t 6) (.t 8)), none⟩])
 (.keep [0, 1, 5, 9]))
 (.cond (.t 9)
 .skip
 (.exit 0)))
 (.seq
 (.block 1
 (.seq
 (.seq (.ops [⟨(some 12), (.mov (.t 0)), none⟩,
 ⟨(some 13), (.mov (.t 5)), none⟩,
 ⟨(some 14), (.mov (.t 1)), none⟩,
 ⟨(some 15), (.ia 2 (.t 12) (.t 13)), none⟩,
 ⟨(some 16), (.fa 0 (.t 15)), none⟩,
 ⟨none, (.st 1 (.t 16) (.t 14)), none⟩])
 (.keep [0, 1, 5]))
 (.seq
 (.seq (.ops [⟨(some 17), (.mov (.t 1)), none⟩,
 ⟨(some 18), (.bin .add (.t 17) (.c (.int .i64 1))), none⟩,
 ⟨(some 1), (.mov (.t 18)), none⟩])
 (.keep [0, 1, 5]))
 (.seq
 (.seq (.ops [⟨(some 19), (.mov (.t 0)), none⟩,
 ⟨(some 20), (.mov (.t 5)), none⟩,
 ⟨(some 21), (.mov (.t 1)), none⟩,
 ⟨(some 22), (.ia 2 (.t 19) (.t 20)), none⟩,
 ⟨(some 23), (.fa 1 (.t 22)), none⟩,
 ⟨none, (.st 1 (.t 23) (.t 21)), none⟩])
 (.keep [0, 1, 5]))
 (.seq (.ops [⟨(some 24), (.mov (.t 1)), none⟩,
 ⟨(some 25), (.bin .add (.t 24) (.c (.int .i64 1))), none⟩,
 ⟨(some 1), (.mov (.t 25)), none⟩])
 (.keep [0, 1, 5]))))))
 (.seq (.ops [⟨(some 10), (.mov (.t 5)), none⟩,
 ⟨(some 11), (.bin .add (.t 10) (.c (.int .i64 1))), none⟩,
 ⟨(some 5), (.mov (.t 11)), none⟩])
 (.keep [0, 1, 5])))))))
 (.seq
 (.seq (.ops [⟨(some 26), (.mov (.t 1)), none⟩,
 ⟨(some 4), (.mov (.t 26)), none⟩])
 (.keep [4]))
 .ret))),
 [(.slot 4)]⟩
/-- spec PiecesOf -/
def F_spec_PiecesOf : Fun := ⟨2,
 (.seq
 (.seq (.ops [⟨(some 2), (.boxL 2 (.t 0)), none⟩,
 ⟨(some 4), (.mov (.c (.slice none 0 0))), none⟩])
 (.keep [1, 2]))
 (.seq
 (.seq
 (.seq (.ops [⟨(some 5), (.ldB 2 true 2), none⟩,
 ⟨(some 6), (.call n_spec_GraphOk [(.t 5)]), none⟩,
 ⟨(some 7), (.un .not (.t 6)), none⟩])
 (.keep [1, 2, 7]))
 (.cond (.t 7)
 (.seq
 (.seq (.ops [⟨(some 8), (.lit 0 1 y_ints [(.slice none 0 0)] []), none⟩,
 ⟨(some 4), (.mov (.t 8)), none⟩])
 (.keep [4]))
 .ret)
 .skip))
 (.seq
 (.seq (.ops [⟨(some 9), (.ldB 2 true 2), none⟩,
 ⟨(some 10), (.mov (.t 1)), none⟩,
 ⟨(some 11), (.call n_spec_l17Parts [(.t 9), (.t 10)]), none⟩,
 ⟨(some 4), (.mov (.t 11)), none⟩])
 (.keep [4]))
 .ret))),
 [(.slot 4)]⟩
/-- impl PiecesOf -/
def F_impl_PiecesOf : Fun := ⟨2,
 (.seq
 (.seq (.ops [⟨(some 2), (.boxL 2 (.t 0)), none⟩,
 ⟨(some 4), (.mov (.c (.slice none 0 0))), none⟩])
 (.keep [1, 2]))
 (.seq
 (.seq
 (.seq (.ops [⟨(some 5), (.ldB 2 true 2), none⟩,
 ⟨(some 6), (.call n_impl_GraphOk [(.t 5)]), none⟩,
 ⟨(some 7), (.un .not (.t 6)), none⟩])
 (.keep [1, 2, 7]))
 (.cond (.t 7)
 (.seq
 (.seq (.ops [⟨(some 4), (.mov (.c (.slice none 0 0))), none⟩])
 (.keep [4]))
 .ret)
 .skip))
 (.seq
 (.seq (.ops [⟨(some 8), (.faB 0 2), none⟩,
 ⟨(some 9), (.ldE 1 false 2 8), none⟩,
 ⟨(some 10), (.faB 1 2), none⟩,
 ⟨(some 11), (.ldE 1 false 2 10), none⟩,
 ⟨(some 12), (.mov (.t 1)), none⟩,
 ⟨(some 13), (.call n_impl_pieces [(.t 9), (.t 11), (.t 12)]), none⟩,
 ⟨(some 4), (.mov (.t 13)), none⟩])
 (.keep [4]))
 .ret))),
 [(.slot 4)]⟩
/-- laws eqIntSS -/
def F_laws_eqIntSS : Fun := ⟨2,
 (.seq
 (.seq (.ops [⟨(some 4), (.mov (.c (.bool false))), none⟩])
 (.keep [0, 1]))
 (.seq
 (.seq
 (.seq (.ops [⟨(some 6), (.mov (.t 0)), none⟩,
 ⟨(some 7), (.ln (.t 6)), none⟩,
 ⟨(some 8), (.mov (.t 1)), none⟩,
 ⟨(some 9), (.ln (.t 8)), none⟩,
 ⟨(some 10), (.bin .neq (.t 7) (.t 9)), none⟩])
 (.keep [0, 1, 10]))
 (.cond (.t 10)
 (.seq
 (.seq (.ops [⟨(some 4), (.mov (.c (.bool false))), none⟩])
 (.keep [4]))
 .ret)
 .skip))
 (.seq
 (.seq
 (.seq (.ops [⟨(some 5), (.mov (.c (.int .i64 0))), none⟩])
 (.keep [0, 1, 5]))
 (.block 0
 (.loop
 (.seq
 (.seq
 (.seq (.ops [⟨(some 11), (.mov (.t 5)), none⟩,
 ⟨(some 12), (.mov (.t 0)), none⟩,
 ⟨(some 13), (.ln (.t 12)), none⟩,
 ⟨(some 14), (.bin .lss (.t 11) (.t 13)), none⟩])
 (.keep [0, 1, 5, 14]))
 (.cond (.t 14)
 .skip
 (.exit 0)))
 (.seq
 (.block 1
 (.seq
 (.seq (.free true [⟨(some 17), (.mov (.t 0)), none⟩,
 ⟨(some 18), (.mov (.t 5)), none⟩,
 ⟨(some 19), (.ia 1 (.t 17) (.t 18)), none⟩,
 ⟨(some 20), (.ld 1 false (.t 19)), none⟩,
 ⟨(some 21), (.mov (.t 1)), none⟩,
 ⟨(some 22), (.mov (.t 5)), none⟩,
 ⟨(some 23), (.ia 1 (.t 21) (.t 22)), none⟩,
 ⟨(some 24), (.ld 1 false (.t 23)), none⟩,
 ⟨(some 25), (.call n_laws_eqIntS [(.t 20), (.t 24)]), none⟩,
 ⟨(some 26), (.un .not (.t 25)), none⟩])
 (.keep [0, 1, 5, 26]))
 (.cond (.t 26)
 (.seq
 (.seq (.ops [⟨(some 4), (.mov (.c (.bool false))), none⟩])
 (.keep [4]))
 .ret)
 .skip)))
 (.seq (.ops [⟨(some 15), (.mov (.t 5)), none⟩,
 ⟨(some 16), (.bin .add (.t 15) (.c (.int .i64 1))), none⟩,
 ⟨(some 5), (.mov (.t 16)), none⟩])
 (.keep [0, 1, 5])))))))
 (.seq
 (.seq (.ops [⟨(some 4), (.mov (.c (.bool true))), none⟩])
 (.keep [4]))
 .ret)))),
 [(.slot 4)]⟩
/-- laws markIntSS -/
def F_laws_markIntSS : Fun := ⟨2,
 (.seq
 (.seq (.ops [⟨(some 4), (.mov (.c (.int .i64 0))), none⟩])
 (.keep [0, 1]))
 (.seq
 (.seq
 (.seq (.ops [⟨(some 5), (.mov (.c (.int .i64 0))), none⟩])
 (.keep [0, 1, 5]))
 (.block 0
 (.loop
 (.seq
 (.seq
 (.seq (.ops [⟨(some 6), (.mov (.t 5)), none⟩,
 ⟨(some 7), (.mov (.t 0)), none⟩,
 ⟨(some 8), (.ln (.t 7)), none⟩,
 ⟨(some 9), (.bin .lss (.t 6) (.t 8)), none⟩])
 (.keep [0, 1, 5, 9]))
 (.cond (.t 9)
 .skip
 (.exit 0)))
 (.seq
 (.block 1
 (.seq (.ops [⟨(some 12), (.mov (.t 0)), none⟩,
 ⟨(some 13), (.mov (.t 5)), none⟩,
 ⟨(some 14), (.ia 1 (.t 12) (.t 13)), none⟩,
 ⟨(some 15), (.ld 1 false (.t 14)), none⟩,
 ⟨(some 16), (.mov (.t 1)), none⟩,
 ⟨(some 17), (.call n_laws_markIntS [(.t 15), (.t 16)]), none⟩,
 ⟨(some 1), (.mov (.t 17)), none⟩])
 (.keep [0, 1, 5])))
 (.seq (.ops [⟨(some 10), (.mov (.t 5)), none⟩,
 ⟨(some 11), (.bin .add (.t 10) (.c (.int .i64 1))), none⟩,
 ⟨(some 5), (.mov (.t 11)), none⟩])
 (.keep [0, 1, 5])))))))
 (.seq
 (.seq (.ops [⟨(some 18), (.mov (.t 1)), none⟩,
 ⟨(some 4), (.mov (.t 18)), none⟩])
 (.keep [4]))
 .ret))),
 [(.slot 4)]⟩
/-- laws heldIntSS -/
def F_laws_heldIntSS : Fun := ⟨2,
 (.seq
 (.seq (.ops [⟨(some 4), (.mov (.c (.int .i64 0))), none⟩])
 (.keep [0, 1]))
 (.seq
 (.seq
 (.seq (.ops [⟨(some 5), (.mov (.c (.int .i64 0))), none⟩])
 (.keep [0, 1, 5]))
 (.block 0
 (.loop
 (.seq
 (.seq
 (.seq (.ops [⟨(some 6), (.mov (.t 5)), none⟩,
 ⟨(some 7), (.mov (.t 0)), none⟩,
 ⟨(some 8), (.ln (.t 7)), none⟩,
 ⟨(some 9), (.bin .lss (.t 6) (.t 8)), none⟩])
 (.keep [0, 1, 5, 9]))
 (.cond (.t 9)
 .skip
 (.exit 0)))
 (.seq
 (.block 1
 (.seq
 (.seq (.ops [⟨(some 12), (.mov (.t 0)), none⟩,
 ⟨(some 13), (.mov (.t 5)), none⟩,
 ⟨(some 14), (.ia 1 (.t 12) (.t 13)), none⟩,
 ⟨(some 15), (.ld 1 false (.t 14)), none⟩,
 ⟨(some 16), (.mov (.t 1)), none⟩,
 ⟨(some 17), (.call n_laws_heldIntS [(.t 15), (.t 16)]), none⟩,
 ⟨(some 1), (.mov (.t 17)), none⟩])
 (.keep [0, 1, 5]))
 (.seq
 (.seq (.ops [⟨(some 18), (.mov (.t 1)), none⟩,
 ⟨(some 19), (.bin .lss (.t 18) (.c (.int .i64 0))), none⟩])
 (.keep [0, 1, 5, 19]))
 (.cond (.t 19)
 (.seq
 (.seq (.ops [⟨(some 4), (.mov (.c (.int .i64 (-1)))), none⟩])
 (.keep [4]))
 .ret)
 .skip))))
 (.seq (.ops [⟨(some 10), (.mov (.t 5)), none⟩,
 ⟨(some 11), (.bin .add (.t 10) (.c (.int .i64 1))), none⟩,
 ⟨(some 5), (.mov (.t 11)), none⟩])
 (.keep [0, 1, 5])))))))
 (.seq
 (.seq (.ops [⟨(some 20), (.mov (.t 1)), none⟩,
 ⟨(some 4), (.mov (.t 20)), none⟩])
 (.keep [4]))
 .ret))),
 [(.slot 4)]⟩
/-- spec Blocks -/
def F_spec_Blocks : Fun := ⟨1,
 (.seq
 (.seq (.ops [⟨(some 1), (.boxL 2 (.t 0)), none⟩,
 ⟨(some 2), (.mov (.c (.slice none 0 0))), none⟩])
 (.keep [1]))
 (.seq
 (.seq (.ops [⟨(some 12), (.lit 0 1 y_int [(.int .i64 0)] []), none⟩,
 ⟨(some 3), (.mov (.t 12)), none⟩])
 (.keep [1, 3]))
 (.seq
 (.seq
 (.seq (.ops [⟨(some 13), (.ldB 2 true 1), none⟩,
 ⟨(some 14), (.call n_spec_GraphOk [(.t 13)]), none⟩,
 ⟨(some 15), (.un .not (.t 14)), none⟩])
 (.keep [1, 3, 15]))
 (.cond (.t 15)
 (.seq
 (.seq (.ops [⟨(some 16), (.mov (.t 3)), none⟩,
 ⟨(some 2), (.mov (.t 16)), none⟩])
 (.keep [2]))
 .ret)
 .skip))
 (.seq
 (.seq (.ops [⟨(some 17), (.ldB 2 true 1), none⟩,
 ⟨(some 18), (.mov (.t 3)), none⟩,
 ⟨(some 19), (.call n_spec_l17Odd [(.t 17), (.t 18)]), none⟩,
 ⟨(some 20), (.un .neg (.t 19)), none⟩,
 ⟨(some 4), (.mov (.t 20)), none⟩])
 (.keep [1, 3, 4]))
 (.seq
 (.seq (.ops [⟨(some 5), (.mov (.c (.int .i64 1))), none⟩])
 (.keep [1, 3, 4, 5]))
 (.seq
 (.seq
 (.seq (.ops [⟨(some 6), (.mov (.c (.int .i64 0))), none⟩])
 (.keep [1, 3, 4, 5, 6]))
 (.block 0
 (.loop
 (.seq
 (.seq
 (.seq (.ops [⟨(some 21), (.mov (.t 6)), none⟩,
 ⟨(some 22), (.faB 0 1), none⟩,
 ⟨(some 23), (.ldE 1 false 1 22), none⟩,
 ⟨(some 24), (.bin .lss (.t 21) (.t 23)), none⟩])
 (.keep [1, 3, 4, 5, 6, 24]))
 (.cond (.t 24)
 .skip
 (.exit 0)))
 (.seq
 (.block 1
 (.seq (.ops [⟨(some 27), (.mov (.t 5)), none⟩,
 ⟨(some 28), (.bin .mul (.c (.int .i64 2)) (.t 27)), none⟩,
 ⟨(some 5), (.mov (.t 28)), none⟩])
 (.keep [1, 3, 4, 5, 6])))
 (.seq (.ops [⟨(some 25), (.mov (.t 6)), none⟩,
 ⟨(some 26), (.bin .add (.t 25) (.c (.int .i64 1))), none⟩,
 ⟨(some 6), (.mov (.t 26)), none⟩])
 (.keep [1, 3, 4, 5, 6])))))))
 (.seq
 (.seq
 (.seq (.ops [⟨(some 7), (.mov (.c (.int .i64 1))), none⟩])
 (.keep [1, 3, 4, 5, 7]))
 (.block 2
 (.loop
 (.seq
 (.seq
 (.seq (.ops [⟨(some 29), (.mov (.t 7)), none⟩,
 ⟨(some 30), (.mov (.t 5)), none⟩,
 ⟨(some 31), (.bin .lss (.t 29) (.t 30)), none⟩])
 (.keep [1, 3, 4, 5, 7, 31]))
 (.cond (.t 31)
 .skip
 (.exit 2)))
 (.seq
 (.block 3
 (.seq
 (.seq (.ops [⟨(some 34), (.lit 0 1 y_int [(.int .i64 0)] []), none⟩,
 ⟨(some 8), (.mov (.t 34)), none⟩])
 (.keep [1, 3, 4, 5, 7, 8]))
 (.seq
 (.seq (.ops [⟨(some 35), (.mov (.t 7)), none⟩,
 ⟨(some 9), (.mov (.t 35)), none⟩])
 (.keep [1, 3, 4, 5, 7, 8, 9]))
 (.seq
 (.seq
 (.seq (.ops [⟨(some 10), (.mov (.c (.int .i64 0))), none⟩])
 (.keep [1, 3, 4, 5, 7, 8, 9, 10]))
 (.block 4
 (.loop
 (.seq
 (.seq
 (.seq (.ops [⟨(some 36), (.mov (.t 10)), none⟩,
 ⟨(some 37), (.faB 0 1), none⟩,
 ⟨(some 38), (.ldE 1 false 1 37), none⟩,
 ⟨(some 39), (.bin .lss (.t 36) (.t 38)), none⟩])
 (.keep [1, 3, 4, 5, 7, 8, 9, 10, 39]))
 (.cond (.t 39)
 .skip
 (.exit 4)))
 (.seq
 (.block 5
 (.seq
 (.seq
 (.seq (.ops [⟨(some 42), (.mov (.t 9)), none⟩,
 ⟨(some 43), (.bin .rem (.t 42) (.c (.int .i64 2))), none⟩,
 ⟨(some 44), (.bin .eql (.t 43) (.c (.int .i64 1))), none⟩])
 (.keep [1, 3, 4, 5, 7, 8, 9, 10, 44]))
 (.cond (.t 44)
 (.seq (.ops [⟨(some 45), (.mov (.t 8)), none⟩,
 ⟨(some 46), (.mov (.t 10)), none⟩,
 ⟨(some 47), (.litL 1 1 [(.int .i64 0)] [(0, (.t 46))]), none⟩,
 ⟨(some 48), (.appL 1 y_int 8 1 (.t 45) 47), none⟩,
 ⟨(some 8), (.mov (.t 48)), none⟩])
 (.keep [1, 3, 4, 5, 7, 8, 9, 10]))
 .skip))
 (.seq (.ops [⟨(some 49), (.mov (.t 9)), none⟩,
 ⟨(some 50), (.bin .quo (.t 49) (.c (.int .i64 2))), none⟩,
 ⟨(some 9), (.mov (.t 50)), none⟩])
 (.keep [1, 3, 4, 5, 7, 8, 9, 10]))))
 (.seq (.ops [⟨(some 40), (.mov (.t 10)), none⟩,
 ⟨(some 41), (.bin .add (.t 40) (.c (.int .i64 1))), none⟩,
 ⟨(some 10), (.mov (.t 41)), none⟩])
 (.keep [1, 3, 4, 5, 7, 8, 9, 10])))))))
 (.seq
 (.seq (.ops [⟨(some 51), (.mov (.t 8)), none⟩,
 ⟨(some 52), (.ln (.t 51)), none⟩,
 ⟨(some 53), (.ldB 2 true 1), none⟩,
 ⟨(some 54), (.mov (.t 8)), none⟩,
 ⟨(some 55), (.call n_spec_l17Odd [(.t 53), (.t 54)]), none⟩,
 ⟨(some 56), (.bin .sub (.t 52) (.t 55)), none⟩,
 ⟨(some 11), (.mov (.t 56)), none⟩])
 (.keep [1, 3, 4, 5, 7, 8, 11]))
 (.seq
 (.seq (.ops [⟨(some 57), (.mov (.t 11)), none⟩,
 ⟨(some 58), (.mov (.t 4)), none⟩,
 ⟨(some 59), (.bin .lss (.t 57) (.t 58)), none⟩,
 ⟨(some 60), (.mov (.t 59)), none⟩,
 ⟨(some 61), (.mov (.t 11)), (some (60, false))⟩,
 ⟨(some 62), (.mov (.t 4)), (some (60, false))⟩,
 ⟨(some 63), (.bin .eql (.t 61) (.t 62)), (some (60, false))⟩,
 ⟨(some 64), (.mov (.t 63)), (some (60, false))⟩,
 ⟨(some 65), (.mov (.t 8)), (some (64, true))⟩,
 ⟨(some 66), (.ln (.t 65)), (some (64, true))⟩,
 ⟨(some 67), (.mov (.t 3)), (some (64, true))⟩,
 ⟨(some 68), (.ln (.t 67)), (some (64, true))⟩,
 ⟨(some 69), (.bin .lss (.t 66) (.t 68)), (some (64, true))⟩,
 ⟨(some 70), (.mov (.t 69)), (some (64, true))⟩,
 ⟨(some 71), (.mov (.t 8)), (some (70, false))⟩,
 ⟨(some 72), (.ln (.t 71)), (some (70, false))⟩,
 ⟨(some 73), (.mov (.t 3)), (some (70, false))⟩,
 ⟨(some 74), (.ln (.t 73)), (some (70, false))⟩,
 ⟨(some 75), (.bin .eql (.t 72) (.t 74)), (some (70, false))⟩,
 ⟨(some 76), (.mov (.t 75)), (some (70, false))⟩,
 ⟨(some 77), (.mov (.t 8)), (some (76, true))⟩,
 ⟨(some 78), (.mov (.t 3)), (some (76, true))⟩,
 ⟨(some 79), (.call n_spec_l10Ahead [(.t 77), (.t 78)]), (some (76, true))⟩,
 ⟨(some 80), (.pick (.t 76) (.t 79) (.c (.bool false))), (some (70, false))⟩,
 ⟨(some 81), (.pick (.t 70) (.c (.bool true)) (.t 80)), (some (64, true))⟩,
 ⟨(some 82), (.pick (.t 64) (.t 81) (.c (.bool false))), (some (60, false))⟩,
 ⟨(some 83), (.pick (.t 60) (.c (.bool true)) (.t 82)), none⟩])
 (.keep [1, 3, 4, 5, 7, 8, 11, 83]))
 (.cond (.t 83)
 (.seq
 (.seq (.ops [⟨(some 84), (.mov (.t 11)), none⟩,
 ⟨(some 4), (.mov (.t 84)), none⟩])
 (.keep [1, 4, 5, 7, 8]))
 (.seq (.ops [⟨(some 85), (.mov (.t 8)), none⟩,
 ⟨(some 3), (.mov (.t 85)), none⟩])
 (.keep [1, 3, 4, 5, 7])))
 .skip)))))))
 (.seq (.ops [⟨(some 32), (.mov (.t 7)), none⟩,
 ⟨(some 33), (.bin .add (.t 32) (.c (.int .i64 1))), none⟩,
 ⟨(some 7), (.mov (.t 33)), none⟩])
 (.keep [1, 3, 4, 5, 7])))))))
 (.seq
 (.seq (.ops [⟨(some 86), (.mov (.t 3)), none⟩,
 ⟨(some 2), (.mov (.t 86)), none⟩])
 (.keep [2]))
 .ret)))))))),
 [(.slot 2)]⟩
/-- impl Blocks -/
def F_impl_Blocks : Fun := ⟨1,
 (.seq
 (.seq (.ops [⟨(some 1), (.boxL 2 (.t 0)), none⟩,
 ⟨(some 2), (.mov (.c (.slice none 0 0))), none⟩])
 (.keep [1]))
 (.seq
 (.seq
 (.seq (.ops [⟨(some 9), (.ldB 2 true 1), none⟩,
 ⟨(some 10), (.call n_impl_GraphOk [(.t 9)]), none⟩,
 ⟨(some 11), (.un .not (.t 10)), none⟩])
 (.keep [1, 11]))
 (.cond (.t 11)
 (.seq
 (.seq (.ops [⟨(some 2), (.mov (.c (.slice none 0 0))), none⟩])
 (.keep [2]))
 .ret)
 .skip))
 (.seq
 (.seq (.ops [⟨(some 3), (.mov (.c (.slice none 0 0))), none⟩])
 (.keep [1, 3]))
 (.seq
 (.seq (.ops [⟨(some 4), (.mov (.c (.int .i64 0))), none⟩])
 (.keep [1, 3, 4]))
 (.seq
 (.seq
 (.seq (.ops [⟨(some 12), (.faB 0 1), none⟩,
 ⟨(some 13), (.ldE 1 false 1 12), none⟩,
 ⟨(some 14), (.bin .shl (.c (.int .i64 1)) (.t 13)), none⟩,
 ⟨(some 15), (.mov (.c (.int .i64 0))), none⟩])
 (.keep [1, 3, 4, 14, 15]))
 (.block 0
 (.loop
 (.seq
 (.seq (.ops [⟨(some 16), (.bin .lss (.t 15) (.t 14)), none⟩])
 (.keep [1, 3, 4, 14, 15, 16]))
 (.seq
 (.cond (.t 16)
 .skip
 (.exit 0))
 (.seq
 (.block 1
 (.seq
 (.seq (.ops [⟨(some 17), (.mov (.t 15)), none⟩,
 ⟨(some 5), (.mov (.t 17)), none⟩])
 (.keep [1, 3, 4, 5, 14, 15]))
 (.seq
 (.seq (.ops [⟨(some 6), (.mov (.c (.slice none 0 0))), none⟩])
 (.keep [1, 3, 4, 5, 6, 14, 15]))
 (.seq
 (.seq
 (.seq (.ops [⟨(some 18), (.faB 0 1), none⟩,
 ⟨(some 19), (.ldE 1 false 1 18), none⟩,
 ⟨(some 20), (.mov (.c (.int .i64 0))), none⟩])
 (.keep [1, 3, 4, 5, 6, 14, 15, 19, 20]))
 (.block 2
 (.loop
 (.seq
 (.seq (.ops [⟨(some 21), (.bin .lss (.t 20) (.t 19)), none⟩])
 (.keep [1, 3, 4, 5, 6, 14, 15, 19, 20, 21]))
 (.seq
 (.cond (.t 21)
 .skip
 (.exit 2))
 (.seq
 (.block 3
 (.seq
 (.seq (.ops [⟨(some 22), (.mov (.t 20)), none⟩,
 ⟨(some 7), (.mov (.t 22)), none⟩])
 (.keep [1, 3, 4, 5, 6, 7, 14, 15, 19, 20]))
 (.seq
 (.seq (.ops [⟨(some 23), (.mov (.t 5)), none⟩,
 ⟨(some 24), (.mov (.t 7)), none⟩,
 ⟨(some 25), (.bin .shr (.t 23) (.t 24)), none⟩,
 ⟨(some 26), (.bin .and (.t 25) (.c (.int .i64 1))), none⟩,
 ⟨(some 27), (.bin .eql (.t 26) (.c (.int .i64 1))), none⟩])
 (.keep [1, 3, 4, 5, 6, 7, 14, 15, 19, 20, 27]))
 (.cond (.t 27)
 (.seq (.ops [⟨(some 28), (.mov (.t 6)), none⟩,
 ⟨(some 29), (.mov (.t 7)), none⟩,
 ⟨(some 30), (.litL 1 1 [(.int .i64 0)] [(0, (.t 29))]), none⟩,
 ⟨(some 31), (.appL 1 y_int 8 1 (.t 28) 30), none⟩,
 ⟨(some 6), (.mov (.t 31)), none⟩])
 (.keep [1, 3, 4, 5, 6, 14, 15, 19, 20]))
 .skip))))
 (.seq (.ops [⟨(some 32), (.bin .add (.t 20) (.c (.int .i64 1))), none⟩,
 ⟨(some 20), (.mov (.t 32)), none⟩])
 (.keep [1, 3, 4, 5, 6, 14, 15, 19, 20]))))))))
 (.seq
 (.seq (.ops [⟨(some 33), (.mov (.t 6)), none⟩,
 ⟨(some 34), (.ln (.t 33)), none⟩,
 ⟨(some 35), (.ldB 2 true 1), none⟩,
 ⟨(some 36), (.mov (.t 6)), none⟩,
 ⟨(some 37), (.call n_impl_OddParts [(.t 35), (.t 36)]), none⟩,
 ⟨(some 38), (.bin .sub (.t 34) (.t 37)), none⟩,
 ⟨(some 8), (.mov (.t 38)), none⟩])
 (.keep [1, 3, 4, 5, 6, 8, 14, 15]))
 (.seq
 (.seq (.ops [⟨(some 39), (.mov (.t 5)), none⟩,
 ⟨(some 40), (.bin .eql (.t 39) (.c (.int .i64 0))), none⟩,
 ⟨(some 41), (.mov (.t 40)), none⟩,
 ⟨(some 42), (.mov (.t 8)), (some (41, false))⟩,
 ⟨(some 43), (.mov (.t 4)), (some (41, false))⟩,
 ⟨(some 44), (.bin .lss (.t 42) (.t 43)), (some (41, false))⟩,
 ⟨(some 45), (.pick (.t 41) (.c (.bool true)) (.t 44)), none⟩,
 ⟨(some 46), (.mov (.t 45)), none⟩,
 ⟨(some 47), (.mov (.t 8)), (some (46, false))⟩,
 ⟨(some 48), (.mov (.t 4)), (some (46, false))⟩,
 ⟨(some 49), (.bin .eql (.t 47) (.t 48)), (some (46, false))⟩,
 ⟨(some 50), (.mov (.t 49)), (some (46, false))⟩,
 ⟨(some 51), (.mov (.t 6)), (some (50, true))⟩,
 ⟨(some 52), (.ln (.t 51)), (some (50, true))⟩,
 ⟨(some 53), (.mov (.t 3)), (some (50, true))⟩,
 ⟨(some 54), (.ln (.t 53)), (some (50, true))⟩,
 ⟨(some 55), (.bin .lss (.t 52) (.t 54)), (some (50, true))⟩,
 ⟨(some 56), (.mov (.t 55)), (some (50, true))⟩,
 ⟨(some 57), (.mov (.t 6)), (some (56, false))⟩,
 ⟨(some 58), (.ln (.t 57)), (some (56, false))⟩,
 ⟨(some 59), (.mov (.t 3)), (some (56, false))⟩,
 ⟨(some 60), (.ln (.t 59)), (some (56, false))⟩,
 ⟨(some 61), (.bin .eql (.t 58) (.t 60)), (some (56, false))⟩,
 ⟨(some 62), (.mov (.t 61)), (some (56, false))⟩,
 ⟨(some 63), (.mov (.t 6)), (some (62, true))⟩,
 ⟨(some 64), (.mov (.t 3)), (some (62, true))⟩,
 ⟨(some 65), (.call n_impl_listLess [(.t 63), (.t 64)]), (some (62, true))⟩,
 ⟨(some 66), (.pick (.t 62) (.t 65) (.c (.bool false))), (some (56, false))⟩,
 ⟨(some 67), (.pick (.t 56) (.c (.bool true)) (.t 66)), (some (50, true))⟩,
 ⟨(some 68), (.pick (.t 50) (.t 67) (.c (.bool false))), (some (46, false))⟩,
 ⟨(some 69), (.pick (.t 46) (.c (.bool true)) (.t 68)), none⟩])
 (.keep [1, 3, 4, 6, 8, 14, 15, 69]))
 (.cond (.t 69)
 (.seq (.ops [⟨(some 70), (.mov (.t 6)), none⟩,
 ⟨(some 71), (.mov (.t 8)), none⟩,
 ⟨(some 3), (.mov (.t 70)), none⟩,
 ⟨(some 4), (.mov (.t 71)), none⟩])
 (.keep [1, 3, 4, 14, 15]))
 .skip)))))))
 (.seq (.ops [⟨(some 72), (.bin .add (.t 15) (.c (.int .i64 1))), none⟩,
 ⟨(some 15), (.mov (.t 72)), none⟩])
 (.keep [1, 3, 4, 14, 15]))))))))
 (.seq
 (.seq (.ops [⟨(some 73), (.mov (.t 3)), none⟩,
 ⟨(some 2), (.mov (.t 73)), none⟩])
 (.keep [2]))
 .ret)))))),
 [(.slot 2)]⟩
/-- laws szProof -/
def F_laws_szProof : Fun := ⟨2,
 (.seq
 (.seq (.ops [⟨(some 2), (.boxL 2 (.t 0)), none⟩,
 ⟨(some 4), (.mov (.c (.int .i64 0))), none⟩])
 (.keep [1, 2]))
 (.seq
 (.seq (.ops [⟨(some 5), (.faB 0 2), none⟩,
 ⟨(some 6), (.ldE 1 false 2 5), none⟩,
 ⟨(some 7), (.mov (.t 1)), none⟩,
 ⟨(some 8), (.call n_laws_szIntS [(.t 6), (.t 7)]), none⟩,
 ⟨(some 1), (.mov (.t 8)), none⟩])
 (.keep [1, 2]))
 (.seq
 (.seq
 (.seq (.ops [⟨(some 9), (.mov (.t 1)), none⟩,
 ⟨(some 10), (.bin .lss (.t 9) (.c (.int .i64 0))), none⟩])
 (.keep [1, 2, 10]))
 (.cond (.t 10)
 (.seq
 (.seq (.ops [⟨(some 4), (.mov (.c (.int .i64 (-1)))), none⟩])
 (.keep [4]))
 .ret)
 .skip))
 (.seq
 (.seq (.ops [⟨(some 11), (.faB 1 2), none⟩,
 ⟨(some 12), (.ldE 1 false 2 11), none⟩,
 ⟨(some 13), (.mov (.t 1)), none⟩,
 ⟨(some 14), (.call n_laws_szGroupS [(.t 12), (.t 13)]), none⟩,
 ⟨(some 1), (.mov (.t 14)), none⟩])
 (.keep [1]))
 (.seq
 (.seq
 (.seq (.ops [⟨(some 15), (.mov (.t 1)), none⟩,
 ⟨(some 16), (.bin .lss (.t 15) (.c (.int .i64 0))), none⟩])
 (.keep [1, 16]))
 (.cond (.t 16)
 (.seq
 (.seq (.ops [⟨(some 4), (.mov (.c (.int .i64 (-1)))), none⟩])
 (.keep [4]))
 .ret)
 .skip))
 (.seq
 (.seq (.ops [⟨(some 17), (.mov (.t 1)), none⟩,
 ⟨(some 4), (.mov (.t 17)), none⟩])
 (.keep [4]))
 .ret)))))),
 [(.slot 4)]⟩
/-- spec Bound -/
def F_spec_Bound : Fun := ⟨2,
 (.seq
 (.seq (.ops [⟨(some 2), (.boxL 2 (.t 0)), none⟩,
 ⟨(some 3), (.boxL 2 (.t 1)), none⟩,
 ⟨(some 4), (.mov (.c (.int .i64 0))), none⟩])
 (.keep [2, 3]))
 (.seq
 (.seq
 (.seq (.ops [⟨(some 5), (.ldB 2 true 2), none⟩,
 ⟨(some 6), (.ldB 2 true 3), none⟩,
 ⟨(some 7), (.call n_spec_ProofOk [(.t 5), (.t 6)]), none⟩,
 ⟨(some 8), (.un .not (.t 7)), none⟩])
 (.keep [3, 8]))
 (.cond (.t 8)
 (.seq
 (.seq (.ops [⟨(some 4), (.mov (.c (.int .i64 0))), none⟩])
 (.keep [4]))
 .ret)
 .skip))
 (.seq
 (.seq (.ops [⟨(some 9), (.ldB 2 true 3), none⟩,
 ⟨(some 10), (.call n_spec_l11Sum [(.t 9)]), none⟩,
 ⟨(some 11), (.bin .quo (.t 10) (.c (.int .i64 2))), none⟩,
 ⟨(some 4), (.mov (.t 11)), none⟩])
 (.keep [4]))
 .ret))),
 [(.slot 4)]⟩
/-- laws toProof -/
def F_laws_toProof : Fun := ⟨1,
 (.seq
 (.seq (.ops [⟨(some 1), (.boxL 2 (.t 0)), none⟩,
 ⟨(some 2), (.newL [(.slice none 0 0), (.slice none 0 0)]), none⟩])
 (.keep [1, 2]))
 (.seq
 (.seq (.ops [⟨(some 3), (.newL [(.slice none 0 0), (.slice none 0 0)]), none⟩])
 (.keep [1, 2, 3]))
 (.seq
 (.seq (.ops [⟨(some 4), (.faB 0 1), none⟩,
 ⟨(some 5), (.ldE 1 false 1 4), none⟩,
 ⟨(some 6), (.call n_laws_toIntS [(.t 5)]), none⟩,
 ⟨(some 7), (.faB 0 3), none⟩,
 ⟨none, (.stE 1 3 7 (.t 6)), none⟩])
 (.keep [1, 2, 3]))
 (.seq
 (.seq (.ops [⟨(some 8), (.faB 1 1), none⟩,
 ⟨(some 9), (.ldE 1 false 1 8), none⟩,
 ⟨(some 10), (.call n_laws_toGroupS [(.t 9)]), none⟩,
 ⟨(some 11), (.faB 1 3), none⟩,
 ⟨none, (.stE 1 3 11 (.t 10)), none⟩])
 (.keep [2, 3]))
 (.seq
 (.seq (.ops [⟨(some 12), (.ldB 2 true 3), none⟩,
 ⟨none, (.stB 2 2 (.t 12)), none⟩])
 (.keep [2]))
 .ret))))),
 [(.box 2 2 true)]⟩
/-- impl Bound -/
def F_impl_Bound : Fun := ⟨2,
 (.seq
 (.seq (.ops [⟨(some 2), (.boxL 2 (.t 0)), none⟩,
 ⟨(some 3), (.boxL 2 (.t 1)), none⟩,
 ⟨(some 4), (.mov (.c (.int .i64 0))), none⟩])
 (.keep [2, 3]))
 (.seq
 (.seq
 (.seq (.ops [⟨(some 5), (.ldB 2 true 2), none⟩,
 ⟨(some 6), (.ldB 2 true 3), none⟩,
 ⟨(some 7), (.call n_impl_ProofOk [(.t 5), (.t 6)]), none⟩,
 ⟨(some 8), (.un .not (.t 7)), none⟩])
 (.keep [3, 8]))
 (.cond (.t 8)
 (.seq
 (.seq (.ops [⟨(some 4), (.mov (.c (.int .i64 0))), none⟩])
 (.keep [4]))
 .ret)
 .skip))
 (.seq
 (.seq (.ops [⟨(some 9), (.ldB 2 true 3), none⟩,
 ⟨(some 10), (.call n_impl_weight [(.t 9)]), none⟩,
 ⟨(some 11), (.bin .quo (.t 10) (.c (.int .i64 2))), none⟩,
 ⟨(some 4), (.mov (.t 11)), none⟩])
 (.keep [4]))
 .ret))),
 [(.slot 4)]⟩
/-- laws eqProof -/
def F_laws_eqProof : Fun := ⟨2,
 (.seq
 (.seq (.ops [⟨(some 2), (.boxL 2 (.t 0)), none⟩,
 ⟨(some 3), (.boxL 2 (.t 1)), none⟩,
 ⟨(some 4), (.mov (.c (.bool false))), none⟩])
 (.keep [2, 3]))
 (.seq
 (.seq
 (.seq (.ops [⟨(some 5), (.faB 0 2), none⟩,
 ⟨(some 6), (.ldE 1 false 2 5), none⟩,
 ⟨(some 7), (.faB 0 3), none⟩,
 ⟨(some 8), (.ldE 1 false 3 7), none⟩,
 ⟨(some 9), (.call n_laws_eqIntS [(.t 6), (.t 8)]), none⟩,
 ⟨(some 10), (.un .not (.t 9)), none⟩])
 (.keep [2, 3, 10]))
 (.cond (.t 10)
 (.seq
 (.seq (.ops [⟨(some 4), (.mov (.c (.bool false))), none⟩])
 (.keep [4]))
 .ret)
 .skip))
 (.seq
 (.seq
 (.seq (.ops [⟨(some 11), (.faB 1 2), none⟩,
 ⟨(some 12), (.ldE 1 false 2 11), none⟩,
 ⟨(some 13), (.faB 1 3), none⟩,
 ⟨(some 14), (.ldE 1 false 3 13), none⟩,
 ⟨(some 15), (.call n_laws_eqGroupS [(.t 12), (.t 14)]), none⟩,
 ⟨(some 16), (.un .not (.t 15)), none⟩])
 (.keep [16]))
 (.cond (.t 16)
 (.seq
 (.seq (.ops [⟨(some 4), (.mov (.c (.bool false))), none⟩])
 (.keep [4]))
 .ret)
 .skip))
 (.seq
 (.seq (.ops [⟨(some 4), (.mov (.c (.bool true))), none⟩])
 (.keep [4]))
 .ret)))),
 [(.slot 4)]⟩
/-- spec Swapped -/
def F_spec_Swapped : Fun := ⟨3,
 (.seq
 (.seq (.ops [⟨(some 3), (.boxL 2 (.t 0)), none⟩,
 ⟨(some 6), (.mov (.c (.slice none 0 0))), none⟩])
 (.keep [1, 2, 3]))
 (.seq
 (.seq (.ops [⟨(some 13), (.lit 0 1 y_ints [(.slice none 0 0)] []), none⟩,
 ⟨(some 7), (.mov (.t 13)), none⟩])
 (.keep [1, 2, 3, 7]))
 (.seq
 (.seq
 (.seq (.ops [⟨(some 14), (.ldB 2 true 3), none⟩,
 ⟨(some 15), (.mov (.t 1)), none⟩,
 ⟨(some 16), (.call n_spec_MatchOk [(.t 14), (.t 15)]), none⟩,
 ⟨(some 17), (.un .not (.t 16)), none⟩,
 ⟨(some 18), (.mov (.t 17)), none⟩,
 ⟨(some 19), (.ldB 2 true 3), (some (18, false))⟩,
 ⟨(some 20), (.mov (.t 2)), (some (18, false))⟩,
 ⟨(some 21), (.call n_spec_MatchOk [(.t 19), (.t 20)]), (some (18, false))⟩,
 ⟨(some 22), (.un .not (.t 21)), (some (18, false))⟩,
 ⟨(some 23), (.pick (.t 18) (.c (.bool true)) (.t 22)), none⟩])
 (.keep [1, 2, 3, 7, 23]))
 (.cond (.t 23)
 (.seq
 (.seq (.ops [⟨(some 24), (.mov (.t 7)), none⟩,
 ⟨(some 6), (.mov (.t 24)), none⟩])
 (.keep [6]))
 .ret)
 .skip))
 (.seq
 (.seq (.ops [⟨(some 25), (.faB 0 3), none⟩,
 ⟨(some 26), (.ldE 1 false 3 25), none⟩,
 ⟨(some 27), (.bld [(.int .i64 0), (.slice none 0 0)] [(0, (1, (.t 26)))]), none⟩,
 ⟨(some 8), (.newL [(.int .i64 0), (.slice none 0 0)]), none⟩,
 ⟨none, (.stB 2 8 (.t 27)), none⟩])
 (.keep [1, 2, 3, 7, 8]))
 (.seq
 (.seq
 (.seq (.ops [⟨(some 9), (.mov (.c (.int .i64 0))), none⟩])
 (.keep [1, 2, 3, 7, 8, 9]))
 (.block 0
 (.loop
 (.seq
 (.seq
 (.seq (.ops [⟨(some 28), (.mov (.t 9)), none⟩,
 ⟨(some 29), (.faB 1 3), none⟩,
 ⟨(some 30), (.ldE 1 false 3 29), none⟩,
 ⟨(some 31), (.ln (.t 30)), none⟩,
 ⟨(some 32), (.bin .lss (.t 28) (.t 31)), none⟩])
 (.keep [1, 2, 3, 7, 8, 9, 32]))
 (.cond (.t 32)
 .skip
 (.exit 0)))
 (.seq
 (.block 1
 (.seq
 (.seq (.free true [⟨(some 35), (.faB 1 3), none⟩,
 ⟨(some 36), (.ldE 1 false 3 35), none⟩,
 ⟨(some 37), (.mov (.t 9)), none⟩,
 ⟨(some 38), (.ia 5 (.t 36) (.t 37)), none⟩,
 ⟨(some 39), (.fa 0 (.t 38)), none⟩,
 ⟨(some 40), (.ld 1 false (.t 39)), none⟩,
 ⟨(some 41), (.faB 1 3), none⟩,
 ⟨(some 42), (.ldE 1 false 3 41), none⟩,
 ⟨(some 43), (.mov (.t 9)), none⟩,
 ⟨(some 44), (.ia 5 (.t 42) (.t 43)), none⟩,
 ⟨(some 45), (.fa 1 (.t 44)), none⟩,
 ⟨(some 46), (.ld 1 false (.t 45)), none⟩,
 ⟨(some 47), (.bld [(.int .i64 0), (.int .i64 0)] [(0, (1, (.t 40))), (1, (1, (.t 46)))]), none⟩,
 ⟨(some 10), (.newL [(.int .i64 0), (.int .i64 0)]), none⟩,
 ⟨none, (.stB 2 10 (.t 47)), none⟩])
 (.keep [1, 2, 3, 7, 8, 9, 10]))
 (.seq
 (.seq (.free true [⟨(some 48), (.mov (.t 1)), none⟩,
 ⟨(some 49), (.ldB 2 true 10), none⟩,
 ⟨(some 50), (.call n_spec_l17Has [(.t 48), (.t 49)]), none⟩,
 ⟨(some 51), (.mov (.t 2)), none⟩,
 ⟨(some 52), (.ldB 2 true 10), none⟩,
 ⟨(some 53), (.call n_spec_l17Has [(.t 51), (.t 52)]), none⟩,
 ⟨(some 54), (.binB .neq (.t 50) (.t 53)), none⟩])
 (.keep [1, 2, 3, 7, 8, 9, 54]))
 (.cond (.t 54)
 (.seq (.free true [⟨(some 55), (.faB 1 8), none⟩,
 ⟨(some 56), (.ldE 1 false 8 55), none⟩,
 ⟨(some 57), (.faB 1 3), none⟩,
 ⟨(some 58), (.ldE 1 false 3 57), none⟩,
 ⟨(some 59), (.mov (.t 9)), none⟩,
 ⟨(some 60), (.ia 5 (.t 58) (.t 59)), none⟩,
 ⟨(some 61), (.ld 5 true (.t 60)), none⟩,
 ⟨(some 62), (.litL 1 5 [(.int .i64 0), (.int .i64 0), (.int .i64 0), (.int .i64 0), (.int .i64 0)] [(0, (.t 61))]), none⟩,
 ⟨(some 63), (.appL 5 y_Edge 40 1 (.t 56) 62), none⟩,
 ⟨(some 64), (.faB 1 8), none⟩,
 ⟨none, (.stE 1 8 64 (.t 63)), none⟩])
 (.keep [1, 2, 3, 7, 8, 9]))
 .skip))))
 (.seq (.ops [⟨(some 33), (.mov (.t 9)), none⟩,
 ⟨(some 34), (.bin .add (.t 33) (.c (.int .i64 1))), none⟩,
 ⟨(some 9), (.mov (.t 34)), none⟩])
 (.keep [1, 2, 3, 7, 8, 9])))))))
 (.seq
 (.seq (.ops [⟨(some 65), (.ldB 2 true 8), none⟩,
 ⟨(some 66), (.lit 0 1 y_int [(.int .i64 0)] []), none⟩,
 ⟨(some 67), (.call n_spec_l17Parts [(.t 65), (.t 66)]), none⟩,
 ⟨(some 11), (.mov (.t 67)), none⟩])
 (.keep [7, 11]))
 (.seq
 (.seq
 (.seq (.ops [⟨(some 12), (.mov (.c (.int .i64 0))), none⟩])
 (.keep [7, 11, 12]))
 (.block 2
 (.loop
 (.seq
 (.seq
 (.seq (.ops [⟨(some 68), (.mov (.t 12)), none⟩,
 ⟨(some 69), (.mov (.t 11)), none⟩,
 ⟨(some 70), (.ln (.t 69)), none⟩,
 ⟨(some 71), (.bin .lss (.t 68) (.t 70)), none⟩])
 (.keep [7, 11, 12, 71]))
 (.cond (.t 71)
 .skip
 (.exit 2)))
 (.seq
 (.block 3
 (.seq
 (.seq (.ops [⟨(some 74), (.mov (.t 11)), none⟩,
 ⟨(some 75), (.mov (.t 12)), none⟩,
 ⟨(some 76), (.ia 1 (.t 74) (.t 75)), none⟩,
 ⟨(some 77), (.ld 1 false (.t 76)), none⟩,
 ⟨(some 78), (.ln (.t 77)), none⟩,
 ⟨(some 79), (.bin .gtr (.t 78) (.c (.int .i64 1))), none⟩])
 (.keep [7, 11, 12, 79]))
 (.cond (.t 79)
 (.seq (.ops [⟨(some 80), (.mov (.t 7)), none⟩,
 ⟨(some 81), (.mov (.t 11)), none⟩,
 ⟨(some 82), (.mov (.t 12)), none⟩,
 ⟨(some 83), (.ia 1 (.t 81) (.t 82)), none⟩,
 ⟨(some 84), (.ld 1 false (.t 83)), none⟩,
 ⟨(some 85), (.litL 1 1 [(.slice none 0 0)] [(0, (.t 84))]), none⟩,
 ⟨(some 86), (.appL 1 y_ints 24 1 (.t 80) 85), none⟩,
 ⟨(some 7), (.mov (.t 86)), none⟩])
 (.keep [7, 11, 12]))
 .skip)))
 (.seq (.ops [⟨(some 72), (.mov (.t 12)), none⟩,
 ⟨(some 73), (.bin .add (.t 72) (.c (.int .i64 1))), none⟩,
 ⟨(some 12), (.mov (.t 73)), none⟩])
 (.keep [7, 11, 12])))))))
 (.seq
 (.seq (.ops [⟨(some 87), (.mov (.t 7)), none⟩,
 ⟨(some 6), (.mov (.t 87)), none⟩])
 (.keep [6]))
 .ret)))))))),
 [(.slot 6)]⟩
/-- impl Swapped -/
def F_impl_Swapped : Fun := ⟨3,
 (.seq
 (.seq (.ops [⟨(some 3), (.boxL 2 (.t 0)), none⟩,
 ⟨(some 6), (.mov (.c (.slice none 0 0))), none⟩])
 (.keep [1, 2, 3]))
 (.seq
 (.seq
 (.seq (.ops [⟨(some 14), (.ldB 2 true 3), none⟩,
 ⟨(some 15), (.mov (.t 1)), none⟩,
 ⟨(some 16), (.call n_impl_MatchOk [(.t 14), (.t 15)]), none⟩,
 ⟨(some 17), (.un .not (.t 16)), none⟩,
 ⟨(some 18), (.mov (.t 17)), none⟩,
 ⟨(some 19), (.ldB 2 true 3), (some (18, false))⟩,
 ⟨(some 20), (.mov (.t 2)), (some (18, false))⟩,
 ⟨(some 21), (.call n_impl_MatchOk [(.t 19), (.t 20)]), (some (18, false))⟩,
 ⟨(some 22), (.un .not (.t 21)), (some (18, false))⟩,
 ⟨(some 23), (.pick (.t 18) (.c (.bool true)) (.t 22)), none⟩])
 (.keep [1, 2, 3, 23]))
 (.cond (.t 23)
 (.seq
 (.seq (.ops [⟨(some 6), (.mov (.c (.slice none 0 0))), none⟩])
 (.keep [6]))
 .ret)
 .skip))
 (.seq
 (.seq (.ops [⟨(some 7), (.mov (.c (.slice none 0 0))), none⟩])
 (.keep [1, 2, 3, 7]))
 (.seq
 (.seq
 (.seq (.ops [⟨(some 24), (.faB 1 3), none⟩,
 ⟨(some 25), (.ldE 1 false 3 24), none⟩,
 ⟨(some 26), (.ln (.t 25)), none⟩,
 ⟨(some 27), (.mov (.c (.int .i64 0))), none⟩])
 (.keep [1, 2, 3, 7, 25, 26, 27]))
 (.block 0
 (.loop
 (.seq
 (.seq (.ops [⟨(some 28), (.bin .lss (.t 27) (.t 26)), none⟩])
 (.keep [1, 2, 3, 7, 25, 26, 27, 28]))
 (.seq
 (.cond (.t 28)
 .skip
 (.exit 0))
 (.seq
 (.block 1
 (.seq
 (.seq (.ops [⟨(some 29), (.ia 5 (.t 25) (.t 27)), none⟩,
 ⟨(some 30), (.ld 5 true (.t 29)), none⟩,
 ⟨(some 9), (.newL [(.int .i64 0), (.int .i64 0), (.int .i64 0), (.int .i64 0), (.int .i64 0)]), none⟩,
 ⟨none, (.stB 5 9 (.t 30)), none⟩])
 (.keep [1, 2, 3, 7, 9, 25, 26, 27]))
 (.seq
 (.seq (.ops [⟨(some 31), (.faB 0 9), none⟩,
 ⟨(some 32), (.ldE 1 false 9 31), none⟩,
 ⟨(some 33), (.faB 1 9), none⟩,
 ⟨(some 34), (.ldE 1 false 9 33), none⟩,
 ⟨(some 35), (.bld [(.int .i64 0), (.int .i64 0)] [(0, (1, (.t 32))), (1, (1, (.t 34)))]), none⟩,
 ⟨(some 10), (.newL [(.int .i64 0), (.int .i64 0)]), none⟩,
 ⟨none, (.stB 2 10 (.t 35)), none⟩])
 (.keep [1, 2, 3, 7, 9, 10, 25, 26, 27]))
 (.seq
 (.seq (.free true [⟨(some 36), (.mov (.t 1)), none⟩,
 ⟨(some 37), (.ldB 2 true 10), none⟩,
 ⟨(some 38), (.call n_impl_hasCouple [(.t 36), (.t 37)]), none⟩,
 ⟨(some 39), (.mov (.t 2)), none⟩,
 ⟨(some 40), (.ldB 2 true 10), none⟩,
 ⟨(some 41), (.call n_impl_hasCouple [(.t 39), (.t 40)]), none⟩,
 ⟨(some 42), (.binB .neq (.t 38) (.t 41)), none⟩])
 (.keep [1, 2, 3, 7, 9, 25, 26, 27, 42]))
 (.cond (.t 42)
 (.seq (.ops [⟨(some 43), (.mov (.t 7)), none⟩,
 ⟨(some 44), (.ldB 5 true 9), none⟩,
 ⟨(some 45), (.litL 1 5 [(.int .i64 0), (.int .i64 0), (.int .i64 0), (.int .i64 0), (.int .i64 0)] [(0, (.t 44))]), none⟩,
 ⟨(some 46), (.appL 5 y_Edge 40 1 (.t 43) 45), none⟩,
 ⟨(some 7), (.mov (.t 46)), none⟩])
 (.keep [1, 2, 3, 7, 25, 26, 27]))
 .skip)))))
 (.seq (.ops [⟨(some 47), (.bin .add (.t 27) (.c (.int .i64 1))), none⟩,
 ⟨(some 27), (.mov (.t 47)), none⟩])
 (.keep [1, 2, 3, 7, 25, 26, 27]))))))))
 (.seq
 (.seq (.ops [⟨(some 11), (.mov (.c (.slice none 0 0))), none⟩])
 (.keep [3, 7, 11]))
 (.seq
 (.seq
 (.seq (.ops [⟨(some 48), (.faB 0 3), none⟩,
 ⟨(some 49), (.ldE 1 false 3 48), none⟩,
 ⟨(some 50), (.mov (.t 7)), none⟩,
 ⟨(some 51), (.call n_impl_pieces [(.t 49), (.t 50), (.c (.slice none 0 0))]), none⟩,
 ⟨(some 52), (.ln (.t 51)), none⟩,
 ⟨(some 53), (.mov (.c (.int .i64 0))), none⟩])
 (.keep [11, 51, 52, 53]))
 (.block 2
 (.loop
 (.seq
 (.seq (.ops [⟨(some 54), (.bin .lss (.t 53) (.t 52)), none⟩])
 (.keep [11, 51, 52, 53, 54]))
 (.seq
 (.cond (.t 54)
 .skip
 (.exit 2))
 (.seq
 (.block 3
 (.seq
 (.seq (.ops [⟨(some 55), (.ia 1 (.t 51) (.t 53)), none⟩,
 ⟨(some 56), (.ld 1 false (.t 55)), none⟩,
 ⟨(some 13), (.mov (.t 56)), none⟩])
 (.keep [11, 13, 51, 52, 53]))
 (.seq
 (.seq (.ops [⟨(some 57), (.mov (.t 13)), none⟩,
 ⟨(some 58), (.ln (.t 57)), none⟩,
 ⟨(some 59), (.bin .gtr (.t 58) (.c (.int .i64 1))), none⟩])
 (.keep [11, 13, 51, 52, 53, 59]))
 (.cond (.t 59)
 (.seq (.ops [⟨(some 60), (.mov (.t 11)), none⟩,
 ⟨(some 61), (.mov (.t 13)), none⟩,
 ⟨(some 62), (.litL 1 1 [(.slice none 0 0)] [(0, (.t 61))]), none⟩,
 ⟨(some 63), (.appL 1 y_ints 24 1 (.t 60) 62), none⟩,
 ⟨(some 11), (.mov (.t 63)), none⟩])
 (.keep [11, 51, 52, 53]))
 .skip))))
 (.seq (.ops [⟨(some 64), (.bin .add (.t 53) (.c (.int .i64 1))), none⟩,
 ⟨(some 53), (.mov (.t 64)), none⟩])
 (.keep [11, 51, 52, 53]))))))))
 (.seq
 (.seq (.ops [⟨(some 65), (.mov (.t 11)), none⟩,
 ⟨(some 6), (.mov (.t 65)), none⟩])
 (.keep [6]))
 .ret))))))),
 [(.slot 6)]⟩
/-- spec Certifies -/
def F_spec_Certifies : Fun := ⟨3,
 (.seq
 (.seq (.ops [⟨(some 3), (.boxL 2 (.t 0)), none⟩,
 ⟨(some 5), (.boxL 2 (.t 2)), none⟩,
 ⟨(some 6), (.mov (.c (.bool false))), none⟩])
 (.keep [1, 3, 5]))
 (.seq
 (.seq (.free true [⟨(some 7), (.ldB 2 true 3), none⟩,
 ⟨(some 8), (.ldB 2 true 5), none⟩,
 ⟨(some 9), (.call n_spec_ProofOk [(.t 7), (.t 8)]), none⟩,
 ⟨(some 10), (.mov (.t 9)), none⟩,
 ⟨(some 11), (.ldB 2 true 3), (some (10, true))⟩,
 ⟨(some 12), (.mov (.t 1)), (some (10, true))⟩,
 ⟨(some 13), (.call n_spec_MatchOk [(.t 11), (.t 12)]), (some (10, true))⟩,
 ⟨(some 14), (.pick (.t 10) (.t 13) (.c (.bool false))), none⟩,
 ⟨(some 15), (.mov (.t 14)), none⟩,
 ⟨(some 16), (.ldB 2 true 3), (some (15, true))⟩,
 ⟨(some 17), (.mov (.t 1)), (some (15, true))⟩,
 ⟨(some 18), (.call n_spec_l11Worth [(.t 16), (.t 17)]), (some (15, true))⟩,
 ⟨(some 19), (.bin .mul (.c (.int .i64 2)) (.t 18)), (some (15, true))⟩,
 ⟨(some 20), (.ldB 2 true 5), (some (15, true))⟩,
 ⟨(some 21), (.call n_spec_l11Sum [(.t 20)]), (some (15, true))⟩,
 ⟨(some 22), (.bin .eql (.t 19) (.t 21)), (some (15, true))⟩,
 ⟨(some 23), (.pick (.t 15) (.t 22) (.c (.bool false))), none⟩,
 ⟨(some 6), (.mov (.t 23)), none⟩])
 (.keep [6]))
 .ret)),
 [(.slot 6)]⟩
/-- impl Certifies -/
def F_impl_Certifies : Fun := ⟨3,
 (.seq
 (.seq (.ops [⟨(some 3), (.boxL 2 (.t 0)), none⟩,
 ⟨(some 5), (.boxL 2 (.t 2)), none⟩,
 ⟨(some 6), (.mov (.c (.bool false))), none⟩])
 (.keep [1, 3, 5]))
 (.seq
 (.seq
 (.seq (.ops [⟨(some 10), (.ldB 2 true 3), none⟩,
 ⟨(some 11), (.ldB 2 true 5), none⟩,
 ⟨(some 12), (.call n_impl_ProofOk [(.t 10), (.t 11)]), none⟩,
 ⟨(some 13), (.un .not (.t 12)), none⟩,
 ⟨(some 14), (.mov (.t 13)), none⟩,
 ⟨(some 15), (.ldB 2 true 3), (some (14, false))⟩,
 ⟨(some 16), (.mov (.t 1)), (some (14, false))⟩,
 ⟨(some 17), (.call n_impl_MatchOk [(.t 15), (.t 16)]), (some (14, false))⟩,
 ⟨(some 18), (.un .not (.t 17)), (some (14, false))⟩,
 ⟨(some 19), (.pick (.t 14) (.c (.bool true)) (.t 18)), none⟩])
 (.keep [1, 3, 5, 19]))
 (.cond (.t 19)
 (.seq
 (.seq (.ops [⟨(some 6), (.mov (.c (.bool false))), none⟩])
 (.keep [6]))
 .ret)
 .skip))
 (.seq
 (.seq (.ops [⟨(some 7), (.mov (.c (.int .i64 0))), none⟩])
 (.keep [1, 3, 5, 7]))
 (.seq
 (.seq
 (.seq (.ops [⟨(some 20), (.mov (.t 1)), none⟩,
 ⟨(some 21), (.ln (.t 20)), none⟩,
 ⟨(some 22), (.mov (.c (.int .i64 0))), none⟩])
 (.keep [3, 5, 7, 20, 21, 22]))
 (.block 0
 (.loop
 (.seq
 (.seq (.ops [⟨(some 23), (.bin .lss (.t 22) (.t 21)), none⟩])
 (.keep [3, 5, 7, 20, 21, 22, 23]))
 (.seq
 (.cond (.t 23)
 .skip
 (.exit 0))
 (.seq
 (.block 1
 (.seq
 (.seq (.ops [⟨(some 24), (.ia 2 (.t 20) (.t 22)), none⟩,
 ⟨(some 25), (.ld 2 true (.t 24)), none⟩,
 ⟨(some 9), (.newL [(.int .i64 0), (.int .i64 0)]), none⟩,
 ⟨none, (.stB 2 9 (.t 25)), none⟩])
 (.keep [3, 5, 7, 9, 20, 21, 22]))
 (.seq (.free false [⟨(some 26), (.mov (.t 7)), none⟩,
 ⟨(some 27), (.faB 1 3), none⟩,
 ⟨(some 28), (.ldE 1 false 3 27), none⟩,
 ⟨(some 29), (.ldB 2 true 3), none⟩,
 ⟨(some 30), (.faB 0 9), none⟩,
 ⟨(some 31), (.ldE 1 false 9 30), none⟩,
 ⟨(some 32), (.faB 1 9), none⟩,
 ⟨(some 33), (.ldE 1 false 9 32), none⟩,
 ⟨(some 34), (.call n_impl_edgeAt [(.t 29), (.t 31), (.t 33)]), none⟩,
 ⟨(some 35), (.ia 5 (.t 28) (.t 34)), none⟩,
 ⟨(some 36), (.ld 5 true (.t 35)), none⟩,
 ⟨(some 37), (.call n_impl_Scalar [(.t 36)]), none⟩,
 ⟨(some 38), (.bin .add (.t 26) (.t 37)), none⟩,
 ⟨(some 7), (.mov (.t 38)), none⟩])
 (.keep [3, 5, 7, 20, 21, 22]))))
 (.seq (.ops [⟨(some 39), (.bin .add (.t 22) (.c (.int .i64 1))), none⟩,
 ⟨(some 22), (.mov (.t 39)), none⟩])
 (.keep [3, 5, 7, 20, 21, 22]))))))))
 (.seq
 (.seq (.ops [⟨(some 40), (.mov (.t 7)), none⟩,
 ⟨(some 41), (.bin .mul (.c (.int .i64 2)) (.t 40)), none⟩,
 ⟨(some 42), (.ldB 2 true 5), none⟩,
 ⟨(some 43), (.call n_impl_weight [(.t 42)]), none⟩,
 ⟨(some 44), (.bin .eql (.t 41) (.t 43)), none⟩,
 ⟨(some 6), (.mov (.t 44)), none⟩])
 (.keep [6]))
 .ret))))),
 [(.slot 6)]⟩
/-- laws markText -/
def F_laws_markText : Fun := ⟨1,
 (.seq
 (.seq (.ops [⟨(some 2), (.mov (.c (.string ⟨⟨[]⟩⟩))), none⟩])
 (.keep [0]))
 (.seq
 (.seq
 (.seq (.ops [⟨(some 4), (.mov (.t 0)), none⟩,
 ⟨(some 5), (.bin .leq (.t 4) (.c (.int .i64 0))), none⟩])
 (.keep [0, 5]))
 (.cond (.t 5)
 (.seq
 (.seq (.ops [⟨(some 2), (.mov (.c (.string ⟨⟨[109, 48]⟩⟩))), none⟩])
 (.keep [2]))
 .ret)
 .skip))
 (.seq
 (.seq (.ops [⟨(some 3), (.mov (.c (.string ⟨⟨[]⟩⟩))), none⟩])
 (.keep [0, 3]))
 (.seq
 (.block 0
 (.loop
 (.seq
 (.seq
 (.seq (.ops [⟨(some 6), (.mov (.t 0)), none⟩,
 ⟨(some 7), (.bin .gtr (.t 6) (.c (.int .i64 0))), none⟩])
 (.keep [0, 3, 7]))
 (.cond (.t 7)
 .skip
 (.exit 0)))
 (.block 1
 (.seq
 (.seq (.ops [⟨(some 8), (.mov (.t 0)), none⟩,
 ⟨(some 9), (.bin .rem (.t 8) (.c (.int .i64 10))), none⟩,
 ⟨(some 10), (.bin .add (.c (.int .i64 48)) (.t 9)), none⟩,
 ⟨(some 11), (.conv .u8 (.t 10)), none⟩,
 ⟨(some 12), (.litL 1 1 [(.int .u8 0)] [(0, (.t 11))]), none⟩,
 ⟨(some 13), (.strL 1 12), none⟩,
 ⟨(some 14), (.mov (.t 3)), none⟩,
 ⟨(some 15), (.bin .add (.t 13) (.t 14)), none⟩,
 ⟨(some 3), (.mov (.t 15)), none⟩])
 (.keep [0, 3]))
 (.seq (.ops [⟨(some 16), (.mov (.t 0)), none⟩,
 ⟨(some 17), (.bin .quo (.t 16) (.c (.int .i64 10))), none⟩,
 ⟨(some 0), (.mov (.t 17)), none⟩])
 (.keep [0, 3])))))))
 (.seq
 (.seq (.ops [⟨(some 18), (.mov (.t 3)), none⟩,
 ⟨(some 19), (.bin .add (.c (.string ⟨⟨[109]⟩⟩)) (.t 18)), none⟩,
 ⟨(some 2), (.mov (.t 19)), none⟩])
 (.keep [2]))
 .ret))))),
 [(.slot 2)]⟩
/-- laws szIntS -/
def F_laws_szIntS : Fun := ⟨2,
 (.seq
 (.seq (.ops [⟨(some 4), (.mov (.c (.int .i64 0))), none⟩])
 (.keep [0, 1]))
 (.seq
 (.seq (.ops [⟨(some 5), (.mov (.t 1)), none⟩,
 ⟨(some 6), (.mov (.t 0)), none⟩,
 ⟨(some 7), (.ln (.t 6)), none⟩,
 ⟨(some 8), (.bin .sub (.t 5) (.t 7)), none⟩,
 ⟨(some 1), (.mov (.t 8)), none⟩])
 (.keep [1]))
 (.seq
 (.seq
 (.seq (.ops [⟨(some 9), (.mov (.t 1)), none⟩,
 ⟨(some 10), (.bin .lss (.t 9) (.c (.int .i64 0))), none⟩])
 (.keep [1, 10]))
 (.cond (.t 10)
 (.seq
 (.seq (.ops [⟨(some 4), (.mov (.c (.int .i64 (-1)))), none⟩])
 (.keep [4]))
 .ret)
 .skip))
 (.seq
 (.seq (.ops [⟨(some 11), (.mov (.t 1)), none⟩,
 ⟨(some 4), (.mov (.t 11)), none⟩])
 (.keep [4]))
 .ret)))),
 [(.slot 4)]⟩
/-- spec l01In -/
def F_spec_l01In : Fun := ⟨3,
 (.seq
 (.seq (.ops [⟨(some 6), (.mov (.c (.bool false))), none⟩])
 (.keep [0, 1, 2]))
 (.seq
 (.seq (.ops [⟨(some 7), (.mov (.t 0)), none⟩,
 ⟨(some 8), (.mov (.t 1)), none⟩,
 ⟨(some 9), (.bin .geq (.t 7) (.t 8)), none⟩,
 ⟨(some 10), (.mov (.t 9)), none⟩,
 ⟨(some 11), (.mov (.t 0)), (some (10, true))⟩,
 ⟨(some 12), (.mov (.t 2)), (some (10, true))⟩,
 ⟨(some 13), (.bin .leq (.t 11) (.t 12)), (some (10, true))⟩,
 ⟨(some 14), (.pick (.t 10) (.t 13) (.c (.bool false))), none⟩,
 ⟨(some 6), (.mov (.t 14)), none⟩])
 (.keep [6]))
 .ret)),
 [(.slot 6)]⟩
/-- impl in -/
def F_impl_in : Fun := ⟨3,
 (.seq
 (.seq (.ops [⟨(some 6), (.mov (.c (.bool false))), none⟩])
 (.keep [0, 1, 2]))
 (.seq
 (.seq (.ops [⟨(some 7), (.mov (.t 0)), none⟩,
 ⟨(some 8), (.mov (.t 1)), none⟩,
 ⟨(some 9), (.bin .geq (.t 7) (.t 8)), none⟩,
 ⟨(some 10), (.mov (.t 9)), none⟩,
 ⟨(some 11), (.mov (.t 0)), (some (10, true))⟩,
 ⟨(some 12), (.mov (.t 2)), (some (10, true))⟩,
 ⟨(some 13), (.bin .leq (.t 11) (.t 12)), (some (10, true))⟩,
 ⟨(some 14), (.pick (.t 10) (.t 13) (.c (.bool false))), none⟩,
 ⟨(some 6), (.mov (.t 14)), none⟩])
 (.keep [6]))
 .ret)),
 [(.slot 6)]⟩
/-- spec l14List -/
def F_spec_l14List : Fun := ⟨1,
 (.seq
 (.seq (.ops [⟨(some 1), (.boxL 6 (.t 0)), none⟩,
 ⟨(some 2), (.mov (.c (.slice none 0 0))), none⟩])
 (.keep [1]))
 (.seq
 (.seq (.ops [⟨(some 3), (.faB 1 1), none⟩,
 ⟨(some 4), (.ldE 1 false 1 3), none⟩,
 ⟨(some 5), (.faB 2 1), none⟩,
 ⟨(some 6), (.ldE 1 false 1 5), none⟩,
 ⟨(some 7), (.faB 3 1), none⟩,
 ⟨(some 8), (.ldE 1 false 1 7), none⟩,
 ⟨(some 9), (.faB 4 1), none⟩,
 ⟨(some 10), (.ldE 1 false 1 9), none⟩,
 ⟨(some 11), (.faB 5 1), none⟩,
 ⟨(some 12), (.ldE 1 false 1 11), none⟩,
 ⟨(some 13), (.lit 5 1 y_int [(.int .i64 0)] [(0, (.t 4)), (1, (.t 6)), (2, (.t 8)), (3, (.t 10)), (4, (.t 12))]), none⟩,
 ⟨(some 2), (.mov (.t 13)), none⟩])
 (.keep [2]))
 .ret)),
 [(.slot 2)]⟩
/-- spec l14Numbers -/
def F_spec_l14Numbers : Fun := ⟨1,
 (.seq
 (.seq (.ops [⟨(some 2), (.mov (.c (.int .i64 0))), none⟩])
 (.keep [0]))
 (.seq
 (.seq
 (.seq (.ops [⟨(some 3), (.mov (.t 0)), none⟩])
 (.keep [3]))
 (.block 0
 (.seq
 (.seq
 (.seq (.ops [⟨(some 5), (.bin .eql (.t 3) (.c (.int .i64 1))), none⟩,
 ⟨(some 4), (.mov (.t 5)), none⟩])
 (.keep [3, 4]))
 (.cond (.t 4)
 .skip
 (.seq
 (.seq (.ops [⟨(some 6), (.bin .eql (.t 3) (.c (.int .i64 3))), none⟩,
 ⟨(some 4), (.mov (.t 6)), none⟩])
 (.keep [3, 4]))
 (.cond (.t 4)
 .skip
 (.seq (.ops [⟨(some 7), (.bin .eql (.t 3) (.c (.int .i64 5))), none⟩,
 ⟨(some 4), (.mov (.t 7)), none⟩])
 (.keep [3, 4]))))))
 (.cond (.t 4)
 (.seq
 (.seq (.ops [⟨(some 2), (.mov (.c (.int .i64 1))), none⟩])
 (.keep [2]))
 .ret)
 (.seq
 (.seq (.ops [⟨(some 9), (.bin .eql (.t 3) (.c (.int .i64 2))), none⟩,
 ⟨(some 8), (.mov (.t 9)), none⟩])
 (.keep [8]))
 (.cond (.t 8)
 (.seq
 (.seq (.ops [⟨(some 2), (.mov (.c (.int .i64 5))), none⟩])
 (.keep [2]))
 .ret)
 .skip))))))
 (.seq
 (.seq (.ops [⟨(some 2), (.mov (.c (.int .i64 0))), none⟩])
 (.keep [2]))
 .ret))),
 [(.slot 2)]⟩
/-- spec l01Var -/
def F_spec_l01Var : Fun := ⟨1,
 (.seq
 (.seq (.ops [⟨(some 2), (.mov (.c (.string ⟨⟨[]⟩⟩))), none⟩])
 (.keep [0]))
 (.seq
 (.seq (.ops [⟨(some 4), (.lit 0 1 y_byte [(.int .u8 0)] []), none⟩,
 ⟨(some 3), (.mov (.t 4)), none⟩])
 (.keep [0, 3]))
 (.seq
 (.block 0
 (.loop
 (.seq
 (.seq
 (.seq (.ops [⟨(some 5), (.mov (.t 0)), none⟩,
 ⟨(some 6), (.bin .gtr (.t 5) (.c (.int .i64 127))), none⟩])
 (.keep [0, 3, 6]))
 (.cond (.t 6)
 .skip
 (.exit 0)))
 (.block 1
 (.seq
 (.seq (.ops [⟨(some 7), (.mov (.t 3)), none⟩,
 ⟨(some 8), (.mov (.t 0)), none⟩,
 ⟨(some 9), (.bin .rem (.t 8) (.c (.int .i64 128))), none⟩,
 ⟨(some 10), (.bin .add (.t 9) (.c (.int .i64 128))), none⟩,
 ⟨(some 11), (.conv .u8 (.t 10)), none⟩,
 ⟨(some 12), (.litL 1 1 [(.int .u8 0)] [(0, (.t 11))]), none⟩,
 ⟨(some 13), (.appL 1 y_byte 1 1 (.t 7) 12), none⟩,
 ⟨(some 3), (.mov (.t 13)), none⟩])
 (.keep [0, 3]))
 (.seq (.ops [⟨(some 14), (.mov (.t 0)), none⟩,
 ⟨(some 15), (.bin .quo (.t 14) (.c (.int .i64 128))), none⟩,
 ⟨(some 0), (.mov (.t 15)), none⟩])
 (.keep [0, 3])))))))
 (.seq
 (.seq (.ops [⟨(some 16), (.mov (.t 3)), none⟩,
 ⟨(some 17), (.mov (.t 0)), none⟩,
 ⟨(some 18), (.conv .u8 (.t 17)), none⟩,
 ⟨(some 19), (.litL 1 1 [(.int .u8 0)] [(0, (.t 18))]), none⟩,
 ⟨(some 20), (.appL 1 y_byte 1 1 (.t 16) 19), none⟩,
 ⟨(some 21), (.str (.t 20)), none⟩,
 ⟨(some 2), (.mov (.t 21)), none⟩])
 (.keep [2]))
 .ret)))),
 [(.slot 2)]⟩
/-- impl told -/
def F_impl_told : Fun := ⟨1,
 (.seq
 (.seq (.ops [⟨(some 1), (.boxL 6 (.t 0)), none⟩,
 ⟨(some 2), (.mov (.c (.slice none 0 0))), none⟩])
 (.keep [1]))
 (.seq
 (.seq
 (.seq (.ops [⟨(some 3), (.faB 0 1), none⟩,
 ⟨(some 4), (.ldE 1 false 1 3), none⟩])
 (.keep [1, 4]))
 (.block 0
 (.seq
 (.seq
 (.seq (.ops [⟨(some 6), (.bin .eql (.t 4) (.c (.int .i64 1))), none⟩,
 ⟨(some 5), (.mov (.t 6)), none⟩])
 (.keep [1, 4, 5]))
 (.cond (.t 5)
 .skip
 (.seq
 (.seq (.ops [⟨(some 7), (.bin .eql (.t 4) (.c (.int .i64 3))), none⟩,
 ⟨(some 5), (.mov (.t 7)), none⟩])
 (.keep [1, 4, 5]))
 (.cond (.t 5)
 .skip
 (.seq (.ops [⟨(some 8), (.bin .eql (.t 4) (.c (.int .i64 5))), none⟩,
 ⟨(some 5), (.mov (.t 8)), none⟩])
 (.keep [1, 4, 5]))))))
 (.cond (.t 5)
 (.seq
 (.seq (.ops [⟨(some 9), (.faB 1 1), none⟩,
 ⟨(some 10), (.ldE 1 false 1 9), none⟩,
 ⟨(some 11), (.lit 1 1 y_int [(.int .i64 0)] [(0, (.t 10))]), none⟩,
 ⟨(some 2), (.mov (.t 11)), none⟩])
 (.keep [2]))
 .ret)
 (.seq
 (.seq (.ops [⟨(some 13), (.bin .eql (.t 4) (.c (.int .i64 2))), none⟩,
 ⟨(some 12), (.mov (.t 13)), none⟩])
 (.keep [1, 12]))
 (.cond (.t 12)
 (.seq
 (.seq (.ops [⟨(some 14), (.faB 1 1), none⟩,
 ⟨(some 15), (.ldE 1 false 1 14), none⟩,
 ⟨(some 16), (.faB 2 1), none⟩,
 ⟨(some 17), (.ldE 1 false 1 16), none⟩,
 ⟨(some 18), (.faB 3 1), none⟩,
 ⟨(some 19), (.ldE 1 false 1 18), none⟩,
 ⟨(some 20), (.faB 4 1), none⟩,
 ⟨(some 21), (.ldE 1 false 1 20), none⟩,
 ⟨(some 22), (.faB 5 1), none⟩,
 ⟨(some 23), (.ldE 1 false 1 22), none⟩,
 ⟨(some 24), (.lit 5 1 y_int [(.int .i64 0)] [(0, (.t 15)), (1, (.t 17)), (2, (.t 19)), (3, (.t 21)), (4, (.t 23))]), none⟩,
 ⟨(some 2), (.mov (.t 24)), none⟩])
 (.keep [2]))
 .ret)
 .skip))))))
 (.seq
 (.seq (.ops [⟨(some 2), (.mov (.c (.slice none 0 0))), none⟩])
 (.keep [2]))
 .ret))),
 [(.slot 2)]⟩
/-- impl vars -/
def F_impl_vars : Fun := ⟨1,
 (.seq
 (.seq (.ops [⟨(some 2), (.mov (.c (.string ⟨⟨[]⟩⟩))), none⟩])
 (.keep [0]))
 (.seq
 (.seq (.ops [⟨(some 3), (.mov (.c (.string ⟨⟨[]⟩⟩))), none⟩])
 (.keep [0, 3]))
 (.seq
 (.seq
 (.seq (.ops [⟨(some 8), (.mov (.t 0)), none⟩,
 ⟨(some 9), (.ln (.t 8)), none⟩,
 ⟨(some 10), (.mov (.c (.int .i64 0))), none⟩])
 (.keep [3, 8, 9, 10]))
 (.block 0
 (.loop
 (.seq
 (.seq (.ops [⟨(some 11), (.bin .lss (.t 10) (.t 9)), none⟩])
 (.keep [3, 8, 9, 10, 11]))
 (.seq
 (.cond (.t 11)
 .skip
 (.exit 0))
 (.seq
 (.block 1
 (.seq
 (.seq (.ops [⟨(some 12), (.ia 1 (.t 8) (.t 10)), none⟩,
 ⟨(some 13), (.ld 1 false (.t 12)), none⟩,
 ⟨(some 5), (.mov (.t 13)), none⟩])
 (.keep [3, 5, 8, 9, 10]))
 (.seq
 (.seq (.ops [⟨(some 15), (.mov (.t 5)), none⟩,
 ⟨(some 16), (.call n_impl_VarText [(.t 15)]), none⟩,
 ⟨(some 14), (.mov (.t 16)), none⟩,
 ⟨(some 17), (.ext 0 (.t 14)), none⟩,
 ⟨(some 18), (.ext 1 (.t 14)), none⟩,
 ⟨(some 6), (.mov (.t 17)), none⟩,
 ⟨(some 7), (.mov (.t 18)), none⟩])
 (.keep [3, 6, 8, 9, 10]))
 (.seq (.ops [⟨(some 19), (.mov (.t 3)), none⟩,
 ⟨(some 20), (.mov (.t 6)), none⟩,
 ⟨(some 21), (.bin .add (.t 19) (.t 20)), none⟩,
 ⟨(some 3), (.mov (.t 21)), none⟩])
 (.keep [3, 8, 9, 10])))))
 (.seq (.ops [⟨(some 22), (.bin .add (.t 10) (.c (.int .i64 1))), none⟩,
 ⟨(some 10), (.mov (.t 22)), none⟩])
 (.keep [3, 8, 9, 10]))))))))
 (.seq
 (.seq (.ops [⟨(some 23), (.mov (.t 3)), none⟩,
 ⟨(some 2), (.mov (.t 23)), none⟩])
 (.keep [2]))
 .ret)))),
 [(.slot 2)]⟩
/-- spec l12Var -/
def F_spec_l12Var : Fun := ⟨1,
 (.seq
 (.seq (.ops [⟨(some 2), (.mov (.c (.int .i64 0))), none⟩])
 (.keep [0]))
 (.seq
 (.seq (.free true [⟨(some 7), (.mov (.t 0)), none⟩,
 ⟨(some 8), (.chk (.t 7)), none⟩,
 ⟨(some 9), (.fa 0 (.t 8)), none⟩,
 ⟨(some 10), (.ld 1 false (.t 9)), none⟩,
 ⟨(some 11), (.mov (.t 0)), none⟩,
 ⟨(some 12), (.chk (.t 11)), none⟩,
 ⟨(some 13), (.fa 1 (.t 12)), none⟩,
 ⟨(some 14), (.ld 1 false (.t 13)), none⟩,
 ⟨(some 15), (.call n_spec_ReadVar [(.t 10), (.t 14)]), none⟩,
 ⟨(some 6), (.mov (.t 15)), none⟩,
 ⟨(some 16), (.ext 0 (.t 6)), none⟩,
 ⟨(some 17), (.ext 1 (.t 6)), none⟩,
 ⟨(some 18), (.ext 2 (.t 6)), none⟩,
 ⟨(some 3), (.mov (.t 16)), none⟩,
 ⟨(some 4), (.mov (.t 17)), none⟩,
 ⟨(some 5), (.mov (.t 18)), none⟩])
 (.keep [0, 3, 4, 5]))
 (.seq
 (.seq
 (.seq (.ops [⟨(some 19), (.mov (.t 0)), none⟩,
 ⟨(some 20), (.chk (.t 19)), none⟩,
 ⟨(some 21), (.fa 2 (.t 20)), none⟩,
 ⟨(some 22), (.ld 1 false (.t 21)), none⟩,
 ⟨(some 23), (.mov (.t 22)), none⟩,
 ⟨(some 24), (.mov (.t 5)), (some (23, false))⟩,
 ⟨(some 25), (.un .not (.t 24)), (some (23, false))⟩,
 ⟨(some 26), (.pick (.t 23) (.c (.bool true)) (.t 25)), none⟩])
 (.keep [0, 3, 4, 26]))
 (.cond (.t 26)
 (.seq
 (.seq (.ops [⟨(some 27), (.mov (.t 0)), none⟩,
 ⟨(some 28), (.chk (.t 27)), none⟩,
 ⟨(some 29), (.fa 2 (.t 28)), none⟩,
 ⟨none, (.st 1 (.t 29) (.c (.bool true))), none⟩])
 (.keep []))
 (.seq
 (.seq (.ops [⟨(some 2), (.mov (.c (.int .i64 0))), none⟩])
 (.keep [2]))
 .ret))
 .skip))
 (.seq
 (.seq (.ops [⟨(some 30), (.mov (.t 0)), none⟩,
 ⟨(some 31), (.mov (.t 4)), none⟩,
 ⟨(some 32), (.chk (.t 30)), none⟩,
 ⟨(some 33), (.fa 1 (.t 32)), none⟩,
 ⟨none, (.st 1 (.t 33) (.t 31)), none⟩])
 (.keep [3]))
 (.seq
 (.seq (.ops [⟨(some 34), (.mov (.t 3)), none⟩,
 ⟨(some 2), (.mov (.t 34)), none⟩])
 (.keep [2]))
 .ret))))),
 [(.slot 2)]⟩
/-- impl reader one -/
def F_impl_reader_one : Fun := ⟨1,
 (.seq
 (.seq (.ops [⟨(some 2), (.mov (.c (.int .i64 0))), none⟩])
 (.keep [0]))
 (.seq
 (.seq
 (.seq (.free true [⟨(some 3), (.mov (.t 0)), none⟩,
 ⟨(some 4), (.chk (.t 3)), none⟩,
 ⟨(some 5), (.fa 2 (.t 4)), none⟩,
 ⟨(some 6), (.ld 1 false (.t 5)), none⟩,
 ⟨(some 7), (.mov (.t 6)), none⟩,
 ⟨(some 8), (.mov (.t 0)), (some (7, false))⟩,
 ⟨(some 9), (.chk (.t 8)), (some (7, false))⟩,
 ⟨(some 10), (.fa 1 (.t 9)), (some (7, false))⟩,
 ⟨(some 11), (.ld 1 false (.t 10)), (some (7, false))⟩,
 ⟨(some 12), (.mov (.t 0)), (some (7, false))⟩,
 ⟨(some 13), (.chk (.t 12)), (some (7, false))⟩,
 ⟨(some 14), (.fa 0 (.t 13)), (some (7, false))⟩,
 ⟨(some 15), (.ld 1 false (.t 14)), (some (7, false))⟩,
 ⟨(some 16), (.lnS (.t 15)), (some (7, false))⟩,
 ⟨(some 17), (.bin .geq (.t 11) (.t 16)), (some (7, false))⟩,
 ⟨(some 18), (.pick (.t 7) (.c (.bool true)) (.t 17)), none⟩])
 (.keep [0, 18]))
 (.cond (.t 18)
 (.seq
 (.seq (.ops [⟨(some 19), (.mov (.t 0)), none⟩,
 ⟨(some 20), (.chk (.t 19)), none⟩,
 ⟨(some 21), (.fa 2 (.t 20)), none⟩,
 ⟨none, (.st 1 (.t 21) (.c (.bool true))), none⟩])
 (.keep []))
 (.seq
 (.seq (.ops [⟨(some 2), (.mov (.c (.int .i64 0))), none⟩])
 (.keep [2]))
 .ret))
 .skip))
 (.seq
 (.seq (.ops [⟨(some 22), (.mov (.t 0)), none⟩,
 ⟨(some 23), (.chk (.t 22)), none⟩,
 ⟨(some 24), (.fa 1 (.t 23)), none⟩,
 ⟨(some 25), (.ld 1 false (.t 24)), none⟩,
 ⟨(some 26), (.bin .add (.t 25) (.c (.int .i64 1))), none⟩,
 ⟨(some 27), (.chk (.t 22)), none⟩,
 ⟨(some 28), (.fa 1 (.t 27)), none⟩,
 ⟨none, (.st 1 (.t 28) (.t 26)), none⟩])
 (.keep [0]))
 (.seq
 (.seq (.free true [⟨(some 29), (.mov (.t 0)), none⟩,
 ⟨(some 30), (.chk (.t 29)), none⟩,
 ⟨(some 31), (.fa 0 (.t 30)), none⟩,
 ⟨(some 32), (.ld 1 false (.t 31)), none⟩,
 ⟨(some 33), (.mov (.t 0)), none⟩,
 ⟨(some 34), (.chk (.t 33)), none⟩,
 ⟨(some 35), (.fa 1 (.t 34)), none⟩,
 ⟨(some 36), (.ld 1 false (.t 35)), none⟩,
 ⟨(some 37), (.bin .sub (.t 36) (.c (.int .i64 1))), none⟩,
 ⟨(some 38), (.ix (.t 32) (.t 37)), none⟩,
 ⟨(some 39), (.conv .i64 (.t 38)), none⟩,
 ⟨(some 2), (.mov (.t 39)), none⟩])
 (.keep [2]))
 .ret)))),
 [(.slot 2)]⟩
/-- impl reader num -/
def F_impl_reader_num : Fun := ⟨1,
 (.seq
 (.seq (.ops [⟨(some 2), (.mov (.c (.int .i64 0))), none⟩])
 (.keep [0]))
 (.seq
 (.seq (.free true [⟨(some 7), (.mov (.t 0)), none⟩,
 ⟨(some 8), (.chk (.t 7)), none⟩,
 ⟨(some 9), (.fa 0 (.t 8)), none⟩,
 ⟨(some 10), (.ld 1 false (.t 9)), none⟩,
 ⟨(some 11), (.mov (.t 0)), none⟩,
 ⟨(some 12), (.chk (.t 11)), none⟩,
 ⟨(some 13), (.fa 1 (.t 12)), none⟩,
 ⟨(some 14), (.ld 1 false (.t 13)), none⟩,
 ⟨(some 15), (.call n_impl_ReadVar [(.t 10), (.t 14)]), none⟩,
 ⟨(some 6), (.mov (.t 15)), none⟩,
 ⟨(some 16), (.ext 0 (.t 6)), none⟩,
 ⟨(some 17), (.ext 1 (.t 6)), none⟩,
 ⟨(some 18), (.ext 2 (.t 6)), none⟩,
 ⟨(some 3), (.mov (.t 16)), none⟩,
 ⟨(some 4), (.mov (.t 17)), none⟩,
 ⟨(some 5), (.mov (.t 18)), none⟩])
 (.keep [0, 3, 4, 5]))
 (.seq
 (.seq
 (.seq (.ops [⟨(some 19), (.mov (.t 0)), none⟩,
 ⟨(some 20), (.chk (.t 19)), none⟩,
 ⟨(some 21), (.fa 2 (.t 20)), none⟩,
 ⟨(some 22), (.ld 1 false (.t 21)), none⟩,
 ⟨(some 23), (.mov (.t 22)), none⟩,
 ⟨(some 24), (.mov (.t 5)), (some (23, false))⟩,
 ⟨(some 25), (.un .not (.t 24)), (some (23, false))⟩,
 ⟨(some 26), (.pick (.t 23) (.c (.bool true)) (.t 25)), none⟩])
 (.keep [0, 3, 4, 26]))
 (.cond (.t 26)
 (.seq
 (.seq (.ops [⟨(some 27), (.mov (.t 0)), none⟩,
 ⟨(some 28), (.chk (.t 27)), none⟩,
 ⟨(some 29), (.fa 2 (.t 28)), none⟩,
 ⟨none, (.st 1 (.t 29) (.c (.bool true))), none⟩])
 (.keep []))
 (.seq
 (.seq (.ops [⟨(some 2), (.mov (.c (.int .i64 0))), none⟩])
 (.keep [2]))
 .ret))
 .skip))
 (.seq
 (.seq (.ops [⟨(some 30), (.mov (.t 0)), none⟩,
 ⟨(some 31), (.mov (.t 4)), none⟩,
 ⟨(some 32), (.chk (.t 30)), none⟩,
 ⟨(some 33), (.fa 1 (.t 32)), none⟩,
 ⟨none, (.st 1 (.t 33) (.t 31)), none⟩])
 (.keep [3]))
 (.seq
 (.seq (.ops [⟨(some 34), (.mov (.t 3)), none⟩,
 ⟨(some 2), (.mov (.t 34)), none⟩])
 (.keep [2]))
 .ret))))),
 [(.slot 2)]⟩
/-- impl reader ends -/
def F_impl_reader_ends : Fun := ⟨1,
 (.seq
 (.seq (.ops [⟨(some 2), (.mov (.c (.bool false))), none⟩])
 (.keep [0]))
 (.seq
 (.seq (.free true [⟨(some 3), (.mov (.t 0)), none⟩,
 ⟨(some 4), (.chk (.t 3)), none⟩,
 ⟨(some 5), (.fa 2 (.t 4)), none⟩,
 ⟨(some 6), (.ld 1 false (.t 5)), none⟩,
 ⟨(some 7), (.un .not (.t 6)), none⟩,
 ⟨(some 8), (.mov (.t 7)), none⟩,
 ⟨(some 9), (.mov (.t 0)), (some (8, true))⟩,
 ⟨(some 10), (.chk (.t 9)), (some (8, true))⟩,
 ⟨(some 11), (.fa 1 (.t 10)), (some (8, true))⟩,
 ⟨(some 12), (.ld 1 false (.t 11)), (some (8, true))⟩,
 ⟨(some 13), (.mov (.t 0)), (some (8, true))⟩,
 ⟨(some 14), (.chk (.t 13)), (some (8, true))⟩,
 ⟨(some 15), (.fa 0 (.t 14)), (some (8, true))⟩,
 ⟨(some 16), (.ld 1 false (.t 15)), (some (8, true))⟩,
 ⟨(some 17), (.lnS (.t 16)), (some (8, true))⟩,
 ⟨(some 18), (.bin .eql (.t 12) (.t 17)), (some (8, true))⟩,
 ⟨(some 19), (.pick (.t 8) (.t 18) (.c (.bool false))), none⟩,
 ⟨(some 2), (.mov (.t 19)), none⟩])
 (.keep [2]))
 .ret)),
 [(.slot 2)]⟩
/-- laws szEdgeS -/
def F_laws_szEdgeS : Fun := ⟨2,
 (.seq
 (.seq (.ops [⟨(some 4), (.mov (.c (.int .i64 0))), none⟩])
 (.keep [0, 1]))
 (.seq
 (.seq (.ops [⟨(some 5), (.mov (.t 1)), none⟩,
 ⟨(some 6), (.mov (.t 0)), none⟩,
 ⟨(some 7), (.ln (.t 6)), none⟩,
 ⟨(some 8), (.bin .sub (.t 5) (.t 7)), none⟩,
 ⟨(some 1), (.mov (.t 8)), none⟩])
 (.keep [1]))
 (.seq
 (.seq
 (.seq (.ops [⟨(some 9), (.mov (.t 1)), none⟩,
 ⟨(some 10), (.bin .lss (.t 9) (.c (.int .i64 0))), none⟩])
 (.keep [1, 10]))
 (.cond (.t 10)
 (.seq
 (.seq (.ops [⟨(some 4), (.mov (.c (.int .i64 (-1)))), none⟩])
 (.keep [4]))
 .ret)
 .skip))
 (.seq
 (.seq (.ops [⟨(some 11), (.mov (.t 1)), none⟩,
 ⟨(some 4), (.mov (.t 11)), none⟩])
 (.keep [4]))
 .ret)))),
 [(.slot 4)]⟩
/-- spec GraphOk -/
def F_spec_GraphOk : Fun := ⟨1,
 (.seq
 (.seq (.ops [⟨(some 1), (.boxL 2 (.t 0)), none⟩,
 ⟨(some 2), (.mov (.c (.bool false))), none⟩])
 (.keep [1]))
 (.seq
 (.seq
 (.seq (.ops [⟨(some 5), (.faB 0 1), none⟩,
 ⟨(some 6), (.ldE 1 false 1 5), none⟩,
 ⟨(some 7), (.call n_spec_l01In [(.t 6), (.c (.int .i64 0)), (.c (.int .i64 9))]), none⟩,
 ⟨(some 8), (.un .not (.t 7)), none⟩])
 (.keep [1, 8]))
 (.cond (.t 8)
 (.seq
 (.seq (.ops [⟨(some 2), (.mov (.c (.bool false))), none⟩])
 (.keep [2]))
 .ret)
 .skip))
 (.seq
 (.seq
 (.seq (.ops [⟨(some 3), (.mov (.c (.int .i64 0))), none⟩])
 (.keep [1, 3]))
 (.block 0
 (.loop
 (.seq
 (.seq
 (.seq (.ops [⟨(some 9), (.mov (.t 3)), none⟩,
 ⟨(some 10), (.faB 1 1), none⟩,
 ⟨(some 11), (.ldE 1 false 1 10), none⟩,
 ⟨(some 12), (.ln (.t 11)), none⟩,
 ⟨(some 13), (.bin .lss (.t 9) (.t 12)), none⟩])
 (.keep [1, 3, 13]))
 (.cond (.t 13)
 .skip
 (.exit 0)))
 (.seq
 (.block 1
 (.seq
 (.seq (.ops [⟨(some 16), (.faB 1 1), none⟩,
 ⟨(some 17), (.ldE 1 false 1 16), none⟩,
 ⟨(some 18), (.mov (.t 3)), none⟩,
 ⟨(some 19), (.ia 5 (.t 17) (.t 18)), none⟩,
 ⟨(some 20), (.ld 5 true (.t 19)), none⟩,
 ⟨(some 4), (.newL [(.int .i64 0), (.int .i64 0), (.int .i64 0), (.int .i64 0), (.int .i64 0)]), none⟩,
 ⟨none, (.stB 5 4 (.t 20)), none⟩])
 (.keep [1, 3, 4]))
 (.seq
 (.seq
 (.seq (.ops [⟨(some 21), (.faB 0 4), none⟩,
 ⟨(some 22), (.ldE 1 false 4 21), none⟩,
 ⟨(some 23), (.bin .lss (.t 22) (.c (.int .i64 0))), none⟩,
 ⟨(some 24), (.mov (.t 23)), none⟩,
 ⟨(some 25), (.faB 0 4), (some (24, false))⟩,
 ⟨(some 26), (.ldE 1 false 4 25), (some (24, false))⟩,
 ⟨(some 27), (.faB 1 4), (some (24, false))⟩,
 ⟨(some 28), (.ldE 1 false 4 27), (some (24, false))⟩,
 ⟨(some 29), (.bin .geq (.t 26) (.t 28)), (some (24, false))⟩,
 ⟨(some 30), (.pick (.t 24) (.c (.bool true)) (.t 29)), none⟩,
 ⟨(some 31), (.mov (.t 30)), none⟩,
 ⟨(some 32), (.faB 1 4), (some (31, false))⟩,
 ⟨(some 33), (.ldE 1 false 4 32), (some (31, false))⟩,
 ⟨(some 34), (.faB 0 1), (some (31, false))⟩,
 ⟨(some 35), (.ldE 1 false 1 34), (some (31, false))⟩,
 ⟨(some 36), (.bin .geq (.t 33) (.t 35)), (some (31, false))⟩,
 ⟨(some 37), (.pick (.t 31) (.c (.bool true)) (.t 36)), none⟩,
 ⟨(some 38), (.mov (.t 37)), none⟩,
 ⟨(some 39), (.faB 2 4), (some (38, false))⟩,
 ⟨(some 40), (.ldE 1 false 4 39), (some (38, false))⟩,
 ⟨(some 41), (.call n_spec_l08Worth [(.t 40)]), (some (38, false))⟩,
 ⟨(some 42), (.un .not (.t 41)), (some (38, false))⟩,
 ⟨(some 43), (.pick (.t 38) (.c (.bool true)) (.t 42)), none⟩,
 ⟨(some 44), (.mov (.t 43)), none⟩,
 ⟨(some 45), (.faB 3 4), (some (44, false))⟩,
 ⟨(some 46), (.ldE 1 false 4 45), (some (44, false))⟩,
 ⟨(some 47), (.call n_spec_l08Worth [(.t 46)]), (some (44, false))⟩,
 ⟨(some 48), (.un .not (.t 47)), (some (44, false))⟩,
 ⟨(some 49), (.pick (.t 44) (.c (.bool true)) (.t 48)), none⟩,
 ⟨(some 50), (.mov (.t 49)), none⟩,
 ⟨(some 51), (.faB 4 4), (some (50, false))⟩,
 ⟨(some 52), (.ldE 1 false 4 51), (some (50, false))⟩,
 ⟨(some 53), (.call n_spec_l08Worth [(.t 52)]), (some (50, false))⟩,
 ⟨(some 54), (.un .not (.t 53)), (some (50, false))⟩,
 ⟨(some 55), (.pick (.t 50) (.c (.bool true)) (.t 54)), none⟩])
 (.keep [1, 3, 4, 55]))
 (.cond (.t 55)
 (.seq
 (.seq (.ops [⟨(some 2), (.mov (.c (.bool false))), none⟩])
 (.keep [2]))
 .ret)
 .skip))
 (.seq
 (.seq (.free true [⟨(some 56), (.mov (.t 3)), none⟩,
 ⟨(some 57), (.bin .gtr (.t 56) (.c (.int .i64 0))), none⟩,
 ⟨(some 58), (.mov (.t 57)), none⟩,
 ⟨(some 59), (.faB 1 1), (some (58, true))⟩,
 ⟨(some 60), (.ldE 1 false 1 59), (some (58, true))⟩,
 ⟨(some 61), (.mov (.t 3)), (some (58, true))⟩,
 ⟨(some 62), (.bin .sub (.t 61) (.c (.int .i64 1))), (some (58, true))⟩,
 ⟨(some 63), (.ia 5 (.t 60) (.t 62)), (some (58, true))⟩,
 ⟨(some 64), (.fa 0 (.t 63)), (some (58, true))⟩,
 ⟨(some 65), (.ld 1 false (.t 64)), (some (58, true))⟩,
 ⟨(some 66), (.faB 0 4), (some (58, true))⟩,
 ⟨(some 67), (.ldE 1 false 4 66), (some (58, true))⟩,
 ⟨(some 68), (.bin .gtr (.t 65) (.t 67)), (some (58, true))⟩,
 ⟨(some 69), (.mov (.t 68)), (some (58, true))⟩,
 ⟨(some 70), (.faB 1 1), (some (69, false))⟩,
 ⟨(some 71), (.ldE 1 false 1 70), (some (69, false))⟩,
 ⟨(some 72), (.mov (.t 3)), (some (69, false))⟩,
 ⟨(some 73), (.bin .sub (.t 72) (.c (.int .i64 1))), (some (69, false))⟩,
 ⟨(some 74), (.ia 5 (.t 71) (.t 73)), (some (69, false))⟩,
 ⟨(some 75), (.fa 0 (.t 74)), (some (69, false))⟩,
 ⟨(some 76), (.ld 1 false (.t 75)), (some (69, false))⟩,
 ⟨(some 77), (.faB 0 4), (some (69, false))⟩,
 ⟨(some 78), (.ldE 1 false 4 77), (some (69, false))⟩,
 ⟨(some 79), (.bin .eql (.t 76) (.t 78)), (some (69, false))⟩,
 ⟨(some 80), (.mov (.t 79)), (some (69, false))⟩,
 ⟨(some 81), (.faB 1 1), (some (80, true))⟩,
 ⟨(some 82), (.ldE 1 false 1 81), (some (80, true))⟩,
 ⟨(some 83), (.mov (.t 3)), (some (80, true))⟩,
 ⟨(some 84), (.bin .sub (.t 83) (.c (.int .i64 1))), (some (80, true))⟩,
 ⟨(some 85), (.ia 5 (.t 82) (.t 84)), (some (80, true))⟩,
 ⟨(some 86), (.fa 1 (.t 85)), (some (80, true))⟩,
 ⟨(some 87), (.ld 1 false (.t 86)), (some (80, true))⟩,
 ⟨(some 88), (.faB 1 4), (some (80, true))⟩,
 ⟨(some 89), (.ldE 1 false 4 88), (some (80, true))⟩,
 ⟨(some 90), (.bin .geq (.t 87) (.t 89)), (some (80, true))⟩,
 ⟨(some 91), (.pick (.t 80) (.t 90) (.c (.bool false))), (some (69, false))⟩,
 ⟨(some 92), (.pick (.t 69) (.c (.bool true)) (.t 91)), (some (58, true))⟩,
 ⟨(some 93), (.pick (.t 58) (.t 92) (.c (.bool false))), none⟩])
 (.keep [1, 3, 93]))
 (.cond (.t 93)
 (.seq
 (.seq (.ops [⟨(some 2), (.mov (.c (.bool false))), none⟩])
 (.keep [2]))
 .ret)
 .skip)))))
 (.seq (.ops [⟨(some 14), (.mov (.t 3)), none⟩,
 ⟨(some 15), (.bin .add (.t 14) (.c (.int .i64 1))), none⟩,
 ⟨(some 3), (.mov (.t 15)), none⟩])
 (.keep [1, 3])))))))
 (.seq
 (.seq (.ops [⟨(some 2), (.mov (.c (.bool true))), none⟩])
 (.keep [2]))
 .ret)))),
 [(.slot 2)]⟩
/-- spec l17Next -/
def F_spec_l17Next : Fun := ⟨2,
 (.seq
 (.seq (.ops [⟨(some 2), (.boxL 2 (.t 0)), none⟩,
 ⟨(some 4), (.mov (.c (.slice none 0 0))), none⟩])
 (.keep [1, 2]))
 (.seq
 (.seq (.ops [⟨(some 7), (.lit 0 1 y_int [(.int .i64 0)] []), none⟩,
 ⟨(some 5), (.mov (.t 7)), none⟩])
 (.keep [1, 2, 5]))
 (.seq
 (.seq
 (.seq (.ops [⟨(some 6), (.mov (.c (.int .i64 0))), none⟩])
 (.keep [1, 2, 5, 6]))
 (.block 0
 (.loop
 (.seq
 (.seq
 (.seq (.ops [⟨(some 8), (.mov (.t 6)), none⟩,
 ⟨(some 9), (.faB 0 2), none⟩,
 ⟨(some 10), (.ldE 1 false 2 9), none⟩,
 ⟨(some 11), (.bin .lss (.t 8) (.t 10)), none⟩])
 (.keep [1, 2, 5, 6, 11]))
 (.cond (.t 11)
 .skip
 (.exit 0)))
 (.seq
 (.block 1
 (.seq
 (.seq (.ops [⟨(some 14), (.mov (.t 6)), none⟩,
 ⟨(some 15), (.mov (.t 1)), none⟩,
 ⟨(some 16), (.bin .neq (.t 14) (.t 15)), none⟩,
 ⟨(some 17), (.mov (.t 16)), none⟩,
 ⟨(some 18), (.ldB 2 true 2), (some (17, true))⟩,
 ⟨(some 19), (.mov (.t 6)), (some (17, true))⟩,
 ⟨(some 20), (.mov (.t 1)), (some (17, true))⟩,
 ⟨(some 21), (.call n_spec_l08At [(.t 18), (.t 19), (.t 20)]), (some (17, true))⟩,
 ⟨(some 22), (.bin .geq (.t 21) (.c (.int .i64 0))), (some (17, true))⟩,
 ⟨(some 23), (.pick (.t 17) (.t 22) (.c (.bool false))), none⟩])
 (.keep [1, 2, 5, 6, 23]))
 (.cond (.t 23)
 (.seq (.ops [⟨(some 24), (.mov (.t 5)), none⟩,
 ⟨(some 25), (.mov (.t 6)), none⟩,
 ⟨(some 26), (.litL 1 1 [(.int .i64 0)] [(0, (.t 25))]), none⟩,
 ⟨(some 27), (.appL 1 y_int 8 1 (.t 24) 26), none⟩,
 ⟨(some 5), (.mov (.t 27)), none⟩])
 (.keep [1, 2, 5, 6]))
 .skip)))
 (.seq (.ops [⟨(some 12), (.mov (.t 6)), none⟩,
 ⟨(some 13), (.bin .add (.t 12) (.c (.int .i64 1))), none⟩,
 ⟨(some 6), (.mov (.t 13)), none⟩])
 (.keep [1, 2, 5, 6])))))))
 (.seq
 (.seq (.ops [⟨(some 28), (.mov (.t 5)), none⟩,
 ⟨(some 4), (.mov (.t 28)), none⟩])
 (.keep [4]))
 .ret)))),
 [(.slot 4)]⟩
/-- laws toEdgeS -/
def F_laws_toEdgeS : Fun := ⟨1,
 (.seq
 (.seq (.ops [⟨(some 2), (.mov (.c (.slice none 0 0))), none⟩])
 (.keep [0]))
 (.seq
 (.seq (.ops [⟨(some 5), (.mov (.t 0)), none⟩,
 ⟨(some 6), (.ln (.t 5)), none⟩,
 ⟨(some 7), (.mk 5 y_Edge 40 [(.int .i64 0), (.int .i64 0), (.int .i64 0), (.int .i64 0), (.int .i64 0)] (.t 6)), none⟩,
 ⟨(some 3), (.mov (.t 7)), none⟩])
 (.keep [0, 3]))
 (.seq
 (.seq
 (.seq (.ops [⟨(some 4), (.mov (.c (.int .i64 0))), none⟩])
 (.keep [0, 3, 4]))
 (.block 0
 (.loop
 (.seq
 (.seq
 (.seq (.ops [⟨(some 8), (.mov (.t 4)), none⟩,
 ⟨(some 9), (.mov (.t 0)), none⟩,
 ⟨(some 10), (.ln (.t 9)), none⟩,
 ⟨(some 11), (.bin .lss (.t 8) (.t 10)), none⟩])
 (.keep [0, 3, 4, 11]))
 (.cond (.t 11)
 .skip
 (.exit 0)))
 (.seq
 (.block 1
 (.seq (.ops [⟨(some 14), (.mov (.t 3)), none⟩,
 ⟨(some 15), (.mov (.t 4)), none⟩,
 ⟨(some 16), (.mov (.t 0)), none⟩,
 ⟨(some 17), (.mov (.t 4)), none⟩,
 ⟨(some 18), (.ia 5 (.t 16) (.t 17)), none⟩,
 ⟨(some 19), (.ld 5 true (.t 18)), none⟩,
 ⟨(some 20), (.call n_laws_toEdge [(.t 19)]), none⟩,
 ⟨(some 21), (.ia 5 (.t 14) (.t 15)), none⟩,
 ⟨none, (.st 5 (.t 21) (.t 20)), none⟩])
 (.keep [0, 3, 4])))
 (.seq (.ops [⟨(some 12), (.mov (.t 4)), none⟩,
 ⟨(some 13), (.bin .add (.t 12) (.c (.int .i64 1))), none⟩,
 ⟨(some 4), (.mov (.t 13)), none⟩])
 (.keep [0, 3, 4])))))))
 (.seq
 (.seq (.ops [⟨(some 22), (.mov (.t 3)), none⟩,
 ⟨(some 2), (.mov (.t 22)), none⟩])
 (.keep [2]))
 .ret)))),
 [(.slot 2)]⟩
end Go.Proofs.Ytlndlccbecnjoaa.Ab
