/- The compact code of the functions, and that it is the code of the machine. -/
import Derived.Test.YtnnjpiepoeknnaaPeX
import Derived.Test.YtnnjpiepoeknnaaProg
namespace Go.Proofs.Ytnnjpiepoeknnaa.PE
open Go.RowKit
set_option maxRecDepth 100000
/-- loop.example/tablehouse/laws.FnMayHold -/
def F3 : F := ⟨71, [(false, 2, 0, false)],
   .seq (.seg false [⟨some 2, none, .mov (.k (.bool false)), 0, 0, false, []⟩])
   (.seq (.seq (.seg false [⟨some 9, none, .mov (.t 0), 0, 0, false, []⟩,
    ⟨some 10, none, .len false (.t 9), 0, 0, false, []⟩,
    ⟨some 11, none, .bin .gtr (.t 10) (.k (.int .i64 1048576)), 0, 0, false, []⟩])
   (.cond (.t 11) (.seq (.seg false [⟨some 2, none, .mov (.k (.bool true)), 0, 0, false, []⟩])
   (.ret))
   (.skip)))
   (.seq (.seg false [⟨some 13, none, .mov (.t 0), 0, 0, false, []⟩,
    ⟨some 14, none, .call 15 [.t 13] false false, 0, 0, false, []⟩,
    ⟨some 12, none, .mov (.t 14), 0, 0, false, []⟩,
    ⟨some 15, none, .ext (.t 12) 0, 0, 0, false, []⟩,
    ⟨some 16, none, .ext (.t 12) 1, 0, 0, false, []⟩,
    ⟨some 17, none, .ext (.t 12) 2, 0, 0, false, []⟩,
    ⟨some 3, none, .alloc [.int .i64 0, .int .i64 0, .int .i64 0, .int .i64 0, .str ⟨#[]⟩, .int .i64 0, .int .i64 0, .str ⟨#[]⟩], 0, 0, false, []⟩,
    ⟨some 5, none, .alloc [.int .i64 0, .int .i64 0, .str ⟨#[]⟩], 0, 0, false, []⟩,
    ⟨none, none, .store 8 (.t 3) (.t 15), 0, 0, false, []⟩,
    ⟨some 4, none, .mov (.t 16), 0, 0, false, []⟩,
    ⟨none, none, .store 3 (.t 5) (.t 17), 0, 0, false, []⟩])
   (.seq (.seg false [⟨some 18, none, .load true 8 (.t 3), 0, 0, false, []⟩,
    ⟨some 19, none, .mov (.t 4), 0, 0, false, []⟩,
    ⟨some 20, none, .load true 3 (.t 5), 0, 0, false, []⟩,
    ⟨some 21, none, .call 16 [.t 18, .t 19, .t 20] false false, 0, 0, false, []⟩,
    ⟨some 6, none, .mov (.t 21), 0, 0, false, []⟩])
   (.seq (.seq (.seg false [⟨some 22, none, .mov (.t 6), 0, 0, false, []⟩,
    ⟨some 23, none, .load true 8 (.t 3), 0, 0, false, []⟩,
    ⟨some 24, none, .mov (.t 4), 0, 0, false, []⟩,
    ⟨some 25, none, .load true 3 (.t 5), 0, 0, false, []⟩,
    ⟨some 26, none, .call 17 [.t 23, .t 24, .t 25] false false, 0, 0, false, []⟩,
    ⟨some 27, none, .eqb true (.t 22) (.t 26), 0, 0, false, []⟩])
   (.cond (.t 27) (.seq (.seg false [⟨some 2, none, .mov (.k (.bool false)), 0, 0, false, []⟩])
   (.ret))
   (.skip)))
   (.seq (.seg false [⟨some 28, none, .load true 8 (.t 3), 0, 0, false, []⟩,
    ⟨some 29, none, .load true 3 (.t 5), 0, 0, false, []⟩,
    ⟨some 30, none, .call 16 [.t 28, .k (.int .i64 1), .t 29] false false, 0, 0, false, []⟩,
    ⟨some 31, none, .mov (.t 30), 0, 0, false, []⟩,
    ⟨some 32, some (31, false), .load true 8 (.t 3), 0, 0, false, []⟩,
    ⟨some 33, some (31, false), .load true 3 (.t 5), 0, 0, false, []⟩,
    ⟨some 34, some (31, false), .call 16 [.t 32, .k (.int .i64 2), .t 33] false false, 0, 0, false, []⟩,
    ⟨some 35, none, .pick (.t 31) (.k (.bool true)) (.t 34), 0, 0, false, []⟩,
    ⟨some 7, none, .mov (.t 35), 0, 0, false, []⟩])
   (.seq (.seg false [⟨some 36, none, .load true 8 (.t 3), 0, 0, false, []⟩,
    ⟨some 37, none, .call 18 [.t 36] false false, 0, 0, false, []⟩,
    ⟨some 38, none, .mov (.t 37), 0, 0, false, []⟩,
    ⟨some 39, some (38, true), .faddr 0 1 (.t 3), 0, 0, false, []⟩,
    ⟨some 40, some (38, true), .load false 1 (.t 39), 0, 0, false, []⟩,
    ⟨some 41, some (38, true), .bin .gtr (.t 40) (.k (.int .i64 0)), 0, 0, false, []⟩,
    ⟨some 42, none, .pick (.t 38) (.t 41) (.k (.bool false)), 0, 0, false, []⟩,
    ⟨some 43, none, .mov (.t 42), 0, 0, false, []⟩,
    ⟨some 44, some (43, true), .load true 3 (.t 5), 0, 0, false, []⟩,
    ⟨some 45, some (43, true), .call 19 [.t 44] false false, 0, 0, false, []⟩,
    ⟨some 46, none, .pick (.t 43) (.t 45) (.k (.bool false)), 0, 0, false, []⟩,
    ⟨some 47, none, .mov (.t 46), 0, 0, false, []⟩,
    ⟨some 48, some (47, true), .faddr 0 1 (.t 5), 0, 0, false, []⟩,
    ⟨some 49, some (47, true), .load false 1 (.t 48), 0, 0, false, []⟩,
    ⟨some 50, some (47, true), .faddr 2 3 (.t 3), 0, 0, false, []⟩,
    ⟨some 51, some (47, true), .faddr 0 1 (.t 50), 0, 0, false, []⟩,
    ⟨some 52, some (47, true), .load false 1 (.t 51), 0, 0, false, []⟩,
    ⟨some 53, some (47, true), .bin .eql (.t 49) (.t 52), 0, 0, false, []⟩,
    ⟨some 54, none, .pick (.t 47) (.t 53) (.k (.bool false)), 0, 0, false, []⟩,
    ⟨some 8, none, .mov (.t 54), 0, 0, false, []⟩])
   (.seq (.seg false [⟨some 55, none, .mov (.t 6), 0, 0, false, []⟩,
    ⟨some 56, none, .mov (.t 55), 0, 0, false, []⟩,
    ⟨some 57, some (56, false), .load true 8 (.t 3), 0, 0, false, []⟩,
    ⟨some 58, some (56, false), .mov (.t 4), 0, 0, false, []⟩,
    ⟨some 59, some (56, false), .load true 3 (.t 5), 0, 0, false, []⟩,
    ⟨some 60, some (56, false), .call 20 [.t 57, .t 58, .t 59] false false, 0, 0, false, []⟩,
    ⟨some 61, some (56, false), .un .not (.t 60), 0, 0, false, []⟩,
    ⟨some 62, none, .pick (.t 56) (.k (.bool true)) (.t 61), 0, 0, false, []⟩,
    ⟨some 63, none, .mov (.t 62), 0, 0, false, []⟩,
    ⟨some 64, some (63, true), .mov (.t 7), 0, 0, false, []⟩,
    ⟨some 65, some (63, true), .mov (.t 8), 0, 0, false, []⟩,
    ⟨some 66, some (63, true), .eqb false (.t 64) (.t 65), 0, 0, false, []⟩,
    ⟨some 67, none, .pick (.t 63) (.t 66) (.k (.bool false)), 0, 0, false, []⟩,
    ⟨some 68, none, .mov (.t 67), 0, 0, false, []⟩,
    ⟨some 69, some (68, true), .call 21 [] false false, 0, 0, false, []⟩,
    ⟨some 70, none, .pick (.t 68) (.t 69) (.k (.bool false)), 0, 0, false, []⟩,
    ⟨some 2, none, .mov (.t 70), 0, 0, false, []⟩])
   (.ret))))))))⟩
/-- loop.example/tablehouse/laws.FnMustHold -/
def F4 : F := ⟨53, [(false, 2, 0, false)],
   .seq (.seg false [⟨some 2, none, .mov (.k (.bool false)), 0, 0, false, []⟩])
   (.seq (.seq (.seg false [⟨some 9, none, .mov (.t 0), 0, 0, false, []⟩,
    ⟨some 10, none, .len false (.t 9), 0, 0, false, []⟩,
    ⟨some 11, none, .bin .gtr (.t 10) (.k (.int .i64 1048576)), 0, 0, false, []⟩])
   (.cond (.t 11) (.seq (.seg false [⟨some 2, none, .mov (.k (.bool true)), 0, 0, false, []⟩])
   (.ret))
   (.skip)))
   (.seq (.seg false [⟨some 13, none, .mov (.t 0), 0, 0, false, []⟩,
    ⟨some 14, none, .call 22 [.t 13] false false, 0, 0, false, []⟩,
    ⟨some 12, none, .mov (.t 14), 0, 0, false, []⟩,
    ⟨some 15, none, .ext (.t 12) 0, 0, 0, false, []⟩,
    ⟨some 16, none, .ext (.t 12) 1, 0, 0, false, []⟩,
    ⟨some 17, none, .ext (.t 12) 2, 0, 0, false, []⟩,
    ⟨some 3, none, .alloc [.int .i64 0, .int .i64 0, .int .i64 0, .int .i64 0, .str ⟨#[]⟩, .int .i64 0, .int .i64 0, .str ⟨#[]⟩], 0, 0, false, []⟩,
    ⟨some 5, none, .alloc [.int .i64 0, .int .i64 0, .str ⟨#[]⟩], 0, 0, false, []⟩,
    ⟨none, none, .store 8 (.t 3) (.t 15), 0, 0, false, []⟩,
    ⟨some 4, none, .mov (.t 16), 0, 0, false, []⟩,
    ⟨none, none, .store 3 (.t 5) (.t 17), 0, 0, false, []⟩])
   (.seq (.seg false [⟨some 18, none, .load true 8 (.t 3), 0, 0, false, []⟩,
    ⟨some 19, none, .mov (.t 4), 0, 0, false, []⟩,
    ⟨some 20, none, .load true 3 (.t 5), 0, 0, false, []⟩,
    ⟨some 21, none, .call 20 [.t 18, .t 19, .t 20] false false, 0, 0, false, []⟩,
    ⟨some 6, none, .mov (.t 21), 0, 0, false, []⟩])
   (.seq (.seq (.seg false [⟨some 22, none, .mov (.t 6), 0, 0, false, []⟩,
    ⟨some 23, none, .load true 8 (.t 3), 0, 0, false, []⟩,
    ⟨some 24, none, .mov (.t 4), 0, 0, false, []⟩,
    ⟨some 25, none, .load true 3 (.t 5), 0, 0, false, []⟩,
    ⟨some 26, none, .call 23 [.t 23, .t 24, .t 25] false false, 0, 0, false, []⟩,
    ⟨some 27, none, .eqb true (.t 22) (.t 26), 0, 0, false, []⟩])
   (.cond (.t 27) (.seq (.seg false [⟨some 2, none, .mov (.k (.bool false)), 0, 0, false, []⟩])
   (.ret))
   (.skip)))
   (.seq (.seg false [⟨some 28, none, .load true 8 (.t 3), 0, 0, false, []⟩,
    ⟨some 29, none, .load true 3 (.t 5), 0, 0, false, []⟩,
    ⟨some 30, none, .call 20 [.t 28, .k (.int .i64 1), .t 29] false false, 0, 0, false, []⟩,
    ⟨some 31, none, .mov (.t 30), 0, 0, false, []⟩,
    ⟨some 32, some (31, true), .load true 8 (.t 3), 0, 0, false, []⟩,
    ⟨some 33, some (31, true), .load true 3 (.t 5), 0, 0, false, []⟩,
    ⟨some 34, some (31, true), .call 16 [.t 32, .k (.int .i64 2), .t 33] false false, 0, 0, false, []⟩,
    ⟨some 35, none, .pick (.t 31) (.t 34) (.k (.bool false)), 0, 0, false, []⟩,
    ⟨some 7, none, .mov (.t 35), 0, 0, false, []⟩])
   (.seq (.seg false [⟨some 36, none, .load true 8 (.t 3), 0, 0, false, []⟩,
    ⟨some 37, none, .load true 3 (.t 5), 0, 0, false, []⟩,
    ⟨some 38, none, .call 20 [.t 36, .k (.int .i64 2), .t 37] false false, 0, 0, false, []⟩,
    ⟨some 39, none, .mov (.t 38), 0, 0, false, []⟩,
    ⟨some 40, some (39, true), .load true 8 (.t 3), 0, 0, false, []⟩,
    ⟨some 41, some (39, true), .load true 3 (.t 5), 0, 0, false, []⟩,
    ⟨some 42, some (39, true), .call 16 [.t 40, .k (.int .i64 1), .t 41] false false, 0, 0, false, []⟩,
    ⟨some 43, none, .pick (.t 39) (.t 42) (.k (.bool false)), 0, 0, false, []⟩,
    ⟨some 8, none, .mov (.t 43), 0, 0, false, []⟩])
   (.seq (.seg false [⟨some 44, none, .mov (.t 7), 0, 0, false, []⟩,
    ⟨some 45, none, .un .not (.t 44), 0, 0, false, []⟩,
    ⟨some 46, none, .mov (.t 45), 0, 0, false, []⟩,
    ⟨some 47, some (46, true), .mov (.t 8), 0, 0, false, []⟩,
    ⟨some 48, some (46, true), .un .not (.t 47), 0, 0, false, []⟩,
    ⟨some 49, none, .pick (.t 46) (.t 48) (.k (.bool false)), 0, 0, false, []⟩,
    ⟨some 50, none, .mov (.t 49), 0, 0, false, []⟩,
    ⟨some 51, some (50, true), .call 21 [] false false, 0, 0, false, []⟩,
    ⟨some 52, none, .pick (.t 50) (.t 51) (.k (.bool false)), 0, 0, false, []⟩,
    ⟨some 2, none, .mov (.t 52), 0, 0, false, []⟩])
   (.ret))))))))⟩
/-- loop.example/tablehouse/laws.FnManyBounds -/
def F5 : F := ⟨80, [(false, 2, 0, false)],
   .seq (.seg false [⟨some 2, none, .mov (.k (.bool false)), 0, 0, false, []⟩])
   (.seq (.seq (.seg false [⟨some 10, none, .mov (.t 0), 0, 0, false, []⟩,
    ⟨some 11, none, .len false (.t 10), 0, 0, false, []⟩,
    ⟨some 12, none, .bin .gtr (.t 11) (.k (.int .i64 1048576)), 0, 0, false, []⟩])
   (.cond (.t 12) (.seq (.seg false [⟨some 2, none, .mov (.k (.bool true)), 0, 0, false, []⟩])
   (.ret))
   (.skip)))
   (.seq (.seg false [⟨some 14, none, .mov (.t 0), 0, 0, false, []⟩,
    ⟨some 15, none, .call 24 [.t 14] false false, 0, 0, false, []⟩,
    ⟨some 13, none, .mov (.t 15), 0, 0, false, []⟩,
    ⟨some 16, none, .ext (.t 13) 0, 0, 0, false, []⟩,
    ⟨some 17, none, .ext (.t 13) 1, 0, 0, false, []⟩,
    ⟨some 18, none, .ext (.t 13) 2, 0, 0, false, []⟩,
    ⟨some 3, none, .alloc [.int .i64 0, .int .i64 0, .int .i64 0, .int .i64 0, .str ⟨#[]⟩, .int .i64 0, .int .i64 0, .str ⟨#[]⟩], 0, 0, false, []⟩,
    ⟨some 5, none, .alloc [.int .i64 0, .int .i64 0, .str ⟨#[]⟩], 0, 0, false, []⟩,
    ⟨none, none, .store 8 (.t 3) (.t 16), 0, 0, false, []⟩,
    ⟨some 4, none, .mov (.t 17), 0, 0, false, []⟩,
    ⟨none, none, .store 3 (.t 5) (.t 18), 0, 0, false, []⟩])
   (.seq (.seg false [⟨some 20, none, .load true 8 (.t 3), 0, 0, false, []⟩,
    ⟨some 21, none, .mov (.t 4), 0, 0, false, []⟩,
    ⟨some 22, none, .load true 3 (.t 5), 0, 0, false, []⟩,
    ⟨some 23, none, .call 25 [.t 20, .t 21, .t 22] false false, 0, 0, false, []⟩,
    ⟨some 19, none, .mov (.t 23), 0, 0, false, []⟩,
    ⟨some 24, none, .ext (.t 19) 0, 0, 0, false, []⟩,
    ⟨some 25, none, .ext (.t 19) 1, 0, 0, false, []⟩,
    ⟨some 6, none, .mov (.t 24), 0, 0, false, []⟩,
    ⟨some 7, none, .mov (.t 25), 0, 0, false, []⟩])
   (.seq (.seg false [⟨some 27, none, .load true 8 (.t 3), 0, 0, false, []⟩,
    ⟨some 28, none, .mov (.t 4), 0, 0, false, []⟩,
    ⟨some 29, none, .load true 3 (.t 5), 0, 0, false, []⟩,
    ⟨some 30, none, .call 26 [.t 27, .t 28, .t 29] false false, 0, 0, false, []⟩,
    ⟨some 26, none, .mov (.t 30), 0, 0, false, []⟩,
    ⟨some 31, none, .ext (.t 26) 0, 0, 0, false, []⟩,
    ⟨some 32, none, .ext (.t 26) 1, 0, 0, false, []⟩,
    ⟨some 8, none, .mov (.t 31), 0, 0, false, []⟩,
    ⟨some 9, none, .mov (.t 32), 0, 0, false, []⟩])
   (.seq (.seq (.seg false [⟨some 33, none, .mov (.t 6), 0, 0, false, []⟩,
    ⟨some 34, none, .mov (.t 8), 0, 0, false, []⟩,
    ⟨some 35, none, .bin .neq (.t 33) (.t 34), 0, 0, false, []⟩,
    ⟨some 36, none, .mov (.t 35), 0, 0, false, []⟩,
    ⟨some 37, some (36, false), .mov (.t 7), 0, 0, false, []⟩,
    ⟨some 38, some (36, false), .mov (.t 9), 0, 0, false, []⟩,
    ⟨some 39, some (36, false), .bin .neq (.t 37) (.t 38), 0, 0, false, []⟩,
    ⟨some 40, none, .pick (.t 36) (.k (.bool true)) (.t 39), 0, 0, false, []⟩])
   (.cond (.t 40) (.seq (.seg false [⟨some 2, none, .mov (.k (.bool false)), 0, 0, false, []⟩])
   (.ret))
   (.skip)))
   (.seq (.seg false [⟨some 41, none, .mov (.t 6), 0, 0, false, []⟩,
    ⟨some 42, none, .bin .geq (.t 41) (.k (.int .i64 0)), 0, 0, false, []⟩,
    ⟨some 43, none, .mov (.t 42), 0, 0, false, []⟩,
    ⟨some 44, some (43, true), .mov (.t 6), 0, 0, false, []⟩,
    ⟨some 45, some (43, true), .mov (.t 7), 0, 0, false, []⟩,
    ⟨some 46, some (43, true), .bin .leq (.t 44) (.t 45), 0, 0, false, []⟩,
    ⟨some 47, none, .pick (.t 43) (.t 46) (.k (.bool false)), 0, 0, false, []⟩,
    ⟨some 48, none, .mov (.t 47), 0, 0, false, []⟩,
    ⟨some 49, some (48, true), .mov (.t 7), 0, 0, false, []⟩,
    ⟨some 50, some (48, true), .bin .eql (.t 49) (.k (.int .i64 0)), 0, 0, false, []⟩,
    ⟨some 51, some (48, true), .mov (.t 50), 0, 0, false, []⟩,
    ⟨some 52, some (51, false), .mov (.t 7), 0, 0, false, []⟩,
    ⟨some 53, some (51, false), .faddr 0 1 (.t 3), 0, 0, false, []⟩,
    ⟨some 54, some (51, false), .load false 1 (.t 53), 0, 0, false, []⟩,
    ⟨some 55, some (51, false), .bin .leq (.t 52) (.t 54), 0, 0, false, []⟩,
    ⟨some 56, some (51, false), .mov (.t 55), 0, 0, false, []⟩,
    ⟨some 57, some (56, true), .load true 8 (.t 3), 0, 0, false, []⟩,
    ⟨some 58, some (56, true), .mov (.t 4), 0, 0, false, []⟩,
    ⟨some 59, some (56, true), .load true 3 (.t 5), 0, 0, false, []⟩,
    ⟨some 60, some (56, true), .call 16 [.t 57, .t 58, .t 59] false false, 0, 0, false, []⟩,
    ⟨some 61, some (51, false), .pick (.t 56) (.t 60) (.k (.bool false)), 0, 0, false, []⟩,
    ⟨some 62, some (48, true), .pick (.t 51) (.k (.bool true)) (.t 61), 0, 0, false, []⟩,
    ⟨some 63, none, .pick (.t 48) (.t 62) (.k (.bool false)), 0, 0, false, []⟩,
    ⟨some 64, none, .mov (.t 63), 0, 0, false, []⟩,
    ⟨some 65, some (64, true), .load true 8 (.t 3), 0, 0, false, []⟩,
    ⟨some 66, some (64, true), .mov (.t 4), 0, 0, false, []⟩,
    ⟨some 67, some (64, true), .load true 3 (.t 5), 0, 0, false, []⟩,
    ⟨some 68, some (64, true), .call 20 [.t 65, .t 66, .t 67] false false, 0, 0, false, []⟩,
    ⟨some 69, some (64, true), .un .not (.t 68), 0, 0, false, []⟩,
    ⟨some 70, some (64, true), .mov (.t 69), 0, 0, false, []⟩,
    ⟨some 71, some (70, false), .mov (.t 6), 0, 0, false, []⟩,
    ⟨some 72, some (70, false), .faddr 0 1 (.t 3), 0, 0, false, []⟩,
    ⟨some 73, some (70, false), .load false 1 (.t 72), 0, 0, false, []⟩,
    ⟨some 74, some (70, false), .bin .eql (.t 71) (.t 73), 0, 0, false, []⟩,
    ⟨some 75, some (64, true), .pick (.t 70) (.k (.bool true)) (.t 74), 0, 0, false, []⟩,
    ⟨some 76, none, .pick (.t 64) (.t 75) (.k (.bool false)), 0, 0, false, []⟩,
    ⟨some 77, none, .mov (.t 76), 0, 0, false, []⟩,
    ⟨some 78, some (77, true), .call 21 [] false false, 0, 0, false, []⟩,
    ⟨some 79, none, .pick (.t 77) (.t 78) (.k (.bool false)), 0, 0, false, []⟩,
    ⟨some 2, none, .mov (.t 79), 0, 0, false, []⟩])
   (.ret)))))))⟩
def E6x0 : List I := [⟨some 23, none, .load true 8 (.t 6), 0, 0, false, []⟩,
    ⟨some 24, none, .mov (.t 3), 0, 0, false, []⟩,
    ⟨some 25, none, .mov (.t 4), 0, 0, false, []⟩,
    ⟨some 26, none, .mov (.t 5), 0, 0, false, []⟩,
    ⟨some 27, none, .call 29 [.t 24, .t 25, .t 26] false false, 0, 0, false, []⟩,
    ⟨some 28, none, .eqs true [.int, .int, .int, .int, .str, .int, .int, .str] (.t 23) (.t 27), 0, 0, false, []⟩,
    ⟨some 29, none, .mov (.t 28), 0, 0, false, []⟩,
    ⟨some 30, some (29, false), .load true 8 (.t 6), 0, 0, false, []⟩,
    ⟨some 31, some (29, false), .call 18 [.t 30] false false, 0, 0, false, []⟩,
    ⟨some 32, some (29, false), .un .not (.t 31), 0, 0, false, []⟩,
    ⟨some 33, none, .pick (.t 29) (.k (.bool true)) (.t 32), 0, 0, false, []⟩]
def D6x0 : List I := E6x0
theorem evD6x0 (run : Run) (e : Env) (h : Heap) : drawI run D6x0 e h = DrawS (evQ run E6x0 e h) run E6x0 e h := drawI_quiet run _ (by rfl) e h
def E6x1 : List I := [⟨some 53, none, .mov (.t 3), 0, 0, false, []⟩,
    ⟨some 54, none, .mov (.t 4), 0, 0, false, []⟩,
    ⟨some 55, none, .call 30 [.t 53, .t 54] false false, 0, 0, false, []⟩,
    ⟨some 56, none, .un .not (.t 55), 0, 0, false, []⟩,
    ⟨some 57, none, .mov (.t 56), 0, 0, false, []⟩,
    ⟨some 58, some (57, false), .load true 8 (.t 6), 0, 0, false, []⟩,
    ⟨some 59, some (57, false), .load true 8 (.t 8), 0, 0, false, []⟩,
    ⟨some 60, some (57, false), .load true 8 (.t 9), 0, 0, false, []⟩,
    ⟨some 61, some (57, false), .call 31 [.t 59, .t 60] false false, 0, 0, false, []⟩,
    ⟨some 62, some (57, false), .eqs false [.int, .int, .int, .int, .str, .int, .int, .str] (.t 58) (.t 61), 0, 0, false, []⟩,
    ⟨some 63, none, .pick (.t 57) (.k (.bool true)) (.t 62), 0, 0, false, []⟩,
    ⟨some 64, none, .mov (.t 63), 0, 0, false, []⟩,
    ⟨some 65, some (64, true), .call 21 [] false false, 0, 0, false, []⟩,
    ⟨some 66, none, .pick (.t 64) (.t 65) (.k (.bool false)), 0, 0, false, []⟩,
    ⟨some 2, none, .mov (.t 66), 0, 0, false, []⟩]
def D6x1 : List I := E6x1
theorem evD6x1 (run : Run) (e : Env) (h : Heap) : drawI run D6x1 e h = DrawS (evQ run E6x1 e h) run E6x1 e h := drawI_quiet run _ (by rfl) e h
/-- loop.example/tablehouse/laws.FnKnownColumn -/
def F6 : F := ⟨67, [(false, 2, 0, false)],
   .seq (.seg false [⟨some 2, none, .mov (.k (.bool false)), 0, 0, false, []⟩])
   (.seq (.seq (.seg false [⟨some 10, none, .mov (.t 0), 0, 0, false, []⟩,
    ⟨some 11, none, .len false (.t 10), 0, 0, false, []⟩,
    ⟨some 12, none, .bin .gtr (.t 11) (.k (.int .i64 1048576)), 0, 0, false, []⟩])
   (.cond (.t 12) (.seq (.seg false [⟨some 2, none, .mov (.k (.bool true)), 0, 0, false, []⟩])
   (.ret))
   (.skip)))
   (.seq (.seg false [⟨some 14, none, .mov (.t 0), 0, 0, false, []⟩,
    ⟨some 15, none, .call 27 [.t 14] false false, 0, 0, false, []⟩,
    ⟨some 13, none, .mov (.t 15), 0, 0, false, []⟩,
    ⟨some 16, none, .ext (.t 13) 0, 0, 0, false, []⟩,
    ⟨some 17, none, .ext (.t 13) 1, 0, 0, false, []⟩,
    ⟨some 18, none, .ext (.t 13) 2, 0, 0, false, []⟩,
    ⟨some 3, none, .mov (.t 16), 0, 0, false, []⟩,
    ⟨some 4, none, .mov (.t 17), 0, 0, false, []⟩,
    ⟨some 5, none, .mov (.t 18), 0, 0, false, []⟩])
   (.seq (.seg false [⟨some 19, none, .mov (.t 3), 0, 0, false, []⟩,
    ⟨some 20, none, .mov (.t 4), 0, 0, false, []⟩,
    ⟨some 21, none, .mov (.t 5), 0, 0, false, []⟩,
    ⟨some 22, none, .call 28 [.t 19, .t 20, .t 21] false false, 0, 0, false, []⟩,
    ⟨some 6, none, .alloc [.int .i64 0, .int .i64 0, .int .i64 0, .int .i64 0, .str ⟨#[]⟩, .int .i64 0, .int .i64 0, .str ⟨#[]⟩], 0, 0, false, []⟩,
    ⟨none, none, .store 8 (.t 6) (.t 22), 0, 0, false, []⟩])
   (.seq (.seq (.seg true D6x0)
   (.cond (.t 33) (.seq (.seg false [⟨some 2, none, .mov (.k (.bool false)), 0, 0, false, []⟩])
   (.ret))
   (.skip)))
   (.seq (.seg false [⟨some 34, none, .mov (.t 4), 0, 0, false, []⟩,
    ⟨some 35, none, .len false (.t 34), 0, 0, false, []⟩,
    ⟨some 36, none, .bin .quo (.t 35) (.k (.int .i64 2)), 0, 0, false, []⟩,
    ⟨some 7, none, .mov (.t 36), 0, 0, false, []⟩])
   (.seq (.seg false [⟨some 37, none, .mov (.t 3), 0, 0, false, []⟩,
    ⟨some 38, none, .mksl true 1 [], 0, 0, false, []⟩,
    ⟨some 39, none, .mov (.t 4), 0, 0, false, []⟩,
    ⟨some 40, none, .mov (.t 7), 0, 0, false, []⟩,
    ⟨some 41, none, .slc false 1 (.t 39) none (some (.t 40)) none, 0, 0, false, []⟩,
    ⟨some 42, none, .app 1 (.t 38) (.t 41), 0, 0, false, []⟩,
    ⟨some 43, none, .mov (.t 5), 0, 0, false, []⟩,
    ⟨some 44, none, .call 28 [.t 37, .t 42, .t 43] false false, 0, 0, false, []⟩,
    ⟨some 8, none, .alloc [.int .i64 0, .int .i64 0, .int .i64 0, .int .i64 0, .str ⟨#[]⟩, .int .i64 0, .int .i64 0, .str ⟨#[]⟩], 0, 0, false, []⟩,
    ⟨none, none, .store 8 (.t 8) (.t 44), 0, 0, false, []⟩])
   (.seq (.seg false [⟨some 45, none, .mov (.t 3), 0, 0, false, []⟩,
    ⟨some 46, none, .mksl true 1 [], 0, 0, false, []⟩,
    ⟨some 47, none, .mov (.t 4), 0, 0, false, []⟩,
    ⟨some 48, none, .mov (.t 7), 0, 0, false, []⟩,
    ⟨some 49, none, .slc false 1 (.t 47) (some (.t 48)) none none, 0, 0, false, []⟩,
    ⟨some 50, none, .app 1 (.t 46) (.t 49), 0, 0, false, []⟩,
    ⟨some 51, none, .mov (.t 5), 0, 0, false, []⟩,
    ⟨some 52, none, .call 28 [.t 45, .t 50, .t 51] false false, 0, 0, false, []⟩,
    ⟨some 9, none, .alloc [.int .i64 0, .int .i64 0, .int .i64 0, .int .i64 0, .str ⟨#[]⟩, .int .i64 0, .int .i64 0, .str ⟨#[]⟩], 0, 0, false, []⟩,
    ⟨none, none, .store 8 (.t 9) (.t 52), 0, 0, false, []⟩])
   (.seq (.seg true D6x1)
   (.ret)))))))))⟩
def E8x0 : List I := [⟨some 28, none, .load true 8 (.t 8), 0, 0, false, []⟩,
    ⟨some 29, none, .mov (.t 3), 0, 0, false, []⟩,
    ⟨some 30, none, .mov (.t 4), 0, 0, false, []⟩,
    ⟨some 31, none, .mov (.t 5), 0, 0, false, []⟩,
    ⟨some 32, none, .call 29 [.t 29, .t 30, .t 31] false false, 0, 0, false, []⟩,
    ⟨some 33, none, .eqs true [.int, .int, .int, .int, .str, .int, .int, .str] (.t 28) (.t 32), 0, 0, false, []⟩]
def D8x0 : List I := E8x0
theorem evD8x0 (run : Run) (e : Env) (h : Heap) : drawI run D8x0 e h = DrawS (evQ run E8x0 e h) run E8x0 e h := drawI_quiet run _ (by rfl) e h
def E8x1 : List I := [⟨some 40, none, .mov (.t 6), 0, 0, false, []⟩,
    ⟨some 41, none, .mov (.t 4), 0, 0, false, []⟩,
    ⟨some 42, none, .mov (.t 10), 0, 0, false, []⟩,
    ⟨some 43, none, .iaddr 1 (.t 41) (.t 42), 0, 0, false, []⟩,
    ⟨some 44, none, .load false 1 (.t 43), 0, 0, false, []⟩,
    ⟨some 45, none, .mov (.t 5), 0, 0, false, []⟩,
    ⟨some 46, none, .iaddr 3 (.t 44) (.t 45), 0, 0, false, []⟩,
    ⟨some 47, none, .load true 3 (.t 46), 0, 0, false, []⟩,
    ⟨some 48, none, .load true 3 (.t 7), 0, 0, false, []⟩,
    ⟨some 49, none, .call 40 [.t 40, .t 47, .t 48] false false, 0, 0, false, []⟩,
    ⟨some 50, none, .bin .eql (.t 49) (.k (.int .i64 1)), 0, 0, false, []⟩]
def D8x1 : List I := E8x1
theorem evD8x1 (run : Run) (e : Env) (h : Heap) : drawI run D8x1 e h = DrawS (evQ run E8x1 e h) run E8x1 e h := drawI_quiet run _ (by rfl) e h
def B8x0 : C := .seq (.seq (.seg false [⟨some 34, none, .mov (.t 10), 0, 0, false, []⟩,
    ⟨some 35, none, .mov (.t 4), 0, 0, false, []⟩,
    ⟨some 36, none, .len false (.t 35), 0, 0, false, []⟩,
    ⟨some 37, none, .bin .lss (.t 34) (.t 36), 0, 0, false, []⟩])
   (.cond (.t 37) (.skip)
   (.exit 0)))
   (.seq (.block 1 (.seq (.seg true D8x1)
   (.cond (.t 50) (.seg false [⟨some 51, none, .mov (.t 9), 0, 0, false, []⟩,
    ⟨some 52, none, .bin .add (.t 51) (.k (.int .i64 1)), 0, 0, false, []⟩,
    ⟨some 9, none, .mov (.t 52), 0, 0, false, []⟩])
   (.skip))))
   (.seg false [⟨some 38, none, .mov (.t 10), 0, 0, false, []⟩,
    ⟨some 39, none, .bin .add (.t 38) (.k (.int .i64 1)), 0, 0, false, []⟩,
    ⟨some 10, none, .mov (.t 39), 0, 0, false, []⟩]))
def L8x0 : C := B8x0
theorem evL8x0 (run : Run) (draw : List I → Env → Heap → Option (Env × Heap)) (e : Env) (h : Heap) : evC run draw L8x0 e h = evC run draw B8x0 e h := rfl
/-- loop.example/tablehouse/laws.FnSkipped -/
def F8 : F := ⟨71, [(false, 2, 0, false)],
   .seq (.seg false [⟨some 2, none, .mov (.k (.bool false)), 0, 0, false, []⟩])
   (.seq (.seq (.seg false [⟨some 13, none, .mov (.t 0), 0, 0, false, []⟩,
    ⟨some 14, none, .len false (.t 13), 0, 0, false, []⟩,
    ⟨some 15, none, .bin .gtr (.t 14) (.k (.int .i64 1048576)), 0, 0, false, []⟩])
   (.cond (.t 15) (.seq (.seg false [⟨some 2, none, .mov (.k (.bool true)), 0, 0, false, []⟩])
   (.ret))
   (.skip)))
   (.seq (.seg false [⟨some 17, none, .mov (.t 0), 0, 0, false, []⟩,
    ⟨some 18, none, .call 39 [.t 17] false false, 0, 0, false, []⟩,
    ⟨some 16, none, .mov (.t 18), 0, 0, false, []⟩,
    ⟨some 19, none, .ext (.t 16) 0, 0, 0, false, []⟩,
    ⟨some 20, none, .ext (.t 16) 1, 0, 0, false, []⟩,
    ⟨some 21, none, .ext (.t 16) 2, 0, 0, false, []⟩,
    ⟨some 22, none, .ext (.t 16) 3, 0, 0, false, []⟩,
    ⟨some 23, none, .ext (.t 16) 4, 0, 0, false, []⟩,
    ⟨some 7, none, .alloc [.int .i64 0, .int .i64 0, .str ⟨#[]⟩], 0, 0, false, []⟩,
    ⟨some 3, none, .mov (.t 19), 0, 0, false, []⟩,
    ⟨some 4, none, .mov (.t 20), 0, 0, false, []⟩,
    ⟨some 5, none, .mov (.t 21), 0, 0, false, []⟩,
    ⟨some 6, none, .mov (.t 22), 0, 0, false, []⟩,
    ⟨none, none, .store 3 (.t 7) (.t 23), 0, 0, false, []⟩])
   (.seq (.seg false [⟨some 24, none, .mov (.t 3), 0, 0, false, []⟩,
    ⟨some 25, none, .mov (.t 4), 0, 0, false, []⟩,
    ⟨some 26, none, .mov (.t 5), 0, 0, false, []⟩,
    ⟨some 27, none, .call 28 [.t 24, .t 25, .t 26] false false, 0, 0, false, []⟩,
    ⟨some 8, none, .alloc [.int .i64 0, .int .i64 0, .int .i64 0, .int .i64 0, .str ⟨#[]⟩, .int .i64 0, .int .i64 0, .str ⟨#[]⟩], 0, 0, false, []⟩,
    ⟨none, none, .store 8 (.t 8) (.t 27), 0, 0, false, []⟩])
   (.seq (.seq (.seg true D8x0)
   (.cond (.t 33) (.seq (.seg false [⟨some 2, none, .mov (.k (.bool false)), 0, 0, false, []⟩])
   (.ret))
   (.skip)))
   (.seq (.seg false [⟨some 9, none, .mov (.k (.int .i64 0)), 0, 0, false, []⟩])
   (.seq (.seq (.seg false [⟨some 10, none, .mov (.k (.int .i64 0)), 0, 0, false, []⟩])
   (.block 0 (.loop [4, 5, 6, 7, 8, 9, 10] [6, 7, 8, 9] L8x0)))
   (.seq (.seg false [⟨some 54, none, .load true 8 (.t 8), 0, 0, false, []⟩,
    ⟨some 55, none, .mov (.t 6), 0, 0, false, []⟩,
    ⟨some 56, none, .load true 3 (.t 7), 0, 0, false, []⟩,
    ⟨some 57, none, .call 25 [.t 54, .t 55, .t 56] false false, 0, 0, false, []⟩,
    ⟨some 53, none, .mov (.t 57), 0, 0, false, []⟩,
    ⟨some 58, none, .ext (.t 53) 0, 0, 0, false, []⟩,
    ⟨some 59, none, .ext (.t 53) 1, 0, 0, false, []⟩,
    ⟨some 11, none, .mov (.t 58), 0, 0, false, []⟩,
    ⟨some 12, none, .mov (.t 59), 0, 0, false, []⟩])
   (.seq (.seg false [⟨some 60, none, .mov (.t 11), 0, 0, false, []⟩,
    ⟨some 61, none, .mov (.t 9), 0, 0, false, []⟩,
    ⟨some 62, none, .bin .leq (.t 60) (.t 61), 0, 0, false, []⟩,
    ⟨some 63, none, .mov (.t 62), 0, 0, false, []⟩,
    ⟨some 64, some (63, true), .mov (.t 9), 0, 0, false, []⟩,
    ⟨some 65, some (63, true), .mov (.t 12), 0, 0, false, []⟩,
    ⟨some 66, some (63, true), .bin .leq (.t 64) (.t 65), 0, 0, false, []⟩,
    ⟨some 67, none, .pick (.t 63) (.t 66) (.k (.bool false)), 0, 0, false, []⟩,
    ⟨some 68, none, .mov (.t 67), 0, 0, false, []⟩,
    ⟨some 69, some (68, true), .call 21 [] false false, 0, 0, false, []⟩,
    ⟨some 70, none, .pick (.t 68) (.t 69) (.k (.bool false)), 0, 0, false, []⟩,
    ⟨some 2, none, .mov (.t 70), 0, 0, false, []⟩])
   (.ret)))))))))⟩
/-- loop.example/tablehouse/spec.DrawMayHold -/
def F15 : F := ⟨11, [(true, 2, 8, true), (false, 3, 0, false), (true, 4, 3, true)],
   .seq (.seg false [⟨some 2, none, .alloc [.int .i64 0, .int .i64 0, .int .i64 0, .int .i64 0, .str ⟨#[]⟩, .int .i64 0, .int .i64 0, .str ⟨#[]⟩], 0, 0, false, []⟩,
    ⟨some 3, none, .mov (.k (.int .i64 0)), 0, 0, false, []⟩,
    ⟨some 4, none, .alloc [.int .i64 0, .int .i64 0, .str ⟨#[]⟩], 0, 0, false, []⟩])
   (.seq (.seg false [⟨some 5, none, .mov (.t 0), 0, 0, false, []⟩,
    ⟨some 6, none, .call 76 [.t 5] true true, 0, 0, false, []⟩,
    ⟨some 7, none, .call 75 [.t 6] true false, 0, 0, false, []⟩,
    ⟨some 8, none, .ext (.t 7) 0, 0, 0, false, []⟩,
    ⟨some 9, none, .ext (.t 7) 1, 0, 0, false, []⟩,
    ⟨some 10, none, .ext (.t 7) 2, 0, 0, false, []⟩,
    ⟨none, none, .store 8 (.t 2) (.t 8), 0, 0, false, []⟩,
    ⟨some 3, none, .mov (.t 9), 0, 0, false, []⟩,
    ⟨none, none, .store 3 (.t 4) (.t 10), 0, 0, false, []⟩])
   (.ret))⟩
def E16x0 : List I := [⟨some 14, none, .faddr 2 3 (.t 3), 0, 0, false, []⟩,
    ⟨some 15, none, .load true 3 (.t 14), 0, 0, false, []⟩,
    ⟨some 16, none, .load true 3 (.t 5), 0, 0, false, []⟩,
    ⟨some 17, none, .call 78 [.t 15, .t 16] false false, 0, 0, false, []⟩,
    ⟨some 18, none, .faddr 5 3 (.t 3), 0, 0, false, []⟩,
    ⟨some 19, none, .load true 3 (.t 18), 0, 0, false, []⟩,
    ⟨some 20, none, .load true 3 (.t 5), 0, 0, false, []⟩,
    ⟨some 21, none, .call 78 [.t 19, .t 20] false false, 0, 0, false, []⟩,
    ⟨some 7, none, .mov (.t 17), 0, 0, false, []⟩,
    ⟨some 8, none, .mov (.t 21), 0, 0, false, []⟩]
def D16x0 : List I := E16x0
theorem evD16x0 (run : Run) (e : Env) (h : Heap) : drawI run D16x0 e h = DrawS (evQ run E16x0 e h) run E16x0 e h := drawI_quiet run _ (by rfl) e h
/-- loop.example/tablehouse/impl.MayHold -/
def F16 : F := ⟨45, [(false, 6, 0, false)],
   .seq (.seg false [⟨some 3, none, .box (.t 0), 0, 0, false, []⟩,
    ⟨some 5, none, .box (.t 2), 0, 0, false, []⟩,
    ⟨some 6, none, .mov (.k (.bool false)), 0, 0, false, []⟩])
   (.seq (.seq (.seg false [⟨some 9, none, .load true 8 (.t 3), 0, 0, false, []⟩,
    ⟨some 10, none, .mov (.t 1), 0, 0, false, []⟩,
    ⟨some 11, none, .load true 3 (.t 5), 0, 0, false, []⟩,
    ⟨some 12, none, .call 77 [.t 9, .t 10, .t 11] false false, 0, 0, false, []⟩,
    ⟨some 13, none, .un .not (.t 12), 0, 0, false, []⟩])
   (.cond (.t 13) (.seq (.seg false [⟨some 6, none, .mov (.k (.bool false)), 0, 0, false, []⟩])
   (.ret))
   (.skip)))
   (.seq (.seg true D16x0)
   (.seq (.seq (.seg false [⟨some 22, none, .mov (.t 1), 0, 0, false, []⟩])
   (.block 0 (.seq (.seg false [⟨some 24, none, .bin .eql (.t 22) (.k (.int .i64 1)), 0, 0, false, []⟩,
    ⟨some 23, none, .mov (.t 24), 0, 0, false, []⟩])
   (.cond (.t 23) (.seq (.seg false [⟨some 25, none, .mov (.t 7), 0, 0, false, []⟩,
    ⟨some 26, none, .bin .leq (.t 25) (.k (.int .i64 0)), 0, 0, false, []⟩,
    ⟨some 27, none, .mov (.t 26), 0, 0, false, []⟩,
    ⟨some 28, some (27, true), .mov (.t 8), 0, 0, false, []⟩,
    ⟨some 29, some (27, true), .bin .geq (.t 28) (.k (.int .i64 0)), 0, 0, false, []⟩,
    ⟨some 30, none, .pick (.t 27) (.t 29) (.k (.bool false)), 0, 0, false, []⟩,
    ⟨some 6, none, .mov (.t 30), 0, 0, false, []⟩])
   (.ret))
   (.seq (.seg false [⟨some 32, none, .bin .eql (.t 22) (.k (.int .i64 2)), 0, 0, false, []⟩,
    ⟨some 31, none, .mov (.t 32), 0, 0, false, []⟩])
   (.cond (.t 31) (.seq (.seg false [⟨some 33, none, .mov (.t 7), 0, 0, false, []⟩,
    ⟨some 34, none, .bin .neq (.t 33) (.k (.int .i64 0)), 0, 0, false, []⟩,
    ⟨some 35, none, .mov (.t 34), 0, 0, false, []⟩,
    ⟨some 36, some (35, false), .mov (.t 8), 0, 0, false, []⟩,
    ⟨some 37, some (35, false), .bin .neq (.t 36) (.k (.int .i64 0)), 0, 0, false, []⟩,
    ⟨some 38, none, .pick (.t 35) (.k (.bool true)) (.t 37), 0, 0, false, []⟩,
    ⟨some 6, none, .mov (.t 38), 0, 0, false, []⟩])
   (.ret))
   (.seq (.seg false [⟨some 40, none, .bin .eql (.t 22) (.k (.int .i64 3)), 0, 0, false, []⟩,
    ⟨some 39, none, .mov (.t 40), 0, 0, false, []⟩])
   (.cond (.t 39) (.seq (.seg false [⟨some 41, none, .mov (.t 7), 0, 0, false, []⟩,
    ⟨some 42, none, .bin .lss (.t 41) (.k (.int .i64 0)), 0, 0, false, []⟩,
    ⟨some 6, none, .mov (.t 42), 0, 0, false, []⟩])
   (.ret))
   (.skip)))))))))
   (.seq (.seg false [⟨some 43, none, .mov (.t 7), 0, 0, false, []⟩,
    ⟨some 44, none, .bin .leq (.t 43) (.k (.int .i64 0)), 0, 0, false, []⟩,
    ⟨some 6, none, .mov (.t 44), 0, 0, false, []⟩])
   (.ret)))))⟩
/-- loop.example/tablehouse/spec.MayHold -/
def F17 : F := ⟨69, [(false, 6, 0, false)],
   .seq (.seg false [⟨some 3, none, .box (.t 0), 0, 0, false, []⟩,
    ⟨some 5, none, .box (.t 2), 0, 0, false, []⟩,
    ⟨some 6, none, .mov (.k (.bool false)), 0, 0, false, []⟩])
   (.seq (.seq (.seg false [⟨some 7, none, .load true 8 (.t 3), 0, 0, false, []⟩,
    ⟨some 8, none, .call 79 [.t 7] false false, 0, 0, false, []⟩,
    ⟨some 9, none, .un .not (.t 8), 0, 0, false, []⟩,
    ⟨some 10, none, .mov (.t 9), 0, 0, false, []⟩,
    ⟨some 11, some (10, false), .faddr 0 1 (.t 3), 0, 0, false, []⟩,
    ⟨some 12, some (10, false), .load false 1 (.t 11), 0, 0, false, []⟩,
    ⟨some 13, some (10, false), .bin .eql (.t 12) (.k (.int .i64 0)), 0, 0, false, []⟩,
    ⟨some 14, none, .pick (.t 10) (.k (.bool true)) (.t 13), 0, 0, false, []⟩,
    ⟨some 15, none, .mov (.t 14), 0, 0, false, []⟩,
    ⟨some 16, some (15, false), .load true 3 (.t 5), 0, 0, false, []⟩,
    ⟨some 17, some (15, false), .call 80 [.t 16] false false, 0, 0, false, []⟩,
    ⟨some 18, some (15, false), .un .not (.t 17), 0, 0, false, []⟩,
    ⟨some 19, none, .pick (.t 15) (.k (.bool true)) (.t 18), 0, 0, false, []⟩,
    ⟨some 20, none, .mov (.t 19), 0, 0, false, []⟩,
    ⟨some 21, some (20, false), .faddr 0 1 (.t 5), 0, 0, false, []⟩,
    ⟨some 22, some (20, false), .load false 1 (.t 21), 0, 0, false, []⟩,
    ⟨some 23, some (20, false), .faddr 2 3 (.t 3), 0, 0, false, []⟩,
    ⟨some 24, some (20, false), .faddr 0 1 (.t 23), 0, 0, false, []⟩,
    ⟨some 25, some (20, false), .load false 1 (.t 24), 0, 0, false, []⟩,
    ⟨some 26, some (20, false), .bin .neq (.t 22) (.t 25), 0, 0, false, []⟩,
    ⟨some 27, none, .pick (.t 20) (.k (.bool true)) (.t 26), 0, 0, false, []⟩])
   (.cond (.t 27) (.seq (.seg false [⟨some 6, none, .mov (.k (.bool false)), 0, 0, false, []⟩])
   (.ret))
   (.skip)))
   (.seq (.seq (.seg false [⟨some 28, none, .mov (.t 1), 0, 0, false, []⟩])
   (.block 0 (.seq (.seg false [⟨some 30, none, .bin .eql (.t 28) (.k (.int .i64 1)), 0, 0, false, []⟩,
    ⟨some 29, none, .mov (.t 30), 0, 0, false, []⟩])
   (.cond (.t 29) (.seq (.seg false [⟨some 31, none, .faddr 2 3 (.t 3), 0, 0, false, []⟩,
    ⟨some 32, none, .load true 3 (.t 31), 0, 0, false, []⟩,
    ⟨some 33, none, .load true 3 (.t 5), 0, 0, false, []⟩,
    ⟨some 34, none, .call 81 [.t 32, .t 33] false false, 0, 0, false, []⟩,
    ⟨some 35, none, .bin .leq (.t 34) (.k (.int .i64 0)), 0, 0, false, []⟩,
    ⟨some 36, none, .mov (.t 35), 0, 0, false, []⟩,
    ⟨some 37, some (36, true), .load true 3 (.t 5), 0, 0, false, []⟩,
    ⟨some 38, some (36, true), .faddr 5 3 (.t 3), 0, 0, false, []⟩,
    ⟨some 39, some (36, true), .load true 3 (.t 38), 0, 0, false, []⟩,
    ⟨some 40, some (36, true), .call 81 [.t 37, .t 39] false false, 0, 0, false, []⟩,
    ⟨some 41, some (36, true), .bin .leq (.t 40) (.k (.int .i64 0)), 0, 0, false, []⟩,
    ⟨some 42, none, .pick (.t 36) (.t 41) (.k (.bool false)), 0, 0, false, []⟩,
    ⟨some 6, none, .mov (.t 42), 0, 0, false, []⟩])
   (.ret))
   (.seq (.seg false [⟨some 44, none, .bin .eql (.t 28) (.k (.int .i64 2)), 0, 0, false, []⟩,
    ⟨some 43, none, .mov (.t 44), 0, 0, false, []⟩])
   (.cond (.t 43) (.seq (.seg false [⟨some 45, none, .faddr 2 3 (.t 3), 0, 0, false, []⟩,
    ⟨some 46, none, .load true 3 (.t 45), 0, 0, false, []⟩,
    ⟨some 47, none, .load true 3 (.t 5), 0, 0, false, []⟩,
    ⟨some 48, none, .eqs true [.int, .int, .str] (.t 46) (.t 47), 0, 0, false, []⟩,
    ⟨some 49, none, .mov (.t 48), 0, 0, false, []⟩,
    ⟨some 50, some (49, false), .faddr 5 3 (.t 3), 0, 0, false, []⟩,
    ⟨some 51, some (49, false), .load true 3 (.t 50), 0, 0, false, []⟩,
    ⟨some 52, some (49, false), .load true 3 (.t 5), 0, 0, false, []⟩,
    ⟨some 53, some (49, false), .eqs true [.int, .int, .str] (.t 51) (.t 52), 0, 0, false, []⟩,
    ⟨some 54, none, .pick (.t 49) (.k (.bool true)) (.t 53), 0, 0, false, []⟩,
    ⟨some 6, none, .mov (.t 54), 0, 0, false, []⟩])
   (.ret))
   (.seq (.seg false [⟨some 56, none, .bin .eql (.t 28) (.k (.int .i64 3)), 0, 0, false, []⟩,
    ⟨some 55, none, .mov (.t 56), 0, 0, false, []⟩])
   (.cond (.t 55) (.seq (.seg false [⟨some 57, none, .faddr 2 3 (.t 3), 0, 0, false, []⟩,
    ⟨some 58, none, .load true 3 (.t 57), 0, 0, false, []⟩,
    ⟨some 59, none, .load true 3 (.t 5), 0, 0, false, []⟩,
    ⟨some 60, none, .call 81 [.t 58, .t 59] false false, 0, 0, false, []⟩,
    ⟨some 61, none, .bin .lss (.t 60) (.k (.int .i64 0)), 0, 0, false, []⟩,
    ⟨some 6, none, .mov (.t 61), 0, 0, false, []⟩])
   (.ret))
   (.seq (.seg false [⟨some 63, none, .bin .eql (.t 28) (.k (.int .i64 4)), 0, 0, false, []⟩,
    ⟨some 62, none, .mov (.t 63), 0, 0, false, []⟩])
   (.cond (.t 62) (.seq (.seg false [⟨some 64, none, .faddr 2 3 (.t 3), 0, 0, false, []⟩,
    ⟨some 65, none, .load true 3 (.t 64), 0, 0, false, []⟩,
    ⟨some 66, none, .load true 3 (.t 5), 0, 0, false, []⟩,
    ⟨some 67, none, .call 81 [.t 65, .t 66] false false, 0, 0, false, []⟩,
    ⟨some 68, none, .bin .leq (.t 67) (.k (.int .i64 0)), 0, 0, false, []⟩,
    ⟨some 6, none, .mov (.t 68), 0, 0, false, []⟩])
   (.ret))
   (.skip)))))))))))
   (.seq (.seg false [⟨some 6, none, .mov (.k (.bool false)), 0, 0, false, []⟩])
   (.ret))))⟩
/-- loop.example/tablehouse/impl.KnownOk -/
def F18 : F := ⟨67, [(false, 2, 0, false)],
   .seq (.seg false [⟨some 1, none, .box (.t 0), 0, 0, false, []⟩,
    ⟨some 2, none, .mov (.k (.bool false)), 0, 0, false, []⟩])
   (.seq (.seq (.seg false [⟨some 3, none, .faddr 0 1 (.t 1), 0, 0, false, []⟩,
    ⟨some 4, none, .load false 1 (.t 3), 0, 0, false, []⟩,
    ⟨some 5, none, .bin .eql (.t 4) (.k (.int .i64 0)), 0, 0, false, []⟩])
   (.cond (.t 5) (.seq (.seg false [⟨some 6, none, .load true 8 (.t 1), 0, 0, false, []⟩,
    ⟨some 7, none, .build [.int .i64 0, .int .i64 0, .int .i64 0, .int .i64 0, .str ⟨#[]⟩, .int .i64 0, .int .i64 0, .str ⟨#[]⟩] [], 0, 0, false, []⟩,
    ⟨some 8, none, .eqs false [.int, .int, .int, .int, .str, .int, .int, .str] (.t 6) (.t 7), 0, 0, false, []⟩,
    ⟨some 2, none, .mov (.t 8), 0, 0, false, []⟩])
   (.ret))
   (.skip)))
   (.seq (.seg false [⟨some 9, none, .faddr 0 1 (.t 1), 0, 0, false, []⟩,
    ⟨some 10, none, .load false 1 (.t 9), 0, 0, false, []⟩,
    ⟨some 11, none, .call 82 [.t 10, .k (.int .i64 1), .k (.int .i64 100)] false false, 0, 0, false, []⟩,
    ⟨some 12, none, .mov (.t 11), 0, 0, false, []⟩,
    ⟨some 13, some (12, true), .faddr 1 1 (.t 1), 0, 0, false, []⟩,
    ⟨some 14, some (12, true), .load false 1 (.t 13), 0, 0, false, []⟩,
    ⟨some 15, some (12, true), .faddr 0 1 (.t 1), 0, 0, false, []⟩,
    ⟨some 16, some (12, true), .load false 1 (.t 15), 0, 0, false, []⟩,
    ⟨some 17, some (12, true), .bin .mul (.k (.int .i64 (-9999))) (.t 16), 0, 0, false, []⟩,
    ⟨some 18, some (12, true), .faddr 0 1 (.t 1), 0, 0, false, []⟩,
    ⟨some 19, some (12, true), .load false 1 (.t 18), 0, 0, false, []⟩,
    ⟨some 20, some (12, true), .bin .mul (.k (.int .i64 9999)) (.t 19), 0, 0, false, []⟩,
    ⟨some 21, some (12, true), .call 82 [.t 14, .t 17, .t 20] false false, 0, 0, false, []⟩,
    ⟨some 22, none, .pick (.t 12) (.t 21) (.k (.bool false)), 0, 0, false, []⟩,
    ⟨some 23, none, .mov (.t 22), 0, 0, false, []⟩,
    ⟨some 24, some (23, true), .faddr 2 3 (.t 1), 0, 0, false, []⟩,
    ⟨some 25, some (23, true), .load true 3 (.t 24), 0, 0, false, []⟩,
    ⟨some 26, some (23, true), .call 83 [.t 25] false false, 0, 0, false, []⟩,
    ⟨some 27, none, .pick (.t 23) (.t 26) (.k (.bool false)), 0, 0, false, []⟩,
    ⟨some 28, none, .mov (.t 27), 0, 0, false, []⟩,
    ⟨some 29, some (28, true), .faddr 5 3 (.t 1), 0, 0, false, []⟩,
    ⟨some 30, some (28, true), .load true 3 (.t 29), 0, 0, false, []⟩,
    ⟨some 31, some (28, true), .call 83 [.t 30] false false, 0, 0, false, []⟩,
    ⟨some 32, none, .pick (.t 28) (.t 31) (.k (.bool false)), 0, 0, false, []⟩,
    ⟨some 33, none, .mov (.t 32), 0, 0, false, []⟩,
    ⟨some 34, some (33, true), .faddr 2 3 (.t 1), 0, 0, false, []⟩,
    ⟨some 35, some (33, true), .faddr 0 1 (.t 34), 0, 0, false, []⟩,
    ⟨some 36, some (33, true), .load false 1 (.t 35), 0, 0, false, []⟩,
    ⟨some 37, some (33, true), .faddr 5 3 (.t 1), 0, 0, false, []⟩,
    ⟨some 38, some (33, true), .faddr 0 1 (.t 37), 0, 0, false, []⟩,
    ⟨some 39, some (33, true), .load false 1 (.t 38), 0, 0, false, []⟩,
    ⟨some 40, some (33, true), .bin .eql (.t 36) (.t 39), 0, 0, false, []⟩,
    ⟨some 41, none, .pick (.t 33) (.t 40) (.k (.bool false)), 0, 0, false, []⟩,
    ⟨some 42, none, .mov (.t 41), 0, 0, false, []⟩,
    ⟨some 43, some (42, true), .faddr 2 3 (.t 1), 0, 0, false, []⟩,
    ⟨some 44, some (42, true), .faddr 0 1 (.t 43), 0, 0, false, []⟩,
    ⟨some 45, some (42, true), .load false 1 (.t 44), 0, 0, false, []⟩,
    ⟨some 46, some (42, true), .bin .neq (.t 45) (.k (.int .i64 0)), 0, 0, false, []⟩,
    ⟨some 47, none, .pick (.t 42) (.t 46) (.k (.bool false)), 0, 0, false, []⟩,
    ⟨some 48, none, .mov (.t 47), 0, 0, false, []⟩,
    ⟨some 49, some (48, true), .faddr 2 3 (.t 1), 0, 0, false, []⟩,
    ⟨some 50, some (48, true), .load true 3 (.t 49), 0, 0, false, []⟩,
    ⟨some 51, some (48, true), .faddr 5 3 (.t 1), 0, 0, false, []⟩,
    ⟨some 52, some (48, true), .load true 3 (.t 51), 0, 0, false, []⟩,
    ⟨some 53, some (48, true), .call 78 [.t 50, .t 52] false false, 0, 0, false, []⟩,
    ⟨some 54, some (48, true), .bin .leq (.t 53) (.k (.int .i64 0)), 0, 0, false, []⟩,
    ⟨some 55, none, .pick (.t 48) (.t 54) (.k (.bool false)), 0, 0, false, []⟩,
    ⟨some 56, none, .mov (.t 55), 0, 0, false, []⟩,
    ⟨some 57, some (56, true), .faddr 2 3 (.t 1), 0, 0, false, []⟩,
    ⟨some 58, some (56, true), .faddr 0 1 (.t 57), 0, 0, false, []⟩,
    ⟨some 59, some (56, true), .load false 1 (.t 58), 0, 0, false, []⟩,
    ⟨some 60, some (56, true), .bin .eql (.t 59) (.k (.int .i64 1)), 0, 0, false, []⟩,
    ⟨some 61, some (56, true), .mov (.t 60), 0, 0, false, []⟩,
    ⟨some 62, some (61, false), .faddr 1 1 (.t 1), 0, 0, false, []⟩,
    ⟨some 63, some (61, false), .load false 1 (.t 62), 0, 0, false, []⟩,
    ⟨some 64, some (61, false), .bin .eql (.t 63) (.k (.int .i64 0)), 0, 0, false, []⟩,
    ⟨some 65, some (56, true), .pick (.t 61) (.k (.bool true)) (.t 64), 0, 0, false, []⟩,
    ⟨some 66, none, .pick (.t 56) (.t 65) (.k (.bool false)), 0, 0, false, []⟩,
    ⟨some 2, none, .mov (.t 66), 0, 0, false, []⟩])
   (.ret)))⟩
/-- loop.example/tablehouse/impl.ValueOk -/
def F19 : F := ⟨5, [(false, 2, 0, false)],
   .seq (.seg false [⟨some 1, none, .box (.t 0), 0, 0, false, []⟩,
    ⟨some 2, none, .mov (.k (.bool false)), 0, 0, false, []⟩])
   (.seq (.seg false [⟨some 3, none, .load true 3 (.t 1), 0, 0, false, []⟩,
    ⟨some 4, none, .call 83 [.t 3] false false, 0, 0, false, []⟩,
    ⟨some 2, none, .mov (.t 4), 0, 0, false, []⟩])
   (.ret))⟩
def E20x0 : List I := [⟨some 14, none, .faddr 2 3 (.t 3), 0, 0, false, []⟩,
    ⟨some 15, none, .load true 3 (.t 14), 0, 0, false, []⟩,
    ⟨some 16, none, .load true 3 (.t 5), 0, 0, false, []⟩,
    ⟨some 17, none, .call 78 [.t 15, .t 16] false false, 0, 0, false, []⟩,
    ⟨some 18, none, .faddr 5 3 (.t 3), 0, 0, false, []⟩,
    ⟨some 19, none, .load true 3 (.t 18), 0, 0, false, []⟩,
    ⟨some 20, none, .load true 3 (.t 5), 0, 0, false, []⟩,
    ⟨some 21, none, .call 78 [.t 19, .t 20] false false, 0, 0, false, []⟩,
    ⟨some 7, none, .mov (.t 17), 0, 0, false, []⟩,
    ⟨some 8, none, .mov (.t 21), 0, 0, false, []⟩]
def D20x0 : List I := E20x0
theorem evD20x0 (run : Run) (e : Env) (h : Heap) : drawI run D20x0 e h = DrawS (evQ run E20x0 e h) run E20x0 e h := drawI_quiet run _ (by rfl) e h
/-- loop.example/tablehouse/impl.MustHold -/
def F20 : F := ⟨45, [(false, 6, 0, false)],
   .seq (.seg false [⟨some 3, none, .box (.t 0), 0, 0, false, []⟩,
    ⟨some 5, none, .box (.t 2), 0, 0, false, []⟩,
    ⟨some 6, none, .mov (.k (.bool false)), 0, 0, false, []⟩])
   (.seq (.seq (.seg false [⟨some 9, none, .load true 8 (.t 3), 0, 0, false, []⟩,
    ⟨some 10, none, .mov (.t 1), 0, 0, false, []⟩,
    ⟨some 11, none, .load true 3 (.t 5), 0, 0, false, []⟩,
    ⟨some 12, none, .call 77 [.t 9, .t 10, .t 11] false false, 0, 0, false, []⟩,
    ⟨some 13, none, .un .not (.t 12), 0, 0, false, []⟩])
   (.cond (.t 13) (.seq (.seg false [⟨some 6, none, .mov (.k (.bool false)), 0, 0, false, []⟩])
   (.ret))
   (.skip)))
   (.seq (.seg true D20x0)
   (.seq (.seq (.seg false [⟨some 22, none, .mov (.t 1), 0, 0, false, []⟩])
   (.block 0 (.seq (.seg false [⟨some 24, none, .bin .eql (.t 22) (.k (.int .i64 1)), 0, 0, false, []⟩,
    ⟨some 23, none, .mov (.t 24), 0, 0, false, []⟩])
   (.cond (.t 23) (.seq (.seg false [⟨some 25, none, .mov (.t 7), 0, 0, false, []⟩,
    ⟨some 26, none, .bin .eql (.t 25) (.k (.int .i64 0)), 0, 0, false, []⟩,
    ⟨some 27, none, .mov (.t 26), 0, 0, false, []⟩,
    ⟨some 28, some (27, true), .mov (.t 8), 0, 0, false, []⟩,
    ⟨some 29, some (27, true), .bin .eql (.t 28) (.k (.int .i64 0)), 0, 0, false, []⟩,
    ⟨some 30, none, .pick (.t 27) (.t 29) (.k (.bool false)), 0, 0, false, []⟩,
    ⟨some 6, none, .mov (.t 30), 0, 0, false, []⟩])
   (.ret))
   (.seq (.seg false [⟨some 32, none, .bin .eql (.t 22) (.k (.int .i64 2)), 0, 0, false, []⟩,
    ⟨some 31, none, .mov (.t 32), 0, 0, false, []⟩])
   (.cond (.t 31) (.seq (.seg false [⟨some 33, none, .mov (.t 7), 0, 0, false, []⟩,
    ⟨some 34, none, .bin .gtr (.t 33) (.k (.int .i64 0)), 0, 0, false, []⟩,
    ⟨some 35, none, .mov (.t 34), 0, 0, false, []⟩,
    ⟨some 36, some (35, false), .mov (.t 8), 0, 0, false, []⟩,
    ⟨some 37, some (35, false), .bin .lss (.t 36) (.k (.int .i64 0)), 0, 0, false, []⟩,
    ⟨some 38, none, .pick (.t 35) (.k (.bool true)) (.t 37), 0, 0, false, []⟩,
    ⟨some 6, none, .mov (.t 38), 0, 0, false, []⟩])
   (.ret))
   (.seq (.seg false [⟨some 40, none, .bin .eql (.t 22) (.k (.int .i64 3)), 0, 0, false, []⟩,
    ⟨some 39, none, .mov (.t 40), 0, 0, false, []⟩])
   (.cond (.t 39) (.seq (.seg false [⟨some 41, none, .mov (.t 8), 0, 0, false, []⟩,
    ⟨some 42, none, .bin .lss (.t 41) (.k (.int .i64 0)), 0, 0, false, []⟩,
    ⟨some 6, none, .mov (.t 42), 0, 0, false, []⟩])
   (.ret))
   (.skip)))))))))
   (.seq (.seg false [⟨some 43, none, .mov (.t 8), 0, 0, false, []⟩,
    ⟨some 44, none, .bin .leq (.t 43) (.k (.int .i64 0)), 0, 0, false, []⟩,
    ⟨some 6, none, .mov (.t 44), 0, 0, false, []⟩])
   (.ret)))))⟩
/-- loop.example/tablehouse/laws.alive -/
def F21 : F := ⟨8, [(false, 0, 0, false)],
   .seq (.seg false [⟨some 0, none, .mov (.k (.bool false)), 0, 0, false, []⟩])
   (.seq (.seg false [⟨some 1, none, .build [.int .i64 0, .int .i64 0, .str ⟨#[]⟩] [(0, 1, .k (.int .i64 1)), (1, 1, .k (.int .i64 3))], 0, 0, false, []⟩,
    ⟨some 2, none, .call 19 [.t 1] false false, 0, 0, false, []⟩,
    ⟨some 3, none, .mov (.t 2), 0, 0, false, []⟩,
    ⟨some 4, some (3, true), .build [.int .i64 0, .int .i64 0, .str ⟨#[]⟩] [(0, 1, .k (.int .i64 9))], 0, 0, false, []⟩,
    ⟨some 5, some (3, true), .call 19 [.t 4] false false, 0, 0, false, []⟩,
    ⟨some 6, some (3, true), .un .not (.t 5), 0, 0, false, []⟩,
    ⟨some 7, none, .pick (.t 3) (.t 6) (.k (.bool false)), 0, 0, false, []⟩,
    ⟨some 0, none, .mov (.t 7), 0, 0, false, []⟩])
   (.ret))⟩
/-- loop.example/tablehouse/spec.DrawMustHold -/
def F22 : F := ⟨11, [(true, 2, 8, true), (false, 3, 0, false), (true, 4, 3, true)],
   .seq (.seg false [⟨some 2, none, .alloc [.int .i64 0, .int .i64 0, .int .i64 0, .int .i64 0, .str ⟨#[]⟩, .int .i64 0, .int .i64 0, .str ⟨#[]⟩], 0, 0, false, []⟩,
    ⟨some 3, none, .mov (.k (.int .i64 0)), 0, 0, false, []⟩,
    ⟨some 4, none, .alloc [.int .i64 0, .int .i64 0, .str ⟨#[]⟩], 0, 0, false, []⟩])
   (.seq (.seg false [⟨some 5, none, .mov (.t 0), 0, 0, false, []⟩,
    ⟨some 6, none, .call 76 [.t 5] true true, 0, 0, false, []⟩,
    ⟨some 7, none, .call 75 [.t 6] true false, 0, 0, false, []⟩,
    ⟨some 8, none, .ext (.t 7) 0, 0, 0, false, []⟩,
    ⟨some 9, none, .ext (.t 7) 1, 0, 0, false, []⟩,
    ⟨some 10, none, .ext (.t 7) 2, 0, 0, false, []⟩,
    ⟨none, none, .store 8 (.t 2) (.t 8), 0, 0, false, []⟩,
    ⟨some 3, none, .mov (.t 9), 0, 0, false, []⟩,
    ⟨none, none, .store 3 (.t 4) (.t 10), 0, 0, false, []⟩])
   (.ret))⟩
/-- loop.example/tablehouse/spec.MustHold -/
def F23 : F := ⟨69, [(false, 6, 0, false)],
   .seq (.seg false [⟨some 3, none, .box (.t 0), 0, 0, false, []⟩,
    ⟨some 5, none, .box (.t 2), 0, 0, false, []⟩,
    ⟨some 6, none, .mov (.k (.bool false)), 0, 0, false, []⟩])
   (.seq (.seq (.seg false [⟨some 7, none, .load true 8 (.t 3), 0, 0, false, []⟩,
    ⟨some 8, none, .call 79 [.t 7] false false, 0, 0, false, []⟩,
    ⟨some 9, none, .un .not (.t 8), 0, 0, false, []⟩,
    ⟨some 10, none, .mov (.t 9), 0, 0, false, []⟩,
    ⟨some 11, some (10, false), .faddr 0 1 (.t 3), 0, 0, false, []⟩,
    ⟨some 12, some (10, false), .load false 1 (.t 11), 0, 0, false, []⟩,
    ⟨some 13, some (10, false), .bin .eql (.t 12) (.k (.int .i64 0)), 0, 0, false, []⟩,
    ⟨some 14, none, .pick (.t 10) (.k (.bool true)) (.t 13), 0, 0, false, []⟩,
    ⟨some 15, none, .mov (.t 14), 0, 0, false, []⟩,
    ⟨some 16, some (15, false), .load true 3 (.t 5), 0, 0, false, []⟩,
    ⟨some 17, some (15, false), .call 80 [.t 16] false false, 0, 0, false, []⟩,
    ⟨some 18, some (15, false), .un .not (.t 17), 0, 0, false, []⟩,
    ⟨some 19, none, .pick (.t 15) (.k (.bool true)) (.t 18), 0, 0, false, []⟩,
    ⟨some 20, none, .mov (.t 19), 0, 0, false, []⟩,
    ⟨some 21, some (20, false), .faddr 0 1 (.t 5), 0, 0, false, []⟩,
    ⟨some 22, some (20, false), .load false 1 (.t 21), 0, 0, false, []⟩,
    ⟨some 23, some (20, false), .faddr 2 3 (.t 3), 0, 0, false, []⟩,
    ⟨some 24, some (20, false), .faddr 0 1 (.t 23), 0, 0, false, []⟩,
    ⟨some 25, some (20, false), .load false 1 (.t 24), 0, 0, false, []⟩,
    ⟨some 26, some (20, false), .bin .neq (.t 22) (.t 25), 0, 0, false, []⟩,
    ⟨some 27, none, .pick (.t 20) (.k (.bool true)) (.t 26), 0, 0, false, []⟩])
   (.cond (.t 27) (.seq (.seg false [⟨some 6, none, .mov (.k (.bool false)), 0, 0, false, []⟩])
   (.ret))
   (.skip)))
   (.seq (.seq (.seg false [⟨some 28, none, .mov (.t 1), 0, 0, false, []⟩])
   (.block 0 (.seq (.seg false [⟨some 30, none, .bin .eql (.t 28) (.k (.int .i64 1)), 0, 0, false, []⟩,
    ⟨some 29, none, .mov (.t 30), 0, 0, false, []⟩])
   (.cond (.t 29) (.seq (.seg false [⟨some 31, none, .faddr 2 3 (.t 3), 0, 0, false, []⟩,
    ⟨some 32, none, .load true 3 (.t 31), 0, 0, false, []⟩,
    ⟨some 33, none, .load true 3 (.t 5), 0, 0, false, []⟩,
    ⟨some 34, none, .eqs false [.int, .int, .str] (.t 32) (.t 33), 0, 0, false, []⟩,
    ⟨some 35, none, .mov (.t 34), 0, 0, false, []⟩,
    ⟨some 36, some (35, true), .faddr 5 3 (.t 3), 0, 0, false, []⟩,
    ⟨some 37, some (35, true), .load true 3 (.t 36), 0, 0, false, []⟩,
    ⟨some 38, some (35, true), .load true 3 (.t 5), 0, 0, false, []⟩,
    ⟨some 39, some (35, true), .eqs false [.int, .int, .str] (.t 37) (.t 38), 0, 0, false, []⟩,
    ⟨some 40, none, .pick (.t 35) (.t 39) (.k (.bool false)), 0, 0, false, []⟩,
    ⟨some 6, none, .mov (.t 40), 0, 0, false, []⟩])
   (.ret))
   (.seq (.seg false [⟨some 42, none, .bin .eql (.t 28) (.k (.int .i64 2)), 0, 0, false, []⟩,
    ⟨some 41, none, .mov (.t 42), 0, 0, false, []⟩])
   (.cond (.t 41) (.seq (.seg false [⟨some 43, none, .load true 3 (.t 5), 0, 0, false, []⟩,
    ⟨some 44, none, .faddr 2 3 (.t 3), 0, 0, false, []⟩,
    ⟨some 45, none, .load true 3 (.t 44), 0, 0, false, []⟩,
    ⟨some 46, none, .call 81 [.t 43, .t 45] false false, 0, 0, false, []⟩,
    ⟨some 47, none, .bin .lss (.t 46) (.k (.int .i64 0)), 0, 0, false, []⟩,
    ⟨some 48, none, .mov (.t 47), 0, 0, false, []⟩,
    ⟨some 49, some (48, false), .faddr 5 3 (.t 3), 0, 0, false, []⟩,
    ⟨some 50, some (48, false), .load true 3 (.t 49), 0, 0, false, []⟩,
    ⟨some 51, some (48, false), .load true 3 (.t 5), 0, 0, false, []⟩,
    ⟨some 52, some (48, false), .call 81 [.t 50, .t 51] false false, 0, 0, false, []⟩,
    ⟨some 53, some (48, false), .bin .lss (.t 52) (.k (.int .i64 0)), 0, 0, false, []⟩,
    ⟨some 54, none, .pick (.t 48) (.k (.bool true)) (.t 53), 0, 0, false, []⟩,
    ⟨some 6, none, .mov (.t 54), 0, 0, false, []⟩])
   (.ret))
   (.seq (.seg false [⟨some 56, none, .bin .eql (.t 28) (.k (.int .i64 3)), 0, 0, false, []⟩,
    ⟨some 55, none, .mov (.t 56), 0, 0, false, []⟩])
   (.cond (.t 55) (.seq (.seg false [⟨some 57, none, .faddr 5 3 (.t 3), 0, 0, false, []⟩,
    ⟨some 58, none, .load true 3 (.t 57), 0, 0, false, []⟩,
    ⟨some 59, none, .load true 3 (.t 5), 0, 0, false, []⟩,
    ⟨some 60, none, .call 81 [.t 58, .t 59] false false, 0, 0, false, []⟩,
    ⟨some 61, none, .bin .lss (.t 60) (.k (.int .i64 0)), 0, 0, false, []⟩,
    ⟨some 6, none, .mov (.t 61), 0, 0, false, []⟩])
   (.ret))
   (.seq (.seg false [⟨some 63, none, .bin .eql (.t 28) (.k (.int .i64 4)), 0, 0, false, []⟩,
    ⟨some 62, none, .mov (.t 63), 0, 0, false, []⟩])
   (.cond (.t 62) (.seq (.seg false [⟨some 64, none, .faddr 5 3 (.t 3), 0, 0, false, []⟩,
    ⟨some 65, none, .load true 3 (.t 64), 0, 0, false, []⟩,
    ⟨some 66, none, .load true 3 (.t 5), 0, 0, false, []⟩,
    ⟨some 67, none, .call 81 [.t 65, .t 66] false false, 0, 0, false, []⟩,
    ⟨some 68, none, .bin .leq (.t 67) (.k (.int .i64 0)), 0, 0, false, []⟩,
    ⟨some 6, none, .mov (.t 68), 0, 0, false, []⟩])
   (.ret))
   (.skip)))))))))))
   (.seq (.seg false [⟨some 6, none, .mov (.k (.bool false)), 0, 0, false, []⟩])
   (.ret))))⟩
/-- loop.example/tablehouse/spec.DrawManyBounds -/
def F24 : F := ⟨11, [(true, 2, 8, true), (false, 3, 0, false), (true, 4, 3, true)],
   .seq (.seg false [⟨some 2, none, .alloc [.int .i64 0, .int .i64 0, .int .i64 0, .int .i64 0, .str ⟨#[]⟩, .int .i64 0, .int .i64 0, .str ⟨#[]⟩], 0, 0, false, []⟩,
    ⟨some 3, none, .mov (.k (.int .i64 0)), 0, 0, false, []⟩,
    ⟨some 4, none, .alloc [.int .i64 0, .int .i64 0, .str ⟨#[]⟩], 0, 0, false, []⟩])
   (.seq (.seg false [⟨some 5, none, .mov (.t 0), 0, 0, false, []⟩,
    ⟨some 6, none, .call 76 [.t 5] true true, 0, 0, false, []⟩,
    ⟨some 7, none, .call 75 [.t 6] true false, 0, 0, false, []⟩,
    ⟨some 8, none, .ext (.t 7) 0, 0, 0, false, []⟩,
    ⟨some 9, none, .ext (.t 7) 1, 0, 0, false, []⟩,
    ⟨some 10, none, .ext (.t 7) 2, 0, 0, false, []⟩,
    ⟨none, none, .store 8 (.t 2) (.t 8), 0, 0, false, []⟩,
    ⟨some 3, none, .mov (.t 9), 0, 0, false, []⟩,
    ⟨none, none, .store 3 (.t 4) (.t 10), 0, 0, false, []⟩])
   (.ret))⟩
def E25x0 : List I := [⟨some 30, none, .faddr 0 1 (.t 3), 0, 0, false, []⟩,
    ⟨some 31, none, .load false 1 (.t 30), 0, 0, false, []⟩,
    ⟨some 32, none, .faddr 0 1 (.t 3), 0, 0, false, []⟩,
    ⟨some 33, none, .load false 1 (.t 32), 0, 0, false, []⟩,
    ⟨some 6, none, .mov (.t 31), 0, 0, false, []⟩,
    ⟨some 7, none, .mov (.t 33), 0, 0, false, []⟩]
def D25x0 : List I := E25x0
theorem evD25x0 (run : Run) (e : Env) (h : Heap) : drawI run D25x0 e h = DrawS (evQ run E25x0 e h) run E25x0 e h := drawI_quiet run _ (by rfl) e h
def E25x1 : List I := [⟨some 66, none, .mov (.t 9), 0, 0, false, []⟩,
    ⟨some 67, none, .faddr 0 1 (.t 3), 0, 0, false, []⟩,
    ⟨some 68, none, .load false 1 (.t 67), 0, 0, false, []⟩,
    ⟨some 69, none, .mov (.t 8), 0, 0, false, []⟩,
    ⟨some 70, none, .len false (.t 69), 0, 0, false, []⟩,
    ⟨some 71, none, .mov (.t 9), 0, 0, false, []⟩,
    ⟨some 72, none, .bin .sub (.t 70) (.t 71), 0, 0, false, []⟩,
    ⟨some 73, none, .bin .sub (.t 68) (.t 72), 0, 0, false, []⟩,
    ⟨some 6, none, .mov (.t 66), 0, 0, false, []⟩,
    ⟨some 7, none, .mov (.t 73), 0, 0, false, []⟩]
def D25x1 : List I := E25x1
theorem evD25x1 (run : Run) (e : Env) (h : Heap) : drawI run D25x1 e h = DrawS (evQ run E25x1 e h) run E25x1 e h := drawI_quiet run _ (by rfl) e h
def B25x0 : C := .seq (.seg false [⟨some 55, none, .bin .lss (.t 54) (.t 53), 0, 0, false, []⟩])
   (.seq (.cond (.t 55) (.skip)
   (.exit 1))
   (.seq (.block 2 (.seq (.seg false [⟨some 56, none, .iaddr 3 (.t 52) (.t 54), 0, 0, false, []⟩,
    ⟨some 57, none, .load true 3 (.t 56), 0, 0, false, []⟩,
    ⟨some 11, none, .alloc [.int .i64 0, .int .i64 0, .str ⟨#[]⟩], 0, 0, false, []⟩,
    ⟨none, none, .store 3 (.t 11) (.t 57), 0, 0, false, []⟩])
   (.seq (.seg false [⟨some 58, none, .mov (.t 1), 0, 0, false, []⟩,
    ⟨some 59, none, .load true 3 (.t 11), 0, 0, false, []⟩,
    ⟨some 60, none, .load true 3 (.t 5), 0, 0, false, []⟩,
    ⟨some 61, none, .call 40 [.t 58, .t 59, .t 60] false false, 0, 0, false, []⟩,
    ⟨some 62, none, .bin .eql (.t 61) (.k (.int .i64 1)), 0, 0, false, []⟩])
   (.cond (.t 62) (.seg false [⟨some 63, none, .mov (.t 9), 0, 0, false, []⟩,
    ⟨some 64, none, .bin .add (.t 63) (.k (.int .i64 1)), 0, 0, false, []⟩,
    ⟨some 9, none, .mov (.t 64), 0, 0, false, []⟩])
   (.skip)))))
   (.seg false [⟨some 65, none, .bin .add (.t 54) (.k (.int .i64 1)), 0, 0, false, []⟩,
    ⟨some 54, none, .mov (.t 65), 0, 0, false, []⟩])))
def L25x0 : C := B25x0
theorem evL25x0 (run : Run) (draw : List I → Env → Heap → Option (Env × Heap)) (e : Env) (h : Heap) : evC run draw L25x0 e h = evC run draw B25x0 e h := rfl
/-- loop.example/tablehouse/impl.ManyBounds -/
def F25 : F := ⟨74, [(false, 6, 0, false), (false, 7, 0, false)],
   .seq (.seg false [⟨some 3, none, .box (.t 0), 0, 0, false, []⟩,
    ⟨some 5, none, .box (.t 2), 0, 0, false, []⟩,
    ⟨some 6, none, .mov (.k (.int .i64 0)), 0, 0, false, []⟩,
    ⟨some 7, none, .mov (.k (.int .i64 0)), 0, 0, false, []⟩])
   (.seq (.block 0 (.seq (.seg false [⟨some 13, none, .load true 8 (.t 3), 0, 0, false, []⟩,
    ⟨some 14, none, .mov (.t 1), 0, 0, false, []⟩,
    ⟨some 15, none, .load true 3 (.t 5), 0, 0, false, []⟩,
    ⟨some 16, none, .call 77 [.t 13, .t 14, .t 15] false false, 0, 0, false, []⟩,
    ⟨some 17, none, .un .not (.t 16), 0, 0, false, []⟩,
    ⟨some 18, none, .mov (.t 17), 0, 0, false, []⟩,
    ⟨some 19, some (18, false), .load true 8 (.t 3), 0, 0, false, []⟩,
    ⟨some 20, some (18, false), .mov (.t 1), 0, 0, false, []⟩,
    ⟨some 21, some (18, false), .load true 3 (.t 5), 0, 0, false, []⟩,
    ⟨some 22, some (18, false), .call 16 [.t 19, .t 20, .t 21] false false, 0, 0, false, []⟩,
    ⟨some 23, some (18, false), .un .not (.t 22), 0, 0, false, []⟩,
    ⟨some 24, none, .pick (.t 18) (.k (.bool true)) (.t 23), 0, 0, false, []⟩,
    ⟨some 12, none, .mov (.t 24), 0, 0, false, []⟩])
   (.cond (.t 12) (.seq (.seg false [⟨some 6, none, .mov (.k (.int .i64 0)), 0, 0, false, []⟩,
    ⟨some 7, none, .mov (.k (.int .i64 0)), 0, 0, false, []⟩])
   (.ret))
   (.seq (.seg false [⟨some 26, none, .load true 8 (.t 3), 0, 0, false, []⟩,
    ⟨some 27, none, .mov (.t 1), 0, 0, false, []⟩,
    ⟨some 28, none, .load true 3 (.t 5), 0, 0, false, []⟩,
    ⟨some 29, none, .call 20 [.t 26, .t 27, .t 28] false false, 0, 0, false, []⟩,
    ⟨some 25, none, .mov (.t 29), 0, 0, false, []⟩])
   (.cond (.t 25) (.seq (.seg true D25x0)
   (.ret))
   (.skip))))))
   (.seq (.seg false [⟨some 34, none, .faddr 2 3 (.t 3), 0, 0, false, []⟩,
    ⟨some 35, none, .load true 3 (.t 34), 0, 0, false, []⟩,
    ⟨some 36, none, .mksl true 3 [.t 35], 0, 0, false, []⟩,
    ⟨some 8, none, .mov (.t 36), 0, 0, false, []⟩])
   (.seq (.seq (.seg false [⟨some 37, none, .faddr 5 3 (.t 3), 0, 0, false, []⟩,
    ⟨some 38, none, .load true 3 (.t 37), 0, 0, false, []⟩,
    ⟨some 39, none, .faddr 2 3 (.t 3), 0, 0, false, []⟩,
    ⟨some 40, none, .load true 3 (.t 39), 0, 0, false, []⟩,
    ⟨some 41, none, .eqs true [.int, .int, .str] (.t 38) (.t 40), 0, 0, false, []⟩,
    ⟨some 42, none, .mov (.t 41), 0, 0, false, []⟩,
    ⟨some 43, some (42, true), .faddr 0 1 (.t 3), 0, 0, false, []⟩,
    ⟨some 44, some (42, true), .load false 1 (.t 43), 0, 0, false, []⟩,
    ⟨some 45, some (42, true), .bin .gtr (.t 44) (.k (.int .i64 1)), 0, 0, false, []⟩,
    ⟨some 46, none, .pick (.t 42) (.t 45) (.k (.bool false)), 0, 0, false, []⟩])
   (.cond (.t 46) (.seg false [⟨some 47, none, .mov (.t 8), 0, 0, false, []⟩,
    ⟨some 48, none, .faddr 5 3 (.t 3), 0, 0, false, []⟩,
    ⟨some 49, none, .load true 3 (.t 48), 0, 0, false, []⟩,
    ⟨some 50, none, .mksl false 3 [.t 49], 0, 0, false, []⟩,
    ⟨some 51, none, .app 3 (.t 47) (.t 50), 0, 0, false, []⟩,
    ⟨some 8, none, .mov (.t 51), 0, 0, false, []⟩])
   (.skip)))
   (.seq (.seg false [⟨some 9, none, .mov (.k (.int .i64 0)), 0, 0, false, []⟩])
   (.seq (.seq (.seg false [⟨some 52, none, .mov (.t 8), 0, 0, false, []⟩,
    ⟨some 53, none, .len false (.t 52), 0, 0, false, []⟩,
    ⟨some 54, none, .mov (.k (.int .i64 0)), 0, 0, false, []⟩])
   (.block 1 (.loop [1, 3, 5, 8, 9, 52, 53, 54] [3, 8, 9] L25x0)))
   (.seq (.seg true D25x1)
   (.ret)))))))⟩
def E26x0 : List I := [⟨some 23, none, .faddr 0 1 (.t 3), 0, 0, false, []⟩,
    ⟨some 24, none, .load false 1 (.t 23), 0, 0, false, []⟩,
    ⟨some 25, none, .faddr 0 1 (.t 3), 0, 0, false, []⟩,
    ⟨some 26, none, .load false 1 (.t 25), 0, 0, false, []⟩,
    ⟨some 6, none, .mov (.t 24), 0, 0, false, []⟩,
    ⟨some 7, none, .mov (.t 26), 0, 0, false, []⟩]
def D26x0 : List I := E26x0
theorem evD26x0 (run : Run) (e : Env) (h : Heap) : drawI run D26x0 e h = DrawS (evQ run E26x0 e h) run E26x0 e h := drawI_quiet run _ (by rfl) e h
def E26x1 : List I := [⟨some 44, none, .mov (.t 8), 0, 0, false, []⟩,
    ⟨some 45, none, .faddr 0 1 (.t 3), 0, 0, false, []⟩,
    ⟨some 46, none, .load false 1 (.t 45), 0, 0, false, []⟩,
    ⟨some 47, none, .mov (.t 9), 0, 0, false, []⟩,
    ⟨some 48, none, .bin .sub (.t 46) (.t 47), 0, 0, false, []⟩,
    ⟨some 6, none, .mov (.t 44), 0, 0, false, []⟩,
    ⟨some 7, none, .mov (.t 48), 0, 0, false, []⟩]
def D26x1 : List I := E26x1
theorem evD26x1 (run : Run) (e : Env) (h : Heap) : drawI run D26x1 e h = DrawS (evQ run E26x1 e h) run E26x1 e h := drawI_quiet run _ (by rfl) e h
def B26x0 : C := .seq (.seg false [⟨some 31, none, .bin .lss (.t 30) (.t 29), 0, 0, false, []⟩])
   (.seq (.cond (.t 31) (.skip)
   (.exit 1))
   (.seq (.block 2 (.seq (.seg false [⟨some 32, none, .iaddr 3 (.t 28) (.t 30), 0, 0, false, []⟩,
    ⟨some 33, none, .load true 3 (.t 32), 0, 0, false, []⟩,
    ⟨some 11, none, .alloc [.int .i64 0, .int .i64 0, .str ⟨#[]⟩], 0, 0, false, []⟩,
    ⟨none, none, .store 3 (.t 11) (.t 33), 0, 0, false, []⟩])
   (.seq (.seg false [⟨some 34, none, .mov (.t 1), 0, 0, false, []⟩,
    ⟨some 35, none, .load true 3 (.t 11), 0, 0, false, []⟩,
    ⟨some 36, none, .load true 3 (.t 5), 0, 0, false, []⟩,
    ⟨some 37, none, .call 85 [.t 34, .t 35, .t 36] false false, 0, 0, false, []⟩,
    ⟨some 38, none, .bin .eql (.t 37) (.k (.int .i64 1)), 0, 0, false, []⟩])
   (.cond (.t 38) (.seg false [⟨some 39, none, .mov (.t 8), 0, 0, false, []⟩,
    ⟨some 40, none, .bin .add (.t 39) (.k (.int .i64 1)), 0, 0, false, []⟩,
    ⟨some 8, none, .mov (.t 40), 0, 0, false, []⟩])
   (.seg false [⟨some 41, none, .mov (.t 9), 0, 0, false, []⟩,
    ⟨some 42, none, .bin .add (.t 41) (.k (.int .i64 1)), 0, 0, false, []⟩,
    ⟨some 9, none, .mov (.t 42), 0, 0, false, []⟩])))))
   (.seg false [⟨some 43, none, .bin .add (.t 30) (.k (.int .i64 1)), 0, 0, false, []⟩,
    ⟨some 30, none, .mov (.t 43), 0, 0, false, []⟩])))
def L26x0 : C := B26x0
theorem evL26x0 (run : Run) (draw : List I → Env → Heap → Option (Env × Heap)) (e : Env) (h : Heap) : evC run draw L26x0 e h = evC run draw B26x0 e h := rfl
/-- loop.example/tablehouse/spec.ManyBounds -/
def F26 : F := ⟨49, [(false, 6, 0, false), (false, 7, 0, false)],
   .seq (.seg false [⟨some 3, none, .box (.t 0), 0, 0, false, []⟩,
    ⟨some 5, none, .box (.t 2), 0, 0, false, []⟩,
    ⟨some 6, none, .mov (.k (.int .i64 0)), 0, 0, false, []⟩,
    ⟨some 7, none, .mov (.k (.int .i64 0)), 0, 0, false, []⟩])
   (.seq (.block 0 (.seq (.seg false [⟨some 13, none, .load true 8 (.t 3), 0, 0, false, []⟩,
    ⟨some 14, none, .mov (.t 1), 0, 0, false, []⟩,
    ⟨some 15, none, .load true 3 (.t 5), 0, 0, false, []⟩,
    ⟨some 16, none, .call 17 [.t 13, .t 14, .t 15] false false, 0, 0, false, []⟩,
    ⟨some 17, none, .un .not (.t 16), 0, 0, false, []⟩,
    ⟨some 12, none, .mov (.t 17), 0, 0, false, []⟩])
   (.cond (.t 12) (.seq (.seg false [⟨some 6, none, .mov (.k (.int .i64 0)), 0, 0, false, []⟩,
    ⟨some 7, none, .mov (.k (.int .i64 0)), 0, 0, false, []⟩])
   (.ret))
   (.seq (.seg false [⟨some 19, none, .load true 8 (.t 3), 0, 0, false, []⟩,
    ⟨some 20, none, .mov (.t 1), 0, 0, false, []⟩,
    ⟨some 21, none, .load true 3 (.t 5), 0, 0, false, []⟩,
    ⟨some 22, none, .call 23 [.t 19, .t 20, .t 21] false false, 0, 0, false, []⟩,
    ⟨some 18, none, .mov (.t 22), 0, 0, false, []⟩])
   (.cond (.t 18) (.seq (.seg true D26x0)
   (.ret))
   (.skip))))))
   (.seq (.seg false [⟨some 8, none, .mov (.k (.int .i64 0)), 0, 0, false, []⟩,
    ⟨some 9, none, .mov (.k (.int .i64 0)), 0, 0, false, []⟩])
   (.seq (.seq (.seg false [⟨some 27, none, .load true 8 (.t 3), 0, 0, false, []⟩,
    ⟨some 28, none, .call 84 [.t 27] false false, 0, 0, false, []⟩,
    ⟨some 29, none, .len false (.t 28), 0, 0, false, []⟩,
    ⟨some 30, none, .mov (.k (.int .i64 0)), 0, 0, false, []⟩])
   (.block 1 (.loop [1, 3, 5, 8, 9, 28, 29, 30] [3, 8, 9] L26x0)))
   (.seq (.seg true D26x1)
   (.ret)))))⟩
/-- loop.example/tablehouse/spec.DrawKnownColumn -/
def F27 : F := ⟨11, [(false, 2, 0, false), (false, 3, 0, false), (false, 4, 0, false)],
   .seq (.seg false [⟨some 2, none, .mov (.k (.sl true 2 [])), 0, 0, false, []⟩,
    ⟨some 3, none, .mov (.k (.sl true 1 [])), 0, 0, false, []⟩,
    ⟨some 4, none, .mov (.k (.int .i64 0)), 0, 0, false, []⟩])
   (.seq (.seg false [⟨some 5, none, .mov (.t 0), 0, 0, false, []⟩,
    ⟨some 6, none, .call 76 [.t 5] true true, 0, 0, false, []⟩,
    ⟨some 7, none, .call 86 [.t 6, .k (.int .i64 9)] true false, 0, 0, false, []⟩,
    ⟨some 8, none, .ext (.t 7) 0, 0, 0, false, []⟩,
    ⟨some 9, none, .ext (.t 7) 1, 0, 0, false, []⟩,
    ⟨some 10, none, .ext (.t 7) 2, 0, 0, false, []⟩,
    ⟨some 2, none, .mov (.t 8), 0, 0, false, []⟩,
    ⟨some 3, none, .mov (.t 9), 0, 0, false, []⟩,
    ⟨some 4, none, .mov (.t 10), 0, 0, false, []⟩])
   (.ret))⟩
/-- loop.example/tablehouse/impl.KnownColumn -/
def F28 : F := ⟨33, [(true, 6, 8, true)],
   .seq (.seg false [⟨some 6, none, .alloc [.int .i64 0, .int .i64 0, .int .i64 0, .int .i64 0, .str ⟨#[]⟩, .int .i64 0, .int .i64 0, .str ⟨#[]⟩], 0, 0, false, []⟩])
   (.seq (.seq (.seg false [⟨some 7, none, .mov (.t 0), 0, 0, false, []⟩,
    ⟨some 8, none, .call 87 [.t 7] false false, 0, 0, false, []⟩,
    ⟨some 9, none, .un .not (.t 8), 0, 0, false, []⟩,
    ⟨some 10, none, .mov (.t 9), 0, 0, false, []⟩,
    ⟨some 11, some (10, false), .mov (.t 1), 0, 0, false, []⟩,
    ⟨some 12, some (10, false), .len false (.t 11), 0, 0, false, []⟩,
    ⟨some 13, some (10, false), .bin .gtr (.t 12) (.k (.int .i64 100)), 0, 0, false, []⟩,
    ⟨some 14, none, .pick (.t 10) (.k (.bool true)) (.t 13), 0, 0, false, []⟩,
    ⟨some 15, none, .mov (.t 14), 0, 0, false, []⟩,
    ⟨some 16, some (15, false), .mov (.t 0), 0, 0, false, []⟩,
    ⟨some 17, some (15, false), .mov (.t 1), 0, 0, false, []⟩,
    ⟨some 18, some (15, false), .call 30 [.t 16, .t 17] false false, 0, 0, false, []⟩,
    ⟨some 19, some (15, false), .un .not (.t 18), 0, 0, false, []⟩,
    ⟨some 20, none, .pick (.t 15) (.k (.bool true)) (.t 19), 0, 0, false, []⟩,
    ⟨some 21, none, .mov (.t 20), 0, 0, false, []⟩,
    ⟨some 22, some (21, false), .mov (.t 2), 0, 0, false, []⟩,
    ⟨some 23, some (21, false), .mov (.t 0), 0, 0, false, []⟩,
    ⟨some 24, some (21, false), .len false (.t 23), 0, 0, false, []⟩,
    ⟨some 25, some (21, false), .bin .sub (.t 24) (.k (.int .i64 1)), 0, 0, false, []⟩,
    ⟨some 26, some (21, false), .call 82 [.t 22, .k (.int .i64 0), .t 25] false false, 0, 0, false, []⟩,
    ⟨some 27, some (21, false), .un .not (.t 26), 0, 0, false, []⟩,
    ⟨some 28, none, .pick (.t 21) (.k (.bool true)) (.t 27), 0, 0, false, []⟩])
   (.cond (.t 28) (.seq (.seg false [⟨some 29, none, .build [.int .i64 0, .int .i64 0, .int .i64 0, .int .i64 0, .str ⟨#[]⟩, .int .i64 0, .int .i64 0, .str ⟨#[]⟩] [], 0, 0, false, []⟩,
    ⟨none, none, .store 8 (.t 6) (.t 29), 0, 0, false, []⟩])
   (.ret))
   (.skip)))
   (.seq (.seg false [⟨some 30, none, .mov (.t 1), 0, 0, false, []⟩,
    ⟨some 31, none, .mov (.t 2), 0, 0, false, []⟩,
    ⟨some 32, none, .call 88 [.t 30, .t 31] false false, 0, 0, false, []⟩,
    ⟨none, none, .store 8 (.t 6) (.t 32), 0, 0, false, []⟩])
   (.ret)))⟩
def E29x0 : List I := [⟨some 34, none, .load true 8 (.t 7), 0, 0, false, []⟩,
    ⟨some 35, none, .mov (.t 1), 0, 0, false, []⟩,
    ⟨some 36, none, .mov (.t 8), 0, 0, false, []⟩,
    ⟨some 37, none, .iaddr 1 (.t 35) (.t 36), 0, 0, false, []⟩,
    ⟨some 38, none, .load false 1 (.t 37), 0, 0, false, []⟩,
    ⟨some 39, none, .mov (.t 2), 0, 0, false, []⟩,
    ⟨some 40, none, .iaddr 3 (.t 38) (.t 39), 0, 0, false, []⟩,
    ⟨some 41, none, .load true 3 (.t 40), 0, 0, false, []⟩,
    ⟨some 42, none, .call 92 [.t 41] false false, 0, 0, false, []⟩,
    ⟨some 43, none, .call 91 [.t 34, .t 42] false false, 0, 0, false, []⟩,
    ⟨none, none, .store 8 (.t 7) (.t 43), 0, 0, true, []⟩]
def D29x0 : List I := E29x0
theorem evD29x0 (run : Run) (e : Env) (h : Heap) : drawI run D29x0 e h = DrawW (evW run E29x0 e h []) run E29x0 e h := drawI_write run _ e h
def B29x0 : C := .seq (.seq (.seg false [⟨some 28, none, .mov (.t 8), 0, 0, false, []⟩,
    ⟨some 29, none, .mov (.t 1), 0, 0, false, []⟩,
    ⟨some 30, none, .len false (.t 29), 0, 0, false, []⟩,
    ⟨some 31, none, .bin .lss (.t 28) (.t 30), 0, 0, false, []⟩])
   (.cond (.t 31) (.skip)
   (.exit 0)))
   (.seq (.block 1 (.seg true D29x0))
   (.seg false [⟨some 32, none, .mov (.t 8), 0, 0, false, []⟩,
    ⟨some 33, none, .bin .add (.t 32) (.k (.int .i64 1)), 0, 0, false, []⟩,
    ⟨some 8, none, .mov (.t 33), 0, 0, false, []⟩]))
def L29x0 : C := B29x0
theorem evL29x0 (run : Run) (draw : List I → Env → Heap → Option (Env × Heap)) (e : Env) (h : Heap) : evC run draw L29x0 e h = evC run draw B29x0 e h := rfl
/-- loop.example/tablehouse/spec.KnownColumn -/
def F29 : F := ⟨45, [(true, 6, 8, true)],
   .seq (.seg false [⟨some 6, none, .alloc [.int .i64 0, .int .i64 0, .int .i64 0, .int .i64 0, .str ⟨#[]⟩, .int .i64 0, .int .i64 0, .str ⟨#[]⟩], 0, 0, false, []⟩])
   (.seq (.seg false [⟨some 9, none, .build [.int .i64 0, .int .i64 0, .int .i64 0, .int .i64 0, .str ⟨#[]⟩, .int .i64 0, .int .i64 0, .str ⟨#[]⟩] [], 0, 0, false, []⟩,
    ⟨some 7, none, .alloc [.int .i64 0, .int .i64 0, .int .i64 0, .int .i64 0, .str ⟨#[]⟩, .int .i64 0, .int .i64 0, .str ⟨#[]⟩], 0, 0, false, []⟩,
    ⟨none, none, .store 8 (.t 7) (.t 9), 0, 0, false, []⟩])
   (.seq (.seq (.seg false [⟨some 10, none, .mov (.t 0), 0, 0, false, []⟩,
    ⟨some 11, none, .mov (.t 1), 0, 0, false, []⟩,
    ⟨some 12, none, .call 89 [.t 10, .t 11] false false, 0, 0, false, []⟩,
    ⟨some 13, none, .un .not (.t 12), 0, 0, false, []⟩,
    ⟨some 14, none, .mov (.t 13), 0, 0, false, []⟩,
    ⟨some 15, some (14, false), .mov (.t 1), 0, 0, false, []⟩,
    ⟨some 16, some (14, false), .len false (.t 15), 0, 0, false, []⟩,
    ⟨some 17, some (14, false), .bin .gtr (.t 16) (.k (.int .i64 100)), 0, 0, false, []⟩,
    ⟨some 18, none, .pick (.t 14) (.k (.bool true)) (.t 17), 0, 0, false, []⟩,
    ⟨some 19, none, .mov (.t 18), 0, 0, false, []⟩,
    ⟨some 20, some (19, false), .mov (.t 2), 0, 0, false, []⟩,
    ⟨some 21, some (19, false), .mov (.t 0), 0, 0, false, []⟩,
    ⟨some 22, some (19, false), .len false (.t 21), 0, 0, false, []⟩,
    ⟨some 23, some (19, false), .bin .sub (.t 22) (.k (.int .i64 1)), 0, 0, false, []⟩,
    ⟨some 24, some (19, false), .call 90 [.t 20, .k (.int .i64 0), .t 23] false false, 0, 0, false, []⟩,
    ⟨some 25, some (19, false), .un .not (.t 24), 0, 0, false, []⟩,
    ⟨some 26, none, .pick (.t 19) (.k (.bool true)) (.t 25), 0, 0, false, []⟩])
   (.cond (.t 26) (.seq (.seg false [⟨some 27, none, .load true 8 (.t 7), 0, 0, false, []⟩,
    ⟨none, none, .store 8 (.t 6) (.t 27), 0, 0, false, []⟩])
   (.ret))
   (.skip)))
   (.seq (.seq (.seg false [⟨some 8, none, .mov (.k (.int .i64 0)), 0, 0, false, []⟩])
   (.block 0 (.loop [1, 2, 6, 7, 8] [6, 7] L29x0)))
   (.seq (.seg false [⟨some 44, none, .load true 8 (.t 7), 0, 0, false, []⟩,
    ⟨none, none, .store 8 (.t 6) (.t 44), 0, 0, false, []⟩])
   (.ret)))))⟩
/-- loop.example/tablehouse/impl.RowsOk -/
def F30 : F := ⟨13, [(false, 4, 0, false)],
   .seq (.seg false [⟨some 2, none, .box (.t 0), 0, 0, false, []⟩,
    ⟨some 4, none, .mov (.k (.bool false)), 0, 0, false, []⟩])
   (.seq (.seg false [⟨some 5, none, .load false 1 (.t 2), 0, 0, false, []⟩,
    ⟨some 6, none, .call 87 [.t 5] false false, 0, 0, false, []⟩,
    ⟨some 7, none, .mov (.t 6), 0, 0, false, []⟩,
    ⟨some 8, some (7, true), .mov (.t 1), 0, 0, false, []⟩,
    ⟨some 9, some (7, true), .mkclo 94 [.t 2], 0, 0, false, []⟩,
    ⟨some 10, some (7, true), .call 93 [.t 8, .t 9] true false, 0, 0, false, []⟩,
    ⟨some 11, some (7, true), .un .not (.t 10), 0, 0, false, []⟩,
    ⟨some 12, none, .pick (.t 7) (.t 11) (.k (.bool false)), 0, 0, false, []⟩,
    ⟨some 4, none, .mov (.t 12), 0, 0, false, []⟩])
   (.ret))⟩
def E31x0 : List I := [⟨some 42, none, .faddr 0 1 (.t 2), 0, 2, false, []⟩,
    ⟨some 43, none, .load false 1 (.t 42), 0, 2, false, []⟩,
    ⟨some 44, none, .faddr 0 1 (.t 3), 0, 2, false, []⟩,
    ⟨some 45, none, .load false 1 (.t 44), 0, 2, false, []⟩,
    ⟨some 46, none, .bin .add (.t 43) (.t 45), 0, 2, false, []⟩,
    ⟨some 47, none, .faddr 1 1 (.t 2), 0, 2, false, []⟩,
    ⟨some 48, none, .load false 1 (.t 47), 0, 2, false, []⟩,
    ⟨some 49, none, .faddr 1 1 (.t 3), 0, 2, false, []⟩,
    ⟨some 50, none, .load false 1 (.t 49), 0, 2, false, []⟩,
    ⟨some 51, none, .bin .add (.t 48) (.t 50), 0, 2, false, []⟩,
    ⟨some 52, none, .faddr 2 3 (.t 2), 0, 2, false, []⟩,
    ⟨some 53, none, .load true 3 (.t 52), 0, 2, false, []⟩,
    ⟨some 54, none, .faddr 2 3 (.t 3), 0, 2, false, []⟩,
    ⟨some 55, none, .load true 3 (.t 54), 0, 2, false, []⟩,
    ⟨some 56, none, .mksl false 3 [.t 53, .t 55], 0, 0, false, []⟩,
    ⟨some 57, none, .call 96 [.t 56, .k (.clo 78 [])] true false, 0, 0, true, []⟩,
    ⟨some 58, none, .faddr 5 3 (.t 2), 0, 2, false, []⟩,
    ⟨some 59, none, .load true 3 (.t 58), 0, 2, false, []⟩,
    ⟨some 60, none, .faddr 5 3 (.t 3), 0, 2, false, []⟩,
    ⟨some 61, none, .load true 3 (.t 60), 0, 2, false, []⟩,
    ⟨some 62, none, .mksl false 3 [.t 59, .t 61], 0, 1, false, []⟩,
    ⟨some 63, none, .call 97 [.t 62, .k (.clo 78 [])] true false, 1, 0, true, []⟩,
    ⟨some 64, none, .build [.int .i64 0, .int .i64 0, .int .i64 0, .int .i64 0, .str ⟨#[]⟩, .int .i64 0, .int .i64 0, .str ⟨#[]⟩] [(0, 1, .t 46), (1, 1, .t 51), (2, 3, .t 57), (5, 3, .t 63)], 2, 2, false, []⟩,
    ⟨none, none, .store 8 (.t 4) (.t 64), 2, 0, true, []⟩]
def D31x0 : List I := E31x0
theorem evD31x0 (run : Run) (e : Env) (h : Heap) : drawI run D31x0 e h = DrawW (evW run E31x0 e h []) run E31x0 e h := drawI_write run _ e h
/-- loop.example/tablehouse/impl.KnownBoth -/
def F31 : F := ⟨65, [(true, 4, 8, true)],
   .seq (.seg false [⟨some 2, none, .box (.t 0), 0, 0, false, []⟩,
    ⟨some 3, none, .box (.t 1), 0, 0, false, []⟩,
    ⟨some 4, none, .alloc [.int .i64 0, .int .i64 0, .int .i64 0, .int .i64 0, .str ⟨#[]⟩, .int .i64 0, .int .i64 0, .str ⟨#[]⟩], 0, 0, false, []⟩])
   (.seq (.block 0 (.seq (.seg false [⟨some 6, none, .load true 8 (.t 2), 0, 0, false, []⟩,
    ⟨some 7, none, .call 18 [.t 6] false false, 0, 0, false, []⟩,
    ⟨some 8, none, .un .not (.t 7), 0, 0, false, []⟩,
    ⟨some 9, none, .mov (.t 8), 0, 0, false, []⟩,
    ⟨some 10, some (9, false), .load true 8 (.t 3), 0, 0, false, []⟩,
    ⟨some 11, some (9, false), .call 18 [.t 10] false false, 0, 0, false, []⟩,
    ⟨some 12, some (9, false), .un .not (.t 11), 0, 0, false, []⟩,
    ⟨some 13, none, .pick (.t 9) (.k (.bool true)) (.t 12), 0, 0, false, []⟩,
    ⟨some 5, none, .mov (.t 13), 0, 0, false, []⟩])
   (.cond (.t 5) (.seq (.seg false [⟨some 14, none, .build [.int .i64 0, .int .i64 0, .int .i64 0, .int .i64 0, .str ⟨#[]⟩, .int .i64 0, .int .i64 0, .str ⟨#[]⟩] [], 0, 0, false, []⟩,
    ⟨none, none, .store 8 (.t 4) (.t 14), 0, 0, false, []⟩])
   (.ret))
   (.seq (.seg false [⟨some 16, none, .faddr 0 1 (.t 2), 0, 0, false, []⟩,
    ⟨some 17, none, .load false 1 (.t 16), 0, 0, false, []⟩,
    ⟨some 18, none, .bin .eql (.t 17) (.k (.int .i64 0)), 0, 0, false, []⟩,
    ⟨some 15, none, .mov (.t 18), 0, 0, false, []⟩])
   (.cond (.t 15) (.seq (.seg false [⟨some 19, none, .load true 8 (.t 3), 0, 0, false, []⟩,
    ⟨none, none, .store 8 (.t 4) (.t 19), 0, 0, false, []⟩])
   (.ret))
   (.seq (.seg false [⟨some 21, none, .faddr 0 1 (.t 3), 0, 0, false, []⟩,
    ⟨some 22, none, .load false 1 (.t 21), 0, 0, false, []⟩,
    ⟨some 23, none, .bin .eql (.t 22) (.k (.int .i64 0)), 0, 0, false, []⟩,
    ⟨some 20, none, .mov (.t 23), 0, 0, false, []⟩])
   (.cond (.t 20) (.seq (.seg false [⟨some 24, none, .load true 8 (.t 2), 0, 0, false, []⟩,
    ⟨none, none, .store 8 (.t 4) (.t 24), 0, 0, false, []⟩])
   (.ret))
   (.seq (.seg false [⟨some 26, none, .faddr 2 3 (.t 2), 0, 0, false, []⟩,
    ⟨some 27, none, .faddr 0 1 (.t 26), 0, 0, false, []⟩,
    ⟨some 28, none, .load false 1 (.t 27), 0, 0, false, []⟩,
    ⟨some 29, none, .faddr 2 3 (.t 3), 0, 0, false, []⟩,
    ⟨some 30, none, .faddr 0 1 (.t 29), 0, 0, false, []⟩,
    ⟨some 31, none, .load false 1 (.t 30), 0, 0, false, []⟩,
    ⟨some 32, none, .bin .neq (.t 28) (.t 31), 0, 0, false, []⟩,
    ⟨some 33, none, .mov (.t 32), 0, 0, false, []⟩,
    ⟨some 34, some (33, false), .faddr 0 1 (.t 2), 0, 0, false, []⟩,
    ⟨some 35, some (33, false), .load false 1 (.t 34), 0, 0, false, []⟩,
    ⟨some 36, some (33, false), .faddr 0 1 (.t 3), 0, 0, false, []⟩,
    ⟨some 37, some (33, false), .load false 1 (.t 36), 0, 0, false, []⟩,
    ⟨some 38, some (33, false), .bin .add (.t 35) (.t 37), 0, 0, false, []⟩,
    ⟨some 39, some (33, false), .bin .gtr (.t 38) (.k (.int .i64 100)), 0, 0, false, []⟩,
    ⟨some 40, none, .pick (.t 33) (.k (.bool true)) (.t 39), 0, 0, false, []⟩,
    ⟨some 25, none, .mov (.t 40), 0, 0, false, []⟩])
   (.cond (.t 25) (.seq (.seg false [⟨some 41, none, .build [.int .i64 0, .int .i64 0, .int .i64 0, .int .i64 0, .str ⟨#[]⟩, .int .i64 0, .int .i64 0, .str ⟨#[]⟩] [], 0, 0, false, []⟩,
    ⟨none, none, .store 8 (.t 4) (.t 41), 0, 0, false, []⟩])
   (.ret))
   (.skip))))))))))
   (.seq (.seg true D31x0)
   (.ret)))⟩
def E39x0 : List I := [⟨some 19, none, .mov (.t 8), 0, 2, false, []⟩,
    ⟨some 20, none, .mov (.t 9), 0, 2, false, []⟩,
    ⟨some 21, none, .mov (.t 10), 0, 2, false, []⟩,
    ⟨some 22, none, .mov (.t 7), 0, 0, false, []⟩,
    ⟨some 23, none, .call 104 [.t 22, .k (.int .i64 4)] true false, 0, 0, true, []⟩,
    ⟨some 24, none, .bin .add (.k (.int .i64 1)) (.t 23), 1, 2, false, []⟩,
    ⟨some 25, none, .mov (.t 7), 0, 1, false, []⟩,
    ⟨some 26, none, .mov (.t 8), 0, 2, false, []⟩,
    ⟨some 27, none, .mov (.t 10), 0, 2, false, []⟩,
    ⟨some 28, none, .iaddr 2 (.t 26) (.t 27), 0, 2, false, []⟩,
    ⟨some 29, none, .faddr 0 1 (.t 28), 0, 2, false, []⟩,
    ⟨some 30, none, .load false 1 (.t 29), 0, 2, false, []⟩,
    ⟨some 31, none, .build [.int .i64 0, .bool false] [(0, 1, .t 30)], 0, 1, false, []⟩,
    ⟨some 32, none, .call 105 [.t 25, .t 31] true false, 1, 0, true, []⟩,
    ⟨some 2, none, .mov (.t 19), 2, 2, false, []⟩,
    ⟨some 3, none, .mov (.t 20), 0, 2, false, []⟩,
    ⟨some 4, none, .mov (.t 21), 0, 2, false, []⟩,
    ⟨some 5, none, .mov (.t 24), 1, 2, false, []⟩,
    ⟨none, none, .store 3 (.t 6) (.t 32), 2, 0, true, []⟩]
def D39x0 : List I := E39x0
theorem evD39x0 (run : Run) (e : Env) (h : Heap) : drawI run D39x0 e h = DrawW (evW run E39x0 e h []) run E39x0 e h := drawI_write run _ e h
/-- loop.example/tablehouse/spec.DrawSkipped -/
def F39 : F := ⟨33, [(false, 2, 0, false), (false, 3, 0, false), (false, 4, 0, false), (false, 5, 0, false), (true, 6, 3, true)],
   .seq (.seg false [⟨some 2, none, .mov (.k (.sl true 2 [])), 0, 0, false, []⟩,
    ⟨some 3, none, .mov (.k (.sl true 1 [])), 0, 0, false, []⟩,
    ⟨some 4, none, .mov (.k (.int .i64 0)), 0, 0, false, []⟩,
    ⟨some 5, none, .mov (.k (.int .i64 0)), 0, 0, false, []⟩,
    ⟨some 6, none, .alloc [.int .i64 0, .int .i64 0, .str ⟨#[]⟩], 0, 0, false, []⟩])
   (.seq (.seg false [⟨some 11, none, .mov (.t 0), 0, 0, false, []⟩,
    ⟨some 12, none, .call 76 [.t 11] true true, 0, 0, false, []⟩,
    ⟨some 7, none, .mov (.t 12), 0, 0, false, []⟩])
   (.seq (.seg false [⟨some 14, none, .mov (.t 7), 0, 0, false, []⟩,
    ⟨some 15, none, .call 86 [.t 14, .k (.int .i64 0)] true false, 0, 0, false, []⟩,
    ⟨some 13, none, .mov (.t 15), 0, 0, false, []⟩,
    ⟨some 16, none, .ext (.t 13) 0, 0, 0, false, []⟩,
    ⟨some 17, none, .ext (.t 13) 1, 0, 0, false, []⟩,
    ⟨some 18, none, .ext (.t 13) 2, 0, 0, false, []⟩,
    ⟨some 8, none, .mov (.t 16), 0, 0, false, []⟩,
    ⟨some 9, none, .mov (.t 17), 0, 0, false, []⟩,
    ⟨some 10, none, .mov (.t 18), 0, 0, false, []⟩])
   (.seq (.seg true D39x0)
   (.ret))))⟩
/-- loop.example/tablehouse/impl.Compare -/
def F40 : F := ⟨71, [(false, 6, 0, false)],
   .seq (.seg false [⟨some 4, none, .box (.t 1), 0, 0, false, []⟩,
    ⟨some 5, none, .box (.t 2), 0, 0, false, []⟩,
    ⟨some 6, none, .mov (.k (.int .i64 0)), 0, 0, false, []⟩])
   (.seq (.block 0 (.seq (.seg false [⟨some 9, none, .mov (.t 0), 0, 0, false, []⟩,
    ⟨some 10, none, .call 82 [.t 9, .k (.int .i64 1), .k (.int .i64 4)] false false, 0, 0, false, []⟩,
    ⟨some 11, none, .un .not (.t 10), 0, 0, false, []⟩,
    ⟨some 12, none, .mov (.t 11), 0, 0, false, []⟩,
    ⟨some 13, some (12, false), .load true 3 (.t 4), 0, 0, false, []⟩,
    ⟨some 14, some (12, false), .call 83 [.t 13] false false, 0, 0, false, []⟩,
    ⟨some 15, some (12, false), .un .not (.t 14), 0, 0, false, []⟩,
    ⟨some 16, none, .pick (.t 12) (.k (.bool true)) (.t 15), 0, 0, false, []⟩,
    ⟨some 17, none, .mov (.t 16), 0, 0, false, []⟩,
    ⟨some 18, some (17, false), .load true 3 (.t 5), 0, 0, false, []⟩,
    ⟨some 19, some (17, false), .call 83 [.t 18] false false, 0, 0, false, []⟩,
    ⟨some 20, some (17, false), .un .not (.t 19), 0, 0, false, []⟩,
    ⟨some 21, none, .pick (.t 17) (.k (.bool true)) (.t 20), 0, 0, false, []⟩,
    ⟨some 8, none, .mov (.t 21), 0, 0, false, []⟩])
   (.cond (.t 8) (.seq (.seg false [⟨some 6, none, .mov (.k (.int .i64 (-1))), 0, 0, false, []⟩])
   (.ret))
   (.seq (.seg false [⟨some 23, none, .faddr 0 1 (.t 4), 0, 0, false, []⟩,
    ⟨some 24, none, .load false 1 (.t 23), 0, 0, false, []⟩,
    ⟨some 25, none, .bin .eql (.t 24) (.k (.int .i64 0)), 0, 0, false, []⟩,
    ⟨some 26, none, .mov (.t 25), 0, 0, false, []⟩,
    ⟨some 27, some (26, false), .faddr 0 1 (.t 5), 0, 0, false, []⟩,
    ⟨some 28, some (26, false), .load false 1 (.t 27), 0, 0, false, []⟩,
    ⟨some 29, some (26, false), .bin .eql (.t 28) (.k (.int .i64 0)), 0, 0, false, []⟩,
    ⟨some 30, none, .pick (.t 26) (.k (.bool true)) (.t 29), 0, 0, false, []⟩,
    ⟨some 22, none, .mov (.t 30), 0, 0, false, []⟩])
   (.cond (.t 22) (.seq (.seg false [⟨some 6, none, .mov (.k (.int .i64 2)), 0, 0, false, []⟩])
   (.ret))
   (.seq (.seg false [⟨some 32, none, .faddr 0 1 (.t 4), 0, 0, false, []⟩,
    ⟨some 33, none, .load false 1 (.t 32), 0, 0, false, []⟩,
    ⟨some 34, none, .faddr 0 1 (.t 5), 0, 0, false, []⟩,
    ⟨some 35, none, .load false 1 (.t 34), 0, 0, false, []⟩,
    ⟨some 36, none, .bin .neq (.t 33) (.t 35), 0, 0, false, []⟩,
    ⟨some 31, none, .mov (.t 36), 0, 0, false, []⟩])
   (.cond (.t 31) (.seq (.seg false [⟨some 6, none, .mov (.k (.int .i64 (-1))), 0, 0, false, []⟩])
   (.ret))
   (.skip))))))))
   (.seq (.seg false [⟨some 37, none, .load true 3 (.t 4), 0, 0, false, []⟩,
    ⟨some 38, none, .load true 3 (.t 5), 0, 0, false, []⟩,
    ⟨some 39, none, .call 78 [.t 37, .t 38] false false, 0, 0, false, []⟩,
    ⟨some 7, none, .mov (.t 39), 0, 0, false, []⟩])
   (.seq (.seg false [⟨some 40, none, .mov (.t 0), 0, 0, false, []⟩,
    ⟨some 41, none, .bin .eql (.t 40) (.k (.int .i64 1)), 0, 0, false, []⟩,
    ⟨some 42, none, .mov (.t 41), 0, 0, false, []⟩,
    ⟨some 43, some (42, true), .mov (.t 7), 0, 0, false, []⟩,
    ⟨some 44, some (42, true), .bin .eql (.t 43) (.k (.int .i64 0)), 0, 0, false, []⟩,
    ⟨some 45, none, .pick (.t 42) (.t 44) (.k (.bool false)), 0, 0, false, []⟩,
    ⟨some 46, none, .mov (.t 45), 0, 0, false, []⟩,
    ⟨some 47, some (46, false), .mov (.t 0), 0, 0, false, []⟩,
    ⟨some 48, some (46, false), .bin .eql (.t 47) (.k (.int .i64 2)), 0, 0, false, []⟩,
    ⟨some 49, some (46, false), .mov (.t 48), 0, 0, false, []⟩,
    ⟨some 50, some (49, true), .mov (.t 7), 0, 0, false, []⟩,
    ⟨some 51, some (49, true), .bin .neq (.t 50) (.k (.int .i64 0)), 0, 0, false, []⟩,
    ⟨some 52, some (46, false), .pick (.t 49) (.t 51) (.k (.bool false)), 0, 0, false, []⟩,
    ⟨some 53, none, .pick (.t 46) (.k (.bool true)) (.t 52), 0, 0, false, []⟩,
    ⟨some 54, none, .mov (.t 53), 0, 0, false, []⟩,
    ⟨some 55, some (54, false), .mov (.t 0), 0, 0, false, []⟩,
    ⟨some 56, some (54, false), .bin .eql (.t 55) (.k (.int .i64 3)), 0, 0, false, []⟩,
    ⟨some 57, some (54, false), .mov (.t 56), 0, 0, false, []⟩,
    ⟨some 58, some (57, true), .mov (.t 7), 0, 0, false, []⟩,
    ⟨some 59, some (57, true), .bin .lss (.t 58) (.k (.int .i64 0)), 0, 0, false, []⟩,
    ⟨some 60, some (54, false), .pick (.t 57) (.t 59) (.k (.bool false)), 0, 0, false, []⟩,
    ⟨some 61, none, .pick (.t 54) (.k (.bool true)) (.t 60), 0, 0, false, []⟩,
    ⟨some 62, none, .mov (.t 61), 0, 0, false, []⟩,
    ⟨some 63, some (62, false), .mov (.t 0), 0, 0, false, []⟩,
    ⟨some 64, some (62, false), .bin .eql (.t 63) (.k (.int .i64 4)), 0, 0, false, []⟩,
    ⟨some 65, some (62, false), .mov (.t 64), 0, 0, false, []⟩,
    ⟨some 66, some (65, true), .mov (.t 7), 0, 0, false, []⟩,
    ⟨some 67, some (65, true), .bin .leq (.t 66) (.k (.int .i64 0)), 0, 0, false, []⟩,
    ⟨some 68, some (62, false), .pick (.t 65) (.t 67) (.k (.bool false)), 0, 0, false, []⟩,
    ⟨some 69, none, .pick (.t 62) (.k (.bool true)) (.t 68), 0, 0, false, []⟩,
    ⟨some 70, none, .call 106 [.t 69] false false, 0, 0, false, []⟩,
    ⟨some 6, none, .mov (.t 70), 0, 0, false, []⟩])
   (.ret))))⟩
/-- loop.example/tablehouse/spec.l20Open -/
def F76 : F := ⟨11, [(false, 2, 0, false)],
   .seq (.seg false [⟨some 2, none, .mov (.k .undef), 0, 0, false, []⟩])
   (.seq (.seq (.seg false [⟨some 3, none, .mov (.t 0), 0, 0, false, []⟩,
    ⟨some 4, none, .len false (.t 3), 0, 0, false, []⟩,
    ⟨some 5, none, .bin .gtr (.t 4) (.k (.int .i64 2000)), 0, 0, false, []⟩])
   (.cond (.t 5) (.seg false [⟨some 6, none, .mov (.t 0), 0, 0, false, []⟩,
    ⟨some 7, none, .slc false 1 (.t 6) none (some (.k (.int .i64 2000))) none, 0, 0, false, []⟩,
    ⟨some 0, none, .mov (.t 7), 0, 0, false, []⟩])
   (.skip)))
   (.seq (.seg false [⟨some 8, none, .mov (.t 0), 0, 0, false, []⟩,
    ⟨some 9, none, .build [.sl true 1 [], .int .i64 0] [(0, 1, .t 8)], 0, 0, false, []⟩,
    ⟨some 10, none, .box (.t 9), 0, 0, false, []⟩,
    ⟨some 2, none, .mov (.t 10), 0, 0, false, []⟩])
   (.ret)))⟩
def E75x0 : List I := [⟨some 38, none, .load true 8 (.t 8), 0, 2, false, []⟩,
    ⟨some 39, none, .mov (.t 0), 0, 0, false, []⟩,
    ⟨some 40, none, .call 104 [.t 39, .k (.int .i64 4)] true false, 0, 0, true, []⟩,
    ⟨some 41, none, .bin .add (.k (.int .i64 1)) (.t 40), 1, 3, false, []⟩,
    ⟨some 42, none, .mov (.t 0), 0, 1, false, []⟩,
    ⟨some 43, none, .call 104 [.t 42, .k (.int .i64 20)] true false, 1, 0, true, []⟩,
    ⟨some 44, none, .bin .quo (.t 43) (.k (.int .i64 19)), 2, 3, false, []⟩,
    ⟨some 45, none, .bin .mul (.t 44) (.k (.int .i64 3)), 0, 3, false, []⟩,
    ⟨some 46, none, .bin .add (.t 41) (.t 45), 0, 3, false, []⟩,
    ⟨some 47, none, .load true 3 (.t 9), 0, 3, false, []⟩,
    ⟨none, none, .store 8 (.t 2) (.t 38), 2, 0, true, []⟩,
    ⟨some 3, none, .mov (.t 46), 3, 3, false, []⟩,
    ⟨none, none, .store 3 (.t 4) (.t 47), 3, 0, true, []⟩]
def D75x0 : List I := E75x0
theorem evD75x0 (run : Run) (e : Env) (h : Heap) : drawI run D75x0 e h = DrawW (evW run E75x0 e h []) run E75x0 e h := drawI_write run _ e h
/-- loop.example/tablehouse/spec.l20Against -/
def F75 : F := ⟨48, [(true, 2, 8, true), (false, 3, 0, false), (true, 4, 3, true)],
   .seq (.seg false [⟨some 2, none, .alloc [.int .i64 0, .int .i64 0, .int .i64 0, .int .i64 0, .str ⟨#[]⟩, .int .i64 0, .int .i64 0, .str ⟨#[]⟩], 0, 0, false, []⟩,
    ⟨some 3, none, .mov (.k (.int .i64 0)), 0, 0, false, []⟩,
    ⟨some 4, none, .alloc [.int .i64 0, .int .i64 0, .str ⟨#[]⟩], 0, 0, false, []⟩])
   (.seq (.seg false [⟨some 11, none, .mov (.t 0), 0, 0, false, []⟩,
    ⟨some 12, none, .call 86 [.t 11, .k (.int .i64 0)] true false, 0, 0, false, []⟩,
    ⟨some 10, none, .mov (.t 12), 0, 0, false, []⟩,
    ⟨some 13, none, .ext (.t 10) 0, 0, 0, false, []⟩,
    ⟨some 14, none, .ext (.t 10) 1, 0, 0, false, []⟩,
    ⟨some 15, none, .ext (.t 10) 2, 0, 0, false, []⟩,
    ⟨some 5, none, .mov (.t 13), 0, 0, false, []⟩,
    ⟨some 6, none, .mov (.t 14), 0, 0, false, []⟩,
    ⟨some 7, none, .mov (.t 15), 0, 0, false, []⟩])
   (.seq (.seg false [⟨some 16, none, .mov (.t 5), 0, 0, false, []⟩,
    ⟨some 17, none, .mov (.t 6), 0, 0, false, []⟩,
    ⟨some 18, none, .mov (.t 7), 0, 0, false, []⟩,
    ⟨some 19, none, .call 29 [.t 16, .t 17, .t 18] false false, 0, 0, false, []⟩,
    ⟨some 8, none, .alloc [.int .i64 0, .int .i64 0, .int .i64 0, .int .i64 0, .str ⟨#[]⟩, .int .i64 0, .int .i64 0, .str ⟨#[]⟩], 0, 0, false, []⟩,
    ⟨none, none, .store 8 (.t 8) (.t 19), 0, 0, false, []⟩])
   (.seq (.seg false [⟨some 20, none, .mov (.t 0), 0, 0, false, []⟩,
    ⟨some 21, none, .mov (.t 5), 0, 0, false, []⟩,
    ⟨some 22, none, .mov (.t 7), 0, 0, false, []⟩,
    ⟨some 23, none, .iaddr 2 (.t 21) (.t 22), 0, 0, false, []⟩,
    ⟨some 24, none, .faddr 0 1 (.t 23), 0, 0, false, []⟩,
    ⟨some 25, none, .load false 1 (.t 24), 0, 0, false, []⟩,
    ⟨some 26, none, .build [.int .i64 0, .bool false] [(0, 1, .t 25)], 0, 0, false, []⟩,
    ⟨some 27, none, .call 105 [.t 20, .t 26] true false, 0, 0, false, []⟩,
    ⟨some 9, none, .alloc [.int .i64 0, .int .i64 0, .str ⟨#[]⟩], 0, 0, false, []⟩,
    ⟨none, none, .store 3 (.t 9) (.t 27), 0, 0, false, []⟩])
   (.seq (.seq (.seg false [⟨some 28, none, .mov (.t 0), 0, 0, false, []⟩,
    ⟨some 29, none, .call 104 [.t 28, .k (.int .i64 12)] true false, 0, 0, false, []⟩,
    ⟨some 30, none, .bin .eql (.t 29) (.k (.int .i64 0)), 0, 0, false, []⟩])
   (.cond (.t 30) (.seg false [⟨some 31, none, .mov (.t 0), 0, 0, false, []⟩,
    ⟨some 32, none, .call 145 [.t 31, .k (.int .i64 2)] true false, 0, 0, false, []⟩,
    ⟨none, none, .store 3 (.t 9) (.t 32), 0, 0, false, []⟩])
   (.skip)))
   (.seq (.seq (.seg false [⟨some 33, none, .mov (.t 0), 0, 0, false, []⟩,
    ⟨some 34, none, .call 104 [.t 33, .k (.int .i64 15)] true false, 0, 0, false, []⟩,
    ⟨some 35, none, .bin .eql (.t 34) (.k (.int .i64 0)), 0, 0, false, []⟩])
   (.cond (.t 35) (.seg false [⟨some 36, none, .mov (.t 0), 0, 0, false, []⟩,
    ⟨some 37, none, .call 146 [.t 36, .k (.int .i64 1), .k (.int .i64 1)] true false, 0, 0, false, []⟩,
    ⟨none, none, .store 8 (.t 8) (.t 37), 0, 0, false, []⟩])
   (.skip)))
   (.seq (.seg true D75x0)
   (.ret)))))))⟩
/-- (loop.example/tablehouse/impl.Known).asks -/
def F77 : F := ⟨30, [(false, 6, 0, false)],
   .seq (.seg false [⟨some 3, none, .box (.t 0), 0, 0, false, []⟩,
    ⟨some 5, none, .box (.t 2), 0, 0, false, []⟩,
    ⟨some 6, none, .mov (.k (.bool false)), 0, 0, false, []⟩])
   (.seq (.seg false [⟨some 7, none, .load true 8 (.t 3), 0, 0, false, []⟩,
    ⟨some 8, none, .call 18 [.t 7] false false, 0, 0, false, []⟩,
    ⟨some 9, none, .mov (.t 8), 0, 0, false, []⟩,
    ⟨some 10, some (9, true), .faddr 0 1 (.t 3), 0, 0, false, []⟩,
    ⟨some 11, some (9, true), .load false 1 (.t 10), 0, 0, false, []⟩,
    ⟨some 12, some (9, true), .bin .gtr (.t 11) (.k (.int .i64 0)), 0, 0, false, []⟩,
    ⟨some 13, none, .pick (.t 9) (.t 12) (.k (.bool false)), 0, 0, false, []⟩,
    ⟨some 14, none, .mov (.t 13), 0, 0, false, []⟩,
    ⟨some 15, some (14, true), .mov (.t 1), 0, 0, false, []⟩,
    ⟨some 16, some (14, true), .call 82 [.t 15, .k (.int .i64 1), .k (.int .i64 4)] false false, 0, 0, false, []⟩,
    ⟨some 17, none, .pick (.t 14) (.t 16) (.k (.bool false)), 0, 0, false, []⟩,
    ⟨some 18, none, .mov (.t 17), 0, 0, false, []⟩,
    ⟨some 19, some (18, true), .load true 3 (.t 5), 0, 0, false, []⟩,
    ⟨some 20, some (18, true), .call 83 [.t 19] false false, 0, 0, false, []⟩,
    ⟨some 21, none, .pick (.t 18) (.t 20) (.k (.bool false)), 0, 0, false, []⟩,
    ⟨some 22, none, .mov (.t 21), 0, 0, false, []⟩,
    ⟨some 23, some (22, true), .faddr 0 1 (.t 5), 0, 0, false, []⟩,
    ⟨some 24, some (22, true), .load false 1 (.t 23), 0, 0, false, []⟩,
    ⟨some 25, some (22, true), .faddr 2 3 (.t 3), 0, 0, false, []⟩,
    ⟨some 26, some (22, true), .faddr 0 1 (.t 25), 0, 0, false, []⟩,
    ⟨some 27, some (22, true), .load false 1 (.t 26), 0, 0, false, []⟩,
    ⟨some 28, some (22, true), .bin .eql (.t 24) (.t 27), 0, 0, false, []⟩,
    ⟨some 29, none, .pick (.t 22) (.t 28) (.k (.bool false)), 0, 0, false, []⟩,
    ⟨some 6, none, .mov (.t 29), 0, 0, false, []⟩])
   (.ret))⟩
def E78x0 : List I := [⟨some 5, none, .faddr 0 1 (.t 2), 0, 0, false, []⟩,
    ⟨some 6, none, .load false 1 (.t 5), 0, 0, false, []⟩,
    ⟨some 7, none, .faddr 0 1 (.t 3), 0, 0, false, []⟩,
    ⟨some 8, none, .load false 1 (.t 7), 0, 0, false, []⟩,
    ⟨some 9, none, .call 148 [.t 6, .t 8] false false, 0, 0, false, []⟩,
    ⟨some 10, none, .faddr 1 1 (.t 2), 0, 0, false, []⟩,
    ⟨some 11, none, .load false 1 (.t 10), 0, 0, false, []⟩,
    ⟨some 12, none, .faddr 1 1 (.t 3), 0, 0, false, []⟩,
    ⟨some 13, none, .load false 1 (.t 12), 0, 0, false, []⟩,
    ⟨some 14, none, .call 148 [.t 11, .t 13] false false, 0, 0, false, []⟩,
    ⟨some 15, none, .faddr 2 1 (.t 2), 0, 0, false, []⟩,
    ⟨some 16, none, .load false 1 (.t 15), 0, 0, false, []⟩,
    ⟨some 17, none, .faddr 2 1 (.t 3), 0, 0, false, []⟩,
    ⟨some 18, none, .load false 1 (.t 17), 0, 0, false, []⟩,
    ⟨some 19, none, .call 149 [.t 16, .t 18] false false, 0, 0, false, []⟩,
    ⟨some 20, none, .mksl false 1 [.t 9, .t 14, .t 19], 0, 0, false, []⟩,
    ⟨some 21, none, .call 147 [.t 20] false false, 0, 0, false, []⟩,
    ⟨some 4, none, .mov (.t 21), 0, 0, false, []⟩]
def D78x0 : List I := E78x0
theorem evD78x0 (run : Run) (e : Env) (h : Heap) : drawI run D78x0 e h = DrawS (evQ run E78x0 e h) run E78x0 e h := drawI_quiet run _ (by rfl) e h
/-- (loop.example/tablehouse/impl.Value).order -/
def F78 : F := ⟨22, [(false, 4, 0, false)],
   .seq (.seg false [⟨some 2, none, .box (.t 0), 0, 0, false, []⟩,
    ⟨some 3, none, .box (.t 1), 0, 0, false, []⟩,
    ⟨some 4, none, .mov (.k (.int .i64 0)), 0, 0, false, []⟩])
   (.seq (.seg true D78x0)
   (.ret))⟩
/-- loop.example/tablehouse/spec.KnownOk -/
def F79 : F := ⟨68, [(false, 2, 0, false)],
   .seq (.seg false [⟨some 1, none, .box (.t 0), 0, 0, false, []⟩,
    ⟨some 2, none, .mov (.k (.bool false)), 0, 0, false, []⟩])
   (.seq (.seq (.seg false [⟨some 3, none, .faddr 0 1 (.t 1), 0, 0, false, []⟩,
    ⟨some 4, none, .load false 1 (.t 3), 0, 0, false, []⟩,
    ⟨some 5, none, .bin .eql (.t 4) (.k (.int .i64 0)), 0, 0, false, []⟩])
   (.cond (.t 5) (.seq (.seg false [⟨some 6, none, .load true 8 (.t 1), 0, 0, false, []⟩,
    ⟨some 7, none, .build [.int .i64 0, .int .i64 0, .int .i64 0, .int .i64 0, .str ⟨#[]⟩, .int .i64 0, .int .i64 0, .str ⟨#[]⟩] [], 0, 0, false, []⟩,
    ⟨some 8, none, .eqs false [.int, .int, .int, .int, .str, .int, .int, .str] (.t 6) (.t 7), 0, 0, false, []⟩,
    ⟨some 2, none, .mov (.t 8), 0, 0, false, []⟩])
   (.ret))
   (.skip)))
   (.seq (.seq (.seg false [⟨some 9, none, .faddr 0 1 (.t 1), 0, 0, false, []⟩,
    ⟨some 10, none, .load false 1 (.t 9), 0, 0, false, []⟩,
    ⟨some 11, none, .call 90 [.t 10, .k (.int .i64 1), .k (.int .i64 100)] false false, 0, 0, false, []⟩,
    ⟨some 12, none, .un .not (.t 11), 0, 0, false, []⟩,
    ⟨some 13, none, .mov (.t 12), 0, 0, false, []⟩,
    ⟨some 14, some (13, false), .faddr 2 3 (.t 1), 0, 0, false, []⟩,
    ⟨some 15, some (13, false), .load true 3 (.t 14), 0, 0, false, []⟩,
    ⟨some 16, some (13, false), .call 80 [.t 15] false false, 0, 0, false, []⟩,
    ⟨some 17, some (13, false), .un .not (.t 16), 0, 0, false, []⟩,
    ⟨some 18, none, .pick (.t 13) (.k (.bool true)) (.t 17), 0, 0, false, []⟩,
    ⟨some 19, none, .mov (.t 18), 0, 0, false, []⟩,
    ⟨some 20, some (19, false), .faddr 5 3 (.t 1), 0, 0, false, []⟩,
    ⟨some 21, some (19, false), .load true 3 (.t 20), 0, 0, false, []⟩,
    ⟨some 22, some (19, false), .call 80 [.t 21] false false, 0, 0, false, []⟩,
    ⟨some 23, some (19, false), .un .not (.t 22), 0, 0, false, []⟩,
    ⟨some 24, none, .pick (.t 19) (.k (.bool true)) (.t 23), 0, 0, false, []⟩,
    ⟨some 25, none, .mov (.t 24), 0, 0, false, []⟩,
    ⟨some 26, some (25, false), .faddr 2 3 (.t 1), 0, 0, false, []⟩,
    ⟨some 27, some (25, false), .faddr 0 1 (.t 26), 0, 0, false, []⟩,
    ⟨some 28, some (25, false), .load false 1 (.t 27), 0, 0, false, []⟩,
    ⟨some 29, some (25, false), .faddr 5 3 (.t 1), 0, 0, false, []⟩,
    ⟨some 30, some (25, false), .faddr 0 1 (.t 29), 0, 0, false, []⟩,
    ⟨some 31, some (25, false), .load false 1 (.t 30), 0, 0, false, []⟩,
    ⟨some 32, some (25, false), .bin .neq (.t 28) (.t 31), 0, 0, false, []⟩,
    ⟨some 33, none, .pick (.t 25) (.k (.bool true)) (.t 32), 0, 0, false, []⟩,
    ⟨some 34, none, .mov (.t 33), 0, 0, false, []⟩,
    ⟨some 35, some (34, false), .faddr 2 3 (.t 1), 0, 0, false, []⟩,
    ⟨some 36, some (34, false), .faddr 0 1 (.t 35), 0, 0, false, []⟩,
    ⟨some 37, some (34, false), .load false 1 (.t 36), 0, 0, false, []⟩,
    ⟨some 38, some (34, false), .bin .eql (.t 37) (.k (.int .i64 0)), 0, 0, false, []⟩,
    ⟨some 39, none, .pick (.t 34) (.k (.bool true)) (.t 38), 0, 0, false, []⟩])
   (.cond (.t 39) (.seq (.seg false [⟨some 2, none, .mov (.k (.bool false)), 0, 0, false, []⟩])
   (.ret))
   (.skip)))
   (.seq (.seg false [⟨some 40, none, .faddr 2 3 (.t 1), 0, 0, false, []⟩,
    ⟨some 41, none, .load true 3 (.t 40), 0, 0, false, []⟩,
    ⟨some 42, none, .faddr 5 3 (.t 1), 0, 0, false, []⟩,
    ⟨some 43, none, .load true 3 (.t 42), 0, 0, false, []⟩,
    ⟨some 44, none, .call 81 [.t 41, .t 43] false false, 0, 0, false, []⟩,
    ⟨some 45, none, .bin .leq (.t 44) (.k (.int .i64 0)), 0, 0, false, []⟩,
    ⟨some 46, none, .mov (.t 45), 0, 0, false, []⟩,
    ⟨some 47, some (46, true), .faddr 1 1 (.t 1), 0, 0, false, []⟩,
    ⟨some 48, some (46, true), .load false 1 (.t 47), 0, 0, false, []⟩,
    ⟨some 49, some (46, true), .faddr 0 1 (.t 1), 0, 0, false, []⟩,
    ⟨some 50, some (46, true), .load false 1 (.t 49), 0, 0, false, []⟩,
    ⟨some 51, some (46, true), .bin .mul (.k (.int .i64 (-9999))) (.t 50), 0, 0, false, []⟩,
    ⟨some 52, some (46, true), .faddr 0 1 (.t 1), 0, 0, false, []⟩,
    ⟨some 53, some (46, true), .load false 1 (.t 52), 0, 0, false, []⟩,
    ⟨some 54, some (46, true), .bin .mul (.k (.int .i64 9999)) (.t 53), 0, 0, false, []⟩,
    ⟨some 55, some (46, true), .call 90 [.t 48, .t 51, .t 54] false false, 0, 0, false, []⟩,
    ⟨some 56, none, .pick (.t 46) (.t 55) (.k (.bool false)), 0, 0, false, []⟩,
    ⟨some 57, none, .mov (.t 56), 0, 0, false, []⟩,
    ⟨some 58, some (57, true), .faddr 2 3 (.t 1), 0, 0, false, []⟩,
    ⟨some 59, some (57, true), .faddr 0 1 (.t 58), 0, 0, false, []⟩,
    ⟨some 60, some (57, true), .load false 1 (.t 59), 0, 0, false, []⟩,
    ⟨some 61, some (57, true), .bin .eql (.t 60) (.k (.int .i64 1)), 0, 0, false, []⟩,
    ⟨some 62, some (57, true), .mov (.t 61), 0, 0, false, []⟩,
    ⟨some 63, some (62, false), .faddr 1 1 (.t 1), 0, 0, false, []⟩,
    ⟨some 64, some (62, false), .load false 1 (.t 63), 0, 0, false, []⟩,
    ⟨some 65, some (62, false), .bin .eql (.t 64) (.k (.int .i64 0)), 0, 0, false, []⟩,
    ⟨some 66, some (57, true), .pick (.t 62) (.k (.bool true)) (.t 65), 0, 0, false, []⟩,
    ⟨some 67, none, .pick (.t 57) (.t 66) (.k (.bool false)), 0, 0, false, []⟩,
    ⟨some 2, none, .mov (.t 67), 0, 0, false, []⟩])
   (.ret))))⟩
/-- loop.example/tablehouse/spec.ValueOk -/
def F80 : F := ⟨45, [(false, 2, 0, false)],
   .seq (.seg false [⟨some 1, none, .box (.t 0), 0, 0, false, []⟩,
    ⟨some 2, none, .mov (.k (.bool false)), 0, 0, false, []⟩])
   (.seq (.seq (.seg false [⟨some 3, none, .faddr 0 1 (.t 1), 0, 0, false, []⟩,
    ⟨some 4, none, .load false 1 (.t 3), 0, 0, false, []⟩])
   (.block 0 (.seq (.seg false [⟨some 6, none, .bin .eql (.t 4) (.k (.int .i64 0)), 0, 0, false, []⟩,
    ⟨some 5, none, .mov (.t 6), 0, 0, false, []⟩])
   (.cond (.t 5) (.seq (.seg false [⟨some 7, none, .faddr 1 1 (.t 1), 0, 0, false, []⟩,
    ⟨some 8, none, .load false 1 (.t 7), 0, 0, false, []⟩,
    ⟨some 9, none, .bin .eql (.t 8) (.k (.int .i64 0)), 0, 0, false, []⟩,
    ⟨some 10, none, .mov (.t 9), 0, 0, false, []⟩,
    ⟨some 11, some (10, true), .faddr 2 1 (.t 1), 0, 0, false, []⟩,
    ⟨some 12, some (10, true), .load false 1 (.t 11), 0, 0, false, []⟩,
    ⟨some 13, some (10, true), .bin .eql (.t 12) (.k (.str ⟨#[]⟩)), 0, 0, false, []⟩,
    ⟨some 14, none, .pick (.t 10) (.t 13) (.k (.bool false)), 0, 0, false, []⟩,
    ⟨some 2, none, .mov (.t 14), 0, 0, false, []⟩])
   (.ret))
   (.seq (.seg false [⟨some 16, none, .bin .eql (.t 4) (.k (.int .i64 1)), 0, 0, false, []⟩,
    ⟨some 15, none, .mov (.t 16), 0, 0, false, []⟩])
   (.cond (.t 15) (.seq (.seg false [⟨some 17, none, .faddr 1 1 (.t 1), 0, 0, false, []⟩,
    ⟨some 18, none, .load false 1 (.t 17), 0, 0, false, []⟩,
    ⟨some 19, none, .call 90 [.t 18, .k (.int .i64 (-9999)), .k (.int .i64 9999)] false false, 0, 0, false, []⟩,
    ⟨some 20, none, .mov (.t 19), 0, 0, false, []⟩,
    ⟨some 21, some (20, true), .faddr 2 1 (.t 1), 0, 0, false, []⟩,
    ⟨some 22, some (20, true), .load false 1 (.t 21), 0, 0, false, []⟩,
    ⟨some 23, some (20, true), .bin .eql (.t 22) (.k (.str ⟨#[]⟩)), 0, 0, false, []⟩,
    ⟨some 24, none, .pick (.t 20) (.t 23) (.k (.bool false)), 0, 0, false, []⟩,
    ⟨some 2, none, .mov (.t 24), 0, 0, false, []⟩])
   (.ret))
   (.seq (.seg false [⟨some 26, none, .bin .eql (.t 4) (.k (.int .i64 2)), 0, 0, false, []⟩,
    ⟨some 25, none, .mov (.t 26), 0, 0, false, []⟩])
   (.cond (.t 25) (.seq (.seg false [⟨some 27, none, .faddr 1 1 (.t 1), 0, 0, false, []⟩,
    ⟨some 28, none, .load false 1 (.t 27), 0, 0, false, []⟩,
    ⟨some 29, none, .bin .eql (.t 28) (.k (.int .i64 0)), 0, 0, false, []⟩,
    ⟨some 30, none, .mov (.t 29), 0, 0, false, []⟩,
    ⟨some 31, some (30, true), .faddr 2 1 (.t 1), 0, 0, false, []⟩,
    ⟨some 32, some (30, true), .load false 1 (.t 31), 0, 0, false, []⟩,
    ⟨some 33, some (30, true), .call 150 [.t 32] false false, 0, 0, false, []⟩,
    ⟨some 34, none, .pick (.t 30) (.t 33) (.k (.bool false)), 0, 0, false, []⟩,
    ⟨some 2, none, .mov (.t 34), 0, 0, false, []⟩])
   (.ret))
   (.seq (.seg false [⟨some 36, none, .bin .eql (.t 4) (.k (.int .i64 3)), 0, 0, false, []⟩,
    ⟨some 35, none, .mov (.t 36), 0, 0, false, []⟩])
   (.cond (.t 35) (.seq (.seg false [⟨some 37, none, .faddr 1 1 (.t 1), 0, 0, false, []⟩,
    ⟨some 38, none, .load false 1 (.t 37), 0, 0, false, []⟩,
    ⟨some 39, none, .call 90 [.t 38, .k (.int .i64 0), .k (.int .i64 1)] false false, 0, 0, false, []⟩,
    ⟨some 40, none, .mov (.t 39), 0, 0, false, []⟩,
    ⟨some 41, some (40, true), .faddr 2 1 (.t 1), 0, 0, false, []⟩,
    ⟨some 42, some (40, true), .load false 1 (.t 41), 0, 0, false, []⟩,
    ⟨some 43, some (40, true), .bin .eql (.t 42) (.k (.str ⟨#[]⟩)), 0, 0, false, []⟩,
    ⟨some 44, none, .pick (.t 40) (.t 43) (.k (.bool false)), 0, 0, false, []⟩,
    ⟨some 2, none, .mov (.t 44), 0, 0, false, []⟩])
   (.ret))
   (.skip)))))))))))
   (.seq (.seg false [⟨some 2, none, .mov (.k (.bool false)), 0, 0, false, []⟩])
   (.ret)))⟩
/-- loop.example/tablehouse/spec.ValueOrder -/
def F81 : F := ⟨44, [(false, 4, 0, false)],
   .seq (.seg false [⟨some 2, none, .box (.t 0), 0, 0, false, []⟩,
    ⟨some 3, none, .box (.t 1), 0, 0, false, []⟩,
    ⟨some 4, none, .mov (.k (.int .i64 0)), 0, 0, false, []⟩])
   (.seq (.seq (.seg false [⟨some 5, none, .load true 3 (.t 2), 0, 0, false, []⟩,
    ⟨some 6, none, .call 80 [.t 5] false false, 0, 0, false, []⟩,
    ⟨some 7, none, .un .not (.t 6), 0, 0, false, []⟩,
    ⟨some 8, none, .mov (.t 7), 0, 0, false, []⟩,
    ⟨some 9, some (8, false), .load true 3 (.t 3), 0, 0, false, []⟩,
    ⟨some 10, some (8, false), .call 80 [.t 9] false false, 0, 0, false, []⟩,
    ⟨some 11, some (8, false), .un .not (.t 10), 0, 0, false, []⟩,
    ⟨some 12, none, .pick (.t 8) (.k (.bool true)) (.t 11), 0, 0, false, []⟩])
   (.cond (.t 12) (.seq (.seg false [⟨some 4, none, .mov (.k (.int .i64 0)), 0, 0, false, []⟩])
   (.ret))
   (.skip)))
   (.seq (.block 0 (.seq (.seg false [⟨some 14, none, .faddr 0 1 (.t 2), 0, 0, false, []⟩,
    ⟨some 15, none, .load false 1 (.t 14), 0, 0, false, []⟩,
    ⟨some 16, none, .faddr 0 1 (.t 3), 0, 0, false, []⟩,
    ⟨some 17, none, .load false 1 (.t 16), 0, 0, false, []⟩,
    ⟨some 18, none, .bin .neq (.t 15) (.t 17), 0, 0, false, []⟩,
    ⟨some 13, none, .mov (.t 18), 0, 0, false, []⟩])
   (.cond (.t 13) (.seq (.seg false [⟨some 19, none, .faddr 0 1 (.t 3), 0, 0, false, []⟩,
    ⟨some 20, none, .load false 1 (.t 19), 0, 0, false, []⟩,
    ⟨some 21, none, .faddr 0 1 (.t 2), 0, 0, false, []⟩,
    ⟨some 22, none, .load false 1 (.t 21), 0, 0, false, []⟩,
    ⟨some 23, none, .call 151 [.t 20, .t 22] false false, 0, 0, false, []⟩,
    ⟨some 24, none, .bin .mul (.k (.int .i64 2)) (.t 23), 0, 0, false, []⟩,
    ⟨some 25, none, .bin .sub (.t 24) (.k (.int .i64 1)), 0, 0, false, []⟩,
    ⟨some 4, none, .mov (.t 25), 0, 0, false, []⟩])
   (.ret))
   (.seq (.seg false [⟨some 27, none, .faddr 1 1 (.t 2), 0, 0, false, []⟩,
    ⟨some 28, none, .load false 1 (.t 27), 0, 0, false, []⟩,
    ⟨some 29, none, .faddr 1 1 (.t 3), 0, 0, false, []⟩,
    ⟨some 30, none, .load false 1 (.t 29), 0, 0, false, []⟩,
    ⟨some 31, none, .bin .neq (.t 28) (.t 30), 0, 0, false, []⟩,
    ⟨some 26, none, .mov (.t 31), 0, 0, false, []⟩])
   (.cond (.t 26) (.seq (.seg false [⟨some 32, none, .faddr 1 1 (.t 3), 0, 0, false, []⟩,
    ⟨some 33, none, .load false 1 (.t 32), 0, 0, false, []⟩,
    ⟨some 34, none, .faddr 1 1 (.t 2), 0, 0, false, []⟩,
    ⟨some 35, none, .load false 1 (.t 34), 0, 0, false, []⟩,
    ⟨some 36, none, .call 151 [.t 33, .t 35] false false, 0, 0, false, []⟩,
    ⟨some 37, none, .bin .mul (.k (.int .i64 2)) (.t 36), 0, 0, false, []⟩,
    ⟨some 38, none, .bin .sub (.t 37) (.k (.int .i64 1)), 0, 0, false, []⟩,
    ⟨some 4, none, .mov (.t 38), 0, 0, false, []⟩])
   (.ret))
   (.skip))))))
   (.seq (.seg false [⟨some 39, none, .faddr 2 1 (.t 2), 0, 0, false, []⟩,
    ⟨some 40, none, .load false 1 (.t 39), 0, 0, false, []⟩,
    ⟨some 41, none, .faddr 2 1 (.t 3), 0, 0, false, []⟩,
    ⟨some 42, none, .load false 1 (.t 41), 0, 0, false, []⟩,
    ⟨some 43, none, .call 152 [.t 40, .t 42] false false, 0, 0, false, []⟩,
    ⟨some 4, none, .mov (.t 43), 0, 0, false, []⟩])
   (.ret))))⟩
/-- loop.example/tablehouse/impl.between -/
def F82 : F := ⟨15, [(false, 6, 0, false)],
   .seq (.seg false [⟨some 6, none, .mov (.k (.bool false)), 0, 0, false, []⟩])
   (.seq (.seg false [⟨some 7, none, .mov (.t 0), 0, 0, false, []⟩,
    ⟨some 8, none, .mov (.t 1), 0, 0, false, []⟩,
    ⟨some 9, none, .bin .geq (.t 7) (.t 8), 0, 0, false, []⟩,
    ⟨some 10, none, .mov (.t 9), 0, 0, false, []⟩,
    ⟨some 11, some (10, true), .mov (.t 0), 0, 0, false, []⟩,
    ⟨some 12, some (10, true), .mov (.t 2), 0, 0, false, []⟩,
    ⟨some 13, some (10, true), .bin .leq (.t 11) (.t 12), 0, 0, false, []⟩,
    ⟨some 14, none, .pick (.t 10) (.t 13) (.k (.bool false)), 0, 0, false, []⟩,
    ⟨some 6, none, .mov (.t 14), 0, 0, false, []⟩])
   (.ret))⟩
/-- (loop.example/tablehouse/impl.Value).ok -/
def F83 : F := ⟨46, [(false, 2, 0, false)],
   .seq (.seg false [⟨some 1, none, .box (.t 0), 0, 0, false, []⟩,
    ⟨some 2, none, .mov (.k (.bool false)), 0, 0, false, []⟩])
   (.seq (.seq (.seg false [⟨some 3, none, .faddr 0 1 (.t 1), 0, 0, false, []⟩,
    ⟨some 4, none, .load false 1 (.t 3), 0, 0, false, []⟩])
   (.block 0 (.seq (.seg false [⟨some 6, none, .bin .eql (.t 4) (.k (.int .i64 0)), 0, 0, false, []⟩,
    ⟨some 5, none, .mov (.t 6), 0, 0, false, []⟩])
   (.cond (.t 5) (.seq (.seg false [⟨some 7, none, .load true 3 (.t 1), 0, 0, false, []⟩,
    ⟨some 8, none, .build [.int .i64 0, .int .i64 0, .str ⟨#[]⟩] [], 0, 0, false, []⟩,
    ⟨some 9, none, .eqs false [.int, .int, .str] (.t 7) (.t 8), 0, 0, false, []⟩,
    ⟨some 2, none, .mov (.t 9), 0, 0, false, []⟩])
   (.ret))
   (.seq (.seg false [⟨some 11, none, .bin .eql (.t 4) (.k (.int .i64 1)), 0, 0, false, []⟩,
    ⟨some 10, none, .mov (.t 11), 0, 0, false, []⟩])
   (.cond (.t 10) (.seq (.seg false [⟨some 12, none, .faddr 2 1 (.t 1), 0, 0, false, []⟩,
    ⟨some 13, none, .load false 1 (.t 12), 0, 0, false, []⟩,
    ⟨some 14, none, .bin .eql (.t 13) (.k (.str ⟨#[]⟩)), 0, 0, false, []⟩,
    ⟨some 15, none, .mov (.t 14), 0, 0, false, []⟩,
    ⟨some 16, some (15, true), .faddr 1 1 (.t 1), 0, 0, false, []⟩,
    ⟨some 17, some (15, true), .load false 1 (.t 16), 0, 0, false, []⟩,
    ⟨some 18, some (15, true), .call 82 [.t 17, .k (.int .i64 (-9999)), .k (.int .i64 9999)] false false, 0, 0, false, []⟩,
    ⟨some 19, none, .pick (.t 15) (.t 18) (.k (.bool false)), 0, 0, false, []⟩,
    ⟨some 2, none, .mov (.t 19), 0, 0, false, []⟩])
   (.ret))
   (.seq (.seg false [⟨some 21, none, .bin .eql (.t 4) (.k (.int .i64 2)), 0, 0, false, []⟩,
    ⟨some 20, none, .mov (.t 21), 0, 0, false, []⟩])
   (.cond (.t 20) (.seq (.seg false [⟨some 22, none, .faddr 1 1 (.t 1), 0, 0, false, []⟩,
    ⟨some 23, none, .load false 1 (.t 22), 0, 0, false, []⟩,
    ⟨some 24, none, .bin .eql (.t 23) (.k (.int .i64 0)), 0, 0, false, []⟩,
    ⟨some 25, none, .mov (.t 24), 0, 0, false, []⟩,
    ⟨some 26, some (25, true), .faddr 2 1 (.t 1), 0, 0, false, []⟩,
    ⟨some 27, some (25, true), .load false 1 (.t 26), 0, 0, false, []⟩,
    ⟨some 28, some (25, true), .len true (.t 27), 0, 0, false, []⟩,
    ⟨some 29, some (25, true), .bin .leq (.t 28) (.k (.int .i64 6)), 0, 0, false, []⟩,
    ⟨some 30, none, .pick (.t 25) (.t 29) (.k (.bool false)), 0, 0, false, []⟩,
    ⟨some 31, none, .mov (.t 30), 0, 0, false, []⟩,
    ⟨some 32, some (31, true), .faddr 2 1 (.t 1), 0, 0, false, []⟩,
    ⟨some 33, some (31, true), .load false 1 (.t 32), 0, 0, false, []⟩,
    ⟨some 34, some (31, true), .call 153 [.t 33] false false, 0, 0, false, []⟩,
    ⟨some 35, none, .pick (.t 31) (.t 34) (.k (.bool false)), 0, 0, false, []⟩,
    ⟨some 2, none, .mov (.t 35), 0, 0, false, []⟩])
   (.ret))
   (.seq (.seg false [⟨some 37, none, .bin .eql (.t 4) (.k (.int .i64 3)), 0, 0, false, []⟩,
    ⟨some 36, none, .mov (.t 37), 0, 0, false, []⟩])
   (.cond (.t 36) (.seq (.seg false [⟨some 38, none, .faddr 2 1 (.t 1), 0, 0, false, []⟩,
    ⟨some 39, none, .load false 1 (.t 38), 0, 0, false, []⟩,
    ⟨some 40, none, .bin .eql (.t 39) (.k (.str ⟨#[]⟩)), 0, 0, false, []⟩,
    ⟨some 41, none, .mov (.t 40), 0, 0, false, []⟩,
    ⟨some 42, some (41, true), .faddr 1 1 (.t 1), 0, 0, false, []⟩,
    ⟨some 43, some (41, true), .load false 1 (.t 42), 0, 0, false, []⟩,
    ⟨some 44, some (41, true), .call 82 [.t 43, .k (.int .i64 0), .k (.int .i64 1)] false false, 0, 0, false, []⟩,
    ⟨some 45, none, .pick (.t 41) (.t 44) (.k (.bool false)), 0, 0, false, []⟩,
    ⟨some 2, none, .mov (.t 45), 0, 0, false, []⟩])
   (.ret))
   (.skip)))))))))))
   (.seq (.seg false [⟨some 2, none, .mov (.k (.bool false)), 0, 0, false, []⟩])
   (.ret)))⟩
/-- loop.example/tablehouse/spec.l29Ends -/
def F84 : F := ⟨21, [(false, 2, 0, false)],
   .seq (.seg false [⟨some 1, none, .box (.t 0), 0, 0, false, []⟩,
    ⟨some 2, none, .mov (.k (.sl true 3 [])), 0, 0, false, []⟩])
   (.seq (.seq (.seg false [⟨some 3, none, .faddr 2 3 (.t 1), 0, 0, false, []⟩,
    ⟨some 4, none, .load true 3 (.t 3), 0, 0, false, []⟩,
    ⟨some 5, none, .faddr 5 3 (.t 1), 0, 0, false, []⟩,
    ⟨some 6, none, .load true 3 (.t 5), 0, 0, false, []⟩,
    ⟨some 7, none, .eqs false [.int, .int, .str] (.t 4) (.t 6), 0, 0, false, []⟩,
    ⟨some 8, none, .mov (.t 7), 0, 0, false, []⟩,
    ⟨some 9, some (8, false), .faddr 0 1 (.t 1), 0, 0, false, []⟩,
    ⟨some 10, some (8, false), .load false 1 (.t 9), 0, 0, false, []⟩,
    ⟨some 11, some (8, false), .bin .eql (.t 10) (.k (.int .i64 1)), 0, 0, false, []⟩,
    ⟨some 12, none, .pick (.t 8) (.k (.bool true)) (.t 11), 0, 0, false, []⟩])
   (.cond (.t 12) (.seq (.seg false [⟨some 13, none, .faddr 2 3 (.t 1), 0, 0, false, []⟩,
    ⟨some 14, none, .load true 3 (.t 13), 0, 0, false, []⟩,
    ⟨some 15, none, .mksl false 3 [.t 14], 0, 0, false, []⟩,
    ⟨some 2, none, .mov (.t 15), 0, 0, false, []⟩])
   (.ret))
   (.skip)))
   (.seq (.seg false [⟨some 16, none, .faddr 2 3 (.t 1), 0, 0, false, []⟩,
    ⟨some 17, none, .load true 3 (.t 16), 0, 0, false, []⟩,
    ⟨some 18, none, .faddr 5 3 (.t 1), 0, 0, false, []⟩,
    ⟨some 19, none, .load true 3 (.t 18), 0, 0, false, []⟩,
    ⟨some 20, none, .mksl false 3 [.t 17, .t 19], 0, 0, false, []⟩,
    ⟨some 2, none, .mov (.t 20), 0, 0, false, []⟩])
   (.ret)))⟩
/-- loop.example/tablehouse/spec.Compare -/
def F85 : F := ⟨65, [(false, 6, 0, false)],
   .seq (.seg false [⟨some 4, none, .box (.t 1), 0, 0, false, []⟩,
    ⟨some 5, none, .box (.t 2), 0, 0, false, []⟩,
    ⟨some 6, none, .mov (.k (.int .i64 0)), 0, 0, false, []⟩])
   (.seq (.block 0 (.seq (.seg false [⟨some 8, none, .mov (.t 0), 0, 0, false, []⟩,
    ⟨some 9, none, .call 90 [.t 8, .k (.int .i64 1), .k (.int .i64 4)] false false, 0, 0, false, []⟩,
    ⟨some 10, none, .un .not (.t 9), 0, 0, false, []⟩,
    ⟨some 11, none, .mov (.t 10), 0, 0, false, []⟩,
    ⟨some 12, some (11, false), .load true 3 (.t 4), 0, 0, false, []⟩,
    ⟨some 13, some (11, false), .call 80 [.t 12] false false, 0, 0, false, []⟩,
    ⟨some 14, some (11, false), .un .not (.t 13), 0, 0, false, []⟩,
    ⟨some 15, none, .pick (.t 11) (.k (.bool true)) (.t 14), 0, 0, false, []⟩,
    ⟨some 16, none, .mov (.t 15), 0, 0, false, []⟩,
    ⟨some 17, some (16, false), .load true 3 (.t 5), 0, 0, false, []⟩,
    ⟨some 18, some (16, false), .call 80 [.t 17] false false, 0, 0, false, []⟩,
    ⟨some 19, some (16, false), .un .not (.t 18), 0, 0, false, []⟩,
    ⟨some 20, none, .pick (.t 16) (.k (.bool true)) (.t 19), 0, 0, false, []⟩,
    ⟨some 7, none, .mov (.t 20), 0, 0, false, []⟩])
   (.cond (.t 7) (.seq (.seg false [⟨some 6, none, .mov (.k (.int .i64 (-1))), 0, 0, false, []⟩])
   (.ret))
   (.seq (.seg false [⟨some 22, none, .faddr 0 1 (.t 4), 0, 0, false, []⟩,
    ⟨some 23, none, .load false 1 (.t 22), 0, 0, false, []⟩,
    ⟨some 24, none, .bin .eql (.t 23) (.k (.int .i64 0)), 0, 0, false, []⟩,
    ⟨some 25, none, .mov (.t 24), 0, 0, false, []⟩,
    ⟨some 26, some (25, false), .faddr 0 1 (.t 5), 0, 0, false, []⟩,
    ⟨some 27, some (25, false), .load false 1 (.t 26), 0, 0, false, []⟩,
    ⟨some 28, some (25, false), .bin .eql (.t 27) (.k (.int .i64 0)), 0, 0, false, []⟩,
    ⟨some 29, none, .pick (.t 25) (.k (.bool true)) (.t 28), 0, 0, false, []⟩,
    ⟨some 21, none, .mov (.t 29), 0, 0, false, []⟩])
   (.cond (.t 21) (.seq (.seg false [⟨some 6, none, .mov (.k (.int .i64 2)), 0, 0, false, []⟩])
   (.ret))
   (.seq (.seg false [⟨some 31, none, .faddr 0 1 (.t 4), 0, 0, false, []⟩,
    ⟨some 32, none, .load false 1 (.t 31), 0, 0, false, []⟩,
    ⟨some 33, none, .faddr 0 1 (.t 5), 0, 0, false, []⟩,
    ⟨some 34, none, .load false 1 (.t 33), 0, 0, false, []⟩,
    ⟨some 35, none, .bin .neq (.t 32) (.t 34), 0, 0, false, []⟩,
    ⟨some 30, none, .mov (.t 35), 0, 0, false, []⟩])
   (.cond (.t 30) (.seq (.seg false [⟨some 6, none, .mov (.k (.int .i64 (-1))), 0, 0, false, []⟩])
   (.ret))
   (.seq (.seg false [⟨some 37, none, .mov (.t 0), 0, 0, false, []⟩,
    ⟨some 38, none, .bin .eql (.t 37) (.k (.int .i64 1)), 0, 0, false, []⟩,
    ⟨some 36, none, .mov (.t 38), 0, 0, false, []⟩])
   (.cond (.t 36) (.seq (.seg false [⟨some 39, none, .load true 3 (.t 4), 0, 0, false, []⟩,
    ⟨some 40, none, .load true 3 (.t 5), 0, 0, false, []⟩,
    ⟨some 41, none, .call 81 [.t 39, .t 40] false false, 0, 0, false, []⟩,
    ⟨some 42, none, .bin .eql (.t 41) (.k (.int .i64 0)), 0, 0, false, []⟩,
    ⟨some 43, none, .call 154 [.t 42] false false, 0, 0, false, []⟩,
    ⟨some 6, none, .mov (.t 43), 0, 0, false, []⟩])
   (.ret))
   (.seq (.seg false [⟨some 45, none, .mov (.t 0), 0, 0, false, []⟩,
    ⟨some 46, none, .bin .eql (.t 45) (.k (.int .i64 2)), 0, 0, false, []⟩,
    ⟨some 44, none, .mov (.t 46), 0, 0, false, []⟩])
   (.cond (.t 44) (.seq (.seg false [⟨some 47, none, .load true 3 (.t 4), 0, 0, false, []⟩,
    ⟨some 48, none, .load true 3 (.t 5), 0, 0, false, []⟩,
    ⟨some 49, none, .call 81 [.t 47, .t 48] false false, 0, 0, false, []⟩,
    ⟨some 50, none, .bin .neq (.t 49) (.k (.int .i64 0)), 0, 0, false, []⟩,
    ⟨some 51, none, .call 154 [.t 50] false false, 0, 0, false, []⟩,
    ⟨some 6, none, .mov (.t 51), 0, 0, false, []⟩])
   (.ret))
   (.seq (.seg false [⟨some 53, none, .mov (.t 0), 0, 0, false, []⟩,
    ⟨some 54, none, .bin .eql (.t 53) (.k (.int .i64 3)), 0, 0, false, []⟩,
    ⟨some 52, none, .mov (.t 54), 0, 0, false, []⟩])
   (.cond (.t 52) (.seq (.seg false [⟨some 55, none, .load true 3 (.t 4), 0, 0, false, []⟩,
    ⟨some 56, none, .load true 3 (.t 5), 0, 0, false, []⟩,
    ⟨some 57, none, .call 81 [.t 55, .t 56] false false, 0, 0, false, []⟩,
    ⟨some 58, none, .bin .lss (.t 57) (.k (.int .i64 0)), 0, 0, false, []⟩,
    ⟨some 59, none, .call 154 [.t 58] false false, 0, 0, false, []⟩,
    ⟨some 6, none, .mov (.t 59), 0, 0, false, []⟩])
   (.ret))
   (.skip))))))))))))))
   (.seq (.seg false [⟨some 60, none, .load true 3 (.t 4), 0, 0, false, []⟩,
    ⟨some 61, none, .load true 3 (.t 5), 0, 0, false, []⟩,
    ⟨some 62, none, .call 81 [.t 60, .t 61] false false, 0, 0, false, []⟩,
    ⟨some 63, none, .bin .leq (.t 62) (.k (.int .i64 0)), 0, 0, false, []⟩,
    ⟨some 64, none, .call 154 [.t 63] false false, 0, 0, false, []⟩,
    ⟨some 6, none, .mov (.t 64), 0, 0, false, []⟩])
   (.ret)))⟩
/-- loop.example/tablehouse/spec.l20Bounded -/
def F86 : F := ⟨30, [(false, 4, 0, false), (false, 5, 0, false), (false, 6, 0, false)],
   .seq (.seg false [⟨some 4, none, .mov (.k (.sl true 2 [])), 0, 0, false, []⟩,
    ⟨some 5, none, .nilrow 1, 0, 0, false, []⟩,
    ⟨some 6, none, .mov (.k (.int .i64 0)), 0, 0, false, []⟩])
   (.seq (.seg false [⟨some 9, none, .mov (.t 0), 0, 0, false, []⟩,
    ⟨some 10, none, .call 130 [.t 9, .k (.int .i64 0)] true false, 0, 0, false, []⟩,
    ⟨some 7, none, .mov (.t 10), 0, 0, false, []⟩])
   (.seq (.seg false [⟨some 11, none, .mov (.t 0), 0, 0, false, []⟩,
    ⟨some 12, none, .mov (.t 7), 0, 0, false, []⟩,
    ⟨some 13, none, .len false (.t 12), 0, 0, false, []⟩,
    ⟨some 14, none, .call 104 [.t 11, .t 13] true false, 0, 0, false, []⟩,
    ⟨some 8, none, .mov (.t 14), 0, 0, false, []⟩])
   (.seq (.seq (.seg false [⟨some 15, none, .mov (.t 0), 0, 0, false, []⟩,
    ⟨some 16, none, .mov (.t 1), 0, 0, false, []⟩,
    ⟨some 17, none, .call 155 [.t 15, .t 16] true false, 0, 0, false, []⟩])
   (.cond (.t 17) (.seg false [⟨some 18, none, .mov (.t 0), 0, 0, false, []⟩,
    ⟨some 19, none, .call 104 [.t 18, .k (.int .i64 6)] true false, 0, 0, false, []⟩,
    ⟨some 20, none, .bin .sub (.t 19) (.k (.int .i64 1)), 0, 0, false, []⟩,
    ⟨some 8, none, .mov (.t 20), 0, 0, false, []⟩])
   (.skip)))
   (.seq (.seg false [⟨some 21, none, .mov (.t 7), 0, 0, false, []⟩,
    ⟨some 22, none, .mov (.t 0), 0, 0, false, []⟩,
    ⟨some 23, none, .mov (.t 7), 0, 0, false, []⟩,
    ⟨some 24, none, .call 156 [.t 22, .t 23, .k (.int .i64 0)] true true, 0, 0, false, []⟩,
    ⟨some 25, none, .mov (.t 0), 0, 0, false, []⟩,
    ⟨some 26, none, .mov (.t 7), 0, 0, false, []⟩,
    ⟨some 27, none, .call 156 [.t 25, .t 26, .k (.int .i64 0)] true false, 0, 0, false, []⟩,
    ⟨some 28, none, .app 1 (.t 24) (.t 27), 0, 0, false, []⟩,
    ⟨some 29, none, .mov (.t 8), 0, 0, false, []⟩,
    ⟨some 4, none, .mov (.t 21), 0, 0, false, []⟩,
    ⟨some 5, none, .mov (.t 28), 0, 0, false, []⟩,
    ⟨some 6, none, .mov (.t 29), 0, 0, false, []⟩])
   (.ret)))))⟩
/-- loop.example/tablehouse/impl.ColumnsOk -/
def F87 : F := ⟨11, [(false, 2, 0, false)],
   .seq (.seg false [⟨some 2, none, .mov (.k (.bool false)), 0, 0, false, []⟩])
   (.seq (.seg false [⟨some 3, none, .mov (.t 0), 0, 0, false, []⟩,
    ⟨some 4, none, .len false (.t 3), 0, 0, false, []⟩,
    ⟨some 5, none, .bin .leq (.t 4) (.k (.int .i64 4)), 0, 0, false, []⟩,
    ⟨some 6, none, .mov (.t 5), 0, 0, false, []⟩,
    ⟨some 7, some (6, true), .mov (.t 0), 0, 0, false, []⟩,
    ⟨some 8, some (6, true), .call 157 [.t 7, .k (.clo 158 [])] true false, 0, 0, false, []⟩,
    ⟨some 9, some (6, true), .un .not (.t 8), 0, 0, false, []⟩,
    ⟨some 10, none, .pick (.t 6) (.t 9) (.k (.bool false)), 0, 0, false, []⟩,
    ⟨some 2, none, .mov (.t 10), 0, 0, false, []⟩])
   (.ret))⟩
def E88x0 : List I := [⟨some 14, none, .load true 8 (.t 5), 0, 0, false, []⟩,
    ⟨some 15, none, .mov (.t 7), 0, 0, false, []⟩,
    ⟨some 16, none, .mov (.t 1), 0, 0, false, []⟩,
    ⟨some 17, none, .iaddr 3 (.t 15) (.t 16), 0, 0, false, []⟩,
    ⟨some 18, none, .load true 3 (.t 17), 0, 0, false, []⟩,
    ⟨some 19, none, .call 159 [.t 18] false false, 0, 0, false, []⟩,
    ⟨some 20, none, .call 31 [.t 14, .t 19] false false, 0, 0, false, []⟩,
    ⟨none, none, .store 8 (.t 5) (.t 20), 0, 0, true, []⟩]
def D88x0 : List I := E88x0
theorem evD88x0 (run : Run) (e : Env) (h : Heap) : drawI run D88x0 e h = DrawW (evW run E88x0 e h []) run E88x0 e h := drawI_write run _ e h
def B88x0 : C := .seq (.seg false [⟨some 11, none, .bin .lss (.t 10) (.t 9), 0, 0, false, []⟩])
   (.seq (.cond (.t 11) (.skip)
   (.exit 0))
   (.seq (.block 1 (.seq (.seg false [⟨some 12, none, .iaddr 1 (.t 8) (.t 10), 0, 0, false, []⟩,
    ⟨some 13, none, .load false 1 (.t 12), 0, 0, false, []⟩,
    ⟨some 7, none, .mov (.t 13), 0, 0, false, []⟩])
   (.seg true D88x0)))
   (.seg false [⟨some 21, none, .bin .add (.t 10) (.k (.int .i64 1)), 0, 0, false, []⟩,
    ⟨some 10, none, .mov (.t 21), 0, 0, false, []⟩])))
def L88x0 : C := B88x0
theorem evL88x0 (run : Run) (draw : List I → Env → Heap → Option (Env × Heap)) (e : Env) (h : Heap) : evC run draw L88x0 e h = evC run draw B88x0 e h := rfl
/-- loop.example/tablehouse/impl.knownColumn -/
def F88 : F := ⟨23, [(true, 4, 8, true)],
   .seq (.seg false [⟨some 4, none, .alloc [.int .i64 0, .int .i64 0, .int .i64 0, .int .i64 0, .str ⟨#[]⟩, .int .i64 0, .int .i64 0, .str ⟨#[]⟩], 0, 0, false, []⟩])
   (.seq (.seg false [⟨some 5, none, .alloc [.int .i64 0, .int .i64 0, .int .i64 0, .int .i64 0, .str ⟨#[]⟩, .int .i64 0, .int .i64 0, .str ⟨#[]⟩], 0, 0, false, []⟩])
   (.seq (.seq (.seg false [⟨some 8, none, .mov (.t 0), 0, 0, false, []⟩,
    ⟨some 9, none, .len false (.t 8), 0, 0, false, []⟩,
    ⟨some 10, none, .mov (.k (.int .i64 0)), 0, 0, false, []⟩])
   (.block 0 (.loop [1, 4, 5, 8, 9, 10] [4, 5] L88x0)))
   (.seq (.seg false [⟨some 22, none, .load true 8 (.t 5), 0, 0, false, []⟩,
    ⟨none, none, .store 8 (.t 4) (.t 22), 0, 0, false, []⟩])
   (.ret))))⟩
def B89x0 : C := .seq (.seq (.seg false [⟨some 6, none, .mov (.t 5), 0, 0, false, []⟩,
    ⟨some 7, none, .mov (.t 1), 0, 0, false, []⟩,
    ⟨some 8, none, .len false (.t 7), 0, 0, false, []⟩,
    ⟨some 9, none, .bin .lss (.t 6) (.t 8), 0, 0, false, []⟩])
   (.cond (.t 9) (.skip)
   (.exit 0)))
   (.seq (.block 1 (.seq (.seg false [⟨some 12, none, .mov (.t 0), 0, 0, false, []⟩,
    ⟨some 13, none, .mov (.t 1), 0, 0, false, []⟩,
    ⟨some 14, none, .mov (.t 5), 0, 0, false, []⟩,
    ⟨some 15, none, .iaddr 1 (.t 13) (.t 14), 0, 0, false, []⟩,
    ⟨some 16, none, .load false 1 (.t 15), 0, 0, false, []⟩,
    ⟨some 17, none, .call 160 [.t 12, .t 16] false false, 0, 0, false, []⟩,
    ⟨some 18, none, .un .not (.t 17), 0, 0, false, []⟩])
   (.cond (.t 18) (.seq (.seg false [⟨some 4, none, .mov (.k (.bool false)), 0, 0, false, []⟩])
   (.ret))
   (.skip))))
   (.seg false [⟨some 10, none, .mov (.t 5), 0, 0, false, []⟩,
    ⟨some 11, none, .bin .add (.t 10) (.k (.int .i64 1)), 0, 0, false, []⟩,
    ⟨some 5, none, .mov (.t 11), 0, 0, false, []⟩]))
def L89x0 : C := B89x0
theorem evL89x0 (run : Run) (draw : List I → Env → Heap → Option (Env × Heap)) (e : Env) (h : Heap) : evC run draw L89x0 e h = evC run draw B89x0 e h := rfl
/-- loop.example/tablehouse/spec.RowsOk -/
def F89 : F := ⟨21, [(false, 4, 0, false)],
   .seq (.seg false [⟨some 4, none, .mov (.k (.bool false)), 0, 0, false, []⟩])
   (.seq (.seq (.seg false [⟨some 5, none, .mov (.k (.int .i64 0)), 0, 0, false, []⟩])
   (.block 0 (.loop [0, 1, 5] [0, 4] L89x0)))
   (.seq (.seg false [⟨some 19, none, .mov (.t 0), 0, 0, false, []⟩,
    ⟨some 20, none, .call 161 [.t 19] false false, 0, 0, false, []⟩,
    ⟨some 4, none, .mov (.t 20), 0, 0, false, []⟩])
   (.ret)))⟩
/-- loop.example/tablehouse/spec.l1In -/
def F90 : F := ⟨15, [(false, 6, 0, false)],
   .seq (.seg false [⟨some 6, none, .mov (.k (.bool false)), 0, 0, false, []⟩])
   (.seq (.seg false [⟨some 7, none, .mov (.t 0), 0, 0, false, []⟩,
    ⟨some 8, none, .mov (.t 1), 0, 0, false, []⟩,
    ⟨some 9, none, .bin .geq (.t 7) (.t 8), 0, 0, false, []⟩,
    ⟨some 10, none, .mov (.t 9), 0, 0, false, []⟩,
    ⟨some 11, some (10, true), .mov (.t 0), 0, 0, false, []⟩,
    ⟨some 12, some (10, true), .mov (.t 2), 0, 0, false, []⟩,
    ⟨some 13, some (10, true), .bin .leq (.t 11) (.t 12), 0, 0, false, []⟩,
    ⟨some 14, none, .pick (.t 10) (.t 13) (.k (.bool false)), 0, 0, false, []⟩,
    ⟨some 6, none, .mov (.t 14), 0, 0, false, []⟩])
   (.ret))⟩
/-- loop.example/tablehouse/spec.KnownOf -/
def F92 : F := ⟨23, [(true, 2, 8, true)],
   .seq (.seg false [⟨some 1, none, .box (.t 0), 0, 0, false, []⟩,
    ⟨some 2, none, .alloc [.int .i64 0, .int .i64 0, .int .i64 0, .int .i64 0, .str ⟨#[]⟩, .int .i64 0, .int .i64 0, .str ⟨#[]⟩], 0, 0, false, []⟩])
   (.seq (.seq (.seg false [⟨some 4, none, .load true 3 (.t 1), 0, 0, false, []⟩,
    ⟨some 5, none, .call 80 [.t 4] false false, 0, 0, false, []⟩,
    ⟨some 6, none, .un .not (.t 5), 0, 0, false, []⟩,
    ⟨some 7, none, .mov (.t 6), 0, 0, false, []⟩,
    ⟨some 8, some (7, false), .faddr 0 1 (.t 1), 0, 0, false, []⟩,
    ⟨some 9, some (7, false), .load false 1 (.t 8), 0, 0, false, []⟩,
    ⟨some 10, some (7, false), .bin .eql (.t 9) (.k (.int .i64 0)), 0, 0, false, []⟩,
    ⟨some 11, none, .pick (.t 7) (.k (.bool true)) (.t 10), 0, 0, false, []⟩])
   (.cond (.t 11) (.seq (.seg false [⟨some 12, none, .build [.int .i64 0, .int .i64 0, .int .i64 0, .int .i64 0, .str ⟨#[]⟩, .int .i64 0, .int .i64 0, .str ⟨#[]⟩] [], 0, 0, false, []⟩,
    ⟨none, none, .store 8 (.t 2) (.t 12), 0, 0, false, []⟩])
   (.ret))
   (.skip)))
   (.seq (.seg false [⟨some 13, none, .load true 3 (.t 1), 0, 0, false, []⟩,
    ⟨some 14, none, .load true 3 (.t 1), 0, 0, false, []⟩,
    ⟨some 15, none, .build [.int .i64 0, .int .i64 0, .int .i64 0, .int .i64 0, .str ⟨#[]⟩, .int .i64 0, .int .i64 0, .str ⟨#[]⟩] [(0, 1, .k (.int .i64 1)), (2, 3, .t 13), (5, 3, .t 14)], 0, 0, false, []⟩,
    ⟨some 3, none, .alloc [.int .i64 0, .int .i64 0, .int .i64 0, .int .i64 0, .str ⟨#[]⟩, .int .i64 0, .int .i64 0, .str ⟨#[]⟩], 0, 0, false, []⟩,
    ⟨none, none, .store 8 (.t 3) (.t 15), 0, 0, false, []⟩])
   (.seq (.seq (.seg false [⟨some 16, none, .faddr 0 1 (.t 1), 0, 0, false, []⟩,
    ⟨some 17, none, .load false 1 (.t 16), 0, 0, false, []⟩,
    ⟨some 18, none, .bin .eql (.t 17) (.k (.int .i64 1)), 0, 0, false, []⟩])
   (.cond (.t 18) (.seg false [⟨some 19, none, .faddr 1 1 (.t 1), 0, 0, false, []⟩,
    ⟨some 20, none, .load false 1 (.t 19), 0, 0, false, []⟩,
    ⟨some 21, none, .faddr 1 1 (.t 3), 0, 0, false, []⟩,
    ⟨none, none, .store 1 (.t 21) (.t 20), 0, 0, false, []⟩])
   (.skip)))
   (.seq (.seg false [⟨some 22, none, .load true 8 (.t 3), 0, 0, false, []⟩,
    ⟨none, none, .store 8 (.t 2) (.t 22), 0, 0, false, []⟩])
   (.ret)))))⟩
/-- loop.example/tablehouse/spec.KnownBoth -/
def F91 : F := ⟨77, [(true, 4, 8, true)],
   .seq (.seg false [⟨some 2, none, .box (.t 0), 0, 0, false, []⟩,
    ⟨some 3, none, .box (.t 1), 0, 0, false, []⟩,
    ⟨some 4, none, .alloc [.int .i64 0, .int .i64 0, .int .i64 0, .int .i64 0, .str ⟨#[]⟩, .int .i64 0, .int .i64 0, .str ⟨#[]⟩], 0, 0, false, []⟩])
   (.seq (.block 0 (.seq (.seg false [⟨some 7, none, .load true 8 (.t 2), 0, 0, false, []⟩,
    ⟨some 8, none, .call 79 [.t 7] false false, 0, 0, false, []⟩,
    ⟨some 9, none, .un .not (.t 8), 0, 0, false, []⟩,
    ⟨some 10, none, .mov (.t 9), 0, 0, false, []⟩,
    ⟨some 11, some (10, false), .load true 8 (.t 3), 0, 0, false, []⟩,
    ⟨some 12, some (10, false), .call 79 [.t 11] false false, 0, 0, false, []⟩,
    ⟨some 13, some (10, false), .un .not (.t 12), 0, 0, false, []⟩,
    ⟨some 14, none, .pick (.t 10) (.k (.bool true)) (.t 13), 0, 0, false, []⟩,
    ⟨some 6, none, .mov (.t 14), 0, 0, false, []⟩])
   (.cond (.t 6) (.seq (.seg false [⟨some 15, none, .build [.int .i64 0, .int .i64 0, .int .i64 0, .int .i64 0, .str ⟨#[]⟩, .int .i64 0, .int .i64 0, .str ⟨#[]⟩] [], 0, 0, false, []⟩,
    ⟨none, none, .store 8 (.t 4) (.t 15), 0, 0, false, []⟩])
   (.ret))
   (.seq (.seg false [⟨some 17, none, .faddr 0 1 (.t 2), 0, 0, false, []⟩,
    ⟨some 18, none, .load false 1 (.t 17), 0, 0, false, []⟩,
    ⟨some 19, none, .bin .eql (.t 18) (.k (.int .i64 0)), 0, 0, false, []⟩,
    ⟨some 16, none, .mov (.t 19), 0, 0, false, []⟩])
   (.cond (.t 16) (.seq (.seg false [⟨some 20, none, .load true 8 (.t 3), 0, 0, false, []⟩,
    ⟨none, none, .store 8 (.t 4) (.t 20), 0, 0, false, []⟩])
   (.ret))
   (.seq (.seg false [⟨some 22, none, .faddr 0 1 (.t 3), 0, 0, false, []⟩,
    ⟨some 23, none, .load false 1 (.t 22), 0, 0, false, []⟩,
    ⟨some 24, none, .bin .eql (.t 23) (.k (.int .i64 0)), 0, 0, false, []⟩,
    ⟨some 21, none, .mov (.t 24), 0, 0, false, []⟩])
   (.cond (.t 21) (.seq (.seg false [⟨some 25, none, .load true 8 (.t 2), 0, 0, false, []⟩,
    ⟨none, none, .store 8 (.t 4) (.t 25), 0, 0, false, []⟩])
   (.ret))
   (.seq (.seg false [⟨some 27, none, .faddr 2 3 (.t 2), 0, 0, false, []⟩,
    ⟨some 28, none, .faddr 0 1 (.t 27), 0, 0, false, []⟩,
    ⟨some 29, none, .load false 1 (.t 28), 0, 0, false, []⟩,
    ⟨some 30, none, .faddr 2 3 (.t 3), 0, 0, false, []⟩,
    ⟨some 31, none, .faddr 0 1 (.t 30), 0, 0, false, []⟩,
    ⟨some 32, none, .load false 1 (.t 31), 0, 0, false, []⟩,
    ⟨some 33, none, .bin .neq (.t 29) (.t 32), 0, 0, false, []⟩,
    ⟨some 34, none, .mov (.t 33), 0, 0, false, []⟩,
    ⟨some 35, some (34, false), .faddr 0 1 (.t 2), 0, 0, false, []⟩,
    ⟨some 36, some (34, false), .load false 1 (.t 35), 0, 0, false, []⟩,
    ⟨some 37, some (34, false), .faddr 0 1 (.t 3), 0, 0, false, []⟩,
    ⟨some 38, some (34, false), .load false 1 (.t 37), 0, 0, false, []⟩,
    ⟨some 39, some (34, false), .bin .add (.t 36) (.t 38), 0, 0, false, []⟩,
    ⟨some 40, some (34, false), .bin .gtr (.t 39) (.k (.int .i64 100)), 0, 0, false, []⟩,
    ⟨some 41, none, .pick (.t 34) (.k (.bool true)) (.t 40), 0, 0, false, []⟩,
    ⟨some 26, none, .mov (.t 41), 0, 0, false, []⟩])
   (.cond (.t 26) (.seq (.seg false [⟨some 42, none, .build [.int .i64 0, .int .i64 0, .int .i64 0, .int .i64 0, .str ⟨#[]⟩, .int .i64 0, .int .i64 0, .str ⟨#[]⟩] [], 0, 0, false, []⟩,
    ⟨none, none, .store 8 (.t 4) (.t 42), 0, 0, false, []⟩])
   (.ret))
   (.skip))))))))))
   (.seq (.seg false [⟨some 43, none, .faddr 0 1 (.t 2), 0, 0, false, []⟩,
    ⟨some 44, none, .load false 1 (.t 43), 0, 0, false, []⟩,
    ⟨some 45, none, .faddr 0 1 (.t 3), 0, 0, false, []⟩,
    ⟨some 46, none, .load false 1 (.t 45), 0, 0, false, []⟩,
    ⟨some 47, none, .bin .add (.t 44) (.t 46), 0, 0, false, []⟩,
    ⟨some 48, none, .faddr 1 1 (.t 2), 0, 0, false, []⟩,
    ⟨some 49, none, .load false 1 (.t 48), 0, 0, false, []⟩,
    ⟨some 50, none, .faddr 1 1 (.t 3), 0, 0, false, []⟩,
    ⟨some 51, none, .load false 1 (.t 50), 0, 0, false, []⟩,
    ⟨some 52, none, .bin .add (.t 49) (.t 51), 0, 0, false, []⟩,
    ⟨some 53, none, .faddr 2 3 (.t 2), 0, 0, false, []⟩,
    ⟨some 54, none, .load true 3 (.t 53), 0, 0, false, []⟩,
    ⟨some 55, none, .faddr 5 3 (.t 2), 0, 0, false, []⟩,
    ⟨some 56, none, .load true 3 (.t 55), 0, 0, false, []⟩,
    ⟨some 57, none, .build [.int .i64 0, .int .i64 0, .int .i64 0, .int .i64 0, .str ⟨#[]⟩, .int .i64 0, .int .i64 0, .str ⟨#[]⟩] [(0, 1, .t 47), (1, 1, .t 52), (2, 3, .t 54), (5, 3, .t 56)], 0, 0, false, []⟩,
    ⟨some 5, none, .alloc [.int .i64 0, .int .i64 0, .int .i64 0, .int .i64 0, .str ⟨#[]⟩, .int .i64 0, .int .i64 0, .str ⟨#[]⟩], 0, 0, false, []⟩,
    ⟨none, none, .store 8 (.t 5) (.t 57), 0, 0, false, []⟩])
   (.seq (.seq (.seg false [⟨some 58, none, .faddr 2 3 (.t 3), 0, 0, false, []⟩,
    ⟨some 59, none, .load true 3 (.t 58), 0, 0, false, []⟩,
    ⟨some 60, none, .faddr 2 3 (.t 5), 0, 0, false, []⟩,
    ⟨some 61, none, .load true 3 (.t 60), 0, 0, false, []⟩,
    ⟨some 62, none, .call 81 [.t 59, .t 61] false false, 0, 0, false, []⟩,
    ⟨some 63, none, .bin .lss (.t 62) (.k (.int .i64 0)), 0, 0, false, []⟩])
   (.cond (.t 63) (.seg false [⟨some 64, none, .faddr 2 3 (.t 3), 0, 0, false, []⟩,
    ⟨some 65, none, .load true 3 (.t 64), 0, 0, false, []⟩,
    ⟨some 66, none, .faddr 2 3 (.t 5), 0, 0, false, []⟩,
    ⟨none, none, .store 3 (.t 66) (.t 65), 0, 0, false, []⟩])
   (.skip)))
   (.seq (.seq (.seg false [⟨some 67, none, .faddr 5 3 (.t 3), 0, 0, false, []⟩,
    ⟨some 68, none, .load true 3 (.t 67), 0, 0, false, []⟩,
    ⟨some 69, none, .faddr 5 3 (.t 5), 0, 0, false, []⟩,
    ⟨some 70, none, .load true 3 (.t 69), 0, 0, false, []⟩,
    ⟨some 71, none, .call 81 [.t 68, .t 70] false false, 0, 0, false, []⟩,
    ⟨some 72, none, .bin .gtr (.t 71) (.k (.int .i64 0)), 0, 0, false, []⟩])
   (.cond (.t 72) (.seg false [⟨some 73, none, .faddr 5 3 (.t 3), 0, 0, false, []⟩,
    ⟨some 74, none, .load true 3 (.t 73), 0, 0, false, []⟩,
    ⟨some 75, none, .faddr 5 3 (.t 5), 0, 0, false, []⟩,
    ⟨none, none, .store 3 (.t 75) (.t 74), 0, 0, false, []⟩])
   (.skip)))
   (.seq (.seg false [⟨some 76, none, .load true 8 (.t 5), 0, 0, false, []⟩,
    ⟨none, none, .store 8 (.t 4) (.t 76), 0, 0, false, []⟩])
   (.ret))))))⟩
/-- loop.example/tablehouse/impl.RowsOk$1 -/
def F94 : F := ⟨8, [(false, 3, 0, false)],
   .seq (.seg false [⟨some 3, none, .mov (.k (.bool false)), 0, 0, false, []⟩])
   (.seq (.seg false [⟨some 4, none, .load false 1 (.t 1), 0, 0, false, []⟩,
    ⟨some 5, none, .mov (.t 0), 0, 0, false, []⟩,
    ⟨some 6, none, .call 95 [.t 4, .t 5] false false, 0, 0, false, []⟩,
    ⟨some 7, none, .un .not (.t 6), 0, 0, false, []⟩,
    ⟨some 3, none, .mov (.t 7), 0, 0, false, []⟩])
   (.ret))⟩
/-- slices.ContainsFunc<<><>loop.example/tablehouse/impl.Value,<>loop.example/tablehouse/impl.Value> -/
def F93 : F := ⟨9, [(false, 4, 0, false)],
   .seq (.seg false [⟨some 4, none, .mov (.k (.bool false)), 0, 0, false, []⟩])
   (.seq (.seg false [⟨some 5, none, .mov (.t 0), 0, 0, false, []⟩,
    ⟨some 6, none, .mov (.t 1), 0, 0, false, []⟩,
    ⟨some 7, none, .call 162 [.t 5, .t 6] true false, 0, 0, false, []⟩,
    ⟨some 8, none, .bin .geq (.t 7) (.k (.int .i64 0)), 0, 0, false, []⟩,
    ⟨some 4, none, .mov (.t 8), 0, 0, false, []⟩])
   (.ret))⟩
def E96x0 : List I := [⟨some 20, none, .mov (.t 1), 0, 0, false, []⟩,
    ⟨some 21, none, .mov (.t 0), 0, 1, false, []⟩,
    ⟨some 22, none, .mov (.t 6), 0, 1, false, []⟩,
    ⟨some 23, none, .iaddr 3 (.t 21) (.t 22), 0, 1, false, []⟩,
    ⟨some 24, none, .load true 3 (.t 23), 0, 0, false, []⟩,
    ⟨some 25, none, .load true 3 (.t 5), 0, 0, false, []⟩,
    ⟨some 26, none, .callv (.t 20) [.t 24, .t 25] false, 0, 0, true, []⟩,
    ⟨some 27, none, .bin .lss (.t 26) (.k (.int .i64 0)), 1, 1, false, []⟩]
def D96x0 : List I := E96x0
theorem evD96x0 (run : Run) (e : Env) (h : Heap) : drawI run D96x0 e h = DrawW (evW run E96x0 e h []) run E96x0 e h := drawI_write run _ e h
def B96x0 : C := .seq (.seq (.seg false [⟨some 14, none, .mov (.t 6), 0, 0, false, []⟩,
    ⟨some 15, none, .mov (.t 0), 0, 0, false, []⟩,
    ⟨some 16, none, .len false (.t 15), 0, 0, false, []⟩,
    ⟨some 17, none, .bin .lss (.t 14) (.t 16), 0, 0, false, []⟩])
   (.cond (.t 17) (.skip)
   (.exit 0)))
   (.seq (.block 1 (.seq (.seg true D96x0)
   (.cond (.t 27) (.seg false [⟨some 28, none, .mov (.t 0), 0, 0, false, []⟩,
    ⟨some 29, none, .mov (.t 6), 0, 0, false, []⟩,
    ⟨some 30, none, .iaddr 3 (.t 28) (.t 29), 0, 0, false, []⟩,
    ⟨some 31, none, .load true 3 (.t 30), 0, 0, false, []⟩,
    ⟨none, none, .store 3 (.t 5) (.t 31), 0, 0, false, []⟩])
   (.skip))))
   (.seg false [⟨some 18, none, .mov (.t 6), 0, 0, false, []⟩,
    ⟨some 19, none, .bin .add (.t 18) (.k (.int .i64 1)), 0, 0, false, []⟩,
    ⟨some 6, none, .mov (.t 19), 0, 0, false, []⟩]))
def L96x0 : C := B96x0
theorem evL96x0 (run : Run) (draw : List I → Env → Heap → Option (Env × Heap)) (e : Env) (h : Heap) : evC run draw L96x0 e h = evC run draw B96x0 e h := rfl
/-- slices.MinFunc<<>loop.example/tablehouse/impl.Value,loop.example/tablehouse/impl.Value> -/
def F96 : F := ⟨33, [(true, 4, 3, true)],
   .seq (.seg false [⟨some 4, none, .alloc [.int .i64 0, .int .i64 0, .str ⟨#[]⟩], 0, 0, false, []⟩])
   (.seq (.seq (.seg false [⟨some 7, none, .mov (.t 0), 0, 0, false, []⟩,
    ⟨some 8, none, .len false (.t 7), 0, 0, false, []⟩,
    ⟨some 9, none, .bin .lss (.t 8) (.k (.int .i64 1)), 0, 0, false, []⟩])
   (.cond (.t 9) (.seg false [⟨some 10, none, .bad, 0, 0, false, []⟩,
    ⟨none, none, .bad, 0, 0, false, []⟩])
   (.skip)))
   (.seq (.seg false [⟨some 11, none, .mov (.t 0), 0, 0, false, []⟩,
    ⟨some 12, none, .iaddr 3 (.t 11) (.k (.int .i64 0)), 0, 0, false, []⟩,
    ⟨some 13, none, .load true 3 (.t 12), 0, 0, false, []⟩,
    ⟨some 5, none, .alloc [.int .i64 0, .int .i64 0, .str ⟨#[]⟩], 0, 0, false, []⟩,
    ⟨none, none, .store 3 (.t 5) (.t 13), 0, 0, false, []⟩])
   (.seq (.seq (.seg false [⟨some 6, none, .mov (.k (.int .i64 1)), 0, 0, false, []⟩])
   (.block 0 (.loop [0, 1, 4, 5, 6] [4, 5] L96x0)))
   (.seq (.seg false [⟨some 32, none, .load true 3 (.t 5), 0, 0, false, []⟩,
    ⟨none, none, .store 3 (.t 4) (.t 32), 0, 0, false, []⟩])
   (.ret)))))⟩
def E97x0 : List I := [⟨some 20, none, .mov (.t 1), 0, 0, false, []⟩,
    ⟨some 21, none, .mov (.t 0), 0, 1, false, []⟩,
    ⟨some 22, none, .mov (.t 6), 0, 1, false, []⟩,
    ⟨some 23, none, .iaddr 3 (.t 21) (.t 22), 0, 1, false, []⟩,
    ⟨some 24, none, .load true 3 (.t 23), 0, 0, false, []⟩,
    ⟨some 25, none, .load true 3 (.t 5), 0, 0, false, []⟩,
    ⟨some 26, none, .callv (.t 20) [.t 24, .t 25] false, 0, 0, true, []⟩,
    ⟨some 27, none, .bin .gtr (.t 26) (.k (.int .i64 0)), 1, 1, false, []⟩]
def D97x0 : List I := E97x0
theorem evD97x0 (run : Run) (e : Env) (h : Heap) : drawI run D97x0 e h = DrawW (evW run E97x0 e h []) run E97x0 e h := drawI_write run _ e h
def B97x0 : C := .seq (.seq (.seg false [⟨some 14, none, .mov (.t 6), 0, 0, false, []⟩,
    ⟨some 15, none, .mov (.t 0), 0, 0, false, []⟩,
    ⟨some 16, none, .len false (.t 15), 0, 0, false, []⟩,
    ⟨some 17, none, .bin .lss (.t 14) (.t 16), 0, 0, false, []⟩])
   (.cond (.t 17) (.skip)
   (.exit 0)))
   (.seq (.block 1 (.seq (.seg true D97x0)
   (.cond (.t 27) (.seg false [⟨some 28, none, .mov (.t 0), 0, 0, false, []⟩,
    ⟨some 29, none, .mov (.t 6), 0, 0, false, []⟩,
    ⟨some 30, none, .iaddr 3 (.t 28) (.t 29), 0, 0, false, []⟩,
    ⟨some 31, none, .load true 3 (.t 30), 0, 0, false, []⟩,
    ⟨none, none, .store 3 (.t 5) (.t 31), 0, 0, false, []⟩])
   (.skip))))
   (.seg false [⟨some 18, none, .mov (.t 6), 0, 0, false, []⟩,
    ⟨some 19, none, .bin .add (.t 18) (.k (.int .i64 1)), 0, 0, false, []⟩,
    ⟨some 6, none, .mov (.t 19), 0, 0, false, []⟩]))
def L97x0 : C := B97x0
theorem evL97x0 (run : Run) (draw : List I → Env → Heap → Option (Env × Heap)) (e : Env) (h : Heap) : evC run draw L97x0 e h = evC run draw B97x0 e h := rfl
/-- slices.MaxFunc<<>loop.example/tablehouse/impl.Value,loop.example/tablehouse/impl.Value> -/
def F97 : F := ⟨33, [(true, 4, 3, true)],
   .seq (.seg false [⟨some 4, none, .alloc [.int .i64 0, .int .i64 0, .str ⟨#[]⟩], 0, 0, false, []⟩])
   (.seq (.seq (.seg false [⟨some 7, none, .mov (.t 0), 0, 0, false, []⟩,
    ⟨some 8, none, .len false (.t 7), 0, 0, false, []⟩,
    ⟨some 9, none, .bin .lss (.t 8) (.k (.int .i64 1)), 0, 0, false, []⟩])
   (.cond (.t 9) (.seg false [⟨some 10, none, .bad, 0, 0, false, []⟩,
    ⟨none, none, .bad, 0, 0, false, []⟩])
   (.skip)))
   (.seq (.seg false [⟨some 11, none, .mov (.t 0), 0, 0, false, []⟩,
    ⟨some 12, none, .iaddr 3 (.t 11) (.k (.int .i64 0)), 0, 0, false, []⟩,
    ⟨some 13, none, .load true 3 (.t 12), 0, 0, false, []⟩,
    ⟨some 5, none, .alloc [.int .i64 0, .int .i64 0, .str ⟨#[]⟩], 0, 0, false, []⟩,
    ⟨none, none, .store 3 (.t 5) (.t 13), 0, 0, false, []⟩])
   (.seq (.seq (.seg false [⟨some 6, none, .mov (.k (.int .i64 1)), 0, 0, false, []⟩])
   (.block 0 (.loop [0, 1, 4, 5, 6] [4, 5] L97x0)))
   (.seq (.seg false [⟨some 32, none, .load true 3 (.t 5), 0, 0, false, []⟩,
    ⟨none, none, .store 3 (.t 4) (.t 32), 0, 0, false, []⟩])
   (.ret)))))⟩
def E104x0 : List I := [⟨some 47, none, .mov (.t 0), 0, 0, false, []⟩,
    ⟨some 48, none, .nilchk (.t 47), 0, 0, false, []⟩,
    ⟨some 49, none, .faddr 0 1 (.t 48), 0, 0, false, []⟩,
    ⟨some 50, none, .load false 1 (.t 49), 0, 0, false, []⟩,
    ⟨some 51, none, .mov (.t 5), 0, 0, false, []⟩,
    ⟨some 52, none, .mov (.t 0), 0, 0, false, []⟩,
    ⟨some 53, none, .nilchk (.t 52), 0, 0, false, []⟩,
    ⟨some 54, none, .faddr 0 1 (.t 53), 0, 0, false, []⟩,
    ⟨some 55, none, .load false 1 (.t 54), 0, 0, false, []⟩,
    ⟨some 56, none, .len false (.t 55), 0, 0, false, []⟩,
    ⟨some 57, none, .bin .rem (.t 51) (.t 56), 0, 0, false, []⟩,
    ⟨some 58, none, .iaddr 1 (.t 50) (.t 57), 0, 0, false, []⟩,
    ⟨some 59, none, .load false 1 (.t 58), 0, 0, false, []⟩,
    ⟨some 60, none, .conv (.int .i64) (.t 59), 0, 0, false, []⟩,
    ⟨some 61, none, .bin .mul (.t 60) (.k (.int .i64 131)), 0, 0, false, []⟩,
    ⟨some 62, none, .mov (.t 0), 0, 0, false, []⟩,
    ⟨some 63, none, .nilchk (.t 62), 0, 0, false, []⟩,
    ⟨some 64, none, .faddr 0 1 (.t 63), 0, 0, false, []⟩,
    ⟨some 65, none, .load false 1 (.t 64), 0, 0, false, []⟩,
    ⟨some 66, none, .mov (.t 5), 0, 0, false, []⟩,
    ⟨some 67, none, .bin .mul (.t 66) (.k (.int .i64 7)), 0, 0, false, []⟩,
    ⟨some 68, none, .bin .add (.t 67) (.k (.int .i64 3)), 0, 0, false, []⟩,
    ⟨some 69, none, .mov (.t 0), 0, 0, false, []⟩,
    ⟨some 70, none, .nilchk (.t 69), 0, 0, false, []⟩,
    ⟨some 71, none, .faddr 0 1 (.t 70), 0, 0, false, []⟩,
    ⟨some 72, none, .load false 1 (.t 71), 0, 0, false, []⟩,
    ⟨some 73, none, .len false (.t 72), 0, 0, false, []⟩,
    ⟨some 74, none, .bin .rem (.t 68) (.t 73), 0, 0, false, []⟩,
    ⟨some 75, none, .iaddr 1 (.t 65) (.t 74), 0, 0, false, []⟩,
    ⟨some 76, none, .load false 1 (.t 75), 0, 0, false, []⟩,
    ⟨some 77, none, .conv (.int .i64) (.t 76), 0, 0, false, []⟩,
    ⟨some 78, none, .bin .mul (.t 77) (.k (.int .i64 1117)), 0, 0, false, []⟩,
    ⟨some 79, none, .bin .add (.t 61) (.t 78), 0, 0, false, []⟩,
    ⟨some 80, none, .mov (.t 5), 0, 0, false, []⟩,
    ⟨some 81, none, .bin .mul (.t 80) (.k (.int .i64 29)), 0, 0, false, []⟩,
    ⟨some 82, none, .bin .add (.t 79) (.t 81), 0, 0, false, []⟩,
    ⟨some 83, none, .mov (.t 5), 0, 0, false, []⟩,
    ⟨some 84, none, .mov (.t 0), 0, 0, false, []⟩,
    ⟨some 85, none, .nilchk (.t 84), 0, 0, false, []⟩,
    ⟨some 86, none, .faddr 0 1 (.t 85), 0, 0, false, []⟩,
    ⟨some 87, none, .load false 1 (.t 86), 0, 0, false, []⟩,
    ⟨some 88, none, .len false (.t 87), 0, 0, false, []⟩,
    ⟨some 89, none, .bin .quo (.t 83) (.t 88), 0, 0, false, []⟩,
    ⟨some 90, none, .bin .mul (.t 89) (.k (.int .i64 53)), 0, 0, false, []⟩,
    ⟨some 91, none, .bin .add (.t 82) (.t 90), 0, 0, false, []⟩,
    ⟨some 6, none, .mov (.t 91), 0, 0, false, []⟩]
def D104x0 : List I := E104x0
theorem evD104x0 (run : Run) (e : Env) (h : Heap) : drawI run D104x0 e h = DrawS (evQ run E104x0 e h) run E104x0 e h := drawI_quiet run _ (by rfl) e h
/-- (*loop.example/tablehouse/spec.l20Rd).pick -/
def F104 : F := ⟨99, [(false, 4, 0, false)],
   .seq (.seg false [⟨some 4, none, .mov (.k (.int .i64 0)), 0, 0, false, []⟩])
   (.seq (.seg false [⟨some 7, none, .mov (.t 0), 0, 0, false, []⟩,
    ⟨some 8, none, .mov (.t 0), 0, 0, false, []⟩,
    ⟨some 9, none, .nilchk (.t 8), 0, 0, false, []⟩,
    ⟨some 10, none, .faddr 1 1 (.t 9), 0, 0, false, []⟩,
    ⟨some 11, none, .load false 1 (.t 10), 0, 0, false, []⟩,
    ⟨some 12, none, .bin .add (.t 11) (.k (.int .i64 1)), 0, 0, false, []⟩,
    ⟨some 13, none, .nilchk (.t 7), 0, 0, false, []⟩,
    ⟨some 14, none, .faddr 1 1 (.t 13), 0, 0, false, []⟩,
    ⟨none, none, .store 1 (.t 14) (.t 12), 0, 0, false, []⟩])
   (.seq (.seq (.seg false [⟨some 15, none, .mov (.t 1), 0, 0, false, []⟩,
    ⟨some 16, none, .bin .lss (.t 15) (.k (.int .i64 1)), 0, 0, false, []⟩,
    ⟨some 17, none, .mov (.t 16), 0, 0, false, []⟩,
    ⟨some 18, some (17, false), .mov (.t 0), 0, 0, false, []⟩,
    ⟨some 19, some (17, false), .nilchk (.t 18), 0, 0, false, []⟩,
    ⟨some 20, some (17, false), .faddr 0 1 (.t 19), 0, 0, false, []⟩,
    ⟨some 21, some (17, false), .load false 1 (.t 20), 0, 0, false, []⟩,
    ⟨some 22, some (17, false), .len false (.t 21), 0, 0, false, []⟩,
    ⟨some 23, some (17, false), .bin .eql (.t 22) (.k (.int .i64 0)), 0, 0, false, []⟩,
    ⟨some 24, none, .pick (.t 17) (.k (.bool true)) (.t 23), 0, 0, false, []⟩])
   (.cond (.t 24) (.seq (.seg false [⟨some 4, none, .mov (.k (.int .i64 0)), 0, 0, false, []⟩])
   (.ret))
   (.skip)))
   (.seq (.seg false [⟨some 25, none, .mov (.t 0), 0, 0, false, []⟩,
    ⟨some 26, none, .nilchk (.t 25), 0, 0, false, []⟩,
    ⟨some 27, none, .faddr 1 1 (.t 26), 0, 0, false, []⟩,
    ⟨some 28, none, .load false 1 (.t 27), 0, 0, false, []⟩,
    ⟨some 29, none, .bin .sub (.t 28) (.k (.int .i64 1)), 0, 0, false, []⟩,
    ⟨some 5, none, .mov (.t 29), 0, 0, false, []⟩])
   (.seq (.seq (.seg false [⟨some 30, none, .mov (.t 5), 0, 0, false, []⟩,
    ⟨some 31, none, .mov (.t 0), 0, 0, false, []⟩,
    ⟨some 32, none, .nilchk (.t 31), 0, 0, false, []⟩,
    ⟨some 33, none, .faddr 0 1 (.t 32), 0, 0, false, []⟩,
    ⟨some 34, none, .load false 1 (.t 33), 0, 0, false, []⟩,
    ⟨some 35, none, .len false (.t 34), 0, 0, false, []⟩,
    ⟨some 36, none, .bin .lss (.t 30) (.t 35), 0, 0, false, []⟩])
   (.cond (.t 36) (.seq (.seg false [⟨some 37, none, .mov (.t 0), 0, 0, false, []⟩,
    ⟨some 38, none, .nilchk (.t 37), 0, 0, false, []⟩,
    ⟨some 39, none, .faddr 0 1 (.t 38), 0, 0, false, []⟩,
    ⟨some 40, none, .load false 1 (.t 39), 0, 0, false, []⟩,
    ⟨some 41, none, .mov (.t 5), 0, 0, false, []⟩,
    ⟨some 42, none, .iaddr 1 (.t 40) (.t 41), 0, 0, false, []⟩,
    ⟨some 43, none, .load false 1 (.t 42), 0, 0, false, []⟩,
    ⟨some 44, none, .conv (.int .i64) (.t 43), 0, 0, false, []⟩,
    ⟨some 45, none, .mov (.t 1), 0, 0, false, []⟩,
    ⟨some 46, none, .bin .rem (.t 44) (.t 45), 0, 0, false, []⟩,
    ⟨some 4, none, .mov (.t 46), 0, 0, false, []⟩])
   (.ret))
   (.skip)))
   (.seq (.seg true D104x0)
   (.seq (.seg false [⟨some 92, none, .mov (.t 6), 0, 0, false, []⟩,
    ⟨some 93, none, .mov (.t 6), 0, 0, false, []⟩,
    ⟨some 94, none, .bin .quo (.t 93) (.k (.int .i64 64)), 0, 0, false, []⟩,
    ⟨some 95, none, .bin .xor (.t 92) (.t 94), 0, 0, false, []⟩,
    ⟨some 6, none, .mov (.t 95), 0, 0, false, []⟩])
   (.seq (.seg false [⟨some 96, none, .mov (.t 6), 0, 0, false, []⟩,
    ⟨some 97, none, .mov (.t 1), 0, 0, false, []⟩,
    ⟨some 98, none, .bin .rem (.t 96) (.t 97), 0, 0, false, []⟩,
    ⟨some 4, none, .mov (.t 98), 0, 0, false, []⟩])
   (.ret))))))))⟩
/-- loop.example/tablehouse/spec.l20Like -/
def F105 : F := ⟨31, [(true, 4, 3, true)],
   .seq (.seg false [⟨some 3, none, .box (.t 1), 0, 0, false, []⟩,
    ⟨some 4, none, .alloc [.int .i64 0, .int .i64 0, .str ⟨#[]⟩], 0, 0, false, []⟩])
   (.seq (.seq (.seg false [⟨some 5, none, .faddr 1 1 (.t 3), 0, 0, false, []⟩,
    ⟨some 6, none, .load false 1 (.t 5), 0, 0, false, []⟩,
    ⟨some 7, none, .mov (.t 6), 0, 0, false, []⟩,
    ⟨some 8, some (7, true), .mov (.t 0), 0, 0, false, []⟩,
    ⟨some 9, some (7, true), .call 104 [.t 8, .k (.int .i64 5)] true false, 0, 0, false, []⟩,
    ⟨some 10, some (7, true), .bin .eql (.t 9) (.k (.int .i64 0)), 0, 0, false, []⟩,
    ⟨some 11, none, .pick (.t 7) (.t 10) (.k (.bool false)), 0, 0, false, []⟩])
   (.cond (.t 11) (.seq (.seg false [⟨some 12, none, .build [.int .i64 0, .int .i64 0, .str ⟨#[]⟩] [], 0, 0, false, []⟩,
    ⟨none, none, .store 3 (.t 4) (.t 12), 0, 0, false, []⟩])
   (.ret))
   (.skip)))
   (.seq (.seq (.seg false [⟨some 13, none, .faddr 0 1 (.t 3), 0, 0, false, []⟩,
    ⟨some 14, none, .load false 1 (.t 13), 0, 0, false, []⟩])
   (.block 0 (.seq (.seg false [⟨some 16, none, .bin .eql (.t 14) (.k (.int .i64 1)), 0, 0, false, []⟩,
    ⟨some 15, none, .mov (.t 16), 0, 0, false, []⟩])
   (.cond (.t 15) (.seq (.seg false [⟨some 17, none, .mov (.t 0), 0, 0, false, []⟩,
    ⟨some 18, none, .call 104 [.t 17, .k (.int .i64 4)] true false, 0, 0, false, []⟩,
    ⟨some 19, none, .build [.int .i64 0, .int .i64 0, .str ⟨#[]⟩] [(0, 1, .k (.int .i64 1)), (1, 1, .t 18)], 0, 0, false, []⟩,
    ⟨none, none, .store 3 (.t 4) (.t 19), 0, 0, false, []⟩])
   (.ret))
   (.seq (.seg false [⟨some 21, none, .bin .eql (.t 14) (.k (.int .i64 2)), 0, 0, false, []⟩,
    ⟨some 20, none, .mov (.t 21), 0, 0, false, []⟩])
   (.cond (.t 20) (.seq (.seg false [⟨some 22, none, .mksl false 1 [.k (.str ⟨#[]⟩), .k (.str ⟨#[97]⟩), .k (.str ⟨#[98]⟩), .k (.str ⟨#[97, 98]⟩)], 0, 0, false, []⟩,
    ⟨some 23, none, .mov (.t 0), 0, 0, false, []⟩,
    ⟨some 24, none, .call 104 [.t 23, .k (.int .i64 4)] true false, 0, 0, false, []⟩,
    ⟨some 25, none, .iaddr 1 (.t 22) (.t 24), 0, 0, false, []⟩,
    ⟨some 26, none, .load false 1 (.t 25), 0, 0, false, []⟩,
    ⟨some 27, none, .build [.int .i64 0, .int .i64 0, .str ⟨#[]⟩] [(0, 1, .k (.int .i64 2)), (2, 1, .t 26)], 0, 0, false, []⟩,
    ⟨none, none, .store 3 (.t 4) (.t 27), 0, 0, false, []⟩])
   (.ret))
   (.skip)))))))
   (.seq (.seg false [⟨some 28, none, .mov (.t 0), 0, 0, false, []⟩,
    ⟨some 29, none, .call 104 [.t 28, .k (.int .i64 2)] true false, 0, 0, false, []⟩,
    ⟨some 30, none, .build [.int .i64 0, .int .i64 0, .str ⟨#[]⟩] [(0, 1, .k (.int .i64 3)), (1, 1, .t 29)], 0, 0, false, []⟩,
    ⟨none, none, .store 3 (.t 4) (.t 30), 0, 0, false, []⟩])
   (.ret))))⟩
/-- loop.example/tablehouse/impl.truthIf -/
def F106 : F := ⟨4, [(false, 2, 0, false)],
   .seq (.seg false [⟨some 2, none, .mov (.k (.int .i64 0)), 0, 0, false, []⟩])
   (.seq (.seq (.seg false [⟨some 3, none, .mov (.t 0), 0, 0, false, []⟩])
   (.cond (.t 3) (.seq (.seg false [⟨some 2, none, .mov (.k (.int .i64 1)), 0, 0, false, []⟩])
   (.ret))
   (.skip)))
   (.seq (.seg false [⟨some 2, none, .mov (.k (.int .i64 0)), 0, 0, false, []⟩])
   (.ret)))⟩
def E145x0 : List I := [⟨some 42, none, .faddr 2 1 (.t 5), 0, 1, false, []⟩,
    ⟨some 43, none, .load false 1 (.t 42), 0, 1, false, []⟩,
    ⟨some 44, none, .mov (.t 0), 0, 0, false, []⟩,
    ⟨some 45, none, .call 104 [.t 44, .k (.int .i64 3)] true false, 0, 0, true, []⟩,
    ⟨some 46, none, .bin .add (.k (.int .i64 97)) (.t 45), 1, 1, false, []⟩,
    ⟨some 47, none, .conv (.int .u8) (.t 46), 0, 1, false, []⟩,
    ⟨some 48, none, .mksl false 1 [.t 47], 0, 1, false, []⟩,
    ⟨some 49, none, .conv .toStr (.t 48), 0, 1, false, []⟩,
    ⟨some 50, none, .bin .add (.t 43) (.t 49), 0, 1, false, []⟩,
    ⟨some 51, none, .faddr 2 1 (.t 5), 1, 1, false, []⟩,
    ⟨none, none, .store 1 (.t 51) (.t 50), 1, 0, true, []⟩]
def D145x0 : List I := E145x0
theorem evD145x0 (run : Run) (e : Env) (h : Heap) : drawI run D145x0 e h = DrawW (evW run E145x0 e h []) run E145x0 e h := drawI_write run _ e h
def B145x0 : C := .seq (.seq (.seg false [⟨some 38, none, .mov (.t 6), 0, 0, false, []⟩,
    ⟨some 39, none, .bin .gtr (.t 38) (.k (.int .i64 0)), 0, 0, false, []⟩])
   (.cond (.t 39) (.skip)
   (.exit 1)))
   (.seq (.block 2 (.seg true D145x0))
   (.seg false [⟨some 40, none, .mov (.t 6), 0, 0, false, []⟩,
    ⟨some 41, none, .bin .sub (.t 40) (.k (.int .i64 1)), 0, 0, false, []⟩,
    ⟨some 6, none, .mov (.t 41), 0, 0, false, []⟩]))
def L145x0 : C := B145x0
theorem evL145x0 (run : Run) (draw : List I → Env → Heap → Option (Env × Heap)) (e : Env) (h : Heap) : evC run draw L145x0 e h = evC run draw B145x0 e h := rfl
/-- loop.example/tablehouse/spec.l20Value -/
def F145 : F := ⟨77, [(true, 4, 3, true)],
   .seq (.seg false [⟨some 4, none, .alloc [.int .i64 0, .int .i64 0, .str ⟨#[]⟩], 0, 0, false, []⟩])
   (.seq (.seg false [⟨some 7, none, .build [.int .i64 0, .int .i64 0, .str ⟨#[]⟩] [], 0, 0, false, []⟩,
    ⟨some 5, none, .alloc [.int .i64 0, .int .i64 0, .str ⟨#[]⟩], 0, 0, false, []⟩,
    ⟨none, none, .store 3 (.t 5) (.t 7), 0, 0, false, []⟩])
   (.seq (.seq (.seg false [⟨some 8, none, .mov (.t 0), 0, 0, false, []⟩,
    ⟨some 9, none, .call 104 [.t 8, .k (.int .i64 7)] true false, 0, 0, false, []⟩])
   (.block 0 (.seq (.seg false [⟨some 14, none, .bin .eql (.t 9) (.k (.int .i64 0)), 0, 0, false, []⟩,
    ⟨some 13, none, .mov (.t 14), 0, 0, false, []⟩])
   (.cond (.t 13) (.skip)
   (.seq (.seq (.seg false [⟨some 16, none, .bin .eql (.t 9) (.k (.int .i64 1)), 0, 0, false, []⟩,
    ⟨some 15, none, .mov (.t 16), 0, 0, false, []⟩])
   (.cond (.t 15) (.skip)
   (.seq (.seg false [⟨some 17, none, .bin .eql (.t 9) (.k (.int .i64 2)), 0, 0, false, []⟩,
    ⟨some 15, none, .mov (.t 17), 0, 0, false, []⟩])
   (.cond (.t 15) (.skip)
   (.seg false [⟨some 18, none, .bin .eql (.t 9) (.k (.int .i64 3)), 0, 0, false, []⟩,
    ⟨some 15, none, .mov (.t 18), 0, 0, false, []⟩])))))
   (.cond (.t 15) (.seq (.seg false [⟨some 19, none, .mov (.t 0), 0, 0, false, []⟩,
    ⟨some 20, none, .call 104 [.t 19, .k (.int .i64 7)] true false, 0, 0, false, []⟩,
    ⟨some 21, none, .bin .sub (.t 20) (.k (.int .i64 3)), 0, 0, false, []⟩,
    ⟨some 22, none, .build [.int .i64 0, .int .i64 0, .str ⟨#[]⟩] [(0, 1, .k (.int .i64 1)), (1, 1, .t 21)], 0, 0, false, []⟩,
    ⟨none, none, .store 3 (.t 5) (.t 22), 0, 0, false, []⟩])
   (.seq (.seg false [⟨some 23, none, .mov (.t 0), 0, 0, false, []⟩,
    ⟨some 24, none, .call 104 [.t 23, .k (.int .i64 8)] true false, 0, 0, false, []⟩,
    ⟨some 25, none, .bin .eql (.t 24) (.k (.int .i64 0)), 0, 0, false, []⟩])
   (.cond (.t 25) (.seg false [⟨some 26, none, .mksl false 1 [.k (.int .i64 9999), .k (.int .i64 (-9999)), .k (.int .i64 255), .k (.int .i64 256), .k (.int .i64 (-256))], 0, 0, false, []⟩,
    ⟨some 27, none, .mov (.t 0), 0, 0, false, []⟩,
    ⟨some 28, none, .call 104 [.t 27, .k (.int .i64 5)] true false, 0, 0, false, []⟩,
    ⟨some 29, none, .iaddr 1 (.t 26) (.t 28), 0, 0, false, []⟩,
    ⟨some 30, none, .load false 1 (.t 29), 0, 0, false, []⟩,
    ⟨some 31, none, .faddr 1 1 (.t 5), 0, 0, false, []⟩,
    ⟨none, none, .store 1 (.t 31) (.t 30), 0, 0, false, []⟩])
   (.skip))))
   (.seq (.seq (.seg false [⟨some 33, none, .bin .eql (.t 9) (.k (.int .i64 4)), 0, 0, false, []⟩,
    ⟨some 32, none, .mov (.t 33), 0, 0, false, []⟩])
   (.cond (.t 32) (.skip)
   (.seg false [⟨some 34, none, .bin .eql (.t 9) (.k (.int .i64 5)), 0, 0, false, []⟩,
    ⟨some 32, none, .mov (.t 34), 0, 0, false, []⟩])))
   (.cond (.t 32) (.seq (.seg false [⟨some 35, none, .build [.int .i64 0, .int .i64 0, .str ⟨#[]⟩] [(0, 1, .k (.int .i64 2))], 0, 0, false, []⟩,
    ⟨none, none, .store 3 (.t 5) (.t 35), 0, 0, false, []⟩])
   (.seq (.seg false [⟨some 36, none, .mov (.t 0), 0, 0, false, []⟩,
    ⟨some 37, none, .call 104 [.t 36, .k (.int .i64 4)] true false, 0, 0, false, []⟩,
    ⟨some 6, none, .mov (.t 37), 0, 0, false, []⟩])
   (.block 1 (.loop [0, 1, 4, 5, 6] [0, 1, 4, 5] L145x0))))
   (.seg false [⟨some 10, none, .mov (.t 0), 0, 0, false, []⟩,
    ⟨some 11, none, .call 104 [.t 10, .k (.int .i64 2)] true false, 0, 0, false, []⟩,
    ⟨some 12, none, .build [.int .i64 0, .int .i64 0, .str ⟨#[]⟩] [(0, 1, .k (.int .i64 3)), (1, 1, .t 11)], 0, 0, false, []⟩,
    ⟨none, none, .store 3 (.t 5) (.t 12), 0, 0, false, []⟩])))))))))
   (.seq (.seq (.seg false [⟨some 52, none, .mov (.t 0), 0, 0, false, []⟩,
    ⟨some 53, none, .mov (.t 1), 0, 0, false, []⟩,
    ⟨some 54, none, .call 155 [.t 52, .t 53] true false, 0, 0, false, []⟩])
   (.cond (.t 54) (.seq (.seg false [⟨some 55, none, .mov (.t 0), 0, 0, false, []⟩,
    ⟨some 56, none, .call 104 [.t 55, .k (.int .i64 4)] true false, 0, 0, false, []⟩])
   (.block 3 (.seq (.seg false [⟨some 62, none, .bin .eql (.t 56) (.k (.int .i64 0)), 0, 0, false, []⟩,
    ⟨some 61, none, .mov (.t 62), 0, 0, false, []⟩])
   (.cond (.t 61) (.seg false [⟨some 63, none, .faddr 1 1 (.t 5), 0, 0, false, []⟩,
    ⟨none, none, .store 1 (.t 63) (.k (.int .i64 10000)), 0, 0, false, []⟩])
   (.seq (.seg false [⟨some 65, none, .bin .eql (.t 56) (.k (.int .i64 1)), 0, 0, false, []⟩,
    ⟨some 64, none, .mov (.t 65), 0, 0, false, []⟩])
   (.cond (.t 64) (.seg false [⟨some 66, none, .faddr 2 1 (.t 5), 0, 0, false, []⟩,
    ⟨some 67, none, .load false 1 (.t 66), 0, 0, false, []⟩,
    ⟨some 68, none, .bin .add (.t 67) (.k (.str ⟨#[97, 98, 99, 100, 101, 102, 103]⟩)), 0, 0, false, []⟩,
    ⟨some 69, none, .faddr 2 1 (.t 5), 0, 0, false, []⟩,
    ⟨none, none, .store 1 (.t 69) (.t 68), 0, 0, false, []⟩])
   (.seq (.seg false [⟨some 71, none, .bin .eql (.t 56) (.k (.int .i64 2)), 0, 0, false, []⟩,
    ⟨some 70, none, .mov (.t 71), 0, 0, false, []⟩])
   (.cond (.t 70) (.seg false [⟨some 72, none, .mov (.t 0), 0, 0, false, []⟩,
    ⟨some 73, none, .call 104 [.t 72, .k (.int .i64 7)] true false, 0, 0, false, []⟩,
    ⟨some 74, none, .bin .sub (.t 73) (.k (.int .i64 1)), 0, 0, false, []⟩,
    ⟨some 75, none, .faddr 0 1 (.t 5), 0, 0, false, []⟩,
    ⟨none, none, .store 1 (.t 75) (.t 74), 0, 0, false, []⟩])
   (.seg false [⟨some 57, none, .faddr 2 1 (.t 5), 0, 0, false, []⟩,
    ⟨some 58, none, .load false 1 (.t 57), 0, 0, false, []⟩,
    ⟨some 59, none, .bin .add (.t 58) (.k (.str ⟨#[65]⟩)), 0, 0, false, []⟩,
    ⟨some 60, none, .faddr 2 1 (.t 5), 0, 0, false, []⟩,
    ⟨none, none, .store 1 (.t 60) (.t 59), 0, 0, false, []⟩])))))))))
   (.skip)))
   (.seq (.seg false [⟨some 76, none, .load true 3 (.t 5), 0, 0, false, []⟩,
    ⟨none, none, .store 3 (.t 4) (.t 76), 0, 0, false, []⟩])
   (.ret)))))⟩
def E146x0 : List I := [⟨some 16, none, .load true 8 (.t 7), 0, 1, false, []⟩,
    ⟨some 17, none, .mov (.t 0), 0, 0, false, []⟩,
    ⟨some 18, none, .mov (.t 2), 0, 1, false, []⟩,
    ⟨some 19, none, .build [.int .i64 0, .bool false] [(0, 1, .t 18)], 0, 0, false, []⟩,
    ⟨some 20, none, .call 105 [.t 17, .t 19] true false, 0, 0, true, []⟩,
    ⟨some 21, none, .call 92 [.t 20] false false, 1, 1, false, []⟩,
    ⟨some 22, none, .call 91 [.t 16, .t 21] false false, 0, 1, false, []⟩,
    ⟨none, none, .store 8 (.t 7) (.t 22), 1, 0, true, []⟩]
def D146x0 : List I := E146x0
theorem evD146x0 (run : Run) (e : Env) (h : Heap) : drawI run D146x0 e h = DrawW (evW run E146x0 e h []) run E146x0 e h := drawI_write run _ e h
def B146x0 : C := .seq (.seq (.seg false [⟨some 12, none, .mov (.t 8), 0, 0, false, []⟩,
    ⟨some 13, none, .bin .gtr (.t 12) (.k (.int .i64 0)), 0, 0, false, []⟩])
   (.cond (.t 13) (.skip)
   (.exit 0)))
   (.seq (.block 1 (.seg true D146x0))
   (.seg false [⟨some 14, none, .mov (.t 8), 0, 0, false, []⟩,
    ⟨some 15, none, .bin .sub (.t 14) (.k (.int .i64 1)), 0, 0, false, []⟩,
    ⟨some 8, none, .mov (.t 15), 0, 0, false, []⟩]))
def L146x0 : C := B146x0
theorem evL146x0 (run : Run) (draw : List I → Env → Heap → Option (Env × Heap)) (e : Env) (h : Heap) : evC run draw L146x0 e h = evC run draw B146x0 e h := rfl
/-- loop.example/tablehouse/spec.l20Known -/
def F146 : F := ⟨47, [(true, 6, 8, true)],
   .seq (.seg false [⟨some 6, none, .alloc [.int .i64 0, .int .i64 0, .int .i64 0, .int .i64 0, .str ⟨#[]⟩, .int .i64 0, .int .i64 0, .str ⟨#[]⟩], 0, 0, false, []⟩])
   (.seq (.seg false [⟨some 9, none, .build [.int .i64 0, .int .i64 0, .int .i64 0, .int .i64 0, .str ⟨#[]⟩, .int .i64 0, .int .i64 0, .str ⟨#[]⟩] [], 0, 0, false, []⟩,
    ⟨some 7, none, .alloc [.int .i64 0, .int .i64 0, .int .i64 0, .int .i64 0, .str ⟨#[]⟩, .int .i64 0, .int .i64 0, .str ⟨#[]⟩], 0, 0, false, []⟩,
    ⟨none, none, .store 8 (.t 7) (.t 9), 0, 0, false, []⟩])
   (.seq (.seq (.seg false [⟨some 10, none, .mov (.t 0), 0, 0, false, []⟩,
    ⟨some 11, none, .call 104 [.t 10, .k (.int .i64 4)] true false, 0, 0, false, []⟩,
    ⟨some 8, none, .mov (.t 11), 0, 0, false, []⟩])
   (.block 0 (.loop [0, 1, 2, 6, 7, 8] [0, 1, 6, 7] L146x0)))
   (.seq (.seq (.seg false [⟨some 23, none, .mov (.t 0), 0, 0, false, []⟩,
    ⟨some 24, none, .mov (.t 1), 0, 0, false, []⟩,
    ⟨some 25, none, .call 155 [.t 23, .t 24] true false, 0, 0, false, []⟩])
   (.cond (.t 25) (.seq (.seg false [⟨some 26, none, .mov (.t 0), 0, 0, false, []⟩,
    ⟨some 27, none, .call 104 [.t 26, .k (.int .i64 4)] true false, 0, 0, false, []⟩])
   (.block 2 (.seq (.seg false [⟨some 30, none, .bin .eql (.t 27) (.k (.int .i64 0)), 0, 0, false, []⟩,
    ⟨some 29, none, .mov (.t 30), 0, 0, false, []⟩])
   (.cond (.t 29) (.seg false [⟨some 31, none, .mov (.t 0), 0, 0, false, []⟩,
    ⟨some 32, none, .call 104 [.t 31, .k (.int .i64 3)] true false, 0, 0, false, []⟩,
    ⟨some 33, none, .bin .sub (.t 32) (.k (.int .i64 1)), 0, 0, false, []⟩,
    ⟨some 34, none, .faddr 0 1 (.t 7), 0, 0, false, []⟩,
    ⟨none, none, .store 1 (.t 34) (.t 33), 0, 0, false, []⟩])
   (.seq (.seg false [⟨some 36, none, .bin .eql (.t 27) (.k (.int .i64 1)), 0, 0, false, []⟩,
    ⟨some 35, none, .mov (.t 36), 0, 0, false, []⟩])
   (.cond (.t 35) (.seg false [⟨some 37, none, .faddr 1 1 (.t 7), 0, 0, false, []⟩,
    ⟨some 38, none, .load false 1 (.t 37), 0, 0, false, []⟩,
    ⟨some 39, none, .bin .add (.t 38) (.k (.int .i64 9000000)), 0, 0, false, []⟩,
    ⟨some 40, none, .faddr 1 1 (.t 7), 0, 0, false, []⟩,
    ⟨none, none, .store 1 (.t 40) (.t 39), 0, 0, false, []⟩])
   (.seq (.seg false [⟨some 42, none, .bin .eql (.t 27) (.k (.int .i64 2)), 0, 0, false, []⟩,
    ⟨some 41, none, .mov (.t 42), 0, 0, false, []⟩])
   (.cond (.t 41) (.seg false [⟨some 43, none, .mov (.t 0), 0, 0, false, []⟩,
    ⟨some 44, none, .call 145 [.t 43, .k (.int .i64 3)] true false, 0, 0, false, []⟩,
    ⟨some 45, none, .faddr 2 3 (.t 7), 0, 0, false, []⟩,
    ⟨none, none, .store 3 (.t 45) (.t 44), 0, 0, false, []⟩])
   (.seg false [⟨some 28, none, .faddr 0 1 (.t 7), 0, 0, false, []⟩,
    ⟨none, none, .store 1 (.t 28) (.k (.int .i64 101)), 0, 0, false, []⟩])))))))))
   (.skip)))
   (.seq (.seg false [⟨some 46, none, .load true 8 (.t 7), 0, 0, false, []⟩,
    ⟨none, none, .store 8 (.t 6) (.t 46), 0, 0, false, []⟩])
   (.ret)))))⟩
/-- cmp.Compare<int> -/
def F148 : F := ⟨20, [(false, 4, 0, false)],
   .seq (.seg false [⟨some 4, none, .mov (.k (.int .i64 0)), 0, 0, false, []⟩])
   (.seq (.seg false [⟨some 7, none, .mov (.t 0), 0, 0, false, []⟩,
    ⟨some 8, none, .call 188 [.t 7] false false, 0, 0, false, []⟩,
    ⟨some 5, none, .mov (.t 8), 0, 0, false, []⟩])
   (.seq (.seg false [⟨some 9, none, .mov (.t 1), 0, 0, false, []⟩,
    ⟨some 10, none, .call 188 [.t 9] false false, 0, 0, false, []⟩,
    ⟨some 6, none, .mov (.t 10), 0, 0, false, []⟩])
   (.seq (.seq (.seg false [⟨some 11, none, .mov (.t 5), 0, 0, false, []⟩])
   (.cond (.t 11) (.seq (.seq (.seg false [⟨some 12, none, .mov (.t 6), 0, 0, false, []⟩])
   (.cond (.t 12) (.seq (.seg false [⟨some 4, none, .mov (.k (.int .i64 0)), 0, 0, false, []⟩])
   (.ret))
   (.skip)))
   (.seq (.seg false [⟨some 4, none, .mov (.k (.int .i64 (-1))), 0, 0, false, []⟩])
   (.ret)))
   (.skip)))
   (.seq (.seq (.seg false [⟨some 13, none, .mov (.t 6), 0, 0, false, []⟩])
   (.cond (.t 13) (.seq (.seg false [⟨some 4, none, .mov (.k (.int .i64 1)), 0, 0, false, []⟩])
   (.ret))
   (.skip)))
   (.seq (.seq (.seg false [⟨some 14, none, .mov (.t 0), 0, 0, false, []⟩,
    ⟨some 15, none, .mov (.t 1), 0, 0, false, []⟩,
    ⟨some 16, none, .bin .lss (.t 14) (.t 15), 0, 0, false, []⟩])
   (.cond (.t 16) (.seq (.seg false [⟨some 4, none, .mov (.k (.int .i64 (-1))), 0, 0, false, []⟩])
   (.ret))
   (.skip)))
   (.seq (.seq (.seg false [⟨some 17, none, .mov (.t 0), 0, 0, false, []⟩,
    ⟨some 18, none, .mov (.t 1), 0, 0, false, []⟩,
    ⟨some 19, none, .bin .gtr (.t 17) (.t 18), 0, 0, false, []⟩])
   (.cond (.t 19) (.seq (.seg false [⟨some 4, none, .mov (.k (.int .i64 1)), 0, 0, false, []⟩])
   (.ret))
   (.skip)))
   (.seq (.seg false [⟨some 4, none, .mov (.k (.int .i64 0)), 0, 0, false, []⟩])
   (.ret))))))))⟩
/-- cmp.Compare<string> -/
def F149 : F := ⟨20, [(false, 4, 0, false)],
   .seq (.seg false [⟨some 4, none, .mov (.k (.int .i64 0)), 0, 0, false, []⟩])
   (.seq (.seg false [⟨some 7, none, .mov (.t 0), 0, 0, false, []⟩,
    ⟨some 8, none, .call 189 [.t 7] false false, 0, 0, false, []⟩,
    ⟨some 5, none, .mov (.t 8), 0, 0, false, []⟩])
   (.seq (.seg false [⟨some 9, none, .mov (.t 1), 0, 0, false, []⟩,
    ⟨some 10, none, .call 189 [.t 9] false false, 0, 0, false, []⟩,
    ⟨some 6, none, .mov (.t 10), 0, 0, false, []⟩])
   (.seq (.seq (.seg false [⟨some 11, none, .mov (.t 5), 0, 0, false, []⟩])
   (.cond (.t 11) (.seq (.seq (.seg false [⟨some 12, none, .mov (.t 6), 0, 0, false, []⟩])
   (.cond (.t 12) (.seq (.seg false [⟨some 4, none, .mov (.k (.int .i64 0)), 0, 0, false, []⟩])
   (.ret))
   (.skip)))
   (.seq (.seg false [⟨some 4, none, .mov (.k (.int .i64 (-1))), 0, 0, false, []⟩])
   (.ret)))
   (.skip)))
   (.seq (.seq (.seg false [⟨some 13, none, .mov (.t 6), 0, 0, false, []⟩])
   (.cond (.t 13) (.seq (.seg false [⟨some 4, none, .mov (.k (.int .i64 1)), 0, 0, false, []⟩])
   (.ret))
   (.skip)))
   (.seq (.seq (.seg false [⟨some 14, none, .mov (.t 0), 0, 0, false, []⟩,
    ⟨some 15, none, .mov (.t 1), 0, 0, false, []⟩,
    ⟨some 16, none, .bin .lss (.t 14) (.t 15), 0, 0, false, []⟩])
   (.cond (.t 16) (.seq (.seg false [⟨some 4, none, .mov (.k (.int .i64 (-1))), 0, 0, false, []⟩])
   (.ret))
   (.skip)))
   (.seq (.seq (.seg false [⟨some 17, none, .mov (.t 0), 0, 0, false, []⟩,
    ⟨some 18, none, .mov (.t 1), 0, 0, false, []⟩,
    ⟨some 19, none, .bin .gtr (.t 17) (.t 18), 0, 0, false, []⟩])
   (.cond (.t 19) (.seq (.seg false [⟨some 4, none, .mov (.k (.int .i64 1)), 0, 0, false, []⟩])
   (.ret))
   (.skip)))
   (.seq (.seg false [⟨some 4, none, .mov (.k (.int .i64 0)), 0, 0, false, []⟩])
   (.ret))))))))⟩
def B147x0 : C := .seq (.seg false [⟨some 9, none, .bin .lss (.t 8) (.t 7), 0, 0, false, []⟩])
   (.seq (.cond (.t 9) (.skip)
   (.exit 0))
   (.seq (.block 1 (.seq (.seg false [⟨some 10, none, .iaddr 1 (.t 6) (.t 8), 0, 0, false, []⟩,
    ⟨some 11, none, .load false 1 (.t 10), 0, 0, false, []⟩,
    ⟨some 5, none, .mov (.t 11), 0, 0, false, []⟩])
   (.seq (.seg false [⟨some 12, none, .mov (.t 5), 0, 0, false, []⟩,
    ⟨some 13, none, .mov (.t 3), 0, 0, false, []⟩,
    ⟨some 14, none, .bin .neq (.t 12) (.t 13), 0, 0, false, []⟩])
   (.cond (.t 14) (.seq (.seg false [⟨some 15, none, .mov (.t 5), 0, 0, false, []⟩,
    ⟨some 2, none, .mov (.t 15), 0, 0, false, []⟩])
   (.ret))
   (.skip)))))
   (.seg false [⟨some 16, none, .bin .add (.t 8) (.k (.int .i64 1)), 0, 0, false, []⟩,
    ⟨some 8, none, .mov (.t 16), 0, 0, false, []⟩])))
def L147x0 : C := B147x0
theorem evL147x0 (run : Run) (draw : List I → Env → Heap → Option (Env × Heap)) (e : Env) (h : Heap) : evC run draw L147x0 e h = evC run draw B147x0 e h := rfl
/-- cmp.Or<int> -/
def F147 : F := ⟨18, [(false, 2, 0, false)],
   .seq (.seg false [⟨some 2, none, .mov (.k (.int .i64 0)), 0, 0, false, []⟩])
   (.seq (.seg false [⟨some 3, none, .mov (.k (.int .i64 0)), 0, 0, false, []⟩])
   (.seq (.seq (.seg false [⟨some 6, none, .mov (.t 0), 0, 0, false, []⟩,
    ⟨some 7, none, .len false (.t 6), 0, 0, false, []⟩,
    ⟨some 8, none, .mov (.k (.int .i64 0)), 0, 0, false, []⟩])
   (.block 0 (.loop [3, 6, 7, 8] [2, 3] L147x0)))
   (.seq (.seg false [⟨some 17, none, .mov (.t 3), 0, 0, false, []⟩,
    ⟨some 2, none, .mov (.t 17), 0, 0, false, []⟩])
   (.ret))))⟩
def B150x0 : C := .seq (.seq (.seg false [⟨some 4, none, .mov (.t 3), 0, 0, false, []⟩,
    ⟨some 5, none, .mov (.t 0), 0, 0, false, []⟩,
    ⟨some 6, none, .len true (.t 5), 0, 0, false, []⟩,
    ⟨some 7, none, .bin .lss (.t 4) (.t 6), 0, 0, false, []⟩])
   (.cond (.t 7) (.skip)
   (.exit 0)))
   (.seq (.block 1 (.seq (.seg false [⟨some 10, none, .mov (.t 0), 0, 0, false, []⟩,
    ⟨some 11, none, .mov (.t 3), 0, 0, false, []⟩,
    ⟨some 12, none, .idx (.t 10) (.t 11), 0, 0, false, []⟩,
    ⟨some 13, none, .bin .lss (.t 12) (.k (.int .u8 97)), 0, 0, false, []⟩,
    ⟨some 14, none, .mov (.t 13), 0, 0, false, []⟩,
    ⟨some 15, some (14, false), .mov (.t 0), 0, 0, false, []⟩,
    ⟨some 16, some (14, false), .mov (.t 3), 0, 0, false, []⟩,
    ⟨some 17, some (14, false), .idx (.t 15) (.t 16), 0, 0, false, []⟩,
    ⟨some 18, some (14, false), .bin .gtr (.t 17) (.k (.int .u8 122)), 0, 0, false, []⟩,
    ⟨some 19, none, .pick (.t 14) (.k (.bool true)) (.t 18), 0, 0, false, []⟩])
   (.cond (.t 19) (.seq (.seg false [⟨some 2, none, .mov (.k (.bool false)), 0, 0, false, []⟩])
   (.ret))
   (.skip))))
   (.seg false [⟨some 8, none, .mov (.t 3), 0, 0, false, []⟩,
    ⟨some 9, none, .bin .add (.t 8) (.k (.int .i64 1)), 0, 0, false, []⟩,
    ⟨some 3, none, .mov (.t 9), 0, 0, false, []⟩]))
def L150x0 : C := B150x0
theorem evL150x0 (run : Run) (draw : List I → Env → Heap → Option (Env × Heap)) (e : Env) (h : Heap) : evC run draw L150x0 e h = evC run draw B150x0 e h := rfl
/-- loop.example/tablehouse/spec.l1Text -/
def F150 : F := ⟨23, [(false, 2, 0, false)],
   .seq (.seg false [⟨some 2, none, .mov (.k (.bool false)), 0, 0, false, []⟩])
   (.seq (.seq (.seg false [⟨some 3, none, .mov (.k (.int .i64 0)), 0, 0, false, []⟩])
   (.block 0 (.loop [0, 3] [0, 2] L150x0)))
   (.seq (.seg false [⟨some 20, none, .mov (.t 0), 0, 0, false, []⟩,
    ⟨some 21, none, .len true (.t 20), 0, 0, false, []⟩,
    ⟨some 22, none, .bin .leq (.t 21) (.k (.int .i64 6)), 0, 0, false, []⟩,
    ⟨some 2, none, .mov (.t 22), 0, 0, false, []⟩])
   (.ret)))⟩
/-- loop.example/tablehouse/spec.l1Less -/
def F151 : F := ⟨8, [(false, 4, 0, false)],
   .seq (.seg false [⟨some 4, none, .mov (.k (.int .i64 0)), 0, 0, false, []⟩])
   (.seq (.seq (.seg false [⟨some 5, none, .mov (.t 0), 0, 0, false, []⟩,
    ⟨some 6, none, .mov (.t 1), 0, 0, false, []⟩,
    ⟨some 7, none, .bin .lss (.t 5) (.t 6), 0, 0, false, []⟩])
   (.cond (.t 7) (.seq (.seg false [⟨some 4, none, .mov (.k (.int .i64 1)), 0, 0, false, []⟩])
   (.ret))
   (.skip)))
   (.seq (.seg false [⟨some 4, none, .mov (.k (.int .i64 0)), 0, 0, false, []⟩])
   (.ret)))⟩
/-- loop.example/tablehouse/spec.l1Cmp -/
def F152 : F := ⟨11, [(false, 4, 0, false)],
   .seq (.seg false [⟨some 4, none, .mov (.k (.int .i64 0)), 0, 0, false, []⟩])
   (.seq (.seq (.seg false [⟨some 5, none, .mov (.t 0), 0, 0, false, []⟩,
    ⟨some 6, none, .mov (.t 1), 0, 0, false, []⟩,
    ⟨some 7, none, .bin .lss (.t 5) (.t 6), 0, 0, false, []⟩])
   (.cond (.t 7) (.seq (.seg false [⟨some 4, none, .mov (.k (.int .i64 (-1))), 0, 0, false, []⟩])
   (.ret))
   (.skip)))
   (.seq (.seq (.seg false [⟨some 8, none, .mov (.t 0), 0, 0, false, []⟩,
    ⟨some 9, none, .mov (.t 1), 0, 0, false, []⟩,
    ⟨some 10, none, .bin .gtr (.t 8) (.t 9), 0, 0, false, []⟩])
   (.cond (.t 10) (.seq (.seg false [⟨some 4, none, .mov (.k (.int .i64 1)), 0, 0, false, []⟩])
   (.ret))
   (.skip)))
   (.seq (.seg false [⟨some 4, none, .mov (.k (.int .i64 0)), 0, 0, false, []⟩])
   (.ret))))⟩
def B153x0 : C := .seq (.seg false [⟨some 9, none, .bin .lss (.t 8) (.t 7), 0, 0, false, []⟩])
   (.seq (.cond (.t 9) (.skip)
   (.exit 0))
   (.seq (.block 1 (.seq (.seg false [⟨some 10, none, .iaddr 1 (.t 6) (.t 8), 0, 0, false, []⟩,
    ⟨some 11, none, .load false 1 (.t 10), 0, 0, false, []⟩,
    ⟨some 4, none, .mov (.t 11), 0, 0, false, []⟩])
   (.seq (.seg false [⟨some 12, none, .mov (.t 4), 0, 0, false, []⟩,
    ⟨some 13, none, .conv (.int .i64) (.t 12), 0, 0, false, []⟩,
    ⟨some 14, none, .call 82 [.t 13, .k (.int .i64 97), .k (.int .i64 122)] false false, 0, 0, false, []⟩,
    ⟨some 15, none, .un .not (.t 14), 0, 0, false, []⟩])
   (.cond (.t 15) (.seq (.seg false [⟨some 2, none, .mov (.k (.bool false)), 0, 0, false, []⟩])
   (.ret))
   (.skip)))))
   (.seg false [⟨some 16, none, .bin .add (.t 8) (.k (.int .i64 1)), 0, 0, false, []⟩,
    ⟨some 8, none, .mov (.t 16), 0, 0, false, []⟩])))
def L153x0 : C := B153x0
theorem evL153x0 (run : Run) (draw : List I → Env → Heap → Option (Env × Heap)) (e : Env) (h : Heap) : evC run draw L153x0 e h = evC run draw B153x0 e h := rfl
/-- loop.example/tablehouse/impl.letters -/
def F153 : F := ⟨17, [(false, 2, 0, false)],
   .seq (.seg false [⟨some 2, none, .mov (.k (.bool false)), 0, 0, false, []⟩])
   (.seq (.seq (.seg false [⟨some 5, none, .mov (.t 0), 0, 0, false, []⟩,
    ⟨some 6, none, .conv .toBytes (.t 5), 0, 0, false, []⟩,
    ⟨some 7, none, .len false (.t 6), 0, 0, false, []⟩,
    ⟨some 8, none, .mov (.k (.int .i64 0)), 0, 0, false, []⟩])
   (.block 0 (.loop [6, 7, 8] [2] L153x0)))
   (.seq (.seg false [⟨some 2, none, .mov (.k (.bool true)), 0, 0, false, []⟩])
   (.ret)))⟩
/-- loop.example/tablehouse/spec.l2Bool -/
def F154 : F := ⟨4, [(false, 2, 0, false)],
   .seq (.seg false [⟨some 2, none, .mov (.k (.int .i64 0)), 0, 0, false, []⟩])
   (.seq (.seq (.seg false [⟨some 3, none, .mov (.t 0), 0, 0, false, []⟩])
   (.cond (.t 3) (.seq (.seg false [⟨some 2, none, .mov (.k (.int .i64 1)), 0, 0, false, []⟩])
   (.ret))
   (.skip)))
   (.seq (.seg false [⟨some 2, none, .mov (.k (.int .i64 0)), 0, 0, false, []⟩])
   (.ret)))⟩
def E130x0 : List I := [⟨some 15, none, .mov (.t 5), 0, 2, false, [5]⟩,
    ⟨some 16, none, .mksl false 1 [.k (.int .i64 1), .k (.int .i64 1), .k (.int .i64 2), .k (.int .i64 3)], 0, 3, false, []⟩,
    ⟨some 17, none, .mov (.t 0), 0, 0, false, []⟩,
    ⟨some 18, none, .call 104 [.t 17, .k (.int .i64 4)] true false, 0, 0, true, []⟩,
    ⟨some 19, none, .iaddr 1 (.t 16) (.t 18), 1, 3, false, []⟩,
    ⟨some 20, none, .load false 1 (.t 19), 0, 3, false, []⟩,
    ⟨some 21, none, .mov (.t 0), 0, 1, false, []⟩,
    ⟨some 22, none, .call 104 [.t 21, .k (.int .i64 3)] true false, 1, 0, true, []⟩,
    ⟨some 23, none, .bin .gtr (.t 22) (.k (.int .i64 0)), 2, 3, false, []⟩,
    ⟨some 24, none, .build [.int .i64 0, .bool false] [(0, 1, .t 20), (1, 1, .t 23)], 0, 3, false, []⟩,
    ⟨some 25, none, .mksl false 2 [.t 24], 0, 2, false, []⟩,
    ⟨some 26, none, .app 2 (.t 15) (.t 25), 2, 0, true, []⟩,
    ⟨some 5, none, .mov (.t 26), 3, 3, false, []⟩]
def D130x0 : List I := E130x0
theorem evD130x0 (run : Run) (e : Env) (h : Heap) : drawI run D130x0 e h = DrawW (evW run E130x0 e h []) run E130x0 e h := drawI_write run _ e h
def B130x0 : C := .seq (.seq (.seg false [⟨some 11, none, .mov (.t 6), 0, 0, false, []⟩,
    ⟨some 12, none, .bin .gtr (.t 11) (.k (.int .i64 0)), 0, 0, false, []⟩])
   (.cond (.t 12) (.skip)
   (.exit 0)))
   (.seq (.block 1 (.seg true D130x0))
   (.seg false [⟨some 13, none, .mov (.t 6), 0, 0, false, []⟩,
    ⟨some 14, none, .bin .sub (.t 13) (.k (.int .i64 1)), 0, 0, false, []⟩,
    ⟨some 6, none, .mov (.t 14), 0, 0, false, []⟩]))
def L130x0 : C := B130x0
theorem evL130x0 (run : Run) (draw : List I → Env → Heap → Option (Env × Heap)) (e : Env) (h : Heap) : evC run draw L130x0 e h = evC run draw B130x0 e h := rfl
/-- loop.example/tablehouse/spec.l20Columns -/
def F130 : F := ⟨40, [(false, 4, 0, false)],
   .seq (.seg false [⟨some 4, none, .nilrow 2, 0, 0, false, []⟩])
   (.seq (.seg false [⟨some 7, none, .mksl true 2 [], 0, 0, false, []⟩,
    ⟨some 5, none, .mov (.t 7), 0, 0, false, []⟩])
   (.seq (.seq (.seg false [⟨some 8, none, .mov (.t 0), 0, 0, false, []⟩,
    ⟨some 9, none, .call 104 [.t 8, .k (.int .i64 3)] true false, 0, 0, false, []⟩,
    ⟨some 10, none, .bin .add (.k (.int .i64 1)) (.t 9), 0, 0, false, []⟩,
    ⟨some 6, none, .mov (.t 10), 0, 0, false, []⟩])
   (.block 0 (.loop [0, 1, 5, 6] [0, 1, 5] L130x0)))
   (.seq (.seq (.seg false [⟨some 27, none, .mov (.t 0), 0, 0, false, []⟩,
    ⟨some 28, none, .mov (.t 1), 0, 0, false, []⟩,
    ⟨some 29, none, .call 155 [.t 27, .t 28] true false, 0, 0, false, []⟩])
   (.cond (.t 29) (.seg false [⟨some 30, none, .mov (.t 5), 0, 0, false, []⟩,
    ⟨some 31, none, .mov (.t 0), 0, 0, false, []⟩,
    ⟨some 32, none, .call 104 [.t 31, .k (.int .i64 6)] true false, 0, 0, false, []⟩,
    ⟨some 33, none, .bin .sub (.t 32) (.k (.int .i64 1)), 0, 0, false, []⟩,
    ⟨some 34, none, .build [.int .i64 0, .bool false] [(0, 1, .t 33)], 0, 0, false, []⟩,
    ⟨some 35, none, .build [.int .i64 0, .bool false] [(0, 1, .k (.int .i64 1))], 0, 0, false, []⟩,
    ⟨some 36, none, .build [.int .i64 0, .bool false] [(0, 1, .k (.int .i64 1))], 0, 0, false, []⟩,
    ⟨some 37, none, .mksl false 2 [.t 34, .t 35, .t 36], 0, 0, false, []⟩,
    ⟨some 38, none, .app 2 (.t 30) (.t 37), 0, 0, false, []⟩,
    ⟨some 5, none, .mov (.t 38), 0, 0, false, []⟩])
   (.skip)))
   (.seq (.seg false [⟨some 39, none, .mov (.t 5), 0, 0, false, []⟩,
    ⟨some 4, none, .mov (.t 39), 0, 0, false, []⟩])
   (.ret)))))⟩
/-- (*loop.example/tablehouse/spec.l20Rd).odd -/
def F155 : F := ⟨15, [(false, 4, 0, false)],
   .seq (.seg false [⟨some 4, none, .mov (.k (.bool false)), 0, 0, false, []⟩])
   (.seq (.seg false [⟨some 5, none, .mov (.t 1), 0, 0, false, []⟩,
    ⟨some 6, none, .bin .gtr (.t 5) (.k (.int .i64 0)), 0, 0, false, []⟩,
    ⟨some 7, none, .mov (.t 6), 0, 0, false, []⟩,
    ⟨some 8, some (7, true), .mov (.t 0), 0, 0, false, []⟩,
    ⟨some 9, some (7, true), .mov (.t 1), 0, 0, false, []⟩,
    ⟨some 10, some (7, true), .call 104 [.t 8, .t 9] true false, 0, 0, false, []⟩,
    ⟨some 11, some (7, true), .mov (.t 1), 0, 0, false, []⟩,
    ⟨some 12, some (7, true), .bin .sub (.t 11) (.k (.int .i64 1)), 0, 0, false, []⟩,
    ⟨some 13, some (7, true), .bin .eql (.t 10) (.t 12), 0, 0, false, []⟩,
    ⟨some 14, none, .pick (.t 7) (.t 13) (.k (.bool false)), 0, 0, false, []⟩,
    ⟨some 4, none, .mov (.t 14), 0, 0, false, []⟩])
   (.ret))⟩
def B156x0 : C := .seq (.seq (.seg false [⟨some 12, none, .mov (.t 8), 0, 0, false, []⟩,
    ⟨some 13, none, .bin .gtr (.t 12) (.k (.int .i64 0)), 0, 0, false, []⟩])
   (.cond (.t 13) (.skip)
   (.exit 0)))
   (.seq (.block 1 (.seq (.seg false [⟨some 16, none, .mov (.t 7), 0, 0, false, []⟩,
    ⟨some 17, none, .len false (.t 16), 0, 0, false, []⟩,
    ⟨some 18, none, .bin .gtr (.t 17) (.k (.int .i64 0)), 0, 0, false, []⟩,
    ⟨some 19, none, .mov (.t 18), 0, 0, false, []⟩,
    ⟨some 20, some (19, true), .mov (.t 0), 0, 0, false, []⟩,
    ⟨some 21, some (19, true), .call 104 [.t 20, .k (.int .i64 3)] true false, 0, 0, false, []⟩,
    ⟨some 22, some (19, true), .bin .eql (.t 21) (.k (.int .i64 0)), 0, 0, false, []⟩,
    ⟨some 23, none, .pick (.t 19) (.t 22) (.k (.bool false)), 0, 0, false, []⟩])
   (.cond (.t 23) (.seg false [⟨some 24, none, .mov (.t 7), 0, 0, false, []⟩,
    ⟨some 25, none, .mov (.t 7), 0, 0, false, []⟩,
    ⟨some 26, none, .mov (.t 0), 0, 0, false, []⟩,
    ⟨some 27, none, .mov (.t 7), 0, 0, false, []⟩,
    ⟨some 28, none, .len false (.t 27), 0, 0, false, []⟩,
    ⟨some 29, none, .call 104 [.t 26, .t 28] true false, 0, 0, false, []⟩,
    ⟨some 30, none, .iaddr 1 (.t 25) (.t 29), 0, 0, false, []⟩,
    ⟨some 31, none, .load false 1 (.t 30), 0, 0, false, []⟩,
    ⟨some 32, none, .call 126 [.t 31] false false, 0, 0, false, []⟩,
    ⟨some 33, none, .mksl false 1 [.t 32], 0, 0, false, []⟩,
    ⟨some 34, none, .app 1 (.t 24) (.t 33), 0, 0, false, []⟩,
    ⟨some 7, none, .mov (.t 34), 0, 0, false, []⟩])
   (.seg false [⟨some 35, none, .mov (.t 7), 0, 0, false, []⟩,
    ⟨some 36, none, .mov (.t 0), 0, 0, false, []⟩,
    ⟨some 37, none, .mov (.t 1), 0, 0, false, []⟩,
    ⟨some 38, none, .mov (.t 2), 0, 0, false, []⟩,
    ⟨some 39, none, .call 190 [.t 36, .t 37, .t 38] true false, 0, 0, false, []⟩,
    ⟨some 40, none, .mksl false 1 [.t 39], 0, 0, false, []⟩,
    ⟨some 41, none, .app 1 (.t 35) (.t 40), 0, 0, false, []⟩,
    ⟨some 7, none, .mov (.t 41), 0, 0, false, []⟩]))))
   (.seg false [⟨some 14, none, .mov (.t 8), 0, 0, false, []⟩,
    ⟨some 15, none, .bin .sub (.t 14) (.k (.int .i64 1)), 0, 0, false, []⟩,
    ⟨some 8, none, .mov (.t 15), 0, 0, false, []⟩]))
def L156x0 : C := B156x0
theorem evL156x0 (run : Run) (draw : List I → Env → Heap → Option (Env × Heap)) (e : Env) (h : Heap) : evC run draw L156x0 e h = evC run draw B156x0 e h := rfl
/-- loop.example/tablehouse/spec.l20Bag -/
def F156 : F := ⟨43, [(false, 6, 0, false)],
   .seq (.seg false [⟨some 6, none, .nilrow 1, 0, 0, false, []⟩])
   (.seq (.seg false [⟨some 9, none, .mksl true 1 [], 0, 0, false, []⟩,
    ⟨some 7, none, .mov (.t 9), 0, 0, false, []⟩])
   (.seq (.seq (.seg false [⟨some 10, none, .mov (.t 0), 0, 0, false, []⟩,
    ⟨some 11, none, .call 104 [.t 10, .k (.int .i64 7)] true false, 0, 0, false, []⟩,
    ⟨some 8, none, .mov (.t 11), 0, 0, false, []⟩])
   (.block 0 (.loop [0, 1, 2, 7, 8] [7] L156x0)))
   (.seq (.seg false [⟨some 42, none, .mov (.t 7), 0, 0, false, []⟩,
    ⟨some 6, none, .mov (.t 42), 0, 0, false, []⟩])
   (.ret))))⟩
/-- slices.ContainsFunc<<>loop.example/tablehouse/impl.Column,loop.example/tablehouse/impl.Column> -/
def F157 : F := ⟨9, [(false, 4, 0, false)],
   .seq (.seg false [⟨some 4, none, .mov (.k (.bool false)), 0, 0, false, []⟩])
   (.seq (.seg false [⟨some 5, none, .mov (.t 0), 0, 0, false, []⟩,
    ⟨some 6, none, .mov (.t 1), 0, 0, false, []⟩,
    ⟨some 7, none, .call 191 [.t 5, .t 6] true false, 0, 0, false, []⟩,
    ⟨some 8, none, .bin .geq (.t 7) (.k (.int .i64 0)), 0, 0, false, []⟩,
    ⟨some 4, none, .mov (.t 8), 0, 0, false, []⟩])
   (.ret))⟩
/-- loop.example/tablehouse/impl.ColumnsOk$1 -/
def F158 : F := ⟨7, [(false, 2, 0, false)],
   .seq (.seg false [⟨some 1, none, .box (.t 0), 0, 0, false, []⟩,
    ⟨some 2, none, .mov (.k (.bool false)), 0, 0, false, []⟩])
   (.seq (.seg false [⟨some 3, none, .faddr 0 1 (.t 1), 0, 0, false, []⟩,
    ⟨some 4, none, .load false 1 (.t 3), 0, 0, false, []⟩,
    ⟨some 5, none, .call 82 [.t 4, .k (.int .i64 1), .k (.int .i64 3)] false false, 0, 0, false, []⟩,
    ⟨some 6, none, .un .not (.t 5), 0, 0, false, []⟩,
    ⟨some 2, none, .mov (.t 6), 0, 0, false, []⟩])
   (.ret))⟩
/-- loop.example/tablehouse/impl.KnownOf -/
def F159 : F := ⟨23, [(true, 2, 8, true)],
   .seq (.seg false [⟨some 1, none, .box (.t 0), 0, 0, false, []⟩,
    ⟨some 2, none, .alloc [.int .i64 0, .int .i64 0, .int .i64 0, .int .i64 0, .str ⟨#[]⟩, .int .i64 0, .int .i64 0, .str ⟨#[]⟩], 0, 0, false, []⟩])
   (.seq (.seq (.seg false [⟨some 4, none, .load true 3 (.t 1), 0, 0, false, []⟩,
    ⟨some 5, none, .call 83 [.t 4] false false, 0, 0, false, []⟩,
    ⟨some 6, none, .un .not (.t 5), 0, 0, false, []⟩,
    ⟨some 7, none, .mov (.t 6), 0, 0, false, []⟩,
    ⟨some 8, some (7, false), .faddr 0 1 (.t 1), 0, 0, false, []⟩,
    ⟨some 9, some (7, false), .load false 1 (.t 8), 0, 0, false, []⟩,
    ⟨some 10, some (7, false), .bin .eql (.t 9) (.k (.int .i64 0)), 0, 0, false, []⟩,
    ⟨some 11, none, .pick (.t 7) (.k (.bool true)) (.t 10), 0, 0, false, []⟩])
   (.cond (.t 11) (.seq (.seg false [⟨some 12, none, .build [.int .i64 0, .int .i64 0, .int .i64 0, .int .i64 0, .str ⟨#[]⟩, .int .i64 0, .int .i64 0, .str ⟨#[]⟩] [], 0, 0, false, []⟩,
    ⟨none, none, .store 8 (.t 2) (.t 12), 0, 0, false, []⟩])
   (.ret))
   (.skip)))
   (.seq (.seg false [⟨some 13, none, .load true 3 (.t 1), 0, 0, false, []⟩,
    ⟨some 14, none, .load true 3 (.t 1), 0, 0, false, []⟩,
    ⟨some 15, none, .build [.int .i64 0, .int .i64 0, .int .i64 0, .int .i64 0, .str ⟨#[]⟩, .int .i64 0, .int .i64 0, .str ⟨#[]⟩] [(0, 1, .k (.int .i64 1)), (2, 3, .t 13), (5, 3, .t 14)], 0, 0, false, []⟩,
    ⟨some 3, none, .alloc [.int .i64 0, .int .i64 0, .int .i64 0, .int .i64 0, .str ⟨#[]⟩, .int .i64 0, .int .i64 0, .str ⟨#[]⟩], 0, 0, false, []⟩,
    ⟨none, none, .store 8 (.t 3) (.t 15), 0, 0, false, []⟩])
   (.seq (.seq (.seg false [⟨some 16, none, .faddr 0 1 (.t 1), 0, 0, false, []⟩,
    ⟨some 17, none, .load false 1 (.t 16), 0, 0, false, []⟩,
    ⟨some 18, none, .bin .eql (.t 17) (.k (.int .i64 1)), 0, 0, false, []⟩])
   (.cond (.t 18) (.seg false [⟨some 19, none, .faddr 1 1 (.t 1), 0, 0, false, []⟩,
    ⟨some 20, none, .load false 1 (.t 19), 0, 0, false, []⟩,
    ⟨some 21, none, .faddr 1 1 (.t 3), 0, 0, false, []⟩,
    ⟨none, none, .store 1 (.t 21) (.t 20), 0, 0, false, []⟩])
   (.skip)))
   (.seq (.seg false [⟨some 22, none, .load true 8 (.t 3), 0, 0, false, []⟩,
    ⟨none, none, .store 8 (.t 2) (.t 22), 0, 0, false, []⟩])
   (.ret)))))⟩
def E160x0 : List I := [⟨some 27, none, .mov (.t 1), 0, 0, false, []⟩,
    ⟨some 28, none, .mov (.t 5), 0, 0, false, []⟩,
    ⟨some 29, none, .iaddr 3 (.t 27) (.t 28), 0, 0, false, []⟩,
    ⟨some 30, none, .faddr 0 1 (.t 29), 0, 0, false, []⟩,
    ⟨some 31, none, .load false 1 (.t 30), 0, 0, false, []⟩,
    ⟨some 32, none, .mov (.t 0), 0, 0, false, []⟩,
    ⟨some 33, none, .mov (.t 5), 0, 0, false, []⟩,
    ⟨some 34, none, .iaddr 2 (.t 32) (.t 33), 0, 0, false, []⟩,
    ⟨some 35, none, .faddr 0 1 (.t 34), 0, 0, false, []⟩,
    ⟨some 36, none, .load false 1 (.t 35), 0, 0, false, []⟩,
    ⟨some 37, none, .bin .neq (.t 31) (.t 36), 0, 0, false, []⟩,
    ⟨some 38, none, .mov (.t 37), 0, 0, false, []⟩,
    ⟨some 39, some (38, true), .mov (.t 1), 0, 0, false, []⟩,
    ⟨some 40, some (38, true), .mov (.t 5), 0, 0, false, []⟩,
    ⟨some 41, some (38, true), .iaddr 3 (.t 39) (.t 40), 0, 0, false, []⟩,
    ⟨some 42, some (38, true), .faddr 0 1 (.t 41), 0, 0, false, []⟩,
    ⟨some 43, some (38, true), .load false 1 (.t 42), 0, 0, false, []⟩,
    ⟨some 44, some (38, true), .bin .neq (.t 43) (.k (.int .i64 0)), 0, 0, false, []⟩,
    ⟨some 45, some (38, true), .mov (.t 44), 0, 0, false, []⟩,
    ⟨some 46, some (45, false), .mov (.t 0), 0, 0, false, []⟩,
    ⟨some 47, some (45, false), .mov (.t 5), 0, 0, false, []⟩,
    ⟨some 48, some (45, false), .iaddr 2 (.t 46) (.t 47), 0, 0, false, []⟩,
    ⟨some 49, some (45, false), .faddr 1 1 (.t 48), 0, 0, false, []⟩,
    ⟨some 50, some (45, false), .load false 1 (.t 49), 0, 0, false, []⟩,
    ⟨some 51, some (45, false), .un .not (.t 50), 0, 0, false, []⟩,
    ⟨some 52, some (38, true), .pick (.t 45) (.k (.bool true)) (.t 51), 0, 0, false, []⟩,
    ⟨some 53, none, .pick (.t 38) (.t 52) (.k (.bool false)), 0, 0, false, []⟩]
def D160x0 : List I := E160x0
theorem evD160x0 (run : Run) (e : Env) (h : Heap) : drawI run D160x0 e h = DrawS (evQ run E160x0 e h) run E160x0 e h := drawI_quiet run _ (by rfl) e h
def B160x0 : C := .seq (.seq (.seg false [⟨some 21, none, .mov (.t 5), 0, 0, false, []⟩,
    ⟨some 22, none, .mov (.t 1), 0, 0, false, []⟩,
    ⟨some 23, none, .len false (.t 22), 0, 0, false, []⟩,
    ⟨some 24, none, .bin .lss (.t 21) (.t 23), 0, 0, false, []⟩])
   (.cond (.t 24) (.skip)
   (.exit 0)))
   (.seq (.block 1 (.seq (.seg true D160x0)
   (.cond (.t 53) (.seq (.seg false [⟨some 4, none, .mov (.k (.bool false)), 0, 0, false, []⟩])
   (.ret))
   (.skip))))
   (.seg false [⟨some 25, none, .mov (.t 5), 0, 0, false, []⟩,
    ⟨some 26, none, .bin .add (.t 25) (.k (.int .i64 1)), 0, 0, false, []⟩,
    ⟨some 5, none, .mov (.t 26), 0, 0, false, []⟩]))
def L160x0 : C := B160x0
theorem evL160x0 (run : Run) (draw : List I → Env → Heap → Option (Env × Heap)) (e : Env) (h : Heap) : evC run draw L160x0 e h = evC run draw B160x0 e h := rfl
/-- loop.example/tablehouse/spec.RowFits -/
def F160 : F := ⟨54, [(false, 4, 0, false)],
   .seq (.seg false [⟨some 4, none, .mov (.k (.bool false)), 0, 0, false, []⟩])
   (.seq (.seq (.seg false [⟨some 6, none, .mov (.t 0), 0, 0, false, []⟩,
    ⟨some 7, none, .call 161 [.t 6] false false, 0, 0, false, []⟩,
    ⟨some 8, none, .un .not (.t 7), 0, 0, false, []⟩,
    ⟨some 9, none, .mov (.t 8), 0, 0, false, []⟩,
    ⟨some 10, some (9, false), .mov (.t 1), 0, 0, false, []⟩,
    ⟨some 11, some (9, false), .call 192 [.t 10] false false, 0, 0, false, []⟩,
    ⟨some 12, some (9, false), .un .not (.t 11), 0, 0, false, []⟩,
    ⟨some 13, none, .pick (.t 9) (.k (.bool true)) (.t 12), 0, 0, false, []⟩,
    ⟨some 14, none, .mov (.t 13), 0, 0, false, []⟩,
    ⟨some 15, some (14, false), .mov (.t 1), 0, 0, false, []⟩,
    ⟨some 16, some (14, false), .len false (.t 15), 0, 0, false, []⟩,
    ⟨some 17, some (14, false), .mov (.t 0), 0, 0, false, []⟩,
    ⟨some 18, some (14, false), .len false (.t 17), 0, 0, false, []⟩,
    ⟨some 19, some (14, false), .bin .neq (.t 16) (.t 18), 0, 0, false, []⟩,
    ⟨some 20, none, .pick (.t 14) (.k (.bool true)) (.t 19), 0, 0, false, []⟩])
   (.cond (.t 20) (.seq (.seg false [⟨some 4, none, .mov (.k (.bool false)), 0, 0, false, []⟩])
   (.ret))
   (.skip)))
   (.seq (.seq (.seg false [⟨some 5, none, .mov (.k (.int .i64 0)), 0, 0, false, []⟩])
   (.block 0 (.loop [0, 1, 5] [4] L160x0)))
   (.seq (.seg false [⟨some 4, none, .mov (.k (.bool true)), 0, 0, false, []⟩])
   (.ret))))⟩
def B161x0 : C := .seq (.seq (.seg false [⟨some 4, none, .mov (.t 3), 0, 0, false, []⟩,
    ⟨some 5, none, .mov (.t 0), 0, 0, false, []⟩,
    ⟨some 6, none, .len false (.t 5), 0, 0, false, []⟩,
    ⟨some 7, none, .bin .lss (.t 4) (.t 6), 0, 0, false, []⟩])
   (.cond (.t 7) (.skip)
   (.exit 0)))
   (.seq (.block 1 (.seq (.seg false [⟨some 10, none, .mov (.t 0), 0, 0, false, []⟩,
    ⟨some 11, none, .mov (.t 3), 0, 0, false, []⟩,
    ⟨some 12, none, .iaddr 2 (.t 10) (.t 11), 0, 0, false, []⟩,
    ⟨some 13, none, .faddr 0 1 (.t 12), 0, 0, false, []⟩,
    ⟨some 14, none, .load false 1 (.t 13), 0, 0, false, []⟩,
    ⟨some 15, none, .call 90 [.t 14, .k (.int .i64 1), .k (.int .i64 3)] false false, 0, 0, false, []⟩,
    ⟨some 16, none, .un .not (.t 15), 0, 0, false, []⟩])
   (.cond (.t 16) (.seq (.seg false [⟨some 2, none, .mov (.k (.bool false)), 0, 0, false, []⟩])
   (.ret))
   (.skip))))
   (.seg false [⟨some 8, none, .mov (.t 3), 0, 0, false, []⟩,
    ⟨some 9, none, .bin .add (.t 8) (.k (.int .i64 1)), 0, 0, false, []⟩,
    ⟨some 3, none, .mov (.t 9), 0, 0, false, []⟩]))
def L161x0 : C := B161x0
theorem evL161x0 (run : Run) (draw : List I → Env → Heap → Option (Env × Heap)) (e : Env) (h : Heap) : evC run draw L161x0 e h = evC run draw B161x0 e h := rfl
/-- loop.example/tablehouse/spec.ColumnsOk -/
def F161 : F := ⟨20, [(false, 2, 0, false)],
   .seq (.seg false [⟨some 2, none, .mov (.k (.bool false)), 0, 0, false, []⟩])
   (.seq (.seq (.seg false [⟨some 3, none, .mov (.k (.int .i64 0)), 0, 0, false, []⟩])
   (.block 0 (.loop [0, 3] [0, 2] L161x0)))
   (.seq (.seg false [⟨some 17, none, .mov (.t 0), 0, 0, false, []⟩,
    ⟨some 18, none, .len false (.t 17), 0, 0, false, []⟩,
    ⟨some 19, none, .bin .leq (.t 18) (.k (.int .i64 4)), 0, 0, false, []⟩,
    ⟨some 2, none, .mov (.t 19), 0, 0, false, []⟩])
   (.ret)))⟩
def E95x0 : List I := [⟨some 29, none, .faddr 0 1 (.t 6), 0, 0, false, []⟩,
    ⟨some 30, none, .load false 1 (.t 29), 0, 0, false, []⟩,
    ⟨some 31, none, .mov (.t 0), 0, 0, false, []⟩,
    ⟨some 32, none, .mov (.t 5), 0, 0, false, []⟩,
    ⟨some 33, none, .iaddr 2 (.t 31) (.t 32), 0, 0, false, []⟩,
    ⟨some 34, none, .faddr 0 1 (.t 33), 0, 0, false, []⟩,
    ⟨some 35, none, .load false 1 (.t 34), 0, 0, false, []⟩,
    ⟨some 36, none, .bin .neq (.t 30) (.t 35), 0, 0, false, []⟩,
    ⟨some 37, none, .mov (.t 36), 0, 0, false, []⟩,
    ⟨some 38, some (37, true), .faddr 0 1 (.t 6), 0, 0, false, []⟩,
    ⟨some 39, some (37, true), .load false 1 (.t 38), 0, 0, false, []⟩,
    ⟨some 40, some (37, true), .bin .neq (.t 39) (.k (.int .i64 0)), 0, 0, false, []⟩,
    ⟨some 41, some (37, true), .mov (.t 40), 0, 0, false, []⟩,
    ⟨some 42, some (41, false), .mov (.t 0), 0, 0, false, []⟩,
    ⟨some 43, some (41, false), .mov (.t 5), 0, 0, false, []⟩,
    ⟨some 44, some (41, false), .iaddr 2 (.t 42) (.t 43), 0, 0, false, []⟩,
    ⟨some 45, some (41, false), .faddr 1 1 (.t 44), 0, 0, false, []⟩,
    ⟨some 46, some (41, false), .load false 1 (.t 45), 0, 0, false, []⟩,
    ⟨some 47, some (41, false), .un .not (.t 46), 0, 0, false, []⟩,
    ⟨some 48, some (37, true), .pick (.t 41) (.k (.bool true)) (.t 47), 0, 0, false, []⟩,
    ⟨some 49, none, .pick (.t 37) (.t 48) (.k (.bool false)), 0, 0, false, []⟩]
def D95x0 : List I := E95x0
theorem evD95x0 (run : Run) (e : Env) (h : Heap) : drawI run D95x0 e h = DrawS (evQ run E95x0 e h) run E95x0 e h := drawI_quiet run _ (by rfl) e h
def B95x0 : C := .seq (.seg false [⟨some 25, none, .bin .lss (.t 24) (.t 23), 0, 0, false, []⟩])
   (.seq (.cond (.t 25) (.skip)
   (.exit 0))
   (.seq (.block 1 (.seq (.seg false [⟨some 26, none, .mov (.t 24), 0, 0, false, []⟩,
    ⟨some 27, none, .iaddr 3 (.t 22) (.t 24), 0, 0, false, []⟩,
    ⟨some 28, none, .load true 3 (.t 27), 0, 0, false, []⟩,
    ⟨some 6, none, .alloc [.int .i64 0, .int .i64 0, .str ⟨#[]⟩], 0, 0, false, []⟩,
    ⟨some 5, none, .mov (.t 26), 0, 0, false, []⟩,
    ⟨none, none, .store 3 (.t 6) (.t 28), 0, 0, false, []⟩])
   (.seq (.seg true D95x0)
   (.cond (.t 49) (.seq (.seg false [⟨some 4, none, .mov (.k (.bool false)), 0, 0, false, []⟩])
   (.ret))
   (.skip)))))
   (.seg false [⟨some 50, none, .bin .add (.t 24) (.k (.int .i64 1)), 0, 0, false, []⟩,
    ⟨some 24, none, .mov (.t 50), 0, 0, false, []⟩])))
def L95x0 : C := B95x0
theorem evL95x0 (run : Run) (draw : List I → Env → Heap → Option (Env × Heap)) (e : Env) (h : Heap) : evC run draw L95x0 e h = evC run draw B95x0 e h := rfl
/-- loop.example/tablehouse/impl.RowFits -/
def F95 : F := ⟨51, [(false, 4, 0, false)],
   .seq (.seg false [⟨some 4, none, .mov (.k (.bool false)), 0, 0, false, []⟩])
   (.seq (.seq (.seg false [⟨some 7, none, .mov (.t 0), 0, 0, false, []⟩,
    ⟨some 8, none, .call 87 [.t 7] false false, 0, 0, false, []⟩,
    ⟨some 9, none, .un .not (.t 8), 0, 0, false, []⟩,
    ⟨some 10, none, .mov (.t 9), 0, 0, false, []⟩,
    ⟨some 11, some (10, false), .mov (.t 1), 0, 0, false, []⟩,
    ⟨some 12, some (10, false), .call 128 [.t 11] false false, 0, 0, false, []⟩,
    ⟨some 13, some (10, false), .un .not (.t 12), 0, 0, false, []⟩,
    ⟨some 14, none, .pick (.t 10) (.k (.bool true)) (.t 13), 0, 0, false, []⟩,
    ⟨some 15, none, .mov (.t 14), 0, 0, false, []⟩,
    ⟨some 16, some (15, false), .mov (.t 1), 0, 0, false, []⟩,
    ⟨some 17, some (15, false), .len false (.t 16), 0, 0, false, []⟩,
    ⟨some 18, some (15, false), .mov (.t 0), 0, 0, false, []⟩,
    ⟨some 19, some (15, false), .len false (.t 18), 0, 0, false, []⟩,
    ⟨some 20, some (15, false), .bin .neq (.t 17) (.t 19), 0, 0, false, []⟩,
    ⟨some 21, none, .pick (.t 15) (.k (.bool true)) (.t 20), 0, 0, false, []⟩])
   (.cond (.t 21) (.seq (.seg false [⟨some 4, none, .mov (.k (.bool false)), 0, 0, false, []⟩])
   (.ret))
   (.skip)))
   (.seq (.seq (.seg false [⟨some 22, none, .mov (.t 1), 0, 0, false, []⟩,
    ⟨some 23, none, .len false (.t 22), 0, 0, false, []⟩,
    ⟨some 24, none, .mov (.k (.int .i64 0)), 0, 0, false, []⟩])
   (.block 0 (.loop [0, 22, 23, 24] [4] L95x0)))
   (.seq (.seg false [⟨some 4, none, .mov (.k (.bool true)), 0, 0, false, []⟩])
   (.ret))))⟩
def B162x0 : C := .seq (.seg false [⟨some 9, none, .bin .lss (.t 8) (.t 7), 0, 0, false, []⟩])
   (.seq (.cond (.t 9) (.skip)
   (.exit 0))
   (.seq (.block 1 (.seq (.seg false [⟨some 10, none, .mov (.t 8), 0, 0, false, []⟩,
    ⟨some 5, none, .mov (.t 10), 0, 0, false, []⟩])
   (.seq (.seg false [⟨some 11, none, .mov (.t 1), 0, 0, false, []⟩,
    ⟨some 12, none, .mov (.t 0), 0, 0, false, []⟩,
    ⟨some 13, none, .mov (.t 5), 0, 0, false, []⟩,
    ⟨some 14, none, .iaddr 1 (.t 12) (.t 13), 0, 0, false, []⟩,
    ⟨some 15, none, .load false 1 (.t 14), 0, 0, false, []⟩,
    ⟨some 16, none, .callv (.t 11) [.t 15] false, 0, 0, false, []⟩])
   (.cond (.t 16) (.seq (.seg false [⟨some 17, none, .mov (.t 5), 0, 0, false, []⟩,
    ⟨some 4, none, .mov (.t 17), 0, 0, false, []⟩])
   (.ret))
   (.skip)))))
   (.seg false [⟨some 18, none, .bin .add (.t 8) (.k (.int .i64 1)), 0, 0, false, []⟩,
    ⟨some 8, none, .mov (.t 18), 0, 0, false, []⟩])))
def L162x0 : C := B162x0
theorem evL162x0 (run : Run) (draw : List I → Env → Heap → Option (Env × Heap)) (e : Env) (h : Heap) : evC run draw L162x0 e h = evC run draw B162x0 e h := rfl
/-- slices.IndexFunc<<><>loop.example/tablehouse/impl.Value,<>loop.example/tablehouse/impl.Value> -/
def F162 : F := ⟨19, [(false, 4, 0, false)],
   .seq (.seg false [⟨some 4, none, .mov (.k (.int .i64 0)), 0, 0, false, []⟩])
   (.seq (.seq (.seg false [⟨some 6, none, .mov (.t 0), 0, 0, false, []⟩,
    ⟨some 7, none, .len false (.t 6), 0, 0, false, []⟩,
    ⟨some 8, none, .mov (.k (.int .i64 0)), 0, 0, false, []⟩])
   (.block 0 (.loop [0, 1, 7, 8] [4] L162x0)))
   (.seq (.seg false [⟨some 4, none, .mov (.k (.int .i64 (-1))), 0, 0, false, []⟩])
   (.ret)))⟩
/-- cmp.isNaN<int> -/
def F188 : F := ⟨6, [(false, 2, 0, false)],
   .seq (.seg false [⟨some 2, none, .mov (.k (.bool false)), 0, 0, false, []⟩])
   (.seq (.seg false [⟨some 3, none, .mov (.t 0), 0, 0, false, []⟩,
    ⟨some 4, none, .mov (.t 0), 0, 0, false, []⟩,
    ⟨some 5, none, .bin .neq (.t 3) (.t 4), 0, 0, false, []⟩,
    ⟨some 2, none, .mov (.t 5), 0, 0, false, []⟩])
   (.ret))⟩
/-- cmp.isNaN<string> -/
def F189 : F := ⟨6, [(false, 2, 0, false)],
   .seq (.seg false [⟨some 2, none, .mov (.k (.bool false)), 0, 0, false, []⟩])
   (.seq (.seg false [⟨some 3, none, .mov (.t 0), 0, 0, false, []⟩,
    ⟨some 4, none, .mov (.t 0), 0, 0, false, []⟩,
    ⟨some 5, none, .bin .neq (.t 3) (.t 4), 0, 0, false, []⟩,
    ⟨some 2, none, .mov (.t 5), 0, 0, false, []⟩])
   (.ret))⟩
/-- loop.example/tablehouse/spec.l3Own -/
def F126 : F := ⟨6, [(false, 2, 0, false)],
   .seq (.seg false [⟨some 2, none, .nilrow 3, 0, 0, false, []⟩])
   (.seq (.seg false [⟨some 3, none, .mksl true 3 [], 0, 0, false, []⟩,
    ⟨some 4, none, .mov (.t 0), 0, 0, false, []⟩,
    ⟨some 5, none, .app 3 (.t 3) (.t 4), 0, 0, false, []⟩,
    ⟨some 2, none, .mov (.t 5), 0, 0, false, []⟩])
   (.ret))⟩
def B190x0 : C := .seq (.seq (.seg false [⟨some 10, none, .mov (.t 8), 0, 0, false, []⟩,
    ⟨some 11, none, .mov (.t 1), 0, 0, false, []⟩,
    ⟨some 12, none, .len false (.t 11), 0, 0, false, []⟩,
    ⟨some 13, none, .bin .lss (.t 10) (.t 12), 0, 0, false, []⟩])
   (.cond (.t 13) (.skip)
   (.exit 0)))
   (.seq (.block 1 (.seg false [⟨some 16, none, .mov (.t 7), 0, 0, false, []⟩,
    ⟨some 17, none, .mov (.t 0), 0, 0, false, []⟩,
    ⟨some 18, none, .mov (.t 1), 0, 0, false, []⟩,
    ⟨some 19, none, .mov (.t 8), 0, 0, false, []⟩,
    ⟨some 20, none, .iaddr 2 (.t 18) (.t 19), 0, 0, false, []⟩,
    ⟨some 21, none, .load true 2 (.t 20), 0, 0, false, []⟩,
    ⟨some 22, none, .call 105 [.t 17, .t 21] true false, 0, 0, false, []⟩,
    ⟨some 23, none, .mksl false 3 [.t 22], 0, 0, false, []⟩,
    ⟨some 24, none, .app 3 (.t 16) (.t 23), 0, 0, false, []⟩,
    ⟨some 7, none, .mov (.t 24), 0, 0, false, []⟩]))
   (.seg false [⟨some 14, none, .mov (.t 8), 0, 0, false, []⟩,
    ⟨some 15, none, .bin .add (.t 14) (.k (.int .i64 1)), 0, 0, false, []⟩,
    ⟨some 8, none, .mov (.t 15), 0, 0, false, []⟩]))
def L190x0 : C := B190x0
theorem evL190x0 (run : Run) (draw : List I → Env → Heap → Option (Env × Heap)) (e : Env) (h : Heap) : evC run draw L190x0 e h = evC run draw B190x0 e h := rfl
/-- loop.example/tablehouse/spec.l20Fit -/
def F190 : F := ⟨59, [(false, 6, 0, false)],
   .seq (.seg false [⟨some 6, none, .nilrow 3, 0, 0, false, []⟩])
   (.seq (.seg false [⟨some 9, none, .mksl true 3 [], 0, 0, false, []⟩,
    ⟨some 7, none, .mov (.t 9), 0, 0, false, []⟩])
   (.seq (.seq (.seg false [⟨some 8, none, .mov (.k (.int .i64 0)), 0, 0, false, []⟩])
   (.block 0 (.loop [0, 1, 2, 7, 8] [0, 2, 7] L190x0)))
   (.seq (.seq (.seg false [⟨some 25, none, .mov (.t 0), 0, 0, false, []⟩,
    ⟨some 26, none, .mov (.t 2), 0, 0, false, []⟩,
    ⟨some 27, none, .call 155 [.t 25, .t 26] true false, 0, 0, false, []⟩])
   (.cond (.t 27) (.seq (.seg false [⟨some 28, none, .mov (.t 0), 0, 0, false, []⟩,
    ⟨some 29, none, .call 104 [.t 28, .k (.int .i64 3)] true false, 0, 0, false, []⟩])
   (.block 2 (.seq (.seg false [⟨some 40, none, .bin .eql (.t 29) (.k (.int .i64 0)), 0, 0, false, []⟩,
    ⟨some 39, none, .mov (.t 40), 0, 0, false, []⟩])
   (.cond (.t 39) (.seg false [⟨some 41, none, .mov (.t 7), 0, 0, false, []⟩,
    ⟨some 42, none, .build [.int .i64 0, .int .i64 0, .str ⟨#[]⟩] [], 0, 0, false, []⟩,
    ⟨some 43, none, .mksl false 3 [.t 42], 0, 0, false, []⟩,
    ⟨some 44, none, .app 3 (.t 41) (.t 43), 0, 0, false, []⟩,
    ⟨some 7, none, .mov (.t 44), 0, 0, false, []⟩])
   (.seq (.seg false [⟨some 46, none, .bin .eql (.t 29) (.k (.int .i64 1)), 0, 0, false, []⟩,
    ⟨some 45, none, .mov (.t 46), 0, 0, false, []⟩])
   (.cond (.t 45) (.seq (.seg false [⟨some 47, none, .mov (.t 7), 0, 0, false, []⟩,
    ⟨some 48, none, .len false (.t 47), 0, 0, false, []⟩,
    ⟨some 49, none, .bin .gtr (.t 48) (.k (.int .i64 0)), 0, 0, false, []⟩])
   (.cond (.t 49) (.seg false [⟨some 50, none, .mov (.t 7), 0, 0, false, []⟩,
    ⟨some 51, none, .mov (.t 0), 0, 0, false, []⟩,
    ⟨some 52, none, .mov (.t 7), 0, 0, false, []⟩,
    ⟨some 53, none, .len false (.t 52), 0, 0, false, []⟩,
    ⟨some 54, none, .call 104 [.t 51, .t 53] true false, 0, 0, false, []⟩,
    ⟨some 55, none, .mov (.t 0), 0, 0, false, []⟩,
    ⟨some 56, none, .call 145 [.t 55, .k (.int .i64 3)] true false, 0, 0, false, []⟩,
    ⟨some 57, none, .iaddr 3 (.t 50) (.t 54), 0, 0, false, []⟩,
    ⟨none, none, .store 3 (.t 57) (.t 56), 0, 0, false, []⟩])
   (.skip)))
   (.seg false [⟨some 30, none, .mov (.t 7), 0, 0, false, []⟩,
    ⟨some 31, none, .mov (.t 0), 0, 0, false, []⟩,
    ⟨some 32, none, .call 145 [.t 31, .k (.int .i64 0)] true false, 0, 0, false, []⟩,
    ⟨some 33, none, .mov (.t 0), 0, 0, false, []⟩,
    ⟨some 34, none, .call 145 [.t 33, .k (.int .i64 0)] true false, 0, 0, false, []⟩,
    ⟨some 35, none, .mov (.t 0), 0, 0, false, []⟩,
    ⟨some 36, none, .call 145 [.t 35, .k (.int .i64 0)] true false, 0, 0, false, []⟩,
    ⟨some 37, none, .mksl false 3 [.t 32, .t 34, .t 36], 0, 0, false, []⟩,
    ⟨some 38, none, .app 3 (.t 30) (.t 37), 0, 0, false, []⟩,
    ⟨some 7, none, .mov (.t 38), 0, 0, false, []⟩])))))))
   (.skip)))
   (.seq (.seg false [⟨some 58, none, .mov (.t 7), 0, 0, false, []⟩,
    ⟨some 6, none, .mov (.t 58), 0, 0, false, []⟩])
   (.ret)))))⟩
def B191x0 : C := .seq (.seg false [⟨some 9, none, .bin .lss (.t 8) (.t 7), 0, 0, false, []⟩])
   (.seq (.cond (.t 9) (.skip)
   (.exit 0))
   (.seq (.block 1 (.seq (.seg false [⟨some 10, none, .mov (.t 8), 0, 0, false, []⟩,
    ⟨some 5, none, .mov (.t 10), 0, 0, false, []⟩])
   (.seq (.seg false [⟨some 11, none, .mov (.t 1), 0, 0, false, []⟩,
    ⟨some 12, none, .mov (.t 0), 0, 0, false, []⟩,
    ⟨some 13, none, .mov (.t 5), 0, 0, false, []⟩,
    ⟨some 14, none, .iaddr 2 (.t 12) (.t 13), 0, 0, false, []⟩,
    ⟨some 15, none, .load true 2 (.t 14), 0, 0, false, []⟩,
    ⟨some 16, none, .callv (.t 11) [.t 15] false, 0, 0, false, []⟩])
   (.cond (.t 16) (.seq (.seg false [⟨some 17, none, .mov (.t 5), 0, 0, false, []⟩,
    ⟨some 4, none, .mov (.t 17), 0, 0, false, []⟩])
   (.ret))
   (.skip)))))
   (.seg false [⟨some 18, none, .bin .add (.t 8) (.k (.int .i64 1)), 0, 0, false, []⟩,
    ⟨some 8, none, .mov (.t 18), 0, 0, false, []⟩])))
def L191x0 : C := B191x0
theorem evL191x0 (run : Run) (draw : List I → Env → Heap → Option (Env × Heap)) (e : Env) (h : Heap) : evC run draw L191x0 e h = evC run draw B191x0 e h := rfl
/-- slices.IndexFunc<<>loop.example/tablehouse/impl.Column,loop.example/tablehouse/impl.Column> -/
def F191 : F := ⟨19, [(false, 4, 0, false)],
   .seq (.seg false [⟨some 4, none, .mov (.k (.int .i64 0)), 0, 0, false, []⟩])
   (.seq (.seq (.seg false [⟨some 6, none, .mov (.t 0), 0, 0, false, []⟩,
    ⟨some 7, none, .len false (.t 6), 0, 0, false, []⟩,
    ⟨some 8, none, .mov (.k (.int .i64 0)), 0, 0, false, []⟩])
   (.block 0 (.loop [0, 1, 7, 8] [4] L191x0)))
   (.seq (.seg false [⟨some 4, none, .mov (.k (.int .i64 (-1))), 0, 0, false, []⟩])
   (.ret)))⟩
def B192x0 : C := .seq (.seq (.seg false [⟨some 4, none, .mov (.t 3), 0, 0, false, []⟩,
    ⟨some 5, none, .mov (.t 0), 0, 0, false, []⟩,
    ⟨some 6, none, .len false (.t 5), 0, 0, false, []⟩,
    ⟨some 7, none, .bin .lss (.t 4) (.t 6), 0, 0, false, []⟩])
   (.cond (.t 7) (.skip)
   (.exit 0)))
   (.seq (.block 1 (.seq (.seg false [⟨some 10, none, .mov (.t 0), 0, 0, false, []⟩,
    ⟨some 11, none, .mov (.t 3), 0, 0, false, []⟩,
    ⟨some 12, none, .iaddr 3 (.t 10) (.t 11), 0, 0, false, []⟩,
    ⟨some 13, none, .load true 3 (.t 12), 0, 0, false, []⟩,
    ⟨some 14, none, .call 80 [.t 13] false false, 0, 0, false, []⟩,
    ⟨some 15, none, .un .not (.t 14), 0, 0, false, []⟩])
   (.cond (.t 15) (.seq (.seg false [⟨some 2, none, .mov (.k (.bool false)), 0, 0, false, []⟩])
   (.ret))
   (.skip))))
   (.seg false [⟨some 8, none, .mov (.t 3), 0, 0, false, []⟩,
    ⟨some 9, none, .bin .add (.t 8) (.k (.int .i64 1)), 0, 0, false, []⟩,
    ⟨some 3, none, .mov (.t 9), 0, 0, false, []⟩]))
def L192x0 : C := B192x0
theorem evL192x0 (run : Run) (draw : List I → Env → Heap → Option (Env × Heap)) (e : Env) (h : Heap) : evC run draw L192x0 e h = evC run draw B192x0 e h := rfl
/-- loop.example/tablehouse/spec.RowOk -/
def F192 : F := ⟨19, [(false, 2, 0, false)],
   .seq (.seg false [⟨some 2, none, .mov (.k (.bool false)), 0, 0, false, []⟩])
   (.seq (.seq (.seg false [⟨some 3, none, .mov (.k (.int .i64 0)), 0, 0, false, []⟩])
   (.block 0 (.loop [0, 3] [0, 2] L192x0)))
   (.seq (.seg false [⟨some 16, none, .mov (.t 0), 0, 0, false, []⟩,
    ⟨some 17, none, .len false (.t 16), 0, 0, false, []⟩,
    ⟨some 18, none, .bin .leq (.t 17) (.k (.int .i64 4)), 0, 0, false, []⟩,
    ⟨some 2, none, .mov (.t 18), 0, 0, false, []⟩])
   (.ret)))⟩
/-- loop.example/tablehouse/impl.RowOk -/
def F128 : F := ⟨11, [(false, 2, 0, false)],
   .seq (.seg false [⟨some 2, none, .mov (.k (.bool false)), 0, 0, false, []⟩])
   (.seq (.seg false [⟨some 3, none, .mov (.t 0), 0, 0, false, []⟩,
    ⟨some 4, none, .len false (.t 3), 0, 0, false, []⟩,
    ⟨some 5, none, .bin .leq (.t 4) (.k (.int .i64 4)), 0, 0, false, []⟩,
    ⟨some 6, none, .mov (.t 5), 0, 0, false, []⟩,
    ⟨some 7, some (6, true), .mov (.t 0), 0, 0, false, []⟩,
    ⟨some 8, some (6, true), .call 176 [.t 7, .k (.clo 177 [])] true false, 0, 0, false, []⟩,
    ⟨some 9, some (6, true), .un .not (.t 8), 0, 0, false, []⟩,
    ⟨some 10, none, .pick (.t 6) (.t 9) (.k (.bool false)), 0, 0, false, []⟩,
    ⟨some 2, none, .mov (.t 10), 0, 0, false, []⟩])
   (.ret))⟩
/-- slices.ContainsFunc<<>loop.example/tablehouse/impl.Value,loop.example/tablehouse/impl.Value> -/
def F176 : F := ⟨9, [(false, 4, 0, false)],
   .seq (.seg false [⟨some 4, none, .mov (.k (.bool false)), 0, 0, false, []⟩])
   (.seq (.seg false [⟨some 5, none, .mov (.t 0), 0, 0, false, []⟩,
    ⟨some 6, none, .mov (.t 1), 0, 0, false, []⟩,
    ⟨some 7, none, .call 199 [.t 5, .t 6] true false, 0, 0, false, []⟩,
    ⟨some 8, none, .bin .geq (.t 7) (.k (.int .i64 0)), 0, 0, false, []⟩,
    ⟨some 4, none, .mov (.t 8), 0, 0, false, []⟩])
   (.ret))⟩
/-- loop.example/tablehouse/impl.RowOk$1 -/
def F177 : F := ⟨6, [(false, 2, 0, false)],
   .seq (.seg false [⟨some 1, none, .box (.t 0), 0, 0, false, []⟩,
    ⟨some 2, none, .mov (.k (.bool false)), 0, 0, false, []⟩])
   (.seq (.seg false [⟨some 3, none, .load true 3 (.t 1), 0, 0, false, []⟩,
    ⟨some 4, none, .call 83 [.t 3] false false, 0, 0, false, []⟩,
    ⟨some 5, none, .un .not (.t 4), 0, 0, false, []⟩,
    ⟨some 2, none, .mov (.t 5), 0, 0, false, []⟩])
   (.ret))⟩
def B199x0 : C := .seq (.seg false [⟨some 9, none, .bin .lss (.t 8) (.t 7), 0, 0, false, []⟩])
   (.seq (.cond (.t 9) (.skip)
   (.exit 0))
   (.seq (.block 1 (.seq (.seg false [⟨some 10, none, .mov (.t 8), 0, 0, false, []⟩,
    ⟨some 5, none, .mov (.t 10), 0, 0, false, []⟩])
   (.seq (.seg false [⟨some 11, none, .mov (.t 1), 0, 0, false, []⟩,
    ⟨some 12, none, .mov (.t 0), 0, 0, false, []⟩,
    ⟨some 13, none, .mov (.t 5), 0, 0, false, []⟩,
    ⟨some 14, none, .iaddr 3 (.t 12) (.t 13), 0, 0, false, []⟩,
    ⟨some 15, none, .load true 3 (.t 14), 0, 0, false, []⟩,
    ⟨some 16, none, .callv (.t 11) [.t 15] false, 0, 0, false, []⟩])
   (.cond (.t 16) (.seq (.seg false [⟨some 17, none, .mov (.t 5), 0, 0, false, []⟩,
    ⟨some 4, none, .mov (.t 17), 0, 0, false, []⟩])
   (.ret))
   (.skip)))))
   (.seg false [⟨some 18, none, .bin .add (.t 8) (.k (.int .i64 1)), 0, 0, false, []⟩,
    ⟨some 8, none, .mov (.t 18), 0, 0, false, []⟩])))
def L199x0 : C := B199x0
theorem evL199x0 (run : Run) (draw : List I → Env → Heap → Option (Env × Heap)) (e : Env) (h : Heap) : evC run draw L199x0 e h = evC run draw B199x0 e h := rfl
/-- slices.IndexFunc<<>loop.example/tablehouse/impl.Value,loop.example/tablehouse/impl.Value> -/
def F199 : F := ⟨19, [(false, 4, 0, false)],
   .seq (.seg false [⟨some 4, none, .mov (.k (.int .i64 0)), 0, 0, false, []⟩])
   (.seq (.seq (.seg false [⟨some 6, none, .mov (.t 0), 0, 0, false, []⟩,
    ⟨some 7, none, .len false (.t 6), 0, 0, false, []⟩,
    ⟨some 8, none, .mov (.k (.int .i64 0)), 0, 0, false, []⟩])
   (.block 0 (.loop [0, 1, 7, 8] [4] L199x0)))
   (.seq (.seg false [⟨some 4, none, .mov (.k (.int .i64 (-1))), 0, 0, false, []⟩])
   (.ret)))⟩
theorem chk3 : chkF Try.prog 3 F3 = true := by kernel_rfl
theorem chk4 : chkF Try.prog 4 F4 = true := by kernel_rfl
theorem chk5 : chkF Try.prog 5 F5 = true := by kernel_rfl
theorem chk6 : chkF Try.prog 6 F6 = true := by kernel_rfl
theorem chk8 : chkF Try.prog 8 F8 = true := by kernel_rfl
theorem chk15 : chkF Try.prog 15 F15 = true := by kernel_rfl
theorem chk16 : chkF Try.prog 16 F16 = true := by kernel_rfl
theorem chk17 : chkF Try.prog 17 F17 = true := by kernel_rfl
theorem chk18 : chkF Try.prog 18 F18 = true := by kernel_rfl
theorem chk19 : chkF Try.prog 19 F19 = true := by kernel_rfl
theorem chk20 : chkF Try.prog 20 F20 = true := by kernel_rfl
theorem chk21 : chkF Try.prog 21 F21 = true := by kernel_rfl
theorem chk22 : chkF Try.prog 22 F22 = true := by kernel_rfl
theorem chk23 : chkF Try.prog 23 F23 = true := by kernel_rfl
theorem chk24 : chkF Try.prog 24 F24 = true := by kernel_rfl
theorem chk25 : chkF Try.prog 25 F25 = true := by kernel_rfl
theorem chk26 : chkF Try.prog 26 F26 = true := by kernel_rfl
theorem chk27 : chkF Try.prog 27 F27 = true := by kernel_rfl
theorem chk28 : chkF Try.prog 28 F28 = true := by kernel_rfl
theorem chk29 : chkF Try.prog 29 F29 = true := by kernel_rfl
theorem chk30 : chkF Try.prog 30 F30 = true := by kernel_rfl
theorem chk31 : chkF Try.prog 31 F31 = true := by kernel_rfl
theorem chk39 : chkF Try.prog 39 F39 = true := by kernel_rfl
theorem chk40 : chkF Try.prog 40 F40 = true := by kernel_rfl
theorem chk76 : chkF Try.prog 76 F76 = true := by kernel_rfl
theorem chk75 : chkF Try.prog 75 F75 = true := by kernel_rfl
theorem chk77 : chkF Try.prog 77 F77 = true := by kernel_rfl
theorem chk78 : chkF Try.prog 78 F78 = true := by kernel_rfl
theorem chk79 : chkF Try.prog 79 F79 = true := by kernel_rfl
theorem chk80 : chkF Try.prog 80 F80 = true := by kernel_rfl
theorem chk81 : chkF Try.prog 81 F81 = true := by kernel_rfl
theorem chk82 : chkF Try.prog 82 F82 = true := by kernel_rfl
theorem chk83 : chkF Try.prog 83 F83 = true := by kernel_rfl
theorem chk84 : chkF Try.prog 84 F84 = true := by kernel_rfl
theorem chk85 : chkF Try.prog 85 F85 = true := by kernel_rfl
theorem chk86 : chkF Try.prog 86 F86 = true := by kernel_rfl
theorem chk87 : chkF Try.prog 87 F87 = true := by kernel_rfl
theorem chk88 : chkF Try.prog 88 F88 = true := by kernel_rfl
theorem chk89 : chkF Try.prog 89 F89 = true := by kernel_rfl
theorem chk90 : chkF Try.prog 90 F90 = true := by kernel_rfl
theorem chk92 : chkF Try.prog 92 F92 = true := by kernel_rfl
theorem chk91 : chkF Try.prog 91 F91 = true := by kernel_rfl
theorem chk94 : chkF Try.prog 94 F94 = true := by kernel_rfl
theorem chk93 : chkF Try.prog 93 F93 = true := by kernel_rfl
theorem chk96 : chkF Try.prog 96 F96 = true := by kernel_rfl
theorem chk97 : chkF Try.prog 97 F97 = true := by kernel_rfl
theorem chk104 : chkF Try.prog 104 F104 = true := by kernel_rfl
theorem chk105 : chkF Try.prog 105 F105 = true := by kernel_rfl
theorem chk106 : chkF Try.prog 106 F106 = true := by kernel_rfl
theorem chk145 : chkF Try.prog 145 F145 = true := by kernel_rfl
theorem chk146 : chkF Try.prog 146 F146 = true := by kernel_rfl
theorem chk148 : chkF Try.prog 148 F148 = true := by kernel_rfl
theorem chk149 : chkF Try.prog 149 F149 = true := by kernel_rfl
theorem chk147 : chkF Try.prog 147 F147 = true := by kernel_rfl
theorem chk150 : chkF Try.prog 150 F150 = true := by kernel_rfl
theorem chk151 : chkF Try.prog 151 F151 = true := by kernel_rfl
theorem chk152 : chkF Try.prog 152 F152 = true := by kernel_rfl
theorem chk153 : chkF Try.prog 153 F153 = true := by kernel_rfl
theorem chk154 : chkF Try.prog 154 F154 = true := by kernel_rfl
theorem chk130 : chkF Try.prog 130 F130 = true := by kernel_rfl
theorem chk155 : chkF Try.prog 155 F155 = true := by kernel_rfl
theorem chk156 : chkF Try.prog 156 F156 = true := by kernel_rfl
theorem chk157 : chkF Try.prog 157 F157 = true := by kernel_rfl
theorem chk158 : chkF Try.prog 158 F158 = true := by kernel_rfl
theorem chk159 : chkF Try.prog 159 F159 = true := by kernel_rfl
theorem chk160 : chkF Try.prog 160 F160 = true := by kernel_rfl
theorem chk161 : chkF Try.prog 161 F161 = true := by kernel_rfl
theorem chk95 : chkF Try.prog 95 F95 = true := by kernel_rfl
theorem chk162 : chkF Try.prog 162 F162 = true := by kernel_rfl
theorem chk188 : chkF Try.prog 188 F188 = true := by kernel_rfl
theorem chk189 : chkF Try.prog 189 F189 = true := by kernel_rfl
theorem chk126 : chkF Try.prog 126 F126 = true := by kernel_rfl
theorem chk190 : chkF Try.prog 190 F190 = true := by kernel_rfl
theorem chk191 : chkF Try.prog 191 F191 = true := by kernel_rfl
theorem chk192 : chkF Try.prog 192 F192 = true := by kernel_rfl
theorem chk128 : chkF Try.prog 128 F128 = true := by kernel_rfl
theorem chk176 : chkF Try.prog 176 F176 = true := by kernel_rfl
theorem chk177 : chkF Try.prog 177 F177 = true := by kernel_rfl
theorem chk199 : chkF Try.prog 199 F199 = true := by kernel_rfl
def tab : Tab := [(3, F3), (4, F4), (5, F5), (6, F6), (8, F8), (15, F15), (16, F16), (17, F17), (18, F18), (19, F19), (20, F20), (21, F21), (22, F22), (23, F23), (24, F24), (25, F25), (26, F26), (27, F27), (28, F28), (29, F29), (30, F30), (31, F31), (39, F39), (40, F40), (76, F76), (75, F75), (77, F77), (78, F78), (79, F79), (80, F80), (81, F81), (82, F82), (83, F83), (84, F84), (85, F85), (86, F86), (87, F87), (88, F88), (89, F89), (90, F90), (92, F92), (91, F91), (94, F94), (93, F93), (96, F96), (97, F97), (104, F104), (105, F105), (106, F106), (145, F145), (146, F146), (148, F148), (149, F149), (147, F147), (150, F150), (151, F151), (152, F152), (153, F153), (154, F154), (130, F130), (155, F155), (156, F156), (157, F157), (158, F158), (159, F159), (160, F160), (161, F161), (95, F95), (162, F162), (188, F188), (189, F189), (126, F126), (190, F190), (191, F191), (192, F192), (128, F128), (176, F176), (177, F177), (199, F199)]
theorem find3 : tab.find 3 = some F3 := rfl
theorem find4 : tab.find 4 = some F4 := rfl
theorem find5 : tab.find 5 = some F5 := rfl
theorem find6 : tab.find 6 = some F6 := rfl
theorem find8 : tab.find 8 = some F8 := rfl
theorem find15 : tab.find 15 = some F15 := rfl
theorem find16 : tab.find 16 = some F16 := rfl
theorem find17 : tab.find 17 = some F17 := rfl
theorem find18 : tab.find 18 = some F18 := rfl
theorem find19 : tab.find 19 = some F19 := rfl
theorem find20 : tab.find 20 = some F20 := rfl
theorem find21 : tab.find 21 = some F21 := rfl
theorem find22 : tab.find 22 = some F22 := rfl
theorem find23 : tab.find 23 = some F23 := rfl
theorem find24 : tab.find 24 = some F24 := rfl
theorem find25 : tab.find 25 = some F25 := rfl
theorem find26 : tab.find 26 = some F26 := rfl
theorem find27 : tab.find 27 = some F27 := rfl
theorem find28 : tab.find 28 = some F28 := rfl
theorem find29 : tab.find 29 = some F29 := rfl
theorem find30 : tab.find 30 = some F30 := rfl
theorem find31 : tab.find 31 = some F31 := rfl
theorem find39 : tab.find 39 = some F39 := rfl
theorem find40 : tab.find 40 = some F40 := rfl
theorem find76 : tab.find 76 = some F76 := rfl
theorem find75 : tab.find 75 = some F75 := rfl
theorem find77 : tab.find 77 = some F77 := rfl
theorem find78 : tab.find 78 = some F78 := rfl
theorem find79 : tab.find 79 = some F79 := rfl
theorem find80 : tab.find 80 = some F80 := rfl
theorem find81 : tab.find 81 = some F81 := rfl
theorem find82 : tab.find 82 = some F82 := rfl
theorem find83 : tab.find 83 = some F83 := rfl
theorem find84 : tab.find 84 = some F84 := rfl
theorem find85 : tab.find 85 = some F85 := rfl
theorem find86 : tab.find 86 = some F86 := rfl
theorem find87 : tab.find 87 = some F87 := rfl
theorem find88 : tab.find 88 = some F88 := rfl
theorem find89 : tab.find 89 = some F89 := rfl
theorem find90 : tab.find 90 = some F90 := rfl
theorem find92 : tab.find 92 = some F92 := rfl
theorem find91 : tab.find 91 = some F91 := rfl
theorem find94 : tab.find 94 = some F94 := rfl
theorem find93 : tab.find 93 = some F93 := rfl
theorem find96 : tab.find 96 = some F96 := rfl
theorem find97 : tab.find 97 = some F97 := rfl
theorem find104 : tab.find 104 = some F104 := rfl
theorem find105 : tab.find 105 = some F105 := rfl
theorem find106 : tab.find 106 = some F106 := rfl
theorem find145 : tab.find 145 = some F145 := rfl
theorem find146 : tab.find 146 = some F146 := rfl
theorem find148 : tab.find 148 = some F148 := rfl
theorem find149 : tab.find 149 = some F149 := rfl
theorem find147 : tab.find 147 = some F147 := rfl
theorem find150 : tab.find 150 = some F150 := rfl
theorem find151 : tab.find 151 = some F151 := rfl
theorem find152 : tab.find 152 = some F152 := rfl
theorem find153 : tab.find 153 = some F153 := rfl
theorem find154 : tab.find 154 = some F154 := rfl
theorem find130 : tab.find 130 = some F130 := rfl
theorem find155 : tab.find 155 = some F155 := rfl
theorem find156 : tab.find 156 = some F156 := rfl
theorem find157 : tab.find 157 = some F157 := rfl
theorem find158 : tab.find 158 = some F158 := rfl
theorem find159 : tab.find 159 = some F159 := rfl
theorem find160 : tab.find 160 = some F160 := rfl
theorem find161 : tab.find 161 = some F161 := rfl
theorem find95 : tab.find 95 = some F95 := rfl
theorem find162 : tab.find 162 = some F162 := rfl
theorem find188 : tab.find 188 = some F188 := rfl
theorem find189 : tab.find 189 = some F189 := rfl
theorem find126 : tab.find 126 = some F126 := rfl
theorem find190 : tab.find 190 = some F190 := rfl
theorem find191 : tab.find 191 = some F191 := rfl
theorem find192 : tab.find 192 = some F192 := rfl
theorem find128 : tab.find 128 = some F128 := rfl
theorem find176 : tab.find 176 = some F176 := rfl
theorem find177 : tab.find 177 = some F177 := rfl
theorem find199 : tab.find 199 = some F199 := rfl
theorem tab_ok : ∀ p ∈ tab, chkF Try.prog p.1 p.2 = true := by
  intro p hp
  simp only [tab, List.mem_cons, List.not_mem_nil, or_false] at hp
  rcases hp with rfl | rfl | rfl | rfl | rfl | rfl | rfl | rfl | rfl | rfl | rfl | rfl | rfl | rfl | rfl | rfl | rfl | rfl | rfl | rfl | rfl | rfl | rfl | rfl | rfl | rfl | rfl | rfl | rfl | rfl | rfl | rfl | rfl | rfl | rfl | rfl | rfl | rfl | rfl | rfl | rfl | rfl | rfl | rfl | rfl | rfl | rfl | rfl | rfl | rfl | rfl | rfl | rfl | rfl | rfl | rfl | rfl | rfl | rfl | rfl | rfl | rfl | rfl | rfl | rfl | rfl | rfl | rfl | rfl | rfl | rfl | rfl | rfl | rfl | rfl | rfl | rfl | rfl | rfl
  · exact chk3
  · exact chk4
  · exact chk5
  · exact chk6
  · exact chk8
  · exact chk15
  · exact chk16
  · exact chk17
  · exact chk18
  · exact chk19
  · exact chk20
  · exact chk21
  · exact chk22
  · exact chk23
  · exact chk24
  · exact chk25
  · exact chk26
  · exact chk27
  · exact chk28
  · exact chk29
  · exact chk30
  · exact chk31
  · exact chk39
  · exact chk40
  · exact chk76
  · exact chk75
  · exact chk77
  · exact chk78
  · exact chk79
  · exact chk80
  · exact chk81
  · exact chk82
  · exact chk83
  · exact chk84
  · exact chk85
  · exact chk86
  · exact chk87
  · exact chk88
  · exact chk89
  · exact chk90
  · exact chk92
  · exact chk91
  · exact chk94
  · exact chk93
  · exact chk96
  · exact chk97
  · exact chk104
  · exact chk105
  · exact chk106
  · exact chk145
  · exact chk146
  · exact chk148
  · exact chk149
  · exact chk147
  · exact chk150
  · exact chk151
  · exact chk152
  · exact chk153
  · exact chk154
  · exact chk130
  · exact chk155
  · exact chk156
  · exact chk157
  · exact chk158
  · exact chk159
  · exact chk160
  · exact chk161
  · exact chk95
  · exact chk162
  · exact chk188
  · exact chk189
  · exact chk126
  · exact chk190
  · exact chk191
  · exact chk192
  · exact chk128
  · exact chk176
  · exact chk177
  · exact chk199
end Go.Proofs.Ytnnjpiepoeknnaa.PE
