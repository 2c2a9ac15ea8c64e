/- The compact code of the functions, and that it is the code of the machine. -/
import Derived.Test.YtnnjpiepoeknnaaPeX
import Derived.Test.YtnnjpiepoeknnaaProg
namespace Go.Proofs.Ytnnjpiepoeknnaa.PE
open Go.RowKit
set_option maxRecDepth 100000
/-- loop.example/tablehouse/laws.FnMayHold -/
def F3 : F := ⟨71, [(false, 2, 0, false)],
   .seq (.seg false [⟨some 2, none, .mov (.k (.bool false)), 0, 0, false, []⟩])
   (.seq (.seq (.seg false [⟨some 9, none, .mov (.t 0), 0, 0, false, []⟩,
    ⟨some 10, none, .len false (.t 9), 0, 0, false, []⟩,
    ⟨some 11, none, .bin .gtr (.t 10) (.k (.int .i64 1048576)), 0, 0, false, []⟩])
   (.cond (.t 11) (.seq (.seg false [⟨some 2, none, .mov (.k (.bool true)), 0, 0, false, []⟩])
   (.ret))
   (.skip)))
   (.cutTo [0] (.seq (.seg false [⟨some 13, none, .mov (.t 0), 0, 0, false, []⟩,
    ⟨some 14, none, .call 15 [.t 13] false false, 0, 0, false, []⟩,
    ⟨some 12, none, .mov (.t 14), 0, 0, false, []⟩,
    ⟨some 15, none, .ext (.t 12) 0, 0, 0, false, []⟩,
    ⟨some 16, none, .ext (.t 12) 1, 0, 0, false, []⟩,
    ⟨some 17, none, .ext (.t 12) 2, 0, 0, false, []⟩,
    ⟨some 3, none, .alloc [.int .i64 0, .int .i64 0, .int .i64 0, .int .i64 0, .str ⟨#[]⟩, .int .i64 0, .int .i64 0, .str ⟨#[]⟩], 0, 0, false, []⟩,
    ⟨some 5, none, .alloc [.int .i64 0, .int .i64 0, .str ⟨#[]⟩], 0, 0, false, []⟩,
    ⟨none, none, .store 8 (.t 3) (.t 15), 0, 0, false, []⟩,
    ⟨some 4, none, .mov (.t 16), 0, 0, false, []⟩,
    ⟨none, none, .store 3 (.t 5) (.t 17), 0, 0, false, []⟩])
   (.cutTo [3, 4, 5] (.seq (.seg false [⟨some 18, none, .load true 8 (.t 3), 0, 0, false, []⟩,
    ⟨some 19, none, .mov (.t 4), 0, 0, false, []⟩,
    ⟨some 20, none, .load true 3 (.t 5), 0, 0, false, []⟩,
    ⟨some 21, none, .call 16 [.t 18, .t 19, .t 20] false false, 0, 0, false, []⟩,
    ⟨some 6, none, .mov (.t 21), 0, 0, false, []⟩])
   (.cutTo [3, 4, 5, 6] (.seq (.seq (.seg false [⟨some 22, none, .mov (.t 6), 0, 0, false, []⟩,
    ⟨some 23, none, .load true 8 (.t 3), 0, 0, false, []⟩,
    ⟨some 24, none, .mov (.t 4), 0, 0, false, []⟩,
    ⟨some 25, none, .load true 3 (.t 5), 0, 0, false, []⟩,
    ⟨some 26, none, .call 17 [.t 23, .t 24, .t 25] false false, 0, 0, false, []⟩,
    ⟨some 27, none, .eqb true (.t 22) (.t 26), 0, 0, false, []⟩])
   (.cutTo [3, 4, 5, 6, 27] (.cond (.t 27) (.seq (.seg false [⟨some 2, none, .mov (.k (.bool false)), 0, 0, false, []⟩])
   (.ret))
   (.skip))))
   (.cutTo [3, 4, 5, 6] (.seq (.seg false [⟨some 28, none, .load true 8 (.t 3), 0, 0, false, []⟩,
    ⟨some 29, none, .load true 3 (.t 5), 0, 0, false, []⟩,
    ⟨some 30, none, .call 16 [.t 28, .k (.int .i64 1), .t 29] false false, 0, 0, false, []⟩,
    ⟨some 31, none, .mov (.t 30), 0, 0, false, []⟩,
    ⟨some 32, some (31, false), .load true 8 (.t 3), 0, 0, false, []⟩,
    ⟨some 33, some (31, false), .load true 3 (.t 5), 0, 0, false, []⟩,
    ⟨some 34, some (31, false), .call 16 [.t 32, .k (.int .i64 2), .t 33] false false, 0, 0, false, []⟩,
    ⟨some 35, none, .pick (.t 31) (.k (.bool true)) (.t 34), 0, 0, false, []⟩,
    ⟨some 7, none, .mov (.t 35), 0, 0, false, []⟩])
   (.cutTo [3, 4, 5, 6, 7] (.seq (.seg false [⟨some 36, none, .load true 8 (.t 3), 0, 0, false, []⟩,
    ⟨some 37, none, .call 18 [.t 36] false false, 0, 0, false, []⟩,
    ⟨some 38, none, .mov (.t 37), 0, 0, false, []⟩,
    ⟨some 39, some (38, true), .faddr 0 1 (.t 3), 0, 0, false, []⟩,
    ⟨some 40, some (38, true), .load false 1 (.t 39), 0, 0, false, []⟩,
    ⟨some 41, some (38, true), .bin .gtr (.t 40) (.k (.int .i64 0)), 0, 0, false, []⟩,
    ⟨some 42, none, .pick (.t 38) (.t 41) (.k (.bool false)), 0, 0, false, []⟩,
    ⟨some 43, none, .mov (.t 42), 0, 0, false, []⟩,
    ⟨some 44, some (43, true), .load true 3 (.t 5), 0, 0, false, []⟩,
    ⟨some 45, some (43, true), .call 19 [.t 44] false false, 0, 0, false, []⟩,
    ⟨some 46, none, .pick (.t 43) (.t 45) (.k (.bool false)), 0, 0, false, []⟩,
    ⟨some 47, none, .mov (.t 46), 0, 0, false, []⟩,
    ⟨some 48, some (47, true), .faddr 0 1 (.t 5), 0, 0, false, []⟩,
    ⟨some 49, some (47, true), .load false 1 (.t 48), 0, 0, false, []⟩,
    ⟨some 50, some (47, true), .faddr 2 3 (.t 3), 0, 0, false, []⟩,
    ⟨some 51, some (47, true), .faddr 0 1 (.t 50), 0, 0, false, []⟩,
    ⟨some 52, some (47, true), .load false 1 (.t 51), 0, 0, false, []⟩,
    ⟨some 53, some (47, true), .bin .eql (.t 49) (.t 52), 0, 0, false, []⟩,
    ⟨some 54, none, .pick (.t 47) (.t 53) (.k (.bool false)), 0, 0, false, []⟩,
    ⟨some 8, none, .mov (.t 54), 0, 0, false, []⟩])
   (.cutTo [3, 4, 5, 6, 7, 8] (.seq (.seg false [⟨some 55, none, .mov (.t 6), 0, 0, false, []⟩,
    ⟨some 56, none, .mov (.t 55), 0, 0, false, []⟩,
    ⟨some 57, some (56, false), .load true 8 (.t 3), 0, 0, false, []⟩,
    ⟨some 58, some (56, false), .mov (.t 4), 0, 0, false, []⟩,
    ⟨some 59, some (56, false), .load true 3 (.t 5), 0, 0, false, []⟩,
    ⟨some 60, some (56, false), .call 20 [.t 57, .t 58, .t 59] false false, 0, 0, false, []⟩,
    ⟨some 61, some (56, false), .un .not (.t 60), 0, 0, false, []⟩,
    ⟨some 62, none, .pick (.t 56) (.k (.bool true)) (.t 61), 0, 0, false, []⟩,
    ⟨some 63, none, .mov (.t 62), 0, 0, false, []⟩,
    ⟨some 64, some (63, true), .mov (.t 7), 0, 0, false, []⟩,
    ⟨some 65, some (63, true), .mov (.t 8), 0, 0, false, []⟩,
    ⟨some 66, some (63, true), .eqb false (.t 64) (.t 65), 0, 0, false, []⟩,
    ⟨some 67, none, .pick (.t 63) (.t 66) (.k (.bool false)), 0, 0, false, []⟩,
    ⟨some 68, none, .mov (.t 67), 0, 0, false, []⟩,
    ⟨some 69, some (68, true), .call 21 [] false false, 0, 0, false, []⟩,
    ⟨some 70, none, .pick (.t 68) (.t 69) (.k (.bool false)), 0, 0, false, []⟩,
    ⟨some 2, none, .mov (.t 70), 0, 0, false, []⟩])
   (.cutTo [2] (.ret)))))))))))))))⟩
/-- loop.example/tablehouse/laws.FnMustHold -/
def F4 : F := ⟨53, [(false, 2, 0, false)],
   .seq (.seg false [⟨some 2, none, .mov (.k (.bool false)), 0, 0, false, []⟩])
   (.seq (.seq (.seg false [⟨some 9, none, .mov (.t 0), 0, 0, false, []⟩,
    ⟨some 10, none, .len false (.t 9), 0, 0, false, []⟩,
    ⟨some 11, none, .bin .gtr (.t 10) (.k (.int .i64 1048576)), 0, 0, false, []⟩])
   (.cond (.t 11) (.seq (.seg false [⟨some 2, none, .mov (.k (.bool true)), 0, 0, false, []⟩])
   (.ret))
   (.skip)))
   (.cutTo [0] (.seq (.seg false [⟨some 13, none, .mov (.t 0), 0, 0, false, []⟩,
    ⟨some 14, none, .call 22 [.t 13] false false, 0, 0, false, []⟩,
    ⟨some 12, none, .mov (.t 14), 0, 0, false, []⟩,
    ⟨some 15, none, .ext (.t 12) 0, 0, 0, false, []⟩,
    ⟨some 16, none, .ext (.t 12) 1, 0, 0, false, []⟩,
    ⟨some 17, none, .ext (.t 12) 2, 0, 0, false, []⟩,
    ⟨some 3, none, .alloc [.int .i64 0, .int .i64 0, .int .i64 0, .int .i64 0, .str ⟨#[]⟩, .int .i64 0, .int .i64 0, .str ⟨#[]⟩], 0, 0, false, []⟩,
    ⟨some 5, none, .alloc [.int .i64 0, .int .i64 0, .str ⟨#[]⟩], 0, 0, false, []⟩,
    ⟨none, none, .store 8 (.t 3) (.t 15), 0, 0, false, []⟩,
    ⟨some 4, none, .mov (.t 16), 0, 0, false, []⟩,
    ⟨none, none, .store 3 (.t 5) (.t 17), 0, 0, false, []⟩])
   (.cutTo [3, 4, 5] (.seq (.seg false [⟨some 18, none, .load true 8 (.t 3), 0, 0, false, []⟩,
    ⟨some 19, none, .mov (.t 4), 0, 0, false, []⟩,
    ⟨some 20, none, .load true 3 (.t 5), 0, 0, false, []⟩,
    ⟨some 21, none, .call 20 [.t 18, .t 19, .t 20] false false, 0, 0, false, []⟩,
    ⟨some 6, none, .mov (.t 21), 0, 0, false, []⟩])
   (.cutTo [3, 4, 5, 6] (.seq (.seq (.seg false [⟨some 22, none, .mov (.t 6), 0, 0, false, []⟩,
    ⟨some 23, none, .load true 8 (.t 3), 0, 0, false, []⟩,
    ⟨some 24, none, .mov (.t 4), 0, 0, false, []⟩,
    ⟨some 25, none, .load true 3 (.t 5), 0, 0, false, []⟩,
    ⟨some 26, none, .call 23 [.t 23, .t 24, .t 25] false false, 0, 0, false, []⟩,
    ⟨some 27, none, .eqb true (.t 22) (.t 26), 0, 0, false, []⟩])
   (.cutTo [3, 5, 27] (.cond (.t 27) (.seq (.seg false [⟨some 2, none, .mov (.k (.bool false)), 0, 0, false, []⟩])
   (.ret))
   (.skip))))
   (.cutTo [3, 5] (.seq (.seg false [⟨some 28, none, .load true 8 (.t 3), 0, 0, false, []⟩,
    ⟨some 29, none, .load true 3 (.t 5), 0, 0, false, []⟩,
    ⟨some 30, none, .call 20 [.t 28, .k (.int .i64 1), .t 29] false false, 0, 0, false, []⟩,
    ⟨some 31, none, .mov (.t 30), 0, 0, false, []⟩,
    ⟨some 32, some (31, true), .load true 8 (.t 3), 0, 0, false, []⟩,
    ⟨some 33, some (31, true), .load true 3 (.t 5), 0, 0, false, []⟩,
    ⟨some 34, some (31, true), .call 16 [.t 32, .k (.int .i64 2), .t 33] false false, 0, 0, false, []⟩,
    ⟨some 35, none, .pick (.t 31) (.t 34) (.k (.bool false)), 0, 0, false, []⟩,
    ⟨some 7, none, .mov (.t 35), 0, 0, false, []⟩])
   (.cutTo [3, 5, 7] (.seq (.seg false [⟨some 36, none, .load true 8 (.t 3), 0, 0, false, []⟩,
    ⟨some 37, none, .load true 3 (.t 5), 0, 0, false, []⟩,
    ⟨some 38, none, .call 20 [.t 36, .k (.int .i64 2), .t 37] false false, 0, 0, false, []⟩,
    ⟨some 39, none, .mov (.t 38), 0, 0, false, []⟩,
    ⟨some 40, some (39, true), .load true 8 (.t 3), 0, 0, false, []⟩,
    ⟨some 41, some (39, true), .load true 3 (.t 5), 0, 0, false, []⟩,
    ⟨some 42, some (39, true), .call 16 [.t 40, .k (.int .i64 1), .t 41] false false, 0, 0, false, []⟩,
    ⟨some 43, none, .pick (.t 39) (.t 42) (.k (.bool false)), 0, 0, false, []⟩,
    ⟨some 8, none, .mov (.t 43), 0, 0, false, []⟩])
   (.cutTo [7, 8] (.seq (.seg false [⟨some 44, none, .mov (.t 7), 0, 0, false, []⟩,
    ⟨some 45, none, .un .not (.t 44), 0, 0, false, []⟩,
    ⟨some 46, none, .mov (.t 45), 0, 0, false, []⟩,
    ⟨some 47, some (46, true), .mov (.t 8), 0, 0, false, []⟩,
    ⟨some 48, some (46, true), .un .not (.t 47), 0, 0, false, []⟩,
    ⟨some 49, none, .pick (.t 46) (.t 48) (.k (.bool false)), 0, 0, false, []⟩,
    ⟨some 50, none, .mov (.t 49), 0, 0, false, []⟩,
    ⟨some 51, some (50, true), .call 21 [] false false, 0, 0, false, []⟩,
    ⟨some 52, none, .pick (.t 50) (.t 51) (.k (.bool false)), 0, 0, false, []⟩,
    ⟨some 2, none, .mov (.t 52), 0, 0, false, []⟩])
   (.cutTo [2] (.ret)))))))))))))))⟩
/-- loop.example/tablehouse/laws.FnManyBounds -/
def F5 : F := ⟨80, [(false, 2, 0, false)],
   .seq (.seg false [⟨some 2, none, .mov (.k (.bool false)), 0, 0, false, []⟩])
   (.seq (.seq (.seg false [⟨some 10, none, .mov (.t 0), 0, 0, false, []⟩,
    ⟨some 11, none, .len false (.t 10), 0, 0, false, []⟩,
    ⟨some 12, none, .bin .gtr (.t 11) (.k (.int .i64 1048576)), 0, 0, false, []⟩])
   (.cond (.t 12) (.seq (.seg false [⟨some 2, none, .mov (.k (.bool true)), 0, 0, false, []⟩])
   (.ret))
   (.skip)))
   (.cutTo [0] (.seq (.seg false [⟨some 14, none, .mov (.t 0), 0, 0, false, []⟩,
    ⟨some 15, none, .call 24 [.t 14] false false, 0, 0, false, []⟩,
    ⟨some 13, none, .mov (.t 15), 0, 0, false, []⟩,
    ⟨some 16, none, .ext (.t 13) 0, 0, 0, false, []⟩,
    ⟨some 17, none, .ext (.t 13) 1, 0, 0, false, []⟩,
    ⟨some 18, none, .ext (.t 13) 2, 0, 0, false, []⟩,
    ⟨some 3, none, .alloc [.int .i64 0, .int .i64 0, .int .i64 0, .int .i64 0, .str ⟨#[]⟩, .int .i64 0, .int .i64 0, .str ⟨#[]⟩], 0, 0, false, []⟩,
    ⟨some 5, none, .alloc [.int .i64 0, .int .i64 0, .str ⟨#[]⟩], 0, 0, false, []⟩,
    ⟨none, none, .store 8 (.t 3) (.t 16), 0, 0, false, []⟩,
    ⟨some 4, none, .mov (.t 17), 0, 0, false, []⟩,
    ⟨none, none, .store 3 (.t 5) (.t 18), 0, 0, false, []⟩])
   (.cutTo [3, 4, 5] (.seq (.seg false [⟨some 20, none, .load true 8 (.t 3), 0, 0, false, []⟩,
    ⟨some 21, none, .mov (.t 4), 0, 0, false, []⟩,
    ⟨some 22, none, .load true 3 (.t 5), 0, 0, false, []⟩,
    ⟨some 23, none, .call 25 [.t 20, .t 21, .t 22] false false, 0, 0, false, []⟩,
    ⟨some 19, none, .mov (.t 23), 0, 0, false, []⟩,
    ⟨some 24, none, .ext (.t 19) 0, 0, 0, false, []⟩,
    ⟨some 25, none, .ext (.t 19) 1, 0, 0, false, []⟩,
    ⟨some 6, none, .mov (.t 24), 0, 0, false, []⟩,
    ⟨some 7, none, .mov (.t 25), 0, 0, false, []⟩])
   (.cutTo [3, 4, 5, 6, 7] (.seq (.seg false [⟨some 27, none, .load true 8 (.t 3), 0, 0, false, []⟩,
    ⟨some 28, none, .mov (.t 4), 0, 0, false, []⟩,
    ⟨some 29, none, .load true 3 (.t 5), 0, 0, false, []⟩,
    ⟨some 30, none, .call 26 [.t 27, .t 28, .t 29] false false, 0, 0, false, []⟩,
    ⟨some 26, none, .mov (.t 30), 0, 0, false, []⟩,
    ⟨some 31, none, .ext (.t 26) 0, 0, 0, false, []⟩,
    ⟨some 32, none, .ext (.t 26) 1, 0, 0, false, []⟩,
    ⟨some 8, none, .mov (.t 31), 0, 0, false, []⟩,
    ⟨some 9, none, .mov (.t 32), 0, 0, false, []⟩])
   (.cutTo [3, 4, 5, 6, 7, 8, 9] (.seq (.seq (.seg false [⟨some 33, none, .mov (.t 6), 0, 0, false, []⟩,
    ⟨some 34, none, .mov (.t 8), 0, 0, false, []⟩,
    ⟨some 35, none, .bin .neq (.t 33) (.t 34), 0, 0, false, []⟩,
    ⟨some 36, none, .mov (.t 35), 0, 0, false, []⟩,
    ⟨some 37, some (36, false), .mov (.t 7), 0, 0, false, []⟩,
    ⟨some 38, some (36, false), .mov (.t 9), 0, 0, false, []⟩,
    ⟨some 39, some (36, false), .bin .neq (.t 37) (.t 38), 0, 0, false, []⟩,
    ⟨some 40, none, .pick (.t 36) (.k (.bool true)) (.t 39), 0, 0, false, []⟩])
   (.cutTo [3, 4, 5, 6, 7, 40] (.cond (.t 40) (.seq (.seg false [⟨some 2, none, .mov (.k (.bool false)), 0, 0, false, []⟩])
   (.ret))
   (.skip))))
   (.cutTo [3, 4, 5, 6, 7] (.seq (.seg false [⟨some 41, none, .mov (.t 6), 0, 0, false, []⟩,
    ⟨some 42, none, .bin .geq (.t 41) (.k (.int .i64 0)), 0, 0, false, []⟩,
    ⟨some 43, none, .mov (.t 42), 0, 0, false, []⟩,
    ⟨some 44, some (43, true), .mov (.t 6), 0, 0, false, []⟩,
    ⟨some 45, some (43, true), .mov (.t 7), 0, 0, false, []⟩,
    ⟨some 46, some (43, true), .bin .leq (.t 44) (.t 45), 0, 0, false, []⟩,
    ⟨some 47, none, .pick (.t 43) (.t 46) (.k (.bool false)), 0, 0, false, []⟩,
    ⟨some 48, none, .mov (.t 47), 0, 0, false, []⟩,
    ⟨some 49, some (48, true), .mov (.t 7), 0, 0, false, []⟩,
    ⟨some 50, some (48, true), .bin .eql (.t 49) (.k (.int .i64 0)), 0, 0, false, []⟩,
    ⟨some 51, some (48, true), .mov (.t 50), 0, 0, false, []⟩,
    ⟨some 52, some (51, false), .mov (.t 7), 0, 0, false, []⟩,
    ⟨some 53, some (51, false), .faddr 0 1 (.t 3), 0, 0, false, []⟩,
    ⟨some 54, some (51, false), .load false 1 (.t 53), 0, 0, false, []⟩,
    ⟨some 55, some (51, false), .bin .leq (.t 52) (.t 54), 0, 0, false, []⟩,
    ⟨some 56, some (51, false), .mov (.t 55), 0, 0, false, []⟩,
    ⟨some 57, some (56, true), .load true 8 (.t 3), 0, 0, false, []⟩,
    ⟨some 58, some (56, true), .mov (.t 4), 0, 0, false, []⟩,
    ⟨some 59, some (56, true), .load true 3 (.t 5), 0, 0, false, []⟩,
    ⟨some 60, some (56, true), .call 16 [.t 57, .t 58, .t 59] false false, 0, 0, false, []⟩,
    ⟨some 61, some (51, false), .pick (.t 56) (.t 60) (.k (.bool false)), 0, 0, false, []⟩,
    ⟨some 62, some (48, true), .pick (.t 51) (.k (.bool true)) (.t 61), 0, 0, false, []⟩,
    ⟨some 63, none, .pick (.t 48) (.t 62) (.k (.bool false)), 0, 0, false, []⟩,
    ⟨some 64, none, .mov (.t 63), 0, 0, false, []⟩,
    ⟨some 65, some (64, true), .load true 8 (.t 3), 0, 0, false, []⟩,
    ⟨some 66, some (64, true), .mov (.t 4), 0, 0, false, []⟩,
    ⟨some 67, some (64, true), .load true 3 (.t 5), 0, 0, false, []⟩,
    ⟨some 68, some (64, true), .call 20 [.t 65, .t 66, .t 67] false false, 0, 0, false, []⟩,
    ⟨some 69, some (64, true), .un .not (.t 68), 0, 0, false, []⟩,
    ⟨some 70, some (64, true), .mov (.t 69), 0, 0, false, []⟩,
    ⟨some 71, some (70, false), .mov (.t 6), 0, 0, false, []⟩,
    ⟨some 72, some (70, false), .faddr 0 1 (.t 3), 0, 0, false, []⟩,
    ⟨some 73, some (70, false), .load false 1 (.t 72), 0, 0, false, []⟩,
    ⟨some 74, some (70, false), .bin .eql (.t 71) (.t 73), 0, 0, false, []⟩,
    ⟨some 75, some (64, true), .pick (.t 70) (.k (.bool true)) (.t 74), 0, 0, false, []⟩,
    ⟨some 76, none, .pick (.t 64) (.t 75) (.k (.bool false)), 0, 0, false, []⟩,
    ⟨some 77, none, .mov (.t 76), 0, 0, false, []⟩,
    ⟨some 78, some (77, true), .call 21 [] false false, 0, 0, false, []⟩,
    ⟨some 79, none, .pick (.t 77) (.t 78) (.k (.bool false)), 0, 0, false, []⟩,
    ⟨some 2, none, .mov (.t 79), 0, 0, false, []⟩])
   (.cutTo [2] (.ret)))))))))))))⟩
def E6x0 : List I := [⟨some 23, none, .load true 8 (.t 6), 0, 0, false, []⟩,
    ⟨some 24, none, .mov (.t 3), 0, 0, false, []⟩,
    ⟨some 25, none, .mov (.t 4), 0, 0, false, []⟩,
    ⟨some 26, none, .mov (.t 5), 0, 0, false, []⟩,
    ⟨some 27, none, .call 29 [.t 24, .t 25, .t 26] false false, 0, 0, false, []⟩,
    ⟨some 28, none, .eqs true [.int, .int, .int, .int, .str, .int, .int, .str] (.t 23) (.t 27), 0, 0, false, []⟩,
    ⟨some 29, none, .mov (.t 28), 0, 0, false, []⟩,
    ⟨some 30, some (29, false), .load true 8 (.t 6), 0, 0, false, []⟩,
    ⟨some 31, some (29, false), .call 18 [.t 30] false false, 0, 0, false, []⟩,
    ⟨some 32, some (29, false), .un .not (.t 31), 0, 0, false, []⟩,
    ⟨some 33, none, .pick (.t 29) (.k (.bool true)) (.t 32), 0, 0, false, []⟩]
def D6x0 : List I := E6x0
theorem evD6x0 (run : Run) (e : Env) (h : Heap) : drawI run D6x0 e h = DrawS (evQ run E6x0 e h) run E6x0 e h := drawI_quiet run _ (by rfl) e h
def E6x1 : List I := [⟨some 53, none, .mov (.t 3), 0, 0, false, []⟩,
    ⟨some 54, none, .mov (.t 4), 0, 0, false, []⟩,
    ⟨some 55, none, .call 30 [.t 53, .t 54] false false, 0, 0, false, []⟩,
    ⟨some 56, none, .un .not (.t 55), 0, 0, false, []⟩,
    ⟨some 57, none, .mov (.t 56), 0, 0, false, []⟩,
    ⟨some 58, some (57, false), .load true 8 (.t 6), 0, 0, false, []⟩,
    ⟨some 59, some (57, false), .load true 8 (.t 8), 0, 0, false, []⟩,
    ⟨some 60, some (57, false), .load true 8 (.t 9), 0, 0, false, []⟩,
    ⟨some 61, some (57, false), .call 31 [.t 59, .t 60] false false, 0, 0, false, []⟩,
    ⟨some 62, some (57, false), .eqs false [.int, .int, .int, .int, .str, .int, .int, .str] (.t 58) (.t 61), 0, 0, false, []⟩,
    ⟨some 63, none, .pick (.t 57) (.k (.bool true)) (.t 62), 0, 0, false, []⟩,
    ⟨some 64, none, .mov (.t 63), 0, 0, false, []⟩,
    ⟨some 65, some (64, true), .call 21 [] false false, 0, 0, false, []⟩,
    ⟨some 66, none, .pick (.t 64) (.t 65) (.k (.bool false)), 0, 0, false, []⟩,
    ⟨some 2, none, .mov (.t 66), 0, 0, false, []⟩]
def D6x1 : List I := E6x1
theorem evD6x1 (run : Run) (e : Env) (h : Heap) : drawI run D6x1 e h = DrawS (evQ run E6x1 e h) run E6x1 e h := drawI_quiet run _ (by rfl) e h
/-- loop.example/tablehouse/laws.FnKnownColumn -/
def F6 : F := ⟨67, [(false, 2, 0, false)],
   .seq (.seg false [⟨some 2, none, .mov (.k (.bool false)), 0, 0, false, []⟩])
   (.seq (.seq (.seg false [⟨some 10, none, .mov (.t 0), 0, 0, false, []⟩,
    ⟨some 11, none, .len false (.t 10), 0, 0, false, []⟩,
    ⟨some 12, none, .bin .gtr (.t 11) (.k (.int .i64 1048576)), 0, 0, false, []⟩])
   (.cond (.t 12) (.seq (.seg false [⟨some 2, none, .mov (.k (.bool true)), 0, 0, false, []⟩])
   (.ret))
   (.skip)))
   (.cutTo [0] (.seq (.seg false [⟨some 14, none, .mov (.t 0), 0, 0, false, []⟩,
    ⟨some 15, none, .call 27 [.t 14] false false, 0, 0, false, []⟩,
    ⟨some 13, none, .mov (.t 15), 0, 0, false, []⟩,
    ⟨some 16, none, .ext (.t 13) 0, 0, 0, false, []⟩,
    ⟨some 17, none, .ext (.t 13) 1, 0, 0, false, []⟩,
    ⟨some 18, none, .ext (.t 13) 2, 0, 0, false, []⟩,
    ⟨some 3, none, .mov (.t 16), 0, 0, false, []⟩,
    ⟨some 4, none, .mov (.t 17), 0, 0, false, []⟩,
    ⟨some 5, none, .mov (.t 18), 0, 0, false, []⟩])
   (.cutTo [3, 4, 5] (.seq (.seg false [⟨some 19, none, .mov (.t 3), 0, 0, false, []⟩,
    ⟨some 20, none, .mov (.t 4), 0, 0, false, []⟩,
    ⟨some 21, none, .mov (.t 5), 0, 0, false, []⟩,
    ⟨some 22, none, .call 28 [.t 19, .t 20, .t 21] false false, 0, 0, false, []⟩,
    ⟨some 6, none, .alloc [.int .i64 0, .int .i64 0, .int .i64 0, .int .i64 0, .str ⟨#[]⟩, .int .i64 0, .int .i64 0, .str ⟨#[]⟩], 0, 0, false, []⟩,
    ⟨none, none, .store 8 (.t 6) (.t 22), 0, 0, false, []⟩])
   (.cutTo [3, 4, 5, 6] (.seq (.seq (.seg true D6x0)
   (.cutTo [3, 4, 5, 6, 33] (.cond (.t 33) (.seq (.seg false [⟨some 2, none, .mov (.k (.bool false)), 0, 0, false, []⟩])
   (.ret))
   (.skip))))
   (.cutTo [3, 4, 5, 6] (.seq (.seg false [⟨some 34, none, .mov (.t 4), 0, 0, false, []⟩,
    ⟨some 35, none, .len false (.t 34), 0, 0, false, []⟩,
    ⟨some 36, none, .bin .quo (.t 35) (.k (.int .i64 2)), 0, 0, false, []⟩,
    ⟨some 7, none, .mov (.t 36), 0, 0, false, []⟩])
   (.cutTo [3, 4, 5, 6, 7] (.seq (.seg false [⟨some 37, none, .mov (.t 3), 0, 0, false, []⟩,
    ⟨some 38, none, .mksl true 1 [], 0, 0, false, []⟩,
    ⟨some 39, none, .mov (.t 4), 0, 0, false, []⟩,
    ⟨some 40, none, .mov (.t 7), 0, 0, false, []⟩,
    ⟨some 41, none, .slc false 1 (.t 39) none (some (.t 40)) none, 0, 0, false, []⟩,
    ⟨some 42, none, .app 1 (.t 38) (.t 41), 0, 0, false, []⟩,
    ⟨some 43, none, .mov (.t 5), 0, 0, false, []⟩,
    ⟨some 44, none, .call 28 [.t 37, .t 42, .t 43] false false, 0, 0, false, []⟩,
    ⟨some 8, none, .alloc [.int .i64 0, .int .i64 0, .int .i64 0, .int .i64 0, .str ⟨#[]⟩, .int .i64 0, .int .i64 0, .str ⟨#[]⟩], 0, 0, false, []⟩,
    ⟨none, none, .store 8 (.t 8) (.t 44), 0, 0, false, []⟩])
   (.cutTo [3, 4, 5, 6, 7, 8] (.seq (.seg false [⟨some 45, none, .mov (.t 3), 0, 0, false, []⟩,
    ⟨some 46, none, .mksl true 1 [], 0, 0, false, []⟩,
    ⟨some 47, none, .mov (.t 4), 0, 0, false, []⟩,
    ⟨some 48, none, .mov (.t 7), 0, 0, false, []⟩,
    ⟨some 49, none, .slc false 1 (.t 47) (some (.t 48)) none none, 0, 0, false, []⟩,
    ⟨some 50, none, .app 1 (.t 46) (.t 49), 0, 0, false, []⟩,
    ⟨some 51, none, .mov (.t 5), 0, 0, false, []⟩,
    ⟨some 52, none, .call 28 [.t 45, .t 50, .t 51] false false, 0, 0, false, []⟩,
    ⟨some 9, none, .alloc [.int .i64 0, .int .i64 0, .int .i64 0, .int .i64 0, .str ⟨#[]⟩, .int .i64 0, .int .i64 0, .str ⟨#[]⟩], 0, 0, false, []⟩,
    ⟨none, none, .store 8 (.t 9) (.t 52), 0, 0, false, []⟩])
   (.cutTo [3, 4, 6, 8, 9] (.seq (.seg true D6x1)
   (.cutTo [2] (.ret)))))))))))))))))⟩
def E8x0 : List I := [⟨some 28, none, .load true 8 (.t 8), 0, 0, false, []⟩,
    ⟨some 29, none, .mov (.t 3), 0, 0, false, []⟩,
    ⟨some 30, none, .mov (.t 4), 0, 0, false, []⟩,
    ⟨some 31, none, .mov (.t 5), 0, 0, false, []⟩,
    ⟨some 32, none, .call 29 [.t 29, .t 30, .t 31] false false, 0, 0, false, []⟩,
    ⟨some 33, none, .eqs true [.int, .int, .int, .int, .str, .int, .int, .str] (.t 28) (.t 32), 0, 0, false, []⟩]
def D8x0 : List I := E8x0
theorem evD8x0 (run : Run) (e : Env) (h : Heap) : drawI run D8x0 e h = DrawS (evQ run E8x0 e h) run E8x0 e h := drawI_quiet run _ (by rfl) e h
def E8x1 : List I := [⟨some 40, none, .mov (.t 6), 0, 0, false, []⟩,
    ⟨some 41, none, .mov (.t 4), 0, 0, false, []⟩,
    ⟨some 42, none, .mov (.t 10), 0, 0, false, []⟩,
    ⟨some 43, none, .iaddr 1 (.t 41) (.t 42), 0, 0, false, []⟩,
    ⟨some 44, none, .load false 1 (.t 43), 0, 0, false, []⟩,
    ⟨some 45, none, .mov (.t 5), 0, 0, false, []⟩,
    ⟨some 46, none, .iaddr 3 (.t 44) (.t 45), 0, 0, false, []⟩,
    ⟨some 47, none, .load true 3 (.t 46), 0, 0, false, []⟩,
    ⟨some 48, none, .load true 3 (.t 7), 0, 0, false, []⟩,
    ⟨some 49, none, .call 40 [.t 40, .t 47, .t 48] false false, 0, 0, false, []⟩,
    ⟨some 50, none, .bin .eql (.t 49) (.k (.int .i64 1)), 0, 0, false, []⟩]
def D8x1 : List I := E8x1
theorem evD8x1 (run : Run) (e : Env) (h : Heap) : drawI run D8x1 e h = DrawS (evQ run E8x1 e h) run E8x1 e h := drawI_quiet run _ (by rfl) e h
def B8x0 : C := .seq (.seq (.seg false [⟨some 34, none, .mov (.t 10), 0, 0, false, []⟩,
    ⟨some 35, none, .mov (.t 4), 0, 0, false, []⟩,
    ⟨some 36, none, .len false (.t 35), 0, 0, false, []⟩,
    ⟨some 37, none, .bin .lss (.t 34) (.t 36), 0, 0, false, []⟩])
   (.cutTo [4, 5, 6, 7, 8, 9, 10, 37] (.cond (.t 37) (.skip)
   (.exit 0))))
   (.cutTo [4, 5, 6, 7, 8, 9, 10] (.seq (.block 1 (.seq (.seg true D8x1)
   (.cutTo [4, 5, 6, 7, 8, 9, 10, 50] (.cond (.t 50) (.seg false [⟨some 51, none, .mov (.t 9), 0, 0, false, []⟩,
    ⟨some 52, none, .bin .add (.t 51) (.k (.int .i64 1)), 0, 0, false, []⟩,
    ⟨some 9, none, .mov (.t 52), 0, 0, false, []⟩])
   (.skip)))))
   (.cutTo [4, 5, 6, 7, 8, 9, 10] (.seg false [⟨some 38, none, .mov (.t 10), 0, 0, false, []⟩,
    ⟨some 39, none, .bin .add (.t 38) (.k (.int .i64 1)), 0, 0, false, []⟩,
    ⟨some 10, none, .mov (.t 39), 0, 0, false, []⟩]))))
def L8x0 : C := B8x0
theorem evL8x0 (run : Run) (draw : List I → Env → Heap → Option (Env × Heap)) (e : Env) (h : Heap) : evC run draw L8x0 e h = evC run draw B8x0 e h := rfl
/-- loop.example/tablehouse/laws.FnSkipped -/
def F8 : F := ⟨71, [(false, 2, 0, false)],
   .seq (.seg false [⟨some 2, none, .mov (.k (.bool false)), 0, 0, false, []⟩])
   (.seq (.seq (.seg false [⟨some 13, none, .mov (.t 0), 0, 0, false, []⟩,
    ⟨some 14, none, .len false (.t 13), 0, 0, false, []⟩,
    ⟨some 15, none, .bin .gtr (.t 14) (.k (.int .i64 1048576)), 0, 0, false, []⟩])
   (.cond (.t 15) (.seq (.seg false [⟨some 2, none, .mov (.k (.bool true)), 0, 0, false, []⟩])
   (.ret))
   (.skip)))
   (.cutTo [0] (.seq (.seg false [⟨some 17, none, .mov (.t 0), 0, 0, false, []⟩,
    ⟨some 18, none, .call 39 [.t 17] false false, 0, 0, false, []⟩,
    ⟨some 16, none, .mov (.t 18), 0, 0, false, []⟩,
    ⟨some 19, none, .ext (.t 16) 0, 0, 0, false, []⟩,
    ⟨some 20, none, .ext (.t 16) 1, 0, 0, false, []⟩,
    ⟨some 21, none, .ext (.t 16) 2, 0, 0, false, []⟩,
    ⟨some 22, none, .ext (.t 16) 3, 0, 0, false, []⟩,
    ⟨some 23, none, .ext (.t 16) 4, 0, 0, false, []⟩,
    ⟨some 7, none, .alloc [.int .i64 0, .int .i64 0, .str ⟨#[]⟩], 0, 0, false, []⟩,
    ⟨some 3, none, .mov (.t 19), 0, 0, false, []⟩,
    ⟨some 4, none, .mov (.t 20), 0, 0, false, []⟩,
    ⟨some 5, none, .mov (.t 21), 0, 0, false, []⟩,
    ⟨some 6, none, .mov (.t 22), 0, 0, false, []⟩,
    ⟨none, none, .store 3 (.t 7) (.t 23), 0, 0, false, []⟩])
   (.cutTo [3, 4, 5, 6, 7] (.seq (.seg false [⟨some 24, none, .mov (.t 3), 0, 0, false, []⟩,
    ⟨some 25, none, .mov (.t 4), 0, 0, false, []⟩,
    ⟨some 26, none, .mov (.t 5), 0, 0, false, []⟩,
    ⟨some 27, none, .call 28 [.t 24, .t 25, .t 26] false false, 0, 0, false, []⟩,
    ⟨some 8, none, .alloc [.int .i64 0, .int .i64 0, .int .i64 0, .int .i64 0, .str ⟨#[]⟩, .int .i64 0, .int .i64 0, .str ⟨#[]⟩], 0, 0, false, []⟩,
    ⟨none, none, .store 8 (.t 8) (.t 27), 0, 0, false, []⟩])
   (.cutTo [3, 4, 5, 6, 7, 8] (.seq (.seq (.seg true D8x0)
   (.cutTo [4, 5, 6, 7, 8, 33] (.cond (.t 33) (.seq (.seg false [⟨some 2, none, .mov (.k (.bool false)), 0, 0, false, []⟩])
   (.ret))
   (.skip))))
   (.cutTo [4, 5, 6, 7, 8] (.seq (.seg false [⟨some 9, none, .mov (.k (.int .i64 0)), 0, 0, false, []⟩])
   (.seq (.seq (.seg false [⟨some 10, none, .mov (.k (.int .i64 0)), 0, 0, false, []⟩])
   (.block 0 (.loop [4, 5, 6, 7, 8, 9, 10] [6, 7, 8, 9] L8x0)))
   (.seq (.seg false [⟨some 54, none, .load true 8 (.t 8), 0, 0, false, []⟩,
    ⟨some 55, none, .mov (.t 6), 0, 0, false, []⟩,
    ⟨some 56, none, .load true 3 (.t 7), 0, 0, false, []⟩,
    ⟨some 57, none, .call 25 [.t 54, .t 55, .t 56] false false, 0, 0, false, []⟩,
    ⟨some 53, none, .mov (.t 57), 0, 0, false, []⟩,
    ⟨some 58, none, .ext (.t 53) 0, 0, 0, false, []⟩,
    ⟨some 59, none, .ext (.t 53) 1, 0, 0, false, []⟩,
    ⟨some 11, none, .mov (.t 58), 0, 0, false, []⟩,
    ⟨some 12, none, .mov (.t 59), 0, 0, false, []⟩])
   (.cutTo [9, 11, 12] (.seq (.seg false [⟨some 60, none, .mov (.t 11), 0, 0, false, []⟩,
    ⟨some 61, none, .mov (.t 9), 0, 0, false, []⟩,
    ⟨some 62, none, .bin .leq (.t 60) (.t 61), 0, 0, false, []⟩,
    ⟨some 63, none, .mov (.t 62), 0, 0, false, []⟩,
    ⟨some 64, some (63, true), .mov (.t 9), 0, 0, false, []⟩,
    ⟨some 65, some (63, true), .mov (.t 12), 0, 0, false, []⟩,
    ⟨some 66, some (63, true), .bin .leq (.t 64) (.t 65), 0, 0, false, []⟩,
    ⟨some 67, none, .pick (.t 63) (.t 66) (.k (.bool false)), 0, 0, false, []⟩,
    ⟨some 68, none, .mov (.t 67), 0, 0, false, []⟩,
    ⟨some 69, some (68, true), .call 21 [] false false, 0, 0, false, []⟩,
    ⟨some 70, none, .pick (.t 68) (.t 69) (.k (.bool false)), 0, 0, false, []⟩,
    ⟨some 2, none, .mov (.t 70), 0, 0, false, []⟩])
   (.cutTo [2] (.ret)))))))))))))))⟩
/-- loop.example/tablehouse/laws.FnExactKnownColumn -/
def F7 : F := ⟨50, [(false, 6, 0, false)],
   .seq (.seg false [⟨some 6, none, .mov (.k (.bool false)), 0, 0, false, []⟩])
   (.seq (.seg false [⟨some 7, none, .mov (.k (.int .i64 1048576)), 0, 0, false, []⟩])
   (.seq (.seg false [⟨some 12, none, .mov (.t 0), 0, 0, false, []⟩,
    ⟨some 13, none, .mov (.t 7), 0, 0, false, []⟩,
    ⟨some 14, none, .call 32 [.t 12, .t 13] false false, 0, 0, false, []⟩,
    ⟨some 7, none, .mov (.t 14), 0, 0, false, []⟩])
   (.cutTo [0, 1, 2, 7] (.seq (.seq (.seg false [⟨some 15, none, .mov (.t 7), 0, 0, false, []⟩,
    ⟨some 16, none, .bin .lss (.t 15) (.k (.int .i64 0)), 0, 0, false, []⟩])
   (.cond (.t 16) (.seq (.seg false [⟨some 6, none, .mov (.k (.bool true)), 0, 0, false, []⟩])
   (.ret))
   (.skip)))
   (.seq (.seg false [⟨some 17, none, .mov (.t 1), 0, 0, false, []⟩,
    ⟨some 18, none, .mov (.t 7), 0, 0, false, []⟩,
    ⟨some 19, none, .call 33 [.t 17, .t 18] false false, 0, 0, false, []⟩,
    ⟨some 7, none, .mov (.t 19), 0, 0, false, []⟩])
   (.cutTo [0, 1, 2, 7] (.seq (.seq (.seg false [⟨some 20, none, .mov (.t 7), 0, 0, false, []⟩,
    ⟨some 21, none, .bin .lss (.t 20) (.k (.int .i64 0)), 0, 0, false, []⟩])
   (.cond (.t 21) (.seq (.seg false [⟨some 6, none, .mov (.k (.bool true)), 0, 0, false, []⟩])
   (.ret))
   (.skip)))
   (.seq (.seg false [⟨some 22, none, .mov (.t 0), 0, 0, false, []⟩,
    ⟨some 23, none, .call 34 [.t 22] false false, 0, 0, false, []⟩,
    ⟨some 24, none, .mov (.t 1), 0, 0, false, []⟩,
    ⟨some 25, none, .call 35 [.t 24] false false, 0, 0, false, []⟩,
    ⟨some 26, none, .mov (.t 2), 0, 0, false, []⟩,
    ⟨some 27, none, .call 29 [.t 23, .t 25, .t 26] false false, 0, 0, false, []⟩,
    ⟨some 8, none, .alloc [.int .i64 0, .int .i64 0, .int .i64 0, .int .i64 0, .str ⟨#[]⟩, .int .i64 0, .int .i64 0, .str ⟨#[]⟩], 0, 0, false, []⟩,
    ⟨none, none, .store 8 (.t 8) (.t 27), 0, 0, false, []⟩])
   (.cutTo [0, 1, 2, 8] (.seq (.seg false [⟨some 28, none, .mov (.t 0), 0, 0, false, []⟩,
    ⟨some 29, none, .call 34 [.t 28] false false, 0, 0, false, []⟩,
    ⟨some 9, none, .mov (.t 29), 0, 0, false, []⟩])
   (.seq (.seg false [⟨some 30, none, .mov (.t 1), 0, 0, false, []⟩,
    ⟨some 31, none, .call 35 [.t 30] false false, 0, 0, false, []⟩,
    ⟨some 10, none, .mov (.t 31), 0, 0, false, []⟩])
   (.seq (.seg false [⟨some 32, none, .mov (.t 9), 0, 0, false, []⟩,
    ⟨some 33, none, .mov (.t 10), 0, 0, false, []⟩,
    ⟨some 34, none, .mov (.t 2), 0, 0, false, []⟩,
    ⟨some 35, none, .call 28 [.t 32, .t 33, .t 34] false false, 0, 0, false, []⟩,
    ⟨some 11, none, .alloc [.int .i64 0, .int .i64 0, .int .i64 0, .int .i64 0, .str ⟨#[]⟩, .int .i64 0, .int .i64 0, .str ⟨#[]⟩], 0, 0, false, []⟩,
    ⟨none, none, .store 8 (.t 11) (.t 35), 0, 0, false, []⟩])
   (.cutTo [0, 1, 8, 9, 10, 11] (.seq (.seq (.seg false [⟨some 36, none, .load true 8 (.t 11), 0, 0, false, []⟩,
    ⟨some 37, none, .load true 8 (.t 8), 0, 0, false, []⟩,
    ⟨some 38, none, .call 36 [.t 36, .t 37] false false, 0, 0, false, []⟩,
    ⟨some 39, none, .un .not (.t 38), 0, 0, false, []⟩])
   (.cutTo [0, 1, 9, 10, 39] (.cond (.t 39) (.seq (.seg false [⟨some 6, none, .mov (.k (.bool false)), 0, 0, false, []⟩])
   (.ret))
   (.skip))))
   (.cutTo [0, 1, 9, 10] (.seq (.seq (.seg false [⟨some 40, none, .mov (.t 9), 0, 0, false, []⟩,
    ⟨some 41, none, .mov (.t 0), 0, 0, false, []⟩,
    ⟨some 42, none, .call 34 [.t 41] false false, 0, 0, false, []⟩,
    ⟨some 43, none, .call 37 [.t 40, .t 42] false false, 0, 0, false, []⟩,
    ⟨some 44, none, .un .not (.t 43), 0, 0, false, []⟩])
   (.cutTo [1, 10, 44] (.cond (.t 44) (.seq (.seg false [⟨some 6, none, .mov (.k (.bool false)), 0, 0, false, []⟩])
   (.ret))
   (.skip))))
   (.cutTo [1, 10] (.seq (.seq (.seg false [⟨some 45, none, .mov (.t 10), 0, 0, false, []⟩,
    ⟨some 46, none, .mov (.t 1), 0, 0, false, []⟩,
    ⟨some 47, none, .call 35 [.t 46] false false, 0, 0, false, []⟩,
    ⟨some 48, none, .call 38 [.t 45, .t 47] false false, 0, 0, false, []⟩,
    ⟨some 49, none, .un .not (.t 48), 0, 0, false, []⟩])
   (.cutTo [49] (.cond (.t 49) (.seq (.seg false [⟨some 6, none, .mov (.k (.bool false)), 0, 0, false, []⟩])
   (.ret))
   (.skip))))
   (.cutTo [] (.seq (.seg false [⟨some 6, none, .mov (.k (.bool true)), 0, 0, false, []⟩])
   (.ret)))))))))))))))))))))⟩
def B9x0 : C := .seq (.seq (.seg false [⟨some 29, none, .mov (.t 7), 0, 0, false, []⟩,
    ⟨some 30, none, .bin .lss (.t 29) (.k (.int .i64 5)), 0, 0, false, []⟩])
   (.cond (.t 30) (.skip)
   (.exit 0)))
   (.seq (.block 1 (.seq (.seg false [⟨some 34, none, .mov (.t 3), 0, 0, false, []⟩,
    ⟨some 35, none, .mov (.t 7), 0, 0, false, []⟩,
    ⟨some 36, none, .mov (.t 4), 0, 0, false, []⟩,
    ⟨some 37, none, .call 45 [.t 34, .t 35, .t 36] false false, 0, 0, false, []⟩,
    ⟨some 33, none, .mov (.t 37), 0, 0, false, []⟩,
    ⟨some 38, none, .ext (.t 33) 0, 0, 0, false, []⟩,
    ⟨some 39, none, .ext (.t 33) 1, 0, 0, false, []⟩,
    ⟨some 8, none, .mov (.t 38), 0, 0, false, []⟩,
    ⟨some 9, none, .mov (.t 39), 0, 0, false, []⟩])
   (.cutTo [3, 4, 5, 6, 7, 9] (.seq (.seg false [⟨some 40, none, .mov (.t 9), 0, 0, false, []⟩])
   (.cond (.t 40) (.seg false [⟨some 41, none, .mov (.t 6), 0, 0, false, []⟩,
    ⟨some 42, none, .bin .add (.t 41) (.k (.int .i64 1)), 0, 0, false, []⟩,
    ⟨some 6, none, .mov (.t 42), 0, 0, false, []⟩])
   (.skip))))))
   (.cutTo [3, 4, 5, 6, 7] (.seg false [⟨some 31, none, .mov (.t 7), 0, 0, false, []⟩,
    ⟨some 32, none, .bin .add (.t 31) (.k (.int .i64 1)), 0, 0, false, []⟩,
    ⟨some 7, none, .mov (.t 32), 0, 0, false, []⟩])))
def L9x0 : C := B9x0
theorem evL9x0 (run : Run) (draw : List I → Env → Heap → Option (Env × Heap)) (e : Env) (h : Heap) : evC run draw L9x0 e h = evC run draw B9x0 e h := rfl
def B9x1 : C := .seq (.seq (.seg false [⟨some 43, none, .mov (.t 11), 0, 0, false, []⟩,
    ⟨some 44, none, .mov (.t 3), 0, 0, false, []⟩,
    ⟨some 45, none, .len false (.t 44), 0, 0, false, []⟩,
    ⟨some 46, none, .bin .lss (.t 43) (.t 45), 0, 0, false, []⟩])
   (.cutTo [3, 4, 5, 6, 10, 11, 46] (.cond (.t 46) (.skip)
   (.exit 2))))
   (.cutTo [3, 4, 5, 6, 10, 11] (.seq (.block 3 (.seg false [⟨some 49, none, .mov (.t 10), 0, 0, false, []⟩,
    ⟨some 50, none, .mov (.t 49), 0, 0, false, []⟩,
    ⟨some 51, some (50, false), .mov (.t 3), 0, 0, false, []⟩,
    ⟨some 52, some (50, false), .mov (.t 11), 0, 0, false, []⟩,
    ⟨some 53, some (50, false), .iaddr 4 (.t 51) (.t 52), 0, 0, false, []⟩,
    ⟨some 54, some (50, false), .faddr 1 1 (.t 53), 0, 0, false, []⟩,
    ⟨some 55, some (50, false), .load false 1 (.t 54), 0, 0, false, []⟩,
    ⟨some 56, some (50, false), .mov (.t 4), 0, 0, false, []⟩,
    ⟨some 57, some (50, false), .bin .add (.t 56) (.k (.int .i64 1)), 0, 0, false, []⟩,
    ⟨some 58, some (50, false), .bin .eql (.t 55) (.t 57), 0, 0, false, []⟩,
    ⟨some 59, none, .pick (.t 50) (.k (.bool true)) (.t 58), 0, 0, false, []⟩,
    ⟨some 60, none, .mov (.t 59), 0, 0, false, []⟩,
    ⟨some 61, some (60, false), .mov (.t 3), 0, 0, false, []⟩,
    ⟨some 62, some (60, false), .mov (.t 11), 0, 0, false, []⟩,
    ⟨some 63, some (60, false), .iaddr 4 (.t 61) (.t 62), 0, 0, false, []⟩,
    ⟨some 64, some (60, false), .faddr 2 1 (.t 63), 0, 0, false, []⟩,
    ⟨some 65, some (60, false), .load false 1 (.t 64), 0, 0, false, []⟩,
    ⟨some 66, some (60, false), .mov (.t 4), 0, 0, false, []⟩,
    ⟨some 67, some (60, false), .bin .add (.t 66) (.k (.int .i64 1)), 0, 0, false, []⟩,
    ⟨some 68, some (60, false), .bin .eql (.t 65) (.t 67), 0, 0, false, []⟩,
    ⟨some 69, none, .pick (.t 60) (.k (.bool true)) (.t 68), 0, 0, false, []⟩,
    ⟨some 10, none, .mov (.t 69), 0, 0, false, []⟩]))
   (.cutTo [3, 4, 5, 6, 10, 11] (.seg false [⟨some 47, none, .mov (.t 11), 0, 0, false, []⟩,
    ⟨some 48, none, .bin .add (.t 47) (.k (.int .i64 1)), 0, 0, false, []⟩,
    ⟨some 11, none, .mov (.t 48), 0, 0, false, []⟩]))))
def L9x1 : C := B9x1
theorem evL9x1 (run : Run) (draw : List I → Env → Heap → Option (Env × Heap)) (e : Env) (h : Heap) : evC run draw L9x1 e h = evC run draw B9x1 e h := rfl
/-- loop.example/tablehouse/laws.FnRowsAt -/
def F9 : F := ⟨88, [(false, 2, 0, false)],
   .seq (.seg false [⟨some 2, none, .mov (.k (.bool false)), 0, 0, false, []⟩])
   (.seq (.seq (.seg false [⟨some 12, none, .mov (.t 0), 0, 0, false, []⟩,
    ⟨some 13, none, .len false (.t 12), 0, 0, false, []⟩,
    ⟨some 14, none, .bin .gtr (.t 13) (.k (.int .i64 1048576)), 0, 0, false, []⟩])
   (.cond (.t 14) (.seq (.seg false [⟨some 2, none, .mov (.k (.bool true)), 0, 0, false, []⟩])
   (.ret))
   (.skip)))
   (.cutTo [0] (.seq (.seg false [⟨some 16, none, .mov (.t 0), 0, 0, false, []⟩,
    ⟨some 17, none, .call 41 [.t 16] false false, 0, 0, false, []⟩,
    ⟨some 15, none, .mov (.t 17), 0, 0, false, []⟩,
    ⟨some 18, none, .ext (.t 15) 0, 0, 0, false, []⟩,
    ⟨some 19, none, .ext (.t 15) 1, 0, 0, false, []⟩,
    ⟨some 3, none, .mov (.t 18), 0, 0, false, []⟩,
    ⟨some 4, none, .mov (.t 19), 0, 0, false, []⟩])
   (.cutTo [3, 4] (.seq (.seg false [⟨some 20, none, .mov (.t 3), 0, 0, false, []⟩,
    ⟨some 21, none, .mov (.t 4), 0, 0, false, []⟩,
    ⟨some 22, none, .call 42 [.t 20, .t 21] false false, 0, 0, false, []⟩,
    ⟨some 5, none, .mov (.t 22), 0, 0, false, []⟩])
   (.cutTo [3, 4, 5] (.seq (.seq (.seg false [⟨some 23, none, .mov (.t 5), 0, 0, false, []⟩,
    ⟨some 24, none, .mov (.t 3), 0, 0, false, []⟩,
    ⟨some 25, none, .mov (.t 4), 0, 0, false, []⟩,
    ⟨some 26, none, .call 44 [.t 24, .t 25] false false, 0, 0, false, []⟩,
    ⟨some 27, none, .call 43 [.t 23, .t 26] false false, 0, 0, false, []⟩,
    ⟨some 28, none, .un .not (.t 27), 0, 0, false, []⟩])
   (.cutTo [3, 4, 5, 28] (.cond (.t 28) (.seq (.seg false [⟨some 2, none, .mov (.k (.bool false)), 0, 0, false, []⟩])
   (.ret))
   (.skip))))
   (.cutTo [3, 4, 5] (.seq (.seg false [⟨some 6, none, .mov (.k (.int .i64 0)), 0, 0, false, []⟩])
   (.seq (.seq (.seg false [⟨some 7, none, .mov (.k (.int .i64 0)), 0, 0, false, []⟩])
   (.block 0 (.loop [3, 4, 5, 6, 7] [3, 4, 5, 6] L9x0)))
   (.seq (.seg false [⟨some 10, none, .mov (.k (.bool false)), 0, 0, false, []⟩])
   (.seq (.seq (.seg false [⟨some 11, none, .mov (.k (.int .i64 0)), 0, 0, false, []⟩])
   (.block 2 (.loop [3, 4, 5, 6, 10, 11] [3, 4, 5, 6, 10] L9x1)))
   (.seq (.seg false [⟨some 70, none, .mov (.t 5), 0, 0, false, []⟩,
    ⟨some 71, none, .len false (.t 70), 0, 0, false, []⟩,
    ⟨some 72, none, .mov (.t 6), 0, 0, false, []⟩,
    ⟨some 73, none, .bin .eql (.t 71) (.t 72), 0, 0, false, []⟩,
    ⟨some 74, none, .mov (.t 73), 0, 0, false, []⟩,
    ⟨some 75, some (74, true), .mov (.t 10), 0, 0, false, []⟩,
    ⟨some 76, some (74, true), .mov (.t 75), 0, 0, false, []⟩,
    ⟨some 77, some (76, false), .mov (.t 3), 0, 0, false, []⟩,
    ⟨some 78, some (76, false), .mov (.t 4), 0, 0, false, []⟩,
    ⟨some 79, some (76, false), .bin .add (.t 78) (.k (.int .i64 1)), 0, 0, false, []⟩,
    ⟨some 80, some (76, false), .call 42 [.t 77, .t 79] false false, 0, 0, false, []⟩,
    ⟨some 81, some (76, false), .mov (.t 5), 0, 0, false, []⟩,
    ⟨some 82, some (76, false), .call 43 [.t 80, .t 81] false false, 0, 0, false, []⟩,
    ⟨some 83, some (74, true), .pick (.t 76) (.k (.bool true)) (.t 82), 0, 0, false, []⟩,
    ⟨some 84, none, .pick (.t 74) (.t 83) (.k (.bool false)), 0, 0, false, []⟩,
    ⟨some 85, none, .mov (.t 84), 0, 0, false, []⟩,
    ⟨some 86, some (85, true), .call 21 [] false false, 0, 0, false, []⟩,
    ⟨some 87, none, .pick (.t 85) (.t 86) (.k (.bool false)), 0, 0, false, []⟩,
    ⟨some 2, none, .mov (.t 87), 0, 0, false, []⟩])
   (.cutTo [2] (.ret)))))))))))))))⟩
def B11x1 : C := .seq (.seq (.seg false [⟨some 39, none, .mov (.t 7), 0, 0, false, []⟩,
    ⟨some 40, none, .mov (.t 4), 0, 0, false, []⟩,
    ⟨some 41, none, .bin .add (.t 40) (.k (.int .i64 40)), 0, 0, false, []⟩,
    ⟨some 42, none, .bin .lss (.t 39) (.t 41), 0, 0, false, []⟩])
   (.cutTo [3, 4, 5, 6, 7, 42] (.cond (.t 42) (.skip)
   (.exit 2))))
   (.cutTo [3, 4, 5, 6, 7] (.seq (.block 3 (.seq (.seg false [⟨some 45, none, .mov (.t 3), 0, 0, false, []⟩,
    ⟨some 46, none, .mov (.t 5), 0, 0, false, []⟩,
    ⟨some 47, none, .mov (.t 6), 0, 0, false, []⟩,
    ⟨some 48, none, .mov (.t 7), 0, 0, false, []⟩,
    ⟨some 49, none, .call 60 [.t 45, .t 46, .t 47, .t 48] false false, 0, 0, false, []⟩,
    ⟨some 50, none, .un .not (.t 49), 0, 0, false, []⟩])
   (.cutTo [3, 4, 5, 6, 7, 50] (.cond (.t 50) (.seq (.seg false [⟨some 2, none, .mov (.k (.bool false)), 0, 0, false, []⟩])
   (.ret))
   (.skip)))))
   (.cutTo [3, 4, 5, 6, 7] (.seg false [⟨some 43, none, .mov (.t 7), 0, 0, false, []⟩,
    ⟨some 44, none, .bin .add (.t 43) (.k (.int .i64 1)), 0, 0, false, []⟩,
    ⟨some 7, none, .mov (.t 44), 0, 0, false, []⟩]))))
def L11x1 : C := B11x1
theorem evL11x1 (run : Run) (draw : List I → Env → Heap → Option (Env × Heap)) (e : Env) (h : Heap) : evC run draw L11x1 e h = evC run draw B11x1 e h := rfl
def B11x0 : C := .seq (.seq (.seg false [⟨some 34, none, .mov (.t 6), 0, 0, false, []⟩,
    ⟨some 35, none, .bin .lss (.t 34) (.k (.int .i64 5)), 0, 0, false, []⟩])
   (.cond (.t 35) (.skip)
   (.exit 0)))
   (.seq (.block 1 (.seq (.seg false [⟨some 38, none, .mov (.t 4), 0, 0, false, []⟩,
    ⟨some 7, none, .mov (.t 38), 0, 0, false, []⟩])
   (.block 2 (.loop [3, 4, 5, 6, 7] [2, 3, 4, 5, 6] L11x1))))
   (.seg false [⟨some 36, none, .mov (.t 6), 0, 0, false, []⟩,
    ⟨some 37, none, .bin .add (.t 36) (.k (.int .i64 1)), 0, 0, false, []⟩,
    ⟨some 6, none, .mov (.t 37), 0, 0, false, []⟩]))
def L11x0 : C := B11x0
theorem evL11x0 (run : Run) (draw : List I → Env → Heap → Option (Env × Heap)) (e : Env) (h : Heap) : evC run draw L11x0 e h = evC run draw B11x0 e h := rfl
/-- loop.example/tablehouse/laws.FnSweptAt -/
def F11 : F := ⟨63, [(false, 2, 0, false)],
   .seq (.seg false [⟨some 2, none, .mov (.k (.bool false)), 0, 0, false, []⟩])
   (.seq (.seq (.seg false [⟨some 8, none, .mov (.t 0), 0, 0, false, []⟩,
    ⟨some 9, none, .len false (.t 8), 0, 0, false, []⟩,
    ⟨some 10, none, .bin .gtr (.t 9) (.k (.int .i64 1048576)), 0, 0, false, []⟩])
   (.cond (.t 10) (.seq (.seg false [⟨some 2, none, .mov (.k (.bool true)), 0, 0, false, []⟩])
   (.ret))
   (.skip)))
   (.cutTo [0] (.seq (.seg false [⟨some 12, none, .mov (.t 0), 0, 0, false, []⟩,
    ⟨some 13, none, .call 55 [.t 12] false false, 0, 0, false, []⟩,
    ⟨some 11, none, .mov (.t 13), 0, 0, false, []⟩,
    ⟨some 14, none, .ext (.t 11) 0, 0, 0, false, []⟩,
    ⟨some 15, none, .ext (.t 11) 1, 0, 0, false, []⟩,
    ⟨some 3, none, .mov (.t 14), 0, 0, false, []⟩,
    ⟨some 4, none, .mov (.t 15), 0, 0, false, []⟩])
   (.cutTo [3, 4] (.seq (.seg false [⟨some 16, none, .mov (.t 3), 0, 0, false, []⟩,
    ⟨some 17, none, .mov (.t 4), 0, 0, false, []⟩,
    ⟨some 18, none, .call 56 [.t 16, .t 17] false false, 0, 0, false, []⟩,
    ⟨some 5, none, .mov (.t 18), 0, 0, false, []⟩])
   (.cutTo [3, 4, 5] (.seq (.seq (.seg false [⟨some 19, none, .mov (.t 5), 0, 0, false, []⟩,
    ⟨some 20, none, .mov (.t 3), 0, 0, false, []⟩,
    ⟨some 21, none, .mov (.t 4), 0, 0, false, []⟩,
    ⟨some 22, none, .call 58 [.t 20, .t 21] false false, 0, 0, false, []⟩,
    ⟨some 23, none, .call 57 [.t 19, .t 22] false false, 0, 0, false, []⟩,
    ⟨some 24, none, .un .not (.t 23), 0, 0, false, []⟩])
   (.cutTo [3, 4, 5, 24] (.cond (.t 24) (.seq (.seg false [⟨some 2, none, .mov (.k (.bool false)), 0, 0, false, []⟩])
   (.ret))
   (.skip))))
   (.cutTo [3, 4, 5] (.seq (.seq (.seg false [⟨some 25, none, .mov (.t 3), 0, 0, false, []⟩,
    ⟨some 26, none, .call 59 [.t 25] false false, 0, 0, false, []⟩,
    ⟨some 27, none, .un .not (.t 26), 0, 0, false, []⟩])
   (.cond (.t 27) (.seq (.seg false [⟨some 28, none, .mov (.t 5), 0, 0, false, []⟩,
    ⟨some 29, none, .len false (.t 28), 0, 0, false, []⟩,
    ⟨some 30, none, .bin .eql (.t 29) (.k (.int .i64 0)), 0, 0, false, []⟩,
    ⟨some 31, none, .mov (.t 30), 0, 0, false, []⟩,
    ⟨some 32, some (31, true), .call 21 [] false false, 0, 0, false, []⟩,
    ⟨some 33, none, .pick (.t 31) (.t 32) (.k (.bool false)), 0, 0, false, []⟩,
    ⟨some 2, none, .mov (.t 33), 0, 0, false, []⟩])
   (.cutTo [2] (.ret)))
   (.skip)))
   (.cutTo [3, 4, 5] (.seq (.seq (.seg false [⟨some 6, none, .mov (.k (.int .i64 0)), 0, 0, false, []⟩])
   (.block 0 (.loop [3, 4, 5, 6] [2, 4, 5] L11x0)))
   (.seq (.seg false [⟨some 51, none, .mov (.t 5), 0, 0, false, []⟩,
    ⟨some 52, none, .call 59 [.t 51] false false, 0, 0, false, []⟩,
    ⟨some 53, none, .mov (.t 52), 0, 0, false, []⟩,
    ⟨some 54, some (53, true), .mov (.t 5), 0, 0, false, []⟩,
    ⟨some 55, some (53, true), .mov (.t 4), 0, 0, false, []⟩,
    ⟨some 56, some (53, true), .call 56 [.t 54, .t 55] false false, 0, 0, false, []⟩,
    ⟨some 57, some (53, true), .mov (.t 5), 0, 0, false, []⟩,
    ⟨some 58, some (53, true), .call 57 [.t 56, .t 57] false false, 0, 0, false, []⟩,
    ⟨some 59, none, .pick (.t 53) (.t 58) (.k (.bool false)), 0, 0, false, []⟩,
    ⟨some 60, none, .mov (.t 59), 0, 0, false, []⟩,
    ⟨some 61, some (60, true), .call 21 [] false false, 0, 0, false, []⟩,
    ⟨some 62, none, .pick (.t 60) (.t 61) (.k (.bool false)), 0, 0, false, []⟩,
    ⟨some 2, none, .mov (.t 62), 0, 0, false, []⟩])
   (.cutTo [2] (.ret))))))))))))))⟩
def E12x0 : List I := [⟨some 42, none, .mov (.t 7), 0, 0, false, []⟩,
    ⟨some 43, none, .un .not (.t 42), 0, 0, false, []⟩,
    ⟨some 44, none, .mov (.t 43), 0, 0, false, []⟩,
    ⟨some 45, some (44, false), .faddr 1 1 (.t 6), 0, 0, false, []⟩,
    ⟨some 46, some (44, false), .load false 1 (.t 45), 0, 0, false, []⟩,
    ⟨some 47, some (44, false), .mov (.t 4), 0, 0, false, []⟩,
    ⟨some 48, some (44, false), .mov (.t 5), 0, 0, false, []⟩,
    ⟨some 49, some (44, false), .call 42 [.t 47, .t 48] false false, 0, 0, false, []⟩,
    ⟨some 50, some (44, false), .call 43 [.t 46, .t 49] false false, 0, 0, false, []⟩,
    ⟨some 51, some (44, false), .mov (.t 50), 0, 0, false, []⟩,
    ⟨some 52, some (51, true), .load true 2 (.t 6), 0, 0, false, []⟩,
    ⟨some 53, some (51, true), .mksl false 2 [.t 52], 0, 0, false, []⟩,
    ⟨some 54, some (51, true), .call 65 [.t 53] false false, 0, 0, false, []⟩,
    ⟨some 55, some (44, false), .pick (.t 51) (.t 54) (.k (.bool false)), 0, 0, false, []⟩,
    ⟨some 56, none, .pick (.t 44) (.k (.bool true)) (.t 55), 0, 0, false, []⟩,
    ⟨some 57, none, .mov (.t 56), 0, 0, false, []⟩,
    ⟨some 58, some (57, true), .call 21 [] false false, 0, 0, false, []⟩,
    ⟨some 59, none, .pick (.t 57) (.t 58) (.k (.bool false)), 0, 0, false, []⟩,
    ⟨some 2, none, .mov (.t 59), 0, 0, false, []⟩]
def D12x0 : List I := E12x0
theorem evD12x0 (run : Run) (e : Env) (h : Heap) : drawI run D12x0 e h = DrawS (evQ run E12x0 e h) run E12x0 e h := drawI_quiet run _ (by rfl) e h
/-- loop.example/tablehouse/laws.FnTableAt -/
def F12 : F := ⟨60, [(false, 2, 0, false)],
   .seq (.seg false [⟨some 2, none, .mov (.k (.bool false)), 0, 0, false, []⟩])
   (.seq (.seq (.seg false [⟨some 10, none, .mov (.t 0), 0, 0, false, []⟩,
    ⟨some 11, none, .len false (.t 10), 0, 0, false, []⟩,
    ⟨some 12, none, .bin .gtr (.t 11) (.k (.int .i64 1048576)), 0, 0, false, []⟩])
   (.cond (.t 12) (.seq (.seg false [⟨some 2, none, .mov (.k (.bool true)), 0, 0, false, []⟩])
   (.ret))
   (.skip)))
   (.cutTo [0] (.seq (.seg false [⟨some 14, none, .mov (.t 0), 0, 0, false, []⟩,
    ⟨some 15, none, .call 61 [.t 14] false false, 0, 0, false, []⟩,
    ⟨some 13, none, .mov (.t 15), 0, 0, false, []⟩,
    ⟨some 16, none, .ext (.t 13) 0, 0, 0, false, []⟩,
    ⟨some 17, none, .ext (.t 13) 1, 0, 0, false, []⟩,
    ⟨some 18, none, .ext (.t 13) 2, 0, 0, false, []⟩,
    ⟨some 3, none, .mov (.t 16), 0, 0, false, []⟩,
    ⟨some 4, none, .mov (.t 17), 0, 0, false, []⟩,
    ⟨some 5, none, .mov (.t 18), 0, 0, false, []⟩])
   (.cutTo [3, 4, 5] (.seq (.seg false [⟨some 20, none, .mov (.t 3), 0, 0, false, []⟩,
    ⟨some 21, none, .mov (.t 4), 0, 0, false, []⟩,
    ⟨some 22, none, .mov (.t 5), 0, 0, false, []⟩,
    ⟨some 23, none, .call 62 [.t 20, .t 21, .t 22] false false, 0, 0, false, []⟩,
    ⟨some 19, none, .mov (.t 23), 0, 0, false, []⟩,
    ⟨some 24, none, .ext (.t 19) 0, 0, 0, false, []⟩,
    ⟨some 25, none, .ext (.t 19) 1, 0, 0, false, []⟩,
    ⟨some 6, none, .alloc [.sl true 2 [], .sl true 1 []], 0, 0, false, []⟩,
    ⟨none, none, .store 2 (.t 6) (.t 24), 0, 0, false, []⟩,
    ⟨some 7, none, .mov (.t 25), 0, 0, false, []⟩])
   (.cutTo [3, 4, 5, 6, 7] (.seq (.seg false [⟨some 27, none, .mov (.t 3), 0, 0, false, []⟩,
    ⟨some 28, none, .mov (.t 4), 0, 0, false, []⟩,
    ⟨some 29, none, .mov (.t 5), 0, 0, false, []⟩,
    ⟨some 30, none, .call 63 [.t 27, .t 28, .t 29] false false, 0, 0, false, []⟩,
    ⟨some 26, none, .mov (.t 30), 0, 0, false, []⟩,
    ⟨some 31, none, .ext (.t 26) 0, 0, 0, false, []⟩,
    ⟨some 32, none, .ext (.t 26) 1, 0, 0, false, []⟩,
    ⟨some 8, none, .alloc [.sl true 2 [], .sl true 1 []], 0, 0, false, []⟩,
    ⟨none, none, .store 2 (.t 8) (.t 31), 0, 0, false, []⟩,
    ⟨some 9, none, .mov (.t 32), 0, 0, false, []⟩])
   (.cutTo [4, 5, 6, 7, 8, 9] (.seq (.seq (.seg false [⟨some 33, none, .mov (.t 7), 0, 0, false, []⟩,
    ⟨some 34, none, .mov (.t 9), 0, 0, false, []⟩,
    ⟨some 35, none, .eqb true (.t 33) (.t 34), 0, 0, false, []⟩,
    ⟨some 36, none, .mov (.t 35), 0, 0, false, []⟩,
    ⟨some 37, some (36, false), .load true 2 (.t 6), 0, 0, false, []⟩,
    ⟨some 38, some (36, false), .load true 2 (.t 8), 0, 0, false, []⟩,
    ⟨some 39, some (36, false), .call 64 [.t 37, .t 38] false false, 0, 0, false, []⟩,
    ⟨some 40, some (36, false), .un .not (.t 39), 0, 0, false, []⟩,
    ⟨some 41, none, .pick (.t 36) (.k (.bool true)) (.t 40), 0, 0, false, []⟩])
   (.cutTo [4, 5, 6, 7, 41] (.cond (.t 41) (.seq (.seg false [⟨some 2, none, .mov (.k (.bool false)), 0, 0, false, []⟩])
   (.ret))
   (.skip))))
   (.cutTo [4, 5, 6, 7] (.seq (.seg true D12x0)
   (.cutTo [2] (.ret)))))))))))))⟩
def E14x0 : List I := [⟨some 72, none, .mov (.t 9), 0, 0, false, []⟩,
    ⟨some 73, none, .mov (.t 11), 0, 0, false, []⟩,
    ⟨some 74, none, .iaddr 2 (.t 72) (.t 73), 0, 0, false, []⟩,
    ⟨some 75, none, .faddr 1 1 (.t 74), 0, 0, false, []⟩,
    ⟨some 76, none, .load false 1 (.t 75), 0, 0, false, []⟩,
    ⟨some 77, none, .mov (.t 3), 0, 0, false, []⟩,
    ⟨some 78, none, .mov (.t 11), 0, 0, false, []⟩,
    ⟨some 79, none, .iaddr 2 (.t 77) (.t 78), 0, 0, false, []⟩,
    ⟨some 80, none, .faddr 1 1 (.t 79), 0, 0, false, []⟩,
    ⟨some 81, none, .load false 1 (.t 80), 0, 0, false, []⟩,
    ⟨some 82, none, .call 74 [.t 76, .t 81] false false, 0, 0, false, []⟩,
    ⟨some 83, none, .un .not (.t 82), 0, 0, false, []⟩]
def D14x0 : List I := E14x0
theorem evD14x0 (run : Run) (e : Env) (h : Heap) : drawI run D14x0 e h = DrawS (evQ run E14x0 e h) run E14x0 e h := drawI_quiet run _ (by rfl) e h
def B14x0 : C := .seq (.seq (.seg false [⟨some 66, none, .mov (.t 11), 0, 0, false, []⟩,
    ⟨some 67, none, .mov (.t 3), 0, 0, false, []⟩,
    ⟨some 68, none, .len false (.t 67), 0, 0, false, []⟩,
    ⟨some 69, none, .bin .lss (.t 66) (.t 68), 0, 0, false, []⟩])
   (.cutTo [3, 5, 9, 11, 69] (.cond (.t 69) (.skip)
   (.exit 0))))
   (.cutTo [3, 5, 9, 11] (.seq (.block 1 (.seq (.seg true D14x0)
   (.cutTo [3, 5, 9, 11, 83] (.cond (.t 83) (.seq (.seg false [⟨some 2, none, .mov (.k (.bool false)), 0, 0, false, []⟩])
   (.ret))
   (.skip)))))
   (.cutTo [3, 5, 9, 11] (.seg false [⟨some 70, none, .mov (.t 11), 0, 0, false, []⟩,
    ⟨some 71, none, .bin .add (.t 70) (.k (.int .i64 1)), 0, 0, false, []⟩,
    ⟨some 11, none, .mov (.t 71), 0, 0, false, []⟩]))))
def L14x0 : C := B14x0
theorem evL14x0 (run : Run) (draw : List I → Env → Heap → Option (Env × Heap)) (e : Env) (h : Heap) : evC run draw L14x0 e h = evC run draw B14x0 e h := rfl
/-- loop.example/tablehouse/laws.FnTablesAfter -/
def F14 : F := ⟨86, [(false, 2, 0, false)],
   .seq (.seg false [⟨some 2, none, .mov (.k (.bool false)), 0, 0, false, []⟩])
   (.seq (.seq (.seg false [⟨some 12, none, .mov (.t 0), 0, 0, false, []⟩,
    ⟨some 13, none, .len false (.t 12), 0, 0, false, []⟩,
    ⟨some 14, none, .bin .gtr (.t 13) (.k (.int .i64 1048576)), 0, 0, false, []⟩])
   (.cond (.t 14) (.seq (.seg false [⟨some 2, none, .mov (.k (.bool true)), 0, 0, false, []⟩])
   (.ret))
   (.skip)))
   (.cutTo [0] (.seq (.seg false [⟨some 16, none, .mov (.t 0), 0, 0, false, []⟩,
    ⟨some 17, none, .call 70 [.t 16] false false, 0, 0, false, []⟩,
    ⟨some 15, none, .mov (.t 17), 0, 0, false, []⟩,
    ⟨some 18, none, .ext (.t 15) 0, 0, 0, false, []⟩,
    ⟨some 19, none, .ext (.t 15) 1, 0, 0, false, []⟩,
    ⟨some 4, none, .alloc [.int .i64 0, .sl true 3 [], .bool false], 0, 0, false, []⟩,
    ⟨some 3, none, .mov (.t 18), 0, 0, false, []⟩,
    ⟨none, none, .store 3 (.t 4) (.t 19), 0, 0, false, []⟩])
   (.cutTo [3, 4] (.seq (.seg false [⟨some 21, none, .mov (.t 3), 0, 0, false, []⟩,
    ⟨some 22, none, .load true 3 (.t 4), 0, 0, false, []⟩,
    ⟨some 23, none, .call 71 [.t 21, .t 22] false false, 0, 0, false, []⟩,
    ⟨some 20, none, .mov (.t 23), 0, 0, false, []⟩,
    ⟨some 24, none, .ext (.t 20) 0, 0, 0, false, []⟩,
    ⟨some 25, none, .ext (.t 20) 1, 0, 0, false, []⟩,
    ⟨some 5, none, .mov (.t 24), 0, 0, false, []⟩,
    ⟨some 6, none, .mov (.t 25), 0, 0, false, []⟩])
   (.cutTo [3, 4, 5, 6] (.seq (.seg false [⟨some 27, none, .mov (.t 3), 0, 0, false, []⟩,
    ⟨some 28, none, .load true 3 (.t 4), 0, 0, false, []⟩,
    ⟨some 29, none, .call 72 [.t 27, .t 28] false false, 0, 0, false, []⟩,
    ⟨some 26, none, .mov (.t 29), 0, 0, false, []⟩,
    ⟨some 30, none, .ext (.t 26) 0, 0, 0, false, []⟩,
    ⟨some 31, none, .ext (.t 26) 1, 0, 0, false, []⟩,
    ⟨some 7, none, .mov (.t 30), 0, 0, false, []⟩,
    ⟨some 8, none, .mov (.t 31), 0, 0, false, []⟩])
   (.cutTo [3, 4, 5, 6, 7, 8] (.seq (.seq (.seg false [⟨some 32, none, .mov (.t 6), 0, 0, false, []⟩,
    ⟨some 33, none, .mov (.t 8), 0, 0, false, []⟩,
    ⟨some 34, none, .eqb true (.t 32) (.t 33), 0, 0, false, []⟩,
    ⟨some 35, none, .mov (.t 34), 0, 0, false, []⟩,
    ⟨some 36, some (35, false), .mov (.t 5), 0, 0, false, []⟩,
    ⟨some 37, some (35, false), .mov (.t 7), 0, 0, false, []⟩,
    ⟨some 38, some (35, false), .call 73 [.t 36, .t 37] false false, 0, 0, false, []⟩,
    ⟨some 39, some (35, false), .un .not (.t 38), 0, 0, false, []⟩,
    ⟨some 40, none, .pick (.t 35) (.k (.bool true)) (.t 39), 0, 0, false, []⟩])
   (.cutTo [3, 4, 5, 6, 40] (.cond (.t 40) (.seq (.seg false [⟨some 2, none, .mov (.k (.bool false)), 0, 0, false, []⟩])
   (.ret))
   (.skip))))
   (.cutTo [3, 4, 5, 6] (.seq (.seq (.seg false [⟨some 41, none, .mov (.t 6), 0, 0, false, []⟩,
    ⟨some 42, none, .un .not (.t 41), 0, 0, false, []⟩])
   (.cond (.t 42) (.seq (.seg false [⟨some 43, none, .call 21 [] false false, 0, 0, false, []⟩,
    ⟨some 2, none, .mov (.t 43), 0, 0, false, []⟩])
   (.ret))
   (.skip)))
   (.cutTo [3, 4, 5] (.seq (.seg false [⟨some 45, none, .mov (.t 5), 0, 0, false, []⟩,
    ⟨some 46, none, .faddr 0 1 (.t 4), 0, 0, false, []⟩,
    ⟨some 47, none, .load false 1 (.t 46), 0, 0, false, []⟩,
    ⟨some 48, none, .faddr 1 1 (.t 4), 0, 0, false, []⟩,
    ⟨some 49, none, .load false 1 (.t 48), 0, 0, false, []⟩,
    ⟨some 50, none, .faddr 2 1 (.t 4), 0, 0, false, []⟩,
    ⟨some 51, none, .load false 1 (.t 50), 0, 0, false, []⟩,
    ⟨some 52, none, .un .not (.t 51), 0, 0, false, []⟩,
    ⟨some 53, none, .build [.int .i64 0, .sl true 3 [], .bool false] [(0, 1, .t 47), (1, 1, .t 49), (2, 1, .t 52)], 0, 0, false, []⟩,
    ⟨some 54, none, .call 71 [.t 45, .t 53] false false, 0, 0, false, []⟩,
    ⟨some 44, none, .mov (.t 54), 0, 0, false, []⟩,
    ⟨some 55, none, .ext (.t 44) 0, 0, 0, false, []⟩,
    ⟨some 56, none, .ext (.t 44) 1, 0, 0, false, []⟩,
    ⟨some 9, none, .mov (.t 55), 0, 0, false, []⟩,
    ⟨some 10, none, .mov (.t 56), 0, 0, false, []⟩])
   (.cutTo [3, 5, 9, 10] (.seq (.seq (.seg false [⟨some 57, none, .mov (.t 10), 0, 0, false, []⟩,
    ⟨some 58, none, .un .not (.t 57), 0, 0, false, []⟩,
    ⟨some 59, none, .mov (.t 58), 0, 0, false, []⟩,
    ⟨some 60, some (59, false), .mov (.t 9), 0, 0, false, []⟩,
    ⟨some 61, some (59, false), .len false (.t 60), 0, 0, false, []⟩,
    ⟨some 62, some (59, false), .mov (.t 3), 0, 0, false, []⟩,
    ⟨some 63, some (59, false), .len false (.t 62), 0, 0, false, []⟩,
    ⟨some 64, some (59, false), .bin .neq (.t 61) (.t 63), 0, 0, false, []⟩,
    ⟨some 65, none, .pick (.t 59) (.k (.bool true)) (.t 64), 0, 0, false, []⟩])
   (.cutTo [3, 5, 9, 65] (.cond (.t 65) (.seq (.seg false [⟨some 2, none, .mov (.k (.bool false)), 0, 0, false, []⟩])
   (.ret))
   (.skip))))
   (.cutTo [3, 5, 9] (.seq (.seq (.seg false [⟨some 11, none, .mov (.k (.int .i64 0)), 0, 0, false, []⟩])
   (.block 0 (.loop [3, 5, 9, 11] [2, 5] L14x0)))
   (.seq (.seg false [⟨some 84, none, .mov (.t 5), 0, 0, false, []⟩,
    ⟨some 85, none, .call 65 [.t 84] false false, 0, 0, false, []⟩,
    ⟨some 2, none, .mov (.t 85), 0, 0, false, []⟩])
   (.ret)))))))))))))))))))⟩
/-- loop.example/tablehouse/spec.DrawMayHold -/
def F15 : F := ⟨11, [(true, 2, 8, true), (false, 3, 0, false), (true, 4, 3, true)],
   .seq (.seg false [⟨some 2, none, .alloc [.int .i64 0, .int .i64 0, .int .i64 0, .int .i64 0, .str ⟨#[]⟩, .int .i64 0, .int .i64 0, .str ⟨#[]⟩], 0, 0, false, []⟩,
    ⟨some 3, none, .mov (.k (.int .i64 0)), 0, 0, false, []⟩,
    ⟨some 4, none, .alloc [.int .i64 0, .int .i64 0, .str ⟨#[]⟩], 0, 0, false, []⟩])
   (.seq (.seg false [⟨some 5, none, .mov (.t 0), 0, 0, false, []⟩,
    ⟨some 6, none, .call 76 [.t 5] true true, 0, 0, false, []⟩,
    ⟨some 7, none, .call 75 [.t 6] true false, 0, 0, false, []⟩,
    ⟨some 8, none, .ext (.t 7) 0, 0, 0, false, []⟩,
    ⟨some 9, none, .ext (.t 7) 1, 0, 0, false, []⟩,
    ⟨some 10, none, .ext (.t 7) 2, 0, 0, false, []⟩,
    ⟨none, none, .store 8 (.t 2) (.t 8), 0, 0, false, []⟩,
    ⟨some 3, none, .mov (.t 9), 0, 0, false, []⟩,
    ⟨none, none, .store 3 (.t 4) (.t 10), 0, 0, false, []⟩])
   (.cutTo [2, 3, 4] (.ret)))⟩
def E16x0 : List I := [⟨some 14, none, .faddr 2 3 (.t 3), 0, 0, false, []⟩,
    ⟨some 15, none, .load true 3 (.t 14), 0, 0, false, []⟩,
    ⟨some 16, none, .load true 3 (.t 5), 0, 0, false, []⟩,
    ⟨some 17, none, .call 78 [.t 15, .t 16] false false, 0, 0, false, []⟩,
    ⟨some 18, none, .faddr 5 3 (.t 3), 0, 0, false, []⟩,
    ⟨some 19, none, .load true 3 (.t 18), 0, 0, false, []⟩,
    ⟨some 20, none, .load true 3 (.t 5), 0, 0, false, []⟩,
    ⟨some 21, none, .call 78 [.t 19, .t 20] false false, 0, 0, false, []⟩,
    ⟨some 7, none, .mov (.t 17), 0, 0, false, []⟩,
    ⟨some 8, none, .mov (.t 21), 0, 0, false, []⟩]
def D16x0 : List I := E16x0
theorem evD16x0 (run : Run) (e : Env) (h : Heap) : drawI run D16x0 e h = DrawS (evQ run E16x0 e h) run E16x0 e h := drawI_quiet run _ (by rfl) e h
/-- loop.example/tablehouse/impl.MayHold -/
def F16 : F := ⟨45, [(false, 6, 0, false)],
   .seq (.seg false [⟨some 3, none, .box (.t 0), 0, 0, false, []⟩,
    ⟨some 5, none, .box (.t 2), 0, 0, false, []⟩,
    ⟨some 6, none, .mov (.k (.bool false)), 0, 0, false, []⟩])
   (.seq (.seq (.seg false [⟨some 9, none, .load true 8 (.t 3), 0, 0, false, []⟩,
    ⟨some 10, none, .mov (.t 1), 0, 0, false, []⟩,
    ⟨some 11, none, .load true 3 (.t 5), 0, 0, false, []⟩,
    ⟨some 12, none, .call 77 [.t 9, .t 10, .t 11] false false, 0, 0, false, []⟩,
    ⟨some 13, none, .un .not (.t 12), 0, 0, false, []⟩])
   (.cutTo [1, 3, 5, 13] (.cond (.t 13) (.seq (.seg false [⟨some 6, none, .mov (.k (.bool false)), 0, 0, false, []⟩])
   (.ret))
   (.skip))))
   (.cutTo [1, 3, 5] (.seq (.seg true D16x0)
   (.cutTo [1, 7, 8] (.seq (.seq (.seg false [⟨some 22, none, .mov (.t 1), 0, 0, false, []⟩])
   (.block 0 (.seq (.seg false [⟨some 24, none, .bin .eql (.t 22) (.k (.int .i64 1)), 0, 0, false, []⟩,
    ⟨some 23, none, .mov (.t 24), 0, 0, false, []⟩])
   (.cond (.t 23) (.seq (.seg false [⟨some 25, none, .mov (.t 7), 0, 0, false, []⟩,
    ⟨some 26, none, .bin .leq (.t 25) (.k (.int .i64 0)), 0, 0, false, []⟩,
    ⟨some 27, none, .mov (.t 26), 0, 0, false, []⟩,
    ⟨some 28, some (27, true), .mov (.t 8), 0, 0, false, []⟩,
    ⟨some 29, some (27, true), .bin .geq (.t 28) (.k (.int .i64 0)), 0, 0, false, []⟩,
    ⟨some 30, none, .pick (.t 27) (.t 29) (.k (.bool false)), 0, 0, false, []⟩,
    ⟨some 6, none, .mov (.t 30), 0, 0, false, []⟩])
   (.cutTo [6] (.ret)))
   (.seq (.seg false [⟨some 32, none, .bin .eql (.t 22) (.k (.int .i64 2)), 0, 0, false, []⟩,
    ⟨some 31, none, .mov (.t 32), 0, 0, false, []⟩])
   (.cond (.t 31) (.seq (.seg false [⟨some 33, none, .mov (.t 7), 0, 0, false, []⟩,
    ⟨some 34, none, .bin .neq (.t 33) (.k (.int .i64 0)), 0, 0, false, []⟩,
    ⟨some 35, none, .mov (.t 34), 0, 0, false, []⟩,
    ⟨some 36, some (35, false), .mov (.t 8), 0, 0, false, []⟩,
    ⟨some 37, some (35, false), .bin .neq (.t 36) (.k (.int .i64 0)), 0, 0, false, []⟩,
    ⟨some 38, none, .pick (.t 35) (.k (.bool true)) (.t 37), 0, 0, false, []⟩,
    ⟨some 6, none, .mov (.t 38), 0, 0, false, []⟩])
   (.cutTo [6] (.ret)))
   (.seq (.seg false [⟨some 40, none, .bin .eql (.t 22) (.k (.int .i64 3)), 0, 0, false, []⟩,
    ⟨some 39, none, .mov (.t 40), 0, 0, false, []⟩])
   (.cond (.t 39) (.seq (.seg false [⟨some 41, none, .mov (.t 7), 0, 0, false, []⟩,
    ⟨some 42, none, .bin .lss (.t 41) (.k (.int .i64 0)), 0, 0, false, []⟩,
    ⟨some 6, none, .mov (.t 42), 0, 0, false, []⟩])
   (.ret))
   (.skip)))))))))
   (.cutTo [7] (.seq (.seg false [⟨some 43, none, .mov (.t 7), 0, 0, false, []⟩,
    ⟨some 44, none, .bin .leq (.t 43) (.k (.int .i64 0)), 0, 0, false, []⟩,
    ⟨some 6, none, .mov (.t 44), 0, 0, false, []⟩])
   (.ret))))))))⟩
/-- loop.example/tablehouse/spec.MayHold -/
def F17 : F := ⟨69, [(false, 6, 0, false)],
   .seq (.seg false [⟨some 3, none, .box (.t 0), 0, 0, false, []⟩,
    ⟨some 5, none, .box (.t 2), 0, 0, false, []⟩,
    ⟨some 6, none, .mov (.k (.bool false)), 0, 0, false, []⟩])
   (.seq (.seq (.seg false [⟨some 7, none, .load true 8 (.t 3), 0, 0, false, []⟩,
    ⟨some 8, none, .call 79 [.t 7] false false, 0, 0, false, []⟩,
    ⟨some 9, none, .un .not (.t 8), 0, 0, false, []⟩,
    ⟨some 10, none, .mov (.t 9), 0, 0, false, []⟩,
    ⟨some 11, some (10, false), .faddr 0 1 (.t 3), 0, 0, false, []⟩,
    ⟨some 12, some (10, false), .load false 1 (.t 11), 0, 0, false, []⟩,
    ⟨some 13, some (10, false), .bin .eql (.t 12) (.k (.int .i64 0)), 0, 0, false, []⟩,
    ⟨some 14, none, .pick (.t 10) (.k (.bool true)) (.t 13), 0, 0, false, []⟩,
    ⟨some 15, none, .mov (.t 14), 0, 0, false, []⟩,
    ⟨some 16, some (15, false), .load true 3 (.t 5), 0, 0, false, []⟩,
    ⟨some 17, some (15, false), .call 80 [.t 16] false false, 0, 0, false, []⟩,
    ⟨some 18, some (15, false), .un .not (.t 17), 0, 0, false, []⟩,
    ⟨some 19, none, .pick (.t 15) (.k (.bool true)) (.t 18), 0, 0, false, []⟩,
    ⟨some 20, none, .mov (.t 19), 0, 0, false, []⟩,
    ⟨some 21, some (20, false), .faddr 0 1 (.t 5), 0, 0, false, []⟩,
    ⟨some 22, some (20, false), .load false 1 (.t 21), 0, 0, false, []⟩,
    ⟨some 23, some (20, false), .faddr 2 3 (.t 3), 0, 0, false, []⟩,
    ⟨some 24, some (20, false), .faddr 0 1 (.t 23), 0, 0, false, []⟩,
    ⟨some 25, some (20, false), .load false 1 (.t 24), 0, 0, false, []⟩,
    ⟨some 26, some (20, false), .bin .neq (.t 22) (.t 25), 0, 0, false, []⟩,
    ⟨some 27, none, .pick (.t 20) (.k (.bool true)) (.t 26), 0, 0, false, []⟩])
   (.cutTo [1, 3, 5, 27] (.cond (.t 27) (.seq (.seg false [⟨some 6, none, .mov (.k (.bool false)), 0, 0, false, []⟩])
   (.ret))
   (.skip))))
   (.cutTo [1, 3, 5] (.seq (.seq (.seg false [⟨some 28, none, .mov (.t 1), 0, 0, false, []⟩])
   (.block 0 (.seq (.seg false [⟨some 30, none, .bin .eql (.t 28) (.k (.int .i64 1)), 0, 0, false, []⟩,
    ⟨some 29, none, .mov (.t 30), 0, 0, false, []⟩])
   (.cond (.t 29) (.seq (.seg false [⟨some 31, none, .faddr 2 3 (.t 3), 0, 0, false, []⟩,
    ⟨some 32, none, .load true 3 (.t 31), 0, 0, false, []⟩,
    ⟨some 33, none, .load true 3 (.t 5), 0, 0, false, []⟩,
    ⟨some 34, none, .call 81 [.t 32, .t 33] false false, 0, 0, false, []⟩,
    ⟨some 35, none, .bin .leq (.t 34) (.k (.int .i64 0)), 0, 0, false, []⟩,
    ⟨some 36, none, .mov (.t 35), 0, 0, false, []⟩,
    ⟨some 37, some (36, true), .load true 3 (.t 5), 0, 0, false, []⟩,
    ⟨some 38, some (36, true), .faddr 5 3 (.t 3), 0, 0, false, []⟩,
    ⟨some 39, some (36, true), .load true 3 (.t 38), 0, 0, false, []⟩,
    ⟨some 40, some (36, true), .call 81 [.t 37, .t 39] false false, 0, 0, false, []⟩,
    ⟨some 41, some (36, true), .bin .leq (.t 40) (.k (.int .i64 0)), 0, 0, false, []⟩,
    ⟨some 42, none, .pick (.t 36) (.t 41) (.k (.bool false)), 0, 0, false, []⟩,
    ⟨some 6, none, .mov (.t 42), 0, 0, false, []⟩])
   (.cutTo [6] (.ret)))
   (.seq (.seg false [⟨some 44, none, .bin .eql (.t 28) (.k (.int .i64 2)), 0, 0, false, []⟩,
    ⟨some 43, none, .mov (.t 44), 0, 0, false, []⟩])
   (.cond (.t 43) (.seq (.seg false [⟨some 45, none, .faddr 2 3 (.t 3), 0, 0, false, []⟩,
    ⟨some 46, none, .load true 3 (.t 45), 0, 0, false, []⟩,
    ⟨some 47, none, .load true 3 (.t 5), 0, 0, false, []⟩,
    ⟨some 48, none, .eqs true [.int, .int, .str] (.t 46) (.t 47), 0, 0, false, []⟩,
    ⟨some 49, none, .mov (.t 48), 0, 0, false, []⟩,
    ⟨some 50, some (49, false), .faddr 5 3 (.t 3), 0, 0, false, []⟩,
    ⟨some 51, some (49, false), .load true 3 (.t 50), 0, 0, false, []⟩,
    ⟨some 52, some (49, false), .load true 3 (.t 5), 0, 0, false, []⟩,
    ⟨some 53, some (49, false), .eqs true [.int, .int, .str] (.t 51) (.t 52), 0, 0, false, []⟩,
    ⟨some 54, none, .pick (.t 49) (.k (.bool true)) (.t 53), 0, 0, false, []⟩,
    ⟨some 6, none, .mov (.t 54), 0, 0, false, []⟩])
   (.cutTo [6] (.ret)))
   (.seq (.seg false [⟨some 56, none, .bin .eql (.t 28) (.k (.int .i64 3)), 0, 0, false, []⟩,
    ⟨some 55, none, .mov (.t 56), 0, 0, false, []⟩])
   (.cond (.t 55) (.seq (.seg false [⟨some 57, none, .faddr 2 3 (.t 3), 0, 0, false, []⟩,
    ⟨some 58, none, .load true 3 (.t 57), 0, 0, false, []⟩,
    ⟨some 59, none, .load true 3 (.t 5), 0, 0, false, []⟩,
    ⟨some 60, none, .call 81 [.t 58, .t 59] false false, 0, 0, false, []⟩,
    ⟨some 61, none, .bin .lss (.t 60) (.k (.int .i64 0)), 0, 0, false, []⟩,
    ⟨some 6, none, .mov (.t 61), 0, 0, false, []⟩])
   (.cutTo [6] (.ret)))
   (.seq (.seg false [⟨some 63, none, .bin .eql (.t 28) (.k (.int .i64 4)), 0, 0, false, []⟩,
    ⟨some 62, none, .mov (.t 63), 0, 0, false, []⟩])
   (.cond (.t 62) (.seq (.seg false [⟨some 64, none, .faddr 2 3 (.t 3), 0, 0, false, []⟩,
    ⟨some 65, none, .load true 3 (.t 64), 0, 0, false, []⟩,
    ⟨some 66, none, .load true 3 (.t 5), 0, 0, false, []⟩,
    ⟨some 67, none, .call 81 [.t 65, .t 66] false false, 0, 0, false, []⟩,
    ⟨some 68, none, .bin .leq (.t 67) (.k (.int .i64 0)), 0, 0, false, []⟩,
    ⟨some 6, none, .mov (.t 68), 0, 0, false, []⟩])
   (.cutTo [6] (.ret)))
   (.skip)))))))))))
   (.cutTo [] (.seq (.seg false [⟨some 6, none, .mov (.k (.bool false)), 0, 0, false, []⟩])
   (.ret))))))⟩
/-- loop.example/tablehouse/impl.KnownOk -/
def F18 : F := ⟨67, [(false, 2, 0, false)],
   .seq (.seg false [⟨some 1, none, .box (.t 0), 0, 0, false, []⟩,
    ⟨some 2, none, .mov (.k (.bool false)), 0, 0, false, []⟩])
   (.seq (.seq (.seg false [⟨some 3, none, .faddr 0 1 (.t 1), 0, 0, false, []⟩,
    ⟨some 4, none, .load false 1 (.t 3), 0, 0, false, []⟩,
    ⟨some 5, none, .bin .eql (.t 4) (.k (.int .i64 0)), 0, 0, false, []⟩])
   (.cond (.t 5) (.seq (.seg false [⟨some 6, none, .load true 8 (.t 1), 0, 0, false, []⟩,
    ⟨some 7, none, .build [.int .i64 0, .int .i64 0, .int .i64 0, .int .i64 0, .str ⟨#[]⟩, .int .i64 0, .int .i64 0, .str ⟨#[]⟩] [], 0, 0, false, []⟩,
    ⟨some 8, none, .eqs false [.int, .int, .int, .int, .str, .int, .int, .str] (.t 6) (.t 7), 0, 0, false, []⟩,
    ⟨some 2, none, .mov (.t 8), 0, 0, false, []⟩])
   (.cutTo [2] (.ret)))
   (.skip)))
   (.cutTo [1] (.seq (.seg false [⟨some 9, none, .faddr 0 1 (.t 1), 0, 0, false, []⟩,
    ⟨some 10, none, .load false 1 (.t 9), 0, 0, false, []⟩,
    ⟨some 11, none, .call 82 [.t 10, .k (.int .i64 1), .k (.int .i64 100)] false false, 0, 0, false, []⟩,
    ⟨some 12, none, .mov (.t 11), 0, 0, false, []⟩,
    ⟨some 13, some (12, true), .faddr 1 1 (.t 1), 0, 0, false, []⟩,
    ⟨some 14, some (12, true), .load false 1 (.t 13), 0, 0, false, []⟩,
    ⟨some 15, some (12, true), .faddr 0 1 (.t 1), 0, 0, false, []⟩,
    ⟨some 16, some (12, true), .load false 1 (.t 15), 0, 0, false, []⟩,
    ⟨some 17, some (12, true), .bin .mul (.k (.int .i64 (-9999))) (.t 16), 0, 0, false, []⟩,
    ⟨some 18, some (12, true), .faddr 0 1 (.t 1), 0, 0, false, []⟩,
    ⟨some 19, some (12, true), .load false 1 (.t 18), 0, 0, false, []⟩,
    ⟨some 20, some (12, true), .bin .mul (.k (.int .i64 9999)) (.t 19), 0, 0, false, []⟩,
    ⟨some 21, some (12, true), .call 82 [.t 14, .t 17, .t 20] false false, 0, 0, false, []⟩,
    ⟨some 22, none, .pick (.t 12) (.t 21) (.k (.bool false)), 0, 0, false, []⟩,
    ⟨some 23, none, .mov (.t 22), 0, 0, false, []⟩,
    ⟨some 24, some (23, true), .faddr 2 3 (.t 1), 0, 0, false, []⟩,
    ⟨some 25, some (23, true), .load true 3 (.t 24), 0, 0, false, []⟩,
    ⟨some 26, some (23, true), .call 83 [.t 25] false false, 0, 0, false, []⟩,
    ⟨some 27, none, .pick (.t 23) (.t 26) (.k (.bool false)), 0, 0, false, []⟩,
    ⟨some 28, none, .mov (.t 27), 0, 0, false, []⟩,
    ⟨some 29, some (28, true), .faddr 5 3 (.t 1), 0, 0, false, []⟩,
    ⟨some 30, some (28, true), .load true 3 (.t 29), 0, 0, false, []⟩,
    ⟨some 31, some (28, true), .call 83 [.t 30] false false, 0, 0, false, []⟩,
    ⟨some 32, none, .pick (.t 28) (.t 31) (.k (.bool false)), 0, 0, false, []⟩,
    ⟨some 33, none, .mov (.t 32), 0, 0, false, []⟩,
    ⟨some 34, some (33, true), .faddr 2 3 (.t 1), 0, 0, false, []⟩,
    ⟨some 35, some (33, true), .faddr 0 1 (.t 34), 0, 0, false, []⟩,
    ⟨some 36, some (33, true), .load false 1 (.t 35), 0, 0, false, []⟩,
    ⟨some 37, some (33, true), .faddr 5 3 (.t 1), 0, 0, false, []⟩,
    ⟨some 38, some (33, true), .faddr 0 1 (.t 37), 0, 0, false, []⟩,
    ⟨some 39, some (33, true), .load false 1 (.t 38), 0, 0, false, []⟩,
    ⟨some 40, some (33, true), .bin .eql (.t 36) (.t 39), 0, 0, false, []⟩,
    ⟨some 41, none, .pick (.t 33) (.t 40) (.k (.bool false)), 0, 0, false, []⟩,
    ⟨some 42, none, .mov (.t 41), 0, 0, false, []⟩,
    ⟨some 43, some (42, true), .faddr 2 3 (.t 1), 0, 0, false, []⟩,
    ⟨some 44, some (42, true), .faddr 0 1 (.t 43), 0, 0, false, []⟩,
    ⟨some 45, some (42, true), .load false 1 (.t 44), 0, 0, false, []⟩,
    ⟨some 46, some (42, true), .bin .neq (.t 45) (.k (.int .i64 0)), 0, 0, false, []⟩,
    ⟨some 47, none, .pick (.t 42) (.t 46) (.k (.bool false)), 0, 0, false, []⟩,
    ⟨some 48, none, .mov (.t 47), 0, 0, false, []⟩,
    ⟨some 49, some (48, true), .faddr 2 3 (.t 1), 0, 0, false, []⟩,
    ⟨some 50, some (48, true), .load true 3 (.t 49), 0, 0, false, []⟩,
    ⟨some 51, some (48, true), .faddr 5 3 (.t 1), 0, 0, false, []⟩,
    ⟨some 52, some (48, true), .load true 3 (.t 51), 0, 0, false, []⟩,
    ⟨some 53, some (48, true), .call 78 [.t 50, .t 52] false false, 0, 0, false, []⟩,
    ⟨some 54, some (48, true), .bin .leq (.t 53) (.k (.int .i64 0)), 0, 0, false, []⟩,
    ⟨some 55, none, .pick (.t 48) (.t 54) (.k (.bool false)), 0, 0, false, []⟩,
    ⟨some 56, none, .mov (.t 55), 0, 0, false, []⟩,
    ⟨some 57, some (56, true), .faddr 2 3 (.t 1), 0, 0, false, []⟩,
    ⟨some 58, some (56, true), .faddr 0 1 (.t 57), 0, 0, false, []⟩,
    ⟨some 59, some (56, true), .load false 1 (.t 58), 0, 0, false, []⟩,
    ⟨some 60, some (56, true), .bin .eql (.t 59) (.k (.int .i64 1)), 0, 0, false, []⟩,
    ⟨some 61, some (56, true), .mov (.t 60), 0, 0, false, []⟩,
    ⟨some 62, some (61, false), .faddr 1 1 (.t 1), 0, 0, false, []⟩,
    ⟨some 63, some (61, false), .load false 1 (.t 62), 0, 0, false, []⟩,
    ⟨some 64, some (61, false), .bin .eql (.t 63) (.k (.int .i64 0)), 0, 0, false, []⟩,
    ⟨some 65, some (56, true), .pick (.t 61) (.k (.bool true)) (.t 64), 0, 0, false, []⟩,
    ⟨some 66, none, .pick (.t 56) (.t 65) (.k (.bool false)), 0, 0, false, []⟩,
    ⟨some 2, none, .mov (.t 66), 0, 0, false, []⟩])
   (.cutTo [2] (.ret)))))⟩
/-- loop.example/tablehouse/impl.ValueOk -/
def F19 : F := ⟨5, [(false, 2, 0, false)],
   .seq (.seg false [⟨some 1, none, .box (.t 0), 0, 0, false, []⟩,
    ⟨some 2, none, .mov (.k (.bool false)), 0, 0, false, []⟩])
   (.seq (.seg false [⟨some 3, none, .load true 3 (.t 1), 0, 0, false, []⟩,
    ⟨some 4, none, .call 83 [.t 3] false false, 0, 0, false, []⟩,
    ⟨some 2, none, .mov (.t 4), 0, 0, false, []⟩])
   (.ret))⟩
def E20x0 : List I := [⟨some 14, none, .faddr 2 3 (.t 3), 0, 0, false, []⟩,
    ⟨some 15, none, .load true 3 (.t 14), 0, 0, false, []⟩,
    ⟨some 16, none, .load true 3 (.t 5), 0, 0, false, []⟩,
    ⟨some 17, none, .call 78 [.t 15, .t 16] false false, 0, 0, false, []⟩,
    ⟨some 18, none, .faddr 5 3 (.t 3), 0, 0, false, []⟩,
    ⟨some 19, none, .load true 3 (.t 18), 0, 0, false, []⟩,
    ⟨some 20, none, .load true 3 (.t 5), 0, 0, false, []⟩,
    ⟨some 21, none, .call 78 [.t 19, .t 20] false false, 0, 0, false, []⟩,
    ⟨some 7, none, .mov (.t 17), 0, 0, false, []⟩,
    ⟨some 8, none, .mov (.t 21), 0, 0, false, []⟩]
def D20x0 : List I := E20x0
theorem evD20x0 (run : Run) (e : Env) (h : Heap) : drawI run D20x0 e h = DrawS (evQ run E20x0 e h) run E20x0 e h := drawI_quiet run _ (by rfl) e h
/-- loop.example/tablehouse/impl.MustHold -/
def F20 : F := ⟨45, [(false, 6, 0, false)],
   .seq (.seg false [⟨some 3, none, .box (.t 0), 0, 0, false, []⟩,
    ⟨some 5, none, .box (.t 2), 0, 0, false, []⟩,
    ⟨some 6, none, .mov (.k (.bool false)), 0, 0, false, []⟩])
   (.seq (.seq (.seg false [⟨some 9, none, .load true 8 (.t 3), 0, 0, false, []⟩,
    ⟨some 10, none, .mov (.t 1), 0, 0, false, []⟩,
    ⟨some 11, none, .load true 3 (.t 5), 0, 0, false, []⟩,
    ⟨some 12, none, .call 77 [.t 9, .t 10, .t 11] false false, 0, 0, false, []⟩,
    ⟨some 13, none, .un .not (.t 12), 0, 0, false, []⟩])
   (.cutTo [1, 3, 5, 13] (.cond (.t 13) (.seq (.seg false [⟨some 6, none, .mov (.k (.bool false)), 0, 0, false, []⟩])
   (.ret))
   (.skip))))
   (.cutTo [1, 3, 5] (.seq (.seg true D20x0)
   (.cutTo [1, 7, 8] (.seq (.seq (.seg false [⟨some 22, none, .mov (.t 1), 0, 0, false, []⟩])
   (.block 0 (.seq (.seg false [⟨some 24, none, .bin .eql (.t 22) (.k (.int .i64 1)), 0, 0, false, []⟩,
    ⟨some 23, none, .mov (.t 24), 0, 0, false, []⟩])
   (.cond (.t 23) (.seq (.seg false [⟨some 25, none, .mov (.t 7), 0, 0, false, []⟩,
    ⟨some 26, none, .bin .eql (.t 25) (.k (.int .i64 0)), 0, 0, false, []⟩,
    ⟨some 27, none, .mov (.t 26), 0, 0, false, []⟩,
    ⟨some 28, some (27, true), .mov (.t 8), 0, 0, false, []⟩,
    ⟨some 29, some (27, true), .bin .eql (.t 28) (.k (.int .i64 0)), 0, 0, false, []⟩,
    ⟨some 30, none, .pick (.t 27) (.t 29) (.k (.bool false)), 0, 0, false, []⟩,
    ⟨some 6, none, .mov (.t 30), 0, 0, false, []⟩])
   (.cutTo [6] (.ret)))
   (.seq (.seg false [⟨some 32, none, .bin .eql (.t 22) (.k (.int .i64 2)), 0, 0, false, []⟩,
    ⟨some 31, none, .mov (.t 32), 0, 0, false, []⟩])
   (.cond (.t 31) (.seq (.seg false [⟨some 33, none, .mov (.t 7), 0, 0, false, []⟩,
    ⟨some 34, none, .bin .gtr (.t 33) (.k (.int .i64 0)), 0, 0, false, []⟩,
    ⟨some 35, none, .mov (.t 34), 0, 0, false, []⟩,
    ⟨some 36, some (35, false), .mov (.t 8), 0, 0, false, []⟩,
    ⟨some 37, some (35, false), .bin .lss (.t 36) (.k (.int .i64 0)), 0, 0, false, []⟩,
    ⟨some 38, none, .pick (.t 35) (.k (.bool true)) (.t 37), 0, 0, false, []⟩,
    ⟨some 6, none, .mov (.t 38), 0, 0, false, []⟩])
   (.cutTo [6] (.ret)))
   (.seq (.seg false [⟨some 40, none, .bin .eql (.t 22) (.k (.int .i64 3)), 0, 0, false, []⟩,
    ⟨some 39, none, .mov (.t 40), 0, 0, false, []⟩])
   (.cond (.t 39) (.seq (.seg false [⟨some 41, none, .mov (.t 8), 0, 0, false, []⟩,
    ⟨some 42, none, .bin .lss (.t 41) (.k (.int .i64 0)), 0, 0, false, []⟩,
    ⟨some 6, none, .mov (.t 42), 0, 0, false, []⟩])
   (.ret))
   (.skip)))))))))
   (.cutTo [8] (.seq (.seg false [⟨some 43, none, .mov (.t 8), 0, 0, false, []⟩,
    ⟨some 44, none, .bin .leq (.t 43) (.k (.int .i64 0)), 0, 0, false, []⟩,
    ⟨some 6, none, .mov (.t 44), 0, 0, false, []⟩])
   (.ret))))))))⟩
/-- loop.example/tablehouse/laws.alive -/
def F21 : F := ⟨8, [(false, 0, 0, false)],
   .seq (.seg false [⟨some 0, none, .mov (.k (.bool false)), 0, 0, false, []⟩])
   (.seq (.seg false [⟨some 1, none, .build [.int .i64 0, .int .i64 0, .str ⟨#[]⟩] [(0, 1, .k (.int .i64 1)), (1, 1, .k (.int .i64 3))], 0, 0, false, []⟩,
    ⟨some 2, none, .call 19 [.t 1] false false, 0, 0, false, []⟩,
    ⟨some 3, none, .mov (.t 2), 0, 0, false, []⟩,
    ⟨some 4, some (3, true), .build [.int .i64 0, .int .i64 0, .str ⟨#[]⟩] [(0, 1, .k (.int .i64 9))], 0, 0, false, []⟩,
    ⟨some 5, some (3, true), .call 19 [.t 4] false false, 0, 0, false, []⟩,
    ⟨some 6, some (3, true), .un .not (.t 5), 0, 0, false, []⟩,
    ⟨some 7, none, .pick (.t 3) (.t 6) (.k (.bool false)), 0, 0, false, []⟩,
    ⟨some 0, none, .mov (.t 7), 0, 0, false, []⟩])
   (.cutTo [0] (.ret)))⟩
/-- loop.example/tablehouse/spec.DrawMustHold -/
def F22 : F := ⟨11, [(true, 2, 8, true), (false, 3, 0, false), (true, 4, 3, true)],
   .seq (.seg false [⟨some 2, none, .alloc [.int .i64 0, .int .i64 0, .int .i64 0, .int .i64 0, .str ⟨#[]⟩, .int .i64 0, .int .i64 0, .str ⟨#[]⟩], 0, 0, false, []⟩,
    ⟨some 3, none, .mov (.k (.int .i64 0)), 0, 0, false, []⟩,
    ⟨some 4, none, .alloc [.int .i64 0, .int .i64 0, .str ⟨#[]⟩], 0, 0, false, []⟩])
   (.seq (.seg false [⟨some 5, none, .mov (.t 0), 0, 0, false, []⟩,
    ⟨some 6, none, .call 76 [.t 5] true true, 0, 0, false, []⟩,
    ⟨some 7, none, .call 75 [.t 6] true false, 0, 0, false, []⟩,
    ⟨some 8, none, .ext (.t 7) 0, 0, 0, false, []⟩,
    ⟨some 9, none, .ext (.t 7) 1, 0, 0, false, []⟩,
    ⟨some 10, none, .ext (.t 7) 2, 0, 0, false, []⟩,
    ⟨none, none, .store 8 (.t 2) (.t 8), 0, 0, false, []⟩,
    ⟨some 3, none, .mov (.t 9), 0, 0, false, []⟩,
    ⟨none, none, .store 3 (.t 4) (.t 10), 0, 0, false, []⟩])
   (.cutTo [2, 3, 4] (.ret)))⟩
/-- loop.example/tablehouse/spec.MustHold -/
def F23 : F := ⟨69, [(false, 6, 0, false)],
   .seq (.seg false [⟨some 3, none, .box (.t 0), 0, 0, false, []⟩,
    ⟨some 5, none, .box (.t 2), 0, 0, false, []⟩,
    ⟨some 6, none, .mov (.k (.bool false)), 0, 0, false, []⟩])
   (.seq (.seq (.seg false [⟨some 7, none, .load true 8 (.t 3), 0, 0, false, []⟩,
    ⟨some 8, none, .call 79 [.t 7] false false, 0, 0, false, []⟩,
    ⟨some 9, none, .un .not (.t 8), 0, 0, false, []⟩,
    ⟨some 10, none, .mov (.t 9), 0, 0, false, []⟩,
    ⟨some 11, some (10, false), .faddr 0 1 (.t 3), 0, 0, false, []⟩,
    ⟨some 12, some (10, false), .load false 1 (.t 11), 0, 0, false, []⟩,
    ⟨some 13, some (10, false), .bin .eql (.t 12) (.k (.int .i64 0)), 0, 0, false, []⟩,
    ⟨some 14, none, .pick (.t 10) (.k (.bool true)) (.t 13), 0, 0, false, []⟩,
    ⟨some 15, none, .mov (.t 14), 0, 0, false, []⟩,
    ⟨some 16, some (15, false), .load true 3 (.t 5), 0, 0, false, []⟩,
    ⟨some 17, some (15, false), .call 80 [.t 16] false false, 0, 0, false, []⟩,
    ⟨some 18, some (15, false), .un .not (.t 17), 0, 0, false, []⟩,
    ⟨some 19, none, .pick (.t 15) (.k (.bool true)) (.t 18), 0, 0, false, []⟩,
    ⟨some 20, none, .mov (.t 19), 0, 0, false, []⟩,
    ⟨some 21, some (20, false), .faddr 0 1 (.t 5), 0, 0, false, []⟩,
    ⟨some 22, some (20, false), .load false 1 (.t 21), 0, 0, false, []⟩,
    ⟨some 23, some (20, false), .faddr 2 3 (.t 3), 0, 0, false, []⟩,
    ⟨some 24, some (20, false), .faddr 0 1 (.t 23), 0, 0, false, []⟩,
    ⟨some 25, some (20, false), .load false 1 (.t 24), 0, 0, false, []⟩,
    ⟨some 26, some (20, false), .bin .neq (.t 22) (.t 25), 0, 0, false, []⟩,
    ⟨some 27, none, .pick (.t 20) (.k (.bool true)) (.t 26), 0, 0, false, []⟩])
   (.cutTo [1, 3, 5, 27] (.cond (.t 27) (.seq (.seg false [⟨some 6, none, .mov (.k (.bool false)), 0, 0, false, []⟩])
   (.ret))
   (.skip))))
   (.cutTo [1, 3, 5] (.seq (.seq (.seg false [⟨some 28, none, .mov (.t 1), 0, 0, false, []⟩])
   (.block 0 (.seq (.seg false [⟨some 30, none, .bin .eql (.t 28) (.k (.int .i64 1)), 0, 0, false, []⟩,
    ⟨some 29, none, .mov (.t 30), 0, 0, false, []⟩])
   (.cond (.t 29) (.seq (.seg false [⟨some 31, none, .faddr 2 3 (.t 3), 0, 0, false, []⟩,
    ⟨some 32, none, .load true 3 (.t 31), 0, 0, false, []⟩,
    ⟨some 33, none, .load true 3 (.t 5), 0, 0, false, []⟩,
    ⟨some 34, none, .eqs false [.int, .int, .str] (.t 32) (.t 33), 0, 0, false, []⟩,
    ⟨some 35, none, .mov (.t 34), 0, 0, false, []⟩,
    ⟨some 36, some (35, true), .faddr 5 3 (.t 3), 0, 0, false, []⟩,
    ⟨some 37, some (35, true), .load true 3 (.t 36), 0, 0, false, []⟩,
    ⟨some 38, some (35, true), .load true 3 (.t 5), 0, 0, false, []⟩,
    ⟨some 39, some (35, true), .eqs false [.int, .int, .str] (.t 37) (.t 38), 0, 0, false, []⟩,
    ⟨some 40, none, .pick (.t 35) (.t 39) (.k (.bool false)), 0, 0, false, []⟩,
    ⟨some 6, none, .mov (.t 40), 0, 0, false, []⟩])
   (.cutTo [6] (.ret)))
   (.seq (.seg false [⟨some 42, none, .bin .eql (.t 28) (.k (.int .i64 2)), 0, 0, false, []⟩,
    ⟨some 41, none, .mov (.t 42), 0, 0, false, []⟩])
   (.cond (.t 41) (.seq (.seg false [⟨some 43, none, .load true 3 (.t 5), 0, 0, false, []⟩,
    ⟨some 44, none, .faddr 2 3 (.t 3), 0, 0, false, []⟩,
    ⟨some 45, none, .load true 3 (.t 44), 0, 0, false, []⟩,
    ⟨some 46, none, .call 81 [.t 43, .t 45] false false, 0, 0, false, []⟩,
    ⟨some 47, none, .bin .lss (.t 46) (.k (.int .i64 0)), 0, 0, false, []⟩,
    ⟨some 48, none, .mov (.t 47), 0, 0, false, []⟩,
    ⟨some 49, some (48, false), .faddr 5 3 (.t 3), 0, 0, false, []⟩,
    ⟨some 50, some (48, false), .load true 3 (.t 49), 0, 0, false, []⟩,
    ⟨some 51, some (48, false), .load true 3 (.t 5), 0, 0, false, []⟩,
    ⟨some 52, some (48, false), .call 81 [.t 50, .t 51] false false, 0, 0, false, []⟩,
    ⟨some 53, some (48, false), .bin .lss (.t 52) (.k (.int .i64 0)), 0, 0, false, []⟩,
    ⟨some 54, none, .pick (.t 48) (.k (.bool true)) (.t 53), 0, 0, false, []⟩,
    ⟨some 6, none, .mov (.t 54), 0, 0, false, []⟩])
   (.cutTo [6] (.ret)))
   (.seq (.seg false [⟨some 56, none, .bin .eql (.t 28) (.k (.int .i64 3)), 0, 0, false, []⟩,
    ⟨some 55, none, .mov (.t 56), 0, 0, false, []⟩])
   (.cond (.t 55) (.seq (.seg false [⟨some 57, none, .faddr 5 3 (.t 3), 0, 0, false, []⟩,
    ⟨some 58, none, .load true 3 (.t 57), 0, 0, false, []⟩,
    ⟨some 59, none, .load true 3 (.t 5), 0, 0, false, []⟩,
    ⟨some 60, none, .call 81 [.t 58, .t 59] false false, 0, 0, false, []⟩,
    ⟨some 61, none, .bin .lss (.t 60) (.k (.int .i64 0)), 0, 0, false, []⟩,
    ⟨some 6, none, .mov (.t 61), 0, 0, false, []⟩])
   (.cutTo [6] (.ret)))
   (.seq (.seg false [⟨some 63, none, .bin .eql (.t 28) (.k (.int .i64 4)), 0, 0, false, []⟩,
    ⟨some 62, none, .mov (.t 63), 0, 0, false, []⟩])
   (.cond (.t 62) (.seq (.seg false [⟨some 64, none, .faddr 5 3 (.t 3), 0, 0, false, []⟩,
    ⟨some 65, none, .load true 3 (.t 64), 0, 0, false, []⟩,
    ⟨some 66, none, .load true 3 (.t 5), 0, 0, false, []⟩,
    ⟨some 67, none, .call 81 [.t 65, .t 66] false false, 0, 0, false, []⟩,
    ⟨some 68, none, .bin .leq (.t 67) (.k (.int .i64 0)), 0, 0, false, []⟩,
    ⟨some 6, none, .mov (.t 68), 0, 0, false, []⟩])
   (.cutTo [6] (.ret)))
   (.skip)))))))))))
   (.cutTo [] (.seq (.seg false [⟨some 6, none, .mov (.k (.bool false)), 0, 0, false, []⟩])
   (.ret))))))⟩
/-- loop.example/tablehouse/spec.DrawManyBounds -/
def F24 : F := ⟨11, [(true, 2, 8, true), (false, 3, 0, false), (true, 4, 3, true)],
   .seq (.seg false [⟨some 2, none, .alloc [.int .i64 0, .int .i64 0, .int .i64 0, .int .i64 0, .str ⟨#[]⟩, .int .i64 0, .int .i64 0, .str ⟨#[]⟩], 0, 0, false, []⟩,
    ⟨some 3, none, .mov (.k (.int .i64 0)), 0, 0, false, []⟩,
    ⟨some 4, none, .alloc [.int .i64 0, .int .i64 0, .str ⟨#[]⟩], 0, 0, false, []⟩])
   (.seq (.seg false [⟨some 5, none, .mov (.t 0), 0, 0, false, []⟩,
    ⟨some 6, none, .call 76 [.t 5] true true, 0, 0, false, []⟩,
    ⟨some 7, none, .call 75 [.t 6] true false, 0, 0, false, []⟩,
    ⟨some 8, none, .ext (.t 7) 0, 0, 0, false, []⟩,
    ⟨some 9, none, .ext (.t 7) 1, 0, 0, false, []⟩,
    ⟨some 10, none, .ext (.t 7) 2, 0, 0, false, []⟩,
    ⟨none, none, .store 8 (.t 2) (.t 8), 0, 0, false, []⟩,
    ⟨some 3, none, .mov (.t 9), 0, 0, false, []⟩,
    ⟨none, none, .store 3 (.t 4) (.t 10), 0, 0, false, []⟩])
   (.cutTo [2, 3, 4] (.ret)))⟩
def E25x0 : List I := [⟨some 30, none, .faddr 0 1 (.t 3), 0, 0, false, []⟩,
    ⟨some 31, none, .load false 1 (.t 30), 0, 0, false, []⟩,
    ⟨some 32, none, .faddr 0 1 (.t 3), 0, 0, false, []⟩,
    ⟨some 33, none, .load false 1 (.t 32), 0, 0, false, []⟩,
    ⟨some 6, none, .mov (.t 31), 0, 0, false, []⟩,
    ⟨some 7, none, .mov (.t 33), 0, 0, false, []⟩]
def D25x0 : List I := E25x0
theorem evD25x0 (run : Run) (e : Env) (h : Heap) : drawI run D25x0 e h = DrawS (evQ run E25x0 e h) run E25x0 e h := drawI_quiet run _ (by rfl) e h
def E25x1 : List I := [⟨some 66, none, .mov (.t 9), 0, 0, false, []⟩,
    ⟨some 67, none, .faddr 0 1 (.t 3), 0, 0, false, []⟩,
    ⟨some 68, none, .load false 1 (.t 67), 0, 0, false, []⟩,
    ⟨some 69, none, .mov (.t 8), 0, 0, false, []⟩,
    ⟨some 70, none, .len false (.t 69), 0, 0, false, []⟩,
    ⟨some 71, none, .mov (.t 9), 0, 0, false, []⟩,
    ⟨some 72, none, .bin .sub (.t 70) (.t 71), 0, 0, false, []⟩,
    ⟨some 73, none, .bin .sub (.t 68) (.t 72), 0, 0, false, []⟩,
    ⟨some 6, none, .mov (.t 66), 0, 0, false, []⟩,
    ⟨some 7, none, .mov (.t 73), 0, 0, false, []⟩]
def D25x1 : List I := E25x1
theorem evD25x1 (run : Run) (e : Env) (h : Heap) : drawI run D25x1 e h = DrawS (evQ run E25x1 e h) run E25x1 e h := drawI_quiet run _ (by rfl) e h
def B25x0 : C := .seq (.seg false [⟨some 55, none, .bin .lss (.t 54) (.t 53), 0, 0, false, []⟩])
   (.seq (.cond (.t 55) (.skip)
   (.exit 1))
   (.seq (.block 2 (.seq (.seg false [⟨some 56, none, .iaddr 3 (.t 52) (.t 54), 0, 0, false, []⟩,
    ⟨some 57, none, .load true 3 (.t 56), 0, 0, false, []⟩,
    ⟨some 11, none, .alloc [.int .i64 0, .int .i64 0, .str ⟨#[]⟩], 0, 0, false, []⟩,
    ⟨none, none, .store 3 (.t 11) (.t 57), 0, 0, false, []⟩])
   (.cutTo [1, 3, 5, 8, 9, 11, 52, 53, 54] (.seq (.seg false [⟨some 58, none, .mov (.t 1), 0, 0, false, []⟩,
    ⟨some 59, none, .load true 3 (.t 11), 0, 0, false, []⟩,
    ⟨some 60, none, .load true 3 (.t 5), 0, 0, false, []⟩,
    ⟨some 61, none, .call 40 [.t 58, .t 59, .t 60] false false, 0, 0, false, []⟩,
    ⟨some 62, none, .bin .eql (.t 61) (.k (.int .i64 1)), 0, 0, false, []⟩])
   (.cutTo [1, 3, 5, 8, 9, 52, 53, 54, 62] (.cond (.t 62) (.seg false [⟨some 63, none, .mov (.t 9), 0, 0, false, []⟩,
    ⟨some 64, none, .bin .add (.t 63) (.k (.int .i64 1)), 0, 0, false, []⟩,
    ⟨some 9, none, .mov (.t 64), 0, 0, false, []⟩])
   (.skip)))))))
   (.cutTo [1, 3, 5, 8, 9, 52, 53, 54] (.seg false [⟨some 65, none, .bin .add (.t 54) (.k (.int .i64 1)), 0, 0, false, []⟩,
    ⟨some 54, none, .mov (.t 65), 0, 0, false, []⟩]))))
def L25x0 : C := B25x0
theorem evL25x0 (run : Run) (draw : List I → Env → Heap → Option (Env × Heap)) (e : Env) (h : Heap) : evC run draw L25x0 e h = evC run draw B25x0 e h := rfl
/-- loop.example/tablehouse/impl.ManyBounds -/
def F25 : F := ⟨74, [(false, 6, 0, false), (false, 7, 0, false)],
   .seq (.seg false [⟨some 3, none, .box (.t 0), 0, 0, false, []⟩,
    ⟨some 5, none, .box (.t 2), 0, 0, false, []⟩,
    ⟨some 6, none, .mov (.k (.int .i64 0)), 0, 0, false, []⟩,
    ⟨some 7, none, .mov (.k (.int .i64 0)), 0, 0, false, []⟩])
   (.cutTo [1, 3, 5] (.seq (.block 0 (.seq (.seg false [⟨some 13, none, .load true 8 (.t 3), 0, 0, false, []⟩,
    ⟨some 14, none, .mov (.t 1), 0, 0, false, []⟩,
    ⟨some 15, none, .load true 3 (.t 5), 0, 0, false, []⟩,
    ⟨some 16, none, .call 77 [.t 13, .t 14, .t 15] false false, 0, 0, false, []⟩,
    ⟨some 17, none, .un .not (.t 16), 0, 0, false, []⟩,
    ⟨some 18, none, .mov (.t 17), 0, 0, false, []⟩,
    ⟨some 19, some (18, false), .load true 8 (.t 3), 0, 0, false, []⟩,
    ⟨some 20, some (18, false), .mov (.t 1), 0, 0, false, []⟩,
    ⟨some 21, some (18, false), .load true 3 (.t 5), 0, 0, false, []⟩,
    ⟨some 22, some (18, false), .call 16 [.t 19, .t 20, .t 21] false false, 0, 0, false, []⟩,
    ⟨some 23, some (18, false), .un .not (.t 22), 0, 0, false, []⟩,
    ⟨some 24, none, .pick (.t 18) (.k (.bool true)) (.t 23), 0, 0, false, []⟩,
    ⟨some 12, none, .mov (.t 24), 0, 0, false, []⟩])
   (.cutTo [1, 3, 5, 12] (.cond (.t 12) (.seq (.seg false [⟨some 6, none, .mov (.k (.int .i64 0)), 0, 0, false, []⟩,
    ⟨some 7, none, .mov (.k (.int .i64 0)), 0, 0, false, []⟩])
   (.ret))
   (.seq (.seg false [⟨some 26, none, .load true 8 (.t 3), 0, 0, false, []⟩,
    ⟨some 27, none, .mov (.t 1), 0, 0, false, []⟩,
    ⟨some 28, none, .load true 3 (.t 5), 0, 0, false, []⟩,
    ⟨some 29, none, .call 20 [.t 26, .t 27, .t 28] false false, 0, 0, false, []⟩,
    ⟨some 25, none, .mov (.t 29), 0, 0, false, []⟩])
   (.cutTo [1, 3, 5, 25] (.cond (.t 25) (.seq (.seg true D25x0)
   (.cutTo [6, 7] (.ret)))
   (.skip))))))))
   (.cutTo [1, 3, 5] (.seq (.seg false [⟨some 34, none, .faddr 2 3 (.t 3), 0, 0, false, []⟩,
    ⟨some 35, none, .load true 3 (.t 34), 0, 0, false, []⟩,
    ⟨some 36, none, .mksl true 3 [.t 35], 0, 0, false, []⟩,
    ⟨some 8, none, .mov (.t 36), 0, 0, false, []⟩])
   (.cutTo [1, 3, 5, 8] (.seq (.seq (.seg false [⟨some 37, none, .faddr 5 3 (.t 3), 0, 0, false, []⟩,
    ⟨some 38, none, .load true 3 (.t 37), 0, 0, false, []⟩,
    ⟨some 39, none, .faddr 2 3 (.t 3), 0, 0, false, []⟩,
    ⟨some 40, none, .load true 3 (.t 39), 0, 0, false, []⟩,
    ⟨some 41, none, .eqs true [.int, .int, .str] (.t 38) (.t 40), 0, 0, false, []⟩,
    ⟨some 42, none, .mov (.t 41), 0, 0, false, []⟩,
    ⟨some 43, some (42, true), .faddr 0 1 (.t 3), 0, 0, false, []⟩,
    ⟨some 44, some (42, true), .load false 1 (.t 43), 0, 0, false, []⟩,
    ⟨some 45, some (42, true), .bin .gtr (.t 44) (.k (.int .i64 1)), 0, 0, false, []⟩,
    ⟨some 46, none, .pick (.t 42) (.t 45) (.k (.bool false)), 0, 0, false, []⟩])
   (.cutTo [1, 3, 5, 8, 46] (.cond (.t 46) (.seg false [⟨some 47, none, .mov (.t 8), 0, 0, false, []⟩,
    ⟨some 48, none, .faddr 5 3 (.t 3), 0, 0, false, []⟩,
    ⟨some 49, none, .load true 3 (.t 48), 0, 0, false, []⟩,
    ⟨some 50, none, .mksl false 3 [.t 49], 0, 0, false, []⟩,
    ⟨some 51, none, .app 3 (.t 47) (.t 50), 0, 0, false, []⟩,
    ⟨some 8, none, .mov (.t 51), 0, 0, false, []⟩])
   (.skip))))
   (.cutTo [1, 3, 5, 8] (.seq (.seg false [⟨some 9, none, .mov (.k (.int .i64 0)), 0, 0, false, []⟩])
   (.seq (.seq (.seg false [⟨some 52, none, .mov (.t 8), 0, 0, false, []⟩,
    ⟨some 53, none, .len false (.t 52), 0, 0, false, []⟩,
    ⟨some 54, none, .mov (.k (.int .i64 0)), 0, 0, false, []⟩])
   (.block 1 (.loop [1, 3, 5, 8, 9, 52, 53, 54] [3, 8, 9] L25x0)))
   (.seq (.seg true D25x1)
   (.cutTo [6, 7] (.ret))))))))))))⟩
def E26x0 : List I := [⟨some 23, none, .faddr 0 1 (.t 3), 0, 0, false, []⟩,
    ⟨some 24, none, .load false 1 (.t 23), 0, 0, false, []⟩,
    ⟨some 25, none, .faddr 0 1 (.t 3), 0, 0, false, []⟩,
    ⟨some 26, none, .load false 1 (.t 25), 0, 0, false, []⟩,
    ⟨some 6, none, .mov (.t 24), 0, 0, false, []⟩,
    ⟨some 7, none, .mov (.t 26), 0, 0, false, []⟩]
def D26x0 : List I := E26x0
theorem evD26x0 (run : Run) (e : Env) (h : Heap) : drawI run D26x0 e h = DrawS (evQ run E26x0 e h) run E26x0 e h := drawI_quiet run _ (by rfl) e h
def E26x1 : List I := [⟨some 44, none, .mov (.t 8), 0, 0, false, []⟩,
    ⟨some 45, none, .faddr 0 1 (.t 3), 0, 0, false, []⟩,
    ⟨some 46, none, .load false 1 (.t 45), 0, 0, false, []⟩,
    ⟨some 47, none, .mov (.t 9), 0, 0, false, []⟩,
    ⟨some 48, none, .bin .sub (.t 46) (.t 47), 0, 0, false, []⟩,
    ⟨some 6, none, .mov (.t 44), 0, 0, false, []⟩,
    ⟨some 7, none, .mov (.t 48), 0, 0, false, []⟩]
def D26x1 : List I := E26x1
theorem evD26x1 (run : Run) (e : Env) (h : Heap) : drawI run D26x1 e h = DrawS (evQ run E26x1 e h) run E26x1 e h := drawI_quiet run _ (by rfl) e h
def B26x0 : C := .seq (.seg false [⟨some 31, none, .bin .lss (.t 30) (.t 29), 0, 0, false, []⟩])
   (.seq (.cond (.t 31) (.skip)
   (.exit 1))
   (.seq (.block 2 (.seq (.seg false [⟨some 32, none, .iaddr 3 (.t 28) (.t 30), 0, 0, false, []⟩,
    ⟨some 33, none, .load true 3 (.t 32), 0, 0, false, []⟩,
    ⟨some 11, none, .alloc [.int .i64 0, .int .i64 0, .str ⟨#[]⟩], 0, 0, false, []⟩,
    ⟨none, none, .store 3 (.t 11) (.t 33), 0, 0, false, []⟩])
   (.cutTo [1, 3, 5, 8, 9, 11, 28, 29, 30] (.seq (.seg false [⟨some 34, none, .mov (.t 1), 0, 0, false, []⟩,
    ⟨some 35, none, .load true 3 (.t 11), 0, 0, false, []⟩,
    ⟨some 36, none, .load true 3 (.t 5), 0, 0, false, []⟩,
    ⟨some 37, none, .call 85 [.t 34, .t 35, .t 36] false false, 0, 0, false, []⟩,
    ⟨some 38, none, .bin .eql (.t 37) (.k (.int .i64 1)), 0, 0, false, []⟩])
   (.cutTo [1, 3, 5, 8, 9, 28, 29, 30, 38] (.cond (.t 38) (.seg false [⟨some 39, none, .mov (.t 8), 0, 0, false, []⟩,
    ⟨some 40, none, .bin .add (.t 39) (.k (.int .i64 1)), 0, 0, false, []⟩,
    ⟨some 8, none, .mov (.t 40), 0, 0, false, []⟩])
   (.seg false [⟨some 41, none, .mov (.t 9), 0, 0, false, []⟩,
    ⟨some 42, none, .bin .add (.t 41) (.k (.int .i64 1)), 0, 0, false, []⟩,
    ⟨some 9, none, .mov (.t 42), 0, 0, false, []⟩])))))))
   (.cutTo [1, 3, 5, 8, 9, 28, 29, 30] (.seg false [⟨some 43, none, .bin .add (.t 30) (.k (.int .i64 1)), 0, 0, false, []⟩,
    ⟨some 30, none, .mov (.t 43), 0, 0, false, []⟩]))))
def L26x0 : C := B26x0
theorem evL26x0 (run : Run) (draw : List I → Env → Heap → Option (Env × Heap)) (e : Env) (h : Heap) : evC run draw L26x0 e h = evC run draw B26x0 e h := rfl
/-- loop.example/tablehouse/spec.ManyBounds -/
def F26 : F := ⟨49, [(false, 6, 0, false), (false, 7, 0, false)],
   .seq (.seg false [⟨some 3, none, .box (.t 0), 0, 0, false, []⟩,
    ⟨some 5, none, .box (.t 2), 0, 0, false, []⟩,
    ⟨some 6, none, .mov (.k (.int .i64 0)), 0, 0, false, []⟩,
    ⟨some 7, none, .mov (.k (.int .i64 0)), 0, 0, false, []⟩])
   (.cutTo [1, 3, 5] (.seq (.block 0 (.seq (.seg false [⟨some 13, none, .load true 8 (.t 3), 0, 0, false, []⟩,
    ⟨some 14, none, .mov (.t 1), 0, 0, false, []⟩,
    ⟨some 15, none, .load true 3 (.t 5), 0, 0, false, []⟩,
    ⟨some 16, none, .call 17 [.t 13, .t 14, .t 15] false false, 0, 0, false, []⟩,
    ⟨some 17, none, .un .not (.t 16), 0, 0, false, []⟩,
    ⟨some 12, none, .mov (.t 17), 0, 0, false, []⟩])
   (.cutTo [1, 3, 5, 12] (.cond (.t 12) (.seq (.seg false [⟨some 6, none, .mov (.k (.int .i64 0)), 0, 0, false, []⟩,
    ⟨some 7, none, .mov (.k (.int .i64 0)), 0, 0, false, []⟩])
   (.ret))
   (.seq (.seg false [⟨some 19, none, .load true 8 (.t 3), 0, 0, false, []⟩,
    ⟨some 20, none, .mov (.t 1), 0, 0, false, []⟩,
    ⟨some 21, none, .load true 3 (.t 5), 0, 0, false, []⟩,
    ⟨some 22, none, .call 23 [.t 19, .t 20, .t 21] false false, 0, 0, false, []⟩,
    ⟨some 18, none, .mov (.t 22), 0, 0, false, []⟩])
   (.cutTo [1, 3, 5, 18] (.cond (.t 18) (.seq (.seg true D26x0)
   (.cutTo [6, 7] (.ret)))
   (.skip))))))))
   (.cutTo [1, 3, 5] (.seq (.seg false [⟨some 8, none, .mov (.k (.int .i64 0)), 0, 0, false, []⟩,
    ⟨some 9, none, .mov (.k (.int .i64 0)), 0, 0, false, []⟩])
   (.seq (.seq (.seg false [⟨some 27, none, .load true 8 (.t 3), 0, 0, false, []⟩,
    ⟨some 28, none, .call 84 [.t 27] false false, 0, 0, false, []⟩,
    ⟨some 29, none, .len false (.t 28), 0, 0, false, []⟩,
    ⟨some 30, none, .mov (.k (.int .i64 0)), 0, 0, false, []⟩])
   (.cutTo [1, 3, 5, 8, 9, 28, 29, 30] (.block 1 (.loop [1, 3, 5, 8, 9, 28, 29, 30] [3, 8, 9] L26x0))))
   (.cutTo [3, 8, 9] (.seq (.seg true D26x1)
   (.cutTo [6, 7] (.ret)))))))))⟩
/-- loop.example/tablehouse/spec.DrawKnownColumn -/
def F27 : F := ⟨11, [(false, 2, 0, false), (false, 3, 0, false), (false, 4, 0, false)],
   .seq (.seg false [⟨some 2, none, .mov (.k (.sl true 2 [])), 0, 0, false, []⟩,
    ⟨some 3, none, .mov (.k (.sl true 1 [])), 0, 0, false, []⟩,
    ⟨some 4, none, .mov (.k (.int .i64 0)), 0, 0, false, []⟩])
   (.seq (.seg false [⟨some 5, none, .mov (.t 0), 0, 0, false, []⟩,
    ⟨some 6, none, .call 76 [.t 5] true true, 0, 0, false, []⟩,
    ⟨some 7, none, .call 86 [.t 6, .k (.int .i64 9)] true false, 0, 0, false, []⟩,
    ⟨some 8, none, .ext (.t 7) 0, 0, 0, false, []⟩,
    ⟨some 9, none, .ext (.t 7) 1, 0, 0, false, []⟩,
    ⟨some 10, none, .ext (.t 7) 2, 0, 0, false, []⟩,
    ⟨some 2, none, .mov (.t 8), 0, 0, false, []⟩,
    ⟨some 3, none, .mov (.t 9), 0, 0, false, []⟩,
    ⟨some 4, none, .mov (.t 10), 0, 0, false, []⟩])
   (.cutTo [2, 3, 4] (.ret)))⟩
/-- loop.example/tablehouse/impl.KnownColumn -/
def F28 : F := ⟨33, [(true, 6, 8, true)],
   .seq (.seg false [⟨some 6, none, .alloc [.int .i64 0, .int .i64 0, .int .i64 0, .int .i64 0, .str ⟨#[]⟩, .int .i64 0, .int .i64 0, .str ⟨#[]⟩], 0, 0, false, []⟩])
   (.seq (.seq (.seg false [⟨some 7, none, .mov (.t 0), 0, 0, false, []⟩,
    ⟨some 8, none, .call 87 [.t 7] false false, 0, 0, false, []⟩,
    ⟨some 9, none, .un .not (.t 8), 0, 0, false, []⟩,
    ⟨some 10, none, .mov (.t 9), 0, 0, false, []⟩,
    ⟨some 11, some (10, false), .mov (.t 1), 0, 0, false, []⟩,
    ⟨some 12, some (10, false), .len false (.t 11), 0, 0, false, []⟩,
    ⟨some 13, some (10, false), .bin .gtr (.t 12) (.k (.int .i64 100)), 0, 0, false, []⟩,
    ⟨some 14, none, .pick (.t 10) (.k (.bool true)) (.t 13), 0, 0, false, []⟩,
    ⟨some 15, none, .mov (.t 14), 0, 0, false, []⟩,
    ⟨some 16, some (15, false), .mov (.t 0), 0, 0, false, []⟩,
    ⟨some 17, some (15, false), .mov (.t 1), 0, 0, false, []⟩,
    ⟨some 18, some (15, false), .call 30 [.t 16, .t 17] false false, 0, 0, false, []⟩,
    ⟨some 19, some (15, false), .un .not (.t 18), 0, 0, false, []⟩,
    ⟨some 20, none, .pick (.t 15) (.k (.bool true)) (.t 19), 0, 0, false, []⟩,
    ⟨some 21, none, .mov (.t 20), 0, 0, false, []⟩,
    ⟨some 22, some (21, false), .mov (.t 2), 0, 0, false, []⟩,
    ⟨some 23, some (21, false), .mov (.t 0), 0, 0, false, []⟩,
    ⟨some 24, some (21, false), .len false (.t 23), 0, 0, false, []⟩,
    ⟨some 25, some (21, false), .bin .sub (.t 24) (.k (.int .i64 1)), 0, 0, false, []⟩,
    ⟨some 26, some (21, false), .call 82 [.t 22, .k (.int .i64 0), .t 25] false false, 0, 0, false, []⟩,
    ⟨some 27, some (21, false), .un .not (.t 26), 0, 0, false, []⟩,
    ⟨some 28, none, .pick (.t 21) (.k (.bool true)) (.t 27), 0, 0, false, []⟩])
   (.cutTo [1, 2, 6, 28] (.cond (.t 28) (.seq (.seg false [⟨some 29, none, .build [.int .i64 0, .int .i64 0, .int .i64 0, .int .i64 0, .str ⟨#[]⟩, .int .i64 0, .int .i64 0, .str ⟨#[]⟩] [], 0, 0, false, []⟩,
    ⟨none, none, .store 8 (.t 6) (.t 29), 0, 0, false, []⟩])
   (.ret))
   (.skip))))
   (.cutTo [1, 2, 6] (.seq (.seg false [⟨some 30, none, .mov (.t 1), 0, 0, false, []⟩,
    ⟨some 31, none, .mov (.t 2), 0, 0, false, []⟩,
    ⟨some 32, none, .call 88 [.t 30, .t 31] false false, 0, 0, false, []⟩,
    ⟨none, none, .store 8 (.t 6) (.t 32), 0, 0, false, []⟩])
   (.cutTo [6] (.ret)))))⟩
def E29x0 : List I := [⟨some 34, none, .load true 8 (.t 7), 0, 0, false, []⟩,
    ⟨some 35, none, .mov (.t 1), 0, 0, false, []⟩,
    ⟨some 36, none, .mov (.t 8), 0, 0, false, []⟩,
    ⟨some 37, none, .iaddr 1 (.t 35) (.t 36), 0, 0, false, []⟩,
    ⟨some 38, none, .load false 1 (.t 37), 0, 0, false, []⟩,
    ⟨some 39, none, .mov (.t 2), 0, 0, false, []⟩,
    ⟨some 40, none, .iaddr 3 (.t 38) (.t 39), 0, 0, false, []⟩,
    ⟨some 41, none, .load true 3 (.t 40), 0, 0, false, []⟩,
    ⟨some 42, none, .call 92 [.t 41] false false, 0, 0, false, []⟩,
    ⟨some 43, none, .call 91 [.t 34, .t 42] false false, 0, 0, false, []⟩,
    ⟨none, none, .store 8 (.t 7) (.t 43), 0, 0, true, []⟩]
def D29x0 : List I := E29x0
theorem evD29x0 (run : Run) (e : Env) (h : Heap) : drawI run D29x0 e h = DrawW (evW run E29x0 e h []) run E29x0 e h := drawI_write run _ e h
def B29x0 : C := .seq (.seq (.seg false [⟨some 28, none, .mov (.t 8), 0, 0, false, []⟩,
    ⟨some 29, none, .mov (.t 1), 0, 0, false, []⟩,
    ⟨some 30, none, .len false (.t 29), 0, 0, false, []⟩,
    ⟨some 31, none, .bin .lss (.t 28) (.t 30), 0, 0, false, []⟩])
   (.cutTo [1, 2, 6, 7, 8, 31] (.cond (.t 31) (.skip)
   (.exit 0))))
   (.cutTo [1, 2, 6, 7, 8] (.seq (.block 1 (.seg true D29x0))
   (.cutTo [1, 2, 6, 7, 8] (.seg false [⟨some 32, none, .mov (.t 8), 0, 0, false, []⟩,
    ⟨some 33, none, .bin .add (.t 32) (.k (.int .i64 1)), 0, 0, false, []⟩,
    ⟨some 8, none, .mov (.t 33), 0, 0, false, []⟩]))))
def L29x0 : C := B29x0
theorem evL29x0 (run : Run) (draw : List I → Env → Heap → Option (Env × Heap)) (e : Env) (h : Heap) : evC run draw L29x0 e h = evC run draw B29x0 e h := rfl
/-- loop.example/tablehouse/spec.KnownColumn -/
def F29 : F := ⟨45, [(true, 6, 8, true)],
   .seq (.seg false [⟨some 6, none, .alloc [.int .i64 0, .int .i64 0, .int .i64 0, .int .i64 0, .str ⟨#[]⟩, .int .i64 0, .int .i64 0, .str ⟨#[]⟩], 0, 0, false, []⟩])
   (.seq (.seg false [⟨some 9, none, .build [.int .i64 0, .int .i64 0, .int .i64 0, .int .i64 0, .str ⟨#[]⟩, .int .i64 0, .int .i64 0, .str ⟨#[]⟩] [], 0, 0, false, []⟩,
    ⟨some 7, none, .alloc [.int .i64 0, .int .i64 0, .int .i64 0, .int .i64 0, .str ⟨#[]⟩, .int .i64 0, .int .i64 0, .str ⟨#[]⟩], 0, 0, false, []⟩,
    ⟨none, none, .store 8 (.t 7) (.t 9), 0, 0, false, []⟩])
   (.seq (.seq (.seg false [⟨some 10, none, .mov (.t 0), 0, 0, false, []⟩,
    ⟨some 11, none, .mov (.t 1), 0, 0, false, []⟩,
    ⟨some 12, none, .call 89 [.t 10, .t 11] false false, 0, 0, false, []⟩,
    ⟨some 13, none, .un .not (.t 12), 0, 0, false, []⟩,
    ⟨some 14, none, .mov (.t 13), 0, 0, false, []⟩,
    ⟨some 15, some (14, false), .mov (.t 1), 0, 0, false, []⟩,
    ⟨some 16, some (14, false), .len false (.t 15), 0, 0, false, []⟩,
    ⟨some 17, some (14, false), .bin .gtr (.t 16) (.k (.int .i64 100)), 0, 0, false, []⟩,
    ⟨some 18, none, .pick (.t 14) (.k (.bool true)) (.t 17), 0, 0, false, []⟩,
    ⟨some 19, none, .mov (.t 18), 0, 0, false, []⟩,
    ⟨some 20, some (19, false), .mov (.t 2), 0, 0, false, []⟩,
    ⟨some 21, some (19, false), .mov (.t 0), 0, 0, false, []⟩,
    ⟨some 22, some (19, false), .len false (.t 21), 0, 0, false, []⟩,
    ⟨some 23, some (19, false), .bin .sub (.t 22) (.k (.int .i64 1)), 0, 0, false, []⟩,
    ⟨some 24, some (19, false), .call 90 [.t 20, .k (.int .i64 0), .t 23] false false, 0, 0, false, []⟩,
    ⟨some 25, some (19, false), .un .not (.t 24), 0, 0, false, []⟩,
    ⟨some 26, none, .pick (.t 19) (.k (.bool true)) (.t 25), 0, 0, false, []⟩])
   (.cutTo [1, 2, 6, 7, 26] (.cond (.t 26) (.seq (.seg false [⟨some 27, none, .load true 8 (.t 7), 0, 0, false, []⟩,
    ⟨none, none, .store 8 (.t 6) (.t 27), 0, 0, false, []⟩])
   (.ret))
   (.skip))))
   (.cutTo [1, 2, 6, 7] (.seq (.seq (.seg false [⟨some 8, none, .mov (.k (.int .i64 0)), 0, 0, false, []⟩])
   (.block 0 (.loop [1, 2, 6, 7, 8] [6, 7] L29x0)))
   (.seq (.seg false [⟨some 44, none, .load true 8 (.t 7), 0, 0, false, []⟩,
    ⟨none, none, .store 8 (.t 6) (.t 44), 0, 0, false, []⟩])
   (.ret))))))⟩
/-- loop.example/tablehouse/impl.RowsOk -/
def F30 : F := ⟨13, [(false, 4, 0, false)],
   .seq (.seg false [⟨some 2, none, .box (.t 0), 0, 0, false, []⟩,
    ⟨some 4, none, .mov (.k (.bool false)), 0, 0, false, []⟩])
   (.seq (.seg false [⟨some 5, none, .load false 1 (.t 2), 0, 0, false, []⟩,
    ⟨some 6, none, .call 87 [.t 5] false false, 0, 0, false, []⟩,
    ⟨some 7, none, .mov (.t 6), 0, 0, false, []⟩,
    ⟨some 8, some (7, true), .mov (.t 1), 0, 0, false, []⟩,
    ⟨some 9, some (7, true), .mkclo 94 [.t 2], 0, 0, false, []⟩,
    ⟨some 10, some (7, true), .call 93 [.t 8, .t 9] true false, 0, 0, false, []⟩,
    ⟨some 11, some (7, true), .un .not (.t 10), 0, 0, false, []⟩,
    ⟨some 12, none, .pick (.t 7) (.t 11) (.k (.bool false)), 0, 0, false, []⟩,
    ⟨some 4, none, .mov (.t 12), 0, 0, false, []⟩])
   (.cutTo [4] (.ret)))⟩
def E31x0 : List I := [⟨some 42, none, .faddr 0 1 (.t 2), 0, 2, false, []⟩,
    ⟨some 43, none, .load false 1 (.t 42), 0, 2, false, []⟩,
    ⟨some 44, none, .faddr 0 1 (.t 3), 0, 2, false, []⟩,
    ⟨some 45, none, .load false 1 (.t 44), 0, 2, false, []⟩,
    ⟨some 46, none, .bin .add (.t 43) (.t 45), 0, 2, false, []⟩,
    ⟨some 47, none, .faddr 1 1 (.t 2), 0, 2, false, []⟩,
    ⟨some 48, none, .load false 1 (.t 47), 0, 2, false, []⟩,
    ⟨some 49, none, .faddr 1 1 (.t 3), 0, 2, false, []⟩,
    ⟨some 50, none, .load false 1 (.t 49), 0, 2, false, []⟩,
    ⟨some 51, none, .bin .add (.t 48) (.t 50), 0, 2, false, []⟩,
    ⟨some 52, none, .faddr 2 3 (.t 2), 0, 0, false, []⟩,
    ⟨some 53, none, .load true 3 (.t 52), 0, 0, false, []⟩,
    ⟨some 54, none, .faddr 2 3 (.t 3), 0, 0, false, []⟩,
    ⟨some 55, none, .load true 3 (.t 54), 0, 0, false, []⟩,
    ⟨some 56, none, .mksl false 3 [.t 53, .t 55], 0, 0, false, []⟩,
    ⟨some 57, none, .call 96 [.t 56, .k (.clo 78 [])] true false, 0, 0, true, []⟩,
    ⟨some 58, none, .faddr 5 3 (.t 2), 0, 1, false, []⟩,
    ⟨some 59, none, .load true 3 (.t 58), 0, 1, false, []⟩,
    ⟨some 60, none, .faddr 5 3 (.t 3), 0, 1, false, []⟩,
    ⟨some 61, none, .load true 3 (.t 60), 0, 1, false, []⟩,
    ⟨some 62, none, .mksl false 3 [.t 59, .t 61], 0, 1, false, []⟩,
    ⟨some 63, none, .call 97 [.t 62, .k (.clo 78 [])] true false, 1, 0, true, []⟩,
    ⟨some 64, none, .build [.int .i64 0, .int .i64 0, .int .i64 0, .int .i64 0, .str ⟨#[]⟩, .int .i64 0, .int .i64 0, .str ⟨#[]⟩] [(0, 1, .t 46), (1, 1, .t 51), (2, 3, .t 57), (5, 3, .t 63)], 2, 2, false, []⟩,
    ⟨none, none, .store 8 (.t 4) (.t 64), 2, 0, true, []⟩]
def D31x0 : List I := E31x0
theorem evD31x0 (run : Run) (e : Env) (h : Heap) : drawI run D31x0 e h = DrawW (evW run E31x0 e h []) run E31x0 e h := drawI_write run _ e h
/-- loop.example/tablehouse/impl.KnownBoth -/
def F31 : F := ⟨65, [(true, 4, 8, true)],
   .seq (.seg false [⟨some 2, none, .box (.t 0), 0, 0, false, []⟩,
    ⟨some 3, none, .box (.t 1), 0, 0, false, []⟩,
    ⟨some 4, none, .alloc [.int .i64 0, .int .i64 0, .int .i64 0, .int .i64 0, .str ⟨#[]⟩, .int .i64 0, .int .i64 0, .str ⟨#[]⟩], 0, 0, false, []⟩])
   (.seq (.block 0 (.seq (.seg false [⟨some 6, none, .load true 8 (.t 2), 0, 0, false, []⟩,
    ⟨some 7, none, .call 18 [.t 6] false false, 0, 0, false, []⟩,
    ⟨some 8, none, .un .not (.t 7), 0, 0, false, []⟩,
    ⟨some 9, none, .mov (.t 8), 0, 0, false, []⟩,
    ⟨some 10, some (9, false), .load true 8 (.t 3), 0, 0, false, []⟩,
    ⟨some 11, some (9, false), .call 18 [.t 10] false false, 0, 0, false, []⟩,
    ⟨some 12, some (9, false), .un .not (.t 11), 0, 0, false, []⟩,
    ⟨some 13, none, .pick (.t 9) (.k (.bool true)) (.t 12), 0, 0, false, []⟩,
    ⟨some 5, none, .mov (.t 13), 0, 0, false, []⟩])
   (.cutTo [2, 3, 4, 5] (.cond (.t 5) (.seq (.seg false [⟨some 14, none, .build [.int .i64 0, .int .i64 0, .int .i64 0, .int .i64 0, .str ⟨#[]⟩, .int .i64 0, .int .i64 0, .str ⟨#[]⟩] [], 0, 0, false, []⟩,
    ⟨none, none, .store 8 (.t 4) (.t 14), 0, 0, false, []⟩])
   (.ret))
   (.seq (.seg false [⟨some 16, none, .faddr 0 1 (.t 2), 0, 0, false, []⟩,
    ⟨some 17, none, .load false 1 (.t 16), 0, 0, false, []⟩,
    ⟨some 18, none, .bin .eql (.t 17) (.k (.int .i64 0)), 0, 0, false, []⟩,
    ⟨some 15, none, .mov (.t 18), 0, 0, false, []⟩])
   (.cutTo [2, 3, 4, 15] (.cond (.t 15) (.seq (.seg false [⟨some 19, none, .load true 8 (.t 3), 0, 0, false, []⟩,
    ⟨none, none, .store 8 (.t 4) (.t 19), 0, 0, false, []⟩])
   (.ret))
   (.seq (.seg false [⟨some 21, none, .faddr 0 1 (.t 3), 0, 0, false, []⟩,
    ⟨some 22, none, .load false 1 (.t 21), 0, 0, false, []⟩,
    ⟨some 23, none, .bin .eql (.t 22) (.k (.int .i64 0)), 0, 0, false, []⟩,
    ⟨some 20, none, .mov (.t 23), 0, 0, false, []⟩])
   (.cutTo [2, 3, 4, 20] (.cond (.t 20) (.seq (.seg false [⟨some 24, none, .load true 8 (.t 2), 0, 0, false, []⟩,
    ⟨none, none, .store 8 (.t 4) (.t 24), 0, 0, false, []⟩])
   (.ret))
   (.seq (.seg false [⟨some 26, none, .faddr 2 3 (.t 2), 0, 0, false, []⟩,
    ⟨some 27, none, .faddr 0 1 (.t 26), 0, 0, false, []⟩,
    ⟨some 28, none, .load false 1 (.t 27), 0, 0, false, []⟩,
    ⟨some 29, none, .faddr 2 3 (.t 3), 0, 0, false, []⟩,
    ⟨some 30, none, .faddr 0 1 (.t 29), 0, 0, false, []⟩,
    ⟨some 31, none, .load false 1 (.t 30), 0, 0, false, []⟩,
    ⟨some 32, none, .bin .neq (.t 28) (.t 31), 0, 0, false, []⟩,
    ⟨some 33, none, .mov (.t 32), 0, 0, false, []⟩,
    ⟨some 34, some (33, false), .faddr 0 1 (.t 2), 0, 0, false, []⟩,
    ⟨some 35, some (33, false), .load false 1 (.t 34), 0, 0, false, []⟩,
    ⟨some 36, some (33, false), .faddr 0 1 (.t 3), 0, 0, false, []⟩,
    ⟨some 37, some (33, false), .load false 1 (.t 36), 0, 0, false, []⟩,
    ⟨some 38, some (33, false), .bin .add (.t 35) (.t 37), 0, 0, false, []⟩,
    ⟨some 39, some (33, false), .bin .gtr (.t 38) (.k (.int .i64 100)), 0, 0, false, []⟩,
    ⟨some 40, none, .pick (.t 33) (.k (.bool true)) (.t 39), 0, 0, false, []⟩,
    ⟨some 25, none, .mov (.t 40), 0, 0, false, []⟩])
   (.cutTo [2, 3, 4, 25] (.cond (.t 25) (.seq (.seg false [⟨some 41, none, .build [.int .i64 0, .int .i64 0, .int .i64 0, .int .i64 0, .str ⟨#[]⟩, .int .i64 0, .int .i64 0, .str ⟨#[]⟩] [], 0, 0, false, []⟩,
    ⟨none, none, .store 8 (.t 4) (.t 41), 0, 0, false, []⟩])
   (.ret))
   (.skip))))))))))))))
   (.cutTo [2, 3, 4] (.seq (.seg true D31x0)
   (.cutTo [4] (.ret)))))⟩
def E39x0 : List I := [⟨some 19, none, .mov (.t 8), 0, 2, false, []⟩,
    ⟨some 20, none, .mov (.t 9), 0, 2, false, []⟩,
    ⟨some 21, none, .mov (.t 10), 0, 2, false, []⟩,
    ⟨some 22, none, .mov (.t 7), 0, 0, false, []⟩,
    ⟨some 23, none, .call 104 [.t 22, .k (.int .i64 4)] true false, 0, 0, true, []⟩,
    ⟨some 24, none, .bin .add (.k (.int .i64 1)) (.t 23), 1, 2, false, []⟩,
    ⟨some 25, none, .mov (.t 7), 0, 1, false, []⟩,
    ⟨some 26, none, .mov (.t 8), 0, 1, false, []⟩,
    ⟨some 27, none, .mov (.t 10), 0, 1, false, []⟩,
    ⟨some 28, none, .iaddr 2 (.t 26) (.t 27), 0, 1, false, []⟩,
    ⟨some 29, none, .faddr 0 1 (.t 28), 0, 1, false, []⟩,
    ⟨some 30, none, .load false 1 (.t 29), 0, 1, false, []⟩,
    ⟨some 31, none, .build [.int .i64 0, .bool false] [(0, 1, .t 30)], 0, 1, false, []⟩,
    ⟨some 32, none, .call 105 [.t 25, .t 31] true false, 1, 0, true, []⟩,
    ⟨some 2, none, .mov (.t 19), 2, 2, false, []⟩,
    ⟨some 3, none, .mov (.t 20), 2, 2, false, []⟩,
    ⟨some 4, none, .mov (.t 21), 2, 2, false, []⟩,
    ⟨some 5, none, .mov (.t 24), 2, 2, false, []⟩,
    ⟨none, none, .store 3 (.t 6) (.t 32), 2, 0, true, []⟩]
def D39x0 : List I := E39x0
theorem evD39x0 (run : Run) (e : Env) (h : Heap) : drawI run D39x0 e h = DrawW (evW run E39x0 e h []) run E39x0 e h := drawI_write run _ e h
/-- loop.example/tablehouse/spec.DrawSkipped -/
def F39 : F := ⟨33, [(false, 2, 0, false), (false, 3, 0, false), (false, 4, 0, false), (false, 5, 0, false), (true, 6, 3, true)],
   .seq (.seg false [⟨some 2, none, .mov (.k (.sl true 2 [])), 0, 0, false, []⟩,
    ⟨some 3, none, .mov (.k (.sl true 1 [])), 0, 0, false, []⟩,
    ⟨some 4, none, .mov (.k (.int .i64 0)), 0, 0, false, []⟩,
    ⟨some 5, none, .mov (.k (.int .i64 0)), 0, 0, false, []⟩,
    ⟨some 6, none, .alloc [.int .i64 0, .int .i64 0, .str ⟨#[]⟩], 0, 0, false, []⟩])
   (.cutTo [0, 6] (.seq (.seg false [⟨some 11, none, .mov (.t 0), 0, 0, false, []⟩,
    ⟨some 12, none, .call 76 [.t 11] true true, 0, 0, false, []⟩,
    ⟨some 7, none, .mov (.t 12), 0, 0, false, []⟩])
   (.seq (.seg false [⟨some 14, none, .mov (.t 7), 0, 0, false, []⟩,
    ⟨some 15, none, .call 86 [.t 14, .k (.int .i64 0)] true false, 0, 0, false, []⟩,
    ⟨some 13, none, .mov (.t 15), 0, 0, false, []⟩,
    ⟨some 16, none, .ext (.t 13) 0, 0, 0, false, []⟩,
    ⟨some 17, none, .ext (.t 13) 1, 0, 0, false, []⟩,
    ⟨some 18, none, .ext (.t 13) 2, 0, 0, false, []⟩,
    ⟨some 8, none, .mov (.t 16), 0, 0, false, []⟩,
    ⟨some 9, none, .mov (.t 17), 0, 0, false, []⟩,
    ⟨some 10, none, .mov (.t 18), 0, 0, false, []⟩])
   (.cutTo [6, 7, 8, 9, 10] (.seq (.seg true D39x0)
   (.cutTo [2, 3, 4, 5, 6] (.ret)))))))⟩
/-- loop.example/tablehouse/impl.Compare -/
def F40 : F := ⟨71, [(false, 6, 0, false)],
   .seq (.seg false [⟨some 4, none, .box (.t 1), 0, 0, false, []⟩,
    ⟨some 5, none, .box (.t 2), 0, 0, false, []⟩,
    ⟨some 6, none, .mov (.k (.int .i64 0)), 0, 0, false, []⟩])
   (.seq (.block 0 (.seq (.seg false [⟨some 9, none, .mov (.t 0), 0, 0, false, []⟩,
    ⟨some 10, none, .call 82 [.t 9, .k (.int .i64 1), .k (.int .i64 4)] false false, 0, 0, false, []⟩,
    ⟨some 11, none, .un .not (.t 10), 0, 0, false, []⟩,
    ⟨some 12, none, .mov (.t 11), 0, 0, false, []⟩,
    ⟨some 13, some (12, false), .load true 3 (.t 4), 0, 0, false, []⟩,
    ⟨some 14, some (12, false), .call 83 [.t 13] false false, 0, 0, false, []⟩,
    ⟨some 15, some (12, false), .un .not (.t 14), 0, 0, false, []⟩,
    ⟨some 16, none, .pick (.t 12) (.k (.bool true)) (.t 15), 0, 0, false, []⟩,
    ⟨some 17, none, .mov (.t 16), 0, 0, false, []⟩,
    ⟨some 18, some (17, false), .load true 3 (.t 5), 0, 0, false, []⟩,
    ⟨some 19, some (17, false), .call 83 [.t 18] false false, 0, 0, false, []⟩,
    ⟨some 20, some (17, false), .un .not (.t 19), 0, 0, false, []⟩,
    ⟨some 21, none, .pick (.t 17) (.k (.bool true)) (.t 20), 0, 0, false, []⟩,
    ⟨some 8, none, .mov (.t 21), 0, 0, false, []⟩])
   (.cutTo [0, 4, 5, 8] (.cond (.t 8) (.seq (.seg false [⟨some 6, none, .mov (.k (.int .i64 (-1))), 0, 0, false, []⟩])
   (.ret))
   (.seq (.seg false [⟨some 23, none, .faddr 0 1 (.t 4), 0, 0, false, []⟩,
    ⟨some 24, none, .load false 1 (.t 23), 0, 0, false, []⟩,
    ⟨some 25, none, .bin .eql (.t 24) (.k (.int .i64 0)), 0, 0, false, []⟩,
    ⟨some 26, none, .mov (.t 25), 0, 0, false, []⟩,
    ⟨some 27, some (26, false), .faddr 0 1 (.t 5), 0, 0, false, []⟩,
    ⟨some 28, some (26, false), .load false 1 (.t 27), 0, 0, false, []⟩,
    ⟨some 29, some (26, false), .bin .eql (.t 28) (.k (.int .i64 0)), 0, 0, false, []⟩,
    ⟨some 30, none, .pick (.t 26) (.k (.bool true)) (.t 29), 0, 0, false, []⟩,
    ⟨some 22, none, .mov (.t 30), 0, 0, false, []⟩])
   (.cutTo [0, 4, 5, 22] (.cond (.t 22) (.seq (.seg false [⟨some 6, none, .mov (.k (.int .i64 2)), 0, 0, false, []⟩])
   (.ret))
   (.seq (.seg false [⟨some 32, none, .faddr 0 1 (.t 4), 0, 0, false, []⟩,
    ⟨some 33, none, .load false 1 (.t 32), 0, 0, false, []⟩,
    ⟨some 34, none, .faddr 0 1 (.t 5), 0, 0, false, []⟩,
    ⟨some 35, none, .load false 1 (.t 34), 0, 0, false, []⟩,
    ⟨some 36, none, .bin .neq (.t 33) (.t 35), 0, 0, false, []⟩,
    ⟨some 31, none, .mov (.t 36), 0, 0, false, []⟩])
   (.cutTo [0, 4, 5, 31] (.cond (.t 31) (.seq (.seg false [⟨some 6, none, .mov (.k (.int .i64 (-1))), 0, 0, false, []⟩])
   (.ret))
   (.skip)))))))))))
   (.cutTo [0, 4, 5] (.seq (.seg false [⟨some 37, none, .load true 3 (.t 4), 0, 0, false, []⟩,
    ⟨some 38, none, .load true 3 (.t 5), 0, 0, false, []⟩,
    ⟨some 39, none, .call 78 [.t 37, .t 38] false false, 0, 0, false, []⟩,
    ⟨some 7, none, .mov (.t 39), 0, 0, false, []⟩])
   (.cutTo [0, 7] (.seq (.seg false [⟨some 40, none, .mov (.t 0), 0, 0, false, []⟩,
    ⟨some 41, none, .bin .eql (.t 40) (.k (.int .i64 1)), 0, 0, false, []⟩,
    ⟨some 42, none, .mov (.t 41), 0, 0, false, []⟩,
    ⟨some 43, some (42, true), .mov (.t 7), 0, 0, false, []⟩,
    ⟨some 44, some (42, true), .bin .eql (.t 43) (.k (.int .i64 0)), 0, 0, false, []⟩,
    ⟨some 45, none, .pick (.t 42) (.t 44) (.k (.bool false)), 0, 0, false, []⟩,
    ⟨some 46, none, .mov (.t 45), 0, 0, false, []⟩,
    ⟨some 47, some (46, false), .mov (.t 0), 0, 0, false, []⟩,
    ⟨some 48, some (46, false), .bin .eql (.t 47) (.k (.int .i64 2)), 0, 0, false, []⟩,
    ⟨some 49, some (46, false), .mov (.t 48), 0, 0, false, []⟩,
    ⟨some 50, some (49, true), .mov (.t 7), 0, 0, false, []⟩,
    ⟨some 51, some (49, true), .bin .neq (.t 50) (.k (.int .i64 0)), 0, 0, false, []⟩,
    ⟨some 52, some (46, false), .pick (.t 49) (.t 51) (.k (.bool false)), 0, 0, false, []⟩,
    ⟨some 53, none, .pick (.t 46) (.k (.bool true)) (.t 52), 0, 0, false, []⟩,
    ⟨some 54, none, .mov (.t 53), 0, 0, false, []⟩,
    ⟨some 55, some (54, false), .mov (.t 0), 0, 0, false, []⟩,
    ⟨some 56, some (54, false), .bin .eql (.t 55) (.k (.int .i64 3)), 0, 0, false, []⟩,
    ⟨some 57, some (54, false), .mov (.t 56), 0, 0, false, []⟩,
    ⟨some 58, some (57, true), .mov (.t 7), 0, 0, false, []⟩,
    ⟨some 59, some (57, true), .bin .lss (.t 58) (.k (.int .i64 0)), 0, 0, false, []⟩,
    ⟨some 60, some (54, false), .pick (.t 57) (.t 59) (.k (.bool false)), 0, 0, false, []⟩,
    ⟨some 61, none, .pick (.t 54) (.k (.bool true)) (.t 60), 0, 0, false, []⟩,
    ⟨some 62, none, .mov (.t 61), 0, 0, false, []⟩,
    ⟨some 63, some (62, false), .mov (.t 0), 0, 0, false, []⟩,
    ⟨some 64, some (62, false), .bin .eql (.t 63) (.k (.int .i64 4)), 0, 0, false, []⟩,
    ⟨some 65, some (62, false), .mov (.t 64), 0, 0, false, []⟩,
    ⟨some 66, some (65, true), .mov (.t 7), 0, 0, false, []⟩,
    ⟨some 67, some (65, true), .bin .leq (.t 66) (.k (.int .i64 0)), 0, 0, false, []⟩,
    ⟨some 68, some (62, false), .pick (.t 65) (.t 67) (.k (.bool false)), 0, 0, false, []⟩,
    ⟨some 69, none, .pick (.t 62) (.k (.bool true)) (.t 68), 0, 0, false, []⟩,
    ⟨some 70, none, .call 106 [.t 69] false false, 0, 0, false, []⟩,
    ⟨some 6, none, .mov (.t 70), 0, 0, false, []⟩])
   (.cutTo [6] (.ret)))))))⟩
/-- loop.example/tablehouse/laws.szColumnS -/
def F32 : F := ⟨12, [(false, 4, 0, false)],
   .seq (.seg false [⟨some 4, none, .mov (.k (.int .i64 0)), 0, 0, false, []⟩])
   (.seq (.seg false [⟨some 5, none, .mov (.t 1), 0, 0, false, []⟩,
    ⟨some 6, none, .mov (.t 0), 0, 0, false, []⟩,
    ⟨some 7, none, .len false (.t 6), 0, 0, false, []⟩,
    ⟨some 8, none, .bin .sub (.t 5) (.t 7), 0, 0, false, []⟩,
    ⟨some 1, none, .mov (.t 8), 0, 0, false, []⟩])
   (.cutTo [1] (.seq (.seq (.seg false [⟨some 9, none, .mov (.t 1), 0, 0, false, []⟩,
    ⟨some 10, none, .bin .lss (.t 9) (.k (.int .i64 0)), 0, 0, false, []⟩])
   (.cond (.t 10) (.seq (.seg false [⟨some 4, none, .mov (.k (.int .i64 (-1))), 0, 0, false, []⟩])
   (.ret))
   (.skip)))
   (.seq (.seg false [⟨some 11, none, .mov (.t 1), 0, 0, false, []⟩,
    ⟨some 4, none, .mov (.t 11), 0, 0, false, []⟩])
   (.ret)))))⟩
def B33x0 : C := .seq (.seq (.seg false [⟨some 12, none, .mov (.t 5), 0, 0, false, []⟩,
    ⟨some 13, none, .mov (.t 0), 0, 0, false, []⟩,
    ⟨some 14, none, .len false (.t 13), 0, 0, false, []⟩,
    ⟨some 15, none, .bin .lss (.t 12) (.t 14), 0, 0, false, []⟩])
   (.cutTo [0, 1, 5, 15] (.cond (.t 15) (.skip)
   (.exit 0))))
   (.cutTo [0, 1, 5] (.seq (.block 1 (.seq (.seg false [⟨some 18, none, .mov (.t 0), 0, 0, false, []⟩,
    ⟨some 19, none, .mov (.t 5), 0, 0, false, []⟩,
    ⟨some 20, none, .iaddr 1 (.t 18) (.t 19), 0, 0, false, []⟩,
    ⟨some 21, none, .load false 1 (.t 20), 0, 0, false, []⟩,
    ⟨some 22, none, .mov (.t 1), 0, 0, false, []⟩,
    ⟨some 23, none, .call 98 [.t 21, .t 22] false false, 0, 0, false, []⟩,
    ⟨some 1, none, .mov (.t 23), 0, 0, false, []⟩])
   (.cutTo [0, 1, 5] (.seq (.seg false [⟨some 24, none, .mov (.t 1), 0, 0, false, []⟩,
    ⟨some 25, none, .bin .lss (.t 24) (.k (.int .i64 0)), 0, 0, false, []⟩])
   (.cond (.t 25) (.seq (.seg false [⟨some 4, none, .mov (.k (.int .i64 (-1))), 0, 0, false, []⟩])
   (.ret))
   (.skip))))))
   (.cutTo [0, 1, 5] (.seg false [⟨some 16, none, .mov (.t 5), 0, 0, false, []⟩,
    ⟨some 17, none, .bin .add (.t 16) (.k (.int .i64 1)), 0, 0, false, []⟩,
    ⟨some 5, none, .mov (.t 17), 0, 0, false, []⟩]))))
def L33x0 : C := B33x0
theorem evL33x0 (run : Run) (draw : List I → Env → Heap → Option (Env × Heap)) (e : Env) (h : Heap) : evC run draw L33x0 e h = evC run draw B33x0 e h := rfl
/-- loop.example/tablehouse/laws.szValueSS -/
def F33 : F := ⟨27, [(false, 4, 0, false)],
   .seq (.seg false [⟨some 4, none, .mov (.k (.int .i64 0)), 0, 0, false, []⟩])
   (.seq (.seg false [⟨some 6, none, .mov (.t 1), 0, 0, false, []⟩,
    ⟨some 7, none, .mov (.t 0), 0, 0, false, []⟩,
    ⟨some 8, none, .len false (.t 7), 0, 0, false, []⟩,
    ⟨some 9, none, .bin .sub (.t 6) (.t 8), 0, 0, false, []⟩,
    ⟨some 1, none, .mov (.t 9), 0, 0, false, []⟩])
   (.cutTo [0, 1] (.seq (.seq (.seg false [⟨some 10, none, .mov (.t 1), 0, 0, false, []⟩,
    ⟨some 11, none, .bin .lss (.t 10) (.k (.int .i64 0)), 0, 0, false, []⟩])
   (.cond (.t 11) (.seq (.seg false [⟨some 4, none, .mov (.k (.int .i64 (-1))), 0, 0, false, []⟩])
   (.ret))
   (.skip)))
   (.seq (.seq (.seg false [⟨some 5, none, .mov (.k (.int .i64 0)), 0, 0, false, []⟩])
   (.block 0 (.loop [0, 1, 5] [1, 4] L33x0)))
   (.seq (.seg false [⟨some 26, none, .mov (.t 1), 0, 0, false, []⟩,
    ⟨some 4, none, .mov (.t 26), 0, 0, false, []⟩])
   (.ret))))))⟩
def B34x0 : C := .seq (.seq (.seg false [⟨some 8, none, .mov (.t 4), 0, 0, false, []⟩,
    ⟨some 9, none, .mov (.t 0), 0, 0, false, []⟩,
    ⟨some 10, none, .len false (.t 9), 0, 0, false, []⟩,
    ⟨some 11, none, .bin .lss (.t 8) (.t 10), 0, 0, false, []⟩])
   (.cutTo [0, 3, 4, 11] (.cond (.t 11) (.skip)
   (.exit 0))))
   (.cutTo [0, 3, 4] (.seq (.block 1 (.seg false [⟨some 14, none, .mov (.t 3), 0, 0, false, []⟩,
    ⟨some 15, none, .mov (.t 4), 0, 0, false, []⟩,
    ⟨some 16, none, .mov (.t 0), 0, 0, false, []⟩,
    ⟨some 17, none, .mov (.t 4), 0, 0, false, []⟩,
    ⟨some 18, none, .iaddr 2 (.t 16) (.t 17), 0, 0, false, []⟩,
    ⟨some 19, none, .load true 2 (.t 18), 0, 0, false, []⟩,
    ⟨some 20, none, .call 99 [.t 19] false false, 0, 0, false, []⟩,
    ⟨some 21, none, .iaddr 2 (.t 14) (.t 15), 0, 0, false, []⟩,
    ⟨none, none, .store 2 (.t 21) (.t 20), 0, 0, false, []⟩]))
   (.cutTo [0, 3, 4] (.seg false [⟨some 12, none, .mov (.t 4), 0, 0, false, []⟩,
    ⟨some 13, none, .bin .add (.t 12) (.k (.int .i64 1)), 0, 0, false, []⟩,
    ⟨some 4, none, .mov (.t 13), 0, 0, false, []⟩]))))
def L34x0 : C := B34x0
theorem evL34x0 (run : Run) (draw : List I → Env → Heap → Option (Env × Heap)) (e : Env) (h : Heap) : evC run draw L34x0 e h = evC run draw B34x0 e h := rfl
/-- loop.example/tablehouse/laws.toColumnS -/
def F34 : F := ⟨23, [(false, 2, 0, false)],
   .seq (.seg false [⟨some 2, none, .mov (.k (.sl true 2 [])), 0, 0, false, []⟩])
   (.seq (.seg false [⟨some 5, none, .mov (.t 0), 0, 0, false, []⟩,
    ⟨some 6, none, .len false (.t 5), 0, 0, false, []⟩,
    ⟨some 7, none, .mk 2 [.int .i64 0, .bool false] (.t 6), 0, 0, false, []⟩,
    ⟨some 3, none, .mov (.t 7), 0, 0, false, []⟩])
   (.cutTo [0, 3] (.seq (.seq (.seg false [⟨some 4, none, .mov (.k (.int .i64 0)), 0, 0, false, []⟩])
   (.block 0 (.loop [0, 3, 4] [3] L34x0)))
   (.seq (.seg false [⟨some 22, none, .mov (.t 3), 0, 0, false, []⟩,
    ⟨some 2, none, .mov (.t 22), 0, 0, false, []⟩])
   (.ret)))))⟩
def B35x0 : C := .seq (.seq (.seg false [⟨some 8, none, .mov (.t 4), 0, 0, false, []⟩,
    ⟨some 9, none, .mov (.t 0), 0, 0, false, []⟩,
    ⟨some 10, none, .len false (.t 9), 0, 0, false, []⟩,
    ⟨some 11, none, .bin .lss (.t 8) (.t 10), 0, 0, false, []⟩])
   (.cutTo [0, 3, 4, 11] (.cond (.t 11) (.skip)
   (.exit 0))))
   (.cutTo [0, 3, 4] (.seq (.block 1 (.seg false [⟨some 14, none, .mov (.t 3), 0, 0, false, []⟩,
    ⟨some 15, none, .mov (.t 4), 0, 0, false, []⟩,
    ⟨some 16, none, .mov (.t 0), 0, 0, false, []⟩,
    ⟨some 17, none, .mov (.t 4), 0, 0, false, []⟩,
    ⟨some 18, none, .iaddr 1 (.t 16) (.t 17), 0, 0, false, []⟩,
    ⟨some 19, none, .load false 1 (.t 18), 0, 0, false, []⟩,
    ⟨some 20, none, .call 100 [.t 19] false false, 0, 0, false, []⟩,
    ⟨some 21, none, .iaddr 1 (.t 14) (.t 15), 0, 0, false, []⟩,
    ⟨none, none, .store 1 (.t 21) (.t 20), 0, 0, false, []⟩]))
   (.cutTo [0, 3, 4] (.seg false [⟨some 12, none, .mov (.t 4), 0, 0, false, []⟩,
    ⟨some 13, none, .bin .add (.t 12) (.k (.int .i64 1)), 0, 0, false, []⟩,
    ⟨some 4, none, .mov (.t 13), 0, 0, false, []⟩]))))
def L35x0 : C := B35x0
theorem evL35x0 (run : Run) (draw : List I → Env → Heap → Option (Env × Heap)) (e : Env) (h : Heap) : evC run draw L35x0 e h = evC run draw B35x0 e h := rfl
/-- loop.example/tablehouse/laws.toValueSS -/
def F35 : F := ⟨23, [(false, 2, 0, false)],
   .seq (.seg false [⟨some 2, none, .mov (.k (.sl true 1 [])), 0, 0, false, []⟩])
   (.seq (.seg false [⟨some 5, none, .mov (.t 0), 0, 0, false, []⟩,
    ⟨some 6, none, .len false (.t 5), 0, 0, false, []⟩,
    ⟨some 7, none, .mk 1 [.sl true 3 []] (.t 6), 0, 0, false, []⟩,
    ⟨some 3, none, .mov (.t 7), 0, 0, false, []⟩])
   (.cutTo [0, 3] (.seq (.seq (.seg false [⟨some 4, none, .mov (.k (.int .i64 0)), 0, 0, false, []⟩])
   (.block 0 (.loop [0, 3, 4] [3] L35x0)))
   (.seq (.seg false [⟨some 22, none, .mov (.t 3), 0, 0, false, []⟩,
    ⟨some 2, none, .mov (.t 22), 0, 0, false, []⟩])
   (.ret)))))⟩
/-- loop.example/tablehouse/laws.eqKnown -/
def F36 : F := ⟨27, [(false, 4, 0, false)],
   .seq (.seg false [⟨some 2, none, .box (.t 0), 0, 0, false, []⟩,
    ⟨some 3, none, .box (.t 1), 0, 0, false, []⟩,
    ⟨some 4, none, .mov (.k (.bool false)), 0, 0, false, []⟩])
   (.seq (.seq (.seg false [⟨some 5, none, .faddr 0 1 (.t 2), 0, 0, false, []⟩,
    ⟨some 6, none, .load false 1 (.t 5), 0, 0, false, []⟩,
    ⟨some 7, none, .faddr 0 1 (.t 3), 0, 0, false, []⟩,
    ⟨some 8, none, .load false 1 (.t 7), 0, 0, false, []⟩,
    ⟨some 9, none, .bin .neq (.t 6) (.t 8), 0, 0, false, []⟩])
   (.cutTo [2, 3, 9] (.cond (.t 9) (.seq (.seg false [⟨some 4, none, .mov (.k (.bool false)), 0, 0, false, []⟩])
   (.ret))
   (.skip))))
   (.cutTo [2, 3] (.seq (.seq (.seg false [⟨some 10, none, .faddr 1 1 (.t 2), 0, 0, false, []⟩,
    ⟨some 11, none, .load false 1 (.t 10), 0, 0, false, []⟩,
    ⟨some 12, none, .faddr 1 1 (.t 3), 0, 0, false, []⟩,
    ⟨some 13, none, .load false 1 (.t 12), 0, 0, false, []⟩,
    ⟨some 14, none, .bin .neq (.t 11) (.t 13), 0, 0, false, []⟩])
   (.cutTo [2, 3, 14] (.cond (.t 14) (.seq (.seg false [⟨some 4, none, .mov (.k (.bool false)), 0, 0, false, []⟩])
   (.ret))
   (.skip))))
   (.cutTo [2, 3] (.seq (.seq (.seg false [⟨some 15, none, .faddr 2 3 (.t 2), 0, 0, false, []⟩,
    ⟨some 16, none, .load true 3 (.t 15), 0, 0, false, []⟩,
    ⟨some 17, none, .faddr 2 3 (.t 3), 0, 0, false, []⟩,
    ⟨some 18, none, .load true 3 (.t 17), 0, 0, false, []⟩,
    ⟨some 19, none, .call 101 [.t 16, .t 18] false false, 0, 0, false, []⟩,
    ⟨some 20, none, .un .not (.t 19), 0, 0, false, []⟩])
   (.cutTo [2, 3, 20] (.cond (.t 20) (.seq (.seg false [⟨some 4, none, .mov (.k (.bool false)), 0, 0, false, []⟩])
   (.ret))
   (.skip))))
   (.cutTo [2, 3] (.seq (.seq (.seg false [⟨some 21, none, .faddr 5 3 (.t 2), 0, 0, false, []⟩,
    ⟨some 22, none, .load true 3 (.t 21), 0, 0, false, []⟩,
    ⟨some 23, none, .faddr 5 3 (.t 3), 0, 0, false, []⟩,
    ⟨some 24, none, .load true 3 (.t 23), 0, 0, false, []⟩,
    ⟨some 25, none, .call 101 [.t 22, .t 24] false false, 0, 0, false, []⟩,
    ⟨some 26, none, .un .not (.t 25), 0, 0, false, []⟩])
   (.cutTo [26] (.cond (.t 26) (.seq (.seg false [⟨some 4, none, .mov (.k (.bool false)), 0, 0, false, []⟩])
   (.ret))
   (.skip))))
   (.cutTo [] (.seq (.seg false [⟨some 4, none, .mov (.k (.bool true)), 0, 0, false, []⟩])
   (.ret))))))))))⟩
def E37x0 : List I := [⟨some 17, none, .mov (.t 0), 0, 0, false, []⟩,
    ⟨some 18, none, .mov (.t 5), 0, 0, false, []⟩,
    ⟨some 19, none, .iaddr 2 (.t 17) (.t 18), 0, 0, false, []⟩,
    ⟨some 20, none, .load true 2 (.t 19), 0, 0, false, []⟩,
    ⟨some 21, none, .mov (.t 1), 0, 0, false, []⟩,
    ⟨some 22, none, .mov (.t 5), 0, 0, false, []⟩,
    ⟨some 23, none, .iaddr 2 (.t 21) (.t 22), 0, 0, false, []⟩,
    ⟨some 24, none, .load true 2 (.t 23), 0, 0, false, []⟩,
    ⟨some 25, none, .call 102 [.t 20, .t 24] false false, 0, 0, false, []⟩,
    ⟨some 26, none, .un .not (.t 25), 0, 0, false, []⟩]
def D37x0 : List I := E37x0
theorem evD37x0 (run : Run) (e : Env) (h : Heap) : drawI run D37x0 e h = DrawS (evQ run E37x0 e h) run E37x0 e h := drawI_quiet run _ (by rfl) e h
def B37x0 : C := .seq (.seq (.seg false [⟨some 11, none, .mov (.t 5), 0, 0, false, []⟩,
    ⟨some 12, none, .mov (.t 0), 0, 0, false, []⟩,
    ⟨some 13, none, .len false (.t 12), 0, 0, false, []⟩,
    ⟨some 14, none, .bin .lss (.t 11) (.t 13), 0, 0, false, []⟩])
   (.cutTo [0, 1, 5, 14] (.cond (.t 14) (.skip)
   (.exit 0))))
   (.cutTo [0, 1, 5] (.seq (.block 1 (.seq (.seg true D37x0)
   (.cutTo [0, 1, 5, 26] (.cond (.t 26) (.seq (.seg false [⟨some 4, none, .mov (.k (.bool false)), 0, 0, false, []⟩])
   (.ret))
   (.skip)))))
   (.cutTo [0, 1, 5] (.seg false [⟨some 15, none, .mov (.t 5), 0, 0, false, []⟩,
    ⟨some 16, none, .bin .add (.t 15) (.k (.int .i64 1)), 0, 0, false, []⟩,
    ⟨some 5, none, .mov (.t 16), 0, 0, false, []⟩]))))
def L37x0 : C := B37x0
theorem evL37x0 (run : Run) (draw : List I → Env → Heap → Option (Env × Heap)) (e : Env) (h : Heap) : evC run draw L37x0 e h = evC run draw B37x0 e h := rfl
/-- loop.example/tablehouse/laws.eqColumnS -/
def F37 : F := ⟨27, [(false, 4, 0, false)],
   .seq (.seg false [⟨some 4, none, .mov (.k (.bool false)), 0, 0, false, []⟩])
   (.seq (.seq (.seg false [⟨some 6, none, .mov (.t 0), 0, 0, false, []⟩,
    ⟨some 7, none, .len false (.t 6), 0, 0, false, []⟩,
    ⟨some 8, none, .mov (.t 1), 0, 0, false, []⟩,
    ⟨some 9, none, .len false (.t 8), 0, 0, false, []⟩,
    ⟨some 10, none, .bin .neq (.t 7) (.t 9), 0, 0, false, []⟩])
   (.cutTo [0, 1, 10] (.cond (.t 10) (.seq (.seg false [⟨some 4, none, .mov (.k (.bool false)), 0, 0, false, []⟩])
   (.ret))
   (.skip))))
   (.cutTo [0, 1] (.seq (.seq (.seg false [⟨some 5, none, .mov (.k (.int .i64 0)), 0, 0, false, []⟩])
   (.block 0 (.loop [0, 1, 5] [4] L37x0)))
   (.seq (.seg false [⟨some 4, none, .mov (.k (.bool true)), 0, 0, false, []⟩])
   (.ret)))))⟩
def E38x0 : List I := [⟨some 17, none, .mov (.t 0), 0, 0, false, []⟩,
    ⟨some 18, none, .mov (.t 5), 0, 0, false, []⟩,
    ⟨some 19, none, .iaddr 1 (.t 17) (.t 18), 0, 0, false, []⟩,
    ⟨some 20, none, .load false 1 (.t 19), 0, 0, false, []⟩,
    ⟨some 21, none, .mov (.t 1), 0, 0, false, []⟩,
    ⟨some 22, none, .mov (.t 5), 0, 0, false, []⟩,
    ⟨some 23, none, .iaddr 1 (.t 21) (.t 22), 0, 0, false, []⟩,
    ⟨some 24, none, .load false 1 (.t 23), 0, 0, false, []⟩,
    ⟨some 25, none, .call 103 [.t 20, .t 24] false false, 0, 0, false, []⟩,
    ⟨some 26, none, .un .not (.t 25), 0, 0, false, []⟩]
def D38x0 : List I := E38x0
theorem evD38x0 (run : Run) (e : Env) (h : Heap) : drawI run D38x0 e h = DrawS (evQ run E38x0 e h) run E38x0 e h := drawI_quiet run _ (by rfl) e h
def B38x0 : C := .seq (.seq (.seg false [⟨some 11, none, .mov (.t 5), 0, 0, false, []⟩,
    ⟨some 12, none, .mov (.t 0), 0, 0, false, []⟩,
    ⟨some 13, none, .len false (.t 12), 0, 0, false, []⟩,
    ⟨some 14, none, .bin .lss (.t 11) (.t 13), 0, 0, false, []⟩])
   (.cutTo [0, 1, 5, 14] (.cond (.t 14) (.skip)
   (.exit 0))))
   (.cutTo [0, 1, 5] (.seq (.block 1 (.seq (.seg true D38x0)
   (.cutTo [0, 1, 5, 26] (.cond (.t 26) (.seq (.seg false [⟨some 4, none, .mov (.k (.bool false)), 0, 0, false, []⟩])
   (.ret))
   (.skip)))))
   (.cutTo [0, 1, 5] (.seg false [⟨some 15, none, .mov (.t 5), 0, 0, false, []⟩,
    ⟨some 16, none, .bin .add (.t 15) (.k (.int .i64 1)), 0, 0, false, []⟩,
    ⟨some 5, none, .mov (.t 16), 0, 0, false, []⟩]))))
def L38x0 : C := B38x0
theorem evL38x0 (run : Run) (draw : List I → Env → Heap → Option (Env × Heap)) (e : Env) (h : Heap) : evC run draw L38x0 e h = evC run draw B38x0 e h := rfl
/-- loop.example/tablehouse/laws.eqValueSS -/
def F38 : F := ⟨27, [(false, 4, 0, false)],
   .seq (.seg false [⟨some 4, none, .mov (.k (.bool false)), 0, 0, false, []⟩])
   (.seq (.seq (.seg false [⟨some 6, none, .mov (.t 0), 0, 0, false, []⟩,
    ⟨some 7, none, .len false (.t 6), 0, 0, false, []⟩,
    ⟨some 8, none, .mov (.t 1), 0, 0, false, []⟩,
    ⟨some 9, none, .len false (.t 8), 0, 0, false, []⟩,
    ⟨some 10, none, .bin .neq (.t 7) (.t 9), 0, 0, false, []⟩])
   (.cutTo [0, 1, 10] (.cond (.t 10) (.seq (.seg false [⟨some 4, none, .mov (.k (.bool false)), 0, 0, false, []⟩])
   (.ret))
   (.skip))))
   (.cutTo [0, 1] (.seq (.seq (.seg false [⟨some 5, none, .mov (.k (.int .i64 0)), 0, 0, false, []⟩])
   (.block 0 (.loop [0, 1, 5] [4] L38x0)))
   (.seq (.seg false [⟨some 4, none, .mov (.k (.bool true)), 0, 0, false, []⟩])
   (.ret)))))⟩
/-- loop.example/tablehouse/spec.DrawRowsAt -/
def F41 : F := ⟨19, [(false, 2, 0, false), (false, 3, 0, false)],
   .seq (.seg false [⟨some 2, none, .mov (.k (.sl true 4 [])), 0, 0, false, []⟩,
    ⟨some 3, none, .mov (.k (.int .i64 0)), 0, 0, false, []⟩])
   (.seq (.seg false [⟨some 7, none, .mov (.t 0), 0, 0, false, []⟩,
    ⟨some 8, none, .call 76 [.t 7] true true, 0, 0, false, []⟩,
    ⟨some 4, none, .mov (.t 8), 0, 0, false, []⟩])
   (.seq (.seg false [⟨some 10, none, .mov (.t 4), 0, 0, false, []⟩,
    ⟨some 11, none, .call 107 [.t 10, .k (.int .i64 15)] true false, 0, 0, false, []⟩,
    ⟨some 9, none, .mov (.t 11), 0, 0, false, []⟩,
    ⟨some 12, none, .ext (.t 9) 0, 0, 0, false, []⟩,
    ⟨some 13, none, .ext (.t 9) 1, 0, 0, false, []⟩,
    ⟨some 5, none, .mov (.t 12), 0, 0, false, []⟩,
    ⟨some 6, none, .mov (.t 13), 0, 0, false, []⟩])
   (.cutTo [4, 5, 6] (.seq (.seg false [⟨some 14, none, .mov (.t 5), 0, 0, false, []⟩,
    ⟨some 15, none, .mov (.t 4), 0, 0, false, []⟩,
    ⟨some 16, none, .mov (.t 6), 0, 0, false, []⟩,
    ⟨some 17, none, .bin .add (.t 16) (.k (.int .i64 3)), 0, 0, false, []⟩,
    ⟨some 18, none, .call 104 [.t 15, .t 17] true false, 0, 0, false, []⟩,
    ⟨some 2, none, .mov (.t 14), 0, 0, false, []⟩,
    ⟨some 3, none, .mov (.t 18), 0, 0, false, []⟩])
   (.cutTo [2, 3] (.ret))))))⟩
def B42x0 : C := .seq (.seg false [⟨some 13, none, .bin .lss (.t 12) (.k (.int .i64 5)), 0, 0, false, []⟩])
   (.seq (.cond (.t 13) (.skip)
   (.exit 0))
   (.seq (.block 1 (.seq (.seg false [⟨some 14, none, .mov (.t 12), 0, 0, false, []⟩,
    ⟨some 6, none, .mov (.t 14), 0, 0, false, []⟩])
   (.seq (.seg false [⟨some 16, none, .mov (.t 0), 0, 0, false, []⟩,
    ⟨some 17, none, .mov (.t 6), 0, 0, false, []⟩,
    ⟨some 18, none, .mov (.t 1), 0, 0, false, []⟩,
    ⟨some 19, none, .call 108 [.t 16, .t 17, .t 18] false false, 0, 0, false, []⟩,
    ⟨some 15, none, .mov (.t 19), 0, 0, false, []⟩,
    ⟨some 20, none, .ext (.t 15) 0, 0, 0, false, []⟩,
    ⟨some 21, none, .ext (.t 15) 1, 0, 0, false, []⟩,
    ⟨some 7, none, .alloc [.int .i64 0, .int .i64 0, .int .i64 0, .sl true 3 []], 0, 0, false, []⟩,
    ⟨none, none, .store 4 (.t 7) (.t 20), 0, 0, false, []⟩,
    ⟨some 8, none, .mov (.t 21), 0, 0, false, []⟩])
   (.cutTo [0, 1, 5, 7, 8, 12] (.seq (.seg false [⟨some 22, none, .mov (.t 8), 0, 0, false, []⟩])
   (.cond (.t 22) (.seg false [⟨some 23, none, .mov (.t 5), 0, 0, false, []⟩,
    ⟨some 24, none, .faddr 3 1 (.t 7), 0, 0, false, []⟩,
    ⟨some 25, none, .load false 1 (.t 24), 0, 0, false, []⟩,
    ⟨some 26, none, .mksl false 1 [.t 25], 0, 0, false, []⟩,
    ⟨some 27, none, .app 1 (.t 23) (.t 26), 0, 0, false, []⟩,
    ⟨some 5, none, .mov (.t 27), 0, 0, false, []⟩])
   (.skip)))))))
   (.cutTo [0, 1, 5, 12] (.seg false [⟨some 28, none, .bin .add (.t 12) (.k (.int .i64 1)), 0, 0, false, []⟩,
    ⟨some 12, none, .mov (.t 28), 0, 0, false, []⟩]))))
def L42x0 : C := B42x0
theorem evL42x0 (run : Run) (draw : List I → Env → Heap → Option (Env × Heap)) (e : Env) (h : Heap) : evC run draw L42x0 e h = evC run draw B42x0 e h := rfl
/-- loop.example/tablehouse/impl.RowsAt -/
def F42 : F := ⟨31, [(false, 4, 0, false)],
   .seq (.seg false [⟨some 4, none, .mov (.k (.sl true 1 [])), 0, 0, false, []⟩])
   (.seq (.seq (.seg false [⟨some 9, none, .mov (.t 0), 0, 0, false, []⟩,
    ⟨some 10, none, .call 59 [.t 9] false false, 0, 0, false, []⟩,
    ⟨some 11, none, .un .not (.t 10), 0, 0, false, []⟩])
   (.cond (.t 11) (.seq (.seg false [⟨some 4, none, .mov (.k (.sl true 1 [])), 0, 0, false, []⟩])
   (.ret))
   (.skip)))
   (.cutTo [0, 1] (.seq (.seg false [⟨some 5, none, .nilrow 1, 0, 0, false, []⟩])
   (.seq (.seq (.seg false [⟨some 12, none, .mov (.k (.int .i64 0)), 0, 0, false, []⟩])
   (.block 0 (.loop [0, 1, 5, 12] [5] L42x0)))
   (.seq (.seg false [⟨some 29, none, .mov (.t 5), 0, 0, false, []⟩,
    ⟨some 30, none, .call 109 [.t 29] false false, 0, 0, false, []⟩,
    ⟨some 4, none, .mov (.t 30), 0, 0, false, []⟩])
   (.ret))))))⟩
def B44x0 : C := .seq (.seq (.seg false [⟨some 10, none, .mov (.t 6), 0, 0, false, []⟩,
    ⟨some 11, none, .bin .lss (.t 10) (.k (.int .i64 5)), 0, 0, false, []⟩])
   (.cond (.t 11) (.skip)
   (.exit 0)))
   (.seq (.block 1 (.seq (.seg false [⟨some 15, none, .mov (.t 0), 0, 0, false, []⟩,
    ⟨some 16, none, .mov (.t 6), 0, 0, false, []⟩,
    ⟨some 17, none, .mov (.t 1), 0, 0, false, []⟩,
    ⟨some 18, none, .call 111 [.t 15, .t 16, .t 17] false false, 0, 0, false, []⟩,
    ⟨some 14, none, .mov (.t 18), 0, 0, false, []⟩,
    ⟨some 19, none, .ext (.t 14) 0, 0, 0, false, []⟩,
    ⟨some 20, none, .ext (.t 14) 1, 0, 0, false, []⟩,
    ⟨some 7, none, .mov (.t 19), 0, 0, false, []⟩,
    ⟨some 8, none, .mov (.t 20), 0, 0, false, []⟩])
   (.cutTo [0, 1, 5, 6, 7, 8] (.seq (.seg false [⟨some 21, none, .mov (.t 8), 0, 0, false, []⟩])
   (.cond (.t 21) (.seg false [⟨some 22, none, .mov (.t 5), 0, 0, false, []⟩,
    ⟨some 23, none, .mov (.t 7), 0, 0, false, []⟩,
    ⟨some 24, none, .mksl false 1 [.t 23], 0, 0, false, []⟩,
    ⟨some 25, none, .app 1 (.t 22) (.t 24), 0, 0, false, []⟩,
    ⟨some 5, none, .mov (.t 25), 0, 0, false, []⟩])
   (.skip))))))
   (.cutTo [0, 1, 5, 6] (.seg false [⟨some 12, none, .mov (.t 6), 0, 0, false, []⟩,
    ⟨some 13, none, .bin .add (.t 12) (.k (.int .i64 1)), 0, 0, false, []⟩,
    ⟨some 6, none, .mov (.t 13), 0, 0, false, []⟩])))
def L44x0 : C := B44x0
theorem evL44x0 (run : Run) (draw : List I → Env → Heap → Option (Env × Heap)) (e : Env) (h : Heap) : evC run draw L44x0 e h = evC run draw B44x0 e h := rfl
/-- loop.example/tablehouse/spec.RowsAt -/
def F44 : F := ⟨27, [(false, 4, 0, false)],
   .seq (.seg false [⟨some 4, none, .nilrow 1, 0, 0, false, []⟩])
   (.seq (.seg false [⟨some 9, none, .mksl true 1 [], 0, 0, false, []⟩,
    ⟨some 5, none, .mov (.t 9), 0, 0, false, []⟩])
   (.seq (.seq (.seg false [⟨some 6, none, .mov (.k (.int .i64 0)), 0, 0, false, []⟩])
   (.block 0 (.loop [0, 1, 5, 6] [5] L44x0)))
   (.seq (.seg false [⟨some 26, none, .mov (.t 5), 0, 0, false, []⟩,
    ⟨some 4, none, .mov (.t 26), 0, 0, false, []⟩])
   (.ret))))⟩
def E43x0 : List I := [⟨some 17, none, .mov (.t 0), 0, 0, false, []⟩,
    ⟨some 18, none, .mov (.t 5), 0, 0, false, []⟩,
    ⟨some 19, none, .iaddr 1 (.t 17) (.t 18), 0, 0, false, []⟩,
    ⟨some 20, none, .load false 1 (.t 19), 0, 0, false, []⟩,
    ⟨some 21, none, .mov (.t 1), 0, 0, false, []⟩,
    ⟨some 22, none, .mov (.t 5), 0, 0, false, []⟩,
    ⟨some 23, none, .iaddr 1 (.t 21) (.t 22), 0, 0, false, []⟩,
    ⟨some 24, none, .load false 1 (.t 23), 0, 0, false, []⟩,
    ⟨some 25, none, .call 110 [.t 20, .t 24] false false, 0, 0, false, []⟩,
    ⟨some 26, none, .un .not (.t 25), 0, 0, false, []⟩]
def D43x0 : List I := E43x0
theorem evD43x0 (run : Run) (e : Env) (h : Heap) : drawI run D43x0 e h = DrawS (evQ run E43x0 e h) run E43x0 e h := drawI_quiet run _ (by rfl) e h
def B43x0 : C := .seq (.seq (.seg false [⟨some 11, none, .mov (.t 5), 0, 0, false, []⟩,
    ⟨some 12, none, .mov (.t 0), 0, 0, false, []⟩,
    ⟨some 13, none, .len false (.t 12), 0, 0, false, []⟩,
    ⟨some 14, none, .bin .lss (.t 11) (.t 13), 0, 0, false, []⟩])
   (.cutTo [0, 1, 5, 14] (.cond (.t 14) (.skip)
   (.exit 0))))
   (.cutTo [0, 1, 5] (.seq (.block 1 (.seq (.seg true D43x0)
   (.cutTo [0, 1, 5, 26] (.cond (.t 26) (.seq (.seg false [⟨some 4, none, .mov (.k (.bool false)), 0, 0, false, []⟩])
   (.ret))
   (.skip)))))
   (.cutTo [0, 1, 5] (.seg false [⟨some 15, none, .mov (.t 5), 0, 0, false, []⟩,
    ⟨some 16, none, .bin .add (.t 15) (.k (.int .i64 1)), 0, 0, false, []⟩,
    ⟨some 5, none, .mov (.t 16), 0, 0, false, []⟩]))))
def L43x0 : C := B43x0
theorem evL43x0 (run : Run) (draw : List I → Env → Heap → Option (Env × Heap)) (e : Env) (h : Heap) : evC run draw L43x0 e h = evC run draw B43x0 e h := rfl
/-- loop.example/tablehouse/laws.sameRows -/
def F43 : F := ⟨27, [(false, 4, 0, false)],
   .seq (.seg false [⟨some 4, none, .mov (.k (.bool false)), 0, 0, false, []⟩])
   (.seq (.seq (.seg false [⟨some 6, none, .mov (.t 0), 0, 0, false, []⟩,
    ⟨some 7, none, .len false (.t 6), 0, 0, false, []⟩,
    ⟨some 8, none, .mov (.t 1), 0, 0, false, []⟩,
    ⟨some 9, none, .len false (.t 8), 0, 0, false, []⟩,
    ⟨some 10, none, .bin .neq (.t 7) (.t 9), 0, 0, false, []⟩])
   (.cutTo [0, 1, 10] (.cond (.t 10) (.seq (.seg false [⟨some 4, none, .mov (.k (.bool false)), 0, 0, false, []⟩])
   (.ret))
   (.skip))))
   (.cutTo [0, 1] (.seq (.seq (.seg false [⟨some 5, none, .mov (.k (.int .i64 0)), 0, 0, false, []⟩])
   (.block 0 (.loop [0, 1, 5] [4] L43x0)))
   (.seq (.seg false [⟨some 4, none, .mov (.k (.bool true)), 0, 0, false, []⟩])
   (.ret)))))⟩
/-- loop.example/tablehouse/impl.SeenAt -/
def F45 : F := ⟨24, [(false, 6, 0, false), (false, 7, 0, false)],
   .seq (.seg false [⟨some 6, none, .mov (.k (.sl true 3 [])), 0, 0, false, []⟩,
    ⟨some 7, none, .mov (.k (.bool false)), 0, 0, false, []⟩])
   (.seq (.seq (.seg false [⟨some 10, none, .mov (.t 0), 0, 0, false, []⟩,
    ⟨some 11, none, .call 59 [.t 10] false false, 0, 0, false, []⟩,
    ⟨some 12, none, .un .not (.t 11), 0, 0, false, []⟩])
   (.cond (.t 12) (.seq (.seg false [⟨some 6, none, .mov (.k (.sl true 3 [])), 0, 0, false, []⟩,
    ⟨some 7, none, .mov (.k (.bool false)), 0, 0, false, []⟩])
   (.ret))
   (.skip)))
   (.cutTo [0, 1, 2] (.seq (.seg false [⟨some 14, none, .mov (.t 0), 0, 0, false, []⟩,
    ⟨some 15, none, .mov (.t 1), 0, 0, false, []⟩,
    ⟨some 16, none, .mov (.t 2), 0, 0, false, []⟩,
    ⟨some 17, none, .call 108 [.t 14, .t 15, .t 16] false false, 0, 0, false, []⟩,
    ⟨some 13, none, .mov (.t 17), 0, 0, false, []⟩,
    ⟨some 18, none, .ext (.t 13) 0, 0, 0, false, []⟩,
    ⟨some 19, none, .ext (.t 13) 1, 0, 0, false, []⟩,
    ⟨some 8, none, .alloc [.int .i64 0, .int .i64 0, .int .i64 0, .sl true 3 []], 0, 0, false, []⟩,
    ⟨none, none, .store 4 (.t 8) (.t 18), 0, 0, false, []⟩,
    ⟨some 9, none, .mov (.t 19), 0, 0, false, []⟩])
   (.cutTo [8, 9] (.seq (.seg false [⟨some 20, none, .faddr 3 1 (.t 8), 0, 0, false, []⟩,
    ⟨some 21, none, .load false 1 (.t 20), 0, 0, false, []⟩,
    ⟨some 22, none, .call 112 [.t 21] false false, 0, 0, false, []⟩,
    ⟨some 23, none, .mov (.t 9), 0, 0, false, []⟩,
    ⟨some 6, none, .mov (.t 22), 0, 0, false, []⟩,
    ⟨some 7, none, .mov (.t 23), 0, 0, false, []⟩])
   (.cutTo [6, 7] (.ret)))))))⟩
/-- loop.example/tablehouse/spec.DrawSweptAt -/
def F55 : F := ⟨19, [(false, 2, 0, false), (false, 3, 0, false)],
   .seq (.seg false [⟨some 2, none, .mov (.k (.sl true 4 [])), 0, 0, false, []⟩,
    ⟨some 3, none, .mov (.k (.int .i64 0)), 0, 0, false, []⟩])
   (.seq (.seg false [⟨some 7, none, .mov (.t 0), 0, 0, false, []⟩,
    ⟨some 8, none, .call 76 [.t 7] true true, 0, 0, false, []⟩,
    ⟨some 4, none, .mov (.t 8), 0, 0, false, []⟩])
   (.seq (.seg false [⟨some 10, none, .mov (.t 4), 0, 0, false, []⟩,
    ⟨some 11, none, .call 107 [.t 10, .k (.int .i64 15)] true false, 0, 0, false, []⟩,
    ⟨some 9, none, .mov (.t 11), 0, 0, false, []⟩,
    ⟨some 12, none, .ext (.t 9) 0, 0, 0, false, []⟩,
    ⟨some 13, none, .ext (.t 9) 1, 0, 0, false, []⟩,
    ⟨some 5, none, .mov (.t 12), 0, 0, false, []⟩,
    ⟨some 6, none, .mov (.t 13), 0, 0, false, []⟩])
   (.cutTo [4, 5, 6] (.seq (.seg false [⟨some 14, none, .mov (.t 5), 0, 0, false, []⟩,
    ⟨some 15, none, .mov (.t 4), 0, 0, false, []⟩,
    ⟨some 16, none, .mov (.t 6), 0, 0, false, []⟩,
    ⟨some 17, none, .bin .add (.t 16) (.k (.int .i64 3)), 0, 0, false, []⟩,
    ⟨some 18, none, .call 104 [.t 15, .t 17] true false, 0, 0, false, []⟩,
    ⟨some 2, none, .mov (.t 14), 0, 0, false, []⟩,
    ⟨some 3, none, .mov (.t 18), 0, 0, false, []⟩])
   (.cutTo [2, 3] (.ret))))))⟩
/-- loop.example/tablehouse/impl.SweptAt -/
def F56 : F := ⟨13, [(false, 4, 0, false)],
   .seq (.seg false [⟨some 3, none, .box (.t 1), 0, 0, false, []⟩,
    ⟨some 4, none, .mov (.k (.sl true 4 [])), 0, 0, false, []⟩])
   (.seq (.seq (.seg false [⟨some 5, none, .mov (.t 0), 0, 0, false, []⟩,
    ⟨some 6, none, .call 59 [.t 5] false false, 0, 0, false, []⟩,
    ⟨some 7, none, .un .not (.t 6), 0, 0, false, []⟩])
   (.cond (.t 7) (.seq (.seg false [⟨some 4, none, .mov (.k (.sl true 4 [])), 0, 0, false, []⟩])
   (.ret))
   (.skip)))
   (.cutTo [0, 3] (.seq (.seg false [⟨some 8, none, .mov (.t 0), 0, 0, false, []⟩,
    ⟨some 9, none, .call 124 [.t 8] false true, 0, 0, false, []⟩,
    ⟨some 10, none, .mkclo 125 [.t 3], 0, 0, false, []⟩,
    ⟨some 11, none, .call 123 [.t 9, .t 10] true false, 0, 0, false, []⟩,
    ⟨some 12, none, .call 122 [.t 11] false false, 0, 0, false, []⟩,
    ⟨some 4, none, .mov (.t 12), 0, 0, false, []⟩])
   (.cutTo [4] (.ret)))))⟩
def B58x0 : C := .seq (.seq (.seg false [⟨some 9, none, .mov (.t 6), 0, 0, false, []⟩,
    ⟨some 10, none, .mov (.t 0), 0, 0, false, []⟩,
    ⟨some 11, none, .len false (.t 10), 0, 0, false, []⟩,
    ⟨some 12, none, .bin .lss (.t 9) (.t 11), 0, 0, false, []⟩,
    ⟨some 13, none, .mov (.t 12), 0, 0, false, []⟩,
    ⟨some 14, some (13, true), .mov (.t 0), 0, 0, false, []⟩,
    ⟨some 15, some (13, true), .call 114 [.t 14] false false, 0, 0, false, []⟩,
    ⟨some 16, none, .pick (.t 13) (.t 15) (.k (.bool false)), 0, 0, false, []⟩])
   (.cutTo [0, 1, 5, 6, 16] (.cond (.t 16) (.skip)
   (.exit 0))))
   (.cutTo [0, 1, 5, 6] (.seq (.block 1 (.seq (.seg false [⟨some 19, none, .mov (.t 0), 0, 0, false, []⟩,
    ⟨some 20, none, .mov (.t 6), 0, 0, false, []⟩,
    ⟨some 21, none, .iaddr 4 (.t 19) (.t 20), 0, 0, false, []⟩,
    ⟨some 22, none, .faddr 2 1 (.t 21), 0, 0, false, []⟩,
    ⟨some 23, none, .load false 1 (.t 22), 0, 0, false, []⟩,
    ⟨some 24, none, .bin .eql (.t 23) (.k (.int .i64 0)), 0, 0, false, []⟩,
    ⟨some 25, none, .mov (.t 24), 0, 0, false, []⟩,
    ⟨some 26, some (25, false), .mov (.t 0), 0, 0, false, []⟩,
    ⟨some 27, some (25, false), .mov (.t 6), 0, 0, false, []⟩,
    ⟨some 28, some (25, false), .iaddr 4 (.t 26) (.t 27), 0, 0, false, []⟩,
    ⟨some 29, some (25, false), .faddr 2 1 (.t 28), 0, 0, false, []⟩,
    ⟨some 30, some (25, false), .load false 1 (.t 29), 0, 0, false, []⟩,
    ⟨some 31, some (25, false), .mov (.t 1), 0, 0, false, []⟩,
    ⟨some 32, some (25, false), .bin .gtr (.t 30) (.t 31), 0, 0, false, []⟩,
    ⟨some 33, none, .pick (.t 25) (.k (.bool true)) (.t 32), 0, 0, false, []⟩])
   (.cutTo [0, 1, 5, 6, 33] (.cond (.t 33) (.seq (.seg false [⟨some 34, none, .mov (.t 0), 0, 0, false, []⟩,
    ⟨some 35, none, .mov (.t 6), 0, 0, false, []⟩,
    ⟨some 36, none, .iaddr 4 (.t 34) (.t 35), 0, 0, false, []⟩,
    ⟨some 37, none, .load true 4 (.t 36), 0, 0, false, []⟩,
    ⟨some 7, none, .alloc [.int .i64 0, .int .i64 0, .int .i64 0, .sl true 3 []], 0, 0, false, []⟩,
    ⟨none, none, .store 4 (.t 7) (.t 37), 0, 0, false, []⟩])
   (.cutTo [0, 1, 5, 6, 7] (.seq (.seg false [⟨some 38, none, .faddr 3 1 (.t 7), 0, 0, false, []⟩,
    ⟨some 39, none, .load false 1 (.t 38), 0, 0, false, []⟩,
    ⟨some 40, none, .call 126 [.t 39] false false, 0, 0, false, []⟩,
    ⟨some 41, none, .faddr 3 1 (.t 7), 0, 0, false, []⟩,
    ⟨none, none, .store 1 (.t 41) (.t 40), 0, 0, false, []⟩])
   (.cutTo [0, 1, 5, 6, 7] (.seg false [⟨some 42, none, .mov (.t 5), 0, 0, false, []⟩,
    ⟨some 43, none, .load true 4 (.t 7), 0, 0, false, []⟩,
    ⟨some 44, none, .mksl false 4 [.t 43], 0, 0, false, []⟩,
    ⟨some 45, none, .app 4 (.t 42) (.t 44), 0, 0, false, []⟩,
    ⟨some 5, none, .mov (.t 45), 0, 0, false, []⟩])))))
   (.skip)))))
   (.cutTo [0, 1, 5, 6] (.seg false [⟨some 17, none, .mov (.t 6), 0, 0, false, []⟩,
    ⟨some 18, none, .bin .add (.t 17) (.k (.int .i64 1)), 0, 0, false, []⟩,
    ⟨some 6, none, .mov (.t 18), 0, 0, false, []⟩]))))
def L58x0 : C := B58x0
theorem evL58x0 (run : Run) (draw : List I → Env → Heap → Option (Env × Heap)) (e : Env) (h : Heap) : evC run draw L58x0 e h = evC run draw B58x0 e h := rfl
/-- loop.example/tablehouse/spec.SweptAt -/
def F58 : F := ⟨47, [(false, 4, 0, false)],
   .seq (.seg false [⟨some 4, none, .nilrow 4, 0, 0, false, []⟩])
   (.seq (.seg false [⟨some 8, none, .mksl true 4 [], 0, 0, false, []⟩,
    ⟨some 5, none, .mov (.t 8), 0, 0, false, []⟩])
   (.seq (.seq (.seg false [⟨some 6, none, .mov (.k (.int .i64 0)), 0, 0, false, []⟩])
   (.block 0 (.loop [0, 1, 5, 6] [5] L58x0)))
   (.seq (.seg false [⟨some 46, none, .mov (.t 5), 0, 0, false, []⟩,
    ⟨some 4, none, .mov (.t 46), 0, 0, false, []⟩])
   (.ret))))⟩
def E57x0 : List I := [⟨some 17, none, .mov (.t 0), 0, 0, false, []⟩,
    ⟨some 18, none, .mov (.t 5), 0, 0, false, []⟩,
    ⟨some 19, none, .iaddr 4 (.t 17) (.t 18), 0, 0, false, []⟩,
    ⟨some 20, none, .faddr 0 1 (.t 19), 0, 0, false, []⟩,
    ⟨some 21, none, .load false 1 (.t 20), 0, 0, false, []⟩,
    ⟨some 22, none, .mov (.t 1), 0, 0, false, []⟩,
    ⟨some 23, none, .mov (.t 5), 0, 0, false, []⟩,
    ⟨some 24, none, .iaddr 4 (.t 22) (.t 23), 0, 0, false, []⟩,
    ⟨some 25, none, .faddr 0 1 (.t 24), 0, 0, false, []⟩,
    ⟨some 26, none, .load false 1 (.t 25), 0, 0, false, []⟩,
    ⟨some 27, none, .bin .neq (.t 21) (.t 26), 0, 0, false, []⟩,
    ⟨some 28, none, .mov (.t 27), 0, 0, false, []⟩,
    ⟨some 29, some (28, false), .mov (.t 0), 0, 0, false, []⟩,
    ⟨some 30, some (28, false), .mov (.t 5), 0, 0, false, []⟩,
    ⟨some 31, some (28, false), .iaddr 4 (.t 29) (.t 30), 0, 0, false, []⟩,
    ⟨some 32, some (28, false), .faddr 1 1 (.t 31), 0, 0, false, []⟩,
    ⟨some 33, some (28, false), .load false 1 (.t 32), 0, 0, false, []⟩,
    ⟨some 34, some (28, false), .mov (.t 1), 0, 0, false, []⟩,
    ⟨some 35, some (28, false), .mov (.t 5), 0, 0, false, []⟩,
    ⟨some 36, some (28, false), .iaddr 4 (.t 34) (.t 35), 0, 0, false, []⟩,
    ⟨some 37, some (28, false), .faddr 1 1 (.t 36), 0, 0, false, []⟩,
    ⟨some 38, some (28, false), .load false 1 (.t 37), 0, 0, false, []⟩,
    ⟨some 39, some (28, false), .bin .neq (.t 33) (.t 38), 0, 0, false, []⟩,
    ⟨some 40, none, .pick (.t 28) (.k (.bool true)) (.t 39), 0, 0, false, []⟩,
    ⟨some 41, none, .mov (.t 40), 0, 0, false, []⟩,
    ⟨some 42, some (41, false), .mov (.t 0), 0, 0, false, []⟩,
    ⟨some 43, some (41, false), .mov (.t 5), 0, 0, false, []⟩,
    ⟨some 44, some (41, false), .iaddr 4 (.t 42) (.t 43), 0, 0, false, []⟩,
    ⟨some 45, some (41, false), .faddr 2 1 (.t 44), 0, 0, false, []⟩,
    ⟨some 46, some (41, false), .load false 1 (.t 45), 0, 0, false, []⟩,
    ⟨some 47, some (41, false), .mov (.t 1), 0, 0, false, []⟩,
    ⟨some 48, some (41, false), .mov (.t 5), 0, 0, false, []⟩,
    ⟨some 49, some (41, false), .iaddr 4 (.t 47) (.t 48), 0, 0, false, []⟩,
    ⟨some 50, some (41, false), .faddr 2 1 (.t 49), 0, 0, false, []⟩,
    ⟨some 51, some (41, false), .load false 1 (.t 50), 0, 0, false, []⟩,
    ⟨some 52, some (41, false), .bin .neq (.t 46) (.t 51), 0, 0, false, []⟩,
    ⟨some 53, none, .pick (.t 41) (.k (.bool true)) (.t 52), 0, 0, false, []⟩,
    ⟨some 54, none, .mov (.t 53), 0, 0, false, []⟩,
    ⟨some 55, some (54, false), .mov (.t 0), 0, 0, false, []⟩,
    ⟨some 56, some (54, false), .mov (.t 5), 0, 0, false, []⟩,
    ⟨some 57, some (54, false), .iaddr 4 (.t 55) (.t 56), 0, 0, false, []⟩,
    ⟨some 58, some (54, false), .faddr 3 1 (.t 57), 0, 0, false, []⟩,
    ⟨some 59, some (54, false), .load false 1 (.t 58), 0, 0, false, []⟩,
    ⟨some 60, some (54, false), .mov (.t 1), 0, 0, false, []⟩,
    ⟨some 61, some (54, false), .mov (.t 5), 0, 0, false, []⟩,
    ⟨some 62, some (54, false), .iaddr 4 (.t 60) (.t 61), 0, 0, false, []⟩,
    ⟨some 63, some (54, false), .faddr 3 1 (.t 62), 0, 0, false, []⟩,
    ⟨some 64, some (54, false), .load false 1 (.t 63), 0, 0, false, []⟩,
    ⟨some 65, some (54, false), .call 110 [.t 59, .t 64] false false, 0, 0, false, []⟩,
    ⟨some 66, some (54, false), .un .not (.t 65), 0, 0, false, []⟩,
    ⟨some 67, none, .pick (.t 54) (.k (.bool true)) (.t 66), 0, 0, false, []⟩]
def D57x0 : List I := E57x0
theorem evD57x0 (run : Run) (e : Env) (h : Heap) : drawI run D57x0 e h = DrawS (evQ run E57x0 e h) run E57x0 e h := drawI_quiet run _ (by rfl) e h
def B57x0 : C := .seq (.seq (.seg false [⟨some 11, none, .mov (.t 5), 0, 0, false, []⟩,
    ⟨some 12, none, .mov (.t 0), 0, 0, false, []⟩,
    ⟨some 13, none, .len false (.t 12), 0, 0, false, []⟩,
    ⟨some 14, none, .bin .lss (.t 11) (.t 13), 0, 0, false, []⟩])
   (.cutTo [0, 1, 5, 14] (.cond (.t 14) (.skip)
   (.exit 0))))
   (.cutTo [0, 1, 5] (.seq (.block 1 (.seq (.seg true D57x0)
   (.cutTo [0, 1, 5, 67] (.cond (.t 67) (.seq (.seg false [⟨some 4, none, .mov (.k (.bool false)), 0, 0, false, []⟩])
   (.ret))
   (.skip)))))
   (.cutTo [0, 1, 5] (.seg false [⟨some 15, none, .mov (.t 5), 0, 0, false, []⟩,
    ⟨some 16, none, .bin .add (.t 15) (.k (.int .i64 1)), 0, 0, false, []⟩,
    ⟨some 5, none, .mov (.t 16), 0, 0, false, []⟩]))))
def L57x0 : C := B57x0
theorem evL57x0 (run : Run) (draw : List I → Env → Heap → Option (Env × Heap)) (e : Env) (h : Heap) : evC run draw L57x0 e h = evC run draw B57x0 e h := rfl
/-- loop.example/tablehouse/laws.sameVersions -/
def F57 : F := ⟨68, [(false, 4, 0, false)],
   .seq (.seg false [⟨some 4, none, .mov (.k (.bool false)), 0, 0, false, []⟩])
   (.seq (.seq (.seg false [⟨some 6, none, .mov (.t 0), 0, 0, false, []⟩,
    ⟨some 7, none, .len false (.t 6), 0, 0, false, []⟩,
    ⟨some 8, none, .mov (.t 1), 0, 0, false, []⟩,
    ⟨some 9, none, .len false (.t 8), 0, 0, false, []⟩,
    ⟨some 10, none, .bin .neq (.t 7) (.t 9), 0, 0, false, []⟩])
   (.cutTo [0, 1, 10] (.cond (.t 10) (.seq (.seg false [⟨some 4, none, .mov (.k (.bool false)), 0, 0, false, []⟩])
   (.ret))
   (.skip))))
   (.cutTo [0, 1] (.seq (.seq (.seg false [⟨some 5, none, .mov (.k (.int .i64 0)), 0, 0, false, []⟩])
   (.block 0 (.loop [0, 1, 5] [4] L57x0)))
   (.seq (.seg false [⟨some 4, none, .mov (.k (.bool true)), 0, 0, false, []⟩])
   (.ret)))))⟩
def B59x0 : C := .seq (.seg false [⟨some 9, none, .bin .lss (.t 8) (.t 7), 0, 0, false, []⟩])
   (.seq (.cond (.t 9) (.skip)
   (.exit 0))
   (.seq (.block 1 (.seq (.seg false [⟨some 10, none, .mov (.t 8), 0, 0, false, []⟩,
    ⟨some 11, none, .iaddr 4 (.t 6) (.t 8), 0, 0, false, []⟩,
    ⟨some 12, none, .load true 4 (.t 11), 0, 0, false, []⟩,
    ⟨some 4, none, .alloc [.int .i64 0, .int .i64 0, .int .i64 0, .sl true 3 []], 0, 0, false, []⟩,
    ⟨some 3, none, .mov (.t 10), 0, 0, false, []⟩,
    ⟨none, none, .store 4 (.t 4) (.t 12), 0, 0, false, []⟩])
   (.cutTo [0, 3, 4, 6, 7, 8] (.seq (.seq (.seg false [⟨some 13, none, .faddr 0 1 (.t 4), 0, 0, false, []⟩,
    ⟨some 14, none, .load false 1 (.t 13), 0, 0, false, []⟩,
    ⟨some 15, none, .call 127 [.t 14] false false, 0, 0, false, []⟩,
    ⟨some 16, none, .un .not (.t 15), 0, 0, false, []⟩,
    ⟨some 17, none, .mov (.t 16), 0, 0, false, []⟩,
    ⟨some 18, some (17, false), .faddr 1 1 (.t 4), 0, 0, false, []⟩,
    ⟨some 19, some (17, false), .load false 1 (.t 18), 0, 0, false, []⟩,
    ⟨some 20, some (17, false), .call 82 [.t 19, .k (.int .i64 1), .k (.int .i64 40)] false false, 0, 0, false, []⟩,
    ⟨some 21, some (17, false), .un .not (.t 20), 0, 0, false, []⟩,
    ⟨some 22, none, .pick (.t 17) (.k (.bool true)) (.t 21), 0, 0, false, []⟩,
    ⟨some 23, none, .mov (.t 22), 0, 0, false, []⟩,
    ⟨some 24, some (23, false), .faddr 2 1 (.t 4), 0, 0, false, []⟩,
    ⟨some 25, some (23, false), .load false 1 (.t 24), 0, 0, false, []⟩,
    ⟨some 26, some (23, false), .bin .neq (.t 25) (.k (.int .i64 0)), 0, 0, false, []⟩,
    ⟨some 27, some (23, false), .mov (.t 26), 0, 0, false, []⟩,
    ⟨some 28, some (27, true), .faddr 2 1 (.t 4), 0, 0, false, []⟩,
    ⟨some 29, some (27, true), .load false 1 (.t 28), 0, 0, false, []⟩,
    ⟨some 30, some (27, true), .faddr 1 1 (.t 4), 0, 0, false, []⟩,
    ⟨some 31, some (27, true), .load false 1 (.t 30), 0, 0, false, []⟩,
    ⟨some 32, some (27, true), .bin .add (.t 31) (.k (.int .i64 1)), 0, 0, false, []⟩,
    ⟨some 33, some (27, true), .call 82 [.t 29, .t 32, .k (.int .i64 40)] false false, 0, 0, false, []⟩,
    ⟨some 34, some (27, true), .un .not (.t 33), 0, 0, false, []⟩,
    ⟨some 35, some (23, false), .pick (.t 27) (.t 34) (.k (.bool false)), 0, 0, false, []⟩,
    ⟨some 36, none, .pick (.t 23) (.k (.bool true)) (.t 35), 0, 0, false, []⟩,
    ⟨some 37, none, .mov (.t 36), 0, 0, false, []⟩,
    ⟨some 38, some (37, false), .faddr 3 1 (.t 4), 0, 0, false, []⟩,
    ⟨some 39, some (37, false), .load false 1 (.t 38), 0, 0, false, []⟩,
    ⟨some 40, some (37, false), .call 128 [.t 39] false false, 0, 0, false, []⟩,
    ⟨some 41, some (37, false), .un .not (.t 40), 0, 0, false, []⟩,
    ⟨some 42, none, .pick (.t 37) (.k (.bool true)) (.t 41), 0, 0, false, []⟩])
   (.cutTo [0, 3, 4, 6, 7, 8, 42] (.cond (.t 42) (.seq (.seg false [⟨some 2, none, .mov (.k (.bool false)), 0, 0, false, []⟩])
   (.ret))
   (.skip))))
   (.cutTo [0, 3, 4, 6, 7, 8] (.seq (.seq (.seg false [⟨some 43, none, .mov (.t 3), 0, 0, false, []⟩,
    ⟨some 44, none, .bin .eql (.t 43) (.k (.int .i64 0)), 0, 0, false, []⟩])
   (.cond (.t 44) (.exit 1)
   (.skip)))
   (.seq (.seg false [⟨some 45, none, .mov (.t 0), 0, 0, false, []⟩,
    ⟨some 46, none, .mov (.t 3), 0, 0, false, []⟩,
    ⟨some 47, none, .bin .sub (.t 46) (.k (.int .i64 1)), 0, 0, false, []⟩,
    ⟨some 48, none, .iaddr 4 (.t 45) (.t 47), 0, 0, false, []⟩,
    ⟨some 49, none, .load true 4 (.t 48), 0, 0, false, []⟩,
    ⟨some 5, none, .alloc [.int .i64 0, .int .i64 0, .int .i64 0, .sl true 3 []], 0, 0, false, []⟩,
    ⟨none, none, .store 4 (.t 5) (.t 49), 0, 0, false, []⟩])
   (.cutTo [0, 4, 5, 6, 7, 8] (.seq (.seg false [⟨some 50, none, .faddr 0 1 (.t 5), 0, 0, false, []⟩,
    ⟨some 51, none, .load false 1 (.t 50), 0, 0, false, []⟩,
    ⟨some 52, none, .faddr 0 1 (.t 4), 0, 0, false, []⟩,
    ⟨some 53, none, .load false 1 (.t 52), 0, 0, false, []⟩,
    ⟨some 54, none, .bin .gtr (.t 51) (.t 53), 0, 0, false, []⟩,
    ⟨some 55, none, .mov (.t 54), 0, 0, false, []⟩,
    ⟨some 56, some (55, false), .faddr 0 1 (.t 5), 0, 0, false, []⟩,
    ⟨some 57, some (55, false), .load false 1 (.t 56), 0, 0, false, []⟩,
    ⟨some 58, some (55, false), .faddr 0 1 (.t 4), 0, 0, false, []⟩,
    ⟨some 59, some (55, false), .load false 1 (.t 58), 0, 0, false, []⟩,
    ⟨some 60, some (55, false), .bin .eql (.t 57) (.t 59), 0, 0, false, []⟩,
    ⟨some 61, some (55, false), .mov (.t 60), 0, 0, false, []⟩,
    ⟨some 62, some (61, true), .faddr 1 1 (.t 5), 0, 0, false, []⟩,
    ⟨some 63, some (61, true), .load false 1 (.t 62), 0, 0, false, []⟩,
    ⟨some 64, some (61, true), .faddr 1 1 (.t 4), 0, 0, false, []⟩,
    ⟨some 65, some (61, true), .load false 1 (.t 64), 0, 0, false, []⟩,
    ⟨some 66, some (61, true), .bin .geq (.t 63) (.t 65), 0, 0, false, []⟩,
    ⟨some 67, some (61, true), .mov (.t 66), 0, 0, false, []⟩,
    ⟨some 68, some (67, false), .faddr 2 1 (.t 5), 0, 0, false, []⟩,
    ⟨some 69, some (67, false), .load false 1 (.t 68), 0, 0, false, []⟩,
    ⟨some 70, some (67, false), .bin .eql (.t 69) (.k (.int .i64 0)), 0, 0, false, []⟩,
    ⟨some 71, some (61, true), .pick (.t 67) (.k (.bool true)) (.t 70), 0, 0, false, []⟩,
    ⟨some 72, some (61, true), .mov (.t 71), 0, 0, false, []⟩,
    ⟨some 73, some (72, false), .faddr 2 1 (.t 5), 0, 0, false, []⟩,
    ⟨some 74, some (72, false), .load false 1 (.t 73), 0, 0, false, []⟩,
    ⟨some 75, some (72, false), .faddr 1 1 (.t 4), 0, 0, false, []⟩,
    ⟨some 76, some (72, false), .load false 1 (.t 75), 0, 0, false, []⟩,
    ⟨some 77, some (72, false), .bin .gtr (.t 74) (.t 76), 0, 0, false, []⟩,
    ⟨some 78, some (61, true), .pick (.t 72) (.k (.bool true)) (.t 77), 0, 0, false, []⟩,
    ⟨some 79, some (55, false), .pick (.t 61) (.t 78) (.k (.bool false)), 0, 0, false, []⟩,
    ⟨some 80, none, .pick (.t 55) (.k (.bool true)) (.t 79), 0, 0, false, []⟩])
   (.cutTo [0, 6, 7, 8, 80] (.cond (.t 80) (.seq (.seg false [⟨some 2, none, .mov (.k (.bool false)), 0, 0, false, []⟩])
   (.ret))
   (.skip))))))))))))
   (.cutTo [0, 6, 7, 8] (.seg false [⟨some 81, none, .bin .add (.t 8) (.k (.int .i64 1)), 0, 0, false, []⟩,
    ⟨some 8, none, .mov (.t 81), 0, 0, false, []⟩]))))
def L59x0 : C := B59x0
theorem evL59x0 (run : Run) (draw : List I → Env → Heap → Option (Env × Heap)) (e : Env) (h : Heap) : evC run draw L59x0 e h = evC run draw B59x0 e h := rfl
/-- loop.example/tablehouse/impl.VersionsOk -/
def F59 : F := ⟨85, [(false, 2, 0, false)],
   .seq (.seg false [⟨some 2, none, .mov (.k (.bool false)), 0, 0, false, []⟩])
   (.seq (.seq (.seg false [⟨some 6, none, .mov (.t 0), 0, 0, false, []⟩,
    ⟨some 7, none, .len false (.t 6), 0, 0, false, []⟩,
    ⟨some 8, none, .mov (.k (.int .i64 0)), 0, 0, false, []⟩])
   (.block 0 (.loop [0, 6, 7, 8] [0, 2] L59x0)))
   (.seq (.seg false [⟨some 82, none, .mov (.t 0), 0, 0, false, []⟩,
    ⟨some 83, none, .len false (.t 82), 0, 0, false, []⟩,
    ⟨some 84, none, .bin .leq (.t 83) (.k (.int .i64 60)), 0, 0, false, []⟩,
    ⟨some 2, none, .mov (.t 84), 0, 0, false, []⟩])
   (.cutTo [2] (.ret))))⟩
/-- loop.example/tablehouse/laws.sameSeen -/
def F60 : F := ⟨35, [(false, 8, 0, false)],
   .seq (.seg false [⟨some 8, none, .mov (.k (.bool false)), 0, 0, false, []⟩])
   (.seq (.seg false [⟨some 14, none, .mov (.t 0), 0, 0, false, []⟩,
    ⟨some 15, none, .mov (.t 2), 0, 0, false, []⟩,
    ⟨some 16, none, .mov (.t 3), 0, 0, false, []⟩,
    ⟨some 17, none, .call 45 [.t 14, .t 15, .t 16] false false, 0, 0, false, []⟩,
    ⟨some 13, none, .mov (.t 17), 0, 0, false, []⟩,
    ⟨some 18, none, .ext (.t 13) 0, 0, 0, false, []⟩,
    ⟨some 19, none, .ext (.t 13) 1, 0, 0, false, []⟩,
    ⟨some 9, none, .mov (.t 18), 0, 0, false, []⟩,
    ⟨some 10, none, .mov (.t 19), 0, 0, false, []⟩])
   (.cutTo [1, 2, 3, 9, 10] (.seq (.seg false [⟨some 21, none, .mov (.t 1), 0, 0, false, []⟩,
    ⟨some 22, none, .mov (.t 2), 0, 0, false, []⟩,
    ⟨some 23, none, .mov (.t 3), 0, 0, false, []⟩,
    ⟨some 24, none, .call 45 [.t 21, .t 22, .t 23] false false, 0, 0, false, []⟩,
    ⟨some 20, none, .mov (.t 24), 0, 0, false, []⟩,
    ⟨some 25, none, .ext (.t 20) 0, 0, 0, false, []⟩,
    ⟨some 26, none, .ext (.t 20) 1, 0, 0, false, []⟩,
    ⟨some 11, none, .mov (.t 25), 0, 0, false, []⟩,
    ⟨some 12, none, .mov (.t 26), 0, 0, false, []⟩])
   (.cutTo [9, 10, 11, 12] (.seq (.seg false [⟨some 27, none, .mov (.t 10), 0, 0, false, []⟩,
    ⟨some 28, none, .mov (.t 12), 0, 0, false, []⟩,
    ⟨some 29, none, .eqb false (.t 27) (.t 28), 0, 0, false, []⟩,
    ⟨some 30, none, .mov (.t 29), 0, 0, false, []⟩,
    ⟨some 31, some (30, true), .mov (.t 9), 0, 0, false, []⟩,
    ⟨some 32, some (30, true), .mov (.t 11), 0, 0, false, []⟩,
    ⟨some 33, some (30, true), .call 110 [.t 31, .t 32] false false, 0, 0, false, []⟩,
    ⟨some 34, none, .pick (.t 30) (.t 33) (.k (.bool false)), 0, 0, false, []⟩,
    ⟨some 8, none, .mov (.t 34), 0, 0, false, []⟩])
   (.cutTo [8] (.ret)))))))⟩
/-- loop.example/tablehouse/spec.DrawTableAt -/
def F61 : F := ⟨29, [(false, 2, 0, false), (false, 3, 0, false), (false, 4, 0, false)],
   .seq (.seg false [⟨some 2, none, .mov (.k (.sl true 2 [])), 0, 0, false, []⟩,
    ⟨some 3, none, .mov (.k (.sl true 4 [])), 0, 0, false, []⟩,
    ⟨some 4, none, .mov (.k (.int .i64 0)), 0, 0, false, []⟩])
   (.seq (.seg false [⟨some 9, none, .mov (.t 0), 0, 0, false, []⟩,
    ⟨some 10, none, .call 76 [.t 9] true true, 0, 0, false, []⟩,
    ⟨some 5, none, .mov (.t 10), 0, 0, false, []⟩])
   (.seq (.seg false [⟨some 11, none, .mov (.t 5), 0, 0, false, []⟩,
    ⟨some 12, none, .call 129 [.t 11] true false, 0, 0, false, []⟩,
    ⟨some 6, none, .mov (.t 12), 0, 0, false, []⟩])
   (.seq (.seq (.seg false [⟨some 13, none, .mov (.t 5), 0, 0, false, []⟩,
    ⟨some 14, none, .call 104 [.t 13, .k (.int .i64 8)] true false, 0, 0, false, []⟩,
    ⟨some 15, none, .bin .eql (.t 14) (.k (.int .i64 0)), 0, 0, false, []⟩])
   (.cond (.t 15) (.seg false [⟨some 16, none, .mov (.t 5), 0, 0, false, []⟩,
    ⟨some 17, none, .call 130 [.t 16, .k (.int .i64 0)] true false, 0, 0, false, []⟩,
    ⟨some 6, none, .mov (.t 17), 0, 0, false, []⟩])
   (.skip)))
   (.cutTo [5, 6] (.seq (.seg false [⟨some 19, none, .mov (.t 5), 0, 0, false, []⟩,
    ⟨some 20, none, .call 107 [.t 19, .k (.int .i64 15)] true false, 0, 0, false, []⟩,
    ⟨some 18, none, .mov (.t 20), 0, 0, false, []⟩,
    ⟨some 21, none, .ext (.t 18) 0, 0, 0, false, []⟩,
    ⟨some 22, none, .ext (.t 18) 1, 0, 0, false, []⟩,
    ⟨some 7, none, .mov (.t 21), 0, 0, false, []⟩,
    ⟨some 8, none, .mov (.t 22), 0, 0, false, []⟩])
   (.cutTo [5, 6, 7, 8] (.seq (.seg false [⟨some 23, none, .mov (.t 6), 0, 0, false, []⟩,
    ⟨some 24, none, .mov (.t 7), 0, 0, false, []⟩,
    ⟨some 25, none, .mov (.t 5), 0, 0, false, []⟩,
    ⟨some 26, none, .mov (.t 8), 0, 0, false, []⟩,
    ⟨some 27, none, .bin .add (.t 26) (.k (.int .i64 2)), 0, 0, false, []⟩,
    ⟨some 28, none, .call 104 [.t 25, .t 27] true false, 0, 0, false, []⟩,
    ⟨some 2, none, .mov (.t 23), 0, 0, false, []⟩,
    ⟨some 3, none, .mov (.t 24), 0, 0, false, []⟩,
    ⟨some 4, none, .mov (.t 28), 0, 0, false, []⟩])
   (.cutTo [2, 3, 4] (.ret)))))))))⟩
/-- loop.example/tablehouse/impl.TableAt -/
def F62 : F := ⟨19, [(true, 6, 2, true), (false, 7, 0, false)],
   .seq (.seg false [⟨some 6, none, .alloc [.sl true 2 [], .sl true 1 []], 0, 0, false, []⟩,
    ⟨some 7, none, .mov (.k (.bool false)), 0, 0, false, []⟩])
   (.seq (.seq (.seg false [⟨some 8, none, .mov (.t 1), 0, 0, false, []⟩,
    ⟨some 9, none, .call 59 [.t 8] false false, 0, 0, false, []⟩,
    ⟨some 10, none, .un .not (.t 9), 0, 0, false, []⟩])
   (.cond (.t 10) (.seq (.seg false [⟨some 11, none, .build [.sl true 2 [], .sl true 1 []] [], 0, 0, false, []⟩,
    ⟨none, none, .store 2 (.t 6) (.t 11), 0, 0, false, []⟩,
    ⟨some 7, none, .mov (.k (.bool false)), 0, 0, false, []⟩])
   (.ret))
   (.skip)))
   (.cutTo [0, 1, 2, 6] (.seq (.seg false [⟨some 12, none, .mov (.t 0), 0, 0, false, []⟩,
    ⟨some 13, none, .mov (.t 1), 0, 0, false, []⟩,
    ⟨some 14, none, .mov (.t 2), 0, 0, false, []⟩,
    ⟨some 15, none, .call 42 [.t 13, .t 14] false false, 0, 0, false, []⟩,
    ⟨some 16, none, .call 131 [.t 12, .t 15] false false, 0, 0, false, []⟩,
    ⟨some 17, none, .ext (.t 16) 0, 0, 0, false, []⟩,
    ⟨some 18, none, .ext (.t 16) 1, 0, 0, false, []⟩,
    ⟨none, none, .store 2 (.t 6) (.t 17), 0, 0, false, []⟩,
    ⟨some 7, none, .mov (.t 18), 0, 0, false, []⟩])
   (.cutTo [6, 7] (.ret)))))⟩
/-- loop.example/tablehouse/spec.TableAt -/
def F63 : F := ⟨28, [(true, 6, 2, true), (false, 7, 0, false)],
   .seq (.seg false [⟨some 6, none, .alloc [.sl true 2 [], .sl true 1 []], 0, 0, false, []⟩,
    ⟨some 7, none, .mov (.k (.bool false)), 0, 0, false, []⟩])
   (.seq (.seg false [⟨some 9, none, .mksl true 2 [], 0, 0, false, []⟩,
    ⟨some 10, none, .mov (.t 0), 0, 0, false, []⟩,
    ⟨some 11, none, .app 2 (.t 9) (.t 10), 0, 0, false, []⟩,
    ⟨some 12, none, .mov (.t 1), 0, 0, false, []⟩,
    ⟨some 13, none, .mov (.t 2), 0, 0, false, []⟩,
    ⟨some 14, none, .call 44 [.t 12, .t 13] false false, 0, 0, false, []⟩,
    ⟨some 15, none, .build [.sl true 2 [], .sl true 1 []] [(0, 1, .t 11), (1, 1, .t 14)], 0, 0, false, []⟩,
    ⟨some 8, none, .alloc [.sl true 2 [], .sl true 1 []], 0, 0, false, []⟩,
    ⟨none, none, .store 2 (.t 8) (.t 15), 0, 0, false, []⟩])
   (.cutTo [0, 1, 6, 8] (.seq (.seq (.seg false [⟨some 16, none, .mov (.t 1), 0, 0, false, []⟩,
    ⟨some 17, none, .call 114 [.t 16] false false, 0, 0, false, []⟩,
    ⟨some 18, none, .un .not (.t 17), 0, 0, false, []⟩,
    ⟨some 19, none, .mov (.t 18), 0, 0, false, []⟩,
    ⟨some 20, some (19, false), .mov (.t 0), 0, 0, false, []⟩,
    ⟨some 21, some (19, false), .faddr 1 1 (.t 8), 0, 0, false, []⟩,
    ⟨some 22, some (19, false), .load false 1 (.t 21), 0, 0, false, []⟩,
    ⟨some 23, some (19, false), .call 89 [.t 20, .t 22] false false, 0, 0, false, []⟩,
    ⟨some 24, some (19, false), .un .not (.t 23), 0, 0, false, []⟩,
    ⟨some 25, none, .pick (.t 19) (.k (.bool true)) (.t 24), 0, 0, false, []⟩])
   (.cutTo [6, 8, 25] (.cond (.t 25) (.seq (.seg false [⟨some 26, none, .build [.sl true 2 [], .sl true 1 []] [], 0, 0, false, []⟩,
    ⟨none, none, .store 2 (.t 6) (.t 26), 0, 0, false, []⟩,
    ⟨some 7, none, .mov (.k (.bool false)), 0, 0, false, []⟩])
   (.ret))
   (.skip))))
   (.cutTo [6, 8] (.seq (.seg false [⟨some 27, none, .load true 2 (.t 8), 0, 0, false, []⟩,
    ⟨none, none, .store 2 (.t 6) (.t 27), 0, 0, false, []⟩,
    ⟨some 7, none, .mov (.k (.bool true)), 0, 0, false, []⟩])
   (.ret))))))⟩
/-- loop.example/tablehouse/laws.sameTable -/
def F64 : F := ⟨10, [(false, 4, 0, false)],
   .seq (.seg false [⟨some 2, none, .box (.t 0), 0, 0, false, []⟩,
    ⟨some 3, none, .box (.t 1), 0, 0, false, []⟩,
    ⟨some 4, none, .mov (.k (.bool false)), 0, 0, false, []⟩])
   (.seq (.seg false [⟨some 5, none, .load true 2 (.t 2), 0, 0, false, []⟩,
    ⟨some 6, none, .mksl false 2 [.t 5], 0, 0, false, []⟩,
    ⟨some 7, none, .load true 2 (.t 3), 0, 0, false, []⟩,
    ⟨some 8, none, .mksl false 2 [.t 7], 0, 0, false, []⟩,
    ⟨some 9, none, .call 73 [.t 6, .t 8] false false, 0, 0, false, []⟩,
    ⟨some 4, none, .mov (.t 9), 0, 0, false, []⟩])
   (.cutTo [4] (.ret)))⟩
/-- loop.example/tablehouse/impl.TablesOk -/
def F65 : F := ⟨11, [(false, 2, 0, false)],
   .seq (.seg false [⟨some 2, none, .mov (.k (.bool false)), 0, 0, false, []⟩])
   (.seq (.seg false [⟨some 3, none, .mov (.t 0), 0, 0, false, []⟩,
    ⟨some 4, none, .len false (.t 3), 0, 0, false, []⟩,
    ⟨some 5, none, .bin .leq (.t 4) (.k (.int .i64 3)), 0, 0, false, []⟩,
    ⟨some 6, none, .mov (.t 5), 0, 0, false, []⟩,
    ⟨some 7, some (6, true), .mov (.t 0), 0, 0, false, []⟩,
    ⟨some 8, some (6, true), .call 132 [.t 7, .k (.clo 133 [])] true false, 0, 0, false, []⟩,
    ⟨some 9, some (6, true), .un .not (.t 8), 0, 0, false, []⟩,
    ⟨some 10, none, .pick (.t 6) (.t 9) (.k (.bool false)), 0, 0, false, []⟩,
    ⟨some 2, none, .mov (.t 10), 0, 0, false, []⟩])
   (.cutTo [2] (.ret)))⟩
/-- loop.example/tablehouse/spec.DrawTablesAfter -/
def F70 : F := ⟨9, [(false, 2, 0, false), (true, 3, 3, true)],
   .seq (.seg false [⟨some 2, none, .mov (.k (.sl true 2 [])), 0, 0, false, []⟩,
    ⟨some 3, none, .alloc [.int .i64 0, .sl true 3 [], .bool false], 0, 0, false, []⟩])
   (.seq (.seg false [⟨some 4, none, .mov (.t 0), 0, 0, false, []⟩,
    ⟨some 5, none, .call 76 [.t 4] true true, 0, 0, false, []⟩,
    ⟨some 6, none, .call 137 [.t 5, .k (.int .i64 9)] true false, 0, 0, false, []⟩,
    ⟨some 7, none, .ext (.t 6) 0, 0, 0, false, []⟩,
    ⟨some 8, none, .ext (.t 6) 1, 0, 0, false, []⟩,
    ⟨some 2, none, .mov (.t 7), 0, 0, false, []⟩,
    ⟨none, none, .store 3 (.t 3) (.t 8), 0, 0, false, []⟩])
   (.cutTo [2, 3] (.ret)))⟩
/-- loop.example/tablehouse/impl.TablesAfter -/
def F71 : F := ⟨13, [(false, 4, 0, false), (false, 5, 0, false)],
   .seq (.seg false [⟨some 3, none, .box (.t 1), 0, 0, false, []⟩,
    ⟨some 4, none, .mov (.k (.sl true 2 [])), 0, 0, false, []⟩,
    ⟨some 5, none, .mov (.k (.bool false)), 0, 0, false, []⟩])
   (.seq (.seq (.seg false [⟨some 6, none, .mov (.t 0), 0, 0, false, []⟩,
    ⟨some 7, none, .load true 3 (.t 3), 0, 0, false, []⟩,
    ⟨some 8, none, .call 138 [.t 6, .t 7] false false, 0, 0, false, []⟩,
    ⟨some 9, none, .un .not (.t 8), 0, 0, false, []⟩])
   (.cutTo [0, 3, 9] (.cond (.t 9) (.seq (.seg false [⟨some 4, none, .mov (.k (.sl true 2 [])), 0, 0, false, []⟩,
    ⟨some 5, none, .mov (.k (.bool false)), 0, 0, false, []⟩])
   (.ret))
   (.skip))))
   (.cutTo [0, 3] (.seq (.seg false [⟨some 10, none, .mov (.t 0), 0, 0, false, []⟩,
    ⟨some 11, none, .load true 3 (.t 3), 0, 0, false, []⟩,
    ⟨some 12, none, .call 139 [.t 10, .t 11] false false, 0, 0, false, []⟩,
    ⟨some 4, none, .mov (.t 12), 0, 0, false, []⟩,
    ⟨some 5, none, .mov (.k (.bool true)), 0, 0, false, []⟩])
   (.cutTo [4, 5] (.ret)))))⟩
def E72x0 : List I := [⟨some 16, none, .mov (.t 6), 0, 1, false, []⟩,
    ⟨some 17, none, .faddr 0 1 (.t 3), 0, 1, false, []⟩,
    ⟨some 18, none, .load false 1 (.t 17), 0, 1, false, []⟩,
    ⟨some 19, none, .mov (.t 6), 0, 0, false, []⟩,
    ⟨some 20, none, .faddr 0 1 (.t 3), 0, 0, false, []⟩,
    ⟨some 21, none, .load false 1 (.t 20), 0, 0, false, []⟩,
    ⟨some 22, none, .iaddr 2 (.t 19) (.t 21), 0, 0, false, []⟩,
    ⟨some 23, none, .faddr 1 1 (.t 22), 0, 0, false, []⟩,
    ⟨some 24, none, .load false 1 (.t 23), 0, 0, false, []⟩,
    ⟨some 25, none, .faddr 1 1 (.t 3), 0, 0, false, []⟩,
    ⟨some 26, none, .load false 1 (.t 25), 0, 0, false, []⟩,
    ⟨some 27, none, .call 126 [.t 26] false false, 0, 0, false, []⟩,
    ⟨some 28, none, .mksl false 1 [.t 27], 0, 0, false, []⟩,
    ⟨some 29, none, .app 1 (.t 24) (.t 28), 0, 0, true, []⟩,
    ⟨some 30, none, .iaddr 2 (.t 16) (.t 18), 1, 1, false, []⟩,
    ⟨some 31, none, .faddr 1 1 (.t 30), 1, 1, false, []⟩,
    ⟨none, none, .store 1 (.t 31) (.t 29), 1, 0, true, []⟩]
def D72x0 : List I := E72x0
theorem evD72x0 (run : Run) (e : Env) (h : Heap) : drawI run D72x0 e h = DrawW (evW run E72x0 e h []) run E72x0 e h := drawI_write run _ e h
def E72x1 : List I := [⟨some 32, none, .mov (.t 6), 0, 0, false, []⟩,
    ⟨some 33, none, .faddr 0 1 (.t 3), 0, 0, false, []⟩,
    ⟨some 34, none, .load false 1 (.t 33), 0, 0, false, []⟩,
    ⟨some 35, none, .mov (.t 6), 0, 0, false, []⟩,
    ⟨some 36, none, .faddr 0 1 (.t 3), 0, 0, false, []⟩,
    ⟨some 37, none, .load false 1 (.t 36), 0, 0, false, []⟩,
    ⟨some 38, none, .iaddr 2 (.t 35) (.t 37), 0, 0, false, []⟩,
    ⟨some 39, none, .faddr 1 1 (.t 38), 0, 0, false, []⟩,
    ⟨some 40, none, .load false 1 (.t 39), 0, 0, false, []⟩,
    ⟨some 41, none, .faddr 1 1 (.t 3), 0, 0, false, []⟩,
    ⟨some 42, none, .load false 1 (.t 41), 0, 0, false, []⟩,
    ⟨some 43, none, .mksl false 1 [.t 42], 0, 0, false, []⟩,
    ⟨some 44, none, .call 142 [.t 40, .t 43] false false, 0, 0, false, []⟩,
    ⟨some 45, none, .iaddr 2 (.t 32) (.t 34), 0, 0, false, []⟩,
    ⟨some 46, none, .faddr 1 1 (.t 45), 0, 0, false, []⟩,
    ⟨none, none, .store 1 (.t 46) (.t 44), 0, 0, true, []⟩]
def D72x1 : List I := E72x1
theorem evD72x1 (run : Run) (e : Env) (h : Heap) : drawI run D72x1 e h = DrawW (evW run E72x1 e h []) run E72x1 e h := drawI_write run _ e h
/-- loop.example/tablehouse/spec.TablesAfter -/
def F72 : F := ⟨48, [(false, 4, 0, false), (false, 5, 0, false)],
   .seq (.seg false [⟨some 3, none, .box (.t 1), 0, 0, false, []⟩,
    ⟨some 4, none, .mov (.k (.sl true 2 [])), 0, 0, false, []⟩,
    ⟨some 5, none, .mov (.k (.bool false)), 0, 0, false, []⟩])
   (.seq (.seq (.seg false [⟨some 7, none, .mov (.t 0), 0, 0, false, []⟩,
    ⟨some 8, none, .load true 3 (.t 3), 0, 0, false, []⟩,
    ⟨some 9, none, .call 140 [.t 7, .t 8] false false, 0, 0, false, []⟩,
    ⟨some 10, none, .un .not (.t 9), 0, 0, false, []⟩])
   (.cutTo [0, 3, 10] (.cond (.t 10) (.seq (.seg false [⟨some 11, none, .mksl true 2 [], 0, 0, false, []⟩,
    ⟨some 4, none, .mov (.t 11), 0, 0, false, []⟩,
    ⟨some 5, none, .mov (.k (.bool false)), 0, 0, false, []⟩])
   (.ret))
   (.skip))))
   (.cutTo [0, 3] (.seq (.seg false [⟨some 12, none, .mov (.t 0), 0, 0, false, []⟩,
    ⟨some 13, none, .call 141 [.t 12] false true, 0, 0, false, []⟩,
    ⟨some 6, none, .mov (.t 13), 0, 0, false, []⟩])
   (.seq (.seq (.seg false [⟨some 14, none, .faddr 2 1 (.t 3), 0, 0, false, []⟩,
    ⟨some 15, none, .load false 1 (.t 14), 0, 0, false, []⟩])
   (.cond (.t 15) (.seg true D72x0)
   (.seg true D72x1)))
   (.cutTo [6] (.seq (.seg false [⟨some 47, none, .mov (.t 6), 0, 0, false, []⟩,
    ⟨some 4, none, .mov (.t 47), 0, 0, false, []⟩,
    ⟨some 5, none, .mov (.k (.bool true)), 0, 0, false, []⟩])
   (.ret)))))))⟩
def E73x0 : List I := [⟨some 18, none, .mov (.t 0), 0, 0, false, []⟩,
    ⟨some 19, none, .mov (.t 5), 0, 0, false, []⟩,
    ⟨some 20, none, .iaddr 2 (.t 18) (.t 19), 0, 0, false, []⟩,
    ⟨some 21, none, .faddr 0 1 (.t 20), 0, 0, false, []⟩,
    ⟨some 22, none, .load false 1 (.t 21), 0, 0, false, []⟩,
    ⟨some 23, none, .len false (.t 22), 0, 0, false, []⟩,
    ⟨some 24, none, .mov (.t 1), 0, 0, false, []⟩,
    ⟨some 25, none, .mov (.t 5), 0, 0, false, []⟩,
    ⟨some 26, none, .iaddr 2 (.t 24) (.t 25), 0, 0, false, []⟩,
    ⟨some 27, none, .faddr 0 1 (.t 26), 0, 0, false, []⟩,
    ⟨some 28, none, .load false 1 (.t 27), 0, 0, false, []⟩,
    ⟨some 29, none, .len false (.t 28), 0, 0, false, []⟩,
    ⟨some 30, none, .bin .neq (.t 23) (.t 29), 0, 0, false, []⟩,
    ⟨some 31, none, .mov (.t 30), 0, 0, false, []⟩,
    ⟨some 32, some (31, false), .mov (.t 0), 0, 0, false, []⟩,
    ⟨some 33, some (31, false), .mov (.t 5), 0, 0, false, []⟩,
    ⟨some 34, some (31, false), .iaddr 2 (.t 32) (.t 33), 0, 0, false, []⟩,
    ⟨some 35, some (31, false), .faddr 1 1 (.t 34), 0, 0, false, []⟩,
    ⟨some 36, some (31, false), .load false 1 (.t 35), 0, 0, false, []⟩,
    ⟨some 37, some (31, false), .mov (.t 1), 0, 0, false, []⟩,
    ⟨some 38, some (31, false), .mov (.t 5), 0, 0, false, []⟩,
    ⟨some 39, some (31, false), .iaddr 2 (.t 37) (.t 38), 0, 0, false, []⟩,
    ⟨some 40, some (31, false), .faddr 1 1 (.t 39), 0, 0, false, []⟩,
    ⟨some 41, some (31, false), .load false 1 (.t 40), 0, 0, false, []⟩,
    ⟨some 42, some (31, false), .call 43 [.t 36, .t 41] false false, 0, 0, false, []⟩,
    ⟨some 43, some (31, false), .un .not (.t 42), 0, 0, false, []⟩,
    ⟨some 44, none, .pick (.t 31) (.k (.bool true)) (.t 43), 0, 0, false, []⟩]
def D73x0 : List I := E73x0
theorem evD73x0 (run : Run) (e : Env) (h : Heap) : drawI run D73x0 e h = DrawS (evQ run E73x0 e h) run E73x0 e h := drawI_quiet run _ (by rfl) e h
def E73x1 : List I := [⟨some 55, none, .mov (.t 0), 0, 0, false, []⟩,
    ⟨some 56, none, .mov (.t 5), 0, 0, false, []⟩,
    ⟨some 57, none, .iaddr 2 (.t 55) (.t 56), 0, 0, false, []⟩,
    ⟨some 58, none, .faddr 0 1 (.t 57), 0, 0, false, []⟩,
    ⟨some 59, none, .load false 1 (.t 58), 0, 0, false, []⟩,
    ⟨some 60, none, .mov (.t 6), 0, 0, false, []⟩,
    ⟨some 61, none, .iaddr 2 (.t 59) (.t 60), 0, 0, false, []⟩,
    ⟨some 62, none, .load true 2 (.t 61), 0, 0, false, []⟩,
    ⟨some 63, none, .mov (.t 1), 0, 0, false, []⟩,
    ⟨some 64, none, .mov (.t 5), 0, 0, false, []⟩,
    ⟨some 65, none, .iaddr 2 (.t 63) (.t 64), 0, 0, false, []⟩,
    ⟨some 66, none, .faddr 0 1 (.t 65), 0, 0, false, []⟩,
    ⟨some 67, none, .load false 1 (.t 66), 0, 0, false, []⟩,
    ⟨some 68, none, .mov (.t 6), 0, 0, false, []⟩,
    ⟨some 69, none, .iaddr 2 (.t 67) (.t 68), 0, 0, false, []⟩,
    ⟨some 70, none, .load true 2 (.t 69), 0, 0, false, []⟩,
    ⟨some 71, none, .eqs true [.int, .bool] (.t 62) (.t 70), 0, 0, false, []⟩]
def D73x1 : List I := E73x1
theorem evD73x1 (run : Run) (e : Env) (h : Heap) : drawI run D73x1 e h = DrawS (evQ run E73x1 e h) run E73x1 e h := drawI_quiet run _ (by rfl) e h
def B73x1 : C := .seq (.seq (.seg false [⟨some 45, none, .mov (.t 6), 0, 0, false, []⟩,
    ⟨some 46, none, .mov (.t 0), 0, 0, false, []⟩,
    ⟨some 47, none, .mov (.t 5), 0, 0, false, []⟩,
    ⟨some 48, none, .iaddr 2 (.t 46) (.t 47), 0, 0, false, []⟩,
    ⟨some 49, none, .faddr 0 1 (.t 48), 0, 0, false, []⟩,
    ⟨some 50, none, .load false 1 (.t 49), 0, 0, false, []⟩,
    ⟨some 51, none, .len false (.t 50), 0, 0, false, []⟩,
    ⟨some 52, none, .bin .lss (.t 45) (.t 51), 0, 0, false, []⟩])
   (.cutTo [0, 1, 5, 6, 52] (.cond (.t 52) (.skip)
   (.exit 2))))
   (.cutTo [0, 1, 5, 6] (.seq (.block 3 (.seq (.seg true D73x1)
   (.cutTo [0, 1, 5, 6, 71] (.cond (.t 71) (.seq (.seg false [⟨some 4, none, .mov (.k (.bool false)), 0, 0, false, []⟩])
   (.ret))
   (.skip)))))
   (.cutTo [0, 1, 5, 6] (.seg false [⟨some 53, none, .mov (.t 6), 0, 0, false, []⟩,
    ⟨some 54, none, .bin .add (.t 53) (.k (.int .i64 1)), 0, 0, false, []⟩,
    ⟨some 6, none, .mov (.t 54), 0, 0, false, []⟩]))))
def L73x1 : C := B73x1
theorem evL73x1 (run : Run) (draw : List I → Env → Heap → Option (Env × Heap)) (e : Env) (h : Heap) : evC run draw L73x1 e h = evC run draw B73x1 e h := rfl
def B73x0 : C := .seq (.seq (.seg false [⟨some 12, none, .mov (.t 5), 0, 0, false, []⟩,
    ⟨some 13, none, .mov (.t 0), 0, 0, false, []⟩,
    ⟨some 14, none, .len false (.t 13), 0, 0, false, []⟩,
    ⟨some 15, none, .bin .lss (.t 12) (.t 14), 0, 0, false, []⟩])
   (.cutTo [0, 1, 5, 15] (.cond (.t 15) (.skip)
   (.exit 0))))
   (.cutTo [0, 1, 5] (.seq (.block 1 (.seq (.seq (.seg true D73x0)
   (.cutTo [0, 1, 5, 44] (.cond (.t 44) (.seq (.seg false [⟨some 4, none, .mov (.k (.bool false)), 0, 0, false, []⟩])
   (.ret))
   (.skip))))
   (.cutTo [0, 1, 5] (.seq (.seg false [⟨some 6, none, .mov (.k (.int .i64 0)), 0, 0, false, []⟩])
   (.block 2 (.loop [0, 1, 5, 6] [0, 1, 4, 5] L73x1))))))
   (.cutTo [0, 1, 5] (.seg false [⟨some 16, none, .mov (.t 5), 0, 0, false, []⟩,
    ⟨some 17, none, .bin .add (.t 16) (.k (.int .i64 1)), 0, 0, false, []⟩,
    ⟨some 5, none, .mov (.t 17), 0, 0, false, []⟩]))))
def L73x0 : C := B73x0
theorem evL73x0 (run : Run) (draw : List I → Env → Heap → Option (Env × Heap)) (e : Env) (h : Heap) : evC run draw L73x0 e h = evC run draw B73x0 e h := rfl
/-- loop.example/tablehouse/laws.sameTables -/
def F73 : F := ⟨72, [(false, 4, 0, false)],
   .seq (.seg false [⟨some 4, none, .mov (.k (.bool false)), 0, 0, false, []⟩])
   (.seq (.seq (.seg false [⟨some 7, none, .mov (.t 0), 0, 0, false, []⟩,
    ⟨some 8, none, .len false (.t 7), 0, 0, false, []⟩,
    ⟨some 9, none, .mov (.t 1), 0, 0, false, []⟩,
    ⟨some 10, none, .len false (.t 9), 0, 0, false, []⟩,
    ⟨some 11, none, .bin .neq (.t 8) (.t 10), 0, 0, false, []⟩])
   (.cutTo [0, 1, 11] (.cond (.t 11) (.seq (.seg false [⟨some 4, none, .mov (.k (.bool false)), 0, 0, false, []⟩])
   (.ret))
   (.skip))))
   (.cutTo [0, 1] (.seq (.seq (.seg false [⟨some 5, none, .mov (.k (.int .i64 0)), 0, 0, false, []⟩])
   (.block 0 (.loop [0, 1, 5] [4] L73x0)))
   (.seq (.seg false [⟨some 4, none, .mov (.k (.bool true)), 0, 0, false, []⟩])
   (.ret)))))⟩
def B74x0 : C := .seq (.seg false [⟨some 13, none, .bin .lss (.t 12) (.t 11), 0, 0, false, []⟩])
   (.seq (.cond (.t 13) (.skip)
   (.exit 0))
   (.seq (.block 1 (.seq (.seg false [⟨some 14, none, .iaddr 1 (.t 10) (.t 12), 0, 0, false, []⟩,
    ⟨some 15, none, .load false 1 (.t 14), 0, 0, false, []⟩,
    ⟨some 6, none, .mov (.t 15), 0, 0, false, []⟩])
   (.seq (.seg false [⟨some 16, none, .mov (.t 0), 0, 0, false, []⟩,
    ⟨some 17, none, .mov (.t 6), 0, 0, false, []⟩,
    ⟨some 18, none, .call 144 [.t 16, .t 17] false false, 0, 0, false, []⟩,
    ⟨some 19, none, .mov (.t 1), 0, 0, false, []⟩,
    ⟨some 20, none, .mov (.t 6), 0, 0, false, []⟩,
    ⟨some 21, none, .call 144 [.t 19, .t 20] false false, 0, 0, false, []⟩,
    ⟨some 22, none, .bin .neq (.t 18) (.t 21), 0, 0, false, []⟩])
   (.cutTo [0, 1, 10, 11, 12, 22] (.cond (.t 22) (.seq (.seg false [⟨some 4, none, .mov (.k (.bool false)), 0, 0, false, []⟩])
   (.ret))
   (.skip))))))
   (.cutTo [0, 1, 10, 11, 12] (.seg false [⟨some 23, none, .bin .add (.t 12) (.k (.int .i64 1)), 0, 0, false, []⟩,
    ⟨some 12, none, .mov (.t 23), 0, 0, false, []⟩]))))
def L74x0 : C := B74x0
theorem evL74x0 (run : Run) (draw : List I → Env → Heap → Option (Env × Heap)) (e : Env) (h : Heap) : evC run draw L74x0 e h = evC run draw B74x0 e h := rfl
/-- loop.example/tablehouse/impl.SameBag -/
def F74 : F := ⟨24, [(false, 4, 0, false)],
   .seq (.seg false [⟨some 4, none, .mov (.k (.bool false)), 0, 0, false, []⟩])
   (.seq (.seq (.seg false [⟨some 7, none, .mov (.t 0), 0, 0, false, []⟩,
    ⟨some 8, none, .mov (.t 1), 0, 0, false, []⟩,
    ⟨some 9, none, .mksl false 1 [.t 7, .t 8], 0, 0, false, []⟩,
    ⟨some 10, none, .call 143 [.t 9] false false, 0, 0, false, []⟩,
    ⟨some 11, none, .len false (.t 10), 0, 0, false, []⟩,
    ⟨some 12, none, .mov (.k (.int .i64 0)), 0, 0, false, []⟩])
   (.cutTo [0, 1, 10, 11, 12] (.block 0 (.loop [0, 1, 10, 11, 12] [4] L74x0))))
   (.cutTo [] (.seq (.seg false [⟨some 4, none, .mov (.k (.bool true)), 0, 0, false, []⟩])
   (.ret))))⟩
/-- loop.example/tablehouse/spec.l20Open -/
def F76 : F := ⟨11, [(false, 2, 0, false)],
   .seq (.seg false [⟨some 2, none, .mov (.k .undef), 0, 0, false, []⟩])
   (.seq (.seq (.seg false [⟨some 3, none, .mov (.t 0), 0, 0, false, []⟩,
    ⟨some 4, none, .len false (.t 3), 0, 0, false, []⟩,
    ⟨some 5, none, .bin .gtr (.t 4) (.k (.int .i64 2000)), 0, 0, false, []⟩])
   (.cond (.t 5) (.seg false [⟨some 6, none, .mov (.t 0), 0, 0, false, []⟩,
    ⟨some 7, none, .slc false 1 (.t 6) none (some (.k (.int .i64 2000))) none, 0, 0, false, []⟩,
    ⟨some 0, none, .mov (.t 7), 0, 0, false, []⟩])
   (.skip)))
   (.cutTo [0] (.seq (.seg false [⟨some 8, none, .mov (.t 0), 0, 0, false, []⟩,
    ⟨some 9, none, .build [.sl true 1 [], .int .i64 0] [(0, 1, .t 8)], 0, 0, false, []⟩,
    ⟨some 10, none, .box (.t 9), 0, 0, false, []⟩,
    ⟨some 2, none, .mov (.t 10), 0, 0, false, []⟩])
   (.cutTo [2] (.ret)))))⟩
def E75x0 : List I := [⟨some 38, none, .load true 8 (.t 8), 0, 2, false, []⟩,
    ⟨some 39, none, .mov (.t 0), 0, 0, false, []⟩,
    ⟨some 40, none, .call 104 [.t 39, .k (.int .i64 4)] true false, 0, 0, true, []⟩,
    ⟨some 41, none, .bin .add (.k (.int .i64 1)) (.t 40), 1, 3, false, []⟩,
    ⟨some 42, none, .mov (.t 0), 0, 1, false, []⟩,
    ⟨some 43, none, .call 104 [.t 42, .k (.int .i64 20)] true false, 1, 0, true, []⟩,
    ⟨some 44, none, .bin .quo (.t 43) (.k (.int .i64 19)), 2, 3, false, []⟩,
    ⟨some 45, none, .bin .mul (.t 44) (.k (.int .i64 3)), 2, 3, false, []⟩,
    ⟨some 46, none, .bin .add (.t 41) (.t 45), 2, 3, false, []⟩,
    ⟨some 47, none, .load true 3 (.t 9), 0, 3, false, []⟩,
    ⟨none, none, .store 8 (.t 2) (.t 38), 2, 0, true, []⟩,
    ⟨some 3, none, .mov (.t 46), 3, 3, false, []⟩,
    ⟨none, none, .store 3 (.t 4) (.t 47), 3, 0, true, []⟩]
def D75x0 : List I := E75x0
theorem evD75x0 (run : Run) (e : Env) (h : Heap) : drawI run D75x0 e h = DrawW (evW run E75x0 e h []) run E75x0 e h := drawI_write run _ e h
/-- loop.example/tablehouse/spec.l20Against -/
def F75 : F := ⟨48, [(true, 2, 8, true), (false, 3, 0, false), (true, 4, 3, true)],
   .seq (.seg false [⟨some 2, none, .alloc [.int .i64 0, .int .i64 0, .int .i64 0, .int .i64 0, .str ⟨#[]⟩, .int .i64 0, .int .i64 0, .str ⟨#[]⟩], 0, 0, false, []⟩,
    ⟨some 3, none, .mov (.k (.int .i64 0)), 0, 0, false, []⟩,
    ⟨some 4, none, .alloc [.int .i64 0, .int .i64 0, .str ⟨#[]⟩], 0, 0, false, []⟩])
   (.seq (.seg false [⟨some 11, none, .mov (.t 0), 0, 0, false, []⟩,
    ⟨some 12, none, .call 86 [.t 11, .k (.int .i64 0)] true false, 0, 0, false, []⟩,
    ⟨some 10, none, .mov (.t 12), 0, 0, false, []⟩,
    ⟨some 13, none, .ext (.t 10) 0, 0, 0, false, []⟩,
    ⟨some 14, none, .ext (.t 10) 1, 0, 0, false, []⟩,
    ⟨some 15, none, .ext (.t 10) 2, 0, 0, false, []⟩,
    ⟨some 5, none, .mov (.t 13), 0, 0, false, []⟩,
    ⟨some 6, none, .mov (.t 14), 0, 0, false, []⟩,
    ⟨some 7, none, .mov (.t 15), 0, 0, false, []⟩])
   (.cutTo [0, 2, 4, 5, 6, 7] (.seq (.seg false [⟨some 16, none, .mov (.t 5), 0, 0, false, []⟩,
    ⟨some 17, none, .mov (.t 6), 0, 0, false, []⟩,
    ⟨some 18, none, .mov (.t 7), 0, 0, false, []⟩,
    ⟨some 19, none, .call 29 [.t 16, .t 17, .t 18] false false, 0, 0, false, []⟩,
    ⟨some 8, none, .alloc [.int .i64 0, .int .i64 0, .int .i64 0, .int .i64 0, .str ⟨#[]⟩, .int .i64 0, .int .i64 0, .str ⟨#[]⟩], 0, 0, false, []⟩,
    ⟨none, none, .store 8 (.t 8) (.t 19), 0, 0, false, []⟩])
   (.cutTo [0, 2, 4, 5, 7, 8] (.seq (.seg false [⟨some 20, none, .mov (.t 0), 0, 0, false, []⟩,
    ⟨some 21, none, .mov (.t 5), 0, 0, false, []⟩,
    ⟨some 22, none, .mov (.t 7), 0, 0, false, []⟩,
    ⟨some 23, none, .iaddr 2 (.t 21) (.t 22), 0, 0, false, []⟩,
    ⟨some 24, none, .faddr 0 1 (.t 23), 0, 0, false, []⟩,
    ⟨some 25, none, .load false 1 (.t 24), 0, 0, false, []⟩,
    ⟨some 26, none, .build [.int .i64 0, .bool false] [(0, 1, .t 25)], 0, 0, false, []⟩,
    ⟨some 27, none, .call 105 [.t 20, .t 26] true false, 0, 0, false, []⟩,
    ⟨some 9, none, .alloc [.int .i64 0, .int .i64 0, .str ⟨#[]⟩], 0, 0, false, []⟩,
    ⟨none, none, .store 3 (.t 9) (.t 27), 0, 0, false, []⟩])
   (.cutTo [0, 2, 4, 8, 9] (.seq (.seq (.seg false [⟨some 28, none, .mov (.t 0), 0, 0, false, []⟩,
    ⟨some 29, none, .call 104 [.t 28, .k (.int .i64 12)] true false, 0, 0, false, []⟩,
    ⟨some 30, none, .bin .eql (.t 29) (.k (.int .i64 0)), 0, 0, false, []⟩])
   (.cond (.t 30) (.seg false [⟨some 31, none, .mov (.t 0), 0, 0, false, []⟩,
    ⟨some 32, none, .call 145 [.t 31, .k (.int .i64 2)] true false, 0, 0, false, []⟩,
    ⟨none, none, .store 3 (.t 9) (.t 32), 0, 0, false, []⟩])
   (.skip)))
   (.cutTo [0, 2, 4, 8, 9] (.seq (.seq (.seg false [⟨some 33, none, .mov (.t 0), 0, 0, false, []⟩,
    ⟨some 34, none, .call 104 [.t 33, .k (.int .i64 15)] true false, 0, 0, false, []⟩,
    ⟨some 35, none, .bin .eql (.t 34) (.k (.int .i64 0)), 0, 0, false, []⟩])
   (.cond (.t 35) (.seg false [⟨some 36, none, .mov (.t 0), 0, 0, false, []⟩,
    ⟨some 37, none, .call 146 [.t 36, .k (.int .i64 1), .k (.int .i64 1)] true false, 0, 0, false, []⟩,
    ⟨none, none, .store 8 (.t 8) (.t 37), 0, 0, false, []⟩])
   (.skip)))
   (.cutTo [0, 2, 4, 8, 9] (.seq (.seg true D75x0)
   (.cutTo [2, 3, 4] (.ret)))))))))))))⟩
/-- (loop.example/tablehouse/impl.Known).asks -/
def F77 : F := ⟨30, [(false, 6, 0, false)],
   .seq (.seg false [⟨some 3, none, .box (.t 0), 0, 0, false, []⟩,
    ⟨some 5, none, .box (.t 2), 0, 0, false, []⟩,
    ⟨some 6, none, .mov (.k (.bool false)), 0, 0, false, []⟩])
   (.seq (.seg false [⟨some 7, none, .load true 8 (.t 3), 0, 0, false, []⟩,
    ⟨some 8, none, .call 18 [.t 7] false false, 0, 0, false, []⟩,
    ⟨some 9, none, .mov (.t 8), 0, 0, false, []⟩,
    ⟨some 10, some (9, true), .faddr 0 1 (.t 3), 0, 0, false, []⟩,
    ⟨some 11, some (9, true), .load false 1 (.t 10), 0, 0, false, []⟩,
    ⟨some 12, some (9, true), .bin .gtr (.t 11) (.k (.int .i64 0)), 0, 0, false, []⟩,
    ⟨some 13, none, .pick (.t 9) (.t 12) (.k (.bool false)), 0, 0, false, []⟩,
    ⟨some 14, none, .mov (.t 13), 0, 0, false, []⟩,
    ⟨some 15, some (14, true), .mov (.t 1), 0, 0, false, []⟩,
    ⟨some 16, some (14, true), .call 82 [.t 15, .k (.int .i64 1), .k (.int .i64 4)] false false, 0, 0, false, []⟩,
    ⟨some 17, none, .pick (.t 14) (.t 16) (.k (.bool false)), 0, 0, false, []⟩,
    ⟨some 18, none, .mov (.t 17), 0, 0, false, []⟩,
    ⟨some 19, some (18, true), .load true 3 (.t 5), 0, 0, false, []⟩,
    ⟨some 20, some (18, true), .call 83 [.t 19] false false, 0, 0, false, []⟩,
    ⟨some 21, none, .pick (.t 18) (.t 20) (.k (.bool false)), 0, 0, false, []⟩,
    ⟨some 22, none, .mov (.t 21), 0, 0, false, []⟩,
    ⟨some 23, some (22, true), .faddr 0 1 (.t 5), 0, 0, false, []⟩,
    ⟨some 24, some (22, true), .load false 1 (.t 23), 0, 0, false, []⟩,
    ⟨some 25, some (22, true), .faddr 2 3 (.t 3), 0, 0, false, []⟩,
    ⟨some 26, some (22, true), .faddr 0 1 (.t 25), 0, 0, false, []⟩,
    ⟨some 27, some (22, true), .load false 1 (.t 26), 0, 0, false, []⟩,
    ⟨some 28, some (22, true), .bin .eql (.t 24) (.t 27), 0, 0, false, []⟩,
    ⟨some 29, none, .pick (.t 22) (.t 28) (.k (.bool false)), 0, 0, false, []⟩,
    ⟨some 6, none, .mov (.t 29), 0, 0, false, []⟩])
   (.cutTo [6] (.ret)))⟩
def E78x0 : List I := [⟨some 5, none, .faddr 0 1 (.t 2), 0, 0, false, []⟩,
    ⟨some 6, none, .load false 1 (.t 5), 0, 0, false, []⟩,
    ⟨some 7, none, .faddr 0 1 (.t 3), 0, 0, false, []⟩,
    ⟨some 8, none, .load false 1 (.t 7), 0, 0, false, []⟩,
    ⟨some 9, none, .call 148 [.t 6, .t 8] false false, 0, 0, false, []⟩,
    ⟨some 10, none, .faddr 1 1 (.t 2), 0, 0, false, []⟩,
    ⟨some 11, none, .load false 1 (.t 10), 0, 0, false, []⟩,
    ⟨some 12, none, .faddr 1 1 (.t 3), 0, 0, false, []⟩,
    ⟨some 13, none, .load false 1 (.t 12), 0, 0, false, []⟩,
    ⟨some 14, none, .call 148 [.t 11, .t 13] false false, 0, 0, false, []⟩,
    ⟨some 15, none, .faddr 2 1 (.t 2), 0, 0, false, []⟩,
    ⟨some 16, none, .load false 1 (.t 15), 0, 0, false, []⟩,
    ⟨some 17, none, .faddr 2 1 (.t 3), 0, 0, false, []⟩,
    ⟨some 18, none, .load false 1 (.t 17), 0, 0, false, []⟩,
    ⟨some 19, none, .call 149 [.t 16, .t 18] false false, 0, 0, false, []⟩,
    ⟨some 20, none, .mksl false 1 [.t 9, .t 14, .t 19], 0, 0, false, []⟩,
    ⟨some 21, none, .call 147 [.t 20] false false, 0, 0, false, []⟩,
    ⟨some 4, none, .mov (.t 21), 0, 0, false, []⟩]
def D78x0 : List I := E78x0
theorem evD78x0 (run : Run) (e : Env) (h : Heap) : drawI run D78x0 e h = DrawS (evQ run E78x0 e h) run E78x0 e h := drawI_quiet run _ (by rfl) e h
/-- (loop.example/tablehouse/impl.Value).order -/
def F78 : F := ⟨22, [(false, 4, 0, false)],
   .seq (.seg false [⟨some 2, none, .box (.t 0), 0, 0, false, []⟩,
    ⟨some 3, none, .box (.t 1), 0, 0, false, []⟩,
    ⟨some 4, none, .mov (.k (.int .i64 0)), 0, 0, false, []⟩])
   (.seq (.seg true D78x0)
   (.cutTo [4] (.ret)))⟩
/-- loop.example/tablehouse/spec.KnownOk -/
def F79 : F := ⟨68, [(false, 2, 0, false)],
   .seq (.seg false [⟨some 1, none, .box (.t 0), 0, 0, false, []⟩,
    ⟨some 2, none, .mov (.k (.bool false)), 0, 0, false, []⟩])
   (.seq (.seq (.seg false [⟨some 3, none, .faddr 0 1 (.t 1), 0, 0, false, []⟩,
    ⟨some 4, none, .load false 1 (.t 3), 0, 0, false, []⟩,
    ⟨some 5, none, .bin .eql (.t 4) (.k (.int .i64 0)), 0, 0, false, []⟩])
   (.cond (.t 5) (.seq (.seg false [⟨some 6, none, .load true 8 (.t 1), 0, 0, false, []⟩,
    ⟨some 7, none, .build [.int .i64 0, .int .i64 0, .int .i64 0, .int .i64 0, .str ⟨#[]⟩, .int .i64 0, .int .i64 0, .str ⟨#[]⟩] [], 0, 0, false, []⟩,
    ⟨some 8, none, .eqs false [.int, .int, .int, .int, .str, .int, .int, .str] (.t 6) (.t 7), 0, 0, false, []⟩,
    ⟨some 2, none, .mov (.t 8), 0, 0, false, []⟩])
   (.cutTo [2] (.ret)))
   (.skip)))
   (.cutTo [1] (.seq (.seq (.seg false [⟨some 9, none, .faddr 0 1 (.t 1), 0, 0, false, []⟩,
    ⟨some 10, none, .load false 1 (.t 9), 0, 0, false, []⟩,
    ⟨some 11, none, .call 90 [.t 10, .k (.int .i64 1), .k (.int .i64 100)] false false, 0, 0, false, []⟩,
    ⟨some 12, none, .un .not (.t 11), 0, 0, false, []⟩,
    ⟨some 13, none, .mov (.t 12), 0, 0, false, []⟩,
    ⟨some 14, some (13, false), .faddr 2 3 (.t 1), 0, 0, false, []⟩,
    ⟨some 15, some (13, false), .load true 3 (.t 14), 0, 0, false, []⟩,
    ⟨some 16, some (13, false), .call 80 [.t 15] false false, 0, 0, false, []⟩,
    ⟨some 17, some (13, false), .un .not (.t 16), 0, 0, false, []⟩,
    ⟨some 18, none, .pick (.t 13) (.k (.bool true)) (.t 17), 0, 0, false, []⟩,
    ⟨some 19, none, .mov (.t 18), 0, 0, false, []⟩,
    ⟨some 20, some (19, false), .faddr 5 3 (.t 1), 0, 0, false, []⟩,
    ⟨some 21, some (19, false), .load true 3 (.t 20), 0, 0, false, []⟩,
    ⟨some 22, some (19, false), .call 80 [.t 21] false false, 0, 0, false, []⟩,
    ⟨some 23, some (19, false), .un .not (.t 22), 0, 0, false, []⟩,
    ⟨some 24, none, .pick (.t 19) (.k (.bool true)) (.t 23), 0, 0, false, []⟩,
    ⟨some 25, none, .mov (.t 24), 0, 0, false, []⟩,
    ⟨some 26, some (25, false), .faddr 2 3 (.t 1), 0, 0, false, []⟩,
    ⟨some 27, some (25, false), .faddr 0 1 (.t 26), 0, 0, false, []⟩,
    ⟨some 28, some (25, false), .load false 1 (.t 27), 0, 0, false, []⟩,
    ⟨some 29, some (25, false), .faddr 5 3 (.t 1), 0, 0, false, []⟩,
    ⟨some 30, some (25, false), .faddr 0 1 (.t 29), 0, 0, false, []⟩,
    ⟨some 31, some (25, false), .load false 1 (.t 30), 0, 0, false, []⟩,
    ⟨some 32, some (25, false), .bin .neq (.t 28) (.t 31), 0, 0, false, []⟩,
    ⟨some 33, none, .pick (.t 25) (.k (.bool true)) (.t 32), 0, 0, false, []⟩,
    ⟨some 34, none, .mov (.t 33), 0, 0, false, []⟩,
    ⟨some 35, some (34, false), .faddr 2 3 (.t 1), 0, 0, false, []⟩,
    ⟨some 36, some (34, false), .faddr 0 1 (.t 35), 0, 0, false, []⟩,
    ⟨some 37, some (34, false), .load false 1 (.t 36), 0, 0, false, []⟩,
    ⟨some 38, some (34, false), .bin .eql (.t 37) (.k (.int .i64 0)), 0, 0, false, []⟩,
    ⟨some 39, none, .pick (.t 34) (.k (.bool true)) (.t 38), 0, 0, false, []⟩])
   (.cutTo [1, 39] (.cond (.t 39) (.seq (.seg false [⟨some 2, none, .mov (.k (.bool false)), 0, 0, false, []⟩])
   (.ret))
   (.skip))))
   (.cutTo [1] (.seq (.seg false [⟨some 40, none, .faddr 2 3 (.t 1), 0, 0, false, []⟩,
    ⟨some 41, none, .load true 3 (.t 40), 0, 0, false, []⟩,
    ⟨some 42, none, .faddr 5 3 (.t 1), 0, 0, false, []⟩,
    ⟨some 43, none, .load true 3 (.t 42), 0, 0, false, []⟩,
    ⟨some 44, none, .call 81 [.t 41, .t 43] false false, 0, 0, false, []⟩,
    ⟨some 45, none, .bin .leq (.t 44) (.k (.int .i64 0)), 0, 0, false, []⟩,
    ⟨some 46, none, .mov (.t 45), 0, 0, false, []⟩,
    ⟨some 47, some (46, true), .faddr 1 1 (.t 1), 0, 0, false, []⟩,
    ⟨some 48, some (46, true), .load false 1 (.t 47), 0, 0, false, []⟩,
    ⟨some 49, some (46, true), .faddr 0 1 (.t 1), 0, 0, false, []⟩,
    ⟨some 50, some (46, true), .load false 1 (.t 49), 0, 0, false, []⟩,
    ⟨some 51, some (46, true), .bin .mul (.k (.int .i64 (-9999))) (.t 50), 0, 0, false, []⟩,
    ⟨some 52, some (46, true), .faddr 0 1 (.t 1), 0, 0, false, []⟩,
    ⟨some 53, some (46, true), .load false 1 (.t 52), 0, 0, false, []⟩,
    ⟨some 54, some (46, true), .bin .mul (.k (.int .i64 9999)) (.t 53), 0, 0, false, []⟩,
    ⟨some 55, some (46, true), .call 90 [.t 48, .t 51, .t 54] false false, 0, 0, false, []⟩,
    ⟨some 56, none, .pick (.t 46) (.t 55) (.k (.bool false)), 0, 0, false, []⟩,
    ⟨some 57, none, .mov (.t 56), 0, 0, false, []⟩,
    ⟨some 58, some (57, true), .faddr 2 3 (.t 1), 0, 0, false, []⟩,
    ⟨some 59, some (57, true), .faddr 0 1 (.t 58), 0, 0, false, []⟩,
    ⟨some 60, some (57, true), .load false 1 (.t 59), 0, 0, false, []⟩,
    ⟨some 61, some (57, true), .bin .eql (.t 60) (.k (.int .i64 1)), 0, 0, false, []⟩,
    ⟨some 62, some (57, true), .mov (.t 61), 0, 0, false, []⟩,
    ⟨some 63, some (62, false), .faddr 1 1 (.t 1), 0, 0, false, []⟩,
    ⟨some 64, some (62, false), .load false 1 (.t 63), 0, 0, false, []⟩,
    ⟨some 65, some (62, false), .bin .eql (.t 64) (.k (.int .i64 0)), 0, 0, false, []⟩,
    ⟨some 66, some (57, true), .pick (.t 62) (.k (.bool true)) (.t 65), 0, 0, false, []⟩,
    ⟨some 67, none, .pick (.t 57) (.t 66) (.k (.bool false)), 0, 0, false, []⟩,
    ⟨some 2, none, .mov (.t 67), 0, 0, false, []⟩])
   (.cutTo [2] (.ret)))))))⟩
/-- loop.example/tablehouse/spec.ValueOk -/
def F80 : F := ⟨45, [(false, 2, 0, false)],
   .seq (.seg false [⟨some 1, none, .box (.t 0), 0, 0, false, []⟩,
    ⟨some 2, none, .mov (.k (.bool false)), 0, 0, false, []⟩])
   (.seq (.seq (.seg false [⟨some 3, none, .faddr 0 1 (.t 1), 0, 0, false, []⟩,
    ⟨some 4, none, .load false 1 (.t 3), 0, 0, false, []⟩])
   (.block 0 (.seq (.seg false [⟨some 6, none, .bin .eql (.t 4) (.k (.int .i64 0)), 0, 0, false, []⟩,
    ⟨some 5, none, .mov (.t 6), 0, 0, false, []⟩])
   (.cond (.t 5) (.seq (.seg false [⟨some 7, none, .faddr 1 1 (.t 1), 0, 0, false, []⟩,
    ⟨some 8, none, .load false 1 (.t 7), 0, 0, false, []⟩,
    ⟨some 9, none, .bin .eql (.t 8) (.k (.int .i64 0)), 0, 0, false, []⟩,
    ⟨some 10, none, .mov (.t 9), 0, 0, false, []⟩,
    ⟨some 11, some (10, true), .faddr 2 1 (.t 1), 0, 0, false, []⟩,
    ⟨some 12, some (10, true), .load false 1 (.t 11), 0, 0, false, []⟩,
    ⟨some 13, some (10, true), .bin .eql (.t 12) (.k (.str ⟨#[]⟩)), 0, 0, false, []⟩,
    ⟨some 14, none, .pick (.t 10) (.t 13) (.k (.bool false)), 0, 0, false, []⟩,
    ⟨some 2, none, .mov (.t 14), 0, 0, false, []⟩])
   (.cutTo [2] (.ret)))
   (.seq (.seg false [⟨some 16, none, .bin .eql (.t 4) (.k (.int .i64 1)), 0, 0, false, []⟩,
    ⟨some 15, none, .mov (.t 16), 0, 0, false, []⟩])
   (.cond (.t 15) (.seq (.seg false [⟨some 17, none, .faddr 1 1 (.t 1), 0, 0, false, []⟩,
    ⟨some 18, none, .load false 1 (.t 17), 0, 0, false, []⟩,
    ⟨some 19, none, .call 90 [.t 18, .k (.int .i64 (-9999)), .k (.int .i64 9999)] false false, 0, 0, false, []⟩,
    ⟨some 20, none, .mov (.t 19), 0, 0, false, []⟩,
    ⟨some 21, some (20, true), .faddr 2 1 (.t 1), 0, 0, false, []⟩,
    ⟨some 22, some (20, true), .load false 1 (.t 21), 0, 0, false, []⟩,
    ⟨some 23, some (20, true), .bin .eql (.t 22) (.k (.str ⟨#[]⟩)), 0, 0, false, []⟩,
    ⟨some 24, none, .pick (.t 20) (.t 23) (.k (.bool false)), 0, 0, false, []⟩,
    ⟨some 2, none, .mov (.t 24), 0, 0, false, []⟩])
   (.cutTo [2] (.ret)))
   (.seq (.seg false [⟨some 26, none, .bin .eql (.t 4) (.k (.int .i64 2)), 0, 0, false, []⟩,
    ⟨some 25, none, .mov (.t 26), 0, 0, false, []⟩])
   (.cond (.t 25) (.seq (.seg false [⟨some 27, none, .faddr 1 1 (.t 1), 0, 0, false, []⟩,
    ⟨some 28, none, .load false 1 (.t 27), 0, 0, false, []⟩,
    ⟨some 29, none, .bin .eql (.t 28) (.k (.int .i64 0)), 0, 0, false, []⟩,
    ⟨some 30, none, .mov (.t 29), 0, 0, false, []⟩,
    ⟨some 31, some (30, true), .faddr 2 1 (.t 1), 0, 0, false, []⟩,
    ⟨some 32, some (30, true), .load false 1 (.t 31), 0, 0, false, []⟩,
    ⟨some 33, some (30, true), .call 150 [.t 32] false false, 0, 0, false, []⟩,
    ⟨some 34, none, .pick (.t 30) (.t 33) (.k (.bool false)), 0, 0, false, []⟩,
    ⟨some 2, none, .mov (.t 34), 0, 0, false, []⟩])
   (.cutTo [2] (.ret)))
   (.seq (.seg false [⟨some 36, none, .bin .eql (.t 4) (.k (.int .i64 3)), 0, 0, false, []⟩,
    ⟨some 35, none, .mov (.t 36), 0, 0, false, []⟩])
   (.cond (.t 35) (.seq (.seg false [⟨some 37, none, .faddr 1 1 (.t 1), 0, 0, false, []⟩,
    ⟨some 38, none, .load false 1 (.t 37), 0, 0, false, []⟩,
    ⟨some 39, none, .call 90 [.t 38, .k (.int .i64 0), .k (.int .i64 1)] false false, 0, 0, false, []⟩,
    ⟨some 40, none, .mov (.t 39), 0, 0, false, []⟩,
    ⟨some 41, some (40, true), .faddr 2 1 (.t 1), 0, 0, false, []⟩,
    ⟨some 42, some (40, true), .load false 1 (.t 41), 0, 0, false, []⟩,
    ⟨some 43, some (40, true), .bin .eql (.t 42) (.k (.str ⟨#[]⟩)), 0, 0, false, []⟩,
    ⟨some 44, none, .pick (.t 40) (.t 43) (.k (.bool false)), 0, 0, false, []⟩,
    ⟨some 2, none, .mov (.t 44), 0, 0, false, []⟩])
   (.cutTo [2] (.ret)))
   (.skip)))))))))))
   (.cutTo [] (.seq (.seg false [⟨some 2, none, .mov (.k (.bool false)), 0, 0, false, []⟩])
   (.ret))))⟩
end Go.Proofs.Ytnnjpiepoeknnaa.PE
