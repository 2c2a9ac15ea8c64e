/- The compact code of the functions, and that it is the code of the machine. -/
import Derived.Test.YtnnjpiepoeknnaaPeX
import Derived.Test.YtnnjpiepoeknnaaProg
namespace Go.Proofs.Ytnnjpiepoeknnaa.PE
open Go.RowKit
set_option maxRecDepth 100000
/-- loop.example/tablehouse/spec.ValueOrder -/
def F81 : F := ⟨44, [(false, 4, 0, false)],
   .seq (.seg false [⟨some 2, none, .box (.t 0), 0, 0, false, []⟩,
    ⟨some 3, none, .box (.t 1), 0, 0, false, []⟩,
    ⟨some 4, none, .mov (.k (.int .i64 0)), 0, 0, false, []⟩])
   (.seq (.seq (.seg false [⟨some 5, none, .load true 3 (.t 2), 0, 0, false, []⟩,
    ⟨some 6, none, .call 80 [.t 5] false false, 0, 0, false, []⟩,
    ⟨some 7, none, .un .not (.t 6), 0, 0, false, []⟩,
    ⟨some 8, none, .mov (.t 7), 0, 0, false, []⟩,
    ⟨some 9, some (8, false), .load true 3 (.t 3), 0, 0, false, []⟩,
    ⟨some 10, some (8, false), .call 80 [.t 9] false false, 0, 0, false, []⟩,
    ⟨some 11, some (8, false), .un .not (.t 10), 0, 0, false, []⟩,
    ⟨some 12, none, .pick (.t 8) (.k (.bool true)) (.t 11), 0, 0, false, []⟩])
   (.cutTo [2, 3, 12] (.cond (.t 12) (.seq (.seg false [⟨some 4, none, .mov (.k (.int .i64 0)), 0, 0, false, []⟩])
   (.ret))
   (.skip))))
   (.cutTo [2, 3] (.seq (.block 0 (.seq (.seg false [⟨some 14, none, .faddr 0 1 (.t 2), 0, 0, false, []⟩,
    ⟨some 15, none, .load false 1 (.t 14), 0, 0, false, []⟩,
    ⟨some 16, none, .faddr 0 1 (.t 3), 0, 0, false, []⟩,
    ⟨some 17, none, .load false 1 (.t 16), 0, 0, false, []⟩,
    ⟨some 18, none, .bin .neq (.t 15) (.t 17), 0, 0, false, []⟩,
    ⟨some 13, none, .mov (.t 18), 0, 0, false, []⟩])
   (.cutTo [2, 3, 13] (.cond (.t 13) (.seq (.seg false [⟨some 19, none, .faddr 0 1 (.t 3), 0, 0, false, []⟩,
    ⟨some 20, none, .load false 1 (.t 19), 0, 0, false, []⟩,
    ⟨some 21, none, .faddr 0 1 (.t 2), 0, 0, false, []⟩,
    ⟨some 22, none, .load false 1 (.t 21), 0, 0, false, []⟩,
    ⟨some 23, none, .call 151 [.t 20, .t 22] false false, 0, 0, false, []⟩,
    ⟨some 24, none, .bin .mul (.k (.int .i64 2)) (.t 23), 0, 0, false, []⟩,
    ⟨some 25, none, .bin .sub (.t 24) (.k (.int .i64 1)), 0, 0, false, []⟩,
    ⟨some 4, none, .mov (.t 25), 0, 0, false, []⟩])
   (.cutTo [4] (.ret)))
   (.seq (.seg false [⟨some 27, none, .faddr 1 1 (.t 2), 0, 0, false, []⟩,
    ⟨some 28, none, .load false 1 (.t 27), 0, 0, false, []⟩,
    ⟨some 29, none, .faddr 1 1 (.t 3), 0, 0, false, []⟩,
    ⟨some 30, none, .load false 1 (.t 29), 0, 0, false, []⟩,
    ⟨some 31, none, .bin .neq (.t 28) (.t 30), 0, 0, false, []⟩,
    ⟨some 26, none, .mov (.t 31), 0, 0, false, []⟩])
   (.cutTo [2, 3, 26] (.cond (.t 26) (.seq (.seg false [⟨some 32, none, .faddr 1 1 (.t 3), 0, 0, false, []⟩,
    ⟨some 33, none, .load false 1 (.t 32), 0, 0, false, []⟩,
    ⟨some 34, none, .faddr 1 1 (.t 2), 0, 0, false, []⟩,
    ⟨some 35, none, .load false 1 (.t 34), 0, 0, false, []⟩,
    ⟨some 36, none, .call 151 [.t 33, .t 35] false false, 0, 0, false, []⟩,
    ⟨some 37, none, .bin .mul (.k (.int .i64 2)) (.t 36), 0, 0, false, []⟩,
    ⟨some 38, none, .bin .sub (.t 37) (.k (.int .i64 1)), 0, 0, false, []⟩,
    ⟨some 4, none, .mov (.t 38), 0, 0, false, []⟩])
   (.cutTo [4] (.ret)))
   (.skip))))))))
   (.cutTo [2, 3] (.seq (.seg false [⟨some 39, none, .faddr 2 1 (.t 2), 0, 0, false, []⟩,
    ⟨some 40, none, .load false 1 (.t 39), 0, 0, false, []⟩,
    ⟨some 41, none, .faddr 2 1 (.t 3), 0, 0, false, []⟩,
    ⟨some 42, none, .load false 1 (.t 41), 0, 0, false, []⟩,
    ⟨some 43, none, .call 152 [.t 40, .t 42] false false, 0, 0, false, []⟩,
    ⟨some 4, none, .mov (.t 43), 0, 0, false, []⟩])
   (.cutTo [4] (.ret)))))))⟩
/-- loop.example/tablehouse/impl.between -/
def F82 : F := ⟨15, [(false, 6, 0, false)],
   .seq (.seg false [⟨some 6, none, .mov (.k (.bool false)), 0, 0, false, []⟩])
   (.seq (.seg false [⟨some 7, none, .mov (.t 0), 0, 0, false, []⟩,
    ⟨some 8, none, .mov (.t 1), 0, 0, false, []⟩,
    ⟨some 9, none, .bin .geq (.t 7) (.t 8), 0, 0, false, []⟩,
    ⟨some 10, none, .mov (.t 9), 0, 0, false, []⟩,
    ⟨some 11, some (10, true), .mov (.t 0), 0, 0, false, []⟩,
    ⟨some 12, some (10, true), .mov (.t 2), 0, 0, false, []⟩,
    ⟨some 13, some (10, true), .bin .leq (.t 11) (.t 12), 0, 0, false, []⟩,
    ⟨some 14, none, .pick (.t 10) (.t 13) (.k (.bool false)), 0, 0, false, []⟩,
    ⟨some 6, none, .mov (.t 14), 0, 0, false, []⟩])
   (.cutTo [6] (.ret)))⟩
/-- (loop.example/tablehouse/impl.Value).ok -/
def F83 : F := ⟨46, [(false, 2, 0, false)],
   .seq (.seg false [⟨some 1, none, .box (.t 0), 0, 0, false, []⟩,
    ⟨some 2, none, .mov (.k (.bool false)), 0, 0, false, []⟩])
   (.seq (.seq (.seg false [⟨some 3, none, .faddr 0 1 (.t 1), 0, 0, false, []⟩,
    ⟨some 4, none, .load false 1 (.t 3), 0, 0, false, []⟩])
   (.block 0 (.seq (.seg false [⟨some 6, none, .bin .eql (.t 4) (.k (.int .i64 0)), 0, 0, false, []⟩,
    ⟨some 5, none, .mov (.t 6), 0, 0, false, []⟩])
   (.cond (.t 5) (.seq (.seg false [⟨some 7, none, .load true 3 (.t 1), 0, 0, false, []⟩,
    ⟨some 8, none, .build [.int .i64 0, .int .i64 0, .str ⟨#[]⟩] [], 0, 0, false, []⟩,
    ⟨some 9, none, .eqs false [.int, .int, .str] (.t 7) (.t 8), 0, 0, false, []⟩,
    ⟨some 2, none, .mov (.t 9), 0, 0, false, []⟩])
   (.cutTo [2] (.ret)))
   (.seq (.seg false [⟨some 11, none, .bin .eql (.t 4) (.k (.int .i64 1)), 0, 0, false, []⟩,
    ⟨some 10, none, .mov (.t 11), 0, 0, false, []⟩])
   (.cond (.t 10) (.seq (.seg false [⟨some 12, none, .faddr 2 1 (.t 1), 0, 0, false, []⟩,
    ⟨some 13, none, .load false 1 (.t 12), 0, 0, false, []⟩,
    ⟨some 14, none, .bin .eql (.t 13) (.k (.str ⟨#[]⟩)), 0, 0, false, []⟩,
    ⟨some 15, none, .mov (.t 14), 0, 0, false, []⟩,
    ⟨some 16, some (15, true), .faddr 1 1 (.t 1), 0, 0, false, []⟩,
    ⟨some 17, some (15, true), .load false 1 (.t 16), 0, 0, false, []⟩,
    ⟨some 18, some (15, true), .call 82 [.t 17, .k (.int .i64 (-9999)), .k (.int .i64 9999)] false false, 0, 0, false, []⟩,
    ⟨some 19, none, .pick (.t 15) (.t 18) (.k (.bool false)), 0, 0, false, []⟩,
    ⟨some 2, none, .mov (.t 19), 0, 0, false, []⟩])
   (.cutTo [2] (.ret)))
   (.seq (.seg false [⟨some 21, none, .bin .eql (.t 4) (.k (.int .i64 2)), 0, 0, false, []⟩,
    ⟨some 20, none, .mov (.t 21), 0, 0, false, []⟩])
   (.cond (.t 20) (.seq (.seg false [⟨some 22, none, .faddr 1 1 (.t 1), 0, 0, false, []⟩,
    ⟨some 23, none, .load false 1 (.t 22), 0, 0, false, []⟩,
    ⟨some 24, none, .bin .eql (.t 23) (.k (.int .i64 0)), 0, 0, false, []⟩,
    ⟨some 25, none, .mov (.t 24), 0, 0, false, []⟩,
    ⟨some 26, some (25, true), .faddr 2 1 (.t 1), 0, 0, false, []⟩,
    ⟨some 27, some (25, true), .load false 1 (.t 26), 0, 0, false, []⟩,
    ⟨some 28, some (25, true), .len true (.t 27), 0, 0, false, []⟩,
    ⟨some 29, some (25, true), .bin .leq (.t 28) (.k (.int .i64 6)), 0, 0, false, []⟩,
    ⟨some 30, none, .pick (.t 25) (.t 29) (.k (.bool false)), 0, 0, false, []⟩,
    ⟨some 31, none, .mov (.t 30), 0, 0, false, []⟩,
    ⟨some 32, some (31, true), .faddr 2 1 (.t 1), 0, 0, false, []⟩,
    ⟨some 33, some (31, true), .load false 1 (.t 32), 0, 0, false, []⟩,
    ⟨some 34, some (31, true), .call 153 [.t 33] false false, 0, 0, false, []⟩,
    ⟨some 35, none, .pick (.t 31) (.t 34) (.k (.bool false)), 0, 0, false, []⟩,
    ⟨some 2, none, .mov (.t 35), 0, 0, false, []⟩])
   (.cutTo [2] (.ret)))
   (.seq (.seg false [⟨some 37, none, .bin .eql (.t 4) (.k (.int .i64 3)), 0, 0, false, []⟩,
    ⟨some 36, none, .mov (.t 37), 0, 0, false, []⟩])
   (.cond (.t 36) (.seq (.seg false [⟨some 38, none, .faddr 2 1 (.t 1), 0, 0, false, []⟩,
    ⟨some 39, none, .load false 1 (.t 38), 0, 0, false, []⟩,
    ⟨some 40, none, .bin .eql (.t 39) (.k (.str ⟨#[]⟩)), 0, 0, false, []⟩,
    ⟨some 41, none, .mov (.t 40), 0, 0, false, []⟩,
    ⟨some 42, some (41, true), .faddr 1 1 (.t 1), 0, 0, false, []⟩,
    ⟨some 43, some (41, true), .load false 1 (.t 42), 0, 0, false, []⟩,
    ⟨some 44, some (41, true), .call 82 [.t 43, .k (.int .i64 0), .k (.int .i64 1)] false false, 0, 0, false, []⟩,
    ⟨some 45, none, .pick (.t 41) (.t 44) (.k (.bool false)), 0, 0, false, []⟩,
    ⟨some 2, none, .mov (.t 45), 0, 0, false, []⟩])
   (.cutTo [2] (.ret)))
   (.skip)))))))))))
   (.cutTo [] (.seq (.seg false [⟨some 2, none, .mov (.k (.bool false)), 0, 0, false, []⟩])
   (.ret))))⟩
/-- loop.example/tablehouse/spec.l29Ends -/
def F84 : F := ⟨21, [(false, 2, 0, false)],
   .seq (.seg false [⟨some 1, none, .box (.t 0), 0, 0, false, []⟩,
    ⟨some 2, none, .mov (.k (.sl true 3 [])), 0, 0, false, []⟩])
   (.seq (.seq (.seg false [⟨some 3, none, .faddr 2 3 (.t 1), 0, 0, false, []⟩,
    ⟨some 4, none, .load true 3 (.t 3), 0, 0, false, []⟩,
    ⟨some 5, none, .faddr 5 3 (.t 1), 0, 0, false, []⟩,
    ⟨some 6, none, .load true 3 (.t 5), 0, 0, false, []⟩,
    ⟨some 7, none, .eqs false [.int, .int, .str] (.t 4) (.t 6), 0, 0, false, []⟩,
    ⟨some 8, none, .mov (.t 7), 0, 0, false, []⟩,
    ⟨some 9, some (8, false), .faddr 0 1 (.t 1), 0, 0, false, []⟩,
    ⟨some 10, some (8, false), .load false 1 (.t 9), 0, 0, false, []⟩,
    ⟨some 11, some (8, false), .bin .eql (.t 10) (.k (.int .i64 1)), 0, 0, false, []⟩,
    ⟨some 12, none, .pick (.t 8) (.k (.bool true)) (.t 11), 0, 0, false, []⟩])
   (.cutTo [1, 12] (.cond (.t 12) (.seq (.seg false [⟨some 13, none, .faddr 2 3 (.t 1), 0, 0, false, []⟩,
    ⟨some 14, none, .load true 3 (.t 13), 0, 0, false, []⟩,
    ⟨some 15, none, .mksl false 3 [.t 14], 0, 0, false, []⟩,
    ⟨some 2, none, .mov (.t 15), 0, 0, false, []⟩])
   (.cutTo [2] (.ret)))
   (.skip))))
   (.cutTo [1] (.seq (.seg false [⟨some 16, none, .faddr 2 3 (.t 1), 0, 0, false, []⟩,
    ⟨some 17, none, .load true 3 (.t 16), 0, 0, false, []⟩,
    ⟨some 18, none, .faddr 5 3 (.t 1), 0, 0, false, []⟩,
    ⟨some 19, none, .load true 3 (.t 18), 0, 0, false, []⟩,
    ⟨some 20, none, .mksl false 3 [.t 17, .t 19], 0, 0, false, []⟩,
    ⟨some 2, none, .mov (.t 20), 0, 0, false, []⟩])
   (.cutTo [2] (.ret)))))⟩
/-- loop.example/tablehouse/spec.Compare -/
def F85 : F := ⟨65, [(false, 6, 0, false)],
   .seq (.seg false [⟨some 4, none, .box (.t 1), 0, 0, false, []⟩,
    ⟨some 5, none, .box (.t 2), 0, 0, false, []⟩,
    ⟨some 6, none, .mov (.k (.int .i64 0)), 0, 0, false, []⟩])
   (.seq (.block 0 (.seq (.seg false [⟨some 8, none, .mov (.t 0), 0, 0, false, []⟩,
    ⟨some 9, none, .call 90 [.t 8, .k (.int .i64 1), .k (.int .i64 4)] false false, 0, 0, false, []⟩,
    ⟨some 10, none, .un .not (.t 9), 0, 0, false, []⟩,
    ⟨some 11, none, .mov (.t 10), 0, 0, false, []⟩,
    ⟨some 12, some (11, false), .load true 3 (.t 4), 0, 0, false, []⟩,
    ⟨some 13, some (11, false), .call 80 [.t 12] false false, 0, 0, false, []⟩,
    ⟨some 14, some (11, false), .un .not (.t 13), 0, 0, false, []⟩,
    ⟨some 15, none, .pick (.t 11) (.k (.bool true)) (.t 14), 0, 0, false, []⟩,
    ⟨some 16, none, .mov (.t 15), 0, 0, false, []⟩,
    ⟨some 17, some (16, false), .load true 3 (.t 5), 0, 0, false, []⟩,
    ⟨some 18, some (16, false), .call 80 [.t 17] false false, 0, 0, false, []⟩,
    ⟨some 19, some (16, false), .un .not (.t 18), 0, 0, false, []⟩,
    ⟨some 20, none, .pick (.t 16) (.k (.bool true)) (.t 19), 0, 0, false, []⟩,
    ⟨some 7, none, .mov (.t 20), 0, 0, false, []⟩])
   (.cutTo [0, 4, 5, 7] (.cond (.t 7) (.seq (.seg false [⟨some 6, none, .mov (.k (.int .i64 (-1))), 0, 0, false, []⟩])
   (.ret))
   (.seq (.seg false [⟨some 22, none, .faddr 0 1 (.t 4), 0, 0, false, []⟩,
    ⟨some 23, none, .load false 1 (.t 22), 0, 0, false, []⟩,
    ⟨some 24, none, .bin .eql (.t 23) (.k (.int .i64 0)), 0, 0, false, []⟩,
    ⟨some 25, none, .mov (.t 24), 0, 0, false, []⟩,
    ⟨some 26, some (25, false), .faddr 0 1 (.t 5), 0, 0, false, []⟩,
    ⟨some 27, some (25, false), .load false 1 (.t 26), 0, 0, false, []⟩,
    ⟨some 28, some (25, false), .bin .eql (.t 27) (.k (.int .i64 0)), 0, 0, false, []⟩,
    ⟨some 29, none, .pick (.t 25) (.k (.bool true)) (.t 28), 0, 0, false, []⟩,
    ⟨some 21, none, .mov (.t 29), 0, 0, false, []⟩])
   (.cutTo [0, 4, 5, 21] (.cond (.t 21) (.seq (.seg false [⟨some 6, none, .mov (.k (.int .i64 2)), 0, 0, false, []⟩])
   (.ret))
   (.seq (.seg false [⟨some 31, none, .faddr 0 1 (.t 4), 0, 0, false, []⟩,
    ⟨some 32, none, .load false 1 (.t 31), 0, 0, false, []⟩,
    ⟨some 33, none, .faddr 0 1 (.t 5), 0, 0, false, []⟩,
    ⟨some 34, none, .load false 1 (.t 33), 0, 0, false, []⟩,
    ⟨some 35, none, .bin .neq (.t 32) (.t 34), 0, 0, false, []⟩,
    ⟨some 30, none, .mov (.t 35), 0, 0, false, []⟩])
   (.cutTo [0, 4, 5, 30] (.cond (.t 30) (.seq (.seg false [⟨some 6, none, .mov (.k (.int .i64 (-1))), 0, 0, false, []⟩])
   (.ret))
   (.seq (.seg false [⟨some 37, none, .mov (.t 0), 0, 0, false, []⟩,
    ⟨some 38, none, .bin .eql (.t 37) (.k (.int .i64 1)), 0, 0, false, []⟩,
    ⟨some 36, none, .mov (.t 38), 0, 0, false, []⟩])
   (.cond (.t 36) (.seq (.seg false [⟨some 39, none, .load true 3 (.t 4), 0, 0, false, []⟩,
    ⟨some 40, none, .load true 3 (.t 5), 0, 0, false, []⟩,
    ⟨some 41, none, .call 81 [.t 39, .t 40] false false, 0, 0, false, []⟩,
    ⟨some 42, none, .bin .eql (.t 41) (.k (.int .i64 0)), 0, 0, false, []⟩,
    ⟨some 43, none, .call 154 [.t 42] false false, 0, 0, false, []⟩,
    ⟨some 6, none, .mov (.t 43), 0, 0, false, []⟩])
   (.cutTo [6] (.ret)))
   (.seq (.seg false [⟨some 45, none, .mov (.t 0), 0, 0, false, []⟩,
    ⟨some 46, none, .bin .eql (.t 45) (.k (.int .i64 2)), 0, 0, false, []⟩,
    ⟨some 44, none, .mov (.t 46), 0, 0, false, []⟩])
   (.cond (.t 44) (.seq (.seg false [⟨some 47, none, .load true 3 (.t 4), 0, 0, false, []⟩,
    ⟨some 48, none, .load true 3 (.t 5), 0, 0, false, []⟩,
    ⟨some 49, none, .call 81 [.t 47, .t 48] false false, 0, 0, false, []⟩,
    ⟨some 50, none, .bin .neq (.t 49) (.k (.int .i64 0)), 0, 0, false, []⟩,
    ⟨some 51, none, .call 154 [.t 50] false false, 0, 0, false, []⟩,
    ⟨some 6, none, .mov (.t 51), 0, 0, false, []⟩])
   (.cutTo [6] (.ret)))
   (.seq (.seg false [⟨some 53, none, .mov (.t 0), 0, 0, false, []⟩,
    ⟨some 54, none, .bin .eql (.t 53) (.k (.int .i64 3)), 0, 0, false, []⟩,
    ⟨some 52, none, .mov (.t 54), 0, 0, false, []⟩])
   (.cond (.t 52) (.seq (.seg false [⟨some 55, none, .load true 3 (.t 4), 0, 0, false, []⟩,
    ⟨some 56, none, .load true 3 (.t 5), 0, 0, false, []⟩,
    ⟨some 57, none, .call 81 [.t 55, .t 56] false false, 0, 0, false, []⟩,
    ⟨some 58, none, .bin .lss (.t 57) (.k (.int .i64 0)), 0, 0, false, []⟩,
    ⟨some 59, none, .call 154 [.t 58] false false, 0, 0, false, []⟩,
    ⟨some 6, none, .mov (.t 59), 0, 0, false, []⟩])
   (.cutTo [6] (.ret)))
   (.skip)))))))))))))))))
   (.cutTo [4, 5] (.seq (.seg false [⟨some 60, none, .load true 3 (.t 4), 0, 0, false, []⟩,
    ⟨some 61, none, .load true 3 (.t 5), 0, 0, false, []⟩,
    ⟨some 62, none, .call 81 [.t 60, .t 61] false false, 0, 0, false, []⟩,
    ⟨some 63, none, .bin .leq (.t 62) (.k (.int .i64 0)), 0, 0, false, []⟩,
    ⟨some 64, none, .call 154 [.t 63] false false, 0, 0, false, []⟩,
    ⟨some 6, none, .mov (.t 64), 0, 0, false, []⟩])
   (.cutTo [6] (.ret)))))⟩
/-- loop.example/tablehouse/spec.l20Bounded -/
def F86 : F := ⟨30, [(false, 4, 0, false), (false, 5, 0, false), (false, 6, 0, false)],
   .seq (.seg false [⟨some 4, none, .mov (.k (.sl true 2 [])), 0, 0, false, []⟩,
    ⟨some 5, none, .nilrow 1, 0, 0, false, []⟩,
    ⟨some 6, none, .mov (.k (.int .i64 0)), 0, 0, false, []⟩])
   (.seq (.seg false [⟨some 9, none, .mov (.t 0), 0, 0, false, []⟩,
    ⟨some 10, none, .call 130 [.t 9, .k (.int .i64 0)] true false, 0, 0, false, []⟩,
    ⟨some 7, none, .mov (.t 10), 0, 0, false, []⟩])
   (.seq (.seg false [⟨some 11, none, .mov (.t 0), 0, 0, false, []⟩,
    ⟨some 12, none, .mov (.t 7), 0, 0, false, []⟩,
    ⟨some 13, none, .len false (.t 12), 0, 0, false, []⟩,
    ⟨some 14, none, .call 104 [.t 11, .t 13] true false, 0, 0, false, []⟩,
    ⟨some 8, none, .mov (.t 14), 0, 0, false, []⟩])
   (.cutTo [0, 1, 7, 8] (.seq (.seq (.seg false [⟨some 15, none, .mov (.t 0), 0, 0, false, []⟩,
    ⟨some 16, none, .mov (.t 1), 0, 0, false, []⟩,
    ⟨some 17, none, .call 155 [.t 15, .t 16] true false, 0, 0, false, []⟩])
   (.cond (.t 17) (.seg false [⟨some 18, none, .mov (.t 0), 0, 0, false, []⟩,
    ⟨some 19, none, .call 104 [.t 18, .k (.int .i64 6)] true false, 0, 0, false, []⟩,
    ⟨some 20, none, .bin .sub (.t 19) (.k (.int .i64 1)), 0, 0, false, []⟩,
    ⟨some 8, none, .mov (.t 20), 0, 0, false, []⟩])
   (.skip)))
   (.cutTo [0, 7, 8] (.seq (.seg false [⟨some 21, none, .mov (.t 7), 0, 0, false, []⟩,
    ⟨some 22, none, .mov (.t 0), 0, 0, false, []⟩,
    ⟨some 23, none, .mov (.t 7), 0, 0, false, []⟩,
    ⟨some 24, none, .call 156 [.t 22, .t 23, .k (.int .i64 0)] true true, 0, 0, false, []⟩,
    ⟨some 25, none, .mov (.t 0), 0, 0, false, []⟩,
    ⟨some 26, none, .mov (.t 7), 0, 0, false, []⟩,
    ⟨some 27, none, .call 156 [.t 25, .t 26, .k (.int .i64 0)] true false, 0, 0, false, []⟩,
    ⟨some 28, none, .app 1 (.t 24) (.t 27), 0, 0, false, []⟩,
    ⟨some 29, none, .mov (.t 8), 0, 0, false, []⟩,
    ⟨some 4, none, .mov (.t 21), 0, 0, false, []⟩,
    ⟨some 5, none, .mov (.t 28), 0, 0, false, []⟩,
    ⟨some 6, none, .mov (.t 29), 0, 0, false, []⟩])
   (.cutTo [4, 5, 6] (.ret))))))))⟩
/-- loop.example/tablehouse/impl.ColumnsOk -/
def F87 : F := ⟨11, [(false, 2, 0, false)],
   .seq (.seg false [⟨some 2, none, .mov (.k (.bool false)), 0, 0, false, []⟩])
   (.seq (.seg false [⟨some 3, none, .mov (.t 0), 0, 0, false, []⟩,
    ⟨some 4, none, .len false (.t 3), 0, 0, false, []⟩,
    ⟨some 5, none, .bin .leq (.t 4) (.k (.int .i64 4)), 0, 0, false, []⟩,
    ⟨some 6, none, .mov (.t 5), 0, 0, false, []⟩,
    ⟨some 7, some (6, true), .mov (.t 0), 0, 0, false, []⟩,
    ⟨some 8, some (6, true), .call 157 [.t 7, .k (.clo 158 [])] true false, 0, 0, false, []⟩,
    ⟨some 9, some (6, true), .un .not (.t 8), 0, 0, false, []⟩,
    ⟨some 10, none, .pick (.t 6) (.t 9) (.k (.bool false)), 0, 0, false, []⟩,
    ⟨some 2, none, .mov (.t 10), 0, 0, false, []⟩])
   (.cutTo [2] (.ret)))⟩
def E88x0 : List I := [⟨some 14, none, .load true 8 (.t 5), 0, 0, false, []⟩,
    ⟨some 15, none, .mov (.t 7), 0, 0, false, []⟩,
    ⟨some 16, none, .mov (.t 1), 0, 0, false, []⟩,
    ⟨some 17, none, .iaddr 3 (.t 15) (.t 16), 0, 0, false, []⟩,
    ⟨some 18, none, .load true 3 (.t 17), 0, 0, false, []⟩,
    ⟨some 19, none, .call 159 [.t 18] false false, 0, 0, false, []⟩,
    ⟨some 20, none, .call 31 [.t 14, .t 19] false false, 0, 0, false, []⟩,
    ⟨none, none, .store 8 (.t 5) (.t 20), 0, 0, true, []⟩]
def D88x0 : List I := E88x0
theorem evD88x0 (run : Run) (e : Env) (h : Heap) : drawI run D88x0 e h = DrawW (evW run E88x0 e h []) run E88x0 e h := drawI_write run _ e h
def B88x0 : C := .seq (.seg false [⟨some 11, none, .bin .lss (.t 10) (.t 9), 0, 0, false, []⟩])
   (.seq (.cond (.t 11) (.skip)
   (.exit 0))
   (.seq (.block 1 (.seq (.seg false [⟨some 12, none, .iaddr 1 (.t 8) (.t 10), 0, 0, false, []⟩,
    ⟨some 13, none, .load false 1 (.t 12), 0, 0, false, []⟩,
    ⟨some 7, none, .mov (.t 13), 0, 0, false, []⟩])
   (.seg true D88x0)))
   (.cutTo [1, 4, 5, 8, 9, 10] (.seg false [⟨some 21, none, .bin .add (.t 10) (.k (.int .i64 1)), 0, 0, false, []⟩,
    ⟨some 10, none, .mov (.t 21), 0, 0, false, []⟩]))))
def L88x0 : C := B88x0
theorem evL88x0 (run : Run) (draw : List I → Env → Heap → Option (Env × Heap)) (e : Env) (h : Heap) : evC run draw L88x0 e h = evC run draw B88x0 e h := rfl
/-- loop.example/tablehouse/impl.knownColumn -/
def F88 : F := ⟨23, [(true, 4, 8, true)],
   .seq (.seg false [⟨some 4, none, .alloc [.int .i64 0, .int .i64 0, .int .i64 0, .int .i64 0, .str ⟨#[]⟩, .int .i64 0, .int .i64 0, .str ⟨#[]⟩], 0, 0, false, []⟩])
   (.seq (.seg false [⟨some 5, none, .alloc [.int .i64 0, .int .i64 0, .int .i64 0, .int .i64 0, .str ⟨#[]⟩, .int .i64 0, .int .i64 0, .str ⟨#[]⟩], 0, 0, false, []⟩])
   (.seq (.seq (.seg false [⟨some 8, none, .mov (.t 0), 0, 0, false, []⟩,
    ⟨some 9, none, .len false (.t 8), 0, 0, false, []⟩,
    ⟨some 10, none, .mov (.k (.int .i64 0)), 0, 0, false, []⟩])
   (.block 0 (.loop [1, 4, 5, 8, 9, 10] [4, 5] L88x0)))
   (.seq (.seg false [⟨some 22, none, .load true 8 (.t 5), 0, 0, false, []⟩,
    ⟨none, none, .store 8 (.t 4) (.t 22), 0, 0, false, []⟩])
   (.ret))))⟩
def B89x0 : C := .seq (.seq (.seg false [⟨some 6, none, .mov (.t 5), 0, 0, false, []⟩,
    ⟨some 7, none, .mov (.t 1), 0, 0, false, []⟩,
    ⟨some 8, none, .len false (.t 7), 0, 0, false, []⟩,
    ⟨some 9, none, .bin .lss (.t 6) (.t 8), 0, 0, false, []⟩])
   (.cutTo [0, 1, 5, 9] (.cond (.t 9) (.skip)
   (.exit 0))))
   (.cutTo [0, 1, 5] (.seq (.block 1 (.seq (.seg false [⟨some 12, none, .mov (.t 0), 0, 0, false, []⟩,
    ⟨some 13, none, .mov (.t 1), 0, 0, false, []⟩,
    ⟨some 14, none, .mov (.t 5), 0, 0, false, []⟩,
    ⟨some 15, none, .iaddr 1 (.t 13) (.t 14), 0, 0, false, []⟩,
    ⟨some 16, none, .load false 1 (.t 15), 0, 0, false, []⟩,
    ⟨some 17, none, .call 160 [.t 12, .t 16] false false, 0, 0, false, []⟩,
    ⟨some 18, none, .un .not (.t 17), 0, 0, false, []⟩])
   (.cutTo [0, 1, 5, 18] (.cond (.t 18) (.seq (.seg false [⟨some 4, none, .mov (.k (.bool false)), 0, 0, false, []⟩])
   (.ret))
   (.skip)))))
   (.cutTo [0, 1, 5] (.seg false [⟨some 10, none, .mov (.t 5), 0, 0, false, []⟩,
    ⟨some 11, none, .bin .add (.t 10) (.k (.int .i64 1)), 0, 0, false, []⟩,
    ⟨some 5, none, .mov (.t 11), 0, 0, false, []⟩]))))
def L89x0 : C := B89x0
theorem evL89x0 (run : Run) (draw : List I → Env → Heap → Option (Env × Heap)) (e : Env) (h : Heap) : evC run draw L89x0 e h = evC run draw B89x0 e h := rfl
/-- loop.example/tablehouse/spec.RowsOk -/
def F89 : F := ⟨21, [(false, 4, 0, false)],
   .seq (.seg false [⟨some 4, none, .mov (.k (.bool false)), 0, 0, false, []⟩])
   (.seq (.seq (.seg false [⟨some 5, none, .mov (.k (.int .i64 0)), 0, 0, false, []⟩])
   (.block 0 (.loop [0, 1, 5] [0, 4] L89x0)))
   (.seq (.seg false [⟨some 19, none, .mov (.t 0), 0, 0, false, []⟩,
    ⟨some 20, none, .call 161 [.t 19] false false, 0, 0, false, []⟩,
    ⟨some 4, none, .mov (.t 20), 0, 0, false, []⟩])
   (.ret)))⟩
/-- loop.example/tablehouse/spec.l1In -/
def F90 : F := ⟨15, [(false, 6, 0, false)],
   .seq (.seg false [⟨some 6, none, .mov (.k (.bool false)), 0, 0, false, []⟩])
   (.seq (.seg false [⟨some 7, none, .mov (.t 0), 0, 0, false, []⟩,
    ⟨some 8, none, .mov (.t 1), 0, 0, false, []⟩,
    ⟨some 9, none, .bin .geq (.t 7) (.t 8), 0, 0, false, []⟩,
    ⟨some 10, none, .mov (.t 9), 0, 0, false, []⟩,
    ⟨some 11, some (10, true), .mov (.t 0), 0, 0, false, []⟩,
    ⟨some 12, some (10, true), .mov (.t 2), 0, 0, false, []⟩,
    ⟨some 13, some (10, true), .bin .leq (.t 11) (.t 12), 0, 0, false, []⟩,
    ⟨some 14, none, .pick (.t 10) (.t 13) (.k (.bool false)), 0, 0, false, []⟩,
    ⟨some 6, none, .mov (.t 14), 0, 0, false, []⟩])
   (.cutTo [6] (.ret)))⟩
/-- loop.example/tablehouse/spec.KnownOf -/
def F92 : F := ⟨23, [(true, 2, 8, true)],
   .seq (.seg false [⟨some 1, none, .box (.t 0), 0, 0, false, []⟩,
    ⟨some 2, none, .alloc [.int .i64 0, .int .i64 0, .int .i64 0, .int .i64 0, .str ⟨#[]⟩, .int .i64 0, .int .i64 0, .str ⟨#[]⟩], 0, 0, false, []⟩])
   (.seq (.seq (.seg false [⟨some 4, none, .load true 3 (.t 1), 0, 0, false, []⟩,
    ⟨some 5, none, .call 80 [.t 4] false false, 0, 0, false, []⟩,
    ⟨some 6, none, .un .not (.t 5), 0, 0, false, []⟩,
    ⟨some 7, none, .mov (.t 6), 0, 0, false, []⟩,
    ⟨some 8, some (7, false), .faddr 0 1 (.t 1), 0, 0, false, []⟩,
    ⟨some 9, some (7, false), .load false 1 (.t 8), 0, 0, false, []⟩,
    ⟨some 10, some (7, false), .bin .eql (.t 9) (.k (.int .i64 0)), 0, 0, false, []⟩,
    ⟨some 11, none, .pick (.t 7) (.k (.bool true)) (.t 10), 0, 0, false, []⟩])
   (.cutTo [1, 2, 11] (.cond (.t 11) (.seq (.seg false [⟨some 12, none, .build [.int .i64 0, .int .i64 0, .int .i64 0, .int .i64 0, .str ⟨#[]⟩, .int .i64 0, .int .i64 0, .str ⟨#[]⟩] [], 0, 0, false, []⟩,
    ⟨none, none, .store 8 (.t 2) (.t 12), 0, 0, false, []⟩])
   (.ret))
   (.skip))))
   (.cutTo [1, 2] (.seq (.seg false [⟨some 13, none, .load true 3 (.t 1), 0, 0, false, []⟩,
    ⟨some 14, none, .load true 3 (.t 1), 0, 0, false, []⟩,
    ⟨some 15, none, .build [.int .i64 0, .int .i64 0, .int .i64 0, .int .i64 0, .str ⟨#[]⟩, .int .i64 0, .int .i64 0, .str ⟨#[]⟩] [(0, 1, .k (.int .i64 1)), (2, 3, .t 13), (5, 3, .t 14)], 0, 0, false, []⟩,
    ⟨some 3, none, .alloc [.int .i64 0, .int .i64 0, .int .i64 0, .int .i64 0, .str ⟨#[]⟩, .int .i64 0, .int .i64 0, .str ⟨#[]⟩], 0, 0, false, []⟩,
    ⟨none, none, .store 8 (.t 3) (.t 15), 0, 0, false, []⟩])
   (.cutTo [1, 2, 3] (.seq (.seq (.seg false [⟨some 16, none, .faddr 0 1 (.t 1), 0, 0, false, []⟩,
    ⟨some 17, none, .load false 1 (.t 16), 0, 0, false, []⟩,
    ⟨some 18, none, .bin .eql (.t 17) (.k (.int .i64 1)), 0, 0, false, []⟩])
   (.cond (.t 18) (.seg false [⟨some 19, none, .faddr 1 1 (.t 1), 0, 0, false, []⟩,
    ⟨some 20, none, .load false 1 (.t 19), 0, 0, false, []⟩,
    ⟨some 21, none, .faddr 1 1 (.t 3), 0, 0, false, []⟩,
    ⟨none, none, .store 1 (.t 21) (.t 20), 0, 0, false, []⟩])
   (.skip)))
   (.cutTo [2, 3] (.seq (.seg false [⟨some 22, none, .load true 8 (.t 3), 0, 0, false, []⟩,
    ⟨none, none, .store 8 (.t 2) (.t 22), 0, 0, false, []⟩])
   (.ret))))))))⟩
/-- loop.example/tablehouse/spec.KnownBoth -/
def F91 : F := ⟨77, [(true, 4, 8, true)],
   .seq (.seg false [⟨some 2, none, .box (.t 0), 0, 0, false, []⟩,
    ⟨some 3, none, .box (.t 1), 0, 0, false, []⟩,
    ⟨some 4, none, .alloc [.int .i64 0, .int .i64 0, .int .i64 0, .int .i64 0, .str ⟨#[]⟩, .int .i64 0, .int .i64 0, .str ⟨#[]⟩], 0, 0, false, []⟩])
   (.seq (.block 0 (.seq (.seg false [⟨some 7, none, .load true 8 (.t 2), 0, 0, false, []⟩,
    ⟨some 8, none, .call 79 [.t 7] false false, 0, 0, false, []⟩,
    ⟨some 9, none, .un .not (.t 8), 0, 0, false, []⟩,
    ⟨some 10, none, .mov (.t 9), 0, 0, false, []⟩,
    ⟨some 11, some (10, false), .load true 8 (.t 3), 0, 0, false, []⟩,
    ⟨some 12, some (10, false), .call 79 [.t 11] false false, 0, 0, false, []⟩,
    ⟨some 13, some (10, false), .un .not (.t 12), 0, 0, false, []⟩,
    ⟨some 14, none, .pick (.t 10) (.k (.bool true)) (.t 13), 0, 0, false, []⟩,
    ⟨some 6, none, .mov (.t 14), 0, 0, false, []⟩])
   (.cutTo [2, 3, 4, 6] (.cond (.t 6) (.seq (.seg false [⟨some 15, none, .build [.int .i64 0, .int .i64 0, .int .i64 0, .int .i64 0, .str ⟨#[]⟩, .int .i64 0, .int .i64 0, .str ⟨#[]⟩] [], 0, 0, false, []⟩,
    ⟨none, none, .store 8 (.t 4) (.t 15), 0, 0, false, []⟩])
   (.ret))
   (.seq (.seg false [⟨some 17, none, .faddr 0 1 (.t 2), 0, 0, false, []⟩,
    ⟨some 18, none, .load false 1 (.t 17), 0, 0, false, []⟩,
    ⟨some 19, none, .bin .eql (.t 18) (.k (.int .i64 0)), 0, 0, false, []⟩,
    ⟨some 16, none, .mov (.t 19), 0, 0, false, []⟩])
   (.cutTo [2, 3, 4, 16] (.cond (.t 16) (.seq (.seg false [⟨some 20, none, .load true 8 (.t 3), 0, 0, false, []⟩,
    ⟨none, none, .store 8 (.t 4) (.t 20), 0, 0, false, []⟩])
   (.ret))
   (.seq (.seg false [⟨some 22, none, .faddr 0 1 (.t 3), 0, 0, false, []⟩,
    ⟨some 23, none, .load false 1 (.t 22), 0, 0, false, []⟩,
    ⟨some 24, none, .bin .eql (.t 23) (.k (.int .i64 0)), 0, 0, false, []⟩,
    ⟨some 21, none, .mov (.t 24), 0, 0, false, []⟩])
   (.cutTo [2, 3, 4, 21] (.cond (.t 21) (.seq (.seg false [⟨some 25, none, .load true 8 (.t 2), 0, 0, false, []⟩,
    ⟨none, none, .store 8 (.t 4) (.t 25), 0, 0, false, []⟩])
   (.ret))
   (.seq (.seg false [⟨some 27, none, .faddr 2 3 (.t 2), 0, 0, false, []⟩,
    ⟨some 28, none, .faddr 0 1 (.t 27), 0, 0, false, []⟩,
    ⟨some 29, none, .load false 1 (.t 28), 0, 0, false, []⟩,
    ⟨some 30, none, .faddr 2 3 (.t 3), 0, 0, false, []⟩,
    ⟨some 31, none, .faddr 0 1 (.t 30), 0, 0, false, []⟩,
    ⟨some 32, none, .load false 1 (.t 31), 0, 0, false, []⟩,
    ⟨some 33, none, .bin .neq (.t 29) (.t 32), 0, 0, false, []⟩,
    ⟨some 34, none, .mov (.t 33), 0, 0, false, []⟩,
    ⟨some 35, some (34, false), .faddr 0 1 (.t 2), 0, 0, false, []⟩,
    ⟨some 36, some (34, false), .load false 1 (.t 35), 0, 0, false, []⟩,
    ⟨some 37, some (34, false), .faddr 0 1 (.t 3), 0, 0, false, []⟩,
    ⟨some 38, some (34, false), .load false 1 (.t 37), 0, 0, false, []⟩,
    ⟨some 39, some (34, false), .bin .add (.t 36) (.t 38), 0, 0, false, []⟩,
    ⟨some 40, some (34, false), .bin .gtr (.t 39) (.k (.int .i64 100)), 0, 0, false, []⟩,
    ⟨some 41, none, .pick (.t 34) (.k (.bool true)) (.t 40), 0, 0, false, []⟩,
    ⟨some 26, none, .mov (.t 41), 0, 0, false, []⟩])
   (.cutTo [2, 3, 4, 26] (.cond (.t 26) (.seq (.seg false [⟨some 42, none, .build [.int .i64 0, .int .i64 0, .int .i64 0, .int .i64 0, .str ⟨#[]⟩, .int .i64 0, .int .i64 0, .str ⟨#[]⟩] [], 0, 0, false, []⟩,
    ⟨none, none, .store 8 (.t 4) (.t 42), 0, 0, false, []⟩])
   (.ret))
   (.skip))))))))))))))
   (.cutTo [2, 3, 4] (.seq (.seg false [⟨some 43, none, .faddr 0 1 (.t 2), 0, 0, false, []⟩,
    ⟨some 44, none, .load false 1 (.t 43), 0, 0, false, []⟩,
    ⟨some 45, none, .faddr 0 1 (.t 3), 0, 0, false, []⟩,
    ⟨some 46, none, .load false 1 (.t 45), 0, 0, false, []⟩,
    ⟨some 47, none, .bin .add (.t 44) (.t 46), 0, 0, false, []⟩,
    ⟨some 48, none, .faddr 1 1 (.t 2), 0, 0, false, []⟩,
    ⟨some 49, none, .load false 1 (.t 48), 0, 0, false, []⟩,
    ⟨some 50, none, .faddr 1 1 (.t 3), 0, 0, false, []⟩,
    ⟨some 51, none, .load false 1 (.t 50), 0, 0, false, []⟩,
    ⟨some 52, none, .bin .add (.t 49) (.t 51), 0, 0, false, []⟩,
    ⟨some 53, none, .faddr 2 3 (.t 2), 0, 0, false, []⟩,
    ⟨some 54, none, .load true 3 (.t 53), 0, 0, false, []⟩,
    ⟨some 55, none, .faddr 5 3 (.t 2), 0, 0, false, []⟩,
    ⟨some 56, none, .load true 3 (.t 55), 0, 0, false, []⟩,
    ⟨some 57, none, .build [.int .i64 0, .int .i64 0, .int .i64 0, .int .i64 0, .str ⟨#[]⟩, .int .i64 0, .int .i64 0, .str ⟨#[]⟩] [(0, 1, .t 47), (1, 1, .t 52), (2, 3, .t 54), (5, 3, .t 56)], 0, 0, false, []⟩,
    ⟨some 5, none, .alloc [.int .i64 0, .int .i64 0, .int .i64 0, .int .i64 0, .str ⟨#[]⟩, .int .i64 0, .int .i64 0, .str ⟨#[]⟩], 0, 0, false, []⟩,
    ⟨none, none, .store 8 (.t 5) (.t 57), 0, 0, false, []⟩])
   (.cutTo [3, 4, 5] (.seq (.seq (.seg false [⟨some 58, none, .faddr 2 3 (.t 3), 0, 0, false, []⟩,
    ⟨some 59, none, .load true 3 (.t 58), 0, 0, false, []⟩,
    ⟨some 60, none, .faddr 2 3 (.t 5), 0, 0, false, []⟩,
    ⟨some 61, none, .load true 3 (.t 60), 0, 0, false, []⟩,
    ⟨some 62, none, .call 81 [.t 59, .t 61] false false, 0, 0, false, []⟩,
    ⟨some 63, none, .bin .lss (.t 62) (.k (.int .i64 0)), 0, 0, false, []⟩])
   (.cutTo [3, 4, 5, 63] (.cond (.t 63) (.seg false [⟨some 64, none, .faddr 2 3 (.t 3), 0, 0, false, []⟩,
    ⟨some 65, none, .load true 3 (.t 64), 0, 0, false, []⟩,
    ⟨some 66, none, .faddr 2 3 (.t 5), 0, 0, false, []⟩,
    ⟨none, none, .store 3 (.t 66) (.t 65), 0, 0, false, []⟩])
   (.skip))))
   (.cutTo [3, 4, 5] (.seq (.seq (.seg false [⟨some 67, none, .faddr 5 3 (.t 3), 0, 0, false, []⟩,
    ⟨some 68, none, .load true 3 (.t 67), 0, 0, false, []⟩,
    ⟨some 69, none, .faddr 5 3 (.t 5), 0, 0, false, []⟩,
    ⟨some 70, none, .load true 3 (.t 69), 0, 0, false, []⟩,
    ⟨some 71, none, .call 81 [.t 68, .t 70] false false, 0, 0, false, []⟩,
    ⟨some 72, none, .bin .gtr (.t 71) (.k (.int .i64 0)), 0, 0, false, []⟩])
   (.cutTo [3, 4, 5, 72] (.cond (.t 72) (.seg false [⟨some 73, none, .faddr 5 3 (.t 3), 0, 0, false, []⟩,
    ⟨some 74, none, .load true 3 (.t 73), 0, 0, false, []⟩,
    ⟨some 75, none, .faddr 5 3 (.t 5), 0, 0, false, []⟩,
    ⟨none, none, .store 3 (.t 75) (.t 74), 0, 0, false, []⟩])
   (.skip))))
   (.cutTo [4, 5] (.seq (.seg false [⟨some 76, none, .load true 8 (.t 5), 0, 0, false, []⟩,
    ⟨none, none, .store 8 (.t 4) (.t 76), 0, 0, false, []⟩])
   (.ret))))))))))⟩
/-- loop.example/tablehouse/impl.RowsOk$1 -/
def F94 : F := ⟨8, [(false, 3, 0, false)],
   .seq (.seg false [⟨some 3, none, .mov (.k (.bool false)), 0, 0, false, []⟩])
   (.seq (.seg false [⟨some 4, none, .load false 1 (.t 1), 0, 0, false, []⟩,
    ⟨some 5, none, .mov (.t 0), 0, 0, false, []⟩,
    ⟨some 6, none, .call 95 [.t 4, .t 5] false false, 0, 0, false, []⟩,
    ⟨some 7, none, .un .not (.t 6), 0, 0, false, []⟩,
    ⟨some 3, none, .mov (.t 7), 0, 0, false, []⟩])
   (.cutTo [3] (.ret)))⟩
/-- slices.ContainsFunc<<><>loop.example/tablehouse/impl.Value,<>loop.example/tablehouse/impl.Value> -/
def F93 : F := ⟨9, [(false, 4, 0, false)],
   .seq (.seg false [⟨some 4, none, .mov (.k (.bool false)), 0, 0, false, []⟩])
   (.seq (.seg false [⟨some 5, none, .mov (.t 0), 0, 0, false, []⟩,
    ⟨some 6, none, .mov (.t 1), 0, 0, false, []⟩,
    ⟨some 7, none, .call 162 [.t 5, .t 6] true false, 0, 0, false, []⟩,
    ⟨some 8, none, .bin .geq (.t 7) (.k (.int .i64 0)), 0, 0, false, []⟩,
    ⟨some 4, none, .mov (.t 8), 0, 0, false, []⟩])
   (.cutTo [4] (.ret)))⟩
def E96x0 : List I := [⟨some 20, none, .mov (.t 1), 0, 0, false, []⟩,
    ⟨some 21, none, .mov (.t 0), 0, 0, false, []⟩,
    ⟨some 22, none, .mov (.t 6), 0, 0, false, []⟩,
    ⟨some 23, none, .iaddr 3 (.t 21) (.t 22), 0, 0, false, []⟩,
    ⟨some 24, none, .load true 3 (.t 23), 0, 0, false, []⟩,
    ⟨some 25, none, .load true 3 (.t 5), 0, 0, false, []⟩,
    ⟨some 26, none, .callv (.t 20) [.t 24, .t 25] false, 0, 0, true, []⟩,
    ⟨some 27, none, .bin .lss (.t 26) (.k (.int .i64 0)), 1, 1, false, []⟩]
def D96x0 : List I := E96x0
theorem evD96x0 (run : Run) (e : Env) (h : Heap) : drawI run D96x0 e h = DrawW (evW run E96x0 e h []) run E96x0 e h := drawI_write run _ e h
def B96x0 : C := .seq (.seq (.seg false [⟨some 14, none, .mov (.t 6), 0, 0, false, []⟩,
    ⟨some 15, none, .mov (.t 0), 0, 0, false, []⟩,
    ⟨some 16, none, .len false (.t 15), 0, 0, false, []⟩,
    ⟨some 17, none, .bin .lss (.t 14) (.t 16), 0, 0, false, []⟩])
   (.cutTo [0, 1, 4, 5, 6, 17] (.cond (.t 17) (.skip)
   (.exit 0))))
   (.cutTo [0, 1, 4, 5, 6] (.seq (.block 1 (.seq (.seg true D96x0)
   (.cutTo [0, 1, 4, 5, 6, 27] (.cond (.t 27) (.seg false [⟨some 28, none, .mov (.t 0), 0, 0, false, []⟩,
    ⟨some 29, none, .mov (.t 6), 0, 0, false, []⟩,
    ⟨some 30, none, .iaddr 3 (.t 28) (.t 29), 0, 0, false, []⟩,
    ⟨some 31, none, .load true 3 (.t 30), 0, 0, false, []⟩,
    ⟨none, none, .store 3 (.t 5) (.t 31), 0, 0, false, []⟩])
   (.skip)))))
   (.cutTo [0, 1, 4, 5, 6] (.seg false [⟨some 18, none, .mov (.t 6), 0, 0, false, []⟩,
    ⟨some 19, none, .bin .add (.t 18) (.k (.int .i64 1)), 0, 0, false, []⟩,
    ⟨some 6, none, .mov (.t 19), 0, 0, false, []⟩]))))
def L96x0 : C := B96x0
theorem evL96x0 (run : Run) (draw : List I → Env → Heap → Option (Env × Heap)) (e : Env) (h : Heap) : evC run draw L96x0 e h = evC run draw B96x0 e h := rfl
/-- slices.MinFunc<<>loop.example/tablehouse/impl.Value,loop.example/tablehouse/impl.Value> -/
def F96 : F := ⟨33, [(true, 4, 3, true)],
   .seq (.seg false [⟨some 4, none, .alloc [.int .i64 0, .int .i64 0, .str ⟨#[]⟩], 0, 0, false, []⟩])
   (.seq (.seq (.seg false [⟨some 7, none, .mov (.t 0), 0, 0, false, []⟩,
    ⟨some 8, none, .len false (.t 7), 0, 0, false, []⟩,
    ⟨some 9, none, .bin .lss (.t 8) (.k (.int .i64 1)), 0, 0, false, []⟩])
   (.cond (.t 9) (.seg false [⟨some 10, none, .bad, 0, 0, false, []⟩,
    ⟨none, none, .bad, 0, 0, false, []⟩])
   (.skip)))
   (.cutTo [0, 1, 4] (.seq (.seg false [⟨some 11, none, .mov (.t 0), 0, 0, false, []⟩,
    ⟨some 12, none, .iaddr 3 (.t 11) (.k (.int .i64 0)), 0, 0, false, []⟩,
    ⟨some 13, none, .load true 3 (.t 12), 0, 0, false, []⟩,
    ⟨some 5, none, .alloc [.int .i64 0, .int .i64 0, .str ⟨#[]⟩], 0, 0, false, []⟩,
    ⟨none, none, .store 3 (.t 5) (.t 13), 0, 0, false, []⟩])
   (.cutTo [0, 1, 4, 5] (.seq (.seq (.seg false [⟨some 6, none, .mov (.k (.int .i64 1)), 0, 0, false, []⟩])
   (.block 0 (.loop [0, 1, 4, 5, 6] [4, 5] L96x0)))
   (.seq (.seg false [⟨some 32, none, .load true 3 (.t 5), 0, 0, false, []⟩,
    ⟨none, none, .store 3 (.t 4) (.t 32), 0, 0, false, []⟩])
   (.ret)))))))⟩
def E97x0 : List I := [⟨some 20, none, .mov (.t 1), 0, 0, false, []⟩,
    ⟨some 21, none, .mov (.t 0), 0, 0, false, []⟩,
    ⟨some 22, none, .mov (.t 6), 0, 0, false, []⟩,
    ⟨some 23, none, .iaddr 3 (.t 21) (.t 22), 0, 0, false, []⟩,
    ⟨some 24, none, .load true 3 (.t 23), 0, 0, false, []⟩,
    ⟨some 25, none, .load true 3 (.t 5), 0, 0, false, []⟩,
    ⟨some 26, none, .callv (.t 20) [.t 24, .t 25] false, 0, 0, true, []⟩,
    ⟨some 27, none, .bin .gtr (.t 26) (.k (.int .i64 0)), 1, 1, false, []⟩]
def D97x0 : List I := E97x0
theorem evD97x0 (run : Run) (e : Env) (h : Heap) : drawI run D97x0 e h = DrawW (evW run E97x0 e h []) run E97x0 e h := drawI_write run _ e h
def B97x0 : C := .seq (.seq (.seg false [⟨some 14, none, .mov (.t 6), 0, 0, false, []⟩,
    ⟨some 15, none, .mov (.t 0), 0, 0, false, []⟩,
    ⟨some 16, none, .len false (.t 15), 0, 0, false, []⟩,
    ⟨some 17, none, .bin .lss (.t 14) (.t 16), 0, 0, false, []⟩])
   (.cutTo [0, 1, 4, 5, 6, 17] (.cond (.t 17) (.skip)
   (.exit 0))))
   (.cutTo [0, 1, 4, 5, 6] (.seq (.block 1 (.seq (.seg true D97x0)
   (.cutTo [0, 1, 4, 5, 6, 27] (.cond (.t 27) (.seg false [⟨some 28, none, .mov (.t 0), 0, 0, false, []⟩,
    ⟨some 29, none, .mov (.t 6), 0, 0, false, []⟩,
    ⟨some 30, none, .iaddr 3 (.t 28) (.t 29), 0, 0, false, []⟩,
    ⟨some 31, none, .load true 3 (.t 30), 0, 0, false, []⟩,
    ⟨none, none, .store 3 (.t 5) (.t 31), 0, 0, false, []⟩])
   (.skip)))))
   (.cutTo [0, 1, 4, 5, 6] (.seg false [⟨some 18, none, .mov (.t 6), 0, 0, false, []⟩,
    ⟨some 19, none, .bin .add (.t 18) (.k (.int .i64 1)), 0, 0, false, []⟩,
    ⟨some 6, none, .mov (.t 19), 0, 0, false, []⟩]))))
def L97x0 : C := B97x0
theorem evL97x0 (run : Run) (draw : List I → Env → Heap → Option (Env × Heap)) (e : Env) (h : Heap) : evC run draw L97x0 e h = evC run draw B97x0 e h := rfl
/-- slices.MaxFunc<<>loop.example/tablehouse/impl.Value,loop.example/tablehouse/impl.Value> -/
def F97 : F := ⟨33, [(true, 4, 3, true)],
   .seq (.seg false [⟨some 4, none, .alloc [.int .i64 0, .int .i64 0, .str ⟨#[]⟩], 0, 0, false, []⟩])
   (.seq (.seq (.seg false [⟨some 7, none, .mov (.t 0), 0, 0, false, []⟩,
    ⟨some 8, none, .len false (.t 7), 0, 0, false, []⟩,
    ⟨some 9, none, .bin .lss (.t 8) (.k (.int .i64 1)), 0, 0, false, []⟩])
   (.cond (.t 9) (.seg false [⟨some 10, none, .bad, 0, 0, false, []⟩,
    ⟨none, none, .bad, 0, 0, false, []⟩])
   (.skip)))
   (.cutTo [0, 1, 4] (.seq (.seg false [⟨some 11, none, .mov (.t 0), 0, 0, false, []⟩,
    ⟨some 12, none, .iaddr 3 (.t 11) (.k (.int .i64 0)), 0, 0, false, []⟩,
    ⟨some 13, none, .load true 3 (.t 12), 0, 0, false, []⟩,
    ⟨some 5, none, .alloc [.int .i64 0, .int .i64 0, .str ⟨#[]⟩], 0, 0, false, []⟩,
    ⟨none, none, .store 3 (.t 5) (.t 13), 0, 0, false, []⟩])
   (.cutTo [0, 1, 4, 5] (.seq (.seq (.seg false [⟨some 6, none, .mov (.k (.int .i64 1)), 0, 0, false, []⟩])
   (.block 0 (.loop [0, 1, 4, 5, 6] [4, 5] L97x0)))
   (.seq (.seg false [⟨some 32, none, .load true 3 (.t 5), 0, 0, false, []⟩,
    ⟨none, none, .store 3 (.t 4) (.t 32), 0, 0, false, []⟩])
   (.ret)))))))⟩
def E104x0 : List I := [⟨some 47, none, .mov (.t 0), 0, 0, false, []⟩,
    ⟨some 48, none, .nilchk (.t 47), 0, 0, false, []⟩,
    ⟨some 49, none, .faddr 0 1 (.t 48), 0, 0, false, []⟩,
    ⟨some 50, none, .load false 1 (.t 49), 0, 0, false, []⟩,
    ⟨some 51, none, .mov (.t 5), 0, 0, false, []⟩,
    ⟨some 52, none, .mov (.t 0), 0, 0, false, []⟩,
    ⟨some 53, none, .nilchk (.t 52), 0, 0, false, []⟩,
    ⟨some 54, none, .faddr 0 1 (.t 53), 0, 0, false, []⟩,
    ⟨some 55, none, .load false 1 (.t 54), 0, 0, false, []⟩,
    ⟨some 56, none, .len false (.t 55), 0, 0, false, []⟩,
    ⟨some 57, none, .bin .rem (.t 51) (.t 56), 0, 0, false, []⟩,
    ⟨some 58, none, .iaddr 1 (.t 50) (.t 57), 0, 0, false, []⟩,
    ⟨some 59, none, .load false 1 (.t 58), 0, 0, false, []⟩,
    ⟨some 60, none, .conv (.int .i64) (.t 59), 0, 0, false, []⟩,
    ⟨some 61, none, .bin .mul (.t 60) (.k (.int .i64 131)), 0, 0, false, []⟩,
    ⟨some 62, none, .mov (.t 0), 0, 0, false, []⟩,
    ⟨some 63, none, .nilchk (.t 62), 0, 0, false, []⟩,
    ⟨some 64, none, .faddr 0 1 (.t 63), 0, 0, false, []⟩,
    ⟨some 65, none, .load false 1 (.t 64), 0, 0, false, []⟩,
    ⟨some 66, none, .mov (.t 5), 0, 0, false, []⟩,
    ⟨some 67, none, .bin .mul (.t 66) (.k (.int .i64 7)), 0, 0, false, []⟩,
    ⟨some 68, none, .bin .add (.t 67) (.k (.int .i64 3)), 0, 0, false, []⟩,
    ⟨some 69, none, .mov (.t 0), 0, 0, false, []⟩,
    ⟨some 70, none, .nilchk (.t 69), 0, 0, false, []⟩,
    ⟨some 71, none, .faddr 0 1 (.t 70), 0, 0, false, []⟩,
    ⟨some 72, none, .load false 1 (.t 71), 0, 0, false, []⟩,
    ⟨some 73, none, .len false (.t 72), 0, 0, false, []⟩,
    ⟨some 74, none, .bin .rem (.t 68) (.t 73), 0, 0, false, []⟩,
    ⟨some 75, none, .iaddr 1 (.t 65) (.t 74), 0, 0, false, []⟩,
    ⟨some 76, none, .load false 1 (.t 75), 0, 0, false, []⟩,
    ⟨some 77, none, .conv (.int .i64) (.t 76), 0, 0, false, []⟩,
    ⟨some 78, none, .bin .mul (.t 77) (.k (.int .i64 1117)), 0, 0, false, []⟩,
    ⟨some 79, none, .bin .add (.t 61) (.t 78), 0, 0, false, []⟩,
    ⟨some 80, none, .mov (.t 5), 0, 0, false, []⟩,
    ⟨some 81, none, .bin .mul (.t 80) (.k (.int .i64 29)), 0, 0, false, []⟩,
    ⟨some 82, none, .bin .add (.t 79) (.t 81), 0, 0, false, []⟩,
    ⟨some 83, none, .mov (.t 5), 0, 0, false, []⟩,
    ⟨some 84, none, .mov (.t 0), 0, 0, false, []⟩,
    ⟨some 85, none, .nilchk (.t 84), 0, 0, false, []⟩,
    ⟨some 86, none, .faddr 0 1 (.t 85), 0, 0, false, []⟩,
    ⟨some 87, none, .load false 1 (.t 86), 0, 0, false, []⟩,
    ⟨some 88, none, .len false (.t 87), 0, 0, false, []⟩,
    ⟨some 89, none, .bin .quo (.t 83) (.t 88), 0, 0, false, []⟩,
    ⟨some 90, none, .bin .mul (.t 89) (.k (.int .i64 53)), 0, 0, false, []⟩,
    ⟨some 91, none, .bin .add (.t 82) (.t 90), 0, 0, false, []⟩,
    ⟨some 6, none, .mov (.t 91), 0, 0, false, []⟩]
def D104x0 : List I := E104x0
theorem evD104x0 (run : Run) (e : Env) (h : Heap) : drawI run D104x0 e h = DrawS (evQ run E104x0 e h) run E104x0 e h := drawI_quiet run _ (by rfl) e h
/-- (*loop.example/tablehouse/spec.l20Rd).pick -/
def F104 : F := ⟨99, [(false, 4, 0, false)],
   .seq (.seg false [⟨some 4, none, .mov (.k (.int .i64 0)), 0, 0, false, []⟩])
   (.seq (.seg false [⟨some 7, none, .mov (.t 0), 0, 0, false, []⟩,
    ⟨some 8, none, .mov (.t 0), 0, 0, false, []⟩,
    ⟨some 9, none, .nilchk (.t 8), 0, 0, false, []⟩,
    ⟨some 10, none, .faddr 1 1 (.t 9), 0, 0, false, []⟩,
    ⟨some 11, none, .load false 1 (.t 10), 0, 0, false, []⟩,
    ⟨some 12, none, .bin .add (.t 11) (.k (.int .i64 1)), 0, 0, false, []⟩,
    ⟨some 13, none, .nilchk (.t 7), 0, 0, false, []⟩,
    ⟨some 14, none, .faddr 1 1 (.t 13), 0, 0, false, []⟩,
    ⟨none, none, .store 1 (.t 14) (.t 12), 0, 0, false, []⟩])
   (.cutTo [0, 1] (.seq (.seq (.seg false [⟨some 15, none, .mov (.t 1), 0, 0, false, []⟩,
    ⟨some 16, none, .bin .lss (.t 15) (.k (.int .i64 1)), 0, 0, false, []⟩,
    ⟨some 17, none, .mov (.t 16), 0, 0, false, []⟩,
    ⟨some 18, some (17, false), .mov (.t 0), 0, 0, false, []⟩,
    ⟨some 19, some (17, false), .nilchk (.t 18), 0, 0, false, []⟩,
    ⟨some 20, some (17, false), .faddr 0 1 (.t 19), 0, 0, false, []⟩,
    ⟨some 21, some (17, false), .load false 1 (.t 20), 0, 0, false, []⟩,
    ⟨some 22, some (17, false), .len false (.t 21), 0, 0, false, []⟩,
    ⟨some 23, some (17, false), .bin .eql (.t 22) (.k (.int .i64 0)), 0, 0, false, []⟩,
    ⟨some 24, none, .pick (.t 17) (.k (.bool true)) (.t 23), 0, 0, false, []⟩])
   (.cutTo [0, 1, 24] (.cond (.t 24) (.seq (.seg false [⟨some 4, none, .mov (.k (.int .i64 0)), 0, 0, false, []⟩])
   (.ret))
   (.skip))))
   (.cutTo [0, 1] (.seq (.seg false [⟨some 25, none, .mov (.t 0), 0, 0, false, []⟩,
    ⟨some 26, none, .nilchk (.t 25), 0, 0, false, []⟩,
    ⟨some 27, none, .faddr 1 1 (.t 26), 0, 0, false, []⟩,
    ⟨some 28, none, .load false 1 (.t 27), 0, 0, false, []⟩,
    ⟨some 29, none, .bin .sub (.t 28) (.k (.int .i64 1)), 0, 0, false, []⟩,
    ⟨some 5, none, .mov (.t 29), 0, 0, false, []⟩])
   (.cutTo [0, 1, 5] (.seq (.seq (.seg false [⟨some 30, none, .mov (.t 5), 0, 0, false, []⟩,
    ⟨some 31, none, .mov (.t 0), 0, 0, false, []⟩,
    ⟨some 32, none, .nilchk (.t 31), 0, 0, false, []⟩,
    ⟨some 33, none, .faddr 0 1 (.t 32), 0, 0, false, []⟩,
    ⟨some 34, none, .load false 1 (.t 33), 0, 0, false, []⟩,
    ⟨some 35, none, .len false (.t 34), 0, 0, false, []⟩,
    ⟨some 36, none, .bin .lss (.t 30) (.t 35), 0, 0, false, []⟩])
   (.cutTo [0, 1, 5, 36] (.cond (.t 36) (.seq (.seg false [⟨some 37, none, .mov (.t 0), 0, 0, false, []⟩,
    ⟨some 38, none, .nilchk (.t 37), 0, 0, false, []⟩,
    ⟨some 39, none, .faddr 0 1 (.t 38), 0, 0, false, []⟩,
    ⟨some 40, none, .load false 1 (.t 39), 0, 0, false, []⟩,
    ⟨some 41, none, .mov (.t 5), 0, 0, false, []⟩,
    ⟨some 42, none, .iaddr 1 (.t 40) (.t 41), 0, 0, false, []⟩,
    ⟨some 43, none, .load false 1 (.t 42), 0, 0, false, []⟩,
    ⟨some 44, none, .conv (.int .i64) (.t 43), 0, 0, false, []⟩,
    ⟨some 45, none, .mov (.t 1), 0, 0, false, []⟩,
    ⟨some 46, none, .bin .rem (.t 44) (.t 45), 0, 0, false, []⟩,
    ⟨some 4, none, .mov (.t 46), 0, 0, false, []⟩])
   (.cutTo [4] (.ret)))
   (.skip))))
   (.cutTo [0, 1, 5] (.seq (.seg true D104x0)
   (.cutTo [1, 6] (.seq (.seg false [⟨some 92, none, .mov (.t 6), 0, 0, false, []⟩,
    ⟨some 93, none, .mov (.t 6), 0, 0, false, []⟩,
    ⟨some 94, none, .bin .quo (.t 93) (.k (.int .i64 64)), 0, 0, false, []⟩,
    ⟨some 95, none, .bin .xor (.t 92) (.t 94), 0, 0, false, []⟩,
    ⟨some 6, none, .mov (.t 95), 0, 0, false, []⟩])
   (.cutTo [1, 6] (.seq (.seg false [⟨some 96, none, .mov (.t 6), 0, 0, false, []⟩,
    ⟨some 97, none, .mov (.t 1), 0, 0, false, []⟩,
    ⟨some 98, none, .bin .rem (.t 96) (.t 97), 0, 0, false, []⟩,
    ⟨some 4, none, .mov (.t 98), 0, 0, false, []⟩])
   (.cutTo [4] (.ret)))))))))))))))⟩
/-- loop.example/tablehouse/spec.l20Like -/
def F105 : F := ⟨31, [(true, 4, 3, true)],
   .seq (.seg false [⟨some 3, none, .box (.t 1), 0, 0, false, []⟩,
    ⟨some 4, none, .alloc [.int .i64 0, .int .i64 0, .str ⟨#[]⟩], 0, 0, false, []⟩])
   (.seq (.seq (.seg false [⟨some 5, none, .faddr 1 1 (.t 3), 0, 0, false, []⟩,
    ⟨some 6, none, .load false 1 (.t 5), 0, 0, false, []⟩,
    ⟨some 7, none, .mov (.t 6), 0, 0, false, []⟩,
    ⟨some 8, some (7, true), .mov (.t 0), 0, 0, false, []⟩,
    ⟨some 9, some (7, true), .call 104 [.t 8, .k (.int .i64 5)] true false, 0, 0, false, []⟩,
    ⟨some 10, some (7, true), .bin .eql (.t 9) (.k (.int .i64 0)), 0, 0, false, []⟩,
    ⟨some 11, none, .pick (.t 7) (.t 10) (.k (.bool false)), 0, 0, false, []⟩])
   (.cutTo [0, 3, 4, 11] (.cond (.t 11) (.seq (.seg false [⟨some 12, none, .build [.int .i64 0, .int .i64 0, .str ⟨#[]⟩] [], 0, 0, false, []⟩,
    ⟨none, none, .store 3 (.t 4) (.t 12), 0, 0, false, []⟩])
   (.ret))
   (.skip))))
   (.cutTo [0, 3, 4] (.seq (.seq (.seg false [⟨some 13, none, .faddr 0 1 (.t 3), 0, 0, false, []⟩,
    ⟨some 14, none, .load false 1 (.t 13), 0, 0, false, []⟩])
   (.block 0 (.seq (.seg false [⟨some 16, none, .bin .eql (.t 14) (.k (.int .i64 1)), 0, 0, false, []⟩,
    ⟨some 15, none, .mov (.t 16), 0, 0, false, []⟩])
   (.cond (.t 15) (.seq (.seg false [⟨some 17, none, .mov (.t 0), 0, 0, false, []⟩,
    ⟨some 18, none, .call 104 [.t 17, .k (.int .i64 4)] true false, 0, 0, false, []⟩,
    ⟨some 19, none, .build [.int .i64 0, .int .i64 0, .str ⟨#[]⟩] [(0, 1, .k (.int .i64 1)), (1, 1, .t 18)], 0, 0, false, []⟩,
    ⟨none, none, .store 3 (.t 4) (.t 19), 0, 0, false, []⟩])
   (.cutTo [4] (.ret)))
   (.seq (.seg false [⟨some 21, none, .bin .eql (.t 14) (.k (.int .i64 2)), 0, 0, false, []⟩,
    ⟨some 20, none, .mov (.t 21), 0, 0, false, []⟩])
   (.cond (.t 20) (.seq (.seg false [⟨some 22, none, .mksl false 1 [.k (.str ⟨#[]⟩), .k (.str ⟨#[97]⟩), .k (.str ⟨#[98]⟩), .k (.str ⟨#[97, 98]⟩)], 0, 0, false, []⟩,
    ⟨some 23, none, .mov (.t 0), 0, 0, false, []⟩,
    ⟨some 24, none, .call 104 [.t 23, .k (.int .i64 4)] true false, 0, 0, false, []⟩,
    ⟨some 25, none, .iaddr 1 (.t 22) (.t 24), 0, 0, false, []⟩,
    ⟨some 26, none, .load false 1 (.t 25), 0, 0, false, []⟩,
    ⟨some 27, none, .build [.int .i64 0, .int .i64 0, .str ⟨#[]⟩] [(0, 1, .k (.int .i64 2)), (2, 1, .t 26)], 0, 0, false, []⟩,
    ⟨none, none, .store 3 (.t 4) (.t 27), 0, 0, false, []⟩])
   (.cutTo [4] (.ret)))
   (.skip)))))))
   (.cutTo [0, 4] (.seq (.seg false [⟨some 28, none, .mov (.t 0), 0, 0, false, []⟩,
    ⟨some 29, none, .call 104 [.t 28, .k (.int .i64 2)] true false, 0, 0, false, []⟩,
    ⟨some 30, none, .build [.int .i64 0, .int .i64 0, .str ⟨#[]⟩] [(0, 1, .k (.int .i64 3)), (1, 1, .t 29)], 0, 0, false, []⟩,
    ⟨none, none, .store 3 (.t 4) (.t 30), 0, 0, false, []⟩])
   (.cutTo [4] (.ret)))))))⟩
/-- loop.example/tablehouse/impl.truthIf -/
def F106 : F := ⟨4, [(false, 2, 0, false)],
   .seq (.seg false [⟨some 2, none, .mov (.k (.int .i64 0)), 0, 0, false, []⟩])
   (.seq (.seq (.seg false [⟨some 3, none, .mov (.t 0), 0, 0, false, []⟩])
   (.cond (.t 3) (.seq (.seg false [⟨some 2, none, .mov (.k (.int .i64 1)), 0, 0, false, []⟩])
   (.ret))
   (.skip)))
   (.seq (.seg false [⟨some 2, none, .mov (.k (.int .i64 0)), 0, 0, false, []⟩])
   (.ret)))⟩
def B98x0 : C := .seq (.seq (.seg false [⟨some 12, none, .mov (.t 5), 0, 0, false, []⟩,
    ⟨some 13, none, .mov (.t 0), 0, 0, false, []⟩,
    ⟨some 14, none, .len false (.t 13), 0, 0, false, []⟩,
    ⟨some 15, none, .bin .lss (.t 12) (.t 14), 0, 0, false, []⟩])
   (.cutTo [0, 1, 5, 15] (.cond (.t 15) (.skip)
   (.exit 0))))
   (.cutTo [0, 1, 5] (.seq (.block 1 (.seq (.seg false [⟨some 18, none, .mov (.t 0), 0, 0, false, []⟩,
    ⟨some 19, none, .mov (.t 5), 0, 0, false, []⟩,
    ⟨some 20, none, .iaddr 3 (.t 18) (.t 19), 0, 0, false, []⟩,
    ⟨some 21, none, .load true 3 (.t 20), 0, 0, false, []⟩,
    ⟨some 22, none, .mov (.t 1), 0, 0, false, []⟩,
    ⟨some 23, none, .call 163 [.t 21, .t 22] false false, 0, 0, false, []⟩,
    ⟨some 1, none, .mov (.t 23), 0, 0, false, []⟩])
   (.cutTo [0, 1, 5] (.seq (.seg false [⟨some 24, none, .mov (.t 1), 0, 0, false, []⟩,
    ⟨some 25, none, .bin .lss (.t 24) (.k (.int .i64 0)), 0, 0, false, []⟩])
   (.cond (.t 25) (.seq (.seg false [⟨some 4, none, .mov (.k (.int .i64 (-1))), 0, 0, false, []⟩])
   (.ret))
   (.skip))))))
   (.cutTo [0, 1, 5] (.seg false [⟨some 16, none, .mov (.t 5), 0, 0, false, []⟩,
    ⟨some 17, none, .bin .add (.t 16) (.k (.int .i64 1)), 0, 0, false, []⟩,
    ⟨some 5, none, .mov (.t 17), 0, 0, false, []⟩]))))
def L98x0 : C := B98x0
theorem evL98x0 (run : Run) (draw : List I → Env → Heap → Option (Env × Heap)) (e : Env) (h : Heap) : evC run draw L98x0 e h = evC run draw B98x0 e h := rfl
/-- loop.example/tablehouse/laws.szValueS -/
def F98 : F := ⟨27, [(false, 4, 0, false)],
   .seq (.seg false [⟨some 4, none, .mov (.k (.int .i64 0)), 0, 0, false, []⟩])
   (.seq (.seg false [⟨some 6, none, .mov (.t 1), 0, 0, false, []⟩,
    ⟨some 7, none, .mov (.t 0), 0, 0, false, []⟩,
    ⟨some 8, none, .len false (.t 7), 0, 0, false, []⟩,
    ⟨some 9, none, .bin .sub (.t 6) (.t 8), 0, 0, false, []⟩,
    ⟨some 1, none, .mov (.t 9), 0, 0, false, []⟩])
   (.cutTo [0, 1] (.seq (.seq (.seg false [⟨some 10, none, .mov (.t 1), 0, 0, false, []⟩,
    ⟨some 11, none, .bin .lss (.t 10) (.k (.int .i64 0)), 0, 0, false, []⟩])
   (.cond (.t 11) (.seq (.seg false [⟨some 4, none, .mov (.k (.int .i64 (-1))), 0, 0, false, []⟩])
   (.ret))
   (.skip)))
   (.seq (.seq (.seg false [⟨some 5, none, .mov (.k (.int .i64 0)), 0, 0, false, []⟩])
   (.block 0 (.loop [0, 1, 5] [1, 4] L98x0)))
   (.seq (.seg false [⟨some 26, none, .mov (.t 1), 0, 0, false, []⟩,
    ⟨some 4, none, .mov (.t 26), 0, 0, false, []⟩])
   (.ret))))))⟩
/-- loop.example/tablehouse/laws.toColumn -/
def F99 : F := ⟨11, [(true, 2, 2, true)],
   .seq (.seg false [⟨some 1, none, .box (.t 0), 0, 0, false, []⟩,
    ⟨some 2, none, .alloc [.int .i64 0, .bool false], 0, 0, false, []⟩])
   (.seq (.seg false [⟨some 3, none, .alloc [.int .i64 0, .bool false], 0, 0, false, []⟩])
   (.seq (.seg false [⟨some 4, none, .faddr 0 1 (.t 1), 0, 0, false, []⟩,
    ⟨some 5, none, .load false 1 (.t 4), 0, 0, false, []⟩,
    ⟨some 6, none, .faddr 0 1 (.t 3), 0, 0, false, []⟩,
    ⟨none, none, .store 1 (.t 6) (.t 5), 0, 0, false, []⟩])
   (.cutTo [1, 2, 3] (.seq (.seg false [⟨some 7, none, .faddr 1 1 (.t 1), 0, 0, false, []⟩,
    ⟨some 8, none, .load false 1 (.t 7), 0, 0, false, []⟩,
    ⟨some 9, none, .faddr 1 1 (.t 3), 0, 0, false, []⟩,
    ⟨none, none, .store 1 (.t 9) (.t 8), 0, 0, false, []⟩])
   (.cutTo [2, 3] (.seq (.seg false [⟨some 10, none, .load true 2 (.t 3), 0, 0, false, []⟩,
    ⟨none, none, .store 2 (.t 2) (.t 10), 0, 0, false, []⟩])
   (.ret)))))))⟩
def B100x0 : C := .seq (.seq (.seg false [⟨some 8, none, .mov (.t 4), 0, 0, false, []⟩,
    ⟨some 9, none, .mov (.t 0), 0, 0, false, []⟩,
    ⟨some 10, none, .len false (.t 9), 0, 0, false, []⟩,
    ⟨some 11, none, .bin .lss (.t 8) (.t 10), 0, 0, false, []⟩])
   (.cutTo [0, 3, 4, 11] (.cond (.t 11) (.skip)
   (.exit 0))))
   (.cutTo [0, 3, 4] (.seq (.block 1 (.seg false [⟨some 14, none, .mov (.t 3), 0, 0, false, []⟩,
    ⟨some 15, none, .mov (.t 4), 0, 0, false, []⟩,
    ⟨some 16, none, .mov (.t 0), 0, 0, false, []⟩,
    ⟨some 17, none, .mov (.t 4), 0, 0, false, []⟩,
    ⟨some 18, none, .iaddr 3 (.t 16) (.t 17), 0, 0, false, []⟩,
    ⟨some 19, none, .load true 3 (.t 18), 0, 0, false, []⟩,
    ⟨some 20, none, .call 164 [.t 19] false false, 0, 0, false, []⟩,
    ⟨some 21, none, .iaddr 3 (.t 14) (.t 15), 0, 0, false, []⟩,
    ⟨none, none, .store 3 (.t 21) (.t 20), 0, 0, false, []⟩]))
   (.cutTo [0, 3, 4] (.seg false [⟨some 12, none, .mov (.t 4), 0, 0, false, []⟩,
    ⟨some 13, none, .bin .add (.t 12) (.k (.int .i64 1)), 0, 0, false, []⟩,
    ⟨some 4, none, .mov (.t 13), 0, 0, false, []⟩]))))
def L100x0 : C := B100x0
theorem evL100x0 (run : Run) (draw : List I → Env → Heap → Option (Env × Heap)) (e : Env) (h : Heap) : evC run draw L100x0 e h = evC run draw B100x0 e h := rfl
/-- loop.example/tablehouse/laws.toValueS -/
def F100 : F := ⟨23, [(false, 2, 0, false)],
   .seq (.seg false [⟨some 2, none, .mov (.k (.sl true 3 [])), 0, 0, false, []⟩])
   (.seq (.seg false [⟨some 5, none, .mov (.t 0), 0, 0, false, []⟩,
    ⟨some 6, none, .len false (.t 5), 0, 0, false, []⟩,
    ⟨some 7, none, .mk 3 [.int .i64 0, .int .i64 0, .str ⟨#[]⟩] (.t 6), 0, 0, false, []⟩,
    ⟨some 3, none, .mov (.t 7), 0, 0, false, []⟩])
   (.cutTo [0, 3] (.seq (.seq (.seg false [⟨some 4, none, .mov (.k (.int .i64 0)), 0, 0, false, []⟩])
   (.block 0 (.loop [0, 3, 4] [3] L100x0)))
   (.seq (.seg false [⟨some 22, none, .mov (.t 3), 0, 0, false, []⟩,
    ⟨some 2, none, .mov (.t 22), 0, 0, false, []⟩])
   (.ret)))))⟩
/-- loop.example/tablehouse/laws.eqValue -/
def F101 : F := ⟨20, [(false, 4, 0, false)],
   .seq (.seg false [⟨some 2, none, .box (.t 0), 0, 0, false, []⟩,
    ⟨some 3, none, .box (.t 1), 0, 0, false, []⟩,
    ⟨some 4, none, .mov (.k (.bool false)), 0, 0, false, []⟩])
   (.seq (.seq (.seg false [⟨some 5, none, .faddr 0 1 (.t 2), 0, 0, false, []⟩,
    ⟨some 6, none, .load false 1 (.t 5), 0, 0, false, []⟩,
    ⟨some 7, none, .faddr 0 1 (.t 3), 0, 0, false, []⟩,
    ⟨some 8, none, .load false 1 (.t 7), 0, 0, false, []⟩,
    ⟨some 9, none, .bin .neq (.t 6) (.t 8), 0, 0, false, []⟩])
   (.cutTo [2, 3, 9] (.cond (.t 9) (.seq (.seg false [⟨some 4, none, .mov (.k (.bool false)), 0, 0, false, []⟩])
   (.ret))
   (.skip))))
   (.cutTo [2, 3] (.seq (.seq (.seg false [⟨some 10, none, .faddr 1 1 (.t 2), 0, 0, false, []⟩,
    ⟨some 11, none, .load false 1 (.t 10), 0, 0, false, []⟩,
    ⟨some 12, none, .faddr 1 1 (.t 3), 0, 0, false, []⟩,
    ⟨some 13, none, .load false 1 (.t 12), 0, 0, false, []⟩,
    ⟨some 14, none, .bin .neq (.t 11) (.t 13), 0, 0, false, []⟩])
   (.cutTo [2, 3, 14] (.cond (.t 14) (.seq (.seg false [⟨some 4, none, .mov (.k (.bool false)), 0, 0, false, []⟩])
   (.ret))
   (.skip))))
   (.cutTo [2, 3] (.seq (.seq (.seg false [⟨some 15, none, .faddr 2 1 (.t 2), 0, 0, false, []⟩,
    ⟨some 16, none, .load false 1 (.t 15), 0, 0, false, []⟩,
    ⟨some 17, none, .faddr 2 1 (.t 3), 0, 0, false, []⟩,
    ⟨some 18, none, .load false 1 (.t 17), 0, 0, false, []⟩,
    ⟨some 19, none, .bin .neq (.t 16) (.t 18), 0, 0, false, []⟩])
   (.cutTo [19] (.cond (.t 19) (.seq (.seg false [⟨some 4, none, .mov (.k (.bool false)), 0, 0, false, []⟩])
   (.ret))
   (.skip))))
   (.cutTo [] (.seq (.seg false [⟨some 4, none, .mov (.k (.bool true)), 0, 0, false, []⟩])
   (.ret))))))))⟩
/-- loop.example/tablehouse/laws.eqColumn -/
def F102 : F := ⟨15, [(false, 4, 0, false)],
   .seq (.seg false [⟨some 2, none, .box (.t 0), 0, 0, false, []⟩,
    ⟨some 3, none, .box (.t 1), 0, 0, false, []⟩,
    ⟨some 4, none, .mov (.k (.bool false)), 0, 0, false, []⟩])
   (.seq (.seq (.seg false [⟨some 5, none, .faddr 0 1 (.t 2), 0, 0, false, []⟩,
    ⟨some 6, none, .load false 1 (.t 5), 0, 0, false, []⟩,
    ⟨some 7, none, .faddr 0 1 (.t 3), 0, 0, false, []⟩,
    ⟨some 8, none, .load false 1 (.t 7), 0, 0, false, []⟩,
    ⟨some 9, none, .bin .neq (.t 6) (.t 8), 0, 0, false, []⟩])
   (.cutTo [2, 3, 9] (.cond (.t 9) (.seq (.seg false [⟨some 4, none, .mov (.k (.bool false)), 0, 0, false, []⟩])
   (.ret))
   (.skip))))
   (.cutTo [2, 3] (.seq (.seq (.seg false [⟨some 10, none, .faddr 1 1 (.t 2), 0, 0, false, []⟩,
    ⟨some 11, none, .load false 1 (.t 10), 0, 0, false, []⟩,
    ⟨some 12, none, .faddr 1 1 (.t 3), 0, 0, false, []⟩,
    ⟨some 13, none, .load false 1 (.t 12), 0, 0, false, []⟩,
    ⟨some 14, none, .eqb true (.t 11) (.t 13), 0, 0, false, []⟩])
   (.cutTo [14] (.cond (.t 14) (.seq (.seg false [⟨some 4, none, .mov (.k (.bool false)), 0, 0, false, []⟩])
   (.ret))
   (.skip))))
   (.cutTo [] (.seq (.seg false [⟨some 4, none, .mov (.k (.bool true)), 0, 0, false, []⟩])
   (.ret))))))⟩
def E103x0 : List I := [⟨some 17, none, .mov (.t 0), 0, 0, false, []⟩,
    ⟨some 18, none, .mov (.t 5), 0, 0, false, []⟩,
    ⟨some 19, none, .iaddr 3 (.t 17) (.t 18), 0, 0, false, []⟩,
    ⟨some 20, none, .load true 3 (.t 19), 0, 0, false, []⟩,
    ⟨some 21, none, .mov (.t 1), 0, 0, false, []⟩,
    ⟨some 22, none, .mov (.t 5), 0, 0, false, []⟩,
    ⟨some 23, none, .iaddr 3 (.t 21) (.t 22), 0, 0, false, []⟩,
    ⟨some 24, none, .load true 3 (.t 23), 0, 0, false, []⟩,
    ⟨some 25, none, .call 101 [.t 20, .t 24] false false, 0, 0, false, []⟩,
    ⟨some 26, none, .un .not (.t 25), 0, 0, false, []⟩]
def D103x0 : List I := E103x0
theorem evD103x0 (run : Run) (e : Env) (h : Heap) : drawI run D103x0 e h = DrawS (evQ run E103x0 e h) run E103x0 e h := drawI_quiet run _ (by rfl) e h
def B103x0 : C := .seq (.seq (.seg false [⟨some 11, none, .mov (.t 5), 0, 0, false, []⟩,
    ⟨some 12, none, .mov (.t 0), 0, 0, false, []⟩,
    ⟨some 13, none, .len false (.t 12), 0, 0, false, []⟩,
    ⟨some 14, none, .bin .lss (.t 11) (.t 13), 0, 0, false, []⟩])
   (.cutTo [0, 1, 5, 14] (.cond (.t 14) (.skip)
   (.exit 0))))
   (.cutTo [0, 1, 5] (.seq (.block 1 (.seq (.seg true D103x0)
   (.cutTo [0, 1, 5, 26] (.cond (.t 26) (.seq (.seg false [⟨some 4, none, .mov (.k (.bool false)), 0, 0, false, []⟩])
   (.ret))
   (.skip)))))
   (.cutTo [0, 1, 5] (.seg false [⟨some 15, none, .mov (.t 5), 0, 0, false, []⟩,
    ⟨some 16, none, .bin .add (.t 15) (.k (.int .i64 1)), 0, 0, false, []⟩,
    ⟨some 5, none, .mov (.t 16), 0, 0, false, []⟩]))))
def L103x0 : C := B103x0
theorem evL103x0 (run : Run) (draw : List I → Env → Heap → Option (Env × Heap)) (e : Env) (h : Heap) : evC run draw L103x0 e h = evC run draw B103x0 e h := rfl
/-- loop.example/tablehouse/laws.eqValueS -/
def F103 : F := ⟨27, [(false, 4, 0, false)],
   .seq (.seg false [⟨some 4, none, .mov (.k (.bool false)), 0, 0, false, []⟩])
   (.seq (.seq (.seg false [⟨some 6, none, .mov (.t 0), 0, 0, false, []⟩,
    ⟨some 7, none, .len false (.t 6), 0, 0, false, []⟩,
    ⟨some 8, none, .mov (.t 1), 0, 0, false, []⟩,
    ⟨some 9, none, .len false (.t 8), 0, 0, false, []⟩,
    ⟨some 10, none, .bin .neq (.t 7) (.t 9), 0, 0, false, []⟩])
   (.cutTo [0, 1, 10] (.cond (.t 10) (.seq (.seg false [⟨some 4, none, .mov (.k (.bool false)), 0, 0, false, []⟩])
   (.ret))
   (.skip))))
   (.cutTo [0, 1] (.seq (.seq (.seg false [⟨some 5, none, .mov (.k (.int .i64 0)), 0, 0, false, []⟩])
   (.block 0 (.loop [0, 1, 5] [4] L103x0)))
   (.seq (.seg false [⟨some 4, none, .mov (.k (.bool true)), 0, 0, false, []⟩])
   (.ret)))))⟩
def B107x0 : C := .seq (.seq (.seg false [⟨some 15, none, .mov (.t 8), 0, 0, false, []⟩,
    ⟨some 16, none, .bin .gtr (.t 15) (.k (.int .i64 0)), 0, 0, false, []⟩])
   (.cond (.t 16) (.skip)
   (.exit 0)))
   (.seq (.block 1 (.seq (.seq (.seg false [⟨some 20, none, .mov (.t 6), 0, 0, false, []⟩,
    ⟨some 21, none, .mov (.t 0), 0, 0, false, []⟩,
    ⟨some 22, none, .call 166 [.t 21, .k (.int .i64 0)] true false, 0, 0, false, []⟩,
    ⟨some 23, none, .mov (.t 7), 0, 0, false, []⟩,
    ⟨some 24, none, .call 165 [.t 20, .t 22, .t 23] false false, 0, 0, false, []⟩,
    ⟨some 19, none, .mov (.t 24), 0, 0, false, []⟩,
    ⟨some 25, none, .ext (.t 19) 0, 0, 0, false, []⟩,
    ⟨some 26, none, .ext (.t 19) 1, 0, 0, false, []⟩,
    ⟨some 9, none, .mov (.t 25), 0, 0, false, []⟩,
    ⟨some 10, none, .mov (.t 26), 0, 0, false, []⟩])
   (.cutTo [0, 1, 6, 7, 8, 9, 10] (.seq (.seg false [⟨some 27, none, .mov (.t 10), 0, 0, false, []⟩])
   (.cond (.t 27) (.seg false [⟨some 28, none, .mov (.t 9), 0, 0, false, []⟩,
    ⟨some 6, none, .mov (.t 28), 0, 0, false, []⟩])
   (.skip)))))
   (.cutTo [0, 1, 6, 7, 8] (.seg false [⟨some 29, none, .mov (.t 7), 0, 0, false, []⟩,
    ⟨some 30, none, .bin .add (.t 29) (.k (.int .i64 1)), 0, 0, false, []⟩,
    ⟨some 31, none, .mov (.t 0), 0, 0, false, []⟩,
    ⟨some 32, none, .call 104 [.t 31, .k (.int .i64 2)] true false, 0, 0, false, []⟩,
    ⟨some 33, none, .bin .add (.t 30) (.t 32), 0, 0, false, []⟩,
    ⟨some 7, none, .mov (.t 33), 0, 0, false, []⟩]))))
   (.cutTo [0, 1, 6, 7, 8] (.seg false [⟨some 17, none, .mov (.t 8), 0, 0, false, []⟩,
    ⟨some 18, none, .bin .sub (.t 17) (.k (.int .i64 1)), 0, 0, false, []⟩,
    ⟨some 8, none, .mov (.t 18), 0, 0, false, []⟩])))
def L107x0 : C := B107x0
theorem evL107x0 (run : Run) (draw : List I → Env → Heap → Option (Env × Heap)) (e : Env) (h : Heap) : evC run draw L107x0 e h = evC run draw B107x0 e h := rfl
/-- loop.example/tablehouse/spec.l20Versions -/
def F107 : F := ⟨84, [(false, 4, 0, false), (false, 5, 0, false)],
   .seq (.seg false [⟨some 4, none, .nilrow 4, 0, 0, false, []⟩,
    ⟨some 5, none, .mov (.k (.int .i64 0)), 0, 0, false, []⟩])
   (.seq (.seg false [⟨some 12, none, .mksl true 4 [], 0, 0, false, []⟩,
    ⟨some 6, none, .mov (.t 12), 0, 0, false, []⟩])
   (.seq (.seg false [⟨some 7, none, .mov (.k (.int .i64 1)), 0, 0, false, []⟩])
   (.seq (.seq (.seg false [⟨some 13, none, .mov (.t 0), 0, 0, false, []⟩,
    ⟨some 14, none, .call 104 [.t 13, .k (.int .i64 7)] true false, 0, 0, false, []⟩,
    ⟨some 8, none, .mov (.t 14), 0, 0, false, []⟩])
   (.block 0 (.loop [0, 1, 6, 7, 8] [0, 1, 6, 7] L107x0)))
   (.seq (.seq (.seg false [⟨some 34, none, .mov (.t 6), 0, 0, false, []⟩,
    ⟨some 35, none, .len false (.t 34), 0, 0, false, []⟩,
    ⟨some 36, none, .bin .gtr (.t 35) (.k (.int .i64 0)), 0, 0, false, []⟩,
    ⟨some 37, none, .mov (.t 36), 0, 0, false, []⟩,
    ⟨some 38, some (37, true), .mov (.t 0), 0, 0, false, []⟩,
    ⟨some 39, some (37, true), .mov (.t 1), 0, 0, false, []⟩,
    ⟨some 40, some (37, true), .call 155 [.t 38, .t 39] true false, 0, 0, false, []⟩,
    ⟨some 41, none, .pick (.t 37) (.t 40) (.k (.bool false)), 0, 0, false, []⟩])
   (.cutTo [0, 6, 7, 41] (.cond (.t 41) (.seq (.seg false [⟨some 42, none, .mov (.t 0), 0, 0, false, []⟩,
    ⟨some 43, none, .mov (.t 6), 0, 0, false, []⟩,
    ⟨some 44, none, .len false (.t 43), 0, 0, false, []⟩,
    ⟨some 45, none, .call 104 [.t 42, .t 44] true false, 0, 0, false, []⟩,
    ⟨some 11, none, .mov (.t 45), 0, 0, false, []⟩])
   (.cutTo [0, 6, 7, 11] (.seq (.seg false [⟨some 46, none, .mov (.t 0), 0, 0, false, []⟩,
    ⟨some 47, none, .call 104 [.t 46, .k (.int .i64 4)] true false, 0, 0, false, []⟩])
   (.block 2 (.seq (.seg false [⟨some 56, none, .bin .eql (.t 47) (.k (.int .i64 0)), 0, 0, false, []⟩,
    ⟨some 55, none, .mov (.t 56), 0, 0, false, []⟩])
   (.cond (.t 55) (.seg false [⟨some 57, none, .mov (.t 6), 0, 0, false, []⟩,
    ⟨some 58, none, .mov (.t 11), 0, 0, false, []⟩,
    ⟨some 59, none, .mov (.t 0), 0, 0, false, []⟩,
    ⟨some 60, none, .call 104 [.t 59, .k (.int .i64 9)] true false, 0, 0, false, []⟩,
    ⟨some 61, none, .bin .sub (.t 60) (.k (.int .i64 1)), 0, 0, false, []⟩,
    ⟨some 62, none, .iaddr 4 (.t 57) (.t 58), 0, 0, false, []⟩,
    ⟨some 63, none, .faddr 2 1 (.t 62), 0, 0, false, []⟩,
    ⟨none, none, .store 1 (.t 63) (.t 61), 0, 0, false, []⟩])
   (.seq (.seg false [⟨some 65, none, .bin .eql (.t 47) (.k (.int .i64 1)), 0, 0, false, []⟩,
    ⟨some 64, none, .mov (.t 65), 0, 0, false, []⟩])
   (.cond (.t 64) (.seg false [⟨some 66, none, .mov (.t 6), 0, 0, false, []⟩,
    ⟨some 67, none, .mov (.t 11), 0, 0, false, []⟩,
    ⟨some 68, none, .mov (.t 0), 0, 0, false, []⟩,
    ⟨some 69, none, .call 104 [.t 68, .k (.int .i64 8)] true false, 0, 0, false, []⟩,
    ⟨some 70, none, .bin .sub (.t 69) (.k (.int .i64 1)), 0, 0, false, []⟩,
    ⟨some 71, none, .iaddr 4 (.t 66) (.t 67), 0, 0, false, []⟩,
    ⟨some 72, none, .faddr 0 1 (.t 71), 0, 0, false, []⟩,
    ⟨none, none, .store 1 (.t 72) (.t 70), 0, 0, false, []⟩])
   (.seq (.seg false [⟨some 74, none, .bin .eql (.t 47) (.k (.int .i64 2)), 0, 0, false, []⟩,
    ⟨some 73, none, .mov (.t 74), 0, 0, false, []⟩])
   (.cond (.t 73) (.seg false [⟨some 75, none, .mov (.t 6), 0, 0, false, []⟩,
    ⟨some 76, none, .mov (.t 11), 0, 0, false, []⟩,
    ⟨some 77, none, .mov (.t 0), 0, 0, false, []⟩,
    ⟨some 78, none, .call 104 [.t 77, .k (.int .i64 50)] true false, 0, 0, false, []⟩,
    ⟨some 79, none, .bin .sub (.t 78) (.k (.int .i64 1)), 0, 0, false, []⟩,
    ⟨some 80, none, .iaddr 4 (.t 75) (.t 76), 0, 0, false, []⟩,
    ⟨some 81, none, .faddr 1 1 (.t 80), 0, 0, false, []⟩,
    ⟨none, none, .store 1 (.t 81) (.t 79), 0, 0, false, []⟩])
   (.seg false [⟨some 48, none, .mov (.t 6), 0, 0, false, []⟩,
    ⟨some 49, none, .mov (.t 6), 0, 0, false, []⟩,
    ⟨some 50, none, .mov (.t 11), 0, 0, false, []⟩,
    ⟨some 51, none, .iaddr 4 (.t 49) (.t 50), 0, 0, false, []⟩,
    ⟨some 52, none, .load true 4 (.t 51), 0, 0, false, []⟩,
    ⟨some 53, none, .mksl false 4 [.t 52], 0, 0, false, []⟩,
    ⟨some 54, none, .app 4 (.t 48) (.t 53), 0, 0, false, []⟩,
    ⟨some 6, none, .mov (.t 54), 0, 0, false, []⟩])))))))))))
   (.skip))))
   (.cutTo [6, 7] (.seq (.seg false [⟨some 82, none, .mov (.t 6), 0, 0, false, []⟩,
    ⟨some 83, none, .mov (.t 7), 0, 0, false, []⟩,
    ⟨some 4, none, .mov (.t 82), 0, 0, false, []⟩,
    ⟨some 5, none, .mov (.t 83), 0, 0, false, []⟩])
   (.cutTo [4, 5] (.ret))))))))⟩
def B108x0 : C := .seq (.seg false [⟨some 13, none, .bin .lss (.t 12) (.t 11), 0, 0, false, []⟩])
   (.seq (.cond (.t 13) (.skip)
   (.exit 0))
   (.seq (.block 1 (.seq (.seg false [⟨some 14, none, .iaddr 4 (.t 10) (.t 12), 0, 0, false, []⟩,
    ⟨some 15, none, .load true 4 (.t 14), 0, 0, false, []⟩,
    ⟨some 9, none, .alloc [.int .i64 0, .int .i64 0, .int .i64 0, .sl true 3 []], 0, 0, false, []⟩,
    ⟨none, none, .store 4 (.t 9) (.t 15), 0, 0, false, []⟩])
   (.cutTo [1, 2, 6, 9, 10, 11, 12] (.seq (.seg false [⟨some 16, none, .faddr 0 1 (.t 9), 0, 0, false, []⟩,
    ⟨some 17, none, .load false 1 (.t 16), 0, 0, false, []⟩,
    ⟨some 18, none, .mov (.t 1), 0, 0, false, []⟩,
    ⟨some 19, none, .bin .eql (.t 17) (.t 18), 0, 0, false, []⟩,
    ⟨some 20, none, .mov (.t 19), 0, 0, false, []⟩,
    ⟨some 21, some (20, true), .faddr 1 1 (.t 9), 0, 0, false, []⟩,
    ⟨some 22, some (20, true), .load false 1 (.t 21), 0, 0, false, []⟩,
    ⟨some 23, some (20, true), .mov (.t 2), 0, 0, false, []⟩,
    ⟨some 24, some (20, true), .bin .leq (.t 22) (.t 23), 0, 0, false, []⟩,
    ⟨some 25, none, .pick (.t 20) (.t 24) (.k (.bool false)), 0, 0, false, []⟩,
    ⟨some 26, none, .mov (.t 25), 0, 0, false, []⟩,
    ⟨some 27, some (26, true), .faddr 2 1 (.t 9), 0, 0, false, []⟩,
    ⟨some 28, some (26, true), .load false 1 (.t 27), 0, 0, false, []⟩,
    ⟨some 29, some (26, true), .bin .eql (.t 28) (.k (.int .i64 0)), 0, 0, false, []⟩,
    ⟨some 30, some (26, true), .mov (.t 29), 0, 0, false, []⟩,
    ⟨some 31, some (30, false), .faddr 2 1 (.t 9), 0, 0, false, []⟩,
    ⟨some 32, some (30, false), .load false 1 (.t 31), 0, 0, false, []⟩,
    ⟨some 33, some (30, false), .mov (.t 2), 0, 0, false, []⟩,
    ⟨some 34, some (30, false), .bin .gtr (.t 32) (.t 33), 0, 0, false, []⟩,
    ⟨some 35, some (26, true), .pick (.t 30) (.k (.bool true)) (.t 34), 0, 0, false, []⟩,
    ⟨some 36, none, .pick (.t 26) (.t 35) (.k (.bool false)), 0, 0, false, []⟩])
   (.cutTo [1, 2, 6, 9, 10, 11, 12, 36] (.cond (.t 36) (.seq (.seg false [⟨some 37, none, .load true 4 (.t 9), 0, 0, false, []⟩,
    ⟨none, none, .store 4 (.t 6) (.t 37), 0, 0, false, []⟩,
    ⟨some 7, none, .mov (.k (.bool true)), 0, 0, false, []⟩])
   (.ret))
   (.skip)))))))
   (.cutTo [1, 2, 6, 10, 11, 12] (.seg false [⟨some 38, none, .bin .add (.t 12) (.k (.int .i64 1)), 0, 0, false, []⟩,
    ⟨some 12, none, .mov (.t 38), 0, 0, false, []⟩]))))
def L108x0 : C := B108x0
theorem evL108x0 (run : Run) (draw : List I → Env → Heap → Option (Env × Heap)) (e : Env) (h : Heap) : evC run draw L108x0 e h = evC run draw B108x0 e h := rfl
/-- loop.example/tablehouse/impl.seen -/
def F108 : F := ⟨40, [(true, 6, 4, true), (false, 7, 0, false)],
   .seq (.seg false [⟨some 6, none, .alloc [.int .i64 0, .int .i64 0, .int .i64 0, .sl true 3 []], 0, 0, false, []⟩,
    ⟨some 7, none, .mov (.k (.bool false)), 0, 0, false, []⟩])
   (.seq (.seq (.seg false [⟨some 10, none, .mov (.t 0), 0, 0, false, []⟩,
    ⟨some 11, none, .len false (.t 10), 0, 0, false, []⟩,
    ⟨some 12, none, .mov (.k (.int .i64 0)), 0, 0, false, []⟩])
   (.block 0 (.loop [1, 2, 6, 10, 11, 12] [6, 7] L108x0)))
   (.seq (.seg false [⟨some 39, none, .build [.int .i64 0, .int .i64 0, .int .i64 0, .sl true 3 []] [], 0, 0, false, []⟩,
    ⟨none, none, .store 4 (.t 6) (.t 39), 0, 0, false, []⟩,
    ⟨some 7, none, .mov (.k (.bool false)), 0, 0, false, []⟩])
   (.ret)))⟩
def B109x0 : C := .seq (.seg false [⟨some 9, none, .bin .lss (.t 8) (.t 7), 0, 0, false, []⟩])
   (.seq (.cond (.t 9) (.skip)
   (.exit 0))
   (.seq (.block 1 (.seq (.seg false [⟨some 10, none, .iaddr 1 (.t 6) (.t 8), 0, 0, false, []⟩,
    ⟨some 11, none, .load false 1 (.t 10), 0, 0, false, []⟩,
    ⟨some 5, none, .mov (.t 11), 0, 0, false, []⟩])
   (.seg false [⟨some 12, none, .mov (.t 3), 0, 0, false, []⟩,
    ⟨some 13, none, .mov (.t 5), 0, 0, false, []⟩,
    ⟨some 14, none, .call 112 [.t 13] false false, 0, 0, false, []⟩,
    ⟨some 15, none, .mksl false 1 [.t 14], 0, 0, false, []⟩,
    ⟨some 16, none, .app 1 (.t 12) (.t 15), 0, 0, false, []⟩,
    ⟨some 3, none, .mov (.t 16), 0, 0, false, []⟩])))
   (.cutTo [3, 6, 7, 8] (.seg false [⟨some 17, none, .bin .add (.t 8) (.k (.int .i64 1)), 0, 0, false, []⟩,
    ⟨some 8, none, .mov (.t 17), 0, 0, false, []⟩]))))
def L109x0 : C := B109x0
theorem evL109x0 (run : Run) (draw : List I → Env → Heap → Option (Env × Heap)) (e : Env) (h : Heap) : evC run draw L109x0 e h = evC run draw B109x0 e h := rfl
/-- loop.example/tablehouse/impl.rowsCopy -/
def F109 : F := ⟨20, [(false, 2, 0, false)],
   .seq (.seg false [⟨some 2, none, .mov (.k (.sl true 1 [])), 0, 0, false, []⟩])
   (.seq (.seg false [⟨some 3, none, .nilrow 1, 0, 0, false, []⟩])
   (.seq (.seq (.seg false [⟨some 6, none, .mov (.t 0), 0, 0, false, []⟩,
    ⟨some 7, none, .len false (.t 6), 0, 0, false, []⟩,
    ⟨some 8, none, .mov (.k (.int .i64 0)), 0, 0, false, []⟩])
   (.block 0 (.loop [3, 6, 7, 8] [3] L109x0)))
   (.seq (.seg false [⟨some 18, none, .mov (.t 3), 0, 0, false, []⟩,
    ⟨some 19, none, .call 167 [.t 18] false false, 0, 0, false, []⟩,
    ⟨some 2, none, .mov (.t 19), 0, 0, false, []⟩])
   (.ret))))⟩
def B111x0 : C := .seq (.seq (.seg false [⟨some 9, none, .mov (.t 8), 0, 0, false, []⟩,
    ⟨some 10, none, .mov (.t 0), 0, 0, false, []⟩,
    ⟨some 11, none, .len false (.t 10), 0, 0, false, []⟩,
    ⟨some 12, none, .bin .lss (.t 9) (.t 11), 0, 0, false, []⟩,
    ⟨some 13, none, .mov (.t 12), 0, 0, false, []⟩,
    ⟨some 14, some (13, true), .mov (.t 0), 0, 0, false, []⟩,
    ⟨some 15, some (13, true), .call 114 [.t 14] false false, 0, 0, false, []⟩,
    ⟨some 16, none, .pick (.t 13) (.t 15) (.k (.bool false)), 0, 0, false, []⟩])
   (.cutTo [0, 1, 2, 8, 16] (.cond (.t 16) (.skip)
   (.exit 0))))
   (.cutTo [0, 1, 2, 8] (.seq (.block 1 (.seq (.seg false [⟨some 19, none, .mov (.t 0), 0, 0, false, []⟩,
    ⟨some 20, none, .mov (.t 8), 0, 0, false, []⟩,
    ⟨some 21, none, .iaddr 4 (.t 19) (.t 20), 0, 0, false, []⟩,
    ⟨some 22, none, .faddr 0 1 (.t 21), 0, 0, false, []⟩,
    ⟨some 23, none, .load false 1 (.t 22), 0, 0, false, []⟩,
    ⟨some 24, none, .mov (.t 1), 0, 0, false, []⟩,
    ⟨some 25, none, .bin .eql (.t 23) (.t 24), 0, 0, false, []⟩,
    ⟨some 26, none, .mov (.t 25), 0, 0, false, []⟩,
    ⟨some 27, some (26, true), .mov (.t 0), 0, 0, false, []⟩,
    ⟨some 28, some (26, true), .mov (.t 8), 0, 0, false, []⟩,
    ⟨some 29, some (26, true), .iaddr 4 (.t 27) (.t 28), 0, 0, false, []⟩,
    ⟨some 30, some (26, true), .load true 4 (.t 29), 0, 0, false, []⟩,
    ⟨some 31, some (26, true), .mov (.t 2), 0, 0, false, []⟩,
    ⟨some 32, some (26, true), .call 168 [.t 30, .t 31] false false, 0, 0, false, []⟩,
    ⟨some 33, none, .pick (.t 26) (.t 32) (.k (.bool false)), 0, 0, false, []⟩])
   (.cutTo [0, 1, 2, 8, 33] (.cond (.t 33) (.seq (.seg false [⟨some 34, none, .mov (.t 0), 0, 0, false, []⟩,
    ⟨some 35, none, .mov (.t 8), 0, 0, false, []⟩,
    ⟨some 36, none, .iaddr 4 (.t 34) (.t 35), 0, 0, false, []⟩,
    ⟨some 37, none, .faddr 3 1 (.t 36), 0, 0, false, []⟩,
    ⟨some 38, none, .load false 1 (.t 37), 0, 0, false, []⟩,
    ⟨some 39, none, .call 126 [.t 38] false false, 0, 0, false, []⟩,
    ⟨some 6, none, .mov (.t 39), 0, 0, false, []⟩,
    ⟨some 7, none, .mov (.k (.bool true)), 0, 0, false, []⟩])
   (.cutTo [6, 7] (.ret)))
   (.skip)))))
   (.cutTo [0, 1, 2, 8] (.seg false [⟨some 17, none, .mov (.t 8), 0, 0, false, []⟩,
    ⟨some 18, none, .bin .add (.t 17) (.k (.int .i64 1)), 0, 0, false, []⟩,
    ⟨some 8, none, .mov (.t 18), 0, 0, false, []⟩]))))
def L111x0 : C := B111x0
theorem evL111x0 (run : Run) (draw : List I → Env → Heap → Option (Env × Heap)) (e : Env) (h : Heap) : evC run draw L111x0 e h = evC run draw B111x0 e h := rfl
/-- loop.example/tablehouse/spec.SeenAt -/
def F111 : F := ⟨41, [(false, 6, 0, false), (false, 7, 0, false)],
   .seq (.seg false [⟨some 6, none, .mov (.k (.sl true 3 [])), 0, 0, false, []⟩,
    ⟨some 7, none, .mov (.k (.bool false)), 0, 0, false, []⟩])
   (.seq (.seq (.seg false [⟨some 8, none, .mov (.k (.int .i64 0)), 0, 0, false, []⟩])
   (.block 0 (.loop [0, 1, 2, 8] [6, 7] L111x0)))
   (.seq (.seg false [⟨some 40, none, .mksl false 3 [], 0, 0, false, []⟩,
    ⟨some 6, none, .mov (.t 40), 0, 0, false, []⟩,
    ⟨some 7, none, .mov (.k (.bool false)), 0, 0, false, []⟩])
   (.ret)))⟩
def E110x0 : List I := [⟨some 17, none, .mov (.t 0), 0, 0, false, []⟩,
    ⟨some 18, none, .mov (.t 5), 0, 0, false, []⟩,
    ⟨some 19, none, .iaddr 3 (.t 17) (.t 18), 0, 0, false, []⟩,
    ⟨some 20, none, .load true 3 (.t 19), 0, 0, false, []⟩,
    ⟨some 21, none, .mov (.t 1), 0, 0, false, []⟩,
    ⟨some 22, none, .mov (.t 5), 0, 0, false, []⟩,
    ⟨some 23, none, .iaddr 3 (.t 21) (.t 22), 0, 0, false, []⟩,
    ⟨some 24, none, .load true 3 (.t 23), 0, 0, false, []⟩,
    ⟨some 25, none, .eqs true [.int, .int, .str] (.t 20) (.t 24), 0, 0, false, []⟩]
def D110x0 : List I := E110x0
theorem evD110x0 (run : Run) (e : Env) (h : Heap) : drawI run D110x0 e h = DrawS (evQ run E110x0 e h) run E110x0 e h := drawI_quiet run _ (by rfl) e h
def B110x0 : C := .seq (.seq (.seg false [⟨some 11, none, .mov (.t 5), 0, 0, false, []⟩,
    ⟨some 12, none, .mov (.t 0), 0, 0, false, []⟩,
    ⟨some 13, none, .len false (.t 12), 0, 0, false, []⟩,
    ⟨some 14, none, .bin .lss (.t 11) (.t 13), 0, 0, false, []⟩])
   (.cutTo [0, 1, 5, 14] (.cond (.t 14) (.skip)
   (.exit 0))))
   (.cutTo [0, 1, 5] (.seq (.block 1 (.seq (.seg true D110x0)
   (.cutTo [0, 1, 5, 25] (.cond (.t 25) (.seq (.seg false [⟨some 4, none, .mov (.k (.bool false)), 0, 0, false, []⟩])
   (.ret))
   (.skip)))))
   (.cutTo [0, 1, 5] (.seg false [⟨some 15, none, .mov (.t 5), 0, 0, false, []⟩,
    ⟨some 16, none, .bin .add (.t 15) (.k (.int .i64 1)), 0, 0, false, []⟩,
    ⟨some 5, none, .mov (.t 16), 0, 0, false, []⟩]))))
def L110x0 : C := B110x0
theorem evL110x0 (run : Run) (draw : List I → Env → Heap → Option (Env × Heap)) (e : Env) (h : Heap) : evC run draw L110x0 e h = evC run draw B110x0 e h := rfl
/-- loop.example/tablehouse/laws.sameRow -/
def F110 : F := ⟨26, [(false, 4, 0, false)],
   .seq (.seg false [⟨some 4, none, .mov (.k (.bool false)), 0, 0, false, []⟩])
   (.seq (.seq (.seg false [⟨some 6, none, .mov (.t 0), 0, 0, false, []⟩,
    ⟨some 7, none, .len false (.t 6), 0, 0, false, []⟩,
    ⟨some 8, none, .mov (.t 1), 0, 0, false, []⟩,
    ⟨some 9, none, .len false (.t 8), 0, 0, false, []⟩,
    ⟨some 10, none, .bin .neq (.t 7) (.t 9), 0, 0, false, []⟩])
   (.cutTo [0, 1, 10] (.cond (.t 10) (.seq (.seg false [⟨some 4, none, .mov (.k (.bool false)), 0, 0, false, []⟩])
   (.ret))
   (.skip))))
   (.cutTo [0, 1] (.seq (.seq (.seg false [⟨some 5, none, .mov (.k (.int .i64 0)), 0, 0, false, []⟩])
   (.block 0 (.loop [0, 1, 5] [4] L110x0)))
   (.seq (.seg false [⟨some 4, none, .mov (.k (.bool true)), 0, 0, false, []⟩])
   (.ret)))))⟩
/-- loop.example/tablehouse/impl.clone<loop.example/tablehouse/impl.Value> -/
def F112 : F := ⟨9, [(false, 2, 0, false)],
   .seq (.seg false [⟨some 2, none, .mov (.k (.sl true 3 [])), 0, 0, false, []⟩])
   (.seq (.seq (.seg false [⟨some 3, none, .mov (.t 0), 0, 0, false, []⟩,
    ⟨some 4, none, .len false (.t 3), 0, 0, false, []⟩,
    ⟨some 5, none, .bin .eql (.t 4) (.k (.int .i64 0)), 0, 0, false, []⟩])
   (.cond (.t 5) (.seq (.seg false [⟨some 2, none, .mov (.k (.sl true 3 [])), 0, 0, false, []⟩])
   (.ret))
   (.skip)))
   (.cutTo [0] (.seq (.seg false [⟨some 6, none, .mov (.t 0), 0, 0, false, []⟩,
    ⟨some 7, none, .app 3 (.k (.sl true 3 [])) (.t 6), 0, 0, false, []⟩,
    ⟨some 8, none, .call 169 [.t 7] false false, 0, 0, false, []⟩,
    ⟨some 2, none, .mov (.t 8), 0, 0, false, []⟩])
   (.cutTo [2] (.ret)))))⟩
/-- slices.Clone<<>loop.example/tablehouse/impl.Version,loop.example/tablehouse/impl.Version> -/
def F124 : F := ⟨8, [(false, 2, 0, false)],
   .seq (.seg false [⟨some 2, none, .nilrow 4, 0, 0, false, []⟩])
   (.seq (.seq (.seg false [⟨some 3, none, .mov (.t 0), 0, 0, false, []⟩,
    ⟨some 4, none, .bad, 0, 0, false, []⟩])
   (.cond (.t 4) (.seq (.seg false [⟨some 2, none, .nilrow 4, 0, 0, false, []⟩])
   (.ret))
   (.skip)))
   (.seq (.seg false [⟨some 5, none, .mksl true 4 [], 0, 0, false, []⟩,
    ⟨some 6, none, .mov (.t 0), 0, 0, false, []⟩,
    ⟨some 7, none, .app 4 (.t 5) (.t 6), 0, 0, false, []⟩,
    ⟨some 2, none, .mov (.t 7), 0, 0, false, []⟩])
   (.cutTo [2] (.ret))))⟩
/-- loop.example/tablehouse/impl.SweptAt$1 -/
def F125 : F := ⟨13, [(false, 3, 0, false)],
   .seq (.seg false [⟨some 2, none, .box (.t 0), 0, 0, false, []⟩,
    ⟨some 3, none, .mov (.k (.bool false)), 0, 0, false, []⟩])
   (.seq (.seg false [⟨some 4, none, .faddr 2 1 (.t 2), 0, 0, false, []⟩,
    ⟨some 5, none, .load false 1 (.t 4), 0, 0, false, []⟩,
    ⟨some 6, none, .bin .neq (.t 5) (.k (.int .i64 0)), 0, 0, false, []⟩,
    ⟨some 7, none, .mov (.t 6), 0, 0, false, []⟩,
    ⟨some 8, some (7, true), .faddr 2 1 (.t 2), 0, 0, false, []⟩,
    ⟨some 9, some (7, true), .load false 1 (.t 8), 0, 0, false, []⟩,
    ⟨some 10, some (7, true), .load false 1 (.t 1), 0, 0, false, []⟩,
    ⟨some 11, some (7, true), .bin .leq (.t 9) (.t 10), 0, 0, false, []⟩,
    ⟨some 12, none, .pick (.t 7) (.t 11) (.k (.bool false)), 0, 0, false, []⟩,
    ⟨some 3, none, .mov (.t 12), 0, 0, false, []⟩])
   (.cutTo [3] (.ret)))⟩
def B123x0 : C := .seq (.seq (.seg false [⟨some 16, none, .mov (.t 6), 0, 0, false, []⟩,
    ⟨some 17, none, .mov (.t 0), 0, 0, false, []⟩,
    ⟨some 18, none, .len false (.t 17), 0, 0, false, []⟩,
    ⟨some 19, none, .bin .lss (.t 16) (.t 18), 0, 0, false, []⟩])
   (.cutTo [0, 1, 5, 6, 19] (.cond (.t 19) (.skip)
   (.exit 0))))
   (.cutTo [0, 1, 5, 6] (.seq (.block 1 (.seq (.seg false [⟨some 22, none, .mov (.t 0), 0, 0, false, []⟩,
    ⟨some 23, none, .mov (.t 6), 0, 0, false, []⟩,
    ⟨some 24, none, .iaddr 4 (.t 22) (.t 23), 0, 0, false, []⟩,
    ⟨some 25, none, .load true 4 (.t 24), 0, 0, false, []⟩,
    ⟨some 7, none, .alloc [.int .i64 0, .int .i64 0, .int .i64 0, .sl true 3 []], 0, 0, false, []⟩,
    ⟨none, none, .store 4 (.t 7) (.t 25), 0, 0, false, []⟩])
   (.cutTo [0, 1, 5, 6, 7] (.seq (.seg false [⟨some 26, none, .mov (.t 1), 0, 0, false, []⟩,
    ⟨some 27, none, .load true 4 (.t 7), 0, 0, false, []⟩,
    ⟨some 28, none, .callv (.t 26) [.t 27] false, 0, 0, false, []⟩,
    ⟨some 29, none, .un .not (.t 28), 0, 0, false, []⟩])
   (.cutTo [0, 1, 5, 6, 7, 29] (.cond (.t 29) (.seq (.seg false [⟨some 30, none, .mov (.t 0), 0, 0, false, []⟩,
    ⟨some 31, none, .mov (.t 5), 0, 0, false, []⟩,
    ⟨some 32, none, .load true 4 (.t 7), 0, 0, false, []⟩,
    ⟨some 33, none, .iaddr 4 (.t 30) (.t 31), 0, 0, false, []⟩,
    ⟨none, none, .store 4 (.t 33) (.t 32), 0, 0, false, []⟩])
   (.cutTo [0, 1, 5, 6] (.seg false [⟨some 34, none, .mov (.t 5), 0, 0, false, []⟩,
    ⟨some 35, none, .bin .add (.t 34) (.k (.int .i64 1)), 0, 0, false, []⟩,
    ⟨some 5, none, .mov (.t 35), 0, 0, false, []⟩])))
   (.skip)))))))
   (.cutTo [0, 1, 5, 6] (.seg false [⟨some 20, none, .mov (.t 6), 0, 0, false, []⟩,
    ⟨some 21, none, .bin .add (.t 20) (.k (.int .i64 1)), 0, 0, false, []⟩,
    ⟨some 6, none, .mov (.t 21), 0, 0, false, []⟩]))))
def L123x0 : C := B123x0
theorem evL123x0 (run : Run) (draw : List I → Env → Heap → Option (Env × Heap)) (e : Env) (h : Heap) : evC run draw L123x0 e h = evC run draw B123x0 e h := rfl
/-- slices.DeleteFunc<<>loop.example/tablehouse/impl.Version,loop.example/tablehouse/impl.Version> -/
def F123 : F := ⟨42, [(false, 4, 0, false)],
   .seq (.seg false [⟨some 4, none, .mov (.k (.sl true 4 [])), 0, 0, false, []⟩])
   (.seq (.seg false [⟨some 8, none, .mov (.t 0), 0, 0, false, []⟩,
    ⟨some 9, none, .mov (.t 1), 0, 0, false, []⟩,
    ⟨some 10, none, .call 175 [.t 8, .t 9] true false, 0, 0, false, []⟩,
    ⟨some 5, none, .mov (.t 10), 0, 0, false, []⟩])
   (.cutTo [0, 1, 5] (.seq (.seq (.seg false [⟨some 11, none, .mov (.t 5), 0, 0, false, []⟩,
    ⟨some 12, none, .bin .eql (.t 11) (.k (.int .i64 (-1))), 0, 0, false, []⟩])
   (.cond (.t 12) (.seq (.seg false [⟨some 13, none, .mov (.t 0), 0, 0, false, []⟩,
    ⟨some 4, none, .mov (.t 13), 0, 0, false, []⟩])
   (.ret))
   (.skip)))
   (.cutTo [0, 1, 5] (.seq (.seq (.seg false [⟨some 14, none, .mov (.t 5), 0, 0, false, []⟩,
    ⟨some 15, none, .bin .add (.t 14) (.k (.int .i64 1)), 0, 0, false, []⟩,
    ⟨some 6, none, .mov (.t 15), 0, 0, false, []⟩])
   (.block 0 (.loop [0, 1, 5, 6] [0, 5] L123x0)))
   (.seq (.seg false [⟨some 36, none, .mov (.t 0), 0, 0, false, []⟩,
    ⟨some 37, none, .mov (.t 5), 0, 0, false, []⟩,
    ⟨some 38, none, .slc false 4 (.t 36) (some (.t 37)) none none, 0, 0, false, []⟩,
    ⟨none, none, .bad, 0, 0, false, []⟩])
   (.cutTo [0, 5] (.seq (.seg false [⟨some 39, none, .mov (.t 0), 0, 0, false, []⟩,
    ⟨some 40, none, .mov (.t 5), 0, 0, false, []⟩,
    ⟨some 41, none, .slc false 4 (.t 39) none (some (.t 40)) none, 0, 0, false, []⟩,
    ⟨some 4, none, .mov (.t 41), 0, 0, false, []⟩])
   (.cutTo [4] (.ret))))))))))⟩
def B122x0 : C := .seq (.seg false [⟨some 9, none, .bin .lss (.t 8) (.t 7), 0, 0, false, []⟩])
   (.seq (.cond (.t 9) (.skip)
   (.exit 0))
   (.seq (.block 1 (.seq (.seg false [⟨some 10, none, .iaddr 4 (.t 6) (.t 8), 0, 0, false, []⟩,
    ⟨some 11, none, .load true 4 (.t 10), 0, 0, false, []⟩,
    ⟨some 5, none, .alloc [.int .i64 0, .int .i64 0, .int .i64 0, .sl true 3 []], 0, 0, false, []⟩,
    ⟨none, none, .store 4 (.t 5) (.t 11), 0, 0, false, []⟩])
   (.cutTo [3, 5, 6, 7, 8] (.seq (.seg false [⟨some 12, none, .faddr 3 1 (.t 5), 0, 0, false, []⟩,
    ⟨some 13, none, .load false 1 (.t 12), 0, 0, false, []⟩,
    ⟨some 14, none, .call 112 [.t 13] false false, 0, 0, false, []⟩,
    ⟨some 15, none, .faddr 3 1 (.t 5), 0, 0, false, []⟩,
    ⟨none, none, .store 1 (.t 15) (.t 14), 0, 0, false, []⟩])
   (.cutTo [3, 5, 6, 7, 8] (.seg false [⟨some 16, none, .mov (.t 3), 0, 0, false, []⟩,
    ⟨some 17, none, .load true 4 (.t 5), 0, 0, false, []⟩,
    ⟨some 18, none, .mksl false 4 [.t 17], 0, 0, false, []⟩,
    ⟨some 19, none, .app 4 (.t 16) (.t 18), 0, 0, false, []⟩,
    ⟨some 3, none, .mov (.t 19), 0, 0, false, []⟩]))))))
   (.cutTo [3, 6, 7, 8] (.seg false [⟨some 20, none, .bin .add (.t 8) (.k (.int .i64 1)), 0, 0, false, []⟩,
    ⟨some 8, none, .mov (.t 20), 0, 0, false, []⟩]))))
def L122x0 : C := B122x0
theorem evL122x0 (run : Run) (draw : List I → Env → Heap → Option (Env × Heap)) (e : Env) (h : Heap) : evC run draw L122x0 e h = evC run draw B122x0 e h := rfl
/-- loop.example/tablehouse/impl.versionsCopy -/
def F122 : F := ⟨23, [(false, 2, 0, false)],
   .seq (.seg false [⟨some 2, none, .mov (.k (.sl true 4 [])), 0, 0, false, []⟩])
   (.seq (.seg false [⟨some 3, none, .nilrow 4, 0, 0, false, []⟩])
   (.seq (.seq (.seg false [⟨some 6, none, .mov (.t 0), 0, 0, false, []⟩,
    ⟨some 7, none, .len false (.t 6), 0, 0, false, []⟩,
    ⟨some 8, none, .mov (.k (.int .i64 0)), 0, 0, false, []⟩])
   (.block 0 (.loop [3, 6, 7, 8] [3] L122x0)))
   (.seq (.seg false [⟨some 21, none, .mov (.t 3), 0, 0, false, []⟩,
    ⟨some 22, none, .call 174 [.t 21] false false, 0, 0, false, []⟩,
    ⟨some 2, none, .mov (.t 22), 0, 0, false, []⟩])
   (.ret))))⟩
def E114x0 : List I := [⟨some 16, none, .mov (.t 3), 0, 0, false, []⟩,
    ⟨some 17, none, .bin .gtr (.t 16) (.k (.int .i64 0)), 0, 0, false, []⟩,
    ⟨some 18, none, .mov (.t 17), 0, 0, false, []⟩,
    ⟨some 19, some (18, true), .mov (.t 0), 0, 0, false, []⟩,
    ⟨some 20, some (18, true), .mov (.t 3), 0, 0, false, []⟩,
    ⟨some 21, some (18, true), .bin .sub (.t 20) (.k (.int .i64 1)), 0, 0, false, []⟩,
    ⟨some 22, some (18, true), .iaddr 4 (.t 19) (.t 21), 0, 0, false, []⟩,
    ⟨some 23, some (18, true), .faddr 0 1 (.t 22), 0, 0, false, []⟩,
    ⟨some 24, some (18, true), .load false 1 (.t 23), 0, 0, false, []⟩,
    ⟨some 25, some (18, true), .mov (.t 0), 0, 0, false, []⟩,
    ⟨some 26, some (18, true), .mov (.t 3), 0, 0, false, []⟩,
    ⟨some 27, some (18, true), .iaddr 4 (.t 25) (.t 26), 0, 0, false, []⟩,
    ⟨some 28, some (18, true), .faddr 0 1 (.t 27), 0, 0, false, []⟩,
    ⟨some 29, some (18, true), .load false 1 (.t 28), 0, 0, false, []⟩,
    ⟨some 30, some (18, true), .bin .geq (.t 24) (.t 29), 0, 0, false, []⟩,
    ⟨some 31, none, .pick (.t 18) (.t 30) (.k (.bool false)), 0, 0, false, []⟩,
    ⟨some 32, none, .mov (.t 31), 0, 0, false, []⟩,
    ⟨some 33, some (32, true), .mov (.t 0), 0, 0, false, []⟩,
    ⟨some 34, some (32, true), .mov (.t 3), 0, 0, false, []⟩,
    ⟨some 35, some (32, true), .bin .sub (.t 34) (.k (.int .i64 1)), 0, 0, false, []⟩,
    ⟨some 36, some (32, true), .iaddr 4 (.t 33) (.t 35), 0, 0, false, []⟩,
    ⟨some 37, some (32, true), .faddr 0 1 (.t 36), 0, 0, false, []⟩,
    ⟨some 38, some (32, true), .load false 1 (.t 37), 0, 0, false, []⟩,
    ⟨some 39, some (32, true), .mov (.t 0), 0, 0, false, []⟩,
    ⟨some 40, some (32, true), .mov (.t 3), 0, 0, false, []⟩,
    ⟨some 41, some (32, true), .iaddr 4 (.t 39) (.t 40), 0, 0, false, []⟩,
    ⟨some 42, some (32, true), .faddr 0 1 (.t 41), 0, 0, false, []⟩,
    ⟨some 43, some (32, true), .load false 1 (.t 42), 0, 0, false, []⟩,
    ⟨some 44, some (32, true), .bin .gtr (.t 38) (.t 43), 0, 0, false, []⟩,
    ⟨some 45, some (32, true), .mov (.t 44), 0, 0, false, []⟩,
    ⟨some 46, some (45, false), .mov (.t 0), 0, 0, false, []⟩,
    ⟨some 47, some (45, false), .mov (.t 3), 0, 0, false, []⟩,
    ⟨some 48, some (45, false), .bin .sub (.t 47) (.k (.int .i64 1)), 0, 0, false, []⟩,
    ⟨some 49, some (45, false), .iaddr 4 (.t 46) (.t 48), 0, 0, false, []⟩,
    ⟨some 50, some (45, false), .faddr 2 1 (.t 49), 0, 0, false, []⟩,
    ⟨some 51, some (45, false), .load false 1 (.t 50), 0, 0, false, []⟩,
    ⟨some 52, some (45, false), .bin .eql (.t 51) (.k (.int .i64 0)), 0, 0, false, []⟩,
    ⟨some 53, some (32, true), .pick (.t 45) (.k (.bool true)) (.t 52), 0, 0, false, []⟩,
    ⟨some 54, some (32, true), .mov (.t 53), 0, 0, false, []⟩,
    ⟨some 55, some (54, false), .mov (.t 0), 0, 0, false, []⟩,
    ⟨some 56, some (54, false), .mov (.t 3), 0, 0, false, []⟩,
    ⟨some 57, some (54, false), .bin .sub (.t 56) (.k (.int .i64 1)), 0, 0, false, []⟩,
    ⟨some 58, some (54, false), .iaddr 4 (.t 55) (.t 57), 0, 0, false, []⟩,
    ⟨some 59, some (54, false), .faddr 2 1 (.t 58), 0, 0, false, []⟩,
    ⟨some 60, some (54, false), .load false 1 (.t 59), 0, 0, false, []⟩,
    ⟨some 61, some (54, false), .mov (.t 0), 0, 0, false, []⟩,
    ⟨some 62, some (54, false), .mov (.t 3), 0, 0, false, []⟩,
    ⟨some 63, some (54, false), .iaddr 4 (.t 61) (.t 62), 0, 0, false, []⟩,
    ⟨some 64, some (54, false), .faddr 1 1 (.t 63), 0, 0, false, []⟩,
    ⟨some 65, some (54, false), .load false 1 (.t 64), 0, 0, false, []⟩,
    ⟨some 66, some (54, false), .bin .gtr (.t 60) (.t 65), 0, 0, false, []⟩,
    ⟨some 67, some (32, true), .pick (.t 54) (.k (.bool true)) (.t 66), 0, 0, false, []⟩,
    ⟨some 68, none, .pick (.t 32) (.t 67) (.k (.bool false)), 0, 0, false, []⟩]
def D114x0 : List I := E114x0
theorem evD114x0 (run : Run) (e : Env) (h : Heap) : drawI run D114x0 e h = DrawS (evQ run E114x0 e h) run E114x0 e h := drawI_quiet run _ (by rfl) e h
def B114x0 : C := .seq (.seq (.seg false [⟨some 4, none, .mov (.t 3), 0, 0, false, []⟩,
    ⟨some 5, none, .mov (.t 0), 0, 0, false, []⟩,
    ⟨some 6, none, .len false (.t 5), 0, 0, false, []⟩,
    ⟨some 7, none, .bin .lss (.t 4) (.t 6), 0, 0, false, []⟩])
   (.cutTo [0, 3, 7] (.cond (.t 7) (.skip)
   (.exit 0))))
   (.cutTo [0, 3] (.seq (.block 1 (.seq (.seq (.seg false [⟨some 10, none, .mov (.t 0), 0, 0, false, []⟩,
    ⟨some 11, none, .mov (.t 3), 0, 0, false, []⟩,
    ⟨some 12, none, .iaddr 4 (.t 10) (.t 11), 0, 0, false, []⟩,
    ⟨some 13, none, .load true 4 (.t 12), 0, 0, false, []⟩,
    ⟨some 14, none, .call 170 [.t 13] false false, 0, 0, false, []⟩,
    ⟨some 15, none, .un .not (.t 14), 0, 0, false, []⟩])
   (.cutTo [0, 3, 15] (.cond (.t 15) (.seq (.seg false [⟨some 2, none, .mov (.k (.bool false)), 0, 0, false, []⟩])
   (.ret))
   (.skip))))
   (.cutTo [0, 3] (.seq (.seg true D114x0)
   (.cutTo [0, 3, 68] (.cond (.t 68) (.seq (.seg false [⟨some 2, none, .mov (.k (.bool false)), 0, 0, false, []⟩])
   (.ret))
   (.skip)))))))
   (.cutTo [0, 3] (.seg false [⟨some 8, none, .mov (.t 3), 0, 0, false, []⟩,
    ⟨some 9, none, .bin .add (.t 8) (.k (.int .i64 1)), 0, 0, false, []⟩,
    ⟨some 3, none, .mov (.t 9), 0, 0, false, []⟩]))))
def L114x0 : C := B114x0
theorem evL114x0 (run : Run) (draw : List I → Env → Heap → Option (Env × Heap)) (e : Env) (h : Heap) : evC run draw L114x0 e h = evC run draw B114x0 e h := rfl
/-- loop.example/tablehouse/spec.VersionsOk -/
def F114 : F := ⟨72, [(false, 2, 0, false)],
   .seq (.seg false [⟨some 2, none, .mov (.k (.bool false)), 0, 0, false, []⟩])
   (.seq (.seq (.seg false [⟨some 3, none, .mov (.k (.int .i64 0)), 0, 0, false, []⟩])
   (.block 0 (.loop [0, 3] [0, 2] L114x0)))
   (.seq (.seg false [⟨some 69, none, .mov (.t 0), 0, 0, false, []⟩,
    ⟨some 70, none, .len false (.t 69), 0, 0, false, []⟩,
    ⟨some 71, none, .bin .leq (.t 70) (.k (.int .i64 60)), 0, 0, false, []⟩,
    ⟨some 2, none, .mov (.t 71), 0, 0, false, []⟩])
   (.cutTo [2] (.ret))))⟩
/-- loop.example/tablehouse/spec.l3Own -/
def F126 : F := ⟨6, [(false, 2, 0, false)],
   .seq (.seg false [⟨some 2, none, .nilrow 3, 0, 0, false, []⟩])
   (.seq (.seg false [⟨some 3, none, .mksl true 3 [], 0, 0, false, []⟩,
    ⟨some 4, none, .mov (.t 0), 0, 0, false, []⟩,
    ⟨some 5, none, .app 3 (.t 3) (.t 4), 0, 0, false, []⟩,
    ⟨some 2, none, .mov (.t 5), 0, 0, false, []⟩])
   (.cutTo [2] (.ret)))⟩
/-- loop.example/tablehouse/impl.keyOk -/
def F127 : F := ⟨5, [(false, 2, 0, false)],
   .seq (.seg false [⟨some 2, none, .mov (.k (.bool false)), 0, 0, false, []⟩])
   (.seq (.seg false [⟨some 3, none, .mov (.t 0), 0, 0, false, []⟩,
    ⟨some 4, none, .call 82 [.t 3, .k (.int .i64 0), .k (.int .i64 4)] false false, 0, 0, false, []⟩,
    ⟨some 2, none, .mov (.t 4), 0, 0, false, []⟩])
   (.ret))⟩
/-- loop.example/tablehouse/impl.RowOk -/
def F128 : F := ⟨11, [(false, 2, 0, false)],
   .seq (.seg false [⟨some 2, none, .mov (.k (.bool false)), 0, 0, false, []⟩])
   (.seq (.seg false [⟨some 3, none, .mov (.t 0), 0, 0, false, []⟩,
    ⟨some 4, none, .len false (.t 3), 0, 0, false, []⟩,
    ⟨some 5, none, .bin .leq (.t 4) (.k (.int .i64 4)), 0, 0, false, []⟩,
    ⟨some 6, none, .mov (.t 5), 0, 0, false, []⟩,
    ⟨some 7, some (6, true), .mov (.t 0), 0, 0, false, []⟩,
    ⟨some 8, some (6, true), .call 176 [.t 7, .k (.clo 177 [])] true false, 0, 0, false, []⟩,
    ⟨some 9, some (6, true), .un .not (.t 8), 0, 0, false, []⟩,
    ⟨some 10, none, .pick (.t 6) (.t 9) (.k (.bool false)), 0, 0, false, []⟩,
    ⟨some 2, none, .mov (.t 10), 0, 0, false, []⟩])
   (.cutTo [2] (.ret)))⟩
/-- loop.example/tablehouse/spec.l20One -/
def F129 : F := ⟨8, [(false, 2, 0, false)],
   .seq (.seg false [⟨some 2, none, .mov (.k (.sl true 2 [])), 0, 0, false, []⟩])
   (.seq (.seg false [⟨some 3, none, .mov (.t 0), 0, 0, false, []⟩,
    ⟨some 4, none, .call 104 [.t 3, .k (.int .i64 2)] true false, 0, 0, false, []⟩,
    ⟨some 5, none, .bin .eql (.t 4) (.k (.int .i64 0)), 0, 0, false, []⟩,
    ⟨some 6, none, .build [.int .i64 0, .bool false] [(0, 1, .k (.int .i64 1)), (1, 1, .t 5)], 0, 0, false, []⟩,
    ⟨some 7, none, .mksl false 2 [.t 6], 0, 0, false, []⟩,
    ⟨some 2, none, .mov (.t 7), 0, 0, false, []⟩])
   (.cutTo [2] (.ret)))⟩
def E130x0 : List I := [⟨some 15, none, .mov (.t 5), 0, 2, false, [5]⟩,
    ⟨some 16, none, .mksl false 1 [.k (.int .i64 1), .k (.int .i64 1), .k (.int .i64 2), .k (.int .i64 3)], 0, 2, false, []⟩,
    ⟨some 17, none, .mov (.t 0), 0, 0, false, []⟩,
    ⟨some 18, none, .call 104 [.t 17, .k (.int .i64 4)] true false, 0, 0, true, []⟩,
    ⟨some 19, none, .iaddr 1 (.t 16) (.t 18), 1, 2, false, []⟩,
    ⟨some 20, none, .load false 1 (.t 19), 1, 2, false, []⟩,
    ⟨some 21, none, .mov (.t 0), 0, 1, false, []⟩,
    ⟨some 22, none, .call 104 [.t 21, .k (.int .i64 3)] true false, 1, 0, true, []⟩,
    ⟨some 23, none, .bin .gtr (.t 22) (.k (.int .i64 0)), 2, 2, false, []⟩,
    ⟨some 24, none, .build [.int .i64 0, .bool false] [(0, 1, .t 20), (1, 1, .t 23)], 2, 2, false, []⟩,
    ⟨some 25, none, .mksl false 2 [.t 24], 2, 2, false, []⟩,
    ⟨some 26, none, .app 2 (.t 15) (.t 25), 2, 0, true, []⟩,
    ⟨some 5, none, .mov (.t 26), 3, 3, false, []⟩]
def D130x0 : List I := E130x0
theorem evD130x0 (run : Run) (e : Env) (h : Heap) : drawI run D130x0 e h = DrawW (evW run E130x0 e h []) run E130x0 e h := drawI_write run _ e h
def B130x0 : C := .seq (.seq (.seg false [⟨some 11, none, .mov (.t 6), 0, 0, false, []⟩,
    ⟨some 12, none, .bin .gtr (.t 11) (.k (.int .i64 0)), 0, 0, false, []⟩])
   (.cond (.t 12) (.skip)
   (.exit 0)))
   (.seq (.block 1 (.seg true D130x0))
   (.cutTo [0, 1, 5, 6] (.seg false [⟨some 13, none, .mov (.t 6), 0, 0, false, []⟩,
    ⟨some 14, none, .bin .sub (.t 13) (.k (.int .i64 1)), 0, 0, false, []⟩,
    ⟨some 6, none, .mov (.t 14), 0, 0, false, []⟩])))
def L130x0 : C := B130x0
theorem evL130x0 (run : Run) (draw : List I → Env → Heap → Option (Env × Heap)) (e : Env) (h : Heap) : evC run draw L130x0 e h = evC run draw B130x0 e h := rfl
/-- loop.example/tablehouse/spec.l20Columns -/
def F130 : F := ⟨40, [(false, 4, 0, false)],
   .seq (.seg false [⟨some 4, none, .nilrow 2, 0, 0, false, []⟩])
   (.seq (.seg false [⟨some 7, none, .mksl true 2 [], 0, 0, false, []⟩,
    ⟨some 5, none, .mov (.t 7), 0, 0, false, []⟩])
   (.seq (.seq (.seg false [⟨some 8, none, .mov (.t 0), 0, 0, false, []⟩,
    ⟨some 9, none, .call 104 [.t 8, .k (.int .i64 3)] true false, 0, 0, false, []⟩,
    ⟨some 10, none, .bin .add (.k (.int .i64 1)) (.t 9), 0, 0, false, []⟩,
    ⟨some 6, none, .mov (.t 10), 0, 0, false, []⟩])
   (.cutTo [0, 1, 5, 6] (.block 0 (.loop [0, 1, 5, 6] [0, 1, 5] L130x0))))
   (.cutTo [0, 1, 5] (.seq (.seq (.seg false [⟨some 27, none, .mov (.t 0), 0, 0, false, []⟩,
    ⟨some 28, none, .mov (.t 1), 0, 0, false, []⟩,
    ⟨some 29, none, .call 155 [.t 27, .t 28] true false, 0, 0, false, []⟩])
   (.cond (.t 29) (.seg false [⟨some 30, none, .mov (.t 5), 0, 0, false, []⟩,
    ⟨some 31, none, .mov (.t 0), 0, 0, false, []⟩,
    ⟨some 32, none, .call 104 [.t 31, .k (.int .i64 6)] true false, 0, 0, false, []⟩,
    ⟨some 33, none, .bin .sub (.t 32) (.k (.int .i64 1)), 0, 0, false, []⟩,
    ⟨some 34, none, .build [.int .i64 0, .bool false] [(0, 1, .t 33)], 0, 0, false, []⟩,
    ⟨some 35, none, .build [.int .i64 0, .bool false] [(0, 1, .k (.int .i64 1))], 0, 0, false, []⟩,
    ⟨some 36, none, .build [.int .i64 0, .bool false] [(0, 1, .k (.int .i64 1))], 0, 0, false, []⟩,
    ⟨some 37, none, .mksl false 2 [.t 34, .t 35, .t 36], 0, 0, false, []⟩,
    ⟨some 38, none, .app 2 (.t 30) (.t 37), 0, 0, false, []⟩,
    ⟨some 5, none, .mov (.t 38), 0, 0, false, []⟩])
   (.skip)))
   (.cutTo [5] (.seq (.seg false [⟨some 39, none, .mov (.t 5), 0, 0, false, []⟩,
    ⟨some 4, none, .mov (.t 39), 0, 0, false, []⟩])
   (.ret)))))))⟩
/-- loop.example/tablehouse/impl.tableOf -/
def F131 : F := ⟨17, [(true, 4, 2, true), (false, 5, 0, false)],
   .seq (.seg false [⟨some 4, none, .alloc [.sl true 2 [], .sl true 1 []], 0, 0, false, []⟩,
    ⟨some 5, none, .mov (.k (.bool false)), 0, 0, false, []⟩])
   (.seq (.seg false [⟨some 7, none, .mov (.t 0), 0, 0, false, []⟩,
    ⟨some 8, none, .mov (.t 1), 0, 0, false, []⟩,
    ⟨some 9, none, .build [.sl true 2 [], .sl true 1 []] [(0, 1, .t 7), (1, 1, .t 8)], 0, 0, false, []⟩,
    ⟨some 6, none, .alloc [.sl true 2 [], .sl true 1 []], 0, 0, false, []⟩,
    ⟨none, none, .store 2 (.t 6) (.t 9), 0, 0, false, []⟩])
   (.cutTo [4, 6] (.seq (.seq (.seg false [⟨some 10, none, .load true 2 (.t 6), 0, 0, false, []⟩,
    ⟨some 11, none, .mksl false 2 [.t 10], 0, 0, false, []⟩,
    ⟨some 12, none, .call 65 [.t 11] false false, 0, 0, false, []⟩,
    ⟨some 13, none, .un .not (.t 12), 0, 0, false, []⟩])
   (.cutTo [4, 6, 13] (.cond (.t 13) (.seq (.seg false [⟨some 14, none, .build [.sl true 2 [], .sl true 1 []] [], 0, 0, false, []⟩,
    ⟨none, none, .store 2 (.t 4) (.t 14), 0, 0, false, []⟩,
    ⟨some 5, none, .mov (.k (.bool false)), 0, 0, false, []⟩])
   (.ret))
   (.skip))))
   (.cutTo [4, 6] (.seq (.seg false [⟨some 15, none, .load true 2 (.t 6), 0, 0, false, []⟩,
    ⟨some 16, none, .call 178 [.t 15] false false, 0, 0, false, []⟩,
    ⟨none, none, .store 2 (.t 4) (.t 16), 0, 0, false, []⟩,
    ⟨some 5, none, .mov (.k (.bool true)), 0, 0, false, []⟩])
   (.cutTo [4, 5] (.ret)))))))⟩
/-- slices.ContainsFunc<<>loop.example/tablehouse/impl.Table,loop.example/tablehouse/impl.Table> -/
def F132 : F := ⟨9, [(false, 4, 0, false)],
   .seq (.seg false [⟨some 4, none, .mov (.k (.bool false)), 0, 0, false, []⟩])
   (.seq (.seg false [⟨some 5, none, .mov (.t 0), 0, 0, false, []⟩,
    ⟨some 6, none, .mov (.t 1), 0, 0, false, []⟩,
    ⟨some 7, none, .call 179 [.t 5, .t 6] true false, 0, 0, false, []⟩,
    ⟨some 8, none, .bin .geq (.t 7) (.k (.int .i64 0)), 0, 0, false, []⟩,
    ⟨some 4, none, .mov (.t 8), 0, 0, false, []⟩])
   (.cutTo [4] (.ret)))⟩
/-- loop.example/tablehouse/impl.TablesOk$1 -/
def F133 : F := ⟨21, [(false, 2, 0, false)],
   .seq (.seg false [⟨some 1, none, .box (.t 0), 0, 0, false, []⟩,
    ⟨some 2, none, .mov (.k (.bool false)), 0, 0, false, []⟩])
   (.seq (.seg false [⟨some 3, none, .faddr 0 1 (.t 1), 0, 0, false, []⟩,
    ⟨some 4, none, .load false 1 (.t 3), 0, 0, false, []⟩,
    ⟨some 5, none, .call 87 [.t 4] false false, 0, 0, false, []⟩,
    ⟨some 6, none, .un .not (.t 5), 0, 0, false, []⟩,
    ⟨some 7, none, .mov (.t 6), 0, 0, false, []⟩,
    ⟨some 8, some (7, false), .faddr 1 1 (.t 1), 0, 0, false, []⟩,
    ⟨some 9, some (7, false), .load false 1 (.t 8), 0, 0, false, []⟩,
    ⟨some 10, some (7, false), .len false (.t 9), 0, 0, false, []⟩,
    ⟨some 11, some (7, false), .bin .gtr (.t 10) (.k (.int .i64 6)), 0, 0, false, []⟩,
    ⟨some 12, none, .pick (.t 7) (.k (.bool true)) (.t 11), 0, 0, false, []⟩,
    ⟨some 13, none, .mov (.t 12), 0, 0, false, []⟩,
    ⟨some 14, some (13, false), .faddr 0 1 (.t 1), 0, 0, false, []⟩,
    ⟨some 15, some (13, false), .load false 1 (.t 14), 0, 0, false, []⟩,
    ⟨some 16, some (13, false), .faddr 1 1 (.t 1), 0, 0, false, []⟩,
    ⟨some 17, some (13, false), .load false 1 (.t 16), 0, 0, false, []⟩,
    ⟨some 18, some (13, false), .call 30 [.t 15, .t 17] false false, 0, 0, false, []⟩,
    ⟨some 19, some (13, false), .un .not (.t 18), 0, 0, false, []⟩,
    ⟨some 20, none, .pick (.t 13) (.k (.bool true)) (.t 19), 0, 0, false, []⟩,
    ⟨some 2, none, .mov (.t 20), 0, 0, false, []⟩])
   (.cutTo [2] (.ret)))⟩
/-- loop.example/tablehouse/spec.l20Turns -/
def F137 : F := ⟨21, [(false, 4, 0, false), (true, 5, 3, true)],
   .seq (.seg false [⟨some 4, none, .mov (.k (.sl true 2 [])), 0, 0, false, []⟩,
    ⟨some 5, none, .alloc [.int .i64 0, .sl true 3 [], .bool false], 0, 0, false, []⟩])
   (.seq (.seg false [⟨some 7, none, .mov (.t 0), 0, 0, false, []⟩,
    ⟨some 8, none, .mov (.t 1), 0, 0, false, []⟩,
    ⟨some 9, none, .bin .mul (.k (.int .i64 3)) (.t 8), 0, 0, false, []⟩,
    ⟨some 10, none, .call 180 [.t 7, .t 9] true false, 0, 0, false, []⟩,
    ⟨some 6, none, .mov (.t 10), 0, 0, false, []⟩])
   (.cutTo [0, 1, 5, 6] (.seq (.seq (.seg false [⟨some 11, none, .mov (.t 6), 0, 0, false, []⟩,
    ⟨some 12, none, .len false (.t 11), 0, 0, false, []⟩,
    ⟨some 13, none, .bin .eql (.t 12) (.k (.int .i64 0)), 0, 0, false, []⟩])
   (.cond (.t 13) (.seg false [⟨some 14, none, .mov (.t 0), 0, 0, false, []⟩,
    ⟨some 15, none, .call 180 [.t 14, .k (.int .i64 0)] true false, 0, 0, false, []⟩,
    ⟨some 6, none, .mov (.t 15), 0, 0, false, []⟩])
   (.skip)))
   (.cutTo [0, 1, 5, 6] (.seq (.seg false [⟨some 16, none, .mov (.t 6), 0, 0, false, []⟩,
    ⟨some 17, none, .mov (.t 0), 0, 0, false, []⟩,
    ⟨some 18, none, .mov (.t 6), 0, 0, false, []⟩,
    ⟨some 19, none, .mov (.t 1), 0, 0, false, []⟩,
    ⟨some 20, none, .call 181 [.t 17, .t 18, .t 19] true false, 0, 0, false, []⟩,
    ⟨some 4, none, .mov (.t 16), 0, 0, false, []⟩,
    ⟨none, none, .store 3 (.t 5) (.t 20), 0, 0, false, []⟩])
   (.cutTo [4, 5] (.ret)))))))⟩
/-- loop.example/tablehouse/impl.ChangeOk -/
def F138 : F := ⟨51, [(false, 4, 0, false)],
   .seq (.seg false [⟨some 3, none, .box (.t 1), 0, 0, false, []⟩,
    ⟨some 4, none, .mov (.k (.bool false)), 0, 0, false, []⟩])
   (.seq (.seq (.seg false [⟨some 6, none, .mov (.t 0), 0, 0, false, []⟩,
    ⟨some 7, none, .call 65 [.t 6] false false, 0, 0, false, []⟩,
    ⟨some 8, none, .un .not (.t 7), 0, 0, false, []⟩,
    ⟨some 9, none, .mov (.t 8), 0, 0, false, []⟩,
    ⟨some 10, some (9, false), .faddr 0 1 (.t 3), 0, 0, false, []⟩,
    ⟨some 11, some (9, false), .load false 1 (.t 10), 0, 0, false, []⟩,
    ⟨some 12, some (9, false), .mov (.t 0), 0, 0, false, []⟩,
    ⟨some 13, some (9, false), .len false (.t 12), 0, 0, false, []⟩,
    ⟨some 14, some (9, false), .bin .sub (.t 13) (.k (.int .i64 1)), 0, 0, false, []⟩,
    ⟨some 15, some (9, false), .call 82 [.t 11, .k (.int .i64 0), .t 14] false false, 0, 0, false, []⟩,
    ⟨some 16, some (9, false), .un .not (.t 15), 0, 0, false, []⟩,
    ⟨some 17, none, .pick (.t 9) (.k (.bool true)) (.t 16), 0, 0, false, []⟩])
   (.cutTo [0, 3, 17] (.cond (.t 17) (.seq (.seg false [⟨some 4, none, .mov (.k (.bool false)), 0, 0, false, []⟩])
   (.ret))
   (.skip))))
   (.cutTo [0, 3] (.seq (.seg false [⟨some 18, none, .mov (.t 0), 0, 0, false, []⟩,
    ⟨some 19, none, .faddr 0 1 (.t 3), 0, 0, false, []⟩,
    ⟨some 20, none, .load false 1 (.t 19), 0, 0, false, []⟩,
    ⟨some 21, none, .iaddr 2 (.t 18) (.t 20), 0, 0, false, []⟩,
    ⟨some 22, none, .load true 2 (.t 21), 0, 0, false, []⟩,
    ⟨some 5, none, .alloc [.sl true 2 [], .sl true 1 []], 0, 0, false, []⟩,
    ⟨none, none, .store 2 (.t 5) (.t 22), 0, 0, false, []⟩])
   (.cutTo [3, 5] (.seq (.seg false [⟨some 23, none, .faddr 0 1 (.t 5), 0, 0, false, []⟩,
    ⟨some 24, none, .load false 1 (.t 23), 0, 0, false, []⟩,
    ⟨some 25, none, .faddr 1 1 (.t 3), 0, 0, false, []⟩,
    ⟨some 26, none, .load false 1 (.t 25), 0, 0, false, []⟩,
    ⟨some 27, none, .call 95 [.t 24, .t 26] false false, 0, 0, false, []⟩,
    ⟨some 28, none, .mov (.t 27), 0, 0, false, []⟩,
    ⟨some 29, some (28, true), .faddr 2 1 (.t 3), 0, 0, false, []⟩,
    ⟨some 30, some (28, true), .load false 1 (.t 29), 0, 0, false, []⟩,
    ⟨some 31, some (28, true), .mov (.t 30), 0, 0, false, []⟩,
    ⟨some 32, some (31, true), .faddr 1 1 (.t 5), 0, 0, false, []⟩,
    ⟨some 33, some (31, true), .load false 1 (.t 32), 0, 0, false, []⟩,
    ⟨some 34, some (31, true), .len false (.t 33), 0, 0, false, []⟩,
    ⟨some 35, some (31, true), .bin .lss (.t 34) (.k (.int .i64 6)), 0, 0, false, []⟩,
    ⟨some 36, some (28, true), .pick (.t 31) (.t 35) (.k (.bool false)), 0, 0, false, []⟩,
    ⟨some 37, some (28, true), .mov (.t 36), 0, 0, false, []⟩,
    ⟨some 38, some (37, false), .faddr 2 1 (.t 3), 0, 0, false, []⟩,
    ⟨some 39, some (37, false), .load false 1 (.t 38), 0, 0, false, []⟩,
    ⟨some 40, some (37, false), .un .not (.t 39), 0, 0, false, []⟩,
    ⟨some 41, some (37, false), .mov (.t 40), 0, 0, false, []⟩,
    ⟨some 42, some (41, true), .faddr 1 1 (.t 5), 0, 0, false, []⟩,
    ⟨some 43, some (41, true), .load false 1 (.t 42), 0, 0, false, []⟩,
    ⟨some 44, some (41, true), .faddr 1 1 (.t 3), 0, 0, false, []⟩,
    ⟨some 45, some (41, true), .load false 1 (.t 44), 0, 0, false, []⟩,
    ⟨some 46, some (41, true), .call 182 [.t 43, .t 45] false false, 0, 0, false, []⟩,
    ⟨some 47, some (41, true), .bin .geq (.t 46) (.k (.int .i64 0)), 0, 0, false, []⟩,
    ⟨some 48, some (37, false), .pick (.t 41) (.t 47) (.k (.bool false)), 0, 0, false, []⟩,
    ⟨some 49, some (28, true), .pick (.t 37) (.k (.bool true)) (.t 48), 0, 0, false, []⟩,
    ⟨some 50, none, .pick (.t 28) (.t 49) (.k (.bool false)), 0, 0, false, []⟩,
    ⟨some 4, none, .mov (.t 50), 0, 0, false, []⟩])
   (.cutTo [4] (.ret)))))))⟩
def E139x0 : List I := [⟨some 16, none, .mov (.t 6), 0, 1, false, []⟩,
    ⟨some 17, none, .mov (.t 6), 0, 0, false, []⟩,
    ⟨some 18, none, .nilchk (.t 17), 0, 0, false, []⟩,
    ⟨some 19, none, .faddr 1 1 (.t 18), 0, 0, false, []⟩,
    ⟨some 20, none, .load false 1 (.t 19), 0, 0, false, []⟩,
    ⟨some 21, none, .faddr 1 1 (.t 3), 0, 0, false, []⟩,
    ⟨some 22, none, .load false 1 (.t 21), 0, 0, false, []⟩,
    ⟨some 23, none, .call 112 [.t 22] false false, 0, 0, false, []⟩,
    ⟨some 24, none, .mksl false 1 [.t 23], 0, 0, false, []⟩,
    ⟨some 25, none, .app 1 (.t 20) (.t 24), 0, 0, true, []⟩,
    ⟨some 26, none, .nilchk (.t 16), 1, 1, false, []⟩,
    ⟨some 27, none, .faddr 1 1 (.t 26), 1, 1, false, []⟩,
    ⟨none, none, .store 1 (.t 27) (.t 25), 1, 0, true, []⟩]
def D139x0 : List I := E139x0
theorem evD139x0 (run : Run) (e : Env) (h : Heap) : drawI run D139x0 e h = DrawW (evW run E139x0 e h []) run E139x0 e h := drawI_write run _ e h
def E139x1 : List I := [⟨some 28, none, .mov (.t 6), 0, 0, false, []⟩,
    ⟨some 29, none, .nilchk (.t 28), 0, 0, false, []⟩,
    ⟨some 30, none, .faddr 1 1 (.t 29), 0, 0, false, []⟩,
    ⟨some 31, none, .load false 1 (.t 30), 0, 0, false, []⟩,
    ⟨some 32, none, .faddr 1 1 (.t 3), 0, 0, false, []⟩,
    ⟨some 33, none, .load false 1 (.t 32), 0, 0, false, []⟩,
    ⟨some 34, none, .call 182 [.t 31, .t 33] false false, 0, 0, false, []⟩,
    ⟨some 7, none, .mov (.t 34), 0, 0, false, []⟩]
def D139x1 : List I := E139x1
theorem evD139x1 (run : Run) (e : Env) (h : Heap) : drawI run D139x1 e h = DrawS (evQ run E139x1 e h) run E139x1 e h := drawI_quiet run _ (by rfl) e h
/-- loop.example/tablehouse/impl.tablesAfter -/
def F139 : F := ⟨55, [(false, 4, 0, false)],
   .seq (.seg false [⟨some 3, none, .box (.t 1), 0, 0, false, []⟩,
    ⟨some 4, none, .mov (.k (.sl true 2 [])), 0, 0, false, []⟩])
   (.seq (.seg false [⟨some 8, none, .mov (.t 0), 0, 0, false, []⟩,
    ⟨some 9, none, .call 183 [.t 8] false true, 0, 0, false, []⟩,
    ⟨some 5, none, .mov (.t 9), 0, 0, false, []⟩])
   (.seq (.seg false [⟨some 10, none, .mov (.t 5), 0, 0, false, []⟩,
    ⟨some 11, none, .faddr 0 1 (.t 3), 0, 0, false, []⟩,
    ⟨some 12, none, .load false 1 (.t 11), 0, 0, false, []⟩,
    ⟨some 13, none, .iaddr 2 (.t 10) (.t 12), 0, 0, false, []⟩,
    ⟨some 6, none, .mov (.t 13), 0, 0, false, []⟩])
   (.cutTo [3, 5, 6] (.seq (.seq (.seg false [⟨some 14, none, .faddr 2 1 (.t 3), 0, 0, false, []⟩,
    ⟨some 15, none, .load false 1 (.t 14), 0, 0, false, []⟩])
   (.cond (.t 15) (.seg true D139x0)
   (.seq (.seg true D139x1)
   (.cutTo [5, 6, 7] (.seg false [⟨some 35, none, .mov (.t 6), 0, 0, false, []⟩,
    ⟨some 36, none, .mov (.t 6), 0, 0, false, []⟩,
    ⟨some 37, none, .nilchk (.t 36), 0, 0, false, []⟩,
    ⟨some 38, none, .faddr 1 1 (.t 37), 0, 0, false, []⟩,
    ⟨some 39, none, .load false 1 (.t 38), 0, 0, false, []⟩,
    ⟨some 40, none, .mov (.t 7), 0, 0, false, []⟩,
    ⟨some 41, none, .mov (.t 7), 0, 0, false, []⟩,
    ⟨some 42, none, .bin .add (.t 41) (.k (.int .i64 1)), 0, 0, false, []⟩,
    ⟨some 43, none, .call 184 [.t 39, .t 40, .t 42] true false, 0, 0, false, []⟩,
    ⟨some 44, none, .nilchk (.t 35), 0, 0, false, []⟩,
    ⟨some 45, none, .faddr 1 1 (.t 44), 0, 0, false, []⟩,
    ⟨none, none, .store 1 (.t 45) (.t 43), 0, 0, false, []⟩])))))
   (.cutTo [5, 6] (.seq (.seg false [⟨some 46, none, .mov (.t 6), 0, 0, false, []⟩,
    ⟨some 47, none, .mov (.t 6), 0, 0, false, []⟩,
    ⟨some 48, none, .nilchk (.t 47), 0, 0, false, []⟩,
    ⟨some 49, none, .faddr 1 1 (.t 48), 0, 0, false, []⟩,
    ⟨some 50, none, .load false 1 (.t 49), 0, 0, false, []⟩,
    ⟨some 51, none, .call 109 [.t 50] false false, 0, 0, false, []⟩,
    ⟨some 52, none, .nilchk (.t 46), 0, 0, false, []⟩,
    ⟨some 53, none, .faddr 1 1 (.t 52), 0, 0, false, []⟩,
    ⟨none, none, .store 1 (.t 53) (.t 51), 0, 0, false, []⟩])
   (.cutTo [5] (.seq (.seg false [⟨some 54, none, .mov (.t 5), 0, 0, false, []⟩,
    ⟨some 4, none, .mov (.t 54), 0, 0, false, []⟩])
   (.ret)))))))))⟩
def E140x0 : List I := [⟨some 6, none, .mov (.t 0), 0, 0, false, []⟩,
    ⟨some 7, none, .call 185 [.t 6] false false, 0, 0, false, []⟩,
    ⟨some 8, none, .un .not (.t 7), 0, 0, false, []⟩,
    ⟨some 9, none, .mov (.t 8), 0, 0, false, []⟩,
    ⟨some 10, some (9, false), .faddr 0 1 (.t 3), 0, 0, false, []⟩,
    ⟨some 11, some (9, false), .load false 1 (.t 10), 0, 0, false, []⟩,
    ⟨some 12, some (9, false), .mov (.t 0), 0, 0, false, []⟩,
    ⟨some 13, some (9, false), .len false (.t 12), 0, 0, false, []⟩,
    ⟨some 14, some (9, false), .bin .sub (.t 13) (.k (.int .i64 1)), 0, 0, false, []⟩,
    ⟨some 15, some (9, false), .call 90 [.t 11, .k (.int .i64 0), .t 14] false false, 0, 0, false, []⟩,
    ⟨some 16, some (9, false), .un .not (.t 15), 0, 0, false, []⟩,
    ⟨some 17, none, .pick (.t 9) (.k (.bool true)) (.t 16), 0, 0, false, []⟩,
    ⟨some 18, none, .mov (.t 17), 0, 0, false, []⟩,
    ⟨some 19, some (18, false), .mov (.t 0), 0, 0, false, []⟩,
    ⟨some 20, some (18, false), .faddr 0 1 (.t 3), 0, 0, false, []⟩,
    ⟨some 21, some (18, false), .load false 1 (.t 20), 0, 0, false, []⟩,
    ⟨some 22, some (18, false), .iaddr 2 (.t 19) (.t 21), 0, 0, false, []⟩,
    ⟨some 23, some (18, false), .faddr 0 1 (.t 22), 0, 0, false, []⟩,
    ⟨some 24, some (18, false), .load false 1 (.t 23), 0, 0, false, []⟩,
    ⟨some 25, some (18, false), .faddr 1 1 (.t 3), 0, 0, false, []⟩,
    ⟨some 26, some (18, false), .load false 1 (.t 25), 0, 0, false, []⟩,
    ⟨some 27, some (18, false), .call 160 [.t 24, .t 26] false false, 0, 0, false, []⟩,
    ⟨some 28, some (18, false), .un .not (.t 27), 0, 0, false, []⟩,
    ⟨some 29, none, .pick (.t 18) (.k (.bool true)) (.t 28), 0, 0, false, []⟩]
def D140x0 : List I := E140x0
theorem evD140x0 (run : Run) (e : Env) (h : Heap) : drawI run D140x0 e h = DrawS (evQ run E140x0 e h) run E140x0 e h := drawI_quiet run _ (by rfl) e h
/-- loop.example/tablehouse/spec.ChangeOk -/
def F140 : F := ⟨46, [(false, 4, 0, false)],
   .seq (.seg false [⟨some 3, none, .box (.t 1), 0, 0, false, []⟩,
    ⟨some 4, none, .mov (.k (.bool false)), 0, 0, false, []⟩])
   (.seq (.seq (.seg true D140x0)
   (.cutTo [0, 3, 29] (.cond (.t 29) (.seq (.seg false [⟨some 4, none, .mov (.k (.bool false)), 0, 0, false, []⟩])
   (.ret))
   (.skip))))
   (.cutTo [0, 3] (.seq (.seg false [⟨some 30, none, .mov (.t 0), 0, 0, false, []⟩,
    ⟨some 31, none, .faddr 0 1 (.t 3), 0, 0, false, []⟩,
    ⟨some 32, none, .load false 1 (.t 31), 0, 0, false, []⟩,
    ⟨some 33, none, .iaddr 2 (.t 30) (.t 32), 0, 0, false, []⟩,
    ⟨some 34, none, .faddr 1 1 (.t 33), 0, 0, false, []⟩,
    ⟨some 35, none, .load false 1 (.t 34), 0, 0, false, []⟩,
    ⟨some 5, none, .mov (.t 35), 0, 0, false, []⟩])
   (.cutTo [3, 5] (.seq (.seq (.seg false [⟨some 36, none, .faddr 2 1 (.t 3), 0, 0, false, []⟩,
    ⟨some 37, none, .load false 1 (.t 36), 0, 0, false, []⟩])
   (.cond (.t 37) (.seq (.seg false [⟨some 38, none, .mov (.t 5), 0, 0, false, []⟩,
    ⟨some 39, none, .len false (.t 38), 0, 0, false, []⟩,
    ⟨some 40, none, .bin .lss (.t 39) (.k (.int .i64 6)), 0, 0, false, []⟩,
    ⟨some 4, none, .mov (.t 40), 0, 0, false, []⟩])
   (.cutTo [4] (.ret)))
   (.skip)))
   (.cutTo [3, 5] (.seq (.seg false [⟨some 41, none, .mov (.t 5), 0, 0, false, []⟩,
    ⟨some 42, none, .faddr 1 1 (.t 3), 0, 0, false, []⟩,
    ⟨some 43, none, .load false 1 (.t 42), 0, 0, false, []⟩,
    ⟨some 44, none, .call 186 [.t 41, .t 43] false false, 0, 0, false, []⟩,
    ⟨some 45, none, .bin .gtr (.t 44) (.k (.int .i64 0)), 0, 0, false, []⟩,
    ⟨some 4, none, .mov (.t 45), 0, 0, false, []⟩])
   (.cutTo [4] (.ret)))))))))⟩
def E141x0 : List I := [⟨some 32, none, .faddr 1 1 (.t 5), 0, 0, false, []⟩,
    ⟨some 33, none, .load false 1 (.t 32), 0, 0, false, []⟩,
    ⟨some 34, none, .mov (.t 0), 0, 0, false, []⟩,
    ⟨some 35, none, .mov (.t 4), 0, 0, false, []⟩,
    ⟨some 36, none, .iaddr 2 (.t 34) (.t 35), 0, 0, false, []⟩,
    ⟨some 37, none, .faddr 1 1 (.t 36), 0, 0, false, []⟩,
    ⟨some 38, none, .load false 1 (.t 37), 0, 0, false, []⟩,
    ⟨some 39, none, .mov (.t 6), 0, 0, false, []⟩,
    ⟨some 40, none, .iaddr 1 (.t 38) (.t 39), 0, 0, false, []⟩,
    ⟨some 41, none, .load false 1 (.t 40), 0, 0, false, []⟩,
    ⟨some 42, none, .call 126 [.t 41] false false, 0, 0, false, []⟩,
    ⟨some 43, none, .mksl false 1 [.t 42], 0, 0, false, []⟩,
    ⟨some 44, none, .app 1 (.t 33) (.t 43), 0, 0, true, []⟩,
    ⟨some 45, none, .faddr 1 1 (.t 5), 1, 1, false, []⟩,
    ⟨none, none, .store 1 (.t 45) (.t 44), 1, 0, true, []⟩]
def D141x0 : List I := E141x0
theorem evD141x0 (run : Run) (e : Env) (h : Heap) : drawI run D141x0 e h = DrawW (evW run E141x0 e h []) run E141x0 e h := drawI_write run _ e h
def B141x1 : C := .seq (.seq (.seg false [⟨some 22, none, .mov (.t 6), 0, 0, false, []⟩,
    ⟨some 23, none, .mov (.t 0), 0, 0, false, []⟩,
    ⟨some 24, none, .mov (.t 4), 0, 0, false, []⟩,
    ⟨some 25, none, .iaddr 2 (.t 23) (.t 24), 0, 0, false, []⟩,
    ⟨some 26, none, .faddr 1 1 (.t 25), 0, 0, false, []⟩,
    ⟨some 27, none, .load false 1 (.t 26), 0, 0, false, []⟩,
    ⟨some 28, none, .len false (.t 27), 0, 0, false, []⟩,
    ⟨some 29, none, .bin .lss (.t 22) (.t 28), 0, 0, false, []⟩])
   (.cutTo [0, 3, 4, 5, 6, 29] (.cond (.t 29) (.skip)
   (.exit 2))))
   (.cutTo [0, 3, 4, 5, 6] (.seq (.block 3 (.seg true D141x0))
   (.cutTo [0, 3, 4, 5, 6] (.seg false [⟨some 30, none, .mov (.t 6), 0, 0, false, []⟩,
    ⟨some 31, none, .bin .add (.t 30) (.k (.int .i64 1)), 0, 0, false, []⟩,
    ⟨some 6, none, .mov (.t 31), 0, 0, false, []⟩]))))
def L141x1 : C := B141x1
theorem evL141x1 (run : Run) (draw : List I → Env → Heap → Option (Env × Heap)) (e : Env) (h : Heap) : evC run draw L141x1 e h = evC run draw B141x1 e h := rfl
def B141x0 : C := .seq (.seq (.seg false [⟨some 8, none, .mov (.t 4), 0, 0, false, []⟩,
    ⟨some 9, none, .mov (.t 0), 0, 0, false, []⟩,
    ⟨some 10, none, .len false (.t 9), 0, 0, false, []⟩,
    ⟨some 11, none, .bin .lss (.t 8) (.t 10), 0, 0, false, []⟩])
   (.cutTo [0, 3, 4, 11] (.cond (.t 11) (.skip)
   (.exit 0))))
   (.cutTo [0, 3, 4] (.seq (.block 1 (.seq (.seg false [⟨some 14, none, .mksl true 2 [], 0, 0, false, []⟩,
    ⟨some 15, none, .mov (.t 0), 0, 0, false, []⟩,
    ⟨some 16, none, .mov (.t 4), 0, 0, false, []⟩,
    ⟨some 17, none, .iaddr 2 (.t 15) (.t 16), 0, 0, false, []⟩,
    ⟨some 18, none, .faddr 0 1 (.t 17), 0, 0, false, []⟩,
    ⟨some 19, none, .load false 1 (.t 18), 0, 0, false, []⟩,
    ⟨some 20, none, .app 2 (.t 14) (.t 19), 0, 0, false, []⟩,
    ⟨some 21, none, .build [.sl true 2 [], .sl true 1 []] [(0, 1, .t 20)], 0, 0, false, []⟩,
    ⟨some 5, none, .alloc [.sl true 2 [], .sl true 1 []], 0, 0, false, []⟩,
    ⟨none, none, .store 2 (.t 5) (.t 21), 0, 0, false, []⟩])
   (.cutTo [0, 3, 4, 5] (.seq (.seq (.seg false [⟨some 6, none, .mov (.k (.int .i64 0)), 0, 0, false, []⟩])
   (.block 2 (.loop [0, 3, 4, 5, 6] [0, 3, 4, 5] L141x1)))
   (.seg false [⟨some 46, none, .mov (.t 3), 0, 0, false, []⟩,
    ⟨some 47, none, .load true 2 (.t 5), 0, 0, false, []⟩,
    ⟨some 48, none, .mksl false 2 [.t 47], 0, 0, false, []⟩,
    ⟨some 49, none, .app 2 (.t 46) (.t 48), 0, 0, false, []⟩,
    ⟨some 3, none, .mov (.t 49), 0, 0, false, []⟩])))))
   (.cutTo [0, 3, 4] (.seg false [⟨some 12, none, .mov (.t 4), 0, 0, false, []⟩,
    ⟨some 13, none, .bin .add (.t 12) (.k (.int .i64 1)), 0, 0, false, []⟩,
    ⟨some 4, none, .mov (.t 13), 0, 0, false, []⟩]))))
def L141x0 : C := B141x0
theorem evL141x0 (run : Run) (draw : List I → Env → Heap → Option (Env × Heap)) (e : Env) (h : Heap) : evC run draw L141x0 e h = evC run draw B141x0 e h := rfl
/-- loop.example/tablehouse/spec.l11Tables -/
def F141 : F := ⟨51, [(false, 2, 0, false)],
   .seq (.seg false [⟨some 2, none, .nilrow 2, 0, 0, false, []⟩])
   (.seq (.seg false [⟨some 7, none, .mksl true 2 [], 0, 0, false, []⟩,
    ⟨some 3, none, .mov (.t 7), 0, 0, false, []⟩])
   (.seq (.seq (.seg false [⟨some 4, none, .mov (.k (.int .i64 0)), 0, 0, false, []⟩])
   (.block 0 (.loop [0, 3, 4] [3] L141x0)))
   (.seq (.seg false [⟨some 50, none, .mov (.t 3), 0, 0, false, []⟩,
    ⟨some 2, none, .mov (.t 50), 0, 0, false, []⟩])
   (.ret))))⟩
def E142x0 : List I := [⟨some 16, none, .mov (.t 6), 0, 0, false, []⟩,
    ⟨some 17, none, .mov (.t 0), 0, 0, false, []⟩,
    ⟨some 18, none, .mov (.t 7), 0, 0, false, []⟩,
    ⟨some 19, none, .iaddr 1 (.t 17) (.t 18), 0, 0, false, []⟩,
    ⟨some 20, none, .load false 1 (.t 19), 0, 0, false, []⟩,
    ⟨some 21, none, .call 186 [.t 16, .t 20] false false, 0, 0, false, []⟩,
    ⟨some 22, none, .mov (.t 1), 0, 0, false, []⟩,
    ⟨some 23, none, .mov (.t 0), 0, 0, false, []⟩,
    ⟨some 24, none, .mov (.t 7), 0, 0, false, []⟩,
    ⟨some 25, none, .iaddr 1 (.t 23) (.t 24), 0, 0, false, []⟩,
    ⟨some 26, none, .load false 1 (.t 25), 0, 0, false, []⟩,
    ⟨some 27, none, .call 186 [.t 22, .t 26] false false, 0, 0, false, []⟩,
    ⟨some 28, none, .bin .lss (.t 21) (.t 27), 0, 0, false, []⟩]
def D142x0 : List I := E142x0
theorem evD142x0 (run : Run) (e : Env) (h : Heap) : drawI run D142x0 e h = DrawS (evQ run E142x0 e h) run E142x0 e h := drawI_quiet run _ (by rfl) e h
def B142x0 : C := .seq (.seq (.seg false [⟨some 10, none, .mov (.t 7), 0, 0, false, []⟩,
    ⟨some 11, none, .mov (.t 0), 0, 0, false, []⟩,
    ⟨some 12, none, .len false (.t 11), 0, 0, false, []⟩,
    ⟨some 13, none, .bin .lss (.t 10) (.t 12), 0, 0, false, []⟩])
   (.cutTo [0, 1, 5, 6, 7, 13] (.cond (.t 13) (.skip)
   (.exit 0))))
   (.cutTo [0, 1, 5, 6, 7] (.seq (.block 1 (.seq (.seg true D142x0)
   (.cutTo [0, 1, 5, 6, 7, 28] (.cond (.t 28) (.seg false [⟨some 29, none, .mov (.t 6), 0, 0, false, []⟩,
    ⟨some 30, none, .mov (.t 0), 0, 0, false, []⟩,
    ⟨some 31, none, .mov (.t 7), 0, 0, false, []⟩,
    ⟨some 32, none, .iaddr 1 (.t 30) (.t 31), 0, 0, false, []⟩,
    ⟨some 33, none, .load false 1 (.t 32), 0, 0, false, []⟩,
    ⟨some 34, none, .mksl false 1 [.t 33], 0, 0, false, []⟩,
    ⟨some 35, none, .app 1 (.t 29) (.t 34), 0, 0, false, []⟩,
    ⟨some 6, none, .mov (.t 35), 0, 0, false, []⟩])
   (.seg false [⟨some 36, none, .mov (.t 5), 0, 0, false, []⟩,
    ⟨some 37, none, .mov (.t 0), 0, 0, false, []⟩,
    ⟨some 38, none, .mov (.t 7), 0, 0, false, []⟩,
    ⟨some 39, none, .iaddr 1 (.t 37) (.t 38), 0, 0, false, []⟩,
    ⟨some 40, none, .load false 1 (.t 39), 0, 0, false, []⟩,
    ⟨some 41, none, .call 126 [.t 40] false false, 0, 0, false, []⟩,
    ⟨some 42, none, .mksl false 1 [.t 41], 0, 0, false, []⟩,
    ⟨some 43, none, .app 1 (.t 36) (.t 42), 0, 0, false, []⟩,
    ⟨some 5, none, .mov (.t 43), 0, 0, false, []⟩])))))
   (.cutTo [0, 1, 5, 6, 7] (.seg false [⟨some 14, none, .mov (.t 7), 0, 0, false, []⟩,
    ⟨some 15, none, .bin .add (.t 14) (.k (.int .i64 1)), 0, 0, false, []⟩,
    ⟨some 7, none, .mov (.t 15), 0, 0, false, []⟩]))))
def L142x0 : C := B142x0
theorem evL142x0 (run : Run) (draw : List I → Env → Heap → Option (Env × Heap)) (e : Env) (h : Heap) : evC run draw L142x0 e h = evC run draw B142x0 e h := rfl
/-- loop.example/tablehouse/spec.RowsLess -/
def F142 : F := ⟨45, [(false, 4, 0, false)],
   .seq (.seg false [⟨some 4, none, .nilrow 1, 0, 0, false, []⟩])
   (.seq (.seg false [⟨some 8, none, .mksl true 1 [], 0, 0, false, []⟩,
    ⟨some 5, none, .mov (.t 8), 0, 0, false, []⟩])
   (.seq (.seg false [⟨some 9, none, .mksl true 1 [], 0, 0, false, []⟩,
    ⟨some 6, none, .mov (.t 9), 0, 0, false, []⟩])
   (.seq (.seq (.seg false [⟨some 7, none, .mov (.k (.int .i64 0)), 0, 0, false, []⟩])
   (.block 0 (.loop [0, 1, 5, 6, 7] [5] L142x0)))
   (.seq (.seg false [⟨some 44, none, .mov (.t 5), 0, 0, false, []⟩,
    ⟨some 4, none, .mov (.t 44), 0, 0, false, []⟩])
   (.ret)))))⟩
def B143x0 : C := .seq (.seg false [⟨some 12, none, .bin .lss (.t 11) (.t 10), 0, 0, false, []⟩])
   (.seq (.cond (.t 12) (.skip)
   (.exit 0))
   (.seq (.block 1 (.seq (.seg false [⟨some 13, none, .iaddr 1 (.t 9) (.t 11), 0, 0, false, []⟩,
    ⟨some 14, none, .load false 1 (.t 13), 0, 0, false, []⟩,
    ⟨some 5, none, .mov (.t 14), 0, 0, false, []⟩])
   (.seq (.seg false [⟨some 15, none, .mov (.t 3), 0, 0, false, []⟩,
    ⟨some 16, none, .mov (.t 5), 0, 0, false, []⟩,
    ⟨some 17, none, .len false (.t 16), 0, 0, false, []⟩,
    ⟨some 18, none, .bin .add (.t 15) (.t 17), 0, 0, false, []⟩,
    ⟨some 3, none, .mov (.t 18), 0, 0, false, []⟩])
   (.cutTo [0, 3, 9, 10, 11] (.seq (.seg false [⟨some 19, none, .mov (.t 3), 0, 0, false, []⟩,
    ⟨some 20, none, .bin .lss (.t 19) (.k (.int .i64 0)), 0, 0, false, []⟩])
   (.cond (.t 20) (.seg false [⟨some 21, none, .bad, 0, 0, false, []⟩,
    ⟨none, none, .bad, 0, 0, false, []⟩])
   (.skip)))))))
   (.cutTo [0, 3, 9, 10, 11] (.seg false [⟨some 22, none, .bin .add (.t 11) (.k (.int .i64 1)), 0, 0, false, []⟩,
    ⟨some 11, none, .mov (.t 22), 0, 0, false, []⟩]))))
def L143x0 : C := B143x0
theorem evL143x0 (run : Run) (draw : List I → Env → Heap → Option (Env × Heap)) (e : Env) (h : Heap) : evC run draw L143x0 e h = evC run draw B143x0 e h := rfl
def B143x1 : C := .seq (.seg false [⟨some 28, none, .bin .lss (.t 27) (.t 26), 0, 0, false, []⟩])
   (.seq (.cond (.t 28) (.skip)
   (.exit 2))
   (.seq (.block 3 (.seq (.seg false [⟨some 29, none, .iaddr 1 (.t 25) (.t 27), 0, 0, false, []⟩,
    ⟨some 30, none, .load false 1 (.t 29), 0, 0, false, []⟩,
    ⟨some 8, none, .mov (.t 30), 0, 0, false, []⟩])
   (.seg false [⟨some 31, none, .mov (.t 6), 0, 0, false, []⟩,
    ⟨some 32, none, .mov (.t 8), 0, 0, false, []⟩,
    ⟨some 33, none, .app 1 (.t 31) (.t 32), 0, 0, false, []⟩,
    ⟨some 6, none, .mov (.t 33), 0, 0, false, []⟩])))
   (.cutTo [6, 25, 26, 27] (.seg false [⟨some 34, none, .bin .add (.t 27) (.k (.int .i64 1)), 0, 0, false, []⟩,
    ⟨some 27, none, .mov (.t 34), 0, 0, false, []⟩]))))
def L143x1 : C := B143x1
theorem evL143x1 (run : Run) (draw : List I → Env → Heap → Option (Env × Heap)) (e : Env) (h : Heap) : evC run draw L143x1 e h = evC run draw B143x1 e h := rfl
/-- slices.Concat<<><>loop.example/tablehouse/impl.Value,<>loop.example/tablehouse/impl.Value> -/
def F143 : F := ⟨36, [(false, 2, 0, false)],
   .seq (.seg false [⟨some 2, none, .nilrow 1, 0, 0, false, []⟩])
   (.seq (.seg false [⟨some 3, none, .mov (.k (.int .i64 0)), 0, 0, false, []⟩])
   (.seq (.seq (.seg false [⟨some 9, none, .mov (.t 0), 0, 0, false, []⟩,
    ⟨some 10, none, .len false (.t 9), 0, 0, false, []⟩,
    ⟨some 11, none, .mov (.k (.int .i64 0)), 0, 0, false, []⟩])
   (.block 0 (.loop [0, 3, 9, 10, 11] [0, 3] L143x0)))
   (.seq (.seg false [⟨some 23, none, .mov (.t 3), 0, 0, false, []⟩,
    ⟨some 24, none, .call 187 [.k (.sl true 1 []), .t 23] true true, 0, 0, false, []⟩,
    ⟨some 6, none, .mov (.t 24), 0, 0, false, []⟩])
   (.seq (.seq (.seg false [⟨some 25, none, .mov (.t 0), 0, 0, false, []⟩,
    ⟨some 26, none, .len false (.t 25), 0, 0, false, []⟩,
    ⟨some 27, none, .mov (.k (.int .i64 0)), 0, 0, false, []⟩])
   (.block 2 (.loop [6, 25, 26, 27] [6] L143x1)))
   (.seq (.seg false [⟨some 35, none, .mov (.t 6), 0, 0, false, []⟩,
    ⟨some 2, none, .mov (.t 35), 0, 0, false, []⟩])
   (.ret))))))⟩
def B144x0 : C := .seq (.seg false [⟨some 11, none, .bin .lss (.t 10) (.t 9), 0, 0, false, []⟩])
   (.seq (.cond (.t 11) (.skip)
   (.exit 0))
   (.seq (.block 1 (.seq (.seg false [⟨some 12, none, .iaddr 1 (.t 8) (.t 10), 0, 0, false, []⟩,
    ⟨some 13, none, .load false 1 (.t 12), 0, 0, false, []⟩,
    ⟨some 7, none, .mov (.t 13), 0, 0, false, []⟩])
   (.seq (.seg false [⟨some 14, none, .mov (.t 7), 0, 0, false, []⟩,
    ⟨some 15, none, .mov (.t 1), 0, 0, false, []⟩,
    ⟨some 16, none, .call 171 [.t 14, .t 15] false false, 0, 0, false, []⟩])
   (.cond (.t 16) (.seg false [⟨some 17, none, .mov (.t 5), 0, 0, false, []⟩,
    ⟨some 18, none, .bin .add (.t 17) (.k (.int .i64 1)), 0, 0, false, []⟩,
    ⟨some 5, none, .mov (.t 18), 0, 0, false, []⟩])
   (.skip)))))
   (.cutTo [1, 5, 8, 9, 10] (.seg false [⟨some 19, none, .bin .add (.t 10) (.k (.int .i64 1)), 0, 0, false, []⟩,
    ⟨some 10, none, .mov (.t 19), 0, 0, false, []⟩]))))
def L144x0 : C := B144x0
theorem evL144x0 (run : Run) (draw : List I → Env → Heap → Option (Env × Heap)) (e : Env) (h : Heap) : evC run draw L144x0 e h = evC run draw B144x0 e h := rfl
/-- loop.example/tablehouse/impl.RowMany -/
def F144 : F := ⟨21, [(false, 4, 0, false)],
   .seq (.seg false [⟨some 4, none, .mov (.k (.int .i64 0)), 0, 0, false, []⟩])
   (.seq (.seg false [⟨some 5, none, .mov (.k (.int .i64 0)), 0, 0, false, []⟩])
   (.seq (.seq (.seg false [⟨some 8, none, .mov (.t 0), 0, 0, false, []⟩,
    ⟨some 9, none, .len false (.t 8), 0, 0, false, []⟩,
    ⟨some 10, none, .mov (.k (.int .i64 0)), 0, 0, false, []⟩])
   (.block 0 (.loop [1, 5, 8, 9, 10] [5] L144x0)))
   (.seq (.seg false [⟨some 20, none, .mov (.t 5), 0, 0, false, []⟩,
    ⟨some 4, none, .mov (.t 20), 0, 0, false, []⟩])
   (.ret))))⟩
def E145x0 : List I := [⟨some 42, none, .faddr 2 1 (.t 5), 0, 1, false, []⟩,
    ⟨some 43, none, .load false 1 (.t 42), 0, 1, false, []⟩,
    ⟨some 44, none, .mov (.t 0), 0, 0, false, []⟩,
    ⟨some 45, none, .call 104 [.t 44, .k (.int .i64 3)] true false, 0, 0, true, []⟩,
    ⟨some 46, none, .bin .add (.k (.int .i64 97)) (.t 45), 1, 1, false, []⟩,
    ⟨some 47, none, .conv (.int .u8) (.t 46), 1, 1, false, []⟩,
    ⟨some 48, none, .mksl false 1 [.t 47], 1, 1, false, []⟩,
    ⟨some 49, none, .conv .toStr (.t 48), 1, 1, false, []⟩,
    ⟨some 50, none, .bin .add (.t 43) (.t 49), 1, 1, false, []⟩,
    ⟨some 51, none, .faddr 2 1 (.t 5), 1, 1, false, []⟩,
    ⟨none, none, .store 1 (.t 51) (.t 50), 1, 0, true, []⟩]
def D145x0 : List I := E145x0
theorem evD145x0 (run : Run) (e : Env) (h : Heap) : drawI run D145x0 e h = DrawW (evW run E145x0 e h []) run E145x0 e h := drawI_write run _ e h
def B145x0 : C := .seq (.seq (.seg false [⟨some 38, none, .mov (.t 6), 0, 0, false, []⟩,
    ⟨some 39, none, .bin .gtr (.t 38) (.k (.int .i64 0)), 0, 0, false, []⟩])
   (.cond (.t 39) (.skip)
   (.exit 1)))
   (.seq (.block 2 (.seg true D145x0))
   (.cutTo [0, 1, 4, 5, 6] (.seg false [⟨some 40, none, .mov (.t 6), 0, 0, false, []⟩,
    ⟨some 41, none, .bin .sub (.t 40) (.k (.int .i64 1)), 0, 0, false, []⟩,
    ⟨some 6, none, .mov (.t 41), 0, 0, false, []⟩])))
def L145x0 : C := B145x0
theorem evL145x0 (run : Run) (draw : List I → Env → Heap → Option (Env × Heap)) (e : Env) (h : Heap) : evC run draw L145x0 e h = evC run draw B145x0 e h := rfl
/-- loop.example/tablehouse/spec.l20Value -/
def F145 : F := ⟨77, [(true, 4, 3, true)],
   .seq (.seg false [⟨some 4, none, .alloc [.int .i64 0, .int .i64 0, .str ⟨#[]⟩], 0, 0, false, []⟩])
   (.seq (.seg false [⟨some 7, none, .build [.int .i64 0, .int .i64 0, .str ⟨#[]⟩] [], 0, 0, false, []⟩,
    ⟨some 5, none, .alloc [.int .i64 0, .int .i64 0, .str ⟨#[]⟩], 0, 0, false, []⟩,
    ⟨none, none, .store 3 (.t 5) (.t 7), 0, 0, false, []⟩])
   (.seq (.seq (.seg false [⟨some 8, none, .mov (.t 0), 0, 0, false, []⟩,
    ⟨some 9, none, .call 104 [.t 8, .k (.int .i64 7)] true false, 0, 0, false, []⟩])
   (.block 0 (.seq (.seg false [⟨some 14, none, .bin .eql (.t 9) (.k (.int .i64 0)), 0, 0, false, []⟩,
    ⟨some 13, none, .mov (.t 14), 0, 0, false, []⟩])
   (.cond (.t 13) (.skip)
   (.seq (.seq (.seg false [⟨some 16, none, .bin .eql (.t 9) (.k (.int .i64 1)), 0, 0, false, []⟩,
    ⟨some 15, none, .mov (.t 16), 0, 0, false, []⟩])
   (.cond (.t 15) (.skip)
   (.seq (.seg false [⟨some 17, none, .bin .eql (.t 9) (.k (.int .i64 2)), 0, 0, false, []⟩,
    ⟨some 15, none, .mov (.t 17), 0, 0, false, []⟩])
   (.cond (.t 15) (.skip)
   (.seg false [⟨some 18, none, .bin .eql (.t 9) (.k (.int .i64 3)), 0, 0, false, []⟩,
    ⟨some 15, none, .mov (.t 18), 0, 0, false, []⟩])))))
   (.cutTo [0, 1, 4, 5, 9, 15] (.cond (.t 15) (.seq (.seg false [⟨some 19, none, .mov (.t 0), 0, 0, false, []⟩,
    ⟨some 20, none, .call 104 [.t 19, .k (.int .i64 7)] true false, 0, 0, false, []⟩,
    ⟨some 21, none, .bin .sub (.t 20) (.k (.int .i64 3)), 0, 0, false, []⟩,
    ⟨some 22, none, .build [.int .i64 0, .int .i64 0, .str ⟨#[]⟩] [(0, 1, .k (.int .i64 1)), (1, 1, .t 21)], 0, 0, false, []⟩,
    ⟨none, none, .store 3 (.t 5) (.t 22), 0, 0, false, []⟩])
   (.cutTo [0, 1, 4, 5] (.seq (.seg false [⟨some 23, none, .mov (.t 0), 0, 0, false, []⟩,
    ⟨some 24, none, .call 104 [.t 23, .k (.int .i64 8)] true false, 0, 0, false, []⟩,
    ⟨some 25, none, .bin .eql (.t 24) (.k (.int .i64 0)), 0, 0, false, []⟩])
   (.cond (.t 25) (.seg false [⟨some 26, none, .mksl false 1 [.k (.int .i64 9999), .k (.int .i64 (-9999)), .k (.int .i64 255), .k (.int .i64 256), .k (.int .i64 (-256))], 0, 0, false, []⟩,
    ⟨some 27, none, .mov (.t 0), 0, 0, false, []⟩,
    ⟨some 28, none, .call 104 [.t 27, .k (.int .i64 5)] true false, 0, 0, false, []⟩,
    ⟨some 29, none, .iaddr 1 (.t 26) (.t 28), 0, 0, false, []⟩,
    ⟨some 30, none, .load false 1 (.t 29), 0, 0, false, []⟩,
    ⟨some 31, none, .faddr 1 1 (.t 5), 0, 0, false, []⟩,
    ⟨none, none, .store 1 (.t 31) (.t 30), 0, 0, false, []⟩])
   (.skip)))))
   (.seq (.seq (.seg false [⟨some 33, none, .bin .eql (.t 9) (.k (.int .i64 4)), 0, 0, false, []⟩,
    ⟨some 32, none, .mov (.t 33), 0, 0, false, []⟩])
   (.cond (.t 32) (.skip)
   (.seg false [⟨some 34, none, .bin .eql (.t 9) (.k (.int .i64 5)), 0, 0, false, []⟩,
    ⟨some 32, none, .mov (.t 34), 0, 0, false, []⟩])))
   (.cutTo [0, 1, 4, 5, 32] (.cond (.t 32) (.seq (.seg false [⟨some 35, none, .build [.int .i64 0, .int .i64 0, .str ⟨#[]⟩] [(0, 1, .k (.int .i64 2))], 0, 0, false, []⟩,
    ⟨none, none, .store 3 (.t 5) (.t 35), 0, 0, false, []⟩])
   (.seq (.seg false [⟨some 36, none, .mov (.t 0), 0, 0, false, []⟩,
    ⟨some 37, none, .call 104 [.t 36, .k (.int .i64 4)] true false, 0, 0, false, []⟩,
    ⟨some 6, none, .mov (.t 37), 0, 0, false, []⟩])
   (.block 1 (.loop [0, 1, 4, 5, 6] [0, 1, 4, 5] L145x0))))
   (.seg false [⟨some 10, none, .mov (.t 0), 0, 0, false, []⟩,
    ⟨some 11, none, .call 104 [.t 10, .k (.int .i64 2)] true false, 0, 0, false, []⟩,
    ⟨some 12, none, .build [.int .i64 0, .int .i64 0, .str ⟨#[]⟩] [(0, 1, .k (.int .i64 3)), (1, 1, .t 11)], 0, 0, false, []⟩,
    ⟨none, none, .store 3 (.t 5) (.t 12), 0, 0, false, []⟩])))))))))))
   (.cutTo [0, 1, 4, 5] (.seq (.seq (.seg false [⟨some 52, none, .mov (.t 0), 0, 0, false, []⟩,
    ⟨some 53, none, .mov (.t 1), 0, 0, false, []⟩,
    ⟨some 54, none, .call 155 [.t 52, .t 53] true false, 0, 0, false, []⟩])
   (.cond (.t 54) (.seq (.seg false [⟨some 55, none, .mov (.t 0), 0, 0, false, []⟩,
    ⟨some 56, none, .call 104 [.t 55, .k (.int .i64 4)] true false, 0, 0, false, []⟩])
   (.block 3 (.seq (.seg false [⟨some 62, none, .bin .eql (.t 56) (.k (.int .i64 0)), 0, 0, false, []⟩,
    ⟨some 61, none, .mov (.t 62), 0, 0, false, []⟩])
   (.cond (.t 61) (.seg false [⟨some 63, none, .faddr 1 1 (.t 5), 0, 0, false, []⟩,
    ⟨none, none, .store 1 (.t 63) (.k (.int .i64 10000)), 0, 0, false, []⟩])
   (.seq (.seg false [⟨some 65, none, .bin .eql (.t 56) (.k (.int .i64 1)), 0, 0, false, []⟩,
    ⟨some 64, none, .mov (.t 65), 0, 0, false, []⟩])
   (.cond (.t 64) (.seg false [⟨some 66, none, .faddr 2 1 (.t 5), 0, 0, false, []⟩,
    ⟨some 67, none, .load false 1 (.t 66), 0, 0, false, []⟩,
    ⟨some 68, none, .bin .add (.t 67) (.k (.str ⟨#[97, 98, 99, 100, 101, 102, 103]⟩)), 0, 0, false, []⟩,
    ⟨some 69, none, .faddr 2 1 (.t 5), 0, 0, false, []⟩,
    ⟨none, none, .store 1 (.t 69) (.t 68), 0, 0, false, []⟩])
   (.seq (.seg false [⟨some 71, none, .bin .eql (.t 56) (.k (.int .i64 2)), 0, 0, false, []⟩,
    ⟨some 70, none, .mov (.t 71), 0, 0, false, []⟩])
   (.cond (.t 70) (.seg false [⟨some 72, none, .mov (.t 0), 0, 0, false, []⟩,
    ⟨some 73, none, .call 104 [.t 72, .k (.int .i64 7)] true false, 0, 0, false, []⟩,
    ⟨some 74, none, .bin .sub (.t 73) (.k (.int .i64 1)), 0, 0, false, []⟩,
    ⟨some 75, none, .faddr 0 1 (.t 5), 0, 0, false, []⟩,
    ⟨none, none, .store 1 (.t 75) (.t 74), 0, 0, false, []⟩])
   (.seg false [⟨some 57, none, .faddr 2 1 (.t 5), 0, 0, false, []⟩,
    ⟨some 58, none, .load false 1 (.t 57), 0, 0, false, []⟩,
    ⟨some 59, none, .bin .add (.t 58) (.k (.str ⟨#[65]⟩)), 0, 0, false, []⟩,
    ⟨some 60, none, .faddr 2 1 (.t 5), 0, 0, false, []⟩,
    ⟨none, none, .store 1 (.t 60) (.t 59), 0, 0, false, []⟩])))))))))
   (.skip)))
   (.cutTo [4, 5] (.seq (.seg false [⟨some 76, none, .load true 3 (.t 5), 0, 0, false, []⟩,
    ⟨none, none, .store 3 (.t 4) (.t 76), 0, 0, false, []⟩])
   (.ret)))))))⟩
def E146x0 : List I := [⟨some 16, none, .load true 8 (.t 7), 0, 1, false, []⟩,
    ⟨some 17, none, .mov (.t 0), 0, 0, false, []⟩,
    ⟨some 18, none, .mov (.t 2), 0, 0, false, []⟩,
    ⟨some 19, none, .build [.int .i64 0, .bool false] [(0, 1, .t 18)], 0, 0, false, []⟩,
    ⟨some 20, none, .call 105 [.t 17, .t 19] true false, 0, 0, true, []⟩,
    ⟨some 21, none, .call 92 [.t 20] false false, 1, 1, false, []⟩,
    ⟨some 22, none, .call 91 [.t 16, .t 21] false false, 1, 1, false, []⟩,
    ⟨none, none, .store 8 (.t 7) (.t 22), 1, 0, true, []⟩]
def D146x0 : List I := E146x0
theorem evD146x0 (run : Run) (e : Env) (h : Heap) : drawI run D146x0 e h = DrawW (evW run E146x0 e h []) run E146x0 e h := drawI_write run _ e h
def B146x0 : C := .seq (.seq (.seg false [⟨some 12, none, .mov (.t 8), 0, 0, false, []⟩,
    ⟨some 13, none, .bin .gtr (.t 12) (.k (.int .i64 0)), 0, 0, false, []⟩])
   (.cond (.t 13) (.skip)
   (.exit 0)))
   (.seq (.block 1 (.seg true D146x0))
   (.cutTo [0, 1, 2, 6, 7, 8] (.seg false [⟨some 14, none, .mov (.t 8), 0, 0, false, []⟩,
    ⟨some 15, none, .bin .sub (.t 14) (.k (.int .i64 1)), 0, 0, false, []⟩,
    ⟨some 8, none, .mov (.t 15), 0, 0, false, []⟩])))
def L146x0 : C := B146x0
theorem evL146x0 (run : Run) (draw : List I → Env → Heap → Option (Env × Heap)) (e : Env) (h : Heap) : evC run draw L146x0 e h = evC run draw B146x0 e h := rfl
/-- loop.example/tablehouse/spec.l20Known -/
def F146 : F := ⟨47, [(true, 6, 8, true)],
   .seq (.seg false [⟨some 6, none, .alloc [.int .i64 0, .int .i64 0, .int .i64 0, .int .i64 0, .str ⟨#[]⟩, .int .i64 0, .int .i64 0, .str ⟨#[]⟩], 0, 0, false, []⟩])
   (.seq (.seg false [⟨some 9, none, .build [.int .i64 0, .int .i64 0, .int .i64 0, .int .i64 0, .str ⟨#[]⟩, .int .i64 0, .int .i64 0, .str ⟨#[]⟩] [], 0, 0, false, []⟩,
    ⟨some 7, none, .alloc [.int .i64 0, .int .i64 0, .int .i64 0, .int .i64 0, .str ⟨#[]⟩, .int .i64 0, .int .i64 0, .str ⟨#[]⟩], 0, 0, false, []⟩,
    ⟨none, none, .store 8 (.t 7) (.t 9), 0, 0, false, []⟩])
   (.seq (.seq (.seg false [⟨some 10, none, .mov (.t 0), 0, 0, false, []⟩,
    ⟨some 11, none, .call 104 [.t 10, .k (.int .i64 4)] true false, 0, 0, false, []⟩,
    ⟨some 8, none, .mov (.t 11), 0, 0, false, []⟩])
   (.block 0 (.loop [0, 1, 2, 6, 7, 8] [0, 1, 6, 7] L146x0)))
   (.seq (.seq (.seg false [⟨some 23, none, .mov (.t 0), 0, 0, false, []⟩,
    ⟨some 24, none, .mov (.t 1), 0, 0, false, []⟩,
    ⟨some 25, none, .call 155 [.t 23, .t 24] true false, 0, 0, false, []⟩])
   (.cond (.t 25) (.seq (.seg false [⟨some 26, none, .mov (.t 0), 0, 0, false, []⟩,
    ⟨some 27, none, .call 104 [.t 26, .k (.int .i64 4)] true false, 0, 0, false, []⟩])
   (.block 2 (.seq (.seg false [⟨some 30, none, .bin .eql (.t 27) (.k (.int .i64 0)), 0, 0, false, []⟩,
    ⟨some 29, none, .mov (.t 30), 0, 0, false, []⟩])
   (.cond (.t 29) (.seg false [⟨some 31, none, .mov (.t 0), 0, 0, false, []⟩,
    ⟨some 32, none, .call 104 [.t 31, .k (.int .i64 3)] true false, 0, 0, false, []⟩,
    ⟨some 33, none, .bin .sub (.t 32) (.k (.int .i64 1)), 0, 0, false, []⟩,
    ⟨some 34, none, .faddr 0 1 (.t 7), 0, 0, false, []⟩,
    ⟨none, none, .store 1 (.t 34) (.t 33), 0, 0, false, []⟩])
   (.seq (.seg false [⟨some 36, none, .bin .eql (.t 27) (.k (.int .i64 1)), 0, 0, false, []⟩,
    ⟨some 35, none, .mov (.t 36), 0, 0, false, []⟩])
   (.cond (.t 35) (.seg false [⟨some 37, none, .faddr 1 1 (.t 7), 0, 0, false, []⟩,
    ⟨some 38, none, .load false 1 (.t 37), 0, 0, false, []⟩,
    ⟨some 39, none, .bin .add (.t 38) (.k (.int .i64 9000000)), 0, 0, false, []⟩,
    ⟨some 40, none, .faddr 1 1 (.t 7), 0, 0, false, []⟩,
    ⟨none, none, .store 1 (.t 40) (.t 39), 0, 0, false, []⟩])
   (.seq (.seg false [⟨some 42, none, .bin .eql (.t 27) (.k (.int .i64 2)), 0, 0, false, []⟩,
    ⟨some 41, none, .mov (.t 42), 0, 0, false, []⟩])
   (.cond (.t 41) (.seg false [⟨some 43, none, .mov (.t 0), 0, 0, false, []⟩,
    ⟨some 44, none, .call 145 [.t 43, .k (.int .i64 3)] true false, 0, 0, false, []⟩,
    ⟨some 45, none, .faddr 2 3 (.t 7), 0, 0, false, []⟩,
    ⟨none, none, .store 3 (.t 45) (.t 44), 0, 0, false, []⟩])
   (.seg false [⟨some 28, none, .faddr 0 1 (.t 7), 0, 0, false, []⟩,
    ⟨none, none, .store 1 (.t 28) (.k (.int .i64 101)), 0, 0, false, []⟩])))))))))
   (.skip)))
   (.cutTo [6, 7] (.seq (.seg false [⟨some 46, none, .load true 8 (.t 7), 0, 0, false, []⟩,
    ⟨none, none, .store 8 (.t 6) (.t 46), 0, 0, false, []⟩])
   (.ret))))))⟩
/-- cmp.Compare<int> -/
def F148 : F := ⟨20, [(false, 4, 0, false)],
   .seq (.seg false [⟨some 4, none, .mov (.k (.int .i64 0)), 0, 0, false, []⟩])
   (.seq (.seg false [⟨some 7, none, .mov (.t 0), 0, 0, false, []⟩,
    ⟨some 8, none, .call 188 [.t 7] false false, 0, 0, false, []⟩,
    ⟨some 5, none, .mov (.t 8), 0, 0, false, []⟩])
   (.seq (.seg false [⟨some 9, none, .mov (.t 1), 0, 0, false, []⟩,
    ⟨some 10, none, .call 188 [.t 9] false false, 0, 0, false, []⟩,
    ⟨some 6, none, .mov (.t 10), 0, 0, false, []⟩])
   (.seq (.seq (.seg false [⟨some 11, none, .mov (.t 5), 0, 0, false, []⟩])
   (.cond (.t 11) (.seq (.seq (.seg false [⟨some 12, none, .mov (.t 6), 0, 0, false, []⟩])
   (.cond (.t 12) (.seq (.seg false [⟨some 4, none, .mov (.k (.int .i64 0)), 0, 0, false, []⟩])
   (.ret))
   (.skip)))
   (.seq (.seg false [⟨some 4, none, .mov (.k (.int .i64 (-1))), 0, 0, false, []⟩])
   (.ret)))
   (.skip)))
   (.cutTo [0, 1, 6] (.seq (.seq (.seg false [⟨some 13, none, .mov (.t 6), 0, 0, false, []⟩])
   (.cond (.t 13) (.seq (.seg false [⟨some 4, none, .mov (.k (.int .i64 1)), 0, 0, false, []⟩])
   (.ret))
   (.skip)))
   (.seq (.seq (.seg false [⟨some 14, none, .mov (.t 0), 0, 0, false, []⟩,
    ⟨some 15, none, .mov (.t 1), 0, 0, false, []⟩,
    ⟨some 16, none, .bin .lss (.t 14) (.t 15), 0, 0, false, []⟩])
   (.cond (.t 16) (.seq (.seg false [⟨some 4, none, .mov (.k (.int .i64 (-1))), 0, 0, false, []⟩])
   (.ret))
   (.skip)))
   (.cutTo [0, 1] (.seq (.seq (.seg false [⟨some 17, none, .mov (.t 0), 0, 0, false, []⟩,
    ⟨some 18, none, .mov (.t 1), 0, 0, false, []⟩,
    ⟨some 19, none, .bin .gtr (.t 17) (.t 18), 0, 0, false, []⟩])
   (.cond (.t 19) (.seq (.seg false [⟨some 4, none, .mov (.k (.int .i64 1)), 0, 0, false, []⟩])
   (.ret))
   (.skip)))
   (.cutTo [] (.seq (.seg false [⟨some 4, none, .mov (.k (.int .i64 0)), 0, 0, false, []⟩])
   (.ret)))))))))))⟩
/-- cmp.Compare<string> -/
def F149 : F := ⟨20, [(false, 4, 0, false)],
   .seq (.seg false [⟨some 4, none, .mov (.k (.int .i64 0)), 0, 0, false, []⟩])
   (.seq (.seg false [⟨some 7, none, .mov (.t 0), 0, 0, false, []⟩,
    ⟨some 8, none, .call 189 [.t 7] false false, 0, 0, false, []⟩,
    ⟨some 5, none, .mov (.t 8), 0, 0, false, []⟩])
   (.seq (.seg false [⟨some 9, none, .mov (.t 1), 0, 0, false, []⟩,
    ⟨some 10, none, .call 189 [.t 9] false false, 0, 0, false, []⟩,
    ⟨some 6, none, .mov (.t 10), 0, 0, false, []⟩])
   (.seq (.seq (.seg false [⟨some 11, none, .mov (.t 5), 0, 0, false, []⟩])
   (.cond (.t 11) (.seq (.seq (.seg false [⟨some 12, none, .mov (.t 6), 0, 0, false, []⟩])
   (.cond (.t 12) (.seq (.seg false [⟨some 4, none, .mov (.k (.int .i64 0)), 0, 0, false, []⟩])
   (.ret))
   (.skip)))
   (.seq (.seg false [⟨some 4, none, .mov (.k (.int .i64 (-1))), 0, 0, false, []⟩])
   (.ret)))
   (.skip)))
   (.cutTo [0, 1, 6] (.seq (.seq (.seg false [⟨some 13, none, .mov (.t 6), 0, 0, false, []⟩])
   (.cond (.t 13) (.seq (.seg false [⟨some 4, none, .mov (.k (.int .i64 1)), 0, 0, false, []⟩])
   (.ret))
   (.skip)))
   (.seq (.seq (.seg false [⟨some 14, none, .mov (.t 0), 0, 0, false, []⟩,
    ⟨some 15, none, .mov (.t 1), 0, 0, false, []⟩,
    ⟨some 16, none, .bin .lss (.t 14) (.t 15), 0, 0, false, []⟩])
   (.cond (.t 16) (.seq (.seg false [⟨some 4, none, .mov (.k (.int .i64 (-1))), 0, 0, false, []⟩])
   (.ret))
   (.skip)))
   (.cutTo [0, 1] (.seq (.seq (.seg false [⟨some 17, none, .mov (.t 0), 0, 0, false, []⟩,
    ⟨some 18, none, .mov (.t 1), 0, 0, false, []⟩,
    ⟨some 19, none, .bin .gtr (.t 17) (.t 18), 0, 0, false, []⟩])
   (.cond (.t 19) (.seq (.seg false [⟨some 4, none, .mov (.k (.int .i64 1)), 0, 0, false, []⟩])
   (.ret))
   (.skip)))
   (.cutTo [] (.seq (.seg false [⟨some 4, none, .mov (.k (.int .i64 0)), 0, 0, false, []⟩])
   (.ret)))))))))))⟩
def B147x0 : C := .seq (.seg false [⟨some 9, none, .bin .lss (.t 8) (.t 7), 0, 0, false, []⟩])
   (.seq (.cond (.t 9) (.skip)
   (.exit 0))
   (.seq (.block 1 (.seq (.seg false [⟨some 10, none, .iaddr 1 (.t 6) (.t 8), 0, 0, false, []⟩,
    ⟨some 11, none, .load false 1 (.t 10), 0, 0, false, []⟩,
    ⟨some 5, none, .mov (.t 11), 0, 0, false, []⟩])
   (.seq (.seg false [⟨some 12, none, .mov (.t 5), 0, 0, false, []⟩,
    ⟨some 13, none, .mov (.t 3), 0, 0, false, []⟩,
    ⟨some 14, none, .bin .neq (.t 12) (.t 13), 0, 0, false, []⟩])
   (.cond (.t 14) (.seq (.seg false [⟨some 15, none, .mov (.t 5), 0, 0, false, []⟩,
    ⟨some 2, none, .mov (.t 15), 0, 0, false, []⟩])
   (.ret))
   (.skip)))))
   (.cutTo [3, 6, 7, 8] (.seg false [⟨some 16, none, .bin .add (.t 8) (.k (.int .i64 1)), 0, 0, false, []⟩,
    ⟨some 8, none, .mov (.t 16), 0, 0, false, []⟩]))))
def L147x0 : C := B147x0
theorem evL147x0 (run : Run) (draw : List I → Env → Heap → Option (Env × Heap)) (e : Env) (h : Heap) : evC run draw L147x0 e h = evC run draw B147x0 e h := rfl
/-- cmp.Or<int> -/
def F147 : F := ⟨18, [(false, 2, 0, false)],
   .seq (.seg false [⟨some 2, none, .mov (.k (.int .i64 0)), 0, 0, false, []⟩])
   (.seq (.seg false [⟨some 3, none, .mov (.k (.int .i64 0)), 0, 0, false, []⟩])
   (.seq (.seq (.seg false [⟨some 6, none, .mov (.t 0), 0, 0, false, []⟩,
    ⟨some 7, none, .len false (.t 6), 0, 0, false, []⟩,
    ⟨some 8, none, .mov (.k (.int .i64 0)), 0, 0, false, []⟩])
   (.block 0 (.loop [3, 6, 7, 8] [2, 3] L147x0)))
   (.seq (.seg false [⟨some 17, none, .mov (.t 3), 0, 0, false, []⟩,
    ⟨some 2, none, .mov (.t 17), 0, 0, false, []⟩])
   (.ret))))⟩
def B150x0 : C := .seq (.seq (.seg false [⟨some 4, none, .mov (.t 3), 0, 0, false, []⟩,
    ⟨some 5, none, .mov (.t 0), 0, 0, false, []⟩,
    ⟨some 6, none, .len true (.t 5), 0, 0, false, []⟩,
    ⟨some 7, none, .bin .lss (.t 4) (.t 6), 0, 0, false, []⟩])
   (.cutTo [0, 3, 7] (.cond (.t 7) (.skip)
   (.exit 0))))
   (.cutTo [0, 3] (.seq (.block 1 (.seq (.seg false [⟨some 10, none, .mov (.t 0), 0, 0, false, []⟩,
    ⟨some 11, none, .mov (.t 3), 0, 0, false, []⟩,
    ⟨some 12, none, .idx (.t 10) (.t 11), 0, 0, false, []⟩,
    ⟨some 13, none, .bin .lss (.t 12) (.k (.int .u8 97)), 0, 0, false, []⟩,
    ⟨some 14, none, .mov (.t 13), 0, 0, false, []⟩,
    ⟨some 15, some (14, false), .mov (.t 0), 0, 0, false, []⟩,
    ⟨some 16, some (14, false), .mov (.t 3), 0, 0, false, []⟩,
    ⟨some 17, some (14, false), .idx (.t 15) (.t 16), 0, 0, false, []⟩,
    ⟨some 18, some (14, false), .bin .gtr (.t 17) (.k (.int .u8 122)), 0, 0, false, []⟩,
    ⟨some 19, none, .pick (.t 14) (.k (.bool true)) (.t 18), 0, 0, false, []⟩])
   (.cutTo [0, 3, 19] (.cond (.t 19) (.seq (.seg false [⟨some 2, none, .mov (.k (.bool false)), 0, 0, false, []⟩])
   (.ret))
   (.skip)))))
   (.cutTo [0, 3] (.seg false [⟨some 8, none, .mov (.t 3), 0, 0, false, []⟩,
    ⟨some 9, none, .bin .add (.t 8) (.k (.int .i64 1)), 0, 0, false, []⟩,
    ⟨some 3, none, .mov (.t 9), 0, 0, false, []⟩]))))
def L150x0 : C := B150x0
theorem evL150x0 (run : Run) (draw : List I → Env → Heap → Option (Env × Heap)) (e : Env) (h : Heap) : evC run draw L150x0 e h = evC run draw B150x0 e h := rfl
/-- loop.example/tablehouse/spec.l1Text -/
def F150 : F := ⟨23, [(false, 2, 0, false)],
   .seq (.seg false [⟨some 2, none, .mov (.k (.bool false)), 0, 0, false, []⟩])
   (.seq (.seq (.seg false [⟨some 3, none, .mov (.k (.int .i64 0)), 0, 0, false, []⟩])
   (.block 0 (.loop [0, 3] [0, 2] L150x0)))
   (.seq (.seg false [⟨some 20, none, .mov (.t 0), 0, 0, false, []⟩,
    ⟨some 21, none, .len true (.t 20), 0, 0, false, []⟩,
    ⟨some 22, none, .bin .leq (.t 21) (.k (.int .i64 6)), 0, 0, false, []⟩,
    ⟨some 2, none, .mov (.t 22), 0, 0, false, []⟩])
   (.cutTo [2] (.ret))))⟩
/-- loop.example/tablehouse/spec.l1Less -/
def F151 : F := ⟨8, [(false, 4, 0, false)],
   .seq (.seg false [⟨some 4, none, .mov (.k (.int .i64 0)), 0, 0, false, []⟩])
   (.seq (.seq (.seg false [⟨some 5, none, .mov (.t 0), 0, 0, false, []⟩,
    ⟨some 6, none, .mov (.t 1), 0, 0, false, []⟩,
    ⟨some 7, none, .bin .lss (.t 5) (.t 6), 0, 0, false, []⟩])
   (.cond (.t 7) (.seq (.seg false [⟨some 4, none, .mov (.k (.int .i64 1)), 0, 0, false, []⟩])
   (.ret))
   (.skip)))
   (.cutTo [] (.seq (.seg false [⟨some 4, none, .mov (.k (.int .i64 0)), 0, 0, false, []⟩])
   (.ret))))⟩
/-- loop.example/tablehouse/spec.l1Cmp -/
def F152 : F := ⟨11, [(false, 4, 0, false)],
   .seq (.seg false [⟨some 4, none, .mov (.k (.int .i64 0)), 0, 0, false, []⟩])
   (.seq (.seq (.seg false [⟨some 5, none, .mov (.t 0), 0, 0, false, []⟩,
    ⟨some 6, none, .mov (.t 1), 0, 0, false, []⟩,
    ⟨some 7, none, .bin .lss (.t 5) (.t 6), 0, 0, false, []⟩])
   (.cond (.t 7) (.seq (.seg false [⟨some 4, none, .mov (.k (.int .i64 (-1))), 0, 0, false, []⟩])
   (.ret))
   (.skip)))
   (.cutTo [0, 1] (.seq (.seq (.seg false [⟨some 8, none, .mov (.t 0), 0, 0, false, []⟩,
    ⟨some 9, none, .mov (.t 1), 0, 0, false, []⟩,
    ⟨some 10, none, .bin .gtr (.t 8) (.t 9), 0, 0, false, []⟩])
   (.cond (.t 10) (.seq (.seg false [⟨some 4, none, .mov (.k (.int .i64 1)), 0, 0, false, []⟩])
   (.ret))
   (.skip)))
   (.cutTo [] (.seq (.seg false [⟨some 4, none, .mov (.k (.int .i64 0)), 0, 0, false, []⟩])
   (.ret))))))⟩
def B153x0 : C := .seq (.seg false [⟨some 9, none, .bin .lss (.t 8) (.t 7), 0, 0, false, []⟩])
   (.seq (.cond (.t 9) (.skip)
   (.exit 0))
   (.seq (.block 1 (.seq (.seg false [⟨some 10, none, .iaddr 1 (.t 6) (.t 8), 0, 0, false, []⟩,
    ⟨some 11, none, .load false 1 (.t 10), 0, 0, false, []⟩,
    ⟨some 4, none, .mov (.t 11), 0, 0, false, []⟩])
   (.seq (.seg false [⟨some 12, none, .mov (.t 4), 0, 0, false, []⟩,
    ⟨some 13, none, .conv (.int .i64) (.t 12), 0, 0, false, []⟩,
    ⟨some 14, none, .call 82 [.t 13, .k (.int .i64 97), .k (.int .i64 122)] false false, 0, 0, false, []⟩,
    ⟨some 15, none, .un .not (.t 14), 0, 0, false, []⟩])
   (.cutTo [6, 7, 8, 15] (.cond (.t 15) (.seq (.seg false [⟨some 2, none, .mov (.k (.bool false)), 0, 0, false, []⟩])
   (.ret))
   (.skip))))))
   (.cutTo [6, 7, 8] (.seg false [⟨some 16, none, .bin .add (.t 8) (.k (.int .i64 1)), 0, 0, false, []⟩,
    ⟨some 8, none, .mov (.t 16), 0, 0, false, []⟩]))))
def L153x0 : C := B153x0
theorem evL153x0 (run : Run) (draw : List I → Env → Heap → Option (Env × Heap)) (e : Env) (h : Heap) : evC run draw L153x0 e h = evC run draw B153x0 e h := rfl
/-- loop.example/tablehouse/impl.letters -/
def F153 : F := ⟨17, [(false, 2, 0, false)],
   .seq (.seg false [⟨some 2, none, .mov (.k (.bool false)), 0, 0, false, []⟩])
   (.seq (.seq (.seg false [⟨some 5, none, .mov (.t 0), 0, 0, false, []⟩,
    ⟨some 6, none, .conv .toBytes (.t 5), 0, 0, false, []⟩,
    ⟨some 7, none, .len false (.t 6), 0, 0, false, []⟩,
    ⟨some 8, none, .mov (.k (.int .i64 0)), 0, 0, false, []⟩])
   (.cutTo [6, 7, 8] (.block 0 (.loop [6, 7, 8] [2] L153x0))))
   (.cutTo [] (.seq (.seg false [⟨some 2, none, .mov (.k (.bool true)), 0, 0, false, []⟩])
   (.ret))))⟩
/-- loop.example/tablehouse/spec.l2Bool -/
def F154 : F := ⟨4, [(false, 2, 0, false)],
   .seq (.seg false [⟨some 2, none, .mov (.k (.int .i64 0)), 0, 0, false, []⟩])
   (.seq (.seq (.seg false [⟨some 3, none, .mov (.t 0), 0, 0, false, []⟩])
   (.cond (.t 3) (.seq (.seg false [⟨some 2, none, .mov (.k (.int .i64 1)), 0, 0, false, []⟩])
   (.ret))
   (.skip)))
   (.seq (.seg false [⟨some 2, none, .mov (.k (.int .i64 0)), 0, 0, false, []⟩])
   (.ret)))⟩
/-- (*loop.example/tablehouse/spec.l20Rd).odd -/
def F155 : F := ⟨15, [(false, 4, 0, false)],
   .seq (.seg false [⟨some 4, none, .mov (.k (.bool false)), 0, 0, false, []⟩])
   (.seq (.seg false [⟨some 5, none, .mov (.t 1), 0, 0, false, []⟩,
    ⟨some 6, none, .bin .gtr (.t 5) (.k (.int .i64 0)), 0, 0, false, []⟩,
    ⟨some 7, none, .mov (.t 6), 0, 0, false, []⟩,
    ⟨some 8, some (7, true), .mov (.t 0), 0, 0, false, []⟩,
    ⟨some 9, some (7, true), .mov (.t 1), 0, 0, false, []⟩,
    ⟨some 10, some (7, true), .call 104 [.t 8, .t 9] true false, 0, 0, false, []⟩,
    ⟨some 11, some (7, true), .mov (.t 1), 0, 0, false, []⟩,
    ⟨some 12, some (7, true), .bin .sub (.t 11) (.k (.int .i64 1)), 0, 0, false, []⟩,
    ⟨some 13, some (7, true), .bin .eql (.t 10) (.t 12), 0, 0, false, []⟩,
    ⟨some 14, none, .pick (.t 7) (.t 13) (.k (.bool false)), 0, 0, false, []⟩,
    ⟨some 4, none, .mov (.t 14), 0, 0, false, []⟩])
   (.cutTo [4] (.ret)))⟩
def B156x0 : C := .seq (.seq (.seg false [⟨some 12, none, .mov (.t 8), 0, 0, false, []⟩,
    ⟨some 13, none, .bin .gtr (.t 12) (.k (.int .i64 0)), 0, 0, false, []⟩])
   (.cond (.t 13) (.skip)
   (.exit 0)))
   (.seq (.block 1 (.seq (.seg false [⟨some 16, none, .mov (.t 7), 0, 0, false, []⟩,
    ⟨some 17, none, .len false (.t 16), 0, 0, false, []⟩,
    ⟨some 18, none, .bin .gtr (.t 17) (.k (.int .i64 0)), 0, 0, false, []⟩,
    ⟨some 19, none, .mov (.t 18), 0, 0, false, []⟩,
    ⟨some 20, some (19, true), .mov (.t 0), 0, 0, false, []⟩,
    ⟨some 21, some (19, true), .call 104 [.t 20, .k (.int .i64 3)] true false, 0, 0, false, []⟩,
    ⟨some 22, some (19, true), .bin .eql (.t 21) (.k (.int .i64 0)), 0, 0, false, []⟩,
    ⟨some 23, none, .pick (.t 19) (.t 22) (.k (.bool false)), 0, 0, false, []⟩])
   (.cutTo [0, 1, 2, 7, 8, 23] (.cond (.t 23) (.seg false [⟨some 24, none, .mov (.t 7), 0, 0, false, []⟩,
    ⟨some 25, none, .mov (.t 7), 0, 0, false, []⟩,
    ⟨some 26, none, .mov (.t 0), 0, 0, false, []⟩,
    ⟨some 27, none, .mov (.t 7), 0, 0, false, []⟩,
    ⟨some 28, none, .len false (.t 27), 0, 0, false, []⟩,
    ⟨some 29, none, .call 104 [.t 26, .t 28] true false, 0, 0, false, []⟩,
    ⟨some 30, none, .iaddr 1 (.t 25) (.t 29), 0, 0, false, []⟩,
    ⟨some 31, none, .load false 1 (.t 30), 0, 0, false, []⟩,
    ⟨some 32, none, .call 126 [.t 31] false false, 0, 0, false, []⟩,
    ⟨some 33, none, .mksl false 1 [.t 32], 0, 0, false, []⟩,
    ⟨some 34, none, .app 1 (.t 24) (.t 33), 0, 0, false, []⟩,
    ⟨some 7, none, .mov (.t 34), 0, 0, false, []⟩])
   (.seg false [⟨some 35, none, .mov (.t 7), 0, 0, false, []⟩,
    ⟨some 36, none, .mov (.t 0), 0, 0, false, []⟩,
    ⟨some 37, none, .mov (.t 1), 0, 0, false, []⟩,
    ⟨some 38, none, .mov (.t 2), 0, 0, false, []⟩,
    ⟨some 39, none, .call 190 [.t 36, .t 37, .t 38] true false, 0, 0, false, []⟩,
    ⟨some 40, none, .mksl false 1 [.t 39], 0, 0, false, []⟩,
    ⟨some 41, none, .app 1 (.t 35) (.t 40), 0, 0, false, []⟩,
    ⟨some 7, none, .mov (.t 41), 0, 0, false, []⟩])))))
   (.cutTo [0, 1, 2, 7, 8] (.seg false [⟨some 14, none, .mov (.t 8), 0, 0, false, []⟩,
    ⟨some 15, none, .bin .sub (.t 14) (.k (.int .i64 1)), 0, 0, false, []⟩,
    ⟨some 8, none, .mov (.t 15), 0, 0, false, []⟩])))
def L156x0 : C := B156x0
theorem evL156x0 (run : Run) (draw : List I → Env → Heap → Option (Env × Heap)) (e : Env) (h : Heap) : evC run draw L156x0 e h = evC run draw B156x0 e h := rfl
/-- loop.example/tablehouse/spec.l20Bag -/
def F156 : F := ⟨43, [(false, 6, 0, false)],
   .seq (.seg false [⟨some 6, none, .nilrow 1, 0, 0, false, []⟩])
   (.seq (.seg false [⟨some 9, none, .mksl true 1 [], 0, 0, false, []⟩,
    ⟨some 7, none, .mov (.t 9), 0, 0, false, []⟩])
   (.seq (.seq (.seg false [⟨some 10, none, .mov (.t 0), 0, 0, false, []⟩,
    ⟨some 11, none, .call 104 [.t 10, .k (.int .i64 7)] true false, 0, 0, false, []⟩,
    ⟨some 8, none, .mov (.t 11), 0, 0, false, []⟩])
   (.block 0 (.loop [0, 1, 2, 7, 8] [7] L156x0)))
   (.seq (.seg false [⟨some 42, none, .mov (.t 7), 0, 0, false, []⟩,
    ⟨some 6, none, .mov (.t 42), 0, 0, false, []⟩])
   (.ret))))⟩
/-- slices.ContainsFunc<<>loop.example/tablehouse/impl.Column,loop.example/tablehouse/impl.Column> -/
def F157 : F := ⟨9, [(false, 4, 0, false)],
   .seq (.seg false [⟨some 4, none, .mov (.k (.bool false)), 0, 0, false, []⟩])
   (.seq (.seg false [⟨some 5, none, .mov (.t 0), 0, 0, false, []⟩,
    ⟨some 6, none, .mov (.t 1), 0, 0, false, []⟩,
    ⟨some 7, none, .call 191 [.t 5, .t 6] true false, 0, 0, false, []⟩,
    ⟨some 8, none, .bin .geq (.t 7) (.k (.int .i64 0)), 0, 0, false, []⟩,
    ⟨some 4, none, .mov (.t 8), 0, 0, false, []⟩])
   (.cutTo [4] (.ret)))⟩
/-- loop.example/tablehouse/impl.ColumnsOk$1 -/
def F158 : F := ⟨7, [(false, 2, 0, false)],
   .seq (.seg false [⟨some 1, none, .box (.t 0), 0, 0, false, []⟩,
    ⟨some 2, none, .mov (.k (.bool false)), 0, 0, false, []⟩])
   (.seq (.seg false [⟨some 3, none, .faddr 0 1 (.t 1), 0, 0, false, []⟩,
    ⟨some 4, none, .load false 1 (.t 3), 0, 0, false, []⟩,
    ⟨some 5, none, .call 82 [.t 4, .k (.int .i64 1), .k (.int .i64 3)] false false, 0, 0, false, []⟩,
    ⟨some 6, none, .un .not (.t 5), 0, 0, false, []⟩,
    ⟨some 2, none, .mov (.t 6), 0, 0, false, []⟩])
   (.cutTo [2] (.ret)))⟩
/-- loop.example/tablehouse/impl.KnownOf -/
def F159 : F := ⟨23, [(true, 2, 8, true)],
   .seq (.seg false [⟨some 1, none, .box (.t 0), 0, 0, false, []⟩,
    ⟨some 2, none, .alloc [.int .i64 0, .int .i64 0, .int .i64 0, .int .i64 0, .str ⟨#[]⟩, .int .i64 0, .int .i64 0, .str ⟨#[]⟩], 0, 0, false, []⟩])
   (.seq (.seq (.seg false [⟨some 4, none, .load true 3 (.t 1), 0, 0, false, []⟩,
    ⟨some 5, none, .call 83 [.t 4] false false, 0, 0, false, []⟩,
    ⟨some 6, none, .un .not (.t 5), 0, 0, false, []⟩,
    ⟨some 7, none, .mov (.t 6), 0, 0, false, []⟩,
    ⟨some 8, some (7, false), .faddr 0 1 (.t 1), 0, 0, false, []⟩,
    ⟨some 9, some (7, false), .load false 1 (.t 8), 0, 0, false, []⟩,
    ⟨some 10, some (7, false), .bin .eql (.t 9) (.k (.int .i64 0)), 0, 0, false, []⟩,
    ⟨some 11, none, .pick (.t 7) (.k (.bool true)) (.t 10), 0, 0, false, []⟩])
   (.cutTo [1, 2, 11] (.cond (.t 11) (.seq (.seg false [⟨some 12, none, .build [.int .i64 0, .int .i64 0, .int .i64 0, .int .i64 0, .str ⟨#[]⟩, .int .i64 0, .int .i64 0, .str ⟨#[]⟩] [], 0, 0, false, []⟩,
    ⟨none, none, .store 8 (.t 2) (.t 12), 0, 0, false, []⟩])
   (.ret))
   (.skip))))
   (.cutTo [1, 2] (.seq (.seg false [⟨some 13, none, .load true 3 (.t 1), 0, 0, false, []⟩,
    ⟨some 14, none, .load true 3 (.t 1), 0, 0, false, []⟩,
    ⟨some 15, none, .build [.int .i64 0, .int .i64 0, .int .i64 0, .int .i64 0, .str ⟨#[]⟩, .int .i64 0, .int .i64 0, .str ⟨#[]⟩] [(0, 1, .k (.int .i64 1)), (2, 3, .t 13), (5, 3, .t 14)], 0, 0, false, []⟩,
    ⟨some 3, none, .alloc [.int .i64 0, .int .i64 0, .int .i64 0, .int .i64 0, .str ⟨#[]⟩, .int .i64 0, .int .i64 0, .str ⟨#[]⟩], 0, 0, false, []⟩,
    ⟨none, none, .store 8 (.t 3) (.t 15), 0, 0, false, []⟩])
   (.cutTo [1, 2, 3] (.seq (.seq (.seg false [⟨some 16, none, .faddr 0 1 (.t 1), 0, 0, false, []⟩,
    ⟨some 17, none, .load false 1 (.t 16), 0, 0, false, []⟩,
    ⟨some 18, none, .bin .eql (.t 17) (.k (.int .i64 1)), 0, 0, false, []⟩])
   (.cond (.t 18) (.seg false [⟨some 19, none, .faddr 1 1 (.t 1), 0, 0, false, []⟩,
    ⟨some 20, none, .load false 1 (.t 19), 0, 0, false, []⟩,
    ⟨some 21, none, .faddr 1 1 (.t 3), 0, 0, false, []⟩,
    ⟨none, none, .store 1 (.t 21) (.t 20), 0, 0, false, []⟩])
   (.skip)))
   (.cutTo [2, 3] (.seq (.seg false [⟨some 22, none, .load true 8 (.t 3), 0, 0, false, []⟩,
    ⟨none, none, .store 8 (.t 2) (.t 22), 0, 0, false, []⟩])
   (.ret))))))))⟩
def E160x0 : List I := [⟨some 27, none, .mov (.t 1), 0, 0, false, []⟩,
    ⟨some 28, none, .mov (.t 5), 0, 0, false, []⟩,
    ⟨some 29, none, .iaddr 3 (.t 27) (.t 28), 0, 0, false, []⟩,
    ⟨some 30, none, .faddr 0 1 (.t 29), 0, 0, false, []⟩,
    ⟨some 31, none, .load false 1 (.t 30), 0, 0, false, []⟩,
    ⟨some 32, none, .mov (.t 0), 0, 0, false, []⟩,
    ⟨some 33, none, .mov (.t 5), 0, 0, false, []⟩,
    ⟨some 34, none, .iaddr 2 (.t 32) (.t 33), 0, 0, false, []⟩,
    ⟨some 35, none, .faddr 0 1 (.t 34), 0, 0, false, []⟩,
    ⟨some 36, none, .load false 1 (.t 35), 0, 0, false, []⟩,
    ⟨some 37, none, .bin .neq (.t 31) (.t 36), 0, 0, false, []⟩,
    ⟨some 38, none, .mov (.t 37), 0, 0, false, []⟩,
    ⟨some 39, some (38, true), .mov (.t 1), 0, 0, false, []⟩,
    ⟨some 40, some (38, true), .mov (.t 5), 0, 0, false, []⟩,
    ⟨some 41, some (38, true), .iaddr 3 (.t 39) (.t 40), 0, 0, false, []⟩,
    ⟨some 42, some (38, true), .faddr 0 1 (.t 41), 0, 0, false, []⟩,
    ⟨some 43, some (38, true), .load false 1 (.t 42), 0, 0, false, []⟩,
    ⟨some 44, some (38, true), .bin .neq (.t 43) (.k (.int .i64 0)), 0, 0, false, []⟩,
    ⟨some 45, some (38, true), .mov (.t 44), 0, 0, false, []⟩,
    ⟨some 46, some (45, false), .mov (.t 0), 0, 0, false, []⟩,
    ⟨some 47, some (45, false), .mov (.t 5), 0, 0, false, []⟩,
    ⟨some 48, some (45, false), .iaddr 2 (.t 46) (.t 47), 0, 0, false, []⟩,
    ⟨some 49, some (45, false), .faddr 1 1 (.t 48), 0, 0, false, []⟩,
    ⟨some 50, some (45, false), .load false 1 (.t 49), 0, 0, false, []⟩,
    ⟨some 51, some (45, false), .un .not (.t 50), 0, 0, false, []⟩,
    ⟨some 52, some (38, true), .pick (.t 45) (.k (.bool true)) (.t 51), 0, 0, false, []⟩,
    ⟨some 53, none, .pick (.t 38) (.t 52) (.k (.bool false)), 0, 0, false, []⟩]
def D160x0 : List I := E160x0
theorem evD160x0 (run : Run) (e : Env) (h : Heap) : drawI run D160x0 e h = DrawS (evQ run E160x0 e h) run E160x0 e h := drawI_quiet run _ (by rfl) e h
def B160x0 : C := .seq (.seq (.seg false [⟨some 21, none, .mov (.t 5), 0, 0, false, []⟩,
    ⟨some 22, none, .mov (.t 1), 0, 0, false, []⟩,
    ⟨some 23, none, .len false (.t 22), 0, 0, false, []⟩,
    ⟨some 24, none, .bin .lss (.t 21) (.t 23), 0, 0, false, []⟩])
   (.cutTo [0, 1, 5, 24] (.cond (.t 24) (.skip)
   (.exit 0))))
   (.cutTo [0, 1, 5] (.seq (.block 1 (.seq (.seg true D160x0)
   (.cutTo [0, 1, 5, 53] (.cond (.t 53) (.seq (.seg false [⟨some 4, none, .mov (.k (.bool false)), 0, 0, false, []⟩])
   (.ret))
   (.skip)))))
   (.cutTo [0, 1, 5] (.seg false [⟨some 25, none, .mov (.t 5), 0, 0, false, []⟩,
    ⟨some 26, none, .bin .add (.t 25) (.k (.int .i64 1)), 0, 0, false, []⟩,
    ⟨some 5, none, .mov (.t 26), 0, 0, false, []⟩]))))
def L160x0 : C := B160x0
theorem evL160x0 (run : Run) (draw : List I → Env → Heap → Option (Env × Heap)) (e : Env) (h : Heap) : evC run draw L160x0 e h = evC run draw B160x0 e h := rfl
/-- loop.example/tablehouse/spec.RowFits -/
def F160 : F := ⟨54, [(false, 4, 0, false)],
   .seq (.seg false [⟨some 4, none, .mov (.k (.bool false)), 0, 0, false, []⟩])
   (.seq (.seq (.seg false [⟨some 6, none, .mov (.t 0), 0, 0, false, []⟩,
    ⟨some 7, none, .call 161 [.t 6] false false, 0, 0, false, []⟩,
    ⟨some 8, none, .un .not (.t 7), 0, 0, false, []⟩,
    ⟨some 9, none, .mov (.t 8), 0, 0, false, []⟩,
    ⟨some 10, some (9, false), .mov (.t 1), 0, 0, false, []⟩,
    ⟨some 11, some (9, false), .call 192 [.t 10] false false, 0, 0, false, []⟩,
    ⟨some 12, some (9, false), .un .not (.t 11), 0, 0, false, []⟩,
    ⟨some 13, none, .pick (.t 9) (.k (.bool true)) (.t 12), 0, 0, false, []⟩,
    ⟨some 14, none, .mov (.t 13), 0, 0, false, []⟩,
    ⟨some 15, some (14, false), .mov (.t 1), 0, 0, false, []⟩,
    ⟨some 16, some (14, false), .len false (.t 15), 0, 0, false, []⟩,
    ⟨some 17, some (14, false), .mov (.t 0), 0, 0, false, []⟩,
    ⟨some 18, some (14, false), .len false (.t 17), 0, 0, false, []⟩,
    ⟨some 19, some (14, false), .bin .neq (.t 16) (.t 18), 0, 0, false, []⟩,
    ⟨some 20, none, .pick (.t 14) (.k (.bool true)) (.t 19), 0, 0, false, []⟩])
   (.cutTo [0, 1, 20] (.cond (.t 20) (.seq (.seg false [⟨some 4, none, .mov (.k (.bool false)), 0, 0, false, []⟩])
   (.ret))
   (.skip))))
   (.cutTo [0, 1] (.seq (.seq (.seg false [⟨some 5, none, .mov (.k (.int .i64 0)), 0, 0, false, []⟩])
   (.block 0 (.loop [0, 1, 5] [4] L160x0)))
   (.seq (.seg false [⟨some 4, none, .mov (.k (.bool true)), 0, 0, false, []⟩])
   (.ret)))))⟩
def B161x0 : C := .seq (.seq (.seg false [⟨some 4, none, .mov (.t 3), 0, 0, false, []⟩,
    ⟨some 5, none, .mov (.t 0), 0, 0, false, []⟩,
    ⟨some 6, none, .len false (.t 5), 0, 0, false, []⟩,
    ⟨some 7, none, .bin .lss (.t 4) (.t 6), 0, 0, false, []⟩])
   (.cutTo [0, 3, 7] (.cond (.t 7) (.skip)
   (.exit 0))))
   (.cutTo [0, 3] (.seq (.block 1 (.seq (.seg false [⟨some 10, none, .mov (.t 0), 0, 0, false, []⟩,
    ⟨some 11, none, .mov (.t 3), 0, 0, false, []⟩,
    ⟨some 12, none, .iaddr 2 (.t 10) (.t 11), 0, 0, false, []⟩,
    ⟨some 13, none, .faddr 0 1 (.t 12), 0, 0, false, []⟩,
    ⟨some 14, none, .load false 1 (.t 13), 0, 0, false, []⟩,
    ⟨some 15, none, .call 90 [.t 14, .k (.int .i64 1), .k (.int .i64 3)] false false, 0, 0, false, []⟩,
    ⟨some 16, none, .un .not (.t 15), 0, 0, false, []⟩])
   (.cutTo [0, 3, 16] (.cond (.t 16) (.seq (.seg false [⟨some 2, none, .mov (.k (.bool false)), 0, 0, false, []⟩])
   (.ret))
   (.skip)))))
   (.cutTo [0, 3] (.seg false [⟨some 8, none, .mov (.t 3), 0, 0, false, []⟩,
    ⟨some 9, none, .bin .add (.t 8) (.k (.int .i64 1)), 0, 0, false, []⟩,
    ⟨some 3, none, .mov (.t 9), 0, 0, false, []⟩]))))
def L161x0 : C := B161x0
theorem evL161x0 (run : Run) (draw : List I → Env → Heap → Option (Env × Heap)) (e : Env) (h : Heap) : evC run draw L161x0 e h = evC run draw B161x0 e h := rfl
/-- loop.example/tablehouse/spec.ColumnsOk -/
def F161 : F := ⟨20, [(false, 2, 0, false)],
   .seq (.seg false [⟨some 2, none, .mov (.k (.bool false)), 0, 0, false, []⟩])
   (.seq (.seq (.seg false [⟨some 3, none, .mov (.k (.int .i64 0)), 0, 0, false, []⟩])
   (.block 0 (.loop [0, 3] [0, 2] L161x0)))
   (.seq (.seg false [⟨some 17, none, .mov (.t 0), 0, 0, false, []⟩,
    ⟨some 18, none, .len false (.t 17), 0, 0, false, []⟩,
    ⟨some 19, none, .bin .leq (.t 18) (.k (.int .i64 4)), 0, 0, false, []⟩,
    ⟨some 2, none, .mov (.t 19), 0, 0, false, []⟩])
   (.cutTo [2] (.ret))))⟩
def E95x0 : List I := [⟨some 29, none, .faddr 0 1 (.t 6), 0, 0, false, []⟩,
    ⟨some 30, none, .load false 1 (.t 29), 0, 0, false, []⟩,
    ⟨some 31, none, .mov (.t 0), 0, 0, false, []⟩,
    ⟨some 32, none, .mov (.t 5), 0, 0, false, []⟩,
    ⟨some 33, none, .iaddr 2 (.t 31) (.t 32), 0, 0, false, []⟩,
    ⟨some 34, none, .faddr 0 1 (.t 33), 0, 0, false, []⟩,
    ⟨some 35, none, .load false 1 (.t 34), 0, 0, false, []⟩,
    ⟨some 36, none, .bin .neq (.t 30) (.t 35), 0, 0, false, []⟩,
    ⟨some 37, none, .mov (.t 36), 0, 0, false, []⟩,
    ⟨some 38, some (37, true), .faddr 0 1 (.t 6), 0, 0, false, []⟩,
    ⟨some 39, some (37, true), .load false 1 (.t 38), 0, 0, false, []⟩,
    ⟨some 40, some (37, true), .bin .neq (.t 39) (.k (.int .i64 0)), 0, 0, false, []⟩,
    ⟨some 41, some (37, true), .mov (.t 40), 0, 0, false, []⟩,
    ⟨some 42, some (41, false), .mov (.t 0), 0, 0, false, []⟩,
    ⟨some 43, some (41, false), .mov (.t 5), 0, 0, false, []⟩,
    ⟨some 44, some (41, false), .iaddr 2 (.t 42) (.t 43), 0, 0, false, []⟩,
    ⟨some 45, some (41, false), .faddr 1 1 (.t 44), 0, 0, false, []⟩,
    ⟨some 46, some (41, false), .load false 1 (.t 45), 0, 0, false, []⟩,
    ⟨some 47, some (41, false), .un .not (.t 46), 0, 0, false, []⟩,
    ⟨some 48, some (37, true), .pick (.t 41) (.k (.bool true)) (.t 47), 0, 0, false, []⟩,
    ⟨some 49, none, .pick (.t 37) (.t 48) (.k (.bool false)), 0, 0, false, []⟩]
def D95x0 : List I := E95x0
theorem evD95x0 (run : Run) (e : Env) (h : Heap) : drawI run D95x0 e h = DrawS (evQ run E95x0 e h) run E95x0 e h := drawI_quiet run _ (by rfl) e h
def B95x0 : C := .seq (.seg false [⟨some 25, none, .bin .lss (.t 24) (.t 23), 0, 0, false, []⟩])
   (.seq (.cond (.t 25) (.skip)
   (.exit 0))
   (.seq (.block 1 (.seq (.seg false [⟨some 26, none, .mov (.t 24), 0, 0, false, []⟩,
    ⟨some 27, none, .iaddr 3 (.t 22) (.t 24), 0, 0, false, []⟩,
    ⟨some 28, none, .load true 3 (.t 27), 0, 0, false, []⟩,
    ⟨some 6, none, .alloc [.int .i64 0, .int .i64 0, .str ⟨#[]⟩], 0, 0, false, []⟩,
    ⟨some 5, none, .mov (.t 26), 0, 0, false, []⟩,
    ⟨none, none, .store 3 (.t 6) (.t 28), 0, 0, false, []⟩])
   (.cutTo [0, 5, 6, 22, 23, 24] (.seq (.seg true D95x0)
   (.cutTo [0, 22, 23, 24, 49] (.cond (.t 49) (.seq (.seg false [⟨some 4, none, .mov (.k (.bool false)), 0, 0, false, []⟩])
   (.ret))
   (.skip)))))))
   (.cutTo [0, 22, 23, 24] (.seg false [⟨some 50, none, .bin .add (.t 24) (.k (.int .i64 1)), 0, 0, false, []⟩,
    ⟨some 24, none, .mov (.t 50), 0, 0, false, []⟩]))))
def L95x0 : C := B95x0
theorem evL95x0 (run : Run) (draw : List I → Env → Heap → Option (Env × Heap)) (e : Env) (h : Heap) : evC run draw L95x0 e h = evC run draw B95x0 e h := rfl
/-- loop.example/tablehouse/impl.RowFits -/
def F95 : F := ⟨51, [(false, 4, 0, false)],
   .seq (.seg false [⟨some 4, none, .mov (.k (.bool false)), 0, 0, false, []⟩])
   (.seq (.seq (.seg false [⟨some 7, none, .mov (.t 0), 0, 0, false, []⟩,
    ⟨some 8, none, .call 87 [.t 7] false false, 0, 0, false, []⟩,
    ⟨some 9, none, .un .not (.t 8), 0, 0, false, []⟩,
    ⟨some 10, none, .mov (.t 9), 0, 0, false, []⟩,
    ⟨some 11, some (10, false), .mov (.t 1), 0, 0, false, []⟩,
    ⟨some 12, some (10, false), .call 128 [.t 11] false false, 0, 0, false, []⟩,
    ⟨some 13, some (10, false), .un .not (.t 12), 0, 0, false, []⟩,
    ⟨some 14, none, .pick (.t 10) (.k (.bool true)) (.t 13), 0, 0, false, []⟩,
    ⟨some 15, none, .mov (.t 14), 0, 0, false, []⟩,
    ⟨some 16, some (15, false), .mov (.t 1), 0, 0, false, []⟩,
    ⟨some 17, some (15, false), .len false (.t 16), 0, 0, false, []⟩,
    ⟨some 18, some (15, false), .mov (.t 0), 0, 0, false, []⟩,
    ⟨some 19, some (15, false), .len false (.t 18), 0, 0, false, []⟩,
    ⟨some 20, some (15, false), .bin .neq (.t 17) (.t 19), 0, 0, false, []⟩,
    ⟨some 21, none, .pick (.t 15) (.k (.bool true)) (.t 20), 0, 0, false, []⟩])
   (.cutTo [0, 1, 21] (.cond (.t 21) (.seq (.seg false [⟨some 4, none, .mov (.k (.bool false)), 0, 0, false, []⟩])
   (.ret))
   (.skip))))
   (.cutTo [0, 1] (.seq (.seq (.seg false [⟨some 22, none, .mov (.t 1), 0, 0, false, []⟩,
    ⟨some 23, none, .len false (.t 22), 0, 0, false, []⟩,
    ⟨some 24, none, .mov (.k (.int .i64 0)), 0, 0, false, []⟩])
   (.block 0 (.loop [0, 22, 23, 24] [4] L95x0)))
   (.seq (.seg false [⟨some 4, none, .mov (.k (.bool true)), 0, 0, false, []⟩])
   (.ret)))))⟩
def B162x0 : C := .seq (.seg false [⟨some 9, none, .bin .lss (.t 8) (.t 7), 0, 0, false, []⟩])
   (.seq (.cond (.t 9) (.skip)
   (.exit 0))
   (.seq (.block 1 (.seq (.seg false [⟨some 10, none, .mov (.t 8), 0, 0, false, []⟩,
    ⟨some 5, none, .mov (.t 10), 0, 0, false, []⟩])
   (.seq (.seg false [⟨some 11, none, .mov (.t 1), 0, 0, false, []⟩,
    ⟨some 12, none, .mov (.t 0), 0, 0, false, []⟩,
    ⟨some 13, none, .mov (.t 5), 0, 0, false, []⟩,
    ⟨some 14, none, .iaddr 1 (.t 12) (.t 13), 0, 0, false, []⟩,
    ⟨some 15, none, .load false 1 (.t 14), 0, 0, false, []⟩,
    ⟨some 16, none, .callv (.t 11) [.t 15] false, 0, 0, false, []⟩])
   (.cutTo [0, 1, 5, 7, 8, 16] (.cond (.t 16) (.seq (.seg false [⟨some 17, none, .mov (.t 5), 0, 0, false, []⟩,
    ⟨some 4, none, .mov (.t 17), 0, 0, false, []⟩])
   (.ret))
   (.skip))))))
   (.cutTo [0, 1, 7, 8] (.seg false [⟨some 18, none, .bin .add (.t 8) (.k (.int .i64 1)), 0, 0, false, []⟩,
    ⟨some 8, none, .mov (.t 18), 0, 0, false, []⟩]))))
def L162x0 : C := B162x0
theorem evL162x0 (run : Run) (draw : List I → Env → Heap → Option (Env × Heap)) (e : Env) (h : Heap) : evC run draw L162x0 e h = evC run draw B162x0 e h := rfl
/-- slices.IndexFunc<<><>loop.example/tablehouse/impl.Value,<>loop.example/tablehouse/impl.Value> -/
def F162 : F := ⟨19, [(false, 4, 0, false)],
   .seq (.seg false [⟨some 4, none, .mov (.k (.int .i64 0)), 0, 0, false, []⟩])
   (.seq (.seq (.seg false [⟨some 6, none, .mov (.t 0), 0, 0, false, []⟩,
    ⟨some 7, none, .len false (.t 6), 0, 0, false, []⟩,
    ⟨some 8, none, .mov (.k (.int .i64 0)), 0, 0, false, []⟩])
   (.block 0 (.loop [0, 1, 7, 8] [4] L162x0)))
   (.seq (.seg false [⟨some 4, none, .mov (.k (.int .i64 (-1))), 0, 0, false, []⟩])
   (.ret)))⟩
/-- loop.example/tablehouse/laws.szValue -/
def F163 : F := ⟨13, [(false, 4, 0, false)],
   .seq (.seg false [⟨some 2, none, .box (.t 0), 0, 0, false, []⟩,
    ⟨some 4, none, .mov (.k (.int .i64 0)), 0, 0, false, []⟩])
   (.seq (.seg false [⟨some 5, none, .mov (.t 1), 0, 0, false, []⟩,
    ⟨some 6, none, .faddr 2 1 (.t 2), 0, 0, false, []⟩,
    ⟨some 7, none, .load false 1 (.t 6), 0, 0, false, []⟩,
    ⟨some 8, none, .len true (.t 7), 0, 0, false, []⟩,
    ⟨some 9, none, .bin .sub (.t 5) (.t 8), 0, 0, false, []⟩,
    ⟨some 1, none, .mov (.t 9), 0, 0, false, []⟩])
   (.cutTo [1] (.seq (.seq (.seg false [⟨some 10, none, .mov (.t 1), 0, 0, false, []⟩,
    ⟨some 11, none, .bin .lss (.t 10) (.k (.int .i64 0)), 0, 0, false, []⟩])
   (.cond (.t 11) (.seq (.seg false [⟨some 4, none, .mov (.k (.int .i64 (-1))), 0, 0, false, []⟩])
   (.ret))
   (.skip)))
   (.seq (.seg false [⟨some 12, none, .mov (.t 1), 0, 0, false, []⟩,
    ⟨some 4, none, .mov (.t 12), 0, 0, false, []⟩])
   (.ret)))))⟩
/-- loop.example/tablehouse/laws.toValue -/
def F164 : F := ⟨14, [(true, 2, 3, true)],
   .seq (.seg false [⟨some 1, none, .box (.t 0), 0, 0, false, []⟩,
    ⟨some 2, none, .alloc [.int .i64 0, .int .i64 0, .str ⟨#[]⟩], 0, 0, false, []⟩])
   (.seq (.seg false [⟨some 3, none, .alloc [.int .i64 0, .int .i64 0, .str ⟨#[]⟩], 0, 0, false, []⟩])
   (.seq (.seg false [⟨some 4, none, .faddr 0 1 (.t 1), 0, 0, false, []⟩,
    ⟨some 5, none, .load false 1 (.t 4), 0, 0, false, []⟩,
    ⟨some 6, none, .faddr 0 1 (.t 3), 0, 0, false, []⟩,
    ⟨none, none, .store 1 (.t 6) (.t 5), 0, 0, false, []⟩])
   (.cutTo [1, 2, 3] (.seq (.seg false [⟨some 7, none, .faddr 1 1 (.t 1), 0, 0, false, []⟩,
    ⟨some 8, none, .load false 1 (.t 7), 0, 0, false, []⟩,
    ⟨some 9, none, .faddr 1 1 (.t 3), 0, 0, false, []⟩,
    ⟨none, none, .store 1 (.t 9) (.t 8), 0, 0, false, []⟩])
   (.cutTo [1, 2, 3] (.seq (.seg false [⟨some 10, none, .faddr 2 1 (.t 1), 0, 0, false, []⟩,
    ⟨some 11, none, .load false 1 (.t 10), 0, 0, false, []⟩,
    ⟨some 12, none, .faddr 2 1 (.t 3), 0, 0, false, []⟩,
    ⟨none, none, .store 1 (.t 12) (.t 11), 0, 0, false, []⟩])
   (.cutTo [2, 3] (.seq (.seg false [⟨some 13, none, .load true 3 (.t 3), 0, 0, false, []⟩,
    ⟨none, none, .store 3 (.t 2) (.t 13), 0, 0, false, []⟩])
   (.ret)))))))))⟩
def B166x0 : C := .seq (.seq (.seg false [⟨some 9, none, .mov (.t 6), 0, 0, false, []⟩,
    ⟨some 10, none, .bin .lss (.t 9) (.k (.int .i64 5)), 0, 0, false, []⟩])
   (.cond (.t 10) (.skip)
   (.exit 0)))
   (.seq (.block 1 (.seq (.seg false [⟨some 13, none, .mov (.t 0), 0, 0, false, []⟩,
    ⟨some 14, none, .call 104 [.t 13, .k (.int .i64 3)] true false, 0, 0, false, []⟩,
    ⟨some 15, none, .bin .eql (.t 14) (.k (.int .i64 0)), 0, 0, false, []⟩])
   (.cond (.t 15) (.seq (.seg false [⟨some 16, none, .mov (.t 6), 0, 0, false, []⟩,
    ⟨some 17, none, .build [.int .i64 0, .sl true 3 [], .bool false] [(0, 1, .t 16)], 0, 0, false, []⟩,
    ⟨some 7, none, .alloc [.int .i64 0, .sl true 3 [], .bool false], 0, 0, false, []⟩,
    ⟨none, none, .store 3 (.t 7) (.t 17), 0, 0, false, []⟩])
   (.cutTo [0, 1, 5, 6, 7] (.seq (.seq (.seg false [⟨some 18, none, .mov (.t 0), 0, 0, false, []⟩,
    ⟨some 19, none, .call 104 [.t 18, .k (.int .i64 3)] true false, 0, 0, false, []⟩,
    ⟨some 20, none, .bin .eql (.t 19) (.k (.int .i64 0)), 0, 0, false, []⟩])
   (.cond (.t 20) (.seg false [⟨some 21, none, .faddr 2 1 (.t 7), 0, 0, false, []⟩,
    ⟨none, none, .store 1 (.t 21) (.k (.bool true)), 0, 0, false, []⟩])
   (.seg false [⟨some 22, none, .mov (.t 0), 0, 0, false, []⟩,
    ⟨some 23, none, .call 197 [.t 22] true false, 0, 0, false, []⟩,
    ⟨some 24, none, .faddr 1 1 (.t 7), 0, 0, false, []⟩,
    ⟨none, none, .store 1 (.t 24) (.t 23), 0, 0, false, []⟩])))
   (.cutTo [0, 1, 5, 6, 7] (.seg false [⟨some 25, none, .mov (.t 5), 0, 0, false, []⟩,
    ⟨some 26, none, .load true 3 (.t 7), 0, 0, false, []⟩,
    ⟨some 27, none, .mksl false 3 [.t 26], 0, 0, false, []⟩,
    ⟨some 28, none, .app 3 (.t 25) (.t 27), 0, 0, false, []⟩,
    ⟨some 5, none, .mov (.t 28), 0, 0, false, []⟩])))))
   (.skip))))
   (.cutTo [0, 1, 5, 6] (.seg false [⟨some 11, none, .mov (.t 6), 0, 0, false, []⟩,
    ⟨some 12, none, .bin .add (.t 11) (.k (.int .i64 1)), 0, 0, false, []⟩,
    ⟨some 6, none, .mov (.t 12), 0, 0, false, []⟩])))
def L166x0 : C := B166x0
theorem evL166x0 (run : Run) (draw : List I → Env → Heap → Option (Env × Heap)) (e : Env) (h : Heap) : evC run draw L166x0 e h = evC run draw B166x0 e h := rfl
/-- loop.example/tablehouse/spec.l20Writes -/
def F166 : F := ⟨58, [(false, 4, 0, false)],
   .seq (.seg false [⟨some 4, none, .nilrow 3, 0, 0, false, []⟩])
   (.seq (.seg false [⟨some 8, none, .mksl true 3 [], 0, 0, false, []⟩,
    ⟨some 5, none, .mov (.t 8), 0, 0, false, []⟩])
   (.seq (.seq (.seg false [⟨some 6, none, .mov (.k (.int .i64 0)), 0, 0, false, []⟩])
   (.block 0 (.loop [0, 1, 5, 6] [0, 1, 5] L166x0)))
   (.seq (.seq (.seg false [⟨some 29, none, .mov (.t 0), 0, 0, false, []⟩,
    ⟨some 30, none, .mov (.t 1), 0, 0, false, []⟩,
    ⟨some 31, none, .call 155 [.t 29, .t 30] true false, 0, 0, false, []⟩])
   (.cond (.t 31) (.seq (.seg false [⟨some 32, none, .mov (.t 0), 0, 0, false, []⟩,
    ⟨some 33, none, .call 104 [.t 32, .k (.int .i64 3)] true false, 0, 0, false, []⟩])
   (.block 2 (.seq (.seg false [⟨some 41, none, .bin .eql (.t 33) (.k (.int .i64 0)), 0, 0, false, []⟩,
    ⟨some 40, none, .mov (.t 41), 0, 0, false, []⟩])
   (.cond (.t 40) (.seg false [⟨some 42, none, .mov (.t 5), 0, 0, false, []⟩,
    ⟨some 43, none, .mov (.t 0), 0, 0, false, []⟩,
    ⟨some 44, none, .call 104 [.t 43, .k (.int .i64 8)] true false, 0, 0, false, []⟩,
    ⟨some 45, none, .bin .sub (.t 44) (.k (.int .i64 1)), 0, 0, false, []⟩,
    ⟨some 46, none, .build [.int .i64 0, .sl true 3 [], .bool false] [(0, 1, .t 45)], 0, 0, false, []⟩,
    ⟨some 47, none, .mksl false 3 [.t 46], 0, 0, false, []⟩,
    ⟨some 48, none, .app 3 (.t 42) (.t 47), 0, 0, false, []⟩,
    ⟨some 5, none, .mov (.t 48), 0, 0, false, []⟩])
   (.seq (.seg false [⟨some 50, none, .bin .eql (.t 33) (.k (.int .i64 1)), 0, 0, false, []⟩,
    ⟨some 49, none, .mov (.t 50), 0, 0, false, []⟩])
   (.cond (.t 49) (.seg false [⟨some 51, none, .mov (.t 5), 0, 0, false, []⟩,
    ⟨some 52, none, .mov (.t 0), 0, 0, false, []⟩,
    ⟨some 53, none, .call 197 [.t 52] true false, 0, 0, false, []⟩,
    ⟨some 54, none, .build [.int .i64 0, .sl true 3 [], .bool false] [(0, 1, .k (.int .i64 4)), (1, 1, .t 53), (2, 1, .k (.bool true))], 0, 0, false, []⟩,
    ⟨some 55, none, .mksl false 3 [.t 54], 0, 0, false, []⟩,
    ⟨some 56, none, .app 3 (.t 51) (.t 55), 0, 0, false, []⟩,
    ⟨some 5, none, .mov (.t 56), 0, 0, false, []⟩])
   (.seg false [⟨some 34, none, .mov (.t 5), 0, 0, false, []⟩,
    ⟨some 35, none, .mov (.t 0), 0, 0, false, []⟩,
    ⟨some 36, none, .call 198 [.t 35, .k (.int .i64 1)] true false, 0, 0, false, []⟩,
    ⟨some 37, none, .build [.int .i64 0, .sl true 3 [], .bool false] [(0, 1, .k (.int .i64 0)), (1, 1, .t 36)], 0, 0, false, []⟩,
    ⟨some 38, none, .mksl false 3 [.t 37], 0, 0, false, []⟩,
    ⟨some 39, none, .app 3 (.t 34) (.t 38), 0, 0, false, []⟩,
    ⟨some 5, none, .mov (.t 39), 0, 0, false, []⟩])))))))
   (.skip)))
   (.cutTo [5] (.seq (.seg false [⟨some 57, none, .mov (.t 5), 0, 0, false, []⟩,
    ⟨some 4, none, .mov (.t 57), 0, 0, false, []⟩])
   (.ret))))))⟩
def B165x0 : C := .seq (.seq (.seg false [⟨some 25, none, .mov (.t 8), 0, 0, false, []⟩,
    ⟨some 26, none, .bin .lss (.t 25) (.k (.int .i64 5)), 0, 0, false, []⟩])
   (.cond (.t 26) (.skip)
   (.exit 0)))
   (.seq (.block 1 (.seq (.seg false [⟨some 29, none, .mov (.t 0), 0, 0, false, []⟩,
    ⟨some 30, none, .mov (.t 8), 0, 0, false, []⟩,
    ⟨some 31, none, .call 194 [.t 29, .t 30] false false, 0, 0, false, []⟩,
    ⟨some 32, none, .mov (.t 2), 0, 0, false, []⟩,
    ⟨some 33, none, .bin .geq (.t 31) (.t 32), 0, 0, false, []⟩])
   (.cutTo [0, 1, 2, 8, 33] (.cond (.t 33) (.seq (.seg false [⟨some 34, none, .mksl false 4 [], 0, 0, false, []⟩,
    ⟨some 6, none, .mov (.t 34), 0, 0, false, []⟩,
    ⟨some 7, none, .mov (.k (.bool false)), 0, 0, false, []⟩])
   (.ret))
   (.skip)))))
   (.cutTo [0, 1, 2, 8] (.seg false [⟨some 27, none, .mov (.t 8), 0, 0, false, []⟩,
    ⟨some 28, none, .bin .add (.t 27) (.k (.int .i64 1)), 0, 0, false, []⟩,
    ⟨some 8, none, .mov (.t 28), 0, 0, false, []⟩])))
def L165x0 : C := B165x0
theorem evL165x0 (run : Run) (draw : List I → Env → Heap → Option (Env × Heap)) (e : Env) (h : Heap) : evC run draw L165x0 e h = evC run draw B165x0 e h := rfl
def B165x1 : C := .seq (.seq (.seg false [⟨some 37, none, .mov (.t 10), 0, 0, false, []⟩,
    ⟨some 38, none, .mov (.t 1), 0, 0, false, []⟩,
    ⟨some 39, none, .len false (.t 38), 0, 0, false, []⟩,
    ⟨some 40, none, .bin .lss (.t 37) (.t 39), 0, 0, false, []⟩])
   (.cutTo [1, 2, 9, 10, 40] (.cond (.t 40) (.skip)
   (.exit 2))))
   (.cutTo [1, 2, 9, 10] (.seq (.block 3 (.seg false [⟨some 43, none, .mov (.t 9), 0, 0, false, []⟩,
    ⟨some 44, none, .mov (.t 1), 0, 0, false, []⟩,
    ⟨some 45, none, .mov (.t 10), 0, 0, false, []⟩,
    ⟨some 46, none, .iaddr 3 (.t 44) (.t 45), 0, 0, false, []⟩,
    ⟨some 47, none, .load true 3 (.t 46), 0, 0, false, []⟩,
    ⟨some 48, none, .mov (.t 2), 0, 0, false, []⟩,
    ⟨some 49, none, .call 196 [.t 43, .t 47, .t 48] false false, 0, 0, false, []⟩,
    ⟨some 9, none, .mov (.t 49), 0, 0, false, []⟩]))
   (.cutTo [1, 2, 9, 10] (.seg false [⟨some 41, none, .mov (.t 10), 0, 0, false, []⟩,
    ⟨some 42, none, .bin .add (.t 41) (.k (.int .i64 1)), 0, 0, false, []⟩,
    ⟨some 10, none, .mov (.t 42), 0, 0, false, []⟩]))))
def L165x1 : C := B165x1
theorem evL165x1 (run : Run) (draw : List I → Env → Heap → Option (Env × Heap)) (e : Env) (h : Heap) : evC run draw L165x1 e h = evC run draw B165x1 e h := rfl
/-- loop.example/tablehouse/spec.WrittenAt -/
def F165 : F := ⟨55, [(false, 6, 0, false), (false, 7, 0, false)],
   .seq (.seg false [⟨some 6, none, .mov (.k (.sl true 4 [])), 0, 0, false, []⟩,
    ⟨some 7, none, .mov (.k (.bool false)), 0, 0, false, []⟩])
   (.seq (.seq (.seg false [⟨some 11, none, .mov (.t 0), 0, 0, false, []⟩,
    ⟨some 12, none, .call 114 [.t 11] false false, 0, 0, false, []⟩,
    ⟨some 13, none, .un .not (.t 12), 0, 0, false, []⟩,
    ⟨some 14, none, .mov (.t 13), 0, 0, false, []⟩,
    ⟨some 15, some (14, false), .mov (.t 1), 0, 0, false, []⟩,
    ⟨some 16, some (14, false), .call 193 [.t 15] false false, 0, 0, false, []⟩,
    ⟨some 17, some (14, false), .un .not (.t 16), 0, 0, false, []⟩,
    ⟨some 18, none, .pick (.t 14) (.k (.bool true)) (.t 17), 0, 0, false, []⟩,
    ⟨some 19, none, .mov (.t 18), 0, 0, false, []⟩,
    ⟨some 20, some (19, false), .mov (.t 2), 0, 0, false, []⟩,
    ⟨some 21, some (19, false), .call 90 [.t 20, .k (.int .i64 1), .k (.int .i64 40)] false false, 0, 0, false, []⟩,
    ⟨some 22, some (19, false), .un .not (.t 21), 0, 0, false, []⟩,
    ⟨some 23, none, .pick (.t 19) (.k (.bool true)) (.t 22), 0, 0, false, []⟩])
   (.cutTo [0, 1, 2, 23] (.cond (.t 23) (.seq (.seg false [⟨some 24, none, .mksl false 4 [], 0, 0, false, []⟩,
    ⟨some 6, none, .mov (.t 24), 0, 0, false, []⟩,
    ⟨some 7, none, .mov (.k (.bool false)), 0, 0, false, []⟩])
   (.ret))
   (.skip))))
   (.cutTo [0, 1, 2] (.seq (.seq (.seg false [⟨some 8, none, .mov (.k (.int .i64 0)), 0, 0, false, []⟩])
   (.block 0 (.loop [0, 1, 2, 8] [0, 1, 2, 6, 7] L165x0)))
   (.seq (.seg false [⟨some 35, none, .mov (.t 0), 0, 0, false, []⟩,
    ⟨some 36, none, .call 195 [.t 35] false false, 0, 0, false, []⟩,
    ⟨some 9, none, .mov (.t 36), 0, 0, false, []⟩])
   (.seq (.seq (.seg false [⟨some 10, none, .mov (.k (.int .i64 0)), 0, 0, false, []⟩])
   (.block 2 (.loop [1, 2, 9, 10] [9] L165x1)))
   (.seq (.seq (.seg false [⟨some 50, none, .mov (.t 9), 0, 0, false, []⟩,
    ⟨some 51, none, .len false (.t 50), 0, 0, false, []⟩,
    ⟨some 52, none, .bin .gtr (.t 51) (.k (.int .i64 60)), 0, 0, false, []⟩])
   (.cond (.t 52) (.seq (.seg false [⟨some 53, none, .mksl false 4 [], 0, 0, false, []⟩,
    ⟨some 6, none, .mov (.t 53), 0, 0, false, []⟩,
    ⟨some 7, none, .mov (.k (.bool false)), 0, 0, false, []⟩])
   (.ret))
   (.skip)))
   (.cutTo [9] (.seq (.seg false [⟨some 54, none, .mov (.t 9), 0, 0, false, []⟩,
    ⟨some 6, none, .mov (.t 54), 0, 0, false, []⟩,
    ⟨some 7, none, .mov (.k (.bool true)), 0, 0, false, []⟩])
   (.ret)))))))))⟩
/-- slices.Clip<<><>loop.example/tablehouse/impl.Value,<>loop.example/tablehouse/impl.Value> -/
def F167 : F := ⟨9, [(false, 2, 0, false)],
   .seq (.seg false [⟨some 2, none, .mov (.k (.sl true 1 [])), 0, 0, false, []⟩])
   (.seq (.seg false [⟨some 3, none, .mov (.t 0), 0, 0, false, []⟩,
    ⟨some 4, none, .mov (.t 0), 0, 0, false, []⟩,
    ⟨some 5, none, .len false (.t 4), 0, 0, false, []⟩,
    ⟨some 6, none, .mov (.t 0), 0, 0, false, []⟩,
    ⟨some 7, none, .len false (.t 6), 0, 0, false, []⟩,
    ⟨some 8, none, .slc false 1 (.t 3) none (some (.t 5)) (some (.t 7)), 0, 0, false, []⟩,
    ⟨some 2, none, .mov (.t 8), 0, 0, false, []⟩])
   (.cutTo [2] (.ret)))⟩
/-- loop.example/tablehouse/spec.l13Seen -/
def F168 : F := ⟨20, [(false, 4, 0, false)],
   .seq (.seg false [⟨some 2, none, .box (.t 0), 0, 0, false, []⟩,
    ⟨some 4, none, .mov (.k (.bool false)), 0, 0, false, []⟩])
   (.seq (.seg false [⟨some 5, none, .faddr 1 1 (.t 2), 0, 0, false, []⟩,
    ⟨some 6, none, .load false 1 (.t 5), 0, 0, false, []⟩,
    ⟨some 7, none, .mov (.t 1), 0, 0, false, []⟩,
    ⟨some 8, none, .bin .leq (.t 6) (.t 7), 0, 0, false, []⟩,
    ⟨some 9, none, .mov (.t 8), 0, 0, false, []⟩,
    ⟨some 10, some (9, true), .faddr 2 1 (.t 2), 0, 0, false, []⟩,
    ⟨some 11, some (9, true), .load false 1 (.t 10), 0, 0, false, []⟩,
    ⟨some 12, some (9, true), .bin .eql (.t 11) (.k (.int .i64 0)), 0, 0, false, []⟩,
    ⟨some 13, some (9, true), .mov (.t 12), 0, 0, false, []⟩,
    ⟨some 14, some (13, false), .mov (.t 1), 0, 0, false, []⟩,
    ⟨some 15, some (13, false), .faddr 2 1 (.t 2), 0, 0, false, []⟩,
    ⟨some 16, some (13, false), .load false 1 (.t 15), 0, 0, false, []⟩,
    ⟨some 17, some (13, false), .bin .lss (.t 14) (.t 16), 0, 0, false, []⟩,
    ⟨some 18, some (9, true), .pick (.t 13) (.k (.bool true)) (.t 17), 0, 0, false, []⟩,
    ⟨some 19, none, .pick (.t 9) (.t 18) (.k (.bool false)), 0, 0, false, []⟩,
    ⟨some 4, none, .mov (.t 19), 0, 0, false, []⟩])
   (.cutTo [4] (.ret)))⟩
/-- slices.Clip<<>loop.example/tablehouse/impl.Value,loop.example/tablehouse/impl.Value> -/
def F169 : F := ⟨9, [(false, 2, 0, false)],
   .seq (.seg false [⟨some 2, none, .mov (.k (.sl true 3 [])), 0, 0, false, []⟩])
   (.seq (.seg false [⟨some 3, none, .mov (.t 0), 0, 0, false, []⟩,
    ⟨some 4, none, .mov (.t 0), 0, 0, false, []⟩,
    ⟨some 5, none, .len false (.t 4), 0, 0, false, []⟩,
    ⟨some 6, none, .mov (.t 0), 0, 0, false, []⟩,
    ⟨some 7, none, .len false (.t 6), 0, 0, false, []⟩,
    ⟨some 8, none, .slc false 3 (.t 3) none (some (.t 5)) (some (.t 7)), 0, 0, false, []⟩,
    ⟨some 2, none, .mov (.t 8), 0, 0, false, []⟩])
   (.cutTo [2] (.ret)))⟩
def B175x0 : C := .seq (.seg false [⟨some 9, none, .bin .lss (.t 8) (.t 7), 0, 0, false, []⟩])
   (.seq (.cond (.t 9) (.skip)
   (.exit 0))
   (.seq (.block 1 (.seq (.seg false [⟨some 10, none, .mov (.t 8), 0, 0, false, []⟩,
    ⟨some 5, none, .mov (.t 10), 0, 0, false, []⟩])
   (.seq (.seg false [⟨some 11, none, .mov (.t 1), 0, 0, false, []⟩,
    ⟨some 12, none, .mov (.t 0), 0, 0, false, []⟩,
    ⟨some 13, none, .mov (.t 5), 0, 0, false, []⟩,
    ⟨some 14, none, .iaddr 4 (.t 12) (.t 13), 0, 0, false, []⟩,
    ⟨some 15, none, .load true 4 (.t 14), 0, 0, false, []⟩,
    ⟨some 16, none, .callv (.t 11) [.t 15] false, 0, 0, false, []⟩])
   (.cutTo [0, 1, 5, 7, 8, 16] (.cond (.t 16) (.seq (.seg false [⟨some 17, none, .mov (.t 5), 0, 0, false, []⟩,
    ⟨some 4, none, .mov (.t 17), 0, 0, false, []⟩])
   (.ret))
   (.skip))))))
   (.cutTo [0, 1, 7, 8] (.seg false [⟨some 18, none, .bin .add (.t 8) (.k (.int .i64 1)), 0, 0, false, []⟩,
    ⟨some 8, none, .mov (.t 18), 0, 0, false, []⟩]))))
def L175x0 : C := B175x0
theorem evL175x0 (run : Run) (draw : List I → Env → Heap → Option (Env × Heap)) (e : Env) (h : Heap) : evC run draw L175x0 e h = evC run draw B175x0 e h := rfl
/-- slices.IndexFunc<<>loop.example/tablehouse/impl.Version,loop.example/tablehouse/impl.Version> -/
def F175 : F := ⟨19, [(false, 4, 0, false)],
   .seq (.seg false [⟨some 4, none, .mov (.k (.int .i64 0)), 0, 0, false, []⟩])
   (.seq (.seq (.seg false [⟨some 6, none, .mov (.t 0), 0, 0, false, []⟩,
    ⟨some 7, none, .len false (.t 6), 0, 0, false, []⟩,
    ⟨some 8, none, .mov (.k (.int .i64 0)), 0, 0, false, []⟩])
   (.block 0 (.loop [0, 1, 7, 8] [4] L175x0)))
   (.seq (.seg false [⟨some 4, none, .mov (.k (.int .i64 (-1))), 0, 0, false, []⟩])
   (.ret)))⟩
/-- slices.Clip<<>loop.example/tablehouse/impl.Version,loop.example/tablehouse/impl.Version> -/
def F174 : F := ⟨9, [(false, 2, 0, false)],
   .seq (.seg false [⟨some 2, none, .mov (.k (.sl true 4 [])), 0, 0, false, []⟩])
   (.seq (.seg false [⟨some 3, none, .mov (.t 0), 0, 0, false, []⟩,
    ⟨some 4, none, .mov (.t 0), 0, 0, false, []⟩,
    ⟨some 5, none, .len false (.t 4), 0, 0, false, []⟩,
    ⟨some 6, none, .mov (.t 0), 0, 0, false, []⟩,
    ⟨some 7, none, .len false (.t 6), 0, 0, false, []⟩,
    ⟨some 8, none, .slc false 4 (.t 3) none (some (.t 5)) (some (.t 7)), 0, 0, false, []⟩,
    ⟨some 2, none, .mov (.t 8), 0, 0, false, []⟩])
   (.cutTo [2] (.ret)))⟩
/-- loop.example/tablehouse/spec.l13Version -/
def F170 : F := ⟨29, [(false, 2, 0, false)],
   .seq (.seg false [⟨some 1, none, .box (.t 0), 0, 0, false, []⟩,
    ⟨some 2, none, .mov (.k (.bool false)), 0, 0, false, []⟩])
   (.seq (.seg false [⟨some 3, none, .faddr 0 1 (.t 1), 0, 0, false, []⟩,
    ⟨some 4, none, .load false 1 (.t 3), 0, 0, false, []⟩,
    ⟨some 5, none, .call 90 [.t 4, .k (.int .i64 0), .k (.int .i64 4)] false false, 0, 0, false, []⟩,
    ⟨some 6, none, .mov (.t 5), 0, 0, false, []⟩,
    ⟨some 7, some (6, true), .faddr 1 1 (.t 1), 0, 0, false, []⟩,
    ⟨some 8, some (6, true), .load false 1 (.t 7), 0, 0, false, []⟩,
    ⟨some 9, some (6, true), .call 90 [.t 8, .k (.int .i64 1), .k (.int .i64 40)] false false, 0, 0, false, []⟩,
    ⟨some 10, none, .pick (.t 6) (.t 9) (.k (.bool false)), 0, 0, false, []⟩,
    ⟨some 11, none, .mov (.t 10), 0, 0, false, []⟩,
    ⟨some 12, some (11, true), .faddr 2 1 (.t 1), 0, 0, false, []⟩,
    ⟨some 13, some (11, true), .load false 1 (.t 12), 0, 0, false, []⟩,
    ⟨some 14, some (11, true), .bin .eql (.t 13) (.k (.int .i64 0)), 0, 0, false, []⟩,
    ⟨some 15, some (11, true), .mov (.t 14), 0, 0, false, []⟩,
    ⟨some 16, some (15, false), .faddr 2 1 (.t 1), 0, 0, false, []⟩,
    ⟨some 17, some (15, false), .load false 1 (.t 16), 0, 0, false, []⟩,
    ⟨some 18, some (15, false), .faddr 1 1 (.t 1), 0, 0, false, []⟩,
    ⟨some 19, some (15, false), .load false 1 (.t 18), 0, 0, false, []⟩,
    ⟨some 20, some (15, false), .bin .add (.t 19) (.k (.int .i64 1)), 0, 0, false, []⟩,
    ⟨some 21, some (15, false), .call 90 [.t 17, .t 20, .k (.int .i64 40)] false false, 0, 0, false, []⟩,
    ⟨some 22, some (11, true), .pick (.t 15) (.k (.bool true)) (.t 21), 0, 0, false, []⟩,
    ⟨some 23, none, .pick (.t 11) (.t 22) (.k (.bool false)), 0, 0, false, []⟩,
    ⟨some 24, none, .mov (.t 23), 0, 0, false, []⟩,
    ⟨some 25, some (24, true), .faddr 3 1 (.t 1), 0, 0, false, []⟩,
    ⟨some 26, some (24, true), .load false 1 (.t 25), 0, 0, false, []⟩,
    ⟨some 27, some (24, true), .call 192 [.t 26] false false, 0, 0, false, []⟩,
    ⟨some 28, none, .pick (.t 24) (.t 27) (.k (.bool false)), 0, 0, false, []⟩,
    ⟨some 2, none, .mov (.t 28), 0, 0, false, []⟩])
   (.cutTo [2] (.ret)))⟩
/-- slices.ContainsFunc<<>loop.example/tablehouse/impl.Value,loop.example/tablehouse/impl.Value> -/
def F176 : F := ⟨9, [(false, 4, 0, false)],
   .seq (.seg false [⟨some 4, none, .mov (.k (.bool false)), 0, 0, false, []⟩])
   (.seq (.seg false [⟨some 5, none, .mov (.t 0), 0, 0, false, []⟩,
    ⟨some 6, none, .mov (.t 1), 0, 0, false, []⟩,
    ⟨some 7, none, .call 199 [.t 5, .t 6] true false, 0, 0, false, []⟩,
    ⟨some 8, none, .bin .geq (.t 7) (.k (.int .i64 0)), 0, 0, false, []⟩,
    ⟨some 4, none, .mov (.t 8), 0, 0, false, []⟩])
   (.cutTo [4] (.ret)))⟩
/-- loop.example/tablehouse/impl.RowOk$1 -/
def F177 : F := ⟨6, [(false, 2, 0, false)],
   .seq (.seg false [⟨some 1, none, .box (.t 0), 0, 0, false, []⟩,
    ⟨some 2, none, .mov (.k (.bool false)), 0, 0, false, []⟩])
   (.seq (.seg false [⟨some 3, none, .load true 3 (.t 1), 0, 0, false, []⟩,
    ⟨some 4, none, .call 83 [.t 3] false false, 0, 0, false, []⟩,
    ⟨some 5, none, .un .not (.t 4), 0, 0, false, []⟩,
    ⟨some 2, none, .mov (.t 5), 0, 0, false, []⟩])
   (.cutTo [2] (.ret)))⟩
def E178x0 : List I := [⟨some 3, none, .faddr 0 1 (.t 1), 0, 0, false, []⟩,
    ⟨some 4, none, .load false 1 (.t 3), 0, 0, false, []⟩,
    ⟨some 5, none, .call 200 [.t 4] false false, 0, 0, false, []⟩,
    ⟨some 6, none, .faddr 1 1 (.t 1), 0, 0, false, []⟩,
    ⟨some 7, none, .load false 1 (.t 6), 0, 0, false, []⟩,
    ⟨some 8, none, .call 109 [.t 7] false false, 0, 0, false, []⟩,
    ⟨some 9, none, .build [.sl true 2 [], .sl true 1 []] [(0, 1, .t 5), (1, 1, .t 8)], 0, 0, false, []⟩,
    ⟨none, none, .store 2 (.t 2) (.t 9), 0, 0, true, []⟩]
def D178x0 : List I := E178x0
theorem evD178x0 (run : Run) (e : Env) (h : Heap) : drawI run D178x0 e h = DrawW (evW run E178x0 e h []) run E178x0 e h := drawI_write run _ e h
/-- loop.example/tablehouse/impl.tableCopy -/
def F178 : F := ⟨10, [(true, 2, 2, true)],
   .seq (.seg false [⟨some 1, none, .box (.t 0), 0, 0, false, []⟩,
    ⟨some 2, none, .alloc [.sl true 2 [], .sl true 1 []], 0, 0, false, []⟩])
   (.seq (.seg true D178x0)
   (.cutTo [2] (.ret)))⟩
def B179x0 : C := .seq (.seg false [⟨some 9, none, .bin .lss (.t 8) (.t 7), 0, 0, false, []⟩])
   (.seq (.cond (.t 9) (.skip)
   (.exit 0))
   (.seq (.block 1 (.seq (.seg false [⟨some 10, none, .mov (.t 8), 0, 0, false, []⟩,
    ⟨some 5, none, .mov (.t 10), 0, 0, false, []⟩])
   (.seq (.seg false [⟨some 11, none, .mov (.t 1), 0, 0, false, []⟩,
    ⟨some 12, none, .mov (.t 0), 0, 0, false, []⟩,
    ⟨some 13, none, .mov (.t 5), 0, 0, false, []⟩,
    ⟨some 14, none, .iaddr 2 (.t 12) (.t 13), 0, 0, false, []⟩,
    ⟨some 15, none, .load true 2 (.t 14), 0, 0, false, []⟩,
    ⟨some 16, none, .callv (.t 11) [.t 15] false, 0, 0, false, []⟩])
   (.cutTo [0, 1, 5, 7, 8, 16] (.cond (.t 16) (.seq (.seg false [⟨some 17, none, .mov (.t 5), 0, 0, false, []⟩,
    ⟨some 4, none, .mov (.t 17), 0, 0, false, []⟩])
   (.ret))
   (.skip))))))
   (.cutTo [0, 1, 7, 8] (.seg false [⟨some 18, none, .bin .add (.t 8) (.k (.int .i64 1)), 0, 0, false, []⟩,
    ⟨some 8, none, .mov (.t 18), 0, 0, false, []⟩]))))
def L179x0 : C := B179x0
theorem evL179x0 (run : Run) (draw : List I → Env → Heap → Option (Env × Heap)) (e : Env) (h : Heap) : evC run draw L179x0 e h = evC run draw B179x0 e h := rfl
/-- slices.IndexFunc<<>loop.example/tablehouse/impl.Table,loop.example/tablehouse/impl.Table> -/
def F179 : F := ⟨19, [(false, 4, 0, false)],
   .seq (.seg false [⟨some 4, none, .mov (.k (.int .i64 0)), 0, 0, false, []⟩])
   (.seq (.seq (.seg false [⟨some 6, none, .mov (.t 0), 0, 0, false, []⟩,
    ⟨some 7, none, .len false (.t 6), 0, 0, false, []⟩,
    ⟨some 8, none, .mov (.k (.int .i64 0)), 0, 0, false, []⟩])
   (.block 0 (.loop [0, 1, 7, 8] [4] L179x0)))
   (.seq (.seg false [⟨some 4, none, .mov (.k (.int .i64 (-1))), 0, 0, false, []⟩])
   (.ret)))⟩
def B180x0 : C := .seq (.seq (.seg false [⟨some 13, none, .mov (.t 6), 0, 0, false, []⟩,
    ⟨some 14, none, .bin .gtr (.t 13) (.k (.int .i64 0)), 0, 0, false, []⟩])
   (.cond (.t 14) (.skip)
   (.exit 0)))
   (.seq (.block 1 (.seq (.seg false [⟨some 17, none, .mov (.t 0), 0, 0, false, []⟩,
    ⟨some 18, none, .call 130 [.t 17, .k (.int .i64 0)] true false, 0, 0, false, []⟩,
    ⟨some 7, none, .mov (.t 18), 0, 0, false, []⟩])
   (.seq (.seg false [⟨some 19, none, .mov (.t 7), 0, 0, false, []⟩,
    ⟨some 20, none, .mov (.t 0), 0, 0, false, []⟩,
    ⟨some 21, none, .call 104 [.t 20, .k (.int .i64 2)] true false, 0, 0, false, []⟩,
    ⟨some 22, none, .mov (.t 7), 0, 0, false, []⟩,
    ⟨some 23, none, .len false (.t 22), 0, 0, false, []⟩,
    ⟨some 24, none, .bin .rem (.t 21) (.t 23), 0, 0, false, []⟩,
    ⟨some 25, none, .bin .add (.k (.int .i64 1)) (.t 24), 0, 0, false, []⟩,
    ⟨some 26, none, .slc false 2 (.t 19) none (some (.t 25)) none, 0, 0, false, []⟩,
    ⟨some 7, none, .mov (.t 26), 0, 0, false, []⟩])
   (.cutTo [0, 1, 5, 6, 7] (.seq (.seg false [⟨some 27, none, .mov (.t 7), 0, 0, false, []⟩,
    ⟨some 28, none, .mov (.t 0), 0, 0, false, []⟩,
    ⟨some 29, none, .mov (.t 7), 0, 0, false, []⟩,
    ⟨some 30, none, .call 156 [.t 28, .t 29, .k (.int .i64 0)] true false, 0, 0, false, []⟩,
    ⟨some 31, none, .build [.sl true 2 [], .sl true 1 []] [(0, 1, .t 27), (1, 1, .t 30)], 0, 0, false, []⟩,
    ⟨some 8, none, .alloc [.sl true 2 [], .sl true 1 []], 0, 0, false, []⟩,
    ⟨none, none, .store 2 (.t 8) (.t 31), 0, 0, false, []⟩])
   (.cutTo [0, 1, 5, 6, 8] (.seg false [⟨some 32, none, .mov (.t 5), 0, 0, false, []⟩,
    ⟨some 33, none, .load true 2 (.t 8), 0, 0, false, []⟩,
    ⟨some 34, none, .mksl false 2 [.t 33], 0, 0, false, []⟩,
    ⟨some 35, none, .app 2 (.t 32) (.t 34), 0, 0, false, []⟩,
    ⟨some 5, none, .mov (.t 35), 0, 0, false, []⟩])))))))
   (.cutTo [0, 1, 5, 6] (.seg false [⟨some 15, none, .mov (.t 6), 0, 0, false, []⟩,
    ⟨some 16, none, .bin .sub (.t 15) (.k (.int .i64 1)), 0, 0, false, []⟩,
    ⟨some 6, none, .mov (.t 16), 0, 0, false, []⟩])))
def L180x0 : C := B180x0
theorem evL180x0 (run : Run) (draw : List I → Env → Heap → Option (Env × Heap)) (e : Env) (h : Heap) : evC run draw L180x0 e h = evC run draw B180x0 e h := rfl
/-- loop.example/tablehouse/spec.l20Tables -/
def F180 : F := ⟨73, [(false, 4, 0, false)],
   .seq (.seg false [⟨some 4, none, .nilrow 2, 0, 0, false, []⟩])
   (.seq (.seg false [⟨some 9, none, .mksl true 2 [], 0, 0, false, []⟩,
    ⟨some 5, none, .mov (.t 9), 0, 0, false, []⟩])
   (.seq (.seq (.seg false [⟨some 10, none, .mov (.t 0), 0, 0, false, []⟩,
    ⟨some 11, none, .call 104 [.t 10, .k (.int .i64 3)] true false, 0, 0, false, []⟩,
    ⟨some 12, none, .bin .add (.k (.int .i64 1)) (.t 11), 0, 0, false, []⟩,
    ⟨some 6, none, .mov (.t 12), 0, 0, false, []⟩])
   (.cutTo [0, 1, 5, 6] (.block 0 (.loop [0, 1, 5, 6] [0, 1, 5] L180x0))))
   (.cutTo [0, 1, 5] (.seq (.seq (.seg false [⟨some 36, none, .mov (.t 0), 0, 0, false, []⟩,
    ⟨some 37, none, .mov (.t 1), 0, 0, false, []⟩,
    ⟨some 38, none, .call 155 [.t 36, .t 37] true false, 0, 0, false, []⟩])
   (.cond (.t 38) (.seq (.seg false [⟨some 39, none, .mov (.t 0), 0, 0, false, []⟩,
    ⟨some 40, none, .call 104 [.t 39, .k (.int .i64 3)] true false, 0, 0, false, []⟩])
   (.block 2 (.seq (.seg false [⟨some 52, none, .bin .eql (.t 40) (.k (.int .i64 0)), 0, 0, false, []⟩,
    ⟨some 51, none, .mov (.t 52), 0, 0, false, []⟩])
   (.cond (.t 51) (.seg false [⟨some 53, none, .mov (.t 5), 0, 0, false, []⟩,
    ⟨some 54, none, .build [.sl true 2 [], .sl true 1 []] [], 0, 0, false, []⟩,
    ⟨some 55, none, .build [.sl true 2 [], .sl true 1 []] [], 0, 0, false, []⟩,
    ⟨some 56, none, .build [.sl true 2 [], .sl true 1 []] [], 0, 0, false, []⟩,
    ⟨some 57, none, .mksl false 2 [.t 54, .t 55, .t 56], 0, 0, false, []⟩,
    ⟨some 58, none, .app 2 (.t 53) (.t 57), 0, 0, false, []⟩,
    ⟨some 5, none, .mov (.t 58), 0, 0, false, []⟩])
   (.seq (.seg false [⟨some 60, none, .bin .eql (.t 40) (.k (.int .i64 1)), 0, 0, false, []⟩,
    ⟨some 59, none, .mov (.t 60), 0, 0, false, []⟩])
   (.cond (.t 59) (.seg false [⟨some 61, none, .mov (.t 5), 0, 0, false, []⟩,
    ⟨some 62, none, .mov (.t 5), 0, 0, false, []⟩,
    ⟨some 63, none, .iaddr 2 (.t 62) (.k (.int .i64 0)), 0, 0, false, []⟩,
    ⟨some 64, none, .faddr 1 1 (.t 63), 0, 0, false, []⟩,
    ⟨some 65, none, .load false 1 (.t 64), 0, 0, false, []⟩,
    ⟨some 66, none, .build [.int .i64 0, .int .i64 0, .str ⟨#[]⟩] [(0, 1, .k (.int .i64 9))], 0, 0, false, []⟩,
    ⟨some 67, none, .mksl false 3 [.t 66], 0, 0, false, []⟩,
    ⟨some 68, none, .mksl false 1 [.t 67], 0, 0, false, []⟩,
    ⟨some 69, none, .app 1 (.t 65) (.t 68), 0, 0, false, []⟩,
    ⟨some 70, none, .iaddr 2 (.t 61) (.k (.int .i64 0)), 0, 0, false, []⟩,
    ⟨some 71, none, .faddr 1 1 (.t 70), 0, 0, false, []⟩,
    ⟨none, none, .store 1 (.t 71) (.t 69), 0, 0, false, []⟩])
   (.seg false [⟨some 41, none, .mov (.t 5), 0, 0, false, []⟩,
    ⟨some 42, none, .mov (.t 5), 0, 0, false, []⟩,
    ⟨some 43, none, .iaddr 2 (.t 42) (.k (.int .i64 0)), 0, 0, false, []⟩,
    ⟨some 44, none, .faddr 0 1 (.t 43), 0, 0, false, []⟩,
    ⟨some 45, none, .load false 1 (.t 44), 0, 0, false, []⟩,
    ⟨some 46, none, .build [.int .i64 0, .bool false] [(0, 1, .k (.int .i64 1))], 0, 0, false, []⟩,
    ⟨some 47, none, .mksl false 2 [.t 46], 0, 0, false, []⟩,
    ⟨some 48, none, .app 2 (.t 45) (.t 47), 0, 0, false, []⟩,
    ⟨some 49, none, .iaddr 2 (.t 41) (.k (.int .i64 0)), 0, 0, false, []⟩,
    ⟨some 50, none, .faddr 0 1 (.t 49), 0, 0, false, []⟩,
    ⟨none, none, .store 1 (.t 50) (.t 48), 0, 0, false, []⟩])))))))
   (.skip)))
   (.cutTo [5] (.seq (.seg false [⟨some 72, none, .mov (.t 5), 0, 0, false, []⟩,
    ⟨some 4, none, .mov (.t 72), 0, 0, false, []⟩])
   (.ret)))))))⟩
def E181x0 : List I := [⟨some 41, none, .faddr 1 1 (.t 8), 0, 1, false, []⟩,
    ⟨some 42, none, .load false 1 (.t 41), 0, 1, false, []⟩,
    ⟨some 43, none, .mov (.t 0), 0, 0, false, []⟩,
    ⟨some 44, none, .faddr 1 1 (.t 8), 0, 0, false, []⟩,
    ⟨some 45, none, .load false 1 (.t 44), 0, 0, false, []⟩,
    ⟨some 46, none, .len false (.t 45), 0, 0, false, []⟩,
    ⟨some 47, none, .call 104 [.t 43, .t 46] true false, 0, 0, true, []⟩,
    ⟨some 48, none, .iaddr 1 (.t 42) (.t 47), 1, 1, false, []⟩,
    ⟨some 49, none, .load false 1 (.t 48), 1, 1, false, []⟩,
    ⟨some 50, none, .call 126 [.t 49] false true, 1, 0, true, []⟩,
    ⟨some 51, none, .faddr 1 1 (.t 7), 2, 2, false, []⟩,
    ⟨none, none, .store 1 (.t 51) (.t 50), 2, 0, true, []⟩]
def D181x0 : List I := E181x0
theorem evD181x0 (run : Run) (e : Env) (h : Heap) : drawI run D181x0 e h = DrawW (evW run E181x0 e h []) run E181x0 e h := drawI_write run _ e h
/-- loop.example/tablehouse/spec.l20Change -/
def F181 : F := ⟨81, [(true, 6, 3, true)],
   .seq (.seg false [⟨some 6, none, .alloc [.int .i64 0, .sl true 3 [], .bool false], 0, 0, false, []⟩])
   (.seq (.seg false [⟨some 9, none, .mov (.t 0), 0, 0, false, []⟩,
    ⟨some 10, none, .mov (.t 1), 0, 0, false, []⟩,
    ⟨some 11, none, .len false (.t 10), 0, 0, false, []⟩,
    ⟨some 12, none, .call 104 [.t 9, .t 11] true false, 0, 0, false, []⟩,
    ⟨some 13, none, .mov (.t 0), 0, 0, false, []⟩,
    ⟨some 14, none, .call 104 [.t 13, .k (.int .i64 2)] true false, 0, 0, false, []⟩,
    ⟨some 15, none, .bin .eql (.t 14) (.k (.int .i64 0)), 0, 0, false, []⟩,
    ⟨some 16, none, .build [.int .i64 0, .sl true 3 [], .bool false] [(0, 1, .t 12), (2, 1, .t 15)], 0, 0, false, []⟩,
    ⟨some 7, none, .alloc [.int .i64 0, .sl true 3 [], .bool false], 0, 0, false, []⟩,
    ⟨none, none, .store 3 (.t 7) (.t 16), 0, 0, false, []⟩])
   (.cutTo [0, 1, 2, 6, 7] (.seq (.seg false [⟨some 17, none, .mov (.t 1), 0, 0, false, []⟩,
    ⟨some 18, none, .faddr 0 1 (.t 7), 0, 0, false, []⟩,
    ⟨some 19, none, .load false 1 (.t 18), 0, 0, false, []⟩,
    ⟨some 20, none, .iaddr 2 (.t 17) (.t 19), 0, 0, false, []⟩,
    ⟨some 21, none, .load true 2 (.t 20), 0, 0, false, []⟩,
    ⟨some 8, none, .alloc [.sl true 2 [], .sl true 1 []], 0, 0, false, []⟩,
    ⟨none, none, .store 2 (.t 8) (.t 21), 0, 0, false, []⟩])
   (.cutTo [0, 2, 6, 7, 8] (.seq (.seg false [⟨some 22, none, .mov (.t 0), 0, 0, false, []⟩,
    ⟨some 23, none, .faddr 0 1 (.t 8), 0, 0, false, []⟩,
    ⟨some 24, none, .load false 1 (.t 23), 0, 0, false, []⟩,
    ⟨some 25, none, .call 190 [.t 22, .t 24, .k (.int .i64 0)] true true, 0, 0, false, []⟩,
    ⟨some 26, none, .faddr 1 1 (.t 7), 0, 0, false, []⟩,
    ⟨none, none, .store 1 (.t 26) (.t 25), 0, 0, false, []⟩])
   (.cutTo [0, 2, 6, 7, 8] (.seq (.seq (.seg false [⟨some 27, none, .faddr 1 1 (.t 8), 0, 0, false, []⟩,
    ⟨some 28, none, .load false 1 (.t 27), 0, 0, false, []⟩,
    ⟨some 29, none, .len false (.t 28), 0, 0, false, []⟩,
    ⟨some 30, none, .bin .eql (.t 29) (.k (.int .i64 6)), 0, 0, false, []⟩])
   (.cutTo [0, 2, 6, 7, 8, 30] (.cond (.t 30) (.seg false [⟨some 31, none, .faddr 2 1 (.t 7), 0, 0, false, []⟩,
    ⟨none, none, .store 1 (.t 31) (.k (.bool false)), 0, 0, false, []⟩])
   (.skip))))
   (.cutTo [0, 2, 6, 7, 8] (.seq (.seq (.seg false [⟨some 32, none, .faddr 2 1 (.t 7), 0, 0, false, []⟩,
    ⟨some 33, none, .load false 1 (.t 32), 0, 0, false, []⟩,
    ⟨some 34, none, .un .not (.t 33), 0, 0, false, []⟩,
    ⟨some 35, none, .mov (.t 34), 0, 0, false, []⟩,
    ⟨some 36, some (35, true), .faddr 1 1 (.t 8), 0, 0, false, []⟩,
    ⟨some 37, some (35, true), .load false 1 (.t 36), 0, 0, false, []⟩,
    ⟨some 38, some (35, true), .len false (.t 37), 0, 0, false, []⟩,
    ⟨some 39, some (35, true), .bin .gtr (.t 38) (.k (.int .i64 0)), 0, 0, false, []⟩,
    ⟨some 40, none, .pick (.t 35) (.t 39) (.k (.bool false)), 0, 0, false, []⟩])
   (.cutTo [0, 2, 6, 7, 8, 40] (.cond (.t 40) (.seg true D181x0)
   (.skip))))
   (.cutTo [0, 2, 6, 7, 8] (.seq (.seq (.seg false [⟨some 52, none, .faddr 1 1 (.t 8), 0, 0, false, []⟩,
    ⟨some 53, none, .load false 1 (.t 52), 0, 0, false, []⟩,
    ⟨some 54, none, .len false (.t 53), 0, 0, false, []⟩,
    ⟨some 55, none, .bin .eql (.t 54) (.k (.int .i64 0)), 0, 0, false, []⟩])
   (.cutTo [0, 2, 6, 7, 55] (.cond (.t 55) (.seg false [⟨some 56, none, .faddr 2 1 (.t 7), 0, 0, false, []⟩,
    ⟨none, none, .store 1 (.t 56) (.k (.bool true)), 0, 0, false, []⟩])
   (.skip))))
   (.cutTo [0, 2, 6, 7] (.seq (.seq (.seg false [⟨some 57, none, .mov (.t 0), 0, 0, false, []⟩,
    ⟨some 58, none, .mov (.t 2), 0, 0, false, []⟩,
    ⟨some 59, none, .call 155 [.t 57, .t 58] true false, 0, 0, false, []⟩])
   (.cond (.t 59) (.seq (.seg false [⟨some 60, none, .mov (.t 0), 0, 0, false, []⟩,
    ⟨some 61, none, .call 104 [.t 60, .k (.int .i64 3)] true false, 0, 0, false, []⟩])
   (.block 0 (.seq (.seg false [⟨some 67, none, .bin .eql (.t 61) (.k (.int .i64 0)), 0, 0, false, []⟩,
    ⟨some 66, none, .mov (.t 67), 0, 0, false, []⟩])
   (.cond (.t 66) (.seg false [⟨some 68, none, .mov (.t 0), 0, 0, false, []⟩,
    ⟨some 69, none, .call 104 [.t 68, .k (.int .i64 6)] true false, 0, 0, false, []⟩,
    ⟨some 70, none, .bin .sub (.t 69) (.k (.int .i64 1)), 0, 0, false, []⟩,
    ⟨some 71, none, .faddr 0 1 (.t 7), 0, 0, false, []⟩,
    ⟨none, none, .store 1 (.t 71) (.t 70), 0, 0, false, []⟩])
   (.seq (.seg false [⟨some 73, none, .bin .eql (.t 61) (.k (.int .i64 1)), 0, 0, false, []⟩,
    ⟨some 72, none, .mov (.t 73), 0, 0, false, []⟩])
   (.cond (.t 72) (.seg false [⟨some 74, none, .faddr 1 1 (.t 7), 0, 0, false, []⟩,
    ⟨some 75, none, .load false 1 (.t 74), 0, 0, false, []⟩,
    ⟨some 76, none, .build [.int .i64 0, .int .i64 0, .str ⟨#[]⟩] [], 0, 0, false, []⟩,
    ⟨some 77, none, .mksl false 3 [.t 76], 0, 0, false, []⟩,
    ⟨some 78, none, .app 3 (.t 75) (.t 77), 0, 0, false, []⟩,
    ⟨some 79, none, .faddr 1 1 (.t 7), 0, 0, false, []⟩,
    ⟨none, none, .store 1 (.t 79) (.t 78), 0, 0, false, []⟩])
   (.seg false [⟨some 62, none, .faddr 2 1 (.t 7), 0, 0, false, []⟩,
    ⟨some 63, none, .load false 1 (.t 62), 0, 0, false, []⟩,
    ⟨some 64, none, .un .not (.t 63), 0, 0, false, []⟩,
    ⟨some 65, none, .faddr 2 1 (.t 7), 0, 0, false, []⟩,
    ⟨none, none, .store 1 (.t 65) (.t 64), 0, 0, false, []⟩])))))))
   (.skip)))
   (.cutTo [6, 7] (.seq (.seg false [⟨some 80, none, .load true 3 (.t 7), 0, 0, false, []⟩,
    ⟨none, none, .store 3 (.t 6) (.t 80), 0, 0, false, []⟩])
   (.ret))))))))))))))))⟩
end Go.Proofs.Ytnnjpiepoeknnaa.PE
