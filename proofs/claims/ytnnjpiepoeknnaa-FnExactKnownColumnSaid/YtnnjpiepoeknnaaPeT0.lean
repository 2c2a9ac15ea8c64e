/- The compact code of the functions, and that it is the code of the machine. -/
import Derived.Test.YtnnjpiepoeknnaaPeX
import Derived.Test.YtnnjpiepoeknnaaProg
namespace Go.Proofs.Ytnnjpiepoeknnaa.PE
open Go.RowKit
set_option maxRecDepth 100000
/-- (*loop.example/tablehouse/spec.l20Rd).odd -/
def F155 : F := ⟨15, [(false, 4, 0, false)],
   .seq (.seg false [⟨some 4, none, .mov (.k (.bool false)), 0, 0, false, []⟩])
   (.seq (.seg false [⟨some 5, none, .mov (.t 1), 0, 0, false, []⟩,
    ⟨some 6, none, .bin .gtr (.t 5) (.k (.int .i64 0)), 0, 0, false, []⟩,
    ⟨some 7, none, .mov (.t 6), 0, 0, false, []⟩,
    ⟨some 8, some (7, true), .mov (.t 0), 0, 0, false, []⟩,
    ⟨some 9, some (7, true), .mov (.t 1), 0, 0, false, []⟩,
    ⟨some 10, some (7, true), .call 104 [.t 8, .t 9] true false, 0, 0, false, []⟩,
    ⟨some 11, some (7, true), .mov (.t 1), 0, 0, false, []⟩,
    ⟨some 12, some (7, true), .bin .sub (.t 11) (.k (.int .i64 1)), 0, 0, false, []⟩,
    ⟨some 13, some (7, true), .bin .eql (.t 10) (.t 12), 0, 0, false, []⟩,
    ⟨some 14, none, .pick (.t 7) (.t 13) (.k (.bool false)), 0, 0, false, []⟩,
    ⟨some 4, none, .mov (.t 14), 0, 0, false, []⟩])
   (.cutTo [4] (.ret)))⟩
def E104x0 : List I := [⟨some 47, none, .mov (.t 0), 0, 0, false, []⟩,
    ⟨some 48, none, .nilchk (.t 47), 0, 0, false, []⟩,
    ⟨some 49, none, .faddr 0 1 (.t 48), 0, 0, false, []⟩,
    ⟨some 50, none, .load false 1 (.t 49), 0, 0, false, []⟩,
    ⟨some 51, none, .mov (.t 5), 0, 0, false, []⟩,
    ⟨some 52, none, .mov (.t 0), 0, 0, false, []⟩,
    ⟨some 53, none, .nilchk (.t 52), 0, 0, false, []⟩,
    ⟨some 54, none, .faddr 0 1 (.t 53), 0, 0, false, []⟩,
    ⟨some 55, none, .load false 1 (.t 54), 0, 0, false, []⟩,
    ⟨some 56, none, .len false (.t 55), 0, 0, false, []⟩,
    ⟨some 57, none, .bin .rem (.t 51) (.t 56), 0, 0, false, []⟩,
    ⟨some 58, none, .iaddr 1 (.t 50) (.t 57), 0, 0, false, []⟩,
    ⟨some 59, none, .load false 1 (.t 58), 0, 0, false, []⟩,
    ⟨some 60, none, .conv (.int .i64) (.t 59), 0, 0, false, []⟩,
    ⟨some 61, none, .bin .mul (.t 60) (.k (.int .i64 131)), 0, 0, false, []⟩,
    ⟨some 62, none, .mov (.t 0), 0, 0, false, []⟩,
    ⟨some 63, none, .nilchk (.t 62), 0, 0, false, []⟩,
    ⟨some 64, none, .faddr 0 1 (.t 63), 0, 0, false, []⟩,
    ⟨some 65, none, .load false 1 (.t 64), 0, 0, false, []⟩,
    ⟨some 66, none, .mov (.t 5), 0, 0, false, []⟩,
    ⟨some 67, none, .bin .mul (.t 66) (.k (.int .i64 7)), 0, 0, false, []⟩,
    ⟨some 68, none, .bin .add (.t 67) (.k (.int .i64 3)), 0, 0, false, []⟩,
    ⟨some 69, none, .mov (.t 0), 0, 0, false, []⟩,
    ⟨some 70, none, .nilchk (.t 69), 0, 0, false, []⟩,
    ⟨some 71, none, .faddr 0 1 (.t 70), 0, 0, false, []⟩,
    ⟨some 72, none, .load false 1 (.t 71), 0, 0, false, []⟩,
    ⟨some 73, none, .len false (.t 72), 0, 0, false, []⟩,
    ⟨some 74, none, .bin .rem (.t 68) (.t 73), 0, 0, false, []⟩,
    ⟨some 75, none, .iaddr 1 (.t 65) (.t 74), 0, 0, false, []⟩,
    ⟨some 76, none, .load false 1 (.t 75), 0, 0, false, []⟩,
    ⟨some 77, none, .conv (.int .i64) (.t 76), 0, 0, false, []⟩,
    ⟨some 78, none, .bin .mul (.t 77) (.k (.int .i64 1117)), 0, 0, false, []⟩,
    ⟨some 79, none, .bin .add (.t 61) (.t 78), 0, 0, false, []⟩,
    ⟨some 80, none, .mov (.t 5), 0, 0, false, []⟩,
    ⟨some 81, none, .bin .mul (.t 80) (.k (.int .i64 29)), 0, 0, false, []⟩,
    ⟨some 82, none, .bin .add (.t 79) (.t 81), 0, 0, false, []⟩,
    ⟨some 83, none, .mov (.t 5), 0, 0, false, []⟩,
    ⟨some 84, none, .mov (.t 0), 0, 0, false, []⟩,
    ⟨some 85, none, .nilchk (.t 84), 0, 0, false, []⟩,
    ⟨some 86, none, .faddr 0 1 (.t 85), 0, 0, false, []⟩,
    ⟨some 87, none, .load false 1 (.t 86), 0, 0, false, []⟩,
    ⟨some 88, none, .len false (.t 87), 0, 0, false, []⟩,
    ⟨some 89, none, .bin .quo (.t 83) (.t 88), 0, 0, false, []⟩,
    ⟨some 90, none, .bin .mul (.t 89) (.k (.int .i64 53)), 0, 0, false, []⟩,
    ⟨some 91, none, .bin .add (.t 82) (.t 90), 0, 0, false, []⟩,
    ⟨some 6, none, .mov (.t 91), 0, 0, false, []⟩]
def D104x0 : List I := E104x0
theorem evD104x0 (run : Run) (e : Env) (h : Heap) : drawI run D104x0 e h = DrawS (evQ run E104x0 e h) run E104x0 e h := drawI_quiet run _ (by rfl) e h
/-- (*loop.example/tablehouse/spec.l20Rd).pick -/
def F104 : F := ⟨99, [(false, 4, 0, false)],
   .seq (.seg false [⟨some 4, none, .mov (.k (.int .i64 0)), 0, 0, false, []⟩])
   (.seq (.seg false [⟨some 7, none, .mov (.t 0), 0, 0, false, []⟩,
    ⟨some 8, none, .mov (.t 0), 0, 0, false, []⟩,
    ⟨some 9, none, .nilchk (.t 8), 0, 0, false, []⟩,
    ⟨some 10, none, .faddr 1 1 (.t 9), 0, 0, false, []⟩,
    ⟨some 11, none, .load false 1 (.t 10), 0, 0, false, []⟩,
    ⟨some 12, none, .bin .add (.t 11) (.k (.int .i64 1)), 0, 0, false, []⟩,
    ⟨some 13, none, .nilchk (.t 7), 0, 0, false, []⟩,
    ⟨some 14, none, .faddr 1 1 (.t 13), 0, 0, false, []⟩,
    ⟨none, none, .store 1 (.t 14) (.t 12), 0, 0, false, []⟩])
   (.cutTo [0, 1] (.seq (.seq (.seg false [⟨some 15, none, .mov (.t 1), 0, 0, false, []⟩,
    ⟨some 16, none, .bin .lss (.t 15) (.k (.int .i64 1)), 0, 0, false, []⟩,
    ⟨some 17, none, .mov (.t 16), 0, 0, false, []⟩,
    ⟨some 18, some (17, false), .mov (.t 0), 0, 0, false, []⟩,
    ⟨some 19, some (17, false), .nilchk (.t 18), 0, 0, false, []⟩,
    ⟨some 20, some (17, false), .faddr 0 1 (.t 19), 0, 0, false, []⟩,
    ⟨some 21, some (17, false), .load false 1 (.t 20), 0, 0, false, []⟩,
    ⟨some 22, some (17, false), .len false (.t 21), 0, 0, false, []⟩,
    ⟨some 23, some (17, false), .bin .eql (.t 22) (.k (.int .i64 0)), 0, 0, false, []⟩,
    ⟨some 24, none, .pick (.t 17) (.k (.bool true)) (.t 23), 0, 0, false, []⟩])
   (.cutTo [0, 1, 24] (.cond (.t 24) (.seq (.seg false [⟨some 4, none, .mov (.k (.int .i64 0)), 0, 0, false, []⟩])
   (.ret))
   (.skip))))
   (.cutTo [0, 1] (.seq (.seg false [⟨some 25, none, .mov (.t 0), 0, 0, false, []⟩,
    ⟨some 26, none, .nilchk (.t 25), 0, 0, false, []⟩,
    ⟨some 27, none, .faddr 1 1 (.t 26), 0, 0, false, []⟩,
    ⟨some 28, none, .load false 1 (.t 27), 0, 0, false, []⟩,
    ⟨some 29, none, .bin .sub (.t 28) (.k (.int .i64 1)), 0, 0, false, []⟩,
    ⟨some 5, none, .mov (.t 29), 0, 0, false, []⟩])
   (.cutTo [0, 1, 5] (.seq (.seq (.seg false [⟨some 30, none, .mov (.t 5), 0, 0, false, []⟩,
    ⟨some 31, none, .mov (.t 0), 0, 0, false, []⟩,
    ⟨some 32, none, .nilchk (.t 31), 0, 0, false, []⟩,
    ⟨some 33, none, .faddr 0 1 (.t 32), 0, 0, false, []⟩,
    ⟨some 34, none, .load false 1 (.t 33), 0, 0, false, []⟩,
    ⟨some 35, none, .len false (.t 34), 0, 0, false, []⟩,
    ⟨some 36, none, .bin .lss (.t 30) (.t 35), 0, 0, false, []⟩])
   (.cutTo [0, 1, 5, 36] (.cond (.t 36) (.seq (.seg false [⟨some 37, none, .mov (.t 0), 0, 0, false, []⟩,
    ⟨some 38, none, .nilchk (.t 37), 0, 0, false, []⟩,
    ⟨some 39, none, .faddr 0 1 (.t 38), 0, 0, false, []⟩,
    ⟨some 40, none, .load false 1 (.t 39), 0, 0, false, []⟩,
    ⟨some 41, none, .mov (.t 5), 0, 0, false, []⟩,
    ⟨some 42, none, .iaddr 1 (.t 40) (.t 41), 0, 0, false, []⟩,
    ⟨some 43, none, .load false 1 (.t 42), 0, 0, false, []⟩,
    ⟨some 44, none, .conv (.int .i64) (.t 43), 0, 0, false, []⟩,
    ⟨some 45, none, .mov (.t 1), 0, 0, false, []⟩,
    ⟨some 46, none, .bin .rem (.t 44) (.t 45), 0, 0, false, []⟩,
    ⟨some 4, none, .mov (.t 46), 0, 0, false, []⟩])
   (.cutTo [4] (.ret)))
   (.skip))))
   (.cutTo [0, 1, 5] (.seq (.seg true D104x0)
   (.cutTo [1, 6] (.seq (.seg false [⟨some 92, none, .mov (.t 6), 0, 0, false, []⟩,
    ⟨some 93, none, .mov (.t 6), 0, 0, false, []⟩,
    ⟨some 94, none, .bin .quo (.t 93) (.k (.int .i64 64)), 0, 0, false, []⟩,
    ⟨some 95, none, .bin .xor (.t 92) (.t 94), 0, 0, false, []⟩,
    ⟨some 6, none, .mov (.t 95), 0, 0, false, []⟩])
   (.cutTo [1, 6] (.seq (.seg false [⟨some 96, none, .mov (.t 6), 0, 0, false, []⟩,
    ⟨some 97, none, .mov (.t 1), 0, 0, false, []⟩,
    ⟨some 98, none, .bin .rem (.t 96) (.t 97), 0, 0, false, []⟩,
    ⟨some 4, none, .mov (.t 98), 0, 0, false, []⟩])
   (.cutTo [4] (.ret)))))))))))))))⟩
/-- (loop.example/tablehouse/impl.Known).asks -/
def F77 : F := ⟨30, [(false, 6, 0, false)],
   .seq (.seg false [⟨some 3, none, .box (.t 0), 0, 0, false, []⟩,
    ⟨some 5, none, .box (.t 2), 0, 0, false, []⟩,
    ⟨some 6, none, .mov (.k (.bool false)), 0, 0, false, []⟩])
   (.seq (.seg false [⟨some 7, none, .load true 8 (.t 3), 0, 0, false, []⟩,
    ⟨some 8, none, .call 18 [.t 7] false false, 0, 0, false, []⟩,
    ⟨some 9, none, .mov (.t 8), 0, 0, false, []⟩,
    ⟨some 10, some (9, true), .faddr 0 1 (.t 3), 0, 0, false, []⟩,
    ⟨some 11, some (9, true), .load false 1 (.t 10), 0, 0, false, []⟩,
    ⟨some 12, some (9, true), .bin .gtr (.t 11) (.k (.int .i64 0)), 0, 0, false, []⟩,
    ⟨some 13, none, .pick (.t 9) (.t 12) (.k (.bool false)), 0, 0, false, []⟩,
    ⟨some 14, none, .mov (.t 13), 0, 0, false, []⟩,
    ⟨some 15, some (14, true), .mov (.t 1), 0, 0, false, []⟩,
    ⟨some 16, some (14, true), .call 82 [.t 15, .k (.int .i64 1), .k (.int .i64 4)] false false, 0, 0, false, []⟩,
    ⟨some 17, none, .pick (.t 14) (.t 16) (.k (.bool false)), 0, 0, false, []⟩,
    ⟨some 18, none, .mov (.t 17), 0, 0, false, []⟩,
    ⟨some 19, some (18, true), .load true 3 (.t 5), 0, 0, false, []⟩,
    ⟨some 20, some (18, true), .call 83 [.t 19] false false, 0, 0, false, []⟩,
    ⟨some 21, none, .pick (.t 18) (.t 20) (.k (.bool false)), 0, 0, false, []⟩,
    ⟨some 22, none, .mov (.t 21), 0, 0, false, []⟩,
    ⟨some 23, some (22, true), .faddr 0 1 (.t 5), 0, 0, false, []⟩,
    ⟨some 24, some (22, true), .load false 1 (.t 23), 0, 0, false, []⟩,
    ⟨some 25, some (22, true), .faddr 2 3 (.t 3), 0, 0, false, []⟩,
    ⟨some 26, some (22, true), .faddr 0 1 (.t 25), 0, 0, false, []⟩,
    ⟨some 27, some (22, true), .load false 1 (.t 26), 0, 0, false, []⟩,
    ⟨some 28, some (22, true), .bin .eql (.t 24) (.t 27), 0, 0, false, []⟩,
    ⟨some 29, none, .pick (.t 22) (.t 28) (.k (.bool false)), 0, 0, false, []⟩,
    ⟨some 6, none, .mov (.t 29), 0, 0, false, []⟩])
   (.cutTo [6] (.ret)))⟩
/-- (loop.example/tablehouse/impl.Value).ok -/
def F83 : F := ⟨46, [(false, 2, 0, false)],
   .seq (.seg false [⟨some 1, none, .box (.t 0), 0, 0, false, []⟩,
    ⟨some 2, none, .mov (.k (.bool false)), 0, 0, false, []⟩])
   (.seq (.seq (.seg false [⟨some 3, none, .faddr 0 1 (.t 1), 0, 0, false, []⟩,
    ⟨some 4, none, .load false 1 (.t 3), 0, 0, false, []⟩])
   (.block 0 (.seq (.seg false [⟨some 6, none, .bin .eql (.t 4) (.k (.int .i64 0)), 0, 0, false, []⟩,
    ⟨some 5, none, .mov (.t 6), 0, 0, false, []⟩])
   (.cond (.t 5) (.seq (.seg false [⟨some 7, none, .load true 3 (.t 1), 0, 0, false, []⟩,
    ⟨some 8, none, .build [.int .i64 0, .int .i64 0, .str ⟨#[]⟩] [], 0, 0, false, []⟩,
    ⟨some 9, none, .eqs false [.int, .int, .str] (.t 7) (.t 8), 0, 0, false, []⟩,
    ⟨some 2, none, .mov (.t 9), 0, 0, false, []⟩])
   (.cutTo [2] (.ret)))
   (.seq (.seg false [⟨some 11, none, .bin .eql (.t 4) (.k (.int .i64 1)), 0, 0, false, []⟩,
    ⟨some 10, none, .mov (.t 11), 0, 0, false, []⟩])
   (.cond (.t 10) (.seq (.seg false [⟨some 12, none, .faddr 2 1 (.t 1), 0, 0, false, []⟩,
    ⟨some 13, none, .load false 1 (.t 12), 0, 0, false, []⟩,
    ⟨some 14, none, .bin .eql (.t 13) (.k (.str ⟨#[]⟩)), 0, 0, false, []⟩,
    ⟨some 15, none, .mov (.t 14), 0, 0, false, []⟩,
    ⟨some 16, some (15, true), .faddr 1 1 (.t 1), 0, 0, false, []⟩,
    ⟨some 17, some (15, true), .load false 1 (.t 16), 0, 0, false, []⟩,
    ⟨some 18, some (15, true), .call 82 [.t 17, .k (.int .i64 (-9999)), .k (.int .i64 9999)] false false, 0, 0, false, []⟩,
    ⟨some 19, none, .pick (.t 15) (.t 18) (.k (.bool false)), 0, 0, false, []⟩,
    ⟨some 2, none, .mov (.t 19), 0, 0, false, []⟩])
   (.cutTo [2] (.ret)))
   (.seq (.seg false [⟨some 21, none, .bin .eql (.t 4) (.k (.int .i64 2)), 0, 0, false, []⟩,
    ⟨some 20, none, .mov (.t 21), 0, 0, false, []⟩])
   (.cond (.t 20) (.seq (.seg false [⟨some 22, none, .faddr 1 1 (.t 1), 0, 0, false, []⟩,
    ⟨some 23, none, .load false 1 (.t 22), 0, 0, false, []⟩,
    ⟨some 24, none, .bin .eql (.t 23) (.k (.int .i64 0)), 0, 0, false, []⟩,
    ⟨some 25, none, .mov (.t 24), 0, 0, false, []⟩,
    ⟨some 26, some (25, true), .faddr 2 1 (.t 1), 0, 0, false, []⟩,
    ⟨some 27, some (25, true), .load false 1 (.t 26), 0, 0, false, []⟩,
    ⟨some 28, some (25, true), .len true (.t 27), 0, 0, false, []⟩,
    ⟨some 29, some (25, true), .bin .leq (.t 28) (.k (.int .i64 6)), 0, 0, false, []⟩,
    ⟨some 30, none, .pick (.t 25) (.t 29) (.k (.bool false)), 0, 0, false, []⟩,
    ⟨some 31, none, .mov (.t 30), 0, 0, false, []⟩,
    ⟨some 32, some (31, true), .faddr 2 1 (.t 1), 0, 0, false, []⟩,
    ⟨some 33, some (31, true), .load false 1 (.t 32), 0, 0, false, []⟩,
    ⟨some 34, some (31, true), .call 153 [.t 33] false false, 0, 0, false, []⟩,
    ⟨some 35, none, .pick (.t 31) (.t 34) (.k (.bool false)), 0, 0, false, []⟩,
    ⟨some 2, none, .mov (.t 35), 0, 0, false, []⟩])
   (.cutTo [2] (.ret)))
   (.seq (.seg false [⟨some 37, none, .bin .eql (.t 4) (.k (.int .i64 3)), 0, 0, false, []⟩,
    ⟨some 36, none, .mov (.t 37), 0, 0, false, []⟩])
   (.cond (.t 36) (.seq (.seg false [⟨some 38, none, .faddr 2 1 (.t 1), 0, 0, false, []⟩,
    ⟨some 39, none, .load false 1 (.t 38), 0, 0, false, []⟩,
    ⟨some 40, none, .bin .eql (.t 39) (.k (.str ⟨#[]⟩)), 0, 0, false, []⟩,
    ⟨some 41, none, .mov (.t 40), 0, 0, false, []⟩,
    ⟨some 42, some (41, true), .faddr 1 1 (.t 1), 0, 0, false, []⟩,
    ⟨some 43, some (41, true), .load false 1 (.t 42), 0, 0, false, []⟩,
    ⟨some 44, some (41, true), .call 82 [.t 43, .k (.int .i64 0), .k (.int .i64 1)] false false, 0, 0, false, []⟩,
    ⟨some 45, none, .pick (.t 41) (.t 44) (.k (.bool false)), 0, 0, false, []⟩,
    ⟨some 2, none, .mov (.t 45), 0, 0, false, []⟩])
   (.cutTo [2] (.ret)))
   (.skip)))))))))))
   (.cutTo [] (.seq (.seg false [⟨some 2, none, .mov (.k (.bool false)), 0, 0, false, []⟩])
   (.ret))))⟩
def E78x0 : List I := [⟨some 5, none, .faddr 0 1 (.t 2), 0, 0, false, []⟩,
    ⟨some 6, none, .load false 1 (.t 5), 0, 0, false, []⟩,
    ⟨some 7, none, .faddr 0 1 (.t 3), 0, 0, false, []⟩,
    ⟨some 8, none, .load false 1 (.t 7), 0, 0, false, []⟩,
    ⟨some 9, none, .call 148 [.t 6, .t 8] false false, 0, 0, false, []⟩,
    ⟨some 10, none, .faddr 1 1 (.t 2), 0, 0, false, []⟩,
    ⟨some 11, none, .load false 1 (.t 10), 0, 0, false, []⟩,
    ⟨some 12, none, .faddr 1 1 (.t 3), 0, 0, false, []⟩,
    ⟨some 13, none, .load false 1 (.t 12), 0, 0, false, []⟩,
    ⟨some 14, none, .call 148 [.t 11, .t 13] false false, 0, 0, false, []⟩,
    ⟨some 15, none, .faddr 2 1 (.t 2), 0, 0, false, []⟩,
    ⟨some 16, none, .load false 1 (.t 15), 0, 0, false, []⟩,
    ⟨some 17, none, .faddr 2 1 (.t 3), 0, 0, false, []⟩,
    ⟨some 18, none, .load false 1 (.t 17), 0, 0, false, []⟩,
    ⟨some 19, none, .call 149 [.t 16, .t 18] false false, 0, 0, false, []⟩,
    ⟨some 20, none, .mksl false 1 [.t 9, .t 14, .t 19], 0, 0, false, []⟩,
    ⟨some 21, none, .call 147 [.t 20] false false, 0, 0, false, []⟩,
    ⟨some 4, none, .mov (.t 21), 0, 0, false, []⟩]
def D78x0 : List I := E78x0
theorem evD78x0 (run : Run) (e : Env) (h : Heap) : drawI run D78x0 e h = DrawS (evQ run E78x0 e h) run E78x0 e h := drawI_quiet run _ (by rfl) e h
/-- (loop.example/tablehouse/impl.Value).order -/
def F78 : F := ⟨22, [(false, 4, 0, false)],
   .seq (.seg false [⟨some 2, none, .box (.t 0), 0, 0, false, []⟩,
    ⟨some 3, none, .box (.t 1), 0, 0, false, []⟩,
    ⟨some 4, none, .mov (.k (.int .i64 0)), 0, 0, false, []⟩])
   (.seq (.seg true D78x0)
   (.cutTo [4] (.ret)))⟩
/-- loop.example/tablehouse/impl.ColumnsOk -/
def F87 : F := ⟨11, [(false, 2, 0, false)],
   .seq (.seg false [⟨some 2, none, .mov (.k (.bool false)), 0, 0, false, []⟩])
   (.seq (.seg false [⟨some 3, none, .mov (.t 0), 0, 0, false, []⟩,
    ⟨some 4, none, .len false (.t 3), 0, 0, false, []⟩,
    ⟨some 5, none, .bin .leq (.t 4) (.k (.int .i64 4)), 0, 0, false, []⟩,
    ⟨some 6, none, .mov (.t 5), 0, 0, false, []⟩,
    ⟨some 7, some (6, true), .mov (.t 0), 0, 0, false, []⟩,
    ⟨some 8, some (6, true), .call 157 [.t 7, .k (.clo 158 [])] true false, 0, 0, false, []⟩,
    ⟨some 9, some (6, true), .un .not (.t 8), 0, 0, false, []⟩,
    ⟨some 10, none, .pick (.t 6) (.t 9) (.k (.bool false)), 0, 0, false, []⟩,
    ⟨some 2, none, .mov (.t 10), 0, 0, false, []⟩])
   (.cutTo [2] (.ret)))⟩
/-- loop.example/tablehouse/impl.ColumnsOk$1 -/
def F158 : F := ⟨7, [(false, 2, 0, false)],
   .seq (.seg false [⟨some 1, none, .box (.t 0), 0, 0, false, []⟩,
    ⟨some 2, none, .mov (.k (.bool false)), 0, 0, false, []⟩])
   (.seq (.seg false [⟨some 3, none, .faddr 0 1 (.t 1), 0, 0, false, []⟩,
    ⟨some 4, none, .load false 1 (.t 3), 0, 0, false, []⟩,
    ⟨some 5, none, .call 82 [.t 4, .k (.int .i64 1), .k (.int .i64 3)] false false, 0, 0, false, []⟩,
    ⟨some 6, none, .un .not (.t 5), 0, 0, false, []⟩,
    ⟨some 2, none, .mov (.t 6), 0, 0, false, []⟩])
   (.cutTo [2] (.ret)))⟩
def E31x0 : List I := [⟨some 42, none, .faddr 0 1 (.t 2), 0, 2, false, []⟩,
    ⟨some 43, none, .load false 1 (.t 42), 0, 2, false, []⟩,
    ⟨some 44, none, .faddr 0 1 (.t 3), 0, 2, false, []⟩,
    ⟨some 45, none, .load false 1 (.t 44), 0, 2, false, []⟩,
    ⟨some 46, none, .bin .add (.t 43) (.t 45), 0, 2, false, []⟩,
    ⟨some 47, none, .faddr 1 1 (.t 2), 0, 2, false, []⟩,
    ⟨some 48, none, .load false 1 (.t 47), 0, 2, false, []⟩,
    ⟨some 49, none, .faddr 1 1 (.t 3), 0, 2, false, []⟩,
    ⟨some 50, none, .load false 1 (.t 49), 0, 2, false, []⟩,
    ⟨some 51, none, .bin .add (.t 48) (.t 50), 0, 2, false, []⟩,
    ⟨some 52, none, .faddr 2 3 (.t 2), 0, 0, false, []⟩,
    ⟨some 53, none, .load true 3 (.t 52), 0, 0, false, []⟩,
    ⟨some 54, none, .faddr 2 3 (.t 3), 0, 0, false, []⟩,
    ⟨some 55, none, .load true 3 (.t 54), 0, 0, false, []⟩,
    ⟨some 56, none, .mksl false 3 [.t 53, .t 55], 0, 0, false, []⟩,
    ⟨some 57, none, .call 96 [.t 56, .k (.clo 78 [])] true false, 0, 0, true, []⟩,
    ⟨some 58, none, .faddr 5 3 (.t 2), 0, 1, false, []⟩,
    ⟨some 59, none, .load true 3 (.t 58), 0, 1, false, []⟩,
    ⟨some 60, none, .faddr 5 3 (.t 3), 0, 1, false, []⟩,
    ⟨some 61, none, .load true 3 (.t 60), 0, 1, false, []⟩,
    ⟨some 62, none, .mksl false 3 [.t 59, .t 61], 0, 1, false, []⟩,
    ⟨some 63, none, .call 97 [.t 62, .k (.clo 78 [])] true false, 1, 0, true, []⟩,
    ⟨some 64, none, .build [.int .i64 0, .int .i64 0, .int .i64 0, .int .i64 0, .str ⟨#[]⟩, .int .i64 0, .int .i64 0, .str ⟨#[]⟩] [(0, 1, .t 46), (1, 1, .t 51), (2, 3, .t 57), (5, 3, .t 63)], 2, 2, false, []⟩,
    ⟨none, none, .store 8 (.t 4) (.t 64), 2, 0, true, []⟩]
def D31x0 : List I := E31x0
theorem evD31x0 (run : Run) (e : Env) (h : Heap) : drawI run D31x0 e h = DrawW (evW run E31x0 e h []) run E31x0 e h := drawI_write run _ e h
/-- loop.example/tablehouse/impl.KnownBoth -/
def F31 : F := ⟨65, [(true, 4, 8, true)],
   .seq (.seg false [⟨some 2, none, .box (.t 0), 0, 0, false, []⟩,
    ⟨some 3, none, .box (.t 1), 0, 0, false, []⟩,
    ⟨some 4, none, .alloc [.int .i64 0, .int .i64 0, .int .i64 0, .int .i64 0, .str ⟨#[]⟩, .int .i64 0, .int .i64 0, .str ⟨#[]⟩], 0, 0, false, []⟩])
   (.seq (.block 0 (.seq (.seg false [⟨some 6, none, .load true 8 (.t 2), 0, 0, false, []⟩,
    ⟨some 7, none, .call 18 [.t 6] false false, 0, 0, false, []⟩,
    ⟨some 8, none, .un .not (.t 7), 0, 0, false, []⟩,
    ⟨some 9, none, .mov (.t 8), 0, 0, false, []⟩,
    ⟨some 10, some (9, false), .load true 8 (.t 3), 0, 0, false, []⟩,
    ⟨some 11, some (9, false), .call 18 [.t 10] false false, 0, 0, false, []⟩,
    ⟨some 12, some (9, false), .un .not (.t 11), 0, 0, false, []⟩,
    ⟨some 13, none, .pick (.t 9) (.k (.bool true)) (.t 12), 0, 0, false, []⟩,
    ⟨some 5, none, .mov (.t 13), 0, 0, false, []⟩])
   (.cutTo [2, 3, 4, 5] (.cond (.t 5) (.seq (.seg false [⟨some 14, none, .build [.int .i64 0, .int .i64 0, .int .i64 0, .int .i64 0, .str ⟨#[]⟩, .int .i64 0, .int .i64 0, .str ⟨#[]⟩] [], 0, 0, false, []⟩,
    ⟨none, none, .store 8 (.t 4) (.t 14), 0, 0, false, []⟩])
   (.ret))
   (.seq (.seg false [⟨some 16, none, .faddr 0 1 (.t 2), 0, 0, false, []⟩,
    ⟨some 17, none, .load false 1 (.t 16), 0, 0, false, []⟩,
    ⟨some 18, none, .bin .eql (.t 17) (.k (.int .i64 0)), 0, 0, false, []⟩,
    ⟨some 15, none, .mov (.t 18), 0, 0, false, []⟩])
   (.cutTo [2, 3, 4, 15] (.cond (.t 15) (.seq (.seg false [⟨some 19, none, .load true 8 (.t 3), 0, 0, false, []⟩,
    ⟨none, none, .store 8 (.t 4) (.t 19), 0, 0, false, []⟩])
   (.ret))
   (.seq (.seg false [⟨some 21, none, .faddr 0 1 (.t 3), 0, 0, false, []⟩,
    ⟨some 22, none, .load false 1 (.t 21), 0, 0, false, []⟩,
    ⟨some 23, none, .bin .eql (.t 22) (.k (.int .i64 0)), 0, 0, false, []⟩,
    ⟨some 20, none, .mov (.t 23), 0, 0, false, []⟩])
   (.cutTo [2, 3, 4, 20] (.cond (.t 20) (.seq (.seg false [⟨some 24, none, .load true 8 (.t 2), 0, 0, false, []⟩,
    ⟨none, none, .store 8 (.t 4) (.t 24), 0, 0, false, []⟩])
   (.ret))
   (.seq (.seg false [⟨some 26, none, .faddr 2 3 (.t 2), 0, 0, false, []⟩,
    ⟨some 27, none, .faddr 0 1 (.t 26), 0, 0, false, []⟩,
    ⟨some 28, none, .load false 1 (.t 27), 0, 0, false, []⟩,
    ⟨some 29, none, .faddr 2 3 (.t 3), 0, 0, false, []⟩,
    ⟨some 30, none, .faddr 0 1 (.t 29), 0, 0, false, []⟩,
    ⟨some 31, none, .load false 1 (.t 30), 0, 0, false, []⟩,
    ⟨some 32, none, .bin .neq (.t 28) (.t 31), 0, 0, false, []⟩,
    ⟨some 33, none, .mov (.t 32), 0, 0, false, []⟩,
    ⟨some 34, some (33, false), .faddr 0 1 (.t 2), 0, 0, false, []⟩,
    ⟨some 35, some (33, false), .load false 1 (.t 34), 0, 0, false, []⟩,
    ⟨some 36, some (33, false), .faddr 0 1 (.t 3), 0, 0, false, []⟩,
    ⟨some 37, some (33, false), .load false 1 (.t 36), 0, 0, false, []⟩,
    ⟨some 38, some (33, false), .bin .add (.t 35) (.t 37), 0, 0, false, []⟩,
    ⟨some 39, some (33, false), .bin .gtr (.t 38) (.k (.int .i64 100)), 0, 0, false, []⟩,
    ⟨some 40, none, .pick (.t 33) (.k (.bool true)) (.t 39), 0, 0, false, []⟩,
    ⟨some 25, none, .mov (.t 40), 0, 0, false, []⟩])
   (.cutTo [2, 3, 4, 25] (.cond (.t 25) (.seq (.seg false [⟨some 41, none, .build [.int .i64 0, .int .i64 0, .int .i64 0, .int .i64 0, .str ⟨#[]⟩, .int .i64 0, .int .i64 0, .str ⟨#[]⟩] [], 0, 0, false, []⟩,
    ⟨none, none, .store 8 (.t 4) (.t 41), 0, 0, false, []⟩])
   (.ret))
   (.skip))))))))))))))
   (.cutTo [2, 3, 4] (.seq (.seg true D31x0)
   (.cutTo [4] (.ret)))))⟩
/-- loop.example/tablehouse/impl.KnownColumn -/
def F28 : F := ⟨33, [(true, 6, 8, true)],
   .seq (.seg false [⟨some 6, none, .alloc [.int .i64 0, .int .i64 0, .int .i64 0, .int .i64 0, .str ⟨#[]⟩, .int .i64 0, .int .i64 0, .str ⟨#[]⟩], 0, 0, false, []⟩])
   (.seq (.seq (.seg false [⟨some 7, none, .mov (.t 0), 0, 0, false, []⟩,
    ⟨some 8, none, .call 87 [.t 7] false false, 0, 0, false, []⟩,
    ⟨some 9, none, .un .not (.t 8), 0, 0, false, []⟩,
    ⟨some 10, none, .mov (.t 9), 0, 0, false, []⟩,
    ⟨some 11, some (10, false), .mov (.t 1), 0, 0, false, []⟩,
    ⟨some 12, some (10, false), .len false (.t 11), 0, 0, false, []⟩,
    ⟨some 13, some (10, false), .bin .gtr (.t 12) (.k (.int .i64 100)), 0, 0, false, []⟩,
    ⟨some 14, none, .pick (.t 10) (.k (.bool true)) (.t 13), 0, 0, false, []⟩,
    ⟨some 15, none, .mov (.t 14), 0, 0, false, []⟩,
    ⟨some 16, some (15, false), .mov (.t 0), 0, 0, false, []⟩,
    ⟨some 17, some (15, false), .mov (.t 1), 0, 0, false, []⟩,
    ⟨some 18, some (15, false), .call 30 [.t 16, .t 17] false false, 0, 0, false, []⟩,
    ⟨some 19, some (15, false), .un .not (.t 18), 0, 0, false, []⟩,
    ⟨some 20, none, .pick (.t 15) (.k (.bool true)) (.t 19), 0, 0, false, []⟩,
    ⟨some 21, none, .mov (.t 20), 0, 0, false, []⟩,
    ⟨some 22, some (21, false), .mov (.t 2), 0, 0, false, []⟩,
    ⟨some 23, some (21, false), .mov (.t 0), 0, 0, false, []⟩,
    ⟨some 24, some (21, false), .len false (.t 23), 0, 0, false, []⟩,
    ⟨some 25, some (21, false), .bin .sub (.t 24) (.k (.int .i64 1)), 0, 0, false, []⟩,
    ⟨some 26, some (21, false), .call 82 [.t 22, .k (.int .i64 0), .t 25] false false, 0, 0, false, []⟩,
    ⟨some 27, some (21, false), .un .not (.t 26), 0, 0, false, []⟩,
    ⟨some 28, none, .pick (.t 21) (.k (.bool true)) (.t 27), 0, 0, false, []⟩])
   (.cutTo [1, 2, 6, 28] (.cond (.t 28) (.seq (.seg false [⟨some 29, none, .build [.int .i64 0, .int .i64 0, .int .i64 0, .int .i64 0, .str ⟨#[]⟩, .int .i64 0, .int .i64 0, .str ⟨#[]⟩] [], 0, 0, false, []⟩,
    ⟨none, none, .store 8 (.t 6) (.t 29), 0, 0, false, []⟩])
   (.ret))
   (.skip))))
   (.cutTo [1, 2, 6] (.seq (.seg false [⟨some 30, none, .mov (.t 1), 0, 0, false, []⟩,
    ⟨some 31, none, .mov (.t 2), 0, 0, false, []⟩,
    ⟨some 32, none, .call 88 [.t 30, .t 31] false false, 0, 0, false, []⟩,
    ⟨none, none, .store 8 (.t 6) (.t 32), 0, 0, false, []⟩])
   (.cutTo [6] (.ret)))))⟩
/-- loop.example/tablehouse/impl.KnownOf -/
def F159 : F := ⟨23, [(true, 2, 8, true)],
   .seq (.seg false [⟨some 1, none, .box (.t 0), 0, 0, false, []⟩,
    ⟨some 2, none, .alloc [.int .i64 0, .int .i64 0, .int .i64 0, .int .i64 0, .str ⟨#[]⟩, .int .i64 0, .int .i64 0, .str ⟨#[]⟩], 0, 0, false, []⟩])
   (.seq (.seq (.seg false [⟨some 4, none, .load true 3 (.t 1), 0, 0, false, []⟩,
    ⟨some 5, none, .call 83 [.t 4] false false, 0, 0, false, []⟩,
    ⟨some 6, none, .un .not (.t 5), 0, 0, false, []⟩,
    ⟨some 7, none, .mov (.t 6), 0, 0, false, []⟩,
    ⟨some 8, some (7, false), .faddr 0 1 (.t 1), 0, 0, false, []⟩,
    ⟨some 9, some (7, false), .load false 1 (.t 8), 0, 0, false, []⟩,
    ⟨some 10, some (7, false), .bin .eql (.t 9) (.k (.int .i64 0)), 0, 0, false, []⟩,
    ⟨some 11, none, .pick (.t 7) (.k (.bool true)) (.t 10), 0, 0, false, []⟩])
   (.cutTo [1, 2, 11] (.cond (.t 11) (.seq (.seg false [⟨some 12, none, .build [.int .i64 0, .int .i64 0, .int .i64 0, .int .i64 0, .str ⟨#[]⟩, .int .i64 0, .int .i64 0, .str ⟨#[]⟩] [], 0, 0, false, []⟩,
    ⟨none, none, .store 8 (.t 2) (.t 12), 0, 0, false, []⟩])
   (.ret))
   (.skip))))
   (.cutTo [1, 2] (.seq (.seg false [⟨some 13, none, .load true 3 (.t 1), 0, 0, false, []⟩,
    ⟨some 14, none, .load true 3 (.t 1), 0, 0, false, []⟩,
    ⟨some 15, none, .build [.int .i64 0, .int .i64 0, .int .i64 0, .int .i64 0, .str ⟨#[]⟩, .int .i64 0, .int .i64 0, .str ⟨#[]⟩] [(0, 1, .k (.int .i64 1)), (2, 3, .t 13), (5, 3, .t 14)], 0, 0, false, []⟩,
    ⟨some 3, none, .alloc [.int .i64 0, .int .i64 0, .int .i64 0, .int .i64 0, .str ⟨#[]⟩, .int .i64 0, .int .i64 0, .str ⟨#[]⟩], 0, 0, false, []⟩,
    ⟨none, none, .store 8 (.t 3) (.t 15), 0, 0, false, []⟩])
   (.cutTo [1, 2, 3] (.seq (.seq (.seg false [⟨some 16, none, .faddr 0 1 (.t 1), 0, 0, false, []⟩,
    ⟨some 17, none, .load false 1 (.t 16), 0, 0, false, []⟩,
    ⟨some 18, none, .bin .eql (.t 17) (.k (.int .i64 1)), 0, 0, false, []⟩])
   (.cond (.t 18) (.seg false [⟨some 19, none, .faddr 1 1 (.t 1), 0, 0, false, []⟩,
    ⟨some 20, none, .load false 1 (.t 19), 0, 0, false, []⟩,
    ⟨some 21, none, .faddr 1 1 (.t 3), 0, 0, false, []⟩,
    ⟨none, none, .store 1 (.t 21) (.t 20), 0, 0, false, []⟩])
   (.skip)))
   (.cutTo [2, 3] (.seq (.seg false [⟨some 22, none, .load true 8 (.t 3), 0, 0, false, []⟩,
    ⟨none, none, .store 8 (.t 2) (.t 22), 0, 0, false, []⟩])
   (.ret))))))))⟩
def E16x0 : List I := [⟨some 14, none, .faddr 2 3 (.t 3), 0, 0, false, []⟩,
    ⟨some 15, none, .load true 3 (.t 14), 0, 0, false, []⟩,
    ⟨some 16, none, .load true 3 (.t 5), 0, 0, false, []⟩,
    ⟨some 17, none, .call 78 [.t 15, .t 16] false false, 0, 0, false, []⟩,
    ⟨some 18, none, .faddr 5 3 (.t 3), 0, 0, false, []⟩,
    ⟨some 19, none, .load true 3 (.t 18), 0, 0, false, []⟩,
    ⟨some 20, none, .load true 3 (.t 5), 0, 0, false, []⟩,
    ⟨some 21, none, .call 78 [.t 19, .t 20] false false, 0, 0, false, []⟩,
    ⟨some 7, none, .mov (.t 17), 0, 0, false, []⟩,
    ⟨some 8, none, .mov (.t 21), 0, 0, false, []⟩]
def D16x0 : List I := E16x0
theorem evD16x0 (run : Run) (e : Env) (h : Heap) : drawI run D16x0 e h = DrawS (evQ run E16x0 e h) run E16x0 e h := drawI_quiet run _ (by rfl) e h
/-- loop.example/tablehouse/impl.MayHold -/
def F16 : F := ⟨45, [(false, 6, 0, false)],
   .seq (.seg false [⟨some 3, none, .box (.t 0), 0, 0, false, []⟩,
    ⟨some 5, none, .box (.t 2), 0, 0, false, []⟩,
    ⟨some 6, none, .mov (.k (.bool false)), 0, 0, false, []⟩])
   (.seq (.seq (.seg false [⟨some 9, none, .load true 8 (.t 3), 0, 0, false, []⟩,
    ⟨some 10, none, .mov (.t 1), 0, 0, false, []⟩,
    ⟨some 11, none, .load true 3 (.t 5), 0, 0, false, []⟩,
    ⟨some 12, none, .call 77 [.t 9, .t 10, .t 11] false false, 0, 0, false, []⟩,
    ⟨some 13, none, .un .not (.t 12), 0, 0, false, []⟩])
   (.cutTo [1, 3, 5, 13] (.cond (.t 13) (.seq (.seg false [⟨some 6, none, .mov (.k (.bool false)), 0, 0, false, []⟩])
   (.ret))
   (.skip))))
   (.cutTo [1, 3, 5] (.seq (.seg true D16x0)
   (.cutTo [1, 7, 8] (.seq (.seq (.seg false [⟨some 22, none, .mov (.t 1), 0, 0, false, []⟩])
   (.block 0 (.seq (.seg false [⟨some 24, none, .bin .eql (.t 22) (.k (.int .i64 1)), 0, 0, false, []⟩,
    ⟨some 23, none, .mov (.t 24), 0, 0, false, []⟩])
   (.cond (.t 23) (.seq (.seg false [⟨some 25, none, .mov (.t 7), 0, 0, false, []⟩,
    ⟨some 26, none, .bin .leq (.t 25) (.k (.int .i64 0)), 0, 0, false, []⟩,
    ⟨some 27, none, .mov (.t 26), 0, 0, false, []⟩,
    ⟨some 28, some (27, true), .mov (.t 8), 0, 0, false, []⟩,
    ⟨some 29, some (27, true), .bin .geq (.t 28) (.k (.int .i64 0)), 0, 0, false, []⟩,
    ⟨some 30, none, .pick (.t 27) (.t 29) (.k (.bool false)), 0, 0, false, []⟩,
    ⟨some 6, none, .mov (.t 30), 0, 0, false, []⟩])
   (.cutTo [6] (.ret)))
   (.seq (.seg false [⟨some 32, none, .bin .eql (.t 22) (.k (.int .i64 2)), 0, 0, false, []⟩,
    ⟨some 31, none, .mov (.t 32), 0, 0, false, []⟩])
   (.cond (.t 31) (.seq (.seg false [⟨some 33, none, .mov (.t 7), 0, 0, false, []⟩,
    ⟨some 34, none, .bin .neq (.t 33) (.k (.int .i64 0)), 0, 0, false, []⟩,
    ⟨some 35, none, .mov (.t 34), 0, 0, false, []⟩,
    ⟨some 36, some (35, false), .mov (.t 8), 0, 0, false, []⟩,
    ⟨some 37, some (35, false), .bin .neq (.t 36) (.k (.int .i64 0)), 0, 0, false, []⟩,
    ⟨some 38, none, .pick (.t 35) (.k (.bool true)) (.t 37), 0, 0, false, []⟩,
    ⟨some 6, none, .mov (.t 38), 0, 0, false, []⟩])
   (.cutTo [6] (.ret)))
   (.seq (.seg false [⟨some 40, none, .bin .eql (.t 22) (.k (.int .i64 3)), 0, 0, false, []⟩,
    ⟨some 39, none, .mov (.t 40), 0, 0, false, []⟩])
   (.cond (.t 39) (.seq (.seg false [⟨some 41, none, .mov (.t 7), 0, 0, false, []⟩,
    ⟨some 42, none, .bin .lss (.t 41) (.k (.int .i64 0)), 0, 0, false, []⟩,
    ⟨some 6, none, .mov (.t 42), 0, 0, false, []⟩])
   (.ret))
   (.skip)))))))))
   (.cutTo [7] (.seq (.seg false [⟨some 43, none, .mov (.t 7), 0, 0, false, []⟩,
    ⟨some 44, none, .bin .leq (.t 43) (.k (.int .i64 0)), 0, 0, false, []⟩,
    ⟨some 6, none, .mov (.t 44), 0, 0, false, []⟩])
   (.ret))))))))⟩
def E20x0 : List I := [⟨some 14, none, .faddr 2 3 (.t 3), 0, 0, false, []⟩,
    ⟨some 15, none, .load true 3 (.t 14), 0, 0, false, []⟩,
    ⟨some 16, none, .load true 3 (.t 5), 0, 0, false, []⟩,
    ⟨some 17, none, .call 78 [.t 15, .t 16] false false, 0, 0, false, []⟩,
    ⟨some 18, none, .faddr 5 3 (.t 3), 0, 0, false, []⟩,
    ⟨some 19, none, .load true 3 (.t 18), 0, 0, false, []⟩,
    ⟨some 20, none, .load true 3 (.t 5), 0, 0, false, []⟩,
    ⟨some 21, none, .call 78 [.t 19, .t 20] false false, 0, 0, false, []⟩,
    ⟨some 7, none, .mov (.t 17), 0, 0, false, []⟩,
    ⟨some 8, none, .mov (.t 21), 0, 0, false, []⟩]
def D20x0 : List I := E20x0
theorem evD20x0 (run : Run) (e : Env) (h : Heap) : drawI run D20x0 e h = DrawS (evQ run E20x0 e h) run E20x0 e h := drawI_quiet run _ (by rfl) e h
/-- loop.example/tablehouse/impl.MustHold -/
def F20 : F := ⟨45, [(false, 6, 0, false)],
   .seq (.seg false [⟨some 3, none, .box (.t 0), 0, 0, false, []⟩,
    ⟨some 5, none, .box (.t 2), 0, 0, false, []⟩,
    ⟨some 6, none, .mov (.k (.bool false)), 0, 0, false, []⟩])
   (.seq (.seq (.seg false [⟨some 9, none, .load true 8 (.t 3), 0, 0, false, []⟩,
    ⟨some 10, none, .mov (.t 1), 0, 0, false, []⟩,
    ⟨some 11, none, .load true 3 (.t 5), 0, 0, false, []⟩,
    ⟨some 12, none, .call 77 [.t 9, .t 10, .t 11] false false, 0, 0, false, []⟩,
    ⟨some 13, none, .un .not (.t 12), 0, 0, false, []⟩])
   (.cutTo [1, 3, 5, 13] (.cond (.t 13) (.seq (.seg false [⟨some 6, none, .mov (.k (.bool false)), 0, 0, false, []⟩])
   (.ret))
   (.skip))))
   (.cutTo [1, 3, 5] (.seq (.seg true D20x0)
   (.cutTo [1, 7, 8] (.seq (.seq (.seg false [⟨some 22, none, .mov (.t 1), 0, 0, false, []⟩])
   (.block 0 (.seq (.seg false [⟨some 24, none, .bin .eql (.t 22) (.k (.int .i64 1)), 0, 0, false, []⟩,
    ⟨some 23, none, .mov (.t 24), 0, 0, false, []⟩])
   (.cond (.t 23) (.seq (.seg false [⟨some 25, none, .mov (.t 7), 0, 0, false, []⟩,
    ⟨some 26, none, .bin .eql (.t 25) (.k (.int .i64 0)), 0, 0, false, []⟩,
    ⟨some 27, none, .mov (.t 26), 0, 0, false, []⟩,
    ⟨some 28, some (27, true), .mov (.t 8), 0, 0, false, []⟩,
    ⟨some 29, some (27, true), .bin .eql (.t 28) (.k (.int .i64 0)), 0, 0, false, []⟩,
    ⟨some 30, none, .pick (.t 27) (.t 29) (.k (.bool false)), 0, 0, false, []⟩,
    ⟨some 6, none, .mov (.t 30), 0, 0, false, []⟩])
   (.cutTo [6] (.ret)))
   (.seq (.seg false [⟨some 32, none, .bin .eql (.t 22) (.k (.int .i64 2)), 0, 0, false, []⟩,
    ⟨some 31, none, .mov (.t 32), 0, 0, false, []⟩])
   (.cond (.t 31) (.seq (.seg false [⟨some 33, none, .mov (.t 7), 0, 0, false, []⟩,
    ⟨some 34, none, .bin .gtr (.t 33) (.k (.int .i64 0)), 0, 0, false, []⟩,
    ⟨some 35, none, .mov (.t 34), 0, 0, false, []⟩,
    ⟨some 36, some (35, false), .mov (.t 8), 0, 0, false, []⟩,
    ⟨some 37, some (35, false), .bin .lss (.t 36) (.k (.int .i64 0)), 0, 0, false, []⟩,
    ⟨some 38, none, .pick (.t 35) (.k (.bool true)) (.t 37), 0, 0, false, []⟩,
    ⟨some 6, none, .mov (.t 38), 0, 0, false, []⟩])
   (.cutTo [6] (.ret)))
   (.seq (.seg false [⟨some 40, none, .bin .eql (.t 22) (.k (.int .i64 3)), 0, 0, false, []⟩,
    ⟨some 39, none, .mov (.t 40), 0, 0, false, []⟩])
   (.cond (.t 39) (.seq (.seg false [⟨some 41, none, .mov (.t 8), 0, 0, false, []⟩,
    ⟨some 42, none, .bin .lss (.t 41) (.k (.int .i64 0)), 0, 0, false, []⟩,
    ⟨some 6, none, .mov (.t 42), 0, 0, false, []⟩])
   (.ret))
   (.skip)))))))))
   (.cutTo [8] (.seq (.seg false [⟨some 43, none, .mov (.t 8), 0, 0, false, []⟩,
    ⟨some 44, none, .bin .leq (.t 43) (.k (.int .i64 0)), 0, 0, false, []⟩,
    ⟨some 6, none, .mov (.t 44), 0, 0, false, []⟩])
   (.ret))))))))⟩
def E95x0 : List I := [⟨some 29, none, .faddr 0 1 (.t 6), 0, 0, false, []⟩,
    ⟨some 30, none, .load false 1 (.t 29), 0, 0, false, []⟩,
    ⟨some 31, none, .mov (.t 0), 0, 0, false, []⟩,
    ⟨some 32, none, .mov (.t 5), 0, 0, false, []⟩,
    ⟨some 33, none, .iaddr 2 (.t 31) (.t 32), 0, 0, false, []⟩,
    ⟨some 34, none, .faddr 0 1 (.t 33), 0, 0, false, []⟩,
    ⟨some 35, none, .load false 1 (.t 34), 0, 0, false, []⟩,
    ⟨some 36, none, .bin .neq (.t 30) (.t 35), 0, 0, false, []⟩,
    ⟨some 37, none, .mov (.t 36), 0, 0, false, []⟩,
    ⟨some 38, some (37, true), .faddr 0 1 (.t 6), 0, 0, false, []⟩,
    ⟨some 39, some (37, true), .load false 1 (.t 38), 0, 0, false, []⟩,
    ⟨some 40, some (37, true), .bin .neq (.t 39) (.k (.int .i64 0)), 0, 0, false, []⟩,
    ⟨some 41, some (37, true), .mov (.t 40), 0, 0, false, []⟩,
    ⟨some 42, some (41, false), .mov (.t 0), 0, 0, false, []⟩,
    ⟨some 43, some (41, false), .mov (.t 5), 0, 0, false, []⟩,
    ⟨some 44, some (41, false), .iaddr 2 (.t 42) (.t 43), 0, 0, false, []⟩,
    ⟨some 45, some (41, false), .faddr 1 1 (.t 44), 0, 0, false, []⟩,
    ⟨some 46, some (41, false), .load false 1 (.t 45), 0, 0, false, []⟩,
    ⟨some 47, some (41, false), .un .not (.t 46), 0, 0, false, []⟩,
    ⟨some 48, some (37, true), .pick (.t 41) (.k (.bool true)) (.t 47), 0, 0, false, []⟩,
    ⟨some 49, none, .pick (.t 37) (.t 48) (.k (.bool false)), 0, 0, false, []⟩]
def D95x0 : List I := E95x0
theorem evD95x0 (run : Run) (e : Env) (h : Heap) : drawI run D95x0 e h = DrawS (evQ run E95x0 e h) run E95x0 e h := drawI_quiet run _ (by rfl) e h
def B95x0 : C := .seq (.seg false [⟨some 25, none, .bin .lss (.t 24) (.t 23), 0, 0, false, []⟩])
   (.seq (.cond (.t 25) (.skip)
   (.exit 0))
   (.seq (.block 1 (.seq (.seg false [⟨some 26, none, .mov (.t 24), 0, 0, false, []⟩,
    ⟨some 27, none, .iaddr 3 (.t 22) (.t 24), 0, 0, false, []⟩,
    ⟨some 28, none, .load true 3 (.t 27), 0, 0, false, []⟩,
    ⟨some 6, none, .alloc [.int .i64 0, .int .i64 0, .str ⟨#[]⟩], 0, 0, false, []⟩,
    ⟨some 5, none, .mov (.t 26), 0, 0, false, []⟩,
    ⟨none, none, .store 3 (.t 6) (.t 28), 0, 0, false, []⟩])
   (.cutTo [0, 5, 6, 22, 23, 24] (.seq (.seg true D95x0)
   (.cutTo [0, 22, 23, 24, 49] (.cond (.t 49) (.seq (.seg false [⟨some 4, none, .mov (.k (.bool false)), 0, 0, false, []⟩])
   (.ret))
   (.skip)))))))
   (.cutTo [0, 22, 23, 24] (.seg false [⟨some 50, none, .bin .add (.t 24) (.k (.int .i64 1)), 0, 0, false, []⟩,
    ⟨some 24, none, .mov (.t 50), 0, 0, false, []⟩]))))
def L95x0 : C := B95x0
theorem evL95x0 (run : Run) (draw : List I → Env → Heap → Option (Env × Heap)) (e : Env) (h : Heap) : evC run draw L95x0 e h = evC run draw B95x0 e h := rfl
/-- loop.example/tablehouse/impl.RowFits -/
def F95 : F := ⟨51, [(false, 4, 0, false)],
   .seq (.seg false [⟨some 4, none, .mov (.k (.bool false)), 0, 0, false, []⟩])
   (.seq (.seq (.seg false [⟨some 7, none, .mov (.t 0), 0, 0, false, []⟩,
    ⟨some 8, none, .call 87 [.t 7] false false, 0, 0, false, []⟩,
    ⟨some 9, none, .un .not (.t 8), 0, 0, false, []⟩,
    ⟨some 10, none, .mov (.t 9), 0, 0, false, []⟩,
    ⟨some 11, some (10, false), .mov (.t 1), 0, 0, false, []⟩,
    ⟨some 12, some (10, false), .call 128 [.t 11] false false, 0, 0, false, []⟩,
    ⟨some 13, some (10, false), .un .not (.t 12), 0, 0, false, []⟩,
    ⟨some 14, none, .pick (.t 10) (.k (.bool true)) (.t 13), 0, 0, false, []⟩,
    ⟨some 15, none, .mov (.t 14), 0, 0, false, []⟩,
    ⟨some 16, some (15, false), .mov (.t 1), 0, 0, false, []⟩,
    ⟨some 17, some (15, false), .len false (.t 16), 0, 0, false, []⟩,
    ⟨some 18, some (15, false), .mov (.t 0), 0, 0, false, []⟩,
    ⟨some 19, some (15, false), .len false (.t 18), 0, 0, false, []⟩,
    ⟨some 20, some (15, false), .bin .neq (.t 17) (.t 19), 0, 0, false, []⟩,
    ⟨some 21, none, .pick (.t 15) (.k (.bool true)) (.t 20), 0, 0, false, []⟩])
   (.cutTo [0, 1, 21] (.cond (.t 21) (.seq (.seg false [⟨some 4, none, .mov (.k (.bool false)), 0, 0, false, []⟩])
   (.ret))
   (.skip))))
   (.cutTo [0, 1] (.seq (.seq (.seg false [⟨some 22, none, .mov (.t 1), 0, 0, false, []⟩,
    ⟨some 23, none, .len false (.t 22), 0, 0, false, []⟩,
    ⟨some 24, none, .mov (.k (.int .i64 0)), 0, 0, false, []⟩])
   (.block 0 (.loop [0, 22, 23, 24] [4] L95x0)))
   (.seq (.seg false [⟨some 4, none, .mov (.k (.bool true)), 0, 0, false, []⟩])
   (.ret)))))⟩
/-- loop.example/tablehouse/impl.RowOk -/
def F128 : F := ⟨11, [(false, 2, 0, false)],
   .seq (.seg false [⟨some 2, none, .mov (.k (.bool false)), 0, 0, false, []⟩])
   (.seq (.seg false [⟨some 3, none, .mov (.t 0), 0, 0, false, []⟩,
    ⟨some 4, none, .len false (.t 3), 0, 0, false, []⟩,
    ⟨some 5, none, .bin .leq (.t 4) (.k (.int .i64 4)), 0, 0, false, []⟩,
    ⟨some 6, none, .mov (.t 5), 0, 0, false, []⟩,
    ⟨some 7, some (6, true), .mov (.t 0), 0, 0, false, []⟩,
    ⟨some 8, some (6, true), .call 176 [.t 7, .k (.clo 177 [])] true false, 0, 0, false, []⟩,
    ⟨some 9, some (6, true), .un .not (.t 8), 0, 0, false, []⟩,
    ⟨some 10, none, .pick (.t 6) (.t 9) (.k (.bool false)), 0, 0, false, []⟩,
    ⟨some 2, none, .mov (.t 10), 0, 0, false, []⟩])
   (.cutTo [2] (.ret)))⟩
/-- loop.example/tablehouse/impl.RowOk$1 -/
def F177 : F := ⟨6, [(false, 2, 0, false)],
   .seq (.seg false [⟨some 1, none, .box (.t 0), 0, 0, false, []⟩,
    ⟨some 2, none, .mov (.k (.bool false)), 0, 0, false, []⟩])
   (.seq (.seg false [⟨some 3, none, .load true 3 (.t 1), 0, 0, false, []⟩,
    ⟨some 4, none, .call 83 [.t 3] false false, 0, 0, false, []⟩,
    ⟨some 5, none, .un .not (.t 4), 0, 0, false, []⟩,
    ⟨some 2, none, .mov (.t 5), 0, 0, false, []⟩])
   (.cutTo [2] (.ret)))⟩
/-- loop.example/tablehouse/impl.RowsOk -/
def F30 : F := ⟨13, [(false, 4, 0, false)],
   .seq (.seg false [⟨some 2, none, .box (.t 0), 0, 0, false, []⟩,
    ⟨some 4, none, .mov (.k (.bool false)), 0, 0, false, []⟩])
   (.seq (.seg false [⟨some 5, none, .load false 1 (.t 2), 0, 0, false, []⟩,
    ⟨some 6, none, .call 87 [.t 5] false false, 0, 0, false, []⟩,
    ⟨some 7, none, .mov (.t 6), 0, 0, false, []⟩,
    ⟨some 8, some (7, true), .mov (.t 1), 0, 0, false, []⟩,
    ⟨some 9, some (7, true), .mkclo 94 [.t 2], 0, 0, false, []⟩,
    ⟨some 10, some (7, true), .call 93 [.t 8, .t 9] true false, 0, 0, false, []⟩,
    ⟨some 11, some (7, true), .un .not (.t 10), 0, 0, false, []⟩,
    ⟨some 12, none, .pick (.t 7) (.t 11) (.k (.bool false)), 0, 0, false, []⟩,
    ⟨some 4, none, .mov (.t 12), 0, 0, false, []⟩])
   (.cutTo [4] (.ret)))⟩
/-- loop.example/tablehouse/impl.RowsOk$1 -/
def F94 : F := ⟨8, [(false, 3, 0, false)],
   .seq (.seg false [⟨some 3, none, .mov (.k (.bool false)), 0, 0, false, []⟩])
   (.seq (.seg false [⟨some 4, none, .load false 1 (.t 1), 0, 0, false, []⟩,
    ⟨some 5, none, .mov (.t 0), 0, 0, false, []⟩,
    ⟨some 6, none, .call 95 [.t 4, .t 5] false false, 0, 0, false, []⟩,
    ⟨some 7, none, .un .not (.t 6), 0, 0, false, []⟩,
    ⟨some 3, none, .mov (.t 7), 0, 0, false, []⟩])
   (.cutTo [3] (.ret)))⟩
/-- loop.example/tablehouse/impl.ValueOk -/
def F19 : F := ⟨5, [(false, 2, 0, false)],
   .seq (.seg false [⟨some 1, none, .box (.t 0), 0, 0, false, []⟩,
    ⟨some 2, none, .mov (.k (.bool false)), 0, 0, false, []⟩])
   (.seq (.seg false [⟨some 3, none, .load true 3 (.t 1), 0, 0, false, []⟩,
    ⟨some 4, none, .call 83 [.t 3] false false, 0, 0, false, []⟩,
    ⟨some 2, none, .mov (.t 4), 0, 0, false, []⟩])
   (.ret))⟩
/-- loop.example/tablehouse/impl.between -/
def F82 : F := ⟨15, [(false, 6, 0, false)],
   .seq (.seg false [⟨some 6, none, .mov (.k (.bool false)), 0, 0, false, []⟩])
   (.seq (.seg false [⟨some 7, none, .mov (.t 0), 0, 0, false, []⟩,
    ⟨some 8, none, .mov (.t 1), 0, 0, false, []⟩,
    ⟨some 9, none, .bin .geq (.t 7) (.t 8), 0, 0, false, []⟩,
    ⟨some 10, none, .mov (.t 9), 0, 0, false, []⟩,
    ⟨some 11, some (10, true), .mov (.t 0), 0, 0, false, []⟩,
    ⟨some 12, some (10, true), .mov (.t 2), 0, 0, false, []⟩,
    ⟨some 13, some (10, true), .bin .leq (.t 11) (.t 12), 0, 0, false, []⟩,
    ⟨some 14, none, .pick (.t 10) (.t 13) (.k (.bool false)), 0, 0, false, []⟩,
    ⟨some 6, none, .mov (.t 14), 0, 0, false, []⟩])
   (.cutTo [6] (.ret)))⟩
def E88x0 : List I := [⟨some 14, none, .load true 8 (.t 5), 0, 0, false, []⟩,
    ⟨some 15, none, .mov (.t 7), 0, 0, false, []⟩,
    ⟨some 16, none, .mov (.t 1), 0, 0, false, []⟩,
    ⟨some 17, none, .iaddr 3 (.t 15) (.t 16), 0, 0, false, []⟩,
    ⟨some 18, none, .load true 3 (.t 17), 0, 0, false, []⟩,
    ⟨some 19, none, .call 159 [.t 18] false false, 0, 0, false, []⟩,
    ⟨some 20, none, .call 31 [.t 14, .t 19] false false, 0, 0, false, []⟩,
    ⟨none, none, .store 8 (.t 5) (.t 20), 0, 0, true, []⟩]
def D88x0 : List I := E88x0
theorem evD88x0 (run : Run) (e : Env) (h : Heap) : drawI run D88x0 e h = DrawW (evW run E88x0 e h []) run E88x0 e h := drawI_write run _ e h
def B88x0 : C := .seq (.seg false [⟨some 11, none, .bin .lss (.t 10) (.t 9), 0, 0, false, []⟩])
   (.seq (.cond (.t 11) (.skip)
   (.exit 0))
   (.seq (.block 1 (.seq (.seg false [⟨some 12, none, .iaddr 1 (.t 8) (.t 10), 0, 0, false, []⟩,
    ⟨some 13, none, .load false 1 (.t 12), 0, 0, false, []⟩,
    ⟨some 7, none, .mov (.t 13), 0, 0, false, []⟩])
   (.seg true D88x0)))
   (.cutTo [1, 4, 5, 8, 9, 10] (.seg false [⟨some 21, none, .bin .add (.t 10) (.k (.int .i64 1)), 0, 0, false, []⟩,
    ⟨some 10, none, .mov (.t 21), 0, 0, false, []⟩]))))
def L88x0 : C := B88x0
theorem evL88x0 (run : Run) (draw : List I → Env → Heap → Option (Env × Heap)) (e : Env) (h : Heap) : evC run draw L88x0 e h = evC run draw B88x0 e h := rfl
/-- loop.example/tablehouse/impl.knownColumn -/
def F88 : F := ⟨23, [(true, 4, 8, true)],
   .seq (.seg false [⟨some 4, none, .alloc [.int .i64 0, .int .i64 0, .int .i64 0, .int .i64 0, .str ⟨#[]⟩, .int .i64 0, .int .i64 0, .str ⟨#[]⟩], 0, 0, false, []⟩])
   (.seq (.seg false [⟨some 5, none, .alloc [.int .i64 0, .int .i64 0, .int .i64 0, .int .i64 0, .str ⟨#[]⟩, .int .i64 0, .int .i64 0, .str ⟨#[]⟩], 0, 0, false, []⟩])
   (.seq (.seq (.seg false [⟨some 8, none, .mov (.t 0), 0, 0, false, []⟩,
    ⟨some 9, none, .len false (.t 8), 0, 0, false, []⟩,
    ⟨some 10, none, .mov (.k (.int .i64 0)), 0, 0, false, []⟩])
   (.block 0 (.loop [1, 4, 5, 8, 9, 10] [4, 5] L88x0)))
   (.seq (.seg false [⟨some 22, none, .load true 8 (.t 5), 0, 0, false, []⟩,
    ⟨none, none, .store 8 (.t 4) (.t 22), 0, 0, false, []⟩])
   (.ret))))⟩
def B153x0 : C := .seq (.seg false [⟨some 9, none, .bin .lss (.t 8) (.t 7), 0, 0, false, []⟩])
   (.seq (.cond (.t 9) (.skip)
   (.exit 0))
   (.seq (.block 1 (.seq (.seg false [⟨some 10, none, .iaddr 1 (.t 6) (.t 8), 0, 0, false, []⟩,
    ⟨some 11, none, .load false 1 (.t 10), 0, 0, false, []⟩,
    ⟨some 4, none, .mov (.t 11), 0, 0, false, []⟩])
   (.seq (.seg false [⟨some 12, none, .mov (.t 4), 0, 0, false, []⟩,
    ⟨some 13, none, .conv (.int .i64) (.t 12), 0, 0, false, []⟩,
    ⟨some 14, none, .call 82 [.t 13, .k (.int .i64 97), .k (.int .i64 122)] false false, 0, 0, false, []⟩,
    ⟨some 15, none, .un .not (.t 14), 0, 0, false, []⟩])
   (.cutTo [6, 7, 8, 15] (.cond (.t 15) (.seq (.seg false [⟨some 2, none, .mov (.k (.bool false)), 0, 0, false, []⟩])
   (.ret))
   (.skip))))))
   (.cutTo [6, 7, 8] (.seg false [⟨some 16, none, .bin .add (.t 8) (.k (.int .i64 1)), 0, 0, false, []⟩,
    ⟨some 8, none, .mov (.t 16), 0, 0, false, []⟩]))))
def L153x0 : C := B153x0
theorem evL153x0 (run : Run) (draw : List I → Env → Heap → Option (Env × Heap)) (e : Env) (h : Heap) : evC run draw L153x0 e h = evC run draw B153x0 e h := rfl
/-- loop.example/tablehouse/impl.letters -/
def F153 : F := ⟨17, [(false, 2, 0, false)],
   .seq (.seg false [⟨some 2, none, .mov (.k (.bool false)), 0, 0, false, []⟩])
   (.seq (.seq (.seg false [⟨some 5, none, .mov (.t 0), 0, 0, false, []⟩,
    ⟨some 6, none, .conv .toBytes (.t 5), 0, 0, false, []⟩,
    ⟨some 7, none, .len false (.t 6), 0, 0, false, []⟩,
    ⟨some 8, none, .mov (.k (.int .i64 0)), 0, 0, false, []⟩])
   (.cutTo [6, 7, 8] (.block 0 (.loop [6, 7, 8] [2] L153x0))))
   (.cutTo [] (.seq (.seg false [⟨some 2, none, .mov (.k (.bool true)), 0, 0, false, []⟩])
   (.ret))))⟩
/-- loop.example/tablehouse/laws.FnExactKnownColumn -/
def F7 : F := ⟨50, [(false, 6, 0, false)],
   .seq (.seg false [⟨some 6, none, .mov (.k (.bool false)), 0, 0, false, []⟩])
   (.seq (.seg false [⟨some 7, none, .mov (.k (.int .i64 1048576)), 0, 0, false, []⟩])
   (.seq (.seg false [⟨some 12, none, .mov (.t 0), 0, 0, false, []⟩,
    ⟨some 13, none, .mov (.t 7), 0, 0, false, []⟩,
    ⟨some 14, none, .call 32 [.t 12, .t 13] false false, 0, 0, false, []⟩,
    ⟨some 7, none, .mov (.t 14), 0, 0, false, []⟩])
   (.cutTo [0, 1, 2, 7] (.seq (.seq (.seg false [⟨some 15, none, .mov (.t 7), 0, 0, false, []⟩,
    ⟨some 16, none, .bin .lss (.t 15) (.k (.int .i64 0)), 0, 0, false, []⟩])
   (.cond (.t 16) (.seq (.seg false [⟨some 6, none, .mov (.k (.bool true)), 0, 0, false, []⟩])
   (.ret))
   (.skip)))
   (.seq (.seg false [⟨some 17, none, .mov (.t 1), 0, 0, false, []⟩,
    ⟨some 18, none, .mov (.t 7), 0, 0, false, []⟩,
    ⟨some 19, none, .call 33 [.t 17, .t 18] false false, 0, 0, false, []⟩,
    ⟨some 7, none, .mov (.t 19), 0, 0, false, []⟩])
   (.cutTo [0, 1, 2, 7] (.seq (.seq (.seg false [⟨some 20, none, .mov (.t 7), 0, 0, false, []⟩,
    ⟨some 21, none, .bin .lss (.t 20) (.k (.int .i64 0)), 0, 0, false, []⟩])
   (.cond (.t 21) (.seq (.seg false [⟨some 6, none, .mov (.k (.bool true)), 0, 0, false, []⟩])
   (.ret))
   (.skip)))
   (.seq (.seg false [⟨some 22, none, .mov (.t 0), 0, 0, false, []⟩,
    ⟨some 23, none, .callx 0 34 [.t 22], 0, 0, false, []⟩,
    ⟨some 24, none, .mov (.t 1), 0, 0, false, []⟩,
    ⟨some 25, none, .callx 0 35 [.t 24], 0, 0, false, []⟩,
    ⟨some 26, none, .mov (.t 2), 0, 0, false, []⟩,
    ⟨some 27, none, .callx 1 29 [.t 23, .t 25, .t 26], 0, 0, false, []⟩,
    ⟨some 8, none, .alloc [.int .i64 0, .int .i64 0, .int .i64 0, .int .i64 0, .str ⟨#[]⟩, .int .i64 0, .int .i64 0, .str ⟨#[]⟩], 0, 0, false, []⟩,
    ⟨none, none, .store 8 (.t 8) (.t 27), 0, 0, false, []⟩])
   (.cutTo [0, 1, 2, 8] (.seq (.seg false [⟨some 28, none, .mov (.t 0), 0, 0, false, []⟩,
    ⟨some 29, none, .callx 0 34 [.t 28], 0, 0, false, []⟩,
    ⟨some 9, none, .mov (.t 29), 0, 0, false, []⟩])
   (.seq (.seg false [⟨some 30, none, .mov (.t 1), 0, 0, false, []⟩,
    ⟨some 31, none, .callx 0 35 [.t 30], 0, 0, false, []⟩,
    ⟨some 10, none, .mov (.t 31), 0, 0, false, []⟩])
   (.seq (.seg false [⟨some 32, none, .mov (.t 9), 0, 0, false, []⟩,
    ⟨some 33, none, .mov (.t 10), 0, 0, false, []⟩,
    ⟨some 34, none, .mov (.t 2), 0, 0, false, []⟩,
    ⟨some 35, none, .callx 0 28 [.t 32, .t 33, .t 34], 0, 0, false, []⟩,
    ⟨some 11, none, .alloc [.int .i64 0, .int .i64 0, .int .i64 0, .int .i64 0, .str ⟨#[]⟩, .int .i64 0, .int .i64 0, .str ⟨#[]⟩], 0, 0, false, []⟩,
    ⟨none, none, .store 8 (.t 11) (.t 35), 0, 0, false, []⟩])
   (.cutTo [0, 1, 8, 9, 10, 11] (.seq (.seq (.seg false [⟨some 36, none, .load true 8 (.t 11), 0, 0, false, []⟩,
    ⟨some 37, none, .load true 8 (.t 8), 0, 0, false, []⟩,
    ⟨some 38, none, .callx 0 36 [.t 36, .t 37], 0, 0, false, []⟩,
    ⟨some 39, none, .un .not (.t 38), 0, 0, false, []⟩])
   (.cutTo [0, 1, 9, 10, 39] (.cond (.t 39) (.seq (.seg false [⟨some 6, none, .mov (.k (.bool false)), 0, 0, false, []⟩])
   (.ret))
   (.skip))))
   (.cutTo [0, 1, 9, 10] (.seq (.seq (.seg false [⟨some 40, none, .mov (.t 9), 0, 0, false, []⟩,
    ⟨some 41, none, .mov (.t 0), 0, 0, false, []⟩,
    ⟨some 42, none, .callx 0 34 [.t 41], 0, 0, false, []⟩,
    ⟨some 43, none, .callx 0 37 [.t 40, .t 42], 0, 0, false, []⟩,
    ⟨some 44, none, .un .not (.t 43), 0, 0, false, []⟩])
   (.cutTo [1, 10, 44] (.cond (.t 44) (.seq (.seg false [⟨some 6, none, .mov (.k (.bool false)), 0, 0, false, []⟩])
   (.ret))
   (.skip))))
   (.cutTo [1, 10] (.seq (.seq (.seg false [⟨some 45, none, .mov (.t 10), 0, 0, false, []⟩,
    ⟨some 46, none, .mov (.t 1), 0, 0, false, []⟩,
    ⟨some 47, none, .callx 0 35 [.t 46], 0, 0, false, []⟩,
    ⟨some 48, none, .callx 0 38 [.t 45, .t 47], 0, 0, false, []⟩,
    ⟨some 49, none, .un .not (.t 48), 0, 0, false, []⟩])
   (.cutTo [49] (.cond (.t 49) (.seq (.seg false [⟨some 6, none, .mov (.k (.bool false)), 0, 0, false, []⟩])
   (.ret))
   (.skip))))
   (.cutTo [] (.seq (.seg false [⟨some 6, none, .mov (.k (.bool true)), 0, 0, false, []⟩])
   (.ret)))))))))))))))))))))⟩
/-- loop.example/tablehouse/laws.alive -/
def F21 : F := ⟨8, [(false, 0, 0, false)],
   .seq (.seg false [⟨some 0, none, .mov (.k (.bool false)), 0, 0, false, []⟩])
   (.seq (.seg false [⟨some 1, none, .build [.int .i64 0, .int .i64 0, .str ⟨#[]⟩] [(0, 1, .k (.int .i64 1)), (1, 1, .k (.int .i64 3))], 0, 0, false, []⟩,
    ⟨some 2, none, .call 19 [.t 1] false false, 0, 0, false, []⟩,
    ⟨some 3, none, .mov (.t 2), 0, 0, false, []⟩,
    ⟨some 4, some (3, true), .build [.int .i64 0, .int .i64 0, .str ⟨#[]⟩] [(0, 1, .k (.int .i64 9))], 0, 0, false, []⟩,
    ⟨some 5, some (3, true), .call 19 [.t 4] false false, 0, 0, false, []⟩,
    ⟨some 6, some (3, true), .un .not (.t 5), 0, 0, false, []⟩,
    ⟨some 7, none, .pick (.t 3) (.t 6) (.k (.bool false)), 0, 0, false, []⟩,
    ⟨some 0, none, .mov (.t 7), 0, 0, false, []⟩])
   (.cutTo [0] (.ret)))⟩
/-- loop.example/tablehouse/laws.eqColumn -/
def F102 : F := ⟨15, [(false, 4, 0, false)],
   .seq (.seg false [⟨some 2, none, .box (.t 0), 0, 0, false, []⟩,
    ⟨some 3, none, .box (.t 1), 0, 0, false, []⟩,
    ⟨some 4, none, .mov (.k (.bool false)), 0, 0, false, []⟩])
   (.seq (.seq (.seg false [⟨some 5, none, .faddr 0 1 (.t 2), 0, 0, false, []⟩,
    ⟨some 6, none, .load false 1 (.t 5), 0, 0, false, []⟩,
    ⟨some 7, none, .faddr 0 1 (.t 3), 0, 0, false, []⟩,
    ⟨some 8, none, .load false 1 (.t 7), 0, 0, false, []⟩,
    ⟨some 9, none, .bin .neq (.t 6) (.t 8), 0, 0, false, []⟩])
   (.cutTo [2, 3, 9] (.cond (.t 9) (.seq (.seg false [⟨some 4, none, .mov (.k (.bool false)), 0, 0, false, []⟩])
   (.ret))
   (.skip))))
   (.cutTo [2, 3] (.seq (.seq (.seg false [⟨some 10, none, .faddr 1 1 (.t 2), 0, 0, false, []⟩,
    ⟨some 11, none, .load false 1 (.t 10), 0, 0, false, []⟩,
    ⟨some 12, none, .faddr 1 1 (.t 3), 0, 0, false, []⟩,
    ⟨some 13, none, .load false 1 (.t 12), 0, 0, false, []⟩,
    ⟨some 14, none, .eqb true (.t 11) (.t 13), 0, 0, false, []⟩])
   (.cutTo [14] (.cond (.t 14) (.seq (.seg false [⟨some 4, none, .mov (.k (.bool false)), 0, 0, false, []⟩])
   (.ret))
   (.skip))))
   (.cutTo [] (.seq (.seg false [⟨some 4, none, .mov (.k (.bool true)), 0, 0, false, []⟩])
   (.ret))))))⟩
def E37x0 : List I := [⟨some 17, none, .mov (.t 0), 0, 0, false, []⟩,
    ⟨some 18, none, .mov (.t 5), 0, 0, false, []⟩,
    ⟨some 19, none, .iaddr 2 (.t 17) (.t 18), 0, 0, false, []⟩,
    ⟨some 20, none, .load true 2 (.t 19), 0, 0, false, []⟩,
    ⟨some 21, none, .mov (.t 1), 0, 0, false, []⟩,
    ⟨some 22, none, .mov (.t 5), 0, 0, false, []⟩,
    ⟨some 23, none, .iaddr 2 (.t 21) (.t 22), 0, 0, false, []⟩,
    ⟨some 24, none, .load true 2 (.t 23), 0, 0, false, []⟩,
    ⟨some 25, none, .call 102 [.t 20, .t 24] false false, 0, 0, false, []⟩,
    ⟨some 26, none, .un .not (.t 25), 0, 0, false, []⟩]
def D37x0 : List I := E37x0
theorem evD37x0 (run : Run) (e : Env) (h : Heap) : drawI run D37x0 e h = DrawS (evQ run E37x0 e h) run E37x0 e h := drawI_quiet run _ (by rfl) e h
def B37x0 : C := .seq (.seq (.seg false [⟨some 11, none, .mov (.t 5), 0, 0, false, []⟩,
    ⟨some 12, none, .mov (.t 0), 0, 0, false, []⟩,
    ⟨some 13, none, .len false (.t 12), 0, 0, false, []⟩,
    ⟨some 14, none, .bin .lss (.t 11) (.t 13), 0, 0, false, []⟩])
   (.cutTo [0, 1, 5, 14] (.cond (.t 14) (.skip)
   (.exit 0))))
   (.cutTo [0, 1, 5] (.seq (.block 1 (.seq (.seg true D37x0)
   (.cutTo [0, 1, 5, 26] (.cond (.t 26) (.seq (.seg false [⟨some 4, none, .mov (.k (.bool false)), 0, 0, false, []⟩])
   (.ret))
   (.skip)))))
   (.cutTo [0, 1, 5] (.seg false [⟨some 15, none, .mov (.t 5), 0, 0, false, []⟩,
    ⟨some 16, none, .bin .add (.t 15) (.k (.int .i64 1)), 0, 0, false, []⟩,
    ⟨some 5, none, .mov (.t 16), 0, 0, false, []⟩]))))
def L37x0 : C := B37x0
theorem evL37x0 (run : Run) (draw : List I → Env → Heap → Option (Env × Heap)) (e : Env) (h : Heap) : evC run draw L37x0 e h = evC run draw B37x0 e h := rfl
/-- loop.example/tablehouse/laws.eqColumnS -/
def F37 : F := ⟨27, [(false, 4, 0, false)],
   .seq (.seg false [⟨some 4, none, .mov (.k (.bool false)), 0, 0, false, []⟩])
   (.seq (.seq (.seg false [⟨some 6, none, .mov (.t 0), 0, 0, false, []⟩,
    ⟨some 7, none, .len false (.t 6), 0, 0, false, []⟩,
    ⟨some 8, none, .mov (.t 1), 0, 0, false, []⟩,
    ⟨some 9, none, .len false (.t 8), 0, 0, false, []⟩,
    ⟨some 10, none, .bin .neq (.t 7) (.t 9), 0, 0, false, []⟩])
   (.cutTo [0, 1, 10] (.cond (.t 10) (.seq (.seg false [⟨some 4, none, .mov (.k (.bool false)), 0, 0, false, []⟩])
   (.ret))
   (.skip))))
   (.cutTo [0, 1] (.seq (.seq (.seg false [⟨some 5, none, .mov (.k (.int .i64 0)), 0, 0, false, []⟩])
   (.block 0 (.loop [0, 1, 5] [4] L37x0)))
   (.seq (.seg false [⟨some 4, none, .mov (.k (.bool true)), 0, 0, false, []⟩])
   (.ret)))))⟩
/-- loop.example/tablehouse/laws.eqValue -/
def F101 : F := ⟨20, [(false, 4, 0, false)],
   .seq (.seg false [⟨some 2, none, .box (.t 0), 0, 0, false, []⟩,
    ⟨some 3, none, .box (.t 1), 0, 0, false, []⟩,
    ⟨some 4, none, .mov (.k (.bool false)), 0, 0, false, []⟩])
   (.seq (.seq (.seg false [⟨some 5, none, .faddr 0 1 (.t 2), 0, 0, false, []⟩,
    ⟨some 6, none, .load false 1 (.t 5), 0, 0, false, []⟩,
    ⟨some 7, none, .faddr 0 1 (.t 3), 0, 0, false, []⟩,
    ⟨some 8, none, .load false 1 (.t 7), 0, 0, false, []⟩,
    ⟨some 9, none, .bin .neq (.t 6) (.t 8), 0, 0, false, []⟩])
   (.cutTo [2, 3, 9] (.cond (.t 9) (.seq (.seg false [⟨some 4, none, .mov (.k (.bool false)), 0, 0, false, []⟩])
   (.ret))
   (.skip))))
   (.cutTo [2, 3] (.seq (.seq (.seg false [⟨some 10, none, .faddr 1 1 (.t 2), 0, 0, false, []⟩,
    ⟨some 11, none, .load false 1 (.t 10), 0, 0, false, []⟩,
    ⟨some 12, none, .faddr 1 1 (.t 3), 0, 0, false, []⟩,
    ⟨some 13, none, .load false 1 (.t 12), 0, 0, false, []⟩,
    ⟨some 14, none, .bin .neq (.t 11) (.t 13), 0, 0, false, []⟩])
   (.cutTo [2, 3, 14] (.cond (.t 14) (.seq (.seg false [⟨some 4, none, .mov (.k (.bool false)), 0, 0, false, []⟩])
   (.ret))
   (.skip))))
   (.cutTo [2, 3] (.seq (.seq (.seg false [⟨some 15, none, .faddr 2 1 (.t 2), 0, 0, false, []⟩,
    ⟨some 16, none, .load false 1 (.t 15), 0, 0, false, []⟩,
    ⟨some 17, none, .faddr 2 1 (.t 3), 0, 0, false, []⟩,
    ⟨some 18, none, .load false 1 (.t 17), 0, 0, false, []⟩,
    ⟨some 19, none, .bin .neq (.t 16) (.t 18), 0, 0, false, []⟩])
   (.cutTo [19] (.cond (.t 19) (.seq (.seg false [⟨some 4, none, .mov (.k (.bool false)), 0, 0, false, []⟩])
   (.ret))
   (.skip))))
   (.cutTo [] (.seq (.seg false [⟨some 4, none, .mov (.k (.bool true)), 0, 0, false, []⟩])
   (.ret))))))))⟩
def E103x0 : List I := [⟨some 17, none, .mov (.t 0), 0, 0, false, []⟩,
    ⟨some 18, none, .mov (.t 5), 0, 0, false, []⟩,
    ⟨some 19, none, .iaddr 3 (.t 17) (.t 18), 0, 0, false, []⟩,
    ⟨some 20, none, .load true 3 (.t 19), 0, 0, false, []⟩,
    ⟨some 21, none, .mov (.t 1), 0, 0, false, []⟩,
    ⟨some 22, none, .mov (.t 5), 0, 0, false, []⟩,
    ⟨some 23, none, .iaddr 3 (.t 21) (.t 22), 0, 0, false, []⟩,
    ⟨some 24, none, .load true 3 (.t 23), 0, 0, false, []⟩,
    ⟨some 25, none, .call 101 [.t 20, .t 24] false false, 0, 0, false, []⟩,
    ⟨some 26, none, .un .not (.t 25), 0, 0, false, []⟩]
def D103x0 : List I := E103x0
theorem evD103x0 (run : Run) (e : Env) (h : Heap) : drawI run D103x0 e h = DrawS (evQ run E103x0 e h) run E103x0 e h := drawI_quiet run _ (by rfl) e h
def B103x0 : C := .seq (.seq (.seg false [⟨some 11, none, .mov (.t 5), 0, 0, false, []⟩,
    ⟨some 12, none, .mov (.t 0), 0, 0, false, []⟩,
    ⟨some 13, none, .len false (.t 12), 0, 0, false, []⟩,
    ⟨some 14, none, .bin .lss (.t 11) (.t 13), 0, 0, false, []⟩])
   (.cutTo [0, 1, 5, 14] (.cond (.t 14) (.skip)
   (.exit 0))))
   (.cutTo [0, 1, 5] (.seq (.block 1 (.seq (.seg true D103x0)
   (.cutTo [0, 1, 5, 26] (.cond (.t 26) (.seq (.seg false [⟨some 4, none, .mov (.k (.bool false)), 0, 0, false, []⟩])
   (.ret))
   (.skip)))))
   (.cutTo [0, 1, 5] (.seg false [⟨some 15, none, .mov (.t 5), 0, 0, false, []⟩,
    ⟨some 16, none, .bin .add (.t 15) (.k (.int .i64 1)), 0, 0, false, []⟩,
    ⟨some 5, none, .mov (.t 16), 0, 0, false, []⟩]))))
def L103x0 : C := B103x0
theorem evL103x0 (run : Run) (draw : List I → Env → Heap → Option (Env × Heap)) (e : Env) (h : Heap) : evC run draw L103x0 e h = evC run draw B103x0 e h := rfl
/-- loop.example/tablehouse/laws.eqValueS -/
def F103 : F := ⟨27, [(false, 4, 0, false)],
   .seq (.seg false [⟨some 4, none, .mov (.k (.bool false)), 0, 0, false, []⟩])
   (.seq (.seq (.seg false [⟨some 6, none, .mov (.t 0), 0, 0, false, []⟩,
    ⟨some 7, none, .len false (.t 6), 0, 0, false, []⟩,
    ⟨some 8, none, .mov (.t 1), 0, 0, false, []⟩,
    ⟨some 9, none, .len false (.t 8), 0, 0, false, []⟩,
    ⟨some 10, none, .bin .neq (.t 7) (.t 9), 0, 0, false, []⟩])
   (.cutTo [0, 1, 10] (.cond (.t 10) (.seq (.seg false [⟨some 4, none, .mov (.k (.bool false)), 0, 0, false, []⟩])
   (.ret))
   (.skip))))
   (.cutTo [0, 1] (.seq (.seq (.seg false [⟨some 5, none, .mov (.k (.int .i64 0)), 0, 0, false, []⟩])
   (.block 0 (.loop [0, 1, 5] [4] L103x0)))
   (.seq (.seg false [⟨some 4, none, .mov (.k (.bool true)), 0, 0, false, []⟩])
   (.ret)))))⟩
def E38x0 : List I := [⟨some 17, none, .mov (.t 0), 0, 0, false, []⟩,
    ⟨some 18, none, .mov (.t 5), 0, 0, false, []⟩,
    ⟨some 19, none, .iaddr 1 (.t 17) (.t 18), 0, 0, false, []⟩,
    ⟨some 20, none, .load false 1 (.t 19), 0, 0, false, []⟩,
    ⟨some 21, none, .mov (.t 1), 0, 0, false, []⟩,
    ⟨some 22, none, .mov (.t 5), 0, 0, false, []⟩,
    ⟨some 23, none, .iaddr 1 (.t 21) (.t 22), 0, 0, false, []⟩,
    ⟨some 24, none, .load false 1 (.t 23), 0, 0, false, []⟩,
    ⟨some 25, none, .call 103 [.t 20, .t 24] false false, 0, 0, false, []⟩,
    ⟨some 26, none, .un .not (.t 25), 0, 0, false, []⟩]
def D38x0 : List I := E38x0
theorem evD38x0 (run : Run) (e : Env) (h : Heap) : drawI run D38x0 e h = DrawS (evQ run E38x0 e h) run E38x0 e h := drawI_quiet run _ (by rfl) e h
def B38x0 : C := .seq (.seq (.seg false [⟨some 11, none, .mov (.t 5), 0, 0, false, []⟩,
    ⟨some 12, none, .mov (.t 0), 0, 0, false, []⟩,
    ⟨some 13, none, .len false (.t 12), 0, 0, false, []⟩,
    ⟨some 14, none, .bin .lss (.t 11) (.t 13), 0, 0, false, []⟩])
   (.cutTo [0, 1, 5, 14] (.cond (.t 14) (.skip)
   (.exit 0))))
   (.cutTo [0, 1, 5] (.seq (.block 1 (.seq (.seg true D38x0)
   (.cutTo [0, 1, 5, 26] (.cond (.t 26) (.seq (.seg false [⟨some 4, none, .mov (.k (.bool false)), 0, 0, false, []⟩])
   (.ret))
   (.skip)))))
   (.cutTo [0, 1, 5] (.seg false [⟨some 15, none, .mov (.t 5), 0, 0, false, []⟩,
    ⟨some 16, none, .bin .add (.t 15) (.k (.int .i64 1)), 0, 0, false, []⟩,
    ⟨some 5, none, .mov (.t 16), 0, 0, false, []⟩]))))
def L38x0 : C := B38x0
theorem evL38x0 (run : Run) (draw : List I → Env → Heap → Option (Env × Heap)) (e : Env) (h : Heap) : evC run draw L38x0 e h = evC run draw B38x0 e h := rfl
/-- loop.example/tablehouse/laws.eqValueSS -/
def F38 : F := ⟨27, [(false, 4, 0, false)],
   .seq (.seg false [⟨some 4, none, .mov (.k (.bool false)), 0, 0, false, []⟩])
   (.seq (.seq (.seg false [⟨some 6, none, .mov (.t 0), 0, 0, false, []⟩,
    ⟨some 7, none, .len false (.t 6), 0, 0, false, []⟩,
    ⟨some 8, none, .mov (.t 1), 0, 0, false, []⟩,
    ⟨some 9, none, .len false (.t 8), 0, 0, false, []⟩,
    ⟨some 10, none, .bin .neq (.t 7) (.t 9), 0, 0, false, []⟩])
   (.cutTo [0, 1, 10] (.cond (.t 10) (.seq (.seg false [⟨some 4, none, .mov (.k (.bool false)), 0, 0, false, []⟩])
   (.ret))
   (.skip))))
   (.cutTo [0, 1] (.seq (.seq (.seg false [⟨some 5, none, .mov (.k (.int .i64 0)), 0, 0, false, []⟩])
   (.block 0 (.loop [0, 1, 5] [4] L38x0)))
   (.seq (.seg false [⟨some 4, none, .mov (.k (.bool true)), 0, 0, false, []⟩])
   (.ret)))))⟩
def E121x0 : List I := [⟨some 30, none, .mov (.t 0), 0, 0, false, []⟩,
    ⟨some 31, none, .mov (.t 5), 0, 0, false, []⟩,
    ⟨some 32, none, .iaddr 3 (.t 30) (.t 31), 0, 0, false, []⟩,
    ⟨some 33, none, .faddr 2 1 (.t 32), 0, 0, false, []⟩,
    ⟨some 34, none, .load false 1 (.t 33), 0, 0, false, []⟩,
    ⟨some 35, none, .mov (.t 1), 0, 0, false, []⟩,
    ⟨some 36, none, .call 173 [.t 35] false false, 0, 0, false, []⟩,
    ⟨some 37, none, .bin .neq (.t 34) (.t 36), 0, 0, false, []⟩]
def D121x0 : List I := E121x0
theorem evD121x0 (run : Run) (e : Env) (h : Heap) : drawI run D121x0 e h = DrawS (evQ run E121x0 e h) run E121x0 e h := drawI_quiet run _ (by rfl) e h
def B121x0 : C := .seq (.seq (.seg false [⟨some 6, none, .mov (.t 5), 0, 0, false, []⟩,
    ⟨some 7, none, .mov (.t 0), 0, 0, false, []⟩,
    ⟨some 8, none, .len false (.t 7), 0, 0, false, []⟩,
    ⟨some 9, none, .bin .lss (.t 6) (.t 8), 0, 0, false, []⟩])
   (.cutTo [0, 1, 5, 9] (.cond (.t 9) (.skip)
   (.exit 0))))
   (.cutTo [0, 1, 5] (.seq (.block 1 (.seq (.seq (.seg false [⟨some 12, none, .mov (.t 0), 0, 0, false, []⟩,
    ⟨some 13, none, .mov (.t 5), 0, 0, false, []⟩,
    ⟨some 14, none, .iaddr 3 (.t 12) (.t 13), 0, 0, false, []⟩,
    ⟨some 15, none, .faddr 0 1 (.t 14), 0, 0, false, []⟩,
    ⟨some 16, none, .load false 1 (.t 15), 0, 0, false, []⟩,
    ⟨some 17, none, .mov (.t 1), 0, 0, false, []⟩,
    ⟨some 18, none, .bin .neq (.t 16) (.t 17), 0, 0, false, []⟩])
   (.cutTo [0, 1, 5, 18] (.cond (.t 18) (.seq (.seg false [⟨some 4, none, .mov (.k (.int .i64 (-1))), 0, 0, false, []⟩])
   (.ret))
   (.skip))))
   (.cutTo [0, 1, 5] (.seq (.seg false [⟨some 19, none, .mov (.t 1), 0, 0, false, []⟩,
    ⟨some 20, none, .bin .add (.t 19) (.k (.int .i64 1)), 0, 0, false, []⟩,
    ⟨some 1, none, .mov (.t 20), 0, 0, false, []⟩])
   (.seq (.seq (.seg false [⟨some 21, none, .mov (.t 0), 0, 0, false, []⟩,
    ⟨some 22, none, .mov (.t 5), 0, 0, false, []⟩,
    ⟨some 23, none, .iaddr 3 (.t 21) (.t 22), 0, 0, false, []⟩,
    ⟨some 24, none, .faddr 1 1 (.t 23), 0, 0, false, []⟩,
    ⟨some 25, none, .load false 1 (.t 24), 0, 0, false, []⟩,
    ⟨some 26, none, .mov (.t 1), 0, 0, false, []⟩,
    ⟨some 27, none, .bin .neq (.t 25) (.t 26), 0, 0, false, []⟩])
   (.cutTo [0, 1, 5, 27] (.cond (.t 27) (.seq (.seg false [⟨some 4, none, .mov (.k (.int .i64 (-1))), 0, 0, false, []⟩])
   (.ret))
   (.skip))))
   (.cutTo [0, 1, 5] (.seq (.seg false [⟨some 28, none, .mov (.t 1), 0, 0, false, []⟩,
    ⟨some 29, none, .bin .add (.t 28) (.k (.int .i64 1)), 0, 0, false, []⟩,
    ⟨some 1, none, .mov (.t 29), 0, 0, false, []⟩])
   (.seq (.seq (.seg true D121x0)
   (.cutTo [0, 1, 5, 37] (.cond (.t 37) (.seq (.seg false [⟨some 4, none, .mov (.k (.int .i64 (-1))), 0, 0, false, []⟩])
   (.ret))
   (.skip))))
   (.cutTo [0, 1, 5] (.seg false [⟨some 38, none, .mov (.t 1), 0, 0, false, []⟩,
    ⟨some 39, none, .bin .add (.t 38) (.k (.int .i64 1)), 0, 0, false, []⟩,
    ⟨some 1, none, .mov (.t 39), 0, 0, false, []⟩]))))))))))
   (.cutTo [0, 1, 5] (.seg false [⟨some 10, none, .mov (.t 5), 0, 0, false, []⟩,
    ⟨some 11, none, .bin .add (.t 10) (.k (.int .i64 1)), 0, 0, false, []⟩,
    ⟨some 5, none, .mov (.t 11), 0, 0, false, []⟩]))))
def L121x0 : C := B121x0
theorem evL121x0 (run : Run) (draw : List I → Env → Heap → Option (Env × Heap)) (e : Env) (h : Heap) : evC run draw L121x0 e h = evC run draw B121x0 e h := rfl
/-- loop.example/tablehouse/laws.heldValueS -/
def F121 : F := ⟨41, [(false, 4, 0, false)],
   .seq (.seg false [⟨some 4, none, .mov (.k (.int .i64 0)), 0, 0, false, []⟩])
   (.seq (.seq (.seg false [⟨some 5, none, .mov (.k (.int .i64 0)), 0, 0, false, []⟩])
   (.block 0 (.loop [0, 1, 5] [1, 4] L121x0)))
   (.seq (.seg false [⟨some 40, none, .mov (.t 1), 0, 0, false, []⟩,
    ⟨some 4, none, .mov (.t 40), 0, 0, false, []⟩])
   (.ret)))⟩
def B136x0 : C := .seq (.seq (.seg false [⟨some 6, none, .mov (.t 5), 0, 0, false, []⟩,
    ⟨some 7, none, .mov (.t 0), 0, 0, false, []⟩,
    ⟨some 8, none, .len false (.t 7), 0, 0, false, []⟩,
    ⟨some 9, none, .bin .lss (.t 6) (.t 8), 0, 0, false, []⟩])
   (.cutTo [0, 1, 5, 9] (.cond (.t 9) (.skip)
   (.exit 0))))
   (.cutTo [0, 1, 5] (.seq (.block 1 (.seq (.seg false [⟨some 12, none, .mov (.t 0), 0, 0, false, []⟩,
    ⟨some 13, none, .mov (.t 5), 0, 0, false, []⟩,
    ⟨some 14, none, .iaddr 1 (.t 12) (.t 13), 0, 0, false, []⟩,
    ⟨some 15, none, .load false 1 (.t 14), 0, 0, false, []⟩,
    ⟨some 16, none, .mov (.t 1), 0, 0, false, []⟩,
    ⟨some 17, none, .call 121 [.t 15, .t 16] false false, 0, 0, false, []⟩,
    ⟨some 1, none, .mov (.t 17), 0, 0, false, []⟩])
   (.cutTo [0, 1, 5] (.seq (.seg false [⟨some 18, none, .mov (.t 1), 0, 0, false, []⟩,
    ⟨some 19, none, .bin .lss (.t 18) (.k (.int .i64 0)), 0, 0, false, []⟩])
   (.cond (.t 19) (.seq (.seg false [⟨some 4, none, .mov (.k (.int .i64 (-1))), 0, 0, false, []⟩])
   (.ret))
   (.skip))))))
   (.cutTo [0, 1, 5] (.seg false [⟨some 10, none, .mov (.t 5), 0, 0, false, []⟩,
    ⟨some 11, none, .bin .add (.t 10) (.k (.int .i64 1)), 0, 0, false, []⟩,
    ⟨some 5, none, .mov (.t 11), 0, 0, false, []⟩]))))
def L136x0 : C := B136x0
theorem evL136x0 (run : Run) (draw : List I → Env → Heap → Option (Env × Heap)) (e : Env) (h : Heap) : evC run draw L136x0 e h = evC run draw B136x0 e h := rfl
/-- loop.example/tablehouse/laws.heldValueSS -/
def F136 : F := ⟨21, [(false, 4, 0, false)],
   .seq (.seg false [⟨some 4, none, .mov (.k (.int .i64 0)), 0, 0, false, []⟩])
   (.seq (.seq (.seg false [⟨some 5, none, .mov (.k (.int .i64 0)), 0, 0, false, []⟩])
   (.block 0 (.loop [0, 1, 5] [1, 4] L136x0)))
   (.seq (.seg false [⟨some 20, none, .mov (.t 1), 0, 0, false, []⟩,
    ⟨some 4, none, .mov (.t 20), 0, 0, false, []⟩])
   (.ret)))⟩
def B67x0 : C := .seq (.seq (.seg false [⟨some 6, none, .mov (.t 5), 0, 0, false, []⟩,
    ⟨some 7, none, .mov (.t 0), 0, 0, false, []⟩,
    ⟨some 8, none, .len false (.t 7), 0, 0, false, []⟩,
    ⟨some 9, none, .bin .lss (.t 6) (.t 8), 0, 0, false, []⟩])
   (.cutTo [0, 1, 5, 9] (.cond (.t 9) (.skip)
   (.exit 0))))
   (.cutTo [0, 1, 5] (.seq (.block 1 (.seq (.seg false [⟨some 12, none, .mov (.t 0), 0, 0, false, []⟩,
    ⟨some 13, none, .mov (.t 5), 0, 0, false, []⟩,
    ⟨some 14, none, .mov (.t 1), 0, 0, false, []⟩,
    ⟨some 15, none, .iaddr 2 (.t 12) (.t 13), 0, 0, false, []⟩,
    ⟨some 16, none, .faddr 0 1 (.t 15), 0, 0, false, []⟩,
    ⟨none, none, .store 1 (.t 16) (.t 14), 0, 0, false, []⟩])
   (.cutTo [0, 1, 5] (.seq (.seg false [⟨some 17, none, .mov (.t 1), 0, 0, false, []⟩,
    ⟨some 18, none, .bin .add (.t 17) (.k (.int .i64 1)), 0, 0, false, []⟩,
    ⟨some 1, none, .mov (.t 18), 0, 0, false, []⟩])
   (.seq (.seg false [⟨some 19, none, .mov (.t 0), 0, 0, false, []⟩,
    ⟨some 20, none, .mov (.t 5), 0, 0, false, []⟩,
    ⟨some 21, none, .mov (.t 1), 0, 0, false, []⟩,
    ⟨some 22, none, .bin .rem (.t 21) (.k (.int .i64 3)), 0, 0, false, []⟩,
    ⟨some 23, none, .bin .eql (.t 22) (.k (.int .i64 0)), 0, 0, false, []⟩,
    ⟨some 24, none, .iaddr 2 (.t 19) (.t 20), 0, 0, false, []⟩,
    ⟨some 25, none, .faddr 1 1 (.t 24), 0, 0, false, []⟩,
    ⟨none, none, .store 1 (.t 25) (.t 23), 0, 0, false, []⟩])
   (.cutTo [0, 1, 5] (.seg false [⟨some 26, none, .mov (.t 1), 0, 0, false, []⟩,
    ⟨some 27, none, .bin .add (.t 26) (.k (.int .i64 1)), 0, 0, false, []⟩,
    ⟨some 1, none, .mov (.t 27), 0, 0, false, []⟩])))))))
   (.cutTo [0, 1, 5] (.seg false [⟨some 10, none, .mov (.t 5), 0, 0, false, []⟩,
    ⟨some 11, none, .bin .add (.t 10) (.k (.int .i64 1)), 0, 0, false, []⟩,
    ⟨some 5, none, .mov (.t 11), 0, 0, false, []⟩]))))
def L67x0 : C := B67x0
theorem evL67x0 (run : Run) (draw : List I → Env → Heap → Option (Env × Heap)) (e : Env) (h : Heap) : evC run draw L67x0 e h = evC run draw B67x0 e h := rfl
/-- loop.example/tablehouse/laws.markColumnS -/
def F67 : F := ⟨29, [(false, 4, 0, false)],
   .seq (.seg false [⟨some 4, none, .mov (.k (.int .i64 0)), 0, 0, false, []⟩])
   (.seq (.seq (.seg false [⟨some 5, none, .mov (.k (.int .i64 0)), 0, 0, false, []⟩])
   (.block 0 (.loopk [0, 1, 5] [1] L67x0)))
   (.seq (.seg false [⟨some 28, none, .mov (.t 1), 0, 0, false, []⟩,
    ⟨some 4, none, .mov (.t 28), 0, 0, false, []⟩])
   (.ret)))⟩
def B173x0 : C := .seq (.seq (.seg false [⟨some 6, none, .mov (.t 0), 0, 0, false, []⟩,
    ⟨some 7, none, .bin .gtr (.t 6) (.k (.int .i64 0)), 0, 0, false, []⟩])
   (.cond (.t 7) (.skip)
   (.exit 0)))
   (.block 1 (.seq (.seg false [⟨some 8, none, .mov (.t 0), 0, 0, false, []⟩,
    ⟨some 9, none, .bin .rem (.t 8) (.k (.int .i64 10)), 0, 0, false, []⟩,
    ⟨some 10, none, .bin .add (.k (.int .i64 48)) (.t 9), 0, 0, false, []⟩,
    ⟨some 11, none, .conv (.int .u8) (.t 10), 0, 0, false, []⟩,
    ⟨some 12, none, .mksl false 1 [.t 11], 0, 0, false, []⟩,
    ⟨some 13, none, .conv .toStr (.t 12), 0, 0, false, []⟩,
    ⟨some 14, none, .mov (.t 3), 0, 0, false, []⟩,
    ⟨some 15, none, .bin .add (.t 13) (.t 14), 0, 0, false, []⟩,
    ⟨some 3, none, .mov (.t 15), 0, 0, false, []⟩])
   (.cutTo [0, 3] (.seg false [⟨some 16, none, .mov (.t 0), 0, 0, false, []⟩,
    ⟨some 17, none, .bin .quo (.t 16) (.k (.int .i64 10)), 0, 0, false, []⟩,
    ⟨some 0, none, .mov (.t 17), 0, 0, false, []⟩]))))
def L173x0 : C := B173x0
theorem evL173x0 (run : Run) (draw : List I → Env → Heap → Option (Env × Heap)) (e : Env) (h : Heap) : evC run draw L173x0 e h = evC run draw B173x0 e h := rfl
/-- loop.example/tablehouse/laws.markText -/
def F173 : F := ⟨20, [(false, 2, 0, false)],
   .seq (.seg false [⟨some 2, none, .mov (.k (.str ⟨#[]⟩)), 0, 0, false, []⟩])
   (.seq (.seq (.seg false [⟨some 4, none, .mov (.t 0), 0, 0, false, []⟩,
    ⟨some 5, none, .bin .leq (.t 4) (.k (.int .i64 0)), 0, 0, false, []⟩])
   (.cond (.t 5) (.seq (.seg false [⟨some 2, none, .mov (.k (.str ⟨#[109, 48]⟩)), 0, 0, false, []⟩])
   (.ret))
   (.skip)))
   (.seq (.seg false [⟨some 3, none, .mov (.k (.str ⟨#[]⟩)), 0, 0, false, []⟩])
   (.seq (.block 0 (.loop [0, 3] [3] L173x0))
   (.seq (.seg false [⟨some 18, none, .mov (.t 3), 0, 0, false, []⟩,
    ⟨some 19, none, .bin .add (.k (.str ⟨#[109]⟩)) (.t 18), 0, 0, false, []⟩,
    ⟨some 2, none, .mov (.t 19), 0, 0, false, []⟩])
   (.ret)))))⟩
def B120x0 : C := .seq (.seq (.seg false [⟨some 6, none, .mov (.t 5), 0, 0, false, []⟩,
    ⟨some 7, none, .mov (.t 0), 0, 0, false, []⟩,
    ⟨some 8, none, .len false (.t 7), 0, 0, false, []⟩,
    ⟨some 9, none, .bin .lss (.t 6) (.t 8), 0, 0, false, []⟩])
   (.cutTo [0, 1, 5, 9] (.cond (.t 9) (.skip)
   (.exit 0))))
   (.cutTo [0, 1, 5] (.seq (.block 1 (.seq (.seg false [⟨some 12, none, .mov (.t 0), 0, 0, false, []⟩,
    ⟨some 13, none, .mov (.t 5), 0, 0, false, []⟩,
    ⟨some 14, none, .mov (.t 1), 0, 0, false, []⟩,
    ⟨some 15, none, .iaddr 3 (.t 12) (.t 13), 0, 0, false, []⟩,
    ⟨some 16, none, .faddr 0 1 (.t 15), 0, 0, false, []⟩,
    ⟨none, none, .store 1 (.t 16) (.t 14), 0, 0, false, []⟩])
   (.cutTo [0, 1, 5] (.seq (.seg false [⟨some 17, none, .mov (.t 1), 0, 0, false, []⟩,
    ⟨some 18, none, .bin .add (.t 17) (.k (.int .i64 1)), 0, 0, false, []⟩,
    ⟨some 1, none, .mov (.t 18), 0, 0, false, []⟩])
   (.seq (.seg false [⟨some 19, none, .mov (.t 0), 0, 0, false, []⟩,
    ⟨some 20, none, .mov (.t 5), 0, 0, false, []⟩,
    ⟨some 21, none, .mov (.t 1), 0, 0, false, []⟩,
    ⟨some 22, none, .iaddr 3 (.t 19) (.t 20), 0, 0, false, []⟩,
    ⟨some 23, none, .faddr 1 1 (.t 22), 0, 0, false, []⟩,
    ⟨none, none, .store 1 (.t 23) (.t 21), 0, 0, false, []⟩])
   (.cutTo [0, 1, 5] (.seq (.seg false [⟨some 24, none, .mov (.t 1), 0, 0, false, []⟩,
    ⟨some 25, none, .bin .add (.t 24) (.k (.int .i64 1)), 0, 0, false, []⟩,
    ⟨some 1, none, .mov (.t 25), 0, 0, false, []⟩])
   (.seq (.seg false [⟨some 26, none, .mov (.t 0), 0, 0, false, []⟩,
    ⟨some 27, none, .mov (.t 5), 0, 0, false, []⟩,
    ⟨some 28, none, .mov (.t 1), 0, 0, false, []⟩,
    ⟨some 29, none, .call 173 [.t 28] false false, 0, 0, false, []⟩,
    ⟨some 30, none, .iaddr 3 (.t 26) (.t 27), 0, 0, false, []⟩,
    ⟨some 31, none, .faddr 2 1 (.t 30), 0, 0, false, []⟩,
    ⟨none, none, .store 1 (.t 31) (.t 29), 0, 0, false, []⟩])
   (.cutTo [0, 1, 5] (.seg false [⟨some 32, none, .mov (.t 1), 0, 0, false, []⟩,
    ⟨some 33, none, .bin .add (.t 32) (.k (.int .i64 1)), 0, 0, false, []⟩,
    ⟨some 1, none, .mov (.t 33), 0, 0, false, []⟩]))))))))))
   (.cutTo [0, 1, 5] (.seg false [⟨some 10, none, .mov (.t 5), 0, 0, false, []⟩,
    ⟨some 11, none, .bin .add (.t 10) (.k (.int .i64 1)), 0, 0, false, []⟩,
    ⟨some 5, none, .mov (.t 11), 0, 0, false, []⟩]))))
def L120x0 : C := B120x0
theorem evL120x0 (run : Run) (draw : List I → Env → Heap → Option (Env × Heap)) (e : Env) (h : Heap) : evC run draw L120x0 e h = evC run draw B120x0 e h := rfl
/-- loop.example/tablehouse/laws.markValueS -/
def F120 : F := ⟨35, [(false, 4, 0, false)],
   .seq (.seg false [⟨some 4, none, .mov (.k (.int .i64 0)), 0, 0, false, []⟩])
   (.seq (.seq (.seg false [⟨some 5, none, .mov (.k (.int .i64 0)), 0, 0, false, []⟩])
   (.block 0 (.loopk [0, 1, 5] [1] L120x0)))
   (.seq (.seg false [⟨some 34, none, .mov (.t 1), 0, 0, false, []⟩,
    ⟨some 4, none, .mov (.t 34), 0, 0, false, []⟩])
   (.ret)))⟩
def B134x0 : C := .seq (.seq (.seg false [⟨some 6, none, .mov (.t 5), 0, 0, false, []⟩,
    ⟨some 7, none, .mov (.t 0), 0, 0, false, []⟩,
    ⟨some 8, none, .len false (.t 7), 0, 0, false, []⟩,
    ⟨some 9, none, .bin .lss (.t 6) (.t 8), 0, 0, false, []⟩])
   (.cutTo [0, 1, 5, 9] (.cond (.t 9) (.skip)
   (.exit 0))))
   (.cutTo [0, 1, 5] (.seq (.block 1 (.seg false [⟨some 12, none, .mov (.t 0), 0, 0, false, []⟩,
    ⟨some 13, none, .mov (.t 5), 0, 0, false, []⟩,
    ⟨some 14, none, .iaddr 1 (.t 12) (.t 13), 0, 0, false, []⟩,
    ⟨some 15, none, .load false 1 (.t 14), 0, 0, false, []⟩,
    ⟨some 16, none, .mov (.t 1), 0, 0, false, []⟩,
    ⟨some 17, none, .callx 2 120 [.t 15, .t 16], 0, 0, false, []⟩,
    ⟨some 1, none, .mov (.t 17), 0, 0, false, []⟩]))
   (.cutTo [0, 1, 5] (.seg false [⟨some 10, none, .mov (.t 5), 0, 0, false, []⟩,
    ⟨some 11, none, .bin .add (.t 10) (.k (.int .i64 1)), 0, 0, false, []⟩,
    ⟨some 5, none, .mov (.t 11), 0, 0, false, []⟩]))))
def L134x0 : C := B134x0
theorem evL134x0 (run : Run) (draw : List I → Env → Heap → Option (Env × Heap)) (e : Env) (h : Heap) : evC run draw L134x0 e h = evC run draw B134x0 e h := rfl
/-- loop.example/tablehouse/laws.markValueSS -/
def F134 : F := ⟨19, [(false, 4, 0, false)],
   .seq (.seg false [⟨some 4, none, .mov (.k (.int .i64 0)), 0, 0, false, []⟩])
   (.seq (.seq (.seg false [⟨some 5, none, .mov (.k (.int .i64 0)), 0, 0, false, []⟩])
   (.block 0 (.loopk [0, 1, 5] [1] L134x0)))
   (.seq (.seg false [⟨some 18, none, .mov (.t 1), 0, 0, false, []⟩,
    ⟨some 4, none, .mov (.t 18), 0, 0, false, []⟩])
   (.ret)))⟩
/-- loop.example/tablehouse/laws.szColumnS -/
def F32 : F := ⟨12, [(false, 4, 0, false)],
   .seq (.seg false [⟨some 4, none, .mov (.k (.int .i64 0)), 0, 0, false, []⟩])
   (.seq (.seg false [⟨some 5, none, .mov (.t 1), 0, 0, false, []⟩,
    ⟨some 6, none, .mov (.t 0), 0, 0, false, []⟩,
    ⟨some 7, none, .len false (.t 6), 0, 0, false, []⟩,
    ⟨some 8, none, .bin .sub (.t 5) (.t 7), 0, 0, false, []⟩,
    ⟨some 1, none, .mov (.t 8), 0, 0, false, []⟩])
   (.cutTo [1] (.seq (.seq (.seg false [⟨some 9, none, .mov (.t 1), 0, 0, false, []⟩,
    ⟨some 10, none, .bin .lss (.t 9) (.k (.int .i64 0)), 0, 0, false, []⟩])
   (.cond (.t 10) (.seq (.seg false [⟨some 4, none, .mov (.k (.int .i64 (-1))), 0, 0, false, []⟩])
   (.ret))
   (.skip)))
   (.seq (.seg false [⟨some 11, none, .mov (.t 1), 0, 0, false, []⟩,
    ⟨some 4, none, .mov (.t 11), 0, 0, false, []⟩])
   (.ret)))))⟩
/-- loop.example/tablehouse/laws.szValue -/
def F163 : F := ⟨13, [(false, 4, 0, false)],
   .seq (.seg false [⟨some 2, none, .box (.t 0), 0, 0, false, []⟩,
    ⟨some 4, none, .mov (.k (.int .i64 0)), 0, 0, false, []⟩])
   (.seq (.seg false [⟨some 5, none, .mov (.t 1), 0, 0, false, []⟩,
    ⟨some 6, none, .faddr 2 1 (.t 2), 0, 0, false, []⟩,
    ⟨some 7, none, .load false 1 (.t 6), 0, 0, false, []⟩,
    ⟨some 8, none, .len true (.t 7), 0, 0, false, []⟩,
    ⟨some 9, none, .bin .sub (.t 5) (.t 8), 0, 0, false, []⟩,
    ⟨some 1, none, .mov (.t 9), 0, 0, false, []⟩])
   (.cutTo [1] (.seq (.seq (.seg false [⟨some 10, none, .mov (.t 1), 0, 0, false, []⟩,
    ⟨some 11, none, .bin .lss (.t 10) (.k (.int .i64 0)), 0, 0, false, []⟩])
   (.cond (.t 11) (.seq (.seg false [⟨some 4, none, .mov (.k (.int .i64 (-1))), 0, 0, false, []⟩])
   (.ret))
   (.skip)))
   (.seq (.seg false [⟨some 12, none, .mov (.t 1), 0, 0, false, []⟩,
    ⟨some 4, none, .mov (.t 12), 0, 0, false, []⟩])
   (.ret)))))⟩
def B98x0 : C := .seq (.seq (.seg false [⟨some 12, none, .mov (.t 5), 0, 0, false, []⟩,
    ⟨some 13, none, .mov (.t 0), 0, 0, false, []⟩,
    ⟨some 14, none, .len false (.t 13), 0, 0, false, []⟩,
    ⟨some 15, none, .bin .lss (.t 12) (.t 14), 0, 0, false, []⟩])
   (.cutTo [0, 1, 5, 15] (.cond (.t 15) (.skip)
   (.exit 0))))
   (.cutTo [0, 1, 5] (.seq (.block 1 (.seq (.seg false [⟨some 18, none, .mov (.t 0), 0, 0, false, []⟩,
    ⟨some 19, none, .mov (.t 5), 0, 0, false, []⟩,
    ⟨some 20, none, .iaddr 3 (.t 18) (.t 19), 0, 0, false, []⟩,
    ⟨some 21, none, .load true 3 (.t 20), 0, 0, false, []⟩,
    ⟨some 22, none, .mov (.t 1), 0, 0, false, []⟩,
    ⟨some 23, none, .call 163 [.t 21, .t 22] false false, 0, 0, false, []⟩,
    ⟨some 1, none, .mov (.t 23), 0, 0, false, []⟩])
   (.cutTo [0, 1, 5] (.seq (.seg false [⟨some 24, none, .mov (.t 1), 0, 0, false, []⟩,
    ⟨some 25, none, .bin .lss (.t 24) (.k (.int .i64 0)), 0, 0, false, []⟩])
   (.cond (.t 25) (.seq (.seg false [⟨some 4, none, .mov (.k (.int .i64 (-1))), 0, 0, false, []⟩])
   (.ret))
   (.skip))))))
   (.cutTo [0, 1, 5] (.seg false [⟨some 16, none, .mov (.t 5), 0, 0, false, []⟩,
    ⟨some 17, none, .bin .add (.t 16) (.k (.int .i64 1)), 0, 0, false, []⟩,
    ⟨some 5, none, .mov (.t 17), 0, 0, false, []⟩]))))
def L98x0 : C := B98x0
theorem evL98x0 (run : Run) (draw : List I → Env → Heap → Option (Env × Heap)) (e : Env) (h : Heap) : evC run draw L98x0 e h = evC run draw B98x0 e h := rfl
/-- loop.example/tablehouse/laws.szValueS -/
def F98 : F := ⟨27, [(false, 4, 0, false)],
   .seq (.seg false [⟨some 4, none, .mov (.k (.int .i64 0)), 0, 0, false, []⟩])
   (.seq (.seg false [⟨some 6, none, .mov (.t 1), 0, 0, false, []⟩,
    ⟨some 7, none, .mov (.t 0), 0, 0, false, []⟩,
    ⟨some 8, none, .len false (.t 7), 0, 0, false, []⟩,
    ⟨some 9, none, .bin .sub (.t 6) (.t 8), 0, 0, false, []⟩,
    ⟨some 1, none, .mov (.t 9), 0, 0, false, []⟩])
   (.cutTo [0, 1] (.seq (.seq (.seg false [⟨some 10, none, .mov (.t 1), 0, 0, false, []⟩,
    ⟨some 11, none, .bin .lss (.t 10) (.k (.int .i64 0)), 0, 0, false, []⟩])
   (.cond (.t 11) (.seq (.seg false [⟨some 4, none, .mov (.k (.int .i64 (-1))), 0, 0, false, []⟩])
   (.ret))
   (.skip)))
   (.seq (.seq (.seg false [⟨some 5, none, .mov (.k (.int .i64 0)), 0, 0, false, []⟩])
   (.block 0 (.loop [0, 1, 5] [1, 4] L98x0)))
   (.seq (.seg false [⟨some 26, none, .mov (.t 1), 0, 0, false, []⟩,
    ⟨some 4, none, .mov (.t 26), 0, 0, false, []⟩])
   (.ret))))))⟩
def B33x0 : C := .seq (.seq (.seg false [⟨some 12, none, .mov (.t 5), 0, 0, false, []⟩,
    ⟨some 13, none, .mov (.t 0), 0, 0, false, []⟩,
    ⟨some 14, none, .len false (.t 13), 0, 0, false, []⟩,
    ⟨some 15, none, .bin .lss (.t 12) (.t 14), 0, 0, false, []⟩])
   (.cutTo [0, 1, 5, 15] (.cond (.t 15) (.skip)
   (.exit 0))))
   (.cutTo [0, 1, 5] (.seq (.block 1 (.seq (.seg false [⟨some 18, none, .mov (.t 0), 0, 0, false, []⟩,
    ⟨some 19, none, .mov (.t 5), 0, 0, false, []⟩,
    ⟨some 20, none, .iaddr 1 (.t 18) (.t 19), 0, 0, false, []⟩,
    ⟨some 21, none, .load false 1 (.t 20), 0, 0, false, []⟩,
    ⟨some 22, none, .mov (.t 1), 0, 0, false, []⟩,
    ⟨some 23, none, .call 98 [.t 21, .t 22] false false, 0, 0, false, []⟩,
    ⟨some 1, none, .mov (.t 23), 0, 0, false, []⟩])
   (.cutTo [0, 1, 5] (.seq (.seg false [⟨some 24, none, .mov (.t 1), 0, 0, false, []⟩,
    ⟨some 25, none, .bin .lss (.t 24) (.k (.int .i64 0)), 0, 0, false, []⟩])
   (.cond (.t 25) (.seq (.seg false [⟨some 4, none, .mov (.k (.int .i64 (-1))), 0, 0, false, []⟩])
   (.ret))
   (.skip))))))
   (.cutTo [0, 1, 5] (.seg false [⟨some 16, none, .mov (.t 5), 0, 0, false, []⟩,
    ⟨some 17, none, .bin .add (.t 16) (.k (.int .i64 1)), 0, 0, false, []⟩,
    ⟨some 5, none, .mov (.t 17), 0, 0, false, []⟩]))))
def L33x0 : C := B33x0
theorem evL33x0 (run : Run) (draw : List I → Env → Heap → Option (Env × Heap)) (e : Env) (h : Heap) : evC run draw L33x0 e h = evC run draw B33x0 e h := rfl
/-- loop.example/tablehouse/laws.szValueSS -/
def F33 : F := ⟨27, [(false, 4, 0, false)],
   .seq (.seg false [⟨some 4, none, .mov (.k (.int .i64 0)), 0, 0, false, []⟩])
   (.seq (.seg false [⟨some 6, none, .mov (.t 1), 0, 0, false, []⟩,
    ⟨some 7, none, .mov (.t 0), 0, 0, false, []⟩,
    ⟨some 8, none, .len false (.t 7), 0, 0, false, []⟩,
    ⟨some 9, none, .bin .sub (.t 6) (.t 8), 0, 0, false, []⟩,
    ⟨some 1, none, .mov (.t 9), 0, 0, false, []⟩])
   (.cutTo [0, 1] (.seq (.seq (.seg false [⟨some 10, none, .mov (.t 1), 0, 0, false, []⟩,
    ⟨some 11, none, .bin .lss (.t 10) (.k (.int .i64 0)), 0, 0, false, []⟩])
   (.cond (.t 11) (.seq (.seg false [⟨some 4, none, .mov (.k (.int .i64 (-1))), 0, 0, false, []⟩])
   (.ret))
   (.skip)))
   (.seq (.seq (.seg false [⟨some 5, none, .mov (.k (.int .i64 0)), 0, 0, false, []⟩])
   (.block 0 (.loop [0, 1, 5] [1, 4] L33x0)))
   (.seq (.seg false [⟨some 26, none, .mov (.t 1), 0, 0, false, []⟩,
    ⟨some 4, none, .mov (.t 26), 0, 0, false, []⟩])
   (.ret))))))⟩
/-- loop.example/tablehouse/laws.toColumn -/
def F99 : F := ⟨11, [(true, 2, 2, true)],
   .seq (.seg false [⟨some 1, none, .box (.t 0), 0, 0, false, []⟩,
    ⟨some 2, none, .alloc [.int .i64 0, .bool false], 0, 0, false, []⟩])
   (.seq (.seg false [⟨some 3, none, .alloc [.int .i64 0, .bool false], 0, 0, false, []⟩])
   (.seq (.seg false [⟨some 4, none, .faddr 0 1 (.t 1), 0, 0, false, []⟩,
    ⟨some 5, none, .load false 1 (.t 4), 0, 0, false, []⟩,
    ⟨some 6, none, .faddr 0 1 (.t 3), 0, 0, false, []⟩,
    ⟨none, none, .store 1 (.t 6) (.t 5), 0, 0, false, []⟩])
   (.cutTo [1, 2, 3] (.seq (.seg false [⟨some 7, none, .faddr 1 1 (.t 1), 0, 0, false, []⟩,
    ⟨some 8, none, .load false 1 (.t 7), 0, 0, false, []⟩,
    ⟨some 9, none, .faddr 1 1 (.t 3), 0, 0, false, []⟩,
    ⟨none, none, .store 1 (.t 9) (.t 8), 0, 0, false, []⟩])
   (.cutTo [2, 3] (.seq (.seg false [⟨some 10, none, .load true 2 (.t 3), 0, 0, false, []⟩,
    ⟨none, none, .store 2 (.t 2) (.t 10), 0, 0, false, []⟩])
   (.ret)))))))⟩
def B34x0 : C := .seq (.seq (.seg false [⟨some 8, none, .mov (.t 4), 0, 0, false, []⟩,
    ⟨some 9, none, .mov (.t 0), 0, 0, false, []⟩,
    ⟨some 10, none, .len false (.t 9), 0, 0, false, []⟩,
    ⟨some 11, none, .bin .lss (.t 8) (.t 10), 0, 0, false, []⟩])
   (.cutTo [0, 3, 4, 11] (.cond (.t 11) (.skip)
   (.exit 0))))
   (.cutTo [0, 3, 4] (.seq (.block 1 (.seg false [⟨some 14, none, .mov (.t 3), 0, 0, false, []⟩,
    ⟨some 15, none, .mov (.t 4), 0, 0, false, []⟩,
    ⟨some 16, none, .mov (.t 0), 0, 0, false, []⟩,
    ⟨some 17, none, .mov (.t 4), 0, 0, false, []⟩,
    ⟨some 18, none, .iaddr 2 (.t 16) (.t 17), 0, 0, false, []⟩,
    ⟨some 19, none, .load true 2 (.t 18), 0, 0, false, []⟩,
    ⟨some 20, none, .callx 0 99 [.t 19], 0, 0, false, []⟩,
    ⟨some 21, none, .iaddr 2 (.t 14) (.t 15), 0, 0, false, []⟩,
    ⟨none, none, .store 2 (.t 21) (.t 20), 0, 0, false, []⟩]))
   (.cutTo [0, 3, 4] (.seg false [⟨some 12, none, .mov (.t 4), 0, 0, false, []⟩,
    ⟨some 13, none, .bin .add (.t 12) (.k (.int .i64 1)), 0, 0, false, []⟩,
    ⟨some 4, none, .mov (.t 13), 0, 0, false, []⟩]))))
def L34x0 : C := B34x0
theorem evL34x0 (run : Run) (draw : List I → Env → Heap → Option (Env × Heap)) (e : Env) (h : Heap) : evC run draw L34x0 e h = evC run draw B34x0 e h := rfl
/-- loop.example/tablehouse/laws.toColumnS -/
def F34 : F := ⟨23, [(false, 2, 0, false)],
   .seq (.seg false [⟨some 2, none, .mov (.k (.sl true 2 [])), 0, 0, false, []⟩])
   (.seq (.seg false [⟨some 5, none, .mov (.t 0), 0, 0, false, []⟩,
    ⟨some 6, none, .len false (.t 5), 0, 0, false, []⟩,
    ⟨some 7, none, .mk 2 [.int .i64 0, .bool false] (.t 6), 0, 0, false, []⟩,
    ⟨some 3, none, .mov (.t 7), 0, 0, false, []⟩])
   (.cutTo [0, 3] (.seq (.seq (.seg false [⟨some 4, none, .mov (.k (.int .i64 0)), 0, 0, false, []⟩])
   (.block 0 (.loopk [0, 3, 4] [3] L34x0)))
   (.seq (.seg false [⟨some 22, none, .mov (.t 3), 0, 0, false, []⟩,
    ⟨some 2, none, .mov (.t 22), 0, 0, false, []⟩])
   (.ret)))))⟩
/-- loop.example/tablehouse/laws.toValue -/
def F164 : F := ⟨14, [(true, 2, 3, true)],
   .seq (.seg false [⟨some 1, none, .box (.t 0), 0, 0, false, []⟩,
    ⟨some 2, none, .alloc [.int .i64 0, .int .i64 0, .str ⟨#[]⟩], 0, 0, false, []⟩])
   (.seq (.seg false [⟨some 3, none, .alloc [.int .i64 0, .int .i64 0, .str ⟨#[]⟩], 0, 0, false, []⟩])
   (.seq (.seg false [⟨some 4, none, .faddr 0 1 (.t 1), 0, 0, false, []⟩,
    ⟨some 5, none, .load false 1 (.t 4), 0, 0, false, []⟩,
    ⟨some 6, none, .faddr 0 1 (.t 3), 0, 0, false, []⟩,
    ⟨none, none, .store 1 (.t 6) (.t 5), 0, 0, false, []⟩])
   (.cutTo [1, 2, 3] (.seq (.seg false [⟨some 7, none, .faddr 1 1 (.t 1), 0, 0, false, []⟩,
    ⟨some 8, none, .load false 1 (.t 7), 0, 0, false, []⟩,
    ⟨some 9, none, .faddr 1 1 (.t 3), 0, 0, false, []⟩,
    ⟨none, none, .store 1 (.t 9) (.t 8), 0, 0, false, []⟩])
   (.cutTo [1, 2, 3] (.seq (.seg false [⟨some 10, none, .faddr 2 1 (.t 1), 0, 0, false, []⟩,
    ⟨some 11, none, .load false 1 (.t 10), 0, 0, false, []⟩,
    ⟨some 12, none, .faddr 2 1 (.t 3), 0, 0, false, []⟩,
    ⟨none, none, .store 1 (.t 12) (.t 11), 0, 0, false, []⟩])
   (.cutTo [2, 3] (.seq (.seg false [⟨some 13, none, .load true 3 (.t 3), 0, 0, false, []⟩,
    ⟨none, none, .store 3 (.t 2) (.t 13), 0, 0, false, []⟩])
   (.ret)))))))))⟩
def B100x0 : C := .seq (.seq (.seg false [⟨some 8, none, .mov (.t 4), 0, 0, false, []⟩,
    ⟨some 9, none, .mov (.t 0), 0, 0, false, []⟩,
    ⟨some 10, none, .len false (.t 9), 0, 0, false, []⟩,
    ⟨some 11, none, .bin .lss (.t 8) (.t 10), 0, 0, false, []⟩])
   (.cutTo [0, 3, 4, 11] (.cond (.t 11) (.skip)
   (.exit 0))))
   (.cutTo [0, 3, 4] (.seq (.block 1 (.seg false [⟨some 14, none, .mov (.t 3), 0, 0, false, []⟩,
    ⟨some 15, none, .mov (.t 4), 0, 0, false, []⟩,
    ⟨some 16, none, .mov (.t 0), 0, 0, false, []⟩,
    ⟨some 17, none, .mov (.t 4), 0, 0, false, []⟩,
    ⟨some 18, none, .iaddr 3 (.t 16) (.t 17), 0, 0, false, []⟩,
    ⟨some 19, none, .load true 3 (.t 18), 0, 0, false, []⟩,
    ⟨some 20, none, .callx 0 164 [.t 19], 0, 0, false, []⟩,
    ⟨some 21, none, .iaddr 3 (.t 14) (.t 15), 0, 0, false, []⟩,
    ⟨none, none, .store 3 (.t 21) (.t 20), 0, 0, false, []⟩]))
   (.cutTo [0, 3, 4] (.seg false [⟨some 12, none, .mov (.t 4), 0, 0, false, []⟩,
    ⟨some 13, none, .bin .add (.t 12) (.k (.int .i64 1)), 0, 0, false, []⟩,
    ⟨some 4, none, .mov (.t 13), 0, 0, false, []⟩]))))
def L100x0 : C := B100x0
theorem evL100x0 (run : Run) (draw : List I → Env → Heap → Option (Env × Heap)) (e : Env) (h : Heap) : evC run draw L100x0 e h = evC run draw B100x0 e h := rfl
/-- loop.example/tablehouse/laws.toValueS -/
def F100 : F := ⟨23, [(false, 2, 0, false)],
   .seq (.seg false [⟨some 2, none, .mov (.k (.sl true 3 [])), 0, 0, false, []⟩])
   (.seq (.seg false [⟨some 5, none, .mov (.t 0), 0, 0, false, []⟩,
    ⟨some 6, none, .len false (.t 5), 0, 0, false, []⟩,
    ⟨some 7, none, .mk 3 [.int .i64 0, .int .i64 0, .str ⟨#[]⟩] (.t 6), 0, 0, false, []⟩,
    ⟨some 3, none, .mov (.t 7), 0, 0, false, []⟩])
   (.cutTo [0, 3] (.seq (.seq (.seg false [⟨some 4, none, .mov (.k (.int .i64 0)), 0, 0, false, []⟩])
   (.block 0 (.loopk [0, 3, 4] [3] L100x0)))
   (.seq (.seg false [⟨some 22, none, .mov (.t 3), 0, 0, false, []⟩,
    ⟨some 2, none, .mov (.t 22), 0, 0, false, []⟩])
   (.ret)))))⟩
def B35x0 : C := .seq (.seq (.seg false [⟨some 8, none, .mov (.t 4), 0, 0, false, []⟩,
    ⟨some 9, none, .mov (.t 0), 0, 0, false, []⟩,
    ⟨some 10, none, .len false (.t 9), 0, 0, false, []⟩,
    ⟨some 11, none, .bin .lss (.t 8) (.t 10), 0, 0, false, []⟩])
   (.cutTo [0, 3, 4, 11] (.cond (.t 11) (.skip)
   (.exit 0))))
   (.cutTo [0, 3, 4] (.seq (.block 1 (.seg false [⟨some 14, none, .mov (.t 3), 0, 0, false, []⟩,
    ⟨some 15, none, .mov (.t 4), 0, 0, false, []⟩,
    ⟨some 16, none, .mov (.t 0), 0, 0, false, []⟩,
    ⟨some 17, none, .mov (.t 4), 0, 0, false, []⟩,
    ⟨some 18, none, .iaddr 1 (.t 16) (.t 17), 0, 0, false, []⟩,
    ⟨some 19, none, .load false 1 (.t 18), 0, 0, false, []⟩,
    ⟨some 20, none, .callx 0 100 [.t 19], 0, 0, false, []⟩,
    ⟨some 21, none, .iaddr 1 (.t 14) (.t 15), 0, 0, false, []⟩,
    ⟨none, none, .store 1 (.t 21) (.t 20), 0, 0, false, []⟩]))
   (.cutTo [0, 3, 4] (.seg false [⟨some 12, none, .mov (.t 4), 0, 0, false, []⟩,
    ⟨some 13, none, .bin .add (.t 12) (.k (.int .i64 1)), 0, 0, false, []⟩,
    ⟨some 4, none, .mov (.t 13), 0, 0, false, []⟩]))))
def L35x0 : C := B35x0
theorem evL35x0 (run : Run) (draw : List I → Env → Heap → Option (Env × Heap)) (e : Env) (h : Heap) : evC run draw L35x0 e h = evC run draw B35x0 e h := rfl
/-- loop.example/tablehouse/laws.toValueSS -/
def F35 : F := ⟨23, [(false, 2, 0, false)],
   .seq (.seg false [⟨some 2, none, .mov (.k (.sl true 1 [])), 0, 0, false, []⟩])
   (.seq (.seg false [⟨some 5, none, .mov (.t 0), 0, 0, false, []⟩,
    ⟨some 6, none, .len false (.t 5), 0, 0, false, []⟩,
    ⟨some 7, none, .mkn 1 [.sl true 3 []] (.t 6), 0, 0, false, []⟩,
    ⟨some 3, none, .mov (.t 7), 0, 0, false, []⟩])
   (.cutTo [0, 3] (.seq (.seq (.seg false [⟨some 4, none, .mov (.k (.int .i64 0)), 0, 0, false, []⟩])
   (.block 0 (.loopk [0, 3, 4] [3] L35x0)))
   (.seq (.seg false [⟨some 22, none, .mov (.t 3), 0, 0, false, []⟩,
    ⟨some 2, none, .mov (.t 22), 0, 0, false, []⟩])
   (.ret)))))⟩
def E97x0 : List I := [⟨some 20, none, .mov (.t 1), 0, 0, false, []⟩,
    ⟨some 21, none, .mov (.t 0), 0, 0, false, []⟩,
    ⟨some 22, none, .mov (.t 6), 0, 0, false, []⟩,
    ⟨some 23, none, .iaddr 3 (.t 21) (.t 22), 0, 0, false, []⟩,
    ⟨some 24, none, .load true 3 (.t 23), 0, 0, false, []⟩,
    ⟨some 25, none, .load true 3 (.t 5), 0, 0, false, []⟩,
    ⟨some 26, none, .callv (.t 20) [.t 24, .t 25] false, 0, 0, true, []⟩,
    ⟨some 27, none, .bin .gtr (.t 26) (.k (.int .i64 0)), 1, 1, false, []⟩]
def D97x0 : List I := E97x0
theorem evD97x0 (run : Run) (e : Env) (h : Heap) : drawI run D97x0 e h = DrawW (evW run E97x0 e h []) run E97x0 e h := drawI_write run _ e h
def B97x0 : C := .seq (.seq (.seg false [⟨some 14, none, .mov (.t 6), 0, 0, false, []⟩,
    ⟨some 15, none, .mov (.t 0), 0, 0, false, []⟩,
    ⟨some 16, none, .len false (.t 15), 0, 0, false, []⟩,
    ⟨some 17, none, .bin .lss (.t 14) (.t 16), 0, 0, false, []⟩])
   (.cutTo [0, 1, 4, 5, 6, 17] (.cond (.t 17) (.skip)
   (.exit 0))))
   (.cutTo [0, 1, 4, 5, 6] (.seq (.block 1 (.seq (.seg true D97x0)
   (.cutTo [0, 1, 4, 5, 6, 27] (.cond (.t 27) (.seg false [⟨some 28, none, .mov (.t 0), 0, 0, false, []⟩,
    ⟨some 29, none, .mov (.t 6), 0, 0, false, []⟩,
    ⟨some 30, none, .iaddr 3 (.t 28) (.t 29), 0, 0, false, []⟩,
    ⟨some 31, none, .load true 3 (.t 30), 0, 0, false, []⟩,
    ⟨none, none, .store 3 (.t 5) (.t 31), 0, 0, false, []⟩])
   (.skip)))))
   (.cutTo [0, 1, 4, 5, 6] (.seg false [⟨some 18, none, .mov (.t 6), 0, 0, false, []⟩,
    ⟨some 19, none, .bin .add (.t 18) (.k (.int .i64 1)), 0, 0, false, []⟩,
    ⟨some 6, none, .mov (.t 19), 0, 0, false, []⟩]))))
def L97x0 : C := B97x0
theorem evL97x0 (run : Run) (draw : List I → Env → Heap → Option (Env × Heap)) (e : Env) (h : Heap) : evC run draw L97x0 e h = evC run draw B97x0 e h := rfl
/-- slices.MaxFunc<<>loop.example/tablehouse/impl.Value,loop.example/tablehouse/impl.Value> -/
def F97 : F := ⟨33, [(true, 4, 3, true)],
   .seq (.seg false [⟨some 4, none, .alloc [.int .i64 0, .int .i64 0, .str ⟨#[]⟩], 0, 0, false, []⟩])
   (.seq (.seq (.seg false [⟨some 7, none, .mov (.t 0), 0, 0, false, []⟩,
    ⟨some 8, none, .len false (.t 7), 0, 0, false, []⟩,
    ⟨some 9, none, .bin .lss (.t 8) (.k (.int .i64 1)), 0, 0, false, []⟩])
   (.cond (.t 9) (.seg false [⟨some 10, none, .bad, 0, 0, false, []⟩,
    ⟨none, none, .bad, 0, 0, false, []⟩])
   (.skip)))
   (.cutTo [0, 1, 4] (.seq (.seg false [⟨some 11, none, .mov (.t 0), 0, 0, false, []⟩,
    ⟨some 12, none, .iaddr 3 (.t 11) (.k (.int .i64 0)), 0, 0, false, []⟩,
    ⟨some 13, none, .load true 3 (.t 12), 0, 0, false, []⟩,
    ⟨some 5, none, .alloc [.int .i64 0, .int .i64 0, .str ⟨#[]⟩], 0, 0, false, []⟩,
    ⟨none, none, .store 3 (.t 5) (.t 13), 0, 0, false, []⟩])
   (.cutTo [0, 1, 4, 5] (.seq (.seq (.seg false [⟨some 6, none, .mov (.k (.int .i64 1)), 0, 0, false, []⟩])
   (.block 0 (.loop [0, 1, 4, 5, 6] [4, 5] L97x0)))
   (.seq (.seg false [⟨some 32, none, .load true 3 (.t 5), 0, 0, false, []⟩,
    ⟨none, none, .store 3 (.t 4) (.t 32), 0, 0, false, []⟩])
   (.ret)))))))⟩
def E96x0 : List I := [⟨some 20, none, .mov (.t 1), 0, 0, false, []⟩,
    ⟨some 21, none, .mov (.t 0), 0, 0, false, []⟩,
    ⟨some 22, none, .mov (.t 6), 0, 0, false, []⟩,
    ⟨some 23, none, .iaddr 3 (.t 21) (.t 22), 0, 0, false, []⟩,
    ⟨some 24, none, .load true 3 (.t 23), 0, 0, false, []⟩,
    ⟨some 25, none, .load true 3 (.t 5), 0, 0, false, []⟩,
    ⟨some 26, none, .callv (.t 20) [.t 24, .t 25] false, 0, 0, true, []⟩,
    ⟨some 27, none, .bin .lss (.t 26) (.k (.int .i64 0)), 1, 1, false, []⟩]
def D96x0 : List I := E96x0
theorem evD96x0 (run : Run) (e : Env) (h : Heap) : drawI run D96x0 e h = DrawW (evW run E96x0 e h []) run E96x0 e h := drawI_write run _ e h
def B96x0 : C := .seq (.seq (.seg false [⟨some 14, none, .mov (.t 6), 0, 0, false, []⟩,
    ⟨some 15, none, .mov (.t 0), 0, 0, false, []⟩,
    ⟨some 16, none, .len false (.t 15), 0, 0, false, []⟩,
    ⟨some 17, none, .bin .lss (.t 14) (.t 16), 0, 0, false, []⟩])
   (.cutTo [0, 1, 4, 5, 6, 17] (.cond (.t 17) (.skip)
   (.exit 0))))
   (.cutTo [0, 1, 4, 5, 6] (.seq (.block 1 (.seq (.seg true D96x0)
   (.cutTo [0, 1, 4, 5, 6, 27] (.cond (.t 27) (.seg false [⟨some 28, none, .mov (.t 0), 0, 0, false, []⟩,
    ⟨some 29, none, .mov (.t 6), 0, 0, false, []⟩,
    ⟨some 30, none, .iaddr 3 (.t 28) (.t 29), 0, 0, false, []⟩,
    ⟨some 31, none, .load true 3 (.t 30), 0, 0, false, []⟩,
    ⟨none, none, .store 3 (.t 5) (.t 31), 0, 0, false, []⟩])
   (.skip)))))
   (.cutTo [0, 1, 4, 5, 6] (.seg false [⟨some 18, none, .mov (.t 6), 0, 0, false, []⟩,
    ⟨some 19, none, .bin .add (.t 18) (.k (.int .i64 1)), 0, 0, false, []⟩,
    ⟨some 6, none, .mov (.t 19), 0, 0, false, []⟩]))))
def L96x0 : C := B96x0
theorem evL96x0 (run : Run) (draw : List I → Env → Heap → Option (Env × Heap)) (e : Env) (h : Heap) : evC run draw L96x0 e h = evC run draw B96x0 e h := rfl
/-- slices.MinFunc<<>loop.example/tablehouse/impl.Value,loop.example/tablehouse/impl.Value> -/
def F96 : F := ⟨33, [(true, 4, 3, true)],
   .seq (.seg false [⟨some 4, none, .alloc [.int .i64 0, .int .i64 0, .str ⟨#[]⟩], 0, 0, false, []⟩])
   (.seq (.seq (.seg false [⟨some 7, none, .mov (.t 0), 0, 0, false, []⟩,
    ⟨some 8, none, .len false (.t 7), 0, 0, false, []⟩,
    ⟨some 9, none, .bin .lss (.t 8) (.k (.int .i64 1)), 0, 0, false, []⟩])
   (.cond (.t 9) (.seg false [⟨some 10, none, .bad, 0, 0, false, []⟩,
    ⟨none, none, .bad, 0, 0, false, []⟩])
   (.skip)))
   (.cutTo [0, 1, 4] (.seq (.seg false [⟨some 11, none, .mov (.t 0), 0, 0, false, []⟩,
    ⟨some 12, none, .iaddr 3 (.t 11) (.k (.int .i64 0)), 0, 0, false, []⟩,
    ⟨some 13, none, .load true 3 (.t 12), 0, 0, false, []⟩,
    ⟨some 5, none, .alloc [.int .i64 0, .int .i64 0, .str ⟨#[]⟩], 0, 0, false, []⟩,
    ⟨none, none, .store 3 (.t 5) (.t 13), 0, 0, false, []⟩])
   (.cutTo [0, 1, 4, 5] (.seq (.seq (.seg false [⟨some 6, none, .mov (.k (.int .i64 1)), 0, 0, false, []⟩])
   (.block 0 (.loop [0, 1, 4, 5, 6] [4, 5] L96x0)))
   (.seq (.seg false [⟨some 32, none, .load true 3 (.t 5), 0, 0, false, []⟩,
    ⟨none, none, .store 3 (.t 4) (.t 32), 0, 0, false, []⟩])
   (.ret)))))))⟩
def B161x0 : C := .seq (.seq (.seg false [⟨some 4, none, .mov (.t 3), 0, 0, false, []⟩,
    ⟨some 5, none, .mov (.t 0), 0, 0, false, []⟩,
    ⟨some 6, none, .len false (.t 5), 0, 0, false, []⟩,
    ⟨some 7, none, .bin .lss (.t 4) (.t 6), 0, 0, false, []⟩])
   (.cutTo [0, 3, 7] (.cond (.t 7) (.skip)
   (.exit 0))))
   (.cutTo [0, 3] (.seq (.block 1 (.seq (.seg false [⟨some 10, none, .mov (.t 0), 0, 0, false, []⟩,
    ⟨some 11, none, .mov (.t 3), 0, 0, false, []⟩,
    ⟨some 12, none, .iaddr 2 (.t 10) (.t 11), 0, 0, false, []⟩,
    ⟨some 13, none, .faddr 0 1 (.t 12), 0, 0, false, []⟩,
    ⟨some 14, none, .load false 1 (.t 13), 0, 0, false, []⟩,
    ⟨some 15, none, .call 90 [.t 14, .k (.int .i64 1), .k (.int .i64 3)] false false, 0, 0, false, []⟩,
    ⟨some 16, none, .un .not (.t 15), 0, 0, false, []⟩])
   (.cutTo [0, 3, 16] (.cond (.t 16) (.seq (.seg false [⟨some 2, none, .mov (.k (.bool false)), 0, 0, false, []⟩])
   (.ret))
   (.skip)))))
   (.cutTo [0, 3] (.seg false [⟨some 8, none, .mov (.t 3), 0, 0, false, []⟩,
    ⟨some 9, none, .bin .add (.t 8) (.k (.int .i64 1)), 0, 0, false, []⟩,
    ⟨some 3, none, .mov (.t 9), 0, 0, false, []⟩]))))
def L161x0 : C := B161x0
theorem evL161x0 (run : Run) (draw : List I → Env → Heap → Option (Env × Heap)) (e : Env) (h : Heap) : evC run draw L161x0 e h = evC run draw B161x0 e h := rfl
/-- loop.example/tablehouse/spec.ColumnsOk -/
def F161 : F := ⟨20, [(false, 2, 0, false)],
   .seq (.seg false [⟨some 2, none, .mov (.k (.bool false)), 0, 0, false, []⟩])
   (.seq (.seq (.seg false [⟨some 3, none, .mov (.k (.int .i64 0)), 0, 0, false, []⟩])
   (.block 0 (.loop [0, 3] [0, 2] L161x0)))
   (.seq (.seg false [⟨some 17, none, .mov (.t 0), 0, 0, false, []⟩,
    ⟨some 18, none, .len false (.t 17), 0, 0, false, []⟩,
    ⟨some 19, none, .bin .leq (.t 18) (.k (.int .i64 4)), 0, 0, false, []⟩,
    ⟨some 2, none, .mov (.t 19), 0, 0, false, []⟩])
   (.cutTo [2] (.ret))))⟩
/-- loop.example/tablehouse/spec.KnownBoth -/
def F91 : F := ⟨77, [(true, 4, 8, true)],
   .seq (.seg false [⟨some 2, none, .box (.t 0), 0, 0, false, []⟩,
    ⟨some 3, none, .box (.t 1), 0, 0, false, []⟩,
    ⟨some 4, none, .alloc [.int .i64 0, .int .i64 0, .int .i64 0, .int .i64 0, .str ⟨#[]⟩, .int .i64 0, .int .i64 0, .str ⟨#[]⟩], 0, 0, false, []⟩])
   (.seq (.block 0 (.seq (.seg false [⟨some 7, none, .load true 8 (.t 2), 0, 0, false, []⟩,
    ⟨some 8, none, .call 79 [.t 7] false false, 0, 0, false, []⟩,
    ⟨some 9, none, .un .not (.t 8), 0, 0, false, []⟩,
    ⟨some 10, none, .mov (.t 9), 0, 0, false, []⟩,
    ⟨some 11, some (10, false), .load true 8 (.t 3), 0, 0, false, []⟩,
    ⟨some 12, some (10, false), .call 79 [.t 11] false false, 0, 0, false, []⟩,
    ⟨some 13, some (10, false), .un .not (.t 12), 0, 0, false, []⟩,
    ⟨some 14, none, .pick (.t 10) (.k (.bool true)) (.t 13), 0, 0, false, []⟩,
    ⟨some 6, none, .mov (.t 14), 0, 0, false, []⟩])
   (.cutTo [2, 3, 4, 6] (.cond (.t 6) (.seq (.seg false [⟨some 15, none, .build [.int .i64 0, .int .i64 0, .int .i64 0, .int .i64 0, .str ⟨#[]⟩, .int .i64 0, .int .i64 0, .str ⟨#[]⟩] [], 0, 0, false, []⟩,
    ⟨none, none, .store 8 (.t 4) (.t 15), 0, 0, false, []⟩])
   (.ret))
   (.seq (.seg false [⟨some 17, none, .faddr 0 1 (.t 2), 0, 0, false, []⟩,
    ⟨some 18, none, .load false 1 (.t 17), 0, 0, false, []⟩,
    ⟨some 19, none, .bin .eql (.t 18) (.k (.int .i64 0)), 0, 0, false, []⟩,
    ⟨some 16, none, .mov (.t 19), 0, 0, false, []⟩])
   (.cutTo [2, 3, 4, 16] (.cond (.t 16) (.seq (.seg false [⟨some 20, none, .load true 8 (.t 3), 0, 0, false, []⟩,
    ⟨none, none, .store 8 (.t 4) (.t 20), 0, 0, false, []⟩])
   (.ret))
   (.seq (.seg false [⟨some 22, none, .faddr 0 1 (.t 3), 0, 0, false, []⟩,
    ⟨some 23, none, .load false 1 (.t 22), 0, 0, false, []⟩,
    ⟨some 24, none, .bin .eql (.t 23) (.k (.int .i64 0)), 0, 0, false, []⟩,
    ⟨some 21, none, .mov (.t 24), 0, 0, false, []⟩])
   (.cutTo [2, 3, 4, 21] (.cond (.t 21) (.seq (.seg false [⟨some 25, none, .load true 8 (.t 2), 0, 0, false, []⟩,
    ⟨none, none, .store 8 (.t 4) (.t 25), 0, 0, false, []⟩])
   (.ret))
   (.seq (.seg false [⟨some 27, none, .faddr 2 3 (.t 2), 0, 0, false, []⟩,
    ⟨some 28, none, .faddr 0 1 (.t 27), 0, 0, false, []⟩,
    ⟨some 29, none, .load false 1 (.t 28), 0, 0, false, []⟩,
    ⟨some 30, none, .faddr 2 3 (.t 3), 0, 0, false, []⟩,
    ⟨some 31, none, .faddr 0 1 (.t 30), 0, 0, false, []⟩,
    ⟨some 32, none, .load false 1 (.t 31), 0, 0, false, []⟩,
    ⟨some 33, none, .bin .neq (.t 29) (.t 32), 0, 0, false, []⟩,
    ⟨some 34, none, .mov (.t 33), 0, 0, false, []⟩,
    ⟨some 35, some (34, false), .faddr 0 1 (.t 2), 0, 0, false, []⟩,
    ⟨some 36, some (34, false), .load false 1 (.t 35), 0, 0, false, []⟩,
    ⟨some 37, some (34, false), .faddr 0 1 (.t 3), 0, 0, false, []⟩,
    ⟨some 38, some (34, false), .load false 1 (.t 37), 0, 0, false, []⟩,
    ⟨some 39, some (34, false), .bin .add (.t 36) (.t 38), 0, 0, false, []⟩,
    ⟨some 40, some (34, false), .bin .gtr (.t 39) (.k (.int .i64 100)), 0, 0, false, []⟩,
    ⟨some 41, none, .pick (.t 34) (.k (.bool true)) (.t 40), 0, 0, false, []⟩,
    ⟨some 26, none, .mov (.t 41), 0, 0, false, []⟩])
   (.cutTo [2, 3, 4, 26] (.cond (.t 26) (.seq (.seg false [⟨some 42, none, .build [.int .i64 0, .int .i64 0, .int .i64 0, .int .i64 0, .str ⟨#[]⟩, .int .i64 0, .int .i64 0, .str ⟨#[]⟩] [], 0, 0, false, []⟩,
    ⟨none, none, .store 8 (.t 4) (.t 42), 0, 0, false, []⟩])
   (.ret))
   (.skip))))))))))))))
   (.cutTo [2, 3, 4] (.seq (.seg false [⟨some 43, none, .faddr 0 1 (.t 2), 0, 0, false, []⟩,
    ⟨some 44, none, .load false 1 (.t 43), 0, 0, false, []⟩,
    ⟨some 45, none, .faddr 0 1 (.t 3), 0, 0, false, []⟩,
    ⟨some 46, none, .load false 1 (.t 45), 0, 0, false, []⟩,
    ⟨some 47, none, .bin .add (.t 44) (.t 46), 0, 0, false, []⟩,
    ⟨some 48, none, .faddr 1 1 (.t 2), 0, 0, false, []⟩,
    ⟨some 49, none, .load false 1 (.t 48), 0, 0, false, []⟩,
    ⟨some 50, none, .faddr 1 1 (.t 3), 0, 0, false, []⟩,
    ⟨some 51, none, .load false 1 (.t 50), 0, 0, false, []⟩,
    ⟨some 52, none, .bin .add (.t 49) (.t 51), 0, 0, false, []⟩,
    ⟨some 53, none, .faddr 2 3 (.t 2), 0, 0, false, []⟩,
    ⟨some 54, none, .load true 3 (.t 53), 0, 0, false, []⟩,
    ⟨some 55, none, .faddr 5 3 (.t 2), 0, 0, false, []⟩,
    ⟨some 56, none, .load true 3 (.t 55), 0, 0, false, []⟩,
    ⟨some 57, none, .build [.int .i64 0, .int .i64 0, .int .i64 0, .int .i64 0, .str ⟨#[]⟩, .int .i64 0, .int .i64 0, .str ⟨#[]⟩] [(0, 1, .t 47), (1, 1, .t 52), (2, 3, .t 54), (5, 3, .t 56)], 0, 0, false, []⟩,
    ⟨some 5, none, .alloc [.int .i64 0, .int .i64 0, .int .i64 0, .int .i64 0, .str ⟨#[]⟩, .int .i64 0, .int .i64 0, .str ⟨#[]⟩], 0, 0, false, []⟩,
    ⟨none, none, .store 8 (.t 5) (.t 57), 0, 0, false, []⟩])
   (.cutTo [3, 4, 5] (.seq (.seq (.seg false [⟨some 58, none, .faddr 2 3 (.t 3), 0, 0, false, []⟩,
    ⟨some 59, none, .load true 3 (.t 58), 0, 0, false, []⟩,
    ⟨some 60, none, .faddr 2 3 (.t 5), 0, 0, false, []⟩,
    ⟨some 61, none, .load true 3 (.t 60), 0, 0, false, []⟩,
    ⟨some 62, none, .call 81 [.t 59, .t 61] false false, 0, 0, false, []⟩,
    ⟨some 63, none, .bin .lss (.t 62) (.k (.int .i64 0)), 0, 0, false, []⟩])
   (.cutTo [3, 4, 5, 63] (.cond (.t 63) (.seg false [⟨some 64, none, .faddr 2 3 (.t 3), 0, 0, false, []⟩,
    ⟨some 65, none, .load true 3 (.t 64), 0, 0, false, []⟩,
    ⟨some 66, none, .faddr 2 3 (.t 5), 0, 0, false, []⟩,
    ⟨none, none, .store 3 (.t 66) (.t 65), 0, 0, false, []⟩])
   (.skip))))
   (.cutTo [3, 4, 5] (.seq (.seq (.seg false [⟨some 67, none, .faddr 5 3 (.t 3), 0, 0, false, []⟩,
    ⟨some 68, none, .load true 3 (.t 67), 0, 0, false, []⟩,
    ⟨some 69, none, .faddr 5 3 (.t 5), 0, 0, false, []⟩,
    ⟨some 70, none, .load true 3 (.t 69), 0, 0, false, []⟩,
    ⟨some 71, none, .call 81 [.t 68, .t 70] false false, 0, 0, false, []⟩,
    ⟨some 72, none, .bin .gtr (.t 71) (.k (.int .i64 0)), 0, 0, false, []⟩])
   (.cutTo [3, 4, 5, 72] (.cond (.t 72) (.seg false [⟨some 73, none, .faddr 5 3 (.t 3), 0, 0, false, []⟩,
    ⟨some 74, none, .load true 3 (.t 73), 0, 0, false, []⟩,
    ⟨some 75, none, .faddr 5 3 (.t 5), 0, 0, false, []⟩,
    ⟨none, none, .store 3 (.t 75) (.t 74), 0, 0, false, []⟩])
   (.skip))))
   (.cutTo [4, 5] (.seq (.seg false [⟨some 76, none, .load true 8 (.t 5), 0, 0, false, []⟩,
    ⟨none, none, .store 8 (.t 4) (.t 76), 0, 0, false, []⟩])
   (.ret))))))))))⟩
def E29x0 : List I := [⟨some 34, none, .load true 8 (.t 7), 0, 0, false, []⟩,
    ⟨some 35, none, .mov (.t 1), 0, 0, false, []⟩,
    ⟨some 36, none, .mov (.t 8), 0, 0, false, []⟩,
    ⟨some 37, none, .iaddr 1 (.t 35) (.t 36), 0, 0, false, []⟩,
    ⟨some 38, none, .load false 1 (.t 37), 0, 0, false, []⟩,
    ⟨some 39, none, .mov (.t 2), 0, 0, false, []⟩,
    ⟨some 40, none, .iaddr 3 (.t 38) (.t 39), 0, 0, false, []⟩,
    ⟨some 41, none, .load true 3 (.t 40), 0, 0, false, []⟩,
    ⟨some 42, none, .call 92 [.t 41] false false, 0, 0, false, []⟩,
    ⟨some 43, none, .call 91 [.t 34, .t 42] false false, 0, 0, false, []⟩,
    ⟨none, none, .store 8 (.t 7) (.t 43), 0, 0, true, []⟩]
def D29x0 : List I := E29x0
theorem evD29x0 (run : Run) (e : Env) (h : Heap) : drawI run D29x0 e h = DrawW (evW run E29x0 e h []) run E29x0 e h := drawI_write run _ e h
def B29x0 : C := .seq (.seq (.seg false [⟨some 28, none, .mov (.t 8), 0, 0, false, []⟩,
    ⟨some 29, none, .mov (.t 1), 0, 0, false, []⟩,
    ⟨some 30, none, .len false (.t 29), 0, 0, false, []⟩,
    ⟨some 31, none, .bin .lss (.t 28) (.t 30), 0, 0, false, []⟩])
   (.cutTo [1, 2, 6, 7, 8, 31] (.cond (.t 31) (.skip)
   (.exit 0))))
   (.cutTo [1, 2, 6, 7, 8] (.seq (.block 1 (.seg true D29x0))
   (.cutTo [1, 2, 6, 7, 8] (.seg false [⟨some 32, none, .mov (.t 8), 0, 0, false, []⟩,
    ⟨some 33, none, .bin .add (.t 32) (.k (.int .i64 1)), 0, 0, false, []⟩,
    ⟨some 8, none, .mov (.t 33), 0, 0, false, []⟩]))))
def L29x0 : C := B29x0
theorem evL29x0 (run : Run) (draw : List I → Env → Heap → Option (Env × Heap)) (e : Env) (h : Heap) : evC run draw L29x0 e h = evC run draw B29x0 e h := rfl
/-- loop.example/tablehouse/spec.KnownColumn -/
def F29 : F := ⟨45, [(true, 6, 8, true)],
   .seq (.seg false [⟨some 6, none, .alloc [.int .i64 0, .int .i64 0, .int .i64 0, .int .i64 0, .str ⟨#[]⟩, .int .i64 0, .int .i64 0, .str ⟨#[]⟩], 0, 0, false, []⟩])
   (.seq (.seg false [⟨some 9, none, .build [.int .i64 0, .int .i64 0, .int .i64 0, .int .i64 0, .str ⟨#[]⟩, .int .i64 0, .int .i64 0, .str ⟨#[]⟩] [], 0, 0, false, []⟩,
    ⟨some 7, none, .alloc [.int .i64 0, .int .i64 0, .int .i64 0, .int .i64 0, .str ⟨#[]⟩, .int .i64 0, .int .i64 0, .str ⟨#[]⟩], 0, 0, false, []⟩,
    ⟨none, none, .store 8 (.t 7) (.t 9), 0, 0, false, []⟩])
   (.seq (.seq (.seg false [⟨some 10, none, .mov (.t 0), 0, 0, false, []⟩,
    ⟨some 11, none, .mov (.t 1), 0, 0, false, []⟩,
    ⟨some 12, none, .call 89 [.t 10, .t 11] false false, 0, 0, false, []⟩,
    ⟨some 13, none, .un .not (.t 12), 0, 0, false, []⟩,
    ⟨some 14, none, .mov (.t 13), 0, 0, false, []⟩,
    ⟨some 15, some (14, false), .mov (.t 1), 0, 0, false, []⟩,
    ⟨some 16, some (14, false), .len false (.t 15), 0, 0, false, []⟩,
    ⟨some 17, some (14, false), .bin .gtr (.t 16) (.k (.int .i64 100)), 0, 0, false, []⟩,
    ⟨some 18, none, .pick (.t 14) (.k (.bool true)) (.t 17), 0, 0, false, []⟩,
    ⟨some 19, none, .mov (.t 18), 0, 0, false, []⟩,
    ⟨some 20, some (19, false), .mov (.t 2), 0, 0, false, []⟩,
    ⟨some 21, some (19, false), .mov (.t 0), 0, 0, false, []⟩,
    ⟨some 22, some (19, false), .len false (.t 21), 0, 0, false, []⟩,
    ⟨some 23, some (19, false), .bin .sub (.t 22) (.k (.int .i64 1)), 0, 0, false, []⟩,
    ⟨some 24, some (19, false), .call 90 [.t 20, .k (.int .i64 0), .t 23] false false, 0, 0, false, []⟩,
    ⟨some 25, some (19, false), .un .not (.t 24), 0, 0, false, []⟩,
    ⟨some 26, none, .pick (.t 19) (.k (.bool true)) (.t 25), 0, 0, false, []⟩])
   (.cutTo [1, 2, 6, 7, 26] (.cond (.t 26) (.seq (.seg false [⟨some 27, none, .load true 8 (.t 7), 0, 0, false, []⟩,
    ⟨none, none, .store 8 (.t 6) (.t 27), 0, 0, false, []⟩])
   (.ret))
   (.skip))))
   (.cutTo [1, 2, 6, 7] (.seq (.seq (.seg false [⟨some 8, none, .mov (.k (.int .i64 0)), 0, 0, false, []⟩])
   (.block 0 (.loop [1, 2, 6, 7, 8] [6, 7] L29x0)))
   (.seq (.seg false [⟨some 44, none, .load true 8 (.t 7), 0, 0, false, []⟩,
    ⟨none, none, .store 8 (.t 6) (.t 44), 0, 0, false, []⟩])
   (.ret))))))⟩
/-- loop.example/tablehouse/spec.KnownOf -/
def F92 : F := ⟨23, [(true, 2, 8, true)],
   .seq (.seg false [⟨some 1, none, .box (.t 0), 0, 0, false, []⟩,
    ⟨some 2, none, .alloc [.int .i64 0, .int .i64 0, .int .i64 0, .int .i64 0, .str ⟨#[]⟩, .int .i64 0, .int .i64 0, .str ⟨#[]⟩], 0, 0, false, []⟩])
   (.seq (.seq (.seg false [⟨some 4, none, .load true 3 (.t 1), 0, 0, false, []⟩,
    ⟨some 5, none, .call 80 [.t 4] false false, 0, 0, false, []⟩,
    ⟨some 6, none, .un .not (.t 5), 0, 0, false, []⟩,
    ⟨some 7, none, .mov (.t 6), 0, 0, false, []⟩,
    ⟨some 8, some (7, false), .faddr 0 1 (.t 1), 0, 0, false, []⟩,
    ⟨some 9, some (7, false), .load false 1 (.t 8), 0, 0, false, []⟩,
    ⟨some 10, some (7, false), .bin .eql (.t 9) (.k (.int .i64 0)), 0, 0, false, []⟩,
    ⟨some 11, none, .pick (.t 7) (.k (.bool true)) (.t 10), 0, 0, false, []⟩])
   (.cutTo [1, 2, 11] (.cond (.t 11) (.seq (.seg false [⟨some 12, none, .build [.int .i64 0, .int .i64 0, .int .i64 0, .int .i64 0, .str ⟨#[]⟩, .int .i64 0, .int .i64 0, .str ⟨#[]⟩] [], 0, 0, false, []⟩,
    ⟨none, none, .store 8 (.t 2) (.t 12), 0, 0, false, []⟩])
   (.ret))
   (.skip))))
   (.cutTo [1, 2] (.seq (.seg false [⟨some 13, none, .load true 3 (.t 1), 0, 0, false, []⟩,
    ⟨some 14, none, .load true 3 (.t 1), 0, 0, false, []⟩,
    ⟨some 15, none, .build [.int .i64 0, .int .i64 0, .int .i64 0, .int .i64 0, .str ⟨#[]⟩, .int .i64 0, .int .i64 0, .str ⟨#[]⟩] [(0, 1, .k (.int .i64 1)), (2, 3, .t 13), (5, 3, .t 14)], 0, 0, false, []⟩,
    ⟨some 3, none, .alloc [.int .i64 0, .int .i64 0, .int .i64 0, .int .i64 0, .str ⟨#[]⟩, .int .i64 0, .int .i64 0, .str ⟨#[]⟩], 0, 0, false, []⟩,
    ⟨none, none, .store 8 (.t 3) (.t 15), 0, 0, false, []⟩])
   (.cutTo [1, 2, 3] (.seq (.seq (.seg false [⟨some 16, none, .faddr 0 1 (.t 1), 0, 0, false, []⟩,
    ⟨some 17, none, .load false 1 (.t 16), 0, 0, false, []⟩,
    ⟨some 18, none, .bin .eql (.t 17) (.k (.int .i64 1)), 0, 0, false, []⟩])
   (.cond (.t 18) (.seg false [⟨some 19, none, .faddr 1 1 (.t 1), 0, 0, false, []⟩,
    ⟨some 20, none, .load false 1 (.t 19), 0, 0, false, []⟩,
    ⟨some 21, none, .faddr 1 1 (.t 3), 0, 0, false, []⟩,
    ⟨none, none, .store 1 (.t 21) (.t 20), 0, 0, false, []⟩])
   (.skip)))
   (.cutTo [2, 3] (.seq (.seg false [⟨some 22, none, .load true 8 (.t 3), 0, 0, false, []⟩,
    ⟨none, none, .store 8 (.t 2) (.t 22), 0, 0, false, []⟩])
   (.ret))))))))⟩
/-- loop.example/tablehouse/spec.MayHold -/
def F17 : F := ⟨69, [(false, 6, 0, false)],
   .seq (.seg false [⟨some 3, none, .box (.t 0), 0, 0, false, []⟩,
    ⟨some 5, none, .box (.t 2), 0, 0, false, []⟩,
    ⟨some 6, none, .mov (.k (.bool false)), 0, 0, false, []⟩])
   (.seq (.seq (.seg false [⟨some 7, none, .load true 8 (.t 3), 0, 0, false, []⟩,
    ⟨some 8, none, .call 79 [.t 7] false false, 0, 0, false, []⟩,
    ⟨some 9, none, .un .not (.t 8), 0, 0, false, []⟩,
    ⟨some 10, none, .mov (.t 9), 0, 0, false, []⟩,
    ⟨some 11, some (10, false), .faddr 0 1 (.t 3), 0, 0, false, []⟩,
    ⟨some 12, some (10, false), .load false 1 (.t 11), 0, 0, false, []⟩,
    ⟨some 13, some (10, false), .bin .eql (.t 12) (.k (.int .i64 0)), 0, 0, false, []⟩,
    ⟨some 14, none, .pick (.t 10) (.k (.bool true)) (.t 13), 0, 0, false, []⟩,
    ⟨some 15, none, .mov (.t 14), 0, 0, false, []⟩,
    ⟨some 16, some (15, false), .load true 3 (.t 5), 0, 0, false, []⟩,
    ⟨some 17, some (15, false), .call 80 [.t 16] false false, 0, 0, false, []⟩,
    ⟨some 18, some (15, false), .un .not (.t 17), 0, 0, false, []⟩,
    ⟨some 19, none, .pick (.t 15) (.k (.bool true)) (.t 18), 0, 0, false, []⟩,
    ⟨some 20, none, .mov (.t 19), 0, 0, false, []⟩,
    ⟨some 21, some (20, false), .faddr 0 1 (.t 5), 0, 0, false, []⟩,
    ⟨some 22, some (20, false), .load false 1 (.t 21), 0, 0, false, []⟩,
    ⟨some 23, some (20, false), .faddr 2 3 (.t 3), 0, 0, false, []⟩,
    ⟨some 24, some (20, false), .faddr 0 1 (.t 23), 0, 0, false, []⟩,
    ⟨some 25, some (20, false), .load false 1 (.t 24), 0, 0, false, []⟩,
    ⟨some 26, some (20, false), .bin .neq (.t 22) (.t 25), 0, 0, false, []⟩,
    ⟨some 27, none, .pick (.t 20) (.k (.bool true)) (.t 26), 0, 0, false, []⟩])
   (.cutTo [1, 3, 5, 27] (.cond (.t 27) (.seq (.seg false [⟨some 6, none, .mov (.k (.bool false)), 0, 0, false, []⟩])
   (.ret))
   (.skip))))
   (.cutTo [1, 3, 5] (.seq (.seq (.seg false [⟨some 28, none, .mov (.t 1), 0, 0, false, []⟩])
   (.block 0 (.seq (.seg false [⟨some 30, none, .bin .eql (.t 28) (.k (.int .i64 1)), 0, 0, false, []⟩,
    ⟨some 29, none, .mov (.t 30), 0, 0, false, []⟩])
   (.cond (.t 29) (.seq (.seg false [⟨some 31, none, .faddr 2 3 (.t 3), 0, 0, false, []⟩,
    ⟨some 32, none, .load true 3 (.t 31), 0, 0, false, []⟩,
    ⟨some 33, none, .load true 3 (.t 5), 0, 0, false, []⟩,
    ⟨some 34, none, .call 81 [.t 32, .t 33] false false, 0, 0, false, []⟩,
    ⟨some 35, none, .bin .leq (.t 34) (.k (.int .i64 0)), 0, 0, false, []⟩,
    ⟨some 36, none, .mov (.t 35), 0, 0, false, []⟩,
    ⟨some 37, some (36, true), .load true 3 (.t 5), 0, 0, false, []⟩,
    ⟨some 38, some (36, true), .faddr 5 3 (.t 3), 0, 0, false, []⟩,
    ⟨some 39, some (36, true), .load true 3 (.t 38), 0, 0, false, []⟩,
    ⟨some 40, some (36, true), .call 81 [.t 37, .t 39] false false, 0, 0, false, []⟩,
    ⟨some 41, some (36, true), .bin .leq (.t 40) (.k (.int .i64 0)), 0, 0, false, []⟩,
    ⟨some 42, none, .pick (.t 36) (.t 41) (.k (.bool false)), 0, 0, false, []⟩,
    ⟨some 6, none, .mov (.t 42), 0, 0, false, []⟩])
   (.cutTo [6] (.ret)))
   (.seq (.seg false [⟨some 44, none, .bin .eql (.t 28) (.k (.int .i64 2)), 0, 0, false, []⟩,
    ⟨some 43, none, .mov (.t 44), 0, 0, false, []⟩])
   (.cond (.t 43) (.seq (.seg false [⟨some 45, none, .faddr 2 3 (.t 3), 0, 0, false, []⟩,
    ⟨some 46, none, .load true 3 (.t 45), 0, 0, false, []⟩,
    ⟨some 47, none, .load true 3 (.t 5), 0, 0, false, []⟩,
    ⟨some 48, none, .eqs true [.int, .int, .str] (.t 46) (.t 47), 0, 0, false, []⟩,
    ⟨some 49, none, .mov (.t 48), 0, 0, false, []⟩,
    ⟨some 50, some (49, false), .faddr 5 3 (.t 3), 0, 0, false, []⟩,
    ⟨some 51, some (49, false), .load true 3 (.t 50), 0, 0, false, []⟩,
    ⟨some 52, some (49, false), .load true 3 (.t 5), 0, 0, false, []⟩,
    ⟨some 53, some (49, false), .eqs true [.int, .int, .str] (.t 51) (.t 52), 0, 0, false, []⟩,
    ⟨some 54, none, .pick (.t 49) (.k (.bool true)) (.t 53), 0, 0, false, []⟩,
    ⟨some 6, none, .mov (.t 54), 0, 0, false, []⟩])
   (.cutTo [6] (.ret)))
   (.seq (.seg false [⟨some 56, none, .bin .eql (.t 28) (.k (.int .i64 3)), 0, 0, false, []⟩,
    ⟨some 55, none, .mov (.t 56), 0, 0, false, []⟩])
   (.cond (.t 55) (.seq (.seg false [⟨some 57, none, .faddr 2 3 (.t 3), 0, 0, false, []⟩,
    ⟨some 58, none, .load true 3 (.t 57), 0, 0, false, []⟩,
    ⟨some 59, none, .load true 3 (.t 5), 0, 0, false, []⟩,
    ⟨some 60, none, .call 81 [.t 58, .t 59] false false, 0, 0, false, []⟩,
    ⟨some 61, none, .bin .lss (.t 60) (.k (.int .i64 0)), 0, 0, false, []⟩,
    ⟨some 6, none, .mov (.t 61), 0, 0, false, []⟩])
   (.cutTo [6] (.ret)))
   (.seq (.seg false [⟨some 63, none, .bin .eql (.t 28) (.k (.int .i64 4)), 0, 0, false, []⟩,
    ⟨some 62, none, .mov (.t 63), 0, 0, false, []⟩])
   (.cond (.t 62) (.seq (.seg false [⟨some 64, none, .faddr 2 3 (.t 3), 0, 0, false, []⟩,
    ⟨some 65, none, .load true 3 (.t 64), 0, 0, false, []⟩,
    ⟨some 66, none, .load true 3 (.t 5), 0, 0, false, []⟩,
    ⟨some 67, none, .call 81 [.t 65, .t 66] false false, 0, 0, false, []⟩,
    ⟨some 68, none, .bin .leq (.t 67) (.k (.int .i64 0)), 0, 0, false, []⟩,
    ⟨some 6, none, .mov (.t 68), 0, 0, false, []⟩])
   (.cutTo [6] (.ret)))
   (.skip)))))))))))
   (.cutTo [] (.seq (.seg false [⟨some 6, none, .mov (.k (.bool false)), 0, 0, false, []⟩])
   (.ret))))))⟩
/-- loop.example/tablehouse/spec.MustHold -/
def F23 : F := ⟨69, [(false, 6, 0, false)],
   .seq (.seg false [⟨some 3, none, .box (.t 0), 0, 0, false, []⟩,
    ⟨some 5, none, .box (.t 2), 0, 0, false, []⟩,
    ⟨some 6, none, .mov (.k (.bool false)), 0, 0, false, []⟩])
   (.seq (.seq (.seg false [⟨some 7, none, .load true 8 (.t 3), 0, 0, false, []⟩,
    ⟨some 8, none, .call 79 [.t 7] false false, 0, 0, false, []⟩,
    ⟨some 9, none, .un .not (.t 8), 0, 0, false, []⟩,
    ⟨some 10, none, .mov (.t 9), 0, 0, false, []⟩,
    ⟨some 11, some (10, false), .faddr 0 1 (.t 3), 0, 0, false, []⟩,
    ⟨some 12, some (10, false), .load false 1 (.t 11), 0, 0, false, []⟩,
    ⟨some 13, some (10, false), .bin .eql (.t 12) (.k (.int .i64 0)), 0, 0, false, []⟩,
    ⟨some 14, none, .pick (.t 10) (.k (.bool true)) (.t 13), 0, 0, false, []⟩,
    ⟨some 15, none, .mov (.t 14), 0, 0, false, []⟩,
    ⟨some 16, some (15, false), .load true 3 (.t 5), 0, 0, false, []⟩,
    ⟨some 17, some (15, false), .call 80 [.t 16] false false, 0, 0, false, []⟩,
    ⟨some 18, some (15, false), .un .not (.t 17), 0, 0, false, []⟩,
    ⟨some 19, none, .pick (.t 15) (.k (.bool true)) (.t 18), 0, 0, false, []⟩,
    ⟨some 20, none, .mov (.t 19), 0, 0, false, []⟩,
    ⟨some 21, some (20, false), .faddr 0 1 (.t 5), 0, 0, false, []⟩,
    ⟨some 22, some (20, false), .load false 1 (.t 21), 0, 0, false, []⟩,
    ⟨some 23, some (20, false), .faddr 2 3 (.t 3), 0, 0, false, []⟩,
    ⟨some 24, some (20, false), .faddr 0 1 (.t 23), 0, 0, false, []⟩,
    ⟨some 25, some (20, false), .load false 1 (.t 24), 0, 0, false, []⟩,
    ⟨some 26, some (20, false), .bin .neq (.t 22) (.t 25), 0, 0, false, []⟩,
    ⟨some 27, none, .pick (.t 20) (.k (.bool true)) (.t 26), 0, 0, false, []⟩])
   (.cutTo [1, 3, 5, 27] (.cond (.t 27) (.seq (.seg false [⟨some 6, none, .mov (.k (.bool false)), 0, 0, false, []⟩])
   (.ret))
   (.skip))))
   (.cutTo [1, 3, 5] (.seq (.seq (.seg false [⟨some 28, none, .mov (.t 1), 0, 0, false, []⟩])
   (.block 0 (.seq (.seg false [⟨some 30, none, .bin .eql (.t 28) (.k (.int .i64 1)), 0, 0, false, []⟩,
    ⟨some 29, none, .mov (.t 30), 0, 0, false, []⟩])
   (.cond (.t 29) (.seq (.seg false [⟨some 31, none, .faddr 2 3 (.t 3), 0, 0, false, []⟩,
    ⟨some 32, none, .load true 3 (.t 31), 0, 0, false, []⟩,
    ⟨some 33, none, .load true 3 (.t 5), 0, 0, false, []⟩,
    ⟨some 34, none, .eqs false [.int, .int, .str] (.t 32) (.t 33), 0, 0, false, []⟩,
    ⟨some 35, none, .mov (.t 34), 0, 0, false, []⟩,
    ⟨some 36, some (35, true), .faddr 5 3 (.t 3), 0, 0, false, []⟩,
    ⟨some 37, some (35, true), .load true 3 (.t 36), 0, 0, false, []⟩,
    ⟨some 38, some (35, true), .load true 3 (.t 5), 0, 0, false, []⟩,
    ⟨some 39, some (35, true), .eqs false [.int, .int, .str] (.t 37) (.t 38), 0, 0, false, []⟩,
    ⟨some 40, none, .pick (.t 35) (.t 39) (.k (.bool false)), 0, 0, false, []⟩,
    ⟨some 6, none, .mov (.t 40), 0, 0, false, []⟩])
   (.cutTo [6] (.ret)))
   (.seq (.seg false [⟨some 42, none, .bin .eql (.t 28) (.k (.int .i64 2)), 0, 0, false, []⟩,
    ⟨some 41, none, .mov (.t 42), 0, 0, false, []⟩])
   (.cond (.t 41) (.seq (.seg false [⟨some 43, none, .load true 3 (.t 5), 0, 0, false, []⟩,
    ⟨some 44, none, .faddr 2 3 (.t 3), 0, 0, false, []⟩,
    ⟨some 45, none, .load true 3 (.t 44), 0, 0, false, []⟩,
    ⟨some 46, none, .call 81 [.t 43, .t 45] false false, 0, 0, false, []⟩,
    ⟨some 47, none, .bin .lss (.t 46) (.k (.int .i64 0)), 0, 0, false, []⟩,
    ⟨some 48, none, .mov (.t 47), 0, 0, false, []⟩,
    ⟨some 49, some (48, false), .faddr 5 3 (.t 3), 0, 0, false, []⟩,
    ⟨some 50, some (48, false), .load true 3 (.t 49), 0, 0, false, []⟩,
    ⟨some 51, some (48, false), .load true 3 (.t 5), 0, 0, false, []⟩,
    ⟨some 52, some (48, false), .call 81 [.t 50, .t 51] false false, 0, 0, false, []⟩,
    ⟨some 53, some (48, false), .bin .lss (.t 52) (.k (.int .i64 0)), 0, 0, false, []⟩,
    ⟨some 54, none, .pick (.t 48) (.k (.bool true)) (.t 53), 0, 0, false, []⟩,
    ⟨some 6, none, .mov (.t 54), 0, 0, false, []⟩])
   (.cutTo [6] (.ret)))
   (.seq (.seg false [⟨some 56, none, .bin .eql (.t 28) (.k (.int .i64 3)), 0, 0, false, []⟩,
    ⟨some 55, none, .mov (.t 56), 0, 0, false, []⟩])
   (.cond (.t 55) (.seq (.seg false [⟨some 57, none, .faddr 5 3 (.t 3), 0, 0, false, []⟩,
    ⟨some 58, none, .load true 3 (.t 57), 0, 0, false, []⟩,
    ⟨some 59, none, .load true 3 (.t 5), 0, 0, false, []⟩,
    ⟨some 60, none, .call 81 [.t 58, .t 59] false false, 0, 0, false, []⟩,
    ⟨some 61, none, .bin .lss (.t 60) (.k (.int .i64 0)), 0, 0, false, []⟩,
    ⟨some 6, none, .mov (.t 61), 0, 0, false, []⟩])
   (.cutTo [6] (.ret)))
   (.seq (.seg false [⟨some 63, none, .bin .eql (.t 28) (.k (.int .i64 4)), 0, 0, false, []⟩,
    ⟨some 62, none, .mov (.t 63), 0, 0, false, []⟩])
   (.cond (.t 62) (.seq (.seg false [⟨some 64, none, .faddr 5 3 (.t 3), 0, 0, false, []⟩,
    ⟨some 65, none, .load true 3 (.t 64), 0, 0, false, []⟩,
    ⟨some 66, none, .load true 3 (.t 5), 0, 0, false, []⟩,
    ⟨some 67, none, .call 81 [.t 65, .t 66] false false, 0, 0, false, []⟩,
    ⟨some 68, none, .bin .leq (.t 67) (.k (.int .i64 0)), 0, 0, false, []⟩,
    ⟨some 6, none, .mov (.t 68), 0, 0, false, []⟩])
   (.cutTo [6] (.ret)))
   (.skip)))))))))))
   (.cutTo [] (.seq (.seg false [⟨some 6, none, .mov (.k (.bool false)), 0, 0, false, []⟩])
   (.ret))))))⟩
def E160x0 : List I := [⟨some 27, none, .mov (.t 1), 0, 0, false, []⟩,
    ⟨some 28, none, .mov (.t 5), 0, 0, false, []⟩,
    ⟨some 29, none, .iaddr 3 (.t 27) (.t 28), 0, 0, false, []⟩,
    ⟨some 30, none, .faddr 0 1 (.t 29), 0, 0, false, []⟩,
    ⟨some 31, none, .load false 1 (.t 30), 0, 0, false, []⟩,
    ⟨some 32, none, .mov (.t 0), 0, 0, false, []⟩,
    ⟨some 33, none, .mov (.t 5), 0, 0, false, []⟩,
    ⟨some 34, none, .iaddr 2 (.t 32) (.t 33), 0, 0, false, []⟩,
    ⟨some 35, none, .faddr 0 1 (.t 34), 0, 0, false, []⟩,
    ⟨some 36, none, .load false 1 (.t 35), 0, 0, false, []⟩,
    ⟨some 37, none, .bin .neq (.t 31) (.t 36), 0, 0, false, []⟩,
    ⟨some 38, none, .mov (.t 37), 0, 0, false, []⟩,
    ⟨some 39, some (38, true), .mov (.t 1), 0, 0, false, []⟩,
    ⟨some 40, some (38, true), .mov (.t 5), 0, 0, false, []⟩,
    ⟨some 41, some (38, true), .iaddr 3 (.t 39) (.t 40), 0, 0, false, []⟩,
    ⟨some 42, some (38, true), .faddr 0 1 (.t 41), 0, 0, false, []⟩,
    ⟨some 43, some (38, true), .load false 1 (.t 42), 0, 0, false, []⟩,
    ⟨some 44, some (38, true), .bin .neq (.t 43) (.k (.int .i64 0)), 0, 0, false, []⟩,
    ⟨some 45, some (38, true), .mov (.t 44), 0, 0, false, []⟩,
    ⟨some 46, some (45, false), .mov (.t 0), 0, 0, false, []⟩,
    ⟨some 47, some (45, false), .mov (.t 5), 0, 0, false, []⟩,
    ⟨some 48, some (45, false), .iaddr 2 (.t 46) (.t 47), 0, 0, false, []⟩,
    ⟨some 49, some (45, false), .faddr 1 1 (.t 48), 0, 0, false, []⟩,
    ⟨some 50, some (45, false), .load false 1 (.t 49), 0, 0, false, []⟩,
    ⟨some 51, some (45, false), .un .not (.t 50), 0, 0, false, []⟩,
    ⟨some 52, some (38, true), .pick (.t 45) (.k (.bool true)) (.t 51), 0, 0, false, []⟩,
    ⟨some 53, none, .pick (.t 38) (.t 52) (.k (.bool false)), 0, 0, false, []⟩]
def D160x0 : List I := E160x0
theorem evD160x0 (run : Run) (e : Env) (h : Heap) : drawI run D160x0 e h = DrawS (evQ run E160x0 e h) run E160x0 e h := drawI_quiet run _ (by rfl) e h
def B160x0 : C := .seq (.seq (.seg false [⟨some 21, none, .mov (.t 5), 0, 0, false, []⟩,
    ⟨some 22, none, .mov (.t 1), 0, 0, false, []⟩,
    ⟨some 23, none, .len false (.t 22), 0, 0, false, []⟩,
    ⟨some 24, none, .bin .lss (.t 21) (.t 23), 0, 0, false, []⟩])
   (.cutTo [0, 1, 5, 24] (.cond (.t 24) (.skip)
   (.exit 0))))
   (.cutTo [0, 1, 5] (.seq (.block 1 (.seq (.seg true D160x0)
   (.cutTo [0, 1, 5, 53] (.cond (.t 53) (.seq (.seg false [⟨some 4, none, .mov (.k (.bool false)), 0, 0, false, []⟩])
   (.ret))
   (.skip)))))
   (.cutTo [0, 1, 5] (.seg false [⟨some 25, none, .mov (.t 5), 0, 0, false, []⟩,
    ⟨some 26, none, .bin .add (.t 25) (.k (.int .i64 1)), 0, 0, false, []⟩,
    ⟨some 5, none, .mov (.t 26), 0, 0, false, []⟩]))))
def L160x0 : C := B160x0
theorem evL160x0 (run : Run) (draw : List I → Env → Heap → Option (Env × Heap)) (e : Env) (h : Heap) : evC run draw L160x0 e h = evC run draw B160x0 e h := rfl
/-- loop.example/tablehouse/spec.RowFits -/
def F160 : F := ⟨54, [(false, 4, 0, false)],
   .seq (.seg false [⟨some 4, none, .mov (.k (.bool false)), 0, 0, false, []⟩])
   (.seq (.seq (.seg false [⟨some 6, none, .mov (.t 0), 0, 0, false, []⟩,
    ⟨some 7, none, .call 161 [.t 6] false false, 0, 0, false, []⟩,
    ⟨some 8, none, .un .not (.t 7), 0, 0, false, []⟩,
    ⟨some 9, none, .mov (.t 8), 0, 0, false, []⟩,
    ⟨some 10, some (9, false), .mov (.t 1), 0, 0, false, []⟩,
    ⟨some 11, some (9, false), .call 192 [.t 10] false false, 0, 0, false, []⟩,
    ⟨some 12, some (9, false), .un .not (.t 11), 0, 0, false, []⟩,
    ⟨some 13, none, .pick (.t 9) (.k (.bool true)) (.t 12), 0, 0, false, []⟩,
    ⟨some 14, none, .mov (.t 13), 0, 0, false, []⟩,
    ⟨some 15, some (14, false), .mov (.t 1), 0, 0, false, []⟩,
    ⟨some 16, some (14, false), .len false (.t 15), 0, 0, false, []⟩,
    ⟨some 17, some (14, false), .mov (.t 0), 0, 0, false, []⟩,
    ⟨some 18, some (14, false), .len false (.t 17), 0, 0, false, []⟩,
    ⟨some 19, some (14, false), .bin .neq (.t 16) (.t 18), 0, 0, false, []⟩,
    ⟨some 20, none, .pick (.t 14) (.k (.bool true)) (.t 19), 0, 0, false, []⟩])
   (.cutTo [0, 1, 20] (.cond (.t 20) (.seq (.seg false [⟨some 4, none, .mov (.k (.bool false)), 0, 0, false, []⟩])
   (.ret))
   (.skip))))
   (.cutTo [0, 1] (.seq (.seq (.seg false [⟨some 5, none, .mov (.k (.int .i64 0)), 0, 0, false, []⟩])
   (.block 0 (.loop [0, 1, 5] [4] L160x0)))
   (.seq (.seg false [⟨some 4, none, .mov (.k (.bool true)), 0, 0, false, []⟩])
   (.ret)))))⟩
def B192x0 : C := .seq (.seq (.seg false [⟨some 4, none, .mov (.t 3), 0, 0, false, []⟩,
    ⟨some 5, none, .mov (.t 0), 0, 0, false, []⟩,
    ⟨some 6, none, .len false (.t 5), 0, 0, false, []⟩,
    ⟨some 7, none, .bin .lss (.t 4) (.t 6), 0, 0, false, []⟩])
   (.cutTo [0, 3, 7] (.cond (.t 7) (.skip)
   (.exit 0))))
   (.cutTo [0, 3] (.seq (.block 1 (.seq (.seg false [⟨some 10, none, .mov (.t 0), 0, 0, false, []⟩,
    ⟨some 11, none, .mov (.t 3), 0, 0, false, []⟩,
    ⟨some 12, none, .iaddr 3 (.t 10) (.t 11), 0, 0, false, []⟩,
    ⟨some 13, none, .load true 3 (.t 12), 0, 0, false, []⟩,
    ⟨some 14, none, .call 80 [.t 13] false false, 0, 0, false, []⟩,
    ⟨some 15, none, .un .not (.t 14), 0, 0, false, []⟩])
   (.cutTo [0, 3, 15] (.cond (.t 15) (.seq (.seg false [⟨some 2, none, .mov (.k (.bool false)), 0, 0, false, []⟩])
   (.ret))
   (.skip)))))
   (.cutTo [0, 3] (.seg false [⟨some 8, none, .mov (.t 3), 0, 0, false, []⟩,
    ⟨some 9, none, .bin .add (.t 8) (.k (.int .i64 1)), 0, 0, false, []⟩,
    ⟨some 3, none, .mov (.t 9), 0, 0, false, []⟩]))))
def L192x0 : C := B192x0
theorem evL192x0 (run : Run) (draw : List I → Env → Heap → Option (Env × Heap)) (e : Env) (h : Heap) : evC run draw L192x0 e h = evC run draw B192x0 e h := rfl
/-- loop.example/tablehouse/spec.RowOk -/
def F192 : F := ⟨19, [(false, 2, 0, false)],
   .seq (.seg false [⟨some 2, none, .mov (.k (.bool false)), 0, 0, false, []⟩])
   (.seq (.seq (.seg false [⟨some 3, none, .mov (.k (.int .i64 0)), 0, 0, false, []⟩])
   (.block 0 (.loop [0, 3] [0, 2] L192x0)))
   (.seq (.seg false [⟨some 16, none, .mov (.t 0), 0, 0, false, []⟩,
    ⟨some 17, none, .len false (.t 16), 0, 0, false, []⟩,
    ⟨some 18, none, .bin .leq (.t 17) (.k (.int .i64 4)), 0, 0, false, []⟩,
    ⟨some 2, none, .mov (.t 18), 0, 0, false, []⟩])
   (.cutTo [2] (.ret))))⟩
def B89x0 : C := .seq (.seq (.seg false [⟨some 6, none, .mov (.t 5), 0, 0, false, []⟩,
    ⟨some 7, none, .mov (.t 1), 0, 0, false, []⟩,
    ⟨some 8, none, .len false (.t 7), 0, 0, false, []⟩,
    ⟨some 9, none, .bin .lss (.t 6) (.t 8), 0, 0, false, []⟩])
   (.cutTo [0, 1, 5, 9] (.cond (.t 9) (.skip)
   (.exit 0))))
   (.cutTo [0, 1, 5] (.seq (.block 1 (.seq (.seg false [⟨some 12, none, .mov (.t 0), 0, 0, false, []⟩,
    ⟨some 13, none, .mov (.t 1), 0, 0, false, []⟩,
    ⟨some 14, none, .mov (.t 5), 0, 0, false, []⟩,
    ⟨some 15, none, .iaddr 1 (.t 13) (.t 14), 0, 0, false, []⟩,
    ⟨some 16, none, .load false 1 (.t 15), 0, 0, false, []⟩,
    ⟨some 17, none, .call 160 [.t 12, .t 16] false false, 0, 0, false, []⟩,
    ⟨some 18, none, .un .not (.t 17), 0, 0, false, []⟩])
   (.cutTo [0, 1, 5, 18] (.cond (.t 18) (.seq (.seg false [⟨some 4, none, .mov (.k (.bool false)), 0, 0, false, []⟩])
   (.ret))
   (.skip)))))
   (.cutTo [0, 1, 5] (.seg false [⟨some 10, none, .mov (.t 5), 0, 0, false, []⟩,
    ⟨some 11, none, .bin .add (.t 10) (.k (.int .i64 1)), 0, 0, false, []⟩,
    ⟨some 5, none, .mov (.t 11), 0, 0, false, []⟩]))))
def L89x0 : C := B89x0
theorem evL89x0 (run : Run) (draw : List I → Env → Heap → Option (Env × Heap)) (e : Env) (h : Heap) : evC run draw L89x0 e h = evC run draw B89x0 e h := rfl
/-- loop.example/tablehouse/spec.RowsOk -/
def F89 : F := ⟨21, [(false, 4, 0, false)],
   .seq (.seg false [⟨some 4, none, .mov (.k (.bool false)), 0, 0, false, []⟩])
   (.seq (.seq (.seg false [⟨some 5, none, .mov (.k (.int .i64 0)), 0, 0, false, []⟩])
   (.block 0 (.loop [0, 1, 5] [0, 4] L89x0)))
   (.seq (.seg false [⟨some 19, none, .mov (.t 0), 0, 0, false, []⟩,
    ⟨some 20, none, .call 161 [.t 19] false false, 0, 0, false, []⟩,
    ⟨some 4, none, .mov (.t 20), 0, 0, false, []⟩])
   (.ret)))⟩
/-- loop.example/tablehouse/spec.ValueOk -/
def F80 : F := ⟨45, [(false, 2, 0, false)],
   .seq (.seg false [⟨some 1, none, .box (.t 0), 0, 0, false, []⟩,
    ⟨some 2, none, .mov (.k (.bool false)), 0, 0, false, []⟩])
   (.seq (.seq (.seg false [⟨some 3, none, .faddr 0 1 (.t 1), 0, 0, false, []⟩,
    ⟨some 4, none, .load false 1 (.t 3), 0, 0, false, []⟩])
   (.block 0 (.seq (.seg false [⟨some 6, none, .bin .eql (.t 4) (.k (.int .i64 0)), 0, 0, false, []⟩,
    ⟨some 5, none, .mov (.t 6), 0, 0, false, []⟩])
   (.cond (.t 5) (.seq (.seg false [⟨some 7, none, .faddr 1 1 (.t 1), 0, 0, false, []⟩,
    ⟨some 8, none, .load false 1 (.t 7), 0, 0, false, []⟩,
    ⟨some 9, none, .bin .eql (.t 8) (.k (.int .i64 0)), 0, 0, false, []⟩,
    ⟨some 10, none, .mov (.t 9), 0, 0, false, []⟩,
    ⟨some 11, some (10, true), .faddr 2 1 (.t 1), 0, 0, false, []⟩,
    ⟨some 12, some (10, true), .load false 1 (.t 11), 0, 0, false, []⟩,
    ⟨some 13, some (10, true), .bin .eql (.t 12) (.k (.str ⟨#[]⟩)), 0, 0, false, []⟩,
    ⟨some 14, none, .pick (.t 10) (.t 13) (.k (.bool false)), 0, 0, false, []⟩,
    ⟨some 2, none, .mov (.t 14), 0, 0, false, []⟩])
   (.cutTo [2] (.ret)))
   (.seq (.seg false [⟨some 16, none, .bin .eql (.t 4) (.k (.int .i64 1)), 0, 0, false, []⟩,
    ⟨some 15, none, .mov (.t 16), 0, 0, false, []⟩])
   (.cond (.t 15) (.seq (.seg false [⟨some 17, none, .faddr 1 1 (.t 1), 0, 0, false, []⟩,
    ⟨some 18, none, .load false 1 (.t 17), 0, 0, false, []⟩,
    ⟨some 19, none, .call 90 [.t 18, .k (.int .i64 (-9999)), .k (.int .i64 9999)] false false, 0, 0, false, []⟩,
    ⟨some 20, none, .mov (.t 19), 0, 0, false, []⟩,
    ⟨some 21, some (20, true), .faddr 2 1 (.t 1), 0, 0, false, []⟩,
    ⟨some 22, some (20, true), .load false 1 (.t 21), 0, 0, false, []⟩,
    ⟨some 23, some (20, true), .bin .eql (.t 22) (.k (.str ⟨#[]⟩)), 0, 0, false, []⟩,
    ⟨some 24, none, .pick (.t 20) (.t 23) (.k (.bool false)), 0, 0, false, []⟩,
    ⟨some 2, none, .mov (.t 24), 0, 0, false, []⟩])
   (.cutTo [2] (.ret)))
   (.seq (.seg false [⟨some 26, none, .bin .eql (.t 4) (.k (.int .i64 2)), 0, 0, false, []⟩,
    ⟨some 25, none, .mov (.t 26), 0, 0, false, []⟩])
   (.cond (.t 25) (.seq (.seg false [⟨some 27, none, .faddr 1 1 (.t 1), 0, 0, false, []⟩,
    ⟨some 28, none, .load false 1 (.t 27), 0, 0, false, []⟩,
    ⟨some 29, none, .bin .eql (.t 28) (.k (.int .i64 0)), 0, 0, false, []⟩,
    ⟨some 30, none, .mov (.t 29), 0, 0, false, []⟩,
    ⟨some 31, some (30, true), .faddr 2 1 (.t 1), 0, 0, false, []⟩,
    ⟨some 32, some (30, true), .load false 1 (.t 31), 0, 0, false, []⟩,
    ⟨some 33, some (30, true), .call 150 [.t 32] false false, 0, 0, false, []⟩,
    ⟨some 34, none, .pick (.t 30) (.t 33) (.k (.bool false)), 0, 0, false, []⟩,
    ⟨some 2, none, .mov (.t 34), 0, 0, false, []⟩])
   (.cutTo [2] (.ret)))
   (.seq (.seg false [⟨some 36, none, .bin .eql (.t 4) (.k (.int .i64 3)), 0, 0, false, []⟩,
    ⟨some 35, none, .mov (.t 36), 0, 0, false, []⟩])
   (.cond (.t 35) (.seq (.seg false [⟨some 37, none, .faddr 1 1 (.t 1), 0, 0, false, []⟩,
    ⟨some 38, none, .load false 1 (.t 37), 0, 0, false, []⟩,
    ⟨some 39, none, .call 90 [.t 38, .k (.int .i64 0), .k (.int .i64 1)] false false, 0, 0, false, []⟩,
    ⟨some 40, none, .mov (.t 39), 0, 0, false, []⟩,
    ⟨some 41, some (40, true), .faddr 2 1 (.t 1), 0, 0, false, []⟩,
    ⟨some 42, some (40, true), .load false 1 (.t 41), 0, 0, false, []⟩,
    ⟨some 43, some (40, true), .bin .eql (.t 42) (.k (.str ⟨#[]⟩)), 0, 0, false, []⟩,
    ⟨some 44, none, .pick (.t 40) (.t 43) (.k (.bool false)), 0, 0, false, []⟩,
    ⟨some 2, none, .mov (.t 44), 0, 0, false, []⟩])
   (.cutTo [2] (.ret)))
   (.skip)))))))))))
   (.cutTo [] (.seq (.seg false [⟨some 2, none, .mov (.k (.bool false)), 0, 0, false, []⟩])
   (.ret))))⟩
/-- loop.example/tablehouse/spec.ValueOrder -/
def F81 : F := ⟨44, [(false, 4, 0, false)],
   .seq (.seg false [⟨some 2, none, .box (.t 0), 0, 0, false, []⟩,
    ⟨some 3, none, .box (.t 1), 0, 0, false, []⟩,
    ⟨some 4, none, .mov (.k (.int .i64 0)), 0, 0, false, []⟩])
   (.seq (.seq (.seg false [⟨some 5, none, .load true 3 (.t 2), 0, 0, false, []⟩,
    ⟨some 6, none, .call 80 [.t 5] false false, 0, 0, false, []⟩,
    ⟨some 7, none, .un .not (.t 6), 0, 0, false, []⟩,
    ⟨some 8, none, .mov (.t 7), 0, 0, false, []⟩,
    ⟨some 9, some (8, false), .load true 3 (.t 3), 0, 0, false, []⟩,
    ⟨some 10, some (8, false), .call 80 [.t 9] false false, 0, 0, false, []⟩,
    ⟨some 11, some (8, false), .un .not (.t 10), 0, 0, false, []⟩,
    ⟨some 12, none, .pick (.t 8) (.k (.bool true)) (.t 11), 0, 0, false, []⟩])
   (.cutTo [2, 3, 12] (.cond (.t 12) (.seq (.seg false [⟨some 4, none, .mov (.k (.int .i64 0)), 0, 0, false, []⟩])
   (.ret))
   (.skip))))
   (.cutTo [2, 3] (.seq (.block 0 (.seq (.seg false [⟨some 14, none, .faddr 0 1 (.t 2), 0, 0, false, []⟩,
    ⟨some 15, none, .load false 1 (.t 14), 0, 0, false, []⟩,
    ⟨some 16, none, .faddr 0 1 (.t 3), 0, 0, false, []⟩,
    ⟨some 17, none, .load false 1 (.t 16), 0, 0, false, []⟩,
    ⟨some 18, none, .bin .neq (.t 15) (.t 17), 0, 0, false, []⟩,
    ⟨some 13, none, .mov (.t 18), 0, 0, false, []⟩])
   (.cutTo [2, 3, 13] (.cond (.t 13) (.seq (.seg false [⟨some 19, none, .faddr 0 1 (.t 3), 0, 0, false, []⟩,
    ⟨some 20, none, .load false 1 (.t 19), 0, 0, false, []⟩,
    ⟨some 21, none, .faddr 0 1 (.t 2), 0, 0, false, []⟩,
    ⟨some 22, none, .load false 1 (.t 21), 0, 0, false, []⟩,
    ⟨some 23, none, .call 151 [.t 20, .t 22] false false, 0, 0, false, []⟩,
    ⟨some 24, none, .bin .mul (.k (.int .i64 2)) (.t 23), 0, 0, false, []⟩,
    ⟨some 25, none, .bin .sub (.t 24) (.k (.int .i64 1)), 0, 0, false, []⟩,
    ⟨some 4, none, .mov (.t 25), 0, 0, false, []⟩])
   (.cutTo [4] (.ret)))
   (.seq (.seg false [⟨some 27, none, .faddr 1 1 (.t 2), 0, 0, false, []⟩,
    ⟨some 28, none, .load false 1 (.t 27), 0, 0, false, []⟩,
    ⟨some 29, none, .faddr 1 1 (.t 3), 0, 0, false, []⟩,
    ⟨some 30, none, .load false 1 (.t 29), 0, 0, false, []⟩,
    ⟨some 31, none, .bin .neq (.t 28) (.t 30), 0, 0, false, []⟩,
    ⟨some 26, none, .mov (.t 31), 0, 0, false, []⟩])
   (.cutTo [2, 3, 26] (.cond (.t 26) (.seq (.seg false [⟨some 32, none, .faddr 1 1 (.t 3), 0, 0, false, []⟩,
    ⟨some 33, none, .load false 1 (.t 32), 0, 0, false, []⟩,
    ⟨some 34, none, .faddr 1 1 (.t 2), 0, 0, false, []⟩,
    ⟨some 35, none, .load false 1 (.t 34), 0, 0, false, []⟩,
    ⟨some 36, none, .call 151 [.t 33, .t 35] false false, 0, 0, false, []⟩,
    ⟨some 37, none, .bin .mul (.k (.int .i64 2)) (.t 36), 0, 0, false, []⟩,
    ⟨some 38, none, .bin .sub (.t 37) (.k (.int .i64 1)), 0, 0, false, []⟩,
    ⟨some 4, none, .mov (.t 38), 0, 0, false, []⟩])
   (.cutTo [4] (.ret)))
   (.skip))))))))
   (.cutTo [2, 3] (.seq (.seg false [⟨some 39, none, .faddr 2 1 (.t 2), 0, 0, false, []⟩,
    ⟨some 40, none, .load false 1 (.t 39), 0, 0, false, []⟩,
    ⟨some 41, none, .faddr 2 1 (.t 3), 0, 0, false, []⟩,
    ⟨some 42, none, .load false 1 (.t 41), 0, 0, false, []⟩,
    ⟨some 43, none, .call 152 [.t 40, .t 42] false false, 0, 0, false, []⟩,
    ⟨some 4, none, .mov (.t 43), 0, 0, false, []⟩])
   (.cutTo [4] (.ret)))))))⟩
/-- loop.example/tablehouse/spec.l1Cmp -/
def F152 : F := ⟨11, [(false, 4, 0, false)],
   .seq (.seg false [⟨some 4, none, .mov (.k (.int .i64 0)), 0, 0, false, []⟩])
   (.seq (.seq (.seg false [⟨some 5, none, .mov (.t 0), 0, 0, false, []⟩,
    ⟨some 6, none, .mov (.t 1), 0, 0, false, []⟩,
    ⟨some 7, none, .bin .lss (.t 5) (.t 6), 0, 0, false, []⟩])
   (.cond (.t 7) (.seq (.seg false [⟨some 4, none, .mov (.k (.int .i64 (-1))), 0, 0, false, []⟩])
   (.ret))
   (.skip)))
   (.cutTo [0, 1] (.seq (.seq (.seg false [⟨some 8, none, .mov (.t 0), 0, 0, false, []⟩,
    ⟨some 9, none, .mov (.t 1), 0, 0, false, []⟩,
    ⟨some 10, none, .bin .gtr (.t 8) (.t 9), 0, 0, false, []⟩])
   (.cond (.t 10) (.seq (.seg false [⟨some 4, none, .mov (.k (.int .i64 1)), 0, 0, false, []⟩])
   (.ret))
   (.skip)))
   (.cutTo [] (.seq (.seg false [⟨some 4, none, .mov (.k (.int .i64 0)), 0, 0, false, []⟩])
   (.ret))))))⟩
/-- loop.example/tablehouse/spec.l1In -/
def F90 : F := ⟨15, [(false, 6, 0, false)],
   .seq (.seg false [⟨some 6, none, .mov (.k (.bool false)), 0, 0, false, []⟩])
   (.seq (.seg false [⟨some 7, none, .mov (.t 0), 0, 0, false, []⟩,
    ⟨some 8, none, .mov (.t 1), 0, 0, false, []⟩,
    ⟨some 9, none, .bin .geq (.t 7) (.t 8), 0, 0, false, []⟩,
    ⟨some 10, none, .mov (.t 9), 0, 0, false, []⟩,
    ⟨some 11, some (10, true), .mov (.t 0), 0, 0, false, []⟩,
    ⟨some 12, some (10, true), .mov (.t 2), 0, 0, false, []⟩,
    ⟨some 13, some (10, true), .bin .leq (.t 11) (.t 12), 0, 0, false, []⟩,
    ⟨some 14, none, .pick (.t 10) (.t 13) (.k (.bool false)), 0, 0, false, []⟩,
    ⟨some 6, none, .mov (.t 14), 0, 0, false, []⟩])
   (.cutTo [6] (.ret)))⟩
/-- loop.example/tablehouse/spec.l1Less -/
def F151 : F := ⟨8, [(false, 4, 0, false)],
   .seq (.seg false [⟨some 4, none, .mov (.k (.int .i64 0)), 0, 0, false, []⟩])
   (.seq (.seq (.seg false [⟨some 5, none, .mov (.t 0), 0, 0, false, []⟩,
    ⟨some 6, none, .mov (.t 1), 0, 0, false, []⟩,
    ⟨some 7, none, .bin .lss (.t 5) (.t 6), 0, 0, false, []⟩])
   (.cond (.t 7) (.seq (.seg false [⟨some 4, none, .mov (.k (.int .i64 1)), 0, 0, false, []⟩])
   (.ret))
   (.skip)))
   (.cutTo [] (.seq (.seg false [⟨some 4, none, .mov (.k (.int .i64 0)), 0, 0, false, []⟩])
   (.ret))))⟩
def B150x0 : C := .seq (.seq (.seg false [⟨some 4, none, .mov (.t 3), 0, 0, false, []⟩,
    ⟨some 5, none, .mov (.t 0), 0, 0, false, []⟩,
    ⟨some 6, none, .len true (.t 5), 0, 0, false, []⟩,
    ⟨some 7, none, .bin .lss (.t 4) (.t 6), 0, 0, false, []⟩])
   (.cutTo [0, 3, 7] (.cond (.t 7) (.skip)
   (.exit 0))))
   (.cutTo [0, 3] (.seq (.block 1 (.seq (.seg false [⟨some 10, none, .mov (.t 0), 0, 0, false, []⟩,
    ⟨some 11, none, .mov (.t 3), 0, 0, false, []⟩,
    ⟨some 12, none, .idx (.t 10) (.t 11), 0, 0, false, []⟩,
    ⟨some 13, none, .bin .lss (.t 12) (.k (.int .u8 97)), 0, 0, false, []⟩,
    ⟨some 14, none, .mov (.t 13), 0, 0, false, []⟩,
    ⟨some 15, some (14, false), .mov (.t 0), 0, 0, false, []⟩,
    ⟨some 16, some (14, false), .mov (.t 3), 0, 0, false, []⟩,
    ⟨some 17, some (14, false), .idx (.t 15) (.t 16), 0, 0, false, []⟩,
    ⟨some 18, some (14, false), .bin .gtr (.t 17) (.k (.int .u8 122)), 0, 0, false, []⟩,
    ⟨some 19, none, .pick (.t 14) (.k (.bool true)) (.t 18), 0, 0, false, []⟩])
   (.cutTo [0, 3, 19] (.cond (.t 19) (.seq (.seg false [⟨some 2, none, .mov (.k (.bool false)), 0, 0, false, []⟩])
   (.ret))
   (.skip)))))
   (.cutTo [0, 3] (.seg false [⟨some 8, none, .mov (.t 3), 0, 0, false, []⟩,
    ⟨some 9, none, .bin .add (.t 8) (.k (.int .i64 1)), 0, 0, false, []⟩,
    ⟨some 3, none, .mov (.t 9), 0, 0, false, []⟩]))))
def L150x0 : C := B150x0
theorem evL150x0 (run : Run) (draw : List I → Env → Heap → Option (Env × Heap)) (e : Env) (h : Heap) : evC run draw L150x0 e h = evC run draw B150x0 e h := rfl
/-- loop.example/tablehouse/spec.l1Text -/
def F150 : F := ⟨23, [(false, 2, 0, false)],
   .seq (.seg false [⟨some 2, none, .mov (.k (.bool false)), 0, 0, false, []⟩])
   (.seq (.seq (.seg false [⟨some 3, none, .mov (.k (.int .i64 0)), 0, 0, false, []⟩])
   (.block 0 (.loop [0, 3] [0, 2] L150x0)))
   (.seq (.seg false [⟨some 20, none, .mov (.t 0), 0, 0, false, []⟩,
    ⟨some 21, none, .len true (.t 20), 0, 0, false, []⟩,
    ⟨some 22, none, .bin .leq (.t 21) (.k (.int .i64 6)), 0, 0, false, []⟩,
    ⟨some 2, none, .mov (.t 22), 0, 0, false, []⟩])
   (.cutTo [2] (.ret))))⟩
def E75x0 : List I := [⟨some 38, none, .load true 8 (.t 8), 0, 2, false, []⟩,
    ⟨some 39, none, .mov (.t 0), 0, 0, false, []⟩,
    ⟨some 40, none, .call 104 [.t 39, .k (.int .i64 4)] true false, 0, 0, true, []⟩,
    ⟨some 41, none, .bin .add (.k (.int .i64 1)) (.t 40), 1, 3, false, []⟩,
    ⟨some 42, none, .mov (.t 0), 0, 1, false, []⟩,
    ⟨some 43, none, .call 104 [.t 42, .k (.int .i64 20)] true false, 1, 0, true, []⟩,
    ⟨some 44, none, .bin .quo (.t 43) (.k (.int .i64 19)), 2, 3, false, []⟩,
    ⟨some 45, none, .bin .mul (.t 44) (.k (.int .i64 3)), 2, 3, false, []⟩,
    ⟨some 46, none, .bin .add (.t 41) (.t 45), 2, 3, false, []⟩,
    ⟨some 47, none, .load true 3 (.t 9), 0, 3, false, []⟩,
    ⟨none, none, .store 8 (.t 2) (.t 38), 2, 0, true, []⟩,
    ⟨some 3, none, .mov (.t 46), 3, 3, false, []⟩,
    ⟨none, none, .store 3 (.t 4) (.t 47), 3, 0, true, []⟩]
def D75x0 : List I := E75x0
theorem evD75x0 (run : Run) (e : Env) (h : Heap) : drawI run D75x0 e h = DrawW (evW run E75x0 e h []) run E75x0 e h := drawI_write run _ e h
/-- loop.example/tablehouse/spec.l20Against -/
def F75 : F := ⟨48, [(true, 2, 8, true), (false, 3, 0, false), (true, 4, 3, true)],
   .seq (.seg false [⟨some 2, none, .alloc [.int .i64 0, .int .i64 0, .int .i64 0, .int .i64 0, .str ⟨#[]⟩, .int .i64 0, .int .i64 0, .str ⟨#[]⟩], 0, 0, false, []⟩,
    ⟨some 3, none, .mov (.k (.int .i64 0)), 0, 0, false, []⟩,
    ⟨some 4, none, .alloc [.int .i64 0, .int .i64 0, .str ⟨#[]⟩], 0, 0, false, []⟩])
   (.seq (.seg false [⟨some 11, none, .mov (.t 0), 0, 0, false, []⟩,
    ⟨some 12, none, .call 86 [.t 11, .k (.int .i64 0)] true false, 0, 0, false, []⟩,
    ⟨some 10, none, .mov (.t 12), 0, 0, false, []⟩,
    ⟨some 13, none, .ext (.t 10) 0, 0, 0, false, []⟩,
    ⟨some 14, none, .ext (.t 10) 1, 0, 0, false, []⟩,
    ⟨some 15, none, .ext (.t 10) 2, 0, 0, false, []⟩,
    ⟨some 5, none, .mov (.t 13), 0, 0, false, []⟩,
    ⟨some 6, none, .mov (.t 14), 0, 0, false, []⟩,
    ⟨some 7, none, .mov (.t 15), 0, 0, false, []⟩])
   (.cutTo [0, 2, 4, 5, 6, 7] (.seq (.seg false [⟨some 16, none, .mov (.t 5), 0, 0, false, []⟩,
    ⟨some 17, none, .mov (.t 6), 0, 0, false, []⟩,
    ⟨some 18, none, .mov (.t 7), 0, 0, false, []⟩,
    ⟨some 19, none, .call 29 [.t 16, .t 17, .t 18] false false, 0, 0, false, []⟩,
    ⟨some 8, none, .alloc [.int .i64 0, .int .i64 0, .int .i64 0, .int .i64 0, .str ⟨#[]⟩, .int .i64 0, .int .i64 0, .str ⟨#[]⟩], 0, 0, false, []⟩,
    ⟨none, none, .store 8 (.t 8) (.t 19), 0, 0, false, []⟩])
   (.cutTo [0, 2, 4, 5, 7, 8] (.seq (.seg false [⟨some 20, none, .mov (.t 0), 0, 0, false, []⟩,
    ⟨some 21, none, .mov (.t 5), 0, 0, false, []⟩,
    ⟨some 22, none, .mov (.t 7), 0, 0, false, []⟩,
    ⟨some 23, none, .iaddr 2 (.t 21) (.t 22), 0, 0, false, []⟩,
    ⟨some 24, none, .faddr 0 1 (.t 23), 0, 0, false, []⟩,
    ⟨some 25, none, .load false 1 (.t 24), 0, 0, false, []⟩,
    ⟨some 26, none, .build [.int .i64 0, .bool false] [(0, 1, .t 25)], 0, 0, false, []⟩,
    ⟨some 27, none, .call 105 [.t 20, .t 26] true false, 0, 0, false, []⟩,
    ⟨some 9, none, .alloc [.int .i64 0, .int .i64 0, .str ⟨#[]⟩], 0, 0, false, []⟩,
    ⟨none, none, .store 3 (.t 9) (.t 27), 0, 0, false, []⟩])
   (.cutTo [0, 2, 4, 8, 9] (.seq (.seq (.seg false [⟨some 28, none, .mov (.t 0), 0, 0, false, []⟩,
    ⟨some 29, none, .call 104 [.t 28, .k (.int .i64 12)] true false, 0, 0, false, []⟩,
    ⟨some 30, none, .bin .eql (.t 29) (.k (.int .i64 0)), 0, 0, false, []⟩])
   (.cond (.t 30) (.seg false [⟨some 31, none, .mov (.t 0), 0, 0, false, []⟩,
    ⟨some 32, none, .call 145 [.t 31, .k (.int .i64 2)] true false, 0, 0, false, []⟩,
    ⟨none, none, .store 3 (.t 9) (.t 32), 0, 0, false, []⟩])
   (.skip)))
   (.cutTo [0, 2, 4, 8, 9] (.seq (.seq (.seg false [⟨some 33, none, .mov (.t 0), 0, 0, false, []⟩,
    ⟨some 34, none, .call 104 [.t 33, .k (.int .i64 15)] true false, 0, 0, false, []⟩,
    ⟨some 35, none, .bin .eql (.t 34) (.k (.int .i64 0)), 0, 0, false, []⟩])
   (.cond (.t 35) (.seg false [⟨some 36, none, .mov (.t 0), 0, 0, false, []⟩,
    ⟨some 37, none, .call 146 [.t 36, .k (.int .i64 1), .k (.int .i64 1)] true false, 0, 0, false, []⟩,
    ⟨none, none, .store 8 (.t 8) (.t 37), 0, 0, false, []⟩])
   (.skip)))
   (.cutTo [0, 2, 4, 8, 9] (.seq (.seg true D75x0)
   (.cutTo [2, 3, 4] (.ret)))))))))))))⟩
def B156x0 : C := .seq (.seq (.seg false [⟨some 12, none, .mov (.t 8), 0, 0, false, []⟩,
    ⟨some 13, none, .bin .gtr (.t 12) (.k (.int .i64 0)), 0, 0, false, []⟩])
   (.cond (.t 13) (.skip)
   (.exit 0)))
   (.seq (.block 1 (.seq (.seg false [⟨some 16, none, .mov (.t 7), 0, 0, false, []⟩,
    ⟨some 17, none, .len false (.t 16), 0, 0, false, []⟩,
    ⟨some 18, none, .bin .gtr (.t 17) (.k (.int .i64 0)), 0, 0, false, []⟩,
    ⟨some 19, none, .mov (.t 18), 0, 0, false, []⟩,
    ⟨some 20, some (19, true), .mov (.t 0), 0, 0, false, []⟩,
    ⟨some 21, some (19, true), .call 104 [.t 20, .k (.int .i64 3)] true false, 0, 0, false, []⟩,
    ⟨some 22, some (19, true), .bin .eql (.t 21) (.k (.int .i64 0)), 0, 0, false, []⟩,
    ⟨some 23, none, .pick (.t 19) (.t 22) (.k (.bool false)), 0, 0, false, []⟩])
   (.cutTo [0, 1, 2, 7, 8, 23] (.cond (.t 23) (.seg false [⟨some 24, none, .mov (.t 7), 0, 0, false, []⟩,
    ⟨some 25, none, .mov (.t 7), 0, 0, false, []⟩,
    ⟨some 26, none, .mov (.t 0), 0, 0, false, []⟩,
    ⟨some 27, none, .mov (.t 7), 0, 0, false, []⟩,
    ⟨some 28, none, .len false (.t 27), 0, 0, false, []⟩,
    ⟨some 29, none, .call 104 [.t 26, .t 28] true false, 0, 0, false, []⟩,
    ⟨some 30, none, .iaddr 1 (.t 25) (.t 29), 0, 0, false, []⟩,
    ⟨some 31, none, .load false 1 (.t 30), 0, 0, false, []⟩,
    ⟨some 32, none, .call 126 [.t 31] false false, 0, 0, false, []⟩,
    ⟨some 33, none, .mksl false 1 [.t 32], 0, 0, false, []⟩,
    ⟨some 34, none, .app 1 (.t 24) (.t 33), 0, 0, false, []⟩,
    ⟨some 7, none, .mov (.t 34), 0, 0, false, []⟩])
   (.seg false [⟨some 35, none, .mov (.t 7), 0, 0, false, []⟩,
    ⟨some 36, none, .mov (.t 0), 0, 0, false, []⟩,
    ⟨some 37, none, .mov (.t 1), 0, 0, false, []⟩,
    ⟨some 38, none, .mov (.t 2), 0, 0, false, []⟩,
    ⟨some 39, none, .call 190 [.t 36, .t 37, .t 38] true false, 0, 0, false, []⟩,
    ⟨some 40, none, .mksl false 1 [.t 39], 0, 0, false, []⟩,
    ⟨some 41, none, .app 1 (.t 35) (.t 40), 0, 0, false, []⟩,
    ⟨some 7, none, .mov (.t 41), 0, 0, false, []⟩])))))
   (.cutTo [0, 1, 2, 7, 8] (.seg false [⟨some 14, none, .mov (.t 8), 0, 0, false, []⟩,
    ⟨some 15, none, .bin .sub (.t 14) (.k (.int .i64 1)), 0, 0, false, []⟩,
    ⟨some 8, none, .mov (.t 15), 0, 0, false, []⟩])))
def L156x0 : C := B156x0
theorem evL156x0 (run : Run) (draw : List I → Env → Heap → Option (Env × Heap)) (e : Env) (h : Heap) : evC run draw L156x0 e h = evC run draw B156x0 e h := rfl
/-- loop.example/tablehouse/spec.l20Bag -/
def F156 : F := ⟨43, [(false, 6, 0, false)],
   .seq (.seg false [⟨some 6, none, .nilrow 1, 0, 0, false, []⟩])
   (.seq (.seg false [⟨some 9, none, .mksl true 1 [], 0, 0, false, []⟩,
    ⟨some 7, none, .mov (.t 9), 0, 0, false, []⟩])
   (.seq (.seq (.seg false [⟨some 10, none, .mov (.t 0), 0, 0, false, []⟩,
    ⟨some 11, none, .call 104 [.t 10, .k (.int .i64 7)] true false, 0, 0, false, []⟩,
    ⟨some 8, none, .mov (.t 11), 0, 0, false, []⟩])
   (.block 0 (.loop [0, 1, 2, 7, 8] [7] L156x0)))
   (.seq (.seg false [⟨some 42, none, .mov (.t 7), 0, 0, false, []⟩,
    ⟨some 6, none, .mov (.t 42), 0, 0, false, []⟩])
   (.ret))))⟩
/-- loop.example/tablehouse/spec.l20Bounded -/
def F86 : F := ⟨30, [(false, 4, 0, false), (false, 5, 0, false), (false, 6, 0, false)],
   .seq (.seg false [⟨some 4, none, .mov (.k (.sl true 2 [])), 0, 0, false, []⟩,
    ⟨some 5, none, .nilrow 1, 0, 0, false, []⟩,
    ⟨some 6, none, .mov (.k (.int .i64 0)), 0, 0, false, []⟩])
   (.seq (.seg false [⟨some 9, none, .mov (.t 0), 0, 0, false, []⟩,
    ⟨some 10, none, .call 130 [.t 9, .k (.int .i64 0)] true false, 0, 0, false, []⟩,
    ⟨some 7, none, .mov (.t 10), 0, 0, false, []⟩])
   (.seq (.seg false [⟨some 11, none, .mov (.t 0), 0, 0, false, []⟩,
    ⟨some 12, none, .mov (.t 7), 0, 0, false, []⟩,
    ⟨some 13, none, .len false (.t 12), 0, 0, false, []⟩,
    ⟨some 14, none, .call 104 [.t 11, .t 13] true false, 0, 0, false, []⟩,
    ⟨some 8, none, .mov (.t 14), 0, 0, false, []⟩])
   (.cutTo [0, 1, 7, 8] (.seq (.seq (.seg false [⟨some 15, none, .mov (.t 0), 0, 0, false, []⟩,
    ⟨some 16, none, .mov (.t 1), 0, 0, false, []⟩,
    ⟨some 17, none, .call 155 [.t 15, .t 16] true false, 0, 0, false, []⟩])
   (.cond (.t 17) (.seg false [⟨some 18, none, .mov (.t 0), 0, 0, false, []⟩,
    ⟨some 19, none, .call 104 [.t 18, .k (.int .i64 6)] true false, 0, 0, false, []⟩,
    ⟨some 20, none, .bin .sub (.t 19) (.k (.int .i64 1)), 0, 0, false, []⟩,
    ⟨some 8, none, .mov (.t 20), 0, 0, false, []⟩])
   (.skip)))
   (.cutTo [0, 7, 8] (.seq (.seg false [⟨some 21, none, .mov (.t 7), 0, 0, false, []⟩,
    ⟨some 22, none, .mov (.t 0), 0, 0, false, []⟩,
    ⟨some 23, none, .mov (.t 7), 0, 0, false, []⟩,
    ⟨some 24, none, .call 156 [.t 22, .t 23, .k (.int .i64 0)] true true, 0, 0, false, []⟩,
    ⟨some 25, none, .mov (.t 0), 0, 0, false, []⟩,
    ⟨some 26, none, .mov (.t 7), 0, 0, false, []⟩,
    ⟨some 27, none, .call 156 [.t 25, .t 26, .k (.int .i64 0)] true false, 0, 0, false, []⟩,
    ⟨some 28, none, .app 1 (.t 24) (.t 27), 0, 0, false, []⟩,
    ⟨some 29, none, .mov (.t 8), 0, 0, false, []⟩,
    ⟨some 4, none, .mov (.t 21), 0, 0, false, []⟩,
    ⟨some 5, none, .mov (.t 28), 0, 0, false, []⟩,
    ⟨some 6, none, .mov (.t 29), 0, 0, false, []⟩])
   (.cutTo [4, 5, 6] (.ret))))))))⟩
def E130x0 : List I := [⟨some 15, none, .mov (.t 5), 0, 2, false, [5]⟩,
    ⟨some 16, none, .mksl false 1 [.k (.int .i64 1), .k (.int .i64 1), .k (.int .i64 2), .k (.int .i64 3)], 0, 2, false, []⟩,
    ⟨some 17, none, .mov (.t 0), 0, 0, false, []⟩,
    ⟨some 18, none, .call 104 [.t 17, .k (.int .i64 4)] true false, 0, 0, true, []⟩,
    ⟨some 19, none, .iaddr 1 (.t 16) (.t 18), 1, 2, false, []⟩,
    ⟨some 20, none, .load false 1 (.t 19), 1, 2, false, []⟩,
    ⟨some 21, none, .mov (.t 0), 0, 1, false, []⟩,
    ⟨some 22, none, .call 104 [.t 21, .k (.int .i64 3)] true false, 1, 0, true, []⟩,
    ⟨some 23, none, .bin .gtr (.t 22) (.k (.int .i64 0)), 2, 2, false, []⟩,
    ⟨some 24, none, .build [.int .i64 0, .bool false] [(0, 1, .t 20), (1, 1, .t 23)], 2, 2, false, []⟩,
    ⟨some 25, none, .mksl false 2 [.t 24], 2, 2, false, []⟩,
    ⟨some 26, none, .app 2 (.t 15) (.t 25), 2, 0, true, []⟩,
    ⟨some 5, none, .mov (.t 26), 3, 3, false, []⟩]
def D130x0 : List I := E130x0
theorem evD130x0 (run : Run) (e : Env) (h : Heap) : drawI run D130x0 e h = DrawW (evW run E130x0 e h []) run E130x0 e h := drawI_write run _ e h
def B130x0 : C := .seq (.seq (.seg false [⟨some 11, none, .mov (.t 6), 0, 0, false, []⟩,
    ⟨some 12, none, .bin .gtr (.t 11) (.k (.int .i64 0)), 0, 0, false, []⟩])
   (.cond (.t 12) (.skip)
   (.exit 0)))
   (.seq (.block 1 (.seg true D130x0))
   (.cutTo [0, 1, 5, 6] (.seg false [⟨some 13, none, .mov (.t 6), 0, 0, false, []⟩,
    ⟨some 14, none, .bin .sub (.t 13) (.k (.int .i64 1)), 0, 0, false, []⟩,
    ⟨some 6, none, .mov (.t 14), 0, 0, false, []⟩])))
def L130x0 : C := B130x0
theorem evL130x0 (run : Run) (draw : List I → Env → Heap → Option (Env × Heap)) (e : Env) (h : Heap) : evC run draw L130x0 e h = evC run draw B130x0 e h := rfl
/-- loop.example/tablehouse/spec.l20Columns -/
def F130 : F := ⟨40, [(false, 4, 0, false)],
   .seq (.seg false [⟨some 4, none, .nilrow 2, 0, 0, false, []⟩])
   (.seq (.seg false [⟨some 7, none, .mksl true 2 [], 0, 0, false, []⟩,
    ⟨some 5, none, .mov (.t 7), 0, 0, false, []⟩])
   (.seq (.seq (.seg false [⟨some 8, none, .mov (.t 0), 0, 0, false, []⟩,
    ⟨some 9, none, .call 104 [.t 8, .k (.int .i64 3)] true false, 0, 0, false, []⟩,
    ⟨some 10, none, .bin .add (.k (.int .i64 1)) (.t 9), 0, 0, false, []⟩,
    ⟨some 6, none, .mov (.t 10), 0, 0, false, []⟩])
   (.cutTo [0, 1, 5, 6] (.block 0 (.loop [0, 1, 5, 6] [0, 1, 5] L130x0))))
   (.cutTo [0, 1, 5] (.seq (.seq (.seg false [⟨some 27, none, .mov (.t 0), 0, 0, false, []⟩,
    ⟨some 28, none, .mov (.t 1), 0, 0, false, []⟩,
    ⟨some 29, none, .call 155 [.t 27, .t 28] true false, 0, 0, false, []⟩])
   (.cond (.t 29) (.seg false [⟨some 30, none, .mov (.t 5), 0, 0, false, []⟩,
    ⟨some 31, none, .mov (.t 0), 0, 0, false, []⟩,
    ⟨some 32, none, .call 104 [.t 31, .k (.int .i64 6)] true false, 0, 0, false, []⟩,
    ⟨some 33, none, .bin .sub (.t 32) (.k (.int .i64 1)), 0, 0, false, []⟩,
    ⟨some 34, none, .build [.int .i64 0, .bool false] [(0, 1, .t 33)], 0, 0, false, []⟩,
    ⟨some 35, none, .build [.int .i64 0, .bool false] [(0, 1, .k (.int .i64 1))], 0, 0, false, []⟩,
    ⟨some 36, none, .build [.int .i64 0, .bool false] [(0, 1, .k (.int .i64 1))], 0, 0, false, []⟩,
    ⟨some 37, none, .mksl false 2 [.t 34, .t 35, .t 36], 0, 0, false, []⟩,
    ⟨some 38, none, .app 2 (.t 30) (.t 37), 0, 0, false, []⟩,
    ⟨some 5, none, .mov (.t 38), 0, 0, false, []⟩])
   (.skip)))
   (.cutTo [5] (.seq (.seg false [⟨some 39, none, .mov (.t 5), 0, 0, false, []⟩,
    ⟨some 4, none, .mov (.t 39), 0, 0, false, []⟩])
   (.ret)))))))⟩
def B190x0 : C := .seq (.seq (.seg false [⟨some 10, none, .mov (.t 8), 0, 0, false, []⟩,
    ⟨some 11, none, .mov (.t 1), 0, 0, false, []⟩,
    ⟨some 12, none, .len false (.t 11), 0, 0, false, []⟩,
    ⟨some 13, none, .bin .lss (.t 10) (.t 12), 0, 0, false, []⟩])
   (.cutTo [0, 1, 2, 7, 8, 13] (.cond (.t 13) (.skip)
   (.exit 0))))
   (.cutTo [0, 1, 2, 7, 8] (.seq (.block 1 (.seg false [⟨some 16, none, .mov (.t 7), 0, 0, false, []⟩,
    ⟨some 17, none, .mov (.t 0), 0, 0, false, []⟩,
    ⟨some 18, none, .mov (.t 1), 0, 0, false, []⟩,
    ⟨some 19, none, .mov (.t 8), 0, 0, false, []⟩,
    ⟨some 20, none, .iaddr 2 (.t 18) (.t 19), 0, 0, false, []⟩,
    ⟨some 21, none, .load true 2 (.t 20), 0, 0, false, []⟩,
    ⟨some 22, none, .call 105 [.t 17, .t 21] true false, 0, 0, false, []⟩,
    ⟨some 23, none, .mksl false 3 [.t 22], 0, 0, false, []⟩,
    ⟨some 24, none, .app 3 (.t 16) (.t 23), 0, 0, false, []⟩,
    ⟨some 7, none, .mov (.t 24), 0, 0, false, []⟩]))
   (.cutTo [0, 1, 2, 7, 8] (.seg false [⟨some 14, none, .mov (.t 8), 0, 0, false, []⟩,
    ⟨some 15, none, .bin .add (.t 14) (.k (.int .i64 1)), 0, 0, false, []⟩,
    ⟨some 8, none, .mov (.t 15), 0, 0, false, []⟩]))))
def L190x0 : C := B190x0
theorem evL190x0 (run : Run) (draw : List I → Env → Heap → Option (Env × Heap)) (e : Env) (h : Heap) : evC run draw L190x0 e h = evC run draw B190x0 e h := rfl
/-- loop.example/tablehouse/spec.l20Fit -/
def F190 : F := ⟨59, [(false, 6, 0, false)],
   .seq (.seg false [⟨some 6, none, .nilrow 3, 0, 0, false, []⟩])
   (.seq (.seg false [⟨some 9, none, .mksl true 3 [], 0, 0, false, []⟩,
    ⟨some 7, none, .mov (.t 9), 0, 0, false, []⟩])
   (.seq (.seq (.seg false [⟨some 8, none, .mov (.k (.int .i64 0)), 0, 0, false, []⟩])
   (.block 0 (.loop [0, 1, 2, 7, 8] [0, 2, 7] L190x0)))
   (.seq (.seq (.seg false [⟨some 25, none, .mov (.t 0), 0, 0, false, []⟩,
    ⟨some 26, none, .mov (.t 2), 0, 0, false, []⟩,
    ⟨some 27, none, .call 155 [.t 25, .t 26] true false, 0, 0, false, []⟩])
   (.cond (.t 27) (.seq (.seg false [⟨some 28, none, .mov (.t 0), 0, 0, false, []⟩,
    ⟨some 29, none, .call 104 [.t 28, .k (.int .i64 3)] true false, 0, 0, false, []⟩])
   (.block 2 (.seq (.seg false [⟨some 40, none, .bin .eql (.t 29) (.k (.int .i64 0)), 0, 0, false, []⟩,
    ⟨some 39, none, .mov (.t 40), 0, 0, false, []⟩])
   (.cond (.t 39) (.seg false [⟨some 41, none, .mov (.t 7), 0, 0, false, []⟩,
    ⟨some 42, none, .build [.int .i64 0, .int .i64 0, .str ⟨#[]⟩] [], 0, 0, false, []⟩,
    ⟨some 43, none, .mksl false 3 [.t 42], 0, 0, false, []⟩,
    ⟨some 44, none, .app 3 (.t 41) (.t 43), 0, 0, false, []⟩,
    ⟨some 7, none, .mov (.t 44), 0, 0, false, []⟩])
   (.seq (.seg false [⟨some 46, none, .bin .eql (.t 29) (.k (.int .i64 1)), 0, 0, false, []⟩,
    ⟨some 45, none, .mov (.t 46), 0, 0, false, []⟩])
   (.cond (.t 45) (.seq (.seg false [⟨some 47, none, .mov (.t 7), 0, 0, false, []⟩,
    ⟨some 48, none, .len false (.t 47), 0, 0, false, []⟩,
    ⟨some 49, none, .bin .gtr (.t 48) (.k (.int .i64 0)), 0, 0, false, []⟩])
   (.cond (.t 49) (.seg false [⟨some 50, none, .mov (.t 7), 0, 0, false, []⟩,
    ⟨some 51, none, .mov (.t 0), 0, 0, false, []⟩,
    ⟨some 52, none, .mov (.t 7), 0, 0, false, []⟩,
    ⟨some 53, none, .len false (.t 52), 0, 0, false, []⟩,
    ⟨some 54, none, .call 104 [.t 51, .t 53] true false, 0, 0, false, []⟩,
    ⟨some 55, none, .mov (.t 0), 0, 0, false, []⟩,
    ⟨some 56, none, .call 145 [.t 55, .k (.int .i64 3)] true false, 0, 0, false, []⟩,
    ⟨some 57, none, .iaddr 3 (.t 50) (.t 54), 0, 0, false, []⟩,
    ⟨none, none, .store 3 (.t 57) (.t 56), 0, 0, false, []⟩])
   (.skip)))
   (.seg false [⟨some 30, none, .mov (.t 7), 0, 0, false, []⟩,
    ⟨some 31, none, .mov (.t 0), 0, 0, false, []⟩,
    ⟨some 32, none, .call 145 [.t 31, .k (.int .i64 0)] true false, 0, 0, false, []⟩,
    ⟨some 33, none, .mov (.t 0), 0, 0, false, []⟩,
    ⟨some 34, none, .call 145 [.t 33, .k (.int .i64 0)] true false, 0, 0, false, []⟩,
    ⟨some 35, none, .mov (.t 0), 0, 0, false, []⟩,
    ⟨some 36, none, .call 145 [.t 35, .k (.int .i64 0)] true false, 0, 0, false, []⟩,
    ⟨some 37, none, .mksl false 3 [.t 32, .t 34, .t 36], 0, 0, false, []⟩,
    ⟨some 38, none, .app 3 (.t 30) (.t 37), 0, 0, false, []⟩,
    ⟨some 7, none, .mov (.t 38), 0, 0, false, []⟩])))))))
   (.skip)))
   (.cutTo [7] (.seq (.seg false [⟨some 58, none, .mov (.t 7), 0, 0, false, []⟩,
    ⟨some 6, none, .mov (.t 58), 0, 0, false, []⟩])
   (.ret))))))⟩
def E146x0 : List I := [⟨some 16, none, .load true 8 (.t 7), 0, 1, false, []⟩,
    ⟨some 17, none, .mov (.t 0), 0, 0, false, []⟩,
    ⟨some 18, none, .mov (.t 2), 0, 0, false, []⟩,
    ⟨some 19, none, .build [.int .i64 0, .bool false] [(0, 1, .t 18)], 0, 0, false, []⟩,
    ⟨some 20, none, .call 105 [.t 17, .t 19] true false, 0, 0, true, []⟩,
    ⟨some 21, none, .call 92 [.t 20] false false, 1, 1, false, []⟩,
    ⟨some 22, none, .call 91 [.t 16, .t 21] false false, 1, 1, false, []⟩,
    ⟨none, none, .store 8 (.t 7) (.t 22), 1, 0, true, []⟩]
def D146x0 : List I := E146x0
theorem evD146x0 (run : Run) (e : Env) (h : Heap) : drawI run D146x0 e h = DrawW (evW run E146x0 e h []) run E146x0 e h := drawI_write run _ e h
def B146x0 : C := .seq (.seq (.seg false [⟨some 12, none, .mov (.t 8), 0, 0, false, []⟩,
    ⟨some 13, none, .bin .gtr (.t 12) (.k (.int .i64 0)), 0, 0, false, []⟩])
   (.cond (.t 13) (.skip)
   (.exit 0)))
   (.seq (.block 1 (.seg true D146x0))
   (.cutTo [0, 1, 2, 6, 7, 8] (.seg false [⟨some 14, none, .mov (.t 8), 0, 0, false, []⟩,
    ⟨some 15, none, .bin .sub (.t 14) (.k (.int .i64 1)), 0, 0, false, []⟩,
    ⟨some 8, none, .mov (.t 15), 0, 0, false, []⟩])))
def L146x0 : C := B146x0
theorem evL146x0 (run : Run) (draw : List I → Env → Heap → Option (Env × Heap)) (e : Env) (h : Heap) : evC run draw L146x0 e h = evC run draw B146x0 e h := rfl
/-- loop.example/tablehouse/spec.l20Known -/
def F146 : F := ⟨47, [(true, 6, 8, true)],
   .seq (.seg false [⟨some 6, none, .alloc [.int .i64 0, .int .i64 0, .int .i64 0, .int .i64 0, .str ⟨#[]⟩, .int .i64 0, .int .i64 0, .str ⟨#[]⟩], 0, 0, false, []⟩])
   (.seq (.seg false [⟨some 9, none, .build [.int .i64 0, .int .i64 0, .int .i64 0, .int .i64 0, .str ⟨#[]⟩, .int .i64 0, .int .i64 0, .str ⟨#[]⟩] [], 0, 0, false, []⟩,
    ⟨some 7, none, .alloc [.int .i64 0, .int .i64 0, .int .i64 0, .int .i64 0, .str ⟨#[]⟩, .int .i64 0, .int .i64 0, .str ⟨#[]⟩], 0, 0, false, []⟩,
    ⟨none, none, .store 8 (.t 7) (.t 9), 0, 0, false, []⟩])
   (.seq (.seq (.seg false [⟨some 10, none, .mov (.t 0), 0, 0, false, []⟩,
    ⟨some 11, none, .call 104 [.t 10, .k (.int .i64 4)] true false, 0, 0, false, []⟩,
    ⟨some 8, none, .mov (.t 11), 0, 0, false, []⟩])
   (.block 0 (.loop [0, 1, 2, 6, 7, 8] [0, 1, 6, 7] L146x0)))
   (.seq (.seq (.seg false [⟨some 23, none, .mov (.t 0), 0, 0, false, []⟩,
    ⟨some 24, none, .mov (.t 1), 0, 0, false, []⟩,
    ⟨some 25, none, .call 155 [.t 23, .t 24] true false, 0, 0, false, []⟩])
   (.cond (.t 25) (.seq (.seg false [⟨some 26, none, .mov (.t 0), 0, 0, false, []⟩,
    ⟨some 27, none, .call 104 [.t 26, .k (.int .i64 4)] true false, 0, 0, false, []⟩])
   (.block 2 (.seq (.seg false [⟨some 30, none, .bin .eql (.t 27) (.k (.int .i64 0)), 0, 0, false, []⟩,
    ⟨some 29, none, .mov (.t 30), 0, 0, false, []⟩])
   (.cond (.t 29) (.seg false [⟨some 31, none, .mov (.t 0), 0, 0, false, []⟩,
    ⟨some 32, none, .call 104 [.t 31, .k (.int .i64 3)] true false, 0, 0, false, []⟩,
    ⟨some 33, none, .bin .sub (.t 32) (.k (.int .i64 1)), 0, 0, false, []⟩,
    ⟨some 34, none, .faddr 0 1 (.t 7), 0, 0, false, []⟩,
    ⟨none, none, .store 1 (.t 34) (.t 33), 0, 0, false, []⟩])
   (.seq (.seg false [⟨some 36, none, .bin .eql (.t 27) (.k (.int .i64 1)), 0, 0, false, []⟩,
    ⟨some 35, none, .mov (.t 36), 0, 0, false, []⟩])
   (.cond (.t 35) (.seg false [⟨some 37, none, .faddr 1 1 (.t 7), 0, 0, false, []⟩,
    ⟨some 38, none, .load false 1 (.t 37), 0, 0, false, []⟩,
    ⟨some 39, none, .bin .add (.t 38) (.k (.int .i64 9000000)), 0, 0, false, []⟩,
    ⟨some 40, none, .faddr 1 1 (.t 7), 0, 0, false, []⟩,
    ⟨none, none, .store 1 (.t 40) (.t 39), 0, 0, false, []⟩])
   (.seq (.seg false [⟨some 42, none, .bin .eql (.t 27) (.k (.int .i64 2)), 0, 0, false, []⟩,
    ⟨some 41, none, .mov (.t 42), 0, 0, false, []⟩])
   (.cond (.t 41) (.seg false [⟨some 43, none, .mov (.t 0), 0, 0, false, []⟩,
    ⟨some 44, none, .call 145 [.t 43, .k (.int .i64 3)] true false, 0, 0, false, []⟩,
    ⟨some 45, none, .faddr 2 3 (.t 7), 0, 0, false, []⟩,
    ⟨none, none, .store 3 (.t 45) (.t 44), 0, 0, false, []⟩])
   (.seg false [⟨some 28, none, .faddr 0 1 (.t 7), 0, 0, false, []⟩,
    ⟨none, none, .store 1 (.t 28) (.k (.int .i64 101)), 0, 0, false, []⟩])))))))))
   (.skip)))
   (.cutTo [6, 7] (.seq (.seg false [⟨some 46, none, .load true 8 (.t 7), 0, 0, false, []⟩,
    ⟨none, none, .store 8 (.t 6) (.t 46), 0, 0, false, []⟩])
   (.ret))))))⟩
/-- loop.example/tablehouse/spec.l20Like -/
def F105 : F := ⟨31, [(true, 4, 3, true)],
   .seq (.seg false [⟨some 3, none, .box (.t 1), 0, 0, false, []⟩,
    ⟨some 4, none, .alloc [.int .i64 0, .int .i64 0, .str ⟨#[]⟩], 0, 0, false, []⟩])
   (.seq (.seq (.seg false [⟨some 5, none, .faddr 1 1 (.t 3), 0, 0, false, []⟩,
    ⟨some 6, none, .load false 1 (.t 5), 0, 0, false, []⟩,
    ⟨some 7, none, .mov (.t 6), 0, 0, false, []⟩,
    ⟨some 8, some (7, true), .mov (.t 0), 0, 0, false, []⟩,
    ⟨some 9, some (7, true), .call 104 [.t 8, .k (.int .i64 5)] true false, 0, 0, false, []⟩,
    ⟨some 10, some (7, true), .bin .eql (.t 9) (.k (.int .i64 0)), 0, 0, false, []⟩,
    ⟨some 11, none, .pick (.t 7) (.t 10) (.k (.bool false)), 0, 0, false, []⟩])
   (.cutTo [0, 3, 4, 11] (.cond (.t 11) (.seq (.seg false [⟨some 12, none, .build [.int .i64 0, .int .i64 0, .str ⟨#[]⟩] [], 0, 0, false, []⟩,
    ⟨none, none, .store 3 (.t 4) (.t 12), 0, 0, false, []⟩])
   (.ret))
   (.skip))))
   (.cutTo [0, 3, 4] (.seq (.seq (.seg false [⟨some 13, none, .faddr 0 1 (.t 3), 0, 0, false, []⟩,
    ⟨some 14, none, .load false 1 (.t 13), 0, 0, false, []⟩])
   (.block 0 (.seq (.seg false [⟨some 16, none, .bin .eql (.t 14) (.k (.int .i64 1)), 0, 0, false, []⟩,
    ⟨some 15, none, .mov (.t 16), 0, 0, false, []⟩])
   (.cond (.t 15) (.seq (.seg false [⟨some 17, none, .mov (.t 0), 0, 0, false, []⟩,
    ⟨some 18, none, .call 104 [.t 17, .k (.int .i64 4)] true false, 0, 0, false, []⟩,
    ⟨some 19, none, .build [.int .i64 0, .int .i64 0, .str ⟨#[]⟩] [(0, 1, .k (.int .i64 1)), (1, 1, .t 18)], 0, 0, false, []⟩,
    ⟨none, none, .store 3 (.t 4) (.t 19), 0, 0, false, []⟩])
   (.cutTo [4] (.ret)))
   (.seq (.seg false [⟨some 21, none, .bin .eql (.t 14) (.k (.int .i64 2)), 0, 0, false, []⟩,
    ⟨some 20, none, .mov (.t 21), 0, 0, false, []⟩])
   (.cond (.t 20) (.seq (.seg false [⟨some 22, none, .mksl false 1 [.k (.str ⟨#[]⟩), .k (.str ⟨#[97]⟩), .k (.str ⟨#[98]⟩), .k (.str ⟨#[97, 98]⟩)], 0, 0, false, []⟩,
    ⟨some 23, none, .mov (.t 0), 0, 0, false, []⟩,
    ⟨some 24, none, .call 104 [.t 23, .k (.int .i64 4)] true false, 0, 0, false, []⟩,
    ⟨some 25, none, .iaddr 1 (.t 22) (.t 24), 0, 0, false, []⟩,
    ⟨some 26, none, .load false 1 (.t 25), 0, 0, false, []⟩,
    ⟨some 27, none, .build [.int .i64 0, .int .i64 0, .str ⟨#[]⟩] [(0, 1, .k (.int .i64 2)), (2, 1, .t 26)], 0, 0, false, []⟩,
    ⟨none, none, .store 3 (.t 4) (.t 27), 0, 0, false, []⟩])
   (.cutTo [4] (.ret)))
   (.skip)))))))
   (.cutTo [0, 4] (.seq (.seg false [⟨some 28, none, .mov (.t 0), 0, 0, false, []⟩,
    ⟨some 29, none, .call 104 [.t 28, .k (.int .i64 2)] true false, 0, 0, false, []⟩,
    ⟨some 30, none, .build [.int .i64 0, .int .i64 0, .str ⟨#[]⟩] [(0, 1, .k (.int .i64 3)), (1, 1, .t 29)], 0, 0, false, []⟩,
    ⟨none, none, .store 3 (.t 4) (.t 30), 0, 0, false, []⟩])
   (.cutTo [4] (.ret)))))))⟩
/-- loop.example/tablehouse/spec.l20Open -/
def F76 : F := ⟨11, [(false, 2, 0, false)],
   .seq (.seg false [⟨some 2, none, .mov (.k .undef), 0, 0, false, []⟩])
   (.seq (.seq (.seg false [⟨some 3, none, .mov (.t 0), 0, 0, false, []⟩,
    ⟨some 4, none, .len false (.t 3), 0, 0, false, []⟩,
    ⟨some 5, none, .bin .gtr (.t 4) (.k (.int .i64 2000)), 0, 0, false, []⟩])
   (.cond (.t 5) (.seg false [⟨some 6, none, .mov (.t 0), 0, 0, false, []⟩,
    ⟨some 7, none, .slc false 1 (.t 6) none (some (.k (.int .i64 2000))) none, 0, 0, false, []⟩,
    ⟨some 0, none, .mov (.t 7), 0, 0, false, []⟩])
   (.skip)))
   (.cutTo [0] (.seq (.seg false [⟨some 8, none, .mov (.t 0), 0, 0, false, []⟩,
    ⟨some 9, none, .build [.sl true 1 [], .int .i64 0] [(0, 1, .t 8)], 0, 0, false, []⟩,
    ⟨some 10, none, .box (.t 9), 0, 0, false, []⟩,
    ⟨some 2, none, .mov (.t 10), 0, 0, false, []⟩])
   (.cutTo [2] (.ret)))))⟩
def E145x0 : List I := [⟨some 42, none, .faddr 2 1 (.t 5), 0, 1, false, []⟩,
    ⟨some 43, none, .load false 1 (.t 42), 0, 1, false, []⟩,
    ⟨some 44, none, .mov (.t 0), 0, 0, false, []⟩,
    ⟨some 45, none, .call 104 [.t 44, .k (.int .i64 3)] true false, 0, 0, true, []⟩,
    ⟨some 46, none, .bin .add (.k (.int .i64 97)) (.t 45), 1, 1, false, []⟩,
    ⟨some 47, none, .conv (.int .u8) (.t 46), 1, 1, false, []⟩,
    ⟨some 48, none, .mksl false 1 [.t 47], 1, 1, false, []⟩,
    ⟨some 49, none, .conv .toStr (.t 48), 1, 1, false, []⟩,
    ⟨some 50, none, .bin .add (.t 43) (.t 49), 1, 1, false, []⟩,
    ⟨some 51, none, .faddr 2 1 (.t 5), 1, 1, false, []⟩,
    ⟨none, none, .store 1 (.t 51) (.t 50), 1, 0, true, []⟩]
def D145x0 : List I := E145x0
theorem evD145x0 (run : Run) (e : Env) (h : Heap) : drawI run D145x0 e h = DrawW (evW run E145x0 e h []) run E145x0 e h := drawI_write run _ e h
def B145x0 : C := .seq (.seq (.seg false [⟨some 38, none, .mov (.t 6), 0, 0, false, []⟩,
    ⟨some 39, none, .bin .gtr (.t 38) (.k (.int .i64 0)), 0, 0, false, []⟩])
   (.cond (.t 39) (.skip)
   (.exit 1)))
   (.seq (.block 2 (.seg true D145x0))
   (.cutTo [0, 1, 4, 5, 6] (.seg false [⟨some 40, none, .mov (.t 6), 0, 0, false, []⟩,
    ⟨some 41, none, .bin .sub (.t 40) (.k (.int .i64 1)), 0, 0, false, []⟩,
    ⟨some 6, none, .mov (.t 41), 0, 0, false, []⟩])))
def L145x0 : C := B145x0
theorem evL145x0 (run : Run) (draw : List I → Env → Heap → Option (Env × Heap)) (e : Env) (h : Heap) : evC run draw L145x0 e h = evC run draw B145x0 e h := rfl
/-- loop.example/tablehouse/spec.l20Value -/
def F145 : F := ⟨77, [(true, 4, 3, true)],
   .seq (.seg false [⟨some 4, none, .alloc [.int .i64 0, .int .i64 0, .str ⟨#[]⟩], 0, 0, false, []⟩])
   (.seq (.seg false [⟨some 7, none, .build [.int .i64 0, .int .i64 0, .str ⟨#[]⟩] [], 0, 0, false, []⟩,
    ⟨some 5, none, .alloc [.int .i64 0, .int .i64 0, .str ⟨#[]⟩], 0, 0, false, []⟩,
    ⟨none, none, .store 3 (.t 5) (.t 7), 0, 0, false, []⟩])
   (.seq (.seq (.seg false [⟨some 8, none, .mov (.t 0), 0, 0, false, []⟩,
    ⟨some 9, none, .call 104 [.t 8, .k (.int .i64 7)] true false, 0, 0, false, []⟩])
   (.block 0 (.seq (.seg false [⟨some 14, none, .bin .eql (.t 9) (.k (.int .i64 0)), 0, 0, false, []⟩,
    ⟨some 13, none, .mov (.t 14), 0, 0, false, []⟩])
   (.cond (.t 13) (.skip)
   (.seq (.seq (.seg false [⟨some 16, none, .bin .eql (.t 9) (.k (.int .i64 1)), 0, 0, false, []⟩,
    ⟨some 15, none, .mov (.t 16), 0, 0, false, []⟩])
   (.cond (.t 15) (.skip)
   (.seq (.seg false [⟨some 17, none, .bin .eql (.t 9) (.k (.int .i64 2)), 0, 0, false, []⟩,
    ⟨some 15, none, .mov (.t 17), 0, 0, false, []⟩])
   (.cond (.t 15) (.skip)
   (.seg false [⟨some 18, none, .bin .eql (.t 9) (.k (.int .i64 3)), 0, 0, false, []⟩,
    ⟨some 15, none, .mov (.t 18), 0, 0, false, []⟩])))))
   (.cutTo [0, 1, 4, 5, 9, 15] (.cond (.t 15) (.seq (.seg false [⟨some 19, none, .mov (.t 0), 0, 0, false, []⟩,
    ⟨some 20, none, .call 104 [.t 19, .k (.int .i64 7)] true false, 0, 0, false, []⟩,
    ⟨some 21, none, .bin .sub (.t 20) (.k (.int .i64 3)), 0, 0, false, []⟩,
    ⟨some 22, none, .build [.int .i64 0, .int .i64 0, .str ⟨#[]⟩] [(0, 1, .k (.int .i64 1)), (1, 1, .t 21)], 0, 0, false, []⟩,
    ⟨none, none, .store 3 (.t 5) (.t 22), 0, 0, false, []⟩])
   (.cutTo [0, 1, 4, 5] (.seq (.seg false [⟨some 23, none, .mov (.t 0), 0, 0, false, []⟩,
    ⟨some 24, none, .call 104 [.t 23, .k (.int .i64 8)] true false, 0, 0, false, []⟩,
    ⟨some 25, none, .bin .eql (.t 24) (.k (.int .i64 0)), 0, 0, false, []⟩])
   (.cond (.t 25) (.seg false [⟨some 26, none, .mksl false 1 [.k (.int .i64 9999), .k (.int .i64 (-9999)), .k (.int .i64 255), .k (.int .i64 256), .k (.int .i64 (-256))], 0, 0, false, []⟩,
    ⟨some 27, none, .mov (.t 0), 0, 0, false, []⟩,
    ⟨some 28, none, .call 104 [.t 27, .k (.int .i64 5)] true false, 0, 0, false, []⟩,
    ⟨some 29, none, .iaddr 1 (.t 26) (.t 28), 0, 0, false, []⟩,
    ⟨some 30, none, .load false 1 (.t 29), 0, 0, false, []⟩,
    ⟨some 31, none, .faddr 1 1 (.t 5), 0, 0, false, []⟩,
    ⟨none, none, .store 1 (.t 31) (.t 30), 0, 0, false, []⟩])
   (.skip)))))
   (.seq (.seq (.seg false [⟨some 33, none, .bin .eql (.t 9) (.k (.int .i64 4)), 0, 0, false, []⟩,
    ⟨some 32, none, .mov (.t 33), 0, 0, false, []⟩])
   (.cond (.t 32) (.skip)
   (.seg false [⟨some 34, none, .bin .eql (.t 9) (.k (.int .i64 5)), 0, 0, false, []⟩,
    ⟨some 32, none, .mov (.t 34), 0, 0, false, []⟩])))
   (.cutTo [0, 1, 4, 5, 32] (.cond (.t 32) (.seq (.seg false [⟨some 35, none, .build [.int .i64 0, .int .i64 0, .str ⟨#[]⟩] [(0, 1, .k (.int .i64 2))], 0, 0, false, []⟩,
    ⟨none, none, .store 3 (.t 5) (.t 35), 0, 0, false, []⟩])
   (.seq (.seg false [⟨some 36, none, .mov (.t 0), 0, 0, false, []⟩,
    ⟨some 37, none, .call 104 [.t 36, .k (.int .i64 4)] true false, 0, 0, false, []⟩,
    ⟨some 6, none, .mov (.t 37), 0, 0, false, []⟩])
   (.block 1 (.loop [0, 1, 4, 5, 6] [0, 1, 4, 5] L145x0))))
   (.seg false [⟨some 10, none, .mov (.t 0), 0, 0, false, []⟩,
    ⟨some 11, none, .call 104 [.t 10, .k (.int .i64 2)] true false, 0, 0, false, []⟩,
    ⟨some 12, none, .build [.int .i64 0, .int .i64 0, .str ⟨#[]⟩] [(0, 1, .k (.int .i64 3)), (1, 1, .t 11)], 0, 0, false, []⟩,
    ⟨none, none, .store 3 (.t 5) (.t 12), 0, 0, false, []⟩])))))))))))
   (.cutTo [0, 1, 4, 5] (.seq (.seq (.seg false [⟨some 52, none, .mov (.t 0), 0, 0, false, []⟩,
    ⟨some 53, none, .mov (.t 1), 0, 0, false, []⟩,
    ⟨some 54, none, .call 155 [.t 52, .t 53] true false, 0, 0, false, []⟩])
   (.cond (.t 54) (.seq (.seg false [⟨some 55, none, .mov (.t 0), 0, 0, false, []⟩,
    ⟨some 56, none, .call 104 [.t 55, .k (.int .i64 4)] true false, 0, 0, false, []⟩])
   (.block 3 (.seq (.seg false [⟨some 62, none, .bin .eql (.t 56) (.k (.int .i64 0)), 0, 0, false, []⟩,
    ⟨some 61, none, .mov (.t 62), 0, 0, false, []⟩])
   (.cond (.t 61) (.seg false [⟨some 63, none, .faddr 1 1 (.t 5), 0, 0, false, []⟩,
    ⟨none, none, .store 1 (.t 63) (.k (.int .i64 10000)), 0, 0, false, []⟩])
   (.seq (.seg false [⟨some 65, none, .bin .eql (.t 56) (.k (.int .i64 1)), 0, 0, false, []⟩,
    ⟨some 64, none, .mov (.t 65), 0, 0, false, []⟩])
   (.cond (.t 64) (.seg false [⟨some 66, none, .faddr 2 1 (.t 5), 0, 0, false, []⟩,
    ⟨some 67, none, .load false 1 (.t 66), 0, 0, false, []⟩,
    ⟨some 68, none, .bin .add (.t 67) (.k (.str ⟨#[97, 98, 99, 100, 101, 102, 103]⟩)), 0, 0, false, []⟩,
    ⟨some 69, none, .faddr 2 1 (.t 5), 0, 0, false, []⟩,
    ⟨none, none, .store 1 (.t 69) (.t 68), 0, 0, false, []⟩])
   (.seq (.seg false [⟨some 71, none, .bin .eql (.t 56) (.k (.int .i64 2)), 0, 0, false, []⟩,
    ⟨some 70, none, .mov (.t 71), 0, 0, false, []⟩])
   (.cond (.t 70) (.seg false [⟨some 72, none, .mov (.t 0), 0, 0, false, []⟩,
    ⟨some 73, none, .call 104 [.t 72, .k (.int .i64 7)] true false, 0, 0, false, []⟩,
    ⟨some 74, none, .bin .sub (.t 73) (.k (.int .i64 1)), 0, 0, false, []⟩,
    ⟨some 75, none, .faddr 0 1 (.t 5), 0, 0, false, []⟩,
    ⟨none, none, .store 1 (.t 75) (.t 74), 0, 0, false, []⟩])
   (.seg false [⟨some 57, none, .faddr 2 1 (.t 5), 0, 0, false, []⟩,
    ⟨some 58, none, .load false 1 (.t 57), 0, 0, false, []⟩,
    ⟨some 59, none, .bin .add (.t 58) (.k (.str ⟨#[65]⟩)), 0, 0, false, []⟩,
    ⟨some 60, none, .faddr 2 1 (.t 5), 0, 0, false, []⟩,
    ⟨none, none, .store 1 (.t 60) (.t 59), 0, 0, false, []⟩])))))))))
   (.skip)))
   (.cutTo [4, 5] (.seq (.seg false [⟨some 76, none, .load true 3 (.t 5), 0, 0, false, []⟩,
    ⟨none, none, .store 3 (.t 4) (.t 76), 0, 0, false, []⟩])
   (.ret)))))))⟩
/-- loop.example/tablehouse/spec.l3Own -/
def F126 : F := ⟨6, [(false, 2, 0, false)],
   .seq (.seg false [⟨some 2, none, .nilrow 3, 0, 0, false, []⟩])
   (.seq (.seg false [⟨some 3, none, .mksl true 3 [], 0, 0, false, []⟩,
    ⟨some 4, none, .mov (.t 0), 0, 0, false, []⟩,
    ⟨some 5, none, .app 3 (.t 3) (.t 4), 0, 0, false, []⟩,
    ⟨some 2, none, .mov (.t 5), 0, 0, false, []⟩])
   (.cutTo [2] (.ret)))⟩
/-- loop.example/tablehouse/impl.KnownOk -/
def F18 : F := ⟨67, [(false, 2, 0, false)],
   .seq (.seg false [⟨some 1, none, .box (.t 0), 0, 0, false, []⟩,
    ⟨some 2, none, .mov (.k (.bool false)), 0, 0, false, []⟩])
   (.seq (.seq (.seg false [⟨some 3, none, .faddr 0 1 (.t 1), 0, 0, false, []⟩,
    ⟨some 4, none, .load false 1 (.t 3), 0, 0, false, []⟩,
    ⟨some 5, none, .bin .eql (.t 4) (.k (.int .i64 0)), 0, 0, false, []⟩])
   (.cond (.t 5) (.seq (.seg false [⟨some 6, none, .load true 8 (.t 1), 0, 0, false, []⟩,
    ⟨some 7, none, .build [.int .i64 0, .int .i64 0, .int .i64 0, .int .i64 0, .str ⟨#[]⟩, .int .i64 0, .int .i64 0, .str ⟨#[]⟩] [], 0, 0, false, []⟩,
    ⟨some 8, none, .eqs false [.int, .int, .int, .int, .str, .int, .int, .str] (.t 6) (.t 7), 0, 0, false, []⟩,
    ⟨some 2, none, .mov (.t 8), 0, 0, false, []⟩])
   (.cutTo [2] (.ret)))
   (.skip)))
   (.cutTo [1] (.seq (.seg false [⟨some 9, none, .faddr 0 1 (.t 1), 0, 0, false, []⟩,
    ⟨some 10, none, .load false 1 (.t 9), 0, 0, false, []⟩,
    ⟨some 11, none, .call 82 [.t 10, .k (.int .i64 1), .k (.int .i64 100)] false false, 0, 0, false, []⟩,
    ⟨some 12, none, .mov (.t 11), 0, 0, false, []⟩,
    ⟨some 13, some (12, true), .faddr 1 1 (.t 1), 0, 0, false, []⟩,
    ⟨some 14, some (12, true), .load false 1 (.t 13), 0, 0, false, []⟩,
    ⟨some 15, some (12, true), .faddr 0 1 (.t 1), 0, 0, false, []⟩,
    ⟨some 16, some (12, true), .load false 1 (.t 15), 0, 0, false, []⟩,
    ⟨some 17, some (12, true), .bin .mul (.k (.int .i64 (-9999))) (.t 16), 0, 0, false, []⟩,
    ⟨some 18, some (12, true), .faddr 0 1 (.t 1), 0, 0, false, []⟩,
    ⟨some 19, some (12, true), .load false 1 (.t 18), 0, 0, false, []⟩,
    ⟨some 20, some (12, true), .bin .mul (.k (.int .i64 9999)) (.t 19), 0, 0, false, []⟩,
    ⟨some 21, some (12, true), .call 82 [.t 14, .t 17, .t 20] false false, 0, 0, false, []⟩,
    ⟨some 22, none, .pick (.t 12) (.t 21) (.k (.bool false)), 0, 0, false, []⟩,
    ⟨some 23, none, .mov (.t 22), 0, 0, false, []⟩,
    ⟨some 24, some (23, true), .faddr 2 3 (.t 1), 0, 0, false, []⟩,
    ⟨some 25, some (23, true), .load true 3 (.t 24), 0, 0, false, []⟩,
    ⟨some 26, some (23, true), .call 83 [.t 25] false false, 0, 0, false, []⟩,
    ⟨some 27, none, .pick (.t 23) (.t 26) (.k (.bool false)), 0, 0, false, []⟩,
    ⟨some 28, none, .mov (.t 27), 0, 0, false, []⟩,
    ⟨some 29, some (28, true), .faddr 5 3 (.t 1), 0, 0, false, []⟩,
    ⟨some 30, some (28, true), .load true 3 (.t 29), 0, 0, false, []⟩,
    ⟨some 31, some (28, true), .call 83 [.t 30] false false, 0, 0, false, []⟩,
    ⟨some 32, none, .pick (.t 28) (.t 31) (.k (.bool false)), 0, 0, false, []⟩,
    ⟨some 33, none, .mov (.t 32), 0, 0, false, []⟩,
    ⟨some 34, some (33, true), .faddr 2 3 (.t 1), 0, 0, false, []⟩,
    ⟨some 35, some (33, true), .faddr 0 1 (.t 34), 0, 0, false, []⟩,
    ⟨some 36, some (33, true), .load false 1 (.t 35), 0, 0, false, []⟩,
    ⟨some 37, some (33, true), .faddr 5 3 (.t 1), 0, 0, false, []⟩,
    ⟨some 38, some (33, true), .faddr 0 1 (.t 37), 0, 0, false, []⟩,
    ⟨some 39, some (33, true), .load false 1 (.t 38), 0, 0, false, []⟩,
    ⟨some 40, some (33, true), .bin .eql (.t 36) (.t 39), 0, 0, false, []⟩,
    ⟨some 41, none, .pick (.t 33) (.t 40) (.k (.bool false)), 0, 0, false, []⟩,
    ⟨some 42, none, .mov (.t 41), 0, 0, false, []⟩,
    ⟨some 43, some (42, true), .faddr 2 3 (.t 1), 0, 0, false, []⟩,
    ⟨some 44, some (42, true), .faddr 0 1 (.t 43), 0, 0, false, []⟩,
    ⟨some 45, some (42, true), .load false 1 (.t 44), 0, 0, false, []⟩,
    ⟨some 46, some (42, true), .bin .neq (.t 45) (.k (.int .i64 0)), 0, 0, false, []⟩,
    ⟨some 47, none, .pick (.t 42) (.t 46) (.k (.bool false)), 0, 0, false, []⟩,
    ⟨some 48, none, .mov (.t 47), 0, 0, false, []⟩,
    ⟨some 49, some (48, true), .faddr 2 3 (.t 1), 0, 0, false, []⟩,
    ⟨some 50, some (48, true), .load true 3 (.t 49), 0, 0, false, []⟩,
    ⟨some 51, some (48, true), .faddr 5 3 (.t 1), 0, 0, false, []⟩,
    ⟨some 52, some (48, true), .load true 3 (.t 51), 0, 0, false, []⟩,
    ⟨some 53, some (48, true), .call 78 [.t 50, .t 52] false false, 0, 0, false, []⟩,
    ⟨some 54, some (48, true), .bin .leq (.t 53) (.k (.int .i64 0)), 0, 0, false, []⟩,
    ⟨some 55, none, .pick (.t 48) (.t 54) (.k (.bool false)), 0, 0, false, []⟩,
    ⟨some 56, none, .mov (.t 55), 0, 0, false, []⟩,
    ⟨some 57, some (56, true), .faddr 2 3 (.t 1), 0, 0, false, []⟩,
    ⟨some 58, some (56, true), .faddr 0 1 (.t 57), 0, 0, false, []⟩,
    ⟨some 59, some (56, true), .load false 1 (.t 58), 0, 0, false, []⟩,
    ⟨some 60, some (56, true), .bin .eql (.t 59) (.k (.int .i64 1)), 0, 0, false, []⟩,
    ⟨some 61, some (56, true), .mov (.t 60), 0, 0, false, []⟩,
    ⟨some 62, some (61, false), .faddr 1 1 (.t 1), 0, 0, false, []⟩,
    ⟨some 63, some (61, false), .load false 1 (.t 62), 0, 0, false, []⟩,
    ⟨some 64, some (61, false), .bin .eql (.t 63) (.k (.int .i64 0)), 0, 0, false, []⟩,
    ⟨some 65, some (56, true), .pick (.t 61) (.k (.bool true)) (.t 64), 0, 0, false, []⟩,
    ⟨some 66, none, .pick (.t 56) (.t 65) (.k (.bool false)), 0, 0, false, []⟩,
    ⟨some 2, none, .mov (.t 66), 0, 0, false, []⟩])
   (.cutTo [2] (.ret)))))⟩
/-- cmp.Compare<int> -/
def F148 : F := ⟨20, [(false, 4, 0, false)],
   .seq (.seg false [⟨some 4, none, .mov (.k (.int .i64 0)), 0, 0, false, []⟩])
   (.seq (.seg false [⟨some 7, none, .mov (.t 0), 0, 0, false, []⟩,
    ⟨some 8, none, .call 188 [.t 7] false false, 0, 0, false, []⟩,
    ⟨some 5, none, .mov (.t 8), 0, 0, false, []⟩])
   (.seq (.seg false [⟨some 9, none, .mov (.t 1), 0, 0, false, []⟩,
    ⟨some 10, none, .call 188 [.t 9] false false, 0, 0, false, []⟩,
    ⟨some 6, none, .mov (.t 10), 0, 0, false, []⟩])
   (.seq (.seq (.seg false [⟨some 11, none, .mov (.t 5), 0, 0, false, []⟩])
   (.cond (.t 11) (.seq (.seq (.seg false [⟨some 12, none, .mov (.t 6), 0, 0, false, []⟩])
   (.cond (.t 12) (.seq (.seg false [⟨some 4, none, .mov (.k (.int .i64 0)), 0, 0, false, []⟩])
   (.ret))
   (.skip)))
   (.seq (.seg false [⟨some 4, none, .mov (.k (.int .i64 (-1))), 0, 0, false, []⟩])
   (.ret)))
   (.skip)))
   (.cutTo [0, 1, 6] (.seq (.seq (.seg false [⟨some 13, none, .mov (.t 6), 0, 0, false, []⟩])
   (.cond (.t 13) (.seq (.seg false [⟨some 4, none, .mov (.k (.int .i64 1)), 0, 0, false, []⟩])
   (.ret))
   (.skip)))
   (.seq (.seq (.seg false [⟨some 14, none, .mov (.t 0), 0, 0, false, []⟩,
    ⟨some 15, none, .mov (.t 1), 0, 0, false, []⟩,
    ⟨some 16, none, .bin .lss (.t 14) (.t 15), 0, 0, false, []⟩])
   (.cond (.t 16) (.seq (.seg false [⟨some 4, none, .mov (.k (.int .i64 (-1))), 0, 0, false, []⟩])
   (.ret))
   (.skip)))
   (.cutTo [0, 1] (.seq (.seq (.seg false [⟨some 17, none, .mov (.t 0), 0, 0, false, []⟩,
    ⟨some 18, none, .mov (.t 1), 0, 0, false, []⟩,
    ⟨some 19, none, .bin .gtr (.t 17) (.t 18), 0, 0, false, []⟩])
   (.cond (.t 19) (.seq (.seg false [⟨some 4, none, .mov (.k (.int .i64 1)), 0, 0, false, []⟩])
   (.ret))
   (.skip)))
   (.cutTo [] (.seq (.seg false [⟨some 4, none, .mov (.k (.int .i64 0)), 0, 0, false, []⟩])
   (.ret)))))))))))⟩
/-- cmp.Compare<string> -/
def F149 : F := ⟨20, [(false, 4, 0, false)],
   .seq (.seg false [⟨some 4, none, .mov (.k (.int .i64 0)), 0, 0, false, []⟩])
   (.seq (.seg false [⟨some 7, none, .mov (.t 0), 0, 0, false, []⟩,
    ⟨some 8, none, .call 189 [.t 7] false false, 0, 0, false, []⟩,
    ⟨some 5, none, .mov (.t 8), 0, 0, false, []⟩])
   (.seq (.seg false [⟨some 9, none, .mov (.t 1), 0, 0, false, []⟩,
    ⟨some 10, none, .call 189 [.t 9] false false, 0, 0, false, []⟩,
    ⟨some 6, none, .mov (.t 10), 0, 0, false, []⟩])
   (.seq (.seq (.seg false [⟨some 11, none, .mov (.t 5), 0, 0, false, []⟩])
   (.cond (.t 11) (.seq (.seq (.seg false [⟨some 12, none, .mov (.t 6), 0, 0, false, []⟩])
   (.cond (.t 12) (.seq (.seg false [⟨some 4, none, .mov (.k (.int .i64 0)), 0, 0, false, []⟩])
   (.ret))
   (.skip)))
   (.seq (.seg false [⟨some 4, none, .mov (.k (.int .i64 (-1))), 0, 0, false, []⟩])
   (.ret)))
   (.skip)))
   (.cutTo [0, 1, 6] (.seq (.seq (.seg false [⟨some 13, none, .mov (.t 6), 0, 0, false, []⟩])
   (.cond (.t 13) (.seq (.seg false [⟨some 4, none, .mov (.k (.int .i64 1)), 0, 0, false, []⟩])
   (.ret))
   (.skip)))
   (.seq (.seq (.seg false [⟨some 14, none, .mov (.t 0), 0, 0, false, []⟩,
    ⟨some 15, none, .mov (.t 1), 0, 0, false, []⟩,
    ⟨some 16, none, .bin .lss (.t 14) (.t 15), 0, 0, false, []⟩])
   (.cond (.t 16) (.seq (.seg false [⟨some 4, none, .mov (.k (.int .i64 (-1))), 0, 0, false, []⟩])
   (.ret))
   (.skip)))
   (.cutTo [0, 1] (.seq (.seq (.seg false [⟨some 17, none, .mov (.t 0), 0, 0, false, []⟩,
    ⟨some 18, none, .mov (.t 1), 0, 0, false, []⟩,
    ⟨some 19, none, .bin .gtr (.t 17) (.t 18), 0, 0, false, []⟩])
   (.cond (.t 19) (.seq (.seg false [⟨some 4, none, .mov (.k (.int .i64 1)), 0, 0, false, []⟩])
   (.ret))
   (.skip)))
   (.cutTo [] (.seq (.seg false [⟨some 4, none, .mov (.k (.int .i64 0)), 0, 0, false, []⟩])
   (.ret)))))))))))⟩
def B147x0 : C := .seq (.seg false [⟨some 9, none, .bin .lss (.t 8) (.t 7), 0, 0, false, []⟩])
   (.seq (.cond (.t 9) (.skip)
   (.exit 0))
   (.seq (.block 1 (.seq (.seg false [⟨some 10, none, .iaddr 1 (.t 6) (.t 8), 0, 0, false, []⟩,
    ⟨some 11, none, .load false 1 (.t 10), 0, 0, false, []⟩,
    ⟨some 5, none, .mov (.t 11), 0, 0, false, []⟩])
   (.seq (.seg false [⟨some 12, none, .mov (.t 5), 0, 0, false, []⟩,
    ⟨some 13, none, .mov (.t 3), 0, 0, false, []⟩,
    ⟨some 14, none, .bin .neq (.t 12) (.t 13), 0, 0, false, []⟩])
   (.cond (.t 14) (.seq (.seg false [⟨some 15, none, .mov (.t 5), 0, 0, false, []⟩,
    ⟨some 2, none, .mov (.t 15), 0, 0, false, []⟩])
   (.ret))
   (.skip)))))
   (.cutTo [3, 6, 7, 8] (.seg false [⟨some 16, none, .bin .add (.t 8) (.k (.int .i64 1)), 0, 0, false, []⟩,
    ⟨some 8, none, .mov (.t 16), 0, 0, false, []⟩]))))
def L147x0 : C := B147x0
theorem evL147x0 (run : Run) (draw : List I → Env → Heap → Option (Env × Heap)) (e : Env) (h : Heap) : evC run draw L147x0 e h = evC run draw B147x0 e h := rfl
/-- cmp.Or<int> -/
def F147 : F := ⟨18, [(false, 2, 0, false)],
   .seq (.seg false [⟨some 2, none, .mov (.k (.int .i64 0)), 0, 0, false, []⟩])
   (.seq (.seg false [⟨some 3, none, .mov (.k (.int .i64 0)), 0, 0, false, []⟩])
   (.seq (.seq (.seg false [⟨some 6, none, .mov (.t 0), 0, 0, false, []⟩,
    ⟨some 7, none, .len false (.t 6), 0, 0, false, []⟩,
    ⟨some 8, none, .mov (.k (.int .i64 0)), 0, 0, false, []⟩])
   (.block 0 (.loop [3, 6, 7, 8] [2, 3] L147x0)))
   (.seq (.seg false [⟨some 17, none, .mov (.t 3), 0, 0, false, []⟩,
    ⟨some 2, none, .mov (.t 17), 0, 0, false, []⟩])
   (.ret))))⟩
/-- slices.ContainsFunc<<>loop.example/tablehouse/impl.Column,loop.example/tablehouse/impl.Column> -/
def F157 : F := ⟨9, [(false, 4, 0, false)],
   .seq (.seg false [⟨some 4, none, .mov (.k (.bool false)), 0, 0, false, []⟩])
   (.seq (.seg false [⟨some 5, none, .mov (.t 0), 0, 0, false, []⟩,
    ⟨some 6, none, .mov (.t 1), 0, 0, false, []⟩,
    ⟨some 7, none, .call 191 [.t 5, .t 6] true false, 0, 0, false, []⟩,
    ⟨some 8, none, .bin .geq (.t 7) (.k (.int .i64 0)), 0, 0, false, []⟩,
    ⟨some 4, none, .mov (.t 8), 0, 0, false, []⟩])
   (.cutTo [4] (.ret)))⟩
/-- slices.ContainsFunc<<>loop.example/tablehouse/impl.Value,loop.example/tablehouse/impl.Value> -/
def F176 : F := ⟨9, [(false, 4, 0, false)],
   .seq (.seg false [⟨some 4, none, .mov (.k (.bool false)), 0, 0, false, []⟩])
   (.seq (.seg false [⟨some 5, none, .mov (.t 0), 0, 0, false, []⟩,
    ⟨some 6, none, .mov (.t 1), 0, 0, false, []⟩,
    ⟨some 7, none, .call 199 [.t 5, .t 6] true false, 0, 0, false, []⟩,
    ⟨some 8, none, .bin .geq (.t 7) (.k (.int .i64 0)), 0, 0, false, []⟩,
    ⟨some 4, none, .mov (.t 8), 0, 0, false, []⟩])
   (.cutTo [4] (.ret)))⟩
/-- slices.ContainsFunc<<><>loop.example/tablehouse/impl.Value,<>loop.example/tablehouse/impl.Value> -/
def F93 : F := ⟨9, [(false, 4, 0, false)],
   .seq (.seg false [⟨some 4, none, .mov (.k (.bool false)), 0, 0, false, []⟩])
   (.seq (.seg false [⟨some 5, none, .mov (.t 0), 0, 0, false, []⟩,
    ⟨some 6, none, .mov (.t 1), 0, 0, false, []⟩,
    ⟨some 7, none, .call 162 [.t 5, .t 6] true false, 0, 0, false, []⟩,
    ⟨some 8, none, .bin .geq (.t 7) (.k (.int .i64 0)), 0, 0, false, []⟩,
    ⟨some 4, none, .mov (.t 8), 0, 0, false, []⟩])
   (.cutTo [4] (.ret)))⟩
/-- loop.example/tablehouse/laws.eqKnown -/
def F36 : F := ⟨27, [(false, 4, 0, false)],
   .seq (.seg false [⟨some 2, none, .box (.t 0), 0, 0, false, []⟩,
    ⟨some 3, none, .box (.t 1), 0, 0, false, []⟩,
    ⟨some 4, none, .mov (.k (.bool false)), 0, 0, false, []⟩])
   (.seq (.seq (.seg false [⟨some 5, none, .faddr 0 1 (.t 2), 0, 0, false, []⟩,
    ⟨some 6, none, .load false 1 (.t 5), 0, 0, false, []⟩,
    ⟨some 7, none, .faddr 0 1 (.t 3), 0, 0, false, []⟩,
    ⟨some 8, none, .load false 1 (.t 7), 0, 0, false, []⟩,
    ⟨some 9, none, .bin .neq (.t 6) (.t 8), 0, 0, false, []⟩])
   (.cutTo [2, 3, 9] (.cond (.t 9) (.seq (.seg false [⟨some 4, none, .mov (.k (.bool false)), 0, 0, false, []⟩])
   (.ret))
   (.skip))))
   (.cutTo [2, 3] (.seq (.seq (.seg false [⟨some 10, none, .faddr 1 1 (.t 2), 0, 0, false, []⟩,
    ⟨some 11, none, .load false 1 (.t 10), 0, 0, false, []⟩,
    ⟨some 12, none, .faddr 1 1 (.t 3), 0, 0, false, []⟩,
    ⟨some 13, none, .load false 1 (.t 12), 0, 0, false, []⟩,
    ⟨some 14, none, .bin .neq (.t 11) (.t 13), 0, 0, false, []⟩])
   (.cutTo [2, 3, 14] (.cond (.t 14) (.seq (.seg false [⟨some 4, none, .mov (.k (.bool false)), 0, 0, false, []⟩])
   (.ret))
   (.skip))))
   (.cutTo [2, 3] (.seq (.seq (.seg false [⟨some 15, none, .faddr 2 3 (.t 2), 0, 0, false, []⟩,
    ⟨some 16, none, .load true 3 (.t 15), 0, 0, false, []⟩,
    ⟨some 17, none, .faddr 2 3 (.t 3), 0, 0, false, []⟩,
    ⟨some 18, none, .load true 3 (.t 17), 0, 0, false, []⟩,
    ⟨some 19, none, .call 101 [.t 16, .t 18] false false, 0, 0, false, []⟩,
    ⟨some 20, none, .un .not (.t 19), 0, 0, false, []⟩])
   (.cutTo [2, 3, 20] (.cond (.t 20) (.seq (.seg false [⟨some 4, none, .mov (.k (.bool false)), 0, 0, false, []⟩])
   (.ret))
   (.skip))))
   (.cutTo [2, 3] (.seq (.seq (.seg false [⟨some 21, none, .faddr 5 3 (.t 2), 0, 0, false, []⟩,
    ⟨some 22, none, .load true 3 (.t 21), 0, 0, false, []⟩,
    ⟨some 23, none, .faddr 5 3 (.t 3), 0, 0, false, []⟩,
    ⟨some 24, none, .load true 3 (.t 23), 0, 0, false, []⟩,
    ⟨some 25, none, .call 101 [.t 22, .t 24] false false, 0, 0, false, []⟩,
    ⟨some 26, none, .un .not (.t 25), 0, 0, false, []⟩])
   (.cutTo [26] (.cond (.t 26) (.seq (.seg false [⟨some 4, none, .mov (.k (.bool false)), 0, 0, false, []⟩])
   (.ret))
   (.skip))))
   (.cutTo [] (.seq (.seg false [⟨some 4, none, .mov (.k (.bool true)), 0, 0, false, []⟩])
   (.ret))))))))))⟩
/-- loop.example/tablehouse/spec.KnownOk -/
def F79 : F := ⟨68, [(false, 2, 0, false)],
   .seq (.seg false [⟨some 1, none, .box (.t 0), 0, 0, false, []⟩,
    ⟨some 2, none, .mov (.k (.bool false)), 0, 0, false, []⟩])
   (.seq (.seq (.seg false [⟨some 3, none, .faddr 0 1 (.t 1), 0, 0, false, []⟩,
    ⟨some 4, none, .load false 1 (.t 3), 0, 0, false, []⟩,
    ⟨some 5, none, .bin .eql (.t 4) (.k (.int .i64 0)), 0, 0, false, []⟩])
   (.cond (.t 5) (.seq (.seg false [⟨some 6, none, .load true 8 (.t 1), 0, 0, false, []⟩,
    ⟨some 7, none, .build [.int .i64 0, .int .i64 0, .int .i64 0, .int .i64 0, .str ⟨#[]⟩, .int .i64 0, .int .i64 0, .str ⟨#[]⟩] [], 0, 0, false, []⟩,
    ⟨some 8, none, .eqs false [.int, .int, .int, .int, .str, .int, .int, .str] (.t 6) (.t 7), 0, 0, false, []⟩,
    ⟨some 2, none, .mov (.t 8), 0, 0, false, []⟩])
   (.cutTo [2] (.ret)))
   (.skip)))
   (.cutTo [1] (.seq (.seq (.seg false [⟨some 9, none, .faddr 0 1 (.t 1), 0, 0, false, []⟩,
    ⟨some 10, none, .load false 1 (.t 9), 0, 0, false, []⟩,
    ⟨some 11, none, .call 90 [.t 10, .k (.int .i64 1), .k (.int .i64 100)] false false, 0, 0, false, []⟩,
    ⟨some 12, none, .un .not (.t 11), 0, 0, false, []⟩,
    ⟨some 13, none, .mov (.t 12), 0, 0, false, []⟩,
    ⟨some 14, some (13, false), .faddr 2 3 (.t 1), 0, 0, false, []⟩,
    ⟨some 15, some (13, false), .load true 3 (.t 14), 0, 0, false, []⟩,
    ⟨some 16, some (13, false), .call 80 [.t 15] false false, 0, 0, false, []⟩,
    ⟨some 17, some (13, false), .un .not (.t 16), 0, 0, false, []⟩,
    ⟨some 18, none, .pick (.t 13) (.k (.bool true)) (.t 17), 0, 0, false, []⟩,
    ⟨some 19, none, .mov (.t 18), 0, 0, false, []⟩,
    ⟨some 20, some (19, false), .faddr 5 3 (.t 1), 0, 0, false, []⟩,
    ⟨some 21, some (19, false), .load true 3 (.t 20), 0, 0, false, []⟩,
    ⟨some 22, some (19, false), .call 80 [.t 21] false false, 0, 0, false, []⟩,
    ⟨some 23, some (19, false), .un .not (.t 22), 0, 0, false, []⟩,
    ⟨some 24, none, .pick (.t 19) (.k (.bool true)) (.t 23), 0, 0, false, []⟩,
    ⟨some 25, none, .mov (.t 24), 0, 0, false, []⟩,
    ⟨some 26, some (25, false), .faddr 2 3 (.t 1), 0, 0, false, []⟩,
    ⟨some 27, some (25, false), .faddr 0 1 (.t 26), 0, 0, false, []⟩,
    ⟨some 28, some (25, false), .load false 1 (.t 27), 0, 0, false, []⟩,
    ⟨some 29, some (25, false), .faddr 5 3 (.t 1), 0, 0, false, []⟩,
    ⟨some 30, some (25, false), .faddr 0 1 (.t 29), 0, 0, false, []⟩,
    ⟨some 31, some (25, false), .load false 1 (.t 30), 0, 0, false, []⟩,
    ⟨some 32, some (25, false), .bin .neq (.t 28) (.t 31), 0, 0, false, []⟩,
    ⟨some 33, none, .pick (.t 25) (.k (.bool true)) (.t 32), 0, 0, false, []⟩,
    ⟨some 34, none, .mov (.t 33), 0, 0, false, []⟩,
    ⟨some 35, some (34, false), .faddr 2 3 (.t 1), 0, 0, false, []⟩,
    ⟨some 36, some (34, false), .faddr 0 1 (.t 35), 0, 0, false, []⟩,
    ⟨some 37, some (34, false), .load false 1 (.t 36), 0, 0, false, []⟩,
    ⟨some 38, some (34, false), .bin .eql (.t 37) (.k (.int .i64 0)), 0, 0, false, []⟩,
    ⟨some 39, none, .pick (.t 34) (.k (.bool true)) (.t 38), 0, 0, false, []⟩])
   (.cutTo [1, 39] (.cond (.t 39) (.seq (.seg false [⟨some 2, none, .mov (.k (.bool false)), 0, 0, false, []⟩])
   (.ret))
   (.skip))))
   (.cutTo [1] (.seq (.seg false [⟨some 40, none, .faddr 2 3 (.t 1), 0, 0, false, []⟩,
    ⟨some 41, none, .load true 3 (.t 40), 0, 0, false, []⟩,
    ⟨some 42, none, .faddr 5 3 (.t 1), 0, 0, false, []⟩,
    ⟨some 43, none, .load true 3 (.t 42), 0, 0, false, []⟩,
    ⟨some 44, none, .call 81 [.t 41, .t 43] false false, 0, 0, false, []⟩,
    ⟨some 45, none, .bin .leq (.t 44) (.k (.int .i64 0)), 0, 0, false, []⟩,
    ⟨some 46, none, .mov (.t 45), 0, 0, false, []⟩,
    ⟨some 47, some (46, true), .faddr 1 1 (.t 1), 0, 0, false, []⟩,
    ⟨some 48, some (46, true), .load false 1 (.t 47), 0, 0, false, []⟩,
    ⟨some 49, some (46, true), .faddr 0 1 (.t 1), 0, 0, false, []⟩,
    ⟨some 50, some (46, true), .load false 1 (.t 49), 0, 0, false, []⟩,
    ⟨some 51, some (46, true), .bin .mul (.k (.int .i64 (-9999))) (.t 50), 0, 0, false, []⟩,
    ⟨some 52, some (46, true), .faddr 0 1 (.t 1), 0, 0, false, []⟩,
    ⟨some 53, some (46, true), .load false 1 (.t 52), 0, 0, false, []⟩,
    ⟨some 54, some (46, true), .bin .mul (.k (.int .i64 9999)) (.t 53), 0, 0, false, []⟩,
    ⟨some 55, some (46, true), .call 90 [.t 48, .t 51, .t 54] false false, 0, 0, false, []⟩,
    ⟨some 56, none, .pick (.t 46) (.t 55) (.k (.bool false)), 0, 0, false, []⟩,
    ⟨some 57, none, .mov (.t 56), 0, 0, false, []⟩,
    ⟨some 58, some (57, true), .faddr 2 3 (.t 1), 0, 0, false, []⟩,
    ⟨some 59, some (57, true), .faddr 0 1 (.t 58), 0, 0, false, []⟩,
    ⟨some 60, some (57, true), .load false 1 (.t 59), 0, 0, false, []⟩,
    ⟨some 61, some (57, true), .bin .eql (.t 60) (.k (.int .i64 1)), 0, 0, false, []⟩,
    ⟨some 62, some (57, true), .mov (.t 61), 0, 0, false, []⟩,
    ⟨some 63, some (62, false), .faddr 1 1 (.t 1), 0, 0, false, []⟩,
    ⟨some 64, some (62, false), .load false 1 (.t 63), 0, 0, false, []⟩,
    ⟨some 65, some (62, false), .bin .eql (.t 64) (.k (.int .i64 0)), 0, 0, false, []⟩,
    ⟨some 66, some (57, true), .pick (.t 62) (.k (.bool true)) (.t 65), 0, 0, false, []⟩,
    ⟨some 67, none, .pick (.t 57) (.t 66) (.k (.bool false)), 0, 0, false, []⟩,
    ⟨some 2, none, .mov (.t 67), 0, 0, false, []⟩])
   (.cutTo [2] (.ret)))))))⟩
/-- cmp.isNaN<int> -/
def F188 : F := ⟨6, [(false, 2, 0, false)],
   .seq (.seg false [⟨some 2, none, .mov (.k (.bool false)), 0, 0, false, []⟩])
   (.seq (.seg false [⟨some 3, none, .mov (.t 0), 0, 0, false, []⟩,
    ⟨some 4, none, .mov (.t 0), 0, 0, false, []⟩,
    ⟨some 5, none, .bin .neq (.t 3) (.t 4), 0, 0, false, []⟩,
    ⟨some 2, none, .mov (.t 5), 0, 0, false, []⟩])
   (.cutTo [2] (.ret)))⟩
/-- cmp.isNaN<string> -/
def F189 : F := ⟨6, [(false, 2, 0, false)],
   .seq (.seg false [⟨some 2, none, .mov (.k (.bool false)), 0, 0, false, []⟩])
   (.seq (.seg false [⟨some 3, none, .mov (.t 0), 0, 0, false, []⟩,
    ⟨some 4, none, .mov (.t 0), 0, 0, false, []⟩,
    ⟨some 5, none, .bin .neq (.t 3) (.t 4), 0, 0, false, []⟩,
    ⟨some 2, none, .mov (.t 5), 0, 0, false, []⟩])
   (.cutTo [2] (.ret)))⟩
def B191x0 : C := .seq (.seg false [⟨some 9, none, .bin .lss (.t 8) (.t 7), 0, 0, false, []⟩])
   (.seq (.cond (.t 9) (.skip)
   (.exit 0))
   (.seq (.block 1 (.seq (.seg false [⟨some 10, none, .mov (.t 8), 0, 0, false, []⟩,
    ⟨some 5, none, .mov (.t 10), 0, 0, false, []⟩])
   (.seq (.seg false [⟨some 11, none, .mov (.t 1), 0, 0, false, []⟩,
    ⟨some 12, none, .mov (.t 0), 0, 0, false, []⟩,
    ⟨some 13, none, .mov (.t 5), 0, 0, false, []⟩,
    ⟨some 14, none, .iaddr 2 (.t 12) (.t 13), 0, 0, false, []⟩,
    ⟨some 15, none, .load true 2 (.t 14), 0, 0, false, []⟩,
    ⟨some 16, none, .callv (.t 11) [.t 15] false, 0, 0, false, []⟩])
   (.cutTo [0, 1, 5, 7, 8, 16] (.cond (.t 16) (.seq (.seg false [⟨some 17, none, .mov (.t 5), 0, 0, false, []⟩,
    ⟨some 4, none, .mov (.t 17), 0, 0, false, []⟩])
   (.ret))
   (.skip))))))
   (.cutTo [0, 1, 7, 8] (.seg false [⟨some 18, none, .bin .add (.t 8) (.k (.int .i64 1)), 0, 0, false, []⟩,
    ⟨some 8, none, .mov (.t 18), 0, 0, false, []⟩]))))
def L191x0 : C := B191x0
theorem evL191x0 (run : Run) (draw : List I → Env → Heap → Option (Env × Heap)) (e : Env) (h : Heap) : evC run draw L191x0 e h = evC run draw B191x0 e h := rfl
/-- slices.IndexFunc<<>loop.example/tablehouse/impl.Column,loop.example/tablehouse/impl.Column> -/
def F191 : F := ⟨19, [(false, 4, 0, false)],
   .seq (.seg false [⟨some 4, none, .mov (.k (.int .i64 0)), 0, 0, false, []⟩])
   (.seq (.seq (.seg false [⟨some 6, none, .mov (.t 0), 0, 0, false, []⟩,
    ⟨some 7, none, .len false (.t 6), 0, 0, false, []⟩,
    ⟨some 8, none, .mov (.k (.int .i64 0)), 0, 0, false, []⟩])
   (.block 0 (.loop [0, 1, 7, 8] [4] L191x0)))
   (.seq (.seg false [⟨some 4, none, .mov (.k (.int .i64 (-1))), 0, 0, false, []⟩])
   (.ret)))⟩
def B199x0 : C := .seq (.seg false [⟨some 9, none, .bin .lss (.t 8) (.t 7), 0, 0, false, []⟩])
   (.seq (.cond (.t 9) (.skip)
   (.exit 0))
   (.seq (.block 1 (.seq (.seg false [⟨some 10, none, .mov (.t 8), 0, 0, false, []⟩,
    ⟨some 5, none, .mov (.t 10), 0, 0, false, []⟩])
   (.seq (.seg false [⟨some 11, none, .mov (.t 1), 0, 0, false, []⟩,
    ⟨some 12, none, .mov (.t 0), 0, 0, false, []⟩,
    ⟨some 13, none, .mov (.t 5), 0, 0, false, []⟩,
    ⟨some 14, none, .iaddr 3 (.t 12) (.t 13), 0, 0, false, []⟩,
    ⟨some 15, none, .load true 3 (.t 14), 0, 0, false, []⟩,
    ⟨some 16, none, .callv (.t 11) [.t 15] false, 0, 0, false, []⟩])
   (.cutTo [0, 1, 5, 7, 8, 16] (.cond (.t 16) (.seq (.seg false [⟨some 17, none, .mov (.t 5), 0, 0, false, []⟩,
    ⟨some 4, none, .mov (.t 17), 0, 0, false, []⟩])
   (.ret))
   (.skip))))))
   (.cutTo [0, 1, 7, 8] (.seg false [⟨some 18, none, .bin .add (.t 8) (.k (.int .i64 1)), 0, 0, false, []⟩,
    ⟨some 8, none, .mov (.t 18), 0, 0, false, []⟩]))))
def L199x0 : C := B199x0
theorem evL199x0 (run : Run) (draw : List I → Env → Heap → Option (Env × Heap)) (e : Env) (h : Heap) : evC run draw L199x0 e h = evC run draw B199x0 e h := rfl
/-- slices.IndexFunc<<>loop.example/tablehouse/impl.Value,loop.example/tablehouse/impl.Value> -/
def F199 : F := ⟨19, [(false, 4, 0, false)],
   .seq (.seg false [⟨some 4, none, .mov (.k (.int .i64 0)), 0, 0, false, []⟩])
   (.seq (.seq (.seg false [⟨some 6, none, .mov (.t 0), 0, 0, false, []⟩,
    ⟨some 7, none, .len false (.t 6), 0, 0, false, []⟩,
    ⟨some 8, none, .mov (.k (.int .i64 0)), 0, 0, false, []⟩])
   (.block 0 (.loop [0, 1, 7, 8] [4] L199x0)))
   (.seq (.seg false [⟨some 4, none, .mov (.k (.int .i64 (-1))), 0, 0, false, []⟩])
   (.ret)))⟩
end Go.Proofs.Ytnnjpiepoeknnaa.PE
