/- The compact code of the functions, and that it is the code of the machine. -/
import Derived.Test.YtgepapgabnaonaaPeX
import Derived.Test.YtgepapgabnaonaaProg
namespace Go.Proofs.Ytgepapgabnaonaa.PE
open Go.RowKit
set_option maxRecDepth 100000
/-- (*loop.example/tablehouse/spec.l20Rd).odd -/
def F134 : F := ⟨15, [(false, 4, 0, false)],
   .seq (.seg false [⟨some 4, none, .mov (.k (.bool false)), 0, 0, false, []⟩])
   (.seq (.seg false [⟨some 5, none, .mov (.t 1), 0, 0, false, []⟩,
    ⟨some 6, none, .bin .gtr (.t 5) (.k (.int .i64 0)), 0, 0, false, []⟩,
    ⟨some 7, none, .mov (.t 6), 0, 0, false, []⟩,
    ⟨some 8, some (7, true), .mov (.t 0), 0, 0, false, []⟩,
    ⟨some 9, some (7, true), .mov (.t 1), 0, 0, false, []⟩,
    ⟨some 10, some (7, true), .call 65 [.t 8, .t 9] true false, 0, 0, false, []⟩,
    ⟨some 11, some (7, true), .mov (.t 1), 0, 0, false, []⟩,
    ⟨some 12, some (7, true), .bin .sub (.t 11) (.k (.int .i64 1)), 0, 0, false, []⟩,
    ⟨some 13, some (7, true), .bin .eql (.t 10) (.t 12), 0, 0, false, []⟩,
    ⟨some 14, none, .pick (.t 7) (.t 13) (.k (.bool false)), 0, 0, false, []⟩,
    ⟨some 4, none, .mov (.t 14), 0, 0, false, []⟩])
   (.cutTo [4] (.ret)))⟩
def E65x0 : List I := [⟨some 47, none, .mov (.t 0), 0, 0, false, []⟩,
    ⟨some 48, none, .nilchk (.t 47), 0, 0, false, []⟩,
    ⟨some 49, none, .faddr 0 1 (.t 48), 0, 0, false, []⟩,
    ⟨some 50, none, .load false 1 (.t 49), 0, 0, false, []⟩,
    ⟨some 51, none, .mov (.t 5), 0, 0, false, []⟩,
    ⟨some 52, none, .mov (.t 0), 0, 0, false, []⟩,
    ⟨some 53, none, .nilchk (.t 52), 0, 0, false, []⟩,
    ⟨some 54, none, .faddr 0 1 (.t 53), 0, 0, false, []⟩,
    ⟨some 55, none, .load false 1 (.t 54), 0, 0, false, []⟩,
    ⟨some 56, none, .len false (.t 55), 0, 0, false, []⟩,
    ⟨some 57, none, .bin .rem (.t 51) (.t 56), 0, 0, false, []⟩,
    ⟨some 58, none, .iaddr 1 (.t 50) (.t 57), 0, 0, false, []⟩,
    ⟨some 59, none, .load false 1 (.t 58), 0, 0, false, []⟩,
    ⟨some 60, none, .conv (.int .i64) (.t 59), 0, 0, false, []⟩,
    ⟨some 61, none, .bin .mul (.t 60) (.k (.int .i64 131)), 0, 0, false, []⟩,
    ⟨some 62, none, .mov (.t 0), 0, 0, false, []⟩,
    ⟨some 63, none, .nilchk (.t 62), 0, 0, false, []⟩,
    ⟨some 64, none, .faddr 0 1 (.t 63), 0, 0, false, []⟩,
    ⟨some 65, none, .load false 1 (.t 64), 0, 0, false, []⟩,
    ⟨some 66, none, .mov (.t 5), 0, 0, false, []⟩,
    ⟨some 67, none, .bin .mul (.t 66) (.k (.int .i64 7)), 0, 0, false, []⟩,
    ⟨some 68, none, .bin .add (.t 67) (.k (.int .i64 3)), 0, 0, false, []⟩,
    ⟨some 69, none, .mov (.t 0), 0, 0, false, []⟩,
    ⟨some 70, none, .nilchk (.t 69), 0, 0, false, []⟩,
    ⟨some 71, none, .faddr 0 1 (.t 70), 0, 0, false, []⟩,
    ⟨some 72, none, .load false 1 (.t 71), 0, 0, false, []⟩,
    ⟨some 73, none, .len false (.t 72), 0, 0, false, []⟩,
    ⟨some 74, none, .bin .rem (.t 68) (.t 73), 0, 0, false, []⟩,
    ⟨some 75, none, .iaddr 1 (.t 65) (.t 74), 0, 0, false, []⟩,
    ⟨some 76, none, .load false 1 (.t 75), 0, 0, false, []⟩,
    ⟨some 77, none, .conv (.int .i64) (.t 76), 0, 0, false, []⟩,
    ⟨some 78, none, .bin .mul (.t 77) (.k (.int .i64 1117)), 0, 0, false, []⟩,
    ⟨some 79, none, .bin .add (.t 61) (.t 78), 0, 0, false, []⟩,
    ⟨some 80, none, .mov (.t 5), 0, 0, false, []⟩,
    ⟨some 81, none, .bin .mul (.t 80) (.k (.int .i64 29)), 0, 0, false, []⟩,
    ⟨some 82, none, .bin .add (.t 79) (.t 81), 0, 0, false, []⟩,
    ⟨some 83, none, .mov (.t 5), 0, 0, false, []⟩,
    ⟨some 84, none, .mov (.t 0), 0, 0, false, []⟩,
    ⟨some 85, none, .nilchk (.t 84), 0, 0, false, []⟩,
    ⟨some 86, none, .faddr 0 1 (.t 85), 0, 0, false, []⟩,
    ⟨some 87, none, .load false 1 (.t 86), 0, 0, false, []⟩,
    ⟨some 88, none, .len false (.t 87), 0, 0, false, []⟩,
    ⟨some 89, none, .bin .quo (.t 83) (.t 88), 0, 0, false, []⟩,
    ⟨some 90, none, .bin .mul (.t 89) (.k (.int .i64 53)), 0, 0, false, []⟩,
    ⟨some 91, none, .bin .add (.t 82) (.t 90), 0, 0, false, []⟩,
    ⟨some 6, none, .mov (.t 91), 0, 0, false, []⟩]
def D65x0 : List I := E65x0
theorem evD65x0 (run : Run) (e : Env) (h : Heap) : drawI run D65x0 e h = DrawS (evQ run E65x0 e h) run E65x0 e h := drawI_quiet run _ (by rfl) e h
/-- (*loop.example/tablehouse/spec.l20Rd).pick -/
def F65 : F := ⟨99, [(false, 4, 0, false)],
   .seq (.seg false [⟨some 4, none, .mov (.k (.int .i64 0)), 0, 0, false, []⟩])
   (.seq (.seg false [⟨some 7, none, .mov (.t 0), 0, 0, false, []⟩,
    ⟨some 8, none, .mov (.t 0), 0, 0, false, []⟩,
    ⟨some 9, none, .nilchk (.t 8), 0, 0, false, []⟩,
    ⟨some 10, none, .faddr 1 1 (.t 9), 0, 0, false, []⟩,
    ⟨some 11, none, .load false 1 (.t 10), 0, 0, false, []⟩,
    ⟨some 12, none, .bin .add (.t 11) (.k (.int .i64 1)), 0, 0, false, []⟩,
    ⟨some 13, none, .nilchk (.t 7), 0, 0, false, []⟩,
    ⟨some 14, none, .faddr 1 1 (.t 13), 0, 0, false, []⟩,
    ⟨none, none, .store 1 (.t 14) (.t 12), 0, 0, false, []⟩])
   (.cutTo [0, 1] (.seq (.seq (.seg false [⟨some 15, none, .mov (.t 1), 0, 0, false, []⟩,
    ⟨some 16, none, .bin .lss (.t 15) (.k (.int .i64 1)), 0, 0, false, []⟩,
    ⟨some 17, none, .mov (.t 16), 0, 0, false, []⟩,
    ⟨some 18, some (17, false), .mov (.t 0), 0, 0, false, []⟩,
    ⟨some 19, some (17, false), .nilchk (.t 18), 0, 0, false, []⟩,
    ⟨some 20, some (17, false), .faddr 0 1 (.t 19), 0, 0, false, []⟩,
    ⟨some 21, some (17, false), .load false 1 (.t 20), 0, 0, false, []⟩,
    ⟨some 22, some (17, false), .len false (.t 21), 0, 0, false, []⟩,
    ⟨some 23, some (17, false), .bin .eql (.t 22) (.k (.int .i64 0)), 0, 0, false, []⟩,
    ⟨some 24, none, .pick (.t 17) (.k (.bool true)) (.t 23), 0, 0, false, []⟩])
   (.cutTo [0, 1, 24] (.cond (.t 24) (.seq (.seg false [⟨some 4, none, .mov (.k (.int .i64 0)), 0, 0, false, []⟩])
   (.ret))
   (.skip))))
   (.cutTo [0, 1] (.seq (.seg false [⟨some 25, none, .mov (.t 0), 0, 0, false, []⟩,
    ⟨some 26, none, .nilchk (.t 25), 0, 0, false, []⟩,
    ⟨some 27, none, .faddr 1 1 (.t 26), 0, 0, false, []⟩,
    ⟨some 28, none, .load false 1 (.t 27), 0, 0, false, []⟩,
    ⟨some 29, none, .bin .sub (.t 28) (.k (.int .i64 1)), 0, 0, false, []⟩,
    ⟨some 5, none, .mov (.t 29), 0, 0, false, []⟩])
   (.cutTo [0, 1, 5] (.seq (.seq (.seg false [⟨some 30, none, .mov (.t 5), 0, 0, false, []⟩,
    ⟨some 31, none, .mov (.t 0), 0, 0, false, []⟩,
    ⟨some 32, none, .nilchk (.t 31), 0, 0, false, []⟩,
    ⟨some 33, none, .faddr 0 1 (.t 32), 0, 0, false, []⟩,
    ⟨some 34, none, .load false 1 (.t 33), 0, 0, false, []⟩,
    ⟨some 35, none, .len false (.t 34), 0, 0, false, []⟩,
    ⟨some 36, none, .bin .lss (.t 30) (.t 35), 0, 0, false, []⟩])
   (.cutTo [0, 1, 5, 36] (.cond (.t 36) (.seq (.seg false [⟨some 37, none, .mov (.t 0), 0, 0, false, []⟩,
    ⟨some 38, none, .nilchk (.t 37), 0, 0, false, []⟩,
    ⟨some 39, none, .faddr 0 1 (.t 38), 0, 0, false, []⟩,
    ⟨some 40, none, .load false 1 (.t 39), 0, 0, false, []⟩,
    ⟨some 41, none, .mov (.t 5), 0, 0, false, []⟩,
    ⟨some 42, none, .iaddr 1 (.t 40) (.t 41), 0, 0, false, []⟩,
    ⟨some 43, none, .load false 1 (.t 42), 0, 0, false, []⟩,
    ⟨some 44, none, .conv (.int .i64) (.t 43), 0, 0, false, []⟩,
    ⟨some 45, none, .mov (.t 1), 0, 0, false, []⟩,
    ⟨some 46, none, .bin .rem (.t 44) (.t 45), 0, 0, false, []⟩,
    ⟨some 4, none, .mov (.t 46), 0, 0, false, []⟩])
   (.cutTo [4] (.ret)))
   (.skip))))
   (.cutTo [0, 1, 5] (.seq (.seg true D65x0)
   (.cutTo [1, 6] (.seq (.seg false [⟨some 92, none, .mov (.t 6), 0, 0, false, []⟩,
    ⟨some 93, none, .mov (.t 6), 0, 0, false, []⟩,
    ⟨some 94, none, .bin .quo (.t 93) (.k (.int .i64 64)), 0, 0, false, []⟩,
    ⟨some 95, none, .bin .xor (.t 92) (.t 94), 0, 0, false, []⟩,
    ⟨some 6, none, .mov (.t 95), 0, 0, false, []⟩])
   (.cutTo [1, 6] (.seq (.seg false [⟨some 96, none, .mov (.t 6), 0, 0, false, []⟩,
    ⟨some 97, none, .mov (.t 1), 0, 0, false, []⟩,
    ⟨some 98, none, .bin .rem (.t 96) (.t 97), 0, 0, false, []⟩,
    ⟨some 4, none, .mov (.t 98), 0, 0, false, []⟩])
   (.cutTo [4] (.ret)))))))))))))))⟩
def E95x0 : List I := [⟨some 31, none, .load false 1 (.t 5), 0, 0, false, []⟩,
    ⟨some 32, none, .iaddr 1 (.t 31) (.k (.int .i64 0)), 0, 0, false, []⟩,
    ⟨some 33, none, .load false 1 (.t 32), 0, 0, false, []⟩,
    ⟨some 34, none, .load false 1 (.t 5), 0, 0, false, []⟩,
    ⟨some 35, none, .iaddr 1 (.t 34) (.k (.int .i64 1)), 0, 0, false, []⟩,
    ⟨some 36, none, .load false 1 (.t 35), 0, 0, false, []⟩,
    ⟨some 37, none, .bin .eql (.t 33) (.t 36), 0, 0, false, []⟩,
    ⟨some 6, none, .mov (.k (.int .i64 3)), 0, 0, false, []⟩,
    ⟨some 7, none, .mov (.t 37), 0, 0, false, []⟩]
def D95x0 : List I := E95x0
theorem evD95x0 (run : Run) (e : Env) (h : Heap) : drawI run D95x0 e h = DrawS (evQ run E95x0 e h) run E95x0 e h := drawI_quiet run _ (by rfl) e h
/-- (loop.example/tablehouse/impl.Part).kind -/
def F95 : F := ⟨42, [(false, 6, 0, false), (false, 7, 0, false)],
   .seq (.seg false [⟨some 3, none, .box (.t 0), 0, 0, false, []⟩,
    ⟨some 5, none, .box (.t 2), 0, 0, false, []⟩,
    ⟨some 6, none, .mov (.k (.int .i64 0)), 0, 0, false, []⟩,
    ⟨some 7, none, .mov (.k (.bool false)), 0, 0, false, []⟩])
   (.cutTo [1, 3, 5] (.seq (.seg false [⟨some 9, none, .mkclo 141 [.t 5], 0, 0, false, []⟩,
    ⟨some 8, none, .mov (.t 9), 0, 0, false, []⟩])
   (.seq (.seq (.seg false [⟨some 10, none, .faddr 0 1 (.t 3), 0, 0, false, []⟩,
    ⟨some 11, none, .load false 1 (.t 10), 0, 0, false, []⟩])
   (.block 0 (.seq (.seg false [⟨some 13, none, .bin .eql (.t 11) (.k (.int .i64 1)), 0, 0, false, []⟩,
    ⟨some 12, none, .mov (.t 13), 0, 0, false, []⟩])
   (.cond (.t 12) (.seq (.seg false [⟨some 14, none, .faddr 2 3 (.t 3), 0, 0, false, []⟩,
    ⟨some 15, none, .faddr 0 1 (.t 14), 0, 0, false, []⟩,
    ⟨some 16, none, .load false 1 (.t 15), 0, 0, false, []⟩,
    ⟨some 6, none, .mov (.t 16), 0, 0, false, []⟩,
    ⟨some 7, none, .mov (.k (.bool true)), 0, 0, false, []⟩])
   (.cutTo [6, 7] (.ret)))
   (.seq (.seg false [⟨some 18, none, .bin .eql (.t 11) (.k (.int .i64 2)), 0, 0, false, []⟩,
    ⟨some 17, none, .mov (.t 18), 0, 0, false, []⟩])
   (.cond (.t 17) (.seq (.seg false [⟨some 19, none, .mov (.t 1), 0, 0, false, []⟩,
    ⟨some 20, none, .faddr 1 1 (.t 3), 0, 0, false, []⟩,
    ⟨some 21, none, .load false 1 (.t 20), 0, 0, false, []⟩,
    ⟨some 22, none, .iaddr 2 (.t 19) (.t 21), 0, 0, false, []⟩,
    ⟨some 23, none, .faddr 0 1 (.t 22), 0, 0, false, []⟩,
    ⟨some 24, none, .load false 1 (.t 23), 0, 0, false, []⟩,
    ⟨some 6, none, .mov (.t 24), 0, 0, false, []⟩,
    ⟨some 7, none, .mov (.k (.bool true)), 0, 0, false, []⟩])
   (.cutTo [6, 7] (.ret)))
   (.seq (.seg false [⟨some 26, none, .bin .eql (.t 11) (.k (.int .i64 3)), 0, 0, false, []⟩,
    ⟨some 25, none, .mov (.t 26), 0, 0, false, []⟩])
   (.cond (.t 25) (.seq (.seg false [⟨some 27, none, .mov (.t 8), 0, 0, false, []⟩,
    ⟨some 28, none, .callv (.t 27) [.k (.int .i64 1)] false, 0, 0, false, []⟩,
    ⟨some 6, none, .mov (.k (.int .i64 1)), 0, 0, false, []⟩,
    ⟨some 7, none, .mov (.t 28), 0, 0, false, []⟩])
   (.cutTo [6, 7] (.ret)))
   (.seq (.seg false [⟨some 30, none, .bin .eql (.t 11) (.k (.int .i64 4)), 0, 0, false, []⟩,
    ⟨some 29, none, .mov (.t 30), 0, 0, false, []⟩])
   (.cond (.t 29) (.seq (.seg true D95x0)
   (.cutTo [6, 7] (.ret)))
   (.seq (.seg false [⟨some 39, none, .bin .eql (.t 11) (.k (.int .i64 8)), 0, 0, false, []⟩,
    ⟨some 38, none, .mov (.t 39), 0, 0, false, []⟩])
   (.cond (.t 38) (.seq (.seg false [⟨some 6, none, .mov (.k (.int .i64 3)), 0, 0, false, []⟩,
    ⟨some 7, none, .mov (.k (.bool true)), 0, 0, false, []⟩])
   (.ret))
   (.skip)))))))))))))
   (.cutTo [8] (.seq (.seg false [⟨some 40, none, .mov (.t 8), 0, 0, false, []⟩,
    ⟨some 41, none, .callv (.t 40) [.k (.int .i64 3)] false, 0, 0, false, []⟩,
    ⟨some 6, none, .mov (.k (.int .i64 3)), 0, 0, false, []⟩,
    ⟨some 7, none, .mov (.t 41), 0, 0, false, []⟩])
   (.cutTo [6, 7] (.ret)))))))⟩
/-- (loop.example/tablehouse/impl.Part).kind$1 -/
def F141 : F := ⟨8, [(false, 3, 0, false)],
   .seq (.seg false [⟨some 2, none, .box (.t 0), 0, 0, false, []⟩,
    ⟨some 3, none, .mov (.k (.bool false)), 0, 0, false, []⟩])
   (.seq (.seg false [⟨some 4, none, .load false 1 (.t 1), 0, 0, false, []⟩,
    ⟨some 5, none, .mkclo 142 [.t 2], 0, 0, false, []⟩,
    ⟨some 6, none, .call 66 [.t 4, .t 5] true false, 0, 0, false, []⟩,
    ⟨some 7, none, .un .not (.t 6), 0, 0, false, []⟩,
    ⟨some 3, none, .mov (.t 7), 0, 0, false, []⟩])
   (.cutTo [3] (.ret)))⟩
/-- (loop.example/tablehouse/impl.Part).kind$1$1 -/
def F142 : F := ⟨7, [(false, 3, 0, false)],
   .seq (.seg false [⟨some 3, none, .mov (.k (.bool false)), 0, 0, false, []⟩])
   (.seq (.seg false [⟨some 4, none, .mov (.t 0), 0, 0, false, []⟩,
    ⟨some 5, none, .load false 1 (.t 1), 0, 0, false, []⟩,
    ⟨some 6, none, .bin .neq (.t 4) (.t 5), 0, 0, false, []⟩,
    ⟨some 3, none, .mov (.t 6), 0, 0, false, []⟩])
   (.cutTo [3] (.ret)))⟩
/-- (loop.example/tablehouse/impl.Part).takes -/
def F89 : F := ⟨13, [(false, 2, 0, false)],
   .seq (.seg false [⟨some 1, none, .box (.t 0), 0, 0, false, []⟩,
    ⟨some 2, none, .mov (.k (.int .i64 0)), 0, 0, false, []⟩])
   (.seq (.seq (.seg false [⟨some 3, none, .faddr 0 1 (.t 1), 0, 0, false, []⟩,
    ⟨some 4, none, .load false 1 (.t 3), 0, 0, false, []⟩])
   (.block 0 (.seq (.seq (.seg false [⟨some 6, none, .bin .eql (.t 4) (.k (.int .i64 3)), 0, 0, false, []⟩,
    ⟨some 5, none, .mov (.t 6), 0, 0, false, []⟩])
   (.cond (.t 5) (.skip)
   (.seq (.seg false [⟨some 7, none, .bin .eql (.t 4) (.k (.int .i64 4)), 0, 0, false, []⟩,
    ⟨some 5, none, .mov (.t 7), 0, 0, false, []⟩])
   (.cond (.t 5) (.skip)
   (.seq (.seg false [⟨some 8, none, .bin .eql (.t 4) (.k (.int .i64 5)), 0, 0, false, []⟩,
    ⟨some 5, none, .mov (.t 8), 0, 0, false, []⟩])
   (.cond (.t 5) (.skip)
   (.seg false [⟨some 9, none, .bin .eql (.t 4) (.k (.int .i64 6)), 0, 0, false, []⟩,
    ⟨some 5, none, .mov (.t 9), 0, 0, false, []⟩])))))))
   (.cutTo [4, 5] (.cond (.t 5) (.seq (.seg false [⟨some 2, none, .mov (.k (.int .i64 2)), 0, 0, false, []⟩])
   (.ret))
   (.seq (.seq (.seg false [⟨some 11, none, .bin .eql (.t 4) (.k (.int .i64 7)), 0, 0, false, []⟩,
    ⟨some 10, none, .mov (.t 11), 0, 0, false, []⟩])
   (.cond (.t 10) (.skip)
   (.seg false [⟨some 12, none, .bin .eql (.t 4) (.k (.int .i64 8)), 0, 0, false, []⟩,
    ⟨some 10, none, .mov (.t 12), 0, 0, false, []⟩])))
   (.cutTo [10] (.cond (.t 10) (.seq (.seg false [⟨some 2, none, .mov (.k (.int .i64 1)), 0, 0, false, []⟩])
   (.ret))
   (.skip)))))))))
   (.cutTo [] (.seq (.seg false [⟨some 2, none, .mov (.k (.int .i64 0)), 0, 0, false, []⟩])
   (.ret))))⟩
/-- (loop.example/tablehouse/impl.Part).tells -/
def F94 : F := ⟨63, [(false, 4, 0, false)],
   .seq (.seg false [⟨some 2, none, .box (.t 0), 0, 0, false, []⟩,
    ⟨some 4, none, .mov (.k (.bool false)), 0, 0, false, []⟩])
   (.seq (.seq (.seg false [⟨some 5, none, .faddr 0 1 (.t 2), 0, 0, false, []⟩,
    ⟨some 6, none, .load false 1 (.t 5), 0, 0, false, []⟩])
   (.block 0 (.seq (.seg false [⟨some 8, none, .bin .eql (.t 6) (.k (.int .i64 1)), 0, 0, false, []⟩,
    ⟨some 7, none, .mov (.t 8), 0, 0, false, []⟩])
   (.cond (.t 7) (.seq (.seg false [⟨some 9, none, .faddr 1 1 (.t 2), 0, 0, false, []⟩,
    ⟨some 10, none, .load false 1 (.t 9), 0, 0, false, []⟩,
    ⟨some 11, none, .bin .eql (.t 10) (.k (.int .i64 0)), 0, 0, false, []⟩,
    ⟨some 12, none, .mov (.t 11), 0, 0, false, []⟩,
    ⟨some 13, some (12, true), .faddr 2 3 (.t 2), 0, 0, false, []⟩,
    ⟨some 14, some (12, true), .load true 3 (.t 13), 0, 0, false, []⟩,
    ⟨some 15, some (12, true), .call 128 [.t 14] false false, 0, 0, false, []⟩,
    ⟨some 16, none, .pick (.t 12) (.t 15) (.k (.bool false)), 0, 0, false, []⟩,
    ⟨some 17, none, .mov (.t 16), 0, 0, false, []⟩,
    ⟨some 18, some (17, true), .faddr 2 3 (.t 2), 0, 0, false, []⟩,
    ⟨some 19, some (17, true), .faddr 0 1 (.t 18), 0, 0, false, []⟩,
    ⟨some 20, some (17, true), .load false 1 (.t 19), 0, 0, false, []⟩,
    ⟨some 21, some (17, true), .bin .neq (.t 20) (.k (.int .i64 0)), 0, 0, false, []⟩,
    ⟨some 22, none, .pick (.t 17) (.t 21) (.k (.bool false)), 0, 0, false, []⟩,
    ⟨some 4, none, .mov (.t 22), 0, 0, false, []⟩])
   (.cutTo [4] (.ret)))
   (.seq (.seg false [⟨some 24, none, .bin .eql (.t 6) (.k (.int .i64 2)), 0, 0, false, []⟩,
    ⟨some 23, none, .mov (.t 24), 0, 0, false, []⟩])
   (.cond (.t 23) (.seq (.seg false [⟨some 25, none, .faddr 1 1 (.t 2), 0, 0, false, []⟩,
    ⟨some 26, none, .load false 1 (.t 25), 0, 0, false, []⟩,
    ⟨some 27, none, .mov (.t 1), 0, 0, false, []⟩,
    ⟨some 28, none, .len false (.t 27), 0, 0, false, []⟩,
    ⟨some 29, none, .bin .sub (.t 28) (.k (.int .i64 1)), 0, 0, false, []⟩,
    ⟨some 30, none, .call 68 [.t 26, .k (.int .i64 0), .t 29] false false, 0, 0, false, []⟩,
    ⟨some 31, none, .mov (.t 30), 0, 0, false, []⟩,
    ⟨some 32, some (31, true), .faddr 2 3 (.t 2), 0, 0, false, []⟩,
    ⟨some 33, some (31, true), .load true 3 (.t 32), 0, 0, false, []⟩,
    ⟨some 34, some (31, true), .build [.int .i64 0, .int .i64 0, .str ⟨#[]⟩] [], 0, 0, false, []⟩,
    ⟨some 35, some (31, true), .eqs false [.int, .int, .str] (.t 33) (.t 34), 0, 0, false, []⟩,
    ⟨some 36, none, .pick (.t 31) (.t 35) (.k (.bool false)), 0, 0, false, []⟩,
    ⟨some 4, none, .mov (.t 36), 0, 0, false, []⟩])
   (.cutTo [4] (.ret)))
   (.seq (.seg false [⟨some 38, none, .bin .eql (.t 6) (.k (.int .i64 4)), 0, 0, false, []⟩,
    ⟨some 37, none, .mov (.t 38), 0, 0, false, []⟩])
   (.cond (.t 37) (.seq (.seg false [⟨some 39, none, .faddr 1 1 (.t 2), 0, 0, false, []⟩,
    ⟨some 40, none, .load false 1 (.t 39), 0, 0, false, []⟩,
    ⟨some 41, none, .call 68 [.t 40, .k (.int .i64 1), .k (.int .i64 4)] false false, 0, 0, false, []⟩,
    ⟨some 42, none, .mov (.t 41), 0, 0, false, []⟩,
    ⟨some 43, some (42, true), .faddr 2 3 (.t 2), 0, 0, false, []⟩,
    ⟨some 44, some (42, true), .load true 3 (.t 43), 0, 0, false, []⟩,
    ⟨some 45, some (42, true), .build [.int .i64 0, .int .i64 0, .str ⟨#[]⟩] [], 0, 0, false, []⟩,
    ⟨some 46, some (42, true), .eqs false [.int, .int, .str] (.t 44) (.t 45), 0, 0, false, []⟩,
    ⟨some 47, none, .pick (.t 42) (.t 46) (.k (.bool false)), 0, 0, false, []⟩,
    ⟨some 4, none, .mov (.t 47), 0, 0, false, []⟩])
   (.cutTo [4] (.ret)))
   (.seq (.seq (.seg false [⟨some 49, none, .bin .eql (.t 6) (.k (.int .i64 3)), 0, 0, false, []⟩,
    ⟨some 48, none, .mov (.t 49), 0, 0, false, []⟩])
   (.cond (.t 48) (.skip)
   (.seq (.seg false [⟨some 50, none, .bin .eql (.t 6) (.k (.int .i64 5)), 0, 0, false, []⟩,
    ⟨some 48, none, .mov (.t 50), 0, 0, false, []⟩])
   (.cond (.t 48) (.skip)
   (.seq (.seg false [⟨some 51, none, .bin .eql (.t 6) (.k (.int .i64 6)), 0, 0, false, []⟩,
    ⟨some 48, none, .mov (.t 51), 0, 0, false, []⟩])
   (.cond (.t 48) (.skip)
   (.seq (.seg false [⟨some 52, none, .bin .eql (.t 6) (.k (.int .i64 7)), 0, 0, false, []⟩,
    ⟨some 48, none, .mov (.t 52), 0, 0, false, []⟩])
   (.cond (.t 48) (.skip)
   (.seg false [⟨some 53, none, .bin .eql (.t 6) (.k (.int .i64 8)), 0, 0, false, []⟩,
    ⟨some 48, none, .mov (.t 53), 0, 0, false, []⟩])))))))))
   (.cutTo [2, 48] (.cond (.t 48) (.seq (.seg false [⟨some 54, none, .faddr 1 1 (.t 2), 0, 0, false, []⟩,
    ⟨some 55, none, .load false 1 (.t 54), 0, 0, false, []⟩,
    ⟨some 56, none, .bin .eql (.t 55) (.k (.int .i64 0)), 0, 0, false, []⟩,
    ⟨some 57, none, .mov (.t 56), 0, 0, false, []⟩,
    ⟨some 58, some (57, true), .faddr 2 3 (.t 2), 0, 0, false, []⟩,
    ⟨some 59, some (57, true), .load true 3 (.t 58), 0, 0, false, []⟩,
    ⟨some 60, some (57, true), .build [.int .i64 0, .int .i64 0, .str ⟨#[]⟩] [], 0, 0, false, []⟩,
    ⟨some 61, some (57, true), .eqs false [.int, .int, .str] (.t 59) (.t 60), 0, 0, false, []⟩,
    ⟨some 62, none, .pick (.t 57) (.t 61) (.k (.bool false)), 0, 0, false, []⟩,
    ⟨some 4, none, .mov (.t 62), 0, 0, false, []⟩])
   (.cutTo [4] (.ret)))
   (.skip))))))))))))
   (.cutTo [] (.seq (.seg false [⟨some 4, none, .mov (.k (.bool false)), 0, 0, false, []⟩])
   (.ret))))⟩
def E129x0 : List I := [⟨some 23, none, .mov (.t 2), 0, 1, false, []⟩,
    ⟨some 24, none, .iaddr 3 (.t 23) (.k (.int .i64 0)), 0, 1, false, []⟩,
    ⟨some 25, none, .faddr 1 1 (.t 24), 0, 1, false, []⟩,
    ⟨some 26, none, .load false 1 (.t 25), 0, 1, false, []⟩,
    ⟨some 27, none, .mov (.t 2), 0, 1, false, []⟩,
    ⟨some 28, none, .iaddr 3 (.t 27) (.k (.int .i64 1)), 0, 1, false, []⟩,
    ⟨some 29, none, .faddr 1 1 (.t 28), 0, 1, false, []⟩,
    ⟨some 30, none, .load false 1 (.t 29), 0, 1, false, []⟩,
    ⟨some 31, none, .bin .add (.t 26) (.t 30), 0, 1, false, []⟩,
    ⟨some 32, none, .build [.int .i64 0, .int .i64 0, .str ⟨#[]⟩] [(0, 1, .k (.int .i64 1)), (1, 1, .t 31)], 0, 1, false, []⟩,
    ⟨some 7, none, .alloc [.int .i64 0, .int .i64 0, .str ⟨#[]⟩], 0, 0, true, []⟩,
    ⟨none, none, .store 3 (.t 7) (.t 32), 1, 0, true, []⟩]
def D129x0 : List I := E129x0
theorem evD129x0 (run : Run) (e : Env) (h : Heap) : drawI run D129x0 e h = DrawW (evW run E129x0 e h []) run E129x0 e h := drawI_write run _ e h
def E129x1 : List I := [⟨some 54, none, .faddr 1 1 (.t 3), 0, 0, false, []⟩,
    ⟨some 55, none, .load false 1 (.t 54), 0, 0, false, []⟩,
    ⟨some 56, none, .mov (.t 2), 0, 0, false, []⟩,
    ⟨some 57, none, .iaddr 3 (.t 56) (.k (.int .i64 0)), 0, 0, false, []⟩,
    ⟨some 58, none, .load true 3 (.t 57), 0, 0, false, []⟩,
    ⟨some 59, none, .mov (.t 2), 0, 0, false, []⟩,
    ⟨some 60, none, .iaddr 3 (.t 59) (.k (.int .i64 1)), 0, 0, false, []⟩,
    ⟨some 61, none, .load true 3 (.t 60), 0, 0, false, []⟩,
    ⟨some 62, none, .call 159 [.t 55, .t 58, .t 61] false false, 0, 0, false, []⟩,
    ⟨some 63, none, .call 138 [.t 62] false false, 0, 0, false, []⟩,
    ⟨none, none, .store 3 (.t 6) (.t 63), 0, 0, true, []⟩]
def D129x1 : List I := E129x1
theorem evD129x1 (run : Run) (e : Env) (h : Heap) : drawI run D129x1 e h = DrawW (evW run E129x1 e h []) run E129x1 e h := drawI_write run _ e h
def E129x2 : List I := [⟨some 66, none, .mov (.t 2), 0, 0, false, []⟩,
    ⟨some 67, none, .iaddr 3 (.t 66) (.k (.int .i64 0)), 0, 0, false, []⟩,
    ⟨some 68, none, .load true 3 (.t 67), 0, 0, false, []⟩,
    ⟨some 69, none, .call 161 [.t 68] false false, 0, 0, false, []⟩,
    ⟨some 70, none, .mov (.t 2), 0, 0, false, []⟩,
    ⟨some 71, none, .iaddr 3 (.t 70) (.k (.int .i64 1)), 0, 0, false, []⟩,
    ⟨some 72, none, .load true 3 (.t 71), 0, 0, false, []⟩,
    ⟨some 73, none, .call 161 [.t 72] false false, 0, 0, false, []⟩,
    ⟨some 74, none, .call 160 [.t 69, .t 73] false false, 0, 0, false, []⟩,
    ⟨some 75, none, .call 138 [.t 74] false false, 0, 0, false, []⟩,
    ⟨none, none, .store 3 (.t 6) (.t 75), 0, 0, true, []⟩]
def D129x2 : List I := E129x2
theorem evD129x2 (run : Run) (e : Env) (h : Heap) : drawI run D129x2 e h = DrawW (evW run E129x2 e h []) run E129x2 e h := drawI_write run _ e h
def E129x3 : List I := [⟨some 78, none, .mov (.t 2), 0, 0, false, []⟩,
    ⟨some 79, none, .iaddr 3 (.t 78) (.k (.int .i64 0)), 0, 0, false, []⟩,
    ⟨some 80, none, .load true 3 (.t 79), 0, 0, false, []⟩,
    ⟨some 81, none, .call 161 [.t 80] false false, 0, 0, false, []⟩,
    ⟨some 82, none, .mov (.t 2), 0, 0, false, []⟩,
    ⟨some 83, none, .iaddr 3 (.t 82) (.k (.int .i64 1)), 0, 0, false, []⟩,
    ⟨some 84, none, .load true 3 (.t 83), 0, 0, false, []⟩,
    ⟨some 85, none, .call 161 [.t 84] false false, 0, 0, false, []⟩,
    ⟨some 86, none, .call 162 [.t 81, .t 85] false false, 0, 0, false, []⟩,
    ⟨some 87, none, .call 138 [.t 86] false false, 0, 0, false, []⟩,
    ⟨none, none, .store 3 (.t 6) (.t 87), 0, 0, true, []⟩]
def D129x3 : List I := E129x3
theorem evD129x3 (run : Run) (e : Env) (h : Heap) : drawI run D129x3 e h = DrawW (evW run E129x3 e h []) run E129x3 e h := drawI_write run _ e h
/-- (loop.example/tablehouse/impl.Part).value -/
def F129 : F := ⟨103, [(true, 6, 3, true)],
   .seq (.seg false [⟨some 3, none, .box (.t 0), 0, 0, false, []⟩,
    ⟨some 6, none, .alloc [.int .i64 0, .int .i64 0, .str ⟨#[]⟩], 0, 0, false, []⟩])
   (.seq (.seq (.seg false [⟨some 8, none, .faddr 0 1 (.t 3), 0, 0, false, []⟩,
    ⟨some 9, none, .load false 1 (.t 8), 0, 0, false, []⟩])
   (.block 0 (.seq (.seg false [⟨some 11, none, .bin .eql (.t 9) (.k (.int .i64 1)), 0, 0, false, []⟩,
    ⟨some 10, none, .mov (.t 11), 0, 0, false, []⟩])
   (.cond (.t 10) (.seq (.seg false [⟨some 12, none, .faddr 2 3 (.t 3), 0, 0, false, []⟩,
    ⟨some 13, none, .load true 3 (.t 12), 0, 0, false, []⟩,
    ⟨none, none, .store 3 (.t 6) (.t 13), 0, 0, false, []⟩])
   (.ret))
   (.seq (.seg false [⟨some 15, none, .bin .eql (.t 9) (.k (.int .i64 2)), 0, 0, false, []⟩,
    ⟨some 14, none, .mov (.t 15), 0, 0, false, []⟩])
   (.cond (.t 14) (.seq (.seg false [⟨some 16, none, .mov (.t 1), 0, 0, false, []⟩,
    ⟨some 17, none, .faddr 1 1 (.t 3), 0, 0, false, []⟩,
    ⟨some 18, none, .load false 1 (.t 17), 0, 0, false, []⟩,
    ⟨some 19, none, .iaddr 3 (.t 16) (.t 18), 0, 0, false, []⟩,
    ⟨some 20, none, .load true 3 (.t 19), 0, 0, false, []⟩,
    ⟨none, none, .store 3 (.t 6) (.t 20), 0, 0, false, []⟩])
   (.cutTo [6] (.ret)))
   (.seq (.seg false [⟨some 22, none, .bin .eql (.t 9) (.k (.int .i64 3)), 0, 0, false, []⟩,
    ⟨some 21, none, .mov (.t 22), 0, 0, false, []⟩])
   (.cond (.t 21) (.seq (.seg true D129x0)
   (.cutTo [2, 6, 7] (.seq (.seq (.seg false [⟨some 33, none, .mov (.t 2), 0, 0, false, []⟩,
    ⟨some 34, none, .iaddr 3 (.t 33) (.k (.int .i64 0)), 0, 0, false, []⟩,
    ⟨some 35, none, .faddr 0 1 (.t 34), 0, 0, false, []⟩,
    ⟨some 36, none, .load false 1 (.t 35), 0, 0, false, []⟩,
    ⟨some 37, none, .bin .eql (.t 36) (.k (.int .i64 0)), 0, 0, false, []⟩,
    ⟨some 38, none, .mov (.t 37), 0, 0, false, []⟩,
    ⟨some 39, some (38, false), .mov (.t 2), 0, 0, false, []⟩,
    ⟨some 40, some (38, false), .iaddr 3 (.t 39) (.k (.int .i64 1)), 0, 0, false, []⟩,
    ⟨some 41, some (38, false), .faddr 0 1 (.t 40), 0, 0, false, []⟩,
    ⟨some 42, some (38, false), .load false 1 (.t 41), 0, 0, false, []⟩,
    ⟨some 43, some (38, false), .bin .eql (.t 42) (.k (.int .i64 0)), 0, 0, false, []⟩,
    ⟨some 44, none, .pick (.t 38) (.k (.bool true)) (.t 43), 0, 0, false, []⟩,
    ⟨some 45, none, .mov (.t 44), 0, 0, false, []⟩,
    ⟨some 46, some (45, false), .load true 3 (.t 7), 0, 0, false, []⟩,
    ⟨some 47, some (45, false), .call 128 [.t 46] false false, 0, 0, false, []⟩,
    ⟨some 48, some (45, false), .un .not (.t 47), 0, 0, false, []⟩,
    ⟨some 49, none, .pick (.t 45) (.k (.bool true)) (.t 48), 0, 0, false, []⟩])
   (.cutTo [6, 7, 49] (.cond (.t 49) (.seq (.seg false [⟨some 50, none, .build [.int .i64 0, .int .i64 0, .str ⟨#[]⟩] [], 0, 0, false, []⟩,
    ⟨none, none, .store 3 (.t 6) (.t 50), 0, 0, false, []⟩])
   (.ret))
   (.skip))))
   (.cutTo [6, 7] (.seq (.seg false [⟨some 51, none, .load true 3 (.t 7), 0, 0, false, []⟩,
    ⟨none, none, .store 3 (.t 6) (.t 51), 0, 0, false, []⟩])
   (.ret))))))
   (.seq (.seg false [⟨some 53, none, .bin .eql (.t 9) (.k (.int .i64 4)), 0, 0, false, []⟩,
    ⟨some 52, none, .mov (.t 53), 0, 0, false, []⟩])
   (.cond (.t 52) (.seq (.seg true D129x1)
   (.cutTo [6] (.ret)))
   (.seq (.seg false [⟨some 65, none, .bin .eql (.t 9) (.k (.int .i64 5)), 0, 0, false, []⟩,
    ⟨some 64, none, .mov (.t 65), 0, 0, false, []⟩])
   (.cond (.t 64) (.seq (.seg true D129x2)
   (.cutTo [6] (.ret)))
   (.seq (.seg false [⟨some 77, none, .bin .eql (.t 9) (.k (.int .i64 6)), 0, 0, false, []⟩,
    ⟨some 76, none, .mov (.t 77), 0, 0, false, []⟩])
   (.cond (.t 76) (.seq (.seg true D129x3)
   (.cutTo [6] (.ret)))
   (.seq (.seg false [⟨some 89, none, .bin .eql (.t 9) (.k (.int .i64 7)), 0, 0, false, []⟩,
    ⟨some 88, none, .mov (.t 89), 0, 0, false, []⟩])
   (.cond (.t 88) (.seq (.seg false [⟨some 90, none, .mov (.t 2), 0, 0, false, []⟩,
    ⟨some 91, none, .iaddr 3 (.t 90) (.k (.int .i64 0)), 0, 0, false, []⟩,
    ⟨some 92, none, .load true 3 (.t 91), 0, 0, false, []⟩,
    ⟨some 93, none, .call 161 [.t 92] false false, 0, 0, false, []⟩,
    ⟨some 94, none, .call 163 [.t 93] false false, 0, 0, false, []⟩,
    ⟨some 95, none, .call 138 [.t 94] false false, 0, 0, false, []⟩,
    ⟨none, none, .store 3 (.t 6) (.t 95), 0, 0, false, []⟩])
   (.cutTo [6] (.ret)))
   (.skip)))))))))))))))))
   (.cutTo [2, 6] (.seq (.seg false [⟨some 96, none, .mov (.t 2), 0, 0, false, []⟩,
    ⟨some 97, none, .iaddr 3 (.t 96) (.k (.int .i64 0)), 0, 0, false, []⟩,
    ⟨some 98, none, .faddr 0 1 (.t 97), 0, 0, false, []⟩,
    ⟨some 99, none, .load false 1 (.t 98), 0, 0, false, []⟩,
    ⟨some 100, none, .bin .eql (.t 99) (.k (.int .i64 0)), 0, 0, false, []⟩,
    ⟨some 101, none, .call 164 [.t 100] false false, 0, 0, false, []⟩,
    ⟨some 102, none, .call 138 [.t 101] false false, 0, 0, false, []⟩,
    ⟨none, none, .store 3 (.t 6) (.t 102), 0, 0, false, []⟩])
   (.cutTo [6] (.ret)))))⟩
/-- (loop.example/tablehouse/impl.Value).ok -/
def F128 : F := ⟨46, [(false, 2, 0, false)],
   .seq (.seg false [⟨some 1, none, .box (.t 0), 0, 0, false, []⟩,
    ⟨some 2, none, .mov (.k (.bool false)), 0, 0, false, []⟩])
   (.seq (.seq (.seg false [⟨some 3, none, .faddr 0 1 (.t 1), 0, 0, false, []⟩,
    ⟨some 4, none, .load false 1 (.t 3), 0, 0, false, []⟩])
   (.block 0 (.seq (.seg false [⟨some 6, none, .bin .eql (.t 4) (.k (.int .i64 0)), 0, 0, false, []⟩,
    ⟨some 5, none, .mov (.t 6), 0, 0, false, []⟩])
   (.cond (.t 5) (.seq (.seg false [⟨some 7, none, .load true 3 (.t 1), 0, 0, false, []⟩,
    ⟨some 8, none, .build [.int .i64 0, .int .i64 0, .str ⟨#[]⟩] [], 0, 0, false, []⟩,
    ⟨some 9, none, .eqs false [.int, .int, .str] (.t 7) (.t 8), 0, 0, false, []⟩,
    ⟨some 2, none, .mov (.t 9), 0, 0, false, []⟩])
   (.cutTo [2] (.ret)))
   (.seq (.seg false [⟨some 11, none, .bin .eql (.t 4) (.k (.int .i64 1)), 0, 0, false, []⟩,
    ⟨some 10, none, .mov (.t 11), 0, 0, false, []⟩])
   (.cond (.t 10) (.seq (.seg false [⟨some 12, none, .faddr 2 1 (.t 1), 0, 0, false, []⟩,
    ⟨some 13, none, .load false 1 (.t 12), 0, 0, false, []⟩,
    ⟨some 14, none, .bin .eql (.t 13) (.k (.str ⟨#[]⟩)), 0, 0, false, []⟩,
    ⟨some 15, none, .mov (.t 14), 0, 0, false, []⟩,
    ⟨some 16, some (15, true), .faddr 1 1 (.t 1), 0, 0, false, []⟩,
    ⟨some 17, some (15, true), .load false 1 (.t 16), 0, 0, false, []⟩,
    ⟨some 18, some (15, true), .call 68 [.t 17, .k (.int .i64 (-9999)), .k (.int .i64 9999)] false false, 0, 0, false, []⟩,
    ⟨some 19, none, .pick (.t 15) (.t 18) (.k (.bool false)), 0, 0, false, []⟩,
    ⟨some 2, none, .mov (.t 19), 0, 0, false, []⟩])
   (.cutTo [2] (.ret)))
   (.seq (.seg false [⟨some 21, none, .bin .eql (.t 4) (.k (.int .i64 2)), 0, 0, false, []⟩,
    ⟨some 20, none, .mov (.t 21), 0, 0, false, []⟩])
   (.cond (.t 20) (.seq (.seg false [⟨some 22, none, .faddr 1 1 (.t 1), 0, 0, false, []⟩,
    ⟨some 23, none, .load false 1 (.t 22), 0, 0, false, []⟩,
    ⟨some 24, none, .bin .eql (.t 23) (.k (.int .i64 0)), 0, 0, false, []⟩,
    ⟨some 25, none, .mov (.t 24), 0, 0, false, []⟩,
    ⟨some 26, some (25, true), .faddr 2 1 (.t 1), 0, 0, false, []⟩,
    ⟨some 27, some (25, true), .load false 1 (.t 26), 0, 0, false, []⟩,
    ⟨some 28, some (25, true), .len true (.t 27), 0, 0, false, []⟩,
    ⟨some 29, some (25, true), .bin .leq (.t 28) (.k (.int .i64 6)), 0, 0, false, []⟩,
    ⟨some 30, none, .pick (.t 25) (.t 29) (.k (.bool false)), 0, 0, false, []⟩,
    ⟨some 31, none, .mov (.t 30), 0, 0, false, []⟩,
    ⟨some 32, some (31, true), .faddr 2 1 (.t 1), 0, 0, false, []⟩,
    ⟨some 33, some (31, true), .load false 1 (.t 32), 0, 0, false, []⟩,
    ⟨some 34, some (31, true), .call 158 [.t 33] false false, 0, 0, false, []⟩,
    ⟨some 35, none, .pick (.t 31) (.t 34) (.k (.bool false)), 0, 0, false, []⟩,
    ⟨some 2, none, .mov (.t 35), 0, 0, false, []⟩])
   (.cutTo [2] (.ret)))
   (.seq (.seg false [⟨some 37, none, .bin .eql (.t 4) (.k (.int .i64 3)), 0, 0, false, []⟩,
    ⟨some 36, none, .mov (.t 37), 0, 0, false, []⟩])
   (.cond (.t 36) (.seq (.seg false [⟨some 38, none, .faddr 2 1 (.t 1), 0, 0, false, []⟩,
    ⟨some 39, none, .load false 1 (.t 38), 0, 0, false, []⟩,
    ⟨some 40, none, .bin .eql (.t 39) (.k (.str ⟨#[]⟩)), 0, 0, false, []⟩,
    ⟨some 41, none, .mov (.t 40), 0, 0, false, []⟩,
    ⟨some 42, some (41, true), .faddr 1 1 (.t 1), 0, 0, false, []⟩,
    ⟨some 43, some (41, true), .load false 1 (.t 42), 0, 0, false, []⟩,
    ⟨some 44, some (41, true), .call 68 [.t 43, .k (.int .i64 0), .k (.int .i64 1)] false false, 0, 0, false, []⟩,
    ⟨some 45, none, .pick (.t 41) (.t 44) (.k (.bool false)), 0, 0, false, []⟩,
    ⟨some 2, none, .mov (.t 45), 0, 0, false, []⟩])
   (.cutTo [2] (.ret)))
   (.skip)))))))))))
   (.cutTo [] (.seq (.seg false [⟨some 2, none, .mov (.k (.bool false)), 0, 0, false, []⟩])
   (.ret))))⟩
def E172x0 : List I := [⟨some 5, none, .faddr 0 1 (.t 2), 0, 0, false, []⟩,
    ⟨some 6, none, .load false 1 (.t 5), 0, 0, false, []⟩,
    ⟨some 7, none, .faddr 0 1 (.t 3), 0, 0, false, []⟩,
    ⟨some 8, none, .load false 1 (.t 7), 0, 0, false, []⟩,
    ⟨some 9, none, .call 178 [.t 6, .t 8] false false, 0, 0, false, []⟩,
    ⟨some 10, none, .faddr 1 1 (.t 2), 0, 0, false, []⟩,
    ⟨some 11, none, .load false 1 (.t 10), 0, 0, false, []⟩,
    ⟨some 12, none, .faddr 1 1 (.t 3), 0, 0, false, []⟩,
    ⟨some 13, none, .load false 1 (.t 12), 0, 0, false, []⟩,
    ⟨some 14, none, .call 178 [.t 11, .t 13] false false, 0, 0, false, []⟩,
    ⟨some 15, none, .faddr 2 1 (.t 2), 0, 0, false, []⟩,
    ⟨some 16, none, .load false 1 (.t 15), 0, 0, false, []⟩,
    ⟨some 17, none, .faddr 2 1 (.t 3), 0, 0, false, []⟩,
    ⟨some 18, none, .load false 1 (.t 17), 0, 0, false, []⟩,
    ⟨some 19, none, .call 179 [.t 16, .t 18] false false, 0, 0, false, []⟩,
    ⟨some 20, none, .mksl false 1 [.t 9, .t 14, .t 19], 0, 0, false, []⟩,
    ⟨some 21, none, .call 177 [.t 20] false false, 0, 0, false, []⟩,
    ⟨some 4, none, .mov (.t 21), 0, 0, false, []⟩]
def D172x0 : List I := E172x0
theorem evD172x0 (run : Run) (e : Env) (h : Heap) : drawI run D172x0 e h = DrawS (evQ run E172x0 e h) run E172x0 e h := drawI_quiet run _ (by rfl) e h
/-- (loop.example/tablehouse/impl.Value).order -/
def F172 : F := ⟨22, [(false, 4, 0, false)],
   .seq (.seg false [⟨some 2, none, .box (.t 0), 0, 0, false, []⟩,
    ⟨some 3, none, .box (.t 1), 0, 0, false, []⟩,
    ⟨some 4, none, .mov (.k (.int .i64 0)), 0, 0, false, []⟩])
   (.seq (.seg true D172x0)
   (.cutTo [4] (.ret)))⟩
/-- loop.example/tablehouse/impl.AndOf -/
def F160 : F := ⟨8, [(false, 4, 0, false)],
   .seq (.seg false [⟨some 4, none, .mov (.k (.int .i64 0)), 0, 0, false, []⟩])
   (.seq (.seg false [⟨some 5, none, .mov (.t 0), 0, 0, false, []⟩,
    ⟨some 6, none, .mov (.t 1), 0, 0, false, []⟩,
    ⟨some 7, none, .call 173 [.t 5, .t 6, .k (.int .i64 0)] false false, 0, 0, false, []⟩,
    ⟨some 4, none, .mov (.t 7), 0, 0, false, []⟩])
   (.cutTo [4] (.ret)))⟩
/-- loop.example/tablehouse/impl.ColumnsOk -/
def F71 : F := ⟨11, [(false, 2, 0, false)],
   .seq (.seg false [⟨some 2, none, .mov (.k (.bool false)), 0, 0, false, []⟩])
   (.seq (.seg false [⟨some 3, none, .mov (.t 0), 0, 0, false, []⟩,
    ⟨some 4, none, .len false (.t 3), 0, 0, false, []⟩,
    ⟨some 5, none, .bin .leq (.t 4) (.k (.int .i64 4)), 0, 0, false, []⟩,
    ⟨some 6, none, .mov (.t 5), 0, 0, false, []⟩,
    ⟨some 7, some (6, true), .mov (.t 0), 0, 0, false, []⟩,
    ⟨some 8, some (6, true), .call 124 [.t 7, .k (.clo 125 [])] true false, 0, 0, false, []⟩,
    ⟨some 9, some (6, true), .un .not (.t 8), 0, 0, false, []⟩,
    ⟨some 10, none, .pick (.t 6) (.t 9) (.k (.bool false)), 0, 0, false, []⟩,
    ⟨some 2, none, .mov (.t 10), 0, 0, false, []⟩])
   (.cutTo [2] (.ret)))⟩
/-- loop.example/tablehouse/impl.ColumnsOk$1 -/
def F125 : F := ⟨7, [(false, 2, 0, false)],
   .seq (.seg false [⟨some 1, none, .box (.t 0), 0, 0, false, []⟩,
    ⟨some 2, none, .mov (.k (.bool false)), 0, 0, false, []⟩])
   (.seq (.seg false [⟨some 3, none, .faddr 0 1 (.t 1), 0, 0, false, []⟩,
    ⟨some 4, none, .load false 1 (.t 3), 0, 0, false, []⟩,
    ⟨some 5, none, .call 68 [.t 4, .k (.int .i64 1), .k (.int .i64 3)] false false, 0, 0, false, []⟩,
    ⟨some 6, none, .un .not (.t 5), 0, 0, false, []⟩,
    ⟨some 2, none, .mov (.t 6), 0, 0, false, []⟩])
   (.cutTo [2] (.ret)))⟩
/-- loop.example/tablehouse/impl.Compare -/
def F159 : F := ⟨71, [(false, 6, 0, false)],
   .seq (.seg false [⟨some 4, none, .box (.t 1), 0, 0, false, []⟩,
    ⟨some 5, none, .box (.t 2), 0, 0, false, []⟩,
    ⟨some 6, none, .mov (.k (.int .i64 0)), 0, 0, false, []⟩])
   (.seq (.block 0 (.seq (.seg false [⟨some 9, none, .mov (.t 0), 0, 0, false, []⟩,
    ⟨some 10, none, .call 68 [.t 9, .k (.int .i64 1), .k (.int .i64 4)] false false, 0, 0, false, []⟩,
    ⟨some 11, none, .un .not (.t 10), 0, 0, false, []⟩,
    ⟨some 12, none, .mov (.t 11), 0, 0, false, []⟩,
    ⟨some 13, some (12, false), .load true 3 (.t 4), 0, 0, false, []⟩,
    ⟨some 14, some (12, false), .call 128 [.t 13] false false, 0, 0, false, []⟩,
    ⟨some 15, some (12, false), .un .not (.t 14), 0, 0, false, []⟩,
    ⟨some 16, none, .pick (.t 12) (.k (.bool true)) (.t 15), 0, 0, false, []⟩,
    ⟨some 17, none, .mov (.t 16), 0, 0, false, []⟩,
    ⟨some 18, some (17, false), .load true 3 (.t 5), 0, 0, false, []⟩,
    ⟨some 19, some (17, false), .call 128 [.t 18] false false, 0, 0, false, []⟩,
    ⟨some 20, some (17, false), .un .not (.t 19), 0, 0, false, []⟩,
    ⟨some 21, none, .pick (.t 17) (.k (.bool true)) (.t 20), 0, 0, false, []⟩,
    ⟨some 8, none, .mov (.t 21), 0, 0, false, []⟩])
   (.cutTo [0, 4, 5, 8] (.cond (.t 8) (.seq (.seg false [⟨some 6, none, .mov (.k (.int .i64 (-1))), 0, 0, false, []⟩])
   (.ret))
   (.seq (.seg false [⟨some 23, none, .faddr 0 1 (.t 4), 0, 0, false, []⟩,
    ⟨some 24, none, .load false 1 (.t 23), 0, 0, false, []⟩,
    ⟨some 25, none, .bin .eql (.t 24) (.k (.int .i64 0)), 0, 0, false, []⟩,
    ⟨some 26, none, .mov (.t 25), 0, 0, false, []⟩,
    ⟨some 27, some (26, false), .faddr 0 1 (.t 5), 0, 0, false, []⟩,
    ⟨some 28, some (26, false), .load false 1 (.t 27), 0, 0, false, []⟩,
    ⟨some 29, some (26, false), .bin .eql (.t 28) (.k (.int .i64 0)), 0, 0, false, []⟩,
    ⟨some 30, none, .pick (.t 26) (.k (.bool true)) (.t 29), 0, 0, false, []⟩,
    ⟨some 22, none, .mov (.t 30), 0, 0, false, []⟩])
   (.cutTo [0, 4, 5, 22] (.cond (.t 22) (.seq (.seg false [⟨some 6, none, .mov (.k (.int .i64 2)), 0, 0, false, []⟩])
   (.ret))
   (.seq (.seg false [⟨some 32, none, .faddr 0 1 (.t 4), 0, 0, false, []⟩,
    ⟨some 33, none, .load false 1 (.t 32), 0, 0, false, []⟩,
    ⟨some 34, none, .faddr 0 1 (.t 5), 0, 0, false, []⟩,
    ⟨some 35, none, .load false 1 (.t 34), 0, 0, false, []⟩,
    ⟨some 36, none, .bin .neq (.t 33) (.t 35), 0, 0, false, []⟩,
    ⟨some 31, none, .mov (.t 36), 0, 0, false, []⟩])
   (.cutTo [0, 4, 5, 31] (.cond (.t 31) (.seq (.seg false [⟨some 6, none, .mov (.k (.int .i64 (-1))), 0, 0, false, []⟩])
   (.ret))
   (.skip)))))))))))
   (.cutTo [0, 4, 5] (.seq (.seg false [⟨some 37, none, .load true 3 (.t 4), 0, 0, false, []⟩,
    ⟨some 38, none, .load true 3 (.t 5), 0, 0, false, []⟩,
    ⟨some 39, none, .call 172 [.t 37, .t 38] false false, 0, 0, false, []⟩,
    ⟨some 7, none, .mov (.t 39), 0, 0, false, []⟩])
   (.cutTo [0, 7] (.seq (.seg false [⟨some 40, none, .mov (.t 0), 0, 0, false, []⟩,
    ⟨some 41, none, .bin .eql (.t 40) (.k (.int .i64 1)), 0, 0, false, []⟩,
    ⟨some 42, none, .mov (.t 41), 0, 0, false, []⟩,
    ⟨some 43, some (42, true), .mov (.t 7), 0, 0, false, []⟩,
    ⟨some 44, some (42, true), .bin .eql (.t 43) (.k (.int .i64 0)), 0, 0, false, []⟩,
    ⟨some 45, none, .pick (.t 42) (.t 44) (.k (.bool false)), 0, 0, false, []⟩,
    ⟨some 46, none, .mov (.t 45), 0, 0, false, []⟩,
    ⟨some 47, some (46, false), .mov (.t 0), 0, 0, false, []⟩,
    ⟨some 48, some (46, false), .bin .eql (.t 47) (.k (.int .i64 2)), 0, 0, false, []⟩,
    ⟨some 49, some (46, false), .mov (.t 48), 0, 0, false, []⟩,
    ⟨some 50, some (49, true), .mov (.t 7), 0, 0, false, []⟩,
    ⟨some 51, some (49, true), .bin .neq (.t 50) (.k (.int .i64 0)), 0, 0, false, []⟩,
    ⟨some 52, some (46, false), .pick (.t 49) (.t 51) (.k (.bool false)), 0, 0, false, []⟩,
    ⟨some 53, none, .pick (.t 46) (.k (.bool true)) (.t 52), 0, 0, false, []⟩,
    ⟨some 54, none, .mov (.t 53), 0, 0, false, []⟩,
    ⟨some 55, some (54, false), .mov (.t 0), 0, 0, false, []⟩,
    ⟨some 56, some (54, false), .bin .eql (.t 55) (.k (.int .i64 3)), 0, 0, false, []⟩,
    ⟨some 57, some (54, false), .mov (.t 56), 0, 0, false, []⟩,
    ⟨some 58, some (57, true), .mov (.t 7), 0, 0, false, []⟩,
    ⟨some 59, some (57, true), .bin .lss (.t 58) (.k (.int .i64 0)), 0, 0, false, []⟩,
    ⟨some 60, some (54, false), .pick (.t 57) (.t 59) (.k (.bool false)), 0, 0, false, []⟩,
    ⟨some 61, none, .pick (.t 54) (.k (.bool true)) (.t 60), 0, 0, false, []⟩,
    ⟨some 62, none, .mov (.t 61), 0, 0, false, []⟩,
    ⟨some 63, some (62, false), .mov (.t 0), 0, 0, false, []⟩,
    ⟨some 64, some (62, false), .bin .eql (.t 63) (.k (.int .i64 4)), 0, 0, false, []⟩,
    ⟨some 65, some (62, false), .mov (.t 64), 0, 0, false, []⟩,
    ⟨some 66, some (65, true), .mov (.t 7), 0, 0, false, []⟩,
    ⟨some 67, some (65, true), .bin .leq (.t 66) (.k (.int .i64 0)), 0, 0, false, []⟩,
    ⟨some 68, some (62, false), .pick (.t 65) (.t 67) (.k (.bool false)), 0, 0, false, []⟩,
    ⟨some 69, none, .pick (.t 62) (.k (.bool true)) (.t 68), 0, 0, false, []⟩,
    ⟨some 70, none, .call 164 [.t 69] false false, 0, 0, false, []⟩,
    ⟨some 6, none, .mov (.t 70), 0, 0, false, []⟩])
   (.cutTo [6] (.ret)))))))⟩
def E43x0 : List I := [⟨some 38, none, .load true 5 (.t 7), 0, 0, false, []⟩,
    ⟨some 39, none, .mov (.t 0), 0, 0, false, []⟩,
    ⟨some 40, none, .mov (.t 5), 0, 0, false, []⟩,
    ⟨some 41, none, .mov (.t 5), 0, 0, false, []⟩,
    ⟨some 42, none, .len false (.t 41), 0, 0, false, []⟩,
    ⟨some 43, none, .mov (.t 8), 0, 0, false, []⟩,
    ⟨some 44, none, .bin .sub (.t 42) (.t 43), 0, 0, false, []⟩,
    ⟨some 45, none, .slc false 1 (.t 40) (some (.t 44)) none none, 0, 0, false, []⟩,
    ⟨some 46, none, .call 95 [.t 38, .t 39, .t 45] false false, 0, 0, false, []⟩,
    ⟨some 37, none, .mov (.t 46), 0, 0, false, []⟩,
    ⟨some 47, none, .ext (.t 37) 0, 0, 0, false, []⟩,
    ⟨some 48, none, .ext (.t 37) 1, 0, 0, false, []⟩,
    ⟨some 9, none, .mov (.t 47), 0, 0, false, []⟩,
    ⟨some 10, none, .mov (.t 48), 0, 0, false, []⟩]
def D43x0 : List I := E43x0
theorem evD43x0 (run : Run) (e : Env) (h : Heap) : drawI run D43x0 e h = DrawS (evQ run E43x0 e h) run E43x0 e h := drawI_quiet run _ (by rfl) e h
def B43x0 : C := .seq (.seg false [⟨some 22, none, .bin .lss (.t 21) (.t 20), 0, 0, false, []⟩])
   (.seq (.cond (.t 22) (.skip)
   (.exit 0))
   (.seq (.block 1 (.seq (.seg false [⟨some 23, none, .iaddr 5 (.t 19) (.t 21), 0, 0, false, []⟩,
    ⟨some 24, none, .load true 5 (.t 23), 0, 0, false, []⟩,
    ⟨some 7, none, .alloc [.int .i64 0, .int .i64 0, .int .i64 0, .int .i64 0, .str ⟨#[]⟩], 0, 0, false, []⟩,
    ⟨none, none, .store 5 (.t 7) (.t 24), 0, 0, false, []⟩])
   (.cutTo [0, 5, 7, 19, 20, 21] (.seq (.seg false [⟨some 25, none, .load true 5 (.t 7), 0, 0, false, []⟩,
    ⟨some 26, none, .call 89 [.t 25] false false, 0, 0, false, []⟩,
    ⟨some 8, none, .mov (.t 26), 0, 0, false, []⟩])
   (.seq (.seq (.seg false [⟨some 27, none, .load true 5 (.t 7), 0, 0, false, []⟩,
    ⟨some 28, none, .mov (.t 0), 0, 0, false, []⟩,
    ⟨some 29, none, .call 94 [.t 27, .t 28] false false, 0, 0, false, []⟩,
    ⟨some 30, none, .un .not (.t 29), 0, 0, false, []⟩,
    ⟨some 31, none, .mov (.t 30), 0, 0, false, []⟩,
    ⟨some 32, some (31, false), .mov (.t 5), 0, 0, false, []⟩,
    ⟨some 33, some (31, false), .len false (.t 32), 0, 0, false, []⟩,
    ⟨some 34, some (31, false), .mov (.t 8), 0, 0, false, []⟩,
    ⟨some 35, some (31, false), .bin .lss (.t 33) (.t 34), 0, 0, false, []⟩,
    ⟨some 36, none, .pick (.t 31) (.k (.bool true)) (.t 35), 0, 0, false, []⟩])
   (.cutTo [0, 5, 7, 8, 19, 20, 21, 36] (.cond (.t 36) (.seq (.seg false [⟨some 4, none, .mov (.k (.int .i64 (-1))), 0, 0, false, []⟩])
   (.ret))
   (.skip))))
   (.cutTo [0, 5, 7, 8, 19, 20, 21] (.seq (.seg true D43x0)
   (.cutTo [0, 5, 8, 9, 10, 19, 20, 21] (.seq (.seq (.seg false [⟨some 49, none, .mov (.t 10), 0, 0, false, []⟩,
    ⟨some 50, none, .un .not (.t 49), 0, 0, false, []⟩])
   (.cond (.t 50) (.seq (.seg false [⟨some 4, none, .mov (.k (.int .i64 (-1))), 0, 0, false, []⟩])
   (.ret))
   (.skip)))
   (.seg false [⟨some 51, none, .mov (.t 5), 0, 0, false, []⟩,
    ⟨some 52, none, .mov (.t 5), 0, 0, false, []⟩,
    ⟨some 53, none, .len false (.t 52), 0, 0, false, []⟩,
    ⟨some 54, none, .mov (.t 8), 0, 0, false, []⟩,
    ⟨some 55, none, .bin .sub (.t 53) (.t 54), 0, 0, false, []⟩,
    ⟨some 56, none, .slc false 1 (.t 51) none (some (.t 55)) none, 0, 0, false, []⟩,
    ⟨some 57, none, .mov (.t 9), 0, 0, false, []⟩,
    ⟨some 58, none, .mksl false 1 [.t 57], 0, 0, false, []⟩,
    ⟨some 59, none, .app 1 (.t 56) (.t 58), 0, 0, false, []⟩,
    ⟨some 5, none, .mov (.t 59), 0, 0, false, []⟩]))))))))))
   (.cutTo [0, 5, 19, 20, 21] (.seg false [⟨some 60, none, .bin .add (.t 21) (.k (.int .i64 1)), 0, 0, false, []⟩,
    ⟨some 21, none, .mov (.t 60), 0, 0, false, []⟩]))))
def L43x0 : C := B43x0
theorem evL43x0 (run : Run) (draw : List I → Env → Heap → Option (Env × Heap)) (e : Env) (h : Heap) : evC run draw L43x0 e h = evC run draw B43x0 e h := rfl
/-- loop.example/tablehouse/impl.ExprKind -/
def F43 : F := ⟨67, [(false, 4, 0, false)],
   .seq (.seg false [⟨some 4, none, .mov (.k (.int .i64 0)), 0, 0, false, []⟩])
   (.seq (.seq (.seg false [⟨some 11, none, .mov (.t 0), 0, 0, false, []⟩,
    ⟨some 12, none, .call 71 [.t 11] false false, 0, 0, false, []⟩,
    ⟨some 13, none, .un .not (.t 12), 0, 0, false, []⟩,
    ⟨some 14, none, .mov (.t 13), 0, 0, false, []⟩,
    ⟨some 15, some (14, false), .mov (.t 1), 0, 0, false, []⟩,
    ⟨some 16, some (14, false), .len false (.t 15), 0, 0, false, []⟩,
    ⟨some 17, some (14, false), .bin .gtr (.t 16) (.k (.int .i64 12)), 0, 0, false, []⟩,
    ⟨some 18, none, .pick (.t 14) (.k (.bool true)) (.t 17), 0, 0, false, []⟩])
   (.cutTo [0, 1, 18] (.cond (.t 18) (.seq (.seg false [⟨some 4, none, .mov (.k (.int .i64 (-1))), 0, 0, false, []⟩])
   (.ret))
   (.skip))))
   (.cutTo [0, 1] (.seq (.seg false [⟨some 5, none, .nilrow 1, 0, 0, false, []⟩])
   (.seq (.seq (.seg false [⟨some 19, none, .mov (.t 1), 0, 0, false, []⟩,
    ⟨some 20, none, .len false (.t 19), 0, 0, false, []⟩,
    ⟨some 21, none, .mov (.k (.int .i64 0)), 0, 0, false, []⟩])
   (.block 0 (.loop [0, 5, 19, 20, 21] [4, 5] L43x0)))
   (.seq (.seq (.seg false [⟨some 61, none, .mov (.t 5), 0, 0, false, []⟩,
    ⟨some 62, none, .len false (.t 61), 0, 0, false, []⟩,
    ⟨some 63, none, .bin .neq (.t 62) (.k (.int .i64 1)), 0, 0, false, []⟩])
   (.cond (.t 63) (.seq (.seg false [⟨some 4, none, .mov (.k (.int .i64 (-1))), 0, 0, false, []⟩])
   (.ret))
   (.skip)))
   (.cutTo [5] (.seq (.seg false [⟨some 64, none, .mov (.t 5), 0, 0, false, []⟩,
    ⟨some 65, none, .iaddr 1 (.t 64) (.k (.int .i64 0)), 0, 0, false, []⟩,
    ⟨some 66, none, .load false 1 (.t 65), 0, 0, false, []⟩,
    ⟨some 4, none, .mov (.t 66), 0, 0, false, []⟩])
   (.cutTo [4] (.ret)))))))))⟩
/-- loop.example/tablehouse/impl.ExprMoved -/
def F16 : F := ⟨25, [(false, 6, 0, false)],
   .seq (.seg false [⟨some 6, none, .mov (.k (.sl true 5 [])), 0, 0, false, []⟩])
   (.seq (.seq (.seg false [⟨some 7, none, .mov (.t 0), 0, 0, false, []⟩,
    ⟨some 8, none, .mov (.t 1), 0, 0, false, []⟩,
    ⟨some 9, none, .call 43 [.t 7, .t 8] false false, 0, 0, false, []⟩,
    ⟨some 10, none, .bin .lss (.t 9) (.k (.int .i64 0)), 0, 0, false, []⟩,
    ⟨some 11, none, .mov (.t 10), 0, 0, false, []⟩,
    ⟨some 12, some (11, false), .mov (.t 2), 0, 0, false, []⟩,
    ⟨some 13, some (11, false), .len false (.t 12), 0, 0, false, []⟩,
    ⟨some 14, some (11, false), .mov (.t 0), 0, 0, false, []⟩,
    ⟨some 15, some (11, false), .len false (.t 14), 0, 0, false, []⟩,
    ⟨some 16, some (11, false), .bin .neq (.t 13) (.t 15), 0, 0, false, []⟩,
    ⟨some 17, none, .pick (.t 11) (.k (.bool true)) (.t 16), 0, 0, false, []⟩,
    ⟨some 18, none, .mov (.t 17), 0, 0, false, []⟩,
    ⟨some 19, some (18, false), .mov (.t 2), 0, 0, false, []⟩,
    ⟨some 20, some (18, false), .call 66 [.t 19, .k (.clo 67 [])] true false, 0, 0, false, []⟩,
    ⟨some 21, none, .pick (.t 18) (.k (.bool true)) (.t 20), 0, 0, false, []⟩])
   (.cutTo [1, 2, 21] (.cond (.t 21) (.seq (.seg false [⟨some 6, none, .mov (.k (.sl true 5 [])), 0, 0, false, []⟩])
   (.ret))
   (.skip))))
   (.cutTo [1, 2] (.seq (.seg false [⟨some 22, none, .mov (.t 1), 0, 0, false, []⟩,
    ⟨some 23, none, .mov (.t 2), 0, 0, false, []⟩,
    ⟨some 24, none, .callx 0 69 [.t 22, .t 23], 0, 0, false, []⟩,
    ⟨some 6, none, .mov (.t 24), 0, 0, false, []⟩])
   (.cutTo [6] (.ret)))))⟩
/-- loop.example/tablehouse/impl.ExprMoved$1 -/
def F67 : F := ⟨6, [(false, 2, 0, false)],
   .seq (.seg false [⟨some 2, none, .mov (.k (.bool false)), 0, 0, false, []⟩])
   (.seq (.seg false [⟨some 3, none, .mov (.t 0), 0, 0, false, []⟩,
    ⟨some 4, none, .call 68 [.t 3, .k (.int .i64 0), .k (.int .i64 3)] false false, 0, 0, false, []⟩,
    ⟨some 5, none, .un .not (.t 4), 0, 0, false, []⟩,
    ⟨some 2, none, .mov (.t 5), 0, 0, false, []⟩])
   (.cutTo [2] (.ret)))⟩
/-- loop.example/tablehouse/impl.ExprValue -/
def F21 : F := ⟨21, [(true, 6, 3, true)],
   .seq (.seg false [⟨some 6, none, .alloc [.int .i64 0, .int .i64 0, .str ⟨#[]⟩], 0, 0, false, []⟩])
   (.seq (.seq (.seg false [⟨some 7, none, .mov (.t 0), 0, 0, false, []⟩,
    ⟨some 8, none, .mov (.t 2), 0, 0, false, []⟩,
    ⟨some 9, none, .call 43 [.t 7, .t 8] false false, 0, 0, false, []⟩,
    ⟨some 10, none, .bin .lss (.t 9) (.k (.int .i64 0)), 0, 0, false, []⟩,
    ⟨some 11, none, .mov (.t 10), 0, 0, false, []⟩,
    ⟨some 12, some (11, false), .mov (.t 0), 0, 0, false, []⟩,
    ⟨some 13, some (11, false), .mov (.t 1), 0, 0, false, []⟩,
    ⟨some 14, some (11, false), .call 19 [.t 12, .t 13] false false, 0, 0, false, []⟩,
    ⟨some 15, some (11, false), .un .not (.t 14), 0, 0, false, []⟩,
    ⟨some 16, none, .pick (.t 11) (.k (.bool true)) (.t 15), 0, 0, false, []⟩])
   (.cutTo [1, 2, 6, 16] (.cond (.t 16) (.seq (.seg false [⟨some 17, none, .build [.int .i64 0, .int .i64 0, .str ⟨#[]⟩] [], 0, 0, false, []⟩,
    ⟨none, none, .store 3 (.t 6) (.t 17), 0, 0, false, []⟩])
   (.ret))
   (.skip))))
   (.cutTo [1, 2, 6] (.seq (.seg false [⟨some 18, none, .mov (.t 1), 0, 0, false, []⟩,
    ⟨some 19, none, .mov (.t 2), 0, 0, false, []⟩,
    ⟨some 20, none, .call 74 [.t 18, .t 19] false false, 0, 0, false, []⟩,
    ⟨none, none, .store 3 (.t 6) (.t 20), 0, 0, false, []⟩])
   (.cutTo [6] (.ret)))))⟩
/-- loop.example/tablehouse/impl.NotOf -/
def F163 : F := ⟨10, [(false, 2, 0, false)],
   .seq (.seg false [⟨some 2, none, .mov (.k (.int .i64 0)), 0, 0, false, []⟩])
   (.seq (.seq (.seg false [⟨some 3, none, .mov (.t 0), 0, 0, false, []⟩])
   (.block 0 (.seq (.seg false [⟨some 5, none, .bin .eql (.t 3) (.k (.int .i64 0)), 0, 0, false, []⟩,
    ⟨some 4, none, .mov (.t 5), 0, 0, false, []⟩])
   (.cond (.t 4) (.seq (.seg false [⟨some 2, none, .mov (.k (.int .i64 1)), 0, 0, false, []⟩])
   (.ret))
   (.seq (.seg false [⟨some 7, none, .bin .eql (.t 3) (.k (.int .i64 1)), 0, 0, false, []⟩,
    ⟨some 6, none, .mov (.t 7), 0, 0, false, []⟩])
   (.cond (.t 6) (.seq (.seg false [⟨some 2, none, .mov (.k (.int .i64 0)), 0, 0, false, []⟩])
   (.ret))
   (.seq (.seg false [⟨some 9, none, .bin .eql (.t 3) (.k (.int .i64 2)), 0, 0, false, []⟩,
    ⟨some 8, none, .mov (.t 9), 0, 0, false, []⟩])
   (.cond (.t 8) (.seq (.seg false [⟨some 2, none, .mov (.k (.int .i64 2)), 0, 0, false, []⟩])
   (.ret))
   (.skip)))))))))
   (.cutTo [] (.seq (.seg false [⟨some 2, none, .mov (.k (.int .i64 (-1))), 0, 0, false, []⟩])
   (.ret))))⟩
/-- loop.example/tablehouse/impl.OrOf -/
def F162 : F := ⟨8, [(false, 4, 0, false)],
   .seq (.seg false [⟨some 4, none, .mov (.k (.int .i64 0)), 0, 0, false, []⟩])
   (.seq (.seg false [⟨some 5, none, .mov (.t 0), 0, 0, false, []⟩,
    ⟨some 6, none, .mov (.t 1), 0, 0, false, []⟩,
    ⟨some 7, none, .call 173 [.t 5, .t 6, .k (.int .i64 1)] false false, 0, 0, false, []⟩,
    ⟨some 4, none, .mov (.t 7), 0, 0, false, []⟩])
   (.cutTo [4] (.ret)))⟩
def E19x0 : List I := [⟨some 29, none, .faddr 0 1 (.t 6), 0, 0, false, []⟩,
    ⟨some 30, none, .load false 1 (.t 29), 0, 0, false, []⟩,
    ⟨some 31, none, .mov (.t 0), 0, 0, false, []⟩,
    ⟨some 32, none, .mov (.t 5), 0, 0, false, []⟩,
    ⟨some 33, none, .iaddr 2 (.t 31) (.t 32), 0, 0, false, []⟩,
    ⟨some 34, none, .faddr 0 1 (.t 33), 0, 0, false, []⟩,
    ⟨some 35, none, .load false 1 (.t 34), 0, 0, false, []⟩,
    ⟨some 36, none, .bin .neq (.t 30) (.t 35), 0, 0, false, []⟩,
    ⟨some 37, none, .mov (.t 36), 0, 0, false, []⟩,
    ⟨some 38, some (37, true), .faddr 0 1 (.t 6), 0, 0, false, []⟩,
    ⟨some 39, some (37, true), .load false 1 (.t 38), 0, 0, false, []⟩,
    ⟨some 40, some (37, true), .bin .neq (.t 39) (.k (.int .i64 0)), 0, 0, false, []⟩,
    ⟨some 41, some (37, true), .mov (.t 40), 0, 0, false, []⟩,
    ⟨some 42, some (41, false), .mov (.t 0), 0, 0, false, []⟩,
    ⟨some 43, some (41, false), .mov (.t 5), 0, 0, false, []⟩,
    ⟨some 44, some (41, false), .iaddr 2 (.t 42) (.t 43), 0, 0, false, []⟩,
    ⟨some 45, some (41, false), .faddr 1 1 (.t 44), 0, 0, false, []⟩,
    ⟨some 46, some (41, false), .load false 1 (.t 45), 0, 0, false, []⟩,
    ⟨some 47, some (41, false), .un .not (.t 46), 0, 0, false, []⟩,
    ⟨some 48, some (37, true), .pick (.t 41) (.k (.bool true)) (.t 47), 0, 0, false, []⟩,
    ⟨some 49, none, .pick (.t 37) (.t 48) (.k (.bool false)), 0, 0, false, []⟩]
def D19x0 : List I := E19x0
theorem evD19x0 (run : Run) (e : Env) (h : Heap) : drawI run D19x0 e h = DrawS (evQ run E19x0 e h) run E19x0 e h := drawI_quiet run _ (by rfl) e h
def B19x0 : C := .seq (.seg false [⟨some 25, none, .bin .lss (.t 24) (.t 23), 0, 0, false, []⟩])
   (.seq (.cond (.t 25) (.skip)
   (.exit 0))
   (.seq (.block 1 (.seq (.seg false [⟨some 26, none, .mov (.t 24), 0, 0, false, []⟩,
    ⟨some 27, none, .iaddr 3 (.t 22) (.t 24), 0, 0, false, []⟩,
    ⟨some 28, none, .load true 3 (.t 27), 0, 0, false, []⟩,
    ⟨some 6, none, .alloc [.int .i64 0, .int .i64 0, .str ⟨#[]⟩], 0, 0, false, []⟩,
    ⟨some 5, none, .mov (.t 26), 0, 0, false, []⟩,
    ⟨none, none, .store 3 (.t 6) (.t 28), 0, 0, false, []⟩])
   (.cutTo [0, 5, 6, 22, 23, 24] (.seq (.seg true D19x0)
   (.cutTo [0, 22, 23, 24, 49] (.cond (.t 49) (.seq (.seg false [⟨some 4, none, .mov (.k (.bool false)), 0, 0, false, []⟩])
   (.ret))
   (.skip)))))))
   (.cutTo [0, 22, 23, 24] (.seg false [⟨some 50, none, .bin .add (.t 24) (.k (.int .i64 1)), 0, 0, false, []⟩,
    ⟨some 24, none, .mov (.t 50), 0, 0, false, []⟩]))))
def L19x0 : C := B19x0
theorem evL19x0 (run : Run) (draw : List I → Env → Heap → Option (Env × Heap)) (e : Env) (h : Heap) : evC run draw L19x0 e h = evC run draw B19x0 e h := rfl
/-- loop.example/tablehouse/impl.RowFits -/
def F19 : F := ⟨51, [(false, 4, 0, false)],
   .seq (.seg false [⟨some 4, none, .mov (.k (.bool false)), 0, 0, false, []⟩])
   (.seq (.seq (.seg false [⟨some 7, none, .mov (.t 0), 0, 0, false, []⟩,
    ⟨some 8, none, .call 71 [.t 7] false false, 0, 0, false, []⟩,
    ⟨some 9, none, .un .not (.t 8), 0, 0, false, []⟩,
    ⟨some 10, none, .mov (.t 9), 0, 0, false, []⟩,
    ⟨some 11, some (10, false), .mov (.t 1), 0, 0, false, []⟩,
    ⟨some 12, some (10, false), .call 72 [.t 11] false false, 0, 0, false, []⟩,
    ⟨some 13, some (10, false), .un .not (.t 12), 0, 0, false, []⟩,
    ⟨some 14, none, .pick (.t 10) (.k (.bool true)) (.t 13), 0, 0, false, []⟩,
    ⟨some 15, none, .mov (.t 14), 0, 0, false, []⟩,
    ⟨some 16, some (15, false), .mov (.t 1), 0, 0, false, []⟩,
    ⟨some 17, some (15, false), .len false (.t 16), 0, 0, false, []⟩,
    ⟨some 18, some (15, false), .mov (.t 0), 0, 0, false, []⟩,
    ⟨some 19, some (15, false), .len false (.t 18), 0, 0, false, []⟩,
    ⟨some 20, some (15, false), .bin .neq (.t 17) (.t 19), 0, 0, false, []⟩,
    ⟨some 21, none, .pick (.t 15) (.k (.bool true)) (.t 20), 0, 0, false, []⟩])
   (.cutTo [0, 1, 21] (.cond (.t 21) (.seq (.seg false [⟨some 4, none, .mov (.k (.bool false)), 0, 0, false, []⟩])
   (.ret))
   (.skip))))
   (.cutTo [0, 1] (.seq (.seq (.seg false [⟨some 22, none, .mov (.t 1), 0, 0, false, []⟩,
    ⟨some 23, none, .len false (.t 22), 0, 0, false, []⟩,
    ⟨some 24, none, .mov (.k (.int .i64 0)), 0, 0, false, []⟩])
   (.block 0 (.loop [0, 22, 23, 24] [4] L19x0)))
   (.seq (.seg false [⟨some 4, none, .mov (.k (.bool true)), 0, 0, false, []⟩])
   (.ret)))))⟩
/-- loop.example/tablehouse/impl.RowOk -/
def F72 : F := ⟨11, [(false, 2, 0, false)],
   .seq (.seg false [⟨some 2, none, .mov (.k (.bool false)), 0, 0, false, []⟩])
   (.seq (.seg false [⟨some 3, none, .mov (.t 0), 0, 0, false, []⟩,
    ⟨some 4, none, .len false (.t 3), 0, 0, false, []⟩,
    ⟨some 5, none, .bin .leq (.t 4) (.k (.int .i64 4)), 0, 0, false, []⟩,
    ⟨some 6, none, .mov (.t 5), 0, 0, false, []⟩,
    ⟨some 7, some (6, true), .mov (.t 0), 0, 0, false, []⟩,
    ⟨some 8, some (6, true), .call 126 [.t 7, .k (.clo 127 [])] true false, 0, 0, false, []⟩,
    ⟨some 9, some (6, true), .un .not (.t 8), 0, 0, false, []⟩,
    ⟨some 10, none, .pick (.t 6) (.t 9) (.k (.bool false)), 0, 0, false, []⟩,
    ⟨some 2, none, .mov (.t 10), 0, 0, false, []⟩])
   (.cutTo [2] (.ret)))⟩
/-- loop.example/tablehouse/impl.RowOk$1 -/
def F127 : F := ⟨6, [(false, 2, 0, false)],
   .seq (.seg false [⟨some 1, none, .box (.t 0), 0, 0, false, []⟩,
    ⟨some 2, none, .mov (.k (.bool false)), 0, 0, false, []⟩])
   (.seq (.seg false [⟨some 3, none, .load true 3 (.t 1), 0, 0, false, []⟩,
    ⟨some 4, none, .call 128 [.t 3] false false, 0, 0, false, []⟩,
    ⟨some 5, none, .un .not (.t 4), 0, 0, false, []⟩,
    ⟨some 2, none, .mov (.t 5), 0, 0, false, []⟩])
   (.cutTo [2] (.ret)))⟩
/-- loop.example/tablehouse/impl.RowsOk -/
def F51 : F := ⟨13, [(false, 4, 0, false)],
   .seq (.seg false [⟨some 2, none, .box (.t 0), 0, 0, false, []⟩,
    ⟨some 4, none, .mov (.k (.bool false)), 0, 0, false, []⟩])
   (.seq (.seg false [⟨some 5, none, .load false 1 (.t 2), 0, 0, false, []⟩,
    ⟨some 6, none, .call 71 [.t 5] false false, 0, 0, false, []⟩,
    ⟨some 7, none, .mov (.t 6), 0, 0, false, []⟩,
    ⟨some 8, some (7, true), .mov (.t 1), 0, 0, false, []⟩,
    ⟨some 9, some (7, true), .mkclo 111 [.t 2], 0, 0, false, []⟩,
    ⟨some 10, some (7, true), .call 110 [.t 8, .t 9] true false, 0, 0, false, []⟩,
    ⟨some 11, some (7, true), .un .not (.t 10), 0, 0, false, []⟩,
    ⟨some 12, none, .pick (.t 7) (.t 11) (.k (.bool false)), 0, 0, false, []⟩,
    ⟨some 4, none, .mov (.t 12), 0, 0, false, []⟩])
   (.cutTo [4] (.ret)))⟩
/-- loop.example/tablehouse/impl.RowsOk$1 -/
def F111 : F := ⟨8, [(false, 3, 0, false)],
   .seq (.seg false [⟨some 3, none, .mov (.k (.bool false)), 0, 0, false, []⟩])
   (.seq (.seg false [⟨some 4, none, .load false 1 (.t 1), 0, 0, false, []⟩,
    ⟨some 5, none, .mov (.t 0), 0, 0, false, []⟩,
    ⟨some 6, none, .call 19 [.t 4, .t 5] false false, 0, 0, false, []⟩,
    ⟨some 7, none, .un .not (.t 6), 0, 0, false, []⟩,
    ⟨some 3, none, .mov (.t 7), 0, 0, false, []⟩])
   (.cutTo [3] (.ret)))⟩
/-- loop.example/tablehouse/impl.TruthOf -/
def F161 : F := ⟨17, [(false, 2, 0, false)],
   .seq (.seg false [⟨some 1, none, .box (.t 0), 0, 0, false, []⟩,
    ⟨some 2, none, .mov (.k (.int .i64 0)), 0, 0, false, []⟩])
   (.seq (.block 0 (.seq (.seg false [⟨some 4, none, .load true 3 (.t 1), 0, 0, false, []⟩,
    ⟨some 5, none, .call 128 [.t 4] false false, 0, 0, false, []⟩,
    ⟨some 6, none, .un .not (.t 5), 0, 0, false, []⟩,
    ⟨some 3, none, .mov (.t 6), 0, 0, false, []⟩])
   (.cutTo [1, 3] (.cond (.t 3) (.seq (.seg false [⟨some 2, none, .mov (.k (.int .i64 (-1))), 0, 0, false, []⟩])
   (.ret))
   (.seq (.seg false [⟨some 8, none, .faddr 0 1 (.t 1), 0, 0, false, []⟩,
    ⟨some 9, none, .load false 1 (.t 8), 0, 0, false, []⟩,
    ⟨some 10, none, .bin .eql (.t 9) (.k (.int .i64 0)), 0, 0, false, []⟩,
    ⟨some 7, none, .mov (.t 10), 0, 0, false, []⟩])
   (.cutTo [1, 7] (.cond (.t 7) (.seq (.seg false [⟨some 2, none, .mov (.k (.int .i64 2)), 0, 0, false, []⟩])
   (.ret))
   (.seq (.seg false [⟨some 12, none, .faddr 0 1 (.t 1), 0, 0, false, []⟩,
    ⟨some 13, none, .load false 1 (.t 12), 0, 0, false, []⟩,
    ⟨some 14, none, .bin .eql (.t 13) (.k (.int .i64 3)), 0, 0, false, []⟩,
    ⟨some 11, none, .mov (.t 14), 0, 0, false, []⟩])
   (.cutTo [1, 11] (.cond (.t 11) (.seq (.seg false [⟨some 15, none, .faddr 1 1 (.t 1), 0, 0, false, []⟩,
    ⟨some 16, none, .load false 1 (.t 15), 0, 0, false, []⟩,
    ⟨some 2, none, .mov (.t 16), 0, 0, false, []⟩])
   (.ret))
   (.skip)))))))))))
   (.cutTo [] (.seq (.seg false [⟨some 2, none, .mov (.k (.int .i64 (-1))), 0, 0, false, []⟩])
   (.ret))))⟩
/-- loop.example/tablehouse/impl.TruthOk -/
def F180 : F := ⟨5, [(false, 2, 0, false)],
   .seq (.seg false [⟨some 2, none, .mov (.k (.bool false)), 0, 0, false, []⟩])
   (.seq (.seg false [⟨some 3, none, .mov (.t 0), 0, 0, false, []⟩,
    ⟨some 4, none, .call 68 [.t 3, .k (.int .i64 0), .k (.int .i64 2)] false false, 0, 0, false, []⟩,
    ⟨some 2, none, .mov (.t 4), 0, 0, false, []⟩])
   (.ret))⟩
/-- loop.example/tablehouse/impl.ValueOf -/
def F138 : F := ⟨9, [(true, 2, 3, true)],
   .seq (.seg false [⟨some 2, none, .alloc [.int .i64 0, .int .i64 0, .str ⟨#[]⟩], 0, 0, false, []⟩])
   (.seq (.seq (.seg false [⟨some 3, none, .mov (.t 0), 0, 0, false, []⟩,
    ⟨some 4, none, .call 68 [.t 3, .k (.int .i64 0), .k (.int .i64 1)] false false, 0, 0, false, []⟩,
    ⟨some 5, none, .un .not (.t 4), 0, 0, false, []⟩])
   (.cond (.t 5) (.seq (.seg false [⟨some 6, none, .build [.int .i64 0, .int .i64 0, .str ⟨#[]⟩] [], 0, 0, false, []⟩,
    ⟨none, none, .store 3 (.t 2) (.t 6), 0, 0, false, []⟩])
   (.ret))
   (.skip)))
   (.cutTo [0, 2] (.seq (.seg false [⟨some 7, none, .mov (.t 0), 0, 0, false, []⟩,
    ⟨some 8, none, .build [.int .i64 0, .int .i64 0, .str ⟨#[]⟩] [(0, 1, .k (.int .i64 3)), (1, 1, .t 7)], 0, 0, false, []⟩,
    ⟨none, none, .store 3 (.t 2) (.t 8), 0, 0, false, []⟩])
   (.ret))))⟩
/-- loop.example/tablehouse/impl.ValueOk -/
def F73 : F := ⟨5, [(false, 2, 0, false)],
   .seq (.seg false [⟨some 1, none, .box (.t 0), 0, 0, false, []⟩,
    ⟨some 2, none, .mov (.k (.bool false)), 0, 0, false, []⟩])
   (.seq (.seg false [⟨some 3, none, .load true 3 (.t 1), 0, 0, false, []⟩,
    ⟨some 4, none, .call 128 [.t 3] false false, 0, 0, false, []⟩,
    ⟨some 2, none, .mov (.t 4), 0, 0, false, []⟩])
   (.ret))⟩
/-- loop.example/tablehouse/impl.between -/
def F68 : F := ⟨15, [(false, 6, 0, false)],
   .seq (.seg false [⟨some 6, none, .mov (.k (.bool false)), 0, 0, false, []⟩])
   (.seq (.seg false [⟨some 7, none, .mov (.t 0), 0, 0, false, []⟩,
    ⟨some 8, none, .mov (.t 1), 0, 0, false, []⟩,
    ⟨some 9, none, .bin .geq (.t 7) (.t 8), 0, 0, false, []⟩,
    ⟨some 10, none, .mov (.t 9), 0, 0, false, []⟩,
    ⟨some 11, some (10, true), .mov (.t 0), 0, 0, false, []⟩,
    ⟨some 12, some (10, true), .mov (.t 2), 0, 0, false, []⟩,
    ⟨some 13, some (10, true), .bin .leq (.t 11) (.t 12), 0, 0, false, []⟩,
    ⟨some 14, none, .pick (.t 10) (.t 13) (.k (.bool false)), 0, 0, false, []⟩,
    ⟨some 6, none, .mov (.t 14), 0, 0, false, []⟩])
   (.cutTo [6] (.ret)))⟩
def B69x0 : C := .seq (.seg false [⟨some 13, none, .bin .lss (.t 12) (.t 11), 0, 0, false, []⟩])
   (.seq (.cond (.t 13) (.skip)
   (.exit 0))
   (.seq (.block 1 (.seq (.seg false [⟨some 14, none, .mov (.t 12), 0, 0, false, []⟩,
    ⟨some 15, none, .iaddr 5 (.t 10) (.t 12), 0, 0, false, []⟩,
    ⟨some 16, none, .load true 5 (.t 15), 0, 0, false, []⟩,
    ⟨some 7, none, .alloc [.int .i64 0, .int .i64 0, .int .i64 0, .int .i64 0, .str ⟨#[]⟩], 0, 0, false, []⟩,
    ⟨some 6, none, .mov (.t 14), 0, 0, false, []⟩,
    ⟨none, none, .store 5 (.t 7) (.t 16), 0, 0, false, []⟩])
   (.cutTo [1, 5, 6, 7, 10, 11, 12] (.seq (.seg false [⟨some 17, none, .faddr 0 1 (.t 7), 0, 0, false, []⟩,
    ⟨some 18, none, .load false 1 (.t 17), 0, 0, false, []⟩,
    ⟨some 19, none, .bin .eql (.t 18) (.k (.int .i64 2)), 0, 0, false, []⟩])
   (.cond (.t 19) (.seg false [⟨some 20, none, .mov (.t 5), 0, 0, false, []⟩,
    ⟨some 21, none, .mov (.t 6), 0, 0, false, []⟩,
    ⟨some 22, none, .mov (.t 1), 0, 0, false, []⟩,
    ⟨some 23, none, .faddr 1 1 (.t 7), 0, 0, false, []⟩,
    ⟨some 24, none, .load false 1 (.t 23), 0, 0, false, []⟩,
    ⟨some 25, none, .iaddr 1 (.t 22) (.t 24), 0, 0, false, []⟩,
    ⟨some 26, none, .load false 1 (.t 25), 0, 0, false, []⟩,
    ⟨some 27, none, .iaddr 5 (.t 20) (.t 21), 0, 0, false, []⟩,
    ⟨some 28, none, .faddr 1 1 (.t 27), 0, 0, false, []⟩,
    ⟨none, none, .store 1 (.t 28) (.t 26), 0, 0, false, []⟩])
   (.skip))))))
   (.cutTo [1, 5, 10, 11, 12] (.seg false [⟨some 29, none, .bin .add (.t 12) (.k (.int .i64 1)), 0, 0, false, []⟩,
    ⟨some 12, none, .mov (.t 29), 0, 0, false, []⟩]))))
def L69x0 : C := B69x0
theorem evL69x0 (run : Run) (draw : List I → Env → Heap → Option (Env × Heap)) (e : Env) (h : Heap) : evC run draw L69x0 e h = evC run draw B69x0 e h := rfl
/-- loop.example/tablehouse/impl.exprMoved -/
def F69 : F := ⟨31, [(false, 4, 0, false)],
   .seq (.seg false [⟨some 4, none, .mov (.k (.sl true 5 [])), 0, 0, false, []⟩])
   (.seq (.seg false [⟨some 8, none, .mov (.t 0), 0, 0, false, []⟩,
    ⟨some 9, none, .callx 0 123 [.t 8], 0, 0, false, []⟩,
    ⟨some 5, none, .mov (.t 9), 0, 0, false, []⟩])
   (.seq (.seq (.seg false [⟨some 10, none, .mov (.t 5), 0, 0, false, []⟩,
    ⟨some 11, none, .len false (.t 10), 0, 0, false, []⟩,
    ⟨some 12, none, .mov (.k (.int .i64 0)), 0, 0, false, []⟩])
   (.block 0 (.loop [1, 5, 10, 11, 12] [5] L69x0)))
   (.seq (.seg false [⟨some 30, none, .mov (.t 5), 0, 0, false, []⟩,
    ⟨some 4, none, .mov (.t 30), 0, 0, false, []⟩])
   (.ret))))⟩
def E74x0 : List I := [⟨some 21, none, .load true 5 (.t 7), 0, 1, false, []⟩,
    ⟨some 22, none, .mov (.t 0), 0, 1, false, []⟩,
    ⟨some 23, none, .mov (.t 5), 0, 1, false, []⟩,
    ⟨some 24, none, .mov (.t 8), 0, 1, false, []⟩,
    ⟨some 25, none, .slc false 3 (.t 23) (some (.t 24)) none none, 0, 1, false, []⟩,
    ⟨some 26, none, .call 129 [.t 21, .t 22, .t 25] false false, 0, 1, false, []⟩,
    ⟨some 9, none, .alloc [.int .i64 0, .int .i64 0, .str ⟨#[]⟩], 0, 0, true, []⟩,
    ⟨none, none, .store 3 (.t 9) (.t 26), 1, 0, true, []⟩]
def D74x0 : List I := E74x0
theorem evD74x0 (run : Run) (e : Env) (h : Heap) : drawI run D74x0 e h = DrawW (evW run E74x0 e h []) run E74x0 e h := drawI_write run _ e h
def E74x1 : List I := [⟨some 27, none, .mov (.t 5), 0, 0, false, [5]⟩,
    ⟨some 28, none, .mov (.t 8), 0, 0, false, []⟩,
    ⟨some 29, none, .slc false 3 (.t 27) none (some (.t 28)) none, 0, 0, false, []⟩,
    ⟨some 30, none, .load true 3 (.t 9), 0, 0, false, []⟩,
    ⟨some 31, none, .mksl false 3 [.t 30], 0, 0, false, []⟩,
    ⟨some 32, none, .app 3 (.t 29) (.t 31), 0, 0, true, []⟩,
    ⟨some 5, none, .mov (.t 32), 1, 1, false, []⟩]
def D74x1 : List I := E74x1
theorem evD74x1 (run : Run) (e : Env) (h : Heap) : drawI run D74x1 e h = DrawW (evW run E74x1 e h []) run E74x1 e h := drawI_write run _ e h
def B74x0 : C := .seq (.seg false [⟨some 13, none, .bin .lss (.t 12) (.t 11), 0, 0, false, []⟩])
   (.seq (.cond (.t 13) (.skip)
   (.exit 0))
   (.seq (.block 1 (.seq (.seg false [⟨some 14, none, .iaddr 5 (.t 10) (.t 12), 0, 0, false, []⟩,
    ⟨some 15, none, .load true 5 (.t 14), 0, 0, false, []⟩,
    ⟨some 7, none, .alloc [.int .i64 0, .int .i64 0, .int .i64 0, .int .i64 0, .str ⟨#[]⟩], 0, 0, false, []⟩,
    ⟨none, none, .store 5 (.t 7) (.t 15), 0, 0, false, []⟩])
   (.cutTo [0, 4, 5, 7, 10, 11, 12] (.seq (.seg false [⟨some 16, none, .mov (.t 5), 0, 0, false, []⟩,
    ⟨some 17, none, .len false (.t 16), 0, 0, false, []⟩,
    ⟨some 18, none, .load true 5 (.t 7), 0, 0, false, []⟩,
    ⟨some 19, none, .call 89 [.t 18] false false, 0, 0, false, []⟩,
    ⟨some 20, none, .bin .sub (.t 17) (.t 19), 0, 0, false, []⟩,
    ⟨some 8, none, .mov (.t 20), 0, 0, false, []⟩])
   (.cutTo [0, 4, 5, 7, 8, 10, 11, 12] (.seq (.seg true D74x0)
   (.cutTo [0, 4, 5, 8, 9, 10, 11, 12] (.seg true D74x1))))))))
   (.cutTo [0, 4, 5, 10, 11, 12] (.seg false [⟨some 33, none, .bin .add (.t 12) (.k (.int .i64 1)), 0, 0, false, []⟩,
    ⟨some 12, none, .mov (.t 33), 0, 0, false, []⟩]))))
def L74x0 : C := B74x0
theorem evL74x0 (run : Run) (draw : List I → Env → Heap → Option (Env × Heap)) (e : Env) (h : Heap) : evC run draw L74x0 e h = evC run draw B74x0 e h := rfl
/-- loop.example/tablehouse/impl.exprValue -/
def F74 : F := ⟨37, [(true, 4, 3, true)],
   .seq (.seg false [⟨some 4, none, .alloc [.int .i64 0, .int .i64 0, .str ⟨#[]⟩], 0, 0, false, []⟩])
   (.seq (.seg false [⟨some 5, none, .nilrow 3, 0, 0, false, []⟩])
   (.seq (.seq (.seg false [⟨some 10, none, .mov (.t 1), 0, 0, false, []⟩,
    ⟨some 11, none, .len false (.t 10), 0, 0, false, []⟩,
    ⟨some 12, none, .mov (.k (.int .i64 0)), 0, 0, false, []⟩])
   (.block 0 (.loop [0, 4, 5, 10, 11, 12] [4, 5] L74x0)))
   (.seq (.seg false [⟨some 34, none, .mov (.t 5), 0, 0, false, []⟩,
    ⟨some 35, none, .iaddr 3 (.t 34) (.k (.int .i64 0)), 0, 0, false, []⟩,
    ⟨some 36, none, .load true 3 (.t 35), 0, 0, false, []⟩,
    ⟨none, none, .store 3 (.t 4) (.t 36), 0, 0, false, []⟩])
   (.cutTo [4] (.ret)))))⟩
/-- loop.example/tablehouse/impl.fold -/
def F173 : F := ⟨35, [(false, 6, 0, false)],
   .seq (.seg false [⟨some 6, none, .mov (.k (.int .i64 0)), 0, 0, false, []⟩])
   (.seq (.block 0 (.seq (.seg false [⟨some 8, none, .mov (.t 0), 0, 0, false, []⟩,
    ⟨some 9, none, .call 180 [.t 8] false false, 0, 0, false, []⟩,
    ⟨some 10, none, .un .not (.t 9), 0, 0, false, []⟩,
    ⟨some 11, none, .mov (.t 10), 0, 0, false, []⟩,
    ⟨some 12, some (11, false), .mov (.t 1), 0, 0, false, []⟩,
    ⟨some 13, some (11, false), .call 180 [.t 12] false false, 0, 0, false, []⟩,
    ⟨some 14, some (11, false), .un .not (.t 13), 0, 0, false, []⟩,
    ⟨some 15, none, .pick (.t 11) (.k (.bool true)) (.t 14), 0, 0, false, []⟩,
    ⟨some 7, none, .mov (.t 15), 0, 0, false, []⟩])
   (.cutTo [0, 1, 2, 7] (.cond (.t 7) (.seq (.seg false [⟨some 6, none, .mov (.k (.int .i64 (-1))), 0, 0, false, []⟩])
   (.ret))
   (.seq (.seg false [⟨some 17, none, .mov (.t 0), 0, 0, false, []⟩,
    ⟨some 18, none, .mov (.t 2), 0, 0, false, []⟩,
    ⟨some 19, none, .bin .eql (.t 17) (.t 18), 0, 0, false, []⟩,
    ⟨some 20, none, .mov (.t 19), 0, 0, false, []⟩,
    ⟨some 21, some (20, false), .mov (.t 1), 0, 0, false, []⟩,
    ⟨some 22, some (20, false), .mov (.t 2), 0, 0, false, []⟩,
    ⟨some 23, some (20, false), .bin .eql (.t 21) (.t 22), 0, 0, false, []⟩,
    ⟨some 24, none, .pick (.t 20) (.k (.bool true)) (.t 23), 0, 0, false, []⟩,
    ⟨some 16, none, .mov (.t 24), 0, 0, false, []⟩])
   (.cutTo [0, 1, 2, 16] (.cond (.t 16) (.seq (.seg false [⟨some 25, none, .mov (.t 2), 0, 0, false, []⟩,
    ⟨some 6, none, .mov (.t 25), 0, 0, false, []⟩])
   (.ret))
   (.seq (.seg false [⟨some 27, none, .mov (.t 0), 0, 0, false, []⟩,
    ⟨some 28, none, .bin .eql (.t 27) (.k (.int .i64 2)), 0, 0, false, []⟩,
    ⟨some 29, none, .mov (.t 28), 0, 0, false, []⟩,
    ⟨some 30, some (29, false), .mov (.t 1), 0, 0, false, []⟩,
    ⟨some 31, some (29, false), .bin .eql (.t 30) (.k (.int .i64 2)), 0, 0, false, []⟩,
    ⟨some 32, none, .pick (.t 29) (.k (.bool true)) (.t 31), 0, 0, false, []⟩,
    ⟨some 26, none, .mov (.t 32), 0, 0, false, []⟩])
   (.cutTo [2, 26] (.cond (.t 26) (.seq (.seg false [⟨some 6, none, .mov (.k (.int .i64 2)), 0, 0, false, []⟩])
   (.ret))
   (.skip)))))))))))
   (.cutTo [2] (.seq (.seg false [⟨some 33, none, .mov (.t 2), 0, 0, false, []⟩,
    ⟨some 34, none, .bin .sub (.k (.int .i64 1)) (.t 33), 0, 0, false, []⟩,
    ⟨some 6, none, .mov (.t 34), 0, 0, false, []⟩])
   (.ret))))⟩
def B158x0 : C := .seq (.seg false [⟨some 9, none, .bin .lss (.t 8) (.t 7), 0, 0, false, []⟩])
   (.seq (.cond (.t 9) (.skip)
   (.exit 0))
   (.seq (.block 1 (.seq (.seg false [⟨some 10, none, .iaddr 1 (.t 6) (.t 8), 0, 0, false, []⟩,
    ⟨some 11, none, .load false 1 (.t 10), 0, 0, false, []⟩,
    ⟨some 4, none, .mov (.t 11), 0, 0, false, []⟩])
   (.seq (.seg false [⟨some 12, none, .mov (.t 4), 0, 0, false, []⟩,
    ⟨some 13, none, .conv (.int .i64) (.t 12), 0, 0, false, []⟩,
    ⟨some 14, none, .call 68 [.t 13, .k (.int .i64 97), .k (.int .i64 122)] false false, 0, 0, false, []⟩,
    ⟨some 15, none, .un .not (.t 14), 0, 0, false, []⟩])
   (.cutTo [6, 7, 8, 15] (.cond (.t 15) (.seq (.seg false [⟨some 2, none, .mov (.k (.bool false)), 0, 0, false, []⟩])
   (.ret))
   (.skip))))))
   (.cutTo [6, 7, 8] (.seg false [⟨some 16, none, .bin .add (.t 8) (.k (.int .i64 1)), 0, 0, false, []⟩,
    ⟨some 8, none, .mov (.t 16), 0, 0, false, []⟩]))))
def L158x0 : C := B158x0
theorem evL158x0 (run : Run) (draw : List I → Env → Heap → Option (Env × Heap)) (e : Env) (h : Heap) : evC run draw L158x0 e h = evC run draw B158x0 e h := rfl
/-- loop.example/tablehouse/impl.letters -/
def F158 : F := ⟨17, [(false, 2, 0, false)],
   .seq (.seg false [⟨some 2, none, .mov (.k (.bool false)), 0, 0, false, []⟩])
   (.seq (.seq (.seg false [⟨some 5, none, .mov (.t 0), 0, 0, false, []⟩,
    ⟨some 6, none, .conv .toBytes (.t 5), 0, 0, false, []⟩,
    ⟨some 7, none, .len false (.t 6), 0, 0, false, []⟩,
    ⟨some 8, none, .mov (.k (.int .i64 0)), 0, 0, false, []⟩])
   (.cutTo [6, 7, 8] (.block 0 (.loop [6, 7, 8] [2] L158x0))))
   (.cutTo [] (.seq (.seg false [⟨some 2, none, .mov (.k (.bool true)), 0, 0, false, []⟩])
   (.ret))))⟩
/-- loop.example/tablehouse/impl.truthIf -/
def F164 : F := ⟨4, [(false, 2, 0, false)],
   .seq (.seg false [⟨some 2, none, .mov (.k (.int .i64 0)), 0, 0, false, []⟩])
   (.seq (.seq (.seg false [⟨some 3, none, .mov (.t 0), 0, 0, false, []⟩])
   (.cond (.t 3) (.seq (.seg false [⟨some 2, none, .mov (.k (.int .i64 1)), 0, 0, false, []⟩])
   (.ret))
   (.skip)))
   (.seq (.seg false [⟨some 2, none, .mov (.k (.int .i64 0)), 0, 0, false, []⟩])
   (.ret)))⟩
/-- loop.example/tablehouse/laws.FnExactExprMoved -/
def F4 : F := ⟨113, [(false, 6, 0, false)],
   .seq (.seg false [⟨some 6, none, .mov (.k (.bool false)), 0, 0, false, []⟩])
   (.seq (.seq (.seg false [⟨some 17, none, .mov (.t 2), 0, 0, false, []⟩,
    ⟨some 18, none, .len false (.t 17), 0, 0, false, []⟩,
    ⟨some 19, none, .bin .gtr (.t 18) (.k (.int .i64 1048576)), 0, 0, false, []⟩])
   (.cond (.t 19) (.seq (.seg false [⟨some 6, none, .mov (.k (.bool true)), 0, 0, false, []⟩])
   (.ret))
   (.skip)))
   (.cutTo [0, 1, 2] (.seq (.seg false [⟨some 7, none, .mov (.k (.int .i64 1048576)), 0, 0, false, []⟩])
   (.seq (.seg false [⟨some 20, none, .mov (.t 0), 0, 0, false, []⟩,
    ⟨some 21, none, .mov (.t 7), 0, 0, false, []⟩,
    ⟨some 22, none, .call 22 [.t 20, .t 21] false false, 0, 0, false, []⟩,
    ⟨some 7, none, .mov (.t 22), 0, 0, false, []⟩])
   (.cutTo [0, 1, 2, 7] (.seq (.seq (.seg false [⟨some 23, none, .mov (.t 7), 0, 0, false, []⟩,
    ⟨some 24, none, .bin .lss (.t 23) (.k (.int .i64 0)), 0, 0, false, []⟩])
   (.cond (.t 24) (.seq (.seg false [⟨some 6, none, .mov (.k (.bool true)), 0, 0, false, []⟩])
   (.ret))
   (.skip)))
   (.seq (.seg false [⟨some 25, none, .mov (.t 1), 0, 0, false, []⟩,
    ⟨some 26, none, .mov (.t 7), 0, 0, false, []⟩,
    ⟨some 27, none, .call 23 [.t 25, .t 26] false false, 0, 0, false, []⟩,
    ⟨some 7, none, .mov (.t 27), 0, 0, false, []⟩])
   (.cutTo [0, 1, 2, 7] (.seq (.seq (.seg false [⟨some 28, none, .mov (.t 7), 0, 0, false, []⟩,
    ⟨some 29, none, .bin .lss (.t 28) (.k (.int .i64 0)), 0, 0, false, []⟩])
   (.cond (.t 29) (.seq (.seg false [⟨some 6, none, .mov (.k (.bool true)), 0, 0, false, []⟩])
   (.ret))
   (.skip)))
   (.seq (.seg false [⟨some 30, none, .mov (.t 0), 0, 0, false, []⟩,
    ⟨some 31, none, .callx 0 24 [.t 30], 0, 0, false, []⟩,
    ⟨some 32, none, .mov (.t 1), 0, 0, false, []⟩,
    ⟨some 33, none, .callx 0 25 [.t 32], 0, 0, false, []⟩,
    ⟨some 34, none, .mov (.t 2), 0, 0, false, []⟩,
    ⟨some 35, none, .callx 0 26 [.t 34], 0, 0, false, []⟩,
    ⟨some 36, none, .callx 1 18 [.t 31, .t 33, .t 35], 0, 0, false, []⟩,
    ⟨some 8, none, .mov (.t 36), 0, 0, false, []⟩])
   (.cutTo [0, 1, 2, 8] (.seq (.seg false [⟨some 37, none, .mov (.t 0), 0, 0, false, []⟩,
    ⟨some 38, none, .callx 0 24 [.t 37], 0, 0, false, []⟩,
    ⟨some 9, none, .mov (.t 38), 0, 0, false, []⟩])
   (.seq (.seg false [⟨some 39, none, .mov (.t 1), 0, 0, false, []⟩,
    ⟨some 40, none, .callx 0 25 [.t 39], 0, 0, false, []⟩,
    ⟨some 10, none, .mov (.t 40), 0, 0, false, []⟩])
   (.seq (.seg false [⟨some 41, none, .mov (.t 2), 0, 0, false, []⟩,
    ⟨some 42, none, .callx 0 26 [.t 41], 0, 0, false, []⟩,
    ⟨some 11, none, .mov (.t 42), 0, 0, false, []⟩])
   (.seq (.seg false [⟨some 43, none, .mov (.t 9), 0, 0, false, []⟩,
    ⟨some 44, none, .mov (.t 10), 0, 0, false, []⟩,
    ⟨some 45, none, .mov (.t 11), 0, 0, false, []⟩,
    ⟨some 46, none, .callx 0 16 [.t 43, .t 44, .t 45], 0, 0, false, []⟩,
    ⟨some 12, none, .mov (.t 46), 0, 0, false, []⟩])
   (.cutTo [0, 1, 2, 8, 9, 10, 11, 12] (.seq (.seq (.seg false [⟨some 47, none, .mov (.t 12), 0, 0, false, []⟩,
    ⟨some 48, none, .mov (.t 8), 0, 0, false, []⟩,
    ⟨some 49, none, .callx 0 27 [.t 47, .t 48], 0, 0, false, []⟩,
    ⟨some 50, none, .un .not (.t 49), 0, 0, false, []⟩])
   (.cutTo [0, 1, 2, 8, 9, 10, 11, 12, 50] (.cond (.t 50) (.seq (.seg false [⟨some 6, none, .mov (.k (.bool false)), 0, 0, false, []⟩])
   (.ret))
   (.skip))))
   (.cutTo [0, 1, 2, 8, 9, 10, 11, 12] (.seq (.seq (.seg false [⟨some 51, none, .mov (.t 9), 0, 0, false, []⟩,
    ⟨some 52, none, .mov (.t 0), 0, 0, false, []⟩,
    ⟨some 53, none, .callx 0 24 [.t 52], 0, 0, false, []⟩,
    ⟨some 54, none, .callx 0 28 [.t 51, .t 53], 0, 0, false, []⟩,
    ⟨some 55, none, .un .not (.t 54), 0, 0, false, []⟩])
   (.cutTo [0, 1, 2, 8, 9, 10, 11, 12, 55] (.cond (.t 55) (.seq (.seg false [⟨some 6, none, .mov (.k (.bool false)), 0, 0, false, []⟩])
   (.ret))
   (.skip))))
   (.cutTo [0, 1, 2, 8, 9, 10, 11, 12] (.seq (.seq (.seg false [⟨some 56, none, .mov (.t 10), 0, 0, false, []⟩,
    ⟨some 57, none, .mov (.t 1), 0, 0, false, []⟩,
    ⟨some 58, none, .callx 0 25 [.t 57], 0, 0, false, []⟩,
    ⟨some 59, none, .callx 0 27 [.t 56, .t 58], 0, 0, false, []⟩,
    ⟨some 60, none, .un .not (.t 59), 0, 0, false, []⟩])
   (.cutTo [0, 1, 2, 8, 9, 10, 11, 12, 60] (.cond (.t 60) (.seq (.seg false [⟨some 6, none, .mov (.k (.bool false)), 0, 0, false, []⟩])
   (.ret))
   (.skip))))
   (.cutTo [0, 1, 2, 8, 9, 10, 11, 12] (.seq (.seq (.seg false [⟨some 61, none, .mov (.t 11), 0, 0, false, []⟩,
    ⟨some 62, none, .mov (.t 2), 0, 0, false, []⟩,
    ⟨some 63, none, .callx 0 26 [.t 62], 0, 0, false, []⟩,
    ⟨some 64, none, .callx 0 29 [.t 61, .t 63], 0, 0, false, []⟩,
    ⟨some 65, none, .un .not (.t 64), 0, 0, false, []⟩])
   (.cutTo [0, 1, 2, 8, 9, 10, 11, 12, 65] (.cond (.t 65) (.seq (.seg false [⟨some 6, none, .mov (.k (.bool false)), 0, 0, false, []⟩])
   (.ret))
   (.skip))))
   (.cutTo [0, 1, 2, 8, 9, 10, 11, 12] (.seq (.seg false [⟨some 13, none, .mov (.k (.int .i64 1)), 0, 0, false, []⟩])
   (.seq (.seg false [⟨some 66, none, .mov (.t 9), 0, 0, false, []⟩,
    ⟨some 67, none, .mov (.t 13), 0, 0, false, []⟩,
    ⟨some 68, none, .callx 2 30 [.t 66, .t 67], 0, 0, false, []⟩,
    ⟨some 13, none, .mov (.t 68), 0, 0, false, []⟩])
   (.cutTo [0, 1, 2, 8, 10, 11, 12, 13] (.seq (.seg false [⟨some 69, none, .mov (.t 10), 0, 0, false, []⟩,
    ⟨some 70, none, .mov (.t 13), 0, 0, false, []⟩,
    ⟨some 71, none, .callx 2 31 [.t 69, .t 70], 0, 0, false, []⟩,
    ⟨some 13, none, .mov (.t 71), 0, 0, false, []⟩])
   (.cutTo [0, 1, 2, 8, 11, 12, 13] (.seq (.seg false [⟨some 72, none, .mov (.t 11), 0, 0, false, []⟩,
    ⟨some 73, none, .mov (.t 13), 0, 0, false, []⟩,
    ⟨some 74, none, .callx 2 32 [.t 72, .t 73], 0, 0, false, []⟩,
    ⟨some 13, none, .mov (.t 74), 0, 0, false, []⟩])
   (.cutTo [0, 1, 2, 8, 12, 13] (.seq (.seq (.seg false [⟨some 75, none, .mov (.t 13), 0, 0, false, []⟩,
    ⟨some 76, none, .bin .lss (.t 75) (.k (.int .i64 0)), 0, 0, false, []⟩,
    ⟨some 77, none, .mov (.t 76), 0, 0, false, []⟩,
    ⟨some 78, some (77, false), .mov (.t 12), 0, 0, false, []⟩,
    ⟨some 79, some (77, false), .mov (.t 8), 0, 0, false, []⟩,
    ⟨some 80, some (77, false), .callx 0 27 [.t 78, .t 79], 0, 0, false, []⟩,
    ⟨some 81, some (77, false), .un .not (.t 80), 0, 0, false, []⟩,
    ⟨some 82, none, .pick (.t 77) (.k (.bool true)) (.t 81), 0, 0, false, []⟩])
   (.cutTo [0, 1, 2, 8, 12, 82] (.cond (.t 82) (.seq (.seg false [⟨some 6, none, .mov (.k (.bool false)), 0, 0, false, []⟩])
   (.ret))
   (.skip))))
   (.cutTo [0, 1, 2, 8, 12] (.seq (.seg false [⟨some 14, none, .mov (.k (.int .i64 1)), 0, 0, false, []⟩])
   (.seq (.seg false [⟨some 83, none, .mov (.t 12), 0, 0, false, []⟩,
    ⟨some 84, none, .mov (.t 14), 0, 0, false, []⟩,
    ⟨some 85, none, .callx 2 31 [.t 83, .t 84], 0, 0, false, []⟩,
    ⟨some 14, none, .mov (.t 85), 0, 0, false, []⟩])
   (.cutTo [0, 1, 2, 8, 12, 14] (.seq (.seg false [⟨some 15, none, .mov (.k (.int .i64 1)), 0, 0, false, []⟩])
   (.seq (.seg false [⟨some 86, none, .mov (.t 12), 0, 0, false, []⟩,
    ⟨some 87, none, .mov (.t 15), 0, 0, false, []⟩,
    ⟨some 88, none, .callx 0 33 [.t 86, .t 87], 0, 0, false, []⟩,
    ⟨some 15, none, .mov (.t 88), 0, 0, false, []⟩])
   (.cutTo [0, 1, 2, 8, 12, 14, 15] (.seq (.seq (.seg false [⟨some 89, none, .mov (.t 15), 0, 0, false, []⟩,
    ⟨some 90, none, .bin .lss (.t 89) (.k (.int .i64 0)), 0, 0, false, []⟩])
   (.cond (.t 90) (.seq (.seg false [⟨some 6, none, .mov (.k (.bool false)), 0, 0, false, []⟩])
   (.ret))
   (.skip)))
   (.seq (.seq (.seg false [⟨some 91, none, .mov (.t 15), 0, 0, false, []⟩,
    ⟨some 92, none, .mov (.t 14), 0, 0, false, []⟩,
    ⟨some 93, none, .bin .neq (.t 91) (.t 92), 0, 0, false, []⟩])
   (.cond (.t 93) (.seq (.seg false [⟨some 6, none, .mov (.k (.bool false)), 0, 0, false, []⟩])
   (.ret))
   (.skip)))
   (.cutTo [0, 1, 2, 8, 12, 14] (.seq (.seg false [⟨some 94, none, .mov (.t 0), 0, 0, false, []⟩,
    ⟨some 95, none, .callx 0 24 [.t 94], 0, 0, false, []⟩,
    ⟨some 96, none, .mov (.t 1), 0, 0, false, []⟩,
    ⟨some 97, none, .callx 0 25 [.t 96], 0, 0, false, []⟩,
    ⟨some 98, none, .mov (.t 2), 0, 0, false, []⟩,
    ⟨some 99, none, .callx 0 26 [.t 98], 0, 0, false, []⟩,
    ⟨some 100, none, .callx 0 16 [.t 95, .t 97, .t 99], 0, 0, false, []⟩,
    ⟨some 16, none, .mov (.t 100), 0, 0, false, []⟩])
   (.cutTo [8, 12, 14, 16] (.seq (.seq (.seg false [⟨some 101, none, .mov (.t 16), 0, 0, false, []⟩,
    ⟨some 102, none, .mov (.t 8), 0, 0, false, []⟩,
    ⟨some 103, none, .callx 0 27 [.t 101, .t 102], 0, 0, false, []⟩,
    ⟨some 104, none, .un .not (.t 103), 0, 0, false, []⟩])
   (.cutTo [12, 14, 104] (.cond (.t 104) (.seq (.seg false [⟨some 6, none, .mov (.k (.bool false)), 0, 0, false, []⟩])
   (.ret))
   (.skip))))
   (.cutTo [12, 14] (.seq (.seg false [⟨some 15, none, .mov (.k (.int .i64 1)), 0, 0, false, []⟩])
   (.seq (.seg false [⟨some 105, none, .mov (.t 12), 0, 0, false, []⟩,
    ⟨some 106, none, .mov (.t 15), 0, 0, false, []⟩,
    ⟨some 107, none, .callx 0 33 [.t 105, .t 106], 0, 0, false, []⟩,
    ⟨some 15, none, .mov (.t 107), 0, 0, false, []⟩])
   (.cutTo [14, 15] (.seq (.seq (.seg false [⟨some 108, none, .mov (.t 15), 0, 0, false, []⟩,
    ⟨some 109, none, .bin .lss (.t 108) (.k (.int .i64 0)), 0, 0, false, []⟩])
   (.cond (.t 109) (.seq (.seg false [⟨some 6, none, .mov (.k (.bool false)), 0, 0, false, []⟩])
   (.ret))
   (.skip)))
   (.seq (.seq (.seg false [⟨some 110, none, .mov (.t 15), 0, 0, false, []⟩,
    ⟨some 111, none, .mov (.t 14), 0, 0, false, []⟩,
    ⟨some 112, none, .bin .neq (.t 110) (.t 111), 0, 0, false, []⟩])
   (.cond (.t 112) (.seq (.seg false [⟨some 6, none, .mov (.k (.bool false)), 0, 0, false, []⟩])
   (.ret))
   (.skip)))
   (.cutTo [] (.seq (.seg false [⟨some 6, none, .mov (.k (.bool true)), 0, 0, false, []⟩])
   (.ret))))))))))))))))))))))))))))))))))))))))))))))))))))))⟩
/-- loop.example/tablehouse/laws.eqColumn -/
def F79 : F := ⟨15, [(false, 4, 0, false)],
   .seq (.seg false [⟨some 2, none, .box (.t 0), 0, 0, false, []⟩,
    ⟨some 3, none, .box (.t 1), 0, 0, false, []⟩,
    ⟨some 4, none, .mov (.k (.bool false)), 0, 0, false, []⟩])
   (.seq (.seq (.seg false [⟨some 5, none, .faddr 0 1 (.t 2), 0, 0, false, []⟩,
    ⟨some 6, none, .load false 1 (.t 5), 0, 0, false, []⟩,
    ⟨some 7, none, .faddr 0 1 (.t 3), 0, 0, false, []⟩,
    ⟨some 8, none, .load false 1 (.t 7), 0, 0, false, []⟩,
    ⟨some 9, none, .bin .neq (.t 6) (.t 8), 0, 0, false, []⟩])
   (.cutTo [2, 3, 9] (.cond (.t 9) (.seq (.seg false [⟨some 4, none, .mov (.k (.bool false)), 0, 0, false, []⟩])
   (.ret))
   (.skip))))
   (.cutTo [2, 3] (.seq (.seq (.seg false [⟨some 10, none, .faddr 1 1 (.t 2), 0, 0, false, []⟩,
    ⟨some 11, none, .load false 1 (.t 10), 0, 0, false, []⟩,
    ⟨some 12, none, .faddr 1 1 (.t 3), 0, 0, false, []⟩,
    ⟨some 13, none, .load false 1 (.t 12), 0, 0, false, []⟩,
    ⟨some 14, none, .eqb true (.t 11) (.t 13), 0, 0, false, []⟩])
   (.cutTo [14] (.cond (.t 14) (.seq (.seg false [⟨some 4, none, .mov (.k (.bool false)), 0, 0, false, []⟩])
   (.ret))
   (.skip))))
   (.cutTo [] (.seq (.seg false [⟨some 4, none, .mov (.k (.bool true)), 0, 0, false, []⟩])
   (.ret))))))⟩
def E28x0 : List I := [⟨some 17, none, .mov (.t 0), 0, 0, false, []⟩,
    ⟨some 18, none, .mov (.t 5), 0, 0, false, []⟩,
    ⟨some 19, none, .iaddr 2 (.t 17) (.t 18), 0, 0, false, []⟩,
    ⟨some 20, none, .load true 2 (.t 19), 0, 0, false, []⟩,
    ⟨some 21, none, .mov (.t 1), 0, 0, false, []⟩,
    ⟨some 22, none, .mov (.t 5), 0, 0, false, []⟩,
    ⟨some 23, none, .iaddr 2 (.t 21) (.t 22), 0, 0, false, []⟩,
    ⟨some 24, none, .load true 2 (.t 23), 0, 0, false, []⟩,
    ⟨some 25, none, .call 79 [.t 20, .t 24] false false, 0, 0, false, []⟩,
    ⟨some 26, none, .un .not (.t 25), 0, 0, false, []⟩]
def D28x0 : List I := E28x0
theorem evD28x0 (run : Run) (e : Env) (h : Heap) : drawI run D28x0 e h = DrawS (evQ run E28x0 e h) run E28x0 e h := drawI_quiet run _ (by rfl) e h
def B28x0 : C := .seq (.seq (.seg false [⟨some 11, none, .mov (.t 5), 0, 0, false, []⟩,
    ⟨some 12, none, .mov (.t 0), 0, 0, false, []⟩,
    ⟨some 13, none, .len false (.t 12), 0, 0, false, []⟩,
    ⟨some 14, none, .bin .lss (.t 11) (.t 13), 0, 0, false, []⟩])
   (.cutTo [0, 1, 5, 14] (.cond (.t 14) (.skip)
   (.exit 0))))
   (.cutTo [0, 1, 5] (.seq (.block 1 (.seq (.seg true D28x0)
   (.cutTo [0, 1, 5, 26] (.cond (.t 26) (.seq (.seg false [⟨some 4, none, .mov (.k (.bool false)), 0, 0, false, []⟩])
   (.ret))
   (.skip)))))
   (.cutTo [0, 1, 5] (.seg false [⟨some 15, none, .mov (.t 5), 0, 0, false, []⟩,
    ⟨some 16, none, .bin .add (.t 15) (.k (.int .i64 1)), 0, 0, false, []⟩,
    ⟨some 5, none, .mov (.t 16), 0, 0, false, []⟩]))))
def L28x0 : C := B28x0
theorem evL28x0 (run : Run) (draw : List I → Env → Heap → Option (Env × Heap)) (e : Env) (h : Heap) : evC run draw L28x0 e h = evC run draw B28x0 e h := rfl
/-- loop.example/tablehouse/laws.eqColumnS -/
def F28 : F := ⟨27, [(false, 4, 0, false)],
   .seq (.seg false [⟨some 4, none, .mov (.k (.bool false)), 0, 0, false, []⟩])
   (.seq (.seq (.seg false [⟨some 6, none, .mov (.t 0), 0, 0, false, []⟩,
    ⟨some 7, none, .len false (.t 6), 0, 0, false, []⟩,
    ⟨some 8, none, .mov (.t 1), 0, 0, false, []⟩,
    ⟨some 9, none, .len false (.t 8), 0, 0, false, []⟩,
    ⟨some 10, none, .bin .neq (.t 7) (.t 9), 0, 0, false, []⟩])
   (.cutTo [0, 1, 10] (.cond (.t 10) (.seq (.seg false [⟨some 4, none, .mov (.k (.bool false)), 0, 0, false, []⟩])
   (.ret))
   (.skip))))
   (.cutTo [0, 1] (.seq (.seq (.seg false [⟨some 5, none, .mov (.k (.int .i64 0)), 0, 0, false, []⟩])
   (.block 0 (.loop [0, 1, 5] [4] L28x0)))
   (.seq (.seg false [⟨some 4, none, .mov (.k (.bool true)), 0, 0, false, []⟩])
   (.ret)))))⟩
def E29x0 : List I := [⟨some 17, none, .mov (.t 0), 0, 0, false, []⟩,
    ⟨some 18, none, .mov (.t 5), 0, 0, false, []⟩,
    ⟨some 19, none, .iaddr 1 (.t 17) (.t 18), 0, 0, false, []⟩,
    ⟨some 20, none, .load false 1 (.t 19), 0, 0, false, []⟩,
    ⟨some 21, none, .mov (.t 1), 0, 0, false, []⟩,
    ⟨some 22, none, .mov (.t 5), 0, 0, false, []⟩,
    ⟨some 23, none, .iaddr 1 (.t 21) (.t 22), 0, 0, false, []⟩,
    ⟨some 24, none, .load false 1 (.t 23), 0, 0, false, []⟩,
    ⟨some 25, none, .bin .neq (.t 20) (.t 24), 0, 0, false, []⟩]
def D29x0 : List I := E29x0
theorem evD29x0 (run : Run) (e : Env) (h : Heap) : drawI run D29x0 e h = DrawS (evQ run E29x0 e h) run E29x0 e h := drawI_quiet run _ (by rfl) e h
def B29x0 : C := .seq (.seq (.seg false [⟨some 11, none, .mov (.t 5), 0, 0, false, []⟩,
    ⟨some 12, none, .mov (.t 0), 0, 0, false, []⟩,
    ⟨some 13, none, .len false (.t 12), 0, 0, false, []⟩,
    ⟨some 14, none, .bin .lss (.t 11) (.t 13), 0, 0, false, []⟩])
   (.cutTo [0, 1, 5, 14] (.cond (.t 14) (.skip)
   (.exit 0))))
   (.cutTo [0, 1, 5] (.seq (.block 1 (.seq (.seg true D29x0)
   (.cutTo [0, 1, 5, 25] (.cond (.t 25) (.seq (.seg false [⟨some 4, none, .mov (.k (.bool false)), 0, 0, false, []⟩])
   (.ret))
   (.skip)))))
   (.cutTo [0, 1, 5] (.seg false [⟨some 15, none, .mov (.t 5), 0, 0, false, []⟩,
    ⟨some 16, none, .bin .add (.t 15) (.k (.int .i64 1)), 0, 0, false, []⟩,
    ⟨some 5, none, .mov (.t 16), 0, 0, false, []⟩]))))
def L29x0 : C := B29x0
theorem evL29x0 (run : Run) (draw : List I → Env → Heap → Option (Env × Heap)) (e : Env) (h : Heap) : evC run draw L29x0 e h = evC run draw B29x0 e h := rfl
/-- loop.example/tablehouse/laws.eqIntS -/
def F29 : F := ⟨26, [(false, 4, 0, false)],
   .seq (.seg false [⟨some 4, none, .mov (.k (.bool false)), 0, 0, false, []⟩])
   (.seq (.seq (.seg false [⟨some 6, none, .mov (.t 0), 0, 0, false, []⟩,
    ⟨some 7, none, .len false (.t 6), 0, 0, false, []⟩,
    ⟨some 8, none, .mov (.t 1), 0, 0, false, []⟩,
    ⟨some 9, none, .len false (.t 8), 0, 0, false, []⟩,
    ⟨some 10, none, .bin .neq (.t 7) (.t 9), 0, 0, false, []⟩])
   (.cutTo [0, 1, 10] (.cond (.t 10) (.seq (.seg false [⟨some 4, none, .mov (.k (.bool false)), 0, 0, false, []⟩])
   (.ret))
   (.skip))))
   (.cutTo [0, 1] (.seq (.seq (.seg false [⟨some 5, none, .mov (.k (.int .i64 0)), 0, 0, false, []⟩])
   (.block 0 (.loop [0, 1, 5] [4] L29x0)))
   (.seq (.seg false [⟨some 4, none, .mov (.k (.bool true)), 0, 0, false, []⟩])
   (.ret)))))⟩
/-- loop.example/tablehouse/laws.eqPart -/
def F78 : F := ⟨21, [(false, 4, 0, false)],
   .seq (.seg false [⟨some 2, none, .box (.t 0), 0, 0, false, []⟩,
    ⟨some 3, none, .box (.t 1), 0, 0, false, []⟩,
    ⟨some 4, none, .mov (.k (.bool false)), 0, 0, false, []⟩])
   (.seq (.seq (.seg false [⟨some 5, none, .faddr 0 1 (.t 2), 0, 0, false, []⟩,
    ⟨some 6, none, .load false 1 (.t 5), 0, 0, false, []⟩,
    ⟨some 7, none, .faddr 0 1 (.t 3), 0, 0, false, []⟩,
    ⟨some 8, none, .load false 1 (.t 7), 0, 0, false, []⟩,
    ⟨some 9, none, .bin .neq (.t 6) (.t 8), 0, 0, false, []⟩])
   (.cutTo [2, 3, 9] (.cond (.t 9) (.seq (.seg false [⟨some 4, none, .mov (.k (.bool false)), 0, 0, false, []⟩])
   (.ret))
   (.skip))))
   (.cutTo [2, 3] (.seq (.seq (.seg false [⟨some 10, none, .faddr 1 1 (.t 2), 0, 0, false, []⟩,
    ⟨some 11, none, .load false 1 (.t 10), 0, 0, false, []⟩,
    ⟨some 12, none, .faddr 1 1 (.t 3), 0, 0, false, []⟩,
    ⟨some 13, none, .load false 1 (.t 12), 0, 0, false, []⟩,
    ⟨some 14, none, .bin .neq (.t 11) (.t 13), 0, 0, false, []⟩])
   (.cutTo [2, 3, 14] (.cond (.t 14) (.seq (.seg false [⟨some 4, none, .mov (.k (.bool false)), 0, 0, false, []⟩])
   (.ret))
   (.skip))))
   (.cutTo [2, 3] (.seq (.seq (.seg false [⟨some 15, none, .faddr 2 3 (.t 2), 0, 0, false, []⟩,
    ⟨some 16, none, .load true 3 (.t 15), 0, 0, false, []⟩,
    ⟨some 17, none, .faddr 2 3 (.t 3), 0, 0, false, []⟩,
    ⟨some 18, none, .load true 3 (.t 17), 0, 0, false, []⟩,
    ⟨some 19, none, .call 132 [.t 16, .t 18] false false, 0, 0, false, []⟩,
    ⟨some 20, none, .un .not (.t 19), 0, 0, false, []⟩])
   (.cutTo [20] (.cond (.t 20) (.seq (.seg false [⟨some 4, none, .mov (.k (.bool false)), 0, 0, false, []⟩])
   (.ret))
   (.skip))))
   (.cutTo [] (.seq (.seg false [⟨some 4, none, .mov (.k (.bool true)), 0, 0, false, []⟩])
   (.ret))))))))⟩
def E27x0 : List I := [⟨some 17, none, .mov (.t 0), 0, 0, false, []⟩,
    ⟨some 18, none, .mov (.t 5), 0, 0, false, []⟩,
    ⟨some 19, none, .iaddr 5 (.t 17) (.t 18), 0, 0, false, []⟩,
    ⟨some 20, none, .load true 5 (.t 19), 0, 0, false, []⟩,
    ⟨some 21, none, .mov (.t 1), 0, 0, false, []⟩,
    ⟨some 22, none, .mov (.t 5), 0, 0, false, []⟩,
    ⟨some 23, none, .iaddr 5 (.t 21) (.t 22), 0, 0, false, []⟩,
    ⟨some 24, none, .load true 5 (.t 23), 0, 0, false, []⟩,
    ⟨some 25, none, .call 78 [.t 20, .t 24] false false, 0, 0, false, []⟩,
    ⟨some 26, none, .un .not (.t 25), 0, 0, false, []⟩]
def D27x0 : List I := E27x0
theorem evD27x0 (run : Run) (e : Env) (h : Heap) : drawI run D27x0 e h = DrawS (evQ run E27x0 e h) run E27x0 e h := drawI_quiet run _ (by rfl) e h
def B27x0 : C := .seq (.seq (.seg false [⟨some 11, none, .mov (.t 5), 0, 0, false, []⟩,
    ⟨some 12, none, .mov (.t 0), 0, 0, false, []⟩,
    ⟨some 13, none, .len false (.t 12), 0, 0, false, []⟩,
    ⟨some 14, none, .bin .lss (.t 11) (.t 13), 0, 0, false, []⟩])
   (.cutTo [0, 1, 5, 14] (.cond (.t 14) (.skip)
   (.exit 0))))
   (.cutTo [0, 1, 5] (.seq (.block 1 (.seq (.seg true D27x0)
   (.cutTo [0, 1, 5, 26] (.cond (.t 26) (.seq (.seg false [⟨some 4, none, .mov (.k (.bool false)), 0, 0, false, []⟩])
   (.ret))
   (.skip)))))
   (.cutTo [0, 1, 5] (.seg false [⟨some 15, none, .mov (.t 5), 0, 0, false, []⟩,
    ⟨some 16, none, .bin .add (.t 15) (.k (.int .i64 1)), 0, 0, false, []⟩,
    ⟨some 5, none, .mov (.t 16), 0, 0, false, []⟩]))))
def L27x0 : C := B27x0
theorem evL27x0 (run : Run) (draw : List I → Env → Heap → Option (Env × Heap)) (e : Env) (h : Heap) : evC run draw L27x0 e h = evC run draw B27x0 e h := rfl
/-- loop.example/tablehouse/laws.eqPartS -/
def F27 : F := ⟨27, [(false, 4, 0, false)],
   .seq (.seg false [⟨some 4, none, .mov (.k (.bool false)), 0, 0, false, []⟩])
   (.seq (.seq (.seg false [⟨some 6, none, .mov (.t 0), 0, 0, false, []⟩,
    ⟨some 7, none, .len false (.t 6), 0, 0, false, []⟩,
    ⟨some 8, none, .mov (.t 1), 0, 0, false, []⟩,
    ⟨some 9, none, .len false (.t 8), 0, 0, false, []⟩,
    ⟨some 10, none, .bin .neq (.t 7) (.t 9), 0, 0, false, []⟩])
   (.cutTo [0, 1, 10] (.cond (.t 10) (.seq (.seg false [⟨some 4, none, .mov (.k (.bool false)), 0, 0, false, []⟩])
   (.ret))
   (.skip))))
   (.cutTo [0, 1] (.seq (.seq (.seg false [⟨some 5, none, .mov (.k (.int .i64 0)), 0, 0, false, []⟩])
   (.block 0 (.loop [0, 1, 5] [4] L27x0)))
   (.seq (.seg false [⟨some 4, none, .mov (.k (.bool true)), 0, 0, false, []⟩])
   (.ret)))))⟩
/-- loop.example/tablehouse/laws.eqValue -/
def F132 : F := ⟨20, [(false, 4, 0, false)],
   .seq (.seg false [⟨some 2, none, .box (.t 0), 0, 0, false, []⟩,
    ⟨some 3, none, .box (.t 1), 0, 0, false, []⟩,
    ⟨some 4, none, .mov (.k (.bool false)), 0, 0, false, []⟩])
   (.seq (.seq (.seg false [⟨some 5, none, .faddr 0 1 (.t 2), 0, 0, false, []⟩,
    ⟨some 6, none, .load false 1 (.t 5), 0, 0, false, []⟩,
    ⟨some 7, none, .faddr 0 1 (.t 3), 0, 0, false, []⟩,
    ⟨some 8, none, .load false 1 (.t 7), 0, 0, false, []⟩,
    ⟨some 9, none, .bin .neq (.t 6) (.t 8), 0, 0, false, []⟩])
   (.cutTo [2, 3, 9] (.cond (.t 9) (.seq (.seg false [⟨some 4, none, .mov (.k (.bool false)), 0, 0, false, []⟩])
   (.ret))
   (.skip))))
   (.cutTo [2, 3] (.seq (.seq (.seg false [⟨some 10, none, .faddr 1 1 (.t 2), 0, 0, false, []⟩,
    ⟨some 11, none, .load false 1 (.t 10), 0, 0, false, []⟩,
    ⟨some 12, none, .faddr 1 1 (.t 3), 0, 0, false, []⟩,
    ⟨some 13, none, .load false 1 (.t 12), 0, 0, false, []⟩,
    ⟨some 14, none, .bin .neq (.t 11) (.t 13), 0, 0, false, []⟩])
   (.cutTo [2, 3, 14] (.cond (.t 14) (.seq (.seg false [⟨some 4, none, .mov (.k (.bool false)), 0, 0, false, []⟩])
   (.ret))
   (.skip))))
   (.cutTo [2, 3] (.seq (.seq (.seg false [⟨some 15, none, .faddr 2 1 (.t 2), 0, 0, false, []⟩,
    ⟨some 16, none, .load false 1 (.t 15), 0, 0, false, []⟩,
    ⟨some 17, none, .faddr 2 1 (.t 3), 0, 0, false, []⟩,
    ⟨some 18, none, .load false 1 (.t 17), 0, 0, false, []⟩,
    ⟨some 19, none, .bin .neq (.t 16) (.t 18), 0, 0, false, []⟩])
   (.cutTo [19] (.cond (.t 19) (.seq (.seg false [⟨some 4, none, .mov (.k (.bool false)), 0, 0, false, []⟩])
   (.ret))
   (.skip))))
   (.cutTo [] (.seq (.seg false [⟨some 4, none, .mov (.k (.bool true)), 0, 0, false, []⟩])
   (.ret))))))))⟩
def E33x0 : List I := [⟨some 50, none, .mov (.t 0), 0, 0, false, []⟩,
    ⟨some 51, none, .mov (.t 5), 0, 0, false, []⟩,
    ⟨some 52, none, .iaddr 5 (.t 50) (.t 51), 0, 0, false, []⟩,
    ⟨some 53, none, .faddr 2 3 (.t 52), 0, 0, false, []⟩,
    ⟨some 54, none, .faddr 2 1 (.t 53), 0, 0, false, []⟩,
    ⟨some 55, none, .load false 1 (.t 54), 0, 0, false, []⟩,
    ⟨some 56, none, .mov (.t 1), 0, 0, false, []⟩,
    ⟨some 57, none, .call 80 [.t 56] false false, 0, 0, false, []⟩,
    ⟨some 58, none, .bin .neq (.t 55) (.t 57), 0, 0, false, []⟩]
def D33x0 : List I := E33x0
theorem evD33x0 (run : Run) (e : Env) (h : Heap) : drawI run D33x0 e h = DrawS (evQ run E33x0 e h) run E33x0 e h := drawI_quiet run _ (by rfl) e h
def B33x0 : C := .seq (.seq (.seg false [⟨some 6, none, .mov (.t 5), 0, 0, false, []⟩,
    ⟨some 7, none, .mov (.t 0), 0, 0, false, []⟩,
    ⟨some 8, none, .len false (.t 7), 0, 0, false, []⟩,
    ⟨some 9, none, .bin .lss (.t 6) (.t 8), 0, 0, false, []⟩])
   (.cutTo [0, 1, 5, 9] (.cond (.t 9) (.skip)
   (.exit 0))))
   (.cutTo [0, 1, 5] (.seq (.block 1 (.seq (.seq (.seg false [⟨some 12, none, .mov (.t 0), 0, 0, false, []⟩,
    ⟨some 13, none, .mov (.t 5), 0, 0, false, []⟩,
    ⟨some 14, none, .iaddr 5 (.t 12) (.t 13), 0, 0, false, []⟩,
    ⟨some 15, none, .faddr 0 1 (.t 14), 0, 0, false, []⟩,
    ⟨some 16, none, .load false 1 (.t 15), 0, 0, false, []⟩,
    ⟨some 17, none, .mov (.t 1), 0, 0, false, []⟩,
    ⟨some 18, none, .bin .neq (.t 16) (.t 17), 0, 0, false, []⟩])
   (.cutTo [0, 1, 5, 18] (.cond (.t 18) (.seq (.seg false [⟨some 4, none, .mov (.k (.int .i64 (-1))), 0, 0, false, []⟩])
   (.ret))
   (.skip))))
   (.cutTo [0, 1, 5] (.seq (.seg false [⟨some 19, none, .mov (.t 1), 0, 0, false, []⟩,
    ⟨some 20, none, .bin .add (.t 19) (.k (.int .i64 1)), 0, 0, false, []⟩,
    ⟨some 1, none, .mov (.t 20), 0, 0, false, []⟩])
   (.seq (.seq (.seg false [⟨some 21, none, .mov (.t 0), 0, 0, false, []⟩,
    ⟨some 22, none, .mov (.t 5), 0, 0, false, []⟩,
    ⟨some 23, none, .iaddr 5 (.t 21) (.t 22), 0, 0, false, []⟩,
    ⟨some 24, none, .faddr 1 1 (.t 23), 0, 0, false, []⟩,
    ⟨some 25, none, .load false 1 (.t 24), 0, 0, false, []⟩,
    ⟨some 26, none, .mov (.t 1), 0, 0, false, []⟩,
    ⟨some 27, none, .bin .neq (.t 25) (.t 26), 0, 0, false, []⟩])
   (.cutTo [0, 1, 5, 27] (.cond (.t 27) (.seq (.seg false [⟨some 4, none, .mov (.k (.int .i64 (-1))), 0, 0, false, []⟩])
   (.ret))
   (.skip))))
   (.cutTo [0, 1, 5] (.seq (.seg false [⟨some 28, none, .mov (.t 1), 0, 0, false, []⟩,
    ⟨some 29, none, .bin .add (.t 28) (.k (.int .i64 1)), 0, 0, false, []⟩,
    ⟨some 1, none, .mov (.t 29), 0, 0, false, []⟩])
   (.seq (.seq (.seg false [⟨some 30, none, .mov (.t 0), 0, 0, false, []⟩,
    ⟨some 31, none, .mov (.t 5), 0, 0, false, []⟩,
    ⟨some 32, none, .iaddr 5 (.t 30) (.t 31), 0, 0, false, []⟩,
    ⟨some 33, none, .faddr 2 3 (.t 32), 0, 0, false, []⟩,
    ⟨some 34, none, .faddr 0 1 (.t 33), 0, 0, false, []⟩,
    ⟨some 35, none, .load false 1 (.t 34), 0, 0, false, []⟩,
    ⟨some 36, none, .mov (.t 1), 0, 0, false, []⟩,
    ⟨some 37, none, .bin .neq (.t 35) (.t 36), 0, 0, false, []⟩])
   (.cutTo [0, 1, 5, 37] (.cond (.t 37) (.seq (.seg false [⟨some 4, none, .mov (.k (.int .i64 (-1))), 0, 0, false, []⟩])
   (.ret))
   (.skip))))
   (.cutTo [0, 1, 5] (.seq (.seg false [⟨some 38, none, .mov (.t 1), 0, 0, false, []⟩,
    ⟨some 39, none, .bin .add (.t 38) (.k (.int .i64 1)), 0, 0, false, []⟩,
    ⟨some 1, none, .mov (.t 39), 0, 0, false, []⟩])
   (.seq (.seq (.seg false [⟨some 40, none, .mov (.t 0), 0, 0, false, []⟩,
    ⟨some 41, none, .mov (.t 5), 0, 0, false, []⟩,
    ⟨some 42, none, .iaddr 5 (.t 40) (.t 41), 0, 0, false, []⟩,
    ⟨some 43, none, .faddr 2 3 (.t 42), 0, 0, false, []⟩,
    ⟨some 44, none, .faddr 1 1 (.t 43), 0, 0, false, []⟩,
    ⟨some 45, none, .load false 1 (.t 44), 0, 0, false, []⟩,
    ⟨some 46, none, .mov (.t 1), 0, 0, false, []⟩,
    ⟨some 47, none, .bin .neq (.t 45) (.t 46), 0, 0, false, []⟩])
   (.cutTo [0, 1, 5, 47] (.cond (.t 47) (.seq (.seg false [⟨some 4, none, .mov (.k (.int .i64 (-1))), 0, 0, false, []⟩])
   (.ret))
   (.skip))))
   (.cutTo [0, 1, 5] (.seq (.seg false [⟨some 48, none, .mov (.t 1), 0, 0, false, []⟩,
    ⟨some 49, none, .bin .add (.t 48) (.k (.int .i64 1)), 0, 0, false, []⟩,
    ⟨some 1, none, .mov (.t 49), 0, 0, false, []⟩])
   (.seq (.seq (.seg true D33x0)
   (.cutTo [0, 1, 5, 58] (.cond (.t 58) (.seq (.seg false [⟨some 4, none, .mov (.k (.int .i64 (-1))), 0, 0, false, []⟩])
   (.ret))
   (.skip))))
   (.cutTo [0, 1, 5] (.seg false [⟨some 59, none, .mov (.t 1), 0, 0, false, []⟩,
    ⟨some 60, none, .bin .add (.t 59) (.k (.int .i64 1)), 0, 0, false, []⟩,
    ⟨some 1, none, .mov (.t 60), 0, 0, false, []⟩]))))))))))))))))
   (.cutTo [0, 1, 5] (.seg false [⟨some 10, none, .mov (.t 5), 0, 0, false, []⟩,
    ⟨some 11, none, .bin .add (.t 10) (.k (.int .i64 1)), 0, 0, false, []⟩,
    ⟨some 5, none, .mov (.t 11), 0, 0, false, []⟩]))))
def L33x0 : C := B33x0
theorem evL33x0 (run : Run) (draw : List I → Env → Heap → Option (Env × Heap)) (e : Env) (h : Heap) : evC run draw L33x0 e h = evC run draw B33x0 e h := rfl
/-- loop.example/tablehouse/laws.heldPartS -/
def F33 : F := ⟨62, [(false, 4, 0, false)],
   .seq (.seg false [⟨some 4, none, .mov (.k (.int .i64 0)), 0, 0, false, []⟩])
   (.seq (.seq (.seg false [⟨some 5, none, .mov (.k (.int .i64 0)), 0, 0, false, []⟩])
   (.block 0 (.loop [0, 1, 5] [1, 4] L33x0)))
   (.seq (.seg false [⟨some 61, none, .mov (.t 1), 0, 0, false, []⟩,
    ⟨some 4, none, .mov (.t 61), 0, 0, false, []⟩])
   (.ret)))⟩
def B30x0 : C := .seq (.seq (.seg false [⟨some 6, none, .mov (.t 5), 0, 0, false, []⟩,
    ⟨some 7, none, .mov (.t 0), 0, 0, false, []⟩,
    ⟨some 8, none, .len false (.t 7), 0, 0, false, []⟩,
    ⟨some 9, none, .bin .lss (.t 6) (.t 8), 0, 0, false, []⟩])
   (.cutTo [0, 1, 5, 9] (.cond (.t 9) (.skip)
   (.exit 0))))
   (.cutTo [0, 1, 5] (.seq (.block 1 (.seq (.seg false [⟨some 12, none, .mov (.t 0), 0, 0, false, []⟩,
    ⟨some 13, none, .mov (.t 5), 0, 0, false, []⟩,
    ⟨some 14, none, .mov (.t 1), 0, 0, false, []⟩,
    ⟨some 15, none, .iaddr 2 (.t 12) (.t 13), 0, 0, false, []⟩,
    ⟨some 16, none, .faddr 0 1 (.t 15), 0, 0, false, []⟩,
    ⟨none, none, .store 1 (.t 16) (.t 14), 0, 0, false, []⟩])
   (.cutTo [0, 1, 5] (.seq (.seg false [⟨some 17, none, .mov (.t 1), 0, 0, false, []⟩,
    ⟨some 18, none, .bin .add (.t 17) (.k (.int .i64 1)), 0, 0, false, []⟩,
    ⟨some 1, none, .mov (.t 18), 0, 0, false, []⟩])
   (.seq (.seg false [⟨some 19, none, .mov (.t 0), 0, 0, false, []⟩,
    ⟨some 20, none, .mov (.t 5), 0, 0, false, []⟩,
    ⟨some 21, none, .mov (.t 1), 0, 0, false, []⟩,
    ⟨some 22, none, .bin .rem (.t 21) (.k (.int .i64 3)), 0, 0, false, []⟩,
    ⟨some 23, none, .bin .eql (.t 22) (.k (.int .i64 0)), 0, 0, false, []⟩,
    ⟨some 24, none, .iaddr 2 (.t 19) (.t 20), 0, 0, false, []⟩,
    ⟨some 25, none, .faddr 1 1 (.t 24), 0, 0, false, []⟩,
    ⟨none, none, .store 1 (.t 25) (.t 23), 0, 0, false, []⟩])
   (.cutTo [0, 1, 5] (.seg false [⟨some 26, none, .mov (.t 1), 0, 0, false, []⟩,
    ⟨some 27, none, .bin .add (.t 26) (.k (.int .i64 1)), 0, 0, false, []⟩,
    ⟨some 1, none, .mov (.t 27), 0, 0, false, []⟩])))))))
   (.cutTo [0, 1, 5] (.seg false [⟨some 10, none, .mov (.t 5), 0, 0, false, []⟩,
    ⟨some 11, none, .bin .add (.t 10) (.k (.int .i64 1)), 0, 0, false, []⟩,
    ⟨some 5, none, .mov (.t 11), 0, 0, false, []⟩]))))
def L30x0 : C := B30x0
theorem evL30x0 (run : Run) (draw : List I → Env → Heap → Option (Env × Heap)) (e : Env) (h : Heap) : evC run draw L30x0 e h = evC run draw B30x0 e h := rfl
/-- loop.example/tablehouse/laws.markColumnS -/
def F30 : F := ⟨29, [(false, 4, 0, false)],
   .seq (.seg false [⟨some 4, none, .mov (.k (.int .i64 0)), 0, 0, false, []⟩])
   (.seq (.seq (.seg false [⟨some 5, none, .mov (.k (.int .i64 0)), 0, 0, false, []⟩])
   (.block 0 (.loopk [0, 1, 5] [1] L30x0)))
   (.seq (.seg false [⟨some 28, none, .mov (.t 1), 0, 0, false, []⟩,
    ⟨some 4, none, .mov (.t 28), 0, 0, false, []⟩])
   (.ret)))⟩
def B32x0 : C := .seq (.seq (.seg false [⟨some 6, none, .mov (.t 5), 0, 0, false, []⟩,
    ⟨some 7, none, .mov (.t 0), 0, 0, false, []⟩,
    ⟨some 8, none, .len false (.t 7), 0, 0, false, []⟩,
    ⟨some 9, none, .bin .lss (.t 6) (.t 8), 0, 0, false, []⟩])
   (.cutTo [0, 1, 5, 9] (.cond (.t 9) (.skip)
   (.exit 0))))
   (.cutTo [0, 1, 5] (.seq (.block 1 (.seq (.seg false [⟨some 12, none, .mov (.t 0), 0, 0, false, []⟩,
    ⟨some 13, none, .mov (.t 5), 0, 0, false, []⟩,
    ⟨some 14, none, .mov (.t 1), 0, 0, false, []⟩,
    ⟨some 15, none, .iaddr 1 (.t 12) (.t 13), 0, 0, false, []⟩,
    ⟨none, none, .store 1 (.t 15) (.t 14), 0, 0, false, []⟩])
   (.cutTo [0, 1, 5] (.seg false [⟨some 16, none, .mov (.t 1), 0, 0, false, []⟩,
    ⟨some 17, none, .bin .add (.t 16) (.k (.int .i64 1)), 0, 0, false, []⟩,
    ⟨some 1, none, .mov (.t 17), 0, 0, false, []⟩]))))
   (.cutTo [0, 1, 5] (.seg false [⟨some 10, none, .mov (.t 5), 0, 0, false, []⟩,
    ⟨some 11, none, .bin .add (.t 10) (.k (.int .i64 1)), 0, 0, false, []⟩,
    ⟨some 5, none, .mov (.t 11), 0, 0, false, []⟩]))))
def L32x0 : C := B32x0
theorem evL32x0 (run : Run) (draw : List I → Env → Heap → Option (Env × Heap)) (e : Env) (h : Heap) : evC run draw L32x0 e h = evC run draw B32x0 e h := rfl
/-- loop.example/tablehouse/laws.markIntS -/
def F32 : F := ⟨19, [(false, 4, 0, false)],
   .seq (.seg false [⟨some 4, none, .mov (.k (.int .i64 0)), 0, 0, false, []⟩])
   (.seq (.seq (.seg false [⟨some 5, none, .mov (.k (.int .i64 0)), 0, 0, false, []⟩])
   (.block 0 (.loopk [0, 1, 5] [1] L32x0)))
   (.seq (.seg false [⟨some 18, none, .mov (.t 1), 0, 0, false, []⟩,
    ⟨some 4, none, .mov (.t 18), 0, 0, false, []⟩])
   (.ret)))⟩
def B31x0 : C := .seq (.seq (.seg false [⟨some 6, none, .mov (.t 5), 0, 0, false, []⟩,
    ⟨some 7, none, .mov (.t 0), 0, 0, false, []⟩,
    ⟨some 8, none, .len false (.t 7), 0, 0, false, []⟩,
    ⟨some 9, none, .bin .lss (.t 6) (.t 8), 0, 0, false, []⟩])
   (.cutTo [0, 1, 5, 9] (.cond (.t 9) (.skip)
   (.exit 0))))
   (.cutTo [0, 1, 5] (.seq (.block 1 (.seq (.seg false [⟨some 12, none, .mov (.t 0), 0, 0, false, []⟩,
    ⟨some 13, none, .mov (.t 5), 0, 0, false, []⟩,
    ⟨some 14, none, .mov (.t 1), 0, 0, false, []⟩,
    ⟨some 15, none, .iaddr 5 (.t 12) (.t 13), 0, 0, false, []⟩,
    ⟨some 16, none, .faddr 0 1 (.t 15), 0, 0, false, []⟩,
    ⟨none, none, .store 1 (.t 16) (.t 14), 0, 0, false, []⟩])
   (.cutTo [0, 1, 5] (.seq (.seg false [⟨some 17, none, .mov (.t 1), 0, 0, false, []⟩,
    ⟨some 18, none, .bin .add (.t 17) (.k (.int .i64 1)), 0, 0, false, []⟩,
    ⟨some 1, none, .mov (.t 18), 0, 0, false, []⟩])
   (.seq (.seg false [⟨some 19, none, .mov (.t 0), 0, 0, false, []⟩,
    ⟨some 20, none, .mov (.t 5), 0, 0, false, []⟩,
    ⟨some 21, none, .mov (.t 1), 0, 0, false, []⟩,
    ⟨some 22, none, .iaddr 5 (.t 19) (.t 20), 0, 0, false, []⟩,
    ⟨some 23, none, .faddr 1 1 (.t 22), 0, 0, false, []⟩,
    ⟨none, none, .store 1 (.t 23) (.t 21), 0, 0, false, []⟩])
   (.cutTo [0, 1, 5] (.seq (.seg false [⟨some 24, none, .mov (.t 1), 0, 0, false, []⟩,
    ⟨some 25, none, .bin .add (.t 24) (.k (.int .i64 1)), 0, 0, false, []⟩,
    ⟨some 1, none, .mov (.t 25), 0, 0, false, []⟩])
   (.seq (.seg false [⟨some 26, none, .mov (.t 0), 0, 0, false, []⟩,
    ⟨some 27, none, .mov (.t 5), 0, 0, false, []⟩,
    ⟨some 28, none, .mov (.t 1), 0, 0, false, []⟩,
    ⟨some 29, none, .iaddr 5 (.t 26) (.t 27), 0, 0, false, []⟩,
    ⟨some 30, none, .faddr 2 3 (.t 29), 0, 0, false, []⟩,
    ⟨some 31, none, .faddr 0 1 (.t 30), 0, 0, false, []⟩,
    ⟨none, none, .store 1 (.t 31) (.t 28), 0, 0, false, []⟩])
   (.cutTo [0, 1, 5] (.seq (.seg false [⟨some 32, none, .mov (.t 1), 0, 0, false, []⟩,
    ⟨some 33, none, .bin .add (.t 32) (.k (.int .i64 1)), 0, 0, false, []⟩,
    ⟨some 1, none, .mov (.t 33), 0, 0, false, []⟩])
   (.seq (.seg false [⟨some 34, none, .mov (.t 0), 0, 0, false, []⟩,
    ⟨some 35, none, .mov (.t 5), 0, 0, false, []⟩,
    ⟨some 36, none, .mov (.t 1), 0, 0, false, []⟩,
    ⟨some 37, none, .iaddr 5 (.t 34) (.t 35), 0, 0, false, []⟩,
    ⟨some 38, none, .faddr 2 3 (.t 37), 0, 0, false, []⟩,
    ⟨some 39, none, .faddr 1 1 (.t 38), 0, 0, false, []⟩,
    ⟨none, none, .store 1 (.t 39) (.t 36), 0, 0, false, []⟩])
   (.cutTo [0, 1, 5] (.seq (.seg false [⟨some 40, none, .mov (.t 1), 0, 0, false, []⟩,
    ⟨some 41, none, .bin .add (.t 40) (.k (.int .i64 1)), 0, 0, false, []⟩,
    ⟨some 1, none, .mov (.t 41), 0, 0, false, []⟩])
   (.seq (.seg false [⟨some 42, none, .mov (.t 0), 0, 0, false, []⟩,
    ⟨some 43, none, .mov (.t 5), 0, 0, false, []⟩,
    ⟨some 44, none, .mov (.t 1), 0, 0, false, []⟩,
    ⟨some 45, none, .call 80 [.t 44] false false, 0, 0, false, []⟩,
    ⟨some 46, none, .iaddr 5 (.t 42) (.t 43), 0, 0, false, []⟩,
    ⟨some 47, none, .faddr 2 3 (.t 46), 0, 0, false, []⟩,
    ⟨some 48, none, .faddr 2 1 (.t 47), 0, 0, false, []⟩,
    ⟨none, none, .store 1 (.t 48) (.t 45), 0, 0, false, []⟩])
   (.cutTo [0, 1, 5] (.seg false [⟨some 49, none, .mov (.t 1), 0, 0, false, []⟩,
    ⟨some 50, none, .bin .add (.t 49) (.k (.int .i64 1)), 0, 0, false, []⟩,
    ⟨some 1, none, .mov (.t 50), 0, 0, false, []⟩]))))))))))))))))
   (.cutTo [0, 1, 5] (.seg false [⟨some 10, none, .mov (.t 5), 0, 0, false, []⟩,
    ⟨some 11, none, .bin .add (.t 10) (.k (.int .i64 1)), 0, 0, false, []⟩,
    ⟨some 5, none, .mov (.t 11), 0, 0, false, []⟩]))))
def L31x0 : C := B31x0
theorem evL31x0 (run : Run) (draw : List I → Env → Heap → Option (Env × Heap)) (e : Env) (h : Heap) : evC run draw L31x0 e h = evC run draw B31x0 e h := rfl
/-- loop.example/tablehouse/laws.markPartS -/
def F31 : F := ⟨52, [(false, 4, 0, false)],
   .seq (.seg false [⟨some 4, none, .mov (.k (.int .i64 0)), 0, 0, false, []⟩])
   (.seq (.seq (.seg false [⟨some 5, none, .mov (.k (.int .i64 0)), 0, 0, false, []⟩])
   (.block 0 (.loopk [0, 1, 5] [1] L31x0)))
   (.seq (.seg false [⟨some 51, none, .mov (.t 1), 0, 0, false, []⟩,
    ⟨some 4, none, .mov (.t 51), 0, 0, false, []⟩])
   (.ret)))⟩
def B80x0 : C := .seq (.seq (.seg false [⟨some 6, none, .mov (.t 0), 0, 0, false, []⟩,
    ⟨some 7, none, .bin .gtr (.t 6) (.k (.int .i64 0)), 0, 0, false, []⟩])
   (.cond (.t 7) (.skip)
   (.exit 0)))
   (.block 1 (.seq (.seg false [⟨some 8, none, .mov (.t 0), 0, 0, false, []⟩,
    ⟨some 9, none, .bin .rem (.t 8) (.k (.int .i64 10)), 0, 0, false, []⟩,
    ⟨some 10, none, .bin .add (.k (.int .i64 48)) (.t 9), 0, 0, false, []⟩,
    ⟨some 11, none, .conv (.int .u8) (.t 10), 0, 0, false, []⟩,
    ⟨some 12, none, .mksl false 1 [.t 11], 0, 0, false, []⟩,
    ⟨some 13, none, .conv .toStr (.t 12), 0, 0, false, []⟩,
    ⟨some 14, none, .mov (.t 3), 0, 0, false, []⟩,
    ⟨some 15, none, .bin .add (.t 13) (.t 14), 0, 0, false, []⟩,
    ⟨some 3, none, .mov (.t 15), 0, 0, false, []⟩])
   (.cutTo [0, 3] (.seg false [⟨some 16, none, .mov (.t 0), 0, 0, false, []⟩,
    ⟨some 17, none, .bin .quo (.t 16) (.k (.int .i64 10)), 0, 0, false, []⟩,
    ⟨some 0, none, .mov (.t 17), 0, 0, false, []⟩]))))
def L80x0 : C := B80x0
theorem evL80x0 (run : Run) (draw : List I → Env → Heap → Option (Env × Heap)) (e : Env) (h : Heap) : evC run draw L80x0 e h = evC run draw B80x0 e h := rfl
/-- loop.example/tablehouse/laws.markText -/
def F80 : F := ⟨20, [(false, 2, 0, false)],
   .seq (.seg false [⟨some 2, none, .mov (.k (.str ⟨#[]⟩)), 0, 0, false, []⟩])
   (.seq (.seq (.seg false [⟨some 4, none, .mov (.t 0), 0, 0, false, []⟩,
    ⟨some 5, none, .bin .leq (.t 4) (.k (.int .i64 0)), 0, 0, false, []⟩])
   (.cond (.t 5) (.seq (.seg false [⟨some 2, none, .mov (.k (.str ⟨#[109, 48]⟩)), 0, 0, false, []⟩])
   (.ret))
   (.skip)))
   (.seq (.seg false [⟨some 3, none, .mov (.k (.str ⟨#[]⟩)), 0, 0, false, []⟩])
   (.seq (.block 0 (.loop [0, 3] [3] L80x0))
   (.seq (.seg false [⟨some 18, none, .mov (.t 3), 0, 0, false, []⟩,
    ⟨some 19, none, .bin .add (.k (.str ⟨#[109]⟩)) (.t 18), 0, 0, false, []⟩,
    ⟨some 2, none, .mov (.t 19), 0, 0, false, []⟩])
   (.ret)))))⟩
def E17x0 : List I := [⟨some 17, none, .mov (.t 0), 0, 0, false, []⟩,
    ⟨some 18, none, .mov (.t 5), 0, 0, false, []⟩,
    ⟨some 19, none, .iaddr 5 (.t 17) (.t 18), 0, 0, false, []⟩,
    ⟨some 20, none, .load true 5 (.t 19), 0, 0, false, []⟩,
    ⟨some 21, none, .mov (.t 1), 0, 0, false, []⟩,
    ⟨some 22, none, .mov (.t 5), 0, 0, false, []⟩,
    ⟨some 23, none, .iaddr 5 (.t 21) (.t 22), 0, 0, false, []⟩,
    ⟨some 24, none, .load true 5 (.t 23), 0, 0, false, []⟩,
    ⟨some 25, none, .eqs true [.int, .int, .int, .int, .str] (.t 20) (.t 24), 0, 0, false, []⟩]
def D17x0 : List I := E17x0
theorem evD17x0 (run : Run) (e : Env) (h : Heap) : drawI run D17x0 e h = DrawS (evQ run E17x0 e h) run E17x0 e h := drawI_quiet run _ (by rfl) e h
def B17x0 : C := .seq (.seq (.seg false [⟨some 11, none, .mov (.t 5), 0, 0, false, []⟩,
    ⟨some 12, none, .mov (.t 0), 0, 0, false, []⟩,
    ⟨some 13, none, .len false (.t 12), 0, 0, false, []⟩,
    ⟨some 14, none, .bin .lss (.t 11) (.t 13), 0, 0, false, []⟩])
   (.cutTo [0, 1, 5, 14] (.cond (.t 14) (.skip)
   (.exit 0))))
   (.cutTo [0, 1, 5] (.seq (.block 1 (.seq (.seg true D17x0)
   (.cutTo [0, 1, 5, 25] (.cond (.t 25) (.seq (.seg false [⟨some 4, none, .mov (.k (.bool false)), 0, 0, false, []⟩])
   (.ret))
   (.skip)))))
   (.cutTo [0, 1, 5] (.seg false [⟨some 15, none, .mov (.t 5), 0, 0, false, []⟩,
    ⟨some 16, none, .bin .add (.t 15) (.k (.int .i64 1)), 0, 0, false, []⟩,
    ⟨some 5, none, .mov (.t 16), 0, 0, false, []⟩]))))
def L17x0 : C := B17x0
theorem evL17x0 (run : Run) (draw : List I → Env → Heap → Option (Env × Heap)) (e : Env) (h : Heap) : evC run draw L17x0 e h = evC run draw B17x0 e h := rfl
/-- loop.example/tablehouse/laws.sameParts -/
def F17 : F := ⟨26, [(false, 4, 0, false)],
   .seq (.seg false [⟨some 4, none, .mov (.k (.bool false)), 0, 0, false, []⟩])
   (.seq (.seq (.seg false [⟨some 6, none, .mov (.t 0), 0, 0, false, []⟩,
    ⟨some 7, none, .len false (.t 6), 0, 0, false, []⟩,
    ⟨some 8, none, .mov (.t 1), 0, 0, false, []⟩,
    ⟨some 9, none, .len false (.t 8), 0, 0, false, []⟩,
    ⟨some 10, none, .bin .neq (.t 7) (.t 9), 0, 0, false, []⟩])
   (.cutTo [0, 1, 10] (.cond (.t 10) (.seq (.seg false [⟨some 4, none, .mov (.k (.bool false)), 0, 0, false, []⟩])
   (.ret))
   (.skip))))
   (.cutTo [0, 1] (.seq (.seq (.seg false [⟨some 5, none, .mov (.k (.int .i64 0)), 0, 0, false, []⟩])
   (.block 0 (.loop [0, 1, 5] [4] L17x0)))
   (.seq (.seg false [⟨some 4, none, .mov (.k (.bool true)), 0, 0, false, []⟩])
   (.ret)))))⟩
/-- loop.example/tablehouse/laws.szColumnS -/
def F22 : F := ⟨12, [(false, 4, 0, false)],
   .seq (.seg false [⟨some 4, none, .mov (.k (.int .i64 0)), 0, 0, false, []⟩])
   (.seq (.seg false [⟨some 5, none, .mov (.t 1), 0, 0, false, []⟩,
    ⟨some 6, none, .mov (.t 0), 0, 0, false, []⟩,
    ⟨some 7, none, .len false (.t 6), 0, 0, false, []⟩,
    ⟨some 8, none, .bin .sub (.t 5) (.t 7), 0, 0, false, []⟩,
    ⟨some 1, none, .mov (.t 8), 0, 0, false, []⟩])
   (.cutTo [1] (.seq (.seq (.seg false [⟨some 9, none, .mov (.t 1), 0, 0, false, []⟩,
    ⟨some 10, none, .bin .lss (.t 9) (.k (.int .i64 0)), 0, 0, false, []⟩])
   (.cond (.t 10) (.seq (.seg false [⟨some 4, none, .mov (.k (.int .i64 (-1))), 0, 0, false, []⟩])
   (.ret))
   (.skip)))
   (.seq (.seg false [⟨some 11, none, .mov (.t 1), 0, 0, false, []⟩,
    ⟨some 4, none, .mov (.t 11), 0, 0, false, []⟩])
   (.ret)))))⟩
/-- loop.example/tablehouse/laws.szPart -/
def F75 : F := ⟨12, [(false, 4, 0, false)],
   .seq (.seg false [⟨some 2, none, .box (.t 0), 0, 0, false, []⟩,
    ⟨some 4, none, .mov (.k (.int .i64 0)), 0, 0, false, []⟩])
   (.seq (.seg false [⟨some 5, none, .faddr 2 3 (.t 2), 0, 0, false, []⟩,
    ⟨some 6, none, .load true 3 (.t 5), 0, 0, false, []⟩,
    ⟨some 7, none, .mov (.t 1), 0, 0, false, []⟩,
    ⟨some 8, none, .call 130 [.t 6, .t 7] false false, 0, 0, false, []⟩,
    ⟨some 1, none, .mov (.t 8), 0, 0, false, []⟩])
   (.cutTo [1] (.seq (.seq (.seg false [⟨some 9, none, .mov (.t 1), 0, 0, false, []⟩,
    ⟨some 10, none, .bin .lss (.t 9) (.k (.int .i64 0)), 0, 0, false, []⟩])
   (.cond (.t 10) (.seq (.seg false [⟨some 4, none, .mov (.k (.int .i64 (-1))), 0, 0, false, []⟩])
   (.ret))
   (.skip)))
   (.seq (.seg false [⟨some 11, none, .mov (.t 1), 0, 0, false, []⟩,
    ⟨some 4, none, .mov (.t 11), 0, 0, false, []⟩])
   (.ret)))))⟩
def B23x0 : C := .seq (.seq (.seg false [⟨some 12, none, .mov (.t 5), 0, 0, false, []⟩,
    ⟨some 13, none, .mov (.t 0), 0, 0, false, []⟩,
    ⟨some 14, none, .len false (.t 13), 0, 0, false, []⟩,
    ⟨some 15, none, .bin .lss (.t 12) (.t 14), 0, 0, false, []⟩])
   (.cutTo [0, 1, 5, 15] (.cond (.t 15) (.skip)
   (.exit 0))))
   (.cutTo [0, 1, 5] (.seq (.block 1 (.seq (.seg false [⟨some 18, none, .mov (.t 0), 0, 0, false, []⟩,
    ⟨some 19, none, .mov (.t 5), 0, 0, false, []⟩,
    ⟨some 20, none, .iaddr 5 (.t 18) (.t 19), 0, 0, false, []⟩,
    ⟨some 21, none, .load true 5 (.t 20), 0, 0, false, []⟩,
    ⟨some 22, none, .mov (.t 1), 0, 0, false, []⟩,
    ⟨some 23, none, .call 75 [.t 21, .t 22] false false, 0, 0, false, []⟩,
    ⟨some 1, none, .mov (.t 23), 0, 0, false, []⟩])
   (.cutTo [0, 1, 5] (.seq (.seg false [⟨some 24, none, .mov (.t 1), 0, 0, false, []⟩,
    ⟨some 25, none, .bin .lss (.t 24) (.k (.int .i64 0)), 0, 0, false, []⟩])
   (.cond (.t 25) (.seq (.seg false [⟨some 4, none, .mov (.k (.int .i64 (-1))), 0, 0, false, []⟩])
   (.ret))
   (.skip))))))
   (.cutTo [0, 1, 5] (.seg false [⟨some 16, none, .mov (.t 5), 0, 0, false, []⟩,
    ⟨some 17, none, .bin .add (.t 16) (.k (.int .i64 1)), 0, 0, false, []⟩,
    ⟨some 5, none, .mov (.t 17), 0, 0, false, []⟩]))))
def L23x0 : C := B23x0
theorem evL23x0 (run : Run) (draw : List I → Env → Heap → Option (Env × Heap)) (e : Env) (h : Heap) : evC run draw L23x0 e h = evC run draw B23x0 e h := rfl
/-- loop.example/tablehouse/laws.szPartS -/
def F23 : F := ⟨27, [(false, 4, 0, false)],
   .seq (.seg false [⟨some 4, none, .mov (.k (.int .i64 0)), 0, 0, false, []⟩])
   (.seq (.seg false [⟨some 6, none, .mov (.t 1), 0, 0, false, []⟩,
    ⟨some 7, none, .mov (.t 0), 0, 0, false, []⟩,
    ⟨some 8, none, .len false (.t 7), 0, 0, false, []⟩,
    ⟨some 9, none, .bin .sub (.t 6) (.t 8), 0, 0, false, []⟩,
    ⟨some 1, none, .mov (.t 9), 0, 0, false, []⟩])
   (.cutTo [0, 1] (.seq (.seq (.seg false [⟨some 10, none, .mov (.t 1), 0, 0, false, []⟩,
    ⟨some 11, none, .bin .lss (.t 10) (.k (.int .i64 0)), 0, 0, false, []⟩])
   (.cond (.t 11) (.seq (.seg false [⟨some 4, none, .mov (.k (.int .i64 (-1))), 0, 0, false, []⟩])
   (.ret))
   (.skip)))
   (.seq (.seq (.seg false [⟨some 5, none, .mov (.k (.int .i64 0)), 0, 0, false, []⟩])
   (.block 0 (.loop [0, 1, 5] [1, 4] L23x0)))
   (.seq (.seg false [⟨some 26, none, .mov (.t 1), 0, 0, false, []⟩,
    ⟨some 4, none, .mov (.t 26), 0, 0, false, []⟩])
   (.ret))))))⟩
/-- loop.example/tablehouse/laws.szValue -/
def F130 : F := ⟨13, [(false, 4, 0, false)],
   .seq (.seg false [⟨some 2, none, .box (.t 0), 0, 0, false, []⟩,
    ⟨some 4, none, .mov (.k (.int .i64 0)), 0, 0, false, []⟩])
   (.seq (.seg false [⟨some 5, none, .mov (.t 1), 0, 0, false, []⟩,
    ⟨some 6, none, .faddr 2 1 (.t 2), 0, 0, false, []⟩,
    ⟨some 7, none, .load false 1 (.t 6), 0, 0, false, []⟩,
    ⟨some 8, none, .len true (.t 7), 0, 0, false, []⟩,
    ⟨some 9, none, .bin .sub (.t 5) (.t 8), 0, 0, false, []⟩,
    ⟨some 1, none, .mov (.t 9), 0, 0, false, []⟩])
   (.cutTo [1] (.seq (.seq (.seg false [⟨some 10, none, .mov (.t 1), 0, 0, false, []⟩,
    ⟨some 11, none, .bin .lss (.t 10) (.k (.int .i64 0)), 0, 0, false, []⟩])
   (.cond (.t 11) (.seq (.seg false [⟨some 4, none, .mov (.k (.int .i64 (-1))), 0, 0, false, []⟩])
   (.ret))
   (.skip)))
   (.seq (.seg false [⟨some 12, none, .mov (.t 1), 0, 0, false, []⟩,
    ⟨some 4, none, .mov (.t 12), 0, 0, false, []⟩])
   (.ret)))))⟩
/-- loop.example/tablehouse/laws.toColumn -/
def F76 : F := ⟨11, [(true, 2, 2, true)],
   .seq (.seg false [⟨some 1, none, .box (.t 0), 0, 0, false, []⟩,
    ⟨some 2, none, .alloc [.int .i64 0, .bool false], 0, 0, false, []⟩])
   (.seq (.seg false [⟨some 3, none, .alloc [.int .i64 0, .bool false], 0, 0, false, []⟩])
   (.seq (.seg false [⟨some 4, none, .faddr 0 1 (.t 1), 0, 0, false, []⟩,
    ⟨some 5, none, .load false 1 (.t 4), 0, 0, false, []⟩,
    ⟨some 6, none, .faddr 0 1 (.t 3), 0, 0, false, []⟩,
    ⟨none, none, .store 1 (.t 6) (.t 5), 0, 0, false, []⟩])
   (.cutTo [1, 2, 3] (.seq (.seg false [⟨some 7, none, .faddr 1 1 (.t 1), 0, 0, false, []⟩,
    ⟨some 8, none, .load false 1 (.t 7), 0, 0, false, []⟩,
    ⟨some 9, none, .faddr 1 1 (.t 3), 0, 0, false, []⟩,
    ⟨none, none, .store 1 (.t 9) (.t 8), 0, 0, false, []⟩])
   (.cutTo [2, 3] (.seq (.seg false [⟨some 10, none, .load true 2 (.t 3), 0, 0, false, []⟩,
    ⟨none, none, .store 2 (.t 2) (.t 10), 0, 0, false, []⟩])
   (.ret)))))))⟩
def B24x0 : C := .seq (.seq (.seg false [⟨some 8, none, .mov (.t 4), 0, 0, false, []⟩,
    ⟨some 9, none, .mov (.t 0), 0, 0, false, []⟩,
    ⟨some 10, none, .len false (.t 9), 0, 0, false, []⟩,
    ⟨some 11, none, .bin .lss (.t 8) (.t 10), 0, 0, false, []⟩])
   (.cutTo [0, 3, 4, 11] (.cond (.t 11) (.skip)
   (.exit 0))))
   (.cutTo [0, 3, 4] (.seq (.block 1 (.seg false [⟨some 14, none, .mov (.t 3), 0, 0, false, []⟩,
    ⟨some 15, none, .mov (.t 4), 0, 0, false, []⟩,
    ⟨some 16, none, .mov (.t 0), 0, 0, false, []⟩,
    ⟨some 17, none, .mov (.t 4), 0, 0, false, []⟩,
    ⟨some 18, none, .iaddr 2 (.t 16) (.t 17), 0, 0, false, []⟩,
    ⟨some 19, none, .load true 2 (.t 18), 0, 0, false, []⟩,
    ⟨some 20, none, .callx 0 76 [.t 19], 0, 0, false, []⟩,
    ⟨some 21, none, .iaddr 2 (.t 14) (.t 15), 0, 0, false, []⟩,
    ⟨none, none, .store 2 (.t 21) (.t 20), 0, 0, false, []⟩]))
   (.cutTo [0, 3, 4] (.seg false [⟨some 12, none, .mov (.t 4), 0, 0, false, []⟩,
    ⟨some 13, none, .bin .add (.t 12) (.k (.int .i64 1)), 0, 0, false, []⟩,
    ⟨some 4, none, .mov (.t 13), 0, 0, false, []⟩]))))
def L24x0 : C := B24x0
theorem evL24x0 (run : Run) (draw : List I → Env → Heap → Option (Env × Heap)) (e : Env) (h : Heap) : evC run draw L24x0 e h = evC run draw B24x0 e h := rfl
/-- loop.example/tablehouse/laws.toColumnS -/
def F24 : F := ⟨23, [(false, 2, 0, false)],
   .seq (.seg false [⟨some 2, none, .mov (.k (.sl true 2 [])), 0, 0, false, []⟩])
   (.seq (.seg false [⟨some 5, none, .mov (.t 0), 0, 0, false, []⟩,
    ⟨some 6, none, .len false (.t 5), 0, 0, false, []⟩,
    ⟨some 7, none, .mk 2 [.int .i64 0, .bool false] (.t 6), 0, 0, false, []⟩,
    ⟨some 3, none, .mov (.t 7), 0, 0, false, []⟩])
   (.cutTo [0, 3] (.seq (.seq (.seg false [⟨some 4, none, .mov (.k (.int .i64 0)), 0, 0, false, []⟩])
   (.block 0 (.loopk [0, 3, 4] [3] L24x0)))
   (.seq (.seg false [⟨some 22, none, .mov (.t 3), 0, 0, false, []⟩,
    ⟨some 2, none, .mov (.t 22), 0, 0, false, []⟩])
   (.ret)))))⟩
def B26x0 : C := .seq (.seq (.seg false [⟨some 8, none, .mov (.t 4), 0, 0, false, []⟩,
    ⟨some 9, none, .mov (.t 0), 0, 0, false, []⟩,
    ⟨some 10, none, .len false (.t 9), 0, 0, false, []⟩,
    ⟨some 11, none, .bin .lss (.t 8) (.t 10), 0, 0, false, []⟩])
   (.cutTo [0, 3, 4, 11] (.cond (.t 11) (.skip)
   (.exit 0))))
   (.cutTo [0, 3, 4] (.seq (.block 1 (.seg false [⟨some 14, none, .mov (.t 3), 0, 0, false, []⟩,
    ⟨some 15, none, .mov (.t 4), 0, 0, false, []⟩,
    ⟨some 16, none, .mov (.t 0), 0, 0, false, []⟩,
    ⟨some 17, none, .mov (.t 4), 0, 0, false, []⟩,
    ⟨some 18, none, .iaddr 1 (.t 16) (.t 17), 0, 0, false, []⟩,
    ⟨some 19, none, .load false 1 (.t 18), 0, 0, false, []⟩,
    ⟨some 20, none, .iaddr 1 (.t 14) (.t 15), 0, 0, false, []⟩,
    ⟨none, none, .store 1 (.t 20) (.t 19), 0, 0, false, []⟩]))
   (.cutTo [0, 3, 4] (.seg false [⟨some 12, none, .mov (.t 4), 0, 0, false, []⟩,
    ⟨some 13, none, .bin .add (.t 12) (.k (.int .i64 1)), 0, 0, false, []⟩,
    ⟨some 4, none, .mov (.t 13), 0, 0, false, []⟩]))))
def L26x0 : C := B26x0
theorem evL26x0 (run : Run) (draw : List I → Env → Heap → Option (Env × Heap)) (e : Env) (h : Heap) : evC run draw L26x0 e h = evC run draw B26x0 e h := rfl
/-- loop.example/tablehouse/laws.toIntS -/
def F26 : F := ⟨22, [(false, 2, 0, false)],
   .seq (.seg false [⟨some 2, none, .mov (.k (.sl true 1 [])), 0, 0, false, []⟩])
   (.seq (.seg false [⟨some 5, none, .mov (.t 0), 0, 0, false, []⟩,
    ⟨some 6, none, .len false (.t 5), 0, 0, false, []⟩,
    ⟨some 7, none, .mk 1 [.int .i64 0] (.t 6), 0, 0, false, []⟩,
    ⟨some 3, none, .mov (.t 7), 0, 0, false, []⟩])
   (.cutTo [0, 3] (.seq (.seq (.seg false [⟨some 4, none, .mov (.k (.int .i64 0)), 0, 0, false, []⟩])
   (.block 0 (.loopk [0, 3, 4] [3] L26x0)))
   (.seq (.seg false [⟨some 21, none, .mov (.t 3), 0, 0, false, []⟩,
    ⟨some 2, none, .mov (.t 21), 0, 0, false, []⟩])
   (.ret)))))⟩
/-- loop.example/tablehouse/laws.toPart -/
def F77 : F := ⟨15, [(true, 2, 5, true)],
   .seq (.seg false [⟨some 1, none, .box (.t 0), 0, 0, false, []⟩,
    ⟨some 2, none, .alloc [.int .i64 0, .int .i64 0, .int .i64 0, .int .i64 0, .str ⟨#[]⟩], 0, 0, false, []⟩])
   (.seq (.seg false [⟨some 3, none, .alloc [.int .i64 0, .int .i64 0, .int .i64 0, .int .i64 0, .str ⟨#[]⟩], 0, 0, false, []⟩])
   (.seq (.seg false [⟨some 4, none, .faddr 0 1 (.t 1), 0, 0, false, []⟩,
    ⟨some 5, none, .load false 1 (.t 4), 0, 0, false, []⟩,
    ⟨some 6, none, .faddr 0 1 (.t 3), 0, 0, false, []⟩,
    ⟨none, none, .store 1 (.t 6) (.t 5), 0, 0, false, []⟩])
   (.cutTo [1, 2, 3] (.seq (.seg false [⟨some 7, none, .faddr 1 1 (.t 1), 0, 0, false, []⟩,
    ⟨some 8, none, .load false 1 (.t 7), 0, 0, false, []⟩,
    ⟨some 9, none, .faddr 1 1 (.t 3), 0, 0, false, []⟩,
    ⟨none, none, .store 1 (.t 9) (.t 8), 0, 0, false, []⟩])
   (.cutTo [1, 2, 3] (.seq (.seg false [⟨some 10, none, .faddr 2 3 (.t 1), 0, 0, false, []⟩,
    ⟨some 11, none, .load true 3 (.t 10), 0, 0, false, []⟩,
    ⟨some 12, none, .callx 0 131 [.t 11], 0, 0, false, []⟩,
    ⟨some 13, none, .faddr 2 3 (.t 3), 0, 0, false, []⟩,
    ⟨none, none, .store 3 (.t 13) (.t 12), 0, 0, false, []⟩])
   (.cutTo [2, 3] (.seq (.seg false [⟨some 14, none, .load true 5 (.t 3), 0, 0, false, []⟩,
    ⟨none, none, .store 5 (.t 2) (.t 14), 0, 0, false, []⟩])
   (.ret)))))))))⟩
def B25x0 : C := .seq (.seq (.seg false [⟨some 8, none, .mov (.t 4), 0, 0, false, []⟩,
    ⟨some 9, none, .mov (.t 0), 0, 0, false, []⟩,
    ⟨some 10, none, .len false (.t 9), 0, 0, false, []⟩,
    ⟨some 11, none, .bin .lss (.t 8) (.t 10), 0, 0, false, []⟩])
   (.cutTo [0, 3, 4, 11] (.cond (.t 11) (.skip)
   (.exit 0))))
   (.cutTo [0, 3, 4] (.seq (.block 1 (.seg false [⟨some 14, none, .mov (.t 3), 0, 0, false, []⟩,
    ⟨some 15, none, .mov (.t 4), 0, 0, false, []⟩,
    ⟨some 16, none, .mov (.t 0), 0, 0, false, []⟩,
    ⟨some 17, none, .mov (.t 4), 0, 0, false, []⟩,
    ⟨some 18, none, .iaddr 5 (.t 16) (.t 17), 0, 0, false, []⟩,
    ⟨some 19, none, .load true 5 (.t 18), 0, 0, false, []⟩,
    ⟨some 20, none, .callx 0 77 [.t 19], 0, 0, false, []⟩,
    ⟨some 21, none, .iaddr 5 (.t 14) (.t 15), 0, 0, false, []⟩,
    ⟨none, none, .store 5 (.t 21) (.t 20), 0, 0, false, []⟩]))
   (.cutTo [0, 3, 4] (.seg false [⟨some 12, none, .mov (.t 4), 0, 0, false, []⟩,
    ⟨some 13, none, .bin .add (.t 12) (.k (.int .i64 1)), 0, 0, false, []⟩,
    ⟨some 4, none, .mov (.t 13), 0, 0, false, []⟩]))))
def L25x0 : C := B25x0
theorem evL25x0 (run : Run) (draw : List I → Env → Heap → Option (Env × Heap)) (e : Env) (h : Heap) : evC run draw L25x0 e h = evC run draw B25x0 e h := rfl
/-- loop.example/tablehouse/laws.toPartS -/
def F25 : F := ⟨23, [(false, 2, 0, false)],
   .seq (.seg false [⟨some 2, none, .mov (.k (.sl true 5 [])), 0, 0, false, []⟩])
   (.seq (.seg false [⟨some 5, none, .mov (.t 0), 0, 0, false, []⟩,
    ⟨some 6, none, .len false (.t 5), 0, 0, false, []⟩,
    ⟨some 7, none, .mk 5 [.int .i64 0, .int .i64 0, .int .i64 0, .int .i64 0, .str ⟨#[]⟩] (.t 6), 0, 0, false, []⟩,
    ⟨some 3, none, .mov (.t 7), 0, 0, false, []⟩])
   (.cutTo [0, 3] (.seq (.seq (.seg false [⟨some 4, none, .mov (.k (.int .i64 0)), 0, 0, false, []⟩])
   (.block 0 (.loopk [0, 3, 4] [3] L25x0)))
   (.seq (.seg false [⟨some 22, none, .mov (.t 3), 0, 0, false, []⟩,
    ⟨some 2, none, .mov (.t 22), 0, 0, false, []⟩])
   (.ret)))))⟩
/-- loop.example/tablehouse/laws.toValue -/
def F131 : F := ⟨14, [(true, 2, 3, true)],
   .seq (.seg false [⟨some 1, none, .box (.t 0), 0, 0, false, []⟩,
    ⟨some 2, none, .alloc [.int .i64 0, .int .i64 0, .str ⟨#[]⟩], 0, 0, false, []⟩])
   (.seq (.seg false [⟨some 3, none, .alloc [.int .i64 0, .int .i64 0, .str ⟨#[]⟩], 0, 0, false, []⟩])
   (.seq (.seg false [⟨some 4, none, .faddr 0 1 (.t 1), 0, 0, false, []⟩,
    ⟨some 5, none, .load false 1 (.t 4), 0, 0, false, []⟩,
    ⟨some 6, none, .faddr 0 1 (.t 3), 0, 0, false, []⟩,
    ⟨none, none, .store 1 (.t 6) (.t 5), 0, 0, false, []⟩])
   (.cutTo [1, 2, 3] (.seq (.seg false [⟨some 7, none, .faddr 1 1 (.t 1), 0, 0, false, []⟩,
    ⟨some 8, none, .load false 1 (.t 7), 0, 0, false, []⟩,
    ⟨some 9, none, .faddr 1 1 (.t 3), 0, 0, false, []⟩,
    ⟨none, none, .store 1 (.t 9) (.t 8), 0, 0, false, []⟩])
   (.cutTo [1, 2, 3] (.seq (.seg false [⟨some 10, none, .faddr 2 1 (.t 1), 0, 0, false, []⟩,
    ⟨some 11, none, .load false 1 (.t 10), 0, 0, false, []⟩,
    ⟨some 12, none, .faddr 2 1 (.t 3), 0, 0, false, []⟩,
    ⟨none, none, .store 1 (.t 12) (.t 11), 0, 0, false, []⟩])
   (.cutTo [2, 3] (.seq (.seg false [⟨some 13, none, .load true 3 (.t 3), 0, 0, false, []⟩,
    ⟨none, none, .store 3 (.t 2) (.t 13), 0, 0, false, []⟩])
   (.ret)))))))))⟩
def B96x0 : C := .seq (.seq (.seg false [⟨some 4, none, .mov (.t 3), 0, 0, false, []⟩,
    ⟨some 5, none, .mov (.t 0), 0, 0, false, []⟩,
    ⟨some 6, none, .len false (.t 5), 0, 0, false, []⟩,
    ⟨some 7, none, .bin .lss (.t 4) (.t 6), 0, 0, false, []⟩])
   (.cutTo [0, 3, 7] (.cond (.t 7) (.skip)
   (.exit 0))))
   (.cutTo [0, 3] (.seq (.block 1 (.seq (.seg false [⟨some 10, none, .mov (.t 0), 0, 0, false, []⟩,
    ⟨some 11, none, .mov (.t 3), 0, 0, false, []⟩,
    ⟨some 12, none, .iaddr 2 (.t 10) (.t 11), 0, 0, false, []⟩,
    ⟨some 13, none, .faddr 0 1 (.t 12), 0, 0, false, []⟩,
    ⟨some 14, none, .load false 1 (.t 13), 0, 0, false, []⟩,
    ⟨some 15, none, .call 70 [.t 14, .k (.int .i64 1), .k (.int .i64 3)] false false, 0, 0, false, []⟩,
    ⟨some 16, none, .un .not (.t 15), 0, 0, false, []⟩])
   (.cutTo [0, 3, 16] (.cond (.t 16) (.seq (.seg false [⟨some 2, none, .mov (.k (.bool false)), 0, 0, false, []⟩])
   (.ret))
   (.skip)))))
   (.cutTo [0, 3] (.seg false [⟨some 8, none, .mov (.t 3), 0, 0, false, []⟩,
    ⟨some 9, none, .bin .add (.t 8) (.k (.int .i64 1)), 0, 0, false, []⟩,
    ⟨some 3, none, .mov (.t 9), 0, 0, false, []⟩]))))
def L96x0 : C := B96x0
theorem evL96x0 (run : Run) (draw : List I → Env → Heap → Option (Env × Heap)) (e : Env) (h : Heap) : evC run draw L96x0 e h = evC run draw B96x0 e h := rfl
/-- loop.example/tablehouse/spec.ColumnsOk -/
def F96 : F := ⟨20, [(false, 2, 0, false)],
   .seq (.seg false [⟨some 2, none, .mov (.k (.bool false)), 0, 0, false, []⟩])
   (.seq (.seq (.seg false [⟨some 3, none, .mov (.k (.int .i64 0)), 0, 0, false, []⟩])
   (.block 0 (.loop [0, 3] [0, 2] L96x0)))
   (.seq (.seg false [⟨some 17, none, .mov (.t 0), 0, 0, false, []⟩,
    ⟨some 18, none, .len false (.t 17), 0, 0, false, []⟩,
    ⟨some 19, none, .bin .leq (.t 18) (.k (.int .i64 4)), 0, 0, false, []⟩,
    ⟨some 2, none, .mov (.t 19), 0, 0, false, []⟩])
   (.cutTo [2] (.ret))))⟩
/-- loop.example/tablehouse/spec.Compare -/
def F150 : F := ⟨65, [(false, 6, 0, false)],
   .seq (.seg false [⟨some 4, none, .box (.t 1), 0, 0, false, []⟩,
    ⟨some 5, none, .box (.t 2), 0, 0, false, []⟩,
    ⟨some 6, none, .mov (.k (.int .i64 0)), 0, 0, false, []⟩])
   (.seq (.block 0 (.seq (.seg false [⟨some 8, none, .mov (.t 0), 0, 0, false, []⟩,
    ⟨some 9, none, .call 70 [.t 8, .k (.int .i64 1), .k (.int .i64 4)] false false, 0, 0, false, []⟩,
    ⟨some 10, none, .un .not (.t 9), 0, 0, false, []⟩,
    ⟨some 11, none, .mov (.t 10), 0, 0, false, []⟩,
    ⟨some 12, some (11, false), .load true 3 (.t 4), 0, 0, false, []⟩,
    ⟨some 13, some (11, false), .call 143 [.t 12] false false, 0, 0, false, []⟩,
    ⟨some 14, some (11, false), .un .not (.t 13), 0, 0, false, []⟩,
    ⟨some 15, none, .pick (.t 11) (.k (.bool true)) (.t 14), 0, 0, false, []⟩,
    ⟨some 16, none, .mov (.t 15), 0, 0, false, []⟩,
    ⟨some 17, some (16, false), .load true 3 (.t 5), 0, 0, false, []⟩,
    ⟨some 18, some (16, false), .call 143 [.t 17] false false, 0, 0, false, []⟩,
    ⟨some 19, some (16, false), .un .not (.t 18), 0, 0, false, []⟩,
    ⟨some 20, none, .pick (.t 16) (.k (.bool true)) (.t 19), 0, 0, false, []⟩,
    ⟨some 7, none, .mov (.t 20), 0, 0, false, []⟩])
   (.cutTo [0, 4, 5, 7] (.cond (.t 7) (.seq (.seg false [⟨some 6, none, .mov (.k (.int .i64 (-1))), 0, 0, false, []⟩])
   (.ret))
   (.seq (.seg false [⟨some 22, none, .faddr 0 1 (.t 4), 0, 0, false, []⟩,
    ⟨some 23, none, .load false 1 (.t 22), 0, 0, false, []⟩,
    ⟨some 24, none, .bin .eql (.t 23) (.k (.int .i64 0)), 0, 0, false, []⟩,
    ⟨some 25, none, .mov (.t 24), 0, 0, false, []⟩,
    ⟨some 26, some (25, false), .faddr 0 1 (.t 5), 0, 0, false, []⟩,
    ⟨some 27, some (25, false), .load false 1 (.t 26), 0, 0, false, []⟩,
    ⟨some 28, some (25, false), .bin .eql (.t 27) (.k (.int .i64 0)), 0, 0, false, []⟩,
    ⟨some 29, none, .pick (.t 25) (.k (.bool true)) (.t 28), 0, 0, false, []⟩,
    ⟨some 21, none, .mov (.t 29), 0, 0, false, []⟩])
   (.cutTo [0, 4, 5, 21] (.cond (.t 21) (.seq (.seg false [⟨some 6, none, .mov (.k (.int .i64 2)), 0, 0, false, []⟩])
   (.ret))
   (.seq (.seg false [⟨some 31, none, .faddr 0 1 (.t 4), 0, 0, false, []⟩,
    ⟨some 32, none, .load false 1 (.t 31), 0, 0, false, []⟩,
    ⟨some 33, none, .faddr 0 1 (.t 5), 0, 0, false, []⟩,
    ⟨some 34, none, .load false 1 (.t 33), 0, 0, false, []⟩,
    ⟨some 35, none, .bin .neq (.t 32) (.t 34), 0, 0, false, []⟩,
    ⟨some 30, none, .mov (.t 35), 0, 0, false, []⟩])
   (.cutTo [0, 4, 5, 30] (.cond (.t 30) (.seq (.seg false [⟨some 6, none, .mov (.k (.int .i64 (-1))), 0, 0, false, []⟩])
   (.ret))
   (.seq (.seg false [⟨some 37, none, .mov (.t 0), 0, 0, false, []⟩,
    ⟨some 38, none, .bin .eql (.t 37) (.k (.int .i64 1)), 0, 0, false, []⟩,
    ⟨some 36, none, .mov (.t 38), 0, 0, false, []⟩])
   (.cond (.t 36) (.seq (.seg false [⟨some 39, none, .load true 3 (.t 4), 0, 0, false, []⟩,
    ⟨some 40, none, .load true 3 (.t 5), 0, 0, false, []⟩,
    ⟨some 41, none, .call 169 [.t 39, .t 40] false false, 0, 0, false, []⟩,
    ⟨some 42, none, .bin .eql (.t 41) (.k (.int .i64 0)), 0, 0, false, []⟩,
    ⟨some 43, none, .call 168 [.t 42] false false, 0, 0, false, []⟩,
    ⟨some 6, none, .mov (.t 43), 0, 0, false, []⟩])
   (.cutTo [6] (.ret)))
   (.seq (.seg false [⟨some 45, none, .mov (.t 0), 0, 0, false, []⟩,
    ⟨some 46, none, .bin .eql (.t 45) (.k (.int .i64 2)), 0, 0, false, []⟩,
    ⟨some 44, none, .mov (.t 46), 0, 0, false, []⟩])
   (.cond (.t 44) (.seq (.seg false [⟨some 47, none, .load true 3 (.t 4), 0, 0, false, []⟩,
    ⟨some 48, none, .load true 3 (.t 5), 0, 0, false, []⟩,
    ⟨some 49, none, .call 169 [.t 47, .t 48] false false, 0, 0, false, []⟩,
    ⟨some 50, none, .bin .neq (.t 49) (.k (.int .i64 0)), 0, 0, false, []⟩,
    ⟨some 51, none, .call 168 [.t 50] false false, 0, 0, false, []⟩,
    ⟨some 6, none, .mov (.t 51), 0, 0, false, []⟩])
   (.cutTo [6] (.ret)))
   (.seq (.seg false [⟨some 53, none, .mov (.t 0), 0, 0, false, []⟩,
    ⟨some 54, none, .bin .eql (.t 53) (.k (.int .i64 3)), 0, 0, false, []⟩,
    ⟨some 52, none, .mov (.t 54), 0, 0, false, []⟩])
   (.cond (.t 52) (.seq (.seg false [⟨some 55, none, .load true 3 (.t 4), 0, 0, false, []⟩,
    ⟨some 56, none, .load true 3 (.t 5), 0, 0, false, []⟩,
    ⟨some 57, none, .call 169 [.t 55, .t 56] false false, 0, 0, false, []⟩,
    ⟨some 58, none, .bin .lss (.t 57) (.k (.int .i64 0)), 0, 0, false, []⟩,
    ⟨some 59, none, .call 168 [.t 58] false false, 0, 0, false, []⟩,
    ⟨some 6, none, .mov (.t 59), 0, 0, false, []⟩])
   (.cutTo [6] (.ret)))
   (.skip)))))))))))))))))
   (.cutTo [4, 5] (.seq (.seg false [⟨some 60, none, .load true 3 (.t 4), 0, 0, false, []⟩,
    ⟨some 61, none, .load true 3 (.t 5), 0, 0, false, []⟩,
    ⟨some 62, none, .call 169 [.t 60, .t 61] false false, 0, 0, false, []⟩,
    ⟨some 63, none, .bin .leq (.t 62) (.k (.int .i64 0)), 0, 0, false, []⟩,
    ⟨some 64, none, .call 168 [.t 63] false false, 0, 0, false, []⟩,
    ⟨some 6, none, .mov (.t 64), 0, 0, false, []⟩])
   (.cutTo [6] (.ret)))))⟩
def B44x0 : C := .seq (.seq (.seg false [⟨some 17, none, .mov (.t 7), 0, 0, false, []⟩,
    ⟨some 18, none, .mov (.t 1), 0, 0, false, []⟩,
    ⟨some 19, none, .len false (.t 18), 0, 0, false, []⟩,
    ⟨some 20, none, .bin .lss (.t 17) (.t 19), 0, 0, false, []⟩,
    ⟨some 21, none, .mov (.t 20), 0, 0, false, []⟩,
    ⟨some 22, some (21, true), .mov (.t 6), 0, 0, false, []⟩,
    ⟨some 23, none, .pick (.t 21) (.t 22) (.k (.bool false)), 0, 0, false, []⟩])
   (.cutTo [0, 1, 5, 6, 7, 23] (.cond (.t 23) (.skip)
   (.exit 0))))
   (.cutTo [0, 1, 5, 7] (.seq (.block 1 (.seg false [⟨some 27, none, .mov (.t 0), 0, 0, false, []⟩,
    ⟨some 28, none, .mov (.t 5), 0, 0, false, []⟩,
    ⟨some 29, none, .mov (.t 1), 0, 0, false, []⟩,
    ⟨some 30, none, .mov (.t 7), 0, 0, false, []⟩,
    ⟨some 31, none, .iaddr 5 (.t 29) (.t 30), 0, 0, false, []⟩,
    ⟨some 32, none, .load true 5 (.t 31), 0, 0, false, []⟩,
    ⟨some 33, none, .call 97 [.t 27, .t 28, .t 32] true false, 0, 0, false, []⟩,
    ⟨some 26, none, .mov (.t 33), 0, 0, false, []⟩,
    ⟨some 34, none, .ext (.t 26) 0, 0, 0, false, []⟩,
    ⟨some 35, none, .ext (.t 26) 1, 0, 0, false, []⟩,
    ⟨some 5, none, .mov (.t 34), 0, 0, false, []⟩,
    ⟨some 6, none, .mov (.t 35), 0, 0, false, []⟩]))
   (.cutTo [0, 1, 5, 6, 7] (.seg false [⟨some 24, none, .mov (.t 7), 0, 0, false, []⟩,
    ⟨some 25, none, .bin .add (.t 24) (.k (.int .i64 1)), 0, 0, false, []⟩,
    ⟨some 7, none, .mov (.t 25), 0, 0, false, []⟩]))))
def L44x0 : C := B44x0
theorem evL44x0 (run : Run) (draw : List I → Env → Heap → Option (Env × Heap)) (e : Env) (h : Heap) : evC run draw L44x0 e h = evC run draw B44x0 e h := rfl
/-- loop.example/tablehouse/spec.ExprKind -/
def F44 : F := ⟨46, [(false, 4, 0, false)],
   .seq (.seg false [⟨some 4, none, .mov (.k (.int .i64 0)), 0, 0, false, []⟩])
   (.seq (.seq (.seg false [⟨some 8, none, .mov (.t 0), 0, 0, false, []⟩,
    ⟨some 9, none, .call 96 [.t 8] false false, 0, 0, false, []⟩,
    ⟨some 10, none, .un .not (.t 9), 0, 0, false, []⟩,
    ⟨some 11, none, .mov (.t 10), 0, 0, false, []⟩,
    ⟨some 12, some (11, false), .mov (.t 1), 0, 0, false, []⟩,
    ⟨some 13, some (11, false), .len false (.t 12), 0, 0, false, []⟩,
    ⟨some 14, some (11, false), .bin .gtr (.t 13) (.k (.int .i64 12)), 0, 0, false, []⟩,
    ⟨some 15, none, .pick (.t 11) (.k (.bool true)) (.t 14), 0, 0, false, []⟩])
   (.cutTo [0, 1, 15] (.cond (.t 15) (.seq (.seg false [⟨some 4, none, .mov (.k (.int .i64 (-1))), 0, 0, false, []⟩])
   (.ret))
   (.skip))))
   (.cutTo [0, 1] (.seq (.seg false [⟨some 16, none, .mksl true 1 [], 0, 0, false, []⟩,
    ⟨some 5, none, .mov (.t 16), 0, 0, false, []⟩])
   (.seq (.seg false [⟨some 6, none, .mov (.k (.bool true)), 0, 0, false, []⟩])
   (.seq (.seq (.seg false [⟨some 7, none, .mov (.k (.int .i64 0)), 0, 0, false, []⟩])
   (.block 0 (.loop [0, 1, 5, 6, 7] [5, 6] L44x0)))
   (.seq (.seq (.seg false [⟨some 36, none, .mov (.t 6), 0, 0, false, []⟩,
    ⟨some 37, none, .un .not (.t 36), 0, 0, false, []⟩,
    ⟨some 38, none, .mov (.t 37), 0, 0, false, []⟩,
    ⟨some 39, some (38, false), .mov (.t 5), 0, 0, false, []⟩,
    ⟨some 40, some (38, false), .len false (.t 39), 0, 0, false, []⟩,
    ⟨some 41, some (38, false), .bin .neq (.t 40) (.k (.int .i64 1)), 0, 0, false, []⟩,
    ⟨some 42, none, .pick (.t 38) (.k (.bool true)) (.t 41), 0, 0, false, []⟩])
   (.cutTo [5, 42] (.cond (.t 42) (.seq (.seg false [⟨some 4, none, .mov (.k (.int .i64 (-1))), 0, 0, false, []⟩])
   (.ret))
   (.skip))))
   (.cutTo [5] (.seq (.seg false [⟨some 43, none, .mov (.t 5), 0, 0, false, []⟩,
    ⟨some 44, none, .iaddr 1 (.t 43) (.k (.int .i64 0)), 0, 0, false, []⟩,
    ⟨some 45, none, .load false 1 (.t 44), 0, 0, false, []⟩,
    ⟨some 4, none, .mov (.t 45), 0, 0, false, []⟩])
   (.cutTo [4] (.ret))))))))))⟩
def B18x0 : C := .seq (.seq (.seg false [⟨some 24, none, .mov (.t 8), 0, 0, false, []⟩,
    ⟨some 25, none, .mov (.t 2), 0, 0, false, []⟩,
    ⟨some 26, none, .len false (.t 25), 0, 0, false, []⟩,
    ⟨some 27, none, .bin .lss (.t 24) (.t 26), 0, 0, false, []⟩])
   (.cutTo [1, 2, 7, 8, 27] (.cond (.t 27) (.skip)
   (.exit 0))))
   (.cutTo [1, 2, 7, 8] (.seq (.block 1 (.seq (.seg false [⟨some 30, none, .mov (.t 2), 0, 0, false, []⟩,
    ⟨some 31, none, .mov (.t 8), 0, 0, false, []⟩,
    ⟨some 32, none, .iaddr 1 (.t 30) (.t 31), 0, 0, false, []⟩,
    ⟨some 33, none, .load false 1 (.t 32), 0, 0, false, []⟩,
    ⟨some 34, none, .call 70 [.t 33, .k (.int .i64 0), .k (.int .i64 3)] false false, 0, 0, false, []⟩,
    ⟨some 35, none, .un .not (.t 34), 0, 0, false, []⟩])
   (.cutTo [1, 2, 7, 8, 35] (.cond (.t 35) (.seq (.seg false [⟨some 36, none, .mksl true 5 [], 0, 0, false, []⟩,
    ⟨some 6, none, .mov (.t 36), 0, 0, false, []⟩])
   (.ret))
   (.skip)))))
   (.cutTo [1, 2, 7, 8] (.seg false [⟨some 28, none, .mov (.t 8), 0, 0, false, []⟩,
    ⟨some 29, none, .bin .add (.t 28) (.k (.int .i64 1)), 0, 0, false, []⟩,
    ⟨some 8, none, .mov (.t 29), 0, 0, false, []⟩]))))
def L18x0 : C := B18x0
theorem evL18x0 (run : Run) (draw : List I → Env → Heap → Option (Env × Heap)) (e : Env) (h : Heap) : evC run draw L18x0 e h = evC run draw B18x0 e h := rfl
def B18x1 : C := .seq (.seq (.seg false [⟨some 37, none, .mov (.t 9), 0, 0, false, []⟩,
    ⟨some 38, none, .mov (.t 1), 0, 0, false, []⟩,
    ⟨some 39, none, .len false (.t 38), 0, 0, false, []⟩,
    ⟨some 40, none, .bin .lss (.t 37) (.t 39), 0, 0, false, []⟩])
   (.cutTo [1, 2, 7, 9, 40] (.cond (.t 40) (.skip)
   (.exit 2))))
   (.cutTo [1, 2, 7, 9] (.seq (.block 3 (.seq (.seg false [⟨some 43, none, .mov (.t 1), 0, 0, false, []⟩,
    ⟨some 44, none, .mov (.t 9), 0, 0, false, []⟩,
    ⟨some 45, none, .iaddr 5 (.t 43) (.t 44), 0, 0, false, []⟩,
    ⟨some 46, none, .load true 5 (.t 45), 0, 0, false, []⟩,
    ⟨some 10, none, .alloc [.int .i64 0, .int .i64 0, .int .i64 0, .int .i64 0, .str ⟨#[]⟩], 0, 0, false, []⟩,
    ⟨none, none, .store 5 (.t 10) (.t 46), 0, 0, false, []⟩])
   (.cutTo [1, 2, 7, 9, 10] (.seq (.seq (.seg false [⟨some 47, none, .faddr 0 1 (.t 10), 0, 0, false, []⟩,
    ⟨some 48, none, .load false 1 (.t 47), 0, 0, false, []⟩,
    ⟨some 49, none, .bin .eql (.t 48) (.k (.int .i64 2)), 0, 0, false, []⟩])
   (.cond (.t 49) (.seg false [⟨some 50, none, .mov (.t 2), 0, 0, false, []⟩,
    ⟨some 51, none, .faddr 1 1 (.t 10), 0, 0, false, []⟩,
    ⟨some 52, none, .load false 1 (.t 51), 0, 0, false, []⟩,
    ⟨some 53, none, .iaddr 1 (.t 50) (.t 52), 0, 0, false, []⟩,
    ⟨some 54, none, .load false 1 (.t 53), 0, 0, false, []⟩,
    ⟨some 55, none, .faddr 1 1 (.t 10), 0, 0, false, []⟩,
    ⟨none, none, .store 1 (.t 55) (.t 54), 0, 0, false, []⟩])
   (.skip)))
   (.cutTo [1, 2, 7, 9, 10] (.seg false [⟨some 56, none, .mov (.t 7), 0, 0, false, []⟩,
    ⟨some 57, none, .load true 5 (.t 10), 0, 0, false, []⟩,
    ⟨some 58, none, .mksl false 5 [.t 57], 0, 0, false, []⟩,
    ⟨some 59, none, .app 5 (.t 56) (.t 58), 0, 0, false, []⟩,
    ⟨some 7, none, .mov (.t 59), 0, 0, false, []⟩]))))))
   (.cutTo [1, 2, 7, 9] (.seg false [⟨some 41, none, .mov (.t 9), 0, 0, false, []⟩,
    ⟨some 42, none, .bin .add (.t 41) (.k (.int .i64 1)), 0, 0, false, []⟩,
    ⟨some 9, none, .mov (.t 42), 0, 0, false, []⟩]))))
def L18x1 : C := B18x1
theorem evL18x1 (run : Run) (draw : List I → Env → Heap → Option (Env × Heap)) (e : Env) (h : Heap) : evC run draw L18x1 e h = evC run draw B18x1 e h := rfl
/-- loop.example/tablehouse/spec.ExprMoved -/
def F18 : F := ⟨61, [(false, 6, 0, false)],
   .seq (.seg false [⟨some 6, none, .nilrow 5, 0, 0, false, []⟩])
   (.seq (.seg false [⟨some 11, none, .mksl true 5 [], 0, 0, false, []⟩,
    ⟨some 7, none, .mov (.t 11), 0, 0, false, []⟩])
   (.seq (.seq (.seg false [⟨some 12, none, .mov (.t 0), 0, 0, false, []⟩,
    ⟨some 13, none, .mov (.t 1), 0, 0, false, []⟩,
    ⟨some 14, none, .call 44 [.t 12, .t 13] false false, 0, 0, false, []⟩,
    ⟨some 15, none, .bin .lss (.t 14) (.k (.int .i64 0)), 0, 0, false, []⟩,
    ⟨some 16, none, .mov (.t 15), 0, 0, false, []⟩,
    ⟨some 17, some (16, false), .mov (.t 2), 0, 0, false, []⟩,
    ⟨some 18, some (16, false), .len false (.t 17), 0, 0, false, []⟩,
    ⟨some 19, some (16, false), .mov (.t 0), 0, 0, false, []⟩,
    ⟨some 20, some (16, false), .len false (.t 19), 0, 0, false, []⟩,
    ⟨some 21, some (16, false), .bin .neq (.t 18) (.t 20), 0, 0, false, []⟩,
    ⟨some 22, none, .pick (.t 16) (.k (.bool true)) (.t 21), 0, 0, false, []⟩])
   (.cutTo [1, 2, 7, 22] (.cond (.t 22) (.seq (.seg false [⟨some 23, none, .mov (.t 7), 0, 0, false, []⟩,
    ⟨some 6, none, .mov (.t 23), 0, 0, false, []⟩])
   (.ret))
   (.skip))))
   (.cutTo [1, 2, 7] (.seq (.seq (.seg false [⟨some 8, none, .mov (.k (.int .i64 0)), 0, 0, false, []⟩])
   (.block 0 (.loop [1, 2, 7, 8] [1, 2, 6, 7] L18x0)))
   (.seq (.seq (.seg false [⟨some 9, none, .mov (.k (.int .i64 0)), 0, 0, false, []⟩])
   (.block 2 (.loop [1, 2, 7, 9] [7] L18x1)))
   (.seq (.seg false [⟨some 60, none, .mov (.t 7), 0, 0, false, []⟩,
    ⟨some 6, none, .mov (.t 60), 0, 0, false, []⟩])
   (.ret)))))))⟩
def E165x0 : List I := [⟨some 27, none, .mov (.t 1), 0, 0, false, []⟩,
    ⟨some 28, none, .mov (.t 5), 0, 0, false, []⟩,
    ⟨some 29, none, .iaddr 3 (.t 27) (.t 28), 0, 0, false, []⟩,
    ⟨some 30, none, .faddr 0 1 (.t 29), 0, 0, false, []⟩,
    ⟨some 31, none, .load false 1 (.t 30), 0, 0, false, []⟩,
    ⟨some 32, none, .mov (.t 0), 0, 0, false, []⟩,
    ⟨some 33, none, .mov (.t 5), 0, 0, false, []⟩,
    ⟨some 34, none, .iaddr 2 (.t 32) (.t 33), 0, 0, false, []⟩,
    ⟨some 35, none, .faddr 0 1 (.t 34), 0, 0, false, []⟩,
    ⟨some 36, none, .load false 1 (.t 35), 0, 0, false, []⟩,
    ⟨some 37, none, .bin .neq (.t 31) (.t 36), 0, 0, false, []⟩,
    ⟨some 38, none, .mov (.t 37), 0, 0, false, []⟩,
    ⟨some 39, some (38, true), .mov (.t 1), 0, 0, false, []⟩,
    ⟨some 40, some (38, true), .mov (.t 5), 0, 0, false, []⟩,
    ⟨some 41, some (38, true), .iaddr 3 (.t 39) (.t 40), 0, 0, false, []⟩,
    ⟨some 42, some (38, true), .faddr 0 1 (.t 41), 0, 0, false, []⟩,
    ⟨some 43, some (38, true), .load false 1 (.t 42), 0, 0, false, []⟩,
    ⟨some 44, some (38, true), .bin .neq (.t 43) (.k (.int .i64 0)), 0, 0, false, []⟩,
    ⟨some 45, some (38, true), .mov (.t 44), 0, 0, false, []⟩,
    ⟨some 46, some (45, false), .mov (.t 0), 0, 0, false, []⟩,
    ⟨some 47, some (45, false), .mov (.t 5), 0, 0, false, []⟩,
    ⟨some 48, some (45, false), .iaddr 2 (.t 46) (.t 47), 0, 0, false, []⟩,
    ⟨some 49, some (45, false), .faddr 1 1 (.t 48), 0, 0, false, []⟩,
    ⟨some 50, some (45, false), .load false 1 (.t 49), 0, 0, false, []⟩,
    ⟨some 51, some (45, false), .un .not (.t 50), 0, 0, false, []⟩,
    ⟨some 52, some (38, true), .pick (.t 45) (.k (.bool true)) (.t 51), 0, 0, false, []⟩,
    ⟨some 53, none, .pick (.t 38) (.t 52) (.k (.bool false)), 0, 0, false, []⟩]
def D165x0 : List I := E165x0
theorem evD165x0 (run : Run) (e : Env) (h : Heap) : drawI run D165x0 e h = DrawS (evQ run E165x0 e h) run E165x0 e h := drawI_quiet run _ (by rfl) e h
def B165x0 : C := .seq (.seq (.seg false [⟨some 21, none, .mov (.t 5), 0, 0, false, []⟩,
    ⟨some 22, none, .mov (.t 1), 0, 0, false, []⟩,
    ⟨some 23, none, .len false (.t 22), 0, 0, false, []⟩,
    ⟨some 24, none, .bin .lss (.t 21) (.t 23), 0, 0, false, []⟩])
   (.cutTo [0, 1, 5, 24] (.cond (.t 24) (.skip)
   (.exit 0))))
   (.cutTo [0, 1, 5] (.seq (.block 1 (.seq (.seg true D165x0)
   (.cutTo [0, 1, 5, 53] (.cond (.t 53) (.seq (.seg false [⟨some 4, none, .mov (.k (.bool false)), 0, 0, false, []⟩])
   (.ret))
   (.skip)))))
   (.cutTo [0, 1, 5] (.seg false [⟨some 25, none, .mov (.t 5), 0, 0, false, []⟩,
    ⟨some 26, none, .bin .add (.t 25) (.k (.int .i64 1)), 0, 0, false, []⟩,
    ⟨some 5, none, .mov (.t 26), 0, 0, false, []⟩]))))
def L165x0 : C := B165x0
theorem evL165x0 (run : Run) (draw : List I → Env → Heap → Option (Env × Heap)) (e : Env) (h : Heap) : evC run draw L165x0 e h = evC run draw B165x0 e h := rfl
/-- loop.example/tablehouse/spec.RowFits -/
def F165 : F := ⟨54, [(false, 4, 0, false)],
   .seq (.seg false [⟨some 4, none, .mov (.k (.bool false)), 0, 0, false, []⟩])
   (.seq (.seq (.seg false [⟨some 6, none, .mov (.t 0), 0, 0, false, []⟩,
    ⟨some 7, none, .call 96 [.t 6] false false, 0, 0, false, []⟩,
    ⟨some 8, none, .un .not (.t 7), 0, 0, false, []⟩,
    ⟨some 9, none, .mov (.t 8), 0, 0, false, []⟩,
    ⟨some 10, some (9, false), .mov (.t 1), 0, 0, false, []⟩,
    ⟨some 11, some (9, false), .call 174 [.t 10] false false, 0, 0, false, []⟩,
    ⟨some 12, some (9, false), .un .not (.t 11), 0, 0, false, []⟩,
    ⟨some 13, none, .pick (.t 9) (.k (.bool true)) (.t 12), 0, 0, false, []⟩,
    ⟨some 14, none, .mov (.t 13), 0, 0, false, []⟩,
    ⟨some 15, some (14, false), .mov (.t 1), 0, 0, false, []⟩,
    ⟨some 16, some (14, false), .len false (.t 15), 0, 0, false, []⟩,
    ⟨some 17, some (14, false), .mov (.t 0), 0, 0, false, []⟩,
    ⟨some 18, some (14, false), .len false (.t 17), 0, 0, false, []⟩,
    ⟨some 19, some (14, false), .bin .neq (.t 16) (.t 18), 0, 0, false, []⟩,
    ⟨some 20, none, .pick (.t 14) (.k (.bool true)) (.t 19), 0, 0, false, []⟩])
   (.cutTo [0, 1, 20] (.cond (.t 20) (.seq (.seg false [⟨some 4, none, .mov (.k (.bool false)), 0, 0, false, []⟩])
   (.ret))
   (.skip))))
   (.cutTo [0, 1] (.seq (.seq (.seg false [⟨some 5, none, .mov (.k (.int .i64 0)), 0, 0, false, []⟩])
   (.block 0 (.loop [0, 1, 5] [4] L165x0)))
   (.seq (.seg false [⟨some 4, none, .mov (.k (.bool true)), 0, 0, false, []⟩])
   (.ret)))))⟩
def B174x0 : C := .seq (.seq (.seg false [⟨some 4, none, .mov (.t 3), 0, 0, false, []⟩,
    ⟨some 5, none, .mov (.t 0), 0, 0, false, []⟩,
    ⟨some 6, none, .len false (.t 5), 0, 0, false, []⟩,
    ⟨some 7, none, .bin .lss (.t 4) (.t 6), 0, 0, false, []⟩])
   (.cutTo [0, 3, 7] (.cond (.t 7) (.skip)
   (.exit 0))))
   (.cutTo [0, 3] (.seq (.block 1 (.seq (.seg false [⟨some 10, none, .mov (.t 0), 0, 0, false, []⟩,
    ⟨some 11, none, .mov (.t 3), 0, 0, false, []⟩,
    ⟨some 12, none, .iaddr 3 (.t 10) (.t 11), 0, 0, false, []⟩,
    ⟨some 13, none, .load true 3 (.t 12), 0, 0, false, []⟩,
    ⟨some 14, none, .call 143 [.t 13] false false, 0, 0, false, []⟩,
    ⟨some 15, none, .un .not (.t 14), 0, 0, false, []⟩])
   (.cutTo [0, 3, 15] (.cond (.t 15) (.seq (.seg false [⟨some 2, none, .mov (.k (.bool false)), 0, 0, false, []⟩])
   (.ret))
   (.skip)))))
   (.cutTo [0, 3] (.seg false [⟨some 8, none, .mov (.t 3), 0, 0, false, []⟩,
    ⟨some 9, none, .bin .add (.t 8) (.k (.int .i64 1)), 0, 0, false, []⟩,
    ⟨some 3, none, .mov (.t 9), 0, 0, false, []⟩]))))
def L174x0 : C := B174x0
theorem evL174x0 (run : Run) (draw : List I → Env → Heap → Option (Env × Heap)) (e : Env) (h : Heap) : evC run draw L174x0 e h = evC run draw B174x0 e h := rfl
/-- loop.example/tablehouse/spec.RowOk -/
def F174 : F := ⟨19, [(false, 2, 0, false)],
   .seq (.seg false [⟨some 2, none, .mov (.k (.bool false)), 0, 0, false, []⟩])
   (.seq (.seq (.seg false [⟨some 3, none, .mov (.k (.int .i64 0)), 0, 0, false, []⟩])
   (.block 0 (.loop [0, 3] [0, 2] L174x0)))
   (.seq (.seg false [⟨some 16, none, .mov (.t 0), 0, 0, false, []⟩,
    ⟨some 17, none, .len false (.t 16), 0, 0, false, []⟩,
    ⟨some 18, none, .bin .leq (.t 17) (.k (.int .i64 4)), 0, 0, false, []⟩,
    ⟨some 2, none, .mov (.t 18), 0, 0, false, []⟩])
   (.cutTo [2] (.ret))))⟩
def B135x0 : C := .seq (.seq (.seg false [⟨some 6, none, .mov (.t 5), 0, 0, false, []⟩,
    ⟨some 7, none, .mov (.t 1), 0, 0, false, []⟩,
    ⟨some 8, none, .len false (.t 7), 0, 0, false, []⟩,
    ⟨some 9, none, .bin .lss (.t 6) (.t 8), 0, 0, false, []⟩])
   (.cutTo [0, 1, 5, 9] (.cond (.t 9) (.skip)
   (.exit 0))))
   (.cutTo [0, 1, 5] (.seq (.block 1 (.seq (.seg false [⟨some 12, none, .mov (.t 0), 0, 0, false, []⟩,
    ⟨some 13, none, .mov (.t 1), 0, 0, false, []⟩,
    ⟨some 14, none, .mov (.t 5), 0, 0, false, []⟩,
    ⟨some 15, none, .iaddr 1 (.t 13) (.t 14), 0, 0, false, []⟩,
    ⟨some 16, none, .load false 1 (.t 15), 0, 0, false, []⟩,
    ⟨some 17, none, .call 165 [.t 12, .t 16] false false, 0, 0, false, []⟩,
    ⟨some 18, none, .un .not (.t 17), 0, 0, false, []⟩])
   (.cutTo [0, 1, 5, 18] (.cond (.t 18) (.seq (.seg false [⟨some 4, none, .mov (.k (.bool false)), 0, 0, false, []⟩])
   (.ret))
   (.skip)))))
   (.cutTo [0, 1, 5] (.seg false [⟨some 10, none, .mov (.t 5), 0, 0, false, []⟩,
    ⟨some 11, none, .bin .add (.t 10) (.k (.int .i64 1)), 0, 0, false, []⟩,
    ⟨some 5, none, .mov (.t 11), 0, 0, false, []⟩]))))
def L135x0 : C := B135x0
theorem evL135x0 (run : Run) (draw : List I → Env → Heap → Option (Env × Heap)) (e : Env) (h : Heap) : evC run draw L135x0 e h = evC run draw B135x0 e h := rfl
/-- loop.example/tablehouse/spec.RowsOk -/
def F135 : F := ⟨21, [(false, 4, 0, false)],
   .seq (.seg false [⟨some 4, none, .mov (.k (.bool false)), 0, 0, false, []⟩])
   (.seq (.seq (.seg false [⟨some 5, none, .mov (.k (.int .i64 0)), 0, 0, false, []⟩])
   (.block 0 (.loop [0, 1, 5] [0, 4] L135x0)))
   (.seq (.seg false [⟨some 19, none, .mov (.t 0), 0, 0, false, []⟩,
    ⟨some 20, none, .call 96 [.t 19] false false, 0, 0, false, []⟩,
    ⟨some 4, none, .mov (.t 20), 0, 0, false, []⟩])
   (.ret)))⟩
/-- loop.example/tablehouse/spec.ValueOk -/
def F143 : F := ⟨45, [(false, 2, 0, false)],
   .seq (.seg false [⟨some 1, none, .box (.t 0), 0, 0, false, []⟩,
    ⟨some 2, none, .mov (.k (.bool false)), 0, 0, false, []⟩])
   (.seq (.seq (.seg false [⟨some 3, none, .faddr 0 1 (.t 1), 0, 0, false, []⟩,
    ⟨some 4, none, .load false 1 (.t 3), 0, 0, false, []⟩])
   (.block 0 (.seq (.seg false [⟨some 6, none, .bin .eql (.t 4) (.k (.int .i64 0)), 0, 0, false, []⟩,
    ⟨some 5, none, .mov (.t 6), 0, 0, false, []⟩])
   (.cond (.t 5) (.seq (.seg false [⟨some 7, none, .faddr 1 1 (.t 1), 0, 0, false, []⟩,
    ⟨some 8, none, .load false 1 (.t 7), 0, 0, false, []⟩,
    ⟨some 9, none, .bin .eql (.t 8) (.k (.int .i64 0)), 0, 0, false, []⟩,
    ⟨some 10, none, .mov (.t 9), 0, 0, false, []⟩,
    ⟨some 11, some (10, true), .faddr 2 1 (.t 1), 0, 0, false, []⟩,
    ⟨some 12, some (10, true), .load false 1 (.t 11), 0, 0, false, []⟩,
    ⟨some 13, some (10, true), .bin .eql (.t 12) (.k (.str ⟨#[]⟩)), 0, 0, false, []⟩,
    ⟨some 14, none, .pick (.t 10) (.t 13) (.k (.bool false)), 0, 0, false, []⟩,
    ⟨some 2, none, .mov (.t 14), 0, 0, false, []⟩])
   (.cutTo [2] (.ret)))
   (.seq (.seg false [⟨some 16, none, .bin .eql (.t 4) (.k (.int .i64 1)), 0, 0, false, []⟩,
    ⟨some 15, none, .mov (.t 16), 0, 0, false, []⟩])
   (.cond (.t 15) (.seq (.seg false [⟨some 17, none, .faddr 1 1 (.t 1), 0, 0, false, []⟩,
    ⟨some 18, none, .load false 1 (.t 17), 0, 0, false, []⟩,
    ⟨some 19, none, .call 70 [.t 18, .k (.int .i64 (-9999)), .k (.int .i64 9999)] false false, 0, 0, false, []⟩,
    ⟨some 20, none, .mov (.t 19), 0, 0, false, []⟩,
    ⟨some 21, some (20, true), .faddr 2 1 (.t 1), 0, 0, false, []⟩,
    ⟨some 22, some (20, true), .load false 1 (.t 21), 0, 0, false, []⟩,
    ⟨some 23, some (20, true), .bin .eql (.t 22) (.k (.str ⟨#[]⟩)), 0, 0, false, []⟩,
    ⟨some 24, none, .pick (.t 20) (.t 23) (.k (.bool false)), 0, 0, false, []⟩,
    ⟨some 2, none, .mov (.t 24), 0, 0, false, []⟩])
   (.cutTo [2] (.ret)))
   (.seq (.seg false [⟨some 26, none, .bin .eql (.t 4) (.k (.int .i64 2)), 0, 0, false, []⟩,
    ⟨some 25, none, .mov (.t 26), 0, 0, false, []⟩])
   (.cond (.t 25) (.seq (.seg false [⟨some 27, none, .faddr 1 1 (.t 1), 0, 0, false, []⟩,
    ⟨some 28, none, .load false 1 (.t 27), 0, 0, false, []⟩,
    ⟨some 29, none, .bin .eql (.t 28) (.k (.int .i64 0)), 0, 0, false, []⟩,
    ⟨some 30, none, .mov (.t 29), 0, 0, false, []⟩,
    ⟨some 31, some (30, true), .faddr 2 1 (.t 1), 0, 0, false, []⟩,
    ⟨some 32, some (30, true), .load false 1 (.t 31), 0, 0, false, []⟩,
    ⟨some 33, some (30, true), .call 166 [.t 32] false false, 0, 0, false, []⟩,
    ⟨some 34, none, .pick (.t 30) (.t 33) (.k (.bool false)), 0, 0, false, []⟩,
    ⟨some 2, none, .mov (.t 34), 0, 0, false, []⟩])
   (.cutTo [2] (.ret)))
   (.seq (.seg false [⟨some 36, none, .bin .eql (.t 4) (.k (.int .i64 3)), 0, 0, false, []⟩,
    ⟨some 35, none, .mov (.t 36), 0, 0, false, []⟩])
   (.cond (.t 35) (.seq (.seg false [⟨some 37, none, .faddr 1 1 (.t 1), 0, 0, false, []⟩,
    ⟨some 38, none, .load false 1 (.t 37), 0, 0, false, []⟩,
    ⟨some 39, none, .call 70 [.t 38, .k (.int .i64 0), .k (.int .i64 1)] false false, 0, 0, false, []⟩,
    ⟨some 40, none, .mov (.t 39), 0, 0, false, []⟩,
    ⟨some 41, some (40, true), .faddr 2 1 (.t 1), 0, 0, false, []⟩,
    ⟨some 42, some (40, true), .load false 1 (.t 41), 0, 0, false, []⟩,
    ⟨some 43, some (40, true), .bin .eql (.t 42) (.k (.str ⟨#[]⟩)), 0, 0, false, []⟩,
    ⟨some 44, none, .pick (.t 40) (.t 43) (.k (.bool false)), 0, 0, false, []⟩,
    ⟨some 2, none, .mov (.t 44), 0, 0, false, []⟩])
   (.cutTo [2] (.ret)))
   (.skip)))))))))))
   (.cutTo [] (.seq (.seg false [⟨some 2, none, .mov (.k (.bool false)), 0, 0, false, []⟩])
   (.ret))))⟩
/-- loop.example/tablehouse/spec.ValueOrder -/
def F169 : F := ⟨44, [(false, 4, 0, false)],
   .seq (.seg false [⟨some 2, none, .box (.t 0), 0, 0, false, []⟩,
    ⟨some 3, none, .box (.t 1), 0, 0, false, []⟩,
    ⟨some 4, none, .mov (.k (.int .i64 0)), 0, 0, false, []⟩])
   (.seq (.seq (.seg false [⟨some 5, none, .load true 3 (.t 2), 0, 0, false, []⟩,
    ⟨some 6, none, .call 143 [.t 5] false false, 0, 0, false, []⟩,
    ⟨some 7, none, .un .not (.t 6), 0, 0, false, []⟩,
    ⟨some 8, none, .mov (.t 7), 0, 0, false, []⟩,
    ⟨some 9, some (8, false), .load true 3 (.t 3), 0, 0, false, []⟩,
    ⟨some 10, some (8, false), .call 143 [.t 9] false false, 0, 0, false, []⟩,
    ⟨some 11, some (8, false), .un .not (.t 10), 0, 0, false, []⟩,
    ⟨some 12, none, .pick (.t 8) (.k (.bool true)) (.t 11), 0, 0, false, []⟩])
   (.cutTo [2, 3, 12] (.cond (.t 12) (.seq (.seg false [⟨some 4, none, .mov (.k (.int .i64 0)), 0, 0, false, []⟩])
   (.ret))
   (.skip))))
   (.cutTo [2, 3] (.seq (.block 0 (.seq (.seg false [⟨some 14, none, .faddr 0 1 (.t 2), 0, 0, false, []⟩,
    ⟨some 15, none, .load false 1 (.t 14), 0, 0, false, []⟩,
    ⟨some 16, none, .faddr 0 1 (.t 3), 0, 0, false, []⟩,
    ⟨some 17, none, .load false 1 (.t 16), 0, 0, false, []⟩,
    ⟨some 18, none, .bin .neq (.t 15) (.t 17), 0, 0, false, []⟩,
    ⟨some 13, none, .mov (.t 18), 0, 0, false, []⟩])
   (.cutTo [2, 3, 13] (.cond (.t 13) (.seq (.seg false [⟨some 19, none, .faddr 0 1 (.t 3), 0, 0, false, []⟩,
    ⟨some 20, none, .load false 1 (.t 19), 0, 0, false, []⟩,
    ⟨some 21, none, .faddr 0 1 (.t 2), 0, 0, false, []⟩,
    ⟨some 22, none, .load false 1 (.t 21), 0, 0, false, []⟩,
    ⟨some 23, none, .call 175 [.t 20, .t 22] false false, 0, 0, false, []⟩,
    ⟨some 24, none, .bin .mul (.k (.int .i64 2)) (.t 23), 0, 0, false, []⟩,
    ⟨some 25, none, .bin .sub (.t 24) (.k (.int .i64 1)), 0, 0, false, []⟩,
    ⟨some 4, none, .mov (.t 25), 0, 0, false, []⟩])
   (.cutTo [4] (.ret)))
   (.seq (.seg false [⟨some 27, none, .faddr 1 1 (.t 2), 0, 0, false, []⟩,
    ⟨some 28, none, .load false 1 (.t 27), 0, 0, false, []⟩,
    ⟨some 29, none, .faddr 1 1 (.t 3), 0, 0, false, []⟩,
    ⟨some 30, none, .load false 1 (.t 29), 0, 0, false, []⟩,
    ⟨some 31, none, .bin .neq (.t 28) (.t 30), 0, 0, false, []⟩,
    ⟨some 26, none, .mov (.t 31), 0, 0, false, []⟩])
   (.cutTo [2, 3, 26] (.cond (.t 26) (.seq (.seg false [⟨some 32, none, .faddr 1 1 (.t 3), 0, 0, false, []⟩,
    ⟨some 33, none, .load false 1 (.t 32), 0, 0, false, []⟩,
    ⟨some 34, none, .faddr 1 1 (.t 2), 0, 0, false, []⟩,
    ⟨some 35, none, .load false 1 (.t 34), 0, 0, false, []⟩,
    ⟨some 36, none, .call 175 [.t 33, .t 35] false false, 0, 0, false, []⟩,
    ⟨some 37, none, .bin .mul (.k (.int .i64 2)) (.t 36), 0, 0, false, []⟩,
    ⟨some 38, none, .bin .sub (.t 37) (.k (.int .i64 1)), 0, 0, false, []⟩,
    ⟨some 4, none, .mov (.t 38), 0, 0, false, []⟩])
   (.cutTo [4] (.ret)))
   (.skip))))))))
   (.cutTo [2, 3] (.seq (.seg false [⟨some 39, none, .faddr 2 1 (.t 2), 0, 0, false, []⟩,
    ⟨some 40, none, .load false 1 (.t 39), 0, 0, false, []⟩,
    ⟨some 41, none, .faddr 2 1 (.t 3), 0, 0, false, []⟩,
    ⟨some 42, none, .load false 1 (.t 41), 0, 0, false, []⟩,
    ⟨some 43, none, .call 176 [.t 40, .t 42] false false, 0, 0, false, []⟩,
    ⟨some 4, none, .mov (.t 43), 0, 0, false, []⟩])
   (.cutTo [4] (.ret)))))))⟩
/-- loop.example/tablehouse/spec.l1Cmp -/
def F176 : F := ⟨11, [(false, 4, 0, false)],
   .seq (.seg false [⟨some 4, none, .mov (.k (.int .i64 0)), 0, 0, false, []⟩])
   (.seq (.seq (.seg false [⟨some 5, none, .mov (.t 0), 0, 0, false, []⟩,
    ⟨some 6, none, .mov (.t 1), 0, 0, false, []⟩,
    ⟨some 7, none, .bin .lss (.t 5) (.t 6), 0, 0, false, []⟩])
   (.cond (.t 7) (.seq (.seg false [⟨some 4, none, .mov (.k (.int .i64 (-1))), 0, 0, false, []⟩])
   (.ret))
   (.skip)))
   (.cutTo [0, 1] (.seq (.seq (.seg false [⟨some 8, none, .mov (.t 0), 0, 0, false, []⟩,
    ⟨some 9, none, .mov (.t 1), 0, 0, false, []⟩,
    ⟨some 10, none, .bin .gtr (.t 8) (.t 9), 0, 0, false, []⟩])
   (.cond (.t 10) (.seq (.seg false [⟨some 4, none, .mov (.k (.int .i64 1)), 0, 0, false, []⟩])
   (.ret))
   (.skip)))
   (.cutTo [] (.seq (.seg false [⟨some 4, none, .mov (.k (.int .i64 0)), 0, 0, false, []⟩])
   (.ret))))))⟩
/-- loop.example/tablehouse/spec.l1In -/
def F70 : F := ⟨15, [(false, 6, 0, false)],
   .seq (.seg false [⟨some 6, none, .mov (.k (.bool false)), 0, 0, false, []⟩])
   (.seq (.seg false [⟨some 7, none, .mov (.t 0), 0, 0, false, []⟩,
    ⟨some 8, none, .mov (.t 1), 0, 0, false, []⟩,
    ⟨some 9, none, .bin .geq (.t 7) (.t 8), 0, 0, false, []⟩,
    ⟨some 10, none, .mov (.t 9), 0, 0, false, []⟩,
    ⟨some 11, some (10, true), .mov (.t 0), 0, 0, false, []⟩,
    ⟨some 12, some (10, true), .mov (.t 2), 0, 0, false, []⟩,
    ⟨some 13, some (10, true), .bin .leq (.t 11) (.t 12), 0, 0, false, []⟩,
    ⟨some 14, none, .pick (.t 10) (.t 13) (.k (.bool false)), 0, 0, false, []⟩,
    ⟨some 6, none, .mov (.t 14), 0, 0, false, []⟩])
   (.cutTo [6] (.ret)))⟩
/-- loop.example/tablehouse/spec.l1Less -/
def F175 : F := ⟨8, [(false, 4, 0, false)],
   .seq (.seg false [⟨some 4, none, .mov (.k (.int .i64 0)), 0, 0, false, []⟩])
   (.seq (.seq (.seg false [⟨some 5, none, .mov (.t 0), 0, 0, false, []⟩,
    ⟨some 6, none, .mov (.t 1), 0, 0, false, []⟩,
    ⟨some 7, none, .bin .lss (.t 5) (.t 6), 0, 0, false, []⟩])
   (.cond (.t 7) (.seq (.seg false [⟨some 4, none, .mov (.k (.int .i64 1)), 0, 0, false, []⟩])
   (.ret))
   (.skip)))
   (.cutTo [] (.seq (.seg false [⟨some 4, none, .mov (.k (.int .i64 0)), 0, 0, false, []⟩])
   (.ret))))⟩
def B166x0 : C := .seq (.seq (.seg false [⟨some 4, none, .mov (.t 3), 0, 0, false, []⟩,
    ⟨some 5, none, .mov (.t 0), 0, 0, false, []⟩,
    ⟨some 6, none, .len true (.t 5), 0, 0, false, []⟩,
    ⟨some 7, none, .bin .lss (.t 4) (.t 6), 0, 0, false, []⟩])
   (.cutTo [0, 3, 7] (.cond (.t 7) (.skip)
   (.exit 0))))
   (.cutTo [0, 3] (.seq (.block 1 (.seq (.seg false [⟨some 10, none, .mov (.t 0), 0, 0, false, []⟩,
    ⟨some 11, none, .mov (.t 3), 0, 0, false, []⟩,
    ⟨some 12, none, .idx (.t 10) (.t 11), 0, 0, false, []⟩,
    ⟨some 13, none, .bin .lss (.t 12) (.k (.int .u8 97)), 0, 0, false, []⟩,
    ⟨some 14, none, .mov (.t 13), 0, 0, false, []⟩,
    ⟨some 15, some (14, false), .mov (.t 0), 0, 0, false, []⟩,
    ⟨some 16, some (14, false), .mov (.t 3), 0, 0, false, []⟩,
    ⟨some 17, some (14, false), .idx (.t 15) (.t 16), 0, 0, false, []⟩,
    ⟨some 18, some (14, false), .bin .gtr (.t 17) (.k (.int .u8 122)), 0, 0, false, []⟩,
    ⟨some 19, none, .pick (.t 14) (.k (.bool true)) (.t 18), 0, 0, false, []⟩])
   (.cutTo [0, 3, 19] (.cond (.t 19) (.seq (.seg false [⟨some 2, none, .mov (.k (.bool false)), 0, 0, false, []⟩])
   (.ret))
   (.skip)))))
   (.cutTo [0, 3] (.seg false [⟨some 8, none, .mov (.t 3), 0, 0, false, []⟩,
    ⟨some 9, none, .bin .add (.t 8) (.k (.int .i64 1)), 0, 0, false, []⟩,
    ⟨some 3, none, .mov (.t 9), 0, 0, false, []⟩]))))
def L166x0 : C := B166x0
theorem evL166x0 (run : Run) (draw : List I → Env → Heap → Option (Env × Heap)) (e : Env) (h : Heap) : evC run draw L166x0 e h = evC run draw B166x0 e h := rfl
/-- loop.example/tablehouse/spec.l1Text -/
def F166 : F := ⟨23, [(false, 2, 0, false)],
   .seq (.seg false [⟨some 2, none, .mov (.k (.bool false)), 0, 0, false, []⟩])
   (.seq (.seq (.seg false [⟨some 3, none, .mov (.k (.int .i64 0)), 0, 0, false, []⟩])
   (.block 0 (.loop [0, 3] [0, 2] L166x0)))
   (.seq (.seg false [⟨some 20, none, .mov (.t 0), 0, 0, false, []⟩,
    ⟨some 21, none, .len true (.t 20), 0, 0, false, []⟩,
    ⟨some 22, none, .bin .leq (.t 21) (.k (.int .i64 6)), 0, 0, false, []⟩,
    ⟨some 2, none, .mov (.t 22), 0, 0, false, []⟩])
   (.cutTo [2] (.ret))))⟩
/-- loop.example/tablehouse/spec.l2Bool -/
def F168 : F := ⟨4, [(false, 2, 0, false)],
   .seq (.seg false [⟨some 2, none, .mov (.k (.int .i64 0)), 0, 0, false, []⟩])
   (.seq (.seq (.seg false [⟨some 3, none, .mov (.t 0), 0, 0, false, []⟩])
   (.cond (.t 3) (.seq (.seg false [⟨some 2, none, .mov (.k (.int .i64 1)), 0, 0, false, []⟩])
   (.ret))
   (.skip)))
   (.seq (.seg false [⟨some 2, none, .mov (.k (.int .i64 0)), 0, 0, false, []⟩])
   (.ret)))⟩
def E97x0 : List I := [⟨some 109, none, .mov (.t 8), 0, 0, false, []⟩,
    ⟨some 110, none, .bin .gtr (.t 109) (.k (.int .i64 1)), 0, 0, false, []⟩,
    ⟨some 111, none, .mov (.t 110), 0, 0, false, []⟩,
    ⟨some 112, some (111, true), .mov (.t 1), 0, 0, false, []⟩,
    ⟨some 113, some (111, true), .mov (.t 8), 0, 0, false, []⟩,
    ⟨some 114, some (111, true), .bin .sub (.t 113) (.k (.int .i64 1)), 0, 0, false, []⟩,
    ⟨some 115, some (111, true), .iaddr 1 (.t 112) (.t 114), 0, 0, false, []⟩,
    ⟨some 116, some (111, true), .load false 1 (.t 115), 0, 0, false, []⟩,
    ⟨some 117, some (111, true), .mov (.t 1), 0, 0, false, []⟩,
    ⟨some 118, some (111, true), .mov (.t 8), 0, 0, false, []⟩,
    ⟨some 119, some (111, true), .bin .sub (.t 118) (.k (.int .i64 2)), 0, 0, false, []⟩,
    ⟨some 120, some (111, true), .iaddr 1 (.t 117) (.t 119), 0, 0, false, []⟩,
    ⟨some 121, some (111, true), .load false 1 (.t 120), 0, 0, false, []⟩,
    ⟨some 122, some (111, true), .bin .eql (.t 116) (.t 121), 0, 0, false, []⟩,
    ⟨some 123, none, .pick (.t 111) (.t 122) (.k (.bool false)), 0, 0, false, []⟩,
    ⟨some 124, none, .mov (.t 123), 0, 0, false, []⟩,
    ⟨some 125, some (124, true), .faddr 1 1 (.t 5), 0, 0, false, []⟩,
    ⟨some 126, some (124, true), .load false 1 (.t 125), 0, 0, false, []⟩,
    ⟨some 127, some (124, true), .call 70 [.t 126, .k (.int .i64 1), .k (.int .i64 4)] false false, 0, 0, false, []⟩,
    ⟨some 128, none, .pick (.t 124) (.t 127) (.k (.bool false)), 0, 0, false, []⟩,
    ⟨some 10, none, .mov (.t 128), 0, 0, false, []⟩]
def D97x0 : List I := E97x0
theorem evD97x0 (run : Run) (e : Env) (h : Heap) : drawI run D97x0 e h = DrawS (evQ run E97x0 e h) run E97x0 e h := drawI_quiet run _ (by rfl) e h
def E97x1 : List I := [⟨some 168, none, .mov (.t 1), 0, 0, false, []⟩,
    ⟨some 169, none, .mov (.t 8), 0, 0, false, []⟩,
    ⟨some 170, none, .bin .gtr (.t 169) (.k (.int .i64 0)), 0, 0, false, []⟩,
    ⟨some 171, none, .mov (.t 170), 0, 0, false, []⟩,
    ⟨some 172, some (171, true), .mov (.t 1), 0, 0, false, []⟩,
    ⟨some 173, some (171, true), .mov (.t 8), 0, 0, false, []⟩,
    ⟨some 174, some (171, true), .bin .sub (.t 173) (.k (.int .i64 1)), 0, 0, false, []⟩,
    ⟨some 175, some (171, true), .iaddr 1 (.t 172) (.t 174), 0, 0, false, []⟩,
    ⟨some 176, some (171, true), .load false 1 (.t 175), 0, 0, false, []⟩,
    ⟨some 177, some (171, true), .bin .eql (.t 176) (.k (.int .i64 3)), 0, 0, false, []⟩,
    ⟨some 178, none, .pick (.t 171) (.t 177) (.k (.bool false)), 0, 0, false, []⟩,
    ⟨some 6, none, .mov (.t 168), 0, 0, false, []⟩,
    ⟨some 7, none, .mov (.t 178), 0, 0, false, []⟩]
def D97x1 : List I := E97x1
theorem evD97x1 (run : Run) (e : Env) (h : Heap) : drawI run D97x1 e h = DrawS (evQ run E97x1 e h) run E97x1 e h := drawI_quiet run _ (by rfl) e h
/-- loop.example/tablehouse/spec.l4Step -/
def F97 : F := ⟨191, [(false, 6, 0, false), (false, 7, 0, false)],
   .seq (.seg false [⟨some 5, none, .box (.t 2), 0, 0, false, []⟩,
    ⟨some 6, none, .nilrow 1, 0, 0, false, []⟩,
    ⟨some 7, none, .mov (.k (.bool false)), 0, 0, false, []⟩])
   (.seq (.seg false [⟨some 12, none, .mov (.t 1), 0, 0, false, []⟩,
    ⟨some 13, none, .len false (.t 12), 0, 0, false, []⟩,
    ⟨some 8, none, .mov (.t 13), 0, 0, false, []⟩])
   (.seq (.seq (.seg false [⟨some 14, none, .faddr 0 1 (.t 5), 0, 0, false, []⟩,
    ⟨some 15, none, .load false 1 (.t 14), 0, 0, false, []⟩,
    ⟨some 16, none, .bin .neq (.t 15) (.k (.int .i64 1)), 0, 0, false, []⟩,
    ⟨some 17, none, .mov (.t 16), 0, 0, false, []⟩,
    ⟨some 18, some (17, true), .faddr 2 3 (.t 5), 0, 0, false, []⟩,
    ⟨some 19, some (17, true), .load true 3 (.t 18), 0, 0, false, []⟩,
    ⟨some 20, some (17, true), .build [.int .i64 0, .int .i64 0, .str ⟨#[]⟩] [], 0, 0, false, []⟩,
    ⟨some 21, some (17, true), .eqs true [.int, .int, .str] (.t 19) (.t 20), 0, 0, false, []⟩,
    ⟨some 22, none, .pick (.t 17) (.t 21) (.k (.bool false)), 0, 0, false, []⟩,
    ⟨some 23, none, .mov (.t 22), 0, 0, false, []⟩,
    ⟨some 24, some (23, false), .faddr 0 1 (.t 5), 0, 0, false, []⟩,
    ⟨some 25, some (23, false), .load false 1 (.t 24), 0, 0, false, []⟩,
    ⟨some 26, some (23, false), .bin .neq (.t 25) (.k (.int .i64 2)), 0, 0, false, []⟩,
    ⟨some 27, some (23, false), .mov (.t 26), 0, 0, false, []⟩,
    ⟨some 28, some (27, true), .faddr 0 1 (.t 5), 0, 0, false, []⟩,
    ⟨some 29, some (27, true), .load false 1 (.t 28), 0, 0, false, []⟩,
    ⟨some 30, some (27, true), .bin .neq (.t 29) (.k (.int .i64 4)), 0, 0, false, []⟩,
    ⟨some 31, some (23, false), .pick (.t 27) (.t 30) (.k (.bool false)), 0, 0, false, []⟩,
    ⟨some 32, some (23, false), .mov (.t 31), 0, 0, false, []⟩,
    ⟨some 33, some (32, true), .faddr 1 1 (.t 5), 0, 0, false, []⟩,
    ⟨some 34, some (32, true), .load false 1 (.t 33), 0, 0, false, []⟩,
    ⟨some 35, some (32, true), .bin .neq (.t 34) (.k (.int .i64 0)), 0, 0, false, []⟩,
    ⟨some 36, some (23, false), .pick (.t 32) (.t 35) (.k (.bool false)), 0, 0, false, []⟩,
    ⟨some 37, none, .pick (.t 23) (.k (.bool true)) (.t 36), 0, 0, false, []⟩])
   (.cutTo [0, 1, 5, 8, 37] (.cond (.t 37) (.seq (.seg false [⟨some 38, none, .mov (.t 1), 0, 0, false, []⟩,
    ⟨some 6, none, .mov (.t 38), 0, 0, false, []⟩,
    ⟨some 7, none, .mov (.k (.bool false)), 0, 0, false, []⟩])
   (.ret))
   (.skip))))
   (.cutTo [0, 1, 5, 8] (.seq (.seq (.seg false [⟨some 39, none, .faddr 0 1 (.t 5), 0, 0, false, []⟩,
    ⟨some 40, none, .load false 1 (.t 39), 0, 0, false, []⟩])
   (.block 0 (.seq (.seg false [⟨some 42, none, .bin .eql (.t 40) (.k (.int .i64 1)), 0, 0, false, []⟩,
    ⟨some 41, none, .mov (.t 42), 0, 0, false, []⟩])
   (.cond (.t 41) (.seq (.seq (.seg false [⟨some 43, none, .faddr 2 3 (.t 5), 0, 0, false, []⟩,
    ⟨some 44, none, .load true 3 (.t 43), 0, 0, false, []⟩,
    ⟨some 45, none, .call 143 [.t 44] false false, 0, 0, false, []⟩,
    ⟨some 46, none, .un .not (.t 45), 0, 0, false, []⟩,
    ⟨some 47, none, .mov (.t 46), 0, 0, false, []⟩,
    ⟨some 48, some (47, false), .faddr 2 3 (.t 5), 0, 0, false, []⟩,
    ⟨some 49, some (47, false), .faddr 0 1 (.t 48), 0, 0, false, []⟩,
    ⟨some 50, some (47, false), .load false 1 (.t 49), 0, 0, false, []⟩,
    ⟨some 51, some (47, false), .bin .eql (.t 50) (.k (.int .i64 0)), 0, 0, false, []⟩,
    ⟨some 52, none, .pick (.t 47) (.k (.bool true)) (.t 51), 0, 0, false, []⟩])
   (.cutTo [1, 5, 52] (.cond (.t 52) (.seq (.seg false [⟨some 53, none, .mov (.t 1), 0, 0, false, []⟩,
    ⟨some 6, none, .mov (.t 53), 0, 0, false, []⟩,
    ⟨some 7, none, .mov (.k (.bool false)), 0, 0, false, []⟩])
   (.ret))
   (.skip))))
   (.cutTo [1, 5] (.seq (.seg false [⟨some 54, none, .mov (.t 1), 0, 0, false, []⟩,
    ⟨some 55, none, .faddr 2 3 (.t 5), 0, 0, false, []⟩,
    ⟨some 56, none, .faddr 0 1 (.t 55), 0, 0, false, []⟩,
    ⟨some 57, none, .load false 1 (.t 56), 0, 0, false, []⟩,
    ⟨some 58, none, .mksl false 1 [.t 57], 0, 0, false, []⟩,
    ⟨some 59, none, .app 1 (.t 54) (.t 58), 0, 0, false, []⟩,
    ⟨some 6, none, .mov (.t 59), 0, 0, false, []⟩,
    ⟨some 7, none, .mov (.k (.bool true)), 0, 0, false, []⟩])
   (.cutTo [6, 7] (.ret)))))
   (.seq (.seg false [⟨some 61, none, .bin .eql (.t 40) (.k (.int .i64 2)), 0, 0, false, []⟩,
    ⟨some 60, none, .mov (.t 61), 0, 0, false, []⟩])
   (.cond (.t 60) (.seq (.seq (.seg false [⟨some 62, none, .faddr 1 1 (.t 5), 0, 0, false, []⟩,
    ⟨some 63, none, .load false 1 (.t 62), 0, 0, false, []⟩,
    ⟨some 64, none, .mov (.t 0), 0, 0, false, []⟩,
    ⟨some 65, none, .len false (.t 64), 0, 0, false, []⟩,
    ⟨some 66, none, .bin .sub (.t 65) (.k (.int .i64 1)), 0, 0, false, []⟩,
    ⟨some 67, none, .call 70 [.t 63, .k (.int .i64 0), .t 66] false false, 0, 0, false, []⟩,
    ⟨some 68, none, .un .not (.t 67), 0, 0, false, []⟩])
   (.cutTo [0, 1, 5, 68] (.cond (.t 68) (.seq (.seg false [⟨some 69, none, .mov (.t 1), 0, 0, false, []⟩,
    ⟨some 6, none, .mov (.t 69), 0, 0, false, []⟩,
    ⟨some 7, none, .mov (.k (.bool false)), 0, 0, false, []⟩])
   (.ret))
   (.skip))))
   (.cutTo [0, 1, 5] (.seq (.seg false [⟨some 70, none, .mov (.t 1), 0, 0, false, []⟩,
    ⟨some 71, none, .mov (.t 0), 0, 0, false, []⟩,
    ⟨some 72, none, .faddr 1 1 (.t 5), 0, 0, false, []⟩,
    ⟨some 73, none, .load false 1 (.t 72), 0, 0, false, []⟩,
    ⟨some 74, none, .iaddr 2 (.t 71) (.t 73), 0, 0, false, []⟩,
    ⟨some 75, none, .faddr 0 1 (.t 74), 0, 0, false, []⟩,
    ⟨some 76, none, .load false 1 (.t 75), 0, 0, false, []⟩,
    ⟨some 77, none, .mksl false 1 [.t 76], 0, 0, false, []⟩,
    ⟨some 78, none, .app 1 (.t 70) (.t 77), 0, 0, false, []⟩,
    ⟨some 6, none, .mov (.t 78), 0, 0, false, []⟩,
    ⟨some 7, none, .mov (.k (.bool true)), 0, 0, false, []⟩])
   (.cutTo [6, 7] (.ret)))))
   (.seq (.seg false [⟨some 80, none, .bin .eql (.t 40) (.k (.int .i64 3)), 0, 0, false, []⟩,
    ⟨some 79, none, .mov (.t 80), 0, 0, false, []⟩])
   (.cond (.t 79) (.seq (.seg false [⟨some 81, none, .mov (.t 8), 0, 0, false, []⟩,
    ⟨some 82, none, .bin .gtr (.t 81) (.k (.int .i64 1)), 0, 0, false, []⟩,
    ⟨some 83, none, .mov (.t 82), 0, 0, false, []⟩,
    ⟨some 84, some (83, true), .mov (.t 1), 0, 0, false, []⟩,
    ⟨some 85, some (83, true), .mov (.t 8), 0, 0, false, []⟩,
    ⟨some 86, some (83, true), .bin .sub (.t 85) (.k (.int .i64 1)), 0, 0, false, []⟩,
    ⟨some 87, some (83, true), .iaddr 1 (.t 84) (.t 86), 0, 0, false, []⟩,
    ⟨some 88, some (83, true), .load false 1 (.t 87), 0, 0, false, []⟩,
    ⟨some 89, some (83, true), .bin .eql (.t 88) (.k (.int .i64 1)), 0, 0, false, []⟩,
    ⟨some 90, none, .pick (.t 83) (.t 89) (.k (.bool false)), 0, 0, false, []⟩,
    ⟨some 91, none, .mov (.t 90), 0, 0, false, []⟩,
    ⟨some 92, some (91, true), .mov (.t 1), 0, 0, false, []⟩,
    ⟨some 93, some (91, true), .mov (.t 8), 0, 0, false, []⟩,
    ⟨some 94, some (91, true), .bin .sub (.t 93) (.k (.int .i64 2)), 0, 0, false, []⟩,
    ⟨some 95, some (91, true), .iaddr 1 (.t 92) (.t 94), 0, 0, false, []⟩,
    ⟨some 96, some (91, true), .load false 1 (.t 95), 0, 0, false, []⟩,
    ⟨some 97, some (91, true), .bin .eql (.t 96) (.k (.int .i64 1)), 0, 0, false, []⟩,
    ⟨some 98, none, .pick (.t 91) (.t 97) (.k (.bool false)), 0, 0, false, []⟩,
    ⟨some 9, none, .mov (.t 98), 0, 0, false, []⟩])
   (.cutTo [1, 8, 9] (.seq (.seg false [⟨some 99, none, .mov (.t 1), 0, 0, false, []⟩,
    ⟨some 100, none, .mov (.t 8), 0, 0, false, []⟩,
    ⟨some 101, none, .bin .sub (.t 100) (.k (.int .i64 2)), 0, 0, false, []⟩,
    ⟨some 102, none, .mm true (.t 101) [.k (.int .i64 0)], 0, 0, false, []⟩,
    ⟨some 103, none, .slc false 1 (.t 99) none (some (.t 102)) none, 0, 0, false, []⟩,
    ⟨some 104, none, .mksl false 1 [.k (.int .i64 1)], 0, 0, false, []⟩,
    ⟨some 105, none, .app 1 (.t 103) (.t 104), 0, 0, false, []⟩,
    ⟨some 106, none, .mov (.t 9), 0, 0, false, []⟩,
    ⟨some 6, none, .mov (.t 105), 0, 0, false, []⟩,
    ⟨some 7, none, .mov (.t 106), 0, 0, false, []⟩])
   (.cutTo [6, 7] (.ret)))))
   (.seq (.seg false [⟨some 108, none, .bin .eql (.t 40) (.k (.int .i64 4)), 0, 0, false, []⟩,
    ⟨some 107, none, .mov (.t 108), 0, 0, false, []⟩])
   (.cond (.t 107) (.seq (.seg true D97x0)
   (.cutTo [1, 8, 10] (.seq (.seg false [⟨some 129, none, .mov (.t 1), 0, 0, false, []⟩,
    ⟨some 130, none, .mov (.t 8), 0, 0, false, []⟩,
    ⟨some 131, none, .bin .sub (.t 130) (.k (.int .i64 2)), 0, 0, false, []⟩,
    ⟨some 132, none, .mm true (.t 131) [.k (.int .i64 0)], 0, 0, false, []⟩,
    ⟨some 133, none, .slc false 1 (.t 129) none (some (.t 132)) none, 0, 0, false, []⟩,
    ⟨some 134, none, .mksl false 1 [.k (.int .i64 3)], 0, 0, false, []⟩,
    ⟨some 135, none, .app 1 (.t 133) (.t 134), 0, 0, false, []⟩,
    ⟨some 136, none, .mov (.t 10), 0, 0, false, []⟩,
    ⟨some 6, none, .mov (.t 135), 0, 0, false, []⟩,
    ⟨some 7, none, .mov (.t 136), 0, 0, false, []⟩])
   (.cutTo [6, 7] (.ret)))))
   (.seq (.seq (.seg false [⟨some 138, none, .bin .eql (.t 40) (.k (.int .i64 5)), 0, 0, false, []⟩,
    ⟨some 137, none, .mov (.t 138), 0, 0, false, []⟩])
   (.cond (.t 137) (.skip)
   (.seg false [⟨some 139, none, .bin .eql (.t 40) (.k (.int .i64 6)), 0, 0, false, []⟩,
    ⟨some 137, none, .mov (.t 139), 0, 0, false, []⟩])))
   (.cutTo [1, 8, 40, 137] (.cond (.t 137) (.seq (.seg false [⟨some 140, none, .mov (.t 8), 0, 0, false, []⟩,
    ⟨some 141, none, .bin .gtr (.t 140) (.k (.int .i64 1)), 0, 0, false, []⟩,
    ⟨some 142, none, .mov (.t 141), 0, 0, false, []⟩,
    ⟨some 143, some (142, true), .mov (.t 1), 0, 0, false, []⟩,
    ⟨some 144, some (142, true), .mov (.t 8), 0, 0, false, []⟩,
    ⟨some 145, some (142, true), .bin .sub (.t 144) (.k (.int .i64 1)), 0, 0, false, []⟩,
    ⟨some 146, some (142, true), .iaddr 1 (.t 143) (.t 145), 0, 0, false, []⟩,
    ⟨some 147, some (142, true), .load false 1 (.t 146), 0, 0, false, []⟩,
    ⟨some 148, some (142, true), .bin .eql (.t 147) (.k (.int .i64 3)), 0, 0, false, []⟩,
    ⟨some 149, none, .pick (.t 142) (.t 148) (.k (.bool false)), 0, 0, false, []⟩,
    ⟨some 150, none, .mov (.t 149), 0, 0, false, []⟩,
    ⟨some 151, some (150, true), .mov (.t 1), 0, 0, false, []⟩,
    ⟨some 152, some (150, true), .mov (.t 8), 0, 0, false, []⟩,
    ⟨some 153, some (150, true), .bin .sub (.t 152) (.k (.int .i64 2)), 0, 0, false, []⟩,
    ⟨some 154, some (150, true), .iaddr 1 (.t 151) (.t 153), 0, 0, false, []⟩,
    ⟨some 155, some (150, true), .load false 1 (.t 154), 0, 0, false, []⟩,
    ⟨some 156, some (150, true), .bin .eql (.t 155) (.k (.int .i64 3)), 0, 0, false, []⟩,
    ⟨some 157, none, .pick (.t 150) (.t 156) (.k (.bool false)), 0, 0, false, []⟩,
    ⟨some 11, none, .mov (.t 157), 0, 0, false, []⟩])
   (.cutTo [1, 8, 11] (.seq (.seg false [⟨some 158, none, .mov (.t 1), 0, 0, false, []⟩,
    ⟨some 159, none, .mov (.t 8), 0, 0, false, []⟩,
    ⟨some 160, none, .bin .sub (.t 159) (.k (.int .i64 2)), 0, 0, false, []⟩,
    ⟨some 161, none, .mm true (.t 160) [.k (.int .i64 0)], 0, 0, false, []⟩,
    ⟨some 162, none, .slc false 1 (.t 158) none (some (.t 161)) none, 0, 0, false, []⟩,
    ⟨some 163, none, .mksl false 1 [.k (.int .i64 3)], 0, 0, false, []⟩,
    ⟨some 164, none, .app 1 (.t 162) (.t 163), 0, 0, false, []⟩,
    ⟨some 165, none, .mov (.t 11), 0, 0, false, []⟩,
    ⟨some 6, none, .mov (.t 164), 0, 0, false, []⟩,
    ⟨some 7, none, .mov (.t 165), 0, 0, false, []⟩])
   (.cutTo [6, 7] (.ret)))))
   (.seq (.seg false [⟨some 167, none, .bin .eql (.t 40) (.k (.int .i64 7)), 0, 0, false, []⟩,
    ⟨some 166, none, .mov (.t 167), 0, 0, false, []⟩])
   (.cond (.t 166) (.seq (.seg true D97x1)
   (.cutTo [6, 7] (.ret)))
   (.seq (.seg false [⟨some 180, none, .bin .eql (.t 40) (.k (.int .i64 8)), 0, 0, false, []⟩,
    ⟨some 179, none, .mov (.t 180), 0, 0, false, []⟩])
   (.cond (.t 179) (.seq (.seg false [⟨some 181, none, .mov (.t 1), 0, 0, false, []⟩,
    ⟨some 182, none, .mov (.t 8), 0, 0, false, []⟩,
    ⟨some 183, none, .bin .sub (.t 182) (.k (.int .i64 1)), 0, 0, false, []⟩,
    ⟨some 184, none, .mm true (.t 183) [.k (.int .i64 0)], 0, 0, false, []⟩,
    ⟨some 185, none, .slc false 1 (.t 181) none (some (.t 184)) none, 0, 0, false, []⟩,
    ⟨some 186, none, .mksl false 1 [.k (.int .i64 3)], 0, 0, false, []⟩,
    ⟨some 187, none, .app 1 (.t 185) (.t 186), 0, 0, false, []⟩,
    ⟨some 188, none, .mov (.t 8), 0, 0, false, []⟩,
    ⟨some 189, none, .bin .gtr (.t 188) (.k (.int .i64 0)), 0, 0, false, []⟩,
    ⟨some 6, none, .mov (.t 187), 0, 0, false, []⟩,
    ⟨some 7, none, .mov (.t 189), 0, 0, false, []⟩])
   (.cutTo [6, 7] (.ret)))
   (.skip))))))))))))))))))
   (.cutTo [1] (.seq (.seg false [⟨some 190, none, .mov (.t 1), 0, 0, false, []⟩,
    ⟨some 6, none, .mov (.t 190), 0, 0, false, []⟩,
    ⟨some 7, none, .mov (.k (.bool false)), 0, 0, false, []⟩])
   (.ret)))))))⟩
/-- slices.ContainsFunc<<>int,int> -/
def F66 : F := ⟨9, [(false, 4, 0, false)],
   .seq (.seg false [⟨some 4, none, .mov (.k (.bool false)), 0, 0, false, []⟩])
   (.seq (.seg false [⟨some 5, none, .mov (.t 0), 0, 0, false, []⟩,
    ⟨some 6, none, .mov (.t 1), 0, 0, false, []⟩,
    ⟨some 7, none, .call 122 [.t 5, .t 6] true false, 0, 0, false, []⟩,
    ⟨some 8, none, .bin .geq (.t 7) (.k (.int .i64 0)), 0, 0, false, []⟩,
    ⟨some 4, none, .mov (.t 8), 0, 0, false, []⟩])
   (.cutTo [4] (.ret)))⟩
/-- cmp.Compare<int> -/
def F178 : F := ⟨20, [(false, 4, 0, false)],
   .seq (.seg false [⟨some 4, none, .mov (.k (.int .i64 0)), 0, 0, false, []⟩])
   (.seq (.seg false [⟨some 7, none, .mov (.t 0), 0, 0, false, []⟩,
    ⟨some 8, none, .call 181 [.t 7] false false, 0, 0, false, []⟩,
    ⟨some 5, none, .mov (.t 8), 0, 0, false, []⟩])
   (.seq (.seg false [⟨some 9, none, .mov (.t 1), 0, 0, false, []⟩,
    ⟨some 10, none, .call 181 [.t 9] false false, 0, 0, false, []⟩,
    ⟨some 6, none, .mov (.t 10), 0, 0, false, []⟩])
   (.seq (.seq (.seg false [⟨some 11, none, .mov (.t 5), 0, 0, false, []⟩])
   (.cond (.t 11) (.seq (.seq (.seg false [⟨some 12, none, .mov (.t 6), 0, 0, false, []⟩])
   (.cond (.t 12) (.seq (.seg false [⟨some 4, none, .mov (.k (.int .i64 0)), 0, 0, false, []⟩])
   (.ret))
   (.skip)))
   (.seq (.seg false [⟨some 4, none, .mov (.k (.int .i64 (-1))), 0, 0, false, []⟩])
   (.ret)))
   (.skip)))
   (.cutTo [0, 1, 6] (.seq (.seq (.seg false [⟨some 13, none, .mov (.t 6), 0, 0, false, []⟩])
   (.cond (.t 13) (.seq (.seg false [⟨some 4, none, .mov (.k (.int .i64 1)), 0, 0, false, []⟩])
   (.ret))
   (.skip)))
   (.seq (.seq (.seg false [⟨some 14, none, .mov (.t 0), 0, 0, false, []⟩,
    ⟨some 15, none, .mov (.t 1), 0, 0, false, []⟩,
    ⟨some 16, none, .bin .lss (.t 14) (.t 15), 0, 0, false, []⟩])
   (.cond (.t 16) (.seq (.seg false [⟨some 4, none, .mov (.k (.int .i64 (-1))), 0, 0, false, []⟩])
   (.ret))
   (.skip)))
   (.cutTo [0, 1] (.seq (.seq (.seg false [⟨some 17, none, .mov (.t 0), 0, 0, false, []⟩,
    ⟨some 18, none, .mov (.t 1), 0, 0, false, []⟩,
    ⟨some 19, none, .bin .gtr (.t 17) (.t 18), 0, 0, false, []⟩])
   (.cond (.t 19) (.seq (.seg false [⟨some 4, none, .mov (.k (.int .i64 1)), 0, 0, false, []⟩])
   (.ret))
   (.skip)))
   (.cutTo [] (.seq (.seg false [⟨some 4, none, .mov (.k (.int .i64 0)), 0, 0, false, []⟩])
   (.ret)))))))))))⟩
/-- cmp.Compare<string> -/
def F179 : F := ⟨20, [(false, 4, 0, false)],
   .seq (.seg false [⟨some 4, none, .mov (.k (.int .i64 0)), 0, 0, false, []⟩])
   (.seq (.seg false [⟨some 7, none, .mov (.t 0), 0, 0, false, []⟩,
    ⟨some 8, none, .call 182 [.t 7] false false, 0, 0, false, []⟩,
    ⟨some 5, none, .mov (.t 8), 0, 0, false, []⟩])
   (.seq (.seg false [⟨some 9, none, .mov (.t 1), 0, 0, false, []⟩,
    ⟨some 10, none, .call 182 [.t 9] false false, 0, 0, false, []⟩,
    ⟨some 6, none, .mov (.t 10), 0, 0, false, []⟩])
   (.seq (.seq (.seg false [⟨some 11, none, .mov (.t 5), 0, 0, false, []⟩])
   (.cond (.t 11) (.seq (.seq (.seg false [⟨some 12, none, .mov (.t 6), 0, 0, false, []⟩])
   (.cond (.t 12) (.seq (.seg false [⟨some 4, none, .mov (.k (.int .i64 0)), 0, 0, false, []⟩])
   (.ret))
   (.skip)))
   (.seq (.seg false [⟨some 4, none, .mov (.k (.int .i64 (-1))), 0, 0, false, []⟩])
   (.ret)))
   (.skip)))
   (.cutTo [0, 1, 6] (.seq (.seq (.seg false [⟨some 13, none, .mov (.t 6), 0, 0, false, []⟩])
   (.cond (.t 13) (.seq (.seg false [⟨some 4, none, .mov (.k (.int .i64 1)), 0, 0, false, []⟩])
   (.ret))
   (.skip)))
   (.seq (.seq (.seg false [⟨some 14, none, .mov (.t 0), 0, 0, false, []⟩,
    ⟨some 15, none, .mov (.t 1), 0, 0, false, []⟩,
    ⟨some 16, none, .bin .lss (.t 14) (.t 15), 0, 0, false, []⟩])
   (.cond (.t 16) (.seq (.seg false [⟨some 4, none, .mov (.k (.int .i64 (-1))), 0, 0, false, []⟩])
   (.ret))
   (.skip)))
   (.cutTo [0, 1] (.seq (.seq (.seg false [⟨some 17, none, .mov (.t 0), 0, 0, false, []⟩,
    ⟨some 18, none, .mov (.t 1), 0, 0, false, []⟩,
    ⟨some 19, none, .bin .gtr (.t 17) (.t 18), 0, 0, false, []⟩])
   (.cond (.t 19) (.seq (.seg false [⟨some 4, none, .mov (.k (.int .i64 1)), 0, 0, false, []⟩])
   (.ret))
   (.skip)))
   (.cutTo [] (.seq (.seg false [⟨some 4, none, .mov (.k (.int .i64 0)), 0, 0, false, []⟩])
   (.ret)))))))))))⟩
def B177x0 : C := .seq (.seg false [⟨some 9, none, .bin .lss (.t 8) (.t 7), 0, 0, false, []⟩])
   (.seq (.cond (.t 9) (.skip)
   (.exit 0))
   (.seq (.block 1 (.seq (.seg false [⟨some 10, none, .iaddr 1 (.t 6) (.t 8), 0, 0, false, []⟩,
    ⟨some 11, none, .load false 1 (.t 10), 0, 0, false, []⟩,
    ⟨some 5, none, .mov (.t 11), 0, 0, false, []⟩])
   (.seq (.seg false [⟨some 12, none, .mov (.t 5), 0, 0, false, []⟩,
    ⟨some 13, none, .mov (.t 3), 0, 0, false, []⟩,
    ⟨some 14, none, .bin .neq (.t 12) (.t 13), 0, 0, false, []⟩])
   (.cond (.t 14) (.seq (.seg false [⟨some 15, none, .mov (.t 5), 0, 0, false, []⟩,
    ⟨some 2, none, .mov (.t 15), 0, 0, false, []⟩])
   (.ret))
   (.skip)))))
   (.cutTo [3, 6, 7, 8] (.seg false [⟨some 16, none, .bin .add (.t 8) (.k (.int .i64 1)), 0, 0, false, []⟩,
    ⟨some 8, none, .mov (.t 16), 0, 0, false, []⟩]))))
def L177x0 : C := B177x0
theorem evL177x0 (run : Run) (draw : List I → Env → Heap → Option (Env × Heap)) (e : Env) (h : Heap) : evC run draw L177x0 e h = evC run draw B177x0 e h := rfl
/-- cmp.Or<int> -/
def F177 : F := ⟨18, [(false, 2, 0, false)],
   .seq (.seg false [⟨some 2, none, .mov (.k (.int .i64 0)), 0, 0, false, []⟩])
   (.seq (.seg false [⟨some 3, none, .mov (.k (.int .i64 0)), 0, 0, false, []⟩])
   (.seq (.seq (.seg false [⟨some 6, none, .mov (.t 0), 0, 0, false, []⟩,
    ⟨some 7, none, .len false (.t 6), 0, 0, false, []⟩,
    ⟨some 8, none, .mov (.k (.int .i64 0)), 0, 0, false, []⟩])
   (.block 0 (.loop [3, 6, 7, 8] [2, 3] L177x0)))
   (.seq (.seg false [⟨some 17, none, .mov (.t 3), 0, 0, false, []⟩,
    ⟨some 2, none, .mov (.t 17), 0, 0, false, []⟩])
   (.ret))))⟩
/-- slices.ContainsFunc<<>loop.example/tablehouse/impl.Column,loop.example/tablehouse/impl.Column> -/
def F124 : F := ⟨9, [(false, 4, 0, false)],
   .seq (.seg false [⟨some 4, none, .mov (.k (.bool false)), 0, 0, false, []⟩])
   (.seq (.seg false [⟨some 5, none, .mov (.t 0), 0, 0, false, []⟩,
    ⟨some 6, none, .mov (.t 1), 0, 0, false, []⟩,
    ⟨some 7, none, .call 156 [.t 5, .t 6] true false, 0, 0, false, []⟩,
    ⟨some 8, none, .bin .geq (.t 7) (.k (.int .i64 0)), 0, 0, false, []⟩,
    ⟨some 4, none, .mov (.t 8), 0, 0, false, []⟩])
   (.cutTo [4] (.ret)))⟩
/-- slices.ContainsFunc<<>loop.example/tablehouse/impl.Value,loop.example/tablehouse/impl.Value> -/
def F126 : F := ⟨9, [(false, 4, 0, false)],
   .seq (.seg false [⟨some 4, none, .mov (.k (.bool false)), 0, 0, false, []⟩])
   (.seq (.seg false [⟨some 5, none, .mov (.t 0), 0, 0, false, []⟩,
    ⟨some 6, none, .mov (.t 1), 0, 0, false, []⟩,
    ⟨some 7, none, .call 157 [.t 5, .t 6] true false, 0, 0, false, []⟩,
    ⟨some 8, none, .bin .geq (.t 7) (.k (.int .i64 0)), 0, 0, false, []⟩,
    ⟨some 4, none, .mov (.t 8), 0, 0, false, []⟩])
   (.cutTo [4] (.ret)))⟩
/-- slices.ContainsFunc<<><>loop.example/tablehouse/impl.Value,<>loop.example/tablehouse/impl.Value> -/
def F110 : F := ⟨9, [(false, 4, 0, false)],
   .seq (.seg false [⟨some 4, none, .mov (.k (.bool false)), 0, 0, false, []⟩])
   (.seq (.seg false [⟨some 5, none, .mov (.t 0), 0, 0, false, []⟩,
    ⟨some 6, none, .mov (.t 1), 0, 0, false, []⟩,
    ⟨some 7, none, .call 151 [.t 5, .t 6] true false, 0, 0, false, []⟩,
    ⟨some 8, none, .bin .geq (.t 7) (.k (.int .i64 0)), 0, 0, false, []⟩,
    ⟨some 4, none, .mov (.t 8), 0, 0, false, []⟩])
   (.cutTo [4] (.ret)))⟩
/-- loop.example/tablehouse/impl.clone<loop.example/tablehouse/impl.Part> -/
def F123 : F := ⟨9, [(false, 2, 0, false)],
   .seq (.seg false [⟨some 2, none, .mov (.k (.sl true 5 [])), 0, 0, false, []⟩])
   (.seq (.seq (.seg false [⟨some 3, none, .mov (.t 0), 0, 0, false, []⟩,
    ⟨some 4, none, .len false (.t 3), 0, 0, false, []⟩,
    ⟨some 5, none, .bin .eql (.t 4) (.k (.int .i64 0)), 0, 0, false, []⟩])
   (.cond (.t 5) (.seq (.seg false [⟨some 2, none, .mov (.k (.sl true 5 [])), 0, 0, false, []⟩])
   (.ret))
   (.skip)))
   (.cutTo [0] (.seq (.seg false [⟨some 6, none, .mov (.t 0), 0, 0, false, []⟩,
    ⟨some 7, none, .app 5 (.k (.sl true 5 [])) (.t 6), 0, 0, false, []⟩,
    ⟨some 8, none, .callx 2 155 [.t 7], 0, 0, false, []⟩,
    ⟨some 2, none, .mov (.t 8), 0, 0, false, []⟩])
   (.cutTo [2] (.ret)))))⟩
def B122x0 : C := .seq (.seg false [⟨some 9, none, .bin .lss (.t 8) (.t 7), 0, 0, false, []⟩])
   (.seq (.cond (.t 9) (.skip)
   (.exit 0))
   (.seq (.block 1 (.seq (.seg false [⟨some 10, none, .mov (.t 8), 0, 0, false, []⟩,
    ⟨some 5, none, .mov (.t 10), 0, 0, false, []⟩])
   (.seq (.seg false [⟨some 11, none, .mov (.t 1), 0, 0, false, []⟩,
    ⟨some 12, none, .mov (.t 0), 0, 0, false, []⟩,
    ⟨some 13, none, .mov (.t 5), 0, 0, false, []⟩,
    ⟨some 14, none, .iaddr 1 (.t 12) (.t 13), 0, 0, false, []⟩,
    ⟨some 15, none, .load false 1 (.t 14), 0, 0, false, []⟩,
    ⟨some 16, none, .callv (.t 11) [.t 15] false, 0, 0, false, []⟩])
   (.cutTo [0, 1, 5, 7, 8, 16] (.cond (.t 16) (.seq (.seg false [⟨some 17, none, .mov (.t 5), 0, 0, false, []⟩,
    ⟨some 4, none, .mov (.t 17), 0, 0, false, []⟩])
   (.ret))
   (.skip))))))
   (.cutTo [0, 1, 7, 8] (.seg false [⟨some 18, none, .bin .add (.t 8) (.k (.int .i64 1)), 0, 0, false, []⟩,
    ⟨some 8, none, .mov (.t 18), 0, 0, false, []⟩]))))
def L122x0 : C := B122x0
theorem evL122x0 (run : Run) (draw : List I → Env → Heap → Option (Env × Heap)) (e : Env) (h : Heap) : evC run draw L122x0 e h = evC run draw B122x0 e h := rfl
/-- slices.IndexFunc<<>int,int> -/
def F122 : F := ⟨19, [(false, 4, 0, false)],
   .seq (.seg false [⟨some 4, none, .mov (.k (.int .i64 0)), 0, 0, false, []⟩])
   (.seq (.seq (.seg false [⟨some 6, none, .mov (.t 0), 0, 0, false, []⟩,
    ⟨some 7, none, .len false (.t 6), 0, 0, false, []⟩,
    ⟨some 8, none, .mov (.k (.int .i64 0)), 0, 0, false, []⟩])
   (.block 0 (.loop [0, 1, 7, 8] [4] L122x0)))
   (.seq (.seg false [⟨some 4, none, .mov (.k (.int .i64 (-1))), 0, 0, false, []⟩])
   (.ret)))⟩
/-- cmp.isNaN<int> -/
def F181 : F := ⟨6, [(false, 2, 0, false)],
   .seq (.seg false [⟨some 2, none, .mov (.k (.bool false)), 0, 0, false, []⟩])
   (.seq (.seg false [⟨some 3, none, .mov (.t 0), 0, 0, false, []⟩,
    ⟨some 4, none, .mov (.t 0), 0, 0, false, []⟩,
    ⟨some 5, none, .bin .neq (.t 3) (.t 4), 0, 0, false, []⟩,
    ⟨some 2, none, .mov (.t 5), 0, 0, false, []⟩])
   (.cutTo [2] (.ret)))⟩
/-- cmp.isNaN<string> -/
def F182 : F := ⟨6, [(false, 2, 0, false)],
   .seq (.seg false [⟨some 2, none, .mov (.k (.bool false)), 0, 0, false, []⟩])
   (.seq (.seg false [⟨some 3, none, .mov (.t 0), 0, 0, false, []⟩,
    ⟨some 4, none, .mov (.t 0), 0, 0, false, []⟩,
    ⟨some 5, none, .bin .neq (.t 3) (.t 4), 0, 0, false, []⟩,
    ⟨some 2, none, .mov (.t 5), 0, 0, false, []⟩])
   (.cutTo [2] (.ret)))⟩
def B156x0 : C := .seq (.seg false [⟨some 9, none, .bin .lss (.t 8) (.t 7), 0, 0, false, []⟩])
   (.seq (.cond (.t 9) (.skip)
   (.exit 0))
   (.seq (.block 1 (.seq (.seg false [⟨some 10, none, .mov (.t 8), 0, 0, false, []⟩,
    ⟨some 5, none, .mov (.t 10), 0, 0, false, []⟩])
   (.seq (.seg false [⟨some 11, none, .mov (.t 1), 0, 0, false, []⟩,
    ⟨some 12, none, .mov (.t 0), 0, 0, false, []⟩,
    ⟨some 13, none, .mov (.t 5), 0, 0, false, []⟩,
    ⟨some 14, none, .iaddr 2 (.t 12) (.t 13), 0, 0, false, []⟩,
    ⟨some 15, none, .load true 2 (.t 14), 0, 0, false, []⟩,
    ⟨some 16, none, .callv (.t 11) [.t 15] false, 0, 0, false, []⟩])
   (.cutTo [0, 1, 5, 7, 8, 16] (.cond (.t 16) (.seq (.seg false [⟨some 17, none, .mov (.t 5), 0, 0, false, []⟩,
    ⟨some 4, none, .mov (.t 17), 0, 0, false, []⟩])
   (.ret))
   (.skip))))))
   (.cutTo [0, 1, 7, 8] (.seg false [⟨some 18, none, .bin .add (.t 8) (.k (.int .i64 1)), 0, 0, false, []⟩,
    ⟨some 8, none, .mov (.t 18), 0, 0, false, []⟩]))))
def L156x0 : C := B156x0
theorem evL156x0 (run : Run) (draw : List I → Env → Heap → Option (Env × Heap)) (e : Env) (h : Heap) : evC run draw L156x0 e h = evC run draw B156x0 e h := rfl
/-- slices.IndexFunc<<>loop.example/tablehouse/impl.Column,loop.example/tablehouse/impl.Column> -/
def F156 : F := ⟨19, [(false, 4, 0, false)],
   .seq (.seg false [⟨some 4, none, .mov (.k (.int .i64 0)), 0, 0, false, []⟩])
   (.seq (.seq (.seg false [⟨some 6, none, .mov (.t 0), 0, 0, false, []⟩,
    ⟨some 7, none, .len false (.t 6), 0, 0, false, []⟩,
    ⟨some 8, none, .mov (.k (.int .i64 0)), 0, 0, false, []⟩])
   (.block 0 (.loop [0, 1, 7, 8] [4] L156x0)))
   (.seq (.seg false [⟨some 4, none, .mov (.k (.int .i64 (-1))), 0, 0, false, []⟩])
   (.ret)))⟩
def B157x0 : C := .seq (.seg false [⟨some 9, none, .bin .lss (.t 8) (.t 7), 0, 0, false, []⟩])
   (.seq (.cond (.t 9) (.skip)
   (.exit 0))
   (.seq (.block 1 (.seq (.seg false [⟨some 10, none, .mov (.t 8), 0, 0, false, []⟩,
    ⟨some 5, none, .mov (.t 10), 0, 0, false, []⟩])
   (.seq (.seg false [⟨some 11, none, .mov (.t 1), 0, 0, false, []⟩,
    ⟨some 12, none, .mov (.t 0), 0, 0, false, []⟩,
    ⟨some 13, none, .mov (.t 5), 0, 0, false, []⟩,
    ⟨some 14, none, .iaddr 3 (.t 12) (.t 13), 0, 0, false, []⟩,
    ⟨some 15, none, .load true 3 (.t 14), 0, 0, false, []⟩,
    ⟨some 16, none, .callv (.t 11) [.t 15] false, 0, 0, false, []⟩])
   (.cutTo [0, 1, 5, 7, 8, 16] (.cond (.t 16) (.seq (.seg false [⟨some 17, none, .mov (.t 5), 0, 0, false, []⟩,
    ⟨some 4, none, .mov (.t 17), 0, 0, false, []⟩])
   (.ret))
   (.skip))))))
   (.cutTo [0, 1, 7, 8] (.seg false [⟨some 18, none, .bin .add (.t 8) (.k (.int .i64 1)), 0, 0, false, []⟩,
    ⟨some 8, none, .mov (.t 18), 0, 0, false, []⟩]))))
def L157x0 : C := B157x0
theorem evL157x0 (run : Run) (draw : List I → Env → Heap → Option (Env × Heap)) (e : Env) (h : Heap) : evC run draw L157x0 e h = evC run draw B157x0 e h := rfl
/-- slices.IndexFunc<<>loop.example/tablehouse/impl.Value,loop.example/tablehouse/impl.Value> -/
def F157 : F := ⟨19, [(false, 4, 0, false)],
   .seq (.seg false [⟨some 4, none, .mov (.k (.int .i64 0)), 0, 0, false, []⟩])
   (.seq (.seq (.seg false [⟨some 6, none, .mov (.t 0), 0, 0, false, []⟩,
    ⟨some 7, none, .len false (.t 6), 0, 0, false, []⟩,
    ⟨some 8, none, .mov (.k (.int .i64 0)), 0, 0, false, []⟩])
   (.block 0 (.loop [0, 1, 7, 8] [4] L157x0)))
   (.seq (.seg false [⟨some 4, none, .mov (.k (.int .i64 (-1))), 0, 0, false, []⟩])
   (.ret)))⟩
def B151x0 : C := .seq (.seg false [⟨some 9, none, .bin .lss (.t 8) (.t 7), 0, 0, false, []⟩])
   (.seq (.cond (.t 9) (.skip)
   (.exit 0))
   (.seq (.block 1 (.seq (.seg false [⟨some 10, none, .mov (.t 8), 0, 0, false, []⟩,
    ⟨some 5, none, .mov (.t 10), 0, 0, false, []⟩])
   (.seq (.seg false [⟨some 11, none, .mov (.t 1), 0, 0, false, []⟩,
    ⟨some 12, none, .mov (.t 0), 0, 0, false, []⟩,
    ⟨some 13, none, .mov (.t 5), 0, 0, false, []⟩,
    ⟨some 14, none, .iaddr 1 (.t 12) (.t 13), 0, 0, false, []⟩,
    ⟨some 15, none, .load false 1 (.t 14), 0, 0, false, []⟩,
    ⟨some 16, none, .callv (.t 11) [.t 15] false, 0, 0, false, []⟩])
   (.cutTo [0, 1, 5, 7, 8, 16] (.cond (.t 16) (.seq (.seg false [⟨some 17, none, .mov (.t 5), 0, 0, false, []⟩,
    ⟨some 4, none, .mov (.t 17), 0, 0, false, []⟩])
   (.ret))
   (.skip))))))
   (.cutTo [0, 1, 7, 8] (.seg false [⟨some 18, none, .bin .add (.t 8) (.k (.int .i64 1)), 0, 0, false, []⟩,
    ⟨some 8, none, .mov (.t 18), 0, 0, false, []⟩]))))
def L151x0 : C := B151x0
theorem evL151x0 (run : Run) (draw : List I → Env → Heap → Option (Env × Heap)) (e : Env) (h : Heap) : evC run draw L151x0 e h = evC run draw B151x0 e h := rfl
/-- slices.IndexFunc<<><>loop.example/tablehouse/impl.Value,<>loop.example/tablehouse/impl.Value> -/
def F151 : F := ⟨19, [(false, 4, 0, false)],
   .seq (.seg false [⟨some 4, none, .mov (.k (.int .i64 0)), 0, 0, false, []⟩])
   (.seq (.seq (.seg false [⟨some 6, none, .mov (.t 0), 0, 0, false, []⟩,
    ⟨some 7, none, .len false (.t 6), 0, 0, false, []⟩,
    ⟨some 8, none, .mov (.k (.int .i64 0)), 0, 0, false, []⟩])
   (.block 0 (.loop [0, 1, 7, 8] [4] L151x0)))
   (.seq (.seg false [⟨some 4, none, .mov (.k (.int .i64 (-1))), 0, 0, false, []⟩])
   (.ret)))⟩
/-- slices.Clip<<>loop.example/tablehouse/impl.Part,loop.example/tablehouse/impl.Part> -/
def F155 : F := ⟨9, [(false, 2, 0, false)],
   .seq (.seg false [⟨some 2, none, .mov (.k (.sl true 5 [])), 0, 0, false, []⟩])
   (.seq (.seg false [⟨some 3, none, .mov (.t 0), 0, 0, false, []⟩,
    ⟨some 4, none, .mov (.t 0), 0, 0, false, []⟩,
    ⟨some 5, none, .len false (.t 4), 0, 0, false, []⟩,
    ⟨some 6, none, .mov (.t 0), 0, 0, false, []⟩,
    ⟨some 7, none, .len false (.t 6), 0, 0, false, []⟩,
    ⟨some 8, none, .slc false 5 (.t 3) none (some (.t 5)) (some (.t 7)), 0, 0, false, []⟩,
    ⟨some 2, none, .mov (.t 8), 0, 0, false, []⟩])
   (.cutTo [2] (.ret)))⟩
theorem chk134 : chkF Try.prog 134 F134 = true := by kernel_rfl
theorem chk65 : chkF Try.prog 65 F65 = true := by kernel_rfl
theorem chk95 : chkF Try.prog 95 F95 = true := by kernel_rfl
theorem chk141 : chkF Try.prog 141 F141 = true := by kernel_rfl
theorem chk142 : chkF Try.prog 142 F142 = true := by kernel_rfl
theorem chk89 : chkF Try.prog 89 F89 = true := by kernel_rfl
theorem chk94 : chkF Try.prog 94 F94 = true := by kernel_rfl
theorem chk129 : chkF Try.prog 129 F129 = true := by kernel_rfl
theorem chk128 : chkF Try.prog 128 F128 = true := by kernel_rfl
theorem chk172 : chkF Try.prog 172 F172 = true := by kernel_rfl
theorem chk160 : chkF Try.prog 160 F160 = true := by kernel_rfl
theorem chk71 : chkF Try.prog 71 F71 = true := by kernel_rfl
theorem chk125 : chkF Try.prog 125 F125 = true := by kernel_rfl
theorem chk159 : chkF Try.prog 159 F159 = true := by kernel_rfl
theorem chk43 : chkF Try.prog 43 F43 = true := by kernel_rfl
theorem chk16 : chkF Try.prog 16 F16 = true := by kernel_rfl
theorem chk67 : chkF Try.prog 67 F67 = true := by kernel_rfl
theorem chk21 : chkF Try.prog 21 F21 = true := by kernel_rfl
theorem chk163 : chkF Try.prog 163 F163 = true := by kernel_rfl
theorem chk162 : chkF Try.prog 162 F162 = true := by kernel_rfl
theorem chk19 : chkF Try.prog 19 F19 = true := by kernel_rfl
theorem chk72 : chkF Try.prog 72 F72 = true := by kernel_rfl
theorem chk127 : chkF Try.prog 127 F127 = true := by kernel_rfl
theorem chk51 : chkF Try.prog 51 F51 = true := by kernel_rfl
theorem chk111 : chkF Try.prog 111 F111 = true := by kernel_rfl
theorem chk161 : chkF Try.prog 161 F161 = true := by kernel_rfl
theorem chk180 : chkF Try.prog 180 F180 = true := by kernel_rfl
theorem chk138 : chkF Try.prog 138 F138 = true := by kernel_rfl
theorem chk73 : chkF Try.prog 73 F73 = true := by kernel_rfl
theorem chk68 : chkF Try.prog 68 F68 = true := by kernel_rfl
theorem chk69 : chkF Try.prog 69 F69 = true := by kernel_rfl
theorem chk74 : chkF Try.prog 74 F74 = true := by kernel_rfl
theorem chk173 : chkF Try.prog 173 F173 = true := by kernel_rfl
theorem chk158 : chkF Try.prog 158 F158 = true := by kernel_rfl
theorem chk164 : chkF Try.prog 164 F164 = true := by kernel_rfl
theorem chk4 : chkF Try.prog 4 F4 = true := by kernel_rfl
theorem chk79 : chkF Try.prog 79 F79 = true := by kernel_rfl
theorem chk28 : chkF Try.prog 28 F28 = true := by kernel_rfl
theorem chk29 : chkF Try.prog 29 F29 = true := by kernel_rfl
theorem chk78 : chkF Try.prog 78 F78 = true := by kernel_rfl
theorem chk27 : chkF Try.prog 27 F27 = true := by kernel_rfl
theorem chk132 : chkF Try.prog 132 F132 = true := by kernel_rfl
theorem chk33 : chkF Try.prog 33 F33 = true := by kernel_rfl
theorem chk30 : chkF Try.prog 30 F30 = true := by kernel_rfl
theorem chk32 : chkF Try.prog 32 F32 = true := by kernel_rfl
theorem chk31 : chkF Try.prog 31 F31 = true := by kernel_rfl
theorem chk80 : chkF Try.prog 80 F80 = true := by kernel_rfl
theorem chk17 : chkF Try.prog 17 F17 = true := by kernel_rfl
theorem chk22 : chkF Try.prog 22 F22 = true := by kernel_rfl
theorem chk75 : chkF Try.prog 75 F75 = true := by kernel_rfl
theorem chk23 : chkF Try.prog 23 F23 = true := by kernel_rfl
theorem chk130 : chkF Try.prog 130 F130 = true := by kernel_rfl
theorem chk76 : chkF Try.prog 76 F76 = true := by kernel_rfl
theorem chk24 : chkF Try.prog 24 F24 = true := by kernel_rfl
theorem chk26 : chkF Try.prog 26 F26 = true := by kernel_rfl
theorem chk77 : chkF Try.prog 77 F77 = true := by kernel_rfl
theorem chk25 : chkF Try.prog 25 F25 = true := by kernel_rfl
theorem chk131 : chkF Try.prog 131 F131 = true := by kernel_rfl
theorem chk96 : chkF Try.prog 96 F96 = true := by kernel_rfl
theorem chk150 : chkF Try.prog 150 F150 = true := by kernel_rfl
theorem chk44 : chkF Try.prog 44 F44 = true := by kernel_rfl
theorem chk18 : chkF Try.prog 18 F18 = true := by kernel_rfl
theorem chk165 : chkF Try.prog 165 F165 = true := by kernel_rfl
theorem chk174 : chkF Try.prog 174 F174 = true := by kernel_rfl
theorem chk135 : chkF Try.prog 135 F135 = true := by kernel_rfl
theorem chk143 : chkF Try.prog 143 F143 = true := by kernel_rfl
theorem chk169 : chkF Try.prog 169 F169 = true := by kernel_rfl
theorem chk176 : chkF Try.prog 176 F176 = true := by kernel_rfl
theorem chk70 : chkF Try.prog 70 F70 = true := by kernel_rfl
theorem chk175 : chkF Try.prog 175 F175 = true := by kernel_rfl
theorem chk166 : chkF Try.prog 166 F166 = true := by kernel_rfl
theorem chk168 : chkF Try.prog 168 F168 = true := by kernel_rfl
theorem chk97 : chkF Try.prog 97 F97 = true := by kernel_rfl
theorem chk66 : chkF Try.prog 66 F66 = true := by kernel_rfl
theorem chk178 : chkF Try.prog 178 F178 = true := by kernel_rfl
theorem chk179 : chkF Try.prog 179 F179 = true := by kernel_rfl
theorem chk177 : chkF Try.prog 177 F177 = true := by kernel_rfl
theorem chk124 : chkF Try.prog 124 F124 = true := by kernel_rfl
theorem chk126 : chkF Try.prog 126 F126 = true := by kernel_rfl
theorem chk110 : chkF Try.prog 110 F110 = true := by kernel_rfl
theorem chk123 : chkF Try.prog 123 F123 = true := by kernel_rfl
theorem chk122 : chkF Try.prog 122 F122 = true := by kernel_rfl
theorem chk181 : chkF Try.prog 181 F181 = true := by kernel_rfl
theorem chk182 : chkF Try.prog 182 F182 = true := by kernel_rfl
theorem chk156 : chkF Try.prog 156 F156 = true := by kernel_rfl
theorem chk157 : chkF Try.prog 157 F157 = true := by kernel_rfl
theorem chk151 : chkF Try.prog 151 F151 = true := by kernel_rfl
theorem chk155 : chkF Try.prog 155 F155 = true := by kernel_rfl
def tab : Tab := [(134, F134), (65, F65), (95, F95), (141, F141), (142, F142), (89, F89), (94, F94), (129, F129), (128, F128), (172, F172), (160, F160), (71, F71), (125, F125), (159, F159), (43, F43), (16, F16), (67, F67), (21, F21), (163, F163), (162, F162), (19, F19), (72, F72), (127, F127), (51, F51), (111, F111), (161, F161), (180, F180), (138, F138), (73, F73), (68, F68), (69, F69), (74, F74), (173, F173), (158, F158), (164, F164), (4, F4), (79, F79), (28, F28), (29, F29), (78, F78), (27, F27), (132, F132), (33, F33), (30, F30), (32, F32), (31, F31), (80, F80), (17, F17), (22, F22), (75, F75), (23, F23), (130, F130), (76, F76), (24, F24), (26, F26), (77, F77), (25, F25), (131, F131), (96, F96), (150, F150), (44, F44), (18, F18), (165, F165), (174, F174), (135, F135), (143, F143), (169, F169), (176, F176), (70, F70), (175, F175), (166, F166), (168, F168), (97, F97), (66, F66), (178, F178), (179, F179), (177, F177), (124, F124), (126, F126), (110, F110), (123, F123), (122, F122), (181, F181), (182, F182), (156, F156), (157, F157), (151, F151), (155, F155)]
theorem find134 : tab.find 134 = some F134 := rfl
theorem find65 : tab.find 65 = some F65 := rfl
theorem find95 : tab.find 95 = some F95 := rfl
theorem find141 : tab.find 141 = some F141 := rfl
theorem find142 : tab.find 142 = some F142 := rfl
theorem find89 : tab.find 89 = some F89 := rfl
theorem find94 : tab.find 94 = some F94 := rfl
theorem find129 : tab.find 129 = some F129 := rfl
theorem find128 : tab.find 128 = some F128 := rfl
theorem find172 : tab.find 172 = some F172 := rfl
theorem find160 : tab.find 160 = some F160 := rfl
theorem find71 : tab.find 71 = some F71 := rfl
theorem find125 : tab.find 125 = some F125 := rfl
theorem find159 : tab.find 159 = some F159 := rfl
theorem find43 : tab.find 43 = some F43 := rfl
theorem find16 : tab.find 16 = some F16 := rfl
theorem find67 : tab.find 67 = some F67 := rfl
theorem find21 : tab.find 21 = some F21 := rfl
theorem find163 : tab.find 163 = some F163 := rfl
theorem find162 : tab.find 162 = some F162 := rfl
theorem find19 : tab.find 19 = some F19 := rfl
theorem find72 : tab.find 72 = some F72 := rfl
theorem find127 : tab.find 127 = some F127 := rfl
theorem find51 : tab.find 51 = some F51 := rfl
theorem find111 : tab.find 111 = some F111 := rfl
theorem find161 : tab.find 161 = some F161 := rfl
theorem find180 : tab.find 180 = some F180 := rfl
theorem find138 : tab.find 138 = some F138 := rfl
theorem find73 : tab.find 73 = some F73 := rfl
theorem find68 : tab.find 68 = some F68 := rfl
theorem find69 : tab.find 69 = some F69 := rfl
theorem find74 : tab.find 74 = some F74 := rfl
theorem find173 : tab.find 173 = some F173 := rfl
theorem find158 : tab.find 158 = some F158 := rfl
theorem find164 : tab.find 164 = some F164 := rfl
theorem find4 : tab.find 4 = some F4 := rfl
theorem find79 : tab.find 79 = some F79 := rfl
theorem find28 : tab.find 28 = some F28 := rfl
theorem find29 : tab.find 29 = some F29 := rfl
theorem find78 : tab.find 78 = some F78 := rfl
theorem find27 : tab.find 27 = some F27 := rfl
theorem find132 : tab.find 132 = some F132 := rfl
theorem find33 : tab.find 33 = some F33 := rfl
theorem find30 : tab.find 30 = some F30 := rfl
theorem find32 : tab.find 32 = some F32 := rfl
theorem find31 : tab.find 31 = some F31 := rfl
theorem find80 : tab.find 80 = some F80 := rfl
theorem find17 : tab.find 17 = some F17 := rfl
theorem find22 : tab.find 22 = some F22 := rfl
theorem find75 : tab.find 75 = some F75 := rfl
theorem find23 : tab.find 23 = some F23 := rfl
theorem find130 : tab.find 130 = some F130 := rfl
theorem find76 : tab.find 76 = some F76 := rfl
theorem find24 : tab.find 24 = some F24 := rfl
theorem find26 : tab.find 26 = some F26 := rfl
theorem find77 : tab.find 77 = some F77 := rfl
theorem find25 : tab.find 25 = some F25 := rfl
theorem find131 : tab.find 131 = some F131 := rfl
theorem find96 : tab.find 96 = some F96 := rfl
theorem find150 : tab.find 150 = some F150 := rfl
theorem find44 : tab.find 44 = some F44 := rfl
theorem find18 : tab.find 18 = some F18 := rfl
theorem find165 : tab.find 165 = some F165 := rfl
theorem find174 : tab.find 174 = some F174 := rfl
theorem find135 : tab.find 135 = some F135 := rfl
theorem find143 : tab.find 143 = some F143 := rfl
theorem find169 : tab.find 169 = some F169 := rfl
theorem find176 : tab.find 176 = some F176 := rfl
theorem find70 : tab.find 70 = some F70 := rfl
theorem find175 : tab.find 175 = some F175 := rfl
theorem find166 : tab.find 166 = some F166 := rfl
theorem find168 : tab.find 168 = some F168 := rfl
theorem find97 : tab.find 97 = some F97 := rfl
theorem find66 : tab.find 66 = some F66 := rfl
theorem find178 : tab.find 178 = some F178 := rfl
theorem find179 : tab.find 179 = some F179 := rfl
theorem find177 : tab.find 177 = some F177 := rfl
theorem find124 : tab.find 124 = some F124 := rfl
theorem find126 : tab.find 126 = some F126 := rfl
theorem find110 : tab.find 110 = some F110 := rfl
theorem find123 : tab.find 123 = some F123 := rfl
theorem find122 : tab.find 122 = some F122 := rfl
theorem find181 : tab.find 181 = some F181 := rfl
theorem find182 : tab.find 182 = some F182 := rfl
theorem find156 : tab.find 156 = some F156 := rfl
theorem find157 : tab.find 157 = some F157 := rfl
theorem find151 : tab.find 151 = some F151 := rfl
theorem find155 : tab.find 155 = some F155 := rfl
theorem tab_ok : ∀ p ∈ tab, chkF Try.prog p.1 p.2 = true := by
  intro p hp
  simp only [tab, List.mem_cons, List.not_mem_nil, or_false] at hp
  rcases hp with rfl | rfl | rfl | rfl | rfl | rfl | rfl | rfl | rfl | rfl | rfl | rfl | rfl | rfl | rfl | rfl | rfl | rfl | rfl | rfl | rfl | rfl | rfl | rfl | rfl | rfl | rfl | rfl | rfl | rfl | rfl | rfl | rfl | rfl | rfl | rfl | rfl | rfl | rfl | rfl | rfl | rfl | rfl | rfl | rfl | rfl | rfl | rfl | rfl | rfl | rfl | rfl | rfl | rfl | rfl | rfl | rfl | rfl | rfl | rfl | rfl | rfl | rfl | rfl | rfl | rfl | rfl | rfl | rfl | rfl | rfl | rfl | rfl | rfl | rfl | rfl | rfl | rfl | rfl | rfl | rfl | rfl | rfl | rfl | rfl | rfl | rfl | rfl
  · exact chk134
  · exact chk65
  · exact chk95
  · exact chk141
  · exact chk142
  · exact chk89
  · exact chk94
  · exact chk129
  · exact chk128
  · exact chk172
  · exact chk160
  · exact chk71
  · exact chk125
  · exact chk159
  · exact chk43
  · exact chk16
  · exact chk67
  · exact chk21
  · exact chk163
  · exact chk162
  · exact chk19
  · exact chk72
  · exact chk127
  · exact chk51
  · exact chk111
  · exact chk161
  · exact chk180
  · exact chk138
  · exact chk73
  · exact chk68
  · exact chk69
  · exact chk74
  · exact chk173
  · exact chk158
  · exact chk164
  · exact chk4
  · exact chk79
  · exact chk28
  · exact chk29
  · exact chk78
  · exact chk27
  · exact chk132
  · exact chk33
  · exact chk30
  · exact chk32
  · exact chk31
  · exact chk80
  · exact chk17
  · exact chk22
  · exact chk75
  · exact chk23
  · exact chk130
  · exact chk76
  · exact chk24
  · exact chk26
  · exact chk77
  · exact chk25
  · exact chk131
  · exact chk96
  · exact chk150
  · exact chk44
  · exact chk18
  · exact chk165
  · exact chk174
  · exact chk135
  · exact chk143
  · exact chk169
  · exact chk176
  · exact chk70
  · exact chk175
  · exact chk166
  · exact chk168
  · exact chk97
  · exact chk66
  · exact chk178
  · exact chk179
  · exact chk177
  · exact chk124
  · exact chk126
  · exact chk110
  · exact chk123
  · exact chk122
  · exact chk181
  · exact chk182
  · exact chk156
  · exact chk157
  · exact chk151
  · exact chk155
end Go.Proofs.Ytgepapgabnaonaa.PE
