/- The compact code of the functions, and that it is the code of the machine. -/
import Derived.Test.YtgepapgabnaonaaPeX
import Derived.Test.YtgepapgabnaonaaProg
namespace Go.Proofs.Ytgepapgabnaonaa.PE
open Go.RowKit
set_option maxRecDepth 100000
/-- (*loop.example/tablehouse/spec.l20Rd).odd -/
def F134 : F := ⟨15, [(false, 4, 0, false)],
   .seq (.seg false [⟨some 4, none, .mov (.k (.bool false)), 0, 0, false, []⟩])
   (.seq (.seg false [⟨some 5, none, .mov (.t 1), 0, 0, false, []⟩,
    ⟨some 6, none, .bin .gtr (.t 5) (.k (.int .i64 0)), 0, 0, false, []⟩,
    ⟨some 7, none, .mov (.t 6), 0, 0, false, []⟩,
    ⟨some 8, some (7, true), .mov (.t 0), 0, 0, false, []⟩,
    ⟨some 9, some (7, true), .mov (.t 1), 0, 0, false, []⟩,
    ⟨some 10, some (7, true), .call 65 [.t 8, .t 9] true false, 0, 0, false, []⟩,
    ⟨some 11, some (7, true), .mov (.t 1), 0, 0, false, []⟩,
    ⟨some 12, some (7, true), .bin .sub (.t 11) (.k (.int .i64 1)), 0, 0, false, []⟩,
    ⟨some 13, some (7, true), .bin .eql (.t 10) (.t 12), 0, 0, false, []⟩,
    ⟨some 14, none, .pick (.t 7) (.t 13) (.k (.bool false)), 0, 0, false, []⟩,
    ⟨some 4, none, .mov (.t 14), 0, 0, false, []⟩])
   (.cutTo [4] (.ret)))⟩
def E65x0 : List I := [⟨some 47, none, .mov (.t 0), 0, 0, false, []⟩,
    ⟨some 48, none, .nilchk (.t 47), 0, 0, false, []⟩,
    ⟨some 49, none, .faddr 0 1 (.t 48), 0, 0, false, []⟩,
    ⟨some 50, none, .load false 1 (.t 49), 0, 0, false, []⟩,
    ⟨some 51, none, .mov (.t 5), 0, 0, false, []⟩,
    ⟨some 52, none, .mov (.t 0), 0, 0, false, []⟩,
    ⟨some 53, none, .nilchk (.t 52), 0, 0, false, []⟩,
    ⟨some 54, none, .faddr 0 1 (.t 53), 0, 0, false, []⟩,
    ⟨some 55, none, .load false 1 (.t 54), 0, 0, false, []⟩,
    ⟨some 56, none, .len false (.t 55), 0, 0, false, []⟩,
    ⟨some 57, none, .bin .rem (.t 51) (.t 56), 0, 0, false, []⟩,
    ⟨some 58, none, .iaddr 1 (.t 50) (.t 57), 0, 0, false, []⟩,
    ⟨some 59, none, .load false 1 (.t 58), 0, 0, false, []⟩,
    ⟨some 60, none, .conv (.int .i64) (.t 59), 0, 0, false, []⟩,
    ⟨some 61, none, .bin .mul (.t 60) (.k (.int .i64 131)), 0, 0, false, []⟩,
    ⟨some 62, none, .mov (.t 0), 0, 0, false, []⟩,
    ⟨some 63, none, .nilchk (.t 62), 0, 0, false, []⟩,
    ⟨some 64, none, .faddr 0 1 (.t 63), 0, 0, false, []⟩,
    ⟨some 65, none, .load false 1 (.t 64), 0, 0, false, []⟩,
    ⟨some 66, none, .mov (.t 5), 0, 0, false, []⟩,
    ⟨some 67, none, .bin .mul (.t 66) (.k (.int .i64 7)), 0, 0, false, []⟩,
    ⟨some 68, none, .bin .add (.t 67) (.k (.int .i64 3)), 0, 0, false, []⟩,
    ⟨some 69, none, .mov (.t 0), 0, 0, false, []⟩,
    ⟨some 70, none, .nilchk (.t 69), 0, 0, false, []⟩,
    ⟨some 71, none, .faddr 0 1 (.t 70), 0, 0, false, []⟩,
    ⟨some 72, none, .load false 1 (.t 71), 0, 0, false, []⟩,
    ⟨some 73, none, .len false (.t 72), 0, 0, false, []⟩,
    ⟨some 74, none, .bin .rem (.t 68) (.t 73), 0, 0, false, []⟩,
    ⟨some 75, none, .iaddr 1 (.t 65) (.t 74), 0, 0, false, []⟩,
    ⟨some 76, none, .load false 1 (.t 75), 0, 0, false, []⟩,
    ⟨some 77, none, .conv (.int .i64) (.t 76), 0, 0, false, []⟩,
    ⟨some 78, none, .bin .mul (.t 77) (.k (.int .i64 1117)), 0, 0, false, []⟩,
    ⟨some 79, none, .bin .add (.t 61) (.t 78), 0, 0, false, []⟩,
    ⟨some 80, none, .mov (.t 5), 0, 0, false, []⟩,
    ⟨some 81, none, .bin .mul (.t 80) (.k (.int .i64 29)), 0, 0, false, []⟩,
    ⟨some 82, none, .bin .add (.t 79) (.t 81), 0, 0, false, []⟩,
    ⟨some 83, none, .mov (.t 5), 0, 0, false, []⟩,
    ⟨some 84, none, .mov (.t 0), 0, 0, false, []⟩,
    ⟨some 85, none, .nilchk (.t 84), 0, 0, false, []⟩,
    ⟨some 86, none, .faddr 0 1 (.t 85), 0, 0, false, []⟩,
    ⟨some 87, none, .load false 1 (.t 86), 0, 0, false, []⟩,
    ⟨some 88, none, .len false (.t 87), 0, 0, false, []⟩,
    ⟨some 89, none, .bin .quo (.t 83) (.t 88), 0, 0, false, []⟩,
    ⟨some 90, none, .bin .mul (.t 89) (.k (.int .i64 53)), 0, 0, false, []⟩,
    ⟨some 91, none, .bin .add (.t 82) (.t 90), 0, 0, false, []⟩,
    ⟨some 6, none, .mov (.t 91), 0, 0, false, []⟩]
def D65x0 : List I := E65x0
theorem evD65x0 (run : Run) (e : Env) (h : Heap) : drawI run D65x0 e h = DrawS (evQ run E65x0 e h) run E65x0 e h := drawI_quiet run _ (by rfl) e h
/-- (*loop.example/tablehouse/spec.l20Rd).pick -/
def F65 : F := ⟨99, [(false, 4, 0, false)],
   .seq (.seg false [⟨some 4, none, .mov (.k (.int .i64 0)), 0, 0, false, []⟩])
   (.seq (.seg false [⟨some 7, none, .mov (.t 0), 0, 0, false, []⟩,
    ⟨some 8, none, .mov (.t 0), 0, 0, false, []⟩,
    ⟨some 9, none, .nilchk (.t 8), 0, 0, false, []⟩,
    ⟨some 10, none, .faddr 1 1 (.t 9), 0, 0, false, []⟩,
    ⟨some 11, none, .load false 1 (.t 10), 0, 0, false, []⟩,
    ⟨some 12, none, .bin .add (.t 11) (.k (.int .i64 1)), 0, 0, false, []⟩,
    ⟨some 13, none, .nilchk (.t 7), 0, 0, false, []⟩,
    ⟨some 14, none, .faddr 1 1 (.t 13), 0, 0, false, []⟩,
    ⟨none, none, .store 1 (.t 14) (.t 12), 0, 0, false, []⟩])
   (.cutTo [0, 1] (.seq (.seq (.seg false [⟨some 15, none, .mov (.t 1), 0, 0, false, []⟩,
    ⟨some 16, none, .bin .lss (.t 15) (.k (.int .i64 1)), 0, 0, false, []⟩,
    ⟨some 17, none, .mov (.t 16), 0, 0, false, []⟩,
    ⟨some 18, some (17, false), .mov (.t 0), 0, 0, false, []⟩,
    ⟨some 19, some (17, false), .nilchk (.t 18), 0, 0, false, []⟩,
    ⟨some 20, some (17, false), .faddr 0 1 (.t 19), 0, 0, false, []⟩,
    ⟨some 21, some (17, false), .load false 1 (.t 20), 0, 0, false, []⟩,
    ⟨some 22, some (17, false), .len false (.t 21), 0, 0, false, []⟩,
    ⟨some 23, some (17, false), .bin .eql (.t 22) (.k (.int .i64 0)), 0, 0, false, []⟩,
    ⟨some 24, none, .pick (.t 17) (.k (.bool true)) (.t 23), 0, 0, false, []⟩])
   (.cutTo [0, 1, 24] (.cond (.t 24) (.seq (.seg false [⟨some 4, none, .mov (.k (.int .i64 0)), 0, 0, false, []⟩])
   (.ret))
   (.skip))))
   (.cutTo [0, 1] (.seq (.seg false [⟨some 25, none, .mov (.t 0), 0, 0, false, []⟩,
    ⟨some 26, none, .nilchk (.t 25), 0, 0, false, []⟩,
    ⟨some 27, none, .faddr 1 1 (.t 26), 0, 0, false, []⟩,
    ⟨some 28, none, .load false 1 (.t 27), 0, 0, false, []⟩,
    ⟨some 29, none, .bin .sub (.t 28) (.k (.int .i64 1)), 0, 0, false, []⟩,
    ⟨some 5, none, .mov (.t 29), 0, 0, false, []⟩])
   (.cutTo [0, 1, 5] (.seq (.seq (.seg false [⟨some 30, none, .mov (.t 5), 0, 0, false, []⟩,
    ⟨some 31, none, .mov (.t 0), 0, 0, false, []⟩,
    ⟨some 32, none, .nilchk (.t 31), 0, 0, false, []⟩,
    ⟨some 33, none, .faddr 0 1 (.t 32), 0, 0, false, []⟩,
    ⟨some 34, none, .load false 1 (.t 33), 0, 0, false, []⟩,
    ⟨some 35, none, .len false (.t 34), 0, 0, false, []⟩,
    ⟨some 36, none, .bin .lss (.t 30) (.t 35), 0, 0, false, []⟩])
   (.cutTo [0, 1, 5, 36] (.cond (.t 36) (.seq (.seg false [⟨some 37, none, .mov (.t 0), 0, 0, false, []⟩,
    ⟨some 38, none, .nilchk (.t 37), 0, 0, false, []⟩,
    ⟨some 39, none, .faddr 0 1 (.t 38), 0, 0, false, []⟩,
    ⟨some 40, none, .load false 1 (.t 39), 0, 0, false, []⟩,
    ⟨some 41, none, .mov (.t 5), 0, 0, false, []⟩,
    ⟨some 42, none, .iaddr 1 (.t 40) (.t 41), 0, 0, false, []⟩,
    ⟨some 43, none, .load false 1 (.t 42), 0, 0, false, []⟩,
    ⟨some 44, none, .conv (.int .i64) (.t 43), 0, 0, false, []⟩,
    ⟨some 45, none, .mov (.t 1), 0, 0, false, []⟩,
    ⟨some 46, none, .bin .rem (.t 44) (.t 45), 0, 0, false, []⟩,
    ⟨some 4, none, .mov (.t 46), 0, 0, false, []⟩])
   (.cutTo [4] (.ret)))
   (.skip))))
   (.cutTo [0, 1, 5] (.seq (.seg true D65x0)
   (.cutTo [1, 6] (.seq (.seg false [⟨some 92, none, .mov (.t 6), 0, 0, false, []⟩,
    ⟨some 93, none, .mov (.t 6), 0, 0, false, []⟩,
    ⟨some 94, none, .bin .quo (.t 93) (.k (.int .i64 64)), 0, 0, false, []⟩,
    ⟨some 95, none, .bin .xor (.t 92) (.t 94), 0, 0, false, []⟩,
    ⟨some 6, none, .mov (.t 95), 0, 0, false, []⟩])
   (.cutTo [1, 6] (.seq (.seg false [⟨some 96, none, .mov (.t 6), 0, 0, false, []⟩,
    ⟨some 97, none, .mov (.t 1), 0, 0, false, []⟩,
    ⟨some 98, none, .bin .rem (.t 96) (.t 97), 0, 0, false, []⟩,
    ⟨some 4, none, .mov (.t 98), 0, 0, false, []⟩])
   (.cutTo [4] (.ret)))))))))))))))⟩
def E95x0 : List I := [⟨some 31, none, .load false 1 (.t 5), 0, 0, false, []⟩,
    ⟨some 32, none, .iaddr 1 (.t 31) (.k (.int .i64 0)), 0, 0, false, []⟩,
    ⟨some 33, none, .load false 1 (.t 32), 0, 0, false, []⟩,
    ⟨some 34, none, .load false 1 (.t 5), 0, 0, false, []⟩,
    ⟨some 35, none, .iaddr 1 (.t 34) (.k (.int .i64 1)), 0, 0, false, []⟩,
    ⟨some 36, none, .load false 1 (.t 35), 0, 0, false, []⟩,
    ⟨some 37, none, .bin .eql (.t 33) (.t 36), 0, 0, false, []⟩,
    ⟨some 6, none, .mov (.k (.int .i64 3)), 0, 0, false, []⟩,
    ⟨some 7, none, .mov (.t 37), 0, 0, false, []⟩]
def D95x0 : List I := E95x0
theorem evD95x0 (run : Run) (e : Env) (h : Heap) : drawI run D95x0 e h = DrawS (evQ run E95x0 e h) run E95x0 e h := drawI_quiet run _ (by rfl) e h
/-- (loop.example/tablehouse/impl.Part).kind -/
def F95 : F := ⟨42, [(false, 6, 0, false), (false, 7, 0, false)],
   .seq (.seg false [⟨some 3, none, .box (.t 0), 0, 0, false, []⟩,
    ⟨some 5, none, .box (.t 2), 0, 0, false, []⟩,
    ⟨some 6, none, .mov (.k (.int .i64 0)), 0, 0, false, []⟩,
    ⟨some 7, none, .mov (.k (.bool false)), 0, 0, false, []⟩])
   (.cutTo [1, 3, 5] (.seq (.seg false [⟨some 9, none, .mkclo 141 [.t 5], 0, 0, false, []⟩,
    ⟨some 8, none, .mov (.t 9), 0, 0, false, []⟩])
   (.seq (.seq (.seg false [⟨some 10, none, .faddr 0 1 (.t 3), 0, 0, false, []⟩,
    ⟨some 11, none, .load false 1 (.t 10), 0, 0, false, []⟩])
   (.block 0 (.seq (.seg false [⟨some 13, none, .bin .eql (.t 11) (.k (.int .i64 1)), 0, 0, false, []⟩,
    ⟨some 12, none, .mov (.t 13), 0, 0, false, []⟩])
   (.cond (.t 12) (.seq (.seg false [⟨some 14, none, .faddr 2 3 (.t 3), 0, 0, false, []⟩,
    ⟨some 15, none, .faddr 0 1 (.t 14), 0, 0, false, []⟩,
    ⟨some 16, none, .load false 1 (.t 15), 0, 0, false, []⟩,
    ⟨some 6, none, .mov (.t 16), 0, 0, false, []⟩,
    ⟨some 7, none, .mov (.k (.bool true)), 0, 0, false, []⟩])
   (.cutTo [6, 7] (.ret)))
   (.seq (.seg false [⟨some 18, none, .bin .eql (.t 11) (.k (.int .i64 2)), 0, 0, false, []⟩,
    ⟨some 17, none, .mov (.t 18), 0, 0, false, []⟩])
   (.cond (.t 17) (.seq (.seg false [⟨some 19, none, .mov (.t 1), 0, 0, false, []⟩,
    ⟨some 20, none, .faddr 1 1 (.t 3), 0, 0, false, []⟩,
    ⟨some 21, none, .load false 1 (.t 20), 0, 0, false, []⟩,
    ⟨some 22, none, .iaddr 2 (.t 19) (.t 21), 0, 0, false, []⟩,
    ⟨some 23, none, .faddr 0 1 (.t 22), 0, 0, false, []⟩,
    ⟨some 24, none, .load false 1 (.t 23), 0, 0, false, []⟩,
    ⟨some 6, none, .mov (.t 24), 0, 0, false, []⟩,
    ⟨some 7, none, .mov (.k (.bool true)), 0, 0, false, []⟩])
   (.cutTo [6, 7] (.ret)))
   (.seq (.seg false [⟨some 26, none, .bin .eql (.t 11) (.k (.int .i64 3)), 0, 0, false, []⟩,
    ⟨some 25, none, .mov (.t 26), 0, 0, false, []⟩])
   (.cond (.t 25) (.seq (.seg false [⟨some 27, none, .mov (.t 8), 0, 0, false, []⟩,
    ⟨some 28, none, .callv (.t 27) [.k (.int .i64 1)] false, 0, 0, false, []⟩,
    ⟨some 6, none, .mov (.k (.int .i64 1)), 0, 0, false, []⟩,
    ⟨some 7, none, .mov (.t 28), 0, 0, false, []⟩])
   (.cutTo [6, 7] (.ret)))
   (.seq (.seg false [⟨some 30, none, .bin .eql (.t 11) (.k (.int .i64 4)), 0, 0, false, []⟩,
    ⟨some 29, none, .mov (.t 30), 0, 0, false, []⟩])
   (.cond (.t 29) (.seq (.seg true D95x0)
   (.cutTo [6, 7] (.ret)))
   (.seq (.seg false [⟨some 39, none, .bin .eql (.t 11) (.k (.int .i64 8)), 0, 0, false, []⟩,
    ⟨some 38, none, .mov (.t 39), 0, 0, false, []⟩])
   (.cond (.t 38) (.seq (.seg false [⟨some 6, none, .mov (.k (.int .i64 3)), 0, 0, false, []⟩,
    ⟨some 7, none, .mov (.k (.bool true)), 0, 0, false, []⟩])
   (.ret))
   (.skip)))))))))))))
   (.cutTo [8] (.seq (.seg false [⟨some 40, none, .mov (.t 8), 0, 0, false, []⟩,
    ⟨some 41, none, .callv (.t 40) [.k (.int .i64 3)] false, 0, 0, false, []⟩,
    ⟨some 6, none, .mov (.k (.int .i64 3)), 0, 0, false, []⟩,
    ⟨some 7, none, .mov (.t 41), 0, 0, false, []⟩])
   (.cutTo [6, 7] (.ret)))))))⟩
/-- (loop.example/tablehouse/impl.Part).kind$1 -/
def F141 : F := ⟨8, [(false, 3, 0, false)],
   .seq (.seg false [⟨some 2, none, .box (.t 0), 0, 0, false, []⟩,
    ⟨some 3, none, .mov (.k (.bool false)), 0, 0, false, []⟩])
   (.seq (.seg false [⟨some 4, none, .load false 1 (.t 1), 0, 0, false, []⟩,
    ⟨some 5, none, .mkclo 142 [.t 2], 0, 0, false, []⟩,
    ⟨some 6, none, .call 66 [.t 4, .t 5] true false, 0, 0, false, []⟩,
    ⟨some 7, none, .un .not (.t 6), 0, 0, false, []⟩,
    ⟨some 3, none, .mov (.t 7), 0, 0, false, []⟩])
   (.cutTo [3] (.ret)))⟩
/-- (loop.example/tablehouse/impl.Part).kind$1$1 -/
def F142 : F := ⟨7, [(false, 3, 0, false)],
   .seq (.seg false [⟨some 3, none, .mov (.k (.bool false)), 0, 0, false, []⟩])
   (.seq (.seg false [⟨some 4, none, .mov (.t 0), 0, 0, false, []⟩,
    ⟨some 5, none, .load false 1 (.t 1), 0, 0, false, []⟩,
    ⟨some 6, none, .bin .neq (.t 4) (.t 5), 0, 0, false, []⟩,
    ⟨some 3, none, .mov (.t 6), 0, 0, false, []⟩])
   (.cutTo [3] (.ret)))⟩
/-- (loop.example/tablehouse/impl.Part).takes -/
def F89 : F := ⟨13, [(false, 2, 0, false)],
   .seq (.seg false [⟨some 1, none, .box (.t 0), 0, 0, false, []⟩,
    ⟨some 2, none, .mov (.k (.int .i64 0)), 0, 0, false, []⟩])
   (.seq (.seq (.seg false [⟨some 3, none, .faddr 0 1 (.t 1), 0, 0, false, []⟩,
    ⟨some 4, none, .load false 1 (.t 3), 0, 0, false, []⟩])
   (.block 0 (.seq (.seq (.seg false [⟨some 6, none, .bin .eql (.t 4) (.k (.int .i64 3)), 0, 0, false, []⟩,
    ⟨some 5, none, .mov (.t 6), 0, 0, false, []⟩])
   (.cond (.t 5) (.skip)
   (.seq (.seg false [⟨some 7, none, .bin .eql (.t 4) (.k (.int .i64 4)), 0, 0, false, []⟩,
    ⟨some 5, none, .mov (.t 7), 0, 0, false, []⟩])
   (.cond (.t 5) (.skip)
   (.seq (.seg false [⟨some 8, none, .bin .eql (.t 4) (.k (.int .i64 5)), 0, 0, false, []⟩,
    ⟨some 5, none, .mov (.t 8), 0, 0, false, []⟩])
   (.cond (.t 5) (.skip)
   (.seg false [⟨some 9, none, .bin .eql (.t 4) (.k (.int .i64 6)), 0, 0, false, []⟩,
    ⟨some 5, none, .mov (.t 9), 0, 0, false, []⟩])))))))
   (.cutTo [4, 5] (.cond (.t 5) (.seq (.seg false [⟨some 2, none, .mov (.k (.int .i64 2)), 0, 0, false, []⟩])
   (.ret))
   (.seq (.seq (.seg false [⟨some 11, none, .bin .eql (.t 4) (.k (.int .i64 7)), 0, 0, false, []⟩,
    ⟨some 10, none, .mov (.t 11), 0, 0, false, []⟩])
   (.cond (.t 10) (.skip)
   (.seg false [⟨some 12, none, .bin .eql (.t 4) (.k (.int .i64 8)), 0, 0, false, []⟩,
    ⟨some 10, none, .mov (.t 12), 0, 0, false, []⟩])))
   (.cutTo [10] (.cond (.t 10) (.seq (.seg false [⟨some 2, none, .mov (.k (.int .i64 1)), 0, 0, false, []⟩])
   (.ret))
   (.skip)))))))))
   (.cutTo [] (.seq (.seg false [⟨some 2, none, .mov (.k (.int .i64 0)), 0, 0, false, []⟩])
   (.ret))))⟩
/-- (loop.example/tablehouse/impl.Part).tells -/
def F94 : F := ⟨63, [(false, 4, 0, false)],
   .seq (.seg false [⟨some 2, none, .box (.t 0), 0, 0, false, []⟩,
    ⟨some 4, none, .mov (.k (.bool false)), 0, 0, false, []⟩])
   (.seq (.seq (.seg false [⟨some 5, none, .faddr 0 1 (.t 2), 0, 0, false, []⟩,
    ⟨some 6, none, .load false 1 (.t 5), 0, 0, false, []⟩])
   (.block 0 (.seq (.seg false [⟨some 8, none, .bin .eql (.t 6) (.k (.int .i64 1)), 0, 0, false, []⟩,
    ⟨some 7, none, .mov (.t 8), 0, 0, false, []⟩])
   (.cond (.t 7) (.seq (.seg false [⟨some 9, none, .faddr 1 1 (.t 2), 0, 0, false, []⟩,
    ⟨some 10, none, .load false 1 (.t 9), 0, 0, false, []⟩,
    ⟨some 11, none, .bin .eql (.t 10) (.k (.int .i64 0)), 0, 0, false, []⟩,
    ⟨some 12, none, .mov (.t 11), 0, 0, false, []⟩,
    ⟨some 13, some (12, true), .faddr 2 3 (.t 2), 0, 0, false, []⟩,
    ⟨some 14, some (12, true), .load true 3 (.t 13), 0, 0, false, []⟩,
    ⟨some 15, some (12, true), .call 128 [.t 14] false false, 0, 0, false, []⟩,
    ⟨some 16, none, .pick (.t 12) (.t 15) (.k (.bool false)), 0, 0, false, []⟩,
    ⟨some 17, none, .mov (.t 16), 0, 0, false, []⟩,
    ⟨some 18, some (17, true), .faddr 2 3 (.t 2), 0, 0, false, []⟩,
    ⟨some 19, some (17, true), .faddr 0 1 (.t 18), 0, 0, false, []⟩,
    ⟨some 20, some (17, true), .load false 1 (.t 19), 0, 0, false, []⟩,
    ⟨some 21, some (17, true), .bin .neq (.t 20) (.k (.int .i64 0)), 0, 0, false, []⟩,
    ⟨some 22, none, .pick (.t 17) (.t 21) (.k (.bool false)), 0, 0, false, []⟩,
    ⟨some 4, none, .mov (.t 22), 0, 0, false, []⟩])
   (.cutTo [4] (.ret)))
   (.seq (.seg false [⟨some 24, none, .bin .eql (.t 6) (.k (.int .i64 2)), 0, 0, false, []⟩,
    ⟨some 23, none, .mov (.t 24), 0, 0, false, []⟩])
   (.cond (.t 23) (.seq (.seg false [⟨some 25, none, .faddr 1 1 (.t 2), 0, 0, false, []⟩,
    ⟨some 26, none, .load false 1 (.t 25), 0, 0, false, []⟩,
    ⟨some 27, none, .mov (.t 1), 0, 0, false, []⟩,
    ⟨some 28, none, .len false (.t 27), 0, 0, false, []⟩,
    ⟨some 29, none, .bin .sub (.t 28) (.k (.int .i64 1)), 0, 0, false, []⟩,
    ⟨some 30, none, .call 68 [.t 26, .k (.int .i64 0), .t 29] false false, 0, 0, false, []⟩,
    ⟨some 31, none, .mov (.t 30), 0, 0, false, []⟩,
    ⟨some 32, some (31, true), .faddr 2 3 (.t 2), 0, 0, false, []⟩,
    ⟨some 33, some (31, true), .load true 3 (.t 32), 0, 0, false, []⟩,
    ⟨some 34, some (31, true), .build [.int .i64 0, .int .i64 0, .str ⟨#[]⟩] [], 0, 0, false, []⟩,
    ⟨some 35, some (31, true), .eqs false [.int, .int, .str] (.t 33) (.t 34), 0, 0, false, []⟩,
    ⟨some 36, none, .pick (.t 31) (.t 35) (.k (.bool false)), 0, 0, false, []⟩,
    ⟨some 4, none, .mov (.t 36), 0, 0, false, []⟩])
   (.cutTo [4] (.ret)))
   (.seq (.seg false [⟨some 38, none, .bin .eql (.t 6) (.k (.int .i64 4)), 0, 0, false, []⟩,
    ⟨some 37, none, .mov (.t 38), 0, 0, false, []⟩])
   (.cond (.t 37) (.seq (.seg false [⟨some 39, none, .faddr 1 1 (.t 2), 0, 0, false, []⟩,
    ⟨some 40, none, .load false 1 (.t 39), 0, 0, false, []⟩,
    ⟨some 41, none, .call 68 [.t 40, .k (.int .i64 1), .k (.int .i64 4)] false false, 0, 0, false, []⟩,
    ⟨some 42, none, .mov (.t 41), 0, 0, false, []⟩,
    ⟨some 43, some (42, true), .faddr 2 3 (.t 2), 0, 0, false, []⟩,
    ⟨some 44, some (42, true), .load true 3 (.t 43), 0, 0, false, []⟩,
    ⟨some 45, some (42, true), .build [.int .i64 0, .int .i64 0, .str ⟨#[]⟩] [], 0, 0, false, []⟩,
    ⟨some 46, some (42, true), .eqs false [.int, .int, .str] (.t 44) (.t 45), 0, 0, false, []⟩,
    ⟨some 47, none, .pick (.t 42) (.t 46) (.k (.bool false)), 0, 0, false, []⟩,
    ⟨some 4, none, .mov (.t 47), 0, 0, false, []⟩])
   (.cutTo [4] (.ret)))
   (.seq (.seq (.seg false [⟨some 49, none, .bin .eql (.t 6) (.k (.int .i64 3)), 0, 0, false, []⟩,
    ⟨some 48, none, .mov (.t 49), 0, 0, false, []⟩])
   (.cond (.t 48) (.skip)
   (.seq (.seg false [⟨some 50, none, .bin .eql (.t 6) (.k (.int .i64 5)), 0, 0, false, []⟩,
    ⟨some 48, none, .mov (.t 50), 0, 0, false, []⟩])
   (.cond (.t 48) (.skip)
   (.seq (.seg false [⟨some 51, none, .bin .eql (.t 6) (.k (.int .i64 6)), 0, 0, false, []⟩,
    ⟨some 48, none, .mov (.t 51), 0, 0, false, []⟩])
   (.cond (.t 48) (.skip)
   (.seq (.seg false [⟨some 52, none, .bin .eql (.t 6) (.k (.int .i64 7)), 0, 0, false, []⟩,
    ⟨some 48, none, .mov (.t 52), 0, 0, false, []⟩])
   (.cond (.t 48) (.skip)
   (.seg false [⟨some 53, none, .bin .eql (.t 6) (.k (.int .i64 8)), 0, 0, false, []⟩,
    ⟨some 48, none, .mov (.t 53), 0, 0, false, []⟩])))))))))
   (.cutTo [2, 48] (.cond (.t 48) (.seq (.seg false [⟨some 54, none, .faddr 1 1 (.t 2), 0, 0, false, []⟩,
    ⟨some 55, none, .load false 1 (.t 54), 0, 0, false, []⟩,
    ⟨some 56, none, .bin .eql (.t 55) (.k (.int .i64 0)), 0, 0, false, []⟩,
    ⟨some 57, none, .mov (.t 56), 0, 0, false, []⟩,
    ⟨some 58, some (57, true), .faddr 2 3 (.t 2), 0, 0, false, []⟩,
    ⟨some 59, some (57, true), .load true 3 (.t 58), 0, 0, false, []⟩,
    ⟨some 60, some (57, true), .build [.int .i64 0, .int .i64 0, .str ⟨#[]⟩] [], 0, 0, false, []⟩,
    ⟨some 61, some (57, true), .eqs false [.int, .int, .str] (.t 59) (.t 60), 0, 0, false, []⟩,
    ⟨some 62, none, .pick (.t 57) (.t 61) (.k (.bool false)), 0, 0, false, []⟩,
    ⟨some 4, none, .mov (.t 62), 0, 0, false, []⟩])
   (.cutTo [4] (.ret)))
   (.skip))))))))))))
   (.cutTo [] (.seq (.seg false [⟨some 4, none, .mov (.k (.bool false)), 0, 0, false, []⟩])
   (.ret))))⟩
/-- (loop.example/tablehouse/impl.Value).ok -/
def F128 : F := ⟨46, [(false, 2, 0, false)],
   .seq (.seg false [⟨some 1, none, .box (.t 0), 0, 0, false, []⟩,
    ⟨some 2, none, .mov (.k (.bool false)), 0, 0, false, []⟩])
   (.seq (.seq (.seg false [⟨some 3, none, .faddr 0 1 (.t 1), 0, 0, false, []⟩,
    ⟨some 4, none, .load false 1 (.t 3), 0, 0, false, []⟩])
   (.block 0 (.seq (.seg false [⟨some 6, none, .bin .eql (.t 4) (.k (.int .i64 0)), 0, 0, false, []⟩,
    ⟨some 5, none, .mov (.t 6), 0, 0, false, []⟩])
   (.cond (.t 5) (.seq (.seg false [⟨some 7, none, .load true 3 (.t 1), 0, 0, false, []⟩,
    ⟨some 8, none, .build [.int .i64 0, .int .i64 0, .str ⟨#[]⟩] [], 0, 0, false, []⟩,
    ⟨some 9, none, .eqs false [.int, .int, .str] (.t 7) (.t 8), 0, 0, false, []⟩,
    ⟨some 2, none, .mov (.t 9), 0, 0, false, []⟩])
   (.cutTo [2] (.ret)))
   (.seq (.seg false [⟨some 11, none, .bin .eql (.t 4) (.k (.int .i64 1)), 0, 0, false, []⟩,
    ⟨some 10, none, .mov (.t 11), 0, 0, false, []⟩])
   (.cond (.t 10) (.seq (.seg false [⟨some 12, none, .faddr 2 1 (.t 1), 0, 0, false, []⟩,
    ⟨some 13, none, .load false 1 (.t 12), 0, 0, false, []⟩,
    ⟨some 14, none, .bin .eql (.t 13) (.k (.str ⟨#[]⟩)), 0, 0, false, []⟩,
    ⟨some 15, none, .mov (.t 14), 0, 0, false, []⟩,
    ⟨some 16, some (15, true), .faddr 1 1 (.t 1), 0, 0, false, []⟩,
    ⟨some 17, some (15, true), .load false 1 (.t 16), 0, 0, false, []⟩,
    ⟨some 18, some (15, true), .call 68 [.t 17, .k (.int .i64 (-9999)), .k (.int .i64 9999)] false false, 0, 0, false, []⟩,
    ⟨some 19, none, .pick (.t 15) (.t 18) (.k (.bool false)), 0, 0, false, []⟩,
    ⟨some 2, none, .mov (.t 19), 0, 0, false, []⟩])
   (.cutTo [2] (.ret)))
   (.seq (.seg false [⟨some 21, none, .bin .eql (.t 4) (.k (.int .i64 2)), 0, 0, false, []⟩,
    ⟨some 20, none, .mov (.t 21), 0, 0, false, []⟩])
   (.cond (.t 20) (.seq (.seg false [⟨some 22, none, .faddr 1 1 (.t 1), 0, 0, false, []⟩,
    ⟨some 23, none, .load false 1 (.t 22), 0, 0, false, []⟩,
    ⟨some 24, none, .bin .eql (.t 23) (.k (.int .i64 0)), 0, 0, false, []⟩,
    ⟨some 25, none, .mov (.t 24), 0, 0, false, []⟩,
    ⟨some 26, some (25, true), .faddr 2 1 (.t 1), 0, 0, false, []⟩,
    ⟨some 27, some (25, true), .load false 1 (.t 26), 0, 0, false, []⟩,
    ⟨some 28, some (25, true), .len true (.t 27), 0, 0, false, []⟩,
    ⟨some 29, some (25, true), .bin .leq (.t 28) (.k (.int .i64 6)), 0, 0, false, []⟩,
    ⟨some 30, none, .pick (.t 25) (.t 29) (.k (.bool false)), 0, 0, false, []⟩,
    ⟨some 31, none, .mov (.t 30), 0, 0, false, []⟩,
    ⟨some 32, some (31, true), .faddr 2 1 (.t 1), 0, 0, false, []⟩,
    ⟨some 33, some (31, true), .load false 1 (.t 32), 0, 0, false, []⟩,
    ⟨some 34, some (31, true), .call 158 [.t 33] false false, 0, 0, false, []⟩,
    ⟨some 35, none, .pick (.t 31) (.t 34) (.k (.bool false)), 0, 0, false, []⟩,
    ⟨some 2, none, .mov (.t 35), 0, 0, false, []⟩])
   (.cutTo [2] (.ret)))
   (.seq (.seg false [⟨some 37, none, .bin .eql (.t 4) (.k (.int .i64 3)), 0, 0, false, []⟩,
    ⟨some 36, none, .mov (.t 37), 0, 0, false, []⟩])
   (.cond (.t 36) (.seq (.seg false [⟨some 38, none, .faddr 2 1 (.t 1), 0, 0, false, []⟩,
    ⟨some 39, none, .load false 1 (.t 38), 0, 0, false, []⟩,
    ⟨some 40, none, .bin .eql (.t 39) (.k (.str ⟨#[]⟩)), 0, 0, false, []⟩,
    ⟨some 41, none, .mov (.t 40), 0, 0, false, []⟩,
    ⟨some 42, some (41, true), .faddr 1 1 (.t 1), 0, 0, false, []⟩,
    ⟨some 43, some (41, true), .load false 1 (.t 42), 0, 0, false, []⟩,
    ⟨some 44, some (41, true), .call 68 [.t 43, .k (.int .i64 0), .k (.int .i64 1)] false false, 0, 0, false, []⟩,
    ⟨some 45, none, .pick (.t 41) (.t 44) (.k (.bool false)), 0, 0, false, []⟩,
    ⟨some 2, none, .mov (.t 45), 0, 0, false, []⟩])
   (.cutTo [2] (.ret)))
   (.skip)))))))))))
   (.cutTo [] (.seq (.seg false [⟨some 2, none, .mov (.k (.bool false)), 0, 0, false, []⟩])
   (.ret))))⟩
def E172x0 : List I := [⟨some 5, none, .faddr 0 1 (.t 2), 0, 0, false, []⟩,
    ⟨some 6, none, .load false 1 (.t 5), 0, 0, false, []⟩,
    ⟨some 7, none, .faddr 0 1 (.t 3), 0, 0, false, []⟩,
    ⟨some 8, none, .load false 1 (.t 7), 0, 0, false, []⟩,
    ⟨some 9, none, .call 178 [.t 6, .t 8] false false, 0, 0, false, []⟩,
    ⟨some 10, none, .faddr 1 1 (.t 2), 0, 0, false, []⟩,
    ⟨some 11, none, .load false 1 (.t 10), 0, 0, false, []⟩,
    ⟨some 12, none, .faddr 1 1 (.t 3), 0, 0, false, []⟩,
    ⟨some 13, none, .load false 1 (.t 12), 0, 0, false, []⟩,
    ⟨some 14, none, .call 178 [.t 11, .t 13] false false, 0, 0, false, []⟩,
    ⟨some 15, none, .faddr 2 1 (.t 2), 0, 0, false, []⟩,
    ⟨some 16, none, .load false 1 (.t 15), 0, 0, false, []⟩,
    ⟨some 17, none, .faddr 2 1 (.t 3), 0, 0, false, []⟩,
    ⟨some 18, none, .load false 1 (.t 17), 0, 0, false, []⟩,
    ⟨some 19, none, .call 179 [.t 16, .t 18] false false, 0, 0, false, []⟩,
    ⟨some 20, none, .mksl false 1 [.t 9, .t 14, .t 19], 0, 0, false, []⟩,
    ⟨some 21, none, .call 177 [.t 20] false false, 0, 0, false, []⟩,
    ⟨some 4, none, .mov (.t 21), 0, 0, false, []⟩]
def D172x0 : List I := E172x0
theorem evD172x0 (run : Run) (e : Env) (h : Heap) : drawI run D172x0 e h = DrawS (evQ run E172x0 e h) run E172x0 e h := drawI_quiet run _ (by rfl) e h
/-- (loop.example/tablehouse/impl.Value).order -/
def F172 : F := ⟨22, [(false, 4, 0, false)],
   .seq (.seg false [⟨some 2, none, .box (.t 0), 0, 0, false, []⟩,
    ⟨some 3, none, .box (.t 1), 0, 0, false, []⟩,
    ⟨some 4, none, .mov (.k (.int .i64 0)), 0, 0, false, []⟩])
   (.seq (.seg true D172x0)
   (.cutTo [4] (.ret)))⟩
/-- loop.example/tablehouse/impl.ColumnsOk -/
def F71 : F := ⟨11, [(false, 2, 0, false)],
   .seq (.seg false [⟨some 2, none, .mov (.k (.bool false)), 0, 0, false, []⟩])
   (.seq (.seg false [⟨some 3, none, .mov (.t 0), 0, 0, false, []⟩,
    ⟨some 4, none, .len false (.t 3), 0, 0, false, []⟩,
    ⟨some 5, none, .bin .leq (.t 4) (.k (.int .i64 4)), 0, 0, false, []⟩,
    ⟨some 6, none, .mov (.t 5), 0, 0, false, []⟩,
    ⟨some 7, some (6, true), .mov (.t 0), 0, 0, false, []⟩,
    ⟨some 8, some (6, true), .call 124 [.t 7, .k (.clo 125 [])] true false, 0, 0, false, []⟩,
    ⟨some 9, some (6, true), .un .not (.t 8), 0, 0, false, []⟩,
    ⟨some 10, none, .pick (.t 6) (.t 9) (.k (.bool false)), 0, 0, false, []⟩,
    ⟨some 2, none, .mov (.t 10), 0, 0, false, []⟩])
   (.cutTo [2] (.ret)))⟩
/-- loop.example/tablehouse/impl.ColumnsOk$1 -/
def F125 : F := ⟨7, [(false, 2, 0, false)],
   .seq (.seg false [⟨some 1, none, .box (.t 0), 0, 0, false, []⟩,
    ⟨some 2, none, .mov (.k (.bool false)), 0, 0, false, []⟩])
   (.seq (.seg false [⟨some 3, none, .faddr 0 1 (.t 1), 0, 0, false, []⟩,
    ⟨some 4, none, .load false 1 (.t 3), 0, 0, false, []⟩,
    ⟨some 5, none, .call 68 [.t 4, .k (.int .i64 1), .k (.int .i64 3)] false false, 0, 0, false, []⟩,
    ⟨some 6, none, .un .not (.t 5), 0, 0, false, []⟩,
    ⟨some 2, none, .mov (.t 6), 0, 0, false, []⟩])
   (.cutTo [2] (.ret)))⟩
/-- loop.example/tablehouse/impl.InRows -/
def F52 : F := ⟨24, [(false, 12, 0, false)],
   .seq (.seg false [⟨some 9, none, .box (.t 3), 0, 0, false, []⟩,
    ⟨some 10, none, .box (.t 4), 0, 0, false, []⟩,
    ⟨some 11, none, .box (.t 5), 0, 0, false, []⟩,
    ⟨some 12, none, .mov (.k (.sl true 1 [])), 0, 0, false, []⟩])
   (.cutTo [0, 1, 2, 9, 10, 11] (.seq (.seq (.seg false [⟨some 13, none, .mov (.t 0), 0, 0, false, []⟩,
    ⟨some 14, none, .mov (.t 1), 0, 0, false, []⟩,
    ⟨some 15, none, .mov (.t 2), 0, 0, false, []⟩,
    ⟨some 16, none, .load false 1 (.t 9), 0, 0, false, []⟩,
    ⟨some 17, none, .load false 1 (.t 10), 0, 0, false, []⟩,
    ⟨some 18, none, .load false 1 (.t 11), 0, 0, false, []⟩,
    ⟨some 19, none, .call 99 [.t 13, .t 14, .t 15, .t 16, .t 17, .t 18] false false, 0, 0, false, []⟩,
    ⟨some 20, none, .un .not (.t 19), 0, 0, false, []⟩])
   (.cutTo [2, 9, 10, 11, 20] (.cond (.t 20) (.seq (.seg false [⟨some 12, none, .mov (.k (.sl true 1 [])), 0, 0, false, []⟩])
   (.ret))
   (.skip))))
   (.cutTo [2, 9, 10, 11] (.seq (.seg false [⟨some 21, none, .mov (.t 2), 0, 0, false, []⟩,
    ⟨some 22, none, .mkclo 112 [.t 10, .t 9, .t 11], 0, 0, false, []⟩,
    ⟨some 23, none, .callx 2 100 [.t 21, .t 22], 0, 0, false, []⟩,
    ⟨some 12, none, .mov (.t 23), 0, 0, false, []⟩])
   (.cutTo [12] (.ret))))))⟩
def E112x0 : List I := [⟨some 6, none, .mov (.t 0), 0, 0, false, []⟩,
    ⟨some 7, none, .load false 1 (.t 1), 0, 0, false, []⟩,
    ⟨some 8, none, .iaddr 3 (.t 6) (.t 7), 0, 0, false, []⟩,
    ⟨some 9, none, .load true 3 (.t 8), 0, 0, false, []⟩,
    ⟨some 10, none, .load false 1 (.t 2), 0, 0, false, []⟩,
    ⟨some 11, none, .load false 1 (.t 3), 0, 0, false, []⟩,
    ⟨some 12, none, .call 103 [.t 10, .t 11] false false, 0, 0, false, []⟩,
    ⟨some 13, none, .call 102 [.t 9, .t 12] false false, 0, 0, false, []⟩,
    ⟨some 14, none, .bin .eql (.t 13) (.k (.int .i64 1)), 0, 0, false, []⟩,
    ⟨some 5, none, .mov (.t 14), 0, 0, false, []⟩]
def D112x0 : List I := E112x0
theorem evD112x0 (run : Run) (e : Env) (h : Heap) : drawI run D112x0 e h = DrawS (evQ run E112x0 e h) run E112x0 e h := drawI_quiet run _ (by rfl) e h
/-- loop.example/tablehouse/impl.InRows$1 -/
def F112 : F := ⟨15, [(false, 5, 0, false)],
   .seq (.seg false [⟨some 5, none, .mov (.k (.bool false)), 0, 0, false, []⟩])
   (.seq (.seg true D112x0)
   (.cutTo [5] (.ret)))⟩
/-- loop.example/tablehouse/impl.InTruth -/
def F102 : F := ⟨34, [(false, 4, 0, false)],
   .seq (.seg false [⟨some 2, none, .box (.t 0), 0, 0, false, []⟩,
    ⟨some 4, none, .mov (.k (.int .i64 0)), 0, 0, false, []⟩])
   (.seq (.seq (.seg false [⟨some 5, none, .load true 3 (.t 2), 0, 0, false, []⟩,
    ⟨some 6, none, .call 128 [.t 5] false false, 0, 0, false, []⟩,
    ⟨some 7, none, .un .not (.t 6), 0, 0, false, []⟩,
    ⟨some 8, none, .mov (.t 7), 0, 0, false, []⟩,
    ⟨some 9, some (8, false), .mov (.t 1), 0, 0, false, []⟩,
    ⟨some 10, some (8, false), .len false (.t 9), 0, 0, false, []⟩,
    ⟨some 11, some (8, false), .bin .gtr (.t 10) (.k (.int .i64 30)), 0, 0, false, []⟩,
    ⟨some 12, none, .pick (.t 8) (.k (.bool true)) (.t 11), 0, 0, false, []⟩,
    ⟨some 13, none, .mov (.t 12), 0, 0, false, []⟩,
    ⟨some 14, some (13, false), .mov (.t 1), 0, 0, false, []⟩,
    ⟨some 15, some (13, false), .mkclo 145 [.t 2], 0, 0, false, []⟩,
    ⟨some 16, some (13, false), .call 126 [.t 14, .t 15] true false, 0, 0, false, []⟩,
    ⟨some 17, none, .pick (.t 13) (.k (.bool true)) (.t 16), 0, 0, false, []⟩])
   (.cutTo [1, 2, 17] (.cond (.t 17) (.seq (.seg false [⟨some 4, none, .mov (.k (.int .i64 2)), 0, 0, false, []⟩])
   (.ret))
   (.skip))))
   (.cutTo [1, 2] (.seq (.block 0 (.seq (.seg false [⟨some 19, none, .mov (.t 1), 0, 0, false, []⟩,
    ⟨some 20, none, .len false (.t 19), 0, 0, false, []⟩,
    ⟨some 21, none, .bin .eql (.t 20) (.k (.int .i64 0)), 0, 0, false, []⟩,
    ⟨some 18, none, .mov (.t 21), 0, 0, false, []⟩])
   (.cutTo [1, 2, 18] (.cond (.t 18) (.seq (.seg false [⟨some 4, none, .mov (.k (.int .i64 0)), 0, 0, false, []⟩])
   (.ret))
   (.seq (.seg false [⟨some 23, none, .faddr 0 1 (.t 2), 0, 0, false, []⟩,
    ⟨some 24, none, .load false 1 (.t 23), 0, 0, false, []⟩,
    ⟨some 25, none, .bin .eql (.t 24) (.k (.int .i64 0)), 0, 0, false, []⟩,
    ⟨some 22, none, .mov (.t 25), 0, 0, false, []⟩])
   (.cutTo [1, 2, 22] (.cond (.t 22) (.seq (.seg false [⟨some 4, none, .mov (.k (.int .i64 2)), 0, 0, false, []⟩])
   (.ret))
   (.seq (.seg false [⟨some 27, none, .mov (.t 1), 0, 0, false, []⟩,
    ⟨some 28, none, .load true 3 (.t 2), 0, 0, false, []⟩,
    ⟨some 29, none, .call 146 [.t 27, .t 28] false false, 0, 0, false, []⟩,
    ⟨some 26, none, .mov (.t 29), 0, 0, false, []⟩])
   (.cutTo [1, 26] (.cond (.t 26) (.seq (.seg false [⟨some 4, none, .mov (.k (.int .i64 1)), 0, 0, false, []⟩])
   (.ret))
   (.seq (.seg false [⟨some 31, none, .mov (.t 1), 0, 0, false, []⟩,
    ⟨some 32, none, .build [.int .i64 0, .int .i64 0, .str ⟨#[]⟩] [], 0, 0, false, []⟩,
    ⟨some 33, none, .call 146 [.t 31, .t 32] false false, 0, 0, false, []⟩,
    ⟨some 30, none, .mov (.t 33), 0, 0, false, []⟩])
   (.cutTo [30] (.cond (.t 30) (.seq (.seg false [⟨some 4, none, .mov (.k (.int .i64 2)), 0, 0, false, []⟩])
   (.ret))
   (.skip))))))))))))))
   (.cutTo [] (.seq (.seg false [⟨some 4, none, .mov (.k (.int .i64 0)), 0, 0, false, []⟩])
   (.ret))))))⟩
/-- loop.example/tablehouse/impl.InTruth$1 -/
def F145 : F := ⟨19, [(false, 3, 0, false)],
   .seq (.seg false [⟨some 2, none, .box (.t 0), 0, 0, false, []⟩,
    ⟨some 3, none, .mov (.k (.bool false)), 0, 0, false, []⟩])
   (.seq (.seg false [⟨some 4, none, .load true 3 (.t 2), 0, 0, false, []⟩,
    ⟨some 5, none, .call 128 [.t 4] false false, 0, 0, false, []⟩,
    ⟨some 6, none, .un .not (.t 5), 0, 0, false, []⟩,
    ⟨some 7, none, .mov (.t 6), 0, 0, false, []⟩,
    ⟨some 8, some (7, false), .faddr 0 1 (.t 2), 0, 0, false, []⟩,
    ⟨some 9, some (7, false), .load false 1 (.t 8), 0, 0, false, []⟩,
    ⟨some 10, some (7, false), .faddr 0 1 (.t 1), 0, 0, false, []⟩,
    ⟨some 11, some (7, false), .load false 1 (.t 10), 0, 0, false, []⟩,
    ⟨some 12, some (7, false), .bin .neq (.t 9) (.t 11), 0, 0, false, []⟩,
    ⟨some 13, some (7, false), .mov (.t 12), 0, 0, false, []⟩,
    ⟨some 14, some (13, true), .faddr 0 1 (.t 2), 0, 0, false, []⟩,
    ⟨some 15, some (13, true), .load false 1 (.t 14), 0, 0, false, []⟩,
    ⟨some 16, some (13, true), .bin .neq (.t 15) (.k (.int .i64 0)), 0, 0, false, []⟩,
    ⟨some 17, some (7, false), .pick (.t 13) (.t 16) (.k (.bool false)), 0, 0, false, []⟩,
    ⟨some 18, none, .pick (.t 7) (.k (.bool true)) (.t 17), 0, 0, false, []⟩,
    ⟨some 3, none, .mov (.t 18), 0, 0, false, []⟩])
   (.cutTo [3] (.ret)))⟩
/-- loop.example/tablehouse/impl.NotInRows -/
def F48 : F := ⟨24, [(false, 12, 0, false)],
   .seq (.seg false [⟨some 9, none, .box (.t 3), 0, 0, false, []⟩,
    ⟨some 10, none, .box (.t 4), 0, 0, false, []⟩,
    ⟨some 11, none, .box (.t 5), 0, 0, false, []⟩,
    ⟨some 12, none, .mov (.k (.sl true 1 [])), 0, 0, false, []⟩])
   (.cutTo [0, 1, 2, 9, 10, 11] (.seq (.seq (.seg false [⟨some 13, none, .mov (.t 0), 0, 0, false, []⟩,
    ⟨some 14, none, .mov (.t 1), 0, 0, false, []⟩,
    ⟨some 15, none, .mov (.t 2), 0, 0, false, []⟩,
    ⟨some 16, none, .load false 1 (.t 9), 0, 0, false, []⟩,
    ⟨some 17, none, .load false 1 (.t 10), 0, 0, false, []⟩,
    ⟨some 18, none, .load false 1 (.t 11), 0, 0, false, []⟩,
    ⟨some 19, none, .call 99 [.t 13, .t 14, .t 15, .t 16, .t 17, .t 18] false false, 0, 0, false, []⟩,
    ⟨some 20, none, .un .not (.t 19), 0, 0, false, []⟩])
   (.cutTo [2, 9, 10, 11, 20] (.cond (.t 20) (.seq (.seg false [⟨some 12, none, .mov (.k (.sl true 1 [])), 0, 0, false, []⟩])
   (.ret))
   (.skip))))
   (.cutTo [2, 9, 10, 11] (.seq (.seg false [⟨some 21, none, .mov (.t 2), 0, 0, false, []⟩,
    ⟨some 22, none, .mkclo 101 [.t 10, .t 9, .t 11], 0, 0, false, []⟩,
    ⟨some 23, none, .callx 2 100 [.t 21, .t 22], 0, 0, false, []⟩,
    ⟨some 12, none, .mov (.t 23), 0, 0, false, []⟩])
   (.cutTo [12] (.ret))))))⟩
def E101x0 : List I := [⟨some 6, none, .mov (.t 0), 0, 0, false, []⟩,
    ⟨some 7, none, .load false 1 (.t 1), 0, 0, false, []⟩,
    ⟨some 8, none, .iaddr 3 (.t 6) (.t 7), 0, 0, false, []⟩,
    ⟨some 9, none, .load true 3 (.t 8), 0, 0, false, []⟩,
    ⟨some 10, none, .load false 1 (.t 2), 0, 0, false, []⟩,
    ⟨some 11, none, .load false 1 (.t 3), 0, 0, false, []⟩,
    ⟨some 12, none, .call 103 [.t 10, .t 11] false false, 0, 0, false, []⟩,
    ⟨some 13, none, .call 102 [.t 9, .t 12] false false, 0, 0, false, []⟩,
    ⟨some 14, none, .bin .eql (.t 13) (.k (.int .i64 0)), 0, 0, false, []⟩,
    ⟨some 5, none, .mov (.t 14), 0, 0, false, []⟩]
def D101x0 : List I := E101x0
theorem evD101x0 (run : Run) (e : Env) (h : Heap) : drawI run D101x0 e h = DrawS (evQ run E101x0 e h) run E101x0 e h := drawI_quiet run _ (by rfl) e h
/-- loop.example/tablehouse/impl.NotInRows$1 -/
def F101 : F := ⟨15, [(false, 5, 0, false)],
   .seq (.seg false [⟨some 5, none, .mov (.k (.bool false)), 0, 0, false, []⟩])
   (.seq (.seg true D101x0)
   (.cutTo [5] (.ret)))⟩
def E19x0 : List I := [⟨some 29, none, .faddr 0 1 (.t 6), 0, 0, false, []⟩,
    ⟨some 30, none, .load false 1 (.t 29), 0, 0, false, []⟩,
    ⟨some 31, none, .mov (.t 0), 0, 0, false, []⟩,
    ⟨some 32, none, .mov (.t 5), 0, 0, false, []⟩,
    ⟨some 33, none, .iaddr 2 (.t 31) (.t 32), 0, 0, false, []⟩,
    ⟨some 34, none, .faddr 0 1 (.t 33), 0, 0, false, []⟩,
    ⟨some 35, none, .load false 1 (.t 34), 0, 0, false, []⟩,
    ⟨some 36, none, .bin .neq (.t 30) (.t 35), 0, 0, false, []⟩,
    ⟨some 37, none, .mov (.t 36), 0, 0, false, []⟩,
    ⟨some 38, some (37, true), .faddr 0 1 (.t 6), 0, 0, false, []⟩,
    ⟨some 39, some (37, true), .load false 1 (.t 38), 0, 0, false, []⟩,
    ⟨some 40, some (37, true), .bin .neq (.t 39) (.k (.int .i64 0)), 0, 0, false, []⟩,
    ⟨some 41, some (37, true), .mov (.t 40), 0, 0, false, []⟩,
    ⟨some 42, some (41, false), .mov (.t 0), 0, 0, false, []⟩,
    ⟨some 43, some (41, false), .mov (.t 5), 0, 0, false, []⟩,
    ⟨some 44, some (41, false), .iaddr 2 (.t 42) (.t 43), 0, 0, false, []⟩,
    ⟨some 45, some (41, false), .faddr 1 1 (.t 44), 0, 0, false, []⟩,
    ⟨some 46, some (41, false), .load false 1 (.t 45), 0, 0, false, []⟩,
    ⟨some 47, some (41, false), .un .not (.t 46), 0, 0, false, []⟩,
    ⟨some 48, some (37, true), .pick (.t 41) (.k (.bool true)) (.t 47), 0, 0, false, []⟩,
    ⟨some 49, none, .pick (.t 37) (.t 48) (.k (.bool false)), 0, 0, false, []⟩]
def D19x0 : List I := E19x0
theorem evD19x0 (run : Run) (e : Env) (h : Heap) : drawI run D19x0 e h = DrawS (evQ run E19x0 e h) run E19x0 e h := drawI_quiet run _ (by rfl) e h
def B19x0 : C := .seq (.seg false [⟨some 25, none, .bin .lss (.t 24) (.t 23), 0, 0, false, []⟩])
   (.seq (.cond (.t 25) (.skip)
   (.exit 0))
   (.seq (.block 1 (.seq (.seg false [⟨some 26, none, .mov (.t 24), 0, 0, false, []⟩,
    ⟨some 27, none, .iaddr 3 (.t 22) (.t 24), 0, 0, false, []⟩,
    ⟨some 28, none, .load true 3 (.t 27), 0, 0, false, []⟩,
    ⟨some 6, none, .alloc [.int .i64 0, .int .i64 0, .str ⟨#[]⟩], 0, 0, false, []⟩,
    ⟨some 5, none, .mov (.t 26), 0, 0, false, []⟩,
    ⟨none, none, .store 3 (.t 6) (.t 28), 0, 0, false, []⟩])
   (.cutTo [0, 5, 6, 22, 23, 24] (.seq (.seg true D19x0)
   (.cutTo [0, 22, 23, 24, 49] (.cond (.t 49) (.seq (.seg false [⟨some 4, none, .mov (.k (.bool false)), 0, 0, false, []⟩])
   (.ret))
   (.skip)))))))
   (.cutTo [0, 22, 23, 24] (.seg false [⟨some 50, none, .bin .add (.t 24) (.k (.int .i64 1)), 0, 0, false, []⟩,
    ⟨some 24, none, .mov (.t 50), 0, 0, false, []⟩]))))
def L19x0 : C := B19x0
theorem evL19x0 (run : Run) (draw : List I → Env → Heap → Option (Env × Heap)) (e : Env) (h : Heap) : evC run draw L19x0 e h = evC run draw B19x0 e h := rfl
/-- loop.example/tablehouse/impl.RowFits -/
def F19 : F := ⟨51, [(false, 4, 0, false)],
   .seq (.seg false [⟨some 4, none, .mov (.k (.bool false)), 0, 0, false, []⟩])
   (.seq (.seq (.seg false [⟨some 7, none, .mov (.t 0), 0, 0, false, []⟩,
    ⟨some 8, none, .call 71 [.t 7] false false, 0, 0, false, []⟩,
    ⟨some 9, none, .un .not (.t 8), 0, 0, false, []⟩,
    ⟨some 10, none, .mov (.t 9), 0, 0, false, []⟩,
    ⟨some 11, some (10, false), .mov (.t 1), 0, 0, false, []⟩,
    ⟨some 12, some (10, false), .call 72 [.t 11] false false, 0, 0, false, []⟩,
    ⟨some 13, some (10, false), .un .not (.t 12), 0, 0, false, []⟩,
    ⟨some 14, none, .pick (.t 10) (.k (.bool true)) (.t 13), 0, 0, false, []⟩,
    ⟨some 15, none, .mov (.t 14), 0, 0, false, []⟩,
    ⟨some 16, some (15, false), .mov (.t 1), 0, 0, false, []⟩,
    ⟨some 17, some (15, false), .len false (.t 16), 0, 0, false, []⟩,
    ⟨some 18, some (15, false), .mov (.t 0), 0, 0, false, []⟩,
    ⟨some 19, some (15, false), .len false (.t 18), 0, 0, false, []⟩,
    ⟨some 20, some (15, false), .bin .neq (.t 17) (.t 19), 0, 0, false, []⟩,
    ⟨some 21, none, .pick (.t 15) (.k (.bool true)) (.t 20), 0, 0, false, []⟩])
   (.cutTo [0, 1, 21] (.cond (.t 21) (.seq (.seg false [⟨some 4, none, .mov (.k (.bool false)), 0, 0, false, []⟩])
   (.ret))
   (.skip))))
   (.cutTo [0, 1] (.seq (.seq (.seg false [⟨some 22, none, .mov (.t 1), 0, 0, false, []⟩,
    ⟨some 23, none, .len false (.t 22), 0, 0, false, []⟩,
    ⟨some 24, none, .mov (.k (.int .i64 0)), 0, 0, false, []⟩])
   (.block 0 (.loop [0, 22, 23, 24] [4] L19x0)))
   (.seq (.seg false [⟨some 4, none, .mov (.k (.bool true)), 0, 0, false, []⟩])
   (.ret)))))⟩
/-- loop.example/tablehouse/impl.RowOk -/
def F72 : F := ⟨11, [(false, 2, 0, false)],
   .seq (.seg false [⟨some 2, none, .mov (.k (.bool false)), 0, 0, false, []⟩])
   (.seq (.seg false [⟨some 3, none, .mov (.t 0), 0, 0, false, []⟩,
    ⟨some 4, none, .len false (.t 3), 0, 0, false, []⟩,
    ⟨some 5, none, .bin .leq (.t 4) (.k (.int .i64 4)), 0, 0, false, []⟩,
    ⟨some 6, none, .mov (.t 5), 0, 0, false, []⟩,
    ⟨some 7, some (6, true), .mov (.t 0), 0, 0, false, []⟩,
    ⟨some 8, some (6, true), .call 126 [.t 7, .k (.clo 127 [])] true false, 0, 0, false, []⟩,
    ⟨some 9, some (6, true), .un .not (.t 8), 0, 0, false, []⟩,
    ⟨some 10, none, .pick (.t 6) (.t 9) (.k (.bool false)), 0, 0, false, []⟩,
    ⟨some 2, none, .mov (.t 10), 0, 0, false, []⟩])
   (.cutTo [2] (.ret)))⟩
/-- loop.example/tablehouse/impl.RowOk$1 -/
def F127 : F := ⟨6, [(false, 2, 0, false)],
   .seq (.seg false [⟨some 1, none, .box (.t 0), 0, 0, false, []⟩,
    ⟨some 2, none, .mov (.k (.bool false)), 0, 0, false, []⟩])
   (.seq (.seg false [⟨some 3, none, .load true 3 (.t 1), 0, 0, false, []⟩,
    ⟨some 4, none, .call 128 [.t 3] false false, 0, 0, false, []⟩,
    ⟨some 5, none, .un .not (.t 4), 0, 0, false, []⟩,
    ⟨some 2, none, .mov (.t 5), 0, 0, false, []⟩])
   (.cutTo [2] (.ret)))⟩
/-- loop.example/tablehouse/impl.RowsOk -/
def F51 : F := ⟨13, [(false, 4, 0, false)],
   .seq (.seg false [⟨some 2, none, .box (.t 0), 0, 0, false, []⟩,
    ⟨some 4, none, .mov (.k (.bool false)), 0, 0, false, []⟩])
   (.seq (.seg false [⟨some 5, none, .load false 1 (.t 2), 0, 0, false, []⟩,
    ⟨some 6, none, .call 71 [.t 5] false false, 0, 0, false, []⟩,
    ⟨some 7, none, .mov (.t 6), 0, 0, false, []⟩,
    ⟨some 8, some (7, true), .mov (.t 1), 0, 0, false, []⟩,
    ⟨some 9, some (7, true), .mkclo 111 [.t 2], 0, 0, false, []⟩,
    ⟨some 10, some (7, true), .call 110 [.t 8, .t 9] true false, 0, 0, false, []⟩,
    ⟨some 11, some (7, true), .un .not (.t 10), 0, 0, false, []⟩,
    ⟨some 12, none, .pick (.t 7) (.t 11) (.k (.bool false)), 0, 0, false, []⟩,
    ⟨some 4, none, .mov (.t 12), 0, 0, false, []⟩])
   (.cutTo [4] (.ret)))⟩
/-- loop.example/tablehouse/impl.RowsOk$1 -/
def F111 : F := ⟨8, [(false, 3, 0, false)],
   .seq (.seg false [⟨some 3, none, .mov (.k (.bool false)), 0, 0, false, []⟩])
   (.seq (.seg false [⟨some 4, none, .load false 1 (.t 1), 0, 0, false, []⟩,
    ⟨some 5, none, .mov (.t 0), 0, 0, false, []⟩,
    ⟨some 6, none, .call 19 [.t 4, .t 5] false false, 0, 0, false, []⟩,
    ⟨some 7, none, .un .not (.t 6), 0, 0, false, []⟩,
    ⟨some 3, none, .mov (.t 7), 0, 0, false, []⟩])
   (.cutTo [3] (.ret)))⟩
/-- loop.example/tablehouse/impl.ValueOk -/
def F73 : F := ⟨5, [(false, 2, 0, false)],
   .seq (.seg false [⟨some 1, none, .box (.t 0), 0, 0, false, []⟩,
    ⟨some 2, none, .mov (.k (.bool false)), 0, 0, false, []⟩])
   (.seq (.seg false [⟨some 3, none, .load true 3 (.t 1), 0, 0, false, []⟩,
    ⟨some 4, none, .call 128 [.t 3] false false, 0, 0, false, []⟩,
    ⟨some 2, none, .mov (.t 4), 0, 0, false, []⟩])
   (.ret))⟩
/-- loop.example/tablehouse/impl.between -/
def F68 : F := ⟨15, [(false, 6, 0, false)],
   .seq (.seg false [⟨some 6, none, .mov (.k (.bool false)), 0, 0, false, []⟩])
   (.seq (.seg false [⟨some 7, none, .mov (.t 0), 0, 0, false, []⟩,
    ⟨some 8, none, .mov (.t 1), 0, 0, false, []⟩,
    ⟨some 9, none, .bin .geq (.t 7) (.t 8), 0, 0, false, []⟩,
    ⟨some 10, none, .mov (.t 9), 0, 0, false, []⟩,
    ⟨some 11, some (10, true), .mov (.t 0), 0, 0, false, []⟩,
    ⟨some 12, some (10, true), .mov (.t 2), 0, 0, false, []⟩,
    ⟨some 13, some (10, true), .bin .leq (.t 11) (.t 12), 0, 0, false, []⟩,
    ⟨some 14, none, .pick (.t 10) (.t 13) (.k (.bool false)), 0, 0, false, []⟩,
    ⟨some 6, none, .mov (.t 14), 0, 0, false, []⟩])
   (.cutTo [6] (.ret)))⟩
/-- loop.example/tablehouse/impl.clone<loop.example/tablehouse/impl.Value> -/
def F153 : F := ⟨9, [(false, 2, 0, false)],
   .seq (.seg false [⟨some 2, none, .mov (.k (.sl true 3 [])), 0, 0, false, []⟩])
   (.seq (.seq (.seg false [⟨some 3, none, .mov (.t 0), 0, 0, false, []⟩,
    ⟨some 4, none, .len false (.t 3), 0, 0, false, []⟩,
    ⟨some 5, none, .bin .eql (.t 4) (.k (.int .i64 0)), 0, 0, false, []⟩])
   (.cond (.t 5) (.seq (.seg false [⟨some 2, none, .mov (.k (.sl true 3 [])), 0, 0, false, []⟩])
   (.ret))
   (.skip)))
   (.cutTo [0] (.seq (.seg false [⟨some 6, none, .mov (.t 0), 0, 0, false, []⟩,
    ⟨some 7, none, .app 3 (.k (.sl true 3 [])) (.t 6), 0, 0, false, []⟩,
    ⟨some 8, none, .callx 2 171 [.t 7], 0, 0, false, []⟩,
    ⟨some 2, none, .mov (.t 8), 0, 0, false, []⟩])
   (.cutTo [2] (.ret)))))⟩
def B103x0 : C := .seq (.seg false [⟨some 11, none, .bin .lss (.t 10) (.t 9), 0, 0, false, []⟩])
   (.seq (.cond (.t 11) (.skip)
   (.exit 0))
   (.seq (.block 1 (.seq (.seg false [⟨some 12, none, .iaddr 1 (.t 8) (.t 10), 0, 0, false, []⟩,
    ⟨some 13, none, .load false 1 (.t 12), 0, 0, false, []⟩,
    ⟨some 7, none, .mov (.t 13), 0, 0, false, []⟩])
   (.seg false [⟨some 14, none, .mov (.t 5), 0, 0, false, []⟩,
    ⟨some 15, none, .mov (.t 7), 0, 0, false, []⟩,
    ⟨some 16, none, .mov (.t 1), 0, 0, false, []⟩,
    ⟨some 17, none, .iaddr 3 (.t 15) (.t 16), 0, 0, false, []⟩,
    ⟨some 18, none, .load true 3 (.t 17), 0, 0, false, []⟩,
    ⟨some 19, none, .mksl false 3 [.t 18], 0, 0, false, []⟩,
    ⟨some 20, none, .app 3 (.t 14) (.t 19), 0, 0, false, []⟩,
    ⟨some 5, none, .mov (.t 20), 0, 0, false, []⟩])))
   (.cutTo [1, 5, 8, 9, 10] (.seg false [⟨some 21, none, .bin .add (.t 10) (.k (.int .i64 1)), 0, 0, false, []⟩,
    ⟨some 10, none, .mov (.t 21), 0, 0, false, []⟩]))))
def L103x0 : C := B103x0
theorem evL103x0 (run : Run) (draw : List I → Env → Heap → Option (Env × Heap)) (e : Env) (h : Heap) : evC run draw L103x0 e h = evC run draw B103x0 e h := rfl
/-- loop.example/tablehouse/impl.column -/
def F103 : F := ⟨23, [(false, 4, 0, false)],
   .seq (.seg false [⟨some 4, none, .nilrow 3, 0, 0, false, []⟩])
   (.seq (.seg false [⟨some 5, none, .nilrow 3, 0, 0, false, []⟩])
   (.seq (.seq (.seg false [⟨some 8, none, .mov (.t 0), 0, 0, false, []⟩,
    ⟨some 9, none, .len false (.t 8), 0, 0, false, []⟩,
    ⟨some 10, none, .mov (.k (.int .i64 0)), 0, 0, false, []⟩])
   (.block 0 (.loop [1, 5, 8, 9, 10] [5] L103x0)))
   (.seq (.seg false [⟨some 22, none, .mov (.t 5), 0, 0, false, []⟩,
    ⟨some 4, none, .mov (.t 22), 0, 0, false, []⟩])
   (.ret))))⟩
def E99x0 : List I := [⟨some 13, none, .mov (.t 0), 0, 0, false, []⟩,
    ⟨some 14, none, .mov (.t 1), 0, 0, false, []⟩,
    ⟨some 15, none, .mov (.t 2), 0, 0, false, []⟩,
    ⟨some 16, none, .mov (.t 3), 0, 0, false, []⟩,
    ⟨some 17, none, .call 144 [.t 13, .t 14, .t 15, .t 16] false false, 0, 0, false, []⟩,
    ⟨some 18, none, .mov (.t 17), 0, 0, false, []⟩,
    ⟨some 19, some (18, true), .mov (.t 4), 0, 0, false, []⟩,
    ⟨some 20, some (18, true), .mov (.t 0), 0, 0, false, []⟩,
    ⟨some 21, some (18, true), .len false (.t 20), 0, 0, false, []⟩,
    ⟨some 22, some (18, true), .bin .sub (.t 21) (.k (.int .i64 1)), 0, 0, false, []⟩,
    ⟨some 23, some (18, true), .call 68 [.t 19, .k (.int .i64 0), .t 22] false false, 0, 0, false, []⟩,
    ⟨some 24, none, .pick (.t 18) (.t 23) (.k (.bool false)), 0, 0, false, []⟩,
    ⟨some 25, none, .mov (.t 24), 0, 0, false, []⟩,
    ⟨some 26, some (25, true), .mov (.t 5), 0, 0, false, []⟩,
    ⟨some 27, some (25, true), .mov (.t 1), 0, 0, false, []⟩,
    ⟨some 28, some (25, true), .len false (.t 27), 0, 0, false, []⟩,
    ⟨some 29, some (25, true), .bin .sub (.t 28) (.k (.int .i64 1)), 0, 0, false, []⟩,
    ⟨some 30, some (25, true), .call 68 [.t 26, .k (.int .i64 0), .t 29] false false, 0, 0, false, []⟩,
    ⟨some 31, none, .pick (.t 25) (.t 30) (.k (.bool false)), 0, 0, false, []⟩,
    ⟨some 32, none, .mov (.t 31), 0, 0, false, []⟩,
    ⟨some 33, some (32, true), .mov (.t 0), 0, 0, false, []⟩,
    ⟨some 34, some (32, true), .mov (.t 4), 0, 0, false, []⟩,
    ⟨some 35, some (32, true), .iaddr 2 (.t 33) (.t 34), 0, 0, false, []⟩,
    ⟨some 36, some (32, true), .faddr 0 1 (.t 35), 0, 0, false, []⟩,
    ⟨some 37, some (32, true), .load false 1 (.t 36), 0, 0, false, []⟩,
    ⟨some 38, some (32, true), .mov (.t 1), 0, 0, false, []⟩,
    ⟨some 39, some (32, true), .mov (.t 5), 0, 0, false, []⟩,
    ⟨some 40, some (32, true), .iaddr 2 (.t 38) (.t 39), 0, 0, false, []⟩,
    ⟨some 41, some (32, true), .faddr 0 1 (.t 40), 0, 0, false, []⟩,
    ⟨some 42, some (32, true), .load false 1 (.t 41), 0, 0, false, []⟩,
    ⟨some 43, some (32, true), .bin .eql (.t 37) (.t 42), 0, 0, false, []⟩,
    ⟨some 44, none, .pick (.t 32) (.t 43) (.k (.bool false)), 0, 0, false, []⟩,
    ⟨some 12, none, .mov (.t 44), 0, 0, false, []⟩]
def D99x0 : List I := E99x0
theorem evD99x0 (run : Run) (e : Env) (h : Heap) : drawI run D99x0 e h = DrawS (evQ run E99x0 e h) run E99x0 e h := drawI_quiet run _ (by rfl) e h
/-- loop.example/tablehouse/impl.joinOk -/
def F99 : F := ⟨45, [(false, 12, 0, false)],
   .seq (.seg false [⟨some 12, none, .mov (.k (.bool false)), 0, 0, false, []⟩])
   (.seq (.seg true D99x0)
   (.cutTo [12] (.ret)))⟩
def B100x0 : C := .seq (.seg false [⟨some 11, none, .bin .lss (.t 10) (.t 9), 0, 0, false, []⟩])
   (.seq (.cond (.t 11) (.skip)
   (.exit 0))
   (.seq (.block 1 (.seq (.seg false [⟨some 12, none, .iaddr 1 (.t 8) (.t 10), 0, 0, false, []⟩,
    ⟨some 13, none, .load false 1 (.t 12), 0, 0, false, []⟩,
    ⟨some 7, none, .mov (.t 13), 0, 0, false, []⟩])
   (.seq (.seg false [⟨some 14, none, .mov (.t 1), 0, 0, false, []⟩,
    ⟨some 15, none, .mov (.t 7), 0, 0, false, []⟩,
    ⟨some 16, none, .callv (.t 14) [.t 15] false, 0, 0, false, []⟩])
   (.cond (.t 16) (.seg false [⟨some 17, none, .mov (.t 5), 0, 0, false, []⟩,
    ⟨some 18, none, .mov (.t 7), 0, 0, false, []⟩,
    ⟨some 19, none, .mksl false 1 [.t 18], 0, 0, false, []⟩,
    ⟨some 20, none, .app 1 (.t 17) (.t 19), 0, 0, false, []⟩,
    ⟨some 5, none, .mov (.t 20), 0, 0, false, []⟩])
   (.skip)))))
   (.cutTo [1, 5, 8, 9, 10] (.seg false [⟨some 21, none, .bin .add (.t 10) (.k (.int .i64 1)), 0, 0, false, []⟩,
    ⟨some 10, none, .mov (.t 21), 0, 0, false, []⟩]))))
def L100x0 : C := B100x0
theorem evL100x0 (run : Run) (draw : List I → Env → Heap → Option (Env × Heap)) (e : Env) (h : Heap) : evC run draw L100x0 e h = evC run draw B100x0 e h := rfl
/-- loop.example/tablehouse/impl.kept -/
def F100 : F := ⟨24, [(false, 4, 0, false)],
   .seq (.seg false [⟨some 4, none, .mov (.k (.sl true 1 [])), 0, 0, false, []⟩])
   (.seq (.seg false [⟨some 5, none, .nilrow 1, 0, 0, false, []⟩])
   (.seq (.seq (.seg false [⟨some 8, none, .mov (.t 0), 0, 0, false, []⟩,
    ⟨some 9, none, .len false (.t 8), 0, 0, false, []⟩,
    ⟨some 10, none, .mov (.k (.int .i64 0)), 0, 0, false, []⟩])
   (.block 0 (.loop [1, 5, 8, 9, 10] [5] L100x0)))
   (.seq (.seg false [⟨some 22, none, .mov (.t 5), 0, 0, false, []⟩,
    ⟨some 23, none, .callx 0 120 [.t 22], 0, 0, false, []⟩,
    ⟨some 4, none, .mov (.t 23), 0, 0, false, []⟩])
   (.ret))))⟩
def B158x0 : C := .seq (.seg false [⟨some 9, none, .bin .lss (.t 8) (.t 7), 0, 0, false, []⟩])
   (.seq (.cond (.t 9) (.skip)
   (.exit 0))
   (.seq (.block 1 (.seq (.seg false [⟨some 10, none, .iaddr 1 (.t 6) (.t 8), 0, 0, false, []⟩,
    ⟨some 11, none, .load false 1 (.t 10), 0, 0, false, []⟩,
    ⟨some 4, none, .mov (.t 11), 0, 0, false, []⟩])
   (.seq (.seg false [⟨some 12, none, .mov (.t 4), 0, 0, false, []⟩,
    ⟨some 13, none, .conv (.int .i64) (.t 12), 0, 0, false, []⟩,
    ⟨some 14, none, .call 68 [.t 13, .k (.int .i64 97), .k (.int .i64 122)] false false, 0, 0, false, []⟩,
    ⟨some 15, none, .un .not (.t 14), 0, 0, false, []⟩])
   (.cutTo [6, 7, 8, 15] (.cond (.t 15) (.seq (.seg false [⟨some 2, none, .mov (.k (.bool false)), 0, 0, false, []⟩])
   (.ret))
   (.skip))))))
   (.cutTo [6, 7, 8] (.seg false [⟨some 16, none, .bin .add (.t 8) (.k (.int .i64 1)), 0, 0, false, []⟩,
    ⟨some 8, none, .mov (.t 16), 0, 0, false, []⟩]))))
def L158x0 : C := B158x0
theorem evL158x0 (run : Run) (draw : List I → Env → Heap → Option (Env × Heap)) (e : Env) (h : Heap) : evC run draw L158x0 e h = evC run draw B158x0 e h := rfl
/-- loop.example/tablehouse/impl.letters -/
def F158 : F := ⟨17, [(false, 2, 0, false)],
   .seq (.seg false [⟨some 2, none, .mov (.k (.bool false)), 0, 0, false, []⟩])
   (.seq (.seq (.seg false [⟨some 5, none, .mov (.t 0), 0, 0, false, []⟩,
    ⟨some 6, none, .conv .toBytes (.t 5), 0, 0, false, []⟩,
    ⟨some 7, none, .len false (.t 6), 0, 0, false, []⟩,
    ⟨some 8, none, .mov (.k (.int .i64 0)), 0, 0, false, []⟩])
   (.cutTo [6, 7, 8] (.block 0 (.loop [6, 7, 8] [2] L158x0))))
   (.cutTo [] (.seq (.seg false [⟨some 2, none, .mov (.k (.bool true)), 0, 0, false, []⟩])
   (.ret))))⟩
def B120x0 : C := .seq (.seg false [⟨some 9, none, .bin .lss (.t 8) (.t 7), 0, 0, false, []⟩])
   (.seq (.cond (.t 9) (.skip)
   (.exit 0))
   (.seq (.block 1 (.seq (.seg false [⟨some 10, none, .iaddr 1 (.t 6) (.t 8), 0, 0, false, []⟩,
    ⟨some 11, none, .load false 1 (.t 10), 0, 0, false, []⟩,
    ⟨some 5, none, .mov (.t 11), 0, 0, false, []⟩])
   (.seg false [⟨some 12, none, .mov (.t 3), 0, 0, false, []⟩,
    ⟨some 13, none, .mov (.t 5), 0, 0, false, []⟩,
    ⟨some 14, none, .callx 0 153 [.t 13], 0, 0, false, []⟩,
    ⟨some 15, none, .mkns 1 [.t 14], 0, 0, false, []⟩,
    ⟨some 16, none, .appn 1 (.t 12) (.t 15), 0, 0, false, []⟩,
    ⟨some 3, none, .mov (.t 16), 0, 0, false, []⟩])))
   (.cutTo [3, 6, 7, 8] (.seg false [⟨some 17, none, .bin .add (.t 8) (.k (.int .i64 1)), 0, 0, false, []⟩,
    ⟨some 8, none, .mov (.t 17), 0, 0, false, []⟩]))))
def L120x0 : C := B120x0
theorem evL120x0 (run : Run) (draw : List I → Env → Heap → Option (Env × Heap)) (e : Env) (h : Heap) : evC run draw L120x0 e h = evC run draw B120x0 e h := rfl
/-- loop.example/tablehouse/impl.rowsCopy -/
def F120 : F := ⟨20, [(false, 2, 0, false)],
   .seq (.seg false [⟨some 2, none, .mov (.k (.sl true 1 [])), 0, 0, false, []⟩])
   (.seq (.seg false [⟨some 3, none, .nilnest 1, 0, 0, false, []⟩])
   (.seq (.seq (.seg false [⟨some 6, none, .mov (.t 0), 0, 0, false, []⟩,
    ⟨some 7, none, .len false (.t 6), 0, 0, false, []⟩,
    ⟨some 8, none, .mov (.k (.int .i64 0)), 0, 0, false, []⟩])
   (.block 0 (.loopk [3, 6, 7, 8] [3] L120x0)))
   (.seq (.seg false [⟨some 18, none, .mov (.t 3), 0, 0, false, []⟩,
    ⟨some 19, none, .callx 2 154 [.t 18], 0, 0, false, []⟩,
    ⟨some 2, none, .mov (.t 19), 0, 0, false, []⟩])
   (.ret))))⟩
/-- loop.example/tablehouse/impl.sidesOk -/
def F144 : F := ⟨43, [(false, 8, 0, false)],
   .seq (.seg false [⟨some 8, none, .mov (.k (.bool false)), 0, 0, false, []⟩])
   (.seq (.seg false [⟨some 9, none, .mov (.t 0), 0, 0, false, []⟩,
    ⟨some 10, none, .call 71 [.t 9] false false, 0, 0, false, []⟩,
    ⟨some 11, none, .mov (.t 10), 0, 0, false, []⟩,
    ⟨some 12, some (11, true), .mov (.t 1), 0, 0, false, []⟩,
    ⟨some 13, some (11, true), .call 71 [.t 12] false false, 0, 0, false, []⟩,
    ⟨some 14, none, .pick (.t 11) (.t 13) (.k (.bool false)), 0, 0, false, []⟩,
    ⟨some 15, none, .mov (.t 14), 0, 0, false, []⟩,
    ⟨some 16, some (15, true), .mov (.t 0), 0, 0, false, []⟩,
    ⟨some 17, some (15, true), .len false (.t 16), 0, 0, false, []⟩,
    ⟨some 18, some (15, true), .mov (.t 1), 0, 0, false, []⟩,
    ⟨some 19, some (15, true), .len false (.t 18), 0, 0, false, []⟩,
    ⟨some 20, some (15, true), .bin .add (.t 17) (.t 19), 0, 0, false, []⟩,
    ⟨some 21, some (15, true), .bin .leq (.t 20) (.k (.int .i64 4)), 0, 0, false, []⟩,
    ⟨some 22, none, .pick (.t 15) (.t 21) (.k (.bool false)), 0, 0, false, []⟩,
    ⟨some 23, none, .mov (.t 22), 0, 0, false, []⟩,
    ⟨some 24, some (23, true), .mov (.t 2), 0, 0, false, []⟩,
    ⟨some 25, some (23, true), .len false (.t 24), 0, 0, false, []⟩,
    ⟨some 26, some (23, true), .bin .leq (.t 25) (.k (.int .i64 30)), 0, 0, false, []⟩,
    ⟨some 27, none, .pick (.t 23) (.t 26) (.k (.bool false)), 0, 0, false, []⟩,
    ⟨some 28, none, .mov (.t 27), 0, 0, false, []⟩,
    ⟨some 29, some (28, true), .mov (.t 3), 0, 0, false, []⟩,
    ⟨some 30, some (28, true), .len false (.t 29), 0, 0, false, []⟩,
    ⟨some 31, some (28, true), .bin .leq (.t 30) (.k (.int .i64 30)), 0, 0, false, []⟩,
    ⟨some 32, none, .pick (.t 28) (.t 31) (.k (.bool false)), 0, 0, false, []⟩,
    ⟨some 33, none, .mov (.t 32), 0, 0, false, []⟩,
    ⟨some 34, some (33, true), .mov (.t 0), 0, 0, false, []⟩,
    ⟨some 35, some (33, true), .mov (.t 2), 0, 0, false, []⟩,
    ⟨some 36, some (33, true), .call 51 [.t 34, .t 35] false false, 0, 0, false, []⟩,
    ⟨some 37, none, .pick (.t 33) (.t 36) (.k (.bool false)), 0, 0, false, []⟩,
    ⟨some 38, none, .mov (.t 37), 0, 0, false, []⟩,
    ⟨some 39, some (38, true), .mov (.t 1), 0, 0, false, []⟩,
    ⟨some 40, some (38, true), .mov (.t 3), 0, 0, false, []⟩,
    ⟨some 41, some (38, true), .call 51 [.t 39, .t 40] false false, 0, 0, false, []⟩,
    ⟨some 42, none, .pick (.t 38) (.t 41) (.k (.bool false)), 0, 0, false, []⟩,
    ⟨some 8, none, .mov (.t 42), 0, 0, false, []⟩])
   (.cutTo [8] (.ret)))⟩
/-- loop.example/tablehouse/impl.truthIf -/
def F164 : F := ⟨4, [(false, 2, 0, false)],
   .seq (.seg false [⟨some 2, none, .mov (.k (.int .i64 0)), 0, 0, false, []⟩])
   (.seq (.seq (.seg false [⟨some 3, none, .mov (.t 0), 0, 0, false, []⟩])
   (.cond (.t 3) (.seq (.seg false [⟨some 2, none, .mov (.k (.int .i64 1)), 0, 0, false, []⟩])
   (.ret))
   (.skip)))
   (.seq (.seg false [⟨some 2, none, .mov (.k (.int .i64 0)), 0, 0, false, []⟩])
   (.ret)))⟩
/-- loop.example/tablehouse/laws.FnExactInRows -/
def F12 : F := ⟨148, [(false, 12, 0, false)],
   .seq (.seg false [⟨some 12, none, .mov (.k (.bool false)), 0, 0, false, []⟩])
   (.seq (.seg false [⟨some 13, none, .mov (.k (.int .i64 1048576)), 0, 0, false, []⟩])
   (.seq (.seg false [⟨some 24, none, .mov (.t 0), 0, 0, false, []⟩,
    ⟨some 25, none, .mov (.t 13), 0, 0, false, []⟩,
    ⟨some 26, none, .call 22 [.t 24, .t 25] false false, 0, 0, false, []⟩,
    ⟨some 13, none, .mov (.t 26), 0, 0, false, []⟩])
   (.cutTo [0, 1, 2, 3, 4, 5, 13] (.seq (.seq (.seg false [⟨some 27, none, .mov (.t 13), 0, 0, false, []⟩,
    ⟨some 28, none, .bin .lss (.t 27) (.k (.int .i64 0)), 0, 0, false, []⟩])
   (.cond (.t 28) (.seq (.seg false [⟨some 12, none, .mov (.k (.bool true)), 0, 0, false, []⟩])
   (.ret))
   (.skip)))
   (.seq (.seg false [⟨some 29, none, .mov (.t 1), 0, 0, false, []⟩,
    ⟨some 30, none, .mov (.t 13), 0, 0, false, []⟩,
    ⟨some 31, none, .call 22 [.t 29, .t 30] false false, 0, 0, false, []⟩,
    ⟨some 13, none, .mov (.t 31), 0, 0, false, []⟩])
   (.cutTo [0, 1, 2, 3, 4, 5, 13] (.seq (.seq (.seg false [⟨some 32, none, .mov (.t 13), 0, 0, false, []⟩,
    ⟨some 33, none, .bin .lss (.t 32) (.k (.int .i64 0)), 0, 0, false, []⟩])
   (.cond (.t 33) (.seq (.seg false [⟨some 12, none, .mov (.k (.bool true)), 0, 0, false, []⟩])
   (.ret))
   (.skip)))
   (.seq (.seg false [⟨some 34, none, .mov (.t 2), 0, 0, false, []⟩,
    ⟨some 35, none, .mov (.t 13), 0, 0, false, []⟩,
    ⟨some 36, none, .call 54 [.t 34, .t 35] false false, 0, 0, false, []⟩,
    ⟨some 13, none, .mov (.t 36), 0, 0, false, []⟩])
   (.cutTo [0, 1, 2, 3, 4, 5, 13] (.seq (.seq (.seg false [⟨some 37, none, .mov (.t 13), 0, 0, false, []⟩,
    ⟨some 38, none, .bin .lss (.t 37) (.k (.int .i64 0)), 0, 0, false, []⟩])
   (.cond (.t 38) (.seq (.seg false [⟨some 12, none, .mov (.k (.bool true)), 0, 0, false, []⟩])
   (.ret))
   (.skip)))
   (.seq (.seg false [⟨some 39, none, .mov (.t 3), 0, 0, false, []⟩,
    ⟨some 40, none, .mov (.t 13), 0, 0, false, []⟩,
    ⟨some 41, none, .call 54 [.t 39, .t 40] false false, 0, 0, false, []⟩,
    ⟨some 13, none, .mov (.t 41), 0, 0, false, []⟩])
   (.cutTo [0, 1, 2, 3, 4, 5, 13] (.seq (.seq (.seg false [⟨some 42, none, .mov (.t 13), 0, 0, false, []⟩,
    ⟨some 43, none, .bin .lss (.t 42) (.k (.int .i64 0)), 0, 0, false, []⟩])
   (.cond (.t 43) (.seq (.seg false [⟨some 12, none, .mov (.k (.bool true)), 0, 0, false, []⟩])
   (.ret))
   (.skip)))
   (.seq (.seg false [⟨some 44, none, .mov (.t 0), 0, 0, false, []⟩,
    ⟨some 45, none, .callx 0 24 [.t 44], 0, 0, false, []⟩,
    ⟨some 46, none, .mov (.t 1), 0, 0, false, []⟩,
    ⟨some 47, none, .callx 0 24 [.t 46], 0, 0, false, []⟩,
    ⟨some 48, none, .mov (.t 2), 0, 0, false, []⟩,
    ⟨some 49, none, .callx 0 56 [.t 48], 0, 0, false, []⟩,
    ⟨some 50, none, .mov (.t 3), 0, 0, false, []⟩,
    ⟨some 51, none, .callx 0 56 [.t 50], 0, 0, false, []⟩,
    ⟨some 52, none, .mov (.t 4), 0, 0, false, []⟩,
    ⟨some 53, none, .mov (.t 5), 0, 0, false, []⟩,
    ⟨some 54, none, .callx 1 55 [.t 45, .t 47, .t 49, .t 51, .t 52, .t 53], 0, 0, false, []⟩,
    ⟨some 14, none, .mov (.t 54), 0, 0, false, []⟩])
   (.cutTo [0, 1, 2, 3, 4, 5, 14] (.seq (.seg false [⟨some 55, none, .mov (.t 0), 0, 0, false, []⟩,
    ⟨some 56, none, .callx 0 24 [.t 55], 0, 0, false, []⟩,
    ⟨some 15, none, .mov (.t 56), 0, 0, false, []⟩])
   (.seq (.seg false [⟨some 57, none, .mov (.t 1), 0, 0, false, []⟩,
    ⟨some 58, none, .callx 0 24 [.t 57], 0, 0, false, []⟩,
    ⟨some 16, none, .mov (.t 58), 0, 0, false, []⟩])
   (.seq (.seg false [⟨some 59, none, .mov (.t 2), 0, 0, false, []⟩,
    ⟨some 60, none, .callx 0 56 [.t 59], 0, 0, false, []⟩,
    ⟨some 17, none, .mov (.t 60), 0, 0, false, []⟩])
   (.seq (.seg false [⟨some 61, none, .mov (.t 3), 0, 0, false, []⟩,
    ⟨some 62, none, .callx 0 56 [.t 61], 0, 0, false, []⟩,
    ⟨some 18, none, .mov (.t 62), 0, 0, false, []⟩])
   (.seq (.seg false [⟨some 63, none, .mov (.t 15), 0, 0, false, []⟩,
    ⟨some 64, none, .mov (.t 16), 0, 0, false, []⟩,
    ⟨some 65, none, .mov (.t 17), 0, 0, false, []⟩,
    ⟨some 66, none, .mov (.t 18), 0, 0, false, []⟩,
    ⟨some 67, none, .mov (.t 4), 0, 0, false, []⟩,
    ⟨some 68, none, .mov (.t 5), 0, 0, false, []⟩,
    ⟨some 69, none, .callx 0 52 [.t 63, .t 64, .t 65, .t 66, .t 67, .t 68], 0, 0, false, []⟩,
    ⟨some 19, none, .mov (.t 69), 0, 0, false, []⟩])
   (.cutTo [0, 1, 2, 3, 4, 5, 14, 15, 16, 17, 18, 19] (.seq (.seq (.seg false [⟨some 70, none, .mov (.t 19), 0, 0, false, []⟩,
    ⟨some 71, none, .mov (.t 14), 0, 0, false, []⟩,
    ⟨some 72, none, .callx 0 57 [.t 70, .t 71], 0, 0, false, []⟩,
    ⟨some 73, none, .un .not (.t 72), 0, 0, false, []⟩])
   (.cutTo [0, 1, 2, 3, 4, 5, 14, 15, 16, 17, 18, 19, 73] (.cond (.t 73) (.seq (.seg false [⟨some 12, none, .mov (.k (.bool false)), 0, 0, false, []⟩])
   (.ret))
   (.skip))))
   (.cutTo [0, 1, 2, 3, 4, 5, 14, 15, 16, 17, 18, 19] (.seq (.seq (.seg false [⟨some 74, none, .mov (.t 15), 0, 0, false, []⟩,
    ⟨some 75, none, .mov (.t 0), 0, 0, false, []⟩,
    ⟨some 76, none, .callx 0 24 [.t 75], 0, 0, false, []⟩,
    ⟨some 77, none, .callx 0 28 [.t 74, .t 76], 0, 0, false, []⟩,
    ⟨some 78, none, .un .not (.t 77), 0, 0, false, []⟩])
   (.cutTo [0, 1, 2, 3, 4, 5, 14, 15, 16, 17, 18, 19, 78] (.cond (.t 78) (.seq (.seg false [⟨some 12, none, .mov (.k (.bool false)), 0, 0, false, []⟩])
   (.ret))
   (.skip))))
   (.cutTo [0, 1, 2, 3, 4, 5, 14, 15, 16, 17, 18, 19] (.seq (.seq (.seg false [⟨some 79, none, .mov (.t 16), 0, 0, false, []⟩,
    ⟨some 80, none, .mov (.t 1), 0, 0, false, []⟩,
    ⟨some 81, none, .callx 0 24 [.t 80], 0, 0, false, []⟩,
    ⟨some 82, none, .callx 0 28 [.t 79, .t 81], 0, 0, false, []⟩,
    ⟨some 83, none, .un .not (.t 82), 0, 0, false, []⟩])
   (.cutTo [0, 1, 2, 3, 4, 5, 14, 15, 16, 17, 18, 19, 83] (.cond (.t 83) (.seq (.seg false [⟨some 12, none, .mov (.k (.bool false)), 0, 0, false, []⟩])
   (.ret))
   (.skip))))
   (.cutTo [0, 1, 2, 3, 4, 5, 14, 15, 16, 17, 18, 19] (.seq (.seq (.seg false [⟨some 84, none, .mov (.t 17), 0, 0, false, []⟩,
    ⟨some 85, none, .mov (.t 2), 0, 0, false, []⟩,
    ⟨some 86, none, .callx 0 56 [.t 85], 0, 0, false, []⟩,
    ⟨some 87, none, .callx 0 57 [.t 84, .t 86], 0, 0, false, []⟩,
    ⟨some 88, none, .un .not (.t 87), 0, 0, false, []⟩])
   (.cutTo [0, 1, 2, 3, 4, 5, 14, 15, 16, 17, 18, 19, 88] (.cond (.t 88) (.seq (.seg false [⟨some 12, none, .mov (.k (.bool false)), 0, 0, false, []⟩])
   (.ret))
   (.skip))))
   (.cutTo [0, 1, 2, 3, 4, 5, 14, 15, 16, 17, 18, 19] (.seq (.seq (.seg false [⟨some 89, none, .mov (.t 18), 0, 0, false, []⟩,
    ⟨some 90, none, .mov (.t 3), 0, 0, false, []⟩,
    ⟨some 91, none, .callx 0 56 [.t 90], 0, 0, false, []⟩,
    ⟨some 92, none, .callx 0 57 [.t 89, .t 91], 0, 0, false, []⟩,
    ⟨some 93, none, .un .not (.t 92), 0, 0, false, []⟩])
   (.cutTo [0, 1, 2, 3, 4, 5, 14, 15, 16, 17, 18, 19, 93] (.cond (.t 93) (.seq (.seg false [⟨some 12, none, .mov (.k (.bool false)), 0, 0, false, []⟩])
   (.ret))
   (.skip))))
   (.cutTo [0, 1, 2, 3, 4, 5, 14, 15, 16, 17, 18, 19] (.seq (.seg false [⟨some 20, none, .mov (.k (.int .i64 1)), 0, 0, false, []⟩])
   (.seq (.seg false [⟨some 94, none, .mov (.t 15), 0, 0, false, []⟩,
    ⟨some 95, none, .mov (.t 20), 0, 0, false, []⟩,
    ⟨some 96, none, .callx 2 30 [.t 94, .t 95], 0, 0, false, []⟩,
    ⟨some 20, none, .mov (.t 96), 0, 0, false, []⟩])
   (.cutTo [0, 1, 2, 3, 4, 5, 14, 16, 17, 18, 19, 20] (.seq (.seg false [⟨some 97, none, .mov (.t 16), 0, 0, false, []⟩,
    ⟨some 98, none, .mov (.t 20), 0, 0, false, []⟩,
    ⟨some 99, none, .callx 2 30 [.t 97, .t 98], 0, 0, false, []⟩,
    ⟨some 20, none, .mov (.t 99), 0, 0, false, []⟩])
   (.cutTo [0, 1, 2, 3, 4, 5, 14, 17, 18, 19, 20] (.seq (.seg false [⟨some 100, none, .mov (.t 17), 0, 0, false, []⟩,
    ⟨some 101, none, .mov (.t 20), 0, 0, false, []⟩,
    ⟨some 102, none, .callx 2 58 [.t 100, .t 101], 0, 0, false, []⟩,
    ⟨some 20, none, .mov (.t 102), 0, 0, false, []⟩])
   (.cutTo [0, 1, 2, 3, 4, 5, 14, 18, 19, 20] (.seq (.seg false [⟨some 103, none, .mov (.t 18), 0, 0, false, []⟩,
    ⟨some 104, none, .mov (.t 20), 0, 0, false, []⟩,
    ⟨some 105, none, .callx 2 58 [.t 103, .t 104], 0, 0, false, []⟩,
    ⟨some 20, none, .mov (.t 105), 0, 0, false, []⟩])
   (.cutTo [0, 1, 2, 3, 4, 5, 14, 19, 20] (.seq (.seq (.seg false [⟨some 106, none, .mov (.t 20), 0, 0, false, []⟩,
    ⟨some 107, none, .bin .lss (.t 106) (.k (.int .i64 0)), 0, 0, false, []⟩,
    ⟨some 108, none, .mov (.t 107), 0, 0, false, []⟩,
    ⟨some 109, some (108, false), .mov (.t 19), 0, 0, false, []⟩,
    ⟨some 110, some (108, false), .mov (.t 14), 0, 0, false, []⟩,
    ⟨some 111, some (108, false), .callx 0 57 [.t 109, .t 110], 0, 0, false, []⟩,
    ⟨some 112, some (108, false), .un .not (.t 111), 0, 0, false, []⟩,
    ⟨some 113, none, .pick (.t 108) (.k (.bool true)) (.t 112), 0, 0, false, []⟩])
   (.cutTo [0, 1, 2, 3, 4, 5, 14, 19, 113] (.cond (.t 113) (.seq (.seg false [⟨some 12, none, .mov (.k (.bool false)), 0, 0, false, []⟩])
   (.ret))
   (.skip))))
   (.cutTo [0, 1, 2, 3, 4, 5, 14, 19] (.seq (.seg false [⟨some 21, none, .mov (.k (.int .i64 1)), 0, 0, false, []⟩])
   (.seq (.seg false [⟨some 114, none, .mov (.t 19), 0, 0, false, []⟩,
    ⟨some 115, none, .mov (.t 21), 0, 0, false, []⟩,
    ⟨some 116, none, .callx 2 58 [.t 114, .t 115], 0, 0, false, []⟩,
    ⟨some 21, none, .mov (.t 116), 0, 0, false, []⟩])
   (.cutTo [0, 1, 2, 3, 4, 5, 14, 19, 21] (.seq (.seg false [⟨some 22, none, .mov (.k (.int .i64 1)), 0, 0, false, []⟩])
   (.seq (.seg false [⟨some 117, none, .mov (.t 19), 0, 0, false, []⟩,
    ⟨some 118, none, .mov (.t 22), 0, 0, false, []⟩,
    ⟨some 119, none, .callx 0 59 [.t 117, .t 118], 0, 0, false, []⟩,
    ⟨some 22, none, .mov (.t 119), 0, 0, false, []⟩])
   (.cutTo [0, 1, 2, 3, 4, 5, 14, 19, 21, 22] (.seq (.seq (.seg false [⟨some 120, none, .mov (.t 22), 0, 0, false, []⟩,
    ⟨some 121, none, .bin .lss (.t 120) (.k (.int .i64 0)), 0, 0, false, []⟩])
   (.cond (.t 121) (.seq (.seg false [⟨some 12, none, .mov (.k (.bool false)), 0, 0, false, []⟩])
   (.ret))
   (.skip)))
   (.seq (.seq (.seg false [⟨some 122, none, .mov (.t 22), 0, 0, false, []⟩,
    ⟨some 123, none, .mov (.t 21), 0, 0, false, []⟩,
    ⟨some 124, none, .bin .neq (.t 122) (.t 123), 0, 0, false, []⟩])
   (.cond (.t 124) (.seq (.seg false [⟨some 12, none, .mov (.k (.bool false)), 0, 0, false, []⟩])
   (.ret))
   (.skip)))
   (.cutTo [0, 1, 2, 3, 4, 5, 14, 19, 21] (.seq (.seg false [⟨some 125, none, .mov (.t 0), 0, 0, false, []⟩,
    ⟨some 126, none, .callx 0 24 [.t 125], 0, 0, false, []⟩,
    ⟨some 127, none, .mov (.t 1), 0, 0, false, []⟩,
    ⟨some 128, none, .callx 0 24 [.t 127], 0, 0, false, []⟩,
    ⟨some 129, none, .mov (.t 2), 0, 0, false, []⟩,
    ⟨some 130, none, .callx 0 56 [.t 129], 0, 0, false, []⟩,
    ⟨some 131, none, .mov (.t 3), 0, 0, false, []⟩,
    ⟨some 132, none, .callx 0 56 [.t 131], 0, 0, false, []⟩,
    ⟨some 133, none, .mov (.t 4), 0, 0, false, []⟩,
    ⟨some 134, none, .mov (.t 5), 0, 0, false, []⟩,
    ⟨some 135, none, .callx 0 52 [.t 126, .t 128, .t 130, .t 132, .t 133, .t 134], 0, 0, false, []⟩,
    ⟨some 23, none, .mov (.t 135), 0, 0, false, []⟩])
   (.cutTo [14, 19, 21, 23] (.seq (.seq (.seg false [⟨some 136, none, .mov (.t 23), 0, 0, false, []⟩,
    ⟨some 137, none, .mov (.t 14), 0, 0, false, []⟩,
    ⟨some 138, none, .callx 0 57 [.t 136, .t 137], 0, 0, false, []⟩,
    ⟨some 139, none, .un .not (.t 138), 0, 0, false, []⟩])
   (.cutTo [19, 21, 139] (.cond (.t 139) (.seq (.seg false [⟨some 12, none, .mov (.k (.bool false)), 0, 0, false, []⟩])
   (.ret))
   (.skip))))
   (.cutTo [19, 21] (.seq (.seg false [⟨some 22, none, .mov (.k (.int .i64 1)), 0, 0, false, []⟩])
   (.seq (.seg false [⟨some 140, none, .mov (.t 19), 0, 0, false, []⟩,
    ⟨some 141, none, .mov (.t 22), 0, 0, false, []⟩,
    ⟨some 142, none, .callx 0 59 [.t 140, .t 141], 0, 0, false, []⟩,
    ⟨some 22, none, .mov (.t 142), 0, 0, false, []⟩])
   (.cutTo [21, 22] (.seq (.seq (.seg false [⟨some 143, none, .mov (.t 22), 0, 0, false, []⟩,
    ⟨some 144, none, .bin .lss (.t 143) (.k (.int .i64 0)), 0, 0, false, []⟩])
   (.cond (.t 144) (.seq (.seg false [⟨some 12, none, .mov (.k (.bool false)), 0, 0, false, []⟩])
   (.ret))
   (.skip)))
   (.seq (.seq (.seg false [⟨some 145, none, .mov (.t 22), 0, 0, false, []⟩,
    ⟨some 146, none, .mov (.t 21), 0, 0, false, []⟩,
    ⟨some 147, none, .bin .neq (.t 145) (.t 146), 0, 0, false, []⟩])
   (.cond (.t 147) (.seq (.seg false [⟨some 12, none, .mov (.k (.bool false)), 0, 0, false, []⟩])
   (.ret))
   (.skip)))
   (.cutTo [] (.seq (.seg false [⟨some 12, none, .mov (.k (.bool true)), 0, 0, false, []⟩])
   (.ret)))))))))))))))))))))))))))))))))))))))))))))))))))))))))))))))⟩
/-- loop.example/tablehouse/laws.FnExactNotInRows -/
def F13 : F := ⟨148, [(false, 12, 0, false)],
   .seq (.seg false [⟨some 12, none, .mov (.k (.bool false)), 0, 0, false, []⟩])
   (.seq (.seg false [⟨some 13, none, .mov (.k (.int .i64 1048576)), 0, 0, false, []⟩])
   (.seq (.seg false [⟨some 24, none, .mov (.t 0), 0, 0, false, []⟩,
    ⟨some 25, none, .mov (.t 13), 0, 0, false, []⟩,
    ⟨some 26, none, .call 22 [.t 24, .t 25] false false, 0, 0, false, []⟩,
    ⟨some 13, none, .mov (.t 26), 0, 0, false, []⟩])
   (.cutTo [0, 1, 2, 3, 4, 5, 13] (.seq (.seq (.seg false [⟨some 27, none, .mov (.t 13), 0, 0, false, []⟩,
    ⟨some 28, none, .bin .lss (.t 27) (.k (.int .i64 0)), 0, 0, false, []⟩])
   (.cond (.t 28) (.seq (.seg false [⟨some 12, none, .mov (.k (.bool true)), 0, 0, false, []⟩])
   (.ret))
   (.skip)))
   (.seq (.seg false [⟨some 29, none, .mov (.t 1), 0, 0, false, []⟩,
    ⟨some 30, none, .mov (.t 13), 0, 0, false, []⟩,
    ⟨some 31, none, .call 22 [.t 29, .t 30] false false, 0, 0, false, []⟩,
    ⟨some 13, none, .mov (.t 31), 0, 0, false, []⟩])
   (.cutTo [0, 1, 2, 3, 4, 5, 13] (.seq (.seq (.seg false [⟨some 32, none, .mov (.t 13), 0, 0, false, []⟩,
    ⟨some 33, none, .bin .lss (.t 32) (.k (.int .i64 0)), 0, 0, false, []⟩])
   (.cond (.t 33) (.seq (.seg false [⟨some 12, none, .mov (.k (.bool true)), 0, 0, false, []⟩])
   (.ret))
   (.skip)))
   (.seq (.seg false [⟨some 34, none, .mov (.t 2), 0, 0, false, []⟩,
    ⟨some 35, none, .mov (.t 13), 0, 0, false, []⟩,
    ⟨some 36, none, .call 54 [.t 34, .t 35] false false, 0, 0, false, []⟩,
    ⟨some 13, none, .mov (.t 36), 0, 0, false, []⟩])
   (.cutTo [0, 1, 2, 3, 4, 5, 13] (.seq (.seq (.seg false [⟨some 37, none, .mov (.t 13), 0, 0, false, []⟩,
    ⟨some 38, none, .bin .lss (.t 37) (.k (.int .i64 0)), 0, 0, false, []⟩])
   (.cond (.t 38) (.seq (.seg false [⟨some 12, none, .mov (.k (.bool true)), 0, 0, false, []⟩])
   (.ret))
   (.skip)))
   (.seq (.seg false [⟨some 39, none, .mov (.t 3), 0, 0, false, []⟩,
    ⟨some 40, none, .mov (.t 13), 0, 0, false, []⟩,
    ⟨some 41, none, .call 54 [.t 39, .t 40] false false, 0, 0, false, []⟩,
    ⟨some 13, none, .mov (.t 41), 0, 0, false, []⟩])
   (.cutTo [0, 1, 2, 3, 4, 5, 13] (.seq (.seq (.seg false [⟨some 42, none, .mov (.t 13), 0, 0, false, []⟩,
    ⟨some 43, none, .bin .lss (.t 42) (.k (.int .i64 0)), 0, 0, false, []⟩])
   (.cond (.t 43) (.seq (.seg false [⟨some 12, none, .mov (.k (.bool true)), 0, 0, false, []⟩])
   (.ret))
   (.skip)))
   (.seq (.seg false [⟨some 44, none, .mov (.t 0), 0, 0, false, []⟩,
    ⟨some 45, none, .callx 0 24 [.t 44], 0, 0, false, []⟩,
    ⟨some 46, none, .mov (.t 1), 0, 0, false, []⟩,
    ⟨some 47, none, .callx 0 24 [.t 46], 0, 0, false, []⟩,
    ⟨some 48, none, .mov (.t 2), 0, 0, false, []⟩,
    ⟨some 49, none, .callx 0 56 [.t 48], 0, 0, false, []⟩,
    ⟨some 50, none, .mov (.t 3), 0, 0, false, []⟩,
    ⟨some 51, none, .callx 0 56 [.t 50], 0, 0, false, []⟩,
    ⟨some 52, none, .mov (.t 4), 0, 0, false, []⟩,
    ⟨some 53, none, .mov (.t 5), 0, 0, false, []⟩,
    ⟨some 54, none, .callx 1 50 [.t 45, .t 47, .t 49, .t 51, .t 52, .t 53], 0, 0, false, []⟩,
    ⟨some 14, none, .mov (.t 54), 0, 0, false, []⟩])
   (.cutTo [0, 1, 2, 3, 4, 5, 14] (.seq (.seg false [⟨some 55, none, .mov (.t 0), 0, 0, false, []⟩,
    ⟨some 56, none, .callx 0 24 [.t 55], 0, 0, false, []⟩,
    ⟨some 15, none, .mov (.t 56), 0, 0, false, []⟩])
   (.seq (.seg false [⟨some 57, none, .mov (.t 1), 0, 0, false, []⟩,
    ⟨some 58, none, .callx 0 24 [.t 57], 0, 0, false, []⟩,
    ⟨some 16, none, .mov (.t 58), 0, 0, false, []⟩])
   (.seq (.seg false [⟨some 59, none, .mov (.t 2), 0, 0, false, []⟩,
    ⟨some 60, none, .callx 0 56 [.t 59], 0, 0, false, []⟩,
    ⟨some 17, none, .mov (.t 60), 0, 0, false, []⟩])
   (.seq (.seg false [⟨some 61, none, .mov (.t 3), 0, 0, false, []⟩,
    ⟨some 62, none, .callx 0 56 [.t 61], 0, 0, false, []⟩,
    ⟨some 18, none, .mov (.t 62), 0, 0, false, []⟩])
   (.seq (.seg false [⟨some 63, none, .mov (.t 15), 0, 0, false, []⟩,
    ⟨some 64, none, .mov (.t 16), 0, 0, false, []⟩,
    ⟨some 65, none, .mov (.t 17), 0, 0, false, []⟩,
    ⟨some 66, none, .mov (.t 18), 0, 0, false, []⟩,
    ⟨some 67, none, .mov (.t 4), 0, 0, false, []⟩,
    ⟨some 68, none, .mov (.t 5), 0, 0, false, []⟩,
    ⟨some 69, none, .callx 0 48 [.t 63, .t 64, .t 65, .t 66, .t 67, .t 68], 0, 0, false, []⟩,
    ⟨some 19, none, .mov (.t 69), 0, 0, false, []⟩])
   (.cutTo [0, 1, 2, 3, 4, 5, 14, 15, 16, 17, 18, 19] (.seq (.seq (.seg false [⟨some 70, none, .mov (.t 19), 0, 0, false, []⟩,
    ⟨some 71, none, .mov (.t 14), 0, 0, false, []⟩,
    ⟨some 72, none, .callx 0 57 [.t 70, .t 71], 0, 0, false, []⟩,
    ⟨some 73, none, .un .not (.t 72), 0, 0, false, []⟩])
   (.cutTo [0, 1, 2, 3, 4, 5, 14, 15, 16, 17, 18, 19, 73] (.cond (.t 73) (.seq (.seg false [⟨some 12, none, .mov (.k (.bool false)), 0, 0, false, []⟩])
   (.ret))
   (.skip))))
   (.cutTo [0, 1, 2, 3, 4, 5, 14, 15, 16, 17, 18, 19] (.seq (.seq (.seg false [⟨some 74, none, .mov (.t 15), 0, 0, false, []⟩,
    ⟨some 75, none, .mov (.t 0), 0, 0, false, []⟩,
    ⟨some 76, none, .callx 0 24 [.t 75], 0, 0, false, []⟩,
    ⟨some 77, none, .callx 0 28 [.t 74, .t 76], 0, 0, false, []⟩,
    ⟨some 78, none, .un .not (.t 77), 0, 0, false, []⟩])
   (.cutTo [0, 1, 2, 3, 4, 5, 14, 15, 16, 17, 18, 19, 78] (.cond (.t 78) (.seq (.seg false [⟨some 12, none, .mov (.k (.bool false)), 0, 0, false, []⟩])
   (.ret))
   (.skip))))
   (.cutTo [0, 1, 2, 3, 4, 5, 14, 15, 16, 17, 18, 19] (.seq (.seq (.seg false [⟨some 79, none, .mov (.t 16), 0, 0, false, []⟩,
    ⟨some 80, none, .mov (.t 1), 0, 0, false, []⟩,
    ⟨some 81, none, .callx 0 24 [.t 80], 0, 0, false, []⟩,
    ⟨some 82, none, .callx 0 28 [.t 79, .t 81], 0, 0, false, []⟩,
    ⟨some 83, none, .un .not (.t 82), 0, 0, false, []⟩])
   (.cutTo [0, 1, 2, 3, 4, 5, 14, 15, 16, 17, 18, 19, 83] (.cond (.t 83) (.seq (.seg false [⟨some 12, none, .mov (.k (.bool false)), 0, 0, false, []⟩])
   (.ret))
   (.skip))))
   (.cutTo [0, 1, 2, 3, 4, 5, 14, 15, 16, 17, 18, 19] (.seq (.seq (.seg false [⟨some 84, none, .mov (.t 17), 0, 0, false, []⟩,
    ⟨some 85, none, .mov (.t 2), 0, 0, false, []⟩,
    ⟨some 86, none, .callx 0 56 [.t 85], 0, 0, false, []⟩,
    ⟨some 87, none, .callx 0 57 [.t 84, .t 86], 0, 0, false, []⟩,
    ⟨some 88, none, .un .not (.t 87), 0, 0, false, []⟩])
   (.cutTo [0, 1, 2, 3, 4, 5, 14, 15, 16, 17, 18, 19, 88] (.cond (.t 88) (.seq (.seg false [⟨some 12, none, .mov (.k (.bool false)), 0, 0, false, []⟩])
   (.ret))
   (.skip))))
   (.cutTo [0, 1, 2, 3, 4, 5, 14, 15, 16, 17, 18, 19] (.seq (.seq (.seg false [⟨some 89, none, .mov (.t 18), 0, 0, false, []⟩,
    ⟨some 90, none, .mov (.t 3), 0, 0, false, []⟩,
    ⟨some 91, none, .callx 0 56 [.t 90], 0, 0, false, []⟩,
    ⟨some 92, none, .callx 0 57 [.t 89, .t 91], 0, 0, false, []⟩,
    ⟨some 93, none, .un .not (.t 92), 0, 0, false, []⟩])
   (.cutTo [0, 1, 2, 3, 4, 5, 14, 15, 16, 17, 18, 19, 93] (.cond (.t 93) (.seq (.seg false [⟨some 12, none, .mov (.k (.bool false)), 0, 0, false, []⟩])
   (.ret))
   (.skip))))
   (.cutTo [0, 1, 2, 3, 4, 5, 14, 15, 16, 17, 18, 19] (.seq (.seg false [⟨some 20, none, .mov (.k (.int .i64 1)), 0, 0, false, []⟩])
   (.seq (.seg false [⟨some 94, none, .mov (.t 15), 0, 0, false, []⟩,
    ⟨some 95, none, .mov (.t 20), 0, 0, false, []⟩,
    ⟨some 96, none, .callx 2 30 [.t 94, .t 95], 0, 0, false, []⟩,
    ⟨some 20, none, .mov (.t 96), 0, 0, false, []⟩])
   (.cutTo [0, 1, 2, 3, 4, 5, 14, 16, 17, 18, 19, 20] (.seq (.seg false [⟨some 97, none, .mov (.t 16), 0, 0, false, []⟩,
    ⟨some 98, none, .mov (.t 20), 0, 0, false, []⟩,
    ⟨some 99, none, .callx 2 30 [.t 97, .t 98], 0, 0, false, []⟩,
    ⟨some 20, none, .mov (.t 99), 0, 0, false, []⟩])
   (.cutTo [0, 1, 2, 3, 4, 5, 14, 17, 18, 19, 20] (.seq (.seg false [⟨some 100, none, .mov (.t 17), 0, 0, false, []⟩,
    ⟨some 101, none, .mov (.t 20), 0, 0, false, []⟩,
    ⟨some 102, none, .callx 2 58 [.t 100, .t 101], 0, 0, false, []⟩,
    ⟨some 20, none, .mov (.t 102), 0, 0, false, []⟩])
   (.cutTo [0, 1, 2, 3, 4, 5, 14, 18, 19, 20] (.seq (.seg false [⟨some 103, none, .mov (.t 18), 0, 0, false, []⟩,
    ⟨some 104, none, .mov (.t 20), 0, 0, false, []⟩,
    ⟨some 105, none, .callx 2 58 [.t 103, .t 104], 0, 0, false, []⟩,
    ⟨some 20, none, .mov (.t 105), 0, 0, false, []⟩])
   (.cutTo [0, 1, 2, 3, 4, 5, 14, 19, 20] (.seq (.seq (.seg false [⟨some 106, none, .mov (.t 20), 0, 0, false, []⟩,
    ⟨some 107, none, .bin .lss (.t 106) (.k (.int .i64 0)), 0, 0, false, []⟩,
    ⟨some 108, none, .mov (.t 107), 0, 0, false, []⟩,
    ⟨some 109, some (108, false), .mov (.t 19), 0, 0, false, []⟩,
    ⟨some 110, some (108, false), .mov (.t 14), 0, 0, false, []⟩,
    ⟨some 111, some (108, false), .callx 0 57 [.t 109, .t 110], 0, 0, false, []⟩,
    ⟨some 112, some (108, false), .un .not (.t 111), 0, 0, false, []⟩,
    ⟨some 113, none, .pick (.t 108) (.k (.bool true)) (.t 112), 0, 0, false, []⟩])
   (.cutTo [0, 1, 2, 3, 4, 5, 14, 19, 113] (.cond (.t 113) (.seq (.seg false [⟨some 12, none, .mov (.k (.bool false)), 0, 0, false, []⟩])
   (.ret))
   (.skip))))
   (.cutTo [0, 1, 2, 3, 4, 5, 14, 19] (.seq (.seg false [⟨some 21, none, .mov (.k (.int .i64 1)), 0, 0, false, []⟩])
   (.seq (.seg false [⟨some 114, none, .mov (.t 19), 0, 0, false, []⟩,
    ⟨some 115, none, .mov (.t 21), 0, 0, false, []⟩,
    ⟨some 116, none, .callx 2 58 [.t 114, .t 115], 0, 0, false, []⟩,
    ⟨some 21, none, .mov (.t 116), 0, 0, false, []⟩])
   (.cutTo [0, 1, 2, 3, 4, 5, 14, 19, 21] (.seq (.seg false [⟨some 22, none, .mov (.k (.int .i64 1)), 0, 0, false, []⟩])
   (.seq (.seg false [⟨some 117, none, .mov (.t 19), 0, 0, false, []⟩,
    ⟨some 118, none, .mov (.t 22), 0, 0, false, []⟩,
    ⟨some 119, none, .callx 0 59 [.t 117, .t 118], 0, 0, false, []⟩,
    ⟨some 22, none, .mov (.t 119), 0, 0, false, []⟩])
   (.cutTo [0, 1, 2, 3, 4, 5, 14, 19, 21, 22] (.seq (.seq (.seg false [⟨some 120, none, .mov (.t 22), 0, 0, false, []⟩,
    ⟨some 121, none, .bin .lss (.t 120) (.k (.int .i64 0)), 0, 0, false, []⟩])
   (.cond (.t 121) (.seq (.seg false [⟨some 12, none, .mov (.k (.bool false)), 0, 0, false, []⟩])
   (.ret))
   (.skip)))
   (.seq (.seq (.seg false [⟨some 122, none, .mov (.t 22), 0, 0, false, []⟩,
    ⟨some 123, none, .mov (.t 21), 0, 0, false, []⟩,
    ⟨some 124, none, .bin .neq (.t 122) (.t 123), 0, 0, false, []⟩])
   (.cond (.t 124) (.seq (.seg false [⟨some 12, none, .mov (.k (.bool false)), 0, 0, false, []⟩])
   (.ret))
   (.skip)))
   (.cutTo [0, 1, 2, 3, 4, 5, 14, 19, 21] (.seq (.seg false [⟨some 125, none, .mov (.t 0), 0, 0, false, []⟩,
    ⟨some 126, none, .callx 0 24 [.t 125], 0, 0, false, []⟩,
    ⟨some 127, none, .mov (.t 1), 0, 0, false, []⟩,
    ⟨some 128, none, .callx 0 24 [.t 127], 0, 0, false, []⟩,
    ⟨some 129, none, .mov (.t 2), 0, 0, false, []⟩,
    ⟨some 130, none, .callx 0 56 [.t 129], 0, 0, false, []⟩,
    ⟨some 131, none, .mov (.t 3), 0, 0, false, []⟩,
    ⟨some 132, none, .callx 0 56 [.t 131], 0, 0, false, []⟩,
    ⟨some 133, none, .mov (.t 4), 0, 0, false, []⟩,
    ⟨some 134, none, .mov (.t 5), 0, 0, false, []⟩,
    ⟨some 135, none, .callx 0 48 [.t 126, .t 128, .t 130, .t 132, .t 133, .t 134], 0, 0, false, []⟩,
    ⟨some 23, none, .mov (.t 135), 0, 0, false, []⟩])
   (.cutTo [14, 19, 21, 23] (.seq (.seq (.seg false [⟨some 136, none, .mov (.t 23), 0, 0, false, []⟩,
    ⟨some 137, none, .mov (.t 14), 0, 0, false, []⟩,
    ⟨some 138, none, .callx 0 57 [.t 136, .t 137], 0, 0, false, []⟩,
    ⟨some 139, none, .un .not (.t 138), 0, 0, false, []⟩])
   (.cutTo [19, 21, 139] (.cond (.t 139) (.seq (.seg false [⟨some 12, none, .mov (.k (.bool false)), 0, 0, false, []⟩])
   (.ret))
   (.skip))))
   (.cutTo [19, 21] (.seq (.seg false [⟨some 22, none, .mov (.k (.int .i64 1)), 0, 0, false, []⟩])
   (.seq (.seg false [⟨some 140, none, .mov (.t 19), 0, 0, false, []⟩,
    ⟨some 141, none, .mov (.t 22), 0, 0, false, []⟩,
    ⟨some 142, none, .callx 0 59 [.t 140, .t 141], 0, 0, false, []⟩,
    ⟨some 22, none, .mov (.t 142), 0, 0, false, []⟩])
   (.cutTo [21, 22] (.seq (.seq (.seg false [⟨some 143, none, .mov (.t 22), 0, 0, false, []⟩,
    ⟨some 144, none, .bin .lss (.t 143) (.k (.int .i64 0)), 0, 0, false, []⟩])
   (.cond (.t 144) (.seq (.seg false [⟨some 12, none, .mov (.k (.bool false)), 0, 0, false, []⟩])
   (.ret))
   (.skip)))
   (.seq (.seq (.seg false [⟨some 145, none, .mov (.t 22), 0, 0, false, []⟩,
    ⟨some 146, none, .mov (.t 21), 0, 0, false, []⟩,
    ⟨some 147, none, .bin .neq (.t 145) (.t 146), 0, 0, false, []⟩])
   (.cond (.t 147) (.seq (.seg false [⟨some 12, none, .mov (.k (.bool false)), 0, 0, false, []⟩])
   (.ret))
   (.skip)))
   (.cutTo [] (.seq (.seg false [⟨some 12, none, .mov (.k (.bool true)), 0, 0, false, []⟩])
   (.ret)))))))))))))))))))))))))))))))))))))))))))))))))))))))))))))))⟩
/-- loop.example/tablehouse/laws.eqColumn -/
def F79 : F := ⟨15, [(false, 4, 0, false)],
   .seq (.seg false [⟨some 2, none, .box (.t 0), 0, 0, false, []⟩,
    ⟨some 3, none, .box (.t 1), 0, 0, false, []⟩,
    ⟨some 4, none, .mov (.k (.bool false)), 0, 0, false, []⟩])
   (.seq (.seq (.seg false [⟨some 5, none, .faddr 0 1 (.t 2), 0, 0, false, []⟩,
    ⟨some 6, none, .load false 1 (.t 5), 0, 0, false, []⟩,
    ⟨some 7, none, .faddr 0 1 (.t 3), 0, 0, false, []⟩,
    ⟨some 8, none, .load false 1 (.t 7), 0, 0, false, []⟩,
    ⟨some 9, none, .bin .neq (.t 6) (.t 8), 0, 0, false, []⟩])
   (.cutTo [2, 3, 9] (.cond (.t 9) (.seq (.seg false [⟨some 4, none, .mov (.k (.bool false)), 0, 0, false, []⟩])
   (.ret))
   (.skip))))
   (.cutTo [2, 3] (.seq (.seq (.seg false [⟨some 10, none, .faddr 1 1 (.t 2), 0, 0, false, []⟩,
    ⟨some 11, none, .load false 1 (.t 10), 0, 0, false, []⟩,
    ⟨some 12, none, .faddr 1 1 (.t 3), 0, 0, false, []⟩,
    ⟨some 13, none, .load false 1 (.t 12), 0, 0, false, []⟩,
    ⟨some 14, none, .eqb true (.t 11) (.t 13), 0, 0, false, []⟩])
   (.cutTo [14] (.cond (.t 14) (.seq (.seg false [⟨some 4, none, .mov (.k (.bool false)), 0, 0, false, []⟩])
   (.ret))
   (.skip))))
   (.cutTo [] (.seq (.seg false [⟨some 4, none, .mov (.k (.bool true)), 0, 0, false, []⟩])
   (.ret))))))⟩
def E28x0 : List I := [⟨some 17, none, .mov (.t 0), 0, 0, false, []⟩,
    ⟨some 18, none, .mov (.t 5), 0, 0, false, []⟩,
    ⟨some 19, none, .iaddr 2 (.t 17) (.t 18), 0, 0, false, []⟩,
    ⟨some 20, none, .load true 2 (.t 19), 0, 0, false, []⟩,
    ⟨some 21, none, .mov (.t 1), 0, 0, false, []⟩,
    ⟨some 22, none, .mov (.t 5), 0, 0, false, []⟩,
    ⟨some 23, none, .iaddr 2 (.t 21) (.t 22), 0, 0, false, []⟩,
    ⟨some 24, none, .load true 2 (.t 23), 0, 0, false, []⟩,
    ⟨some 25, none, .call 79 [.t 20, .t 24] false false, 0, 0, false, []⟩,
    ⟨some 26, none, .un .not (.t 25), 0, 0, false, []⟩]
def D28x0 : List I := E28x0
theorem evD28x0 (run : Run) (e : Env) (h : Heap) : drawI run D28x0 e h = DrawS (evQ run E28x0 e h) run E28x0 e h := drawI_quiet run _ (by rfl) e h
def B28x0 : C := .seq (.seq (.seg false [⟨some 11, none, .mov (.t 5), 0, 0, false, []⟩,
    ⟨some 12, none, .mov (.t 0), 0, 0, false, []⟩,
    ⟨some 13, none, .len false (.t 12), 0, 0, false, []⟩,
    ⟨some 14, none, .bin .lss (.t 11) (.t 13), 0, 0, false, []⟩])
   (.cutTo [0, 1, 5, 14] (.cond (.t 14) (.skip)
   (.exit 0))))
   (.cutTo [0, 1, 5] (.seq (.block 1 (.seq (.seg true D28x0)
   (.cutTo [0, 1, 5, 26] (.cond (.t 26) (.seq (.seg false [⟨some 4, none, .mov (.k (.bool false)), 0, 0, false, []⟩])
   (.ret))
   (.skip)))))
   (.cutTo [0, 1, 5] (.seg false [⟨some 15, none, .mov (.t 5), 0, 0, false, []⟩,
    ⟨some 16, none, .bin .add (.t 15) (.k (.int .i64 1)), 0, 0, false, []⟩,
    ⟨some 5, none, .mov (.t 16), 0, 0, false, []⟩]))))
def L28x0 : C := B28x0
theorem evL28x0 (run : Run) (draw : List I → Env → Heap → Option (Env × Heap)) (e : Env) (h : Heap) : evC run draw L28x0 e h = evC run draw B28x0 e h := rfl
/-- loop.example/tablehouse/laws.eqColumnS -/
def F28 : F := ⟨27, [(false, 4, 0, false)],
   .seq (.seg false [⟨some 4, none, .mov (.k (.bool false)), 0, 0, false, []⟩])
   (.seq (.seq (.seg false [⟨some 6, none, .mov (.t 0), 0, 0, false, []⟩,
    ⟨some 7, none, .len false (.t 6), 0, 0, false, []⟩,
    ⟨some 8, none, .mov (.t 1), 0, 0, false, []⟩,
    ⟨some 9, none, .len false (.t 8), 0, 0, false, []⟩,
    ⟨some 10, none, .bin .neq (.t 7) (.t 9), 0, 0, false, []⟩])
   (.cutTo [0, 1, 10] (.cond (.t 10) (.seq (.seg false [⟨some 4, none, .mov (.k (.bool false)), 0, 0, false, []⟩])
   (.ret))
   (.skip))))
   (.cutTo [0, 1] (.seq (.seq (.seg false [⟨some 5, none, .mov (.k (.int .i64 0)), 0, 0, false, []⟩])
   (.block 0 (.loop [0, 1, 5] [4] L28x0)))
   (.seq (.seg false [⟨some 4, none, .mov (.k (.bool true)), 0, 0, false, []⟩])
   (.ret)))))⟩
/-- loop.example/tablehouse/laws.eqValue -/
def F132 : F := ⟨20, [(false, 4, 0, false)],
   .seq (.seg false [⟨some 2, none, .box (.t 0), 0, 0, false, []⟩,
    ⟨some 3, none, .box (.t 1), 0, 0, false, []⟩,
    ⟨some 4, none, .mov (.k (.bool false)), 0, 0, false, []⟩])
   (.seq (.seq (.seg false [⟨some 5, none, .faddr 0 1 (.t 2), 0, 0, false, []⟩,
    ⟨some 6, none, .load false 1 (.t 5), 0, 0, false, []⟩,
    ⟨some 7, none, .faddr 0 1 (.t 3), 0, 0, false, []⟩,
    ⟨some 8, none, .load false 1 (.t 7), 0, 0, false, []⟩,
    ⟨some 9, none, .bin .neq (.t 6) (.t 8), 0, 0, false, []⟩])
   (.cutTo [2, 3, 9] (.cond (.t 9) (.seq (.seg false [⟨some 4, none, .mov (.k (.bool false)), 0, 0, false, []⟩])
   (.ret))
   (.skip))))
   (.cutTo [2, 3] (.seq (.seq (.seg false [⟨some 10, none, .faddr 1 1 (.t 2), 0, 0, false, []⟩,
    ⟨some 11, none, .load false 1 (.t 10), 0, 0, false, []⟩,
    ⟨some 12, none, .faddr 1 1 (.t 3), 0, 0, false, []⟩,
    ⟨some 13, none, .load false 1 (.t 12), 0, 0, false, []⟩,
    ⟨some 14, none, .bin .neq (.t 11) (.t 13), 0, 0, false, []⟩])
   (.cutTo [2, 3, 14] (.cond (.t 14) (.seq (.seg false [⟨some 4, none, .mov (.k (.bool false)), 0, 0, false, []⟩])
   (.ret))
   (.skip))))
   (.cutTo [2, 3] (.seq (.seq (.seg false [⟨some 15, none, .faddr 2 1 (.t 2), 0, 0, false, []⟩,
    ⟨some 16, none, .load false 1 (.t 15), 0, 0, false, []⟩,
    ⟨some 17, none, .faddr 2 1 (.t 3), 0, 0, false, []⟩,
    ⟨some 18, none, .load false 1 (.t 17), 0, 0, false, []⟩,
    ⟨some 19, none, .bin .neq (.t 16) (.t 18), 0, 0, false, []⟩])
   (.cutTo [19] (.cond (.t 19) (.seq (.seg false [⟨some 4, none, .mov (.k (.bool false)), 0, 0, false, []⟩])
   (.ret))
   (.skip))))
   (.cutTo [] (.seq (.seg false [⟨some 4, none, .mov (.k (.bool true)), 0, 0, false, []⟩])
   (.ret))))))))⟩
def B30x0 : C := .seq (.seq (.seg false [⟨some 6, none, .mov (.t 5), 0, 0, false, []⟩,
    ⟨some 7, none, .mov (.t 0), 0, 0, false, []⟩,
    ⟨some 8, none, .len false (.t 7), 0, 0, false, []⟩,
    ⟨some 9, none, .bin .lss (.t 6) (.t 8), 0, 0, false, []⟩])
   (.cutTo [0, 1, 5, 9] (.cond (.t 9) (.skip)
   (.exit 0))))
   (.cutTo [0, 1, 5] (.seq (.block 1 (.seq (.seg false [⟨some 12, none, .mov (.t 0), 0, 0, false, []⟩,
    ⟨some 13, none, .mov (.t 5), 0, 0, false, []⟩,
    ⟨some 14, none, .mov (.t 1), 0, 0, false, []⟩,
    ⟨some 15, none, .iaddr 2 (.t 12) (.t 13), 0, 0, false, []⟩,
    ⟨some 16, none, .faddr 0 1 (.t 15), 0, 0, false, []⟩,
    ⟨none, none, .store 1 (.t 16) (.t 14), 0, 0, false, []⟩])
   (.cutTo [0, 1, 5] (.seq (.seg false [⟨some 17, none, .mov (.t 1), 0, 0, false, []⟩,
    ⟨some 18, none, .bin .add (.t 17) (.k (.int .i64 1)), 0, 0, false, []⟩,
    ⟨some 1, none, .mov (.t 18), 0, 0, false, []⟩])
   (.seq (.seg false [⟨some 19, none, .mov (.t 0), 0, 0, false, []⟩,
    ⟨some 20, none, .mov (.t 5), 0, 0, false, []⟩,
    ⟨some 21, none, .mov (.t 1), 0, 0, false, []⟩,
    ⟨some 22, none, .bin .rem (.t 21) (.k (.int .i64 3)), 0, 0, false, []⟩,
    ⟨some 23, none, .bin .eql (.t 22) (.k (.int .i64 0)), 0, 0, false, []⟩,
    ⟨some 24, none, .iaddr 2 (.t 19) (.t 20), 0, 0, false, []⟩,
    ⟨some 25, none, .faddr 1 1 (.t 24), 0, 0, false, []⟩,
    ⟨none, none, .store 1 (.t 25) (.t 23), 0, 0, false, []⟩])
   (.cutTo [0, 1, 5] (.seg false [⟨some 26, none, .mov (.t 1), 0, 0, false, []⟩,
    ⟨some 27, none, .bin .add (.t 26) (.k (.int .i64 1)), 0, 0, false, []⟩,
    ⟨some 1, none, .mov (.t 27), 0, 0, false, []⟩])))))))
   (.cutTo [0, 1, 5] (.seg false [⟨some 10, none, .mov (.t 5), 0, 0, false, []⟩,
    ⟨some 11, none, .bin .add (.t 10) (.k (.int .i64 1)), 0, 0, false, []⟩,
    ⟨some 5, none, .mov (.t 11), 0, 0, false, []⟩]))))
def L30x0 : C := B30x0
theorem evL30x0 (run : Run) (draw : List I → Env → Heap → Option (Env × Heap)) (e : Env) (h : Heap) : evC run draw L30x0 e h = evC run draw B30x0 e h := rfl
/-- loop.example/tablehouse/laws.markColumnS -/
def F30 : F := ⟨29, [(false, 4, 0, false)],
   .seq (.seg false [⟨some 4, none, .mov (.k (.int .i64 0)), 0, 0, false, []⟩])
   (.seq (.seq (.seg false [⟨some 5, none, .mov (.k (.int .i64 0)), 0, 0, false, []⟩])
   (.block 0 (.loopk [0, 1, 5] [1] L30x0)))
   (.seq (.seg false [⟨some 28, none, .mov (.t 1), 0, 0, false, []⟩,
    ⟨some 4, none, .mov (.t 28), 0, 0, false, []⟩])
   (.ret)))⟩
def B80x0 : C := .seq (.seq (.seg false [⟨some 6, none, .mov (.t 0), 0, 0, false, []⟩,
    ⟨some 7, none, .bin .gtr (.t 6) (.k (.int .i64 0)), 0, 0, false, []⟩])
   (.cond (.t 7) (.skip)
   (.exit 0)))
   (.block 1 (.seq (.seg false [⟨some 8, none, .mov (.t 0), 0, 0, false, []⟩,
    ⟨some 9, none, .bin .rem (.t 8) (.k (.int .i64 10)), 0, 0, false, []⟩,
    ⟨some 10, none, .bin .add (.k (.int .i64 48)) (.t 9), 0, 0, false, []⟩,
    ⟨some 11, none, .conv (.int .u8) (.t 10), 0, 0, false, []⟩,
    ⟨some 12, none, .mksl false 1 [.t 11], 0, 0, false, []⟩,
    ⟨some 13, none, .conv .toStr (.t 12), 0, 0, false, []⟩,
    ⟨some 14, none, .mov (.t 3), 0, 0, false, []⟩,
    ⟨some 15, none, .bin .add (.t 13) (.t 14), 0, 0, false, []⟩,
    ⟨some 3, none, .mov (.t 15), 0, 0, false, []⟩])
   (.cutTo [0, 3] (.seg false [⟨some 16, none, .mov (.t 0), 0, 0, false, []⟩,
    ⟨some 17, none, .bin .quo (.t 16) (.k (.int .i64 10)), 0, 0, false, []⟩,
    ⟨some 0, none, .mov (.t 17), 0, 0, false, []⟩]))))
def L80x0 : C := B80x0
theorem evL80x0 (run : Run) (draw : List I → Env → Heap → Option (Env × Heap)) (e : Env) (h : Heap) : evC run draw L80x0 e h = evC run draw B80x0 e h := rfl
/-- loop.example/tablehouse/laws.markText -/
def F80 : F := ⟨20, [(false, 2, 0, false)],
   .seq (.seg false [⟨some 2, none, .mov (.k (.str ⟨#[]⟩)), 0, 0, false, []⟩])
   (.seq (.seq (.seg false [⟨some 4, none, .mov (.t 0), 0, 0, false, []⟩,
    ⟨some 5, none, .bin .leq (.t 4) (.k (.int .i64 0)), 0, 0, false, []⟩])
   (.cond (.t 5) (.seq (.seg false [⟨some 2, none, .mov (.k (.str ⟨#[109, 48]⟩)), 0, 0, false, []⟩])
   (.ret))
   (.skip)))
   (.seq (.seg false [⟨some 3, none, .mov (.k (.str ⟨#[]⟩)), 0, 0, false, []⟩])
   (.seq (.block 0 (.loop [0, 3] [3] L80x0))
   (.seq (.seg false [⟨some 18, none, .mov (.t 3), 0, 0, false, []⟩,
    ⟨some 19, none, .bin .add (.k (.str ⟨#[109]⟩)) (.t 18), 0, 0, false, []⟩,
    ⟨some 2, none, .mov (.t 19), 0, 0, false, []⟩])
   (.ret)))))⟩
/-- loop.example/tablehouse/laws.szColumnS -/
def F22 : F := ⟨12, [(false, 4, 0, false)],
   .seq (.seg false [⟨some 4, none, .mov (.k (.int .i64 0)), 0, 0, false, []⟩])
   (.seq (.seg false [⟨some 5, none, .mov (.t 1), 0, 0, false, []⟩,
    ⟨some 6, none, .mov (.t 0), 0, 0, false, []⟩,
    ⟨some 7, none, .len false (.t 6), 0, 0, false, []⟩,
    ⟨some 8, none, .bin .sub (.t 5) (.t 7), 0, 0, false, []⟩,
    ⟨some 1, none, .mov (.t 8), 0, 0, false, []⟩])
   (.cutTo [1] (.seq (.seq (.seg false [⟨some 9, none, .mov (.t 1), 0, 0, false, []⟩,
    ⟨some 10, none, .bin .lss (.t 9) (.k (.int .i64 0)), 0, 0, false, []⟩])
   (.cond (.t 10) (.seq (.seg false [⟨some 4, none, .mov (.k (.int .i64 (-1))), 0, 0, false, []⟩])
   (.ret))
   (.skip)))
   (.seq (.seg false [⟨some 11, none, .mov (.t 1), 0, 0, false, []⟩,
    ⟨some 4, none, .mov (.t 11), 0, 0, false, []⟩])
   (.ret)))))⟩
/-- loop.example/tablehouse/laws.szValue -/
def F130 : F := ⟨13, [(false, 4, 0, false)],
   .seq (.seg false [⟨some 2, none, .box (.t 0), 0, 0, false, []⟩,
    ⟨some 4, none, .mov (.k (.int .i64 0)), 0, 0, false, []⟩])
   (.seq (.seg false [⟨some 5, none, .mov (.t 1), 0, 0, false, []⟩,
    ⟨some 6, none, .faddr 2 1 (.t 2), 0, 0, false, []⟩,
    ⟨some 7, none, .load false 1 (.t 6), 0, 0, false, []⟩,
    ⟨some 8, none, .len true (.t 7), 0, 0, false, []⟩,
    ⟨some 9, none, .bin .sub (.t 5) (.t 8), 0, 0, false, []⟩,
    ⟨some 1, none, .mov (.t 9), 0, 0, false, []⟩])
   (.cutTo [1] (.seq (.seq (.seg false [⟨some 10, none, .mov (.t 1), 0, 0, false, []⟩,
    ⟨some 11, none, .bin .lss (.t 10) (.k (.int .i64 0)), 0, 0, false, []⟩])
   (.cond (.t 11) (.seq (.seg false [⟨some 4, none, .mov (.k (.int .i64 (-1))), 0, 0, false, []⟩])
   (.ret))
   (.skip)))
   (.seq (.seg false [⟨some 12, none, .mov (.t 1), 0, 0, false, []⟩,
    ⟨some 4, none, .mov (.t 12), 0, 0, false, []⟩])
   (.ret)))))⟩
/-- loop.example/tablehouse/laws.toColumn -/
def F76 : F := ⟨11, [(true, 2, 2, true)],
   .seq (.seg false [⟨some 1, none, .box (.t 0), 0, 0, false, []⟩,
    ⟨some 2, none, .alloc [.int .i64 0, .bool false], 0, 0, false, []⟩])
   (.seq (.seg false [⟨some 3, none, .alloc [.int .i64 0, .bool false], 0, 0, false, []⟩])
   (.seq (.seg false [⟨some 4, none, .faddr 0 1 (.t 1), 0, 0, false, []⟩,
    ⟨some 5, none, .load false 1 (.t 4), 0, 0, false, []⟩,
    ⟨some 6, none, .faddr 0 1 (.t 3), 0, 0, false, []⟩,
    ⟨none, none, .store 1 (.t 6) (.t 5), 0, 0, false, []⟩])
   (.cutTo [1, 2, 3] (.seq (.seg false [⟨some 7, none, .faddr 1 1 (.t 1), 0, 0, false, []⟩,
    ⟨some 8, none, .load false 1 (.t 7), 0, 0, false, []⟩,
    ⟨some 9, none, .faddr 1 1 (.t 3), 0, 0, false, []⟩,
    ⟨none, none, .store 1 (.t 9) (.t 8), 0, 0, false, []⟩])
   (.cutTo [2, 3] (.seq (.seg false [⟨some 10, none, .load true 2 (.t 3), 0, 0, false, []⟩,
    ⟨none, none, .store 2 (.t 2) (.t 10), 0, 0, false, []⟩])
   (.ret)))))))⟩
def B24x0 : C := .seq (.seq (.seg false [⟨some 8, none, .mov (.t 4), 0, 0, false, []⟩,
    ⟨some 9, none, .mov (.t 0), 0, 0, false, []⟩,
    ⟨some 10, none, .len false (.t 9), 0, 0, false, []⟩,
    ⟨some 11, none, .bin .lss (.t 8) (.t 10), 0, 0, false, []⟩])
   (.cutTo [0, 3, 4, 11] (.cond (.t 11) (.skip)
   (.exit 0))))
   (.cutTo [0, 3, 4] (.seq (.block 1 (.seg false [⟨some 14, none, .mov (.t 3), 0, 0, false, []⟩,
    ⟨some 15, none, .mov (.t 4), 0, 0, false, []⟩,
    ⟨some 16, none, .mov (.t 0), 0, 0, false, []⟩,
    ⟨some 17, none, .mov (.t 4), 0, 0, false, []⟩,
    ⟨some 18, none, .iaddr 2 (.t 16) (.t 17), 0, 0, false, []⟩,
    ⟨some 19, none, .load true 2 (.t 18), 0, 0, false, []⟩,
    ⟨some 20, none, .callx 0 76 [.t 19], 0, 0, false, []⟩,
    ⟨some 21, none, .iaddr 2 (.t 14) (.t 15), 0, 0, false, []⟩,
    ⟨none, none, .store 2 (.t 21) (.t 20), 0, 0, false, []⟩]))
   (.cutTo [0, 3, 4] (.seg false [⟨some 12, none, .mov (.t 4), 0, 0, false, []⟩,
    ⟨some 13, none, .bin .add (.t 12) (.k (.int .i64 1)), 0, 0, false, []⟩,
    ⟨some 4, none, .mov (.t 13), 0, 0, false, []⟩]))))
def L24x0 : C := B24x0
theorem evL24x0 (run : Run) (draw : List I → Env → Heap → Option (Env × Heap)) (e : Env) (h : Heap) : evC run draw L24x0 e h = evC run draw B24x0 e h := rfl
/-- loop.example/tablehouse/laws.toColumnS -/
def F24 : F := ⟨23, [(false, 2, 0, false)],
   .seq (.seg false [⟨some 2, none, .mov (.k (.sl true 2 [])), 0, 0, false, []⟩])
   (.seq (.seg false [⟨some 5, none, .mov (.t 0), 0, 0, false, []⟩,
    ⟨some 6, none, .len false (.t 5), 0, 0, false, []⟩,
    ⟨some 7, none, .mk 2 [.int .i64 0, .bool false] (.t 6), 0, 0, false, []⟩,
    ⟨some 3, none, .mov (.t 7), 0, 0, false, []⟩])
   (.cutTo [0, 3] (.seq (.seq (.seg false [⟨some 4, none, .mov (.k (.int .i64 0)), 0, 0, false, []⟩])
   (.block 0 (.loopk [0, 3, 4] [3] L24x0)))
   (.seq (.seg false [⟨some 22, none, .mov (.t 3), 0, 0, false, []⟩,
    ⟨some 2, none, .mov (.t 22), 0, 0, false, []⟩])
   (.ret)))))⟩
/-- loop.example/tablehouse/laws.toValue -/
def F131 : F := ⟨14, [(true, 2, 3, true)],
   .seq (.seg false [⟨some 1, none, .box (.t 0), 0, 0, false, []⟩,
    ⟨some 2, none, .alloc [.int .i64 0, .int .i64 0, .str ⟨#[]⟩], 0, 0, false, []⟩])
   (.seq (.seg false [⟨some 3, none, .alloc [.int .i64 0, .int .i64 0, .str ⟨#[]⟩], 0, 0, false, []⟩])
   (.seq (.seg false [⟨some 4, none, .faddr 0 1 (.t 1), 0, 0, false, []⟩,
    ⟨some 5, none, .load false 1 (.t 4), 0, 0, false, []⟩,
    ⟨some 6, none, .faddr 0 1 (.t 3), 0, 0, false, []⟩,
    ⟨none, none, .store 1 (.t 6) (.t 5), 0, 0, false, []⟩])
   (.cutTo [1, 2, 3] (.seq (.seg false [⟨some 7, none, .faddr 1 1 (.t 1), 0, 0, false, []⟩,
    ⟨some 8, none, .load false 1 (.t 7), 0, 0, false, []⟩,
    ⟨some 9, none, .faddr 1 1 (.t 3), 0, 0, false, []⟩,
    ⟨none, none, .store 1 (.t 9) (.t 8), 0, 0, false, []⟩])
   (.cutTo [1, 2, 3] (.seq (.seg false [⟨some 10, none, .faddr 2 1 (.t 1), 0, 0, false, []⟩,
    ⟨some 11, none, .load false 1 (.t 10), 0, 0, false, []⟩,
    ⟨some 12, none, .faddr 2 1 (.t 3), 0, 0, false, []⟩,
    ⟨none, none, .store 1 (.t 12) (.t 11), 0, 0, false, []⟩])
   (.cutTo [2, 3] (.seq (.seg false [⟨some 13, none, .load true 3 (.t 3), 0, 0, false, []⟩,
    ⟨none, none, .store 3 (.t 2) (.t 13), 0, 0, false, []⟩])
   (.ret)))))))))⟩
/-- slices.Clip<<><>loop.example/tablehouse/impl.Value,<>loop.example/tablehouse/impl.Value> -/
def F154 : F := ⟨9, [(false, 2, 0, false)],
   .seq (.seg false [⟨some 2, none, .mov (.k (.sl true 1 [])), 0, 0, false, []⟩])
   (.seq (.seg false [⟨some 3, none, .mov (.t 0), 0, 0, false, []⟩,
    ⟨some 4, none, .mov (.t 0), 0, 0, false, []⟩,
    ⟨some 5, none, .len false (.t 4), 0, 0, false, []⟩,
    ⟨some 6, none, .mov (.t 0), 0, 0, false, []⟩,
    ⟨some 7, none, .len false (.t 6), 0, 0, false, []⟩,
    ⟨some 8, none, .slc false 1 (.t 3) none (some (.t 5)) (some (.t 7)), 0, 0, false, []⟩,
    ⟨some 2, none, .mov (.t 8), 0, 0, false, []⟩])
   (.cutTo [2] (.ret)))⟩
/-- slices.Contains<<>loop.example/tablehouse/impl.Value,loop.example/tablehouse/impl.Value> -/
def F146 : F := ⟨9, [(false, 4, 0, false)],
   .seq (.seg false [⟨some 3, none, .box (.t 1), 0, 0, false, []⟩,
    ⟨some 4, none, .mov (.k (.bool false)), 0, 0, false, []⟩])
   (.seq (.seg false [⟨some 5, none, .mov (.t 0), 0, 0, false, []⟩,
    ⟨some 6, none, .load true 3 (.t 3), 0, 0, false, []⟩,
    ⟨some 7, none, .call 167 [.t 5, .t 6] false false, 0, 0, false, []⟩,
    ⟨some 8, none, .bin .geq (.t 7) (.k (.int .i64 0)), 0, 0, false, []⟩,
    ⟨some 4, none, .mov (.t 8), 0, 0, false, []⟩])
   (.cutTo [4] (.ret)))⟩
def E167x0 : List I := [⟨some 11, none, .load true 3 (.t 3), 0, 0, false, []⟩,
    ⟨some 12, none, .mov (.t 0), 0, 0, false, []⟩,
    ⟨some 13, none, .mov (.t 5), 0, 0, false, []⟩,
    ⟨some 14, none, .iaddr 3 (.t 12) (.t 13), 0, 0, false, []⟩,
    ⟨some 15, none, .load true 3 (.t 14), 0, 0, false, []⟩,
    ⟨some 16, none, .eqs false [.int, .int, .str] (.t 11) (.t 15), 0, 0, false, []⟩]
def D167x0 : List I := E167x0
theorem evD167x0 (run : Run) (e : Env) (h : Heap) : drawI run D167x0 e h = DrawS (evQ run E167x0 e h) run E167x0 e h := drawI_quiet run _ (by rfl) e h
def B167x0 : C := .seq (.seg false [⟨some 9, none, .bin .lss (.t 8) (.t 7), 0, 0, false, []⟩])
   (.seq (.cond (.t 9) (.skip)
   (.exit 0))
   (.seq (.block 1 (.seq (.seg false [⟨some 10, none, .mov (.t 8), 0, 0, false, []⟩,
    ⟨some 5, none, .mov (.t 10), 0, 0, false, []⟩])
   (.seq (.seg true D167x0)
   (.cutTo [0, 3, 5, 7, 8, 16] (.cond (.t 16) (.seq (.seg false [⟨some 17, none, .mov (.t 5), 0, 0, false, []⟩,
    ⟨some 4, none, .mov (.t 17), 0, 0, false, []⟩])
   (.ret))
   (.skip))))))
   (.cutTo [0, 3, 7, 8] (.seg false [⟨some 18, none, .bin .add (.t 8) (.k (.int .i64 1)), 0, 0, false, []⟩,
    ⟨some 8, none, .mov (.t 18), 0, 0, false, []⟩]))))
def L167x0 : C := B167x0
theorem evL167x0 (run : Run) (draw : List I → Env → Heap → Option (Env × Heap)) (e : Env) (h : Heap) : evC run draw L167x0 e h = evC run draw B167x0 e h := rfl
/-- slices.Index<<>loop.example/tablehouse/impl.Value,loop.example/tablehouse/impl.Value> -/
def F167 : F := ⟨19, [(false, 4, 0, false)],
   .seq (.seg false [⟨some 3, none, .box (.t 1), 0, 0, false, []⟩,
    ⟨some 4, none, .mov (.k (.int .i64 0)), 0, 0, false, []⟩])
   (.seq (.seq (.seg false [⟨some 6, none, .mov (.t 0), 0, 0, false, []⟩,
    ⟨some 7, none, .len false (.t 6), 0, 0, false, []⟩,
    ⟨some 8, none, .mov (.k (.int .i64 0)), 0, 0, false, []⟩])
   (.block 0 (.loop [0, 3, 7, 8] [4] L167x0)))
   (.seq (.seg false [⟨some 4, none, .mov (.k (.int .i64 (-1))), 0, 0, false, []⟩])
   (.ret)))⟩
def B96x0 : C := .seq (.seq (.seg false [⟨some 4, none, .mov (.t 3), 0, 0, false, []⟩,
    ⟨some 5, none, .mov (.t 0), 0, 0, false, []⟩,
    ⟨some 6, none, .len false (.t 5), 0, 0, false, []⟩,
    ⟨some 7, none, .bin .lss (.t 4) (.t 6), 0, 0, false, []⟩])
   (.cutTo [0, 3, 7] (.cond (.t 7) (.skip)
   (.exit 0))))
   (.cutTo [0, 3] (.seq (.block 1 (.seq (.seg false [⟨some 10, none, .mov (.t 0), 0, 0, false, []⟩,
    ⟨some 11, none, .mov (.t 3), 0, 0, false, []⟩,
    ⟨some 12, none, .iaddr 2 (.t 10) (.t 11), 0, 0, false, []⟩,
    ⟨some 13, none, .faddr 0 1 (.t 12), 0, 0, false, []⟩,
    ⟨some 14, none, .load false 1 (.t 13), 0, 0, false, []⟩,
    ⟨some 15, none, .call 70 [.t 14, .k (.int .i64 1), .k (.int .i64 3)] false false, 0, 0, false, []⟩,
    ⟨some 16, none, .un .not (.t 15), 0, 0, false, []⟩])
   (.cutTo [0, 3, 16] (.cond (.t 16) (.seq (.seg false [⟨some 2, none, .mov (.k (.bool false)), 0, 0, false, []⟩])
   (.ret))
   (.skip)))))
   (.cutTo [0, 3] (.seg false [⟨some 8, none, .mov (.t 3), 0, 0, false, []⟩,
    ⟨some 9, none, .bin .add (.t 8) (.k (.int .i64 1)), 0, 0, false, []⟩,
    ⟨some 3, none, .mov (.t 9), 0, 0, false, []⟩]))))
def L96x0 : C := B96x0
theorem evL96x0 (run : Run) (draw : List I → Env → Heap → Option (Env × Heap)) (e : Env) (h : Heap) : evC run draw L96x0 e h = evC run draw B96x0 e h := rfl
/-- loop.example/tablehouse/spec.ColumnsOk -/
def F96 : F := ⟨20, [(false, 2, 0, false)],
   .seq (.seg false [⟨some 2, none, .mov (.k (.bool false)), 0, 0, false, []⟩])
   (.seq (.seq (.seg false [⟨some 3, none, .mov (.k (.int .i64 0)), 0, 0, false, []⟩])
   (.block 0 (.loop [0, 3] [0, 2] L96x0)))
   (.seq (.seg false [⟨some 17, none, .mov (.t 0), 0, 0, false, []⟩,
    ⟨some 18, none, .len false (.t 17), 0, 0, false, []⟩,
    ⟨some 19, none, .bin .leq (.t 18) (.k (.int .i64 4)), 0, 0, false, []⟩,
    ⟨some 2, none, .mov (.t 19), 0, 0, false, []⟩])
   (.cutTo [2] (.ret))))⟩
def E55x0 : List I := [⟨some 31, none, .mov (.t 2), 0, 0, false, []⟩,
    ⟨some 32, none, .mov (.t 14), 0, 0, false, []⟩,
    ⟨some 33, none, .iaddr 1 (.t 31) (.t 32), 0, 0, false, []⟩,
    ⟨some 34, none, .load false 1 (.t 33), 0, 0, false, []⟩,
    ⟨some 35, none, .mov (.t 4), 0, 0, false, []⟩,
    ⟨some 36, none, .iaddr 3 (.t 34) (.t 35), 0, 0, false, []⟩,
    ⟨some 37, none, .load true 3 (.t 36), 0, 0, false, []⟩,
    ⟨some 38, none, .mov (.t 3), 0, 0, false, []⟩,
    ⟨some 39, none, .mov (.t 5), 0, 0, false, []⟩,
    ⟨some 40, none, .call 108 [.t 38, .t 39] false false, 0, 0, false, []⟩,
    ⟨some 41, none, .call 107 [.t 37, .t 40] false false, 0, 0, false, []⟩,
    ⟨some 42, none, .bin .eql (.t 41) (.k (.int .i64 1)), 0, 0, false, []⟩]
def D55x0 : List I := E55x0
theorem evD55x0 (run : Run) (e : Env) (h : Heap) : drawI run D55x0 e h = DrawS (evQ run E55x0 e h) run E55x0 e h := drawI_quiet run _ (by rfl) e h
def B55x0 : C := .seq (.seq (.seg false [⟨some 16, none, .mov (.t 14), 0, 0, false, []⟩,
    ⟨some 17, none, .mov (.t 2), 0, 0, false, []⟩,
    ⟨some 18, none, .len false (.t 17), 0, 0, false, []⟩,
    ⟨some 19, none, .bin .lss (.t 16) (.t 18), 0, 0, false, []⟩,
    ⟨some 20, none, .mov (.t 19), 0, 0, false, []⟩,
    ⟨some 21, some (20, true), .mov (.t 0), 0, 0, false, []⟩,
    ⟨some 22, some (20, true), .mov (.t 1), 0, 0, false, []⟩,
    ⟨some 23, some (20, true), .mov (.t 2), 0, 0, false, []⟩,
    ⟨some 24, some (20, true), .mov (.t 3), 0, 0, false, []⟩,
    ⟨some 25, some (20, true), .mov (.t 4), 0, 0, false, []⟩,
    ⟨some 26, some (20, true), .mov (.t 5), 0, 0, false, []⟩,
    ⟨some 27, some (20, true), .call 105 [.t 21, .t 22, .t 23, .t 24, .t 25, .t 26] false false, 0, 0, false, []⟩,
    ⟨some 28, none, .pick (.t 20) (.t 27) (.k (.bool false)), 0, 0, false, []⟩])
   (.cutTo [0, 1, 2, 3, 4, 5, 13, 14, 28] (.cond (.t 28) (.skip)
   (.exit 0))))
   (.cutTo [0, 1, 2, 3, 4, 5, 13, 14] (.seq (.block 1 (.seq (.seg true D55x0)
   (.cutTo [0, 1, 2, 3, 4, 5, 13, 14, 42] (.cond (.t 42) (.seg false [⟨some 43, none, .mov (.t 13), 0, 0, false, []⟩,
    ⟨some 44, none, .mov (.t 2), 0, 0, false, []⟩,
    ⟨some 45, none, .mov (.t 14), 0, 0, false, []⟩,
    ⟨some 46, none, .iaddr 1 (.t 44) (.t 45), 0, 0, false, []⟩,
    ⟨some 47, none, .load false 1 (.t 46), 0, 0, false, []⟩,
    ⟨some 48, none, .call 109 [.t 47] false false, 0, 0, false, []⟩,
    ⟨some 49, none, .mksl false 1 [.t 48], 0, 0, false, []⟩,
    ⟨some 50, none, .app 1 (.t 43) (.t 49), 0, 0, false, []⟩,
    ⟨some 13, none, .mov (.t 50), 0, 0, false, []⟩])
   (.skip)))))
   (.cutTo [0, 1, 2, 3, 4, 5, 13, 14] (.seg false [⟨some 29, none, .mov (.t 14), 0, 0, false, []⟩,
    ⟨some 30, none, .bin .add (.t 29) (.k (.int .i64 1)), 0, 0, false, []⟩,
    ⟨some 14, none, .mov (.t 30), 0, 0, false, []⟩]))))
def L55x0 : C := B55x0
theorem evL55x0 (run : Run) (draw : List I → Env → Heap → Option (Env × Heap)) (e : Env) (h : Heap) : evC run draw L55x0 e h = evC run draw B55x0 e h := rfl
/-- loop.example/tablehouse/spec.InRows -/
def F55 : F := ⟨52, [(false, 12, 0, false)],
   .seq (.seg false [⟨some 12, none, .nilrow 1, 0, 0, false, []⟩])
   (.seq (.seg false [⟨some 15, none, .mksl true 1 [], 0, 0, false, []⟩,
    ⟨some 13, none, .mov (.t 15), 0, 0, false, []⟩])
   (.seq (.seq (.seg false [⟨some 14, none, .mov (.k (.int .i64 0)), 0, 0, false, []⟩])
   (.block 0 (.loop [0, 1, 2, 3, 4, 5, 13, 14] [13] L55x0)))
   (.seq (.seg false [⟨some 51, none, .mov (.t 13), 0, 0, false, []⟩,
    ⟨some 12, none, .mov (.t 51), 0, 0, false, []⟩])
   (.ret))))⟩
def E107x0 : List I := [⟨some 21, none, .mov (.t 1), 0, 0, false, []⟩,
    ⟨some 22, none, .mov (.t 6), 0, 0, false, []⟩,
    ⟨some 23, none, .iaddr 3 (.t 21) (.t 22), 0, 0, false, []⟩,
    ⟨some 24, none, .load true 3 (.t 23), 0, 0, false, []⟩,
    ⟨some 25, none, .call 143 [.t 24] false false, 0, 0, false, []⟩,
    ⟨some 26, none, .un .not (.t 25), 0, 0, false, []⟩,
    ⟨some 27, none, .mov (.t 26), 0, 0, false, []⟩,
    ⟨some 28, some (27, false), .faddr 0 1 (.t 2), 0, 0, false, []⟩,
    ⟨some 29, some (27, false), .load false 1 (.t 28), 0, 0, false, []⟩,
    ⟨some 30, some (27, false), .bin .neq (.t 29) (.k (.int .i64 0)), 0, 0, false, []⟩,
    ⟨some 31, some (27, false), .mov (.t 30), 0, 0, false, []⟩,
    ⟨some 32, some (31, true), .mov (.t 1), 0, 0, false, []⟩,
    ⟨some 33, some (31, true), .mov (.t 6), 0, 0, false, []⟩,
    ⟨some 34, some (31, true), .iaddr 3 (.t 32) (.t 33), 0, 0, false, []⟩,
    ⟨some 35, some (31, true), .faddr 0 1 (.t 34), 0, 0, false, []⟩,
    ⟨some 36, some (31, true), .load false 1 (.t 35), 0, 0, false, []⟩,
    ⟨some 37, some (31, true), .bin .neq (.t 36) (.k (.int .i64 0)), 0, 0, false, []⟩,
    ⟨some 38, some (27, false), .pick (.t 31) (.t 37) (.k (.bool false)), 0, 0, false, []⟩,
    ⟨some 39, some (27, false), .mov (.t 38), 0, 0, false, []⟩,
    ⟨some 40, some (39, true), .faddr 0 1 (.t 2), 0, 0, false, []⟩,
    ⟨some 41, some (39, true), .load false 1 (.t 40), 0, 0, false, []⟩,
    ⟨some 42, some (39, true), .mov (.t 1), 0, 0, false, []⟩,
    ⟨some 43, some (39, true), .mov (.t 6), 0, 0, false, []⟩,
    ⟨some 44, some (39, true), .iaddr 3 (.t 42) (.t 43), 0, 0, false, []⟩,
    ⟨some 45, some (39, true), .faddr 0 1 (.t 44), 0, 0, false, []⟩,
    ⟨some 46, some (39, true), .load false 1 (.t 45), 0, 0, false, []⟩,
    ⟨some 47, some (39, true), .bin .neq (.t 41) (.t 46), 0, 0, false, []⟩,
    ⟨some 48, some (27, false), .pick (.t 39) (.t 47) (.k (.bool false)), 0, 0, false, []⟩,
    ⟨some 49, none, .pick (.t 27) (.k (.bool true)) (.t 48), 0, 0, false, []⟩]
def D107x0 : List I := E107x0
theorem evD107x0 (run : Run) (e : Env) (h : Heap) : drawI run D107x0 e h = DrawS (evQ run E107x0 e h) run E107x0 e h := drawI_quiet run _ (by rfl) e h
def E107x1 : List I := [⟨some 50, none, .mov (.t 5), 0, 0, false, [5]⟩,
    ⟨some 51, none, .load true 3 (.t 2), 0, 0, false, []⟩,
    ⟨some 52, none, .mov (.t 1), 0, 0, false, []⟩,
    ⟨some 53, none, .mov (.t 6), 0, 0, false, []⟩,
    ⟨some 54, none, .iaddr 3 (.t 52) (.t 53), 0, 0, false, []⟩,
    ⟨some 55, none, .load true 3 (.t 54), 0, 0, false, []⟩,
    ⟨some 56, none, .call 150 [.k (.int .i64 1), .t 51, .t 55] false false, 0, 0, false, []⟩,
    ⟨some 57, none, .call 149 [.t 50, .t 56] false false, 0, 0, false, []⟩,
    ⟨some 5, none, .mov (.t 57), 0, 0, false, []⟩]
def D107x1 : List I := E107x1
theorem evD107x1 (run : Run) (e : Env) (h : Heap) : drawI run D107x1 e h = DrawW (evW run E107x1 e h []) run E107x1 e h := drawI_write run _ e h
def B107x0 : C := .seq (.seq (.seg false [⟨some 15, none, .mov (.t 6), 0, 0, false, []⟩,
    ⟨some 16, none, .mov (.t 1), 0, 0, false, []⟩,
    ⟨some 17, none, .len false (.t 16), 0, 0, false, []⟩,
    ⟨some 18, none, .bin .lss (.t 15) (.t 17), 0, 0, false, []⟩])
   (.cutTo [1, 2, 5, 6, 18] (.cond (.t 18) (.skip)
   (.exit 0))))
   (.cutTo [1, 2, 5, 6] (.seq (.block 1 (.seq (.seq (.seg true D107x0)
   (.cutTo [1, 2, 5, 6, 49] (.cond (.t 49) (.seq (.seg false [⟨some 4, none, .mov (.k (.int .i64 2)), 0, 0, false, []⟩])
   (.ret))
   (.skip))))
   (.cutTo [1, 2, 5, 6] (.seg true D107x1))))
   (.cutTo [1, 2, 5, 6] (.seg false [⟨some 19, none, .mov (.t 6), 0, 0, false, []⟩,
    ⟨some 20, none, .bin .add (.t 19) (.k (.int .i64 1)), 0, 0, false, []⟩,
    ⟨some 6, none, .mov (.t 20), 0, 0, false, []⟩]))))
def L107x0 : C := B107x0
theorem evL107x0 (run : Run) (draw : List I → Env → Heap → Option (Env × Heap)) (e : Env) (h : Heap) : evC run draw L107x0 e h = evC run draw B107x0 e h := rfl
/-- loop.example/tablehouse/spec.InTruth -/
def F107 : F := ⟨59, [(false, 4, 0, false)],
   .seq (.seg false [⟨some 2, none, .box (.t 0), 0, 0, false, []⟩,
    ⟨some 4, none, .mov (.k (.int .i64 0)), 0, 0, false, []⟩])
   (.seq (.seq (.seg false [⟨some 7, none, .load true 3 (.t 2), 0, 0, false, []⟩,
    ⟨some 8, none, .call 143 [.t 7] false false, 0, 0, false, []⟩,
    ⟨some 9, none, .un .not (.t 8), 0, 0, false, []⟩,
    ⟨some 10, none, .mov (.t 9), 0, 0, false, []⟩,
    ⟨some 11, some (10, false), .mov (.t 1), 0, 0, false, []⟩,
    ⟨some 12, some (10, false), .len false (.t 11), 0, 0, false, []⟩,
    ⟨some 13, some (10, false), .bin .gtr (.t 12) (.k (.int .i64 30)), 0, 0, false, []⟩,
    ⟨some 14, none, .pick (.t 10) (.k (.bool true)) (.t 13), 0, 0, false, []⟩])
   (.cutTo [1, 2, 14] (.cond (.t 14) (.seq (.seg false [⟨some 4, none, .mov (.k (.int .i64 2)), 0, 0, false, []⟩])
   (.ret))
   (.skip))))
   (.cutTo [1, 2] (.seq (.seg false [⟨some 5, none, .mov (.k (.int .i64 0)), 0, 0, false, []⟩])
   (.seq (.seq (.seg false [⟨some 6, none, .mov (.k (.int .i64 0)), 0, 0, false, []⟩])
   (.block 0 (.loop [1, 2, 5, 6] [4, 5] L107x0)))
   (.seq (.seg false [⟨some 58, none, .mov (.t 5), 0, 0, false, []⟩,
    ⟨some 4, none, .mov (.t 58), 0, 0, false, []⟩])
   (.ret))))))⟩
def E50x0 : List I := [⟨some 31, none, .mov (.t 2), 0, 0, false, []⟩,
    ⟨some 32, none, .mov (.t 14), 0, 0, false, []⟩,
    ⟨some 33, none, .iaddr 1 (.t 31) (.t 32), 0, 0, false, []⟩,
    ⟨some 34, none, .load false 1 (.t 33), 0, 0, false, []⟩,
    ⟨some 35, none, .mov (.t 4), 0, 0, false, []⟩,
    ⟨some 36, none, .iaddr 3 (.t 34) (.t 35), 0, 0, false, []⟩,
    ⟨some 37, none, .load true 3 (.t 36), 0, 0, false, []⟩,
    ⟨some 38, none, .mov (.t 3), 0, 0, false, []⟩,
    ⟨some 39, none, .mov (.t 5), 0, 0, false, []⟩,
    ⟨some 40, none, .call 108 [.t 38, .t 39] false false, 0, 0, false, []⟩,
    ⟨some 41, none, .call 107 [.t 37, .t 40] false false, 0, 0, false, []⟩,
    ⟨some 42, none, .call 106 [.t 41] false false, 0, 0, false, []⟩,
    ⟨some 43, none, .bin .eql (.t 42) (.k (.int .i64 1)), 0, 0, false, []⟩]
def D50x0 : List I := E50x0
theorem evD50x0 (run : Run) (e : Env) (h : Heap) : drawI run D50x0 e h = DrawS (evQ run E50x0 e h) run E50x0 e h := drawI_quiet run _ (by rfl) e h
def B50x0 : C := .seq (.seq (.seg false [⟨some 16, none, .mov (.t 14), 0, 0, false, []⟩,
    ⟨some 17, none, .mov (.t 2), 0, 0, false, []⟩,
    ⟨some 18, none, .len false (.t 17), 0, 0, false, []⟩,
    ⟨some 19, none, .bin .lss (.t 16) (.t 18), 0, 0, false, []⟩,
    ⟨some 20, none, .mov (.t 19), 0, 0, false, []⟩,
    ⟨some 21, some (20, true), .mov (.t 0), 0, 0, false, []⟩,
    ⟨some 22, some (20, true), .mov (.t 1), 0, 0, false, []⟩,
    ⟨some 23, some (20, true), .mov (.t 2), 0, 0, false, []⟩,
    ⟨some 24, some (20, true), .mov (.t 3), 0, 0, false, []⟩,
    ⟨some 25, some (20, true), .mov (.t 4), 0, 0, false, []⟩,
    ⟨some 26, some (20, true), .mov (.t 5), 0, 0, false, []⟩,
    ⟨some 27, some (20, true), .call 105 [.t 21, .t 22, .t 23, .t 24, .t 25, .t 26] false false, 0, 0, false, []⟩,
    ⟨some 28, none, .pick (.t 20) (.t 27) (.k (.bool false)), 0, 0, false, []⟩])
   (.cutTo [0, 1, 2, 3, 4, 5, 13, 14, 28] (.cond (.t 28) (.skip)
   (.exit 0))))
   (.cutTo [0, 1, 2, 3, 4, 5, 13, 14] (.seq (.block 1 (.seq (.seg true D50x0)
   (.cutTo [0, 1, 2, 3, 4, 5, 13, 14, 43] (.cond (.t 43) (.seg false [⟨some 44, none, .mov (.t 13), 0, 0, false, []⟩,
    ⟨some 45, none, .mov (.t 2), 0, 0, false, []⟩,
    ⟨some 46, none, .mov (.t 14), 0, 0, false, []⟩,
    ⟨some 47, none, .iaddr 1 (.t 45) (.t 46), 0, 0, false, []⟩,
    ⟨some 48, none, .load false 1 (.t 47), 0, 0, false, []⟩,
    ⟨some 49, none, .call 109 [.t 48] false false, 0, 0, false, []⟩,
    ⟨some 50, none, .mksl false 1 [.t 49], 0, 0, false, []⟩,
    ⟨some 51, none, .app 1 (.t 44) (.t 50), 0, 0, false, []⟩,
    ⟨some 13, none, .mov (.t 51), 0, 0, false, []⟩])
   (.skip)))))
   (.cutTo [0, 1, 2, 3, 4, 5, 13, 14] (.seg false [⟨some 29, none, .mov (.t 14), 0, 0, false, []⟩,
    ⟨some 30, none, .bin .add (.t 29) (.k (.int .i64 1)), 0, 0, false, []⟩,
    ⟨some 14, none, .mov (.t 30), 0, 0, false, []⟩]))))
def L50x0 : C := B50x0
theorem evL50x0 (run : Run) (draw : List I → Env → Heap → Option (Env × Heap)) (e : Env) (h : Heap) : evC run draw L50x0 e h = evC run draw B50x0 e h := rfl
/-- loop.example/tablehouse/spec.NotInRows -/
def F50 : F := ⟨53, [(false, 12, 0, false)],
   .seq (.seg false [⟨some 12, none, .nilrow 1, 0, 0, false, []⟩])
   (.seq (.seg false [⟨some 15, none, .mksl true 1 [], 0, 0, false, []⟩,
    ⟨some 13, none, .mov (.t 15), 0, 0, false, []⟩])
   (.seq (.seq (.seg false [⟨some 14, none, .mov (.k (.int .i64 0)), 0, 0, false, []⟩])
   (.block 0 (.loop [0, 1, 2, 3, 4, 5, 13, 14] [13] L50x0)))
   (.seq (.seg false [⟨some 52, none, .mov (.t 13), 0, 0, false, []⟩,
    ⟨some 12, none, .mov (.t 52), 0, 0, false, []⟩])
   (.ret))))⟩
/-- loop.example/tablehouse/spec.NotOf -/
def F106 : F := ⟨10, [(false, 2, 0, false)],
   .seq (.seg false [⟨some 2, none, .mov (.k (.int .i64 0)), 0, 0, false, []⟩])
   (.seq (.seq (.seg false [⟨some 3, none, .mov (.t 0), 0, 0, false, []⟩,
    ⟨some 4, none, .call 147 [.t 3] false false, 0, 0, false, []⟩,
    ⟨some 5, none, .un .not (.t 4), 0, 0, false, []⟩])
   (.cond (.t 5) (.seq (.seg false [⟨some 2, none, .mov (.k (.int .i64 (-1))), 0, 0, false, []⟩])
   (.ret))
   (.skip)))
   (.cutTo [0] (.seq (.seg false [⟨some 6, none, .mov (.t 0), 0, 0, false, []⟩,
    ⟨some 7, none, .call 148 [.t 6] false false, 0, 0, false, []⟩,
    ⟨some 8, none, .bin .sub (.k (.int .i64 2)) (.t 7), 0, 0, false, []⟩,
    ⟨some 9, none, .call 148 [.t 8] false false, 0, 0, false, []⟩,
    ⟨some 2, none, .mov (.t 9), 0, 0, false, []⟩])
   (.cutTo [2] (.ret)))))⟩
/-- loop.example/tablehouse/spec.OrOf -/
def F149 : F := ⟨19, [(false, 4, 0, false)],
   .seq (.seg false [⟨some 4, none, .mov (.k (.int .i64 0)), 0, 0, false, []⟩])
   (.seq (.seq (.seg false [⟨some 5, none, .mov (.t 0), 0, 0, false, []⟩,
    ⟨some 6, none, .call 147 [.t 5] false false, 0, 0, false, []⟩,
    ⟨some 7, none, .un .not (.t 6), 0, 0, false, []⟩,
    ⟨some 8, none, .mov (.t 7), 0, 0, false, []⟩,
    ⟨some 9, some (8, false), .mov (.t 1), 0, 0, false, []⟩,
    ⟨some 10, some (8, false), .call 147 [.t 9] false false, 0, 0, false, []⟩,
    ⟨some 11, some (8, false), .un .not (.t 10), 0, 0, false, []⟩,
    ⟨some 12, none, .pick (.t 8) (.k (.bool true)) (.t 11), 0, 0, false, []⟩])
   (.cutTo [0, 1, 12] (.cond (.t 12) (.seq (.seg false [⟨some 4, none, .mov (.k (.int .i64 (-1))), 0, 0, false, []⟩])
   (.ret))
   (.skip))))
   (.cutTo [0, 1] (.seq (.seg false [⟨some 13, none, .mov (.t 0), 0, 0, false, []⟩,
    ⟨some 14, none, .call 148 [.t 13] false false, 0, 0, false, []⟩,
    ⟨some 15, none, .mov (.t 1), 0, 0, false, []⟩,
    ⟨some 16, none, .call 148 [.t 15] false false, 0, 0, false, []⟩,
    ⟨some 17, none, .mm true (.t 14) [.t 16], 0, 0, false, []⟩,
    ⟨some 18, none, .call 148 [.t 17] false false, 0, 0, false, []⟩,
    ⟨some 4, none, .mov (.t 18), 0, 0, false, []⟩])
   (.cutTo [4] (.ret)))))⟩
def E165x0 : List I := [⟨some 27, none, .mov (.t 1), 0, 0, false, []⟩,
    ⟨some 28, none, .mov (.t 5), 0, 0, false, []⟩,
    ⟨some 29, none, .iaddr 3 (.t 27) (.t 28), 0, 0, false, []⟩,
    ⟨some 30, none, .faddr 0 1 (.t 29), 0, 0, false, []⟩,
    ⟨some 31, none, .load false 1 (.t 30), 0, 0, false, []⟩,
    ⟨some 32, none, .mov (.t 0), 0, 0, false, []⟩,
    ⟨some 33, none, .mov (.t 5), 0, 0, false, []⟩,
    ⟨some 34, none, .iaddr 2 (.t 32) (.t 33), 0, 0, false, []⟩,
    ⟨some 35, none, .faddr 0 1 (.t 34), 0, 0, false, []⟩,
    ⟨some 36, none, .load false 1 (.t 35), 0, 0, false, []⟩,
    ⟨some 37, none, .bin .neq (.t 31) (.t 36), 0, 0, false, []⟩,
    ⟨some 38, none, .mov (.t 37), 0, 0, false, []⟩,
    ⟨some 39, some (38, true), .mov (.t 1), 0, 0, false, []⟩,
    ⟨some 40, some (38, true), .mov (.t 5), 0, 0, false, []⟩,
    ⟨some 41, some (38, true), .iaddr 3 (.t 39) (.t 40), 0, 0, false, []⟩,
    ⟨some 42, some (38, true), .faddr 0 1 (.t 41), 0, 0, false, []⟩,
    ⟨some 43, some (38, true), .load false 1 (.t 42), 0, 0, false, []⟩,
    ⟨some 44, some (38, true), .bin .neq (.t 43) (.k (.int .i64 0)), 0, 0, false, []⟩,
    ⟨some 45, some (38, true), .mov (.t 44), 0, 0, false, []⟩,
    ⟨some 46, some (45, false), .mov (.t 0), 0, 0, false, []⟩,
    ⟨some 47, some (45, false), .mov (.t 5), 0, 0, false, []⟩,
    ⟨some 48, some (45, false), .iaddr 2 (.t 46) (.t 47), 0, 0, false, []⟩,
    ⟨some 49, some (45, false), .faddr 1 1 (.t 48), 0, 0, false, []⟩,
    ⟨some 50, some (45, false), .load false 1 (.t 49), 0, 0, false, []⟩,
    ⟨some 51, some (45, false), .un .not (.t 50), 0, 0, false, []⟩,
    ⟨some 52, some (38, true), .pick (.t 45) (.k (.bool true)) (.t 51), 0, 0, false, []⟩,
    ⟨some 53, none, .pick (.t 38) (.t 52) (.k (.bool false)), 0, 0, false, []⟩]
def D165x0 : List I := E165x0
theorem evD165x0 (run : Run) (e : Env) (h : Heap) : drawI run D165x0 e h = DrawS (evQ run E165x0 e h) run E165x0 e h := drawI_quiet run _ (by rfl) e h
def B165x0 : C := .seq (.seq (.seg false [⟨some 21, none, .mov (.t 5), 0, 0, false, []⟩,
    ⟨some 22, none, .mov (.t 1), 0, 0, false, []⟩,
    ⟨some 23, none, .len false (.t 22), 0, 0, false, []⟩,
    ⟨some 24, none, .bin .lss (.t 21) (.t 23), 0, 0, false, []⟩])
   (.cutTo [0, 1, 5, 24] (.cond (.t 24) (.skip)
   (.exit 0))))
   (.cutTo [0, 1, 5] (.seq (.block 1 (.seq (.seg true D165x0)
   (.cutTo [0, 1, 5, 53] (.cond (.t 53) (.seq (.seg false [⟨some 4, none, .mov (.k (.bool false)), 0, 0, false, []⟩])
   (.ret))
   (.skip)))))
   (.cutTo [0, 1, 5] (.seg false [⟨some 25, none, .mov (.t 5), 0, 0, false, []⟩,
    ⟨some 26, none, .bin .add (.t 25) (.k (.int .i64 1)), 0, 0, false, []⟩,
    ⟨some 5, none, .mov (.t 26), 0, 0, false, []⟩]))))
def L165x0 : C := B165x0
theorem evL165x0 (run : Run) (draw : List I → Env → Heap → Option (Env × Heap)) (e : Env) (h : Heap) : evC run draw L165x0 e h = evC run draw B165x0 e h := rfl
/-- loop.example/tablehouse/spec.RowFits -/
def F165 : F := ⟨54, [(false, 4, 0, false)],
   .seq (.seg false [⟨some 4, none, .mov (.k (.bool false)), 0, 0, false, []⟩])
   (.seq (.seq (.seg false [⟨some 6, none, .mov (.t 0), 0, 0, false, []⟩,
    ⟨some 7, none, .call 96 [.t 6] false false, 0, 0, false, []⟩,
    ⟨some 8, none, .un .not (.t 7), 0, 0, false, []⟩,
    ⟨some 9, none, .mov (.t 8), 0, 0, false, []⟩,
    ⟨some 10, some (9, false), .mov (.t 1), 0, 0, false, []⟩,
    ⟨some 11, some (9, false), .call 174 [.t 10] false false, 0, 0, false, []⟩,
    ⟨some 12, some (9, false), .un .not (.t 11), 0, 0, false, []⟩,
    ⟨some 13, none, .pick (.t 9) (.k (.bool true)) (.t 12), 0, 0, false, []⟩,
    ⟨some 14, none, .mov (.t 13), 0, 0, false, []⟩,
    ⟨some 15, some (14, false), .mov (.t 1), 0, 0, false, []⟩,
    ⟨some 16, some (14, false), .len false (.t 15), 0, 0, false, []⟩,
    ⟨some 17, some (14, false), .mov (.t 0), 0, 0, false, []⟩,
    ⟨some 18, some (14, false), .len false (.t 17), 0, 0, false, []⟩,
    ⟨some 19, some (14, false), .bin .neq (.t 16) (.t 18), 0, 0, false, []⟩,
    ⟨some 20, none, .pick (.t 14) (.k (.bool true)) (.t 19), 0, 0, false, []⟩])
   (.cutTo [0, 1, 20] (.cond (.t 20) (.seq (.seg false [⟨some 4, none, .mov (.k (.bool false)), 0, 0, false, []⟩])
   (.ret))
   (.skip))))
   (.cutTo [0, 1] (.seq (.seq (.seg false [⟨some 5, none, .mov (.k (.int .i64 0)), 0, 0, false, []⟩])
   (.block 0 (.loop [0, 1, 5] [4] L165x0)))
   (.seq (.seg false [⟨some 4, none, .mov (.k (.bool true)), 0, 0, false, []⟩])
   (.ret)))))⟩
def B174x0 : C := .seq (.seq (.seg false [⟨some 4, none, .mov (.t 3), 0, 0, false, []⟩,
    ⟨some 5, none, .mov (.t 0), 0, 0, false, []⟩,
    ⟨some 6, none, .len false (.t 5), 0, 0, false, []⟩,
    ⟨some 7, none, .bin .lss (.t 4) (.t 6), 0, 0, false, []⟩])
   (.cutTo [0, 3, 7] (.cond (.t 7) (.skip)
   (.exit 0))))
   (.cutTo [0, 3] (.seq (.block 1 (.seq (.seg false [⟨some 10, none, .mov (.t 0), 0, 0, false, []⟩,
    ⟨some 11, none, .mov (.t 3), 0, 0, false, []⟩,
    ⟨some 12, none, .iaddr 3 (.t 10) (.t 11), 0, 0, false, []⟩,
    ⟨some 13, none, .load true 3 (.t 12), 0, 0, false, []⟩,
    ⟨some 14, none, .call 143 [.t 13] false false, 0, 0, false, []⟩,
    ⟨some 15, none, .un .not (.t 14), 0, 0, false, []⟩])
   (.cutTo [0, 3, 15] (.cond (.t 15) (.seq (.seg false [⟨some 2, none, .mov (.k (.bool false)), 0, 0, false, []⟩])
   (.ret))
   (.skip)))))
   (.cutTo [0, 3] (.seg false [⟨some 8, none, .mov (.t 3), 0, 0, false, []⟩,
    ⟨some 9, none, .bin .add (.t 8) (.k (.int .i64 1)), 0, 0, false, []⟩,
    ⟨some 3, none, .mov (.t 9), 0, 0, false, []⟩]))))
def L174x0 : C := B174x0
theorem evL174x0 (run : Run) (draw : List I → Env → Heap → Option (Env × Heap)) (e : Env) (h : Heap) : evC run draw L174x0 e h = evC run draw B174x0 e h := rfl
/-- loop.example/tablehouse/spec.RowOk -/
def F174 : F := ⟨19, [(false, 2, 0, false)],
   .seq (.seg false [⟨some 2, none, .mov (.k (.bool false)), 0, 0, false, []⟩])
   (.seq (.seq (.seg false [⟨some 3, none, .mov (.k (.int .i64 0)), 0, 0, false, []⟩])
   (.block 0 (.loop [0, 3] [0, 2] L174x0)))
   (.seq (.seg false [⟨some 16, none, .mov (.t 0), 0, 0, false, []⟩,
    ⟨some 17, none, .len false (.t 16), 0, 0, false, []⟩,
    ⟨some 18, none, .bin .leq (.t 17) (.k (.int .i64 4)), 0, 0, false, []⟩,
    ⟨some 2, none, .mov (.t 18), 0, 0, false, []⟩])
   (.cutTo [2] (.ret))))⟩
def B135x0 : C := .seq (.seq (.seg false [⟨some 6, none, .mov (.t 5), 0, 0, false, []⟩,
    ⟨some 7, none, .mov (.t 1), 0, 0, false, []⟩,
    ⟨some 8, none, .len false (.t 7), 0, 0, false, []⟩,
    ⟨some 9, none, .bin .lss (.t 6) (.t 8), 0, 0, false, []⟩])
   (.cutTo [0, 1, 5, 9] (.cond (.t 9) (.skip)
   (.exit 0))))
   (.cutTo [0, 1, 5] (.seq (.block 1 (.seq (.seg false [⟨some 12, none, .mov (.t 0), 0, 0, false, []⟩,
    ⟨some 13, none, .mov (.t 1), 0, 0, false, []⟩,
    ⟨some 14, none, .mov (.t 5), 0, 0, false, []⟩,
    ⟨some 15, none, .iaddr 1 (.t 13) (.t 14), 0, 0, false, []⟩,
    ⟨some 16, none, .load false 1 (.t 15), 0, 0, false, []⟩,
    ⟨some 17, none, .call 165 [.t 12, .t 16] false false, 0, 0, false, []⟩,
    ⟨some 18, none, .un .not (.t 17), 0, 0, false, []⟩])
   (.cutTo [0, 1, 5, 18] (.cond (.t 18) (.seq (.seg false [⟨some 4, none, .mov (.k (.bool false)), 0, 0, false, []⟩])
   (.ret))
   (.skip)))))
   (.cutTo [0, 1, 5] (.seg false [⟨some 10, none, .mov (.t 5), 0, 0, false, []⟩,
    ⟨some 11, none, .bin .add (.t 10) (.k (.int .i64 1)), 0, 0, false, []⟩,
    ⟨some 5, none, .mov (.t 11), 0, 0, false, []⟩]))))
def L135x0 : C := B135x0
theorem evL135x0 (run : Run) (draw : List I → Env → Heap → Option (Env × Heap)) (e : Env) (h : Heap) : evC run draw L135x0 e h = evC run draw B135x0 e h := rfl
/-- loop.example/tablehouse/spec.RowsOk -/
def F135 : F := ⟨21, [(false, 4, 0, false)],
   .seq (.seg false [⟨some 4, none, .mov (.k (.bool false)), 0, 0, false, []⟩])
   (.seq (.seq (.seg false [⟨some 5, none, .mov (.k (.int .i64 0)), 0, 0, false, []⟩])
   (.block 0 (.loop [0, 1, 5] [0, 4] L135x0)))
   (.seq (.seg false [⟨some 19, none, .mov (.t 0), 0, 0, false, []⟩,
    ⟨some 20, none, .call 96 [.t 19] false false, 0, 0, false, []⟩,
    ⟨some 4, none, .mov (.t 20), 0, 0, false, []⟩])
   (.ret)))⟩
/-- loop.example/tablehouse/spec.TruthOk -/
def F147 : F := ⟨5, [(false, 2, 0, false)],
   .seq (.seg false [⟨some 2, none, .mov (.k (.bool false)), 0, 0, false, []⟩])
   (.seq (.seg false [⟨some 3, none, .mov (.t 0), 0, 0, false, []⟩,
    ⟨some 4, none, .call 70 [.t 3, .k (.int .i64 0), .k (.int .i64 2)] false false, 0, 0, false, []⟩,
    ⟨some 2, none, .mov (.t 4), 0, 0, false, []⟩])
   (.ret))⟩
/-- loop.example/tablehouse/spec.ValueOk -/
def F143 : F := ⟨45, [(false, 2, 0, false)],
   .seq (.seg false [⟨some 1, none, .box (.t 0), 0, 0, false, []⟩,
    ⟨some 2, none, .mov (.k (.bool false)), 0, 0, false, []⟩])
   (.seq (.seq (.seg false [⟨some 3, none, .faddr 0 1 (.t 1), 0, 0, false, []⟩,
    ⟨some 4, none, .load false 1 (.t 3), 0, 0, false, []⟩])
   (.block 0 (.seq (.seg false [⟨some 6, none, .bin .eql (.t 4) (.k (.int .i64 0)), 0, 0, false, []⟩,
    ⟨some 5, none, .mov (.t 6), 0, 0, false, []⟩])
   (.cond (.t 5) (.seq (.seg false [⟨some 7, none, .faddr 1 1 (.t 1), 0, 0, false, []⟩,
    ⟨some 8, none, .load false 1 (.t 7), 0, 0, false, []⟩,
    ⟨some 9, none, .bin .eql (.t 8) (.k (.int .i64 0)), 0, 0, false, []⟩,
    ⟨some 10, none, .mov (.t 9), 0, 0, false, []⟩,
    ⟨some 11, some (10, true), .faddr 2 1 (.t 1), 0, 0, false, []⟩,
    ⟨some 12, some (10, true), .load false 1 (.t 11), 0, 0, false, []⟩,
    ⟨some 13, some (10, true), .bin .eql (.t 12) (.k (.str ⟨#[]⟩)), 0, 0, false, []⟩,
    ⟨some 14, none, .pick (.t 10) (.t 13) (.k (.bool false)), 0, 0, false, []⟩,
    ⟨some 2, none, .mov (.t 14), 0, 0, false, []⟩])
   (.cutTo [2] (.ret)))
   (.seq (.seg false [⟨some 16, none, .bin .eql (.t 4) (.k (.int .i64 1)), 0, 0, false, []⟩,
    ⟨some 15, none, .mov (.t 16), 0, 0, false, []⟩])
   (.cond (.t 15) (.seq (.seg false [⟨some 17, none, .faddr 1 1 (.t 1), 0, 0, false, []⟩,
    ⟨some 18, none, .load false 1 (.t 17), 0, 0, false, []⟩,
    ⟨some 19, none, .call 70 [.t 18, .k (.int .i64 (-9999)), .k (.int .i64 9999)] false false, 0, 0, false, []⟩,
    ⟨some 20, none, .mov (.t 19), 0, 0, false, []⟩,
    ⟨some 21, some (20, true), .faddr 2 1 (.t 1), 0, 0, false, []⟩,
    ⟨some 22, some (20, true), .load false 1 (.t 21), 0, 0, false, []⟩,
    ⟨some 23, some (20, true), .bin .eql (.t 22) (.k (.str ⟨#[]⟩)), 0, 0, false, []⟩,
    ⟨some 24, none, .pick (.t 20) (.t 23) (.k (.bool false)), 0, 0, false, []⟩,
    ⟨some 2, none, .mov (.t 24), 0, 0, false, []⟩])
   (.cutTo [2] (.ret)))
   (.seq (.seg false [⟨some 26, none, .bin .eql (.t 4) (.k (.int .i64 2)), 0, 0, false, []⟩,
    ⟨some 25, none, .mov (.t 26), 0, 0, false, []⟩])
   (.cond (.t 25) (.seq (.seg false [⟨some 27, none, .faddr 1 1 (.t 1), 0, 0, false, []⟩,
    ⟨some 28, none, .load false 1 (.t 27), 0, 0, false, []⟩,
    ⟨some 29, none, .bin .eql (.t 28) (.k (.int .i64 0)), 0, 0, false, []⟩,
    ⟨some 30, none, .mov (.t 29), 0, 0, false, []⟩,
    ⟨some 31, some (30, true), .faddr 2 1 (.t 1), 0, 0, false, []⟩,
    ⟨some 32, some (30, true), .load false 1 (.t 31), 0, 0, false, []⟩,
    ⟨some 33, some (30, true), .call 166 [.t 32] false false, 0, 0, false, []⟩,
    ⟨some 34, none, .pick (.t 30) (.t 33) (.k (.bool false)), 0, 0, false, []⟩,
    ⟨some 2, none, .mov (.t 34), 0, 0, false, []⟩])
   (.cutTo [2] (.ret)))
   (.seq (.seg false [⟨some 36, none, .bin .eql (.t 4) (.k (.int .i64 3)), 0, 0, false, []⟩,
    ⟨some 35, none, .mov (.t 36), 0, 0, false, []⟩])
   (.cond (.t 35) (.seq (.seg false [⟨some 37, none, .faddr 1 1 (.t 1), 0, 0, false, []⟩,
    ⟨some 38, none, .load false 1 (.t 37), 0, 0, false, []⟩,
    ⟨some 39, none, .call 70 [.t 38, .k (.int .i64 0), .k (.int .i64 1)] false false, 0, 0, false, []⟩,
    ⟨some 40, none, .mov (.t 39), 0, 0, false, []⟩,
    ⟨some 41, some (40, true), .faddr 2 1 (.t 1), 0, 0, false, []⟩,
    ⟨some 42, some (40, true), .load false 1 (.t 41), 0, 0, false, []⟩,
    ⟨some 43, some (40, true), .bin .eql (.t 42) (.k (.str ⟨#[]⟩)), 0, 0, false, []⟩,
    ⟨some 44, none, .pick (.t 40) (.t 43) (.k (.bool false)), 0, 0, false, []⟩,
    ⟨some 2, none, .mov (.t 44), 0, 0, false, []⟩])
   (.cutTo [2] (.ret)))
   (.skip)))))))))))
   (.cutTo [] (.seq (.seg false [⟨some 2, none, .mov (.k (.bool false)), 0, 0, false, []⟩])
   (.ret))))⟩
/-- loop.example/tablehouse/spec.ValueOrder -/
def F169 : F := ⟨44, [(false, 4, 0, false)],
   .seq (.seg false [⟨some 2, none, .box (.t 0), 0, 0, false, []⟩,
    ⟨some 3, none, .box (.t 1), 0, 0, false, []⟩,
    ⟨some 4, none, .mov (.k (.int .i64 0)), 0, 0, false, []⟩])
   (.seq (.seq (.seg false [⟨some 5, none, .load true 3 (.t 2), 0, 0, false, []⟩,
    ⟨some 6, none, .call 143 [.t 5] false false, 0, 0, false, []⟩,
    ⟨some 7, none, .un .not (.t 6), 0, 0, false, []⟩,
    ⟨some 8, none, .mov (.t 7), 0, 0, false, []⟩,
    ⟨some 9, some (8, false), .load true 3 (.t 3), 0, 0, false, []⟩,
    ⟨some 10, some (8, false), .call 143 [.t 9] false false, 0, 0, false, []⟩,
    ⟨some 11, some (8, false), .un .not (.t 10), 0, 0, false, []⟩,
    ⟨some 12, none, .pick (.t 8) (.k (.bool true)) (.t 11), 0, 0, false, []⟩])
   (.cutTo [2, 3, 12] (.cond (.t 12) (.seq (.seg false [⟨some 4, none, .mov (.k (.int .i64 0)), 0, 0, false, []⟩])
   (.ret))
   (.skip))))
   (.cutTo [2, 3] (.seq (.block 0 (.seq (.seg false [⟨some 14, none, .faddr 0 1 (.t 2), 0, 0, false, []⟩,
    ⟨some 15, none, .load false 1 (.t 14), 0, 0, false, []⟩,
    ⟨some 16, none, .faddr 0 1 (.t 3), 0, 0, false, []⟩,
    ⟨some 17, none, .load false 1 (.t 16), 0, 0, false, []⟩,
    ⟨some 18, none, .bin .neq (.t 15) (.t 17), 0, 0, false, []⟩,
    ⟨some 13, none, .mov (.t 18), 0, 0, false, []⟩])
   (.cutTo [2, 3, 13] (.cond (.t 13) (.seq (.seg false [⟨some 19, none, .faddr 0 1 (.t 3), 0, 0, false, []⟩,
    ⟨some 20, none, .load false 1 (.t 19), 0, 0, false, []⟩,
    ⟨some 21, none, .faddr 0 1 (.t 2), 0, 0, false, []⟩,
    ⟨some 22, none, .load false 1 (.t 21), 0, 0, false, []⟩,
    ⟨some 23, none, .call 175 [.t 20, .t 22] false false, 0, 0, false, []⟩,
    ⟨some 24, none, .bin .mul (.k (.int .i64 2)) (.t 23), 0, 0, false, []⟩,
    ⟨some 25, none, .bin .sub (.t 24) (.k (.int .i64 1)), 0, 0, false, []⟩,
    ⟨some 4, none, .mov (.t 25), 0, 0, false, []⟩])
   (.cutTo [4] (.ret)))
   (.seq (.seg false [⟨some 27, none, .faddr 1 1 (.t 2), 0, 0, false, []⟩,
    ⟨some 28, none, .load false 1 (.t 27), 0, 0, false, []⟩,
    ⟨some 29, none, .faddr 1 1 (.t 3), 0, 0, false, []⟩,
    ⟨some 30, none, .load false 1 (.t 29), 0, 0, false, []⟩,
    ⟨some 31, none, .bin .neq (.t 28) (.t 30), 0, 0, false, []⟩,
    ⟨some 26, none, .mov (.t 31), 0, 0, false, []⟩])
   (.cutTo [2, 3, 26] (.cond (.t 26) (.seq (.seg false [⟨some 32, none, .faddr 1 1 (.t 3), 0, 0, false, []⟩,
    ⟨some 33, none, .load false 1 (.t 32), 0, 0, false, []⟩,
    ⟨some 34, none, .faddr 1 1 (.t 2), 0, 0, false, []⟩,
    ⟨some 35, none, .load false 1 (.t 34), 0, 0, false, []⟩,
    ⟨some 36, none, .call 175 [.t 33, .t 35] false false, 0, 0, false, []⟩,
    ⟨some 37, none, .bin .mul (.k (.int .i64 2)) (.t 36), 0, 0, false, []⟩,
    ⟨some 38, none, .bin .sub (.t 37) (.k (.int .i64 1)), 0, 0, false, []⟩,
    ⟨some 4, none, .mov (.t 38), 0, 0, false, []⟩])
   (.cutTo [4] (.ret)))
   (.skip))))))))
   (.cutTo [2, 3] (.seq (.seg false [⟨some 39, none, .faddr 2 1 (.t 2), 0, 0, false, []⟩,
    ⟨some 40, none, .load false 1 (.t 39), 0, 0, false, []⟩,
    ⟨some 41, none, .faddr 2 1 (.t 3), 0, 0, false, []⟩,
    ⟨some 42, none, .load false 1 (.t 41), 0, 0, false, []⟩,
    ⟨some 43, none, .call 176 [.t 40, .t 42] false false, 0, 0, false, []⟩,
    ⟨some 4, none, .mov (.t 43), 0, 0, false, []⟩])
   (.cutTo [4] (.ret)))))))⟩
/-- loop.example/tablehouse/spec.l1Cmp -/
def F176 : F := ⟨11, [(false, 4, 0, false)],
   .seq (.seg false [⟨some 4, none, .mov (.k (.int .i64 0)), 0, 0, false, []⟩])
   (.seq (.seq (.seg false [⟨some 5, none, .mov (.t 0), 0, 0, false, []⟩,
    ⟨some 6, none, .mov (.t 1), 0, 0, false, []⟩,
    ⟨some 7, none, .bin .lss (.t 5) (.t 6), 0, 0, false, []⟩])
   (.cond (.t 7) (.seq (.seg false [⟨some 4, none, .mov (.k (.int .i64 (-1))), 0, 0, false, []⟩])
   (.ret))
   (.skip)))
   (.cutTo [0, 1] (.seq (.seq (.seg false [⟨some 8, none, .mov (.t 0), 0, 0, false, []⟩,
    ⟨some 9, none, .mov (.t 1), 0, 0, false, []⟩,
    ⟨some 10, none, .bin .gtr (.t 8) (.t 9), 0, 0, false, []⟩])
   (.cond (.t 10) (.seq (.seg false [⟨some 4, none, .mov (.k (.int .i64 1)), 0, 0, false, []⟩])
   (.ret))
   (.skip)))
   (.cutTo [] (.seq (.seg false [⟨some 4, none, .mov (.k (.int .i64 0)), 0, 0, false, []⟩])
   (.ret))))))⟩
/-- loop.example/tablehouse/spec.l1In -/
def F70 : F := ⟨15, [(false, 6, 0, false)],
   .seq (.seg false [⟨some 6, none, .mov (.k (.bool false)), 0, 0, false, []⟩])
   (.seq (.seg false [⟨some 7, none, .mov (.t 0), 0, 0, false, []⟩,
    ⟨some 8, none, .mov (.t 1), 0, 0, false, []⟩,
    ⟨some 9, none, .bin .geq (.t 7) (.t 8), 0, 0, false, []⟩,
    ⟨some 10, none, .mov (.t 9), 0, 0, false, []⟩,
    ⟨some 11, some (10, true), .mov (.t 0), 0, 0, false, []⟩,
    ⟨some 12, some (10, true), .mov (.t 2), 0, 0, false, []⟩,
    ⟨some 13, some (10, true), .bin .leq (.t 11) (.t 12), 0, 0, false, []⟩,
    ⟨some 14, none, .pick (.t 10) (.t 13) (.k (.bool false)), 0, 0, false, []⟩,
    ⟨some 6, none, .mov (.t 14), 0, 0, false, []⟩])
   (.cutTo [6] (.ret)))⟩
/-- loop.example/tablehouse/spec.l1Less -/
def F175 : F := ⟨8, [(false, 4, 0, false)],
   .seq (.seg false [⟨some 4, none, .mov (.k (.int .i64 0)), 0, 0, false, []⟩])
   (.seq (.seq (.seg false [⟨some 5, none, .mov (.t 0), 0, 0, false, []⟩,
    ⟨some 6, none, .mov (.t 1), 0, 0, false, []⟩,
    ⟨some 7, none, .bin .lss (.t 5) (.t 6), 0, 0, false, []⟩])
   (.cond (.t 7) (.seq (.seg false [⟨some 4, none, .mov (.k (.int .i64 1)), 0, 0, false, []⟩])
   (.ret))
   (.skip)))
   (.cutTo [] (.seq (.seg false [⟨some 4, none, .mov (.k (.int .i64 0)), 0, 0, false, []⟩])
   (.ret))))⟩
def B166x0 : C := .seq (.seq (.seg false [⟨some 4, none, .mov (.t 3), 0, 0, false, []⟩,
    ⟨some 5, none, .mov (.t 0), 0, 0, false, []⟩,
    ⟨some 6, none, .len true (.t 5), 0, 0, false, []⟩,
    ⟨some 7, none, .bin .lss (.t 4) (.t 6), 0, 0, false, []⟩])
   (.cutTo [0, 3, 7] (.cond (.t 7) (.skip)
   (.exit 0))))
   (.cutTo [0, 3] (.seq (.block 1 (.seq (.seg false [⟨some 10, none, .mov (.t 0), 0, 0, false, []⟩,
    ⟨some 11, none, .mov (.t 3), 0, 0, false, []⟩,
    ⟨some 12, none, .idx (.t 10) (.t 11), 0, 0, false, []⟩,
    ⟨some 13, none, .bin .lss (.t 12) (.k (.int .u8 97)), 0, 0, false, []⟩,
    ⟨some 14, none, .mov (.t 13), 0, 0, false, []⟩,
    ⟨some 15, some (14, false), .mov (.t 0), 0, 0, false, []⟩,
    ⟨some 16, some (14, false), .mov (.t 3), 0, 0, false, []⟩,
    ⟨some 17, some (14, false), .idx (.t 15) (.t 16), 0, 0, false, []⟩,
    ⟨some 18, some (14, false), .bin .gtr (.t 17) (.k (.int .u8 122)), 0, 0, false, []⟩,
    ⟨some 19, none, .pick (.t 14) (.k (.bool true)) (.t 18), 0, 0, false, []⟩])
   (.cutTo [0, 3, 19] (.cond (.t 19) (.seq (.seg false [⟨some 2, none, .mov (.k (.bool false)), 0, 0, false, []⟩])
   (.ret))
   (.skip)))))
   (.cutTo [0, 3] (.seg false [⟨some 8, none, .mov (.t 3), 0, 0, false, []⟩,
    ⟨some 9, none, .bin .add (.t 8) (.k (.int .i64 1)), 0, 0, false, []⟩,
    ⟨some 3, none, .mov (.t 9), 0, 0, false, []⟩]))))
def L166x0 : C := B166x0
theorem evL166x0 (run : Run) (draw : List I → Env → Heap → Option (Env × Heap)) (e : Env) (h : Heap) : evC run draw L166x0 e h = evC run draw B166x0 e h := rfl
/-- loop.example/tablehouse/spec.l1Text -/
def F166 : F := ⟨23, [(false, 2, 0, false)],
   .seq (.seg false [⟨some 2, none, .mov (.k (.bool false)), 0, 0, false, []⟩])
   (.seq (.seq (.seg false [⟨some 3, none, .mov (.k (.int .i64 0)), 0, 0, false, []⟩])
   (.block 0 (.loop [0, 3] [0, 2] L166x0)))
   (.seq (.seg false [⟨some 20, none, .mov (.t 0), 0, 0, false, []⟩,
    ⟨some 21, none, .len true (.t 20), 0, 0, false, []⟩,
    ⟨some 22, none, .bin .leq (.t 21) (.k (.int .i64 6)), 0, 0, false, []⟩,
    ⟨some 2, none, .mov (.t 22), 0, 0, false, []⟩])
   (.cutTo [2] (.ret))))⟩
def E105x0 : List I := [⟨some 13, none, .mov (.t 0), 0, 0, false, []⟩,
    ⟨some 14, none, .mov (.t 2), 0, 0, false, []⟩,
    ⟨some 15, none, .call 135 [.t 13, .t 14] false false, 0, 0, false, []⟩,
    ⟨some 16, none, .mov (.t 15), 0, 0, false, []⟩,
    ⟨some 17, some (16, true), .mov (.t 1), 0, 0, false, []⟩,
    ⟨some 18, some (16, true), .mov (.t 3), 0, 0, false, []⟩,
    ⟨some 19, some (16, true), .call 135 [.t 17, .t 18] false false, 0, 0, false, []⟩,
    ⟨some 20, none, .pick (.t 16) (.t 19) (.k (.bool false)), 0, 0, false, []⟩,
    ⟨some 21, none, .mov (.t 20), 0, 0, false, []⟩,
    ⟨some 22, some (21, true), .mov (.t 4), 0, 0, false, []⟩,
    ⟨some 23, some (21, true), .mov (.t 0), 0, 0, false, []⟩,
    ⟨some 24, some (21, true), .len false (.t 23), 0, 0, false, []⟩,
    ⟨some 25, some (21, true), .bin .sub (.t 24) (.k (.int .i64 1)), 0, 0, false, []⟩,
    ⟨some 26, some (21, true), .call 70 [.t 22, .k (.int .i64 0), .t 25] false false, 0, 0, false, []⟩,
    ⟨some 27, none, .pick (.t 21) (.t 26) (.k (.bool false)), 0, 0, false, []⟩,
    ⟨some 28, none, .mov (.t 27), 0, 0, false, []⟩,
    ⟨some 29, some (28, true), .mov (.t 5), 0, 0, false, []⟩,
    ⟨some 30, some (28, true), .mov (.t 1), 0, 0, false, []⟩,
    ⟨some 31, some (28, true), .len false (.t 30), 0, 0, false, []⟩,
    ⟨some 32, some (28, true), .bin .sub (.t 31) (.k (.int .i64 1)), 0, 0, false, []⟩,
    ⟨some 33, some (28, true), .call 70 [.t 29, .k (.int .i64 0), .t 32] false false, 0, 0, false, []⟩,
    ⟨some 34, none, .pick (.t 28) (.t 33) (.k (.bool false)), 0, 0, false, []⟩,
    ⟨some 35, none, .mov (.t 34), 0, 0, false, []⟩,
    ⟨some 36, some (35, true), .mov (.t 0), 0, 0, false, []⟩,
    ⟨some 37, some (35, true), .mov (.t 4), 0, 0, false, []⟩,
    ⟨some 38, some (35, true), .iaddr 2 (.t 36) (.t 37), 0, 0, false, []⟩,
    ⟨some 39, some (35, true), .faddr 0 1 (.t 38), 0, 0, false, []⟩,
    ⟨some 40, some (35, true), .load false 1 (.t 39), 0, 0, false, []⟩,
    ⟨some 41, some (35, true), .mov (.t 1), 0, 0, false, []⟩,
    ⟨some 42, some (35, true), .mov (.t 5), 0, 0, false, []⟩,
    ⟨some 43, some (35, true), .iaddr 2 (.t 41) (.t 42), 0, 0, false, []⟩,
    ⟨some 44, some (35, true), .faddr 0 1 (.t 43), 0, 0, false, []⟩,
    ⟨some 45, some (35, true), .load false 1 (.t 44), 0, 0, false, []⟩,
    ⟨some 46, some (35, true), .bin .eql (.t 40) (.t 45), 0, 0, false, []⟩,
    ⟨some 47, none, .pick (.t 35) (.t 46) (.k (.bool false)), 0, 0, false, []⟩,
    ⟨some 48, none, .mov (.t 47), 0, 0, false, []⟩,
    ⟨some 49, some (48, true), .mov (.t 0), 0, 0, false, []⟩,
    ⟨some 50, some (48, true), .len false (.t 49), 0, 0, false, []⟩,
    ⟨some 51, some (48, true), .mov (.t 1), 0, 0, false, []⟩,
    ⟨some 52, some (48, true), .len false (.t 51), 0, 0, false, []⟩,
    ⟨some 53, some (48, true), .bin .add (.t 50) (.t 52), 0, 0, false, []⟩,
    ⟨some 54, some (48, true), .bin .leq (.t 53) (.k (.int .i64 4)), 0, 0, false, []⟩,
    ⟨some 55, none, .pick (.t 48) (.t 54) (.k (.bool false)), 0, 0, false, []⟩,
    ⟨some 56, none, .mov (.t 55), 0, 0, false, []⟩,
    ⟨some 57, some (56, true), .mov (.t 2), 0, 0, false, []⟩,
    ⟨some 58, some (56, true), .len false (.t 57), 0, 0, false, []⟩,
    ⟨some 59, some (56, true), .bin .leq (.t 58) (.k (.int .i64 30)), 0, 0, false, []⟩,
    ⟨some 60, none, .pick (.t 56) (.t 59) (.k (.bool false)), 0, 0, false, []⟩,
    ⟨some 61, none, .mov (.t 60), 0, 0, false, []⟩,
    ⟨some 62, some (61, true), .mov (.t 3), 0, 0, false, []⟩,
    ⟨some 63, some (61, true), .len false (.t 62), 0, 0, false, []⟩,
    ⟨some 64, some (61, true), .bin .leq (.t 63) (.k (.int .i64 30)), 0, 0, false, []⟩,
    ⟨some 65, none, .pick (.t 61) (.t 64) (.k (.bool false)), 0, 0, false, []⟩,
    ⟨some 12, none, .mov (.t 65), 0, 0, false, []⟩]
def D105x0 : List I := E105x0
theorem evD105x0 (run : Run) (e : Env) (h : Heap) : drawI run D105x0 e h = DrawS (evQ run E105x0 e h) run E105x0 e h := drawI_quiet run _ (by rfl) e h
/-- loop.example/tablehouse/spec.l22Ready -/
def F105 : F := ⟨66, [(false, 12, 0, false)],
   .seq (.seg false [⟨some 12, none, .mov (.k (.bool false)), 0, 0, false, []⟩])
   (.seq (.seg true D105x0)
   (.cutTo [12] (.ret)))⟩
def B108x0 : C := .seq (.seq (.seg false [⟨some 8, none, .mov (.t 6), 0, 0, false, []⟩,
    ⟨some 9, none, .mov (.t 0), 0, 0, false, []⟩,
    ⟨some 10, none, .len false (.t 9), 0, 0, false, []⟩,
    ⟨some 11, none, .bin .lss (.t 8) (.t 10), 0, 0, false, []⟩])
   (.cutTo [0, 1, 5, 6, 11] (.cond (.t 11) (.skip)
   (.exit 0))))
   (.cutTo [0, 1, 5, 6] (.seq (.block 1 (.seg false [⟨some 14, none, .mov (.t 5), 0, 0, false, []⟩,
    ⟨some 15, none, .mov (.t 0), 0, 0, false, []⟩,
    ⟨some 16, none, .mov (.t 6), 0, 0, false, []⟩,
    ⟨some 17, none, .iaddr 1 (.t 15) (.t 16), 0, 0, false, []⟩,
    ⟨some 18, none, .load false 1 (.t 17), 0, 0, false, []⟩,
    ⟨some 19, none, .mov (.t 1), 0, 0, false, []⟩,
    ⟨some 20, none, .iaddr 3 (.t 18) (.t 19), 0, 0, false, []⟩,
    ⟨some 21, none, .load true 3 (.t 20), 0, 0, false, []⟩,
    ⟨some 22, none, .mksl false 3 [.t 21], 0, 0, false, []⟩,
    ⟨some 23, none, .app 3 (.t 14) (.t 22), 0, 0, false, []⟩,
    ⟨some 5, none, .mov (.t 23), 0, 0, false, []⟩]))
   (.cutTo [0, 1, 5, 6] (.seg false [⟨some 12, none, .mov (.t 6), 0, 0, false, []⟩,
    ⟨some 13, none, .bin .add (.t 12) (.k (.int .i64 1)), 0, 0, false, []⟩,
    ⟨some 6, none, .mov (.t 13), 0, 0, false, []⟩]))))
def L108x0 : C := B108x0
theorem evL108x0 (run : Run) (draw : List I → Env → Heap → Option (Env × Heap)) (e : Env) (h : Heap) : evC run draw L108x0 e h = evC run draw B108x0 e h := rfl
/-- loop.example/tablehouse/spec.l23Values -/
def F108 : F := ⟨25, [(false, 4, 0, false)],
   .seq (.seg false [⟨some 4, none, .nilrow 3, 0, 0, false, []⟩])
   (.seq (.seg false [⟨some 7, none, .mksl true 3 [], 0, 0, false, []⟩,
    ⟨some 5, none, .mov (.t 7), 0, 0, false, []⟩])
   (.seq (.seq (.seg false [⟨some 6, none, .mov (.k (.int .i64 0)), 0, 0, false, []⟩])
   (.block 0 (.loop [0, 1, 5, 6] [5] L108x0)))
   (.seq (.seg false [⟨some 24, none, .mov (.t 5), 0, 0, false, []⟩,
    ⟨some 4, none, .mov (.t 24), 0, 0, false, []⟩])
   (.ret))))⟩
/-- loop.example/tablehouse/spec.l2Sure -/
def F148 : F := ⟨7, [(false, 2, 0, false)],
   .seq (.seg false [⟨some 2, none, .mov (.k (.int .i64 0)), 0, 0, false, []⟩])
   (.seq (.seg false [⟨some 3, none, .mksl false 1 [.k (.int .i64 0), .k (.int .i64 2), .k (.int .i64 1)], 0, 0, false, []⟩,
    ⟨some 4, none, .mov (.t 0), 0, 0, false, []⟩,
    ⟨some 5, none, .iaddr 1 (.t 3) (.t 4), 0, 0, false, []⟩,
    ⟨some 6, none, .load false 1 (.t 5), 0, 0, false, []⟩,
    ⟨some 2, none, .mov (.t 6), 0, 0, false, []⟩])
   (.cutTo [2] (.ret)))⟩
/-- slices.ContainsFunc<<>int,int> -/
def F66 : F := ⟨9, [(false, 4, 0, false)],
   .seq (.seg false [⟨some 4, none, .mov (.k (.bool false)), 0, 0, false, []⟩])
   (.seq (.seg false [⟨some 5, none, .mov (.t 0), 0, 0, false, []⟩,
    ⟨some 6, none, .mov (.t 1), 0, 0, false, []⟩,
    ⟨some 7, none, .call 122 [.t 5, .t 6] true false, 0, 0, false, []⟩,
    ⟨some 8, none, .bin .geq (.t 7) (.k (.int .i64 0)), 0, 0, false, []⟩,
    ⟨some 4, none, .mov (.t 8), 0, 0, false, []⟩])
   (.cutTo [4] (.ret)))⟩
/-- cmp.Compare<int> -/
def F178 : F := ⟨20, [(false, 4, 0, false)],
   .seq (.seg false [⟨some 4, none, .mov (.k (.int .i64 0)), 0, 0, false, []⟩])
   (.seq (.seg false [⟨some 7, none, .mov (.t 0), 0, 0, false, []⟩,
    ⟨some 8, none, .call 181 [.t 7] false false, 0, 0, false, []⟩,
    ⟨some 5, none, .mov (.t 8), 0, 0, false, []⟩])
   (.seq (.seg false [⟨some 9, none, .mov (.t 1), 0, 0, false, []⟩,
    ⟨some 10, none, .call 181 [.t 9] false false, 0, 0, false, []⟩,
    ⟨some 6, none, .mov (.t 10), 0, 0, false, []⟩])
   (.seq (.seq (.seg false [⟨some 11, none, .mov (.t 5), 0, 0, false, []⟩])
   (.cond (.t 11) (.seq (.seq (.seg false [⟨some 12, none, .mov (.t 6), 0, 0, false, []⟩])
   (.cond (.t 12) (.seq (.seg false [⟨some 4, none, .mov (.k (.int .i64 0)), 0, 0, false, []⟩])
   (.ret))
   (.skip)))
   (.seq (.seg false [⟨some 4, none, .mov (.k (.int .i64 (-1))), 0, 0, false, []⟩])
   (.ret)))
   (.skip)))
   (.cutTo [0, 1, 6] (.seq (.seq (.seg false [⟨some 13, none, .mov (.t 6), 0, 0, false, []⟩])
   (.cond (.t 13) (.seq (.seg false [⟨some 4, none, .mov (.k (.int .i64 1)), 0, 0, false, []⟩])
   (.ret))
   (.skip)))
   (.seq (.seq (.seg false [⟨some 14, none, .mov (.t 0), 0, 0, false, []⟩,
    ⟨some 15, none, .mov (.t 1), 0, 0, false, []⟩,
    ⟨some 16, none, .bin .lss (.t 14) (.t 15), 0, 0, false, []⟩])
   (.cond (.t 16) (.seq (.seg false [⟨some 4, none, .mov (.k (.int .i64 (-1))), 0, 0, false, []⟩])
   (.ret))
   (.skip)))
   (.cutTo [0, 1] (.seq (.seq (.seg false [⟨some 17, none, .mov (.t 0), 0, 0, false, []⟩,
    ⟨some 18, none, .mov (.t 1), 0, 0, false, []⟩,
    ⟨some 19, none, .bin .gtr (.t 17) (.t 18), 0, 0, false, []⟩])
   (.cond (.t 19) (.seq (.seg false [⟨some 4, none, .mov (.k (.int .i64 1)), 0, 0, false, []⟩])
   (.ret))
   (.skip)))
   (.cutTo [] (.seq (.seg false [⟨some 4, none, .mov (.k (.int .i64 0)), 0, 0, false, []⟩])
   (.ret)))))))))))⟩
/-- cmp.Compare<string> -/
def F179 : F := ⟨20, [(false, 4, 0, false)],
   .seq (.seg false [⟨some 4, none, .mov (.k (.int .i64 0)), 0, 0, false, []⟩])
   (.seq (.seg false [⟨some 7, none, .mov (.t 0), 0, 0, false, []⟩,
    ⟨some 8, none, .call 182 [.t 7] false false, 0, 0, false, []⟩,
    ⟨some 5, none, .mov (.t 8), 0, 0, false, []⟩])
   (.seq (.seg false [⟨some 9, none, .mov (.t 1), 0, 0, false, []⟩,
    ⟨some 10, none, .call 182 [.t 9] false false, 0, 0, false, []⟩,
    ⟨some 6, none, .mov (.t 10), 0, 0, false, []⟩])
   (.seq (.seq (.seg false [⟨some 11, none, .mov (.t 5), 0, 0, false, []⟩])
   (.cond (.t 11) (.seq (.seq (.seg false [⟨some 12, none, .mov (.t 6), 0, 0, false, []⟩])
   (.cond (.t 12) (.seq (.seg false [⟨some 4, none, .mov (.k (.int .i64 0)), 0, 0, false, []⟩])
   (.ret))
   (.skip)))
   (.seq (.seg false [⟨some 4, none, .mov (.k (.int .i64 (-1))), 0, 0, false, []⟩])
   (.ret)))
   (.skip)))
   (.cutTo [0, 1, 6] (.seq (.seq (.seg false [⟨some 13, none, .mov (.t 6), 0, 0, false, []⟩])
   (.cond (.t 13) (.seq (.seg false [⟨some 4, none, .mov (.k (.int .i64 1)), 0, 0, false, []⟩])
   (.ret))
   (.skip)))
   (.seq (.seq (.seg false [⟨some 14, none, .mov (.t 0), 0, 0, false, []⟩,
    ⟨some 15, none, .mov (.t 1), 0, 0, false, []⟩,
    ⟨some 16, none, .bin .lss (.t 14) (.t 15), 0, 0, false, []⟩])
   (.cond (.t 16) (.seq (.seg false [⟨some 4, none, .mov (.k (.int .i64 (-1))), 0, 0, false, []⟩])
   (.ret))
   (.skip)))
   (.cutTo [0, 1] (.seq (.seq (.seg false [⟨some 17, none, .mov (.t 0), 0, 0, false, []⟩,
    ⟨some 18, none, .mov (.t 1), 0, 0, false, []⟩,
    ⟨some 19, none, .bin .gtr (.t 17) (.t 18), 0, 0, false, []⟩])
   (.cond (.t 19) (.seq (.seg false [⟨some 4, none, .mov (.k (.int .i64 1)), 0, 0, false, []⟩])
   (.ret))
   (.skip)))
   (.cutTo [] (.seq (.seg false [⟨some 4, none, .mov (.k (.int .i64 0)), 0, 0, false, []⟩])
   (.ret)))))))))))⟩
def B177x0 : C := .seq (.seg false [⟨some 9, none, .bin .lss (.t 8) (.t 7), 0, 0, false, []⟩])
   (.seq (.cond (.t 9) (.skip)
   (.exit 0))
   (.seq (.block 1 (.seq (.seg false [⟨some 10, none, .iaddr 1 (.t 6) (.t 8), 0, 0, false, []⟩,
    ⟨some 11, none, .load false 1 (.t 10), 0, 0, false, []⟩,
    ⟨some 5, none, .mov (.t 11), 0, 0, false, []⟩])
   (.seq (.seg false [⟨some 12, none, .mov (.t 5), 0, 0, false, []⟩,
    ⟨some 13, none, .mov (.t 3), 0, 0, false, []⟩,
    ⟨some 14, none, .bin .neq (.t 12) (.t 13), 0, 0, false, []⟩])
   (.cond (.t 14) (.seq (.seg false [⟨some 15, none, .mov (.t 5), 0, 0, false, []⟩,
    ⟨some 2, none, .mov (.t 15), 0, 0, false, []⟩])
   (.ret))
   (.skip)))))
   (.cutTo [3, 6, 7, 8] (.seg false [⟨some 16, none, .bin .add (.t 8) (.k (.int .i64 1)), 0, 0, false, []⟩,
    ⟨some 8, none, .mov (.t 16), 0, 0, false, []⟩]))))
def L177x0 : C := B177x0
theorem evL177x0 (run : Run) (draw : List I → Env → Heap → Option (Env × Heap)) (e : Env) (h : Heap) : evC run draw L177x0 e h = evC run draw B177x0 e h := rfl
/-- cmp.Or<int> -/
def F177 : F := ⟨18, [(false, 2, 0, false)],
   .seq (.seg false [⟨some 2, none, .mov (.k (.int .i64 0)), 0, 0, false, []⟩])
   (.seq (.seg false [⟨some 3, none, .mov (.k (.int .i64 0)), 0, 0, false, []⟩])
   (.seq (.seq (.seg false [⟨some 6, none, .mov (.t 0), 0, 0, false, []⟩,
    ⟨some 7, none, .len false (.t 6), 0, 0, false, []⟩,
    ⟨some 8, none, .mov (.k (.int .i64 0)), 0, 0, false, []⟩])
   (.block 0 (.loop [3, 6, 7, 8] [2, 3] L177x0)))
   (.seq (.seg false [⟨some 17, none, .mov (.t 3), 0, 0, false, []⟩,
    ⟨some 2, none, .mov (.t 17), 0, 0, false, []⟩])
   (.ret))))⟩
/-- slices.ContainsFunc<<>loop.example/tablehouse/impl.Column,loop.example/tablehouse/impl.Column> -/
def F124 : F := ⟨9, [(false, 4, 0, false)],
   .seq (.seg false [⟨some 4, none, .mov (.k (.bool false)), 0, 0, false, []⟩])
   (.seq (.seg false [⟨some 5, none, .mov (.t 0), 0, 0, false, []⟩,
    ⟨some 6, none, .mov (.t 1), 0, 0, false, []⟩,
    ⟨some 7, none, .call 156 [.t 5, .t 6] true false, 0, 0, false, []⟩,
    ⟨some 8, none, .bin .geq (.t 7) (.k (.int .i64 0)), 0, 0, false, []⟩,
    ⟨some 4, none, .mov (.t 8), 0, 0, false, []⟩])
   (.cutTo [4] (.ret)))⟩
/-- slices.ContainsFunc<<>loop.example/tablehouse/impl.Value,loop.example/tablehouse/impl.Value> -/
def F126 : F := ⟨9, [(false, 4, 0, false)],
   .seq (.seg false [⟨some 4, none, .mov (.k (.bool false)), 0, 0, false, []⟩])
   (.seq (.seg false [⟨some 5, none, .mov (.t 0), 0, 0, false, []⟩,
    ⟨some 6, none, .mov (.t 1), 0, 0, false, []⟩,
    ⟨some 7, none, .call 157 [.t 5, .t 6] true false, 0, 0, false, []⟩,
    ⟨some 8, none, .bin .geq (.t 7) (.k (.int .i64 0)), 0, 0, false, []⟩,
    ⟨some 4, none, .mov (.t 8), 0, 0, false, []⟩])
   (.cutTo [4] (.ret)))⟩
/-- slices.ContainsFunc<<><>loop.example/tablehouse/impl.Value,<>loop.example/tablehouse/impl.Value> -/
def F110 : F := ⟨9, [(false, 4, 0, false)],
   .seq (.seg false [⟨some 4, none, .mov (.k (.bool false)), 0, 0, false, []⟩])
   (.seq (.seg false [⟨some 5, none, .mov (.t 0), 0, 0, false, []⟩,
    ⟨some 6, none, .mov (.t 1), 0, 0, false, []⟩,
    ⟨some 7, none, .call 151 [.t 5, .t 6] true false, 0, 0, false, []⟩,
    ⟨some 8, none, .bin .geq (.t 7) (.k (.int .i64 0)), 0, 0, false, []⟩,
    ⟨some 4, none, .mov (.t 8), 0, 0, false, []⟩])
   (.cutTo [4] (.ret)))⟩
/-- slices.Clip<<>loop.example/tablehouse/impl.Value,loop.example/tablehouse/impl.Value> -/
def F171 : F := ⟨9, [(false, 2, 0, false)],
   .seq (.seg false [⟨some 2, none, .mov (.k (.sl true 3 [])), 0, 0, false, []⟩])
   (.seq (.seg false [⟨some 3, none, .mov (.t 0), 0, 0, false, []⟩,
    ⟨some 4, none, .mov (.t 0), 0, 0, false, []⟩,
    ⟨some 5, none, .len false (.t 4), 0, 0, false, []⟩,
    ⟨some 6, none, .mov (.t 0), 0, 0, false, []⟩,
    ⟨some 7, none, .len false (.t 6), 0, 0, false, []⟩,
    ⟨some 8, none, .slc false 3 (.t 3) none (some (.t 5)) (some (.t 7)), 0, 0, false, []⟩,
    ⟨some 2, none, .mov (.t 8), 0, 0, false, []⟩])
   (.cutTo [2] (.ret)))⟩
def B54x0 : C := .seq (.seq (.seg false [⟨some 12, none, .mov (.t 5), 0, 0, false, []⟩,
    ⟨some 13, none, .mov (.t 0), 0, 0, false, []⟩,
    ⟨some 14, none, .len false (.t 13), 0, 0, false, []⟩,
    ⟨some 15, none, .bin .lss (.t 12) (.t 14), 0, 0, false, []⟩])
   (.cutTo [0, 1, 5, 15] (.cond (.t 15) (.skip)
   (.exit 0))))
   (.cutTo [0, 1, 5] (.seq (.block 1 (.seq (.seg false [⟨some 18, none, .mov (.t 0), 0, 0, false, []⟩,
    ⟨some 19, none, .mov (.t 5), 0, 0, false, []⟩,
    ⟨some 20, none, .iaddr 1 (.t 18) (.t 19), 0, 0, false, []⟩,
    ⟨some 21, none, .load false 1 (.t 20), 0, 0, false, []⟩,
    ⟨some 22, none, .mov (.t 1), 0, 0, false, []⟩,
    ⟨some 23, none, .call 114 [.t 21, .t 22] false false, 0, 0, false, []⟩,
    ⟨some 1, none, .mov (.t 23), 0, 0, false, []⟩])
   (.cutTo [0, 1, 5] (.seq (.seg false [⟨some 24, none, .mov (.t 1), 0, 0, false, []⟩,
    ⟨some 25, none, .bin .lss (.t 24) (.k (.int .i64 0)), 0, 0, false, []⟩])
   (.cond (.t 25) (.seq (.seg false [⟨some 4, none, .mov (.k (.int .i64 (-1))), 0, 0, false, []⟩])
   (.ret))
   (.skip))))))
   (.cutTo [0, 1, 5] (.seg false [⟨some 16, none, .mov (.t 5), 0, 0, false, []⟩,
    ⟨some 17, none, .bin .add (.t 16) (.k (.int .i64 1)), 0, 0, false, []⟩,
    ⟨some 5, none, .mov (.t 17), 0, 0, false, []⟩]))))
def L54x0 : C := B54x0
theorem evL54x0 (run : Run) (draw : List I → Env → Heap → Option (Env × Heap)) (e : Env) (h : Heap) : evC run draw L54x0 e h = evC run draw B54x0 e h := rfl
/-- loop.example/tablehouse/laws.szValueSS -/
def F54 : F := ⟨27, [(false, 4, 0, false)],
   .seq (.seg false [⟨some 4, none, .mov (.k (.int .i64 0)), 0, 0, false, []⟩])
   (.seq (.seg false [⟨some 6, none, .mov (.t 1), 0, 0, false, []⟩,
    ⟨some 7, none, .mov (.t 0), 0, 0, false, []⟩,
    ⟨some 8, none, .len false (.t 7), 0, 0, false, []⟩,
    ⟨some 9, none, .bin .sub (.t 6) (.t 8), 0, 0, false, []⟩,
    ⟨some 1, none, .mov (.t 9), 0, 0, false, []⟩])
   (.cutTo [0, 1] (.seq (.seq (.seg false [⟨some 10, none, .mov (.t 1), 0, 0, false, []⟩,
    ⟨some 11, none, .bin .lss (.t 10) (.k (.int .i64 0)), 0, 0, false, []⟩])
   (.cond (.t 11) (.seq (.seg false [⟨some 4, none, .mov (.k (.int .i64 (-1))), 0, 0, false, []⟩])
   (.ret))
   (.skip)))
   (.seq (.seq (.seg false [⟨some 5, none, .mov (.k (.int .i64 0)), 0, 0, false, []⟩])
   (.block 0 (.loop [0, 1, 5] [1, 4] L54x0)))
   (.seq (.seg false [⟨some 26, none, .mov (.t 1), 0, 0, false, []⟩,
    ⟨some 4, none, .mov (.t 26), 0, 0, false, []⟩])
   (.ret))))))⟩
def B56x0 : C := .seq (.seq (.seg false [⟨some 8, none, .mov (.t 4), 0, 0, false, []⟩,
    ⟨some 9, none, .mov (.t 0), 0, 0, false, []⟩,
    ⟨some 10, none, .len false (.t 9), 0, 0, false, []⟩,
    ⟨some 11, none, .bin .lss (.t 8) (.t 10), 0, 0, false, []⟩])
   (.cutTo [0, 3, 4, 11] (.cond (.t 11) (.skip)
   (.exit 0))))
   (.cutTo [0, 3, 4] (.seq (.block 1 (.seg false [⟨some 14, none, .mov (.t 3), 0, 0, false, []⟩,
    ⟨some 15, none, .mov (.t 4), 0, 0, false, []⟩,
    ⟨some 16, none, .mov (.t 0), 0, 0, false, []⟩,
    ⟨some 17, none, .mov (.t 4), 0, 0, false, []⟩,
    ⟨some 18, none, .iaddr 1 (.t 16) (.t 17), 0, 0, false, []⟩,
    ⟨some 19, none, .load false 1 (.t 18), 0, 0, false, []⟩,
    ⟨some 20, none, .callx 0 115 [.t 19], 0, 0, false, []⟩,
    ⟨some 21, none, .iaddr 1 (.t 14) (.t 15), 0, 0, false, []⟩,
    ⟨none, none, .store 1 (.t 21) (.t 20), 0, 0, false, []⟩]))
   (.cutTo [0, 3, 4] (.seg false [⟨some 12, none, .mov (.t 4), 0, 0, false, []⟩,
    ⟨some 13, none, .bin .add (.t 12) (.k (.int .i64 1)), 0, 0, false, []⟩,
    ⟨some 4, none, .mov (.t 13), 0, 0, false, []⟩]))))
def L56x0 : C := B56x0
theorem evL56x0 (run : Run) (draw : List I → Env → Heap → Option (Env × Heap)) (e : Env) (h : Heap) : evC run draw L56x0 e h = evC run draw B56x0 e h := rfl
/-- loop.example/tablehouse/laws.toValueSS -/
def F56 : F := ⟨23, [(false, 2, 0, false)],
   .seq (.seg false [⟨some 2, none, .mov (.k (.sl true 1 [])), 0, 0, false, []⟩])
   (.seq (.seg false [⟨some 5, none, .mov (.t 0), 0, 0, false, []⟩,
    ⟨some 6, none, .len false (.t 5), 0, 0, false, []⟩,
    ⟨some 7, none, .mkn 1 [.sl true 3 []] (.t 6), 0, 0, false, []⟩,
    ⟨some 3, none, .mov (.t 7), 0, 0, false, []⟩])
   (.cutTo [0, 3] (.seq (.seq (.seg false [⟨some 4, none, .mov (.k (.int .i64 0)), 0, 0, false, []⟩])
   (.block 0 (.loopk [0, 3, 4] [3] L56x0)))
   (.seq (.seg false [⟨some 22, none, .mov (.t 3), 0, 0, false, []⟩,
    ⟨some 2, none, .mov (.t 22), 0, 0, false, []⟩])
   (.ret)))))⟩
def E57x0 : List I := [⟨some 17, none, .mov (.t 0), 0, 0, false, []⟩,
    ⟨some 18, none, .mov (.t 5), 0, 0, false, []⟩,
    ⟨some 19, none, .iaddr 1 (.t 17) (.t 18), 0, 0, false, []⟩,
    ⟨some 20, none, .load false 1 (.t 19), 0, 0, false, []⟩,
    ⟨some 21, none, .mov (.t 1), 0, 0, false, []⟩,
    ⟨some 22, none, .mov (.t 5), 0, 0, false, []⟩,
    ⟨some 23, none, .iaddr 1 (.t 21) (.t 22), 0, 0, false, []⟩,
    ⟨some 24, none, .load false 1 (.t 23), 0, 0, false, []⟩,
    ⟨some 25, none, .call 116 [.t 20, .t 24] false false, 0, 0, false, []⟩,
    ⟨some 26, none, .un .not (.t 25), 0, 0, false, []⟩]
def D57x0 : List I := E57x0
theorem evD57x0 (run : Run) (e : Env) (h : Heap) : drawI run D57x0 e h = DrawS (evQ run E57x0 e h) run E57x0 e h := drawI_quiet run _ (by rfl) e h
def B57x0 : C := .seq (.seq (.seg false [⟨some 11, none, .mov (.t 5), 0, 0, false, []⟩,
    ⟨some 12, none, .mov (.t 0), 0, 0, false, []⟩,
    ⟨some 13, none, .len false (.t 12), 0, 0, false, []⟩,
    ⟨some 14, none, .bin .lss (.t 11) (.t 13), 0, 0, false, []⟩])
   (.cutTo [0, 1, 5, 14] (.cond (.t 14) (.skip)
   (.exit 0))))
   (.cutTo [0, 1, 5] (.seq (.block 1 (.seq (.seg true D57x0)
   (.cutTo [0, 1, 5, 26] (.cond (.t 26) (.seq (.seg false [⟨some 4, none, .mov (.k (.bool false)), 0, 0, false, []⟩])
   (.ret))
   (.skip)))))
   (.cutTo [0, 1, 5] (.seg false [⟨some 15, none, .mov (.t 5), 0, 0, false, []⟩,
    ⟨some 16, none, .bin .add (.t 15) (.k (.int .i64 1)), 0, 0, false, []⟩,
    ⟨some 5, none, .mov (.t 16), 0, 0, false, []⟩]))))
def L57x0 : C := B57x0
theorem evL57x0 (run : Run) (draw : List I → Env → Heap → Option (Env × Heap)) (e : Env) (h : Heap) : evC run draw L57x0 e h = evC run draw B57x0 e h := rfl
/-- loop.example/tablehouse/laws.eqValueSS -/
def F57 : F := ⟨27, [(false, 4, 0, false)],
   .seq (.seg false [⟨some 4, none, .mov (.k (.bool false)), 0, 0, false, []⟩])
   (.seq (.seq (.seg false [⟨some 6, none, .mov (.t 0), 0, 0, false, []⟩,
    ⟨some 7, none, .len false (.t 6), 0, 0, false, []⟩,
    ⟨some 8, none, .mov (.t 1), 0, 0, false, []⟩,
    ⟨some 9, none, .len false (.t 8), 0, 0, false, []⟩,
    ⟨some 10, none, .bin .neq (.t 7) (.t 9), 0, 0, false, []⟩])
   (.cutTo [0, 1, 10] (.cond (.t 10) (.seq (.seg false [⟨some 4, none, .mov (.k (.bool false)), 0, 0, false, []⟩])
   (.ret))
   (.skip))))
   (.cutTo [0, 1] (.seq (.seq (.seg false [⟨some 5, none, .mov (.k (.int .i64 0)), 0, 0, false, []⟩])
   (.block 0 (.loop [0, 1, 5] [4] L57x0)))
   (.seq (.seg false [⟨some 4, none, .mov (.k (.bool true)), 0, 0, false, []⟩])
   (.ret)))))⟩
def B58x0 : C := .seq (.seq (.seg false [⟨some 6, none, .mov (.t 5), 0, 0, false, []⟩,
    ⟨some 7, none, .mov (.t 0), 0, 0, false, []⟩,
    ⟨some 8, none, .len false (.t 7), 0, 0, false, []⟩,
    ⟨some 9, none, .bin .lss (.t 6) (.t 8), 0, 0, false, []⟩])
   (.cutTo [0, 1, 5, 9] (.cond (.t 9) (.skip)
   (.exit 0))))
   (.cutTo [0, 1, 5] (.seq (.block 1 (.seg false [⟨some 12, none, .mov (.t 0), 0, 0, false, []⟩,
    ⟨some 13, none, .mov (.t 5), 0, 0, false, []⟩,
    ⟨some 14, none, .iaddr 1 (.t 12) (.t 13), 0, 0, false, []⟩,
    ⟨some 15, none, .load false 1 (.t 14), 0, 0, false, []⟩,
    ⟨some 16, none, .mov (.t 1), 0, 0, false, []⟩,
    ⟨some 17, none, .callx 2 117 [.t 15, .t 16], 0, 0, false, []⟩,
    ⟨some 1, none, .mov (.t 17), 0, 0, false, []⟩]))
   (.cutTo [0, 1, 5] (.seg false [⟨some 10, none, .mov (.t 5), 0, 0, false, []⟩,
    ⟨some 11, none, .bin .add (.t 10) (.k (.int .i64 1)), 0, 0, false, []⟩,
    ⟨some 5, none, .mov (.t 11), 0, 0, false, []⟩]))))
def L58x0 : C := B58x0
theorem evL58x0 (run : Run) (draw : List I → Env → Heap → Option (Env × Heap)) (e : Env) (h : Heap) : evC run draw L58x0 e h = evC run draw B58x0 e h := rfl
/-- loop.example/tablehouse/laws.markValueSS -/
def F58 : F := ⟨19, [(false, 4, 0, false)],
   .seq (.seg false [⟨some 4, none, .mov (.k (.int .i64 0)), 0, 0, false, []⟩])
   (.seq (.seq (.seg false [⟨some 5, none, .mov (.k (.int .i64 0)), 0, 0, false, []⟩])
   (.block 0 (.loopk [0, 1, 5] [1] L58x0)))
   (.seq (.seg false [⟨some 18, none, .mov (.t 1), 0, 0, false, []⟩,
    ⟨some 4, none, .mov (.t 18), 0, 0, false, []⟩])
   (.ret)))⟩
def B59x0 : C := .seq (.seq (.seg false [⟨some 6, none, .mov (.t 5), 0, 0, false, []⟩,
    ⟨some 7, none, .mov (.t 0), 0, 0, false, []⟩,
    ⟨some 8, none, .len false (.t 7), 0, 0, false, []⟩,
    ⟨some 9, none, .bin .lss (.t 6) (.t 8), 0, 0, false, []⟩])
   (.cutTo [0, 1, 5, 9] (.cond (.t 9) (.skip)
   (.exit 0))))
   (.cutTo [0, 1, 5] (.seq (.block 1 (.seq (.seg false [⟨some 12, none, .mov (.t 0), 0, 0, false, []⟩,
    ⟨some 13, none, .mov (.t 5), 0, 0, false, []⟩,
    ⟨some 14, none, .iaddr 1 (.t 12) (.t 13), 0, 0, false, []⟩,
    ⟨some 15, none, .load false 1 (.t 14), 0, 0, false, []⟩,
    ⟨some 16, none, .mov (.t 1), 0, 0, false, []⟩,
    ⟨some 17, none, .call 118 [.t 15, .t 16] false false, 0, 0, false, []⟩,
    ⟨some 1, none, .mov (.t 17), 0, 0, false, []⟩])
   (.cutTo [0, 1, 5] (.seq (.seg false [⟨some 18, none, .mov (.t 1), 0, 0, false, []⟩,
    ⟨some 19, none, .bin .lss (.t 18) (.k (.int .i64 0)), 0, 0, false, []⟩])
   (.cond (.t 19) (.seq (.seg false [⟨some 4, none, .mov (.k (.int .i64 (-1))), 0, 0, false, []⟩])
   (.ret))
   (.skip))))))
   (.cutTo [0, 1, 5] (.seg false [⟨some 10, none, .mov (.t 5), 0, 0, false, []⟩,
    ⟨some 11, none, .bin .add (.t 10) (.k (.int .i64 1)), 0, 0, false, []⟩,
    ⟨some 5, none, .mov (.t 11), 0, 0, false, []⟩]))))
def L59x0 : C := B59x0
theorem evL59x0 (run : Run) (draw : List I → Env → Heap → Option (Env × Heap)) (e : Env) (h : Heap) : evC run draw L59x0 e h = evC run draw B59x0 e h := rfl
/-- loop.example/tablehouse/laws.heldValueSS -/
def F59 : F := ⟨21, [(false, 4, 0, false)],
   .seq (.seg false [⟨some 4, none, .mov (.k (.int .i64 0)), 0, 0, false, []⟩])
   (.seq (.seq (.seg false [⟨some 5, none, .mov (.k (.int .i64 0)), 0, 0, false, []⟩])
   (.block 0 (.loop [0, 1, 5] [1, 4] L59x0)))
   (.seq (.seg false [⟨some 20, none, .mov (.t 1), 0, 0, false, []⟩,
    ⟨some 4, none, .mov (.t 20), 0, 0, false, []⟩])
   (.ret)))⟩
/-- loop.example/tablehouse/spec.l3Own -/
def F109 : F := ⟨6, [(false, 2, 0, false)],
   .seq (.seg false [⟨some 2, none, .nilrow 3, 0, 0, false, []⟩])
   (.seq (.seg false [⟨some 3, none, .mksl true 3 [], 0, 0, false, []⟩,
    ⟨some 4, none, .mov (.t 0), 0, 0, false, []⟩,
    ⟨some 5, none, .app 3 (.t 3) (.t 4), 0, 0, false, []⟩,
    ⟨some 2, none, .mov (.t 5), 0, 0, false, []⟩])
   (.cutTo [2] (.ret)))⟩
/-- loop.example/tablehouse/spec.Compare -/
def F150 : F := ⟨65, [(false, 6, 0, false)],
   .seq (.seg false [⟨some 4, none, .box (.t 1), 0, 0, false, []⟩,
    ⟨some 5, none, .box (.t 2), 0, 0, false, []⟩,
    ⟨some 6, none, .mov (.k (.int .i64 0)), 0, 0, false, []⟩])
   (.seq (.block 0 (.seq (.seg false [⟨some 8, none, .mov (.t 0), 0, 0, false, []⟩,
    ⟨some 9, none, .call 70 [.t 8, .k (.int .i64 1), .k (.int .i64 4)] false false, 0, 0, false, []⟩,
    ⟨some 10, none, .un .not (.t 9), 0, 0, false, []⟩,
    ⟨some 11, none, .mov (.t 10), 0, 0, false, []⟩,
    ⟨some 12, some (11, false), .load true 3 (.t 4), 0, 0, false, []⟩,
    ⟨some 13, some (11, false), .call 143 [.t 12] false false, 0, 0, false, []⟩,
    ⟨some 14, some (11, false), .un .not (.t 13), 0, 0, false, []⟩,
    ⟨some 15, none, .pick (.t 11) (.k (.bool true)) (.t 14), 0, 0, false, []⟩,
    ⟨some 16, none, .mov (.t 15), 0, 0, false, []⟩,
    ⟨some 17, some (16, false), .load true 3 (.t 5), 0, 0, false, []⟩,
    ⟨some 18, some (16, false), .call 143 [.t 17] false false, 0, 0, false, []⟩,
    ⟨some 19, some (16, false), .un .not (.t 18), 0, 0, false, []⟩,
    ⟨some 20, none, .pick (.t 16) (.k (.bool true)) (.t 19), 0, 0, false, []⟩,
    ⟨some 7, none, .mov (.t 20), 0, 0, false, []⟩])
   (.cutTo [0, 4, 5, 7] (.cond (.t 7) (.seq (.seg false [⟨some 6, none, .mov (.k (.int .i64 (-1))), 0, 0, false, []⟩])
   (.ret))
   (.seq (.seg false [⟨some 22, none, .faddr 0 1 (.t 4), 0, 0, false, []⟩,
    ⟨some 23, none, .load false 1 (.t 22), 0, 0, false, []⟩,
    ⟨some 24, none, .bin .eql (.t 23) (.k (.int .i64 0)), 0, 0, false, []⟩,
    ⟨some 25, none, .mov (.t 24), 0, 0, false, []⟩,
    ⟨some 26, some (25, false), .faddr 0 1 (.t 5), 0, 0, false, []⟩,
    ⟨some 27, some (25, false), .load false 1 (.t 26), 0, 0, false, []⟩,
    ⟨some 28, some (25, false), .bin .eql (.t 27) (.k (.int .i64 0)), 0, 0, false, []⟩,
    ⟨some 29, none, .pick (.t 25) (.k (.bool true)) (.t 28), 0, 0, false, []⟩,
    ⟨some 21, none, .mov (.t 29), 0, 0, false, []⟩])
   (.cutTo [0, 4, 5, 21] (.cond (.t 21) (.seq (.seg false [⟨some 6, none, .mov (.k (.int .i64 2)), 0, 0, false, []⟩])
   (.ret))
   (.seq (.seg false [⟨some 31, none, .faddr 0 1 (.t 4), 0, 0, false, []⟩,
    ⟨some 32, none, .load false 1 (.t 31), 0, 0, false, []⟩,
    ⟨some 33, none, .faddr 0 1 (.t 5), 0, 0, false, []⟩,
    ⟨some 34, none, .load false 1 (.t 33), 0, 0, false, []⟩,
    ⟨some 35, none, .bin .neq (.t 32) (.t 34), 0, 0, false, []⟩,
    ⟨some 30, none, .mov (.t 35), 0, 0, false, []⟩])
   (.cutTo [0, 4, 5, 30] (.cond (.t 30) (.seq (.seg false [⟨some 6, none, .mov (.k (.int .i64 (-1))), 0, 0, false, []⟩])
   (.ret))
   (.seq (.seg false [⟨some 37, none, .mov (.t 0), 0, 0, false, []⟩,
    ⟨some 38, none, .bin .eql (.t 37) (.k (.int .i64 1)), 0, 0, false, []⟩,
    ⟨some 36, none, .mov (.t 38), 0, 0, false, []⟩])
   (.cond (.t 36) (.seq (.seg false [⟨some 39, none, .load true 3 (.t 4), 0, 0, false, []⟩,
    ⟨some 40, none, .load true 3 (.t 5), 0, 0, false, []⟩,
    ⟨some 41, none, .call 169 [.t 39, .t 40] false false, 0, 0, false, []⟩,
    ⟨some 42, none, .bin .eql (.t 41) (.k (.int .i64 0)), 0, 0, false, []⟩,
    ⟨some 43, none, .call 168 [.t 42] false false, 0, 0, false, []⟩,
    ⟨some 6, none, .mov (.t 43), 0, 0, false, []⟩])
   (.cutTo [6] (.ret)))
   (.seq (.seg false [⟨some 45, none, .mov (.t 0), 0, 0, false, []⟩,
    ⟨some 46, none, .bin .eql (.t 45) (.k (.int .i64 2)), 0, 0, false, []⟩,
    ⟨some 44, none, .mov (.t 46), 0, 0, false, []⟩])
   (.cond (.t 44) (.seq (.seg false [⟨some 47, none, .load true 3 (.t 4), 0, 0, false, []⟩,
    ⟨some 48, none, .load true 3 (.t 5), 0, 0, false, []⟩,
    ⟨some 49, none, .call 169 [.t 47, .t 48] false false, 0, 0, false, []⟩,
    ⟨some 50, none, .bin .neq (.t 49) (.k (.int .i64 0)), 0, 0, false, []⟩,
    ⟨some 51, none, .call 168 [.t 50] false false, 0, 0, false, []⟩,
    ⟨some 6, none, .mov (.t 51), 0, 0, false, []⟩])
   (.cutTo [6] (.ret)))
   (.seq (.seg false [⟨some 53, none, .mov (.t 0), 0, 0, false, []⟩,
    ⟨some 54, none, .bin .eql (.t 53) (.k (.int .i64 3)), 0, 0, false, []⟩,
    ⟨some 52, none, .mov (.t 54), 0, 0, false, []⟩])
   (.cond (.t 52) (.seq (.seg false [⟨some 55, none, .load true 3 (.t 4), 0, 0, false, []⟩,
    ⟨some 56, none, .load true 3 (.t 5), 0, 0, false, []⟩,
    ⟨some 57, none, .call 169 [.t 55, .t 56] false false, 0, 0, false, []⟩,
    ⟨some 58, none, .bin .lss (.t 57) (.k (.int .i64 0)), 0, 0, false, []⟩,
    ⟨some 59, none, .call 168 [.t 58] false false, 0, 0, false, []⟩,
    ⟨some 6, none, .mov (.t 59), 0, 0, false, []⟩])
   (.cutTo [6] (.ret)))
   (.skip)))))))))))))))))
   (.cutTo [4, 5] (.seq (.seg false [⟨some 60, none, .load true 3 (.t 4), 0, 0, false, []⟩,
    ⟨some 61, none, .load true 3 (.t 5), 0, 0, false, []⟩,
    ⟨some 62, none, .call 169 [.t 60, .t 61] false false, 0, 0, false, []⟩,
    ⟨some 63, none, .bin .leq (.t 62) (.k (.int .i64 0)), 0, 0, false, []⟩,
    ⟨some 64, none, .call 168 [.t 63] false false, 0, 0, false, []⟩,
    ⟨some 6, none, .mov (.t 64), 0, 0, false, []⟩])
   (.cutTo [6] (.ret)))))⟩
def B122x0 : C := .seq (.seg false [⟨some 9, none, .bin .lss (.t 8) (.t 7), 0, 0, false, []⟩])
   (.seq (.cond (.t 9) (.skip)
   (.exit 0))
   (.seq (.block 1 (.seq (.seg false [⟨some 10, none, .mov (.t 8), 0, 0, false, []⟩,
    ⟨some 5, none, .mov (.t 10), 0, 0, false, []⟩])
   (.seq (.seg false [⟨some 11, none, .mov (.t 1), 0, 0, false, []⟩,
    ⟨some 12, none, .mov (.t 0), 0, 0, false, []⟩,
    ⟨some 13, none, .mov (.t 5), 0, 0, false, []⟩,
    ⟨some 14, none, .iaddr 1 (.t 12) (.t 13), 0, 0, false, []⟩,
    ⟨some 15, none, .load false 1 (.t 14), 0, 0, false, []⟩,
    ⟨some 16, none, .callv (.t 11) [.t 15] false, 0, 0, false, []⟩])
   (.cutTo [0, 1, 5, 7, 8, 16] (.cond (.t 16) (.seq (.seg false [⟨some 17, none, .mov (.t 5), 0, 0, false, []⟩,
    ⟨some 4, none, .mov (.t 17), 0, 0, false, []⟩])
   (.ret))
   (.skip))))))
   (.cutTo [0, 1, 7, 8] (.seg false [⟨some 18, none, .bin .add (.t 8) (.k (.int .i64 1)), 0, 0, false, []⟩,
    ⟨some 8, none, .mov (.t 18), 0, 0, false, []⟩]))))
def L122x0 : C := B122x0
theorem evL122x0 (run : Run) (draw : List I → Env → Heap → Option (Env × Heap)) (e : Env) (h : Heap) : evC run draw L122x0 e h = evC run draw B122x0 e h := rfl
/-- slices.IndexFunc<<>int,int> -/
def F122 : F := ⟨19, [(false, 4, 0, false)],
   .seq (.seg false [⟨some 4, none, .mov (.k (.int .i64 0)), 0, 0, false, []⟩])
   (.seq (.seq (.seg false [⟨some 6, none, .mov (.t 0), 0, 0, false, []⟩,
    ⟨some 7, none, .len false (.t 6), 0, 0, false, []⟩,
    ⟨some 8, none, .mov (.k (.int .i64 0)), 0, 0, false, []⟩])
   (.block 0 (.loop [0, 1, 7, 8] [4] L122x0)))
   (.seq (.seg false [⟨some 4, none, .mov (.k (.int .i64 (-1))), 0, 0, false, []⟩])
   (.ret)))⟩
/-- cmp.isNaN<int> -/
def F181 : F := ⟨6, [(false, 2, 0, false)],
   .seq (.seg false [⟨some 2, none, .mov (.k (.bool false)), 0, 0, false, []⟩])
   (.seq (.seg false [⟨some 3, none, .mov (.t 0), 0, 0, false, []⟩,
    ⟨some 4, none, .mov (.t 0), 0, 0, false, []⟩,
    ⟨some 5, none, .bin .neq (.t 3) (.t 4), 0, 0, false, []⟩,
    ⟨some 2, none, .mov (.t 5), 0, 0, false, []⟩])
   (.cutTo [2] (.ret)))⟩
/-- cmp.isNaN<string> -/
def F182 : F := ⟨6, [(false, 2, 0, false)],
   .seq (.seg false [⟨some 2, none, .mov (.k (.bool false)), 0, 0, false, []⟩])
   (.seq (.seg false [⟨some 3, none, .mov (.t 0), 0, 0, false, []⟩,
    ⟨some 4, none, .mov (.t 0), 0, 0, false, []⟩,
    ⟨some 5, none, .bin .neq (.t 3) (.t 4), 0, 0, false, []⟩,
    ⟨some 2, none, .mov (.t 5), 0, 0, false, []⟩])
   (.cutTo [2] (.ret)))⟩
def B156x0 : C := .seq (.seg false [⟨some 9, none, .bin .lss (.t 8) (.t 7), 0, 0, false, []⟩])
   (.seq (.cond (.t 9) (.skip)
   (.exit 0))
   (.seq (.block 1 (.seq (.seg false [⟨some 10, none, .mov (.t 8), 0, 0, false, []⟩,
    ⟨some 5, none, .mov (.t 10), 0, 0, false, []⟩])
   (.seq (.seg false [⟨some 11, none, .mov (.t 1), 0, 0, false, []⟩,
    ⟨some 12, none, .mov (.t 0), 0, 0, false, []⟩,
    ⟨some 13, none, .mov (.t 5), 0, 0, false, []⟩,
    ⟨some 14, none, .iaddr 2 (.t 12) (.t 13), 0, 0, false, []⟩,
    ⟨some 15, none, .load true 2 (.t 14), 0, 0, false, []⟩,
    ⟨some 16, none, .callv (.t 11) [.t 15] false, 0, 0, false, []⟩])
   (.cutTo [0, 1, 5, 7, 8, 16] (.cond (.t 16) (.seq (.seg false [⟨some 17, none, .mov (.t 5), 0, 0, false, []⟩,
    ⟨some 4, none, .mov (.t 17), 0, 0, false, []⟩])
   (.ret))
   (.skip))))))
   (.cutTo [0, 1, 7, 8] (.seg false [⟨some 18, none, .bin .add (.t 8) (.k (.int .i64 1)), 0, 0, false, []⟩,
    ⟨some 8, none, .mov (.t 18), 0, 0, false, []⟩]))))
def L156x0 : C := B156x0
theorem evL156x0 (run : Run) (draw : List I → Env → Heap → Option (Env × Heap)) (e : Env) (h : Heap) : evC run draw L156x0 e h = evC run draw B156x0 e h := rfl
/-- slices.IndexFunc<<>loop.example/tablehouse/impl.Column,loop.example/tablehouse/impl.Column> -/
def F156 : F := ⟨19, [(false, 4, 0, false)],
   .seq (.seg false [⟨some 4, none, .mov (.k (.int .i64 0)), 0, 0, false, []⟩])
   (.seq (.seq (.seg false [⟨some 6, none, .mov (.t 0), 0, 0, false, []⟩,
    ⟨some 7, none, .len false (.t 6), 0, 0, false, []⟩,
    ⟨some 8, none, .mov (.k (.int .i64 0)), 0, 0, false, []⟩])
   (.block 0 (.loop [0, 1, 7, 8] [4] L156x0)))
   (.seq (.seg false [⟨some 4, none, .mov (.k (.int .i64 (-1))), 0, 0, false, []⟩])
   (.ret)))⟩
def B157x0 : C := .seq (.seg false [⟨some 9, none, .bin .lss (.t 8) (.t 7), 0, 0, false, []⟩])
   (.seq (.cond (.t 9) (.skip)
   (.exit 0))
   (.seq (.block 1 (.seq (.seg false [⟨some 10, none, .mov (.t 8), 0, 0, false, []⟩,
    ⟨some 5, none, .mov (.t 10), 0, 0, false, []⟩])
   (.seq (.seg false [⟨some 11, none, .mov (.t 1), 0, 0, false, []⟩,
    ⟨some 12, none, .mov (.t 0), 0, 0, false, []⟩,
    ⟨some 13, none, .mov (.t 5), 0, 0, false, []⟩,
    ⟨some 14, none, .iaddr 3 (.t 12) (.t 13), 0, 0, false, []⟩,
    ⟨some 15, none, .load true 3 (.t 14), 0, 0, false, []⟩,
    ⟨some 16, none, .callv (.t 11) [.t 15] false, 0, 0, false, []⟩])
   (.cutTo [0, 1, 5, 7, 8, 16] (.cond (.t 16) (.seq (.seg false [⟨some 17, none, .mov (.t 5), 0, 0, false, []⟩,
    ⟨some 4, none, .mov (.t 17), 0, 0, false, []⟩])
   (.ret))
   (.skip))))))
   (.cutTo [0, 1, 7, 8] (.seg false [⟨some 18, none, .bin .add (.t 8) (.k (.int .i64 1)), 0, 0, false, []⟩,
    ⟨some 8, none, .mov (.t 18), 0, 0, false, []⟩]))))
def L157x0 : C := B157x0
theorem evL157x0 (run : Run) (draw : List I → Env → Heap → Option (Env × Heap)) (e : Env) (h : Heap) : evC run draw L157x0 e h = evC run draw B157x0 e h := rfl
/-- slices.IndexFunc<<>loop.example/tablehouse/impl.Value,loop.example/tablehouse/impl.Value> -/
def F157 : F := ⟨19, [(false, 4, 0, false)],
   .seq (.seg false [⟨some 4, none, .mov (.k (.int .i64 0)), 0, 0, false, []⟩])
   (.seq (.seq (.seg false [⟨some 6, none, .mov (.t 0), 0, 0, false, []⟩,
    ⟨some 7, none, .len false (.t 6), 0, 0, false, []⟩,
    ⟨some 8, none, .mov (.k (.int .i64 0)), 0, 0, false, []⟩])
   (.block 0 (.loop [0, 1, 7, 8] [4] L157x0)))
   (.seq (.seg false [⟨some 4, none, .mov (.k (.int .i64 (-1))), 0, 0, false, []⟩])
   (.ret)))⟩
def B151x0 : C := .seq (.seg false [⟨some 9, none, .bin .lss (.t 8) (.t 7), 0, 0, false, []⟩])
   (.seq (.cond (.t 9) (.skip)
   (.exit 0))
   (.seq (.block 1 (.seq (.seg false [⟨some 10, none, .mov (.t 8), 0, 0, false, []⟩,
    ⟨some 5, none, .mov (.t 10), 0, 0, false, []⟩])
   (.seq (.seg false [⟨some 11, none, .mov (.t 1), 0, 0, false, []⟩,
    ⟨some 12, none, .mov (.t 0), 0, 0, false, []⟩,
    ⟨some 13, none, .mov (.t 5), 0, 0, false, []⟩,
    ⟨some 14, none, .iaddr 1 (.t 12) (.t 13), 0, 0, false, []⟩,
    ⟨some 15, none, .load false 1 (.t 14), 0, 0, false, []⟩,
    ⟨some 16, none, .callv (.t 11) [.t 15] false, 0, 0, false, []⟩])
   (.cutTo [0, 1, 5, 7, 8, 16] (.cond (.t 16) (.seq (.seg false [⟨some 17, none, .mov (.t 5), 0, 0, false, []⟩,
    ⟨some 4, none, .mov (.t 17), 0, 0, false, []⟩])
   (.ret))
   (.skip))))))
   (.cutTo [0, 1, 7, 8] (.seg false [⟨some 18, none, .bin .add (.t 8) (.k (.int .i64 1)), 0, 0, false, []⟩,
    ⟨some 8, none, .mov (.t 18), 0, 0, false, []⟩]))))
def L151x0 : C := B151x0
theorem evL151x0 (run : Run) (draw : List I → Env → Heap → Option (Env × Heap)) (e : Env) (h : Heap) : evC run draw L151x0 e h = evC run draw B151x0 e h := rfl
/-- slices.IndexFunc<<><>loop.example/tablehouse/impl.Value,<>loop.example/tablehouse/impl.Value> -/
def F151 : F := ⟨19, [(false, 4, 0, false)],
   .seq (.seg false [⟨some 4, none, .mov (.k (.int .i64 0)), 0, 0, false, []⟩])
   (.seq (.seq (.seg false [⟨some 6, none, .mov (.t 0), 0, 0, false, []⟩,
    ⟨some 7, none, .len false (.t 6), 0, 0, false, []⟩,
    ⟨some 8, none, .mov (.k (.int .i64 0)), 0, 0, false, []⟩])
   (.block 0 (.loop [0, 1, 7, 8] [4] L151x0)))
   (.seq (.seg false [⟨some 4, none, .mov (.k (.int .i64 (-1))), 0, 0, false, []⟩])
   (.ret)))⟩
def B114x0 : C := .seq (.seq (.seg false [⟨some 12, none, .mov (.t 5), 0, 0, false, []⟩,
    ⟨some 13, none, .mov (.t 0), 0, 0, false, []⟩,
    ⟨some 14, none, .len false (.t 13), 0, 0, false, []⟩,
    ⟨some 15, none, .bin .lss (.t 12) (.t 14), 0, 0, false, []⟩])
   (.cutTo [0, 1, 5, 15] (.cond (.t 15) (.skip)
   (.exit 0))))
   (.cutTo [0, 1, 5] (.seq (.block 1 (.seq (.seg false [⟨some 18, none, .mov (.t 0), 0, 0, false, []⟩,
    ⟨some 19, none, .mov (.t 5), 0, 0, false, []⟩,
    ⟨some 20, none, .iaddr 3 (.t 18) (.t 19), 0, 0, false, []⟩,
    ⟨some 21, none, .load true 3 (.t 20), 0, 0, false, []⟩,
    ⟨some 22, none, .mov (.t 1), 0, 0, false, []⟩,
    ⟨some 23, none, .call 130 [.t 21, .t 22] false false, 0, 0, false, []⟩,
    ⟨some 1, none, .mov (.t 23), 0, 0, false, []⟩])
   (.cutTo [0, 1, 5] (.seq (.seg false [⟨some 24, none, .mov (.t 1), 0, 0, false, []⟩,
    ⟨some 25, none, .bin .lss (.t 24) (.k (.int .i64 0)), 0, 0, false, []⟩])
   (.cond (.t 25) (.seq (.seg false [⟨some 4, none, .mov (.k (.int .i64 (-1))), 0, 0, false, []⟩])
   (.ret))
   (.skip))))))
   (.cutTo [0, 1, 5] (.seg false [⟨some 16, none, .mov (.t 5), 0, 0, false, []⟩,
    ⟨some 17, none, .bin .add (.t 16) (.k (.int .i64 1)), 0, 0, false, []⟩,
    ⟨some 5, none, .mov (.t 17), 0, 0, false, []⟩]))))
def L114x0 : C := B114x0
theorem evL114x0 (run : Run) (draw : List I → Env → Heap → Option (Env × Heap)) (e : Env) (h : Heap) : evC run draw L114x0 e h = evC run draw B114x0 e h := rfl
/-- loop.example/tablehouse/laws.szValueS -/
def F114 : F := ⟨27, [(false, 4, 0, false)],
   .seq (.seg false [⟨some 4, none, .mov (.k (.int .i64 0)), 0, 0, false, []⟩])
   (.seq (.seg false [⟨some 6, none, .mov (.t 1), 0, 0, false, []⟩,
    ⟨some 7, none, .mov (.t 0), 0, 0, false, []⟩,
    ⟨some 8, none, .len false (.t 7), 0, 0, false, []⟩,
    ⟨some 9, none, .bin .sub (.t 6) (.t 8), 0, 0, false, []⟩,
    ⟨some 1, none, .mov (.t 9), 0, 0, false, []⟩])
   (.cutTo [0, 1] (.seq (.seq (.seg false [⟨some 10, none, .mov (.t 1), 0, 0, false, []⟩,
    ⟨some 11, none, .bin .lss (.t 10) (.k (.int .i64 0)), 0, 0, false, []⟩])
   (.cond (.t 11) (.seq (.seg false [⟨some 4, none, .mov (.k (.int .i64 (-1))), 0, 0, false, []⟩])
   (.ret))
   (.skip)))
   (.seq (.seq (.seg false [⟨some 5, none, .mov (.k (.int .i64 0)), 0, 0, false, []⟩])
   (.block 0 (.loop [0, 1, 5] [1, 4] L114x0)))
   (.seq (.seg false [⟨some 26, none, .mov (.t 1), 0, 0, false, []⟩,
    ⟨some 4, none, .mov (.t 26), 0, 0, false, []⟩])
   (.ret))))))⟩
def B115x0 : C := .seq (.seq (.seg false [⟨some 8, none, .mov (.t 4), 0, 0, false, []⟩,
    ⟨some 9, none, .mov (.t 0), 0, 0, false, []⟩,
    ⟨some 10, none, .len false (.t 9), 0, 0, false, []⟩,
    ⟨some 11, none, .bin .lss (.t 8) (.t 10), 0, 0, false, []⟩])
   (.cutTo [0, 3, 4, 11] (.cond (.t 11) (.skip)
   (.exit 0))))
   (.cutTo [0, 3, 4] (.seq (.block 1 (.seg false [⟨some 14, none, .mov (.t 3), 0, 0, false, []⟩,
    ⟨some 15, none, .mov (.t 4), 0, 0, false, []⟩,
    ⟨some 16, none, .mov (.t 0), 0, 0, false, []⟩,
    ⟨some 17, none, .mov (.t 4), 0, 0, false, []⟩,
    ⟨some 18, none, .iaddr 3 (.t 16) (.t 17), 0, 0, false, []⟩,
    ⟨some 19, none, .load true 3 (.t 18), 0, 0, false, []⟩,
    ⟨some 20, none, .callx 0 131 [.t 19], 0, 0, false, []⟩,
    ⟨some 21, none, .iaddr 3 (.t 14) (.t 15), 0, 0, false, []⟩,
    ⟨none, none, .store 3 (.t 21) (.t 20), 0, 0, false, []⟩]))
   (.cutTo [0, 3, 4] (.seg false [⟨some 12, none, .mov (.t 4), 0, 0, false, []⟩,
    ⟨some 13, none, .bin .add (.t 12) (.k (.int .i64 1)), 0, 0, false, []⟩,
    ⟨some 4, none, .mov (.t 13), 0, 0, false, []⟩]))))
def L115x0 : C := B115x0
theorem evL115x0 (run : Run) (draw : List I → Env → Heap → Option (Env × Heap)) (e : Env) (h : Heap) : evC run draw L115x0 e h = evC run draw B115x0 e h := rfl
/-- loop.example/tablehouse/laws.toValueS -/
def F115 : F := ⟨23, [(false, 2, 0, false)],
   .seq (.seg false [⟨some 2, none, .mov (.k (.sl true 3 [])), 0, 0, false, []⟩])
   (.seq (.seg false [⟨some 5, none, .mov (.t 0), 0, 0, false, []⟩,
    ⟨some 6, none, .len false (.t 5), 0, 0, false, []⟩,
    ⟨some 7, none, .mk 3 [.int .i64 0, .int .i64 0, .str ⟨#[]⟩] (.t 6), 0, 0, false, []⟩,
    ⟨some 3, none, .mov (.t 7), 0, 0, false, []⟩])
   (.cutTo [0, 3] (.seq (.seq (.seg false [⟨some 4, none, .mov (.k (.int .i64 0)), 0, 0, false, []⟩])
   (.block 0 (.loopk [0, 3, 4] [3] L115x0)))
   (.seq (.seg false [⟨some 22, none, .mov (.t 3), 0, 0, false, []⟩,
    ⟨some 2, none, .mov (.t 22), 0, 0, false, []⟩])
   (.ret)))))⟩
def E116x0 : List I := [⟨some 17, none, .mov (.t 0), 0, 0, false, []⟩,
    ⟨some 18, none, .mov (.t 5), 0, 0, false, []⟩,
    ⟨some 19, none, .iaddr 3 (.t 17) (.t 18), 0, 0, false, []⟩,
    ⟨some 20, none, .load true 3 (.t 19), 0, 0, false, []⟩,
    ⟨some 21, none, .mov (.t 1), 0, 0, false, []⟩,
    ⟨some 22, none, .mov (.t 5), 0, 0, false, []⟩,
    ⟨some 23, none, .iaddr 3 (.t 21) (.t 22), 0, 0, false, []⟩,
    ⟨some 24, none, .load true 3 (.t 23), 0, 0, false, []⟩,
    ⟨some 25, none, .call 132 [.t 20, .t 24] false false, 0, 0, false, []⟩,
    ⟨some 26, none, .un .not (.t 25), 0, 0, false, []⟩]
def D116x0 : List I := E116x0
theorem evD116x0 (run : Run) (e : Env) (h : Heap) : drawI run D116x0 e h = DrawS (evQ run E116x0 e h) run E116x0 e h := drawI_quiet run _ (by rfl) e h
def B116x0 : C := .seq (.seq (.seg false [⟨some 11, none, .mov (.t 5), 0, 0, false, []⟩,
    ⟨some 12, none, .mov (.t 0), 0, 0, false, []⟩,
    ⟨some 13, none, .len false (.t 12), 0, 0, false, []⟩,
    ⟨some 14, none, .bin .lss (.t 11) (.t 13), 0, 0, false, []⟩])
   (.cutTo [0, 1, 5, 14] (.cond (.t 14) (.skip)
   (.exit 0))))
   (.cutTo [0, 1, 5] (.seq (.block 1 (.seq (.seg true D116x0)
   (.cutTo [0, 1, 5, 26] (.cond (.t 26) (.seq (.seg false [⟨some 4, none, .mov (.k (.bool false)), 0, 0, false, []⟩])
   (.ret))
   (.skip)))))
   (.cutTo [0, 1, 5] (.seg false [⟨some 15, none, .mov (.t 5), 0, 0, false, []⟩,
    ⟨some 16, none, .bin .add (.t 15) (.k (.int .i64 1)), 0, 0, false, []⟩,
    ⟨some 5, none, .mov (.t 16), 0, 0, false, []⟩]))))
def L116x0 : C := B116x0
theorem evL116x0 (run : Run) (draw : List I → Env → Heap → Option (Env × Heap)) (e : Env) (h : Heap) : evC run draw L116x0 e h = evC run draw B116x0 e h := rfl
/-- loop.example/tablehouse/laws.eqValueS -/
def F116 : F := ⟨27, [(false, 4, 0, false)],
   .seq (.seg false [⟨some 4, none, .mov (.k (.bool false)), 0, 0, false, []⟩])
   (.seq (.seq (.seg false [⟨some 6, none, .mov (.t 0), 0, 0, false, []⟩,
    ⟨some 7, none, .len false (.t 6), 0, 0, false, []⟩,
    ⟨some 8, none, .mov (.t 1), 0, 0, false, []⟩,
    ⟨some 9, none, .len false (.t 8), 0, 0, false, []⟩,
    ⟨some 10, none, .bin .neq (.t 7) (.t 9), 0, 0, false, []⟩])
   (.cutTo [0, 1, 10] (.cond (.t 10) (.seq (.seg false [⟨some 4, none, .mov (.k (.bool false)), 0, 0, false, []⟩])
   (.ret))
   (.skip))))
   (.cutTo [0, 1] (.seq (.seq (.seg false [⟨some 5, none, .mov (.k (.int .i64 0)), 0, 0, false, []⟩])
   (.block 0 (.loop [0, 1, 5] [4] L116x0)))
   (.seq (.seg false [⟨some 4, none, .mov (.k (.bool true)), 0, 0, false, []⟩])
   (.ret)))))⟩
def B117x0 : C := .seq (.seq (.seg false [⟨some 6, none, .mov (.t 5), 0, 0, false, []⟩,
    ⟨some 7, none, .mov (.t 0), 0, 0, false, []⟩,
    ⟨some 8, none, .len false (.t 7), 0, 0, false, []⟩,
    ⟨some 9, none, .bin .lss (.t 6) (.t 8), 0, 0, false, []⟩])
   (.cutTo [0, 1, 5, 9] (.cond (.t 9) (.skip)
   (.exit 0))))
   (.cutTo [0, 1, 5] (.seq (.block 1 (.seq (.seg false [⟨some 12, none, .mov (.t 0), 0, 0, false, []⟩,
    ⟨some 13, none, .mov (.t 5), 0, 0, false, []⟩,
    ⟨some 14, none, .mov (.t 1), 0, 0, false, []⟩,
    ⟨some 15, none, .iaddr 3 (.t 12) (.t 13), 0, 0, false, []⟩,
    ⟨some 16, none, .faddr 0 1 (.t 15), 0, 0, false, []⟩,
    ⟨none, none, .store 1 (.t 16) (.t 14), 0, 0, false, []⟩])
   (.cutTo [0, 1, 5] (.seq (.seg false [⟨some 17, none, .mov (.t 1), 0, 0, false, []⟩,
    ⟨some 18, none, .bin .add (.t 17) (.k (.int .i64 1)), 0, 0, false, []⟩,
    ⟨some 1, none, .mov (.t 18), 0, 0, false, []⟩])
   (.seq (.seg false [⟨some 19, none, .mov (.t 0), 0, 0, false, []⟩,
    ⟨some 20, none, .mov (.t 5), 0, 0, false, []⟩,
    ⟨some 21, none, .mov (.t 1), 0, 0, false, []⟩,
    ⟨some 22, none, .iaddr 3 (.t 19) (.t 20), 0, 0, false, []⟩,
    ⟨some 23, none, .faddr 1 1 (.t 22), 0, 0, false, []⟩,
    ⟨none, none, .store 1 (.t 23) (.t 21), 0, 0, false, []⟩])
   (.cutTo [0, 1, 5] (.seq (.seg false [⟨some 24, none, .mov (.t 1), 0, 0, false, []⟩,
    ⟨some 25, none, .bin .add (.t 24) (.k (.int .i64 1)), 0, 0, false, []⟩,
    ⟨some 1, none, .mov (.t 25), 0, 0, false, []⟩])
   (.seq (.seg false [⟨some 26, none, .mov (.t 0), 0, 0, false, []⟩,
    ⟨some 27, none, .mov (.t 5), 0, 0, false, []⟩,
    ⟨some 28, none, .mov (.t 1), 0, 0, false, []⟩,
    ⟨some 29, none, .call 80 [.t 28] false false, 0, 0, false, []⟩,
    ⟨some 30, none, .iaddr 3 (.t 26) (.t 27), 0, 0, false, []⟩,
    ⟨some 31, none, .faddr 2 1 (.t 30), 0, 0, false, []⟩,
    ⟨none, none, .store 1 (.t 31) (.t 29), 0, 0, false, []⟩])
   (.cutTo [0, 1, 5] (.seg false [⟨some 32, none, .mov (.t 1), 0, 0, false, []⟩,
    ⟨some 33, none, .bin .add (.t 32) (.k (.int .i64 1)), 0, 0, false, []⟩,
    ⟨some 1, none, .mov (.t 33), 0, 0, false, []⟩]))))))))))
   (.cutTo [0, 1, 5] (.seg false [⟨some 10, none, .mov (.t 5), 0, 0, false, []⟩,
    ⟨some 11, none, .bin .add (.t 10) (.k (.int .i64 1)), 0, 0, false, []⟩,
    ⟨some 5, none, .mov (.t 11), 0, 0, false, []⟩]))))
def L117x0 : C := B117x0
theorem evL117x0 (run : Run) (draw : List I → Env → Heap → Option (Env × Heap)) (e : Env) (h : Heap) : evC run draw L117x0 e h = evC run draw B117x0 e h := rfl
/-- loop.example/tablehouse/laws.markValueS -/
def F117 : F := ⟨35, [(false, 4, 0, false)],
   .seq (.seg false [⟨some 4, none, .mov (.k (.int .i64 0)), 0, 0, false, []⟩])
   (.seq (.seq (.seg false [⟨some 5, none, .mov (.k (.int .i64 0)), 0, 0, false, []⟩])
   (.block 0 (.loopk [0, 1, 5] [1] L117x0)))
   (.seq (.seg false [⟨some 34, none, .mov (.t 1), 0, 0, false, []⟩,
    ⟨some 4, none, .mov (.t 34), 0, 0, false, []⟩])
   (.ret)))⟩
def E118x0 : List I := [⟨some 30, none, .mov (.t 0), 0, 0, false, []⟩,
    ⟨some 31, none, .mov (.t 5), 0, 0, false, []⟩,
    ⟨some 32, none, .iaddr 3 (.t 30) (.t 31), 0, 0, false, []⟩,
    ⟨some 33, none, .faddr 2 1 (.t 32), 0, 0, false, []⟩,
    ⟨some 34, none, .load false 1 (.t 33), 0, 0, false, []⟩,
    ⟨some 35, none, .mov (.t 1), 0, 0, false, []⟩,
    ⟨some 36, none, .call 80 [.t 35] false false, 0, 0, false, []⟩,
    ⟨some 37, none, .bin .neq (.t 34) (.t 36), 0, 0, false, []⟩]
def D118x0 : List I := E118x0
theorem evD118x0 (run : Run) (e : Env) (h : Heap) : drawI run D118x0 e h = DrawS (evQ run E118x0 e h) run E118x0 e h := drawI_quiet run _ (by rfl) e h
def B118x0 : C := .seq (.seq (.seg false [⟨some 6, none, .mov (.t 5), 0, 0, false, []⟩,
    ⟨some 7, none, .mov (.t 0), 0, 0, false, []⟩,
    ⟨some 8, none, .len false (.t 7), 0, 0, false, []⟩,
    ⟨some 9, none, .bin .lss (.t 6) (.t 8), 0, 0, false, []⟩])
   (.cutTo [0, 1, 5, 9] (.cond (.t 9) (.skip)
   (.exit 0))))
   (.cutTo [0, 1, 5] (.seq (.block 1 (.seq (.seq (.seg false [⟨some 12, none, .mov (.t 0), 0, 0, false, []⟩,
    ⟨some 13, none, .mov (.t 5), 0, 0, false, []⟩,
    ⟨some 14, none, .iaddr 3 (.t 12) (.t 13), 0, 0, false, []⟩,
    ⟨some 15, none, .faddr 0 1 (.t 14), 0, 0, false, []⟩,
    ⟨some 16, none, .load false 1 (.t 15), 0, 0, false, []⟩,
    ⟨some 17, none, .mov (.t 1), 0, 0, false, []⟩,
    ⟨some 18, none, .bin .neq (.t 16) (.t 17), 0, 0, false, []⟩])
   (.cutTo [0, 1, 5, 18] (.cond (.t 18) (.seq (.seg false [⟨some 4, none, .mov (.k (.int .i64 (-1))), 0, 0, false, []⟩])
   (.ret))
   (.skip))))
   (.cutTo [0, 1, 5] (.seq (.seg false [⟨some 19, none, .mov (.t 1), 0, 0, false, []⟩,
    ⟨some 20, none, .bin .add (.t 19) (.k (.int .i64 1)), 0, 0, false, []⟩,
    ⟨some 1, none, .mov (.t 20), 0, 0, false, []⟩])
   (.seq (.seq (.seg false [⟨some 21, none, .mov (.t 0), 0, 0, false, []⟩,
    ⟨some 22, none, .mov (.t 5), 0, 0, false, []⟩,
    ⟨some 23, none, .iaddr 3 (.t 21) (.t 22), 0, 0, false, []⟩,
    ⟨some 24, none, .faddr 1 1 (.t 23), 0, 0, false, []⟩,
    ⟨some 25, none, .load false 1 (.t 24), 0, 0, false, []⟩,
    ⟨some 26, none, .mov (.t 1), 0, 0, false, []⟩,
    ⟨some 27, none, .bin .neq (.t 25) (.t 26), 0, 0, false, []⟩])
   (.cutTo [0, 1, 5, 27] (.cond (.t 27) (.seq (.seg false [⟨some 4, none, .mov (.k (.int .i64 (-1))), 0, 0, false, []⟩])
   (.ret))
   (.skip))))
   (.cutTo [0, 1, 5] (.seq (.seg false [⟨some 28, none, .mov (.t 1), 0, 0, false, []⟩,
    ⟨some 29, none, .bin .add (.t 28) (.k (.int .i64 1)), 0, 0, false, []⟩,
    ⟨some 1, none, .mov (.t 29), 0, 0, false, []⟩])
   (.seq (.seq (.seg true D118x0)
   (.cutTo [0, 1, 5, 37] (.cond (.t 37) (.seq (.seg false [⟨some 4, none, .mov (.k (.int .i64 (-1))), 0, 0, false, []⟩])
   (.ret))
   (.skip))))
   (.cutTo [0, 1, 5] (.seg false [⟨some 38, none, .mov (.t 1), 0, 0, false, []⟩,
    ⟨some 39, none, .bin .add (.t 38) (.k (.int .i64 1)), 0, 0, false, []⟩,
    ⟨some 1, none, .mov (.t 39), 0, 0, false, []⟩]))))))))))
   (.cutTo [0, 1, 5] (.seg false [⟨some 10, none, .mov (.t 5), 0, 0, false, []⟩,
    ⟨some 11, none, .bin .add (.t 10) (.k (.int .i64 1)), 0, 0, false, []⟩,
    ⟨some 5, none, .mov (.t 11), 0, 0, false, []⟩]))))
def L118x0 : C := B118x0
theorem evL118x0 (run : Run) (draw : List I → Env → Heap → Option (Env × Heap)) (e : Env) (h : Heap) : evC run draw L118x0 e h = evC run draw B118x0 e h := rfl
/-- loop.example/tablehouse/laws.heldValueS -/
def F118 : F := ⟨41, [(false, 4, 0, false)],
   .seq (.seg false [⟨some 4, none, .mov (.k (.int .i64 0)), 0, 0, false, []⟩])
   (.seq (.seq (.seg false [⟨some 5, none, .mov (.k (.int .i64 0)), 0, 0, false, []⟩])
   (.block 0 (.loop [0, 1, 5] [1, 4] L118x0)))
   (.seq (.seg false [⟨some 40, none, .mov (.t 1), 0, 0, false, []⟩,
    ⟨some 4, none, .mov (.t 40), 0, 0, false, []⟩])
   (.ret)))⟩
/-- loop.example/tablehouse/spec.l2Bool -/
def F168 : F := ⟨4, [(false, 2, 0, false)],
   .seq (.seg false [⟨some 2, none, .mov (.k (.int .i64 0)), 0, 0, false, []⟩])
   (.seq (.seq (.seg false [⟨some 3, none, .mov (.t 0), 0, 0, false, []⟩])
   (.cond (.t 3) (.seq (.seg false [⟨some 2, none, .mov (.k (.int .i64 1)), 0, 0, false, []⟩])
   (.ret))
   (.skip)))
   (.seq (.seg false [⟨some 2, none, .mov (.k (.int .i64 0)), 0, 0, false, []⟩])
   (.ret)))⟩
theorem chk134 : chkF Try.prog 134 F134 = true := by kernel_rfl
theorem chk65 : chkF Try.prog 65 F65 = true := by kernel_rfl
theorem chk95 : chkF Try.prog 95 F95 = true := by kernel_rfl
theorem chk141 : chkF Try.prog 141 F141 = true := by kernel_rfl
theorem chk142 : chkF Try.prog 142 F142 = true := by kernel_rfl
theorem chk89 : chkF Try.prog 89 F89 = true := by kernel_rfl
theorem chk94 : chkF Try.prog 94 F94 = true := by kernel_rfl
theorem chk128 : chkF Try.prog 128 F128 = true := by kernel_rfl
theorem chk172 : chkF Try.prog 172 F172 = true := by kernel_rfl
theorem chk71 : chkF Try.prog 71 F71 = true := by kernel_rfl
theorem chk125 : chkF Try.prog 125 F125 = true := by kernel_rfl
theorem chk52 : chkF Try.prog 52 F52 = true := by kernel_rfl
theorem chk112 : chkF Try.prog 112 F112 = true := by kernel_rfl
theorem chk102 : chkF Try.prog 102 F102 = true := by kernel_rfl
theorem chk145 : chkF Try.prog 145 F145 = true := by kernel_rfl
theorem chk48 : chkF Try.prog 48 F48 = true := by kernel_rfl
theorem chk101 : chkF Try.prog 101 F101 = true := by kernel_rfl
theorem chk19 : chkF Try.prog 19 F19 = true := by kernel_rfl
theorem chk72 : chkF Try.prog 72 F72 = true := by kernel_rfl
theorem chk127 : chkF Try.prog 127 F127 = true := by kernel_rfl
theorem chk51 : chkF Try.prog 51 F51 = true := by kernel_rfl
theorem chk111 : chkF Try.prog 111 F111 = true := by kernel_rfl
theorem chk73 : chkF Try.prog 73 F73 = true := by kernel_rfl
theorem chk68 : chkF Try.prog 68 F68 = true := by kernel_rfl
theorem chk153 : chkF Try.prog 153 F153 = true := by kernel_rfl
theorem chk103 : chkF Try.prog 103 F103 = true := by kernel_rfl
theorem chk99 : chkF Try.prog 99 F99 = true := by kernel_rfl
theorem chk100 : chkF Try.prog 100 F100 = true := by kernel_rfl
theorem chk158 : chkF Try.prog 158 F158 = true := by kernel_rfl
theorem chk120 : chkF Try.prog 120 F120 = true := by kernel_rfl
theorem chk144 : chkF Try.prog 144 F144 = true := by kernel_rfl
theorem chk164 : chkF Try.prog 164 F164 = true := by kernel_rfl
theorem chk12 : chkF Try.prog 12 F12 = true := by kernel_rfl
theorem chk13 : chkF Try.prog 13 F13 = true := by kernel_rfl
theorem chk79 : chkF Try.prog 79 F79 = true := by kernel_rfl
theorem chk28 : chkF Try.prog 28 F28 = true := by kernel_rfl
theorem chk132 : chkF Try.prog 132 F132 = true := by kernel_rfl
theorem chk30 : chkF Try.prog 30 F30 = true := by kernel_rfl
theorem chk80 : chkF Try.prog 80 F80 = true := by kernel_rfl
theorem chk22 : chkF Try.prog 22 F22 = true := by kernel_rfl
theorem chk130 : chkF Try.prog 130 F130 = true := by kernel_rfl
theorem chk76 : chkF Try.prog 76 F76 = true := by kernel_rfl
theorem chk24 : chkF Try.prog 24 F24 = true := by kernel_rfl
theorem chk131 : chkF Try.prog 131 F131 = true := by kernel_rfl
theorem chk154 : chkF Try.prog 154 F154 = true := by kernel_rfl
theorem chk146 : chkF Try.prog 146 F146 = true := by kernel_rfl
theorem chk167 : chkF Try.prog 167 F167 = true := by kernel_rfl
theorem chk96 : chkF Try.prog 96 F96 = true := by kernel_rfl
theorem chk55 : chkF Try.prog 55 F55 = true := by kernel_rfl
theorem chk107 : chkF Try.prog 107 F107 = true := by kernel_rfl
theorem chk50 : chkF Try.prog 50 F50 = true := by kernel_rfl
theorem chk106 : chkF Try.prog 106 F106 = true := by kernel_rfl
theorem chk149 : chkF Try.prog 149 F149 = true := by kernel_rfl
theorem chk165 : chkF Try.prog 165 F165 = true := by kernel_rfl
theorem chk174 : chkF Try.prog 174 F174 = true := by kernel_rfl
theorem chk135 : chkF Try.prog 135 F135 = true := by kernel_rfl
theorem chk147 : chkF Try.prog 147 F147 = true := by kernel_rfl
theorem chk143 : chkF Try.prog 143 F143 = true := by kernel_rfl
theorem chk169 : chkF Try.prog 169 F169 = true := by kernel_rfl
theorem chk176 : chkF Try.prog 176 F176 = true := by kernel_rfl
theorem chk70 : chkF Try.prog 70 F70 = true := by kernel_rfl
theorem chk175 : chkF Try.prog 175 F175 = true := by kernel_rfl
theorem chk166 : chkF Try.prog 166 F166 = true := by kernel_rfl
theorem chk105 : chkF Try.prog 105 F105 = true := by kernel_rfl
theorem chk108 : chkF Try.prog 108 F108 = true := by kernel_rfl
theorem chk148 : chkF Try.prog 148 F148 = true := by kernel_rfl
theorem chk66 : chkF Try.prog 66 F66 = true := by kernel_rfl
theorem chk178 : chkF Try.prog 178 F178 = true := by kernel_rfl
theorem chk179 : chkF Try.prog 179 F179 = true := by kernel_rfl
theorem chk177 : chkF Try.prog 177 F177 = true := by kernel_rfl
theorem chk124 : chkF Try.prog 124 F124 = true := by kernel_rfl
theorem chk126 : chkF Try.prog 126 F126 = true := by kernel_rfl
theorem chk110 : chkF Try.prog 110 F110 = true := by kernel_rfl
theorem chk171 : chkF Try.prog 171 F171 = true := by kernel_rfl
theorem chk54 : chkF Try.prog 54 F54 = true := by kernel_rfl
theorem chk56 : chkF Try.prog 56 F56 = true := by kernel_rfl
theorem chk57 : chkF Try.prog 57 F57 = true := by kernel_rfl
theorem chk58 : chkF Try.prog 58 F58 = true := by kernel_rfl
theorem chk59 : chkF Try.prog 59 F59 = true := by kernel_rfl
theorem chk109 : chkF Try.prog 109 F109 = true := by kernel_rfl
theorem chk150 : chkF Try.prog 150 F150 = true := by kernel_rfl
theorem chk122 : chkF Try.prog 122 F122 = true := by kernel_rfl
theorem chk181 : chkF Try.prog 181 F181 = true := by kernel_rfl
theorem chk182 : chkF Try.prog 182 F182 = true := by kernel_rfl
theorem chk156 : chkF Try.prog 156 F156 = true := by kernel_rfl
theorem chk157 : chkF Try.prog 157 F157 = true := by kernel_rfl
theorem chk151 : chkF Try.prog 151 F151 = true := by kernel_rfl
theorem chk114 : chkF Try.prog 114 F114 = true := by kernel_rfl
theorem chk115 : chkF Try.prog 115 F115 = true := by kernel_rfl
theorem chk116 : chkF Try.prog 116 F116 = true := by kernel_rfl
theorem chk117 : chkF Try.prog 117 F117 = true := by kernel_rfl
theorem chk118 : chkF Try.prog 118 F118 = true := by kernel_rfl
theorem chk168 : chkF Try.prog 168 F168 = true := by kernel_rfl
def tab : Tab := [(134, F134), (65, F65), (95, F95), (141, F141), (142, F142), (89, F89), (94, F94), (128, F128), (172, F172), (71, F71), (125, F125), (52, F52), (112, F112), (102, F102), (145, F145), (48, F48), (101, F101), (19, F19), (72, F72), (127, F127), (51, F51), (111, F111), (73, F73), (68, F68), (153, F153), (103, F103), (99, F99), (100, F100), (158, F158), (120, F120), (144, F144), (164, F164), (12, F12), (13, F13), (79, F79), (28, F28), (132, F132), (30, F30), (80, F80), (22, F22), (130, F130), (76, F76), (24, F24), (131, F131), (154, F154), (146, F146), (167, F167), (96, F96), (55, F55), (107, F107), (50, F50), (106, F106), (149, F149), (165, F165), (174, F174), (135, F135), (147, F147), (143, F143), (169, F169), (176, F176), (70, F70), (175, F175), (166, F166), (105, F105), (108, F108), (148, F148), (66, F66), (178, F178), (179, F179), (177, F177), (124, F124), (126, F126), (110, F110), (171, F171), (54, F54), (56, F56), (57, F57), (58, F58), (59, F59), (109, F109), (150, F150), (122, F122), (181, F181), (182, F182), (156, F156), (157, F157), (151, F151), (114, F114), (115, F115), (116, F116), (117, F117), (118, F118), (168, F168)]
theorem find134 : tab.find 134 = some F134 := rfl
theorem find65 : tab.find 65 = some F65 := rfl
theorem find95 : tab.find 95 = some F95 := rfl
theorem find141 : tab.find 141 = some F141 := rfl
theorem find142 : tab.find 142 = some F142 := rfl
theorem find89 : tab.find 89 = some F89 := rfl
theorem find94 : tab.find 94 = some F94 := rfl
theorem find128 : tab.find 128 = some F128 := rfl
theorem find172 : tab.find 172 = some F172 := rfl
theorem find71 : tab.find 71 = some F71 := rfl
theorem find125 : tab.find 125 = some F125 := rfl
theorem find52 : tab.find 52 = some F52 := rfl
theorem find112 : tab.find 112 = some F112 := rfl
theorem find102 : tab.find 102 = some F102 := rfl
theorem find145 : tab.find 145 = some F145 := rfl
theorem find48 : tab.find 48 = some F48 := rfl
theorem find101 : tab.find 101 = some F101 := rfl
theorem find19 : tab.find 19 = some F19 := rfl
theorem find72 : tab.find 72 = some F72 := rfl
theorem find127 : tab.find 127 = some F127 := rfl
theorem find51 : tab.find 51 = some F51 := rfl
theorem find111 : tab.find 111 = some F111 := rfl
theorem find73 : tab.find 73 = some F73 := rfl
theorem find68 : tab.find 68 = some F68 := rfl
theorem find153 : tab.find 153 = some F153 := rfl
theorem find103 : tab.find 103 = some F103 := rfl
theorem find99 : tab.find 99 = some F99 := rfl
theorem find100 : tab.find 100 = some F100 := rfl
theorem find158 : tab.find 158 = some F158 := rfl
theorem find120 : tab.find 120 = some F120 := rfl
theorem find144 : tab.find 144 = some F144 := rfl
theorem find164 : tab.find 164 = some F164 := rfl
theorem find12 : tab.find 12 = some F12 := rfl
theorem find13 : tab.find 13 = some F13 := rfl
theorem find79 : tab.find 79 = some F79 := rfl
theorem find28 : tab.find 28 = some F28 := rfl
theorem find132 : tab.find 132 = some F132 := rfl
theorem find30 : tab.find 30 = some F30 := rfl
theorem find80 : tab.find 80 = some F80 := rfl
theorem find22 : tab.find 22 = some F22 := rfl
theorem find130 : tab.find 130 = some F130 := rfl
theorem find76 : tab.find 76 = some F76 := rfl
theorem find24 : tab.find 24 = some F24 := rfl
theorem find131 : tab.find 131 = some F131 := rfl
theorem find154 : tab.find 154 = some F154 := rfl
theorem find146 : tab.find 146 = some F146 := rfl
theorem find167 : tab.find 167 = some F167 := rfl
theorem find96 : tab.find 96 = some F96 := rfl
theorem find55 : tab.find 55 = some F55 := rfl
theorem find107 : tab.find 107 = some F107 := rfl
theorem find50 : tab.find 50 = some F50 := rfl
theorem find106 : tab.find 106 = some F106 := rfl
theorem find149 : tab.find 149 = some F149 := rfl
theorem find165 : tab.find 165 = some F165 := rfl
theorem find174 : tab.find 174 = some F174 := rfl
theorem find135 : tab.find 135 = some F135 := rfl
theorem find147 : tab.find 147 = some F147 := rfl
theorem find143 : tab.find 143 = some F143 := rfl
theorem find169 : tab.find 169 = some F169 := rfl
theorem find176 : tab.find 176 = some F176 := rfl
theorem find70 : tab.find 70 = some F70 := rfl
theorem find175 : tab.find 175 = some F175 := rfl
theorem find166 : tab.find 166 = some F166 := rfl
theorem find105 : tab.find 105 = some F105 := rfl
theorem find108 : tab.find 108 = some F108 := rfl
theorem find148 : tab.find 148 = some F148 := rfl
theorem find66 : tab.find 66 = some F66 := rfl
theorem find178 : tab.find 178 = some F178 := rfl
theorem find179 : tab.find 179 = some F179 := rfl
theorem find177 : tab.find 177 = some F177 := rfl
theorem find124 : tab.find 124 = some F124 := rfl
theorem find126 : tab.find 126 = some F126 := rfl
theorem find110 : tab.find 110 = some F110 := rfl
theorem find171 : tab.find 171 = some F171 := rfl
theorem find54 : tab.find 54 = some F54 := rfl
theorem find56 : tab.find 56 = some F56 := rfl
theorem find57 : tab.find 57 = some F57 := rfl
theorem find58 : tab.find 58 = some F58 := rfl
theorem find59 : tab.find 59 = some F59 := rfl
theorem find109 : tab.find 109 = some F109 := rfl
theorem find150 : tab.find 150 = some F150 := rfl
theorem find122 : tab.find 122 = some F122 := rfl
theorem find181 : tab.find 181 = some F181 := rfl
theorem find182 : tab.find 182 = some F182 := rfl
theorem find156 : tab.find 156 = some F156 := rfl
theorem find157 : tab.find 157 = some F157 := rfl
theorem find151 : tab.find 151 = some F151 := rfl
theorem find114 : tab.find 114 = some F114 := rfl
theorem find115 : tab.find 115 = some F115 := rfl
theorem find116 : tab.find 116 = some F116 := rfl
theorem find117 : tab.find 117 = some F117 := rfl
theorem find118 : tab.find 118 = some F118 := rfl
theorem find168 : tab.find 168 = some F168 := rfl
theorem tab_ok : ∀ p ∈ tab, chkF Try.prog p.1 p.2 = true := by
  intro p hp
  simp only [tab, List.mem_cons, List.not_mem_nil, or_false] at hp
  rcases hp with rfl | rfl | rfl | rfl | rfl | rfl | rfl | rfl | rfl | rfl | rfl | rfl | rfl | rfl | rfl | rfl | rfl | rfl | rfl | rfl | rfl | rfl | rfl | rfl | rfl | rfl | rfl | rfl | rfl | rfl | rfl | rfl | rfl | rfl | rfl | rfl | rfl | rfl | rfl | rfl | rfl | rfl | rfl | rfl | rfl | rfl | rfl | rfl | rfl | rfl | rfl | rfl | rfl | rfl | rfl | rfl | rfl | rfl | rfl | rfl | rfl | rfl | rfl | rfl | rfl | rfl | rfl | rfl | rfl | rfl | rfl | rfl | rfl | rfl | rfl | rfl | rfl | rfl | rfl | rfl | rfl | rfl | rfl | rfl | rfl | rfl | rfl | rfl | rfl | rfl | rfl | rfl | rfl
  · exact chk134
  · exact chk65
  · exact chk95
  · exact chk141
  · exact chk142
  · exact chk89
  · exact chk94
  · exact chk128
  · exact chk172
  · exact chk71
  · exact chk125
  · exact chk52
  · exact chk112
  · exact chk102
  · exact chk145
  · exact chk48
  · exact chk101
  · exact chk19
  · exact chk72
  · exact chk127
  · exact chk51
  · exact chk111
  · exact chk73
  · exact chk68
  · exact chk153
  · exact chk103
  · exact chk99
  · exact chk100
  · exact chk158
  · exact chk120
  · exact chk144
  · exact chk164
  · exact chk12
  · exact chk13
  · exact chk79
  · exact chk28
  · exact chk132
  · exact chk30
  · exact chk80
  · exact chk22
  · exact chk130
  · exact chk76
  · exact chk24
  · exact chk131
  · exact chk154
  · exact chk146
  · exact chk167
  · exact chk96
  · exact chk55
  · exact chk107
  · exact chk50
  · exact chk106
  · exact chk149
  · exact chk165
  · exact chk174
  · exact chk135
  · exact chk147
  · exact chk143
  · exact chk169
  · exact chk176
  · exact chk70
  · exact chk175
  · exact chk166
  · exact chk105
  · exact chk108
  · exact chk148
  · exact chk66
  · exact chk178
  · exact chk179
  · exact chk177
  · exact chk124
  · exact chk126
  · exact chk110
  · exact chk171
  · exact chk54
  · exact chk56
  · exact chk57
  · exact chk58
  · exact chk59
  · exact chk109
  · exact chk150
  · exact chk122
  · exact chk181
  · exact chk182
  · exact chk156
  · exact chk157
  · exact chk151
  · exact chk114
  · exact chk115
  · exact chk116
  · exact chk117
  · exact chk118
  · exact chk168
end Go.Proofs.Ytgepapgabnaonaa.PE
