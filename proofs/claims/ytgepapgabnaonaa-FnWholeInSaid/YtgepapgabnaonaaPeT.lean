/- The compact code of the functions, and that it is the code of the machine. -/
import Derived.Test.YtgepapgabnaonaaPeT0
import Derived.Test.YtgepapgabnaonaaPeX
import Derived.Test.YtgepapgabnaonaaProg
namespace Go.Proofs.Ytgepapgabnaonaa.PE
open Go.RowKit
set_option maxRecDepth 100000
/-- loop.example/tablehouse/impl.exprHolds -/
def F92 : F := ⟨10, [(false, 4, 0, false)],
   .seq (.seg false [⟨some 4, none, .mov (.k (.bool false)), 0, 0, false, []⟩])
   (.seq (.seg false [⟨some 5, none, .mov (.t 0), 0, 0, false, []⟩,
    ⟨some 6, none, .mov (.t 1), 0, 0, false, []⟩,
    ⟨some 7, none, .call 74 [.t 5, .t 6] false false, 0, 0, false, []⟩,
    ⟨some 8, none, .call 138 [.k (.int .i64 1)] false false, 0, 0, false, []⟩,
    ⟨some 9, none, .eqs false [.int, .int, .str] (.t 7) (.t 8), 0, 0, false, []⟩,
    ⟨some 4, none, .mov (.t 9), 0, 0, false, []⟩])
   (.cutTo [4] (.ret)))⟩
def B93x0 : C := .seq (.seq (.seg false [⟨some 10, none, .mov (.t 8), 0, 0, false, []⟩,
    ⟨some 11, none, .mov (.t 1), 0, 0, false, []⟩,
    ⟨some 12, none, .len false (.t 11), 0, 0, false, []⟩,
    ⟨some 13, none, .bin .lss (.t 10) (.t 12), 0, 0, false, []⟩])
   (.cutTo [0, 1, 2, 7, 8, 13] (.cond (.t 13) (.skip)
   (.exit 0))))
   (.cutTo [0, 1, 2, 7, 8] (.seq (.block 1 (.seg false [⟨some 16, none, .mov (.t 7), 0, 0, false, []⟩,
    ⟨some 17, none, .mov (.t 0), 0, 0, false, []⟩,
    ⟨some 18, none, .mov (.t 1), 0, 0, false, []⟩,
    ⟨some 19, none, .mov (.t 8), 0, 0, false, []⟩,
    ⟨some 20, none, .iaddr 2 (.t 18) (.t 19), 0, 0, false, []⟩,
    ⟨some 21, none, .load true 2 (.t 20), 0, 0, false, []⟩,
    ⟨some 22, none, .call 139 [.t 17, .t 21] true false, 0, 0, false, []⟩,
    ⟨some 23, none, .mksl false 3 [.t 22], 0, 0, false, []⟩,
    ⟨some 24, none, .app 3 (.t 16) (.t 23), 0, 0, false, []⟩,
    ⟨some 7, none, .mov (.t 24), 0, 0, false, []⟩]))
   (.cutTo [0, 1, 2, 7, 8] (.seg false [⟨some 14, none, .mov (.t 8), 0, 0, false, []⟩,
    ⟨some 15, none, .bin .add (.t 14) (.k (.int .i64 1)), 0, 0, false, []⟩,
    ⟨some 8, none, .mov (.t 15), 0, 0, false, []⟩]))))
def L93x0 : C := B93x0
theorem evL93x0 (run : Run) (draw : List I → Env → Heap → Option (Env × Heap)) (e : Env) (h : Heap) : evC run draw L93x0 e h = evC run draw B93x0 e h := rfl
/-- loop.example/tablehouse/spec.l20Fit -/
def F93 : F := ⟨59, [(false, 6, 0, false)],
   .seq (.seg false [⟨some 6, none, .nilrow 3, 0, 0, false, []⟩])
   (.seq (.seg false [⟨some 9, none, .mksl true 3 [], 0, 0, false, []⟩,
    ⟨some 7, none, .mov (.t 9), 0, 0, false, []⟩])
   (.seq (.seq (.seg false [⟨some 8, none, .mov (.k (.int .i64 0)), 0, 0, false, []⟩])
   (.block 0 (.loop [0, 1, 2, 7, 8] [0, 2, 7] L93x0)))
   (.seq (.seq (.seg false [⟨some 25, none, .mov (.t 0), 0, 0, false, []⟩,
    ⟨some 26, none, .mov (.t 2), 0, 0, false, []⟩,
    ⟨some 27, none, .call 134 [.t 25, .t 26] true false, 0, 0, false, []⟩])
   (.cond (.t 27) (.seq (.seg false [⟨some 28, none, .mov (.t 0), 0, 0, false, []⟩,
    ⟨some 29, none, .call 65 [.t 28, .k (.int .i64 3)] true false, 0, 0, false, []⟩])
   (.block 2 (.seq (.seg false [⟨some 40, none, .bin .eql (.t 29) (.k (.int .i64 0)), 0, 0, false, []⟩,
    ⟨some 39, none, .mov (.t 40), 0, 0, false, []⟩])
   (.cond (.t 39) (.seg false [⟨some 41, none, .mov (.t 7), 0, 0, false, []⟩,
    ⟨some 42, none, .build [.int .i64 0, .int .i64 0, .str ⟨#[]⟩] [], 0, 0, false, []⟩,
    ⟨some 43, none, .mksl false 3 [.t 42], 0, 0, false, []⟩,
    ⟨some 44, none, .app 3 (.t 41) (.t 43), 0, 0, false, []⟩,
    ⟨some 7, none, .mov (.t 44), 0, 0, false, []⟩])
   (.seq (.seg false [⟨some 46, none, .bin .eql (.t 29) (.k (.int .i64 1)), 0, 0, false, []⟩,
    ⟨some 45, none, .mov (.t 46), 0, 0, false, []⟩])
   (.cond (.t 45) (.seq (.seg false [⟨some 47, none, .mov (.t 7), 0, 0, false, []⟩,
    ⟨some 48, none, .len false (.t 47), 0, 0, false, []⟩,
    ⟨some 49, none, .bin .gtr (.t 48) (.k (.int .i64 0)), 0, 0, false, []⟩])
   (.cond (.t 49) (.seg false [⟨some 50, none, .mov (.t 7), 0, 0, false, []⟩,
    ⟨some 51, none, .mov (.t 0), 0, 0, false, []⟩,
    ⟨some 52, none, .mov (.t 7), 0, 0, false, []⟩,
    ⟨some 53, none, .len false (.t 52), 0, 0, false, []⟩,
    ⟨some 54, none, .call 65 [.t 51, .t 53] true false, 0, 0, false, []⟩,
    ⟨some 55, none, .mov (.t 0), 0, 0, false, []⟩,
    ⟨some 56, none, .call 140 [.t 55, .k (.int .i64 3)] true false, 0, 0, false, []⟩,
    ⟨some 57, none, .iaddr 3 (.t 50) (.t 54), 0, 0, false, []⟩,
    ⟨none, none, .store 3 (.t 57) (.t 56), 0, 0, false, []⟩])
   (.skip)))
   (.seg false [⟨some 30, none, .mov (.t 7), 0, 0, false, []⟩,
    ⟨some 31, none, .mov (.t 0), 0, 0, false, []⟩,
    ⟨some 32, none, .call 140 [.t 31, .k (.int .i64 0)] true false, 0, 0, false, []⟩,
    ⟨some 33, none, .mov (.t 0), 0, 0, false, []⟩,
    ⟨some 34, none, .call 140 [.t 33, .k (.int .i64 0)] true false, 0, 0, false, []⟩,
    ⟨some 35, none, .mov (.t 0), 0, 0, false, []⟩,
    ⟨some 36, none, .call 140 [.t 35, .k (.int .i64 0)] true false, 0, 0, false, []⟩,
    ⟨some 37, none, .mksl false 3 [.t 32, .t 34, .t 36], 0, 0, false, []⟩,
    ⟨some 38, none, .app 3 (.t 30) (.t 37), 0, 0, false, []⟩,
    ⟨some 7, none, .mov (.t 38), 0, 0, false, []⟩])))))))
   (.skip)))
   (.cutTo [7] (.seq (.seg false [⟨some 58, none, .mov (.t 7), 0, 0, false, []⟩,
    ⟨some 6, none, .mov (.t 58), 0, 0, false, []⟩])
   (.ret))))))⟩
/-- (loop.example/tablehouse/impl.Part).tells -/
def F94 : F := ⟨63, [(false, 4, 0, false)],
   .seq (.seg false [⟨some 2, none, .box (.t 0), 0, 0, false, []⟩,
    ⟨some 4, none, .mov (.k (.bool false)), 0, 0, false, []⟩])
   (.seq (.seq (.seg false [⟨some 5, none, .faddr 0 1 (.t 2), 0, 0, false, []⟩,
    ⟨some 6, none, .load false 1 (.t 5), 0, 0, false, []⟩])
   (.block 0 (.seq (.seg false [⟨some 8, none, .bin .eql (.t 6) (.k (.int .i64 1)), 0, 0, false, []⟩,
    ⟨some 7, none, .mov (.t 8), 0, 0, false, []⟩])
   (.cond (.t 7) (.seq (.seg false [⟨some 9, none, .faddr 1 1 (.t 2), 0, 0, false, []⟩,
    ⟨some 10, none, .load false 1 (.t 9), 0, 0, false, []⟩,
    ⟨some 11, none, .bin .eql (.t 10) (.k (.int .i64 0)), 0, 0, false, []⟩,
    ⟨some 12, none, .mov (.t 11), 0, 0, false, []⟩,
    ⟨some 13, some (12, true), .faddr 2 3 (.t 2), 0, 0, false, []⟩,
    ⟨some 14, some (12, true), .load true 3 (.t 13), 0, 0, false, []⟩,
    ⟨some 15, some (12, true), .call 128 [.t 14] false false, 0, 0, false, []⟩,
    ⟨some 16, none, .pick (.t 12) (.t 15) (.k (.bool false)), 0, 0, false, []⟩,
    ⟨some 17, none, .mov (.t 16), 0, 0, false, []⟩,
    ⟨some 18, some (17, true), .faddr 2 3 (.t 2), 0, 0, false, []⟩,
    ⟨some 19, some (17, true), .faddr 0 1 (.t 18), 0, 0, false, []⟩,
    ⟨some 20, some (17, true), .load false 1 (.t 19), 0, 0, false, []⟩,
    ⟨some 21, some (17, true), .bin .neq (.t 20) (.k (.int .i64 0)), 0, 0, false, []⟩,
    ⟨some 22, none, .pick (.t 17) (.t 21) (.k (.bool false)), 0, 0, false, []⟩,
    ⟨some 4, none, .mov (.t 22), 0, 0, false, []⟩])
   (.cutTo [4] (.ret)))
   (.seq (.seg false [⟨some 24, none, .bin .eql (.t 6) (.k (.int .i64 2)), 0, 0, false, []⟩,
    ⟨some 23, none, .mov (.t 24), 0, 0, false, []⟩])
   (.cond (.t 23) (.seq (.seg false [⟨some 25, none, .faddr 1 1 (.t 2), 0, 0, false, []⟩,
    ⟨some 26, none, .load false 1 (.t 25), 0, 0, false, []⟩,
    ⟨some 27, none, .mov (.t 1), 0, 0, false, []⟩,
    ⟨some 28, none, .len false (.t 27), 0, 0, false, []⟩,
    ⟨some 29, none, .bin .sub (.t 28) (.k (.int .i64 1)), 0, 0, false, []⟩,
    ⟨some 30, none, .call 68 [.t 26, .k (.int .i64 0), .t 29] false false, 0, 0, false, []⟩,
    ⟨some 31, none, .mov (.t 30), 0, 0, false, []⟩,
    ⟨some 32, some (31, true), .faddr 2 3 (.t 2), 0, 0, false, []⟩,
    ⟨some 33, some (31, true), .load true 3 (.t 32), 0, 0, false, []⟩,
    ⟨some 34, some (31, true), .build [.int .i64 0, .int .i64 0, .str ⟨#[]⟩] [], 0, 0, false, []⟩,
    ⟨some 35, some (31, true), .eqs false [.int, .int, .str] (.t 33) (.t 34), 0, 0, false, []⟩,
    ⟨some 36, none, .pick (.t 31) (.t 35) (.k (.bool false)), 0, 0, false, []⟩,
    ⟨some 4, none, .mov (.t 36), 0, 0, false, []⟩])
   (.cutTo [4] (.ret)))
   (.seq (.seg false [⟨some 38, none, .bin .eql (.t 6) (.k (.int .i64 4)), 0, 0, false, []⟩,
    ⟨some 37, none, .mov (.t 38), 0, 0, false, []⟩])
   (.cond (.t 37) (.seq (.seg false [⟨some 39, none, .faddr 1 1 (.t 2), 0, 0, false, []⟩,
    ⟨some 40, none, .load false 1 (.t 39), 0, 0, false, []⟩,
    ⟨some 41, none, .call 68 [.t 40, .k (.int .i64 1), .k (.int .i64 4)] false false, 0, 0, false, []⟩,
    ⟨some 42, none, .mov (.t 41), 0, 0, false, []⟩,
    ⟨some 43, some (42, true), .faddr 2 3 (.t 2), 0, 0, false, []⟩,
    ⟨some 44, some (42, true), .load true 3 (.t 43), 0, 0, false, []⟩,
    ⟨some 45, some (42, true), .build [.int .i64 0, .int .i64 0, .str ⟨#[]⟩] [], 0, 0, false, []⟩,
    ⟨some 46, some (42, true), .eqs false [.int, .int, .str] (.t 44) (.t 45), 0, 0, false, []⟩,
    ⟨some 47, none, .pick (.t 42) (.t 46) (.k (.bool false)), 0, 0, false, []⟩,
    ⟨some 4, none, .mov (.t 47), 0, 0, false, []⟩])
   (.cutTo [4] (.ret)))
   (.seq (.seq (.seg false [⟨some 49, none, .bin .eql (.t 6) (.k (.int .i64 3)), 0, 0, false, []⟩,
    ⟨some 48, none, .mov (.t 49), 0, 0, false, []⟩])
   (.cond (.t 48) (.skip)
   (.seq (.seg false [⟨some 50, none, .bin .eql (.t 6) (.k (.int .i64 5)), 0, 0, false, []⟩,
    ⟨some 48, none, .mov (.t 50), 0, 0, false, []⟩])
   (.cond (.t 48) (.skip)
   (.seq (.seg false [⟨some 51, none, .bin .eql (.t 6) (.k (.int .i64 6)), 0, 0, false, []⟩,
    ⟨some 48, none, .mov (.t 51), 0, 0, false, []⟩])
   (.cond (.t 48) (.skip)
   (.seq (.seg false [⟨some 52, none, .bin .eql (.t 6) (.k (.int .i64 7)), 0, 0, false, []⟩,
    ⟨some 48, none, .mov (.t 52), 0, 0, false, []⟩])
   (.cond (.t 48) (.skip)
   (.seg false [⟨some 53, none, .bin .eql (.t 6) (.k (.int .i64 8)), 0, 0, false, []⟩,
    ⟨some 48, none, .mov (.t 53), 0, 0, false, []⟩])))))))))
   (.cutTo [2, 48] (.cond (.t 48) (.seq (.seg false [⟨some 54, none, .faddr 1 1 (.t 2), 0, 0, false, []⟩,
    ⟨some 55, none, .load false 1 (.t 54), 0, 0, false, []⟩,
    ⟨some 56, none, .bin .eql (.t 55) (.k (.int .i64 0)), 0, 0, false, []⟩,
    ⟨some 57, none, .mov (.t 56), 0, 0, false, []⟩,
    ⟨some 58, some (57, true), .faddr 2 3 (.t 2), 0, 0, false, []⟩,
    ⟨some 59, some (57, true), .load true 3 (.t 58), 0, 0, false, []⟩,
    ⟨some 60, some (57, true), .build [.int .i64 0, .int .i64 0, .str ⟨#[]⟩] [], 0, 0, false, []⟩,
    ⟨some 61, some (57, true), .eqs false [.int, .int, .str] (.t 59) (.t 60), 0, 0, false, []⟩,
    ⟨some 62, none, .pick (.t 57) (.t 61) (.k (.bool false)), 0, 0, false, []⟩,
    ⟨some 4, none, .mov (.t 62), 0, 0, false, []⟩])
   (.cutTo [4] (.ret)))
   (.skip))))))))))))
   (.cutTo [] (.seq (.seg false [⟨some 4, none, .mov (.k (.bool false)), 0, 0, false, []⟩])
   (.ret))))⟩
def E95x0 : List I := [⟨some 31, none, .load false 1 (.t 5), 0, 0, false, []⟩,
    ⟨some 32, none, .iaddr 1 (.t 31) (.k (.int .i64 0)), 0, 0, false, []⟩,
    ⟨some 33, none, .load false 1 (.t 32), 0, 0, false, []⟩,
    ⟨some 34, none, .load false 1 (.t 5), 0, 0, false, []⟩,
    ⟨some 35, none, .iaddr 1 (.t 34) (.k (.int .i64 1)), 0, 0, false, []⟩,
    ⟨some 36, none, .load false 1 (.t 35), 0, 0, false, []⟩,
    ⟨some 37, none, .bin .eql (.t 33) (.t 36), 0, 0, false, []⟩,
    ⟨some 6, none, .mov (.k (.int .i64 3)), 0, 0, false, []⟩,
    ⟨some 7, none, .mov (.t 37), 0, 0, false, []⟩]
def D95x0 : List I := E95x0
theorem evD95x0 (run : Run) (e : Env) (h : Heap) : drawI run D95x0 e h = DrawS (evQ run E95x0 e h) run E95x0 e h := drawI_quiet run _ (by rfl) e h
/-- (loop.example/tablehouse/impl.Part).kind -/
def F95 : F := ⟨42, [(false, 6, 0, false), (false, 7, 0, false)],
   .seq (.seg false [⟨some 3, none, .box (.t 0), 0, 0, false, []⟩,
    ⟨some 5, none, .box (.t 2), 0, 0, false, []⟩,
    ⟨some 6, none, .mov (.k (.int .i64 0)), 0, 0, false, []⟩,
    ⟨some 7, none, .mov (.k (.bool false)), 0, 0, false, []⟩])
   (.cutTo [1, 3, 5] (.seq (.seg false [⟨some 9, none, .mkclo 141 [.t 5], 0, 0, false, []⟩,
    ⟨some 8, none, .mov (.t 9), 0, 0, false, []⟩])
   (.seq (.seq (.seg false [⟨some 10, none, .faddr 0 1 (.t 3), 0, 0, false, []⟩,
    ⟨some 11, none, .load false 1 (.t 10), 0, 0, false, []⟩])
   (.block 0 (.seq (.seg false [⟨some 13, none, .bin .eql (.t 11) (.k (.int .i64 1)), 0, 0, false, []⟩,
    ⟨some 12, none, .mov (.t 13), 0, 0, false, []⟩])
   (.cond (.t 12) (.seq (.seg false [⟨some 14, none, .faddr 2 3 (.t 3), 0, 0, false, []⟩,
    ⟨some 15, none, .faddr 0 1 (.t 14), 0, 0, false, []⟩,
    ⟨some 16, none, .load false 1 (.t 15), 0, 0, false, []⟩,
    ⟨some 6, none, .mov (.t 16), 0, 0, false, []⟩,
    ⟨some 7, none, .mov (.k (.bool true)), 0, 0, false, []⟩])
   (.cutTo [6, 7] (.ret)))
   (.seq (.seg false [⟨some 18, none, .bin .eql (.t 11) (.k (.int .i64 2)), 0, 0, false, []⟩,
    ⟨some 17, none, .mov (.t 18), 0, 0, false, []⟩])
   (.cond (.t 17) (.seq (.seg false [⟨some 19, none, .mov (.t 1), 0, 0, false, []⟩,
    ⟨some 20, none, .faddr 1 1 (.t 3), 0, 0, false, []⟩,
    ⟨some 21, none, .load false 1 (.t 20), 0, 0, false, []⟩,
    ⟨some 22, none, .iaddr 2 (.t 19) (.t 21), 0, 0, false, []⟩,
    ⟨some 23, none, .faddr 0 1 (.t 22), 0, 0, false, []⟩,
    ⟨some 24, none, .load false 1 (.t 23), 0, 0, false, []⟩,
    ⟨some 6, none, .mov (.t 24), 0, 0, false, []⟩,
    ⟨some 7, none, .mov (.k (.bool true)), 0, 0, false, []⟩])
   (.cutTo [6, 7] (.ret)))
   (.seq (.seg false [⟨some 26, none, .bin .eql (.t 11) (.k (.int .i64 3)), 0, 0, false, []⟩,
    ⟨some 25, none, .mov (.t 26), 0, 0, false, []⟩])
   (.cond (.t 25) (.seq (.seg false [⟨some 27, none, .mov (.t 8), 0, 0, false, []⟩,
    ⟨some 28, none, .callv (.t 27) [.k (.int .i64 1)] false, 0, 0, false, []⟩,
    ⟨some 6, none, .mov (.k (.int .i64 1)), 0, 0, false, []⟩,
    ⟨some 7, none, .mov (.t 28), 0, 0, false, []⟩])
   (.cutTo [6, 7] (.ret)))
   (.seq (.seg false [⟨some 30, none, .bin .eql (.t 11) (.k (.int .i64 4)), 0, 0, false, []⟩,
    ⟨some 29, none, .mov (.t 30), 0, 0, false, []⟩])
   (.cond (.t 29) (.seq (.seg true D95x0)
   (.cutTo [6, 7] (.ret)))
   (.seq (.seg false [⟨some 39, none, .bin .eql (.t 11) (.k (.int .i64 8)), 0, 0, false, []⟩,
    ⟨some 38, none, .mov (.t 39), 0, 0, false, []⟩])
   (.cond (.t 38) (.seq (.seg false [⟨some 6, none, .mov (.k (.int .i64 3)), 0, 0, false, []⟩,
    ⟨some 7, none, .mov (.k (.bool true)), 0, 0, false, []⟩])
   (.ret))
   (.skip)))))))))))))
   (.cutTo [8] (.seq (.seg false [⟨some 40, none, .mov (.t 8), 0, 0, false, []⟩,
    ⟨some 41, none, .callv (.t 40) [.k (.int .i64 3)] false, 0, 0, false, []⟩,
    ⟨some 6, none, .mov (.k (.int .i64 3)), 0, 0, false, []⟩,
    ⟨some 7, none, .mov (.t 41), 0, 0, false, []⟩])
   (.cutTo [6, 7] (.ret)))))))⟩
def B96x0 : C := .seq (.seq (.seg false [⟨some 4, none, .mov (.t 3), 0, 0, false, []⟩,
    ⟨some 5, none, .mov (.t 0), 0, 0, false, []⟩,
    ⟨some 6, none, .len false (.t 5), 0, 0, false, []⟩,
    ⟨some 7, none, .bin .lss (.t 4) (.t 6), 0, 0, false, []⟩])
   (.cutTo [0, 3, 7] (.cond (.t 7) (.skip)
   (.exit 0))))
   (.cutTo [0, 3] (.seq (.block 1 (.seq (.seg false [⟨some 10, none, .mov (.t 0), 0, 0, false, []⟩,
    ⟨some 11, none, .mov (.t 3), 0, 0, false, []⟩,
    ⟨some 12, none, .iaddr 2 (.t 10) (.t 11), 0, 0, false, []⟩,
    ⟨some 13, none, .faddr 0 1 (.t 12), 0, 0, false, []⟩,
    ⟨some 14, none, .load false 1 (.t 13), 0, 0, false, []⟩,
    ⟨some 15, none, .call 70 [.t 14, .k (.int .i64 1), .k (.int .i64 3)] false false, 0, 0, false, []⟩,
    ⟨some 16, none, .un .not (.t 15), 0, 0, false, []⟩])
   (.cutTo [0, 3, 16] (.cond (.t 16) (.seq (.seg false [⟨some 2, none, .mov (.k (.bool false)), 0, 0, false, []⟩])
   (.ret))
   (.skip)))))
   (.cutTo [0, 3] (.seg false [⟨some 8, none, .mov (.t 3), 0, 0, false, []⟩,
    ⟨some 9, none, .bin .add (.t 8) (.k (.int .i64 1)), 0, 0, false, []⟩,
    ⟨some 3, none, .mov (.t 9), 0, 0, false, []⟩]))))
def L96x0 : C := B96x0
theorem evL96x0 (run : Run) (draw : List I → Env → Heap → Option (Env × Heap)) (e : Env) (h : Heap) : evC run draw L96x0 e h = evC run draw B96x0 e h := rfl
/-- loop.example/tablehouse/spec.ColumnsOk -/
def F96 : F := ⟨20, [(false, 2, 0, false)],
   .seq (.seg false [⟨some 2, none, .mov (.k (.bool false)), 0, 0, false, []⟩])
   (.seq (.seq (.seg false [⟨some 3, none, .mov (.k (.int .i64 0)), 0, 0, false, []⟩])
   (.block 0 (.loop [0, 3] [0, 2] L96x0)))
   (.seq (.seg false [⟨some 17, none, .mov (.t 0), 0, 0, false, []⟩,
    ⟨some 18, none, .len false (.t 17), 0, 0, false, []⟩,
    ⟨some 19, none, .bin .leq (.t 18) (.k (.int .i64 4)), 0, 0, false, []⟩,
    ⟨some 2, none, .mov (.t 19), 0, 0, false, []⟩])
   (.cutTo [2] (.ret))))⟩
def E97x0 : List I := [⟨some 109, none, .mov (.t 8), 0, 0, false, []⟩,
    ⟨some 110, none, .bin .gtr (.t 109) (.k (.int .i64 1)), 0, 0, false, []⟩,
    ⟨some 111, none, .mov (.t 110), 0, 0, false, []⟩,
    ⟨some 112, some (111, true), .mov (.t 1), 0, 0, false, []⟩,
    ⟨some 113, some (111, true), .mov (.t 8), 0, 0, false, []⟩,
    ⟨some 114, some (111, true), .bin .sub (.t 113) (.k (.int .i64 1)), 0, 0, false, []⟩,
    ⟨some 115, some (111, true), .iaddr 1 (.t 112) (.t 114), 0, 0, false, []⟩,
    ⟨some 116, some (111, true), .load false 1 (.t 115), 0, 0, false, []⟩,
    ⟨some 117, some (111, true), .mov (.t 1), 0, 0, false, []⟩,
    ⟨some 118, some (111, true), .mov (.t 8), 0, 0, false, []⟩,
    ⟨some 119, some (111, true), .bin .sub (.t 118) (.k (.int .i64 2)), 0, 0, false, []⟩,
    ⟨some 120, some (111, true), .iaddr 1 (.t 117) (.t 119), 0, 0, false, []⟩,
    ⟨some 121, some (111, true), .load false 1 (.t 120), 0, 0, false, []⟩,
    ⟨some 122, some (111, true), .bin .eql (.t 116) (.t 121), 0, 0, false, []⟩,
    ⟨some 123, none, .pick (.t 111) (.t 122) (.k (.bool false)), 0, 0, false, []⟩,
    ⟨some 124, none, .mov (.t 123), 0, 0, false, []⟩,
    ⟨some 125, some (124, true), .faddr 1 1 (.t 5), 0, 0, false, []⟩,
    ⟨some 126, some (124, true), .load false 1 (.t 125), 0, 0, false, []⟩,
    ⟨some 127, some (124, true), .call 70 [.t 126, .k (.int .i64 1), .k (.int .i64 4)] false false, 0, 0, false, []⟩,
    ⟨some 128, none, .pick (.t 124) (.t 127) (.k (.bool false)), 0, 0, false, []⟩,
    ⟨some 10, none, .mov (.t 128), 0, 0, false, []⟩]
def D97x0 : List I := E97x0
theorem evD97x0 (run : Run) (e : Env) (h : Heap) : drawI run D97x0 e h = DrawS (evQ run E97x0 e h) run E97x0 e h := drawI_quiet run _ (by rfl) e h
def E97x1 : List I := [⟨some 168, none, .mov (.t 1), 0, 0, false, []⟩,
    ⟨some 169, none, .mov (.t 8), 0, 0, false, []⟩,
    ⟨some 170, none, .bin .gtr (.t 169) (.k (.int .i64 0)), 0, 0, false, []⟩,
    ⟨some 171, none, .mov (.t 170), 0, 0, false, []⟩,
    ⟨some 172, some (171, true), .mov (.t 1), 0, 0, false, []⟩,
    ⟨some 173, some (171, true), .mov (.t 8), 0, 0, false, []⟩,
    ⟨some 174, some (171, true), .bin .sub (.t 173) (.k (.int .i64 1)), 0, 0, false, []⟩,
    ⟨some 175, some (171, true), .iaddr 1 (.t 172) (.t 174), 0, 0, false, []⟩,
    ⟨some 176, some (171, true), .load false 1 (.t 175), 0, 0, false, []⟩,
    ⟨some 177, some (171, true), .bin .eql (.t 176) (.k (.int .i64 3)), 0, 0, false, []⟩,
    ⟨some 178, none, .pick (.t 171) (.t 177) (.k (.bool false)), 0, 0, false, []⟩,
    ⟨some 6, none, .mov (.t 168), 0, 0, false, []⟩,
    ⟨some 7, none, .mov (.t 178), 0, 0, false, []⟩]
def D97x1 : List I := E97x1
theorem evD97x1 (run : Run) (e : Env) (h : Heap) : drawI run D97x1 e h = DrawS (evQ run E97x1 e h) run E97x1 e h := drawI_quiet run _ (by rfl) e h
/-- loop.example/tablehouse/spec.l4Step -/
def F97 : F := ⟨191, [(false, 6, 0, false), (false, 7, 0, false)],
   .seq (.seg false [⟨some 5, none, .box (.t 2), 0, 0, false, []⟩,
    ⟨some 6, none, .nilrow 1, 0, 0, false, []⟩,
    ⟨some 7, none, .mov (.k (.bool false)), 0, 0, false, []⟩])
   (.seq (.seg false [⟨some 12, none, .mov (.t 1), 0, 0, false, []⟩,
    ⟨some 13, none, .len false (.t 12), 0, 0, false, []⟩,
    ⟨some 8, none, .mov (.t 13), 0, 0, false, []⟩])
   (.seq (.seq (.seg false [⟨some 14, none, .faddr 0 1 (.t 5), 0, 0, false, []⟩,
    ⟨some 15, none, .load false 1 (.t 14), 0, 0, false, []⟩,
    ⟨some 16, none, .bin .neq (.t 15) (.k (.int .i64 1)), 0, 0, false, []⟩,
    ⟨some 17, none, .mov (.t 16), 0, 0, false, []⟩,
    ⟨some 18, some (17, true), .faddr 2 3 (.t 5), 0, 0, false, []⟩,
    ⟨some 19, some (17, true), .load true 3 (.t 18), 0, 0, false, []⟩,
    ⟨some 20, some (17, true), .build [.int .i64 0, .int .i64 0, .str ⟨#[]⟩] [], 0, 0, false, []⟩,
    ⟨some 21, some (17, true), .eqs true [.int, .int, .str] (.t 19) (.t 20), 0, 0, false, []⟩,
    ⟨some 22, none, .pick (.t 17) (.t 21) (.k (.bool false)), 0, 0, false, []⟩,
    ⟨some 23, none, .mov (.t 22), 0, 0, false, []⟩,
    ⟨some 24, some (23, false), .faddr 0 1 (.t 5), 0, 0, false, []⟩,
    ⟨some 25, some (23, false), .load false 1 (.t 24), 0, 0, false, []⟩,
    ⟨some 26, some (23, false), .bin .neq (.t 25) (.k (.int .i64 2)), 0, 0, false, []⟩,
    ⟨some 27, some (23, false), .mov (.t 26), 0, 0, false, []⟩,
    ⟨some 28, some (27, true), .faddr 0 1 (.t 5), 0, 0, false, []⟩,
    ⟨some 29, some (27, true), .load false 1 (.t 28), 0, 0, false, []⟩,
    ⟨some 30, some (27, true), .bin .neq (.t 29) (.k (.int .i64 4)), 0, 0, false, []⟩,
    ⟨some 31, some (23, false), .pick (.t 27) (.t 30) (.k (.bool false)), 0, 0, false, []⟩,
    ⟨some 32, some (23, false), .mov (.t 31), 0, 0, false, []⟩,
    ⟨some 33, some (32, true), .faddr 1 1 (.t 5), 0, 0, false, []⟩,
    ⟨some 34, some (32, true), .load false 1 (.t 33), 0, 0, false, []⟩,
    ⟨some 35, some (32, true), .bin .neq (.t 34) (.k (.int .i64 0)), 0, 0, false, []⟩,
    ⟨some 36, some (23, false), .pick (.t 32) (.t 35) (.k (.bool false)), 0, 0, false, []⟩,
    ⟨some 37, none, .pick (.t 23) (.k (.bool true)) (.t 36), 0, 0, false, []⟩])
   (.cutTo [0, 1, 5, 8, 37] (.cond (.t 37) (.seq (.seg false [⟨some 38, none, .mov (.t 1), 0, 0, false, []⟩,
    ⟨some 6, none, .mov (.t 38), 0, 0, false, []⟩,
    ⟨some 7, none, .mov (.k (.bool false)), 0, 0, false, []⟩])
   (.ret))
   (.skip))))
   (.cutTo [0, 1, 5, 8] (.seq (.seq (.seg false [⟨some 39, none, .faddr 0 1 (.t 5), 0, 0, false, []⟩,
    ⟨some 40, none, .load false 1 (.t 39), 0, 0, false, []⟩])
   (.block 0 (.seq (.seg false [⟨some 42, none, .bin .eql (.t 40) (.k (.int .i64 1)), 0, 0, false, []⟩,
    ⟨some 41, none, .mov (.t 42), 0, 0, false, []⟩])
   (.cond (.t 41) (.seq (.seq (.seg false [⟨some 43, none, .faddr 2 3 (.t 5), 0, 0, false, []⟩,
    ⟨some 44, none, .load true 3 (.t 43), 0, 0, false, []⟩,
    ⟨some 45, none, .call 143 [.t 44] false false, 0, 0, false, []⟩,
    ⟨some 46, none, .un .not (.t 45), 0, 0, false, []⟩,
    ⟨some 47, none, .mov (.t 46), 0, 0, false, []⟩,
    ⟨some 48, some (47, false), .faddr 2 3 (.t 5), 0, 0, false, []⟩,
    ⟨some 49, some (47, false), .faddr 0 1 (.t 48), 0, 0, false, []⟩,
    ⟨some 50, some (47, false), .load false 1 (.t 49), 0, 0, false, []⟩,
    ⟨some 51, some (47, false), .bin .eql (.t 50) (.k (.int .i64 0)), 0, 0, false, []⟩,
    ⟨some 52, none, .pick (.t 47) (.k (.bool true)) (.t 51), 0, 0, false, []⟩])
   (.cutTo [1, 5, 52] (.cond (.t 52) (.seq (.seg false [⟨some 53, none, .mov (.t 1), 0, 0, false, []⟩,
    ⟨some 6, none, .mov (.t 53), 0, 0, false, []⟩,
    ⟨some 7, none, .mov (.k (.bool false)), 0, 0, false, []⟩])
   (.ret))
   (.skip))))
   (.cutTo [1, 5] (.seq (.seg false [⟨some 54, none, .mov (.t 1), 0, 0, false, []⟩,
    ⟨some 55, none, .faddr 2 3 (.t 5), 0, 0, false, []⟩,
    ⟨some 56, none, .faddr 0 1 (.t 55), 0, 0, false, []⟩,
    ⟨some 57, none, .load false 1 (.t 56), 0, 0, false, []⟩,
    ⟨some 58, none, .mksl false 1 [.t 57], 0, 0, false, []⟩,
    ⟨some 59, none, .app 1 (.t 54) (.t 58), 0, 0, false, []⟩,
    ⟨some 6, none, .mov (.t 59), 0, 0, false, []⟩,
    ⟨some 7, none, .mov (.k (.bool true)), 0, 0, false, []⟩])
   (.cutTo [6, 7] (.ret)))))
   (.seq (.seg false [⟨some 61, none, .bin .eql (.t 40) (.k (.int .i64 2)), 0, 0, false, []⟩,
    ⟨some 60, none, .mov (.t 61), 0, 0, false, []⟩])
   (.cond (.t 60) (.seq (.seq (.seg false [⟨some 62, none, .faddr 1 1 (.t 5), 0, 0, false, []⟩,
    ⟨some 63, none, .load false 1 (.t 62), 0, 0, false, []⟩,
    ⟨some 64, none, .mov (.t 0), 0, 0, false, []⟩,
    ⟨some 65, none, .len false (.t 64), 0, 0, false, []⟩,
    ⟨some 66, none, .bin .sub (.t 65) (.k (.int .i64 1)), 0, 0, false, []⟩,
    ⟨some 67, none, .call 70 [.t 63, .k (.int .i64 0), .t 66] false false, 0, 0, false, []⟩,
    ⟨some 68, none, .un .not (.t 67), 0, 0, false, []⟩])
   (.cutTo [0, 1, 5, 68] (.cond (.t 68) (.seq (.seg false [⟨some 69, none, .mov (.t 1), 0, 0, false, []⟩,
    ⟨some 6, none, .mov (.t 69), 0, 0, false, []⟩,
    ⟨some 7, none, .mov (.k (.bool false)), 0, 0, false, []⟩])
   (.ret))
   (.skip))))
   (.cutTo [0, 1, 5] (.seq (.seg false [⟨some 70, none, .mov (.t 1), 0, 0, false, []⟩,
    ⟨some 71, none, .mov (.t 0), 0, 0, false, []⟩,
    ⟨some 72, none, .faddr 1 1 (.t 5), 0, 0, false, []⟩,
    ⟨some 73, none, .load false 1 (.t 72), 0, 0, false, []⟩,
    ⟨some 74, none, .iaddr 2 (.t 71) (.t 73), 0, 0, false, []⟩,
    ⟨some 75, none, .faddr 0 1 (.t 74), 0, 0, false, []⟩,
    ⟨some 76, none, .load false 1 (.t 75), 0, 0, false, []⟩,
    ⟨some 77, none, .mksl false 1 [.t 76], 0, 0, false, []⟩,
    ⟨some 78, none, .app 1 (.t 70) (.t 77), 0, 0, false, []⟩,
    ⟨some 6, none, .mov (.t 78), 0, 0, false, []⟩,
    ⟨some 7, none, .mov (.k (.bool true)), 0, 0, false, []⟩])
   (.cutTo [6, 7] (.ret)))))
   (.seq (.seg false [⟨some 80, none, .bin .eql (.t 40) (.k (.int .i64 3)), 0, 0, false, []⟩,
    ⟨some 79, none, .mov (.t 80), 0, 0, false, []⟩])
   (.cond (.t 79) (.seq (.seg false [⟨some 81, none, .mov (.t 8), 0, 0, false, []⟩,
    ⟨some 82, none, .bin .gtr (.t 81) (.k (.int .i64 1)), 0, 0, false, []⟩,
    ⟨some 83, none, .mov (.t 82), 0, 0, false, []⟩,
    ⟨some 84, some (83, true), .mov (.t 1), 0, 0, false, []⟩,
    ⟨some 85, some (83, true), .mov (.t 8), 0, 0, false, []⟩,
    ⟨some 86, some (83, true), .bin .sub (.t 85) (.k (.int .i64 1)), 0, 0, false, []⟩,
    ⟨some 87, some (83, true), .iaddr 1 (.t 84) (.t 86), 0, 0, false, []⟩,
    ⟨some 88, some (83, true), .load false 1 (.t 87), 0, 0, false, []⟩,
    ⟨some 89, some (83, true), .bin .eql (.t 88) (.k (.int .i64 1)), 0, 0, false, []⟩,
    ⟨some 90, none, .pick (.t 83) (.t 89) (.k (.bool false)), 0, 0, false, []⟩,
    ⟨some 91, none, .mov (.t 90), 0, 0, false, []⟩,
    ⟨some 92, some (91, true), .mov (.t 1), 0, 0, false, []⟩,
    ⟨some 93, some (91, true), .mov (.t 8), 0, 0, false, []⟩,
    ⟨some 94, some (91, true), .bin .sub (.t 93) (.k (.int .i64 2)), 0, 0, false, []⟩,
    ⟨some 95, some (91, true), .iaddr 1 (.t 92) (.t 94), 0, 0, false, []⟩,
    ⟨some 96, some (91, true), .load false 1 (.t 95), 0, 0, false, []⟩,
    ⟨some 97, some (91, true), .bin .eql (.t 96) (.k (.int .i64 1)), 0, 0, false, []⟩,
    ⟨some 98, none, .pick (.t 91) (.t 97) (.k (.bool false)), 0, 0, false, []⟩,
    ⟨some 9, none, .mov (.t 98), 0, 0, false, []⟩])
   (.cutTo [1, 8, 9] (.seq (.seg false [⟨some 99, none, .mov (.t 1), 0, 0, false, []⟩,
    ⟨some 100, none, .mov (.t 8), 0, 0, false, []⟩,
    ⟨some 101, none, .bin .sub (.t 100) (.k (.int .i64 2)), 0, 0, false, []⟩,
    ⟨some 102, none, .mm true (.t 101) [.k (.int .i64 0)], 0, 0, false, []⟩,
    ⟨some 103, none, .slc false 1 (.t 99) none (some (.t 102)) none, 0, 0, false, []⟩,
    ⟨some 104, none, .mksl false 1 [.k (.int .i64 1)], 0, 0, false, []⟩,
    ⟨some 105, none, .app 1 (.t 103) (.t 104), 0, 0, false, []⟩,
    ⟨some 106, none, .mov (.t 9), 0, 0, false, []⟩,
    ⟨some 6, none, .mov (.t 105), 0, 0, false, []⟩,
    ⟨some 7, none, .mov (.t 106), 0, 0, false, []⟩])
   (.cutTo [6, 7] (.ret)))))
   (.seq (.seg false [⟨some 108, none, .bin .eql (.t 40) (.k (.int .i64 4)), 0, 0, false, []⟩,
    ⟨some 107, none, .mov (.t 108), 0, 0, false, []⟩])
   (.cond (.t 107) (.seq (.seg true D97x0)
   (.cutTo [1, 8, 10] (.seq (.seg false [⟨some 129, none, .mov (.t 1), 0, 0, false, []⟩,
    ⟨some 130, none, .mov (.t 8), 0, 0, false, []⟩,
    ⟨some 131, none, .bin .sub (.t 130) (.k (.int .i64 2)), 0, 0, false, []⟩,
    ⟨some 132, none, .mm true (.t 131) [.k (.int .i64 0)], 0, 0, false, []⟩,
    ⟨some 133, none, .slc false 1 (.t 129) none (some (.t 132)) none, 0, 0, false, []⟩,
    ⟨some 134, none, .mksl false 1 [.k (.int .i64 3)], 0, 0, false, []⟩,
    ⟨some 135, none, .app 1 (.t 133) (.t 134), 0, 0, false, []⟩,
    ⟨some 136, none, .mov (.t 10), 0, 0, false, []⟩,
    ⟨some 6, none, .mov (.t 135), 0, 0, false, []⟩,
    ⟨some 7, none, .mov (.t 136), 0, 0, false, []⟩])
   (.cutTo [6, 7] (.ret)))))
   (.seq (.seq (.seg false [⟨some 138, none, .bin .eql (.t 40) (.k (.int .i64 5)), 0, 0, false, []⟩,
    ⟨some 137, none, .mov (.t 138), 0, 0, false, []⟩])
   (.cond (.t 137) (.skip)
   (.seg false [⟨some 139, none, .bin .eql (.t 40) (.k (.int .i64 6)), 0, 0, false, []⟩,
    ⟨some 137, none, .mov (.t 139), 0, 0, false, []⟩])))
   (.cutTo [1, 8, 40, 137] (.cond (.t 137) (.seq (.seg false [⟨some 140, none, .mov (.t 8), 0, 0, false, []⟩,
    ⟨some 141, none, .bin .gtr (.t 140) (.k (.int .i64 1)), 0, 0, false, []⟩,
    ⟨some 142, none, .mov (.t 141), 0, 0, false, []⟩,
    ⟨some 143, some (142, true), .mov (.t 1), 0, 0, false, []⟩,
    ⟨some 144, some (142, true), .mov (.t 8), 0, 0, false, []⟩,
    ⟨some 145, some (142, true), .bin .sub (.t 144) (.k (.int .i64 1)), 0, 0, false, []⟩,
    ⟨some 146, some (142, true), .iaddr 1 (.t 143) (.t 145), 0, 0, false, []⟩,
    ⟨some 147, some (142, true), .load false 1 (.t 146), 0, 0, false, []⟩,
    ⟨some 148, some (142, true), .bin .eql (.t 147) (.k (.int .i64 3)), 0, 0, false, []⟩,
    ⟨some 149, none, .pick (.t 142) (.t 148) (.k (.bool false)), 0, 0, false, []⟩,
    ⟨some 150, none, .mov (.t 149), 0, 0, false, []⟩,
    ⟨some 151, some (150, true), .mov (.t 1), 0, 0, false, []⟩,
    ⟨some 152, some (150, true), .mov (.t 8), 0, 0, false, []⟩,
    ⟨some 153, some (150, true), .bin .sub (.t 152) (.k (.int .i64 2)), 0, 0, false, []⟩,
    ⟨some 154, some (150, true), .iaddr 1 (.t 151) (.t 153), 0, 0, false, []⟩,
    ⟨some 155, some (150, true), .load false 1 (.t 154), 0, 0, false, []⟩,
    ⟨some 156, some (150, true), .bin .eql (.t 155) (.k (.int .i64 3)), 0, 0, false, []⟩,
    ⟨some 157, none, .pick (.t 150) (.t 156) (.k (.bool false)), 0, 0, false, []⟩,
    ⟨some 11, none, .mov (.t 157), 0, 0, false, []⟩])
   (.cutTo [1, 8, 11] (.seq (.seg false [⟨some 158, none, .mov (.t 1), 0, 0, false, []⟩,
    ⟨some 159, none, .mov (.t 8), 0, 0, false, []⟩,
    ⟨some 160, none, .bin .sub (.t 159) (.k (.int .i64 2)), 0, 0, false, []⟩,
    ⟨some 161, none, .mm true (.t 160) [.k (.int .i64 0)], 0, 0, false, []⟩,
    ⟨some 162, none, .slc false 1 (.t 158) none (some (.t 161)) none, 0, 0, false, []⟩,
    ⟨some 163, none, .mksl false 1 [.k (.int .i64 3)], 0, 0, false, []⟩,
    ⟨some 164, none, .app 1 (.t 162) (.t 163), 0, 0, false, []⟩,
    ⟨some 165, none, .mov (.t 11), 0, 0, false, []⟩,
    ⟨some 6, none, .mov (.t 164), 0, 0, false, []⟩,
    ⟨some 7, none, .mov (.t 165), 0, 0, false, []⟩])
   (.cutTo [6, 7] (.ret)))))
   (.seq (.seg false [⟨some 167, none, .bin .eql (.t 40) (.k (.int .i64 7)), 0, 0, false, []⟩,
    ⟨some 166, none, .mov (.t 167), 0, 0, false, []⟩])
   (.cond (.t 166) (.seq (.seg true D97x1)
   (.cutTo [6, 7] (.ret)))
   (.seq (.seg false [⟨some 180, none, .bin .eql (.t 40) (.k (.int .i64 8)), 0, 0, false, []⟩,
    ⟨some 179, none, .mov (.t 180), 0, 0, false, []⟩])
   (.cond (.t 179) (.seq (.seg false [⟨some 181, none, .mov (.t 1), 0, 0, false, []⟩,
    ⟨some 182, none, .mov (.t 8), 0, 0, false, []⟩,
    ⟨some 183, none, .bin .sub (.t 182) (.k (.int .i64 1)), 0, 0, false, []⟩,
    ⟨some 184, none, .mm true (.t 183) [.k (.int .i64 0)], 0, 0, false, []⟩,
    ⟨some 185, none, .slc false 1 (.t 181) none (some (.t 184)) none, 0, 0, false, []⟩,
    ⟨some 186, none, .mksl false 1 [.k (.int .i64 3)], 0, 0, false, []⟩,
    ⟨some 187, none, .app 1 (.t 185) (.t 186), 0, 0, false, []⟩,
    ⟨some 188, none, .mov (.t 8), 0, 0, false, []⟩,
    ⟨some 189, none, .bin .gtr (.t 188) (.k (.int .i64 0)), 0, 0, false, []⟩,
    ⟨some 6, none, .mov (.t 187), 0, 0, false, []⟩,
    ⟨some 7, none, .mov (.t 189), 0, 0, false, []⟩])
   (.cutTo [6, 7] (.ret)))
   (.skip))))))))))))))))))
   (.cutTo [1] (.seq (.seg false [⟨some 190, none, .mov (.t 1), 0, 0, false, []⟩,
    ⟨some 6, none, .mov (.t 190), 0, 0, false, []⟩,
    ⟨some 7, none, .mov (.k (.bool false)), 0, 0, false, []⟩])
   (.ret)))))))⟩
/-- loop.example/tablehouse/spec.l20Pair -/
def F98 : F := ⟨89, [(false, 4, 0, false), (false, 5, 0, false), (false, 6, 0, false), (false, 7, 0, false), (false, 8, 0, false), (false, 9, 0, false)],
   .seq (.seg false [⟨some 4, none, .mov (.k (.sl true 2 [])), 0, 0, false, []⟩,
    ⟨some 5, none, .mov (.k (.sl true 2 [])), 0, 0, false, []⟩,
    ⟨some 6, none, .nilrow 1, 0, 0, false, []⟩,
    ⟨some 7, none, .nilrow 1, 0, 0, false, []⟩,
    ⟨some 8, none, .mov (.k (.int .i64 0)), 0, 0, false, []⟩,
    ⟨some 9, none, .mov (.k (.int .i64 0)), 0, 0, false, []⟩])
   (.cutTo [0, 1] (.seq (.seg false [⟨some 16, none, .mov (.t 0), 0, 0, false, []⟩,
    ⟨some 17, none, .call 87 [.t 16, .k (.int .i64 0)] true false, 0, 0, false, []⟩,
    ⟨some 10, none, .mov (.t 17), 0, 0, false, []⟩])
   (.seq (.seg false [⟨some 18, none, .mov (.t 10), 0, 0, false, []⟩,
    ⟨some 19, none, .mov (.t 0), 0, 0, false, []⟩,
    ⟨some 20, none, .call 65 [.t 19, .k (.int .i64 2)] true false, 0, 0, false, []⟩,
    ⟨some 21, none, .mov (.t 10), 0, 0, false, []⟩,
    ⟨some 22, none, .len false (.t 21), 0, 0, false, []⟩,
    ⟨some 23, none, .bin .rem (.t 20) (.t 22), 0, 0, false, []⟩,
    ⟨some 24, none, .bin .add (.k (.int .i64 1)) (.t 23), 0, 0, false, []⟩,
    ⟨some 25, none, .slc false 2 (.t 18) none (some (.t 24)) none, 0, 0, false, []⟩,
    ⟨some 10, none, .mov (.t 25), 0, 0, false, []⟩])
   (.cutTo [0, 1, 10] (.seq (.seg false [⟨some 26, none, .mov (.t 0), 0, 0, false, []⟩,
    ⟨some 27, none, .call 87 [.t 26, .k (.int .i64 0)] true true, 0, 0, false, []⟩,
    ⟨some 11, none, .mov (.t 27), 0, 0, false, []⟩])
   (.seq (.seg false [⟨some 28, none, .mov (.t 11), 0, 0, false, []⟩,
    ⟨some 29, none, .mov (.t 0), 0, 0, false, []⟩,
    ⟨some 30, none, .call 65 [.t 29, .k (.int .i64 2)] true false, 0, 0, false, []⟩,
    ⟨some 31, none, .mov (.t 11), 0, 0, false, []⟩,
    ⟨some 32, none, .len false (.t 31), 0, 0, false, []⟩,
    ⟨some 33, none, .bin .rem (.t 30) (.t 32), 0, 0, false, []⟩,
    ⟨some 34, none, .bin .add (.k (.int .i64 1)) (.t 33), 0, 0, false, []⟩,
    ⟨some 35, none, .slc false 2 (.t 28) none (some (.t 34)) none, 0, 0, false, []⟩,
    ⟨some 11, none, .mov (.t 35), 0, 0, false, []⟩])
   (.cutTo [0, 1, 10, 11] (.seq (.seg false [⟨some 36, none, .mov (.t 0), 0, 0, false, []⟩,
    ⟨some 37, none, .mov (.t 10), 0, 0, false, []⟩,
    ⟨some 38, none, .len false (.t 37), 0, 0, false, []⟩,
    ⟨some 39, none, .call 65 [.t 36, .t 38] true false, 0, 0, false, []⟩,
    ⟨some 12, none, .mov (.t 39), 0, 0, false, []⟩])
   (.cutTo [0, 1, 10, 11, 12] (.seq (.seg false [⟨some 40, none, .mov (.t 0), 0, 0, false, []⟩,
    ⟨some 41, none, .mov (.t 11), 0, 0, false, []⟩,
    ⟨some 42, none, .len false (.t 41), 0, 0, false, []⟩,
    ⟨some 43, none, .call 65 [.t 40, .t 42] true false, 0, 0, false, []⟩,
    ⟨some 13, none, .mov (.t 43), 0, 0, false, []⟩])
   (.cutTo [0, 1, 10, 11, 12, 13] (.seq (.seg false [⟨some 44, none, .mov (.t 11), 0, 0, false, []⟩,
    ⟨some 45, none, .mov (.t 13), 0, 0, false, []⟩,
    ⟨some 46, none, .mov (.t 10), 0, 0, false, []⟩,
    ⟨some 47, none, .mov (.t 12), 0, 0, false, []⟩,
    ⟨some 48, none, .iaddr 2 (.t 46) (.t 47), 0, 0, false, []⟩,
    ⟨some 49, none, .faddr 0 1 (.t 48), 0, 0, false, []⟩,
    ⟨some 50, none, .load false 1 (.t 49), 0, 0, false, []⟩,
    ⟨some 51, none, .iaddr 2 (.t 44) (.t 45), 0, 0, false, []⟩,
    ⟨some 52, none, .faddr 0 1 (.t 51), 0, 0, false, []⟩,
    ⟨none, none, .store 1 (.t 52) (.t 50), 0, 0, false, []⟩])
   (.cutTo [0, 1, 10, 11, 12, 13] (.seq (.seg false [⟨some 53, none, .mov (.t 0), 0, 0, false, []⟩,
    ⟨some 54, none, .mov (.t 10), 0, 0, false, []⟩,
    ⟨some 55, none, .call 133 [.t 53, .t 54, .k (.int .i64 0)] true true, 0, 0, false, []⟩,
    ⟨some 56, none, .mov (.t 0), 0, 0, false, []⟩,
    ⟨some 57, none, .mov (.t 10), 0, 0, false, []⟩,
    ⟨some 58, none, .call 133 [.t 56, .t 57, .k (.int .i64 0)] true false, 0, 0, false, []⟩,
    ⟨some 59, none, .app 1 (.t 55) (.t 58), 0, 0, false, []⟩,
    ⟨some 14, none, .mov (.t 59), 0, 0, false, []⟩])
   (.cutTo [0, 1, 10, 11, 12, 13, 14] (.seq (.seg false [⟨some 60, none, .mov (.t 0), 0, 0, false, []⟩,
    ⟨some 61, none, .mov (.t 11), 0, 0, false, []⟩,
    ⟨some 62, none, .call 133 [.t 60, .t 61, .k (.int .i64 0)] true true, 0, 0, false, []⟩,
    ⟨some 15, none, .mov (.t 62), 0, 0, false, []⟩])
   (.cutTo [0, 1, 10, 11, 12, 13, 14, 15] (.seq (.seq (.seg false [⟨some 63, none, .mov (.t 0), 0, 0, false, []⟩,
    ⟨some 64, none, .mov (.t 1), 0, 0, false, []⟩,
    ⟨some 65, none, .call 134 [.t 63, .t 64] true false, 0, 0, false, []⟩])
   (.cond (.t 65) (.seq (.seg false [⟨some 66, none, .mov (.t 0), 0, 0, false, []⟩,
    ⟨some 67, none, .call 65 [.t 66, .k (.int .i64 3)] true false, 0, 0, false, []⟩])
   (.block 0 (.seq (.seg false [⟨some 72, none, .bin .eql (.t 67) (.k (.int .i64 0)), 0, 0, false, []⟩,
    ⟨some 71, none, .mov (.t 72), 0, 0, false, []⟩])
   (.cond (.t 71) (.seg false [⟨some 73, none, .mov (.t 0), 0, 0, false, []⟩,
    ⟨some 74, none, .call 65 [.t 73, .k (.int .i64 6)] true false, 0, 0, false, []⟩,
    ⟨some 75, none, .bin .sub (.t 74) (.k (.int .i64 1)), 0, 0, false, []⟩,
    ⟨some 12, none, .mov (.t 75), 0, 0, false, []⟩])
   (.seq (.seg false [⟨some 77, none, .bin .eql (.t 67) (.k (.int .i64 1)), 0, 0, false, []⟩,
    ⟨some 76, none, .mov (.t 77), 0, 0, false, []⟩])
   (.cond (.t 76) (.seg false [⟨some 78, none, .mov (.t 15), 0, 0, false, []⟩,
    ⟨some 79, none, .build [.int .i64 0, .int .i64 0, .str ⟨#[]⟩] [(0, 1, .k (.int .i64 7))], 0, 0, false, []⟩,
    ⟨some 80, none, .mksl false 3 [.t 79], 0, 0, false, []⟩,
    ⟨some 81, none, .mksl false 1 [.t 80], 0, 0, false, []⟩,
    ⟨some 82, none, .app 1 (.t 78) (.t 81), 0, 0, false, []⟩,
    ⟨some 15, none, .mov (.t 82), 0, 0, false, []⟩])
   (.seg false [⟨some 68, none, .mov (.t 0), 0, 0, false, []⟩,
    ⟨some 69, none, .call 65 [.t 68, .k (.int .i64 6)] true false, 0, 0, false, []⟩,
    ⟨some 70, none, .bin .sub (.t 69) (.k (.int .i64 1)), 0, 0, false, []⟩,
    ⟨some 13, none, .mov (.t 70), 0, 0, false, []⟩])))))))
   (.skip)))
   (.cutTo [10, 11, 12, 13, 14, 15] (.seq (.seg false [⟨some 83, none, .mov (.t 10), 0, 0, false, []⟩,
    ⟨some 84, none, .mov (.t 11), 0, 0, false, []⟩,
    ⟨some 85, none, .mov (.t 14), 0, 0, false, []⟩,
    ⟨some 86, none, .mov (.t 15), 0, 0, false, []⟩,
    ⟨some 87, none, .mov (.t 12), 0, 0, false, []⟩,
    ⟨some 88, none, .mov (.t 13), 0, 0, false, []⟩,
    ⟨some 4, none, .mov (.t 83), 0, 0, false, []⟩,
    ⟨some 5, none, .mov (.t 84), 0, 0, false, []⟩,
    ⟨some 6, none, .mov (.t 85), 0, 0, false, []⟩,
    ⟨some 7, none, .mov (.t 86), 0, 0, false, []⟩,
    ⟨some 8, none, .mov (.t 87), 0, 0, false, []⟩,
    ⟨some 9, none, .mov (.t 88), 0, 0, false, []⟩])
   (.cutTo [4, 5, 6, 7, 8, 9] (.ret))))))))))))))))))))))⟩
def E99x0 : List I := [⟨some 13, none, .mov (.t 0), 0, 0, false, []⟩,
    ⟨some 14, none, .mov (.t 1), 0, 0, false, []⟩,
    ⟨some 15, none, .mov (.t 2), 0, 0, false, []⟩,
    ⟨some 16, none, .mov (.t 3), 0, 0, false, []⟩,
    ⟨some 17, none, .call 144 [.t 13, .t 14, .t 15, .t 16] false false, 0, 0, false, []⟩,
    ⟨some 18, none, .mov (.t 17), 0, 0, false, []⟩,
    ⟨some 19, some (18, true), .mov (.t 4), 0, 0, false, []⟩,
    ⟨some 20, some (18, true), .mov (.t 0), 0, 0, false, []⟩,
    ⟨some 21, some (18, true), .len false (.t 20), 0, 0, false, []⟩,
    ⟨some 22, some (18, true), .bin .sub (.t 21) (.k (.int .i64 1)), 0, 0, false, []⟩,
    ⟨some 23, some (18, true), .call 68 [.t 19, .k (.int .i64 0), .t 22] false false, 0, 0, false, []⟩,
    ⟨some 24, none, .pick (.t 18) (.t 23) (.k (.bool false)), 0, 0, false, []⟩,
    ⟨some 25, none, .mov (.t 24), 0, 0, false, []⟩,
    ⟨some 26, some (25, true), .mov (.t 5), 0, 0, false, []⟩,
    ⟨some 27, some (25, true), .mov (.t 1), 0, 0, false, []⟩,
    ⟨some 28, some (25, true), .len false (.t 27), 0, 0, false, []⟩,
    ⟨some 29, some (25, true), .bin .sub (.t 28) (.k (.int .i64 1)), 0, 0, false, []⟩,
    ⟨some 30, some (25, true), .call 68 [.t 26, .k (.int .i64 0), .t 29] false false, 0, 0, false, []⟩,
    ⟨some 31, none, .pick (.t 25) (.t 30) (.k (.bool false)), 0, 0, false, []⟩,
    ⟨some 32, none, .mov (.t 31), 0, 0, false, []⟩,
    ⟨some 33, some (32, true), .mov (.t 0), 0, 0, false, []⟩,
    ⟨some 34, some (32, true), .mov (.t 4), 0, 0, false, []⟩,
    ⟨some 35, some (32, true), .iaddr 2 (.t 33) (.t 34), 0, 0, false, []⟩,
    ⟨some 36, some (32, true), .faddr 0 1 (.t 35), 0, 0, false, []⟩,
    ⟨some 37, some (32, true), .load false 1 (.t 36), 0, 0, false, []⟩,
    ⟨some 38, some (32, true), .mov (.t 1), 0, 0, false, []⟩,
    ⟨some 39, some (32, true), .mov (.t 5), 0, 0, false, []⟩,
    ⟨some 40, some (32, true), .iaddr 2 (.t 38) (.t 39), 0, 0, false, []⟩,
    ⟨some 41, some (32, true), .faddr 0 1 (.t 40), 0, 0, false, []⟩,
    ⟨some 42, some (32, true), .load false 1 (.t 41), 0, 0, false, []⟩,
    ⟨some 43, some (32, true), .bin .eql (.t 37) (.t 42), 0, 0, false, []⟩,
    ⟨some 44, none, .pick (.t 32) (.t 43) (.k (.bool false)), 0, 0, false, []⟩,
    ⟨some 12, none, .mov (.t 44), 0, 0, false, []⟩]
def D99x0 : List I := E99x0
theorem evD99x0 (run : Run) (e : Env) (h : Heap) : drawI run D99x0 e h = DrawS (evQ run E99x0 e h) run E99x0 e h := drawI_quiet run _ (by rfl) e h
/-- loop.example/tablehouse/impl.joinOk -/
def F99 : F := ⟨45, [(false, 12, 0, false)],
   .seq (.seg false [⟨some 12, none, .mov (.k (.bool false)), 0, 0, false, []⟩])
   (.seq (.seg true D99x0)
   (.cutTo [12] (.ret)))⟩
def E101x0 : List I := [⟨some 6, none, .mov (.t 0), 0, 0, false, []⟩,
    ⟨some 7, none, .load false 1 (.t 1), 0, 0, false, []⟩,
    ⟨some 8, none, .iaddr 3 (.t 6) (.t 7), 0, 0, false, []⟩,
    ⟨some 9, none, .load true 3 (.t 8), 0, 0, false, []⟩,
    ⟨some 10, none, .load false 1 (.t 2), 0, 0, false, []⟩,
    ⟨some 11, none, .load false 1 (.t 3), 0, 0, false, []⟩,
    ⟨some 12, none, .call 103 [.t 10, .t 11] false false, 0, 0, false, []⟩,
    ⟨some 13, none, .call 102 [.t 9, .t 12] false false, 0, 0, false, []⟩,
    ⟨some 14, none, .bin .eql (.t 13) (.k (.int .i64 0)), 0, 0, false, []⟩,
    ⟨some 5, none, .mov (.t 14), 0, 0, false, []⟩]
def D101x0 : List I := E101x0
theorem evD101x0 (run : Run) (e : Env) (h : Heap) : drawI run D101x0 e h = DrawS (evQ run E101x0 e h) run E101x0 e h := drawI_quiet run _ (by rfl) e h
/-- loop.example/tablehouse/impl.NotInRows$1 -/
def F101 : F := ⟨15, [(false, 5, 0, false)],
   .seq (.seg false [⟨some 5, none, .mov (.k (.bool false)), 0, 0, false, []⟩])
   (.seq (.seg true D101x0)
   (.cutTo [5] (.ret)))⟩
def B100x0 : C := .seq (.seg false [⟨some 11, none, .bin .lss (.t 10) (.t 9), 0, 0, false, []⟩])
   (.seq (.cond (.t 11) (.skip)
   (.exit 0))
   (.seq (.block 1 (.seq (.seg false [⟨some 12, none, .iaddr 1 (.t 8) (.t 10), 0, 0, false, []⟩,
    ⟨some 13, none, .load false 1 (.t 12), 0, 0, false, []⟩,
    ⟨some 7, none, .mov (.t 13), 0, 0, false, []⟩])
   (.seq (.seg false [⟨some 14, none, .mov (.t 1), 0, 0, false, []⟩,
    ⟨some 15, none, .mov (.t 7), 0, 0, false, []⟩,
    ⟨some 16, none, .callv (.t 14) [.t 15] false, 0, 0, false, []⟩])
   (.cond (.t 16) (.seg false [⟨some 17, none, .mov (.t 5), 0, 0, false, []⟩,
    ⟨some 18, none, .mov (.t 7), 0, 0, false, []⟩,
    ⟨some 19, none, .mksl false 1 [.t 18], 0, 0, false, []⟩,
    ⟨some 20, none, .app 1 (.t 17) (.t 19), 0, 0, false, []⟩,
    ⟨some 5, none, .mov (.t 20), 0, 0, false, []⟩])
   (.skip)))))
   (.cutTo [1, 5, 8, 9, 10] (.seg false [⟨some 21, none, .bin .add (.t 10) (.k (.int .i64 1)), 0, 0, false, []⟩,
    ⟨some 10, none, .mov (.t 21), 0, 0, false, []⟩]))))
def L100x0 : C := B100x0
theorem evL100x0 (run : Run) (draw : List I → Env → Heap → Option (Env × Heap)) (e : Env) (h : Heap) : evC run draw L100x0 e h = evC run draw B100x0 e h := rfl
/-- loop.example/tablehouse/impl.kept -/
def F100 : F := ⟨24, [(false, 4, 0, false)],
   .seq (.seg false [⟨some 4, none, .mov (.k (.sl true 1 [])), 0, 0, false, []⟩])
   (.seq (.seg false [⟨some 5, none, .nilrow 1, 0, 0, false, []⟩])
   (.seq (.seq (.seg false [⟨some 8, none, .mov (.t 0), 0, 0, false, []⟩,
    ⟨some 9, none, .len false (.t 8), 0, 0, false, []⟩,
    ⟨some 10, none, .mov (.k (.int .i64 0)), 0, 0, false, []⟩])
   (.block 0 (.loop [1, 5, 8, 9, 10] [5] L100x0)))
   (.seq (.seg false [⟨some 22, none, .mov (.t 5), 0, 0, false, []⟩,
    ⟨some 23, none, .call 120 [.t 22] false false, 0, 0, false, []⟩,
    ⟨some 4, none, .mov (.t 23), 0, 0, false, []⟩])
   (.ret))))⟩
def E105x0 : List I := [⟨some 13, none, .mov (.t 0), 0, 0, false, []⟩,
    ⟨some 14, none, .mov (.t 2), 0, 0, false, []⟩,
    ⟨some 15, none, .call 135 [.t 13, .t 14] false false, 0, 0, false, []⟩,
    ⟨some 16, none, .mov (.t 15), 0, 0, false, []⟩,
    ⟨some 17, some (16, true), .mov (.t 1), 0, 0, false, []⟩,
    ⟨some 18, some (16, true), .mov (.t 3), 0, 0, false, []⟩,
    ⟨some 19, some (16, true), .call 135 [.t 17, .t 18] false false, 0, 0, false, []⟩,
    ⟨some 20, none, .pick (.t 16) (.t 19) (.k (.bool false)), 0, 0, false, []⟩,
    ⟨some 21, none, .mov (.t 20), 0, 0, false, []⟩,
    ⟨some 22, some (21, true), .mov (.t 4), 0, 0, false, []⟩,
    ⟨some 23, some (21, true), .mov (.t 0), 0, 0, false, []⟩,
    ⟨some 24, some (21, true), .len false (.t 23), 0, 0, false, []⟩,
    ⟨some 25, some (21, true), .bin .sub (.t 24) (.k (.int .i64 1)), 0, 0, false, []⟩,
    ⟨some 26, some (21, true), .call 70 [.t 22, .k (.int .i64 0), .t 25] false false, 0, 0, false, []⟩,
    ⟨some 27, none, .pick (.t 21) (.t 26) (.k (.bool false)), 0, 0, false, []⟩,
    ⟨some 28, none, .mov (.t 27), 0, 0, false, []⟩,
    ⟨some 29, some (28, true), .mov (.t 5), 0, 0, false, []⟩,
    ⟨some 30, some (28, true), .mov (.t 1), 0, 0, false, []⟩,
    ⟨some 31, some (28, true), .len false (.t 30), 0, 0, false, []⟩,
    ⟨some 32, some (28, true), .bin .sub (.t 31) (.k (.int .i64 1)), 0, 0, false, []⟩,
    ⟨some 33, some (28, true), .call 70 [.t 29, .k (.int .i64 0), .t 32] false false, 0, 0, false, []⟩,
    ⟨some 34, none, .pick (.t 28) (.t 33) (.k (.bool false)), 0, 0, false, []⟩,
    ⟨some 35, none, .mov (.t 34), 0, 0, false, []⟩,
    ⟨some 36, some (35, true), .mov (.t 0), 0, 0, false, []⟩,
    ⟨some 37, some (35, true), .mov (.t 4), 0, 0, false, []⟩,
    ⟨some 38, some (35, true), .iaddr 2 (.t 36) (.t 37), 0, 0, false, []⟩,
    ⟨some 39, some (35, true), .faddr 0 1 (.t 38), 0, 0, false, []⟩,
    ⟨some 40, some (35, true), .load false 1 (.t 39), 0, 0, false, []⟩,
    ⟨some 41, some (35, true), .mov (.t 1), 0, 0, false, []⟩,
    ⟨some 42, some (35, true), .mov (.t 5), 0, 0, false, []⟩,
    ⟨some 43, some (35, true), .iaddr 2 (.t 41) (.t 42), 0, 0, false, []⟩,
    ⟨some 44, some (35, true), .faddr 0 1 (.t 43), 0, 0, false, []⟩,
    ⟨some 45, some (35, true), .load false 1 (.t 44), 0, 0, false, []⟩,
    ⟨some 46, some (35, true), .bin .eql (.t 40) (.t 45), 0, 0, false, []⟩,
    ⟨some 47, none, .pick (.t 35) (.t 46) (.k (.bool false)), 0, 0, false, []⟩,
    ⟨some 48, none, .mov (.t 47), 0, 0, false, []⟩,
    ⟨some 49, some (48, true), .mov (.t 0), 0, 0, false, []⟩,
    ⟨some 50, some (48, true), .len false (.t 49), 0, 0, false, []⟩,
    ⟨some 51, some (48, true), .mov (.t 1), 0, 0, false, []⟩,
    ⟨some 52, some (48, true), .len false (.t 51), 0, 0, false, []⟩,
    ⟨some 53, some (48, true), .bin .add (.t 50) (.t 52), 0, 0, false, []⟩,
    ⟨some 54, some (48, true), .bin .leq (.t 53) (.k (.int .i64 4)), 0, 0, false, []⟩,
    ⟨some 55, none, .pick (.t 48) (.t 54) (.k (.bool false)), 0, 0, false, []⟩,
    ⟨some 56, none, .mov (.t 55), 0, 0, false, []⟩,
    ⟨some 57, some (56, true), .mov (.t 2), 0, 0, false, []⟩,
    ⟨some 58, some (56, true), .len false (.t 57), 0, 0, false, []⟩,
    ⟨some 59, some (56, true), .bin .leq (.t 58) (.k (.int .i64 30)), 0, 0, false, []⟩,
    ⟨some 60, none, .pick (.t 56) (.t 59) (.k (.bool false)), 0, 0, false, []⟩,
    ⟨some 61, none, .mov (.t 60), 0, 0, false, []⟩,
    ⟨some 62, some (61, true), .mov (.t 3), 0, 0, false, []⟩,
    ⟨some 63, some (61, true), .len false (.t 62), 0, 0, false, []⟩,
    ⟨some 64, some (61, true), .bin .leq (.t 63) (.k (.int .i64 30)), 0, 0, false, []⟩,
    ⟨some 65, none, .pick (.t 61) (.t 64) (.k (.bool false)), 0, 0, false, []⟩,
    ⟨some 12, none, .mov (.t 65), 0, 0, false, []⟩]
def D105x0 : List I := E105x0
theorem evD105x0 (run : Run) (e : Env) (h : Heap) : drawI run D105x0 e h = DrawS (evQ run E105x0 e h) run E105x0 e h := drawI_quiet run _ (by rfl) e h
/-- loop.example/tablehouse/spec.l22Ready -/
def F105 : F := ⟨66, [(false, 12, 0, false)],
   .seq (.seg false [⟨some 12, none, .mov (.k (.bool false)), 0, 0, false, []⟩])
   (.seq (.seg true D105x0)
   (.cutTo [12] (.ret)))⟩
def B108x0 : C := .seq (.seq (.seg false [⟨some 8, none, .mov (.t 6), 0, 0, false, []⟩,
    ⟨some 9, none, .mov (.t 0), 0, 0, false, []⟩,
    ⟨some 10, none, .len false (.t 9), 0, 0, false, []⟩,
    ⟨some 11, none, .bin .lss (.t 8) (.t 10), 0, 0, false, []⟩])
   (.cutTo [0, 1, 5, 6, 11] (.cond (.t 11) (.skip)
   (.exit 0))))
   (.cutTo [0, 1, 5, 6] (.seq (.block 1 (.seg false [⟨some 14, none, .mov (.t 5), 0, 0, false, []⟩,
    ⟨some 15, none, .mov (.t 0), 0, 0, false, []⟩,
    ⟨some 16, none, .mov (.t 6), 0, 0, false, []⟩,
    ⟨some 17, none, .iaddr 1 (.t 15) (.t 16), 0, 0, false, []⟩,
    ⟨some 18, none, .load false 1 (.t 17), 0, 0, false, []⟩,
    ⟨some 19, none, .mov (.t 1), 0, 0, false, []⟩,
    ⟨some 20, none, .iaddr 3 (.t 18) (.t 19), 0, 0, false, []⟩,
    ⟨some 21, none, .load true 3 (.t 20), 0, 0, false, []⟩,
    ⟨some 22, none, .mksl false 3 [.t 21], 0, 0, false, []⟩,
    ⟨some 23, none, .app 3 (.t 14) (.t 22), 0, 0, false, []⟩,
    ⟨some 5, none, .mov (.t 23), 0, 0, false, []⟩]))
   (.cutTo [0, 1, 5, 6] (.seg false [⟨some 12, none, .mov (.t 6), 0, 0, false, []⟩,
    ⟨some 13, none, .bin .add (.t 12) (.k (.int .i64 1)), 0, 0, false, []⟩,
    ⟨some 6, none, .mov (.t 13), 0, 0, false, []⟩]))))
def L108x0 : C := B108x0
theorem evL108x0 (run : Run) (draw : List I → Env → Heap → Option (Env × Heap)) (e : Env) (h : Heap) : evC run draw L108x0 e h = evC run draw B108x0 e h := rfl
/-- loop.example/tablehouse/spec.l23Values -/
def F108 : F := ⟨25, [(false, 4, 0, false)],
   .seq (.seg false [⟨some 4, none, .nilrow 3, 0, 0, false, []⟩])
   (.seq (.seg false [⟨some 7, none, .mksl true 3 [], 0, 0, false, []⟩,
    ⟨some 5, none, .mov (.t 7), 0, 0, false, []⟩])
   (.seq (.seq (.seg false [⟨some 6, none, .mov (.k (.int .i64 0)), 0, 0, false, []⟩])
   (.block 0 (.loop [0, 1, 5, 6] [5] L108x0)))
   (.seq (.seg false [⟨some 24, none, .mov (.t 5), 0, 0, false, []⟩,
    ⟨some 4, none, .mov (.t 24), 0, 0, false, []⟩])
   (.ret))))⟩
def E107x0 : List I := [⟨some 21, none, .mov (.t 1), 0, 0, false, []⟩,
    ⟨some 22, none, .mov (.t 6), 0, 0, false, []⟩,
    ⟨some 23, none, .iaddr 3 (.t 21) (.t 22), 0, 0, false, []⟩,
    ⟨some 24, none, .load true 3 (.t 23), 0, 0, false, []⟩,
    ⟨some 25, none, .call 143 [.t 24] false false, 0, 0, false, []⟩,
    ⟨some 26, none, .un .not (.t 25), 0, 0, false, []⟩,
    ⟨some 27, none, .mov (.t 26), 0, 0, false, []⟩,
    ⟨some 28, some (27, false), .faddr 0 1 (.t 2), 0, 0, false, []⟩,
    ⟨some 29, some (27, false), .load false 1 (.t 28), 0, 0, false, []⟩,
    ⟨some 30, some (27, false), .bin .neq (.t 29) (.k (.int .i64 0)), 0, 0, false, []⟩,
    ⟨some 31, some (27, false), .mov (.t 30), 0, 0, false, []⟩,
    ⟨some 32, some (31, true), .mov (.t 1), 0, 0, false, []⟩,
    ⟨some 33, some (31, true), .mov (.t 6), 0, 0, false, []⟩,
    ⟨some 34, some (31, true), .iaddr 3 (.t 32) (.t 33), 0, 0, false, []⟩,
    ⟨some 35, some (31, true), .faddr 0 1 (.t 34), 0, 0, false, []⟩,
    ⟨some 36, some (31, true), .load false 1 (.t 35), 0, 0, false, []⟩,
    ⟨some 37, some (31, true), .bin .neq (.t 36) (.k (.int .i64 0)), 0, 0, false, []⟩,
    ⟨some 38, some (27, false), .pick (.t 31) (.t 37) (.k (.bool false)), 0, 0, false, []⟩,
    ⟨some 39, some (27, false), .mov (.t 38), 0, 0, false, []⟩,
    ⟨some 40, some (39, true), .faddr 0 1 (.t 2), 0, 0, false, []⟩,
    ⟨some 41, some (39, true), .load false 1 (.t 40), 0, 0, false, []⟩,
    ⟨some 42, some (39, true), .mov (.t 1), 0, 0, false, []⟩,
    ⟨some 43, some (39, true), .mov (.t 6), 0, 0, false, []⟩,
    ⟨some 44, some (39, true), .iaddr 3 (.t 42) (.t 43), 0, 0, false, []⟩,
    ⟨some 45, some (39, true), .faddr 0 1 (.t 44), 0, 0, false, []⟩,
    ⟨some 46, some (39, true), .load false 1 (.t 45), 0, 0, false, []⟩,
    ⟨some 47, some (39, true), .bin .neq (.t 41) (.t 46), 0, 0, false, []⟩,
    ⟨some 48, some (27, false), .pick (.t 39) (.t 47) (.k (.bool false)), 0, 0, false, []⟩,
    ⟨some 49, none, .pick (.t 27) (.k (.bool true)) (.t 48), 0, 0, false, []⟩]
def D107x0 : List I := E107x0
theorem evD107x0 (run : Run) (e : Env) (h : Heap) : drawI run D107x0 e h = DrawS (evQ run E107x0 e h) run E107x0 e h := drawI_quiet run _ (by rfl) e h
def E107x1 : List I := [⟨some 50, none, .mov (.t 5), 0, 0, false, [5]⟩,
    ⟨some 51, none, .load true 3 (.t 2), 0, 0, false, []⟩,
    ⟨some 52, none, .mov (.t 1), 0, 0, false, []⟩,
    ⟨some 53, none, .mov (.t 6), 0, 0, false, []⟩,
    ⟨some 54, none, .iaddr 3 (.t 52) (.t 53), 0, 0, false, []⟩,
    ⟨some 55, none, .load true 3 (.t 54), 0, 0, false, []⟩,
    ⟨some 56, none, .call 150 [.k (.int .i64 1), .t 51, .t 55] false false, 0, 0, false, []⟩,
    ⟨some 57, none, .call 149 [.t 50, .t 56] false false, 0, 0, false, []⟩,
    ⟨some 5, none, .mov (.t 57), 0, 0, false, []⟩]
def D107x1 : List I := E107x1
theorem evD107x1 (run : Run) (e : Env) (h : Heap) : drawI run D107x1 e h = DrawW (evW run E107x1 e h []) run E107x1 e h := drawI_write run _ e h
def B107x0 : C := .seq (.seq (.seg false [⟨some 15, none, .mov (.t 6), 0, 0, false, []⟩,
    ⟨some 16, none, .mov (.t 1), 0, 0, false, []⟩,
    ⟨some 17, none, .len false (.t 16), 0, 0, false, []⟩,
    ⟨some 18, none, .bin .lss (.t 15) (.t 17), 0, 0, false, []⟩])
   (.cutTo [1, 2, 5, 6, 18] (.cond (.t 18) (.skip)
   (.exit 0))))
   (.cutTo [1, 2, 5, 6] (.seq (.block 1 (.seq (.seq (.seg true D107x0)
   (.cutTo [1, 2, 5, 6, 49] (.cond (.t 49) (.seq (.seg false [⟨some 4, none, .mov (.k (.int .i64 2)), 0, 0, false, []⟩])
   (.ret))
   (.skip))))
   (.cutTo [1, 2, 5, 6] (.seg true D107x1))))
   (.cutTo [1, 2, 5, 6] (.seg false [⟨some 19, none, .mov (.t 6), 0, 0, false, []⟩,
    ⟨some 20, none, .bin .add (.t 19) (.k (.int .i64 1)), 0, 0, false, []⟩,
    ⟨some 6, none, .mov (.t 20), 0, 0, false, []⟩]))))
def L107x0 : C := B107x0
theorem evL107x0 (run : Run) (draw : List I → Env → Heap → Option (Env × Heap)) (e : Env) (h : Heap) : evC run draw L107x0 e h = evC run draw B107x0 e h := rfl
/-- loop.example/tablehouse/spec.InTruth -/
def F107 : F := ⟨59, [(false, 4, 0, false)],
   .seq (.seg false [⟨some 2, none, .box (.t 0), 0, 0, false, []⟩,
    ⟨some 4, none, .mov (.k (.int .i64 0)), 0, 0, false, []⟩])
   (.seq (.seq (.seg false [⟨some 7, none, .load true 3 (.t 2), 0, 0, false, []⟩,
    ⟨some 8, none, .call 143 [.t 7] false false, 0, 0, false, []⟩,
    ⟨some 9, none, .un .not (.t 8), 0, 0, false, []⟩,
    ⟨some 10, none, .mov (.t 9), 0, 0, false, []⟩,
    ⟨some 11, some (10, false), .mov (.t 1), 0, 0, false, []⟩,
    ⟨some 12, some (10, false), .len false (.t 11), 0, 0, false, []⟩,
    ⟨some 13, some (10, false), .bin .gtr (.t 12) (.k (.int .i64 30)), 0, 0, false, []⟩,
    ⟨some 14, none, .pick (.t 10) (.k (.bool true)) (.t 13), 0, 0, false, []⟩])
   (.cutTo [1, 2, 14] (.cond (.t 14) (.seq (.seg false [⟨some 4, none, .mov (.k (.int .i64 2)), 0, 0, false, []⟩])
   (.ret))
   (.skip))))
   (.cutTo [1, 2] (.seq (.seg false [⟨some 5, none, .mov (.k (.int .i64 0)), 0, 0, false, []⟩])
   (.seq (.seq (.seg false [⟨some 6, none, .mov (.k (.int .i64 0)), 0, 0, false, []⟩])
   (.block 0 (.loop [1, 2, 5, 6] [4, 5] L107x0)))
   (.seq (.seg false [⟨some 58, none, .mov (.t 5), 0, 0, false, []⟩,
    ⟨some 4, none, .mov (.t 58), 0, 0, false, []⟩])
   (.ret))))))⟩
/-- loop.example/tablehouse/spec.NotOf -/
def F106 : F := ⟨10, [(false, 2, 0, false)],
   .seq (.seg false [⟨some 2, none, .mov (.k (.int .i64 0)), 0, 0, false, []⟩])
   (.seq (.seq (.seg false [⟨some 3, none, .mov (.t 0), 0, 0, false, []⟩,
    ⟨some 4, none, .call 147 [.t 3] false false, 0, 0, false, []⟩,
    ⟨some 5, none, .un .not (.t 4), 0, 0, false, []⟩])
   (.cond (.t 5) (.seq (.seg false [⟨some 2, none, .mov (.k (.int .i64 (-1))), 0, 0, false, []⟩])
   (.ret))
   (.skip)))
   (.cutTo [0] (.seq (.seg false [⟨some 6, none, .mov (.t 0), 0, 0, false, []⟩,
    ⟨some 7, none, .call 148 [.t 6] false false, 0, 0, false, []⟩,
    ⟨some 8, none, .bin .sub (.k (.int .i64 2)) (.t 7), 0, 0, false, []⟩,
    ⟨some 9, none, .call 148 [.t 8] false false, 0, 0, false, []⟩,
    ⟨some 2, none, .mov (.t 9), 0, 0, false, []⟩])
   (.cutTo [2] (.ret)))))⟩
/-- loop.example/tablehouse/spec.l3Own -/
def F109 : F := ⟨6, [(false, 2, 0, false)],
   .seq (.seg false [⟨some 2, none, .nilrow 3, 0, 0, false, []⟩])
   (.seq (.seg false [⟨some 3, none, .mksl true 3 [], 0, 0, false, []⟩,
    ⟨some 4, none, .mov (.t 0), 0, 0, false, []⟩,
    ⟨some 5, none, .app 3 (.t 3) (.t 4), 0, 0, false, []⟩,
    ⟨some 2, none, .mov (.t 5), 0, 0, false, []⟩])
   (.cutTo [2] (.ret)))⟩
def E104x0 : List I := [⟨some 17, none, .mov (.t 0), 0, 0, false, []⟩,
    ⟨some 18, none, .mov (.t 5), 0, 0, false, []⟩,
    ⟨some 19, none, .iaddr 3 (.t 17) (.t 18), 0, 0, false, []⟩,
    ⟨some 20, none, .load true 3 (.t 19), 0, 0, false, []⟩,
    ⟨some 21, none, .mov (.t 1), 0, 0, false, []⟩,
    ⟨some 22, none, .mov (.t 5), 0, 0, false, []⟩,
    ⟨some 23, none, .iaddr 3 (.t 21) (.t 22), 0, 0, false, []⟩,
    ⟨some 24, none, .load true 3 (.t 23), 0, 0, false, []⟩,
    ⟨some 25, none, .eqs true [.int, .int, .str] (.t 20) (.t 24), 0, 0, false, []⟩]
def D104x0 : List I := E104x0
theorem evD104x0 (run : Run) (e : Env) (h : Heap) : drawI run D104x0 e h = DrawS (evQ run E104x0 e h) run E104x0 e h := drawI_quiet run _ (by rfl) e h
def B104x0 : C := .seq (.seq (.seg false [⟨some 11, none, .mov (.t 5), 0, 0, false, []⟩,
    ⟨some 12, none, .mov (.t 0), 0, 0, false, []⟩,
    ⟨some 13, none, .len false (.t 12), 0, 0, false, []⟩,
    ⟨some 14, none, .bin .lss (.t 11) (.t 13), 0, 0, false, []⟩])
   (.cutTo [0, 1, 5, 14] (.cond (.t 14) (.skip)
   (.exit 0))))
   (.cutTo [0, 1, 5] (.seq (.block 1 (.seq (.seg true D104x0)
   (.cutTo [0, 1, 5, 25] (.cond (.t 25) (.seq (.seg false [⟨some 4, none, .mov (.k (.bool false)), 0, 0, false, []⟩])
   (.ret))
   (.skip)))))
   (.cutTo [0, 1, 5] (.seg false [⟨some 15, none, .mov (.t 5), 0, 0, false, []⟩,
    ⟨some 16, none, .bin .add (.t 15) (.k (.int .i64 1)), 0, 0, false, []⟩,
    ⟨some 5, none, .mov (.t 16), 0, 0, false, []⟩]))))
def L104x0 : C := B104x0
theorem evL104x0 (run : Run) (draw : List I → Env → Heap → Option (Env × Heap)) (e : Env) (h : Heap) : evC run draw L104x0 e h = evC run draw B104x0 e h := rfl
/-- loop.example/tablehouse/laws.sameRow -/
def F104 : F := ⟨26, [(false, 4, 0, false)],
   .seq (.seg false [⟨some 4, none, .mov (.k (.bool false)), 0, 0, false, []⟩])
   (.seq (.seq (.seg false [⟨some 6, none, .mov (.t 0), 0, 0, false, []⟩,
    ⟨some 7, none, .len false (.t 6), 0, 0, false, []⟩,
    ⟨some 8, none, .mov (.t 1), 0, 0, false, []⟩,
    ⟨some 9, none, .len false (.t 8), 0, 0, false, []⟩,
    ⟨some 10, none, .bin .neq (.t 7) (.t 9), 0, 0, false, []⟩])
   (.cutTo [0, 1, 10] (.cond (.t 10) (.seq (.seg false [⟨some 4, none, .mov (.k (.bool false)), 0, 0, false, []⟩])
   (.ret))
   (.skip))))
   (.cutTo [0, 1] (.seq (.seq (.seg false [⟨some 5, none, .mov (.k (.int .i64 0)), 0, 0, false, []⟩])
   (.block 0 (.loop [0, 1, 5] [4] L104x0)))
   (.seq (.seg false [⟨some 4, none, .mov (.k (.bool true)), 0, 0, false, []⟩])
   (.ret)))))⟩
/-- loop.example/tablehouse/impl.RowsOk$1 -/
def F111 : F := ⟨8, [(false, 3, 0, false)],
   .seq (.seg false [⟨some 3, none, .mov (.k (.bool false)), 0, 0, false, []⟩])
   (.seq (.seg false [⟨some 4, none, .load false 1 (.t 1), 0, 0, false, []⟩,
    ⟨some 5, none, .mov (.t 0), 0, 0, false, []⟩,
    ⟨some 6, none, .call 19 [.t 4, .t 5] false false, 0, 0, false, []⟩,
    ⟨some 7, none, .un .not (.t 6), 0, 0, false, []⟩,
    ⟨some 3, none, .mov (.t 7), 0, 0, false, []⟩])
   (.cutTo [3] (.ret)))⟩
/-- slices.ContainsFunc<<><>loop.example/tablehouse/impl.Value,<>loop.example/tablehouse/impl.Value> -/
def F110 : F := ⟨9, [(false, 4, 0, false)],
   .seq (.seg false [⟨some 4, none, .mov (.k (.bool false)), 0, 0, false, []⟩])
   (.seq (.seg false [⟨some 5, none, .mov (.t 0), 0, 0, false, []⟩,
    ⟨some 6, none, .mov (.t 1), 0, 0, false, []⟩,
    ⟨some 7, none, .call 151 [.t 5, .t 6] true false, 0, 0, false, []⟩,
    ⟨some 8, none, .bin .geq (.t 7) (.k (.int .i64 0)), 0, 0, false, []⟩,
    ⟨some 4, none, .mov (.t 8), 0, 0, false, []⟩])
   (.cutTo [4] (.ret)))⟩
def E112x0 : List I := [⟨some 6, none, .mov (.t 0), 0, 0, false, []⟩,
    ⟨some 7, none, .load false 1 (.t 1), 0, 0, false, []⟩,
    ⟨some 8, none, .iaddr 3 (.t 6) (.t 7), 0, 0, false, []⟩,
    ⟨some 9, none, .load true 3 (.t 8), 0, 0, false, []⟩,
    ⟨some 10, none, .load false 1 (.t 2), 0, 0, false, []⟩,
    ⟨some 11, none, .load false 1 (.t 3), 0, 0, false, []⟩,
    ⟨some 12, none, .call 103 [.t 10, .t 11] false false, 0, 0, false, []⟩,
    ⟨some 13, none, .call 102 [.t 9, .t 12] false false, 0, 0, false, []⟩,
    ⟨some 14, none, .bin .eql (.t 13) (.k (.int .i64 1)), 0, 0, false, []⟩,
    ⟨some 5, none, .mov (.t 14), 0, 0, false, []⟩]
def D112x0 : List I := E112x0
theorem evD112x0 (run : Run) (e : Env) (h : Heap) : drawI run D112x0 e h = DrawS (evQ run E112x0 e h) run E112x0 e h := drawI_quiet run _ (by rfl) e h
/-- loop.example/tablehouse/impl.InRows$1 -/
def F112 : F := ⟨15, [(false, 5, 0, false)],
   .seq (.seg false [⟨some 5, none, .mov (.k (.bool false)), 0, 0, false, []⟩])
   (.seq (.seg true D112x0)
   (.cutTo [5] (.ret)))⟩
def E113x0 : List I := [⟨some 16, none, .mov (.t 0), 0, 0, false, []⟩,
    ⟨some 17, none, .mov (.t 5), 0, 0, false, []⟩,
    ⟨some 18, none, .iaddr 3 (.t 16) (.t 17), 0, 0, false, []⟩,
    ⟨some 19, none, .load true 3 (.t 18), 0, 0, false, []⟩,
    ⟨some 20, none, .mov (.t 1), 0, 0, false, []⟩,
    ⟨some 21, none, .mov (.t 5), 0, 0, false, []⟩,
    ⟨some 22, none, .iaddr 3 (.t 20) (.t 21), 0, 0, false, []⟩,
    ⟨some 23, none, .load true 3 (.t 22), 0, 0, false, []⟩,
    ⟨some 24, none, .eqs true [.int, .int, .str] (.t 19) (.t 23), 0, 0, false, []⟩]
def D113x0 : List I := E113x0
theorem evD113x0 (run : Run) (e : Env) (h : Heap) : drawI run D113x0 e h = DrawS (evQ run E113x0 e h) run E113x0 e h := drawI_quiet run _ (by rfl) e h
def B113x0 : C := .seq (.seg false [⟨some 14, none, .bin .lss (.t 13) (.t 12), 0, 0, false, []⟩])
   (.seq (.cond (.t 14) (.skip)
   (.exit 0))
   (.seq (.block 1 (.seq (.seg false [⟨some 15, none, .mov (.t 13), 0, 0, false, []⟩,
    ⟨some 5, none, .mov (.t 15), 0, 0, false, []⟩])
   (.seq (.seg true D113x0)
   (.cutTo [0, 1, 12, 13, 24] (.cond (.t 24) (.seq (.seg false [⟨some 4, none, .mov (.k (.bool false)), 0, 0, false, []⟩])
   (.ret))
   (.skip))))))
   (.cutTo [0, 1, 12, 13] (.seg false [⟨some 25, none, .bin .add (.t 13) (.k (.int .i64 1)), 0, 0, false, []⟩,
    ⟨some 13, none, .mov (.t 25), 0, 0, false, []⟩]))))
def L113x0 : C := B113x0
theorem evL113x0 (run : Run) (draw : List I → Env → Heap → Option (Env × Heap)) (e : Env) (h : Heap) : evC run draw L113x0 e h = evC run draw B113x0 e h := rfl
/-- slices.Equal<<>loop.example/tablehouse/impl.Value,loop.example/tablehouse/impl.Value> -/
def F113 : F := ⟨26, [(false, 4, 0, false)],
   .seq (.seg false [⟨some 4, none, .mov (.k (.bool false)), 0, 0, false, []⟩])
   (.seq (.seq (.seg false [⟨some 6, none, .mov (.t 0), 0, 0, false, []⟩,
    ⟨some 7, none, .len false (.t 6), 0, 0, false, []⟩,
    ⟨some 8, none, .mov (.t 1), 0, 0, false, []⟩,
    ⟨some 9, none, .len false (.t 8), 0, 0, false, []⟩,
    ⟨some 10, none, .bin .neq (.t 7) (.t 9), 0, 0, false, []⟩])
   (.cutTo [0, 1, 10] (.cond (.t 10) (.seq (.seg false [⟨some 4, none, .mov (.k (.bool false)), 0, 0, false, []⟩])
   (.ret))
   (.skip))))
   (.cutTo [0, 1] (.seq (.seq (.seg false [⟨some 11, none, .mov (.t 0), 0, 0, false, []⟩,
    ⟨some 12, none, .len false (.t 11), 0, 0, false, []⟩,
    ⟨some 13, none, .mov (.k (.int .i64 0)), 0, 0, false, []⟩])
   (.block 0 (.loop [0, 1, 12, 13] [4] L113x0)))
   (.seq (.seg false [⟨some 4, none, .mov (.k (.bool true)), 0, 0, false, []⟩])
   (.ret)))))⟩
def B119x0 : C := .seq (.seq (.seg false [⟨some 6, none, .mov (.t 4), 0, 0, false, []⟩,
    ⟨some 7, none, .mov (.t 0), 0, 0, false, []⟩,
    ⟨some 8, none, .len false (.t 7), 0, 0, false, []⟩,
    ⟨some 9, none, .bin .lss (.t 6) (.t 8), 0, 0, false, []⟩])
   (.cutTo [0, 3, 4, 9] (.cond (.t 9) (.skip)
   (.exit 0))))
   (.cutTo [0, 3, 4] (.seq (.block 1 (.seq (.seg false [⟨some 12, none, .mov (.t 3), 0, 0, false, []⟩,
    ⟨some 13, none, .mov (.t 0), 0, 0, false, []⟩,
    ⟨some 14, none, .mov (.t 4), 0, 0, false, []⟩,
    ⟨some 15, none, .iaddr 1 (.t 13) (.t 14), 0, 0, false, []⟩,
    ⟨some 16, none, .load false 1 (.t 15), 0, 0, false, []⟩,
    ⟨some 17, none, .call 152 [.t 12, .t 16] false false, 0, 0, false, []⟩,
    ⟨some 18, none, .bin .eql (.t 17) (.k (.int .i64 0)), 0, 0, false, []⟩])
   (.cutTo [0, 3, 4, 18] (.cond (.t 18) (.seg false [⟨some 19, none, .mov (.t 3), 0, 0, false, []⟩,
    ⟨some 20, none, .mov (.t 0), 0, 0, false, []⟩,
    ⟨some 21, none, .mov (.t 4), 0, 0, false, []⟩,
    ⟨some 22, none, .iaddr 1 (.t 20) (.t 21), 0, 0, false, []⟩,
    ⟨some 23, none, .load false 1 (.t 22), 0, 0, false, []⟩,
    ⟨some 24, none, .call 109 [.t 23] false false, 0, 0, false, []⟩,
    ⟨some 25, none, .mksl false 1 [.t 24], 0, 0, false, []⟩,
    ⟨some 26, none, .app 1 (.t 19) (.t 25), 0, 0, false, []⟩,
    ⟨some 3, none, .mov (.t 26), 0, 0, false, []⟩])
   (.skip)))))
   (.cutTo [0, 3, 4] (.seg false [⟨some 10, none, .mov (.t 4), 0, 0, false, []⟩,
    ⟨some 11, none, .bin .add (.t 10) (.k (.int .i64 1)), 0, 0, false, []⟩,
    ⟨some 4, none, .mov (.t 11), 0, 0, false, []⟩]))))
def L119x0 : C := B119x0
theorem evL119x0 (run : Run) (draw : List I → Env → Heap → Option (Env × Heap)) (e : Env) (h : Heap) : evC run draw L119x0 e h = evC run draw B119x0 e h := rfl
/-- loop.example/tablehouse/spec.RowsOnce -/
def F119 : F := ⟨28, [(false, 2, 0, false)],
   .seq (.seg false [⟨some 2, none, .nilrow 1, 0, 0, false, []⟩])
   (.seq (.seg false [⟨some 5, none, .mksl true 1 [], 0, 0, false, []⟩,
    ⟨some 3, none, .mov (.t 5), 0, 0, false, []⟩])
   (.seq (.seq (.seg false [⟨some 4, none, .mov (.k (.int .i64 0)), 0, 0, false, []⟩])
   (.block 0 (.loop [0, 3, 4] [3] L119x0)))
   (.seq (.seg false [⟨some 27, none, .mov (.t 3), 0, 0, false, []⟩,
    ⟨some 2, none, .mov (.t 27), 0, 0, false, []⟩])
   (.ret))))⟩
def B120x0 : C := .seq (.seg false [⟨some 9, none, .bin .lss (.t 8) (.t 7), 0, 0, false, []⟩])
   (.seq (.cond (.t 9) (.skip)
   (.exit 0))
   (.seq (.block 1 (.seq (.seg false [⟨some 10, none, .iaddr 1 (.t 6) (.t 8), 0, 0, false, []⟩,
    ⟨some 11, none, .load false 1 (.t 10), 0, 0, false, []⟩,
    ⟨some 5, none, .mov (.t 11), 0, 0, false, []⟩])
   (.seg false [⟨some 12, none, .mov (.t 3), 0, 0, false, []⟩,
    ⟨some 13, none, .mov (.t 5), 0, 0, false, []⟩,
    ⟨some 14, none, .call 153 [.t 13] false false, 0, 0, false, []⟩,
    ⟨some 15, none, .mksl false 1 [.t 14], 0, 0, false, []⟩,
    ⟨some 16, none, .app 1 (.t 12) (.t 15), 0, 0, false, []⟩,
    ⟨some 3, none, .mov (.t 16), 0, 0, false, []⟩])))
   (.cutTo [3, 6, 7, 8] (.seg false [⟨some 17, none, .bin .add (.t 8) (.k (.int .i64 1)), 0, 0, false, []⟩,
    ⟨some 8, none, .mov (.t 17), 0, 0, false, []⟩]))))
def L120x0 : C := B120x0
theorem evL120x0 (run : Run) (draw : List I → Env → Heap → Option (Env × Heap)) (e : Env) (h : Heap) : evC run draw L120x0 e h = evC run draw B120x0 e h := rfl
/-- loop.example/tablehouse/impl.rowsCopy -/
def F120 : F := ⟨20, [(false, 2, 0, false)],
   .seq (.seg false [⟨some 2, none, .mov (.k (.sl true 1 [])), 0, 0, false, []⟩])
   (.seq (.seg false [⟨some 3, none, .nilrow 1, 0, 0, false, []⟩])
   (.seq (.seq (.seg false [⟨some 6, none, .mov (.t 0), 0, 0, false, []⟩,
    ⟨some 7, none, .len false (.t 6), 0, 0, false, []⟩,
    ⟨some 8, none, .mov (.k (.int .i64 0)), 0, 0, false, []⟩])
   (.block 0 (.loop [3, 6, 7, 8] [3] L120x0)))
   (.seq (.seg false [⟨some 18, none, .mov (.t 3), 0, 0, false, []⟩,
    ⟨some 19, none, .call 154 [.t 18] false false, 0, 0, false, []⟩,
    ⟨some 2, none, .mov (.t 19), 0, 0, false, []⟩])
   (.ret))))⟩
/-- loop.example/tablehouse/spec.l20Wild -/
def F121 : F := ⟨49, [(false, 6, 0, false)],
   .seq (.seg false [⟨some 6, none, .nilrow 5, 0, 0, false, []⟩])
   (.seq (.seg false [⟨some 8, none, .mov (.t 0), 0, 0, false, []⟩,
    ⟨some 9, none, .mov (.t 1), 0, 0, false, []⟩,
    ⟨some 10, none, .mksl false 1 [.k (.int .i64 3), .k (.int .i64 3), .k (.int .i64 1), .k (.int .i64 2)], 0, 0, false, []⟩,
    ⟨some 11, none, .mov (.t 0), 0, 0, false, []⟩,
    ⟨some 12, none, .call 65 [.t 11, .k (.int .i64 4)] true false, 0, 0, false, []⟩,
    ⟨some 13, none, .iaddr 1 (.t 10) (.t 12), 0, 0, false, []⟩,
    ⟨some 14, none, .load false 1 (.t 13), 0, 0, false, []⟩,
    ⟨some 15, none, .call 88 [.t 8, .t 9, .t 14, .k (.int .i64 3)] true true, 0, 0, false, []⟩,
    ⟨some 7, none, .mov (.t 15), 0, 0, false, []⟩])
   (.cutTo [0, 2, 7] (.seq (.seq (.seg false [⟨some 16, none, .mov (.t 0), 0, 0, false, []⟩,
    ⟨some 17, none, .mov (.t 2), 0, 0, false, []⟩,
    ⟨some 18, none, .call 134 [.t 16, .t 17] true false, 0, 0, false, []⟩])
   (.cond (.t 18) (.seq (.seg false [⟨some 19, none, .mov (.t 0), 0, 0, false, []⟩,
    ⟨some 20, none, .call 65 [.t 19, .k (.int .i64 3)] true false, 0, 0, false, []⟩])
   (.block 0 (.seq (.seg false [⟨some 28, none, .bin .eql (.t 20) (.k (.int .i64 0)), 0, 0, false, []⟩,
    ⟨some 27, none, .mov (.t 28), 0, 0, false, []⟩])
   (.cond (.t 27) (.seg false [⟨some 29, none, .mov (.t 7), 0, 0, false, []⟩,
    ⟨some 30, none, .mov (.t 0), 0, 0, false, []⟩,
    ⟨some 31, none, .mov (.t 7), 0, 0, false, []⟩,
    ⟨some 32, none, .len false (.t 31), 0, 0, false, []⟩,
    ⟨some 33, none, .call 65 [.t 30, .t 32] true false, 0, 0, false, []⟩,
    ⟨some 34, none, .slc false 5 (.t 29) none (some (.t 33)) none, 0, 0, false, []⟩,
    ⟨some 7, none, .mov (.t 34), 0, 0, false, []⟩])
   (.seq (.seg false [⟨some 36, none, .bin .eql (.t 20) (.k (.int .i64 1)), 0, 0, false, []⟩,
    ⟨some 35, none, .mov (.t 36), 0, 0, false, []⟩])
   (.cond (.t 35) (.seg false [⟨some 37, none, .mov (.t 7), 0, 0, false, []⟩,
    ⟨some 38, none, .mov (.t 0), 0, 0, false, []⟩,
    ⟨some 39, none, .mov (.t 7), 0, 0, false, []⟩,
    ⟨some 40, none, .len false (.t 39), 0, 0, false, []⟩,
    ⟨some 41, none, .call 65 [.t 38, .t 40] true false, 0, 0, false, []⟩,
    ⟨some 42, none, .mov (.t 0), 0, 0, false, []⟩,
    ⟨some 43, none, .call 65 [.t 42, .k (.int .i64 10)] true false, 0, 0, false, []⟩,
    ⟨some 44, none, .mov (.t 0), 0, 0, false, []⟩,
    ⟨some 45, none, .call 65 [.t 44, .k (.int .i64 5)] true false, 0, 0, false, []⟩,
    ⟨some 46, none, .build [.int .i64 0, .int .i64 0, .int .i64 0, .int .i64 0, .str ⟨#[]⟩] [(0, 1, .t 43), (1, 1, .t 45)], 0, 0, false, []⟩,
    ⟨some 47, none, .iaddr 5 (.t 37) (.t 41), 0, 0, false, []⟩,
    ⟨none, none, .store 5 (.t 47) (.t 46), 0, 0, false, []⟩])
   (.seg false [⟨some 21, none, .mov (.t 7), 0, 0, false, []⟩,
    ⟨some 22, none, .mov (.t 0), 0, 0, false, []⟩,
    ⟨some 23, none, .call 140 [.t 22, .k (.int .i64 2)] true false, 0, 0, false, []⟩,
    ⟨some 24, none, .build [.int .i64 0, .int .i64 0, .int .i64 0, .int .i64 0, .str ⟨#[]⟩] [(0, 1, .k (.int .i64 1)), (2, 3, .t 23)], 0, 0, false, []⟩,
    ⟨some 25, none, .mksl false 5 [.t 24], 0, 0, false, []⟩,
    ⟨some 26, none, .app 5 (.t 21) (.t 25), 0, 0, false, []⟩,
    ⟨some 7, none, .mov (.t 26), 0, 0, false, []⟩])))))))
   (.skip)))
   (.cutTo [7] (.seq (.seg false [⟨some 48, none, .mov (.t 7), 0, 0, false, []⟩,
    ⟨some 6, none, .mov (.t 48), 0, 0, false, []⟩])
   (.ret))))))⟩
def B122x0 : C := .seq (.seg false [⟨some 9, none, .bin .lss (.t 8) (.t 7), 0, 0, false, []⟩])
   (.seq (.cond (.t 9) (.skip)
   (.exit 0))
   (.seq (.block 1 (.seq (.seg false [⟨some 10, none, .mov (.t 8), 0, 0, false, []⟩,
    ⟨some 5, none, .mov (.t 10), 0, 0, false, []⟩])
   (.seq (.seg false [⟨some 11, none, .mov (.t 1), 0, 0, false, []⟩,
    ⟨some 12, none, .mov (.t 0), 0, 0, false, []⟩,
    ⟨some 13, none, .mov (.t 5), 0, 0, false, []⟩,
    ⟨some 14, none, .iaddr 1 (.t 12) (.t 13), 0, 0, false, []⟩,
    ⟨some 15, none, .load false 1 (.t 14), 0, 0, false, []⟩,
    ⟨some 16, none, .callv (.t 11) [.t 15] false, 0, 0, false, []⟩])
   (.cutTo [0, 1, 5, 7, 8, 16] (.cond (.t 16) (.seq (.seg false [⟨some 17, none, .mov (.t 5), 0, 0, false, []⟩,
    ⟨some 4, none, .mov (.t 17), 0, 0, false, []⟩])
   (.ret))
   (.skip))))))
   (.cutTo [0, 1, 7, 8] (.seg false [⟨some 18, none, .bin .add (.t 8) (.k (.int .i64 1)), 0, 0, false, []⟩,
    ⟨some 8, none, .mov (.t 18), 0, 0, false, []⟩]))))
def L122x0 : C := B122x0
theorem evL122x0 (run : Run) (draw : List I → Env → Heap → Option (Env × Heap)) (e : Env) (h : Heap) : evC run draw L122x0 e h = evC run draw B122x0 e h := rfl
/-- slices.IndexFunc<<>int,int> -/
def F122 : F := ⟨19, [(false, 4, 0, false)],
   .seq (.seg false [⟨some 4, none, .mov (.k (.int .i64 0)), 0, 0, false, []⟩])
   (.seq (.seq (.seg false [⟨some 6, none, .mov (.t 0), 0, 0, false, []⟩,
    ⟨some 7, none, .len false (.t 6), 0, 0, false, []⟩,
    ⟨some 8, none, .mov (.k (.int .i64 0)), 0, 0, false, []⟩])
   (.block 0 (.loop [0, 1, 7, 8] [4] L122x0)))
   (.seq (.seg false [⟨some 4, none, .mov (.k (.int .i64 (-1))), 0, 0, false, []⟩])
   (.ret)))⟩
/-- loop.example/tablehouse/impl.clone<loop.example/tablehouse/impl.Part> -/
def F123 : F := ⟨9, [(false, 2, 0, false)],
   .seq (.seg false [⟨some 2, none, .mov (.k (.sl true 5 [])), 0, 0, false, []⟩])
   (.seq (.seq (.seg false [⟨some 3, none, .mov (.t 0), 0, 0, false, []⟩,
    ⟨some 4, none, .len false (.t 3), 0, 0, false, []⟩,
    ⟨some 5, none, .bin .eql (.t 4) (.k (.int .i64 0)), 0, 0, false, []⟩])
   (.cond (.t 5) (.seq (.seg false [⟨some 2, none, .mov (.k (.sl true 5 [])), 0, 0, false, []⟩])
   (.ret))
   (.skip)))
   (.cutTo [0] (.seq (.seg false [⟨some 6, none, .mov (.t 0), 0, 0, false, []⟩,
    ⟨some 7, none, .app 5 (.k (.sl true 5 [])) (.t 6), 0, 0, false, []⟩,
    ⟨some 8, none, .call 155 [.t 7] false false, 0, 0, false, []⟩,
    ⟨some 2, none, .mov (.t 8), 0, 0, false, []⟩])
   (.cutTo [2] (.ret)))))⟩
/-- slices.ContainsFunc<<>loop.example/tablehouse/impl.Column,loop.example/tablehouse/impl.Column> -/
def F124 : F := ⟨9, [(false, 4, 0, false)],
   .seq (.seg false [⟨some 4, none, .mov (.k (.bool false)), 0, 0, false, []⟩])
   (.seq (.seg false [⟨some 5, none, .mov (.t 0), 0, 0, false, []⟩,
    ⟨some 6, none, .mov (.t 1), 0, 0, false, []⟩,
    ⟨some 7, none, .call 156 [.t 5, .t 6] true false, 0, 0, false, []⟩,
    ⟨some 8, none, .bin .geq (.t 7) (.k (.int .i64 0)), 0, 0, false, []⟩,
    ⟨some 4, none, .mov (.t 8), 0, 0, false, []⟩])
   (.cutTo [4] (.ret)))⟩
/-- loop.example/tablehouse/impl.ColumnsOk$1 -/
def F125 : F := ⟨7, [(false, 2, 0, false)],
   .seq (.seg false [⟨some 1, none, .box (.t 0), 0, 0, false, []⟩,
    ⟨some 2, none, .mov (.k (.bool false)), 0, 0, false, []⟩])
   (.seq (.seg false [⟨some 3, none, .faddr 0 1 (.t 1), 0, 0, false, []⟩,
    ⟨some 4, none, .load false 1 (.t 3), 0, 0, false, []⟩,
    ⟨some 5, none, .call 68 [.t 4, .k (.int .i64 1), .k (.int .i64 3)] false false, 0, 0, false, []⟩,
    ⟨some 6, none, .un .not (.t 5), 0, 0, false, []⟩,
    ⟨some 2, none, .mov (.t 6), 0, 0, false, []⟩])
   (.cutTo [2] (.ret)))⟩
/-- slices.ContainsFunc<<>loop.example/tablehouse/impl.Value,loop.example/tablehouse/impl.Value> -/
def F126 : F := ⟨9, [(false, 4, 0, false)],
   .seq (.seg false [⟨some 4, none, .mov (.k (.bool false)), 0, 0, false, []⟩])
   (.seq (.seg false [⟨some 5, none, .mov (.t 0), 0, 0, false, []⟩,
    ⟨some 6, none, .mov (.t 1), 0, 0, false, []⟩,
    ⟨some 7, none, .call 157 [.t 5, .t 6] true false, 0, 0, false, []⟩,
    ⟨some 8, none, .bin .geq (.t 7) (.k (.int .i64 0)), 0, 0, false, []⟩,
    ⟨some 4, none, .mov (.t 8), 0, 0, false, []⟩])
   (.cutTo [4] (.ret)))⟩
/-- loop.example/tablehouse/impl.RowOk$1 -/
def F127 : F := ⟨6, [(false, 2, 0, false)],
   .seq (.seg false [⟨some 1, none, .box (.t 0), 0, 0, false, []⟩,
    ⟨some 2, none, .mov (.k (.bool false)), 0, 0, false, []⟩])
   (.seq (.seg false [⟨some 3, none, .load true 3 (.t 1), 0, 0, false, []⟩,
    ⟨some 4, none, .call 128 [.t 3] false false, 0, 0, false, []⟩,
    ⟨some 5, none, .un .not (.t 4), 0, 0, false, []⟩,
    ⟨some 2, none, .mov (.t 5), 0, 0, false, []⟩])
   (.cutTo [2] (.ret)))⟩
/-- (loop.example/tablehouse/impl.Value).ok -/
def F128 : F := ⟨46, [(false, 2, 0, false)],
   .seq (.seg false [⟨some 1, none, .box (.t 0), 0, 0, false, []⟩,
    ⟨some 2, none, .mov (.k (.bool false)), 0, 0, false, []⟩])
   (.seq (.seq (.seg false [⟨some 3, none, .faddr 0 1 (.t 1), 0, 0, false, []⟩,
    ⟨some 4, none, .load false 1 (.t 3), 0, 0, false, []⟩])
   (.block 0 (.seq (.seg false [⟨some 6, none, .bin .eql (.t 4) (.k (.int .i64 0)), 0, 0, false, []⟩,
    ⟨some 5, none, .mov (.t 6), 0, 0, false, []⟩])
   (.cond (.t 5) (.seq (.seg false [⟨some 7, none, .load true 3 (.t 1), 0, 0, false, []⟩,
    ⟨some 8, none, .build [.int .i64 0, .int .i64 0, .str ⟨#[]⟩] [], 0, 0, false, []⟩,
    ⟨some 9, none, .eqs false [.int, .int, .str] (.t 7) (.t 8), 0, 0, false, []⟩,
    ⟨some 2, none, .mov (.t 9), 0, 0, false, []⟩])
   (.cutTo [2] (.ret)))
   (.seq (.seg false [⟨some 11, none, .bin .eql (.t 4) (.k (.int .i64 1)), 0, 0, false, []⟩,
    ⟨some 10, none, .mov (.t 11), 0, 0, false, []⟩])
   (.cond (.t 10) (.seq (.seg false [⟨some 12, none, .faddr 2 1 (.t 1), 0, 0, false, []⟩,
    ⟨some 13, none, .load false 1 (.t 12), 0, 0, false, []⟩,
    ⟨some 14, none, .bin .eql (.t 13) (.k (.str ⟨#[]⟩)), 0, 0, false, []⟩,
    ⟨some 15, none, .mov (.t 14), 0, 0, false, []⟩,
    ⟨some 16, some (15, true), .faddr 1 1 (.t 1), 0, 0, false, []⟩,
    ⟨some 17, some (15, true), .load false 1 (.t 16), 0, 0, false, []⟩,
    ⟨some 18, some (15, true), .call 68 [.t 17, .k (.int .i64 (-9999)), .k (.int .i64 9999)] false false, 0, 0, false, []⟩,
    ⟨some 19, none, .pick (.t 15) (.t 18) (.k (.bool false)), 0, 0, false, []⟩,
    ⟨some 2, none, .mov (.t 19), 0, 0, false, []⟩])
   (.cutTo [2] (.ret)))
   (.seq (.seg false [⟨some 21, none, .bin .eql (.t 4) (.k (.int .i64 2)), 0, 0, false, []⟩,
    ⟨some 20, none, .mov (.t 21), 0, 0, false, []⟩])
   (.cond (.t 20) (.seq (.seg false [⟨some 22, none, .faddr 1 1 (.t 1), 0, 0, false, []⟩,
    ⟨some 23, none, .load false 1 (.t 22), 0, 0, false, []⟩,
    ⟨some 24, none, .bin .eql (.t 23) (.k (.int .i64 0)), 0, 0, false, []⟩,
    ⟨some 25, none, .mov (.t 24), 0, 0, false, []⟩,
    ⟨some 26, some (25, true), .faddr 2 1 (.t 1), 0, 0, false, []⟩,
    ⟨some 27, some (25, true), .load false 1 (.t 26), 0, 0, false, []⟩,
    ⟨some 28, some (25, true), .len true (.t 27), 0, 0, false, []⟩,
    ⟨some 29, some (25, true), .bin .leq (.t 28) (.k (.int .i64 6)), 0, 0, false, []⟩,
    ⟨some 30, none, .pick (.t 25) (.t 29) (.k (.bool false)), 0, 0, false, []⟩,
    ⟨some 31, none, .mov (.t 30), 0, 0, false, []⟩,
    ⟨some 32, some (31, true), .faddr 2 1 (.t 1), 0, 0, false, []⟩,
    ⟨some 33, some (31, true), .load false 1 (.t 32), 0, 0, false, []⟩,
    ⟨some 34, some (31, true), .call 158 [.t 33] false false, 0, 0, false, []⟩,
    ⟨some 35, none, .pick (.t 31) (.t 34) (.k (.bool false)), 0, 0, false, []⟩,
    ⟨some 2, none, .mov (.t 35), 0, 0, false, []⟩])
   (.cutTo [2] (.ret)))
   (.seq (.seg false [⟨some 37, none, .bin .eql (.t 4) (.k (.int .i64 3)), 0, 0, false, []⟩,
    ⟨some 36, none, .mov (.t 37), 0, 0, false, []⟩])
   (.cond (.t 36) (.seq (.seg false [⟨some 38, none, .faddr 2 1 (.t 1), 0, 0, false, []⟩,
    ⟨some 39, none, .load false 1 (.t 38), 0, 0, false, []⟩,
    ⟨some 40, none, .bin .eql (.t 39) (.k (.str ⟨#[]⟩)), 0, 0, false, []⟩,
    ⟨some 41, none, .mov (.t 40), 0, 0, false, []⟩,
    ⟨some 42, some (41, true), .faddr 1 1 (.t 1), 0, 0, false, []⟩,
    ⟨some 43, some (41, true), .load false 1 (.t 42), 0, 0, false, []⟩,
    ⟨some 44, some (41, true), .call 68 [.t 43, .k (.int .i64 0), .k (.int .i64 1)] false false, 0, 0, false, []⟩,
    ⟨some 45, none, .pick (.t 41) (.t 44) (.k (.bool false)), 0, 0, false, []⟩,
    ⟨some 2, none, .mov (.t 45), 0, 0, false, []⟩])
   (.cutTo [2] (.ret)))
   (.skip)))))))))))
   (.cutTo [] (.seq (.seg false [⟨some 2, none, .mov (.k (.bool false)), 0, 0, false, []⟩])
   (.ret))))⟩
def E129x0 : List I := [⟨some 23, none, .mov (.t 2), 0, 1, false, []⟩,
    ⟨some 24, none, .iaddr 3 (.t 23) (.k (.int .i64 0)), 0, 1, false, []⟩,
    ⟨some 25, none, .faddr 1 1 (.t 24), 0, 1, false, []⟩,
    ⟨some 26, none, .load false 1 (.t 25), 0, 1, false, []⟩,
    ⟨some 27, none, .mov (.t 2), 0, 1, false, []⟩,
    ⟨some 28, none, .iaddr 3 (.t 27) (.k (.int .i64 1)), 0, 1, false, []⟩,
    ⟨some 29, none, .faddr 1 1 (.t 28), 0, 1, false, []⟩,
    ⟨some 30, none, .load false 1 (.t 29), 0, 1, false, []⟩,
    ⟨some 31, none, .bin .add (.t 26) (.t 30), 0, 1, false, []⟩,
    ⟨some 32, none, .build [.int .i64 0, .int .i64 0, .str ⟨#[]⟩] [(0, 1, .k (.int .i64 1)), (1, 1, .t 31)], 0, 1, false, []⟩,
    ⟨some 7, none, .alloc [.int .i64 0, .int .i64 0, .str ⟨#[]⟩], 0, 0, true, []⟩,
    ⟨none, none, .store 3 (.t 7) (.t 32), 1, 0, true, []⟩]
def D129x0 : List I := E129x0
theorem evD129x0 (run : Run) (e : Env) (h : Heap) : drawI run D129x0 e h = DrawW (evW run E129x0 e h []) run E129x0 e h := drawI_write run _ e h
def E129x1 : List I := [⟨some 54, none, .faddr 1 1 (.t 3), 0, 0, false, []⟩,
    ⟨some 55, none, .load false 1 (.t 54), 0, 0, false, []⟩,
    ⟨some 56, none, .mov (.t 2), 0, 0, false, []⟩,
    ⟨some 57, none, .iaddr 3 (.t 56) (.k (.int .i64 0)), 0, 0, false, []⟩,
    ⟨some 58, none, .load true 3 (.t 57), 0, 0, false, []⟩,
    ⟨some 59, none, .mov (.t 2), 0, 0, false, []⟩,
    ⟨some 60, none, .iaddr 3 (.t 59) (.k (.int .i64 1)), 0, 0, false, []⟩,
    ⟨some 61, none, .load true 3 (.t 60), 0, 0, false, []⟩,
    ⟨some 62, none, .call 159 [.t 55, .t 58, .t 61] false false, 0, 0, false, []⟩,
    ⟨some 63, none, .call 138 [.t 62] false false, 0, 0, false, []⟩,
    ⟨none, none, .store 3 (.t 6) (.t 63), 0, 0, true, []⟩]
def D129x1 : List I := E129x1
theorem evD129x1 (run : Run) (e : Env) (h : Heap) : drawI run D129x1 e h = DrawW (evW run E129x1 e h []) run E129x1 e h := drawI_write run _ e h
def E129x2 : List I := [⟨some 66, none, .mov (.t 2), 0, 0, false, []⟩,
    ⟨some 67, none, .iaddr 3 (.t 66) (.k (.int .i64 0)), 0, 0, false, []⟩,
    ⟨some 68, none, .load true 3 (.t 67), 0, 0, false, []⟩,
    ⟨some 69, none, .call 161 [.t 68] false false, 0, 0, false, []⟩,
    ⟨some 70, none, .mov (.t 2), 0, 0, false, []⟩,
    ⟨some 71, none, .iaddr 3 (.t 70) (.k (.int .i64 1)), 0, 0, false, []⟩,
    ⟨some 72, none, .load true 3 (.t 71), 0, 0, false, []⟩,
    ⟨some 73, none, .call 161 [.t 72] false false, 0, 0, false, []⟩,
    ⟨some 74, none, .call 160 [.t 69, .t 73] false false, 0, 0, false, []⟩,
    ⟨some 75, none, .call 138 [.t 74] false false, 0, 0, false, []⟩,
    ⟨none, none, .store 3 (.t 6) (.t 75), 0, 0, true, []⟩]
def D129x2 : List I := E129x2
theorem evD129x2 (run : Run) (e : Env) (h : Heap) : drawI run D129x2 e h = DrawW (evW run E129x2 e h []) run E129x2 e h := drawI_write run _ e h
def E129x3 : List I := [⟨some 78, none, .mov (.t 2), 0, 0, false, []⟩,
    ⟨some 79, none, .iaddr 3 (.t 78) (.k (.int .i64 0)), 0, 0, false, []⟩,
    ⟨some 80, none, .load true 3 (.t 79), 0, 0, false, []⟩,
    ⟨some 81, none, .call 161 [.t 80] false false, 0, 0, false, []⟩,
    ⟨some 82, none, .mov (.t 2), 0, 0, false, []⟩,
    ⟨some 83, none, .iaddr 3 (.t 82) (.k (.int .i64 1)), 0, 0, false, []⟩,
    ⟨some 84, none, .load true 3 (.t 83), 0, 0, false, []⟩,
    ⟨some 85, none, .call 161 [.t 84] false false, 0, 0, false, []⟩,
    ⟨some 86, none, .call 162 [.t 81, .t 85] false false, 0, 0, false, []⟩,
    ⟨some 87, none, .call 138 [.t 86] false false, 0, 0, false, []⟩,
    ⟨none, none, .store 3 (.t 6) (.t 87), 0, 0, true, []⟩]
def D129x3 : List I := E129x3
theorem evD129x3 (run : Run) (e : Env) (h : Heap) : drawI run D129x3 e h = DrawW (evW run E129x3 e h []) run E129x3 e h := drawI_write run _ e h
/-- (loop.example/tablehouse/impl.Part).value -/
def F129 : F := ⟨103, [(true, 6, 3, true)],
   .seq (.seg false [⟨some 3, none, .box (.t 0), 0, 0, false, []⟩,
    ⟨some 6, none, .alloc [.int .i64 0, .int .i64 0, .str ⟨#[]⟩], 0, 0, false, []⟩])
   (.seq (.seq (.seg false [⟨some 8, none, .faddr 0 1 (.t 3), 0, 0, false, []⟩,
    ⟨some 9, none, .load false 1 (.t 8), 0, 0, false, []⟩])
   (.block 0 (.seq (.seg false [⟨some 11, none, .bin .eql (.t 9) (.k (.int .i64 1)), 0, 0, false, []⟩,
    ⟨some 10, none, .mov (.t 11), 0, 0, false, []⟩])
   (.cond (.t 10) (.seq (.seg false [⟨some 12, none, .faddr 2 3 (.t 3), 0, 0, false, []⟩,
    ⟨some 13, none, .load true 3 (.t 12), 0, 0, false, []⟩,
    ⟨none, none, .store 3 (.t 6) (.t 13), 0, 0, false, []⟩])
   (.ret))
   (.seq (.seg false [⟨some 15, none, .bin .eql (.t 9) (.k (.int .i64 2)), 0, 0, false, []⟩,
    ⟨some 14, none, .mov (.t 15), 0, 0, false, []⟩])
   (.cond (.t 14) (.seq (.seg false [⟨some 16, none, .mov (.t 1), 0, 0, false, []⟩,
    ⟨some 17, none, .faddr 1 1 (.t 3), 0, 0, false, []⟩,
    ⟨some 18, none, .load false 1 (.t 17), 0, 0, false, []⟩,
    ⟨some 19, none, .iaddr 3 (.t 16) (.t 18), 0, 0, false, []⟩,
    ⟨some 20, none, .load true 3 (.t 19), 0, 0, false, []⟩,
    ⟨none, none, .store 3 (.t 6) (.t 20), 0, 0, false, []⟩])
   (.cutTo [6] (.ret)))
   (.seq (.seg false [⟨some 22, none, .bin .eql (.t 9) (.k (.int .i64 3)), 0, 0, false, []⟩,
    ⟨some 21, none, .mov (.t 22), 0, 0, false, []⟩])
   (.cond (.t 21) (.seq (.seg true D129x0)
   (.cutTo [2, 6, 7] (.seq (.seq (.seg false [⟨some 33, none, .mov (.t 2), 0, 0, false, []⟩,
    ⟨some 34, none, .iaddr 3 (.t 33) (.k (.int .i64 0)), 0, 0, false, []⟩,
    ⟨some 35, none, .faddr 0 1 (.t 34), 0, 0, false, []⟩,
    ⟨some 36, none, .load false 1 (.t 35), 0, 0, false, []⟩,
    ⟨some 37, none, .bin .eql (.t 36) (.k (.int .i64 0)), 0, 0, false, []⟩,
    ⟨some 38, none, .mov (.t 37), 0, 0, false, []⟩,
    ⟨some 39, some (38, false), .mov (.t 2), 0, 0, false, []⟩,
    ⟨some 40, some (38, false), .iaddr 3 (.t 39) (.k (.int .i64 1)), 0, 0, false, []⟩,
    ⟨some 41, some (38, false), .faddr 0 1 (.t 40), 0, 0, false, []⟩,
    ⟨some 42, some (38, false), .load false 1 (.t 41), 0, 0, false, []⟩,
    ⟨some 43, some (38, false), .bin .eql (.t 42) (.k (.int .i64 0)), 0, 0, false, []⟩,
    ⟨some 44, none, .pick (.t 38) (.k (.bool true)) (.t 43), 0, 0, false, []⟩,
    ⟨some 45, none, .mov (.t 44), 0, 0, false, []⟩,
    ⟨some 46, some (45, false), .load true 3 (.t 7), 0, 0, false, []⟩,
    ⟨some 47, some (45, false), .call 128 [.t 46] false false, 0, 0, false, []⟩,
    ⟨some 48, some (45, false), .un .not (.t 47), 0, 0, false, []⟩,
    ⟨some 49, none, .pick (.t 45) (.k (.bool true)) (.t 48), 0, 0, false, []⟩])
   (.cutTo [6, 7, 49] (.cond (.t 49) (.seq (.seg false [⟨some 50, none, .build [.int .i64 0, .int .i64 0, .str ⟨#[]⟩] [], 0, 0, false, []⟩,
    ⟨none, none, .store 3 (.t 6) (.t 50), 0, 0, false, []⟩])
   (.ret))
   (.skip))))
   (.cutTo [6, 7] (.seq (.seg false [⟨some 51, none, .load true 3 (.t 7), 0, 0, false, []⟩,
    ⟨none, none, .store 3 (.t 6) (.t 51), 0, 0, false, []⟩])
   (.ret))))))
   (.seq (.seg false [⟨some 53, none, .bin .eql (.t 9) (.k (.int .i64 4)), 0, 0, false, []⟩,
    ⟨some 52, none, .mov (.t 53), 0, 0, false, []⟩])
   (.cond (.t 52) (.seq (.seg true D129x1)
   (.cutTo [6] (.ret)))
   (.seq (.seg false [⟨some 65, none, .bin .eql (.t 9) (.k (.int .i64 5)), 0, 0, false, []⟩,
    ⟨some 64, none, .mov (.t 65), 0, 0, false, []⟩])
   (.cond (.t 64) (.seq (.seg true D129x2)
   (.cutTo [6] (.ret)))
   (.seq (.seg false [⟨some 77, none, .bin .eql (.t 9) (.k (.int .i64 6)), 0, 0, false, []⟩,
    ⟨some 76, none, .mov (.t 77), 0, 0, false, []⟩])
   (.cond (.t 76) (.seq (.seg true D129x3)
   (.cutTo [6] (.ret)))
   (.seq (.seg false [⟨some 89, none, .bin .eql (.t 9) (.k (.int .i64 7)), 0, 0, false, []⟩,
    ⟨some 88, none, .mov (.t 89), 0, 0, false, []⟩])
   (.cond (.t 88) (.seq (.seg false [⟨some 90, none, .mov (.t 2), 0, 0, false, []⟩,
    ⟨some 91, none, .iaddr 3 (.t 90) (.k (.int .i64 0)), 0, 0, false, []⟩,
    ⟨some 92, none, .load true 3 (.t 91), 0, 0, false, []⟩,
    ⟨some 93, none, .call 161 [.t 92] false false, 0, 0, false, []⟩,
    ⟨some 94, none, .call 163 [.t 93] false false, 0, 0, false, []⟩,
    ⟨some 95, none, .call 138 [.t 94] false false, 0, 0, false, []⟩,
    ⟨none, none, .store 3 (.t 6) (.t 95), 0, 0, false, []⟩])
   (.cutTo [6] (.ret)))
   (.skip)))))))))))))))))
   (.cutTo [2, 6] (.seq (.seg false [⟨some 96, none, .mov (.t 2), 0, 0, false, []⟩,
    ⟨some 97, none, .iaddr 3 (.t 96) (.k (.int .i64 0)), 0, 0, false, []⟩,
    ⟨some 98, none, .faddr 0 1 (.t 97), 0, 0, false, []⟩,
    ⟨some 99, none, .load false 1 (.t 98), 0, 0, false, []⟩,
    ⟨some 100, none, .bin .eql (.t 99) (.k (.int .i64 0)), 0, 0, false, []⟩,
    ⟨some 101, none, .call 164 [.t 100] false false, 0, 0, false, []⟩,
    ⟨some 102, none, .call 138 [.t 101] false false, 0, 0, false, []⟩,
    ⟨none, none, .store 3 (.t 6) (.t 102), 0, 0, false, []⟩])
   (.cutTo [6] (.ret)))))⟩
def B133x0 : C := .seq (.seq (.seg false [⟨some 12, none, .mov (.t 8), 0, 0, false, []⟩,
    ⟨some 13, none, .bin .gtr (.t 12) (.k (.int .i64 0)), 0, 0, false, []⟩])
   (.cond (.t 13) (.skip)
   (.exit 0)))
   (.seq (.block 1 (.seq (.seg false [⟨some 16, none, .mov (.t 7), 0, 0, false, []⟩,
    ⟨some 17, none, .len false (.t 16), 0, 0, false, []⟩,
    ⟨some 18, none, .bin .gtr (.t 17) (.k (.int .i64 0)), 0, 0, false, []⟩,
    ⟨some 19, none, .mov (.t 18), 0, 0, false, []⟩,
    ⟨some 20, some (19, true), .mov (.t 0), 0, 0, false, []⟩,
    ⟨some 21, some (19, true), .call 65 [.t 20, .k (.int .i64 3)] true false, 0, 0, false, []⟩,
    ⟨some 22, some (19, true), .bin .eql (.t 21) (.k (.int .i64 0)), 0, 0, false, []⟩,
    ⟨some 23, none, .pick (.t 19) (.t 22) (.k (.bool false)), 0, 0, false, []⟩])
   (.cutTo [0, 1, 2, 7, 8, 23] (.cond (.t 23) (.seg false [⟨some 24, none, .mov (.t 7), 0, 0, false, []⟩,
    ⟨some 25, none, .mov (.t 7), 0, 0, false, []⟩,
    ⟨some 26, none, .mov (.t 0), 0, 0, false, []⟩,
    ⟨some 27, none, .mov (.t 7), 0, 0, false, []⟩,
    ⟨some 28, none, .len false (.t 27), 0, 0, false, []⟩,
    ⟨some 29, none, .call 65 [.t 26, .t 28] true false, 0, 0, false, []⟩,
    ⟨some 30, none, .iaddr 1 (.t 25) (.t 29), 0, 0, false, []⟩,
    ⟨some 31, none, .load false 1 (.t 30), 0, 0, false, []⟩,
    ⟨some 32, none, .call 109 [.t 31] false false, 0, 0, false, []⟩,
    ⟨some 33, none, .mksl false 1 [.t 32], 0, 0, false, []⟩,
    ⟨some 34, none, .app 1 (.t 24) (.t 33), 0, 0, false, []⟩,
    ⟨some 7, none, .mov (.t 34), 0, 0, false, []⟩])
   (.seg false [⟨some 35, none, .mov (.t 7), 0, 0, false, []⟩,
    ⟨some 36, none, .mov (.t 0), 0, 0, false, []⟩,
    ⟨some 37, none, .mov (.t 1), 0, 0, false, []⟩,
    ⟨some 38, none, .mov (.t 2), 0, 0, false, []⟩,
    ⟨some 39, none, .call 93 [.t 36, .t 37, .t 38] true false, 0, 0, false, []⟩,
    ⟨some 40, none, .mksl false 1 [.t 39], 0, 0, false, []⟩,
    ⟨some 41, none, .app 1 (.t 35) (.t 40), 0, 0, false, []⟩,
    ⟨some 7, none, .mov (.t 41), 0, 0, false, []⟩])))))
   (.cutTo [0, 1, 2, 7, 8] (.seg false [⟨some 14, none, .mov (.t 8), 0, 0, false, []⟩,
    ⟨some 15, none, .bin .sub (.t 14) (.k (.int .i64 1)), 0, 0, false, []⟩,
    ⟨some 8, none, .mov (.t 15), 0, 0, false, []⟩])))
def L133x0 : C := B133x0
theorem evL133x0 (run : Run) (draw : List I → Env → Heap → Option (Env × Heap)) (e : Env) (h : Heap) : evC run draw L133x0 e h = evC run draw B133x0 e h := rfl
/-- loop.example/tablehouse/spec.l20Bag -/
def F133 : F := ⟨43, [(false, 6, 0, false)],
   .seq (.seg false [⟨some 6, none, .nilrow 1, 0, 0, false, []⟩])
   (.seq (.seg false [⟨some 9, none, .mksl true 1 [], 0, 0, false, []⟩,
    ⟨some 7, none, .mov (.t 9), 0, 0, false, []⟩])
   (.seq (.seq (.seg false [⟨some 10, none, .mov (.t 0), 0, 0, false, []⟩,
    ⟨some 11, none, .call 65 [.t 10, .k (.int .i64 7)] true false, 0, 0, false, []⟩,
    ⟨some 8, none, .mov (.t 11), 0, 0, false, []⟩])
   (.block 0 (.loop [0, 1, 2, 7, 8] [7] L133x0)))
   (.seq (.seg false [⟨some 42, none, .mov (.t 7), 0, 0, false, []⟩,
    ⟨some 6, none, .mov (.t 42), 0, 0, false, []⟩])
   (.ret))))⟩
/-- (*loop.example/tablehouse/spec.l20Rd).odd -/
def F134 : F := ⟨15, [(false, 4, 0, false)],
   .seq (.seg false [⟨some 4, none, .mov (.k (.bool false)), 0, 0, false, []⟩])
   (.seq (.seg false [⟨some 5, none, .mov (.t 1), 0, 0, false, []⟩,
    ⟨some 6, none, .bin .gtr (.t 5) (.k (.int .i64 0)), 0, 0, false, []⟩,
    ⟨some 7, none, .mov (.t 6), 0, 0, false, []⟩,
    ⟨some 8, some (7, true), .mov (.t 0), 0, 0, false, []⟩,
    ⟨some 9, some (7, true), .mov (.t 1), 0, 0, false, []⟩,
    ⟨some 10, some (7, true), .call 65 [.t 8, .t 9] true false, 0, 0, false, []⟩,
    ⟨some 11, some (7, true), .mov (.t 1), 0, 0, false, []⟩,
    ⟨some 12, some (7, true), .bin .sub (.t 11) (.k (.int .i64 1)), 0, 0, false, []⟩,
    ⟨some 13, some (7, true), .bin .eql (.t 10) (.t 12), 0, 0, false, []⟩,
    ⟨some 14, none, .pick (.t 7) (.t 13) (.k (.bool false)), 0, 0, false, []⟩,
    ⟨some 4, none, .mov (.t 14), 0, 0, false, []⟩])
   (.cutTo [4] (.ret)))⟩
def B135x0 : C := .seq (.seq (.seg false [⟨some 6, none, .mov (.t 5), 0, 0, false, []⟩,
    ⟨some 7, none, .mov (.t 1), 0, 0, false, []⟩,
    ⟨some 8, none, .len false (.t 7), 0, 0, false, []⟩,
    ⟨some 9, none, .bin .lss (.t 6) (.t 8), 0, 0, false, []⟩])
   (.cutTo [0, 1, 5, 9] (.cond (.t 9) (.skip)
   (.exit 0))))
   (.cutTo [0, 1, 5] (.seq (.block 1 (.seq (.seg false [⟨some 12, none, .mov (.t 0), 0, 0, false, []⟩,
    ⟨some 13, none, .mov (.t 1), 0, 0, false, []⟩,
    ⟨some 14, none, .mov (.t 5), 0, 0, false, []⟩,
    ⟨some 15, none, .iaddr 1 (.t 13) (.t 14), 0, 0, false, []⟩,
    ⟨some 16, none, .load false 1 (.t 15), 0, 0, false, []⟩,
    ⟨some 17, none, .call 165 [.t 12, .t 16] false false, 0, 0, false, []⟩,
    ⟨some 18, none, .un .not (.t 17), 0, 0, false, []⟩])
   (.cutTo [0, 1, 5, 18] (.cond (.t 18) (.seq (.seg false [⟨some 4, none, .mov (.k (.bool false)), 0, 0, false, []⟩])
   (.ret))
   (.skip)))))
   (.cutTo [0, 1, 5] (.seg false [⟨some 10, none, .mov (.t 5), 0, 0, false, []⟩,
    ⟨some 11, none, .bin .add (.t 10) (.k (.int .i64 1)), 0, 0, false, []⟩,
    ⟨some 5, none, .mov (.t 11), 0, 0, false, []⟩]))))
def L135x0 : C := B135x0
theorem evL135x0 (run : Run) (draw : List I → Env → Heap → Option (Env × Heap)) (e : Env) (h : Heap) : evC run draw L135x0 e h = evC run draw B135x0 e h := rfl
/-- loop.example/tablehouse/spec.RowsOk -/
def F135 : F := ⟨21, [(false, 4, 0, false)],
   .seq (.seg false [⟨some 4, none, .mov (.k (.bool false)), 0, 0, false, []⟩])
   (.seq (.seq (.seg false [⟨some 5, none, .mov (.k (.int .i64 0)), 0, 0, false, []⟩])
   (.block 0 (.loop [0, 1, 5] [0, 4] L135x0)))
   (.seq (.seg false [⟨some 19, none, .mov (.t 0), 0, 0, false, []⟩,
    ⟨some 20, none, .call 96 [.t 19] false false, 0, 0, false, []⟩,
    ⟨some 4, none, .mov (.t 20), 0, 0, false, []⟩])
   (.ret)))⟩
def B136x0 : C := .seq (.seg false [⟨some 9, none, .bin .lss (.t 8) (.t 7), 0, 0, false, []⟩])
   (.seq (.cond (.t 9) (.skip)
   (.exit 0))
   (.seq (.block 1 (.seq (.seg false [⟨some 10, none, .mov (.t 8), 0, 0, false, []⟩,
    ⟨some 5, none, .mov (.t 10), 0, 0, false, []⟩])
   (.seq (.seg false [⟨some 11, none, .mov (.t 1), 0, 0, false, []⟩,
    ⟨some 12, none, .mov (.t 0), 0, 0, false, []⟩,
    ⟨some 13, none, .mov (.t 5), 0, 0, false, []⟩,
    ⟨some 14, none, .iaddr 2 (.t 12) (.t 13), 0, 0, false, []⟩,
    ⟨some 15, none, .load true 2 (.t 14), 0, 0, false, []⟩,
    ⟨some 16, none, .callv (.t 11) [.t 15] false, 0, 0, false, []⟩])
   (.cutTo [0, 1, 5, 7, 8, 16] (.cond (.t 16) (.seq (.seg false [⟨some 17, none, .mov (.t 5), 0, 0, false, []⟩,
    ⟨some 4, none, .mov (.t 17), 0, 0, false, []⟩])
   (.ret))
   (.skip))))))
   (.cutTo [0, 1, 7, 8] (.seg false [⟨some 18, none, .bin .add (.t 8) (.k (.int .i64 1)), 0, 0, false, []⟩,
    ⟨some 8, none, .mov (.t 18), 0, 0, false, []⟩]))))
def L136x0 : C := B136x0
theorem evL136x0 (run : Run) (draw : List I → Env → Heap → Option (Env × Heap)) (e : Env) (h : Heap) : evC run draw L136x0 e h = evC run draw B136x0 e h := rfl
/-- slices.IndexFunc<<>loop.example/tablehouse/impl.Table,loop.example/tablehouse/impl.Table> -/
def F136 : F := ⟨19, [(false, 4, 0, false)],
   .seq (.seg false [⟨some 4, none, .mov (.k (.int .i64 0)), 0, 0, false, []⟩])
   (.seq (.seq (.seg false [⟨some 6, none, .mov (.t 0), 0, 0, false, []⟩,
    ⟨some 7, none, .len false (.t 6), 0, 0, false, []⟩,
    ⟨some 8, none, .mov (.k (.int .i64 0)), 0, 0, false, []⟩])
   (.block 0 (.loop [0, 1, 7, 8] [4] L136x0)))
   (.seq (.seg false [⟨some 4, none, .mov (.k (.int .i64 (-1))), 0, 0, false, []⟩])
   (.ret)))⟩
def B137x0 : C := .seq (.seq (.seg false [⟨some 9, none, .mov (.t 7), 0, 0, false, []⟩,
    ⟨some 10, none, .bin .lss (.t 9) (.k (.int .i64 4)), 0, 0, false, []⟩,
    ⟨some 11, none, .mov (.t 10), 0, 0, false, []⟩,
    ⟨some 12, some (11, true), .mov (.t 1), 0, 0, false, []⟩,
    ⟨some 13, some (11, true), .len false (.t 12), 0, 0, false, []⟩,
    ⟨some 14, some (11, true), .bin .gtr (.t 13) (.k (.int .i64 0)), 0, 0, false, []⟩,
    ⟨some 15, none, .pick (.t 11) (.t 14) (.k (.bool false)), 0, 0, false, []⟩])
   (.cutTo [0, 1, 2, 6, 7, 15] (.cond (.t 15) (.skip)
   (.exit 0))))
   (.cutTo [0, 1, 2, 6, 7] (.seq (.block 1 (.seq (.seg false [⟨some 18, none, .mov (.t 0), 0, 0, false, []⟩,
    ⟨some 19, none, .mov (.t 1), 0, 0, false, []⟩,
    ⟨some 20, none, .len false (.t 19), 0, 0, false, []⟩,
    ⟨some 21, none, .call 65 [.t 18, .t 20] true false, 0, 0, false, []⟩,
    ⟨some 8, none, .mov (.t 21), 0, 0, false, []⟩])
   (.cutTo [0, 1, 2, 6, 7, 8] (.seq (.seg false [⟨some 22, none, .mov (.t 1), 0, 0, false, []⟩,
    ⟨some 23, none, .mov (.t 8), 0, 0, false, []⟩,
    ⟨some 24, none, .iaddr 2 (.t 22) (.t 23), 0, 0, false, []⟩,
    ⟨some 25, none, .faddr 0 1 (.t 24), 0, 0, false, []⟩,
    ⟨some 26, none, .load false 1 (.t 25), 0, 0, false, []⟩,
    ⟨some 27, none, .mov (.t 2), 0, 0, false, []⟩,
    ⟨some 28, none, .bin .eql (.t 26) (.t 27), 0, 0, false, []⟩,
    ⟨some 29, none, .mov (.t 28), 0, 0, false, []⟩,
    ⟨some 30, some (29, true), .mov (.t 0), 0, 0, false, []⟩,
    ⟨some 31, some (29, true), .call 65 [.t 30, .k (.int .i64 3)] true false, 0, 0, false, []⟩,
    ⟨some 32, some (29, true), .bin .gtr (.t 31) (.k (.int .i64 0)), 0, 0, false, []⟩,
    ⟨some 33, none, .pick (.t 29) (.t 32) (.k (.bool false)), 0, 0, false, []⟩])
   (.cutTo [0, 1, 2, 6, 7, 8, 33] (.cond (.t 33) (.seq (.seg false [⟨some 34, none, .mov (.t 8), 0, 0, false, []⟩,
    ⟨some 35, none, .build [.int .i64 0, .int .i64 0, .int .i64 0, .int .i64 0, .str ⟨#[]⟩] [(0, 1, .k (.int .i64 2)), (1, 1, .t 34)], 0, 0, false, []⟩,
    ⟨none, none, .store 5 (.t 6) (.t 35), 0, 0, false, []⟩])
   (.ret))
   (.skip)))))))
   (.cutTo [0, 1, 2, 6, 7] (.seg false [⟨some 16, none, .mov (.t 7), 0, 0, false, []⟩,
    ⟨some 17, none, .bin .add (.t 16) (.k (.int .i64 1)), 0, 0, false, []⟩,
    ⟨some 7, none, .mov (.t 17), 0, 0, false, []⟩]))))
def L137x0 : C := B137x0
theorem evL137x0 (run : Run) (draw : List I → Env → Heap → Option (Env × Heap)) (e : Env) (h : Heap) : evC run draw L137x0 e h = evC run draw B137x0 e h := rfl
/-- loop.example/tablehouse/spec.l20Leaf -/
def F137 : F := ⟨41, [(true, 6, 5, true)],
   .seq (.seg false [⟨some 6, none, .alloc [.int .i64 0, .int .i64 0, .int .i64 0, .int .i64 0, .str ⟨#[]⟩], 0, 0, false, []⟩])
   (.seq (.seq (.seg false [⟨some 7, none, .mov (.k (.int .i64 0)), 0, 0, false, []⟩])
   (.block 0 (.loop [0, 1, 2, 6, 7] [0, 2, 6] L137x0)))
   (.seq (.seg false [⟨some 36, none, .mov (.t 0), 0, 0, false, []⟩,
    ⟨some 37, none, .mov (.t 2), 0, 0, false, []⟩,
    ⟨some 38, none, .build [.int .i64 0, .bool false] [(0, 1, .t 37)], 0, 0, false, []⟩,
    ⟨some 39, none, .call 139 [.t 36, .t 38] true false, 0, 0, false, []⟩,
    ⟨some 40, none, .build [.int .i64 0, .int .i64 0, .int .i64 0, .int .i64 0, .str ⟨#[]⟩] [(0, 1, .k (.int .i64 1)), (2, 3, .t 39)], 0, 0, false, []⟩,
    ⟨none, none, .store 5 (.t 6) (.t 40), 0, 0, false, []⟩])
   (.cutTo [6] (.ret))))⟩
/-- loop.example/tablehouse/impl.ValueOf -/
def F138 : F := ⟨9, [(true, 2, 3, true)],
   .seq (.seg false [⟨some 2, none, .alloc [.int .i64 0, .int .i64 0, .str ⟨#[]⟩], 0, 0, false, []⟩])
   (.seq (.seq (.seg false [⟨some 3, none, .mov (.t 0), 0, 0, false, []⟩,
    ⟨some 4, none, .call 68 [.t 3, .k (.int .i64 0), .k (.int .i64 1)] false false, 0, 0, false, []⟩,
    ⟨some 5, none, .un .not (.t 4), 0, 0, false, []⟩])
   (.cond (.t 5) (.seq (.seg false [⟨some 6, none, .build [.int .i64 0, .int .i64 0, .str ⟨#[]⟩] [], 0, 0, false, []⟩,
    ⟨none, none, .store 3 (.t 2) (.t 6), 0, 0, false, []⟩])
   (.ret))
   (.skip)))
   (.cutTo [0, 2] (.seq (.seg false [⟨some 7, none, .mov (.t 0), 0, 0, false, []⟩,
    ⟨some 8, none, .build [.int .i64 0, .int .i64 0, .str ⟨#[]⟩] [(0, 1, .k (.int .i64 3)), (1, 1, .t 7)], 0, 0, false, []⟩,
    ⟨none, none, .store 3 (.t 2) (.t 8), 0, 0, false, []⟩])
   (.ret))))⟩
/-- loop.example/tablehouse/spec.l20Like -/
def F139 : F := ⟨31, [(true, 4, 3, true)],
   .seq (.seg false [⟨some 3, none, .box (.t 1), 0, 0, false, []⟩,
    ⟨some 4, none, .alloc [.int .i64 0, .int .i64 0, .str ⟨#[]⟩], 0, 0, false, []⟩])
   (.seq (.seq (.seg false [⟨some 5, none, .faddr 1 1 (.t 3), 0, 0, false, []⟩,
    ⟨some 6, none, .load false 1 (.t 5), 0, 0, false, []⟩,
    ⟨some 7, none, .mov (.t 6), 0, 0, false, []⟩,
    ⟨some 8, some (7, true), .mov (.t 0), 0, 0, false, []⟩,
    ⟨some 9, some (7, true), .call 65 [.t 8, .k (.int .i64 5)] true false, 0, 0, false, []⟩,
    ⟨some 10, some (7, true), .bin .eql (.t 9) (.k (.int .i64 0)), 0, 0, false, []⟩,
    ⟨some 11, none, .pick (.t 7) (.t 10) (.k (.bool false)), 0, 0, false, []⟩])
   (.cutTo [0, 3, 4, 11] (.cond (.t 11) (.seq (.seg false [⟨some 12, none, .build [.int .i64 0, .int .i64 0, .str ⟨#[]⟩] [], 0, 0, false, []⟩,
    ⟨none, none, .store 3 (.t 4) (.t 12), 0, 0, false, []⟩])
   (.ret))
   (.skip))))
   (.cutTo [0, 3, 4] (.seq (.seq (.seg false [⟨some 13, none, .faddr 0 1 (.t 3), 0, 0, false, []⟩,
    ⟨some 14, none, .load false 1 (.t 13), 0, 0, false, []⟩])
   (.block 0 (.seq (.seg false [⟨some 16, none, .bin .eql (.t 14) (.k (.int .i64 1)), 0, 0, false, []⟩,
    ⟨some 15, none, .mov (.t 16), 0, 0, false, []⟩])
   (.cond (.t 15) (.seq (.seg false [⟨some 17, none, .mov (.t 0), 0, 0, false, []⟩,
    ⟨some 18, none, .call 65 [.t 17, .k (.int .i64 4)] true false, 0, 0, false, []⟩,
    ⟨some 19, none, .build [.int .i64 0, .int .i64 0, .str ⟨#[]⟩] [(0, 1, .k (.int .i64 1)), (1, 1, .t 18)], 0, 0, false, []⟩,
    ⟨none, none, .store 3 (.t 4) (.t 19), 0, 0, false, []⟩])
   (.cutTo [4] (.ret)))
   (.seq (.seg false [⟨some 21, none, .bin .eql (.t 14) (.k (.int .i64 2)), 0, 0, false, []⟩,
    ⟨some 20, none, .mov (.t 21), 0, 0, false, []⟩])
   (.cond (.t 20) (.seq (.seg false [⟨some 22, none, .mksl false 1 [.k (.str ⟨#[]⟩), .k (.str ⟨#[97]⟩), .k (.str ⟨#[98]⟩), .k (.str ⟨#[97, 98]⟩)], 0, 0, false, []⟩,
    ⟨some 23, none, .mov (.t 0), 0, 0, false, []⟩,
    ⟨some 24, none, .call 65 [.t 23, .k (.int .i64 4)] true false, 0, 0, false, []⟩,
    ⟨some 25, none, .iaddr 1 (.t 22) (.t 24), 0, 0, false, []⟩,
    ⟨some 26, none, .load false 1 (.t 25), 0, 0, false, []⟩,
    ⟨some 27, none, .build [.int .i64 0, .int .i64 0, .str ⟨#[]⟩] [(0, 1, .k (.int .i64 2)), (2, 1, .t 26)], 0, 0, false, []⟩,
    ⟨none, none, .store 3 (.t 4) (.t 27), 0, 0, false, []⟩])
   (.cutTo [4] (.ret)))
   (.skip)))))))
   (.cutTo [0, 4] (.seq (.seg false [⟨some 28, none, .mov (.t 0), 0, 0, false, []⟩,
    ⟨some 29, none, .call 65 [.t 28, .k (.int .i64 2)] true false, 0, 0, false, []⟩,
    ⟨some 30, none, .build [.int .i64 0, .int .i64 0, .str ⟨#[]⟩] [(0, 1, .k (.int .i64 3)), (1, 1, .t 29)], 0, 0, false, []⟩,
    ⟨none, none, .store 3 (.t 4) (.t 30), 0, 0, false, []⟩])
   (.cutTo [4] (.ret)))))))⟩
def E140x0 : List I := [⟨some 42, none, .faddr 2 1 (.t 5), 0, 1, false, []⟩,
    ⟨some 43, none, .load false 1 (.t 42), 0, 1, false, []⟩,
    ⟨some 44, none, .mov (.t 0), 0, 0, false, []⟩,
    ⟨some 45, none, .call 65 [.t 44, .k (.int .i64 3)] true false, 0, 0, true, []⟩,
    ⟨some 46, none, .bin .add (.k (.int .i64 97)) (.t 45), 1, 1, false, []⟩,
    ⟨some 47, none, .conv (.int .u8) (.t 46), 1, 1, false, []⟩,
    ⟨some 48, none, .mksl false 1 [.t 47], 1, 1, false, []⟩,
    ⟨some 49, none, .conv .toStr (.t 48), 1, 1, false, []⟩,
    ⟨some 50, none, .bin .add (.t 43) (.t 49), 1, 1, false, []⟩,
    ⟨some 51, none, .faddr 2 1 (.t 5), 1, 1, false, []⟩,
    ⟨none, none, .store 1 (.t 51) (.t 50), 1, 0, true, []⟩]
def D140x0 : List I := E140x0
theorem evD140x0 (run : Run) (e : Env) (h : Heap) : drawI run D140x0 e h = DrawW (evW run E140x0 e h []) run E140x0 e h := drawI_write run _ e h
def B140x0 : C := .seq (.seq (.seg false [⟨some 38, none, .mov (.t 6), 0, 0, false, []⟩,
    ⟨some 39, none, .bin .gtr (.t 38) (.k (.int .i64 0)), 0, 0, false, []⟩])
   (.cond (.t 39) (.skip)
   (.exit 1)))
   (.seq (.block 2 (.seg true D140x0))
   (.cutTo [0, 1, 4, 5, 6] (.seg false [⟨some 40, none, .mov (.t 6), 0, 0, false, []⟩,
    ⟨some 41, none, .bin .sub (.t 40) (.k (.int .i64 1)), 0, 0, false, []⟩,
    ⟨some 6, none, .mov (.t 41), 0, 0, false, []⟩])))
def L140x0 : C := B140x0
theorem evL140x0 (run : Run) (draw : List I → Env → Heap → Option (Env × Heap)) (e : Env) (h : Heap) : evC run draw L140x0 e h = evC run draw B140x0 e h := rfl
/-- loop.example/tablehouse/spec.l20Value -/
def F140 : F := ⟨77, [(true, 4, 3, true)],
   .seq (.seg false [⟨some 4, none, .alloc [.int .i64 0, .int .i64 0, .str ⟨#[]⟩], 0, 0, false, []⟩])
   (.seq (.seg false [⟨some 7, none, .build [.int .i64 0, .int .i64 0, .str ⟨#[]⟩] [], 0, 0, false, []⟩,
    ⟨some 5, none, .alloc [.int .i64 0, .int .i64 0, .str ⟨#[]⟩], 0, 0, false, []⟩,
    ⟨none, none, .store 3 (.t 5) (.t 7), 0, 0, false, []⟩])
   (.seq (.seq (.seg false [⟨some 8, none, .mov (.t 0), 0, 0, false, []⟩,
    ⟨some 9, none, .call 65 [.t 8, .k (.int .i64 7)] true false, 0, 0, false, []⟩])
   (.block 0 (.seq (.seg false [⟨some 14, none, .bin .eql (.t 9) (.k (.int .i64 0)), 0, 0, false, []⟩,
    ⟨some 13, none, .mov (.t 14), 0, 0, false, []⟩])
   (.cond (.t 13) (.skip)
   (.seq (.seq (.seg false [⟨some 16, none, .bin .eql (.t 9) (.k (.int .i64 1)), 0, 0, false, []⟩,
    ⟨some 15, none, .mov (.t 16), 0, 0, false, []⟩])
   (.cond (.t 15) (.skip)
   (.seq (.seg false [⟨some 17, none, .bin .eql (.t 9) (.k (.int .i64 2)), 0, 0, false, []⟩,
    ⟨some 15, none, .mov (.t 17), 0, 0, false, []⟩])
   (.cond (.t 15) (.skip)
   (.seg false [⟨some 18, none, .bin .eql (.t 9) (.k (.int .i64 3)), 0, 0, false, []⟩,
    ⟨some 15, none, .mov (.t 18), 0, 0, false, []⟩])))))
   (.cutTo [0, 1, 4, 5, 9, 15] (.cond (.t 15) (.seq (.seg false [⟨some 19, none, .mov (.t 0), 0, 0, false, []⟩,
    ⟨some 20, none, .call 65 [.t 19, .k (.int .i64 7)] true false, 0, 0, false, []⟩,
    ⟨some 21, none, .bin .sub (.t 20) (.k (.int .i64 3)), 0, 0, false, []⟩,
    ⟨some 22, none, .build [.int .i64 0, .int .i64 0, .str ⟨#[]⟩] [(0, 1, .k (.int .i64 1)), (1, 1, .t 21)], 0, 0, false, []⟩,
    ⟨none, none, .store 3 (.t 5) (.t 22), 0, 0, false, []⟩])
   (.cutTo [0, 1, 4, 5] (.seq (.seg false [⟨some 23, none, .mov (.t 0), 0, 0, false, []⟩,
    ⟨some 24, none, .call 65 [.t 23, .k (.int .i64 8)] true false, 0, 0, false, []⟩,
    ⟨some 25, none, .bin .eql (.t 24) (.k (.int .i64 0)), 0, 0, false, []⟩])
   (.cond (.t 25) (.seg false [⟨some 26, none, .mksl false 1 [.k (.int .i64 9999), .k (.int .i64 (-9999)), .k (.int .i64 255), .k (.int .i64 256), .k (.int .i64 (-256))], 0, 0, false, []⟩,
    ⟨some 27, none, .mov (.t 0), 0, 0, false, []⟩,
    ⟨some 28, none, .call 65 [.t 27, .k (.int .i64 5)] true false, 0, 0, false, []⟩,
    ⟨some 29, none, .iaddr 1 (.t 26) (.t 28), 0, 0, false, []⟩,
    ⟨some 30, none, .load false 1 (.t 29), 0, 0, false, []⟩,
    ⟨some 31, none, .faddr 1 1 (.t 5), 0, 0, false, []⟩,
    ⟨none, none, .store 1 (.t 31) (.t 30), 0, 0, false, []⟩])
   (.skip)))))
   (.seq (.seq (.seg false [⟨some 33, none, .bin .eql (.t 9) (.k (.int .i64 4)), 0, 0, false, []⟩,
    ⟨some 32, none, .mov (.t 33), 0, 0, false, []⟩])
   (.cond (.t 32) (.skip)
   (.seg false [⟨some 34, none, .bin .eql (.t 9) (.k (.int .i64 5)), 0, 0, false, []⟩,
    ⟨some 32, none, .mov (.t 34), 0, 0, false, []⟩])))
   (.cutTo [0, 1, 4, 5, 32] (.cond (.t 32) (.seq (.seg false [⟨some 35, none, .build [.int .i64 0, .int .i64 0, .str ⟨#[]⟩] [(0, 1, .k (.int .i64 2))], 0, 0, false, []⟩,
    ⟨none, none, .store 3 (.t 5) (.t 35), 0, 0, false, []⟩])
   (.seq (.seg false [⟨some 36, none, .mov (.t 0), 0, 0, false, []⟩,
    ⟨some 37, none, .call 65 [.t 36, .k (.int .i64 4)] true false, 0, 0, false, []⟩,
    ⟨some 6, none, .mov (.t 37), 0, 0, false, []⟩])
   (.block 1 (.loop [0, 1, 4, 5, 6] [0, 1, 4, 5] L140x0))))
   (.seg false [⟨some 10, none, .mov (.t 0), 0, 0, false, []⟩,
    ⟨some 11, none, .call 65 [.t 10, .k (.int .i64 2)] true false, 0, 0, false, []⟩,
    ⟨some 12, none, .build [.int .i64 0, .int .i64 0, .str ⟨#[]⟩] [(0, 1, .k (.int .i64 3)), (1, 1, .t 11)], 0, 0, false, []⟩,
    ⟨none, none, .store 3 (.t 5) (.t 12), 0, 0, false, []⟩])))))))))))
   (.cutTo [0, 1, 4, 5] (.seq (.seq (.seg false [⟨some 52, none, .mov (.t 0), 0, 0, false, []⟩,
    ⟨some 53, none, .mov (.t 1), 0, 0, false, []⟩,
    ⟨some 54, none, .call 134 [.t 52, .t 53] true false, 0, 0, false, []⟩])
   (.cond (.t 54) (.seq (.seg false [⟨some 55, none, .mov (.t 0), 0, 0, false, []⟩,
    ⟨some 56, none, .call 65 [.t 55, .k (.int .i64 4)] true false, 0, 0, false, []⟩])
   (.block 3 (.seq (.seg false [⟨some 62, none, .bin .eql (.t 56) (.k (.int .i64 0)), 0, 0, false, []⟩,
    ⟨some 61, none, .mov (.t 62), 0, 0, false, []⟩])
   (.cond (.t 61) (.seg false [⟨some 63, none, .faddr 1 1 (.t 5), 0, 0, false, []⟩,
    ⟨none, none, .store 1 (.t 63) (.k (.int .i64 10000)), 0, 0, false, []⟩])
   (.seq (.seg false [⟨some 65, none, .bin .eql (.t 56) (.k (.int .i64 1)), 0, 0, false, []⟩,
    ⟨some 64, none, .mov (.t 65), 0, 0, false, []⟩])
   (.cond (.t 64) (.seg false [⟨some 66, none, .faddr 2 1 (.t 5), 0, 0, false, []⟩,
    ⟨some 67, none, .load false 1 (.t 66), 0, 0, false, []⟩,
    ⟨some 68, none, .bin .add (.t 67) (.k (.str ⟨#[97, 98, 99, 100, 101, 102, 103]⟩)), 0, 0, false, []⟩,
    ⟨some 69, none, .faddr 2 1 (.t 5), 0, 0, false, []⟩,
    ⟨none, none, .store 1 (.t 69) (.t 68), 0, 0, false, []⟩])
   (.seq (.seg false [⟨some 71, none, .bin .eql (.t 56) (.k (.int .i64 2)), 0, 0, false, []⟩,
    ⟨some 70, none, .mov (.t 71), 0, 0, false, []⟩])
   (.cond (.t 70) (.seg false [⟨some 72, none, .mov (.t 0), 0, 0, false, []⟩,
    ⟨some 73, none, .call 65 [.t 72, .k (.int .i64 7)] true false, 0, 0, false, []⟩,
    ⟨some 74, none, .bin .sub (.t 73) (.k (.int .i64 1)), 0, 0, false, []⟩,
    ⟨some 75, none, .faddr 0 1 (.t 5), 0, 0, false, []⟩,
    ⟨none, none, .store 1 (.t 75) (.t 74), 0, 0, false, []⟩])
   (.seg false [⟨some 57, none, .faddr 2 1 (.t 5), 0, 0, false, []⟩,
    ⟨some 58, none, .load false 1 (.t 57), 0, 0, false, []⟩,
    ⟨some 59, none, .bin .add (.t 58) (.k (.str ⟨#[65]⟩)), 0, 0, false, []⟩,
    ⟨some 60, none, .faddr 2 1 (.t 5), 0, 0, false, []⟩,
    ⟨none, none, .store 1 (.t 60) (.t 59), 0, 0, false, []⟩])))))))))
   (.skip)))
   (.cutTo [4, 5] (.seq (.seg false [⟨some 76, none, .load true 3 (.t 5), 0, 0, false, []⟩,
    ⟨none, none, .store 3 (.t 4) (.t 76), 0, 0, false, []⟩])
   (.ret)))))))⟩
/-- (loop.example/tablehouse/impl.Part).kind$1 -/
def F141 : F := ⟨8, [(false, 3, 0, false)],
   .seq (.seg false [⟨some 2, none, .box (.t 0), 0, 0, false, []⟩,
    ⟨some 3, none, .mov (.k (.bool false)), 0, 0, false, []⟩])
   (.seq (.seg false [⟨some 4, none, .load false 1 (.t 1), 0, 0, false, []⟩,
    ⟨some 5, none, .mkclo 142 [.t 2], 0, 0, false, []⟩,
    ⟨some 6, none, .call 66 [.t 4, .t 5] true false, 0, 0, false, []⟩,
    ⟨some 7, none, .un .not (.t 6), 0, 0, false, []⟩,
    ⟨some 3, none, .mov (.t 7), 0, 0, false, []⟩])
   (.cutTo [3] (.ret)))⟩
/-- loop.example/tablehouse/spec.ValueOk -/
def F143 : F := ⟨45, [(false, 2, 0, false)],
   .seq (.seg false [⟨some 1, none, .box (.t 0), 0, 0, false, []⟩,
    ⟨some 2, none, .mov (.k (.bool false)), 0, 0, false, []⟩])
   (.seq (.seq (.seg false [⟨some 3, none, .faddr 0 1 (.t 1), 0, 0, false, []⟩,
    ⟨some 4, none, .load false 1 (.t 3), 0, 0, false, []⟩])
   (.block 0 (.seq (.seg false [⟨some 6, none, .bin .eql (.t 4) (.k (.int .i64 0)), 0, 0, false, []⟩,
    ⟨some 5, none, .mov (.t 6), 0, 0, false, []⟩])
   (.cond (.t 5) (.seq (.seg false [⟨some 7, none, .faddr 1 1 (.t 1), 0, 0, false, []⟩,
    ⟨some 8, none, .load false 1 (.t 7), 0, 0, false, []⟩,
    ⟨some 9, none, .bin .eql (.t 8) (.k (.int .i64 0)), 0, 0, false, []⟩,
    ⟨some 10, none, .mov (.t 9), 0, 0, false, []⟩,
    ⟨some 11, some (10, true), .faddr 2 1 (.t 1), 0, 0, false, []⟩,
    ⟨some 12, some (10, true), .load false 1 (.t 11), 0, 0, false, []⟩,
    ⟨some 13, some (10, true), .bin .eql (.t 12) (.k (.str ⟨#[]⟩)), 0, 0, false, []⟩,
    ⟨some 14, none, .pick (.t 10) (.t 13) (.k (.bool false)), 0, 0, false, []⟩,
    ⟨some 2, none, .mov (.t 14), 0, 0, false, []⟩])
   (.cutTo [2] (.ret)))
   (.seq (.seg false [⟨some 16, none, .bin .eql (.t 4) (.k (.int .i64 1)), 0, 0, false, []⟩,
    ⟨some 15, none, .mov (.t 16), 0, 0, false, []⟩])
   (.cond (.t 15) (.seq (.seg false [⟨some 17, none, .faddr 1 1 (.t 1), 0, 0, false, []⟩,
    ⟨some 18, none, .load false 1 (.t 17), 0, 0, false, []⟩,
    ⟨some 19, none, .call 70 [.t 18, .k (.int .i64 (-9999)), .k (.int .i64 9999)] false false, 0, 0, false, []⟩,
    ⟨some 20, none, .mov (.t 19), 0, 0, false, []⟩,
    ⟨some 21, some (20, true), .faddr 2 1 (.t 1), 0, 0, false, []⟩,
    ⟨some 22, some (20, true), .load false 1 (.t 21), 0, 0, false, []⟩,
    ⟨some 23, some (20, true), .bin .eql (.t 22) (.k (.str ⟨#[]⟩)), 0, 0, false, []⟩,
    ⟨some 24, none, .pick (.t 20) (.t 23) (.k (.bool false)), 0, 0, false, []⟩,
    ⟨some 2, none, .mov (.t 24), 0, 0, false, []⟩])
   (.cutTo [2] (.ret)))
   (.seq (.seg false [⟨some 26, none, .bin .eql (.t 4) (.k (.int .i64 2)), 0, 0, false, []⟩,
    ⟨some 25, none, .mov (.t 26), 0, 0, false, []⟩])
   (.cond (.t 25) (.seq (.seg false [⟨some 27, none, .faddr 1 1 (.t 1), 0, 0, false, []⟩,
    ⟨some 28, none, .load false 1 (.t 27), 0, 0, false, []⟩,
    ⟨some 29, none, .bin .eql (.t 28) (.k (.int .i64 0)), 0, 0, false, []⟩,
    ⟨some 30, none, .mov (.t 29), 0, 0, false, []⟩,
    ⟨some 31, some (30, true), .faddr 2 1 (.t 1), 0, 0, false, []⟩,
    ⟨some 32, some (30, true), .load false 1 (.t 31), 0, 0, false, []⟩,
    ⟨some 33, some (30, true), .call 166 [.t 32] false false, 0, 0, false, []⟩,
    ⟨some 34, none, .pick (.t 30) (.t 33) (.k (.bool false)), 0, 0, false, []⟩,
    ⟨some 2, none, .mov (.t 34), 0, 0, false, []⟩])
   (.cutTo [2] (.ret)))
   (.seq (.seg false [⟨some 36, none, .bin .eql (.t 4) (.k (.int .i64 3)), 0, 0, false, []⟩,
    ⟨some 35, none, .mov (.t 36), 0, 0, false, []⟩])
   (.cond (.t 35) (.seq (.seg false [⟨some 37, none, .faddr 1 1 (.t 1), 0, 0, false, []⟩,
    ⟨some 38, none, .load false 1 (.t 37), 0, 0, false, []⟩,
    ⟨some 39, none, .call 70 [.t 38, .k (.int .i64 0), .k (.int .i64 1)] false false, 0, 0, false, []⟩,
    ⟨some 40, none, .mov (.t 39), 0, 0, false, []⟩,
    ⟨some 41, some (40, true), .faddr 2 1 (.t 1), 0, 0, false, []⟩,
    ⟨some 42, some (40, true), .load false 1 (.t 41), 0, 0, false, []⟩,
    ⟨some 43, some (40, true), .bin .eql (.t 42) (.k (.str ⟨#[]⟩)), 0, 0, false, []⟩,
    ⟨some 44, none, .pick (.t 40) (.t 43) (.k (.bool false)), 0, 0, false, []⟩,
    ⟨some 2, none, .mov (.t 44), 0, 0, false, []⟩])
   (.cutTo [2] (.ret)))
   (.skip)))))))))))
   (.cutTo [] (.seq (.seg false [⟨some 2, none, .mov (.k (.bool false)), 0, 0, false, []⟩])
   (.ret))))⟩
/-- loop.example/tablehouse/impl.sidesOk -/
def F144 : F := ⟨43, [(false, 8, 0, false)],
   .seq (.seg false [⟨some 8, none, .mov (.k (.bool false)), 0, 0, false, []⟩])
   (.seq (.seg false [⟨some 9, none, .mov (.t 0), 0, 0, false, []⟩,
    ⟨some 10, none, .call 71 [.t 9] false false, 0, 0, false, []⟩,
    ⟨some 11, none, .mov (.t 10), 0, 0, false, []⟩,
    ⟨some 12, some (11, true), .mov (.t 1), 0, 0, false, []⟩,
    ⟨some 13, some (11, true), .call 71 [.t 12] false false, 0, 0, false, []⟩,
    ⟨some 14, none, .pick (.t 11) (.t 13) (.k (.bool false)), 0, 0, false, []⟩,
    ⟨some 15, none, .mov (.t 14), 0, 0, false, []⟩,
    ⟨some 16, some (15, true), .mov (.t 0), 0, 0, false, []⟩,
    ⟨some 17, some (15, true), .len false (.t 16), 0, 0, false, []⟩,
    ⟨some 18, some (15, true), .mov (.t 1), 0, 0, false, []⟩,
    ⟨some 19, some (15, true), .len false (.t 18), 0, 0, false, []⟩,
    ⟨some 20, some (15, true), .bin .add (.t 17) (.t 19), 0, 0, false, []⟩,
    ⟨some 21, some (15, true), .bin .leq (.t 20) (.k (.int .i64 4)), 0, 0, false, []⟩,
    ⟨some 22, none, .pick (.t 15) (.t 21) (.k (.bool false)), 0, 0, false, []⟩,
    ⟨some 23, none, .mov (.t 22), 0, 0, false, []⟩,
    ⟨some 24, some (23, true), .mov (.t 2), 0, 0, false, []⟩,
    ⟨some 25, some (23, true), .len false (.t 24), 0, 0, false, []⟩,
    ⟨some 26, some (23, true), .bin .leq (.t 25) (.k (.int .i64 30)), 0, 0, false, []⟩,
    ⟨some 27, none, .pick (.t 23) (.t 26) (.k (.bool false)), 0, 0, false, []⟩,
    ⟨some 28, none, .mov (.t 27), 0, 0, false, []⟩,
    ⟨some 29, some (28, true), .mov (.t 3), 0, 0, false, []⟩,
    ⟨some 30, some (28, true), .len false (.t 29), 0, 0, false, []⟩,
    ⟨some 31, some (28, true), .bin .leq (.t 30) (.k (.int .i64 30)), 0, 0, false, []⟩,
    ⟨some 32, none, .pick (.t 28) (.t 31) (.k (.bool false)), 0, 0, false, []⟩,
    ⟨some 33, none, .mov (.t 32), 0, 0, false, []⟩,
    ⟨some 34, some (33, true), .mov (.t 0), 0, 0, false, []⟩,
    ⟨some 35, some (33, true), .mov (.t 2), 0, 0, false, []⟩,
    ⟨some 36, some (33, true), .call 51 [.t 34, .t 35] false false, 0, 0, false, []⟩,
    ⟨some 37, none, .pick (.t 33) (.t 36) (.k (.bool false)), 0, 0, false, []⟩,
    ⟨some 38, none, .mov (.t 37), 0, 0, false, []⟩,
    ⟨some 39, some (38, true), .mov (.t 1), 0, 0, false, []⟩,
    ⟨some 40, some (38, true), .mov (.t 3), 0, 0, false, []⟩,
    ⟨some 41, some (38, true), .call 51 [.t 39, .t 40] false false, 0, 0, false, []⟩,
    ⟨some 42, none, .pick (.t 38) (.t 41) (.k (.bool false)), 0, 0, false, []⟩,
    ⟨some 8, none, .mov (.t 42), 0, 0, false, []⟩])
   (.cutTo [8] (.ret)))⟩
def B103x0 : C := .seq (.seg false [⟨some 11, none, .bin .lss (.t 10) (.t 9), 0, 0, false, []⟩])
   (.seq (.cond (.t 11) (.skip)
   (.exit 0))
   (.seq (.block 1 (.seq (.seg false [⟨some 12, none, .iaddr 1 (.t 8) (.t 10), 0, 0, false, []⟩,
    ⟨some 13, none, .load false 1 (.t 12), 0, 0, false, []⟩,
    ⟨some 7, none, .mov (.t 13), 0, 0, false, []⟩])
   (.seg false [⟨some 14, none, .mov (.t 5), 0, 0, false, []⟩,
    ⟨some 15, none, .mov (.t 7), 0, 0, false, []⟩,
    ⟨some 16, none, .mov (.t 1), 0, 0, false, []⟩,
    ⟨some 17, none, .iaddr 3 (.t 15) (.t 16), 0, 0, false, []⟩,
    ⟨some 18, none, .load true 3 (.t 17), 0, 0, false, []⟩,
    ⟨some 19, none, .mksl false 3 [.t 18], 0, 0, false, []⟩,
    ⟨some 20, none, .app 3 (.t 14) (.t 19), 0, 0, false, []⟩,
    ⟨some 5, none, .mov (.t 20), 0, 0, false, []⟩])))
   (.cutTo [1, 5, 8, 9, 10] (.seg false [⟨some 21, none, .bin .add (.t 10) (.k (.int .i64 1)), 0, 0, false, []⟩,
    ⟨some 10, none, .mov (.t 21), 0, 0, false, []⟩]))))
def L103x0 : C := B103x0
theorem evL103x0 (run : Run) (draw : List I → Env → Heap → Option (Env × Heap)) (e : Env) (h : Heap) : evC run draw L103x0 e h = evC run draw B103x0 e h := rfl
/-- loop.example/tablehouse/impl.column -/
def F103 : F := ⟨23, [(false, 4, 0, false)],
   .seq (.seg false [⟨some 4, none, .nilrow 3, 0, 0, false, []⟩])
   (.seq (.seg false [⟨some 5, none, .nilrow 3, 0, 0, false, []⟩])
   (.seq (.seq (.seg false [⟨some 8, none, .mov (.t 0), 0, 0, false, []⟩,
    ⟨some 9, none, .len false (.t 8), 0, 0, false, []⟩,
    ⟨some 10, none, .mov (.k (.int .i64 0)), 0, 0, false, []⟩])
   (.block 0 (.loop [1, 5, 8, 9, 10] [5] L103x0)))
   (.seq (.seg false [⟨some 22, none, .mov (.t 5), 0, 0, false, []⟩,
    ⟨some 4, none, .mov (.t 22), 0, 0, false, []⟩])
   (.ret))))⟩
/-- loop.example/tablehouse/impl.InTruth -/
def F102 : F := ⟨34, [(false, 4, 0, false)],
   .seq (.seg false [⟨some 2, none, .box (.t 0), 0, 0, false, []⟩,
    ⟨some 4, none, .mov (.k (.int .i64 0)), 0, 0, false, []⟩])
   (.seq (.seq (.seg false [⟨some 5, none, .load true 3 (.t 2), 0, 0, false, []⟩,
    ⟨some 6, none, .call 128 [.t 5] false false, 0, 0, false, []⟩,
    ⟨some 7, none, .un .not (.t 6), 0, 0, false, []⟩,
    ⟨some 8, none, .mov (.t 7), 0, 0, false, []⟩,
    ⟨some 9, some (8, false), .mov (.t 1), 0, 0, false, []⟩,
    ⟨some 10, some (8, false), .len false (.t 9), 0, 0, false, []⟩,
    ⟨some 11, some (8, false), .bin .gtr (.t 10) (.k (.int .i64 30)), 0, 0, false, []⟩,
    ⟨some 12, none, .pick (.t 8) (.k (.bool true)) (.t 11), 0, 0, false, []⟩,
    ⟨some 13, none, .mov (.t 12), 0, 0, false, []⟩,
    ⟨some 14, some (13, false), .mov (.t 1), 0, 0, false, []⟩,
    ⟨some 15, some (13, false), .mkclo 145 [.t 2], 0, 0, false, []⟩,
    ⟨some 16, some (13, false), .call 126 [.t 14, .t 15] true false, 0, 0, false, []⟩,
    ⟨some 17, none, .pick (.t 13) (.k (.bool true)) (.t 16), 0, 0, false, []⟩])
   (.cutTo [1, 2, 17] (.cond (.t 17) (.seq (.seg false [⟨some 4, none, .mov (.k (.int .i64 2)), 0, 0, false, []⟩])
   (.ret))
   (.skip))))
   (.cutTo [1, 2] (.seq (.block 0 (.seq (.seg false [⟨some 19, none, .mov (.t 1), 0, 0, false, []⟩,
    ⟨some 20, none, .len false (.t 19), 0, 0, false, []⟩,
    ⟨some 21, none, .bin .eql (.t 20) (.k (.int .i64 0)), 0, 0, false, []⟩,
    ⟨some 18, none, .mov (.t 21), 0, 0, false, []⟩])
   (.cutTo [1, 2, 18] (.cond (.t 18) (.seq (.seg false [⟨some 4, none, .mov (.k (.int .i64 0)), 0, 0, false, []⟩])
   (.ret))
   (.seq (.seg false [⟨some 23, none, .faddr 0 1 (.t 2), 0, 0, false, []⟩,
    ⟨some 24, none, .load false 1 (.t 23), 0, 0, false, []⟩,
    ⟨some 25, none, .bin .eql (.t 24) (.k (.int .i64 0)), 0, 0, false, []⟩,
    ⟨some 22, none, .mov (.t 25), 0, 0, false, []⟩])
   (.cutTo [1, 2, 22] (.cond (.t 22) (.seq (.seg false [⟨some 4, none, .mov (.k (.int .i64 2)), 0, 0, false, []⟩])
   (.ret))
   (.seq (.seg false [⟨some 27, none, .mov (.t 1), 0, 0, false, []⟩,
    ⟨some 28, none, .load true 3 (.t 2), 0, 0, false, []⟩,
    ⟨some 29, none, .call 146 [.t 27, .t 28] false false, 0, 0, false, []⟩,
    ⟨some 26, none, .mov (.t 29), 0, 0, false, []⟩])
   (.cutTo [1, 26] (.cond (.t 26) (.seq (.seg false [⟨some 4, none, .mov (.k (.int .i64 1)), 0, 0, false, []⟩])
   (.ret))
   (.seq (.seg false [⟨some 31, none, .mov (.t 1), 0, 0, false, []⟩,
    ⟨some 32, none, .build [.int .i64 0, .int .i64 0, .str ⟨#[]⟩] [], 0, 0, false, []⟩,
    ⟨some 33, none, .call 146 [.t 31, .t 32] false false, 0, 0, false, []⟩,
    ⟨some 30, none, .mov (.t 33), 0, 0, false, []⟩])
   (.cutTo [30] (.cond (.t 30) (.seq (.seg false [⟨some 4, none, .mov (.k (.int .i64 2)), 0, 0, false, []⟩])
   (.ret))
   (.skip))))))))))))))
   (.cutTo [] (.seq (.seg false [⟨some 4, none, .mov (.k (.int .i64 0)), 0, 0, false, []⟩])
   (.ret))))))⟩
/-- loop.example/tablehouse/spec.Compare -/
def F150 : F := ⟨65, [(false, 6, 0, false)],
   .seq (.seg false [⟨some 4, none, .box (.t 1), 0, 0, false, []⟩,
    ⟨some 5, none, .box (.t 2), 0, 0, false, []⟩,
    ⟨some 6, none, .mov (.k (.int .i64 0)), 0, 0, false, []⟩])
   (.seq (.block 0 (.seq (.seg false [⟨some 8, none, .mov (.t 0), 0, 0, false, []⟩,
    ⟨some 9, none, .call 70 [.t 8, .k (.int .i64 1), .k (.int .i64 4)] false false, 0, 0, false, []⟩,
    ⟨some 10, none, .un .not (.t 9), 0, 0, false, []⟩,
    ⟨some 11, none, .mov (.t 10), 0, 0, false, []⟩,
    ⟨some 12, some (11, false), .load true 3 (.t 4), 0, 0, false, []⟩,
    ⟨some 13, some (11, false), .call 143 [.t 12] false false, 0, 0, false, []⟩,
    ⟨some 14, some (11, false), .un .not (.t 13), 0, 0, false, []⟩,
    ⟨some 15, none, .pick (.t 11) (.k (.bool true)) (.t 14), 0, 0, false, []⟩,
    ⟨some 16, none, .mov (.t 15), 0, 0, false, []⟩,
    ⟨some 17, some (16, false), .load true 3 (.t 5), 0, 0, false, []⟩,
    ⟨some 18, some (16, false), .call 143 [.t 17] false false, 0, 0, false, []⟩,
    ⟨some 19, some (16, false), .un .not (.t 18), 0, 0, false, []⟩,
    ⟨some 20, none, .pick (.t 16) (.k (.bool true)) (.t 19), 0, 0, false, []⟩,
    ⟨some 7, none, .mov (.t 20), 0, 0, false, []⟩])
   (.cutTo [0, 4, 5, 7] (.cond (.t 7) (.seq (.seg false [⟨some 6, none, .mov (.k (.int .i64 (-1))), 0, 0, false, []⟩])
   (.ret))
   (.seq (.seg false [⟨some 22, none, .faddr 0 1 (.t 4), 0, 0, false, []⟩,
    ⟨some 23, none, .load false 1 (.t 22), 0, 0, false, []⟩,
    ⟨some 24, none, .bin .eql (.t 23) (.k (.int .i64 0)), 0, 0, false, []⟩,
    ⟨some 25, none, .mov (.t 24), 0, 0, false, []⟩,
    ⟨some 26, some (25, false), .faddr 0 1 (.t 5), 0, 0, false, []⟩,
    ⟨some 27, some (25, false), .load false 1 (.t 26), 0, 0, false, []⟩,
    ⟨some 28, some (25, false), .bin .eql (.t 27) (.k (.int .i64 0)), 0, 0, false, []⟩,
    ⟨some 29, none, .pick (.t 25) (.k (.bool true)) (.t 28), 0, 0, false, []⟩,
    ⟨some 21, none, .mov (.t 29), 0, 0, false, []⟩])
   (.cutTo [0, 4, 5, 21] (.cond (.t 21) (.seq (.seg false [⟨some 6, none, .mov (.k (.int .i64 2)), 0, 0, false, []⟩])
   (.ret))
   (.seq (.seg false [⟨some 31, none, .faddr 0 1 (.t 4), 0, 0, false, []⟩,
    ⟨some 32, none, .load false 1 (.t 31), 0, 0, false, []⟩,
    ⟨some 33, none, .faddr 0 1 (.t 5), 0, 0, false, []⟩,
    ⟨some 34, none, .load false 1 (.t 33), 0, 0, false, []⟩,
    ⟨some 35, none, .bin .neq (.t 32) (.t 34), 0, 0, false, []⟩,
    ⟨some 30, none, .mov (.t 35), 0, 0, false, []⟩])
   (.cutTo [0, 4, 5, 30] (.cond (.t 30) (.seq (.seg false [⟨some 6, none, .mov (.k (.int .i64 (-1))), 0, 0, false, []⟩])
   (.ret))
   (.seq (.seg false [⟨some 37, none, .mov (.t 0), 0, 0, false, []⟩,
    ⟨some 38, none, .bin .eql (.t 37) (.k (.int .i64 1)), 0, 0, false, []⟩,
    ⟨some 36, none, .mov (.t 38), 0, 0, false, []⟩])
   (.cond (.t 36) (.seq (.seg false [⟨some 39, none, .load true 3 (.t 4), 0, 0, false, []⟩,
    ⟨some 40, none, .load true 3 (.t 5), 0, 0, false, []⟩,
    ⟨some 41, none, .call 169 [.t 39, .t 40] false false, 0, 0, false, []⟩,
    ⟨some 42, none, .bin .eql (.t 41) (.k (.int .i64 0)), 0, 0, false, []⟩,
    ⟨some 43, none, .call 168 [.t 42] false false, 0, 0, false, []⟩,
    ⟨some 6, none, .mov (.t 43), 0, 0, false, []⟩])
   (.cutTo [6] (.ret)))
   (.seq (.seg false [⟨some 45, none, .mov (.t 0), 0, 0, false, []⟩,
    ⟨some 46, none, .bin .eql (.t 45) (.k (.int .i64 2)), 0, 0, false, []⟩,
    ⟨some 44, none, .mov (.t 46), 0, 0, false, []⟩])
   (.cond (.t 44) (.seq (.seg false [⟨some 47, none, .load true 3 (.t 4), 0, 0, false, []⟩,
    ⟨some 48, none, .load true 3 (.t 5), 0, 0, false, []⟩,
    ⟨some 49, none, .call 169 [.t 47, .t 48] false false, 0, 0, false, []⟩,
    ⟨some 50, none, .bin .neq (.t 49) (.k (.int .i64 0)), 0, 0, false, []⟩,
    ⟨some 51, none, .call 168 [.t 50] false false, 0, 0, false, []⟩,
    ⟨some 6, none, .mov (.t 51), 0, 0, false, []⟩])
   (.cutTo [6] (.ret)))
   (.seq (.seg false [⟨some 53, none, .mov (.t 0), 0, 0, false, []⟩,
    ⟨some 54, none, .bin .eql (.t 53) (.k (.int .i64 3)), 0, 0, false, []⟩,
    ⟨some 52, none, .mov (.t 54), 0, 0, false, []⟩])
   (.cond (.t 52) (.seq (.seg false [⟨some 55, none, .load true 3 (.t 4), 0, 0, false, []⟩,
    ⟨some 56, none, .load true 3 (.t 5), 0, 0, false, []⟩,
    ⟨some 57, none, .call 169 [.t 55, .t 56] false false, 0, 0, false, []⟩,
    ⟨some 58, none, .bin .lss (.t 57) (.k (.int .i64 0)), 0, 0, false, []⟩,
    ⟨some 59, none, .call 168 [.t 58] false false, 0, 0, false, []⟩,
    ⟨some 6, none, .mov (.t 59), 0, 0, false, []⟩])
   (.cutTo [6] (.ret)))
   (.skip)))))))))))))))))
   (.cutTo [4, 5] (.seq (.seg false [⟨some 60, none, .load true 3 (.t 4), 0, 0, false, []⟩,
    ⟨some 61, none, .load true 3 (.t 5), 0, 0, false, []⟩,
    ⟨some 62, none, .call 169 [.t 60, .t 61] false false, 0, 0, false, []⟩,
    ⟨some 63, none, .bin .leq (.t 62) (.k (.int .i64 0)), 0, 0, false, []⟩,
    ⟨some 64, none, .call 168 [.t 63] false false, 0, 0, false, []⟩,
    ⟨some 6, none, .mov (.t 64), 0, 0, false, []⟩])
   (.cutTo [6] (.ret)))))⟩
/-- loop.example/tablehouse/spec.OrOf -/
def F149 : F := ⟨19, [(false, 4, 0, false)],
   .seq (.seg false [⟨some 4, none, .mov (.k (.int .i64 0)), 0, 0, false, []⟩])
   (.seq (.seq (.seg false [⟨some 5, none, .mov (.t 0), 0, 0, false, []⟩,
    ⟨some 6, none, .call 147 [.t 5] false false, 0, 0, false, []⟩,
    ⟨some 7, none, .un .not (.t 6), 0, 0, false, []⟩,
    ⟨some 8, none, .mov (.t 7), 0, 0, false, []⟩,
    ⟨some 9, some (8, false), .mov (.t 1), 0, 0, false, []⟩,
    ⟨some 10, some (8, false), .call 147 [.t 9] false false, 0, 0, false, []⟩,
    ⟨some 11, some (8, false), .un .not (.t 10), 0, 0, false, []⟩,
    ⟨some 12, none, .pick (.t 8) (.k (.bool true)) (.t 11), 0, 0, false, []⟩])
   (.cutTo [0, 1, 12] (.cond (.t 12) (.seq (.seg false [⟨some 4, none, .mov (.k (.int .i64 (-1))), 0, 0, false, []⟩])
   (.ret))
   (.skip))))
   (.cutTo [0, 1] (.seq (.seg false [⟨some 13, none, .mov (.t 0), 0, 0, false, []⟩,
    ⟨some 14, none, .call 148 [.t 13] false false, 0, 0, false, []⟩,
    ⟨some 15, none, .mov (.t 1), 0, 0, false, []⟩,
    ⟨some 16, none, .call 148 [.t 15] false false, 0, 0, false, []⟩,
    ⟨some 17, none, .mm true (.t 14) [.t 16], 0, 0, false, []⟩,
    ⟨some 18, none, .call 148 [.t 17] false false, 0, 0, false, []⟩,
    ⟨some 4, none, .mov (.t 18), 0, 0, false, []⟩])
   (.cutTo [4] (.ret)))))⟩
/-- loop.example/tablehouse/spec.TruthOk -/
def F147 : F := ⟨5, [(false, 2, 0, false)],
   .seq (.seg false [⟨some 2, none, .mov (.k (.bool false)), 0, 0, false, []⟩])
   (.seq (.seg false [⟨some 3, none, .mov (.t 0), 0, 0, false, []⟩,
    ⟨some 4, none, .call 70 [.t 3, .k (.int .i64 0), .k (.int .i64 2)] false false, 0, 0, false, []⟩,
    ⟨some 2, none, .mov (.t 4), 0, 0, false, []⟩])
   (.ret))⟩
/-- loop.example/tablehouse/spec.l2Sure -/
def F148 : F := ⟨7, [(false, 2, 0, false)],
   .seq (.seg false [⟨some 2, none, .mov (.k (.int .i64 0)), 0, 0, false, []⟩])
   (.seq (.seg false [⟨some 3, none, .mksl false 1 [.k (.int .i64 0), .k (.int .i64 2), .k (.int .i64 1)], 0, 0, false, []⟩,
    ⟨some 4, none, .mov (.t 0), 0, 0, false, []⟩,
    ⟨some 5, none, .iaddr 1 (.t 3) (.t 4), 0, 0, false, []⟩,
    ⟨some 6, none, .load false 1 (.t 5), 0, 0, false, []⟩,
    ⟨some 2, none, .mov (.t 6), 0, 0, false, []⟩])
   (.cutTo [2] (.ret)))⟩
def B151x0 : C := .seq (.seg false [⟨some 9, none, .bin .lss (.t 8) (.t 7), 0, 0, false, []⟩])
   (.seq (.cond (.t 9) (.skip)
   (.exit 0))
   (.seq (.block 1 (.seq (.seg false [⟨some 10, none, .mov (.t 8), 0, 0, false, []⟩,
    ⟨some 5, none, .mov (.t 10), 0, 0, false, []⟩])
   (.seq (.seg false [⟨some 11, none, .mov (.t 1), 0, 0, false, []⟩,
    ⟨some 12, none, .mov (.t 0), 0, 0, false, []⟩,
    ⟨some 13, none, .mov (.t 5), 0, 0, false, []⟩,
    ⟨some 14, none, .iaddr 1 (.t 12) (.t 13), 0, 0, false, []⟩,
    ⟨some 15, none, .load false 1 (.t 14), 0, 0, false, []⟩,
    ⟨some 16, none, .callv (.t 11) [.t 15] false, 0, 0, false, []⟩])
   (.cutTo [0, 1, 5, 7, 8, 16] (.cond (.t 16) (.seq (.seg false [⟨some 17, none, .mov (.t 5), 0, 0, false, []⟩,
    ⟨some 4, none, .mov (.t 17), 0, 0, false, []⟩])
   (.ret))
   (.skip))))))
   (.cutTo [0, 1, 7, 8] (.seg false [⟨some 18, none, .bin .add (.t 8) (.k (.int .i64 1)), 0, 0, false, []⟩,
    ⟨some 8, none, .mov (.t 18), 0, 0, false, []⟩]))))
def L151x0 : C := B151x0
theorem evL151x0 (run : Run) (draw : List I → Env → Heap → Option (Env × Heap)) (e : Env) (h : Heap) : evC run draw L151x0 e h = evC run draw B151x0 e h := rfl
/-- slices.IndexFunc<<><>loop.example/tablehouse/impl.Value,<>loop.example/tablehouse/impl.Value> -/
def F151 : F := ⟨19, [(false, 4, 0, false)],
   .seq (.seg false [⟨some 4, none, .mov (.k (.int .i64 0)), 0, 0, false, []⟩])
   (.seq (.seq (.seg false [⟨some 6, none, .mov (.t 0), 0, 0, false, []⟩,
    ⟨some 7, none, .len false (.t 6), 0, 0, false, []⟩,
    ⟨some 8, none, .mov (.k (.int .i64 0)), 0, 0, false, []⟩])
   (.block 0 (.loop [0, 1, 7, 8] [4] L151x0)))
   (.seq (.seg false [⟨some 4, none, .mov (.k (.int .i64 (-1))), 0, 0, false, []⟩])
   (.ret)))⟩
def B152x0 : C := .seq (.seq (.seg false [⟨some 7, none, .mov (.t 6), 0, 0, false, []⟩,
    ⟨some 8, none, .mov (.t 0), 0, 0, false, []⟩,
    ⟨some 9, none, .len false (.t 8), 0, 0, false, []⟩,
    ⟨some 10, none, .bin .lss (.t 7) (.t 9), 0, 0, false, []⟩])
   (.cutTo [0, 1, 5, 6, 10] (.cond (.t 10) (.skip)
   (.exit 0))))
   (.cutTo [0, 1, 5, 6] (.seq (.block 1 (.seq (.seg false [⟨some 13, none, .mov (.t 0), 0, 0, false, []⟩,
    ⟨some 14, none, .mov (.t 6), 0, 0, false, []⟩,
    ⟨some 15, none, .iaddr 1 (.t 13) (.t 14), 0, 0, false, []⟩,
    ⟨some 16, none, .load false 1 (.t 15), 0, 0, false, []⟩,
    ⟨some 17, none, .mov (.t 1), 0, 0, false, []⟩,
    ⟨some 18, none, .call 170 [.t 16, .t 17] false false, 0, 0, false, []⟩])
   (.cutTo [0, 1, 5, 6, 18] (.cond (.t 18) (.seg false [⟨some 19, none, .mov (.t 5), 0, 0, false, []⟩,
    ⟨some 20, none, .bin .add (.t 19) (.k (.int .i64 1)), 0, 0, false, []⟩,
    ⟨some 5, none, .mov (.t 20), 0, 0, false, []⟩])
   (.skip)))))
   (.cutTo [0, 1, 5, 6] (.seg false [⟨some 11, none, .mov (.t 6), 0, 0, false, []⟩,
    ⟨some 12, none, .bin .add (.t 11) (.k (.int .i64 1)), 0, 0, false, []⟩,
    ⟨some 6, none, .mov (.t 12), 0, 0, false, []⟩]))))
def L152x0 : C := B152x0
theorem evL152x0 (run : Run) (draw : List I → Env → Heap → Option (Env × Heap)) (e : Env) (h : Heap) : evC run draw L152x0 e h = evC run draw B152x0 e h := rfl
/-- loop.example/tablehouse/spec.RowMany -/
def F152 : F := ⟨22, [(false, 4, 0, false)],
   .seq (.seg false [⟨some 4, none, .mov (.k (.int .i64 0)), 0, 0, false, []⟩])
   (.seq (.seg false [⟨some 5, none, .mov (.k (.int .i64 0)), 0, 0, false, []⟩])
   (.seq (.seq (.seg false [⟨some 6, none, .mov (.k (.int .i64 0)), 0, 0, false, []⟩])
   (.block 0 (.loop [0, 1, 5, 6] [5] L152x0)))
   (.seq (.seg false [⟨some 21, none, .mov (.t 5), 0, 0, false, []⟩,
    ⟨some 4, none, .mov (.t 21), 0, 0, false, []⟩])
   (.ret))))⟩
/-- loop.example/tablehouse/impl.clone<loop.example/tablehouse/impl.Value> -/
def F153 : F := ⟨9, [(false, 2, 0, false)],
   .seq (.seg false [⟨some 2, none, .mov (.k (.sl true 3 [])), 0, 0, false, []⟩])
   (.seq (.seq (.seg false [⟨some 3, none, .mov (.t 0), 0, 0, false, []⟩,
    ⟨some 4, none, .len false (.t 3), 0, 0, false, []⟩,
    ⟨some 5, none, .bin .eql (.t 4) (.k (.int .i64 0)), 0, 0, false, []⟩])
   (.cond (.t 5) (.seq (.seg false [⟨some 2, none, .mov (.k (.sl true 3 [])), 0, 0, false, []⟩])
   (.ret))
   (.skip)))
   (.cutTo [0] (.seq (.seg false [⟨some 6, none, .mov (.t 0), 0, 0, false, []⟩,
    ⟨some 7, none, .app 3 (.k (.sl true 3 [])) (.t 6), 0, 0, false, []⟩,
    ⟨some 8, none, .call 171 [.t 7] false false, 0, 0, false, []⟩,
    ⟨some 2, none, .mov (.t 8), 0, 0, false, []⟩])
   (.cutTo [2] (.ret)))))⟩
/-- slices.Clip<<><>loop.example/tablehouse/impl.Value,<>loop.example/tablehouse/impl.Value> -/
def F154 : F := ⟨9, [(false, 2, 0, false)],
   .seq (.seg false [⟨some 2, none, .mov (.k (.sl true 1 [])), 0, 0, false, []⟩])
   (.seq (.seg false [⟨some 3, none, .mov (.t 0), 0, 0, false, []⟩,
    ⟨some 4, none, .mov (.t 0), 0, 0, false, []⟩,
    ⟨some 5, none, .len false (.t 4), 0, 0, false, []⟩,
    ⟨some 6, none, .mov (.t 0), 0, 0, false, []⟩,
    ⟨some 7, none, .len false (.t 6), 0, 0, false, []⟩,
    ⟨some 8, none, .slc false 1 (.t 3) none (some (.t 5)) (some (.t 7)), 0, 0, false, []⟩,
    ⟨some 2, none, .mov (.t 8), 0, 0, false, []⟩])
   (.cutTo [2] (.ret)))⟩
/-- slices.Clip<<>loop.example/tablehouse/impl.Part,loop.example/tablehouse/impl.Part> -/
def F155 : F := ⟨9, [(false, 2, 0, false)],
   .seq (.seg false [⟨some 2, none, .mov (.k (.sl true 5 [])), 0, 0, false, []⟩])
   (.seq (.seg false [⟨some 3, none, .mov (.t 0), 0, 0, false, []⟩,
    ⟨some 4, none, .mov (.t 0), 0, 0, false, []⟩,
    ⟨some 5, none, .len false (.t 4), 0, 0, false, []⟩,
    ⟨some 6, none, .mov (.t 0), 0, 0, false, []⟩,
    ⟨some 7, none, .len false (.t 6), 0, 0, false, []⟩,
    ⟨some 8, none, .slc false 5 (.t 3) none (some (.t 5)) (some (.t 7)), 0, 0, false, []⟩,
    ⟨some 2, none, .mov (.t 8), 0, 0, false, []⟩])
   (.cutTo [2] (.ret)))⟩
def B156x0 : C := .seq (.seg false [⟨some 9, none, .bin .lss (.t 8) (.t 7), 0, 0, false, []⟩])
   (.seq (.cond (.t 9) (.skip)
   (.exit 0))
   (.seq (.block 1 (.seq (.seg false [⟨some 10, none, .mov (.t 8), 0, 0, false, []⟩,
    ⟨some 5, none, .mov (.t 10), 0, 0, false, []⟩])
   (.seq (.seg false [⟨some 11, none, .mov (.t 1), 0, 0, false, []⟩,
    ⟨some 12, none, .mov (.t 0), 0, 0, false, []⟩,
    ⟨some 13, none, .mov (.t 5), 0, 0, false, []⟩,
    ⟨some 14, none, .iaddr 2 (.t 12) (.t 13), 0, 0, false, []⟩,
    ⟨some 15, none, .load true 2 (.t 14), 0, 0, false, []⟩,
    ⟨some 16, none, .callv (.t 11) [.t 15] false, 0, 0, false, []⟩])
   (.cutTo [0, 1, 5, 7, 8, 16] (.cond (.t 16) (.seq (.seg false [⟨some 17, none, .mov (.t 5), 0, 0, false, []⟩,
    ⟨some 4, none, .mov (.t 17), 0, 0, false, []⟩])
   (.ret))
   (.skip))))))
   (.cutTo [0, 1, 7, 8] (.seg false [⟨some 18, none, .bin .add (.t 8) (.k (.int .i64 1)), 0, 0, false, []⟩,
    ⟨some 8, none, .mov (.t 18), 0, 0, false, []⟩]))))
def L156x0 : C := B156x0
theorem evL156x0 (run : Run) (draw : List I → Env → Heap → Option (Env × Heap)) (e : Env) (h : Heap) : evC run draw L156x0 e h = evC run draw B156x0 e h := rfl
/-- slices.IndexFunc<<>loop.example/tablehouse/impl.Column,loop.example/tablehouse/impl.Column> -/
def F156 : F := ⟨19, [(false, 4, 0, false)],
   .seq (.seg false [⟨some 4, none, .mov (.k (.int .i64 0)), 0, 0, false, []⟩])
   (.seq (.seq (.seg false [⟨some 6, none, .mov (.t 0), 0, 0, false, []⟩,
    ⟨some 7, none, .len false (.t 6), 0, 0, false, []⟩,
    ⟨some 8, none, .mov (.k (.int .i64 0)), 0, 0, false, []⟩])
   (.block 0 (.loop [0, 1, 7, 8] [4] L156x0)))
   (.seq (.seg false [⟨some 4, none, .mov (.k (.int .i64 (-1))), 0, 0, false, []⟩])
   (.ret)))⟩
def B157x0 : C := .seq (.seg false [⟨some 9, none, .bin .lss (.t 8) (.t 7), 0, 0, false, []⟩])
   (.seq (.cond (.t 9) (.skip)
   (.exit 0))
   (.seq (.block 1 (.seq (.seg false [⟨some 10, none, .mov (.t 8), 0, 0, false, []⟩,
    ⟨some 5, none, .mov (.t 10), 0, 0, false, []⟩])
   (.seq (.seg false [⟨some 11, none, .mov (.t 1), 0, 0, false, []⟩,
    ⟨some 12, none, .mov (.t 0), 0, 0, false, []⟩,
    ⟨some 13, none, .mov (.t 5), 0, 0, false, []⟩,
    ⟨some 14, none, .iaddr 3 (.t 12) (.t 13), 0, 0, false, []⟩,
    ⟨some 15, none, .load true 3 (.t 14), 0, 0, false, []⟩,
    ⟨some 16, none, .callv (.t 11) [.t 15] false, 0, 0, false, []⟩])
   (.cutTo [0, 1, 5, 7, 8, 16] (.cond (.t 16) (.seq (.seg false [⟨some 17, none, .mov (.t 5), 0, 0, false, []⟩,
    ⟨some 4, none, .mov (.t 17), 0, 0, false, []⟩])
   (.ret))
   (.skip))))))
   (.cutTo [0, 1, 7, 8] (.seg false [⟨some 18, none, .bin .add (.t 8) (.k (.int .i64 1)), 0, 0, false, []⟩,
    ⟨some 8, none, .mov (.t 18), 0, 0, false, []⟩]))))
def L157x0 : C := B157x0
theorem evL157x0 (run : Run) (draw : List I → Env → Heap → Option (Env × Heap)) (e : Env) (h : Heap) : evC run draw L157x0 e h = evC run draw B157x0 e h := rfl
/-- slices.IndexFunc<<>loop.example/tablehouse/impl.Value,loop.example/tablehouse/impl.Value> -/
def F157 : F := ⟨19, [(false, 4, 0, false)],
   .seq (.seg false [⟨some 4, none, .mov (.k (.int .i64 0)), 0, 0, false, []⟩])
   (.seq (.seq (.seg false [⟨some 6, none, .mov (.t 0), 0, 0, false, []⟩,
    ⟨some 7, none, .len false (.t 6), 0, 0, false, []⟩,
    ⟨some 8, none, .mov (.k (.int .i64 0)), 0, 0, false, []⟩])
   (.block 0 (.loop [0, 1, 7, 8] [4] L157x0)))
   (.seq (.seg false [⟨some 4, none, .mov (.k (.int .i64 (-1))), 0, 0, false, []⟩])
   (.ret)))⟩
def B158x0 : C := .seq (.seg false [⟨some 9, none, .bin .lss (.t 8) (.t 7), 0, 0, false, []⟩])
   (.seq (.cond (.t 9) (.skip)
   (.exit 0))
   (.seq (.block 1 (.seq (.seg false [⟨some 10, none, .iaddr 1 (.t 6) (.t 8), 0, 0, false, []⟩,
    ⟨some 11, none, .load false 1 (.t 10), 0, 0, false, []⟩,
    ⟨some 4, none, .mov (.t 11), 0, 0, false, []⟩])
   (.seq (.seg false [⟨some 12, none, .mov (.t 4), 0, 0, false, []⟩,
    ⟨some 13, none, .conv (.int .i64) (.t 12), 0, 0, false, []⟩,
    ⟨some 14, none, .call 68 [.t 13, .k (.int .i64 97), .k (.int .i64 122)] false false, 0, 0, false, []⟩,
    ⟨some 15, none, .un .not (.t 14), 0, 0, false, []⟩])
   (.cutTo [6, 7, 8, 15] (.cond (.t 15) (.seq (.seg false [⟨some 2, none, .mov (.k (.bool false)), 0, 0, false, []⟩])
   (.ret))
   (.skip))))))
   (.cutTo [6, 7, 8] (.seg false [⟨some 16, none, .bin .add (.t 8) (.k (.int .i64 1)), 0, 0, false, []⟩,
    ⟨some 8, none, .mov (.t 16), 0, 0, false, []⟩]))))
def L158x0 : C := B158x0
theorem evL158x0 (run : Run) (draw : List I → Env → Heap → Option (Env × Heap)) (e : Env) (h : Heap) : evC run draw L158x0 e h = evC run draw B158x0 e h := rfl
/-- loop.example/tablehouse/impl.letters -/
def F158 : F := ⟨17, [(false, 2, 0, false)],
   .seq (.seg false [⟨some 2, none, .mov (.k (.bool false)), 0, 0, false, []⟩])
   (.seq (.seq (.seg false [⟨some 5, none, .mov (.t 0), 0, 0, false, []⟩,
    ⟨some 6, none, .conv .toBytes (.t 5), 0, 0, false, []⟩,
    ⟨some 7, none, .len false (.t 6), 0, 0, false, []⟩,
    ⟨some 8, none, .mov (.k (.int .i64 0)), 0, 0, false, []⟩])
   (.cutTo [6, 7, 8] (.block 0 (.loop [6, 7, 8] [2] L158x0))))
   (.cutTo [] (.seq (.seg false [⟨some 2, none, .mov (.k (.bool true)), 0, 0, false, []⟩])
   (.ret))))⟩
/-- loop.example/tablehouse/impl.Compare -/
def F159 : F := ⟨71, [(false, 6, 0, false)],
   .seq (.seg false [⟨some 4, none, .box (.t 1), 0, 0, false, []⟩,
    ⟨some 5, none, .box (.t 2), 0, 0, false, []⟩,
    ⟨some 6, none, .mov (.k (.int .i64 0)), 0, 0, false, []⟩])
   (.seq (.block 0 (.seq (.seg false [⟨some 9, none, .mov (.t 0), 0, 0, false, []⟩,
    ⟨some 10, none, .call 68 [.t 9, .k (.int .i64 1), .k (.int .i64 4)] false false, 0, 0, false, []⟩,
    ⟨some 11, none, .un .not (.t 10), 0, 0, false, []⟩,
    ⟨some 12, none, .mov (.t 11), 0, 0, false, []⟩,
    ⟨some 13, some (12, false), .load true 3 (.t 4), 0, 0, false, []⟩,
    ⟨some 14, some (12, false), .call 128 [.t 13] false false, 0, 0, false, []⟩,
    ⟨some 15, some (12, false), .un .not (.t 14), 0, 0, false, []⟩,
    ⟨some 16, none, .pick (.t 12) (.k (.bool true)) (.t 15), 0, 0, false, []⟩,
    ⟨some 17, none, .mov (.t 16), 0, 0, false, []⟩,
    ⟨some 18, some (17, false), .load true 3 (.t 5), 0, 0, false, []⟩,
    ⟨some 19, some (17, false), .call 128 [.t 18] false false, 0, 0, false, []⟩,
    ⟨some 20, some (17, false), .un .not (.t 19), 0, 0, false, []⟩,
    ⟨some 21, none, .pick (.t 17) (.k (.bool true)) (.t 20), 0, 0, false, []⟩,
    ⟨some 8, none, .mov (.t 21), 0, 0, false, []⟩])
   (.cutTo [0, 4, 5, 8] (.cond (.t 8) (.seq (.seg false [⟨some 6, none, .mov (.k (.int .i64 (-1))), 0, 0, false, []⟩])
   (.ret))
   (.seq (.seg false [⟨some 23, none, .faddr 0 1 (.t 4), 0, 0, false, []⟩,
    ⟨some 24, none, .load false 1 (.t 23), 0, 0, false, []⟩,
    ⟨some 25, none, .bin .eql (.t 24) (.k (.int .i64 0)), 0, 0, false, []⟩,
    ⟨some 26, none, .mov (.t 25), 0, 0, false, []⟩,
    ⟨some 27, some (26, false), .faddr 0 1 (.t 5), 0, 0, false, []⟩,
    ⟨some 28, some (26, false), .load false 1 (.t 27), 0, 0, false, []⟩,
    ⟨some 29, some (26, false), .bin .eql (.t 28) (.k (.int .i64 0)), 0, 0, false, []⟩,
    ⟨some 30, none, .pick (.t 26) (.k (.bool true)) (.t 29), 0, 0, false, []⟩,
    ⟨some 22, none, .mov (.t 30), 0, 0, false, []⟩])
   (.cutTo [0, 4, 5, 22] (.cond (.t 22) (.seq (.seg false [⟨some 6, none, .mov (.k (.int .i64 2)), 0, 0, false, []⟩])
   (.ret))
   (.seq (.seg false [⟨some 32, none, .faddr 0 1 (.t 4), 0, 0, false, []⟩,
    ⟨some 33, none, .load false 1 (.t 32), 0, 0, false, []⟩,
    ⟨some 34, none, .faddr 0 1 (.t 5), 0, 0, false, []⟩,
    ⟨some 35, none, .load false 1 (.t 34), 0, 0, false, []⟩,
    ⟨some 36, none, .bin .neq (.t 33) (.t 35), 0, 0, false, []⟩,
    ⟨some 31, none, .mov (.t 36), 0, 0, false, []⟩])
   (.cutTo [0, 4, 5, 31] (.cond (.t 31) (.seq (.seg false [⟨some 6, none, .mov (.k (.int .i64 (-1))), 0, 0, false, []⟩])
   (.ret))
   (.skip)))))))))))
   (.cutTo [0, 4, 5] (.seq (.seg false [⟨some 37, none, .load true 3 (.t 4), 0, 0, false, []⟩,
    ⟨some 38, none, .load true 3 (.t 5), 0, 0, false, []⟩,
    ⟨some 39, none, .call 172 [.t 37, .t 38] false false, 0, 0, false, []⟩,
    ⟨some 7, none, .mov (.t 39), 0, 0, false, []⟩])
   (.cutTo [0, 7] (.seq (.seg false [⟨some 40, none, .mov (.t 0), 0, 0, false, []⟩,
    ⟨some 41, none, .bin .eql (.t 40) (.k (.int .i64 1)), 0, 0, false, []⟩,
    ⟨some 42, none, .mov (.t 41), 0, 0, false, []⟩,
    ⟨some 43, some (42, true), .mov (.t 7), 0, 0, false, []⟩,
    ⟨some 44, some (42, true), .bin .eql (.t 43) (.k (.int .i64 0)), 0, 0, false, []⟩,
    ⟨some 45, none, .pick (.t 42) (.t 44) (.k (.bool false)), 0, 0, false, []⟩,
    ⟨some 46, none, .mov (.t 45), 0, 0, false, []⟩,
    ⟨some 47, some (46, false), .mov (.t 0), 0, 0, false, []⟩,
    ⟨some 48, some (46, false), .bin .eql (.t 47) (.k (.int .i64 2)), 0, 0, false, []⟩,
    ⟨some 49, some (46, false), .mov (.t 48), 0, 0, false, []⟩,
    ⟨some 50, some (49, true), .mov (.t 7), 0, 0, false, []⟩,
    ⟨some 51, some (49, true), .bin .neq (.t 50) (.k (.int .i64 0)), 0, 0, false, []⟩,
    ⟨some 52, some (46, false), .pick (.t 49) (.t 51) (.k (.bool false)), 0, 0, false, []⟩,
    ⟨some 53, none, .pick (.t 46) (.k (.bool true)) (.t 52), 0, 0, false, []⟩,
    ⟨some 54, none, .mov (.t 53), 0, 0, false, []⟩,
    ⟨some 55, some (54, false), .mov (.t 0), 0, 0, false, []⟩,
    ⟨some 56, some (54, false), .bin .eql (.t 55) (.k (.int .i64 3)), 0, 0, false, []⟩,
    ⟨some 57, some (54, false), .mov (.t 56), 0, 0, false, []⟩,
    ⟨some 58, some (57, true), .mov (.t 7), 0, 0, false, []⟩,
    ⟨some 59, some (57, true), .bin .lss (.t 58) (.k (.int .i64 0)), 0, 0, false, []⟩,
    ⟨some 60, some (54, false), .pick (.t 57) (.t 59) (.k (.bool false)), 0, 0, false, []⟩,
    ⟨some 61, none, .pick (.t 54) (.k (.bool true)) (.t 60), 0, 0, false, []⟩,
    ⟨some 62, none, .mov (.t 61), 0, 0, false, []⟩,
    ⟨some 63, some (62, false), .mov (.t 0), 0, 0, false, []⟩,
    ⟨some 64, some (62, false), .bin .eql (.t 63) (.k (.int .i64 4)), 0, 0, false, []⟩,
    ⟨some 65, some (62, false), .mov (.t 64), 0, 0, false, []⟩,
    ⟨some 66, some (65, true), .mov (.t 7), 0, 0, false, []⟩,
    ⟨some 67, some (65, true), .bin .leq (.t 66) (.k (.int .i64 0)), 0, 0, false, []⟩,
    ⟨some 68, some (62, false), .pick (.t 65) (.t 67) (.k (.bool false)), 0, 0, false, []⟩,
    ⟨some 69, none, .pick (.t 62) (.k (.bool true)) (.t 68), 0, 0, false, []⟩,
    ⟨some 70, none, .call 164 [.t 69] false false, 0, 0, false, []⟩,
    ⟨some 6, none, .mov (.t 70), 0, 0, false, []⟩])
   (.cutTo [6] (.ret)))))))⟩
/-- loop.example/tablehouse/impl.TruthOf -/
def F161 : F := ⟨17, [(false, 2, 0, false)],
   .seq (.seg false [⟨some 1, none, .box (.t 0), 0, 0, false, []⟩,
    ⟨some 2, none, .mov (.k (.int .i64 0)), 0, 0, false, []⟩])
   (.seq (.block 0 (.seq (.seg false [⟨some 4, none, .load true 3 (.t 1), 0, 0, false, []⟩,
    ⟨some 5, none, .call 128 [.t 4] false false, 0, 0, false, []⟩,
    ⟨some 6, none, .un .not (.t 5), 0, 0, false, []⟩,
    ⟨some 3, none, .mov (.t 6), 0, 0, false, []⟩])
   (.cutTo [1, 3] (.cond (.t 3) (.seq (.seg false [⟨some 2, none, .mov (.k (.int .i64 (-1))), 0, 0, false, []⟩])
   (.ret))
   (.seq (.seg false [⟨some 8, none, .faddr 0 1 (.t 1), 0, 0, false, []⟩,
    ⟨some 9, none, .load false 1 (.t 8), 0, 0, false, []⟩,
    ⟨some 10, none, .bin .eql (.t 9) (.k (.int .i64 0)), 0, 0, false, []⟩,
    ⟨some 7, none, .mov (.t 10), 0, 0, false, []⟩])
   (.cutTo [1, 7] (.cond (.t 7) (.seq (.seg false [⟨some 2, none, .mov (.k (.int .i64 2)), 0, 0, false, []⟩])
   (.ret))
   (.seq (.seg false [⟨some 12, none, .faddr 0 1 (.t 1), 0, 0, false, []⟩,
    ⟨some 13, none, .load false 1 (.t 12), 0, 0, false, []⟩,
    ⟨some 14, none, .bin .eql (.t 13) (.k (.int .i64 3)), 0, 0, false, []⟩,
    ⟨some 11, none, .mov (.t 14), 0, 0, false, []⟩])
   (.cutTo [1, 11] (.cond (.t 11) (.seq (.seg false [⟨some 15, none, .faddr 1 1 (.t 1), 0, 0, false, []⟩,
    ⟨some 16, none, .load false 1 (.t 15), 0, 0, false, []⟩,
    ⟨some 2, none, .mov (.t 16), 0, 0, false, []⟩])
   (.ret))
   (.skip)))))))))))
   (.cutTo [] (.seq (.seg false [⟨some 2, none, .mov (.k (.int .i64 (-1))), 0, 0, false, []⟩])
   (.ret))))⟩
/-- loop.example/tablehouse/impl.AndOf -/
def F160 : F := ⟨8, [(false, 4, 0, false)],
   .seq (.seg false [⟨some 4, none, .mov (.k (.int .i64 0)), 0, 0, false, []⟩])
   (.seq (.seg false [⟨some 5, none, .mov (.t 0), 0, 0, false, []⟩,
    ⟨some 6, none, .mov (.t 1), 0, 0, false, []⟩,
    ⟨some 7, none, .call 173 [.t 5, .t 6, .k (.int .i64 0)] false false, 0, 0, false, []⟩,
    ⟨some 4, none, .mov (.t 7), 0, 0, false, []⟩])
   (.cutTo [4] (.ret)))⟩
/-- loop.example/tablehouse/impl.OrOf -/
def F162 : F := ⟨8, [(false, 4, 0, false)],
   .seq (.seg false [⟨some 4, none, .mov (.k (.int .i64 0)), 0, 0, false, []⟩])
   (.seq (.seg false [⟨some 5, none, .mov (.t 0), 0, 0, false, []⟩,
    ⟨some 6, none, .mov (.t 1), 0, 0, false, []⟩,
    ⟨some 7, none, .call 173 [.t 5, .t 6, .k (.int .i64 1)] false false, 0, 0, false, []⟩,
    ⟨some 4, none, .mov (.t 7), 0, 0, false, []⟩])
   (.cutTo [4] (.ret)))⟩
/-- loop.example/tablehouse/impl.NotOf -/
def F163 : F := ⟨10, [(false, 2, 0, false)],
   .seq (.seg false [⟨some 2, none, .mov (.k (.int .i64 0)), 0, 0, false, []⟩])
   (.seq (.seq (.seg false [⟨some 3, none, .mov (.t 0), 0, 0, false, []⟩])
   (.block 0 (.seq (.seg false [⟨some 5, none, .bin .eql (.t 3) (.k (.int .i64 0)), 0, 0, false, []⟩,
    ⟨some 4, none, .mov (.t 5), 0, 0, false, []⟩])
   (.cond (.t 4) (.seq (.seg false [⟨some 2, none, .mov (.k (.int .i64 1)), 0, 0, false, []⟩])
   (.ret))
   (.seq (.seg false [⟨some 7, none, .bin .eql (.t 3) (.k (.int .i64 1)), 0, 0, false, []⟩,
    ⟨some 6, none, .mov (.t 7), 0, 0, false, []⟩])
   (.cond (.t 6) (.seq (.seg false [⟨some 2, none, .mov (.k (.int .i64 0)), 0, 0, false, []⟩])
   (.ret))
   (.seq (.seg false [⟨some 9, none, .bin .eql (.t 3) (.k (.int .i64 2)), 0, 0, false, []⟩,
    ⟨some 8, none, .mov (.t 9), 0, 0, false, []⟩])
   (.cond (.t 8) (.seq (.seg false [⟨some 2, none, .mov (.k (.int .i64 2)), 0, 0, false, []⟩])
   (.ret))
   (.skip)))))))))
   (.cutTo [] (.seq (.seg false [⟨some 2, none, .mov (.k (.int .i64 (-1))), 0, 0, false, []⟩])
   (.ret))))⟩
/-- loop.example/tablehouse/impl.truthIf -/
def F164 : F := ⟨4, [(false, 2, 0, false)],
   .seq (.seg false [⟨some 2, none, .mov (.k (.int .i64 0)), 0, 0, false, []⟩])
   (.seq (.seq (.seg false [⟨some 3, none, .mov (.t 0), 0, 0, false, []⟩])
   (.cond (.t 3) (.seq (.seg false [⟨some 2, none, .mov (.k (.int .i64 1)), 0, 0, false, []⟩])
   (.ret))
   (.skip)))
   (.seq (.seg false [⟨some 2, none, .mov (.k (.int .i64 0)), 0, 0, false, []⟩])
   (.ret)))⟩
def E165x0 : List I := [⟨some 27, none, .mov (.t 1), 0, 0, false, []⟩,
    ⟨some 28, none, .mov (.t 5), 0, 0, false, []⟩,
    ⟨some 29, none, .iaddr 3 (.t 27) (.t 28), 0, 0, false, []⟩,
    ⟨some 30, none, .faddr 0 1 (.t 29), 0, 0, false, []⟩,
    ⟨some 31, none, .load false 1 (.t 30), 0, 0, false, []⟩,
    ⟨some 32, none, .mov (.t 0), 0, 0, false, []⟩,
    ⟨some 33, none, .mov (.t 5), 0, 0, false, []⟩,
    ⟨some 34, none, .iaddr 2 (.t 32) (.t 33), 0, 0, false, []⟩,
    ⟨some 35, none, .faddr 0 1 (.t 34), 0, 0, false, []⟩,
    ⟨some 36, none, .load false 1 (.t 35), 0, 0, false, []⟩,
    ⟨some 37, none, .bin .neq (.t 31) (.t 36), 0, 0, false, []⟩,
    ⟨some 38, none, .mov (.t 37), 0, 0, false, []⟩,
    ⟨some 39, some (38, true), .mov (.t 1), 0, 0, false, []⟩,
    ⟨some 40, some (38, true), .mov (.t 5), 0, 0, false, []⟩,
    ⟨some 41, some (38, true), .iaddr 3 (.t 39) (.t 40), 0, 0, false, []⟩,
    ⟨some 42, some (38, true), .faddr 0 1 (.t 41), 0, 0, false, []⟩,
    ⟨some 43, some (38, true), .load false 1 (.t 42), 0, 0, false, []⟩,
    ⟨some 44, some (38, true), .bin .neq (.t 43) (.k (.int .i64 0)), 0, 0, false, []⟩,
    ⟨some 45, some (38, true), .mov (.t 44), 0, 0, false, []⟩,
    ⟨some 46, some (45, false), .mov (.t 0), 0, 0, false, []⟩,
    ⟨some 47, some (45, false), .mov (.t 5), 0, 0, false, []⟩,
    ⟨some 48, some (45, false), .iaddr 2 (.t 46) (.t 47), 0, 0, false, []⟩,
    ⟨some 49, some (45, false), .faddr 1 1 (.t 48), 0, 0, false, []⟩,
    ⟨some 50, some (45, false), .load false 1 (.t 49), 0, 0, false, []⟩,
    ⟨some 51, some (45, false), .un .not (.t 50), 0, 0, false, []⟩,
    ⟨some 52, some (38, true), .pick (.t 45) (.k (.bool true)) (.t 51), 0, 0, false, []⟩,
    ⟨some 53, none, .pick (.t 38) (.t 52) (.k (.bool false)), 0, 0, false, []⟩]
def D165x0 : List I := E165x0
theorem evD165x0 (run : Run) (e : Env) (h : Heap) : drawI run D165x0 e h = DrawS (evQ run E165x0 e h) run E165x0 e h := drawI_quiet run _ (by rfl) e h
def B165x0 : C := .seq (.seq (.seg false [⟨some 21, none, .mov (.t 5), 0, 0, false, []⟩,
    ⟨some 22, none, .mov (.t 1), 0, 0, false, []⟩,
    ⟨some 23, none, .len false (.t 22), 0, 0, false, []⟩,
    ⟨some 24, none, .bin .lss (.t 21) (.t 23), 0, 0, false, []⟩])
   (.cutTo [0, 1, 5, 24] (.cond (.t 24) (.skip)
   (.exit 0))))
   (.cutTo [0, 1, 5] (.seq (.block 1 (.seq (.seg true D165x0)
   (.cutTo [0, 1, 5, 53] (.cond (.t 53) (.seq (.seg false [⟨some 4, none, .mov (.k (.bool false)), 0, 0, false, []⟩])
   (.ret))
   (.skip)))))
   (.cutTo [0, 1, 5] (.seg false [⟨some 25, none, .mov (.t 5), 0, 0, false, []⟩,
    ⟨some 26, none, .bin .add (.t 25) (.k (.int .i64 1)), 0, 0, false, []⟩,
    ⟨some 5, none, .mov (.t 26), 0, 0, false, []⟩]))))
def L165x0 : C := B165x0
theorem evL165x0 (run : Run) (draw : List I → Env → Heap → Option (Env × Heap)) (e : Env) (h : Heap) : evC run draw L165x0 e h = evC run draw B165x0 e h := rfl
/-- loop.example/tablehouse/spec.RowFits -/
def F165 : F := ⟨54, [(false, 4, 0, false)],
   .seq (.seg false [⟨some 4, none, .mov (.k (.bool false)), 0, 0, false, []⟩])
   (.seq (.seq (.seg false [⟨some 6, none, .mov (.t 0), 0, 0, false, []⟩,
    ⟨some 7, none, .call 96 [.t 6] false false, 0, 0, false, []⟩,
    ⟨some 8, none, .un .not (.t 7), 0, 0, false, []⟩,
    ⟨some 9, none, .mov (.t 8), 0, 0, false, []⟩,
    ⟨some 10, some (9, false), .mov (.t 1), 0, 0, false, []⟩,
    ⟨some 11, some (9, false), .call 174 [.t 10] false false, 0, 0, false, []⟩,
    ⟨some 12, some (9, false), .un .not (.t 11), 0, 0, false, []⟩,
    ⟨some 13, none, .pick (.t 9) (.k (.bool true)) (.t 12), 0, 0, false, []⟩,
    ⟨some 14, none, .mov (.t 13), 0, 0, false, []⟩,
    ⟨some 15, some (14, false), .mov (.t 1), 0, 0, false, []⟩,
    ⟨some 16, some (14, false), .len false (.t 15), 0, 0, false, []⟩,
    ⟨some 17, some (14, false), .mov (.t 0), 0, 0, false, []⟩,
    ⟨some 18, some (14, false), .len false (.t 17), 0, 0, false, []⟩,
    ⟨some 19, some (14, false), .bin .neq (.t 16) (.t 18), 0, 0, false, []⟩,
    ⟨some 20, none, .pick (.t 14) (.k (.bool true)) (.t 19), 0, 0, false, []⟩])
   (.cutTo [0, 1, 20] (.cond (.t 20) (.seq (.seg false [⟨some 4, none, .mov (.k (.bool false)), 0, 0, false, []⟩])
   (.ret))
   (.skip))))
   (.cutTo [0, 1] (.seq (.seq (.seg false [⟨some 5, none, .mov (.k (.int .i64 0)), 0, 0, false, []⟩])
   (.block 0 (.loop [0, 1, 5] [4] L165x0)))
   (.seq (.seg false [⟨some 4, none, .mov (.k (.bool true)), 0, 0, false, []⟩])
   (.ret)))))⟩
/-- (loop.example/tablehouse/impl.Part).kind$1$1 -/
def F142 : F := ⟨7, [(false, 3, 0, false)],
   .seq (.seg false [⟨some 3, none, .mov (.k (.bool false)), 0, 0, false, []⟩])
   (.seq (.seg false [⟨some 4, none, .mov (.t 0), 0, 0, false, []⟩,
    ⟨some 5, none, .load false 1 (.t 1), 0, 0, false, []⟩,
    ⟨some 6, none, .bin .neq (.t 4) (.t 5), 0, 0, false, []⟩,
    ⟨some 3, none, .mov (.t 6), 0, 0, false, []⟩])
   (.cutTo [3] (.ret)))⟩
def B166x0 : C := .seq (.seq (.seg false [⟨some 4, none, .mov (.t 3), 0, 0, false, []⟩,
    ⟨some 5, none, .mov (.t 0), 0, 0, false, []⟩,
    ⟨some 6, none, .len true (.t 5), 0, 0, false, []⟩,
    ⟨some 7, none, .bin .lss (.t 4) (.t 6), 0, 0, false, []⟩])
   (.cutTo [0, 3, 7] (.cond (.t 7) (.skip)
   (.exit 0))))
   (.cutTo [0, 3] (.seq (.block 1 (.seq (.seg false [⟨some 10, none, .mov (.t 0), 0, 0, false, []⟩,
    ⟨some 11, none, .mov (.t 3), 0, 0, false, []⟩,
    ⟨some 12, none, .idx (.t 10) (.t 11), 0, 0, false, []⟩,
    ⟨some 13, none, .bin .lss (.t 12) (.k (.int .u8 97)), 0, 0, false, []⟩,
    ⟨some 14, none, .mov (.t 13), 0, 0, false, []⟩,
    ⟨some 15, some (14, false), .mov (.t 0), 0, 0, false, []⟩,
    ⟨some 16, some (14, false), .mov (.t 3), 0, 0, false, []⟩,
    ⟨some 17, some (14, false), .idx (.t 15) (.t 16), 0, 0, false, []⟩,
    ⟨some 18, some (14, false), .bin .gtr (.t 17) (.k (.int .u8 122)), 0, 0, false, []⟩,
    ⟨some 19, none, .pick (.t 14) (.k (.bool true)) (.t 18), 0, 0, false, []⟩])
   (.cutTo [0, 3, 19] (.cond (.t 19) (.seq (.seg false [⟨some 2, none, .mov (.k (.bool false)), 0, 0, false, []⟩])
   (.ret))
   (.skip)))))
   (.cutTo [0, 3] (.seg false [⟨some 8, none, .mov (.t 3), 0, 0, false, []⟩,
    ⟨some 9, none, .bin .add (.t 8) (.k (.int .i64 1)), 0, 0, false, []⟩,
    ⟨some 3, none, .mov (.t 9), 0, 0, false, []⟩]))))
def L166x0 : C := B166x0
theorem evL166x0 (run : Run) (draw : List I → Env → Heap → Option (Env × Heap)) (e : Env) (h : Heap) : evC run draw L166x0 e h = evC run draw B166x0 e h := rfl
/-- loop.example/tablehouse/spec.l1Text -/
def F166 : F := ⟨23, [(false, 2, 0, false)],
   .seq (.seg false [⟨some 2, none, .mov (.k (.bool false)), 0, 0, false, []⟩])
   (.seq (.seq (.seg false [⟨some 3, none, .mov (.k (.int .i64 0)), 0, 0, false, []⟩])
   (.block 0 (.loop [0, 3] [0, 2] L166x0)))
   (.seq (.seg false [⟨some 20, none, .mov (.t 0), 0, 0, false, []⟩,
    ⟨some 21, none, .len true (.t 20), 0, 0, false, []⟩,
    ⟨some 22, none, .bin .leq (.t 21) (.k (.int .i64 6)), 0, 0, false, []⟩,
    ⟨some 2, none, .mov (.t 22), 0, 0, false, []⟩])
   (.cutTo [2] (.ret))))⟩
/-- loop.example/tablehouse/impl.InTruth$1 -/
def F145 : F := ⟨19, [(false, 3, 0, false)],
   .seq (.seg false [⟨some 2, none, .box (.t 0), 0, 0, false, []⟩,
    ⟨some 3, none, .mov (.k (.bool false)), 0, 0, false, []⟩])
   (.seq (.seg false [⟨some 4, none, .load true 3 (.t 2), 0, 0, false, []⟩,
    ⟨some 5, none, .call 128 [.t 4] false false, 0, 0, false, []⟩,
    ⟨some 6, none, .un .not (.t 5), 0, 0, false, []⟩,
    ⟨some 7, none, .mov (.t 6), 0, 0, false, []⟩,
    ⟨some 8, some (7, false), .faddr 0 1 (.t 2), 0, 0, false, []⟩,
    ⟨some 9, some (7, false), .load false 1 (.t 8), 0, 0, false, []⟩,
    ⟨some 10, some (7, false), .faddr 0 1 (.t 1), 0, 0, false, []⟩,
    ⟨some 11, some (7, false), .load false 1 (.t 10), 0, 0, false, []⟩,
    ⟨some 12, some (7, false), .bin .neq (.t 9) (.t 11), 0, 0, false, []⟩,
    ⟨some 13, some (7, false), .mov (.t 12), 0, 0, false, []⟩,
    ⟨some 14, some (13, true), .faddr 0 1 (.t 2), 0, 0, false, []⟩,
    ⟨some 15, some (13, true), .load false 1 (.t 14), 0, 0, false, []⟩,
    ⟨some 16, some (13, true), .bin .neq (.t 15) (.k (.int .i64 0)), 0, 0, false, []⟩,
    ⟨some 17, some (7, false), .pick (.t 13) (.t 16) (.k (.bool false)), 0, 0, false, []⟩,
    ⟨some 18, none, .pick (.t 7) (.k (.bool true)) (.t 17), 0, 0, false, []⟩,
    ⟨some 3, none, .mov (.t 18), 0, 0, false, []⟩])
   (.cutTo [3] (.ret)))⟩
/-- slices.Contains<<>loop.example/tablehouse/impl.Value,loop.example/tablehouse/impl.Value> -/
def F146 : F := ⟨9, [(false, 4, 0, false)],
   .seq (.seg false [⟨some 3, none, .box (.t 1), 0, 0, false, []⟩,
    ⟨some 4, none, .mov (.k (.bool false)), 0, 0, false, []⟩])
   (.seq (.seg false [⟨some 5, none, .mov (.t 0), 0, 0, false, []⟩,
    ⟨some 6, none, .load true 3 (.t 3), 0, 0, false, []⟩,
    ⟨some 7, none, .call 167 [.t 5, .t 6] false false, 0, 0, false, []⟩,
    ⟨some 8, none, .bin .geq (.t 7) (.k (.int .i64 0)), 0, 0, false, []⟩,
    ⟨some 4, none, .mov (.t 8), 0, 0, false, []⟩])
   (.cutTo [4] (.ret)))⟩
/-- loop.example/tablehouse/spec.ValueOrder -/
def F169 : F := ⟨44, [(false, 4, 0, false)],
   .seq (.seg false [⟨some 2, none, .box (.t 0), 0, 0, false, []⟩,
    ⟨some 3, none, .box (.t 1), 0, 0, false, []⟩,
    ⟨some 4, none, .mov (.k (.int .i64 0)), 0, 0, false, []⟩])
   (.seq (.seq (.seg false [⟨some 5, none, .load true 3 (.t 2), 0, 0, false, []⟩,
    ⟨some 6, none, .call 143 [.t 5] false false, 0, 0, false, []⟩,
    ⟨some 7, none, .un .not (.t 6), 0, 0, false, []⟩,
    ⟨some 8, none, .mov (.t 7), 0, 0, false, []⟩,
    ⟨some 9, some (8, false), .load true 3 (.t 3), 0, 0, false, []⟩,
    ⟨some 10, some (8, false), .call 143 [.t 9] false false, 0, 0, false, []⟩,
    ⟨some 11, some (8, false), .un .not (.t 10), 0, 0, false, []⟩,
    ⟨some 12, none, .pick (.t 8) (.k (.bool true)) (.t 11), 0, 0, false, []⟩])
   (.cutTo [2, 3, 12] (.cond (.t 12) (.seq (.seg false [⟨some 4, none, .mov (.k (.int .i64 0)), 0, 0, false, []⟩])
   (.ret))
   (.skip))))
   (.cutTo [2, 3] (.seq (.block 0 (.seq (.seg false [⟨some 14, none, .faddr 0 1 (.t 2), 0, 0, false, []⟩,
    ⟨some 15, none, .load false 1 (.t 14), 0, 0, false, []⟩,
    ⟨some 16, none, .faddr 0 1 (.t 3), 0, 0, false, []⟩,
    ⟨some 17, none, .load false 1 (.t 16), 0, 0, false, []⟩,
    ⟨some 18, none, .bin .neq (.t 15) (.t 17), 0, 0, false, []⟩,
    ⟨some 13, none, .mov (.t 18), 0, 0, false, []⟩])
   (.cutTo [2, 3, 13] (.cond (.t 13) (.seq (.seg false [⟨some 19, none, .faddr 0 1 (.t 3), 0, 0, false, []⟩,
    ⟨some 20, none, .load false 1 (.t 19), 0, 0, false, []⟩,
    ⟨some 21, none, .faddr 0 1 (.t 2), 0, 0, false, []⟩,
    ⟨some 22, none, .load false 1 (.t 21), 0, 0, false, []⟩,
    ⟨some 23, none, .call 175 [.t 20, .t 22] false false, 0, 0, false, []⟩,
    ⟨some 24, none, .bin .mul (.k (.int .i64 2)) (.t 23), 0, 0, false, []⟩,
    ⟨some 25, none, .bin .sub (.t 24) (.k (.int .i64 1)), 0, 0, false, []⟩,
    ⟨some 4, none, .mov (.t 25), 0, 0, false, []⟩])
   (.cutTo [4] (.ret)))
   (.seq (.seg false [⟨some 27, none, .faddr 1 1 (.t 2), 0, 0, false, []⟩,
    ⟨some 28, none, .load false 1 (.t 27), 0, 0, false, []⟩,
    ⟨some 29, none, .faddr 1 1 (.t 3), 0, 0, false, []⟩,
    ⟨some 30, none, .load false 1 (.t 29), 0, 0, false, []⟩,
    ⟨some 31, none, .bin .neq (.t 28) (.t 30), 0, 0, false, []⟩,
    ⟨some 26, none, .mov (.t 31), 0, 0, false, []⟩])
   (.cutTo [2, 3, 26] (.cond (.t 26) (.seq (.seg false [⟨some 32, none, .faddr 1 1 (.t 3), 0, 0, false, []⟩,
    ⟨some 33, none, .load false 1 (.t 32), 0, 0, false, []⟩,
    ⟨some 34, none, .faddr 1 1 (.t 2), 0, 0, false, []⟩,
    ⟨some 35, none, .load false 1 (.t 34), 0, 0, false, []⟩,
    ⟨some 36, none, .call 175 [.t 33, .t 35] false false, 0, 0, false, []⟩,
    ⟨some 37, none, .bin .mul (.k (.int .i64 2)) (.t 36), 0, 0, false, []⟩,
    ⟨some 38, none, .bin .sub (.t 37) (.k (.int .i64 1)), 0, 0, false, []⟩,
    ⟨some 4, none, .mov (.t 38), 0, 0, false, []⟩])
   (.cutTo [4] (.ret)))
   (.skip))))))))
   (.cutTo [2, 3] (.seq (.seg false [⟨some 39, none, .faddr 2 1 (.t 2), 0, 0, false, []⟩,
    ⟨some 40, none, .load false 1 (.t 39), 0, 0, false, []⟩,
    ⟨some 41, none, .faddr 2 1 (.t 3), 0, 0, false, []⟩,
    ⟨some 42, none, .load false 1 (.t 41), 0, 0, false, []⟩,
    ⟨some 43, none, .call 176 [.t 40, .t 42] false false, 0, 0, false, []⟩,
    ⟨some 4, none, .mov (.t 43), 0, 0, false, []⟩])
   (.cutTo [4] (.ret)))))))⟩
/-- loop.example/tablehouse/spec.l2Bool -/
def F168 : F := ⟨4, [(false, 2, 0, false)],
   .seq (.seg false [⟨some 2, none, .mov (.k (.int .i64 0)), 0, 0, false, []⟩])
   (.seq (.seq (.seg false [⟨some 3, none, .mov (.t 0), 0, 0, false, []⟩])
   (.cond (.t 3) (.seq (.seg false [⟨some 2, none, .mov (.k (.int .i64 1)), 0, 0, false, []⟩])
   (.ret))
   (.skip)))
   (.seq (.seg false [⟨some 2, none, .mov (.k (.int .i64 0)), 0, 0, false, []⟩])
   (.ret)))⟩
def E170x0 : List I := [⟨some 17, none, .mov (.t 0), 0, 0, false, []⟩,
    ⟨some 18, none, .mov (.t 5), 0, 0, false, []⟩,
    ⟨some 19, none, .iaddr 3 (.t 17) (.t 18), 0, 0, false, []⟩,
    ⟨some 20, none, .load true 3 (.t 19), 0, 0, false, []⟩,
    ⟨some 21, none, .mov (.t 1), 0, 0, false, []⟩,
    ⟨some 22, none, .mov (.t 5), 0, 0, false, []⟩,
    ⟨some 23, none, .iaddr 3 (.t 21) (.t 22), 0, 0, false, []⟩,
    ⟨some 24, none, .load true 3 (.t 23), 0, 0, false, []⟩,
    ⟨some 25, none, .eqs true [.int, .int, .str] (.t 20) (.t 24), 0, 0, false, []⟩]
def D170x0 : List I := E170x0
theorem evD170x0 (run : Run) (e : Env) (h : Heap) : drawI run D170x0 e h = DrawS (evQ run E170x0 e h) run E170x0 e h := drawI_quiet run _ (by rfl) e h
def B170x0 : C := .seq (.seq (.seg false [⟨some 11, none, .mov (.t 5), 0, 0, false, []⟩,
    ⟨some 12, none, .mov (.t 0), 0, 0, false, []⟩,
    ⟨some 13, none, .len false (.t 12), 0, 0, false, []⟩,
    ⟨some 14, none, .bin .lss (.t 11) (.t 13), 0, 0, false, []⟩])
   (.cutTo [0, 1, 5, 14] (.cond (.t 14) (.skip)
   (.exit 0))))
   (.cutTo [0, 1, 5] (.seq (.block 1 (.seq (.seg true D170x0)
   (.cutTo [0, 1, 5, 25] (.cond (.t 25) (.seq (.seg false [⟨some 4, none, .mov (.k (.bool false)), 0, 0, false, []⟩])
   (.ret))
   (.skip)))))
   (.cutTo [0, 1, 5] (.seg false [⟨some 15, none, .mov (.t 5), 0, 0, false, []⟩,
    ⟨some 16, none, .bin .add (.t 15) (.k (.int .i64 1)), 0, 0, false, []⟩,
    ⟨some 5, none, .mov (.t 16), 0, 0, false, []⟩]))))
def L170x0 : C := B170x0
theorem evL170x0 (run : Run) (draw : List I → Env → Heap → Option (Env × Heap)) (e : Env) (h : Heap) : evC run draw L170x0 e h = evC run draw B170x0 e h := rfl
/-- loop.example/tablehouse/spec.l3Same -/
def F170 : F := ⟨26, [(false, 4, 0, false)],
   .seq (.seg false [⟨some 4, none, .mov (.k (.bool false)), 0, 0, false, []⟩])
   (.seq (.seq (.seg false [⟨some 6, none, .mov (.t 0), 0, 0, false, []⟩,
    ⟨some 7, none, .len false (.t 6), 0, 0, false, []⟩,
    ⟨some 8, none, .mov (.t 1), 0, 0, false, []⟩,
    ⟨some 9, none, .len false (.t 8), 0, 0, false, []⟩,
    ⟨some 10, none, .bin .neq (.t 7) (.t 9), 0, 0, false, []⟩])
   (.cutTo [0, 1, 10] (.cond (.t 10) (.seq (.seg false [⟨some 4, none, .mov (.k (.bool false)), 0, 0, false, []⟩])
   (.ret))
   (.skip))))
   (.cutTo [0, 1] (.seq (.seq (.seg false [⟨some 5, none, .mov (.k (.int .i64 0)), 0, 0, false, []⟩])
   (.block 0 (.loop [0, 1, 5] [4] L170x0)))
   (.seq (.seg false [⟨some 4, none, .mov (.k (.bool true)), 0, 0, false, []⟩])
   (.ret)))))⟩
/-- slices.Clip<<>loop.example/tablehouse/impl.Value,loop.example/tablehouse/impl.Value> -/
def F171 : F := ⟨9, [(false, 2, 0, false)],
   .seq (.seg false [⟨some 2, none, .mov (.k (.sl true 3 [])), 0, 0, false, []⟩])
   (.seq (.seg false [⟨some 3, none, .mov (.t 0), 0, 0, false, []⟩,
    ⟨some 4, none, .mov (.t 0), 0, 0, false, []⟩,
    ⟨some 5, none, .len false (.t 4), 0, 0, false, []⟩,
    ⟨some 6, none, .mov (.t 0), 0, 0, false, []⟩,
    ⟨some 7, none, .len false (.t 6), 0, 0, false, []⟩,
    ⟨some 8, none, .slc false 3 (.t 3) none (some (.t 5)) (some (.t 7)), 0, 0, false, []⟩,
    ⟨some 2, none, .mov (.t 8), 0, 0, false, []⟩])
   (.cutTo [2] (.ret)))⟩
def E172x0 : List I := [⟨some 5, none, .faddr 0 1 (.t 2), 0, 0, false, []⟩,
    ⟨some 6, none, .load false 1 (.t 5), 0, 0, false, []⟩,
    ⟨some 7, none, .faddr 0 1 (.t 3), 0, 0, false, []⟩,
    ⟨some 8, none, .load false 1 (.t 7), 0, 0, false, []⟩,
    ⟨some 9, none, .call 178 [.t 6, .t 8] false false, 0, 0, false, []⟩,
    ⟨some 10, none, .faddr 1 1 (.t 2), 0, 0, false, []⟩,
    ⟨some 11, none, .load false 1 (.t 10), 0, 0, false, []⟩,
    ⟨some 12, none, .faddr 1 1 (.t 3), 0, 0, false, []⟩,
    ⟨some 13, none, .load false 1 (.t 12), 0, 0, false, []⟩,
    ⟨some 14, none, .call 178 [.t 11, .t 13] false false, 0, 0, false, []⟩,
    ⟨some 15, none, .faddr 2 1 (.t 2), 0, 0, false, []⟩,
    ⟨some 16, none, .load false 1 (.t 15), 0, 0, false, []⟩,
    ⟨some 17, none, .faddr 2 1 (.t 3), 0, 0, false, []⟩,
    ⟨some 18, none, .load false 1 (.t 17), 0, 0, false, []⟩,
    ⟨some 19, none, .call 179 [.t 16, .t 18] false false, 0, 0, false, []⟩,
    ⟨some 20, none, .mksl false 1 [.t 9, .t 14, .t 19], 0, 0, false, []⟩,
    ⟨some 21, none, .call 177 [.t 20] false false, 0, 0, false, []⟩,
    ⟨some 4, none, .mov (.t 21), 0, 0, false, []⟩]
def D172x0 : List I := E172x0
theorem evD172x0 (run : Run) (e : Env) (h : Heap) : drawI run D172x0 e h = DrawS (evQ run E172x0 e h) run E172x0 e h := drawI_quiet run _ (by rfl) e h
/-- (loop.example/tablehouse/impl.Value).order -/
def F172 : F := ⟨22, [(false, 4, 0, false)],
   .seq (.seg false [⟨some 2, none, .box (.t 0), 0, 0, false, []⟩,
    ⟨some 3, none, .box (.t 1), 0, 0, false, []⟩,
    ⟨some 4, none, .mov (.k (.int .i64 0)), 0, 0, false, []⟩])
   (.seq (.seg true D172x0)
   (.cutTo [4] (.ret)))⟩
/-- loop.example/tablehouse/impl.fold -/
def F173 : F := ⟨35, [(false, 6, 0, false)],
   .seq (.seg false [⟨some 6, none, .mov (.k (.int .i64 0)), 0, 0, false, []⟩])
   (.seq (.block 0 (.seq (.seg false [⟨some 8, none, .mov (.t 0), 0, 0, false, []⟩,
    ⟨some 9, none, .call 180 [.t 8] false false, 0, 0, false, []⟩,
    ⟨some 10, none, .un .not (.t 9), 0, 0, false, []⟩,
    ⟨some 11, none, .mov (.t 10), 0, 0, false, []⟩,
    ⟨some 12, some (11, false), .mov (.t 1), 0, 0, false, []⟩,
    ⟨some 13, some (11, false), .call 180 [.t 12] false false, 0, 0, false, []⟩,
    ⟨some 14, some (11, false), .un .not (.t 13), 0, 0, false, []⟩,
    ⟨some 15, none, .pick (.t 11) (.k (.bool true)) (.t 14), 0, 0, false, []⟩,
    ⟨some 7, none, .mov (.t 15), 0, 0, false, []⟩])
   (.cutTo [0, 1, 2, 7] (.cond (.t 7) (.seq (.seg false [⟨some 6, none, .mov (.k (.int .i64 (-1))), 0, 0, false, []⟩])
   (.ret))
   (.seq (.seg false [⟨some 17, none, .mov (.t 0), 0, 0, false, []⟩,
    ⟨some 18, none, .mov (.t 2), 0, 0, false, []⟩,
    ⟨some 19, none, .bin .eql (.t 17) (.t 18), 0, 0, false, []⟩,
    ⟨some 20, none, .mov (.t 19), 0, 0, false, []⟩,
    ⟨some 21, some (20, false), .mov (.t 1), 0, 0, false, []⟩,
    ⟨some 22, some (20, false), .mov (.t 2), 0, 0, false, []⟩,
    ⟨some 23, some (20, false), .bin .eql (.t 21) (.t 22), 0, 0, false, []⟩,
    ⟨some 24, none, .pick (.t 20) (.k (.bool true)) (.t 23), 0, 0, false, []⟩,
    ⟨some 16, none, .mov (.t 24), 0, 0, false, []⟩])
   (.cutTo [0, 1, 2, 16] (.cond (.t 16) (.seq (.seg false [⟨some 25, none, .mov (.t 2), 0, 0, false, []⟩,
    ⟨some 6, none, .mov (.t 25), 0, 0, false, []⟩])
   (.ret))
   (.seq (.seg false [⟨some 27, none, .mov (.t 0), 0, 0, false, []⟩,
    ⟨some 28, none, .bin .eql (.t 27) (.k (.int .i64 2)), 0, 0, false, []⟩,
    ⟨some 29, none, .mov (.t 28), 0, 0, false, []⟩,
    ⟨some 30, some (29, false), .mov (.t 1), 0, 0, false, []⟩,
    ⟨some 31, some (29, false), .bin .eql (.t 30) (.k (.int .i64 2)), 0, 0, false, []⟩,
    ⟨some 32, none, .pick (.t 29) (.k (.bool true)) (.t 31), 0, 0, false, []⟩,
    ⟨some 26, none, .mov (.t 32), 0, 0, false, []⟩])
   (.cutTo [2, 26] (.cond (.t 26) (.seq (.seg false [⟨some 6, none, .mov (.k (.int .i64 2)), 0, 0, false, []⟩])
   (.ret))
   (.skip)))))))))))
   (.cutTo [2] (.seq (.seg false [⟨some 33, none, .mov (.t 2), 0, 0, false, []⟩,
    ⟨some 34, none, .bin .sub (.k (.int .i64 1)) (.t 33), 0, 0, false, []⟩,
    ⟨some 6, none, .mov (.t 34), 0, 0, false, []⟩])
   (.ret))))⟩
def B174x0 : C := .seq (.seq (.seg false [⟨some 4, none, .mov (.t 3), 0, 0, false, []⟩,
    ⟨some 5, none, .mov (.t 0), 0, 0, false, []⟩,
    ⟨some 6, none, .len false (.t 5), 0, 0, false, []⟩,
    ⟨some 7, none, .bin .lss (.t 4) (.t 6), 0, 0, false, []⟩])
   (.cutTo [0, 3, 7] (.cond (.t 7) (.skip)
   (.exit 0))))
   (.cutTo [0, 3] (.seq (.block 1 (.seq (.seg false [⟨some 10, none, .mov (.t 0), 0, 0, false, []⟩,
    ⟨some 11, none, .mov (.t 3), 0, 0, false, []⟩,
    ⟨some 12, none, .iaddr 3 (.t 10) (.t 11), 0, 0, false, []⟩,
    ⟨some 13, none, .load true 3 (.t 12), 0, 0, false, []⟩,
    ⟨some 14, none, .call 143 [.t 13] false false, 0, 0, false, []⟩,
    ⟨some 15, none, .un .not (.t 14), 0, 0, false, []⟩])
   (.cutTo [0, 3, 15] (.cond (.t 15) (.seq (.seg false [⟨some 2, none, .mov (.k (.bool false)), 0, 0, false, []⟩])
   (.ret))
   (.skip)))))
   (.cutTo [0, 3] (.seg false [⟨some 8, none, .mov (.t 3), 0, 0, false, []⟩,
    ⟨some 9, none, .bin .add (.t 8) (.k (.int .i64 1)), 0, 0, false, []⟩,
    ⟨some 3, none, .mov (.t 9), 0, 0, false, []⟩]))))
def L174x0 : C := B174x0
theorem evL174x0 (run : Run) (draw : List I → Env → Heap → Option (Env × Heap)) (e : Env) (h : Heap) : evC run draw L174x0 e h = evC run draw B174x0 e h := rfl
/-- loop.example/tablehouse/spec.RowOk -/
def F174 : F := ⟨19, [(false, 2, 0, false)],
   .seq (.seg false [⟨some 2, none, .mov (.k (.bool false)), 0, 0, false, []⟩])
   (.seq (.seq (.seg false [⟨some 3, none, .mov (.k (.int .i64 0)), 0, 0, false, []⟩])
   (.block 0 (.loop [0, 3] [0, 2] L174x0)))
   (.seq (.seg false [⟨some 16, none, .mov (.t 0), 0, 0, false, []⟩,
    ⟨some 17, none, .len false (.t 16), 0, 0, false, []⟩,
    ⟨some 18, none, .bin .leq (.t 17) (.k (.int .i64 4)), 0, 0, false, []⟩,
    ⟨some 2, none, .mov (.t 18), 0, 0, false, []⟩])
   (.cutTo [2] (.ret))))⟩
def E167x0 : List I := [⟨some 11, none, .load true 3 (.t 3), 0, 0, false, []⟩,
    ⟨some 12, none, .mov (.t 0), 0, 0, false, []⟩,
    ⟨some 13, none, .mov (.t 5), 0, 0, false, []⟩,
    ⟨some 14, none, .iaddr 3 (.t 12) (.t 13), 0, 0, false, []⟩,
    ⟨some 15, none, .load true 3 (.t 14), 0, 0, false, []⟩,
    ⟨some 16, none, .eqs false [.int, .int, .str] (.t 11) (.t 15), 0, 0, false, []⟩]
def D167x0 : List I := E167x0
theorem evD167x0 (run : Run) (e : Env) (h : Heap) : drawI run D167x0 e h = DrawS (evQ run E167x0 e h) run E167x0 e h := drawI_quiet run _ (by rfl) e h
def B167x0 : C := .seq (.seg false [⟨some 9, none, .bin .lss (.t 8) (.t 7), 0, 0, false, []⟩])
   (.seq (.cond (.t 9) (.skip)
   (.exit 0))
   (.seq (.block 1 (.seq (.seg false [⟨some 10, none, .mov (.t 8), 0, 0, false, []⟩,
    ⟨some 5, none, .mov (.t 10), 0, 0, false, []⟩])
   (.seq (.seg true D167x0)
   (.cutTo [0, 3, 5, 7, 8, 16] (.cond (.t 16) (.seq (.seg false [⟨some 17, none, .mov (.t 5), 0, 0, false, []⟩,
    ⟨some 4, none, .mov (.t 17), 0, 0, false, []⟩])
   (.ret))
   (.skip))))))
   (.cutTo [0, 3, 7, 8] (.seg false [⟨some 18, none, .bin .add (.t 8) (.k (.int .i64 1)), 0, 0, false, []⟩,
    ⟨some 8, none, .mov (.t 18), 0, 0, false, []⟩]))))
def L167x0 : C := B167x0
theorem evL167x0 (run : Run) (draw : List I → Env → Heap → Option (Env × Heap)) (e : Env) (h : Heap) : evC run draw L167x0 e h = evC run draw B167x0 e h := rfl
/-- slices.Index<<>loop.example/tablehouse/impl.Value,loop.example/tablehouse/impl.Value> -/
def F167 : F := ⟨19, [(false, 4, 0, false)],
   .seq (.seg false [⟨some 3, none, .box (.t 1), 0, 0, false, []⟩,
    ⟨some 4, none, .mov (.k (.int .i64 0)), 0, 0, false, []⟩])
   (.seq (.seq (.seg false [⟨some 6, none, .mov (.t 0), 0, 0, false, []⟩,
    ⟨some 7, none, .len false (.t 6), 0, 0, false, []⟩,
    ⟨some 8, none, .mov (.k (.int .i64 0)), 0, 0, false, []⟩])
   (.block 0 (.loop [0, 3, 7, 8] [4] L167x0)))
   (.seq (.seg false [⟨some 4, none, .mov (.k (.int .i64 (-1))), 0, 0, false, []⟩])
   (.ret)))⟩
/-- loop.example/tablehouse/spec.l1Less -/
def F175 : F := ⟨8, [(false, 4, 0, false)],
   .seq (.seg false [⟨some 4, none, .mov (.k (.int .i64 0)), 0, 0, false, []⟩])
   (.seq (.seq (.seg false [⟨some 5, none, .mov (.t 0), 0, 0, false, []⟩,
    ⟨some 6, none, .mov (.t 1), 0, 0, false, []⟩,
    ⟨some 7, none, .bin .lss (.t 5) (.t 6), 0, 0, false, []⟩])
   (.cond (.t 7) (.seq (.seg false [⟨some 4, none, .mov (.k (.int .i64 1)), 0, 0, false, []⟩])
   (.ret))
   (.skip)))
   (.cutTo [] (.seq (.seg false [⟨some 4, none, .mov (.k (.int .i64 0)), 0, 0, false, []⟩])
   (.ret))))⟩
/-- loop.example/tablehouse/spec.l1Cmp -/
def F176 : F := ⟨11, [(false, 4, 0, false)],
   .seq (.seg false [⟨some 4, none, .mov (.k (.int .i64 0)), 0, 0, false, []⟩])
   (.seq (.seq (.seg false [⟨some 5, none, .mov (.t 0), 0, 0, false, []⟩,
    ⟨some 6, none, .mov (.t 1), 0, 0, false, []⟩,
    ⟨some 7, none, .bin .lss (.t 5) (.t 6), 0, 0, false, []⟩])
   (.cond (.t 7) (.seq (.seg false [⟨some 4, none, .mov (.k (.int .i64 (-1))), 0, 0, false, []⟩])
   (.ret))
   (.skip)))
   (.cutTo [0, 1] (.seq (.seq (.seg false [⟨some 8, none, .mov (.t 0), 0, 0, false, []⟩,
    ⟨some 9, none, .mov (.t 1), 0, 0, false, []⟩,
    ⟨some 10, none, .bin .gtr (.t 8) (.t 9), 0, 0, false, []⟩])
   (.cond (.t 10) (.seq (.seg false [⟨some 4, none, .mov (.k (.int .i64 1)), 0, 0, false, []⟩])
   (.ret))
   (.skip)))
   (.cutTo [] (.seq (.seg false [⟨some 4, none, .mov (.k (.int .i64 0)), 0, 0, false, []⟩])
   (.ret))))))⟩
/-- cmp.Compare<int> -/
def F178 : F := ⟨20, [(false, 4, 0, false)],
   .seq (.seg false [⟨some 4, none, .mov (.k (.int .i64 0)), 0, 0, false, []⟩])
   (.seq (.seg false [⟨some 7, none, .mov (.t 0), 0, 0, false, []⟩,
    ⟨some 8, none, .call 181 [.t 7] false false, 0, 0, false, []⟩,
    ⟨some 5, none, .mov (.t 8), 0, 0, false, []⟩])
   (.seq (.seg false [⟨some 9, none, .mov (.t 1), 0, 0, false, []⟩,
    ⟨some 10, none, .call 181 [.t 9] false false, 0, 0, false, []⟩,
    ⟨some 6, none, .mov (.t 10), 0, 0, false, []⟩])
   (.seq (.seq (.seg false [⟨some 11, none, .mov (.t 5), 0, 0, false, []⟩])
   (.cond (.t 11) (.seq (.seq (.seg false [⟨some 12, none, .mov (.t 6), 0, 0, false, []⟩])
   (.cond (.t 12) (.seq (.seg false [⟨some 4, none, .mov (.k (.int .i64 0)), 0, 0, false, []⟩])
   (.ret))
   (.skip)))
   (.seq (.seg false [⟨some 4, none, .mov (.k (.int .i64 (-1))), 0, 0, false, []⟩])
   (.ret)))
   (.skip)))
   (.cutTo [0, 1, 6] (.seq (.seq (.seg false [⟨some 13, none, .mov (.t 6), 0, 0, false, []⟩])
   (.cond (.t 13) (.seq (.seg false [⟨some 4, none, .mov (.k (.int .i64 1)), 0, 0, false, []⟩])
   (.ret))
   (.skip)))
   (.seq (.seq (.seg false [⟨some 14, none, .mov (.t 0), 0, 0, false, []⟩,
    ⟨some 15, none, .mov (.t 1), 0, 0, false, []⟩,
    ⟨some 16, none, .bin .lss (.t 14) (.t 15), 0, 0, false, []⟩])
   (.cond (.t 16) (.seq (.seg false [⟨some 4, none, .mov (.k (.int .i64 (-1))), 0, 0, false, []⟩])
   (.ret))
   (.skip)))
   (.cutTo [0, 1] (.seq (.seq (.seg false [⟨some 17, none, .mov (.t 0), 0, 0, false, []⟩,
    ⟨some 18, none, .mov (.t 1), 0, 0, false, []⟩,
    ⟨some 19, none, .bin .gtr (.t 17) (.t 18), 0, 0, false, []⟩])
   (.cond (.t 19) (.seq (.seg false [⟨some 4, none, .mov (.k (.int .i64 1)), 0, 0, false, []⟩])
   (.ret))
   (.skip)))
   (.cutTo [] (.seq (.seg false [⟨some 4, none, .mov (.k (.int .i64 0)), 0, 0, false, []⟩])
   (.ret)))))))))))⟩
/-- cmp.Compare<string> -/
def F179 : F := ⟨20, [(false, 4, 0, false)],
   .seq (.seg false [⟨some 4, none, .mov (.k (.int .i64 0)), 0, 0, false, []⟩])
   (.seq (.seg false [⟨some 7, none, .mov (.t 0), 0, 0, false, []⟩,
    ⟨some 8, none, .call 182 [.t 7] false false, 0, 0, false, []⟩,
    ⟨some 5, none, .mov (.t 8), 0, 0, false, []⟩])
   (.seq (.seg false [⟨some 9, none, .mov (.t 1), 0, 0, false, []⟩,
    ⟨some 10, none, .call 182 [.t 9] false false, 0, 0, false, []⟩,
    ⟨some 6, none, .mov (.t 10), 0, 0, false, []⟩])
   (.seq (.seq (.seg false [⟨some 11, none, .mov (.t 5), 0, 0, false, []⟩])
   (.cond (.t 11) (.seq (.seq (.seg false [⟨some 12, none, .mov (.t 6), 0, 0, false, []⟩])
   (.cond (.t 12) (.seq (.seg false [⟨some 4, none, .mov (.k (.int .i64 0)), 0, 0, false, []⟩])
   (.ret))
   (.skip)))
   (.seq (.seg false [⟨some 4, none, .mov (.k (.int .i64 (-1))), 0, 0, false, []⟩])
   (.ret)))
   (.skip)))
   (.cutTo [0, 1, 6] (.seq (.seq (.seg false [⟨some 13, none, .mov (.t 6), 0, 0, false, []⟩])
   (.cond (.t 13) (.seq (.seg false [⟨some 4, none, .mov (.k (.int .i64 1)), 0, 0, false, []⟩])
   (.ret))
   (.skip)))
   (.seq (.seq (.seg false [⟨some 14, none, .mov (.t 0), 0, 0, false, []⟩,
    ⟨some 15, none, .mov (.t 1), 0, 0, false, []⟩,
    ⟨some 16, none, .bin .lss (.t 14) (.t 15), 0, 0, false, []⟩])
   (.cond (.t 16) (.seq (.seg false [⟨some 4, none, .mov (.k (.int .i64 (-1))), 0, 0, false, []⟩])
   (.ret))
   (.skip)))
   (.cutTo [0, 1] (.seq (.seq (.seg false [⟨some 17, none, .mov (.t 0), 0, 0, false, []⟩,
    ⟨some 18, none, .mov (.t 1), 0, 0, false, []⟩,
    ⟨some 19, none, .bin .gtr (.t 17) (.t 18), 0, 0, false, []⟩])
   (.cond (.t 19) (.seq (.seg false [⟨some 4, none, .mov (.k (.int .i64 1)), 0, 0, false, []⟩])
   (.ret))
   (.skip)))
   (.cutTo [] (.seq (.seg false [⟨some 4, none, .mov (.k (.int .i64 0)), 0, 0, false, []⟩])
   (.ret)))))))))))⟩
def B177x0 : C := .seq (.seg false [⟨some 9, none, .bin .lss (.t 8) (.t 7), 0, 0, false, []⟩])
   (.seq (.cond (.t 9) (.skip)
   (.exit 0))
   (.seq (.block 1 (.seq (.seg false [⟨some 10, none, .iaddr 1 (.t 6) (.t 8), 0, 0, false, []⟩,
    ⟨some 11, none, .load false 1 (.t 10), 0, 0, false, []⟩,
    ⟨some 5, none, .mov (.t 11), 0, 0, false, []⟩])
   (.seq (.seg false [⟨some 12, none, .mov (.t 5), 0, 0, false, []⟩,
    ⟨some 13, none, .mov (.t 3), 0, 0, false, []⟩,
    ⟨some 14, none, .bin .neq (.t 12) (.t 13), 0, 0, false, []⟩])
   (.cond (.t 14) (.seq (.seg false [⟨some 15, none, .mov (.t 5), 0, 0, false, []⟩,
    ⟨some 2, none, .mov (.t 15), 0, 0, false, []⟩])
   (.ret))
   (.skip)))))
   (.cutTo [3, 6, 7, 8] (.seg false [⟨some 16, none, .bin .add (.t 8) (.k (.int .i64 1)), 0, 0, false, []⟩,
    ⟨some 8, none, .mov (.t 16), 0, 0, false, []⟩]))))
def L177x0 : C := B177x0
theorem evL177x0 (run : Run) (draw : List I → Env → Heap → Option (Env × Heap)) (e : Env) (h : Heap) : evC run draw L177x0 e h = evC run draw B177x0 e h := rfl
/-- cmp.Or<int> -/
def F177 : F := ⟨18, [(false, 2, 0, false)],
   .seq (.seg false [⟨some 2, none, .mov (.k (.int .i64 0)), 0, 0, false, []⟩])
   (.seq (.seg false [⟨some 3, none, .mov (.k (.int .i64 0)), 0, 0, false, []⟩])
   (.seq (.seq (.seg false [⟨some 6, none, .mov (.t 0), 0, 0, false, []⟩,
    ⟨some 7, none, .len false (.t 6), 0, 0, false, []⟩,
    ⟨some 8, none, .mov (.k (.int .i64 0)), 0, 0, false, []⟩])
   (.block 0 (.loop [3, 6, 7, 8] [2, 3] L177x0)))
   (.seq (.seg false [⟨some 17, none, .mov (.t 3), 0, 0, false, []⟩,
    ⟨some 2, none, .mov (.t 17), 0, 0, false, []⟩])
   (.ret))))⟩
/-- loop.example/tablehouse/impl.TruthOk -/
def F180 : F := ⟨5, [(false, 2, 0, false)],
   .seq (.seg false [⟨some 2, none, .mov (.k (.bool false)), 0, 0, false, []⟩])
   (.seq (.seg false [⟨some 3, none, .mov (.t 0), 0, 0, false, []⟩,
    ⟨some 4, none, .call 68 [.t 3, .k (.int .i64 0), .k (.int .i64 2)] false false, 0, 0, false, []⟩,
    ⟨some 2, none, .mov (.t 4), 0, 0, false, []⟩])
   (.ret))⟩
/-- cmp.isNaN<int> -/
def F181 : F := ⟨6, [(false, 2, 0, false)],
   .seq (.seg false [⟨some 2, none, .mov (.k (.bool false)), 0, 0, false, []⟩])
   (.seq (.seg false [⟨some 3, none, .mov (.t 0), 0, 0, false, []⟩,
    ⟨some 4, none, .mov (.t 0), 0, 0, false, []⟩,
    ⟨some 5, none, .bin .neq (.t 3) (.t 4), 0, 0, false, []⟩,
    ⟨some 2, none, .mov (.t 5), 0, 0, false, []⟩])
   (.cutTo [2] (.ret)))⟩
/-- cmp.isNaN<string> -/
def F182 : F := ⟨6, [(false, 2, 0, false)],
   .seq (.seg false [⟨some 2, none, .mov (.k (.bool false)), 0, 0, false, []⟩])
   (.seq (.seg false [⟨some 3, none, .mov (.t 0), 0, 0, false, []⟩,
    ⟨some 4, none, .mov (.t 0), 0, 0, false, []⟩,
    ⟨some 5, none, .bin .neq (.t 3) (.t 4), 0, 0, false, []⟩,
    ⟨some 2, none, .mov (.t 5), 0, 0, false, []⟩])
   (.cutTo [2] (.ret)))⟩
theorem chk3 : chkF Try.prog 3 F3 = true := by kernel_rfl
theorem chk5 : chkF Try.prog 5 F5 = true := by kernel_rfl
theorem chk6 : chkF Try.prog 6 F6 = true := by kernel_rfl
theorem chk7 : chkF Try.prog 7 F7 = true := by kernel_rfl
theorem chk8 : chkF Try.prog 8 F8 = true := by kernel_rfl
theorem chk9 : chkF Try.prog 9 F9 = true := by kernel_rfl
theorem chk10 : chkF Try.prog 10 F10 = true := by kernel_rfl
theorem chk11 : chkF Try.prog 11 F11 = true := by kernel_rfl
theorem chk14 : chkF Try.prog 14 F14 = true := by kernel_rfl
theorem chk15 : chkF Try.prog 15 F15 = true := by kernel_rfl
theorem chk16 : chkF Try.prog 16 F16 = true := by kernel_rfl
theorem chk18 : chkF Try.prog 18 F18 = true := by kernel_rfl
theorem chk17 : chkF Try.prog 17 F17 = true := by kernel_rfl
theorem chk19 : chkF Try.prog 19 F19 = true := by kernel_rfl
theorem chk20 : chkF Try.prog 20 F20 = true := by kernel_rfl
theorem chk21 : chkF Try.prog 21 F21 = true := by kernel_rfl
theorem chk34 : chkF Try.prog 34 F34 = true := by kernel_rfl
theorem chk35 : chkF Try.prog 35 F35 = true := by kernel_rfl
theorem chk36 : chkF Try.prog 36 F36 = true := by kernel_rfl
theorem chk37 : chkF Try.prog 37 F37 = true := by kernel_rfl
theorem chk38 : chkF Try.prog 38 F38 = true := by kernel_rfl
theorem chk39 : chkF Try.prog 39 F39 = true := by kernel_rfl
theorem chk40 : chkF Try.prog 40 F40 = true := by kernel_rfl
theorem chk41 : chkF Try.prog 41 F41 = true := by kernel_rfl
theorem chk42 : chkF Try.prog 42 F42 = true := by kernel_rfl
theorem chk43 : chkF Try.prog 43 F43 = true := by kernel_rfl
theorem chk44 : chkF Try.prog 44 F44 = true := by kernel_rfl
theorem chk45 : chkF Try.prog 45 F45 = true := by kernel_rfl
theorem chk46 : chkF Try.prog 46 F46 = true := by kernel_rfl
theorem chk47 : chkF Try.prog 47 F47 = true := by kernel_rfl
theorem chk48 : chkF Try.prog 48 F48 = true := by kernel_rfl
theorem chk50 : chkF Try.prog 50 F50 = true := by kernel_rfl
theorem chk49 : chkF Try.prog 49 F49 = true := by kernel_rfl
theorem chk51 : chkF Try.prog 51 F51 = true := by kernel_rfl
theorem chk52 : chkF Try.prog 52 F52 = true := by kernel_rfl
theorem chk53 : chkF Try.prog 53 F53 = true := by kernel_rfl
theorem chk60 : chkF Try.prog 60 F60 = true := by kernel_rfl
theorem chk55 : chkF Try.prog 55 F55 = true := by kernel_rfl
theorem chk62 : chkF Try.prog 62 F62 = true := by kernel_rfl
theorem chk61 : chkF Try.prog 61 F61 = true := by kernel_rfl
theorem chk63 : chkF Try.prog 63 F63 = true := by kernel_rfl
theorem chk64 : chkF Try.prog 64 F64 = true := by kernel_rfl
theorem chk65 : chkF Try.prog 65 F65 = true := by kernel_rfl
theorem chk66 : chkF Try.prog 66 F66 = true := by kernel_rfl
theorem chk67 : chkF Try.prog 67 F67 = true := by kernel_rfl
theorem chk69 : chkF Try.prog 69 F69 = true := by kernel_rfl
theorem chk70 : chkF Try.prog 70 F70 = true := by kernel_rfl
theorem chk71 : chkF Try.prog 71 F71 = true := by kernel_rfl
theorem chk72 : chkF Try.prog 72 F72 = true := by kernel_rfl
theorem chk73 : chkF Try.prog 73 F73 = true := by kernel_rfl
theorem chk74 : chkF Try.prog 74 F74 = true := by kernel_rfl
theorem chk81 : chkF Try.prog 81 F81 = true := by kernel_rfl
theorem chk82 : chkF Try.prog 82 F82 = true := by kernel_rfl
theorem chk68 : chkF Try.prog 68 F68 = true := by kernel_rfl
theorem chk83 : chkF Try.prog 83 F83 = true := by kernel_rfl
theorem chk84 : chkF Try.prog 84 F84 = true := by kernel_rfl
theorem chk85 : chkF Try.prog 85 F85 = true := by kernel_rfl
theorem chk87 : chkF Try.prog 87 F87 = true := by kernel_rfl
theorem chk86 : chkF Try.prog 86 F86 = true := by kernel_rfl
theorem chk88 : chkF Try.prog 88 F88 = true := by kernel_rfl
theorem chk89 : chkF Try.prog 89 F89 = true := by kernel_rfl
theorem chk90 : chkF Try.prog 90 F90 = true := by kernel_rfl
theorem chk91 : chkF Try.prog 91 F91 = true := by kernel_rfl
theorem chk92 : chkF Try.prog 92 F92 = true := by kernel_rfl
theorem chk93 : chkF Try.prog 93 F93 = true := by kernel_rfl
theorem chk94 : chkF Try.prog 94 F94 = true := by kernel_rfl
theorem chk95 : chkF Try.prog 95 F95 = true := by kernel_rfl
theorem chk96 : chkF Try.prog 96 F96 = true := by kernel_rfl
theorem chk97 : chkF Try.prog 97 F97 = true := by kernel_rfl
theorem chk98 : chkF Try.prog 98 F98 = true := by kernel_rfl
theorem chk99 : chkF Try.prog 99 F99 = true := by kernel_rfl
theorem chk101 : chkF Try.prog 101 F101 = true := by kernel_rfl
theorem chk100 : chkF Try.prog 100 F100 = true := by kernel_rfl
theorem chk105 : chkF Try.prog 105 F105 = true := by kernel_rfl
theorem chk108 : chkF Try.prog 108 F108 = true := by kernel_rfl
theorem chk107 : chkF Try.prog 107 F107 = true := by kernel_rfl
theorem chk106 : chkF Try.prog 106 F106 = true := by kernel_rfl
theorem chk109 : chkF Try.prog 109 F109 = true := by kernel_rfl
theorem chk104 : chkF Try.prog 104 F104 = true := by kernel_rfl
theorem chk111 : chkF Try.prog 111 F111 = true := by kernel_rfl
theorem chk110 : chkF Try.prog 110 F110 = true := by kernel_rfl
theorem chk112 : chkF Try.prog 112 F112 = true := by kernel_rfl
theorem chk113 : chkF Try.prog 113 F113 = true := by kernel_rfl
theorem chk119 : chkF Try.prog 119 F119 = true := by kernel_rfl
theorem chk120 : chkF Try.prog 120 F120 = true := by kernel_rfl
theorem chk121 : chkF Try.prog 121 F121 = true := by kernel_rfl
theorem chk122 : chkF Try.prog 122 F122 = true := by kernel_rfl
theorem chk123 : chkF Try.prog 123 F123 = true := by kernel_rfl
theorem chk124 : chkF Try.prog 124 F124 = true := by kernel_rfl
theorem chk125 : chkF Try.prog 125 F125 = true := by kernel_rfl
theorem chk126 : chkF Try.prog 126 F126 = true := by kernel_rfl
theorem chk127 : chkF Try.prog 127 F127 = true := by kernel_rfl
theorem chk128 : chkF Try.prog 128 F128 = true := by kernel_rfl
theorem chk129 : chkF Try.prog 129 F129 = true := by kernel_rfl
theorem chk133 : chkF Try.prog 133 F133 = true := by kernel_rfl
theorem chk134 : chkF Try.prog 134 F134 = true := by kernel_rfl
theorem chk135 : chkF Try.prog 135 F135 = true := by kernel_rfl
theorem chk136 : chkF Try.prog 136 F136 = true := by kernel_rfl
theorem chk137 : chkF Try.prog 137 F137 = true := by kernel_rfl
theorem chk138 : chkF Try.prog 138 F138 = true := by kernel_rfl
theorem chk139 : chkF Try.prog 139 F139 = true := by kernel_rfl
theorem chk140 : chkF Try.prog 140 F140 = true := by kernel_rfl
theorem chk141 : chkF Try.prog 141 F141 = true := by kernel_rfl
theorem chk143 : chkF Try.prog 143 F143 = true := by kernel_rfl
theorem chk144 : chkF Try.prog 144 F144 = true := by kernel_rfl
theorem chk103 : chkF Try.prog 103 F103 = true := by kernel_rfl
theorem chk102 : chkF Try.prog 102 F102 = true := by kernel_rfl
theorem chk150 : chkF Try.prog 150 F150 = true := by kernel_rfl
theorem chk149 : chkF Try.prog 149 F149 = true := by kernel_rfl
theorem chk147 : chkF Try.prog 147 F147 = true := by kernel_rfl
theorem chk148 : chkF Try.prog 148 F148 = true := by kernel_rfl
theorem chk151 : chkF Try.prog 151 F151 = true := by kernel_rfl
theorem chk152 : chkF Try.prog 152 F152 = true := by kernel_rfl
theorem chk153 : chkF Try.prog 153 F153 = true := by kernel_rfl
theorem chk154 : chkF Try.prog 154 F154 = true := by kernel_rfl
theorem chk155 : chkF Try.prog 155 F155 = true := by kernel_rfl
theorem chk156 : chkF Try.prog 156 F156 = true := by kernel_rfl
theorem chk157 : chkF Try.prog 157 F157 = true := by kernel_rfl
theorem chk158 : chkF Try.prog 158 F158 = true := by kernel_rfl
theorem chk159 : chkF Try.prog 159 F159 = true := by kernel_rfl
theorem chk161 : chkF Try.prog 161 F161 = true := by kernel_rfl
theorem chk160 : chkF Try.prog 160 F160 = true := by kernel_rfl
theorem chk162 : chkF Try.prog 162 F162 = true := by kernel_rfl
theorem chk163 : chkF Try.prog 163 F163 = true := by kernel_rfl
theorem chk164 : chkF Try.prog 164 F164 = true := by kernel_rfl
theorem chk165 : chkF Try.prog 165 F165 = true := by kernel_rfl
theorem chk142 : chkF Try.prog 142 F142 = true := by kernel_rfl
theorem chk166 : chkF Try.prog 166 F166 = true := by kernel_rfl
theorem chk145 : chkF Try.prog 145 F145 = true := by kernel_rfl
theorem chk146 : chkF Try.prog 146 F146 = true := by kernel_rfl
theorem chk169 : chkF Try.prog 169 F169 = true := by kernel_rfl
theorem chk168 : chkF Try.prog 168 F168 = true := by kernel_rfl
theorem chk170 : chkF Try.prog 170 F170 = true := by kernel_rfl
theorem chk171 : chkF Try.prog 171 F171 = true := by kernel_rfl
theorem chk172 : chkF Try.prog 172 F172 = true := by kernel_rfl
theorem chk173 : chkF Try.prog 173 F173 = true := by kernel_rfl
theorem chk174 : chkF Try.prog 174 F174 = true := by kernel_rfl
theorem chk167 : chkF Try.prog 167 F167 = true := by kernel_rfl
theorem chk175 : chkF Try.prog 175 F175 = true := by kernel_rfl
theorem chk176 : chkF Try.prog 176 F176 = true := by kernel_rfl
theorem chk178 : chkF Try.prog 178 F178 = true := by kernel_rfl
theorem chk179 : chkF Try.prog 179 F179 = true := by kernel_rfl
theorem chk177 : chkF Try.prog 177 F177 = true := by kernel_rfl
theorem chk180 : chkF Try.prog 180 F180 = true := by kernel_rfl
theorem chk181 : chkF Try.prog 181 F181 = true := by kernel_rfl
theorem chk182 : chkF Try.prog 182 F182 = true := by kernel_rfl
def tab : Tab := [(3, F3), (5, F5), (6, F6), (7, F7), (8, F8), (9, F9), (10, F10), (11, F11), (14, F14), (15, F15), (16, F16), (18, F18), (17, F17), (19, F19), (20, F20), (21, F21), (34, F34), (35, F35), (36, F36), (37, F37), (38, F38), (39, F39), (40, F40), (41, F41), (42, F42), (43, F43), (44, F44), (45, F45), (46, F46), (47, F47), (48, F48), (50, F50), (49, F49), (51, F51), (52, F52), (53, F53), (60, F60), (55, F55), (62, F62), (61, F61), (63, F63), (64, F64), (65, F65), (66, F66), (67, F67), (69, F69), (70, F70), (71, F71), (72, F72), (73, F73), (74, F74), (81, F81), (82, F82), (68, F68), (83, F83), (84, F84), (85, F85), (87, F87), (86, F86), (88, F88), (89, F89), (90, F90), (91, F91), (92, F92), (93, F93), (94, F94), (95, F95), (96, F96), (97, F97), (98, F98), (99, F99), (101, F101), (100, F100), (105, F105), (108, F108), (107, F107), (106, F106), (109, F109), (104, F104), (111, F111), (110, F110), (112, F112), (113, F113), (119, F119), (120, F120), (121, F121), (122, F122), (123, F123), (124, F124), (125, F125), (126, F126), (127, F127), (128, F128), (129, F129), (133, F133), (134, F134), (135, F135), (136, F136), (137, F137), (138, F138), (139, F139), (140, F140), (141, F141), (143, F143), (144, F144), (103, F103), (102, F102), (150, F150), (149, F149), (147, F147), (148, F148), (151, F151), (152, F152), (153, F153), (154, F154), (155, F155), (156, F156), (157, F157), (158, F158), (159, F159), (161, F161), (160, F160), (162, F162), (163, F163), (164, F164), (165, F165), (142, F142), (166, F166), (145, F145), (146, F146), (169, F169), (168, F168), (170, F170), (171, F171), (172, F172), (173, F173), (174, F174), (167, F167), (175, F175), (176, F176), (178, F178), (179, F179), (177, F177), (180, F180), (181, F181), (182, F182)]
theorem find3 : tab.find 3 = some F3 := rfl
theorem find5 : tab.find 5 = some F5 := rfl
theorem find6 : tab.find 6 = some F6 := rfl
theorem find7 : tab.find 7 = some F7 := rfl
theorem find8 : tab.find 8 = some F8 := rfl
theorem find9 : tab.find 9 = some F9 := rfl
theorem find10 : tab.find 10 = some F10 := rfl
theorem find11 : tab.find 11 = some F11 := rfl
theorem find14 : tab.find 14 = some F14 := rfl
theorem find15 : tab.find 15 = some F15 := rfl
theorem find16 : tab.find 16 = some F16 := rfl
theorem find18 : tab.find 18 = some F18 := rfl
theorem find17 : tab.find 17 = some F17 := rfl
theorem find19 : tab.find 19 = some F19 := rfl
theorem find20 : tab.find 20 = some F20 := rfl
theorem find21 : tab.find 21 = some F21 := rfl
theorem find34 : tab.find 34 = some F34 := rfl
theorem find35 : tab.find 35 = some F35 := rfl
theorem find36 : tab.find 36 = some F36 := rfl
theorem find37 : tab.find 37 = some F37 := rfl
theorem find38 : tab.find 38 = some F38 := rfl
theorem find39 : tab.find 39 = some F39 := rfl
theorem find40 : tab.find 40 = some F40 := rfl
theorem find41 : tab.find 41 = some F41 := rfl
theorem find42 : tab.find 42 = some F42 := rfl
theorem find43 : tab.find 43 = some F43 := rfl
theorem find44 : tab.find 44 = some F44 := rfl
theorem find45 : tab.find 45 = some F45 := rfl
theorem find46 : tab.find 46 = some F46 := rfl
theorem find47 : tab.find 47 = some F47 := rfl
theorem find48 : tab.find 48 = some F48 := rfl
theorem find50 : tab.find 50 = some F50 := rfl
theorem find49 : tab.find 49 = some F49 := rfl
theorem find51 : tab.find 51 = some F51 := rfl
theorem find52 : tab.find 52 = some F52 := rfl
theorem find53 : tab.find 53 = some F53 := rfl
theorem find60 : tab.find 60 = some F60 := rfl
theorem find55 : tab.find 55 = some F55 := rfl
theorem find62 : tab.find 62 = some F62 := rfl
theorem find61 : tab.find 61 = some F61 := rfl
theorem find63 : tab.find 63 = some F63 := rfl
theorem find64 : tab.find 64 = some F64 := rfl
theorem find65 : tab.find 65 = some F65 := rfl
theorem find66 : tab.find 66 = some F66 := rfl
theorem find67 : tab.find 67 = some F67 := rfl
theorem find69 : tab.find 69 = some F69 := rfl
theorem find70 : tab.find 70 = some F70 := rfl
theorem find71 : tab.find 71 = some F71 := rfl
theorem find72 : tab.find 72 = some F72 := rfl
theorem find73 : tab.find 73 = some F73 := rfl
theorem find74 : tab.find 74 = some F74 := rfl
theorem find81 : tab.find 81 = some F81 := rfl
theorem find82 : tab.find 82 = some F82 := rfl
theorem find68 : tab.find 68 = some F68 := rfl
theorem find83 : tab.find 83 = some F83 := rfl
theorem find84 : tab.find 84 = some F84 := rfl
theorem find85 : tab.find 85 = some F85 := rfl
theorem find87 : tab.find 87 = some F87 := rfl
theorem find86 : tab.find 86 = some F86 := rfl
theorem find88 : tab.find 88 = some F88 := rfl
theorem find89 : tab.find 89 = some F89 := rfl
theorem find90 : tab.find 90 = some F90 := rfl
theorem find91 : tab.find 91 = some F91 := rfl
theorem find92 : tab.find 92 = some F92 := rfl
theorem find93 : tab.find 93 = some F93 := rfl
theorem find94 : tab.find 94 = some F94 := rfl
theorem find95 : tab.find 95 = some F95 := rfl
theorem find96 : tab.find 96 = some F96 := rfl
theorem find97 : tab.find 97 = some F97 := rfl
theorem find98 : tab.find 98 = some F98 := rfl
theorem find99 : tab.find 99 = some F99 := rfl
theorem find101 : tab.find 101 = some F101 := rfl
theorem find100 : tab.find 100 = some F100 := rfl
theorem find105 : tab.find 105 = some F105 := rfl
theorem find108 : tab.find 108 = some F108 := rfl
theorem find107 : tab.find 107 = some F107 := rfl
theorem find106 : tab.find 106 = some F106 := rfl
theorem find109 : tab.find 109 = some F109 := rfl
theorem find104 : tab.find 104 = some F104 := rfl
theorem find111 : tab.find 111 = some F111 := rfl
theorem find110 : tab.find 110 = some F110 := rfl
theorem find112 : tab.find 112 = some F112 := rfl
theorem find113 : tab.find 113 = some F113 := rfl
theorem find119 : tab.find 119 = some F119 := rfl
theorem find120 : tab.find 120 = some F120 := rfl
theorem find121 : tab.find 121 = some F121 := rfl
theorem find122 : tab.find 122 = some F122 := rfl
theorem find123 : tab.find 123 = some F123 := rfl
theorem find124 : tab.find 124 = some F124 := rfl
theorem find125 : tab.find 125 = some F125 := rfl
theorem find126 : tab.find 126 = some F126 := rfl
theorem find127 : tab.find 127 = some F127 := rfl
theorem find128 : tab.find 128 = some F128 := rfl
theorem find129 : tab.find 129 = some F129 := rfl
theorem find133 : tab.find 133 = some F133 := rfl
theorem find134 : tab.find 134 = some F134 := rfl
theorem find135 : tab.find 135 = some F135 := rfl
theorem find136 : tab.find 136 = some F136 := rfl
theorem find137 : tab.find 137 = some F137 := rfl
theorem find138 : tab.find 138 = some F138 := rfl
theorem find139 : tab.find 139 = some F139 := rfl
theorem find140 : tab.find 140 = some F140 := rfl
theorem find141 : tab.find 141 = some F141 := rfl
theorem find143 : tab.find 143 = some F143 := rfl
theorem find144 : tab.find 144 = some F144 := rfl
theorem find103 : tab.find 103 = some F103 := rfl
theorem find102 : tab.find 102 = some F102 := rfl
theorem find150 : tab.find 150 = some F150 := rfl
theorem find149 : tab.find 149 = some F149 := rfl
theorem find147 : tab.find 147 = some F147 := rfl
theorem find148 : tab.find 148 = some F148 := rfl
theorem find151 : tab.find 151 = some F151 := rfl
theorem find152 : tab.find 152 = some F152 := rfl
theorem find153 : tab.find 153 = some F153 := rfl
theorem find154 : tab.find 154 = some F154 := rfl
theorem find155 : tab.find 155 = some F155 := rfl
theorem find156 : tab.find 156 = some F156 := rfl
theorem find157 : tab.find 157 = some F157 := rfl
theorem find158 : tab.find 158 = some F158 := rfl
theorem find159 : tab.find 159 = some F159 := rfl
theorem find161 : tab.find 161 = some F161 := rfl
theorem find160 : tab.find 160 = some F160 := rfl
theorem find162 : tab.find 162 = some F162 := rfl
theorem find163 : tab.find 163 = some F163 := rfl
theorem find164 : tab.find 164 = some F164 := rfl
theorem find165 : tab.find 165 = some F165 := rfl
theorem find142 : tab.find 142 = some F142 := rfl
theorem find166 : tab.find 166 = some F166 := rfl
theorem find145 : tab.find 145 = some F145 := rfl
theorem find146 : tab.find 146 = some F146 := rfl
theorem find169 : tab.find 169 = some F169 := rfl
theorem find168 : tab.find 168 = some F168 := rfl
theorem find170 : tab.find 170 = some F170 := rfl
theorem find171 : tab.find 171 = some F171 := rfl
theorem find172 : tab.find 172 = some F172 := rfl
theorem find173 : tab.find 173 = some F173 := rfl
theorem find174 : tab.find 174 = some F174 := rfl
theorem find167 : tab.find 167 = some F167 := rfl
theorem find175 : tab.find 175 = some F175 := rfl
theorem find176 : tab.find 176 = some F176 := rfl
theorem find178 : tab.find 178 = some F178 := rfl
theorem find179 : tab.find 179 = some F179 := rfl
theorem find177 : tab.find 177 = some F177 := rfl
theorem find180 : tab.find 180 = some F180 := rfl
theorem find181 : tab.find 181 = some F181 := rfl
theorem find182 : tab.find 182 = some F182 := rfl
theorem tab_ok : ∀ p ∈ tab, chkF Try.prog p.1 p.2 = true := by
  intro p hp
  simp only [tab, List.mem_cons, List.not_mem_nil, or_false] at hp
  rcases hp with rfl | rfl | rfl | rfl | rfl | rfl | rfl | rfl | rfl | rfl | rfl | rfl | rfl | rfl | rfl | rfl | rfl | rfl | rfl | rfl | rfl | rfl | rfl | rfl | rfl | rfl | rfl | rfl | rfl | rfl | rfl | rfl | rfl | rfl | rfl | rfl | rfl | rfl | rfl | rfl | rfl | rfl | rfl | rfl | rfl | rfl | rfl | rfl | rfl | rfl | rfl | rfl | rfl | rfl | rfl | rfl | rfl | rfl | rfl | rfl | rfl | rfl | rfl | rfl | rfl | rfl | rfl | rfl | rfl | rfl | rfl | rfl | rfl | rfl | rfl | rfl | rfl | rfl | rfl | rfl | rfl | rfl | rfl | rfl | rfl | rfl | rfl | rfl | rfl | rfl | rfl | rfl | rfl | rfl | rfl | rfl | rfl | rfl | rfl | rfl | rfl | rfl | rfl | rfl | rfl | rfl | rfl | rfl | rfl | rfl | rfl | rfl | rfl | rfl | rfl | rfl | rfl | rfl | rfl | rfl | rfl | rfl | rfl | rfl | rfl | rfl | rfl | rfl | rfl | rfl | rfl | rfl | rfl | rfl | rfl | rfl | rfl | rfl | rfl | rfl | rfl | rfl | rfl | rfl | rfl | rfl
  · exact chk3
  · exact chk5
  · exact chk6
  · exact chk7
  · exact chk8
  · exact chk9
  · exact chk10
  · exact chk11
  · exact chk14
  · exact chk15
  · exact chk16
  · exact chk18
  · exact chk17
  · exact chk19
  · exact chk20
  · exact chk21
  · exact chk34
  · exact chk35
  · exact chk36
  · exact chk37
  · exact chk38
  · exact chk39
  · exact chk40
  · exact chk41
  · exact chk42
  · exact chk43
  · exact chk44
  · exact chk45
  · exact chk46
  · exact chk47
  · exact chk48
  · exact chk50
  · exact chk49
  · exact chk51
  · exact chk52
  · exact chk53
  · exact chk60
  · exact chk55
  · exact chk62
  · exact chk61
  · exact chk63
  · exact chk64
  · exact chk65
  · exact chk66
  · exact chk67
  · exact chk69
  · exact chk70
  · exact chk71
  · exact chk72
  · exact chk73
  · exact chk74
  · exact chk81
  · exact chk82
  · exact chk68
  · exact chk83
  · exact chk84
  · exact chk85
  · exact chk87
  · exact chk86
  · exact chk88
  · exact chk89
  · exact chk90
  · exact chk91
  · exact chk92
  · exact chk93
  · exact chk94
  · exact chk95
  · exact chk96
  · exact chk97
  · exact chk98
  · exact chk99
  · exact chk101
  · exact chk100
  · exact chk105
  · exact chk108
  · exact chk107
  · exact chk106
  · exact chk109
  · exact chk104
  · exact chk111
  · exact chk110
  · exact chk112
  · exact chk113
  · exact chk119
  · exact chk120
  · exact chk121
  · exact chk122
  · exact chk123
  · exact chk124
  · exact chk125
  · exact chk126
  · exact chk127
  · exact chk128
  · exact chk129
  · exact chk133
  · exact chk134
  · exact chk135
  · exact chk136
  · exact chk137
  · exact chk138
  · exact chk139
  · exact chk140
  · exact chk141
  · exact chk143
  · exact chk144
  · exact chk103
  · exact chk102
  · exact chk150
  · exact chk149
  · exact chk147
  · exact chk148
  · exact chk151
  · exact chk152
  · exact chk153
  · exact chk154
  · exact chk155
  · exact chk156
  · exact chk157
  · exact chk158
  · exact chk159
  · exact chk161
  · exact chk160
  · exact chk162
  · exact chk163
  · exact chk164
  · exact chk165
  · exact chk142
  · exact chk166
  · exact chk145
  · exact chk146
  · exact chk169
  · exact chk168
  · exact chk170
  · exact chk171
  · exact chk172
  · exact chk173
  · exact chk174
  · exact chk167
  · exact chk175
  · exact chk176
  · exact chk178
  · exact chk179
  · exact chk177
  · exact chk180
  · exact chk181
  · exact chk182
end Go.Proofs.Ytgepapgabnaonaa.PE
