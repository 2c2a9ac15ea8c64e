/- The compact code of the functions, and that it is the code of the machine. -/
import Derived.Test.YtgepapgabnaonaaPeX
import Derived.Test.YtgepapgabnaonaaProg
namespace Go.Proofs.Ytgepapgabnaonaa.PE
open Go.RowKit
set_option maxRecDepth 100000
def E3x0 : List I := [⟨some 62, none, .mov (.t 8), 0, 0, false, []⟩,
    ⟨some 63, none, .mov (.t 6), 0, 0, false, []⟩,
    ⟨some 64, none, .mov (.t 10), 0, 0, false, []⟩,
    ⟨some 65, none, .iaddr 1 (.t 63) (.t 64), 0, 0, false, []⟩,
    ⟨some 66, none, .load false 1 (.t 65), 0, 0, false, []⟩,
    ⟨some 67, none, .mov (.t 3), 0, 0, false, []⟩,
    ⟨some 68, none, .mov (.t 10), 0, 0, false, []⟩,
    ⟨some 69, none, .iaddr 2 (.t 67) (.t 68), 0, 0, false, []⟩,
    ⟨some 70, none, .load true 2 (.t 69), 0, 0, false, []⟩,
    ⟨some 71, none, .iaddr 2 (.t 62) (.t 66), 0, 0, false, []⟩,
    ⟨none, none, .store 2 (.t 71) (.t 70), 0, 0, true, []⟩]
def D3x0 : List I := E3x0
theorem evD3x0 (run : Run) (e : Env) (h : Heap) : drawI run D3x0 e h = DrawW (evW run E3x0 e h []) run E3x0 e h := drawI_write run _ e h
def E3x1 : List I := [⟨some 72, none, .mov (.t 9), 0, 0, false, []⟩,
    ⟨some 73, none, .mov (.t 6), 0, 0, false, []⟩,
    ⟨some 74, none, .mov (.t 10), 0, 0, false, []⟩,
    ⟨some 75, none, .iaddr 1 (.t 73) (.t 74), 0, 0, false, []⟩,
    ⟨some 76, none, .load false 1 (.t 75), 0, 0, false, []⟩,
    ⟨some 77, none, .mov (.t 4), 0, 0, false, []⟩,
    ⟨some 78, none, .mov (.t 10), 0, 0, false, []⟩,
    ⟨some 79, none, .iaddr 3 (.t 77) (.t 78), 0, 0, false, []⟩,
    ⟨some 80, none, .load true 3 (.t 79), 0, 0, false, []⟩,
    ⟨some 81, none, .iaddr 3 (.t 72) (.t 76), 0, 0, false, []⟩,
    ⟨none, none, .store 3 (.t 81) (.t 80), 0, 0, true, []⟩]
def D3x1 : List I := E3x1
theorem evD3x1 (run : Run) (e : Env) (h : Heap) : drawI run D3x1 e h = DrawW (evW run E3x1 e h []) run E3x1 e h := drawI_write run _ e h
def B3x0 : C := .seq (.seq (.seg false [⟨some 48, none, .mov (.t 10), 0, 0, false, []⟩,
    ⟨some 49, none, .mov (.t 6), 0, 0, false, []⟩,
    ⟨some 50, none, .len false (.t 49), 0, 0, false, []⟩,
    ⟨some 51, none, .bin .lss (.t 48) (.t 50), 0, 0, false, []⟩])
   (.cutTo [3, 4, 5, 6, 7, 8, 9, 10, 51] (.cond (.t 51) (.skip)
   (.exit 0))))
   (.cutTo [3, 4, 5, 6, 7, 8, 9, 10] (.seq (.block 1 (.seq (.seq (.seg false [⟨some 54, none, .mov (.t 6), 0, 0, false, []⟩,
    ⟨some 55, none, .mov (.t 10), 0, 0, false, []⟩,
    ⟨some 56, none, .iaddr 1 (.t 54) (.t 55), 0, 0, false, []⟩,
    ⟨some 57, none, .load false 1 (.t 56), 0, 0, false, []⟩,
    ⟨some 58, none, .mov (.t 3), 0, 0, false, []⟩,
    ⟨some 59, none, .len false (.t 58), 0, 0, false, []⟩,
    ⟨some 60, none, .bin .geq (.t 57) (.t 59), 0, 0, false, []⟩])
   (.cutTo [3, 4, 5, 6, 7, 8, 9, 10, 60] (.cond (.t 60) (.seq (.seg false [⟨some 61, none, .call 20 [] false false, 0, 0, false, []⟩,
    ⟨some 2, none, .mov (.t 61), 0, 0, false, []⟩])
   (.ret))
   (.skip))))
   (.cutTo [3, 4, 5, 6, 7, 8, 9, 10] (.seq (.seg true D3x0)
   (.cutTo [3, 4, 5, 6, 7, 8, 9, 10] (.seg true D3x1))))))
   (.cutTo [3, 4, 5, 6, 7, 8, 9, 10] (.seg false [⟨some 52, none, .mov (.t 10), 0, 0, false, []⟩,
    ⟨some 53, none, .bin .add (.t 52) (.k (.int .i64 1)), 0, 0, false, []⟩,
    ⟨some 10, none, .mov (.t 53), 0, 0, false, []⟩]))))
def L3x0 : C := B3x0
theorem evL3x0 (run : Run) (draw : List I → Env → Heap → Option (Env × Heap)) (e : Env) (h : Heap) : evC run draw L3x0 e h = evC run draw B3x0 e h := rfl
/-- loop.example/tablehouse/laws.FnExprMoved -/
def F3 : F := ⟨94, [(false, 2, 0, false)],
   .seq (.seg false [⟨some 2, none, .mov (.k (.bool false)), 0, 0, false, []⟩])
   (.seq (.seq (.seg false [⟨some 11, none, .mov (.t 0), 0, 0, false, []⟩,
    ⟨some 12, none, .len false (.t 11), 0, 0, false, []⟩,
    ⟨some 13, none, .bin .gtr (.t 12) (.k (.int .i64 1048576)), 0, 0, false, []⟩])
   (.cond (.t 13) (.seq (.seg false [⟨some 2, none, .mov (.k (.bool true)), 0, 0, false, []⟩])
   (.ret))
   (.skip)))
   (.cutTo [0] (.seq (.seg false [⟨some 15, none, .mov (.t 0), 0, 0, false, []⟩,
    ⟨some 16, none, .call 15 [.t 15] false false, 0, 0, false, []⟩,
    ⟨some 14, none, .mov (.t 16), 0, 0, false, []⟩,
    ⟨some 17, none, .ext (.t 14) 0, 0, 0, false, []⟩,
    ⟨some 18, none, .ext (.t 14) 1, 0, 0, false, []⟩,
    ⟨some 19, none, .ext (.t 14) 2, 0, 0, false, []⟩,
    ⟨some 20, none, .ext (.t 14) 3, 0, 0, false, []⟩,
    ⟨some 3, none, .mov (.t 17), 0, 0, false, []⟩,
    ⟨some 4, none, .mov (.t 18), 0, 0, false, []⟩,
    ⟨some 5, none, .mov (.t 19), 0, 0, false, []⟩,
    ⟨some 6, none, .mov (.t 20), 0, 0, false, []⟩])
   (.cutTo [3, 4, 5, 6] (.seq (.seg false [⟨some 21, none, .mov (.t 3), 0, 0, false, []⟩,
    ⟨some 22, none, .mov (.t 5), 0, 0, false, []⟩,
    ⟨some 23, none, .mov (.t 6), 0, 0, false, []⟩,
    ⟨some 24, none, .call 16 [.t 21, .t 22, .t 23] false false, 0, 0, false, []⟩,
    ⟨some 7, none, .mov (.t 24), 0, 0, false, []⟩])
   (.cutTo [3, 4, 5, 6, 7] (.seq (.seq (.seg false [⟨some 25, none, .mov (.t 7), 0, 0, false, []⟩,
    ⟨some 26, none, .mov (.t 3), 0, 0, false, []⟩,
    ⟨some 27, none, .mov (.t 5), 0, 0, false, []⟩,
    ⟨some 28, none, .mov (.t 6), 0, 0, false, []⟩,
    ⟨some 29, none, .call 18 [.t 26, .t 27, .t 28] false false, 0, 0, false, []⟩,
    ⟨some 30, none, .call 17 [.t 25, .t 29] false false, 0, 0, false, []⟩,
    ⟨some 31, none, .un .not (.t 30), 0, 0, false, []⟩])
   (.cutTo [3, 4, 5, 6, 7, 31] (.cond (.t 31) (.seq (.seg false [⟨some 2, none, .mov (.k (.bool false)), 0, 0, false, []⟩])
   (.ret))
   (.skip))))
   (.cutTo [3, 4, 5, 6, 7] (.seq (.seq (.seg false [⟨some 32, none, .mov (.t 7), 0, 0, false, []⟩,
    ⟨some 33, none, .len false (.t 32), 0, 0, false, []⟩,
    ⟨some 34, none, .bin .eql (.t 33) (.k (.int .i64 0)), 0, 0, false, []⟩,
    ⟨some 35, none, .mov (.t 34), 0, 0, false, []⟩,
    ⟨some 36, some (35, false), .mov (.t 3), 0, 0, false, []⟩,
    ⟨some 37, some (35, false), .mov (.t 4), 0, 0, false, []⟩,
    ⟨some 38, some (35, false), .call 19 [.t 36, .t 37] false false, 0, 0, false, []⟩,
    ⟨some 39, some (35, false), .un .not (.t 38), 0, 0, false, []⟩,
    ⟨some 40, none, .pick (.t 35) (.k (.bool true)) (.t 39), 0, 0, false, []⟩])
   (.cutTo [3, 4, 5, 6, 7, 40] (.cond (.t 40) (.seq (.seg false [⟨some 41, none, .call 20 [] false false, 0, 0, false, []⟩,
    ⟨some 2, none, .mov (.t 41), 0, 0, false, []⟩])
   (.ret))
   (.skip))))
   (.cutTo [3, 4, 5, 6, 7] (.seq (.seg false [⟨some 42, none, .mov (.t 3), 0, 0, false, []⟩,
    ⟨some 43, none, .len false (.t 42), 0, 0, false, []⟩,
    ⟨some 44, none, .mk 2 [.int .i64 0, .bool false] (.t 43), 0, 0, false, []⟩,
    ⟨some 8, none, .mov (.t 44), 0, 0, false, []⟩])
   (.cutTo [3, 4, 5, 6, 7, 8] (.seq (.seg false [⟨some 45, none, .mov (.t 3), 0, 0, false, []⟩,
    ⟨some 46, none, .len false (.t 45), 0, 0, false, []⟩,
    ⟨some 47, none, .mk 3 [.int .i64 0, .int .i64 0, .str ⟨#[]⟩] (.t 46), 0, 0, false, []⟩,
    ⟨some 9, none, .mov (.t 47), 0, 0, false, []⟩])
   (.cutTo [3, 4, 5, 6, 7, 8, 9] (.seq (.seq (.seg false [⟨some 10, none, .mov (.k (.int .i64 0)), 0, 0, false, []⟩])
   (.block 0 (.loop [3, 4, 5, 6, 7, 8, 9, 10] [2, 3, 4, 5, 7, 8, 9] L3x0)))
   (.seq (.seg false [⟨some 82, none, .mov (.t 8), 0, 0, false, []⟩,
    ⟨some 83, none, .mov (.t 9), 0, 0, false, []⟩,
    ⟨some 84, none, .mov (.t 7), 0, 0, false, []⟩,
    ⟨some 85, none, .call 21 [.t 82, .t 83, .t 84] false false, 0, 0, false, []⟩,
    ⟨some 86, none, .mov (.t 3), 0, 0, false, []⟩,
    ⟨some 87, none, .mov (.t 4), 0, 0, false, []⟩,
    ⟨some 88, none, .mov (.t 5), 0, 0, false, []⟩,
    ⟨some 89, none, .call 21 [.t 86, .t 87, .t 88] false false, 0, 0, false, []⟩,
    ⟨some 90, none, .eqs false [.int, .int, .str] (.t 85) (.t 89), 0, 0, false, []⟩,
    ⟨some 91, none, .mov (.t 90), 0, 0, false, []⟩,
    ⟨some 92, some (91, true), .call 20 [] false false, 0, 0, false, []⟩,
    ⟨some 93, none, .pick (.t 91) (.t 92) (.k (.bool false)), 0, 0, false, []⟩,
    ⟨some 2, none, .mov (.t 93), 0, 0, false, []⟩])
   (.cutTo [2] (.ret))))))))))))))))))⟩
def B5x0 : C := .seq (.seq (.seg false [⟨some 23, none, .mov (.t 6), 0, 0, false, []⟩,
    ⟨some 24, none, .mov (.t 4), 0, 0, false, []⟩,
    ⟨some 25, none, .len false (.t 24), 0, 0, false, []⟩,
    ⟨some 26, none, .bin .lss (.t 23) (.t 25), 0, 0, false, []⟩,
    ⟨some 27, none, .mov (.t 26), 0, 0, false, []⟩,
    ⟨some 28, some (27, true), .mov (.t 5), 0, 0, false, []⟩,
    ⟨some 29, none, .pick (.t 27) (.t 28) (.k (.bool false)), 0, 0, false, []⟩])
   (.cutTo [3, 4, 5, 6, 29] (.cond (.t 29) (.skip)
   (.exit 0))))
   (.cutTo [3, 4, 5, 6] (.seq (.block 1 (.seq (.seg false [⟨some 32, none, .mov (.t 3), 0, 0, false, []⟩,
    ⟨some 33, none, .mksl true 2 [], 0, 0, false, []⟩,
    ⟨some 34, none, .mov (.t 4), 0, 0, false, []⟩,
    ⟨some 35, none, .mov (.t 6), 0, 0, false, []⟩,
    ⟨some 36, none, .slc false 2 (.t 34) none (some (.t 35)) none, 0, 0, false, []⟩,
    ⟨some 37, none, .app 2 (.t 33) (.t 36), 0, 0, false, []⟩,
    ⟨some 38, none, .call 35 [.t 32, .t 37] false false, 0, 0, false, []⟩,
    ⟨some 39, none, .un .not (.t 38), 0, 0, false, []⟩])
   (.cutTo [3, 4, 5, 6, 39] (.cond (.t 39) (.seq (.seg false [⟨some 2, none, .mov (.k (.bool false)), 0, 0, false, []⟩])
   (.ret))
   (.skip)))))
   (.cutTo [3, 4, 5, 6] (.seg false [⟨some 30, none, .mov (.t 6), 0, 0, false, []⟩,
    ⟨some 31, none, .bin .add (.t 30) (.k (.int .i64 1)), 0, 0, false, []⟩,
    ⟨some 6, none, .mov (.t 31), 0, 0, false, []⟩]))))
def L5x0 : C := B5x0
theorem evL5x0 (run : Run) (draw : List I → Env → Heap → Option (Env × Heap)) (e : Env) (h : Heap) : evC run draw L5x0 e h = evC run draw B5x0 e h := rfl
/-- loop.example/tablehouse/laws.FnGuardsOk -/
def F5 : F := ⟨48, [(false, 2, 0, false)],
   .seq (.seg false [⟨some 2, none, .mov (.k (.bool false)), 0, 0, false, []⟩])
   (.seq (.seq (.seg false [⟨some 7, none, .mov (.t 0), 0, 0, false, []⟩,
    ⟨some 8, none, .len false (.t 7), 0, 0, false, []⟩,
    ⟨some 9, none, .bin .gtr (.t 8) (.k (.int .i64 1048576)), 0, 0, false, []⟩])
   (.cond (.t 9) (.seq (.seg false [⟨some 2, none, .mov (.k (.bool true)), 0, 0, false, []⟩])
   (.ret))
   (.skip)))
   (.cutTo [0] (.seq (.seg false [⟨some 11, none, .mov (.t 0), 0, 0, false, []⟩,
    ⟨some 12, none, .call 34 [.t 11] false false, 0, 0, false, []⟩,
    ⟨some 10, none, .mov (.t 12), 0, 0, false, []⟩,
    ⟨some 13, none, .ext (.t 10) 0, 0, 0, false, []⟩,
    ⟨some 14, none, .ext (.t 10) 1, 0, 0, false, []⟩,
    ⟨some 3, none, .mov (.t 13), 0, 0, false, []⟩,
    ⟨some 4, none, .mov (.t 14), 0, 0, false, []⟩])
   (.cutTo [3, 4] (.seq (.seg false [⟨some 15, none, .mov (.t 3), 0, 0, false, []⟩,
    ⟨some 16, none, .mov (.t 4), 0, 0, false, []⟩,
    ⟨some 17, none, .call 35 [.t 15, .t 16] false false, 0, 0, false, []⟩,
    ⟨some 5, none, .mov (.t 17), 0, 0, false, []⟩])
   (.cutTo [3, 4, 5] (.seq (.seq (.seg false [⟨some 18, none, .mov (.t 5), 0, 0, false, []⟩,
    ⟨some 19, none, .mov (.t 3), 0, 0, false, []⟩,
    ⟨some 20, none, .mov (.t 4), 0, 0, false, []⟩,
    ⟨some 21, none, .call 36 [.t 19, .t 20] false false, 0, 0, false, []⟩,
    ⟨some 22, none, .eqb true (.t 18) (.t 21), 0, 0, false, []⟩])
   (.cutTo [3, 4, 5, 22] (.cond (.t 22) (.seq (.seg false [⟨some 2, none, .mov (.k (.bool false)), 0, 0, false, []⟩])
   (.ret))
   (.skip))))
   (.cutTo [3, 4, 5] (.seq (.seq (.seg false [⟨some 6, none, .mov (.k (.int .i64 0)), 0, 0, false, []⟩])
   (.block 0 (.loop [3, 4, 5, 6] [2, 3] L5x0)))
   (.seq (.seg false [⟨some 40, none, .mov (.t 3), 0, 0, false, []⟩,
    ⟨some 41, none, .call 35 [.t 40, .k (.sl true 2 [])] false false, 0, 0, false, []⟩,
    ⟨some 42, none, .mov (.t 3), 0, 0, false, []⟩,
    ⟨some 43, none, .call 37 [.t 42] false false, 0, 0, false, []⟩,
    ⟨some 44, none, .eqb false (.t 41) (.t 43), 0, 0, false, []⟩,
    ⟨some 45, none, .mov (.t 44), 0, 0, false, []⟩,
    ⟨some 46, some (45, true), .call 20 [] false false, 0, 0, false, []⟩,
    ⟨some 47, none, .pick (.t 45) (.t 46) (.k (.bool false)), 0, 0, false, []⟩,
    ⟨some 2, none, .mov (.t 47), 0, 0, false, []⟩])
   (.cutTo [2] (.ret))))))))))))⟩
def B6x1 : C := .seq (.seq (.seg false [⟨some 35, none, .mov (.t 9), 0, 0, false, []⟩,
    ⟨some 36, none, .mov (.t 3), 0, 0, false, []⟩,
    ⟨some 37, none, .len false (.t 36), 0, 0, false, []⟩,
    ⟨some 38, none, .bin .lss (.t 35) (.t 37), 0, 0, false, []⟩])
   (.cutTo [3, 4, 5, 6, 7, 8, 9, 38] (.cond (.t 38) (.skip)
   (.exit 2))))
   (.cutTo [3, 4, 5, 6, 7, 8, 9] (.seq (.block 3 (.seq (.seg false [⟨some 41, none, .build [.int .i64 0, .int .i64 0, .str ⟨#[]⟩] [], 0, 0, false, []⟩,
    ⟨some 10, none, .alloc [.int .i64 0, .int .i64 0, .str ⟨#[]⟩], 0, 0, false, []⟩,
    ⟨none, none, .store 3 (.t 10) (.t 41), 0, 0, false, []⟩])
   (.seq (.seq (.seg false [⟨some 42, none, .mov (.t 9), 0, 0, false, []⟩,
    ⟨some 43, none, .mov (.t 5), 0, 0, false, []⟩,
    ⟨some 44, none, .bin .lss (.t 42) (.t 43), 0, 0, false, []⟩,
    ⟨some 45, none, .mov (.t 44), 0, 0, false, []⟩,
    ⟨some 46, some (45, true), .mov (.t 7), 0, 0, false, []⟩,
    ⟨some 47, some (45, true), .bin .lss (.t 46) (.k (.int .i64 2)), 0, 0, false, []⟩,
    ⟨some 48, none, .pick (.t 45) (.t 47) (.k (.bool false)), 0, 0, false, []⟩])
   (.cutTo [3, 4, 5, 6, 7, 8, 9, 10, 48] (.cond (.t 48) (.seq (.seg false [⟨some 49, none, .mov (.t 3), 0, 0, false, []⟩,
    ⟨some 50, none, .mov (.t 9), 0, 0, false, []⟩,
    ⟨some 51, none, .iaddr 2 (.t 49) (.t 50), 0, 0, false, []⟩,
    ⟨some 52, none, .faddr 0 1 (.t 51), 0, 0, false, []⟩,
    ⟨some 53, none, .load false 1 (.t 52), 0, 0, false, []⟩,
    ⟨some 54, none, .mov (.t 7), 0, 0, false, []⟩,
    ⟨some 55, none, .build [.int .i64 0, .int .i64 0, .str ⟨#[]⟩] [(0, 1, .t 53), (1, 1, .t 54)], 0, 0, false, []⟩,
    ⟨none, none, .store 3 (.t 10) (.t 55), 0, 0, false, []⟩])
   (.cutTo [3, 4, 5, 6, 7, 8, 9, 10] (.seq (.seg false [⟨some 56, none, .mov (.t 3), 0, 0, false, []⟩,
    ⟨some 57, none, .mov (.t 9), 0, 0, false, []⟩,
    ⟨some 58, none, .iaddr 2 (.t 56) (.t 57), 0, 0, false, []⟩,
    ⟨some 59, none, .faddr 0 1 (.t 58), 0, 0, false, []⟩,
    ⟨some 60, none, .load false 1 (.t 59), 0, 0, false, []⟩,
    ⟨some 61, none, .bin .eql (.t 60) (.k (.int .i64 2)), 0, 0, false, []⟩])
   (.cutTo [3, 4, 5, 6, 7, 8, 9, 10, 61] (.cond (.t 61) (.seg false [⟨some 62, none, .faddr 1 1 (.t 10), 0, 0, false, []⟩,
    ⟨none, none, .store 1 (.t 62) (.k (.int .i64 0)), 0, 0, false, []⟩])
   (.skip))))))
   (.skip))))
   (.cutTo [3, 4, 5, 6, 7, 8, 9, 10] (.seg false [⟨some 63, none, .mov (.t 8), 0, 0, false, []⟩,
    ⟨some 64, none, .load true 3 (.t 10), 0, 0, false, []⟩,
    ⟨some 65, none, .mksl false 3 [.t 64], 0, 0, false, []⟩,
    ⟨some 66, none, .app 3 (.t 63) (.t 65), 0, 0, false, []⟩,
    ⟨some 8, none, .mov (.t 66), 0, 0, false, []⟩])))))
   (.cutTo [3, 4, 5, 6, 7, 8, 9] (.seg false [⟨some 39, none, .mov (.t 9), 0, 0, false, []⟩,
    ⟨some 40, none, .bin .add (.t 39) (.k (.int .i64 1)), 0, 0, false, []⟩,
    ⟨some 9, none, .mov (.t 40), 0, 0, false, []⟩]))))
def L6x1 : C := B6x1
theorem evL6x1 (run : Run) (draw : List I → Env → Heap → Option (Env × Heap)) (e : Env) (h : Heap) : evC run draw L6x1 e h = evC run draw B6x1 e h := rfl
def B6x0 : C := .seq (.seq (.seg false [⟨some 30, none, .mov (.t 7), 0, 0, false, []⟩,
    ⟨some 31, none, .bin .lss (.t 30) (.k (.int .i64 3)), 0, 0, false, []⟩])
   (.cond (.t 31) (.skip)
   (.exit 0)))
   (.seq (.block 1 (.seq (.seg false [⟨some 34, none, .mksl true 3 [], 0, 0, false, []⟩,
    ⟨some 8, none, .mov (.t 34), 0, 0, false, []⟩])
   (.seq (.seq (.seg false [⟨some 9, none, .mov (.k (.int .i64 0)), 0, 0, false, []⟩])
   (.block 2 (.loop [3, 4, 5, 6, 7, 8, 9] [3, 4, 5, 6, 7, 8] L6x1)))
   (.seq (.seg false [⟨some 67, none, .mov (.t 6), 0, 0, false, []⟩,
    ⟨some 68, none, .mov (.t 67), 0, 0, false, []⟩,
    ⟨some 69, some (68, true), .mov (.t 3), 0, 0, false, []⟩,
    ⟨some 70, some (68, true), .mov (.t 8), 0, 0, false, []⟩,
    ⟨some 71, some (68, true), .mov (.t 4), 0, 0, false, []⟩,
    ⟨some 72, some (68, true), .call 41 [.t 69, .t 70, .t 71] false false, 0, 0, false, []⟩,
    ⟨some 73, none, .pick (.t 68) (.t 72) (.k (.bool false)), 0, 0, false, []⟩])
   (.cutTo [3, 4, 5, 6, 7, 73] (.cond (.t 73) (.seq (.seg false [⟨some 2, none, .mov (.k (.bool false)), 0, 0, false, []⟩])
   (.ret))
   (.skip)))))))
   (.cutTo [3, 4, 5, 6, 7] (.seg false [⟨some 32, none, .mov (.t 7), 0, 0, false, []⟩,
    ⟨some 33, none, .bin .add (.t 32) (.k (.int .i64 1)), 0, 0, false, []⟩,
    ⟨some 7, none, .mov (.t 33), 0, 0, false, []⟩])))
def L6x0 : C := B6x0
theorem evL6x0 (run : Run) (draw : List I → Env → Heap → Option (Env × Heap)) (e : Env) (h : Heap) : evC run draw L6x0 e h = evC run draw B6x0 e h := rfl
/-- loop.example/tablehouse/laws.FnRejects -/
def F6 : F := ⟨75, [(false, 2, 0, false)],
   .seq (.seg false [⟨some 2, none, .mov (.k (.bool false)), 0, 0, false, []⟩])
   (.seq (.seq (.seg false [⟨some 11, none, .mov (.t 0), 0, 0, false, []⟩,
    ⟨some 12, none, .len false (.t 11), 0, 0, false, []⟩,
    ⟨some 13, none, .bin .gtr (.t 12) (.k (.int .i64 1048576)), 0, 0, false, []⟩])
   (.cond (.t 13) (.seq (.seg false [⟨some 2, none, .mov (.k (.bool true)), 0, 0, false, []⟩])
   (.ret))
   (.skip)))
   (.cutTo [0] (.seq (.seg false [⟨some 15, none, .mov (.t 0), 0, 0, false, []⟩,
    ⟨some 16, none, .call 38 [.t 15] false false, 0, 0, false, []⟩,
    ⟨some 14, none, .mov (.t 16), 0, 0, false, []⟩,
    ⟨some 17, none, .ext (.t 14) 0, 0, 0, false, []⟩,
    ⟨some 18, none, .ext (.t 14) 1, 0, 0, false, []⟩,
    ⟨some 19, none, .ext (.t 14) 2, 0, 0, false, []⟩,
    ⟨some 3, none, .mov (.t 17), 0, 0, false, []⟩,
    ⟨some 4, none, .mov (.t 18), 0, 0, false, []⟩,
    ⟨some 5, none, .mov (.t 19), 0, 0, false, []⟩])
   (.cutTo [3, 4, 5] (.seq (.seg false [⟨some 20, none, .mov (.t 3), 0, 0, false, []⟩,
    ⟨some 21, none, .mov (.t 4), 0, 0, false, []⟩,
    ⟨some 22, none, .mov (.t 5), 0, 0, false, []⟩,
    ⟨some 23, none, .call 39 [.t 20, .t 21, .t 22] false false, 0, 0, false, []⟩,
    ⟨some 6, none, .mov (.t 23), 0, 0, false, []⟩])
   (.cutTo [3, 4, 5, 6] (.seq (.seq (.seg false [⟨some 24, none, .mov (.t 6), 0, 0, false, []⟩,
    ⟨some 25, none, .mov (.t 3), 0, 0, false, []⟩,
    ⟨some 26, none, .mov (.t 4), 0, 0, false, []⟩,
    ⟨some 27, none, .mov (.t 5), 0, 0, false, []⟩,
    ⟨some 28, none, .call 40 [.t 25, .t 26, .t 27] false false, 0, 0, false, []⟩,
    ⟨some 29, none, .eqb true (.t 24) (.t 28), 0, 0, false, []⟩])
   (.cutTo [3, 4, 5, 6, 29] (.cond (.t 29) (.seq (.seg false [⟨some 2, none, .mov (.k (.bool false)), 0, 0, false, []⟩])
   (.ret))
   (.skip))))
   (.cutTo [3, 4, 5, 6] (.seq (.seq (.seg false [⟨some 7, none, .mov (.k (.int .i64 0)), 0, 0, false, []⟩])
   (.block 0 (.loop [3, 4, 5, 6, 7] [2] L6x0)))
   (.seq (.seg false [⟨some 74, none, .call 20 [] false false, 0, 0, false, []⟩,
    ⟨some 2, none, .mov (.t 74), 0, 0, false, []⟩])
   (.ret)))))))))))⟩
/-- loop.example/tablehouse/laws.FnWholeAbsorb -/
def F7 : F := ⟨47, [(false, 2, 0, false)],
   .seq (.seg false [⟨some 2, none, .mov (.k (.bool false)), 0, 0, false, []⟩])
   (.seq (.seq (.seg false [⟨some 8, none, .mov (.t 0), 0, 0, false, []⟩,
    ⟨some 9, none, .len false (.t 8), 0, 0, false, []⟩,
    ⟨some 10, none, .bin .gtr (.t 9) (.k (.int .i64 1048576)), 0, 0, false, []⟩])
   (.cond (.t 10) (.seq (.seg false [⟨some 2, none, .mov (.k (.bool true)), 0, 0, false, []⟩])
   (.ret))
   (.skip)))
   (.cutTo [0] (.seq (.seg false [⟨some 12, none, .mov (.t 0), 0, 0, false, []⟩,
    ⟨some 13, none, .call 42 [.t 12] false false, 0, 0, false, []⟩,
    ⟨some 11, none, .mov (.t 13), 0, 0, false, []⟩,
    ⟨some 14, none, .ext (.t 11) 0, 0, 0, false, []⟩,
    ⟨some 15, none, .ext (.t 11) 1, 0, 0, false, []⟩,
    ⟨some 16, none, .ext (.t 11) 2, 0, 0, false, []⟩,
    ⟨some 17, none, .ext (.t 11) 3, 0, 0, false, []⟩,
    ⟨some 3, none, .mov (.t 14), 0, 0, false, []⟩,
    ⟨some 4, none, .mov (.t 15), 0, 0, false, []⟩,
    ⟨some 5, none, .mov (.t 16), 0, 0, false, []⟩,
    ⟨some 6, none, .mov (.t 17), 0, 0, false, []⟩])
   (.cutTo [3, 4, 5, 6] (.seq (.seq (.seg false [⟨some 18, none, .mov (.t 3), 0, 0, false, []⟩,
    ⟨some 19, none, .mov (.t 5), 0, 0, false, []⟩,
    ⟨some 20, none, .call 43 [.t 18, .t 19] false false, 0, 0, false, []⟩,
    ⟨some 21, none, .mov (.t 3), 0, 0, false, []⟩,
    ⟨some 22, none, .mov (.t 5), 0, 0, false, []⟩,
    ⟨some 23, none, .call 44 [.t 21, .t 22] false false, 0, 0, false, []⟩,
    ⟨some 24, none, .bin .neq (.t 20) (.t 23), 0, 0, false, []⟩])
   (.cutTo [3, 4, 5, 6, 24] (.cond (.t 24) (.seq (.seg false [⟨some 2, none, .mov (.k (.bool false)), 0, 0, false, []⟩])
   (.ret))
   (.skip))))
   (.cutTo [3, 4, 5, 6] (.seq (.seg false [⟨some 25, none, .mov (.t 5), 0, 0, false, []⟩,
    ⟨some 26, none, .mov (.t 5), 0, 0, false, []⟩,
    ⟨some 27, none, .mov (.t 6), 0, 0, false, []⟩,
    ⟨some 28, none, .call 45 [.t 26, .t 27, .k (.int .i64 6)] false false, 0, 0, false, []⟩,
    ⟨some 29, none, .call 45 [.t 25, .t 28, .k (.int .i64 5)] false false, 0, 0, false, []⟩,
    ⟨some 7, none, .mov (.t 29), 0, 0, false, []⟩])
   (.cutTo [3, 4, 5, 7] (.seq (.seg false [⟨some 30, none, .mov (.t 7), 0, 0, false, []⟩,
    ⟨some 31, none, .len false (.t 30), 0, 0, false, []⟩,
    ⟨some 32, none, .bin .gtr (.t 31) (.k (.int .i64 12)), 0, 0, false, []⟩,
    ⟨some 33, none, .mov (.t 32), 0, 0, false, []⟩,
    ⟨some 34, some (33, false), .mov (.t 3), 0, 0, false, []⟩,
    ⟨some 35, some (33, false), .mov (.t 4), 0, 0, false, []⟩,
    ⟨some 36, some (33, false), .mov (.t 7), 0, 0, false, []⟩,
    ⟨some 37, some (33, false), .call 21 [.t 34, .t 35, .t 36] false false, 0, 0, false, []⟩,
    ⟨some 38, some (33, false), .mov (.t 3), 0, 0, false, []⟩,
    ⟨some 39, some (33, false), .mov (.t 4), 0, 0, false, []⟩,
    ⟨some 40, some (33, false), .mov (.t 5), 0, 0, false, []⟩,
    ⟨some 41, some (33, false), .call 21 [.t 38, .t 39, .t 40] false false, 0, 0, false, []⟩,
    ⟨some 42, some (33, false), .eqs false [.int, .int, .str] (.t 37) (.t 41), 0, 0, false, []⟩,
    ⟨some 43, none, .pick (.t 33) (.k (.bool true)) (.t 42), 0, 0, false, []⟩,
    ⟨some 44, none, .mov (.t 43), 0, 0, false, []⟩,
    ⟨some 45, some (44, true), .call 20 [] false false, 0, 0, false, []⟩,
    ⟨some 46, none, .pick (.t 44) (.t 45) (.k (.bool false)), 0, 0, false, []⟩,
    ⟨some 2, none, .mov (.t 46), 0, 0, false, []⟩])
   (.cutTo [2] (.ret)))))))))))⟩
/-- loop.example/tablehouse/laws.FnWholeLess -/
def F8 : F := ⟨56, [(false, 2, 0, false)],
   .seq (.seg false [⟨some 2, none, .mov (.k (.bool false)), 0, 0, false, []⟩])
   (.seq (.seq (.seg false [⟨some 9, none, .mov (.t 0), 0, 0, false, []⟩,
    ⟨some 10, none, .len false (.t 9), 0, 0, false, []⟩,
    ⟨some 11, none, .bin .gtr (.t 10) (.k (.int .i64 1048576)), 0, 0, false, []⟩])
   (.cond (.t 11) (.seq (.seg false [⟨some 2, none, .mov (.k (.bool true)), 0, 0, false, []⟩])
   (.ret))
   (.skip)))
   (.cutTo [0] (.seq (.seg false [⟨some 13, none, .mov (.t 0), 0, 0, false, []⟩,
    ⟨some 14, none, .call 46 [.t 13] false false, 0, 0, false, []⟩,
    ⟨some 12, none, .mov (.t 14), 0, 0, false, []⟩,
    ⟨some 15, none, .ext (.t 12) 0, 0, 0, false, []⟩,
    ⟨some 16, none, .ext (.t 12) 1, 0, 0, false, []⟩,
    ⟨some 17, none, .ext (.t 12) 2, 0, 0, false, []⟩,
    ⟨some 18, none, .ext (.t 12) 3, 0, 0, false, []⟩,
    ⟨some 3, none, .mov (.t 15), 0, 0, false, []⟩,
    ⟨some 4, none, .mov (.t 16), 0, 0, false, []⟩,
    ⟨some 5, none, .mov (.t 17), 0, 0, false, []⟩,
    ⟨some 6, none, .mov (.t 18), 0, 0, false, []⟩])
   (.cutTo [3, 4, 5, 6] (.seq (.seq (.seg false [⟨some 19, none, .mov (.t 3), 0, 0, false, []⟩,
    ⟨some 20, none, .mov (.t 5), 0, 0, false, []⟩,
    ⟨some 21, none, .call 43 [.t 19, .t 20] false false, 0, 0, false, []⟩,
    ⟨some 22, none, .mov (.t 3), 0, 0, false, []⟩,
    ⟨some 23, none, .mov (.t 5), 0, 0, false, []⟩,
    ⟨some 24, none, .call 44 [.t 22, .t 23] false false, 0, 0, false, []⟩,
    ⟨some 25, none, .bin .neq (.t 21) (.t 24), 0, 0, false, []⟩])
   (.cutTo [3, 4, 5, 6, 25] (.cond (.t 25) (.seq (.seg false [⟨some 2, none, .mov (.k (.bool false)), 0, 0, false, []⟩])
   (.ret))
   (.skip))))
   (.cutTo [3, 4, 5, 6] (.seq (.seg false [⟨some 26, none, .mov (.t 5), 0, 0, false, []⟩,
    ⟨some 27, none, .mov (.t 6), 0, 0, false, []⟩,
    ⟨some 28, none, .call 45 [.t 26, .t 27, .k (.int .i64 0)] false true, 0, 0, false, []⟩,
    ⟨some 29, none, .build [.int .i64 0, .int .i64 0, .int .i64 0, .int .i64 0, .str ⟨#[]⟩] [(0, 1, .k (.int .i64 4)), (1, 1, .k (.int .i64 3))], 0, 0, false, []⟩,
    ⟨some 30, none, .mksl false 5 [.t 29], 0, 0, false, []⟩,
    ⟨some 31, none, .app 5 (.t 28) (.t 30), 0, 0, false, []⟩,
    ⟨some 7, none, .mov (.t 31), 0, 0, false, []⟩])
   (.cutTo [3, 4, 5, 6, 7] (.seq (.seg false [⟨some 32, none, .mov (.t 6), 0, 0, false, []⟩,
    ⟨some 33, none, .mov (.t 5), 0, 0, false, []⟩,
    ⟨some 34, none, .call 45 [.t 32, .t 33, .k (.int .i64 0)] false true, 0, 0, false, []⟩,
    ⟨some 35, none, .build [.int .i64 0, .int .i64 0, .int .i64 0, .int .i64 0, .str ⟨#[]⟩] [(0, 1, .k (.int .i64 4)), (1, 1, .k (.int .i64 4))], 0, 0, false, []⟩,
    ⟨some 36, none, .mksl false 5 [.t 35], 0, 0, false, []⟩,
    ⟨some 37, none, .app 5 (.t 34) (.t 36), 0, 0, false, []⟩,
    ⟨some 8, none, .mov (.t 37), 0, 0, false, []⟩])
   (.cutTo [3, 4, 7, 8] (.seq (.seq (.seg false [⟨some 38, none, .mov (.t 8), 0, 0, false, []⟩,
    ⟨some 39, none, .len false (.t 38), 0, 0, false, []⟩,
    ⟨some 40, none, .bin .add (.t 39) (.k (.int .i64 1)), 0, 0, false, []⟩,
    ⟨some 41, none, .bin .gtr (.t 40) (.k (.int .i64 12)), 0, 0, false, []⟩])
   (.cutTo [3, 4, 7, 8, 41] (.cond (.t 41) (.seq (.seg false [⟨some 42, none, .call 20 [] false false, 0, 0, false, []⟩,
    ⟨some 2, none, .mov (.t 42), 0, 0, false, []⟩])
   (.ret))
   (.skip))))
   (.cutTo [3, 4, 7, 8] (.seq (.seg false [⟨some 43, none, .mov (.t 3), 0, 0, false, []⟩,
    ⟨some 44, none, .mov (.t 4), 0, 0, false, []⟩,
    ⟨some 45, none, .mov (.t 7), 0, 0, false, []⟩,
    ⟨some 46, none, .call 21 [.t 43, .t 44, .t 45] false false, 0, 0, false, []⟩,
    ⟨some 47, none, .mov (.t 3), 0, 0, false, []⟩,
    ⟨some 48, none, .mov (.t 4), 0, 0, false, []⟩,
    ⟨some 49, none, .mov (.t 8), 0, 0, false, []⟩,
    ⟨some 50, none, .call 45 [.t 49, .k (.sl true 5 []), .k (.int .i64 7)] false false, 0, 0, false, []⟩,
    ⟨some 51, none, .call 21 [.t 47, .t 48, .t 50] false false, 0, 0, false, []⟩,
    ⟨some 52, none, .eqs false [.int, .int, .str] (.t 46) (.t 51), 0, 0, false, []⟩,
    ⟨some 53, none, .mov (.t 52), 0, 0, false, []⟩,
    ⟨some 54, some (53, true), .call 20 [] false false, 0, 0, false, []⟩,
    ⟨some 55, none, .pick (.t 53) (.t 54) (.k (.bool false)), 0, 0, false, []⟩,
    ⟨some 2, none, .mov (.t 55), 0, 0, false, []⟩])
   (.cutTo [2] (.ret)))))))))))))))⟩
/-- loop.example/tablehouse/laws.FnWholeMorgan -/
def F9 : F := ⟨73, [(false, 2, 0, false)],
   .seq (.seg false [⟨some 2, none, .mov (.k (.bool false)), 0, 0, false, []⟩])
   (.seq (.seq (.seg false [⟨some 11, none, .mov (.t 0), 0, 0, false, []⟩,
    ⟨some 12, none, .len false (.t 11), 0, 0, false, []⟩,
    ⟨some 13, none, .bin .gtr (.t 12) (.k (.int .i64 1048576)), 0, 0, false, []⟩])
   (.cond (.t 13) (.seq (.seg false [⟨some 2, none, .mov (.k (.bool true)), 0, 0, false, []⟩])
   (.ret))
   (.skip)))
   (.cutTo [0] (.seq (.seg false [⟨some 15, none, .mov (.t 0), 0, 0, false, []⟩,
    ⟨some 16, none, .call 42 [.t 15] false false, 0, 0, false, []⟩,
    ⟨some 14, none, .mov (.t 16), 0, 0, false, []⟩,
    ⟨some 17, none, .ext (.t 14) 0, 0, 0, false, []⟩,
    ⟨some 18, none, .ext (.t 14) 1, 0, 0, false, []⟩,
    ⟨some 19, none, .ext (.t 14) 2, 0, 0, false, []⟩,
    ⟨some 20, none, .ext (.t 14) 3, 0, 0, false, []⟩,
    ⟨some 3, none, .mov (.t 17), 0, 0, false, []⟩,
    ⟨some 4, none, .mov (.t 18), 0, 0, false, []⟩,
    ⟨some 5, none, .mov (.t 19), 0, 0, false, []⟩,
    ⟨some 6, none, .mov (.t 20), 0, 0, false, []⟩])
   (.cutTo [3, 4, 5, 6] (.seq (.seq (.seg false [⟨some 21, none, .mov (.t 3), 0, 0, false, []⟩,
    ⟨some 22, none, .mov (.t 5), 0, 0, false, []⟩,
    ⟨some 23, none, .call 43 [.t 21, .t 22] false false, 0, 0, false, []⟩,
    ⟨some 24, none, .mov (.t 3), 0, 0, false, []⟩,
    ⟨some 25, none, .mov (.t 5), 0, 0, false, []⟩,
    ⟨some 26, none, .call 44 [.t 24, .t 25] false false, 0, 0, false, []⟩,
    ⟨some 27, none, .bin .neq (.t 23) (.t 26), 0, 0, false, []⟩])
   (.cutTo [3, 4, 5, 6, 27] (.cond (.t 27) (.seq (.seg false [⟨some 2, none, .mov (.k (.bool false)), 0, 0, false, []⟩])
   (.ret))
   (.skip))))
   (.cutTo [3, 4, 5, 6] (.seq (.seg false [⟨some 28, none, .mov (.t 5), 0, 0, false, []⟩,
    ⟨some 29, none, .mov (.t 6), 0, 0, false, []⟩,
    ⟨some 30, none, .call 45 [.t 28, .t 29, .k (.int .i64 5)] false false, 0, 0, false, []⟩,
    ⟨some 7, none, .mov (.t 30), 0, 0, false, []⟩])
   (.cutTo [3, 4, 5, 6, 7] (.seq (.seg false [⟨some 31, none, .mov (.t 5), 0, 0, false, []⟩,
    ⟨some 32, none, .mov (.t 6), 0, 0, false, []⟩,
    ⟨some 33, none, .call 45 [.t 31, .t 32, .k (.int .i64 6)] false false, 0, 0, false, []⟩,
    ⟨some 8, none, .mov (.t 33), 0, 0, false, []⟩])
   (.cutTo [3, 4, 5, 6, 7, 8] (.seq (.seg false [⟨some 34, none, .mov (.t 5), 0, 0, false, []⟩,
    ⟨some 35, none, .call 45 [.t 34, .k (.sl true 5 []), .k (.int .i64 7)] false false, 0, 0, false, []⟩,
    ⟨some 36, none, .mov (.t 6), 0, 0, false, []⟩,
    ⟨some 37, none, .call 45 [.t 36, .k (.sl true 5 []), .k (.int .i64 7)] false false, 0, 0, false, []⟩,
    ⟨some 38, none, .call 45 [.t 35, .t 37, .k (.int .i64 6)] false false, 0, 0, false, []⟩,
    ⟨some 9, none, .mov (.t 38), 0, 0, false, []⟩])
   (.cutTo [3, 4, 5, 6, 7, 8, 9] (.seq (.seg false [⟨some 39, none, .mov (.t 5), 0, 0, false, []⟩,
    ⟨some 40, none, .call 45 [.t 39, .k (.sl true 5 []), .k (.int .i64 7)] false false, 0, 0, false, []⟩,
    ⟨some 41, none, .mov (.t 6), 0, 0, false, []⟩,
    ⟨some 42, none, .call 45 [.t 41, .k (.sl true 5 []), .k (.int .i64 7)] false false, 0, 0, false, []⟩,
    ⟨some 43, none, .call 45 [.t 40, .t 42, .k (.int .i64 5)] false false, 0, 0, false, []⟩,
    ⟨some 10, none, .mov (.t 43), 0, 0, false, []⟩])
   (.cutTo [3, 4, 7, 8, 9, 10] (.seq (.seq (.seg false [⟨some 44, none, .mov (.t 9), 0, 0, false, []⟩,
    ⟨some 45, none, .len false (.t 44), 0, 0, false, []⟩,
    ⟨some 46, none, .bin .gtr (.t 45) (.k (.int .i64 12)), 0, 0, false, []⟩])
   (.cond (.t 46) (.seq (.seg false [⟨some 47, none, .call 20 [] false false, 0, 0, false, []⟩,
    ⟨some 2, none, .mov (.t 47), 0, 0, false, []⟩])
   (.ret))
   (.skip)))
   (.cutTo [3, 4, 7, 8, 9, 10] (.seq (.seg false [⟨some 48, none, .mov (.t 3), 0, 0, false, []⟩,
    ⟨some 49, none, .mov (.t 4), 0, 0, false, []⟩,
    ⟨some 50, none, .mov (.t 7), 0, 0, false, []⟩,
    ⟨some 51, none, .call 45 [.t 50, .k (.sl true 5 []), .k (.int .i64 7)] false false, 0, 0, false, []⟩,
    ⟨some 52, none, .call 21 [.t 48, .t 49, .t 51] false false, 0, 0, false, []⟩,
    ⟨some 53, none, .mov (.t 3), 0, 0, false, []⟩,
    ⟨some 54, none, .mov (.t 4), 0, 0, false, []⟩,
    ⟨some 55, none, .mov (.t 9), 0, 0, false, []⟩,
    ⟨some 56, none, .call 21 [.t 53, .t 54, .t 55] false false, 0, 0, false, []⟩,
    ⟨some 57, none, .eqs false [.int, .int, .str] (.t 52) (.t 56), 0, 0, false, []⟩,
    ⟨some 58, none, .mov (.t 57), 0, 0, false, []⟩,
    ⟨some 59, some (58, true), .mov (.t 3), 0, 0, false, []⟩,
    ⟨some 60, some (58, true), .mov (.t 4), 0, 0, false, []⟩,
    ⟨some 61, some (58, true), .mov (.t 8), 0, 0, false, []⟩,
    ⟨some 62, some (58, true), .call 45 [.t 61, .k (.sl true 5 []), .k (.int .i64 7)] false false, 0, 0, false, []⟩,
    ⟨some 63, some (58, true), .call 21 [.t 59, .t 60, .t 62] false false, 0, 0, false, []⟩,
    ⟨some 64, some (58, true), .mov (.t 3), 0, 0, false, []⟩,
    ⟨some 65, some (58, true), .mov (.t 4), 0, 0, false, []⟩,
    ⟨some 66, some (58, true), .mov (.t 10), 0, 0, false, []⟩,
    ⟨some 67, some (58, true), .call 21 [.t 64, .t 65, .t 66] false false, 0, 0, false, []⟩,
    ⟨some 68, some (58, true), .eqs false [.int, .int, .str] (.t 63) (.t 67), 0, 0, false, []⟩,
    ⟨some 69, none, .pick (.t 58) (.t 68) (.k (.bool false)), 0, 0, false, []⟩,
    ⟨some 70, none, .mov (.t 69), 0, 0, false, []⟩,
    ⟨some 71, some (70, true), .call 20 [] false false, 0, 0, false, []⟩,
    ⟨some 72, none, .pick (.t 70) (.t 71) (.k (.bool false)), 0, 0, false, []⟩,
    ⟨some 2, none, .mov (.t 72), 0, 0, false, []⟩])
   (.cutTo [2] (.ret)))))))))))))))))))⟩
/-- loop.example/tablehouse/laws.FnWholeTurned -/
def F10 : F := ⟨84, [(false, 2, 0, false)],
   .seq (.seg false [⟨some 2, none, .mov (.k (.bool false)), 0, 0, false, []⟩])
   (.seq (.seq (.seg false [⟨some 8, none, .mov (.t 0), 0, 0, false, []⟩,
    ⟨some 9, none, .len false (.t 8), 0, 0, false, []⟩,
    ⟨some 10, none, .bin .gtr (.t 9) (.k (.int .i64 1048576)), 0, 0, false, []⟩])
   (.cond (.t 10) (.seq (.seg false [⟨some 2, none, .mov (.k (.bool true)), 0, 0, false, []⟩])
   (.ret))
   (.skip)))
   (.cutTo [0] (.seq (.seg false [⟨some 12, none, .mov (.t 0), 0, 0, false, []⟩,
    ⟨some 13, none, .call 42 [.t 12] false false, 0, 0, false, []⟩,
    ⟨some 11, none, .mov (.t 13), 0, 0, false, []⟩,
    ⟨some 14, none, .ext (.t 11) 0, 0, 0, false, []⟩,
    ⟨some 15, none, .ext (.t 11) 1, 0, 0, false, []⟩,
    ⟨some 16, none, .ext (.t 11) 2, 0, 0, false, []⟩,
    ⟨some 17, none, .ext (.t 11) 3, 0, 0, false, []⟩,
    ⟨some 3, none, .mov (.t 14), 0, 0, false, []⟩,
    ⟨some 4, none, .mov (.t 15), 0, 0, false, []⟩,
    ⟨some 5, none, .mov (.t 16), 0, 0, false, []⟩,
    ⟨some 6, none, .mov (.t 17), 0, 0, false, []⟩])
   (.cutTo [3, 4, 5, 6] (.seq (.seq (.seg false [⟨some 18, none, .mov (.t 3), 0, 0, false, []⟩,
    ⟨some 19, none, .mov (.t 5), 0, 0, false, []⟩,
    ⟨some 20, none, .call 43 [.t 18, .t 19] false false, 0, 0, false, []⟩,
    ⟨some 21, none, .mov (.t 3), 0, 0, false, []⟩,
    ⟨some 22, none, .mov (.t 5), 0, 0, false, []⟩,
    ⟨some 23, none, .call 44 [.t 21, .t 22] false false, 0, 0, false, []⟩,
    ⟨some 24, none, .bin .neq (.t 20) (.t 23), 0, 0, false, []⟩])
   (.cutTo [3, 4, 5, 6, 24] (.cond (.t 24) (.seq (.seg false [⟨some 2, none, .mov (.k (.bool false)), 0, 0, false, []⟩])
   (.ret))
   (.skip))))
   (.cutTo [3, 4, 5, 6] (.seq (.seq (.seg false [⟨some 25, none, .mov (.t 5), 0, 0, false, []⟩,
    ⟨some 26, none, .len false (.t 25), 0, 0, false, []⟩,
    ⟨some 27, none, .mov (.t 6), 0, 0, false, []⟩,
    ⟨some 28, none, .len false (.t 27), 0, 0, false, []⟩,
    ⟨some 29, none, .bin .add (.t 26) (.t 28), 0, 0, false, []⟩,
    ⟨some 30, none, .bin .add (.t 29) (.k (.int .i64 1)), 0, 0, false, []⟩,
    ⟨some 31, none, .bin .gtr (.t 30) (.k (.int .i64 12)), 0, 0, false, []⟩,
    ⟨some 32, none, .mov (.t 31), 0, 0, false, []⟩,
    ⟨some 33, some (32, false), .mov (.t 5), 0, 0, false, []⟩,
    ⟨some 34, some (32, false), .len false (.t 33), 0, 0, false, []⟩,
    ⟨some 35, some (32, false), .bin .add (.t 34) (.k (.int .i64 2)), 0, 0, false, []⟩,
    ⟨some 36, some (32, false), .bin .gtr (.t 35) (.k (.int .i64 12)), 0, 0, false, []⟩,
    ⟨some 37, none, .pick (.t 32) (.k (.bool true)) (.t 36), 0, 0, false, []⟩])
   (.cutTo [3, 4, 5, 6, 37] (.cond (.t 37) (.seq (.seg false [⟨some 38, none, .call 20 [] false false, 0, 0, false, []⟩,
    ⟨some 2, none, .mov (.t 38), 0, 0, false, []⟩])
   (.ret))
   (.skip))))
   (.cutTo [3, 4, 5, 6] (.seq (.seg false [⟨some 39, none, .mov (.t 5), 0, 0, false, []⟩,
    ⟨some 40, none, .call 45 [.t 39, .k (.sl true 5 []), .k (.int .i64 7)] false false, 0, 0, false, []⟩,
    ⟨some 41, none, .call 45 [.t 40, .k (.sl true 5 []), .k (.int .i64 7)] false false, 0, 0, false, []⟩,
    ⟨some 7, none, .mov (.t 41), 0, 0, false, []⟩])
   (.cutTo [3, 4, 5, 6, 7] (.seq (.seg false [⟨some 42, none, .mov (.t 3), 0, 0, false, []⟩,
    ⟨some 43, none, .mov (.t 4), 0, 0, false, []⟩,
    ⟨some 44, none, .mov (.t 5), 0, 0, false, []⟩,
    ⟨some 45, none, .mov (.t 6), 0, 0, false, []⟩,
    ⟨some 46, none, .call 45 [.t 44, .t 45, .k (.int .i64 5)] false false, 0, 0, false, []⟩,
    ⟨some 47, none, .call 21 [.t 42, .t 43, .t 46] false false, 0, 0, false, []⟩,
    ⟨some 48, none, .mov (.t 3), 0, 0, false, []⟩,
    ⟨some 49, none, .mov (.t 4), 0, 0, false, []⟩,
    ⟨some 50, none, .mov (.t 6), 0, 0, false, []⟩,
    ⟨some 51, none, .mov (.t 5), 0, 0, false, []⟩,
    ⟨some 52, none, .call 45 [.t 50, .t 51, .k (.int .i64 5)] false false, 0, 0, false, []⟩,
    ⟨some 53, none, .call 21 [.t 48, .t 49, .t 52] false false, 0, 0, false, []⟩,
    ⟨some 54, none, .eqs false [.int, .int, .str] (.t 47) (.t 53), 0, 0, false, []⟩,
    ⟨some 55, none, .mov (.t 54), 0, 0, false, []⟩,
    ⟨some 56, some (55, true), .mov (.t 3), 0, 0, false, []⟩,
    ⟨some 57, some (55, true), .mov (.t 4), 0, 0, false, []⟩,
    ⟨some 58, some (55, true), .mov (.t 5), 0, 0, false, []⟩,
    ⟨some 59, some (55, true), .mov (.t 6), 0, 0, false, []⟩,
    ⟨some 60, some (55, true), .call 45 [.t 58, .t 59, .k (.int .i64 6)] false false, 0, 0, false, []⟩,
    ⟨some 61, some (55, true), .call 21 [.t 56, .t 57, .t 60] false false, 0, 0, false, []⟩,
    ⟨some 62, some (55, true), .mov (.t 3), 0, 0, false, []⟩,
    ⟨some 63, some (55, true), .mov (.t 4), 0, 0, false, []⟩,
    ⟨some 64, some (55, true), .mov (.t 6), 0, 0, false, []⟩,
    ⟨some 65, some (55, true), .mov (.t 5), 0, 0, false, []⟩,
    ⟨some 66, some (55, true), .call 45 [.t 64, .t 65, .k (.int .i64 6)] false false, 0, 0, false, []⟩,
    ⟨some 67, some (55, true), .call 21 [.t 62, .t 63, .t 66] false false, 0, 0, false, []⟩,
    ⟨some 68, some (55, true), .eqs false [.int, .int, .str] (.t 61) (.t 67), 0, 0, false, []⟩,
    ⟨some 69, none, .pick (.t 55) (.t 68) (.k (.bool false)), 0, 0, false, []⟩,
    ⟨some 70, none, .mov (.t 69), 0, 0, false, []⟩,
    ⟨some 71, some (70, true), .mov (.t 3), 0, 0, false, []⟩,
    ⟨some 72, some (70, true), .mov (.t 4), 0, 0, false, []⟩,
    ⟨some 73, some (70, true), .mov (.t 7), 0, 0, false, []⟩,
    ⟨some 74, some (70, true), .call 21 [.t 71, .t 72, .t 73] false false, 0, 0, false, []⟩,
    ⟨some 75, some (70, true), .mov (.t 3), 0, 0, false, []⟩,
    ⟨some 76, some (70, true), .mov (.t 4), 0, 0, false, []⟩,
    ⟨some 77, some (70, true), .mov (.t 5), 0, 0, false, []⟩,
    ⟨some 78, some (70, true), .call 21 [.t 75, .t 76, .t 77] false false, 0, 0, false, []⟩,
    ⟨some 79, some (70, true), .eqs false [.int, .int, .str] (.t 74) (.t 78), 0, 0, false, []⟩,
    ⟨some 80, none, .pick (.t 70) (.t 79) (.k (.bool false)), 0, 0, false, []⟩,
    ⟨some 81, none, .mov (.t 80), 0, 0, false, []⟩,
    ⟨some 82, some (81, true), .call 20 [] false false, 0, 0, false, []⟩,
    ⟨some 83, none, .pick (.t 81) (.t 82) (.k (.bool false)), 0, 0, false, []⟩,
    ⟨some 2, none, .mov (.t 83), 0, 0, false, []⟩])
   (.cutTo [2] (.ret)))))))))))))⟩
def E11x0 : List I := [⟨some 44, none, .mov (.t 3), 0, 0, false, []⟩,
    ⟨some 45, none, .mov (.t 5), 0, 0, false, []⟩,
    ⟨some 46, none, .call 51 [.t 44, .t 45] false false, 0, 0, false, []⟩,
    ⟨some 47, none, .un .not (.t 46), 0, 0, false, []⟩,
    ⟨some 48, none, .mov (.t 47), 0, 0, false, []⟩,
    ⟨some 49, some (48, false), .mov (.t 4), 0, 0, false, []⟩,
    ⟨some 50, some (48, false), .mov (.t 6), 0, 0, false, []⟩,
    ⟨some 51, some (48, false), .call 51 [.t 49, .t 50] false false, 0, 0, false, []⟩,
    ⟨some 52, some (48, false), .un .not (.t 51), 0, 0, false, []⟩,
    ⟨some 53, none, .pick (.t 48) (.k (.bool true)) (.t 52), 0, 0, false, []⟩,
    ⟨some 54, none, .mov (.t 53), 0, 0, false, []⟩,
    ⟨some 55, some (54, false), .mov (.t 7), 0, 0, false, []⟩,
    ⟨some 56, some (54, false), .bin .lss (.t 55) (.k (.int .i64 0)), 0, 0, false, []⟩,
    ⟨some 57, none, .pick (.t 54) (.k (.bool true)) (.t 56), 0, 0, false, []⟩,
    ⟨some 58, none, .mov (.t 57), 0, 0, false, []⟩,
    ⟨some 59, some (58, false), .mov (.t 7), 0, 0, false, []⟩,
    ⟨some 60, some (58, false), .mov (.t 3), 0, 0, false, []⟩,
    ⟨some 61, some (58, false), .len false (.t 60), 0, 0, false, []⟩,
    ⟨some 62, some (58, false), .bin .geq (.t 59) (.t 61), 0, 0, false, []⟩,
    ⟨some 63, none, .pick (.t 58) (.k (.bool true)) (.t 62), 0, 0, false, []⟩,
    ⟨some 64, none, .mov (.t 63), 0, 0, false, []⟩,
    ⟨some 65, some (64, false), .mov (.t 8), 0, 0, false, []⟩,
    ⟨some 66, some (64, false), .bin .lss (.t 65) (.k (.int .i64 0)), 0, 0, false, []⟩,
    ⟨some 67, none, .pick (.t 64) (.k (.bool true)) (.t 66), 0, 0, false, []⟩,
    ⟨some 68, none, .mov (.t 67), 0, 0, false, []⟩,
    ⟨some 69, some (68, false), .mov (.t 8), 0, 0, false, []⟩,
    ⟨some 70, some (68, false), .mov (.t 4), 0, 0, false, []⟩,
    ⟨some 71, some (68, false), .len false (.t 70), 0, 0, false, []⟩,
    ⟨some 72, some (68, false), .bin .geq (.t 69) (.t 71), 0, 0, false, []⟩,
    ⟨some 73, none, .pick (.t 68) (.k (.bool true)) (.t 72), 0, 0, false, []⟩,
    ⟨some 74, none, .mov (.t 73), 0, 0, false, []⟩,
    ⟨some 75, some (74, false), .mov (.t 3), 0, 0, false, []⟩,
    ⟨some 76, some (74, false), .mov (.t 7), 0, 0, false, []⟩,
    ⟨some 77, some (74, false), .iaddr 2 (.t 75) (.t 76), 0, 0, false, []⟩,
    ⟨some 78, some (74, false), .faddr 0 1 (.t 77), 0, 0, false, []⟩,
    ⟨some 79, some (74, false), .load false 1 (.t 78), 0, 0, false, []⟩,
    ⟨some 80, some (74, false), .mov (.t 4), 0, 0, false, []⟩,
    ⟨some 81, some (74, false), .mov (.t 8), 0, 0, false, []⟩,
    ⟨some 82, some (74, false), .iaddr 2 (.t 80) (.t 81), 0, 0, false, []⟩,
    ⟨some 83, some (74, false), .faddr 0 1 (.t 82), 0, 0, false, []⟩,
    ⟨some 84, some (74, false), .load false 1 (.t 83), 0, 0, false, []⟩,
    ⟨some 85, some (74, false), .bin .neq (.t 79) (.t 84), 0, 0, false, []⟩,
    ⟨some 86, none, .pick (.t 74) (.k (.bool true)) (.t 85), 0, 0, false, []⟩]
def D11x0 : List I := E11x0
theorem evD11x0 (run : Run) (e : Env) (h : Heap) : drawI run D11x0 e h = DrawS (evQ run E11x0 e h) run E11x0 e h := drawI_quiet run _ (by rfl) e h
def B11x0 : C := .seq (.seq (.seg false [⟨some 93, none, .mov (.t 11), 0, 0, false, []⟩,
    ⟨some 94, none, .mov (.t 6), 0, 0, false, []⟩,
    ⟨some 95, none, .len false (.t 94), 0, 0, false, []⟩,
    ⟨some 96, none, .bin .lss (.t 93) (.t 95), 0, 0, false, []⟩])
   (.cutTo [3, 4, 5, 6, 7, 8, 9, 10, 11, 96] (.cond (.t 96) (.skip)
   (.exit 0))))
   (.cutTo [3, 4, 5, 6, 7, 8, 9, 10, 11] (.seq (.block 1 (.seg false [⟨some 99, none, .mov (.t 10), 0, 0, false, []⟩,
    ⟨some 100, none, .mov (.t 99), 0, 0, false, []⟩,
    ⟨some 101, some (100, false), .mov (.t 6), 0, 0, false, []⟩,
    ⟨some 102, some (100, false), .mov (.t 11), 0, 0, false, []⟩,
    ⟨some 103, some (100, false), .iaddr 1 (.t 101) (.t 102), 0, 0, false, []⟩,
    ⟨some 104, some (100, false), .load false 1 (.t 103), 0, 0, false, []⟩,
    ⟨some 105, some (100, false), .mov (.t 8), 0, 0, false, []⟩,
    ⟨some 106, some (100, false), .iaddr 3 (.t 104) (.t 105), 0, 0, false, []⟩,
    ⟨some 107, some (100, false), .faddr 0 1 (.t 106), 0, 0, false, []⟩,
    ⟨some 108, some (100, false), .load false 1 (.t 107), 0, 0, false, []⟩,
    ⟨some 109, some (100, false), .bin .eql (.t 108) (.k (.int .i64 0)), 0, 0, false, []⟩,
    ⟨some 110, none, .pick (.t 100) (.k (.bool true)) (.t 109), 0, 0, false, []⟩,
    ⟨some 10, none, .mov (.t 110), 0, 0, false, []⟩]))
   (.cutTo [3, 4, 5, 6, 7, 8, 9, 10, 11] (.seg false [⟨some 97, none, .mov (.t 11), 0, 0, false, []⟩,
    ⟨some 98, none, .bin .add (.t 97) (.k (.int .i64 1)), 0, 0, false, []⟩,
    ⟨some 11, none, .mov (.t 98), 0, 0, false, []⟩]))))
def L11x0 : C := B11x0
theorem evL11x0 (run : Run) (draw : List I → Env → Heap → Option (Env × Heap)) (e : Env) (h : Heap) : evC run draw L11x0 e h = evC run draw B11x0 e h := rfl
def B11x1 : C := .seq (.seq (.seg false [⟨some 119, none, .mov (.t 14), 0, 0, false, []⟩,
    ⟨some 120, none, .mov (.t 5), 0, 0, false, []⟩,
    ⟨some 121, none, .len false (.t 120), 0, 0, false, []⟩,
    ⟨some 122, none, .bin .lss (.t 119) (.t 121), 0, 0, false, []⟩,
    ⟨some 123, none, .mov (.t 122), 0, 0, false, []⟩,
    ⟨some 124, some (123, true), .mov (.t 10), 0, 0, false, []⟩,
    ⟨some 125, some (123, true), .un .not (.t 124), 0, 0, false, []⟩,
    ⟨some 126, none, .pick (.t 123) (.t 125) (.k (.bool false)), 0, 0, false, []⟩])
   (.cutTo [5, 6, 7, 9, 10, 12, 13, 14, 126] (.cond (.t 126) (.skip)
   (.exit 2))))
   (.cutTo [5, 6, 7, 9, 10, 12, 13, 14] (.seq (.block 3 (.seq (.seg false [⟨some 129, none, .mov (.t 12), 0, 0, false, []⟩,
    ⟨some 130, none, .mov (.t 5), 0, 0, false, []⟩,
    ⟨some 131, none, .mov (.t 14), 0, 0, false, []⟩,
    ⟨some 132, none, .iaddr 1 (.t 130) (.t 131), 0, 0, false, []⟩,
    ⟨some 133, none, .load false 1 (.t 132), 0, 0, false, []⟩,
    ⟨some 134, none, .call 53 [.t 129, .t 133] false false, 0, 0, false, []⟩,
    ⟨some 135, none, .bin .eql (.t 134) (.k (.int .i64 0)), 0, 0, false, []⟩,
    ⟨some 136, none, .mov (.t 135), 0, 0, false, []⟩,
    ⟨some 137, some (136, true), .mov (.t 5), 0, 0, false, []⟩,
    ⟨some 138, some (136, true), .mov (.t 14), 0, 0, false, []⟩,
    ⟨some 139, some (136, true), .iaddr 1 (.t 137) (.t 138), 0, 0, false, []⟩,
    ⟨some 140, some (136, true), .load false 1 (.t 139), 0, 0, false, []⟩,
    ⟨some 141, some (136, true), .mov (.t 7), 0, 0, false, []⟩,
    ⟨some 142, some (136, true), .iaddr 3 (.t 140) (.t 141), 0, 0, false, []⟩,
    ⟨some 143, some (136, true), .faddr 0 1 (.t 142), 0, 0, false, []⟩,
    ⟨some 144, some (136, true), .load false 1 (.t 143), 0, 0, false, []⟩,
    ⟨some 145, some (136, true), .bin .neq (.t 144) (.k (.int .i64 0)), 0, 0, false, []⟩,
    ⟨some 146, some (136, true), .mov (.t 145), 0, 0, false, []⟩,
    ⟨some 147, some (146, false), .mov (.t 6), 0, 0, false, []⟩,
    ⟨some 148, some (146, false), .len false (.t 147), 0, 0, false, []⟩,
    ⟨some 149, some (146, false), .bin .eql (.t 148) (.k (.int .i64 0)), 0, 0, false, []⟩,
    ⟨some 150, some (136, true), .pick (.t 146) (.k (.bool true)) (.t 149), 0, 0, false, []⟩,
    ⟨some 151, none, .pick (.t 136) (.t 150) (.k (.bool false)), 0, 0, false, []⟩])
   (.cutTo [5, 6, 7, 9, 10, 12, 13, 14, 151] (.cond (.t 151) (.seg false [⟨some 152, none, .mov (.t 13), 0, 0, false, []⟩,
    ⟨some 153, none, .mov (.t 5), 0, 0, false, []⟩,
    ⟨some 154, none, .mov (.t 14), 0, 0, false, []⟩,
    ⟨some 155, none, .iaddr 1 (.t 153) (.t 154), 0, 0, false, []⟩,
    ⟨some 156, none, .load false 1 (.t 155), 0, 0, false, []⟩,
    ⟨some 157, none, .mksl false 1 [.t 156], 0, 0, false, []⟩,
    ⟨some 158, none, .app 1 (.t 152) (.t 157), 0, 0, false, []⟩,
    ⟨some 13, none, .mov (.t 158), 0, 0, false, []⟩])
   (.skip)))))
   (.cutTo [5, 6, 7, 9, 10, 12, 13, 14] (.seg false [⟨some 127, none, .mov (.t 14), 0, 0, false, []⟩,
    ⟨some 128, none, .bin .add (.t 127) (.k (.int .i64 1)), 0, 0, false, []⟩,
    ⟨some 14, none, .mov (.t 128), 0, 0, false, []⟩]))))
def L11x1 : C := B11x1
theorem evL11x1 (run : Run) (draw : List I → Env → Heap → Option (Env × Heap)) (e : Env) (h : Heap) : evC run draw L11x1 e h = evC run draw B11x1 e h := rfl
/-- loop.example/tablehouse/laws.FnNotInRows -/
def F11 : F := ⟨165, [(false, 2, 0, false)],
   .seq (.seg false [⟨some 2, none, .mov (.k (.bool false)), 0, 0, false, []⟩])
   (.seq (.seq (.seg false [⟨some 15, none, .mov (.t 0), 0, 0, false, []⟩,
    ⟨some 16, none, .len false (.t 15), 0, 0, false, []⟩,
    ⟨some 17, none, .bin .gtr (.t 16) (.k (.int .i64 1048576)), 0, 0, false, []⟩])
   (.cond (.t 17) (.seq (.seg false [⟨some 2, none, .mov (.k (.bool true)), 0, 0, false, []⟩])
   (.ret))
   (.skip)))
   (.cutTo [0] (.seq (.seg false [⟨some 19, none, .mov (.t 0), 0, 0, false, []⟩,
    ⟨some 20, none, .call 47 [.t 19] false false, 0, 0, false, []⟩,
    ⟨some 18, none, .mov (.t 20), 0, 0, false, []⟩,
    ⟨some 21, none, .ext (.t 18) 0, 0, 0, false, []⟩,
    ⟨some 22, none, .ext (.t 18) 1, 0, 0, false, []⟩,
    ⟨some 23, none, .ext (.t 18) 2, 0, 0, false, []⟩,
    ⟨some 24, none, .ext (.t 18) 3, 0, 0, false, []⟩,
    ⟨some 25, none, .ext (.t 18) 4, 0, 0, false, []⟩,
    ⟨some 26, none, .ext (.t 18) 5, 0, 0, false, []⟩,
    ⟨some 3, none, .mov (.t 21), 0, 0, false, []⟩,
    ⟨some 4, none, .mov (.t 22), 0, 0, false, []⟩,
    ⟨some 5, none, .mov (.t 23), 0, 0, false, []⟩,
    ⟨some 6, none, .mov (.t 24), 0, 0, false, []⟩,
    ⟨some 7, none, .mov (.t 25), 0, 0, false, []⟩,
    ⟨some 8, none, .mov (.t 26), 0, 0, false, []⟩])
   (.cutTo [3, 4, 5, 6, 7, 8] (.seq (.seg false [⟨some 27, none, .mov (.t 3), 0, 0, false, []⟩,
    ⟨some 28, none, .mov (.t 4), 0, 0, false, []⟩,
    ⟨some 29, none, .mov (.t 5), 0, 0, false, []⟩,
    ⟨some 30, none, .mov (.t 6), 0, 0, false, []⟩,
    ⟨some 31, none, .mov (.t 7), 0, 0, false, []⟩,
    ⟨some 32, none, .mov (.t 8), 0, 0, false, []⟩,
    ⟨some 33, none, .call 48 [.t 27, .t 28, .t 29, .t 30, .t 31, .t 32] false false, 0, 0, false, []⟩,
    ⟨some 9, none, .mov (.t 33), 0, 0, false, []⟩])
   (.cutTo [3, 4, 5, 6, 7, 8, 9] (.seq (.seq (.seg false [⟨some 34, none, .mov (.t 9), 0, 0, false, []⟩,
    ⟨some 35, none, .mov (.t 3), 0, 0, false, []⟩,
    ⟨some 36, none, .mov (.t 4), 0, 0, false, []⟩,
    ⟨some 37, none, .mov (.t 5), 0, 0, false, []⟩,
    ⟨some 38, none, .mov (.t 6), 0, 0, false, []⟩,
    ⟨some 39, none, .mov (.t 7), 0, 0, false, []⟩,
    ⟨some 40, none, .mov (.t 8), 0, 0, false, []⟩,
    ⟨some 41, none, .call 50 [.t 35, .t 36, .t 37, .t 38, .t 39, .t 40] false false, 0, 0, false, []⟩,
    ⟨some 42, none, .call 49 [.t 34, .t 41] false false, 0, 0, false, []⟩,
    ⟨some 43, none, .un .not (.t 42), 0, 0, false, []⟩])
   (.cutTo [3, 4, 5, 6, 7, 8, 9, 43] (.cond (.t 43) (.seq (.seg false [⟨some 2, none, .mov (.k (.bool false)), 0, 0, false, []⟩])
   (.ret))
   (.skip))))
   (.cutTo [3, 4, 5, 6, 7, 8, 9] (.seq (.seq (.seg true D11x0)
   (.cutTo [3, 4, 5, 6, 7, 8, 9, 86] (.cond (.t 86) (.seq (.seg false [⟨some 87, none, .mov (.t 9), 0, 0, false, []⟩,
    ⟨some 88, none, .len false (.t 87), 0, 0, false, []⟩,
    ⟨some 89, none, .bin .eql (.t 88) (.k (.int .i64 0)), 0, 0, false, []⟩,
    ⟨some 90, none, .mov (.t 89), 0, 0, false, []⟩,
    ⟨some 91, some (90, true), .call 20 [] false false, 0, 0, false, []⟩,
    ⟨some 92, none, .pick (.t 90) (.t 91) (.k (.bool false)), 0, 0, false, []⟩,
    ⟨some 2, none, .mov (.t 92), 0, 0, false, []⟩])
   (.cutTo [2] (.ret)))
   (.skip))))
   (.cutTo [3, 4, 5, 6, 7, 8, 9] (.seq (.seg false [⟨some 10, none, .mov (.k (.bool false)), 0, 0, false, []⟩])
   (.seq (.seq (.seg false [⟨some 11, none, .mov (.k (.int .i64 0)), 0, 0, false, []⟩])
   (.block 0 (.loop [3, 4, 5, 6, 7, 8, 9, 10, 11] [3, 4, 5, 6, 7, 8, 9, 10] L11x0)))
   (.seq (.seg false [⟨some 111, none, .mov (.t 3), 0, 0, false, []⟩,
    ⟨some 112, none, .mov (.t 4), 0, 0, false, []⟩,
    ⟨some 113, none, .mov (.t 5), 0, 0, false, []⟩,
    ⟨some 114, none, .mov (.t 6), 0, 0, false, []⟩,
    ⟨some 115, none, .mov (.t 7), 0, 0, false, []⟩,
    ⟨some 116, none, .mov (.t 8), 0, 0, false, []⟩,
    ⟨some 117, none, .call 52 [.t 111, .t 112, .t 113, .t 114, .t 115, .t 116] false false, 0, 0, false, []⟩,
    ⟨some 12, none, .mov (.t 117), 0, 0, false, []⟩])
   (.cutTo [5, 6, 7, 9, 10, 12] (.seq (.seg false [⟨some 118, none, .mksl true 1 [], 0, 0, false, []⟩,
    ⟨some 13, none, .mov (.t 118), 0, 0, false, []⟩])
   (.seq (.seq (.seg false [⟨some 14, none, .mov (.k (.int .i64 0)), 0, 0, false, []⟩])
   (.block 2 (.loop [5, 6, 7, 9, 10, 12, 13, 14] [9, 13] L11x1)))
   (.seq (.seg false [⟨some 159, none, .mov (.t 9), 0, 0, false, []⟩,
    ⟨some 160, none, .mov (.t 13), 0, 0, false, []⟩,
    ⟨some 161, none, .call 49 [.t 159, .t 160] false false, 0, 0, false, []⟩,
    ⟨some 162, none, .mov (.t 161), 0, 0, false, []⟩,
    ⟨some 163, some (162, true), .call 20 [] false false, 0, 0, false, []⟩,
    ⟨some 164, none, .pick (.t 162) (.t 163) (.k (.bool false)), 0, 0, false, []⟩,
    ⟨some 2, none, .mov (.t 164), 0, 0, false, []⟩])
   (.cutTo [2] (.ret)))))))))))))))))))⟩
def B14x0 : C := .seq (.seq (.seg false [⟨some 48, none, .mov (.t 11), 0, 0, false, []⟩,
    ⟨some 49, none, .mov (.t 9), 0, 0, false, []⟩,
    ⟨some 50, none, .len false (.t 49), 0, 0, false, []⟩,
    ⟨some 51, none, .bin .lss (.t 48) (.t 50), 0, 0, false, []⟩])
   (.cutTo [5, 9, 10, 11, 51] (.cond (.t 51) (.skip)
   (.exit 0))))
   (.cutTo [5, 9, 10, 11] (.seq (.block 1 (.seq (.seg false [⟨some 54, none, .mov (.t 10), 0, 0, false, []⟩,
    ⟨some 55, none, .mov (.t 9), 0, 0, false, []⟩,
    ⟨some 56, none, .mov (.t 11), 0, 0, false, []⟩,
    ⟨some 57, none, .iaddr 1 (.t 55) (.t 56), 0, 0, false, []⟩,
    ⟨some 58, none, .load false 1 (.t 57), 0, 0, false, []⟩,
    ⟨some 59, none, .call 53 [.t 54, .t 58] false false, 0, 0, false, []⟩,
    ⟨some 60, none, .bin .gtr (.t 59) (.k (.int .i64 0)), 0, 0, false, []⟩])
   (.cutTo [5, 9, 10, 11, 60] (.cond (.t 60) (.seq (.seg false [⟨some 2, none, .mov (.k (.bool false)), 0, 0, false, []⟩])
   (.ret))
   (.skip)))))
   (.cutTo [5, 9, 10, 11] (.seg false [⟨some 52, none, .mov (.t 11), 0, 0, false, []⟩,
    ⟨some 53, none, .bin .add (.t 52) (.k (.int .i64 1)), 0, 0, false, []⟩,
    ⟨some 11, none, .mov (.t 53), 0, 0, false, []⟩]))))
def L14x0 : C := B14x0
theorem evL14x0 (run : Run) (draw : List I → Env → Heap → Option (Env × Heap)) (e : Env) (h : Heap) : evC run draw L14x0 e h = evC run draw B14x0 e h := rfl
/-- loop.example/tablehouse/laws.FnWholeIn -/
def F14 : F := ⟨71, [(false, 2, 0, false)],
   .seq (.seg false [⟨some 2, none, .mov (.k (.bool false)), 0, 0, false, []⟩])
   (.seq (.seq (.seg false [⟨some 12, none, .mov (.t 0), 0, 0, false, []⟩,
    ⟨some 13, none, .len false (.t 12), 0, 0, false, []⟩,
    ⟨some 14, none, .bin .gtr (.t 13) (.k (.int .i64 1048576)), 0, 0, false, []⟩])
   (.cond (.t 14) (.seq (.seg false [⟨some 2, none, .mov (.k (.bool true)), 0, 0, false, []⟩])
   (.ret))
   (.skip)))
   (.cutTo [0] (.seq (.seg false [⟨some 16, none, .mov (.t 0), 0, 0, false, []⟩,
    ⟨some 17, none, .call 60 [.t 16] false false, 0, 0, false, []⟩,
    ⟨some 15, none, .mov (.t 17), 0, 0, false, []⟩,
    ⟨some 18, none, .ext (.t 15) 0, 0, 0, false, []⟩,
    ⟨some 19, none, .ext (.t 15) 1, 0, 0, false, []⟩,
    ⟨some 20, none, .ext (.t 15) 2, 0, 0, false, []⟩,
    ⟨some 21, none, .ext (.t 15) 3, 0, 0, false, []⟩,
    ⟨some 22, none, .ext (.t 15) 4, 0, 0, false, []⟩,
    ⟨some 23, none, .ext (.t 15) 5, 0, 0, false, []⟩,
    ⟨some 3, none, .mov (.t 18), 0, 0, false, []⟩,
    ⟨some 4, none, .mov (.t 19), 0, 0, false, []⟩,
    ⟨some 5, none, .mov (.t 20), 0, 0, false, []⟩,
    ⟨some 6, none, .mov (.t 21), 0, 0, false, []⟩,
    ⟨some 7, none, .mov (.t 22), 0, 0, false, []⟩,
    ⟨some 8, none, .mov (.t 23), 0, 0, false, []⟩])
   (.cutTo [3, 4, 5, 6, 7, 8] (.seq (.seg false [⟨some 24, none, .mov (.t 3), 0, 0, false, []⟩,
    ⟨some 25, none, .mov (.t 4), 0, 0, false, []⟩,
    ⟨some 26, none, .mov (.t 5), 0, 0, false, []⟩,
    ⟨some 27, none, .mov (.t 6), 0, 0, false, []⟩,
    ⟨some 28, none, .mov (.t 7), 0, 0, false, []⟩,
    ⟨some 29, none, .mov (.t 8), 0, 0, false, []⟩,
    ⟨some 30, none, .call 52 [.t 24, .t 25, .t 26, .t 27, .t 28, .t 29] false false, 0, 0, false, []⟩,
    ⟨some 9, none, .mov (.t 30), 0, 0, false, []⟩])
   (.cutTo [3, 4, 5, 6, 7, 8, 9] (.seq (.seg false [⟨some 31, none, .mov (.t 3), 0, 0, false, []⟩,
    ⟨some 32, none, .mov (.t 4), 0, 0, false, []⟩,
    ⟨some 33, none, .mov (.t 5), 0, 0, false, []⟩,
    ⟨some 34, none, .mov (.t 6), 0, 0, false, []⟩,
    ⟨some 35, none, .mov (.t 7), 0, 0, false, []⟩,
    ⟨some 36, none, .mov (.t 8), 0, 0, false, []⟩,
    ⟨some 37, none, .call 48 [.t 31, .t 32, .t 33, .t 34, .t 35, .t 36] false false, 0, 0, false, []⟩,
    ⟨some 10, none, .mov (.t 37), 0, 0, false, []⟩])
   (.cutTo [3, 4, 5, 6, 7, 8, 9, 10] (.seq (.seq (.seg false [⟨some 38, none, .mov (.t 9), 0, 0, false, []⟩,
    ⟨some 39, none, .mov (.t 3), 0, 0, false, []⟩,
    ⟨some 40, none, .mov (.t 4), 0, 0, false, []⟩,
    ⟨some 41, none, .mov (.t 5), 0, 0, false, []⟩,
    ⟨some 42, none, .mov (.t 6), 0, 0, false, []⟩,
    ⟨some 43, none, .mov (.t 7), 0, 0, false, []⟩,
    ⟨some 44, none, .mov (.t 8), 0, 0, false, []⟩,
    ⟨some 45, none, .call 55 [.t 39, .t 40, .t 41, .t 42, .t 43, .t 44] false false, 0, 0, false, []⟩,
    ⟨some 46, none, .call 49 [.t 38, .t 45] false false, 0, 0, false, []⟩,
    ⟨some 47, none, .un .not (.t 46), 0, 0, false, []⟩])
   (.cutTo [5, 9, 10, 47] (.cond (.t 47) (.seq (.seg false [⟨some 2, none, .mov (.k (.bool false)), 0, 0, false, []⟩])
   (.ret))
   (.skip))))
   (.cutTo [5, 9, 10] (.seq (.seq (.seg false [⟨some 11, none, .mov (.k (.int .i64 0)), 0, 0, false, []⟩])
   (.block 0 (.loop [5, 9, 10, 11] [2, 5, 9, 10] L14x0)))
   (.seq (.seg false [⟨some 61, none, .mov (.t 9), 0, 0, false, []⟩,
    ⟨some 62, none, .mov (.t 10), 0, 0, false, []⟩,
    ⟨some 63, none, .call 62 [.t 61, .t 62] false false, 0, 0, false, []⟩,
    ⟨some 64, none, .mov (.t 5), 0, 0, false, []⟩,
    ⟨some 65, none, .call 61 [.t 63, .t 64] false false, 0, 0, false, []⟩,
    ⟨some 66, none, .len false (.t 65), 0, 0, false, []⟩,
    ⟨some 67, none, .bin .eql (.t 66) (.k (.int .i64 0)), 0, 0, false, []⟩,
    ⟨some 68, none, .mov (.t 67), 0, 0, false, []⟩,
    ⟨some 69, some (68, true), .call 20 [] false false, 0, 0, false, []⟩,
    ⟨some 70, none, .pick (.t 68) (.t 69) (.k (.bool false)), 0, 0, false, []⟩,
    ⟨some 2, none, .mov (.t 70), 0, 0, false, []⟩])
   (.cutTo [2] (.ret))))))))))))))⟩
def E15x0 : List I := [⟨some 33, none, .mksl true 1 [], 0, 0, true, []⟩,
    ⟨some 34, none, .mov (.t 10), 0, 1, false, [10]⟩,
    ⟨some 35, none, .mov (.t 12), 0, 1, false, []⟩,
    ⟨some 36, none, .slc false 1 (.t 34) none (some (.t 35)) none, 0, 1, false, []⟩,
    ⟨some 37, none, .app 1 (.t 33) (.t 36), 1, 0, true, []⟩,
    ⟨some 38, none, .mov (.t 11), 0, 2, false, []⟩,
    ⟨some 39, none, .mksl false 1 [.t 38], 0, 2, false, []⟩,
    ⟨some 40, none, .app 1 (.t 37) (.t 39), 2, 0, true, []⟩,
    ⟨some 41, none, .mov (.t 10), 0, 3, false, [10]⟩,
    ⟨some 42, none, .mov (.t 12), 0, 3, false, []⟩,
    ⟨some 43, none, .slc false 1 (.t 41) (some (.t 42)) none none, 0, 3, false, []⟩,
    ⟨some 44, none, .app 1 (.t 40) (.t 43), 3, 0, true, []⟩,
    ⟨some 10, none, .mov (.t 44), 4, 4, false, []⟩]
def D15x0 : List I := E15x0
theorem evD15x0 (run : Run) (e : Env) (h : Heap) : drawI run D15x0 e h = DrawW (evW run E15x0 e h []) run E15x0 e h := drawI_write run _ e h
def B15x0 : C := .seq (.seq (.seg false [⟨some 22, none, .mov (.t 11), 0, 0, false, []⟩,
    ⟨some 23, none, .mov (.t 7), 0, 0, false, []⟩,
    ⟨some 24, none, .len false (.t 23), 0, 0, false, []⟩,
    ⟨some 25, none, .bin .lss (.t 22) (.t 24), 0, 0, false, []⟩])
   (.cutTo [6, 7, 8, 9, 10, 11, 25] (.cond (.t 25) (.skip)
   (.exit 0))))
   (.cutTo [6, 7, 8, 9, 10, 11] (.seq (.block 1 (.seq (.seg false [⟨some 28, none, .mov (.t 6), 0, 0, false, []⟩,
    ⟨some 29, none, .mov (.t 10), 0, 0, false, []⟩,
    ⟨some 30, none, .len false (.t 29), 0, 0, false, []⟩,
    ⟨some 31, none, .bin .add (.t 30) (.k (.int .i64 1)), 0, 0, false, []⟩,
    ⟨some 32, none, .call 65 [.t 28, .t 31] true false, 0, 0, false, []⟩,
    ⟨some 12, none, .mov (.t 32), 0, 0, false, []⟩])
   (.cutTo [6, 7, 8, 9, 10, 11, 12] (.seg true D15x0))))
   (.cutTo [6, 7, 8, 9, 10, 11] (.seg false [⟨some 26, none, .mov (.t 11), 0, 0, false, []⟩,
    ⟨some 27, none, .bin .add (.t 26) (.k (.int .i64 1)), 0, 0, false, []⟩,
    ⟨some 11, none, .mov (.t 27), 0, 0, false, []⟩]))))
def L15x0 : C := B15x0
theorem evL15x0 (run : Run) (draw : List I → Env → Heap → Option (Env × Heap)) (e : Env) (h : Heap) : evC run draw L15x0 e h = evC run draw B15x0 e h := rfl
/-- loop.example/tablehouse/spec.DrawMovedRow -/
def F15 : F := ⟨58, [(false, 2, 0, false), (false, 3, 0, false), (false, 4, 0, false), (false, 5, 0, false)],
   .seq (.seg false [⟨some 2, none, .mov (.k (.sl true 2 [])), 0, 0, false, []⟩,
    ⟨some 3, none, .mov (.k (.sl true 3 [])), 0, 0, false, []⟩,
    ⟨some 4, none, .mov (.k (.sl true 5 [])), 0, 0, false, []⟩,
    ⟨some 5, none, .nilrow 1, 0, 0, false, []⟩])
   (.cutTo [0] (.seq (.seg false [⟨some 13, none, .mov (.t 0), 0, 0, false, []⟩,
    ⟨some 14, none, .call 63 [.t 13] true true, 0, 0, false, []⟩,
    ⟨some 6, none, .mov (.t 14), 0, 0, false, []⟩])
   (.seq (.seg false [⟨some 16, none, .mov (.t 6), 0, 0, false, []⟩,
    ⟨some 17, none, .call 64 [.t 16, .k (.int .i64 12)] true false, 0, 0, false, []⟩,
    ⟨some 15, none, .mov (.t 17), 0, 0, false, []⟩,
    ⟨some 18, none, .ext (.t 15) 0, 0, 0, false, []⟩,
    ⟨some 19, none, .ext (.t 15) 1, 0, 0, false, []⟩,
    ⟨some 20, none, .ext (.t 15) 2, 0, 0, false, []⟩,
    ⟨some 7, none, .mov (.t 18), 0, 0, false, []⟩,
    ⟨some 8, none, .mov (.t 19), 0, 0, false, []⟩,
    ⟨some 9, none, .mov (.t 20), 0, 0, false, []⟩])
   (.cutTo [6, 7, 8, 9] (.seq (.seg false [⟨some 21, none, .mksl true 1 [], 0, 0, false, []⟩,
    ⟨some 10, none, .mov (.t 21), 0, 0, false, []⟩])
   (.seq (.seq (.seg false [⟨some 11, none, .mov (.k (.int .i64 0)), 0, 0, false, []⟩])
   (.block 0 (.loop [6, 7, 8, 9, 10, 11] [6, 7, 8, 9, 10] L15x0)))
   (.seq (.seq (.seg false [⟨some 45, none, .mov (.t 6), 0, 0, false, []⟩,
    ⟨some 46, none, .call 65 [.t 45, .k (.int .i64 12)] true false, 0, 0, false, []⟩,
    ⟨some 47, none, .bin .eql (.t 46) (.k (.int .i64 0)), 0, 0, false, []⟩])
   (.cond (.t 47) (.seg false [⟨some 48, none, .mov (.t 10), 0, 0, false, []⟩,
    ⟨some 49, none, .mov (.t 6), 0, 0, false, []⟩,
    ⟨some 50, none, .call 65 [.t 49, .k (.int .i64 6)] true false, 0, 0, false, []⟩,
    ⟨some 51, none, .bin .sub (.t 50) (.k (.int .i64 1)), 0, 0, false, []⟩,
    ⟨some 52, none, .mksl false 1 [.t 51], 0, 0, false, []⟩,
    ⟨some 53, none, .app 1 (.t 48) (.t 52), 0, 0, false, []⟩,
    ⟨some 10, none, .mov (.t 53), 0, 0, false, []⟩])
   (.skip)))
   (.cutTo [7, 8, 9, 10] (.seq (.seg false [⟨some 54, none, .mov (.t 7), 0, 0, false, []⟩,
    ⟨some 55, none, .mov (.t 8), 0, 0, false, []⟩,
    ⟨some 56, none, .mov (.t 9), 0, 0, false, []⟩,
    ⟨some 57, none, .mov (.t 10), 0, 0, false, []⟩,
    ⟨some 2, none, .mov (.t 54), 0, 0, false, []⟩,
    ⟨some 3, none, .mov (.t 55), 0, 0, false, []⟩,
    ⟨some 4, none, .mov (.t 56), 0, 0, false, []⟩,
    ⟨some 5, none, .mov (.t 57), 0, 0, false, []⟩])
   (.cutTo [2, 3, 4, 5] (.ret)))))))))))⟩
/-- loop.example/tablehouse/impl.ExprMoved -/
def F16 : F := ⟨25, [(false, 6, 0, false)],
   .seq (.seg false [⟨some 6, none, .mov (.k (.sl true 5 [])), 0, 0, false, []⟩])
   (.seq (.seq (.seg false [⟨some 7, none, .mov (.t 0), 0, 0, false, []⟩,
    ⟨some 8, none, .mov (.t 1), 0, 0, false, []⟩,
    ⟨some 9, none, .call 43 [.t 7, .t 8] false false, 0, 0, false, []⟩,
    ⟨some 10, none, .bin .lss (.t 9) (.k (.int .i64 0)), 0, 0, false, []⟩,
    ⟨some 11, none, .mov (.t 10), 0, 0, false, []⟩,
    ⟨some 12, some (11, false), .mov (.t 2), 0, 0, false, []⟩,
    ⟨some 13, some (11, false), .len false (.t 12), 0, 0, false, []⟩,
    ⟨some 14, some (11, false), .mov (.t 0), 0, 0, false, []⟩,
    ⟨some 15, some (11, false), .len false (.t 14), 0, 0, false, []⟩,
    ⟨some 16, some (11, false), .bin .neq (.t 13) (.t 15), 0, 0, false, []⟩,
    ⟨some 17, none, .pick (.t 11) (.k (.bool true)) (.t 16), 0, 0, false, []⟩,
    ⟨some 18, none, .mov (.t 17), 0, 0, false, []⟩,
    ⟨some 19, some (18, false), .mov (.t 2), 0, 0, false, []⟩,
    ⟨some 20, some (18, false), .call 66 [.t 19, .k (.clo 67 [])] true false, 0, 0, false, []⟩,
    ⟨some 21, none, .pick (.t 18) (.k (.bool true)) (.t 20), 0, 0, false, []⟩])
   (.cutTo [1, 2, 21] (.cond (.t 21) (.seq (.seg false [⟨some 6, none, .mov (.k (.sl true 5 [])), 0, 0, false, []⟩])
   (.ret))
   (.skip))))
   (.cutTo [1, 2] (.seq (.seg false [⟨some 22, none, .mov (.t 1), 0, 0, false, []⟩,
    ⟨some 23, none, .mov (.t 2), 0, 0, false, []⟩,
    ⟨some 24, none, .call 69 [.t 22, .t 23] false false, 0, 0, false, []⟩,
    ⟨some 6, none, .mov (.t 24), 0, 0, false, []⟩])
   (.cutTo [6] (.ret)))))⟩
def B18x0 : C := .seq (.seq (.seg false [⟨some 24, none, .mov (.t 8), 0, 0, false, []⟩,
    ⟨some 25, none, .mov (.t 2), 0, 0, false, []⟩,
    ⟨some 26, none, .len false (.t 25), 0, 0, false, []⟩,
    ⟨some 27, none, .bin .lss (.t 24) (.t 26), 0, 0, false, []⟩])
   (.cutTo [1, 2, 7, 8, 27] (.cond (.t 27) (.skip)
   (.exit 0))))
   (.cutTo [1, 2, 7, 8] (.seq (.block 1 (.seq (.seg false [⟨some 30, none, .mov (.t 2), 0, 0, false, []⟩,
    ⟨some 31, none, .mov (.t 8), 0, 0, false, []⟩,
    ⟨some 32, none, .iaddr 1 (.t 30) (.t 31), 0, 0, false, []⟩,
    ⟨some 33, none, .load false 1 (.t 32), 0, 0, false, []⟩,
    ⟨some 34, none, .call 70 [.t 33, .k (.int .i64 0), .k (.int .i64 3)] false false, 0, 0, false, []⟩,
    ⟨some 35, none, .un .not (.t 34), 0, 0, false, []⟩])
   (.cutTo [1, 2, 7, 8, 35] (.cond (.t 35) (.seq (.seg false [⟨some 36, none, .mksl true 5 [], 0, 0, false, []⟩,
    ⟨some 6, none, .mov (.t 36), 0, 0, false, []⟩])
   (.ret))
   (.skip)))))
   (.cutTo [1, 2, 7, 8] (.seg false [⟨some 28, none, .mov (.t 8), 0, 0, false, []⟩,
    ⟨some 29, none, .bin .add (.t 28) (.k (.int .i64 1)), 0, 0, false, []⟩,
    ⟨some 8, none, .mov (.t 29), 0, 0, false, []⟩]))))
def L18x0 : C := B18x0
theorem evL18x0 (run : Run) (draw : List I → Env → Heap → Option (Env × Heap)) (e : Env) (h : Heap) : evC run draw L18x0 e h = evC run draw B18x0 e h := rfl
def B18x1 : C := .seq (.seq (.seg false [⟨some 37, none, .mov (.t 9), 0, 0, false, []⟩,
    ⟨some 38, none, .mov (.t 1), 0, 0, false, []⟩,
    ⟨some 39, none, .len false (.t 38), 0, 0, false, []⟩,
    ⟨some 40, none, .bin .lss (.t 37) (.t 39), 0, 0, false, []⟩])
   (.cutTo [1, 2, 7, 9, 40] (.cond (.t 40) (.skip)
   (.exit 2))))
   (.cutTo [1, 2, 7, 9] (.seq (.block 3 (.seq (.seg false [⟨some 43, none, .mov (.t 1), 0, 0, false, []⟩,
    ⟨some 44, none, .mov (.t 9), 0, 0, false, []⟩,
    ⟨some 45, none, .iaddr 5 (.t 43) (.t 44), 0, 0, false, []⟩,
    ⟨some 46, none, .load true 5 (.t 45), 0, 0, false, []⟩,
    ⟨some 10, none, .alloc [.int .i64 0, .int .i64 0, .int .i64 0, .int .i64 0, .str ⟨#[]⟩], 0, 0, false, []⟩,
    ⟨none, none, .store 5 (.t 10) (.t 46), 0, 0, false, []⟩])
   (.cutTo [1, 2, 7, 9, 10] (.seq (.seq (.seg false [⟨some 47, none, .faddr 0 1 (.t 10), 0, 0, false, []⟩,
    ⟨some 48, none, .load false 1 (.t 47), 0, 0, false, []⟩,
    ⟨some 49, none, .bin .eql (.t 48) (.k (.int .i64 2)), 0, 0, false, []⟩])
   (.cond (.t 49) (.seg false [⟨some 50, none, .mov (.t 2), 0, 0, false, []⟩,
    ⟨some 51, none, .faddr 1 1 (.t 10), 0, 0, false, []⟩,
    ⟨some 52, none, .load false 1 (.t 51), 0, 0, false, []⟩,
    ⟨some 53, none, .iaddr 1 (.t 50) (.t 52), 0, 0, false, []⟩,
    ⟨some 54, none, .load false 1 (.t 53), 0, 0, false, []⟩,
    ⟨some 55, none, .faddr 1 1 (.t 10), 0, 0, false, []⟩,
    ⟨none, none, .store 1 (.t 55) (.t 54), 0, 0, false, []⟩])
   (.skip)))
   (.cutTo [1, 2, 7, 9, 10] (.seg false [⟨some 56, none, .mov (.t 7), 0, 0, false, []⟩,
    ⟨some 57, none, .load true 5 (.t 10), 0, 0, false, []⟩,
    ⟨some 58, none, .mksl false 5 [.t 57], 0, 0, false, []⟩,
    ⟨some 59, none, .app 5 (.t 56) (.t 58), 0, 0, false, []⟩,
    ⟨some 7, none, .mov (.t 59), 0, 0, false, []⟩]))))))
   (.cutTo [1, 2, 7, 9] (.seg false [⟨some 41, none, .mov (.t 9), 0, 0, false, []⟩,
    ⟨some 42, none, .bin .add (.t 41) (.k (.int .i64 1)), 0, 0, false, []⟩,
    ⟨some 9, none, .mov (.t 42), 0, 0, false, []⟩]))))
def L18x1 : C := B18x1
theorem evL18x1 (run : Run) (draw : List I → Env → Heap → Option (Env × Heap)) (e : Env) (h : Heap) : evC run draw L18x1 e h = evC run draw B18x1 e h := rfl
/-- loop.example/tablehouse/spec.ExprMoved -/
def F18 : F := ⟨61, [(false, 6, 0, false)],
   .seq (.seg false [⟨some 6, none, .nilrow 5, 0, 0, false, []⟩])
   (.seq (.seg false [⟨some 11, none, .mksl true 5 [], 0, 0, false, []⟩,
    ⟨some 7, none, .mov (.t 11), 0, 0, false, []⟩])
   (.seq (.seq (.seg false [⟨some 12, none, .mov (.t 0), 0, 0, false, []⟩,
    ⟨some 13, none, .mov (.t 1), 0, 0, false, []⟩,
    ⟨some 14, none, .call 44 [.t 12, .t 13] false false, 0, 0, false, []⟩,
    ⟨some 15, none, .bin .lss (.t 14) (.k (.int .i64 0)), 0, 0, false, []⟩,
    ⟨some 16, none, .mov (.t 15), 0, 0, false, []⟩,
    ⟨some 17, some (16, false), .mov (.t 2), 0, 0, false, []⟩,
    ⟨some 18, some (16, false), .len false (.t 17), 0, 0, false, []⟩,
    ⟨some 19, some (16, false), .mov (.t 0), 0, 0, false, []⟩,
    ⟨some 20, some (16, false), .len false (.t 19), 0, 0, false, []⟩,
    ⟨some 21, some (16, false), .bin .neq (.t 18) (.t 20), 0, 0, false, []⟩,
    ⟨some 22, none, .pick (.t 16) (.k (.bool true)) (.t 21), 0, 0, false, []⟩])
   (.cutTo [1, 2, 7, 22] (.cond (.t 22) (.seq (.seg false [⟨some 23, none, .mov (.t 7), 0, 0, false, []⟩,
    ⟨some 6, none, .mov (.t 23), 0, 0, false, []⟩])
   (.ret))
   (.skip))))
   (.cutTo [1, 2, 7] (.seq (.seq (.seg false [⟨some 8, none, .mov (.k (.int .i64 0)), 0, 0, false, []⟩])
   (.block 0 (.loop [1, 2, 7, 8] [1, 2, 6, 7] L18x0)))
   (.seq (.seq (.seg false [⟨some 9, none, .mov (.k (.int .i64 0)), 0, 0, false, []⟩])
   (.block 2 (.loop [1, 2, 7, 9] [7] L18x1)))
   (.seq (.seg false [⟨some 60, none, .mov (.t 7), 0, 0, false, []⟩,
    ⟨some 6, none, .mov (.t 60), 0, 0, false, []⟩])
   (.ret)))))))⟩
def E17x0 : List I := [⟨some 17, none, .mov (.t 0), 0, 0, false, []⟩,
    ⟨some 18, none, .mov (.t 5), 0, 0, false, []⟩,
    ⟨some 19, none, .iaddr 5 (.t 17) (.t 18), 0, 0, false, []⟩,
    ⟨some 20, none, .load true 5 (.t 19), 0, 0, false, []⟩,
    ⟨some 21, none, .mov (.t 1), 0, 0, false, []⟩,
    ⟨some 22, none, .mov (.t 5), 0, 0, false, []⟩,
    ⟨some 23, none, .iaddr 5 (.t 21) (.t 22), 0, 0, false, []⟩,
    ⟨some 24, none, .load true 5 (.t 23), 0, 0, false, []⟩,
    ⟨some 25, none, .eqs true [.int, .int, .int, .int, .str] (.t 20) (.t 24), 0, 0, false, []⟩]
def D17x0 : List I := E17x0
theorem evD17x0 (run : Run) (e : Env) (h : Heap) : drawI run D17x0 e h = DrawS (evQ run E17x0 e h) run E17x0 e h := drawI_quiet run _ (by rfl) e h
def B17x0 : C := .seq (.seq (.seg false [⟨some 11, none, .mov (.t 5), 0, 0, false, []⟩,
    ⟨some 12, none, .mov (.t 0), 0, 0, false, []⟩,
    ⟨some 13, none, .len false (.t 12), 0, 0, false, []⟩,
    ⟨some 14, none, .bin .lss (.t 11) (.t 13), 0, 0, false, []⟩])
   (.cutTo [0, 1, 5, 14] (.cond (.t 14) (.skip)
   (.exit 0))))
   (.cutTo [0, 1, 5] (.seq (.block 1 (.seq (.seg true D17x0)
   (.cutTo [0, 1, 5, 25] (.cond (.t 25) (.seq (.seg false [⟨some 4, none, .mov (.k (.bool false)), 0, 0, false, []⟩])
   (.ret))
   (.skip)))))
   (.cutTo [0, 1, 5] (.seg false [⟨some 15, none, .mov (.t 5), 0, 0, false, []⟩,
    ⟨some 16, none, .bin .add (.t 15) (.k (.int .i64 1)), 0, 0, false, []⟩,
    ⟨some 5, none, .mov (.t 16), 0, 0, false, []⟩]))))
def L17x0 : C := B17x0
theorem evL17x0 (run : Run) (draw : List I → Env → Heap → Option (Env × Heap)) (e : Env) (h : Heap) : evC run draw L17x0 e h = evC run draw B17x0 e h := rfl
/-- loop.example/tablehouse/laws.sameParts -/
def F17 : F := ⟨26, [(false, 4, 0, false)],
   .seq (.seg false [⟨some 4, none, .mov (.k (.bool false)), 0, 0, false, []⟩])
   (.seq (.seq (.seg false [⟨some 6, none, .mov (.t 0), 0, 0, false, []⟩,
    ⟨some 7, none, .len false (.t 6), 0, 0, false, []⟩,
    ⟨some 8, none, .mov (.t 1), 0, 0, false, []⟩,
    ⟨some 9, none, .len false (.t 8), 0, 0, false, []⟩,
    ⟨some 10, none, .bin .neq (.t 7) (.t 9), 0, 0, false, []⟩])
   (.cutTo [0, 1, 10] (.cond (.t 10) (.seq (.seg false [⟨some 4, none, .mov (.k (.bool false)), 0, 0, false, []⟩])
   (.ret))
   (.skip))))
   (.cutTo [0, 1] (.seq (.seq (.seg false [⟨some 5, none, .mov (.k (.int .i64 0)), 0, 0, false, []⟩])
   (.block 0 (.loop [0, 1, 5] [4] L17x0)))
   (.seq (.seg false [⟨some 4, none, .mov (.k (.bool true)), 0, 0, false, []⟩])
   (.ret)))))⟩
def E19x0 : List I := [⟨some 29, none, .faddr 0 1 (.t 6), 0, 0, false, []⟩,
    ⟨some 30, none, .load false 1 (.t 29), 0, 0, false, []⟩,
    ⟨some 31, none, .mov (.t 0), 0, 0, false, []⟩,
    ⟨some 32, none, .mov (.t 5), 0, 0, false, []⟩,
    ⟨some 33, none, .iaddr 2 (.t 31) (.t 32), 0, 0, false, []⟩,
    ⟨some 34, none, .faddr 0 1 (.t 33), 0, 0, false, []⟩,
    ⟨some 35, none, .load false 1 (.t 34), 0, 0, false, []⟩,
    ⟨some 36, none, .bin .neq (.t 30) (.t 35), 0, 0, false, []⟩,
    ⟨some 37, none, .mov (.t 36), 0, 0, false, []⟩,
    ⟨some 38, some (37, true), .faddr 0 1 (.t 6), 0, 0, false, []⟩,
    ⟨some 39, some (37, true), .load false 1 (.t 38), 0, 0, false, []⟩,
    ⟨some 40, some (37, true), .bin .neq (.t 39) (.k (.int .i64 0)), 0, 0, false, []⟩,
    ⟨some 41, some (37, true), .mov (.t 40), 0, 0, false, []⟩,
    ⟨some 42, some (41, false), .mov (.t 0), 0, 0, false, []⟩,
    ⟨some 43, some (41, false), .mov (.t 5), 0, 0, false, []⟩,
    ⟨some 44, some (41, false), .iaddr 2 (.t 42) (.t 43), 0, 0, false, []⟩,
    ⟨some 45, some (41, false), .faddr 1 1 (.t 44), 0, 0, false, []⟩,
    ⟨some 46, some (41, false), .load false 1 (.t 45), 0, 0, false, []⟩,
    ⟨some 47, some (41, false), .un .not (.t 46), 0, 0, false, []⟩,
    ⟨some 48, some (37, true), .pick (.t 41) (.k (.bool true)) (.t 47), 0, 0, false, []⟩,
    ⟨some 49, none, .pick (.t 37) (.t 48) (.k (.bool false)), 0, 0, false, []⟩]
def D19x0 : List I := E19x0
theorem evD19x0 (run : Run) (e : Env) (h : Heap) : drawI run D19x0 e h = DrawS (evQ run E19x0 e h) run E19x0 e h := drawI_quiet run _ (by rfl) e h
def B19x0 : C := .seq (.seg false [⟨some 25, none, .bin .lss (.t 24) (.t 23), 0, 0, false, []⟩])
   (.seq (.cond (.t 25) (.skip)
   (.exit 0))
   (.seq (.block 1 (.seq (.seg false [⟨some 26, none, .mov (.t 24), 0, 0, false, []⟩,
    ⟨some 27, none, .iaddr 3 (.t 22) (.t 24), 0, 0, false, []⟩,
    ⟨some 28, none, .load true 3 (.t 27), 0, 0, false, []⟩,
    ⟨some 6, none, .alloc [.int .i64 0, .int .i64 0, .str ⟨#[]⟩], 0, 0, false, []⟩,
    ⟨some 5, none, .mov (.t 26), 0, 0, false, []⟩,
    ⟨none, none, .store 3 (.t 6) (.t 28), 0, 0, false, []⟩])
   (.cutTo [0, 5, 6, 22, 23, 24] (.seq (.seg true D19x0)
   (.cutTo [0, 22, 23, 24, 49] (.cond (.t 49) (.seq (.seg false [⟨some 4, none, .mov (.k (.bool false)), 0, 0, false, []⟩])
   (.ret))
   (.skip)))))))
   (.cutTo [0, 22, 23, 24] (.seg false [⟨some 50, none, .bin .add (.t 24) (.k (.int .i64 1)), 0, 0, false, []⟩,
    ⟨some 24, none, .mov (.t 50), 0, 0, false, []⟩]))))
def L19x0 : C := B19x0
theorem evL19x0 (run : Run) (draw : List I → Env → Heap → Option (Env × Heap)) (e : Env) (h : Heap) : evC run draw L19x0 e h = evC run draw B19x0 e h := rfl
/-- loop.example/tablehouse/impl.RowFits -/
def F19 : F := ⟨51, [(false, 4, 0, false)],
   .seq (.seg false [⟨some 4, none, .mov (.k (.bool false)), 0, 0, false, []⟩])
   (.seq (.seq (.seg false [⟨some 7, none, .mov (.t 0), 0, 0, false, []⟩,
    ⟨some 8, none, .call 71 [.t 7] false false, 0, 0, false, []⟩,
    ⟨some 9, none, .un .not (.t 8), 0, 0, false, []⟩,
    ⟨some 10, none, .mov (.t 9), 0, 0, false, []⟩,
    ⟨some 11, some (10, false), .mov (.t 1), 0, 0, false, []⟩,
    ⟨some 12, some (10, false), .call 72 [.t 11] false false, 0, 0, false, []⟩,
    ⟨some 13, some (10, false), .un .not (.t 12), 0, 0, false, []⟩,
    ⟨some 14, none, .pick (.t 10) (.k (.bool true)) (.t 13), 0, 0, false, []⟩,
    ⟨some 15, none, .mov (.t 14), 0, 0, false, []⟩,
    ⟨some 16, some (15, false), .mov (.t 1), 0, 0, false, []⟩,
    ⟨some 17, some (15, false), .len false (.t 16), 0, 0, false, []⟩,
    ⟨some 18, some (15, false), .mov (.t 0), 0, 0, false, []⟩,
    ⟨some 19, some (15, false), .len false (.t 18), 0, 0, false, []⟩,
    ⟨some 20, some (15, false), .bin .neq (.t 17) (.t 19), 0, 0, false, []⟩,
    ⟨some 21, none, .pick (.t 15) (.k (.bool true)) (.t 20), 0, 0, false, []⟩])
   (.cutTo [0, 1, 21] (.cond (.t 21) (.seq (.seg false [⟨some 4, none, .mov (.k (.bool false)), 0, 0, false, []⟩])
   (.ret))
   (.skip))))
   (.cutTo [0, 1] (.seq (.seq (.seg false [⟨some 22, none, .mov (.t 1), 0, 0, false, []⟩,
    ⟨some 23, none, .len false (.t 22), 0, 0, false, []⟩,
    ⟨some 24, none, .mov (.k (.int .i64 0)), 0, 0, false, []⟩])
   (.block 0 (.loop [0, 22, 23, 24] [4] L19x0)))
   (.seq (.seg false [⟨some 4, none, .mov (.k (.bool true)), 0, 0, false, []⟩])
   (.ret)))))⟩
/-- loop.example/tablehouse/laws.alive -/
def F20 : F := ⟨8, [(false, 0, 0, false)],
   .seq (.seg false [⟨some 0, none, .mov (.k (.bool false)), 0, 0, false, []⟩])
   (.seq (.seg false [⟨some 1, none, .build [.int .i64 0, .int .i64 0, .str ⟨#[]⟩] [(0, 1, .k (.int .i64 1)), (1, 1, .k (.int .i64 3))], 0, 0, false, []⟩,
    ⟨some 2, none, .call 73 [.t 1] false false, 0, 0, false, []⟩,
    ⟨some 3, none, .mov (.t 2), 0, 0, false, []⟩,
    ⟨some 4, some (3, true), .build [.int .i64 0, .int .i64 0, .str ⟨#[]⟩] [(0, 1, .k (.int .i64 9))], 0, 0, false, []⟩,
    ⟨some 5, some (3, true), .call 73 [.t 4] false false, 0, 0, false, []⟩,
    ⟨some 6, some (3, true), .un .not (.t 5), 0, 0, false, []⟩,
    ⟨some 7, none, .pick (.t 3) (.t 6) (.k (.bool false)), 0, 0, false, []⟩,
    ⟨some 0, none, .mov (.t 7), 0, 0, false, []⟩])
   (.cutTo [0] (.ret)))⟩
/-- loop.example/tablehouse/impl.ExprValue -/
def F21 : F := ⟨21, [(true, 6, 3, true)],
   .seq (.seg false [⟨some 6, none, .alloc [.int .i64 0, .int .i64 0, .str ⟨#[]⟩], 0, 0, false, []⟩])
   (.seq (.seq (.seg false [⟨some 7, none, .mov (.t 0), 0, 0, false, []⟩,
    ⟨some 8, none, .mov (.t 2), 0, 0, false, []⟩,
    ⟨some 9, none, .call 43 [.t 7, .t 8] false false, 0, 0, false, []⟩,
    ⟨some 10, none, .bin .lss (.t 9) (.k (.int .i64 0)), 0, 0, false, []⟩,
    ⟨some 11, none, .mov (.t 10), 0, 0, false, []⟩,
    ⟨some 12, some (11, false), .mov (.t 0), 0, 0, false, []⟩,
    ⟨some 13, some (11, false), .mov (.t 1), 0, 0, false, []⟩,
    ⟨some 14, some (11, false), .call 19 [.t 12, .t 13] false false, 0, 0, false, []⟩,
    ⟨some 15, some (11, false), .un .not (.t 14), 0, 0, false, []⟩,
    ⟨some 16, none, .pick (.t 11) (.k (.bool true)) (.t 15), 0, 0, false, []⟩])
   (.cutTo [1, 2, 6, 16] (.cond (.t 16) (.seq (.seg false [⟨some 17, none, .build [.int .i64 0, .int .i64 0, .str ⟨#[]⟩] [], 0, 0, false, []⟩,
    ⟨none, none, .store 3 (.t 6) (.t 17), 0, 0, false, []⟩])
   (.ret))
   (.skip))))
   (.cutTo [1, 2, 6] (.seq (.seg false [⟨some 18, none, .mov (.t 1), 0, 0, false, []⟩,
    ⟨some 19, none, .mov (.t 2), 0, 0, false, []⟩,
    ⟨some 20, none, .call 74 [.t 18, .t 19] false false, 0, 0, false, []⟩,
    ⟨none, none, .store 3 (.t 6) (.t 20), 0, 0, false, []⟩])
   (.cutTo [6] (.ret)))))⟩
/-- loop.example/tablehouse/spec.DrawGuardsOk -/
def F34 : F := ⟨14, [(false, 2, 0, false), (false, 3, 0, false)],
   .seq (.seg false [⟨some 2, none, .mov (.k (.sl true 2 [])), 0, 0, false, []⟩,
    ⟨some 3, none, .mov (.k (.sl true 2 [])), 0, 0, false, []⟩])
   (.seq (.seg false [⟨some 6, none, .mov (.t 0), 0, 0, false, []⟩,
    ⟨some 7, none, .call 63 [.t 6] true true, 0, 0, false, []⟩,
    ⟨some 4, none, .mov (.t 7), 0, 0, false, []⟩])
   (.seq (.seg false [⟨some 8, none, .mov (.t 4), 0, 0, false, []⟩,
    ⟨some 9, none, .call 81 [.t 8, .k (.int .i64 0)] true false, 0, 0, false, []⟩,
    ⟨some 5, none, .mov (.t 9), 0, 0, false, []⟩])
   (.seq (.seg false [⟨some 10, none, .mov (.t 5), 0, 0, false, []⟩,
    ⟨some 11, none, .mov (.t 4), 0, 0, false, []⟩,
    ⟨some 12, none, .mov (.t 5), 0, 0, false, []⟩,
    ⟨some 13, none, .call 82 [.t 11, .t 12, .k (.int .i64 2)] true false, 0, 0, false, []⟩,
    ⟨some 2, none, .mov (.t 10), 0, 0, false, []⟩,
    ⟨some 3, none, .mov (.t 13), 0, 0, false, []⟩])
   (.cutTo [2, 3] (.ret)))))⟩
def E35x0 : List I := [⟨some 17, none, .faddr 0 1 (.t 6), 0, 0, false, []⟩,
    ⟨some 18, none, .load false 1 (.t 17), 0, 0, false, []⟩,
    ⟨some 19, none, .mov (.t 0), 0, 0, false, []⟩,
    ⟨some 20, none, .len false (.t 19), 0, 0, false, []⟩,
    ⟨some 21, none, .bin .sub (.t 20) (.k (.int .i64 1)), 0, 0, false, []⟩,
    ⟨some 22, none, .call 68 [.t 18, .k (.int .i64 0), .t 21] false false, 0, 0, false, []⟩,
    ⟨some 23, none, .un .not (.t 22), 0, 0, false, []⟩,
    ⟨some 24, none, .mov (.t 23), 0, 0, false, []⟩,
    ⟨some 25, some (24, false), .mov (.t 5), 0, 0, false, []⟩,
    ⟨some 26, some (24, false), .bin .gtr (.t 25) (.k (.int .i64 0)), 0, 0, false, []⟩,
    ⟨some 27, some (24, false), .mov (.t 26), 0, 0, false, []⟩,
    ⟨some 28, some (27, true), .mov (.t 1), 0, 0, false, []⟩,
    ⟨some 29, some (27, true), .mov (.t 5), 0, 0, false, []⟩,
    ⟨some 30, some (27, true), .bin .sub (.t 29) (.k (.int .i64 1)), 0, 0, false, []⟩,
    ⟨some 31, some (27, true), .iaddr 2 (.t 28) (.t 30), 0, 0, false, []⟩,
    ⟨some 32, some (27, true), .faddr 0 1 (.t 31), 0, 0, false, []⟩,
    ⟨some 33, some (27, true), .load false 1 (.t 32), 0, 0, false, []⟩,
    ⟨some 34, some (27, true), .faddr 0 1 (.t 6), 0, 0, false, []⟩,
    ⟨some 35, some (27, true), .load false 1 (.t 34), 0, 0, false, []⟩,
    ⟨some 36, some (27, true), .bin .geq (.t 33) (.t 35), 0, 0, false, []⟩,
    ⟨some 37, some (24, false), .pick (.t 27) (.t 36) (.k (.bool false)), 0, 0, false, []⟩,
    ⟨some 38, none, .pick (.t 24) (.k (.bool true)) (.t 37), 0, 0, false, []⟩,
    ⟨some 39, none, .mov (.t 38), 0, 0, false, []⟩,
    ⟨some 40, some (39, false), .mov (.t 0), 0, 0, false, []⟩,
    ⟨some 41, some (39, false), .faddr 0 1 (.t 6), 0, 0, false, []⟩,
    ⟨some 42, some (39, false), .load false 1 (.t 41), 0, 0, false, []⟩,
    ⟨some 43, some (39, false), .iaddr 2 (.t 40) (.t 42), 0, 0, false, []⟩,
    ⟨some 44, some (39, false), .faddr 0 1 (.t 43), 0, 0, false, []⟩,
    ⟨some 45, some (39, false), .load false 1 (.t 44), 0, 0, false, []⟩,
    ⟨some 46, some (39, false), .faddr 1 1 (.t 6), 0, 0, false, []⟩,
    ⟨some 47, some (39, false), .load false 1 (.t 46), 0, 0, false, []⟩,
    ⟨some 48, some (39, false), .call 43 [.t 45, .t 47] false false, 0, 0, false, []⟩,
    ⟨some 49, some (39, false), .bin .neq (.t 48) (.k (.int .i64 3)), 0, 0, false, []⟩,
    ⟨some 50, none, .pick (.t 39) (.k (.bool true)) (.t 49), 0, 0, false, []⟩]
def D35x0 : List I := E35x0
theorem evD35x0 (run : Run) (e : Env) (h : Heap) : drawI run D35x0 e h = DrawS (evQ run E35x0 e h) run E35x0 e h := drawI_quiet run _ (by rfl) e h
def B35x0 : C := .seq (.seg false [⟨some 13, none, .bin .lss (.t 12) (.t 11), 0, 0, false, []⟩])
   (.seq (.cond (.t 13) (.skip)
   (.exit 0))
   (.seq (.block 1 (.seq (.seg false [⟨some 14, none, .mov (.t 12), 0, 0, false, []⟩,
    ⟨some 15, none, .iaddr 2 (.t 10) (.t 12), 0, 0, false, []⟩,
    ⟨some 16, none, .load true 2 (.t 15), 0, 0, false, []⟩,
    ⟨some 6, none, .alloc [.int .i64 0, .sl true 5 []], 0, 0, false, []⟩,
    ⟨some 5, none, .mov (.t 14), 0, 0, false, []⟩,
    ⟨none, none, .store 2 (.t 6) (.t 16), 0, 0, false, []⟩])
   (.cutTo [0, 1, 5, 6, 10, 11, 12] (.seq (.seg true D35x0)
   (.cutTo [0, 1, 10, 11, 12, 50] (.cond (.t 50) (.seq (.seg false [⟨some 4, none, .mov (.k (.bool false)), 0, 0, false, []⟩])
   (.ret))
   (.skip)))))))
   (.cutTo [0, 1, 10, 11, 12] (.seg false [⟨some 51, none, .bin .add (.t 12) (.k (.int .i64 1)), 0, 0, false, []⟩,
    ⟨some 12, none, .mov (.t 51), 0, 0, false, []⟩]))))
def L35x0 : C := B35x0
theorem evL35x0 (run : Run) (draw : List I → Env → Heap → Option (Env × Heap)) (e : Env) (h : Heap) : evC run draw L35x0 e h = evC run draw B35x0 e h := rfl
/-- loop.example/tablehouse/impl.GuardsOk -/
def F35 : F := ⟨52, [(false, 4, 0, false)],
   .seq (.seg false [⟨some 4, none, .mov (.k (.bool false)), 0, 0, false, []⟩])
   (.seq (.seq (.seg false [⟨some 7, none, .mov (.t 0), 0, 0, false, []⟩,
    ⟨some 8, none, .call 37 [.t 7] false false, 0, 0, false, []⟩,
    ⟨some 9, none, .un .not (.t 8), 0, 0, false, []⟩])
   (.cond (.t 9) (.seq (.seg false [⟨some 4, none, .mov (.k (.bool false)), 0, 0, false, []⟩])
   (.ret))
   (.skip)))
   (.cutTo [0, 1] (.seq (.seq (.seg false [⟨some 10, none, .mov (.t 1), 0, 0, false, []⟩,
    ⟨some 11, none, .len false (.t 10), 0, 0, false, []⟩,
    ⟨some 12, none, .mov (.k (.int .i64 0)), 0, 0, false, []⟩])
   (.block 0 (.loop [0, 1, 10, 11, 12] [4] L35x0)))
   (.seq (.seg false [⟨some 4, none, .mov (.k (.bool true)), 0, 0, false, []⟩])
   (.ret)))))⟩
def E36x0 : List I := [⟨some 17, none, .faddr 0 1 (.t 6), 0, 0, false, []⟩,
    ⟨some 18, none, .load false 1 (.t 17), 0, 0, false, []⟩,
    ⟨some 19, none, .mov (.t 0), 0, 0, false, []⟩,
    ⟨some 20, none, .len false (.t 19), 0, 0, false, []⟩,
    ⟨some 21, none, .bin .sub (.t 20) (.k (.int .i64 1)), 0, 0, false, []⟩,
    ⟨some 22, none, .call 70 [.t 18, .k (.int .i64 0), .t 21] false false, 0, 0, false, []⟩,
    ⟨some 23, none, .un .not (.t 22), 0, 0, false, []⟩,
    ⟨some 24, none, .mov (.t 23), 0, 0, false, []⟩,
    ⟨some 25, some (24, false), .mov (.t 0), 0, 0, false, []⟩,
    ⟨some 26, some (24, false), .faddr 0 1 (.t 6), 0, 0, false, []⟩,
    ⟨some 27, some (24, false), .load false 1 (.t 26), 0, 0, false, []⟩,
    ⟨some 28, some (24, false), .iaddr 2 (.t 25) (.t 27), 0, 0, false, []⟩,
    ⟨some 29, some (24, false), .faddr 0 1 (.t 28), 0, 0, false, []⟩,
    ⟨some 30, some (24, false), .load false 1 (.t 29), 0, 0, false, []⟩,
    ⟨some 31, some (24, false), .faddr 1 1 (.t 6), 0, 0, false, []⟩,
    ⟨some 32, some (24, false), .load false 1 (.t 31), 0, 0, false, []⟩,
    ⟨some 33, some (24, false), .call 44 [.t 30, .t 32] false false, 0, 0, false, []⟩,
    ⟨some 34, some (24, false), .bin .neq (.t 33) (.k (.int .i64 3)), 0, 0, false, []⟩,
    ⟨some 35, none, .pick (.t 24) (.k (.bool true)) (.t 34), 0, 0, false, []⟩,
    ⟨some 36, none, .mov (.t 35), 0, 0, false, []⟩,
    ⟨some 37, some (36, false), .mov (.t 5), 0, 0, false, []⟩,
    ⟨some 38, some (36, false), .bin .gtr (.t 37) (.k (.int .i64 0)), 0, 0, false, []⟩,
    ⟨some 39, some (36, false), .mov (.t 38), 0, 0, false, []⟩,
    ⟨some 40, some (39, true), .mov (.t 1), 0, 0, false, []⟩,
    ⟨some 41, some (39, true), .mov (.t 5), 0, 0, false, []⟩,
    ⟨some 42, some (39, true), .bin .sub (.t 41) (.k (.int .i64 1)), 0, 0, false, []⟩,
    ⟨some 43, some (39, true), .iaddr 2 (.t 40) (.t 42), 0, 0, false, []⟩,
    ⟨some 44, some (39, true), .faddr 0 1 (.t 43), 0, 0, false, []⟩,
    ⟨some 45, some (39, true), .load false 1 (.t 44), 0, 0, false, []⟩,
    ⟨some 46, some (39, true), .faddr 0 1 (.t 6), 0, 0, false, []⟩,
    ⟨some 47, some (39, true), .load false 1 (.t 46), 0, 0, false, []⟩,
    ⟨some 48, some (39, true), .bin .geq (.t 45) (.t 47), 0, 0, false, []⟩,
    ⟨some 49, some (36, false), .pick (.t 39) (.t 48) (.k (.bool false)), 0, 0, false, []⟩,
    ⟨some 50, none, .pick (.t 36) (.k (.bool true)) (.t 49), 0, 0, false, []⟩]
def D36x0 : List I := E36x0
theorem evD36x0 (run : Run) (e : Env) (h : Heap) : drawI run D36x0 e h = DrawS (evQ run E36x0 e h) run E36x0 e h := drawI_quiet run _ (by rfl) e h
def B36x0 : C := .seq (.seq (.seg false [⟨some 7, none, .mov (.t 5), 0, 0, false, []⟩,
    ⟨some 8, none, .mov (.t 1), 0, 0, false, []⟩,
    ⟨some 9, none, .len false (.t 8), 0, 0, false, []⟩,
    ⟨some 10, none, .bin .lss (.t 7) (.t 9), 0, 0, false, []⟩])
   (.cutTo [0, 1, 5, 10] (.cond (.t 10) (.skip)
   (.exit 0))))
   (.cutTo [0, 1, 5] (.seq (.block 1 (.seq (.seg false [⟨some 13, none, .mov (.t 1), 0, 0, false, []⟩,
    ⟨some 14, none, .mov (.t 5), 0, 0, false, []⟩,
    ⟨some 15, none, .iaddr 2 (.t 13) (.t 14), 0, 0, false, []⟩,
    ⟨some 16, none, .load true 2 (.t 15), 0, 0, false, []⟩,
    ⟨some 6, none, .alloc [.int .i64 0, .sl true 5 []], 0, 0, false, []⟩,
    ⟨none, none, .store 2 (.t 6) (.t 16), 0, 0, false, []⟩])
   (.cutTo [0, 1, 5, 6] (.seq (.seg true D36x0)
   (.cutTo [0, 1, 5, 50] (.cond (.t 50) (.seq (.seg false [⟨some 4, none, .mov (.k (.bool false)), 0, 0, false, []⟩])
   (.ret))
   (.skip)))))))
   (.cutTo [0, 1, 5] (.seg false [⟨some 11, none, .mov (.t 5), 0, 0, false, []⟩,
    ⟨some 12, none, .bin .add (.t 11) (.k (.int .i64 1)), 0, 0, false, []⟩,
    ⟨some 5, none, .mov (.t 12), 0, 0, false, []⟩]))))
def L36x0 : C := B36x0
theorem evL36x0 (run : Run) (draw : List I → Env → Heap → Option (Env × Heap)) (e : Env) (h : Heap) : evC run draw L36x0 e h = evC run draw B36x0 e h := rfl
/-- loop.example/tablehouse/spec.GuardsOk -/
def F36 : F := ⟨53, [(false, 4, 0, false)],
   .seq (.seg false [⟨some 4, none, .mov (.k (.bool false)), 0, 0, false, []⟩])
   (.seq (.seq (.seg false [⟨some 5, none, .mov (.k (.int .i64 0)), 0, 0, false, []⟩])
   (.block 0 (.loop [0, 1, 5] [0, 4] L36x0)))
   (.seq (.seg false [⟨some 51, none, .mov (.t 0), 0, 0, false, []⟩,
    ⟨some 52, none, .call 83 [.t 51] false false, 0, 0, false, []⟩,
    ⟨some 4, none, .mov (.t 52), 0, 0, false, []⟩])
   (.ret)))⟩
/-- loop.example/tablehouse/impl.TablesOk -/
def F37 : F := ⟨11, [(false, 2, 0, false)],
   .seq (.seg false [⟨some 2, none, .mov (.k (.bool false)), 0, 0, false, []⟩])
   (.seq (.seg false [⟨some 3, none, .mov (.t 0), 0, 0, false, []⟩,
    ⟨some 4, none, .len false (.t 3), 0, 0, false, []⟩,
    ⟨some 5, none, .bin .leq (.t 4) (.k (.int .i64 3)), 0, 0, false, []⟩,
    ⟨some 6, none, .mov (.t 5), 0, 0, false, []⟩,
    ⟨some 7, some (6, true), .mov (.t 0), 0, 0, false, []⟩,
    ⟨some 8, some (6, true), .call 84 [.t 7, .k (.clo 85 [])] true false, 0, 0, false, []⟩,
    ⟨some 9, some (6, true), .un .not (.t 8), 0, 0, false, []⟩,
    ⟨some 10, none, .pick (.t 6) (.t 9) (.k (.bool false)), 0, 0, false, []⟩,
    ⟨some 2, none, .mov (.t 10), 0, 0, false, []⟩])
   (.cutTo [2] (.ret)))⟩
/-- loop.example/tablehouse/spec.DrawRejects -/
def F38 : F := ⟨21, [(false, 2, 0, false), (false, 3, 0, false), (false, 4, 0, false)],
   .seq (.seg false [⟨some 2, none, .mov (.k (.sl true 2 [])), 0, 0, false, []⟩,
    ⟨some 3, none, .mov (.k (.sl true 5 [])), 0, 0, false, []⟩,
    ⟨some 4, none, .mov (.k (.int .i64 0)), 0, 0, false, []⟩])
   (.seq (.seg false [⟨some 7, none, .mov (.t 0), 0, 0, false, []⟩,
    ⟨some 8, none, .call 63 [.t 7] true true, 0, 0, false, []⟩,
    ⟨some 5, none, .mov (.t 8), 0, 0, false, []⟩])
   (.seq (.seg false [⟨some 9, none, .mov (.t 5), 0, 0, false, []⟩,
    ⟨some 10, none, .call 87 [.t 9, .k (.int .i64 0)] true false, 0, 0, false, []⟩,
    ⟨some 11, none, .call 86 [.t 10] false false, 0, 0, false, []⟩,
    ⟨some 6, none, .mov (.t 11), 0, 0, false, []⟩])
   (.cutTo [5, 6] (.seq (.seg false [⟨some 12, none, .mov (.t 6), 0, 0, false, []⟩,
    ⟨some 13, none, .mov (.t 5), 0, 0, false, []⟩,
    ⟨some 14, none, .mov (.t 6), 0, 0, false, []⟩,
    ⟨some 15, none, .call 88 [.t 13, .t 14, .k (.int .i64 3), .k (.int .i64 3)] true false, 0, 0, false, []⟩,
    ⟨some 16, none, .mov (.t 5), 0, 0, false, []⟩,
    ⟨some 17, none, .mov (.t 6), 0, 0, false, []⟩,
    ⟨some 18, none, .len false (.t 17), 0, 0, false, []⟩,
    ⟨some 19, none, .bin .add (.t 18) (.k (.int .i64 1)), 0, 0, false, []⟩,
    ⟨some 20, none, .call 65 [.t 16, .t 19] true false, 0, 0, false, []⟩,
    ⟨some 2, none, .mov (.t 12), 0, 0, false, []⟩,
    ⟨some 3, none, .mov (.t 15), 0, 0, false, []⟩,
    ⟨some 4, none, .mov (.t 20), 0, 0, false, []⟩])
   (.cutTo [2, 3, 4] (.ret))))))⟩
def E39x0 : List I := [⟨some 27, none, .load true 5 (.t 9), 0, 1, false, []⟩,
    ⟨some 28, none, .mov (.t 7), 0, 1, false, []⟩,
    ⟨some 29, none, .mov (.t 10), 0, 1, false, []⟩,
    ⟨some 30, none, .slc false 3 (.t 28) (some (.t 29)) none none, 0, 1, false, []⟩,
    ⟨some 31, none, .mov (.t 2), 0, 1, false, []⟩,
    ⟨some 32, none, .call 90 [.t 27, .t 30, .t 31] false false, 0, 1, false, []⟩,
    ⟨some 11, none, .alloc [.bool false, .bool false, .bool false], 0, 0, true, []⟩,
    ⟨none, none, .store 3 (.t 11) (.t 32), 1, 0, true, []⟩]
def D39x0 : List I := E39x0
theorem evD39x0 (run : Run) (e : Env) (h : Heap) : drawI run D39x0 e h = DrawW (evW run E39x0 e h []) run E39x0 e h := drawI_write run _ e h
def E39x1 : List I := [⟨some 33, none, .mov (.t 7), 0, 0, false, [7]⟩,
    ⟨some 34, none, .mov (.t 10), 0, 0, false, []⟩,
    ⟨some 35, none, .slc false 3 (.t 33) none (some (.t 34)) none, 0, 0, false, []⟩,
    ⟨some 36, none, .load true 3 (.t 11), 0, 0, false, []⟩,
    ⟨some 37, none, .mksl false 3 [.t 36], 0, 0, false, []⟩,
    ⟨some 38, none, .app 3 (.t 35) (.t 37), 0, 0, true, []⟩,
    ⟨some 7, none, .mov (.t 38), 1, 1, false, []⟩]
def D39x1 : List I := E39x1
theorem evD39x1 (run : Run) (e : Env) (h : Heap) : drawI run D39x1 e h = DrawW (evW run E39x1 e h []) run E39x1 e h := drawI_write run _ e h
def B39x0 : C := .seq (.seg false [⟨some 19, none, .bin .lss (.t 18) (.t 17), 0, 0, false, []⟩])
   (.seq (.cond (.t 19) (.skip)
   (.exit 0))
   (.seq (.block 1 (.seq (.seg false [⟨some 20, none, .iaddr 5 (.t 16) (.t 18), 0, 0, false, []⟩,
    ⟨some 21, none, .load true 5 (.t 20), 0, 0, false, []⟩,
    ⟨some 9, none, .alloc [.int .i64 0, .int .i64 0, .int .i64 0, .int .i64 0, .str ⟨#[]⟩], 0, 0, false, []⟩,
    ⟨none, none, .store 5 (.t 9) (.t 21), 0, 0, false, []⟩])
   (.cutTo [2, 7, 9, 16, 17, 18] (.seq (.seg false [⟨some 22, none, .mov (.t 7), 0, 0, false, []⟩,
    ⟨some 23, none, .len false (.t 22), 0, 0, false, []⟩,
    ⟨some 24, none, .load true 5 (.t 9), 0, 0, false, []⟩,
    ⟨some 25, none, .call 89 [.t 24] false false, 0, 0, false, []⟩,
    ⟨some 26, none, .bin .sub (.t 23) (.t 25), 0, 0, false, []⟩,
    ⟨some 10, none, .mov (.t 26), 0, 0, false, []⟩])
   (.cutTo [2, 7, 9, 10, 16, 17, 18] (.seq (.seg true D39x0)
   (.cutTo [2, 7, 10, 11, 16, 17, 18] (.seg true D39x1))))))))
   (.cutTo [2, 7, 16, 17, 18] (.seg false [⟨some 39, none, .bin .add (.t 18) (.k (.int .i64 1)), 0, 0, false, []⟩,
    ⟨some 18, none, .mov (.t 39), 0, 0, false, []⟩]))))
def L39x0 : C := B39x0
theorem evL39x0 (run : Run) (draw : List I → Env → Heap → Option (Env × Heap)) (e : Env) (h : Heap) : evC run draw L39x0 e h = evC run draw B39x0 e h := rfl
/-- loop.example/tablehouse/impl.Rejects -/
def F39 : F := ⟨44, [(false, 6, 0, false)],
   .seq (.seg false [⟨some 6, none, .mov (.k (.bool false)), 0, 0, false, []⟩])
   (.seq (.seq (.seg false [⟨some 12, none, .mov (.t 0), 0, 0, false, []⟩,
    ⟨some 13, none, .mov (.t 1), 0, 0, false, []⟩,
    ⟨some 14, none, .call 43 [.t 12, .t 13] false false, 0, 0, false, []⟩,
    ⟨some 15, none, .bin .neq (.t 14) (.k (.int .i64 3)), 0, 0, false, []⟩])
   (.cutTo [1, 2, 15] (.cond (.t 15) (.seq (.seg false [⟨some 6, none, .mov (.k (.bool false)), 0, 0, false, []⟩])
   (.ret))
   (.skip))))
   (.cutTo [1, 2] (.seq (.seg false [⟨some 7, none, .nilrow 3, 0, 0, false, []⟩])
   (.seq (.seq (.seg false [⟨some 16, none, .mov (.t 1), 0, 0, false, []⟩,
    ⟨some 17, none, .len false (.t 16), 0, 0, false, []⟩,
    ⟨some 18, none, .mov (.k (.int .i64 0)), 0, 0, false, []⟩])
   (.block 0 (.loop [2, 7, 16, 17, 18] [7] L39x0)))
   (.seq (.seg false [⟨some 40, none, .mov (.t 7), 0, 0, false, []⟩,
    ⟨some 41, none, .iaddr 3 (.t 40) (.k (.int .i64 0)), 0, 0, false, []⟩,
    ⟨some 42, none, .faddr 1 1 (.t 41), 0, 0, false, []⟩,
    ⟨some 43, none, .load false 1 (.t 42), 0, 0, false, []⟩,
    ⟨some 6, none, .mov (.t 43), 0, 0, false, []⟩])
   (.cutTo [6] (.ret)))))))⟩
def B40x0 : C := .seq (.seq (.seg false [⟨some 14, none, .mov (.t 8), 0, 0, false, []⟩,
    ⟨some 15, none, .mov (.t 1), 0, 0, false, []⟩,
    ⟨some 16, none, .len false (.t 15), 0, 0, false, []⟩,
    ⟨some 17, none, .bin .lss (.t 14) (.t 16), 0, 0, false, []⟩])
   (.cutTo [1, 2, 7, 8, 17] (.cond (.t 17) (.skip)
   (.exit 0))))
   (.cutTo [1, 2, 7, 8] (.seq (.block 1 (.seg false [⟨some 20, none, .mov (.t 7), 0, 0, false, []⟩,
    ⟨some 21, none, .mov (.t 1), 0, 0, false, []⟩,
    ⟨some 22, none, .mov (.t 8), 0, 0, false, []⟩,
    ⟨some 23, none, .iaddr 5 (.t 21) (.t 22), 0, 0, false, []⟩,
    ⟨some 24, none, .load true 5 (.t 23), 0, 0, false, []⟩,
    ⟨some 25, none, .mov (.t 2), 0, 0, false, []⟩,
    ⟨some 26, none, .call 91 [.t 20, .t 24, .t 25] true true, 0, 0, false, []⟩,
    ⟨some 7, none, .mov (.t 26), 0, 0, false, []⟩]))
   (.cutTo [1, 2, 7, 8] (.seg false [⟨some 18, none, .mov (.t 8), 0, 0, false, []⟩,
    ⟨some 19, none, .bin .add (.t 18) (.k (.int .i64 1)), 0, 0, false, []⟩,
    ⟨some 8, none, .mov (.t 19), 0, 0, false, []⟩]))))
def L40x0 : C := B40x0
theorem evL40x0 (run : Run) (draw : List I → Env → Heap → Option (Env × Heap)) (e : Env) (h : Heap) : evC run draw L40x0 e h = evC run draw B40x0 e h := rfl
/-- loop.example/tablehouse/spec.Rejects -/
def F40 : F := ⟨31, [(false, 6, 0, false)],
   .seq (.seg false [⟨some 6, none, .mov (.k (.bool false)), 0, 0, false, []⟩])
   (.seq (.seq (.seg false [⟨some 9, none, .mov (.t 0), 0, 0, false, []⟩,
    ⟨some 10, none, .mov (.t 1), 0, 0, false, []⟩,
    ⟨some 11, none, .call 44 [.t 9, .t 10] false false, 0, 0, false, []⟩,
    ⟨some 12, none, .bin .neq (.t 11) (.k (.int .i64 3)), 0, 0, false, []⟩])
   (.cutTo [1, 2, 12] (.cond (.t 12) (.seq (.seg false [⟨some 6, none, .mov (.k (.bool false)), 0, 0, false, []⟩])
   (.ret))
   (.skip))))
   (.cutTo [1, 2] (.seq (.seg false [⟨some 13, none, .mksl true 3 [], 0, 0, false, []⟩,
    ⟨some 7, none, .mov (.t 13), 0, 0, false, []⟩])
   (.seq (.seq (.seg false [⟨some 8, none, .mov (.k (.int .i64 0)), 0, 0, false, []⟩])
   (.block 0 (.loop [1, 2, 7, 8] [7] L40x0)))
   (.seq (.seg false [⟨some 27, none, .mov (.t 7), 0, 0, false, []⟩,
    ⟨some 28, none, .iaddr 3 (.t 27) (.k (.int .i64 0)), 0, 0, false, []⟩,
    ⟨some 29, none, .faddr 1 1 (.t 28), 0, 0, false, []⟩,
    ⟨some 30, none, .load false 1 (.t 29), 0, 0, false, []⟩,
    ⟨some 6, none, .mov (.t 30), 0, 0, false, []⟩])
   (.cutTo [6] (.ret)))))))⟩
/-- loop.example/tablehouse/impl.ExprHolds -/
def F41 : F := ⟨21, [(false, 6, 0, false)],
   .seq (.seg false [⟨some 6, none, .mov (.k (.bool false)), 0, 0, false, []⟩])
   (.seq (.seg false [⟨some 7, none, .mov (.t 0), 0, 0, false, []⟩,
    ⟨some 8, none, .mov (.t 2), 0, 0, false, []⟩,
    ⟨some 9, none, .call 43 [.t 7, .t 8] false false, 0, 0, false, []⟩,
    ⟨some 10, none, .bin .eql (.t 9) (.k (.int .i64 3)), 0, 0, false, []⟩,
    ⟨some 11, none, .mov (.t 10), 0, 0, false, []⟩,
    ⟨some 12, some (11, true), .mov (.t 0), 0, 0, false, []⟩,
    ⟨some 13, some (11, true), .mov (.t 1), 0, 0, false, []⟩,
    ⟨some 14, some (11, true), .call 19 [.t 12, .t 13] false false, 0, 0, false, []⟩,
    ⟨some 15, none, .pick (.t 11) (.t 14) (.k (.bool false)), 0, 0, false, []⟩,
    ⟨some 16, none, .mov (.t 15), 0, 0, false, []⟩,
    ⟨some 17, some (16, true), .mov (.t 1), 0, 0, false, []⟩,
    ⟨some 18, some (16, true), .mov (.t 2), 0, 0, false, []⟩,
    ⟨some 19, some (16, true), .call 92 [.t 17, .t 18] false false, 0, 0, false, []⟩,
    ⟨some 20, none, .pick (.t 16) (.t 19) (.k (.bool false)), 0, 0, false, []⟩,
    ⟨some 6, none, .mov (.t 20), 0, 0, false, []⟩])
   (.cutTo [6] (.ret)))⟩
/-- loop.example/tablehouse/spec.DrawTwoTests -/
def F42 : F := ⟨22, [(false, 2, 0, false), (false, 3, 0, false), (false, 4, 0, false), (false, 5, 0, false)],
   .seq (.seg false [⟨some 2, none, .mov (.k (.sl true 2 [])), 0, 0, false, []⟩,
    ⟨some 3, none, .mov (.k (.sl true 3 [])), 0, 0, false, []⟩,
    ⟨some 4, none, .mov (.k (.sl true 5 [])), 0, 0, false, []⟩,
    ⟨some 5, none, .mov (.k (.sl true 5 [])), 0, 0, false, []⟩])
   (.cutTo [0] (.seq (.seg false [⟨some 8, none, .mov (.t 0), 0, 0, false, []⟩,
    ⟨some 9, none, .call 63 [.t 8] true true, 0, 0, false, []⟩,
    ⟨some 6, none, .mov (.t 9), 0, 0, false, []⟩])
   (.seq (.seg false [⟨some 10, none, .mov (.t 6), 0, 0, false, []⟩,
    ⟨some 11, none, .call 87 [.t 10, .k (.int .i64 0)] true false, 0, 0, false, []⟩,
    ⟨some 7, none, .mov (.t 11), 0, 0, false, []⟩])
   (.seq (.seg false [⟨some 12, none, .mov (.t 7), 0, 0, false, []⟩,
    ⟨some 13, none, .mov (.t 6), 0, 0, false, []⟩,
    ⟨some 14, none, .mov (.t 7), 0, 0, false, []⟩,
    ⟨some 15, none, .call 93 [.t 13, .t 14, .k (.int .i64 0)] true false, 0, 0, false, []⟩,
    ⟨some 16, none, .mov (.t 6), 0, 0, false, []⟩,
    ⟨some 17, none, .mov (.t 7), 0, 0, false, []⟩,
    ⟨some 18, none, .call 88 [.t 16, .t 17, .k (.int .i64 3), .k (.int .i64 1)] true false, 0, 0, false, []⟩,
    ⟨some 19, none, .mov (.t 6), 0, 0, false, []⟩,
    ⟨some 20, none, .mov (.t 7), 0, 0, false, []⟩,
    ⟨some 21, none, .call 88 [.t 19, .t 20, .k (.int .i64 3), .k (.int .i64 1)] true false, 0, 0, false, []⟩,
    ⟨some 2, none, .mov (.t 12), 0, 0, false, []⟩,
    ⟨some 3, none, .mov (.t 15), 0, 0, false, []⟩,
    ⟨some 4, none, .mov (.t 18), 0, 0, false, []⟩,
    ⟨some 5, none, .mov (.t 21), 0, 0, false, []⟩])
   (.cutTo [2, 3, 4, 5] (.ret))))))⟩
def E43x0 : List I := [⟨some 38, none, .load true 5 (.t 7), 0, 0, false, []⟩,
    ⟨some 39, none, .mov (.t 0), 0, 0, false, []⟩,
    ⟨some 40, none, .mov (.t 5), 0, 0, false, []⟩,
    ⟨some 41, none, .mov (.t 5), 0, 0, false, []⟩,
    ⟨some 42, none, .len false (.t 41), 0, 0, false, []⟩,
    ⟨some 43, none, .mov (.t 8), 0, 0, false, []⟩,
    ⟨some 44, none, .bin .sub (.t 42) (.t 43), 0, 0, false, []⟩,
    ⟨some 45, none, .slc false 1 (.t 40) (some (.t 44)) none none, 0, 0, false, []⟩,
    ⟨some 46, none, .call 95 [.t 38, .t 39, .t 45] false false, 0, 0, false, []⟩,
    ⟨some 37, none, .mov (.t 46), 0, 0, false, []⟩,
    ⟨some 47, none, .ext (.t 37) 0, 0, 0, false, []⟩,
    ⟨some 48, none, .ext (.t 37) 1, 0, 0, false, []⟩,
    ⟨some 9, none, .mov (.t 47), 0, 0, false, []⟩,
    ⟨some 10, none, .mov (.t 48), 0, 0, false, []⟩]
def D43x0 : List I := E43x0
theorem evD43x0 (run : Run) (e : Env) (h : Heap) : drawI run D43x0 e h = DrawS (evQ run E43x0 e h) run E43x0 e h := drawI_quiet run _ (by rfl) e h
def B43x0 : C := .seq (.seg false [⟨some 22, none, .bin .lss (.t 21) (.t 20), 0, 0, false, []⟩])
   (.seq (.cond (.t 22) (.skip)
   (.exit 0))
   (.seq (.block 1 (.seq (.seg false [⟨some 23, none, .iaddr 5 (.t 19) (.t 21), 0, 0, false, []⟩,
    ⟨some 24, none, .load true 5 (.t 23), 0, 0, false, []⟩,
    ⟨some 7, none, .alloc [.int .i64 0, .int .i64 0, .int .i64 0, .int .i64 0, .str ⟨#[]⟩], 0, 0, false, []⟩,
    ⟨none, none, .store 5 (.t 7) (.t 24), 0, 0, false, []⟩])
   (.cutTo [0, 5, 7, 19, 20, 21] (.seq (.seg false [⟨some 25, none, .load true 5 (.t 7), 0, 0, false, []⟩,
    ⟨some 26, none, .call 89 [.t 25] false false, 0, 0, false, []⟩,
    ⟨some 8, none, .mov (.t 26), 0, 0, false, []⟩])
   (.seq (.seq (.seg false [⟨some 27, none, .load true 5 (.t 7), 0, 0, false, []⟩,
    ⟨some 28, none, .mov (.t 0), 0, 0, false, []⟩,
    ⟨some 29, none, .call 94 [.t 27, .t 28] false false, 0, 0, false, []⟩,
    ⟨some 30, none, .un .not (.t 29), 0, 0, false, []⟩,
    ⟨some 31, none, .mov (.t 30), 0, 0, false, []⟩,
    ⟨some 32, some (31, false), .mov (.t 5), 0, 0, false, []⟩,
    ⟨some 33, some (31, false), .len false (.t 32), 0, 0, false, []⟩,
    ⟨some 34, some (31, false), .mov (.t 8), 0, 0, false, []⟩,
    ⟨some 35, some (31, false), .bin .lss (.t 33) (.t 34), 0, 0, false, []⟩,
    ⟨some 36, none, .pick (.t 31) (.k (.bool true)) (.t 35), 0, 0, false, []⟩])
   (.cutTo [0, 5, 7, 8, 19, 20, 21, 36] (.cond (.t 36) (.seq (.seg false [⟨some 4, none, .mov (.k (.int .i64 (-1))), 0, 0, false, []⟩])
   (.ret))
   (.skip))))
   (.cutTo [0, 5, 7, 8, 19, 20, 21] (.seq (.seg true D43x0)
   (.cutTo [0, 5, 8, 9, 10, 19, 20, 21] (.seq (.seq (.seg false [⟨some 49, none, .mov (.t 10), 0, 0, false, []⟩,
    ⟨some 50, none, .un .not (.t 49), 0, 0, false, []⟩])
   (.cond (.t 50) (.seq (.seg false [⟨some 4, none, .mov (.k (.int .i64 (-1))), 0, 0, false, []⟩])
   (.ret))
   (.skip)))
   (.seg false [⟨some 51, none, .mov (.t 5), 0, 0, false, []⟩,
    ⟨some 52, none, .mov (.t 5), 0, 0, false, []⟩,
    ⟨some 53, none, .len false (.t 52), 0, 0, false, []⟩,
    ⟨some 54, none, .mov (.t 8), 0, 0, false, []⟩,
    ⟨some 55, none, .bin .sub (.t 53) (.t 54), 0, 0, false, []⟩,
    ⟨some 56, none, .slc false 1 (.t 51) none (some (.t 55)) none, 0, 0, false, []⟩,
    ⟨some 57, none, .mov (.t 9), 0, 0, false, []⟩,
    ⟨some 58, none, .mksl false 1 [.t 57], 0, 0, false, []⟩,
    ⟨some 59, none, .app 1 (.t 56) (.t 58), 0, 0, false, []⟩,
    ⟨some 5, none, .mov (.t 59), 0, 0, false, []⟩]))))))))))
   (.cutTo [0, 5, 19, 20, 21] (.seg false [⟨some 60, none, .bin .add (.t 21) (.k (.int .i64 1)), 0, 0, false, []⟩,
    ⟨some 21, none, .mov (.t 60), 0, 0, false, []⟩]))))
def L43x0 : C := B43x0
theorem evL43x0 (run : Run) (draw : List I → Env → Heap → Option (Env × Heap)) (e : Env) (h : Heap) : evC run draw L43x0 e h = evC run draw B43x0 e h := rfl
/-- loop.example/tablehouse/impl.ExprKind -/
def F43 : F := ⟨67, [(false, 4, 0, false)],
   .seq (.seg false [⟨some 4, none, .mov (.k (.int .i64 0)), 0, 0, false, []⟩])
   (.seq (.seq (.seg false [⟨some 11, none, .mov (.t 0), 0, 0, false, []⟩,
    ⟨some 12, none, .call 71 [.t 11] false false, 0, 0, false, []⟩,
    ⟨some 13, none, .un .not (.t 12), 0, 0, false, []⟩,
    ⟨some 14, none, .mov (.t 13), 0, 0, false, []⟩,
    ⟨some 15, some (14, false), .mov (.t 1), 0, 0, false, []⟩,
    ⟨some 16, some (14, false), .len false (.t 15), 0, 0, false, []⟩,
    ⟨some 17, some (14, false), .bin .gtr (.t 16) (.k (.int .i64 12)), 0, 0, false, []⟩,
    ⟨some 18, none, .pick (.t 14) (.k (.bool true)) (.t 17), 0, 0, false, []⟩])
   (.cutTo [0, 1, 18] (.cond (.t 18) (.seq (.seg false [⟨some 4, none, .mov (.k (.int .i64 (-1))), 0, 0, false, []⟩])
   (.ret))
   (.skip))))
   (.cutTo [0, 1] (.seq (.seg false [⟨some 5, none, .nilrow 1, 0, 0, false, []⟩])
   (.seq (.seq (.seg false [⟨some 19, none, .mov (.t 1), 0, 0, false, []⟩,
    ⟨some 20, none, .len false (.t 19), 0, 0, false, []⟩,
    ⟨some 21, none, .mov (.k (.int .i64 0)), 0, 0, false, []⟩])
   (.block 0 (.loop [0, 5, 19, 20, 21] [4, 5] L43x0)))
   (.seq (.seq (.seg false [⟨some 61, none, .mov (.t 5), 0, 0, false, []⟩,
    ⟨some 62, none, .len false (.t 61), 0, 0, false, []⟩,
    ⟨some 63, none, .bin .neq (.t 62) (.k (.int .i64 1)), 0, 0, false, []⟩])
   (.cond (.t 63) (.seq (.seg false [⟨some 4, none, .mov (.k (.int .i64 (-1))), 0, 0, false, []⟩])
   (.ret))
   (.skip)))
   (.cutTo [5] (.seq (.seg false [⟨some 64, none, .mov (.t 5), 0, 0, false, []⟩,
    ⟨some 65, none, .iaddr 1 (.t 64) (.k (.int .i64 0)), 0, 0, false, []⟩,
    ⟨some 66, none, .load false 1 (.t 65), 0, 0, false, []⟩,
    ⟨some 4, none, .mov (.t 66), 0, 0, false, []⟩])
   (.cutTo [4] (.ret)))))))))⟩
def B44x0 : C := .seq (.seq (.seg false [⟨some 17, none, .mov (.t 7), 0, 0, false, []⟩,
    ⟨some 18, none, .mov (.t 1), 0, 0, false, []⟩,
    ⟨some 19, none, .len false (.t 18), 0, 0, false, []⟩,
    ⟨some 20, none, .bin .lss (.t 17) (.t 19), 0, 0, false, []⟩,
    ⟨some 21, none, .mov (.t 20), 0, 0, false, []⟩,
    ⟨some 22, some (21, true), .mov (.t 6), 0, 0, false, []⟩,
    ⟨some 23, none, .pick (.t 21) (.t 22) (.k (.bool false)), 0, 0, false, []⟩])
   (.cutTo [0, 1, 5, 6, 7, 23] (.cond (.t 23) (.skip)
   (.exit 0))))
   (.cutTo [0, 1, 5, 7] (.seq (.block 1 (.seg false [⟨some 27, none, .mov (.t 0), 0, 0, false, []⟩,
    ⟨some 28, none, .mov (.t 5), 0, 0, false, []⟩,
    ⟨some 29, none, .mov (.t 1), 0, 0, false, []⟩,
    ⟨some 30, none, .mov (.t 7), 0, 0, false, []⟩,
    ⟨some 31, none, .iaddr 5 (.t 29) (.t 30), 0, 0, false, []⟩,
    ⟨some 32, none, .load true 5 (.t 31), 0, 0, false, []⟩,
    ⟨some 33, none, .call 97 [.t 27, .t 28, .t 32] true false, 0, 0, false, []⟩,
    ⟨some 26, none, .mov (.t 33), 0, 0, false, []⟩,
    ⟨some 34, none, .ext (.t 26) 0, 0, 0, false, []⟩,
    ⟨some 35, none, .ext (.t 26) 1, 0, 0, false, []⟩,
    ⟨some 5, none, .mov (.t 34), 0, 0, false, []⟩,
    ⟨some 6, none, .mov (.t 35), 0, 0, false, []⟩]))
   (.cutTo [0, 1, 5, 6, 7] (.seg false [⟨some 24, none, .mov (.t 7), 0, 0, false, []⟩,
    ⟨some 25, none, .bin .add (.t 24) (.k (.int .i64 1)), 0, 0, false, []⟩,
    ⟨some 7, none, .mov (.t 25), 0, 0, false, []⟩]))))
def L44x0 : C := B44x0
theorem evL44x0 (run : Run) (draw : List I → Env → Heap → Option (Env × Heap)) (e : Env) (h : Heap) : evC run draw L44x0 e h = evC run draw B44x0 e h := rfl
/-- loop.example/tablehouse/spec.ExprKind -/
def F44 : F := ⟨46, [(false, 4, 0, false)],
   .seq (.seg false [⟨some 4, none, .mov (.k (.int .i64 0)), 0, 0, false, []⟩])
   (.seq (.seq (.seg false [⟨some 8, none, .mov (.t 0), 0, 0, false, []⟩,
    ⟨some 9, none, .call 96 [.t 8] false false, 0, 0, false, []⟩,
    ⟨some 10, none, .un .not (.t 9), 0, 0, false, []⟩,
    ⟨some 11, none, .mov (.t 10), 0, 0, false, []⟩,
    ⟨some 12, some (11, false), .mov (.t 1), 0, 0, false, []⟩,
    ⟨some 13, some (11, false), .len false (.t 12), 0, 0, false, []⟩,
    ⟨some 14, some (11, false), .bin .gtr (.t 13) (.k (.int .i64 12)), 0, 0, false, []⟩,
    ⟨some 15, none, .pick (.t 11) (.k (.bool true)) (.t 14), 0, 0, false, []⟩])
   (.cutTo [0, 1, 15] (.cond (.t 15) (.seq (.seg false [⟨some 4, none, .mov (.k (.int .i64 (-1))), 0, 0, false, []⟩])
   (.ret))
   (.skip))))
   (.cutTo [0, 1] (.seq (.seg false [⟨some 16, none, .mksl true 1 [], 0, 0, false, []⟩,
    ⟨some 5, none, .mov (.t 16), 0, 0, false, []⟩])
   (.seq (.seg false [⟨some 6, none, .mov (.k (.bool true)), 0, 0, false, []⟩])
   (.seq (.seq (.seg false [⟨some 7, none, .mov (.k (.int .i64 0)), 0, 0, false, []⟩])
   (.block 0 (.loop [0, 1, 5, 6, 7] [5, 6] L44x0)))
   (.seq (.seq (.seg false [⟨some 36, none, .mov (.t 6), 0, 0, false, []⟩,
    ⟨some 37, none, .un .not (.t 36), 0, 0, false, []⟩,
    ⟨some 38, none, .mov (.t 37), 0, 0, false, []⟩,
    ⟨some 39, some (38, false), .mov (.t 5), 0, 0, false, []⟩,
    ⟨some 40, some (38, false), .len false (.t 39), 0, 0, false, []⟩,
    ⟨some 41, some (38, false), .bin .neq (.t 40) (.k (.int .i64 1)), 0, 0, false, []⟩,
    ⟨some 42, none, .pick (.t 38) (.k (.bool true)) (.t 41), 0, 0, false, []⟩])
   (.cutTo [5, 42] (.cond (.t 42) (.seq (.seg false [⟨some 4, none, .mov (.k (.int .i64 (-1))), 0, 0, false, []⟩])
   (.ret))
   (.skip))))
   (.cutTo [5] (.seq (.seg false [⟨some 43, none, .mov (.t 5), 0, 0, false, []⟩,
    ⟨some 44, none, .iaddr 1 (.t 43) (.k (.int .i64 0)), 0, 0, false, []⟩,
    ⟨some 45, none, .load false 1 (.t 44), 0, 0, false, []⟩,
    ⟨some 4, none, .mov (.t 45), 0, 0, false, []⟩])
   (.cutTo [4] (.ret))))))))))⟩
/-- loop.example/tablehouse/laws.withParts -/
def F45 : F := ⟨21, [(false, 6, 0, false)],
   .seq (.seg false [⟨some 6, none, .nilrow 5, 0, 0, false, []⟩])
   (.seq (.seg false [⟨some 8, none, .mksl true 5 [], 0, 0, false, []⟩,
    ⟨some 9, none, .mov (.t 0), 0, 0, false, []⟩,
    ⟨some 10, none, .app 5 (.t 8) (.t 9), 0, 0, false, []⟩,
    ⟨some 11, none, .mov (.t 1), 0, 0, false, []⟩,
    ⟨some 12, none, .app 5 (.t 10) (.t 11), 0, 0, false, []⟩,
    ⟨some 7, none, .mov (.t 12), 0, 0, false, []⟩])
   (.cutTo [2, 7] (.seq (.seq (.seg false [⟨some 13, none, .mov (.t 2), 0, 0, false, []⟩,
    ⟨some 14, none, .bin .gtr (.t 13) (.k (.int .i64 0)), 0, 0, false, []⟩])
   (.cond (.t 14) (.seg false [⟨some 15, none, .mov (.t 7), 0, 0, false, []⟩,
    ⟨some 16, none, .mov (.t 2), 0, 0, false, []⟩,
    ⟨some 17, none, .build [.int .i64 0, .int .i64 0, .int .i64 0, .int .i64 0, .str ⟨#[]⟩] [(0, 1, .t 16)], 0, 0, false, []⟩,
    ⟨some 18, none, .mksl false 5 [.t 17], 0, 0, false, []⟩,
    ⟨some 19, none, .app 5 (.t 15) (.t 18), 0, 0, false, []⟩,
    ⟨some 7, none, .mov (.t 19), 0, 0, false, []⟩])
   (.skip)))
   (.cutTo [7] (.seq (.seg false [⟨some 20, none, .mov (.t 7), 0, 0, false, []⟩,
    ⟨some 6, none, .mov (.t 20), 0, 0, false, []⟩])
   (.ret))))))⟩
/-- loop.example/tablehouse/spec.DrawTwoNumbers -/
def F46 : F := ⟨22, [(false, 2, 0, false), (false, 3, 0, false), (false, 4, 0, false), (false, 5, 0, false)],
   .seq (.seg false [⟨some 2, none, .mov (.k (.sl true 2 [])), 0, 0, false, []⟩,
    ⟨some 3, none, .mov (.k (.sl true 3 [])), 0, 0, false, []⟩,
    ⟨some 4, none, .mov (.k (.sl true 5 [])), 0, 0, false, []⟩,
    ⟨some 5, none, .mov (.k (.sl true 5 [])), 0, 0, false, []⟩])
   (.cutTo [0] (.seq (.seg false [⟨some 8, none, .mov (.t 0), 0, 0, false, []⟩,
    ⟨some 9, none, .call 63 [.t 8] true true, 0, 0, false, []⟩,
    ⟨some 6, none, .mov (.t 9), 0, 0, false, []⟩])
   (.seq (.seg false [⟨some 10, none, .mov (.t 6), 0, 0, false, []⟩,
    ⟨some 11, none, .call 87 [.t 10, .k (.int .i64 0)] true false, 0, 0, false, []⟩,
    ⟨some 7, none, .mov (.t 11), 0, 0, false, []⟩])
   (.seq (.seg false [⟨some 12, none, .mov (.t 7), 0, 0, false, []⟩,
    ⟨some 13, none, .mov (.t 6), 0, 0, false, []⟩,
    ⟨some 14, none, .mov (.t 7), 0, 0, false, []⟩,
    ⟨some 15, none, .call 93 [.t 13, .t 14, .k (.int .i64 0)] true false, 0, 0, false, []⟩,
    ⟨some 16, none, .mov (.t 6), 0, 0, false, []⟩,
    ⟨some 17, none, .mov (.t 7), 0, 0, false, []⟩,
    ⟨some 18, none, .call 88 [.t 16, .t 17, .k (.int .i64 1), .k (.int .i64 1)] true false, 0, 0, false, []⟩,
    ⟨some 19, none, .mov (.t 6), 0, 0, false, []⟩,
    ⟨some 20, none, .mov (.t 7), 0, 0, false, []⟩,
    ⟨some 21, none, .call 88 [.t 19, .t 20, .k (.int .i64 1), .k (.int .i64 1)] true false, 0, 0, false, []⟩,
    ⟨some 2, none, .mov (.t 12), 0, 0, false, []⟩,
    ⟨some 3, none, .mov (.t 15), 0, 0, false, []⟩,
    ⟨some 4, none, .mov (.t 18), 0, 0, false, []⟩,
    ⟨some 5, none, .mov (.t 21), 0, 0, false, []⟩])
   (.cutTo [2, 3, 4, 5] (.ret))))))⟩
/-- loop.example/tablehouse/spec.DrawNotInRows -/
def F47 : F := ⟨17, [(false, 2, 0, false), (false, 3, 0, false), (false, 4, 0, false), (false, 5, 0, false), (false, 6, 0, false), (false, 7, 0, false)],
   .seq (.seg false [⟨some 2, none, .mov (.k (.sl true 2 [])), 0, 0, false, []⟩,
    ⟨some 3, none, .mov (.k (.sl true 2 [])), 0, 0, false, []⟩,
    ⟨some 4, none, .mov (.k (.sl true 1 [])), 0, 0, false, []⟩,
    ⟨some 5, none, .mov (.k (.sl true 1 [])), 0, 0, false, []⟩,
    ⟨some 6, none, .mov (.k (.int .i64 0)), 0, 0, false, []⟩,
    ⟨some 7, none, .mov (.k (.int .i64 0)), 0, 0, false, []⟩])
   (.cutTo [0] (.seq (.seg false [⟨some 8, none, .mov (.t 0), 0, 0, false, []⟩,
    ⟨some 9, none, .call 63 [.t 8] true true, 0, 0, false, []⟩,
    ⟨some 10, none, .call 98 [.t 9, .k (.int .i64 12)] true false, 0, 0, false, []⟩,
    ⟨some 11, none, .ext (.t 10) 0, 0, 0, false, []⟩,
    ⟨some 12, none, .ext (.t 10) 1, 0, 0, false, []⟩,
    ⟨some 13, none, .ext (.t 10) 2, 0, 0, false, []⟩,
    ⟨some 14, none, .ext (.t 10) 3, 0, 0, false, []⟩,
    ⟨some 15, none, .ext (.t 10) 4, 0, 0, false, []⟩,
    ⟨some 16, none, .ext (.t 10) 5, 0, 0, false, []⟩,
    ⟨some 2, none, .mov (.t 11), 0, 0, false, []⟩,
    ⟨some 3, none, .mov (.t 12), 0, 0, false, []⟩,
    ⟨some 4, none, .mov (.t 13), 0, 0, false, []⟩,
    ⟨some 5, none, .mov (.t 14), 0, 0, false, []⟩,
    ⟨some 6, none, .mov (.t 15), 0, 0, false, []⟩,
    ⟨some 7, none, .mov (.t 16), 0, 0, false, []⟩])
   (.cutTo [2, 3, 4, 5, 6, 7] (.ret))))⟩
/-- loop.example/tablehouse/impl.NotInRows -/
def F48 : F := ⟨24, [(false, 12, 0, false)],
   .seq (.seg false [⟨some 9, none, .box (.t 3), 0, 0, false, []⟩,
    ⟨some 10, none, .box (.t 4), 0, 0, false, []⟩,
    ⟨some 11, none, .box (.t 5), 0, 0, false, []⟩,
    ⟨some 12, none, .mov (.k (.sl true 1 [])), 0, 0, false, []⟩])
   (.cutTo [0, 1, 2, 9, 10, 11] (.seq (.seq (.seg false [⟨some 13, none, .mov (.t 0), 0, 0, false, []⟩,
    ⟨some 14, none, .mov (.t 1), 0, 0, false, []⟩,
    ⟨some 15, none, .mov (.t 2), 0, 0, false, []⟩,
    ⟨some 16, none, .load false 1 (.t 9), 0, 0, false, []⟩,
    ⟨some 17, none, .load false 1 (.t 10), 0, 0, false, []⟩,
    ⟨some 18, none, .load false 1 (.t 11), 0, 0, false, []⟩,
    ⟨some 19, none, .call 99 [.t 13, .t 14, .t 15, .t 16, .t 17, .t 18] false false, 0, 0, false, []⟩,
    ⟨some 20, none, .un .not (.t 19), 0, 0, false, []⟩])
   (.cutTo [2, 9, 10, 11, 20] (.cond (.t 20) (.seq (.seg false [⟨some 12, none, .mov (.k (.sl true 1 [])), 0, 0, false, []⟩])
   (.ret))
   (.skip))))
   (.cutTo [2, 9, 10, 11] (.seq (.seg false [⟨some 21, none, .mov (.t 2), 0, 0, false, []⟩,
    ⟨some 22, none, .mkclo 101 [.t 10, .t 9, .t 11], 0, 0, false, []⟩,
    ⟨some 23, none, .call 100 [.t 21, .t 22] true false, 0, 0, false, []⟩,
    ⟨some 12, none, .mov (.t 23), 0, 0, false, []⟩])
   (.cutTo [12] (.ret))))))⟩
def E50x0 : List I := [⟨some 31, none, .mov (.t 2), 0, 0, false, []⟩,
    ⟨some 32, none, .mov (.t 14), 0, 0, false, []⟩,
    ⟨some 33, none, .iaddr 1 (.t 31) (.t 32), 0, 0, false, []⟩,
    ⟨some 34, none, .load false 1 (.t 33), 0, 0, false, []⟩,
    ⟨some 35, none, .mov (.t 4), 0, 0, false, []⟩,
    ⟨some 36, none, .iaddr 3 (.t 34) (.t 35), 0, 0, false, []⟩,
    ⟨some 37, none, .load true 3 (.t 36), 0, 0, false, []⟩,
    ⟨some 38, none, .mov (.t 3), 0, 0, false, []⟩,
    ⟨some 39, none, .mov (.t 5), 0, 0, false, []⟩,
    ⟨some 40, none, .call 108 [.t 38, .t 39] false false, 0, 0, false, []⟩,
    ⟨some 41, none, .call 107 [.t 37, .t 40] false false, 0, 0, false, []⟩,
    ⟨some 42, none, .call 106 [.t 41] false false, 0, 0, false, []⟩,
    ⟨some 43, none, .bin .eql (.t 42) (.k (.int .i64 1)), 0, 0, false, []⟩]
def D50x0 : List I := E50x0
theorem evD50x0 (run : Run) (e : Env) (h : Heap) : drawI run D50x0 e h = DrawS (evQ run E50x0 e h) run E50x0 e h := drawI_quiet run _ (by rfl) e h
def B50x0 : C := .seq (.seq (.seg false [⟨some 16, none, .mov (.t 14), 0, 0, false, []⟩,
    ⟨some 17, none, .mov (.t 2), 0, 0, false, []⟩,
    ⟨some 18, none, .len false (.t 17), 0, 0, false, []⟩,
    ⟨some 19, none, .bin .lss (.t 16) (.t 18), 0, 0, false, []⟩,
    ⟨some 20, none, .mov (.t 19), 0, 0, false, []⟩,
    ⟨some 21, some (20, true), .mov (.t 0), 0, 0, false, []⟩,
    ⟨some 22, some (20, true), .mov (.t 1), 0, 0, false, []⟩,
    ⟨some 23, some (20, true), .mov (.t 2), 0, 0, false, []⟩,
    ⟨some 24, some (20, true), .mov (.t 3), 0, 0, false, []⟩,
    ⟨some 25, some (20, true), .mov (.t 4), 0, 0, false, []⟩,
    ⟨some 26, some (20, true), .mov (.t 5), 0, 0, false, []⟩,
    ⟨some 27, some (20, true), .call 105 [.t 21, .t 22, .t 23, .t 24, .t 25, .t 26] false false, 0, 0, false, []⟩,
    ⟨some 28, none, .pick (.t 20) (.t 27) (.k (.bool false)), 0, 0, false, []⟩])
   (.cutTo [0, 1, 2, 3, 4, 5, 13, 14, 28] (.cond (.t 28) (.skip)
   (.exit 0))))
   (.cutTo [0, 1, 2, 3, 4, 5, 13, 14] (.seq (.block 1 (.seq (.seg true D50x0)
   (.cutTo [0, 1, 2, 3, 4, 5, 13, 14, 43] (.cond (.t 43) (.seg false [⟨some 44, none, .mov (.t 13), 0, 0, false, []⟩,
    ⟨some 45, none, .mov (.t 2), 0, 0, false, []⟩,
    ⟨some 46, none, .mov (.t 14), 0, 0, false, []⟩,
    ⟨some 47, none, .iaddr 1 (.t 45) (.t 46), 0, 0, false, []⟩,
    ⟨some 48, none, .load false 1 (.t 47), 0, 0, false, []⟩,
    ⟨some 49, none, .call 109 [.t 48] false false, 0, 0, false, []⟩,
    ⟨some 50, none, .mksl false 1 [.t 49], 0, 0, false, []⟩,
    ⟨some 51, none, .app 1 (.t 44) (.t 50), 0, 0, false, []⟩,
    ⟨some 13, none, .mov (.t 51), 0, 0, false, []⟩])
   (.skip)))))
   (.cutTo [0, 1, 2, 3, 4, 5, 13, 14] (.seg false [⟨some 29, none, .mov (.t 14), 0, 0, false, []⟩,
    ⟨some 30, none, .bin .add (.t 29) (.k (.int .i64 1)), 0, 0, false, []⟩,
    ⟨some 14, none, .mov (.t 30), 0, 0, false, []⟩]))))
def L50x0 : C := B50x0
theorem evL50x0 (run : Run) (draw : List I → Env → Heap → Option (Env × Heap)) (e : Env) (h : Heap) : evC run draw L50x0 e h = evC run draw B50x0 e h := rfl
/-- loop.example/tablehouse/spec.NotInRows -/
def F50 : F := ⟨53, [(false, 12, 0, false)],
   .seq (.seg false [⟨some 12, none, .nilrow 1, 0, 0, false, []⟩])
   (.seq (.seg false [⟨some 15, none, .mksl true 1 [], 0, 0, false, []⟩,
    ⟨some 13, none, .mov (.t 15), 0, 0, false, []⟩])
   (.seq (.seq (.seg false [⟨some 14, none, .mov (.k (.int .i64 0)), 0, 0, false, []⟩])
   (.block 0 (.loop [0, 1, 2, 3, 4, 5, 13, 14] [13] L50x0)))
   (.seq (.seg false [⟨some 52, none, .mov (.t 13), 0, 0, false, []⟩,
    ⟨some 12, none, .mov (.t 52), 0, 0, false, []⟩])
   (.ret))))⟩
def E49x0 : List I := [⟨some 17, none, .mov (.t 0), 0, 0, false, []⟩,
    ⟨some 18, none, .mov (.t 5), 0, 0, false, []⟩,
    ⟨some 19, none, .iaddr 1 (.t 17) (.t 18), 0, 0, false, []⟩,
    ⟨some 20, none, .load false 1 (.t 19), 0, 0, false, []⟩,
    ⟨some 21, none, .mov (.t 1), 0, 0, false, []⟩,
    ⟨some 22, none, .mov (.t 5), 0, 0, false, []⟩,
    ⟨some 23, none, .iaddr 1 (.t 21) (.t 22), 0, 0, false, []⟩,
    ⟨some 24, none, .load false 1 (.t 23), 0, 0, false, []⟩,
    ⟨some 25, none, .call 104 [.t 20, .t 24] false false, 0, 0, false, []⟩,
    ⟨some 26, none, .un .not (.t 25), 0, 0, false, []⟩]
def D49x0 : List I := E49x0
theorem evD49x0 (run : Run) (e : Env) (h : Heap) : drawI run D49x0 e h = DrawS (evQ run E49x0 e h) run E49x0 e h := drawI_quiet run _ (by rfl) e h
def B49x0 : C := .seq (.seq (.seg false [⟨some 11, none, .mov (.t 5), 0, 0, false, []⟩,
    ⟨some 12, none, .mov (.t 0), 0, 0, false, []⟩,
    ⟨some 13, none, .len false (.t 12), 0, 0, false, []⟩,
    ⟨some 14, none, .bin .lss (.t 11) (.t 13), 0, 0, false, []⟩])
   (.cutTo [0, 1, 5, 14] (.cond (.t 14) (.skip)
   (.exit 0))))
   (.cutTo [0, 1, 5] (.seq (.block 1 (.seq (.seg true D49x0)
   (.cutTo [0, 1, 5, 26] (.cond (.t 26) (.seq (.seg false [⟨some 4, none, .mov (.k (.bool false)), 0, 0, false, []⟩])
   (.ret))
   (.skip)))))
   (.cutTo [0, 1, 5] (.seg false [⟨some 15, none, .mov (.t 5), 0, 0, false, []⟩,
    ⟨some 16, none, .bin .add (.t 15) (.k (.int .i64 1)), 0, 0, false, []⟩,
    ⟨some 5, none, .mov (.t 16), 0, 0, false, []⟩]))))
def L49x0 : C := B49x0
theorem evL49x0 (run : Run) (draw : List I → Env → Heap → Option (Env × Heap)) (e : Env) (h : Heap) : evC run draw L49x0 e h = evC run draw B49x0 e h := rfl
/-- loop.example/tablehouse/laws.sameRows -/
def F49 : F := ⟨27, [(false, 4, 0, false)],
   .seq (.seg false [⟨some 4, none, .mov (.k (.bool false)), 0, 0, false, []⟩])
   (.seq (.seq (.seg false [⟨some 6, none, .mov (.t 0), 0, 0, false, []⟩,
    ⟨some 7, none, .len false (.t 6), 0, 0, false, []⟩,
    ⟨some 8, none, .mov (.t 1), 0, 0, false, []⟩,
    ⟨some 9, none, .len false (.t 8), 0, 0, false, []⟩,
    ⟨some 10, none, .bin .neq (.t 7) (.t 9), 0, 0, false, []⟩])
   (.cutTo [0, 1, 10] (.cond (.t 10) (.seq (.seg false [⟨some 4, none, .mov (.k (.bool false)), 0, 0, false, []⟩])
   (.ret))
   (.skip))))
   (.cutTo [0, 1] (.seq (.seq (.seg false [⟨some 5, none, .mov (.k (.int .i64 0)), 0, 0, false, []⟩])
   (.block 0 (.loop [0, 1, 5] [4] L49x0)))
   (.seq (.seg false [⟨some 4, none, .mov (.k (.bool true)), 0, 0, false, []⟩])
   (.ret)))))⟩
/-- loop.example/tablehouse/impl.RowsOk -/
def F51 : F := ⟨13, [(false, 4, 0, false)],
   .seq (.seg false [⟨some 2, none, .box (.t 0), 0, 0, false, []⟩,
    ⟨some 4, none, .mov (.k (.bool false)), 0, 0, false, []⟩])
   (.seq (.seg false [⟨some 5, none, .load false 1 (.t 2), 0, 0, false, []⟩,
    ⟨some 6, none, .call 71 [.t 5] false false, 0, 0, false, []⟩,
    ⟨some 7, none, .mov (.t 6), 0, 0, false, []⟩,
    ⟨some 8, some (7, true), .mov (.t 1), 0, 0, false, []⟩,
    ⟨some 9, some (7, true), .mkclo 111 [.t 2], 0, 0, false, []⟩,
    ⟨some 10, some (7, true), .call 110 [.t 8, .t 9] true false, 0, 0, false, []⟩,
    ⟨some 11, some (7, true), .un .not (.t 10), 0, 0, false, []⟩,
    ⟨some 12, none, .pick (.t 7) (.t 11) (.k (.bool false)), 0, 0, false, []⟩,
    ⟨some 4, none, .mov (.t 12), 0, 0, false, []⟩])
   (.cutTo [4] (.ret)))⟩
/-- loop.example/tablehouse/impl.InRows -/
def F52 : F := ⟨24, [(false, 12, 0, false)],
   .seq (.seg false [⟨some 9, none, .box (.t 3), 0, 0, false, []⟩,
    ⟨some 10, none, .box (.t 4), 0, 0, false, []⟩,
    ⟨some 11, none, .box (.t 5), 0, 0, false, []⟩,
    ⟨some 12, none, .mov (.k (.sl true 1 [])), 0, 0, false, []⟩])
   (.cutTo [0, 1, 2, 9, 10, 11] (.seq (.seq (.seg false [⟨some 13, none, .mov (.t 0), 0, 0, false, []⟩,
    ⟨some 14, none, .mov (.t 1), 0, 0, false, []⟩,
    ⟨some 15, none, .mov (.t 2), 0, 0, false, []⟩,
    ⟨some 16, none, .load false 1 (.t 9), 0, 0, false, []⟩,
    ⟨some 17, none, .load false 1 (.t 10), 0, 0, false, []⟩,
    ⟨some 18, none, .load false 1 (.t 11), 0, 0, false, []⟩,
    ⟨some 19, none, .call 99 [.t 13, .t 14, .t 15, .t 16, .t 17, .t 18] false false, 0, 0, false, []⟩,
    ⟨some 20, none, .un .not (.t 19), 0, 0, false, []⟩])
   (.cutTo [2, 9, 10, 11, 20] (.cond (.t 20) (.seq (.seg false [⟨some 12, none, .mov (.k (.sl true 1 [])), 0, 0, false, []⟩])
   (.ret))
   (.skip))))
   (.cutTo [2, 9, 10, 11] (.seq (.seg false [⟨some 21, none, .mov (.t 2), 0, 0, false, []⟩,
    ⟨some 22, none, .mkclo 112 [.t 10, .t 9, .t 11], 0, 0, false, []⟩,
    ⟨some 23, none, .call 100 [.t 21, .t 22] true false, 0, 0, false, []⟩,
    ⟨some 12, none, .mov (.t 23), 0, 0, false, []⟩])
   (.cutTo [12] (.ret))))))⟩
def B53x0 : C := .seq (.seg false [⟨some 11, none, .bin .lss (.t 10) (.t 9), 0, 0, false, []⟩])
   (.seq (.cond (.t 11) (.skip)
   (.exit 0))
   (.seq (.block 1 (.seq (.seg false [⟨some 12, none, .iaddr 1 (.t 8) (.t 10), 0, 0, false, []⟩,
    ⟨some 13, none, .load false 1 (.t 12), 0, 0, false, []⟩,
    ⟨some 7, none, .mov (.t 13), 0, 0, false, []⟩])
   (.seq (.seg false [⟨some 14, none, .mov (.t 7), 0, 0, false, []⟩,
    ⟨some 15, none, .mov (.t 1), 0, 0, false, []⟩,
    ⟨some 16, none, .call 113 [.t 14, .t 15] false false, 0, 0, false, []⟩])
   (.cond (.t 16) (.seg false [⟨some 17, none, .mov (.t 5), 0, 0, false, []⟩,
    ⟨some 18, none, .bin .add (.t 17) (.k (.int .i64 1)), 0, 0, false, []⟩,
    ⟨some 5, none, .mov (.t 18), 0, 0, false, []⟩])
   (.skip)))))
   (.cutTo [1, 5, 8, 9, 10] (.seg false [⟨some 19, none, .bin .add (.t 10) (.k (.int .i64 1)), 0, 0, false, []⟩,
    ⟨some 10, none, .mov (.t 19), 0, 0, false, []⟩]))))
def L53x0 : C := B53x0
theorem evL53x0 (run : Run) (draw : List I → Env → Heap → Option (Env × Heap)) (e : Env) (h : Heap) : evC run draw L53x0 e h = evC run draw B53x0 e h := rfl
/-- loop.example/tablehouse/impl.RowMany -/
def F53 : F := ⟨21, [(false, 4, 0, false)],
   .seq (.seg false [⟨some 4, none, .mov (.k (.int .i64 0)), 0, 0, false, []⟩])
   (.seq (.seg false [⟨some 5, none, .mov (.k (.int .i64 0)), 0, 0, false, []⟩])
   (.seq (.seq (.seg false [⟨some 8, none, .mov (.t 0), 0, 0, false, []⟩,
    ⟨some 9, none, .len false (.t 8), 0, 0, false, []⟩,
    ⟨some 10, none, .mov (.k (.int .i64 0)), 0, 0, false, []⟩])
   (.block 0 (.loop [1, 5, 8, 9, 10] [5] L53x0)))
   (.seq (.seg false [⟨some 20, none, .mov (.t 5), 0, 0, false, []⟩,
    ⟨some 4, none, .mov (.t 20), 0, 0, false, []⟩])
   (.ret))))⟩
/-- loop.example/tablehouse/spec.DrawTwoLists -/
def F60 : F := ⟨33, [(false, 2, 0, false), (false, 3, 0, false), (false, 4, 0, false), (false, 5, 0, false), (false, 6, 0, false), (false, 7, 0, false)],
   .seq (.seg false [⟨some 2, none, .mov (.k (.sl true 2 [])), 0, 0, false, []⟩,
    ⟨some 3, none, .mov (.k (.sl true 2 [])), 0, 0, false, []⟩,
    ⟨some 4, none, .mov (.k (.sl true 1 [])), 0, 0, false, []⟩,
    ⟨some 5, none, .mov (.k (.sl true 1 [])), 0, 0, false, []⟩,
    ⟨some 6, none, .mov (.k (.int .i64 0)), 0, 0, false, []⟩,
    ⟨some 7, none, .mov (.k (.int .i64 0)), 0, 0, false, []⟩])
   (.cutTo [0] (.seq (.seg false [⟨some 15, none, .mov (.t 0), 0, 0, false, []⟩,
    ⟨some 16, none, .call 63 [.t 15] true true, 0, 0, false, []⟩,
    ⟨some 8, none, .mov (.t 16), 0, 0, false, []⟩])
   (.seq (.seg false [⟨some 18, none, .mov (.t 8), 0, 0, false, []⟩,
    ⟨some 19, none, .call 98 [.t 18, .k (.int .i64 0)] true false, 0, 0, false, []⟩,
    ⟨some 17, none, .mov (.t 19), 0, 0, false, []⟩,
    ⟨some 20, none, .ext (.t 17) 0, 0, 0, false, []⟩,
    ⟨some 21, none, .ext (.t 17) 1, 0, 0, false, []⟩,
    ⟨some 22, none, .ext (.t 17) 2, 0, 0, false, []⟩,
    ⟨some 23, none, .ext (.t 17) 3, 0, 0, false, []⟩,
    ⟨some 24, none, .ext (.t 17) 4, 0, 0, false, []⟩,
    ⟨some 25, none, .ext (.t 17) 5, 0, 0, false, []⟩,
    ⟨some 9, none, .mov (.t 20), 0, 0, false, []⟩,
    ⟨some 10, none, .mov (.t 21), 0, 0, false, []⟩,
    ⟨some 11, none, .mov (.t 22), 0, 0, false, []⟩,
    ⟨some 12, none, .mov (.t 23), 0, 0, false, []⟩,
    ⟨some 13, none, .mov (.t 24), 0, 0, false, []⟩,
    ⟨some 14, none, .mov (.t 25), 0, 0, false, []⟩])
   (.cutTo [9, 10, 11, 12, 13, 14] (.seq (.seg false [⟨some 26, none, .mov (.t 9), 0, 0, false, []⟩,
    ⟨some 27, none, .mov (.t 10), 0, 0, false, []⟩,
    ⟨some 28, none, .mov (.t 11), 0, 0, false, []⟩,
    ⟨some 29, none, .call 119 [.t 28] false false, 0, 0, false, []⟩,
    ⟨some 30, none, .mov (.t 12), 0, 0, false, []⟩,
    ⟨some 31, none, .mov (.t 13), 0, 0, false, []⟩,
    ⟨some 32, none, .mov (.t 14), 0, 0, false, []⟩,
    ⟨some 2, none, .mov (.t 26), 0, 0, false, []⟩,
    ⟨some 3, none, .mov (.t 27), 0, 0, false, []⟩,
    ⟨some 4, none, .mov (.t 29), 0, 0, false, []⟩,
    ⟨some 5, none, .mov (.t 30), 0, 0, false, []⟩,
    ⟨some 6, none, .mov (.t 31), 0, 0, false, []⟩,
    ⟨some 7, none, .mov (.t 32), 0, 0, false, []⟩])
   (.cutTo [2, 3, 4, 5, 6, 7] (.ret)))))))⟩
def E55x0 : List I := [⟨some 31, none, .mov (.t 2), 0, 0, false, []⟩,
    ⟨some 32, none, .mov (.t 14), 0, 0, false, []⟩,
    ⟨some 33, none, .iaddr 1 (.t 31) (.t 32), 0, 0, false, []⟩,
    ⟨some 34, none, .load false 1 (.t 33), 0, 0, false, []⟩,
    ⟨some 35, none, .mov (.t 4), 0, 0, false, []⟩,
    ⟨some 36, none, .iaddr 3 (.t 34) (.t 35), 0, 0, false, []⟩,
    ⟨some 37, none, .load true 3 (.t 36), 0, 0, false, []⟩,
    ⟨some 38, none, .mov (.t 3), 0, 0, false, []⟩,
    ⟨some 39, none, .mov (.t 5), 0, 0, false, []⟩,
    ⟨some 40, none, .call 108 [.t 38, .t 39] false false, 0, 0, false, []⟩,
    ⟨some 41, none, .call 107 [.t 37, .t 40] false false, 0, 0, false, []⟩,
    ⟨some 42, none, .bin .eql (.t 41) (.k (.int .i64 1)), 0, 0, false, []⟩]
def D55x0 : List I := E55x0
theorem evD55x0 (run : Run) (e : Env) (h : Heap) : drawI run D55x0 e h = DrawS (evQ run E55x0 e h) run E55x0 e h := drawI_quiet run _ (by rfl) e h
def B55x0 : C := .seq (.seq (.seg false [⟨some 16, none, .mov (.t 14), 0, 0, false, []⟩,
    ⟨some 17, none, .mov (.t 2), 0, 0, false, []⟩,
    ⟨some 18, none, .len false (.t 17), 0, 0, false, []⟩,
    ⟨some 19, none, .bin .lss (.t 16) (.t 18), 0, 0, false, []⟩,
    ⟨some 20, none, .mov (.t 19), 0, 0, false, []⟩,
    ⟨some 21, some (20, true), .mov (.t 0), 0, 0, false, []⟩,
    ⟨some 22, some (20, true), .mov (.t 1), 0, 0, false, []⟩,
    ⟨some 23, some (20, true), .mov (.t 2), 0, 0, false, []⟩,
    ⟨some 24, some (20, true), .mov (.t 3), 0, 0, false, []⟩,
    ⟨some 25, some (20, true), .mov (.t 4), 0, 0, false, []⟩,
    ⟨some 26, some (20, true), .mov (.t 5), 0, 0, false, []⟩,
    ⟨some 27, some (20, true), .call 105 [.t 21, .t 22, .t 23, .t 24, .t 25, .t 26] false false, 0, 0, false, []⟩,
    ⟨some 28, none, .pick (.t 20) (.t 27) (.k (.bool false)), 0, 0, false, []⟩])
   (.cutTo [0, 1, 2, 3, 4, 5, 13, 14, 28] (.cond (.t 28) (.skip)
   (.exit 0))))
   (.cutTo [0, 1, 2, 3, 4, 5, 13, 14] (.seq (.block 1 (.seq (.seg true D55x0)
   (.cutTo [0, 1, 2, 3, 4, 5, 13, 14, 42] (.cond (.t 42) (.seg false [⟨some 43, none, .mov (.t 13), 0, 0, false, []⟩,
    ⟨some 44, none, .mov (.t 2), 0, 0, false, []⟩,
    ⟨some 45, none, .mov (.t 14), 0, 0, false, []⟩,
    ⟨some 46, none, .iaddr 1 (.t 44) (.t 45), 0, 0, false, []⟩,
    ⟨some 47, none, .load false 1 (.t 46), 0, 0, false, []⟩,
    ⟨some 48, none, .call 109 [.t 47] false false, 0, 0, false, []⟩,
    ⟨some 49, none, .mksl false 1 [.t 48], 0, 0, false, []⟩,
    ⟨some 50, none, .app 1 (.t 43) (.t 49), 0, 0, false, []⟩,
    ⟨some 13, none, .mov (.t 50), 0, 0, false, []⟩])
   (.skip)))))
   (.cutTo [0, 1, 2, 3, 4, 5, 13, 14] (.seg false [⟨some 29, none, .mov (.t 14), 0, 0, false, []⟩,
    ⟨some 30, none, .bin .add (.t 29) (.k (.int .i64 1)), 0, 0, false, []⟩,
    ⟨some 14, none, .mov (.t 30), 0, 0, false, []⟩]))))
def L55x0 : C := B55x0
theorem evL55x0 (run : Run) (draw : List I → Env → Heap → Option (Env × Heap)) (e : Env) (h : Heap) : evC run draw L55x0 e h = evC run draw B55x0 e h := rfl
/-- loop.example/tablehouse/spec.InRows -/
def F55 : F := ⟨52, [(false, 12, 0, false)],
   .seq (.seg false [⟨some 12, none, .nilrow 1, 0, 0, false, []⟩])
   (.seq (.seg false [⟨some 15, none, .mksl true 1 [], 0, 0, false, []⟩,
    ⟨some 13, none, .mov (.t 15), 0, 0, false, []⟩])
   (.seq (.seq (.seg false [⟨some 14, none, .mov (.k (.int .i64 0)), 0, 0, false, []⟩])
   (.block 0 (.loop [0, 1, 2, 3, 4, 5, 13, 14] [13] L55x0)))
   (.seq (.seg false [⟨some 51, none, .mov (.t 13), 0, 0, false, []⟩,
    ⟨some 12, none, .mov (.t 51), 0, 0, false, []⟩])
   (.ret))))⟩
/-- loop.example/tablehouse/laws.joined -/
def F62 : F := ⟨10, [(false, 4, 0, false)],
   .seq (.seg false [⟨some 4, none, .nilrow 1, 0, 0, false, []⟩])
   (.seq (.seg false [⟨some 5, none, .mksl true 1 [], 0, 0, false, []⟩,
    ⟨some 6, none, .mov (.t 0), 0, 0, false, []⟩,
    ⟨some 7, none, .app 1 (.t 5) (.t 6), 0, 0, false, []⟩,
    ⟨some 8, none, .mov (.t 1), 0, 0, false, []⟩,
    ⟨some 9, none, .app 1 (.t 7) (.t 8), 0, 0, false, []⟩,
    ⟨some 4, none, .mov (.t 9), 0, 0, false, []⟩])
   (.cutTo [4] (.ret)))⟩
def B61x0 : C := .seq (.seg false [⟨some 12, none, .bin .lss (.t 11) (.t 10), 0, 0, false, []⟩])
   (.seq (.cond (.t 12) (.skip)
   (.exit 0))
   (.seq (.block 1 (.seq (.seg false [⟨some 13, none, .iaddr 1 (.t 9) (.t 11), 0, 0, false, []⟩,
    ⟨some 14, none, .load false 1 (.t 13), 0, 0, false, []⟩,
    ⟨some 8, none, .mov (.t 14), 0, 0, false, []⟩])
   (.seq (.seg false [⟨some 15, none, .mov (.t 6), 0, 0, false, []⟩,
    ⟨some 16, none, .mov (.t 8), 0, 0, false, []⟩,
    ⟨some 17, none, .call 53 [.t 15, .t 16] false false, 0, 0, false, []⟩,
    ⟨some 18, none, .mov (.t 1), 0, 0, false, []⟩,
    ⟨some 19, none, .mov (.t 8), 0, 0, false, []⟩,
    ⟨some 20, none, .call 53 [.t 18, .t 19] false false, 0, 0, false, []⟩,
    ⟨some 21, none, .bin .lss (.t 17) (.t 20), 0, 0, false, []⟩])
   (.cutTo [1, 5, 6, 8, 9, 10, 11, 21] (.cond (.t 21) (.seg false [⟨some 22, none, .mov (.t 6), 0, 0, false, []⟩,
    ⟨some 23, none, .mov (.t 8), 0, 0, false, []⟩,
    ⟨some 24, none, .mksl false 1 [.t 23], 0, 0, false, []⟩,
    ⟨some 25, none, .app 1 (.t 22) (.t 24), 0, 0, false, []⟩,
    ⟨some 6, none, .mov (.t 25), 0, 0, false, []⟩])
   (.seg false [⟨some 26, none, .mov (.t 5), 0, 0, false, []⟩,
    ⟨some 27, none, .mov (.t 8), 0, 0, false, []⟩,
    ⟨some 28, none, .mksl false 1 [.t 27], 0, 0, false, []⟩,
    ⟨some 29, none, .app 1 (.t 26) (.t 28), 0, 0, false, []⟩,
    ⟨some 5, none, .mov (.t 29), 0, 0, false, []⟩]))))))
   (.cutTo [1, 5, 6, 9, 10, 11] (.seg false [⟨some 30, none, .bin .add (.t 11) (.k (.int .i64 1)), 0, 0, false, []⟩,
    ⟨some 11, none, .mov (.t 30), 0, 0, false, []⟩]))))
def L61x0 : C := B61x0
theorem evL61x0 (run : Run) (draw : List I → Env → Heap → Option (Env × Heap)) (e : Env) (h : Heap) : evC run draw L61x0 e h = evC run draw B61x0 e h := rfl
/-- loop.example/tablehouse/impl.RowsLess -/
def F61 : F := ⟨33, [(false, 4, 0, false)],
   .seq (.seg false [⟨some 4, none, .mov (.k (.sl true 1 [])), 0, 0, false, []⟩])
   (.seq (.seg false [⟨some 5, none, .nilrow 1, 0, 0, false, []⟩,
    ⟨some 6, none, .nilrow 1, 0, 0, false, []⟩])
   (.seq (.seq (.seg false [⟨some 9, none, .mov (.t 0), 0, 0, false, []⟩,
    ⟨some 10, none, .len false (.t 9), 0, 0, false, []⟩,
    ⟨some 11, none, .mov (.k (.int .i64 0)), 0, 0, false, []⟩])
   (.block 0 (.loop [1, 5, 6, 9, 10, 11] [5] L61x0)))
   (.seq (.seg false [⟨some 31, none, .mov (.t 5), 0, 0, false, []⟩,
    ⟨some 32, none, .call 120 [.t 31] false false, 0, 0, false, []⟩,
    ⟨some 4, none, .mov (.t 32), 0, 0, false, []⟩])
   (.ret))))⟩
/-- loop.example/tablehouse/spec.l20Open -/
def F63 : F := ⟨11, [(false, 2, 0, false)],
   .seq (.seg false [⟨some 2, none, .mov (.k .undef), 0, 0, false, []⟩])
   (.seq (.seq (.seg false [⟨some 3, none, .mov (.t 0), 0, 0, false, []⟩,
    ⟨some 4, none, .len false (.t 3), 0, 0, false, []⟩,
    ⟨some 5, none, .bin .gtr (.t 4) (.k (.int .i64 2000)), 0, 0, false, []⟩])
   (.cond (.t 5) (.seg false [⟨some 6, none, .mov (.t 0), 0, 0, false, []⟩,
    ⟨some 7, none, .slc false 1 (.t 6) none (some (.k (.int .i64 2000))) none, 0, 0, false, []⟩,
    ⟨some 0, none, .mov (.t 7), 0, 0, false, []⟩])
   (.skip)))
   (.cutTo [0] (.seq (.seg false [⟨some 8, none, .mov (.t 0), 0, 0, false, []⟩,
    ⟨some 9, none, .build [.sl true 1 [], .int .i64 0] [(0, 1, .t 8)], 0, 0, false, []⟩,
    ⟨some 10, none, .box (.t 9), 0, 0, false, []⟩,
    ⟨some 2, none, .mov (.t 10), 0, 0, false, []⟩])
   (.cutTo [2] (.ret)))))⟩
/-- loop.example/tablehouse/spec.l20Asked -/
def F64 : F := ⟨22, [(false, 4, 0, false), (false, 5, 0, false), (false, 6, 0, false)],
   .seq (.seg false [⟨some 4, none, .mov (.k (.sl true 2 [])), 0, 0, false, []⟩,
    ⟨some 5, none, .mov (.k (.sl true 3 [])), 0, 0, false, []⟩,
    ⟨some 6, none, .mov (.k (.sl true 5 [])), 0, 0, false, []⟩])
   (.seq (.seg false [⟨some 8, none, .mov (.t 0), 0, 0, false, []⟩,
    ⟨some 9, none, .mov (.t 1), 0, 0, false, []⟩,
    ⟨some 10, none, .bin .mul (.k (.int .i64 3)) (.t 9), 0, 0, false, []⟩,
    ⟨some 11, none, .call 87 [.t 8, .t 10] true false, 0, 0, false, []⟩,
    ⟨some 7, none, .mov (.t 11), 0, 0, false, []⟩])
   (.cutTo [0, 1, 7] (.seq (.seg false [⟨some 12, none, .mov (.t 7), 0, 0, false, []⟩,
    ⟨some 13, none, .mov (.t 0), 0, 0, false, []⟩,
    ⟨some 14, none, .mov (.t 7), 0, 0, false, []⟩,
    ⟨some 15, none, .mov (.t 1), 0, 0, false, []⟩,
    ⟨some 16, none, .bin .mul (.k (.int .i64 3)) (.t 15), 0, 0, false, []⟩,
    ⟨some 17, none, .call 93 [.t 13, .t 14, .t 16] true false, 0, 0, false, []⟩,
    ⟨some 18, none, .mov (.t 0), 0, 0, false, []⟩,
    ⟨some 19, none, .mov (.t 7), 0, 0, false, []⟩,
    ⟨some 20, none, .mov (.t 1), 0, 0, false, []⟩,
    ⟨some 21, none, .call 121 [.t 18, .t 19, .t 20] true false, 0, 0, false, []⟩,
    ⟨some 4, none, .mov (.t 12), 0, 0, false, []⟩,
    ⟨some 5, none, .mov (.t 17), 0, 0, false, []⟩,
    ⟨some 6, none, .mov (.t 21), 0, 0, false, []⟩])
   (.cutTo [4, 5, 6] (.ret)))))⟩
def E65x0 : List I := [⟨some 47, none, .mov (.t 0), 0, 0, false, []⟩,
    ⟨some 48, none, .nilchk (.t 47), 0, 0, false, []⟩,
    ⟨some 49, none, .faddr 0 1 (.t 48), 0, 0, false, []⟩,
    ⟨some 50, none, .load false 1 (.t 49), 0, 0, false, []⟩,
    ⟨some 51, none, .mov (.t 5), 0, 0, false, []⟩,
    ⟨some 52, none, .mov (.t 0), 0, 0, false, []⟩,
    ⟨some 53, none, .nilchk (.t 52), 0, 0, false, []⟩,
    ⟨some 54, none, .faddr 0 1 (.t 53), 0, 0, false, []⟩,
    ⟨some 55, none, .load false 1 (.t 54), 0, 0, false, []⟩,
    ⟨some 56, none, .len false (.t 55), 0, 0, false, []⟩,
    ⟨some 57, none, .bin .rem (.t 51) (.t 56), 0, 0, false, []⟩,
    ⟨some 58, none, .iaddr 1 (.t 50) (.t 57), 0, 0, false, []⟩,
    ⟨some 59, none, .load false 1 (.t 58), 0, 0, false, []⟩,
    ⟨some 60, none, .conv (.int .i64) (.t 59), 0, 0, false, []⟩,
    ⟨some 61, none, .bin .mul (.t 60) (.k (.int .i64 131)), 0, 0, false, []⟩,
    ⟨some 62, none, .mov (.t 0), 0, 0, false, []⟩,
    ⟨some 63, none, .nilchk (.t 62), 0, 0, false, []⟩,
    ⟨some 64, none, .faddr 0 1 (.t 63), 0, 0, false, []⟩,
    ⟨some 65, none, .load false 1 (.t 64), 0, 0, false, []⟩,
    ⟨some 66, none, .mov (.t 5), 0, 0, false, []⟩,
    ⟨some 67, none, .bin .mul (.t 66) (.k (.int .i64 7)), 0, 0, false, []⟩,
    ⟨some 68, none, .bin .add (.t 67) (.k (.int .i64 3)), 0, 0, false, []⟩,
    ⟨some 69, none, .mov (.t 0), 0, 0, false, []⟩,
    ⟨some 70, none, .nilchk (.t 69), 0, 0, false, []⟩,
    ⟨some 71, none, .faddr 0 1 (.t 70), 0, 0, false, []⟩,
    ⟨some 72, none, .load false 1 (.t 71), 0, 0, false, []⟩,
    ⟨some 73, none, .len false (.t 72), 0, 0, false, []⟩,
    ⟨some 74, none, .bin .rem (.t 68) (.t 73), 0, 0, false, []⟩,
    ⟨some 75, none, .iaddr 1 (.t 65) (.t 74), 0, 0, false, []⟩,
    ⟨some 76, none, .load false 1 (.t 75), 0, 0, false, []⟩,
    ⟨some 77, none, .conv (.int .i64) (.t 76), 0, 0, false, []⟩,
    ⟨some 78, none, .bin .mul (.t 77) (.k (.int .i64 1117)), 0, 0, false, []⟩,
    ⟨some 79, none, .bin .add (.t 61) (.t 78), 0, 0, false, []⟩,
    ⟨some 80, none, .mov (.t 5), 0, 0, false, []⟩,
    ⟨some 81, none, .bin .mul (.t 80) (.k (.int .i64 29)), 0, 0, false, []⟩,
    ⟨some 82, none, .bin .add (.t 79) (.t 81), 0, 0, false, []⟩,
    ⟨some 83, none, .mov (.t 5), 0, 0, false, []⟩,
    ⟨some 84, none, .mov (.t 0), 0, 0, false, []⟩,
    ⟨some 85, none, .nilchk (.t 84), 0, 0, false, []⟩,
    ⟨some 86, none, .faddr 0 1 (.t 85), 0, 0, false, []⟩,
    ⟨some 87, none, .load false 1 (.t 86), 0, 0, false, []⟩,
    ⟨some 88, none, .len false (.t 87), 0, 0, false, []⟩,
    ⟨some 89, none, .bin .quo (.t 83) (.t 88), 0, 0, false, []⟩,
    ⟨some 90, none, .bin .mul (.t 89) (.k (.int .i64 53)), 0, 0, false, []⟩,
    ⟨some 91, none, .bin .add (.t 82) (.t 90), 0, 0, false, []⟩,
    ⟨some 6, none, .mov (.t 91), 0, 0, false, []⟩]
def D65x0 : List I := E65x0
theorem evD65x0 (run : Run) (e : Env) (h : Heap) : drawI run D65x0 e h = DrawS (evQ run E65x0 e h) run E65x0 e h := drawI_quiet run _ (by rfl) e h
/-- (*loop.example/tablehouse/spec.l20Rd).pick -/
def F65 : F := ⟨99, [(false, 4, 0, false)],
   .seq (.seg false [⟨some 4, none, .mov (.k (.int .i64 0)), 0, 0, false, []⟩])
   (.seq (.seg false [⟨some 7, none, .mov (.t 0), 0, 0, false, []⟩,
    ⟨some 8, none, .mov (.t 0), 0, 0, false, []⟩,
    ⟨some 9, none, .nilchk (.t 8), 0, 0, false, []⟩,
    ⟨some 10, none, .faddr 1 1 (.t 9), 0, 0, false, []⟩,
    ⟨some 11, none, .load false 1 (.t 10), 0, 0, false, []⟩,
    ⟨some 12, none, .bin .add (.t 11) (.k (.int .i64 1)), 0, 0, false, []⟩,
    ⟨some 13, none, .nilchk (.t 7), 0, 0, false, []⟩,
    ⟨some 14, none, .faddr 1 1 (.t 13), 0, 0, false, []⟩,
    ⟨none, none, .store 1 (.t 14) (.t 12), 0, 0, false, []⟩])
   (.cutTo [0, 1] (.seq (.seq (.seg false [⟨some 15, none, .mov (.t 1), 0, 0, false, []⟩,
    ⟨some 16, none, .bin .lss (.t 15) (.k (.int .i64 1)), 0, 0, false, []⟩,
    ⟨some 17, none, .mov (.t 16), 0, 0, false, []⟩,
    ⟨some 18, some (17, false), .mov (.t 0), 0, 0, false, []⟩,
    ⟨some 19, some (17, false), .nilchk (.t 18), 0, 0, false, []⟩,
    ⟨some 20, some (17, false), .faddr 0 1 (.t 19), 0, 0, false, []⟩,
    ⟨some 21, some (17, false), .load false 1 (.t 20), 0, 0, false, []⟩,
    ⟨some 22, some (17, false), .len false (.t 21), 0, 0, false, []⟩,
    ⟨some 23, some (17, false), .bin .eql (.t 22) (.k (.int .i64 0)), 0, 0, false, []⟩,
    ⟨some 24, none, .pick (.t 17) (.k (.bool true)) (.t 23), 0, 0, false, []⟩])
   (.cutTo [0, 1, 24] (.cond (.t 24) (.seq (.seg false [⟨some 4, none, .mov (.k (.int .i64 0)), 0, 0, false, []⟩])
   (.ret))
   (.skip))))
   (.cutTo [0, 1] (.seq (.seg false [⟨some 25, none, .mov (.t 0), 0, 0, false, []⟩,
    ⟨some 26, none, .nilchk (.t 25), 0, 0, false, []⟩,
    ⟨some 27, none, .faddr 1 1 (.t 26), 0, 0, false, []⟩,
    ⟨some 28, none, .load false 1 (.t 27), 0, 0, false, []⟩,
    ⟨some 29, none, .bin .sub (.t 28) (.k (.int .i64 1)), 0, 0, false, []⟩,
    ⟨some 5, none, .mov (.t 29), 0, 0, false, []⟩])
   (.cutTo [0, 1, 5] (.seq (.seq (.seg false [⟨some 30, none, .mov (.t 5), 0, 0, false, []⟩,
    ⟨some 31, none, .mov (.t 0), 0, 0, false, []⟩,
    ⟨some 32, none, .nilchk (.t 31), 0, 0, false, []⟩,
    ⟨some 33, none, .faddr 0 1 (.t 32), 0, 0, false, []⟩,
    ⟨some 34, none, .load false 1 (.t 33), 0, 0, false, []⟩,
    ⟨some 35, none, .len false (.t 34), 0, 0, false, []⟩,
    ⟨some 36, none, .bin .lss (.t 30) (.t 35), 0, 0, false, []⟩])
   (.cutTo [0, 1, 5, 36] (.cond (.t 36) (.seq (.seg false [⟨some 37, none, .mov (.t 0), 0, 0, false, []⟩,
    ⟨some 38, none, .nilchk (.t 37), 0, 0, false, []⟩,
    ⟨some 39, none, .faddr 0 1 (.t 38), 0, 0, false, []⟩,
    ⟨some 40, none, .load false 1 (.t 39), 0, 0, false, []⟩,
    ⟨some 41, none, .mov (.t 5), 0, 0, false, []⟩,
    ⟨some 42, none, .iaddr 1 (.t 40) (.t 41), 0, 0, false, []⟩,
    ⟨some 43, none, .load false 1 (.t 42), 0, 0, false, []⟩,
    ⟨some 44, none, .conv (.int .i64) (.t 43), 0, 0, false, []⟩,
    ⟨some 45, none, .mov (.t 1), 0, 0, false, []⟩,
    ⟨some 46, none, .bin .rem (.t 44) (.t 45), 0, 0, false, []⟩,
    ⟨some 4, none, .mov (.t 46), 0, 0, false, []⟩])
   (.cutTo [4] (.ret)))
   (.skip))))
   (.cutTo [0, 1, 5] (.seq (.seg true D65x0)
   (.cutTo [1, 6] (.seq (.seg false [⟨some 92, none, .mov (.t 6), 0, 0, false, []⟩,
    ⟨some 93, none, .mov (.t 6), 0, 0, false, []⟩,
    ⟨some 94, none, .bin .quo (.t 93) (.k (.int .i64 64)), 0, 0, false, []⟩,
    ⟨some 95, none, .bin .xor (.t 92) (.t 94), 0, 0, false, []⟩,
    ⟨some 6, none, .mov (.t 95), 0, 0, false, []⟩])
   (.cutTo [1, 6] (.seq (.seg false [⟨some 96, none, .mov (.t 6), 0, 0, false, []⟩,
    ⟨some 97, none, .mov (.t 1), 0, 0, false, []⟩,
    ⟨some 98, none, .bin .rem (.t 96) (.t 97), 0, 0, false, []⟩,
    ⟨some 4, none, .mov (.t 98), 0, 0, false, []⟩])
   (.cutTo [4] (.ret)))))))))))))))⟩
/-- slices.ContainsFunc<<>int,int> -/
def F66 : F := ⟨9, [(false, 4, 0, false)],
   .seq (.seg false [⟨some 4, none, .mov (.k (.bool false)), 0, 0, false, []⟩])
   (.seq (.seg false [⟨some 5, none, .mov (.t 0), 0, 0, false, []⟩,
    ⟨some 6, none, .mov (.t 1), 0, 0, false, []⟩,
    ⟨some 7, none, .call 122 [.t 5, .t 6] true false, 0, 0, false, []⟩,
    ⟨some 8, none, .bin .geq (.t 7) (.k (.int .i64 0)), 0, 0, false, []⟩,
    ⟨some 4, none, .mov (.t 8), 0, 0, false, []⟩])
   (.cutTo [4] (.ret)))⟩
/-- loop.example/tablehouse/impl.ExprMoved$1 -/
def F67 : F := ⟨6, [(false, 2, 0, false)],
   .seq (.seg false [⟨some 2, none, .mov (.k (.bool false)), 0, 0, false, []⟩])
   (.seq (.seg false [⟨some 3, none, .mov (.t 0), 0, 0, false, []⟩,
    ⟨some 4, none, .call 68 [.t 3, .k (.int .i64 0), .k (.int .i64 3)] false false, 0, 0, false, []⟩,
    ⟨some 5, none, .un .not (.t 4), 0, 0, false, []⟩,
    ⟨some 2, none, .mov (.t 5), 0, 0, false, []⟩])
   (.cutTo [2] (.ret)))⟩
def B69x0 : C := .seq (.seg false [⟨some 13, none, .bin .lss (.t 12) (.t 11), 0, 0, false, []⟩])
   (.seq (.cond (.t 13) (.skip)
   (.exit 0))
   (.seq (.block 1 (.seq (.seg false [⟨some 14, none, .mov (.t 12), 0, 0, false, []⟩,
    ⟨some 15, none, .iaddr 5 (.t 10) (.t 12), 0, 0, false, []⟩,
    ⟨some 16, none, .load true 5 (.t 15), 0, 0, false, []⟩,
    ⟨some 7, none, .alloc [.int .i64 0, .int .i64 0, .int .i64 0, .int .i64 0, .str ⟨#[]⟩], 0, 0, false, []⟩,
    ⟨some 6, none, .mov (.t 14), 0, 0, false, []⟩,
    ⟨none, none, .store 5 (.t 7) (.t 16), 0, 0, false, []⟩])
   (.cutTo [1, 5, 6, 7, 10, 11, 12] (.seq (.seg false [⟨some 17, none, .faddr 0 1 (.t 7), 0, 0, false, []⟩,
    ⟨some 18, none, .load false 1 (.t 17), 0, 0, false, []⟩,
    ⟨some 19, none, .bin .eql (.t 18) (.k (.int .i64 2)), 0, 0, false, []⟩])
   (.cond (.t 19) (.seg false [⟨some 20, none, .mov (.t 5), 0, 0, false, []⟩,
    ⟨some 21, none, .mov (.t 6), 0, 0, false, []⟩,
    ⟨some 22, none, .mov (.t 1), 0, 0, false, []⟩,
    ⟨some 23, none, .faddr 1 1 (.t 7), 0, 0, false, []⟩,
    ⟨some 24, none, .load false 1 (.t 23), 0, 0, false, []⟩,
    ⟨some 25, none, .iaddr 1 (.t 22) (.t 24), 0, 0, false, []⟩,
    ⟨some 26, none, .load false 1 (.t 25), 0, 0, false, []⟩,
    ⟨some 27, none, .iaddr 5 (.t 20) (.t 21), 0, 0, false, []⟩,
    ⟨some 28, none, .faddr 1 1 (.t 27), 0, 0, false, []⟩,
    ⟨none, none, .store 1 (.t 28) (.t 26), 0, 0, false, []⟩])
   (.skip))))))
   (.cutTo [1, 5, 10, 11, 12] (.seg false [⟨some 29, none, .bin .add (.t 12) (.k (.int .i64 1)), 0, 0, false, []⟩,
    ⟨some 12, none, .mov (.t 29), 0, 0, false, []⟩]))))
def L69x0 : C := B69x0
theorem evL69x0 (run : Run) (draw : List I → Env → Heap → Option (Env × Heap)) (e : Env) (h : Heap) : evC run draw L69x0 e h = evC run draw B69x0 e h := rfl
/-- loop.example/tablehouse/impl.exprMoved -/
def F69 : F := ⟨31, [(false, 4, 0, false)],
   .seq (.seg false [⟨some 4, none, .mov (.k (.sl true 5 [])), 0, 0, false, []⟩])
   (.seq (.seg false [⟨some 8, none, .mov (.t 0), 0, 0, false, []⟩,
    ⟨some 9, none, .call 123 [.t 8] false true, 0, 0, false, []⟩,
    ⟨some 5, none, .mov (.t 9), 0, 0, false, []⟩])
   (.seq (.seq (.seg false [⟨some 10, none, .mov (.t 5), 0, 0, false, []⟩,
    ⟨some 11, none, .len false (.t 10), 0, 0, false, []⟩,
    ⟨some 12, none, .mov (.k (.int .i64 0)), 0, 0, false, []⟩])
   (.block 0 (.loop [1, 5, 10, 11, 12] [5] L69x0)))
   (.seq (.seg false [⟨some 30, none, .mov (.t 5), 0, 0, false, []⟩,
    ⟨some 4, none, .mov (.t 30), 0, 0, false, []⟩])
   (.ret))))⟩
/-- loop.example/tablehouse/spec.l1In -/
def F70 : F := ⟨15, [(false, 6, 0, false)],
   .seq (.seg false [⟨some 6, none, .mov (.k (.bool false)), 0, 0, false, []⟩])
   (.seq (.seg false [⟨some 7, none, .mov (.t 0), 0, 0, false, []⟩,
    ⟨some 8, none, .mov (.t 1), 0, 0, false, []⟩,
    ⟨some 9, none, .bin .geq (.t 7) (.t 8), 0, 0, false, []⟩,
    ⟨some 10, none, .mov (.t 9), 0, 0, false, []⟩,
    ⟨some 11, some (10, true), .mov (.t 0), 0, 0, false, []⟩,
    ⟨some 12, some (10, true), .mov (.t 2), 0, 0, false, []⟩,
    ⟨some 13, some (10, true), .bin .leq (.t 11) (.t 12), 0, 0, false, []⟩,
    ⟨some 14, none, .pick (.t 10) (.t 13) (.k (.bool false)), 0, 0, false, []⟩,
    ⟨some 6, none, .mov (.t 14), 0, 0, false, []⟩])
   (.cutTo [6] (.ret)))⟩
/-- loop.example/tablehouse/impl.ColumnsOk -/
def F71 : F := ⟨11, [(false, 2, 0, false)],
   .seq (.seg false [⟨some 2, none, .mov (.k (.bool false)), 0, 0, false, []⟩])
   (.seq (.seg false [⟨some 3, none, .mov (.t 0), 0, 0, false, []⟩,
    ⟨some 4, none, .len false (.t 3), 0, 0, false, []⟩,
    ⟨some 5, none, .bin .leq (.t 4) (.k (.int .i64 4)), 0, 0, false, []⟩,
    ⟨some 6, none, .mov (.t 5), 0, 0, false, []⟩,
    ⟨some 7, some (6, true), .mov (.t 0), 0, 0, false, []⟩,
    ⟨some 8, some (6, true), .call 124 [.t 7, .k (.clo 125 [])] true false, 0, 0, false, []⟩,
    ⟨some 9, some (6, true), .un .not (.t 8), 0, 0, false, []⟩,
    ⟨some 10, none, .pick (.t 6) (.t 9) (.k (.bool false)), 0, 0, false, []⟩,
    ⟨some 2, none, .mov (.t 10), 0, 0, false, []⟩])
   (.cutTo [2] (.ret)))⟩
/-- loop.example/tablehouse/impl.RowOk -/
def F72 : F := ⟨11, [(false, 2, 0, false)],
   .seq (.seg false [⟨some 2, none, .mov (.k (.bool false)), 0, 0, false, []⟩])
   (.seq (.seg false [⟨some 3, none, .mov (.t 0), 0, 0, false, []⟩,
    ⟨some 4, none, .len false (.t 3), 0, 0, false, []⟩,
    ⟨some 5, none, .bin .leq (.t 4) (.k (.int .i64 4)), 0, 0, false, []⟩,
    ⟨some 6, none, .mov (.t 5), 0, 0, false, []⟩,
    ⟨some 7, some (6, true), .mov (.t 0), 0, 0, false, []⟩,
    ⟨some 8, some (6, true), .call 126 [.t 7, .k (.clo 127 [])] true false, 0, 0, false, []⟩,
    ⟨some 9, some (6, true), .un .not (.t 8), 0, 0, false, []⟩,
    ⟨some 10, none, .pick (.t 6) (.t 9) (.k (.bool false)), 0, 0, false, []⟩,
    ⟨some 2, none, .mov (.t 10), 0, 0, false, []⟩])
   (.cutTo [2] (.ret)))⟩
/-- loop.example/tablehouse/impl.ValueOk -/
def F73 : F := ⟨5, [(false, 2, 0, false)],
   .seq (.seg false [⟨some 1, none, .box (.t 0), 0, 0, false, []⟩,
    ⟨some 2, none, .mov (.k (.bool false)), 0, 0, false, []⟩])
   (.seq (.seg false [⟨some 3, none, .load true 3 (.t 1), 0, 0, false, []⟩,
    ⟨some 4, none, .call 128 [.t 3] false false, 0, 0, false, []⟩,
    ⟨some 2, none, .mov (.t 4), 0, 0, false, []⟩])
   (.ret))⟩
def E74x0 : List I := [⟨some 21, none, .load true 5 (.t 7), 0, 1, false, []⟩,
    ⟨some 22, none, .mov (.t 0), 0, 1, false, []⟩,
    ⟨some 23, none, .mov (.t 5), 0, 1, false, []⟩,
    ⟨some 24, none, .mov (.t 8), 0, 1, false, []⟩,
    ⟨some 25, none, .slc false 3 (.t 23) (some (.t 24)) none none, 0, 1, false, []⟩,
    ⟨some 26, none, .call 129 [.t 21, .t 22, .t 25] false false, 0, 1, false, []⟩,
    ⟨some 9, none, .alloc [.int .i64 0, .int .i64 0, .str ⟨#[]⟩], 0, 0, true, []⟩,
    ⟨none, none, .store 3 (.t 9) (.t 26), 1, 0, true, []⟩]
def D74x0 : List I := E74x0
theorem evD74x0 (run : Run) (e : Env) (h : Heap) : drawI run D74x0 e h = DrawW (evW run E74x0 e h []) run E74x0 e h := drawI_write run _ e h
def E74x1 : List I := [⟨some 27, none, .mov (.t 5), 0, 0, false, [5]⟩,
    ⟨some 28, none, .mov (.t 8), 0, 0, false, []⟩,
    ⟨some 29, none, .slc false 3 (.t 27) none (some (.t 28)) none, 0, 0, false, []⟩,
    ⟨some 30, none, .load true 3 (.t 9), 0, 0, false, []⟩,
    ⟨some 31, none, .mksl false 3 [.t 30], 0, 0, false, []⟩,
    ⟨some 32, none, .app 3 (.t 29) (.t 31), 0, 0, true, []⟩,
    ⟨some 5, none, .mov (.t 32), 1, 1, false, []⟩]
def D74x1 : List I := E74x1
theorem evD74x1 (run : Run) (e : Env) (h : Heap) : drawI run D74x1 e h = DrawW (evW run E74x1 e h []) run E74x1 e h := drawI_write run _ e h
def B74x0 : C := .seq (.seg false [⟨some 13, none, .bin .lss (.t 12) (.t 11), 0, 0, false, []⟩])
   (.seq (.cond (.t 13) (.skip)
   (.exit 0))
   (.seq (.block 1 (.seq (.seg false [⟨some 14, none, .iaddr 5 (.t 10) (.t 12), 0, 0, false, []⟩,
    ⟨some 15, none, .load true 5 (.t 14), 0, 0, false, []⟩,
    ⟨some 7, none, .alloc [.int .i64 0, .int .i64 0, .int .i64 0, .int .i64 0, .str ⟨#[]⟩], 0, 0, false, []⟩,
    ⟨none, none, .store 5 (.t 7) (.t 15), 0, 0, false, []⟩])
   (.cutTo [0, 4, 5, 7, 10, 11, 12] (.seq (.seg false [⟨some 16, none, .mov (.t 5), 0, 0, false, []⟩,
    ⟨some 17, none, .len false (.t 16), 0, 0, false, []⟩,
    ⟨some 18, none, .load true 5 (.t 7), 0, 0, false, []⟩,
    ⟨some 19, none, .call 89 [.t 18] false false, 0, 0, false, []⟩,
    ⟨some 20, none, .bin .sub (.t 17) (.t 19), 0, 0, false, []⟩,
    ⟨some 8, none, .mov (.t 20), 0, 0, false, []⟩])
   (.cutTo [0, 4, 5, 7, 8, 10, 11, 12] (.seq (.seg true D74x0)
   (.cutTo [0, 4, 5, 8, 9, 10, 11, 12] (.seg true D74x1))))))))
   (.cutTo [0, 4, 5, 10, 11, 12] (.seg false [⟨some 33, none, .bin .add (.t 12) (.k (.int .i64 1)), 0, 0, false, []⟩,
    ⟨some 12, none, .mov (.t 33), 0, 0, false, []⟩]))))
def L74x0 : C := B74x0
theorem evL74x0 (run : Run) (draw : List I → Env → Heap → Option (Env × Heap)) (e : Env) (h : Heap) : evC run draw L74x0 e h = evC run draw B74x0 e h := rfl
/-- loop.example/tablehouse/impl.exprValue -/
def F74 : F := ⟨37, [(true, 4, 3, true)],
   .seq (.seg false [⟨some 4, none, .alloc [.int .i64 0, .int .i64 0, .str ⟨#[]⟩], 0, 0, false, []⟩])
   (.seq (.seg false [⟨some 5, none, .nilrow 3, 0, 0, false, []⟩])
   (.seq (.seq (.seg false [⟨some 10, none, .mov (.t 1), 0, 0, false, []⟩,
    ⟨some 11, none, .len false (.t 10), 0, 0, false, []⟩,
    ⟨some 12, none, .mov (.k (.int .i64 0)), 0, 0, false, []⟩])
   (.block 0 (.loop [0, 4, 5, 10, 11, 12] [4, 5] L74x0)))
   (.seq (.seg false [⟨some 34, none, .mov (.t 5), 0, 0, false, []⟩,
    ⟨some 35, none, .iaddr 3 (.t 34) (.k (.int .i64 0)), 0, 0, false, []⟩,
    ⟨some 36, none, .load true 3 (.t 35), 0, 0, false, []⟩,
    ⟨none, none, .store 3 (.t 4) (.t 36), 0, 0, false, []⟩])
   (.cutTo [4] (.ret)))))⟩
def B81x0 : C := .seq (.seq (.seg false [⟨some 13, none, .mov (.t 6), 0, 0, false, []⟩,
    ⟨some 14, none, .bin .gtr (.t 13) (.k (.int .i64 0)), 0, 0, false, []⟩])
   (.cond (.t 14) (.skip)
   (.exit 0)))
   (.seq (.block 1 (.seq (.seg false [⟨some 17, none, .mov (.t 0), 0, 0, false, []⟩,
    ⟨some 18, none, .call 87 [.t 17, .k (.int .i64 0)] true false, 0, 0, false, []⟩,
    ⟨some 7, none, .mov (.t 18), 0, 0, false, []⟩])
   (.seq (.seg false [⟨some 19, none, .mov (.t 7), 0, 0, false, []⟩,
    ⟨some 20, none, .mov (.t 0), 0, 0, false, []⟩,
    ⟨some 21, none, .call 65 [.t 20, .k (.int .i64 2)] true false, 0, 0, false, []⟩,
    ⟨some 22, none, .mov (.t 7), 0, 0, false, []⟩,
    ⟨some 23, none, .len false (.t 22), 0, 0, false, []⟩,
    ⟨some 24, none, .bin .rem (.t 21) (.t 23), 0, 0, false, []⟩,
    ⟨some 25, none, .bin .add (.k (.int .i64 1)) (.t 24), 0, 0, false, []⟩,
    ⟨some 26, none, .slc false 2 (.t 19) none (some (.t 25)) none, 0, 0, false, []⟩,
    ⟨some 7, none, .mov (.t 26), 0, 0, false, []⟩])
   (.cutTo [0, 1, 5, 6, 7] (.seq (.seg false [⟨some 27, none, .mov (.t 7), 0, 0, false, []⟩,
    ⟨some 28, none, .mov (.t 0), 0, 0, false, []⟩,
    ⟨some 29, none, .mov (.t 7), 0, 0, false, []⟩,
    ⟨some 30, none, .call 133 [.t 28, .t 29, .k (.int .i64 0)] true false, 0, 0, false, []⟩,
    ⟨some 31, none, .build [.sl true 2 [], .sl true 1 []] [(0, 1, .t 27), (1, 1, .t 30)], 0, 0, false, []⟩,
    ⟨some 8, none, .alloc [.sl true 2 [], .sl true 1 []], 0, 0, false, []⟩,
    ⟨none, none, .store 2 (.t 8) (.t 31), 0, 0, false, []⟩])
   (.cutTo [0, 1, 5, 6, 8] (.seg false [⟨some 32, none, .mov (.t 5), 0, 0, false, []⟩,
    ⟨some 33, none, .load true 2 (.t 8), 0, 0, false, []⟩,
    ⟨some 34, none, .mksl false 2 [.t 33], 0, 0, false, []⟩,
    ⟨some 35, none, .app 2 (.t 32) (.t 34), 0, 0, false, []⟩,
    ⟨some 5, none, .mov (.t 35), 0, 0, false, []⟩])))))))
   (.cutTo [0, 1, 5, 6] (.seg false [⟨some 15, none, .mov (.t 6), 0, 0, false, []⟩,
    ⟨some 16, none, .bin .sub (.t 15) (.k (.int .i64 1)), 0, 0, false, []⟩,
    ⟨some 6, none, .mov (.t 16), 0, 0, false, []⟩])))
def L81x0 : C := B81x0
theorem evL81x0 (run : Run) (draw : List I → Env → Heap → Option (Env × Heap)) (e : Env) (h : Heap) : evC run draw L81x0 e h = evC run draw B81x0 e h := rfl
/-- loop.example/tablehouse/spec.l20Tables -/
def F81 : F := ⟨73, [(false, 4, 0, false)],
   .seq (.seg false [⟨some 4, none, .nilrow 2, 0, 0, false, []⟩])
   (.seq (.seg false [⟨some 9, none, .mksl true 2 [], 0, 0, false, []⟩,
    ⟨some 5, none, .mov (.t 9), 0, 0, false, []⟩])
   (.seq (.seq (.seg false [⟨some 10, none, .mov (.t 0), 0, 0, false, []⟩,
    ⟨some 11, none, .call 65 [.t 10, .k (.int .i64 3)] true false, 0, 0, false, []⟩,
    ⟨some 12, none, .bin .add (.k (.int .i64 1)) (.t 11), 0, 0, false, []⟩,
    ⟨some 6, none, .mov (.t 12), 0, 0, false, []⟩])
   (.cutTo [0, 1, 5, 6] (.block 0 (.loop [0, 1, 5, 6] [0, 1, 5] L81x0))))
   (.cutTo [0, 1, 5] (.seq (.seq (.seg false [⟨some 36, none, .mov (.t 0), 0, 0, false, []⟩,
    ⟨some 37, none, .mov (.t 1), 0, 0, false, []⟩,
    ⟨some 38, none, .call 134 [.t 36, .t 37] true false, 0, 0, false, []⟩])
   (.cond (.t 38) (.seq (.seg false [⟨some 39, none, .mov (.t 0), 0, 0, false, []⟩,
    ⟨some 40, none, .call 65 [.t 39, .k (.int .i64 3)] true false, 0, 0, false, []⟩])
   (.block 2 (.seq (.seg false [⟨some 52, none, .bin .eql (.t 40) (.k (.int .i64 0)), 0, 0, false, []⟩,
    ⟨some 51, none, .mov (.t 52), 0, 0, false, []⟩])
   (.cond (.t 51) (.seg false [⟨some 53, none, .mov (.t 5), 0, 0, false, []⟩,
    ⟨some 54, none, .build [.sl true 2 [], .sl true 1 []] [], 0, 0, false, []⟩,
    ⟨some 55, none, .build [.sl true 2 [], .sl true 1 []] [], 0, 0, false, []⟩,
    ⟨some 56, none, .build [.sl true 2 [], .sl true 1 []] [], 0, 0, false, []⟩,
    ⟨some 57, none, .mksl false 2 [.t 54, .t 55, .t 56], 0, 0, false, []⟩,
    ⟨some 58, none, .app 2 (.t 53) (.t 57), 0, 0, false, []⟩,
    ⟨some 5, none, .mov (.t 58), 0, 0, false, []⟩])
   (.seq (.seg false [⟨some 60, none, .bin .eql (.t 40) (.k (.int .i64 1)), 0, 0, false, []⟩,
    ⟨some 59, none, .mov (.t 60), 0, 0, false, []⟩])
   (.cond (.t 59) (.seg false [⟨some 61, none, .mov (.t 5), 0, 0, false, []⟩,
    ⟨some 62, none, .mov (.t 5), 0, 0, false, []⟩,
    ⟨some 63, none, .iaddr 2 (.t 62) (.k (.int .i64 0)), 0, 0, false, []⟩,
    ⟨some 64, none, .faddr 1 1 (.t 63), 0, 0, false, []⟩,
    ⟨some 65, none, .load false 1 (.t 64), 0, 0, false, []⟩,
    ⟨some 66, none, .build [.int .i64 0, .int .i64 0, .str ⟨#[]⟩] [(0, 1, .k (.int .i64 9))], 0, 0, false, []⟩,
    ⟨some 67, none, .mksl false 3 [.t 66], 0, 0, false, []⟩,
    ⟨some 68, none, .mksl false 1 [.t 67], 0, 0, false, []⟩,
    ⟨some 69, none, .app 1 (.t 65) (.t 68), 0, 0, false, []⟩,
    ⟨some 70, none, .iaddr 2 (.t 61) (.k (.int .i64 0)), 0, 0, false, []⟩,
    ⟨some 71, none, .faddr 1 1 (.t 70), 0, 0, false, []⟩,
    ⟨none, none, .store 1 (.t 71) (.t 69), 0, 0, false, []⟩])
   (.seg false [⟨some 41, none, .mov (.t 5), 0, 0, false, []⟩,
    ⟨some 42, none, .mov (.t 5), 0, 0, false, []⟩,
    ⟨some 43, none, .iaddr 2 (.t 42) (.k (.int .i64 0)), 0, 0, false, []⟩,
    ⟨some 44, none, .faddr 0 1 (.t 43), 0, 0, false, []⟩,
    ⟨some 45, none, .load false 1 (.t 44), 0, 0, false, []⟩,
    ⟨some 46, none, .build [.int .i64 0, .bool false] [(0, 1, .k (.int .i64 1))], 0, 0, false, []⟩,
    ⟨some 47, none, .mksl false 2 [.t 46], 0, 0, false, []⟩,
    ⟨some 48, none, .app 2 (.t 45) (.t 47), 0, 0, false, []⟩,
    ⟨some 49, none, .iaddr 2 (.t 41) (.k (.int .i64 0)), 0, 0, false, []⟩,
    ⟨some 50, none, .faddr 0 1 (.t 49), 0, 0, false, []⟩,
    ⟨none, none, .store 1 (.t 50) (.t 48), 0, 0, false, []⟩])))))))
   (.skip)))
   (.cutTo [5] (.seq (.seg false [⟨some 72, none, .mov (.t 5), 0, 0, false, []⟩,
    ⟨some 4, none, .mov (.t 72), 0, 0, false, []⟩])
   (.ret)))))))⟩
def E82x0 : List I := [⟨some 57, none, .mov (.t 7), 0, 1, false, []⟩,
    ⟨some 58, none, .mov (.t 7), 0, 1, false, []⟩,
    ⟨some 59, none, .iaddr 2 (.t 58) (.k (.int .i64 0)), 0, 1, false, []⟩,
    ⟨some 60, none, .faddr 1 1 (.t 59), 0, 1, false, []⟩,
    ⟨some 61, none, .load false 1 (.t 60), 0, 1, false, []⟩,
    ⟨some 62, none, .mov (.t 0), 0, 0, false, []⟩,
    ⟨some 63, none, .mov (.t 7), 0, 0, false, []⟩,
    ⟨some 64, none, .iaddr 2 (.t 63) (.k (.int .i64 0)), 0, 0, false, []⟩,
    ⟨some 65, none, .faddr 1 1 (.t 64), 0, 0, false, []⟩,
    ⟨some 66, none, .load false 1 (.t 65), 0, 0, false, []⟩,
    ⟨some 67, none, .len false (.t 66), 0, 0, false, []⟩,
    ⟨some 68, none, .call 65 [.t 62, .t 67] true false, 0, 0, true, []⟩,
    ⟨some 69, none, .slc false 5 (.t 61) none (some (.t 68)) none, 1, 1, false, []⟩,
    ⟨some 70, none, .iaddr 2 (.t 57) (.k (.int .i64 0)), 1, 1, false, []⟩,
    ⟨some 71, none, .faddr 1 1 (.t 70), 1, 1, false, []⟩,
    ⟨none, none, .store 1 (.t 71) (.t 69), 1, 0, true, []⟩]
def D82x0 : List I := E82x0
theorem evD82x0 (run : Run) (e : Env) (h : Heap) : drawI run D82x0 e h = DrawW (evW run E82x0 e h []) run E82x0 e h := drawI_write run _ e h
def B82x0 : C := .seq (.seq (.seg false [⟨some 10, none, .mov (.t 8), 0, 0, false, []⟩,
    ⟨some 11, none, .mov (.t 1), 0, 0, false, []⟩,
    ⟨some 12, none, .len false (.t 11), 0, 0, false, []⟩,
    ⟨some 13, none, .bin .lss (.t 10) (.t 12), 0, 0, false, []⟩])
   (.cutTo [0, 1, 2, 7, 8, 13] (.cond (.t 13) (.skip)
   (.exit 0))))
   (.cutTo [0, 1, 2, 7, 8] (.seq (.block 1 (.seq (.seg false [⟨some 16, none, .mov (.t 0), 0, 0, false, []⟩,
    ⟨some 17, none, .call 65 [.t 16, .k (.int .i64 3)] true false, 0, 0, false, []⟩,
    ⟨some 18, none, .bin .gtr (.t 17) (.k (.int .i64 0)), 0, 0, false, []⟩])
   (.cond (.t 18) (.seg false [⟨some 19, none, .mov (.t 7), 0, 0, false, []⟩,
    ⟨some 20, none, .mov (.t 8), 0, 0, false, []⟩,
    ⟨some 21, none, .mov (.t 0), 0, 0, false, []⟩,
    ⟨some 22, none, .mov (.t 1), 0, 0, false, []⟩,
    ⟨some 23, none, .mov (.t 8), 0, 0, false, []⟩,
    ⟨some 24, none, .iaddr 2 (.t 22) (.t 23), 0, 0, false, []⟩,
    ⟨some 25, none, .faddr 0 1 (.t 24), 0, 0, false, []⟩,
    ⟨some 26, none, .load false 1 (.t 25), 0, 0, false, []⟩,
    ⟨some 27, none, .call 88 [.t 21, .t 26, .k (.int .i64 3), .k (.int .i64 2)] true false, 0, 0, false, []⟩,
    ⟨some 28, none, .build [.int .i64 0, .sl true 5 []] [(0, 1, .t 20), (1, 1, .t 27)], 0, 0, false, []⟩,
    ⟨some 29, none, .mksl false 2 [.t 28], 0, 0, false, []⟩,
    ⟨some 30, none, .app 2 (.t 19) (.t 29), 0, 0, false, []⟩,
    ⟨some 7, none, .mov (.t 30), 0, 0, false, []⟩])
   (.skip))))
   (.cutTo [0, 1, 2, 7, 8] (.seg false [⟨some 14, none, .mov (.t 8), 0, 0, false, []⟩,
    ⟨some 15, none, .bin .add (.t 14) (.k (.int .i64 1)), 0, 0, false, []⟩,
    ⟨some 8, none, .mov (.t 15), 0, 0, false, []⟩]))))
def L82x0 : C := B82x0
theorem evL82x0 (run : Run) (draw : List I → Env → Heap → Option (Env × Heap)) (e : Env) (h : Heap) : evC run draw L82x0 e h = evC run draw B82x0 e h := rfl
/-- loop.example/tablehouse/spec.l20Guards -/
def F82 : F := ⟨73, [(false, 6, 0, false)],
   .seq (.seg false [⟨some 6, none, .nilrow 2, 0, 0, false, []⟩])
   (.seq (.seg false [⟨some 9, none, .mksl true 2 [], 0, 0, false, []⟩,
    ⟨some 7, none, .mov (.t 9), 0, 0, false, []⟩])
   (.seq (.seq (.seg false [⟨some 8, none, .mov (.k (.int .i64 0)), 0, 0, false, []⟩])
   (.block 0 (.loop [0, 1, 2, 7, 8] [0, 2, 7] L82x0)))
   (.seq (.seq (.seg false [⟨some 31, none, .mov (.t 7), 0, 0, false, []⟩,
    ⟨some 32, none, .len false (.t 31), 0, 0, false, []⟩,
    ⟨some 33, none, .bin .gtr (.t 32) (.k (.int .i64 0)), 0, 0, false, []⟩,
    ⟨some 34, none, .mov (.t 33), 0, 0, false, []⟩,
    ⟨some 35, some (34, true), .mov (.t 0), 0, 0, false, []⟩,
    ⟨some 36, some (34, true), .mov (.t 2), 0, 0, false, []⟩,
    ⟨some 37, some (34, true), .call 134 [.t 35, .t 36] true false, 0, 0, false, []⟩,
    ⟨some 38, none, .pick (.t 34) (.t 37) (.k (.bool false)), 0, 0, false, []⟩])
   (.cutTo [0, 7, 38] (.cond (.t 38) (.seq (.seg false [⟨some 39, none, .mov (.t 0), 0, 0, false, []⟩,
    ⟨some 40, none, .call 65 [.t 39, .k (.int .i64 3)] true false, 0, 0, false, []⟩])
   (.block 2 (.seq (.seg false [⟨some 48, none, .bin .eql (.t 40) (.k (.int .i64 0)), 0, 0, false, []⟩,
    ⟨some 47, none, .mov (.t 48), 0, 0, false, []⟩])
   (.cond (.t 47) (.seg false [⟨some 49, none, .mov (.t 7), 0, 0, false, []⟩,
    ⟨some 50, none, .mov (.t 0), 0, 0, false, []⟩,
    ⟨some 51, none, .call 65 [.t 50, .k (.int .i64 6)] true false, 0, 0, false, []⟩,
    ⟨some 52, none, .bin .sub (.t 51) (.k (.int .i64 1)), 0, 0, false, []⟩,
    ⟨some 53, none, .iaddr 2 (.t 49) (.k (.int .i64 0)), 0, 0, false, []⟩,
    ⟨some 54, none, .faddr 0 1 (.t 53), 0, 0, false, []⟩,
    ⟨none, none, .store 1 (.t 54) (.t 52), 0, 0, false, []⟩])
   (.seq (.seg false [⟨some 56, none, .bin .eql (.t 40) (.k (.int .i64 1)), 0, 0, false, []⟩,
    ⟨some 55, none, .mov (.t 56), 0, 0, false, []⟩])
   (.cond (.t 55) (.seg true D82x0)
   (.seg false [⟨some 41, none, .mov (.t 7), 0, 0, false, []⟩,
    ⟨some 42, none, .mov (.t 7), 0, 0, false, []⟩,
    ⟨some 43, none, .iaddr 2 (.t 42) (.k (.int .i64 0)), 0, 0, false, []⟩,
    ⟨some 44, none, .load true 2 (.t 43), 0, 0, false, []⟩,
    ⟨some 45, none, .mksl false 2 [.t 44], 0, 0, false, []⟩,
    ⟨some 46, none, .app 2 (.t 41) (.t 45), 0, 0, false, []⟩,
    ⟨some 7, none, .mov (.t 46), 0, 0, false, []⟩])))))))
   (.skip))))
   (.cutTo [7] (.seq (.seg false [⟨some 72, none, .mov (.t 7), 0, 0, false, []⟩,
    ⟨some 6, none, .mov (.t 72), 0, 0, false, []⟩])
   (.ret))))))⟩
/-- loop.example/tablehouse/impl.between -/
def F68 : F := ⟨15, [(false, 6, 0, false)],
   .seq (.seg false [⟨some 6, none, .mov (.k (.bool false)), 0, 0, false, []⟩])
   (.seq (.seg false [⟨some 7, none, .mov (.t 0), 0, 0, false, []⟩,
    ⟨some 8, none, .mov (.t 1), 0, 0, false, []⟩,
    ⟨some 9, none, .bin .geq (.t 7) (.t 8), 0, 0, false, []⟩,
    ⟨some 10, none, .mov (.t 9), 0, 0, false, []⟩,
    ⟨some 11, some (10, true), .mov (.t 0), 0, 0, false, []⟩,
    ⟨some 12, some (10, true), .mov (.t 2), 0, 0, false, []⟩,
    ⟨some 13, some (10, true), .bin .leq (.t 11) (.t 12), 0, 0, false, []⟩,
    ⟨some 14, none, .pick (.t 10) (.t 13) (.k (.bool false)), 0, 0, false, []⟩,
    ⟨some 6, none, .mov (.t 14), 0, 0, false, []⟩])
   (.cutTo [6] (.ret)))⟩
def E83x0 : List I := [⟨some 10, none, .mov (.t 0), 0, 0, false, []⟩,
    ⟨some 11, none, .mov (.t 3), 0, 0, false, []⟩,
    ⟨some 12, none, .iaddr 2 (.t 10) (.t 11), 0, 0, false, []⟩,
    ⟨some 13, none, .faddr 1 1 (.t 12), 0, 0, false, []⟩,
    ⟨some 14, none, .load false 1 (.t 13), 0, 0, false, []⟩,
    ⟨some 15, none, .len false (.t 14), 0, 0, false, []⟩,
    ⟨some 16, none, .bin .gtr (.t 15) (.k (.int .i64 6)), 0, 0, false, []⟩,
    ⟨some 17, none, .mov (.t 16), 0, 0, false, []⟩,
    ⟨some 18, some (17, false), .mov (.t 0), 0, 0, false, []⟩,
    ⟨some 19, some (17, false), .mov (.t 3), 0, 0, false, []⟩,
    ⟨some 20, some (17, false), .iaddr 2 (.t 18) (.t 19), 0, 0, false, []⟩,
    ⟨some 21, some (17, false), .faddr 0 1 (.t 20), 0, 0, false, []⟩,
    ⟨some 22, some (17, false), .load false 1 (.t 21), 0, 0, false, []⟩,
    ⟨some 23, some (17, false), .mov (.t 0), 0, 0, false, []⟩,
    ⟨some 24, some (17, false), .mov (.t 3), 0, 0, false, []⟩,
    ⟨some 25, some (17, false), .iaddr 2 (.t 23) (.t 24), 0, 0, false, []⟩,
    ⟨some 26, some (17, false), .faddr 1 1 (.t 25), 0, 0, false, []⟩,
    ⟨some 27, some (17, false), .load false 1 (.t 26), 0, 0, false, []⟩,
    ⟨some 28, some (17, false), .call 135 [.t 22, .t 27] false false, 0, 0, false, []⟩,
    ⟨some 29, some (17, false), .un .not (.t 28), 0, 0, false, []⟩,
    ⟨some 30, none, .pick (.t 17) (.k (.bool true)) (.t 29), 0, 0, false, []⟩]
def D83x0 : List I := E83x0
theorem evD83x0 (run : Run) (e : Env) (h : Heap) : drawI run D83x0 e h = DrawS (evQ run E83x0 e h) run E83x0 e h := drawI_quiet run _ (by rfl) e h
def B83x0 : C := .seq (.seq (.seg false [⟨some 4, none, .mov (.t 3), 0, 0, false, []⟩,
    ⟨some 5, none, .mov (.t 0), 0, 0, false, []⟩,
    ⟨some 6, none, .len false (.t 5), 0, 0, false, []⟩,
    ⟨some 7, none, .bin .lss (.t 4) (.t 6), 0, 0, false, []⟩])
   (.cutTo [0, 3, 7] (.cond (.t 7) (.skip)
   (.exit 0))))
   (.cutTo [0, 3] (.seq (.block 1 (.seq (.seg true D83x0)
   (.cutTo [0, 3, 30] (.cond (.t 30) (.seq (.seg false [⟨some 2, none, .mov (.k (.bool false)), 0, 0, false, []⟩])
   (.ret))
   (.skip)))))
   (.cutTo [0, 3] (.seg false [⟨some 8, none, .mov (.t 3), 0, 0, false, []⟩,
    ⟨some 9, none, .bin .add (.t 8) (.k (.int .i64 1)), 0, 0, false, []⟩,
    ⟨some 3, none, .mov (.t 9), 0, 0, false, []⟩]))))
def L83x0 : C := B83x0
theorem evL83x0 (run : Run) (draw : List I → Env → Heap → Option (Env × Heap)) (e : Env) (h : Heap) : evC run draw L83x0 e h = evC run draw B83x0 e h := rfl
/-- loop.example/tablehouse/spec.TablesOk -/
def F83 : F := ⟨34, [(false, 2, 0, false)],
   .seq (.seg false [⟨some 2, none, .mov (.k (.bool false)), 0, 0, false, []⟩])
   (.seq (.seq (.seg false [⟨some 3, none, .mov (.k (.int .i64 0)), 0, 0, false, []⟩])
   (.block 0 (.loop [0, 3] [0, 2] L83x0)))
   (.seq (.seg false [⟨some 31, none, .mov (.t 0), 0, 0, false, []⟩,
    ⟨some 32, none, .len false (.t 31), 0, 0, false, []⟩,
    ⟨some 33, none, .bin .leq (.t 32) (.k (.int .i64 3)), 0, 0, false, []⟩,
    ⟨some 2, none, .mov (.t 33), 0, 0, false, []⟩])
   (.cutTo [2] (.ret))))⟩
/-- slices.ContainsFunc<<>loop.example/tablehouse/impl.Table,loop.example/tablehouse/impl.Table> -/
def F84 : F := ⟨9, [(false, 4, 0, false)],
   .seq (.seg false [⟨some 4, none, .mov (.k (.bool false)), 0, 0, false, []⟩])
   (.seq (.seg false [⟨some 5, none, .mov (.t 0), 0, 0, false, []⟩,
    ⟨some 6, none, .mov (.t 1), 0, 0, false, []⟩,
    ⟨some 7, none, .call 136 [.t 5, .t 6] true false, 0, 0, false, []⟩,
    ⟨some 8, none, .bin .geq (.t 7) (.k (.int .i64 0)), 0, 0, false, []⟩,
    ⟨some 4, none, .mov (.t 8), 0, 0, false, []⟩])
   (.cutTo [4] (.ret)))⟩
/-- loop.example/tablehouse/impl.TablesOk$1 -/
def F85 : F := ⟨21, [(false, 2, 0, false)],
   .seq (.seg false [⟨some 1, none, .box (.t 0), 0, 0, false, []⟩,
    ⟨some 2, none, .mov (.k (.bool false)), 0, 0, false, []⟩])
   (.seq (.seg false [⟨some 3, none, .faddr 0 1 (.t 1), 0, 0, false, []⟩,
    ⟨some 4, none, .load false 1 (.t 3), 0, 0, false, []⟩,
    ⟨some 5, none, .call 71 [.t 4] false false, 0, 0, false, []⟩,
    ⟨some 6, none, .un .not (.t 5), 0, 0, false, []⟩,
    ⟨some 7, none, .mov (.t 6), 0, 0, false, []⟩,
    ⟨some 8, some (7, false), .faddr 1 1 (.t 1), 0, 0, false, []⟩,
    ⟨some 9, some (7, false), .load false 1 (.t 8), 0, 0, false, []⟩,
    ⟨some 10, some (7, false), .len false (.t 9), 0, 0, false, []⟩,
    ⟨some 11, some (7, false), .bin .gtr (.t 10) (.k (.int .i64 6)), 0, 0, false, []⟩,
    ⟨some 12, none, .pick (.t 7) (.k (.bool true)) (.t 11), 0, 0, false, []⟩,
    ⟨some 13, none, .mov (.t 12), 0, 0, false, []⟩,
    ⟨some 14, some (13, false), .faddr 0 1 (.t 1), 0, 0, false, []⟩,
    ⟨some 15, some (13, false), .load false 1 (.t 14), 0, 0, false, []⟩,
    ⟨some 16, some (13, false), .faddr 1 1 (.t 1), 0, 0, false, []⟩,
    ⟨some 17, some (13, false), .load false 1 (.t 16), 0, 0, false, []⟩,
    ⟨some 18, some (13, false), .call 51 [.t 15, .t 17] false false, 0, 0, false, []⟩,
    ⟨some 19, some (13, false), .un .not (.t 18), 0, 0, false, []⟩,
    ⟨some 20, none, .pick (.t 13) (.k (.bool true)) (.t 19), 0, 0, false, []⟩,
    ⟨some 2, none, .mov (.t 20), 0, 0, false, []⟩])
   (.cutTo [2] (.ret)))⟩
def E87x0 : List I := [⟨some 15, none, .mov (.t 5), 0, 2, false, [5]⟩,
    ⟨some 16, none, .mksl false 1 [.k (.int .i64 1), .k (.int .i64 1), .k (.int .i64 2), .k (.int .i64 3)], 0, 2, false, []⟩,
    ⟨some 17, none, .mov (.t 0), 0, 0, false, []⟩,
    ⟨some 18, none, .call 65 [.t 17, .k (.int .i64 4)] true false, 0, 0, true, []⟩,
    ⟨some 19, none, .iaddr 1 (.t 16) (.t 18), 1, 2, false, []⟩,
    ⟨some 20, none, .load false 1 (.t 19), 1, 2, false, []⟩,
    ⟨some 21, none, .mov (.t 0), 0, 1, false, []⟩,
    ⟨some 22, none, .call 65 [.t 21, .k (.int .i64 3)] true false, 1, 0, true, []⟩,
    ⟨some 23, none, .bin .gtr (.t 22) (.k (.int .i64 0)), 2, 2, false, []⟩,
    ⟨some 24, none, .build [.int .i64 0, .bool false] [(0, 1, .t 20), (1, 1, .t 23)], 2, 2, false, []⟩,
    ⟨some 25, none, .mksl false 2 [.t 24], 2, 2, false, []⟩,
    ⟨some 26, none, .app 2 (.t 15) (.t 25), 2, 0, true, []⟩,
    ⟨some 5, none, .mov (.t 26), 3, 3, false, []⟩]
def D87x0 : List I := E87x0
theorem evD87x0 (run : Run) (e : Env) (h : Heap) : drawI run D87x0 e h = DrawW (evW run E87x0 e h []) run E87x0 e h := drawI_write run _ e h
def B87x0 : C := .seq (.seq (.seg false [⟨some 11, none, .mov (.t 6), 0, 0, false, []⟩,
    ⟨some 12, none, .bin .gtr (.t 11) (.k (.int .i64 0)), 0, 0, false, []⟩])
   (.cond (.t 12) (.skip)
   (.exit 0)))
   (.seq (.block 1 (.seg true D87x0))
   (.cutTo [0, 1, 5, 6] (.seg false [⟨some 13, none, .mov (.t 6), 0, 0, false, []⟩,
    ⟨some 14, none, .bin .sub (.t 13) (.k (.int .i64 1)), 0, 0, false, []⟩,
    ⟨some 6, none, .mov (.t 14), 0, 0, false, []⟩])))
def L87x0 : C := B87x0
theorem evL87x0 (run : Run) (draw : List I → Env → Heap → Option (Env × Heap)) (e : Env) (h : Heap) : evC run draw L87x0 e h = evC run draw B87x0 e h := rfl
/-- loop.example/tablehouse/spec.l20Columns -/
def F87 : F := ⟨40, [(false, 4, 0, false)],
   .seq (.seg false [⟨some 4, none, .nilrow 2, 0, 0, false, []⟩])
   (.seq (.seg false [⟨some 7, none, .mksl true 2 [], 0, 0, false, []⟩,
    ⟨some 5, none, .mov (.t 7), 0, 0, false, []⟩])
   (.seq (.seq (.seg false [⟨some 8, none, .mov (.t 0), 0, 0, false, []⟩,
    ⟨some 9, none, .call 65 [.t 8, .k (.int .i64 3)] true false, 0, 0, false, []⟩,
    ⟨some 10, none, .bin .add (.k (.int .i64 1)) (.t 9), 0, 0, false, []⟩,
    ⟨some 6, none, .mov (.t 10), 0, 0, false, []⟩])
   (.cutTo [0, 1, 5, 6] (.block 0 (.loop [0, 1, 5, 6] [0, 1, 5] L87x0))))
   (.cutTo [0, 1, 5] (.seq (.seq (.seg false [⟨some 27, none, .mov (.t 0), 0, 0, false, []⟩,
    ⟨some 28, none, .mov (.t 1), 0, 0, false, []⟩,
    ⟨some 29, none, .call 134 [.t 27, .t 28] true false, 0, 0, false, []⟩])
   (.cond (.t 29) (.seg false [⟨some 30, none, .mov (.t 5), 0, 0, false, []⟩,
    ⟨some 31, none, .mov (.t 0), 0, 0, false, []⟩,
    ⟨some 32, none, .call 65 [.t 31, .k (.int .i64 6)] true false, 0, 0, false, []⟩,
    ⟨some 33, none, .bin .sub (.t 32) (.k (.int .i64 1)), 0, 0, false, []⟩,
    ⟨some 34, none, .build [.int .i64 0, .bool false] [(0, 1, .t 33)], 0, 0, false, []⟩,
    ⟨some 35, none, .build [.int .i64 0, .bool false] [(0, 1, .k (.int .i64 1))], 0, 0, false, []⟩,
    ⟨some 36, none, .build [.int .i64 0, .bool false] [(0, 1, .k (.int .i64 1))], 0, 0, false, []⟩,
    ⟨some 37, none, .mksl false 2 [.t 34, .t 35, .t 36], 0, 0, false, []⟩,
    ⟨some 38, none, .app 2 (.t 30) (.t 37), 0, 0, false, []⟩,
    ⟨some 5, none, .mov (.t 38), 0, 0, false, []⟩])
   (.skip)))
   (.cutTo [5] (.seq (.seg false [⟨some 39, none, .mov (.t 5), 0, 0, false, []⟩,
    ⟨some 4, none, .mov (.t 39), 0, 0, false, []⟩])
   (.ret)))))))⟩
def B86x0 : C := .seq (.seq (.seg false [⟨some 8, none, .mov (.t 4), 0, 0, false, []⟩,
    ⟨some 9, none, .mov (.t 3), 0, 0, false, []⟩,
    ⟨some 10, none, .len false (.t 9), 0, 0, false, []⟩,
    ⟨some 11, none, .bin .lss (.t 8) (.t 10), 0, 0, false, []⟩])
   (.cutTo [3, 4, 11] (.cond (.t 11) (.skip)
   (.exit 0))))
   (.cutTo [3, 4] (.seq (.block 1 (.seg false [⟨some 14, none, .mov (.t 3), 0, 0, false, []⟩,
    ⟨some 15, none, .mov (.t 4), 0, 0, false, []⟩,
    ⟨some 16, none, .iaddr 2 (.t 14) (.t 15), 0, 0, false, []⟩,
    ⟨some 17, none, .faddr 1 1 (.t 16), 0, 0, false, []⟩,
    ⟨none, none, .store 1 (.t 17) (.k (.bool true)), 0, 0, false, []⟩]))
   (.cutTo [3, 4] (.seg false [⟨some 12, none, .mov (.t 4), 0, 0, false, []⟩,
    ⟨some 13, none, .bin .add (.t 12) (.k (.int .i64 1)), 0, 0, false, []⟩,
    ⟨some 4, none, .mov (.t 13), 0, 0, false, []⟩]))))
def L86x0 : C := B86x0
theorem evL86x0 (run : Run) (draw : List I → Env → Heap → Option (Env × Heap)) (e : Env) (h : Heap) : evC run draw L86x0 e h = evC run draw B86x0 e h := rfl
/-- loop.example/tablehouse/spec.l24Empty -/
def F86 : F := ⟨19, [(false, 2, 0, false)],
   .seq (.seg false [⟨some 2, none, .nilrow 2, 0, 0, false, []⟩])
   (.seq (.seg false [⟨some 5, none, .mksl true 2 [], 0, 0, false, []⟩,
    ⟨some 6, none, .mov (.t 0), 0, 0, false, []⟩,
    ⟨some 7, none, .app 2 (.t 5) (.t 6), 0, 0, false, []⟩,
    ⟨some 3, none, .mov (.t 7), 0, 0, false, []⟩])
   (.cutTo [3] (.seq (.seq (.seg false [⟨some 4, none, .mov (.k (.int .i64 0)), 0, 0, false, []⟩])
   (.block 0 (.loop [3, 4] [3] L86x0)))
   (.seq (.seg false [⟨some 18, none, .mov (.t 3), 0, 0, false, []⟩,
    ⟨some 2, none, .mov (.t 18), 0, 0, false, []⟩])
   (.ret)))))⟩
/-- loop.example/tablehouse/spec.l20Expr -/
def F88 : F := ⟨111, [(false, 8, 0, false)],
   .seq (.seg false [⟨some 8, none, .nilrow 5, 0, 0, false, []⟩])
   (.seq (.seq (.seg false [⟨some 10, none, .mov (.t 3), 0, 0, false, []⟩,
    ⟨some 11, none, .bin .lss (.t 10) (.k (.int .i64 1)), 0, 0, false, []⟩,
    ⟨some 12, none, .mov (.t 11), 0, 0, false, []⟩,
    ⟨some 13, some (12, false), .mov (.t 0), 0, 0, false, []⟩,
    ⟨some 14, some (12, false), .call 65 [.t 13, .k (.int .i64 4)] true false, 0, 0, false, []⟩,
    ⟨some 15, some (12, false), .bin .eql (.t 14) (.k (.int .i64 0)), 0, 0, false, []⟩,
    ⟨some 16, none, .pick (.t 12) (.k (.bool true)) (.t 15), 0, 0, false, []⟩])
   (.cutTo [0, 1, 2, 3, 16] (.cond (.t 16) (.seq (.seg false [⟨some 17, none, .mov (.t 0), 0, 0, false, []⟩,
    ⟨some 18, none, .mov (.t 1), 0, 0, false, []⟩,
    ⟨some 19, none, .mov (.t 2), 0, 0, false, []⟩,
    ⟨some 20, none, .call 137 [.t 17, .t 18, .t 19] true false, 0, 0, false, []⟩,
    ⟨some 21, none, .mksl true 5 [.t 20], 0, 0, false, []⟩,
    ⟨some 8, none, .mov (.t 21), 0, 0, false, []⟩])
   (.cutTo [8] (.ret)))
   (.skip))))
   (.cutTo [0, 1, 2, 3] (.seq (.seq (.seg false [⟨some 22, none, .mov (.t 2), 0, 0, false, []⟩,
    ⟨some 23, none, .bin .eql (.t 22) (.k (.int .i64 1)), 0, 0, false, []⟩])
   (.cond (.t 23) (.seq (.seg false [⟨some 24, none, .mov (.t 0), 0, 0, false, []⟩,
    ⟨some 25, none, .mov (.t 1), 0, 0, false, []⟩,
    ⟨some 26, none, .mov (.t 2), 0, 0, false, []⟩,
    ⟨some 27, none, .mov (.t 3), 0, 0, false, []⟩,
    ⟨some 28, none, .bin .sub (.t 27) (.k (.int .i64 1)), 0, 0, false, []⟩,
    ⟨some 29, none, .call 88 [.t 24, .t 25, .t 26, .t 28] true true, 0, 0, false, []⟩,
    ⟨some 30, none, .mov (.t 0), 0, 0, false, []⟩,
    ⟨some 31, none, .mov (.t 1), 0, 0, false, []⟩,
    ⟨some 32, none, .mov (.t 2), 0, 0, false, []⟩,
    ⟨some 33, none, .call 137 [.t 30, .t 31, .t 32] true false, 0, 0, false, []⟩,
    ⟨some 34, none, .mksl false 5 [.t 33], 0, 0, false, []⟩,
    ⟨some 35, none, .app 5 (.t 29) (.t 34), 0, 0, false, []⟩,
    ⟨some 36, none, .build [.int .i64 0, .int .i64 0, .int .i64 0, .int .i64 0, .str ⟨#[]⟩] [(0, 1, .k (.int .i64 3))], 0, 0, false, []⟩,
    ⟨some 37, none, .mksl false 5 [.t 36], 0, 0, false, []⟩,
    ⟨some 38, none, .app 5 (.t 35) (.t 37), 0, 0, false, []⟩,
    ⟨some 8, none, .mov (.t 38), 0, 0, false, []⟩])
   (.cutTo [8] (.ret)))
   (.skip)))
   (.cutTo [0, 1, 2, 3] (.seq (.seq (.seg false [⟨some 39, none, .mov (.t 2), 0, 0, false, []⟩,
    ⟨some 40, none, .bin .eql (.t 39) (.k (.int .i64 2)), 0, 0, false, []⟩])
   (.cond (.t 40) (.seq (.seg false [⟨some 41, none, .mov (.t 0), 0, 0, false, []⟩,
    ⟨some 42, none, .mov (.t 1), 0, 0, false, []⟩,
    ⟨some 43, none, .mov (.t 2), 0, 0, false, []⟩,
    ⟨some 44, none, .call 137 [.t 41, .t 42, .t 43] true false, 0, 0, false, []⟩,
    ⟨some 45, none, .mksl true 5 [.t 44], 0, 0, false, []⟩,
    ⟨some 8, none, .mov (.t 45), 0, 0, false, []⟩])
   (.cutTo [8] (.ret)))
   (.skip)))
   (.cutTo [0, 1, 3] (.seq (.seq (.seg false [⟨some 46, none, .mov (.t 0), 0, 0, false, []⟩,
    ⟨some 47, none, .call 65 [.t 46, .k (.int .i64 6)] true false, 0, 0, false, []⟩])
   (.block 0 (.seq (.seg false [⟨some 49, none, .bin .eql (.t 47) (.k (.int .i64 0)), 0, 0, false, []⟩,
    ⟨some 48, none, .mov (.t 49), 0, 0, false, []⟩])
   (.cond (.t 48) (.seq (.seg false [⟨some 50, none, .mov (.t 0), 0, 0, false, []⟩,
    ⟨some 51, none, .mov (.t 1), 0, 0, false, []⟩,
    ⟨some 52, none, .mov (.t 3), 0, 0, false, []⟩,
    ⟨some 53, none, .bin .sub (.t 52) (.k (.int .i64 1)), 0, 0, false, []⟩,
    ⟨some 54, none, .call 88 [.t 50, .t 51, .k (.int .i64 3), .t 53] true true, 0, 0, false, []⟩,
    ⟨some 55, none, .mov (.t 0), 0, 0, false, []⟩,
    ⟨some 56, none, .mov (.t 1), 0, 0, false, []⟩,
    ⟨some 57, none, .mov (.t 3), 0, 0, false, []⟩,
    ⟨some 58, none, .bin .sub (.t 57) (.k (.int .i64 2)), 0, 0, false, []⟩,
    ⟨some 59, none, .call 88 [.t 55, .t 56, .k (.int .i64 3), .t 58] true false, 0, 0, false, []⟩,
    ⟨some 60, none, .app 5 (.t 54) (.t 59), 0, 0, false, []⟩,
    ⟨some 61, none, .mov (.t 0), 0, 0, false, []⟩,
    ⟨some 62, none, .call 65 [.t 61, .k (.int .i64 2)] true false, 0, 0, false, []⟩,
    ⟨some 63, none, .bin .add (.k (.int .i64 5)) (.t 62), 0, 0, false, []⟩,
    ⟨some 64, none, .build [.int .i64 0, .int .i64 0, .int .i64 0, .int .i64 0, .str ⟨#[]⟩] [(0, 1, .t 63)], 0, 0, false, []⟩,
    ⟨some 65, none, .mksl false 5 [.t 64], 0, 0, false, []⟩,
    ⟨some 66, none, .app 5 (.t 60) (.t 65), 0, 0, false, []⟩,
    ⟨some 8, none, .mov (.t 66), 0, 0, false, []⟩])
   (.cutTo [8] (.ret)))
   (.seq (.seg false [⟨some 68, none, .bin .eql (.t 47) (.k (.int .i64 1)), 0, 0, false, []⟩,
    ⟨some 67, none, .mov (.t 68), 0, 0, false, []⟩])
   (.cond (.t 67) (.seq (.seg false [⟨some 69, none, .mov (.t 0), 0, 0, false, []⟩,
    ⟨some 70, none, .mov (.t 1), 0, 0, false, []⟩,
    ⟨some 71, none, .mov (.t 3), 0, 0, false, []⟩,
    ⟨some 72, none, .bin .sub (.t 71) (.k (.int .i64 1)), 0, 0, false, []⟩,
    ⟨some 73, none, .call 88 [.t 69, .t 70, .k (.int .i64 3), .t 72] true true, 0, 0, false, []⟩,
    ⟨some 74, none, .build [.int .i64 0, .int .i64 0, .int .i64 0, .int .i64 0, .str ⟨#[]⟩] [(0, 1, .k (.int .i64 7))], 0, 0, false, []⟩,
    ⟨some 75, none, .mksl false 5 [.t 74], 0, 0, false, []⟩,
    ⟨some 76, none, .app 5 (.t 73) (.t 75), 0, 0, false, []⟩,
    ⟨some 8, none, .mov (.t 76), 0, 0, false, []⟩])
   (.cutTo [8] (.ret)))
   (.seq (.seg false [⟨some 78, none, .bin .eql (.t 47) (.k (.int .i64 2)), 0, 0, false, []⟩,
    ⟨some 77, none, .mov (.t 78), 0, 0, false, []⟩])
   (.cond (.t 77) (.seq (.seg false [⟨some 79, none, .mov (.t 0), 0, 0, false, []⟩,
    ⟨some 80, none, .mov (.t 1), 0, 0, false, []⟩,
    ⟨some 81, none, .mov (.t 0), 0, 0, false, []⟩,
    ⟨some 82, none, .call 65 [.t 81, .k (.int .i64 3)] true false, 0, 0, false, []⟩,
    ⟨some 83, none, .bin .add (.k (.int .i64 1)) (.t 82), 0, 0, false, []⟩,
    ⟨some 84, none, .mov (.t 3), 0, 0, false, []⟩,
    ⟨some 85, none, .bin .sub (.t 84) (.k (.int .i64 1)), 0, 0, false, []⟩,
    ⟨some 86, none, .call 88 [.t 79, .t 80, .t 83, .t 85] true true, 0, 0, false, []⟩,
    ⟨some 87, none, .build [.int .i64 0, .int .i64 0, .int .i64 0, .int .i64 0, .str ⟨#[]⟩] [(0, 1, .k (.int .i64 8))], 0, 0, false, []⟩,
    ⟨some 88, none, .mksl false 5 [.t 87], 0, 0, false, []⟩,
    ⟨some 89, none, .app 5 (.t 86) (.t 88), 0, 0, false, []⟩,
    ⟨some 8, none, .mov (.t 89), 0, 0, false, []⟩])
   (.cutTo [8] (.ret)))
   (.skip)))))))))
   (.cutTo [0, 1, 3] (.seq (.seg false [⟨some 90, none, .mov (.t 0), 0, 0, false, []⟩,
    ⟨some 91, none, .call 65 [.t 90, .k (.int .i64 3)] true false, 0, 0, false, []⟩,
    ⟨some 92, none, .bin .add (.k (.int .i64 1)) (.t 91), 0, 0, false, []⟩,
    ⟨some 9, none, .mov (.t 92), 0, 0, false, []⟩])
   (.cutTo [0, 1, 3, 9] (.seq (.seg false [⟨some 93, none, .mov (.t 0), 0, 0, false, []⟩,
    ⟨some 94, none, .mov (.t 1), 0, 0, false, []⟩,
    ⟨some 95, none, .mov (.t 9), 0, 0, false, []⟩,
    ⟨some 96, none, .mov (.t 3), 0, 0, false, []⟩,
    ⟨some 97, none, .bin .sub (.t 96) (.k (.int .i64 1)), 0, 0, false, []⟩,
    ⟨some 98, none, .call 88 [.t 93, .t 94, .t 95, .t 97] true true, 0, 0, false, []⟩,
    ⟨some 99, none, .mov (.t 0), 0, 0, false, []⟩,
    ⟨some 100, none, .mov (.t 1), 0, 0, false, []⟩,
    ⟨some 101, none, .mov (.t 9), 0, 0, false, []⟩,
    ⟨some 102, none, .call 137 [.t 99, .t 100, .t 101] true false, 0, 0, false, []⟩,
    ⟨some 103, none, .mksl false 5 [.t 102], 0, 0, false, []⟩,
    ⟨some 104, none, .app 5 (.t 98) (.t 103), 0, 0, false, []⟩,
    ⟨some 105, none, .mov (.t 0), 0, 0, false, []⟩,
    ⟨some 106, none, .call 65 [.t 105, .k (.int .i64 4)] true false, 0, 0, false, []⟩,
    ⟨some 107, none, .bin .add (.k (.int .i64 1)) (.t 106), 0, 0, false, []⟩,
    ⟨some 108, none, .build [.int .i64 0, .int .i64 0, .int .i64 0, .int .i64 0, .str ⟨#[]⟩] [(0, 1, .k (.int .i64 4)), (1, 1, .t 107)], 0, 0, false, []⟩,
    ⟨some 109, none, .mksl false 5 [.t 108], 0, 0, false, []⟩,
    ⟨some 110, none, .app 5 (.t 104) (.t 109), 0, 0, false, []⟩,
    ⟨some 8, none, .mov (.t 110), 0, 0, false, []⟩])
   (.cutTo [8] (.ret)))))))))))))⟩
/-- (loop.example/tablehouse/impl.Part).takes -/
def F89 : F := ⟨13, [(false, 2, 0, false)],
   .seq (.seg false [⟨some 1, none, .box (.t 0), 0, 0, false, []⟩,
    ⟨some 2, none, .mov (.k (.int .i64 0)), 0, 0, false, []⟩])
   (.seq (.seq (.seg false [⟨some 3, none, .faddr 0 1 (.t 1), 0, 0, false, []⟩,
    ⟨some 4, none, .load false 1 (.t 3), 0, 0, false, []⟩])
   (.block 0 (.seq (.seq (.seg false [⟨some 6, none, .bin .eql (.t 4) (.k (.int .i64 3)), 0, 0, false, []⟩,
    ⟨some 5, none, .mov (.t 6), 0, 0, false, []⟩])
   (.cond (.t 5) (.skip)
   (.seq (.seg false [⟨some 7, none, .bin .eql (.t 4) (.k (.int .i64 4)), 0, 0, false, []⟩,
    ⟨some 5, none, .mov (.t 7), 0, 0, false, []⟩])
   (.cond (.t 5) (.skip)
   (.seq (.seg false [⟨some 8, none, .bin .eql (.t 4) (.k (.int .i64 5)), 0, 0, false, []⟩,
    ⟨some 5, none, .mov (.t 8), 0, 0, false, []⟩])
   (.cond (.t 5) (.skip)
   (.seg false [⟨some 9, none, .bin .eql (.t 4) (.k (.int .i64 6)), 0, 0, false, []⟩,
    ⟨some 5, none, .mov (.t 9), 0, 0, false, []⟩])))))))
   (.cutTo [4, 5] (.cond (.t 5) (.seq (.seg false [⟨some 2, none, .mov (.k (.int .i64 2)), 0, 0, false, []⟩])
   (.ret))
   (.seq (.seq (.seg false [⟨some 11, none, .bin .eql (.t 4) (.k (.int .i64 7)), 0, 0, false, []⟩,
    ⟨some 10, none, .mov (.t 11), 0, 0, false, []⟩])
   (.cond (.t 10) (.skip)
   (.seg false [⟨some 12, none, .bin .eql (.t 4) (.k (.int .i64 8)), 0, 0, false, []⟩,
    ⟨some 10, none, .mov (.t 12), 0, 0, false, []⟩])))
   (.cutTo [10] (.cond (.t 10) (.seq (.seg false [⟨some 2, none, .mov (.k (.int .i64 1)), 0, 0, false, []⟩])
   (.ret))
   (.skip)))))))))
   (.cutTo [] (.seq (.seg false [⟨some 2, none, .mov (.k (.int .i64 0)), 0, 0, false, []⟩])
   (.ret))))⟩
def E90x0 : List I := [⟨some 14, none, .faddr 2 3 (.t 3), 0, 0, false, []⟩,
    ⟨some 15, none, .load true 3 (.t 14), 0, 0, false, []⟩,
    ⟨some 16, none, .call 138 [.k (.int .i64 0)] false false, 0, 0, false, []⟩,
    ⟨some 17, none, .eqs false [.int, .int, .str] (.t 15) (.t 16), 0, 0, false, []⟩,
    ⟨some 18, none, .faddr 2 3 (.t 3), 0, 0, false, []⟩,
    ⟨some 19, none, .load true 3 (.t 18), 0, 0, false, []⟩,
    ⟨some 20, none, .call 138 [.k (.int .i64 1)] false false, 0, 0, false, []⟩,
    ⟨some 21, none, .eqs false [.int, .int, .str] (.t 19) (.t 20), 0, 0, false, []⟩,
    ⟨some 22, none, .build [.bool false, .bool false, .bool false] [(0, 1, .k (.bool false)), (1, 1, .t 17), (2, 1, .t 21)], 0, 0, false, []⟩,
    ⟨none, none, .store 3 (.t 6) (.t 22), 0, 0, true, []⟩]
def D90x0 : List I := E90x0
theorem evD90x0 (run : Run) (e : Env) (h : Heap) : drawI run D90x0 e h = DrawW (evW run E90x0 e h []) run E90x0 e h := drawI_write run _ e h
def E90x1 : List I := [⟨some 57, none, .mov (.t 1), 0, 1, false, []⟩,
    ⟨some 58, none, .iaddr 3 (.t 57) (.k (.int .i64 0)), 0, 1, false, []⟩,
    ⟨some 59, none, .faddr 1 1 (.t 58), 0, 1, false, []⟩,
    ⟨some 60, none, .load false 1 (.t 59), 0, 1, false, []⟩,
    ⟨some 61, none, .mov (.t 60), 0, 1, false, []⟩,
    ⟨some 62, some (61, false), .mov (.t 1), 0, 1, false, []⟩,
    ⟨some 63, some (61, false), .iaddr 3 (.t 62) (.k (.int .i64 1)), 0, 1, false, []⟩,
    ⟨some 64, some (61, false), .faddr 1 1 (.t 63), 0, 1, false, []⟩,
    ⟨some 65, some (61, false), .load false 1 (.t 64), 0, 1, false, []⟩,
    ⟨some 66, none, .pick (.t 61) (.k (.bool true)) (.t 65), 0, 1, false, []⟩,
    ⟨some 67, none, .mov (.t 1), 0, 1, false, []⟩,
    ⟨some 68, none, .iaddr 3 (.t 67) (.k (.int .i64 0)), 0, 1, false, []⟩,
    ⟨some 69, none, .faddr 2 1 (.t 68), 0, 1, false, []⟩,
    ⟨some 70, none, .load false 1 (.t 69), 0, 1, false, []⟩,
    ⟨some 71, none, .mov (.t 70), 0, 1, false, []⟩,
    ⟨some 72, some (71, true), .mov (.t 1), 0, 1, false, []⟩,
    ⟨some 73, some (71, true), .iaddr 3 (.t 72) (.k (.int .i64 1)), 0, 1, false, []⟩,
    ⟨some 74, some (71, true), .faddr 2 1 (.t 73), 0, 1, false, []⟩,
    ⟨some 75, some (71, true), .load false 1 (.t 74), 0, 1, false, []⟩,
    ⟨some 76, none, .pick (.t 71) (.t 75) (.k (.bool false)), 0, 1, false, []⟩,
    ⟨some 77, none, .build [.bool false, .bool false, .bool false] [(0, 1, .k (.bool false)), (1, 1, .t 66), (2, 1, .t 76)], 0, 1, false, []⟩,
    ⟨some 8, none, .alloc [.bool false, .bool false, .bool false], 0, 0, true, []⟩,
    ⟨none, none, .store 3 (.t 8) (.t 77), 1, 0, true, []⟩]
def D90x1 : List I := E90x1
theorem evD90x1 (run : Run) (e : Env) (h : Heap) : drawI run D90x1 e h = DrawW (evW run E90x1 e h []) run E90x1 e h := drawI_write run _ e h
def E90x2 : List I := [⟨some 88, none, .mov (.t 1), 0, 1, false, []⟩,
    ⟨some 89, none, .iaddr 3 (.t 88) (.k (.int .i64 0)), 0, 1, false, []⟩,
    ⟨some 90, none, .faddr 1 1 (.t 89), 0, 1, false, []⟩,
    ⟨some 91, none, .load false 1 (.t 90), 0, 1, false, []⟩,
    ⟨some 92, none, .mov (.t 91), 0, 1, false, []⟩,
    ⟨some 93, some (92, true), .mov (.t 1), 0, 1, false, []⟩,
    ⟨some 94, some (92, true), .iaddr 3 (.t 93) (.k (.int .i64 1)), 0, 1, false, []⟩,
    ⟨some 95, some (92, true), .faddr 1 1 (.t 94), 0, 1, false, []⟩,
    ⟨some 96, some (92, true), .load false 1 (.t 95), 0, 1, false, []⟩,
    ⟨some 97, none, .pick (.t 92) (.t 96) (.k (.bool false)), 0, 1, false, []⟩,
    ⟨some 98, none, .mov (.t 1), 0, 1, false, []⟩,
    ⟨some 99, none, .iaddr 3 (.t 98) (.k (.int .i64 0)), 0, 1, false, []⟩,
    ⟨some 100, none, .faddr 2 1 (.t 99), 0, 1, false, []⟩,
    ⟨some 101, none, .load false 1 (.t 100), 0, 1, false, []⟩,
    ⟨some 102, none, .mov (.t 101), 0, 1, false, []⟩,
    ⟨some 103, some (102, false), .mov (.t 1), 0, 1, false, []⟩,
    ⟨some 104, some (102, false), .iaddr 3 (.t 103) (.k (.int .i64 1)), 0, 1, false, []⟩,
    ⟨some 105, some (102, false), .faddr 2 1 (.t 104), 0, 1, false, []⟩,
    ⟨some 106, some (102, false), .load false 1 (.t 105), 0, 1, false, []⟩,
    ⟨some 107, none, .pick (.t 102) (.k (.bool true)) (.t 106), 0, 1, false, []⟩,
    ⟨some 108, none, .build [.bool false, .bool false, .bool false] [(0, 1, .k (.bool false)), (1, 1, .t 97), (2, 1, .t 107)], 0, 1, false, []⟩,
    ⟨some 9, none, .alloc [.bool false, .bool false, .bool false], 0, 0, true, []⟩,
    ⟨none, none, .store 3 (.t 9) (.t 108), 1, 0, true, []⟩]
def D90x2 : List I := E90x2
theorem evD90x2 (run : Run) (e : Env) (h : Heap) : drawI run D90x2 e h = DrawW (evW run E90x2 e h []) run E90x2 e h := drawI_write run _ e h
def E90x3 : List I := [⟨some 119, none, .mov (.t 1), 0, 0, false, []⟩,
    ⟨some 120, none, .iaddr 3 (.t 119) (.k (.int .i64 0)), 0, 0, false, []⟩,
    ⟨some 121, none, .faddr 0 1 (.t 120), 0, 0, false, []⟩,
    ⟨some 122, none, .load false 1 (.t 121), 0, 0, false, []⟩,
    ⟨some 123, none, .mov (.t 1), 0, 0, false, []⟩,
    ⟨some 124, none, .iaddr 3 (.t 123) (.k (.int .i64 0)), 0, 0, false, []⟩,
    ⟨some 125, none, .faddr 2 1 (.t 124), 0, 0, false, []⟩,
    ⟨some 126, none, .load false 1 (.t 125), 0, 0, false, []⟩,
    ⟨some 127, none, .mov (.t 1), 0, 0, false, []⟩,
    ⟨some 128, none, .iaddr 3 (.t 127) (.k (.int .i64 0)), 0, 0, false, []⟩,
    ⟨some 129, none, .faddr 1 1 (.t 128), 0, 0, false, []⟩,
    ⟨some 130, none, .load false 1 (.t 129), 0, 0, false, []⟩,
    ⟨some 131, none, .build [.bool false, .bool false, .bool false] [(0, 1, .t 122), (1, 1, .t 126), (2, 1, .t 130)], 0, 0, false, []⟩,
    ⟨none, none, .store 3 (.t 6) (.t 131), 0, 0, true, []⟩]
def D90x3 : List I := E90x3
theorem evD90x3 (run : Run) (e : Env) (h : Heap) : drawI run D90x3 e h = DrawW (evW run E90x3 e h []) run E90x3 e h := drawI_write run _ e h
/-- (loop.example/tablehouse/impl.Part).find -/
def F90 : F := ⟨137, [(true, 6, 3, true)],
   .seq (.seg false [⟨some 3, none, .box (.t 0), 0, 0, false, []⟩,
    ⟨some 6, none, .alloc [.bool false, .bool false, .bool false], 0, 0, false, []⟩])
   (.seq (.seq (.seg false [⟨some 10, none, .faddr 0 1 (.t 3), 0, 0, false, []⟩,
    ⟨some 11, none, .load false 1 (.t 10), 0, 0, false, []⟩])
   (.block 0 (.seq (.seg false [⟨some 13, none, .bin .eql (.t 11) (.k (.int .i64 1)), 0, 0, false, []⟩,
    ⟨some 12, none, .mov (.t 13), 0, 0, false, []⟩])
   (.cond (.t 12) (.seq (.seg true D90x0)
   (.cutTo [6] (.ret)))
   (.seq (.seg false [⟨some 24, none, .bin .eql (.t 11) (.k (.int .i64 2)), 0, 0, false, []⟩,
    ⟨some 23, none, .mov (.t 24), 0, 0, false, []⟩])
   (.cond (.t 23) (.seq (.seg false [⟨some 25, none, .faddr 1 1 (.t 3), 0, 0, false, []⟩,
    ⟨some 26, none, .load false 1 (.t 25), 0, 0, false, []⟩,
    ⟨some 27, none, .mov (.t 2), 0, 0, false, []⟩,
    ⟨some 28, none, .bin .geq (.t 26) (.t 27), 0, 0, false, []⟩,
    ⟨some 29, none, .faddr 1 1 (.t 3), 0, 0, false, []⟩,
    ⟨some 30, none, .load false 1 (.t 29), 0, 0, false, []⟩,
    ⟨some 31, none, .mov (.t 2), 0, 0, false, []⟩,
    ⟨some 32, none, .bin .geq (.t 30) (.t 31), 0, 0, false, []⟩,
    ⟨some 33, none, .faddr 1 1 (.t 3), 0, 0, false, []⟩,
    ⟨some 34, none, .load false 1 (.t 33), 0, 0, false, []⟩,
    ⟨some 35, none, .mov (.t 2), 0, 0, false, []⟩,
    ⟨some 36, none, .bin .geq (.t 34) (.t 35), 0, 0, false, []⟩,
    ⟨some 37, none, .build [.bool false, .bool false, .bool false] [(0, 1, .t 28), (1, 1, .t 32), (2, 1, .t 36)], 0, 0, false, []⟩,
    ⟨none, none, .store 3 (.t 6) (.t 37), 0, 0, false, []⟩])
   (.cutTo [6] (.ret)))
   (.seq (.seq (.seg false [⟨some 39, none, .bin .eql (.t 11) (.k (.int .i64 3)), 0, 0, false, []⟩,
    ⟨some 38, none, .mov (.t 39), 0, 0, false, []⟩])
   (.cond (.t 38) (.skip)
   (.seg false [⟨some 40, none, .bin .eql (.t 11) (.k (.int .i64 4)), 0, 0, false, []⟩,
    ⟨some 38, none, .mov (.t 40), 0, 0, false, []⟩])))
   (.cutTo [1, 6, 11, 38] (.cond (.t 38) (.seq (.seg false [⟨some 41, none, .mov (.t 1), 0, 0, false, []⟩,
    ⟨some 42, none, .iaddr 3 (.t 41) (.k (.int .i64 0)), 0, 0, false, []⟩,
    ⟨some 43, none, .faddr 0 1 (.t 42), 0, 0, false, []⟩,
    ⟨some 44, none, .load false 1 (.t 43), 0, 0, false, []⟩,
    ⟨some 45, none, .mov (.t 44), 0, 0, false, []⟩,
    ⟨some 46, some (45, false), .mov (.t 1), 0, 0, false, []⟩,
    ⟨some 47, some (45, false), .iaddr 3 (.t 46) (.k (.int .i64 1)), 0, 0, false, []⟩,
    ⟨some 48, some (45, false), .faddr 0 1 (.t 47), 0, 0, false, []⟩,
    ⟨some 49, some (45, false), .load false 1 (.t 48), 0, 0, false, []⟩,
    ⟨some 50, none, .pick (.t 45) (.k (.bool true)) (.t 49), 0, 0, false, []⟩,
    ⟨some 7, none, .mov (.t 50), 0, 0, false, []⟩])
   (.cutTo [6, 7] (.seq (.seg false [⟨some 51, none, .mov (.t 7), 0, 0, false, []⟩,
    ⟨some 52, none, .mov (.t 7), 0, 0, false, []⟩,
    ⟨some 53, none, .mov (.t 7), 0, 0, false, []⟩,
    ⟨some 54, none, .build [.bool false, .bool false, .bool false] [(0, 1, .t 51), (1, 1, .t 52), (2, 1, .t 53)], 0, 0, false, []⟩,
    ⟨none, none, .store 3 (.t 6) (.t 54), 0, 0, false, []⟩])
   (.cutTo [6] (.ret)))))
   (.seq (.seg false [⟨some 56, none, .bin .eql (.t 11) (.k (.int .i64 5)), 0, 0, false, []⟩,
    ⟨some 55, none, .mov (.t 56), 0, 0, false, []⟩])
   (.cond (.t 55) (.seq (.seg true D90x1)
   (.cutTo [6, 8] (.seq (.seg false [⟨some 78, none, .faddr 1 1 (.t 8), 0, 0, false, []⟩,
    ⟨some 79, none, .load false 1 (.t 78), 0, 0, false, []⟩,
    ⟨some 80, none, .mov (.t 79), 0, 0, false, []⟩,
    ⟨some 81, some (80, true), .faddr 2 1 (.t 8), 0, 0, false, []⟩,
    ⟨some 82, some (80, true), .load false 1 (.t 81), 0, 0, false, []⟩,
    ⟨some 83, none, .pick (.t 80) (.t 82) (.k (.bool false)), 0, 0, false, []⟩,
    ⟨some 84, none, .faddr 0 1 (.t 8), 0, 0, false, []⟩,
    ⟨none, none, .store 1 (.t 84) (.t 83), 0, 0, false, []⟩])
   (.cutTo [6, 8] (.seq (.seg false [⟨some 85, none, .load true 3 (.t 8), 0, 0, false, []⟩,
    ⟨none, none, .store 3 (.t 6) (.t 85), 0, 0, false, []⟩])
   (.ret))))))
   (.seq (.seg false [⟨some 87, none, .bin .eql (.t 11) (.k (.int .i64 6)), 0, 0, false, []⟩,
    ⟨some 86, none, .mov (.t 87), 0, 0, false, []⟩])
   (.cond (.t 86) (.seq (.seg true D90x2)
   (.cutTo [6, 9] (.seq (.seg false [⟨some 109, none, .faddr 1 1 (.t 9), 0, 0, false, []⟩,
    ⟨some 110, none, .load false 1 (.t 109), 0, 0, false, []⟩,
    ⟨some 111, none, .mov (.t 110), 0, 0, false, []⟩,
    ⟨some 112, some (111, true), .faddr 2 1 (.t 9), 0, 0, false, []⟩,
    ⟨some 113, some (111, true), .load false 1 (.t 112), 0, 0, false, []⟩,
    ⟨some 114, none, .pick (.t 111) (.t 113) (.k (.bool false)), 0, 0, false, []⟩,
    ⟨some 115, none, .faddr 0 1 (.t 9), 0, 0, false, []⟩,
    ⟨none, none, .store 1 (.t 115) (.t 114), 0, 0, false, []⟩])
   (.cutTo [6, 9] (.seq (.seg false [⟨some 116, none, .load true 3 (.t 9), 0, 0, false, []⟩,
    ⟨none, none, .store 3 (.t 6) (.t 116), 0, 0, false, []⟩])
   (.ret))))))
   (.seq (.seg false [⟨some 118, none, .bin .eql (.t 11) (.k (.int .i64 7)), 0, 0, false, []⟩,
    ⟨some 117, none, .mov (.t 118), 0, 0, false, []⟩])
   (.cond (.t 117) (.seq (.seg true D90x3)
   (.cutTo [6] (.ret)))
   (.skip))))))))))))))))
   (.cutTo [1, 6] (.seq (.seg false [⟨some 132, none, .mov (.t 1), 0, 0, false, []⟩,
    ⟨some 133, none, .iaddr 3 (.t 132) (.k (.int .i64 0)), 0, 0, false, []⟩,
    ⟨some 134, none, .faddr 0 1 (.t 133), 0, 0, false, []⟩,
    ⟨some 135, none, .load false 1 (.t 134), 0, 0, false, []⟩,
    ⟨some 136, none, .build [.bool false, .bool false, .bool false] [(2, 1, .t 135)], 0, 0, false, []⟩,
    ⟨none, none, .store 3 (.t 6) (.t 136), 0, 0, false, []⟩])
   (.cutTo [6] (.ret)))))⟩
def E91x0 : List I := [⟨some 73, none, .mov (.t 0), 0, 0, false, []⟩,
    ⟨some 74, none, .mov (.t 7), 0, 0, false, []⟩,
    ⟨some 75, none, .bin .sub (.t 74) (.k (.int .i64 2)), 0, 0, false, []⟩,
    ⟨some 76, none, .slc false 3 (.t 73) none (some (.t 75)) none, 0, 0, false, []⟩,
    ⟨some 77, none, .load true 3 (.t 8), 0, 0, false, []⟩,
    ⟨some 78, none, .mksl false 3 [.t 77], 0, 0, false, []⟩,
    ⟨some 79, none, .app 3 (.t 76) (.t 78), 0, 0, true, []⟩,
    ⟨some 6, none, .mov (.t 79), 1, 1, false, []⟩]
def D91x0 : List I := E91x0
theorem evD91x0 (run : Run) (e : Env) (h : Heap) : drawI run D91x0 e h = DrawW (evW run E91x0 e h []) run E91x0 e h := drawI_write run _ e h
def E91x1 : List I := [⟨some 89, none, .mov (.t 0), 0, 1, false, []⟩,
    ⟨some 90, none, .mov (.t 7), 0, 1, false, []⟩,
    ⟨some 91, none, .bin .sub (.t 90) (.k (.int .i64 2)), 0, 1, false, []⟩,
    ⟨some 92, none, .iaddr 3 (.t 89) (.t 91), 0, 1, false, []⟩,
    ⟨some 93, none, .faddr 1 1 (.t 92), 0, 1, false, []⟩,
    ⟨some 94, none, .load false 1 (.t 93), 0, 1, false, []⟩,
    ⟨some 95, none, .mov (.t 94), 0, 1, false, []⟩,
    ⟨some 96, some (95, false), .mov (.t 0), 0, 1, false, []⟩,
    ⟨some 97, some (95, false), .mov (.t 7), 0, 1, false, []⟩,
    ⟨some 98, some (95, false), .bin .sub (.t 97) (.k (.int .i64 1)), 0, 1, false, []⟩,
    ⟨some 99, some (95, false), .iaddr 3 (.t 96) (.t 98), 0, 1, false, []⟩,
    ⟨some 100, some (95, false), .faddr 1 1 (.t 99), 0, 1, false, []⟩,
    ⟨some 101, some (95, false), .load false 1 (.t 100), 0, 1, false, []⟩,
    ⟨some 102, none, .pick (.t 95) (.k (.bool true)) (.t 101), 0, 1, false, []⟩,
    ⟨some 103, none, .mov (.t 0), 0, 1, false, []⟩,
    ⟨some 104, none, .mov (.t 7), 0, 1, false, []⟩,
    ⟨some 105, none, .bin .sub (.t 104) (.k (.int .i64 2)), 0, 1, false, []⟩,
    ⟨some 106, none, .iaddr 3 (.t 103) (.t 105), 0, 1, false, []⟩,
    ⟨some 107, none, .faddr 2 1 (.t 106), 0, 1, false, []⟩,
    ⟨some 108, none, .load false 1 (.t 107), 0, 1, false, []⟩,
    ⟨some 109, none, .mov (.t 108), 0, 1, false, []⟩,
    ⟨some 110, some (109, true), .mov (.t 0), 0, 1, false, []⟩,
    ⟨some 111, some (109, true), .mov (.t 7), 0, 1, false, []⟩,
    ⟨some 112, some (109, true), .bin .sub (.t 111) (.k (.int .i64 1)), 0, 1, false, []⟩,
    ⟨some 113, some (109, true), .iaddr 3 (.t 110) (.t 112), 0, 1, false, []⟩,
    ⟨some 114, some (109, true), .faddr 2 1 (.t 113), 0, 1, false, []⟩,
    ⟨some 115, some (109, true), .load false 1 (.t 114), 0, 1, false, []⟩,
    ⟨some 116, none, .pick (.t 109) (.t 115) (.k (.bool false)), 0, 1, false, []⟩,
    ⟨some 117, none, .build [.bool false, .bool false, .bool false] [(1, 1, .t 102), (2, 1, .t 116)], 0, 1, false, []⟩,
    ⟨some 9, none, .alloc [.bool false, .bool false, .bool false], 0, 0, true, []⟩,
    ⟨none, none, .store 3 (.t 9) (.t 117), 1, 0, true, []⟩]
def D91x1 : List I := E91x1
theorem evD91x1 (run : Run) (e : Env) (h : Heap) : drawI run D91x1 e h = DrawW (evW run E91x1 e h []) run E91x1 e h := drawI_write run _ e h
def E91x2 : List I := [⟨some 125, none, .mov (.t 0), 0, 0, false, []⟩,
    ⟨some 126, none, .mov (.t 7), 0, 0, false, []⟩,
    ⟨some 127, none, .bin .sub (.t 126) (.k (.int .i64 2)), 0, 0, false, []⟩,
    ⟨some 128, none, .slc false 3 (.t 125) none (some (.t 127)) none, 0, 0, false, []⟩,
    ⟨some 129, none, .load true 3 (.t 9), 0, 0, false, []⟩,
    ⟨some 130, none, .mksl false 3 [.t 129], 0, 0, false, []⟩,
    ⟨some 131, none, .app 3 (.t 128) (.t 130), 0, 0, true, []⟩,
    ⟨some 6, none, .mov (.t 131), 1, 1, false, []⟩]
def D91x2 : List I := E91x2
theorem evD91x2 (run : Run) (e : Env) (h : Heap) : drawI run D91x2 e h = DrawW (evW run E91x2 e h []) run E91x2 e h := drawI_write run _ e h
def E91x3 : List I := [⟨some 134, none, .mov (.t 0), 0, 1, false, []⟩,
    ⟨some 135, none, .mov (.t 7), 0, 1, false, []⟩,
    ⟨some 136, none, .bin .sub (.t 135) (.k (.int .i64 2)), 0, 1, false, []⟩,
    ⟨some 137, none, .iaddr 3 (.t 134) (.t 136), 0, 1, false, []⟩,
    ⟨some 138, none, .faddr 1 1 (.t 137), 0, 1, false, []⟩,
    ⟨some 139, none, .load false 1 (.t 138), 0, 1, false, []⟩,
    ⟨some 140, none, .mov (.t 139), 0, 1, false, []⟩,
    ⟨some 141, some (140, true), .mov (.t 0), 0, 1, false, []⟩,
    ⟨some 142, some (140, true), .mov (.t 7), 0, 1, false, []⟩,
    ⟨some 143, some (140, true), .bin .sub (.t 142) (.k (.int .i64 1)), 0, 1, false, []⟩,
    ⟨some 144, some (140, true), .iaddr 3 (.t 141) (.t 143), 0, 1, false, []⟩,
    ⟨some 145, some (140, true), .faddr 1 1 (.t 144), 0, 1, false, []⟩,
    ⟨some 146, some (140, true), .load false 1 (.t 145), 0, 1, false, []⟩,
    ⟨some 147, none, .pick (.t 140) (.t 146) (.k (.bool false)), 0, 1, false, []⟩,
    ⟨some 148, none, .mov (.t 0), 0, 1, false, []⟩,
    ⟨some 149, none, .mov (.t 7), 0, 1, false, []⟩,
    ⟨some 150, none, .bin .sub (.t 149) (.k (.int .i64 2)), 0, 1, false, []⟩,
    ⟨some 151, none, .iaddr 3 (.t 148) (.t 150), 0, 1, false, []⟩,
    ⟨some 152, none, .faddr 2 1 (.t 151), 0, 1, false, []⟩,
    ⟨some 153, none, .load false 1 (.t 152), 0, 1, false, []⟩,
    ⟨some 154, none, .mov (.t 153), 0, 1, false, []⟩,
    ⟨some 155, some (154, false), .mov (.t 0), 0, 1, false, []⟩,
    ⟨some 156, some (154, false), .mov (.t 7), 0, 1, false, []⟩,
    ⟨some 157, some (154, false), .bin .sub (.t 156) (.k (.int .i64 1)), 0, 1, false, []⟩,
    ⟨some 158, some (154, false), .iaddr 3 (.t 155) (.t 157), 0, 1, false, []⟩,
    ⟨some 159, some (154, false), .faddr 2 1 (.t 158), 0, 1, false, []⟩,
    ⟨some 160, some (154, false), .load false 1 (.t 159), 0, 1, false, []⟩,
    ⟨some 161, none, .pick (.t 154) (.k (.bool true)) (.t 160), 0, 1, false, []⟩,
    ⟨some 162, none, .build [.bool false, .bool false, .bool false] [(1, 1, .t 147), (2, 1, .t 161)], 0, 1, false, []⟩,
    ⟨some 10, none, .alloc [.bool false, .bool false, .bool false], 0, 0, true, []⟩,
    ⟨none, none, .store 3 (.t 10) (.t 162), 1, 0, true, []⟩]
def D91x3 : List I := E91x3
theorem evD91x3 (run : Run) (e : Env) (h : Heap) : drawI run D91x3 e h = DrawW (evW run E91x3 e h []) run E91x3 e h := drawI_write run _ e h
def E91x4 : List I := [⟨some 170, none, .mov (.t 0), 0, 0, false, []⟩,
    ⟨some 171, none, .mov (.t 7), 0, 0, false, []⟩,
    ⟨some 172, none, .bin .sub (.t 171) (.k (.int .i64 2)), 0, 0, false, []⟩,
    ⟨some 173, none, .slc false 3 (.t 170) none (some (.t 172)) none, 0, 0, false, []⟩,
    ⟨some 174, none, .load true 3 (.t 10), 0, 0, false, []⟩,
    ⟨some 175, none, .mksl false 3 [.t 174], 0, 0, false, []⟩,
    ⟨some 176, none, .app 3 (.t 173) (.t 175), 0, 0, true, []⟩,
    ⟨some 6, none, .mov (.t 176), 1, 1, false, []⟩]
def D91x4 : List I := E91x4
theorem evD91x4 (run : Run) (e : Env) (h : Heap) : drawI run D91x4 e h = DrawW (evW run E91x4 e h []) run E91x4 e h := drawI_write run _ e h
def E91x5 : List I := [⟨some 179, none, .mov (.t 0), 0, 0, false, []⟩,
    ⟨some 180, none, .mov (.t 7), 0, 0, false, []⟩,
    ⟨some 181, none, .bin .sub (.t 180) (.k (.int .i64 1)), 0, 0, false, []⟩,
    ⟨some 182, none, .slc false 3 (.t 179) none (some (.t 181)) none, 0, 0, false, []⟩,
    ⟨some 183, none, .mov (.t 0), 0, 0, false, []⟩,
    ⟨some 184, none, .mov (.t 7), 0, 0, false, []⟩,
    ⟨some 185, none, .bin .sub (.t 184) (.k (.int .i64 1)), 0, 0, false, []⟩,
    ⟨some 186, none, .iaddr 3 (.t 183) (.t 185), 0, 0, false, []⟩,
    ⟨some 187, none, .faddr 0 1 (.t 186), 0, 0, false, []⟩,
    ⟨some 188, none, .load false 1 (.t 187), 0, 0, false, []⟩,
    ⟨some 189, none, .mov (.t 0), 0, 0, false, []⟩,
    ⟨some 190, none, .mov (.t 7), 0, 0, false, []⟩,
    ⟨some 191, none, .bin .sub (.t 190) (.k (.int .i64 1)), 0, 0, false, []⟩,
    ⟨some 192, none, .iaddr 3 (.t 189) (.t 191), 0, 0, false, []⟩,
    ⟨some 193, none, .faddr 2 1 (.t 192), 0, 0, false, []⟩,
    ⟨some 194, none, .load false 1 (.t 193), 0, 0, false, []⟩,
    ⟨some 195, none, .mov (.t 0), 0, 0, false, []⟩,
    ⟨some 196, none, .mov (.t 7), 0, 0, false, []⟩,
    ⟨some 197, none, .bin .sub (.t 196) (.k (.int .i64 1)), 0, 0, false, []⟩,
    ⟨some 198, none, .iaddr 3 (.t 195) (.t 197), 0, 0, false, []⟩,
    ⟨some 199, none, .faddr 1 1 (.t 198), 0, 0, false, []⟩,
    ⟨some 200, none, .load false 1 (.t 199), 0, 0, false, []⟩,
    ⟨some 201, none, .build [.bool false, .bool false, .bool false] [(0, 1, .t 188), (1, 1, .t 194), (2, 1, .t 200)], 0, 0, false, []⟩,
    ⟨some 202, none, .mksl false 3 [.t 201], 0, 0, false, []⟩,
    ⟨some 203, none, .app 3 (.t 182) (.t 202), 0, 0, true, []⟩,
    ⟨some 6, none, .mov (.t 203), 1, 1, false, []⟩]
def D91x5 : List I := E91x5
theorem evD91x5 (run : Run) (e : Env) (h : Heap) : drawI run D91x5 e h = DrawW (evW run E91x5 e h []) run E91x5 e h := drawI_write run _ e h
def E91x6 : List I := [⟨some 204, none, .mov (.t 0), 0, 0, false, []⟩,
    ⟨some 205, none, .mov (.t 7), 0, 0, false, []⟩,
    ⟨some 206, none, .bin .sub (.t 205) (.k (.int .i64 1)), 0, 0, false, []⟩,
    ⟨some 207, none, .slc false 3 (.t 204) none (some (.t 206)) none, 0, 0, false, []⟩,
    ⟨some 208, none, .mov (.t 0), 0, 0, false, []⟩,
    ⟨some 209, none, .mov (.t 7), 0, 0, false, []⟩,
    ⟨some 210, none, .bin .sub (.t 209) (.k (.int .i64 1)), 0, 0, false, []⟩,
    ⟨some 211, none, .iaddr 3 (.t 208) (.t 210), 0, 0, false, []⟩,
    ⟨some 212, none, .faddr 0 1 (.t 211), 0, 0, false, []⟩,
    ⟨some 213, none, .load false 1 (.t 212), 0, 0, false, []⟩,
    ⟨some 214, none, .build [.bool false, .bool false, .bool false] [(2, 1, .t 213)], 0, 0, false, []⟩,
    ⟨some 215, none, .mksl false 3 [.t 214], 0, 0, false, []⟩,
    ⟨some 216, none, .app 3 (.t 207) (.t 215), 0, 0, true, []⟩,
    ⟨some 6, none, .mov (.t 216), 1, 1, false, []⟩]
def D91x6 : List I := E91x6
theorem evD91x6 (run : Run) (e : Env) (h : Heap) : drawI run D91x6 e h = DrawW (evW run E91x6 e h []) run E91x6 e h := drawI_write run _ e h
/-- loop.example/tablehouse/spec.l24Next -/
def F91 : F := ⟨217, [(false, 6, 0, false)],
   .seq (.seg false [⟨some 4, none, .box (.t 1), 0, 0, false, []⟩,
    ⟨some 6, none, .nilrow 3, 0, 0, false, []⟩])
   (.seq (.seg false [⟨some 11, none, .mov (.t 0), 0, 0, false, []⟩,
    ⟨some 12, none, .len false (.t 11), 0, 0, false, []⟩,
    ⟨some 7, none, .mov (.t 12), 0, 0, false, []⟩])
   (.seq (.seg false [⟨some 13, none, .build [.bool false, .bool false, .bool false] [(0, 1, .k (.bool true)), (1, 1, .k (.bool true)), (2, 1, .k (.bool true))], 0, 0, false, []⟩,
    ⟨some 8, none, .alloc [.bool false, .bool false, .bool false], 0, 0, false, []⟩,
    ⟨none, none, .store 3 (.t 8) (.t 13), 0, 0, false, []⟩])
   (.seq (.seq (.seg false [⟨some 14, none, .faddr 0 1 (.t 4), 0, 0, false, []⟩,
    ⟨some 15, none, .load false 1 (.t 14), 0, 0, false, []⟩])
   (.block 0 (.seq (.seg false [⟨some 17, none, .bin .eql (.t 15) (.k (.int .i64 1)), 0, 0, false, []⟩,
    ⟨some 16, none, .mov (.t 17), 0, 0, false, []⟩])
   (.cond (.t 16) (.seq (.seg false [⟨some 18, none, .mov (.t 0), 0, 0, false, []⟩,
    ⟨some 19, none, .faddr 2 3 (.t 4), 0, 0, false, []⟩,
    ⟨some 20, none, .faddr 0 1 (.t 19), 0, 0, false, []⟩,
    ⟨some 21, none, .load false 1 (.t 20), 0, 0, false, []⟩,
    ⟨some 22, none, .bin .eql (.t 21) (.k (.int .i64 3)), 0, 0, false, []⟩,
    ⟨some 23, none, .mov (.t 22), 0, 0, false, []⟩,
    ⟨some 24, some (23, true), .faddr 2 3 (.t 4), 0, 0, false, []⟩,
    ⟨some 25, some (23, true), .faddr 1 1 (.t 24), 0, 0, false, []⟩,
    ⟨some 26, some (23, true), .load false 1 (.t 25), 0, 0, false, []⟩,
    ⟨some 27, some (23, true), .bin .eql (.t 26) (.k (.int .i64 0)), 0, 0, false, []⟩,
    ⟨some 28, none, .pick (.t 23) (.t 27) (.k (.bool false)), 0, 0, false, []⟩,
    ⟨some 29, none, .faddr 2 3 (.t 4), 0, 0, false, []⟩,
    ⟨some 30, none, .faddr 0 1 (.t 29), 0, 0, false, []⟩,
    ⟨some 31, none, .load false 1 (.t 30), 0, 0, false, []⟩,
    ⟨some 32, none, .bin .eql (.t 31) (.k (.int .i64 3)), 0, 0, false, []⟩,
    ⟨some 33, none, .mov (.t 32), 0, 0, false, []⟩,
    ⟨some 34, some (33, true), .faddr 2 3 (.t 4), 0, 0, false, []⟩,
    ⟨some 35, some (33, true), .faddr 1 1 (.t 34), 0, 0, false, []⟩,
    ⟨some 36, some (33, true), .load false 1 (.t 35), 0, 0, false, []⟩,
    ⟨some 37, some (33, true), .bin .eql (.t 36) (.k (.int .i64 1)), 0, 0, false, []⟩,
    ⟨some 38, none, .pick (.t 33) (.t 37) (.k (.bool false)), 0, 0, false, []⟩,
    ⟨some 39, none, .build [.bool false, .bool false, .bool false] [(1, 1, .t 28), (2, 1, .t 38)], 0, 0, false, []⟩,
    ⟨some 40, none, .mksl false 3 [.t 39], 0, 0, false, []⟩,
    ⟨some 41, none, .app 3 (.t 18) (.t 40), 0, 0, false, []⟩,
    ⟨some 6, none, .mov (.t 41), 0, 0, false, []⟩])
   (.cutTo [6] (.ret)))
   (.seq (.seg false [⟨some 43, none, .bin .eql (.t 15) (.k (.int .i64 2)), 0, 0, false, []⟩,
    ⟨some 42, none, .mov (.t 43), 0, 0, false, []⟩])
   (.cond (.t 42) (.seq (.seq (.seg false [⟨some 44, none, .faddr 1 1 (.t 4), 0, 0, false, []⟩,
    ⟨some 45, none, .load false 1 (.t 44), 0, 0, false, []⟩,
    ⟨some 46, none, .mov (.t 2), 0, 0, false, []⟩,
    ⟨some 47, none, .bin .geq (.t 45) (.t 46), 0, 0, false, []⟩])
   (.cutTo [0, 8, 47] (.cond (.t 47) (.seq (.seg false [⟨some 48, none, .mov (.t 0), 0, 0, false, []⟩,
    ⟨some 49, none, .load true 3 (.t 8), 0, 0, false, []⟩,
    ⟨some 50, none, .mksl false 3 [.t 49], 0, 0, false, []⟩,
    ⟨some 51, none, .app 3 (.t 48) (.t 50), 0, 0, false, []⟩,
    ⟨some 6, none, .mov (.t 51), 0, 0, false, []⟩])
   (.cutTo [6] (.ret)))
   (.skip))))
   (.cutTo [0] (.seq (.seg false [⟨some 52, none, .mov (.t 0), 0, 0, false, []⟩,
    ⟨some 53, none, .build [.bool false, .bool false, .bool false] [], 0, 0, false, []⟩,
    ⟨some 54, none, .mksl false 3 [.t 53], 0, 0, false, []⟩,
    ⟨some 55, none, .app 3 (.t 52) (.t 54), 0, 0, false, []⟩,
    ⟨some 6, none, .mov (.t 55), 0, 0, false, []⟩])
   (.cutTo [6] (.ret)))))
   (.seq (.seq (.seg false [⟨some 57, none, .bin .eql (.t 15) (.k (.int .i64 3)), 0, 0, false, []⟩,
    ⟨some 56, none, .mov (.t 57), 0, 0, false, []⟩])
   (.cond (.t 56) (.skip)
   (.seg false [⟨some 58, none, .bin .eql (.t 15) (.k (.int .i64 4)), 0, 0, false, []⟩,
    ⟨some 56, none, .mov (.t 58), 0, 0, false, []⟩])))
   (.cutTo [0, 7, 8, 15, 56] (.cond (.t 56) (.seq (.seq (.seg false [⟨some 59, none, .mov (.t 0), 0, 0, false, []⟩,
    ⟨some 60, none, .mov (.t 7), 0, 0, false, []⟩,
    ⟨some 61, none, .bin .sub (.t 60) (.k (.int .i64 2)), 0, 0, false, []⟩,
    ⟨some 62, none, .iaddr 3 (.t 59) (.t 61), 0, 0, false, []⟩,
    ⟨some 63, none, .faddr 0 1 (.t 62), 0, 0, false, []⟩,
    ⟨some 64, none, .load false 1 (.t 63), 0, 0, false, []⟩,
    ⟨some 65, none, .mov (.t 64), 0, 0, false, []⟩,
    ⟨some 66, some (65, false), .mov (.t 0), 0, 0, false, []⟩,
    ⟨some 67, some (65, false), .mov (.t 7), 0, 0, false, []⟩,
    ⟨some 68, some (65, false), .bin .sub (.t 67) (.k (.int .i64 1)), 0, 0, false, []⟩,
    ⟨some 69, some (65, false), .iaddr 3 (.t 66) (.t 68), 0, 0, false, []⟩,
    ⟨some 70, some (65, false), .faddr 0 1 (.t 69), 0, 0, false, []⟩,
    ⟨some 71, some (65, false), .load false 1 (.t 70), 0, 0, false, []⟩,
    ⟨some 72, none, .pick (.t 65) (.k (.bool true)) (.t 71), 0, 0, false, []⟩])
   (.cutTo [0, 7, 8, 72] (.cond (.t 72) (.seq (.seg true D91x0)
   (.cutTo [6] (.ret)))
   (.skip))))
   (.cutTo [0, 7] (.seq (.seg false [⟨some 80, none, .mov (.t 0), 0, 0, false, []⟩,
    ⟨some 81, none, .mov (.t 7), 0, 0, false, []⟩,
    ⟨some 82, none, .bin .sub (.t 81) (.k (.int .i64 2)), 0, 0, false, []⟩,
    ⟨some 83, none, .slc false 3 (.t 80) none (some (.t 82)) none, 0, 0, false, []⟩,
    ⟨some 84, none, .build [.bool false, .bool false, .bool false] [], 0, 0, false, []⟩,
    ⟨some 85, none, .mksl false 3 [.t 84], 0, 0, false, []⟩,
    ⟨some 86, none, .app 3 (.t 83) (.t 85), 0, 0, false, []⟩,
    ⟨some 6, none, .mov (.t 86), 0, 0, false, []⟩])
   (.cutTo [6] (.ret)))))
   (.seq (.seg false [⟨some 88, none, .bin .eql (.t 15) (.k (.int .i64 5)), 0, 0, false, []⟩,
    ⟨some 87, none, .mov (.t 88), 0, 0, false, []⟩])
   (.cond (.t 87) (.seq (.seg true D91x1)
   (.cutTo [0, 7, 9] (.seq (.seg false [⟨some 118, none, .faddr 1 1 (.t 9), 0, 0, false, []⟩,
    ⟨some 119, none, .load false 1 (.t 118), 0, 0, false, []⟩,
    ⟨some 120, none, .mov (.t 119), 0, 0, false, []⟩,
    ⟨some 121, some (120, true), .faddr 2 1 (.t 9), 0, 0, false, []⟩,
    ⟨some 122, some (120, true), .load false 1 (.t 121), 0, 0, false, []⟩,
    ⟨some 123, none, .pick (.t 120) (.t 122) (.k (.bool false)), 0, 0, false, []⟩,
    ⟨some 124, none, .faddr 0 1 (.t 9), 0, 0, false, []⟩,
    ⟨none, none, .store 1 (.t 124) (.t 123), 0, 0, false, []⟩])
   (.cutTo [0, 7, 9] (.seq (.seg true D91x2)
   (.cutTo [6] (.ret)))))))
   (.seq (.seg false [⟨some 133, none, .bin .eql (.t 15) (.k (.int .i64 6)), 0, 0, false, []⟩,
    ⟨some 132, none, .mov (.t 133), 0, 0, false, []⟩])
   (.cond (.t 132) (.seq (.seg true D91x3)
   (.cutTo [0, 7, 10] (.seq (.seg false [⟨some 163, none, .faddr 1 1 (.t 10), 0, 0, false, []⟩,
    ⟨some 164, none, .load false 1 (.t 163), 0, 0, false, []⟩,
    ⟨some 165, none, .mov (.t 164), 0, 0, false, []⟩,
    ⟨some 166, some (165, true), .faddr 2 1 (.t 10), 0, 0, false, []⟩,
    ⟨some 167, some (165, true), .load false 1 (.t 166), 0, 0, false, []⟩,
    ⟨some 168, none, .pick (.t 165) (.t 167) (.k (.bool false)), 0, 0, false, []⟩,
    ⟨some 169, none, .faddr 0 1 (.t 10), 0, 0, false, []⟩,
    ⟨none, none, .store 1 (.t 169) (.t 168), 0, 0, false, []⟩])
   (.cutTo [0, 7, 10] (.seq (.seg true D91x4)
   (.cutTo [6] (.ret)))))))
   (.seq (.seg false [⟨some 178, none, .bin .eql (.t 15) (.k (.int .i64 7)), 0, 0, false, []⟩,
    ⟨some 177, none, .mov (.t 178), 0, 0, false, []⟩])
   (.cond (.t 177) (.seq (.seg true D91x5)
   (.cutTo [6] (.ret)))
   (.skip))))))))))))))))
   (.cutTo [0, 7] (.seq (.seg true D91x6)
   (.cutTo [6] (.ret)))))))⟩
end Go.Proofs.Ytgepapgabnaonaa.PE
