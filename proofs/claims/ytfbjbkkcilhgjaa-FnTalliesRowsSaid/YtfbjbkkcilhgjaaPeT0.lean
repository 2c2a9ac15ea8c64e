/- The compact code of the functions, and that it is the code of the machine. -/
import Derived.Test.YtfbjbkkcilhgjaaPeX
import Derived.Test.YtfbjbkkcilhgjaaProg
namespace Go.Proofs.Ytfbjbkkcilhgjaa.PE
open Go.RowKit
set_option maxRecDepth 100000
def E3x0 : List I := [⟨some 42, none, .mov (.t 7), 0, 0, false, []⟩,
    ⟨some 43, none, .un .not (.t 42), 0, 0, false, []⟩,
    ⟨some 44, none, .mov (.t 43), 0, 0, false, []⟩,
    ⟨some 45, some (44, false), .faddr 1 1 (.t 6), 0, 0, false, []⟩,
    ⟨some 46, some (44, false), .load false 1 (.t 45), 0, 0, false, []⟩,
    ⟨some 47, some (44, false), .mov (.t 4), 0, 0, false, []⟩,
    ⟨some 48, some (44, false), .mov (.t 5), 0, 0, false, []⟩,
    ⟨some 49, some (44, false), .call 16 [.t 47, .t 48] false false, 0, 0, false, []⟩,
    ⟨some 50, some (44, false), .call 15 [.t 46, .t 49] false false, 0, 0, false, []⟩,
    ⟨some 51, some (44, false), .mov (.t 50), 0, 0, false, []⟩,
    ⟨some 52, some (51, true), .load true 2 (.t 6), 0, 0, false, []⟩,
    ⟨some 53, some (51, true), .mksl false 2 [.t 52], 0, 0, false, []⟩,
    ⟨some 54, some (51, true), .call 17 [.t 53] false false, 0, 0, false, []⟩,
    ⟨some 55, some (44, false), .pick (.t 51) (.t 54) (.k (.bool false)), 0, 0, false, []⟩,
    ⟨some 56, none, .pick (.t 44) (.k (.bool true)) (.t 55), 0, 0, false, []⟩,
    ⟨some 57, none, .mov (.t 56), 0, 0, false, []⟩,
    ⟨some 58, some (57, true), .call 18 [] false false, 0, 0, false, []⟩,
    ⟨some 59, none, .pick (.t 57) (.t 58) (.k (.bool false)), 0, 0, false, []⟩,
    ⟨some 2, none, .mov (.t 59), 0, 0, false, []⟩]
def D3x0 : List I := E3x0
theorem evD3x0 (run : Run) (e : Env) (h : Heap) : drawI run D3x0 e h = DrawS (evQ run E3x0 e h) run E3x0 e h := drawI_quiet run _ (by rfl) e h
/-- loop.example/tablehouse/laws.FnTableAt -/
def F3 : F := ⟨60, [(false, 2, 0, false)],
   .seq (.seg false [⟨some 2, none, .mov (.k (.bool false)), 0, 0, false, []⟩])
   (.seq (.seq (.seg false [⟨some 10, none, .mov (.t 0), 0, 0, false, []⟩,
    ⟨some 11, none, .len false (.t 10), 0, 0, false, []⟩,
    ⟨some 12, none, .bin .gtr (.t 11) (.k (.int .i64 1048576)), 0, 0, false, []⟩])
   (.cond (.t 12) (.seq (.seg false [⟨some 2, none, .mov (.k (.bool true)), 0, 0, false, []⟩])
   (.ret))
   (.skip)))
   (.cutTo [0] (.seq (.seg false [⟨some 14, none, .mov (.t 0), 0, 0, false, []⟩,
    ⟨some 15, none, .call 11 [.t 14] false false, 0, 0, false, []⟩,
    ⟨some 13, none, .mov (.t 15), 0, 0, false, []⟩,
    ⟨some 16, none, .ext (.t 13) 0, 0, 0, false, []⟩,
    ⟨some 17, none, .ext (.t 13) 1, 0, 0, false, []⟩,
    ⟨some 18, none, .ext (.t 13) 2, 0, 0, false, []⟩,
    ⟨some 3, none, .mov (.t 16), 0, 0, false, []⟩,
    ⟨some 4, none, .mov (.t 17), 0, 0, false, []⟩,
    ⟨some 5, none, .mov (.t 18), 0, 0, false, []⟩])
   (.cutTo [3, 4, 5] (.seq (.seg false [⟨some 20, none, .mov (.t 3), 0, 0, false, []⟩,
    ⟨some 21, none, .mov (.t 4), 0, 0, false, []⟩,
    ⟨some 22, none, .mov (.t 5), 0, 0, false, []⟩,
    ⟨some 23, none, .call 12 [.t 20, .t 21, .t 22] false false, 0, 0, false, []⟩,
    ⟨some 19, none, .mov (.t 23), 0, 0, false, []⟩,
    ⟨some 24, none, .ext (.t 19) 0, 0, 0, false, []⟩,
    ⟨some 25, none, .ext (.t 19) 1, 0, 0, false, []⟩,
    ⟨some 6, none, .alloc [.sl true 2 [], .sl true 1 []], 0, 0, false, []⟩,
    ⟨none, none, .store 2 (.t 6) (.t 24), 0, 0, false, []⟩,
    ⟨some 7, none, .mov (.t 25), 0, 0, false, []⟩])
   (.cutTo [3, 4, 5, 6, 7] (.seq (.seg false [⟨some 27, none, .mov (.t 3), 0, 0, false, []⟩,
    ⟨some 28, none, .mov (.t 4), 0, 0, false, []⟩,
    ⟨some 29, none, .mov (.t 5), 0, 0, false, []⟩,
    ⟨some 30, none, .call 13 [.t 27, .t 28, .t 29] false false, 0, 0, false, []⟩,
    ⟨some 26, none, .mov (.t 30), 0, 0, false, []⟩,
    ⟨some 31, none, .ext (.t 26) 0, 0, 0, false, []⟩,
    ⟨some 32, none, .ext (.t 26) 1, 0, 0, false, []⟩,
    ⟨some 8, none, .alloc [.sl true 2 [], .sl true 1 []], 0, 0, false, []⟩,
    ⟨none, none, .store 2 (.t 8) (.t 31), 0, 0, false, []⟩,
    ⟨some 9, none, .mov (.t 32), 0, 0, false, []⟩])
   (.cutTo [4, 5, 6, 7, 8, 9] (.seq (.seq (.seg false [⟨some 33, none, .mov (.t 7), 0, 0, false, []⟩,
    ⟨some 34, none, .mov (.t 9), 0, 0, false, []⟩,
    ⟨some 35, none, .eqb true (.t 33) (.t 34), 0, 0, false, []⟩,
    ⟨some 36, none, .mov (.t 35), 0, 0, false, []⟩,
    ⟨some 37, some (36, false), .load true 2 (.t 6), 0, 0, false, []⟩,
    ⟨some 38, some (36, false), .load true 2 (.t 8), 0, 0, false, []⟩,
    ⟨some 39, some (36, false), .call 14 [.t 37, .t 38] false false, 0, 0, false, []⟩,
    ⟨some 40, some (36, false), .un .not (.t 39), 0, 0, false, []⟩,
    ⟨some 41, none, .pick (.t 36) (.k (.bool true)) (.t 40), 0, 0, false, []⟩])
   (.cutTo [4, 5, 6, 7, 41] (.cond (.t 41) (.seq (.seg false [⟨some 2, none, .mov (.k (.bool false)), 0, 0, false, []⟩])
   (.ret))
   (.skip))))
   (.cutTo [4, 5, 6, 7] (.seq (.seg true D3x0)
   (.cutTo [2] (.ret)))))))))))))⟩
def B4x1 : C := .seq (.seq (.seg false [⟨some 39, none, .mov (.t 7), 0, 0, false, []⟩,
    ⟨some 40, none, .mov (.t 4), 0, 0, false, []⟩,
    ⟨some 41, none, .bin .add (.t 40) (.k (.int .i64 40)), 0, 0, false, []⟩,
    ⟨some 42, none, .bin .lss (.t 39) (.t 41), 0, 0, false, []⟩])
   (.cutTo [3, 4, 5, 6, 7, 42] (.cond (.t 42) (.skip)
   (.exit 2))))
   (.cutTo [3, 4, 5, 6, 7] (.seq (.block 3 (.seq (.seg false [⟨some 45, none, .mov (.t 3), 0, 0, false, []⟩,
    ⟨some 46, none, .mov (.t 5), 0, 0, false, []⟩,
    ⟨some 47, none, .mov (.t 6), 0, 0, false, []⟩,
    ⟨some 48, none, .mov (.t 7), 0, 0, false, []⟩,
    ⟨some 49, none, .call 24 [.t 45, .t 46, .t 47, .t 48] false false, 0, 0, false, []⟩,
    ⟨some 50, none, .un .not (.t 49), 0, 0, false, []⟩])
   (.cutTo [3, 4, 5, 6, 7, 50] (.cond (.t 50) (.seq (.seg false [⟨some 2, none, .mov (.k (.bool false)), 0, 0, false, []⟩])
   (.ret))
   (.skip)))))
   (.cutTo [3, 4, 5, 6, 7] (.seg false [⟨some 43, none, .mov (.t 7), 0, 0, false, []⟩,
    ⟨some 44, none, .bin .add (.t 43) (.k (.int .i64 1)), 0, 0, false, []⟩,
    ⟨some 7, none, .mov (.t 44), 0, 0, false, []⟩]))))
def L4x1 : C := B4x1
theorem evL4x1 (run : Run) (draw : List I → Env → Heap → Option (Env × Heap)) (e : Env) (h : Heap) : evC run draw L4x1 e h = evC run draw B4x1 e h := rfl
def B4x0 : C := .seq (.seq (.seg false [⟨some 34, none, .mov (.t 6), 0, 0, false, []⟩,
    ⟨some 35, none, .bin .lss (.t 34) (.k (.int .i64 5)), 0, 0, false, []⟩])
   (.cond (.t 35) (.skip)
   (.exit 0)))
   (.seq (.block 1 (.seq (.seg false [⟨some 38, none, .mov (.t 4), 0, 0, false, []⟩,
    ⟨some 7, none, .mov (.t 38), 0, 0, false, []⟩])
   (.block 2 (.loop [3, 4, 5, 6, 7] [2, 3, 4, 5, 6] L4x1))))
   (.seg false [⟨some 36, none, .mov (.t 6), 0, 0, false, []⟩,
    ⟨some 37, none, .bin .add (.t 36) (.k (.int .i64 1)), 0, 0, false, []⟩,
    ⟨some 6, none, .mov (.t 37), 0, 0, false, []⟩]))
def L4x0 : C := B4x0
theorem evL4x0 (run : Run) (draw : List I → Env → Heap → Option (Env × Heap)) (e : Env) (h : Heap) : evC run draw L4x0 e h = evC run draw B4x0 e h := rfl
/-- loop.example/tablehouse/laws.FnSweptAt -/
def F4 : F := ⟨63, [(false, 2, 0, false)],
   .seq (.seg false [⟨some 2, none, .mov (.k (.bool false)), 0, 0, false, []⟩])
   (.seq (.seq (.seg false [⟨some 8, none, .mov (.t 0), 0, 0, false, []⟩,
    ⟨some 9, none, .len false (.t 8), 0, 0, false, []⟩,
    ⟨some 10, none, .bin .gtr (.t 9) (.k (.int .i64 1048576)), 0, 0, false, []⟩])
   (.cond (.t 10) (.seq (.seg false [⟨some 2, none, .mov (.k (.bool true)), 0, 0, false, []⟩])
   (.ret))
   (.skip)))
   (.cutTo [0] (.seq (.seg false [⟨some 12, none, .mov (.t 0), 0, 0, false, []⟩,
    ⟨some 13, none, .call 19 [.t 12] false false, 0, 0, false, []⟩,
    ⟨some 11, none, .mov (.t 13), 0, 0, false, []⟩,
    ⟨some 14, none, .ext (.t 11) 0, 0, 0, false, []⟩,
    ⟨some 15, none, .ext (.t 11) 1, 0, 0, false, []⟩,
    ⟨some 3, none, .mov (.t 14), 0, 0, false, []⟩,
    ⟨some 4, none, .mov (.t 15), 0, 0, false, []⟩])
   (.cutTo [3, 4] (.seq (.seg false [⟨some 16, none, .mov (.t 3), 0, 0, false, []⟩,
    ⟨some 17, none, .mov (.t 4), 0, 0, false, []⟩,
    ⟨some 18, none, .call 20 [.t 16, .t 17] false false, 0, 0, false, []⟩,
    ⟨some 5, none, .mov (.t 18), 0, 0, false, []⟩])
   (.cutTo [3, 4, 5] (.seq (.seq (.seg false [⟨some 19, none, .mov (.t 5), 0, 0, false, []⟩,
    ⟨some 20, none, .mov (.t 3), 0, 0, false, []⟩,
    ⟨some 21, none, .mov (.t 4), 0, 0, false, []⟩,
    ⟨some 22, none, .call 22 [.t 20, .t 21] false false, 0, 0, false, []⟩,
    ⟨some 23, none, .call 21 [.t 19, .t 22] false false, 0, 0, false, []⟩,
    ⟨some 24, none, .un .not (.t 23), 0, 0, false, []⟩])
   (.cutTo [3, 4, 5, 24] (.cond (.t 24) (.seq (.seg false [⟨some 2, none, .mov (.k (.bool false)), 0, 0, false, []⟩])
   (.ret))
   (.skip))))
   (.cutTo [3, 4, 5] (.seq (.seq (.seg false [⟨some 25, none, .mov (.t 3), 0, 0, false, []⟩,
    ⟨some 26, none, .call 23 [.t 25] false false, 0, 0, false, []⟩,
    ⟨some 27, none, .un .not (.t 26), 0, 0, false, []⟩])
   (.cond (.t 27) (.seq (.seg false [⟨some 28, none, .mov (.t 5), 0, 0, false, []⟩,
    ⟨some 29, none, .len false (.t 28), 0, 0, false, []⟩,
    ⟨some 30, none, .bin .eql (.t 29) (.k (.int .i64 0)), 0, 0, false, []⟩,
    ⟨some 31, none, .mov (.t 30), 0, 0, false, []⟩,
    ⟨some 32, some (31, true), .call 18 [] false false, 0, 0, false, []⟩,
    ⟨some 33, none, .pick (.t 31) (.t 32) (.k (.bool false)), 0, 0, false, []⟩,
    ⟨some 2, none, .mov (.t 33), 0, 0, false, []⟩])
   (.cutTo [2] (.ret)))
   (.skip)))
   (.cutTo [3, 4, 5] (.seq (.seq (.seg false [⟨some 6, none, .mov (.k (.int .i64 0)), 0, 0, false, []⟩])
   (.block 0 (.loop [3, 4, 5, 6] [2, 4, 5] L4x0)))
   (.seq (.seg false [⟨some 51, none, .mov (.t 5), 0, 0, false, []⟩,
    ⟨some 52, none, .call 23 [.t 51] false false, 0, 0, false, []⟩,
    ⟨some 53, none, .mov (.t 52), 0, 0, false, []⟩,
    ⟨some 54, some (53, true), .mov (.t 5), 0, 0, false, []⟩,
    ⟨some 55, some (53, true), .mov (.t 4), 0, 0, false, []⟩,
    ⟨some 56, some (53, true), .call 20 [.t 54, .t 55] false false, 0, 0, false, []⟩,
    ⟨some 57, some (53, true), .mov (.t 5), 0, 0, false, []⟩,
    ⟨some 58, some (53, true), .call 21 [.t 56, .t 57] false false, 0, 0, false, []⟩,
    ⟨some 59, none, .pick (.t 53) (.t 58) (.k (.bool false)), 0, 0, false, []⟩,
    ⟨some 60, none, .mov (.t 59), 0, 0, false, []⟩,
    ⟨some 61, some (60, true), .call 18 [] false false, 0, 0, false, []⟩,
    ⟨some 62, none, .pick (.t 60) (.t 61) (.k (.bool false)), 0, 0, false, []⟩,
    ⟨some 2, none, .mov (.t 62), 0, 0, false, []⟩])
   (.cutTo [2] (.ret))))))))))))))⟩
/-- loop.example/tablehouse/laws.FnExactTalliesRows -/
def F5 : F := ⟨69, [(false, 2, 0, false)],
   .seq (.seg false [⟨some 2, none, .mov (.k (.bool false)), 0, 0, false, []⟩])
   (.seq (.seg false [⟨some 3, none, .mov (.k (.int .i64 1048576)), 0, 0, false, []⟩])
   (.seq (.seg false [⟨some 11, none, .mov (.t 0), 0, 0, false, []⟩,
    ⟨some 12, none, .mov (.t 3), 0, 0, false, []⟩,
    ⟨some 13, none, .call 25 [.t 11, .t 12] false false, 0, 0, false, []⟩,
    ⟨some 3, none, .mov (.t 13), 0, 0, false, []⟩])
   (.cutTo [0, 3] (.seq (.seq (.seg false [⟨some 14, none, .mov (.t 3), 0, 0, false, []⟩,
    ⟨some 15, none, .bin .lss (.t 14) (.k (.int .i64 0)), 0, 0, false, []⟩])
   (.cond (.t 15) (.seq (.seg false [⟨some 2, none, .mov (.k (.bool true)), 0, 0, false, []⟩])
   (.ret))
   (.skip)))
   (.seq (.seg false [⟨some 16, none, .mov (.t 0), 0, 0, false, []⟩,
    ⟨some 17, none, .callx 0 27 [.t 16], 0, 0, false, []⟩,
    ⟨some 18, none, .callx 1 26 [.t 17], 0, 0, false, []⟩,
    ⟨some 4, none, .mov (.t 18), 0, 0, false, []⟩])
   (.cutTo [0, 4] (.seq (.seg false [⟨some 19, none, .mov (.t 0), 0, 0, false, []⟩,
    ⟨some 20, none, .callx 0 27 [.t 19], 0, 0, false, []⟩,
    ⟨some 5, none, .mov (.t 20), 0, 0, false, []⟩])
   (.seq (.seg false [⟨some 21, none, .mov (.t 5), 0, 0, false, []⟩,
    ⟨some 22, none, .callx 0 28 [.t 21], 0, 0, false, []⟩,
    ⟨some 6, none, .mov (.t 22), 0, 0, false, []⟩])
   (.seq (.seq (.seg false [⟨some 23, none, .mov (.t 6), 0, 0, false, []⟩,
    ⟨some 24, none, .mov (.t 4), 0, 0, false, []⟩,
    ⟨some 25, none, .callx 0 29 [.t 23, .t 24], 0, 0, false, []⟩,
    ⟨some 26, none, .un .not (.t 25), 0, 0, false, []⟩])
   (.cutTo [0, 4, 5, 6, 26] (.cond (.t 26) (.seq (.seg false [⟨some 2, none, .mov (.k (.bool false)), 0, 0, false, []⟩])
   (.ret))
   (.skip))))
   (.cutTo [0, 4, 5, 6] (.seq (.seq (.seg false [⟨some 27, none, .mov (.t 5), 0, 0, false, []⟩,
    ⟨some 28, none, .mov (.t 0), 0, 0, false, []⟩,
    ⟨some 29, none, .callx 0 27 [.t 28], 0, 0, false, []⟩,
    ⟨some 30, none, .callx 0 30 [.t 27, .t 29], 0, 0, false, []⟩,
    ⟨some 31, none, .un .not (.t 30), 0, 0, false, []⟩])
   (.cutTo [0, 4, 5, 6, 31] (.cond (.t 31) (.seq (.seg false [⟨some 2, none, .mov (.k (.bool false)), 0, 0, false, []⟩])
   (.ret))
   (.skip))))
   (.cutTo [0, 4, 5, 6] (.seq (.seg false [⟨some 7, none, .mov (.k (.int .i64 1)), 0, 0, false, []⟩])
   (.seq (.seg false [⟨some 32, none, .mov (.t 5), 0, 0, false, []⟩,
    ⟨some 33, none, .mov (.t 7), 0, 0, false, []⟩,
    ⟨some 34, none, .callx 2 31 [.t 32, .t 33], 0, 0, false, []⟩,
    ⟨some 7, none, .mov (.t 34), 0, 0, false, []⟩])
   (.cutTo [0, 4, 6, 7] (.seq (.seq (.seg false [⟨some 35, none, .mov (.t 7), 0, 0, false, []⟩,
    ⟨some 36, none, .bin .lss (.t 35) (.k (.int .i64 0)), 0, 0, false, []⟩,
    ⟨some 37, none, .mov (.t 36), 0, 0, false, []⟩,
    ⟨some 38, some (37, false), .mov (.t 6), 0, 0, false, []⟩,
    ⟨some 39, some (37, false), .mov (.t 4), 0, 0, false, []⟩,
    ⟨some 40, some (37, false), .callx 0 29 [.t 38, .t 39], 0, 0, false, []⟩,
    ⟨some 41, some (37, false), .un .not (.t 40), 0, 0, false, []⟩,
    ⟨some 42, none, .pick (.t 37) (.k (.bool true)) (.t 41), 0, 0, false, []⟩])
   (.cutTo [0, 4, 6, 42] (.cond (.t 42) (.seq (.seg false [⟨some 2, none, .mov (.k (.bool false)), 0, 0, false, []⟩])
   (.ret))
   (.skip))))
   (.cutTo [0, 4, 6] (.seq (.seg false [⟨some 8, none, .mov (.k (.int .i64 1)), 0, 0, false, []⟩])
   (.seq (.seg false [⟨some 43, none, .mov (.t 6), 0, 0, false, []⟩,
    ⟨some 44, none, .mov (.t 8), 0, 0, false, []⟩,
    ⟨some 45, none, .callx 2 32 [.t 43, .t 44], 0, 0, false, []⟩,
    ⟨some 8, none, .mov (.t 45), 0, 0, false, []⟩])
   (.cutTo [0, 4, 6, 8] (.seq (.seg false [⟨some 9, none, .mov (.k (.int .i64 1)), 0, 0, false, []⟩])
   (.seq (.seg false [⟨some 46, none, .mov (.t 6), 0, 0, false, []⟩,
    ⟨some 47, none, .mov (.t 9), 0, 0, false, []⟩,
    ⟨some 48, none, .callx 0 33 [.t 46, .t 47], 0, 0, false, []⟩,
    ⟨some 9, none, .mov (.t 48), 0, 0, false, []⟩])
   (.cutTo [0, 4, 6, 8, 9] (.seq (.seq (.seg false [⟨some 49, none, .mov (.t 9), 0, 0, false, []⟩,
    ⟨some 50, none, .bin .lss (.t 49) (.k (.int .i64 0)), 0, 0, false, []⟩])
   (.cond (.t 50) (.seq (.seg false [⟨some 2, none, .mov (.k (.bool false)), 0, 0, false, []⟩])
   (.ret))
   (.skip)))
   (.seq (.seq (.seg false [⟨some 51, none, .mov (.t 9), 0, 0, false, []⟩,
    ⟨some 52, none, .mov (.t 8), 0, 0, false, []⟩,
    ⟨some 53, none, .bin .neq (.t 51) (.t 52), 0, 0, false, []⟩])
   (.cond (.t 53) (.seq (.seg false [⟨some 2, none, .mov (.k (.bool false)), 0, 0, false, []⟩])
   (.ret))
   (.skip)))
   (.cutTo [0, 4, 6, 8] (.seq (.seg false [⟨some 54, none, .mov (.t 0), 0, 0, false, []⟩,
    ⟨some 55, none, .callx 0 27 [.t 54], 0, 0, false, []⟩,
    ⟨some 56, none, .callx 0 28 [.t 55], 0, 0, false, []⟩,
    ⟨some 10, none, .mov (.t 56), 0, 0, false, []⟩])
   (.cutTo [4, 6, 8, 10] (.seq (.seq (.seg false [⟨some 57, none, .mov (.t 10), 0, 0, false, []⟩,
    ⟨some 58, none, .mov (.t 4), 0, 0, false, []⟩,
    ⟨some 59, none, .callx 0 29 [.t 57, .t 58], 0, 0, false, []⟩,
    ⟨some 60, none, .un .not (.t 59), 0, 0, false, []⟩])
   (.cutTo [6, 8, 60] (.cond (.t 60) (.seq (.seg false [⟨some 2, none, .mov (.k (.bool false)), 0, 0, false, []⟩])
   (.ret))
   (.skip))))
   (.cutTo [6, 8] (.seq (.seg false [⟨some 9, none, .mov (.k (.int .i64 1)), 0, 0, false, []⟩])
   (.seq (.seg false [⟨some 61, none, .mov (.t 6), 0, 0, false, []⟩,
    ⟨some 62, none, .mov (.t 9), 0, 0, false, []⟩,
    ⟨some 63, none, .callx 0 33 [.t 61, .t 62], 0, 0, false, []⟩,
    ⟨some 9, none, .mov (.t 63), 0, 0, false, []⟩])
   (.cutTo [8, 9] (.seq (.seq (.seg false [⟨some 64, none, .mov (.t 9), 0, 0, false, []⟩,
    ⟨some 65, none, .bin .lss (.t 64) (.k (.int .i64 0)), 0, 0, false, []⟩])
   (.cond (.t 65) (.seq (.seg false [⟨some 2, none, .mov (.k (.bool false)), 0, 0, false, []⟩])
   (.ret))
   (.skip)))
   (.seq (.seq (.seg false [⟨some 66, none, .mov (.t 9), 0, 0, false, []⟩,
    ⟨some 67, none, .mov (.t 8), 0, 0, false, []⟩,
    ⟨some 68, none, .bin .neq (.t 66) (.t 67), 0, 0, false, []⟩])
   (.cond (.t 68) (.seq (.seg false [⟨some 2, none, .mov (.k (.bool false)), 0, 0, false, []⟩])
   (.ret))
   (.skip)))
   (.cutTo [] (.seq (.seg false [⟨some 2, none, .mov (.k (.bool true)), 0, 0, false, []⟩])
   (.ret))))))))))))))))))))))))))))))))))))))⟩
/-- loop.example/tablehouse/laws.FnTalliesRows -/
def F6 : F := ⟨34, [(false, 2, 0, false)],
   .seq (.seg false [⟨some 2, none, .mov (.k (.bool false)), 0, 0, false, []⟩])
   (.seq (.seq (.seg false [⟨some 5, none, .mov (.t 0), 0, 0, false, []⟩,
    ⟨some 6, none, .len false (.t 5), 0, 0, false, []⟩,
    ⟨some 7, none, .bin .gtr (.t 6) (.k (.int .i64 1048576)), 0, 0, false, []⟩])
   (.cond (.t 7) (.seq (.seg false [⟨some 2, none, .mov (.k (.bool true)), 0, 0, false, []⟩])
   (.ret))
   (.skip)))
   (.cutTo [0] (.seq (.seg false [⟨some 8, none, .mov (.t 0), 0, 0, false, []⟩,
    ⟨some 9, none, .call 34 [.t 8] false false, 0, 0, false, []⟩,
    ⟨some 3, none, .mov (.t 9), 0, 0, false, []⟩])
   (.seq (.seg false [⟨some 10, none, .mov (.t 3), 0, 0, false, []⟩,
    ⟨some 11, none, .call 28 [.t 10] false false, 0, 0, false, []⟩,
    ⟨some 4, none, .mov (.t 11), 0, 0, false, []⟩])
   (.seq (.seq (.seg false [⟨some 12, none, .mov (.t 4), 0, 0, false, []⟩,
    ⟨some 13, none, .mov (.t 3), 0, 0, false, []⟩,
    ⟨some 14, none, .call 26 [.t 13] false false, 0, 0, false, []⟩,
    ⟨some 15, none, .call 15 [.t 12, .t 14] false false, 0, 0, false, []⟩,
    ⟨some 16, none, .un .not (.t 15), 0, 0, false, []⟩])
   (.cutTo [3, 4, 16] (.cond (.t 16) (.seq (.seg false [⟨some 2, none, .mov (.k (.bool false)), 0, 0, false, []⟩])
   (.ret))
   (.skip))))
   (.cutTo [3, 4] (.seq (.seg false [⟨some 17, none, .mov (.t 4), 0, 0, false, []⟩,
    ⟨some 18, none, .call 35 [.t 17] false false, 0, 0, false, []⟩,
    ⟨some 19, none, .mov (.t 18), 0, 0, false, []⟩,
    ⟨some 20, some (19, true), .mov (.t 3), 0, 0, false, []⟩,
    ⟨some 21, some (19, true), .call 36 [.t 20] false false, 0, 0, false, []⟩,
    ⟨some 22, some (19, true), .un .not (.t 21), 0, 0, false, []⟩,
    ⟨some 23, some (19, true), .mov (.t 22), 0, 0, false, []⟩,
    ⟨some 24, some (23, false), .mov (.t 4), 0, 0, false, []⟩,
    ⟨some 25, some (23, false), .len false (.t 24), 0, 0, false, []⟩,
    ⟨some 26, some (23, false), .mov (.t 3), 0, 0, false, []⟩,
    ⟨some 27, some (23, false), .len false (.t 26), 0, 0, false, []⟩,
    ⟨some 28, some (23, false), .bin .eql (.t 25) (.t 27), 0, 0, false, []⟩,
    ⟨some 29, some (19, true), .pick (.t 23) (.k (.bool true)) (.t 28), 0, 0, false, []⟩,
    ⟨some 30, none, .pick (.t 19) (.t 29) (.k (.bool false)), 0, 0, false, []⟩,
    ⟨some 31, none, .mov (.t 30), 0, 0, false, []⟩,
    ⟨some 32, some (31, true), .call 18 [] false false, 0, 0, false, []⟩,
    ⟨some 33, none, .pick (.t 31) (.t 32) (.k (.bool false)), 0, 0, false, []⟩,
    ⟨some 2, none, .mov (.t 33), 0, 0, false, []⟩])
   (.cutTo [2] (.ret)))))))))⟩
/-- loop.example/tablehouse/spec.DrawTableAt -/
def F11 : F := ⟨29, [(false, 2, 0, false), (false, 3, 0, false), (false, 4, 0, false)],
   .seq (.seg false [⟨some 2, none, .mov (.k (.sl true 2 [])), 0, 0, false, []⟩,
    ⟨some 3, none, .mov (.k (.sl true 4 [])), 0, 0, false, []⟩,
    ⟨some 4, none, .mov (.k (.int .i64 0)), 0, 0, false, []⟩])
   (.seq (.seg false [⟨some 9, none, .mov (.t 0), 0, 0, false, []⟩,
    ⟨some 10, none, .call 55 [.t 9] true true, 0, 0, false, []⟩,
    ⟨some 5, none, .mov (.t 10), 0, 0, false, []⟩])
   (.seq (.seg false [⟨some 11, none, .mov (.t 5), 0, 0, false, []⟩,
    ⟨some 12, none, .call 56 [.t 11] true false, 0, 0, false, []⟩,
    ⟨some 6, none, .mov (.t 12), 0, 0, false, []⟩])
   (.seq (.seq (.seg false [⟨some 13, none, .mov (.t 5), 0, 0, false, []⟩,
    ⟨some 14, none, .call 57 [.t 13, .k (.int .i64 8)] true false, 0, 0, false, []⟩,
    ⟨some 15, none, .bin .eql (.t 14) (.k (.int .i64 0)), 0, 0, false, []⟩])
   (.cond (.t 15) (.seg false [⟨some 16, none, .mov (.t 5), 0, 0, false, []⟩,
    ⟨some 17, none, .call 58 [.t 16, .k (.int .i64 0)] true false, 0, 0, false, []⟩,
    ⟨some 6, none, .mov (.t 17), 0, 0, false, []⟩])
   (.skip)))
   (.cutTo [5, 6] (.seq (.seg false [⟨some 19, none, .mov (.t 5), 0, 0, false, []⟩,
    ⟨some 20, none, .call 59 [.t 19, .k (.int .i64 15)] true false, 0, 0, false, []⟩,
    ⟨some 18, none, .mov (.t 20), 0, 0, false, []⟩,
    ⟨some 21, none, .ext (.t 18) 0, 0, 0, false, []⟩,
    ⟨some 22, none, .ext (.t 18) 1, 0, 0, false, []⟩,
    ⟨some 7, none, .mov (.t 21), 0, 0, false, []⟩,
    ⟨some 8, none, .mov (.t 22), 0, 0, false, []⟩])
   (.cutTo [5, 6, 7, 8] (.seq (.seg false [⟨some 23, none, .mov (.t 6), 0, 0, false, []⟩,
    ⟨some 24, none, .mov (.t 7), 0, 0, false, []⟩,
    ⟨some 25, none, .mov (.t 5), 0, 0, false, []⟩,
    ⟨some 26, none, .mov (.t 8), 0, 0, false, []⟩,
    ⟨some 27, none, .bin .add (.t 26) (.k (.int .i64 2)), 0, 0, false, []⟩,
    ⟨some 28, none, .call 57 [.t 25, .t 27] true false, 0, 0, false, []⟩,
    ⟨some 2, none, .mov (.t 23), 0, 0, false, []⟩,
    ⟨some 3, none, .mov (.t 24), 0, 0, false, []⟩,
    ⟨some 4, none, .mov (.t 28), 0, 0, false, []⟩])
   (.cutTo [2, 3, 4] (.ret)))))))))⟩
/-- loop.example/tablehouse/impl.TableAt -/
def F12 : F := ⟨19, [(true, 6, 2, true), (false, 7, 0, false)],
   .seq (.seg false [⟨some 6, none, .alloc [.sl true 2 [], .sl true 1 []], 0, 0, false, []⟩,
    ⟨some 7, none, .mov (.k (.bool false)), 0, 0, false, []⟩])
   (.seq (.seq (.seg false [⟨some 8, none, .mov (.t 1), 0, 0, false, []⟩,
    ⟨some 9, none, .call 23 [.t 8] false false, 0, 0, false, []⟩,
    ⟨some 10, none, .un .not (.t 9), 0, 0, false, []⟩])
   (.cond (.t 10) (.seq (.seg false [⟨some 11, none, .build [.sl true 2 [], .sl true 1 []] [], 0, 0, false, []⟩,
    ⟨none, none, .store 2 (.t 6) (.t 11), 0, 0, false, []⟩,
    ⟨some 7, none, .mov (.k (.bool false)), 0, 0, false, []⟩])
   (.ret))
   (.skip)))
   (.cutTo [0, 1, 2, 6] (.seq (.seg false [⟨some 12, none, .mov (.t 0), 0, 0, false, []⟩,
    ⟨some 13, none, .mov (.t 1), 0, 0, false, []⟩,
    ⟨some 14, none, .mov (.t 2), 0, 0, false, []⟩,
    ⟨some 15, none, .callx 0 16 [.t 13, .t 14], 0, 0, false, []⟩,
    ⟨some 16, none, .callx 0 60 [.t 12, .t 15], 0, 0, false, []⟩,
    ⟨some 17, none, .ext (.t 16) 0, 0, 0, false, []⟩,
    ⟨some 18, none, .ext (.t 16) 1, 0, 0, false, []⟩,
    ⟨none, none, .store 2 (.t 6) (.t 17), 0, 0, false, []⟩,
    ⟨some 7, none, .mov (.t 18), 0, 0, false, []⟩])
   (.cutTo [6, 7] (.ret)))))⟩
/-- loop.example/tablehouse/spec.TableAt -/
def F13 : F := ⟨28, [(true, 6, 2, true), (false, 7, 0, false)],
   .seq (.seg false [⟨some 6, none, .alloc [.sl true 2 [], .sl true 1 []], 0, 0, false, []⟩,
    ⟨some 7, none, .mov (.k (.bool false)), 0, 0, false, []⟩])
   (.seq (.seg false [⟨some 9, none, .mksl true 2 [], 0, 0, false, []⟩,
    ⟨some 10, none, .mov (.t 0), 0, 0, false, []⟩,
    ⟨some 11, none, .app 2 (.t 9) (.t 10), 0, 0, false, []⟩,
    ⟨some 12, none, .mov (.t 1), 0, 0, false, []⟩,
    ⟨some 13, none, .mov (.t 2), 0, 0, false, []⟩,
    ⟨some 14, none, .call 61 [.t 12, .t 13] false false, 0, 0, false, []⟩,
    ⟨some 15, none, .build [.sl true 2 [], .sl true 1 []] [(0, 1, .t 11), (1, 1, .t 14)], 0, 0, false, []⟩,
    ⟨some 8, none, .alloc [.sl true 2 [], .sl true 1 []], 0, 0, false, []⟩,
    ⟨none, none, .store 2 (.t 8) (.t 15), 0, 0, false, []⟩])
   (.cutTo [0, 1, 6, 8] (.seq (.seq (.seg false [⟨some 16, none, .mov (.t 1), 0, 0, false, []⟩,
    ⟨some 17, none, .call 62 [.t 16] false false, 0, 0, false, []⟩,
    ⟨some 18, none, .un .not (.t 17), 0, 0, false, []⟩,
    ⟨some 19, none, .mov (.t 18), 0, 0, false, []⟩,
    ⟨some 20, some (19, false), .mov (.t 0), 0, 0, false, []⟩,
    ⟨some 21, some (19, false), .faddr 1 1 (.t 8), 0, 0, false, []⟩,
    ⟨some 22, some (19, false), .load false 1 (.t 21), 0, 0, false, []⟩,
    ⟨some 23, some (19, false), .call 63 [.t 20, .t 22] false false, 0, 0, false, []⟩,
    ⟨some 24, some (19, false), .un .not (.t 23), 0, 0, false, []⟩,
    ⟨some 25, none, .pick (.t 19) (.k (.bool true)) (.t 24), 0, 0, false, []⟩])
   (.cutTo [6, 8, 25] (.cond (.t 25) (.seq (.seg false [⟨some 26, none, .build [.sl true 2 [], .sl true 1 []] [], 0, 0, false, []⟩,
    ⟨none, none, .store 2 (.t 6) (.t 26), 0, 0, false, []⟩,
    ⟨some 7, none, .mov (.k (.bool false)), 0, 0, false, []⟩])
   (.ret))
   (.skip))))
   (.cutTo [6, 8] (.seq (.seg false [⟨some 27, none, .load true 2 (.t 8), 0, 0, false, []⟩,
    ⟨none, none, .store 2 (.t 6) (.t 27), 0, 0, false, []⟩,
    ⟨some 7, none, .mov (.k (.bool true)), 0, 0, false, []⟩])
   (.ret))))))⟩
/-- loop.example/tablehouse/laws.sameTable -/
def F14 : F := ⟨10, [(false, 4, 0, false)],
   .seq (.seg false [⟨some 2, none, .box (.t 0), 0, 0, false, []⟩,
    ⟨some 3, none, .box (.t 1), 0, 0, false, []⟩,
    ⟨some 4, none, .mov (.k (.bool false)), 0, 0, false, []⟩])
   (.seq (.seg false [⟨some 5, none, .load true 2 (.t 2), 0, 0, false, []⟩,
    ⟨some 6, none, .mksl false 2 [.t 5], 0, 0, false, []⟩,
    ⟨some 7, none, .load true 2 (.t 3), 0, 0, false, []⟩,
    ⟨some 8, none, .mksl false 2 [.t 7], 0, 0, false, []⟩,
    ⟨some 9, none, .call 64 [.t 6, .t 8] false false, 0, 0, false, []⟩,
    ⟨some 4, none, .mov (.t 9), 0, 0, false, []⟩])
   (.cutTo [4] (.ret)))⟩
def B16x0 : C := .seq (.seg false [⟨some 13, none, .bin .lss (.t 12) (.k (.int .i64 5)), 0, 0, false, []⟩])
   (.seq (.cond (.t 13) (.skip)
   (.exit 0))
   (.seq (.block 1 (.seq (.seg false [⟨some 14, none, .mov (.t 12), 0, 0, false, []⟩,
    ⟨some 6, none, .mov (.t 14), 0, 0, false, []⟩])
   (.seq (.seg false [⟨some 16, none, .mov (.t 0), 0, 0, false, []⟩,
    ⟨some 17, none, .mov (.t 6), 0, 0, false, []⟩,
    ⟨some 18, none, .mov (.t 1), 0, 0, false, []⟩,
    ⟨some 19, none, .call 66 [.t 16, .t 17, .t 18] false false, 0, 0, false, []⟩,
    ⟨some 15, none, .mov (.t 19), 0, 0, false, []⟩,
    ⟨some 20, none, .ext (.t 15) 0, 0, 0, false, []⟩,
    ⟨some 21, none, .ext (.t 15) 1, 0, 0, false, []⟩,
    ⟨some 7, none, .alloc [.int .i64 0, .int .i64 0, .int .i64 0, .sl true 3 []], 0, 0, false, []⟩,
    ⟨none, none, .store 4 (.t 7) (.t 20), 0, 0, false, []⟩,
    ⟨some 8, none, .mov (.t 21), 0, 0, false, []⟩])
   (.cutTo [0, 1, 5, 7, 8, 12] (.seq (.seg false [⟨some 22, none, .mov (.t 8), 0, 0, false, []⟩])
   (.cond (.t 22) (.seg false [⟨some 23, none, .mov (.t 5), 0, 0, false, []⟩,
    ⟨some 24, none, .faddr 3 1 (.t 7), 0, 0, false, []⟩,
    ⟨some 25, none, .load false 1 (.t 24), 0, 0, false, []⟩,
    ⟨some 26, none, .mksl false 1 [.t 25], 0, 0, false, []⟩,
    ⟨some 27, none, .app 1 (.t 23) (.t 26), 0, 0, false, []⟩,
    ⟨some 5, none, .mov (.t 27), 0, 0, false, []⟩])
   (.skip)))))))
   (.cutTo [0, 1, 5, 12] (.seg false [⟨some 28, none, .bin .add (.t 12) (.k (.int .i64 1)), 0, 0, false, []⟩,
    ⟨some 12, none, .mov (.t 28), 0, 0, false, []⟩]))))
def L16x0 : C := B16x0
theorem evL16x0 (run : Run) (draw : List I → Env → Heap → Option (Env × Heap)) (e : Env) (h : Heap) : evC run draw L16x0 e h = evC run draw B16x0 e h := rfl
/-- loop.example/tablehouse/impl.RowsAt -/
def F16 : F := ⟨31, [(false, 4, 0, false)],
   .seq (.seg false [⟨some 4, none, .mov (.k (.sl true 1 [])), 0, 0, false, []⟩])
   (.seq (.seq (.seg false [⟨some 9, none, .mov (.t 0), 0, 0, false, []⟩,
    ⟨some 10, none, .call 23 [.t 9] false false, 0, 0, false, []⟩,
    ⟨some 11, none, .un .not (.t 10), 0, 0, false, []⟩])
   (.cond (.t 11) (.seq (.seg false [⟨some 4, none, .mov (.k (.sl true 1 [])), 0, 0, false, []⟩])
   (.ret))
   (.skip)))
   (.cutTo [0, 1] (.seq (.seg false [⟨some 5, none, .nilrow 1, 0, 0, false, []⟩])
   (.seq (.seq (.seg false [⟨some 12, none, .mov (.k (.int .i64 0)), 0, 0, false, []⟩])
   (.block 0 (.loop [0, 1, 5, 12] [5] L16x0)))
   (.seq (.seg false [⟨some 29, none, .mov (.t 5), 0, 0, false, []⟩,
    ⟨some 30, none, .callx 0 67 [.t 29], 0, 0, false, []⟩,
    ⟨some 4, none, .mov (.t 30), 0, 0, false, []⟩])
   (.ret))))))⟩
def E15x0 : List I := [⟨some 17, none, .mov (.t 0), 0, 0, false, []⟩,
    ⟨some 18, none, .mov (.t 5), 0, 0, false, []⟩,
    ⟨some 19, none, .iaddr 1 (.t 17) (.t 18), 0, 0, false, []⟩,
    ⟨some 20, none, .load false 1 (.t 19), 0, 0, false, []⟩,
    ⟨some 21, none, .mov (.t 1), 0, 0, false, []⟩,
    ⟨some 22, none, .mov (.t 5), 0, 0, false, []⟩,
    ⟨some 23, none, .iaddr 1 (.t 21) (.t 22), 0, 0, false, []⟩,
    ⟨some 24, none, .load false 1 (.t 23), 0, 0, false, []⟩,
    ⟨some 25, none, .call 65 [.t 20, .t 24] false false, 0, 0, false, []⟩,
    ⟨some 26, none, .un .not (.t 25), 0, 0, false, []⟩]
def D15x0 : List I := E15x0
theorem evD15x0 (run : Run) (e : Env) (h : Heap) : drawI run D15x0 e h = DrawS (evQ run E15x0 e h) run E15x0 e h := drawI_quiet run _ (by rfl) e h
def B15x0 : C := .seq (.seq (.seg false [⟨some 11, none, .mov (.t 5), 0, 0, false, []⟩,
    ⟨some 12, none, .mov (.t 0), 0, 0, false, []⟩,
    ⟨some 13, none, .len false (.t 12), 0, 0, false, []⟩,
    ⟨some 14, none, .bin .lss (.t 11) (.t 13), 0, 0, false, []⟩])
   (.cutTo [0, 1, 5, 14] (.cond (.t 14) (.skip)
   (.exit 0))))
   (.cutTo [0, 1, 5] (.seq (.block 1 (.seq (.seg true D15x0)
   (.cutTo [0, 1, 5, 26] (.cond (.t 26) (.seq (.seg false [⟨some 4, none, .mov (.k (.bool false)), 0, 0, false, []⟩])
   (.ret))
   (.skip)))))
   (.cutTo [0, 1, 5] (.seg false [⟨some 15, none, .mov (.t 5), 0, 0, false, []⟩,
    ⟨some 16, none, .bin .add (.t 15) (.k (.int .i64 1)), 0, 0, false, []⟩,
    ⟨some 5, none, .mov (.t 16), 0, 0, false, []⟩]))))
def L15x0 : C := B15x0
theorem evL15x0 (run : Run) (draw : List I → Env → Heap → Option (Env × Heap)) (e : Env) (h : Heap) : evC run draw L15x0 e h = evC run draw B15x0 e h := rfl
/-- loop.example/tablehouse/laws.sameRows -/
def F15 : F := ⟨27, [(false, 4, 0, false)],
   .seq (.seg false [⟨some 4, none, .mov (.k (.bool false)), 0, 0, false, []⟩])
   (.seq (.seq (.seg false [⟨some 6, none, .mov (.t 0), 0, 0, false, []⟩,
    ⟨some 7, none, .len false (.t 6), 0, 0, false, []⟩,
    ⟨some 8, none, .mov (.t 1), 0, 0, false, []⟩,
    ⟨some 9, none, .len false (.t 8), 0, 0, false, []⟩,
    ⟨some 10, none, .bin .neq (.t 7) (.t 9), 0, 0, false, []⟩])
   (.cutTo [0, 1, 10] (.cond (.t 10) (.seq (.seg false [⟨some 4, none, .mov (.k (.bool false)), 0, 0, false, []⟩])
   (.ret))
   (.skip))))
   (.cutTo [0, 1] (.seq (.seq (.seg false [⟨some 5, none, .mov (.k (.int .i64 0)), 0, 0, false, []⟩])
   (.block 0 (.loop [0, 1, 5] [4] L15x0)))
   (.seq (.seg false [⟨some 4, none, .mov (.k (.bool true)), 0, 0, false, []⟩])
   (.ret)))))⟩
/-- loop.example/tablehouse/impl.TablesOk -/
def F17 : F := ⟨11, [(false, 2, 0, false)],
   .seq (.seg false [⟨some 2, none, .mov (.k (.bool false)), 0, 0, false, []⟩])
   (.seq (.seg false [⟨some 3, none, .mov (.t 0), 0, 0, false, []⟩,
    ⟨some 4, none, .len false (.t 3), 0, 0, false, []⟩,
    ⟨some 5, none, .bin .leq (.t 4) (.k (.int .i64 3)), 0, 0, false, []⟩,
    ⟨some 6, none, .mov (.t 5), 0, 0, false, []⟩,
    ⟨some 7, some (6, true), .mov (.t 0), 0, 0, false, []⟩,
    ⟨some 8, some (6, true), .call 68 [.t 7, .k (.clo 69 [])] true false, 0, 0, false, []⟩,
    ⟨some 9, some (6, true), .un .not (.t 8), 0, 0, false, []⟩,
    ⟨some 10, none, .pick (.t 6) (.t 9) (.k (.bool false)), 0, 0, false, []⟩,
    ⟨some 2, none, .mov (.t 10), 0, 0, false, []⟩])
   (.cutTo [2] (.ret)))⟩
/-- loop.example/tablehouse/laws.alive -/
def F18 : F := ⟨8, [(false, 0, 0, false)],
   .seq (.seg false [⟨some 0, none, .mov (.k (.bool false)), 0, 0, false, []⟩])
   (.seq (.seg false [⟨some 1, none, .build [.int .i64 0, .int .i64 0, .str ⟨#[]⟩] [(0, 1, .k (.int .i64 1)), (1, 1, .k (.int .i64 3))], 0, 0, false, []⟩,
    ⟨some 2, none, .call 72 [.t 1] false false, 0, 0, false, []⟩,
    ⟨some 3, none, .mov (.t 2), 0, 0, false, []⟩,
    ⟨some 4, some (3, true), .build [.int .i64 0, .int .i64 0, .str ⟨#[]⟩] [(0, 1, .k (.int .i64 9))], 0, 0, false, []⟩,
    ⟨some 5, some (3, true), .call 72 [.t 4] false false, 0, 0, false, []⟩,
    ⟨some 6, some (3, true), .un .not (.t 5), 0, 0, false, []⟩,
    ⟨some 7, none, .pick (.t 3) (.t 6) (.k (.bool false)), 0, 0, false, []⟩,
    ⟨some 0, none, .mov (.t 7), 0, 0, false, []⟩])
   (.cutTo [0] (.ret)))⟩
/-- loop.example/tablehouse/spec.DrawSweptAt -/
def F19 : F := ⟨19, [(false, 2, 0, false), (false, 3, 0, false)],
   .seq (.seg false [⟨some 2, none, .mov (.k (.sl true 4 [])), 0, 0, false, []⟩,
    ⟨some 3, none, .mov (.k (.int .i64 0)), 0, 0, false, []⟩])
   (.seq (.seg false [⟨some 7, none, .mov (.t 0), 0, 0, false, []⟩,
    ⟨some 8, none, .call 55 [.t 7] true true, 0, 0, false, []⟩,
    ⟨some 4, none, .mov (.t 8), 0, 0, false, []⟩])
   (.seq (.seg false [⟨some 10, none, .mov (.t 4), 0, 0, false, []⟩,
    ⟨some 11, none, .call 59 [.t 10, .k (.int .i64 15)] true false, 0, 0, false, []⟩,
    ⟨some 9, none, .mov (.t 11), 0, 0, false, []⟩,
    ⟨some 12, none, .ext (.t 9) 0, 0, 0, false, []⟩,
    ⟨some 13, none, .ext (.t 9) 1, 0, 0, false, []⟩,
    ⟨some 5, none, .mov (.t 12), 0, 0, false, []⟩,
    ⟨some 6, none, .mov (.t 13), 0, 0, false, []⟩])
   (.cutTo [4, 5, 6] (.seq (.seg false [⟨some 14, none, .mov (.t 5), 0, 0, false, []⟩,
    ⟨some 15, none, .mov (.t 4), 0, 0, false, []⟩,
    ⟨some 16, none, .mov (.t 6), 0, 0, false, []⟩,
    ⟨some 17, none, .bin .add (.t 16) (.k (.int .i64 3)), 0, 0, false, []⟩,
    ⟨some 18, none, .call 57 [.t 15, .t 17] true false, 0, 0, false, []⟩,
    ⟨some 2, none, .mov (.t 14), 0, 0, false, []⟩,
    ⟨some 3, none, .mov (.t 18), 0, 0, false, []⟩])
   (.cutTo [2, 3] (.ret))))))⟩
/-- loop.example/tablehouse/impl.SweptAt -/
def F20 : F := ⟨13, [(false, 4, 0, false)],
   .seq (.seg false [⟨some 3, none, .box (.t 1), 0, 0, false, []⟩,
    ⟨some 4, none, .mov (.k (.sl true 4 [])), 0, 0, false, []⟩])
   (.seq (.seq (.seg false [⟨some 5, none, .mov (.t 0), 0, 0, false, []⟩,
    ⟨some 6, none, .call 23 [.t 5] false false, 0, 0, false, []⟩,
    ⟨some 7, none, .un .not (.t 6), 0, 0, false, []⟩])
   (.cond (.t 7) (.seq (.seg false [⟨some 4, none, .mov (.k (.sl true 4 [])), 0, 0, false, []⟩])
   (.ret))
   (.skip)))
   (.cutTo [0, 3] (.seq (.seg false [⟨some 8, none, .mov (.t 0), 0, 0, false, []⟩,
    ⟨some 9, none, .call 75 [.t 8] false true, 0, 0, false, []⟩,
    ⟨some 10, none, .mkclo 76 [.t 3], 0, 0, false, []⟩,
    ⟨some 11, none, .call 74 [.t 9, .t 10] true false, 0, 0, false, []⟩,
    ⟨some 12, none, .callx 0 73 [.t 11], 0, 0, false, []⟩,
    ⟨some 4, none, .mov (.t 12), 0, 0, false, []⟩])
   (.cutTo [4] (.ret)))))⟩
def B22x0 : C := .seq (.seq (.seg false [⟨some 9, none, .mov (.t 6), 0, 0, false, []⟩,
    ⟨some 10, none, .mov (.t 0), 0, 0, false, []⟩,
    ⟨some 11, none, .len false (.t 10), 0, 0, false, []⟩,
    ⟨some 12, none, .bin .lss (.t 9) (.t 11), 0, 0, false, []⟩,
    ⟨some 13, none, .mov (.t 12), 0, 0, false, []⟩,
    ⟨some 14, some (13, true), .mov (.t 0), 0, 0, false, []⟩,
    ⟨some 15, some (13, true), .call 62 [.t 14] false false, 0, 0, false, []⟩,
    ⟨some 16, none, .pick (.t 13) (.t 15) (.k (.bool false)), 0, 0, false, []⟩])
   (.cutTo [0, 1, 5, 6, 16] (.cond (.t 16) (.skip)
   (.exit 0))))
   (.cutTo [0, 1, 5, 6] (.seq (.block 1 (.seq (.seg false [⟨some 19, none, .mov (.t 0), 0, 0, false, []⟩,
    ⟨some 20, none, .mov (.t 6), 0, 0, false, []⟩,
    ⟨some 21, none, .iaddr 4 (.t 19) (.t 20), 0, 0, false, []⟩,
    ⟨some 22, none, .faddr 2 1 (.t 21), 0, 0, false, []⟩,
    ⟨some 23, none, .load false 1 (.t 22), 0, 0, false, []⟩,
    ⟨some 24, none, .bin .eql (.t 23) (.k (.int .i64 0)), 0, 0, false, []⟩,
    ⟨some 25, none, .mov (.t 24), 0, 0, false, []⟩,
    ⟨some 26, some (25, false), .mov (.t 0), 0, 0, false, []⟩,
    ⟨some 27, some (25, false), .mov (.t 6), 0, 0, false, []⟩,
    ⟨some 28, some (25, false), .iaddr 4 (.t 26) (.t 27), 0, 0, false, []⟩,
    ⟨some 29, some (25, false), .faddr 2 1 (.t 28), 0, 0, false, []⟩,
    ⟨some 30, some (25, false), .load false 1 (.t 29), 0, 0, false, []⟩,
    ⟨some 31, some (25, false), .mov (.t 1), 0, 0, false, []⟩,
    ⟨some 32, some (25, false), .bin .gtr (.t 30) (.t 31), 0, 0, false, []⟩,
    ⟨some 33, none, .pick (.t 25) (.k (.bool true)) (.t 32), 0, 0, false, []⟩])
   (.cutTo [0, 1, 5, 6, 33] (.cond (.t 33) (.seq (.seg false [⟨some 34, none, .mov (.t 0), 0, 0, false, []⟩,
    ⟨some 35, none, .mov (.t 6), 0, 0, false, []⟩,
    ⟨some 36, none, .iaddr 4 (.t 34) (.t 35), 0, 0, false, []⟩,
    ⟨some 37, none, .load true 4 (.t 36), 0, 0, false, []⟩,
    ⟨some 7, none, .alloc [.int .i64 0, .int .i64 0, .int .i64 0, .sl true 3 []], 0, 0, false, []⟩,
    ⟨none, none, .store 4 (.t 7) (.t 37), 0, 0, false, []⟩])
   (.cutTo [0, 1, 5, 6, 7] (.seq (.seg false [⟨some 38, none, .faddr 3 1 (.t 7), 0, 0, false, []⟩,
    ⟨some 39, none, .load false 1 (.t 38), 0, 0, false, []⟩,
    ⟨some 40, none, .call 77 [.t 39] false false, 0, 0, false, []⟩,
    ⟨some 41, none, .faddr 3 1 (.t 7), 0, 0, false, []⟩,
    ⟨none, none, .store 1 (.t 41) (.t 40), 0, 0, false, []⟩])
   (.cutTo [0, 1, 5, 6, 7] (.seg false [⟨some 42, none, .mov (.t 5), 0, 0, false, []⟩,
    ⟨some 43, none, .load true 4 (.t 7), 0, 0, false, []⟩,
    ⟨some 44, none, .mksl false 4 [.t 43], 0, 0, false, []⟩,
    ⟨some 45, none, .app 4 (.t 42) (.t 44), 0, 0, false, []⟩,
    ⟨some 5, none, .mov (.t 45), 0, 0, false, []⟩])))))
   (.skip)))))
   (.cutTo [0, 1, 5, 6] (.seg false [⟨some 17, none, .mov (.t 6), 0, 0, false, []⟩,
    ⟨some 18, none, .bin .add (.t 17) (.k (.int .i64 1)), 0, 0, false, []⟩,
    ⟨some 6, none, .mov (.t 18), 0, 0, false, []⟩]))))
def L22x0 : C := B22x0
theorem evL22x0 (run : Run) (draw : List I → Env → Heap → Option (Env × Heap)) (e : Env) (h : Heap) : evC run draw L22x0 e h = evC run draw B22x0 e h := rfl
/-- loop.example/tablehouse/spec.SweptAt -/
def F22 : F := ⟨47, [(false, 4, 0, false)],
   .seq (.seg false [⟨some 4, none, .nilrow 4, 0, 0, false, []⟩])
   (.seq (.seg false [⟨some 8, none, .mksl true 4 [], 0, 0, false, []⟩,
    ⟨some 5, none, .mov (.t 8), 0, 0, false, []⟩])
   (.seq (.seq (.seg false [⟨some 6, none, .mov (.k (.int .i64 0)), 0, 0, false, []⟩])
   (.block 0 (.loop [0, 1, 5, 6] [5] L22x0)))
   (.seq (.seg false [⟨some 46, none, .mov (.t 5), 0, 0, false, []⟩,
    ⟨some 4, none, .mov (.t 46), 0, 0, false, []⟩])
   (.ret))))⟩
def E21x0 : List I := [⟨some 17, none, .mov (.t 0), 0, 0, false, []⟩,
    ⟨some 18, none, .mov (.t 5), 0, 0, false, []⟩,
    ⟨some 19, none, .iaddr 4 (.t 17) (.t 18), 0, 0, false, []⟩,
    ⟨some 20, none, .faddr 0 1 (.t 19), 0, 0, false, []⟩,
    ⟨some 21, none, .load false 1 (.t 20), 0, 0, false, []⟩,
    ⟨some 22, none, .mov (.t 1), 0, 0, false, []⟩,
    ⟨some 23, none, .mov (.t 5), 0, 0, false, []⟩,
    ⟨some 24, none, .iaddr 4 (.t 22) (.t 23), 0, 0, false, []⟩,
    ⟨some 25, none, .faddr 0 1 (.t 24), 0, 0, false, []⟩,
    ⟨some 26, none, .load false 1 (.t 25), 0, 0, false, []⟩,
    ⟨some 27, none, .bin .neq (.t 21) (.t 26), 0, 0, false, []⟩,
    ⟨some 28, none, .mov (.t 27), 0, 0, false, []⟩,
    ⟨some 29, some (28, false), .mov (.t 0), 0, 0, false, []⟩,
    ⟨some 30, some (28, false), .mov (.t 5), 0, 0, false, []⟩,
    ⟨some 31, some (28, false), .iaddr 4 (.t 29) (.t 30), 0, 0, false, []⟩,
    ⟨some 32, some (28, false), .faddr 1 1 (.t 31), 0, 0, false, []⟩,
    ⟨some 33, some (28, false), .load false 1 (.t 32), 0, 0, false, []⟩,
    ⟨some 34, some (28, false), .mov (.t 1), 0, 0, false, []⟩,
    ⟨some 35, some (28, false), .mov (.t 5), 0, 0, false, []⟩,
    ⟨some 36, some (28, false), .iaddr 4 (.t 34) (.t 35), 0, 0, false, []⟩,
    ⟨some 37, some (28, false), .faddr 1 1 (.t 36), 0, 0, false, []⟩,
    ⟨some 38, some (28, false), .load false 1 (.t 37), 0, 0, false, []⟩,
    ⟨some 39, some (28, false), .bin .neq (.t 33) (.t 38), 0, 0, false, []⟩,
    ⟨some 40, none, .pick (.t 28) (.k (.bool true)) (.t 39), 0, 0, false, []⟩,
    ⟨some 41, none, .mov (.t 40), 0, 0, false, []⟩,
    ⟨some 42, some (41, false), .mov (.t 0), 0, 0, false, []⟩,
    ⟨some 43, some (41, false), .mov (.t 5), 0, 0, false, []⟩,
    ⟨some 44, some (41, false), .iaddr 4 (.t 42) (.t 43), 0, 0, false, []⟩,
    ⟨some 45, some (41, false), .faddr 2 1 (.t 44), 0, 0, false, []⟩,
    ⟨some 46, some (41, false), .load false 1 (.t 45), 0, 0, false, []⟩,
    ⟨some 47, some (41, false), .mov (.t 1), 0, 0, false, []⟩,
    ⟨some 48, some (41, false), .mov (.t 5), 0, 0, false, []⟩,
    ⟨some 49, some (41, false), .iaddr 4 (.t 47) (.t 48), 0, 0, false, []⟩,
    ⟨some 50, some (41, false), .faddr 2 1 (.t 49), 0, 0, false, []⟩,
    ⟨some 51, some (41, false), .load false 1 (.t 50), 0, 0, false, []⟩,
    ⟨some 52, some (41, false), .bin .neq (.t 46) (.t 51), 0, 0, false, []⟩,
    ⟨some 53, none, .pick (.t 41) (.k (.bool true)) (.t 52), 0, 0, false, []⟩,
    ⟨some 54, none, .mov (.t 53), 0, 0, false, []⟩,
    ⟨some 55, some (54, false), .mov (.t 0), 0, 0, false, []⟩,
    ⟨some 56, some (54, false), .mov (.t 5), 0, 0, false, []⟩,
    ⟨some 57, some (54, false), .iaddr 4 (.t 55) (.t 56), 0, 0, false, []⟩,
    ⟨some 58, some (54, false), .faddr 3 1 (.t 57), 0, 0, false, []⟩,
    ⟨some 59, some (54, false), .load false 1 (.t 58), 0, 0, false, []⟩,
    ⟨some 60, some (54, false), .mov (.t 1), 0, 0, false, []⟩,
    ⟨some 61, some (54, false), .mov (.t 5), 0, 0, false, []⟩,
    ⟨some 62, some (54, false), .iaddr 4 (.t 60) (.t 61), 0, 0, false, []⟩,
    ⟨some 63, some (54, false), .faddr 3 1 (.t 62), 0, 0, false, []⟩,
    ⟨some 64, some (54, false), .load false 1 (.t 63), 0, 0, false, []⟩,
    ⟨some 65, some (54, false), .call 65 [.t 59, .t 64] false false, 0, 0, false, []⟩,
    ⟨some 66, some (54, false), .un .not (.t 65), 0, 0, false, []⟩,
    ⟨some 67, none, .pick (.t 54) (.k (.bool true)) (.t 66), 0, 0, false, []⟩]
def D21x0 : List I := E21x0
theorem evD21x0 (run : Run) (e : Env) (h : Heap) : drawI run D21x0 e h = DrawS (evQ run E21x0 e h) run E21x0 e h := drawI_quiet run _ (by rfl) e h
def B21x0 : C := .seq (.seq (.seg false [⟨some 11, none, .mov (.t 5), 0, 0, false, []⟩,
    ⟨some 12, none, .mov (.t 0), 0, 0, false, []⟩,
    ⟨some 13, none, .len false (.t 12), 0, 0, false, []⟩,
    ⟨some 14, none, .bin .lss (.t 11) (.t 13), 0, 0, false, []⟩])
   (.cutTo [0, 1, 5, 14] (.cond (.t 14) (.skip)
   (.exit 0))))
   (.cutTo [0, 1, 5] (.seq (.block 1 (.seq (.seg true D21x0)
   (.cutTo [0, 1, 5, 67] (.cond (.t 67) (.seq (.seg false [⟨some 4, none, .mov (.k (.bool false)), 0, 0, false, []⟩])
   (.ret))
   (.skip)))))
   (.cutTo [0, 1, 5] (.seg false [⟨some 15, none, .mov (.t 5), 0, 0, false, []⟩,
    ⟨some 16, none, .bin .add (.t 15) (.k (.int .i64 1)), 0, 0, false, []⟩,
    ⟨some 5, none, .mov (.t 16), 0, 0, false, []⟩]))))
def L21x0 : C := B21x0
theorem evL21x0 (run : Run) (draw : List I → Env → Heap → Option (Env × Heap)) (e : Env) (h : Heap) : evC run draw L21x0 e h = evC run draw B21x0 e h := rfl
/-- loop.example/tablehouse/laws.sameVersions -/
def F21 : F := ⟨68, [(false, 4, 0, false)],
   .seq (.seg false [⟨some 4, none, .mov (.k (.bool false)), 0, 0, false, []⟩])
   (.seq (.seq (.seg false [⟨some 6, none, .mov (.t 0), 0, 0, false, []⟩,
    ⟨some 7, none, .len false (.t 6), 0, 0, false, []⟩,
    ⟨some 8, none, .mov (.t 1), 0, 0, false, []⟩,
    ⟨some 9, none, .len false (.t 8), 0, 0, false, []⟩,
    ⟨some 10, none, .bin .neq (.t 7) (.t 9), 0, 0, false, []⟩])
   (.cutTo [0, 1, 10] (.cond (.t 10) (.seq (.seg false [⟨some 4, none, .mov (.k (.bool false)), 0, 0, false, []⟩])
   (.ret))
   (.skip))))
   (.cutTo [0, 1] (.seq (.seq (.seg false [⟨some 5, none, .mov (.k (.int .i64 0)), 0, 0, false, []⟩])
   (.block 0 (.loop [0, 1, 5] [4] L21x0)))
   (.seq (.seg false [⟨some 4, none, .mov (.k (.bool true)), 0, 0, false, []⟩])
   (.ret)))))⟩
def B23x0 : C := .seq (.seg false [⟨some 9, none, .bin .lss (.t 8) (.t 7), 0, 0, false, []⟩])
   (.seq (.cond (.t 9) (.skip)
   (.exit 0))
   (.seq (.block 1 (.seq (.seg false [⟨some 10, none, .mov (.t 8), 0, 0, false, []⟩,
    ⟨some 11, none, .iaddr 4 (.t 6) (.t 8), 0, 0, false, []⟩,
    ⟨some 12, none, .load true 4 (.t 11), 0, 0, false, []⟩,
    ⟨some 4, none, .alloc [.int .i64 0, .int .i64 0, .int .i64 0, .sl true 3 []], 0, 0, false, []⟩,
    ⟨some 3, none, .mov (.t 10), 0, 0, false, []⟩,
    ⟨none, none, .store 4 (.t 4) (.t 12), 0, 0, false, []⟩])
   (.cutTo [0, 3, 4, 6, 7, 8] (.seq (.seq (.seg false [⟨some 13, none, .faddr 0 1 (.t 4), 0, 0, false, []⟩,
    ⟨some 14, none, .load false 1 (.t 13), 0, 0, false, []⟩,
    ⟨some 15, none, .call 78 [.t 14] false false, 0, 0, false, []⟩,
    ⟨some 16, none, .un .not (.t 15), 0, 0, false, []⟩,
    ⟨some 17, none, .mov (.t 16), 0, 0, false, []⟩,
    ⟨some 18, some (17, false), .faddr 1 1 (.t 4), 0, 0, false, []⟩,
    ⟨some 19, some (17, false), .load false 1 (.t 18), 0, 0, false, []⟩,
    ⟨some 20, some (17, false), .call 79 [.t 19, .k (.int .i64 1), .k (.int .i64 40)] false false, 0, 0, false, []⟩,
    ⟨some 21, some (17, false), .un .not (.t 20), 0, 0, false, []⟩,
    ⟨some 22, none, .pick (.t 17) (.k (.bool true)) (.t 21), 0, 0, false, []⟩,
    ⟨some 23, none, .mov (.t 22), 0, 0, false, []⟩,
    ⟨some 24, some (23, false), .faddr 2 1 (.t 4), 0, 0, false, []⟩,
    ⟨some 25, some (23, false), .load false 1 (.t 24), 0, 0, false, []⟩,
    ⟨some 26, some (23, false), .bin .neq (.t 25) (.k (.int .i64 0)), 0, 0, false, []⟩,
    ⟨some 27, some (23, false), .mov (.t 26), 0, 0, false, []⟩,
    ⟨some 28, some (27, true), .faddr 2 1 (.t 4), 0, 0, false, []⟩,
    ⟨some 29, some (27, true), .load false 1 (.t 28), 0, 0, false, []⟩,
    ⟨some 30, some (27, true), .faddr 1 1 (.t 4), 0, 0, false, []⟩,
    ⟨some 31, some (27, true), .load false 1 (.t 30), 0, 0, false, []⟩,
    ⟨some 32, some (27, true), .bin .add (.t 31) (.k (.int .i64 1)), 0, 0, false, []⟩,
    ⟨some 33, some (27, true), .call 79 [.t 29, .t 32, .k (.int .i64 40)] false false, 0, 0, false, []⟩,
    ⟨some 34, some (27, true), .un .not (.t 33), 0, 0, false, []⟩,
    ⟨some 35, some (23, false), .pick (.t 27) (.t 34) (.k (.bool false)), 0, 0, false, []⟩,
    ⟨some 36, none, .pick (.t 23) (.k (.bool true)) (.t 35), 0, 0, false, []⟩,
    ⟨some 37, none, .mov (.t 36), 0, 0, false, []⟩,
    ⟨some 38, some (37, false), .faddr 3 1 (.t 4), 0, 0, false, []⟩,
    ⟨some 39, some (37, false), .load false 1 (.t 38), 0, 0, false, []⟩,
    ⟨some 40, some (37, false), .call 80 [.t 39] false false, 0, 0, false, []⟩,
    ⟨some 41, some (37, false), .un .not (.t 40), 0, 0, false, []⟩,
    ⟨some 42, none, .pick (.t 37) (.k (.bool true)) (.t 41), 0, 0, false, []⟩])
   (.cutTo [0, 3, 4, 6, 7, 8, 42] (.cond (.t 42) (.seq (.seg false [⟨some 2, none, .mov (.k (.bool false)), 0, 0, false, []⟩])
   (.ret))
   (.skip))))
   (.cutTo [0, 3, 4, 6, 7, 8] (.seq (.seq (.seg false [⟨some 43, none, .mov (.t 3), 0, 0, false, []⟩,
    ⟨some 44, none, .bin .eql (.t 43) (.k (.int .i64 0)), 0, 0, false, []⟩])
   (.cond (.t 44) (.exit 1)
   (.skip)))
   (.seq (.seg false [⟨some 45, none, .mov (.t 0), 0, 0, false, []⟩,
    ⟨some 46, none, .mov (.t 3), 0, 0, false, []⟩,
    ⟨some 47, none, .bin .sub (.t 46) (.k (.int .i64 1)), 0, 0, false, []⟩,
    ⟨some 48, none, .iaddr 4 (.t 45) (.t 47), 0, 0, false, []⟩,
    ⟨some 49, none, .load true 4 (.t 48), 0, 0, false, []⟩,
    ⟨some 5, none, .alloc [.int .i64 0, .int .i64 0, .int .i64 0, .sl true 3 []], 0, 0, false, []⟩,
    ⟨none, none, .store 4 (.t 5) (.t 49), 0, 0, false, []⟩])
   (.cutTo [0, 4, 5, 6, 7, 8] (.seq (.seg false [⟨some 50, none, .faddr 0 1 (.t 5), 0, 0, false, []⟩,
    ⟨some 51, none, .load false 1 (.t 50), 0, 0, false, []⟩,
    ⟨some 52, none, .faddr 0 1 (.t 4), 0, 0, false, []⟩,
    ⟨some 53, none, .load false 1 (.t 52), 0, 0, false, []⟩,
    ⟨some 54, none, .bin .gtr (.t 51) (.t 53), 0, 0, false, []⟩,
    ⟨some 55, none, .mov (.t 54), 0, 0, false, []⟩,
    ⟨some 56, some (55, false), .faddr 0 1 (.t 5), 0, 0, false, []⟩,
    ⟨some 57, some (55, false), .load false 1 (.t 56), 0, 0, false, []⟩,
    ⟨some 58, some (55, false), .faddr 0 1 (.t 4), 0, 0, false, []⟩,
    ⟨some 59, some (55, false), .load false 1 (.t 58), 0, 0, false, []⟩,
    ⟨some 60, some (55, false), .bin .eql (.t 57) (.t 59), 0, 0, false, []⟩,
    ⟨some 61, some (55, false), .mov (.t 60), 0, 0, false, []⟩,
    ⟨some 62, some (61, true), .faddr 1 1 (.t 5), 0, 0, false, []⟩,
    ⟨some 63, some (61, true), .load false 1 (.t 62), 0, 0, false, []⟩,
    ⟨some 64, some (61, true), .faddr 1 1 (.t 4), 0, 0, false, []⟩,
    ⟨some 65, some (61, true), .load false 1 (.t 64), 0, 0, false, []⟩,
    ⟨some 66, some (61, true), .bin .geq (.t 63) (.t 65), 0, 0, false, []⟩,
    ⟨some 67, some (61, true), .mov (.t 66), 0, 0, false, []⟩,
    ⟨some 68, some (67, false), .faddr 2 1 (.t 5), 0, 0, false, []⟩,
    ⟨some 69, some (67, false), .load false 1 (.t 68), 0, 0, false, []⟩,
    ⟨some 70, some (67, false), .bin .eql (.t 69) (.k (.int .i64 0)), 0, 0, false, []⟩,
    ⟨some 71, some (61, true), .pick (.t 67) (.k (.bool true)) (.t 70), 0, 0, false, []⟩,
    ⟨some 72, some (61, true), .mov (.t 71), 0, 0, false, []⟩,
    ⟨some 73, some (72, false), .faddr 2 1 (.t 5), 0, 0, false, []⟩,
    ⟨some 74, some (72, false), .load false 1 (.t 73), 0, 0, false, []⟩,
    ⟨some 75, some (72, false), .faddr 1 1 (.t 4), 0, 0, false, []⟩,
    ⟨some 76, some (72, false), .load false 1 (.t 75), 0, 0, false, []⟩,
    ⟨some 77, some (72, false), .bin .gtr (.t 74) (.t 76), 0, 0, false, []⟩,
    ⟨some 78, some (61, true), .pick (.t 72) (.k (.bool true)) (.t 77), 0, 0, false, []⟩,
    ⟨some 79, some (55, false), .pick (.t 61) (.t 78) (.k (.bool false)), 0, 0, false, []⟩,
    ⟨some 80, none, .pick (.t 55) (.k (.bool true)) (.t 79), 0, 0, false, []⟩])
   (.cutTo [0, 6, 7, 8, 80] (.cond (.t 80) (.seq (.seg false [⟨some 2, none, .mov (.k (.bool false)), 0, 0, false, []⟩])
   (.ret))
   (.skip))))))))))))
   (.cutTo [0, 6, 7, 8] (.seg false [⟨some 81, none, .bin .add (.t 8) (.k (.int .i64 1)), 0, 0, false, []⟩,
    ⟨some 8, none, .mov (.t 81), 0, 0, false, []⟩]))))
def L23x0 : C := B23x0
theorem evL23x0 (run : Run) (draw : List I → Env → Heap → Option (Env × Heap)) (e : Env) (h : Heap) : evC run draw L23x0 e h = evC run draw B23x0 e h := rfl
/-- loop.example/tablehouse/impl.VersionsOk -/
def F23 : F := ⟨85, [(false, 2, 0, false)],
   .seq (.seg false [⟨some 2, none, .mov (.k (.bool false)), 0, 0, false, []⟩])
   (.seq (.seq (.seg false [⟨some 6, none, .mov (.t 0), 0, 0, false, []⟩,
    ⟨some 7, none, .len false (.t 6), 0, 0, false, []⟩,
    ⟨some 8, none, .mov (.k (.int .i64 0)), 0, 0, false, []⟩])
   (.block 0 (.loop [0, 6, 7, 8] [0, 2] L23x0)))
   (.seq (.seg false [⟨some 82, none, .mov (.t 0), 0, 0, false, []⟩,
    ⟨some 83, none, .len false (.t 82), 0, 0, false, []⟩,
    ⟨some 84, none, .bin .leq (.t 83) (.k (.int .i64 60)), 0, 0, false, []⟩,
    ⟨some 2, none, .mov (.t 84), 0, 0, false, []⟩])
   (.cutTo [2] (.ret))))⟩
/-- loop.example/tablehouse/laws.sameSeen -/
def F24 : F := ⟨35, [(false, 8, 0, false)],
   .seq (.seg false [⟨some 8, none, .mov (.k (.bool false)), 0, 0, false, []⟩])
   (.seq (.seg false [⟨some 14, none, .mov (.t 0), 0, 0, false, []⟩,
    ⟨some 15, none, .mov (.t 2), 0, 0, false, []⟩,
    ⟨some 16, none, .mov (.t 3), 0, 0, false, []⟩,
    ⟨some 17, none, .call 81 [.t 14, .t 15, .t 16] false false, 0, 0, false, []⟩,
    ⟨some 13, none, .mov (.t 17), 0, 0, false, []⟩,
    ⟨some 18, none, .ext (.t 13) 0, 0, 0, false, []⟩,
    ⟨some 19, none, .ext (.t 13) 1, 0, 0, false, []⟩,
    ⟨some 9, none, .mov (.t 18), 0, 0, false, []⟩,
    ⟨some 10, none, .mov (.t 19), 0, 0, false, []⟩])
   (.cutTo [1, 2, 3, 9, 10] (.seq (.seg false [⟨some 21, none, .mov (.t 1), 0, 0, false, []⟩,
    ⟨some 22, none, .mov (.t 2), 0, 0, false, []⟩,
    ⟨some 23, none, .mov (.t 3), 0, 0, false, []⟩,
    ⟨some 24, none, .call 81 [.t 21, .t 22, .t 23] false false, 0, 0, false, []⟩,
    ⟨some 20, none, .mov (.t 24), 0, 0, false, []⟩,
    ⟨some 25, none, .ext (.t 20) 0, 0, 0, false, []⟩,
    ⟨some 26, none, .ext (.t 20) 1, 0, 0, false, []⟩,
    ⟨some 11, none, .mov (.t 25), 0, 0, false, []⟩,
    ⟨some 12, none, .mov (.t 26), 0, 0, false, []⟩])
   (.cutTo [9, 10, 11, 12] (.seq (.seg false [⟨some 27, none, .mov (.t 10), 0, 0, false, []⟩,
    ⟨some 28, none, .mov (.t 12), 0, 0, false, []⟩,
    ⟨some 29, none, .eqb false (.t 27) (.t 28), 0, 0, false, []⟩,
    ⟨some 30, none, .mov (.t 29), 0, 0, false, []⟩,
    ⟨some 31, some (30, true), .mov (.t 9), 0, 0, false, []⟩,
    ⟨some 32, some (30, true), .mov (.t 11), 0, 0, false, []⟩,
    ⟨some 33, some (30, true), .call 65 [.t 31, .t 32] false false, 0, 0, false, []⟩,
    ⟨some 34, none, .pick (.t 30) (.t 33) (.k (.bool false)), 0, 0, false, []⟩,
    ⟨some 8, none, .mov (.t 34), 0, 0, false, []⟩])
   (.cutTo [8] (.ret)))))))⟩
def B25x0 : C := .seq (.seq (.seg false [⟨some 12, none, .mov (.t 5), 0, 0, false, []⟩,
    ⟨some 13, none, .mov (.t 0), 0, 0, false, []⟩,
    ⟨some 14, none, .len false (.t 13), 0, 0, false, []⟩,
    ⟨some 15, none, .bin .lss (.t 12) (.t 14), 0, 0, false, []⟩])
   (.cutTo [0, 1, 5, 15] (.cond (.t 15) (.skip)
   (.exit 0))))
   (.cutTo [0, 1, 5] (.seq (.block 1 (.seq (.seg false [⟨some 18, none, .mov (.t 0), 0, 0, false, []⟩,
    ⟨some 19, none, .mov (.t 5), 0, 0, false, []⟩,
    ⟨some 20, none, .iaddr 4 (.t 18) (.t 19), 0, 0, false, []⟩,
    ⟨some 21, none, .load true 4 (.t 20), 0, 0, false, []⟩,
    ⟨some 22, none, .mov (.t 1), 0, 0, false, []⟩,
    ⟨some 23, none, .call 82 [.t 21, .t 22] false false, 0, 0, false, []⟩,
    ⟨some 1, none, .mov (.t 23), 0, 0, false, []⟩])
   (.cutTo [0, 1, 5] (.seq (.seg false [⟨some 24, none, .mov (.t 1), 0, 0, false, []⟩,
    ⟨some 25, none, .bin .lss (.t 24) (.k (.int .i64 0)), 0, 0, false, []⟩])
   (.cond (.t 25) (.seq (.seg false [⟨some 4, none, .mov (.k (.int .i64 (-1))), 0, 0, false, []⟩])
   (.ret))
   (.skip))))))
   (.cutTo [0, 1, 5] (.seg false [⟨some 16, none, .mov (.t 5), 0, 0, false, []⟩,
    ⟨some 17, none, .bin .add (.t 16) (.k (.int .i64 1)), 0, 0, false, []⟩,
    ⟨some 5, none, .mov (.t 17), 0, 0, false, []⟩]))))
def L25x0 : C := B25x0
theorem evL25x0 (run : Run) (draw : List I → Env → Heap → Option (Env × Heap)) (e : Env) (h : Heap) : evC run draw L25x0 e h = evC run draw B25x0 e h := rfl
/-- loop.example/tablehouse/laws.szTallyS -/
def F25 : F := ⟨27, [(false, 4, 0, false)],
   .seq (.seg false [⟨some 4, none, .mov (.k (.int .i64 0)), 0, 0, false, []⟩])
   (.seq (.seg false [⟨some 6, none, .mov (.t 1), 0, 0, false, []⟩,
    ⟨some 7, none, .mov (.t 0), 0, 0, false, []⟩,
    ⟨some 8, none, .len false (.t 7), 0, 0, false, []⟩,
    ⟨some 9, none, .bin .sub (.t 6) (.t 8), 0, 0, false, []⟩,
    ⟨some 1, none, .mov (.t 9), 0, 0, false, []⟩])
   (.cutTo [0, 1] (.seq (.seq (.seg false [⟨some 10, none, .mov (.t 1), 0, 0, false, []⟩,
    ⟨some 11, none, .bin .lss (.t 10) (.k (.int .i64 0)), 0, 0, false, []⟩])
   (.cond (.t 11) (.seq (.seg false [⟨some 4, none, .mov (.k (.int .i64 (-1))), 0, 0, false, []⟩])
   (.ret))
   (.skip)))
   (.seq (.seq (.seg false [⟨some 5, none, .mov (.k (.int .i64 0)), 0, 0, false, []⟩])
   (.block 0 (.loop [0, 1, 5] [1, 4] L25x0)))
   (.seq (.seg false [⟨some 26, none, .mov (.t 1), 0, 0, false, []⟩,
    ⟨some 4, none, .mov (.t 26), 0, 0, false, []⟩])
   (.ret))))))⟩
def B27x0 : C := .seq (.seq (.seg false [⟨some 8, none, .mov (.t 4), 0, 0, false, []⟩,
    ⟨some 9, none, .mov (.t 0), 0, 0, false, []⟩,
    ⟨some 10, none, .len false (.t 9), 0, 0, false, []⟩,
    ⟨some 11, none, .bin .lss (.t 8) (.t 10), 0, 0, false, []⟩])
   (.cutTo [0, 3, 4, 11] (.cond (.t 11) (.skip)
   (.exit 0))))
   (.cutTo [0, 3, 4] (.seq (.block 1 (.seg false [⟨some 14, none, .mov (.t 3), 0, 0, false, []⟩,
    ⟨some 15, none, .mov (.t 4), 0, 0, false, []⟩,
    ⟨some 16, none, .mov (.t 0), 0, 0, false, []⟩,
    ⟨some 17, none, .mov (.t 4), 0, 0, false, []⟩,
    ⟨some 18, none, .iaddr 4 (.t 16) (.t 17), 0, 0, false, []⟩,
    ⟨some 19, none, .load true 4 (.t 18), 0, 0, false, []⟩,
    ⟨some 20, none, .callx 0 85 [.t 19], 0, 0, false, []⟩,
    ⟨some 21, none, .iaddr 4 (.t 14) (.t 15), 0, 0, false, []⟩,
    ⟨none, none, .store 4 (.t 21) (.t 20), 0, 0, false, []⟩]))
   (.cutTo [0, 3, 4] (.seg false [⟨some 12, none, .mov (.t 4), 0, 0, false, []⟩,
    ⟨some 13, none, .bin .add (.t 12) (.k (.int .i64 1)), 0, 0, false, []⟩,
    ⟨some 4, none, .mov (.t 13), 0, 0, false, []⟩]))))
def L27x0 : C := B27x0
theorem evL27x0 (run : Run) (draw : List I → Env → Heap → Option (Env × Heap)) (e : Env) (h : Heap) : evC run draw L27x0 e h = evC run draw B27x0 e h := rfl
/-- loop.example/tablehouse/laws.toTallyS -/
def F27 : F := ⟨23, [(false, 2, 0, false)],
   .seq (.seg false [⟨some 2, none, .mov (.k (.sl true 4 [])), 0, 0, false, []⟩])
   (.seq (.seg false [⟨some 5, none, .mov (.t 0), 0, 0, false, []⟩,
    ⟨some 6, none, .len false (.t 5), 0, 0, false, []⟩,
    ⟨some 7, none, .mkn 4 [.sl true 3 [], .int .i64 0, .int .i64 0, .int .i64 0] (.t 6), 0, 0, false, []⟩,
    ⟨some 3, none, .mov (.t 7), 0, 0, false, []⟩])
   (.cutTo [0, 3] (.seq (.seq (.seg false [⟨some 4, none, .mov (.k (.int .i64 0)), 0, 0, false, []⟩])
   (.block 0 (.loopk [0, 3, 4] [3] L27x0)))
   (.seq (.seg false [⟨some 22, none, .mov (.t 3), 0, 0, false, []⟩,
    ⟨some 2, none, .mov (.t 22), 0, 0, false, []⟩])
   (.ret)))))⟩
def E26x0 : List I := [⟨some 34, none, .mov (.t 3), 0, 0, false, [3]⟩,
    ⟨some 35, none, .faddr 0 1 (.t 5), 0, 0, false, []⟩,
    ⟨some 36, none, .load false 1 (.t 35), 0, 0, false, []⟩,
    ⟨some 37, none, .iaddr 3 (.t 36) (.k (.int .i64 0)), 0, 0, false, []⟩,
    ⟨some 38, none, .load true 3 (.t 37), 0, 0, false, []⟩,
    ⟨some 39, none, .faddr 1 1 (.t 5), 0, 0, false, []⟩,
    ⟨some 40, none, .load false 1 (.t 39), 0, 0, false, []⟩,
    ⟨some 41, none, .build [.int .i64 0, .int .i64 0, .str ⟨#[]⟩] [(0, 1, .k (.int .i64 1)), (1, 1, .t 40)], 0, 0, false, []⟩,
    ⟨some 42, none, .load true 3 (.t 6), 0, 0, false, []⟩,
    ⟨some 43, none, .mksl false 3 [.t 38, .t 41, .t 42], 0, 0, false, []⟩,
    ⟨some 44, none, .mksl false 1 [.t 43], 0, 0, false, []⟩,
    ⟨some 45, none, .app 1 (.t 34) (.t 44), 0, 0, true, []⟩,
    ⟨some 3, none, .mov (.t 45), 1, 1, false, []⟩]
def D26x0 : List I := E26x0
theorem evD26x0 (run : Run) (e : Env) (h : Heap) : drawI run D26x0 e h = DrawW (evW run E26x0 e h []) run E26x0 e h := drawI_write run _ e h
def B26x0 : C := .seq (.seq (.seg false [⟨some 8, none, .mov (.t 4), 0, 0, false, []⟩,
    ⟨some 9, none, .mov (.t 0), 0, 0, false, []⟩,
    ⟨some 10, none, .len false (.t 9), 0, 0, false, []⟩,
    ⟨some 11, none, .bin .lss (.t 8) (.t 10), 0, 0, false, []⟩,
    ⟨some 12, none, .mov (.t 11), 0, 0, false, []⟩,
    ⟨some 13, some (12, true), .mov (.t 0), 0, 0, false, []⟩,
    ⟨some 14, some (12, true), .call 83 [.t 13] false false, 0, 0, false, []⟩,
    ⟨some 15, none, .pick (.t 12) (.t 14) (.k (.bool false)), 0, 0, false, []⟩])
   (.cutTo [0, 3, 4, 15] (.cond (.t 15) (.skip)
   (.exit 0))))
   (.cutTo [0, 3, 4] (.seq (.block 1 (.seq (.seg false [⟨some 18, none, .mov (.t 0), 0, 0, false, []⟩,
    ⟨some 19, none, .mov (.t 4), 0, 0, false, []⟩,
    ⟨some 20, none, .iaddr 4 (.t 18) (.t 19), 0, 0, false, []⟩,
    ⟨some 21, none, .load true 4 (.t 20), 0, 0, false, []⟩,
    ⟨some 5, none, .alloc [.sl true 3 [], .int .i64 0, .int .i64 0, .int .i64 0], 0, 0, false, []⟩,
    ⟨none, none, .store 4 (.t 5) (.t 21), 0, 0, false, []⟩])
   (.cutTo [0, 3, 4, 5] (.seq (.seg false [⟨some 22, none, .build [.int .i64 0, .int .i64 0, .str ⟨#[]⟩] [], 0, 0, false, []⟩,
    ⟨some 6, none, .alloc [.int .i64 0, .int .i64 0, .str ⟨#[]⟩], 0, 0, false, []⟩,
    ⟨none, none, .store 3 (.t 6) (.t 22), 0, 0, false, []⟩])
   (.seq (.seq (.seg false [⟨some 23, none, .faddr 2 1 (.t 5), 0, 0, false, []⟩,
    ⟨some 24, none, .load false 1 (.t 23), 0, 0, false, []⟩,
    ⟨some 25, none, .bin .gtr (.t 24) (.k (.int .i64 0)), 0, 0, false, []⟩,
    ⟨some 26, none, .mov (.t 25), 0, 0, false, []⟩,
    ⟨some 27, some (26, true), .faddr 3 1 (.t 5), 0, 0, false, []⟩,
    ⟨some 28, some (26, true), .load false 1 (.t 27), 0, 0, false, []⟩,
    ⟨some 29, some (26, true), .call 84 [.t 28, .k (.int .i64 (-9999)), .k (.int .i64 9999)] false false, 0, 0, false, []⟩,
    ⟨some 30, none, .pick (.t 26) (.t 29) (.k (.bool false)), 0, 0, false, []⟩])
   (.cutTo [0, 3, 4, 5, 6, 30] (.cond (.t 30) (.seg false [⟨some 31, none, .faddr 3 1 (.t 5), 0, 0, false, []⟩,
    ⟨some 32, none, .load false 1 (.t 31), 0, 0, false, []⟩,
    ⟨some 33, none, .build [.int .i64 0, .int .i64 0, .str ⟨#[]⟩] [(0, 1, .k (.int .i64 1)), (1, 1, .t 32)], 0, 0, false, []⟩,
    ⟨none, none, .store 3 (.t 6) (.t 33), 0, 0, false, []⟩])
   (.skip))))
   (.cutTo [0, 3, 4, 5, 6] (.seg true D26x0)))))))
   (.cutTo [0, 3, 4] (.seg false [⟨some 16, none, .mov (.t 4), 0, 0, false, []⟩,
    ⟨some 17, none, .bin .add (.t 16) (.k (.int .i64 1)), 0, 0, false, []⟩,
    ⟨some 4, none, .mov (.t 17), 0, 0, false, []⟩]))))
def L26x0 : C := B26x0
theorem evL26x0 (run : Run) (draw : List I → Env → Heap → Option (Env × Heap)) (e : Env) (h : Heap) : evC run draw L26x0 e h = evC run draw B26x0 e h := rfl
/-- loop.example/tablehouse/spec.TalliesRows -/
def F26 : F := ⟨47, [(false, 2, 0, false)],
   .seq (.seg false [⟨some 2, none, .nilrow 1, 0, 0, false, []⟩])
   (.seq (.seg false [⟨some 7, none, .mksl true 1 [], 0, 0, false, []⟩,
    ⟨some 3, none, .mov (.t 7), 0, 0, false, []⟩])
   (.seq (.seq (.seg false [⟨some 4, none, .mov (.k (.int .i64 0)), 0, 0, false, []⟩])
   (.block 0 (.loop [0, 3, 4] [3] L26x0)))
   (.seq (.seg false [⟨some 46, none, .mov (.t 3), 0, 0, false, []⟩,
    ⟨some 2, none, .mov (.t 46), 0, 0, false, []⟩])
   (.ret))))⟩
def E28x0 : List I := [⟨some 23, none, .mov (.t 3), 0, 1, false, [3]⟩,
    ⟨some 24, none, .faddr 0 1 (.t 5), 0, 0, false, []⟩,
    ⟨some 25, none, .load false 1 (.t 24), 0, 0, false, []⟩,
    ⟨some 26, none, .iaddr 3 (.t 25) (.k (.int .i64 0)), 0, 0, false, []⟩,
    ⟨some 27, none, .load true 3 (.t 26), 0, 0, false, []⟩,
    ⟨some 28, none, .faddr 1 1 (.t 5), 0, 0, false, []⟩,
    ⟨some 29, none, .load false 1 (.t 28), 0, 0, false, []⟩,
    ⟨some 30, none, .call 86 [.t 29] false false, 0, 0, false, []⟩,
    ⟨some 31, none, .load true 3 (.t 6), 0, 0, false, []⟩,
    ⟨some 32, none, .mksl true 3 [.t 27, .t 30, .t 31], 0, 0, true, []⟩,
    ⟨some 33, none, .mkns 1 [.t 32], 1, 1, false, []⟩,
    ⟨some 34, none, .appn 1 (.t 23) (.t 33), 1, 0, true, []⟩,
    ⟨some 3, none, .mov (.t 34), 2, 2, false, []⟩]
def D28x0 : List I := E28x0
theorem evD28x0 (run : Run) (e : Env) (h : Heap) : drawI run D28x0 e h = DrawW (evW run E28x0 e h []) run E28x0 e h := drawI_write run _ e h
def B28x0 : C := .seq (.seg false [⟨some 13, none, .bin .lss (.t 12) (.t 11), 0, 0, false, []⟩])
   (.seq (.cond (.t 13) (.skip)
   (.exit 0))
   (.seq (.block 1 (.seq (.seg false [⟨some 14, none, .iaddr 4 (.t 10) (.t 12), 0, 0, false, []⟩,
    ⟨some 15, none, .load true 4 (.t 14), 0, 0, false, []⟩,
    ⟨some 5, none, .alloc [.sl true 3 [], .int .i64 0, .int .i64 0, .int .i64 0], 0, 0, false, []⟩,
    ⟨none, none, .store 4 (.t 5) (.t 15), 0, 0, false, []⟩])
   (.cutTo [3, 5, 10, 11, 12] (.seq (.seg false [⟨some 16, none, .faddr 3 1 (.t 5), 0, 0, false, []⟩,
    ⟨some 17, none, .load false 1 (.t 16), 0, 0, false, []⟩,
    ⟨some 18, none, .call 86 [.t 17] false false, 0, 0, false, []⟩,
    ⟨some 6, none, .alloc [.int .i64 0, .int .i64 0, .str ⟨#[]⟩], 0, 0, false, []⟩,
    ⟨none, none, .store 3 (.t 6) (.t 18), 0, 0, false, []⟩])
   (.cutTo [3, 5, 6, 10, 11, 12] (.seq (.seq (.seg false [⟨some 19, none, .faddr 2 1 (.t 5), 0, 0, false, []⟩,
    ⟨some 20, none, .load false 1 (.t 19), 0, 0, false, []⟩,
    ⟨some 21, none, .bin .eql (.t 20) (.k (.int .i64 0)), 0, 0, false, []⟩])
   (.cond (.t 21) (.seg false [⟨some 22, none, .build [.int .i64 0, .int .i64 0, .str ⟨#[]⟩] [], 0, 0, false, []⟩,
    ⟨none, none, .store 3 (.t 6) (.t 22), 0, 0, false, []⟩])
   (.skip)))
   (.cutTo [3, 5, 6, 10, 11, 12] (.seg true D28x0))))))))
   (.cutTo [3, 10, 11, 12] (.seg false [⟨some 35, none, .bin .add (.t 12) (.k (.int .i64 1)), 0, 0, false, []⟩,
    ⟨some 12, none, .mov (.t 35), 0, 0, false, []⟩]))))
def L28x0 : C := B28x0
theorem evL28x0 (run : Run) (draw : List I → Env → Heap → Option (Env × Heap)) (e : Env) (h : Heap) : evC run draw L28x0 e h = evC run draw B28x0 e h := rfl
/-- loop.example/tablehouse/impl.TalliesRows -/
def F28 : F := ⟨38, [(false, 2, 0, false)],
   .seq (.seg false [⟨some 2, none, .mov (.k (.sl true 1 [])), 0, 0, false, []⟩])
   (.seq (.seq (.seg false [⟨some 7, none, .mov (.t 0), 0, 0, false, []⟩,
    ⟨some 8, none, .call 36 [.t 7] false false, 0, 0, false, []⟩,
    ⟨some 9, none, .un .not (.t 8), 0, 0, false, []⟩])
   (.cond (.t 9) (.seq (.seg false [⟨some 2, none, .mov (.k (.sl true 1 [])), 0, 0, false, []⟩])
   (.ret))
   (.skip)))
   (.cutTo [0] (.seq (.seg false [⟨some 3, none, .nilnest 1, 0, 0, false, []⟩])
   (.seq (.seq (.seg false [⟨some 10, none, .mov (.t 0), 0, 0, false, []⟩,
    ⟨some 11, none, .len false (.t 10), 0, 0, false, []⟩,
    ⟨some 12, none, .mov (.k (.int .i64 0)), 0, 0, false, []⟩])
   (.block 0 (.loopk [3, 10, 11, 12] [3] L28x0)))
   (.seq (.seg false [⟨some 36, none, .mov (.t 3), 0, 0, false, []⟩,
    ⟨some 37, none, .callx 2 87 [.t 36], 0, 0, false, []⟩,
    ⟨some 2, none, .mov (.t 37), 0, 0, false, []⟩])
   (.ret))))))⟩
def E29x0 : List I := [⟨some 17, none, .mov (.t 0), 0, 0, false, []⟩,
    ⟨some 18, none, .mov (.t 5), 0, 0, false, []⟩,
    ⟨some 19, none, .iaddr 1 (.t 17) (.t 18), 0, 0, false, []⟩,
    ⟨some 20, none, .load false 1 (.t 19), 0, 0, false, []⟩,
    ⟨some 21, none, .mov (.t 1), 0, 0, false, []⟩,
    ⟨some 22, none, .mov (.t 5), 0, 0, false, []⟩,
    ⟨some 23, none, .iaddr 1 (.t 21) (.t 22), 0, 0, false, []⟩,
    ⟨some 24, none, .load false 1 (.t 23), 0, 0, false, []⟩,
    ⟨some 25, none, .call 88 [.t 20, .t 24] false false, 0, 0, false, []⟩,
    ⟨some 26, none, .un .not (.t 25), 0, 0, false, []⟩]
def D29x0 : List I := E29x0
theorem evD29x0 (run : Run) (e : Env) (h : Heap) : drawI run D29x0 e h = DrawS (evQ run E29x0 e h) run E29x0 e h := drawI_quiet run _ (by rfl) e h
def B29x0 : C := .seq (.seq (.seg false [⟨some 11, none, .mov (.t 5), 0, 0, false, []⟩,
    ⟨some 12, none, .mov (.t 0), 0, 0, false, []⟩,
    ⟨some 13, none, .len false (.t 12), 0, 0, false, []⟩,
    ⟨some 14, none, .bin .lss (.t 11) (.t 13), 0, 0, false, []⟩])
   (.cutTo [0, 1, 5, 14] (.cond (.t 14) (.skip)
   (.exit 0))))
   (.cutTo [0, 1, 5] (.seq (.block 1 (.seq (.seg true D29x0)
   (.cutTo [0, 1, 5, 26] (.cond (.t 26) (.seq (.seg false [⟨some 4, none, .mov (.k (.bool false)), 0, 0, false, []⟩])
   (.ret))
   (.skip)))))
   (.cutTo [0, 1, 5] (.seg false [⟨some 15, none, .mov (.t 5), 0, 0, false, []⟩,
    ⟨some 16, none, .bin .add (.t 15) (.k (.int .i64 1)), 0, 0, false, []⟩,
    ⟨some 5, none, .mov (.t 16), 0, 0, false, []⟩]))))
def L29x0 : C := B29x0
theorem evL29x0 (run : Run) (draw : List I → Env → Heap → Option (Env × Heap)) (e : Env) (h : Heap) : evC run draw L29x0 e h = evC run draw B29x0 e h := rfl
/-- loop.example/tablehouse/laws.eqValueSS -/
def F29 : F := ⟨27, [(false, 4, 0, false)],
   .seq (.seg false [⟨some 4, none, .mov (.k (.bool false)), 0, 0, false, []⟩])
   (.seq (.seq (.seg false [⟨some 6, none, .mov (.t 0), 0, 0, false, []⟩,
    ⟨some 7, none, .len false (.t 6), 0, 0, false, []⟩,
    ⟨some 8, none, .mov (.t 1), 0, 0, false, []⟩,
    ⟨some 9, none, .len false (.t 8), 0, 0, false, []⟩,
    ⟨some 10, none, .bin .neq (.t 7) (.t 9), 0, 0, false, []⟩])
   (.cutTo [0, 1, 10] (.cond (.t 10) (.seq (.seg false [⟨some 4, none, .mov (.k (.bool false)), 0, 0, false, []⟩])
   (.ret))
   (.skip))))
   (.cutTo [0, 1] (.seq (.seq (.seg false [⟨some 5, none, .mov (.k (.int .i64 0)), 0, 0, false, []⟩])
   (.block 0 (.loop [0, 1, 5] [4] L29x0)))
   (.seq (.seg false [⟨some 4, none, .mov (.k (.bool true)), 0, 0, false, []⟩])
   (.ret)))))⟩
def E30x0 : List I := [⟨some 17, none, .mov (.t 0), 0, 0, false, []⟩,
    ⟨some 18, none, .mov (.t 5), 0, 0, false, []⟩,
    ⟨some 19, none, .iaddr 4 (.t 17) (.t 18), 0, 0, false, []⟩,
    ⟨some 20, none, .load true 4 (.t 19), 0, 0, false, []⟩,
    ⟨some 21, none, .mov (.t 1), 0, 0, false, []⟩,
    ⟨some 22, none, .mov (.t 5), 0, 0, false, []⟩,
    ⟨some 23, none, .iaddr 4 (.t 21) (.t 22), 0, 0, false, []⟩,
    ⟨some 24, none, .load true 4 (.t 23), 0, 0, false, []⟩,
    ⟨some 25, none, .call 89 [.t 20, .t 24] false false, 0, 0, false, []⟩,
    ⟨some 26, none, .un .not (.t 25), 0, 0, false, []⟩]
def D30x0 : List I := E30x0
theorem evD30x0 (run : Run) (e : Env) (h : Heap) : drawI run D30x0 e h = DrawS (evQ run E30x0 e h) run E30x0 e h := drawI_quiet run _ (by rfl) e h
def B30x0 : C := .seq (.seq (.seg false [⟨some 11, none, .mov (.t 5), 0, 0, false, []⟩,
    ⟨some 12, none, .mov (.t 0), 0, 0, false, []⟩,
    ⟨some 13, none, .len false (.t 12), 0, 0, false, []⟩,
    ⟨some 14, none, .bin .lss (.t 11) (.t 13), 0, 0, false, []⟩])
   (.cutTo [0, 1, 5, 14] (.cond (.t 14) (.skip)
   (.exit 0))))
   (.cutTo [0, 1, 5] (.seq (.block 1 (.seq (.seg true D30x0)
   (.cutTo [0, 1, 5, 26] (.cond (.t 26) (.seq (.seg false [⟨some 4, none, .mov (.k (.bool false)), 0, 0, false, []⟩])
   (.ret))
   (.skip)))))
   (.cutTo [0, 1, 5] (.seg false [⟨some 15, none, .mov (.t 5), 0, 0, false, []⟩,
    ⟨some 16, none, .bin .add (.t 15) (.k (.int .i64 1)), 0, 0, false, []⟩,
    ⟨some 5, none, .mov (.t 16), 0, 0, false, []⟩]))))
def L30x0 : C := B30x0
theorem evL30x0 (run : Run) (draw : List I → Env → Heap → Option (Env × Heap)) (e : Env) (h : Heap) : evC run draw L30x0 e h = evC run draw B30x0 e h := rfl
/-- loop.example/tablehouse/laws.eqTallyS -/
def F30 : F := ⟨27, [(false, 4, 0, false)],
   .seq (.seg false [⟨some 4, none, .mov (.k (.bool false)), 0, 0, false, []⟩])
   (.seq (.seq (.seg false [⟨some 6, none, .mov (.t 0), 0, 0, false, []⟩,
    ⟨some 7, none, .len false (.t 6), 0, 0, false, []⟩,
    ⟨some 8, none, .mov (.t 1), 0, 0, false, []⟩,
    ⟨some 9, none, .len false (.t 8), 0, 0, false, []⟩,
    ⟨some 10, none, .bin .neq (.t 7) (.t 9), 0, 0, false, []⟩])
   (.cutTo [0, 1, 10] (.cond (.t 10) (.seq (.seg false [⟨some 4, none, .mov (.k (.bool false)), 0, 0, false, []⟩])
   (.ret))
   (.skip))))
   (.cutTo [0, 1] (.seq (.seq (.seg false [⟨some 5, none, .mov (.k (.int .i64 0)), 0, 0, false, []⟩])
   (.block 0 (.loop [0, 1, 5] [4] L30x0)))
   (.seq (.seg false [⟨some 4, none, .mov (.k (.bool true)), 0, 0, false, []⟩])
   (.ret)))))⟩
def B31x0 : C := .seq (.seq (.seg false [⟨some 6, none, .mov (.t 5), 0, 0, false, []⟩,
    ⟨some 7, none, .mov (.t 0), 0, 0, false, []⟩,
    ⟨some 8, none, .len false (.t 7), 0, 0, false, []⟩,
    ⟨some 9, none, .bin .lss (.t 6) (.t 8), 0, 0, false, []⟩])
   (.cutTo [0, 1, 5, 9] (.cond (.t 9) (.skip)
   (.exit 0))))
   (.cutTo [0, 1, 5] (.seq (.block 1 (.seq (.seg false [⟨some 12, none, .mov (.t 0), 0, 0, false, []⟩,
    ⟨some 13, none, .mov (.t 5), 0, 0, false, []⟩,
    ⟨some 14, none, .iaddr 4 (.t 12) (.t 13), 0, 0, false, []⟩,
    ⟨some 15, none, .faddr 0 1 (.t 14), 0, 0, false, []⟩,
    ⟨some 16, none, .load false 1 (.t 15), 0, 0, false, []⟩,
    ⟨some 17, none, .mov (.t 1), 0, 0, false, []⟩,
    ⟨some 18, none, .callx 2 90 [.t 16, .t 17], 0, 0, false, []⟩,
    ⟨some 1, none, .mov (.t 18), 0, 0, false, []⟩])
   (.cutTo [0, 1, 5] (.seq (.seg false [⟨some 19, none, .mov (.t 0), 0, 0, false, []⟩,
    ⟨some 20, none, .mov (.t 5), 0, 0, false, []⟩,
    ⟨some 21, none, .mov (.t 1), 0, 0, false, []⟩,
    ⟨some 22, none, .iaddr 4 (.t 19) (.t 20), 0, 0, false, []⟩,
    ⟨some 23, none, .faddr 1 1 (.t 22), 0, 0, false, []⟩,
    ⟨none, none, .store 1 (.t 23) (.t 21), 0, 0, false, []⟩])
   (.cutTo [0, 1, 5] (.seq (.seg false [⟨some 24, none, .mov (.t 1), 0, 0, false, []⟩,
    ⟨some 25, none, .bin .add (.t 24) (.k (.int .i64 1)), 0, 0, false, []⟩,
    ⟨some 1, none, .mov (.t 25), 0, 0, false, []⟩])
   (.seq (.seg false [⟨some 26, none, .mov (.t 0), 0, 0, false, []⟩,
    ⟨some 27, none, .mov (.t 5), 0, 0, false, []⟩,
    ⟨some 28, none, .mov (.t 1), 0, 0, false, []⟩,
    ⟨some 29, none, .iaddr 4 (.t 26) (.t 27), 0, 0, false, []⟩,
    ⟨some 30, none, .faddr 2 1 (.t 29), 0, 0, false, []⟩,
    ⟨none, none, .store 1 (.t 30) (.t 28), 0, 0, false, []⟩])
   (.cutTo [0, 1, 5] (.seq (.seg false [⟨some 31, none, .mov (.t 1), 0, 0, false, []⟩,
    ⟨some 32, none, .bin .add (.t 31) (.k (.int .i64 1)), 0, 0, false, []⟩,
    ⟨some 1, none, .mov (.t 32), 0, 0, false, []⟩])
   (.seq (.seg false [⟨some 33, none, .mov (.t 0), 0, 0, false, []⟩,
    ⟨some 34, none, .mov (.t 5), 0, 0, false, []⟩,
    ⟨some 35, none, .mov (.t 1), 0, 0, false, []⟩,
    ⟨some 36, none, .iaddr 4 (.t 33) (.t 34), 0, 0, false, []⟩,
    ⟨some 37, none, .faddr 3 1 (.t 36), 0, 0, false, []⟩,
    ⟨none, none, .store 1 (.t 37) (.t 35), 0, 0, false, []⟩])
   (.cutTo [0, 1, 5] (.seg false [⟨some 38, none, .mov (.t 1), 0, 0, false, []⟩,
    ⟨some 39, none, .bin .add (.t 38) (.k (.int .i64 1)), 0, 0, false, []⟩,
    ⟨some 1, none, .mov (.t 39), 0, 0, false, []⟩]))))))))))))
   (.cutTo [0, 1, 5] (.seg false [⟨some 10, none, .mov (.t 5), 0, 0, false, []⟩,
    ⟨some 11, none, .bin .add (.t 10) (.k (.int .i64 1)), 0, 0, false, []⟩,
    ⟨some 5, none, .mov (.t 11), 0, 0, false, []⟩]))))
def L31x0 : C := B31x0
theorem evL31x0 (run : Run) (draw : List I → Env → Heap → Option (Env × Heap)) (e : Env) (h : Heap) : evC run draw L31x0 e h = evC run draw B31x0 e h := rfl
/-- loop.example/tablehouse/laws.markTallyS -/
def F31 : F := ⟨41, [(false, 4, 0, false)],
   .seq (.seg false [⟨some 4, none, .mov (.k (.int .i64 0)), 0, 0, false, []⟩])
   (.seq (.seq (.seg false [⟨some 5, none, .mov (.k (.int .i64 0)), 0, 0, false, []⟩])
   (.block 0 (.loopk [0, 1, 5] [1] L31x0)))
   (.seq (.seg false [⟨some 40, none, .mov (.t 1), 0, 0, false, []⟩,
    ⟨some 4, none, .mov (.t 40), 0, 0, false, []⟩])
   (.ret)))⟩
def B32x0 : C := .seq (.seq (.seg false [⟨some 6, none, .mov (.t 5), 0, 0, false, []⟩,
    ⟨some 7, none, .mov (.t 0), 0, 0, false, []⟩,
    ⟨some 8, none, .len false (.t 7), 0, 0, false, []⟩,
    ⟨some 9, none, .bin .lss (.t 6) (.t 8), 0, 0, false, []⟩])
   (.cutTo [0, 1, 5, 9] (.cond (.t 9) (.skip)
   (.exit 0))))
   (.cutTo [0, 1, 5] (.seq (.block 1 (.seg false [⟨some 12, none, .mov (.t 0), 0, 0, false, []⟩,
    ⟨some 13, none, .mov (.t 5), 0, 0, false, []⟩,
    ⟨some 14, none, .iaddr 1 (.t 12) (.t 13), 0, 0, false, []⟩,
    ⟨some 15, none, .load false 1 (.t 14), 0, 0, false, []⟩,
    ⟨some 16, none, .mov (.t 1), 0, 0, false, []⟩,
    ⟨some 17, none, .callx 2 90 [.t 15, .t 16], 0, 0, false, []⟩,
    ⟨some 1, none, .mov (.t 17), 0, 0, false, []⟩]))
   (.cutTo [0, 1, 5] (.seg false [⟨some 10, none, .mov (.t 5), 0, 0, false, []⟩,
    ⟨some 11, none, .bin .add (.t 10) (.k (.int .i64 1)), 0, 0, false, []⟩,
    ⟨some 5, none, .mov (.t 11), 0, 0, false, []⟩]))))
def L32x0 : C := B32x0
theorem evL32x0 (run : Run) (draw : List I → Env → Heap → Option (Env × Heap)) (e : Env) (h : Heap) : evC run draw L32x0 e h = evC run draw B32x0 e h := rfl
/-- loop.example/tablehouse/laws.markValueSS -/
def F32 : F := ⟨19, [(false, 4, 0, false)],
   .seq (.seg false [⟨some 4, none, .mov (.k (.int .i64 0)), 0, 0, false, []⟩])
   (.seq (.seq (.seg false [⟨some 5, none, .mov (.k (.int .i64 0)), 0, 0, false, []⟩])
   (.block 0 (.loopk [0, 1, 5] [1] L32x0)))
   (.seq (.seg false [⟨some 18, none, .mov (.t 1), 0, 0, false, []⟩,
    ⟨some 4, none, .mov (.t 18), 0, 0, false, []⟩])
   (.ret)))⟩
def B33x0 : C := .seq (.seq (.seg false [⟨some 6, none, .mov (.t 5), 0, 0, false, []⟩,
    ⟨some 7, none, .mov (.t 0), 0, 0, false, []⟩,
    ⟨some 8, none, .len false (.t 7), 0, 0, false, []⟩,
    ⟨some 9, none, .bin .lss (.t 6) (.t 8), 0, 0, false, []⟩])
   (.cutTo [0, 1, 5, 9] (.cond (.t 9) (.skip)
   (.exit 0))))
   (.cutTo [0, 1, 5] (.seq (.block 1 (.seq (.seg false [⟨some 12, none, .mov (.t 0), 0, 0, false, []⟩,
    ⟨some 13, none, .mov (.t 5), 0, 0, false, []⟩,
    ⟨some 14, none, .iaddr 1 (.t 12) (.t 13), 0, 0, false, []⟩,
    ⟨some 15, none, .load false 1 (.t 14), 0, 0, false, []⟩,
    ⟨some 16, none, .mov (.t 1), 0, 0, false, []⟩,
    ⟨some 17, none, .call 91 [.t 15, .t 16] false false, 0, 0, false, []⟩,
    ⟨some 1, none, .mov (.t 17), 0, 0, false, []⟩])
   (.cutTo [0, 1, 5] (.seq (.seg false [⟨some 18, none, .mov (.t 1), 0, 0, false, []⟩,
    ⟨some 19, none, .bin .lss (.t 18) (.k (.int .i64 0)), 0, 0, false, []⟩])
   (.cond (.t 19) (.seq (.seg false [⟨some 4, none, .mov (.k (.int .i64 (-1))), 0, 0, false, []⟩])
   (.ret))
   (.skip))))))
   (.cutTo [0, 1, 5] (.seg false [⟨some 10, none, .mov (.t 5), 0, 0, false, []⟩,
    ⟨some 11, none, .bin .add (.t 10) (.k (.int .i64 1)), 0, 0, false, []⟩,
    ⟨some 5, none, .mov (.t 11), 0, 0, false, []⟩]))))
def L33x0 : C := B33x0
theorem evL33x0 (run : Run) (draw : List I → Env → Heap → Option (Env × Heap)) (e : Env) (h : Heap) : evC run draw L33x0 e h = evC run draw B33x0 e h := rfl
/-- loop.example/tablehouse/laws.heldValueSS -/
def F33 : F := ⟨21, [(false, 4, 0, false)],
   .seq (.seg false [⟨some 4, none, .mov (.k (.int .i64 0)), 0, 0, false, []⟩])
   (.seq (.seq (.seg false [⟨some 5, none, .mov (.k (.int .i64 0)), 0, 0, false, []⟩])
   (.block 0 (.loop [0, 1, 5] [1, 4] L33x0)))
   (.seq (.seg false [⟨some 20, none, .mov (.t 1), 0, 0, false, []⟩,
    ⟨some 4, none, .mov (.t 20), 0, 0, false, []⟩])
   (.ret)))⟩
/-- loop.example/tablehouse/spec.DrawTalliesRows -/
def F34 : F := ⟨6, [(false, 2, 0, false)],
   .seq (.seg false [⟨some 2, none, .mov (.k (.sl true 4 [])), 0, 0, false, []⟩])
   (.seq (.seg false [⟨some 3, none, .mov (.t 0), 0, 0, false, []⟩,
    ⟨some 4, none, .call 55 [.t 3] true true, 0, 0, false, []⟩,
    ⟨some 5, none, .call 92 [.t 4, .k (.int .i64 9)] true false, 0, 0, false, []⟩,
    ⟨some 2, none, .mov (.t 5), 0, 0, false, []⟩])
   (.cutTo [2] (.ret)))⟩
def B35x0 : C := .seq (.seq (.seg false [⟨some 4, none, .mov (.t 3), 0, 0, false, []⟩,
    ⟨some 5, none, .mov (.t 0), 0, 0, false, []⟩,
    ⟨some 6, none, .len false (.t 5), 0, 0, false, []⟩,
    ⟨some 7, none, .bin .lss (.t 4) (.t 6), 0, 0, false, []⟩])
   (.cutTo [0, 3, 7] (.cond (.t 7) (.skip)
   (.exit 0))))
   (.cutTo [0, 3] (.seq (.block 1 (.seq (.seg false [⟨some 10, none, .mov (.t 0), 0, 0, false, []⟩,
    ⟨some 11, none, .mov (.t 3), 0, 0, false, []⟩,
    ⟨some 12, none, .iaddr 1 (.t 10) (.t 11), 0, 0, false, []⟩,
    ⟨some 13, none, .load false 1 (.t 12), 0, 0, false, []⟩,
    ⟨some 14, none, .call 80 [.t 13] false false, 0, 0, false, []⟩,
    ⟨some 15, none, .un .not (.t 14), 0, 0, false, []⟩])
   (.cutTo [0, 3, 15] (.cond (.t 15) (.seq (.seg false [⟨some 2, none, .mov (.k (.bool false)), 0, 0, false, []⟩])
   (.ret))
   (.skip)))))
   (.cutTo [0, 3] (.seg false [⟨some 8, none, .mov (.t 3), 0, 0, false, []⟩,
    ⟨some 9, none, .bin .add (.t 8) (.k (.int .i64 1)), 0, 0, false, []⟩,
    ⟨some 3, none, .mov (.t 9), 0, 0, false, []⟩]))))
def L35x0 : C := B35x0
theorem evL35x0 (run : Run) (draw : List I → Env → Heap → Option (Env × Heap)) (e : Env) (h : Heap) : evC run draw L35x0 e h = evC run draw B35x0 e h := rfl
/-- loop.example/tablehouse/laws.allRows -/
def F35 : F := ⟨16, [(false, 2, 0, false)],
   .seq (.seg false [⟨some 2, none, .mov (.k (.bool false)), 0, 0, false, []⟩])
   (.seq (.seq (.seg false [⟨some 3, none, .mov (.k (.int .i64 0)), 0, 0, false, []⟩])
   (.block 0 (.loop [0, 3] [2] L35x0)))
   (.seq (.seg false [⟨some 2, none, .mov (.k (.bool true)), 0, 0, false, []⟩])
   (.ret)))⟩
def E36x0 : List I := [⟨some 12, none, .load true 4 (.t 4), 0, 0, false, []⟩,
    ⟨some 13, none, .call 93 [.t 12] false false, 0, 0, false, []⟩,
    ⟨some 14, none, .un .not (.t 13), 0, 0, false, []⟩,
    ⟨some 15, none, .mov (.t 14), 0, 0, false, []⟩,
    ⟨some 16, some (15, false), .mov (.t 3), 0, 0, false, []⟩,
    ⟨some 17, some (15, false), .bin .gtr (.t 16) (.k (.int .i64 0)), 0, 0, false, []⟩,
    ⟨some 18, some (15, false), .mov (.t 17), 0, 0, false, []⟩,
    ⟨some 19, some (18, true), .mov (.t 0), 0, 0, false, []⟩,
    ⟨some 20, some (18, true), .mov (.t 3), 0, 0, false, []⟩,
    ⟨some 21, some (18, true), .bin .sub (.t 20) (.k (.int .i64 1)), 0, 0, false, []⟩,
    ⟨some 22, some (18, true), .iaddr 4 (.t 19) (.t 21), 0, 0, false, []⟩,
    ⟨some 23, some (18, true), .faddr 0 1 (.t 22), 0, 0, false, []⟩,
    ⟨some 24, some (18, true), .load false 1 (.t 23), 0, 0, false, []⟩,
    ⟨some 25, some (18, true), .faddr 0 1 (.t 4), 0, 0, false, []⟩,
    ⟨some 26, some (18, true), .load false 1 (.t 25), 0, 0, false, []⟩,
    ⟨some 27, some (18, true), .call 94 [.t 24, .t 26] false false, 0, 0, false, []⟩,
    ⟨some 28, some (18, true), .bin .geq (.t 27) (.k (.int .i64 0)), 0, 0, false, []⟩,
    ⟨some 29, some (15, false), .pick (.t 18) (.t 28) (.k (.bool false)), 0, 0, false, []⟩,
    ⟨some 30, none, .pick (.t 15) (.k (.bool true)) (.t 29), 0, 0, false, []⟩]
def D36x0 : List I := E36x0
theorem evD36x0 (run : Run) (e : Env) (h : Heap) : drawI run D36x0 e h = DrawS (evQ run E36x0 e h) run E36x0 e h := drawI_quiet run _ (by rfl) e h
def B36x0 : C := .seq (.seg false [⟨some 8, none, .bin .lss (.t 7) (.t 6), 0, 0, false, []⟩])
   (.seq (.cond (.t 8) (.skip)
   (.exit 0))
   (.seq (.block 1 (.seq (.seg false [⟨some 9, none, .mov (.t 7), 0, 0, false, []⟩,
    ⟨some 10, none, .iaddr 4 (.t 5) (.t 7), 0, 0, false, []⟩,
    ⟨some 11, none, .load true 4 (.t 10), 0, 0, false, []⟩,
    ⟨some 4, none, .alloc [.sl true 3 [], .int .i64 0, .int .i64 0, .int .i64 0], 0, 0, false, []⟩,
    ⟨some 3, none, .mov (.t 9), 0, 0, false, []⟩,
    ⟨none, none, .store 4 (.t 4) (.t 11), 0, 0, false, []⟩])
   (.cutTo [0, 3, 4, 5, 6, 7] (.seq (.seg true D36x0)
   (.cutTo [0, 5, 6, 7, 30] (.cond (.t 30) (.seq (.seg false [⟨some 2, none, .mov (.k (.bool false)), 0, 0, false, []⟩])
   (.ret))
   (.skip)))))))
   (.cutTo [0, 5, 6, 7] (.seg false [⟨some 31, none, .bin .add (.t 7) (.k (.int .i64 1)), 0, 0, false, []⟩,
    ⟨some 7, none, .mov (.t 31), 0, 0, false, []⟩]))))
def L36x0 : C := B36x0
theorem evL36x0 (run : Run) (draw : List I → Env → Heap → Option (Env × Heap)) (e : Env) (h : Heap) : evC run draw L36x0 e h = evC run draw B36x0 e h := rfl
/-- loop.example/tablehouse/impl.TalliesOk -/
def F36 : F := ⟨32, [(false, 2, 0, false)],
   .seq (.seg false [⟨some 2, none, .mov (.k (.bool false)), 0, 0, false, []⟩])
   (.seq (.seq (.seg false [⟨some 5, none, .mov (.t 0), 0, 0, false, []⟩,
    ⟨some 6, none, .len false (.t 5), 0, 0, false, []⟩,
    ⟨some 7, none, .mov (.k (.int .i64 0)), 0, 0, false, []⟩])
   (.block 0 (.loop [0, 5, 6, 7] [2] L36x0)))
   (.seq (.seg false [⟨some 2, none, .mov (.k (.bool true)), 0, 0, false, []⟩])
   (.ret)))⟩
/-- loop.example/tablehouse/spec.l20Open -/
def F55 : F := ⟨11, [(false, 2, 0, false)],
   .seq (.seg false [⟨some 2, none, .mov (.k .undef), 0, 0, false, []⟩])
   (.seq (.seq (.seg false [⟨some 3, none, .mov (.t 0), 0, 0, false, []⟩,
    ⟨some 4, none, .len false (.t 3), 0, 0, false, []⟩,
    ⟨some 5, none, .bin .gtr (.t 4) (.k (.int .i64 2000)), 0, 0, false, []⟩])
   (.cond (.t 5) (.seg false [⟨some 6, none, .mov (.t 0), 0, 0, false, []⟩,
    ⟨some 7, none, .slc false 1 (.t 6) none (some (.k (.int .i64 2000))) none, 0, 0, false, []⟩,
    ⟨some 0, none, .mov (.t 7), 0, 0, false, []⟩])
   (.skip)))
   (.cutTo [0] (.seq (.seg false [⟨some 8, none, .mov (.t 0), 0, 0, false, []⟩,
    ⟨some 9, none, .build [.sl true 1 [], .int .i64 0] [(0, 1, .t 8)], 0, 0, false, []⟩,
    ⟨some 10, none, .box (.t 9), 0, 0, false, []⟩,
    ⟨some 2, none, .mov (.t 10), 0, 0, false, []⟩])
   (.cutTo [2] (.ret)))))⟩
/-- loop.example/tablehouse/spec.l20One -/
def F56 : F := ⟨8, [(false, 2, 0, false)],
   .seq (.seg false [⟨some 2, none, .mov (.k (.sl true 2 [])), 0, 0, false, []⟩])
   (.seq (.seg false [⟨some 3, none, .mov (.t 0), 0, 0, false, []⟩,
    ⟨some 4, none, .call 57 [.t 3, .k (.int .i64 2)] true false, 0, 0, false, []⟩,
    ⟨some 5, none, .bin .eql (.t 4) (.k (.int .i64 0)), 0, 0, false, []⟩,
    ⟨some 6, none, .build [.int .i64 0, .bool false] [(0, 1, .k (.int .i64 1)), (1, 1, .t 5)], 0, 0, false, []⟩,
    ⟨some 7, none, .mksl false 2 [.t 6], 0, 0, false, []⟩,
    ⟨some 2, none, .mov (.t 7), 0, 0, false, []⟩])
   (.cutTo [2] (.ret)))⟩
def E57x0 : List I := [⟨some 47, none, .mov (.t 0), 0, 0, false, []⟩,
    ⟨some 48, none, .nilchk (.t 47), 0, 0, false, []⟩,
    ⟨some 49, none, .faddr 0 1 (.t 48), 0, 0, false, []⟩,
    ⟨some 50, none, .load false 1 (.t 49), 0, 0, false, []⟩,
    ⟨some 51, none, .mov (.t 5), 0, 0, false, []⟩,
    ⟨some 52, none, .mov (.t 0), 0, 0, false, []⟩,
    ⟨some 53, none, .nilchk (.t 52), 0, 0, false, []⟩,
    ⟨some 54, none, .faddr 0 1 (.t 53), 0, 0, false, []⟩,
    ⟨some 55, none, .load false 1 (.t 54), 0, 0, false, []⟩,
    ⟨some 56, none, .len false (.t 55), 0, 0, false, []⟩,
    ⟨some 57, none, .bin .rem (.t 51) (.t 56), 0, 0, false, []⟩,
    ⟨some 58, none, .iaddr 1 (.t 50) (.t 57), 0, 0, false, []⟩,
    ⟨some 59, none, .load false 1 (.t 58), 0, 0, false, []⟩,
    ⟨some 60, none, .conv (.int .i64) (.t 59), 0, 0, false, []⟩,
    ⟨some 61, none, .bin .mul (.t 60) (.k (.int .i64 131)), 0, 0, false, []⟩,
    ⟨some 62, none, .mov (.t 0), 0, 0, false, []⟩,
    ⟨some 63, none, .nilchk (.t 62), 0, 0, false, []⟩,
    ⟨some 64, none, .faddr 0 1 (.t 63), 0, 0, false, []⟩,
    ⟨some 65, none, .load false 1 (.t 64), 0, 0, false, []⟩,
    ⟨some 66, none, .mov (.t 5), 0, 0, false, []⟩,
    ⟨some 67, none, .bin .mul (.t 66) (.k (.int .i64 7)), 0, 0, false, []⟩,
    ⟨some 68, none, .bin .add (.t 67) (.k (.int .i64 3)), 0, 0, false, []⟩,
    ⟨some 69, none, .mov (.t 0), 0, 0, false, []⟩,
    ⟨some 70, none, .nilchk (.t 69), 0, 0, false, []⟩,
    ⟨some 71, none, .faddr 0 1 (.t 70), 0, 0, false, []⟩,
    ⟨some 72, none, .load false 1 (.t 71), 0, 0, false, []⟩,
    ⟨some 73, none, .len false (.t 72), 0, 0, false, []⟩,
    ⟨some 74, none, .bin .rem (.t 68) (.t 73), 0, 0, false, []⟩,
    ⟨some 75, none, .iaddr 1 (.t 65) (.t 74), 0, 0, false, []⟩,
    ⟨some 76, none, .load false 1 (.t 75), 0, 0, false, []⟩,
    ⟨some 77, none, .conv (.int .i64) (.t 76), 0, 0, false, []⟩,
    ⟨some 78, none, .bin .mul (.t 77) (.k (.int .i64 1117)), 0, 0, false, []⟩,
    ⟨some 79, none, .bin .add (.t 61) (.t 78), 0, 0, false, []⟩,
    ⟨some 80, none, .mov (.t 5), 0, 0, false, []⟩,
    ⟨some 81, none, .bin .mul (.t 80) (.k (.int .i64 29)), 0, 0, false, []⟩,
    ⟨some 82, none, .bin .add (.t 79) (.t 81), 0, 0, false, []⟩,
    ⟨some 83, none, .mov (.t 5), 0, 0, false, []⟩,
    ⟨some 84, none, .mov (.t 0), 0, 0, false, []⟩,
    ⟨some 85, none, .nilchk (.t 84), 0, 0, false, []⟩,
    ⟨some 86, none, .faddr 0 1 (.t 85), 0, 0, false, []⟩,
    ⟨some 87, none, .load false 1 (.t 86), 0, 0, false, []⟩,
    ⟨some 88, none, .len false (.t 87), 0, 0, false, []⟩,
    ⟨some 89, none, .bin .quo (.t 83) (.t 88), 0, 0, false, []⟩,
    ⟨some 90, none, .bin .mul (.t 89) (.k (.int .i64 53)), 0, 0, false, []⟩,
    ⟨some 91, none, .bin .add (.t 82) (.t 90), 0, 0, false, []⟩,
    ⟨some 6, none, .mov (.t 91), 0, 0, false, []⟩]
def D57x0 : List I := E57x0
theorem evD57x0 (run : Run) (e : Env) (h : Heap) : drawI run D57x0 e h = DrawS (evQ run E57x0 e h) run E57x0 e h := drawI_quiet run _ (by rfl) e h
/-- (*loop.example/tablehouse/spec.l20Rd).pick -/
def F57 : F := ⟨99, [(false, 4, 0, false)],
   .seq (.seg false [⟨some 4, none, .mov (.k (.int .i64 0)), 0, 0, false, []⟩])
   (.seq (.seg false [⟨some 7, none, .mov (.t 0), 0, 0, false, []⟩,
    ⟨some 8, none, .mov (.t 0), 0, 0, false, []⟩,
    ⟨some 9, none, .nilchk (.t 8), 0, 0, false, []⟩,
    ⟨some 10, none, .faddr 1 1 (.t 9), 0, 0, false, []⟩,
    ⟨some 11, none, .load false 1 (.t 10), 0, 0, false, []⟩,
    ⟨some 12, none, .bin .add (.t 11) (.k (.int .i64 1)), 0, 0, false, []⟩,
    ⟨some 13, none, .nilchk (.t 7), 0, 0, false, []⟩,
    ⟨some 14, none, .faddr 1 1 (.t 13), 0, 0, false, []⟩,
    ⟨none, none, .store 1 (.t 14) (.t 12), 0, 0, false, []⟩])
   (.cutTo [0, 1] (.seq (.seq (.seg false [⟨some 15, none, .mov (.t 1), 0, 0, false, []⟩,
    ⟨some 16, none, .bin .lss (.t 15) (.k (.int .i64 1)), 0, 0, false, []⟩,
    ⟨some 17, none, .mov (.t 16), 0, 0, false, []⟩,
    ⟨some 18, some (17, false), .mov (.t 0), 0, 0, false, []⟩,
    ⟨some 19, some (17, false), .nilchk (.t 18), 0, 0, false, []⟩,
    ⟨some 20, some (17, false), .faddr 0 1 (.t 19), 0, 0, false, []⟩,
    ⟨some 21, some (17, false), .load false 1 (.t 20), 0, 0, false, []⟩,
    ⟨some 22, some (17, false), .len false (.t 21), 0, 0, false, []⟩,
    ⟨some 23, some (17, false), .bin .eql (.t 22) (.k (.int .i64 0)), 0, 0, false, []⟩,
    ⟨some 24, none, .pick (.t 17) (.k (.bool true)) (.t 23), 0, 0, false, []⟩])
   (.cutTo [0, 1, 24] (.cond (.t 24) (.seq (.seg false [⟨some 4, none, .mov (.k (.int .i64 0)), 0, 0, false, []⟩])
   (.ret))
   (.skip))))
   (.cutTo [0, 1] (.seq (.seg false [⟨some 25, none, .mov (.t 0), 0, 0, false, []⟩,
    ⟨some 26, none, .nilchk (.t 25), 0, 0, false, []⟩,
    ⟨some 27, none, .faddr 1 1 (.t 26), 0, 0, false, []⟩,
    ⟨some 28, none, .load false 1 (.t 27), 0, 0, false, []⟩,
    ⟨some 29, none, .bin .sub (.t 28) (.k (.int .i64 1)), 0, 0, false, []⟩,
    ⟨some 5, none, .mov (.t 29), 0, 0, false, []⟩])
   (.cutTo [0, 1, 5] (.seq (.seq (.seg false [⟨some 30, none, .mov (.t 5), 0, 0, false, []⟩,
    ⟨some 31, none, .mov (.t 0), 0, 0, false, []⟩,
    ⟨some 32, none, .nilchk (.t 31), 0, 0, false, []⟩,
    ⟨some 33, none, .faddr 0 1 (.t 32), 0, 0, false, []⟩,
    ⟨some 34, none, .load false 1 (.t 33), 0, 0, false, []⟩,
    ⟨some 35, none, .len false (.t 34), 0, 0, false, []⟩,
    ⟨some 36, none, .bin .lss (.t 30) (.t 35), 0, 0, false, []⟩])
   (.cutTo [0, 1, 5, 36] (.cond (.t 36) (.seq (.seg false [⟨some 37, none, .mov (.t 0), 0, 0, false, []⟩,
    ⟨some 38, none, .nilchk (.t 37), 0, 0, false, []⟩,
    ⟨some 39, none, .faddr 0 1 (.t 38), 0, 0, false, []⟩,
    ⟨some 40, none, .load false 1 (.t 39), 0, 0, false, []⟩,
    ⟨some 41, none, .mov (.t 5), 0, 0, false, []⟩,
    ⟨some 42, none, .iaddr 1 (.t 40) (.t 41), 0, 0, false, []⟩,
    ⟨some 43, none, .load false 1 (.t 42), 0, 0, false, []⟩,
    ⟨some 44, none, .conv (.int .i64) (.t 43), 0, 0, false, []⟩,
    ⟨some 45, none, .mov (.t 1), 0, 0, false, []⟩,
    ⟨some 46, none, .bin .rem (.t 44) (.t 45), 0, 0, false, []⟩,
    ⟨some 4, none, .mov (.t 46), 0, 0, false, []⟩])
   (.cutTo [4] (.ret)))
   (.skip))))
   (.cutTo [0, 1, 5] (.seq (.seg true D57x0)
   (.cutTo [1, 6] (.seq (.seg false [⟨some 92, none, .mov (.t 6), 0, 0, false, []⟩,
    ⟨some 93, none, .mov (.t 6), 0, 0, false, []⟩,
    ⟨some 94, none, .bin .quo (.t 93) (.k (.int .i64 64)), 0, 0, false, []⟩,
    ⟨some 95, none, .bin .xor (.t 92) (.t 94), 0, 0, false, []⟩,
    ⟨some 6, none, .mov (.t 95), 0, 0, false, []⟩])
   (.cutTo [1, 6] (.seq (.seg false [⟨some 96, none, .mov (.t 6), 0, 0, false, []⟩,
    ⟨some 97, none, .mov (.t 1), 0, 0, false, []⟩,
    ⟨some 98, none, .bin .rem (.t 96) (.t 97), 0, 0, false, []⟩,
    ⟨some 4, none, .mov (.t 98), 0, 0, false, []⟩])
   (.cutTo [4] (.ret)))))))))))))))⟩
def E58x0 : List I := [⟨some 15, none, .mov (.t 5), 0, 2, false, [5]⟩,
    ⟨some 16, none, .mksl false 1 [.k (.int .i64 1), .k (.int .i64 1), .k (.int .i64 2), .k (.int .i64 3)], 0, 2, false, []⟩,
    ⟨some 17, none, .mov (.t 0), 0, 0, false, []⟩,
    ⟨some 18, none, .call 57 [.t 17, .k (.int .i64 4)] true false, 0, 0, true, []⟩,
    ⟨some 19, none, .iaddr 1 (.t 16) (.t 18), 1, 2, false, []⟩,
    ⟨some 20, none, .load false 1 (.t 19), 1, 2, false, []⟩,
    ⟨some 21, none, .mov (.t 0), 0, 1, false, []⟩,
    ⟨some 22, none, .call 57 [.t 21, .k (.int .i64 3)] true false, 1, 0, true, []⟩,
    ⟨some 23, none, .bin .gtr (.t 22) (.k (.int .i64 0)), 2, 2, false, []⟩,
    ⟨some 24, none, .build [.int .i64 0, .bool false] [(0, 1, .t 20), (1, 1, .t 23)], 2, 2, false, []⟩,
    ⟨some 25, none, .mksl false 2 [.t 24], 2, 2, false, []⟩,
    ⟨some 26, none, .app 2 (.t 15) (.t 25), 2, 0, true, []⟩,
    ⟨some 5, none, .mov (.t 26), 3, 3, false, []⟩]
def D58x0 : List I := E58x0
theorem evD58x0 (run : Run) (e : Env) (h : Heap) : drawI run D58x0 e h = DrawW (evW run E58x0 e h []) run E58x0 e h := drawI_write run _ e h
def B58x0 : C := .seq (.seq (.seg false [⟨some 11, none, .mov (.t 6), 0, 0, false, []⟩,
    ⟨some 12, none, .bin .gtr (.t 11) (.k (.int .i64 0)), 0, 0, false, []⟩])
   (.cond (.t 12) (.skip)
   (.exit 0)))
   (.seq (.block 1 (.seg true D58x0))
   (.cutTo [0, 1, 5, 6] (.seg false [⟨some 13, none, .mov (.t 6), 0, 0, false, []⟩,
    ⟨some 14, none, .bin .sub (.t 13) (.k (.int .i64 1)), 0, 0, false, []⟩,
    ⟨some 6, none, .mov (.t 14), 0, 0, false, []⟩])))
def L58x0 : C := B58x0
theorem evL58x0 (run : Run) (draw : List I → Env → Heap → Option (Env × Heap)) (e : Env) (h : Heap) : evC run draw L58x0 e h = evC run draw B58x0 e h := rfl
/-- loop.example/tablehouse/spec.l20Columns -/
def F58 : F := ⟨40, [(false, 4, 0, false)],
   .seq (.seg false [⟨some 4, none, .nilrow 2, 0, 0, false, []⟩])
   (.seq (.seg false [⟨some 7, none, .mksl true 2 [], 0, 0, false, []⟩,
    ⟨some 5, none, .mov (.t 7), 0, 0, false, []⟩])
   (.seq (.seq (.seg false [⟨some 8, none, .mov (.t 0), 0, 0, false, []⟩,
    ⟨some 9, none, .call 57 [.t 8, .k (.int .i64 3)] true false, 0, 0, false, []⟩,
    ⟨some 10, none, .bin .add (.k (.int .i64 1)) (.t 9), 0, 0, false, []⟩,
    ⟨some 6, none, .mov (.t 10), 0, 0, false, []⟩])
   (.cutTo [0, 1, 5, 6] (.block 0 (.loop [0, 1, 5, 6] [0, 1, 5] L58x0))))
   (.cutTo [0, 1, 5] (.seq (.seq (.seg false [⟨some 27, none, .mov (.t 0), 0, 0, false, []⟩,
    ⟨some 28, none, .mov (.t 1), 0, 0, false, []⟩,
    ⟨some 29, none, .call 119 [.t 27, .t 28] true false, 0, 0, false, []⟩])
   (.cond (.t 29) (.seg false [⟨some 30, none, .mov (.t 5), 0, 0, false, []⟩,
    ⟨some 31, none, .mov (.t 0), 0, 0, false, []⟩,
    ⟨some 32, none, .call 57 [.t 31, .k (.int .i64 6)] true false, 0, 0, false, []⟩,
    ⟨some 33, none, .bin .sub (.t 32) (.k (.int .i64 1)), 0, 0, false, []⟩,
    ⟨some 34, none, .build [.int .i64 0, .bool false] [(0, 1, .t 33)], 0, 0, false, []⟩,
    ⟨some 35, none, .build [.int .i64 0, .bool false] [(0, 1, .k (.int .i64 1))], 0, 0, false, []⟩,
    ⟨some 36, none, .build [.int .i64 0, .bool false] [(0, 1, .k (.int .i64 1))], 0, 0, false, []⟩,
    ⟨some 37, none, .mksl false 2 [.t 34, .t 35, .t 36], 0, 0, false, []⟩,
    ⟨some 38, none, .app 2 (.t 30) (.t 37), 0, 0, false, []⟩,
    ⟨some 5, none, .mov (.t 38), 0, 0, false, []⟩])
   (.skip)))
   (.cutTo [5] (.seq (.seg false [⟨some 39, none, .mov (.t 5), 0, 0, false, []⟩,
    ⟨some 4, none, .mov (.t 39), 0, 0, false, []⟩])
   (.ret)))))))⟩
def B59x0 : C := .seq (.seq (.seg false [⟨some 15, none, .mov (.t 8), 0, 0, false, []⟩,
    ⟨some 16, none, .bin .gtr (.t 15) (.k (.int .i64 0)), 0, 0, false, []⟩])
   (.cond (.t 16) (.skip)
   (.exit 0)))
   (.seq (.block 1 (.seq (.seq (.seg false [⟨some 20, none, .mov (.t 6), 0, 0, false, []⟩,
    ⟨some 21, none, .mov (.t 0), 0, 0, false, []⟩,
    ⟨some 22, none, .call 121 [.t 21, .k (.int .i64 0)] true false, 0, 0, false, []⟩,
    ⟨some 23, none, .mov (.t 7), 0, 0, false, []⟩,
    ⟨some 24, none, .call 120 [.t 20, .t 22, .t 23] true true, 0, 0, false, []⟩,
    ⟨some 19, none, .mov (.t 24), 0, 0, false, []⟩,
    ⟨some 25, none, .ext (.t 19) 0, 0, 0, false, []⟩,
    ⟨some 26, none, .ext (.t 19) 1, 0, 0, false, []⟩,
    ⟨some 9, none, .mov (.t 25), 0, 0, false, []⟩,
    ⟨some 10, none, .mov (.t 26), 0, 0, false, []⟩])
   (.cutTo [0, 1, 6, 7, 8, 9, 10] (.seq (.seg false [⟨some 27, none, .mov (.t 10), 0, 0, false, []⟩])
   (.cond (.t 27) (.seg false [⟨some 28, none, .mov (.t 9), 0, 0, false, []⟩,
    ⟨some 6, none, .mov (.t 28), 0, 0, false, []⟩])
   (.skip)))))
   (.cutTo [0, 1, 6, 7, 8] (.seg false [⟨some 29, none, .mov (.t 7), 0, 0, false, []⟩,
    ⟨some 30, none, .bin .add (.t 29) (.k (.int .i64 1)), 0, 0, false, []⟩,
    ⟨some 31, none, .mov (.t 0), 0, 0, false, []⟩,
    ⟨some 32, none, .call 57 [.t 31, .k (.int .i64 2)] true false, 0, 0, false, []⟩,
    ⟨some 33, none, .bin .add (.t 30) (.t 32), 0, 0, false, []⟩,
    ⟨some 7, none, .mov (.t 33), 0, 0, false, []⟩]))))
   (.cutTo [0, 1, 6, 7, 8] (.seg false [⟨some 17, none, .mov (.t 8), 0, 0, false, []⟩,
    ⟨some 18, none, .bin .sub (.t 17) (.k (.int .i64 1)), 0, 0, false, []⟩,
    ⟨some 8, none, .mov (.t 18), 0, 0, false, []⟩])))
def L59x0 : C := B59x0
theorem evL59x0 (run : Run) (draw : List I → Env → Heap → Option (Env × Heap)) (e : Env) (h : Heap) : evC run draw L59x0 e h = evC run draw B59x0 e h := rfl
/-- loop.example/tablehouse/spec.l20Versions -/
def F59 : F := ⟨84, [(false, 4, 0, false), (false, 5, 0, false)],
   .seq (.seg false [⟨some 4, none, .nilrow 4, 0, 0, false, []⟩,
    ⟨some 5, none, .mov (.k (.int .i64 0)), 0, 0, false, []⟩])
   (.seq (.seg false [⟨some 12, none, .mksl true 4 [], 0, 0, false, []⟩,
    ⟨some 6, none, .mov (.t 12), 0, 0, false, []⟩])
   (.seq (.seg false [⟨some 7, none, .mov (.k (.int .i64 1)), 0, 0, false, []⟩])
   (.seq (.seq (.seg false [⟨some 13, none, .mov (.t 0), 0, 0, false, []⟩,
    ⟨some 14, none, .call 57 [.t 13, .k (.int .i64 7)] true false, 0, 0, false, []⟩,
    ⟨some 8, none, .mov (.t 14), 0, 0, false, []⟩])
   (.block 0 (.loopk [0, 1, 6, 7, 8] [0, 1, 6, 7] L59x0)))
   (.seq (.seq (.seg false [⟨some 34, none, .mov (.t 6), 0, 0, false, []⟩,
    ⟨some 35, none, .len false (.t 34), 0, 0, false, []⟩,
    ⟨some 36, none, .bin .gtr (.t 35) (.k (.int .i64 0)), 0, 0, false, []⟩,
    ⟨some 37, none, .mov (.t 36), 0, 0, false, []⟩,
    ⟨some 38, some (37, true), .mov (.t 0), 0, 0, false, []⟩,
    ⟨some 39, some (37, true), .mov (.t 1), 0, 0, false, []⟩,
    ⟨some 40, some (37, true), .call 119 [.t 38, .t 39] true false, 0, 0, false, []⟩,
    ⟨some 41, none, .pick (.t 37) (.t 40) (.k (.bool false)), 0, 0, false, []⟩])
   (.cutTo [0, 6, 7, 41] (.cond (.t 41) (.seq (.seg false [⟨some 42, none, .mov (.t 0), 0, 0, false, []⟩,
    ⟨some 43, none, .mov (.t 6), 0, 0, false, []⟩,
    ⟨some 44, none, .len false (.t 43), 0, 0, false, []⟩,
    ⟨some 45, none, .call 57 [.t 42, .t 44] true false, 0, 0, false, []⟩,
    ⟨some 11, none, .mov (.t 45), 0, 0, false, []⟩])
   (.cutTo [0, 6, 7, 11] (.seq (.seg false [⟨some 46, none, .mov (.t 0), 0, 0, false, []⟩,
    ⟨some 47, none, .call 57 [.t 46, .k (.int .i64 4)] true false, 0, 0, false, []⟩])
   (.block 2 (.seq (.seg false [⟨some 56, none, .bin .eql (.t 47) (.k (.int .i64 0)), 0, 0, false, []⟩,
    ⟨some 55, none, .mov (.t 56), 0, 0, false, []⟩])
   (.cond (.t 55) (.seg false [⟨some 57, none, .mov (.t 6), 0, 0, false, []⟩,
    ⟨some 58, none, .mov (.t 11), 0, 0, false, []⟩,
    ⟨some 59, none, .mov (.t 0), 0, 0, false, []⟩,
    ⟨some 60, none, .call 57 [.t 59, .k (.int .i64 9)] true false, 0, 0, false, []⟩,
    ⟨some 61, none, .bin .sub (.t 60) (.k (.int .i64 1)), 0, 0, false, []⟩,
    ⟨some 62, none, .iaddr 4 (.t 57) (.t 58), 0, 0, false, []⟩,
    ⟨some 63, none, .faddr 2 1 (.t 62), 0, 0, false, []⟩,
    ⟨none, none, .store 1 (.t 63) (.t 61), 0, 0, false, []⟩])
   (.seq (.seg false [⟨some 65, none, .bin .eql (.t 47) (.k (.int .i64 1)), 0, 0, false, []⟩,
    ⟨some 64, none, .mov (.t 65), 0, 0, false, []⟩])
   (.cond (.t 64) (.seg false [⟨some 66, none, .mov (.t 6), 0, 0, false, []⟩,
    ⟨some 67, none, .mov (.t 11), 0, 0, false, []⟩,
    ⟨some 68, none, .mov (.t 0), 0, 0, false, []⟩,
    ⟨some 69, none, .call 57 [.t 68, .k (.int .i64 8)] true false, 0, 0, false, []⟩,
    ⟨some 70, none, .bin .sub (.t 69) (.k (.int .i64 1)), 0, 0, false, []⟩,
    ⟨some 71, none, .iaddr 4 (.t 66) (.t 67), 0, 0, false, []⟩,
    ⟨some 72, none, .faddr 0 1 (.t 71), 0, 0, false, []⟩,
    ⟨none, none, .store 1 (.t 72) (.t 70), 0, 0, false, []⟩])
   (.seq (.seg false [⟨some 74, none, .bin .eql (.t 47) (.k (.int .i64 2)), 0, 0, false, []⟩,
    ⟨some 73, none, .mov (.t 74), 0, 0, false, []⟩])
   (.cond (.t 73) (.seg false [⟨some 75, none, .mov (.t 6), 0, 0, false, []⟩,
    ⟨some 76, none, .mov (.t 11), 0, 0, false, []⟩,
    ⟨some 77, none, .mov (.t 0), 0, 0, false, []⟩,
    ⟨some 78, none, .call 57 [.t 77, .k (.int .i64 50)] true false, 0, 0, false, []⟩,
    ⟨some 79, none, .bin .sub (.t 78) (.k (.int .i64 1)), 0, 0, false, []⟩,
    ⟨some 80, none, .iaddr 4 (.t 75) (.t 76), 0, 0, false, []⟩,
    ⟨some 81, none, .faddr 1 1 (.t 80), 0, 0, false, []⟩,
    ⟨none, none, .store 1 (.t 81) (.t 79), 0, 0, false, []⟩])
   (.seg false [⟨some 48, none, .mov (.t 6), 0, 0, false, []⟩,
    ⟨some 49, none, .mov (.t 6), 0, 0, false, []⟩,
    ⟨some 50, none, .mov (.t 11), 0, 0, false, []⟩,
    ⟨some 51, none, .iaddr 4 (.t 49) (.t 50), 0, 0, false, []⟩,
    ⟨some 52, none, .load true 4 (.t 51), 0, 0, false, []⟩,
    ⟨some 53, none, .mksl false 4 [.t 52], 0, 0, false, []⟩,
    ⟨some 54, none, .app 4 (.t 48) (.t 53), 0, 0, false, []⟩,
    ⟨some 6, none, .mov (.t 54), 0, 0, false, []⟩])))))))))))
   (.skip))))
   (.cutTo [6, 7] (.seq (.seg false [⟨some 82, none, .mov (.t 6), 0, 0, false, []⟩,
    ⟨some 83, none, .mov (.t 7), 0, 0, false, []⟩,
    ⟨some 4, none, .mov (.t 82), 0, 0, false, []⟩,
    ⟨some 5, none, .mov (.t 83), 0, 0, false, []⟩])
   (.cutTo [4, 5] (.ret))))))))⟩
/-- loop.example/tablehouse/impl.tableOf -/
def F60 : F := ⟨17, [(true, 4, 2, true), (false, 5, 0, false)],
   .seq (.seg false [⟨some 4, none, .alloc [.sl true 2 [], .sl true 1 []], 0, 0, false, []⟩,
    ⟨some 5, none, .mov (.k (.bool false)), 0, 0, false, []⟩])
   (.seq (.seg false [⟨some 7, none, .mov (.t 0), 0, 0, false, []⟩,
    ⟨some 8, none, .mov (.t 1), 0, 0, false, []⟩,
    ⟨some 9, none, .build [.sl true 2 [], .sl true 1 []] [(0, 1, .t 7), (1, 1, .t 8)], 0, 0, false, []⟩,
    ⟨some 6, none, .alloc [.sl true 2 [], .sl true 1 []], 0, 0, false, []⟩,
    ⟨none, none, .store 2 (.t 6) (.t 9), 0, 0, false, []⟩])
   (.cutTo [4, 6] (.seq (.seq (.seg false [⟨some 10, none, .load true 2 (.t 6), 0, 0, false, []⟩,
    ⟨some 11, none, .mksl false 2 [.t 10], 0, 0, false, []⟩,
    ⟨some 12, none, .call 17 [.t 11] false false, 0, 0, false, []⟩,
    ⟨some 13, none, .un .not (.t 12), 0, 0, false, []⟩])
   (.cutTo [4, 6, 13] (.cond (.t 13) (.seq (.seg false [⟨some 14, none, .build [.sl true 2 [], .sl true 1 []] [], 0, 0, false, []⟩,
    ⟨none, none, .store 2 (.t 4) (.t 14), 0, 0, false, []⟩,
    ⟨some 5, none, .mov (.k (.bool false)), 0, 0, false, []⟩])
   (.ret))
   (.skip))))
   (.cutTo [4, 6] (.seq (.seg false [⟨some 15, none, .load true 2 (.t 6), 0, 0, false, []⟩,
    ⟨some 16, none, .callx 0 122 [.t 15], 0, 0, false, []⟩,
    ⟨none, none, .store 2 (.t 4) (.t 16), 0, 0, false, []⟩,
    ⟨some 5, none, .mov (.k (.bool true)), 0, 0, false, []⟩])
   (.cutTo [4, 5] (.ret)))))))⟩
def B61x0 : C := .seq (.seq (.seg false [⟨some 10, none, .mov (.t 6), 0, 0, false, []⟩,
    ⟨some 11, none, .bin .lss (.t 10) (.k (.int .i64 5)), 0, 0, false, []⟩])
   (.cond (.t 11) (.skip)
   (.exit 0)))
   (.seq (.block 1 (.seq (.seg false [⟨some 15, none, .mov (.t 0), 0, 0, false, []⟩,
    ⟨some 16, none, .mov (.t 6), 0, 0, false, []⟩,
    ⟨some 17, none, .mov (.t 1), 0, 0, false, []⟩,
    ⟨some 18, none, .call 123 [.t 15, .t 16, .t 17] false false, 0, 0, false, []⟩,
    ⟨some 14, none, .mov (.t 18), 0, 0, false, []⟩,
    ⟨some 19, none, .ext (.t 14) 0, 0, 0, false, []⟩,
    ⟨some 20, none, .ext (.t 14) 1, 0, 0, false, []⟩,
    ⟨some 7, none, .mov (.t 19), 0, 0, false, []⟩,
    ⟨some 8, none, .mov (.t 20), 0, 0, false, []⟩])
   (.cutTo [0, 1, 5, 6, 7, 8] (.seq (.seg false [⟨some 21, none, .mov (.t 8), 0, 0, false, []⟩])
   (.cond (.t 21) (.seg false [⟨some 22, none, .mov (.t 5), 0, 0, false, []⟩,
    ⟨some 23, none, .mov (.t 7), 0, 0, false, []⟩,
    ⟨some 24, none, .mksl false 1 [.t 23], 0, 0, false, []⟩,
    ⟨some 25, none, .app 1 (.t 22) (.t 24), 0, 0, false, []⟩,
    ⟨some 5, none, .mov (.t 25), 0, 0, false, []⟩])
   (.skip))))))
   (.cutTo [0, 1, 5, 6] (.seg false [⟨some 12, none, .mov (.t 6), 0, 0, false, []⟩,
    ⟨some 13, none, .bin .add (.t 12) (.k (.int .i64 1)), 0, 0, false, []⟩,
    ⟨some 6, none, .mov (.t 13), 0, 0, false, []⟩])))
def L61x0 : C := B61x0
theorem evL61x0 (run : Run) (draw : List I → Env → Heap → Option (Env × Heap)) (e : Env) (h : Heap) : evC run draw L61x0 e h = evC run draw B61x0 e h := rfl
/-- loop.example/tablehouse/spec.RowsAt -/
def F61 : F := ⟨27, [(false, 4, 0, false)],
   .seq (.seg false [⟨some 4, none, .nilrow 1, 0, 0, false, []⟩])
   (.seq (.seg false [⟨some 9, none, .mksl true 1 [], 0, 0, false, []⟩,
    ⟨some 5, none, .mov (.t 9), 0, 0, false, []⟩])
   (.seq (.seq (.seg false [⟨some 6, none, .mov (.k (.int .i64 0)), 0, 0, false, []⟩])
   (.block 0 (.loop [0, 1, 5, 6] [5] L61x0)))
   (.seq (.seg false [⟨some 26, none, .mov (.t 5), 0, 0, false, []⟩,
    ⟨some 4, none, .mov (.t 26), 0, 0, false, []⟩])
   (.ret))))⟩
def E62x0 : List I := [⟨some 16, none, .mov (.t 3), 0, 0, false, []⟩,
    ⟨some 17, none, .bin .gtr (.t 16) (.k (.int .i64 0)), 0, 0, false, []⟩,
    ⟨some 18, none, .mov (.t 17), 0, 0, false, []⟩,
    ⟨some 19, some (18, true), .mov (.t 0), 0, 0, false, []⟩,
    ⟨some 20, some (18, true), .mov (.t 3), 0, 0, false, []⟩,
    ⟨some 21, some (18, true), .bin .sub (.t 20) (.k (.int .i64 1)), 0, 0, false, []⟩,
    ⟨some 22, some (18, true), .iaddr 4 (.t 19) (.t 21), 0, 0, false, []⟩,
    ⟨some 23, some (18, true), .faddr 0 1 (.t 22), 0, 0, false, []⟩,
    ⟨some 24, some (18, true), .load false 1 (.t 23), 0, 0, false, []⟩,
    ⟨some 25, some (18, true), .mov (.t 0), 0, 0, false, []⟩,
    ⟨some 26, some (18, true), .mov (.t 3), 0, 0, false, []⟩,
    ⟨some 27, some (18, true), .iaddr 4 (.t 25) (.t 26), 0, 0, false, []⟩,
    ⟨some 28, some (18, true), .faddr 0 1 (.t 27), 0, 0, false, []⟩,
    ⟨some 29, some (18, true), .load false 1 (.t 28), 0, 0, false, []⟩,
    ⟨some 30, some (18, true), .bin .geq (.t 24) (.t 29), 0, 0, false, []⟩,
    ⟨some 31, none, .pick (.t 18) (.t 30) (.k (.bool false)), 0, 0, false, []⟩,
    ⟨some 32, none, .mov (.t 31), 0, 0, false, []⟩,
    ⟨some 33, some (32, true), .mov (.t 0), 0, 0, false, []⟩,
    ⟨some 34, some (32, true), .mov (.t 3), 0, 0, false, []⟩,
    ⟨some 35, some (32, true), .bin .sub (.t 34) (.k (.int .i64 1)), 0, 0, false, []⟩,
    ⟨some 36, some (32, true), .iaddr 4 (.t 33) (.t 35), 0, 0, false, []⟩,
    ⟨some 37, some (32, true), .faddr 0 1 (.t 36), 0, 0, false, []⟩,
    ⟨some 38, some (32, true), .load false 1 (.t 37), 0, 0, false, []⟩,
    ⟨some 39, some (32, true), .mov (.t 0), 0, 0, false, []⟩,
    ⟨some 40, some (32, true), .mov (.t 3), 0, 0, false, []⟩,
    ⟨some 41, some (32, true), .iaddr 4 (.t 39) (.t 40), 0, 0, false, []⟩,
    ⟨some 42, some (32, true), .faddr 0 1 (.t 41), 0, 0, false, []⟩,
    ⟨some 43, some (32, true), .load false 1 (.t 42), 0, 0, false, []⟩,
    ⟨some 44, some (32, true), .bin .gtr (.t 38) (.t 43), 0, 0, false, []⟩,
    ⟨some 45, some (32, true), .mov (.t 44), 0, 0, false, []⟩,
    ⟨some 46, some (45, false), .mov (.t 0), 0, 0, false, []⟩,
    ⟨some 47, some (45, false), .mov (.t 3), 0, 0, false, []⟩,
    ⟨some 48, some (45, false), .bin .sub (.t 47) (.k (.int .i64 1)), 0, 0, false, []⟩,
    ⟨some 49, some (45, false), .iaddr 4 (.t 46) (.t 48), 0, 0, false, []⟩,
    ⟨some 50, some (45, false), .faddr 2 1 (.t 49), 0, 0, false, []⟩,
    ⟨some 51, some (45, false), .load false 1 (.t 50), 0, 0, false, []⟩,
    ⟨some 52, some (45, false), .bin .eql (.t 51) (.k (.int .i64 0)), 0, 0, false, []⟩,
    ⟨some 53, some (32, true), .pick (.t 45) (.k (.bool true)) (.t 52), 0, 0, false, []⟩,
    ⟨some 54, some (32, true), .mov (.t 53), 0, 0, false, []⟩,
    ⟨some 55, some (54, false), .mov (.t 0), 0, 0, false, []⟩,
    ⟨some 56, some (54, false), .mov (.t 3), 0, 0, false, []⟩,
    ⟨some 57, some (54, false), .bin .sub (.t 56) (.k (.int .i64 1)), 0, 0, false, []⟩,
    ⟨some 58, some (54, false), .iaddr 4 (.t 55) (.t 57), 0, 0, false, []⟩,
    ⟨some 59, some (54, false), .faddr 2 1 (.t 58), 0, 0, false, []⟩,
    ⟨some 60, some (54, false), .load false 1 (.t 59), 0, 0, false, []⟩,
    ⟨some 61, some (54, false), .mov (.t 0), 0, 0, false, []⟩,
    ⟨some 62, some (54, false), .mov (.t 3), 0, 0, false, []⟩,
    ⟨some 63, some (54, false), .iaddr 4 (.t 61) (.t 62), 0, 0, false, []⟩,
    ⟨some 64, some (54, false), .faddr 1 1 (.t 63), 0, 0, false, []⟩,
    ⟨some 65, some (54, false), .load false 1 (.t 64), 0, 0, false, []⟩,
    ⟨some 66, some (54, false), .bin .gtr (.t 60) (.t 65), 0, 0, false, []⟩,
    ⟨some 67, some (32, true), .pick (.t 54) (.k (.bool true)) (.t 66), 0, 0, false, []⟩,
    ⟨some 68, none, .pick (.t 32) (.t 67) (.k (.bool false)), 0, 0, false, []⟩]
def D62x0 : List I := E62x0
theorem evD62x0 (run : Run) (e : Env) (h : Heap) : drawI run D62x0 e h = DrawS (evQ run E62x0 e h) run E62x0 e h := drawI_quiet run _ (by rfl) e h
def B62x0 : C := .seq (.seq (.seg false [⟨some 4, none, .mov (.t 3), 0, 0, false, []⟩,
    ⟨some 5, none, .mov (.t 0), 0, 0, false, []⟩,
    ⟨some 6, none, .len false (.t 5), 0, 0, false, []⟩,
    ⟨some 7, none, .bin .lss (.t 4) (.t 6), 0, 0, false, []⟩])
   (.cutTo [0, 3, 7] (.cond (.t 7) (.skip)
   (.exit 0))))
   (.cutTo [0, 3] (.seq (.block 1 (.seq (.seq (.seg false [⟨some 10, none, .mov (.t 0), 0, 0, false, []⟩,
    ⟨some 11, none, .mov (.t 3), 0, 0, false, []⟩,
    ⟨some 12, none, .iaddr 4 (.t 10) (.t 11), 0, 0, false, []⟩,
    ⟨some 13, none, .load true 4 (.t 12), 0, 0, false, []⟩,
    ⟨some 14, none, .call 102 [.t 13] false false, 0, 0, false, []⟩,
    ⟨some 15, none, .un .not (.t 14), 0, 0, false, []⟩])
   (.cutTo [0, 3, 15] (.cond (.t 15) (.seq (.seg false [⟨some 2, none, .mov (.k (.bool false)), 0, 0, false, []⟩])
   (.ret))
   (.skip))))
   (.cutTo [0, 3] (.seq (.seg true D62x0)
   (.cutTo [0, 3, 68] (.cond (.t 68) (.seq (.seg false [⟨some 2, none, .mov (.k (.bool false)), 0, 0, false, []⟩])
   (.ret))
   (.skip)))))))
   (.cutTo [0, 3] (.seg false [⟨some 8, none, .mov (.t 3), 0, 0, false, []⟩,
    ⟨some 9, none, .bin .add (.t 8) (.k (.int .i64 1)), 0, 0, false, []⟩,
    ⟨some 3, none, .mov (.t 9), 0, 0, false, []⟩]))))
def L62x0 : C := B62x0
theorem evL62x0 (run : Run) (draw : List I → Env → Heap → Option (Env × Heap)) (e : Env) (h : Heap) : evC run draw L62x0 e h = evC run draw B62x0 e h := rfl
/-- loop.example/tablehouse/spec.VersionsOk -/
def F62 : F := ⟨72, [(false, 2, 0, false)],
   .seq (.seg false [⟨some 2, none, .mov (.k (.bool false)), 0, 0, false, []⟩])
   (.seq (.seq (.seg false [⟨some 3, none, .mov (.k (.int .i64 0)), 0, 0, false, []⟩])
   (.block 0 (.loop [0, 3] [0, 2] L62x0)))
   (.seq (.seg false [⟨some 69, none, .mov (.t 0), 0, 0, false, []⟩,
    ⟨some 70, none, .len false (.t 69), 0, 0, false, []⟩,
    ⟨some 71, none, .bin .leq (.t 70) (.k (.int .i64 60)), 0, 0, false, []⟩,
    ⟨some 2, none, .mov (.t 71), 0, 0, false, []⟩])
   (.cutTo [2] (.ret))))⟩
def B63x0 : C := .seq (.seq (.seg false [⟨some 6, none, .mov (.t 5), 0, 0, false, []⟩,
    ⟨some 7, none, .mov (.t 1), 0, 0, false, []⟩,
    ⟨some 8, none, .len false (.t 7), 0, 0, false, []⟩,
    ⟨some 9, none, .bin .lss (.t 6) (.t 8), 0, 0, false, []⟩])
   (.cutTo [0, 1, 5, 9] (.cond (.t 9) (.skip)
   (.exit 0))))
   (.cutTo [0, 1, 5] (.seq (.block 1 (.seq (.seg false [⟨some 12, none, .mov (.t 0), 0, 0, false, []⟩,
    ⟨some 13, none, .mov (.t 1), 0, 0, false, []⟩,
    ⟨some 14, none, .mov (.t 5), 0, 0, false, []⟩,
    ⟨some 15, none, .iaddr 1 (.t 13) (.t 14), 0, 0, false, []⟩,
    ⟨some 16, none, .load false 1 (.t 15), 0, 0, false, []⟩,
    ⟨some 17, none, .call 124 [.t 12, .t 16] false false, 0, 0, false, []⟩,
    ⟨some 18, none, .un .not (.t 17), 0, 0, false, []⟩])
   (.cutTo [0, 1, 5, 18] (.cond (.t 18) (.seq (.seg false [⟨some 4, none, .mov (.k (.bool false)), 0, 0, false, []⟩])
   (.ret))
   (.skip)))))
   (.cutTo [0, 1, 5] (.seg false [⟨some 10, none, .mov (.t 5), 0, 0, false, []⟩,
    ⟨some 11, none, .bin .add (.t 10) (.k (.int .i64 1)), 0, 0, false, []⟩,
    ⟨some 5, none, .mov (.t 11), 0, 0, false, []⟩]))))
def L63x0 : C := B63x0
theorem evL63x0 (run : Run) (draw : List I → Env → Heap → Option (Env × Heap)) (e : Env) (h : Heap) : evC run draw L63x0 e h = evC run draw B63x0 e h := rfl
/-- loop.example/tablehouse/spec.RowsOk -/
def F63 : F := ⟨21, [(false, 4, 0, false)],
   .seq (.seg false [⟨some 4, none, .mov (.k (.bool false)), 0, 0, false, []⟩])
   (.seq (.seq (.seg false [⟨some 5, none, .mov (.k (.int .i64 0)), 0, 0, false, []⟩])
   (.block 0 (.loop [0, 1, 5] [0, 4] L63x0)))
   (.seq (.seg false [⟨some 19, none, .mov (.t 0), 0, 0, false, []⟩,
    ⟨some 20, none, .call 125 [.t 19] false false, 0, 0, false, []⟩,
    ⟨some 4, none, .mov (.t 20), 0, 0, false, []⟩])
   (.ret)))⟩
def E64x0 : List I := [⟨some 18, none, .mov (.t 0), 0, 0, false, []⟩,
    ⟨some 19, none, .mov (.t 5), 0, 0, false, []⟩,
    ⟨some 20, none, .iaddr 2 (.t 18) (.t 19), 0, 0, false, []⟩,
    ⟨some 21, none, .faddr 0 1 (.t 20), 0, 0, false, []⟩,
    ⟨some 22, none, .load false 1 (.t 21), 0, 0, false, []⟩,
    ⟨some 23, none, .len false (.t 22), 0, 0, false, []⟩,
    ⟨some 24, none, .mov (.t 1), 0, 0, false, []⟩,
    ⟨some 25, none, .mov (.t 5), 0, 0, false, []⟩,
    ⟨some 26, none, .iaddr 2 (.t 24) (.t 25), 0, 0, false, []⟩,
    ⟨some 27, none, .faddr 0 1 (.t 26), 0, 0, false, []⟩,
    ⟨some 28, none, .load false 1 (.t 27), 0, 0, false, []⟩,
    ⟨some 29, none, .len false (.t 28), 0, 0, false, []⟩,
    ⟨some 30, none, .bin .neq (.t 23) (.t 29), 0, 0, false, []⟩,
    ⟨some 31, none, .mov (.t 30), 0, 0, false, []⟩,
    ⟨some 32, some (31, false), .mov (.t 0), 0, 0, false, []⟩,
    ⟨some 33, some (31, false), .mov (.t 5), 0, 0, false, []⟩,
    ⟨some 34, some (31, false), .iaddr 2 (.t 32) (.t 33), 0, 0, false, []⟩,
    ⟨some 35, some (31, false), .faddr 1 1 (.t 34), 0, 0, false, []⟩,
    ⟨some 36, some (31, false), .load false 1 (.t 35), 0, 0, false, []⟩,
    ⟨some 37, some (31, false), .mov (.t 1), 0, 0, false, []⟩,
    ⟨some 38, some (31, false), .mov (.t 5), 0, 0, false, []⟩,
    ⟨some 39, some (31, false), .iaddr 2 (.t 37) (.t 38), 0, 0, false, []⟩,
    ⟨some 40, some (31, false), .faddr 1 1 (.t 39), 0, 0, false, []⟩,
    ⟨some 41, some (31, false), .load false 1 (.t 40), 0, 0, false, []⟩,
    ⟨some 42, some (31, false), .call 15 [.t 36, .t 41] false false, 0, 0, false, []⟩,
    ⟨some 43, some (31, false), .un .not (.t 42), 0, 0, false, []⟩,
    ⟨some 44, none, .pick (.t 31) (.k (.bool true)) (.t 43), 0, 0, false, []⟩]
def D64x0 : List I := E64x0
theorem evD64x0 (run : Run) (e : Env) (h : Heap) : drawI run D64x0 e h = DrawS (evQ run E64x0 e h) run E64x0 e h := drawI_quiet run _ (by rfl) e h
def E64x1 : List I := [⟨some 55, none, .mov (.t 0), 0, 0, false, []⟩,
    ⟨some 56, none, .mov (.t 5), 0, 0, false, []⟩,
    ⟨some 57, none, .iaddr 2 (.t 55) (.t 56), 0, 0, false, []⟩,
    ⟨some 58, none, .faddr 0 1 (.t 57), 0, 0, false, []⟩,
    ⟨some 59, none, .load false 1 (.t 58), 0, 0, false, []⟩,
    ⟨some 60, none, .mov (.t 6), 0, 0, false, []⟩,
    ⟨some 61, none, .iaddr 2 (.t 59) (.t 60), 0, 0, false, []⟩,
    ⟨some 62, none, .load true 2 (.t 61), 0, 0, false, []⟩,
    ⟨some 63, none, .mov (.t 1), 0, 0, false, []⟩,
    ⟨some 64, none, .mov (.t 5), 0, 0, false, []⟩,
    ⟨some 65, none, .iaddr 2 (.t 63) (.t 64), 0, 0, false, []⟩,
    ⟨some 66, none, .faddr 0 1 (.t 65), 0, 0, false, []⟩,
    ⟨some 67, none, .load false 1 (.t 66), 0, 0, false, []⟩,
    ⟨some 68, none, .mov (.t 6), 0, 0, false, []⟩,
    ⟨some 69, none, .iaddr 2 (.t 67) (.t 68), 0, 0, false, []⟩,
    ⟨some 70, none, .load true 2 (.t 69), 0, 0, false, []⟩,
    ⟨some 71, none, .eqs true [.int, .bool] (.t 62) (.t 70), 0, 0, false, []⟩]
def D64x1 : List I := E64x1
theorem evD64x1 (run : Run) (e : Env) (h : Heap) : drawI run D64x1 e h = DrawS (evQ run E64x1 e h) run E64x1 e h := drawI_quiet run _ (by rfl) e h
def B64x1 : C := .seq (.seq (.seg false [⟨some 45, none, .mov (.t 6), 0, 0, false, []⟩,
    ⟨some 46, none, .mov (.t 0), 0, 0, false, []⟩,
    ⟨some 47, none, .mov (.t 5), 0, 0, false, []⟩,
    ⟨some 48, none, .iaddr 2 (.t 46) (.t 47), 0, 0, false, []⟩,
    ⟨some 49, none, .faddr 0 1 (.t 48), 0, 0, false, []⟩,
    ⟨some 50, none, .load false 1 (.t 49), 0, 0, false, []⟩,
    ⟨some 51, none, .len false (.t 50), 0, 0, false, []⟩,
    ⟨some 52, none, .bin .lss (.t 45) (.t 51), 0, 0, false, []⟩])
   (.cutTo [0, 1, 5, 6, 52] (.cond (.t 52) (.skip)
   (.exit 2))))
   (.cutTo [0, 1, 5, 6] (.seq (.block 3 (.seq (.seg true D64x1)
   (.cutTo [0, 1, 5, 6, 71] (.cond (.t 71) (.seq (.seg false [⟨some 4, none, .mov (.k (.bool false)), 0, 0, false, []⟩])
   (.ret))
   (.skip)))))
   (.cutTo [0, 1, 5, 6] (.seg false [⟨some 53, none, .mov (.t 6), 0, 0, false, []⟩,
    ⟨some 54, none, .bin .add (.t 53) (.k (.int .i64 1)), 0, 0, false, []⟩,
    ⟨some 6, none, .mov (.t 54), 0, 0, false, []⟩]))))
def L64x1 : C := B64x1
theorem evL64x1 (run : Run) (draw : List I → Env → Heap → Option (Env × Heap)) (e : Env) (h : Heap) : evC run draw L64x1 e h = evC run draw B64x1 e h := rfl
def B64x0 : C := .seq (.seq (.seg false [⟨some 12, none, .mov (.t 5), 0, 0, false, []⟩,
    ⟨some 13, none, .mov (.t 0), 0, 0, false, []⟩,
    ⟨some 14, none, .len false (.t 13), 0, 0, false, []⟩,
    ⟨some 15, none, .bin .lss (.t 12) (.t 14), 0, 0, false, []⟩])
   (.cutTo [0, 1, 5, 15] (.cond (.t 15) (.skip)
   (.exit 0))))
   (.cutTo [0, 1, 5] (.seq (.block 1 (.seq (.seq (.seg true D64x0)
   (.cutTo [0, 1, 5, 44] (.cond (.t 44) (.seq (.seg false [⟨some 4, none, .mov (.k (.bool false)), 0, 0, false, []⟩])
   (.ret))
   (.skip))))
   (.cutTo [0, 1, 5] (.seq (.seg false [⟨some 6, none, .mov (.k (.int .i64 0)), 0, 0, false, []⟩])
   (.block 2 (.loop [0, 1, 5, 6] [0, 1, 4, 5] L64x1))))))
   (.cutTo [0, 1, 5] (.seg false [⟨some 16, none, .mov (.t 5), 0, 0, false, []⟩,
    ⟨some 17, none, .bin .add (.t 16) (.k (.int .i64 1)), 0, 0, false, []⟩,
    ⟨some 5, none, .mov (.t 17), 0, 0, false, []⟩]))))
def L64x0 : C := B64x0
theorem evL64x0 (run : Run) (draw : List I → Env → Heap → Option (Env × Heap)) (e : Env) (h : Heap) : evC run draw L64x0 e h = evC run draw B64x0 e h := rfl
/-- loop.example/tablehouse/laws.sameTables -/
def F64 : F := ⟨72, [(false, 4, 0, false)],
   .seq (.seg false [⟨some 4, none, .mov (.k (.bool false)), 0, 0, false, []⟩])
   (.seq (.seq (.seg false [⟨some 7, none, .mov (.t 0), 0, 0, false, []⟩,
    ⟨some 8, none, .len false (.t 7), 0, 0, false, []⟩,
    ⟨some 9, none, .mov (.t 1), 0, 0, false, []⟩,
    ⟨some 10, none, .len false (.t 9), 0, 0, false, []⟩,
    ⟨some 11, none, .bin .neq (.t 8) (.t 10), 0, 0, false, []⟩])
   (.cutTo [0, 1, 11] (.cond (.t 11) (.seq (.seg false [⟨some 4, none, .mov (.k (.bool false)), 0, 0, false, []⟩])
   (.ret))
   (.skip))))
   (.cutTo [0, 1] (.seq (.seq (.seg false [⟨some 5, none, .mov (.k (.int .i64 0)), 0, 0, false, []⟩])
   (.block 0 (.loop [0, 1, 5] [4] L64x0)))
   (.seq (.seg false [⟨some 4, none, .mov (.k (.bool true)), 0, 0, false, []⟩])
   (.ret)))))⟩
def B66x0 : C := .seq (.seg false [⟨some 13, none, .bin .lss (.t 12) (.t 11), 0, 0, false, []⟩])
   (.seq (.cond (.t 13) (.skip)
   (.exit 0))
   (.seq (.block 1 (.seq (.seg false [⟨some 14, none, .iaddr 4 (.t 10) (.t 12), 0, 0, false, []⟩,
    ⟨some 15, none, .load true 4 (.t 14), 0, 0, false, []⟩,
    ⟨some 9, none, .alloc [.int .i64 0, .int .i64 0, .int .i64 0, .sl true 3 []], 0, 0, false, []⟩,
    ⟨none, none, .store 4 (.t 9) (.t 15), 0, 0, false, []⟩])
   (.cutTo [1, 2, 6, 9, 10, 11, 12] (.seq (.seg false [⟨some 16, none, .faddr 0 1 (.t 9), 0, 0, false, []⟩,
    ⟨some 17, none, .load false 1 (.t 16), 0, 0, false, []⟩,
    ⟨some 18, none, .mov (.t 1), 0, 0, false, []⟩,
    ⟨some 19, none, .bin .eql (.t 17) (.t 18), 0, 0, false, []⟩,
    ⟨some 20, none, .mov (.t 19), 0, 0, false, []⟩,
    ⟨some 21, some (20, true), .faddr 1 1 (.t 9), 0, 0, false, []⟩,
    ⟨some 22, some (20, true), .load false 1 (.t 21), 0, 0, false, []⟩,
    ⟨some 23, some (20, true), .mov (.t 2), 0, 0, false, []⟩,
    ⟨some 24, some (20, true), .bin .leq (.t 22) (.t 23), 0, 0, false, []⟩,
    ⟨some 25, none, .pick (.t 20) (.t 24) (.k (.bool false)), 0, 0, false, []⟩,
    ⟨some 26, none, .mov (.t 25), 0, 0, false, []⟩,
    ⟨some 27, some (26, true), .faddr 2 1 (.t 9), 0, 0, false, []⟩,
    ⟨some 28, some (26, true), .load false 1 (.t 27), 0, 0, false, []⟩,
    ⟨some 29, some (26, true), .bin .eql (.t 28) (.k (.int .i64 0)), 0, 0, false, []⟩,
    ⟨some 30, some (26, true), .mov (.t 29), 0, 0, false, []⟩,
    ⟨some 31, some (30, false), .faddr 2 1 (.t 9), 0, 0, false, []⟩,
    ⟨some 32, some (30, false), .load false 1 (.t 31), 0, 0, false, []⟩,
    ⟨some 33, some (30, false), .mov (.t 2), 0, 0, false, []⟩,
    ⟨some 34, some (30, false), .bin .gtr (.t 32) (.t 33), 0, 0, false, []⟩,
    ⟨some 35, some (26, true), .pick (.t 30) (.k (.bool true)) (.t 34), 0, 0, false, []⟩,
    ⟨some 36, none, .pick (.t 26) (.t 35) (.k (.bool false)), 0, 0, false, []⟩])
   (.cutTo [1, 2, 6, 9, 10, 11, 12, 36] (.cond (.t 36) (.seq (.seg false [⟨some 37, none, .load true 4 (.t 9), 0, 0, false, []⟩,
    ⟨none, none, .store 4 (.t 6) (.t 37), 0, 0, false, []⟩,
    ⟨some 7, none, .mov (.k (.bool true)), 0, 0, false, []⟩])
   (.ret))
   (.skip)))))))
   (.cutTo [1, 2, 6, 10, 11, 12] (.seg false [⟨some 38, none, .bin .add (.t 12) (.k (.int .i64 1)), 0, 0, false, []⟩,
    ⟨some 12, none, .mov (.t 38), 0, 0, false, []⟩]))))
def L66x0 : C := B66x0
theorem evL66x0 (run : Run) (draw : List I → Env → Heap → Option (Env × Heap)) (e : Env) (h : Heap) : evC run draw L66x0 e h = evC run draw B66x0 e h := rfl
/-- loop.example/tablehouse/impl.seen -/
def F66 : F := ⟨40, [(true, 6, 4, true), (false, 7, 0, false)],
   .seq (.seg false [⟨some 6, none, .alloc [.int .i64 0, .int .i64 0, .int .i64 0, .sl true 3 []], 0, 0, false, []⟩,
    ⟨some 7, none, .mov (.k (.bool false)), 0, 0, false, []⟩])
   (.seq (.seq (.seg false [⟨some 10, none, .mov (.t 0), 0, 0, false, []⟩,
    ⟨some 11, none, .len false (.t 10), 0, 0, false, []⟩,
    ⟨some 12, none, .mov (.k (.int .i64 0)), 0, 0, false, []⟩])
   (.block 0 (.loop [1, 2, 6, 10, 11, 12] [6, 7] L66x0)))
   (.seq (.seg false [⟨some 39, none, .build [.int .i64 0, .int .i64 0, .int .i64 0, .sl true 3 []] [], 0, 0, false, []⟩,
    ⟨none, none, .store 4 (.t 6) (.t 39), 0, 0, false, []⟩,
    ⟨some 7, none, .mov (.k (.bool false)), 0, 0, false, []⟩])
   (.ret)))⟩
def B67x0 : C := .seq (.seg false [⟨some 9, none, .bin .lss (.t 8) (.t 7), 0, 0, false, []⟩])
   (.seq (.cond (.t 9) (.skip)
   (.exit 0))
   (.seq (.block 1 (.seq (.seg false [⟨some 10, none, .iaddr 1 (.t 6) (.t 8), 0, 0, false, []⟩,
    ⟨some 11, none, .load false 1 (.t 10), 0, 0, false, []⟩,
    ⟨some 5, none, .mov (.t 11), 0, 0, false, []⟩])
   (.seg false [⟨some 12, none, .mov (.t 3), 0, 0, false, []⟩,
    ⟨some 13, none, .mov (.t 5), 0, 0, false, []⟩,
    ⟨some 14, none, .callx 0 126 [.t 13], 0, 0, false, []⟩,
    ⟨some 15, none, .mkns 1 [.t 14], 0, 0, false, []⟩,
    ⟨some 16, none, .appn 1 (.t 12) (.t 15), 0, 0, false, []⟩,
    ⟨some 3, none, .mov (.t 16), 0, 0, false, []⟩])))
   (.cutTo [3, 6, 7, 8] (.seg false [⟨some 17, none, .bin .add (.t 8) (.k (.int .i64 1)), 0, 0, false, []⟩,
    ⟨some 8, none, .mov (.t 17), 0, 0, false, []⟩]))))
def L67x0 : C := B67x0
theorem evL67x0 (run : Run) (draw : List I → Env → Heap → Option (Env × Heap)) (e : Env) (h : Heap) : evC run draw L67x0 e h = evC run draw B67x0 e h := rfl
/-- loop.example/tablehouse/impl.rowsCopy -/
def F67 : F := ⟨20, [(false, 2, 0, false)],
   .seq (.seg false [⟨some 2, none, .mov (.k (.sl true 1 [])), 0, 0, false, []⟩])
   (.seq (.seg false [⟨some 3, none, .nilnest 1, 0, 0, false, []⟩])
   (.seq (.seq (.seg false [⟨some 6, none, .mov (.t 0), 0, 0, false, []⟩,
    ⟨some 7, none, .len false (.t 6), 0, 0, false, []⟩,
    ⟨some 8, none, .mov (.k (.int .i64 0)), 0, 0, false, []⟩])
   (.block 0 (.loopk [3, 6, 7, 8] [3] L67x0)))
   (.seq (.seg false [⟨some 18, none, .mov (.t 3), 0, 0, false, []⟩,
    ⟨some 19, none, .callx 2 87 [.t 18], 0, 0, false, []⟩,
    ⟨some 2, none, .mov (.t 19), 0, 0, false, []⟩])
   (.ret))))⟩
def E65x0 : List I := [⟨some 17, none, .mov (.t 0), 0, 0, false, []⟩,
    ⟨some 18, none, .mov (.t 5), 0, 0, false, []⟩,
    ⟨some 19, none, .iaddr 3 (.t 17) (.t 18), 0, 0, false, []⟩,
    ⟨some 20, none, .load true 3 (.t 19), 0, 0, false, []⟩,
    ⟨some 21, none, .mov (.t 1), 0, 0, false, []⟩,
    ⟨some 22, none, .mov (.t 5), 0, 0, false, []⟩,
    ⟨some 23, none, .iaddr 3 (.t 21) (.t 22), 0, 0, false, []⟩,
    ⟨some 24, none, .load true 3 (.t 23), 0, 0, false, []⟩,
    ⟨some 25, none, .eqs true [.int, .int, .str] (.t 20) (.t 24), 0, 0, false, []⟩]
def D65x0 : List I := E65x0
theorem evD65x0 (run : Run) (e : Env) (h : Heap) : drawI run D65x0 e h = DrawS (evQ run E65x0 e h) run E65x0 e h := drawI_quiet run _ (by rfl) e h
def B65x0 : C := .seq (.seq (.seg false [⟨some 11, none, .mov (.t 5), 0, 0, false, []⟩,
    ⟨some 12, none, .mov (.t 0), 0, 0, false, []⟩,
    ⟨some 13, none, .len false (.t 12), 0, 0, false, []⟩,
    ⟨some 14, none, .bin .lss (.t 11) (.t 13), 0, 0, false, []⟩])
   (.cutTo [0, 1, 5, 14] (.cond (.t 14) (.skip)
   (.exit 0))))
   (.cutTo [0, 1, 5] (.seq (.block 1 (.seq (.seg true D65x0)
   (.cutTo [0, 1, 5, 25] (.cond (.t 25) (.seq (.seg false [⟨some 4, none, .mov (.k (.bool false)), 0, 0, false, []⟩])
   (.ret))
   (.skip)))))
   (.cutTo [0, 1, 5] (.seg false [⟨some 15, none, .mov (.t 5), 0, 0, false, []⟩,
    ⟨some 16, none, .bin .add (.t 15) (.k (.int .i64 1)), 0, 0, false, []⟩,
    ⟨some 5, none, .mov (.t 16), 0, 0, false, []⟩]))))
def L65x0 : C := B65x0
theorem evL65x0 (run : Run) (draw : List I → Env → Heap → Option (Env × Heap)) (e : Env) (h : Heap) : evC run draw L65x0 e h = evC run draw B65x0 e h := rfl
/-- loop.example/tablehouse/laws.sameRow -/
def F65 : F := ⟨26, [(false, 4, 0, false)],
   .seq (.seg false [⟨some 4, none, .mov (.k (.bool false)), 0, 0, false, []⟩])
   (.seq (.seq (.seg false [⟨some 6, none, .mov (.t 0), 0, 0, false, []⟩,
    ⟨some 7, none, .len false (.t 6), 0, 0, false, []⟩,
    ⟨some 8, none, .mov (.t 1), 0, 0, false, []⟩,
    ⟨some 9, none, .len false (.t 8), 0, 0, false, []⟩,
    ⟨some 10, none, .bin .neq (.t 7) (.t 9), 0, 0, false, []⟩])
   (.cutTo [0, 1, 10] (.cond (.t 10) (.seq (.seg false [⟨some 4, none, .mov (.k (.bool false)), 0, 0, false, []⟩])
   (.ret))
   (.skip))))
   (.cutTo [0, 1] (.seq (.seq (.seg false [⟨some 5, none, .mov (.k (.int .i64 0)), 0, 0, false, []⟩])
   (.block 0 (.loop [0, 1, 5] [4] L65x0)))
   (.seq (.seg false [⟨some 4, none, .mov (.k (.bool true)), 0, 0, false, []⟩])
   (.ret)))))⟩
/-- slices.ContainsFunc<<>loop.example/tablehouse/impl.Table,loop.example/tablehouse/impl.Table> -/
def F68 : F := ⟨9, [(false, 4, 0, false)],
   .seq (.seg false [⟨some 4, none, .mov (.k (.bool false)), 0, 0, false, []⟩])
   (.seq (.seg false [⟨some 5, none, .mov (.t 0), 0, 0, false, []⟩,
    ⟨some 6, none, .mov (.t 1), 0, 0, false, []⟩,
    ⟨some 7, none, .call 127 [.t 5, .t 6] true false, 0, 0, false, []⟩,
    ⟨some 8, none, .bin .geq (.t 7) (.k (.int .i64 0)), 0, 0, false, []⟩,
    ⟨some 4, none, .mov (.t 8), 0, 0, false, []⟩])
   (.cutTo [4] (.ret)))⟩
/-- loop.example/tablehouse/impl.TablesOk$1 -/
def F69 : F := ⟨21, [(false, 2, 0, false)],
   .seq (.seg false [⟨some 1, none, .box (.t 0), 0, 0, false, []⟩,
    ⟨some 2, none, .mov (.k (.bool false)), 0, 0, false, []⟩])
   (.seq (.seg false [⟨some 3, none, .faddr 0 1 (.t 1), 0, 0, false, []⟩,
    ⟨some 4, none, .load false 1 (.t 3), 0, 0, false, []⟩,
    ⟨some 5, none, .call 70 [.t 4] false false, 0, 0, false, []⟩,
    ⟨some 6, none, .un .not (.t 5), 0, 0, false, []⟩,
    ⟨some 7, none, .mov (.t 6), 0, 0, false, []⟩,
    ⟨some 8, some (7, false), .faddr 1 1 (.t 1), 0, 0, false, []⟩,
    ⟨some 9, some (7, false), .load false 1 (.t 8), 0, 0, false, []⟩,
    ⟨some 10, some (7, false), .len false (.t 9), 0, 0, false, []⟩,
    ⟨some 11, some (7, false), .bin .gtr (.t 10) (.k (.int .i64 6)), 0, 0, false, []⟩,
    ⟨some 12, none, .pick (.t 7) (.k (.bool true)) (.t 11), 0, 0, false, []⟩,
    ⟨some 13, none, .mov (.t 12), 0, 0, false, []⟩,
    ⟨some 14, some (13, false), .faddr 0 1 (.t 1), 0, 0, false, []⟩,
    ⟨some 15, some (13, false), .load false 1 (.t 14), 0, 0, false, []⟩,
    ⟨some 16, some (13, false), .faddr 1 1 (.t 1), 0, 0, false, []⟩,
    ⟨some 17, some (13, false), .load false 1 (.t 16), 0, 0, false, []⟩,
    ⟨some 18, some (13, false), .call 71 [.t 15, .t 17] false false, 0, 0, false, []⟩,
    ⟨some 19, some (13, false), .un .not (.t 18), 0, 0, false, []⟩,
    ⟨some 20, none, .pick (.t 13) (.k (.bool true)) (.t 19), 0, 0, false, []⟩,
    ⟨some 2, none, .mov (.t 20), 0, 0, false, []⟩])
   (.cutTo [2] (.ret)))⟩
/-- loop.example/tablehouse/impl.ValueOk -/
def F72 : F := ⟨5, [(false, 2, 0, false)],
   .seq (.seg false [⟨some 1, none, .box (.t 0), 0, 0, false, []⟩,
    ⟨some 2, none, .mov (.k (.bool false)), 0, 0, false, []⟩])
   (.seq (.seg false [⟨some 3, none, .load true 3 (.t 1), 0, 0, false, []⟩,
    ⟨some 4, none, .call 96 [.t 3] false false, 0, 0, false, []⟩,
    ⟨some 2, none, .mov (.t 4), 0, 0, false, []⟩])
   (.ret))⟩
/-- slices.Clone<<>loop.example/tablehouse/impl.Version,loop.example/tablehouse/impl.Version> -/
def F75 : F := ⟨8, [(false, 2, 0, false)],
   .seq (.seg false [⟨some 2, none, .mov (.k (.sl true 4 [])), 0, 0, false, []⟩])
   (.clone 0 3 4 5 6 7 2 4)⟩
/-- loop.example/tablehouse/impl.SweptAt$1 -/
def F76 : F := ⟨13, [(false, 3, 0, false)],
   .seq (.seg false [⟨some 2, none, .box (.t 0), 0, 0, false, []⟩,
    ⟨some 3, none, .mov (.k (.bool false)), 0, 0, false, []⟩])
   (.seq (.seg false [⟨some 4, none, .faddr 2 1 (.t 2), 0, 0, false, []⟩,
    ⟨some 5, none, .load false 1 (.t 4), 0, 0, false, []⟩,
    ⟨some 6, none, .bin .neq (.t 5) (.k (.int .i64 0)), 0, 0, false, []⟩,
    ⟨some 7, none, .mov (.t 6), 0, 0, false, []⟩,
    ⟨some 8, some (7, true), .faddr 2 1 (.t 2), 0, 0, false, []⟩,
    ⟨some 9, some (7, true), .load false 1 (.t 8), 0, 0, false, []⟩,
    ⟨some 10, some (7, true), .load false 1 (.t 1), 0, 0, false, []⟩,
    ⟨some 11, some (7, true), .bin .leq (.t 9) (.t 10), 0, 0, false, []⟩,
    ⟨some 12, none, .pick (.t 7) (.t 11) (.k (.bool false)), 0, 0, false, []⟩,
    ⟨some 3, none, .mov (.t 12), 0, 0, false, []⟩])
   (.cutTo [3] (.ret)))⟩
def B74x0 : C := .seq (.seq (.seg false [⟨some 16, none, .mov (.t 6), 0, 0, false, []⟩,
    ⟨some 17, none, .mov (.t 0), 0, 0, false, []⟩,
    ⟨some 18, none, .len false (.t 17), 0, 0, false, []⟩,
    ⟨some 19, none, .bin .lss (.t 16) (.t 18), 0, 0, false, []⟩])
   (.cutTo [0, 1, 5, 6, 19] (.cond (.t 19) (.skip)
   (.exit 0))))
   (.cutTo [0, 1, 5, 6] (.seq (.block 1 (.seq (.seg false [⟨some 22, none, .mov (.t 0), 0, 0, false, []⟩,
    ⟨some 23, none, .mov (.t 6), 0, 0, false, []⟩,
    ⟨some 24, none, .iaddr 4 (.t 22) (.t 23), 0, 0, false, []⟩,
    ⟨some 25, none, .load true 4 (.t 24), 0, 0, false, []⟩,
    ⟨some 7, none, .alloc [.int .i64 0, .int .i64 0, .int .i64 0, .sl true 3 []], 0, 0, false, []⟩,
    ⟨none, none, .store 4 (.t 7) (.t 25), 0, 0, false, []⟩])
   (.cutTo [0, 1, 5, 6, 7] (.seq (.seg false [⟨some 26, none, .mov (.t 1), 0, 0, false, []⟩,
    ⟨some 27, none, .load true 4 (.t 7), 0, 0, false, []⟩,
    ⟨some 28, none, .callv (.t 26) [.t 27] false, 0, 0, false, []⟩,
    ⟨some 29, none, .un .not (.t 28), 0, 0, false, []⟩])
   (.cutTo [0, 1, 5, 6, 7, 29] (.cond (.t 29) (.seq (.seg false [⟨some 30, none, .mov (.t 0), 0, 0, false, []⟩,
    ⟨some 31, none, .mov (.t 5), 0, 0, false, []⟩,
    ⟨some 32, none, .load true 4 (.t 7), 0, 0, false, []⟩,
    ⟨some 33, none, .iaddr 4 (.t 30) (.t 31), 0, 0, false, []⟩,
    ⟨none, none, .store 4 (.t 33) (.t 32), 0, 0, false, []⟩])
   (.cutTo [0, 1, 5, 6] (.seg false [⟨some 34, none, .mov (.t 5), 0, 0, false, []⟩,
    ⟨some 35, none, .bin .add (.t 34) (.k (.int .i64 1)), 0, 0, false, []⟩,
    ⟨some 5, none, .mov (.t 35), 0, 0, false, []⟩])))
   (.skip)))))))
   (.cutTo [0, 1, 5, 6] (.seg false [⟨some 20, none, .mov (.t 6), 0, 0, false, []⟩,
    ⟨some 21, none, .bin .add (.t 20) (.k (.int .i64 1)), 0, 0, false, []⟩,
    ⟨some 6, none, .mov (.t 21), 0, 0, false, []⟩]))))
def L74x0 : C := B74x0
theorem evL74x0 (run : Run) (draw : List I → Env → Heap → Option (Env × Heap)) (e : Env) (h : Heap) : evC run draw L74x0 e h = evC run draw B74x0 e h := rfl
/-- slices.DeleteFunc<<>loop.example/tablehouse/impl.Version,loop.example/tablehouse/impl.Version> -/
def F74 : F := ⟨42, [(false, 4, 0, false)],
   .seq (.seg false [⟨some 4, none, .mov (.k (.sl true 4 [])), 0, 0, false, []⟩])
   (.seq (.seg false [⟨some 8, none, .mov (.t 0), 0, 0, false, []⟩,
    ⟨some 9, none, .mov (.t 1), 0, 0, false, []⟩,
    ⟨some 10, none, .call 134 [.t 8, .t 9] true false, 0, 0, false, []⟩,
    ⟨some 5, none, .mov (.t 10), 0, 0, false, []⟩])
   (.cutTo [0, 1, 5] (.seq (.seq (.seg false [⟨some 11, none, .mov (.t 5), 0, 0, false, []⟩,
    ⟨some 12, none, .bin .eql (.t 11) (.k (.int .i64 (-1))), 0, 0, false, []⟩])
   (.cond (.t 12) (.seq (.seg false [⟨some 13, none, .mov (.t 0), 0, 0, false, []⟩,
    ⟨some 4, none, .mov (.t 13), 0, 0, false, []⟩])
   (.ret))
   (.skip)))
   (.cutTo [0, 1, 5] (.seq (.seq (.seg false [⟨some 14, none, .mov (.t 5), 0, 0, false, []⟩,
    ⟨some 15, none, .bin .add (.t 14) (.k (.int .i64 1)), 0, 0, false, []⟩,
    ⟨some 6, none, .mov (.t 15), 0, 0, false, []⟩])
   (.block 0 (.loop [0, 1, 5, 6] [0, 5] L74x0)))
   (.seq (.seg false [⟨some 36, none, .mov (.t 0), 0, 0, false, []⟩,
    ⟨some 37, none, .mov (.t 5), 0, 0, false, []⟩,
    ⟨some 38, none, .slc false 4 (.t 36) (some (.t 37)) none none, 0, 0, false, []⟩,
    ⟨none, none, .clr 4 [.int .i64 0, .int .i64 0, .int .i64 0, .sl true 3 []] (.t 38), 0, 0, false, []⟩])
   (.cutTo [0, 5] (.seq (.seg false [⟨some 39, none, .mov (.t 0), 0, 0, false, []⟩,
    ⟨some 40, none, .mov (.t 5), 0, 0, false, []⟩,
    ⟨some 41, none, .slc false 4 (.t 39) none (some (.t 40)) none, 0, 0, false, []⟩,
    ⟨some 4, none, .mov (.t 41), 0, 0, false, []⟩])
   (.cutTo [4] (.ret))))))))))⟩
def B73x0 : C := .seq (.seg false [⟨some 9, none, .bin .lss (.t 8) (.t 7), 0, 0, false, []⟩])
   (.seq (.cond (.t 9) (.skip)
   (.exit 0))
   (.seq (.block 1 (.seq (.seg false [⟨some 10, none, .iaddr 4 (.t 6) (.t 8), 0, 0, false, []⟩,
    ⟨some 11, none, .load true 4 (.t 10), 0, 0, false, []⟩,
    ⟨some 5, none, .alloc [.int .i64 0, .int .i64 0, .int .i64 0, .sl true 3 []], 0, 0, false, []⟩,
    ⟨none, none, .store 4 (.t 5) (.t 11), 0, 0, false, []⟩])
   (.cutTo [3, 5, 6, 7, 8] (.seq (.seg false [⟨some 12, none, .faddr 3 1 (.t 5), 0, 0, false, []⟩,
    ⟨some 13, none, .load false 1 (.t 12), 0, 0, false, []⟩,
    ⟨some 14, none, .callx 0 126 [.t 13], 0, 0, false, []⟩,
    ⟨some 15, none, .faddr 3 1 (.t 5), 0, 0, false, []⟩,
    ⟨none, none, .store 1 (.t 15) (.t 14), 0, 0, false, []⟩])
   (.cutTo [3, 5, 6, 7, 8] (.seg false [⟨some 16, none, .mov (.t 3), 0, 0, false, []⟩,
    ⟨some 17, none, .load true 4 (.t 5), 0, 0, false, []⟩,
    ⟨some 18, none, .mkns 4 [.t 17], 0, 0, false, []⟩,
    ⟨some 19, none, .appn 4 (.t 16) (.t 18), 0, 0, false, []⟩,
    ⟨some 3, none, .mov (.t 19), 0, 0, false, []⟩]))))))
   (.cutTo [3, 6, 7, 8] (.seg false [⟨some 20, none, .bin .add (.t 8) (.k (.int .i64 1)), 0, 0, false, []⟩,
    ⟨some 8, none, .mov (.t 20), 0, 0, false, []⟩]))))
def L73x0 : C := B73x0
theorem evL73x0 (run : Run) (draw : List I → Env → Heap → Option (Env × Heap)) (e : Env) (h : Heap) : evC run draw L73x0 e h = evC run draw B73x0 e h := rfl
/-- loop.example/tablehouse/impl.versionsCopy -/
def F73 : F := ⟨23, [(false, 2, 0, false)],
   .seq (.seg false [⟨some 2, none, .mov (.k (.sl true 4 [])), 0, 0, false, []⟩])
   (.seq (.seg false [⟨some 3, none, .nilnest 4, 0, 0, false, []⟩])
   (.seq (.seq (.seg false [⟨some 6, none, .mov (.t 0), 0, 0, false, []⟩,
    ⟨some 7, none, .len false (.t 6), 0, 0, false, []⟩,
    ⟨some 8, none, .mov (.k (.int .i64 0)), 0, 0, false, []⟩])
   (.block 0 (.loopk [3, 6, 7, 8] [3] L73x0)))
   (.seq (.seg false [⟨some 21, none, .mov (.t 3), 0, 0, false, []⟩,
    ⟨some 22, none, .callx 2 133 [.t 21], 0, 0, false, []⟩,
    ⟨some 2, none, .mov (.t 22), 0, 0, false, []⟩])
   (.ret))))⟩
/-- loop.example/tablehouse/spec.l3Own -/
def F77 : F := ⟨6, [(false, 2, 0, false)],
   .seq (.seg false [⟨some 2, none, .nilrow 3, 0, 0, false, []⟩])
   (.seq (.seg false [⟨some 3, none, .mksl true 3 [], 0, 0, false, []⟩,
    ⟨some 4, none, .mov (.t 0), 0, 0, false, []⟩,
    ⟨some 5, none, .app 3 (.t 3) (.t 4), 0, 0, false, []⟩,
    ⟨some 2, none, .mov (.t 5), 0, 0, false, []⟩])
   (.cutTo [2] (.ret)))⟩
/-- loop.example/tablehouse/impl.keyOk -/
def F78 : F := ⟨5, [(false, 2, 0, false)],
   .seq (.seg false [⟨some 2, none, .mov (.k (.bool false)), 0, 0, false, []⟩])
   (.seq (.seg false [⟨some 3, none, .mov (.t 0), 0, 0, false, []⟩,
    ⟨some 4, none, .call 79 [.t 3, .k (.int .i64 0), .k (.int .i64 4)] false false, 0, 0, false, []⟩,
    ⟨some 2, none, .mov (.t 4), 0, 0, false, []⟩])
   (.ret))⟩
/-- loop.example/tablehouse/impl.between -/
def F79 : F := ⟨15, [(false, 6, 0, false)],
   .seq (.seg false [⟨some 6, none, .mov (.k (.bool false)), 0, 0, false, []⟩])
   (.seq (.seg false [⟨some 7, none, .mov (.t 0), 0, 0, false, []⟩,
    ⟨some 8, none, .mov (.t 1), 0, 0, false, []⟩,
    ⟨some 9, none, .bin .geq (.t 7) (.t 8), 0, 0, false, []⟩,
    ⟨some 10, none, .mov (.t 9), 0, 0, false, []⟩,
    ⟨some 11, some (10, true), .mov (.t 0), 0, 0, false, []⟩,
    ⟨some 12, some (10, true), .mov (.t 2), 0, 0, false, []⟩,
    ⟨some 13, some (10, true), .bin .leq (.t 11) (.t 12), 0, 0, false, []⟩,
    ⟨some 14, none, .pick (.t 10) (.t 13) (.k (.bool false)), 0, 0, false, []⟩,
    ⟨some 6, none, .mov (.t 14), 0, 0, false, []⟩])
   (.cutTo [6] (.ret)))⟩
/-- loop.example/tablehouse/impl.RowOk -/
def F80 : F := ⟨11, [(false, 2, 0, false)],
   .seq (.seg false [⟨some 2, none, .mov (.k (.bool false)), 0, 0, false, []⟩])
   (.seq (.seg false [⟨some 3, none, .mov (.t 0), 0, 0, false, []⟩,
    ⟨some 4, none, .len false (.t 3), 0, 0, false, []⟩,
    ⟨some 5, none, .bin .leq (.t 4) (.k (.int .i64 4)), 0, 0, false, []⟩,
    ⟨some 6, none, .mov (.t 5), 0, 0, false, []⟩,
    ⟨some 7, some (6, true), .mov (.t 0), 0, 0, false, []⟩,
    ⟨some 8, some (6, true), .call 135 [.t 7, .k (.clo 136 [])] true false, 0, 0, false, []⟩,
    ⟨some 9, some (6, true), .un .not (.t 8), 0, 0, false, []⟩,
    ⟨some 10, none, .pick (.t 6) (.t 9) (.k (.bool false)), 0, 0, false, []⟩,
    ⟨some 2, none, .mov (.t 10), 0, 0, false, []⟩])
   (.cutTo [2] (.ret)))⟩
/-- loop.example/tablehouse/impl.SeenAt -/
def F81 : F := ⟨24, [(false, 6, 0, false), (false, 7, 0, false)],
   .seq (.seg false [⟨some 6, none, .mov (.k (.sl true 3 [])), 0, 0, false, []⟩,
    ⟨some 7, none, .mov (.k (.bool false)), 0, 0, false, []⟩])
   (.seq (.seq (.seg false [⟨some 10, none, .mov (.t 0), 0, 0, false, []⟩,
    ⟨some 11, none, .call 23 [.t 10] false false, 0, 0, false, []⟩,
    ⟨some 12, none, .un .not (.t 11), 0, 0, false, []⟩])
   (.cond (.t 12) (.seq (.seg false [⟨some 6, none, .mov (.k (.sl true 3 [])), 0, 0, false, []⟩,
    ⟨some 7, none, .mov (.k (.bool false)), 0, 0, false, []⟩])
   (.ret))
   (.skip)))
   (.cutTo [0, 1, 2] (.seq (.seg false [⟨some 14, none, .mov (.t 0), 0, 0, false, []⟩,
    ⟨some 15, none, .mov (.t 1), 0, 0, false, []⟩,
    ⟨some 16, none, .mov (.t 2), 0, 0, false, []⟩,
    ⟨some 17, none, .call 66 [.t 14, .t 15, .t 16] false false, 0, 0, false, []⟩,
    ⟨some 13, none, .mov (.t 17), 0, 0, false, []⟩,
    ⟨some 18, none, .ext (.t 13) 0, 0, 0, false, []⟩,
    ⟨some 19, none, .ext (.t 13) 1, 0, 0, false, []⟩,
    ⟨some 8, none, .alloc [.int .i64 0, .int .i64 0, .int .i64 0, .sl true 3 []], 0, 0, false, []⟩,
    ⟨none, none, .store 4 (.t 8) (.t 18), 0, 0, false, []⟩,
    ⟨some 9, none, .mov (.t 19), 0, 0, false, []⟩])
   (.cutTo [8, 9] (.seq (.seg false [⟨some 20, none, .faddr 3 1 (.t 8), 0, 0, false, []⟩,
    ⟨some 21, none, .load false 1 (.t 20), 0, 0, false, []⟩,
    ⟨some 22, none, .callx 0 126 [.t 21], 0, 0, false, []⟩,
    ⟨some 23, none, .mov (.t 9), 0, 0, false, []⟩,
    ⟨some 6, none, .mov (.t 22), 0, 0, false, []⟩,
    ⟨some 7, none, .mov (.t 23), 0, 0, false, []⟩])
   (.cutTo [6, 7] (.ret)))))))⟩
/-- loop.example/tablehouse/laws.szTally -/
def F82 : F := ⟨12, [(false, 4, 0, false)],
   .seq (.seg false [⟨some 2, none, .box (.t 0), 0, 0, false, []⟩,
    ⟨some 4, none, .mov (.k (.int .i64 0)), 0, 0, false, []⟩])
   (.seq (.seg false [⟨some 5, none, .faddr 0 1 (.t 2), 0, 0, false, []⟩,
    ⟨some 6, none, .load false 1 (.t 5), 0, 0, false, []⟩,
    ⟨some 7, none, .mov (.t 1), 0, 0, false, []⟩,
    ⟨some 8, none, .call 137 [.t 6, .t 7] false false, 0, 0, false, []⟩,
    ⟨some 1, none, .mov (.t 8), 0, 0, false, []⟩])
   (.cutTo [1] (.seq (.seq (.seg false [⟨some 9, none, .mov (.t 1), 0, 0, false, []⟩,
    ⟨some 10, none, .bin .lss (.t 9) (.k (.int .i64 0)), 0, 0, false, []⟩])
   (.cond (.t 10) (.seq (.seg false [⟨some 4, none, .mov (.k (.int .i64 (-1))), 0, 0, false, []⟩])
   (.ret))
   (.skip)))
   (.seq (.seg false [⟨some 11, none, .mov (.t 1), 0, 0, false, []⟩,
    ⟨some 4, none, .mov (.t 11), 0, 0, false, []⟩])
   (.ret)))))⟩
/-- loop.example/tablehouse/laws.toTally -/
def F85 : F := ⟨18, [(true, 2, 4, true)],
   .seq (.seg false [⟨some 1, none, .box (.t 0), 0, 0, false, []⟩,
    ⟨some 2, none, .alloc [.sl true 3 [], .int .i64 0, .int .i64 0, .int .i64 0], 0, 0, false, []⟩])
   (.seq (.seg false [⟨some 3, none, .alloc [.sl true 3 [], .int .i64 0, .int .i64 0, .int .i64 0], 0, 0, false, []⟩])
   (.seq (.seg false [⟨some 4, none, .faddr 0 1 (.t 1), 0, 0, false, []⟩,
    ⟨some 5, none, .load false 1 (.t 4), 0, 0, false, []⟩,
    ⟨some 6, none, .callx 0 140 [.t 5], 0, 0, false, []⟩,
    ⟨some 7, none, .faddr 0 1 (.t 3), 0, 0, false, []⟩,
    ⟨none, none, .store 1 (.t 7) (.t 6), 0, 0, false, []⟩])
   (.cutTo [1, 2, 3] (.seq (.seg false [⟨some 8, none, .faddr 1 1 (.t 1), 0, 0, false, []⟩,
    ⟨some 9, none, .load false 1 (.t 8), 0, 0, false, []⟩,
    ⟨some 10, none, .faddr 1 1 (.t 3), 0, 0, false, []⟩,
    ⟨none, none, .store 1 (.t 10) (.t 9), 0, 0, false, []⟩])
   (.cutTo [1, 2, 3] (.seq (.seg false [⟨some 11, none, .faddr 2 1 (.t 1), 0, 0, false, []⟩,
    ⟨some 12, none, .load false 1 (.t 11), 0, 0, false, []⟩,
    ⟨some 13, none, .faddr 2 1 (.t 3), 0, 0, false, []⟩,
    ⟨none, none, .store 1 (.t 13) (.t 12), 0, 0, false, []⟩])
   (.cutTo [1, 2, 3] (.seq (.seg false [⟨some 14, none, .faddr 3 1 (.t 1), 0, 0, false, []⟩,
    ⟨some 15, none, .load false 1 (.t 14), 0, 0, false, []⟩,
    ⟨some 16, none, .faddr 3 1 (.t 3), 0, 0, false, []⟩,
    ⟨none, none, .store 1 (.t 16) (.t 15), 0, 0, false, []⟩])
   (.cutTo [2, 3] (.seq (.seg false [⟨some 17, none, .load true 4 (.t 3), 0, 0, false, []⟩,
    ⟨none, none, .store 4 (.t 2) (.t 17), 0, 0, false, []⟩])
   (.ret)))))))))))⟩
def E83x0 : List I := [⟨some 15, none, .faddr 0 1 (.t 4), 0, 0, false, []⟩,
    ⟨some 16, none, .load false 1 (.t 15), 0, 0, false, []⟩,
    ⟨some 17, none, .call 138 [.t 16] false false, 0, 0, false, []⟩,
    ⟨some 18, none, .un .not (.t 17), 0, 0, false, []⟩,
    ⟨some 19, none, .mov (.t 18), 0, 0, false, []⟩,
    ⟨some 20, some (19, false), .faddr 0 1 (.t 4), 0, 0, false, []⟩,
    ⟨some 21, some (19, false), .load false 1 (.t 20), 0, 0, false, []⟩,
    ⟨some 22, some (19, false), .len false (.t 21), 0, 0, false, []⟩,
    ⟨some 23, some (19, false), .bin .neq (.t 22) (.k (.int .i64 1)), 0, 0, false, []⟩,
    ⟨some 24, none, .pick (.t 19) (.k (.bool true)) (.t 23), 0, 0, false, []⟩,
    ⟨some 25, none, .mov (.t 24), 0, 0, false, []⟩,
    ⟨some 26, some (25, false), .faddr 1 1 (.t 4), 0, 0, false, []⟩,
    ⟨some 27, some (25, false), .load false 1 (.t 26), 0, 0, false, []⟩,
    ⟨some 28, some (25, false), .call 84 [.t 27, .k (.int .i64 1), .k (.int .i64 100)] false false, 0, 0, false, []⟩,
    ⟨some 29, some (25, false), .un .not (.t 28), 0, 0, false, []⟩,
    ⟨some 30, none, .pick (.t 25) (.k (.bool true)) (.t 29), 0, 0, false, []⟩,
    ⟨some 31, none, .mov (.t 30), 0, 0, false, []⟩,
    ⟨some 32, some (31, false), .faddr 2 1 (.t 4), 0, 0, false, []⟩,
    ⟨some 33, some (31, false), .load false 1 (.t 32), 0, 0, false, []⟩,
    ⟨some 34, some (31, false), .faddr 1 1 (.t 4), 0, 0, false, []⟩,
    ⟨some 35, some (31, false), .load false 1 (.t 34), 0, 0, false, []⟩,
    ⟨some 36, some (31, false), .call 84 [.t 33, .k (.int .i64 0), .t 35] false false, 0, 0, false, []⟩,
    ⟨some 37, some (31, false), .un .not (.t 36), 0, 0, false, []⟩,
    ⟨some 38, none, .pick (.t 31) (.k (.bool true)) (.t 37), 0, 0, false, []⟩,
    ⟨some 39, none, .mov (.t 38), 0, 0, false, []⟩,
    ⟨some 40, some (39, false), .faddr 3 1 (.t 4), 0, 0, false, []⟩,
    ⟨some 41, some (39, false), .load false 1 (.t 40), 0, 0, false, []⟩,
    ⟨some 42, some (39, false), .faddr 2 1 (.t 4), 0, 0, false, []⟩,
    ⟨some 43, some (39, false), .load false 1 (.t 42), 0, 0, false, []⟩,
    ⟨some 44, some (39, false), .bin .mul (.k (.int .i64 (-9999))) (.t 43), 0, 0, false, []⟩,
    ⟨some 45, some (39, false), .faddr 2 1 (.t 4), 0, 0, false, []⟩,
    ⟨some 46, some (39, false), .load false 1 (.t 45), 0, 0, false, []⟩,
    ⟨some 47, some (39, false), .bin .mul (.k (.int .i64 9999)) (.t 46), 0, 0, false, []⟩,
    ⟨some 48, some (39, false), .call 84 [.t 41, .t 44, .t 47] false false, 0, 0, false, []⟩,
    ⟨some 49, some (39, false), .un .not (.t 48), 0, 0, false, []⟩,
    ⟨some 50, none, .pick (.t 39) (.k (.bool true)) (.t 49), 0, 0, false, []⟩,
    ⟨some 51, none, .mov (.t 50), 0, 0, false, []⟩,
    ⟨some 52, some (51, false), .mov (.t 3), 0, 0, false, []⟩,
    ⟨some 53, some (51, false), .bin .gtr (.t 52) (.k (.int .i64 0)), 0, 0, false, []⟩,
    ⟨some 54, some (51, false), .mov (.t 53), 0, 0, false, []⟩,
    ⟨some 55, some (54, true), .mov (.t 0), 0, 0, false, []⟩,
    ⟨some 56, some (54, true), .mov (.t 3), 0, 0, false, []⟩,
    ⟨some 57, some (54, true), .bin .sub (.t 56) (.k (.int .i64 1)), 0, 0, false, []⟩,
    ⟨some 58, some (54, true), .iaddr 4 (.t 55) (.t 57), 0, 0, false, []⟩,
    ⟨some 59, some (54, true), .faddr 0 1 (.t 58), 0, 0, false, []⟩,
    ⟨some 60, some (54, true), .load false 1 (.t 59), 0, 0, false, []⟩,
    ⟨some 61, some (54, true), .faddr 0 1 (.t 4), 0, 0, false, []⟩,
    ⟨some 62, some (54, true), .load false 1 (.t 61), 0, 0, false, []⟩,
    ⟨some 63, some (54, true), .call 139 [.t 60, .t 62] false false, 0, 0, false, []⟩,
    ⟨some 64, some (54, true), .bin .geq (.t 63) (.k (.int .i64 0)), 0, 0, false, []⟩,
    ⟨some 65, some (51, false), .pick (.t 54) (.t 64) (.k (.bool false)), 0, 0, false, []⟩,
    ⟨some 66, none, .pick (.t 51) (.k (.bool true)) (.t 65), 0, 0, false, []⟩]
def D83x0 : List I := E83x0
theorem evD83x0 (run : Run) (e : Env) (h : Heap) : drawI run D83x0 e h = DrawS (evQ run E83x0 e h) run E83x0 e h := drawI_quiet run _ (by rfl) e h
def B83x0 : C := .seq (.seq (.seg false [⟨some 5, none, .mov (.t 3), 0, 0, false, []⟩,
    ⟨some 6, none, .mov (.t 0), 0, 0, false, []⟩,
    ⟨some 7, none, .len false (.t 6), 0, 0, false, []⟩,
    ⟨some 8, none, .bin .lss (.t 5) (.t 7), 0, 0, false, []⟩])
   (.cutTo [0, 3, 8] (.cond (.t 8) (.skip)
   (.exit 0))))
   (.cutTo [0, 3] (.seq (.block 1 (.seq (.seg false [⟨some 11, none, .mov (.t 0), 0, 0, false, []⟩,
    ⟨some 12, none, .mov (.t 3), 0, 0, false, []⟩,
    ⟨some 13, none, .iaddr 4 (.t 11) (.t 12), 0, 0, false, []⟩,
    ⟨some 14, none, .load true 4 (.t 13), 0, 0, false, []⟩,
    ⟨some 4, none, .alloc [.sl true 3 [], .int .i64 0, .int .i64 0, .int .i64 0], 0, 0, false, []⟩,
    ⟨none, none, .store 4 (.t 4) (.t 14), 0, 0, false, []⟩])
   (.cutTo [0, 3, 4] (.seq (.seg true D83x0)
   (.cutTo [0, 3, 66] (.cond (.t 66) (.seq (.seg false [⟨some 2, none, .mov (.k (.bool false)), 0, 0, false, []⟩])
   (.ret))
   (.skip)))))))
   (.cutTo [0, 3] (.seg false [⟨some 9, none, .mov (.t 3), 0, 0, false, []⟩,
    ⟨some 10, none, .bin .add (.t 9) (.k (.int .i64 1)), 0, 0, false, []⟩,
    ⟨some 3, none, .mov (.t 10), 0, 0, false, []⟩]))))
def L83x0 : C := B83x0
theorem evL83x0 (run : Run) (draw : List I → Env → Heap → Option (Env × Heap)) (e : Env) (h : Heap) : evC run draw L83x0 e h = evC run draw B83x0 e h := rfl
/-- loop.example/tablehouse/spec.TalliesOk -/
def F83 : F := ⟨67, [(false, 2, 0, false)],
   .seq (.seg false [⟨some 2, none, .mov (.k (.bool false)), 0, 0, false, []⟩])
   (.seq (.seq (.seg false [⟨some 3, none, .mov (.k (.int .i64 0)), 0, 0, false, []⟩])
   (.block 0 (.loop [0, 3] [2] L83x0)))
   (.seq (.seg false [⟨some 2, none, .mov (.k (.bool true)), 0, 0, false, []⟩])
   (.ret)))⟩
/-- loop.example/tablehouse/spec.l1In -/
def F84 : F := ⟨15, [(false, 6, 0, false)],
   .seq (.seg false [⟨some 6, none, .mov (.k (.bool false)), 0, 0, false, []⟩])
   (.seq (.seg false [⟨some 7, none, .mov (.t 0), 0, 0, false, []⟩,
    ⟨some 8, none, .mov (.t 1), 0, 0, false, []⟩,
    ⟨some 9, none, .bin .geq (.t 7) (.t 8), 0, 0, false, []⟩,
    ⟨some 10, none, .mov (.t 9), 0, 0, false, []⟩,
    ⟨some 11, some (10, true), .mov (.t 0), 0, 0, false, []⟩,
    ⟨some 12, some (10, true), .mov (.t 2), 0, 0, false, []⟩,
    ⟨some 13, some (10, true), .bin .leq (.t 11) (.t 12), 0, 0, false, []⟩,
    ⟨some 14, none, .pick (.t 10) (.t 13) (.k (.bool false)), 0, 0, false, []⟩,
    ⟨some 6, none, .mov (.t 14), 0, 0, false, []⟩])
   (.cutTo [6] (.ret)))⟩
/-- loop.example/tablehouse/impl.numOf -/
def F86 : F := ⟨11, [(true, 2, 3, true)],
   .seq (.seg false [⟨some 2, none, .alloc [.int .i64 0, .int .i64 0, .str ⟨#[]⟩], 0, 0, false, []⟩])
   (.seq (.seg false [⟨some 4, none, .mov (.t 0), 0, 0, false, []⟩,
    ⟨some 5, none, .build [.int .i64 0, .int .i64 0, .str ⟨#[]⟩] [(0, 1, .k (.int .i64 1)), (1, 1, .t 4)], 0, 0, false, []⟩,
    ⟨some 3, none, .alloc [.int .i64 0, .int .i64 0, .str ⟨#[]⟩], 0, 0, false, []⟩,
    ⟨none, none, .store 3 (.t 3) (.t 5), 0, 0, false, []⟩])
   (.cutTo [2, 3] (.seq (.seq (.seg false [⟨some 6, none, .load true 3 (.t 3), 0, 0, false, []⟩,
    ⟨some 7, none, .call 96 [.t 6] false false, 0, 0, false, []⟩,
    ⟨some 8, none, .un .not (.t 7), 0, 0, false, []⟩])
   (.cond (.t 8) (.seq (.seg false [⟨some 9, none, .build [.int .i64 0, .int .i64 0, .str ⟨#[]⟩] [], 0, 0, false, []⟩,
    ⟨none, none, .store 3 (.t 2) (.t 9), 0, 0, false, []⟩])
   (.ret))
   (.skip)))
   (.cutTo [2, 3] (.seq (.seg false [⟨some 10, none, .load true 3 (.t 3), 0, 0, false, []⟩,
    ⟨none, none, .store 3 (.t 2) (.t 10), 0, 0, false, []⟩])
   (.ret))))))⟩
/-- slices.Clip<<><>loop.example/tablehouse/impl.Value,<>loop.example/tablehouse/impl.Value> -/
def F87 : F := ⟨9, [(false, 2, 0, false)],
   .seq (.seg false [⟨some 2, none, .mov (.k (.sl true 1 [])), 0, 0, false, []⟩])
   (.seq (.seg false [⟨some 3, none, .mov (.t 0), 0, 0, false, []⟩,
    ⟨some 4, none, .mov (.t 0), 0, 0, false, []⟩,
    ⟨some 5, none, .len false (.t 4), 0, 0, false, []⟩,
    ⟨some 6, none, .mov (.t 0), 0, 0, false, []⟩,
    ⟨some 7, none, .len false (.t 6), 0, 0, false, []⟩,
    ⟨some 8, none, .slc false 1 (.t 3) none (some (.t 5)) (some (.t 7)), 0, 0, false, []⟩,
    ⟨some 2, none, .mov (.t 8), 0, 0, false, []⟩])
   (.cutTo [2] (.ret)))⟩
def E88x0 : List I := [⟨some 17, none, .mov (.t 0), 0, 0, false, []⟩,
    ⟨some 18, none, .mov (.t 5), 0, 0, false, []⟩,
    ⟨some 19, none, .iaddr 3 (.t 17) (.t 18), 0, 0, false, []⟩,
    ⟨some 20, none, .load true 3 (.t 19), 0, 0, false, []⟩,
    ⟨some 21, none, .mov (.t 1), 0, 0, false, []⟩,
    ⟨some 22, none, .mov (.t 5), 0, 0, false, []⟩,
    ⟨some 23, none, .iaddr 3 (.t 21) (.t 22), 0, 0, false, []⟩,
    ⟨some 24, none, .load true 3 (.t 23), 0, 0, false, []⟩,
    ⟨some 25, none, .call 141 [.t 20, .t 24] false false, 0, 0, false, []⟩,
    ⟨some 26, none, .un .not (.t 25), 0, 0, false, []⟩]
def D88x0 : List I := E88x0
theorem evD88x0 (run : Run) (e : Env) (h : Heap) : drawI run D88x0 e h = DrawS (evQ run E88x0 e h) run E88x0 e h := drawI_quiet run _ (by rfl) e h
def B88x0 : C := .seq (.seq (.seg false [⟨some 11, none, .mov (.t 5), 0, 0, false, []⟩,
    ⟨some 12, none, .mov (.t 0), 0, 0, false, []⟩,
    ⟨some 13, none, .len false (.t 12), 0, 0, false, []⟩,
    ⟨some 14, none, .bin .lss (.t 11) (.t 13), 0, 0, false, []⟩])
   (.cutTo [0, 1, 5, 14] (.cond (.t 14) (.skip)
   (.exit 0))))
   (.cutTo [0, 1, 5] (.seq (.block 1 (.seq (.seg true D88x0)
   (.cutTo [0, 1, 5, 26] (.cond (.t 26) (.seq (.seg false [⟨some 4, none, .mov (.k (.bool false)), 0, 0, false, []⟩])
   (.ret))
   (.skip)))))
   (.cutTo [0, 1, 5] (.seg false [⟨some 15, none, .mov (.t 5), 0, 0, false, []⟩,
    ⟨some 16, none, .bin .add (.t 15) (.k (.int .i64 1)), 0, 0, false, []⟩,
    ⟨some 5, none, .mov (.t 16), 0, 0, false, []⟩]))))
def L88x0 : C := B88x0
theorem evL88x0 (run : Run) (draw : List I → Env → Heap → Option (Env × Heap)) (e : Env) (h : Heap) : evC run draw L88x0 e h = evC run draw B88x0 e h := rfl
/-- loop.example/tablehouse/laws.eqValueS -/
def F88 : F := ⟨27, [(false, 4, 0, false)],
   .seq (.seg false [⟨some 4, none, .mov (.k (.bool false)), 0, 0, false, []⟩])
   (.seq (.seq (.seg false [⟨some 6, none, .mov (.t 0), 0, 0, false, []⟩,
    ⟨some 7, none, .len false (.t 6), 0, 0, false, []⟩,
    ⟨some 8, none, .mov (.t 1), 0, 0, false, []⟩,
    ⟨some 9, none, .len false (.t 8), 0, 0, false, []⟩,
    ⟨some 10, none, .bin .neq (.t 7) (.t 9), 0, 0, false, []⟩])
   (.cutTo [0, 1, 10] (.cond (.t 10) (.seq (.seg false [⟨some 4, none, .mov (.k (.bool false)), 0, 0, false, []⟩])
   (.ret))
   (.skip))))
   (.cutTo [0, 1] (.seq (.seq (.seg false [⟨some 5, none, .mov (.k (.int .i64 0)), 0, 0, false, []⟩])
   (.block 0 (.loop [0, 1, 5] [4] L88x0)))
   (.seq (.seg false [⟨some 4, none, .mov (.k (.bool true)), 0, 0, false, []⟩])
   (.ret)))))⟩
/-- loop.example/tablehouse/laws.eqTally -/
def F89 : F := ⟨26, [(false, 4, 0, false)],
   .seq (.seg false [⟨some 2, none, .box (.t 0), 0, 0, false, []⟩,
    ⟨some 3, none, .box (.t 1), 0, 0, false, []⟩,
    ⟨some 4, none, .mov (.k (.bool false)), 0, 0, false, []⟩])
   (.seq (.seq (.seg false [⟨some 5, none, .faddr 0 1 (.t 2), 0, 0, false, []⟩,
    ⟨some 6, none, .load false 1 (.t 5), 0, 0, false, []⟩,
    ⟨some 7, none, .faddr 0 1 (.t 3), 0, 0, false, []⟩,
    ⟨some 8, none, .load false 1 (.t 7), 0, 0, false, []⟩,
    ⟨some 9, none, .call 88 [.t 6, .t 8] false false, 0, 0, false, []⟩,
    ⟨some 10, none, .un .not (.t 9), 0, 0, false, []⟩])
   (.cutTo [2, 3, 10] (.cond (.t 10) (.seq (.seg false [⟨some 4, none, .mov (.k (.bool false)), 0, 0, false, []⟩])
   (.ret))
   (.skip))))
   (.cutTo [2, 3] (.seq (.seq (.seg false [⟨some 11, none, .faddr 1 1 (.t 2), 0, 0, false, []⟩,
    ⟨some 12, none, .load false 1 (.t 11), 0, 0, false, []⟩,
    ⟨some 13, none, .faddr 1 1 (.t 3), 0, 0, false, []⟩,
    ⟨some 14, none, .load false 1 (.t 13), 0, 0, false, []⟩,
    ⟨some 15, none, .bin .neq (.t 12) (.t 14), 0, 0, false, []⟩])
   (.cutTo [2, 3, 15] (.cond (.t 15) (.seq (.seg false [⟨some 4, none, .mov (.k (.bool false)), 0, 0, false, []⟩])
   (.ret))
   (.skip))))
   (.cutTo [2, 3] (.seq (.seq (.seg false [⟨some 16, none, .faddr 2 1 (.t 2), 0, 0, false, []⟩,
    ⟨some 17, none, .load false 1 (.t 16), 0, 0, false, []⟩,
    ⟨some 18, none, .faddr 2 1 (.t 3), 0, 0, false, []⟩,
    ⟨some 19, none, .load false 1 (.t 18), 0, 0, false, []⟩,
    ⟨some 20, none, .bin .neq (.t 17) (.t 19), 0, 0, false, []⟩])
   (.cutTo [2, 3, 20] (.cond (.t 20) (.seq (.seg false [⟨some 4, none, .mov (.k (.bool false)), 0, 0, false, []⟩])
   (.ret))
   (.skip))))
   (.cutTo [2, 3] (.seq (.seq (.seg false [⟨some 21, none, .faddr 3 1 (.t 2), 0, 0, false, []⟩,
    ⟨some 22, none, .load false 1 (.t 21), 0, 0, false, []⟩,
    ⟨some 23, none, .faddr 3 1 (.t 3), 0, 0, false, []⟩,
    ⟨some 24, none, .load false 1 (.t 23), 0, 0, false, []⟩,
    ⟨some 25, none, .bin .neq (.t 22) (.t 24), 0, 0, false, []⟩])
   (.cutTo [25] (.cond (.t 25) (.seq (.seg false [⟨some 4, none, .mov (.k (.bool false)), 0, 0, false, []⟩])
   (.ret))
   (.skip))))
   (.cutTo [] (.seq (.seg false [⟨some 4, none, .mov (.k (.bool true)), 0, 0, false, []⟩])
   (.ret))))))))))⟩
def B90x0 : C := .seq (.seq (.seg false [⟨some 6, none, .mov (.t 5), 0, 0, false, []⟩,
    ⟨some 7, none, .mov (.t 0), 0, 0, false, []⟩,
    ⟨some 8, none, .len false (.t 7), 0, 0, false, []⟩,
    ⟨some 9, none, .bin .lss (.t 6) (.t 8), 0, 0, false, []⟩])
   (.cutTo [0, 1, 5, 9] (.cond (.t 9) (.skip)
   (.exit 0))))
   (.cutTo [0, 1, 5] (.seq (.block 1 (.seq (.seg false [⟨some 12, none, .mov (.t 0), 0, 0, false, []⟩,
    ⟨some 13, none, .mov (.t 5), 0, 0, false, []⟩,
    ⟨some 14, none, .mov (.t 1), 0, 0, false, []⟩,
    ⟨some 15, none, .iaddr 3 (.t 12) (.t 13), 0, 0, false, []⟩,
    ⟨some 16, none, .faddr 0 1 (.t 15), 0, 0, false, []⟩,
    ⟨none, none, .store 1 (.t 16) (.t 14), 0, 0, false, []⟩])
   (.cutTo [0, 1, 5] (.seq (.seg false [⟨some 17, none, .mov (.t 1), 0, 0, false, []⟩,
    ⟨some 18, none, .bin .add (.t 17) (.k (.int .i64 1)), 0, 0, false, []⟩,
    ⟨some 1, none, .mov (.t 18), 0, 0, false, []⟩])
   (.seq (.seg false [⟨some 19, none, .mov (.t 0), 0, 0, false, []⟩,
    ⟨some 20, none, .mov (.t 5), 0, 0, false, []⟩,
    ⟨some 21, none, .mov (.t 1), 0, 0, false, []⟩,
    ⟨some 22, none, .iaddr 3 (.t 19) (.t 20), 0, 0, false, []⟩,
    ⟨some 23, none, .faddr 1 1 (.t 22), 0, 0, false, []⟩,
    ⟨none, none, .store 1 (.t 23) (.t 21), 0, 0, false, []⟩])
   (.cutTo [0, 1, 5] (.seq (.seg false [⟨some 24, none, .mov (.t 1), 0, 0, false, []⟩,
    ⟨some 25, none, .bin .add (.t 24) (.k (.int .i64 1)), 0, 0, false, []⟩,
    ⟨some 1, none, .mov (.t 25), 0, 0, false, []⟩])
   (.seq (.seg false [⟨some 26, none, .mov (.t 0), 0, 0, false, []⟩,
    ⟨some 27, none, .mov (.t 5), 0, 0, false, []⟩,
    ⟨some 28, none, .mov (.t 1), 0, 0, false, []⟩,
    ⟨some 29, none, .call 142 [.t 28] false false, 0, 0, false, []⟩,
    ⟨some 30, none, .iaddr 3 (.t 26) (.t 27), 0, 0, false, []⟩,
    ⟨some 31, none, .faddr 2 1 (.t 30), 0, 0, false, []⟩,
    ⟨none, none, .store 1 (.t 31) (.t 29), 0, 0, false, []⟩])
   (.cutTo [0, 1, 5] (.seg false [⟨some 32, none, .mov (.t 1), 0, 0, false, []⟩,
    ⟨some 33, none, .bin .add (.t 32) (.k (.int .i64 1)), 0, 0, false, []⟩,
    ⟨some 1, none, .mov (.t 33), 0, 0, false, []⟩]))))))))))
   (.cutTo [0, 1, 5] (.seg false [⟨some 10, none, .mov (.t 5), 0, 0, false, []⟩,
    ⟨some 11, none, .bin .add (.t 10) (.k (.int .i64 1)), 0, 0, false, []⟩,
    ⟨some 5, none, .mov (.t 11), 0, 0, false, []⟩]))))
def L90x0 : C := B90x0
theorem evL90x0 (run : Run) (draw : List I → Env → Heap → Option (Env × Heap)) (e : Env) (h : Heap) : evC run draw L90x0 e h = evC run draw B90x0 e h := rfl
/-- loop.example/tablehouse/laws.markValueS -/
def F90 : F := ⟨35, [(false, 4, 0, false)],
   .seq (.seg false [⟨some 4, none, .mov (.k (.int .i64 0)), 0, 0, false, []⟩])
   (.seq (.seq (.seg false [⟨some 5, none, .mov (.k (.int .i64 0)), 0, 0, false, []⟩])
   (.block 0 (.loopk [0, 1, 5] [1] L90x0)))
   (.seq (.seg false [⟨some 34, none, .mov (.t 1), 0, 0, false, []⟩,
    ⟨some 4, none, .mov (.t 34), 0, 0, false, []⟩])
   (.ret)))⟩
def E91x0 : List I := [⟨some 30, none, .mov (.t 0), 0, 0, false, []⟩,
    ⟨some 31, none, .mov (.t 5), 0, 0, false, []⟩,
    ⟨some 32, none, .iaddr 3 (.t 30) (.t 31), 0, 0, false, []⟩,
    ⟨some 33, none, .faddr 2 1 (.t 32), 0, 0, false, []⟩,
    ⟨some 34, none, .load false 1 (.t 33), 0, 0, false, []⟩,
    ⟨some 35, none, .mov (.t 1), 0, 0, false, []⟩,
    ⟨some 36, none, .call 142 [.t 35] false false, 0, 0, false, []⟩,
    ⟨some 37, none, .bin .neq (.t 34) (.t 36), 0, 0, false, []⟩]
def D91x0 : List I := E91x0
theorem evD91x0 (run : Run) (e : Env) (h : Heap) : drawI run D91x0 e h = DrawS (evQ run E91x0 e h) run E91x0 e h := drawI_quiet run _ (by rfl) e h
def B91x0 : C := .seq (.seq (.seg false [⟨some 6, none, .mov (.t 5), 0, 0, false, []⟩,
    ⟨some 7, none, .mov (.t 0), 0, 0, false, []⟩,
    ⟨some 8, none, .len false (.t 7), 0, 0, false, []⟩,
    ⟨some 9, none, .bin .lss (.t 6) (.t 8), 0, 0, false, []⟩])
   (.cutTo [0, 1, 5, 9] (.cond (.t 9) (.skip)
   (.exit 0))))
   (.cutTo [0, 1, 5] (.seq (.block 1 (.seq (.seq (.seg false [⟨some 12, none, .mov (.t 0), 0, 0, false, []⟩,
    ⟨some 13, none, .mov (.t 5), 0, 0, false, []⟩,
    ⟨some 14, none, .iaddr 3 (.t 12) (.t 13), 0, 0, false, []⟩,
    ⟨some 15, none, .faddr 0 1 (.t 14), 0, 0, false, []⟩,
    ⟨some 16, none, .load false 1 (.t 15), 0, 0, false, []⟩,
    ⟨some 17, none, .mov (.t 1), 0, 0, false, []⟩,
    ⟨some 18, none, .bin .neq (.t 16) (.t 17), 0, 0, false, []⟩])
   (.cutTo [0, 1, 5, 18] (.cond (.t 18) (.seq (.seg false [⟨some 4, none, .mov (.k (.int .i64 (-1))), 0, 0, false, []⟩])
   (.ret))
   (.skip))))
   (.cutTo [0, 1, 5] (.seq (.seg false [⟨some 19, none, .mov (.t 1), 0, 0, false, []⟩,
    ⟨some 20, none, .bin .add (.t 19) (.k (.int .i64 1)), 0, 0, false, []⟩,
    ⟨some 1, none, .mov (.t 20), 0, 0, false, []⟩])
   (.seq (.seq (.seg false [⟨some 21, none, .mov (.t 0), 0, 0, false, []⟩,
    ⟨some 22, none, .mov (.t 5), 0, 0, false, []⟩,
    ⟨some 23, none, .iaddr 3 (.t 21) (.t 22), 0, 0, false, []⟩,
    ⟨some 24, none, .faddr 1 1 (.t 23), 0, 0, false, []⟩,
    ⟨some 25, none, .load false 1 (.t 24), 0, 0, false, []⟩,
    ⟨some 26, none, .mov (.t 1), 0, 0, false, []⟩,
    ⟨some 27, none, .bin .neq (.t 25) (.t 26), 0, 0, false, []⟩])
   (.cutTo [0, 1, 5, 27] (.cond (.t 27) (.seq (.seg false [⟨some 4, none, .mov (.k (.int .i64 (-1))), 0, 0, false, []⟩])
   (.ret))
   (.skip))))
   (.cutTo [0, 1, 5] (.seq (.seg false [⟨some 28, none, .mov (.t 1), 0, 0, false, []⟩,
    ⟨some 29, none, .bin .add (.t 28) (.k (.int .i64 1)), 0, 0, false, []⟩,
    ⟨some 1, none, .mov (.t 29), 0, 0, false, []⟩])
   (.seq (.seq (.seg true D91x0)
   (.cutTo [0, 1, 5, 37] (.cond (.t 37) (.seq (.seg false [⟨some 4, none, .mov (.k (.int .i64 (-1))), 0, 0, false, []⟩])
   (.ret))
   (.skip))))
   (.cutTo [0, 1, 5] (.seg false [⟨some 38, none, .mov (.t 1), 0, 0, false, []⟩,
    ⟨some 39, none, .bin .add (.t 38) (.k (.int .i64 1)), 0, 0, false, []⟩,
    ⟨some 1, none, .mov (.t 39), 0, 0, false, []⟩]))))))))))
   (.cutTo [0, 1, 5] (.seg false [⟨some 10, none, .mov (.t 5), 0, 0, false, []⟩,
    ⟨some 11, none, .bin .add (.t 10) (.k (.int .i64 1)), 0, 0, false, []⟩,
    ⟨some 5, none, .mov (.t 11), 0, 0, false, []⟩]))))
def L91x0 : C := B91x0
theorem evL91x0 (run : Run) (draw : List I → Env → Heap → Option (Env × Heap)) (e : Env) (h : Heap) : evC run draw L91x0 e h = evC run draw B91x0 e h := rfl
/-- loop.example/tablehouse/laws.heldValueS -/
def F91 : F := ⟨41, [(false, 4, 0, false)],
   .seq (.seg false [⟨some 4, none, .mov (.k (.int .i64 0)), 0, 0, false, []⟩])
   (.seq (.seq (.seg false [⟨some 5, none, .mov (.k (.int .i64 0)), 0, 0, false, []⟩])
   (.block 0 (.loop [0, 1, 5] [1, 4] L91x0)))
   (.seq (.seg false [⟨some 40, none, .mov (.t 1), 0, 0, false, []⟩,
    ⟨some 4, none, .mov (.t 40), 0, 0, false, []⟩])
   (.ret)))⟩
/-- loop.example/tablehouse/spec.l20Tallies -/
def F92 : F := ⟨56, [(false, 4, 0, false)],
   .seq (.seg false [⟨some 4, none, .nilrow 4, 0, 0, false, []⟩])
   (.seq (.seg false [⟨some 7, none, .mov (.t 0), 0, 0, false, []⟩,
    ⟨some 8, none, .call 144 [.t 7, .k (.int .i64 0)] true false, 0, 0, false, []⟩,
    ⟨some 9, none, .call 143 [.t 8] false true, 0, 0, false, []⟩,
    ⟨some 5, none, .mov (.t 9), 0, 0, false, []⟩])
   (.cutTo [0, 1, 5] (.seq (.seq (.seg false [⟨some 10, none, .mov (.t 5), 0, 0, false, []⟩,
    ⟨some 11, none, .len false (.t 10), 0, 0, false, []⟩,
    ⟨some 12, none, .bin .gtr (.t 11) (.k (.int .i64 0)), 0, 0, false, []⟩,
    ⟨some 13, none, .mov (.t 12), 0, 0, false, []⟩,
    ⟨some 14, some (13, true), .mov (.t 0), 0, 0, false, []⟩,
    ⟨some 15, some (13, true), .mov (.t 1), 0, 0, false, []⟩,
    ⟨some 16, some (13, true), .call 119 [.t 14, .t 15] true false, 0, 0, false, []⟩,
    ⟨some 17, none, .pick (.t 13) (.t 16) (.k (.bool false)), 0, 0, false, []⟩])
   (.cutTo [0, 5, 17] (.cond (.t 17) (.seq (.seg false [⟨some 18, none, .mov (.t 0), 0, 0, false, []⟩,
    ⟨some 19, none, .mov (.t 5), 0, 0, false, []⟩,
    ⟨some 20, none, .len false (.t 19), 0, 0, false, []⟩,
    ⟨some 21, none, .call 57 [.t 18, .t 20] true false, 0, 0, false, []⟩,
    ⟨some 6, none, .mov (.t 21), 0, 0, false, []⟩])
   (.cutTo [0, 5, 6] (.seq (.seg false [⟨some 22, none, .mov (.t 0), 0, 0, false, []⟩,
    ⟨some 23, none, .call 57 [.t 22, .k (.int .i64 4)] true false, 0, 0, false, []⟩])
   (.block 0 (.seq (.seg false [⟨some 32, none, .bin .eql (.t 23) (.k (.int .i64 0)), 0, 0, false, []⟩,
    ⟨some 31, none, .mov (.t 32), 0, 0, false, []⟩])
   (.cond (.t 31) (.seg false [⟨some 33, none, .mov (.t 5), 0, 0, false, []⟩,
    ⟨some 34, none, .mov (.t 6), 0, 0, false, []⟩,
    ⟨some 35, none, .mov (.t 0), 0, 0, false, []⟩,
    ⟨some 36, none, .call 57 [.t 35, .k (.int .i64 4)] true false, 0, 0, false, []⟩,
    ⟨some 37, none, .bin .sub (.t 36) (.k (.int .i64 1)), 0, 0, false, []⟩,
    ⟨some 38, none, .iaddr 4 (.t 33) (.t 34), 0, 0, false, []⟩,
    ⟨some 39, none, .faddr 1 1 (.t 38), 0, 0, false, []⟩,
    ⟨none, none, .store 1 (.t 39) (.t 37), 0, 0, false, []⟩])
   (.seq (.seg false [⟨some 41, none, .bin .eql (.t 23) (.k (.int .i64 1)), 0, 0, false, []⟩,
    ⟨some 40, none, .mov (.t 41), 0, 0, false, []⟩])
   (.cond (.t 40) (.seg false [⟨some 42, none, .mov (.t 5), 0, 0, false, []⟩,
    ⟨some 43, none, .mov (.t 6), 0, 0, false, []⟩,
    ⟨some 44, none, .iaddr 4 (.t 42) (.t 43), 0, 0, false, []⟩,
    ⟨some 45, none, .faddr 3 1 (.t 44), 0, 0, false, []⟩,
    ⟨none, none, .store 1 (.t 45) (.k (.int .i64 99999999)), 0, 0, false, []⟩])
   (.seq (.seg false [⟨some 47, none, .bin .eql (.t 23) (.k (.int .i64 2)), 0, 0, false, []⟩,
    ⟨some 46, none, .mov (.t 47), 0, 0, false, []⟩])
   (.cond (.t 46) (.seg false [⟨some 48, none, .mov (.t 5), 0, 0, false, []⟩,
    ⟨some 49, none, .mov (.t 6), 0, 0, false, []⟩,
    ⟨some 50, none, .mov (.t 0), 0, 0, false, []⟩,
    ⟨some 51, none, .call 57 [.t 50, .k (.int .i64 9)] true false, 0, 0, false, []⟩,
    ⟨some 52, none, .bin .sub (.t 51) (.k (.int .i64 1)), 0, 0, false, []⟩,
    ⟨some 53, none, .iaddr 4 (.t 48) (.t 49), 0, 0, false, []⟩,
    ⟨some 54, none, .faddr 2 1 (.t 53), 0, 0, false, []⟩,
    ⟨none, none, .store 1 (.t 54) (.t 52), 0, 0, false, []⟩])
   (.seg false [⟨some 24, none, .mov (.t 5), 0, 0, false, []⟩,
    ⟨some 25, none, .mov (.t 5), 0, 0, false, []⟩,
    ⟨some 26, none, .mov (.t 6), 0, 0, false, []⟩,
    ⟨some 27, none, .iaddr 4 (.t 25) (.t 26), 0, 0, false, []⟩,
    ⟨some 28, none, .load true 4 (.t 27), 0, 0, false, []⟩,
    ⟨some 29, none, .mksl false 4 [.t 28], 0, 0, false, []⟩,
    ⟨some 30, none, .app 4 (.t 24) (.t 29), 0, 0, false, []⟩,
    ⟨some 5, none, .mov (.t 30), 0, 0, false, []⟩])))))))))))
   (.skip))))
   (.cutTo [5] (.seq (.seg false [⟨some 55, none, .mov (.t 5), 0, 0, false, []⟩,
    ⟨some 4, none, .mov (.t 55), 0, 0, false, []⟩])
   (.ret))))))⟩
/-- (loop.example/tablehouse/impl.Tally).ok -/
def F93 : F := ⟨35, [(false, 2, 0, false)],
   .seq (.seg false [⟨some 1, none, .box (.t 0), 0, 0, false, []⟩,
    ⟨some 2, none, .mov (.k (.bool false)), 0, 0, false, []⟩])
   (.seq (.seg false [⟨some 3, none, .faddr 0 1 (.t 1), 0, 0, false, []⟩,
    ⟨some 4, none, .load false 1 (.t 3), 0, 0, false, []⟩,
    ⟨some 5, none, .len false (.t 4), 0, 0, false, []⟩,
    ⟨some 6, none, .bin .eql (.t 5) (.k (.int .i64 1)), 0, 0, false, []⟩,
    ⟨some 7, none, .mov (.t 6), 0, 0, false, []⟩,
    ⟨some 8, some (7, true), .faddr 0 1 (.t 1), 0, 0, false, []⟩,
    ⟨some 9, some (7, true), .load false 1 (.t 8), 0, 0, false, []⟩,
    ⟨some 10, some (7, true), .call 80 [.t 9] false false, 0, 0, false, []⟩,
    ⟨some 11, none, .pick (.t 7) (.t 10) (.k (.bool false)), 0, 0, false, []⟩,
    ⟨some 12, none, .mov (.t 11), 0, 0, false, []⟩,
    ⟨some 13, some (12, true), .faddr 1 1 (.t 1), 0, 0, false, []⟩,
    ⟨some 14, some (12, true), .load false 1 (.t 13), 0, 0, false, []⟩,
    ⟨some 15, some (12, true), .call 79 [.t 14, .k (.int .i64 1), .k (.int .i64 100)] false false, 0, 0, false, []⟩,
    ⟨some 16, none, .pick (.t 12) (.t 15) (.k (.bool false)), 0, 0, false, []⟩,
    ⟨some 17, none, .mov (.t 16), 0, 0, false, []⟩,
    ⟨some 18, some (17, true), .faddr 2 1 (.t 1), 0, 0, false, []⟩,
    ⟨some 19, some (17, true), .load false 1 (.t 18), 0, 0, false, []⟩,
    ⟨some 20, some (17, true), .faddr 1 1 (.t 1), 0, 0, false, []⟩,
    ⟨some 21, some (17, true), .load false 1 (.t 20), 0, 0, false, []⟩,
    ⟨some 22, some (17, true), .call 79 [.t 19, .k (.int .i64 0), .t 21] false false, 0, 0, false, []⟩,
    ⟨some 23, none, .pick (.t 17) (.t 22) (.k (.bool false)), 0, 0, false, []⟩,
    ⟨some 24, none, .mov (.t 23), 0, 0, false, []⟩,
    ⟨some 25, some (24, true), .faddr 3 1 (.t 1), 0, 0, false, []⟩,
    ⟨some 26, some (24, true), .load false 1 (.t 25), 0, 0, false, []⟩,
    ⟨some 27, some (24, true), .faddr 2 1 (.t 1), 0, 0, false, []⟩,
    ⟨some 28, some (24, true), .load false 1 (.t 27), 0, 0, false, []⟩,
    ⟨some 29, some (24, true), .bin .mul (.k (.int .i64 (-9999))) (.t 28), 0, 0, false, []⟩,
    ⟨some 30, some (24, true), .faddr 2 1 (.t 1), 0, 0, false, []⟩,
    ⟨some 31, some (24, true), .load false 1 (.t 30), 0, 0, false, []⟩,
    ⟨some 32, some (24, true), .bin .mul (.k (.int .i64 9999)) (.t 31), 0, 0, false, []⟩,
    ⟨some 33, some (24, true), .call 79 [.t 26, .t 29, .t 32] false false, 0, 0, false, []⟩,
    ⟨some 34, none, .pick (.t 24) (.t 33) (.k (.bool false)), 0, 0, false, []⟩,
    ⟨some 2, none, .mov (.t 34), 0, 0, false, []⟩])
   (.cutTo [2] (.ret)))⟩
/-- loop.example/tablehouse/impl.rowOrder -/
def F94 : F := ⟨15, [(false, 4, 0, false)],
   .seq (.seg false [⟨some 4, none, .mov (.k (.int .i64 0)), 0, 0, false, []⟩])
   (.seq (.seg false [⟨some 5, none, .mov (.t 0), 0, 0, false, []⟩,
    ⟨some 6, none, .mov (.t 1), 0, 0, false, []⟩,
    ⟨some 7, none, .call 146 [.t 5, .t 6, .k (.clo 108 [])] true false, 0, 0, false, []⟩,
    ⟨some 8, none, .mov (.t 0), 0, 0, false, []⟩,
    ⟨some 9, none, .len false (.t 8), 0, 0, false, []⟩,
    ⟨some 10, none, .mov (.t 1), 0, 0, false, []⟩,
    ⟨some 11, none, .len false (.t 10), 0, 0, false, []⟩,
    ⟨some 12, none, .call 147 [.t 9, .t 11] false false, 0, 0, false, []⟩,
    ⟨some 13, none, .mksl false 1 [.t 7, .t 12], 0, 0, false, []⟩,
    ⟨some 14, none, .call 145 [.t 13] false false, 0, 0, false, []⟩,
    ⟨some 4, none, .mov (.t 14), 0, 0, false, []⟩])
   (.cutTo [4] (.ret)))⟩
/-- (*loop.example/tablehouse/spec.l20Rd).odd -/
def F119 : F := ⟨15, [(false, 4, 0, false)],
   .seq (.seg false [⟨some 4, none, .mov (.k (.bool false)), 0, 0, false, []⟩])
   (.seq (.seg false [⟨some 5, none, .mov (.t 1), 0, 0, false, []⟩,
    ⟨some 6, none, .bin .gtr (.t 5) (.k (.int .i64 0)), 0, 0, false, []⟩,
    ⟨some 7, none, .mov (.t 6), 0, 0, false, []⟩,
    ⟨some 8, some (7, true), .mov (.t 0), 0, 0, false, []⟩,
    ⟨some 9, some (7, true), .mov (.t 1), 0, 0, false, []⟩,
    ⟨some 10, some (7, true), .call 57 [.t 8, .t 9] true false, 0, 0, false, []⟩,
    ⟨some 11, some (7, true), .mov (.t 1), 0, 0, false, []⟩,
    ⟨some 12, some (7, true), .bin .sub (.t 11) (.k (.int .i64 1)), 0, 0, false, []⟩,
    ⟨some 13, some (7, true), .bin .eql (.t 10) (.t 12), 0, 0, false, []⟩,
    ⟨some 14, none, .pick (.t 7) (.t 13) (.k (.bool false)), 0, 0, false, []⟩,
    ⟨some 4, none, .mov (.t 14), 0, 0, false, []⟩])
   (.cutTo [4] (.ret)))⟩
def B121x0 : C := .seq (.seq (.seg false [⟨some 9, none, .mov (.t 6), 0, 0, false, []⟩,
    ⟨some 10, none, .bin .lss (.t 9) (.k (.int .i64 5)), 0, 0, false, []⟩])
   (.cond (.t 10) (.skip)
   (.exit 0)))
   (.seq (.block 1 (.seq (.seg false [⟨some 13, none, .mov (.t 0), 0, 0, false, []⟩,
    ⟨some 14, none, .call 57 [.t 13, .k (.int .i64 3)] true false, 0, 0, false, []⟩,
    ⟨some 15, none, .bin .eql (.t 14) (.k (.int .i64 0)), 0, 0, false, []⟩])
   (.cond (.t 15) (.seq (.seg false [⟨some 16, none, .mov (.t 6), 0, 0, false, []⟩,
    ⟨some 17, none, .build [.int .i64 0, .sl true 3 [], .bool false] [(0, 1, .t 16)], 0, 0, false, []⟩,
    ⟨some 7, none, .alloc [.int .i64 0, .sl true 3 [], .bool false], 0, 0, false, []⟩,
    ⟨none, none, .store 3 (.t 7) (.t 17), 0, 0, false, []⟩])
   (.cutTo [0, 1, 5, 6, 7] (.seq (.seq (.seg false [⟨some 18, none, .mov (.t 0), 0, 0, false, []⟩,
    ⟨some 19, none, .call 57 [.t 18, .k (.int .i64 3)] true false, 0, 0, false, []⟩,
    ⟨some 20, none, .bin .eql (.t 19) (.k (.int .i64 0)), 0, 0, false, []⟩])
   (.cond (.t 20) (.seg false [⟨some 21, none, .faddr 2 1 (.t 7), 0, 0, false, []⟩,
    ⟨none, none, .store 1 (.t 21) (.k (.bool true)), 0, 0, false, []⟩])
   (.seg false [⟨some 22, none, .mov (.t 0), 0, 0, false, []⟩,
    ⟨some 23, none, .call 170 [.t 22] true false, 0, 0, false, []⟩,
    ⟨some 24, none, .faddr 1 1 (.t 7), 0, 0, false, []⟩,
    ⟨none, none, .store 1 (.t 24) (.t 23), 0, 0, false, []⟩])))
   (.cutTo [0, 1, 5, 6, 7] (.seg false [⟨some 25, none, .mov (.t 5), 0, 0, false, []⟩,
    ⟨some 26, none, .load true 3 (.t 7), 0, 0, false, []⟩,
    ⟨some 27, none, .mksl false 3 [.t 26], 0, 0, false, []⟩,
    ⟨some 28, none, .app 3 (.t 25) (.t 27), 0, 0, false, []⟩,
    ⟨some 5, none, .mov (.t 28), 0, 0, false, []⟩])))))
   (.skip))))
   (.cutTo [0, 1, 5, 6] (.seg false [⟨some 11, none, .mov (.t 6), 0, 0, false, []⟩,
    ⟨some 12, none, .bin .add (.t 11) (.k (.int .i64 1)), 0, 0, false, []⟩,
    ⟨some 6, none, .mov (.t 12), 0, 0, false, []⟩])))
def L121x0 : C := B121x0
theorem evL121x0 (run : Run) (draw : List I → Env → Heap → Option (Env × Heap)) (e : Env) (h : Heap) : evC run draw L121x0 e h = evC run draw B121x0 e h := rfl
/-- loop.example/tablehouse/spec.l20Writes -/
def F121 : F := ⟨58, [(false, 4, 0, false)],
   .seq (.seg false [⟨some 4, none, .nilrow 3, 0, 0, false, []⟩])
   (.seq (.seg false [⟨some 8, none, .mksl true 3 [], 0, 0, false, []⟩,
    ⟨some 5, none, .mov (.t 8), 0, 0, false, []⟩])
   (.seq (.seq (.seg false [⟨some 6, none, .mov (.k (.int .i64 0)), 0, 0, false, []⟩])
   (.block 0 (.loop [0, 1, 5, 6] [0, 1, 5] L121x0)))
   (.seq (.seq (.seg false [⟨some 29, none, .mov (.t 0), 0, 0, false, []⟩,
    ⟨some 30, none, .mov (.t 1), 0, 0, false, []⟩,
    ⟨some 31, none, .call 119 [.t 29, .t 30] true false, 0, 0, false, []⟩])
   (.cond (.t 31) (.seq (.seg false [⟨some 32, none, .mov (.t 0), 0, 0, false, []⟩,
    ⟨some 33, none, .call 57 [.t 32, .k (.int .i64 3)] true false, 0, 0, false, []⟩])
   (.block 2 (.seq (.seg false [⟨some 41, none, .bin .eql (.t 33) (.k (.int .i64 0)), 0, 0, false, []⟩,
    ⟨some 40, none, .mov (.t 41), 0, 0, false, []⟩])
   (.cond (.t 40) (.seg false [⟨some 42, none, .mov (.t 5), 0, 0, false, []⟩,
    ⟨some 43, none, .mov (.t 0), 0, 0, false, []⟩,
    ⟨some 44, none, .call 57 [.t 43, .k (.int .i64 8)] true false, 0, 0, false, []⟩,
    ⟨some 45, none, .bin .sub (.t 44) (.k (.int .i64 1)), 0, 0, false, []⟩,
    ⟨some 46, none, .build [.int .i64 0, .sl true 3 [], .bool false] [(0, 1, .t 45)], 0, 0, false, []⟩,
    ⟨some 47, none, .mksl false 3 [.t 46], 0, 0, false, []⟩,
    ⟨some 48, none, .app 3 (.t 42) (.t 47), 0, 0, false, []⟩,
    ⟨some 5, none, .mov (.t 48), 0, 0, false, []⟩])
   (.seq (.seg false [⟨some 50, none, .bin .eql (.t 33) (.k (.int .i64 1)), 0, 0, false, []⟩,
    ⟨some 49, none, .mov (.t 50), 0, 0, false, []⟩])
   (.cond (.t 49) (.seg false [⟨some 51, none, .mov (.t 5), 0, 0, false, []⟩,
    ⟨some 52, none, .mov (.t 0), 0, 0, false, []⟩,
    ⟨some 53, none, .call 170 [.t 52] true false, 0, 0, false, []⟩,
    ⟨some 54, none, .build [.int .i64 0, .sl true 3 [], .bool false] [(0, 1, .k (.int .i64 4)), (1, 1, .t 53), (2, 1, .k (.bool true))], 0, 0, false, []⟩,
    ⟨some 55, none, .mksl false 3 [.t 54], 0, 0, false, []⟩,
    ⟨some 56, none, .app 3 (.t 51) (.t 55), 0, 0, false, []⟩,
    ⟨some 5, none, .mov (.t 56), 0, 0, false, []⟩])
   (.seg false [⟨some 34, none, .mov (.t 5), 0, 0, false, []⟩,
    ⟨some 35, none, .mov (.t 0), 0, 0, false, []⟩,
    ⟨some 36, none, .call 171 [.t 35, .k (.int .i64 1)] true false, 0, 0, false, []⟩,
    ⟨some 37, none, .build [.int .i64 0, .sl true 3 [], .bool false] [(0, 1, .k (.int .i64 0)), (1, 1, .t 36)], 0, 0, false, []⟩,
    ⟨some 38, none, .mksl false 3 [.t 37], 0, 0, false, []⟩,
    ⟨some 39, none, .app 3 (.t 34) (.t 38), 0, 0, false, []⟩,
    ⟨some 5, none, .mov (.t 39), 0, 0, false, []⟩])))))))
   (.skip)))
   (.cutTo [5] (.seq (.seg false [⟨some 57, none, .mov (.t 5), 0, 0, false, []⟩,
    ⟨some 4, none, .mov (.t 57), 0, 0, false, []⟩])
   (.ret))))))⟩
def B120x0 : C := .seq (.seq (.seg false [⟨some 25, none, .mov (.t 8), 0, 0, false, []⟩,
    ⟨some 26, none, .bin .lss (.t 25) (.k (.int .i64 5)), 0, 0, false, []⟩])
   (.cond (.t 26) (.skip)
   (.exit 0)))
   (.seq (.block 1 (.seq (.seg false [⟨some 29, none, .mov (.t 0), 0, 0, false, []⟩,
    ⟨some 30, none, .mov (.t 8), 0, 0, false, []⟩,
    ⟨some 31, none, .call 167 [.t 29, .t 30] false false, 0, 0, false, []⟩,
    ⟨some 32, none, .mov (.t 2), 0, 0, false, []⟩,
    ⟨some 33, none, .bin .geq (.t 31) (.t 32), 0, 0, false, []⟩])
   (.cutTo [0, 1, 2, 8, 33] (.cond (.t 33) (.seq (.seg false [⟨some 34, none, .mksl false 4 [], 0, 0, false, []⟩,
    ⟨some 6, none, .mov (.t 34), 0, 0, false, []⟩,
    ⟨some 7, none, .mov (.k (.bool false)), 0, 0, false, []⟩])
   (.ret))
   (.skip)))))
   (.cutTo [0, 1, 2, 8] (.seg false [⟨some 27, none, .mov (.t 8), 0, 0, false, []⟩,
    ⟨some 28, none, .bin .add (.t 27) (.k (.int .i64 1)), 0, 0, false, []⟩,
    ⟨some 8, none, .mov (.t 28), 0, 0, false, []⟩])))
def L120x0 : C := B120x0
theorem evL120x0 (run : Run) (draw : List I → Env → Heap → Option (Env × Heap)) (e : Env) (h : Heap) : evC run draw L120x0 e h = evC run draw B120x0 e h := rfl
def B120x1 : C := .seq (.seq (.seg false [⟨some 37, none, .mov (.t 10), 0, 0, false, []⟩,
    ⟨some 38, none, .mov (.t 1), 0, 0, false, []⟩,
    ⟨some 39, none, .len false (.t 38), 0, 0, false, []⟩,
    ⟨some 40, none, .bin .lss (.t 37) (.t 39), 0, 0, false, []⟩])
   (.cutTo [1, 2, 9, 10, 40] (.cond (.t 40) (.skip)
   (.exit 2))))
   (.cutTo [1, 2, 9, 10] (.seq (.block 3 (.seg false [⟨some 43, none, .mov (.t 9), 0, 0, false, []⟩,
    ⟨some 44, none, .mov (.t 1), 0, 0, false, []⟩,
    ⟨some 45, none, .mov (.t 10), 0, 0, false, []⟩,
    ⟨some 46, none, .iaddr 3 (.t 44) (.t 45), 0, 0, false, []⟩,
    ⟨some 47, none, .load true 3 (.t 46), 0, 0, false, []⟩,
    ⟨some 48, none, .mov (.t 2), 0, 0, false, []⟩,
    ⟨some 49, none, .call 169 [.t 43, .t 47, .t 48] false true, 0, 0, false, []⟩,
    ⟨some 9, none, .mov (.t 49), 0, 0, false, []⟩]))
   (.cutTo [1, 2, 9, 10] (.seg false [⟨some 41, none, .mov (.t 10), 0, 0, false, []⟩,
    ⟨some 42, none, .bin .add (.t 41) (.k (.int .i64 1)), 0, 0, false, []⟩,
    ⟨some 10, none, .mov (.t 42), 0, 0, false, []⟩]))))
def L120x1 : C := B120x1
theorem evL120x1 (run : Run) (draw : List I → Env → Heap → Option (Env × Heap)) (e : Env) (h : Heap) : evC run draw L120x1 e h = evC run draw B120x1 e h := rfl
/-- loop.example/tablehouse/spec.WrittenAt -/
def F120 : F := ⟨55, [(false, 6, 0, false), (false, 7, 0, false)],
   .seq (.seg false [⟨some 6, none, .mov (.k (.sl true 4 [])), 0, 0, false, []⟩,
    ⟨some 7, none, .mov (.k (.bool false)), 0, 0, false, []⟩])
   (.seq (.seq (.seg false [⟨some 11, none, .mov (.t 0), 0, 0, false, []⟩,
    ⟨some 12, none, .call 62 [.t 11] false false, 0, 0, false, []⟩,
    ⟨some 13, none, .un .not (.t 12), 0, 0, false, []⟩,
    ⟨some 14, none, .mov (.t 13), 0, 0, false, []⟩,
    ⟨some 15, some (14, false), .mov (.t 1), 0, 0, false, []⟩,
    ⟨some 16, some (14, false), .call 158 [.t 15] false false, 0, 0, false, []⟩,
    ⟨some 17, some (14, false), .un .not (.t 16), 0, 0, false, []⟩,
    ⟨some 18, none, .pick (.t 14) (.k (.bool true)) (.t 17), 0, 0, false, []⟩,
    ⟨some 19, none, .mov (.t 18), 0, 0, false, []⟩,
    ⟨some 20, some (19, false), .mov (.t 2), 0, 0, false, []⟩,
    ⟨some 21, some (19, false), .call 84 [.t 20, .k (.int .i64 1), .k (.int .i64 40)] false false, 0, 0, false, []⟩,
    ⟨some 22, some (19, false), .un .not (.t 21), 0, 0, false, []⟩,
    ⟨some 23, none, .pick (.t 19) (.k (.bool true)) (.t 22), 0, 0, false, []⟩])
   (.cutTo [0, 1, 2, 23] (.cond (.t 23) (.seq (.seg false [⟨some 24, none, .mksl false 4 [], 0, 0, false, []⟩,
    ⟨some 6, none, .mov (.t 24), 0, 0, false, []⟩,
    ⟨some 7, none, .mov (.k (.bool false)), 0, 0, false, []⟩])
   (.ret))
   (.skip))))
   (.cutTo [0, 1, 2] (.seq (.seq (.seg false [⟨some 8, none, .mov (.k (.int .i64 0)), 0, 0, false, []⟩])
   (.block 0 (.loopk [0, 1, 2, 8] [0, 1, 2, 6, 7] L120x0)))
   (.seq (.seg false [⟨some 35, none, .mov (.t 0), 0, 0, false, []⟩,
    ⟨some 36, none, .call 168 [.t 35] true true, 0, 0, false, []⟩,
    ⟨some 9, none, .mov (.t 36), 0, 0, false, []⟩])
   (.seq (.seq (.seg false [⟨some 10, none, .mov (.k (.int .i64 0)), 0, 0, false, []⟩])
   (.block 2 (.loopk [1, 2, 9, 10] [9] L120x1)))
   (.seq (.seq (.seg false [⟨some 50, none, .mov (.t 9), 0, 0, false, []⟩,
    ⟨some 51, none, .len false (.t 50), 0, 0, false, []⟩,
    ⟨some 52, none, .bin .gtr (.t 51) (.k (.int .i64 60)), 0, 0, false, []⟩])
   (.cond (.t 52) (.seq (.seg false [⟨some 53, none, .mksl false 4 [], 0, 0, false, []⟩,
    ⟨some 6, none, .mov (.t 53), 0, 0, false, []⟩,
    ⟨some 7, none, .mov (.k (.bool false)), 0, 0, false, []⟩])
   (.ret))
   (.skip)))
   (.cutTo [9] (.seq (.seg false [⟨some 54, none, .mov (.t 9), 0, 0, false, []⟩,
    ⟨some 6, none, .mov (.t 54), 0, 0, false, []⟩,
    ⟨some 7, none, .mov (.k (.bool true)), 0, 0, false, []⟩])
   (.ret)))))))))⟩
def E122x0 : List I := [⟨some 3, none, .faddr 0 1 (.t 1), 0, 0, false, []⟩,
    ⟨some 4, none, .load false 1 (.t 3), 0, 0, false, []⟩,
    ⟨some 5, none, .callx 0 172 [.t 4], 0, 0, true, []⟩,
    ⟨some 6, none, .faddr 1 1 (.t 1), 0, 1, false, []⟩,
    ⟨some 7, none, .load false 1 (.t 6), 0, 1, false, []⟩,
    ⟨some 8, none, .callx 0 67 [.t 7], 1, 0, true, []⟩,
    ⟨some 9, none, .build [.sl true 2 [], .sl true 1 []] [(0, 1, .t 5), (1, 1, .t 8)], 2, 2, false, []⟩,
    ⟨none, none, .store 2 (.t 2) (.t 9), 2, 0, true, []⟩]
def D122x0 : List I := E122x0
theorem evD122x0 (run : Run) (e : Env) (h : Heap) : drawI run D122x0 e h = DrawW (evW run E122x0 e h []) run E122x0 e h := drawI_write run _ e h
/-- loop.example/tablehouse/impl.tableCopy -/
def F122 : F := ⟨10, [(true, 2, 2, true)],
   .seq (.seg false [⟨some 1, none, .box (.t 0), 0, 0, false, []⟩,
    ⟨some 2, none, .alloc [.sl true 2 [], .sl true 1 []], 0, 0, false, []⟩])
   (.seq (.seg true D122x0)
   (.cutTo [2] (.ret)))⟩
def B123x0 : C := .seq (.seq (.seg false [⟨some 9, none, .mov (.t 8), 0, 0, false, []⟩,
    ⟨some 10, none, .mov (.t 0), 0, 0, false, []⟩,
    ⟨some 11, none, .len false (.t 10), 0, 0, false, []⟩,
    ⟨some 12, none, .bin .lss (.t 9) (.t 11), 0, 0, false, []⟩,
    ⟨some 13, none, .mov (.t 12), 0, 0, false, []⟩,
    ⟨some 14, some (13, true), .mov (.t 0), 0, 0, false, []⟩,
    ⟨some 15, some (13, true), .call 62 [.t 14] false false, 0, 0, false, []⟩,
    ⟨some 16, none, .pick (.t 13) (.t 15) (.k (.bool false)), 0, 0, false, []⟩])
   (.cutTo [0, 1, 2, 8, 16] (.cond (.t 16) (.skip)
   (.exit 0))))
   (.cutTo [0, 1, 2, 8] (.seq (.block 1 (.seq (.seg false [⟨some 19, none, .mov (.t 0), 0, 0, false, []⟩,
    ⟨some 20, none, .mov (.t 8), 0, 0, false, []⟩,
    ⟨some 21, none, .iaddr 4 (.t 19) (.t 20), 0, 0, false, []⟩,
    ⟨some 22, none, .faddr 0 1 (.t 21), 0, 0, false, []⟩,
    ⟨some 23, none, .load false 1 (.t 22), 0, 0, false, []⟩,
    ⟨some 24, none, .mov (.t 1), 0, 0, false, []⟩,
    ⟨some 25, none, .bin .eql (.t 23) (.t 24), 0, 0, false, []⟩,
    ⟨some 26, none, .mov (.t 25), 0, 0, false, []⟩,
    ⟨some 27, some (26, true), .mov (.t 0), 0, 0, false, []⟩,
    ⟨some 28, some (26, true), .mov (.t 8), 0, 0, false, []⟩,
    ⟨some 29, some (26, true), .iaddr 4 (.t 27) (.t 28), 0, 0, false, []⟩,
    ⟨some 30, some (26, true), .load true 4 (.t 29), 0, 0, false, []⟩,
    ⟨some 31, some (26, true), .mov (.t 2), 0, 0, false, []⟩,
    ⟨some 32, some (26, true), .call 173 [.t 30, .t 31] false false, 0, 0, false, []⟩,
    ⟨some 33, none, .pick (.t 26) (.t 32) (.k (.bool false)), 0, 0, false, []⟩])
   (.cutTo [0, 1, 2, 8, 33] (.cond (.t 33) (.seq (.seg false [⟨some 34, none, .mov (.t 0), 0, 0, false, []⟩,
    ⟨some 35, none, .mov (.t 8), 0, 0, false, []⟩,
    ⟨some 36, none, .iaddr 4 (.t 34) (.t 35), 0, 0, false, []⟩,
    ⟨some 37, none, .faddr 3 1 (.t 36), 0, 0, false, []⟩,
    ⟨some 38, none, .load false 1 (.t 37), 0, 0, false, []⟩,
    ⟨some 39, none, .call 77 [.t 38] false false, 0, 0, false, []⟩,
    ⟨some 6, none, .mov (.t 39), 0, 0, false, []⟩,
    ⟨some 7, none, .mov (.k (.bool true)), 0, 0, false, []⟩])
   (.cutTo [6, 7] (.ret)))
   (.skip)))))
   (.cutTo [0, 1, 2, 8] (.seg false [⟨some 17, none, .mov (.t 8), 0, 0, false, []⟩,
    ⟨some 18, none, .bin .add (.t 17) (.k (.int .i64 1)), 0, 0, false, []⟩,
    ⟨some 8, none, .mov (.t 18), 0, 0, false, []⟩]))))
def L123x0 : C := B123x0
theorem evL123x0 (run : Run) (draw : List I → Env → Heap → Option (Env × Heap)) (e : Env) (h : Heap) : evC run draw L123x0 e h = evC run draw B123x0 e h := rfl
/-- loop.example/tablehouse/spec.SeenAt -/
def F123 : F := ⟨41, [(false, 6, 0, false), (false, 7, 0, false)],
   .seq (.seg false [⟨some 6, none, .mov (.k (.sl true 3 [])), 0, 0, false, []⟩,
    ⟨some 7, none, .mov (.k (.bool false)), 0, 0, false, []⟩])
   (.seq (.seq (.seg false [⟨some 8, none, .mov (.k (.int .i64 0)), 0, 0, false, []⟩])
   (.block 0 (.loop [0, 1, 2, 8] [6, 7] L123x0)))
   (.seq (.seg false [⟨some 40, none, .mksl false 3 [], 0, 0, false, []⟩,
    ⟨some 6, none, .mov (.t 40), 0, 0, false, []⟩,
    ⟨some 7, none, .mov (.k (.bool false)), 0, 0, false, []⟩])
   (.ret)))⟩
/-- loop.example/tablehouse/spec.l13Version -/
def F102 : F := ⟨29, [(false, 2, 0, false)],
   .seq (.seg false [⟨some 1, none, .box (.t 0), 0, 0, false, []⟩,
    ⟨some 2, none, .mov (.k (.bool false)), 0, 0, false, []⟩])
   (.seq (.seg false [⟨some 3, none, .faddr 0 1 (.t 1), 0, 0, false, []⟩,
    ⟨some 4, none, .load false 1 (.t 3), 0, 0, false, []⟩,
    ⟨some 5, none, .call 84 [.t 4, .k (.int .i64 0), .k (.int .i64 4)] false false, 0, 0, false, []⟩,
    ⟨some 6, none, .mov (.t 5), 0, 0, false, []⟩,
    ⟨some 7, some (6, true), .faddr 1 1 (.t 1), 0, 0, false, []⟩,
    ⟨some 8, some (6, true), .load false 1 (.t 7), 0, 0, false, []⟩,
    ⟨some 9, some (6, true), .call 84 [.t 8, .k (.int .i64 1), .k (.int .i64 40)] false false, 0, 0, false, []⟩,
    ⟨some 10, none, .pick (.t 6) (.t 9) (.k (.bool false)), 0, 0, false, []⟩,
    ⟨some 11, none, .mov (.t 10), 0, 0, false, []⟩,
    ⟨some 12, some (11, true), .faddr 2 1 (.t 1), 0, 0, false, []⟩,
    ⟨some 13, some (11, true), .load false 1 (.t 12), 0, 0, false, []⟩,
    ⟨some 14, some (11, true), .bin .eql (.t 13) (.k (.int .i64 0)), 0, 0, false, []⟩,
    ⟨some 15, some (11, true), .mov (.t 14), 0, 0, false, []⟩,
    ⟨some 16, some (15, false), .faddr 2 1 (.t 1), 0, 0, false, []⟩,
    ⟨some 17, some (15, false), .load false 1 (.t 16), 0, 0, false, []⟩,
    ⟨some 18, some (15, false), .faddr 1 1 (.t 1), 0, 0, false, []⟩,
    ⟨some 19, some (15, false), .load false 1 (.t 18), 0, 0, false, []⟩,
    ⟨some 20, some (15, false), .bin .add (.t 19) (.k (.int .i64 1)), 0, 0, false, []⟩,
    ⟨some 21, some (15, false), .call 84 [.t 17, .t 20, .k (.int .i64 40)] false false, 0, 0, false, []⟩,
    ⟨some 22, some (11, true), .pick (.t 15) (.k (.bool true)) (.t 21), 0, 0, false, []⟩,
    ⟨some 23, none, .pick (.t 11) (.t 22) (.k (.bool false)), 0, 0, false, []⟩,
    ⟨some 24, none, .mov (.t 23), 0, 0, false, []⟩,
    ⟨some 25, some (24, true), .faddr 3 1 (.t 1), 0, 0, false, []⟩,
    ⟨some 26, some (24, true), .load false 1 (.t 25), 0, 0, false, []⟩,
    ⟨some 27, some (24, true), .call 138 [.t 26] false false, 0, 0, false, []⟩,
    ⟨some 28, none, .pick (.t 24) (.t 27) (.k (.bool false)), 0, 0, false, []⟩,
    ⟨some 2, none, .mov (.t 28), 0, 0, false, []⟩])
   (.cutTo [2] (.ret)))⟩
def E124x0 : List I := [⟨some 27, none, .mov (.t 1), 0, 0, false, []⟩,
    ⟨some 28, none, .mov (.t 5), 0, 0, false, []⟩,
    ⟨some 29, none, .iaddr 3 (.t 27) (.t 28), 0, 0, false, []⟩,
    ⟨some 30, none, .faddr 0 1 (.t 29), 0, 0, false, []⟩,
    ⟨some 31, none, .load false 1 (.t 30), 0, 0, false, []⟩,
    ⟨some 32, none, .mov (.t 0), 0, 0, false, []⟩,
    ⟨some 33, none, .mov (.t 5), 0, 0, false, []⟩,
    ⟨some 34, none, .iaddr 2 (.t 32) (.t 33), 0, 0, false, []⟩,
    ⟨some 35, none, .faddr 0 1 (.t 34), 0, 0, false, []⟩,
    ⟨some 36, none, .load false 1 (.t 35), 0, 0, false, []⟩,
    ⟨some 37, none, .bin .neq (.t 31) (.t 36), 0, 0, false, []⟩,
    ⟨some 38, none, .mov (.t 37), 0, 0, false, []⟩,
    ⟨some 39, some (38, true), .mov (.t 1), 0, 0, false, []⟩,
    ⟨some 40, some (38, true), .mov (.t 5), 0, 0, false, []⟩,
    ⟨some 41, some (38, true), .iaddr 3 (.t 39) (.t 40), 0, 0, false, []⟩,
    ⟨some 42, some (38, true), .faddr 0 1 (.t 41), 0, 0, false, []⟩,
    ⟨some 43, some (38, true), .load false 1 (.t 42), 0, 0, false, []⟩,
    ⟨some 44, some (38, true), .bin .neq (.t 43) (.k (.int .i64 0)), 0, 0, false, []⟩,
    ⟨some 45, some (38, true), .mov (.t 44), 0, 0, false, []⟩,
    ⟨some 46, some (45, false), .mov (.t 0), 0, 0, false, []⟩,
    ⟨some 47, some (45, false), .mov (.t 5), 0, 0, false, []⟩,
    ⟨some 48, some (45, false), .iaddr 2 (.t 46) (.t 47), 0, 0, false, []⟩,
    ⟨some 49, some (45, false), .faddr 1 1 (.t 48), 0, 0, false, []⟩,
    ⟨some 50, some (45, false), .load false 1 (.t 49), 0, 0, false, []⟩,
    ⟨some 51, some (45, false), .un .not (.t 50), 0, 0, false, []⟩,
    ⟨some 52, some (38, true), .pick (.t 45) (.k (.bool true)) (.t 51), 0, 0, false, []⟩,
    ⟨some 53, none, .pick (.t 38) (.t 52) (.k (.bool false)), 0, 0, false, []⟩]
def D124x0 : List I := E124x0
theorem evD124x0 (run : Run) (e : Env) (h : Heap) : drawI run D124x0 e h = DrawS (evQ run E124x0 e h) run E124x0 e h := drawI_quiet run _ (by rfl) e h
def B124x0 : C := .seq (.seq (.seg false [⟨some 21, none, .mov (.t 5), 0, 0, false, []⟩,
    ⟨some 22, none, .mov (.t 1), 0, 0, false, []⟩,
    ⟨some 23, none, .len false (.t 22), 0, 0, false, []⟩,
    ⟨some 24, none, .bin .lss (.t 21) (.t 23), 0, 0, false, []⟩])
   (.cutTo [0, 1, 5, 24] (.cond (.t 24) (.skip)
   (.exit 0))))
   (.cutTo [0, 1, 5] (.seq (.block 1 (.seq (.seg true D124x0)
   (.cutTo [0, 1, 5, 53] (.cond (.t 53) (.seq (.seg false [⟨some 4, none, .mov (.k (.bool false)), 0, 0, false, []⟩])
   (.ret))
   (.skip)))))
   (.cutTo [0, 1, 5] (.seg false [⟨some 25, none, .mov (.t 5), 0, 0, false, []⟩,
    ⟨some 26, none, .bin .add (.t 25) (.k (.int .i64 1)), 0, 0, false, []⟩,
    ⟨some 5, none, .mov (.t 26), 0, 0, false, []⟩]))))
def L124x0 : C := B124x0
theorem evL124x0 (run : Run) (draw : List I → Env → Heap → Option (Env × Heap)) (e : Env) (h : Heap) : evC run draw L124x0 e h = evC run draw B124x0 e h := rfl
/-- loop.example/tablehouse/spec.RowFits -/
def F124 : F := ⟨54, [(false, 4, 0, false)],
   .seq (.seg false [⟨some 4, none, .mov (.k (.bool false)), 0, 0, false, []⟩])
   (.seq (.seq (.seg false [⟨some 6, none, .mov (.t 0), 0, 0, false, []⟩,
    ⟨some 7, none, .call 125 [.t 6] false false, 0, 0, false, []⟩,
    ⟨some 8, none, .un .not (.t 7), 0, 0, false, []⟩,
    ⟨some 9, none, .mov (.t 8), 0, 0, false, []⟩,
    ⟨some 10, some (9, false), .mov (.t 1), 0, 0, false, []⟩,
    ⟨some 11, some (9, false), .call 138 [.t 10] false false, 0, 0, false, []⟩,
    ⟨some 12, some (9, false), .un .not (.t 11), 0, 0, false, []⟩,
    ⟨some 13, none, .pick (.t 9) (.k (.bool true)) (.t 12), 0, 0, false, []⟩,
    ⟨some 14, none, .mov (.t 13), 0, 0, false, []⟩,
    ⟨some 15, some (14, false), .mov (.t 1), 0, 0, false, []⟩,
    ⟨some 16, some (14, false), .len false (.t 15), 0, 0, false, []⟩,
    ⟨some 17, some (14, false), .mov (.t 0), 0, 0, false, []⟩,
    ⟨some 18, some (14, false), .len false (.t 17), 0, 0, false, []⟩,
    ⟨some 19, some (14, false), .bin .neq (.t 16) (.t 18), 0, 0, false, []⟩,
    ⟨some 20, none, .pick (.t 14) (.k (.bool true)) (.t 19), 0, 0, false, []⟩])
   (.cutTo [0, 1, 20] (.cond (.t 20) (.seq (.seg false [⟨some 4, none, .mov (.k (.bool false)), 0, 0, false, []⟩])
   (.ret))
   (.skip))))
   (.cutTo [0, 1] (.seq (.seq (.seg false [⟨some 5, none, .mov (.k (.int .i64 0)), 0, 0, false, []⟩])
   (.block 0 (.loop [0, 1, 5] [4] L124x0)))
   (.seq (.seg false [⟨some 4, none, .mov (.k (.bool true)), 0, 0, false, []⟩])
   (.ret)))))⟩
def B125x0 : C := .seq (.seq (.seg false [⟨some 4, none, .mov (.t 3), 0, 0, false, []⟩,
    ⟨some 5, none, .mov (.t 0), 0, 0, false, []⟩,
    ⟨some 6, none, .len false (.t 5), 0, 0, false, []⟩,
    ⟨some 7, none, .bin .lss (.t 4) (.t 6), 0, 0, false, []⟩])
   (.cutTo [0, 3, 7] (.cond (.t 7) (.skip)
   (.exit 0))))
   (.cutTo [0, 3] (.seq (.block 1 (.seq (.seg false [⟨some 10, none, .mov (.t 0), 0, 0, false, []⟩,
    ⟨some 11, none, .mov (.t 3), 0, 0, false, []⟩,
    ⟨some 12, none, .iaddr 2 (.t 10) (.t 11), 0, 0, false, []⟩,
    ⟨some 13, none, .faddr 0 1 (.t 12), 0, 0, false, []⟩,
    ⟨some 14, none, .load false 1 (.t 13), 0, 0, false, []⟩,
    ⟨some 15, none, .call 84 [.t 14, .k (.int .i64 1), .k (.int .i64 3)] false false, 0, 0, false, []⟩,
    ⟨some 16, none, .un .not (.t 15), 0, 0, false, []⟩])
   (.cutTo [0, 3, 16] (.cond (.t 16) (.seq (.seg false [⟨some 2, none, .mov (.k (.bool false)), 0, 0, false, []⟩])
   (.ret))
   (.skip)))))
   (.cutTo [0, 3] (.seg false [⟨some 8, none, .mov (.t 3), 0, 0, false, []⟩,
    ⟨some 9, none, .bin .add (.t 8) (.k (.int .i64 1)), 0, 0, false, []⟩,
    ⟨some 3, none, .mov (.t 9), 0, 0, false, []⟩]))))
def L125x0 : C := B125x0
theorem evL125x0 (run : Run) (draw : List I → Env → Heap → Option (Env × Heap)) (e : Env) (h : Heap) : evC run draw L125x0 e h = evC run draw B125x0 e h := rfl
/-- loop.example/tablehouse/spec.ColumnsOk -/
def F125 : F := ⟨20, [(false, 2, 0, false)],
   .seq (.seg false [⟨some 2, none, .mov (.k (.bool false)), 0, 0, false, []⟩])
   (.seq (.seq (.seg false [⟨some 3, none, .mov (.k (.int .i64 0)), 0, 0, false, []⟩])
   (.block 0 (.loop [0, 3] [0, 2] L125x0)))
   (.seq (.seg false [⟨some 17, none, .mov (.t 0), 0, 0, false, []⟩,
    ⟨some 18, none, .len false (.t 17), 0, 0, false, []⟩,
    ⟨some 19, none, .bin .leq (.t 18) (.k (.int .i64 4)), 0, 0, false, []⟩,
    ⟨some 2, none, .mov (.t 19), 0, 0, false, []⟩])
   (.cutTo [2] (.ret))))⟩
/-- loop.example/tablehouse/impl.clone<loop.example/tablehouse/impl.Value> -/
def F126 : F := ⟨9, [(false, 2, 0, false)],
   .seq (.seg false [⟨some 2, none, .mov (.k (.sl true 3 [])), 0, 0, false, []⟩])
   (.seq (.seq (.seg false [⟨some 3, none, .mov (.t 0), 0, 0, false, []⟩,
    ⟨some 4, none, .len false (.t 3), 0, 0, false, []⟩,
    ⟨some 5, none, .bin .eql (.t 4) (.k (.int .i64 0)), 0, 0, false, []⟩])
   (.cond (.t 5) (.seq (.seg false [⟨some 2, none, .mov (.k (.sl true 3 [])), 0, 0, false, []⟩])
   (.ret))
   (.skip)))
   (.cutTo [0] (.seq (.seg false [⟨some 6, none, .mov (.t 0), 0, 0, false, []⟩,
    ⟨some 7, none, .app 3 (.k (.sl true 3 [])) (.t 6), 0, 0, false, []⟩,
    ⟨some 8, none, .callx 2 174 [.t 7], 0, 0, false, []⟩,
    ⟨some 2, none, .mov (.t 8), 0, 0, false, []⟩])
   (.cutTo [2] (.ret)))))⟩
def B127x0 : C := .seq (.seg false [⟨some 9, none, .bin .lss (.t 8) (.t 7), 0, 0, false, []⟩])
   (.seq (.cond (.t 9) (.skip)
   (.exit 0))
   (.seq (.block 1 (.seq (.seg false [⟨some 10, none, .mov (.t 8), 0, 0, false, []⟩,
    ⟨some 5, none, .mov (.t 10), 0, 0, false, []⟩])
   (.seq (.seg false [⟨some 11, none, .mov (.t 1), 0, 0, false, []⟩,
    ⟨some 12, none, .mov (.t 0), 0, 0, false, []⟩,
    ⟨some 13, none, .mov (.t 5), 0, 0, false, []⟩,
    ⟨some 14, none, .iaddr 2 (.t 12) (.t 13), 0, 0, false, []⟩,
    ⟨some 15, none, .load true 2 (.t 14), 0, 0, false, []⟩,
    ⟨some 16, none, .callv (.t 11) [.t 15] false, 0, 0, false, []⟩])
   (.cutTo [0, 1, 5, 7, 8, 16] (.cond (.t 16) (.seq (.seg false [⟨some 17, none, .mov (.t 5), 0, 0, false, []⟩,
    ⟨some 4, none, .mov (.t 17), 0, 0, false, []⟩])
   (.ret))
   (.skip))))))
   (.cutTo [0, 1, 7, 8] (.seg false [⟨some 18, none, .bin .add (.t 8) (.k (.int .i64 1)), 0, 0, false, []⟩,
    ⟨some 8, none, .mov (.t 18), 0, 0, false, []⟩]))))
def L127x0 : C := B127x0
theorem evL127x0 (run : Run) (draw : List I → Env → Heap → Option (Env × Heap)) (e : Env) (h : Heap) : evC run draw L127x0 e h = evC run draw B127x0 e h := rfl
/-- slices.IndexFunc<<>loop.example/tablehouse/impl.Table,loop.example/tablehouse/impl.Table> -/
def F127 : F := ⟨19, [(false, 4, 0, false)],
   .seq (.seg false [⟨some 4, none, .mov (.k (.int .i64 0)), 0, 0, false, []⟩])
   (.seq (.seq (.seg false [⟨some 6, none, .mov (.t 0), 0, 0, false, []⟩,
    ⟨some 7, none, .len false (.t 6), 0, 0, false, []⟩,
    ⟨some 8, none, .mov (.k (.int .i64 0)), 0, 0, false, []⟩])
   (.block 0 (.loop [0, 1, 7, 8] [4] L127x0)))
   (.seq (.seg false [⟨some 4, none, .mov (.k (.int .i64 (-1))), 0, 0, false, []⟩])
   (.ret)))⟩
/-- loop.example/tablehouse/impl.ColumnsOk -/
def F70 : F := ⟨11, [(false, 2, 0, false)],
   .seq (.seg false [⟨some 2, none, .mov (.k (.bool false)), 0, 0, false, []⟩])
   (.seq (.seg false [⟨some 3, none, .mov (.t 0), 0, 0, false, []⟩,
    ⟨some 4, none, .len false (.t 3), 0, 0, false, []⟩,
    ⟨some 5, none, .bin .leq (.t 4) (.k (.int .i64 4)), 0, 0, false, []⟩,
    ⟨some 6, none, .mov (.t 5), 0, 0, false, []⟩,
    ⟨some 7, some (6, true), .mov (.t 0), 0, 0, false, []⟩,
    ⟨some 8, some (6, true), .call 128 [.t 7, .k (.clo 129 [])] true false, 0, 0, false, []⟩,
    ⟨some 9, some (6, true), .un .not (.t 8), 0, 0, false, []⟩,
    ⟨some 10, none, .pick (.t 6) (.t 9) (.k (.bool false)), 0, 0, false, []⟩,
    ⟨some 2, none, .mov (.t 10), 0, 0, false, []⟩])
   (.cutTo [2] (.ret)))⟩
/-- loop.example/tablehouse/impl.RowsOk -/
def F71 : F := ⟨13, [(false, 4, 0, false)],
   .seq (.seg false [⟨some 2, none, .box (.t 0), 0, 0, false, []⟩,
    ⟨some 4, none, .mov (.k (.bool false)), 0, 0, false, []⟩])
   (.seq (.seg false [⟨some 5, none, .load false 1 (.t 2), 0, 0, false, []⟩,
    ⟨some 6, none, .call 70 [.t 5] false false, 0, 0, false, []⟩,
    ⟨some 7, none, .mov (.t 6), 0, 0, false, []⟩,
    ⟨some 8, some (7, true), .mov (.t 1), 0, 0, false, []⟩,
    ⟨some 9, some (7, true), .mkclo 131 [.t 2], 0, 0, false, []⟩,
    ⟨some 10, some (7, true), .call 130 [.t 8, .t 9] true false, 0, 0, false, []⟩,
    ⟨some 11, some (7, true), .un .not (.t 10), 0, 0, false, []⟩,
    ⟨some 12, none, .pick (.t 7) (.t 11) (.k (.bool false)), 0, 0, false, []⟩,
    ⟨some 4, none, .mov (.t 12), 0, 0, false, []⟩])
   (.cutTo [4] (.ret)))⟩
/-- (loop.example/tablehouse/impl.Value).ok -/
def F96 : F := ⟨46, [(false, 2, 0, false)],
   .seq (.seg false [⟨some 1, none, .box (.t 0), 0, 0, false, []⟩,
    ⟨some 2, none, .mov (.k (.bool false)), 0, 0, false, []⟩])
   (.seq (.seq (.seg false [⟨some 3, none, .faddr 0 1 (.t 1), 0, 0, false, []⟩,
    ⟨some 4, none, .load false 1 (.t 3), 0, 0, false, []⟩])
   (.block 0 (.seq (.seg false [⟨some 6, none, .bin .eql (.t 4) (.k (.int .i64 0)), 0, 0, false, []⟩,
    ⟨some 5, none, .mov (.t 6), 0, 0, false, []⟩])
   (.cond (.t 5) (.seq (.seg false [⟨some 7, none, .load true 3 (.t 1), 0, 0, false, []⟩,
    ⟨some 8, none, .build [.int .i64 0, .int .i64 0, .str ⟨#[]⟩] [], 0, 0, false, []⟩,
    ⟨some 9, none, .eqs false [.int, .int, .str] (.t 7) (.t 8), 0, 0, false, []⟩,
    ⟨some 2, none, .mov (.t 9), 0, 0, false, []⟩])
   (.cutTo [2] (.ret)))
   (.seq (.seg false [⟨some 11, none, .bin .eql (.t 4) (.k (.int .i64 1)), 0, 0, false, []⟩,
    ⟨some 10, none, .mov (.t 11), 0, 0, false, []⟩])
   (.cond (.t 10) (.seq (.seg false [⟨some 12, none, .faddr 2 1 (.t 1), 0, 0, false, []⟩,
    ⟨some 13, none, .load false 1 (.t 12), 0, 0, false, []⟩,
    ⟨some 14, none, .bin .eql (.t 13) (.k (.str ⟨#[]⟩)), 0, 0, false, []⟩,
    ⟨some 15, none, .mov (.t 14), 0, 0, false, []⟩,
    ⟨some 16, some (15, true), .faddr 1 1 (.t 1), 0, 0, false, []⟩,
    ⟨some 17, some (15, true), .load false 1 (.t 16), 0, 0, false, []⟩,
    ⟨some 18, some (15, true), .call 79 [.t 17, .k (.int .i64 (-9999)), .k (.int .i64 9999)] false false, 0, 0, false, []⟩,
    ⟨some 19, none, .pick (.t 15) (.t 18) (.k (.bool false)), 0, 0, false, []⟩,
    ⟨some 2, none, .mov (.t 19), 0, 0, false, []⟩])
   (.cutTo [2] (.ret)))
   (.seq (.seg false [⟨some 21, none, .bin .eql (.t 4) (.k (.int .i64 2)), 0, 0, false, []⟩,
    ⟨some 20, none, .mov (.t 21), 0, 0, false, []⟩])
   (.cond (.t 20) (.seq (.seg false [⟨some 22, none, .faddr 1 1 (.t 1), 0, 0, false, []⟩,
    ⟨some 23, none, .load false 1 (.t 22), 0, 0, false, []⟩,
    ⟨some 24, none, .bin .eql (.t 23) (.k (.int .i64 0)), 0, 0, false, []⟩,
    ⟨some 25, none, .mov (.t 24), 0, 0, false, []⟩,
    ⟨some 26, some (25, true), .faddr 2 1 (.t 1), 0, 0, false, []⟩,
    ⟨some 27, some (25, true), .load false 1 (.t 26), 0, 0, false, []⟩,
    ⟨some 28, some (25, true), .len true (.t 27), 0, 0, false, []⟩,
    ⟨some 29, some (25, true), .bin .leq (.t 28) (.k (.int .i64 6)), 0, 0, false, []⟩,
    ⟨some 30, none, .pick (.t 25) (.t 29) (.k (.bool false)), 0, 0, false, []⟩,
    ⟨some 31, none, .mov (.t 30), 0, 0, false, []⟩,
    ⟨some 32, some (31, true), .faddr 2 1 (.t 1), 0, 0, false, []⟩,
    ⟨some 33, some (31, true), .load false 1 (.t 32), 0, 0, false, []⟩,
    ⟨some 34, some (31, true), .call 150 [.t 33] false false, 0, 0, false, []⟩,
    ⟨some 35, none, .pick (.t 31) (.t 34) (.k (.bool false)), 0, 0, false, []⟩,
    ⟨some 2, none, .mov (.t 35), 0, 0, false, []⟩])
   (.cutTo [2] (.ret)))
   (.seq (.seg false [⟨some 37, none, .bin .eql (.t 4) (.k (.int .i64 3)), 0, 0, false, []⟩,
    ⟨some 36, none, .mov (.t 37), 0, 0, false, []⟩])
   (.cond (.t 36) (.seq (.seg false [⟨some 38, none, .faddr 2 1 (.t 1), 0, 0, false, []⟩,
    ⟨some 39, none, .load false 1 (.t 38), 0, 0, false, []⟩,
    ⟨some 40, none, .bin .eql (.t 39) (.k (.str ⟨#[]⟩)), 0, 0, false, []⟩,
    ⟨some 41, none, .mov (.t 40), 0, 0, false, []⟩,
    ⟨some 42, some (41, true), .faddr 1 1 (.t 1), 0, 0, false, []⟩,
    ⟨some 43, some (41, true), .load false 1 (.t 42), 0, 0, false, []⟩,
    ⟨some 44, some (41, true), .call 79 [.t 43, .k (.int .i64 0), .k (.int .i64 1)] false false, 0, 0, false, []⟩,
    ⟨some 45, none, .pick (.t 41) (.t 44) (.k (.bool false)), 0, 0, false, []⟩,
    ⟨some 2, none, .mov (.t 45), 0, 0, false, []⟩])
   (.cutTo [2] (.ret)))
   (.skip)))))))))))
   (.cutTo [] (.seq (.seg false [⟨some 2, none, .mov (.k (.bool false)), 0, 0, false, []⟩])
   (.ret))))⟩
end Go.Proofs.Ytfbjbkkcilhgjaa.PE
