/- The compact code of the functions, and that it is the code of the machine. -/
import Derived.Test.YteaojpfofifmnaaPeX
import Derived.Test.YteaojpfofifmnaaProg
namespace Go.Proofs.Yteaojpfofifmnaa.PE
open Go.RowKit
set_option maxRecDepth 100000
def E3x0 : List I := [⟨some 27, none, .load true 2 (.t 5), 0, 1, false, []⟩,
    ⟨some 28, none, .load true 2 (.t 1), 0, 0, false, []⟩,
    ⟨some 29, none, .callx 0 17 [.t 28], 0, 0, true, []⟩,
    ⟨some 30, none, .callx 0 20 [.t 27, .t 29], 1, 1, false, []⟩,
    ⟨some 31, none, .un .not (.t 30), 1, 1, false, []⟩]
def D3x0 : List I := E3x0
theorem evD3x0 (run : Run) (e : Env) (h : Heap) : drawI run D3x0 e h = DrawW (evW run E3x0 e h []) run E3x0 e h := drawI_write run _ e h
/-- loop.example/tablehouse/laws.FnExactEntryBytes -/
def F3 : F := ⟨69, [(false, 2, 0, false)],
   .seq (.seg false [⟨some 1, none, .box (.t 0), 0, 0, false, []⟩,
    ⟨some 2, none, .mov (.k (.bool false)), 0, 0, false, []⟩])
   (.seq (.seg false [⟨some 3, none, .mov (.k (.int .i64 1048576)), 0, 0, false, []⟩])
   (.seq (.seg false [⟨some 11, none, .load true 2 (.t 1), 0, 0, false, []⟩,
    ⟨some 12, none, .mov (.t 3), 0, 0, false, []⟩,
    ⟨some 13, none, .call 15 [.t 11, .t 12] false false, 0, 0, false, []⟩,
    ⟨some 3, none, .mov (.t 13), 0, 0, false, []⟩])
   (.cutTo [1, 3] (.seq (.seq (.seg false [⟨some 14, none, .mov (.t 3), 0, 0, false, []⟩,
    ⟨some 15, none, .bin .lss (.t 14) (.k (.int .i64 0)), 0, 0, false, []⟩])
   (.cond (.t 15) (.seq (.seg false [⟨some 2, none, .mov (.k (.bool true)), 0, 0, false, []⟩])
   (.ret))
   (.skip)))
   (.seq (.seg false [⟨some 16, none, .load true 2 (.t 1), 0, 0, false, []⟩,
    ⟨some 17, none, .callx 0 17 [.t 16], 0, 0, false, []⟩,
    ⟨some 18, none, .callx 1 16 [.t 17], 0, 0, false, []⟩,
    ⟨some 4, none, .mov (.t 18), 0, 0, false, []⟩])
   (.cutTo [1, 4] (.seq (.seg false [⟨some 19, none, .load true 2 (.t 1), 0, 0, false, []⟩,
    ⟨some 20, none, .callx 0 17 [.t 19], 0, 0, false, []⟩,
    ⟨some 5, none, .alloc [.int .i64 0, .sl true 3 []], 0, 0, false, []⟩,
    ⟨none, none, .store 2 (.t 5) (.t 20), 0, 0, false, []⟩])
   (.cutTo [1, 4, 5] (.seq (.seg false [⟨some 21, none, .load true 2 (.t 5), 0, 0, false, []⟩,
    ⟨some 22, none, .callx 0 18 [.t 21], 0, 0, false, []⟩,
    ⟨some 6, none, .mov (.t 22), 0, 0, false, []⟩])
   (.seq (.seq (.seg false [⟨some 23, none, .mov (.t 6), 0, 0, false, []⟩,
    ⟨some 24, none, .mov (.t 4), 0, 0, false, []⟩,
    ⟨some 25, none, .callx 0 19 [.t 23, .t 24], 0, 0, false, []⟩,
    ⟨some 26, none, .un .not (.t 25), 0, 0, false, []⟩])
   (.cutTo [1, 4, 5, 6, 26] (.cond (.t 26) (.seq (.seg false [⟨some 2, none, .mov (.k (.bool false)), 0, 0, false, []⟩])
   (.ret))
   (.skip))))
   (.cutTo [1, 4, 5, 6] (.seq (.seq (.seg true D3x0)
   (.cutTo [1, 4, 5, 6, 31] (.cond (.t 31) (.seq (.seg false [⟨some 2, none, .mov (.k (.bool false)), 0, 0, false, []⟩])
   (.ret))
   (.skip))))
   (.cutTo [1, 4, 5, 6] (.seq (.seg false [⟨some 7, none, .mov (.k (.int .i64 1)), 0, 0, false, []⟩])
   (.seq (.seg false [⟨some 32, none, .load true 2 (.t 5), 0, 0, false, []⟩,
    ⟨some 33, none, .mov (.t 7), 0, 0, false, []⟩,
    ⟨some 34, none, .callx 2 21 [.t 32, .t 33], 0, 0, false, []⟩,
    ⟨some 7, none, .mov (.t 34), 0, 0, false, []⟩])
   (.cutTo [1, 4, 6, 7] (.seq (.seq (.seg false [⟨some 35, none, .mov (.t 7), 0, 0, false, []⟩,
    ⟨some 36, none, .bin .lss (.t 35) (.k (.int .i64 0)), 0, 0, false, []⟩,
    ⟨some 37, none, .mov (.t 36), 0, 0, false, []⟩,
    ⟨some 38, some (37, false), .mov (.t 6), 0, 0, false, []⟩,
    ⟨some 39, some (37, false), .mov (.t 4), 0, 0, false, []⟩,
    ⟨some 40, some (37, false), .callx 0 19 [.t 38, .t 39], 0, 0, false, []⟩,
    ⟨some 41, some (37, false), .un .not (.t 40), 0, 0, false, []⟩,
    ⟨some 42, none, .pick (.t 37) (.k (.bool true)) (.t 41), 0, 0, false, []⟩])
   (.cutTo [1, 4, 6, 42] (.cond (.t 42) (.seq (.seg false [⟨some 2, none, .mov (.k (.bool false)), 0, 0, false, []⟩])
   (.ret))
   (.skip))))
   (.cutTo [1, 4, 6] (.seq (.seg false [⟨some 8, none, .mov (.k (.int .i64 1)), 0, 0, false, []⟩])
   (.seq (.seg false [⟨some 43, none, .mov (.t 6), 0, 0, false, []⟩,
    ⟨some 44, none, .mov (.t 8), 0, 0, false, []⟩,
    ⟨some 45, none, .callx 2 22 [.t 43, .t 44], 0, 0, false, []⟩,
    ⟨some 8, none, .mov (.t 45), 0, 0, false, []⟩])
   (.cutTo [1, 4, 6, 8] (.seq (.seg false [⟨some 9, none, .mov (.k (.int .i64 1)), 0, 0, false, []⟩])
   (.seq (.seg false [⟨some 46, none, .mov (.t 6), 0, 0, false, []⟩,
    ⟨some 47, none, .mov (.t 9), 0, 0, false, []⟩,
    ⟨some 48, none, .callx 0 23 [.t 46, .t 47], 0, 0, false, []⟩,
    ⟨some 9, none, .mov (.t 48), 0, 0, false, []⟩])
   (.cutTo [1, 4, 6, 8, 9] (.seq (.seq (.seg false [⟨some 49, none, .mov (.t 9), 0, 0, false, []⟩,
    ⟨some 50, none, .bin .lss (.t 49) (.k (.int .i64 0)), 0, 0, false, []⟩])
   (.cond (.t 50) (.seq (.seg false [⟨some 2, none, .mov (.k (.bool false)), 0, 0, false, []⟩])
   (.ret))
   (.skip)))
   (.seq (.seq (.seg false [⟨some 51, none, .mov (.t 9), 0, 0, false, []⟩,
    ⟨some 52, none, .mov (.t 8), 0, 0, false, []⟩,
    ⟨some 53, none, .bin .neq (.t 51) (.t 52), 0, 0, false, []⟩])
   (.cond (.t 53) (.seq (.seg false [⟨some 2, none, .mov (.k (.bool false)), 0, 0, false, []⟩])
   (.ret))
   (.skip)))
   (.cutTo [1, 4, 6, 8] (.seq (.seg false [⟨some 54, none, .load true 2 (.t 1), 0, 0, false, []⟩,
    ⟨some 55, none, .callx 0 17 [.t 54], 0, 0, false, []⟩,
    ⟨some 56, none, .callx 0 18 [.t 55], 0, 0, false, []⟩,
    ⟨some 10, none, .mov (.t 56), 0, 0, false, []⟩])
   (.cutTo [4, 6, 8, 10] (.seq (.seq (.seg false [⟨some 57, none, .mov (.t 10), 0, 0, false, []⟩,
    ⟨some 58, none, .mov (.t 4), 0, 0, false, []⟩,
    ⟨some 59, none, .callx 0 19 [.t 57, .t 58], 0, 0, false, []⟩,
    ⟨some 60, none, .un .not (.t 59), 0, 0, false, []⟩])
   (.cutTo [6, 8, 60] (.cond (.t 60) (.seq (.seg false [⟨some 2, none, .mov (.k (.bool false)), 0, 0, false, []⟩])
   (.ret))
   (.skip))))
   (.cutTo [6, 8] (.seq (.seg false [⟨some 9, none, .mov (.k (.int .i64 1)), 0, 0, false, []⟩])
   (.seq (.seg false [⟨some 61, none, .mov (.t 6), 0, 0, false, []⟩,
    ⟨some 62, none, .mov (.t 9), 0, 0, false, []⟩,
    ⟨some 63, none, .callx 0 23 [.t 61, .t 62], 0, 0, false, []⟩,
    ⟨some 9, none, .mov (.t 63), 0, 0, false, []⟩])
   (.cutTo [8, 9] (.seq (.seq (.seg false [⟨some 64, none, .mov (.t 9), 0, 0, false, []⟩,
    ⟨some 65, none, .bin .lss (.t 64) (.k (.int .i64 0)), 0, 0, false, []⟩])
   (.cond (.t 65) (.seq (.seg false [⟨some 2, none, .mov (.k (.bool false)), 0, 0, false, []⟩])
   (.ret))
   (.skip)))
   (.seq (.seq (.seg false [⟨some 66, none, .mov (.t 9), 0, 0, false, []⟩,
    ⟨some 67, none, .mov (.t 8), 0, 0, false, []⟩,
    ⟨some 68, none, .bin .neq (.t 66) (.t 67), 0, 0, false, []⟩])
   (.cond (.t 68) (.seq (.seg false [⟨some 2, none, .mov (.k (.bool false)), 0, 0, false, []⟩])
   (.ret))
   (.skip)))
   (.cutTo [] (.seq (.seg false [⟨some 2, none, .mov (.k (.bool true)), 0, 0, false, []⟩])
   (.ret)))))))))))))))))))))))))))))))))))))))⟩
/-- loop.example/tablehouse/laws.FnExactLogBytes -/
def F10 : F := ⟨69, [(false, 2, 0, false)],
   .seq (.seg false [⟨some 2, none, .mov (.k (.bool false)), 0, 0, false, []⟩])
   (.seq (.seg false [⟨some 3, none, .mov (.k (.int .i64 1048576)), 0, 0, false, []⟩])
   (.seq (.seg false [⟨some 11, none, .mov (.t 0), 0, 0, false, []⟩,
    ⟨some 12, none, .mov (.t 3), 0, 0, false, []⟩,
    ⟨some 13, none, .call 40 [.t 11, .t 12] false false, 0, 0, false, []⟩,
    ⟨some 3, none, .mov (.t 13), 0, 0, false, []⟩])
   (.cutTo [0, 3] (.seq (.seq (.seg false [⟨some 14, none, .mov (.t 3), 0, 0, false, []⟩,
    ⟨some 15, none, .bin .lss (.t 14) (.k (.int .i64 0)), 0, 0, false, []⟩])
   (.cond (.t 15) (.seq (.seg false [⟨some 2, none, .mov (.k (.bool true)), 0, 0, false, []⟩])
   (.ret))
   (.skip)))
   (.seq (.seg false [⟨some 16, none, .mov (.t 0), 0, 0, false, []⟩,
    ⟨some 17, none, .callx 0 42 [.t 16], 0, 0, false, []⟩,
    ⟨some 18, none, .callx 1 51 [.t 17], 0, 0, false, []⟩,
    ⟨some 4, none, .mov (.t 18), 0, 0, false, []⟩])
   (.cutTo [0, 4] (.seq (.seg false [⟨some 19, none, .mov (.t 0), 0, 0, false, []⟩,
    ⟨some 20, none, .callx 0 42 [.t 19], 0, 0, false, []⟩,
    ⟨some 5, none, .mov (.t 20), 0, 0, false, []⟩])
   (.seq (.seg false [⟨some 21, none, .mov (.t 5), 0, 0, false, []⟩,
    ⟨some 22, none, .callx 0 30 [.t 21], 0, 0, false, []⟩,
    ⟨some 6, none, .mov (.t 22), 0, 0, false, []⟩])
   (.seq (.seq (.seg false [⟨some 23, none, .mov (.t 6), 0, 0, false, []⟩,
    ⟨some 24, none, .mov (.t 4), 0, 0, false, []⟩,
    ⟨some 25, none, .callx 0 19 [.t 23, .t 24], 0, 0, false, []⟩,
    ⟨some 26, none, .un .not (.t 25), 0, 0, false, []⟩])
   (.cutTo [0, 4, 5, 6, 26] (.cond (.t 26) (.seq (.seg false [⟨some 2, none, .mov (.k (.bool false)), 0, 0, false, []⟩])
   (.ret))
   (.skip))))
   (.cutTo [0, 4, 5, 6] (.seq (.seq (.seg false [⟨some 27, none, .mov (.t 5), 0, 0, false, []⟩,
    ⟨some 28, none, .mov (.t 0), 0, 0, false, []⟩,
    ⟨some 29, none, .callx 0 42 [.t 28], 0, 0, false, []⟩,
    ⟨some 30, none, .callx 0 37 [.t 27, .t 29], 0, 0, false, []⟩,
    ⟨some 31, none, .un .not (.t 30), 0, 0, false, []⟩])
   (.cutTo [0, 4, 5, 6, 31] (.cond (.t 31) (.seq (.seg false [⟨some 2, none, .mov (.k (.bool false)), 0, 0, false, []⟩])
   (.ret))
   (.skip))))
   (.cutTo [0, 4, 5, 6] (.seq (.seg false [⟨some 7, none, .mov (.k (.int .i64 1)), 0, 0, false, []⟩])
   (.seq (.seg false [⟨some 32, none, .mov (.t 5), 0, 0, false, []⟩,
    ⟨some 33, none, .mov (.t 7), 0, 0, false, []⟩,
    ⟨some 34, none, .callx 2 38 [.t 32, .t 33], 0, 0, false, []⟩,
    ⟨some 7, none, .mov (.t 34), 0, 0, false, []⟩])
   (.cutTo [0, 4, 6, 7] (.seq (.seq (.seg false [⟨some 35, none, .mov (.t 7), 0, 0, false, []⟩,
    ⟨some 36, none, .bin .lss (.t 35) (.k (.int .i64 0)), 0, 0, false, []⟩,
    ⟨some 37, none, .mov (.t 36), 0, 0, false, []⟩,
    ⟨some 38, some (37, false), .mov (.t 6), 0, 0, false, []⟩,
    ⟨some 39, some (37, false), .mov (.t 4), 0, 0, false, []⟩,
    ⟨some 40, some (37, false), .callx 0 19 [.t 38, .t 39], 0, 0, false, []⟩,
    ⟨some 41, some (37, false), .un .not (.t 40), 0, 0, false, []⟩,
    ⟨some 42, none, .pick (.t 37) (.k (.bool true)) (.t 41), 0, 0, false, []⟩])
   (.cutTo [0, 4, 6, 42] (.cond (.t 42) (.seq (.seg false [⟨some 2, none, .mov (.k (.bool false)), 0, 0, false, []⟩])
   (.ret))
   (.skip))))
   (.cutTo [0, 4, 6] (.seq (.seg false [⟨some 8, none, .mov (.k (.int .i64 1)), 0, 0, false, []⟩])
   (.seq (.seg false [⟨some 43, none, .mov (.t 6), 0, 0, false, []⟩,
    ⟨some 44, none, .mov (.t 8), 0, 0, false, []⟩,
    ⟨some 45, none, .callx 2 22 [.t 43, .t 44], 0, 0, false, []⟩,
    ⟨some 8, none, .mov (.t 45), 0, 0, false, []⟩])
   (.cutTo [0, 4, 6, 8] (.seq (.seg false [⟨some 9, none, .mov (.k (.int .i64 1)), 0, 0, false, []⟩])
   (.seq (.seg false [⟨some 46, none, .mov (.t 6), 0, 0, false, []⟩,
    ⟨some 47, none, .mov (.t 9), 0, 0, false, []⟩,
    ⟨some 48, none, .callx 0 23 [.t 46, .t 47], 0, 0, false, []⟩,
    ⟨some 9, none, .mov (.t 48), 0, 0, false, []⟩])
   (.cutTo [0, 4, 6, 8, 9] (.seq (.seq (.seg false [⟨some 49, none, .mov (.t 9), 0, 0, false, []⟩,
    ⟨some 50, none, .bin .lss (.t 49) (.k (.int .i64 0)), 0, 0, false, []⟩])
   (.cond (.t 50) (.seq (.seg false [⟨some 2, none, .mov (.k (.bool false)), 0, 0, false, []⟩])
   (.ret))
   (.skip)))
   (.seq (.seq (.seg false [⟨some 51, none, .mov (.t 9), 0, 0, false, []⟩,
    ⟨some 52, none, .mov (.t 8), 0, 0, false, []⟩,
    ⟨some 53, none, .bin .neq (.t 51) (.t 52), 0, 0, false, []⟩])
   (.cond (.t 53) (.seq (.seg false [⟨some 2, none, .mov (.k (.bool false)), 0, 0, false, []⟩])
   (.ret))
   (.skip)))
   (.cutTo [0, 4, 6, 8] (.seq (.seg false [⟨some 54, none, .mov (.t 0), 0, 0, false, []⟩,
    ⟨some 55, none, .callx 0 42 [.t 54], 0, 0, false, []⟩,
    ⟨some 56, none, .callx 0 30 [.t 55], 0, 0, false, []⟩,
    ⟨some 10, none, .mov (.t 56), 0, 0, false, []⟩])
   (.cutTo [4, 6, 8, 10] (.seq (.seq (.seg false [⟨some 57, none, .mov (.t 10), 0, 0, false, []⟩,
    ⟨some 58, none, .mov (.t 4), 0, 0, false, []⟩,
    ⟨some 59, none, .callx 0 19 [.t 57, .t 58], 0, 0, false, []⟩,
    ⟨some 60, none, .un .not (.t 59), 0, 0, false, []⟩])
   (.cutTo [6, 8, 60] (.cond (.t 60) (.seq (.seg false [⟨some 2, none, .mov (.k (.bool false)), 0, 0, false, []⟩])
   (.ret))
   (.skip))))
   (.cutTo [6, 8] (.seq (.seg false [⟨some 9, none, .mov (.k (.int .i64 1)), 0, 0, false, []⟩])
   (.seq (.seg false [⟨some 61, none, .mov (.t 6), 0, 0, false, []⟩,
    ⟨some 62, none, .mov (.t 9), 0, 0, false, []⟩,
    ⟨some 63, none, .callx 0 23 [.t 61, .t 62], 0, 0, false, []⟩,
    ⟨some 9, none, .mov (.t 63), 0, 0, false, []⟩])
   (.cutTo [8, 9] (.seq (.seq (.seg false [⟨some 64, none, .mov (.t 9), 0, 0, false, []⟩,
    ⟨some 65, none, .bin .lss (.t 64) (.k (.int .i64 0)), 0, 0, false, []⟩])
   (.cond (.t 65) (.seq (.seg false [⟨some 2, none, .mov (.k (.bool false)), 0, 0, false, []⟩])
   (.ret))
   (.skip)))
   (.seq (.seq (.seg false [⟨some 66, none, .mov (.t 9), 0, 0, false, []⟩,
    ⟨some 67, none, .mov (.t 8), 0, 0, false, []⟩,
    ⟨some 68, none, .bin .neq (.t 66) (.t 67), 0, 0, false, []⟩])
   (.cond (.t 68) (.seq (.seg false [⟨some 2, none, .mov (.k (.bool false)), 0, 0, false, []⟩])
   (.ret))
   (.skip)))
   (.cutTo [] (.seq (.seg false [⟨some 2, none, .mov (.k (.bool true)), 0, 0, false, []⟩])
   (.ret))))))))))))))))))))))))))))))))))))))⟩
/-- loop.example/tablehouse/laws.FnExactFollowed -/
def F9 : F := ⟨90, [(false, 4, 0, false)],
   .seq (.seg false [⟨some 4, none, .mov (.k (.bool false)), 0, 0, false, []⟩])
   (.seq (.seq (.seg false [⟨some 14, none, .mov (.t 1), 0, 0, false, []⟩,
    ⟨some 15, none, .len false (.t 14), 0, 0, false, []⟩,
    ⟨some 16, none, .bin .gtr (.t 15) (.k (.int .i64 1048576)), 0, 0, false, []⟩])
   (.cond (.t 16) (.seq (.seg false [⟨some 4, none, .mov (.k (.bool true)), 0, 0, false, []⟩])
   (.ret))
   (.skip)))
   (.cutTo [0, 1] (.seq (.seg false [⟨some 5, none, .mov (.k (.int .i64 1048576)), 0, 0, false, []⟩])
   (.seq (.seg false [⟨some 17, none, .mov (.t 0), 0, 0, false, []⟩,
    ⟨some 18, none, .mov (.t 5), 0, 0, false, []⟩,
    ⟨some 19, none, .call 40 [.t 17, .t 18] false false, 0, 0, false, []⟩,
    ⟨some 5, none, .mov (.t 19), 0, 0, false, []⟩])
   (.cutTo [0, 1, 5] (.seq (.seq (.seg false [⟨some 20, none, .mov (.t 5), 0, 0, false, []⟩,
    ⟨some 21, none, .bin .lss (.t 20) (.k (.int .i64 0)), 0, 0, false, []⟩])
   (.cond (.t 21) (.seq (.seg false [⟨some 4, none, .mov (.k (.bool true)), 0, 0, false, []⟩])
   (.ret))
   (.skip)))
   (.seq (.seg false [⟨some 22, none, .mov (.t 0), 0, 0, false, []⟩,
    ⟨some 23, none, .callx 0 42 [.t 22], 0, 0, false, []⟩,
    ⟨some 24, none, .mov (.t 1), 0, 0, false, []⟩,
    ⟨some 25, none, .callx 0 47 [.t 24], 0, 0, false, []⟩,
    ⟨some 26, none, .callx 1 46 [.t 23, .t 25], 0, 0, false, []⟩,
    ⟨some 6, none, .mov (.t 26), 0, 0, false, []⟩])
   (.cutTo [0, 1, 6] (.seq (.seg false [⟨some 27, none, .mov (.t 0), 0, 0, false, []⟩,
    ⟨some 28, none, .callx 0 42 [.t 27], 0, 0, false, []⟩,
    ⟨some 7, none, .mov (.t 28), 0, 0, false, []⟩])
   (.seq (.seg false [⟨some 29, none, .mov (.t 1), 0, 0, false, []⟩,
    ⟨some 30, none, .callx 0 47 [.t 29], 0, 0, false, []⟩,
    ⟨some 8, none, .mov (.t 30), 0, 0, false, []⟩])
   (.seq (.seg false [⟨some 31, none, .mov (.t 7), 0, 0, false, []⟩,
    ⟨some 32, none, .mov (.t 8), 0, 0, false, []⟩,
    ⟨some 33, none, .callx 0 48 [.t 31, .t 32], 0, 0, false, []⟩,
    ⟨some 9, none, .mov (.t 33), 0, 0, false, []⟩])
   (.cutTo [0, 1, 6, 7, 8, 9] (.seq (.seq (.seg false [⟨some 34, none, .mov (.t 9), 0, 0, false, []⟩,
    ⟨some 35, none, .mov (.t 6), 0, 0, false, []⟩,
    ⟨some 36, none, .callx 0 37 [.t 34, .t 35], 0, 0, false, []⟩,
    ⟨some 37, none, .un .not (.t 36), 0, 0, false, []⟩])
   (.cutTo [0, 1, 6, 7, 8, 9, 37] (.cond (.t 37) (.seq (.seg false [⟨some 4, none, .mov (.k (.bool false)), 0, 0, false, []⟩])
   (.ret))
   (.skip))))
   (.cutTo [0, 1, 6, 7, 8, 9] (.seq (.seq (.seg false [⟨some 38, none, .mov (.t 7), 0, 0, false, []⟩,
    ⟨some 39, none, .mov (.t 0), 0, 0, false, []⟩,
    ⟨some 40, none, .callx 0 42 [.t 39], 0, 0, false, []⟩,
    ⟨some 41, none, .callx 0 37 [.t 38, .t 40], 0, 0, false, []⟩,
    ⟨some 42, none, .un .not (.t 41), 0, 0, false, []⟩])
   (.cutTo [0, 1, 6, 7, 8, 9, 42] (.cond (.t 42) (.seq (.seg false [⟨some 4, none, .mov (.k (.bool false)), 0, 0, false, []⟩])
   (.ret))
   (.skip))))
   (.cutTo [0, 1, 6, 7, 8, 9] (.seq (.seq (.seg false [⟨some 43, none, .mov (.t 8), 0, 0, false, []⟩,
    ⟨some 44, none, .mov (.t 1), 0, 0, false, []⟩,
    ⟨some 45, none, .callx 0 47 [.t 44], 0, 0, false, []⟩,
    ⟨some 46, none, .callx 0 49 [.t 43, .t 45], 0, 0, false, []⟩,
    ⟨some 47, none, .un .not (.t 46), 0, 0, false, []⟩])
   (.cutTo [0, 1, 6, 7, 8, 9, 47] (.cond (.t 47) (.seq (.seg false [⟨some 4, none, .mov (.k (.bool false)), 0, 0, false, []⟩])
   (.ret))
   (.skip))))
   (.cutTo [0, 1, 6, 7, 8, 9] (.seq (.seg false [⟨some 10, none, .mov (.k (.int .i64 1)), 0, 0, false, []⟩])
   (.seq (.seg false [⟨some 48, none, .mov (.t 7), 0, 0, false, []⟩,
    ⟨some 49, none, .mov (.t 10), 0, 0, false, []⟩,
    ⟨some 50, none, .callx 2 38 [.t 48, .t 49], 0, 0, false, []⟩,
    ⟨some 10, none, .mov (.t 50), 0, 0, false, []⟩])
   (.cutTo [0, 1, 6, 8, 9, 10] (.seq (.seg false [⟨some 51, none, .mov (.t 8), 0, 0, false, []⟩,
    ⟨some 52, none, .mov (.t 10), 0, 0, false, []⟩,
    ⟨some 53, none, .callx 2 50 [.t 51, .t 52], 0, 0, false, []⟩,
    ⟨some 10, none, .mov (.t 53), 0, 0, false, []⟩])
   (.cutTo [0, 1, 6, 9, 10] (.seq (.seq (.seg false [⟨some 54, none, .mov (.t 10), 0, 0, false, []⟩,
    ⟨some 55, none, .bin .lss (.t 54) (.k (.int .i64 0)), 0, 0, false, []⟩,
    ⟨some 56, none, .mov (.t 55), 0, 0, false, []⟩,
    ⟨some 57, some (56, false), .mov (.t 9), 0, 0, false, []⟩,
    ⟨some 58, some (56, false), .mov (.t 6), 0, 0, false, []⟩,
    ⟨some 59, some (56, false), .callx 0 37 [.t 57, .t 58], 0, 0, false, []⟩,
    ⟨some 60, some (56, false), .un .not (.t 59), 0, 0, false, []⟩,
    ⟨some 61, none, .pick (.t 56) (.k (.bool true)) (.t 60), 0, 0, false, []⟩])
   (.cutTo [0, 1, 6, 9, 61] (.cond (.t 61) (.seq (.seg false [⟨some 4, none, .mov (.k (.bool false)), 0, 0, false, []⟩])
   (.ret))
   (.skip))))
   (.cutTo [0, 1, 6, 9] (.seq (.seg false [⟨some 11, none, .mov (.k (.int .i64 1)), 0, 0, false, []⟩])
   (.seq (.seg false [⟨some 62, none, .mov (.t 9), 0, 0, false, []⟩,
    ⟨some 63, none, .mov (.t 11), 0, 0, false, []⟩,
    ⟨some 64, none, .callx 2 38 [.t 62, .t 63], 0, 0, false, []⟩,
    ⟨some 11, none, .mov (.t 64), 0, 0, false, []⟩])
   (.cutTo [0, 1, 6, 9, 11] (.seq (.seg false [⟨some 12, none, .mov (.k (.int .i64 1)), 0, 0, false, []⟩])
   (.seq (.seg false [⟨some 65, none, .mov (.t 9), 0, 0, false, []⟩,
    ⟨some 66, none, .mov (.t 12), 0, 0, false, []⟩,
    ⟨some 67, none, .callx 0 39 [.t 65, .t 66], 0, 0, false, []⟩,
    ⟨some 12, none, .mov (.t 67), 0, 0, false, []⟩])
   (.cutTo [0, 1, 6, 9, 11, 12] (.seq (.seq (.seg false [⟨some 68, none, .mov (.t 12), 0, 0, false, []⟩,
    ⟨some 69, none, .bin .lss (.t 68) (.k (.int .i64 0)), 0, 0, false, []⟩])
   (.cond (.t 69) (.seq (.seg false [⟨some 4, none, .mov (.k (.bool false)), 0, 0, false, []⟩])
   (.ret))
   (.skip)))
   (.seq (.seq (.seg false [⟨some 70, none, .mov (.t 12), 0, 0, false, []⟩,
    ⟨some 71, none, .mov (.t 11), 0, 0, false, []⟩,
    ⟨some 72, none, .bin .neq (.t 70) (.t 71), 0, 0, false, []⟩])
   (.cond (.t 72) (.seq (.seg false [⟨some 4, none, .mov (.k (.bool false)), 0, 0, false, []⟩])
   (.ret))
   (.skip)))
   (.cutTo [0, 1, 6, 9, 11] (.seq (.seg false [⟨some 73, none, .mov (.t 0), 0, 0, false, []⟩,
    ⟨some 74, none, .callx 0 42 [.t 73], 0, 0, false, []⟩,
    ⟨some 75, none, .mov (.t 1), 0, 0, false, []⟩,
    ⟨some 76, none, .callx 0 47 [.t 75], 0, 0, false, []⟩,
    ⟨some 77, none, .callx 0 48 [.t 74, .t 76], 0, 0, false, []⟩,
    ⟨some 13, none, .mov (.t 77), 0, 0, false, []⟩])
   (.cutTo [6, 9, 11, 13] (.seq (.seq (.seg false [⟨some 78, none, .mov (.t 13), 0, 0, false, []⟩,
    ⟨some 79, none, .mov (.t 6), 0, 0, false, []⟩,
    ⟨some 80, none, .callx 0 37 [.t 78, .t 79], 0, 0, false, []⟩,
    ⟨some 81, none, .un .not (.t 80), 0, 0, false, []⟩])
   (.cutTo [9, 11, 81] (.cond (.t 81) (.seq (.seg false [⟨some 4, none, .mov (.k (.bool false)), 0, 0, false, []⟩])
   (.ret))
   (.skip))))
   (.cutTo [9, 11] (.seq (.seg false [⟨some 12, none, .mov (.k (.int .i64 1)), 0, 0, false, []⟩])
   (.seq (.seg false [⟨some 82, none, .mov (.t 9), 0, 0, false, []⟩,
    ⟨some 83, none, .mov (.t 12), 0, 0, false, []⟩,
    ⟨some 84, none, .callx 0 39 [.t 82, .t 83], 0, 0, false, []⟩,
    ⟨some 12, none, .mov (.t 84), 0, 0, false, []⟩])
   (.cutTo [11, 12] (.seq (.seq (.seg false [⟨some 85, none, .mov (.t 12), 0, 0, false, []⟩,
    ⟨some 86, none, .bin .lss (.t 85) (.k (.int .i64 0)), 0, 0, false, []⟩])
   (.cond (.t 86) (.seq (.seg false [⟨some 4, none, .mov (.k (.bool false)), 0, 0, false, []⟩])
   (.ret))
   (.skip)))
   (.seq (.seq (.seg false [⟨some 87, none, .mov (.t 12), 0, 0, false, []⟩,
    ⟨some 88, none, .mov (.t 11), 0, 0, false, []⟩,
    ⟨some 89, none, .bin .neq (.t 87) (.t 88), 0, 0, false, []⟩])
   (.cond (.t 89) (.seq (.seg false [⟨some 4, none, .mov (.k (.bool false)), 0, 0, false, []⟩])
   (.ret))
   (.skip)))
   (.cutTo [] (.seq (.seg false [⟨some 4, none, .mov (.k (.bool true)), 0, 0, false, []⟩])
   (.ret))))))))))))))))))))))))))))))))))))))))))))))⟩
def E7x0 : List I := [⟨some 54, none, .load true 2 (.t 8), 0, 1, false, []⟩,
    ⟨some 55, none, .load true 2 (.t 2), 0, 0, false, []⟩,
    ⟨some 56, none, .callx 0 17 [.t 55], 0, 0, true, []⟩,
    ⟨some 57, none, .callx 0 20 [.t 54, .t 56], 1, 1, false, []⟩,
    ⟨some 58, none, .un .not (.t 57), 1, 1, false, []⟩]
def D7x0 : List I := E7x0
theorem evD7x0 (run : Run) (e : Env) (h : Heap) : drawI run D7x0 e h = DrawW (evW run E7x0 e h []) run E7x0 e h := drawI_write run _ e h
/-- loop.example/tablehouse/laws.FnExactLogBehind -/
def F7 : F := ⟨119, [(false, 4, 0, false)],
   .seq (.seg false [⟨some 2, none, .box (.t 0), 0, 0, false, []⟩,
    ⟨some 4, none, .mov (.k (.bool false)), 0, 0, false, []⟩])
   (.seq (.seg false [⟨some 5, none, .mov (.k (.int .i64 1048576)), 0, 0, false, []⟩])
   (.seq (.seg false [⟨some 17, none, .load true 2 (.t 2), 0, 0, false, []⟩,
    ⟨some 18, none, .mov (.t 5), 0, 0, false, []⟩,
    ⟨some 19, none, .call 15 [.t 17, .t 18] false false, 0, 0, false, []⟩,
    ⟨some 5, none, .mov (.t 19), 0, 0, false, []⟩])
   (.cutTo [1, 2, 5] (.seq (.seq (.seg false [⟨some 20, none, .mov (.t 5), 0, 0, false, []⟩,
    ⟨some 21, none, .bin .lss (.t 20) (.k (.int .i64 0)), 0, 0, false, []⟩])
   (.cond (.t 21) (.seq (.seg false [⟨some 4, none, .mov (.k (.bool true)), 0, 0, false, []⟩])
   (.ret))
   (.skip)))
   (.seq (.seg false [⟨some 22, none, .mov (.t 1), 0, 0, false, []⟩,
    ⟨some 23, none, .mov (.t 5), 0, 0, false, []⟩,
    ⟨some 24, none, .call 40 [.t 22, .t 23] false false, 0, 0, false, []⟩,
    ⟨some 5, none, .mov (.t 24), 0, 0, false, []⟩])
   (.cutTo [1, 2, 5] (.seq (.seq (.seg false [⟨some 25, none, .mov (.t 5), 0, 0, false, []⟩,
    ⟨some 26, none, .bin .lss (.t 25) (.k (.int .i64 0)), 0, 0, false, []⟩])
   (.cond (.t 26) (.seq (.seg false [⟨some 4, none, .mov (.k (.bool true)), 0, 0, false, []⟩])
   (.ret))
   (.skip)))
   (.seq (.seg false [⟨some 28, none, .load true 2 (.t 2), 0, 0, false, []⟩,
    ⟨some 29, none, .callx 0 17 [.t 28], 0, 0, false, []⟩,
    ⟨some 30, none, .mov (.t 1), 0, 0, false, []⟩,
    ⟨some 31, none, .callx 0 42 [.t 30], 0, 0, false, []⟩,
    ⟨some 32, none, .callx 1 41 [.t 29, .t 31], 0, 0, false, []⟩,
    ⟨some 27, none, .mov (.t 32), 0, 0, false, []⟩,
    ⟨some 33, none, .ext (.t 27) 0, 0, 0, false, []⟩,
    ⟨some 34, none, .ext (.t 27) 1, 0, 0, false, []⟩,
    ⟨some 6, none, .mov (.t 33), 0, 0, false, []⟩,
    ⟨some 7, none, .mov (.t 34), 0, 0, false, []⟩])
   (.cutTo [1, 2, 6, 7] (.seq (.seg false [⟨some 35, none, .load true 2 (.t 2), 0, 0, false, []⟩,
    ⟨some 36, none, .callx 0 17 [.t 35], 0, 0, false, []⟩,
    ⟨some 8, none, .alloc [.int .i64 0, .sl true 3 []], 0, 0, false, []⟩,
    ⟨none, none, .store 2 (.t 8) (.t 36), 0, 0, false, []⟩])
   (.cutTo [1, 2, 6, 7, 8] (.seq (.seg false [⟨some 37, none, .mov (.t 1), 0, 0, false, []⟩,
    ⟨some 38, none, .callx 0 42 [.t 37], 0, 0, false, []⟩,
    ⟨some 9, none, .mov (.t 38), 0, 0, false, []⟩])
   (.seq (.seg false [⟨some 40, none, .load true 2 (.t 8), 0, 0, false, []⟩,
    ⟨some 41, none, .mov (.t 9), 0, 0, false, []⟩,
    ⟨some 42, none, .callx 0 43 [.t 40, .t 41], 0, 0, false, []⟩,
    ⟨some 39, none, .mov (.t 42), 0, 0, false, []⟩,
    ⟨some 43, none, .ext (.t 39) 0, 0, 0, false, []⟩,
    ⟨some 44, none, .ext (.t 39) 1, 0, 0, false, []⟩,
    ⟨some 10, none, .mov (.t 43), 0, 0, false, []⟩,
    ⟨some 11, none, .mov (.t 44), 0, 0, false, []⟩])
   (.cutTo [1, 2, 6, 7, 8, 9, 10, 11] (.seq (.seq (.seg false [⟨some 45, none, .mov (.t 10), 0, 0, false, []⟩,
    ⟨some 46, none, .mov (.t 6), 0, 0, false, []⟩,
    ⟨some 47, none, .callx 0 37 [.t 45, .t 46], 0, 0, false, []⟩,
    ⟨some 48, none, .un .not (.t 47), 0, 0, false, []⟩,
    ⟨some 49, none, .mov (.t 48), 0, 0, false, []⟩,
    ⟨some 50, some (49, false), .mov (.t 11), 0, 0, false, []⟩,
    ⟨some 51, some (49, false), .mov (.t 7), 0, 0, false, []⟩,
    ⟨some 52, some (49, false), .eqb true (.t 50) (.t 51), 0, 0, false, []⟩,
    ⟨some 53, none, .pick (.t 49) (.k (.bool true)) (.t 52), 0, 0, false, []⟩])
   (.cutTo [1, 2, 6, 7, 8, 9, 10, 11, 53] (.cond (.t 53) (.seq (.seg false [⟨some 4, none, .mov (.k (.bool false)), 0, 0, false, []⟩])
   (.ret))
   (.skip))))
   (.cutTo [1, 2, 6, 7, 8, 9, 10, 11] (.seq (.seq (.seg true D7x0)
   (.cutTo [1, 2, 6, 7, 8, 9, 10, 11, 58] (.cond (.t 58) (.seq (.seg false [⟨some 4, none, .mov (.k (.bool false)), 0, 0, false, []⟩])
   (.ret))
   (.skip))))
   (.cutTo [1, 2, 6, 7, 8, 9, 10, 11] (.seq (.seq (.seg false [⟨some 59, none, .mov (.t 9), 0, 0, false, []⟩,
    ⟨some 60, none, .mov (.t 1), 0, 0, false, []⟩,
    ⟨some 61, none, .callx 0 42 [.t 60], 0, 0, false, []⟩,
    ⟨some 62, none, .callx 0 37 [.t 59, .t 61], 0, 0, false, []⟩,
    ⟨some 63, none, .un .not (.t 62), 0, 0, false, []⟩])
   (.cutTo [1, 2, 6, 7, 8, 9, 10, 11, 63] (.cond (.t 63) (.seq (.seg false [⟨some 4, none, .mov (.k (.bool false)), 0, 0, false, []⟩])
   (.ret))
   (.skip))))
   (.cutTo [1, 2, 6, 7, 8, 9, 10, 11] (.seq (.seg false [⟨some 12, none, .mov (.k (.int .i64 1)), 0, 0, false, []⟩])
   (.seq (.seg false [⟨some 64, none, .load true 2 (.t 8), 0, 0, false, []⟩,
    ⟨some 65, none, .mov (.t 12), 0, 0, false, []⟩,
    ⟨some 66, none, .callx 2 21 [.t 64, .t 65], 0, 0, false, []⟩,
    ⟨some 12, none, .mov (.t 66), 0, 0, false, []⟩])
   (.cutTo [1, 2, 6, 7, 9, 10, 11, 12] (.seq (.seg false [⟨some 67, none, .mov (.t 9), 0, 0, false, []⟩,
    ⟨some 68, none, .mov (.t 12), 0, 0, false, []⟩,
    ⟨some 69, none, .callx 2 38 [.t 67, .t 68], 0, 0, false, []⟩,
    ⟨some 12, none, .mov (.t 69), 0, 0, false, []⟩])
   (.cutTo [1, 2, 6, 7, 10, 11, 12] (.seq (.seq (.seg false [⟨some 70, none, .mov (.t 12), 0, 0, false, []⟩,
    ⟨some 71, none, .bin .lss (.t 70) (.k (.int .i64 0)), 0, 0, false, []⟩,
    ⟨some 72, none, .mov (.t 71), 0, 0, false, []⟩,
    ⟨some 73, some (72, false), .mov (.t 10), 0, 0, false, []⟩,
    ⟨some 74, some (72, false), .mov (.t 6), 0, 0, false, []⟩,
    ⟨some 75, some (72, false), .callx 0 37 [.t 73, .t 74], 0, 0, false, []⟩,
    ⟨some 76, some (72, false), .un .not (.t 75), 0, 0, false, []⟩,
    ⟨some 77, none, .pick (.t 72) (.k (.bool true)) (.t 76), 0, 0, false, []⟩,
    ⟨some 78, none, .mov (.t 77), 0, 0, false, []⟩,
    ⟨some 79, some (78, false), .mov (.t 11), 0, 0, false, []⟩,
    ⟨some 80, some (78, false), .mov (.t 7), 0, 0, false, []⟩,
    ⟨some 81, some (78, false), .eqb true (.t 79) (.t 80), 0, 0, false, []⟩,
    ⟨some 82, none, .pick (.t 78) (.k (.bool true)) (.t 81), 0, 0, false, []⟩])
   (.cutTo [1, 2, 6, 7, 10, 82] (.cond (.t 82) (.seq (.seg false [⟨some 4, none, .mov (.k (.bool false)), 0, 0, false, []⟩])
   (.ret))
   (.skip))))
   (.cutTo [1, 2, 6, 7, 10] (.seq (.seg false [⟨some 13, none, .mov (.k (.int .i64 1)), 0, 0, false, []⟩])
   (.seq (.seg false [⟨some 83, none, .mov (.t 10), 0, 0, false, []⟩,
    ⟨some 84, none, .mov (.t 13), 0, 0, false, []⟩,
    ⟨some 85, none, .callx 2 38 [.t 83, .t 84], 0, 0, false, []⟩,
    ⟨some 13, none, .mov (.t 85), 0, 0, false, []⟩])
   (.cutTo [1, 2, 6, 7, 10, 13] (.seq (.seg false [⟨some 14, none, .mov (.k (.int .i64 1)), 0, 0, false, []⟩])
   (.seq (.seg false [⟨some 86, none, .mov (.t 10), 0, 0, false, []⟩,
    ⟨some 87, none, .mov (.t 14), 0, 0, false, []⟩,
    ⟨some 88, none, .callx 0 39 [.t 86, .t 87], 0, 0, false, []⟩,
    ⟨some 14, none, .mov (.t 88), 0, 0, false, []⟩])
   (.cutTo [1, 2, 6, 7, 10, 13, 14] (.seq (.seq (.seg false [⟨some 89, none, .mov (.t 14), 0, 0, false, []⟩,
    ⟨some 90, none, .bin .lss (.t 89) (.k (.int .i64 0)), 0, 0, false, []⟩])
   (.cond (.t 90) (.seq (.seg false [⟨some 4, none, .mov (.k (.bool false)), 0, 0, false, []⟩])
   (.ret))
   (.skip)))
   (.seq (.seq (.seg false [⟨some 91, none, .mov (.t 14), 0, 0, false, []⟩,
    ⟨some 92, none, .mov (.t 13), 0, 0, false, []⟩,
    ⟨some 93, none, .bin .neq (.t 91) (.t 92), 0, 0, false, []⟩])
   (.cond (.t 93) (.seq (.seg false [⟨some 4, none, .mov (.k (.bool false)), 0, 0, false, []⟩])
   (.ret))
   (.skip)))
   (.cutTo [1, 2, 6, 7, 10, 13] (.seq (.seg false [⟨some 95, none, .load true 2 (.t 2), 0, 0, false, []⟩,
    ⟨some 96, none, .callx 0 17 [.t 95], 0, 0, false, []⟩,
    ⟨some 97, none, .mov (.t 1), 0, 0, false, []⟩,
    ⟨some 98, none, .callx 0 42 [.t 97], 0, 0, false, []⟩,
    ⟨some 99, none, .callx 0 43 [.t 96, .t 98], 0, 0, false, []⟩,
    ⟨some 94, none, .mov (.t 99), 0, 0, false, []⟩,
    ⟨some 100, none, .ext (.t 94) 0, 0, 0, false, []⟩,
    ⟨some 101, none, .ext (.t 94) 1, 0, 0, false, []⟩,
    ⟨some 15, none, .mov (.t 100), 0, 0, false, []⟩,
    ⟨some 16, none, .mov (.t 101), 0, 0, false, []⟩])
   (.cutTo [6, 7, 10, 13, 15, 16] (.seq (.seq (.seg false [⟨some 102, none, .mov (.t 15), 0, 0, false, []⟩,
    ⟨some 103, none, .mov (.t 6), 0, 0, false, []⟩,
    ⟨some 104, none, .callx 0 37 [.t 102, .t 103], 0, 0, false, []⟩,
    ⟨some 105, none, .un .not (.t 104), 0, 0, false, []⟩,
    ⟨some 106, none, .mov (.t 105), 0, 0, false, []⟩,
    ⟨some 107, some (106, false), .mov (.t 16), 0, 0, false, []⟩,
    ⟨some 108, some (106, false), .mov (.t 7), 0, 0, false, []⟩,
    ⟨some 109, some (106, false), .eqb true (.t 107) (.t 108), 0, 0, false, []⟩,
    ⟨some 110, none, .pick (.t 106) (.k (.bool true)) (.t 109), 0, 0, false, []⟩])
   (.cutTo [10, 13, 110] (.cond (.t 110) (.seq (.seg false [⟨some 4, none, .mov (.k (.bool false)), 0, 0, false, []⟩])
   (.ret))
   (.skip))))
   (.cutTo [10, 13] (.seq (.seg false [⟨some 14, none, .mov (.k (.int .i64 1)), 0, 0, false, []⟩])
   (.seq (.seg false [⟨some 111, none, .mov (.t 10), 0, 0, false, []⟩,
    ⟨some 112, none, .mov (.t 14), 0, 0, false, []⟩,
    ⟨some 113, none, .callx 0 39 [.t 111, .t 112], 0, 0, false, []⟩,
    ⟨some 14, none, .mov (.t 113), 0, 0, false, []⟩])
   (.cutTo [13, 14] (.seq (.seq (.seg false [⟨some 114, none, .mov (.t 14), 0, 0, false, []⟩,
    ⟨some 115, none, .bin .lss (.t 114) (.k (.int .i64 0)), 0, 0, false, []⟩])
   (.cond (.t 115) (.seq (.seg false [⟨some 4, none, .mov (.k (.bool false)), 0, 0, false, []⟩])
   (.ret))
   (.skip)))
   (.seq (.seq (.seg false [⟨some 116, none, .mov (.t 14), 0, 0, false, []⟩,
    ⟨some 117, none, .mov (.t 13), 0, 0, false, []⟩,
    ⟨some 118, none, .bin .neq (.t 116) (.t 117), 0, 0, false, []⟩])
   (.cond (.t 118) (.seq (.seg false [⟨some 4, none, .mov (.k (.bool false)), 0, 0, false, []⟩])
   (.ret))
   (.skip)))
   (.cutTo [] (.seq (.seg false [⟨some 4, none, .mov (.k (.bool true)), 0, 0, false, []⟩])
   (.ret))))))))))))))))))))))))))))))))))))))))))))))))⟩
/-- loop.example/tablehouse/laws.FnExactLogCut -/
def F8 : F := ⟨74, [(false, 4, 0, false)],
   .seq (.seg false [⟨some 4, none, .mov (.k (.bool false)), 0, 0, false, []⟩])
   (.seq (.seg false [⟨some 5, none, .mov (.k (.int .i64 1048576)), 0, 0, false, []⟩])
   (.seq (.seg false [⟨some 13, none, .mov (.t 0), 0, 0, false, []⟩,
    ⟨some 14, none, .mov (.t 5), 0, 0, false, []⟩,
    ⟨some 15, none, .call 40 [.t 13, .t 14] false false, 0, 0, false, []⟩,
    ⟨some 5, none, .mov (.t 15), 0, 0, false, []⟩])
   (.cutTo [0, 1, 5] (.seq (.seq (.seg false [⟨some 16, none, .mov (.t 5), 0, 0, false, []⟩,
    ⟨some 17, none, .bin .lss (.t 16) (.k (.int .i64 0)), 0, 0, false, []⟩])
   (.cond (.t 17) (.seq (.seg false [⟨some 4, none, .mov (.k (.bool true)), 0, 0, false, []⟩])
   (.ret))
   (.skip)))
   (.seq (.seg false [⟨some 18, none, .mov (.t 0), 0, 0, false, []⟩,
    ⟨some 19, none, .callx 0 42 [.t 18], 0, 0, false, []⟩,
    ⟨some 20, none, .mov (.t 1), 0, 0, false, []⟩,
    ⟨some 21, none, .callx 1 44 [.t 19, .t 20], 0, 0, false, []⟩,
    ⟨some 6, none, .mov (.t 21), 0, 0, false, []⟩])
   (.cutTo [0, 1, 6] (.seq (.seg false [⟨some 22, none, .mov (.t 0), 0, 0, false, []⟩,
    ⟨some 23, none, .callx 0 42 [.t 22], 0, 0, false, []⟩,
    ⟨some 7, none, .mov (.t 23), 0, 0, false, []⟩])
   (.seq (.seg false [⟨some 24, none, .mov (.t 7), 0, 0, false, []⟩,
    ⟨some 25, none, .mov (.t 1), 0, 0, false, []⟩,
    ⟨some 26, none, .callx 0 45 [.t 24, .t 25], 0, 0, false, []⟩,
    ⟨some 8, none, .mov (.t 26), 0, 0, false, []⟩])
   (.cutTo [0, 1, 6, 7, 8] (.seq (.seq (.seg false [⟨some 27, none, .mov (.t 8), 0, 0, false, []⟩,
    ⟨some 28, none, .mov (.t 6), 0, 0, false, []⟩,
    ⟨some 29, none, .callx 0 37 [.t 27, .t 28], 0, 0, false, []⟩,
    ⟨some 30, none, .un .not (.t 29), 0, 0, false, []⟩])
   (.cutTo [0, 1, 6, 7, 8, 30] (.cond (.t 30) (.seq (.seg false [⟨some 4, none, .mov (.k (.bool false)), 0, 0, false, []⟩])
   (.ret))
   (.skip))))
   (.cutTo [0, 1, 6, 7, 8] (.seq (.seq (.seg false [⟨some 31, none, .mov (.t 7), 0, 0, false, []⟩,
    ⟨some 32, none, .mov (.t 0), 0, 0, false, []⟩,
    ⟨some 33, none, .callx 0 42 [.t 32], 0, 0, false, []⟩,
    ⟨some 34, none, .callx 0 37 [.t 31, .t 33], 0, 0, false, []⟩,
    ⟨some 35, none, .un .not (.t 34), 0, 0, false, []⟩])
   (.cutTo [0, 1, 6, 7, 8, 35] (.cond (.t 35) (.seq (.seg false [⟨some 4, none, .mov (.k (.bool false)), 0, 0, false, []⟩])
   (.ret))
   (.skip))))
   (.cutTo [0, 1, 6, 7, 8] (.seq (.seg false [⟨some 9, none, .mov (.k (.int .i64 1)), 0, 0, false, []⟩])
   (.seq (.seg false [⟨some 36, none, .mov (.t 7), 0, 0, false, []⟩,
    ⟨some 37, none, .mov (.t 9), 0, 0, false, []⟩,
    ⟨some 38, none, .callx 2 38 [.t 36, .t 37], 0, 0, false, []⟩,
    ⟨some 9, none, .mov (.t 38), 0, 0, false, []⟩])
   (.cutTo [0, 1, 6, 8, 9] (.seq (.seq (.seg false [⟨some 39, none, .mov (.t 9), 0, 0, false, []⟩,
    ⟨some 40, none, .bin .lss (.t 39) (.k (.int .i64 0)), 0, 0, false, []⟩,
    ⟨some 41, none, .mov (.t 40), 0, 0, false, []⟩,
    ⟨some 42, some (41, false), .mov (.t 8), 0, 0, false, []⟩,
    ⟨some 43, some (41, false), .mov (.t 6), 0, 0, false, []⟩,
    ⟨some 44, some (41, false), .callx 0 37 [.t 42, .t 43], 0, 0, false, []⟩,
    ⟨some 45, some (41, false), .un .not (.t 44), 0, 0, false, []⟩,
    ⟨some 46, none, .pick (.t 41) (.k (.bool true)) (.t 45), 0, 0, false, []⟩])
   (.cutTo [0, 1, 6, 8, 46] (.cond (.t 46) (.seq (.seg false [⟨some 4, none, .mov (.k (.bool false)), 0, 0, false, []⟩])
   (.ret))
   (.skip))))
   (.cutTo [0, 1, 6, 8] (.seq (.seg false [⟨some 10, none, .mov (.k (.int .i64 1)), 0, 0, false, []⟩])
   (.seq (.seg false [⟨some 47, none, .mov (.t 8), 0, 0, false, []⟩,
    ⟨some 48, none, .mov (.t 10), 0, 0, false, []⟩,
    ⟨some 49, none, .callx 2 38 [.t 47, .t 48], 0, 0, false, []⟩,
    ⟨some 10, none, .mov (.t 49), 0, 0, false, []⟩])
   (.cutTo [0, 1, 6, 8, 10] (.seq (.seg false [⟨some 11, none, .mov (.k (.int .i64 1)), 0, 0, false, []⟩])
   (.seq (.seg false [⟨some 50, none, .mov (.t 8), 0, 0, false, []⟩,
    ⟨some 51, none, .mov (.t 11), 0, 0, false, []⟩,
    ⟨some 52, none, .callx 0 39 [.t 50, .t 51], 0, 0, false, []⟩,
    ⟨some 11, none, .mov (.t 52), 0, 0, false, []⟩])
   (.cutTo [0, 1, 6, 8, 10, 11] (.seq (.seq (.seg false [⟨some 53, none, .mov (.t 11), 0, 0, false, []⟩,
    ⟨some 54, none, .bin .lss (.t 53) (.k (.int .i64 0)), 0, 0, false, []⟩])
   (.cond (.t 54) (.seq (.seg false [⟨some 4, none, .mov (.k (.bool false)), 0, 0, false, []⟩])
   (.ret))
   (.skip)))
   (.seq (.seq (.seg false [⟨some 55, none, .mov (.t 11), 0, 0, false, []⟩,
    ⟨some 56, none, .mov (.t 10), 0, 0, false, []⟩,
    ⟨some 57, none, .bin .neq (.t 55) (.t 56), 0, 0, false, []⟩])
   (.cond (.t 57) (.seq (.seg false [⟨some 4, none, .mov (.k (.bool false)), 0, 0, false, []⟩])
   (.ret))
   (.skip)))
   (.cutTo [0, 1, 6, 8, 10] (.seq (.seg false [⟨some 58, none, .mov (.t 0), 0, 0, false, []⟩,
    ⟨some 59, none, .callx 0 42 [.t 58], 0, 0, false, []⟩,
    ⟨some 60, none, .mov (.t 1), 0, 0, false, []⟩,
    ⟨some 61, none, .callx 0 45 [.t 59, .t 60], 0, 0, false, []⟩,
    ⟨some 12, none, .mov (.t 61), 0, 0, false, []⟩])
   (.cutTo [6, 8, 10, 12] (.seq (.seq (.seg false [⟨some 62, none, .mov (.t 12), 0, 0, false, []⟩,
    ⟨some 63, none, .mov (.t 6), 0, 0, false, []⟩,
    ⟨some 64, none, .callx 0 37 [.t 62, .t 63], 0, 0, false, []⟩,
    ⟨some 65, none, .un .not (.t 64), 0, 0, false, []⟩])
   (.cutTo [8, 10, 65] (.cond (.t 65) (.seq (.seg false [⟨some 4, none, .mov (.k (.bool false)), 0, 0, false, []⟩])
   (.ret))
   (.skip))))
   (.cutTo [8, 10] (.seq (.seg false [⟨some 11, none, .mov (.k (.int .i64 1)), 0, 0, false, []⟩])
   (.seq (.seg false [⟨some 66, none, .mov (.t 8), 0, 0, false, []⟩,
    ⟨some 67, none, .mov (.t 11), 0, 0, false, []⟩,
    ⟨some 68, none, .callx 0 39 [.t 66, .t 67], 0, 0, false, []⟩,
    ⟨some 11, none, .mov (.t 68), 0, 0, false, []⟩])
   (.cutTo [10, 11] (.seq (.seq (.seg false [⟨some 69, none, .mov (.t 11), 0, 0, false, []⟩,
    ⟨some 70, none, .bin .lss (.t 69) (.k (.int .i64 0)), 0, 0, false, []⟩])
   (.cond (.t 70) (.seq (.seg false [⟨some 4, none, .mov (.k (.bool false)), 0, 0, false, []⟩])
   (.ret))
   (.skip)))
   (.seq (.seq (.seg false [⟨some 71, none, .mov (.t 11), 0, 0, false, []⟩,
    ⟨some 72, none, .mov (.t 10), 0, 0, false, []⟩,
    ⟨some 73, none, .bin .neq (.t 71) (.t 72), 0, 0, false, []⟩])
   (.cond (.t 73) (.seq (.seg false [⟨some 4, none, .mov (.k (.bool false)), 0, 0, false, []⟩])
   (.ret))
   (.skip)))
   (.cutTo [] (.seq (.seg false [⟨some 4, none, .mov (.k (.bool true)), 0, 0, false, []⟩])
   (.ret)))))))))))))))))))))))))))))))))))))))⟩
/-- loop.example/tablehouse/laws.FnExactEntryFrom -/
def F12 : F := ⟨93, [(false, 2, 0, false)],
   .seq (.seg false [⟨some 2, none, .mov (.k (.bool false)), 0, 0, false, []⟩])
   (.seq (.seq (.seg false [⟨some 13, none, .mov (.t 0), 0, 0, false, []⟩,
    ⟨some 14, none, .len false (.t 13), 0, 0, false, []⟩,
    ⟨some 15, none, .bin .gtr (.t 14) (.k (.int .i64 1048576)), 0, 0, false, []⟩])
   (.cond (.t 15) (.seq (.seg false [⟨some 2, none, .mov (.k (.bool true)), 0, 0, false, []⟩])
   (.ret))
   (.skip)))
   (.cutTo [0] (.seq (.seg false [⟨some 17, none, .mov (.t 0), 0, 0, false, []⟩,
    ⟨some 18, none, .callx 0 36 [.t 17], 0, 0, false, []⟩,
    ⟨some 19, none, .callx 1 53 [.t 18], 0, 0, false, []⟩,
    ⟨some 16, none, .mov (.t 19), 0, 0, false, []⟩,
    ⟨some 20, none, .ext (.t 16) 0, 0, 0, false, []⟩,
    ⟨some 21, none, .ext (.t 16) 1, 0, 0, false, []⟩,
    ⟨some 3, none, .alloc [.int .i64 0, .sl true 3 []], 0, 0, false, []⟩,
    ⟨none, none, .store 2 (.t 3) (.t 20), 0, 0, false, []⟩,
    ⟨some 4, none, .mov (.t 21), 0, 0, false, []⟩])
   (.cutTo [0, 3, 4] (.seq (.seg false [⟨some 22, none, .mov (.t 0), 0, 0, false, []⟩,
    ⟨some 23, none, .callx 0 36 [.t 22], 0, 0, false, []⟩,
    ⟨some 5, none, .mov (.t 23), 0, 0, false, []⟩])
   (.seq (.seg false [⟨some 25, none, .mov (.t 5), 0, 0, false, []⟩,
    ⟨some 26, none, .callx 0 27 [.t 25], 0, 0, false, []⟩,
    ⟨some 24, none, .mov (.t 26), 0, 0, false, []⟩,
    ⟨some 27, none, .ext (.t 24) 0, 0, 0, false, []⟩,
    ⟨some 28, none, .ext (.t 24) 1, 0, 0, false, []⟩,
    ⟨some 6, none, .alloc [.int .i64 0, .sl true 3 []], 0, 0, false, []⟩,
    ⟨none, none, .store 2 (.t 6) (.t 27), 0, 0, false, []⟩,
    ⟨some 7, none, .mov (.t 28), 0, 0, false, []⟩])
   (.cutTo [0, 3, 4, 5, 6, 7] (.seq (.seq (.seg false [⟨some 29, none, .load true 2 (.t 6), 0, 0, false, []⟩,
    ⟨some 30, none, .load true 2 (.t 3), 0, 0, false, []⟩,
    ⟨some 31, none, .callx 0 20 [.t 29, .t 30], 0, 0, false, []⟩,
    ⟨some 32, none, .un .not (.t 31), 0, 0, false, []⟩,
    ⟨some 33, none, .mov (.t 32), 0, 0, false, []⟩,
    ⟨some 34, some (33, false), .mov (.t 7), 0, 0, false, []⟩,
    ⟨some 35, some (33, false), .mov (.t 4), 0, 0, false, []⟩,
    ⟨some 36, some (33, false), .bin .neq (.t 34) (.t 35), 0, 0, false, []⟩,
    ⟨some 37, none, .pick (.t 33) (.k (.bool true)) (.t 36), 0, 0, false, []⟩])
   (.cutTo [0, 3, 4, 5, 6, 7, 37] (.cond (.t 37) (.seq (.seg false [⟨some 2, none, .mov (.k (.bool false)), 0, 0, false, []⟩])
   (.ret))
   (.skip))))
   (.cutTo [0, 3, 4, 5, 6, 7] (.seq (.seq (.seg false [⟨some 38, none, .mov (.t 5), 0, 0, false, []⟩,
    ⟨some 39, none, .mov (.t 0), 0, 0, false, []⟩,
    ⟨some 40, none, .callx 0 36 [.t 39], 0, 0, false, []⟩,
    ⟨some 41, none, .callx 0 19 [.t 38, .t 40], 0, 0, false, []⟩,
    ⟨some 42, none, .un .not (.t 41), 0, 0, false, []⟩])
   (.cutTo [0, 3, 4, 5, 6, 7, 42] (.cond (.t 42) (.seq (.seg false [⟨some 2, none, .mov (.k (.bool false)), 0, 0, false, []⟩])
   (.ret))
   (.skip))))
   (.cutTo [0, 3, 4, 5, 6, 7] (.seq (.seg false [⟨some 8, none, .mov (.k (.int .i64 1)), 0, 0, false, []⟩])
   (.seq (.seg false [⟨some 43, none, .mov (.t 5), 0, 0, false, []⟩,
    ⟨some 44, none, .mov (.t 8), 0, 0, false, []⟩,
    ⟨some 45, none, .callx 2 22 [.t 43, .t 44], 0, 0, false, []⟩,
    ⟨some 8, none, .mov (.t 45), 0, 0, false, []⟩])
   (.cutTo [0, 3, 4, 6, 7, 8] (.seq (.seq (.seg false [⟨some 46, none, .mov (.t 8), 0, 0, false, []⟩,
    ⟨some 47, none, .bin .lss (.t 46) (.k (.int .i64 0)), 0, 0, false, []⟩,
    ⟨some 48, none, .mov (.t 47), 0, 0, false, []⟩,
    ⟨some 49, some (48, false), .load true 2 (.t 6), 0, 0, false, []⟩,
    ⟨some 50, some (48, false), .load true 2 (.t 3), 0, 0, false, []⟩,
    ⟨some 51, some (48, false), .callx 0 20 [.t 49, .t 50], 0, 0, false, []⟩,
    ⟨some 52, some (48, false), .un .not (.t 51), 0, 0, false, []⟩,
    ⟨some 53, none, .pick (.t 48) (.k (.bool true)) (.t 52), 0, 0, false, []⟩,
    ⟨some 54, none, .mov (.t 53), 0, 0, false, []⟩,
    ⟨some 55, some (54, false), .mov (.t 7), 0, 0, false, []⟩,
    ⟨some 56, some (54, false), .mov (.t 4), 0, 0, false, []⟩,
    ⟨some 57, some (54, false), .bin .neq (.t 55) (.t 56), 0, 0, false, []⟩,
    ⟨some 58, none, .pick (.t 54) (.k (.bool true)) (.t 57), 0, 0, false, []⟩])
   (.cutTo [0, 3, 4, 6, 58] (.cond (.t 58) (.seq (.seg false [⟨some 2, none, .mov (.k (.bool false)), 0, 0, false, []⟩])
   (.ret))
   (.skip))))
   (.cutTo [0, 3, 4, 6] (.seq (.seg false [⟨some 9, none, .mov (.k (.int .i64 1)), 0, 0, false, []⟩])
   (.seq (.seg false [⟨some 59, none, .load true 2 (.t 6), 0, 0, false, []⟩,
    ⟨some 60, none, .mov (.t 9), 0, 0, false, []⟩,
    ⟨some 61, none, .callx 2 21 [.t 59, .t 60], 0, 0, false, []⟩,
    ⟨some 9, none, .mov (.t 61), 0, 0, false, []⟩])
   (.cutTo [0, 3, 4, 6, 9] (.seq (.seg false [⟨some 10, none, .mov (.k (.int .i64 1)), 0, 0, false, []⟩])
   (.seq (.seg false [⟨some 62, none, .load true 2 (.t 6), 0, 0, false, []⟩,
    ⟨some 63, none, .mov (.t 10), 0, 0, false, []⟩,
    ⟨some 64, none, .callx 0 54 [.t 62, .t 63], 0, 0, false, []⟩,
    ⟨some 10, none, .mov (.t 64), 0, 0, false, []⟩])
   (.cutTo [0, 3, 4, 6, 9, 10] (.seq (.seq (.seg false [⟨some 65, none, .mov (.t 10), 0, 0, false, []⟩,
    ⟨some 66, none, .bin .lss (.t 65) (.k (.int .i64 0)), 0, 0, false, []⟩])
   (.cond (.t 66) (.seq (.seg false [⟨some 2, none, .mov (.k (.bool false)), 0, 0, false, []⟩])
   (.ret))
   (.skip)))
   (.seq (.seq (.seg false [⟨some 67, none, .mov (.t 10), 0, 0, false, []⟩,
    ⟨some 68, none, .mov (.t 9), 0, 0, false, []⟩,
    ⟨some 69, none, .bin .neq (.t 67) (.t 68), 0, 0, false, []⟩])
   (.cond (.t 69) (.seq (.seg false [⟨some 2, none, .mov (.k (.bool false)), 0, 0, false, []⟩])
   (.ret))
   (.skip)))
   (.cutTo [0, 3, 4, 6, 9] (.seq (.seg false [⟨some 71, none, .mov (.t 0), 0, 0, false, []⟩,
    ⟨some 72, none, .callx 0 36 [.t 71], 0, 0, false, []⟩,
    ⟨some 73, none, .callx 0 27 [.t 72], 0, 0, false, []⟩,
    ⟨some 70, none, .mov (.t 73), 0, 0, false, []⟩,
    ⟨some 74, none, .ext (.t 70) 0, 0, 0, false, []⟩,
    ⟨some 75, none, .ext (.t 70) 1, 0, 0, false, []⟩,
    ⟨some 11, none, .alloc [.int .i64 0, .sl true 3 []], 0, 0, false, []⟩,
    ⟨none, none, .store 2 (.t 11) (.t 74), 0, 0, false, []⟩,
    ⟨some 12, none, .mov (.t 75), 0, 0, false, []⟩])
   (.cutTo [3, 4, 6, 9, 11, 12] (.seq (.seq (.seg false [⟨some 76, none, .load true 2 (.t 11), 0, 0, false, []⟩,
    ⟨some 77, none, .load true 2 (.t 3), 0, 0, false, []⟩,
    ⟨some 78, none, .callx 0 20 [.t 76, .t 77], 0, 0, false, []⟩,
    ⟨some 79, none, .un .not (.t 78), 0, 0, false, []⟩,
    ⟨some 80, none, .mov (.t 79), 0, 0, false, []⟩,
    ⟨some 81, some (80, false), .mov (.t 12), 0, 0, false, []⟩,
    ⟨some 82, some (80, false), .mov (.t 4), 0, 0, false, []⟩,
    ⟨some 83, some (80, false), .bin .neq (.t 81) (.t 82), 0, 0, false, []⟩,
    ⟨some 84, none, .pick (.t 80) (.k (.bool true)) (.t 83), 0, 0, false, []⟩])
   (.cutTo [6, 9, 84] (.cond (.t 84) (.seq (.seg false [⟨some 2, none, .mov (.k (.bool false)), 0, 0, false, []⟩])
   (.ret))
   (.skip))))
   (.cutTo [6, 9] (.seq (.seg false [⟨some 10, none, .mov (.k (.int .i64 1)), 0, 0, false, []⟩])
   (.seq (.seg false [⟨some 85, none, .load true 2 (.t 6), 0, 0, false, []⟩,
    ⟨some 86, none, .mov (.t 10), 0, 0, false, []⟩,
    ⟨some 87, none, .callx 0 54 [.t 85, .t 86], 0, 0, false, []⟩,
    ⟨some 10, none, .mov (.t 87), 0, 0, false, []⟩])
   (.cutTo [9, 10] (.seq (.seq (.seg false [⟨some 88, none, .mov (.t 10), 0, 0, false, []⟩,
    ⟨some 89, none, .bin .lss (.t 88) (.k (.int .i64 0)), 0, 0, false, []⟩])
   (.cond (.t 89) (.seq (.seg false [⟨some 2, none, .mov (.k (.bool false)), 0, 0, false, []⟩])
   (.ret))
   (.skip)))
   (.seq (.seq (.seg false [⟨some 90, none, .mov (.t 10), 0, 0, false, []⟩,
    ⟨some 91, none, .mov (.t 9), 0, 0, false, []⟩,
    ⟨some 92, none, .bin .neq (.t 90) (.t 91), 0, 0, false, []⟩])
   (.cond (.t 92) (.seq (.seg false [⟨some 2, none, .mov (.k (.bool false)), 0, 0, false, []⟩])
   (.ret))
   (.skip)))
   (.cutTo [] (.seq (.seg false [⟨some 2, none, .mov (.k (.bool true)), 0, 0, false, []⟩])
   (.ret)))))))))))))))))))))))))))))))))))))⟩
/-- loop.example/tablehouse/laws.szEntry -/
def F15 : F := ⟨12, [(false, 4, 0, false)],
   .seq (.seg false [⟨some 2, none, .box (.t 0), 0, 0, false, []⟩,
    ⟨some 4, none, .mov (.k (.int .i64 0)), 0, 0, false, []⟩])
   (.seq (.seg false [⟨some 5, none, .faddr 1 1 (.t 2), 0, 0, false, []⟩,
    ⟨some 6, none, .load false 1 (.t 5), 0, 0, false, []⟩,
    ⟨some 7, none, .mov (.t 1), 0, 0, false, []⟩,
    ⟨some 8, none, .call 62 [.t 6, .t 7] false false, 0, 0, false, []⟩,
    ⟨some 1, none, .mov (.t 8), 0, 0, false, []⟩])
   (.cutTo [1] (.seq (.seq (.seg false [⟨some 9, none, .mov (.t 1), 0, 0, false, []⟩,
    ⟨some 10, none, .bin .lss (.t 9) (.k (.int .i64 0)), 0, 0, false, []⟩])
   (.cond (.t 10) (.seq (.seg false [⟨some 4, none, .mov (.k (.int .i64 (-1))), 0, 0, false, []⟩])
   (.ret))
   (.skip)))
   (.seq (.seg false [⟨some 11, none, .mov (.t 1), 0, 0, false, []⟩,
    ⟨some 4, none, .mov (.t 11), 0, 0, false, []⟩])
   (.ret)))))⟩
/-- loop.example/tablehouse/laws.toEntry -/
def F17 : F := ⟨12, [(true, 2, 2, true)],
   .seq (.seg false [⟨some 1, none, .box (.t 0), 0, 0, false, []⟩,
    ⟨some 2, none, .alloc [.int .i64 0, .sl true 3 []], 0, 0, false, []⟩])
   (.seq (.seg false [⟨some 3, none, .alloc [.int .i64 0, .sl true 3 []], 0, 0, false, []⟩])
   (.seq (.seg false [⟨some 4, none, .faddr 0 1 (.t 1), 0, 0, false, []⟩,
    ⟨some 5, none, .load false 1 (.t 4), 0, 0, false, []⟩,
    ⟨some 6, none, .faddr 0 1 (.t 3), 0, 0, false, []⟩,
    ⟨none, none, .store 1 (.t 6) (.t 5), 0, 0, false, []⟩])
   (.cutTo [1, 2, 3] (.seq (.seg false [⟨some 7, none, .faddr 1 1 (.t 1), 0, 0, false, []⟩,
    ⟨some 8, none, .load false 1 (.t 7), 0, 0, false, []⟩,
    ⟨some 9, none, .callx 0 66 [.t 8], 0, 0, false, []⟩,
    ⟨some 10, none, .faddr 1 1 (.t 3), 0, 0, false, []⟩,
    ⟨none, none, .store 1 (.t 10) (.t 9), 0, 0, false, []⟩])
   (.cutTo [2, 3] (.seq (.seg false [⟨some 11, none, .load true 2 (.t 3), 0, 0, false, []⟩,
    ⟨none, none, .store 2 (.t 2) (.t 11), 0, 0, false, []⟩])
   (.ret)))))))⟩
/-- loop.example/tablehouse/spec.EntryBytes -/
def F16 : F := ⟨28, [(false, 2, 0, false)],
   .seq (.seg false [⟨some 1, none, .box (.t 0), 0, 0, false, []⟩,
    ⟨some 2, none, .nilrow 1, 0, 0, false, []⟩])
   (.seq (.seq (.seg false [⟨some 5, none, .load true 2 (.t 1), 0, 0, false, []⟩,
    ⟨some 6, none, .mksl false 2 [.t 5], 0, 0, false, []⟩,
    ⟨some 7, none, .call 63 [.t 6] false false, 0, 0, false, []⟩,
    ⟨some 8, none, .un .not (.t 7), 0, 0, false, []⟩])
   (.cutTo [1, 8] (.cond (.t 8) (.seq (.seg false [⟨some 9, none, .mksl true 1 [], 0, 0, false, []⟩,
    ⟨some 2, none, .mov (.t 9), 0, 0, false, []⟩])
   (.ret))
   (.skip))))
   (.cutTo [1] (.seq (.seg false [⟨some 10, none, .load true 2 (.t 1), 0, 0, false, []⟩,
    ⟨some 11, none, .call 64 [.t 10] false false, 0, 0, false, []⟩,
    ⟨some 3, none, .mov (.t 11), 0, 0, false, []⟩])
   (.seq (.seg false [⟨some 12, none, .mov (.t 3), 0, 0, false, []⟩,
    ⟨some 13, none, .len false (.t 12), 0, 0, false, []⟩,
    ⟨some 14, none, .bin .quo (.t 13) (.k (.int .i64 256)), 0, 0, false, []⟩,
    ⟨some 15, none, .conv (.int .u8) (.t 14), 0, 0, false, []⟩,
    ⟨some 16, none, .mov (.t 3), 0, 0, false, []⟩,
    ⟨some 17, none, .len false (.t 16), 0, 0, false, []⟩,
    ⟨some 18, none, .bin .rem (.t 17) (.k (.int .i64 256)), 0, 0, false, []⟩,
    ⟨some 19, none, .conv (.int .u8) (.t 18), 0, 0, false, []⟩,
    ⟨some 20, none, .mksl true 1 [.t 15, .t 19], 0, 0, false, []⟩,
    ⟨some 4, none, .mov (.t 20), 0, 0, false, []⟩])
   (.cutTo [3, 4] (.seq (.seg false [⟨some 21, none, .mov (.t 4), 0, 0, false, []⟩,
    ⟨some 22, none, .mov (.t 3), 0, 0, false, []⟩,
    ⟨some 23, none, .app 1 (.t 21) (.t 22), 0, 0, false, []⟩,
    ⟨some 24, none, .mov (.t 3), 0, 0, false, []⟩,
    ⟨some 25, none, .call 65 [.t 24] false false, 0, 0, false, []⟩,
    ⟨some 26, none, .mksl false 1 [.t 25], 0, 0, false, []⟩,
    ⟨some 27, none, .app 1 (.t 23) (.t 26), 0, 0, false, []⟩,
    ⟨some 2, none, .mov (.t 27), 0, 0, false, []⟩])
   (.cutTo [2] (.ret))))))))⟩
/-- loop.example/tablehouse/impl.EntryBytes -/
def F18 : F := ⟨9, [(false, 2, 0, false)],
   .seq (.seg false [⟨some 1, none, .box (.t 0), 0, 0, false, []⟩,
    ⟨some 2, none, .mov (.k (.sl true 1 [])), 0, 0, false, []⟩])
   (.seq (.seq (.seg false [⟨some 3, none, .load true 2 (.t 1), 0, 0, false, []⟩,
    ⟨some 4, none, .mksl false 2 [.t 3], 0, 0, false, []⟩,
    ⟨some 5, none, .call 25 [.t 4] false false, 0, 0, false, []⟩,
    ⟨some 6, none, .un .not (.t 5), 0, 0, false, []⟩])
   (.cutTo [1, 6] (.cond (.t 6) (.seq (.seg false [⟨some 2, none, .mov (.k (.sl true 1 [])), 0, 0, false, []⟩])
   (.ret))
   (.skip))))
   (.cutTo [1] (.seq (.seg false [⟨some 7, none, .load true 2 (.t 1), 0, 0, false, []⟩,
    ⟨some 8, none, .callx 0 67 [.t 7], 0, 0, false, []⟩,
    ⟨some 2, none, .mov (.t 8), 0, 0, false, []⟩])
   (.ret))))⟩
def E19x0 : List I := [⟨some 17, none, .mov (.t 0), 0, 0, false, []⟩,
    ⟨some 18, none, .mov (.t 5), 0, 0, false, []⟩,
    ⟨some 19, none, .iaddr 1 (.t 17) (.t 18), 0, 0, false, []⟩,
    ⟨some 20, none, .load false 1 (.t 19), 0, 0, false, []⟩,
    ⟨some 21, none, .mov (.t 1), 0, 0, false, []⟩,
    ⟨some 22, none, .mov (.t 5), 0, 0, false, []⟩,
    ⟨some 23, none, .iaddr 1 (.t 21) (.t 22), 0, 0, false, []⟩,
    ⟨some 24, none, .load false 1 (.t 23), 0, 0, false, []⟩,
    ⟨some 25, none, .bin .neq (.t 20) (.t 24), 0, 0, false, []⟩]
def D19x0 : List I := E19x0
theorem evD19x0 (run : Run) (e : Env) (h : Heap) : drawI run D19x0 e h = DrawS (evQ run E19x0 e h) run E19x0 e h := drawI_quiet run _ (by rfl) e h
def B19x0 : C := .seq (.seq (.seg false [⟨some 11, none, .mov (.t 5), 0, 0, false, []⟩,
    ⟨some 12, none, .mov (.t 0), 0, 0, false, []⟩,
    ⟨some 13, none, .len false (.t 12), 0, 0, false, []⟩,
    ⟨some 14, none, .bin .lss (.t 11) (.t 13), 0, 0, false, []⟩])
   (.cutTo [0, 1, 5, 14] (.cond (.t 14) (.skip)
   (.exit 0))))
   (.cutTo [0, 1, 5] (.seq (.block 1 (.seq (.seg true D19x0)
   (.cutTo [0, 1, 5, 25] (.cond (.t 25) (.seq (.seg false [⟨some 4, none, .mov (.k (.bool false)), 0, 0, false, []⟩])
   (.ret))
   (.skip)))))
   (.cutTo [0, 1, 5] (.seg false [⟨some 15, none, .mov (.t 5), 0, 0, false, []⟩,
    ⟨some 16, none, .bin .add (.t 15) (.k (.int .i64 1)), 0, 0, false, []⟩,
    ⟨some 5, none, .mov (.t 16), 0, 0, false, []⟩]))))
def L19x0 : C := B19x0
theorem evL19x0 (run : Run) (draw : List I → Env → Heap → Option (Env × Heap)) (e : Env) (h : Heap) : evC run draw L19x0 e h = evC run draw B19x0 e h := rfl
/-- loop.example/tablehouse/laws.eqByteS -/
def F19 : F := ⟨26, [(false, 4, 0, false)],
   .seq (.seg false [⟨some 4, none, .mov (.k (.bool false)), 0, 0, false, []⟩])
   (.seq (.seq (.seg false [⟨some 6, none, .mov (.t 0), 0, 0, false, []⟩,
    ⟨some 7, none, .len false (.t 6), 0, 0, false, []⟩,
    ⟨some 8, none, .mov (.t 1), 0, 0, false, []⟩,
    ⟨some 9, none, .len false (.t 8), 0, 0, false, []⟩,
    ⟨some 10, none, .bin .neq (.t 7) (.t 9), 0, 0, false, []⟩])
   (.cutTo [0, 1, 10] (.cond (.t 10) (.seq (.seg false [⟨some 4, none, .mov (.k (.bool false)), 0, 0, false, []⟩])
   (.ret))
   (.skip))))
   (.cutTo [0, 1] (.seq (.seq (.seg false [⟨some 5, none, .mov (.k (.int .i64 0)), 0, 0, false, []⟩])
   (.block 0 (.loop [0, 1, 5] [4] L19x0)))
   (.seq (.seg false [⟨some 4, none, .mov (.k (.bool true)), 0, 0, false, []⟩])
   (.ret)))))⟩
/-- loop.example/tablehouse/laws.eqEntry -/
def F20 : F := ⟨16, [(false, 4, 0, false)],
   .seq (.seg false [⟨some 2, none, .box (.t 0), 0, 0, false, []⟩,
    ⟨some 3, none, .box (.t 1), 0, 0, false, []⟩,
    ⟨some 4, none, .mov (.k (.bool false)), 0, 0, false, []⟩])
   (.seq (.seq (.seg false [⟨some 5, none, .faddr 0 1 (.t 2), 0, 0, false, []⟩,
    ⟨some 6, none, .load false 1 (.t 5), 0, 0, false, []⟩,
    ⟨some 7, none, .faddr 0 1 (.t 3), 0, 0, false, []⟩,
    ⟨some 8, none, .load false 1 (.t 7), 0, 0, false, []⟩,
    ⟨some 9, none, .bin .neq (.t 6) (.t 8), 0, 0, false, []⟩])
   (.cutTo [2, 3, 9] (.cond (.t 9) (.seq (.seg false [⟨some 4, none, .mov (.k (.bool false)), 0, 0, false, []⟩])
   (.ret))
   (.skip))))
   (.cutTo [2, 3] (.seq (.seq (.seg false [⟨some 10, none, .faddr 1 1 (.t 2), 0, 0, false, []⟩,
    ⟨some 11, none, .load false 1 (.t 10), 0, 0, false, []⟩,
    ⟨some 12, none, .faddr 1 1 (.t 3), 0, 0, false, []⟩,
    ⟨some 13, none, .load false 1 (.t 12), 0, 0, false, []⟩,
    ⟨some 14, none, .call 68 [.t 11, .t 13] false false, 0, 0, false, []⟩,
    ⟨some 15, none, .un .not (.t 14), 0, 0, false, []⟩])
   (.cutTo [15] (.cond (.t 15) (.seq (.seg false [⟨some 4, none, .mov (.k (.bool false)), 0, 0, false, []⟩])
   (.ret))
   (.skip))))
   (.cutTo [] (.seq (.seg false [⟨some 4, none, .mov (.k (.bool true)), 0, 0, false, []⟩])
   (.ret))))))⟩
/-- loop.example/tablehouse/laws.markEntry -/
def F21 : F := ⟨10, [(false, 4, 0, false)],
   .seq (.seg false [⟨some 2, none, .box (.t 0), 0, 0, false, []⟩,
    ⟨some 4, none, .mov (.k (.int .i64 0)), 0, 0, false, []⟩])
   (.seq (.seg false [⟨some 5, none, .faddr 1 1 (.t 2), 0, 0, false, []⟩,
    ⟨some 6, none, .load false 1 (.t 5), 0, 0, false, []⟩,
    ⟨some 7, none, .mov (.t 1), 0, 0, false, []⟩,
    ⟨some 8, none, .callx 2 69 [.t 6, .t 7], 0, 0, false, []⟩,
    ⟨some 1, none, .mov (.t 8), 0, 0, false, []⟩])
   (.cutTo [1] (.seq (.seg false [⟨some 9, none, .mov (.t 1), 0, 0, false, []⟩,
    ⟨some 4, none, .mov (.t 9), 0, 0, false, []⟩])
   (.ret))))⟩
def B22x0 : C := .seq (.seq (.seg false [⟨some 6, none, .mov (.t 5), 0, 0, false, []⟩,
    ⟨some 7, none, .mov (.t 0), 0, 0, false, []⟩,
    ⟨some 8, none, .len false (.t 7), 0, 0, false, []⟩,
    ⟨some 9, none, .bin .lss (.t 6) (.t 8), 0, 0, false, []⟩])
   (.cutTo [0, 1, 5, 9] (.cond (.t 9) (.skip)
   (.exit 0))))
   (.cutTo [0, 1, 5] (.seq (.block 1 (.seq (.seg false [⟨some 12, none, .mov (.t 0), 0, 0, false, []⟩,
    ⟨some 13, none, .mov (.t 5), 0, 0, false, []⟩,
    ⟨some 14, none, .mov (.t 1), 0, 0, false, []⟩,
    ⟨some 15, none, .conv (.int .u8) (.t 14), 0, 0, false, []⟩,
    ⟨some 16, none, .iaddr 1 (.t 12) (.t 13), 0, 0, false, []⟩,
    ⟨none, none, .store 1 (.t 16) (.t 15), 0, 0, false, []⟩])
   (.cutTo [0, 1, 5] (.seg false [⟨some 17, none, .mov (.t 1), 0, 0, false, []⟩,
    ⟨some 18, none, .bin .add (.t 17) (.k (.int .i64 1)), 0, 0, false, []⟩,
    ⟨some 1, none, .mov (.t 18), 0, 0, false, []⟩]))))
   (.cutTo [0, 1, 5] (.seg false [⟨some 10, none, .mov (.t 5), 0, 0, false, []⟩,
    ⟨some 11, none, .bin .add (.t 10) (.k (.int .i64 1)), 0, 0, false, []⟩,
    ⟨some 5, none, .mov (.t 11), 0, 0, false, []⟩]))))
def L22x0 : C := B22x0
theorem evL22x0 (run : Run) (draw : List I → Env → Heap → Option (Env × Heap)) (e : Env) (h : Heap) : evC run draw L22x0 e h = evC run draw B22x0 e h := rfl
/-- loop.example/tablehouse/laws.markByteS -/
def F22 : F := ⟨20, [(false, 4, 0, false)],
   .seq (.seg false [⟨some 4, none, .mov (.k (.int .i64 0)), 0, 0, false, []⟩])
   (.seq (.seq (.seg false [⟨some 5, none, .mov (.k (.int .i64 0)), 0, 0, false, []⟩])
   (.block 0 (.loopk [0, 1, 5] [1] L22x0)))
   (.seq (.seg false [⟨some 19, none, .mov (.t 1), 0, 0, false, []⟩,
    ⟨some 4, none, .mov (.t 19), 0, 0, false, []⟩])
   (.ret)))⟩
def B23x0 : C := .seq (.seq (.seg false [⟨some 6, none, .mov (.t 5), 0, 0, false, []⟩,
    ⟨some 7, none, .mov (.t 0), 0, 0, false, []⟩,
    ⟨some 8, none, .len false (.t 7), 0, 0, false, []⟩,
    ⟨some 9, none, .bin .lss (.t 6) (.t 8), 0, 0, false, []⟩])
   (.cutTo [0, 1, 5, 9] (.cond (.t 9) (.skip)
   (.exit 0))))
   (.cutTo [0, 1, 5] (.seq (.block 1 (.seq (.seq (.seg false [⟨some 12, none, .mov (.t 0), 0, 0, false, []⟩,
    ⟨some 13, none, .mov (.t 5), 0, 0, false, []⟩,
    ⟨some 14, none, .iaddr 1 (.t 12) (.t 13), 0, 0, false, []⟩,
    ⟨some 15, none, .load false 1 (.t 14), 0, 0, false, []⟩,
    ⟨some 16, none, .mov (.t 1), 0, 0, false, []⟩,
    ⟨some 17, none, .conv (.int .u8) (.t 16), 0, 0, false, []⟩,
    ⟨some 18, none, .bin .neq (.t 15) (.t 17), 0, 0, false, []⟩])
   (.cutTo [0, 1, 5, 18] (.cond (.t 18) (.seq (.seg false [⟨some 4, none, .mov (.k (.int .i64 (-1))), 0, 0, false, []⟩])
   (.ret))
   (.skip))))
   (.cutTo [0, 1, 5] (.seg false [⟨some 19, none, .mov (.t 1), 0, 0, false, []⟩,
    ⟨some 20, none, .bin .add (.t 19) (.k (.int .i64 1)), 0, 0, false, []⟩,
    ⟨some 1, none, .mov (.t 20), 0, 0, false, []⟩]))))
   (.cutTo [0, 1, 5] (.seg false [⟨some 10, none, .mov (.t 5), 0, 0, false, []⟩,
    ⟨some 11, none, .bin .add (.t 10) (.k (.int .i64 1)), 0, 0, false, []⟩,
    ⟨some 5, none, .mov (.t 11), 0, 0, false, []⟩]))))
def L23x0 : C := B23x0
theorem evL23x0 (run : Run) (draw : List I → Env → Heap → Option (Env × Heap)) (e : Env) (h : Heap) : evC run draw L23x0 e h = evC run draw B23x0 e h := rfl
/-- loop.example/tablehouse/laws.heldByteS -/
def F23 : F := ⟨22, [(false, 4, 0, false)],
   .seq (.seg false [⟨some 4, none, .mov (.k (.int .i64 0)), 0, 0, false, []⟩])
   (.seq (.seq (.seg false [⟨some 5, none, .mov (.k (.int .i64 0)), 0, 0, false, []⟩])
   (.block 0 (.loop [0, 1, 5] [1, 4] L23x0)))
   (.seq (.seg false [⟨some 21, none, .mov (.t 1), 0, 0, false, []⟩,
    ⟨some 4, none, .mov (.t 21), 0, 0, false, []⟩])
   (.ret)))⟩
def B40x0 : C := .seq (.seq (.seg false [⟨some 12, none, .mov (.t 5), 0, 0, false, []⟩,
    ⟨some 13, none, .mov (.t 0), 0, 0, false, []⟩,
    ⟨some 14, none, .len false (.t 13), 0, 0, false, []⟩,
    ⟨some 15, none, .bin .lss (.t 12) (.t 14), 0, 0, false, []⟩])
   (.cutTo [0, 1, 5, 15] (.cond (.t 15) (.skip)
   (.exit 0))))
   (.cutTo [0, 1, 5] (.seq (.block 1 (.seq (.seg false [⟨some 18, none, .mov (.t 0), 0, 0, false, []⟩,
    ⟨some 19, none, .mov (.t 5), 0, 0, false, []⟩,
    ⟨some 20, none, .iaddr 2 (.t 18) (.t 19), 0, 0, false, []⟩,
    ⟨some 21, none, .load true 2 (.t 20), 0, 0, false, []⟩,
    ⟨some 22, none, .mov (.t 1), 0, 0, false, []⟩,
    ⟨some 23, none, .call 15 [.t 21, .t 22] false false, 0, 0, false, []⟩,
    ⟨some 1, none, .mov (.t 23), 0, 0, false, []⟩])
   (.cutTo [0, 1, 5] (.seq (.seg false [⟨some 24, none, .mov (.t 1), 0, 0, false, []⟩,
    ⟨some 25, none, .bin .lss (.t 24) (.k (.int .i64 0)), 0, 0, false, []⟩])
   (.cond (.t 25) (.seq (.seg false [⟨some 4, none, .mov (.k (.int .i64 (-1))), 0, 0, false, []⟩])
   (.ret))
   (.skip))))))
   (.cutTo [0, 1, 5] (.seg false [⟨some 16, none, .mov (.t 5), 0, 0, false, []⟩,
    ⟨some 17, none, .bin .add (.t 16) (.k (.int .i64 1)), 0, 0, false, []⟩,
    ⟨some 5, none, .mov (.t 17), 0, 0, false, []⟩]))))
def L40x0 : C := B40x0
theorem evL40x0 (run : Run) (draw : List I → Env → Heap → Option (Env × Heap)) (e : Env) (h : Heap) : evC run draw L40x0 e h = evC run draw B40x0 e h := rfl
/-- loop.example/tablehouse/laws.szEntryS -/
def F40 : F := ⟨27, [(false, 4, 0, false)],
   .seq (.seg false [⟨some 4, none, .mov (.k (.int .i64 0)), 0, 0, false, []⟩])
   (.seq (.seg false [⟨some 6, none, .mov (.t 1), 0, 0, false, []⟩,
    ⟨some 7, none, .mov (.t 0), 0, 0, false, []⟩,
    ⟨some 8, none, .len false (.t 7), 0, 0, false, []⟩,
    ⟨some 9, none, .bin .sub (.t 6) (.t 8), 0, 0, false, []⟩,
    ⟨some 1, none, .mov (.t 9), 0, 0, false, []⟩])
   (.cutTo [0, 1] (.seq (.seq (.seg false [⟨some 10, none, .mov (.t 1), 0, 0, false, []⟩,
    ⟨some 11, none, .bin .lss (.t 10) (.k (.int .i64 0)), 0, 0, false, []⟩])
   (.cond (.t 11) (.seq (.seg false [⟨some 4, none, .mov (.k (.int .i64 (-1))), 0, 0, false, []⟩])
   (.ret))
   (.skip)))
   (.seq (.seq (.seg false [⟨some 5, none, .mov (.k (.int .i64 0)), 0, 0, false, []⟩])
   (.block 0 (.loop [0, 1, 5] [1, 4] L40x0)))
   (.seq (.seg false [⟨some 26, none, .mov (.t 1), 0, 0, false, []⟩,
    ⟨some 4, none, .mov (.t 26), 0, 0, false, []⟩])
   (.ret))))))⟩
def B42x0 : C := .seq (.seq (.seg false [⟨some 8, none, .mov (.t 4), 0, 0, false, []⟩,
    ⟨some 9, none, .mov (.t 0), 0, 0, false, []⟩,
    ⟨some 10, none, .len false (.t 9), 0, 0, false, []⟩,
    ⟨some 11, none, .bin .lss (.t 8) (.t 10), 0, 0, false, []⟩])
   (.cutTo [0, 3, 4, 11] (.cond (.t 11) (.skip)
   (.exit 0))))
   (.cutTo [0, 3, 4] (.seq (.block 1 (.seg false [⟨some 14, none, .mov (.t 3), 0, 0, false, []⟩,
    ⟨some 15, none, .mov (.t 4), 0, 0, false, []⟩,
    ⟨some 16, none, .mov (.t 0), 0, 0, false, []⟩,
    ⟨some 17, none, .mov (.t 4), 0, 0, false, []⟩,
    ⟨some 18, none, .iaddr 2 (.t 16) (.t 17), 0, 0, false, []⟩,
    ⟨some 19, none, .load true 2 (.t 18), 0, 0, false, []⟩,
    ⟨some 20, none, .callx 0 17 [.t 19], 0, 0, false, []⟩,
    ⟨some 21, none, .iaddr 2 (.t 14) (.t 15), 0, 0, false, []⟩,
    ⟨none, none, .store 2 (.t 21) (.t 20), 0, 0, false, []⟩]))
   (.cutTo [0, 3, 4] (.seg false [⟨some 12, none, .mov (.t 4), 0, 0, false, []⟩,
    ⟨some 13, none, .bin .add (.t 12) (.k (.int .i64 1)), 0, 0, false, []⟩,
    ⟨some 4, none, .mov (.t 13), 0, 0, false, []⟩]))))
def L42x0 : C := B42x0
theorem evL42x0 (run : Run) (draw : List I → Env → Heap → Option (Env × Heap)) (e : Env) (h : Heap) : evC run draw L42x0 e h = evC run draw B42x0 e h := rfl
/-- loop.example/tablehouse/laws.toEntryS -/
def F42 : F := ⟨23, [(false, 2, 0, false)],
   .seq (.seg false [⟨some 2, none, .mov (.k (.sl true 2 [])), 0, 0, false, []⟩])
   (.seq (.seg false [⟨some 5, none, .mov (.t 0), 0, 0, false, []⟩,
    ⟨some 6, none, .len false (.t 5), 0, 0, false, []⟩,
    ⟨some 7, none, .mkn 2 [.int .i64 0, .sl true 3 []] (.t 6), 0, 0, false, []⟩,
    ⟨some 3, none, .mov (.t 7), 0, 0, false, []⟩])
   (.cutTo [0, 3] (.seq (.seq (.seg false [⟨some 4, none, .mov (.k (.int .i64 0)), 0, 0, false, []⟩])
   (.block 0 (.loopk [0, 3, 4] [3] L42x0)))
   (.seq (.seg false [⟨some 22, none, .mov (.t 3), 0, 0, false, []⟩,
    ⟨some 2, none, .mov (.t 22), 0, 0, false, []⟩])
   (.ret)))))⟩
def B51x0 : C := .seq (.seq (.seg false [⟨some 6, none, .mov (.t 4), 0, 0, false, []⟩,
    ⟨some 7, none, .mov (.t 0), 0, 0, false, []⟩,
    ⟨some 8, none, .len false (.t 7), 0, 0, false, []⟩,
    ⟨some 9, none, .bin .lss (.t 6) (.t 8), 0, 0, false, []⟩,
    ⟨some 10, none, .mov (.t 9), 0, 0, false, []⟩,
    ⟨some 11, some (10, true), .mov (.t 0), 0, 0, false, []⟩,
    ⟨some 12, some (10, true), .call 63 [.t 11] false false, 0, 0, false, []⟩,
    ⟨some 13, none, .pick (.t 10) (.t 12) (.k (.bool false)), 0, 0, false, []⟩])
   (.cutTo [0, 3, 4, 13] (.cond (.t 13) (.skip)
   (.exit 0))))
   (.cutTo [0, 3, 4] (.seq (.block 1 (.seg false [⟨some 16, none, .mov (.t 3), 0, 0, false, []⟩,
    ⟨some 17, none, .mov (.t 0), 0, 0, false, []⟩,
    ⟨some 18, none, .mov (.t 4), 0, 0, false, []⟩,
    ⟨some 19, none, .iaddr 2 (.t 17) (.t 18), 0, 0, false, []⟩,
    ⟨some 20, none, .load true 2 (.t 19), 0, 0, false, []⟩,
    ⟨some 21, none, .call 16 [.t 20] false false, 0, 0, false, []⟩,
    ⟨some 22, none, .app 1 (.t 16) (.t 21), 0, 0, false, []⟩,
    ⟨some 3, none, .mov (.t 22), 0, 0, false, []⟩]))
   (.cutTo [0, 3, 4] (.seg false [⟨some 14, none, .mov (.t 4), 0, 0, false, []⟩,
    ⟨some 15, none, .bin .add (.t 14) (.k (.int .i64 1)), 0, 0, false, []⟩,
    ⟨some 4, none, .mov (.t 15), 0, 0, false, []⟩]))))
def L51x0 : C := B51x0
theorem evL51x0 (run : Run) (draw : List I → Env → Heap → Option (Env × Heap)) (e : Env) (h : Heap) : evC run draw L51x0 e h = evC run draw B51x0 e h := rfl
/-- loop.example/tablehouse/spec.LogBytes -/
def F51 : F := ⟨24, [(false, 2, 0, false)],
   .seq (.seg false [⟨some 2, none, .nilrow 1, 0, 0, false, []⟩])
   (.seq (.seg false [⟨some 5, none, .mksl true 1 [], 0, 0, false, []⟩,
    ⟨some 3, none, .mov (.t 5), 0, 0, false, []⟩])
   (.seq (.seq (.seg false [⟨some 4, none, .mov (.k (.int .i64 0)), 0, 0, false, []⟩])
   (.block 0 (.loop [0, 3, 4] [3] L51x0)))
   (.seq (.seg false [⟨some 23, none, .mov (.t 3), 0, 0, false, []⟩,
    ⟨some 2, none, .mov (.t 23), 0, 0, false, []⟩])
   (.ret))))⟩
def B30x0 : C := .seq (.seg false [⟨some 12, none, .bin .lss (.t 11) (.t 10), 0, 0, false, []⟩])
   (.seq (.cond (.t 12) (.skip)
   (.exit 0))
   (.seq (.block 1 (.seq (.seg false [⟨some 13, none, .iaddr 2 (.t 9) (.t 11), 0, 0, false, []⟩,
    ⟨some 14, none, .load true 2 (.t 13), 0, 0, false, []⟩,
    ⟨some 5, none, .alloc [.int .i64 0, .sl true 3 []], 0, 0, false, []⟩,
    ⟨none, none, .store 2 (.t 5) (.t 14), 0, 0, false, []⟩])
   (.cutTo [3, 5, 9, 10, 11] (.seg false [⟨some 15, none, .mov (.t 3), 0, 0, false, []⟩,
    ⟨some 16, none, .load true 2 (.t 5), 0, 0, false, []⟩,
    ⟨some 17, none, .callx 0 67 [.t 16], 0, 0, false, []⟩,
    ⟨some 18, none, .app 1 (.t 15) (.t 17), 0, 0, false, []⟩,
    ⟨some 3, none, .mov (.t 18), 0, 0, false, []⟩]))))
   (.cutTo [3, 9, 10, 11] (.seg false [⟨some 19, none, .bin .add (.t 11) (.k (.int .i64 1)), 0, 0, false, []⟩,
    ⟨some 11, none, .mov (.t 19), 0, 0, false, []⟩]))))
def L30x0 : C := B30x0
theorem evL30x0 (run : Run) (draw : List I → Env → Heap → Option (Env × Heap)) (e : Env) (h : Heap) : evC run draw L30x0 e h = evC run draw B30x0 e h := rfl
/-- loop.example/tablehouse/impl.LogBytes -/
def F30 : F := ⟨22, [(false, 2, 0, false)],
   .seq (.seg false [⟨some 2, none, .mov (.k (.sl true 1 [])), 0, 0, false, []⟩])
   (.seq (.seq (.seg false [⟨some 6, none, .mov (.t 0), 0, 0, false, []⟩,
    ⟨some 7, none, .call 25 [.t 6] false false, 0, 0, false, []⟩,
    ⟨some 8, none, .un .not (.t 7), 0, 0, false, []⟩])
   (.cond (.t 8) (.seq (.seg false [⟨some 2, none, .mov (.k (.sl true 1 [])), 0, 0, false, []⟩])
   (.ret))
   (.skip)))
   (.cutTo [0] (.seq (.seg false [⟨some 3, none, .nilrow 1, 0, 0, false, []⟩])
   (.seq (.seq (.seg false [⟨some 9, none, .mov (.t 0), 0, 0, false, []⟩,
    ⟨some 10, none, .len false (.t 9), 0, 0, false, []⟩,
    ⟨some 11, none, .mov (.k (.int .i64 0)), 0, 0, false, []⟩])
   (.block 0 (.loop [3, 9, 10, 11] [3] L30x0)))
   (.seq (.seg false [⟨some 20, none, .mov (.t 3), 0, 0, false, []⟩,
    ⟨some 21, none, .callx 0 80 [.t 20], 0, 0, false, []⟩,
    ⟨some 2, none, .mov (.t 21), 0, 0, false, []⟩])
   (.ret))))))⟩
def E37x0 : List I := [⟨some 17, none, .mov (.t 0), 0, 0, false, []⟩,
    ⟨some 18, none, .mov (.t 5), 0, 0, false, []⟩,
    ⟨some 19, none, .iaddr 2 (.t 17) (.t 18), 0, 0, false, []⟩,
    ⟨some 20, none, .load true 2 (.t 19), 0, 0, false, []⟩,
    ⟨some 21, none, .mov (.t 1), 0, 0, false, []⟩,
    ⟨some 22, none, .mov (.t 5), 0, 0, false, []⟩,
    ⟨some 23, none, .iaddr 2 (.t 21) (.t 22), 0, 0, false, []⟩,
    ⟨some 24, none, .load true 2 (.t 23), 0, 0, false, []⟩,
    ⟨some 25, none, .call 20 [.t 20, .t 24] false false, 0, 0, false, []⟩,
    ⟨some 26, none, .un .not (.t 25), 0, 0, false, []⟩]
def D37x0 : List I := E37x0
theorem evD37x0 (run : Run) (e : Env) (h : Heap) : drawI run D37x0 e h = DrawS (evQ run E37x0 e h) run E37x0 e h := drawI_quiet run _ (by rfl) e h
def B37x0 : C := .seq (.seq (.seg false [⟨some 11, none, .mov (.t 5), 0, 0, false, []⟩,
    ⟨some 12, none, .mov (.t 0), 0, 0, false, []⟩,
    ⟨some 13, none, .len false (.t 12), 0, 0, false, []⟩,
    ⟨some 14, none, .bin .lss (.t 11) (.t 13), 0, 0, false, []⟩])
   (.cutTo [0, 1, 5, 14] (.cond (.t 14) (.skip)
   (.exit 0))))
   (.cutTo [0, 1, 5] (.seq (.block 1 (.seq (.seg true D37x0)
   (.cutTo [0, 1, 5, 26] (.cond (.t 26) (.seq (.seg false [⟨some 4, none, .mov (.k (.bool false)), 0, 0, false, []⟩])
   (.ret))
   (.skip)))))
   (.cutTo [0, 1, 5] (.seg false [⟨some 15, none, .mov (.t 5), 0, 0, false, []⟩,
    ⟨some 16, none, .bin .add (.t 15) (.k (.int .i64 1)), 0, 0, false, []⟩,
    ⟨some 5, none, .mov (.t 16), 0, 0, false, []⟩]))))
def L37x0 : C := B37x0
theorem evL37x0 (run : Run) (draw : List I → Env → Heap → Option (Env × Heap)) (e : Env) (h : Heap) : evC run draw L37x0 e h = evC run draw B37x0 e h := rfl
/-- loop.example/tablehouse/laws.eqEntryS -/
def F37 : F := ⟨27, [(false, 4, 0, false)],
   .seq (.seg false [⟨some 4, none, .mov (.k (.bool false)), 0, 0, false, []⟩])
   (.seq (.seq (.seg false [⟨some 6, none, .mov (.t 0), 0, 0, false, []⟩,
    ⟨some 7, none, .len false (.t 6), 0, 0, false, []⟩,
    ⟨some 8, none, .mov (.t 1), 0, 0, false, []⟩,
    ⟨some 9, none, .len false (.t 8), 0, 0, false, []⟩,
    ⟨some 10, none, .bin .neq (.t 7) (.t 9), 0, 0, false, []⟩])
   (.cutTo [0, 1, 10] (.cond (.t 10) (.seq (.seg false [⟨some 4, none, .mov (.k (.bool false)), 0, 0, false, []⟩])
   (.ret))
   (.skip))))
   (.cutTo [0, 1] (.seq (.seq (.seg false [⟨some 5, none, .mov (.k (.int .i64 0)), 0, 0, false, []⟩])
   (.block 0 (.loop [0, 1, 5] [4] L37x0)))
   (.seq (.seg false [⟨some 4, none, .mov (.k (.bool true)), 0, 0, false, []⟩])
   (.ret)))))⟩
def B38x0 : C := .seq (.seq (.seg false [⟨some 6, none, .mov (.t 5), 0, 0, false, []⟩,
    ⟨some 7, none, .mov (.t 0), 0, 0, false, []⟩,
    ⟨some 8, none, .len false (.t 7), 0, 0, false, []⟩,
    ⟨some 9, none, .bin .lss (.t 6) (.t 8), 0, 0, false, []⟩])
   (.cutTo [0, 1, 5, 9] (.cond (.t 9) (.skip)
   (.exit 0))))
   (.cutTo [0, 1, 5] (.seq (.block 1 (.seq (.seg false [⟨some 12, none, .mov (.t 0), 0, 0, false, []⟩,
    ⟨some 13, none, .mov (.t 5), 0, 0, false, []⟩,
    ⟨some 14, none, .mov (.t 1), 0, 0, false, []⟩,
    ⟨some 15, none, .iaddr 2 (.t 12) (.t 13), 0, 0, false, []⟩,
    ⟨some 16, none, .faddr 0 1 (.t 15), 0, 0, false, []⟩,
    ⟨none, none, .store 1 (.t 16) (.t 14), 0, 0, false, []⟩])
   (.cutTo [0, 1, 5] (.seq (.seg false [⟨some 17, none, .mov (.t 1), 0, 0, false, []⟩,
    ⟨some 18, none, .bin .add (.t 17) (.k (.int .i64 1)), 0, 0, false, []⟩,
    ⟨some 1, none, .mov (.t 18), 0, 0, false, []⟩])
   (.seg false [⟨some 19, none, .mov (.t 0), 0, 0, false, []⟩,
    ⟨some 20, none, .mov (.t 5), 0, 0, false, []⟩,
    ⟨some 21, none, .iaddr 2 (.t 19) (.t 20), 0, 0, false, []⟩,
    ⟨some 22, none, .faddr 1 1 (.t 21), 0, 0, false, []⟩,
    ⟨some 23, none, .load false 1 (.t 22), 0, 0, false, []⟩,
    ⟨some 24, none, .mov (.t 1), 0, 0, false, []⟩,
    ⟨some 25, none, .callx 2 69 [.t 23, .t 24], 0, 0, false, []⟩,
    ⟨some 1, none, .mov (.t 25), 0, 0, false, []⟩])))))
   (.cutTo [0, 1, 5] (.seg false [⟨some 10, none, .mov (.t 5), 0, 0, false, []⟩,
    ⟨some 11, none, .bin .add (.t 10) (.k (.int .i64 1)), 0, 0, false, []⟩,
    ⟨some 5, none, .mov (.t 11), 0, 0, false, []⟩]))))
def L38x0 : C := B38x0
theorem evL38x0 (run : Run) (draw : List I → Env → Heap → Option (Env × Heap)) (e : Env) (h : Heap) : evC run draw L38x0 e h = evC run draw B38x0 e h := rfl
/-- loop.example/tablehouse/laws.markEntryS -/
def F38 : F := ⟨27, [(false, 4, 0, false)],
   .seq (.seg false [⟨some 4, none, .mov (.k (.int .i64 0)), 0, 0, false, []⟩])
   (.seq (.seq (.seg false [⟨some 5, none, .mov (.k (.int .i64 0)), 0, 0, false, []⟩])
   (.block 0 (.loopk [0, 1, 5] [1] L38x0)))
   (.seq (.seg false [⟨some 26, none, .mov (.t 1), 0, 0, false, []⟩,
    ⟨some 4, none, .mov (.t 26), 0, 0, false, []⟩])
   (.ret)))⟩
def B47x0 : C := .seq (.seq (.seg false [⟨some 8, none, .mov (.t 4), 0, 0, false, []⟩,
    ⟨some 9, none, .mov (.t 0), 0, 0, false, []⟩,
    ⟨some 10, none, .len false (.t 9), 0, 0, false, []⟩,
    ⟨some 11, none, .bin .lss (.t 8) (.t 10), 0, 0, false, []⟩])
   (.cutTo [0, 3, 4, 11] (.cond (.t 11) (.skip)
   (.exit 0))))
   (.cutTo [0, 3, 4] (.seq (.block 1 (.seg false [⟨some 14, none, .mov (.t 3), 0, 0, false, []⟩,
    ⟨some 15, none, .mov (.t 4), 0, 0, false, []⟩,
    ⟨some 16, none, .mov (.t 0), 0, 0, false, []⟩,
    ⟨some 17, none, .mov (.t 4), 0, 0, false, []⟩,
    ⟨some 18, none, .iaddr 1 (.t 16) (.t 17), 0, 0, false, []⟩,
    ⟨some 19, none, .load false 1 (.t 18), 0, 0, false, []⟩,
    ⟨some 20, none, .iaddr 1 (.t 14) (.t 15), 0, 0, false, []⟩,
    ⟨none, none, .store 1 (.t 20) (.t 19), 0, 0, false, []⟩]))
   (.cutTo [0, 3, 4] (.seg false [⟨some 12, none, .mov (.t 4), 0, 0, false, []⟩,
    ⟨some 13, none, .bin .add (.t 12) (.k (.int .i64 1)), 0, 0, false, []⟩,
    ⟨some 4, none, .mov (.t 13), 0, 0, false, []⟩]))))
def L47x0 : C := B47x0
theorem evL47x0 (run : Run) (draw : List I → Env → Heap → Option (Env × Heap)) (e : Env) (h : Heap) : evC run draw L47x0 e h = evC run draw B47x0 e h := rfl
/-- loop.example/tablehouse/laws.toIntS -/
def F47 : F := ⟨22, [(false, 2, 0, false)],
   .seq (.seg false [⟨some 2, none, .mov (.k (.sl true 1 [])), 0, 0, false, []⟩])
   (.seq (.seg false [⟨some 5, none, .mov (.t 0), 0, 0, false, []⟩,
    ⟨some 6, none, .len false (.t 5), 0, 0, false, []⟩,
    ⟨some 7, none, .mk 1 [.int .i64 0] (.t 6), 0, 0, false, []⟩,
    ⟨some 3, none, .mov (.t 7), 0, 0, false, []⟩])
   (.cutTo [0, 3] (.seq (.seq (.seg false [⟨some 4, none, .mov (.k (.int .i64 0)), 0, 0, false, []⟩])
   (.block 0 (.loopk [0, 3, 4] [3] L47x0)))
   (.seq (.seg false [⟨some 21, none, .mov (.t 3), 0, 0, false, []⟩,
    ⟨some 2, none, .mov (.t 21), 0, 0, false, []⟩])
   (.ret)))))⟩
def B46x0 : C := .seq (.seq (.seg false [⟨some 8, none, .mov (.t 6), 0, 0, false, []⟩,
    ⟨some 9, none, .mov (.t 1), 0, 0, false, []⟩,
    ⟨some 10, none, .len false (.t 9), 0, 0, false, []⟩,
    ⟨some 11, none, .bin .lss (.t 8) (.t 10), 0, 0, false, []⟩,
    ⟨some 12, none, .mov (.t 11), 0, 0, false, []⟩,
    ⟨some 13, some (12, true), .mov (.t 0), 0, 0, false, []⟩,
    ⟨some 14, some (12, true), .call 63 [.t 13] false false, 0, 0, false, []⟩,
    ⟨some 15, none, .pick (.t 12) (.t 14) (.k (.bool false)), 0, 0, false, []⟩])
   (.cutTo [0, 1, 5, 6, 15] (.cond (.t 15) (.skip)
   (.exit 0))))
   (.cutTo [0, 1, 5, 6] (.seq (.block 1 (.seq (.seg false [⟨some 18, none, .mov (.t 1), 0, 0, false, []⟩,
    ⟨some 19, none, .mov (.t 6), 0, 0, false, []⟩,
    ⟨some 20, none, .iaddr 1 (.t 18) (.t 19), 0, 0, false, []⟩,
    ⟨some 21, none, .load false 1 (.t 20), 0, 0, false, []⟩,
    ⟨some 22, none, .mov (.t 5), 0, 0, false, []⟩,
    ⟨some 23, none, .len false (.t 22), 0, 0, false, []⟩,
    ⟨some 24, none, .bin .eql (.t 21) (.t 23), 0, 0, false, []⟩,
    ⟨some 25, none, .mov (.t 24), 0, 0, false, []⟩,
    ⟨some 26, some (25, true), .mov (.t 1), 0, 0, false, []⟩,
    ⟨some 27, some (25, true), .mov (.t 6), 0, 0, false, []⟩,
    ⟨some 28, some (25, true), .iaddr 1 (.t 26) (.t 27), 0, 0, false, []⟩,
    ⟨some 29, some (25, true), .load false 1 (.t 28), 0, 0, false, []⟩,
    ⟨some 30, some (25, true), .mov (.t 0), 0, 0, false, []⟩,
    ⟨some 31, some (25, true), .len false (.t 30), 0, 0, false, []⟩,
    ⟨some 32, some (25, true), .bin .lss (.t 29) (.t 31), 0, 0, false, []⟩,
    ⟨some 33, none, .pick (.t 25) (.t 32) (.k (.bool false)), 0, 0, false, []⟩])
   (.cutTo [0, 1, 5, 6, 33] (.cond (.t 33) (.seg false [⟨some 34, none, .mov (.t 5), 0, 0, false, []⟩,
    ⟨some 35, none, .mov (.t 0), 0, 0, false, []⟩,
    ⟨some 36, none, .mov (.t 1), 0, 0, false, []⟩,
    ⟨some 37, none, .mov (.t 6), 0, 0, false, []⟩,
    ⟨some 38, none, .iaddr 1 (.t 36) (.t 37), 0, 0, false, []⟩,
    ⟨some 39, none, .load false 1 (.t 38), 0, 0, false, []⟩,
    ⟨some 40, none, .iaddr 2 (.t 35) (.t 39), 0, 0, false, []⟩,
    ⟨some 41, none, .load true 2 (.t 40), 0, 0, false, []⟩,
    ⟨some 42, none, .mksl false 2 [.t 41], 0, 0, false, []⟩,
    ⟨some 43, none, .app 2 (.t 34) (.t 42), 0, 0, false, []⟩,
    ⟨some 5, none, .mov (.t 43), 0, 0, false, []⟩])
   (.skip)))))
   (.cutTo [0, 1, 5, 6] (.seg false [⟨some 16, none, .mov (.t 6), 0, 0, false, []⟩,
    ⟨some 17, none, .bin .add (.t 16) (.k (.int .i64 1)), 0, 0, false, []⟩,
    ⟨some 6, none, .mov (.t 17), 0, 0, false, []⟩]))))
def L46x0 : C := B46x0
theorem evL46x0 (run : Run) (draw : List I → Env → Heap → Option (Env × Heap)) (e : Env) (h : Heap) : evC run draw L46x0 e h = evC run draw B46x0 e h := rfl
/-- loop.example/tablehouse/spec.Followed -/
def F46 : F := ⟨46, [(false, 4, 0, false)],
   .seq (.seg false [⟨some 4, none, .mov (.k (.sl true 2 [])), 0, 0, false, []⟩])
   (.seq (.seg false [⟨some 7, none, .mksl true 2 [], 0, 0, false, []⟩,
    ⟨some 5, none, .mov (.t 7), 0, 0, false, []⟩])
   (.seq (.seq (.seg false [⟨some 6, none, .mov (.k (.int .i64 0)), 0, 0, false, []⟩])
   (.block 0 (.loop [0, 1, 5, 6] [5] L46x0)))
   (.seq (.seg false [⟨some 44, none, .mov (.t 5), 0, 0, false, []⟩,
    ⟨some 45, none, .call 87 [.t 44] false false, 0, 0, false, []⟩,
    ⟨some 4, none, .mov (.t 45), 0, 0, false, []⟩])
   (.ret))))⟩
def B48x0 : C := .seq (.seg false [⟨some 14, none, .bin .lss (.t 13) (.t 12), 0, 0, false, []⟩])
   (.seq (.cond (.t 14) (.skip)
   (.exit 0))
   (.seq (.block 1 (.seq (.seg false [⟨some 15, none, .iaddr 1 (.t 11) (.t 13), 0, 0, false, []⟩,
    ⟨some 16, none, .load false 1 (.t 15), 0, 0, false, []⟩,
    ⟨some 7, none, .mov (.t 16), 0, 0, false, []⟩])
   (.seq (.seg false [⟨some 17, none, .mov (.t 7), 0, 0, false, []⟩,
    ⟨some 18, none, .mov (.t 5), 0, 0, false, []⟩,
    ⟨some 19, none, .bin .eql (.t 17) (.t 18), 0, 0, false, []⟩,
    ⟨some 20, none, .mov (.t 19), 0, 0, false, []⟩,
    ⟨some 21, some (20, true), .mov (.t 5), 0, 0, false, []⟩,
    ⟨some 22, some (20, true), .mov (.t 0), 0, 0, false, []⟩,
    ⟨some 23, some (20, true), .len false (.t 22), 0, 0, false, []⟩,
    ⟨some 24, some (20, true), .bin .lss (.t 21) (.t 23), 0, 0, false, []⟩,
    ⟨some 25, none, .pick (.t 20) (.t 24) (.k (.bool false)), 0, 0, false, []⟩])
   (.cutTo [0, 5, 11, 12, 13, 25] (.cond (.t 25) (.seg false [⟨some 26, none, .mov (.t 5), 0, 0, false, []⟩,
    ⟨some 27, none, .bin .add (.t 26) (.k (.int .i64 1)), 0, 0, false, []⟩,
    ⟨some 5, none, .mov (.t 27), 0, 0, false, []⟩])
   (.skip))))))
   (.cutTo [0, 5, 11, 12, 13] (.seg false [⟨some 28, none, .bin .add (.t 13) (.k (.int .i64 1)), 0, 0, false, []⟩,
    ⟨some 13, none, .mov (.t 28), 0, 0, false, []⟩]))))
def L48x0 : C := B48x0
theorem evL48x0 (run : Run) (draw : List I → Env → Heap → Option (Env × Heap)) (e : Env) (h : Heap) : evC run draw L48x0 e h = evC run draw B48x0 e h := rfl
/-- loop.example/tablehouse/impl.Followed -/
def F48 : F := ⟨33, [(false, 4, 0, false)],
   .seq (.seg false [⟨some 4, none, .mov (.k (.sl true 2 [])), 0, 0, false, []⟩])
   (.seq (.seq (.seg false [⟨some 8, none, .mov (.t 0), 0, 0, false, []⟩,
    ⟨some 9, none, .call 25 [.t 8] false false, 0, 0, false, []⟩,
    ⟨some 10, none, .un .not (.t 9), 0, 0, false, []⟩])
   (.cond (.t 10) (.seq (.seg false [⟨some 4, none, .mov (.k (.sl true 2 [])), 0, 0, false, []⟩])
   (.ret))
   (.skip)))
   (.cutTo [0, 1] (.seq (.seg false [⟨some 5, none, .mov (.k (.int .i64 0)), 0, 0, false, []⟩])
   (.seq (.seq (.seg false [⟨some 11, none, .mov (.t 1), 0, 0, false, []⟩,
    ⟨some 12, none, .len false (.t 11), 0, 0, false, []⟩,
    ⟨some 13, none, .mov (.k (.int .i64 0)), 0, 0, false, []⟩])
   (.block 0 (.loop [0, 5, 11, 12, 13] [0, 5] L48x0)))
   (.seq (.seg false [⟨some 29, none, .mov (.t 0), 0, 0, false, []⟩,
    ⟨some 30, none, .mov (.t 5), 0, 0, false, []⟩,
    ⟨some 31, none, .slc false 2 (.t 29) none (some (.t 30)) none, 0, 0, false, []⟩,
    ⟨some 32, none, .callx 0 88 [.t 31], 0, 0, false, []⟩,
    ⟨some 4, none, .mov (.t 32), 0, 0, false, []⟩])
   (.cutTo [4] (.ret)))))))⟩
def E49x0 : List I := [⟨some 17, none, .mov (.t 0), 0, 0, false, []⟩,
    ⟨some 18, none, .mov (.t 5), 0, 0, false, []⟩,
    ⟨some 19, none, .iaddr 1 (.t 17) (.t 18), 0, 0, false, []⟩,
    ⟨some 20, none, .load false 1 (.t 19), 0, 0, false, []⟩,
    ⟨some 21, none, .mov (.t 1), 0, 0, false, []⟩,
    ⟨some 22, none, .mov (.t 5), 0, 0, false, []⟩,
    ⟨some 23, none, .iaddr 1 (.t 21) (.t 22), 0, 0, false, []⟩,
    ⟨some 24, none, .load false 1 (.t 23), 0, 0, false, []⟩,
    ⟨some 25, none, .bin .neq (.t 20) (.t 24), 0, 0, false, []⟩]
def D49x0 : List I := E49x0
theorem evD49x0 (run : Run) (e : Env) (h : Heap) : drawI run D49x0 e h = DrawS (evQ run E49x0 e h) run E49x0 e h := drawI_quiet run _ (by rfl) e h
def B49x0 : C := .seq (.seq (.seg false [⟨some 11, none, .mov (.t 5), 0, 0, false, []⟩,
    ⟨some 12, none, .mov (.t 0), 0, 0, false, []⟩,
    ⟨some 13, none, .len false (.t 12), 0, 0, false, []⟩,
    ⟨some 14, none, .bin .lss (.t 11) (.t 13), 0, 0, false, []⟩])
   (.cutTo [0, 1, 5, 14] (.cond (.t 14) (.skip)
   (.exit 0))))
   (.cutTo [0, 1, 5] (.seq (.block 1 (.seq (.seg true D49x0)
   (.cutTo [0, 1, 5, 25] (.cond (.t 25) (.seq (.seg false [⟨some 4, none, .mov (.k (.bool false)), 0, 0, false, []⟩])
   (.ret))
   (.skip)))))
   (.cutTo [0, 1, 5] (.seg false [⟨some 15, none, .mov (.t 5), 0, 0, false, []⟩,
    ⟨some 16, none, .bin .add (.t 15) (.k (.int .i64 1)), 0, 0, false, []⟩,
    ⟨some 5, none, .mov (.t 16), 0, 0, false, []⟩]))))
def L49x0 : C := B49x0
theorem evL49x0 (run : Run) (draw : List I → Env → Heap → Option (Env × Heap)) (e : Env) (h : Heap) : evC run draw L49x0 e h = evC run draw B49x0 e h := rfl
/-- loop.example/tablehouse/laws.eqIntS -/
def F49 : F := ⟨26, [(false, 4, 0, false)],
   .seq (.seg false [⟨some 4, none, .mov (.k (.bool false)), 0, 0, false, []⟩])
   (.seq (.seq (.seg false [⟨some 6, none, .mov (.t 0), 0, 0, false, []⟩,
    ⟨some 7, none, .len false (.t 6), 0, 0, false, []⟩,
    ⟨some 8, none, .mov (.t 1), 0, 0, false, []⟩,
    ⟨some 9, none, .len false (.t 8), 0, 0, false, []⟩,
    ⟨some 10, none, .bin .neq (.t 7) (.t 9), 0, 0, false, []⟩])
   (.cutTo [0, 1, 10] (.cond (.t 10) (.seq (.seg false [⟨some 4, none, .mov (.k (.bool false)), 0, 0, false, []⟩])
   (.ret))
   (.skip))))
   (.cutTo [0, 1] (.seq (.seq (.seg false [⟨some 5, none, .mov (.k (.int .i64 0)), 0, 0, false, []⟩])
   (.block 0 (.loop [0, 1, 5] [4] L49x0)))
   (.seq (.seg false [⟨some 4, none, .mov (.k (.bool true)), 0, 0, false, []⟩])
   (.ret)))))⟩
def B50x0 : C := .seq (.seq (.seg false [⟨some 6, none, .mov (.t 5), 0, 0, false, []⟩,
    ⟨some 7, none, .mov (.t 0), 0, 0, false, []⟩,
    ⟨some 8, none, .len false (.t 7), 0, 0, false, []⟩,
    ⟨some 9, none, .bin .lss (.t 6) (.t 8), 0, 0, false, []⟩])
   (.cutTo [0, 1, 5, 9] (.cond (.t 9) (.skip)
   (.exit 0))))
   (.cutTo [0, 1, 5] (.seq (.block 1 (.seq (.seg false [⟨some 12, none, .mov (.t 0), 0, 0, false, []⟩,
    ⟨some 13, none, .mov (.t 5), 0, 0, false, []⟩,
    ⟨some 14, none, .mov (.t 1), 0, 0, false, []⟩,
    ⟨some 15, none, .iaddr 1 (.t 12) (.t 13), 0, 0, false, []⟩,
    ⟨none, none, .store 1 (.t 15) (.t 14), 0, 0, false, []⟩])
   (.cutTo [0, 1, 5] (.seg false [⟨some 16, none, .mov (.t 1), 0, 0, false, []⟩,
    ⟨some 17, none, .bin .add (.t 16) (.k (.int .i64 1)), 0, 0, false, []⟩,
    ⟨some 1, none, .mov (.t 17), 0, 0, false, []⟩]))))
   (.cutTo [0, 1, 5] (.seg false [⟨some 10, none, .mov (.t 5), 0, 0, false, []⟩,
    ⟨some 11, none, .bin .add (.t 10) (.k (.int .i64 1)), 0, 0, false, []⟩,
    ⟨some 5, none, .mov (.t 11), 0, 0, false, []⟩]))))
def L50x0 : C := B50x0
theorem evL50x0 (run : Run) (draw : List I → Env → Heap → Option (Env × Heap)) (e : Env) (h : Heap) : evC run draw L50x0 e h = evC run draw B50x0 e h := rfl
/-- loop.example/tablehouse/laws.markIntS -/
def F50 : F := ⟨19, [(false, 4, 0, false)],
   .seq (.seg false [⟨some 4, none, .mov (.k (.int .i64 0)), 0, 0, false, []⟩])
   (.seq (.seq (.seg false [⟨some 5, none, .mov (.k (.int .i64 0)), 0, 0, false, []⟩])
   (.block 0 (.loopk [0, 1, 5] [1] L50x0)))
   (.seq (.seg false [⟨some 18, none, .mov (.t 1), 0, 0, false, []⟩,
    ⟨some 4, none, .mov (.t 18), 0, 0, false, []⟩])
   (.ret)))⟩
def B39x0 : C := .seq (.seq (.seg false [⟨some 6, none, .mov (.t 5), 0, 0, false, []⟩,
    ⟨some 7, none, .mov (.t 0), 0, 0, false, []⟩,
    ⟨some 8, none, .len false (.t 7), 0, 0, false, []⟩,
    ⟨some 9, none, .bin .lss (.t 6) (.t 8), 0, 0, false, []⟩])
   (.cutTo [0, 1, 5, 9] (.cond (.t 9) (.skip)
   (.exit 0))))
   (.cutTo [0, 1, 5] (.seq (.block 1 (.seq (.seq (.seg false [⟨some 12, none, .mov (.t 0), 0, 0, false, []⟩,
    ⟨some 13, none, .mov (.t 5), 0, 0, false, []⟩,
    ⟨some 14, none, .iaddr 2 (.t 12) (.t 13), 0, 0, false, []⟩,
    ⟨some 15, none, .faddr 0 1 (.t 14), 0, 0, false, []⟩,
    ⟨some 16, none, .load false 1 (.t 15), 0, 0, false, []⟩,
    ⟨some 17, none, .mov (.t 1), 0, 0, false, []⟩,
    ⟨some 18, none, .bin .neq (.t 16) (.t 17), 0, 0, false, []⟩])
   (.cutTo [0, 1, 5, 18] (.cond (.t 18) (.seq (.seg false [⟨some 4, none, .mov (.k (.int .i64 (-1))), 0, 0, false, []⟩])
   (.ret))
   (.skip))))
   (.cutTo [0, 1, 5] (.seq (.seg false [⟨some 19, none, .mov (.t 1), 0, 0, false, []⟩,
    ⟨some 20, none, .bin .add (.t 19) (.k (.int .i64 1)), 0, 0, false, []⟩,
    ⟨some 1, none, .mov (.t 20), 0, 0, false, []⟩])
   (.seq (.seg false [⟨some 21, none, .mov (.t 0), 0, 0, false, []⟩,
    ⟨some 22, none, .mov (.t 5), 0, 0, false, []⟩,
    ⟨some 23, none, .iaddr 2 (.t 21) (.t 22), 0, 0, false, []⟩,
    ⟨some 24, none, .faddr 1 1 (.t 23), 0, 0, false, []⟩,
    ⟨some 25, none, .load false 1 (.t 24), 0, 0, false, []⟩,
    ⟨some 26, none, .mov (.t 1), 0, 0, false, []⟩,
    ⟨some 27, none, .call 86 [.t 25, .t 26] false false, 0, 0, false, []⟩,
    ⟨some 1, none, .mov (.t 27), 0, 0, false, []⟩])
   (.cutTo [0, 1, 5] (.seq (.seg false [⟨some 28, none, .mov (.t 1), 0, 0, false, []⟩,
    ⟨some 29, none, .bin .lss (.t 28) (.k (.int .i64 0)), 0, 0, false, []⟩])
   (.cond (.t 29) (.seq (.seg false [⟨some 4, none, .mov (.k (.int .i64 (-1))), 0, 0, false, []⟩])
   (.ret))
   (.skip)))))))))
   (.cutTo [0, 1, 5] (.seg false [⟨some 10, none, .mov (.t 5), 0, 0, false, []⟩,
    ⟨some 11, none, .bin .add (.t 10) (.k (.int .i64 1)), 0, 0, false, []⟩,
    ⟨some 5, none, .mov (.t 11), 0, 0, false, []⟩]))))
def L39x0 : C := B39x0
theorem evL39x0 (run : Run) (draw : List I → Env → Heap → Option (Env × Heap)) (e : Env) (h : Heap) : evC run draw L39x0 e h = evC run draw B39x0 e h := rfl
/-- loop.example/tablehouse/laws.heldEntryS -/
def F39 : F := ⟨31, [(false, 4, 0, false)],
   .seq (.seg false [⟨some 4, none, .mov (.k (.int .i64 0)), 0, 0, false, []⟩])
   (.seq (.seq (.seg false [⟨some 5, none, .mov (.k (.int .i64 0)), 0, 0, false, []⟩])
   (.block 0 (.loop [0, 1, 5] [1, 4] L39x0)))
   (.seq (.seg false [⟨some 30, none, .mov (.t 1), 0, 0, false, []⟩,
    ⟨some 4, none, .mov (.t 30), 0, 0, false, []⟩])
   (.ret)))⟩
def E41x0 : List I := [⟨some 16, none, .mov (.t 1), 0, 0, false, []⟩,
    ⟨some 17, none, .mov (.t 7), 0, 0, false, []⟩,
    ⟨some 18, none, .iaddr 2 (.t 16) (.t 17), 0, 0, false, []⟩,
    ⟨some 19, none, .faddr 0 1 (.t 18), 0, 0, false, []⟩,
    ⟨some 20, none, .load false 1 (.t 19), 0, 0, false, []⟩,
    ⟨some 21, none, .faddr 0 1 (.t 2), 0, 0, false, []⟩,
    ⟨some 22, none, .load false 1 (.t 21), 0, 0, false, []⟩,
    ⟨some 23, none, .bin .gtr (.t 20) (.t 22), 0, 0, false, []⟩]
def D41x0 : List I := E41x0
theorem evD41x0 (run : Run) (e : Env) (h : Heap) : drawI run D41x0 e h = DrawS (evQ run E41x0 e h) run E41x0 e h := drawI_quiet run _ (by rfl) e h
def B41x0 : C := .seq (.seq (.seg false [⟨some 10, none, .mov (.t 7), 0, 0, false, []⟩,
    ⟨some 11, none, .mov (.t 1), 0, 0, false, []⟩,
    ⟨some 12, none, .len false (.t 11), 0, 0, false, []⟩,
    ⟨some 13, none, .bin .lss (.t 10) (.t 12), 0, 0, false, []⟩])
   (.cutTo [1, 2, 6, 7, 13] (.cond (.t 13) (.skip)
   (.exit 0))))
   (.cutTo [1, 2, 6, 7] (.seq (.block 1 (.seq (.seg true D41x0)
   (.cutTo [1, 2, 6, 7, 23] (.cond (.t 23) (.seg false [⟨some 24, none, .mov (.t 6), 0, 0, false, []⟩,
    ⟨some 25, none, .mov (.t 1), 0, 0, false, []⟩,
    ⟨some 26, none, .mov (.t 7), 0, 0, false, []⟩,
    ⟨some 27, none, .iaddr 2 (.t 25) (.t 26), 0, 0, false, []⟩,
    ⟨some 28, none, .load true 2 (.t 27), 0, 0, false, []⟩,
    ⟨some 29, none, .mksl false 2 [.t 28], 0, 0, false, []⟩,
    ⟨some 30, none, .app 2 (.t 24) (.t 29), 0, 0, false, []⟩,
    ⟨some 6, none, .mov (.t 30), 0, 0, false, []⟩])
   (.skip)))))
   (.cutTo [1, 2, 6, 7] (.seg false [⟨some 14, none, .mov (.t 7), 0, 0, false, []⟩,
    ⟨some 15, none, .bin .add (.t 14) (.k (.int .i64 1)), 0, 0, false, []⟩,
    ⟨some 7, none, .mov (.t 15), 0, 0, false, []⟩]))))
def L41x0 : C := B41x0
theorem evL41x0 (run : Run) (draw : List I → Env → Heap → Option (Env × Heap)) (e : Env) (h : Heap) : evC run draw L41x0 e h = evC run draw B41x0 e h := rfl
/-- loop.example/tablehouse/spec.LogBehind -/
def F41 : F := ⟨42, [(false, 4, 0, false), (false, 5, 0, false)],
   .seq (.seg false [⟨some 2, none, .box (.t 0), 0, 0, false, []⟩,
    ⟨some 4, none, .mov (.k (.sl true 2 [])), 0, 0, false, []⟩,
    ⟨some 5, none, .mov (.k (.bool false)), 0, 0, false, []⟩])
   (.seq (.seg false [⟨some 8, none, .load true 2 (.t 2), 0, 0, false, []⟩,
    ⟨some 9, none, .mksl true 2 [.t 8], 0, 0, false, []⟩,
    ⟨some 6, none, .mov (.t 9), 0, 0, false, []⟩])
   (.seq (.seq (.seg false [⟨some 7, none, .mov (.k (.int .i64 0)), 0, 0, false, []⟩])
   (.block 0 (.loop [1, 2, 6, 7] [1, 6] L41x0)))
   (.seq (.seq (.seg false [⟨some 31, none, .mov (.t 1), 0, 0, false, []⟩,
    ⟨some 32, none, .call 63 [.t 31] false false, 0, 0, false, []⟩,
    ⟨some 33, none, .un .not (.t 32), 0, 0, false, []⟩,
    ⟨some 34, none, .mov (.t 33), 0, 0, false, []⟩,
    ⟨some 35, some (34, false), .mov (.t 6), 0, 0, false, []⟩,
    ⟨some 36, some (34, false), .call 63 [.t 35] false false, 0, 0, false, []⟩,
    ⟨some 37, some (34, false), .un .not (.t 36), 0, 0, false, []⟩,
    ⟨some 38, none, .pick (.t 34) (.k (.bool true)) (.t 37), 0, 0, false, []⟩])
   (.cutTo [6, 38] (.cond (.t 38) (.seq (.seg false [⟨some 39, none, .mksl false 2 [], 0, 0, false, []⟩,
    ⟨some 4, none, .mov (.t 39), 0, 0, false, []⟩,
    ⟨some 5, none, .mov (.k (.bool false)), 0, 0, false, []⟩])
   (.ret))
   (.skip))))
   (.cutTo [6] (.seq (.seg false [⟨some 40, none, .mov (.t 6), 0, 0, false, []⟩,
    ⟨some 41, none, .call 87 [.t 40] false false, 0, 0, false, []⟩,
    ⟨some 4, none, .mov (.t 41), 0, 0, false, []⟩,
    ⟨some 5, none, .mov (.k (.bool true)), 0, 0, false, []⟩])
   (.cutTo [4, 5] (.ret)))))))⟩
def B43x0 : C := .seq (.seg false [⟨some 23, none, .bin .lss (.t 22) (.t 21), 0, 0, false, []⟩])
   (.seq (.cond (.t 23) (.skip)
   (.exit 0))
   (.seq (.block 1 (.seq (.seg false [⟨some 24, none, .iaddr 2 (.t 20) (.t 22), 0, 0, false, []⟩,
    ⟨some 25, none, .load true 2 (.t 24), 0, 0, false, []⟩,
    ⟨some 8, none, .alloc [.int .i64 0, .sl true 3 []], 0, 0, false, []⟩,
    ⟨none, none, .store 2 (.t 8) (.t 25), 0, 0, false, []⟩])
   (.cutTo [2, 6, 8, 20, 21, 22] (.seq (.seg false [⟨some 26, none, .faddr 0 1 (.t 8), 0, 0, false, []⟩,
    ⟨some 27, none, .load false 1 (.t 26), 0, 0, false, []⟩,
    ⟨some 28, none, .faddr 0 1 (.t 2), 0, 0, false, []⟩,
    ⟨some 29, none, .load false 1 (.t 28), 0, 0, false, []⟩,
    ⟨some 30, none, .bin .gtr (.t 27) (.t 29), 0, 0, false, []⟩])
   (.cutTo [2, 6, 8, 20, 21, 22, 30] (.cond (.t 30) (.seg false [⟨some 31, none, .mov (.t 6), 0, 0, false, []⟩,
    ⟨some 32, none, .load true 2 (.t 8), 0, 0, false, []⟩,
    ⟨some 33, none, .mksl false 2 [.t 32], 0, 0, false, []⟩,
    ⟨some 34, none, .app 2 (.t 31) (.t 33), 0, 0, false, []⟩,
    ⟨some 6, none, .mov (.t 34), 0, 0, false, []⟩])
   (.skip)))))))
   (.cutTo [2, 6, 20, 21, 22] (.seg false [⟨some 35, none, .bin .add (.t 22) (.k (.int .i64 1)), 0, 0, false, []⟩,
    ⟨some 22, none, .mov (.t 35), 0, 0, false, []⟩]))))
def L43x0 : C := B43x0
theorem evL43x0 (run : Run) (draw : List I → Env → Heap → Option (Env × Heap)) (e : Env) (h : Heap) : evC run draw L43x0 e h = evC run draw B43x0 e h := rfl
/-- loop.example/tablehouse/impl.LogBehind -/
def F43 : F := ⟨41, [(false, 4, 0, false), (false, 5, 0, false)],
   .seq (.seg false [⟨some 2, none, .box (.t 0), 0, 0, false, []⟩,
    ⟨some 4, none, .mov (.k (.sl true 2 [])), 0, 0, false, []⟩,
    ⟨some 5, none, .mov (.k (.bool false)), 0, 0, false, []⟩])
   (.seq (.seq (.seg false [⟨some 9, none, .load true 2 (.t 2), 0, 0, false, []⟩,
    ⟨some 10, none, .mksl false 2 [.t 9], 0, 0, false, []⟩,
    ⟨some 11, none, .call 25 [.t 10] false false, 0, 0, false, []⟩,
    ⟨some 12, none, .un .not (.t 11), 0, 0, false, []⟩,
    ⟨some 13, none, .mov (.t 12), 0, 0, false, []⟩,
    ⟨some 14, some (13, false), .mov (.t 1), 0, 0, false, []⟩,
    ⟨some 15, some (13, false), .call 25 [.t 14] false false, 0, 0, false, []⟩,
    ⟨some 16, some (13, false), .un .not (.t 15), 0, 0, false, []⟩,
    ⟨some 17, none, .pick (.t 13) (.k (.bool true)) (.t 16), 0, 0, false, []⟩])
   (.cutTo [1, 2, 17] (.cond (.t 17) (.seq (.seg false [⟨some 4, none, .mov (.k (.sl true 2 [])), 0, 0, false, []⟩,
    ⟨some 5, none, .mov (.k (.bool false)), 0, 0, false, []⟩])
   (.ret))
   (.skip))))
   (.cutTo [1, 2] (.seq (.seg false [⟨some 18, none, .load true 2 (.t 2), 0, 0, false, []⟩,
    ⟨some 19, none, .mksl true 2 [.t 18], 0, 0, false, []⟩,
    ⟨some 6, none, .mov (.t 19), 0, 0, false, []⟩])
   (.seq (.seq (.seg false [⟨some 20, none, .mov (.t 1), 0, 0, false, []⟩,
    ⟨some 21, none, .len false (.t 20), 0, 0, false, []⟩,
    ⟨some 22, none, .mov (.k (.int .i64 0)), 0, 0, false, []⟩])
   (.block 0 (.loop [2, 6, 20, 21, 22] [6] L43x0)))
   (.seq (.seq (.seg false [⟨some 36, none, .mov (.t 6), 0, 0, false, []⟩,
    ⟨some 37, none, .len false (.t 36), 0, 0, false, []⟩,
    ⟨some 38, none, .bin .gtr (.t 37) (.k (.int .i64 12)), 0, 0, false, []⟩])
   (.cond (.t 38) (.seq (.seg false [⟨some 4, none, .mov (.k (.sl true 2 [])), 0, 0, false, []⟩,
    ⟨some 5, none, .mov (.k (.bool false)), 0, 0, false, []⟩])
   (.ret))
   (.skip)))
   (.cutTo [6] (.seq (.seg false [⟨some 39, none, .mov (.t 6), 0, 0, false, []⟩,
    ⟨some 40, none, .callx 0 88 [.t 39], 0, 0, false, []⟩,
    ⟨some 4, none, .mov (.t 40), 0, 0, false, []⟩,
    ⟨some 5, none, .mov (.k (.bool true)), 0, 0, false, []⟩])
   (.cutTo [4, 5] (.ret)))))))))⟩
def B44x0 : C := .seq (.seq (.seg false [⟨some 8, none, .mov (.t 6), 0, 0, false, []⟩,
    ⟨some 9, none, .mov (.t 0), 0, 0, false, []⟩,
    ⟨some 10, none, .len false (.t 9), 0, 0, false, []⟩,
    ⟨some 11, none, .bin .lss (.t 8) (.t 10), 0, 0, false, []⟩,
    ⟨some 12, none, .mov (.t 11), 0, 0, false, []⟩,
    ⟨some 13, some (12, true), .mov (.t 0), 0, 0, false, []⟩,
    ⟨some 14, some (12, true), .call 63 [.t 13] false false, 0, 0, false, []⟩,
    ⟨some 15, none, .pick (.t 12) (.t 14) (.k (.bool false)), 0, 0, false, []⟩])
   (.cutTo [0, 1, 5, 6, 15] (.cond (.t 15) (.skip)
   (.exit 0))))
   (.cutTo [0, 1, 5, 6] (.seq (.block 1 (.seq (.seg false [⟨some 18, none, .mov (.t 0), 0, 0, false, []⟩,
    ⟨some 19, none, .mov (.t 6), 0, 0, false, []⟩,
    ⟨some 20, none, .iaddr 2 (.t 18) (.t 19), 0, 0, false, []⟩,
    ⟨some 21, none, .faddr 0 1 (.t 20), 0, 0, false, []⟩,
    ⟨some 22, none, .load false 1 (.t 21), 0, 0, false, []⟩,
    ⟨some 23, none, .mov (.t 1), 0, 0, false, []⟩,
    ⟨some 24, none, .bin .leq (.t 22) (.t 23), 0, 0, false, []⟩])
   (.cutTo [0, 1, 5, 6, 24] (.cond (.t 24) (.seg false [⟨some 25, none, .mov (.t 5), 0, 0, false, []⟩,
    ⟨some 26, none, .mov (.t 0), 0, 0, false, []⟩,
    ⟨some 27, none, .mov (.t 6), 0, 0, false, []⟩,
    ⟨some 28, none, .iaddr 2 (.t 26) (.t 27), 0, 0, false, []⟩,
    ⟨some 29, none, .load true 2 (.t 28), 0, 0, false, []⟩,
    ⟨some 30, none, .mksl false 2 [.t 29], 0, 0, false, []⟩,
    ⟨some 31, none, .app 2 (.t 25) (.t 30), 0, 0, false, []⟩,
    ⟨some 5, none, .mov (.t 31), 0, 0, false, []⟩])
   (.skip)))))
   (.cutTo [0, 1, 5, 6] (.seg false [⟨some 16, none, .mov (.t 6), 0, 0, false, []⟩,
    ⟨some 17, none, .bin .add (.t 16) (.k (.int .i64 1)), 0, 0, false, []⟩,
    ⟨some 6, none, .mov (.t 17), 0, 0, false, []⟩]))))
def L44x0 : C := B44x0
theorem evL44x0 (run : Run) (draw : List I → Env → Heap → Option (Env × Heap)) (e : Env) (h : Heap) : evC run draw L44x0 e h = evC run draw B44x0 e h := rfl
/-- loop.example/tablehouse/spec.LogCut -/
def F44 : F := ⟨34, [(false, 4, 0, false)],
   .seq (.seg false [⟨some 4, none, .mov (.k (.sl true 2 [])), 0, 0, false, []⟩])
   (.seq (.seg false [⟨some 7, none, .mksl true 2 [], 0, 0, false, []⟩,
    ⟨some 5, none, .mov (.t 7), 0, 0, false, []⟩])
   (.seq (.seq (.seg false [⟨some 6, none, .mov (.k (.int .i64 0)), 0, 0, false, []⟩])
   (.block 0 (.loop [0, 1, 5, 6] [5] L44x0)))
   (.seq (.seg false [⟨some 32, none, .mov (.t 5), 0, 0, false, []⟩,
    ⟨some 33, none, .call 87 [.t 32] false false, 0, 0, false, []⟩,
    ⟨some 4, none, .mov (.t 33), 0, 0, false, []⟩])
   (.ret))))⟩
/-- loop.example/tablehouse/impl.LogCut -/
def F45 : F := ⟨11, [(false, 4, 0, false)],
   .seq (.seg false [⟨some 4, none, .mov (.k (.sl true 2 [])), 0, 0, false, []⟩])
   (.seq (.seq (.seg false [⟨some 5, none, .mov (.t 0), 0, 0, false, []⟩,
    ⟨some 6, none, .call 25 [.t 5] false false, 0, 0, false, []⟩,
    ⟨some 7, none, .un .not (.t 6), 0, 0, false, []⟩])
   (.cond (.t 7) (.seq (.seg false [⟨some 4, none, .mov (.k (.sl true 2 [])), 0, 0, false, []⟩])
   (.ret))
   (.skip)))
   (.cutTo [0, 1] (.seq (.seg false [⟨some 8, none, .mov (.t 0), 0, 0, false, []⟩,
    ⟨some 9, none, .mov (.t 1), 0, 0, false, []⟩,
    ⟨some 10, none, .callx 0 89 [.t 8, .t 9], 0, 0, false, []⟩,
    ⟨some 4, none, .mov (.t 10), 0, 0, false, []⟩])
   (.cutTo [4] (.ret)))))⟩
def B36x0 : C := .seq (.seq (.seg false [⟨some 8, none, .mov (.t 4), 0, 0, false, []⟩,
    ⟨some 9, none, .mov (.t 0), 0, 0, false, []⟩,
    ⟨some 10, none, .len false (.t 9), 0, 0, false, []⟩,
    ⟨some 11, none, .bin .lss (.t 8) (.t 10), 0, 0, false, []⟩])
   (.cutTo [0, 3, 4, 11] (.cond (.t 11) (.skip)
   (.exit 0))))
   (.cutTo [0, 3, 4] (.seq (.block 1 (.seg false [⟨some 14, none, .mov (.t 3), 0, 0, false, []⟩,
    ⟨some 15, none, .mov (.t 4), 0, 0, false, []⟩,
    ⟨some 16, none, .mov (.t 0), 0, 0, false, []⟩,
    ⟨some 17, none, .mov (.t 4), 0, 0, false, []⟩,
    ⟨some 18, none, .iaddr 1 (.t 16) (.t 17), 0, 0, false, []⟩,
    ⟨some 19, none, .load false 1 (.t 18), 0, 0, false, []⟩,
    ⟨some 20, none, .iaddr 1 (.t 14) (.t 15), 0, 0, false, []⟩,
    ⟨none, none, .store 1 (.t 20) (.t 19), 0, 0, false, []⟩]))
   (.cutTo [0, 3, 4] (.seg false [⟨some 12, none, .mov (.t 4), 0, 0, false, []⟩,
    ⟨some 13, none, .bin .add (.t 12) (.k (.int .i64 1)), 0, 0, false, []⟩,
    ⟨some 4, none, .mov (.t 13), 0, 0, false, []⟩]))))
def L36x0 : C := B36x0
theorem evL36x0 (run : Run) (draw : List I → Env → Heap → Option (Env × Heap)) (e : Env) (h : Heap) : evC run draw L36x0 e h = evC run draw B36x0 e h := rfl
/-- loop.example/tablehouse/laws.toByteS -/
def F36 : F := ⟨22, [(false, 2, 0, false)],
   .seq (.seg false [⟨some 2, none, .mov (.k (.sl true 1 [])), 0, 0, false, []⟩])
   (.seq (.seg false [⟨some 5, none, .mov (.t 0), 0, 0, false, []⟩,
    ⟨some 6, none, .len false (.t 5), 0, 0, false, []⟩,
    ⟨some 7, none, .mk 1 [.int .u8 0] (.t 6), 0, 0, false, []⟩,
    ⟨some 3, none, .mov (.t 7), 0, 0, false, []⟩])
   (.cutTo [0, 3] (.seq (.seq (.seg false [⟨some 4, none, .mov (.k (.int .i64 0)), 0, 0, false, []⟩])
   (.block 0 (.loopk [0, 3, 4] [3] L36x0)))
   (.seq (.seg false [⟨some 21, none, .mov (.t 3), 0, 0, false, []⟩,
    ⟨some 2, none, .mov (.t 21), 0, 0, false, []⟩])
   (.ret)))))⟩
def E53x0 : List I := [⟨some 11, none, .mov (.t 0), 0, 0, false, []⟩,
    ⟨some 12, none, .iaddr 1 (.t 11) (.k (.int .i64 0)), 0, 0, false, []⟩,
    ⟨some 13, none, .load false 1 (.t 12), 0, 0, false, []⟩,
    ⟨some 14, none, .conv (.int .i64) (.t 13), 0, 0, false, []⟩,
    ⟨some 15, none, .bin .mul (.t 14) (.k (.int .i64 256)), 0, 0, false, []⟩,
    ⟨some 16, none, .mov (.t 0), 0, 0, false, []⟩,
    ⟨some 17, none, .iaddr 1 (.t 16) (.k (.int .i64 1)), 0, 0, false, []⟩,
    ⟨some 18, none, .load false 1 (.t 17), 0, 0, false, []⟩,
    ⟨some 19, none, .conv (.int .i64) (.t 18), 0, 0, false, []⟩,
    ⟨some 20, none, .bin .add (.t 15) (.t 19), 0, 0, false, []⟩,
    ⟨some 4, none, .mov (.t 20), 0, 0, false, []⟩]
def D53x0 : List I := E53x0
theorem evD53x0 (run : Run) (e : Env) (h : Heap) : drawI run D53x0 e h = DrawS (evQ run E53x0 e h) run E53x0 e h := drawI_quiet run _ (by rfl) e h
def E53x1 : List I := [⟨some 21, none, .mov (.t 0), 0, 0, false, []⟩,
    ⟨some 22, none, .len false (.t 21), 0, 0, false, []⟩,
    ⟨some 23, none, .mov (.t 4), 0, 0, false, []⟩,
    ⟨some 24, none, .bin .add (.t 23) (.k (.int .i64 3)), 0, 0, false, []⟩,
    ⟨some 25, none, .bin .lss (.t 22) (.t 24), 0, 0, false, []⟩,
    ⟨some 26, none, .mov (.t 25), 0, 0, false, []⟩,
    ⟨some 27, some (26, false), .mov (.t 0), 0, 0, false, []⟩,
    ⟨some 28, some (26, false), .mov (.t 4), 0, 0, false, []⟩,
    ⟨some 29, some (26, false), .bin .add (.t 28) (.k (.int .i64 2)), 0, 0, false, []⟩,
    ⟨some 30, some (26, false), .iaddr 1 (.t 27) (.t 29), 0, 0, false, []⟩,
    ⟨some 31, some (26, false), .load false 1 (.t 30), 0, 0, false, []⟩,
    ⟨some 32, some (26, false), .mov (.t 0), 0, 0, false, []⟩,
    ⟨some 33, some (26, false), .mov (.t 4), 0, 0, false, []⟩,
    ⟨some 34, some (26, false), .bin .add (.t 33) (.k (.int .i64 2)), 0, 0, false, []⟩,
    ⟨some 35, some (26, false), .slc false 1 (.t 32) (some (.k (.int .i64 2))) (some (.t 34)) none, 0, 0, false, []⟩,
    ⟨some 36, some (26, false), .call 65 [.t 35] false false, 0, 0, false, []⟩,
    ⟨some 37, some (26, false), .bin .neq (.t 31) (.t 36), 0, 0, false, []⟩,
    ⟨some 38, none, .pick (.t 26) (.k (.bool true)) (.t 37), 0, 0, false, []⟩]
def D53x1 : List I := E53x1
theorem evD53x1 (run : Run) (e : Env) (h : Heap) : drawI run D53x1 e h = DrawS (evQ run E53x1 e h) run E53x1 e h := drawI_quiet run _ (by rfl) e h
/-- loop.example/tablehouse/spec.EntryFrom -/
def F53 : F := ⟨54, [(true, 2, 2, true), (false, 3, 0, false)],
   .seq (.seg false [⟨some 2, none, .alloc [.int .i64 0, .sl true 3 []], 0, 0, false, []⟩,
    ⟨some 3, none, .mov (.k (.int .i64 0)), 0, 0, false, []⟩])
   (.seq (.seq (.seg false [⟨some 7, none, .mov (.t 0), 0, 0, false, []⟩,
    ⟨some 8, none, .len false (.t 7), 0, 0, false, []⟩,
    ⟨some 9, none, .bin .lss (.t 8) (.k (.int .i64 3)), 0, 0, false, []⟩])
   (.cond (.t 9) (.seq (.seg false [⟨some 10, none, .build [.int .i64 0, .sl true 3 []] [], 0, 0, false, []⟩,
    ⟨none, none, .store 2 (.t 2) (.t 10), 0, 0, false, []⟩,
    ⟨some 3, none, .mov (.k (.int .i64 0)), 0, 0, false, []⟩])
   (.ret))
   (.skip)))
   (.cutTo [0, 2] (.seq (.seg true D53x0)
   (.cutTo [0, 2, 4] (.seq (.seq (.seg true D53x1)
   (.cutTo [0, 2, 4, 38] (.cond (.t 38) (.seq (.seg false [⟨some 39, none, .build [.int .i64 0, .sl true 3 []] [], 0, 0, false, []⟩,
    ⟨none, none, .store 2 (.t 2) (.t 39), 0, 0, false, []⟩,
    ⟨some 3, none, .mov (.k (.int .i64 0)), 0, 0, false, []⟩])
   (.ret))
   (.skip))))
   (.cutTo [0, 2, 4] (.seq (.seg false [⟨some 41, none, .mov (.t 0), 0, 0, false, []⟩,
    ⟨some 42, none, .mov (.t 4), 0, 0, false, []⟩,
    ⟨some 43, none, .bin .add (.t 42) (.k (.int .i64 2)), 0, 0, false, []⟩,
    ⟨some 44, none, .slc false 1 (.t 41) (some (.k (.int .i64 2))) (some (.t 43)) none, 0, 0, false, []⟩,
    ⟨some 45, none, .call 91 [.t 44] false false, 0, 0, false, []⟩,
    ⟨some 40, none, .mov (.t 45), 0, 0, false, []⟩,
    ⟨some 46, none, .ext (.t 40) 0, 0, 0, false, []⟩,
    ⟨some 47, none, .ext (.t 40) 1, 0, 0, false, []⟩,
    ⟨some 5, none, .alloc [.int .i64 0, .sl true 3 []], 0, 0, false, []⟩,
    ⟨none, none, .store 2 (.t 5) (.t 46), 0, 0, false, []⟩,
    ⟨some 6, none, .mov (.t 47), 0, 0, false, []⟩])
   (.cutTo [2, 4, 5, 6] (.seq (.seq (.seg false [⟨some 48, none, .mov (.t 6), 0, 0, false, []⟩,
    ⟨some 49, none, .un .not (.t 48), 0, 0, false, []⟩])
   (.cond (.t 49) (.seq (.seg false [⟨some 50, none, .build [.int .i64 0, .sl true 3 []] [], 0, 0, false, []⟩,
    ⟨none, none, .store 2 (.t 2) (.t 50), 0, 0, false, []⟩,
    ⟨some 3, none, .mov (.k (.int .i64 0)), 0, 0, false, []⟩])
   (.ret))
   (.skip)))
   (.cutTo [2, 4, 5] (.seq (.seg false [⟨some 51, none, .load true 2 (.t 5), 0, 0, false, []⟩,
    ⟨some 52, none, .mov (.t 4), 0, 0, false, []⟩,
    ⟨some 53, none, .bin .add (.t 52) (.k (.int .i64 3)), 0, 0, false, []⟩,
    ⟨none, none, .store 2 (.t 2) (.t 51), 0, 0, false, []⟩,
    ⟨some 3, none, .mov (.t 53), 0, 0, false, []⟩])
   (.cutTo [2, 3] (.ret)))))))))))))⟩
def E27x0 : List I := [⟨some 49, none, .faddr 1 1 (.t 6), 0, 0, false, []⟩,
    ⟨some 50, none, .load false 1 (.t 49), 0, 0, false, []⟩,
    ⟨some 51, none, .mov (.t 7), 0, 0, false, []⟩,
    ⟨some 52, none, .iaddr 1 (.t 51) (.k (.int .i64 0)), 0, 0, false, []⟩,
    ⟨some 53, none, .load false 1 (.t 52), 0, 0, false, []⟩,
    ⟨some 54, none, .conv (.int .i64) (.t 53), 0, 0, false, []⟩,
    ⟨some 55, none, .mov (.t 8), 0, 0, false, []⟩,
    ⟨some 56, none, .mov (.t 7), 0, 0, false, []⟩,
    ⟨some 57, none, .iaddr 1 (.t 56) (.k (.int .i64 1)), 0, 0, false, []⟩,
    ⟨some 58, none, .load false 1 (.t 57), 0, 0, false, []⟩,
    ⟨some 59, none, .bin .eql (.t 58) (.k (.int .u8 1)), 0, 0, false, []⟩,
    ⟨some 60, none, .build [.int .i64 0, .sl true 3 [], .bool false] [(0, 1, .t 54), (1, 1, .t 55), (2, 1, .t 59)], 0, 0, false, []⟩,
    ⟨some 61, none, .mksl false 3 [.t 60], 0, 0, false, []⟩,
    ⟨some 62, none, .app 3 (.t 50) (.t 61), 0, 0, true, []⟩,
    ⟨some 63, none, .faddr 1 1 (.t 6), 1, 1, false, []⟩,
    ⟨none, none, .store 1 (.t 63) (.t 62), 1, 0, true, []⟩]
def D27x0 : List I := E27x0
theorem evD27x0 (run : Run) (e : Env) (h : Heap) : drawI run D27x0 e h = DrawW (evW run E27x0 e h []) run E27x0 e h := drawI_write run _ e h
def E27x1 : List I := [⟨some 69, none, .load true 2 (.t 6), 0, 0, false, []⟩,
    ⟨some 70, none, .callx 0 18 [.t 69], 0, 0, true, []⟩,
    ⟨some 71, none, .mov (.t 0), 0, 1, false, []⟩,
    ⟨some 72, none, .mov (.t 5), 0, 1, false, []⟩,
    ⟨some 73, none, .slc false 1 (.t 71) none (some (.t 72)) none, 0, 1, false, []⟩,
    ⟨some 74, none, .call 76 [.t 70, .t 73] false false, 1, 1, false, []⟩,
    ⟨some 75, none, .un .not (.t 74), 1, 1, false, []⟩]
def D27x1 : List I := E27x1
theorem evD27x1 (run : Run) (e : Env) (h : Heap) : drawI run D27x1 e h = DrawW (evW run E27x1 e h []) run E27x1 e h := drawI_write run _ e h
def B27x0 : C := .seq (.seg false [⟨some 35, none, .bin .lss (.t 34) (.t 33), 0, 0, false, []⟩])
   (.seq (.cond (.t 35) (.skip)
   (.exit 0))
   (.seq (.block 1 (.seq (.seq (.seg false [⟨some 36, none, .mov (.t 7), 0, 0, false, []⟩,
    ⟨some 37, none, .len false (.t 36), 0, 0, false, []⟩,
    ⟨some 38, none, .bin .lss (.t 37) (.k (.int .i64 3)), 0, 0, false, []⟩])
   (.cond (.t 38) (.seq (.seg false [⟨some 39, none, .build [.int .i64 0, .sl true 3 []] [], 0, 0, false, []⟩,
    ⟨none, none, .store 2 (.t 2) (.t 39), 0, 0, false, []⟩,
    ⟨some 3, none, .mov (.k (.int .i64 0)), 0, 0, false, []⟩])
   (.ret))
   (.skip)))
   (.cutTo [0, 2, 5, 6, 7, 33, 34] (.seq (.seg false [⟨some 41, none, .mov (.t 7), 0, 0, false, []⟩,
    ⟨some 42, none, .slc false 1 (.t 41) (some (.k (.int .i64 2))) none none, 0, 0, false, []⟩,
    ⟨some 43, none, .call 31 [.t 42] false false, 0, 0, false, []⟩,
    ⟨some 40, none, .mov (.t 43), 0, 0, false, []⟩,
    ⟨some 44, none, .ext (.t 40) 0, 0, 0, false, []⟩,
    ⟨some 45, none, .ext (.t 40) 1, 0, 0, false, []⟩,
    ⟨some 8, none, .mov (.t 44), 0, 0, false, []⟩,
    ⟨some 9, none, .mov (.t 45), 0, 0, false, []⟩])
   (.cutTo [0, 2, 5, 6, 7, 8, 9, 33, 34] (.seq (.seq (.seg false [⟨some 46, none, .mov (.t 9), 0, 0, false, []⟩,
    ⟨some 47, none, .bin .eql (.t 46) (.k (.int .i64 0)), 0, 0, false, []⟩])
   (.cond (.t 47) (.seq (.seg false [⟨some 48, none, .build [.int .i64 0, .sl true 3 []] [], 0, 0, false, []⟩,
    ⟨none, none, .store 2 (.t 2) (.t 48), 0, 0, false, []⟩,
    ⟨some 3, none, .mov (.k (.int .i64 0)), 0, 0, false, []⟩])
   (.ret))
   (.skip)))
   (.cutTo [0, 2, 5, 6, 7, 8, 9, 33, 34] (.seq (.seg true D27x0)
   (.cutTo [0, 2, 5, 6, 7, 9, 33, 34] (.seg false [⟨some 64, none, .mov (.t 7), 0, 0, false, []⟩,
    ⟨some 65, none, .mov (.t 9), 0, 0, false, []⟩,
    ⟨some 66, none, .bin .add (.k (.int .i64 2)) (.t 65), 0, 0, false, []⟩,
    ⟨some 67, none, .slc false 1 (.t 64) (some (.t 66)) none none, 0, 0, false, []⟩,
    ⟨some 7, none, .mov (.t 67), 0, 0, false, []⟩]))))))))))
   (.cutTo [0, 2, 5, 6, 7, 33, 34] (.seg false [⟨some 68, none, .bin .add (.t 34) (.k (.int .i64 1)), 0, 0, false, []⟩,
    ⟨some 34, none, .mov (.t 68), 0, 0, false, []⟩]))))
def L27x0 : C := B27x0
theorem evL27x0 (run : Run) (draw : List I → Env → Heap → Option (Env × Heap)) (e : Env) (h : Heap) : evC run draw L27x0 e h = evC run draw B27x0 e h := rfl
/-- loop.example/tablehouse/impl.EntryFrom -/
def F27 : F := ⟨83, [(true, 2, 2, true), (false, 3, 0, false)],
   .seq (.seg false [⟨some 2, none, .alloc [.int .i64 0, .sl true 3 []], 0, 0, false, []⟩,
    ⟨some 3, none, .mov (.k (.int .i64 0)), 0, 0, false, []⟩])
   (.seq (.seg false [⟨some 11, none, .mov (.t 0), 0, 0, false, []⟩,
    ⟨some 12, none, .call 75 [.t 11] false false, 0, 0, false, []⟩,
    ⟨some 10, none, .mov (.t 12), 0, 0, false, []⟩,
    ⟨some 13, none, .ext (.t 10) 0, 0, 0, false, []⟩,
    ⟨some 14, none, .ext (.t 10) 1, 0, 0, false, []⟩,
    ⟨some 4, none, .mov (.t 13), 0, 0, false, []⟩,
    ⟨some 5, none, .mov (.t 14), 0, 0, false, []⟩])
   (.cutTo [0, 2, 4, 5] (.seq (.seq (.seg false [⟨some 15, none, .mov (.t 5), 0, 0, false, []⟩,
    ⟨some 16, none, .bin .eql (.t 15) (.k (.int .i64 0)), 0, 0, false, []⟩,
    ⟨some 17, none, .mov (.t 16), 0, 0, false, []⟩,
    ⟨some 18, some (17, false), .mov (.t 4), 0, 0, false, []⟩,
    ⟨some 19, some (17, false), .len false (.t 18), 0, 0, false, []⟩,
    ⟨some 20, some (17, false), .bin .lss (.t 19) (.k (.int .i64 2)), 0, 0, false, []⟩,
    ⟨some 21, none, .pick (.t 17) (.k (.bool true)) (.t 20), 0, 0, false, []⟩])
   (.cutTo [0, 2, 4, 5, 21] (.cond (.t 21) (.seq (.seg false [⟨some 22, none, .build [.int .i64 0, .sl true 3 []] [], 0, 0, false, []⟩,
    ⟨none, none, .store 2 (.t 2) (.t 22), 0, 0, false, []⟩,
    ⟨some 3, none, .mov (.k (.int .i64 0)), 0, 0, false, []⟩])
   (.ret))
   (.skip))))
   (.cutTo [0, 2, 4, 5] (.seq (.seg false [⟨some 23, none, .mov (.t 4), 0, 0, false, []⟩,
    ⟨some 24, none, .iaddr 1 (.t 23) (.k (.int .i64 0)), 0, 0, false, []⟩,
    ⟨some 25, none, .load false 1 (.t 24), 0, 0, false, []⟩,
    ⟨some 26, none, .conv (.int .i64) (.t 25), 0, 0, false, []⟩,
    ⟨some 27, none, .build [.int .i64 0, .sl true 3 []] [(0, 1, .t 26)], 0, 0, false, []⟩,
    ⟨some 6, none, .alloc [.int .i64 0, .sl true 3 []], 0, 0, false, []⟩,
    ⟨none, none, .store 2 (.t 6) (.t 27), 0, 0, false, []⟩])
   (.cutTo [0, 2, 4, 5, 6] (.seq (.seg false [⟨some 28, none, .mov (.t 4), 0, 0, false, []⟩,
    ⟨some 29, none, .slc false 1 (.t 28) (some (.k (.int .i64 2))) none none, 0, 0, false, []⟩,
    ⟨some 7, none, .mov (.t 29), 0, 0, false, []⟩])
   (.seq (.seq (.seg false [⟨some 30, none, .mov (.t 4), 0, 0, false, []⟩,
    ⟨some 31, none, .iaddr 1 (.t 30) (.k (.int .i64 1)), 0, 0, false, []⟩,
    ⟨some 32, none, .load false 1 (.t 31), 0, 0, false, []⟩,
    ⟨some 33, none, .conv (.int .i64) (.t 32), 0, 0, false, []⟩,
    ⟨some 34, none, .mov (.k (.int .i64 0)), 0, 0, false, []⟩])
   (.cutTo [0, 2, 5, 6, 7, 33, 34] (.block 0 (.loop [0, 2, 5, 6, 7, 33, 34] [0, 2, 3, 5, 6] L27x0))))
   (.cutTo [0, 2, 5, 6] (.seq (.seq (.seg true D27x1)
   (.cutTo [2, 5, 6, 75] (.cond (.t 75) (.seq (.seg false [⟨some 76, none, .build [.int .i64 0, .sl true 3 []] [], 0, 0, false, []⟩,
    ⟨none, none, .store 2 (.t 2) (.t 76), 0, 0, false, []⟩,
    ⟨some 3, none, .mov (.k (.int .i64 0)), 0, 0, false, []⟩])
   (.ret))
   (.skip))))
   (.cutTo [2, 5, 6] (.seq (.seg false [⟨some 77, none, .faddr 1 1 (.t 6), 0, 0, false, []⟩,
    ⟨some 78, none, .load false 1 (.t 77), 0, 0, false, []⟩,
    ⟨some 79, none, .callx 0 77 [.t 78], 0, 0, false, []⟩,
    ⟨some 80, none, .faddr 1 1 (.t 6), 0, 0, false, []⟩,
    ⟨none, none, .store 1 (.t 80) (.t 79), 0, 0, false, []⟩])
   (.cutTo [2, 5, 6] (.seq (.seg false [⟨some 81, none, .load true 2 (.t 6), 0, 0, false, []⟩,
    ⟨some 82, none, .mov (.t 5), 0, 0, false, []⟩,
    ⟨none, none, .store 2 (.t 2) (.t 81), 0, 0, false, []⟩,
    ⟨some 3, none, .mov (.t 82), 0, 0, false, []⟩])
   (.cutTo [2, 3] (.ret))))))))))))))))⟩
/-- loop.example/tablehouse/laws.heldEntry -/
def F54 : F := ⟨12, [(false, 4, 0, false)],
   .seq (.seg false [⟨some 2, none, .box (.t 0), 0, 0, false, []⟩,
    ⟨some 4, none, .mov (.k (.int .i64 0)), 0, 0, false, []⟩])
   (.seq (.seg false [⟨some 5, none, .faddr 1 1 (.t 2), 0, 0, false, []⟩,
    ⟨some 6, none, .load false 1 (.t 5), 0, 0, false, []⟩,
    ⟨some 7, none, .mov (.t 1), 0, 0, false, []⟩,
    ⟨some 8, none, .call 86 [.t 6, .t 7] false false, 0, 0, false, []⟩,
    ⟨some 1, none, .mov (.t 8), 0, 0, false, []⟩])
   (.cutTo [1] (.seq (.seq (.seg false [⟨some 9, none, .mov (.t 1), 0, 0, false, []⟩,
    ⟨some 10, none, .bin .lss (.t 9) (.k (.int .i64 0)), 0, 0, false, []⟩])
   (.cond (.t 10) (.seq (.seg false [⟨some 4, none, .mov (.k (.int .i64 (-1))), 0, 0, false, []⟩])
   (.ret))
   (.skip)))
   (.seq (.seg false [⟨some 11, none, .mov (.t 1), 0, 0, false, []⟩,
    ⟨some 4, none, .mov (.t 11), 0, 0, false, []⟩])
   (.ret)))))⟩
def B62x0 : C := .seq (.seq (.seg false [⟨some 12, none, .mov (.t 5), 0, 0, false, []⟩,
    ⟨some 13, none, .mov (.t 0), 0, 0, false, []⟩,
    ⟨some 14, none, .len false (.t 13), 0, 0, false, []⟩,
    ⟨some 15, none, .bin .lss (.t 12) (.t 14), 0, 0, false, []⟩])
   (.cutTo [0, 1, 5, 15] (.cond (.t 15) (.skip)
   (.exit 0))))
   (.cutTo [0, 1, 5] (.seq (.block 1 (.seq (.seg false [⟨some 18, none, .mov (.t 0), 0, 0, false, []⟩,
    ⟨some 19, none, .mov (.t 5), 0, 0, false, []⟩,
    ⟨some 20, none, .iaddr 3 (.t 18) (.t 19), 0, 0, false, []⟩,
    ⟨some 21, none, .load true 3 (.t 20), 0, 0, false, []⟩,
    ⟨some 22, none, .mov (.t 1), 0, 0, false, []⟩,
    ⟨some 23, none, .call 107 [.t 21, .t 22] false false, 0, 0, false, []⟩,
    ⟨some 1, none, .mov (.t 23), 0, 0, false, []⟩])
   (.cutTo [0, 1, 5] (.seq (.seg false [⟨some 24, none, .mov (.t 1), 0, 0, false, []⟩,
    ⟨some 25, none, .bin .lss (.t 24) (.k (.int .i64 0)), 0, 0, false, []⟩])
   (.cond (.t 25) (.seq (.seg false [⟨some 4, none, .mov (.k (.int .i64 (-1))), 0, 0, false, []⟩])
   (.ret))
   (.skip))))))
   (.cutTo [0, 1, 5] (.seg false [⟨some 16, none, .mov (.t 5), 0, 0, false, []⟩,
    ⟨some 17, none, .bin .add (.t 16) (.k (.int .i64 1)), 0, 0, false, []⟩,
    ⟨some 5, none, .mov (.t 17), 0, 0, false, []⟩]))))
def L62x0 : C := B62x0
theorem evL62x0 (run : Run) (draw : List I → Env → Heap → Option (Env × Heap)) (e : Env) (h : Heap) : evC run draw L62x0 e h = evC run draw B62x0 e h := rfl
/-- loop.example/tablehouse/laws.szWriteS -/
def F62 : F := ⟨27, [(false, 4, 0, false)],
   .seq (.seg false [⟨some 4, none, .mov (.k (.int .i64 0)), 0, 0, false, []⟩])
   (.seq (.seg false [⟨some 6, none, .mov (.t 1), 0, 0, false, []⟩,
    ⟨some 7, none, .mov (.t 0), 0, 0, false, []⟩,
    ⟨some 8, none, .len false (.t 7), 0, 0, false, []⟩,
    ⟨some 9, none, .bin .sub (.t 6) (.t 8), 0, 0, false, []⟩,
    ⟨some 1, none, .mov (.t 9), 0, 0, false, []⟩])
   (.cutTo [0, 1] (.seq (.seq (.seg false [⟨some 10, none, .mov (.t 1), 0, 0, false, []⟩,
    ⟨some 11, none, .bin .lss (.t 10) (.k (.int .i64 0)), 0, 0, false, []⟩])
   (.cond (.t 11) (.seq (.seg false [⟨some 4, none, .mov (.k (.int .i64 (-1))), 0, 0, false, []⟩])
   (.ret))
   (.skip)))
   (.seq (.seq (.seg false [⟨some 5, none, .mov (.k (.int .i64 0)), 0, 0, false, []⟩])
   (.block 0 (.loop [0, 1, 5] [1, 4] L62x0)))
   (.seq (.seg false [⟨some 26, none, .mov (.t 1), 0, 0, false, []⟩,
    ⟨some 4, none, .mov (.t 26), 0, 0, false, []⟩])
   (.ret))))))⟩
def B66x0 : C := .seq (.seq (.seg false [⟨some 8, none, .mov (.t 4), 0, 0, false, []⟩,
    ⟨some 9, none, .mov (.t 0), 0, 0, false, []⟩,
    ⟨some 10, none, .len false (.t 9), 0, 0, false, []⟩,
    ⟨some 11, none, .bin .lss (.t 8) (.t 10), 0, 0, false, []⟩])
   (.cutTo [0, 3, 4, 11] (.cond (.t 11) (.skip)
   (.exit 0))))
   (.cutTo [0, 3, 4] (.seq (.block 1 (.seg false [⟨some 14, none, .mov (.t 3), 0, 0, false, []⟩,
    ⟨some 15, none, .mov (.t 4), 0, 0, false, []⟩,
    ⟨some 16, none, .mov (.t 0), 0, 0, false, []⟩,
    ⟨some 17, none, .mov (.t 4), 0, 0, false, []⟩,
    ⟨some 18, none, .iaddr 3 (.t 16) (.t 17), 0, 0, false, []⟩,
    ⟨some 19, none, .load true 3 (.t 18), 0, 0, false, []⟩,
    ⟨some 20, none, .callx 0 111 [.t 19], 0, 0, false, []⟩,
    ⟨some 21, none, .iaddr 3 (.t 14) (.t 15), 0, 0, false, []⟩,
    ⟨none, none, .store 3 (.t 21) (.t 20), 0, 0, false, []⟩]))
   (.cutTo [0, 3, 4] (.seg false [⟨some 12, none, .mov (.t 4), 0, 0, false, []⟩,
    ⟨some 13, none, .bin .add (.t 12) (.k (.int .i64 1)), 0, 0, false, []⟩,
    ⟨some 4, none, .mov (.t 13), 0, 0, false, []⟩]))))
def L66x0 : C := B66x0
theorem evL66x0 (run : Run) (draw : List I → Env → Heap → Option (Env × Heap)) (e : Env) (h : Heap) : evC run draw L66x0 e h = evC run draw B66x0 e h := rfl
/-- loop.example/tablehouse/laws.toWriteS -/
def F66 : F := ⟨23, [(false, 2, 0, false)],
   .seq (.seg false [⟨some 2, none, .mov (.k (.sl true 3 [])), 0, 0, false, []⟩])
   (.seq (.seg false [⟨some 5, none, .mov (.t 0), 0, 0, false, []⟩,
    ⟨some 6, none, .len false (.t 5), 0, 0, false, []⟩,
    ⟨some 7, none, .mkn 3 [.int .i64 0, .sl true 3 [], .bool false] (.t 6), 0, 0, false, []⟩,
    ⟨some 3, none, .mov (.t 7), 0, 0, false, []⟩])
   (.cutTo [0, 3] (.seq (.seq (.seg false [⟨some 4, none, .mov (.k (.int .i64 0)), 0, 0, false, []⟩])
   (.block 0 (.loopk [0, 3, 4] [3] L66x0)))
   (.seq (.seg false [⟨some 22, none, .mov (.t 3), 0, 0, false, []⟩,
    ⟨some 2, none, .mov (.t 22), 0, 0, false, []⟩])
   (.ret)))))⟩
def E63x0 : List I := [⟨some 10, none, .mov (.t 0), 0, 0, false, []⟩,
    ⟨some 11, none, .mov (.t 3), 0, 0, false, []⟩,
    ⟨some 12, none, .iaddr 2 (.t 10) (.t 11), 0, 0, false, []⟩,
    ⟨some 13, none, .faddr 0 1 (.t 12), 0, 0, false, []⟩,
    ⟨some 14, none, .load false 1 (.t 13), 0, 0, false, []⟩,
    ⟨some 15, none, .call 95 [.t 14, .k (.int .i64 1), .k (.int .i64 40)] false false, 0, 0, false, []⟩,
    ⟨some 16, none, .un .not (.t 15), 0, 0, false, []⟩,
    ⟨some 17, none, .mov (.t 16), 0, 0, false, []⟩,
    ⟨some 18, some (17, false), .mov (.t 0), 0, 0, false, []⟩,
    ⟨some 19, some (17, false), .mov (.t 3), 0, 0, false, []⟩,
    ⟨some 20, some (17, false), .iaddr 2 (.t 18) (.t 19), 0, 0, false, []⟩,
    ⟨some 21, some (17, false), .faddr 1 1 (.t 20), 0, 0, false, []⟩,
    ⟨some 22, some (17, false), .load false 1 (.t 21), 0, 0, false, []⟩,
    ⟨some 23, some (17, false), .call 108 [.t 22] false false, 0, 0, false, []⟩,
    ⟨some 24, some (17, false), .un .not (.t 23), 0, 0, false, []⟩,
    ⟨some 25, none, .pick (.t 17) (.k (.bool true)) (.t 24), 0, 0, false, []⟩,
    ⟨some 26, none, .mov (.t 25), 0, 0, false, []⟩,
    ⟨some 27, some (26, false), .mov (.t 3), 0, 0, false, []⟩,
    ⟨some 28, some (26, false), .bin .gtr (.t 27) (.k (.int .i64 0)), 0, 0, false, []⟩,
    ⟨some 29, some (26, false), .mov (.t 28), 0, 0, false, []⟩,
    ⟨some 30, some (29, true), .mov (.t 0), 0, 0, false, []⟩,
    ⟨some 31, some (29, true), .mov (.t 3), 0, 0, false, []⟩,
    ⟨some 32, some (29, true), .bin .sub (.t 31) (.k (.int .i64 1)), 0, 0, false, []⟩,
    ⟨some 33, some (29, true), .iaddr 2 (.t 30) (.t 32), 0, 0, false, []⟩,
    ⟨some 34, some (29, true), .faddr 0 1 (.t 33), 0, 0, false, []⟩,
    ⟨some 35, some (29, true), .load false 1 (.t 34), 0, 0, false, []⟩,
    ⟨some 36, some (29, true), .mov (.t 0), 0, 0, false, []⟩,
    ⟨some 37, some (29, true), .mov (.t 3), 0, 0, false, []⟩,
    ⟨some 38, some (29, true), .iaddr 2 (.t 36) (.t 37), 0, 0, false, []⟩,
    ⟨some 39, some (29, true), .faddr 0 1 (.t 38), 0, 0, false, []⟩,
    ⟨some 40, some (29, true), .load false 1 (.t 39), 0, 0, false, []⟩,
    ⟨some 41, some (29, true), .bin .geq (.t 35) (.t 40), 0, 0, false, []⟩,
    ⟨some 42, some (26, false), .pick (.t 29) (.t 41) (.k (.bool false)), 0, 0, false, []⟩,
    ⟨some 43, none, .pick (.t 26) (.k (.bool true)) (.t 42), 0, 0, false, []⟩]
def D63x0 : List I := E63x0
theorem evD63x0 (run : Run) (e : Env) (h : Heap) : drawI run D63x0 e h = DrawS (evQ run E63x0 e h) run E63x0 e h := drawI_quiet run _ (by rfl) e h
def B63x0 : C := .seq (.seq (.seg false [⟨some 4, none, .mov (.t 3), 0, 0, false, []⟩,
    ⟨some 5, none, .mov (.t 0), 0, 0, false, []⟩,
    ⟨some 6, none, .len false (.t 5), 0, 0, false, []⟩,
    ⟨some 7, none, .bin .lss (.t 4) (.t 6), 0, 0, false, []⟩])
   (.cutTo [0, 3, 7] (.cond (.t 7) (.skip)
   (.exit 0))))
   (.cutTo [0, 3] (.seq (.block 1 (.seq (.seg true D63x0)
   (.cutTo [0, 3, 43] (.cond (.t 43) (.seq (.seg false [⟨some 2, none, .mov (.k (.bool false)), 0, 0, false, []⟩])
   (.ret))
   (.skip)))))
   (.cutTo [0, 3] (.seg false [⟨some 8, none, .mov (.t 3), 0, 0, false, []⟩,
    ⟨some 9, none, .bin .add (.t 8) (.k (.int .i64 1)), 0, 0, false, []⟩,
    ⟨some 3, none, .mov (.t 9), 0, 0, false, []⟩]))))
def L63x0 : C := B63x0
theorem evL63x0 (run : Run) (draw : List I → Env → Heap → Option (Env × Heap)) (e : Env) (h : Heap) : evC run draw L63x0 e h = evC run draw B63x0 e h := rfl
/-- loop.example/tablehouse/spec.LogOk -/
def F63 : F := ⟨47, [(false, 2, 0, false)],
   .seq (.seg false [⟨some 2, none, .mov (.k (.bool false)), 0, 0, false, []⟩])
   (.seq (.seq (.seg false [⟨some 3, none, .mov (.k (.int .i64 0)), 0, 0, false, []⟩])
   (.block 0 (.loop [0, 3] [0, 2] L63x0)))
   (.seq (.seg false [⟨some 44, none, .mov (.t 0), 0, 0, false, []⟩,
    ⟨some 45, none, .len false (.t 44), 0, 0, false, []⟩,
    ⟨some 46, none, .bin .leq (.t 45) (.k (.int .i64 12)), 0, 0, false, []⟩,
    ⟨some 2, none, .mov (.t 46), 0, 0, false, []⟩])
   (.cutTo [2] (.ret))))⟩
def E64x0 : List I := [⟨some 26, none, .mov (.t 3), 0, 0, false, [3]⟩,
    ⟨some 27, none, .faddr 0 1 (.t 5), 0, 0, false, []⟩,
    ⟨some 28, none, .load false 1 (.t 27), 0, 0, false, []⟩,
    ⟨some 29, none, .conv (.int .u8) (.t 28), 0, 0, false, []⟩,
    ⟨some 30, none, .faddr 2 1 (.t 5), 0, 0, false, []⟩,
    ⟨some 31, none, .load false 1 (.t 30), 0, 0, false, []⟩,
    ⟨some 32, none, .call 109 [.t 31] false false, 0, 0, false, []⟩,
    ⟨some 33, none, .conv (.int .u8) (.t 32), 0, 0, false, []⟩,
    ⟨some 34, none, .mksl false 1 [.t 29, .t 33], 0, 0, false, []⟩,
    ⟨some 35, none, .app 1 (.t 26) (.t 34), 0, 0, true, []⟩,
    ⟨some 3, none, .mov (.t 35), 1, 1, false, []⟩]
def D64x0 : List I := E64x0
theorem evD64x0 (run : Run) (e : Env) (h : Heap) : drawI run D64x0 e h = DrawW (evW run E64x0 e h []) run E64x0 e h := drawI_write run _ e h
def B64x0 : C := .seq (.seq (.seg false [⟨some 14, none, .mov (.t 4), 0, 0, false, []⟩,
    ⟨some 15, none, .faddr 1 1 (.t 1), 0, 0, false, []⟩,
    ⟨some 16, none, .load false 1 (.t 15), 0, 0, false, []⟩,
    ⟨some 17, none, .len false (.t 16), 0, 0, false, []⟩,
    ⟨some 18, none, .bin .lss (.t 14) (.t 17), 0, 0, false, []⟩])
   (.cutTo [1, 3, 4, 18] (.cond (.t 18) (.skip)
   (.exit 0))))
   (.cutTo [1, 3, 4] (.seq (.block 1 (.seq (.seg false [⟨some 21, none, .faddr 1 1 (.t 1), 0, 0, false, []⟩,
    ⟨some 22, none, .load false 1 (.t 21), 0, 0, false, []⟩,
    ⟨some 23, none, .mov (.t 4), 0, 0, false, []⟩,
    ⟨some 24, none, .iaddr 3 (.t 22) (.t 23), 0, 0, false, []⟩,
    ⟨some 25, none, .load true 3 (.t 24), 0, 0, false, []⟩,
    ⟨some 5, none, .alloc [.int .i64 0, .sl true 3 [], .bool false], 0, 0, false, []⟩,
    ⟨none, none, .store 3 (.t 5) (.t 25), 0, 0, false, []⟩])
   (.cutTo [1, 3, 4, 5] (.seq (.seg true D64x0)
   (.cutTo [1, 3, 4, 5] (.seg false [⟨some 36, none, .mov (.t 3), 0, 0, false, []⟩,
    ⟨some 37, none, .faddr 1 1 (.t 5), 0, 0, false, []⟩,
    ⟨some 38, none, .load false 1 (.t 37), 0, 0, false, []⟩,
    ⟨some 39, none, .call 110 [.t 38] false false, 0, 0, false, []⟩,
    ⟨some 40, none, .app 1 (.t 36) (.t 39), 0, 0, false, []⟩,
    ⟨some 3, none, .mov (.t 40), 0, 0, false, []⟩]))))))
   (.cutTo [1, 3, 4] (.seg false [⟨some 19, none, .mov (.t 4), 0, 0, false, []⟩,
    ⟨some 20, none, .bin .add (.t 19) (.k (.int .i64 1)), 0, 0, false, []⟩,
    ⟨some 4, none, .mov (.t 20), 0, 0, false, []⟩]))))
def L64x0 : C := B64x0
theorem evL64x0 (run : Run) (draw : List I → Env → Heap → Option (Env × Heap)) (e : Env) (h : Heap) : evC run draw L64x0 e h = evC run draw B64x0 e h := rfl
/-- loop.example/tablehouse/spec.l18Body -/
def F64 : F := ⟨42, [(false, 2, 0, false)],
   .seq (.seg false [⟨some 1, none, .box (.t 0), 0, 0, false, []⟩,
    ⟨some 2, none, .nilrow 1, 0, 0, false, []⟩])
   (.seq (.seg false [⟨some 6, none, .faddr 0 1 (.t 1), 0, 0, false, []⟩,
    ⟨some 7, none, .load false 1 (.t 6), 0, 0, false, []⟩,
    ⟨some 8, none, .conv (.int .u8) (.t 7), 0, 0, false, []⟩,
    ⟨some 9, none, .faddr 1 1 (.t 1), 0, 0, false, []⟩,
    ⟨some 10, none, .load false 1 (.t 9), 0, 0, false, []⟩,
    ⟨some 11, none, .len false (.t 10), 0, 0, false, []⟩,
    ⟨some 12, none, .conv (.int .u8) (.t 11), 0, 0, false, []⟩,
    ⟨some 13, none, .mksl true 1 [.t 8, .t 12], 0, 0, false, []⟩,
    ⟨some 3, none, .mov (.t 13), 0, 0, false, []⟩])
   (.cutTo [1, 3] (.seq (.seq (.seg false [⟨some 4, none, .mov (.k (.int .i64 0)), 0, 0, false, []⟩])
   (.block 0 (.loop [1, 3, 4] [3] L64x0)))
   (.seq (.seg false [⟨some 41, none, .mov (.t 3), 0, 0, false, []⟩,
    ⟨some 2, none, .mov (.t 41), 0, 0, false, []⟩])
   (.ret)))))⟩
def B65x0 : C := .seq (.seq (.seg false [⟨some 5, none, .mov (.t 4), 0, 0, false, []⟩,
    ⟨some 6, none, .mov (.t 0), 0, 0, false, []⟩,
    ⟨some 7, none, .len false (.t 6), 0, 0, false, []⟩,
    ⟨some 8, none, .bin .lss (.t 5) (.t 7), 0, 0, false, []⟩])
   (.cutTo [0, 3, 4, 8] (.cond (.t 8) (.skip)
   (.exit 0))))
   (.cutTo [0, 3, 4] (.seq (.block 1 (.seg false [⟨some 11, none, .mov (.t 3), 0, 0, false, []⟩,
    ⟨some 12, none, .mov (.t 0), 0, 0, false, []⟩,
    ⟨some 13, none, .mov (.t 4), 0, 0, false, []⟩,
    ⟨some 14, none, .iaddr 1 (.t 12) (.t 13), 0, 0, false, []⟩,
    ⟨some 15, none, .load false 1 (.t 14), 0, 0, false, []⟩,
    ⟨some 16, none, .conv (.int .i64) (.t 15), 0, 0, false, []⟩,
    ⟨some 17, none, .mov (.t 4), 0, 0, false, []⟩,
    ⟨some 18, none, .bin .add (.t 17) (.k (.int .i64 1)), 0, 0, false, []⟩,
    ⟨some 19, none, .bin .mul (.t 16) (.t 18), 0, 0, false, []⟩,
    ⟨some 20, none, .bin .add (.t 11) (.t 19), 0, 0, false, []⟩,
    ⟨some 21, none, .bin .rem (.t 20) (.k (.int .i64 251)), 0, 0, false, []⟩,
    ⟨some 3, none, .mov (.t 21), 0, 0, false, []⟩]))
   (.cutTo [0, 3, 4] (.seg false [⟨some 9, none, .mov (.t 4), 0, 0, false, []⟩,
    ⟨some 10, none, .bin .add (.t 9) (.k (.int .i64 1)), 0, 0, false, []⟩,
    ⟨some 4, none, .mov (.t 10), 0, 0, false, []⟩]))))
def L65x0 : C := B65x0
theorem evL65x0 (run : Run) (draw : List I → Env → Heap → Option (Env × Heap)) (e : Env) (h : Heap) : evC run draw L65x0 e h = evC run draw B65x0 e h := rfl
/-- loop.example/tablehouse/spec.l18Sum -/
def F65 : F := ⟨24, [(false, 2, 0, false)],
   .seq (.seg false [⟨some 2, none, .mov (.k (.int .u8 0)), 0, 0, false, []⟩])
   (.seq (.seg false [⟨some 3, none, .mov (.k (.int .i64 0)), 0, 0, false, []⟩])
   (.seq (.seq (.seg false [⟨some 4, none, .mov (.k (.int .i64 0)), 0, 0, false, []⟩])
   (.block 0 (.loop [0, 3, 4] [3] L65x0)))
   (.seq (.seg false [⟨some 22, none, .mov (.t 3), 0, 0, false, []⟩,
    ⟨some 23, none, .conv (.int .u8) (.t 22), 0, 0, false, []⟩,
    ⟨some 2, none, .mov (.t 23), 0, 0, false, []⟩])
   (.ret))))⟩
def E25x0 : List I := [⟨some 12, none, .faddr 0 1 (.t 4), 0, 0, false, []⟩,
    ⟨some 13, none, .load false 1 (.t 12), 0, 0, false, []⟩,
    ⟨some 14, none, .call 72 [.t 13, .k (.int .i64 1), .k (.int .i64 40)] false false, 0, 0, false, []⟩,
    ⟨some 15, none, .un .not (.t 14), 0, 0, false, []⟩,
    ⟨some 16, none, .mov (.t 15), 0, 0, false, []⟩,
    ⟨some 17, some (16, false), .mov (.t 3), 0, 0, false, []⟩,
    ⟨some 18, some (16, false), .bin .gtr (.t 17) (.k (.int .i64 0)), 0, 0, false, []⟩,
    ⟨some 19, some (16, false), .mov (.t 18), 0, 0, false, []⟩,
    ⟨some 20, some (19, true), .mov (.t 0), 0, 0, false, []⟩,
    ⟨some 21, some (19, true), .mov (.t 3), 0, 0, false, []⟩,
    ⟨some 22, some (19, true), .bin .sub (.t 21) (.k (.int .i64 1)), 0, 0, false, []⟩,
    ⟨some 23, some (19, true), .iaddr 2 (.t 20) (.t 22), 0, 0, false, []⟩,
    ⟨some 24, some (19, true), .faddr 0 1 (.t 23), 0, 0, false, []⟩,
    ⟨some 25, some (19, true), .load false 1 (.t 24), 0, 0, false, []⟩,
    ⟨some 26, some (19, true), .faddr 0 1 (.t 4), 0, 0, false, []⟩,
    ⟨some 27, some (19, true), .load false 1 (.t 26), 0, 0, false, []⟩,
    ⟨some 28, some (19, true), .bin .geq (.t 25) (.t 27), 0, 0, false, []⟩,
    ⟨some 29, some (16, false), .pick (.t 19) (.t 28) (.k (.bool false)), 0, 0, false, []⟩,
    ⟨some 30, none, .pick (.t 16) (.k (.bool true)) (.t 29), 0, 0, false, []⟩,
    ⟨some 31, none, .mov (.t 30), 0, 0, false, []⟩,
    ⟨some 32, some (31, false), .faddr 1 1 (.t 4), 0, 0, false, []⟩,
    ⟨some 33, some (31, false), .load false 1 (.t 32), 0, 0, false, []⟩,
    ⟨some 34, some (31, false), .call 73 [.t 33] false false, 0, 0, false, []⟩,
    ⟨some 35, some (31, false), .un .not (.t 34), 0, 0, false, []⟩,
    ⟨some 36, none, .pick (.t 31) (.k (.bool true)) (.t 35), 0, 0, false, []⟩]
def D25x0 : List I := E25x0
theorem evD25x0 (run : Run) (e : Env) (h : Heap) : drawI run D25x0 e h = DrawS (evQ run E25x0 e h) run E25x0 e h := drawI_quiet run _ (by rfl) e h
def B25x0 : C := .seq (.seg false [⟨some 8, none, .bin .lss (.t 7) (.t 6), 0, 0, false, []⟩])
   (.seq (.cond (.t 8) (.skip)
   (.exit 0))
   (.seq (.block 1 (.seq (.seg false [⟨some 9, none, .mov (.t 7), 0, 0, false, []⟩,
    ⟨some 10, none, .iaddr 2 (.t 5) (.t 7), 0, 0, false, []⟩,
    ⟨some 11, none, .load true 2 (.t 10), 0, 0, false, []⟩,
    ⟨some 4, none, .alloc [.int .i64 0, .sl true 3 []], 0, 0, false, []⟩,
    ⟨some 3, none, .mov (.t 9), 0, 0, false, []⟩,
    ⟨none, none, .store 2 (.t 4) (.t 11), 0, 0, false, []⟩])
   (.cutTo [0, 3, 4, 5, 6, 7] (.seq (.seg true D25x0)
   (.cutTo [0, 5, 6, 7, 36] (.cond (.t 36) (.seq (.seg false [⟨some 2, none, .mov (.k (.bool false)), 0, 0, false, []⟩])
   (.ret))
   (.skip)))))))
   (.cutTo [0, 5, 6, 7] (.seg false [⟨some 37, none, .bin .add (.t 7) (.k (.int .i64 1)), 0, 0, false, []⟩,
    ⟨some 7, none, .mov (.t 37), 0, 0, false, []⟩]))))
def L25x0 : C := B25x0
theorem evL25x0 (run : Run) (draw : List I → Env → Heap → Option (Env × Heap)) (e : Env) (h : Heap) : evC run draw L25x0 e h = evC run draw B25x0 e h := rfl
/-- loop.example/tablehouse/impl.LogOk -/
def F25 : F := ⟨41, [(false, 2, 0, false)],
   .seq (.seg false [⟨some 2, none, .mov (.k (.bool false)), 0, 0, false, []⟩])
   (.seq (.seq (.seg false [⟨some 5, none, .mov (.t 0), 0, 0, false, []⟩,
    ⟨some 6, none, .len false (.t 5), 0, 0, false, []⟩,
    ⟨some 7, none, .mov (.k (.int .i64 0)), 0, 0, false, []⟩])
   (.block 0 (.loop [0, 5, 6, 7] [0, 2] L25x0)))
   (.seq (.seg false [⟨some 38, none, .mov (.t 0), 0, 0, false, []⟩,
    ⟨some 39, none, .len false (.t 38), 0, 0, false, []⟩,
    ⟨some 40, none, .bin .leq (.t 39) (.k (.int .i64 12)), 0, 0, false, []⟩,
    ⟨some 2, none, .mov (.t 40), 0, 0, false, []⟩])
   (.cutTo [2] (.ret))))⟩
def E67x0 : List I := [⟨some 21, none, .mov (.t 3), 0, 0, false, [3]⟩,
    ⟨some 22, none, .faddr 0 1 (.t 5), 0, 0, false, []⟩,
    ⟨some 23, none, .load false 1 (.t 22), 0, 0, false, []⟩,
    ⟨some 24, none, .conv (.int .u8) (.t 23), 0, 0, false, []⟩,
    ⟨some 25, none, .faddr 2 1 (.t 5), 0, 0, false, []⟩,
    ⟨some 26, none, .load false 1 (.t 25), 0, 0, false, []⟩,
    ⟨some 27, none, .call 112 [.t 26] false false, 0, 0, false, []⟩,
    ⟨some 28, none, .conv (.int .u8) (.t 27), 0, 0, false, []⟩,
    ⟨some 29, none, .mksl false 1 [.t 24, .t 28], 0, 0, false, []⟩,
    ⟨some 30, none, .app 1 (.t 21) (.t 29), 0, 0, true, []⟩,
    ⟨some 3, none, .mov (.t 30), 1, 1, false, []⟩]
def D67x0 : List I := E67x0
theorem evD67x0 (run : Run) (e : Env) (h : Heap) : drawI run D67x0 e h = DrawW (evW run E67x0 e h []) run E67x0 e h := drawI_write run _ e h
def B67x0 : C := .seq (.seg false [⟨some 18, none, .bin .lss (.t 17) (.t 16), 0, 0, false, []⟩])
   (.seq (.cond (.t 18) (.skip)
   (.exit 0))
   (.seq (.block 1 (.seq (.seg false [⟨some 19, none, .iaddr 3 (.t 15) (.t 17), 0, 0, false, []⟩,
    ⟨some 20, none, .load true 3 (.t 19), 0, 0, false, []⟩,
    ⟨some 5, none, .alloc [.int .i64 0, .sl true 3 [], .bool false], 0, 0, false, []⟩,
    ⟨none, none, .store 3 (.t 5) (.t 20), 0, 0, false, []⟩])
   (.cutTo [3, 5, 15, 16, 17] (.seq (.seg true D67x0)
   (.cutTo [3, 5, 15, 16, 17] (.seg false [⟨some 31, none, .mov (.t 3), 0, 0, false, []⟩,
    ⟨some 32, none, .faddr 1 1 (.t 5), 0, 0, false, []⟩,
    ⟨some 33, none, .load false 1 (.t 32), 0, 0, false, []⟩,
    ⟨some 34, none, .call 34 [.t 33] false false, 0, 0, false, []⟩,
    ⟨some 35, none, .app 1 (.t 31) (.t 34), 0, 0, false, []⟩,
    ⟨some 3, none, .mov (.t 35), 0, 0, false, []⟩]))))))
   (.cutTo [3, 15, 16, 17] (.seg false [⟨some 36, none, .bin .add (.t 17) (.k (.int .i64 1)), 0, 0, false, []⟩,
    ⟨some 17, none, .mov (.t 36), 0, 0, false, []⟩]))))
def L67x0 : C := B67x0
theorem evL67x0 (run : Run) (draw : List I → Env → Heap → Option (Env × Heap)) (e : Env) (h : Heap) : evC run draw L67x0 e h = evC run draw B67x0 e h := rfl
/-- loop.example/tablehouse/impl.entryBytes -/
def F67 : F := ⟨39, [(false, 2, 0, false)],
   .seq (.seg false [⟨some 1, none, .box (.t 0), 0, 0, false, []⟩,
    ⟨some 2, none, .mov (.k (.sl true 1 [])), 0, 0, false, []⟩])
   (.seq (.seg false [⟨some 6, none, .faddr 0 1 (.t 1), 0, 0, false, []⟩,
    ⟨some 7, none, .load false 1 (.t 6), 0, 0, false, []⟩,
    ⟨some 8, none, .conv (.int .u8) (.t 7), 0, 0, false, []⟩,
    ⟨some 9, none, .faddr 1 1 (.t 1), 0, 0, false, []⟩,
    ⟨some 10, none, .load false 1 (.t 9), 0, 0, false, []⟩,
    ⟨some 11, none, .len false (.t 10), 0, 0, false, []⟩,
    ⟨some 12, none, .conv (.int .u8) (.t 11), 0, 0, false, []⟩,
    ⟨some 13, none, .mksl true 1 [.t 8, .t 12], 0, 0, false, []⟩,
    ⟨some 3, none, .mov (.t 13), 0, 0, false, []⟩])
   (.cutTo [1, 3] (.seq (.seq (.seg false [⟨some 14, none, .faddr 1 1 (.t 1), 0, 0, false, []⟩,
    ⟨some 15, none, .load false 1 (.t 14), 0, 0, false, []⟩,
    ⟨some 16, none, .len false (.t 15), 0, 0, false, []⟩,
    ⟨some 17, none, .mov (.k (.int .i64 0)), 0, 0, false, []⟩])
   (.cutTo [3, 15, 16, 17] (.block 0 (.loop [3, 15, 16, 17] [3] L67x0))))
   (.cutTo [3] (.seq (.seg false [⟨some 37, none, .mov (.t 3), 0, 0, false, []⟩,
    ⟨some 38, none, .callx 0 113 [.t 37], 0, 0, false, []⟩,
    ⟨some 2, none, .mov (.t 38), 0, 0, false, []⟩])
   (.ret))))))⟩
def E68x0 : List I := [⟨some 17, none, .mov (.t 0), 0, 0, false, []⟩,
    ⟨some 18, none, .mov (.t 5), 0, 0, false, []⟩,
    ⟨some 19, none, .iaddr 3 (.t 17) (.t 18), 0, 0, false, []⟩,
    ⟨some 20, none, .load true 3 (.t 19), 0, 0, false, []⟩,
    ⟨some 21, none, .mov (.t 1), 0, 0, false, []⟩,
    ⟨some 22, none, .mov (.t 5), 0, 0, false, []⟩,
    ⟨some 23, none, .iaddr 3 (.t 21) (.t 22), 0, 0, false, []⟩,
    ⟨some 24, none, .load true 3 (.t 23), 0, 0, false, []⟩,
    ⟨some 25, none, .call 114 [.t 20, .t 24] false false, 0, 0, false, []⟩,
    ⟨some 26, none, .un .not (.t 25), 0, 0, false, []⟩]
def D68x0 : List I := E68x0
theorem evD68x0 (run : Run) (e : Env) (h : Heap) : drawI run D68x0 e h = DrawS (evQ run E68x0 e h) run E68x0 e h := drawI_quiet run _ (by rfl) e h
def B68x0 : C := .seq (.seq (.seg false [⟨some 11, none, .mov (.t 5), 0, 0, false, []⟩,
    ⟨some 12, none, .mov (.t 0), 0, 0, false, []⟩,
    ⟨some 13, none, .len false (.t 12), 0, 0, false, []⟩,
    ⟨some 14, none, .bin .lss (.t 11) (.t 13), 0, 0, false, []⟩])
   (.cutTo [0, 1, 5, 14] (.cond (.t 14) (.skip)
   (.exit 0))))
   (.cutTo [0, 1, 5] (.seq (.block 1 (.seq (.seg true D68x0)
   (.cutTo [0, 1, 5, 26] (.cond (.t 26) (.seq (.seg false [⟨some 4, none, .mov (.k (.bool false)), 0, 0, false, []⟩])
   (.ret))
   (.skip)))))
   (.cutTo [0, 1, 5] (.seg false [⟨some 15, none, .mov (.t 5), 0, 0, false, []⟩,
    ⟨some 16, none, .bin .add (.t 15) (.k (.int .i64 1)), 0, 0, false, []⟩,
    ⟨some 5, none, .mov (.t 16), 0, 0, false, []⟩]))))
def L68x0 : C := B68x0
theorem evL68x0 (run : Run) (draw : List I → Env → Heap → Option (Env × Heap)) (e : Env) (h : Heap) : evC run draw L68x0 e h = evC run draw B68x0 e h := rfl
/-- loop.example/tablehouse/laws.eqWriteS -/
def F68 : F := ⟨27, [(false, 4, 0, false)],
   .seq (.seg false [⟨some 4, none, .mov (.k (.bool false)), 0, 0, false, []⟩])
   (.seq (.seq (.seg false [⟨some 6, none, .mov (.t 0), 0, 0, false, []⟩,
    ⟨some 7, none, .len false (.t 6), 0, 0, false, []⟩,
    ⟨some 8, none, .mov (.t 1), 0, 0, false, []⟩,
    ⟨some 9, none, .len false (.t 8), 0, 0, false, []⟩,
    ⟨some 10, none, .bin .neq (.t 7) (.t 9), 0, 0, false, []⟩])
   (.cutTo [0, 1, 10] (.cond (.t 10) (.seq (.seg false [⟨some 4, none, .mov (.k (.bool false)), 0, 0, false, []⟩])
   (.ret))
   (.skip))))
   (.cutTo [0, 1] (.seq (.seq (.seg false [⟨some 5, none, .mov (.k (.int .i64 0)), 0, 0, false, []⟩])
   (.block 0 (.loop [0, 1, 5] [4] L68x0)))
   (.seq (.seg false [⟨some 4, none, .mov (.k (.bool true)), 0, 0, false, []⟩])
   (.ret)))))⟩
def B69x0 : C := .seq (.seq (.seg false [⟨some 6, none, .mov (.t 5), 0, 0, false, []⟩,
    ⟨some 7, none, .mov (.t 0), 0, 0, false, []⟩,
    ⟨some 8, none, .len false (.t 7), 0, 0, false, []⟩,
    ⟨some 9, none, .bin .lss (.t 6) (.t 8), 0, 0, false, []⟩])
   (.cutTo [0, 1, 5, 9] (.cond (.t 9) (.skip)
   (.exit 0))))
   (.cutTo [0, 1, 5] (.seq (.block 1 (.seq (.seg false [⟨some 12, none, .mov (.t 0), 0, 0, false, []⟩,
    ⟨some 13, none, .mov (.t 5), 0, 0, false, []⟩,
    ⟨some 14, none, .mov (.t 1), 0, 0, false, []⟩,
    ⟨some 15, none, .iaddr 3 (.t 12) (.t 13), 0, 0, false, []⟩,
    ⟨some 16, none, .faddr 0 1 (.t 15), 0, 0, false, []⟩,
    ⟨none, none, .store 1 (.t 16) (.t 14), 0, 0, false, []⟩])
   (.cutTo [0, 1, 5] (.seq (.seg false [⟨some 17, none, .mov (.t 1), 0, 0, false, []⟩,
    ⟨some 18, none, .bin .add (.t 17) (.k (.int .i64 1)), 0, 0, false, []⟩,
    ⟨some 1, none, .mov (.t 18), 0, 0, false, []⟩])
   (.seq (.seg false [⟨some 19, none, .mov (.t 0), 0, 0, false, []⟩,
    ⟨some 20, none, .mov (.t 5), 0, 0, false, []⟩,
    ⟨some 21, none, .iaddr 3 (.t 19) (.t 20), 0, 0, false, []⟩,
    ⟨some 22, none, .faddr 1 1 (.t 21), 0, 0, false, []⟩,
    ⟨some 23, none, .load false 1 (.t 22), 0, 0, false, []⟩,
    ⟨some 24, none, .mov (.t 1), 0, 0, false, []⟩,
    ⟨some 25, none, .callx 2 115 [.t 23, .t 24], 0, 0, false, []⟩,
    ⟨some 1, none, .mov (.t 25), 0, 0, false, []⟩])
   (.cutTo [0, 1, 5] (.seq (.seg false [⟨some 26, none, .mov (.t 0), 0, 0, false, []⟩,
    ⟨some 27, none, .mov (.t 5), 0, 0, false, []⟩,
    ⟨some 28, none, .mov (.t 1), 0, 0, false, []⟩,
    ⟨some 29, none, .bin .rem (.t 28) (.k (.int .i64 3)), 0, 0, false, []⟩,
    ⟨some 30, none, .bin .eql (.t 29) (.k (.int .i64 0)), 0, 0, false, []⟩,
    ⟨some 31, none, .iaddr 3 (.t 26) (.t 27), 0, 0, false, []⟩,
    ⟨some 32, none, .faddr 2 1 (.t 31), 0, 0, false, []⟩,
    ⟨none, none, .store 1 (.t 32) (.t 30), 0, 0, false, []⟩])
   (.cutTo [0, 1, 5] (.seg false [⟨some 33, none, .mov (.t 1), 0, 0, false, []⟩,
    ⟨some 34, none, .bin .add (.t 33) (.k (.int .i64 1)), 0, 0, false, []⟩,
    ⟨some 1, none, .mov (.t 34), 0, 0, false, []⟩])))))))))
   (.cutTo [0, 1, 5] (.seg false [⟨some 10, none, .mov (.t 5), 0, 0, false, []⟩,
    ⟨some 11, none, .bin .add (.t 10) (.k (.int .i64 1)), 0, 0, false, []⟩,
    ⟨some 5, none, .mov (.t 11), 0, 0, false, []⟩]))))
def L69x0 : C := B69x0
theorem evL69x0 (run : Run) (draw : List I → Env → Heap → Option (Env × Heap)) (e : Env) (h : Heap) : evC run draw L69x0 e h = evC run draw B69x0 e h := rfl
/-- loop.example/tablehouse/laws.markWriteS -/
def F69 : F := ⟨36, [(false, 4, 0, false)],
   .seq (.seg false [⟨some 4, none, .mov (.k (.int .i64 0)), 0, 0, false, []⟩])
   (.seq (.seq (.seg false [⟨some 5, none, .mov (.k (.int .i64 0)), 0, 0, false, []⟩])
   (.block 0 (.loopk [0, 1, 5] [1] L69x0)))
   (.seq (.seg false [⟨some 35, none, .mov (.t 1), 0, 0, false, []⟩,
    ⟨some 4, none, .mov (.t 35), 0, 0, false, []⟩])
   (.ret)))⟩
/-- loop.example/tablehouse/impl.clone<byte> -/
def F80 : F := ⟨9, [(false, 2, 0, false)],
   .seq (.seg false [⟨some 2, none, .mov (.k (.sl true 1 [])), 0, 0, false, []⟩])
   (.seq (.seq (.seg false [⟨some 3, none, .mov (.t 0), 0, 0, false, []⟩,
    ⟨some 4, none, .len false (.t 3), 0, 0, false, []⟩,
    ⟨some 5, none, .bin .eql (.t 4) (.k (.int .i64 0)), 0, 0, false, []⟩])
   (.cond (.t 5) (.seq (.seg false [⟨some 2, none, .mov (.k (.sl true 1 [])), 0, 0, false, []⟩])
   (.ret))
   (.skip)))
   (.cutTo [0] (.seq (.seg false [⟨some 6, none, .mov (.t 0), 0, 0, false, []⟩,
    ⟨some 7, none, .app 1 (.k (.sl true 1 [])) (.t 6), 0, 0, false, []⟩,
    ⟨some 8, none, .callx 2 85 [.t 7], 0, 0, false, []⟩,
    ⟨some 2, none, .mov (.t 8), 0, 0, false, []⟩])
   (.cutTo [2] (.ret)))))⟩
def E87x0 : List I := [⟨some 12, none, .mov (.t 3), 0, 0, false, [3]⟩,
    ⟨some 13, none, .mov (.t 0), 0, 0, false, []⟩,
    ⟨some 14, none, .mov (.t 4), 0, 0, false, []⟩,
    ⟨some 15, none, .iaddr 2 (.t 13) (.t 14), 0, 0, false, []⟩,
    ⟨some 16, none, .faddr 0 1 (.t 15), 0, 0, false, []⟩,
    ⟨some 17, none, .load false 1 (.t 16), 0, 0, false, []⟩,
    ⟨some 18, none, .mov (.t 0), 0, 0, false, []⟩,
    ⟨some 19, none, .mov (.t 4), 0, 0, false, []⟩,
    ⟨some 20, none, .iaddr 2 (.t 18) (.t 19), 0, 0, false, []⟩,
    ⟨some 21, none, .faddr 1 1 (.t 20), 0, 0, false, []⟩,
    ⟨some 22, none, .load false 1 (.t 21), 0, 0, false, []⟩,
    ⟨some 23, none, .call 128 [.t 22] false false, 0, 0, false, []⟩,
    ⟨some 24, none, .build [.int .i64 0, .sl true 3 []] [(0, 1, .t 17), (1, 1, .t 23)], 0, 0, false, []⟩,
    ⟨some 25, none, .mksl false 2 [.t 24], 0, 0, false, []⟩,
    ⟨some 26, none, .app 2 (.t 12) (.t 25), 0, 0, true, []⟩,
    ⟨some 3, none, .mov (.t 26), 1, 1, false, []⟩]
def D87x0 : List I := E87x0
theorem evD87x0 (run : Run) (e : Env) (h : Heap) : drawI run D87x0 e h = DrawW (evW run E87x0 e h []) run E87x0 e h := drawI_write run _ e h
def B87x0 : C := .seq (.seq (.seg false [⟨some 6, none, .mov (.t 4), 0, 0, false, []⟩,
    ⟨some 7, none, .mov (.t 0), 0, 0, false, []⟩,
    ⟨some 8, none, .len false (.t 7), 0, 0, false, []⟩,
    ⟨some 9, none, .bin .lss (.t 6) (.t 8), 0, 0, false, []⟩])
   (.cutTo [0, 3, 4, 9] (.cond (.t 9) (.skip)
   (.exit 0))))
   (.cutTo [0, 3, 4] (.seq (.block 1 (.seg true D87x0))
   (.cutTo [0, 3, 4] (.seg false [⟨some 10, none, .mov (.t 4), 0, 0, false, []⟩,
    ⟨some 11, none, .bin .add (.t 10) (.k (.int .i64 1)), 0, 0, false, []⟩,
    ⟨some 4, none, .mov (.t 11), 0, 0, false, []⟩]))))
def L87x0 : C := B87x0
theorem evL87x0 (run : Run) (draw : List I → Env → Heap → Option (Env × Heap)) (e : Env) (h : Heap) : evC run draw L87x0 e h = evC run draw B87x0 e h := rfl
/-- loop.example/tablehouse/spec.l18Copy -/
def F87 : F := ⟨28, [(false, 2, 0, false)],
   .seq (.seg false [⟨some 2, none, .nilrow 2, 0, 0, false, []⟩])
   (.seq (.seg false [⟨some 5, none, .mksl true 2 [], 0, 0, false, []⟩,
    ⟨some 3, none, .mov (.t 5), 0, 0, false, []⟩])
   (.seq (.seq (.seg false [⟨some 4, none, .mov (.k (.int .i64 0)), 0, 0, false, []⟩])
   (.block 0 (.loop [0, 3, 4] [3] L87x0)))
   (.seq (.seg false [⟨some 27, none, .mov (.t 3), 0, 0, false, []⟩,
    ⟨some 2, none, .mov (.t 27), 0, 0, false, []⟩])
   (.ret))))⟩
def E88x0 : List I := [⟨some 12, none, .mov (.t 3), 0, 1, false, [3]⟩,
    ⟨some 13, none, .faddr 0 1 (.t 5), 0, 1, false, []⟩,
    ⟨some 14, none, .load false 1 (.t 13), 0, 1, false, []⟩,
    ⟨some 15, none, .faddr 1 1 (.t 5), 0, 0, false, []⟩,
    ⟨some 16, none, .load false 1 (.t 15), 0, 0, false, []⟩,
    ⟨some 17, none, .callx 0 77 [.t 16], 0, 0, true, []⟩,
    ⟨some 18, none, .build [.int .i64 0, .sl true 3 []] [(0, 1, .t 14), (1, 1, .t 17)], 1, 1, false, []⟩,
    ⟨some 19, none, .mkns 2 [.t 18], 1, 1, false, []⟩,
    ⟨some 20, none, .appn 2 (.t 12) (.t 19), 1, 0, true, []⟩,
    ⟨some 3, none, .mov (.t 20), 2, 2, false, []⟩]
def D88x0 : List I := E88x0
theorem evD88x0 (run : Run) (e : Env) (h : Heap) : drawI run D88x0 e h = DrawW (evW run E88x0 e h []) run E88x0 e h := drawI_write run _ e h
def B88x0 : C := .seq (.seg false [⟨some 9, none, .bin .lss (.t 8) (.t 7), 0, 0, false, []⟩])
   (.seq (.cond (.t 9) (.skip)
   (.exit 0))
   (.seq (.block 1 (.seq (.seg false [⟨some 10, none, .iaddr 2 (.t 6) (.t 8), 0, 0, false, []⟩,
    ⟨some 11, none, .load true 2 (.t 10), 0, 0, false, []⟩,
    ⟨some 5, none, .alloc [.int .i64 0, .sl true 3 []], 0, 0, false, []⟩,
    ⟨none, none, .store 2 (.t 5) (.t 11), 0, 0, false, []⟩])
   (.cutTo [3, 5, 6, 7, 8] (.seg true D88x0))))
   (.cutTo [3, 6, 7, 8] (.seg false [⟨some 21, none, .bin .add (.t 8) (.k (.int .i64 1)), 0, 0, false, []⟩,
    ⟨some 8, none, .mov (.t 21), 0, 0, false, []⟩]))))
def L88x0 : C := B88x0
theorem evL88x0 (run : Run) (draw : List I → Env → Heap → Option (Env × Heap)) (e : Env) (h : Heap) : evC run draw L88x0 e h = evC run draw B88x0 e h := rfl
/-- loop.example/tablehouse/impl.logCopy -/
def F88 : F := ⟨24, [(false, 2, 0, false)],
   .seq (.seg false [⟨some 2, none, .mov (.k (.sl true 2 [])), 0, 0, false, []⟩])
   (.seq (.seg false [⟨some 3, none, .nilnest 2, 0, 0, false, []⟩])
   (.seq (.seq (.seg false [⟨some 6, none, .mov (.t 0), 0, 0, false, []⟩,
    ⟨some 7, none, .len false (.t 6), 0, 0, false, []⟩,
    ⟨some 8, none, .mov (.k (.int .i64 0)), 0, 0, false, []⟩])
   (.block 0 (.loopk [3, 6, 7, 8] [3] L88x0)))
   (.seq (.seg false [⟨some 22, none, .mov (.t 3), 0, 0, false, []⟩,
    ⟨some 23, none, .callx 2 79 [.t 22], 0, 0, false, []⟩,
    ⟨some 2, none, .mov (.t 23), 0, 0, false, []⟩])
   (.ret))))⟩
def B86x0 : C := .seq (.seq (.seg false [⟨some 6, none, .mov (.t 5), 0, 0, false, []⟩,
    ⟨some 7, none, .mov (.t 0), 0, 0, false, []⟩,
    ⟨some 8, none, .len false (.t 7), 0, 0, false, []⟩,
    ⟨some 9, none, .bin .lss (.t 6) (.t 8), 0, 0, false, []⟩])
   (.cutTo [0, 1, 5, 9] (.cond (.t 9) (.skip)
   (.exit 0))))
   (.cutTo [0, 1, 5] (.seq (.block 1 (.seq (.seq (.seg false [⟨some 12, none, .mov (.t 0), 0, 0, false, []⟩,
    ⟨some 13, none, .mov (.t 5), 0, 0, false, []⟩,
    ⟨some 14, none, .iaddr 3 (.t 12) (.t 13), 0, 0, false, []⟩,
    ⟨some 15, none, .faddr 0 1 (.t 14), 0, 0, false, []⟩,
    ⟨some 16, none, .load false 1 (.t 15), 0, 0, false, []⟩,
    ⟨some 17, none, .mov (.t 1), 0, 0, false, []⟩,
    ⟨some 18, none, .bin .neq (.t 16) (.t 17), 0, 0, false, []⟩])
   (.cutTo [0, 1, 5, 18] (.cond (.t 18) (.seq (.seg false [⟨some 4, none, .mov (.k (.int .i64 (-1))), 0, 0, false, []⟩])
   (.ret))
   (.skip))))
   (.cutTo [0, 1, 5] (.seq (.seg false [⟨some 19, none, .mov (.t 1), 0, 0, false, []⟩,
    ⟨some 20, none, .bin .add (.t 19) (.k (.int .i64 1)), 0, 0, false, []⟩,
    ⟨some 1, none, .mov (.t 20), 0, 0, false, []⟩])
   (.seq (.seg false [⟨some 21, none, .mov (.t 0), 0, 0, false, []⟩,
    ⟨some 22, none, .mov (.t 5), 0, 0, false, []⟩,
    ⟨some 23, none, .iaddr 3 (.t 21) (.t 22), 0, 0, false, []⟩,
    ⟨some 24, none, .faddr 1 1 (.t 23), 0, 0, false, []⟩,
    ⟨some 25, none, .load false 1 (.t 24), 0, 0, false, []⟩,
    ⟨some 26, none, .mov (.t 1), 0, 0, false, []⟩,
    ⟨some 27, none, .call 127 [.t 25, .t 26] false false, 0, 0, false, []⟩,
    ⟨some 1, none, .mov (.t 27), 0, 0, false, []⟩])
   (.cutTo [0, 1, 5] (.seq (.seq (.seg false [⟨some 28, none, .mov (.t 1), 0, 0, false, []⟩,
    ⟨some 29, none, .bin .lss (.t 28) (.k (.int .i64 0)), 0, 0, false, []⟩])
   (.cond (.t 29) (.seq (.seg false [⟨some 4, none, .mov (.k (.int .i64 (-1))), 0, 0, false, []⟩])
   (.ret))
   (.skip)))
   (.seq (.seq (.seg false [⟨some 30, none, .mov (.t 0), 0, 0, false, []⟩,
    ⟨some 31, none, .mov (.t 5), 0, 0, false, []⟩,
    ⟨some 32, none, .iaddr 3 (.t 30) (.t 31), 0, 0, false, []⟩,
    ⟨some 33, none, .faddr 2 1 (.t 32), 0, 0, false, []⟩,
    ⟨some 34, none, .load false 1 (.t 33), 0, 0, false, []⟩,
    ⟨some 35, none, .mov (.t 1), 0, 0, false, []⟩,
    ⟨some 36, none, .bin .rem (.t 35) (.k (.int .i64 3)), 0, 0, false, []⟩,
    ⟨some 37, none, .bin .eql (.t 36) (.k (.int .i64 0)), 0, 0, false, []⟩,
    ⟨some 38, none, .eqb true (.t 34) (.t 37), 0, 0, false, []⟩])
   (.cutTo [0, 1, 5, 38] (.cond (.t 38) (.seq (.seg false [⟨some 4, none, .mov (.k (.int .i64 (-1))), 0, 0, false, []⟩])
   (.ret))
   (.skip))))
   (.cutTo [0, 1, 5] (.seg false [⟨some 39, none, .mov (.t 1), 0, 0, false, []⟩,
    ⟨some 40, none, .bin .add (.t 39) (.k (.int .i64 1)), 0, 0, false, []⟩,
    ⟨some 1, none, .mov (.t 40), 0, 0, false, []⟩]))))))))))
   (.cutTo [0, 1, 5] (.seg false [⟨some 10, none, .mov (.t 5), 0, 0, false, []⟩,
    ⟨some 11, none, .bin .add (.t 10) (.k (.int .i64 1)), 0, 0, false, []⟩,
    ⟨some 5, none, .mov (.t 11), 0, 0, false, []⟩]))))
def L86x0 : C := B86x0
theorem evL86x0 (run : Run) (draw : List I → Env → Heap → Option (Env × Heap)) (e : Env) (h : Heap) : evC run draw L86x0 e h = evC run draw B86x0 e h := rfl
/-- loop.example/tablehouse/laws.heldWriteS -/
def F86 : F := ⟨42, [(false, 4, 0, false)],
   .seq (.seg false [⟨some 4, none, .mov (.k (.int .i64 0)), 0, 0, false, []⟩])
   (.seq (.seq (.seg false [⟨some 5, none, .mov (.k (.int .i64 0)), 0, 0, false, []⟩])
   (.block 0 (.loop [0, 1, 5] [1, 4] L86x0)))
   (.seq (.seg false [⟨some 41, none, .mov (.t 1), 0, 0, false, []⟩,
    ⟨some 4, none, .mov (.t 41), 0, 0, false, []⟩])
   (.ret)))⟩
/-- loop.example/tablehouse/impl.logCut -/
def F89 : F := ⟨10, [(false, 4, 0, false)],
   .seq (.seg false [⟨some 3, none, .box (.t 1), 0, 0, false, []⟩,
    ⟨some 4, none, .mov (.k (.sl true 2 [])), 0, 0, false, []⟩])
   (.seq (.seg false [⟨some 5, none, .mov (.t 0), 0, 0, false, []⟩,
    ⟨some 6, none, .call 130 [.t 5] false true, 0, 0, false, []⟩,
    ⟨some 7, none, .mkclo 131 [.t 3], 0, 0, false, []⟩,
    ⟨some 8, none, .call 129 [.t 6, .t 7] true false, 0, 0, false, []⟩,
    ⟨some 9, none, .callx 0 88 [.t 8], 0, 0, false, []⟩,
    ⟨some 4, none, .mov (.t 9), 0, 0, false, []⟩])
   (.cutTo [4] (.ret)))⟩
def E91x0 : List I := [⟨some 51, none, .faddr 1 1 (.t 4), 0, 0, false, []⟩,
    ⟨some 52, none, .load false 1 (.t 51), 0, 0, false, []⟩,
    ⟨some 53, none, .mov (.t 0), 0, 0, false, []⟩,
    ⟨some 54, none, .mov (.t 5), 0, 0, false, []⟩,
    ⟨some 55, none, .iaddr 1 (.t 53) (.t 54), 0, 0, false, []⟩,
    ⟨some 56, none, .load false 1 (.t 55), 0, 0, false, []⟩,
    ⟨some 57, none, .conv (.int .i64) (.t 56), 0, 0, false, []⟩,
    ⟨some 58, none, .mov (.t 7), 0, 0, false, []⟩,
    ⟨some 59, none, .mov (.t 0), 0, 0, false, []⟩,
    ⟨some 60, none, .mov (.t 5), 0, 0, false, []⟩,
    ⟨some 61, none, .bin .add (.t 60) (.k (.int .i64 1)), 0, 0, false, []⟩,
    ⟨some 62, none, .iaddr 1 (.t 59) (.t 61), 0, 0, false, []⟩,
    ⟨some 63, none, .load false 1 (.t 62), 0, 0, false, []⟩,
    ⟨some 64, none, .bin .eql (.t 63) (.k (.int .u8 1)), 0, 0, false, []⟩,
    ⟨some 65, none, .build [.int .i64 0, .sl true 3 [], .bool false] [(0, 1, .t 57), (1, 1, .t 58), (2, 1, .t 64)], 0, 0, false, []⟩,
    ⟨some 66, none, .mksl false 3 [.t 65], 0, 0, false, []⟩,
    ⟨some 67, none, .app 3 (.t 52) (.t 66), 0, 0, true, []⟩,
    ⟨some 68, none, .faddr 1 1 (.t 4), 1, 1, false, []⟩,
    ⟨none, none, .store 1 (.t 68) (.t 67), 1, 0, true, []⟩]
def D91x0 : List I := E91x0
theorem evD91x0 (run : Run) (e : Env) (h : Heap) : drawI run D91x0 e h = DrawW (evW run E91x0 e h []) run E91x0 e h := drawI_write run _ e h
def E91x1 : List I := [⟨some 73, none, .load true 2 (.t 4), 0, 0, false, []⟩,
    ⟨some 74, none, .mov (.t 5), 0, 0, false, []⟩,
    ⟨some 75, none, .mov (.t 0), 0, 0, false, []⟩,
    ⟨some 76, none, .len false (.t 75), 0, 0, false, []⟩,
    ⟨some 77, none, .bin .eql (.t 74) (.t 76), 0, 0, false, []⟩,
    ⟨some 78, none, .mov (.t 77), 0, 0, false, []⟩,
    ⟨some 79, some (78, true), .load true 2 (.t 4), 0, 0, false, []⟩,
    ⟨some 80, some (78, true), .mksl false 2 [.t 79], 0, 0, false, []⟩,
    ⟨some 81, some (78, true), .call 63 [.t 80] false false, 0, 0, false, []⟩,
    ⟨some 82, none, .pick (.t 78) (.t 81) (.k (.bool false)), 0, 1, false, []⟩,
    ⟨none, none, .store 2 (.t 2) (.t 73), 0, 0, true, []⟩,
    ⟨some 3, none, .mov (.t 82), 1, 1, false, []⟩]
def D91x1 : List I := E91x1
theorem evD91x1 (run : Run) (e : Env) (h : Heap) : drawI run D91x1 e h = DrawW (evW run E91x1 e h []) run E91x1 e h := drawI_write run _ e h
def B91x0 : C := .seq (.seq (.seg false [⟨some 18, none, .mov (.t 6), 0, 0, false, []⟩,
    ⟨some 19, none, .mov (.t 0), 0, 0, false, []⟩,
    ⟨some 20, none, .iaddr 1 (.t 19) (.k (.int .i64 1)), 0, 0, false, []⟩,
    ⟨some 21, none, .load false 1 (.t 20), 0, 0, false, []⟩,
    ⟨some 22, none, .conv (.int .i64) (.t 21), 0, 0, false, []⟩,
    ⟨some 23, none, .bin .lss (.t 18) (.t 22), 0, 0, false, []⟩])
   (.cutTo [0, 2, 4, 5, 6, 23] (.cond (.t 23) (.skip)
   (.exit 0))))
   (.cutTo [0, 2, 4, 5, 6] (.seq (.block 1 (.seq (.seq (.seg false [⟨some 26, none, .mov (.t 5), 0, 0, false, []⟩,
    ⟨some 27, none, .bin .add (.t 26) (.k (.int .i64 2)), 0, 0, false, []⟩,
    ⟨some 28, none, .mov (.t 0), 0, 0, false, []⟩,
    ⟨some 29, none, .len false (.t 28), 0, 0, false, []⟩,
    ⟨some 30, none, .bin .gtr (.t 27) (.t 29), 0, 0, false, []⟩,
    ⟨some 31, none, .mov (.t 30), 0, 0, false, []⟩,
    ⟨some 32, some (31, false), .mov (.t 0), 0, 0, false, []⟩,
    ⟨some 33, some (31, false), .mov (.t 5), 0, 0, false, []⟩,
    ⟨some 34, some (31, false), .bin .add (.t 33) (.k (.int .i64 1)), 0, 0, false, []⟩,
    ⟨some 35, some (31, false), .iaddr 1 (.t 32) (.t 34), 0, 0, false, []⟩,
    ⟨some 36, some (31, false), .load false 1 (.t 35), 0, 0, false, []⟩,
    ⟨some 37, some (31, false), .bin .gtr (.t 36) (.k (.int .u8 1)), 0, 0, false, []⟩,
    ⟨some 38, none, .pick (.t 31) (.k (.bool true)) (.t 37), 0, 0, false, []⟩])
   (.cutTo [0, 2, 4, 5, 6, 38] (.cond (.t 38) (.seq (.seg false [⟨some 39, none, .build [.int .i64 0, .sl true 3 []] [], 0, 0, false, []⟩,
    ⟨none, none, .store 2 (.t 2) (.t 39), 0, 0, false, []⟩,
    ⟨some 3, none, .mov (.k (.bool false)), 0, 0, false, []⟩])
   (.ret))
   (.skip))))
   (.cutTo [0, 2, 4, 5, 6] (.seq (.seg false [⟨some 41, none, .mov (.t 0), 0, 0, false, []⟩,
    ⟨some 42, none, .mov (.t 5), 0, 0, false, []⟩,
    ⟨some 43, none, .bin .add (.t 42) (.k (.int .i64 2)), 0, 0, false, []⟩,
    ⟨some 44, none, .slc false 1 (.t 41) (some (.t 43)) none none, 0, 0, false, []⟩,
    ⟨some 45, none, .call 132 [.t 44] false false, 0, 0, false, []⟩,
    ⟨some 40, none, .mov (.t 45), 0, 0, false, []⟩,
    ⟨some 46, none, .ext (.t 40) 0, 0, 0, false, []⟩,
    ⟨some 47, none, .ext (.t 40) 1, 0, 0, false, []⟩,
    ⟨some 7, none, .mov (.t 46), 0, 0, false, []⟩,
    ⟨some 8, none, .mov (.t 47), 0, 0, false, []⟩])
   (.cutTo [0, 2, 4, 5, 6, 7, 8] (.seq (.seq (.seg false [⟨some 48, none, .mov (.t 8), 0, 0, false, []⟩,
    ⟨some 49, none, .bin .eql (.t 48) (.k (.int .i64 0)), 0, 0, false, []⟩])
   (.cond (.t 49) (.seq (.seg false [⟨some 50, none, .build [.int .i64 0, .sl true 3 []] [], 0, 0, false, []⟩,
    ⟨none, none, .store 2 (.t 2) (.t 50), 0, 0, false, []⟩,
    ⟨some 3, none, .mov (.k (.bool false)), 0, 0, false, []⟩])
   (.ret))
   (.skip)))
   (.cutTo [0, 2, 4, 5, 6, 7, 8] (.seq (.seg true D91x0)
   (.cutTo [0, 2, 4, 5, 6, 8] (.seg false [⟨some 69, none, .mov (.t 5), 0, 0, false, []⟩,
    ⟨some 70, none, .bin .add (.t 69) (.k (.int .i64 2)), 0, 0, false, []⟩,
    ⟨some 71, none, .mov (.t 8), 0, 0, false, []⟩,
    ⟨some 72, none, .bin .add (.t 70) (.t 71), 0, 0, false, []⟩,
    ⟨some 5, none, .mov (.t 72), 0, 0, false, []⟩]))))))))))
   (.cutTo [0, 2, 4, 5, 6] (.seg false [⟨some 24, none, .mov (.t 6), 0, 0, false, []⟩,
    ⟨some 25, none, .bin .add (.t 24) (.k (.int .i64 1)), 0, 0, false, []⟩,
    ⟨some 6, none, .mov (.t 25), 0, 0, false, []⟩]))))
def L91x0 : C := B91x0
theorem evL91x0 (run : Run) (draw : List I → Env → Heap → Option (Env × Heap)) (e : Env) (h : Heap) : evC run draw L91x0 e h = evC run draw B91x0 e h := rfl
/-- loop.example/tablehouse/spec.l18Read -/
def F91 : F := ⟨83, [(true, 2, 2, true), (false, 3, 0, false)],
   .seq (.seg false [⟨some 2, none, .alloc [.int .i64 0, .sl true 3 []], 0, 0, false, []⟩,
    ⟨some 3, none, .mov (.k (.bool false)), 0, 0, false, []⟩])
   (.seq (.seq (.seg false [⟨some 9, none, .mov (.t 0), 0, 0, false, []⟩,
    ⟨some 10, none, .len false (.t 9), 0, 0, false, []⟩,
    ⟨some 11, none, .bin .lss (.t 10) (.k (.int .i64 2)), 0, 0, false, []⟩])
   (.cond (.t 11) (.seq (.seg false [⟨some 12, none, .build [.int .i64 0, .sl true 3 []] [], 0, 0, false, []⟩,
    ⟨none, none, .store 2 (.t 2) (.t 12), 0, 0, false, []⟩,
    ⟨some 3, none, .mov (.k (.bool false)), 0, 0, false, []⟩])
   (.ret))
   (.skip)))
   (.cutTo [0, 2] (.seq (.seg false [⟨some 13, none, .mov (.t 0), 0, 0, false, []⟩,
    ⟨some 14, none, .iaddr 1 (.t 13) (.k (.int .i64 0)), 0, 0, false, []⟩,
    ⟨some 15, none, .load false 1 (.t 14), 0, 0, false, []⟩,
    ⟨some 16, none, .conv (.int .i64) (.t 15), 0, 0, false, []⟩,
    ⟨some 17, none, .build [.int .i64 0, .sl true 3 []] [(0, 1, .t 16)], 0, 0, false, []⟩,
    ⟨some 4, none, .alloc [.int .i64 0, .sl true 3 []], 0, 0, false, []⟩,
    ⟨none, none, .store 2 (.t 4) (.t 17), 0, 0, false, []⟩])
   (.cutTo [0, 2, 4] (.seq (.seg false [⟨some 5, none, .mov (.k (.int .i64 2)), 0, 0, false, []⟩])
   (.seq (.seq (.seg false [⟨some 6, none, .mov (.k (.int .i64 0)), 0, 0, false, []⟩])
   (.block 0 (.loop [0, 2, 4, 5, 6] [0, 2, 3, 4, 5] L91x0)))
   (.seq (.frzc 4 (.seg true D91x1))
   (.cutTo [2, 3] (.ret)))))))))⟩
def E75x0 : List I := [⟨some 8, none, .mov (.t 0), 0, 0, false, []⟩,
    ⟨some 9, none, .iaddr 1 (.t 8) (.k (.int .i64 0)), 0, 0, false, []⟩,
    ⟨some 10, none, .load false 1 (.t 9), 0, 0, false, []⟩,
    ⟨some 11, none, .conv (.int .i64) (.t 10), 0, 0, false, []⟩,
    ⟨some 12, none, .bin .shl (.t 11) (.k (.int .u64 8)), 0, 0, false, []⟩,
    ⟨some 13, none, .mov (.t 0), 0, 0, false, []⟩,
    ⟨some 14, none, .iaddr 1 (.t 13) (.k (.int .i64 1)), 0, 0, false, []⟩,
    ⟨some 15, none, .load false 1 (.t 14), 0, 0, false, []⟩,
    ⟨some 16, none, .conv (.int .i64) (.t 15), 0, 0, false, []⟩,
    ⟨some 17, none, .bin .add (.t 12) (.t 16), 0, 0, false, []⟩,
    ⟨some 4, none, .mov (.t 17), 0, 0, false, []⟩]
def D75x0 : List I := E75x0
theorem evD75x0 (run : Run) (e : Env) (h : Heap) : drawI run D75x0 e h = DrawS (evQ run E75x0 e h) run E75x0 e h := drawI_quiet run _ (by rfl) e h
def E75x1 : List I := [⟨some 18, none, .mov (.t 0), 0, 0, false, []⟩,
    ⟨some 19, none, .len false (.t 18), 0, 0, false, []⟩,
    ⟨some 20, none, .mov (.t 4), 0, 0, false, []⟩,
    ⟨some 21, none, .bin .add (.t 20) (.k (.int .i64 3)), 0, 0, false, []⟩,
    ⟨some 22, none, .bin .lss (.t 19) (.t 21), 0, 0, false, []⟩,
    ⟨some 23, none, .mov (.t 22), 0, 0, false, []⟩,
    ⟨some 24, some (23, false), .mov (.t 0), 0, 0, false, []⟩,
    ⟨some 25, some (23, false), .mov (.t 4), 0, 0, false, []⟩,
    ⟨some 26, some (23, false), .bin .add (.t 25) (.k (.int .i64 2)), 0, 0, false, []⟩,
    ⟨some 27, some (23, false), .slc false 1 (.t 24) (some (.k (.int .i64 2))) (some (.t 26)) none, 0, 0, false, []⟩,
    ⟨some 28, some (23, false), .call 120 [.t 27] false false, 0, 0, false, []⟩,
    ⟨some 29, some (23, false), .mov (.t 0), 0, 0, false, []⟩,
    ⟨some 30, some (23, false), .mov (.t 4), 0, 0, false, []⟩,
    ⟨some 31, some (23, false), .bin .add (.t 30) (.k (.int .i64 2)), 0, 0, false, []⟩,
    ⟨some 32, some (23, false), .iaddr 1 (.t 29) (.t 31), 0, 0, false, []⟩,
    ⟨some 33, some (23, false), .load false 1 (.t 32), 0, 0, false, []⟩,
    ⟨some 34, some (23, false), .bin .neq (.t 28) (.t 33), 0, 0, false, []⟩,
    ⟨some 35, none, .pick (.t 23) (.k (.bool true)) (.t 34), 0, 0, false, []⟩]
def D75x1 : List I := E75x1
theorem evD75x1 (run : Run) (e : Env) (h : Heap) : drawI run D75x1 e h = DrawS (evQ run E75x1 e h) run E75x1 e h := drawI_quiet run _ (by rfl) e h
/-- loop.example/tablehouse/impl.unframed -/
def F75 : F := ⟨42, [(false, 2, 0, false), (false, 3, 0, false)],
   .seq (.seg false [⟨some 2, none, .mov (.k (.sl true 1 [])), 0, 0, false, []⟩,
    ⟨some 3, none, .mov (.k (.int .i64 0)), 0, 0, false, []⟩])
   (.seq (.seq (.seg false [⟨some 5, none, .mov (.t 0), 0, 0, false, []⟩,
    ⟨some 6, none, .len false (.t 5), 0, 0, false, []⟩,
    ⟨some 7, none, .bin .lss (.t 6) (.k (.int .i64 3)), 0, 0, false, []⟩])
   (.cond (.t 7) (.seq (.seg false [⟨some 2, none, .mov (.k (.sl true 1 [])), 0, 0, false, []⟩,
    ⟨some 3, none, .mov (.k (.int .i64 0)), 0, 0, false, []⟩])
   (.ret))
   (.skip)))
   (.cutTo [0] (.seq (.seg true D75x0)
   (.cutTo [0, 4] (.seq (.seq (.seg true D75x1)
   (.cutTo [0, 4, 35] (.cond (.t 35) (.seq (.seg false [⟨some 2, none, .mov (.k (.sl true 1 [])), 0, 0, false, []⟩,
    ⟨some 3, none, .mov (.k (.int .i64 0)), 0, 0, false, []⟩])
   (.ret))
   (.skip))))
   (.cutTo [0, 4] (.seq (.seg false [⟨some 36, none, .mov (.t 0), 0, 0, false, []⟩,
    ⟨some 37, none, .mov (.t 4), 0, 0, false, []⟩,
    ⟨some 38, none, .bin .add (.t 37) (.k (.int .i64 2)), 0, 0, false, []⟩,
    ⟨some 39, none, .slc false 1 (.t 36) (some (.k (.int .i64 2))) (some (.t 38)) none, 0, 0, false, []⟩,
    ⟨some 40, none, .mov (.t 4), 0, 0, false, []⟩,
    ⟨some 41, none, .bin .add (.t 40) (.k (.int .i64 3)), 0, 0, false, []⟩,
    ⟨some 2, none, .mov (.t 39), 0, 0, false, []⟩,
    ⟨some 3, none, .mov (.t 41), 0, 0, false, []⟩])
   (.cutTo [2, 3] (.ret)))))))))⟩
def B31x0 : C := .seq (.seg false [⟨some 22, none, .bin .lss (.t 21) (.t 20), 0, 0, false, []⟩])
   (.seq (.cond (.t 22) (.skip)
   (.exit 0))
   (.seq (.block 1 (.seq (.seg false [⟨some 24, none, .mov (.t 0), 0, 0, false, []⟩,
    ⟨some 25, none, .mov (.t 4), 0, 0, false, []⟩,
    ⟨some 26, none, .slc false 1 (.t 24) (some (.t 25)) none none, 0, 0, false, []⟩,
    ⟨some 27, none, .call 32 [.t 26] false false, 0, 0, false, []⟩,
    ⟨some 23, none, .mov (.t 27), 0, 0, false, []⟩,
    ⟨some 28, none, .ext (.t 23) 0, 0, 0, false, []⟩,
    ⟨some 29, none, .ext (.t 23) 1, 0, 0, false, []⟩,
    ⟨some 6, none, .alloc [.int .i64 0, .int .i64 0, .str ⟨#[]⟩], 0, 0, false, []⟩,
    ⟨none, none, .store 3 (.t 6) (.t 28), 0, 0, false, []⟩,
    ⟨some 7, none, .mov (.t 29), 0, 0, false, []⟩])
   (.cutTo [0, 4, 5, 6, 7, 20, 21] (.seq (.seq (.seg false [⟨some 30, none, .mov (.t 7), 0, 0, false, []⟩,
    ⟨some 31, none, .bin .eql (.t 30) (.k (.int .i64 0)), 0, 0, false, []⟩])
   (.cond (.t 31) (.seq (.seg false [⟨some 2, none, .mov (.k (.sl true 3 [])), 0, 0, false, []⟩,
    ⟨some 3, none, .mov (.k (.int .i64 0)), 0, 0, false, []⟩])
   (.ret))
   (.skip)))
   (.cutTo [0, 4, 5, 6, 7, 20, 21] (.seg false [⟨some 32, none, .mov (.t 5), 0, 0, false, []⟩,
    ⟨some 33, none, .load true 3 (.t 6), 0, 0, false, []⟩,
    ⟨some 34, none, .mksl false 3 [.t 33], 0, 0, false, []⟩,
    ⟨some 35, none, .app 3 (.t 32) (.t 34), 0, 0, false, []⟩,
    ⟨some 36, none, .mov (.t 4), 0, 0, false, []⟩,
    ⟨some 37, none, .mov (.t 7), 0, 0, false, []⟩,
    ⟨some 38, none, .bin .add (.t 36) (.t 37), 0, 0, false, []⟩,
    ⟨some 5, none, .mov (.t 35), 0, 0, false, []⟩,
    ⟨some 4, none, .mov (.t 38), 0, 0, false, []⟩]))))))
   (.cutTo [0, 4, 5, 20, 21] (.seg false [⟨some 39, none, .bin .add (.t 21) (.k (.int .i64 1)), 0, 0, false, []⟩,
    ⟨some 21, none, .mov (.t 39), 0, 0, false, []⟩]))))
def L31x0 : C := B31x0
theorem evL31x0 (run : Run) (draw : List I → Env → Heap → Option (Env × Heap)) (e : Env) (h : Heap) : evC run draw L31x0 e h = evC run draw B31x0 e h := rfl
/-- loop.example/tablehouse/impl.RowFrom -/
def F31 : F := ⟨43, [(false, 2, 0, false), (false, 3, 0, false)],
   .seq (.seg false [⟨some 2, none, .mov (.k (.sl true 3 [])), 0, 0, false, []⟩,
    ⟨some 3, none, .mov (.k (.int .i64 0)), 0, 0, false, []⟩])
   (.seq (.seq (.seg false [⟨some 8, none, .mov (.t 0), 0, 0, false, []⟩,
    ⟨some 9, none, .len false (.t 8), 0, 0, false, []⟩,
    ⟨some 10, none, .bin .eql (.t 9) (.k (.int .i64 0)), 0, 0, false, []⟩,
    ⟨some 11, none, .mov (.t 10), 0, 0, false, []⟩,
    ⟨some 12, some (11, false), .mov (.t 0), 0, 0, false, []⟩,
    ⟨some 13, some (11, false), .iaddr 1 (.t 12) (.k (.int .i64 0)), 0, 0, false, []⟩,
    ⟨some 14, some (11, false), .load false 1 (.t 13), 0, 0, false, []⟩,
    ⟨some 15, some (11, false), .bin .gtr (.t 14) (.k (.int .u8 4)), 0, 0, false, []⟩,
    ⟨some 16, none, .pick (.t 11) (.k (.bool true)) (.t 15), 0, 0, false, []⟩])
   (.cutTo [0, 16] (.cond (.t 16) (.seq (.seg false [⟨some 2, none, .mov (.k (.sl true 3 [])), 0, 0, false, []⟩,
    ⟨some 3, none, .mov (.k (.int .i64 0)), 0, 0, false, []⟩])
   (.ret))
   (.skip))))
   (.cutTo [0] (.seq (.seg false [⟨some 4, none, .mov (.k (.int .i64 1)), 0, 0, false, []⟩])
   (.seq (.seg false [⟨some 5, none, .nilrow 3, 0, 0, false, []⟩])
   (.seq (.seq (.seg false [⟨some 17, none, .mov (.t 0), 0, 0, false, []⟩,
    ⟨some 18, none, .iaddr 1 (.t 17) (.k (.int .i64 0)), 0, 0, false, []⟩,
    ⟨some 19, none, .load false 1 (.t 18), 0, 0, false, []⟩,
    ⟨some 20, none, .conv (.int .i64) (.t 19), 0, 0, false, []⟩,
    ⟨some 21, none, .mov (.k (.int .i64 0)), 0, 0, false, []⟩])
   (.cutTo [0, 4, 5, 20, 21] (.block 0 (.loop [0, 4, 5, 20, 21] [2, 3, 4, 5] L31x0))))
   (.cutTo [4, 5] (.seq (.seg false [⟨some 40, none, .mov (.t 5), 0, 0, false, []⟩,
    ⟨some 41, none, .callx 0 81 [.t 40], 0, 0, false, []⟩,
    ⟨some 42, none, .mov (.t 4), 0, 0, false, []⟩,
    ⟨some 2, none, .mov (.t 41), 0, 0, false, []⟩,
    ⟨some 3, none, .mov (.t 42), 0, 0, false, []⟩])
   (.cutTo [2, 3] (.ret)))))))))⟩
def E76x0 : List I := [⟨some 16, none, .mov (.t 0), 0, 0, false, []⟩,
    ⟨some 17, none, .mov (.t 5), 0, 0, false, []⟩,
    ⟨some 18, none, .iaddr 1 (.t 16) (.t 17), 0, 0, false, []⟩,
    ⟨some 19, none, .load false 1 (.t 18), 0, 0, false, []⟩,
    ⟨some 20, none, .mov (.t 1), 0, 0, false, []⟩,
    ⟨some 21, none, .mov (.t 5), 0, 0, false, []⟩,
    ⟨some 22, none, .iaddr 1 (.t 20) (.t 21), 0, 0, false, []⟩,
    ⟨some 23, none, .load false 1 (.t 22), 0, 0, false, []⟩,
    ⟨some 24, none, .bin .neq (.t 19) (.t 23), 0, 0, false, []⟩]
def D76x0 : List I := E76x0
theorem evD76x0 (run : Run) (e : Env) (h : Heap) : drawI run D76x0 e h = DrawS (evQ run E76x0 e h) run E76x0 e h := drawI_quiet run _ (by rfl) e h
def B76x0 : C := .seq (.seg false [⟨some 14, none, .bin .lss (.t 13) (.t 12), 0, 0, false, []⟩])
   (.seq (.cond (.t 14) (.skip)
   (.exit 0))
   (.seq (.block 1 (.seq (.seg false [⟨some 15, none, .mov (.t 13), 0, 0, false, []⟩,
    ⟨some 5, none, .mov (.t 15), 0, 0, false, []⟩])
   (.seq (.seg true D76x0)
   (.cutTo [0, 1, 12, 13, 24] (.cond (.t 24) (.seq (.seg false [⟨some 4, none, .mov (.k (.bool false)), 0, 0, false, []⟩])
   (.ret))
   (.skip))))))
   (.cutTo [0, 1, 12, 13] (.seg false [⟨some 25, none, .bin .add (.t 13) (.k (.int .i64 1)), 0, 0, false, []⟩,
    ⟨some 13, none, .mov (.t 25), 0, 0, false, []⟩]))))
def L76x0 : C := B76x0
theorem evL76x0 (run : Run) (draw : List I → Env → Heap → Option (Env × Heap)) (e : Env) (h : Heap) : evC run draw L76x0 e h = evC run draw B76x0 e h := rfl
/-- slices.Equal<<>byte,byte> -/
def F76 : F := ⟨26, [(false, 4, 0, false)],
   .seq (.seg false [⟨some 4, none, .mov (.k (.bool false)), 0, 0, false, []⟩])
   (.seq (.seq (.seg false [⟨some 6, none, .mov (.t 0), 0, 0, false, []⟩,
    ⟨some 7, none, .len false (.t 6), 0, 0, false, []⟩,
    ⟨some 8, none, .mov (.t 1), 0, 0, false, []⟩,
    ⟨some 9, none, .len false (.t 8), 0, 0, false, []⟩,
    ⟨some 10, none, .bin .neq (.t 7) (.t 9), 0, 0, false, []⟩])
   (.cutTo [0, 1, 10] (.cond (.t 10) (.seq (.seg false [⟨some 4, none, .mov (.k (.bool false)), 0, 0, false, []⟩])
   (.ret))
   (.skip))))
   (.cutTo [0, 1] (.seq (.seq (.seg false [⟨some 11, none, .mov (.t 0), 0, 0, false, []⟩,
    ⟨some 12, none, .len false (.t 11), 0, 0, false, []⟩,
    ⟨some 13, none, .mov (.k (.int .i64 0)), 0, 0, false, []⟩])
   (.block 0 (.loop [0, 1, 12, 13] [4] L76x0)))
   (.seq (.seg false [⟨some 4, none, .mov (.k (.bool true)), 0, 0, false, []⟩])
   (.ret)))))⟩
def B77x0 : C := .seq (.seg false [⟨some 9, none, .bin .lss (.t 8) (.t 7), 0, 0, false, []⟩])
   (.seq (.cond (.t 9) (.skip)
   (.exit 0))
   (.seq (.block 1 (.seq (.seg false [⟨some 10, none, .iaddr 3 (.t 6) (.t 8), 0, 0, false, []⟩,
    ⟨some 11, none, .load true 3 (.t 10), 0, 0, false, []⟩,
    ⟨some 5, none, .alloc [.int .i64 0, .sl true 3 [], .bool false], 0, 0, false, []⟩,
    ⟨none, none, .store 3 (.t 5) (.t 11), 0, 0, false, []⟩])
   (.cutTo [3, 5, 6, 7, 8] (.seq (.seg false [⟨some 12, none, .faddr 1 1 (.t 5), 0, 0, false, []⟩,
    ⟨some 13, none, .load false 1 (.t 12), 0, 0, false, []⟩,
    ⟨some 14, none, .callx 0 81 [.t 13], 0, 0, false, []⟩,
    ⟨some 15, none, .faddr 1 1 (.t 5), 0, 0, false, []⟩,
    ⟨none, none, .store 1 (.t 15) (.t 14), 0, 0, false, []⟩])
   (.cutTo [3, 5, 6, 7, 8] (.seg false [⟨some 16, none, .mov (.t 3), 0, 0, false, []⟩,
    ⟨some 17, none, .load true 3 (.t 5), 0, 0, false, []⟩,
    ⟨some 18, none, .mkns 3 [.t 17], 0, 0, false, []⟩,
    ⟨some 19, none, .appn 3 (.t 16) (.t 18), 0, 0, false, []⟩,
    ⟨some 3, none, .mov (.t 19), 0, 0, false, []⟩]))))))
   (.cutTo [3, 6, 7, 8] (.seg false [⟨some 20, none, .bin .add (.t 8) (.k (.int .i64 1)), 0, 0, false, []⟩,
    ⟨some 8, none, .mov (.t 20), 0, 0, false, []⟩]))))
def L77x0 : C := B77x0
theorem evL77x0 (run : Run) (draw : List I → Env → Heap → Option (Env × Heap)) (e : Env) (h : Heap) : evC run draw L77x0 e h = evC run draw B77x0 e h := rfl
/-- loop.example/tablehouse/impl.writesCopy -/
def F77 : F := ⟨23, [(false, 2, 0, false)],
   .seq (.seg false [⟨some 2, none, .mov (.k (.sl true 3 [])), 0, 0, false, []⟩])
   (.seq (.seg false [⟨some 3, none, .nilnest 3, 0, 0, false, []⟩])
   (.seq (.seq (.seg false [⟨some 6, none, .mov (.t 0), 0, 0, false, []⟩,
    ⟨some 7, none, .len false (.t 6), 0, 0, false, []⟩,
    ⟨some 8, none, .mov (.k (.int .i64 0)), 0, 0, false, []⟩])
   (.block 0 (.loopk [3, 6, 7, 8] [3] L77x0)))
   (.seq (.seg false [⟨some 21, none, .mov (.t 3), 0, 0, false, []⟩,
    ⟨some 22, none, .callx 2 121 [.t 21], 0, 0, false, []⟩,
    ⟨some 2, none, .mov (.t 22), 0, 0, false, []⟩])
   (.ret))))⟩
/-- loop.example/tablehouse/laws.szWrite -/
def F107 : F := ⟨12, [(false, 4, 0, false)],
   .seq (.seg false [⟨some 2, none, .box (.t 0), 0, 0, false, []⟩,
    ⟨some 4, none, .mov (.k (.int .i64 0)), 0, 0, false, []⟩])
   (.seq (.seg false [⟨some 5, none, .faddr 1 1 (.t 2), 0, 0, false, []⟩,
    ⟨some 6, none, .load false 1 (.t 5), 0, 0, false, []⟩,
    ⟨some 7, none, .mov (.t 1), 0, 0, false, []⟩,
    ⟨some 8, none, .call 143 [.t 6, .t 7] false false, 0, 0, false, []⟩,
    ⟨some 1, none, .mov (.t 8), 0, 0, false, []⟩])
   (.cutTo [1] (.seq (.seq (.seg false [⟨some 9, none, .mov (.t 1), 0, 0, false, []⟩,
    ⟨some 10, none, .bin .lss (.t 9) (.k (.int .i64 0)), 0, 0, false, []⟩])
   (.cond (.t 10) (.seq (.seg false [⟨some 4, none, .mov (.k (.int .i64 (-1))), 0, 0, false, []⟩])
   (.ret))
   (.skip)))
   (.seq (.seg false [⟨some 11, none, .mov (.t 1), 0, 0, false, []⟩,
    ⟨some 4, none, .mov (.t 11), 0, 0, false, []⟩])
   (.ret)))))⟩
/-- loop.example/tablehouse/laws.toWrite -/
def F111 : F := ⟨15, [(true, 2, 3, true)],
   .seq (.seg false [⟨some 1, none, .box (.t 0), 0, 0, false, []⟩,
    ⟨some 2, none, .alloc [.int .i64 0, .sl true 3 [], .bool false], 0, 0, false, []⟩])
   (.seq (.seg false [⟨some 3, none, .alloc [.int .i64 0, .sl true 3 [], .bool false], 0, 0, false, []⟩])
   (.seq (.seg false [⟨some 4, none, .faddr 0 1 (.t 1), 0, 0, false, []⟩,
    ⟨some 5, none, .load false 1 (.t 4), 0, 0, false, []⟩,
    ⟨some 6, none, .faddr 0 1 (.t 3), 0, 0, false, []⟩,
    ⟨none, none, .store 1 (.t 6) (.t 5), 0, 0, false, []⟩])
   (.cutTo [1, 2, 3] (.seq (.seg false [⟨some 7, none, .faddr 1 1 (.t 1), 0, 0, false, []⟩,
    ⟨some 8, none, .load false 1 (.t 7), 0, 0, false, []⟩,
    ⟨some 9, none, .callx 0 146 [.t 8], 0, 0, false, []⟩,
    ⟨some 10, none, .faddr 1 1 (.t 3), 0, 0, false, []⟩,
    ⟨none, none, .store 1 (.t 10) (.t 9), 0, 0, false, []⟩])
   (.cutTo [1, 2, 3] (.seq (.seg false [⟨some 11, none, .faddr 2 1 (.t 1), 0, 0, false, []⟩,
    ⟨some 12, none, .load false 1 (.t 11), 0, 0, false, []⟩,
    ⟨some 13, none, .faddr 2 1 (.t 3), 0, 0, false, []⟩,
    ⟨none, none, .store 1 (.t 13) (.t 12), 0, 0, false, []⟩])
   (.cutTo [2, 3] (.seq (.seg false [⟨some 14, none, .load true 3 (.t 3), 0, 0, false, []⟩,
    ⟨none, none, .store 3 (.t 2) (.t 14), 0, 0, false, []⟩])
   (.ret)))))))))⟩
/-- loop.example/tablehouse/spec.l1In -/
def F95 : F := ⟨15, [(false, 6, 0, false)],
   .seq (.seg false [⟨some 6, none, .mov (.k (.bool false)), 0, 0, false, []⟩])
   (.seq (.seg false [⟨some 7, none, .mov (.t 0), 0, 0, false, []⟩,
    ⟨some 8, none, .mov (.t 1), 0, 0, false, []⟩,
    ⟨some 9, none, .bin .geq (.t 7) (.t 8), 0, 0, false, []⟩,
    ⟨some 10, none, .mov (.t 9), 0, 0, false, []⟩,
    ⟨some 11, some (10, true), .mov (.t 0), 0, 0, false, []⟩,
    ⟨some 12, some (10, true), .mov (.t 2), 0, 0, false, []⟩,
    ⟨some 13, some (10, true), .bin .leq (.t 11) (.t 12), 0, 0, false, []⟩,
    ⟨some 14, none, .pick (.t 10) (.t 13) (.k (.bool false)), 0, 0, false, []⟩,
    ⟨some 6, none, .mov (.t 14), 0, 0, false, []⟩])
   (.cutTo [6] (.ret)))⟩
def E108x0 : List I := [⟨some 15, none, .faddr 0 1 (.t 4), 0, 0, false, []⟩,
    ⟨some 16, none, .load false 1 (.t 15), 0, 0, false, []⟩,
    ⟨some 17, none, .call 95 [.t 16, .k (.int .i64 0), .k (.int .i64 4)] false false, 0, 0, false, []⟩,
    ⟨some 18, none, .un .not (.t 17), 0, 0, false, []⟩,
    ⟨some 19, none, .mov (.t 18), 0, 0, false, []⟩,
    ⟨some 20, some (19, false), .faddr 1 1 (.t 4), 0, 0, false, []⟩,
    ⟨some 21, some (19, false), .load false 1 (.t 20), 0, 0, false, []⟩,
    ⟨some 22, some (19, false), .call 144 [.t 21] false false, 0, 0, false, []⟩,
    ⟨some 23, some (19, false), .un .not (.t 22), 0, 0, false, []⟩,
    ⟨some 24, none, .pick (.t 19) (.k (.bool true)) (.t 23), 0, 0, false, []⟩,
    ⟨some 25, none, .mov (.t 24), 0, 0, false, []⟩,
    ⟨some 26, some (25, false), .faddr 2 1 (.t 4), 0, 0, false, []⟩,
    ⟨some 27, some (25, false), .load false 1 (.t 26), 0, 0, false, []⟩,
    ⟨some 28, some (25, false), .mov (.t 27), 0, 0, false, []⟩,
    ⟨some 29, some (28, true), .faddr 1 1 (.t 4), 0, 0, false, []⟩,
    ⟨some 30, some (28, true), .load false 1 (.t 29), 0, 0, false, []⟩,
    ⟨some 31, some (28, true), .len false (.t 30), 0, 0, false, []⟩,
    ⟨some 32, some (28, true), .bin .gtr (.t 31) (.k (.int .i64 0)), 0, 0, false, []⟩,
    ⟨some 33, some (25, false), .pick (.t 28) (.t 32) (.k (.bool false)), 0, 0, false, []⟩,
    ⟨some 34, none, .pick (.t 25) (.k (.bool true)) (.t 33), 0, 0, false, []⟩,
    ⟨some 35, none, .mov (.t 34), 0, 0, false, []⟩,
    ⟨some 36, some (35, false), .mov (.t 3), 0, 0, false, []⟩,
    ⟨some 37, some (35, false), .bin .gtr (.t 36) (.k (.int .i64 0)), 0, 0, false, []⟩,
    ⟨some 38, some (35, false), .mov (.t 37), 0, 0, false, []⟩,
    ⟨some 39, some (38, true), .mov (.t 0), 0, 0, false, []⟩,
    ⟨some 40, some (38, true), .mov (.t 3), 0, 0, false, []⟩,
    ⟨some 41, some (38, true), .bin .sub (.t 40) (.k (.int .i64 1)), 0, 0, false, []⟩,
    ⟨some 42, some (38, true), .iaddr 3 (.t 39) (.t 41), 0, 0, false, []⟩,
    ⟨some 43, some (38, true), .faddr 0 1 (.t 42), 0, 0, false, []⟩,
    ⟨some 44, some (38, true), .load false 1 (.t 43), 0, 0, false, []⟩,
    ⟨some 45, some (38, true), .faddr 0 1 (.t 4), 0, 0, false, []⟩,
    ⟨some 46, some (38, true), .load false 1 (.t 45), 0, 0, false, []⟩,
    ⟨some 47, some (38, true), .bin .geq (.t 44) (.t 46), 0, 0, false, []⟩,
    ⟨some 48, some (35, false), .pick (.t 38) (.t 47) (.k (.bool false)), 0, 0, false, []⟩,
    ⟨some 49, none, .pick (.t 35) (.k (.bool true)) (.t 48), 0, 0, false, []⟩]
def D108x0 : List I := E108x0
theorem evD108x0 (run : Run) (e : Env) (h : Heap) : drawI run D108x0 e h = DrawS (evQ run E108x0 e h) run E108x0 e h := drawI_quiet run _ (by rfl) e h
def B108x0 : C := .seq (.seq (.seg false [⟨some 5, none, .mov (.t 3), 0, 0, false, []⟩,
    ⟨some 6, none, .mov (.t 0), 0, 0, false, []⟩,
    ⟨some 7, none, .len false (.t 6), 0, 0, false, []⟩,
    ⟨some 8, none, .bin .lss (.t 5) (.t 7), 0, 0, false, []⟩])
   (.cutTo [0, 3, 8] (.cond (.t 8) (.skip)
   (.exit 0))))
   (.cutTo [0, 3] (.seq (.block 1 (.seq (.seg false [⟨some 11, none, .mov (.t 0), 0, 0, false, []⟩,
    ⟨some 12, none, .mov (.t 3), 0, 0, false, []⟩,
    ⟨some 13, none, .iaddr 3 (.t 11) (.t 12), 0, 0, false, []⟩,
    ⟨some 14, none, .load true 3 (.t 13), 0, 0, false, []⟩,
    ⟨some 4, none, .alloc [.int .i64 0, .sl true 3 [], .bool false], 0, 0, false, []⟩,
    ⟨none, none, .store 3 (.t 4) (.t 14), 0, 0, false, []⟩])
   (.cutTo [0, 3, 4] (.seq (.seg true D108x0)
   (.cutTo [0, 3, 49] (.cond (.t 49) (.seq (.seg false [⟨some 2, none, .mov (.k (.bool false)), 0, 0, false, []⟩])
   (.ret))
   (.skip)))))))
   (.cutTo [0, 3] (.seg false [⟨some 9, none, .mov (.t 3), 0, 0, false, []⟩,
    ⟨some 10, none, .bin .add (.t 9) (.k (.int .i64 1)), 0, 0, false, []⟩,
    ⟨some 3, none, .mov (.t 10), 0, 0, false, []⟩]))))
def L108x0 : C := B108x0
theorem evL108x0 (run : Run) (draw : List I → Env → Heap → Option (Env × Heap)) (e : Env) (h : Heap) : evC run draw L108x0 e h = evC run draw B108x0 e h := rfl
/-- loop.example/tablehouse/spec.WritesOk -/
def F108 : F := ⟨50, [(false, 2, 0, false)],
   .seq (.seg false [⟨some 2, none, .mov (.k (.bool false)), 0, 0, false, []⟩])
   (.seq (.seq (.seg false [⟨some 3, none, .mov (.k (.int .i64 0)), 0, 0, false, []⟩])
   (.block 0 (.loop [0, 3] [2] L108x0)))
   (.seq (.seg false [⟨some 2, none, .mov (.k (.bool true)), 0, 0, false, []⟩])
   (.ret)))⟩
/-- loop.example/tablehouse/spec.l2Bool -/
def F109 : F := ⟨4, [(false, 2, 0, false)],
   .seq (.seg false [⟨some 2, none, .mov (.k (.int .i64 0)), 0, 0, false, []⟩])
   (.seq (.seq (.seg false [⟨some 3, none, .mov (.t 0), 0, 0, false, []⟩])
   (.cond (.t 3) (.seq (.seg false [⟨some 2, none, .mov (.k (.int .i64 1)), 0, 0, false, []⟩])
   (.ret))
   (.skip)))
   (.seq (.seg false [⟨some 2, none, .mov (.k (.int .i64 0)), 0, 0, false, []⟩])
   (.ret)))⟩
def B110x0 : C := .seq (.seq (.seg false [⟨some 13, none, .mov (.t 4), 0, 0, false, []⟩,
    ⟨some 14, none, .mov (.t 0), 0, 0, false, []⟩,
    ⟨some 15, none, .len false (.t 14), 0, 0, false, []⟩,
    ⟨some 16, none, .bin .lss (.t 13) (.t 15), 0, 0, false, []⟩])
   (.cutTo [0, 3, 4, 16] (.cond (.t 16) (.skip)
   (.exit 0))))
   (.cutTo [0, 3, 4] (.seq (.block 1 (.seg false [⟨some 19, none, .mov (.t 3), 0, 0, false, []⟩,
    ⟨some 20, none, .mov (.t 0), 0, 0, false, []⟩,
    ⟨some 21, none, .mov (.t 4), 0, 0, false, []⟩,
    ⟨some 22, none, .iaddr 3 (.t 20) (.t 21), 0, 0, false, []⟩,
    ⟨some 23, none, .load true 3 (.t 22), 0, 0, false, []⟩,
    ⟨some 24, none, .call 145 [.t 23] false false, 0, 0, false, []⟩,
    ⟨some 25, none, .app 1 (.t 19) (.t 24), 0, 0, false, []⟩,
    ⟨some 3, none, .mov (.t 25), 0, 0, false, []⟩]))
   (.cutTo [0, 3, 4] (.seg false [⟨some 17, none, .mov (.t 4), 0, 0, false, []⟩,
    ⟨some 18, none, .bin .add (.t 17) (.k (.int .i64 1)), 0, 0, false, []⟩,
    ⟨some 4, none, .mov (.t 18), 0, 0, false, []⟩]))))
def L110x0 : C := B110x0
theorem evL110x0 (run : Run) (draw : List I → Env → Heap → Option (Env × Heap)) (e : Env) (h : Heap) : evC run draw L110x0 e h = evC run draw B110x0 e h := rfl
/-- loop.example/tablehouse/spec.RowBytes -/
def F110 : F := ⟨27, [(false, 2, 0, false)],
   .seq (.seg false [⟨some 2, none, .nilrow 1, 0, 0, false, []⟩])
   (.seq (.seq (.seg false [⟨some 5, none, .mov (.t 0), 0, 0, false, []⟩,
    ⟨some 6, none, .call 144 [.t 5] false false, 0, 0, false, []⟩,
    ⟨some 7, none, .un .not (.t 6), 0, 0, false, []⟩])
   (.cond (.t 7) (.seq (.seg false [⟨some 8, none, .mksl true 1 [], 0, 0, false, []⟩,
    ⟨some 2, none, .mov (.t 8), 0, 0, false, []⟩])
   (.ret))
   (.skip)))
   (.cutTo [0] (.seq (.seg false [⟨some 9, none, .mov (.t 0), 0, 0, false, []⟩,
    ⟨some 10, none, .len false (.t 9), 0, 0, false, []⟩,
    ⟨some 11, none, .conv (.int .u8) (.t 10), 0, 0, false, []⟩,
    ⟨some 12, none, .mksl true 1 [.t 11], 0, 0, false, []⟩,
    ⟨some 3, none, .mov (.t 12), 0, 0, false, []⟩])
   (.cutTo [0, 3] (.seq (.seq (.seg false [⟨some 4, none, .mov (.k (.int .i64 0)), 0, 0, false, []⟩])
   (.block 0 (.loop [0, 3, 4] [3] L110x0)))
   (.seq (.seg false [⟨some 26, none, .mov (.t 3), 0, 0, false, []⟩,
    ⟨some 2, none, .mov (.t 26), 0, 0, false, []⟩])
   (.ret)))))))⟩
/-- loop.example/tablehouse/impl.between -/
def F72 : F := ⟨15, [(false, 6, 0, false)],
   .seq (.seg false [⟨some 6, none, .mov (.k (.bool false)), 0, 0, false, []⟩])
   (.seq (.seg false [⟨some 7, none, .mov (.t 0), 0, 0, false, []⟩,
    ⟨some 8, none, .mov (.t 1), 0, 0, false, []⟩,
    ⟨some 9, none, .bin .geq (.t 7) (.t 8), 0, 0, false, []⟩,
    ⟨some 10, none, .mov (.t 9), 0, 0, false, []⟩,
    ⟨some 11, some (10, true), .mov (.t 0), 0, 0, false, []⟩,
    ⟨some 12, some (10, true), .mov (.t 2), 0, 0, false, []⟩,
    ⟨some 13, some (10, true), .bin .leq (.t 11) (.t 12), 0, 0, false, []⟩,
    ⟨some 14, none, .pick (.t 10) (.t 13) (.k (.bool false)), 0, 0, false, []⟩,
    ⟨some 6, none, .mov (.t 14), 0, 0, false, []⟩])
   (.cutTo [6] (.ret)))⟩
def E73x0 : List I := [⟨some 12, none, .faddr 0 1 (.t 4), 0, 0, false, []⟩,
    ⟨some 13, none, .load false 1 (.t 12), 0, 0, false, []⟩,
    ⟨some 14, none, .call 119 [.t 13] false false, 0, 0, false, []⟩,
    ⟨some 15, none, .un .not (.t 14), 0, 0, false, []⟩,
    ⟨some 16, none, .mov (.t 15), 0, 0, false, []⟩,
    ⟨some 17, some (16, false), .faddr 1 1 (.t 4), 0, 0, false, []⟩,
    ⟨some 18, some (16, false), .load false 1 (.t 17), 0, 0, false, []⟩,
    ⟨some 19, some (16, false), .call 83 [.t 18] false false, 0, 0, false, []⟩,
    ⟨some 20, some (16, false), .un .not (.t 19), 0, 0, false, []⟩,
    ⟨some 21, none, .pick (.t 16) (.k (.bool true)) (.t 20), 0, 0, false, []⟩,
    ⟨some 22, none, .mov (.t 21), 0, 0, false, []⟩,
    ⟨some 23, some (22, false), .faddr 2 1 (.t 4), 0, 0, false, []⟩,
    ⟨some 24, some (22, false), .load false 1 (.t 23), 0, 0, false, []⟩,
    ⟨some 25, some (22, false), .mov (.t 24), 0, 0, false, []⟩,
    ⟨some 26, some (25, true), .faddr 1 1 (.t 4), 0, 0, false, []⟩,
    ⟨some 27, some (25, true), .load false 1 (.t 26), 0, 0, false, []⟩,
    ⟨some 28, some (25, true), .len false (.t 27), 0, 0, false, []⟩,
    ⟨some 29, some (25, true), .bin .gtr (.t 28) (.k (.int .i64 0)), 0, 0, false, []⟩,
    ⟨some 30, some (22, false), .pick (.t 25) (.t 29) (.k (.bool false)), 0, 0, false, []⟩,
    ⟨some 31, none, .pick (.t 22) (.k (.bool true)) (.t 30), 0, 0, false, []⟩,
    ⟨some 32, none, .mov (.t 31), 0, 0, false, []⟩,
    ⟨some 33, some (32, false), .mov (.t 3), 0, 0, false, []⟩,
    ⟨some 34, some (32, false), .bin .gtr (.t 33) (.k (.int .i64 0)), 0, 0, false, []⟩,
    ⟨some 35, some (32, false), .mov (.t 34), 0, 0, false, []⟩,
    ⟨some 36, some (35, true), .mov (.t 0), 0, 0, false, []⟩,
    ⟨some 37, some (35, true), .mov (.t 3), 0, 0, false, []⟩,
    ⟨some 38, some (35, true), .bin .sub (.t 37) (.k (.int .i64 1)), 0, 0, false, []⟩,
    ⟨some 39, some (35, true), .iaddr 3 (.t 36) (.t 38), 0, 0, false, []⟩,
    ⟨some 40, some (35, true), .faddr 0 1 (.t 39), 0, 0, false, []⟩,
    ⟨some 41, some (35, true), .load false 1 (.t 40), 0, 0, false, []⟩,
    ⟨some 42, some (35, true), .faddr 0 1 (.t 4), 0, 0, false, []⟩,
    ⟨some 43, some (35, true), .load false 1 (.t 42), 0, 0, false, []⟩,
    ⟨some 44, some (35, true), .bin .geq (.t 41) (.t 43), 0, 0, false, []⟩,
    ⟨some 45, some (32, false), .pick (.t 35) (.t 44) (.k (.bool false)), 0, 0, false, []⟩,
    ⟨some 46, none, .pick (.t 32) (.k (.bool true)) (.t 45), 0, 0, false, []⟩]
def D73x0 : List I := E73x0
theorem evD73x0 (run : Run) (e : Env) (h : Heap) : drawI run D73x0 e h = DrawS (evQ run E73x0 e h) run E73x0 e h := drawI_quiet run _ (by rfl) e h
def B73x0 : C := .seq (.seg false [⟨some 8, none, .bin .lss (.t 7) (.t 6), 0, 0, false, []⟩])
   (.seq (.cond (.t 8) (.skip)
   (.exit 0))
   (.seq (.block 1 (.seq (.seg false [⟨some 9, none, .mov (.t 7), 0, 0, false, []⟩,
    ⟨some 10, none, .iaddr 3 (.t 5) (.t 7), 0, 0, false, []⟩,
    ⟨some 11, none, .load true 3 (.t 10), 0, 0, false, []⟩,
    ⟨some 4, none, .alloc [.int .i64 0, .sl true 3 [], .bool false], 0, 0, false, []⟩,
    ⟨some 3, none, .mov (.t 9), 0, 0, false, []⟩,
    ⟨none, none, .store 3 (.t 4) (.t 11), 0, 0, false, []⟩])
   (.cutTo [0, 3, 4, 5, 6, 7] (.seq (.seg true D73x0)
   (.cutTo [0, 5, 6, 7, 46] (.cond (.t 46) (.seq (.seg false [⟨some 2, none, .mov (.k (.bool false)), 0, 0, false, []⟩])
   (.ret))
   (.skip)))))))
   (.cutTo [0, 5, 6, 7] (.seg false [⟨some 47, none, .bin .add (.t 7) (.k (.int .i64 1)), 0, 0, false, []⟩,
    ⟨some 7, none, .mov (.t 47), 0, 0, false, []⟩]))))
def L73x0 : C := B73x0
theorem evL73x0 (run : Run) (draw : List I → Env → Heap → Option (Env × Heap)) (e : Env) (h : Heap) : evC run draw L73x0 e h = evC run draw B73x0 e h := rfl
/-- loop.example/tablehouse/impl.WritesOk -/
def F73 : F := ⟨51, [(false, 2, 0, false)],
   .seq (.seg false [⟨some 2, none, .mov (.k (.bool false)), 0, 0, false, []⟩])
   (.seq (.seq (.seg false [⟨some 5, none, .mov (.t 0), 0, 0, false, []⟩,
    ⟨some 6, none, .len false (.t 5), 0, 0, false, []⟩,
    ⟨some 7, none, .mov (.k (.int .i64 0)), 0, 0, false, []⟩])
   (.block 0 (.loop [0, 5, 6, 7] [0, 2] L73x0)))
   (.seq (.seg false [⟨some 48, none, .mov (.t 0), 0, 0, false, []⟩,
    ⟨some 49, none, .len false (.t 48), 0, 0, false, []⟩,
    ⟨some 50, none, .bin .leq (.t 49) (.k (.int .i64 5)), 0, 0, false, []⟩,
    ⟨some 2, none, .mov (.t 50), 0, 0, false, []⟩])
   (.cutTo [2] (.ret))))⟩
/-- loop.example/tablehouse/impl.truthIf -/
def F112 : F := ⟨4, [(false, 2, 0, false)],
   .seq (.seg false [⟨some 2, none, .mov (.k (.int .i64 0)), 0, 0, false, []⟩])
   (.seq (.seq (.seg false [⟨some 3, none, .mov (.t 0), 0, 0, false, []⟩])
   (.cond (.t 3) (.seq (.seg false [⟨some 2, none, .mov (.k (.int .i64 1)), 0, 0, false, []⟩])
   (.ret))
   (.skip)))
   (.seq (.seg false [⟨some 2, none, .mov (.k (.int .i64 0)), 0, 0, false, []⟩])
   (.ret)))⟩
def B34x0 : C := .seq (.seg false [⟨some 16, none, .bin .lss (.t 15) (.t 14), 0, 0, false, []⟩])
   (.seq (.cond (.t 16) (.skip)
   (.exit 0))
   (.seq (.block 1 (.seq (.seg false [⟨some 17, none, .iaddr 3 (.t 13) (.t 15), 0, 0, false, []⟩,
    ⟨some 18, none, .load true 3 (.t 17), 0, 0, false, []⟩,
    ⟨some 5, none, .alloc [.int .i64 0, .int .i64 0, .str ⟨#[]⟩], 0, 0, false, []⟩,
    ⟨none, none, .store 3 (.t 5) (.t 18), 0, 0, false, []⟩])
   (.cutTo [3, 5, 13, 14, 15] (.seg false [⟨some 19, none, .mov (.t 3), 0, 0, false, []⟩,
    ⟨some 20, none, .load true 3 (.t 5), 0, 0, false, []⟩,
    ⟨some 21, none, .call 84 [.t 20] false false, 0, 0, false, []⟩,
    ⟨some 22, none, .app 1 (.t 19) (.t 21), 0, 0, false, []⟩,
    ⟨some 3, none, .mov (.t 22), 0, 0, false, []⟩]))))
   (.cutTo [3, 13, 14, 15] (.seg false [⟨some 23, none, .bin .add (.t 15) (.k (.int .i64 1)), 0, 0, false, []⟩,
    ⟨some 15, none, .mov (.t 23), 0, 0, false, []⟩]))))
def L34x0 : C := B34x0
theorem evL34x0 (run : Run) (draw : List I → Env → Heap → Option (Env × Heap)) (e : Env) (h : Heap) : evC run draw L34x0 e h = evC run draw B34x0 e h := rfl
/-- loop.example/tablehouse/impl.RowBytes -/
def F34 : F := ⟨26, [(false, 2, 0, false)],
   .seq (.seg false [⟨some 2, none, .mov (.k (.sl true 1 [])), 0, 0, false, []⟩])
   (.seq (.seq (.seg false [⟨some 6, none, .mov (.t 0), 0, 0, false, []⟩,
    ⟨some 7, none, .call 83 [.t 6] false false, 0, 0, false, []⟩,
    ⟨some 8, none, .un .not (.t 7), 0, 0, false, []⟩])
   (.cond (.t 8) (.seq (.seg false [⟨some 2, none, .mov (.k (.sl true 1 [])), 0, 0, false, []⟩])
   (.ret))
   (.skip)))
   (.cutTo [0] (.seq (.seg false [⟨some 9, none, .mov (.t 0), 0, 0, false, []⟩,
    ⟨some 10, none, .len false (.t 9), 0, 0, false, []⟩,
    ⟨some 11, none, .conv (.int .u8) (.t 10), 0, 0, false, []⟩,
    ⟨some 12, none, .mksl true 1 [.t 11], 0, 0, false, []⟩,
    ⟨some 3, none, .mov (.t 12), 0, 0, false, []⟩])
   (.cutTo [0, 3] (.seq (.seq (.seg false [⟨some 13, none, .mov (.t 0), 0, 0, false, []⟩,
    ⟨some 14, none, .len false (.t 13), 0, 0, false, []⟩,
    ⟨some 15, none, .mov (.k (.int .i64 0)), 0, 0, false, []⟩])
   (.block 0 (.loop [3, 13, 14, 15] [3] L34x0)))
   (.seq (.seg false [⟨some 24, none, .mov (.t 3), 0, 0, false, []⟩,
    ⟨some 25, none, .call 85 [.t 24] false false, 0, 0, false, []⟩,
    ⟨some 2, none, .mov (.t 25), 0, 0, false, []⟩])
   (.ret)))))))⟩
/-- loop.example/tablehouse/impl.framed -/
def F113 : F := ⟨18, [(false, 2, 0, false)],
   .seq (.seg false [⟨some 2, none, .mov (.k (.sl true 1 [])), 0, 0, false, []⟩])
   (.seq (.seg false [⟨some 3, none, .mov (.t 0), 0, 0, false, []⟩,
    ⟨some 4, none, .len false (.t 3), 0, 0, false, []⟩,
    ⟨some 5, none, .bin .shr (.t 4) (.k (.int .u64 8)), 0, 0, false, []⟩,
    ⟨some 6, none, .conv (.int .u8) (.t 5), 0, 0, false, []⟩,
    ⟨some 7, none, .mov (.t 0), 0, 0, false, []⟩,
    ⟨some 8, none, .len false (.t 7), 0, 0, false, []⟩,
    ⟨some 9, none, .conv (.int .u8) (.t 8), 0, 0, false, []⟩,
    ⟨some 10, none, .mksl true 1 [.t 6, .t 9], 0, 0, false, []⟩,
    ⟨some 11, none, .mov (.t 0), 0, 0, false, []⟩,
    ⟨some 12, none, .app 1 (.t 10) (.t 11), 0, 0, false, []⟩,
    ⟨some 13, none, .mov (.t 0), 0, 0, false, []⟩,
    ⟨some 14, none, .call 120 [.t 13] false false, 0, 0, false, []⟩,
    ⟨some 15, none, .mksl false 1 [.t 14], 0, 0, false, []⟩,
    ⟨some 16, none, .app 1 (.t 12) (.t 15), 0, 0, false, []⟩,
    ⟨some 17, none, .callx 2 85 [.t 16], 0, 0, false, []⟩,
    ⟨some 2, none, .mov (.t 17), 0, 0, false, []⟩])
   (.cutTo [2] (.ret)))⟩
/-- loop.example/tablehouse/laws.eqWrite -/
def F114 : F := ⟨21, [(false, 4, 0, false)],
   .seq (.seg false [⟨some 2, none, .box (.t 0), 0, 0, false, []⟩,
    ⟨some 3, none, .box (.t 1), 0, 0, false, []⟩,
    ⟨some 4, none, .mov (.k (.bool false)), 0, 0, false, []⟩])
   (.seq (.seq (.seg false [⟨some 5, none, .faddr 0 1 (.t 2), 0, 0, false, []⟩,
    ⟨some 6, none, .load false 1 (.t 5), 0, 0, false, []⟩,
    ⟨some 7, none, .faddr 0 1 (.t 3), 0, 0, false, []⟩,
    ⟨some 8, none, .load false 1 (.t 7), 0, 0, false, []⟩,
    ⟨some 9, none, .bin .neq (.t 6) (.t 8), 0, 0, false, []⟩])
   (.cutTo [2, 3, 9] (.cond (.t 9) (.seq (.seg false [⟨some 4, none, .mov (.k (.bool false)), 0, 0, false, []⟩])
   (.ret))
   (.skip))))
   (.cutTo [2, 3] (.seq (.seq (.seg false [⟨some 10, none, .faddr 1 1 (.t 2), 0, 0, false, []⟩,
    ⟨some 11, none, .load false 1 (.t 10), 0, 0, false, []⟩,
    ⟨some 12, none, .faddr 1 1 (.t 3), 0, 0, false, []⟩,
    ⟨some 13, none, .load false 1 (.t 12), 0, 0, false, []⟩,
    ⟨some 14, none, .call 147 [.t 11, .t 13] false false, 0, 0, false, []⟩,
    ⟨some 15, none, .un .not (.t 14), 0, 0, false, []⟩])
   (.cutTo [2, 3, 15] (.cond (.t 15) (.seq (.seg false [⟨some 4, none, .mov (.k (.bool false)), 0, 0, false, []⟩])
   (.ret))
   (.skip))))
   (.cutTo [2, 3] (.seq (.seq (.seg false [⟨some 16, none, .faddr 2 1 (.t 2), 0, 0, false, []⟩,
    ⟨some 17, none, .load false 1 (.t 16), 0, 0, false, []⟩,
    ⟨some 18, none, .faddr 2 1 (.t 3), 0, 0, false, []⟩,
    ⟨some 19, none, .load false 1 (.t 18), 0, 0, false, []⟩,
    ⟨some 20, none, .eqb true (.t 17) (.t 19), 0, 0, false, []⟩])
   (.cutTo [20] (.cond (.t 20) (.seq (.seg false [⟨some 4, none, .mov (.k (.bool false)), 0, 0, false, []⟩])
   (.ret))
   (.skip))))
   (.cutTo [] (.seq (.seg false [⟨some 4, none, .mov (.k (.bool true)), 0, 0, false, []⟩])
   (.ret))))))))⟩
def B115x0 : C := .seq (.seq (.seg false [⟨some 6, none, .mov (.t 5), 0, 0, false, []⟩,
    ⟨some 7, none, .mov (.t 0), 0, 0, false, []⟩,
    ⟨some 8, none, .len false (.t 7), 0, 0, false, []⟩,
    ⟨some 9, none, .bin .lss (.t 6) (.t 8), 0, 0, false, []⟩])
   (.cutTo [0, 1, 5, 9] (.cond (.t 9) (.skip)
   (.exit 0))))
   (.cutTo [0, 1, 5] (.seq (.block 1 (.seq (.seg false [⟨some 12, none, .mov (.t 0), 0, 0, false, []⟩,
    ⟨some 13, none, .mov (.t 5), 0, 0, false, []⟩,
    ⟨some 14, none, .mov (.t 1), 0, 0, false, []⟩,
    ⟨some 15, none, .iaddr 3 (.t 12) (.t 13), 0, 0, false, []⟩,
    ⟨some 16, none, .faddr 0 1 (.t 15), 0, 0, false, []⟩,
    ⟨none, none, .store 1 (.t 16) (.t 14), 0, 0, false, []⟩])
   (.cutTo [0, 1, 5] (.seq (.seg false [⟨some 17, none, .mov (.t 1), 0, 0, false, []⟩,
    ⟨some 18, none, .bin .add (.t 17) (.k (.int .i64 1)), 0, 0, false, []⟩,
    ⟨some 1, none, .mov (.t 18), 0, 0, false, []⟩])
   (.seq (.seg false [⟨some 19, none, .mov (.t 0), 0, 0, false, []⟩,
    ⟨some 20, none, .mov (.t 5), 0, 0, false, []⟩,
    ⟨some 21, none, .mov (.t 1), 0, 0, false, []⟩,
    ⟨some 22, none, .iaddr 3 (.t 19) (.t 20), 0, 0, false, []⟩,
    ⟨some 23, none, .faddr 1 1 (.t 22), 0, 0, false, []⟩,
    ⟨none, none, .store 1 (.t 23) (.t 21), 0, 0, false, []⟩])
   (.cutTo [0, 1, 5] (.seq (.seg false [⟨some 24, none, .mov (.t 1), 0, 0, false, []⟩,
    ⟨some 25, none, .bin .add (.t 24) (.k (.int .i64 1)), 0, 0, false, []⟩,
    ⟨some 1, none, .mov (.t 25), 0, 0, false, []⟩])
   (.seq (.seg false [⟨some 26, none, .mov (.t 0), 0, 0, false, []⟩,
    ⟨some 27, none, .mov (.t 5), 0, 0, false, []⟩,
    ⟨some 28, none, .mov (.t 1), 0, 0, false, []⟩,
    ⟨some 29, none, .call 148 [.t 28] false false, 0, 0, false, []⟩,
    ⟨some 30, none, .iaddr 3 (.t 26) (.t 27), 0, 0, false, []⟩,
    ⟨some 31, none, .faddr 2 1 (.t 30), 0, 0, false, []⟩,
    ⟨none, none, .store 1 (.t 31) (.t 29), 0, 0, false, []⟩])
   (.cutTo [0, 1, 5] (.seg false [⟨some 32, none, .mov (.t 1), 0, 0, false, []⟩,
    ⟨some 33, none, .bin .add (.t 32) (.k (.int .i64 1)), 0, 0, false, []⟩,
    ⟨some 1, none, .mov (.t 33), 0, 0, false, []⟩]))))))))))
   (.cutTo [0, 1, 5] (.seg false [⟨some 10, none, .mov (.t 5), 0, 0, false, []⟩,
    ⟨some 11, none, .bin .add (.t 10) (.k (.int .i64 1)), 0, 0, false, []⟩,
    ⟨some 5, none, .mov (.t 11), 0, 0, false, []⟩]))))
def L115x0 : C := B115x0
theorem evL115x0 (run : Run) (draw : List I → Env → Heap → Option (Env × Heap)) (e : Env) (h : Heap) : evC run draw L115x0 e h = evC run draw B115x0 e h := rfl
/-- loop.example/tablehouse/laws.markValueS -/
def F115 : F := ⟨35, [(false, 4, 0, false)],
   .seq (.seg false [⟨some 4, none, .mov (.k (.int .i64 0)), 0, 0, false, []⟩])
   (.seq (.seq (.seg false [⟨some 5, none, .mov (.k (.int .i64 0)), 0, 0, false, []⟩])
   (.block 0 (.loopk [0, 1, 5] [1] L115x0)))
   (.seq (.seg false [⟨some 34, none, .mov (.t 1), 0, 0, false, []⟩,
    ⟨some 4, none, .mov (.t 34), 0, 0, false, []⟩])
   (.ret)))⟩
/-- slices.Clip<<>byte,byte> -/
def F85 : F := ⟨9, [(false, 2, 0, false)],
   .seq (.seg false [⟨some 2, none, .mov (.k (.sl true 1 [])), 0, 0, false, []⟩])
   (.seq (.seg false [⟨some 3, none, .mov (.t 0), 0, 0, false, []⟩,
    ⟨some 4, none, .mov (.t 0), 0, 0, false, []⟩,
    ⟨some 5, none, .len false (.t 4), 0, 0, false, []⟩,
    ⟨some 6, none, .mov (.t 0), 0, 0, false, []⟩,
    ⟨some 7, none, .len false (.t 6), 0, 0, false, []⟩,
    ⟨some 8, none, .slc false 1 (.t 3) none (some (.t 5)) (some (.t 7)), 0, 0, false, []⟩,
    ⟨some 2, none, .mov (.t 8), 0, 0, false, []⟩])
   (.cutTo [2] (.ret)))⟩
def B128x0 : C := .seq (.seq (.seg false [⟨some 7, none, .mov (.t 4), 0, 0, false, []⟩,
    ⟨some 8, none, .mov (.t 0), 0, 0, false, []⟩,
    ⟨some 9, none, .len false (.t 8), 0, 0, false, []⟩,
    ⟨some 10, none, .bin .lss (.t 7) (.t 9), 0, 0, false, []⟩])
   (.cutTo [0, 3, 4, 10] (.cond (.t 10) (.skip)
   (.exit 0))))
   (.cutTo [0, 3, 4] (.seq (.block 1 (.seq (.seg false [⟨some 13, none, .mov (.t 0), 0, 0, false, []⟩,
    ⟨some 14, none, .mov (.t 4), 0, 0, false, []⟩,
    ⟨some 15, none, .iaddr 3 (.t 13) (.t 14), 0, 0, false, []⟩,
    ⟨some 16, none, .load true 3 (.t 15), 0, 0, false, []⟩,
    ⟨some 5, none, .alloc [.int .i64 0, .sl true 3 [], .bool false], 0, 0, false, []⟩,
    ⟨none, none, .store 3 (.t 5) (.t 16), 0, 0, false, []⟩])
   (.cutTo [0, 3, 4, 5] (.seq (.seg false [⟨some 17, none, .faddr 1 1 (.t 5), 0, 0, false, []⟩,
    ⟨some 18, none, .load false 1 (.t 17), 0, 0, false, []⟩,
    ⟨some 19, none, .call 152 [.t 18] false false, 0, 0, false, []⟩,
    ⟨some 20, none, .faddr 1 1 (.t 5), 0, 0, false, []⟩,
    ⟨none, none, .store 1 (.t 20) (.t 19), 0, 0, false, []⟩])
   (.cutTo [0, 3, 4, 5] (.seg false [⟨some 21, none, .mov (.t 3), 0, 0, false, []⟩,
    ⟨some 22, none, .load true 3 (.t 5), 0, 0, false, []⟩,
    ⟨some 23, none, .mksl false 3 [.t 22], 0, 0, false, []⟩,
    ⟨some 24, none, .app 3 (.t 21) (.t 23), 0, 0, false, []⟩,
    ⟨some 3, none, .mov (.t 24), 0, 0, false, []⟩]))))))
   (.cutTo [0, 3, 4] (.seg false [⟨some 11, none, .mov (.t 4), 0, 0, false, []⟩,
    ⟨some 12, none, .bin .add (.t 11) (.k (.int .i64 1)), 0, 0, false, []⟩,
    ⟨some 4, none, .mov (.t 12), 0, 0, false, []⟩]))))
def L128x0 : C := B128x0
theorem evL128x0 (run : Run) (draw : List I → Env → Heap → Option (Env × Heap)) (e : Env) (h : Heap) : evC run draw L128x0 e h = evC run draw B128x0 e h := rfl
/-- loop.example/tablehouse/spec.l14Writes -/
def F128 : F := ⟨26, [(false, 2, 0, false)],
   .seq (.seg false [⟨some 2, none, .nilrow 3, 0, 0, false, []⟩])
   (.seq (.seg false [⟨some 6, none, .mksl true 3 [], 0, 0, false, []⟩,
    ⟨some 3, none, .mov (.t 6), 0, 0, false, []⟩])
   (.seq (.seq (.seg false [⟨some 4, none, .mov (.k (.int .i64 0)), 0, 0, false, []⟩])
   (.block 0 (.loop [0, 3, 4] [3] L128x0)))
   (.seq (.seg false [⟨some 25, none, .mov (.t 3), 0, 0, false, []⟩,
    ⟨some 2, none, .mov (.t 25), 0, 0, false, []⟩])
   (.ret))))⟩
/-- slices.Clip<<>loop.example/tablehouse/impl.Entry,loop.example/tablehouse/impl.Entry> -/
def F79 : F := ⟨9, [(false, 2, 0, false)],
   .seq (.seg false [⟨some 2, none, .mov (.k (.sl true 2 [])), 0, 0, false, []⟩])
   (.seq (.seg false [⟨some 3, none, .mov (.t 0), 0, 0, false, []⟩,
    ⟨some 4, none, .mov (.t 0), 0, 0, false, []⟩,
    ⟨some 5, none, .len false (.t 4), 0, 0, false, []⟩,
    ⟨some 6, none, .mov (.t 0), 0, 0, false, []⟩,
    ⟨some 7, none, .len false (.t 6), 0, 0, false, []⟩,
    ⟨some 8, none, .slc false 2 (.t 3) none (some (.t 5)) (some (.t 7)), 0, 0, false, []⟩,
    ⟨some 2, none, .mov (.t 8), 0, 0, false, []⟩])
   (.cutTo [2] (.ret)))⟩
def E127x0 : List I := [⟨some 30, none, .mov (.t 0), 0, 0, false, []⟩,
    ⟨some 31, none, .mov (.t 5), 0, 0, false, []⟩,
    ⟨some 32, none, .iaddr 3 (.t 30) (.t 31), 0, 0, false, []⟩,
    ⟨some 33, none, .faddr 2 1 (.t 32), 0, 0, false, []⟩,
    ⟨some 34, none, .load false 1 (.t 33), 0, 0, false, []⟩,
    ⟨some 35, none, .mov (.t 1), 0, 0, false, []⟩,
    ⟨some 36, none, .call 148 [.t 35] false false, 0, 0, false, []⟩,
    ⟨some 37, none, .bin .neq (.t 34) (.t 36), 0, 0, false, []⟩]
def D127x0 : List I := E127x0
theorem evD127x0 (run : Run) (e : Env) (h : Heap) : drawI run D127x0 e h = DrawS (evQ run E127x0 e h) run E127x0 e h := drawI_quiet run _ (by rfl) e h
def B127x0 : C := .seq (.seq (.seg false [⟨some 6, none, .mov (.t 5), 0, 0, false, []⟩,
    ⟨some 7, none, .mov (.t 0), 0, 0, false, []⟩,
    ⟨some 8, none, .len false (.t 7), 0, 0, false, []⟩,
    ⟨some 9, none, .bin .lss (.t 6) (.t 8), 0, 0, false, []⟩])
   (.cutTo [0, 1, 5, 9] (.cond (.t 9) (.skip)
   (.exit 0))))
   (.cutTo [0, 1, 5] (.seq (.block 1 (.seq (.seq (.seg false [⟨some 12, none, .mov (.t 0), 0, 0, false, []⟩,
    ⟨some 13, none, .mov (.t 5), 0, 0, false, []⟩,
    ⟨some 14, none, .iaddr 3 (.t 12) (.t 13), 0, 0, false, []⟩,
    ⟨some 15, none, .faddr 0 1 (.t 14), 0, 0, false, []⟩,
    ⟨some 16, none, .load false 1 (.t 15), 0, 0, false, []⟩,
    ⟨some 17, none, .mov (.t 1), 0, 0, false, []⟩,
    ⟨some 18, none, .bin .neq (.t 16) (.t 17), 0, 0, false, []⟩])
   (.cutTo [0, 1, 5, 18] (.cond (.t 18) (.seq (.seg false [⟨some 4, none, .mov (.k (.int .i64 (-1))), 0, 0, false, []⟩])
   (.ret))
   (.skip))))
   (.cutTo [0, 1, 5] (.seq (.seg false [⟨some 19, none, .mov (.t 1), 0, 0, false, []⟩,
    ⟨some 20, none, .bin .add (.t 19) (.k (.int .i64 1)), 0, 0, false, []⟩,
    ⟨some 1, none, .mov (.t 20), 0, 0, false, []⟩])
   (.seq (.seq (.seg false [⟨some 21, none, .mov (.t 0), 0, 0, false, []⟩,
    ⟨some 22, none, .mov (.t 5), 0, 0, false, []⟩,
    ⟨some 23, none, .iaddr 3 (.t 21) (.t 22), 0, 0, false, []⟩,
    ⟨some 24, none, .faddr 1 1 (.t 23), 0, 0, false, []⟩,
    ⟨some 25, none, .load false 1 (.t 24), 0, 0, false, []⟩,
    ⟨some 26, none, .mov (.t 1), 0, 0, false, []⟩,
    ⟨some 27, none, .bin .neq (.t 25) (.t 26), 0, 0, false, []⟩])
   (.cutTo [0, 1, 5, 27] (.cond (.t 27) (.seq (.seg false [⟨some 4, none, .mov (.k (.int .i64 (-1))), 0, 0, false, []⟩])
   (.ret))
   (.skip))))
   (.cutTo [0, 1, 5] (.seq (.seg false [⟨some 28, none, .mov (.t 1), 0, 0, false, []⟩,
    ⟨some 29, none, .bin .add (.t 28) (.k (.int .i64 1)), 0, 0, false, []⟩,
    ⟨some 1, none, .mov (.t 29), 0, 0, false, []⟩])
   (.seq (.seq (.seg true D127x0)
   (.cutTo [0, 1, 5, 37] (.cond (.t 37) (.seq (.seg false [⟨some 4, none, .mov (.k (.int .i64 (-1))), 0, 0, false, []⟩])
   (.ret))
   (.skip))))
   (.cutTo [0, 1, 5] (.seg false [⟨some 38, none, .mov (.t 1), 0, 0, false, []⟩,
    ⟨some 39, none, .bin .add (.t 38) (.k (.int .i64 1)), 0, 0, false, []⟩,
    ⟨some 1, none, .mov (.t 39), 0, 0, false, []⟩]))))))))))
   (.cutTo [0, 1, 5] (.seg false [⟨some 10, none, .mov (.t 5), 0, 0, false, []⟩,
    ⟨some 11, none, .bin .add (.t 10) (.k (.int .i64 1)), 0, 0, false, []⟩,
    ⟨some 5, none, .mov (.t 11), 0, 0, false, []⟩]))))
def L127x0 : C := B127x0
theorem evL127x0 (run : Run) (draw : List I → Env → Heap → Option (Env × Heap)) (e : Env) (h : Heap) : evC run draw L127x0 e h = evC run draw B127x0 e h := rfl
/-- loop.example/tablehouse/laws.heldValueS -/
def F127 : F := ⟨41, [(false, 4, 0, false)],
   .seq (.seg false [⟨some 4, none, .mov (.k (.int .i64 0)), 0, 0, false, []⟩])
   (.seq (.seq (.seg false [⟨some 5, none, .mov (.k (.int .i64 0)), 0, 0, false, []⟩])
   (.block 0 (.loop [0, 1, 5] [1, 4] L127x0)))
   (.seq (.seg false [⟨some 40, none, .mov (.t 1), 0, 0, false, []⟩,
    ⟨some 4, none, .mov (.t 40), 0, 0, false, []⟩])
   (.ret)))⟩
end Go.Proofs.Yteaojpfofifmnaa.PE
