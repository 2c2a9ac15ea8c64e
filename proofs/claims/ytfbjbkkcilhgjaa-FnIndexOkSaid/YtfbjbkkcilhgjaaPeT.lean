/- The compact code of the functions, and that it is the code of the machine. -/
import Derived.Test.YtfbjbkkcilhgjaaPeX
import Derived.Test.YtfbjbkkcilhgjaaProg
namespace Go.Proofs.Ytfbjbkkcilhgjaa.PE
open Go.RowKit
set_option maxRecDepth 100000
def E7x0 : List I := [⟨some 26, none, .mksl true 6 [], 0, 0, true, []⟩,
    ⟨some 27, none, .mov (.t 3), 0, 1, false, []⟩,
    ⟨some 28, none, .mov (.t 5), 0, 1, false, []⟩,
    ⟨some 29, none, .slc false 6 (.t 27) none (some (.t 28)) none, 0, 1, false, []⟩,
    ⟨some 30, none, .app 6 (.t 26) (.t 29), 1, 0, true, []⟩,
    ⟨some 31, none, .mov (.t 3), 0, 2, false, []⟩,
    ⟨some 32, none, .mov (.t 5), 0, 2, false, []⟩,
    ⟨some 33, none, .bin .add (.t 32) (.k (.int .i64 1)), 0, 2, false, []⟩,
    ⟨some 34, none, .slc false 6 (.t 31) (some (.t 33)) none none, 0, 2, false, []⟩,
    ⟨some 35, none, .app 6 (.t 30) (.t 34), 2, 0, true, []⟩,
    ⟨some 36, none, .call 38 [.t 35] false false, 3, 3, false, []⟩,
    ⟨some 37, none, .un .not (.t 36), 3, 3, false, []⟩]
def D7x0 : List I := E7x0
theorem evD7x0 (run : Run) (e : Env) (h : Heap) : drawI run D7x0 e h = DrawW (evW run E7x0 e h []) run E7x0 e h := drawI_write run _ e h
def B7x0 : C := .seq (.seq (.seg false [⟨some 17, none, .mov (.t 5), 0, 0, false, []⟩,
    ⟨some 18, none, .mov (.t 3), 0, 0, false, []⟩,
    ⟨some 19, none, .len false (.t 18), 0, 0, false, []⟩,
    ⟨some 20, none, .bin .lss (.t 17) (.t 19), 0, 0, false, []⟩,
    ⟨some 21, none, .mov (.t 20), 0, 0, false, []⟩,
    ⟨some 22, some (21, true), .mov (.t 4), 0, 0, false, []⟩,
    ⟨some 23, none, .pick (.t 21) (.t 22) (.k (.bool false)), 0, 0, false, []⟩])
   (.cutTo [3, 4, 5, 23] (.cond (.t 23) (.skip)
   (.exit 0))))
   (.cutTo [3, 4, 5] (.seq (.block 1 (.seq (.seg true D7x0)
   (.cutTo [3, 4, 5, 37] (.cond (.t 37) (.seq (.seg false [⟨some 2, none, .mov (.k (.bool false)), 0, 0, false, []⟩])
   (.ret))
   (.skip)))))
   (.cutTo [3, 4, 5] (.seg false [⟨some 24, none, .mov (.t 5), 0, 0, false, []⟩,
    ⟨some 25, none, .bin .add (.t 24) (.k (.int .i64 1)), 0, 0, false, []⟩,
    ⟨some 5, none, .mov (.t 25), 0, 0, false, []⟩]))))
def L7x0 : C := B7x0
theorem evL7x0 (run : Run) (draw : List I → Env → Heap → Option (Env × Heap)) (e : Env) (h : Heap) : evC run draw L7x0 e h = evC run draw B7x0 e h := rfl
/-- loop.example/tablehouse/laws.FnIndexOk -/
def F7 : F := ⟨43, [(false, 2, 0, false)],
   .seq (.seg false [⟨some 2, none, .mov (.k (.bool false)), 0, 0, false, []⟩])
   (.seq (.seq (.seg false [⟨some 6, none, .mov (.t 0), 0, 0, false, []⟩,
    ⟨some 7, none, .len false (.t 6), 0, 0, false, []⟩,
    ⟨some 8, none, .bin .gtr (.t 7) (.k (.int .i64 1048576)), 0, 0, false, []⟩])
   (.cond (.t 8) (.seq (.seg false [⟨some 2, none, .mov (.k (.bool true)), 0, 0, false, []⟩])
   (.ret))
   (.skip)))
   (.cutTo [0] (.seq (.seg false [⟨some 9, none, .mov (.t 0), 0, 0, false, []⟩,
    ⟨some 10, none, .call 37 [.t 9] false false, 0, 0, false, []⟩,
    ⟨some 3, none, .mov (.t 10), 0, 0, false, []⟩])
   (.seq (.seg false [⟨some 11, none, .mov (.t 3), 0, 0, false, []⟩,
    ⟨some 12, none, .call 38 [.t 11] false false, 0, 0, false, []⟩,
    ⟨some 4, none, .mov (.t 12), 0, 0, false, []⟩])
   (.seq (.seq (.seg false [⟨some 13, none, .mov (.t 4), 0, 0, false, []⟩,
    ⟨some 14, none, .mov (.t 3), 0, 0, false, []⟩,
    ⟨some 15, none, .call 39 [.t 14] false false, 0, 0, false, []⟩,
    ⟨some 16, none, .eqb true (.t 13) (.t 15), 0, 0, false, []⟩])
   (.cutTo [3, 4, 16] (.cond (.t 16) (.seq (.seg false [⟨some 2, none, .mov (.k (.bool false)), 0, 0, false, []⟩])
   (.ret))
   (.skip))))
   (.cutTo [3, 4] (.seq (.seq (.seg false [⟨some 5, none, .mov (.k (.int .i64 0)), 0, 0, false, []⟩])
   (.block 0 (.loop [3, 4, 5] [2] L7x0)))
   (.seq (.seg false [⟨some 38, none, .mksl false 6 [], 0, 0, false, []⟩,
    ⟨some 39, none, .call 38 [.t 38] false false, 0, 0, false, []⟩,
    ⟨some 40, none, .mov (.t 39), 0, 0, false, []⟩,
    ⟨some 41, some (40, true), .call 18 [] false false, 0, 0, false, []⟩,
    ⟨some 42, none, .pick (.t 40) (.t 41) (.k (.bool false)), 0, 0, false, []⟩,
    ⟨some 2, none, .mov (.t 42), 0, 0, false, []⟩])
   (.cutTo [2] (.ret))))))))))⟩
def E8x0 : List I := [⟨some 42, none, .mov (.t 8), 0, 0, false, []⟩,
    ⟨some 43, none, .bin .gtr (.t 42) (.k (.int .i64 0)), 0, 0, false, []⟩,
    ⟨some 44, none, .mov (.t 43), 0, 0, false, []⟩,
    ⟨some 45, some (44, true), .mov (.t 6), 0, 0, false, []⟩,
    ⟨some 46, some (44, true), .mov (.t 8), 0, 0, false, []⟩,
    ⟨some 47, some (44, true), .bin .sub (.t 46) (.k (.int .i64 1)), 0, 0, false, []⟩,
    ⟨some 48, some (44, true), .iaddr 1 (.t 45) (.t 47), 0, 0, false, []⟩,
    ⟨some 49, some (44, true), .load false 1 (.t 48), 0, 0, false, []⟩,
    ⟨some 50, some (44, true), .mov (.t 6), 0, 0, false, []⟩,
    ⟨some 51, some (44, true), .mov (.t 8), 0, 0, false, []⟩,
    ⟨some 52, some (44, true), .iaddr 1 (.t 50) (.t 51), 0, 0, false, []⟩,
    ⟨some 53, some (44, true), .load false 1 (.t 52), 0, 0, false, []⟩,
    ⟨some 54, some (44, true), .bin .geq (.t 49) (.t 53), 0, 0, false, []⟩,
    ⟨some 55, none, .pick (.t 44) (.t 54) (.k (.bool false)), 0, 0, false, []⟩,
    ⟨some 56, none, .mov (.t 55), 0, 0, false, []⟩,
    ⟨some 57, some (56, false), .mov (.t 7), 0, 0, false, []⟩,
    ⟨some 58, some (56, false), .mov (.t 6), 0, 0, false, []⟩,
    ⟨some 59, some (56, false), .mov (.t 8), 0, 0, false, []⟩,
    ⟨some 60, some (56, false), .iaddr 1 (.t 58) (.t 59), 0, 0, false, []⟩,
    ⟨some 61, some (56, false), .load false 1 (.t 60), 0, 0, false, []⟩,
    ⟨some 62, some (56, false), .call 44 [.t 57, .t 61] false false, 0, 0, false, []⟩,
    ⟨some 63, none, .pick (.t 56) (.k (.bool true)) (.t 62), 0, 0, false, []⟩]
def D8x0 : List I := E8x0
theorem evD8x0 (run : Run) (e : Env) (h : Heap) : drawI run D8x0 e h = DrawS (evQ run E8x0 e h) run E8x0 e h := drawI_quiet run _ (by rfl) e h
def B8x0 : C := .seq (.seq (.seg false [⟨some 36, none, .mov (.t 8), 0, 0, false, []⟩,
    ⟨some 37, none, .mov (.t 6), 0, 0, false, []⟩,
    ⟨some 38, none, .len false (.t 37), 0, 0, false, []⟩,
    ⟨some 39, none, .bin .lss (.t 36) (.t 38), 0, 0, false, []⟩])
   (.cutTo [6, 7, 8, 39] (.cond (.t 39) (.skip)
   (.exit 0))))
   (.cutTo [6, 7, 8] (.seq (.block 1 (.seq (.seg true D8x0)
   (.cutTo [6, 7, 8, 63] (.cond (.t 63) (.seq (.seg false [⟨some 2, none, .mov (.k (.bool false)), 0, 0, false, []⟩])
   (.ret))
   (.skip)))))
   (.cutTo [6, 7, 8] (.seg false [⟨some 40, none, .mov (.t 8), 0, 0, false, []⟩,
    ⟨some 41, none, .bin .add (.t 40) (.k (.int .i64 1)), 0, 0, false, []⟩,
    ⟨some 8, none, .mov (.t 41), 0, 0, false, []⟩]))))
def L8x0 : C := B8x0
theorem evL8x0 (run : Run) (draw : List I → Env → Heap → Option (Env × Heap)) (e : Env) (h : Heap) : evC run draw L8x0 e h = evC run draw B8x0 e h := rfl
/-- loop.example/tablehouse/laws.FnIndexFind -/
def F8 : F := ⟨65, [(false, 2, 0, false)],
   .seq (.seg false [⟨some 2, none, .mov (.k (.bool false)), 0, 0, false, []⟩])
   (.seq (.seq (.seg false [⟨some 9, none, .mov (.t 0), 0, 0, false, []⟩,
    ⟨some 10, none, .len false (.t 9), 0, 0, false, []⟩,
    ⟨some 11, none, .bin .gtr (.t 10) (.k (.int .i64 1048576)), 0, 0, false, []⟩])
   (.cond (.t 11) (.seq (.seg false [⟨some 2, none, .mov (.k (.bool true)), 0, 0, false, []⟩])
   (.ret))
   (.skip)))
   (.cutTo [0] (.seq (.seg false [⟨some 13, none, .mov (.t 0), 0, 0, false, []⟩,
    ⟨some 14, none, .call 40 [.t 13] false false, 0, 0, false, []⟩,
    ⟨some 12, none, .mov (.t 14), 0, 0, false, []⟩,
    ⟨some 15, none, .ext (.t 12) 0, 0, 0, false, []⟩,
    ⟨some 16, none, .ext (.t 12) 1, 0, 0, false, []⟩,
    ⟨some 17, none, .ext (.t 12) 2, 0, 0, false, []⟩,
    ⟨some 4, none, .alloc [.int .i64 0, .int .i64 0, .str ⟨#[]⟩], 0, 0, false, []⟩,
    ⟨some 3, none, .mov (.t 15), 0, 0, false, []⟩,
    ⟨none, none, .store 3 (.t 4) (.t 16), 0, 0, false, []⟩,
    ⟨some 5, none, .mov (.t 17), 0, 0, false, []⟩])
   (.cutTo [3, 4, 5] (.seq (.seg false [⟨some 18, none, .mov (.t 3), 0, 0, false, []⟩,
    ⟨some 19, none, .load true 3 (.t 4), 0, 0, false, []⟩,
    ⟨some 20, none, .mov (.t 5), 0, 0, false, []⟩,
    ⟨some 21, none, .call 41 [.t 18, .t 19, .t 20] false false, 0, 0, false, []⟩,
    ⟨some 6, none, .mov (.t 21), 0, 0, false, []⟩])
   (.cutTo [3, 4, 5, 6] (.seq (.seq (.seg false [⟨some 22, none, .mov (.t 6), 0, 0, false, []⟩,
    ⟨some 23, none, .mov (.t 3), 0, 0, false, []⟩,
    ⟨some 24, none, .load true 3 (.t 4), 0, 0, false, []⟩,
    ⟨some 25, none, .mov (.t 5), 0, 0, false, []⟩,
    ⟨some 26, none, .call 43 [.t 23, .t 24, .t 25] false false, 0, 0, false, []⟩,
    ⟨some 27, none, .call 42 [.t 22, .t 26] false false, 0, 0, false, []⟩,
    ⟨some 28, none, .un .not (.t 27), 0, 0, false, []⟩])
   (.cutTo [3, 4, 5, 6, 28] (.cond (.t 28) (.seq (.seg false [⟨some 2, none, .mov (.k (.bool false)), 0, 0, false, []⟩])
   (.ret))
   (.skip))))
   (.cutTo [3, 4, 5, 6] (.seq (.seg false [⟨some 29, none, .mov (.t 3), 0, 0, false, []⟩,
    ⟨some 30, none, .faddr 1 1 (.t 4), 0, 0, false, []⟩,
    ⟨some 31, none, .load false 1 (.t 30), 0, 0, false, []⟩,
    ⟨some 32, none, .bin .add (.t 31) (.k (.int .i64 1)), 0, 0, false, []⟩,
    ⟨some 33, none, .build [.int .i64 0, .int .i64 0, .str ⟨#[]⟩] [(0, 1, .k (.int .i64 1)), (1, 1, .t 32)], 0, 0, false, []⟩,
    ⟨some 34, none, .mov (.t 5), 0, 0, false, []⟩,
    ⟨some 35, none, .call 41 [.t 29, .t 33, .t 34] false false, 0, 0, false, []⟩,
    ⟨some 7, none, .mov (.t 35), 0, 0, false, []⟩])
   (.cutTo [6, 7] (.seq (.seq (.seg false [⟨some 8, none, .mov (.k (.int .i64 0)), 0, 0, false, []⟩])
   (.block 0 (.loop [6, 7, 8] [2] L8x0)))
   (.seq (.seg false [⟨some 64, none, .call 18 [] false false, 0, 0, false, []⟩,
    ⟨some 2, none, .mov (.t 64), 0, 0, false, []⟩])
   (.ret)))))))))))))⟩
def B9x0 : C := .seq (.seq (.seg false [⟨some 36, none, .mov (.t 9), 0, 0, false, []⟩,
    ⟨some 37, none, .faddr 1 1 (.t 5), 0, 0, false, []⟩,
    ⟨some 38, none, .load false 1 (.t 37), 0, 0, false, []⟩,
    ⟨some 39, none, .bin .leq (.t 36) (.t 38), 0, 0, false, []⟩,
    ⟨some 40, none, .mov (.t 39), 0, 0, false, []⟩,
    ⟨some 41, some (40, true), .mov (.t 9), 0, 0, false, []⟩,
    ⟨some 42, some (40, true), .bin .leq (.t 41) (.k (.int .i64 5)), 0, 0, false, []⟩,
    ⟨some 43, none, .pick (.t 40) (.t 42) (.k (.bool false)), 0, 0, false, []⟩])
   (.cutTo [3, 5, 6, 7, 8, 9, 43] (.cond (.t 43) (.skip)
   (.exit 0))))
   (.cutTo [3, 5, 6, 7, 8, 9] (.seq (.block 1 (.seg false [⟨some 46, none, .mov (.t 8), 0, 0, false, []⟩,
    ⟨some 47, none, .mov (.t 3), 0, 0, false, []⟩,
    ⟨some 48, none, .mov (.t 9), 0, 0, false, []⟩,
    ⟨some 49, none, .build [.int .i64 0, .int .i64 0, .str ⟨#[]⟩] [(0, 1, .k (.int .i64 1)), (1, 1, .t 48)], 0, 0, false, []⟩,
    ⟨some 50, none, .mov (.t 6), 0, 0, false, []⟩,
    ⟨some 51, none, .call 41 [.t 47, .t 49, .t 50] false false, 0, 0, false, []⟩,
    ⟨some 52, none, .app 1 (.t 46) (.t 51), 0, 0, false, []⟩,
    ⟨some 8, none, .mov (.t 52), 0, 0, false, []⟩]))
   (.cutTo [3, 5, 6, 7, 8, 9] (.seg false [⟨some 44, none, .mov (.t 9), 0, 0, false, []⟩,
    ⟨some 45, none, .bin .add (.t 44) (.k (.int .i64 1)), 0, 0, false, []⟩,
    ⟨some 9, none, .mov (.t 45), 0, 0, false, []⟩]))))
def L9x0 : C := B9x0
theorem evL9x0 (run : Run) (draw : List I → Env → Heap → Option (Env × Heap)) (e : Env) (h : Heap) : evC run draw L9x0 e h = evC run draw B9x0 e h := rfl
/-- loop.example/tablehouse/laws.FnIndexBetween -/
def F9 : F := ⟨59, [(false, 2, 0, false)],
   .seq (.seg false [⟨some 2, none, .mov (.k (.bool false)), 0, 0, false, []⟩])
   (.seq (.seq (.seg false [⟨some 10, none, .mov (.t 0), 0, 0, false, []⟩,
    ⟨some 11, none, .len false (.t 10), 0, 0, false, []⟩,
    ⟨some 12, none, .bin .gtr (.t 11) (.k (.int .i64 1048576)), 0, 0, false, []⟩])
   (.cond (.t 12) (.seq (.seg false [⟨some 2, none, .mov (.k (.bool true)), 0, 0, false, []⟩])
   (.ret))
   (.skip)))
   (.cutTo [0] (.seq (.seg false [⟨some 14, none, .mov (.t 0), 0, 0, false, []⟩,
    ⟨some 15, none, .call 45 [.t 14] false false, 0, 0, false, []⟩,
    ⟨some 13, none, .mov (.t 15), 0, 0, false, []⟩,
    ⟨some 16, none, .ext (.t 13) 0, 0, 0, false, []⟩,
    ⟨some 17, none, .ext (.t 13) 1, 0, 0, false, []⟩,
    ⟨some 18, none, .ext (.t 13) 2, 0, 0, false, []⟩,
    ⟨some 19, none, .ext (.t 13) 3, 0, 0, false, []⟩,
    ⟨some 4, none, .alloc [.int .i64 0, .int .i64 0, .str ⟨#[]⟩], 0, 0, false, []⟩,
    ⟨some 5, none, .alloc [.int .i64 0, .int .i64 0, .str ⟨#[]⟩], 0, 0, false, []⟩,
    ⟨some 3, none, .mov (.t 16), 0, 0, false, []⟩,
    ⟨none, none, .store 3 (.t 4) (.t 17), 0, 0, false, []⟩,
    ⟨none, none, .store 3 (.t 5) (.t 18), 0, 0, false, []⟩,
    ⟨some 6, none, .mov (.t 19), 0, 0, false, []⟩])
   (.cutTo [3, 4, 5, 6] (.seq (.seg false [⟨some 20, none, .mov (.t 3), 0, 0, false, []⟩,
    ⟨some 21, none, .load true 3 (.t 4), 0, 0, false, []⟩,
    ⟨some 22, none, .load true 3 (.t 5), 0, 0, false, []⟩,
    ⟨some 23, none, .mov (.t 6), 0, 0, false, []⟩,
    ⟨some 24, none, .call 46 [.t 20, .t 21, .t 22, .t 23] false false, 0, 0, false, []⟩,
    ⟨some 7, none, .mov (.t 24), 0, 0, false, []⟩])
   (.cutTo [3, 4, 5, 6, 7] (.seq (.seq (.seg false [⟨some 25, none, .mov (.t 7), 0, 0, false, []⟩,
    ⟨some 26, none, .mov (.t 3), 0, 0, false, []⟩,
    ⟨some 27, none, .load true 3 (.t 4), 0, 0, false, []⟩,
    ⟨some 28, none, .load true 3 (.t 5), 0, 0, false, []⟩,
    ⟨some 29, none, .mov (.t 6), 0, 0, false, []⟩,
    ⟨some 30, none, .call 47 [.t 26, .t 27, .t 28, .t 29] false false, 0, 0, false, []⟩,
    ⟨some 31, none, .call 42 [.t 25, .t 30] false false, 0, 0, false, []⟩,
    ⟨some 32, none, .un .not (.t 31), 0, 0, false, []⟩])
   (.cutTo [3, 4, 5, 6, 7, 32] (.cond (.t 32) (.seq (.seg false [⟨some 2, none, .mov (.k (.bool false)), 0, 0, false, []⟩])
   (.ret))
   (.skip))))
   (.cutTo [3, 4, 5, 6, 7] (.seq (.seg false [⟨some 33, none, .mksl true 1 [], 0, 0, false, []⟩,
    ⟨some 8, none, .mov (.t 33), 0, 0, false, []⟩])
   (.seq (.seq (.seg false [⟨some 34, none, .faddr 1 1 (.t 4), 0, 0, false, []⟩,
    ⟨some 35, none, .load false 1 (.t 34), 0, 0, false, []⟩,
    ⟨some 9, none, .mov (.t 35), 0, 0, false, []⟩])
   (.block 0 (.loop [3, 5, 6, 7, 8, 9] [7, 8] L9x0)))
   (.seq (.seg false [⟨some 53, none, .mov (.t 7), 0, 0, false, []⟩,
    ⟨some 54, none, .mov (.t 8), 0, 0, false, []⟩,
    ⟨some 55, none, .call 42 [.t 53, .t 54] false false, 0, 0, false, []⟩,
    ⟨some 56, none, .mov (.t 55), 0, 0, false, []⟩,
    ⟨some 57, some (56, true), .call 18 [] false false, 0, 0, false, []⟩,
    ⟨some 58, none, .pick (.t 56) (.t 57) (.k (.bool false)), 0, 0, false, []⟩,
    ⟨some 2, none, .mov (.t 58), 0, 0, false, []⟩])
   (.cutTo [2] (.ret)))))))))))))⟩
/-- loop.example/tablehouse/spec.DrawIndexOk -/
def F37 : F := ⟨12, [(false, 2, 0, false)],
   .seq (.seg false [⟨some 2, none, .mov (.k (.sl true 6 [])), 0, 0, false, []⟩])
   (.seq (.seg false [⟨some 6, none, .mov (.t 0), 0, 0, false, []⟩,
    ⟨some 7, none, .call 55 [.t 6] true true, 0, 0, false, []⟩,
    ⟨some 8, none, .call 95 [.t 7, .k (.int .i64 2)] true false, 0, 0, false, []⟩,
    ⟨some 5, none, .mov (.t 8), 0, 0, false, []⟩,
    ⟨some 9, none, .ext (.t 5) 0, 0, 0, false, []⟩,
    ⟨some 10, none, .ext (.t 5) 1, 0, 0, false, []⟩,
    ⟨some 3, none, .mov (.t 9), 0, 0, false, []⟩,
    ⟨some 4, none, .mov (.t 10), 0, 0, false, []⟩])
   (.cutTo [3] (.seq (.seg false [⟨some 11, none, .mov (.t 3), 0, 0, false, []⟩,
    ⟨some 2, none, .mov (.t 11), 0, 0, false, []⟩])
   (.ret))))⟩
def E38x0 : List I := [⟨some 12, none, .faddr 0 3 (.t 4), 0, 0, false, []⟩,
    ⟨some 13, none, .load true 3 (.t 12), 0, 0, false, []⟩,
    ⟨some 14, none, .call 96 [.t 13] false false, 0, 0, false, []⟩,
    ⟨some 15, none, .un .not (.t 14), 0, 0, false, []⟩,
    ⟨some 16, none, .mov (.t 15), 0, 0, false, []⟩,
    ⟨some 17, some (16, false), .faddr 3 1 (.t 4), 0, 0, false, []⟩,
    ⟨some 18, some (16, false), .load false 1 (.t 17), 0, 0, false, []⟩,
    ⟨some 19, some (16, false), .call 78 [.t 18] false false, 0, 0, false, []⟩,
    ⟨some 20, some (16, false), .un .not (.t 19), 0, 0, false, []⟩,
    ⟨some 21, none, .pick (.t 16) (.k (.bool true)) (.t 20), 0, 0, false, []⟩,
    ⟨some 22, none, .mov (.t 21), 0, 0, false, []⟩,
    ⟨some 23, some (22, false), .faddr 4 1 (.t 4), 0, 0, false, []⟩,
    ⟨some 24, some (22, false), .load false 1 (.t 23), 0, 0, false, []⟩,
    ⟨some 25, some (22, false), .call 79 [.t 24, .k (.int .i64 1), .k (.int .i64 40)] false false, 0, 0, false, []⟩,
    ⟨some 26, some (22, false), .un .not (.t 25), 0, 0, false, []⟩,
    ⟨some 27, none, .pick (.t 22) (.k (.bool true)) (.t 26), 0, 0, false, []⟩,
    ⟨some 28, none, .mov (.t 27), 0, 0, false, []⟩,
    ⟨some 29, some (28, false), .faddr 5 1 (.t 4), 0, 0, false, []⟩,
    ⟨some 30, some (28, false), .load false 1 (.t 29), 0, 0, false, []⟩,
    ⟨some 31, some (28, false), .bin .neq (.t 30) (.k (.int .i64 0)), 0, 0, false, []⟩,
    ⟨some 32, some (28, false), .mov (.t 31), 0, 0, false, []⟩,
    ⟨some 33, some (32, true), .faddr 5 1 (.t 4), 0, 0, false, []⟩,
    ⟨some 34, some (32, true), .load false 1 (.t 33), 0, 0, false, []⟩,
    ⟨some 35, some (32, true), .faddr 4 1 (.t 4), 0, 0, false, []⟩,
    ⟨some 36, some (32, true), .load false 1 (.t 35), 0, 0, false, []⟩,
    ⟨some 37, some (32, true), .bin .add (.t 36) (.k (.int .i64 1)), 0, 0, false, []⟩,
    ⟨some 38, some (32, true), .call 79 [.t 34, .t 37, .k (.int .i64 40)] false false, 0, 0, false, []⟩,
    ⟨some 39, some (32, true), .un .not (.t 38), 0, 0, false, []⟩,
    ⟨some 40, some (28, false), .pick (.t 32) (.t 39) (.k (.bool false)), 0, 0, false, []⟩,
    ⟨some 41, none, .pick (.t 28) (.k (.bool true)) (.t 40), 0, 0, false, []⟩,
    ⟨some 42, none, .mov (.t 41), 0, 0, false, []⟩,
    ⟨some 43, some (42, false), .mov (.t 3), 0, 0, false, []⟩,
    ⟨some 44, some (42, false), .bin .gtr (.t 43) (.k (.int .i64 0)), 0, 0, false, []⟩,
    ⟨some 45, some (42, false), .mov (.t 44), 0, 0, false, []⟩,
    ⟨some 46, some (45, true), .mov (.t 0), 0, 0, false, []⟩,
    ⟨some 47, some (45, true), .mov (.t 3), 0, 0, false, []⟩,
    ⟨some 48, some (45, true), .bin .sub (.t 47) (.k (.int .i64 1)), 0, 0, false, []⟩,
    ⟨some 49, some (45, true), .iaddr 6 (.t 46) (.t 48), 0, 0, false, []⟩,
    ⟨some 50, some (45, true), .load true 6 (.t 49), 0, 0, false, []⟩,
    ⟨some 51, some (45, true), .load true 6 (.t 4), 0, 0, false, []⟩,
    ⟨some 52, some (45, true), .call 97 [.t 50, .t 51] false false, 0, 0, false, []⟩,
    ⟨some 53, some (45, true), .bin .gtr (.t 52) (.k (.int .i64 0)), 0, 0, false, []⟩,
    ⟨some 54, some (42, false), .pick (.t 45) (.t 53) (.k (.bool false)), 0, 0, false, []⟩,
    ⟨some 55, none, .pick (.t 42) (.k (.bool true)) (.t 54), 0, 0, false, []⟩]
def D38x0 : List I := E38x0
theorem evD38x0 (run : Run) (e : Env) (h : Heap) : drawI run D38x0 e h = DrawS (evQ run E38x0 e h) run E38x0 e h := drawI_quiet run _ (by rfl) e h
def B38x0 : C := .seq (.seg false [⟨some 8, none, .bin .lss (.t 7) (.t 6), 0, 0, false, []⟩])
   (.seq (.cond (.t 8) (.skip)
   (.exit 0))
   (.seq (.block 1 (.seq (.seg false [⟨some 9, none, .mov (.t 7), 0, 0, false, []⟩,
    ⟨some 10, none, .iaddr 6 (.t 5) (.t 7), 0, 0, false, []⟩,
    ⟨some 11, none, .load true 6 (.t 10), 0, 0, false, []⟩,
    ⟨some 4, none, .alloc [.int .i64 0, .int .i64 0, .str ⟨#[]⟩, .int .i64 0, .int .i64 0, .int .i64 0], 0, 0, false, []⟩,
    ⟨some 3, none, .mov (.t 9), 0, 0, false, []⟩,
    ⟨none, none, .store 6 (.t 4) (.t 11), 0, 0, false, []⟩])
   (.cutTo [0, 3, 4, 5, 6, 7] (.seq (.seq (.seg true D38x0)
   (.cutTo [0, 3, 4, 5, 6, 7, 55] (.cond (.t 55) (.seq (.seg false [⟨some 2, none, .mov (.k (.bool false)), 0, 0, false, []⟩])
   (.ret))
   (.skip))))
   (.cutTo [0, 3, 4, 5, 6, 7] (.seq (.seg false [⟨some 56, none, .mov (.t 0), 0, 0, false, []⟩,
    ⟨some 57, none, .mov (.t 3), 0, 0, false, []⟩,
    ⟨some 58, none, .slc false 6 (.t 56) none (some (.t 57)) none, 0, 0, false, []⟩,
    ⟨some 59, none, .mkclo 99 [.t 4], 0, 0, false, []⟩,
    ⟨some 60, none, .call 98 [.t 58, .t 59] true false, 0, 0, false, []⟩])
   (.cutTo [0, 5, 6, 7, 60] (.cond (.t 60) (.seq (.seg false [⟨some 2, none, .mov (.k (.bool false)), 0, 0, false, []⟩])
   (.ret))
   (.skip)))))))))
   (.cutTo [0, 5, 6, 7] (.seg false [⟨some 61, none, .bin .add (.t 7) (.k (.int .i64 1)), 0, 0, false, []⟩,
    ⟨some 7, none, .mov (.t 61), 0, 0, false, []⟩]))))
def L38x0 : C := B38x0
theorem evL38x0 (run : Run) (draw : List I → Env → Heap → Option (Env × Heap)) (e : Env) (h : Heap) : evC run draw L38x0 e h = evC run draw B38x0 e h := rfl
/-- loop.example/tablehouse/impl.IndexOk -/
def F38 : F := ⟨65, [(false, 2, 0, false)],
   .seq (.seg false [⟨some 2, none, .mov (.k (.bool false)), 0, 0, false, []⟩])
   (.seq (.seq (.seg false [⟨some 5, none, .mov (.t 0), 0, 0, false, []⟩,
    ⟨some 6, none, .len false (.t 5), 0, 0, false, []⟩,
    ⟨some 7, none, .mov (.k (.int .i64 0)), 0, 0, false, []⟩])
   (.block 0 (.loop [0, 5, 6, 7] [0, 2] L38x0)))
   (.seq (.seg false [⟨some 62, none, .mov (.t 0), 0, 0, false, []⟩,
    ⟨some 63, none, .len false (.t 62), 0, 0, false, []⟩,
    ⟨some 64, none, .bin .leq (.t 63) (.k (.int .i64 60)), 0, 0, false, []⟩,
    ⟨some 2, none, .mov (.t 64), 0, 0, false, []⟩])
   (.cutTo [2] (.ret))))⟩
def E39x0 : List I := [⟨some 17, none, .faddr 0 3 (.t 4), 0, 0, false, []⟩,
    ⟨some 18, none, .load true 3 (.t 17), 0, 0, false, []⟩,
    ⟨some 19, none, .call 101 [.t 18] false false, 0, 0, false, []⟩,
    ⟨some 20, none, .un .not (.t 19), 0, 0, false, []⟩,
    ⟨some 21, none, .mov (.t 20), 0, 0, false, []⟩,
    ⟨some 22, some (21, false), .faddr 3 1 (.t 4), 0, 0, false, []⟩,
    ⟨some 23, some (21, false), .load false 1 (.t 22), 0, 0, false, []⟩,
    ⟨some 24, some (21, false), .faddr 4 1 (.t 4), 0, 0, false, []⟩,
    ⟨some 25, some (21, false), .load false 1 (.t 24), 0, 0, false, []⟩,
    ⟨some 26, some (21, false), .faddr 5 1 (.t 4), 0, 0, false, []⟩,
    ⟨some 27, some (21, false), .load false 1 (.t 26), 0, 0, false, []⟩,
    ⟨some 28, some (21, false), .build [.int .i64 0, .int .i64 0, .int .i64 0, .sl true 3 []] [(0, 1, .t 23), (1, 1, .t 25), (2, 1, .t 27)], 0, 0, false, []⟩,
    ⟨some 29, some (21, false), .call 102 [.t 28] false false, 0, 0, false, []⟩,
    ⟨some 30, some (21, false), .un .not (.t 29), 0, 0, false, []⟩,
    ⟨some 31, none, .pick (.t 21) (.k (.bool true)) (.t 30), 0, 0, false, []⟩,
    ⟨some 32, none, .mov (.t 31), 0, 0, false, []⟩,
    ⟨some 33, some (32, false), .mov (.t 3), 0, 0, false, []⟩,
    ⟨some 34, some (32, false), .bin .gtr (.t 33) (.k (.int .i64 0)), 0, 0, false, []⟩,
    ⟨some 35, some (32, false), .mov (.t 34), 0, 0, false, []⟩,
    ⟨some 36, some (35, true), .mov (.t 0), 0, 0, false, []⟩,
    ⟨some 37, some (35, true), .mov (.t 3), 0, 0, false, []⟩,
    ⟨some 38, some (35, true), .bin .sub (.t 37) (.k (.int .i64 1)), 0, 0, false, []⟩,
    ⟨some 39, some (35, true), .iaddr 6 (.t 36) (.t 38), 0, 0, false, []⟩,
    ⟨some 40, some (35, true), .load true 6 (.t 39), 0, 0, false, []⟩,
    ⟨some 41, some (35, true), .load true 6 (.t 4), 0, 0, false, []⟩,
    ⟨some 42, some (35, true), .call 103 [.t 40, .t 41] false false, 0, 0, false, []⟩,
    ⟨some 43, some (35, true), .un .not (.t 42), 0, 0, false, []⟩,
    ⟨some 44, some (32, false), .pick (.t 35) (.t 43) (.k (.bool false)), 0, 0, false, []⟩,
    ⟨some 45, none, .pick (.t 32) (.k (.bool true)) (.t 44), 0, 0, false, []⟩]
def D39x0 : List I := E39x0
theorem evD39x0 (run : Run) (e : Env) (h : Heap) : drawI run D39x0 e h = DrawS (evQ run E39x0 e h) run E39x0 e h := drawI_quiet run _ (by rfl) e h
def B39x1 : C := .seq (.seq (.seg false [⟨some 46, none, .mov (.t 5), 0, 0, false, []⟩,
    ⟨some 47, none, .mov (.t 3), 0, 0, false, []⟩,
    ⟨some 48, none, .bin .lss (.t 46) (.t 47), 0, 0, false, []⟩])
   (.cond (.t 48) (.skip)
   (.exit 2)))
   (.seq (.block 3 (.seq (.seg false [⟨some 51, none, .mov (.t 0), 0, 0, false, []⟩,
    ⟨some 52, none, .mov (.t 5), 0, 0, false, []⟩,
    ⟨some 53, none, .iaddr 6 (.t 51) (.t 52), 0, 0, false, []⟩,
    ⟨some 54, none, .load true 6 (.t 53), 0, 0, false, []⟩,
    ⟨some 6, none, .alloc [.int .i64 0, .int .i64 0, .str ⟨#[]⟩, .int .i64 0, .int .i64 0, .int .i64 0], 0, 0, false, []⟩,
    ⟨none, none, .store 6 (.t 6) (.t 54), 0, 0, false, []⟩])
   (.cutTo [0, 3, 4, 5, 6] (.seq (.seg false [⟨some 55, none, .faddr 3 1 (.t 6), 0, 0, false, []⟩,
    ⟨some 56, none, .load false 1 (.t 55), 0, 0, false, []⟩,
    ⟨some 57, none, .faddr 3 1 (.t 4), 0, 0, false, []⟩,
    ⟨some 58, none, .load false 1 (.t 57), 0, 0, false, []⟩,
    ⟨some 59, none, .bin .eql (.t 56) (.t 58), 0, 0, false, []⟩,
    ⟨some 60, none, .mov (.t 59), 0, 0, false, []⟩,
    ⟨some 61, some (60, true), .faddr 5 1 (.t 6), 0, 0, false, []⟩,
    ⟨some 62, some (60, true), .load false 1 (.t 61), 0, 0, false, []⟩,
    ⟨some 63, some (60, true), .bin .eql (.t 62) (.k (.int .i64 0)), 0, 0, false, []⟩,
    ⟨some 64, some (60, true), .mov (.t 63), 0, 0, false, []⟩,
    ⟨some 65, some (64, false), .faddr 4 1 (.t 4), 0, 0, false, []⟩,
    ⟨some 66, some (64, false), .load false 1 (.t 65), 0, 0, false, []⟩,
    ⟨some 67, some (64, false), .faddr 5 1 (.t 6), 0, 0, false, []⟩,
    ⟨some 68, some (64, false), .load false 1 (.t 67), 0, 0, false, []⟩,
    ⟨some 69, some (64, false), .bin .lss (.t 66) (.t 68), 0, 0, false, []⟩,
    ⟨some 70, some (60, true), .pick (.t 64) (.k (.bool true)) (.t 69), 0, 0, false, []⟩,
    ⟨some 71, none, .pick (.t 60) (.t 70) (.k (.bool false)), 0, 0, false, []⟩,
    ⟨some 72, none, .mov (.t 71), 0, 0, false, []⟩,
    ⟨some 73, some (72, true), .faddr 5 1 (.t 4), 0, 0, false, []⟩,
    ⟨some 74, some (72, true), .load false 1 (.t 73), 0, 0, false, []⟩,
    ⟨some 75, some (72, true), .bin .eql (.t 74) (.k (.int .i64 0)), 0, 0, false, []⟩,
    ⟨some 76, some (72, true), .mov (.t 75), 0, 0, false, []⟩,
    ⟨some 77, some (76, false), .faddr 4 1 (.t 6), 0, 0, false, []⟩,
    ⟨some 78, some (76, false), .load false 1 (.t 77), 0, 0, false, []⟩,
    ⟨some 79, some (76, false), .faddr 5 1 (.t 4), 0, 0, false, []⟩,
    ⟨some 80, some (76, false), .load false 1 (.t 79), 0, 0, false, []⟩,
    ⟨some 81, some (76, false), .bin .lss (.t 78) (.t 80), 0, 0, false, []⟩,
    ⟨some 82, some (72, true), .pick (.t 76) (.k (.bool true)) (.t 81), 0, 0, false, []⟩,
    ⟨some 83, none, .pick (.t 72) (.t 82) (.k (.bool false)), 0, 0, false, []⟩])
   (.cutTo [0, 3, 4, 5, 83] (.cond (.t 83) (.seq (.seg false [⟨some 2, none, .mov (.k (.bool false)), 0, 0, false, []⟩])
   (.ret))
   (.skip)))))))
   (.cutTo [0, 3, 4, 5] (.seg false [⟨some 49, none, .mov (.t 5), 0, 0, false, []⟩,
    ⟨some 50, none, .bin .add (.t 49) (.k (.int .i64 1)), 0, 0, false, []⟩,
    ⟨some 5, none, .mov (.t 50), 0, 0, false, []⟩])))
def L39x1 : C := B39x1
theorem evL39x1 (run : Run) (draw : List I → Env → Heap → Option (Env × Heap)) (e : Env) (h : Heap) : evC run draw L39x1 e h = evC run draw B39x1 e h := rfl
def B39x0 : C := .seq (.seq (.seg false [⟨some 7, none, .mov (.t 3), 0, 0, false, []⟩,
    ⟨some 8, none, .mov (.t 0), 0, 0, false, []⟩,
    ⟨some 9, none, .len false (.t 8), 0, 0, false, []⟩,
    ⟨some 10, none, .bin .lss (.t 7) (.t 9), 0, 0, false, []⟩])
   (.cutTo [0, 3, 10] (.cond (.t 10) (.skip)
   (.exit 0))))
   (.cutTo [0, 3] (.seq (.block 1 (.seq (.seg false [⟨some 13, none, .mov (.t 0), 0, 0, false, []⟩,
    ⟨some 14, none, .mov (.t 3), 0, 0, false, []⟩,
    ⟨some 15, none, .iaddr 6 (.t 13) (.t 14), 0, 0, false, []⟩,
    ⟨some 16, none, .load true 6 (.t 15), 0, 0, false, []⟩,
    ⟨some 4, none, .alloc [.int .i64 0, .int .i64 0, .str ⟨#[]⟩, .int .i64 0, .int .i64 0, .int .i64 0], 0, 0, false, []⟩,
    ⟨none, none, .store 6 (.t 4) (.t 16), 0, 0, false, []⟩])
   (.cutTo [0, 3, 4] (.seq (.seq (.seg true D39x0)
   (.cutTo [0, 3, 4, 45] (.cond (.t 45) (.seq (.seg false [⟨some 2, none, .mov (.k (.bool false)), 0, 0, false, []⟩])
   (.ret))
   (.skip))))
   (.cutTo [0, 3, 4] (.seq (.seg false [⟨some 5, none, .mov (.k (.int .i64 0)), 0, 0, false, []⟩])
   (.block 2 (.loop [0, 3, 4, 5] [0, 2, 3] L39x1))))))))
   (.cutTo [0, 3] (.seg false [⟨some 11, none, .mov (.t 3), 0, 0, false, []⟩,
    ⟨some 12, none, .bin .add (.t 11) (.k (.int .i64 1)), 0, 0, false, []⟩,
    ⟨some 3, none, .mov (.t 12), 0, 0, false, []⟩]))))
def L39x0 : C := B39x0
theorem evL39x0 (run : Run) (draw : List I → Env → Heap → Option (Env × Heap)) (e : Env) (h : Heap) : evC run draw L39x0 e h = evC run draw B39x0 e h := rfl
/-- loop.example/tablehouse/spec.IndexOk -/
def F39 : F := ⟨87, [(false, 2, 0, false)],
   .seq (.seg false [⟨some 2, none, .mov (.k (.bool false)), 0, 0, false, []⟩])
   (.seq (.seq (.seg false [⟨some 3, none, .mov (.k (.int .i64 0)), 0, 0, false, []⟩])
   (.block 0 (.loop [0, 3] [0, 2] L39x0)))
   (.seq (.seg false [⟨some 84, none, .mov (.t 0), 0, 0, false, []⟩,
    ⟨some 85, none, .len false (.t 84), 0, 0, false, []⟩,
    ⟨some 86, none, .bin .leq (.t 85) (.k (.int .i64 60)), 0, 0, false, []⟩,
    ⟨some 2, none, .mov (.t 86), 0, 0, false, []⟩])
   (.cutTo [2] (.ret))))⟩
/-- loop.example/tablehouse/laws.alive -/
def F18 : F := ⟨8, [(false, 0, 0, false)],
   .seq (.seg false [⟨some 0, none, .mov (.k (.bool false)), 0, 0, false, []⟩])
   (.seq (.seg false [⟨some 1, none, .build [.int .i64 0, .int .i64 0, .str ⟨#[]⟩] [(0, 1, .k (.int .i64 1)), (1, 1, .k (.int .i64 3))], 0, 0, false, []⟩,
    ⟨some 2, none, .call 72 [.t 1] false false, 0, 0, false, []⟩,
    ⟨some 3, none, .mov (.t 2), 0, 0, false, []⟩,
    ⟨some 4, some (3, true), .build [.int .i64 0, .int .i64 0, .str ⟨#[]⟩] [(0, 1, .k (.int .i64 9))], 0, 0, false, []⟩,
    ⟨some 5, some (3, true), .call 72 [.t 4] false false, 0, 0, false, []⟩,
    ⟨some 6, some (3, true), .un .not (.t 5), 0, 0, false, []⟩,
    ⟨some 7, none, .pick (.t 3) (.t 6) (.k (.bool false)), 0, 0, false, []⟩,
    ⟨some 0, none, .mov (.t 7), 0, 0, false, []⟩])
   (.cutTo [0] (.ret)))⟩
/-- loop.example/tablehouse/spec.DrawIndexFind -/
def F40 : F := ⟨23, [(false, 2, 0, false), (true, 3, 3, true), (false, 4, 0, false)],
   .seq (.seg false [⟨some 2, none, .mov (.k (.sl true 6 [])), 0, 0, false, []⟩,
    ⟨some 3, none, .alloc [.int .i64 0, .int .i64 0, .str ⟨#[]⟩], 0, 0, false, []⟩,
    ⟨some 4, none, .mov (.k (.int .i64 0)), 0, 0, false, []⟩])
   (.seq (.seg false [⟨some 8, none, .mov (.t 0), 0, 0, false, []⟩,
    ⟨some 9, none, .call 55 [.t 8] true true, 0, 0, false, []⟩,
    ⟨some 5, none, .mov (.t 9), 0, 0, false, []⟩])
   (.seq (.seg false [⟨some 11, none, .mov (.t 5), 0, 0, false, []⟩,
    ⟨some 12, none, .call 95 [.t 11, .k (.int .i64 15)] true false, 0, 0, false, []⟩,
    ⟨some 10, none, .mov (.t 12), 0, 0, false, []⟩,
    ⟨some 13, none, .ext (.t 10) 0, 0, 0, false, []⟩,
    ⟨some 14, none, .ext (.t 10) 1, 0, 0, false, []⟩,
    ⟨some 6, none, .mov (.t 13), 0, 0, false, []⟩,
    ⟨some 7, none, .mov (.t 14), 0, 0, false, []⟩])
   (.cutTo [3, 5, 6, 7] (.seq (.seg false [⟨some 15, none, .mov (.t 6), 0, 0, false, []⟩,
    ⟨some 16, none, .mov (.t 5), 0, 0, false, []⟩,
    ⟨some 17, none, .call 57 [.t 16, .k (.int .i64 5)] true false, 0, 0, false, []⟩,
    ⟨some 18, none, .build [.int .i64 0, .int .i64 0, .str ⟨#[]⟩] [(0, 1, .k (.int .i64 1)), (1, 1, .t 17)], 0, 0, false, []⟩,
    ⟨some 19, none, .mov (.t 5), 0, 0, false, []⟩,
    ⟨some 20, none, .mov (.t 7), 0, 0, false, []⟩,
    ⟨some 21, none, .bin .add (.t 20) (.k (.int .i64 2)), 0, 0, false, []⟩,
    ⟨some 22, none, .call 57 [.t 19, .t 21] true false, 0, 0, false, []⟩,
    ⟨some 2, none, .mov (.t 15), 0, 0, false, []⟩,
    ⟨none, none, .store 3 (.t 3) (.t 18), 0, 0, false, []⟩,
    ⟨some 4, none, .mov (.t 22), 0, 0, false, []⟩])
   (.cutTo [2, 3, 4] (.ret))))))⟩
/-- loop.example/tablehouse/impl.IndexFind -/
def F41 : F := ⟨18, [(false, 6, 0, false)],
   .seq (.seg false [⟨some 4, none, .box (.t 1), 0, 0, false, []⟩,
    ⟨some 5, none, .box (.t 2), 0, 0, false, []⟩,
    ⟨some 6, none, .mov (.k (.sl true 1 [])), 0, 0, false, []⟩])
   (.seq (.seq (.seg false [⟨some 7, none, .mov (.t 0), 0, 0, false, []⟩,
    ⟨some 8, none, .call 38 [.t 7] false false, 0, 0, false, []⟩,
    ⟨some 9, none, .un .not (.t 8), 0, 0, false, []⟩,
    ⟨some 10, none, .mov (.t 9), 0, 0, false, []⟩,
    ⟨some 11, some (10, false), .load true 3 (.t 4), 0, 0, false, []⟩,
    ⟨some 12, some (10, false), .call 96 [.t 11] false false, 0, 0, false, []⟩,
    ⟨some 13, some (10, false), .un .not (.t 12), 0, 0, false, []⟩,
    ⟨some 14, none, .pick (.t 10) (.k (.bool true)) (.t 13), 0, 0, false, []⟩])
   (.cutTo [0, 4, 5, 14] (.cond (.t 14) (.seq (.seg false [⟨some 6, none, .mov (.k (.sl true 1 [])), 0, 0, false, []⟩])
   (.ret))
   (.skip))))
   (.cutTo [0, 4, 5] (.seq (.seg false [⟨some 15, none, .mov (.t 0), 0, 0, false, []⟩,
    ⟨some 16, none, .mkclo 105 [.t 4, .t 5], 0, 0, false, []⟩,
    ⟨some 17, none, .call 104 [.t 15, .t 16] true false, 0, 0, false, []⟩,
    ⟨some 6, none, .mov (.t 17), 0, 0, false, []⟩])
   (.cutTo [6] (.ret)))))⟩
def B43x0 : C := .seq (.seq (.seg false [⟨some 20, none, .mov (.t 8), 0, 0, false, []⟩,
    ⟨some 21, none, .mov (.t 0), 0, 0, false, []⟩,
    ⟨some 22, none, .len false (.t 21), 0, 0, false, []⟩,
    ⟨some 23, none, .bin .lss (.t 20) (.t 22), 0, 0, false, []⟩])
   (.cutTo [0, 2, 4, 7, 8, 23] (.cond (.t 23) (.skip)
   (.exit 0))))
   (.cutTo [0, 2, 4, 7, 8] (.seq (.block 1 (.seq (.seg false [⟨some 26, none, .mov (.t 0), 0, 0, false, []⟩,
    ⟨some 27, none, .mov (.t 8), 0, 0, false, []⟩,
    ⟨some 28, none, .iaddr 6 (.t 26) (.t 27), 0, 0, false, []⟩,
    ⟨some 29, none, .load true 6 (.t 28), 0, 0, false, []⟩,
    ⟨some 9, none, .alloc [.int .i64 0, .int .i64 0, .str ⟨#[]⟩, .int .i64 0, .int .i64 0, .int .i64 0], 0, 0, false, []⟩,
    ⟨none, none, .store 6 (.t 9) (.t 29), 0, 0, false, []⟩])
   (.cutTo [0, 2, 4, 7, 8, 9] (.seq (.seg false [⟨some 30, none, .faddr 0 3 (.t 9), 0, 0, false, []⟩,
    ⟨some 31, none, .load true 3 (.t 30), 0, 0, false, []⟩,
    ⟨some 32, none, .load true 3 (.t 4), 0, 0, false, []⟩,
    ⟨some 33, none, .eqs false [.int, .int, .str] (.t 31) (.t 32), 0, 0, false, []⟩,
    ⟨some 34, none, .mov (.t 33), 0, 0, false, []⟩,
    ⟨some 35, some (34, true), .faddr 4 1 (.t 9), 0, 0, false, []⟩,
    ⟨some 36, some (34, true), .load false 1 (.t 35), 0, 0, false, []⟩,
    ⟨some 37, some (34, true), .mov (.t 2), 0, 0, false, []⟩,
    ⟨some 38, some (34, true), .bin .leq (.t 36) (.t 37), 0, 0, false, []⟩,
    ⟨some 39, none, .pick (.t 34) (.t 38) (.k (.bool false)), 0, 0, false, []⟩,
    ⟨some 40, none, .mov (.t 39), 0, 0, false, []⟩,
    ⟨some 41, some (40, true), .faddr 5 1 (.t 9), 0, 0, false, []⟩,
    ⟨some 42, some (40, true), .load false 1 (.t 41), 0, 0, false, []⟩,
    ⟨some 43, some (40, true), .bin .eql (.t 42) (.k (.int .i64 0)), 0, 0, false, []⟩,
    ⟨some 44, some (40, true), .mov (.t 43), 0, 0, false, []⟩,
    ⟨some 45, some (44, false), .mov (.t 2), 0, 0, false, []⟩,
    ⟨some 46, some (44, false), .faddr 5 1 (.t 9), 0, 0, false, []⟩,
    ⟨some 47, some (44, false), .load false 1 (.t 46), 0, 0, false, []⟩,
    ⟨some 48, some (44, false), .bin .lss (.t 45) (.t 47), 0, 0, false, []⟩,
    ⟨some 49, some (40, true), .pick (.t 44) (.k (.bool true)) (.t 48), 0, 0, false, []⟩,
    ⟨some 50, none, .pick (.t 40) (.t 49) (.k (.bool false)), 0, 0, false, []⟩])
   (.cutTo [0, 2, 4, 7, 8, 9, 50] (.cond (.t 50) (.seg false [⟨some 51, none, .mov (.t 7), 0, 0, false, []⟩,
    ⟨some 52, none, .faddr 3 1 (.t 9), 0, 0, false, []⟩,
    ⟨some 53, none, .load false 1 (.t 52), 0, 0, false, []⟩,
    ⟨some 54, none, .mksl false 1 [.t 53], 0, 0, false, []⟩,
    ⟨some 55, none, .app 1 (.t 51) (.t 54), 0, 0, false, []⟩,
    ⟨some 7, none, .mov (.t 55), 0, 0, false, []⟩])
   (.skip)))))))
   (.cutTo [0, 2, 4, 7, 8] (.seg false [⟨some 24, none, .mov (.t 8), 0, 0, false, []⟩,
    ⟨some 25, none, .bin .add (.t 24) (.k (.int .i64 1)), 0, 0, false, []⟩,
    ⟨some 8, none, .mov (.t 25), 0, 0, false, []⟩]))))
def L43x0 : C := B43x0
theorem evL43x0 (run : Run) (draw : List I → Env → Heap → Option (Env × Heap)) (e : Env) (h : Heap) : evC run draw L43x0 e h = evC run draw B43x0 e h := rfl
/-- loop.example/tablehouse/spec.IndexFind -/
def F43 : F := ⟨57, [(false, 6, 0, false)],
   .seq (.seg false [⟨some 4, none, .box (.t 1), 0, 0, false, []⟩,
    ⟨some 6, none, .nilrow 1, 0, 0, false, []⟩])
   (.seq (.seg false [⟨some 10, none, .mksl true 1 [], 0, 0, false, []⟩,
    ⟨some 7, none, .mov (.t 10), 0, 0, false, []⟩])
   (.seq (.seq (.seg false [⟨some 11, none, .mov (.t 0), 0, 0, false, []⟩,
    ⟨some 12, none, .call 39 [.t 11] false false, 0, 0, false, []⟩,
    ⟨some 13, none, .un .not (.t 12), 0, 0, false, []⟩,
    ⟨some 14, none, .mov (.t 13), 0, 0, false, []⟩,
    ⟨some 15, some (14, false), .load true 3 (.t 4), 0, 0, false, []⟩,
    ⟨some 16, some (14, false), .call 101 [.t 15] false false, 0, 0, false, []⟩,
    ⟨some 17, some (14, false), .un .not (.t 16), 0, 0, false, []⟩,
    ⟨some 18, none, .pick (.t 14) (.k (.bool true)) (.t 17), 0, 0, false, []⟩])
   (.cutTo [0, 2, 4, 7, 18] (.cond (.t 18) (.seq (.seg false [⟨some 19, none, .mov (.t 7), 0, 0, false, []⟩,
    ⟨some 6, none, .mov (.t 19), 0, 0, false, []⟩])
   (.ret))
   (.skip))))
   (.cutTo [0, 2, 4, 7] (.seq (.seq (.seg false [⟨some 8, none, .mov (.k (.int .i64 0)), 0, 0, false, []⟩])
   (.block 0 (.loop [0, 2, 4, 7, 8] [7] L43x0)))
   (.seq (.seg false [⟨some 56, none, .mov (.t 7), 0, 0, false, []⟩,
    ⟨some 6, none, .mov (.t 56), 0, 0, false, []⟩])
   (.ret))))))⟩
def E42x0 : List I := [⟨some 17, none, .mov (.t 0), 0, 0, false, []⟩,
    ⟨some 18, none, .mov (.t 5), 0, 0, false, []⟩,
    ⟨some 19, none, .iaddr 1 (.t 17) (.t 18), 0, 0, false, []⟩,
    ⟨some 20, none, .load false 1 (.t 19), 0, 0, false, []⟩,
    ⟨some 21, none, .mov (.t 1), 0, 0, false, []⟩,
    ⟨some 22, none, .mov (.t 5), 0, 0, false, []⟩,
    ⟨some 23, none, .iaddr 1 (.t 21) (.t 22), 0, 0, false, []⟩,
    ⟨some 24, none, .load false 1 (.t 23), 0, 0, false, []⟩,
    ⟨some 25, none, .bin .neq (.t 20) (.t 24), 0, 0, false, []⟩]
def D42x0 : List I := E42x0
theorem evD42x0 (run : Run) (e : Env) (h : Heap) : drawI run D42x0 e h = DrawS (evQ run E42x0 e h) run E42x0 e h := drawI_quiet run _ (by rfl) e h
def B42x0 : C := .seq (.seq (.seg false [⟨some 11, none, .mov (.t 5), 0, 0, false, []⟩,
    ⟨some 12, none, .mov (.t 0), 0, 0, false, []⟩,
    ⟨some 13, none, .len false (.t 12), 0, 0, false, []⟩,
    ⟨some 14, none, .bin .lss (.t 11) (.t 13), 0, 0, false, []⟩])
   (.cutTo [0, 1, 5, 14] (.cond (.t 14) (.skip)
   (.exit 0))))
   (.cutTo [0, 1, 5] (.seq (.block 1 (.seq (.seg true D42x0)
   (.cutTo [0, 1, 5, 25] (.cond (.t 25) (.seq (.seg false [⟨some 4, none, .mov (.k (.bool false)), 0, 0, false, []⟩])
   (.ret))
   (.skip)))))
   (.cutTo [0, 1, 5] (.seg false [⟨some 15, none, .mov (.t 5), 0, 0, false, []⟩,
    ⟨some 16, none, .bin .add (.t 15) (.k (.int .i64 1)), 0, 0, false, []⟩,
    ⟨some 5, none, .mov (.t 16), 0, 0, false, []⟩]))))
def L42x0 : C := B42x0
theorem evL42x0 (run : Run) (draw : List I → Env → Heap → Option (Env × Heap)) (e : Env) (h : Heap) : evC run draw L42x0 e h = evC run draw B42x0 e h := rfl
/-- loop.example/tablehouse/laws.sameInts -/
def F42 : F := ⟨26, [(false, 4, 0, false)],
   .seq (.seg false [⟨some 4, none, .mov (.k (.bool false)), 0, 0, false, []⟩])
   (.seq (.seq (.seg false [⟨some 6, none, .mov (.t 0), 0, 0, false, []⟩,
    ⟨some 7, none, .len false (.t 6), 0, 0, false, []⟩,
    ⟨some 8, none, .mov (.t 1), 0, 0, false, []⟩,
    ⟨some 9, none, .len false (.t 8), 0, 0, false, []⟩,
    ⟨some 10, none, .bin .neq (.t 7) (.t 9), 0, 0, false, []⟩])
   (.cutTo [0, 1, 10] (.cond (.t 10) (.seq (.seg false [⟨some 4, none, .mov (.k (.bool false)), 0, 0, false, []⟩])
   (.ret))
   (.skip))))
   (.cutTo [0, 1] (.seq (.seq (.seg false [⟨some 5, none, .mov (.k (.int .i64 0)), 0, 0, false, []⟩])
   (.block 0 (.loop [0, 1, 5] [4] L42x0)))
   (.seq (.seg false [⟨some 4, none, .mov (.k (.bool true)), 0, 0, false, []⟩])
   (.ret)))))⟩
def B44x0 : C := .seq (.seq (.seg false [⟨some 6, none, .mov (.t 5), 0, 0, false, []⟩,
    ⟨some 7, none, .mov (.t 0), 0, 0, false, []⟩,
    ⟨some 8, none, .len false (.t 7), 0, 0, false, []⟩,
    ⟨some 9, none, .bin .lss (.t 6) (.t 8), 0, 0, false, []⟩])
   (.cutTo [0, 1, 5, 9] (.cond (.t 9) (.skip)
   (.exit 0))))
   (.cutTo [0, 1, 5] (.seq (.block 1 (.seq (.seg false [⟨some 12, none, .mov (.t 0), 0, 0, false, []⟩,
    ⟨some 13, none, .mov (.t 5), 0, 0, false, []⟩,
    ⟨some 14, none, .iaddr 1 (.t 12) (.t 13), 0, 0, false, []⟩,
    ⟨some 15, none, .load false 1 (.t 14), 0, 0, false, []⟩,
    ⟨some 16, none, .mov (.t 1), 0, 0, false, []⟩,
    ⟨some 17, none, .bin .eql (.t 15) (.t 16), 0, 0, false, []⟩])
   (.cutTo [0, 1, 5, 17] (.cond (.t 17) (.seq (.seg false [⟨some 4, none, .mov (.k (.bool true)), 0, 0, false, []⟩])
   (.ret))
   (.skip)))))
   (.cutTo [0, 1, 5] (.seg false [⟨some 10, none, .mov (.t 5), 0, 0, false, []⟩,
    ⟨some 11, none, .bin .add (.t 10) (.k (.int .i64 1)), 0, 0, false, []⟩,
    ⟨some 5, none, .mov (.t 11), 0, 0, false, []⟩]))))
def L44x0 : C := B44x0
theorem evL44x0 (run : Run) (draw : List I → Env → Heap → Option (Env × Heap)) (e : Env) (h : Heap) : evC run draw L44x0 e h = evC run draw B44x0 e h := rfl
/-- loop.example/tablehouse/laws.hasInt -/
def F44 : F := ⟨18, [(false, 4, 0, false)],
   .seq (.seg false [⟨some 4, none, .mov (.k (.bool false)), 0, 0, false, []⟩])
   (.seq (.seq (.seg false [⟨some 5, none, .mov (.k (.int .i64 0)), 0, 0, false, []⟩])
   (.block 0 (.loop [0, 1, 5] [4] L44x0)))
   (.seq (.seg false [⟨some 4, none, .mov (.k (.bool false)), 0, 0, false, []⟩])
   (.ret)))⟩
/-- loop.example/tablehouse/spec.DrawIndexBetween -/
def F45 : F := ⟨27, [(false, 2, 0, false), (true, 3, 3, true), (true, 4, 3, true), (false, 5, 0, false)],
   .seq (.seg false [⟨some 2, none, .mov (.k (.sl true 6 [])), 0, 0, false, []⟩,
    ⟨some 3, none, .alloc [.int .i64 0, .int .i64 0, .str ⟨#[]⟩], 0, 0, false, []⟩,
    ⟨some 4, none, .alloc [.int .i64 0, .int .i64 0, .str ⟨#[]⟩], 0, 0, false, []⟩,
    ⟨some 5, none, .mov (.k (.int .i64 0)), 0, 0, false, []⟩])
   (.cutTo [0, 3, 4] (.seq (.seg false [⟨some 9, none, .mov (.t 0), 0, 0, false, []⟩,
    ⟨some 10, none, .call 55 [.t 9] true true, 0, 0, false, []⟩,
    ⟨some 6, none, .mov (.t 10), 0, 0, false, []⟩])
   (.seq (.seg false [⟨some 12, none, .mov (.t 6), 0, 0, false, []⟩,
    ⟨some 13, none, .call 95 [.t 12, .k (.int .i64 15)] true false, 0, 0, false, []⟩,
    ⟨some 11, none, .mov (.t 13), 0, 0, false, []⟩,
    ⟨some 14, none, .ext (.t 11) 0, 0, 0, false, []⟩,
    ⟨some 15, none, .ext (.t 11) 1, 0, 0, false, []⟩,
    ⟨some 7, none, .mov (.t 14), 0, 0, false, []⟩,
    ⟨some 8, none, .mov (.t 15), 0, 0, false, []⟩])
   (.cutTo [3, 4, 6, 7, 8] (.seq (.seg false [⟨some 16, none, .mov (.t 7), 0, 0, false, []⟩,
    ⟨some 17, none, .mov (.t 6), 0, 0, false, []⟩,
    ⟨some 18, none, .call 57 [.t 17, .k (.int .i64 4)] true false, 0, 0, false, []⟩,
    ⟨some 19, none, .build [.int .i64 0, .int .i64 0, .str ⟨#[]⟩] [(0, 1, .k (.int .i64 1)), (1, 1, .t 18)], 0, 0, false, []⟩,
    ⟨some 20, none, .mov (.t 6), 0, 0, false, []⟩,
    ⟨some 21, none, .call 57 [.t 20, .k (.int .i64 5)] true false, 0, 0, false, []⟩,
    ⟨some 22, none, .build [.int .i64 0, .int .i64 0, .str ⟨#[]⟩] [(0, 1, .k (.int .i64 1)), (1, 1, .t 21)], 0, 0, false, []⟩,
    ⟨some 23, none, .mov (.t 6), 0, 0, false, []⟩,
    ⟨some 24, none, .mov (.t 8), 0, 0, false, []⟩,
    ⟨some 25, none, .bin .add (.t 24) (.k (.int .i64 2)), 0, 0, false, []⟩,
    ⟨some 26, none, .call 57 [.t 23, .t 25] true false, 0, 0, false, []⟩,
    ⟨some 2, none, .mov (.t 16), 0, 0, false, []⟩,
    ⟨none, none, .store 3 (.t 3) (.t 19), 0, 0, false, []⟩,
    ⟨none, none, .store 3 (.t 4) (.t 22), 0, 0, false, []⟩,
    ⟨some 5, none, .mov (.t 26), 0, 0, false, []⟩])
   (.cutTo [2, 3, 4, 5] (.ret)))))))⟩
/-- loop.example/tablehouse/impl.IndexBetween -/
def F46 : F := ⟨25, [(false, 8, 0, false)],
   .seq (.seg false [⟨some 5, none, .box (.t 1), 0, 0, false, []⟩,
    ⟨some 6, none, .box (.t 2), 0, 0, false, []⟩,
    ⟨some 7, none, .box (.t 3), 0, 0, false, []⟩,
    ⟨some 8, none, .mov (.k (.sl true 1 [])), 0, 0, false, []⟩])
   (.cutTo [0, 5, 6, 7] (.seq (.seq (.seg false [⟨some 9, none, .mov (.t 0), 0, 0, false, []⟩,
    ⟨some 10, none, .call 38 [.t 9] false false, 0, 0, false, []⟩,
    ⟨some 11, none, .un .not (.t 10), 0, 0, false, []⟩,
    ⟨some 12, none, .mov (.t 11), 0, 0, false, []⟩,
    ⟨some 13, some (12, false), .load true 3 (.t 5), 0, 0, false, []⟩,
    ⟨some 14, some (12, false), .call 96 [.t 13] false false, 0, 0, false, []⟩,
    ⟨some 15, some (12, false), .un .not (.t 14), 0, 0, false, []⟩,
    ⟨some 16, none, .pick (.t 12) (.k (.bool true)) (.t 15), 0, 0, false, []⟩,
    ⟨some 17, none, .mov (.t 16), 0, 0, false, []⟩,
    ⟨some 18, some (17, false), .load true 3 (.t 6), 0, 0, false, []⟩,
    ⟨some 19, some (17, false), .call 96 [.t 18] false false, 0, 0, false, []⟩,
    ⟨some 20, some (17, false), .un .not (.t 19), 0, 0, false, []⟩,
    ⟨some 21, none, .pick (.t 17) (.k (.bool true)) (.t 20), 0, 0, false, []⟩])
   (.cutTo [0, 5, 6, 7, 21] (.cond (.t 21) (.seq (.seg false [⟨some 8, none, .mov (.k (.sl true 1 [])), 0, 0, false, []⟩])
   (.ret))
   (.skip))))
   (.cutTo [0, 5, 6, 7] (.seq (.seg false [⟨some 22, none, .mov (.t 0), 0, 0, false, []⟩,
    ⟨some 23, none, .mkclo 107 [.t 5, .t 6, .t 7], 0, 0, false, []⟩,
    ⟨some 24, none, .call 104 [.t 22, .t 23] true false, 0, 0, false, []⟩,
    ⟨some 8, none, .mov (.t 24), 0, 0, false, []⟩])
   (.cutTo [8] (.ret))))))⟩
def B47x0 : C := .seq (.seq (.seg false [⟨some 27, none, .mov (.t 10), 0, 0, false, []⟩,
    ⟨some 28, none, .mov (.t 0), 0, 0, false, []⟩,
    ⟨some 29, none, .len false (.t 28), 0, 0, false, []⟩,
    ⟨some 30, none, .bin .lss (.t 27) (.t 29), 0, 0, false, []⟩])
   (.cutTo [0, 3, 5, 6, 9, 10, 30] (.cond (.t 30) (.skip)
   (.exit 0))))
   (.cutTo [0, 3, 5, 6, 9, 10] (.seq (.block 1 (.seq (.seg false [⟨some 33, none, .mov (.t 0), 0, 0, false, []⟩,
    ⟨some 34, none, .mov (.t 10), 0, 0, false, []⟩,
    ⟨some 35, none, .iaddr 6 (.t 33) (.t 34), 0, 0, false, []⟩,
    ⟨some 36, none, .load true 6 (.t 35), 0, 0, false, []⟩,
    ⟨some 11, none, .alloc [.int .i64 0, .int .i64 0, .str ⟨#[]⟩, .int .i64 0, .int .i64 0, .int .i64 0], 0, 0, false, []⟩,
    ⟨none, none, .store 6 (.t 11) (.t 36), 0, 0, false, []⟩])
   (.cutTo [0, 3, 5, 6, 9, 10, 11] (.seq (.seg false [⟨some 37, none, .load true 3 (.t 5), 0, 0, false, []⟩,
    ⟨some 38, none, .faddr 0 3 (.t 11), 0, 0, false, []⟩,
    ⟨some 39, none, .load true 3 (.t 38), 0, 0, false, []⟩,
    ⟨some 40, none, .call 109 [.t 37, .t 39] false false, 0, 0, false, []⟩,
    ⟨some 41, none, .bin .leq (.t 40) (.k (.int .i64 0)), 0, 0, false, []⟩,
    ⟨some 42, none, .mov (.t 41), 0, 0, false, []⟩,
    ⟨some 43, some (42, true), .faddr 0 3 (.t 11), 0, 0, false, []⟩,
    ⟨some 44, some (42, true), .load true 3 (.t 43), 0, 0, false, []⟩,
    ⟨some 45, some (42, true), .load true 3 (.t 6), 0, 0, false, []⟩,
    ⟨some 46, some (42, true), .call 109 [.t 44, .t 45] false false, 0, 0, false, []⟩,
    ⟨some 47, some (42, true), .bin .leq (.t 46) (.k (.int .i64 0)), 0, 0, false, []⟩,
    ⟨some 48, none, .pick (.t 42) (.t 47) (.k (.bool false)), 0, 0, false, []⟩,
    ⟨some 49, none, .mov (.t 48), 0, 0, false, []⟩,
    ⟨some 50, some (49, true), .faddr 4 1 (.t 11), 0, 0, false, []⟩,
    ⟨some 51, some (49, true), .load false 1 (.t 50), 0, 0, false, []⟩,
    ⟨some 52, some (49, true), .mov (.t 3), 0, 0, false, []⟩,
    ⟨some 53, some (49, true), .bin .leq (.t 51) (.t 52), 0, 0, false, []⟩,
    ⟨some 54, none, .pick (.t 49) (.t 53) (.k (.bool false)), 0, 0, false, []⟩,
    ⟨some 55, none, .mov (.t 54), 0, 0, false, []⟩,
    ⟨some 56, some (55, true), .faddr 5 1 (.t 11), 0, 0, false, []⟩,
    ⟨some 57, some (55, true), .load false 1 (.t 56), 0, 0, false, []⟩,
    ⟨some 58, some (55, true), .bin .eql (.t 57) (.k (.int .i64 0)), 0, 0, false, []⟩,
    ⟨some 59, some (55, true), .mov (.t 58), 0, 0, false, []⟩,
    ⟨some 60, some (59, false), .mov (.t 3), 0, 0, false, []⟩,
    ⟨some 61, some (59, false), .faddr 5 1 (.t 11), 0, 0, false, []⟩,
    ⟨some 62, some (59, false), .load false 1 (.t 61), 0, 0, false, []⟩,
    ⟨some 63, some (59, false), .bin .lss (.t 60) (.t 62), 0, 0, false, []⟩,
    ⟨some 64, some (55, true), .pick (.t 59) (.k (.bool true)) (.t 63), 0, 0, false, []⟩,
    ⟨some 65, none, .pick (.t 55) (.t 64) (.k (.bool false)), 0, 0, false, []⟩])
   (.cutTo [0, 3, 5, 6, 9, 10, 11, 65] (.cond (.t 65) (.seg false [⟨some 66, none, .mov (.t 9), 0, 0, false, []⟩,
    ⟨some 67, none, .faddr 3 1 (.t 11), 0, 0, false, []⟩,
    ⟨some 68, none, .load false 1 (.t 67), 0, 0, false, []⟩,
    ⟨some 69, none, .mksl false 1 [.t 68], 0, 0, false, []⟩,
    ⟨some 70, none, .app 1 (.t 66) (.t 69), 0, 0, false, []⟩,
    ⟨some 9, none, .mov (.t 70), 0, 0, false, []⟩])
   (.skip)))))))
   (.cutTo [0, 3, 5, 6, 9, 10] (.seg false [⟨some 31, none, .mov (.t 10), 0, 0, false, []⟩,
    ⟨some 32, none, .bin .add (.t 31) (.k (.int .i64 1)), 0, 0, false, []⟩,
    ⟨some 10, none, .mov (.t 32), 0, 0, false, []⟩]))))
def L47x0 : C := B47x0
theorem evL47x0 (run : Run) (draw : List I → Env → Heap → Option (Env × Heap)) (e : Env) (h : Heap) : evC run draw L47x0 e h = evC run draw B47x0 e h := rfl
/-- loop.example/tablehouse/spec.IndexBetween -/
def F47 : F := ⟨72, [(false, 8, 0, false)],
   .seq (.seg false [⟨some 5, none, .box (.t 1), 0, 0, false, []⟩,
    ⟨some 6, none, .box (.t 2), 0, 0, false, []⟩,
    ⟨some 8, none, .nilrow 1, 0, 0, false, []⟩])
   (.seq (.seg false [⟨some 12, none, .mksl true 1 [], 0, 0, false, []⟩,
    ⟨some 9, none, .mov (.t 12), 0, 0, false, []⟩])
   (.seq (.seq (.seg false [⟨some 13, none, .mov (.t 0), 0, 0, false, []⟩,
    ⟨some 14, none, .call 39 [.t 13] false false, 0, 0, false, []⟩,
    ⟨some 15, none, .un .not (.t 14), 0, 0, false, []⟩,
    ⟨some 16, none, .mov (.t 15), 0, 0, false, []⟩,
    ⟨some 17, some (16, false), .load true 3 (.t 5), 0, 0, false, []⟩,
    ⟨some 18, some (16, false), .call 101 [.t 17] false false, 0, 0, false, []⟩,
    ⟨some 19, some (16, false), .un .not (.t 18), 0, 0, false, []⟩,
    ⟨some 20, none, .pick (.t 16) (.k (.bool true)) (.t 19), 0, 0, false, []⟩,
    ⟨some 21, none, .mov (.t 20), 0, 0, false, []⟩,
    ⟨some 22, some (21, false), .load true 3 (.t 6), 0, 0, false, []⟩,
    ⟨some 23, some (21, false), .call 101 [.t 22] false false, 0, 0, false, []⟩,
    ⟨some 24, some (21, false), .un .not (.t 23), 0, 0, false, []⟩,
    ⟨some 25, none, .pick (.t 21) (.k (.bool true)) (.t 24), 0, 0, false, []⟩])
   (.cutTo [0, 3, 5, 6, 9, 25] (.cond (.t 25) (.seq (.seg false [⟨some 26, none, .mov (.t 9), 0, 0, false, []⟩,
    ⟨some 8, none, .mov (.t 26), 0, 0, false, []⟩])
   (.ret))
   (.skip))))
   (.cutTo [0, 3, 5, 6, 9] (.seq (.seq (.seg false [⟨some 10, none, .mov (.k (.int .i64 0)), 0, 0, false, []⟩])
   (.block 0 (.loop [0, 3, 5, 6, 9, 10] [9] L47x0)))
   (.seq (.seg false [⟨some 71, none, .mov (.t 9), 0, 0, false, []⟩,
    ⟨some 8, none, .mov (.t 71), 0, 0, false, []⟩])
   (.ret))))))⟩
/-- loop.example/tablehouse/spec.l20Open -/
def F55 : F := ⟨11, [(false, 2, 0, false)],
   .seq (.seg false [⟨some 2, none, .mov (.k .undef), 0, 0, false, []⟩])
   (.seq (.seq (.seg false [⟨some 3, none, .mov (.t 0), 0, 0, false, []⟩,
    ⟨some 4, none, .len false (.t 3), 0, 0, false, []⟩,
    ⟨some 5, none, .bin .gtr (.t 4) (.k (.int .i64 2000)), 0, 0, false, []⟩])
   (.cond (.t 5) (.seg false [⟨some 6, none, .mov (.t 0), 0, 0, false, []⟩,
    ⟨some 7, none, .slc false 1 (.t 6) none (some (.k (.int .i64 2000))) none, 0, 0, false, []⟩,
    ⟨some 0, none, .mov (.t 7), 0, 0, false, []⟩])
   (.skip)))
   (.cutTo [0] (.seq (.seg false [⟨some 8, none, .mov (.t 0), 0, 0, false, []⟩,
    ⟨some 9, none, .build [.sl true 1 [], .int .i64 0] [(0, 1, .t 8)], 0, 0, false, []⟩,
    ⟨some 10, none, .box (.t 9), 0, 0, false, []⟩,
    ⟨some 2, none, .mov (.t 10), 0, 0, false, []⟩])
   (.cutTo [2] (.ret)))))⟩
/-- loop.example/tablehouse/spec.l20Index -/
def F95 : F := ⟨56, [(false, 4, 0, false), (false, 5, 0, false)],
   .seq (.seg false [⟨some 4, none, .nilrow 6, 0, 0, false, []⟩,
    ⟨some 5, none, .mov (.k (.int .i64 0)), 0, 0, false, []⟩])
   (.seq (.seg false [⟨some 11, none, .mov (.t 0), 0, 0, false, []⟩,
    ⟨some 12, none, .call 59 [.t 11, .k (.int .i64 0)] true false, 0, 0, false, []⟩,
    ⟨some 10, none, .mov (.t 12), 0, 0, false, []⟩,
    ⟨some 13, none, .ext (.t 10) 0, 0, 0, false, []⟩,
    ⟨some 14, none, .ext (.t 10) 1, 0, 0, false, []⟩,
    ⟨some 6, none, .mov (.t 13), 0, 0, false, []⟩,
    ⟨some 7, none, .mov (.t 14), 0, 0, false, []⟩])
   (.cutTo [0, 1, 6, 7] (.seq (.seg false [⟨some 15, none, .mov (.t 6), 0, 0, false, []⟩,
    ⟨some 16, none, .call 148 [.t 15] false true, 0, 0, false, []⟩,
    ⟨some 8, none, .mov (.t 16), 0, 0, false, []⟩])
   (.seq (.seq (.seg false [⟨some 17, none, .mov (.t 8), 0, 0, false, []⟩,
    ⟨some 18, none, .len false (.t 17), 0, 0, false, []⟩,
    ⟨some 19, none, .bin .gtr (.t 18) (.k (.int .i64 0)), 0, 0, false, []⟩,
    ⟨some 20, none, .mov (.t 19), 0, 0, false, []⟩,
    ⟨some 21, some (20, true), .mov (.t 0), 0, 0, false, []⟩,
    ⟨some 22, some (20, true), .mov (.t 1), 0, 0, false, []⟩,
    ⟨some 23, some (20, true), .call 119 [.t 21, .t 22] true false, 0, 0, false, []⟩,
    ⟨some 24, none, .pick (.t 20) (.t 23) (.k (.bool false)), 0, 0, false, []⟩])
   (.cutTo [0, 7, 8, 24] (.cond (.t 24) (.seq (.seg false [⟨some 25, none, .mov (.t 0), 0, 0, false, []⟩,
    ⟨some 26, none, .mov (.t 8), 0, 0, false, []⟩,
    ⟨some 27, none, .len false (.t 26), 0, 0, false, []⟩,
    ⟨some 28, none, .call 57 [.t 25, .t 27] true false, 0, 0, false, []⟩,
    ⟨some 9, none, .mov (.t 28), 0, 0, false, []⟩])
   (.cutTo [0, 7, 8, 9] (.seq (.seg false [⟨some 29, none, .mov (.t 0), 0, 0, false, []⟩,
    ⟨some 30, none, .call 57 [.t 29, .k (.int .i64 3)] true false, 0, 0, false, []⟩])
   (.block 0 (.seq (.seg false [⟨some 39, none, .bin .eql (.t 30) (.k (.int .i64 0)), 0, 0, false, []⟩,
    ⟨some 38, none, .mov (.t 39), 0, 0, false, []⟩])
   (.cond (.t 38) (.seg false [⟨some 40, none, .mov (.t 8), 0, 0, false, []⟩,
    ⟨some 41, none, .mov (.t 9), 0, 0, false, []⟩,
    ⟨some 42, none, .mov (.t 0), 0, 0, false, []⟩,
    ⟨some 43, none, .call 57 [.t 42, .k (.int .i64 9)] true false, 0, 0, false, []⟩,
    ⟨some 44, none, .iaddr 6 (.t 40) (.t 41), 0, 0, false, []⟩,
    ⟨some 45, none, .faddr 5 1 (.t 44), 0, 0, false, []⟩,
    ⟨none, none, .store 1 (.t 45) (.t 43), 0, 0, false, []⟩])
   (.seq (.seg false [⟨some 47, none, .bin .eql (.t 30) (.k (.int .i64 1)), 0, 0, false, []⟩,
    ⟨some 46, none, .mov (.t 47), 0, 0, false, []⟩])
   (.cond (.t 46) (.seg false [⟨some 48, none, .mov (.t 8), 0, 0, false, []⟩,
    ⟨some 49, none, .mov (.t 9), 0, 0, false, []⟩,
    ⟨some 50, none, .mov (.t 0), 0, 0, false, []⟩,
    ⟨some 51, none, .call 149 [.t 50, .k (.int .i64 2)] true false, 0, 0, false, []⟩,
    ⟨some 52, none, .iaddr 6 (.t 48) (.t 49), 0, 0, false, []⟩,
    ⟨some 53, none, .faddr 0 3 (.t 52), 0, 0, false, []⟩,
    ⟨none, none, .store 3 (.t 53) (.t 51), 0, 0, false, []⟩])
   (.seg false [⟨some 31, none, .mov (.t 8), 0, 0, false, []⟩,
    ⟨some 32, none, .mov (.t 8), 0, 0, false, []⟩,
    ⟨some 33, none, .mov (.t 9), 0, 0, false, []⟩,
    ⟨some 34, none, .iaddr 6 (.t 32) (.t 33), 0, 0, false, []⟩,
    ⟨some 35, none, .load true 6 (.t 34), 0, 0, false, []⟩,
    ⟨some 36, none, .mksl false 6 [.t 35], 0, 0, false, []⟩,
    ⟨some 37, none, .app 6 (.t 31) (.t 36), 0, 0, false, []⟩,
    ⟨some 8, none, .mov (.t 37), 0, 0, false, []⟩])))))))))
   (.skip))))
   (.cutTo [7, 8] (.seq (.seg false [⟨some 54, none, .mov (.t 8), 0, 0, false, []⟩,
    ⟨some 55, none, .mov (.t 7), 0, 0, false, []⟩,
    ⟨some 4, none, .mov (.t 54), 0, 0, false, []⟩,
    ⟨some 5, none, .mov (.t 55), 0, 0, false, []⟩])
   (.cutTo [4, 5] (.ret))))))))⟩
/-- (loop.example/tablehouse/impl.Value).ok -/
def F96 : F := ⟨46, [(false, 2, 0, false)],
   .seq (.seg false [⟨some 1, none, .box (.t 0), 0, 0, false, []⟩,
    ⟨some 2, none, .mov (.k (.bool false)), 0, 0, false, []⟩])
   (.seq (.seq (.seg false [⟨some 3, none, .faddr 0 1 (.t 1), 0, 0, false, []⟩,
    ⟨some 4, none, .load false 1 (.t 3), 0, 0, false, []⟩])
   (.block 0 (.seq (.seg false [⟨some 6, none, .bin .eql (.t 4) (.k (.int .i64 0)), 0, 0, false, []⟩,
    ⟨some 5, none, .mov (.t 6), 0, 0, false, []⟩])
   (.cond (.t 5) (.seq (.seg false [⟨some 7, none, .load true 3 (.t 1), 0, 0, false, []⟩,
    ⟨some 8, none, .build [.int .i64 0, .int .i64 0, .str ⟨#[]⟩] [], 0, 0, false, []⟩,
    ⟨some 9, none, .eqs false [.int, .int, .str] (.t 7) (.t 8), 0, 0, false, []⟩,
    ⟨some 2, none, .mov (.t 9), 0, 0, false, []⟩])
   (.cutTo [2] (.ret)))
   (.seq (.seg false [⟨some 11, none, .bin .eql (.t 4) (.k (.int .i64 1)), 0, 0, false, []⟩,
    ⟨some 10, none, .mov (.t 11), 0, 0, false, []⟩])
   (.cond (.t 10) (.seq (.seg false [⟨some 12, none, .faddr 2 1 (.t 1), 0, 0, false, []⟩,
    ⟨some 13, none, .load false 1 (.t 12), 0, 0, false, []⟩,
    ⟨some 14, none, .bin .eql (.t 13) (.k (.str ⟨#[]⟩)), 0, 0, false, []⟩,
    ⟨some 15, none, .mov (.t 14), 0, 0, false, []⟩,
    ⟨some 16, some (15, true), .faddr 1 1 (.t 1), 0, 0, false, []⟩,
    ⟨some 17, some (15, true), .load false 1 (.t 16), 0, 0, false, []⟩,
    ⟨some 18, some (15, true), .call 79 [.t 17, .k (.int .i64 (-9999)), .k (.int .i64 9999)] false false, 0, 0, false, []⟩,
    ⟨some 19, none, .pick (.t 15) (.t 18) (.k (.bool false)), 0, 0, false, []⟩,
    ⟨some 2, none, .mov (.t 19), 0, 0, false, []⟩])
   (.cutTo [2] (.ret)))
   (.seq (.seg false [⟨some 21, none, .bin .eql (.t 4) (.k (.int .i64 2)), 0, 0, false, []⟩,
    ⟨some 20, none, .mov (.t 21), 0, 0, false, []⟩])
   (.cond (.t 20) (.seq (.seg false [⟨some 22, none, .faddr 1 1 (.t 1), 0, 0, false, []⟩,
    ⟨some 23, none, .load false 1 (.t 22), 0, 0, false, []⟩,
    ⟨some 24, none, .bin .eql (.t 23) (.k (.int .i64 0)), 0, 0, false, []⟩,
    ⟨some 25, none, .mov (.t 24), 0, 0, false, []⟩,
    ⟨some 26, some (25, true), .faddr 2 1 (.t 1), 0, 0, false, []⟩,
    ⟨some 27, some (25, true), .load false 1 (.t 26), 0, 0, false, []⟩,
    ⟨some 28, some (25, true), .len true (.t 27), 0, 0, false, []⟩,
    ⟨some 29, some (25, true), .bin .leq (.t 28) (.k (.int .i64 6)), 0, 0, false, []⟩,
    ⟨some 30, none, .pick (.t 25) (.t 29) (.k (.bool false)), 0, 0, false, []⟩,
    ⟨some 31, none, .mov (.t 30), 0, 0, false, []⟩,
    ⟨some 32, some (31, true), .faddr 2 1 (.t 1), 0, 0, false, []⟩,
    ⟨some 33, some (31, true), .load false 1 (.t 32), 0, 0, false, []⟩,
    ⟨some 34, some (31, true), .call 150 [.t 33] false false, 0, 0, false, []⟩,
    ⟨some 35, none, .pick (.t 31) (.t 34) (.k (.bool false)), 0, 0, false, []⟩,
    ⟨some 2, none, .mov (.t 35), 0, 0, false, []⟩])
   (.cutTo [2] (.ret)))
   (.seq (.seg false [⟨some 37, none, .bin .eql (.t 4) (.k (.int .i64 3)), 0, 0, false, []⟩,
    ⟨some 36, none, .mov (.t 37), 0, 0, false, []⟩])
   (.cond (.t 36) (.seq (.seg false [⟨some 38, none, .faddr 2 1 (.t 1), 0, 0, false, []⟩,
    ⟨some 39, none, .load false 1 (.t 38), 0, 0, false, []⟩,
    ⟨some 40, none, .bin .eql (.t 39) (.k (.str ⟨#[]⟩)), 0, 0, false, []⟩,
    ⟨some 41, none, .mov (.t 40), 0, 0, false, []⟩,
    ⟨some 42, some (41, true), .faddr 1 1 (.t 1), 0, 0, false, []⟩,
    ⟨some 43, some (41, true), .load false 1 (.t 42), 0, 0, false, []⟩,
    ⟨some 44, some (41, true), .call 79 [.t 43, .k (.int .i64 0), .k (.int .i64 1)] false false, 0, 0, false, []⟩,
    ⟨some 45, none, .pick (.t 41) (.t 44) (.k (.bool false)), 0, 0, false, []⟩,
    ⟨some 2, none, .mov (.t 45), 0, 0, false, []⟩])
   (.cutTo [2] (.ret)))
   (.skip)))))))))))
   (.cutTo [] (.seq (.seg false [⟨some 2, none, .mov (.k (.bool false)), 0, 0, false, []⟩])
   (.ret))))⟩
/-- loop.example/tablehouse/impl.keyOk -/
def F78 : F := ⟨5, [(false, 2, 0, false)],
   .seq (.seg false [⟨some 2, none, .mov (.k (.bool false)), 0, 0, false, []⟩])
   (.seq (.seg false [⟨some 3, none, .mov (.t 0), 0, 0, false, []⟩,
    ⟨some 4, none, .call 79 [.t 3, .k (.int .i64 0), .k (.int .i64 4)] false false, 0, 0, false, []⟩,
    ⟨some 2, none, .mov (.t 4), 0, 0, false, []⟩])
   (.ret))⟩
/-- loop.example/tablehouse/impl.between -/
def F79 : F := ⟨15, [(false, 6, 0, false)],
   .seq (.seg false [⟨some 6, none, .mov (.k (.bool false)), 0, 0, false, []⟩])
   (.seq (.seg false [⟨some 7, none, .mov (.t 0), 0, 0, false, []⟩,
    ⟨some 8, none, .mov (.t 1), 0, 0, false, []⟩,
    ⟨some 9, none, .bin .geq (.t 7) (.t 8), 0, 0, false, []⟩,
    ⟨some 10, none, .mov (.t 9), 0, 0, false, []⟩,
    ⟨some 11, some (10, true), .mov (.t 0), 0, 0, false, []⟩,
    ⟨some 12, some (10, true), .mov (.t 2), 0, 0, false, []⟩,
    ⟨some 13, some (10, true), .bin .leq (.t 11) (.t 12), 0, 0, false, []⟩,
    ⟨some 14, none, .pick (.t 10) (.t 13) (.k (.bool false)), 0, 0, false, []⟩,
    ⟨some 6, none, .mov (.t 14), 0, 0, false, []⟩])
   (.cutTo [6] (.ret)))⟩
def E97x0 : List I := [⟨some 5, none, .faddr 0 3 (.t 2), 0, 0, false, []⟩,
    ⟨some 6, none, .load true 3 (.t 5), 0, 0, false, []⟩,
    ⟨some 7, none, .faddr 0 3 (.t 3), 0, 0, false, []⟩,
    ⟨some 8, none, .load true 3 (.t 7), 0, 0, false, []⟩,
    ⟨some 9, none, .call 108 [.t 6, .t 8] false false, 0, 0, false, []⟩,
    ⟨some 10, none, .faddr 3 1 (.t 2), 0, 0, false, []⟩,
    ⟨some 11, none, .load false 1 (.t 10), 0, 0, false, []⟩,
    ⟨some 12, none, .faddr 3 1 (.t 3), 0, 0, false, []⟩,
    ⟨some 13, none, .load false 1 (.t 12), 0, 0, false, []⟩,
    ⟨some 14, none, .call 147 [.t 11, .t 13] false false, 0, 0, false, []⟩,
    ⟨some 15, none, .faddr 4 1 (.t 2), 0, 0, false, []⟩,
    ⟨some 16, none, .load false 1 (.t 15), 0, 0, false, []⟩,
    ⟨some 17, none, .faddr 4 1 (.t 3), 0, 0, false, []⟩,
    ⟨some 18, none, .load false 1 (.t 17), 0, 0, false, []⟩,
    ⟨some 19, none, .call 147 [.t 16, .t 18] false false, 0, 0, false, []⟩,
    ⟨some 20, none, .mksl false 1 [.t 9, .t 14, .t 19], 0, 0, false, []⟩,
    ⟨some 21, none, .call 145 [.t 20] false false, 0, 0, false, []⟩,
    ⟨some 4, none, .mov (.t 21), 0, 0, false, []⟩]
def D97x0 : List I := E97x0
theorem evD97x0 (run : Run) (e : Env) (h : Heap) : drawI run D97x0 e h = DrawS (evQ run E97x0 e h) run E97x0 e h := drawI_quiet run _ (by rfl) e h
/-- (loop.example/tablehouse/impl.Mark).order -/
def F97 : F := ⟨22, [(false, 4, 0, false)],
   .seq (.seg false [⟨some 2, none, .box (.t 0), 0, 0, false, []⟩,
    ⟨some 3, none, .box (.t 1), 0, 0, false, []⟩,
    ⟨some 4, none, .mov (.k (.int .i64 0)), 0, 0, false, []⟩])
   (.seq (.seg true D97x0)
   (.cutTo [4] (.ret)))⟩
def E99x0 : List I := [⟨some 4, none, .faddr 3 1 (.t 2), 0, 0, false, []⟩,
    ⟨some 5, none, .load false 1 (.t 4), 0, 0, false, []⟩,
    ⟨some 6, none, .faddr 3 1 (.t 1), 0, 0, false, []⟩,
    ⟨some 7, none, .load false 1 (.t 6), 0, 0, false, []⟩,
    ⟨some 8, none, .bin .eql (.t 5) (.t 7), 0, 0, false, []⟩,
    ⟨some 9, none, .mov (.t 8), 0, 0, false, []⟩,
    ⟨some 10, some (9, true), .faddr 4 1 (.t 2), 0, 0, false, []⟩,
    ⟨some 11, some (9, true), .load false 1 (.t 10), 0, 0, false, []⟩,
    ⟨some 12, some (9, true), .load true 6 (.t 1), 0, 0, false, []⟩,
    ⟨some 13, some (9, true), .call 100 [.t 12] false false, 0, 0, false, []⟩,
    ⟨some 14, some (9, true), .bin .lss (.t 11) (.t 13), 0, 0, false, []⟩,
    ⟨some 15, none, .pick (.t 9) (.t 14) (.k (.bool false)), 0, 0, false, []⟩,
    ⟨some 16, none, .mov (.t 15), 0, 0, false, []⟩,
    ⟨some 17, some (16, true), .faddr 4 1 (.t 1), 0, 0, false, []⟩,
    ⟨some 18, some (16, true), .load false 1 (.t 17), 0, 0, false, []⟩,
    ⟨some 19, some (16, true), .load true 6 (.t 2), 0, 0, false, []⟩,
    ⟨some 20, some (16, true), .call 100 [.t 19] false false, 0, 0, false, []⟩,
    ⟨some 21, some (16, true), .bin .lss (.t 18) (.t 20), 0, 0, false, []⟩,
    ⟨some 22, none, .pick (.t 16) (.t 21) (.k (.bool false)), 0, 0, false, []⟩,
    ⟨some 3, none, .mov (.t 22), 0, 0, false, []⟩]
def D99x0 : List I := E99x0
theorem evD99x0 (run : Run) (e : Env) (h : Heap) : drawI run D99x0 e h = DrawS (evQ run E99x0 e h) run E99x0 e h := drawI_quiet run _ (by rfl) e h
/-- loop.example/tablehouse/impl.IndexOk$1 -/
def F99 : F := ⟨23, [(false, 3, 0, false)],
   .seq (.seg false [⟨some 2, none, .box (.t 0), 0, 0, false, []⟩,
    ⟨some 3, none, .mov (.k (.bool false)), 0, 0, false, []⟩])
   (.seq (.seg true D99x0)
   (.cutTo [3] (.ret)))⟩
/-- slices.ContainsFunc<<>loop.example/tablehouse/impl.Mark,loop.example/tablehouse/impl.Mark> -/
def F98 : F := ⟨9, [(false, 4, 0, false)],
   .seq (.seg false [⟨some 4, none, .mov (.k (.bool false)), 0, 0, false, []⟩])
   (.seq (.seg false [⟨some 5, none, .mov (.t 0), 0, 0, false, []⟩,
    ⟨some 6, none, .mov (.t 1), 0, 0, false, []⟩,
    ⟨some 7, none, .call 151 [.t 5, .t 6] true false, 0, 0, false, []⟩,
    ⟨some 8, none, .bin .geq (.t 7) (.k (.int .i64 0)), 0, 0, false, []⟩,
    ⟨some 4, none, .mov (.t 8), 0, 0, false, []⟩])
   (.cutTo [4] (.ret)))⟩
/-- loop.example/tablehouse/spec.ValueOk -/
def F101 : F := ⟨45, [(false, 2, 0, false)],
   .seq (.seg false [⟨some 1, none, .box (.t 0), 0, 0, false, []⟩,
    ⟨some 2, none, .mov (.k (.bool false)), 0, 0, false, []⟩])
   (.seq (.seq (.seg false [⟨some 3, none, .faddr 0 1 (.t 1), 0, 0, false, []⟩,
    ⟨some 4, none, .load false 1 (.t 3), 0, 0, false, []⟩])
   (.block 0 (.seq (.seg false [⟨some 6, none, .bin .eql (.t 4) (.k (.int .i64 0)), 0, 0, false, []⟩,
    ⟨some 5, none, .mov (.t 6), 0, 0, false, []⟩])
   (.cond (.t 5) (.seq (.seg false [⟨some 7, none, .faddr 1 1 (.t 1), 0, 0, false, []⟩,
    ⟨some 8, none, .load false 1 (.t 7), 0, 0, false, []⟩,
    ⟨some 9, none, .bin .eql (.t 8) (.k (.int .i64 0)), 0, 0, false, []⟩,
    ⟨some 10, none, .mov (.t 9), 0, 0, false, []⟩,
    ⟨some 11, some (10, true), .faddr 2 1 (.t 1), 0, 0, false, []⟩,
    ⟨some 12, some (10, true), .load false 1 (.t 11), 0, 0, false, []⟩,
    ⟨some 13, some (10, true), .bin .eql (.t 12) (.k (.str ⟨#[]⟩)), 0, 0, false, []⟩,
    ⟨some 14, none, .pick (.t 10) (.t 13) (.k (.bool false)), 0, 0, false, []⟩,
    ⟨some 2, none, .mov (.t 14), 0, 0, false, []⟩])
   (.cutTo [2] (.ret)))
   (.seq (.seg false [⟨some 16, none, .bin .eql (.t 4) (.k (.int .i64 1)), 0, 0, false, []⟩,
    ⟨some 15, none, .mov (.t 16), 0, 0, false, []⟩])
   (.cond (.t 15) (.seq (.seg false [⟨some 17, none, .faddr 1 1 (.t 1), 0, 0, false, []⟩,
    ⟨some 18, none, .load false 1 (.t 17), 0, 0, false, []⟩,
    ⟨some 19, none, .call 84 [.t 18, .k (.int .i64 (-9999)), .k (.int .i64 9999)] false false, 0, 0, false, []⟩,
    ⟨some 20, none, .mov (.t 19), 0, 0, false, []⟩,
    ⟨some 21, some (20, true), .faddr 2 1 (.t 1), 0, 0, false, []⟩,
    ⟨some 22, some (20, true), .load false 1 (.t 21), 0, 0, false, []⟩,
    ⟨some 23, some (20, true), .bin .eql (.t 22) (.k (.str ⟨#[]⟩)), 0, 0, false, []⟩,
    ⟨some 24, none, .pick (.t 20) (.t 23) (.k (.bool false)), 0, 0, false, []⟩,
    ⟨some 2, none, .mov (.t 24), 0, 0, false, []⟩])
   (.cutTo [2] (.ret)))
   (.seq (.seg false [⟨some 26, none, .bin .eql (.t 4) (.k (.int .i64 2)), 0, 0, false, []⟩,
    ⟨some 25, none, .mov (.t 26), 0, 0, false, []⟩])
   (.cond (.t 25) (.seq (.seg false [⟨some 27, none, .faddr 1 1 (.t 1), 0, 0, false, []⟩,
    ⟨some 28, none, .load false 1 (.t 27), 0, 0, false, []⟩,
    ⟨some 29, none, .bin .eql (.t 28) (.k (.int .i64 0)), 0, 0, false, []⟩,
    ⟨some 30, none, .mov (.t 29), 0, 0, false, []⟩,
    ⟨some 31, some (30, true), .faddr 2 1 (.t 1), 0, 0, false, []⟩,
    ⟨some 32, some (30, true), .load false 1 (.t 31), 0, 0, false, []⟩,
    ⟨some 33, some (30, true), .call 152 [.t 32] false false, 0, 0, false, []⟩,
    ⟨some 34, none, .pick (.t 30) (.t 33) (.k (.bool false)), 0, 0, false, []⟩,
    ⟨some 2, none, .mov (.t 34), 0, 0, false, []⟩])
   (.cutTo [2] (.ret)))
   (.seq (.seg false [⟨some 36, none, .bin .eql (.t 4) (.k (.int .i64 3)), 0, 0, false, []⟩,
    ⟨some 35, none, .mov (.t 36), 0, 0, false, []⟩])
   (.cond (.t 35) (.seq (.seg false [⟨some 37, none, .faddr 1 1 (.t 1), 0, 0, false, []⟩,
    ⟨some 38, none, .load false 1 (.t 37), 0, 0, false, []⟩,
    ⟨some 39, none, .call 84 [.t 38, .k (.int .i64 0), .k (.int .i64 1)] false false, 0, 0, false, []⟩,
    ⟨some 40, none, .mov (.t 39), 0, 0, false, []⟩,
    ⟨some 41, some (40, true), .faddr 2 1 (.t 1), 0, 0, false, []⟩,
    ⟨some 42, some (40, true), .load false 1 (.t 41), 0, 0, false, []⟩,
    ⟨some 43, some (40, true), .bin .eql (.t 42) (.k (.str ⟨#[]⟩)), 0, 0, false, []⟩,
    ⟨some 44, none, .pick (.t 40) (.t 43) (.k (.bool false)), 0, 0, false, []⟩,
    ⟨some 2, none, .mov (.t 44), 0, 0, false, []⟩])
   (.cutTo [2] (.ret)))
   (.skip)))))))))))
   (.cutTo [] (.seq (.seg false [⟨some 2, none, .mov (.k (.bool false)), 0, 0, false, []⟩])
   (.ret))))⟩
/-- loop.example/tablehouse/spec.l13Version -/
def F102 : F := ⟨29, [(false, 2, 0, false)],
   .seq (.seg false [⟨some 1, none, .box (.t 0), 0, 0, false, []⟩,
    ⟨some 2, none, .mov (.k (.bool false)), 0, 0, false, []⟩])
   (.seq (.seg false [⟨some 3, none, .faddr 0 1 (.t 1), 0, 0, false, []⟩,
    ⟨some 4, none, .load false 1 (.t 3), 0, 0, false, []⟩,
    ⟨some 5, none, .call 84 [.t 4, .k (.int .i64 0), .k (.int .i64 4)] false false, 0, 0, false, []⟩,
    ⟨some 6, none, .mov (.t 5), 0, 0, false, []⟩,
    ⟨some 7, some (6, true), .faddr 1 1 (.t 1), 0, 0, false, []⟩,
    ⟨some 8, some (6, true), .load false 1 (.t 7), 0, 0, false, []⟩,
    ⟨some 9, some (6, true), .call 84 [.t 8, .k (.int .i64 1), .k (.int .i64 40)] false false, 0, 0, false, []⟩,
    ⟨some 10, none, .pick (.t 6) (.t 9) (.k (.bool false)), 0, 0, false, []⟩,
    ⟨some 11, none, .mov (.t 10), 0, 0, false, []⟩,
    ⟨some 12, some (11, true), .faddr 2 1 (.t 1), 0, 0, false, []⟩,
    ⟨some 13, some (11, true), .load false 1 (.t 12), 0, 0, false, []⟩,
    ⟨some 14, some (11, true), .bin .eql (.t 13) (.k (.int .i64 0)), 0, 0, false, []⟩,
    ⟨some 15, some (11, true), .mov (.t 14), 0, 0, false, []⟩,
    ⟨some 16, some (15, false), .faddr 2 1 (.t 1), 0, 0, false, []⟩,
    ⟨some 17, some (15, false), .load false 1 (.t 16), 0, 0, false, []⟩,
    ⟨some 18, some (15, false), .faddr 1 1 (.t 1), 0, 0, false, []⟩,
    ⟨some 19, some (15, false), .load false 1 (.t 18), 0, 0, false, []⟩,
    ⟨some 20, some (15, false), .bin .add (.t 19) (.k (.int .i64 1)), 0, 0, false, []⟩,
    ⟨some 21, some (15, false), .call 84 [.t 17, .t 20, .k (.int .i64 40)] false false, 0, 0, false, []⟩,
    ⟨some 22, some (11, true), .pick (.t 15) (.k (.bool true)) (.t 21), 0, 0, false, []⟩,
    ⟨some 23, none, .pick (.t 11) (.t 22) (.k (.bool false)), 0, 0, false, []⟩,
    ⟨some 24, none, .mov (.t 23), 0, 0, false, []⟩,
    ⟨some 25, some (24, true), .faddr 3 1 (.t 1), 0, 0, false, []⟩,
    ⟨some 26, some (24, true), .load false 1 (.t 25), 0, 0, false, []⟩,
    ⟨some 27, some (24, true), .call 138 [.t 26] false false, 0, 0, false, []⟩,
    ⟨some 28, none, .pick (.t 24) (.t 27) (.k (.bool false)), 0, 0, false, []⟩,
    ⟨some 2, none, .mov (.t 28), 0, 0, false, []⟩])
   (.cutTo [2] (.ret)))⟩
/-- loop.example/tablehouse/spec.l31Less -/
def F103 : F := ⟨34, [(false, 4, 0, false)],
   .seq (.seg false [⟨some 2, none, .box (.t 0), 0, 0, false, []⟩,
    ⟨some 3, none, .box (.t 1), 0, 0, false, []⟩,
    ⟨some 4, none, .mov (.k (.bool false)), 0, 0, false, []⟩])
   (.seq (.seq (.seg false [⟨some 6, none, .faddr 0 3 (.t 2), 0, 0, false, []⟩,
    ⟨some 7, none, .load true 3 (.t 6), 0, 0, false, []⟩,
    ⟨some 8, none, .faddr 0 3 (.t 3), 0, 0, false, []⟩,
    ⟨some 9, none, .load true 3 (.t 8), 0, 0, false, []⟩,
    ⟨some 10, none, .call 109 [.t 7, .t 9] false false, 0, 0, false, []⟩,
    ⟨some 5, none, .mov (.t 10), 0, 0, false, []⟩])
   (.cutTo [2, 3, 5] (.seq (.seg false [⟨some 11, none, .mov (.t 5), 0, 0, false, []⟩,
    ⟨some 12, none, .bin .neq (.t 11) (.k (.int .i64 0)), 0, 0, false, []⟩])
   (.cond (.t 12) (.seq (.seg false [⟨some 13, none, .mov (.t 5), 0, 0, false, []⟩,
    ⟨some 14, none, .bin .lss (.t 13) (.k (.int .i64 0)), 0, 0, false, []⟩,
    ⟨some 4, none, .mov (.t 14), 0, 0, false, []⟩])
   (.ret))
   (.skip)))))
   (.cutTo [2, 3] (.seq (.seg false [⟨some 15, none, .faddr 3 1 (.t 2), 0, 0, false, []⟩,
    ⟨some 16, none, .load false 1 (.t 15), 0, 0, false, []⟩,
    ⟨some 17, none, .faddr 3 1 (.t 3), 0, 0, false, []⟩,
    ⟨some 18, none, .load false 1 (.t 17), 0, 0, false, []⟩,
    ⟨some 19, none, .bin .lss (.t 16) (.t 18), 0, 0, false, []⟩,
    ⟨some 20, none, .mov (.t 19), 0, 0, false, []⟩,
    ⟨some 21, some (20, false), .faddr 3 1 (.t 2), 0, 0, false, []⟩,
    ⟨some 22, some (20, false), .load false 1 (.t 21), 0, 0, false, []⟩,
    ⟨some 23, some (20, false), .faddr 3 1 (.t 3), 0, 0, false, []⟩,
    ⟨some 24, some (20, false), .load false 1 (.t 23), 0, 0, false, []⟩,
    ⟨some 25, some (20, false), .bin .eql (.t 22) (.t 24), 0, 0, false, []⟩,
    ⟨some 26, some (20, false), .mov (.t 25), 0, 0, false, []⟩,
    ⟨some 27, some (26, true), .faddr 4 1 (.t 2), 0, 0, false, []⟩,
    ⟨some 28, some (26, true), .load false 1 (.t 27), 0, 0, false, []⟩,
    ⟨some 29, some (26, true), .faddr 4 1 (.t 3), 0, 0, false, []⟩,
    ⟨some 30, some (26, true), .load false 1 (.t 29), 0, 0, false, []⟩,
    ⟨some 31, some (26, true), .bin .lss (.t 28) (.t 30), 0, 0, false, []⟩,
    ⟨some 32, some (20, false), .pick (.t 26) (.t 31) (.k (.bool false)), 0, 0, false, []⟩,
    ⟨some 33, none, .pick (.t 20) (.k (.bool true)) (.t 32), 0, 0, false, []⟩,
    ⟨some 4, none, .mov (.t 33), 0, 0, false, []⟩])
   (.cutTo [4] (.ret)))))⟩
/-- loop.example/tablehouse/impl.ValueOk -/
def F72 : F := ⟨5, [(false, 2, 0, false)],
   .seq (.seg false [⟨some 1, none, .box (.t 0), 0, 0, false, []⟩,
    ⟨some 2, none, .mov (.k (.bool false)), 0, 0, false, []⟩])
   (.seq (.seg false [⟨some 3, none, .load true 3 (.t 1), 0, 0, false, []⟩,
    ⟨some 4, none, .call 96 [.t 3] false false, 0, 0, false, []⟩,
    ⟨some 2, none, .mov (.t 4), 0, 0, false, []⟩])
   (.ret))⟩
def E57x0 : List I := [⟨some 47, none, .mov (.t 0), 0, 0, false, []⟩,
    ⟨some 48, none, .nilchk (.t 47), 0, 0, false, []⟩,
    ⟨some 49, none, .faddr 0 1 (.t 48), 0, 0, false, []⟩,
    ⟨some 50, none, .load false 1 (.t 49), 0, 0, false, []⟩,
    ⟨some 51, none, .mov (.t 5), 0, 0, false, []⟩,
    ⟨some 52, none, .mov (.t 0), 0, 0, false, []⟩,
    ⟨some 53, none, .nilchk (.t 52), 0, 0, false, []⟩,
    ⟨some 54, none, .faddr 0 1 (.t 53), 0, 0, false, []⟩,
    ⟨some 55, none, .load false 1 (.t 54), 0, 0, false, []⟩,
    ⟨some 56, none, .len false (.t 55), 0, 0, false, []⟩,
    ⟨some 57, none, .bin .rem (.t 51) (.t 56), 0, 0, false, []⟩,
    ⟨some 58, none, .iaddr 1 (.t 50) (.t 57), 0, 0, false, []⟩,
    ⟨some 59, none, .load false 1 (.t 58), 0, 0, false, []⟩,
    ⟨some 60, none, .conv (.int .i64) (.t 59), 0, 0, false, []⟩,
    ⟨some 61, none, .bin .mul (.t 60) (.k (.int .i64 131)), 0, 0, false, []⟩,
    ⟨some 62, none, .mov (.t 0), 0, 0, false, []⟩,
    ⟨some 63, none, .nilchk (.t 62), 0, 0, false, []⟩,
    ⟨some 64, none, .faddr 0 1 (.t 63), 0, 0, false, []⟩,
    ⟨some 65, none, .load false 1 (.t 64), 0, 0, false, []⟩,
    ⟨some 66, none, .mov (.t 5), 0, 0, false, []⟩,
    ⟨some 67, none, .bin .mul (.t 66) (.k (.int .i64 7)), 0, 0, false, []⟩,
    ⟨some 68, none, .bin .add (.t 67) (.k (.int .i64 3)), 0, 0, false, []⟩,
    ⟨some 69, none, .mov (.t 0), 0, 0, false, []⟩,
    ⟨some 70, none, .nilchk (.t 69), 0, 0, false, []⟩,
    ⟨some 71, none, .faddr 0 1 (.t 70), 0, 0, false, []⟩,
    ⟨some 72, none, .load false 1 (.t 71), 0, 0, false, []⟩,
    ⟨some 73, none, .len false (.t 72), 0, 0, false, []⟩,
    ⟨some 74, none, .bin .rem (.t 68) (.t 73), 0, 0, false, []⟩,
    ⟨some 75, none, .iaddr 1 (.t 65) (.t 74), 0, 0, false, []⟩,
    ⟨some 76, none, .load false 1 (.t 75), 0, 0, false, []⟩,
    ⟨some 77, none, .conv (.int .i64) (.t 76), 0, 0, false, []⟩,
    ⟨some 78, none, .bin .mul (.t 77) (.k (.int .i64 1117)), 0, 0, false, []⟩,
    ⟨some 79, none, .bin .add (.t 61) (.t 78), 0, 0, false, []⟩,
    ⟨some 80, none, .mov (.t 5), 0, 0, false, []⟩,
    ⟨some 81, none, .bin .mul (.t 80) (.k (.int .i64 29)), 0, 0, false, []⟩,
    ⟨some 82, none, .bin .add (.t 79) (.t 81), 0, 0, false, []⟩,
    ⟨some 83, none, .mov (.t 5), 0, 0, false, []⟩,
    ⟨some 84, none, .mov (.t 0), 0, 0, false, []⟩,
    ⟨some 85, none, .nilchk (.t 84), 0, 0, false, []⟩,
    ⟨some 86, none, .faddr 0 1 (.t 85), 0, 0, false, []⟩,
    ⟨some 87, none, .load false 1 (.t 86), 0, 0, false, []⟩,
    ⟨some 88, none, .len false (.t 87), 0, 0, false, []⟩,
    ⟨some 89, none, .bin .quo (.t 83) (.t 88), 0, 0, false, []⟩,
    ⟨some 90, none, .bin .mul (.t 89) (.k (.int .i64 53)), 0, 0, false, []⟩,
    ⟨some 91, none, .bin .add (.t 82) (.t 90), 0, 0, false, []⟩,
    ⟨some 6, none, .mov (.t 91), 0, 0, false, []⟩]
def D57x0 : List I := E57x0
theorem evD57x0 (run : Run) (e : Env) (h : Heap) : drawI run D57x0 e h = DrawS (evQ run E57x0 e h) run E57x0 e h := drawI_quiet run _ (by rfl) e h
/-- (*loop.example/tablehouse/spec.l20Rd).pick -/
def F57 : F := ⟨99, [(false, 4, 0, false)],
   .seq (.seg false [⟨some 4, none, .mov (.k (.int .i64 0)), 0, 0, false, []⟩])
   (.seq (.seg false [⟨some 7, none, .mov (.t 0), 0, 0, false, []⟩,
    ⟨some 8, none, .mov (.t 0), 0, 0, false, []⟩,
    ⟨some 9, none, .nilchk (.t 8), 0, 0, false, []⟩,
    ⟨some 10, none, .faddr 1 1 (.t 9), 0, 0, false, []⟩,
    ⟨some 11, none, .load false 1 (.t 10), 0, 0, false, []⟩,
    ⟨some 12, none, .bin .add (.t 11) (.k (.int .i64 1)), 0, 0, false, []⟩,
    ⟨some 13, none, .nilchk (.t 7), 0, 0, false, []⟩,
    ⟨some 14, none, .faddr 1 1 (.t 13), 0, 0, false, []⟩,
    ⟨none, none, .store 1 (.t 14) (.t 12), 0, 0, false, []⟩])
   (.cutTo [0, 1] (.seq (.seq (.seg false [⟨some 15, none, .mov (.t 1), 0, 0, false, []⟩,
    ⟨some 16, none, .bin .lss (.t 15) (.k (.int .i64 1)), 0, 0, false, []⟩,
    ⟨some 17, none, .mov (.t 16), 0, 0, false, []⟩,
    ⟨some 18, some (17, false), .mov (.t 0), 0, 0, false, []⟩,
    ⟨some 19, some (17, false), .nilchk (.t 18), 0, 0, false, []⟩,
    ⟨some 20, some (17, false), .faddr 0 1 (.t 19), 0, 0, false, []⟩,
    ⟨some 21, some (17, false), .load false 1 (.t 20), 0, 0, false, []⟩,
    ⟨some 22, some (17, false), .len false (.t 21), 0, 0, false, []⟩,
    ⟨some 23, some (17, false), .bin .eql (.t 22) (.k (.int .i64 0)), 0, 0, false, []⟩,
    ⟨some 24, none, .pick (.t 17) (.k (.bool true)) (.t 23), 0, 0, false, []⟩])
   (.cutTo [0, 1, 24] (.cond (.t 24) (.seq (.seg false [⟨some 4, none, .mov (.k (.int .i64 0)), 0, 0, false, []⟩])
   (.ret))
   (.skip))))
   (.cutTo [0, 1] (.seq (.seg false [⟨some 25, none, .mov (.t 0), 0, 0, false, []⟩,
    ⟨some 26, none, .nilchk (.t 25), 0, 0, false, []⟩,
    ⟨some 27, none, .faddr 1 1 (.t 26), 0, 0, false, []⟩,
    ⟨some 28, none, .load false 1 (.t 27), 0, 0, false, []⟩,
    ⟨some 29, none, .bin .sub (.t 28) (.k (.int .i64 1)), 0, 0, false, []⟩,
    ⟨some 5, none, .mov (.t 29), 0, 0, false, []⟩])
   (.cutTo [0, 1, 5] (.seq (.seq (.seg false [⟨some 30, none, .mov (.t 5), 0, 0, false, []⟩,
    ⟨some 31, none, .mov (.t 0), 0, 0, false, []⟩,
    ⟨some 32, none, .nilchk (.t 31), 0, 0, false, []⟩,
    ⟨some 33, none, .faddr 0 1 (.t 32), 0, 0, false, []⟩,
    ⟨some 34, none, .load false 1 (.t 33), 0, 0, false, []⟩,
    ⟨some 35, none, .len false (.t 34), 0, 0, false, []⟩,
    ⟨some 36, none, .bin .lss (.t 30) (.t 35), 0, 0, false, []⟩])
   (.cutTo [0, 1, 5, 36] (.cond (.t 36) (.seq (.seg false [⟨some 37, none, .mov (.t 0), 0, 0, false, []⟩,
    ⟨some 38, none, .nilchk (.t 37), 0, 0, false, []⟩,
    ⟨some 39, none, .faddr 0 1 (.t 38), 0, 0, false, []⟩,
    ⟨some 40, none, .load false 1 (.t 39), 0, 0, false, []⟩,
    ⟨some 41, none, .mov (.t 5), 0, 0, false, []⟩,
    ⟨some 42, none, .iaddr 1 (.t 40) (.t 41), 0, 0, false, []⟩,
    ⟨some 43, none, .load false 1 (.t 42), 0, 0, false, []⟩,
    ⟨some 44, none, .conv (.int .i64) (.t 43), 0, 0, false, []⟩,
    ⟨some 45, none, .mov (.t 1), 0, 0, false, []⟩,
    ⟨some 46, none, .bin .rem (.t 44) (.t 45), 0, 0, false, []⟩,
    ⟨some 4, none, .mov (.t 46), 0, 0, false, []⟩])
   (.cutTo [4] (.ret)))
   (.skip))))
   (.cutTo [0, 1, 5] (.seq (.seg true D57x0)
   (.cutTo [1, 6] (.seq (.seg false [⟨some 92, none, .mov (.t 6), 0, 0, false, []⟩,
    ⟨some 93, none, .mov (.t 6), 0, 0, false, []⟩,
    ⟨some 94, none, .bin .quo (.t 93) (.k (.int .i64 64)), 0, 0, false, []⟩,
    ⟨some 95, none, .bin .xor (.t 92) (.t 94), 0, 0, false, []⟩,
    ⟨some 6, none, .mov (.t 95), 0, 0, false, []⟩])
   (.cutTo [1, 6] (.seq (.seg false [⟨some 96, none, .mov (.t 6), 0, 0, false, []⟩,
    ⟨some 97, none, .mov (.t 1), 0, 0, false, []⟩,
    ⟨some 98, none, .bin .rem (.t 96) (.t 97), 0, 0, false, []⟩,
    ⟨some 4, none, .mov (.t 98), 0, 0, false, []⟩])
   (.cutTo [4] (.ret)))))))))))))))⟩
/-- loop.example/tablehouse/impl.IndexFind$1 -/
def F105 : F := ⟨14, [(false, 4, 0, false)],
   .seq (.seg false [⟨some 3, none, .box (.t 0), 0, 0, false, []⟩,
    ⟨some 4, none, .mov (.k (.bool false)), 0, 0, false, []⟩])
   (.seq (.seg false [⟨some 5, none, .faddr 0 3 (.t 3), 0, 0, false, []⟩,
    ⟨some 6, none, .load true 3 (.t 5), 0, 0, false, []⟩,
    ⟨some 7, none, .load true 3 (.t 1), 0, 0, false, []⟩,
    ⟨some 8, none, .eqs false [.int, .int, .str] (.t 6) (.t 7), 0, 0, false, []⟩,
    ⟨some 9, none, .mov (.t 8), 0, 0, false, []⟩,
    ⟨some 10, some (9, true), .load true 6 (.t 3), 0, 0, false, []⟩,
    ⟨some 11, some (9, true), .load false 1 (.t 2), 0, 0, false, []⟩,
    ⟨some 12, some (9, true), .call 106 [.t 10, .t 11] false false, 0, 0, false, []⟩,
    ⟨some 13, none, .pick (.t 9) (.t 12) (.k (.bool false)), 0, 0, false, []⟩,
    ⟨some 4, none, .mov (.t 13), 0, 0, false, []⟩])
   (.cutTo [4] (.ret)))⟩
def B104x0 : C := .seq (.seg false [⟨some 11, none, .bin .lss (.t 10) (.t 9), 0, 0, false, []⟩])
   (.seq (.cond (.t 11) (.skip)
   (.exit 0))
   (.seq (.block 1 (.seq (.seg false [⟨some 12, none, .iaddr 6 (.t 8) (.t 10), 0, 0, false, []⟩,
    ⟨some 13, none, .load true 6 (.t 12), 0, 0, false, []⟩,
    ⟨some 7, none, .alloc [.int .i64 0, .int .i64 0, .str ⟨#[]⟩, .int .i64 0, .int .i64 0, .int .i64 0], 0, 0, false, []⟩,
    ⟨none, none, .store 6 (.t 7) (.t 13), 0, 0, false, []⟩])
   (.cutTo [1, 5, 7, 8, 9, 10] (.seq (.seg false [⟨some 14, none, .mov (.t 1), 0, 0, false, []⟩,
    ⟨some 15, none, .load true 6 (.t 7), 0, 0, false, []⟩,
    ⟨some 16, none, .callv (.t 14) [.t 15] false, 0, 0, false, []⟩])
   (.cond (.t 16) (.seg false [⟨some 17, none, .mov (.t 5), 0, 0, false, []⟩,
    ⟨some 18, none, .faddr 3 1 (.t 7), 0, 0, false, []⟩,
    ⟨some 19, none, .load false 1 (.t 18), 0, 0, false, []⟩,
    ⟨some 20, none, .mksl false 1 [.t 19], 0, 0, false, []⟩,
    ⟨some 21, none, .app 1 (.t 17) (.t 20), 0, 0, false, []⟩,
    ⟨some 5, none, .mov (.t 21), 0, 0, false, []⟩])
   (.skip))))))
   (.cutTo [1, 5, 8, 9, 10] (.seg false [⟨some 22, none, .bin .add (.t 10) (.k (.int .i64 1)), 0, 0, false, []⟩,
    ⟨some 10, none, .mov (.t 22), 0, 0, false, []⟩]))))
def L104x0 : C := B104x0
theorem evL104x0 (run : Run) (draw : List I → Env → Heap → Option (Env × Heap)) (e : Env) (h : Heap) : evC run draw L104x0 e h = evC run draw B104x0 e h := rfl
/-- loop.example/tablehouse/impl.keysOf -/
def F104 : F := ⟨25, [(false, 4, 0, false)],
   .seq (.seg false [⟨some 4, none, .mov (.k (.sl true 1 [])), 0, 0, false, []⟩])
   (.seq (.seg false [⟨some 5, none, .nilrow 1, 0, 0, false, []⟩])
   (.seq (.seq (.seg false [⟨some 8, none, .mov (.t 0), 0, 0, false, []⟩,
    ⟨some 9, none, .len false (.t 8), 0, 0, false, []⟩,
    ⟨some 10, none, .mov (.k (.int .i64 0)), 0, 0, false, []⟩])
   (.block 0 (.loop [1, 5, 8, 9, 10] [5] L104x0)))
   (.seq (.seg false [⟨some 23, none, .mov (.t 5), 0, 0, false, []⟩,
    ⟨some 24, none, .callx 0 153 [.t 23], 0, 0, false, []⟩,
    ⟨some 4, none, .mov (.t 24), 0, 0, false, []⟩])
   (.ret))))⟩
/-- loop.example/tablehouse/impl.IndexBetween$1 -/
def F107 : F := ⟨23, [(false, 5, 0, false)],
   .seq (.seg false [⟨some 4, none, .box (.t 0), 0, 0, false, []⟩,
    ⟨some 5, none, .mov (.k (.bool false)), 0, 0, false, []⟩])
   (.seq (.seg false [⟨some 6, none, .faddr 0 3 (.t 4), 0, 0, false, []⟩,
    ⟨some 7, none, .load true 3 (.t 6), 0, 0, false, []⟩,
    ⟨some 8, none, .load true 3 (.t 1), 0, 0, false, []⟩,
    ⟨some 9, none, .call 108 [.t 7, .t 8] false false, 0, 0, false, []⟩,
    ⟨some 10, none, .bin .geq (.t 9) (.k (.int .i64 0)), 0, 0, false, []⟩,
    ⟨some 11, none, .mov (.t 10), 0, 0, false, []⟩,
    ⟨some 12, some (11, true), .faddr 0 3 (.t 4), 0, 0, false, []⟩,
    ⟨some 13, some (11, true), .load true 3 (.t 12), 0, 0, false, []⟩,
    ⟨some 14, some (11, true), .load true 3 (.t 2), 0, 0, false, []⟩,
    ⟨some 15, some (11, true), .call 108 [.t 13, .t 14] false false, 0, 0, false, []⟩,
    ⟨some 16, some (11, true), .bin .leq (.t 15) (.k (.int .i64 0)), 0, 0, false, []⟩,
    ⟨some 17, none, .pick (.t 11) (.t 16) (.k (.bool false)), 0, 0, false, []⟩,
    ⟨some 18, none, .mov (.t 17), 0, 0, false, []⟩,
    ⟨some 19, some (18, true), .load true 6 (.t 4), 0, 0, false, []⟩,
    ⟨some 20, some (18, true), .load false 1 (.t 3), 0, 0, false, []⟩,
    ⟨some 21, some (18, true), .call 106 [.t 19, .t 20] false false, 0, 0, false, []⟩,
    ⟨some 22, none, .pick (.t 18) (.t 21) (.k (.bool false)), 0, 0, false, []⟩,
    ⟨some 5, none, .mov (.t 22), 0, 0, false, []⟩])
   (.cutTo [5] (.ret)))⟩
/-- loop.example/tablehouse/spec.ValueOrder -/
def F109 : F := ⟨44, [(false, 4, 0, false)],
   .seq (.seg false [⟨some 2, none, .box (.t 0), 0, 0, false, []⟩,
    ⟨some 3, none, .box (.t 1), 0, 0, false, []⟩,
    ⟨some 4, none, .mov (.k (.int .i64 0)), 0, 0, false, []⟩])
   (.seq (.seq (.seg false [⟨some 5, none, .load true 3 (.t 2), 0, 0, false, []⟩,
    ⟨some 6, none, .call 101 [.t 5] false false, 0, 0, false, []⟩,
    ⟨some 7, none, .un .not (.t 6), 0, 0, false, []⟩,
    ⟨some 8, none, .mov (.t 7), 0, 0, false, []⟩,
    ⟨some 9, some (8, false), .load true 3 (.t 3), 0, 0, false, []⟩,
    ⟨some 10, some (8, false), .call 101 [.t 9] false false, 0, 0, false, []⟩,
    ⟨some 11, some (8, false), .un .not (.t 10), 0, 0, false, []⟩,
    ⟨some 12, none, .pick (.t 8) (.k (.bool true)) (.t 11), 0, 0, false, []⟩])
   (.cutTo [2, 3, 12] (.cond (.t 12) (.seq (.seg false [⟨some 4, none, .mov (.k (.int .i64 0)), 0, 0, false, []⟩])
   (.ret))
   (.skip))))
   (.cutTo [2, 3] (.seq (.block 0 (.seq (.seg false [⟨some 14, none, .faddr 0 1 (.t 2), 0, 0, false, []⟩,
    ⟨some 15, none, .load false 1 (.t 14), 0, 0, false, []⟩,
    ⟨some 16, none, .faddr 0 1 (.t 3), 0, 0, false, []⟩,
    ⟨some 17, none, .load false 1 (.t 16), 0, 0, false, []⟩,
    ⟨some 18, none, .bin .neq (.t 15) (.t 17), 0, 0, false, []⟩,
    ⟨some 13, none, .mov (.t 18), 0, 0, false, []⟩])
   (.cutTo [2, 3, 13] (.cond (.t 13) (.seq (.seg false [⟨some 19, none, .faddr 0 1 (.t 3), 0, 0, false, []⟩,
    ⟨some 20, none, .load false 1 (.t 19), 0, 0, false, []⟩,
    ⟨some 21, none, .faddr 0 1 (.t 2), 0, 0, false, []⟩,
    ⟨some 22, none, .load false 1 (.t 21), 0, 0, false, []⟩,
    ⟨some 23, none, .call 155 [.t 20, .t 22] false false, 0, 0, false, []⟩,
    ⟨some 24, none, .bin .mul (.k (.int .i64 2)) (.t 23), 0, 0, false, []⟩,
    ⟨some 25, none, .bin .sub (.t 24) (.k (.int .i64 1)), 0, 0, false, []⟩,
    ⟨some 4, none, .mov (.t 25), 0, 0, false, []⟩])
   (.cutTo [4] (.ret)))
   (.seq (.seg false [⟨some 27, none, .faddr 1 1 (.t 2), 0, 0, false, []⟩,
    ⟨some 28, none, .load false 1 (.t 27), 0, 0, false, []⟩,
    ⟨some 29, none, .faddr 1 1 (.t 3), 0, 0, false, []⟩,
    ⟨some 30, none, .load false 1 (.t 29), 0, 0, false, []⟩,
    ⟨some 31, none, .bin .neq (.t 28) (.t 30), 0, 0, false, []⟩,
    ⟨some 26, none, .mov (.t 31), 0, 0, false, []⟩])
   (.cutTo [2, 3, 26] (.cond (.t 26) (.seq (.seg false [⟨some 32, none, .faddr 1 1 (.t 3), 0, 0, false, []⟩,
    ⟨some 33, none, .load false 1 (.t 32), 0, 0, false, []⟩,
    ⟨some 34, none, .faddr 1 1 (.t 2), 0, 0, false, []⟩,
    ⟨some 35, none, .load false 1 (.t 34), 0, 0, false, []⟩,
    ⟨some 36, none, .call 155 [.t 33, .t 35] false false, 0, 0, false, []⟩,
    ⟨some 37, none, .bin .mul (.k (.int .i64 2)) (.t 36), 0, 0, false, []⟩,
    ⟨some 38, none, .bin .sub (.t 37) (.k (.int .i64 1)), 0, 0, false, []⟩,
    ⟨some 4, none, .mov (.t 38), 0, 0, false, []⟩])
   (.cutTo [4] (.ret)))
   (.skip))))))))
   (.cutTo [2, 3] (.seq (.seg false [⟨some 39, none, .faddr 2 1 (.t 2), 0, 0, false, []⟩,
    ⟨some 40, none, .load false 1 (.t 39), 0, 0, false, []⟩,
    ⟨some 41, none, .faddr 2 1 (.t 3), 0, 0, false, []⟩,
    ⟨some 42, none, .load false 1 (.t 41), 0, 0, false, []⟩,
    ⟨some 43, none, .call 156 [.t 40, .t 42] false false, 0, 0, false, []⟩,
    ⟨some 4, none, .mov (.t 43), 0, 0, false, []⟩])
   (.cutTo [4] (.ret)))))))⟩
def B59x0 : C := .seq (.seq (.seg false [⟨some 15, none, .mov (.t 8), 0, 0, false, []⟩,
    ⟨some 16, none, .bin .gtr (.t 15) (.k (.int .i64 0)), 0, 0, false, []⟩])
   (.cond (.t 16) (.skip)
   (.exit 0)))
   (.seq (.block 1 (.seq (.seq (.seg false [⟨some 20, none, .mov (.t 6), 0, 0, false, []⟩,
    ⟨some 21, none, .mov (.t 0), 0, 0, false, []⟩,
    ⟨some 22, none, .call 121 [.t 21, .k (.int .i64 0)] true false, 0, 0, false, []⟩,
    ⟨some 23, none, .mov (.t 7), 0, 0, false, []⟩,
    ⟨some 24, none, .call 120 [.t 20, .t 22, .t 23] true true, 0, 0, false, []⟩,
    ⟨some 19, none, .mov (.t 24), 0, 0, false, []⟩,
    ⟨some 25, none, .ext (.t 19) 0, 0, 0, false, []⟩,
    ⟨some 26, none, .ext (.t 19) 1, 0, 0, false, []⟩,
    ⟨some 9, none, .mov (.t 25), 0, 0, false, []⟩,
    ⟨some 10, none, .mov (.t 26), 0, 0, false, []⟩])
   (.cutTo [0, 1, 6, 7, 8, 9, 10] (.seq (.seg false [⟨some 27, none, .mov (.t 10), 0, 0, false, []⟩])
   (.cond (.t 27) (.seg false [⟨some 28, none, .mov (.t 9), 0, 0, false, []⟩,
    ⟨some 6, none, .mov (.t 28), 0, 0, false, []⟩])
   (.skip)))))
   (.cutTo [0, 1, 6, 7, 8] (.seg false [⟨some 29, none, .mov (.t 7), 0, 0, false, []⟩,
    ⟨some 30, none, .bin .add (.t 29) (.k (.int .i64 1)), 0, 0, false, []⟩,
    ⟨some 31, none, .mov (.t 0), 0, 0, false, []⟩,
    ⟨some 32, none, .call 57 [.t 31, .k (.int .i64 2)] true false, 0, 0, false, []⟩,
    ⟨some 33, none, .bin .add (.t 30) (.t 32), 0, 0, false, []⟩,
    ⟨some 7, none, .mov (.t 33), 0, 0, false, []⟩]))))
   (.cutTo [0, 1, 6, 7, 8] (.seg false [⟨some 17, none, .mov (.t 8), 0, 0, false, []⟩,
    ⟨some 18, none, .bin .sub (.t 17) (.k (.int .i64 1)), 0, 0, false, []⟩,
    ⟨some 8, none, .mov (.t 18), 0, 0, false, []⟩])))
def L59x0 : C := B59x0
theorem evL59x0 (run : Run) (draw : List I → Env → Heap → Option (Env × Heap)) (e : Env) (h : Heap) : evC run draw L59x0 e h = evC run draw B59x0 e h := rfl
/-- loop.example/tablehouse/spec.l20Versions -/
def F59 : F := ⟨84, [(false, 4, 0, false), (false, 5, 0, false)],
   .seq (.seg false [⟨some 4, none, .nilrow 4, 0, 0, false, []⟩,
    ⟨some 5, none, .mov (.k (.int .i64 0)), 0, 0, false, []⟩])
   (.seq (.seg false [⟨some 12, none, .mksl true 4 [], 0, 0, false, []⟩,
    ⟨some 6, none, .mov (.t 12), 0, 0, false, []⟩])
   (.seq (.seg false [⟨some 7, none, .mov (.k (.int .i64 1)), 0, 0, false, []⟩])
   (.seq (.seq (.seg false [⟨some 13, none, .mov (.t 0), 0, 0, false, []⟩,
    ⟨some 14, none, .call 57 [.t 13, .k (.int .i64 7)] true false, 0, 0, false, []⟩,
    ⟨some 8, none, .mov (.t 14), 0, 0, false, []⟩])
   (.block 0 (.loopk [0, 1, 6, 7, 8] [0, 1, 6, 7] L59x0)))
   (.seq (.seq (.seg false [⟨some 34, none, .mov (.t 6), 0, 0, false, []⟩,
    ⟨some 35, none, .len false (.t 34), 0, 0, false, []⟩,
    ⟨some 36, none, .bin .gtr (.t 35) (.k (.int .i64 0)), 0, 0, false, []⟩,
    ⟨some 37, none, .mov (.t 36), 0, 0, false, []⟩,
    ⟨some 38, some (37, true), .mov (.t 0), 0, 0, false, []⟩,
    ⟨some 39, some (37, true), .mov (.t 1), 0, 0, false, []⟩,
    ⟨some 40, some (37, true), .call 119 [.t 38, .t 39] true false, 0, 0, false, []⟩,
    ⟨some 41, none, .pick (.t 37) (.t 40) (.k (.bool false)), 0, 0, false, []⟩])
   (.cutTo [0, 6, 7, 41] (.cond (.t 41) (.seq (.seg false [⟨some 42, none, .mov (.t 0), 0, 0, false, []⟩,
    ⟨some 43, none, .mov (.t 6), 0, 0, false, []⟩,
    ⟨some 44, none, .len false (.t 43), 0, 0, false, []⟩,
    ⟨some 45, none, .call 57 [.t 42, .t 44] true false, 0, 0, false, []⟩,
    ⟨some 11, none, .mov (.t 45), 0, 0, false, []⟩])
   (.cutTo [0, 6, 7, 11] (.seq (.seg false [⟨some 46, none, .mov (.t 0), 0, 0, false, []⟩,
    ⟨some 47, none, .call 57 [.t 46, .k (.int .i64 4)] true false, 0, 0, false, []⟩])
   (.block 2 (.seq (.seg false [⟨some 56, none, .bin .eql (.t 47) (.k (.int .i64 0)), 0, 0, false, []⟩,
    ⟨some 55, none, .mov (.t 56), 0, 0, false, []⟩])
   (.cond (.t 55) (.seg false [⟨some 57, none, .mov (.t 6), 0, 0, false, []⟩,
    ⟨some 58, none, .mov (.t 11), 0, 0, false, []⟩,
    ⟨some 59, none, .mov (.t 0), 0, 0, false, []⟩,
    ⟨some 60, none, .call 57 [.t 59, .k (.int .i64 9)] true false, 0, 0, false, []⟩,
    ⟨some 61, none, .bin .sub (.t 60) (.k (.int .i64 1)), 0, 0, false, []⟩,
    ⟨some 62, none, .iaddr 4 (.t 57) (.t 58), 0, 0, false, []⟩,
    ⟨some 63, none, .faddr 2 1 (.t 62), 0, 0, false, []⟩,
    ⟨none, none, .store 1 (.t 63) (.t 61), 0, 0, false, []⟩])
   (.seq (.seg false [⟨some 65, none, .bin .eql (.t 47) (.k (.int .i64 1)), 0, 0, false, []⟩,
    ⟨some 64, none, .mov (.t 65), 0, 0, false, []⟩])
   (.cond (.t 64) (.seg false [⟨some 66, none, .mov (.t 6), 0, 0, false, []⟩,
    ⟨some 67, none, .mov (.t 11), 0, 0, false, []⟩,
    ⟨some 68, none, .mov (.t 0), 0, 0, false, []⟩,
    ⟨some 69, none, .call 57 [.t 68, .k (.int .i64 8)] true false, 0, 0, false, []⟩,
    ⟨some 70, none, .bin .sub (.t 69) (.k (.int .i64 1)), 0, 0, false, []⟩,
    ⟨some 71, none, .iaddr 4 (.t 66) (.t 67), 0, 0, false, []⟩,
    ⟨some 72, none, .faddr 0 1 (.t 71), 0, 0, false, []⟩,
    ⟨none, none, .store 1 (.t 72) (.t 70), 0, 0, false, []⟩])
   (.seq (.seg false [⟨some 74, none, .bin .eql (.t 47) (.k (.int .i64 2)), 0, 0, false, []⟩,
    ⟨some 73, none, .mov (.t 74), 0, 0, false, []⟩])
   (.cond (.t 73) (.seg false [⟨some 75, none, .mov (.t 6), 0, 0, false, []⟩,
    ⟨some 76, none, .mov (.t 11), 0, 0, false, []⟩,
    ⟨some 77, none, .mov (.t 0), 0, 0, false, []⟩,
    ⟨some 78, none, .call 57 [.t 77, .k (.int .i64 50)] true false, 0, 0, false, []⟩,
    ⟨some 79, none, .bin .sub (.t 78) (.k (.int .i64 1)), 0, 0, false, []⟩,
    ⟨some 80, none, .iaddr 4 (.t 75) (.t 76), 0, 0, false, []⟩,
    ⟨some 81, none, .faddr 1 1 (.t 80), 0, 0, false, []⟩,
    ⟨none, none, .store 1 (.t 81) (.t 79), 0, 0, false, []⟩])
   (.seg false [⟨some 48, none, .mov (.t 6), 0, 0, false, []⟩,
    ⟨some 49, none, .mov (.t 6), 0, 0, false, []⟩,
    ⟨some 50, none, .mov (.t 11), 0, 0, false, []⟩,
    ⟨some 51, none, .iaddr 4 (.t 49) (.t 50), 0, 0, false, []⟩,
    ⟨some 52, none, .load true 4 (.t 51), 0, 0, false, []⟩,
    ⟨some 53, none, .mksl false 4 [.t 52], 0, 0, false, []⟩,
    ⟨some 54, none, .app 4 (.t 48) (.t 53), 0, 0, false, []⟩,
    ⟨some 6, none, .mov (.t 54), 0, 0, false, []⟩])))))))))))
   (.skip))))
   (.cutTo [6, 7] (.seq (.seg false [⟨some 82, none, .mov (.t 6), 0, 0, false, []⟩,
    ⟨some 83, none, .mov (.t 7), 0, 0, false, []⟩,
    ⟨some 4, none, .mov (.t 82), 0, 0, false, []⟩,
    ⟨some 5, none, .mov (.t 83), 0, 0, false, []⟩])
   (.cutTo [4, 5] (.ret))))))))⟩
def E148x0 : List I := [⟨some 21, none, .mov (.t 3), 0, 0, false, [3]⟩,
    ⟨some 22, none, .faddr 3 1 (.t 5), 0, 0, false, []⟩,
    ⟨some 23, none, .load false 1 (.t 22), 0, 0, false, []⟩,
    ⟨some 24, none, .call 185 [.t 23] false false, 0, 0, false, []⟩,
    ⟨some 25, none, .faddr 0 1 (.t 5), 0, 0, false, []⟩,
    ⟨some 26, none, .load false 1 (.t 25), 0, 0, false, []⟩,
    ⟨some 27, none, .faddr 1 1 (.t 5), 0, 0, false, []⟩,
    ⟨some 28, none, .load false 1 (.t 27), 0, 0, false, []⟩,
    ⟨some 29, none, .faddr 2 1 (.t 5), 0, 0, false, []⟩,
    ⟨some 30, none, .load false 1 (.t 29), 0, 0, false, []⟩,
    ⟨some 31, none, .build [.int .i64 0, .int .i64 0, .str ⟨#[]⟩, .int .i64 0, .int .i64 0, .int .i64 0] [(0, 3, .t 24), (3, 1, .t 26), (4, 1, .t 28), (5, 1, .t 30)], 0, 0, false, []⟩,
    ⟨some 32, none, .call 184 [.t 21, .t 31] false true, 0, 0, true, []⟩,
    ⟨some 3, none, .mov (.t 32), 1, 1, false, []⟩]
def D148x0 : List I := E148x0
theorem evD148x0 (run : Run) (e : Env) (h : Heap) : drawI run D148x0 e h = DrawW (evW run E148x0 e h []) run E148x0 e h := drawI_write run _ e h
def B148x0 : C := .seq (.seq (.seg false [⟨some 7, none, .mov (.t 4), 0, 0, false, []⟩,
    ⟨some 8, none, .mov (.t 0), 0, 0, false, []⟩,
    ⟨some 9, none, .len false (.t 8), 0, 0, false, []⟩,
    ⟨some 10, none, .bin .lss (.t 7) (.t 9), 0, 0, false, []⟩,
    ⟨some 11, none, .mov (.t 10), 0, 0, false, []⟩,
    ⟨some 12, some (11, true), .mov (.t 0), 0, 0, false, []⟩,
    ⟨some 13, some (11, true), .call 62 [.t 12] false false, 0, 0, false, []⟩,
    ⟨some 14, none, .pick (.t 11) (.t 13) (.k (.bool false)), 0, 0, false, []⟩])
   (.cutTo [0, 3, 4, 14] (.cond (.t 14) (.skip)
   (.exit 0))))
   (.cutTo [0, 3, 4] (.seq (.block 1 (.seq (.seg false [⟨some 17, none, .mov (.t 0), 0, 0, false, []⟩,
    ⟨some 18, none, .mov (.t 4), 0, 0, false, []⟩,
    ⟨some 19, none, .iaddr 4 (.t 17) (.t 18), 0, 0, false, []⟩,
    ⟨some 20, none, .load true 4 (.t 19), 0, 0, false, []⟩,
    ⟨some 5, none, .alloc [.int .i64 0, .int .i64 0, .int .i64 0, .sl true 3 []], 0, 0, false, []⟩,
    ⟨none, none, .store 4 (.t 5) (.t 20), 0, 0, false, []⟩])
   (.cutTo [0, 3, 4, 5] (.seg true D148x0))))
   (.cutTo [0, 3, 4] (.seg false [⟨some 15, none, .mov (.t 4), 0, 0, false, []⟩,
    ⟨some 16, none, .bin .add (.t 15) (.k (.int .i64 1)), 0, 0, false, []⟩,
    ⟨some 4, none, .mov (.t 16), 0, 0, false, []⟩]))))
def L148x0 : C := B148x0
theorem evL148x0 (run : Run) (draw : List I → Env → Heap → Option (Env × Heap)) (e : Env) (h : Heap) : evC run draw L148x0 e h = evC run draw B148x0 e h := rfl
/-- loop.example/tablehouse/spec.IndexOf -/
def F148 : F := ⟨34, [(false, 2, 0, false)],
   .seq (.seg false [⟨some 2, none, .mov (.k (.sl true 6 [])), 0, 0, false, []⟩])
   (.seq (.seg false [⟨some 6, none, .mksl false 6 [], 0, 0, false, []⟩,
    ⟨some 3, none, .mov (.t 6), 0, 0, false, []⟩])
   (.seq (.seq (.seg false [⟨some 4, none, .mov (.k (.int .i64 0)), 0, 0, false, []⟩])
   (.block 0 (.loopk [0, 3, 4] [3] L148x0)))
   (.seq (.seg false [⟨some 33, none, .mov (.t 3), 0, 0, false, []⟩,
    ⟨some 2, none, .mov (.t 33), 0, 0, false, []⟩])
   (.ret))))⟩
/-- (*loop.example/tablehouse/spec.l20Rd).odd -/
def F119 : F := ⟨15, [(false, 4, 0, false)],
   .seq (.seg false [⟨some 4, none, .mov (.k (.bool false)), 0, 0, false, []⟩])
   (.seq (.seg false [⟨some 5, none, .mov (.t 1), 0, 0, false, []⟩,
    ⟨some 6, none, .bin .gtr (.t 5) (.k (.int .i64 0)), 0, 0, false, []⟩,
    ⟨some 7, none, .mov (.t 6), 0, 0, false, []⟩,
    ⟨some 8, some (7, true), .mov (.t 0), 0, 0, false, []⟩,
    ⟨some 9, some (7, true), .mov (.t 1), 0, 0, false, []⟩,
    ⟨some 10, some (7, true), .call 57 [.t 8, .t 9] true false, 0, 0, false, []⟩,
    ⟨some 11, some (7, true), .mov (.t 1), 0, 0, false, []⟩,
    ⟨some 12, some (7, true), .bin .sub (.t 11) (.k (.int .i64 1)), 0, 0, false, []⟩,
    ⟨some 13, some (7, true), .bin .eql (.t 10) (.t 12), 0, 0, false, []⟩,
    ⟨some 14, none, .pick (.t 7) (.t 13) (.k (.bool false)), 0, 0, false, []⟩,
    ⟨some 4, none, .mov (.t 14), 0, 0, false, []⟩])
   (.cutTo [4] (.ret)))⟩
def E149x0 : List I := [⟨some 42, none, .faddr 2 1 (.t 5), 0, 1, false, []⟩,
    ⟨some 43, none, .load false 1 (.t 42), 0, 1, false, []⟩,
    ⟨some 44, none, .mov (.t 0), 0, 0, false, []⟩,
    ⟨some 45, none, .call 57 [.t 44, .k (.int .i64 3)] true false, 0, 0, true, []⟩,
    ⟨some 46, none, .bin .add (.k (.int .i64 97)) (.t 45), 1, 1, false, []⟩,
    ⟨some 47, none, .conv (.int .u8) (.t 46), 1, 1, false, []⟩,
    ⟨some 48, none, .mksl false 1 [.t 47], 1, 1, false, []⟩,
    ⟨some 49, none, .conv .toStr (.t 48), 1, 1, false, []⟩,
    ⟨some 50, none, .bin .add (.t 43) (.t 49), 1, 1, false, []⟩,
    ⟨some 51, none, .faddr 2 1 (.t 5), 1, 1, false, []⟩,
    ⟨none, none, .store 1 (.t 51) (.t 50), 1, 0, true, []⟩]
def D149x0 : List I := E149x0
theorem evD149x0 (run : Run) (e : Env) (h : Heap) : drawI run D149x0 e h = DrawW (evW run E149x0 e h []) run E149x0 e h := drawI_write run _ e h
def B149x0 : C := .seq (.seq (.seg false [⟨some 38, none, .mov (.t 6), 0, 0, false, []⟩,
    ⟨some 39, none, .bin .gtr (.t 38) (.k (.int .i64 0)), 0, 0, false, []⟩])
   (.cond (.t 39) (.skip)
   (.exit 1)))
   (.seq (.block 2 (.seg true D149x0))
   (.cutTo [0, 1, 4, 5, 6] (.seg false [⟨some 40, none, .mov (.t 6), 0, 0, false, []⟩,
    ⟨some 41, none, .bin .sub (.t 40) (.k (.int .i64 1)), 0, 0, false, []⟩,
    ⟨some 6, none, .mov (.t 41), 0, 0, false, []⟩])))
def L149x0 : C := B149x0
theorem evL149x0 (run : Run) (draw : List I → Env → Heap → Option (Env × Heap)) (e : Env) (h : Heap) : evC run draw L149x0 e h = evC run draw B149x0 e h := rfl
/-- loop.example/tablehouse/spec.l20Value -/
def F149 : F := ⟨77, [(true, 4, 3, true)],
   .seq (.seg false [⟨some 4, none, .alloc [.int .i64 0, .int .i64 0, .str ⟨#[]⟩], 0, 0, false, []⟩])
   (.seq (.seg false [⟨some 7, none, .build [.int .i64 0, .int .i64 0, .str ⟨#[]⟩] [], 0, 0, false, []⟩,
    ⟨some 5, none, .alloc [.int .i64 0, .int .i64 0, .str ⟨#[]⟩], 0, 0, false, []⟩,
    ⟨none, none, .store 3 (.t 5) (.t 7), 0, 0, false, []⟩])
   (.seq (.seq (.seg false [⟨some 8, none, .mov (.t 0), 0, 0, false, []⟩,
    ⟨some 9, none, .call 57 [.t 8, .k (.int .i64 7)] true false, 0, 0, false, []⟩])
   (.block 0 (.seq (.seg false [⟨some 14, none, .bin .eql (.t 9) (.k (.int .i64 0)), 0, 0, false, []⟩,
    ⟨some 13, none, .mov (.t 14), 0, 0, false, []⟩])
   (.cond (.t 13) (.skip)
   (.seq (.seq (.seg false [⟨some 16, none, .bin .eql (.t 9) (.k (.int .i64 1)), 0, 0, false, []⟩,
    ⟨some 15, none, .mov (.t 16), 0, 0, false, []⟩])
   (.cond (.t 15) (.skip)
   (.seq (.seg false [⟨some 17, none, .bin .eql (.t 9) (.k (.int .i64 2)), 0, 0, false, []⟩,
    ⟨some 15, none, .mov (.t 17), 0, 0, false, []⟩])
   (.cond (.t 15) (.skip)
   (.seg false [⟨some 18, none, .bin .eql (.t 9) (.k (.int .i64 3)), 0, 0, false, []⟩,
    ⟨some 15, none, .mov (.t 18), 0, 0, false, []⟩])))))
   (.cutTo [0, 1, 4, 5, 9, 15] (.cond (.t 15) (.seq (.seg false [⟨some 19, none, .mov (.t 0), 0, 0, false, []⟩,
    ⟨some 20, none, .call 57 [.t 19, .k (.int .i64 7)] true false, 0, 0, false, []⟩,
    ⟨some 21, none, .bin .sub (.t 20) (.k (.int .i64 3)), 0, 0, false, []⟩,
    ⟨some 22, none, .build [.int .i64 0, .int .i64 0, .str ⟨#[]⟩] [(0, 1, .k (.int .i64 1)), (1, 1, .t 21)], 0, 0, false, []⟩,
    ⟨none, none, .store 3 (.t 5) (.t 22), 0, 0, false, []⟩])
   (.cutTo [0, 1, 4, 5] (.seq (.seg false [⟨some 23, none, .mov (.t 0), 0, 0, false, []⟩,
    ⟨some 24, none, .call 57 [.t 23, .k (.int .i64 8)] true false, 0, 0, false, []⟩,
    ⟨some 25, none, .bin .eql (.t 24) (.k (.int .i64 0)), 0, 0, false, []⟩])
   (.cond (.t 25) (.seg false [⟨some 26, none, .mksl false 1 [.k (.int .i64 9999), .k (.int .i64 (-9999)), .k (.int .i64 255), .k (.int .i64 256), .k (.int .i64 (-256))], 0, 0, false, []⟩,
    ⟨some 27, none, .mov (.t 0), 0, 0, false, []⟩,
    ⟨some 28, none, .call 57 [.t 27, .k (.int .i64 5)] true false, 0, 0, false, []⟩,
    ⟨some 29, none, .iaddr 1 (.t 26) (.t 28), 0, 0, false, []⟩,
    ⟨some 30, none, .load false 1 (.t 29), 0, 0, false, []⟩,
    ⟨some 31, none, .faddr 1 1 (.t 5), 0, 0, false, []⟩,
    ⟨none, none, .store 1 (.t 31) (.t 30), 0, 0, false, []⟩])
   (.skip)))))
   (.seq (.seq (.seg false [⟨some 33, none, .bin .eql (.t 9) (.k (.int .i64 4)), 0, 0, false, []⟩,
    ⟨some 32, none, .mov (.t 33), 0, 0, false, []⟩])
   (.cond (.t 32) (.skip)
   (.seg false [⟨some 34, none, .bin .eql (.t 9) (.k (.int .i64 5)), 0, 0, false, []⟩,
    ⟨some 32, none, .mov (.t 34), 0, 0, false, []⟩])))
   (.cutTo [0, 1, 4, 5, 32] (.cond (.t 32) (.seq (.seg false [⟨some 35, none, .build [.int .i64 0, .int .i64 0, .str ⟨#[]⟩] [(0, 1, .k (.int .i64 2))], 0, 0, false, []⟩,
    ⟨none, none, .store 3 (.t 5) (.t 35), 0, 0, false, []⟩])
   (.seq (.seg false [⟨some 36, none, .mov (.t 0), 0, 0, false, []⟩,
    ⟨some 37, none, .call 57 [.t 36, .k (.int .i64 4)] true false, 0, 0, false, []⟩,
    ⟨some 6, none, .mov (.t 37), 0, 0, false, []⟩])
   (.block 1 (.loop [0, 1, 4, 5, 6] [0, 1, 4, 5] L149x0))))
   (.seg false [⟨some 10, none, .mov (.t 0), 0, 0, false, []⟩,
    ⟨some 11, none, .call 57 [.t 10, .k (.int .i64 2)] true false, 0, 0, false, []⟩,
    ⟨some 12, none, .build [.int .i64 0, .int .i64 0, .str ⟨#[]⟩] [(0, 1, .k (.int .i64 3)), (1, 1, .t 11)], 0, 0, false, []⟩,
    ⟨none, none, .store 3 (.t 5) (.t 12), 0, 0, false, []⟩])))))))))))
   (.cutTo [0, 1, 4, 5] (.seq (.seq (.seg false [⟨some 52, none, .mov (.t 0), 0, 0, false, []⟩,
    ⟨some 53, none, .mov (.t 1), 0, 0, false, []⟩,
    ⟨some 54, none, .call 119 [.t 52, .t 53] true false, 0, 0, false, []⟩])
   (.cond (.t 54) (.seq (.seg false [⟨some 55, none, .mov (.t 0), 0, 0, false, []⟩,
    ⟨some 56, none, .call 57 [.t 55, .k (.int .i64 4)] true false, 0, 0, false, []⟩])
   (.block 3 (.seq (.seg false [⟨some 62, none, .bin .eql (.t 56) (.k (.int .i64 0)), 0, 0, false, []⟩,
    ⟨some 61, none, .mov (.t 62), 0, 0, false, []⟩])
   (.cond (.t 61) (.seg false [⟨some 63, none, .faddr 1 1 (.t 5), 0, 0, false, []⟩,
    ⟨none, none, .store 1 (.t 63) (.k (.int .i64 10000)), 0, 0, false, []⟩])
   (.seq (.seg false [⟨some 65, none, .bin .eql (.t 56) (.k (.int .i64 1)), 0, 0, false, []⟩,
    ⟨some 64, none, .mov (.t 65), 0, 0, false, []⟩])
   (.cond (.t 64) (.seg false [⟨some 66, none, .faddr 2 1 (.t 5), 0, 0, false, []⟩,
    ⟨some 67, none, .load false 1 (.t 66), 0, 0, false, []⟩,
    ⟨some 68, none, .bin .add (.t 67) (.k (.str ⟨#[97, 98, 99, 100, 101, 102, 103]⟩)), 0, 0, false, []⟩,
    ⟨some 69, none, .faddr 2 1 (.t 5), 0, 0, false, []⟩,
    ⟨none, none, .store 1 (.t 69) (.t 68), 0, 0, false, []⟩])
   (.seq (.seg false [⟨some 71, none, .bin .eql (.t 56) (.k (.int .i64 2)), 0, 0, false, []⟩,
    ⟨some 70, none, .mov (.t 71), 0, 0, false, []⟩])
   (.cond (.t 70) (.seg false [⟨some 72, none, .mov (.t 0), 0, 0, false, []⟩,
    ⟨some 73, none, .call 57 [.t 72, .k (.int .i64 7)] true false, 0, 0, false, []⟩,
    ⟨some 74, none, .bin .sub (.t 73) (.k (.int .i64 1)), 0, 0, false, []⟩,
    ⟨some 75, none, .faddr 0 1 (.t 5), 0, 0, false, []⟩,
    ⟨none, none, .store 1 (.t 75) (.t 74), 0, 0, false, []⟩])
   (.seg false [⟨some 57, none, .faddr 2 1 (.t 5), 0, 0, false, []⟩,
    ⟨some 58, none, .load false 1 (.t 57), 0, 0, false, []⟩,
    ⟨some 59, none, .bin .add (.t 58) (.k (.str ⟨#[65]⟩)), 0, 0, false, []⟩,
    ⟨some 60, none, .faddr 2 1 (.t 5), 0, 0, false, []⟩,
    ⟨none, none, .store 1 (.t 60) (.t 59), 0, 0, false, []⟩])))))))))
   (.skip)))
   (.cutTo [4, 5] (.seq (.seg false [⟨some 76, none, .load true 3 (.t 5), 0, 0, false, []⟩,
    ⟨none, none, .store 3 (.t 4) (.t 76), 0, 0, false, []⟩])
   (.ret)))))))⟩
def B150x0 : C := .seq (.seg false [⟨some 9, none, .bin .lss (.t 8) (.t 7), 0, 0, false, []⟩])
   (.seq (.cond (.t 9) (.skip)
   (.exit 0))
   (.seq (.block 1 (.seq (.seg false [⟨some 10, none, .iaddr 1 (.t 6) (.t 8), 0, 0, false, []⟩,
    ⟨some 11, none, .load false 1 (.t 10), 0, 0, false, []⟩,
    ⟨some 4, none, .mov (.t 11), 0, 0, false, []⟩])
   (.seq (.seg false [⟨some 12, none, .mov (.t 4), 0, 0, false, []⟩,
    ⟨some 13, none, .conv (.int .i64) (.t 12), 0, 0, false, []⟩,
    ⟨some 14, none, .call 79 [.t 13, .k (.int .i64 97), .k (.int .i64 122)] false false, 0, 0, false, []⟩,
    ⟨some 15, none, .un .not (.t 14), 0, 0, false, []⟩])
   (.cutTo [6, 7, 8, 15] (.cond (.t 15) (.seq (.seg false [⟨some 2, none, .mov (.k (.bool false)), 0, 0, false, []⟩])
   (.ret))
   (.skip))))))
   (.cutTo [6, 7, 8] (.seg false [⟨some 16, none, .bin .add (.t 8) (.k (.int .i64 1)), 0, 0, false, []⟩,
    ⟨some 8, none, .mov (.t 16), 0, 0, false, []⟩]))))
def L150x0 : C := B150x0
theorem evL150x0 (run : Run) (draw : List I → Env → Heap → Option (Env × Heap)) (e : Env) (h : Heap) : evC run draw L150x0 e h = evC run draw B150x0 e h := rfl
/-- loop.example/tablehouse/impl.letters -/
def F150 : F := ⟨17, [(false, 2, 0, false)],
   .seq (.seg false [⟨some 2, none, .mov (.k (.bool false)), 0, 0, false, []⟩])
   (.seq (.seq (.seg false [⟨some 5, none, .mov (.t 0), 0, 0, false, []⟩,
    ⟨some 6, none, .conv .toBytes (.t 5), 0, 0, false, []⟩,
    ⟨some 7, none, .len false (.t 6), 0, 0, false, []⟩,
    ⟨some 8, none, .mov (.k (.int .i64 0)), 0, 0, false, []⟩])
   (.cutTo [6, 7, 8] (.block 0 (.loop [6, 7, 8] [2] L150x0))))
   (.cutTo [] (.seq (.seg false [⟨some 2, none, .mov (.k (.bool true)), 0, 0, false, []⟩])
   (.ret))))⟩
def E108x0 : List I := [⟨some 5, none, .faddr 0 1 (.t 2), 0, 0, false, []⟩,
    ⟨some 6, none, .load false 1 (.t 5), 0, 0, false, []⟩,
    ⟨some 7, none, .faddr 0 1 (.t 3), 0, 0, false, []⟩,
    ⟨some 8, none, .load false 1 (.t 7), 0, 0, false, []⟩,
    ⟨some 9, none, .call 147 [.t 6, .t 8] false false, 0, 0, false, []⟩,
    ⟨some 10, none, .faddr 1 1 (.t 2), 0, 0, false, []⟩,
    ⟨some 11, none, .load false 1 (.t 10), 0, 0, false, []⟩,
    ⟨some 12, none, .faddr 1 1 (.t 3), 0, 0, false, []⟩,
    ⟨some 13, none, .load false 1 (.t 12), 0, 0, false, []⟩,
    ⟨some 14, none, .call 147 [.t 11, .t 13] false false, 0, 0, false, []⟩,
    ⟨some 15, none, .faddr 2 1 (.t 2), 0, 0, false, []⟩,
    ⟨some 16, none, .load false 1 (.t 15), 0, 0, false, []⟩,
    ⟨some 17, none, .faddr 2 1 (.t 3), 0, 0, false, []⟩,
    ⟨some 18, none, .load false 1 (.t 17), 0, 0, false, []⟩,
    ⟨some 19, none, .call 154 [.t 16, .t 18] false false, 0, 0, false, []⟩,
    ⟨some 20, none, .mksl false 1 [.t 9, .t 14, .t 19], 0, 0, false, []⟩,
    ⟨some 21, none, .call 145 [.t 20] false false, 0, 0, false, []⟩,
    ⟨some 4, none, .mov (.t 21), 0, 0, false, []⟩]
def D108x0 : List I := E108x0
theorem evD108x0 (run : Run) (e : Env) (h : Heap) : drawI run D108x0 e h = DrawS (evQ run E108x0 e h) run E108x0 e h := drawI_quiet run _ (by rfl) e h
/-- (loop.example/tablehouse/impl.Value).order -/
def F108 : F := ⟨22, [(false, 4, 0, false)],
   .seq (.seg false [⟨some 2, none, .box (.t 0), 0, 0, false, []⟩,
    ⟨some 3, none, .box (.t 1), 0, 0, false, []⟩,
    ⟨some 4, none, .mov (.k (.int .i64 0)), 0, 0, false, []⟩])
   (.seq (.seg true D108x0)
   (.cutTo [4] (.ret)))⟩
/-- cmp.Compare<int> -/
def F147 : F := ⟨20, [(false, 4, 0, false)],
   .seq (.seg false [⟨some 4, none, .mov (.k (.int .i64 0)), 0, 0, false, []⟩])
   (.seq (.seg false [⟨some 7, none, .mov (.t 0), 0, 0, false, []⟩,
    ⟨some 8, none, .call 183 [.t 7] false false, 0, 0, false, []⟩,
    ⟨some 5, none, .mov (.t 8), 0, 0, false, []⟩])
   (.seq (.seg false [⟨some 9, none, .mov (.t 1), 0, 0, false, []⟩,
    ⟨some 10, none, .call 183 [.t 9] false false, 0, 0, false, []⟩,
    ⟨some 6, none, .mov (.t 10), 0, 0, false, []⟩])
   (.seq (.seq (.seg false [⟨some 11, none, .mov (.t 5), 0, 0, false, []⟩])
   (.cond (.t 11) (.seq (.seq (.seg false [⟨some 12, none, .mov (.t 6), 0, 0, false, []⟩])
   (.cond (.t 12) (.seq (.seg false [⟨some 4, none, .mov (.k (.int .i64 0)), 0, 0, false, []⟩])
   (.ret))
   (.skip)))
   (.seq (.seg false [⟨some 4, none, .mov (.k (.int .i64 (-1))), 0, 0, false, []⟩])
   (.ret)))
   (.skip)))
   (.cutTo [0, 1, 6] (.seq (.seq (.seg false [⟨some 13, none, .mov (.t 6), 0, 0, false, []⟩])
   (.cond (.t 13) (.seq (.seg false [⟨some 4, none, .mov (.k (.int .i64 1)), 0, 0, false, []⟩])
   (.ret))
   (.skip)))
   (.seq (.seq (.seg false [⟨some 14, none, .mov (.t 0), 0, 0, false, []⟩,
    ⟨some 15, none, .mov (.t 1), 0, 0, false, []⟩,
    ⟨some 16, none, .bin .lss (.t 14) (.t 15), 0, 0, false, []⟩])
   (.cond (.t 16) (.seq (.seg false [⟨some 4, none, .mov (.k (.int .i64 (-1))), 0, 0, false, []⟩])
   (.ret))
   (.skip)))
   (.cutTo [0, 1] (.seq (.seq (.seg false [⟨some 17, none, .mov (.t 0), 0, 0, false, []⟩,
    ⟨some 18, none, .mov (.t 1), 0, 0, false, []⟩,
    ⟨some 19, none, .bin .gtr (.t 17) (.t 18), 0, 0, false, []⟩])
   (.cond (.t 19) (.seq (.seg false [⟨some 4, none, .mov (.k (.int .i64 1)), 0, 0, false, []⟩])
   (.ret))
   (.skip)))
   (.cutTo [] (.seq (.seg false [⟨some 4, none, .mov (.k (.int .i64 0)), 0, 0, false, []⟩])
   (.ret)))))))))))⟩
def B145x0 : C := .seq (.seg false [⟨some 9, none, .bin .lss (.t 8) (.t 7), 0, 0, false, []⟩])
   (.seq (.cond (.t 9) (.skip)
   (.exit 0))
   (.seq (.block 1 (.seq (.seg false [⟨some 10, none, .iaddr 1 (.t 6) (.t 8), 0, 0, false, []⟩,
    ⟨some 11, none, .load false 1 (.t 10), 0, 0, false, []⟩,
    ⟨some 5, none, .mov (.t 11), 0, 0, false, []⟩])
   (.seq (.seg false [⟨some 12, none, .mov (.t 5), 0, 0, false, []⟩,
    ⟨some 13, none, .mov (.t 3), 0, 0, false, []⟩,
    ⟨some 14, none, .bin .neq (.t 12) (.t 13), 0, 0, false, []⟩])
   (.cond (.t 14) (.seq (.seg false [⟨some 15, none, .mov (.t 5), 0, 0, false, []⟩,
    ⟨some 2, none, .mov (.t 15), 0, 0, false, []⟩])
   (.ret))
   (.skip)))))
   (.cutTo [3, 6, 7, 8] (.seg false [⟨some 16, none, .bin .add (.t 8) (.k (.int .i64 1)), 0, 0, false, []⟩,
    ⟨some 8, none, .mov (.t 16), 0, 0, false, []⟩]))))
def L145x0 : C := B145x0
theorem evL145x0 (run : Run) (draw : List I → Env → Heap → Option (Env × Heap)) (e : Env) (h : Heap) : evC run draw L145x0 e h = evC run draw B145x0 e h := rfl
/-- cmp.Or<int> -/
def F145 : F := ⟨18, [(false, 2, 0, false)],
   .seq (.seg false [⟨some 2, none, .mov (.k (.int .i64 0)), 0, 0, false, []⟩])
   (.seq (.seg false [⟨some 3, none, .mov (.k (.int .i64 0)), 0, 0, false, []⟩])
   (.seq (.seq (.seg false [⟨some 6, none, .mov (.t 0), 0, 0, false, []⟩,
    ⟨some 7, none, .len false (.t 6), 0, 0, false, []⟩,
    ⟨some 8, none, .mov (.k (.int .i64 0)), 0, 0, false, []⟩])
   (.block 0 (.loop [3, 6, 7, 8] [2, 3] L145x0)))
   (.seq (.seg false [⟨some 17, none, .mov (.t 3), 0, 0, false, []⟩,
    ⟨some 2, none, .mov (.t 17), 0, 0, false, []⟩])
   (.ret))))⟩
/-- (loop.example/tablehouse/impl.Mark).end -/
def F100 : F := ⟨8, [(false, 2, 0, false)],
   .seq (.seg false [⟨some 1, none, .box (.t 0), 0, 0, false, []⟩,
    ⟨some 2, none, .mov (.k (.int .i64 0)), 0, 0, false, []⟩])
   (.seq (.seq (.seg false [⟨some 3, none, .faddr 5 1 (.t 1), 0, 0, false, []⟩,
    ⟨some 4, none, .load false 1 (.t 3), 0, 0, false, []⟩,
    ⟨some 5, none, .bin .eql (.t 4) (.k (.int .i64 0)), 0, 0, false, []⟩])
   (.cond (.t 5) (.seq (.seg false [⟨some 2, none, .mov (.k (.int .i64 41)), 0, 0, false, []⟩])
   (.ret))
   (.skip)))
   (.cutTo [1] (.seq (.seg false [⟨some 6, none, .faddr 5 1 (.t 1), 0, 0, false, []⟩,
    ⟨some 7, none, .load false 1 (.t 6), 0, 0, false, []⟩,
    ⟨some 2, none, .mov (.t 7), 0, 0, false, []⟩])
   (.ret))))⟩
def B151x0 : C := .seq (.seg false [⟨some 9, none, .bin .lss (.t 8) (.t 7), 0, 0, false, []⟩])
   (.seq (.cond (.t 9) (.skip)
   (.exit 0))
   (.seq (.block 1 (.seq (.seg false [⟨some 10, none, .mov (.t 8), 0, 0, false, []⟩,
    ⟨some 5, none, .mov (.t 10), 0, 0, false, []⟩])
   (.seq (.seg false [⟨some 11, none, .mov (.t 1), 0, 0, false, []⟩,
    ⟨some 12, none, .mov (.t 0), 0, 0, false, []⟩,
    ⟨some 13, none, .mov (.t 5), 0, 0, false, []⟩,
    ⟨some 14, none, .iaddr 6 (.t 12) (.t 13), 0, 0, false, []⟩,
    ⟨some 15, none, .load true 6 (.t 14), 0, 0, false, []⟩,
    ⟨some 16, none, .callv (.t 11) [.t 15] false, 0, 0, false, []⟩])
   (.cutTo [0, 1, 5, 7, 8, 16] (.cond (.t 16) (.seq (.seg false [⟨some 17, none, .mov (.t 5), 0, 0, false, []⟩,
    ⟨some 4, none, .mov (.t 17), 0, 0, false, []⟩])
   (.ret))
   (.skip))))))
   (.cutTo [0, 1, 7, 8] (.seg false [⟨some 18, none, .bin .add (.t 8) (.k (.int .i64 1)), 0, 0, false, []⟩,
    ⟨some 8, none, .mov (.t 18), 0, 0, false, []⟩]))))
def L151x0 : C := B151x0
theorem evL151x0 (run : Run) (draw : List I → Env → Heap → Option (Env × Heap)) (e : Env) (h : Heap) : evC run draw L151x0 e h = evC run draw B151x0 e h := rfl
/-- slices.IndexFunc<<>loop.example/tablehouse/impl.Mark,loop.example/tablehouse/impl.Mark> -/
def F151 : F := ⟨19, [(false, 4, 0, false)],
   .seq (.seg false [⟨some 4, none, .mov (.k (.int .i64 0)), 0, 0, false, []⟩])
   (.seq (.seq (.seg false [⟨some 6, none, .mov (.t 0), 0, 0, false, []⟩,
    ⟨some 7, none, .len false (.t 6), 0, 0, false, []⟩,
    ⟨some 8, none, .mov (.k (.int .i64 0)), 0, 0, false, []⟩])
   (.block 0 (.loop [0, 1, 7, 8] [4] L151x0)))
   (.seq (.seg false [⟨some 4, none, .mov (.k (.int .i64 (-1))), 0, 0, false, []⟩])
   (.ret)))⟩
/-- loop.example/tablehouse/spec.l1In -/
def F84 : F := ⟨15, [(false, 6, 0, false)],
   .seq (.seg false [⟨some 6, none, .mov (.k (.bool false)), 0, 0, false, []⟩])
   (.seq (.seg false [⟨some 7, none, .mov (.t 0), 0, 0, false, []⟩,
    ⟨some 8, none, .mov (.t 1), 0, 0, false, []⟩,
    ⟨some 9, none, .bin .geq (.t 7) (.t 8), 0, 0, false, []⟩,
    ⟨some 10, none, .mov (.t 9), 0, 0, false, []⟩,
    ⟨some 11, some (10, true), .mov (.t 0), 0, 0, false, []⟩,
    ⟨some 12, some (10, true), .mov (.t 2), 0, 0, false, []⟩,
    ⟨some 13, some (10, true), .bin .leq (.t 11) (.t 12), 0, 0, false, []⟩,
    ⟨some 14, none, .pick (.t 10) (.t 13) (.k (.bool false)), 0, 0, false, []⟩,
    ⟨some 6, none, .mov (.t 14), 0, 0, false, []⟩])
   (.cutTo [6] (.ret)))⟩
def B152x0 : C := .seq (.seq (.seg false [⟨some 4, none, .mov (.t 3), 0, 0, false, []⟩,
    ⟨some 5, none, .mov (.t 0), 0, 0, false, []⟩,
    ⟨some 6, none, .len true (.t 5), 0, 0, false, []⟩,
    ⟨some 7, none, .bin .lss (.t 4) (.t 6), 0, 0, false, []⟩])
   (.cutTo [0, 3, 7] (.cond (.t 7) (.skip)
   (.exit 0))))
   (.cutTo [0, 3] (.seq (.block 1 (.seq (.seg false [⟨some 10, none, .mov (.t 0), 0, 0, false, []⟩,
    ⟨some 11, none, .mov (.t 3), 0, 0, false, []⟩,
    ⟨some 12, none, .idx (.t 10) (.t 11), 0, 0, false, []⟩,
    ⟨some 13, none, .bin .lss (.t 12) (.k (.int .u8 97)), 0, 0, false, []⟩,
    ⟨some 14, none, .mov (.t 13), 0, 0, false, []⟩,
    ⟨some 15, some (14, false), .mov (.t 0), 0, 0, false, []⟩,
    ⟨some 16, some (14, false), .mov (.t 3), 0, 0, false, []⟩,
    ⟨some 17, some (14, false), .idx (.t 15) (.t 16), 0, 0, false, []⟩,
    ⟨some 18, some (14, false), .bin .gtr (.t 17) (.k (.int .u8 122)), 0, 0, false, []⟩,
    ⟨some 19, none, .pick (.t 14) (.k (.bool true)) (.t 18), 0, 0, false, []⟩])
   (.cutTo [0, 3, 19] (.cond (.t 19) (.seq (.seg false [⟨some 2, none, .mov (.k (.bool false)), 0, 0, false, []⟩])
   (.ret))
   (.skip)))))
   (.cutTo [0, 3] (.seg false [⟨some 8, none, .mov (.t 3), 0, 0, false, []⟩,
    ⟨some 9, none, .bin .add (.t 8) (.k (.int .i64 1)), 0, 0, false, []⟩,
    ⟨some 3, none, .mov (.t 9), 0, 0, false, []⟩]))))
def L152x0 : C := B152x0
theorem evL152x0 (run : Run) (draw : List I → Env → Heap → Option (Env × Heap)) (e : Env) (h : Heap) : evC run draw L152x0 e h = evC run draw B152x0 e h := rfl
/-- loop.example/tablehouse/spec.l1Text -/
def F152 : F := ⟨23, [(false, 2, 0, false)],
   .seq (.seg false [⟨some 2, none, .mov (.k (.bool false)), 0, 0, false, []⟩])
   (.seq (.seq (.seg false [⟨some 3, none, .mov (.k (.int .i64 0)), 0, 0, false, []⟩])
   (.block 0 (.loop [0, 3] [0, 2] L152x0)))
   (.seq (.seg false [⟨some 20, none, .mov (.t 0), 0, 0, false, []⟩,
    ⟨some 21, none, .len true (.t 20), 0, 0, false, []⟩,
    ⟨some 22, none, .bin .leq (.t 21) (.k (.int .i64 6)), 0, 0, false, []⟩,
    ⟨some 2, none, .mov (.t 22), 0, 0, false, []⟩])
   (.cutTo [2] (.ret))))⟩
def B138x0 : C := .seq (.seq (.seg false [⟨some 4, none, .mov (.t 3), 0, 0, false, []⟩,
    ⟨some 5, none, .mov (.t 0), 0, 0, false, []⟩,
    ⟨some 6, none, .len false (.t 5), 0, 0, false, []⟩,
    ⟨some 7, none, .bin .lss (.t 4) (.t 6), 0, 0, false, []⟩])
   (.cutTo [0, 3, 7] (.cond (.t 7) (.skip)
   (.exit 0))))
   (.cutTo [0, 3] (.seq (.block 1 (.seq (.seg false [⟨some 10, none, .mov (.t 0), 0, 0, false, []⟩,
    ⟨some 11, none, .mov (.t 3), 0, 0, false, []⟩,
    ⟨some 12, none, .iaddr 3 (.t 10) (.t 11), 0, 0, false, []⟩,
    ⟨some 13, none, .load true 3 (.t 12), 0, 0, false, []⟩,
    ⟨some 14, none, .call 101 [.t 13] false false, 0, 0, false, []⟩,
    ⟨some 15, none, .un .not (.t 14), 0, 0, false, []⟩])
   (.cutTo [0, 3, 15] (.cond (.t 15) (.seq (.seg false [⟨some 2, none, .mov (.k (.bool false)), 0, 0, false, []⟩])
   (.ret))
   (.skip)))))
   (.cutTo [0, 3] (.seg false [⟨some 8, none, .mov (.t 3), 0, 0, false, []⟩,
    ⟨some 9, none, .bin .add (.t 8) (.k (.int .i64 1)), 0, 0, false, []⟩,
    ⟨some 3, none, .mov (.t 9), 0, 0, false, []⟩]))))
def L138x0 : C := B138x0
theorem evL138x0 (run : Run) (draw : List I → Env → Heap → Option (Env × Heap)) (e : Env) (h : Heap) : evC run draw L138x0 e h = evC run draw B138x0 e h := rfl
/-- loop.example/tablehouse/spec.RowOk -/
def F138 : F := ⟨19, [(false, 2, 0, false)],
   .seq (.seg false [⟨some 2, none, .mov (.k (.bool false)), 0, 0, false, []⟩])
   (.seq (.seq (.seg false [⟨some 3, none, .mov (.k (.int .i64 0)), 0, 0, false, []⟩])
   (.block 0 (.loop [0, 3] [0, 2] L138x0)))
   (.seq (.seg false [⟨some 16, none, .mov (.t 0), 0, 0, false, []⟩,
    ⟨some 17, none, .len false (.t 16), 0, 0, false, []⟩,
    ⟨some 18, none, .bin .leq (.t 17) (.k (.int .i64 4)), 0, 0, false, []⟩,
    ⟨some 2, none, .mov (.t 18), 0, 0, false, []⟩])
   (.cutTo [2] (.ret))))⟩
/-- (loop.example/tablehouse/impl.Mark).at -/
def F106 : F := ⟨20, [(false, 4, 0, false)],
   .seq (.seg false [⟨some 2, none, .box (.t 0), 0, 0, false, []⟩,
    ⟨some 4, none, .mov (.k (.bool false)), 0, 0, false, []⟩])
   (.seq (.seg false [⟨some 5, none, .faddr 4 1 (.t 2), 0, 0, false, []⟩,
    ⟨some 6, none, .load false 1 (.t 5), 0, 0, false, []⟩,
    ⟨some 7, none, .mov (.t 1), 0, 0, false, []⟩,
    ⟨some 8, none, .bin .leq (.t 6) (.t 7), 0, 0, false, []⟩,
    ⟨some 9, none, .mov (.t 8), 0, 0, false, []⟩,
    ⟨some 10, some (9, true), .faddr 5 1 (.t 2), 0, 0, false, []⟩,
    ⟨some 11, some (9, true), .load false 1 (.t 10), 0, 0, false, []⟩,
    ⟨some 12, some (9, true), .bin .eql (.t 11) (.k (.int .i64 0)), 0, 0, false, []⟩,
    ⟨some 13, some (9, true), .mov (.t 12), 0, 0, false, []⟩,
    ⟨some 14, some (13, false), .faddr 5 1 (.t 2), 0, 0, false, []⟩,
    ⟨some 15, some (13, false), .load false 1 (.t 14), 0, 0, false, []⟩,
    ⟨some 16, some (13, false), .mov (.t 1), 0, 0, false, []⟩,
    ⟨some 17, some (13, false), .bin .gtr (.t 15) (.t 16), 0, 0, false, []⟩,
    ⟨some 18, some (9, true), .pick (.t 13) (.k (.bool true)) (.t 17), 0, 0, false, []⟩,
    ⟨some 19, none, .pick (.t 9) (.t 18) (.k (.bool false)), 0, 0, false, []⟩,
    ⟨some 4, none, .mov (.t 19), 0, 0, false, []⟩])
   (.cutTo [4] (.ret)))⟩
/-- loop.example/tablehouse/impl.clone<int> -/
def F153 : F := ⟨9, [(false, 2, 0, false)],
   .seq (.seg false [⟨some 2, none, .mov (.k (.sl true 1 [])), 0, 0, false, []⟩])
   (.seq (.seq (.seg false [⟨some 3, none, .mov (.t 0), 0, 0, false, []⟩,
    ⟨some 4, none, .len false (.t 3), 0, 0, false, []⟩,
    ⟨some 5, none, .bin .eql (.t 4) (.k (.int .i64 0)), 0, 0, false, []⟩])
   (.cond (.t 5) (.seq (.seg false [⟨some 2, none, .mov (.k (.sl true 1 [])), 0, 0, false, []⟩])
   (.ret))
   (.skip)))
   (.cutTo [0] (.seq (.seg false [⟨some 6, none, .mov (.t 0), 0, 0, false, []⟩,
    ⟨some 7, none, .app 1 (.k (.sl true 1 [])) (.t 6), 0, 0, false, []⟩,
    ⟨some 8, none, .callx 2 186 [.t 7], 0, 0, false, []⟩,
    ⟨some 2, none, .mov (.t 8), 0, 0, false, []⟩])
   (.cutTo [2] (.ret)))))⟩
/-- loop.example/tablehouse/spec.l1Less -/
def F155 : F := ⟨8, [(false, 4, 0, false)],
   .seq (.seg false [⟨some 4, none, .mov (.k (.int .i64 0)), 0, 0, false, []⟩])
   (.seq (.seq (.seg false [⟨some 5, none, .mov (.t 0), 0, 0, false, []⟩,
    ⟨some 6, none, .mov (.t 1), 0, 0, false, []⟩,
    ⟨some 7, none, .bin .lss (.t 5) (.t 6), 0, 0, false, []⟩])
   (.cond (.t 7) (.seq (.seg false [⟨some 4, none, .mov (.k (.int .i64 1)), 0, 0, false, []⟩])
   (.ret))
   (.skip)))
   (.cutTo [] (.seq (.seg false [⟨some 4, none, .mov (.k (.int .i64 0)), 0, 0, false, []⟩])
   (.ret))))⟩
/-- loop.example/tablehouse/spec.l1Cmp -/
def F156 : F := ⟨11, [(false, 4, 0, false)],
   .seq (.seg false [⟨some 4, none, .mov (.k (.int .i64 0)), 0, 0, false, []⟩])
   (.seq (.seq (.seg false [⟨some 5, none, .mov (.t 0), 0, 0, false, []⟩,
    ⟨some 6, none, .mov (.t 1), 0, 0, false, []⟩,
    ⟨some 7, none, .bin .lss (.t 5) (.t 6), 0, 0, false, []⟩])
   (.cond (.t 7) (.seq (.seg false [⟨some 4, none, .mov (.k (.int .i64 (-1))), 0, 0, false, []⟩])
   (.ret))
   (.skip)))
   (.cutTo [0, 1] (.seq (.seq (.seg false [⟨some 8, none, .mov (.t 0), 0, 0, false, []⟩,
    ⟨some 9, none, .mov (.t 1), 0, 0, false, []⟩,
    ⟨some 10, none, .bin .gtr (.t 8) (.t 9), 0, 0, false, []⟩])
   (.cond (.t 10) (.seq (.seg false [⟨some 4, none, .mov (.k (.int .i64 1)), 0, 0, false, []⟩])
   (.ret))
   (.skip)))
   (.cutTo [] (.seq (.seg false [⟨some 4, none, .mov (.k (.int .i64 0)), 0, 0, false, []⟩])
   (.ret))))))⟩
def B121x0 : C := .seq (.seq (.seg false [⟨some 9, none, .mov (.t 6), 0, 0, false, []⟩,
    ⟨some 10, none, .bin .lss (.t 9) (.k (.int .i64 5)), 0, 0, false, []⟩])
   (.cond (.t 10) (.skip)
   (.exit 0)))
   (.seq (.block 1 (.seq (.seg false [⟨some 13, none, .mov (.t 0), 0, 0, false, []⟩,
    ⟨some 14, none, .call 57 [.t 13, .k (.int .i64 3)] true false, 0, 0, false, []⟩,
    ⟨some 15, none, .bin .eql (.t 14) (.k (.int .i64 0)), 0, 0, false, []⟩])
   (.cond (.t 15) (.seq (.seg false [⟨some 16, none, .mov (.t 6), 0, 0, false, []⟩,
    ⟨some 17, none, .build [.int .i64 0, .sl true 3 [], .bool false] [(0, 1, .t 16)], 0, 0, false, []⟩,
    ⟨some 7, none, .alloc [.int .i64 0, .sl true 3 [], .bool false], 0, 0, false, []⟩,
    ⟨none, none, .store 3 (.t 7) (.t 17), 0, 0, false, []⟩])
   (.cutTo [0, 1, 5, 6, 7] (.seq (.seq (.seg false [⟨some 18, none, .mov (.t 0), 0, 0, false, []⟩,
    ⟨some 19, none, .call 57 [.t 18, .k (.int .i64 3)] true false, 0, 0, false, []⟩,
    ⟨some 20, none, .bin .eql (.t 19) (.k (.int .i64 0)), 0, 0, false, []⟩])
   (.cond (.t 20) (.seg false [⟨some 21, none, .faddr 2 1 (.t 7), 0, 0, false, []⟩,
    ⟨none, none, .store 1 (.t 21) (.k (.bool true)), 0, 0, false, []⟩])
   (.seg false [⟨some 22, none, .mov (.t 0), 0, 0, false, []⟩,
    ⟨some 23, none, .call 170 [.t 22] true false, 0, 0, false, []⟩,
    ⟨some 24, none, .faddr 1 1 (.t 7), 0, 0, false, []⟩,
    ⟨none, none, .store 1 (.t 24) (.t 23), 0, 0, false, []⟩])))
   (.cutTo [0, 1, 5, 6, 7] (.seg false [⟨some 25, none, .mov (.t 5), 0, 0, false, []⟩,
    ⟨some 26, none, .load true 3 (.t 7), 0, 0, false, []⟩,
    ⟨some 27, none, .mksl false 3 [.t 26], 0, 0, false, []⟩,
    ⟨some 28, none, .app 3 (.t 25) (.t 27), 0, 0, false, []⟩,
    ⟨some 5, none, .mov (.t 28), 0, 0, false, []⟩])))))
   (.skip))))
   (.cutTo [0, 1, 5, 6] (.seg false [⟨some 11, none, .mov (.t 6), 0, 0, false, []⟩,
    ⟨some 12, none, .bin .add (.t 11) (.k (.int .i64 1)), 0, 0, false, []⟩,
    ⟨some 6, none, .mov (.t 12), 0, 0, false, []⟩])))
def L121x0 : C := B121x0
theorem evL121x0 (run : Run) (draw : List I → Env → Heap → Option (Env × Heap)) (e : Env) (h : Heap) : evC run draw L121x0 e h = evC run draw B121x0 e h := rfl
/-- loop.example/tablehouse/spec.l20Writes -/
def F121 : F := ⟨58, [(false, 4, 0, false)],
   .seq (.seg false [⟨some 4, none, .nilrow 3, 0, 0, false, []⟩])
   (.seq (.seg false [⟨some 8, none, .mksl true 3 [], 0, 0, false, []⟩,
    ⟨some 5, none, .mov (.t 8), 0, 0, false, []⟩])
   (.seq (.seq (.seg false [⟨some 6, none, .mov (.k (.int .i64 0)), 0, 0, false, []⟩])
   (.block 0 (.loop [0, 1, 5, 6] [0, 1, 5] L121x0)))
   (.seq (.seq (.seg false [⟨some 29, none, .mov (.t 0), 0, 0, false, []⟩,
    ⟨some 30, none, .mov (.t 1), 0, 0, false, []⟩,
    ⟨some 31, none, .call 119 [.t 29, .t 30] true false, 0, 0, false, []⟩])
   (.cond (.t 31) (.seq (.seg false [⟨some 32, none, .mov (.t 0), 0, 0, false, []⟩,
    ⟨some 33, none, .call 57 [.t 32, .k (.int .i64 3)] true false, 0, 0, false, []⟩])
   (.block 2 (.seq (.seg false [⟨some 41, none, .bin .eql (.t 33) (.k (.int .i64 0)), 0, 0, false, []⟩,
    ⟨some 40, none, .mov (.t 41), 0, 0, false, []⟩])
   (.cond (.t 40) (.seg false [⟨some 42, none, .mov (.t 5), 0, 0, false, []⟩,
    ⟨some 43, none, .mov (.t 0), 0, 0, false, []⟩,
    ⟨some 44, none, .call 57 [.t 43, .k (.int .i64 8)] true false, 0, 0, false, []⟩,
    ⟨some 45, none, .bin .sub (.t 44) (.k (.int .i64 1)), 0, 0, false, []⟩,
    ⟨some 46, none, .build [.int .i64 0, .sl true 3 [], .bool false] [(0, 1, .t 45)], 0, 0, false, []⟩,
    ⟨some 47, none, .mksl false 3 [.t 46], 0, 0, false, []⟩,
    ⟨some 48, none, .app 3 (.t 42) (.t 47), 0, 0, false, []⟩,
    ⟨some 5, none, .mov (.t 48), 0, 0, false, []⟩])
   (.seq (.seg false [⟨some 50, none, .bin .eql (.t 33) (.k (.int .i64 1)), 0, 0, false, []⟩,
    ⟨some 49, none, .mov (.t 50), 0, 0, false, []⟩])
   (.cond (.t 49) (.seg false [⟨some 51, none, .mov (.t 5), 0, 0, false, []⟩,
    ⟨some 52, none, .mov (.t 0), 0, 0, false, []⟩,
    ⟨some 53, none, .call 170 [.t 52] true false, 0, 0, false, []⟩,
    ⟨some 54, none, .build [.int .i64 0, .sl true 3 [], .bool false] [(0, 1, .k (.int .i64 4)), (1, 1, .t 53), (2, 1, .k (.bool true))], 0, 0, false, []⟩,
    ⟨some 55, none, .mksl false 3 [.t 54], 0, 0, false, []⟩,
    ⟨some 56, none, .app 3 (.t 51) (.t 55), 0, 0, false, []⟩,
    ⟨some 5, none, .mov (.t 56), 0, 0, false, []⟩])
   (.seg false [⟨some 34, none, .mov (.t 5), 0, 0, false, []⟩,
    ⟨some 35, none, .mov (.t 0), 0, 0, false, []⟩,
    ⟨some 36, none, .call 171 [.t 35, .k (.int .i64 1)] true false, 0, 0, false, []⟩,
    ⟨some 37, none, .build [.int .i64 0, .sl true 3 [], .bool false] [(0, 1, .k (.int .i64 0)), (1, 1, .t 36)], 0, 0, false, []⟩,
    ⟨some 38, none, .mksl false 3 [.t 37], 0, 0, false, []⟩,
    ⟨some 39, none, .app 3 (.t 34) (.t 38), 0, 0, false, []⟩,
    ⟨some 5, none, .mov (.t 39), 0, 0, false, []⟩])))))))
   (.skip)))
   (.cutTo [5] (.seq (.seg false [⟨some 57, none, .mov (.t 5), 0, 0, false, []⟩,
    ⟨some 4, none, .mov (.t 57), 0, 0, false, []⟩])
   (.ret))))))⟩
def B120x0 : C := .seq (.seq (.seg false [⟨some 25, none, .mov (.t 8), 0, 0, false, []⟩,
    ⟨some 26, none, .bin .lss (.t 25) (.k (.int .i64 5)), 0, 0, false, []⟩])
   (.cond (.t 26) (.skip)
   (.exit 0)))
   (.seq (.block 1 (.seq (.seg false [⟨some 29, none, .mov (.t 0), 0, 0, false, []⟩,
    ⟨some 30, none, .mov (.t 8), 0, 0, false, []⟩,
    ⟨some 31, none, .call 167 [.t 29, .t 30] false false, 0, 0, false, []⟩,
    ⟨some 32, none, .mov (.t 2), 0, 0, false, []⟩,
    ⟨some 33, none, .bin .geq (.t 31) (.t 32), 0, 0, false, []⟩])
   (.cutTo [0, 1, 2, 8, 33] (.cond (.t 33) (.seq (.seg false [⟨some 34, none, .mksl false 4 [], 0, 0, false, []⟩,
    ⟨some 6, none, .mov (.t 34), 0, 0, false, []⟩,
    ⟨some 7, none, .mov (.k (.bool false)), 0, 0, false, []⟩])
   (.ret))
   (.skip)))))
   (.cutTo [0, 1, 2, 8] (.seg false [⟨some 27, none, .mov (.t 8), 0, 0, false, []⟩,
    ⟨some 28, none, .bin .add (.t 27) (.k (.int .i64 1)), 0, 0, false, []⟩,
    ⟨some 8, none, .mov (.t 28), 0, 0, false, []⟩])))
def L120x0 : C := B120x0
theorem evL120x0 (run : Run) (draw : List I → Env → Heap → Option (Env × Heap)) (e : Env) (h : Heap) : evC run draw L120x0 e h = evC run draw B120x0 e h := rfl
def B120x1 : C := .seq (.seq (.seg false [⟨some 37, none, .mov (.t 10), 0, 0, false, []⟩,
    ⟨some 38, none, .mov (.t 1), 0, 0, false, []⟩,
    ⟨some 39, none, .len false (.t 38), 0, 0, false, []⟩,
    ⟨some 40, none, .bin .lss (.t 37) (.t 39), 0, 0, false, []⟩])
   (.cutTo [1, 2, 9, 10, 40] (.cond (.t 40) (.skip)
   (.exit 2))))
   (.cutTo [1, 2, 9, 10] (.seq (.block 3 (.seg false [⟨some 43, none, .mov (.t 9), 0, 0, false, []⟩,
    ⟨some 44, none, .mov (.t 1), 0, 0, false, []⟩,
    ⟨some 45, none, .mov (.t 10), 0, 0, false, []⟩,
    ⟨some 46, none, .iaddr 3 (.t 44) (.t 45), 0, 0, false, []⟩,
    ⟨some 47, none, .load true 3 (.t 46), 0, 0, false, []⟩,
    ⟨some 48, none, .mov (.t 2), 0, 0, false, []⟩,
    ⟨some 49, none, .call 169 [.t 43, .t 47, .t 48] false true, 0, 0, false, []⟩,
    ⟨some 9, none, .mov (.t 49), 0, 0, false, []⟩]))
   (.cutTo [1, 2, 9, 10] (.seg false [⟨some 41, none, .mov (.t 10), 0, 0, false, []⟩,
    ⟨some 42, none, .bin .add (.t 41) (.k (.int .i64 1)), 0, 0, false, []⟩,
    ⟨some 10, none, .mov (.t 42), 0, 0, false, []⟩]))))
def L120x1 : C := B120x1
theorem evL120x1 (run : Run) (draw : List I → Env → Heap → Option (Env × Heap)) (e : Env) (h : Heap) : evC run draw L120x1 e h = evC run draw B120x1 e h := rfl
/-- loop.example/tablehouse/spec.WrittenAt -/
def F120 : F := ⟨55, [(false, 6, 0, false), (false, 7, 0, false)],
   .seq (.seg false [⟨some 6, none, .mov (.k (.sl true 4 [])), 0, 0, false, []⟩,
    ⟨some 7, none, .mov (.k (.bool false)), 0, 0, false, []⟩])
   (.seq (.seq (.seg false [⟨some 11, none, .mov (.t 0), 0, 0, false, []⟩,
    ⟨some 12, none, .call 62 [.t 11] false false, 0, 0, false, []⟩,
    ⟨some 13, none, .un .not (.t 12), 0, 0, false, []⟩,
    ⟨some 14, none, .mov (.t 13), 0, 0, false, []⟩,
    ⟨some 15, some (14, false), .mov (.t 1), 0, 0, false, []⟩,
    ⟨some 16, some (14, false), .call 158 [.t 15] false false, 0, 0, false, []⟩,
    ⟨some 17, some (14, false), .un .not (.t 16), 0, 0, false, []⟩,
    ⟨some 18, none, .pick (.t 14) (.k (.bool true)) (.t 17), 0, 0, false, []⟩,
    ⟨some 19, none, .mov (.t 18), 0, 0, false, []⟩,
    ⟨some 20, some (19, false), .mov (.t 2), 0, 0, false, []⟩,
    ⟨some 21, some (19, false), .call 84 [.t 20, .k (.int .i64 1), .k (.int .i64 40)] false false, 0, 0, false, []⟩,
    ⟨some 22, some (19, false), .un .not (.t 21), 0, 0, false, []⟩,
    ⟨some 23, none, .pick (.t 19) (.k (.bool true)) (.t 22), 0, 0, false, []⟩])
   (.cutTo [0, 1, 2, 23] (.cond (.t 23) (.seq (.seg false [⟨some 24, none, .mksl false 4 [], 0, 0, false, []⟩,
    ⟨some 6, none, .mov (.t 24), 0, 0, false, []⟩,
    ⟨some 7, none, .mov (.k (.bool false)), 0, 0, false, []⟩])
   (.ret))
   (.skip))))
   (.cutTo [0, 1, 2] (.seq (.seq (.seg false [⟨some 8, none, .mov (.k (.int .i64 0)), 0, 0, false, []⟩])
   (.block 0 (.loopk [0, 1, 2, 8] [0, 1, 2, 6, 7] L120x0)))
   (.seq (.seg false [⟨some 35, none, .mov (.t 0), 0, 0, false, []⟩,
    ⟨some 36, none, .call 168 [.t 35] true true, 0, 0, false, []⟩,
    ⟨some 9, none, .mov (.t 36), 0, 0, false, []⟩])
   (.seq (.seq (.seg false [⟨some 10, none, .mov (.k (.int .i64 0)), 0, 0, false, []⟩])
   (.block 2 (.loopk [1, 2, 9, 10] [9] L120x1)))
   (.seq (.seq (.seg false [⟨some 50, none, .mov (.t 9), 0, 0, false, []⟩,
    ⟨some 51, none, .len false (.t 50), 0, 0, false, []⟩,
    ⟨some 52, none, .bin .gtr (.t 51) (.k (.int .i64 60)), 0, 0, false, []⟩])
   (.cond (.t 52) (.seq (.seg false [⟨some 53, none, .mksl false 4 [], 0, 0, false, []⟩,
    ⟨some 6, none, .mov (.t 53), 0, 0, false, []⟩,
    ⟨some 7, none, .mov (.k (.bool false)), 0, 0, false, []⟩])
   (.ret))
   (.skip)))
   (.cutTo [9] (.seq (.seg false [⟨some 54, none, .mov (.t 9), 0, 0, false, []⟩,
    ⟨some 6, none, .mov (.t 54), 0, 0, false, []⟩,
    ⟨some 7, none, .mov (.k (.bool true)), 0, 0, false, []⟩])
   (.ret)))))))))⟩
def E62x0 : List I := [⟨some 16, none, .mov (.t 3), 0, 0, false, []⟩,
    ⟨some 17, none, .bin .gtr (.t 16) (.k (.int .i64 0)), 0, 0, false, []⟩,
    ⟨some 18, none, .mov (.t 17), 0, 0, false, []⟩,
    ⟨some 19, some (18, true), .mov (.t 0), 0, 0, false, []⟩,
    ⟨some 20, some (18, true), .mov (.t 3), 0, 0, false, []⟩,
    ⟨some 21, some (18, true), .bin .sub (.t 20) (.k (.int .i64 1)), 0, 0, false, []⟩,
    ⟨some 22, some (18, true), .iaddr 4 (.t 19) (.t 21), 0, 0, false, []⟩,
    ⟨some 23, some (18, true), .faddr 0 1 (.t 22), 0, 0, false, []⟩,
    ⟨some 24, some (18, true), .load false 1 (.t 23), 0, 0, false, []⟩,
    ⟨some 25, some (18, true), .mov (.t 0), 0, 0, false, []⟩,
    ⟨some 26, some (18, true), .mov (.t 3), 0, 0, false, []⟩,
    ⟨some 27, some (18, true), .iaddr 4 (.t 25) (.t 26), 0, 0, false, []⟩,
    ⟨some 28, some (18, true), .faddr 0 1 (.t 27), 0, 0, false, []⟩,
    ⟨some 29, some (18, true), .load false 1 (.t 28), 0, 0, false, []⟩,
    ⟨some 30, some (18, true), .bin .geq (.t 24) (.t 29), 0, 0, false, []⟩,
    ⟨some 31, none, .pick (.t 18) (.t 30) (.k (.bool false)), 0, 0, false, []⟩,
    ⟨some 32, none, .mov (.t 31), 0, 0, false, []⟩,
    ⟨some 33, some (32, true), .mov (.t 0), 0, 0, false, []⟩,
    ⟨some 34, some (32, true), .mov (.t 3), 0, 0, false, []⟩,
    ⟨some 35, some (32, true), .bin .sub (.t 34) (.k (.int .i64 1)), 0, 0, false, []⟩,
    ⟨some 36, some (32, true), .iaddr 4 (.t 33) (.t 35), 0, 0, false, []⟩,
    ⟨some 37, some (32, true), .faddr 0 1 (.t 36), 0, 0, false, []⟩,
    ⟨some 38, some (32, true), .load false 1 (.t 37), 0, 0, false, []⟩,
    ⟨some 39, some (32, true), .mov (.t 0), 0, 0, false, []⟩,
    ⟨some 40, some (32, true), .mov (.t 3), 0, 0, false, []⟩,
    ⟨some 41, some (32, true), .iaddr 4 (.t 39) (.t 40), 0, 0, false, []⟩,
    ⟨some 42, some (32, true), .faddr 0 1 (.t 41), 0, 0, false, []⟩,
    ⟨some 43, some (32, true), .load false 1 (.t 42), 0, 0, false, []⟩,
    ⟨some 44, some (32, true), .bin .gtr (.t 38) (.t 43), 0, 0, false, []⟩,
    ⟨some 45, some (32, true), .mov (.t 44), 0, 0, false, []⟩,
    ⟨some 46, some (45, false), .mov (.t 0), 0, 0, false, []⟩,
    ⟨some 47, some (45, false), .mov (.t 3), 0, 0, false, []⟩,
    ⟨some 48, some (45, false), .bin .sub (.t 47) (.k (.int .i64 1)), 0, 0, false, []⟩,
    ⟨some 49, some (45, false), .iaddr 4 (.t 46) (.t 48), 0, 0, false, []⟩,
    ⟨some 50, some (45, false), .faddr 2 1 (.t 49), 0, 0, false, []⟩,
    ⟨some 51, some (45, false), .load false 1 (.t 50), 0, 0, false, []⟩,
    ⟨some 52, some (45, false), .bin .eql (.t 51) (.k (.int .i64 0)), 0, 0, false, []⟩,
    ⟨some 53, some (32, true), .pick (.t 45) (.k (.bool true)) (.t 52), 0, 0, false, []⟩,
    ⟨some 54, some (32, true), .mov (.t 53), 0, 0, false, []⟩,
    ⟨some 55, some (54, false), .mov (.t 0), 0, 0, false, []⟩,
    ⟨some 56, some (54, false), .mov (.t 3), 0, 0, false, []⟩,
    ⟨some 57, some (54, false), .bin .sub (.t 56) (.k (.int .i64 1)), 0, 0, false, []⟩,
    ⟨some 58, some (54, false), .iaddr 4 (.t 55) (.t 57), 0, 0, false, []⟩,
    ⟨some 59, some (54, false), .faddr 2 1 (.t 58), 0, 0, false, []⟩,
    ⟨some 60, some (54, false), .load false 1 (.t 59), 0, 0, false, []⟩,
    ⟨some 61, some (54, false), .mov (.t 0), 0, 0, false, []⟩,
    ⟨some 62, some (54, false), .mov (.t 3), 0, 0, false, []⟩,
    ⟨some 63, some (54, false), .iaddr 4 (.t 61) (.t 62), 0, 0, false, []⟩,
    ⟨some 64, some (54, false), .faddr 1 1 (.t 63), 0, 0, false, []⟩,
    ⟨some 65, some (54, false), .load false 1 (.t 64), 0, 0, false, []⟩,
    ⟨some 66, some (54, false), .bin .gtr (.t 60) (.t 65), 0, 0, false, []⟩,
    ⟨some 67, some (32, true), .pick (.t 54) (.k (.bool true)) (.t 66), 0, 0, false, []⟩,
    ⟨some 68, none, .pick (.t 32) (.t 67) (.k (.bool false)), 0, 0, false, []⟩]
def D62x0 : List I := E62x0
theorem evD62x0 (run : Run) (e : Env) (h : Heap) : drawI run D62x0 e h = DrawS (evQ run E62x0 e h) run E62x0 e h := drawI_quiet run _ (by rfl) e h
def B62x0 : C := .seq (.seq (.seg false [⟨some 4, none, .mov (.t 3), 0, 0, false, []⟩,
    ⟨some 5, none, .mov (.t 0), 0, 0, false, []⟩,
    ⟨some 6, none, .len false (.t 5), 0, 0, false, []⟩,
    ⟨some 7, none, .bin .lss (.t 4) (.t 6), 0, 0, false, []⟩])
   (.cutTo [0, 3, 7] (.cond (.t 7) (.skip)
   (.exit 0))))
   (.cutTo [0, 3] (.seq (.block 1 (.seq (.seq (.seg false [⟨some 10, none, .mov (.t 0), 0, 0, false, []⟩,
    ⟨some 11, none, .mov (.t 3), 0, 0, false, []⟩,
    ⟨some 12, none, .iaddr 4 (.t 10) (.t 11), 0, 0, false, []⟩,
    ⟨some 13, none, .load true 4 (.t 12), 0, 0, false, []⟩,
    ⟨some 14, none, .call 102 [.t 13] false false, 0, 0, false, []⟩,
    ⟨some 15, none, .un .not (.t 14), 0, 0, false, []⟩])
   (.cutTo [0, 3, 15] (.cond (.t 15) (.seq (.seg false [⟨some 2, none, .mov (.k (.bool false)), 0, 0, false, []⟩])
   (.ret))
   (.skip))))
   (.cutTo [0, 3] (.seq (.seg true D62x0)
   (.cutTo [0, 3, 68] (.cond (.t 68) (.seq (.seg false [⟨some 2, none, .mov (.k (.bool false)), 0, 0, false, []⟩])
   (.ret))
   (.skip)))))))
   (.cutTo [0, 3] (.seg false [⟨some 8, none, .mov (.t 3), 0, 0, false, []⟩,
    ⟨some 9, none, .bin .add (.t 8) (.k (.int .i64 1)), 0, 0, false, []⟩,
    ⟨some 3, none, .mov (.t 9), 0, 0, false, []⟩]))))
def L62x0 : C := B62x0
theorem evL62x0 (run : Run) (draw : List I → Env → Heap → Option (Env × Heap)) (e : Env) (h : Heap) : evC run draw L62x0 e h = evC run draw B62x0 e h := rfl
/-- loop.example/tablehouse/spec.VersionsOk -/
def F62 : F := ⟨72, [(false, 2, 0, false)],
   .seq (.seg false [⟨some 2, none, .mov (.k (.bool false)), 0, 0, false, []⟩])
   (.seq (.seq (.seg false [⟨some 3, none, .mov (.k (.int .i64 0)), 0, 0, false, []⟩])
   (.block 0 (.loop [0, 3] [0, 2] L62x0)))
   (.seq (.seg false [⟨some 69, none, .mov (.t 0), 0, 0, false, []⟩,
    ⟨some 70, none, .len false (.t 69), 0, 0, false, []⟩,
    ⟨some 71, none, .bin .leq (.t 70) (.k (.int .i64 60)), 0, 0, false, []⟩,
    ⟨some 2, none, .mov (.t 71), 0, 0, false, []⟩])
   (.cutTo [2] (.ret))))⟩
/-- loop.example/tablehouse/spec.l31Value -/
def F185 : F := ⟨10, [(true, 2, 3, true)],
   .seq (.seg false [⟨some 2, none, .alloc [.int .i64 0, .int .i64 0, .str ⟨#[]⟩], 0, 0, false, []⟩])
   (.seq (.seq (.seg false [⟨some 3, none, .mov (.t 0), 0, 0, false, []⟩,
    ⟨some 4, none, .len false (.t 3), 0, 0, false, []⟩,
    ⟨some 5, none, .bin .eql (.t 4) (.k (.int .i64 0)), 0, 0, false, []⟩])
   (.cond (.t 5) (.seq (.seg false [⟨some 6, none, .build [.int .i64 0, .int .i64 0, .str ⟨#[]⟩] [], 0, 0, false, []⟩,
    ⟨none, none, .store 3 (.t 2) (.t 6), 0, 0, false, []⟩])
   (.ret))
   (.skip)))
   (.cutTo [0, 2] (.seq (.seg false [⟨some 7, none, .mov (.t 0), 0, 0, false, []⟩,
    ⟨some 8, none, .iaddr 3 (.t 7) (.k (.int .i64 0)), 0, 0, false, []⟩,
    ⟨some 9, none, .load true 3 (.t 8), 0, 0, false, []⟩,
    ⟨none, none, .store 3 (.t 2) (.t 9), 0, 0, false, []⟩])
   (.cutTo [2] (.ret)))))⟩
def E184x0 : List I := [⟨some 9, none, .mov (.t 5), 0, 0, false, []⟩,
    ⟨some 10, none, .bin .gtr (.t 9) (.k (.int .i64 0)), 0, 0, false, []⟩,
    ⟨some 11, none, .mov (.t 10), 0, 0, false, []⟩,
    ⟨some 12, some (11, true), .load true 6 (.t 3), 0, 0, false, []⟩,
    ⟨some 13, some (11, true), .mov (.t 0), 0, 0, false, []⟩,
    ⟨some 14, some (11, true), .mov (.t 5), 0, 0, false, []⟩,
    ⟨some 15, some (11, true), .bin .sub (.t 14) (.k (.int .i64 1)), 0, 0, false, []⟩,
    ⟨some 16, some (11, true), .iaddr 6 (.t 13) (.t 15), 0, 0, false, []⟩,
    ⟨some 17, some (11, true), .load true 6 (.t 16), 0, 0, false, []⟩,
    ⟨some 18, some (11, true), .call 103 [.t 12, .t 17] false false, 0, 0, false, []⟩,
    ⟨some 19, none, .pick (.t 11) (.t 18) (.k (.bool false)), 0, 0, false, []⟩]
def D184x0 : List I := E184x0
theorem evD184x0 (run : Run) (e : Env) (h : Heap) : drawI run D184x0 e h = DrawS (evQ run E184x0 e h) run E184x0 e h := drawI_quiet run _ (by rfl) e h
def E184x1 : List I := [⟨some 27, none, .mov (.t 6), 0, 0, false, []⟩,
    ⟨some 28, none, .load true 6 (.t 3), 0, 0, false, []⟩,
    ⟨some 29, none, .mksl false 6 [.t 28], 0, 0, false, []⟩,
    ⟨some 30, none, .app 6 (.t 27) (.t 29), 0, 0, true, []⟩,
    ⟨some 31, none, .mov (.t 0), 0, 1, false, []⟩,
    ⟨some 32, none, .mov (.t 5), 0, 1, false, []⟩,
    ⟨some 33, none, .slc false 6 (.t 31) (some (.t 32)) none none, 0, 1, false, []⟩,
    ⟨some 34, none, .app 6 (.t 30) (.t 33), 1, 0, true, []⟩,
    ⟨some 4, none, .mov (.t 34), 2, 2, false, []⟩]
def D184x1 : List I := E184x1
theorem evD184x1 (run : Run) (e : Env) (h : Heap) : drawI run D184x1 e h = DrawW (evW run E184x1 e h []) run E184x1 e h := drawI_write run _ e h
def B184x0 : C := .seq (.seq (.seg true D184x0)
   (.cutTo [0, 3, 5, 19] (.cond (.t 19) (.skip)
   (.exit 0))))
   (.cutTo [0, 3, 5] (.block 1 (.seg false [⟨some 20, none, .mov (.t 5), 0, 0, false, []⟩,
    ⟨some 21, none, .bin .sub (.t 20) (.k (.int .i64 1)), 0, 0, false, []⟩,
    ⟨some 5, none, .mov (.t 21), 0, 0, false, []⟩])))
def L184x0 : C := B184x0
theorem evL184x0 (run : Run) (draw : List I → Env → Heap → Option (Env × Heap)) (e : Env) (h : Heap) : evC run draw L184x0 e h = evC run draw B184x0 e h := rfl
/-- loop.example/tablehouse/spec.l31Put -/
def F184 : F := ⟨35, [(false, 4, 0, false)],
   .seq (.seg false [⟨some 3, none, .box (.t 1), 0, 0, false, []⟩,
    ⟨some 4, none, .nilrow 6, 0, 0, false, []⟩])
   (.seq (.seg false [⟨some 7, none, .mov (.t 0), 0, 0, false, []⟩,
    ⟨some 8, none, .len false (.t 7), 0, 0, false, []⟩,
    ⟨some 5, none, .mov (.t 8), 0, 0, false, []⟩])
   (.seq (.block 0 (.loop [0, 3, 5] [0, 3, 5] L184x0))
   (.seq (.seg false [⟨some 22, none, .mksl true 6 [], 0, 0, false, []⟩,
    ⟨some 23, none, .mov (.t 0), 0, 0, false, []⟩,
    ⟨some 24, none, .mov (.t 5), 0, 0, false, []⟩,
    ⟨some 25, none, .slc false 6 (.t 23) none (some (.t 24)) none, 0, 0, false, []⟩,
    ⟨some 26, none, .app 6 (.t 22) (.t 25), 0, 0, false, []⟩,
    ⟨some 6, none, .mov (.t 26), 0, 0, false, []⟩])
   (.cutTo [0, 3, 5, 6] (.seq (.seg true D184x1)
   (.cutTo [4] (.ret)))))))⟩
/-- cmp.Compare<string> -/
def F154 : F := ⟨20, [(false, 4, 0, false)],
   .seq (.seg false [⟨some 4, none, .mov (.k (.int .i64 0)), 0, 0, false, []⟩])
   (.seq (.seg false [⟨some 7, none, .mov (.t 0), 0, 0, false, []⟩,
    ⟨some 8, none, .call 187 [.t 7] false false, 0, 0, false, []⟩,
    ⟨some 5, none, .mov (.t 8), 0, 0, false, []⟩])
   (.seq (.seg false [⟨some 9, none, .mov (.t 1), 0, 0, false, []⟩,
    ⟨some 10, none, .call 187 [.t 9] false false, 0, 0, false, []⟩,
    ⟨some 6, none, .mov (.t 10), 0, 0, false, []⟩])
   (.seq (.seq (.seg false [⟨some 11, none, .mov (.t 5), 0, 0, false, []⟩])
   (.cond (.t 11) (.seq (.seq (.seg false [⟨some 12, none, .mov (.t 6), 0, 0, false, []⟩])
   (.cond (.t 12) (.seq (.seg false [⟨some 4, none, .mov (.k (.int .i64 0)), 0, 0, false, []⟩])
   (.ret))
   (.skip)))
   (.seq (.seg false [⟨some 4, none, .mov (.k (.int .i64 (-1))), 0, 0, false, []⟩])
   (.ret)))
   (.skip)))
   (.cutTo [0, 1, 6] (.seq (.seq (.seg false [⟨some 13, none, .mov (.t 6), 0, 0, false, []⟩])
   (.cond (.t 13) (.seq (.seg false [⟨some 4, none, .mov (.k (.int .i64 1)), 0, 0, false, []⟩])
   (.ret))
   (.skip)))
   (.seq (.seq (.seg false [⟨some 14, none, .mov (.t 0), 0, 0, false, []⟩,
    ⟨some 15, none, .mov (.t 1), 0, 0, false, []⟩,
    ⟨some 16, none, .bin .lss (.t 14) (.t 15), 0, 0, false, []⟩])
   (.cond (.t 16) (.seq (.seg false [⟨some 4, none, .mov (.k (.int .i64 (-1))), 0, 0, false, []⟩])
   (.ret))
   (.skip)))
   (.cutTo [0, 1] (.seq (.seq (.seg false [⟨some 17, none, .mov (.t 0), 0, 0, false, []⟩,
    ⟨some 18, none, .mov (.t 1), 0, 0, false, []⟩,
    ⟨some 19, none, .bin .gtr (.t 17) (.t 18), 0, 0, false, []⟩])
   (.cond (.t 19) (.seq (.seg false [⟨some 4, none, .mov (.k (.int .i64 1)), 0, 0, false, []⟩])
   (.ret))
   (.skip)))
   (.cutTo [] (.seq (.seg false [⟨some 4, none, .mov (.k (.int .i64 0)), 0, 0, false, []⟩])
   (.ret)))))))))))⟩
/-- cmp.isNaN<int> -/
def F183 : F := ⟨6, [(false, 2, 0, false)],
   .seq (.seg false [⟨some 2, none, .mov (.k (.bool false)), 0, 0, false, []⟩])
   (.seq (.seg false [⟨some 3, none, .mov (.t 0), 0, 0, false, []⟩,
    ⟨some 4, none, .mov (.t 0), 0, 0, false, []⟩,
    ⟨some 5, none, .bin .neq (.t 3) (.t 4), 0, 0, false, []⟩,
    ⟨some 2, none, .mov (.t 5), 0, 0, false, []⟩])
   (.cutTo [2] (.ret)))⟩
/-- slices.Clip<<>int,int> -/
def F186 : F := ⟨9, [(false, 2, 0, false)],
   .seq (.seg false [⟨some 2, none, .mov (.k (.sl true 1 [])), 0, 0, false, []⟩])
   (.seq (.seg false [⟨some 3, none, .mov (.t 0), 0, 0, false, []⟩,
    ⟨some 4, none, .mov (.t 0), 0, 0, false, []⟩,
    ⟨some 5, none, .len false (.t 4), 0, 0, false, []⟩,
    ⟨some 6, none, .mov (.t 0), 0, 0, false, []⟩,
    ⟨some 7, none, .len false (.t 6), 0, 0, false, []⟩,
    ⟨some 8, none, .slc false 1 (.t 3) none (some (.t 5)) (some (.t 7)), 0, 0, false, []⟩,
    ⟨some 2, none, .mov (.t 8), 0, 0, false, []⟩])
   (.cutTo [2] (.ret)))⟩
/-- loop.example/tablehouse/spec.l20Small -/
def F170 : F := ⟨7, [(false, 2, 0, false)],
   .seq (.seg false [⟨some 2, none, .mov (.k (.sl true 3 [])), 0, 0, false, []⟩])
   (.seq (.seg false [⟨some 3, none, .mov (.t 0), 0, 0, false, []⟩,
    ⟨some 4, none, .call 57 [.t 3, .k (.int .i64 4)] true false, 0, 0, false, []⟩,
    ⟨some 5, none, .build [.int .i64 0, .int .i64 0, .str ⟨#[]⟩] [(0, 1, .k (.int .i64 1)), (1, 1, .t 4)], 0, 0, false, []⟩,
    ⟨some 6, none, .mksl false 3 [.t 5], 0, 0, false, []⟩,
    ⟨some 2, none, .mov (.t 6), 0, 0, false, []⟩])
   (.cutTo [2] (.ret)))⟩
/-- loop.example/tablehouse/spec.l20Any -/
def F171 : F := ⟨10, [(false, 4, 0, false)],
   .seq (.seg false [⟨some 4, none, .mov (.k (.sl true 3 [])), 0, 0, false, []⟩])
   (.seq (.seg false [⟨some 5, none, .mov (.t 0), 0, 0, false, []⟩,
    ⟨some 6, none, .mov (.t 0), 0, 0, false, []⟩,
    ⟨some 7, none, .call 58 [.t 6, .k (.int .i64 0)] true false, 0, 0, false, []⟩,
    ⟨some 8, none, .mov (.t 1), 0, 0, false, []⟩,
    ⟨some 9, none, .call 194 [.t 5, .t 7, .t 8] true false, 0, 0, false, []⟩,
    ⟨some 4, none, .mov (.t 9), 0, 0, false, []⟩])
   (.cutTo [4] (.ret)))⟩
def E158x0 : List I := [⟨some 15, none, .faddr 0 1 (.t 4), 0, 0, false, []⟩,
    ⟨some 16, none, .load false 1 (.t 15), 0, 0, false, []⟩,
    ⟨some 17, none, .call 84 [.t 16, .k (.int .i64 0), .k (.int .i64 4)] false false, 0, 0, false, []⟩,
    ⟨some 18, none, .un .not (.t 17), 0, 0, false, []⟩,
    ⟨some 19, none, .mov (.t 18), 0, 0, false, []⟩,
    ⟨some 20, some (19, false), .faddr 1 1 (.t 4), 0, 0, false, []⟩,
    ⟨some 21, some (19, false), .load false 1 (.t 20), 0, 0, false, []⟩,
    ⟨some 22, some (19, false), .call 138 [.t 21] false false, 0, 0, false, []⟩,
    ⟨some 23, some (19, false), .un .not (.t 22), 0, 0, false, []⟩,
    ⟨some 24, none, .pick (.t 19) (.k (.bool true)) (.t 23), 0, 0, false, []⟩,
    ⟨some 25, none, .mov (.t 24), 0, 0, false, []⟩,
    ⟨some 26, some (25, false), .faddr 2 1 (.t 4), 0, 0, false, []⟩,
    ⟨some 27, some (25, false), .load false 1 (.t 26), 0, 0, false, []⟩,
    ⟨some 28, some (25, false), .mov (.t 27), 0, 0, false, []⟩,
    ⟨some 29, some (28, true), .faddr 1 1 (.t 4), 0, 0, false, []⟩,
    ⟨some 30, some (28, true), .load false 1 (.t 29), 0, 0, false, []⟩,
    ⟨some 31, some (28, true), .len false (.t 30), 0, 0, false, []⟩,
    ⟨some 32, some (28, true), .bin .gtr (.t 31) (.k (.int .i64 0)), 0, 0, false, []⟩,
    ⟨some 33, some (25, false), .pick (.t 28) (.t 32) (.k (.bool false)), 0, 0, false, []⟩,
    ⟨some 34, none, .pick (.t 25) (.k (.bool true)) (.t 33), 0, 0, false, []⟩,
    ⟨some 35, none, .mov (.t 34), 0, 0, false, []⟩,
    ⟨some 36, some (35, false), .mov (.t 3), 0, 0, false, []⟩,
    ⟨some 37, some (35, false), .bin .gtr (.t 36) (.k (.int .i64 0)), 0, 0, false, []⟩,
    ⟨some 38, some (35, false), .mov (.t 37), 0, 0, false, []⟩,
    ⟨some 39, some (38, true), .mov (.t 0), 0, 0, false, []⟩,
    ⟨some 40, some (38, true), .mov (.t 3), 0, 0, false, []⟩,
    ⟨some 41, some (38, true), .bin .sub (.t 40) (.k (.int .i64 1)), 0, 0, false, []⟩,
    ⟨some 42, some (38, true), .iaddr 3 (.t 39) (.t 41), 0, 0, false, []⟩,
    ⟨some 43, some (38, true), .faddr 0 1 (.t 42), 0, 0, false, []⟩,
    ⟨some 44, some (38, true), .load false 1 (.t 43), 0, 0, false, []⟩,
    ⟨some 45, some (38, true), .faddr 0 1 (.t 4), 0, 0, false, []⟩,
    ⟨some 46, some (38, true), .load false 1 (.t 45), 0, 0, false, []⟩,
    ⟨some 47, some (38, true), .bin .geq (.t 44) (.t 46), 0, 0, false, []⟩,
    ⟨some 48, some (35, false), .pick (.t 38) (.t 47) (.k (.bool false)), 0, 0, false, []⟩,
    ⟨some 49, none, .pick (.t 35) (.k (.bool true)) (.t 48), 0, 0, false, []⟩]
def D158x0 : List I := E158x0
theorem evD158x0 (run : Run) (e : Env) (h : Heap) : drawI run D158x0 e h = DrawS (evQ run E158x0 e h) run E158x0 e h := drawI_quiet run _ (by rfl) e h
def B158x0 : C := .seq (.seq (.seg false [⟨some 5, none, .mov (.t 3), 0, 0, false, []⟩,
    ⟨some 6, none, .mov (.t 0), 0, 0, false, []⟩,
    ⟨some 7, none, .len false (.t 6), 0, 0, false, []⟩,
    ⟨some 8, none, .bin .lss (.t 5) (.t 7), 0, 0, false, []⟩])
   (.cutTo [0, 3, 8] (.cond (.t 8) (.skip)
   (.exit 0))))
   (.cutTo [0, 3] (.seq (.block 1 (.seq (.seg false [⟨some 11, none, .mov (.t 0), 0, 0, false, []⟩,
    ⟨some 12, none, .mov (.t 3), 0, 0, false, []⟩,
    ⟨some 13, none, .iaddr 3 (.t 11) (.t 12), 0, 0, false, []⟩,
    ⟨some 14, none, .load true 3 (.t 13), 0, 0, false, []⟩,
    ⟨some 4, none, .alloc [.int .i64 0, .sl true 3 [], .bool false], 0, 0, false, []⟩,
    ⟨none, none, .store 3 (.t 4) (.t 14), 0, 0, false, []⟩])
   (.cutTo [0, 3, 4] (.seq (.seg true D158x0)
   (.cutTo [0, 3, 49] (.cond (.t 49) (.seq (.seg false [⟨some 2, none, .mov (.k (.bool false)), 0, 0, false, []⟩])
   (.ret))
   (.skip)))))))
   (.cutTo [0, 3] (.seg false [⟨some 9, none, .mov (.t 3), 0, 0, false, []⟩,
    ⟨some 10, none, .bin .add (.t 9) (.k (.int .i64 1)), 0, 0, false, []⟩,
    ⟨some 3, none, .mov (.t 10), 0, 0, false, []⟩]))))
def L158x0 : C := B158x0
theorem evL158x0 (run : Run) (draw : List I → Env → Heap → Option (Env × Heap)) (e : Env) (h : Heap) : evC run draw L158x0 e h = evC run draw B158x0 e h := rfl
/-- loop.example/tablehouse/spec.WritesOk -/
def F158 : F := ⟨50, [(false, 2, 0, false)],
   .seq (.seg false [⟨some 2, none, .mov (.k (.bool false)), 0, 0, false, []⟩])
   (.seq (.seq (.seg false [⟨some 3, none, .mov (.k (.int .i64 0)), 0, 0, false, []⟩])
   (.block 0 (.loop [0, 3] [2] L158x0)))
   (.seq (.seg false [⟨some 2, none, .mov (.k (.bool true)), 0, 0, false, []⟩])
   (.ret)))⟩
def E167x0 : List I := [⟨some 24, none, .mov (.t 5), 0, 0, false, [5]⟩,
    ⟨some 25, none, .mov (.t 0), 0, 0, false, []⟩,
    ⟨some 26, none, .mov (.t 6), 0, 0, false, []⟩,
    ⟨some 27, none, .iaddr 4 (.t 25) (.t 26), 0, 0, false, []⟩,
    ⟨some 28, none, .faddr 1 1 (.t 27), 0, 0, false, []⟩,
    ⟨some 29, none, .load false 1 (.t 28), 0, 0, false, []⟩,
    ⟨some 30, none, .mov (.t 0), 0, 0, false, []⟩,
    ⟨some 31, none, .mov (.t 6), 0, 0, false, []⟩,
    ⟨some 32, none, .iaddr 4 (.t 30) (.t 31), 0, 0, false, []⟩,
    ⟨some 33, none, .faddr 2 1 (.t 32), 0, 0, false, []⟩,
    ⟨some 34, none, .load false 1 (.t 33), 0, 0, false, []⟩,
    ⟨some 35, none, .mm true (.t 24) [.t 29, .t 34], 0, 0, false, []⟩,
    ⟨some 5, none, .mov (.t 35), 0, 0, false, []⟩]
def D167x0 : List I := E167x0
theorem evD167x0 (run : Run) (e : Env) (h : Heap) : drawI run D167x0 e h = DrawW (evW run E167x0 e h []) run E167x0 e h := drawI_write run _ e h
def B167x0 : C := .seq (.seq (.seg false [⟨some 7, none, .mov (.t 6), 0, 0, false, []⟩,
    ⟨some 8, none, .mov (.t 0), 0, 0, false, []⟩,
    ⟨some 9, none, .len false (.t 8), 0, 0, false, []⟩,
    ⟨some 10, none, .bin .lss (.t 7) (.t 9), 0, 0, false, []⟩,
    ⟨some 11, none, .mov (.t 10), 0, 0, false, []⟩,
    ⟨some 12, some (11, true), .mov (.t 0), 0, 0, false, []⟩,
    ⟨some 13, some (11, true), .call 62 [.t 12] false false, 0, 0, false, []⟩,
    ⟨some 14, none, .pick (.t 11) (.t 13) (.k (.bool false)), 0, 0, false, []⟩])
   (.cutTo [0, 1, 5, 6, 14] (.cond (.t 14) (.skip)
   (.exit 0))))
   (.cutTo [0, 1, 5, 6] (.seq (.block 1 (.seq (.seg false [⟨some 17, none, .mov (.t 0), 0, 0, false, []⟩,
    ⟨some 18, none, .mov (.t 6), 0, 0, false, []⟩,
    ⟨some 19, none, .iaddr 4 (.t 17) (.t 18), 0, 0, false, []⟩,
    ⟨some 20, none, .faddr 0 1 (.t 19), 0, 0, false, []⟩,
    ⟨some 21, none, .load false 1 (.t 20), 0, 0, false, []⟩,
    ⟨some 22, none, .mov (.t 1), 0, 0, false, []⟩,
    ⟨some 23, none, .bin .eql (.t 21) (.t 22), 0, 0, false, []⟩])
   (.cutTo [0, 1, 5, 6, 23] (.cond (.t 23) (.seg true D167x0)
   (.skip)))))
   (.cutTo [0, 1, 5, 6] (.seg false [⟨some 15, none, .mov (.t 6), 0, 0, false, []⟩,
    ⟨some 16, none, .bin .add (.t 15) (.k (.int .i64 1)), 0, 0, false, []⟩,
    ⟨some 6, none, .mov (.t 16), 0, 0, false, []⟩]))))
def L167x0 : C := B167x0
theorem evL167x0 (run : Run) (draw : List I → Env → Heap → Option (Env × Heap)) (e : Env) (h : Heap) : evC run draw L167x0 e h = evC run draw B167x0 e h := rfl
/-- loop.example/tablehouse/spec.LastTurn -/
def F167 : F := ⟨37, [(false, 4, 0, false)],
   .seq (.seg false [⟨some 4, none, .mov (.k (.int .i64 0)), 0, 0, false, []⟩])
   (.seq (.seg false [⟨some 5, none, .mov (.k (.int .i64 0)), 0, 0, false, []⟩])
   (.seq (.seq (.seg false [⟨some 6, none, .mov (.k (.int .i64 0)), 0, 0, false, []⟩])
   (.block 0 (.loop [0, 1, 5, 6] [5] L167x0)))
   (.seq (.seg false [⟨some 36, none, .mov (.t 5), 0, 0, false, []⟩,
    ⟨some 4, none, .mov (.t 36), 0, 0, false, []⟩])
   (.ret))))⟩
def B168x0 : C := .seq (.seq (.seg false [⟨some 7, none, .mov (.t 4), 0, 0, false, []⟩,
    ⟨some 8, none, .mov (.t 0), 0, 0, false, []⟩,
    ⟨some 9, none, .len false (.t 8), 0, 0, false, []⟩,
    ⟨some 10, none, .bin .lss (.t 7) (.t 9), 0, 0, false, []⟩])
   (.cutTo [0, 3, 4, 10] (.cond (.t 10) (.skip)
   (.exit 0))))
   (.cutTo [0, 3, 4] (.seq (.block 1 (.seq (.seg false [⟨some 13, none, .mov (.t 0), 0, 0, false, []⟩,
    ⟨some 14, none, .mov (.t 4), 0, 0, false, []⟩,
    ⟨some 15, none, .iaddr 4 (.t 13) (.t 14), 0, 0, false, []⟩,
    ⟨some 16, none, .load true 4 (.t 15), 0, 0, false, []⟩,
    ⟨some 5, none, .alloc [.int .i64 0, .int .i64 0, .int .i64 0, .sl true 3 []], 0, 0, false, []⟩,
    ⟨none, none, .store 4 (.t 5) (.t 16), 0, 0, false, []⟩])
   (.cutTo [0, 3, 4, 5] (.seq (.seg false [⟨some 17, none, .faddr 3 1 (.t 5), 0, 0, false, []⟩,
    ⟨some 18, none, .load false 1 (.t 17), 0, 0, false, []⟩,
    ⟨some 19, none, .call 77 [.t 18] false false, 0, 0, false, []⟩,
    ⟨some 20, none, .faddr 3 1 (.t 5), 0, 0, false, []⟩,
    ⟨none, none, .store 1 (.t 20) (.t 19), 0, 0, false, []⟩])
   (.cutTo [0, 3, 4, 5] (.seg false [⟨some 21, none, .mov (.t 3), 0, 0, false, []⟩,
    ⟨some 22, none, .load true 4 (.t 5), 0, 0, false, []⟩,
    ⟨some 23, none, .mksl false 4 [.t 22], 0, 0, false, []⟩,
    ⟨some 24, none, .app 4 (.t 21) (.t 23), 0, 0, false, []⟩,
    ⟨some 3, none, .mov (.t 24), 0, 0, false, []⟩]))))))
   (.cutTo [0, 3, 4] (.seg false [⟨some 11, none, .mov (.t 4), 0, 0, false, []⟩,
    ⟨some 12, none, .bin .add (.t 11) (.k (.int .i64 1)), 0, 0, false, []⟩,
    ⟨some 4, none, .mov (.t 12), 0, 0, false, []⟩]))))
def L168x0 : C := B168x0
theorem evL168x0 (run : Run) (draw : List I → Env → Heap → Option (Env × Heap)) (e : Env) (h : Heap) : evC run draw L168x0 e h = evC run draw B168x0 e h := rfl
/-- loop.example/tablehouse/spec.l13Copy -/
def F168 : F := ⟨26, [(false, 2, 0, false)],
   .seq (.seg false [⟨some 2, none, .nilrow 4, 0, 0, false, []⟩])
   (.seq (.seg false [⟨some 6, none, .mksl true 4 [], 0, 0, false, []⟩,
    ⟨some 3, none, .mov (.t 6), 0, 0, false, []⟩])
   (.seq (.seq (.seg false [⟨some 4, none, .mov (.k (.int .i64 0)), 0, 0, false, []⟩])
   (.block 0 (.loopk [0, 3, 4] [3] L168x0)))
   (.seq (.seg false [⟨some 25, none, .mov (.t 3), 0, 0, false, []⟩,
    ⟨some 2, none, .mov (.t 25), 0, 0, false, []⟩])
   (.ret))))⟩
def E169x0 : List I := [⟨some 33, none, .mov (.t 7), 0, 0, false, [7]⟩,
    ⟨some 34, none, .faddr 0 1 (.t 4), 0, 0, false, []⟩,
    ⟨some 35, none, .load false 1 (.t 34), 0, 0, false, []⟩,
    ⟨some 36, none, .mov (.t 2), 0, 0, false, []⟩,
    ⟨some 37, none, .faddr 1 1 (.t 4), 0, 0, false, []⟩,
    ⟨some 38, none, .load false 1 (.t 37), 0, 0, false, []⟩,
    ⟨some 39, none, .call 77 [.t 38] false false, 0, 0, false, []⟩,
    ⟨some 40, none, .build [.int .i64 0, .int .i64 0, .int .i64 0, .sl true 3 []] [(0, 1, .t 35), (1, 1, .t 36), (3, 1, .t 39)], 0, 0, false, []⟩,
    ⟨some 41, none, .mksl false 4 [.t 40], 0, 0, false, []⟩,
    ⟨some 42, none, .app 4 (.t 33) (.t 41), 0, 0, true, []⟩,
    ⟨some 7, none, .mov (.t 42), 1, 1, false, []⟩]
def D169x0 : List I := E169x0
theorem evD169x0 (run : Run) (e : Env) (h : Heap) : drawI run D169x0 e h = DrawW (evW run E169x0 e h []) run E169x0 e h := drawI_write run _ e h
def E169x1 : List I := [⟨some 61, none, .mov (.t 7), 0, 0, false, [7]⟩,
    ⟨some 62, none, .faddr 0 1 (.t 4), 0, 0, false, []⟩,
    ⟨some 63, none, .load false 1 (.t 62), 0, 0, false, []⟩,
    ⟨some 64, none, .mov (.t 2), 0, 0, false, []⟩,
    ⟨some 65, none, .faddr 1 1 (.t 4), 0, 0, false, []⟩,
    ⟨some 66, none, .load false 1 (.t 65), 0, 0, false, []⟩,
    ⟨some 67, none, .call 77 [.t 66] false false, 0, 0, false, []⟩,
    ⟨some 68, none, .build [.int .i64 0, .int .i64 0, .int .i64 0, .sl true 3 []] [(0, 1, .t 63), (1, 1, .t 64), (3, 1, .t 67)], 0, 0, false, []⟩,
    ⟨some 69, none, .mksl false 4 [.t 68], 0, 0, false, []⟩,
    ⟨some 70, none, .app 4 (.t 61) (.t 69), 0, 0, true, []⟩,
    ⟨some 7, none, .mov (.t 70), 1, 1, false, []⟩]
def D169x1 : List I := E169x1
theorem evD169x1 (run : Run) (e : Env) (h : Heap) : drawI run D169x1 e h = DrawW (evW run E169x1 e h []) run E169x1 e h := drawI_write run _ e h
def B169x0 : C := .seq (.seq (.seg false [⟨some 14, none, .mov (.t 9), 0, 0, false, []⟩,
    ⟨some 15, none, .mov (.t 0), 0, 0, false, []⟩,
    ⟨some 16, none, .len false (.t 15), 0, 0, false, []⟩,
    ⟨some 17, none, .bin .lss (.t 14) (.t 16), 0, 0, false, []⟩])
   (.cutTo [0, 2, 4, 7, 8, 9, 17] (.cond (.t 17) (.skip)
   (.exit 0))))
   (.cutTo [0, 2, 4, 7, 8, 9] (.seq (.block 1 (.seq (.seg false [⟨some 20, none, .mov (.t 0), 0, 0, false, []⟩,
    ⟨some 21, none, .mov (.t 9), 0, 0, false, []⟩,
    ⟨some 22, none, .iaddr 4 (.t 20) (.t 21), 0, 0, false, []⟩,
    ⟨some 23, none, .load true 4 (.t 22), 0, 0, false, []⟩,
    ⟨some 10, none, .alloc [.int .i64 0, .int .i64 0, .int .i64 0, .sl true 3 []], 0, 0, false, []⟩,
    ⟨none, none, .store 4 (.t 10) (.t 23), 0, 0, false, []⟩])
   (.cutTo [0, 2, 4, 7, 8, 9, 10] (.seq (.seq (.seg false [⟨some 24, none, .faddr 0 1 (.t 10), 0, 0, false, []⟩,
    ⟨some 25, none, .load false 1 (.t 24), 0, 0, false, []⟩,
    ⟨some 26, none, .faddr 0 1 (.t 4), 0, 0, false, []⟩,
    ⟨some 27, none, .load false 1 (.t 26), 0, 0, false, []⟩,
    ⟨some 28, none, .bin .gtr (.t 25) (.t 27), 0, 0, false, []⟩,
    ⟨some 29, none, .mov (.t 28), 0, 0, false, []⟩,
    ⟨some 30, some (29, true), .mov (.t 8), 0, 0, false, []⟩,
    ⟨some 31, some (29, true), .un .not (.t 30), 0, 0, false, []⟩,
    ⟨some 32, none, .pick (.t 29) (.t 31) (.k (.bool false)), 0, 0, false, []⟩])
   (.cutTo [0, 2, 4, 7, 8, 9, 10, 32] (.cond (.t 32) (.seq (.seg true D169x0)
   (.cutTo [0, 2, 4, 7, 9, 10] (.seg false [⟨some 8, none, .mov (.k (.bool true)), 0, 0, false, []⟩])))
   (.skip))))
   (.cutTo [0, 2, 4, 7, 8, 9, 10] (.seq (.seq (.seg false [⟨some 43, none, .faddr 0 1 (.t 10), 0, 0, false, []⟩,
    ⟨some 44, none, .load false 1 (.t 43), 0, 0, false, []⟩,
    ⟨some 45, none, .faddr 0 1 (.t 4), 0, 0, false, []⟩,
    ⟨some 46, none, .load false 1 (.t 45), 0, 0, false, []⟩,
    ⟨some 47, none, .bin .eql (.t 44) (.t 46), 0, 0, false, []⟩,
    ⟨some 48, none, .mov (.t 47), 0, 0, false, []⟩,
    ⟨some 49, some (48, true), .faddr 2 1 (.t 10), 0, 0, false, []⟩,
    ⟨some 50, some (48, true), .load false 1 (.t 49), 0, 0, false, []⟩,
    ⟨some 51, some (48, true), .bin .eql (.t 50) (.k (.int .i64 0)), 0, 0, false, []⟩,
    ⟨some 52, none, .pick (.t 48) (.t 51) (.k (.bool false)), 0, 0, false, []⟩])
   (.cutTo [0, 2, 4, 7, 8, 9, 10, 52] (.cond (.t 52) (.seg false [⟨some 53, none, .mov (.t 2), 0, 0, false, []⟩,
    ⟨some 54, none, .faddr 2 1 (.t 10), 0, 0, false, []⟩,
    ⟨none, none, .store 1 (.t 54) (.t 53), 0, 0, false, []⟩])
   (.skip))))
   (.cutTo [0, 2, 4, 7, 8, 9, 10] (.seg false [⟨some 55, none, .mov (.t 7), 0, 0, false, []⟩,
    ⟨some 56, none, .load true 4 (.t 10), 0, 0, false, []⟩,
    ⟨some 57, none, .mksl false 4 [.t 56], 0, 0, false, []⟩,
    ⟨some 58, none, .app 4 (.t 55) (.t 57), 0, 0, false, []⟩,
    ⟨some 7, none, .mov (.t 58), 0, 0, false, []⟩]))))))))
   (.cutTo [0, 2, 4, 7, 8, 9] (.seg false [⟨some 18, none, .mov (.t 9), 0, 0, false, []⟩,
    ⟨some 19, none, .bin .add (.t 18) (.k (.int .i64 1)), 0, 0, false, []⟩,
    ⟨some 9, none, .mov (.t 19), 0, 0, false, []⟩]))))
def L169x0 : C := B169x0
theorem evL169x0 (run : Run) (draw : List I → Env → Heap → Option (Env × Heap)) (e : Env) (h : Heap) : evC run draw L169x0 e h = evC run draw B169x0 e h := rfl
/-- loop.example/tablehouse/spec.l13Written -/
def F169 : F := ⟨72, [(false, 6, 0, false)],
   .seq (.seg false [⟨some 4, none, .box (.t 1), 0, 0, false, []⟩,
    ⟨some 6, none, .nilrow 4, 0, 0, false, []⟩])
   (.seq (.seg false [⟨some 11, none, .mksl true 4 [], 0, 0, false, []⟩,
    ⟨some 7, none, .mov (.t 11), 0, 0, false, []⟩])
   (.seq (.seg false [⟨some 12, none, .faddr 2 1 (.t 4), 0, 0, false, []⟩,
    ⟨some 13, none, .load false 1 (.t 12), 0, 0, false, []⟩,
    ⟨some 8, none, .mov (.t 13), 0, 0, false, []⟩])
   (.seq (.seq (.seg false [⟨some 9, none, .mov (.k (.int .i64 0)), 0, 0, false, []⟩])
   (.block 0 (.loop [0, 2, 4, 7, 8, 9] [2, 4, 7, 8] L169x0)))
   (.seq (.seq (.seg false [⟨some 59, none, .mov (.t 8), 0, 0, false, []⟩,
    ⟨some 60, none, .un .not (.t 59), 0, 0, false, []⟩])
   (.cond (.t 60) (.seg true D169x1)
   (.skip)))
   (.cutTo [7] (.seq (.seg false [⟨some 71, none, .mov (.t 7), 0, 0, false, []⟩,
    ⟨some 6, none, .mov (.t 71), 0, 0, false, []⟩])
   (.ret)))))))⟩
/-- cmp.isNaN<string> -/
def F187 : F := ⟨6, [(false, 2, 0, false)],
   .seq (.seg false [⟨some 2, none, .mov (.k (.bool false)), 0, 0, false, []⟩])
   (.seq (.seg false [⟨some 3, none, .mov (.t 0), 0, 0, false, []⟩,
    ⟨some 4, none, .mov (.t 0), 0, 0, false, []⟩,
    ⟨some 5, none, .bin .neq (.t 3) (.t 4), 0, 0, false, []⟩,
    ⟨some 2, none, .mov (.t 5), 0, 0, false, []⟩])
   (.cutTo [2] (.ret)))⟩
def E58x0 : List I := [⟨some 15, none, .mov (.t 5), 0, 2, false, [5]⟩,
    ⟨some 16, none, .mksl false 1 [.k (.int .i64 1), .k (.int .i64 1), .k (.int .i64 2), .k (.int .i64 3)], 0, 2, false, []⟩,
    ⟨some 17, none, .mov (.t 0), 0, 0, false, []⟩,
    ⟨some 18, none, .call 57 [.t 17, .k (.int .i64 4)] true false, 0, 0, true, []⟩,
    ⟨some 19, none, .iaddr 1 (.t 16) (.t 18), 1, 2, false, []⟩,
    ⟨some 20, none, .load false 1 (.t 19), 1, 2, false, []⟩,
    ⟨some 21, none, .mov (.t 0), 0, 1, false, []⟩,
    ⟨some 22, none, .call 57 [.t 21, .k (.int .i64 3)] true false, 1, 0, true, []⟩,
    ⟨some 23, none, .bin .gtr (.t 22) (.k (.int .i64 0)), 2, 2, false, []⟩,
    ⟨some 24, none, .build [.int .i64 0, .bool false] [(0, 1, .t 20), (1, 1, .t 23)], 2, 2, false, []⟩,
    ⟨some 25, none, .mksl false 2 [.t 24], 2, 2, false, []⟩,
    ⟨some 26, none, .app 2 (.t 15) (.t 25), 2, 0, true, []⟩,
    ⟨some 5, none, .mov (.t 26), 3, 3, false, []⟩]
def D58x0 : List I := E58x0
theorem evD58x0 (run : Run) (e : Env) (h : Heap) : drawI run D58x0 e h = DrawW (evW run E58x0 e h []) run E58x0 e h := drawI_write run _ e h
def B58x0 : C := .seq (.seq (.seg false [⟨some 11, none, .mov (.t 6), 0, 0, false, []⟩,
    ⟨some 12, none, .bin .gtr (.t 11) (.k (.int .i64 0)), 0, 0, false, []⟩])
   (.cond (.t 12) (.skip)
   (.exit 0)))
   (.seq (.block 1 (.seg true D58x0))
   (.cutTo [0, 1, 5, 6] (.seg false [⟨some 13, none, .mov (.t 6), 0, 0, false, []⟩,
    ⟨some 14, none, .bin .sub (.t 13) (.k (.int .i64 1)), 0, 0, false, []⟩,
    ⟨some 6, none, .mov (.t 14), 0, 0, false, []⟩])))
def L58x0 : C := B58x0
theorem evL58x0 (run : Run) (draw : List I → Env → Heap → Option (Env × Heap)) (e : Env) (h : Heap) : evC run draw L58x0 e h = evC run draw B58x0 e h := rfl
/-- loop.example/tablehouse/spec.l20Columns -/
def F58 : F := ⟨40, [(false, 4, 0, false)],
   .seq (.seg false [⟨some 4, none, .nilrow 2, 0, 0, false, []⟩])
   (.seq (.seg false [⟨some 7, none, .mksl true 2 [], 0, 0, false, []⟩,
    ⟨some 5, none, .mov (.t 7), 0, 0, false, []⟩])
   (.seq (.seq (.seg false [⟨some 8, none, .mov (.t 0), 0, 0, false, []⟩,
    ⟨some 9, none, .call 57 [.t 8, .k (.int .i64 3)] true false, 0, 0, false, []⟩,
    ⟨some 10, none, .bin .add (.k (.int .i64 1)) (.t 9), 0, 0, false, []⟩,
    ⟨some 6, none, .mov (.t 10), 0, 0, false, []⟩])
   (.cutTo [0, 1, 5, 6] (.block 0 (.loop [0, 1, 5, 6] [0, 1, 5] L58x0))))
   (.cutTo [0, 1, 5] (.seq (.seq (.seg false [⟨some 27, none, .mov (.t 0), 0, 0, false, []⟩,
    ⟨some 28, none, .mov (.t 1), 0, 0, false, []⟩,
    ⟨some 29, none, .call 119 [.t 27, .t 28] true false, 0, 0, false, []⟩])
   (.cond (.t 29) (.seg false [⟨some 30, none, .mov (.t 5), 0, 0, false, []⟩,
    ⟨some 31, none, .mov (.t 0), 0, 0, false, []⟩,
    ⟨some 32, none, .call 57 [.t 31, .k (.int .i64 6)] true false, 0, 0, false, []⟩,
    ⟨some 33, none, .bin .sub (.t 32) (.k (.int .i64 1)), 0, 0, false, []⟩,
    ⟨some 34, none, .build [.int .i64 0, .bool false] [(0, 1, .t 33)], 0, 0, false, []⟩,
    ⟨some 35, none, .build [.int .i64 0, .bool false] [(0, 1, .k (.int .i64 1))], 0, 0, false, []⟩,
    ⟨some 36, none, .build [.int .i64 0, .bool false] [(0, 1, .k (.int .i64 1))], 0, 0, false, []⟩,
    ⟨some 37, none, .mksl false 2 [.t 34, .t 35, .t 36], 0, 0, false, []⟩,
    ⟨some 38, none, .app 2 (.t 30) (.t 37), 0, 0, false, []⟩,
    ⟨some 5, none, .mov (.t 38), 0, 0, false, []⟩])
   (.skip)))
   (.cutTo [5] (.seq (.seg false [⟨some 39, none, .mov (.t 5), 0, 0, false, []⟩,
    ⟨some 4, none, .mov (.t 39), 0, 0, false, []⟩])
   (.ret)))))))⟩
def B194x0 : C := .seq (.seq (.seg false [⟨some 10, none, .mov (.t 8), 0, 0, false, []⟩,
    ⟨some 11, none, .mov (.t 1), 0, 0, false, []⟩,
    ⟨some 12, none, .len false (.t 11), 0, 0, false, []⟩,
    ⟨some 13, none, .bin .lss (.t 10) (.t 12), 0, 0, false, []⟩])
   (.cutTo [0, 1, 2, 7, 8, 13] (.cond (.t 13) (.skip)
   (.exit 0))))
   (.cutTo [0, 1, 2, 7, 8] (.seq (.block 1 (.seg false [⟨some 16, none, .mov (.t 7), 0, 0, false, []⟩,
    ⟨some 17, none, .mov (.t 0), 0, 0, false, []⟩,
    ⟨some 18, none, .mov (.t 1), 0, 0, false, []⟩,
    ⟨some 19, none, .mov (.t 8), 0, 0, false, []⟩,
    ⟨some 20, none, .iaddr 2 (.t 18) (.t 19), 0, 0, false, []⟩,
    ⟨some 21, none, .load true 2 (.t 20), 0, 0, false, []⟩,
    ⟨some 22, none, .call 197 [.t 17, .t 21] true false, 0, 0, false, []⟩,
    ⟨some 23, none, .mksl false 3 [.t 22], 0, 0, false, []⟩,
    ⟨some 24, none, .app 3 (.t 16) (.t 23), 0, 0, false, []⟩,
    ⟨some 7, none, .mov (.t 24), 0, 0, false, []⟩]))
   (.cutTo [0, 1, 2, 7, 8] (.seg false [⟨some 14, none, .mov (.t 8), 0, 0, false, []⟩,
    ⟨some 15, none, .bin .add (.t 14) (.k (.int .i64 1)), 0, 0, false, []⟩,
    ⟨some 8, none, .mov (.t 15), 0, 0, false, []⟩]))))
def L194x0 : C := B194x0
theorem evL194x0 (run : Run) (draw : List I → Env → Heap → Option (Env × Heap)) (e : Env) (h : Heap) : evC run draw L194x0 e h = evC run draw B194x0 e h := rfl
/-- loop.example/tablehouse/spec.l20Fit -/
def F194 : F := ⟨59, [(false, 6, 0, false)],
   .seq (.seg false [⟨some 6, none, .nilrow 3, 0, 0, false, []⟩])
   (.seq (.seg false [⟨some 9, none, .mksl true 3 [], 0, 0, false, []⟩,
    ⟨some 7, none, .mov (.t 9), 0, 0, false, []⟩])
   (.seq (.seq (.seg false [⟨some 8, none, .mov (.k (.int .i64 0)), 0, 0, false, []⟩])
   (.block 0 (.loop [0, 1, 2, 7, 8] [0, 2, 7] L194x0)))
   (.seq (.seq (.seg false [⟨some 25, none, .mov (.t 0), 0, 0, false, []⟩,
    ⟨some 26, none, .mov (.t 2), 0, 0, false, []⟩,
    ⟨some 27, none, .call 119 [.t 25, .t 26] true false, 0, 0, false, []⟩])
   (.cond (.t 27) (.seq (.seg false [⟨some 28, none, .mov (.t 0), 0, 0, false, []⟩,
    ⟨some 29, none, .call 57 [.t 28, .k (.int .i64 3)] true false, 0, 0, false, []⟩])
   (.block 2 (.seq (.seg false [⟨some 40, none, .bin .eql (.t 29) (.k (.int .i64 0)), 0, 0, false, []⟩,
    ⟨some 39, none, .mov (.t 40), 0, 0, false, []⟩])
   (.cond (.t 39) (.seg false [⟨some 41, none, .mov (.t 7), 0, 0, false, []⟩,
    ⟨some 42, none, .build [.int .i64 0, .int .i64 0, .str ⟨#[]⟩] [], 0, 0, false, []⟩,
    ⟨some 43, none, .mksl false 3 [.t 42], 0, 0, false, []⟩,
    ⟨some 44, none, .app 3 (.t 41) (.t 43), 0, 0, false, []⟩,
    ⟨some 7, none, .mov (.t 44), 0, 0, false, []⟩])
   (.seq (.seg false [⟨some 46, none, .bin .eql (.t 29) (.k (.int .i64 1)), 0, 0, false, []⟩,
    ⟨some 45, none, .mov (.t 46), 0, 0, false, []⟩])
   (.cond (.t 45) (.seq (.seg false [⟨some 47, none, .mov (.t 7), 0, 0, false, []⟩,
    ⟨some 48, none, .len false (.t 47), 0, 0, false, []⟩,
    ⟨some 49, none, .bin .gtr (.t 48) (.k (.int .i64 0)), 0, 0, false, []⟩])
   (.cond (.t 49) (.seg false [⟨some 50, none, .mov (.t 7), 0, 0, false, []⟩,
    ⟨some 51, none, .mov (.t 0), 0, 0, false, []⟩,
    ⟨some 52, none, .mov (.t 7), 0, 0, false, []⟩,
    ⟨some 53, none, .len false (.t 52), 0, 0, false, []⟩,
    ⟨some 54, none, .call 57 [.t 51, .t 53] true false, 0, 0, false, []⟩,
    ⟨some 55, none, .mov (.t 0), 0, 0, false, []⟩,
    ⟨some 56, none, .call 149 [.t 55, .k (.int .i64 3)] true false, 0, 0, false, []⟩,
    ⟨some 57, none, .iaddr 3 (.t 50) (.t 54), 0, 0, false, []⟩,
    ⟨none, none, .store 3 (.t 57) (.t 56), 0, 0, false, []⟩])
   (.skip)))
   (.seg false [⟨some 30, none, .mov (.t 7), 0, 0, false, []⟩,
    ⟨some 31, none, .mov (.t 0), 0, 0, false, []⟩,
    ⟨some 32, none, .call 149 [.t 31, .k (.int .i64 0)] true false, 0, 0, false, []⟩,
    ⟨some 33, none, .mov (.t 0), 0, 0, false, []⟩,
    ⟨some 34, none, .call 149 [.t 33, .k (.int .i64 0)] true false, 0, 0, false, []⟩,
    ⟨some 35, none, .mov (.t 0), 0, 0, false, []⟩,
    ⟨some 36, none, .call 149 [.t 35, .k (.int .i64 0)] true false, 0, 0, false, []⟩,
    ⟨some 37, none, .mksl false 3 [.t 32, .t 34, .t 36], 0, 0, false, []⟩,
    ⟨some 38, none, .app 3 (.t 30) (.t 37), 0, 0, false, []⟩,
    ⟨some 7, none, .mov (.t 38), 0, 0, false, []⟩])))))))
   (.skip)))
   (.cutTo [7] (.seq (.seg false [⟨some 58, none, .mov (.t 7), 0, 0, false, []⟩,
    ⟨some 6, none, .mov (.t 58), 0, 0, false, []⟩])
   (.ret))))))⟩
/-- loop.example/tablehouse/spec.l3Own -/
def F77 : F := ⟨6, [(false, 2, 0, false)],
   .seq (.seg false [⟨some 2, none, .nilrow 3, 0, 0, false, []⟩])
   (.seq (.seg false [⟨some 3, none, .mksl true 3 [], 0, 0, false, []⟩,
    ⟨some 4, none, .mov (.t 0), 0, 0, false, []⟩,
    ⟨some 5, none, .app 3 (.t 3) (.t 4), 0, 0, false, []⟩,
    ⟨some 2, none, .mov (.t 5), 0, 0, false, []⟩])
   (.cutTo [2] (.ret)))⟩
/-- loop.example/tablehouse/spec.l20Like -/
def F197 : F := ⟨31, [(true, 4, 3, true)],
   .seq (.seg false [⟨some 3, none, .box (.t 1), 0, 0, false, []⟩,
    ⟨some 4, none, .alloc [.int .i64 0, .int .i64 0, .str ⟨#[]⟩], 0, 0, false, []⟩])
   (.seq (.seq (.seg false [⟨some 5, none, .faddr 1 1 (.t 3), 0, 0, false, []⟩,
    ⟨some 6, none, .load false 1 (.t 5), 0, 0, false, []⟩,
    ⟨some 7, none, .mov (.t 6), 0, 0, false, []⟩,
    ⟨some 8, some (7, true), .mov (.t 0), 0, 0, false, []⟩,
    ⟨some 9, some (7, true), .call 57 [.t 8, .k (.int .i64 5)] true false, 0, 0, false, []⟩,
    ⟨some 10, some (7, true), .bin .eql (.t 9) (.k (.int .i64 0)), 0, 0, false, []⟩,
    ⟨some 11, none, .pick (.t 7) (.t 10) (.k (.bool false)), 0, 0, false, []⟩])
   (.cutTo [0, 3, 4, 11] (.cond (.t 11) (.seq (.seg false [⟨some 12, none, .build [.int .i64 0, .int .i64 0, .str ⟨#[]⟩] [], 0, 0, false, []⟩,
    ⟨none, none, .store 3 (.t 4) (.t 12), 0, 0, false, []⟩])
   (.ret))
   (.skip))))
   (.cutTo [0, 3, 4] (.seq (.seq (.seg false [⟨some 13, none, .faddr 0 1 (.t 3), 0, 0, false, []⟩,
    ⟨some 14, none, .load false 1 (.t 13), 0, 0, false, []⟩])
   (.block 0 (.seq (.seg false [⟨some 16, none, .bin .eql (.t 14) (.k (.int .i64 1)), 0, 0, false, []⟩,
    ⟨some 15, none, .mov (.t 16), 0, 0, false, []⟩])
   (.cond (.t 15) (.seq (.seg false [⟨some 17, none, .mov (.t 0), 0, 0, false, []⟩,
    ⟨some 18, none, .call 57 [.t 17, .k (.int .i64 4)] true false, 0, 0, false, []⟩,
    ⟨some 19, none, .build [.int .i64 0, .int .i64 0, .str ⟨#[]⟩] [(0, 1, .k (.int .i64 1)), (1, 1, .t 18)], 0, 0, false, []⟩,
    ⟨none, none, .store 3 (.t 4) (.t 19), 0, 0, false, []⟩])
   (.cutTo [4] (.ret)))
   (.seq (.seg false [⟨some 21, none, .bin .eql (.t 14) (.k (.int .i64 2)), 0, 0, false, []⟩,
    ⟨some 20, none, .mov (.t 21), 0, 0, false, []⟩])
   (.cond (.t 20) (.seq (.seg false [⟨some 22, none, .mksl false 1 [.k (.str ⟨#[]⟩), .k (.str ⟨#[97]⟩), .k (.str ⟨#[98]⟩), .k (.str ⟨#[97, 98]⟩)], 0, 0, false, []⟩,
    ⟨some 23, none, .mov (.t 0), 0, 0, false, []⟩,
    ⟨some 24, none, .call 57 [.t 23, .k (.int .i64 4)] true false, 0, 0, false, []⟩,
    ⟨some 25, none, .iaddr 1 (.t 22) (.t 24), 0, 0, false, []⟩,
    ⟨some 26, none, .load false 1 (.t 25), 0, 0, false, []⟩,
    ⟨some 27, none, .build [.int .i64 0, .int .i64 0, .str ⟨#[]⟩] [(0, 1, .k (.int .i64 2)), (2, 1, .t 26)], 0, 0, false, []⟩,
    ⟨none, none, .store 3 (.t 4) (.t 27), 0, 0, false, []⟩])
   (.cutTo [4] (.ret)))
   (.skip)))))))
   (.cutTo [0, 4] (.seq (.seg false [⟨some 28, none, .mov (.t 0), 0, 0, false, []⟩,
    ⟨some 29, none, .call 57 [.t 28, .k (.int .i64 2)] true false, 0, 0, false, []⟩,
    ⟨some 30, none, .build [.int .i64 0, .int .i64 0, .str ⟨#[]⟩] [(0, 1, .k (.int .i64 3)), (1, 1, .t 29)], 0, 0, false, []⟩,
    ⟨none, none, .store 3 (.t 4) (.t 30), 0, 0, false, []⟩])
   (.cutTo [4] (.ret)))))))⟩
theorem chk7 : chkF Try.prog 7 F7 = true := by kernel_rfl
theorem chk8 : chkF Try.prog 8 F8 = true := by kernel_rfl
theorem chk9 : chkF Try.prog 9 F9 = true := by kernel_rfl
theorem chk37 : chkF Try.prog 37 F37 = true := by kernel_rfl
theorem chk38 : chkF Try.prog 38 F38 = true := by kernel_rfl
theorem chk39 : chkF Try.prog 39 F39 = true := by kernel_rfl
theorem chk18 : chkF Try.prog 18 F18 = true := by kernel_rfl
theorem chk40 : chkF Try.prog 40 F40 = true := by kernel_rfl
theorem chk41 : chkF Try.prog 41 F41 = true := by kernel_rfl
theorem chk43 : chkF Try.prog 43 F43 = true := by kernel_rfl
theorem chk42 : chkF Try.prog 42 F42 = true := by kernel_rfl
theorem chk44 : chkF Try.prog 44 F44 = true := by kernel_rfl
theorem chk45 : chkF Try.prog 45 F45 = true := by kernel_rfl
theorem chk46 : chkF Try.prog 46 F46 = true := by kernel_rfl
theorem chk47 : chkF Try.prog 47 F47 = true := by kernel_rfl
theorem chk55 : chkF Try.prog 55 F55 = true := by kernel_rfl
theorem chk95 : chkF Try.prog 95 F95 = true := by kernel_rfl
theorem chk96 : chkF Try.prog 96 F96 = true := by kernel_rfl
theorem chk78 : chkF Try.prog 78 F78 = true := by kernel_rfl
theorem chk79 : chkF Try.prog 79 F79 = true := by kernel_rfl
theorem chk97 : chkF Try.prog 97 F97 = true := by kernel_rfl
theorem chk99 : chkF Try.prog 99 F99 = true := by kernel_rfl
theorem chk98 : chkF Try.prog 98 F98 = true := by kernel_rfl
theorem chk101 : chkF Try.prog 101 F101 = true := by kernel_rfl
theorem chk102 : chkF Try.prog 102 F102 = true := by kernel_rfl
theorem chk103 : chkF Try.prog 103 F103 = true := by kernel_rfl
theorem chk72 : chkF Try.prog 72 F72 = true := by kernel_rfl
theorem chk57 : chkF Try.prog 57 F57 = true := by kernel_rfl
theorem chk105 : chkF Try.prog 105 F105 = true := by kernel_rfl
theorem chk104 : chkF Try.prog 104 F104 = true := by kernel_rfl
theorem chk107 : chkF Try.prog 107 F107 = true := by kernel_rfl
theorem chk109 : chkF Try.prog 109 F109 = true := by kernel_rfl
theorem chk59 : chkF Try.prog 59 F59 = true := by kernel_rfl
theorem chk148 : chkF Try.prog 148 F148 = true := by kernel_rfl
theorem chk119 : chkF Try.prog 119 F119 = true := by kernel_rfl
theorem chk149 : chkF Try.prog 149 F149 = true := by kernel_rfl
theorem chk150 : chkF Try.prog 150 F150 = true := by kernel_rfl
theorem chk108 : chkF Try.prog 108 F108 = true := by kernel_rfl
theorem chk147 : chkF Try.prog 147 F147 = true := by kernel_rfl
theorem chk145 : chkF Try.prog 145 F145 = true := by kernel_rfl
theorem chk100 : chkF Try.prog 100 F100 = true := by kernel_rfl
theorem chk151 : chkF Try.prog 151 F151 = true := by kernel_rfl
theorem chk84 : chkF Try.prog 84 F84 = true := by kernel_rfl
theorem chk152 : chkF Try.prog 152 F152 = true := by kernel_rfl
theorem chk138 : chkF Try.prog 138 F138 = true := by kernel_rfl
theorem chk106 : chkF Try.prog 106 F106 = true := by kernel_rfl
theorem chk153 : chkF Try.prog 153 F153 = true := by kernel_rfl
theorem chk155 : chkF Try.prog 155 F155 = true := by kernel_rfl
theorem chk156 : chkF Try.prog 156 F156 = true := by kernel_rfl
theorem chk121 : chkF Try.prog 121 F121 = true := by kernel_rfl
theorem chk120 : chkF Try.prog 120 F120 = true := by kernel_rfl
theorem chk62 : chkF Try.prog 62 F62 = true := by kernel_rfl
theorem chk185 : chkF Try.prog 185 F185 = true := by kernel_rfl
theorem chk184 : chkF Try.prog 184 F184 = true := by kernel_rfl
theorem chk154 : chkF Try.prog 154 F154 = true := by kernel_rfl
theorem chk183 : chkF Try.prog 183 F183 = true := by kernel_rfl
theorem chk186 : chkF Try.prog 186 F186 = true := by kernel_rfl
theorem chk170 : chkF Try.prog 170 F170 = true := by kernel_rfl
theorem chk171 : chkF Try.prog 171 F171 = true := by kernel_rfl
theorem chk158 : chkF Try.prog 158 F158 = true := by kernel_rfl
theorem chk167 : chkF Try.prog 167 F167 = true := by kernel_rfl
theorem chk168 : chkF Try.prog 168 F168 = true := by kernel_rfl
theorem chk169 : chkF Try.prog 169 F169 = true := by kernel_rfl
theorem chk187 : chkF Try.prog 187 F187 = true := by kernel_rfl
theorem chk58 : chkF Try.prog 58 F58 = true := by kernel_rfl
theorem chk194 : chkF Try.prog 194 F194 = true := by kernel_rfl
theorem chk77 : chkF Try.prog 77 F77 = true := by kernel_rfl
theorem chk197 : chkF Try.prog 197 F197 = true := by kernel_rfl
def tab : Tab := [(7, F7), (8, F8), (9, F9), (37, F37), (38, F38), (39, F39), (18, F18), (40, F40), (41, F41), (43, F43), (42, F42), (44, F44), (45, F45), (46, F46), (47, F47), (55, F55), (95, F95), (96, F96), (78, F78), (79, F79), (97, F97), (99, F99), (98, F98), (101, F101), (102, F102), (103, F103), (72, F72), (57, F57), (105, F105), (104, F104), (107, F107), (109, F109), (59, F59), (148, F148), (119, F119), (149, F149), (150, F150), (108, F108), (147, F147), (145, F145), (100, F100), (151, F151), (84, F84), (152, F152), (138, F138), (106, F106), (153, F153), (155, F155), (156, F156), (121, F121), (120, F120), (62, F62), (185, F185), (184, F184), (154, F154), (183, F183), (186, F186), (170, F170), (171, F171), (158, F158), (167, F167), (168, F168), (169, F169), (187, F187), (58, F58), (194, F194), (77, F77), (197, F197)]
theorem find7 : tab.find 7 = some F7 := rfl
theorem find8 : tab.find 8 = some F8 := rfl
theorem find9 : tab.find 9 = some F9 := rfl
theorem find37 : tab.find 37 = some F37 := rfl
theorem find38 : tab.find 38 = some F38 := rfl
theorem find39 : tab.find 39 = some F39 := rfl
theorem find18 : tab.find 18 = some F18 := rfl
theorem find40 : tab.find 40 = some F40 := rfl
theorem find41 : tab.find 41 = some F41 := rfl
theorem find43 : tab.find 43 = some F43 := rfl
theorem find42 : tab.find 42 = some F42 := rfl
theorem find44 : tab.find 44 = some F44 := rfl
theorem find45 : tab.find 45 = some F45 := rfl
theorem find46 : tab.find 46 = some F46 := rfl
theorem find47 : tab.find 47 = some F47 := rfl
theorem find55 : tab.find 55 = some F55 := rfl
theorem find95 : tab.find 95 = some F95 := rfl
theorem find96 : tab.find 96 = some F96 := rfl
theorem find78 : tab.find 78 = some F78 := rfl
theorem find79 : tab.find 79 = some F79 := rfl
theorem find97 : tab.find 97 = some F97 := rfl
theorem find99 : tab.find 99 = some F99 := rfl
theorem find98 : tab.find 98 = some F98 := rfl
theorem find101 : tab.find 101 = some F101 := rfl
theorem find102 : tab.find 102 = some F102 := rfl
theorem find103 : tab.find 103 = some F103 := rfl
theorem find72 : tab.find 72 = some F72 := rfl
theorem find57 : tab.find 57 = some F57 := rfl
theorem find105 : tab.find 105 = some F105 := rfl
theorem find104 : tab.find 104 = some F104 := rfl
theorem find107 : tab.find 107 = some F107 := rfl
theorem find109 : tab.find 109 = some F109 := rfl
theorem find59 : tab.find 59 = some F59 := rfl
theorem find148 : tab.find 148 = some F148 := rfl
theorem find119 : tab.find 119 = some F119 := rfl
theorem find149 : tab.find 149 = some F149 := rfl
theorem find150 : tab.find 150 = some F150 := rfl
theorem find108 : tab.find 108 = some F108 := rfl
theorem find147 : tab.find 147 = some F147 := rfl
theorem find145 : tab.find 145 = some F145 := rfl
theorem find100 : tab.find 100 = some F100 := rfl
theorem find151 : tab.find 151 = some F151 := rfl
theorem find84 : tab.find 84 = some F84 := rfl
theorem find152 : tab.find 152 = some F152 := rfl
theorem find138 : tab.find 138 = some F138 := rfl
theorem find106 : tab.find 106 = some F106 := rfl
theorem find153 : tab.find 153 = some F153 := rfl
theorem find155 : tab.find 155 = some F155 := rfl
theorem find156 : tab.find 156 = some F156 := rfl
theorem find121 : tab.find 121 = some F121 := rfl
theorem find120 : tab.find 120 = some F120 := rfl
theorem find62 : tab.find 62 = some F62 := rfl
theorem find185 : tab.find 185 = some F185 := rfl
theorem find184 : tab.find 184 = some F184 := rfl
theorem find154 : tab.find 154 = some F154 := rfl
theorem find183 : tab.find 183 = some F183 := rfl
theorem find186 : tab.find 186 = some F186 := rfl
theorem find170 : tab.find 170 = some F170 := rfl
theorem find171 : tab.find 171 = some F171 := rfl
theorem find158 : tab.find 158 = some F158 := rfl
theorem find167 : tab.find 167 = some F167 := rfl
theorem find168 : tab.find 168 = some F168 := rfl
theorem find169 : tab.find 169 = some F169 := rfl
theorem find187 : tab.find 187 = some F187 := rfl
theorem find58 : tab.find 58 = some F58 := rfl
theorem find194 : tab.find 194 = some F194 := rfl
theorem find77 : tab.find 77 = some F77 := rfl
theorem find197 : tab.find 197 = some F197 := rfl
theorem tab_ok : ∀ p ∈ tab, chkF Try.prog p.1 p.2 = true := by
  intro p hp
  simp only [tab, List.mem_cons, List.not_mem_nil, or_false] at hp
  rcases hp with rfl | rfl | rfl | rfl | rfl | rfl | rfl | rfl | rfl | rfl | rfl | rfl | rfl | rfl | rfl | rfl | rfl | rfl | rfl | rfl | rfl | rfl | rfl | rfl | rfl | rfl | rfl | rfl | rfl | rfl | rfl | rfl | rfl | rfl | rfl | rfl | rfl | rfl | rfl | rfl | rfl | rfl | rfl | rfl | rfl | rfl | rfl | rfl | rfl | rfl | rfl | rfl | rfl | rfl | rfl | rfl | rfl | rfl | rfl | rfl | rfl | rfl | rfl | rfl | rfl | rfl | rfl | rfl
  · exact chk7
  · exact chk8
  · exact chk9
  · exact chk37
  · exact chk38
  · exact chk39
  · exact chk18
  · exact chk40
  · exact chk41
  · exact chk43
  · exact chk42
  · exact chk44
  · exact chk45
  · exact chk46
  · exact chk47
  · exact chk55
  · exact chk95
  · exact chk96
  · exact chk78
  · exact chk79
  · exact chk97
  · exact chk99
  · exact chk98
  · exact chk101
  · exact chk102
  · exact chk103
  · exact chk72
  · exact chk57
  · exact chk105
  · exact chk104
  · exact chk107
  · exact chk109
  · exact chk59
  · exact chk148
  · exact chk119
  · exact chk149
  · exact chk150
  · exact chk108
  · exact chk147
  · exact chk145
  · exact chk100
  · exact chk151
  · exact chk84
  · exact chk152
  · exact chk138
  · exact chk106
  · exact chk153
  · exact chk155
  · exact chk156
  · exact chk121
  · exact chk120
  · exact chk62
  · exact chk185
  · exact chk184
  · exact chk154
  · exact chk183
  · exact chk186
  · exact chk170
  · exact chk171
  · exact chk158
  · exact chk167
  · exact chk168
  · exact chk169
  · exact chk187
  · exact chk58
  · exact chk194
  · exact chk77
  · exact chk197
end Go.Proofs.Ytfbjbkkcilhgjaa.PE
