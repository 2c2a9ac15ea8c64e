/- The compact code of the functions, and that it is the code of the machine. -/
import Derived.Test.YteaojpfofifmnaaPeT0
import Derived.Test.YteaojpfofifmnaaPeX
import Derived.Test.YteaojpfofifmnaaProg
namespace Go.Proofs.Yteaojpfofifmnaa.PE
open Go.RowKit
set_option maxRecDepth 100000
/-- slices.Clone<<>loop.example/tablehouse/impl.Entry,loop.example/tablehouse/impl.Entry> -/
def F130 : F := ⟨8, [(false, 2, 0, false)],
   .seq (.seg false [⟨some 2, none, .mov (.k (.sl true 2 [])), 0, 0, false, []⟩])
   (.clone 0 3 4 5 6 7 2 2)⟩
/-- loop.example/tablehouse/impl.logCut$1 -/
def F131 : F := ⟨8, [(false, 3, 0, false)],
   .seq (.seg false [⟨some 2, none, .box (.t 0), 0, 0, false, []⟩,
    ⟨some 3, none, .mov (.k (.bool false)), 0, 0, false, []⟩])
   (.seq (.seg false [⟨some 4, none, .faddr 0 1 (.t 2), 0, 0, false, []⟩,
    ⟨some 5, none, .load false 1 (.t 4), 0, 0, false, []⟩,
    ⟨some 6, none, .load false 1 (.t 1), 0, 0, false, []⟩,
    ⟨some 7, none, .bin .gtr (.t 5) (.t 6), 0, 0, false, []⟩,
    ⟨some 3, none, .mov (.t 7), 0, 0, false, []⟩])
   (.cutTo [3] (.ret)))⟩
def B129x0 : C := .seq (.seq (.seg false [⟨some 16, none, .mov (.t 6), 0, 0, false, []⟩,
    ⟨some 17, none, .mov (.t 0), 0, 0, false, []⟩,
    ⟨some 18, none, .len false (.t 17), 0, 0, false, []⟩,
    ⟨some 19, none, .bin .lss (.t 16) (.t 18), 0, 0, false, []⟩])
   (.cutTo [0, 1, 5, 6, 19] (.cond (.t 19) (.skip)
   (.exit 0))))
   (.cutTo [0, 1, 5, 6] (.seq (.block 1 (.seq (.seg false [⟨some 22, none, .mov (.t 0), 0, 0, false, []⟩,
    ⟨some 23, none, .mov (.t 6), 0, 0, false, []⟩,
    ⟨some 24, none, .iaddr 2 (.t 22) (.t 23), 0, 0, false, []⟩,
    ⟨some 25, none, .load true 2 (.t 24), 0, 0, false, []⟩,
    ⟨some 7, none, .alloc [.int .i64 0, .sl true 3 []], 0, 0, false, []⟩,
    ⟨none, none, .store 2 (.t 7) (.t 25), 0, 0, false, []⟩])
   (.cutTo [0, 1, 5, 6, 7] (.seq (.seg false [⟨some 26, none, .mov (.t 1), 0, 0, false, []⟩,
    ⟨some 27, none, .load true 2 (.t 7), 0, 0, false, []⟩,
    ⟨some 28, none, .callv (.t 26) [.t 27] false, 0, 0, false, []⟩,
    ⟨some 29, none, .un .not (.t 28), 0, 0, false, []⟩])
   (.cutTo [0, 1, 5, 6, 7, 29] (.cond (.t 29) (.seq (.seg false [⟨some 30, none, .mov (.t 0), 0, 0, false, []⟩,
    ⟨some 31, none, .mov (.t 5), 0, 0, false, []⟩,
    ⟨some 32, none, .load true 2 (.t 7), 0, 0, false, []⟩,
    ⟨some 33, none, .iaddr 2 (.t 30) (.t 31), 0, 0, false, []⟩,
    ⟨none, none, .store 2 (.t 33) (.t 32), 0, 0, false, []⟩])
   (.cutTo [0, 1, 5, 6] (.seg false [⟨some 34, none, .mov (.t 5), 0, 0, false, []⟩,
    ⟨some 35, none, .bin .add (.t 34) (.k (.int .i64 1)), 0, 0, false, []⟩,
    ⟨some 5, none, .mov (.t 35), 0, 0, false, []⟩])))
   (.skip)))))))
   (.cutTo [0, 1, 5, 6] (.seg false [⟨some 20, none, .mov (.t 6), 0, 0, false, []⟩,
    ⟨some 21, none, .bin .add (.t 20) (.k (.int .i64 1)), 0, 0, false, []⟩,
    ⟨some 6, none, .mov (.t 21), 0, 0, false, []⟩]))))
def L129x0 : C := B129x0
theorem evL129x0 (run : Run) (draw : List I → Env → Heap → Option (Env × Heap)) (e : Env) (h : Heap) : evC run draw L129x0 e h = evC run draw B129x0 e h := rfl
/-- slices.DeleteFunc<<>loop.example/tablehouse/impl.Entry,loop.example/tablehouse/impl.Entry> -/
def F129 : F := ⟨42, [(false, 4, 0, false)],
   .seq (.seg false [⟨some 4, none, .mov (.k (.sl true 2 [])), 0, 0, false, []⟩])
   (.seq (.seg false [⟨some 8, none, .mov (.t 0), 0, 0, false, []⟩,
    ⟨some 9, none, .mov (.t 1), 0, 0, false, []⟩,
    ⟨some 10, none, .call 153 [.t 8, .t 9] true false, 0, 0, false, []⟩,
    ⟨some 5, none, .mov (.t 10), 0, 0, false, []⟩])
   (.cutTo [0, 1, 5] (.seq (.seq (.seg false [⟨some 11, none, .mov (.t 5), 0, 0, false, []⟩,
    ⟨some 12, none, .bin .eql (.t 11) (.k (.int .i64 (-1))), 0, 0, false, []⟩])
   (.cond (.t 12) (.seq (.seg false [⟨some 13, none, .mov (.t 0), 0, 0, false, []⟩,
    ⟨some 4, none, .mov (.t 13), 0, 0, false, []⟩])
   (.ret))
   (.skip)))
   (.cutTo [0, 1, 5] (.seq (.seq (.seg false [⟨some 14, none, .mov (.t 5), 0, 0, false, []⟩,
    ⟨some 15, none, .bin .add (.t 14) (.k (.int .i64 1)), 0, 0, false, []⟩,
    ⟨some 6, none, .mov (.t 15), 0, 0, false, []⟩])
   (.block 0 (.loop [0, 1, 5, 6] [0, 5] L129x0)))
   (.seq (.seg false [⟨some 36, none, .mov (.t 0), 0, 0, false, []⟩,
    ⟨some 37, none, .mov (.t 5), 0, 0, false, []⟩,
    ⟨some 38, none, .slc false 2 (.t 36) (some (.t 37)) none none, 0, 0, false, []⟩,
    ⟨none, none, .clr 2 [.int .i64 0, .sl true 3 []] (.t 38), 0, 0, false, []⟩])
   (.cutTo [0, 5] (.seq (.seg false [⟨some 39, none, .mov (.t 0), 0, 0, false, []⟩,
    ⟨some 40, none, .mov (.t 5), 0, 0, false, []⟩,
    ⟨some 41, none, .slc false 2 (.t 39) none (some (.t 40)) none, 0, 0, false, []⟩,
    ⟨some 4, none, .mov (.t 41), 0, 0, false, []⟩])
   (.cutTo [4] (.ret))))))))))⟩
def B132x0 : C := .seq (.seq (.seg false [⟨some 21, none, .mov (.t 6), 0, 0, false, []⟩,
    ⟨some 22, none, .mov (.t 0), 0, 0, false, []⟩,
    ⟨some 23, none, .iaddr 1 (.t 22) (.k (.int .i64 0)), 0, 0, false, []⟩,
    ⟨some 24, none, .load false 1 (.t 23), 0, 0, false, []⟩,
    ⟨some 25, none, .conv (.int .i64) (.t 24), 0, 0, false, []⟩,
    ⟨some 26, none, .bin .lss (.t 21) (.t 25), 0, 0, false, []⟩])
   (.cutTo [0, 4, 5, 6, 26] (.cond (.t 26) (.skip)
   (.exit 0))))
   (.cutTo [0, 4, 5, 6] (.seq (.block 1 (.seq (.seg false [⟨some 30, none, .mov (.t 0), 0, 0, false, []⟩,
    ⟨some 31, none, .mov (.t 5), 0, 0, false, []⟩,
    ⟨some 32, none, .slc false 1 (.t 30) (some (.t 31)) none none, 0, 0, false, []⟩,
    ⟨some 33, none, .call 154 [.t 32] false false, 0, 0, false, []⟩,
    ⟨some 29, none, .mov (.t 33), 0, 0, false, []⟩,
    ⟨some 34, none, .ext (.t 29) 0, 0, 0, false, []⟩,
    ⟨some 35, none, .ext (.t 29) 1, 0, 0, false, []⟩,
    ⟨some 7, none, .alloc [.int .i64 0, .int .i64 0, .str ⟨#[]⟩], 0, 0, false, []⟩,
    ⟨none, none, .store 3 (.t 7) (.t 34), 0, 0, false, []⟩,
    ⟨some 8, none, .mov (.t 35), 0, 0, false, []⟩])
   (.cutTo [0, 4, 5, 6, 7, 8] (.seq (.seq (.seg false [⟨some 36, none, .mov (.t 8), 0, 0, false, []⟩,
    ⟨some 37, none, .bin .eql (.t 36) (.k (.int .i64 0)), 0, 0, false, []⟩])
   (.cond (.t 37) (.seq (.seg false [⟨some 38, none, .mksl true 3 [], 0, 0, false, []⟩,
    ⟨some 2, none, .mov (.t 38), 0, 0, false, []⟩,
    ⟨some 3, none, .mov (.k (.int .i64 0)), 0, 0, false, []⟩])
   (.ret))
   (.skip)))
   (.cutTo [0, 4, 5, 6, 7, 8] (.seq (.seg false [⟨some 39, none, .mov (.t 4), 0, 0, false, []⟩,
    ⟨some 40, none, .load true 3 (.t 7), 0, 0, false, []⟩,
    ⟨some 41, none, .mksl false 3 [.t 40], 0, 0, false, []⟩,
    ⟨some 42, none, .app 3 (.t 39) (.t 41), 0, 0, false, []⟩,
    ⟨some 4, none, .mov (.t 42), 0, 0, false, []⟩])
   (.cutTo [0, 4, 5, 6, 8] (.seg false [⟨some 43, none, .mov (.t 5), 0, 0, false, []⟩,
    ⟨some 44, none, .mov (.t 8), 0, 0, false, []⟩,
    ⟨some 45, none, .bin .add (.t 43) (.t 44), 0, 0, false, []⟩,
    ⟨some 5, none, .mov (.t 45), 0, 0, false, []⟩]))))))))
   (.cutTo [0, 4, 5, 6] (.seg false [⟨some 27, none, .mov (.t 6), 0, 0, false, []⟩,
    ⟨some 28, none, .bin .add (.t 27) (.k (.int .i64 1)), 0, 0, false, []⟩,
    ⟨some 6, none, .mov (.t 28), 0, 0, false, []⟩]))))
def L132x0 : C := B132x0
theorem evL132x0 (run : Run) (draw : List I → Env → Heap → Option (Env × Heap)) (e : Env) (h : Heap) : evC run draw L132x0 e h = evC run draw B132x0 e h := rfl
/-- loop.example/tablehouse/spec.RowFrom -/
def F132 : F := ⟨48, [(false, 2, 0, false), (false, 3, 0, false)],
   .seq (.seg false [⟨some 2, none, .nilrow 3, 0, 0, false, []⟩,
    ⟨some 3, none, .mov (.k (.int .i64 0)), 0, 0, false, []⟩])
   (.seq (.seq (.seg false [⟨some 9, none, .mov (.t 0), 0, 0, false, []⟩,
    ⟨some 10, none, .len false (.t 9), 0, 0, false, []⟩,
    ⟨some 11, none, .bin .eql (.t 10) (.k (.int .i64 0)), 0, 0, false, []⟩,
    ⟨some 12, none, .mov (.t 11), 0, 0, false, []⟩,
    ⟨some 13, some (12, false), .mov (.t 0), 0, 0, false, []⟩,
    ⟨some 14, some (12, false), .iaddr 1 (.t 13) (.k (.int .i64 0)), 0, 0, false, []⟩,
    ⟨some 15, some (12, false), .load false 1 (.t 14), 0, 0, false, []⟩,
    ⟨some 16, some (12, false), .conv (.int .i64) (.t 15), 0, 0, false, []⟩,
    ⟨some 17, some (12, false), .bin .gtr (.t 16) (.k (.int .i64 4)), 0, 0, false, []⟩,
    ⟨some 18, none, .pick (.t 12) (.k (.bool true)) (.t 17), 0, 0, false, []⟩])
   (.cutTo [0, 18] (.cond (.t 18) (.seq (.seg false [⟨some 19, none, .mksl true 3 [], 0, 0, false, []⟩,
    ⟨some 2, none, .mov (.t 19), 0, 0, false, []⟩,
    ⟨some 3, none, .mov (.k (.int .i64 0)), 0, 0, false, []⟩])
   (.ret))
   (.skip))))
   (.cutTo [0] (.seq (.seg false [⟨some 20, none, .mksl true 3 [], 0, 0, false, []⟩,
    ⟨some 4, none, .mov (.t 20), 0, 0, false, []⟩])
   (.seq (.seg false [⟨some 5, none, .mov (.k (.int .i64 1)), 0, 0, false, []⟩])
   (.seq (.seq (.seg false [⟨some 6, none, .mov (.k (.int .i64 0)), 0, 0, false, []⟩])
   (.block 0 (.loop [0, 4, 5, 6] [2, 3, 4, 5] L132x0)))
   (.seq (.seg false [⟨some 46, none, .mov (.t 4), 0, 0, false, []⟩,
    ⟨some 47, none, .mov (.t 5), 0, 0, false, []⟩,
    ⟨some 2, none, .mov (.t 46), 0, 0, false, []⟩,
    ⟨some 3, none, .mov (.t 47), 0, 0, false, []⟩])
   (.cutTo [2, 3] (.ret))))))))⟩
def B120x0 : C := .seq (.seg false [⟨some 9, none, .bin .lss (.t 8) (.t 7), 0, 0, false, []⟩])
   (.seq (.cond (.t 9) (.skip)
   (.exit 0))
   (.seq (.block 1 (.seq (.seg false [⟨some 10, none, .mov (.t 8), 0, 0, false, []⟩,
    ⟨some 11, none, .iaddr 1 (.t 6) (.t 8), 0, 0, false, []⟩,
    ⟨some 12, none, .load false 1 (.t 11), 0, 0, false, []⟩,
    ⟨some 4, none, .mov (.t 10), 0, 0, false, []⟩,
    ⟨some 5, none, .mov (.t 12), 0, 0, false, []⟩])
   (.cutTo [3, 4, 5, 6, 7, 8] (.seg false [⟨some 13, none, .mov (.t 3), 0, 0, false, []⟩,
    ⟨some 14, none, .mov (.t 5), 0, 0, false, []⟩,
    ⟨some 15, none, .conv (.int .i64) (.t 14), 0, 0, false, []⟩,
    ⟨some 16, none, .mov (.t 4), 0, 0, false, []⟩,
    ⟨some 17, none, .bin .add (.t 16) (.k (.int .i64 1)), 0, 0, false, []⟩,
    ⟨some 18, none, .bin .mul (.t 15) (.t 17), 0, 0, false, []⟩,
    ⟨some 19, none, .bin .add (.t 13) (.t 18), 0, 0, false, []⟩,
    ⟨some 20, none, .bin .rem (.t 19) (.k (.int .i64 251)), 0, 0, false, []⟩,
    ⟨some 3, none, .mov (.t 20), 0, 0, false, []⟩]))))
   (.cutTo [3, 6, 7, 8] (.seg false [⟨some 21, none, .bin .add (.t 8) (.k (.int .i64 1)), 0, 0, false, []⟩,
    ⟨some 8, none, .mov (.t 21), 0, 0, false, []⟩]))))
def L120x0 : C := B120x0
theorem evL120x0 (run : Run) (draw : List I → Env → Heap → Option (Env × Heap)) (e : Env) (h : Heap) : evC run draw L120x0 e h = evC run draw B120x0 e h := rfl
/-- loop.example/tablehouse/impl.sumOf -/
def F120 : F := ⟨24, [(false, 2, 0, false)],
   .seq (.seg false [⟨some 2, none, .mov (.k (.int .u8 0)), 0, 0, false, []⟩])
   (.seq (.seg false [⟨some 3, none, .mov (.k (.int .i64 0)), 0, 0, false, []⟩])
   (.seq (.seq (.seg false [⟨some 6, none, .mov (.t 0), 0, 0, false, []⟩,
    ⟨some 7, none, .len false (.t 6), 0, 0, false, []⟩,
    ⟨some 8, none, .mov (.k (.int .i64 0)), 0, 0, false, []⟩])
   (.block 0 (.loop [3, 6, 7, 8] [3] L120x0)))
   (.seq (.seg false [⟨some 22, none, .mov (.t 3), 0, 0, false, []⟩,
    ⟨some 23, none, .conv (.int .u8) (.t 22), 0, 0, false, []⟩,
    ⟨some 2, none, .mov (.t 23), 0, 0, false, []⟩])
   (.ret))))⟩
def E32x0 : List I := [⟨some 24, none, .mov (.t 0), 0, 0, false, []⟩,
    ⟨some 25, none, .iaddr 1 (.t 24) (.k (.int .i64 1)), 0, 0, false, []⟩,
    ⟨some 26, none, .load false 1 (.t 25), 0, 0, false, []⟩,
    ⟨some 27, none, .conv (.int .i64) (.t 26), 0, 0, false, []⟩,
    ⟨some 28, none, .bin .shl (.t 27) (.k (.int .u64 8)), 0, 0, false, []⟩,
    ⟨some 29, none, .mov (.t 0), 0, 0, false, []⟩,
    ⟨some 30, none, .iaddr 1 (.t 29) (.k (.int .i64 2)), 0, 0, false, []⟩,
    ⟨some 31, none, .load false 1 (.t 30), 0, 0, false, []⟩,
    ⟨some 32, none, .conv (.int .i64) (.t 31), 0, 0, false, []⟩,
    ⟨some 33, none, .bin .add (.t 28) (.t 32), 0, 0, false, []⟩,
    ⟨some 34, none, .bin .sub (.t 33) (.k (.int .i64 10000)), 0, 0, false, []⟩,
    ⟨some 35, none, .faddr 1 1 (.t 4), 0, 0, false, []⟩,
    ⟨none, none, .store 1 (.t 35) (.t 34), 0, 0, true, []⟩,
    ⟨some 5, none, .mov (.k (.int .i64 3)), 1, 1, false, []⟩]
def D32x0 : List I := E32x0
theorem evD32x0 (run : Run) (e : Env) (h : Heap) : drawI run D32x0 e h = DrawW (evW run E32x0 e h []) run E32x0 e h := drawI_write run _ e h
/-- loop.example/tablehouse/impl.ValueFrom -/
def F32 : F := ⟨90, [(true, 2, 3, true), (false, 3, 0, false)],
   .seq (.seg false [⟨some 2, none, .alloc [.int .i64 0, .int .i64 0, .str ⟨#[]⟩], 0, 0, false, []⟩,
    ⟨some 3, none, .mov (.k (.int .i64 0)), 0, 0, false, []⟩])
   (.seq (.seq (.seg false [⟨some 6, none, .mov (.t 0), 0, 0, false, []⟩,
    ⟨some 7, none, .len false (.t 6), 0, 0, false, []⟩,
    ⟨some 8, none, .bin .eql (.t 7) (.k (.int .i64 0)), 0, 0, false, []⟩])
   (.cond (.t 8) (.seq (.seg false [⟨some 9, none, .build [.int .i64 0, .int .i64 0, .str ⟨#[]⟩] [], 0, 0, false, []⟩,
    ⟨none, none, .store 3 (.t 2) (.t 9), 0, 0, false, []⟩,
    ⟨some 3, none, .mov (.k (.int .i64 0)), 0, 0, false, []⟩])
   (.ret))
   (.skip)))
   (.cutTo [0, 2] (.seq (.seg false [⟨some 10, none, .mov (.t 0), 0, 0, false, []⟩,
    ⟨some 11, none, .iaddr 1 (.t 10) (.k (.int .i64 0)), 0, 0, false, []⟩,
    ⟨some 12, none, .load false 1 (.t 11), 0, 0, false, []⟩,
    ⟨some 13, none, .conv (.int .i64) (.t 12), 0, 0, false, []⟩,
    ⟨some 14, none, .build [.int .i64 0, .int .i64 0, .str ⟨#[]⟩] [(0, 1, .t 13)], 0, 0, false, []⟩,
    ⟨some 4, none, .alloc [.int .i64 0, .int .i64 0, .str ⟨#[]⟩], 0, 0, false, []⟩,
    ⟨none, none, .store 3 (.t 4) (.t 14), 0, 0, false, []⟩,
    ⟨some 5, none, .mov (.k (.int .i64 1)), 0, 0, false, []⟩])
   (.cutTo [0, 2, 4, 5] (.seq (.block 0 (.seq (.seg false [⟨some 16, none, .faddr 0 1 (.t 4), 0, 0, false, []⟩,
    ⟨some 17, none, .load false 1 (.t 16), 0, 0, false, []⟩,
    ⟨some 18, none, .bin .eql (.t 17) (.k (.int .i64 1)), 0, 0, false, []⟩,
    ⟨some 19, none, .mov (.t 18), 0, 0, false, []⟩,
    ⟨some 20, some (19, true), .mov (.t 0), 0, 0, false, []⟩,
    ⟨some 21, some (19, true), .len false (.t 20), 0, 0, false, []⟩,
    ⟨some 22, some (19, true), .bin .gtr (.t 21) (.k (.int .i64 2)), 0, 0, false, []⟩,
    ⟨some 23, none, .pick (.t 19) (.t 22) (.k (.bool false)), 0, 0, false, []⟩,
    ⟨some 15, none, .mov (.t 23), 0, 0, false, []⟩])
   (.cutTo [0, 2, 4, 5, 15] (.cond (.t 15) (.seg true D32x0)
   (.seq (.seg false [⟨some 37, none, .faddr 0 1 (.t 4), 0, 0, false, []⟩,
    ⟨some 38, none, .load false 1 (.t 37), 0, 0, false, []⟩,
    ⟨some 39, none, .bin .eql (.t 38) (.k (.int .i64 2)), 0, 0, false, []⟩,
    ⟨some 40, none, .mov (.t 39), 0, 0, false, []⟩,
    ⟨some 41, some (40, true), .mov (.t 0), 0, 0, false, []⟩,
    ⟨some 42, some (40, true), .len false (.t 41), 0, 0, false, []⟩,
    ⟨some 43, some (40, true), .bin .gtr (.t 42) (.k (.int .i64 1)), 0, 0, false, []⟩,
    ⟨some 44, none, .pick (.t 40) (.t 43) (.k (.bool false)), 0, 0, false, []⟩,
    ⟨some 45, none, .mov (.t 44), 0, 0, false, []⟩,
    ⟨some 46, some (45, true), .mov (.t 0), 0, 0, false, []⟩,
    ⟨some 47, some (45, true), .len false (.t 46), 0, 0, false, []⟩,
    ⟨some 48, some (45, true), .mov (.t 0), 0, 0, false, []⟩,
    ⟨some 49, some (45, true), .iaddr 1 (.t 48) (.k (.int .i64 1)), 0, 0, false, []⟩,
    ⟨some 50, some (45, true), .load false 1 (.t 49), 0, 0, false, []⟩,
    ⟨some 51, some (45, true), .conv (.int .i64) (.t 50), 0, 0, false, []⟩,
    ⟨some 52, some (45, true), .bin .add (.k (.int .i64 2)) (.t 51), 0, 0, false, []⟩,
    ⟨some 53, some (45, true), .bin .geq (.t 47) (.t 52), 0, 0, false, []⟩,
    ⟨some 54, none, .pick (.t 45) (.t 53) (.k (.bool false)), 0, 0, false, []⟩,
    ⟨some 36, none, .mov (.t 54), 0, 0, false, []⟩])
   (.cutTo [0, 2, 4, 5, 36] (.cond (.t 36) (.seq (.seg false [⟨some 55, none, .mov (.t 0), 0, 0, false, []⟩,
    ⟨some 56, none, .iaddr 1 (.t 55) (.k (.int .i64 1)), 0, 0, false, []⟩,
    ⟨some 57, none, .load false 1 (.t 56), 0, 0, false, []⟩,
    ⟨some 58, none, .conv (.int .i64) (.t 57), 0, 0, false, []⟩,
    ⟨some 59, none, .bin .add (.k (.int .i64 2)) (.t 58), 0, 0, false, []⟩,
    ⟨some 5, none, .mov (.t 59), 0, 0, false, []⟩])
   (.cutTo [0, 2, 4, 5] (.seg false [⟨some 60, none, .mov (.t 0), 0, 0, false, []⟩,
    ⟨some 61, none, .mov (.t 5), 0, 0, false, []⟩,
    ⟨some 62, none, .slc false 1 (.t 60) (some (.k (.int .i64 2))) (some (.t 61)) none, 0, 0, false, []⟩,
    ⟨some 63, none, .conv .toStr (.t 62), 0, 0, false, []⟩,
    ⟨some 64, none, .faddr 2 1 (.t 4), 0, 0, false, []⟩,
    ⟨none, none, .store 1 (.t 64) (.t 63), 0, 0, false, []⟩])))
   (.seq (.seg false [⟨some 66, none, .faddr 0 1 (.t 4), 0, 0, false, []⟩,
    ⟨some 67, none, .load false 1 (.t 66), 0, 0, false, []⟩,
    ⟨some 68, none, .bin .eql (.t 67) (.k (.int .i64 3)), 0, 0, false, []⟩,
    ⟨some 69, none, .mov (.t 68), 0, 0, false, []⟩,
    ⟨some 70, some (69, true), .mov (.t 0), 0, 0, false, []⟩,
    ⟨some 71, some (69, true), .len false (.t 70), 0, 0, false, []⟩,
    ⟨some 72, some (69, true), .bin .gtr (.t 71) (.k (.int .i64 1)), 0, 0, false, []⟩,
    ⟨some 73, none, .pick (.t 69) (.t 72) (.k (.bool false)), 0, 0, false, []⟩,
    ⟨some 65, none, .mov (.t 73), 0, 0, false, []⟩])
   (.cutTo [0, 2, 4, 5, 65] (.cond (.t 65) (.seg false [⟨some 74, none, .mov (.t 0), 0, 0, false, []⟩,
    ⟨some 75, none, .iaddr 1 (.t 74) (.k (.int .i64 1)), 0, 0, false, []⟩,
    ⟨some 76, none, .load false 1 (.t 75), 0, 0, false, []⟩,
    ⟨some 77, none, .conv (.int .i64) (.t 76), 0, 0, false, []⟩,
    ⟨some 78, none, .faddr 1 1 (.t 4), 0, 0, false, []⟩,
    ⟨none, none, .store 1 (.t 78) (.t 77), 0, 0, false, []⟩,
    ⟨some 5, none, .mov (.k (.int .i64 2)), 0, 0, false, []⟩])
   (.seq (.seg false [⟨some 80, none, .faddr 0 1 (.t 4), 0, 0, false, []⟩,
    ⟨some 81, none, .load false 1 (.t 80), 0, 0, false, []⟩,
    ⟨some 82, none, .bin .neq (.t 81) (.k (.int .i64 0)), 0, 0, false, []⟩,
    ⟨some 79, none, .mov (.t 82), 0, 0, false, []⟩])
   (.cutTo [2, 4, 5, 79] (.cond (.t 79) (.seq (.seg false [⟨some 83, none, .build [.int .i64 0, .int .i64 0, .str ⟨#[]⟩] [], 0, 0, false, []⟩,
    ⟨none, none, .store 3 (.t 2) (.t 83), 0, 0, false, []⟩,
    ⟨some 3, none, .mov (.k (.int .i64 0)), 0, 0, false, []⟩])
   (.ret))
   (.skip))))))))))))))
   (.cutTo [2, 4, 5] (.seq (.seq (.seg false [⟨some 84, none, .load true 3 (.t 4), 0, 0, false, []⟩,
    ⟨some 85, none, .call 82 [.t 84] false false, 0, 0, false, []⟩,
    ⟨some 86, none, .un .not (.t 85), 0, 0, false, []⟩])
   (.cond (.t 86) (.seq (.seg false [⟨some 87, none, .build [.int .i64 0, .int .i64 0, .str ⟨#[]⟩] [], 0, 0, false, []⟩,
    ⟨none, none, .store 3 (.t 2) (.t 87), 0, 0, false, []⟩,
    ⟨some 3, none, .mov (.k (.int .i64 0)), 0, 0, false, []⟩])
   (.ret))
   (.skip)))
   (.cutTo [2, 4, 5] (.seq (.seg false [⟨some 88, none, .load true 3 (.t 4), 0, 0, false, []⟩,
    ⟨some 89, none, .mov (.t 5), 0, 0, false, []⟩,
    ⟨none, none, .store 3 (.t 2) (.t 88), 0, 0, false, []⟩,
    ⟨some 3, none, .mov (.t 89), 0, 0, false, []⟩])
   (.cutTo [2, 3] (.ret)))))))))))⟩
/-- loop.example/tablehouse/impl.clone<loop.example/tablehouse/impl.Value> -/
def F81 : F := ⟨9, [(false, 2, 0, false)],
   .seq (.seg false [⟨some 2, none, .mov (.k (.sl true 3 [])), 0, 0, false, []⟩])
   (.seq (.seq (.seg false [⟨some 3, none, .mov (.t 0), 0, 0, false, []⟩,
    ⟨some 4, none, .len false (.t 3), 0, 0, false, []⟩,
    ⟨some 5, none, .bin .eql (.t 4) (.k (.int .i64 0)), 0, 0, false, []⟩])
   (.cond (.t 5) (.seq (.seg false [⟨some 2, none, .mov (.k (.sl true 3 [])), 0, 0, false, []⟩])
   (.ret))
   (.skip)))
   (.cutTo [0] (.seq (.seg false [⟨some 6, none, .mov (.t 0), 0, 0, false, []⟩,
    ⟨some 7, none, .app 3 (.k (.sl true 3 [])) (.t 6), 0, 0, false, []⟩,
    ⟨some 8, none, .callx 2 123 [.t 7], 0, 0, false, []⟩,
    ⟨some 2, none, .mov (.t 8), 0, 0, false, []⟩])
   (.cutTo [2] (.ret)))))⟩
/-- slices.Clip<<>loop.example/tablehouse/impl.Write,loop.example/tablehouse/impl.Write> -/
def F121 : F := ⟨9, [(false, 2, 0, false)],
   .seq (.seg false [⟨some 2, none, .mov (.k (.sl true 3 [])), 0, 0, false, []⟩])
   (.seq (.seg false [⟨some 3, none, .mov (.t 0), 0, 0, false, []⟩,
    ⟨some 4, none, .mov (.t 0), 0, 0, false, []⟩,
    ⟨some 5, none, .len false (.t 4), 0, 0, false, []⟩,
    ⟨some 6, none, .mov (.t 0), 0, 0, false, []⟩,
    ⟨some 7, none, .len false (.t 6), 0, 0, false, []⟩,
    ⟨some 8, none, .slc false 3 (.t 3) none (some (.t 5)) (some (.t 7)), 0, 0, false, []⟩,
    ⟨some 2, none, .mov (.t 8), 0, 0, false, []⟩])
   (.cutTo [2] (.ret)))⟩
def B143x0 : C := .seq (.seq (.seg false [⟨some 12, none, .mov (.t 5), 0, 0, false, []⟩,
    ⟨some 13, none, .mov (.t 0), 0, 0, false, []⟩,
    ⟨some 14, none, .len false (.t 13), 0, 0, false, []⟩,
    ⟨some 15, none, .bin .lss (.t 12) (.t 14), 0, 0, false, []⟩])
   (.cutTo [0, 1, 5, 15] (.cond (.t 15) (.skip)
   (.exit 0))))
   (.cutTo [0, 1, 5] (.seq (.block 1 (.seq (.seg false [⟨some 18, none, .mov (.t 0), 0, 0, false, []⟩,
    ⟨some 19, none, .mov (.t 5), 0, 0, false, []⟩,
    ⟨some 20, none, .iaddr 3 (.t 18) (.t 19), 0, 0, false, []⟩,
    ⟨some 21, none, .load true 3 (.t 20), 0, 0, false, []⟩,
    ⟨some 22, none, .mov (.t 1), 0, 0, false, []⟩,
    ⟨some 23, none, .call 156 [.t 21, .t 22] false false, 0, 0, false, []⟩,
    ⟨some 1, none, .mov (.t 23), 0, 0, false, []⟩])
   (.cutTo [0, 1, 5] (.seq (.seg false [⟨some 24, none, .mov (.t 1), 0, 0, false, []⟩,
    ⟨some 25, none, .bin .lss (.t 24) (.k (.int .i64 0)), 0, 0, false, []⟩])
   (.cond (.t 25) (.seq (.seg false [⟨some 4, none, .mov (.k (.int .i64 (-1))), 0, 0, false, []⟩])
   (.ret))
   (.skip))))))
   (.cutTo [0, 1, 5] (.seg false [⟨some 16, none, .mov (.t 5), 0, 0, false, []⟩,
    ⟨some 17, none, .bin .add (.t 16) (.k (.int .i64 1)), 0, 0, false, []⟩,
    ⟨some 5, none, .mov (.t 17), 0, 0, false, []⟩]))))
def L143x0 : C := B143x0
theorem evL143x0 (run : Run) (draw : List I → Env → Heap → Option (Env × Heap)) (e : Env) (h : Heap) : evC run draw L143x0 e h = evC run draw B143x0 e h := rfl
/-- loop.example/tablehouse/laws.szValueS -/
def F143 : F := ⟨27, [(false, 4, 0, false)],
   .seq (.seg false [⟨some 4, none, .mov (.k (.int .i64 0)), 0, 0, false, []⟩])
   (.seq (.seg false [⟨some 6, none, .mov (.t 1), 0, 0, false, []⟩,
    ⟨some 7, none, .mov (.t 0), 0, 0, false, []⟩,
    ⟨some 8, none, .len false (.t 7), 0, 0, false, []⟩,
    ⟨some 9, none, .bin .sub (.t 6) (.t 8), 0, 0, false, []⟩,
    ⟨some 1, none, .mov (.t 9), 0, 0, false, []⟩])
   (.cutTo [0, 1] (.seq (.seq (.seg false [⟨some 10, none, .mov (.t 1), 0, 0, false, []⟩,
    ⟨some 11, none, .bin .lss (.t 10) (.k (.int .i64 0)), 0, 0, false, []⟩])
   (.cond (.t 11) (.seq (.seg false [⟨some 4, none, .mov (.k (.int .i64 (-1))), 0, 0, false, []⟩])
   (.ret))
   (.skip)))
   (.seq (.seq (.seg false [⟨some 5, none, .mov (.k (.int .i64 0)), 0, 0, false, []⟩])
   (.block 0 (.loop [0, 1, 5] [1, 4] L143x0)))
   (.seq (.seg false [⟨some 26, none, .mov (.t 1), 0, 0, false, []⟩,
    ⟨some 4, none, .mov (.t 26), 0, 0, false, []⟩])
   (.ret))))))⟩
def B146x0 : C := .seq (.seq (.seg false [⟨some 8, none, .mov (.t 4), 0, 0, false, []⟩,
    ⟨some 9, none, .mov (.t 0), 0, 0, false, []⟩,
    ⟨some 10, none, .len false (.t 9), 0, 0, false, []⟩,
    ⟨some 11, none, .bin .lss (.t 8) (.t 10), 0, 0, false, []⟩])
   (.cutTo [0, 3, 4, 11] (.cond (.t 11) (.skip)
   (.exit 0))))
   (.cutTo [0, 3, 4] (.seq (.block 1 (.seg false [⟨some 14, none, .mov (.t 3), 0, 0, false, []⟩,
    ⟨some 15, none, .mov (.t 4), 0, 0, false, []⟩,
    ⟨some 16, none, .mov (.t 0), 0, 0, false, []⟩,
    ⟨some 17, none, .mov (.t 4), 0, 0, false, []⟩,
    ⟨some 18, none, .iaddr 3 (.t 16) (.t 17), 0, 0, false, []⟩,
    ⟨some 19, none, .load true 3 (.t 18), 0, 0, false, []⟩,
    ⟨some 20, none, .callx 0 158 [.t 19], 0, 0, false, []⟩,
    ⟨some 21, none, .iaddr 3 (.t 14) (.t 15), 0, 0, false, []⟩,
    ⟨none, none, .store 3 (.t 21) (.t 20), 0, 0, false, []⟩]))
   (.cutTo [0, 3, 4] (.seg false [⟨some 12, none, .mov (.t 4), 0, 0, false, []⟩,
    ⟨some 13, none, .bin .add (.t 12) (.k (.int .i64 1)), 0, 0, false, []⟩,
    ⟨some 4, none, .mov (.t 13), 0, 0, false, []⟩]))))
def L146x0 : C := B146x0
theorem evL146x0 (run : Run) (draw : List I → Env → Heap → Option (Env × Heap)) (e : Env) (h : Heap) : evC run draw L146x0 e h = evC run draw B146x0 e h := rfl
/-- loop.example/tablehouse/laws.toValueS -/
def F146 : F := ⟨23, [(false, 2, 0, false)],
   .seq (.seg false [⟨some 2, none, .mov (.k (.sl true 3 [])), 0, 0, false, []⟩])
   (.seq (.seg false [⟨some 5, none, .mov (.t 0), 0, 0, false, []⟩,
    ⟨some 6, none, .len false (.t 5), 0, 0, false, []⟩,
    ⟨some 7, none, .mk 3 [.int .i64 0, .int .i64 0, .str ⟨#[]⟩] (.t 6), 0, 0, false, []⟩,
    ⟨some 3, none, .mov (.t 7), 0, 0, false, []⟩])
   (.cutTo [0, 3] (.seq (.seq (.seg false [⟨some 4, none, .mov (.k (.int .i64 0)), 0, 0, false, []⟩])
   (.block 0 (.loopk [0, 3, 4] [3] L146x0)))
   (.seq (.seg false [⟨some 22, none, .mov (.t 3), 0, 0, false, []⟩,
    ⟨some 2, none, .mov (.t 22), 0, 0, false, []⟩])
   (.ret)))))⟩
def B144x0 : C := .seq (.seq (.seg false [⟨some 4, none, .mov (.t 3), 0, 0, false, []⟩,
    ⟨some 5, none, .mov (.t 0), 0, 0, false, []⟩,
    ⟨some 6, none, .len false (.t 5), 0, 0, false, []⟩,
    ⟨some 7, none, .bin .lss (.t 4) (.t 6), 0, 0, false, []⟩])
   (.cutTo [0, 3, 7] (.cond (.t 7) (.skip)
   (.exit 0))))
   (.cutTo [0, 3] (.seq (.block 1 (.seq (.seg false [⟨some 10, none, .mov (.t 0), 0, 0, false, []⟩,
    ⟨some 11, none, .mov (.t 3), 0, 0, false, []⟩,
    ⟨some 12, none, .iaddr 3 (.t 10) (.t 11), 0, 0, false, []⟩,
    ⟨some 13, none, .load true 3 (.t 12), 0, 0, false, []⟩,
    ⟨some 14, none, .call 157 [.t 13] false false, 0, 0, false, []⟩,
    ⟨some 15, none, .un .not (.t 14), 0, 0, false, []⟩])
   (.cutTo [0, 3, 15] (.cond (.t 15) (.seq (.seg false [⟨some 2, none, .mov (.k (.bool false)), 0, 0, false, []⟩])
   (.ret))
   (.skip)))))
   (.cutTo [0, 3] (.seg false [⟨some 8, none, .mov (.t 3), 0, 0, false, []⟩,
    ⟨some 9, none, .bin .add (.t 8) (.k (.int .i64 1)), 0, 0, false, []⟩,
    ⟨some 3, none, .mov (.t 9), 0, 0, false, []⟩]))))
def L144x0 : C := B144x0
theorem evL144x0 (run : Run) (draw : List I → Env → Heap → Option (Env × Heap)) (e : Env) (h : Heap) : evC run draw L144x0 e h = evC run draw B144x0 e h := rfl
/-- loop.example/tablehouse/spec.RowOk -/
def F144 : F := ⟨19, [(false, 2, 0, false)],
   .seq (.seg false [⟨some 2, none, .mov (.k (.bool false)), 0, 0, false, []⟩])
   (.seq (.seq (.seg false [⟨some 3, none, .mov (.k (.int .i64 0)), 0, 0, false, []⟩])
   (.block 0 (.loop [0, 3] [0, 2] L144x0)))
   (.seq (.seg false [⟨some 16, none, .mov (.t 0), 0, 0, false, []⟩,
    ⟨some 17, none, .len false (.t 16), 0, 0, false, []⟩,
    ⟨some 18, none, .bin .leq (.t 17) (.k (.int .i64 4)), 0, 0, false, []⟩,
    ⟨some 2, none, .mov (.t 18), 0, 0, false, []⟩])
   (.cutTo [2] (.ret))))⟩
def E145x0 : List I := [⟨some 31, none, .mov (.t 3), 0, 0, false, [3]⟩,
    ⟨some 32, none, .faddr 2 1 (.t 1), 0, 0, false, []⟩,
    ⟨some 33, none, .load false 1 (.t 32), 0, 0, false, []⟩,
    ⟨some 34, none, .len true (.t 33), 0, 0, false, []⟩,
    ⟨some 35, none, .conv (.int .u8) (.t 34), 0, 0, false, []⟩,
    ⟨some 36, none, .mksl false 1 [.t 35], 0, 0, false, []⟩,
    ⟨some 37, none, .app 1 (.t 31) (.t 36), 0, 0, true, []⟩,
    ⟨some 38, none, .faddr 2 1 (.t 1), 0, 1, false, []⟩,
    ⟨some 39, none, .load false 1 (.t 38), 0, 1, false, []⟩,
    ⟨some 40, none, .conv .toBytes (.t 39), 0, 1, false, []⟩,
    ⟨some 41, none, .app 1 (.t 37) (.t 40), 1, 0, true, []⟩,
    ⟨some 3, none, .mov (.t 41), 2, 2, false, []⟩]
def D145x0 : List I := E145x0
theorem evD145x0 (run : Run) (e : Env) (h : Heap) : drawI run D145x0 e h = DrawW (evW run E145x0 e h []) run E145x0 e h := drawI_write run _ e h
/-- loop.example/tablehouse/spec.ValueBytes -/
def F145 : F := ⟨51, [(false, 2, 0, false)],
   .seq (.seg false [⟨some 1, none, .box (.t 0), 0, 0, false, []⟩,
    ⟨some 2, none, .nilrow 1, 0, 0, false, []⟩])
   (.seq (.seq (.seg false [⟨some 4, none, .load true 3 (.t 1), 0, 0, false, []⟩,
    ⟨some 5, none, .call 157 [.t 4] false false, 0, 0, false, []⟩,
    ⟨some 6, none, .un .not (.t 5), 0, 0, false, []⟩])
   (.cond (.t 6) (.seq (.seg false [⟨some 7, none, .mksl true 1 [], 0, 0, false, []⟩,
    ⟨some 2, none, .mov (.t 7), 0, 0, false, []⟩])
   (.ret))
   (.skip)))
   (.cutTo [1] (.seq (.seg false [⟨some 8, none, .faddr 0 1 (.t 1), 0, 0, false, []⟩,
    ⟨some 9, none, .load false 1 (.t 8), 0, 0, false, []⟩,
    ⟨some 10, none, .conv (.int .u8) (.t 9), 0, 0, false, []⟩,
    ⟨some 11, none, .mksl true 1 [.t 10], 0, 0, false, []⟩,
    ⟨some 3, none, .mov (.t 11), 0, 0, false, []⟩])
   (.cutTo [1, 3] (.seq (.seq (.seg false [⟨some 12, none, .faddr 0 1 (.t 1), 0, 0, false, []⟩,
    ⟨some 13, none, .load false 1 (.t 12), 0, 0, false, []⟩])
   (.block 0 (.seq (.seg false [⟨some 15, none, .bin .eql (.t 13) (.k (.int .i64 1)), 0, 0, false, []⟩,
    ⟨some 14, none, .mov (.t 15), 0, 0, false, []⟩])
   (.cond (.t 14) (.seg false [⟨some 16, none, .mov (.t 3), 0, 0, false, []⟩,
    ⟨some 17, none, .faddr 1 1 (.t 1), 0, 0, false, []⟩,
    ⟨some 18, none, .load false 1 (.t 17), 0, 0, false, []⟩,
    ⟨some 19, none, .bin .add (.t 18) (.k (.int .i64 10000)), 0, 0, false, []⟩,
    ⟨some 20, none, .bin .quo (.t 19) (.k (.int .i64 256)), 0, 0, false, []⟩,
    ⟨some 21, none, .conv (.int .u8) (.t 20), 0, 0, false, []⟩,
    ⟨some 22, none, .faddr 1 1 (.t 1), 0, 0, false, []⟩,
    ⟨some 23, none, .load false 1 (.t 22), 0, 0, false, []⟩,
    ⟨some 24, none, .bin .add (.t 23) (.k (.int .i64 10000)), 0, 0, false, []⟩,
    ⟨some 25, none, .bin .rem (.t 24) (.k (.int .i64 256)), 0, 0, false, []⟩,
    ⟨some 26, none, .conv (.int .u8) (.t 25), 0, 0, false, []⟩,
    ⟨some 27, none, .mksl false 1 [.t 21, .t 26], 0, 0, false, []⟩,
    ⟨some 28, none, .app 1 (.t 16) (.t 27), 0, 0, false, []⟩,
    ⟨some 3, none, .mov (.t 28), 0, 0, false, []⟩])
   (.seq (.seg false [⟨some 30, none, .bin .eql (.t 13) (.k (.int .i64 2)), 0, 0, false, []⟩,
    ⟨some 29, none, .mov (.t 30), 0, 0, false, []⟩])
   (.cond (.t 29) (.seg true D145x0)
   (.seq (.seg false [⟨some 43, none, .bin .eql (.t 13) (.k (.int .i64 3)), 0, 0, false, []⟩,
    ⟨some 42, none, .mov (.t 43), 0, 0, false, []⟩])
   (.cond (.t 42) (.seg false [⟨some 44, none, .mov (.t 3), 0, 0, false, []⟩,
    ⟨some 45, none, .faddr 1 1 (.t 1), 0, 0, false, []⟩,
    ⟨some 46, none, .load false 1 (.t 45), 0, 0, false, []⟩,
    ⟨some 47, none, .conv (.int .u8) (.t 46), 0, 0, false, []⟩,
    ⟨some 48, none, .mksl false 1 [.t 47], 0, 0, false, []⟩,
    ⟨some 49, none, .app 1 (.t 44) (.t 48), 0, 0, false, []⟩,
    ⟨some 3, none, .mov (.t 49), 0, 0, false, []⟩])
   (.skip)))))))))
   (.cutTo [3] (.seq (.seg false [⟨some 50, none, .mov (.t 3), 0, 0, false, []⟩,
    ⟨some 2, none, .mov (.t 50), 0, 0, false, []⟩])
   (.ret))))))))⟩
/-- loop.example/tablehouse/impl.keyOk -/
def F119 : F := ⟨5, [(false, 2, 0, false)],
   .seq (.seg false [⟨some 2, none, .mov (.k (.bool false)), 0, 0, false, []⟩])
   (.seq (.seg false [⟨some 3, none, .mov (.t 0), 0, 0, false, []⟩,
    ⟨some 4, none, .call 72 [.t 3, .k (.int .i64 0), .k (.int .i64 4)] false false, 0, 0, false, []⟩,
    ⟨some 2, none, .mov (.t 4), 0, 0, false, []⟩])
   (.ret))⟩
/-- loop.example/tablehouse/impl.RowOk -/
def F83 : F := ⟨11, [(false, 2, 0, false)],
   .seq (.seg false [⟨some 2, none, .mov (.k (.bool false)), 0, 0, false, []⟩])
   (.seq (.seg false [⟨some 3, none, .mov (.t 0), 0, 0, false, []⟩,
    ⟨some 4, none, .len false (.t 3), 0, 0, false, []⟩,
    ⟨some 5, none, .bin .leq (.t 4) (.k (.int .i64 4)), 0, 0, false, []⟩,
    ⟨some 6, none, .mov (.t 5), 0, 0, false, []⟩,
    ⟨some 7, some (6, true), .mov (.t 0), 0, 0, false, []⟩,
    ⟨some 8, some (6, true), .call 125 [.t 7, .k (.clo 126 [])] true false, 0, 0, false, []⟩,
    ⟨some 9, some (6, true), .un .not (.t 8), 0, 0, false, []⟩,
    ⟨some 10, none, .pick (.t 6) (.t 9) (.k (.bool false)), 0, 0, false, []⟩,
    ⟨some 2, none, .mov (.t 10), 0, 0, false, []⟩])
   (.cutTo [2] (.ret)))⟩
def E84x0 : List I := [⟨some 26, none, .mov (.t 3), 0, 0, false, [3]⟩,
    ⟨some 27, none, .faddr 2 1 (.t 1), 0, 0, false, []⟩,
    ⟨some 28, none, .load false 1 (.t 27), 0, 0, false, []⟩,
    ⟨some 29, none, .len true (.t 28), 0, 0, false, []⟩,
    ⟨some 30, none, .conv (.int .u8) (.t 29), 0, 0, false, []⟩,
    ⟨some 31, none, .mksl false 1 [.t 30], 0, 0, false, []⟩,
    ⟨some 32, none, .app 1 (.t 26) (.t 31), 0, 0, true, []⟩,
    ⟨some 33, none, .faddr 2 1 (.t 1), 0, 1, false, []⟩,
    ⟨some 34, none, .load false 1 (.t 33), 0, 1, false, []⟩,
    ⟨some 35, none, .apps (.t 32) (.t 34), 1, 0, true, []⟩,
    ⟨some 3, none, .mov (.t 35), 2, 2, false, []⟩]
def D84x0 : List I := E84x0
theorem evD84x0 (run : Run) (e : Env) (h : Heap) : drawI run D84x0 e h = DrawW (evW run E84x0 e h []) run E84x0 e h := drawI_write run _ e h
/-- (loop.example/tablehouse/impl.Value).bytes -/
def F84 : F := ⟨45, [(false, 2, 0, false)],
   .seq (.seg false [⟨some 1, none, .box (.t 0), 0, 0, false, []⟩,
    ⟨some 2, none, .nilrow 1, 0, 0, false, []⟩])
   (.seq (.seg false [⟨some 5, none, .faddr 0 1 (.t 1), 0, 0, false, []⟩,
    ⟨some 6, none, .load false 1 (.t 5), 0, 0, false, []⟩,
    ⟨some 7, none, .conv (.int .u8) (.t 6), 0, 0, false, []⟩,
    ⟨some 8, none, .mksl true 1 [.t 7], 0, 0, false, []⟩,
    ⟨some 3, none, .mov (.t 8), 0, 0, false, []⟩])
   (.cutTo [1, 3] (.seq (.seq (.seg false [⟨some 9, none, .faddr 0 1 (.t 1), 0, 0, false, []⟩,
    ⟨some 10, none, .load false 1 (.t 9), 0, 0, false, []⟩])
   (.block 0 (.seq (.seg false [⟨some 12, none, .bin .eql (.t 10) (.k (.int .i64 1)), 0, 0, false, []⟩,
    ⟨some 11, none, .mov (.t 12), 0, 0, false, []⟩])
   (.cond (.t 11) (.seq (.seg false [⟨some 13, none, .faddr 1 1 (.t 1), 0, 0, false, []⟩,
    ⟨some 14, none, .load false 1 (.t 13), 0, 0, false, []⟩,
    ⟨some 15, none, .bin .add (.t 14) (.k (.int .i64 10000)), 0, 0, false, []⟩,
    ⟨some 4, none, .mov (.t 15), 0, 0, false, []⟩])
   (.cutTo [3, 4] (.seg false [⟨some 16, none, .mov (.t 3), 0, 0, false, []⟩,
    ⟨some 17, none, .mov (.t 4), 0, 0, false, []⟩,
    ⟨some 18, none, .bin .shr (.t 17) (.k (.int .u64 8)), 0, 0, false, []⟩,
    ⟨some 19, none, .conv (.int .u8) (.t 18), 0, 0, false, []⟩,
    ⟨some 20, none, .mov (.t 4), 0, 0, false, []⟩,
    ⟨some 21, none, .conv (.int .u8) (.t 20), 0, 0, false, []⟩,
    ⟨some 22, none, .mksl false 1 [.t 19, .t 21], 0, 0, false, []⟩,
    ⟨some 23, none, .app 1 (.t 16) (.t 22), 0, 0, false, []⟩,
    ⟨some 3, none, .mov (.t 23), 0, 0, false, []⟩])))
   (.seq (.seg false [⟨some 25, none, .bin .eql (.t 10) (.k (.int .i64 2)), 0, 0, false, []⟩,
    ⟨some 24, none, .mov (.t 25), 0, 0, false, []⟩])
   (.cond (.t 24) (.seg true D84x0)
   (.seq (.seg false [⟨some 37, none, .bin .eql (.t 10) (.k (.int .i64 3)), 0, 0, false, []⟩,
    ⟨some 36, none, .mov (.t 37), 0, 0, false, []⟩])
   (.cond (.t 36) (.seg false [⟨some 38, none, .mov (.t 3), 0, 0, false, []⟩,
    ⟨some 39, none, .faddr 1 1 (.t 1), 0, 0, false, []⟩,
    ⟨some 40, none, .load false 1 (.t 39), 0, 0, false, []⟩,
    ⟨some 41, none, .conv (.int .u8) (.t 40), 0, 0, false, []⟩,
    ⟨some 42, none, .mksl false 1 [.t 41], 0, 0, false, []⟩,
    ⟨some 43, none, .app 1 (.t 38) (.t 42), 0, 0, false, []⟩,
    ⟨some 3, none, .mov (.t 43), 0, 0, false, []⟩])
   (.skip)))))))))
   (.cutTo [3] (.seq (.seg false [⟨some 44, none, .mov (.t 3), 0, 0, false, []⟩,
    ⟨some 2, none, .mov (.t 44), 0, 0, false, []⟩])
   (.ret))))))⟩
def E147x0 : List I := [⟨some 17, none, .mov (.t 0), 0, 0, false, []⟩,
    ⟨some 18, none, .mov (.t 5), 0, 0, false, []⟩,
    ⟨some 19, none, .iaddr 3 (.t 17) (.t 18), 0, 0, false, []⟩,
    ⟨some 20, none, .load true 3 (.t 19), 0, 0, false, []⟩,
    ⟨some 21, none, .mov (.t 1), 0, 0, false, []⟩,
    ⟨some 22, none, .mov (.t 5), 0, 0, false, []⟩,
    ⟨some 23, none, .iaddr 3 (.t 21) (.t 22), 0, 0, false, []⟩,
    ⟨some 24, none, .load true 3 (.t 23), 0, 0, false, []⟩,
    ⟨some 25, none, .call 159 [.t 20, .t 24] false false, 0, 0, false, []⟩,
    ⟨some 26, none, .un .not (.t 25), 0, 0, false, []⟩]
def D147x0 : List I := E147x0
theorem evD147x0 (run : Run) (e : Env) (h : Heap) : drawI run D147x0 e h = DrawS (evQ run E147x0 e h) run E147x0 e h := drawI_quiet run _ (by rfl) e h
def B147x0 : C := .seq (.seq (.seg false [⟨some 11, none, .mov (.t 5), 0, 0, false, []⟩,
    ⟨some 12, none, .mov (.t 0), 0, 0, false, []⟩,
    ⟨some 13, none, .len false (.t 12), 0, 0, false, []⟩,
    ⟨some 14, none, .bin .lss (.t 11) (.t 13), 0, 0, false, []⟩])
   (.cutTo [0, 1, 5, 14] (.cond (.t 14) (.skip)
   (.exit 0))))
   (.cutTo [0, 1, 5] (.seq (.block 1 (.seq (.seg true D147x0)
   (.cutTo [0, 1, 5, 26] (.cond (.t 26) (.seq (.seg false [⟨some 4, none, .mov (.k (.bool false)), 0, 0, false, []⟩])
   (.ret))
   (.skip)))))
   (.cutTo [0, 1, 5] (.seg false [⟨some 15, none, .mov (.t 5), 0, 0, false, []⟩,
    ⟨some 16, none, .bin .add (.t 15) (.k (.int .i64 1)), 0, 0, false, []⟩,
    ⟨some 5, none, .mov (.t 16), 0, 0, false, []⟩]))))
def L147x0 : C := B147x0
theorem evL147x0 (run : Run) (draw : List I → Env → Heap → Option (Env × Heap)) (e : Env) (h : Heap) : evC run draw L147x0 e h = evC run draw B147x0 e h := rfl
/-- loop.example/tablehouse/laws.eqValueS -/
def F147 : F := ⟨27, [(false, 4, 0, false)],
   .seq (.seg false [⟨some 4, none, .mov (.k (.bool false)), 0, 0, false, []⟩])
   (.seq (.seq (.seg false [⟨some 6, none, .mov (.t 0), 0, 0, false, []⟩,
    ⟨some 7, none, .len false (.t 6), 0, 0, false, []⟩,
    ⟨some 8, none, .mov (.t 1), 0, 0, false, []⟩,
    ⟨some 9, none, .len false (.t 8), 0, 0, false, []⟩,
    ⟨some 10, none, .bin .neq (.t 7) (.t 9), 0, 0, false, []⟩])
   (.cutTo [0, 1, 10] (.cond (.t 10) (.seq (.seg false [⟨some 4, none, .mov (.k (.bool false)), 0, 0, false, []⟩])
   (.ret))
   (.skip))))
   (.cutTo [0, 1] (.seq (.seq (.seg false [⟨some 5, none, .mov (.k (.int .i64 0)), 0, 0, false, []⟩])
   (.block 0 (.loop [0, 1, 5] [4] L147x0)))
   (.seq (.seg false [⟨some 4, none, .mov (.k (.bool true)), 0, 0, false, []⟩])
   (.ret)))))⟩
def B148x0 : C := .seq (.seq (.seg false [⟨some 6, none, .mov (.t 0), 0, 0, false, []⟩,
    ⟨some 7, none, .bin .gtr (.t 6) (.k (.int .i64 0)), 0, 0, false, []⟩])
   (.cond (.t 7) (.skip)
   (.exit 0)))
   (.block 1 (.seq (.seg false [⟨some 8, none, .mov (.t 0), 0, 0, false, []⟩,
    ⟨some 9, none, .bin .rem (.t 8) (.k (.int .i64 10)), 0, 0, false, []⟩,
    ⟨some 10, none, .bin .add (.k (.int .i64 48)) (.t 9), 0, 0, false, []⟩,
    ⟨some 11, none, .conv (.int .u8) (.t 10), 0, 0, false, []⟩,
    ⟨some 12, none, .mksl false 1 [.t 11], 0, 0, false, []⟩,
    ⟨some 13, none, .conv .toStr (.t 12), 0, 0, false, []⟩,
    ⟨some 14, none, .mov (.t 3), 0, 0, false, []⟩,
    ⟨some 15, none, .bin .add (.t 13) (.t 14), 0, 0, false, []⟩,
    ⟨some 3, none, .mov (.t 15), 0, 0, false, []⟩])
   (.cutTo [0, 3] (.seg false [⟨some 16, none, .mov (.t 0), 0, 0, false, []⟩,
    ⟨some 17, none, .bin .quo (.t 16) (.k (.int .i64 10)), 0, 0, false, []⟩,
    ⟨some 0, none, .mov (.t 17), 0, 0, false, []⟩]))))
def L148x0 : C := B148x0
theorem evL148x0 (run : Run) (draw : List I → Env → Heap → Option (Env × Heap)) (e : Env) (h : Heap) : evC run draw L148x0 e h = evC run draw B148x0 e h := rfl
/-- loop.example/tablehouse/laws.markText -/
def F148 : F := ⟨20, [(false, 2, 0, false)],
   .seq (.seg false [⟨some 2, none, .mov (.k (.str ⟨#[]⟩)), 0, 0, false, []⟩])
   (.seq (.seq (.seg false [⟨some 4, none, .mov (.t 0), 0, 0, false, []⟩,
    ⟨some 5, none, .bin .leq (.t 4) (.k (.int .i64 0)), 0, 0, false, []⟩])
   (.cond (.t 5) (.seq (.seg false [⟨some 2, none, .mov (.k (.str ⟨#[109, 48]⟩)), 0, 0, false, []⟩])
   (.ret))
   (.skip)))
   (.seq (.seg false [⟨some 3, none, .mov (.k (.str ⟨#[]⟩)), 0, 0, false, []⟩])
   (.seq (.block 0 (.loop [0, 3] [3] L148x0))
   (.seq (.seg false [⟨some 18, none, .mov (.t 3), 0, 0, false, []⟩,
    ⟨some 19, none, .bin .add (.k (.str ⟨#[109]⟩)) (.t 18), 0, 0, false, []⟩,
    ⟨some 2, none, .mov (.t 19), 0, 0, false, []⟩])
   (.ret)))))⟩
/-- loop.example/tablehouse/spec.l3Own -/
def F152 : F := ⟨6, [(false, 2, 0, false)],
   .seq (.seg false [⟨some 2, none, .nilrow 3, 0, 0, false, []⟩])
   (.seq (.seg false [⟨some 3, none, .mksl true 3 [], 0, 0, false, []⟩,
    ⟨some 4, none, .mov (.t 0), 0, 0, false, []⟩,
    ⟨some 5, none, .app 3 (.t 3) (.t 4), 0, 0, false, []⟩,
    ⟨some 2, none, .mov (.t 5), 0, 0, false, []⟩])
   (.cutTo [2] (.ret)))⟩
def B153x0 : C := .seq (.seg false [⟨some 9, none, .bin .lss (.t 8) (.t 7), 0, 0, false, []⟩])
   (.seq (.cond (.t 9) (.skip)
   (.exit 0))
   (.seq (.block 1 (.seq (.seg false [⟨some 10, none, .mov (.t 8), 0, 0, false, []⟩,
    ⟨some 5, none, .mov (.t 10), 0, 0, false, []⟩])
   (.seq (.seg false [⟨some 11, none, .mov (.t 1), 0, 0, false, []⟩,
    ⟨some 12, none, .mov (.t 0), 0, 0, false, []⟩,
    ⟨some 13, none, .mov (.t 5), 0, 0, false, []⟩,
    ⟨some 14, none, .iaddr 2 (.t 12) (.t 13), 0, 0, false, []⟩,
    ⟨some 15, none, .load true 2 (.t 14), 0, 0, false, []⟩,
    ⟨some 16, none, .callv (.t 11) [.t 15] false, 0, 0, false, []⟩])
   (.cutTo [0, 1, 5, 7, 8, 16] (.cond (.t 16) (.seq (.seg false [⟨some 17, none, .mov (.t 5), 0, 0, false, []⟩,
    ⟨some 4, none, .mov (.t 17), 0, 0, false, []⟩])
   (.ret))
   (.skip))))))
   (.cutTo [0, 1, 7, 8] (.seg false [⟨some 18, none, .bin .add (.t 8) (.k (.int .i64 1)), 0, 0, false, []⟩,
    ⟨some 8, none, .mov (.t 18), 0, 0, false, []⟩]))))
def L153x0 : C := B153x0
theorem evL153x0 (run : Run) (draw : List I → Env → Heap → Option (Env × Heap)) (e : Env) (h : Heap) : evC run draw L153x0 e h = evC run draw B153x0 e h := rfl
/-- slices.IndexFunc<<>loop.example/tablehouse/impl.Entry,loop.example/tablehouse/impl.Entry> -/
def F153 : F := ⟨19, [(false, 4, 0, false)],
   .seq (.seg false [⟨some 4, none, .mov (.k (.int .i64 0)), 0, 0, false, []⟩])
   (.seq (.seq (.seg false [⟨some 6, none, .mov (.t 0), 0, 0, false, []⟩,
    ⟨some 7, none, .len false (.t 6), 0, 0, false, []⟩,
    ⟨some 8, none, .mov (.k (.int .i64 0)), 0, 0, false, []⟩])
   (.block 0 (.loop [0, 1, 7, 8] [4] L153x0)))
   (.seq (.seg false [⟨some 4, none, .mov (.k (.int .i64 (-1))), 0, 0, false, []⟩])
   (.ret)))⟩
def E154x0 : List I := [⟨some 24, none, .mov (.t 0), 0, 0, false, []⟩,
    ⟨some 25, none, .iaddr 1 (.t 24) (.k (.int .i64 1)), 0, 0, false, []⟩,
    ⟨some 26, none, .load false 1 (.t 25), 0, 0, false, []⟩,
    ⟨some 27, none, .conv (.int .i64) (.t 26), 0, 0, false, []⟩,
    ⟨some 28, none, .bin .mul (.k (.int .i64 256)) (.t 27), 0, 0, false, []⟩,
    ⟨some 29, none, .mov (.t 0), 0, 0, false, []⟩,
    ⟨some 30, none, .iaddr 1 (.t 29) (.k (.int .i64 2)), 0, 0, false, []⟩,
    ⟨some 31, none, .load false 1 (.t 30), 0, 0, false, []⟩,
    ⟨some 32, none, .conv (.int .i64) (.t 31), 0, 0, false, []⟩,
    ⟨some 33, none, .bin .add (.t 28) (.t 32), 0, 0, false, []⟩,
    ⟨some 34, none, .bin .sub (.t 33) (.k (.int .i64 10000)), 0, 0, false, []⟩,
    ⟨some 35, none, .faddr 1 1 (.t 4), 0, 0, false, []⟩,
    ⟨none, none, .store 1 (.t 35) (.t 34), 0, 0, true, []⟩]
def D154x0 : List I := E154x0
theorem evD154x0 (run : Run) (e : Env) (h : Heap) : drawI run D154x0 e h = DrawW (evW run E154x0 e h []) run E154x0 e h := drawI_write run _ e h
def E154x1 : List I := [⟨some 80, none, .mov (.t 5), 0, 0, false, []⟩,
    ⟨some 81, none, .len false (.t 80), 0, 0, false, []⟩,
    ⟨some 82, none, .bin .eql (.t 81) (.k (.int .i64 0)), 0, 0, false, []⟩,
    ⟨some 83, none, .mov (.t 82), 0, 0, false, []⟩,
    ⟨some 84, some (83, false), .mov (.t 5), 0, 0, false, []⟩,
    ⟨some 85, some (83, false), .len false (.t 84), 0, 0, false, []⟩,
    ⟨some 86, some (83, false), .mov (.t 0), 0, 0, false, []⟩,
    ⟨some 87, some (83, false), .len false (.t 86), 0, 0, false, []⟩,
    ⟨some 88, some (83, false), .bin .gtr (.t 85) (.t 87), 0, 0, false, []⟩,
    ⟨some 89, none, .pick (.t 83) (.k (.bool true)) (.t 88), 0, 0, false, []⟩,
    ⟨some 90, none, .mov (.t 89), 0, 0, false, []⟩,
    ⟨some 91, some (90, false), .mov (.t 5), 0, 0, false, []⟩,
    ⟨some 92, some (90, false), .conv .toStr (.t 91), 0, 0, false, []⟩,
    ⟨some 93, some (90, false), .mov (.t 0), 0, 0, false, []⟩,
    ⟨some 94, some (90, false), .mov (.t 5), 0, 0, false, []⟩,
    ⟨some 95, some (90, false), .len false (.t 94), 0, 0, false, []⟩,
    ⟨some 96, some (90, false), .slc false 1 (.t 93) none (some (.t 95)) none, 0, 0, false, []⟩,
    ⟨some 97, some (90, false), .conv .toStr (.t 96), 0, 0, false, []⟩,
    ⟨some 98, some (90, false), .bin .neq (.t 92) (.t 97), 0, 0, false, []⟩,
    ⟨some 99, none, .pick (.t 90) (.k (.bool true)) (.t 98), 0, 0, false, []⟩]
def D154x1 : List I := E154x1
theorem evD154x1 (run : Run) (e : Env) (h : Heap) : drawI run D154x1 e h = DrawS (evQ run E154x1 e h) run E154x1 e h := drawI_quiet run _ (by rfl) e h
/-- loop.example/tablehouse/spec.ValueFrom -/
def F154 : F := ⟨104, [(true, 2, 3, true), (false, 3, 0, false)],
   .seq (.seg false [⟨some 2, none, .alloc [.int .i64 0, .int .i64 0, .str ⟨#[]⟩], 0, 0, false, []⟩,
    ⟨some 3, none, .mov (.k (.int .i64 0)), 0, 0, false, []⟩])
   (.seq (.seq (.seg false [⟨some 6, none, .mov (.t 0), 0, 0, false, []⟩,
    ⟨some 7, none, .len false (.t 6), 0, 0, false, []⟩,
    ⟨some 8, none, .bin .eql (.t 7) (.k (.int .i64 0)), 0, 0, false, []⟩])
   (.cond (.t 8) (.seq (.seg false [⟨some 9, none, .build [.int .i64 0, .int .i64 0, .str ⟨#[]⟩] [], 0, 0, false, []⟩,
    ⟨none, none, .store 3 (.t 2) (.t 9), 0, 0, false, []⟩,
    ⟨some 3, none, .mov (.k (.int .i64 0)), 0, 0, false, []⟩])
   (.ret))
   (.skip)))
   (.cutTo [0, 2] (.seq (.seg false [⟨some 10, none, .mov (.t 0), 0, 0, false, []⟩,
    ⟨some 11, none, .iaddr 1 (.t 10) (.k (.int .i64 0)), 0, 0, false, []⟩,
    ⟨some 12, none, .load false 1 (.t 11), 0, 0, false, []⟩,
    ⟨some 13, none, .conv (.int .i64) (.t 12), 0, 0, false, []⟩,
    ⟨some 14, none, .build [.int .i64 0, .int .i64 0, .str ⟨#[]⟩] [(0, 1, .t 13)], 0, 0, false, []⟩,
    ⟨some 4, none, .alloc [.int .i64 0, .int .i64 0, .str ⟨#[]⟩], 0, 0, false, []⟩,
    ⟨none, none, .store 3 (.t 4) (.t 14), 0, 0, false, []⟩])
   (.cutTo [0, 2, 4] (.seq (.block 0 (.seq (.seg false [⟨some 16, none, .faddr 0 1 (.t 4), 0, 0, false, []⟩,
    ⟨some 17, none, .load false 1 (.t 16), 0, 0, false, []⟩,
    ⟨some 18, none, .bin .eql (.t 17) (.k (.int .i64 1)), 0, 0, false, []⟩,
    ⟨some 19, none, .mov (.t 18), 0, 0, false, []⟩,
    ⟨some 20, some (19, true), .mov (.t 0), 0, 0, false, []⟩,
    ⟨some 21, some (19, true), .len false (.t 20), 0, 0, false, []⟩,
    ⟨some 22, some (19, true), .bin .gtr (.t 21) (.k (.int .i64 2)), 0, 0, false, []⟩,
    ⟨some 23, none, .pick (.t 19) (.t 22) (.k (.bool false)), 0, 0, false, []⟩,
    ⟨some 15, none, .mov (.t 23), 0, 0, false, []⟩])
   (.cutTo [0, 2, 4, 15] (.cond (.t 15) (.seg true D154x0)
   (.seq (.seg false [⟨some 37, none, .faddr 0 1 (.t 4), 0, 0, false, []⟩,
    ⟨some 38, none, .load false 1 (.t 37), 0, 0, false, []⟩,
    ⟨some 39, none, .bin .eql (.t 38) (.k (.int .i64 2)), 0, 0, false, []⟩,
    ⟨some 40, none, .mov (.t 39), 0, 0, false, []⟩,
    ⟨some 41, some (40, true), .mov (.t 0), 0, 0, false, []⟩,
    ⟨some 42, some (40, true), .len false (.t 41), 0, 0, false, []⟩,
    ⟨some 43, some (40, true), .bin .gtr (.t 42) (.k (.int .i64 1)), 0, 0, false, []⟩,
    ⟨some 44, none, .pick (.t 40) (.t 43) (.k (.bool false)), 0, 0, false, []⟩,
    ⟨some 45, none, .mov (.t 44), 0, 0, false, []⟩,
    ⟨some 46, some (45, true), .mov (.t 0), 0, 0, false, []⟩,
    ⟨some 47, some (45, true), .len false (.t 46), 0, 0, false, []⟩,
    ⟨some 48, some (45, true), .mov (.t 0), 0, 0, false, []⟩,
    ⟨some 49, some (45, true), .iaddr 1 (.t 48) (.k (.int .i64 1)), 0, 0, false, []⟩,
    ⟨some 50, some (45, true), .load false 1 (.t 49), 0, 0, false, []⟩,
    ⟨some 51, some (45, true), .conv (.int .i64) (.t 50), 0, 0, false, []⟩,
    ⟨some 52, some (45, true), .bin .add (.k (.int .i64 2)) (.t 51), 0, 0, false, []⟩,
    ⟨some 53, some (45, true), .bin .geq (.t 47) (.t 52), 0, 0, false, []⟩,
    ⟨some 54, none, .pick (.t 45) (.t 53) (.k (.bool false)), 0, 0, false, []⟩,
    ⟨some 36, none, .mov (.t 54), 0, 0, false, []⟩])
   (.cutTo [0, 2, 4, 36] (.cond (.t 36) (.seg false [⟨some 55, none, .mov (.t 0), 0, 0, false, []⟩,
    ⟨some 56, none, .mov (.t 0), 0, 0, false, []⟩,
    ⟨some 57, none, .iaddr 1 (.t 56) (.k (.int .i64 1)), 0, 0, false, []⟩,
    ⟨some 58, none, .load false 1 (.t 57), 0, 0, false, []⟩,
    ⟨some 59, none, .conv (.int .i64) (.t 58), 0, 0, false, []⟩,
    ⟨some 60, none, .bin .add (.k (.int .i64 2)) (.t 59), 0, 0, false, []⟩,
    ⟨some 61, none, .slc false 1 (.t 55) (some (.k (.int .i64 2))) (some (.t 60)) none, 0, 0, false, []⟩,
    ⟨some 62, none, .conv .toStr (.t 61), 0, 0, false, []⟩,
    ⟨some 63, none, .faddr 2 1 (.t 4), 0, 0, false, []⟩,
    ⟨none, none, .store 1 (.t 63) (.t 62), 0, 0, false, []⟩])
   (.seq (.seg false [⟨some 65, none, .faddr 0 1 (.t 4), 0, 0, false, []⟩,
    ⟨some 66, none, .load false 1 (.t 65), 0, 0, false, []⟩,
    ⟨some 67, none, .bin .eql (.t 66) (.k (.int .i64 3)), 0, 0, false, []⟩,
    ⟨some 68, none, .mov (.t 67), 0, 0, false, []⟩,
    ⟨some 69, some (68, true), .mov (.t 0), 0, 0, false, []⟩,
    ⟨some 70, some (68, true), .len false (.t 69), 0, 0, false, []⟩,
    ⟨some 71, some (68, true), .bin .gtr (.t 70) (.k (.int .i64 1)), 0, 0, false, []⟩,
    ⟨some 72, none, .pick (.t 68) (.t 71) (.k (.bool false)), 0, 0, false, []⟩,
    ⟨some 64, none, .mov (.t 72), 0, 0, false, []⟩])
   (.cutTo [0, 2, 4, 64] (.cond (.t 64) (.seg false [⟨some 73, none, .mov (.t 0), 0, 0, false, []⟩,
    ⟨some 74, none, .iaddr 1 (.t 73) (.k (.int .i64 1)), 0, 0, false, []⟩,
    ⟨some 75, none, .load false 1 (.t 74), 0, 0, false, []⟩,
    ⟨some 76, none, .conv (.int .i64) (.t 75), 0, 0, false, []⟩,
    ⟨some 77, none, .faddr 1 1 (.t 4), 0, 0, false, []⟩,
    ⟨none, none, .store 1 (.t 77) (.t 76), 0, 0, false, []⟩])
   (.skip)))))))))))
   (.cutTo [0, 2, 4] (.seq (.seg false [⟨some 78, none, .load true 3 (.t 4), 0, 0, false, []⟩,
    ⟨some 79, none, .call 145 [.t 78] false false, 0, 0, false, []⟩,
    ⟨some 5, none, .mov (.t 79), 0, 0, false, []⟩])
   (.seq (.seq (.seg true D154x1)
   (.cutTo [2, 4, 5, 99] (.cond (.t 99) (.seq (.seg false [⟨some 100, none, .build [.int .i64 0, .int .i64 0, .str ⟨#[]⟩] [], 0, 0, false, []⟩,
    ⟨none, none, .store 3 (.t 2) (.t 100), 0, 0, false, []⟩,
    ⟨some 3, none, .mov (.k (.int .i64 0)), 0, 0, false, []⟩])
   (.ret))
   (.skip))))
   (.cutTo [2, 4, 5] (.seq (.seg false [⟨some 101, none, .load true 3 (.t 4), 0, 0, false, []⟩,
    ⟨some 102, none, .mov (.t 5), 0, 0, false, []⟩,
    ⟨some 103, none, .len false (.t 102), 0, 0, false, []⟩,
    ⟨none, none, .store 3 (.t 2) (.t 101), 0, 0, false, []⟩,
    ⟨some 3, none, .mov (.t 103), 0, 0, false, []⟩])
   (.cutTo [2, 3] (.ret))))))))))))⟩
/-- (loop.example/tablehouse/impl.Value).ok -/
def F82 : F := ⟨46, [(false, 2, 0, false)],
   .seq (.seg false [⟨some 1, none, .box (.t 0), 0, 0, false, []⟩,
    ⟨some 2, none, .mov (.k (.bool false)), 0, 0, false, []⟩])
   (.seq (.seq (.seg false [⟨some 3, none, .faddr 0 1 (.t 1), 0, 0, false, []⟩,
    ⟨some 4, none, .load false 1 (.t 3), 0, 0, false, []⟩])
   (.block 0 (.seq (.seg false [⟨some 6, none, .bin .eql (.t 4) (.k (.int .i64 0)), 0, 0, false, []⟩,
    ⟨some 5, none, .mov (.t 6), 0, 0, false, []⟩])
   (.cond (.t 5) (.seq (.seg false [⟨some 7, none, .load true 3 (.t 1), 0, 0, false, []⟩,
    ⟨some 8, none, .build [.int .i64 0, .int .i64 0, .str ⟨#[]⟩] [], 0, 0, false, []⟩,
    ⟨some 9, none, .eqs false [.int, .int, .str] (.t 7) (.t 8), 0, 0, false, []⟩,
    ⟨some 2, none, .mov (.t 9), 0, 0, false, []⟩])
   (.cutTo [2] (.ret)))
   (.seq (.seg false [⟨some 11, none, .bin .eql (.t 4) (.k (.int .i64 1)), 0, 0, false, []⟩,
    ⟨some 10, none, .mov (.t 11), 0, 0, false, []⟩])
   (.cond (.t 10) (.seq (.seg false [⟨some 12, none, .faddr 2 1 (.t 1), 0, 0, false, []⟩,
    ⟨some 13, none, .load false 1 (.t 12), 0, 0, false, []⟩,
    ⟨some 14, none, .bin .eql (.t 13) (.k (.str ⟨#[]⟩)), 0, 0, false, []⟩,
    ⟨some 15, none, .mov (.t 14), 0, 0, false, []⟩,
    ⟨some 16, some (15, true), .faddr 1 1 (.t 1), 0, 0, false, []⟩,
    ⟨some 17, some (15, true), .load false 1 (.t 16), 0, 0, false, []⟩,
    ⟨some 18, some (15, true), .call 72 [.t 17, .k (.int .i64 (-9999)), .k (.int .i64 9999)] false false, 0, 0, false, []⟩,
    ⟨some 19, none, .pick (.t 15) (.t 18) (.k (.bool false)), 0, 0, false, []⟩,
    ⟨some 2, none, .mov (.t 19), 0, 0, false, []⟩])
   (.cutTo [2] (.ret)))
   (.seq (.seg false [⟨some 21, none, .bin .eql (.t 4) (.k (.int .i64 2)), 0, 0, false, []⟩,
    ⟨some 20, none, .mov (.t 21), 0, 0, false, []⟩])
   (.cond (.t 20) (.seq (.seg false [⟨some 22, none, .faddr 1 1 (.t 1), 0, 0, false, []⟩,
    ⟨some 23, none, .load false 1 (.t 22), 0, 0, false, []⟩,
    ⟨some 24, none, .bin .eql (.t 23) (.k (.int .i64 0)), 0, 0, false, []⟩,
    ⟨some 25, none, .mov (.t 24), 0, 0, false, []⟩,
    ⟨some 26, some (25, true), .faddr 2 1 (.t 1), 0, 0, false, []⟩,
    ⟨some 27, some (25, true), .load false 1 (.t 26), 0, 0, false, []⟩,
    ⟨some 28, some (25, true), .len true (.t 27), 0, 0, false, []⟩,
    ⟨some 29, some (25, true), .bin .leq (.t 28) (.k (.int .i64 6)), 0, 0, false, []⟩,
    ⟨some 30, none, .pick (.t 25) (.t 29) (.k (.bool false)), 0, 0, false, []⟩,
    ⟨some 31, none, .mov (.t 30), 0, 0, false, []⟩,
    ⟨some 32, some (31, true), .faddr 2 1 (.t 1), 0, 0, false, []⟩,
    ⟨some 33, some (31, true), .load false 1 (.t 32), 0, 0, false, []⟩,
    ⟨some 34, some (31, true), .call 124 [.t 33] false false, 0, 0, false, []⟩,
    ⟨some 35, none, .pick (.t 31) (.t 34) (.k (.bool false)), 0, 0, false, []⟩,
    ⟨some 2, none, .mov (.t 35), 0, 0, false, []⟩])
   (.cutTo [2] (.ret)))
   (.seq (.seg false [⟨some 37, none, .bin .eql (.t 4) (.k (.int .i64 3)), 0, 0, false, []⟩,
    ⟨some 36, none, .mov (.t 37), 0, 0, false, []⟩])
   (.cond (.t 36) (.seq (.seg false [⟨some 38, none, .faddr 2 1 (.t 1), 0, 0, false, []⟩,
    ⟨some 39, none, .load false 1 (.t 38), 0, 0, false, []⟩,
    ⟨some 40, none, .bin .eql (.t 39) (.k (.str ⟨#[]⟩)), 0, 0, false, []⟩,
    ⟨some 41, none, .mov (.t 40), 0, 0, false, []⟩,
    ⟨some 42, some (41, true), .faddr 1 1 (.t 1), 0, 0, false, []⟩,
    ⟨some 43, some (41, true), .load false 1 (.t 42), 0, 0, false, []⟩,
    ⟨some 44, some (41, true), .call 72 [.t 43, .k (.int .i64 0), .k (.int .i64 1)] false false, 0, 0, false, []⟩,
    ⟨some 45, none, .pick (.t 41) (.t 44) (.k (.bool false)), 0, 0, false, []⟩,
    ⟨some 2, none, .mov (.t 45), 0, 0, false, []⟩])
   (.cutTo [2] (.ret)))
   (.skip)))))))))))
   (.cutTo [] (.seq (.seg false [⟨some 2, none, .mov (.k (.bool false)), 0, 0, false, []⟩])
   (.ret))))⟩
/-- slices.Clip<<>loop.example/tablehouse/impl.Value,loop.example/tablehouse/impl.Value> -/
def F123 : F := ⟨9, [(false, 2, 0, false)],
   .seq (.seg false [⟨some 2, none, .mov (.k (.sl true 3 [])), 0, 0, false, []⟩])
   (.seq (.seg false [⟨some 3, none, .mov (.t 0), 0, 0, false, []⟩,
    ⟨some 4, none, .mov (.t 0), 0, 0, false, []⟩,
    ⟨some 5, none, .len false (.t 4), 0, 0, false, []⟩,
    ⟨some 6, none, .mov (.t 0), 0, 0, false, []⟩,
    ⟨some 7, none, .len false (.t 6), 0, 0, false, []⟩,
    ⟨some 8, none, .slc false 3 (.t 3) none (some (.t 5)) (some (.t 7)), 0, 0, false, []⟩,
    ⟨some 2, none, .mov (.t 8), 0, 0, false, []⟩])
   (.cutTo [2] (.ret)))⟩
/-- loop.example/tablehouse/laws.szValue -/
def F156 : F := ⟨13, [(false, 4, 0, false)],
   .seq (.seg false [⟨some 2, none, .box (.t 0), 0, 0, false, []⟩,
    ⟨some 4, none, .mov (.k (.int .i64 0)), 0, 0, false, []⟩])
   (.seq (.seg false [⟨some 5, none, .mov (.t 1), 0, 0, false, []⟩,
    ⟨some 6, none, .faddr 2 1 (.t 2), 0, 0, false, []⟩,
    ⟨some 7, none, .load false 1 (.t 6), 0, 0, false, []⟩,
    ⟨some 8, none, .len true (.t 7), 0, 0, false, []⟩,
    ⟨some 9, none, .bin .sub (.t 5) (.t 8), 0, 0, false, []⟩,
    ⟨some 1, none, .mov (.t 9), 0, 0, false, []⟩])
   (.cutTo [1] (.seq (.seq (.seg false [⟨some 10, none, .mov (.t 1), 0, 0, false, []⟩,
    ⟨some 11, none, .bin .lss (.t 10) (.k (.int .i64 0)), 0, 0, false, []⟩])
   (.cond (.t 11) (.seq (.seg false [⟨some 4, none, .mov (.k (.int .i64 (-1))), 0, 0, false, []⟩])
   (.ret))
   (.skip)))
   (.seq (.seg false [⟨some 12, none, .mov (.t 1), 0, 0, false, []⟩,
    ⟨some 4, none, .mov (.t 12), 0, 0, false, []⟩])
   (.ret)))))⟩
/-- loop.example/tablehouse/laws.toValue -/
def F158 : F := ⟨14, [(true, 2, 3, true)],
   .seq (.seg false [⟨some 1, none, .box (.t 0), 0, 0, false, []⟩,
    ⟨some 2, none, .alloc [.int .i64 0, .int .i64 0, .str ⟨#[]⟩], 0, 0, false, []⟩])
   (.seq (.seg false [⟨some 3, none, .alloc [.int .i64 0, .int .i64 0, .str ⟨#[]⟩], 0, 0, false, []⟩])
   (.seq (.seg false [⟨some 4, none, .faddr 0 1 (.t 1), 0, 0, false, []⟩,
    ⟨some 5, none, .load false 1 (.t 4), 0, 0, false, []⟩,
    ⟨some 6, none, .faddr 0 1 (.t 3), 0, 0, false, []⟩,
    ⟨none, none, .store 1 (.t 6) (.t 5), 0, 0, false, []⟩])
   (.cutTo [1, 2, 3] (.seq (.seg false [⟨some 7, none, .faddr 1 1 (.t 1), 0, 0, false, []⟩,
    ⟨some 8, none, .load false 1 (.t 7), 0, 0, false, []⟩,
    ⟨some 9, none, .faddr 1 1 (.t 3), 0, 0, false, []⟩,
    ⟨none, none, .store 1 (.t 9) (.t 8), 0, 0, false, []⟩])
   (.cutTo [1, 2, 3] (.seq (.seg false [⟨some 10, none, .faddr 2 1 (.t 1), 0, 0, false, []⟩,
    ⟨some 11, none, .load false 1 (.t 10), 0, 0, false, []⟩,
    ⟨some 12, none, .faddr 2 1 (.t 3), 0, 0, false, []⟩,
    ⟨none, none, .store 1 (.t 12) (.t 11), 0, 0, false, []⟩])
   (.cutTo [2, 3] (.seq (.seg false [⟨some 13, none, .load true 3 (.t 3), 0, 0, false, []⟩,
    ⟨none, none, .store 3 (.t 2) (.t 13), 0, 0, false, []⟩])
   (.ret)))))))))⟩
/-- loop.example/tablehouse/spec.ValueOk -/
def F157 : F := ⟨45, [(false, 2, 0, false)],
   .seq (.seg false [⟨some 1, none, .box (.t 0), 0, 0, false, []⟩,
    ⟨some 2, none, .mov (.k (.bool false)), 0, 0, false, []⟩])
   (.seq (.seq (.seg false [⟨some 3, none, .faddr 0 1 (.t 1), 0, 0, false, []⟩,
    ⟨some 4, none, .load false 1 (.t 3), 0, 0, false, []⟩])
   (.block 0 (.seq (.seg false [⟨some 6, none, .bin .eql (.t 4) (.k (.int .i64 0)), 0, 0, false, []⟩,
    ⟨some 5, none, .mov (.t 6), 0, 0, false, []⟩])
   (.cond (.t 5) (.seq (.seg false [⟨some 7, none, .faddr 1 1 (.t 1), 0, 0, false, []⟩,
    ⟨some 8, none, .load false 1 (.t 7), 0, 0, false, []⟩,
    ⟨some 9, none, .bin .eql (.t 8) (.k (.int .i64 0)), 0, 0, false, []⟩,
    ⟨some 10, none, .mov (.t 9), 0, 0, false, []⟩,
    ⟨some 11, some (10, true), .faddr 2 1 (.t 1), 0, 0, false, []⟩,
    ⟨some 12, some (10, true), .load false 1 (.t 11), 0, 0, false, []⟩,
    ⟨some 13, some (10, true), .bin .eql (.t 12) (.k (.str ⟨#[]⟩)), 0, 0, false, []⟩,
    ⟨some 14, none, .pick (.t 10) (.t 13) (.k (.bool false)), 0, 0, false, []⟩,
    ⟨some 2, none, .mov (.t 14), 0, 0, false, []⟩])
   (.cutTo [2] (.ret)))
   (.seq (.seg false [⟨some 16, none, .bin .eql (.t 4) (.k (.int .i64 1)), 0, 0, false, []⟩,
    ⟨some 15, none, .mov (.t 16), 0, 0, false, []⟩])
   (.cond (.t 15) (.seq (.seg false [⟨some 17, none, .faddr 1 1 (.t 1), 0, 0, false, []⟩,
    ⟨some 18, none, .load false 1 (.t 17), 0, 0, false, []⟩,
    ⟨some 19, none, .call 95 [.t 18, .k (.int .i64 (-9999)), .k (.int .i64 9999)] false false, 0, 0, false, []⟩,
    ⟨some 20, none, .mov (.t 19), 0, 0, false, []⟩,
    ⟨some 21, some (20, true), .faddr 2 1 (.t 1), 0, 0, false, []⟩,
    ⟨some 22, some (20, true), .load false 1 (.t 21), 0, 0, false, []⟩,
    ⟨some 23, some (20, true), .bin .eql (.t 22) (.k (.str ⟨#[]⟩)), 0, 0, false, []⟩,
    ⟨some 24, none, .pick (.t 20) (.t 23) (.k (.bool false)), 0, 0, false, []⟩,
    ⟨some 2, none, .mov (.t 24), 0, 0, false, []⟩])
   (.cutTo [2] (.ret)))
   (.seq (.seg false [⟨some 26, none, .bin .eql (.t 4) (.k (.int .i64 2)), 0, 0, false, []⟩,
    ⟨some 25, none, .mov (.t 26), 0, 0, false, []⟩])
   (.cond (.t 25) (.seq (.seg false [⟨some 27, none, .faddr 1 1 (.t 1), 0, 0, false, []⟩,
    ⟨some 28, none, .load false 1 (.t 27), 0, 0, false, []⟩,
    ⟨some 29, none, .bin .eql (.t 28) (.k (.int .i64 0)), 0, 0, false, []⟩,
    ⟨some 30, none, .mov (.t 29), 0, 0, false, []⟩,
    ⟨some 31, some (30, true), .faddr 2 1 (.t 1), 0, 0, false, []⟩,
    ⟨some 32, some (30, true), .load false 1 (.t 31), 0, 0, false, []⟩,
    ⟨some 33, some (30, true), .call 162 [.t 32] false false, 0, 0, false, []⟩,
    ⟨some 34, none, .pick (.t 30) (.t 33) (.k (.bool false)), 0, 0, false, []⟩,
    ⟨some 2, none, .mov (.t 34), 0, 0, false, []⟩])
   (.cutTo [2] (.ret)))
   (.seq (.seg false [⟨some 36, none, .bin .eql (.t 4) (.k (.int .i64 3)), 0, 0, false, []⟩,
    ⟨some 35, none, .mov (.t 36), 0, 0, false, []⟩])
   (.cond (.t 35) (.seq (.seg false [⟨some 37, none, .faddr 1 1 (.t 1), 0, 0, false, []⟩,
    ⟨some 38, none, .load false 1 (.t 37), 0, 0, false, []⟩,
    ⟨some 39, none, .call 95 [.t 38, .k (.int .i64 0), .k (.int .i64 1)] false false, 0, 0, false, []⟩,
    ⟨some 40, none, .mov (.t 39), 0, 0, false, []⟩,
    ⟨some 41, some (40, true), .faddr 2 1 (.t 1), 0, 0, false, []⟩,
    ⟨some 42, some (40, true), .load false 1 (.t 41), 0, 0, false, []⟩,
    ⟨some 43, some (40, true), .bin .eql (.t 42) (.k (.str ⟨#[]⟩)), 0, 0, false, []⟩,
    ⟨some 44, none, .pick (.t 40) (.t 43) (.k (.bool false)), 0, 0, false, []⟩,
    ⟨some 2, none, .mov (.t 44), 0, 0, false, []⟩])
   (.cutTo [2] (.ret)))
   (.skip)))))))))))
   (.cutTo [] (.seq (.seg false [⟨some 2, none, .mov (.k (.bool false)), 0, 0, false, []⟩])
   (.ret))))⟩
/-- slices.ContainsFunc<<>loop.example/tablehouse/impl.Value,loop.example/tablehouse/impl.Value> -/
def F125 : F := ⟨9, [(false, 4, 0, false)],
   .seq (.seg false [⟨some 4, none, .mov (.k (.bool false)), 0, 0, false, []⟩])
   (.seq (.seg false [⟨some 5, none, .mov (.t 0), 0, 0, false, []⟩,
    ⟨some 6, none, .mov (.t 1), 0, 0, false, []⟩,
    ⟨some 7, none, .call 151 [.t 5, .t 6] true false, 0, 0, false, []⟩,
    ⟨some 8, none, .bin .geq (.t 7) (.k (.int .i64 0)), 0, 0, false, []⟩,
    ⟨some 4, none, .mov (.t 8), 0, 0, false, []⟩])
   (.cutTo [4] (.ret)))⟩
/-- loop.example/tablehouse/impl.RowOk$1 -/
def F126 : F := ⟨6, [(false, 2, 0, false)],
   .seq (.seg false [⟨some 1, none, .box (.t 0), 0, 0, false, []⟩,
    ⟨some 2, none, .mov (.k (.bool false)), 0, 0, false, []⟩])
   (.seq (.seg false [⟨some 3, none, .load true 3 (.t 1), 0, 0, false, []⟩,
    ⟨some 4, none, .call 82 [.t 3] false false, 0, 0, false, []⟩,
    ⟨some 5, none, .un .not (.t 4), 0, 0, false, []⟩,
    ⟨some 2, none, .mov (.t 5), 0, 0, false, []⟩])
   (.cutTo [2] (.ret)))⟩
/-- loop.example/tablehouse/laws.eqValue -/
def F159 : F := ⟨20, [(false, 4, 0, false)],
   .seq (.seg false [⟨some 2, none, .box (.t 0), 0, 0, false, []⟩,
    ⟨some 3, none, .box (.t 1), 0, 0, false, []⟩,
    ⟨some 4, none, .mov (.k (.bool false)), 0, 0, false, []⟩])
   (.seq (.seq (.seg false [⟨some 5, none, .faddr 0 1 (.t 2), 0, 0, false, []⟩,
    ⟨some 6, none, .load false 1 (.t 5), 0, 0, false, []⟩,
    ⟨some 7, none, .faddr 0 1 (.t 3), 0, 0, false, []⟩,
    ⟨some 8, none, .load false 1 (.t 7), 0, 0, false, []⟩,
    ⟨some 9, none, .bin .neq (.t 6) (.t 8), 0, 0, false, []⟩])
   (.cutTo [2, 3, 9] (.cond (.t 9) (.seq (.seg false [⟨some 4, none, .mov (.k (.bool false)), 0, 0, false, []⟩])
   (.ret))
   (.skip))))
   (.cutTo [2, 3] (.seq (.seq (.seg false [⟨some 10, none, .faddr 1 1 (.t 2), 0, 0, false, []⟩,
    ⟨some 11, none, .load false 1 (.t 10), 0, 0, false, []⟩,
    ⟨some 12, none, .faddr 1 1 (.t 3), 0, 0, false, []⟩,
    ⟨some 13, none, .load false 1 (.t 12), 0, 0, false, []⟩,
    ⟨some 14, none, .bin .neq (.t 11) (.t 13), 0, 0, false, []⟩])
   (.cutTo [2, 3, 14] (.cond (.t 14) (.seq (.seg false [⟨some 4, none, .mov (.k (.bool false)), 0, 0, false, []⟩])
   (.ret))
   (.skip))))
   (.cutTo [2, 3] (.seq (.seq (.seg false [⟨some 15, none, .faddr 2 1 (.t 2), 0, 0, false, []⟩,
    ⟨some 16, none, .load false 1 (.t 15), 0, 0, false, []⟩,
    ⟨some 17, none, .faddr 2 1 (.t 3), 0, 0, false, []⟩,
    ⟨some 18, none, .load false 1 (.t 17), 0, 0, false, []⟩,
    ⟨some 19, none, .bin .neq (.t 16) (.t 18), 0, 0, false, []⟩])
   (.cutTo [19] (.cond (.t 19) (.seq (.seg false [⟨some 4, none, .mov (.k (.bool false)), 0, 0, false, []⟩])
   (.ret))
   (.skip))))
   (.cutTo [] (.seq (.seg false [⟨some 4, none, .mov (.k (.bool true)), 0, 0, false, []⟩])
   (.ret))))))))⟩
def B124x0 : C := .seq (.seg false [⟨some 9, none, .bin .lss (.t 8) (.t 7), 0, 0, false, []⟩])
   (.seq (.cond (.t 9) (.skip)
   (.exit 0))
   (.seq (.block 1 (.seq (.seg false [⟨some 10, none, .iaddr 1 (.t 6) (.t 8), 0, 0, false, []⟩,
    ⟨some 11, none, .load false 1 (.t 10), 0, 0, false, []⟩,
    ⟨some 4, none, .mov (.t 11), 0, 0, false, []⟩])
   (.seq (.seg false [⟨some 12, none, .mov (.t 4), 0, 0, false, []⟩,
    ⟨some 13, none, .conv (.int .i64) (.t 12), 0, 0, false, []⟩,
    ⟨some 14, none, .call 72 [.t 13, .k (.int .i64 97), .k (.int .i64 122)] false false, 0, 0, false, []⟩,
    ⟨some 15, none, .un .not (.t 14), 0, 0, false, []⟩])
   (.cutTo [6, 7, 8, 15] (.cond (.t 15) (.seq (.seg false [⟨some 2, none, .mov (.k (.bool false)), 0, 0, false, []⟩])
   (.ret))
   (.skip))))))
   (.cutTo [6, 7, 8] (.seg false [⟨some 16, none, .bin .add (.t 8) (.k (.int .i64 1)), 0, 0, false, []⟩,
    ⟨some 8, none, .mov (.t 16), 0, 0, false, []⟩]))))
def L124x0 : C := B124x0
theorem evL124x0 (run : Run) (draw : List I → Env → Heap → Option (Env × Heap)) (e : Env) (h : Heap) : evC run draw L124x0 e h = evC run draw B124x0 e h := rfl
/-- loop.example/tablehouse/impl.letters -/
def F124 : F := ⟨17, [(false, 2, 0, false)],
   .seq (.seg false [⟨some 2, none, .mov (.k (.bool false)), 0, 0, false, []⟩])
   (.seq (.seq (.seg false [⟨some 5, none, .mov (.t 0), 0, 0, false, []⟩,
    ⟨some 6, none, .conv .toBytes (.t 5), 0, 0, false, []⟩,
    ⟨some 7, none, .len false (.t 6), 0, 0, false, []⟩,
    ⟨some 8, none, .mov (.k (.int .i64 0)), 0, 0, false, []⟩])
   (.cutTo [6, 7, 8] (.block 0 (.loop [6, 7, 8] [2] L124x0))))
   (.cutTo [] (.seq (.seg false [⟨some 2, none, .mov (.k (.bool true)), 0, 0, false, []⟩])
   (.ret))))⟩
def B162x0 : C := .seq (.seq (.seg false [⟨some 4, none, .mov (.t 3), 0, 0, false, []⟩,
    ⟨some 5, none, .mov (.t 0), 0, 0, false, []⟩,
    ⟨some 6, none, .len true (.t 5), 0, 0, false, []⟩,
    ⟨some 7, none, .bin .lss (.t 4) (.t 6), 0, 0, false, []⟩])
   (.cutTo [0, 3, 7] (.cond (.t 7) (.skip)
   (.exit 0))))
   (.cutTo [0, 3] (.seq (.block 1 (.seq (.seg false [⟨some 10, none, .mov (.t 0), 0, 0, false, []⟩,
    ⟨some 11, none, .mov (.t 3), 0, 0, false, []⟩,
    ⟨some 12, none, .idx (.t 10) (.t 11), 0, 0, false, []⟩,
    ⟨some 13, none, .bin .lss (.t 12) (.k (.int .u8 97)), 0, 0, false, []⟩,
    ⟨some 14, none, .mov (.t 13), 0, 0, false, []⟩,
    ⟨some 15, some (14, false), .mov (.t 0), 0, 0, false, []⟩,
    ⟨some 16, some (14, false), .mov (.t 3), 0, 0, false, []⟩,
    ⟨some 17, some (14, false), .idx (.t 15) (.t 16), 0, 0, false, []⟩,
    ⟨some 18, some (14, false), .bin .gtr (.t 17) (.k (.int .u8 122)), 0, 0, false, []⟩,
    ⟨some 19, none, .pick (.t 14) (.k (.bool true)) (.t 18), 0, 0, false, []⟩])
   (.cutTo [0, 3, 19] (.cond (.t 19) (.seq (.seg false [⟨some 2, none, .mov (.k (.bool false)), 0, 0, false, []⟩])
   (.ret))
   (.skip)))))
   (.cutTo [0, 3] (.seg false [⟨some 8, none, .mov (.t 3), 0, 0, false, []⟩,
    ⟨some 9, none, .bin .add (.t 8) (.k (.int .i64 1)), 0, 0, false, []⟩,
    ⟨some 3, none, .mov (.t 9), 0, 0, false, []⟩]))))
def L162x0 : C := B162x0
theorem evL162x0 (run : Run) (draw : List I → Env → Heap → Option (Env × Heap)) (e : Env) (h : Heap) : evC run draw L162x0 e h = evC run draw B162x0 e h := rfl
/-- loop.example/tablehouse/spec.l1Text -/
def F162 : F := ⟨23, [(false, 2, 0, false)],
   .seq (.seg false [⟨some 2, none, .mov (.k (.bool false)), 0, 0, false, []⟩])
   (.seq (.seq (.seg false [⟨some 3, none, .mov (.k (.int .i64 0)), 0, 0, false, []⟩])
   (.block 0 (.loop [0, 3] [0, 2] L162x0)))
   (.seq (.seg false [⟨some 20, none, .mov (.t 0), 0, 0, false, []⟩,
    ⟨some 21, none, .len true (.t 20), 0, 0, false, []⟩,
    ⟨some 22, none, .bin .leq (.t 21) (.k (.int .i64 6)), 0, 0, false, []⟩,
    ⟨some 2, none, .mov (.t 22), 0, 0, false, []⟩])
   (.cutTo [2] (.ret))))⟩
def B151x0 : C := .seq (.seg false [⟨some 9, none, .bin .lss (.t 8) (.t 7), 0, 0, false, []⟩])
   (.seq (.cond (.t 9) (.skip)
   (.exit 0))
   (.seq (.block 1 (.seq (.seg false [⟨some 10, none, .mov (.t 8), 0, 0, false, []⟩,
    ⟨some 5, none, .mov (.t 10), 0, 0, false, []⟩])
   (.seq (.seg false [⟨some 11, none, .mov (.t 1), 0, 0, false, []⟩,
    ⟨some 12, none, .mov (.t 0), 0, 0, false, []⟩,
    ⟨some 13, none, .mov (.t 5), 0, 0, false, []⟩,
    ⟨some 14, none, .iaddr 3 (.t 12) (.t 13), 0, 0, false, []⟩,
    ⟨some 15, none, .load true 3 (.t 14), 0, 0, false, []⟩,
    ⟨some 16, none, .callv (.t 11) [.t 15] false, 0, 0, false, []⟩])
   (.cutTo [0, 1, 5, 7, 8, 16] (.cond (.t 16) (.seq (.seg false [⟨some 17, none, .mov (.t 5), 0, 0, false, []⟩,
    ⟨some 4, none, .mov (.t 17), 0, 0, false, []⟩])
   (.ret))
   (.skip))))))
   (.cutTo [0, 1, 7, 8] (.seg false [⟨some 18, none, .bin .add (.t 8) (.k (.int .i64 1)), 0, 0, false, []⟩,
    ⟨some 8, none, .mov (.t 18), 0, 0, false, []⟩]))))
def L151x0 : C := B151x0
theorem evL151x0 (run : Run) (draw : List I → Env → Heap → Option (Env × Heap)) (e : Env) (h : Heap) : evC run draw L151x0 e h = evC run draw B151x0 e h := rfl
/-- slices.IndexFunc<<>loop.example/tablehouse/impl.Value,loop.example/tablehouse/impl.Value> -/
def F151 : F := ⟨19, [(false, 4, 0, false)],
   .seq (.seg false [⟨some 4, none, .mov (.k (.int .i64 0)), 0, 0, false, []⟩])
   (.seq (.seq (.seg false [⟨some 6, none, .mov (.t 0), 0, 0, false, []⟩,
    ⟨some 7, none, .len false (.t 6), 0, 0, false, []⟩,
    ⟨some 8, none, .mov (.k (.int .i64 0)), 0, 0, false, []⟩])
   (.block 0 (.loop [0, 1, 7, 8] [4] L151x0)))
   (.seq (.seg false [⟨some 4, none, .mov (.k (.int .i64 (-1))), 0, 0, false, []⟩])
   (.ret)))⟩
theorem chk3 : chkF Try.prog 3 F3 = true := by kernel_rfl
theorem chk10 : chkF Try.prog 10 F10 = true := by kernel_rfl
theorem chk9 : chkF Try.prog 9 F9 = true := by kernel_rfl
theorem chk7 : chkF Try.prog 7 F7 = true := by kernel_rfl
theorem chk8 : chkF Try.prog 8 F8 = true := by kernel_rfl
theorem chk12 : chkF Try.prog 12 F12 = true := by kernel_rfl
theorem chk15 : chkF Try.prog 15 F15 = true := by kernel_rfl
theorem chk17 : chkF Try.prog 17 F17 = true := by kernel_rfl
theorem chk16 : chkF Try.prog 16 F16 = true := by kernel_rfl
theorem chk18 : chkF Try.prog 18 F18 = true := by kernel_rfl
theorem chk19 : chkF Try.prog 19 F19 = true := by kernel_rfl
theorem chk20 : chkF Try.prog 20 F20 = true := by kernel_rfl
theorem chk21 : chkF Try.prog 21 F21 = true := by kernel_rfl
theorem chk22 : chkF Try.prog 22 F22 = true := by kernel_rfl
theorem chk23 : chkF Try.prog 23 F23 = true := by kernel_rfl
theorem chk40 : chkF Try.prog 40 F40 = true := by kernel_rfl
theorem chk42 : chkF Try.prog 42 F42 = true := by kernel_rfl
theorem chk51 : chkF Try.prog 51 F51 = true := by kernel_rfl
theorem chk30 : chkF Try.prog 30 F30 = true := by kernel_rfl
theorem chk37 : chkF Try.prog 37 F37 = true := by kernel_rfl
theorem chk38 : chkF Try.prog 38 F38 = true := by kernel_rfl
theorem chk47 : chkF Try.prog 47 F47 = true := by kernel_rfl
theorem chk46 : chkF Try.prog 46 F46 = true := by kernel_rfl
theorem chk48 : chkF Try.prog 48 F48 = true := by kernel_rfl
theorem chk49 : chkF Try.prog 49 F49 = true := by kernel_rfl
theorem chk50 : chkF Try.prog 50 F50 = true := by kernel_rfl
theorem chk39 : chkF Try.prog 39 F39 = true := by kernel_rfl
theorem chk41 : chkF Try.prog 41 F41 = true := by kernel_rfl
theorem chk43 : chkF Try.prog 43 F43 = true := by kernel_rfl
theorem chk44 : chkF Try.prog 44 F44 = true := by kernel_rfl
theorem chk45 : chkF Try.prog 45 F45 = true := by kernel_rfl
theorem chk36 : chkF Try.prog 36 F36 = true := by kernel_rfl
theorem chk53 : chkF Try.prog 53 F53 = true := by kernel_rfl
theorem chk27 : chkF Try.prog 27 F27 = true := by kernel_rfl
theorem chk54 : chkF Try.prog 54 F54 = true := by kernel_rfl
theorem chk62 : chkF Try.prog 62 F62 = true := by kernel_rfl
theorem chk66 : chkF Try.prog 66 F66 = true := by kernel_rfl
theorem chk63 : chkF Try.prog 63 F63 = true := by kernel_rfl
theorem chk64 : chkF Try.prog 64 F64 = true := by kernel_rfl
theorem chk65 : chkF Try.prog 65 F65 = true := by kernel_rfl
theorem chk25 : chkF Try.prog 25 F25 = true := by kernel_rfl
theorem chk67 : chkF Try.prog 67 F67 = true := by kernel_rfl
theorem chk68 : chkF Try.prog 68 F68 = true := by kernel_rfl
theorem chk69 : chkF Try.prog 69 F69 = true := by kernel_rfl
theorem chk80 : chkF Try.prog 80 F80 = true := by kernel_rfl
theorem chk87 : chkF Try.prog 87 F87 = true := by kernel_rfl
theorem chk88 : chkF Try.prog 88 F88 = true := by kernel_rfl
theorem chk86 : chkF Try.prog 86 F86 = true := by kernel_rfl
theorem chk89 : chkF Try.prog 89 F89 = true := by kernel_rfl
theorem chk91 : chkF Try.prog 91 F91 = true := by kernel_rfl
theorem chk75 : chkF Try.prog 75 F75 = true := by kernel_rfl
theorem chk31 : chkF Try.prog 31 F31 = true := by kernel_rfl
theorem chk76 : chkF Try.prog 76 F76 = true := by kernel_rfl
theorem chk77 : chkF Try.prog 77 F77 = true := by kernel_rfl
theorem chk107 : chkF Try.prog 107 F107 = true := by kernel_rfl
theorem chk111 : chkF Try.prog 111 F111 = true := by kernel_rfl
theorem chk95 : chkF Try.prog 95 F95 = true := by kernel_rfl
theorem chk108 : chkF Try.prog 108 F108 = true := by kernel_rfl
theorem chk109 : chkF Try.prog 109 F109 = true := by kernel_rfl
theorem chk110 : chkF Try.prog 110 F110 = true := by kernel_rfl
theorem chk72 : chkF Try.prog 72 F72 = true := by kernel_rfl
theorem chk73 : chkF Try.prog 73 F73 = true := by kernel_rfl
theorem chk112 : chkF Try.prog 112 F112 = true := by kernel_rfl
theorem chk34 : chkF Try.prog 34 F34 = true := by kernel_rfl
theorem chk113 : chkF Try.prog 113 F113 = true := by kernel_rfl
theorem chk114 : chkF Try.prog 114 F114 = true := by kernel_rfl
theorem chk115 : chkF Try.prog 115 F115 = true := by kernel_rfl
theorem chk85 : chkF Try.prog 85 F85 = true := by kernel_rfl
theorem chk128 : chkF Try.prog 128 F128 = true := by kernel_rfl
theorem chk79 : chkF Try.prog 79 F79 = true := by kernel_rfl
theorem chk127 : chkF Try.prog 127 F127 = true := by kernel_rfl
theorem chk130 : chkF Try.prog 130 F130 = true := by kernel_rfl
theorem chk131 : chkF Try.prog 131 F131 = true := by kernel_rfl
theorem chk129 : chkF Try.prog 129 F129 = true := by kernel_rfl
theorem chk132 : chkF Try.prog 132 F132 = true := by kernel_rfl
theorem chk120 : chkF Try.prog 120 F120 = true := by kernel_rfl
theorem chk32 : chkF Try.prog 32 F32 = true := by kernel_rfl
theorem chk81 : chkF Try.prog 81 F81 = true := by kernel_rfl
theorem chk121 : chkF Try.prog 121 F121 = true := by kernel_rfl
theorem chk143 : chkF Try.prog 143 F143 = true := by kernel_rfl
theorem chk146 : chkF Try.prog 146 F146 = true := by kernel_rfl
theorem chk144 : chkF Try.prog 144 F144 = true := by kernel_rfl
theorem chk145 : chkF Try.prog 145 F145 = true := by kernel_rfl
theorem chk119 : chkF Try.prog 119 F119 = true := by kernel_rfl
theorem chk83 : chkF Try.prog 83 F83 = true := by kernel_rfl
theorem chk84 : chkF Try.prog 84 F84 = true := by kernel_rfl
theorem chk147 : chkF Try.prog 147 F147 = true := by kernel_rfl
theorem chk148 : chkF Try.prog 148 F148 = true := by kernel_rfl
theorem chk152 : chkF Try.prog 152 F152 = true := by kernel_rfl
theorem chk153 : chkF Try.prog 153 F153 = true := by kernel_rfl
theorem chk154 : chkF Try.prog 154 F154 = true := by kernel_rfl
theorem chk82 : chkF Try.prog 82 F82 = true := by kernel_rfl
theorem chk123 : chkF Try.prog 123 F123 = true := by kernel_rfl
theorem chk156 : chkF Try.prog 156 F156 = true := by kernel_rfl
theorem chk158 : chkF Try.prog 158 F158 = true := by kernel_rfl
theorem chk157 : chkF Try.prog 157 F157 = true := by kernel_rfl
theorem chk125 : chkF Try.prog 125 F125 = true := by kernel_rfl
theorem chk126 : chkF Try.prog 126 F126 = true := by kernel_rfl
theorem chk159 : chkF Try.prog 159 F159 = true := by kernel_rfl
theorem chk124 : chkF Try.prog 124 F124 = true := by kernel_rfl
theorem chk162 : chkF Try.prog 162 F162 = true := by kernel_rfl
theorem chk151 : chkF Try.prog 151 F151 = true := by kernel_rfl
def tab : Tab := [(3, F3), (10, F10), (9, F9), (7, F7), (8, F8), (12, F12), (15, F15), (17, F17), (16, F16), (18, F18), (19, F19), (20, F20), (21, F21), (22, F22), (23, F23), (40, F40), (42, F42), (51, F51), (30, F30), (37, F37), (38, F38), (47, F47), (46, F46), (48, F48), (49, F49), (50, F50), (39, F39), (41, F41), (43, F43), (44, F44), (45, F45), (36, F36), (53, F53), (27, F27), (54, F54), (62, F62), (66, F66), (63, F63), (64, F64), (65, F65), (25, F25), (67, F67), (68, F68), (69, F69), (80, F80), (87, F87), (88, F88), (86, F86), (89, F89), (91, F91), (75, F75), (31, F31), (76, F76), (77, F77), (107, F107), (111, F111), (95, F95), (108, F108), (109, F109), (110, F110), (72, F72), (73, F73), (112, F112), (34, F34), (113, F113), (114, F114), (115, F115), (85, F85), (128, F128), (79, F79), (127, F127), (130, F130), (131, F131), (129, F129), (132, F132), (120, F120), (32, F32), (81, F81), (121, F121), (143, F143), (146, F146), (144, F144), (145, F145), (119, F119), (83, F83), (84, F84), (147, F147), (148, F148), (152, F152), (153, F153), (154, F154), (82, F82), (123, F123), (156, F156), (158, F158), (157, F157), (125, F125), (126, F126), (159, F159), (124, F124), (162, F162), (151, F151)]
theorem find3 : tab.find 3 = some F3 := rfl
theorem find10 : tab.find 10 = some F10 := rfl
theorem find9 : tab.find 9 = some F9 := rfl
theorem find7 : tab.find 7 = some F7 := rfl
theorem find8 : tab.find 8 = some F8 := rfl
theorem find12 : tab.find 12 = some F12 := rfl
theorem find15 : tab.find 15 = some F15 := rfl
theorem find17 : tab.find 17 = some F17 := rfl
theorem find16 : tab.find 16 = some F16 := rfl
theorem find18 : tab.find 18 = some F18 := rfl
theorem find19 : tab.find 19 = some F19 := rfl
theorem find20 : tab.find 20 = some F20 := rfl
theorem find21 : tab.find 21 = some F21 := rfl
theorem find22 : tab.find 22 = some F22 := rfl
theorem find23 : tab.find 23 = some F23 := rfl
theorem find40 : tab.find 40 = some F40 := rfl
theorem find42 : tab.find 42 = some F42 := rfl
theorem find51 : tab.find 51 = some F51 := rfl
theorem find30 : tab.find 30 = some F30 := rfl
theorem find37 : tab.find 37 = some F37 := rfl
theorem find38 : tab.find 38 = some F38 := rfl
theorem find47 : tab.find 47 = some F47 := rfl
theorem find46 : tab.find 46 = some F46 := rfl
theorem find48 : tab.find 48 = some F48 := rfl
theorem find49 : tab.find 49 = some F49 := rfl
theorem find50 : tab.find 50 = some F50 := rfl
theorem find39 : tab.find 39 = some F39 := rfl
theorem find41 : tab.find 41 = some F41 := rfl
theorem find43 : tab.find 43 = some F43 := rfl
theorem find44 : tab.find 44 = some F44 := rfl
theorem find45 : tab.find 45 = some F45 := rfl
theorem find36 : tab.find 36 = some F36 := rfl
theorem find53 : tab.find 53 = some F53 := rfl
theorem find27 : tab.find 27 = some F27 := rfl
theorem find54 : tab.find 54 = some F54 := rfl
theorem find62 : tab.find 62 = some F62 := rfl
theorem find66 : tab.find 66 = some F66 := rfl
theorem find63 : tab.find 63 = some F63 := rfl
theorem find64 : tab.find 64 = some F64 := rfl
theorem find65 : tab.find 65 = some F65 := rfl
theorem find25 : tab.find 25 = some F25 := rfl
theorem find67 : tab.find 67 = some F67 := rfl
theorem find68 : tab.find 68 = some F68 := rfl
theorem find69 : tab.find 69 = some F69 := rfl
theorem find80 : tab.find 80 = some F80 := rfl
theorem find87 : tab.find 87 = some F87 := rfl
theorem find88 : tab.find 88 = some F88 := rfl
theorem find86 : tab.find 86 = some F86 := rfl
theorem find89 : tab.find 89 = some F89 := rfl
theorem find91 : tab.find 91 = some F91 := rfl
theorem find75 : tab.find 75 = some F75 := rfl
theorem find31 : tab.find 31 = some F31 := rfl
theorem find76 : tab.find 76 = some F76 := rfl
theorem find77 : tab.find 77 = some F77 := rfl
theorem find107 : tab.find 107 = some F107 := rfl
theorem find111 : tab.find 111 = some F111 := rfl
theorem find95 : tab.find 95 = some F95 := rfl
theorem find108 : tab.find 108 = some F108 := rfl
theorem find109 : tab.find 109 = some F109 := rfl
theorem find110 : tab.find 110 = some F110 := rfl
theorem find72 : tab.find 72 = some F72 := rfl
theorem find73 : tab.find 73 = some F73 := rfl
theorem find112 : tab.find 112 = some F112 := rfl
theorem find34 : tab.find 34 = some F34 := rfl
theorem find113 : tab.find 113 = some F113 := rfl
theorem find114 : tab.find 114 = some F114 := rfl
theorem find115 : tab.find 115 = some F115 := rfl
theorem find85 : tab.find 85 = some F85 := rfl
theorem find128 : tab.find 128 = some F128 := rfl
theorem find79 : tab.find 79 = some F79 := rfl
theorem find127 : tab.find 127 = some F127 := rfl
theorem find130 : tab.find 130 = some F130 := rfl
theorem find131 : tab.find 131 = some F131 := rfl
theorem find129 : tab.find 129 = some F129 := rfl
theorem find132 : tab.find 132 = some F132 := rfl
theorem find120 : tab.find 120 = some F120 := rfl
theorem find32 : tab.find 32 = some F32 := rfl
theorem find81 : tab.find 81 = some F81 := rfl
theorem find121 : tab.find 121 = some F121 := rfl
theorem find143 : tab.find 143 = some F143 := rfl
theorem find146 : tab.find 146 = some F146 := rfl
theorem find144 : tab.find 144 = some F144 := rfl
theorem find145 : tab.find 145 = some F145 := rfl
theorem find119 : tab.find 119 = some F119 := rfl
theorem find83 : tab.find 83 = some F83 := rfl
theorem find84 : tab.find 84 = some F84 := rfl
theorem find147 : tab.find 147 = some F147 := rfl
theorem find148 : tab.find 148 = some F148 := rfl
theorem find152 : tab.find 152 = some F152 := rfl
theorem find153 : tab.find 153 = some F153 := rfl
theorem find154 : tab.find 154 = some F154 := rfl
theorem find82 : tab.find 82 = some F82 := rfl
theorem find123 : tab.find 123 = some F123 := rfl
theorem find156 : tab.find 156 = some F156 := rfl
theorem find158 : tab.find 158 = some F158 := rfl
theorem find157 : tab.find 157 = some F157 := rfl
theorem find125 : tab.find 125 = some F125 := rfl
theorem find126 : tab.find 126 = some F126 := rfl
theorem find159 : tab.find 159 = some F159 := rfl
theorem find124 : tab.find 124 = some F124 := rfl
theorem find162 : tab.find 162 = some F162 := rfl
theorem find151 : tab.find 151 = some F151 := rfl
theorem tab_ok : ∀ p ∈ tab, chkF Try.prog p.1 p.2 = true := by
  intro p hp
  simp only [tab, List.mem_cons, List.not_mem_nil, or_false] at hp
  rcases hp with rfl | rfl | rfl | rfl | rfl | rfl | rfl | rfl | rfl | rfl | rfl | rfl | rfl | rfl | rfl | rfl | rfl | rfl | rfl | rfl | rfl | rfl | rfl | rfl | rfl | rfl | rfl | rfl | rfl | rfl | rfl | rfl | rfl | rfl | rfl | rfl | rfl | rfl | rfl | rfl | rfl | rfl | rfl | rfl | rfl | rfl | rfl | rfl | rfl | rfl | rfl | rfl | rfl | rfl | rfl | rfl | rfl | rfl | rfl | rfl | rfl | rfl | rfl | rfl | rfl | rfl | rfl | rfl | rfl | rfl | rfl | rfl | rfl | rfl | rfl | rfl | rfl | rfl | rfl | rfl | rfl | rfl | rfl | rfl | rfl | rfl | rfl | rfl | rfl | rfl | rfl | rfl | rfl | rfl | rfl | rfl | rfl | rfl | rfl | rfl | rfl | rfl
  · exact chk3
  · exact chk10
  · exact chk9
  · exact chk7
  · exact chk8
  · exact chk12
  · exact chk15
  · exact chk17
  · exact chk16
  · exact chk18
  · exact chk19
  · exact chk20
  · exact chk21
  · exact chk22
  · exact chk23
  · exact chk40
  · exact chk42
  · exact chk51
  · exact chk30
  · exact chk37
  · exact chk38
  · exact chk47
  · exact chk46
  · exact chk48
  · exact chk49
  · exact chk50
  · exact chk39
  · exact chk41
  · exact chk43
  · exact chk44
  · exact chk45
  · exact chk36
  · exact chk53
  · exact chk27
  · exact chk54
  · exact chk62
  · exact chk66
  · exact chk63
  · exact chk64
  · exact chk65
  · exact chk25
  · exact chk67
  · exact chk68
  · exact chk69
  · exact chk80
  · exact chk87
  · exact chk88
  · exact chk86
  · exact chk89
  · exact chk91
  · exact chk75
  · exact chk31
  · exact chk76
  · exact chk77
  · exact chk107
  · exact chk111
  · exact chk95
  · exact chk108
  · exact chk109
  · exact chk110
  · exact chk72
  · exact chk73
  · exact chk112
  · exact chk34
  · exact chk113
  · exact chk114
  · exact chk115
  · exact chk85
  · exact chk128
  · exact chk79
  · exact chk127
  · exact chk130
  · exact chk131
  · exact chk129
  · exact chk132
  · exact chk120
  · exact chk32
  · exact chk81
  · exact chk121
  · exact chk143
  · exact chk146
  · exact chk144
  · exact chk145
  · exact chk119
  · exact chk83
  · exact chk84
  · exact chk147
  · exact chk148
  · exact chk152
  · exact chk153
  · exact chk154
  · exact chk82
  · exact chk123
  · exact chk156
  · exact chk158
  · exact chk157
  · exact chk125
  · exact chk126
  · exact chk159
  · exact chk124
  · exact chk162
  · exact chk151
end Go.Proofs.Yteaojpfofifmnaa.PE
