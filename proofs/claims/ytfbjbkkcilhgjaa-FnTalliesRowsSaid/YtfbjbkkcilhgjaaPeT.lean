/- The compact code of the functions, and that it is the code of the machine. -/
import Derived.Test.YtfbjbkkcilhgjaaPeT0
import Derived.Test.YtfbjbkkcilhgjaaPeX
import Derived.Test.YtfbjbkkcilhgjaaProg
namespace Go.Proofs.Ytfbjbkkcilhgjaa.PE
open Go.RowKit
set_option maxRecDepth 100000
def B134x0 : C := .seq (.seg false [⟨some 9, none, .bin .lss (.t 8) (.t 7), 0, 0, false, []⟩])
   (.seq (.cond (.t 9) (.skip)
   (.exit 0))
   (.seq (.block 1 (.seq (.seg false [⟨some 10, none, .mov (.t 8), 0, 0, false, []⟩,
    ⟨some 5, none, .mov (.t 10), 0, 0, false, []⟩])
   (.seq (.seg false [⟨some 11, none, .mov (.t 1), 0, 0, false, []⟩,
    ⟨some 12, none, .mov (.t 0), 0, 0, false, []⟩,
    ⟨some 13, none, .mov (.t 5), 0, 0, false, []⟩,
    ⟨some 14, none, .iaddr 4 (.t 12) (.t 13), 0, 0, false, []⟩,
    ⟨some 15, none, .load true 4 (.t 14), 0, 0, false, []⟩,
    ⟨some 16, none, .callv (.t 11) [.t 15] false, 0, 0, false, []⟩])
   (.cutTo [0, 1, 5, 7, 8, 16] (.cond (.t 16) (.seq (.seg false [⟨some 17, none, .mov (.t 5), 0, 0, false, []⟩,
    ⟨some 4, none, .mov (.t 17), 0, 0, false, []⟩])
   (.ret))
   (.skip))))))
   (.cutTo [0, 1, 7, 8] (.seg false [⟨some 18, none, .bin .add (.t 8) (.k (.int .i64 1)), 0, 0, false, []⟩,
    ⟨some 8, none, .mov (.t 18), 0, 0, false, []⟩]))))
def L134x0 : C := B134x0
theorem evL134x0 (run : Run) (draw : List I → Env → Heap → Option (Env × Heap)) (e : Env) (h : Heap) : evC run draw L134x0 e h = evC run draw B134x0 e h := rfl
/-- slices.IndexFunc<<>loop.example/tablehouse/impl.Version,loop.example/tablehouse/impl.Version> -/
def F134 : F := ⟨19, [(false, 4, 0, false)],
   .seq (.seg false [⟨some 4, none, .mov (.k (.int .i64 0)), 0, 0, false, []⟩])
   (.seq (.seq (.seg false [⟨some 6, none, .mov (.t 0), 0, 0, false, []⟩,
    ⟨some 7, none, .len false (.t 6), 0, 0, false, []⟩,
    ⟨some 8, none, .mov (.k (.int .i64 0)), 0, 0, false, []⟩])
   (.block 0 (.loop [0, 1, 7, 8] [4] L134x0)))
   (.seq (.seg false [⟨some 4, none, .mov (.k (.int .i64 (-1))), 0, 0, false, []⟩])
   (.ret)))⟩
/-- slices.Clip<<>loop.example/tablehouse/impl.Version,loop.example/tablehouse/impl.Version> -/
def F133 : F := ⟨9, [(false, 2, 0, false)],
   .seq (.seg false [⟨some 2, none, .mov (.k (.sl true 4 [])), 0, 0, false, []⟩])
   (.seq (.seg false [⟨some 3, none, .mov (.t 0), 0, 0, false, []⟩,
    ⟨some 4, none, .mov (.t 0), 0, 0, false, []⟩,
    ⟨some 5, none, .len false (.t 4), 0, 0, false, []⟩,
    ⟨some 6, none, .mov (.t 0), 0, 0, false, []⟩,
    ⟨some 7, none, .len false (.t 6), 0, 0, false, []⟩,
    ⟨some 8, none, .slc false 4 (.t 3) none (some (.t 5)) (some (.t 7)), 0, 0, false, []⟩,
    ⟨some 2, none, .mov (.t 8), 0, 0, false, []⟩])
   (.cutTo [2] (.ret)))⟩
/-- slices.ContainsFunc<<>loop.example/tablehouse/impl.Value,loop.example/tablehouse/impl.Value> -/
def F135 : F := ⟨9, [(false, 4, 0, false)],
   .seq (.seg false [⟨some 4, none, .mov (.k (.bool false)), 0, 0, false, []⟩])
   (.seq (.seg false [⟨some 5, none, .mov (.t 0), 0, 0, false, []⟩,
    ⟨some 6, none, .mov (.t 1), 0, 0, false, []⟩,
    ⟨some 7, none, .call 177 [.t 5, .t 6] true false, 0, 0, false, []⟩,
    ⟨some 8, none, .bin .geq (.t 7) (.k (.int .i64 0)), 0, 0, false, []⟩,
    ⟨some 4, none, .mov (.t 8), 0, 0, false, []⟩])
   (.cutTo [4] (.ret)))⟩
/-- loop.example/tablehouse/impl.RowOk$1 -/
def F136 : F := ⟨6, [(false, 2, 0, false)],
   .seq (.seg false [⟨some 1, none, .box (.t 0), 0, 0, false, []⟩,
    ⟨some 2, none, .mov (.k (.bool false)), 0, 0, false, []⟩])
   (.seq (.seg false [⟨some 3, none, .load true 3 (.t 1), 0, 0, false, []⟩,
    ⟨some 4, none, .call 96 [.t 3] false false, 0, 0, false, []⟩,
    ⟨some 5, none, .un .not (.t 4), 0, 0, false, []⟩,
    ⟨some 2, none, .mov (.t 5), 0, 0, false, []⟩])
   (.cutTo [2] (.ret)))⟩
def B137x0 : C := .seq (.seq (.seg false [⟨some 12, none, .mov (.t 5), 0, 0, false, []⟩,
    ⟨some 13, none, .mov (.t 0), 0, 0, false, []⟩,
    ⟨some 14, none, .len false (.t 13), 0, 0, false, []⟩,
    ⟨some 15, none, .bin .lss (.t 12) (.t 14), 0, 0, false, []⟩])
   (.cutTo [0, 1, 5, 15] (.cond (.t 15) (.skip)
   (.exit 0))))
   (.cutTo [0, 1, 5] (.seq (.block 1 (.seq (.seg false [⟨some 18, none, .mov (.t 0), 0, 0, false, []⟩,
    ⟨some 19, none, .mov (.t 5), 0, 0, false, []⟩,
    ⟨some 20, none, .iaddr 3 (.t 18) (.t 19), 0, 0, false, []⟩,
    ⟨some 21, none, .load true 3 (.t 20), 0, 0, false, []⟩,
    ⟨some 22, none, .mov (.t 1), 0, 0, false, []⟩,
    ⟨some 23, none, .call 178 [.t 21, .t 22] false false, 0, 0, false, []⟩,
    ⟨some 1, none, .mov (.t 23), 0, 0, false, []⟩])
   (.cutTo [0, 1, 5] (.seq (.seg false [⟨some 24, none, .mov (.t 1), 0, 0, false, []⟩,
    ⟨some 25, none, .bin .lss (.t 24) (.k (.int .i64 0)), 0, 0, false, []⟩])
   (.cond (.t 25) (.seq (.seg false [⟨some 4, none, .mov (.k (.int .i64 (-1))), 0, 0, false, []⟩])
   (.ret))
   (.skip))))))
   (.cutTo [0, 1, 5] (.seg false [⟨some 16, none, .mov (.t 5), 0, 0, false, []⟩,
    ⟨some 17, none, .bin .add (.t 16) (.k (.int .i64 1)), 0, 0, false, []⟩,
    ⟨some 5, none, .mov (.t 17), 0, 0, false, []⟩]))))
def L137x0 : C := B137x0
theorem evL137x0 (run : Run) (draw : List I → Env → Heap → Option (Env × Heap)) (e : Env) (h : Heap) : evC run draw L137x0 e h = evC run draw B137x0 e h := rfl
/-- loop.example/tablehouse/laws.szValueS -/
def F137 : F := ⟨27, [(false, 4, 0, false)],
   .seq (.seg false [⟨some 4, none, .mov (.k (.int .i64 0)), 0, 0, false, []⟩])
   (.seq (.seg false [⟨some 6, none, .mov (.t 1), 0, 0, false, []⟩,
    ⟨some 7, none, .mov (.t 0), 0, 0, false, []⟩,
    ⟨some 8, none, .len false (.t 7), 0, 0, false, []⟩,
    ⟨some 9, none, .bin .sub (.t 6) (.t 8), 0, 0, false, []⟩,
    ⟨some 1, none, .mov (.t 9), 0, 0, false, []⟩])
   (.cutTo [0, 1] (.seq (.seq (.seg false [⟨some 10, none, .mov (.t 1), 0, 0, false, []⟩,
    ⟨some 11, none, .bin .lss (.t 10) (.k (.int .i64 0)), 0, 0, false, []⟩])
   (.cond (.t 11) (.seq (.seg false [⟨some 4, none, .mov (.k (.int .i64 (-1))), 0, 0, false, []⟩])
   (.ret))
   (.skip)))
   (.seq (.seq (.seg false [⟨some 5, none, .mov (.k (.int .i64 0)), 0, 0, false, []⟩])
   (.block 0 (.loop [0, 1, 5] [1, 4] L137x0)))
   (.seq (.seg false [⟨some 26, none, .mov (.t 1), 0, 0, false, []⟩,
    ⟨some 4, none, .mov (.t 26), 0, 0, false, []⟩])
   (.ret))))))⟩
def B140x0 : C := .seq (.seq (.seg false [⟨some 8, none, .mov (.t 4), 0, 0, false, []⟩,
    ⟨some 9, none, .mov (.t 0), 0, 0, false, []⟩,
    ⟨some 10, none, .len false (.t 9), 0, 0, false, []⟩,
    ⟨some 11, none, .bin .lss (.t 8) (.t 10), 0, 0, false, []⟩])
   (.cutTo [0, 3, 4, 11] (.cond (.t 11) (.skip)
   (.exit 0))))
   (.cutTo [0, 3, 4] (.seq (.block 1 (.seg false [⟨some 14, none, .mov (.t 3), 0, 0, false, []⟩,
    ⟨some 15, none, .mov (.t 4), 0, 0, false, []⟩,
    ⟨some 16, none, .mov (.t 0), 0, 0, false, []⟩,
    ⟨some 17, none, .mov (.t 4), 0, 0, false, []⟩,
    ⟨some 18, none, .iaddr 3 (.t 16) (.t 17), 0, 0, false, []⟩,
    ⟨some 19, none, .load true 3 (.t 18), 0, 0, false, []⟩,
    ⟨some 20, none, .callx 0 179 [.t 19], 0, 0, false, []⟩,
    ⟨some 21, none, .iaddr 3 (.t 14) (.t 15), 0, 0, false, []⟩,
    ⟨none, none, .store 3 (.t 21) (.t 20), 0, 0, false, []⟩]))
   (.cutTo [0, 3, 4] (.seg false [⟨some 12, none, .mov (.t 4), 0, 0, false, []⟩,
    ⟨some 13, none, .bin .add (.t 12) (.k (.int .i64 1)), 0, 0, false, []⟩,
    ⟨some 4, none, .mov (.t 13), 0, 0, false, []⟩]))))
def L140x0 : C := B140x0
theorem evL140x0 (run : Run) (draw : List I → Env → Heap → Option (Env × Heap)) (e : Env) (h : Heap) : evC run draw L140x0 e h = evC run draw B140x0 e h := rfl
/-- loop.example/tablehouse/laws.toValueS -/
def F140 : F := ⟨23, [(false, 2, 0, false)],
   .seq (.seg false [⟨some 2, none, .mov (.k (.sl true 3 [])), 0, 0, false, []⟩])
   (.seq (.seg false [⟨some 5, none, .mov (.t 0), 0, 0, false, []⟩,
    ⟨some 6, none, .len false (.t 5), 0, 0, false, []⟩,
    ⟨some 7, none, .mk 3 [.int .i64 0, .int .i64 0, .str ⟨#[]⟩] (.t 6), 0, 0, false, []⟩,
    ⟨some 3, none, .mov (.t 7), 0, 0, false, []⟩])
   (.cutTo [0, 3] (.seq (.seq (.seg false [⟨some 4, none, .mov (.k (.int .i64 0)), 0, 0, false, []⟩])
   (.block 0 (.loopk [0, 3, 4] [3] L140x0)))
   (.seq (.seg false [⟨some 22, none, .mov (.t 3), 0, 0, false, []⟩,
    ⟨some 2, none, .mov (.t 22), 0, 0, false, []⟩])
   (.ret)))))⟩
def B138x0 : C := .seq (.seq (.seg false [⟨some 4, none, .mov (.t 3), 0, 0, false, []⟩,
    ⟨some 5, none, .mov (.t 0), 0, 0, false, []⟩,
    ⟨some 6, none, .len false (.t 5), 0, 0, false, []⟩,
    ⟨some 7, none, .bin .lss (.t 4) (.t 6), 0, 0, false, []⟩])
   (.cutTo [0, 3, 7] (.cond (.t 7) (.skip)
   (.exit 0))))
   (.cutTo [0, 3] (.seq (.block 1 (.seq (.seg false [⟨some 10, none, .mov (.t 0), 0, 0, false, []⟩,
    ⟨some 11, none, .mov (.t 3), 0, 0, false, []⟩,
    ⟨some 12, none, .iaddr 3 (.t 10) (.t 11), 0, 0, false, []⟩,
    ⟨some 13, none, .load true 3 (.t 12), 0, 0, false, []⟩,
    ⟨some 14, none, .call 101 [.t 13] false false, 0, 0, false, []⟩,
    ⟨some 15, none, .un .not (.t 14), 0, 0, false, []⟩])
   (.cutTo [0, 3, 15] (.cond (.t 15) (.seq (.seg false [⟨some 2, none, .mov (.k (.bool false)), 0, 0, false, []⟩])
   (.ret))
   (.skip)))))
   (.cutTo [0, 3] (.seg false [⟨some 8, none, .mov (.t 3), 0, 0, false, []⟩,
    ⟨some 9, none, .bin .add (.t 8) (.k (.int .i64 1)), 0, 0, false, []⟩,
    ⟨some 3, none, .mov (.t 9), 0, 0, false, []⟩]))))
def L138x0 : C := B138x0
theorem evL138x0 (run : Run) (draw : List I → Env → Heap → Option (Env × Heap)) (e : Env) (h : Heap) : evC run draw L138x0 e h = evC run draw B138x0 e h := rfl
/-- loop.example/tablehouse/spec.RowOk -/
def F138 : F := ⟨19, [(false, 2, 0, false)],
   .seq (.seg false [⟨some 2, none, .mov (.k (.bool false)), 0, 0, false, []⟩])
   (.seq (.seq (.seg false [⟨some 3, none, .mov (.k (.int .i64 0)), 0, 0, false, []⟩])
   (.block 0 (.loop [0, 3] [0, 2] L138x0)))
   (.seq (.seg false [⟨some 16, none, .mov (.t 0), 0, 0, false, []⟩,
    ⟨some 17, none, .len false (.t 16), 0, 0, false, []⟩,
    ⟨some 18, none, .bin .leq (.t 17) (.k (.int .i64 4)), 0, 0, false, []⟩,
    ⟨some 2, none, .mov (.t 18), 0, 0, false, []⟩])
   (.cutTo [2] (.ret))))⟩
def E139x0 : List I := [⟨some 27, none, .mov (.t 0), 0, 0, false, []⟩,
    ⟨some 28, none, .mov (.t 5), 0, 0, false, []⟩,
    ⟨some 29, none, .iaddr 3 (.t 27) (.t 28), 0, 0, false, []⟩,
    ⟨some 30, none, .load true 3 (.t 29), 0, 0, false, []⟩,
    ⟨some 31, none, .mov (.t 1), 0, 0, false, []⟩,
    ⟨some 32, none, .mov (.t 5), 0, 0, false, []⟩,
    ⟨some 33, none, .iaddr 3 (.t 31) (.t 32), 0, 0, false, []⟩,
    ⟨some 34, none, .load true 3 (.t 33), 0, 0, false, []⟩,
    ⟨some 35, none, .call 109 [.t 30, .t 34] false false, 0, 0, false, []⟩,
    ⟨some 6, none, .mov (.t 35), 0, 0, false, []⟩]
def D139x0 : List I := E139x0
theorem evD139x0 (run : Run) (e : Env) (h : Heap) : drawI run D139x0 e h = DrawS (evQ run E139x0 e h) run E139x0 e h := drawI_quiet run _ (by rfl) e h
def B139x0 : C := .seq (.seq (.seg false [⟨some 15, none, .mov (.t 5), 0, 0, false, []⟩,
    ⟨some 16, none, .mov (.t 0), 0, 0, false, []⟩,
    ⟨some 17, none, .len false (.t 16), 0, 0, false, []⟩,
    ⟨some 18, none, .bin .lss (.t 15) (.t 17), 0, 0, false, []⟩,
    ⟨some 19, none, .mov (.t 18), 0, 0, false, []⟩,
    ⟨some 20, some (19, true), .mov (.t 5), 0, 0, false, []⟩,
    ⟨some 21, some (19, true), .mov (.t 1), 0, 0, false, []⟩,
    ⟨some 22, some (19, true), .len false (.t 21), 0, 0, false, []⟩,
    ⟨some 23, some (19, true), .bin .lss (.t 20) (.t 22), 0, 0, false, []⟩,
    ⟨some 24, none, .pick (.t 19) (.t 23) (.k (.bool false)), 0, 0, false, []⟩])
   (.cutTo [0, 1, 5, 24] (.cond (.t 24) (.skip)
   (.exit 0))))
   (.cutTo [0, 1, 5] (.seq (.block 1 (.seq (.seg true D139x0)
   (.cutTo [0, 1, 5, 6] (.seq (.seg false [⟨some 36, none, .mov (.t 6), 0, 0, false, []⟩,
    ⟨some 37, none, .bin .neq (.t 36) (.k (.int .i64 0)), 0, 0, false, []⟩])
   (.cond (.t 37) (.seq (.seg false [⟨some 38, none, .mov (.t 6), 0, 0, false, []⟩,
    ⟨some 4, none, .mov (.t 38), 0, 0, false, []⟩])
   (.ret))
   (.skip))))))
   (.cutTo [0, 1, 5] (.seg false [⟨some 25, none, .mov (.t 5), 0, 0, false, []⟩,
    ⟨some 26, none, .bin .add (.t 25) (.k (.int .i64 1)), 0, 0, false, []⟩,
    ⟨some 5, none, .mov (.t 26), 0, 0, false, []⟩]))))
def L139x0 : C := B139x0
theorem evL139x0 (run : Run) (draw : List I → Env → Heap → Option (Env × Heap)) (e : Env) (h : Heap) : evC run draw L139x0 e h = evC run draw B139x0 e h := rfl
/-- loop.example/tablehouse/spec.RowOrder -/
def F139 : F := ⟨50, [(false, 4, 0, false)],
   .seq (.seg false [⟨some 4, none, .mov (.k (.int .i64 0)), 0, 0, false, []⟩])
   (.seq (.seq (.seg false [⟨some 7, none, .mov (.t 0), 0, 0, false, []⟩,
    ⟨some 8, none, .call 138 [.t 7] false false, 0, 0, false, []⟩,
    ⟨some 9, none, .un .not (.t 8), 0, 0, false, []⟩,
    ⟨some 10, none, .mov (.t 9), 0, 0, false, []⟩,
    ⟨some 11, some (10, false), .mov (.t 1), 0, 0, false, []⟩,
    ⟨some 12, some (10, false), .call 138 [.t 11] false false, 0, 0, false, []⟩,
    ⟨some 13, some (10, false), .un .not (.t 12), 0, 0, false, []⟩,
    ⟨some 14, none, .pick (.t 10) (.k (.bool true)) (.t 13), 0, 0, false, []⟩])
   (.cutTo [0, 1, 14] (.cond (.t 14) (.seq (.seg false [⟨some 4, none, .mov (.k (.int .i64 0)), 0, 0, false, []⟩])
   (.ret))
   (.skip))))
   (.cutTo [0, 1] (.seq (.seq (.seg false [⟨some 5, none, .mov (.k (.int .i64 0)), 0, 0, false, []⟩])
   (.block 0 (.loop [0, 1, 5] [0, 1, 4] L139x0)))
   (.seq (.seg false [⟨some 39, none, .mov (.t 1), 0, 0, false, []⟩,
    ⟨some 40, none, .len false (.t 39), 0, 0, false, []⟩,
    ⟨some 41, none, .mov (.t 0), 0, 0, false, []⟩,
    ⟨some 42, none, .len false (.t 41), 0, 0, false, []⟩,
    ⟨some 43, none, .call 155 [.t 40, .t 42] false false, 0, 0, false, []⟩,
    ⟨some 44, none, .mov (.t 0), 0, 0, false, []⟩,
    ⟨some 45, none, .len false (.t 44), 0, 0, false, []⟩,
    ⟨some 46, none, .mov (.t 1), 0, 0, false, []⟩,
    ⟨some 47, none, .len false (.t 46), 0, 0, false, []⟩,
    ⟨some 48, none, .call 155 [.t 45, .t 47] false false, 0, 0, false, []⟩,
    ⟨some 49, none, .bin .sub (.t 43) (.t 48), 0, 0, false, []⟩,
    ⟨some 4, none, .mov (.t 49), 0, 0, false, []⟩])
   (.cutTo [4] (.ret))))))⟩
/-- loop.example/tablehouse/laws.eqValue -/
def F141 : F := ⟨20, [(false, 4, 0, false)],
   .seq (.seg false [⟨some 2, none, .box (.t 0), 0, 0, false, []⟩,
    ⟨some 3, none, .box (.t 1), 0, 0, false, []⟩,
    ⟨some 4, none, .mov (.k (.bool false)), 0, 0, false, []⟩])
   (.seq (.seq (.seg false [⟨some 5, none, .faddr 0 1 (.t 2), 0, 0, false, []⟩,
    ⟨some 6, none, .load false 1 (.t 5), 0, 0, false, []⟩,
    ⟨some 7, none, .faddr 0 1 (.t 3), 0, 0, false, []⟩,
    ⟨some 8, none, .load false 1 (.t 7), 0, 0, false, []⟩,
    ⟨some 9, none, .bin .neq (.t 6) (.t 8), 0, 0, false, []⟩])
   (.cutTo [2, 3, 9] (.cond (.t 9) (.seq (.seg false [⟨some 4, none, .mov (.k (.bool false)), 0, 0, false, []⟩])
   (.ret))
   (.skip))))
   (.cutTo [2, 3] (.seq (.seq (.seg false [⟨some 10, none, .faddr 1 1 (.t 2), 0, 0, false, []⟩,
    ⟨some 11, none, .load false 1 (.t 10), 0, 0, false, []⟩,
    ⟨some 12, none, .faddr 1 1 (.t 3), 0, 0, false, []⟩,
    ⟨some 13, none, .load false 1 (.t 12), 0, 0, false, []⟩,
    ⟨some 14, none, .bin .neq (.t 11) (.t 13), 0, 0, false, []⟩])
   (.cutTo [2, 3, 14] (.cond (.t 14) (.seq (.seg false [⟨some 4, none, .mov (.k (.bool false)), 0, 0, false, []⟩])
   (.ret))
   (.skip))))
   (.cutTo [2, 3] (.seq (.seq (.seg false [⟨some 15, none, .faddr 2 1 (.t 2), 0, 0, false, []⟩,
    ⟨some 16, none, .load false 1 (.t 15), 0, 0, false, []⟩,
    ⟨some 17, none, .faddr 2 1 (.t 3), 0, 0, false, []⟩,
    ⟨some 18, none, .load false 1 (.t 17), 0, 0, false, []⟩,
    ⟨some 19, none, .bin .neq (.t 16) (.t 18), 0, 0, false, []⟩])
   (.cutTo [19] (.cond (.t 19) (.seq (.seg false [⟨some 4, none, .mov (.k (.bool false)), 0, 0, false, []⟩])
   (.ret))
   (.skip))))
   (.cutTo [] (.seq (.seg false [⟨some 4, none, .mov (.k (.bool true)), 0, 0, false, []⟩])
   (.ret))))))))⟩
def B142x0 : C := .seq (.seq (.seg false [⟨some 6, none, .mov (.t 0), 0, 0, false, []⟩,
    ⟨some 7, none, .bin .gtr (.t 6) (.k (.int .i64 0)), 0, 0, false, []⟩])
   (.cond (.t 7) (.skip)
   (.exit 0)))
   (.block 1 (.seq (.seg false [⟨some 8, none, .mov (.t 0), 0, 0, false, []⟩,
    ⟨some 9, none, .bin .rem (.t 8) (.k (.int .i64 10)), 0, 0, false, []⟩,
    ⟨some 10, none, .bin .add (.k (.int .i64 48)) (.t 9), 0, 0, false, []⟩,
    ⟨some 11, none, .conv (.int .u8) (.t 10), 0, 0, false, []⟩,
    ⟨some 12, none, .mksl false 1 [.t 11], 0, 0, false, []⟩,
    ⟨some 13, none, .conv .toStr (.t 12), 0, 0, false, []⟩,
    ⟨some 14, none, .mov (.t 3), 0, 0, false, []⟩,
    ⟨some 15, none, .bin .add (.t 13) (.t 14), 0, 0, false, []⟩,
    ⟨some 3, none, .mov (.t 15), 0, 0, false, []⟩])
   (.cutTo [0, 3] (.seg false [⟨some 16, none, .mov (.t 0), 0, 0, false, []⟩,
    ⟨some 17, none, .bin .quo (.t 16) (.k (.int .i64 10)), 0, 0, false, []⟩,
    ⟨some 0, none, .mov (.t 17), 0, 0, false, []⟩]))))
def L142x0 : C := B142x0
theorem evL142x0 (run : Run) (draw : List I → Env → Heap → Option (Env × Heap)) (e : Env) (h : Heap) : evC run draw L142x0 e h = evC run draw B142x0 e h := rfl
/-- loop.example/tablehouse/laws.markText -/
def F142 : F := ⟨20, [(false, 2, 0, false)],
   .seq (.seg false [⟨some 2, none, .mov (.k (.str ⟨#[]⟩)), 0, 0, false, []⟩])
   (.seq (.seq (.seg false [⟨some 4, none, .mov (.t 0), 0, 0, false, []⟩,
    ⟨some 5, none, .bin .leq (.t 4) (.k (.int .i64 0)), 0, 0, false, []⟩])
   (.cond (.t 5) (.seq (.seg false [⟨some 2, none, .mov (.k (.str ⟨#[109, 48]⟩)), 0, 0, false, []⟩])
   (.ret))
   (.skip)))
   (.seq (.seg false [⟨some 3, none, .mov (.k (.str ⟨#[]⟩)), 0, 0, false, []⟩])
   (.seq (.block 0 (.loop [0, 3] [3] L142x0))
   (.seq (.seg false [⟨some 18, none, .mov (.t 3), 0, 0, false, []⟩,
    ⟨some 19, none, .bin .add (.k (.str ⟨#[109]⟩)) (.t 18), 0, 0, false, []⟩,
    ⟨some 2, none, .mov (.t 19), 0, 0, false, []⟩])
   (.ret)))))⟩
/-- loop.example/tablehouse/spec.l20Twos -/
def F144 : F := ⟨24, [(false, 4, 0, false)],
   .seq (.seg false [⟨some 4, none, .nilrow 1, 0, 0, false, []⟩])
   (.seq (.seg false [⟨some 6, none, .build [.int .i64 0, .bool false] [(0, 1, .k (.int .i64 1)), (1, 1, .k (.bool true))], 0, 0, false, []⟩,
    ⟨some 7, none, .build [.int .i64 0, .bool false] [(0, 1, .k (.int .i64 1)), (1, 1, .k (.bool true))], 0, 0, false, []⟩,
    ⟨some 8, none, .mksl true 2 [.t 6, .t 7], 0, 0, false, []⟩,
    ⟨some 5, none, .mov (.t 8), 0, 0, false, []⟩])
   (.cutTo [0, 1, 5] (.seq (.seq (.seg false [⟨some 9, none, .mov (.t 0), 0, 0, false, []⟩,
    ⟨some 10, none, .call 57 [.t 9, .k (.int .i64 4)] true false, 0, 0, false, []⟩,
    ⟨some 11, none, .bin .eql (.t 10) (.k (.int .i64 0)), 0, 0, false, []⟩])
   (.cond (.t 11) (.seg false [⟨some 12, none, .mov (.t 5), 0, 0, false, []⟩,
    ⟨some 13, none, .iaddr 2 (.t 12) (.k (.int .i64 0)), 0, 0, false, []⟩,
    ⟨some 14, none, .faddr 0 1 (.t 13), 0, 0, false, []⟩,
    ⟨none, none, .store 1 (.t 14) (.k (.int .i64 2)), 0, 0, false, []⟩])
   (.skip)))
   (.cutTo [0, 1, 5] (.seq (.seg false [⟨some 15, none, .mov (.t 0), 0, 0, false, []⟩,
    ⟨some 16, none, .mov (.t 5), 0, 0, false, []⟩,
    ⟨some 17, none, .mov (.t 1), 0, 0, false, []⟩,
    ⟨some 18, none, .call 182 [.t 15, .t 16, .t 17] true true, 0, 0, false, []⟩,
    ⟨some 19, none, .mov (.t 0), 0, 0, false, []⟩,
    ⟨some 20, none, .mov (.t 5), 0, 0, false, []⟩,
    ⟨some 21, none, .mov (.t 1), 0, 0, false, []⟩,
    ⟨some 22, none, .call 182 [.t 19, .t 20, .t 21] true false, 0, 0, false, []⟩,
    ⟨some 23, none, .app 1 (.t 18) (.t 22), 0, 0, false, []⟩,
    ⟨some 4, none, .mov (.t 23), 0, 0, false, []⟩])
   (.cutTo [4] (.ret)))))))⟩
def E143x0 : List I := [⟨some 31, none, .mov (.t 3), 0, 0, false, [3]⟩,
    ⟨some 32, none, .mov (.t 0), 0, 0, false, []⟩,
    ⟨some 33, none, .mov (.t 5), 0, 0, false, []⟩,
    ⟨some 34, none, .iaddr 1 (.t 32) (.t 33), 0, 0, false, []⟩,
    ⟨some 35, none, .load false 1 (.t 34), 0, 0, false, []⟩,
    ⟨some 36, none, .iaddr 3 (.t 35) (.k (.int .i64 0)), 0, 0, false, []⟩,
    ⟨some 37, none, .load true 3 (.t 36), 0, 0, false, []⟩,
    ⟨some 38, none, .mov (.t 0), 0, 0, false, []⟩,
    ⟨some 39, none, .mov (.t 5), 0, 0, false, []⟩,
    ⟨some 40, none, .iaddr 1 (.t 38) (.t 39), 0, 0, false, []⟩,
    ⟨some 41, none, .load false 1 (.t 40), 0, 0, false, []⟩,
    ⟨some 42, none, .iaddr 3 (.t 41) (.k (.int .i64 1)), 0, 0, false, []⟩,
    ⟨some 43, none, .load true 3 (.t 42), 0, 0, false, []⟩,
    ⟨some 44, none, .call 181 [.t 31, .t 37, .t 43, .k (.int .i64 1)] false true, 0, 0, true, []⟩,
    ⟨some 3, none, .mov (.t 44), 1, 1, false, []⟩]
def D143x0 : List I := E143x0
theorem evD143x0 (run : Run) (e : Env) (h : Heap) : drawI run D143x0 e h = DrawW (evW run E143x0 e h []) run E143x0 e h := drawI_write run _ e h
def B143x0 : C := .seq (.seq (.seg false [⟨some 7, none, .mov (.t 4), 0, 0, false, []⟩,
    ⟨some 8, none, .mov (.t 0), 0, 0, false, []⟩,
    ⟨some 9, none, .len false (.t 8), 0, 0, false, []⟩,
    ⟨some 10, none, .bin .lss (.t 7) (.t 9), 0, 0, false, []⟩])
   (.cutTo [0, 3, 4, 10] (.cond (.t 10) (.skip)
   (.exit 0))))
   (.cutTo [0, 3, 4] (.seq (.block 1 (.seq (.seg false [⟨some 13, none, .mov (.t 0), 0, 0, false, []⟩,
    ⟨some 14, none, .mov (.t 4), 0, 0, false, []⟩,
    ⟨some 15, none, .iaddr 1 (.t 13) (.t 14), 0, 0, false, []⟩,
    ⟨some 16, none, .load false 1 (.t 15), 0, 0, false, []⟩,
    ⟨some 17, none, .call 180 [.t 16] false false, 0, 0, false, []⟩,
    ⟨some 18, none, .un .not (.t 17), 0, 0, false, []⟩,
    ⟨some 19, none, .mov (.t 18), 0, 0, false, []⟩,
    ⟨some 20, some (19, false), .mov (.t 0), 0, 0, false, []⟩,
    ⟨some 21, some (19, false), .len false (.t 20), 0, 0, false, []⟩,
    ⟨some 22, some (19, false), .bin .gtr (.t 21) (.k (.int .i64 100)), 0, 0, false, []⟩,
    ⟨some 23, none, .pick (.t 19) (.k (.bool true)) (.t 22), 0, 0, false, []⟩])
   (.cutTo [0, 3, 4, 23] (.cond (.t 23) (.seq (.seg false [⟨some 24, none, .mksl false 4 [], 0, 0, false, []⟩,
    ⟨some 2, none, .mov (.t 24), 0, 0, false, []⟩])
   (.ret))
   (.skip)))))
   (.cutTo [0, 3, 4] (.seg false [⟨some 11, none, .mov (.t 4), 0, 0, false, []⟩,
    ⟨some 12, none, .bin .add (.t 11) (.k (.int .i64 1)), 0, 0, false, []⟩,
    ⟨some 4, none, .mov (.t 12), 0, 0, false, []⟩]))))
def L143x0 : C := B143x0
theorem evL143x0 (run : Run) (draw : List I → Env → Heap → Option (Env × Heap)) (e : Env) (h : Heap) : evC run draw L143x0 e h = evC run draw B143x0 e h := rfl
def B143x1 : C := .seq (.seq (.seg false [⟨some 25, none, .mov (.t 5), 0, 0, false, []⟩,
    ⟨some 26, none, .mov (.t 0), 0, 0, false, []⟩,
    ⟨some 27, none, .len false (.t 26), 0, 0, false, []⟩,
    ⟨some 28, none, .bin .lss (.t 25) (.t 27), 0, 0, false, []⟩])
   (.cutTo [0, 3, 5, 28] (.cond (.t 28) (.skip)
   (.exit 2))))
   (.cutTo [0, 3, 5] (.seq (.block 3 (.seg true D143x0))
   (.cutTo [0, 3, 5] (.seg false [⟨some 29, none, .mov (.t 5), 0, 0, false, []⟩,
    ⟨some 30, none, .bin .add (.t 29) (.k (.int .i64 1)), 0, 0, false, []⟩,
    ⟨some 5, none, .mov (.t 30), 0, 0, false, []⟩]))))
def L143x1 : C := B143x1
theorem evL143x1 (run : Run) (draw : List I → Env → Heap → Option (Env × Heap)) (e : Env) (h : Heap) : evC run draw L143x1 e h = evC run draw B143x1 e h := rfl
/-- loop.example/tablehouse/spec.TalliesOf -/
def F143 : F := ⟨46, [(false, 2, 0, false)],
   .seq (.seg false [⟨some 2, none, .mov (.k (.sl true 4 [])), 0, 0, false, []⟩])
   (.seq (.seg false [⟨some 6, none, .mksl false 4 [], 0, 0, false, []⟩,
    ⟨some 3, none, .mov (.t 6), 0, 0, false, []⟩])
   (.seq (.seq (.seg false [⟨some 4, none, .mov (.k (.int .i64 0)), 0, 0, false, []⟩])
   (.block 0 (.loopk [0, 3, 4] [0, 2, 3] L143x0)))
   (.seq (.seq (.seg false [⟨some 5, none, .mov (.k (.int .i64 0)), 0, 0, false, []⟩])
   (.block 2 (.loopk [0, 3, 5] [3] L143x1)))
   (.seq (.seg false [⟨some 45, none, .mov (.t 3), 0, 0, false, []⟩,
    ⟨some 2, none, .mov (.t 45), 0, 0, false, []⟩])
   (.ret)))))⟩
def B146x0 : C := .seq (.seg false [⟨some 14, none, .bin .lss (.t 13) (.t 12), 0, 0, false, []⟩])
   (.seq (.cond (.t 14) (.skip)
   (.exit 0))
   (.seq (.block 1 (.seq (.seg false [⟨some 15, none, .mov (.t 13), 0, 0, false, []⟩,
    ⟨some 16, none, .iaddr 3 (.t 11) (.t 13), 0, 0, false, []⟩,
    ⟨some 17, none, .load true 3 (.t 16), 0, 0, false, []⟩,
    ⟨some 8, none, .alloc [.int .i64 0, .int .i64 0, .str ⟨#[]⟩], 0, 0, false, []⟩,
    ⟨some 7, none, .mov (.t 15), 0, 0, false, []⟩,
    ⟨none, none, .store 3 (.t 8) (.t 17), 0, 0, false, []⟩])
   (.cutTo [0, 1, 2, 7, 8, 11, 12, 13] (.seq (.seq (.seg false [⟨some 18, none, .mov (.t 7), 0, 0, false, []⟩,
    ⟨some 19, none, .mov (.t 1), 0, 0, false, []⟩,
    ⟨some 20, none, .len false (.t 19), 0, 0, false, []⟩,
    ⟨some 21, none, .bin .geq (.t 18) (.t 20), 0, 0, false, []⟩])
   (.cutTo [0, 1, 2, 7, 8, 11, 12, 13, 21] (.cond (.t 21) (.seq (.seg false [⟨some 6, none, .mov (.k (.int .i64 1)), 0, 0, false, []⟩])
   (.ret))
   (.skip))))
   (.cutTo [0, 1, 2, 7, 8, 11, 12, 13] (.seq (.seg false [⟨some 22, none, .mov (.t 1), 0, 0, false, []⟩,
    ⟨some 23, none, .mov (.t 7), 0, 0, false, []⟩,
    ⟨some 24, none, .iaddr 3 (.t 22) (.t 23), 0, 0, false, []⟩,
    ⟨some 25, none, .load true 3 (.t 24), 0, 0, false, []⟩,
    ⟨some 9, none, .alloc [.int .i64 0, .int .i64 0, .str ⟨#[]⟩], 0, 0, false, []⟩,
    ⟨none, none, .store 3 (.t 9) (.t 25), 0, 0, false, []⟩])
   (.cutTo [0, 1, 2, 8, 9, 11, 12, 13] (.seq (.seg false [⟨some 26, none, .mov (.t 2), 0, 0, false, []⟩,
    ⟨some 27, none, .load true 3 (.t 8), 0, 0, false, []⟩,
    ⟨some 28, none, .load true 3 (.t 9), 0, 0, false, []⟩,
    ⟨some 29, none, .callv (.t 26) [.t 27, .t 28] false, 0, 0, false, []⟩,
    ⟨some 10, none, .mov (.t 29), 0, 0, false, []⟩])
   (.cutTo [0, 1, 2, 10, 11, 12, 13] (.seq (.seg false [⟨some 30, none, .mov (.t 10), 0, 0, false, []⟩,
    ⟨some 31, none, .bin .neq (.t 30) (.k (.int .i64 0)), 0, 0, false, []⟩])
   (.cond (.t 31) (.seq (.seg false [⟨some 32, none, .mov (.t 10), 0, 0, false, []⟩,
    ⟨some 6, none, .mov (.t 32), 0, 0, false, []⟩])
   (.ret))
   (.skip))))))))))))
   (.cutTo [0, 1, 2, 11, 12, 13] (.seg false [⟨some 33, none, .bin .add (.t 13) (.k (.int .i64 1)), 0, 0, false, []⟩,
    ⟨some 13, none, .mov (.t 33), 0, 0, false, []⟩]))))
def L146x0 : C := B146x0
theorem evL146x0 (run : Run) (draw : List I → Env → Heap → Option (Env × Heap)) (e : Env) (h : Heap) : evC run draw L146x0 e h = evC run draw B146x0 e h := rfl
/-- slices.CompareFunc<<>loop.example/tablehouse/impl.Value,<>loop.example/tablehouse/impl.Value,loop.example/tablehouse/impl.Value,loop.example/tablehouse/impl.Value> -/
def F146 : F := ⟨39, [(false, 6, 0, false)],
   .seq (.seg false [⟨some 6, none, .mov (.k (.int .i64 0)), 0, 0, false, []⟩])
   (.seq (.seq (.seg false [⟨some 11, none, .mov (.t 0), 0, 0, false, []⟩,
    ⟨some 12, none, .len false (.t 11), 0, 0, false, []⟩,
    ⟨some 13, none, .mov (.k (.int .i64 0)), 0, 0, false, []⟩])
   (.block 0 (.loop [0, 1, 2, 11, 12, 13] [0, 1, 6] L146x0)))
   (.seq (.seq (.seg false [⟨some 34, none, .mov (.t 0), 0, 0, false, []⟩,
    ⟨some 35, none, .len false (.t 34), 0, 0, false, []⟩,
    ⟨some 36, none, .mov (.t 1), 0, 0, false, []⟩,
    ⟨some 37, none, .len false (.t 36), 0, 0, false, []⟩,
    ⟨some 38, none, .bin .lss (.t 35) (.t 37), 0, 0, false, []⟩])
   (.cutTo [38] (.cond (.t 38) (.seq (.seg false [⟨some 6, none, .mov (.k (.int .i64 (-1))), 0, 0, false, []⟩])
   (.ret))
   (.skip))))
   (.cutTo [] (.seq (.seg false [⟨some 6, none, .mov (.k (.int .i64 0)), 0, 0, false, []⟩])
   (.ret)))))⟩
def E108x0 : List I := [⟨some 5, none, .faddr 0 1 (.t 2), 0, 0, false, []⟩,
    ⟨some 6, none, .load false 1 (.t 5), 0, 0, false, []⟩,
    ⟨some 7, none, .faddr 0 1 (.t 3), 0, 0, false, []⟩,
    ⟨some 8, none, .load false 1 (.t 7), 0, 0, false, []⟩,
    ⟨some 9, none, .call 147 [.t 6, .t 8] false false, 0, 0, false, []⟩,
    ⟨some 10, none, .faddr 1 1 (.t 2), 0, 0, false, []⟩,
    ⟨some 11, none, .load false 1 (.t 10), 0, 0, false, []⟩,
    ⟨some 12, none, .faddr 1 1 (.t 3), 0, 0, false, []⟩,
    ⟨some 13, none, .load false 1 (.t 12), 0, 0, false, []⟩,
    ⟨some 14, none, .call 147 [.t 11, .t 13] false false, 0, 0, false, []⟩,
    ⟨some 15, none, .faddr 2 1 (.t 2), 0, 0, false, []⟩,
    ⟨some 16, none, .load false 1 (.t 15), 0, 0, false, []⟩,
    ⟨some 17, none, .faddr 2 1 (.t 3), 0, 0, false, []⟩,
    ⟨some 18, none, .load false 1 (.t 17), 0, 0, false, []⟩,
    ⟨some 19, none, .call 154 [.t 16, .t 18] false false, 0, 0, false, []⟩,
    ⟨some 20, none, .mksl false 1 [.t 9, .t 14, .t 19], 0, 0, false, []⟩,
    ⟨some 21, none, .call 145 [.t 20] false false, 0, 0, false, []⟩,
    ⟨some 4, none, .mov (.t 21), 0, 0, false, []⟩]
def D108x0 : List I := E108x0
theorem evD108x0 (run : Run) (e : Env) (h : Heap) : drawI run D108x0 e h = DrawS (evQ run E108x0 e h) run E108x0 e h := drawI_quiet run _ (by rfl) e h
/-- (loop.example/tablehouse/impl.Value).order -/
def F108 : F := ⟨22, [(false, 4, 0, false)],
   .seq (.seg false [⟨some 2, none, .box (.t 0), 0, 0, false, []⟩,
    ⟨some 3, none, .box (.t 1), 0, 0, false, []⟩,
    ⟨some 4, none, .mov (.k (.int .i64 0)), 0, 0, false, []⟩])
   (.seq (.seg true D108x0)
   (.cutTo [4] (.ret)))⟩
/-- cmp.Compare<int> -/
def F147 : F := ⟨20, [(false, 4, 0, false)],
   .seq (.seg false [⟨some 4, none, .mov (.k (.int .i64 0)), 0, 0, false, []⟩])
   (.seq (.seg false [⟨some 7, none, .mov (.t 0), 0, 0, false, []⟩,
    ⟨some 8, none, .call 183 [.t 7] false false, 0, 0, false, []⟩,
    ⟨some 5, none, .mov (.t 8), 0, 0, false, []⟩])
   (.seq (.seg false [⟨some 9, none, .mov (.t 1), 0, 0, false, []⟩,
    ⟨some 10, none, .call 183 [.t 9] false false, 0, 0, false, []⟩,
    ⟨some 6, none, .mov (.t 10), 0, 0, false, []⟩])
   (.seq (.seq (.seg false [⟨some 11, none, .mov (.t 5), 0, 0, false, []⟩])
   (.cond (.t 11) (.seq (.seq (.seg false [⟨some 12, none, .mov (.t 6), 0, 0, false, []⟩])
   (.cond (.t 12) (.seq (.seg false [⟨some 4, none, .mov (.k (.int .i64 0)), 0, 0, false, []⟩])
   (.ret))
   (.skip)))
   (.seq (.seg false [⟨some 4, none, .mov (.k (.int .i64 (-1))), 0, 0, false, []⟩])
   (.ret)))
   (.skip)))
   (.cutTo [0, 1, 6] (.seq (.seq (.seg false [⟨some 13, none, .mov (.t 6), 0, 0, false, []⟩])
   (.cond (.t 13) (.seq (.seg false [⟨some 4, none, .mov (.k (.int .i64 1)), 0, 0, false, []⟩])
   (.ret))
   (.skip)))
   (.seq (.seq (.seg false [⟨some 14, none, .mov (.t 0), 0, 0, false, []⟩,
    ⟨some 15, none, .mov (.t 1), 0, 0, false, []⟩,
    ⟨some 16, none, .bin .lss (.t 14) (.t 15), 0, 0, false, []⟩])
   (.cond (.t 16) (.seq (.seg false [⟨some 4, none, .mov (.k (.int .i64 (-1))), 0, 0, false, []⟩])
   (.ret))
   (.skip)))
   (.cutTo [0, 1] (.seq (.seq (.seg false [⟨some 17, none, .mov (.t 0), 0, 0, false, []⟩,
    ⟨some 18, none, .mov (.t 1), 0, 0, false, []⟩,
    ⟨some 19, none, .bin .gtr (.t 17) (.t 18), 0, 0, false, []⟩])
   (.cond (.t 19) (.seq (.seg false [⟨some 4, none, .mov (.k (.int .i64 1)), 0, 0, false, []⟩])
   (.ret))
   (.skip)))
   (.cutTo [] (.seq (.seg false [⟨some 4, none, .mov (.k (.int .i64 0)), 0, 0, false, []⟩])
   (.ret)))))))))))⟩
def B145x0 : C := .seq (.seg false [⟨some 9, none, .bin .lss (.t 8) (.t 7), 0, 0, false, []⟩])
   (.seq (.cond (.t 9) (.skip)
   (.exit 0))
   (.seq (.block 1 (.seq (.seg false [⟨some 10, none, .iaddr 1 (.t 6) (.t 8), 0, 0, false, []⟩,
    ⟨some 11, none, .load false 1 (.t 10), 0, 0, false, []⟩,
    ⟨some 5, none, .mov (.t 11), 0, 0, false, []⟩])
   (.seq (.seg false [⟨some 12, none, .mov (.t 5), 0, 0, false, []⟩,
    ⟨some 13, none, .mov (.t 3), 0, 0, false, []⟩,
    ⟨some 14, none, .bin .neq (.t 12) (.t 13), 0, 0, false, []⟩])
   (.cond (.t 14) (.seq (.seg false [⟨some 15, none, .mov (.t 5), 0, 0, false, []⟩,
    ⟨some 2, none, .mov (.t 15), 0, 0, false, []⟩])
   (.ret))
   (.skip)))))
   (.cutTo [3, 6, 7, 8] (.seg false [⟨some 16, none, .bin .add (.t 8) (.k (.int .i64 1)), 0, 0, false, []⟩,
    ⟨some 8, none, .mov (.t 16), 0, 0, false, []⟩]))))
def L145x0 : C := B145x0
theorem evL145x0 (run : Run) (draw : List I → Env → Heap → Option (Env × Heap)) (e : Env) (h : Heap) : evC run draw L145x0 e h = evC run draw B145x0 e h := rfl
/-- cmp.Or<int> -/
def F145 : F := ⟨18, [(false, 2, 0, false)],
   .seq (.seg false [⟨some 2, none, .mov (.k (.int .i64 0)), 0, 0, false, []⟩])
   (.seq (.seg false [⟨some 3, none, .mov (.k (.int .i64 0)), 0, 0, false, []⟩])
   (.seq (.seq (.seg false [⟨some 6, none, .mov (.t 0), 0, 0, false, []⟩,
    ⟨some 7, none, .len false (.t 6), 0, 0, false, []⟩,
    ⟨some 8, none, .mov (.k (.int .i64 0)), 0, 0, false, []⟩])
   (.block 0 (.loop [3, 6, 7, 8] [2, 3] L145x0)))
   (.seq (.seg false [⟨some 17, none, .mov (.t 3), 0, 0, false, []⟩,
    ⟨some 2, none, .mov (.t 17), 0, 0, false, []⟩])
   (.ret))))⟩
/-- loop.example/tablehouse/spec.l20Small -/
def F170 : F := ⟨7, [(false, 2, 0, false)],
   .seq (.seg false [⟨some 2, none, .mov (.k (.sl true 3 [])), 0, 0, false, []⟩])
   (.seq (.seg false [⟨some 3, none, .mov (.t 0), 0, 0, false, []⟩,
    ⟨some 4, none, .call 57 [.t 3, .k (.int .i64 4)] true false, 0, 0, false, []⟩,
    ⟨some 5, none, .build [.int .i64 0, .int .i64 0, .str ⟨#[]⟩] [(0, 1, .k (.int .i64 1)), (1, 1, .t 4)], 0, 0, false, []⟩,
    ⟨some 6, none, .mksl false 3 [.t 5], 0, 0, false, []⟩,
    ⟨some 2, none, .mov (.t 6), 0, 0, false, []⟩])
   (.cutTo [2] (.ret)))⟩
/-- loop.example/tablehouse/spec.l20Any -/
def F171 : F := ⟨10, [(false, 4, 0, false)],
   .seq (.seg false [⟨some 4, none, .mov (.k (.sl true 3 [])), 0, 0, false, []⟩])
   (.seq (.seg false [⟨some 5, none, .mov (.t 0), 0, 0, false, []⟩,
    ⟨some 6, none, .mov (.t 0), 0, 0, false, []⟩,
    ⟨some 7, none, .call 58 [.t 6, .k (.int .i64 0)] true false, 0, 0, false, []⟩,
    ⟨some 8, none, .mov (.t 1), 0, 0, false, []⟩,
    ⟨some 9, none, .call 194 [.t 5, .t 7, .t 8] true false, 0, 0, false, []⟩,
    ⟨some 4, none, .mov (.t 9), 0, 0, false, []⟩])
   (.cutTo [4] (.ret)))⟩
def E158x0 : List I := [⟨some 15, none, .faddr 0 1 (.t 4), 0, 0, false, []⟩,
    ⟨some 16, none, .load false 1 (.t 15), 0, 0, false, []⟩,
    ⟨some 17, none, .call 84 [.t 16, .k (.int .i64 0), .k (.int .i64 4)] false false, 0, 0, false, []⟩,
    ⟨some 18, none, .un .not (.t 17), 0, 0, false, []⟩,
    ⟨some 19, none, .mov (.t 18), 0, 0, false, []⟩,
    ⟨some 20, some (19, false), .faddr 1 1 (.t 4), 0, 0, false, []⟩,
    ⟨some 21, some (19, false), .load false 1 (.t 20), 0, 0, false, []⟩,
    ⟨some 22, some (19, false), .call 138 [.t 21] false false, 0, 0, false, []⟩,
    ⟨some 23, some (19, false), .un .not (.t 22), 0, 0, false, []⟩,
    ⟨some 24, none, .pick (.t 19) (.k (.bool true)) (.t 23), 0, 0, false, []⟩,
    ⟨some 25, none, .mov (.t 24), 0, 0, false, []⟩,
    ⟨some 26, some (25, false), .faddr 2 1 (.t 4), 0, 0, false, []⟩,
    ⟨some 27, some (25, false), .load false 1 (.t 26), 0, 0, false, []⟩,
    ⟨some 28, some (25, false), .mov (.t 27), 0, 0, false, []⟩,
    ⟨some 29, some (28, true), .faddr 1 1 (.t 4), 0, 0, false, []⟩,
    ⟨some 30, some (28, true), .load false 1 (.t 29), 0, 0, false, []⟩,
    ⟨some 31, some (28, true), .len false (.t 30), 0, 0, false, []⟩,
    ⟨some 32, some (28, true), .bin .gtr (.t 31) (.k (.int .i64 0)), 0, 0, false, []⟩,
    ⟨some 33, some (25, false), .pick (.t 28) (.t 32) (.k (.bool false)), 0, 0, false, []⟩,
    ⟨some 34, none, .pick (.t 25) (.k (.bool true)) (.t 33), 0, 0, false, []⟩,
    ⟨some 35, none, .mov (.t 34), 0, 0, false, []⟩,
    ⟨some 36, some (35, false), .mov (.t 3), 0, 0, false, []⟩,
    ⟨some 37, some (35, false), .bin .gtr (.t 36) (.k (.int .i64 0)), 0, 0, false, []⟩,
    ⟨some 38, some (35, false), .mov (.t 37), 0, 0, false, []⟩,
    ⟨some 39, some (38, true), .mov (.t 0), 0, 0, false, []⟩,
    ⟨some 40, some (38, true), .mov (.t 3), 0, 0, false, []⟩,
    ⟨some 41, some (38, true), .bin .sub (.t 40) (.k (.int .i64 1)), 0, 0, false, []⟩,
    ⟨some 42, some (38, true), .iaddr 3 (.t 39) (.t 41), 0, 0, false, []⟩,
    ⟨some 43, some (38, true), .faddr 0 1 (.t 42), 0, 0, false, []⟩,
    ⟨some 44, some (38, true), .load false 1 (.t 43), 0, 0, false, []⟩,
    ⟨some 45, some (38, true), .faddr 0 1 (.t 4), 0, 0, false, []⟩,
    ⟨some 46, some (38, true), .load false 1 (.t 45), 0, 0, false, []⟩,
    ⟨some 47, some (38, true), .bin .geq (.t 44) (.t 46), 0, 0, false, []⟩,
    ⟨some 48, some (35, false), .pick (.t 38) (.t 47) (.k (.bool false)), 0, 0, false, []⟩,
    ⟨some 49, none, .pick (.t 35) (.k (.bool true)) (.t 48), 0, 0, false, []⟩]
def D158x0 : List I := E158x0
theorem evD158x0 (run : Run) (e : Env) (h : Heap) : drawI run D158x0 e h = DrawS (evQ run E158x0 e h) run E158x0 e h := drawI_quiet run _ (by rfl) e h
def B158x0 : C := .seq (.seq (.seg false [⟨some 5, none, .mov (.t 3), 0, 0, false, []⟩,
    ⟨some 6, none, .mov (.t 0), 0, 0, false, []⟩,
    ⟨some 7, none, .len false (.t 6), 0, 0, false, []⟩,
    ⟨some 8, none, .bin .lss (.t 5) (.t 7), 0, 0, false, []⟩])
   (.cutTo [0, 3, 8] (.cond (.t 8) (.skip)
   (.exit 0))))
   (.cutTo [0, 3] (.seq (.block 1 (.seq (.seg false [⟨some 11, none, .mov (.t 0), 0, 0, false, []⟩,
    ⟨some 12, none, .mov (.t 3), 0, 0, false, []⟩,
    ⟨some 13, none, .iaddr 3 (.t 11) (.t 12), 0, 0, false, []⟩,
    ⟨some 14, none, .load true 3 (.t 13), 0, 0, false, []⟩,
    ⟨some 4, none, .alloc [.int .i64 0, .sl true 3 [], .bool false], 0, 0, false, []⟩,
    ⟨none, none, .store 3 (.t 4) (.t 14), 0, 0, false, []⟩])
   (.cutTo [0, 3, 4] (.seq (.seg true D158x0)
   (.cutTo [0, 3, 49] (.cond (.t 49) (.seq (.seg false [⟨some 2, none, .mov (.k (.bool false)), 0, 0, false, []⟩])
   (.ret))
   (.skip)))))))
   (.cutTo [0, 3] (.seg false [⟨some 9, none, .mov (.t 3), 0, 0, false, []⟩,
    ⟨some 10, none, .bin .add (.t 9) (.k (.int .i64 1)), 0, 0, false, []⟩,
    ⟨some 3, none, .mov (.t 10), 0, 0, false, []⟩]))))
def L158x0 : C := B158x0
theorem evL158x0 (run : Run) (draw : List I → Env → Heap → Option (Env × Heap)) (e : Env) (h : Heap) : evC run draw L158x0 e h = evC run draw B158x0 e h := rfl
/-- loop.example/tablehouse/spec.WritesOk -/
def F158 : F := ⟨50, [(false, 2, 0, false)],
   .seq (.seg false [⟨some 2, none, .mov (.k (.bool false)), 0, 0, false, []⟩])
   (.seq (.seq (.seg false [⟨some 3, none, .mov (.k (.int .i64 0)), 0, 0, false, []⟩])
   (.block 0 (.loop [0, 3] [2] L158x0)))
   (.seq (.seg false [⟨some 2, none, .mov (.k (.bool true)), 0, 0, false, []⟩])
   (.ret)))⟩
def E167x0 : List I := [⟨some 24, none, .mov (.t 5), 0, 0, false, [5]⟩,
    ⟨some 25, none, .mov (.t 0), 0, 0, false, []⟩,
    ⟨some 26, none, .mov (.t 6), 0, 0, false, []⟩,
    ⟨some 27, none, .iaddr 4 (.t 25) (.t 26), 0, 0, false, []⟩,
    ⟨some 28, none, .faddr 1 1 (.t 27), 0, 0, false, []⟩,
    ⟨some 29, none, .load false 1 (.t 28), 0, 0, false, []⟩,
    ⟨some 30, none, .mov (.t 0), 0, 0, false, []⟩,
    ⟨some 31, none, .mov (.t 6), 0, 0, false, []⟩,
    ⟨some 32, none, .iaddr 4 (.t 30) (.t 31), 0, 0, false, []⟩,
    ⟨some 33, none, .faddr 2 1 (.t 32), 0, 0, false, []⟩,
    ⟨some 34, none, .load false 1 (.t 33), 0, 0, false, []⟩,
    ⟨some 35, none, .mm true (.t 24) [.t 29, .t 34], 0, 0, false, []⟩,
    ⟨some 5, none, .mov (.t 35), 0, 0, false, []⟩]
def D167x0 : List I := E167x0
theorem evD167x0 (run : Run) (e : Env) (h : Heap) : drawI run D167x0 e h = DrawW (evW run E167x0 e h []) run E167x0 e h := drawI_write run _ e h
def B167x0 : C := .seq (.seq (.seg false [⟨some 7, none, .mov (.t 6), 0, 0, false, []⟩,
    ⟨some 8, none, .mov (.t 0), 0, 0, false, []⟩,
    ⟨some 9, none, .len false (.t 8), 0, 0, false, []⟩,
    ⟨some 10, none, .bin .lss (.t 7) (.t 9), 0, 0, false, []⟩,
    ⟨some 11, none, .mov (.t 10), 0, 0, false, []⟩,
    ⟨some 12, some (11, true), .mov (.t 0), 0, 0, false, []⟩,
    ⟨some 13, some (11, true), .call 62 [.t 12] false false, 0, 0, false, []⟩,
    ⟨some 14, none, .pick (.t 11) (.t 13) (.k (.bool false)), 0, 0, false, []⟩])
   (.cutTo [0, 1, 5, 6, 14] (.cond (.t 14) (.skip)
   (.exit 0))))
   (.cutTo [0, 1, 5, 6] (.seq (.block 1 (.seq (.seg false [⟨some 17, none, .mov (.t 0), 0, 0, false, []⟩,
    ⟨some 18, none, .mov (.t 6), 0, 0, false, []⟩,
    ⟨some 19, none, .iaddr 4 (.t 17) (.t 18), 0, 0, false, []⟩,
    ⟨some 20, none, .faddr 0 1 (.t 19), 0, 0, false, []⟩,
    ⟨some 21, none, .load false 1 (.t 20), 0, 0, false, []⟩,
    ⟨some 22, none, .mov (.t 1), 0, 0, false, []⟩,
    ⟨some 23, none, .bin .eql (.t 21) (.t 22), 0, 0, false, []⟩])
   (.cutTo [0, 1, 5, 6, 23] (.cond (.t 23) (.seg true D167x0)
   (.skip)))))
   (.cutTo [0, 1, 5, 6] (.seg false [⟨some 15, none, .mov (.t 6), 0, 0, false, []⟩,
    ⟨some 16, none, .bin .add (.t 15) (.k (.int .i64 1)), 0, 0, false, []⟩,
    ⟨some 6, none, .mov (.t 16), 0, 0, false, []⟩]))))
def L167x0 : C := B167x0
theorem evL167x0 (run : Run) (draw : List I → Env → Heap → Option (Env × Heap)) (e : Env) (h : Heap) : evC run draw L167x0 e h = evC run draw B167x0 e h := rfl
/-- loop.example/tablehouse/spec.LastTurn -/
def F167 : F := ⟨37, [(false, 4, 0, false)],
   .seq (.seg false [⟨some 4, none, .mov (.k (.int .i64 0)), 0, 0, false, []⟩])
   (.seq (.seg false [⟨some 5, none, .mov (.k (.int .i64 0)), 0, 0, false, []⟩])
   (.seq (.seq (.seg false [⟨some 6, none, .mov (.k (.int .i64 0)), 0, 0, false, []⟩])
   (.block 0 (.loop [0, 1, 5, 6] [5] L167x0)))
   (.seq (.seg false [⟨some 36, none, .mov (.t 5), 0, 0, false, []⟩,
    ⟨some 4, none, .mov (.t 36), 0, 0, false, []⟩])
   (.ret))))⟩
def B168x0 : C := .seq (.seq (.seg false [⟨some 7, none, .mov (.t 4), 0, 0, false, []⟩,
    ⟨some 8, none, .mov (.t 0), 0, 0, false, []⟩,
    ⟨some 9, none, .len false (.t 8), 0, 0, false, []⟩,
    ⟨some 10, none, .bin .lss (.t 7) (.t 9), 0, 0, false, []⟩])
   (.cutTo [0, 3, 4, 10] (.cond (.t 10) (.skip)
   (.exit 0))))
   (.cutTo [0, 3, 4] (.seq (.block 1 (.seq (.seg false [⟨some 13, none, .mov (.t 0), 0, 0, false, []⟩,
    ⟨some 14, none, .mov (.t 4), 0, 0, false, []⟩,
    ⟨some 15, none, .iaddr 4 (.t 13) (.t 14), 0, 0, false, []⟩,
    ⟨some 16, none, .load true 4 (.t 15), 0, 0, false, []⟩,
    ⟨some 5, none, .alloc [.int .i64 0, .int .i64 0, .int .i64 0, .sl true 3 []], 0, 0, false, []⟩,
    ⟨none, none, .store 4 (.t 5) (.t 16), 0, 0, false, []⟩])
   (.cutTo [0, 3, 4, 5] (.seq (.seg false [⟨some 17, none, .faddr 3 1 (.t 5), 0, 0, false, []⟩,
    ⟨some 18, none, .load false 1 (.t 17), 0, 0, false, []⟩,
    ⟨some 19, none, .call 77 [.t 18] false false, 0, 0, false, []⟩,
    ⟨some 20, none, .faddr 3 1 (.t 5), 0, 0, false, []⟩,
    ⟨none, none, .store 1 (.t 20) (.t 19), 0, 0, false, []⟩])
   (.cutTo [0, 3, 4, 5] (.seg false [⟨some 21, none, .mov (.t 3), 0, 0, false, []⟩,
    ⟨some 22, none, .load true 4 (.t 5), 0, 0, false, []⟩,
    ⟨some 23, none, .mksl false 4 [.t 22], 0, 0, false, []⟩,
    ⟨some 24, none, .app 4 (.t 21) (.t 23), 0, 0, false, []⟩,
    ⟨some 3, none, .mov (.t 24), 0, 0, false, []⟩]))))))
   (.cutTo [0, 3, 4] (.seg false [⟨some 11, none, .mov (.t 4), 0, 0, false, []⟩,
    ⟨some 12, none, .bin .add (.t 11) (.k (.int .i64 1)), 0, 0, false, []⟩,
    ⟨some 4, none, .mov (.t 12), 0, 0, false, []⟩]))))
def L168x0 : C := B168x0
theorem evL168x0 (run : Run) (draw : List I → Env → Heap → Option (Env × Heap)) (e : Env) (h : Heap) : evC run draw L168x0 e h = evC run draw B168x0 e h := rfl
/-- loop.example/tablehouse/spec.l13Copy -/
def F168 : F := ⟨26, [(false, 2, 0, false)],
   .seq (.seg false [⟨some 2, none, .nilrow 4, 0, 0, false, []⟩])
   (.seq (.seg false [⟨some 6, none, .mksl true 4 [], 0, 0, false, []⟩,
    ⟨some 3, none, .mov (.t 6), 0, 0, false, []⟩])
   (.seq (.seq (.seg false [⟨some 4, none, .mov (.k (.int .i64 0)), 0, 0, false, []⟩])
   (.block 0 (.loopk [0, 3, 4] [3] L168x0)))
   (.seq (.seg false [⟨some 25, none, .mov (.t 3), 0, 0, false, []⟩,
    ⟨some 2, none, .mov (.t 25), 0, 0, false, []⟩])
   (.ret))))⟩
def E169x0 : List I := [⟨some 33, none, .mov (.t 7), 0, 0, false, [7]⟩,
    ⟨some 34, none, .faddr 0 1 (.t 4), 0, 0, false, []⟩,
    ⟨some 35, none, .load false 1 (.t 34), 0, 0, false, []⟩,
    ⟨some 36, none, .mov (.t 2), 0, 0, false, []⟩,
    ⟨some 37, none, .faddr 1 1 (.t 4), 0, 0, false, []⟩,
    ⟨some 38, none, .load false 1 (.t 37), 0, 0, false, []⟩,
    ⟨some 39, none, .call 77 [.t 38] false false, 0, 0, false, []⟩,
    ⟨some 40, none, .build [.int .i64 0, .int .i64 0, .int .i64 0, .sl true 3 []] [(0, 1, .t 35), (1, 1, .t 36), (3, 1, .t 39)], 0, 0, false, []⟩,
    ⟨some 41, none, .mksl false 4 [.t 40], 0, 0, false, []⟩,
    ⟨some 42, none, .app 4 (.t 33) (.t 41), 0, 0, true, []⟩,
    ⟨some 7, none, .mov (.t 42), 1, 1, false, []⟩]
def D169x0 : List I := E169x0
theorem evD169x0 (run : Run) (e : Env) (h : Heap) : drawI run D169x0 e h = DrawW (evW run E169x0 e h []) run E169x0 e h := drawI_write run _ e h
def E169x1 : List I := [⟨some 61, none, .mov (.t 7), 0, 0, false, [7]⟩,
    ⟨some 62, none, .faddr 0 1 (.t 4), 0, 0, false, []⟩,
    ⟨some 63, none, .load false 1 (.t 62), 0, 0, false, []⟩,
    ⟨some 64, none, .mov (.t 2), 0, 0, false, []⟩,
    ⟨some 65, none, .faddr 1 1 (.t 4), 0, 0, false, []⟩,
    ⟨some 66, none, .load false 1 (.t 65), 0, 0, false, []⟩,
    ⟨some 67, none, .call 77 [.t 66] false false, 0, 0, false, []⟩,
    ⟨some 68, none, .build [.int .i64 0, .int .i64 0, .int .i64 0, .sl true 3 []] [(0, 1, .t 63), (1, 1, .t 64), (3, 1, .t 67)], 0, 0, false, []⟩,
    ⟨some 69, none, .mksl false 4 [.t 68], 0, 0, false, []⟩,
    ⟨some 70, none, .app 4 (.t 61) (.t 69), 0, 0, true, []⟩,
    ⟨some 7, none, .mov (.t 70), 1, 1, false, []⟩]
def D169x1 : List I := E169x1
theorem evD169x1 (run : Run) (e : Env) (h : Heap) : drawI run D169x1 e h = DrawW (evW run E169x1 e h []) run E169x1 e h := drawI_write run _ e h
def B169x0 : C := .seq (.seq (.seg false [⟨some 14, none, .mov (.t 9), 0, 0, false, []⟩,
    ⟨some 15, none, .mov (.t 0), 0, 0, false, []⟩,
    ⟨some 16, none, .len false (.t 15), 0, 0, false, []⟩,
    ⟨some 17, none, .bin .lss (.t 14) (.t 16), 0, 0, false, []⟩])
   (.cutTo [0, 2, 4, 7, 8, 9, 17] (.cond (.t 17) (.skip)
   (.exit 0))))
   (.cutTo [0, 2, 4, 7, 8, 9] (.seq (.block 1 (.seq (.seg false [⟨some 20, none, .mov (.t 0), 0, 0, false, []⟩,
    ⟨some 21, none, .mov (.t 9), 0, 0, false, []⟩,
    ⟨some 22, none, .iaddr 4 (.t 20) (.t 21), 0, 0, false, []⟩,
    ⟨some 23, none, .load true 4 (.t 22), 0, 0, false, []⟩,
    ⟨some 10, none, .alloc [.int .i64 0, .int .i64 0, .int .i64 0, .sl true 3 []], 0, 0, false, []⟩,
    ⟨none, none, .store 4 (.t 10) (.t 23), 0, 0, false, []⟩])
   (.cutTo [0, 2, 4, 7, 8, 9, 10] (.seq (.seq (.seg false [⟨some 24, none, .faddr 0 1 (.t 10), 0, 0, false, []⟩,
    ⟨some 25, none, .load false 1 (.t 24), 0, 0, false, []⟩,
    ⟨some 26, none, .faddr 0 1 (.t 4), 0, 0, false, []⟩,
    ⟨some 27, none, .load false 1 (.t 26), 0, 0, false, []⟩,
    ⟨some 28, none, .bin .gtr (.t 25) (.t 27), 0, 0, false, []⟩,
    ⟨some 29, none, .mov (.t 28), 0, 0, false, []⟩,
    ⟨some 30, some (29, true), .mov (.t 8), 0, 0, false, []⟩,
    ⟨some 31, some (29, true), .un .not (.t 30), 0, 0, false, []⟩,
    ⟨some 32, none, .pick (.t 29) (.t 31) (.k (.bool false)), 0, 0, false, []⟩])
   (.cutTo [0, 2, 4, 7, 8, 9, 10, 32] (.cond (.t 32) (.seq (.seg true D169x0)
   (.cutTo [0, 2, 4, 7, 9, 10] (.seg false [⟨some 8, none, .mov (.k (.bool true)), 0, 0, false, []⟩])))
   (.skip))))
   (.cutTo [0, 2, 4, 7, 8, 9, 10] (.seq (.seq (.seg false [⟨some 43, none, .faddr 0 1 (.t 10), 0, 0, false, []⟩,
    ⟨some 44, none, .load false 1 (.t 43), 0, 0, false, []⟩,
    ⟨some 45, none, .faddr 0 1 (.t 4), 0, 0, false, []⟩,
    ⟨some 46, none, .load false 1 (.t 45), 0, 0, false, []⟩,
    ⟨some 47, none, .bin .eql (.t 44) (.t 46), 0, 0, false, []⟩,
    ⟨some 48, none, .mov (.t 47), 0, 0, false, []⟩,
    ⟨some 49, some (48, true), .faddr 2 1 (.t 10), 0, 0, false, []⟩,
    ⟨some 50, some (48, true), .load false 1 (.t 49), 0, 0, false, []⟩,
    ⟨some 51, some (48, true), .bin .eql (.t 50) (.k (.int .i64 0)), 0, 0, false, []⟩,
    ⟨some 52, none, .pick (.t 48) (.t 51) (.k (.bool false)), 0, 0, false, []⟩])
   (.cutTo [0, 2, 4, 7, 8, 9, 10, 52] (.cond (.t 52) (.seg false [⟨some 53, none, .mov (.t 2), 0, 0, false, []⟩,
    ⟨some 54, none, .faddr 2 1 (.t 10), 0, 0, false, []⟩,
    ⟨none, none, .store 1 (.t 54) (.t 53), 0, 0, false, []⟩])
   (.skip))))
   (.cutTo [0, 2, 4, 7, 8, 9, 10] (.seg false [⟨some 55, none, .mov (.t 7), 0, 0, false, []⟩,
    ⟨some 56, none, .load true 4 (.t 10), 0, 0, false, []⟩,
    ⟨some 57, none, .mksl false 4 [.t 56], 0, 0, false, []⟩,
    ⟨some 58, none, .app 4 (.t 55) (.t 57), 0, 0, false, []⟩,
    ⟨some 7, none, .mov (.t 58), 0, 0, false, []⟩]))))))))
   (.cutTo [0, 2, 4, 7, 8, 9] (.seg false [⟨some 18, none, .mov (.t 9), 0, 0, false, []⟩,
    ⟨some 19, none, .bin .add (.t 18) (.k (.int .i64 1)), 0, 0, false, []⟩,
    ⟨some 9, none, .mov (.t 19), 0, 0, false, []⟩]))))
def L169x0 : C := B169x0
theorem evL169x0 (run : Run) (draw : List I → Env → Heap → Option (Env × Heap)) (e : Env) (h : Heap) : evC run draw L169x0 e h = evC run draw B169x0 e h := rfl
/-- loop.example/tablehouse/spec.l13Written -/
def F169 : F := ⟨72, [(false, 6, 0, false)],
   .seq (.seg false [⟨some 4, none, .box (.t 1), 0, 0, false, []⟩,
    ⟨some 6, none, .nilrow 4, 0, 0, false, []⟩])
   (.seq (.seg false [⟨some 11, none, .mksl true 4 [], 0, 0, false, []⟩,
    ⟨some 7, none, .mov (.t 11), 0, 0, false, []⟩])
   (.seq (.seg false [⟨some 12, none, .faddr 2 1 (.t 4), 0, 0, false, []⟩,
    ⟨some 13, none, .load false 1 (.t 12), 0, 0, false, []⟩,
    ⟨some 8, none, .mov (.t 13), 0, 0, false, []⟩])
   (.seq (.seq (.seg false [⟨some 9, none, .mov (.k (.int .i64 0)), 0, 0, false, []⟩])
   (.block 0 (.loop [0, 2, 4, 7, 8, 9] [2, 4, 7, 8] L169x0)))
   (.seq (.seq (.seg false [⟨some 59, none, .mov (.t 8), 0, 0, false, []⟩,
    ⟨some 60, none, .un .not (.t 59), 0, 0, false, []⟩])
   (.cond (.t 60) (.seg true D169x1)
   (.skip)))
   (.cutTo [7] (.seq (.seg false [⟨some 71, none, .mov (.t 7), 0, 0, false, []⟩,
    ⟨some 6, none, .mov (.t 71), 0, 0, false, []⟩])
   (.ret)))))))⟩
/-- loop.example/tablehouse/impl.clone<loop.example/tablehouse/impl.Column> -/
def F172 : F := ⟨9, [(false, 2, 0, false)],
   .seq (.seg false [⟨some 2, none, .mov (.k (.sl true 2 [])), 0, 0, false, []⟩])
   (.seq (.seq (.seg false [⟨some 3, none, .mov (.t 0), 0, 0, false, []⟩,
    ⟨some 4, none, .len false (.t 3), 0, 0, false, []⟩,
    ⟨some 5, none, .bin .eql (.t 4) (.k (.int .i64 0)), 0, 0, false, []⟩])
   (.cond (.t 5) (.seq (.seg false [⟨some 2, none, .mov (.k (.sl true 2 [])), 0, 0, false, []⟩])
   (.ret))
   (.skip)))
   (.cutTo [0] (.seq (.seg false [⟨some 6, none, .mov (.t 0), 0, 0, false, []⟩,
    ⟨some 7, none, .app 2 (.k (.sl true 2 [])) (.t 6), 0, 0, false, []⟩,
    ⟨some 8, none, .callx 2 195 [.t 7], 0, 0, false, []⟩,
    ⟨some 2, none, .mov (.t 8), 0, 0, false, []⟩])
   (.cutTo [2] (.ret)))))⟩
/-- loop.example/tablehouse/spec.l13Seen -/
def F173 : F := ⟨20, [(false, 4, 0, false)],
   .seq (.seg false [⟨some 2, none, .box (.t 0), 0, 0, false, []⟩,
    ⟨some 4, none, .mov (.k (.bool false)), 0, 0, false, []⟩])
   (.seq (.seg false [⟨some 5, none, .faddr 1 1 (.t 2), 0, 0, false, []⟩,
    ⟨some 6, none, .load false 1 (.t 5), 0, 0, false, []⟩,
    ⟨some 7, none, .mov (.t 1), 0, 0, false, []⟩,
    ⟨some 8, none, .bin .leq (.t 6) (.t 7), 0, 0, false, []⟩,
    ⟨some 9, none, .mov (.t 8), 0, 0, false, []⟩,
    ⟨some 10, some (9, true), .faddr 2 1 (.t 2), 0, 0, false, []⟩,
    ⟨some 11, some (9, true), .load false 1 (.t 10), 0, 0, false, []⟩,
    ⟨some 12, some (9, true), .bin .eql (.t 11) (.k (.int .i64 0)), 0, 0, false, []⟩,
    ⟨some 13, some (9, true), .mov (.t 12), 0, 0, false, []⟩,
    ⟨some 14, some (13, false), .mov (.t 1), 0, 0, false, []⟩,
    ⟨some 15, some (13, false), .faddr 2 1 (.t 2), 0, 0, false, []⟩,
    ⟨some 16, some (13, false), .load false 1 (.t 15), 0, 0, false, []⟩,
    ⟨some 17, some (13, false), .bin .lss (.t 14) (.t 16), 0, 0, false, []⟩,
    ⟨some 18, some (9, true), .pick (.t 13) (.k (.bool true)) (.t 17), 0, 0, false, []⟩,
    ⟨some 19, none, .pick (.t 9) (.t 18) (.k (.bool false)), 0, 0, false, []⟩,
    ⟨some 4, none, .mov (.t 19), 0, 0, false, []⟩])
   (.cutTo [4] (.ret)))⟩
/-- slices.Clip<<>loop.example/tablehouse/impl.Value,loop.example/tablehouse/impl.Value> -/
def F174 : F := ⟨9, [(false, 2, 0, false)],
   .seq (.seg false [⟨some 2, none, .mov (.k (.sl true 3 [])), 0, 0, false, []⟩])
   (.seq (.seg false [⟨some 3, none, .mov (.t 0), 0, 0, false, []⟩,
    ⟨some 4, none, .mov (.t 0), 0, 0, false, []⟩,
    ⟨some 5, none, .len false (.t 4), 0, 0, false, []⟩,
    ⟨some 6, none, .mov (.t 0), 0, 0, false, []⟩,
    ⟨some 7, none, .len false (.t 6), 0, 0, false, []⟩,
    ⟨some 8, none, .slc false 3 (.t 3) none (some (.t 5)) (some (.t 7)), 0, 0, false, []⟩,
    ⟨some 2, none, .mov (.t 8), 0, 0, false, []⟩])
   (.cutTo [2] (.ret)))⟩
/-- slices.ContainsFunc<<>loop.example/tablehouse/impl.Column,loop.example/tablehouse/impl.Column> -/
def F128 : F := ⟨9, [(false, 4, 0, false)],
   .seq (.seg false [⟨some 4, none, .mov (.k (.bool false)), 0, 0, false, []⟩])
   (.seq (.seg false [⟨some 5, none, .mov (.t 0), 0, 0, false, []⟩,
    ⟨some 6, none, .mov (.t 1), 0, 0, false, []⟩,
    ⟨some 7, none, .call 175 [.t 5, .t 6] true false, 0, 0, false, []⟩,
    ⟨some 8, none, .bin .geq (.t 7) (.k (.int .i64 0)), 0, 0, false, []⟩,
    ⟨some 4, none, .mov (.t 8), 0, 0, false, []⟩])
   (.cutTo [4] (.ret)))⟩
/-- loop.example/tablehouse/impl.ColumnsOk$1 -/
def F129 : F := ⟨7, [(false, 2, 0, false)],
   .seq (.seg false [⟨some 1, none, .box (.t 0), 0, 0, false, []⟩,
    ⟨some 2, none, .mov (.k (.bool false)), 0, 0, false, []⟩])
   (.seq (.seg false [⟨some 3, none, .faddr 0 1 (.t 1), 0, 0, false, []⟩,
    ⟨some 4, none, .load false 1 (.t 3), 0, 0, false, []⟩,
    ⟨some 5, none, .call 79 [.t 4, .k (.int .i64 1), .k (.int .i64 3)] false false, 0, 0, false, []⟩,
    ⟨some 6, none, .un .not (.t 5), 0, 0, false, []⟩,
    ⟨some 2, none, .mov (.t 6), 0, 0, false, []⟩])
   (.cutTo [2] (.ret)))⟩
/-- loop.example/tablehouse/impl.RowsOk$1 -/
def F131 : F := ⟨8, [(false, 3, 0, false)],
   .seq (.seg false [⟨some 3, none, .mov (.k (.bool false)), 0, 0, false, []⟩])
   (.seq (.seg false [⟨some 4, none, .load false 1 (.t 1), 0, 0, false, []⟩,
    ⟨some 5, none, .mov (.t 0), 0, 0, false, []⟩,
    ⟨some 6, none, .call 132 [.t 4, .t 5] false false, 0, 0, false, []⟩,
    ⟨some 7, none, .un .not (.t 6), 0, 0, false, []⟩,
    ⟨some 3, none, .mov (.t 7), 0, 0, false, []⟩])
   (.cutTo [3] (.ret)))⟩
/-- slices.ContainsFunc<<><>loop.example/tablehouse/impl.Value,<>loop.example/tablehouse/impl.Value> -/
def F130 : F := ⟨9, [(false, 4, 0, false)],
   .seq (.seg false [⟨some 4, none, .mov (.k (.bool false)), 0, 0, false, []⟩])
   (.seq (.seg false [⟨some 5, none, .mov (.t 0), 0, 0, false, []⟩,
    ⟨some 6, none, .mov (.t 1), 0, 0, false, []⟩,
    ⟨some 7, none, .call 176 [.t 5, .t 6] true false, 0, 0, false, []⟩,
    ⟨some 8, none, .bin .geq (.t 7) (.k (.int .i64 0)), 0, 0, false, []⟩,
    ⟨some 4, none, .mov (.t 8), 0, 0, false, []⟩])
   (.cutTo [4] (.ret)))⟩
def B150x0 : C := .seq (.seg false [⟨some 9, none, .bin .lss (.t 8) (.t 7), 0, 0, false, []⟩])
   (.seq (.cond (.t 9) (.skip)
   (.exit 0))
   (.seq (.block 1 (.seq (.seg false [⟨some 10, none, .iaddr 1 (.t 6) (.t 8), 0, 0, false, []⟩,
    ⟨some 11, none, .load false 1 (.t 10), 0, 0, false, []⟩,
    ⟨some 4, none, .mov (.t 11), 0, 0, false, []⟩])
   (.seq (.seg false [⟨some 12, none, .mov (.t 4), 0, 0, false, []⟩,
    ⟨some 13, none, .conv (.int .i64) (.t 12), 0, 0, false, []⟩,
    ⟨some 14, none, .call 79 [.t 13, .k (.int .i64 97), .k (.int .i64 122)] false false, 0, 0, false, []⟩,
    ⟨some 15, none, .un .not (.t 14), 0, 0, false, []⟩])
   (.cutTo [6, 7, 8, 15] (.cond (.t 15) (.seq (.seg false [⟨some 2, none, .mov (.k (.bool false)), 0, 0, false, []⟩])
   (.ret))
   (.skip))))))
   (.cutTo [6, 7, 8] (.seg false [⟨some 16, none, .bin .add (.t 8) (.k (.int .i64 1)), 0, 0, false, []⟩,
    ⟨some 8, none, .mov (.t 16), 0, 0, false, []⟩]))))
def L150x0 : C := B150x0
theorem evL150x0 (run : Run) (draw : List I → Env → Heap → Option (Env × Heap)) (e : Env) (h : Heap) : evC run draw L150x0 e h = evC run draw B150x0 e h := rfl
/-- loop.example/tablehouse/impl.letters -/
def F150 : F := ⟨17, [(false, 2, 0, false)],
   .seq (.seg false [⟨some 2, none, .mov (.k (.bool false)), 0, 0, false, []⟩])
   (.seq (.seq (.seg false [⟨some 5, none, .mov (.t 0), 0, 0, false, []⟩,
    ⟨some 6, none, .conv .toBytes (.t 5), 0, 0, false, []⟩,
    ⟨some 7, none, .len false (.t 6), 0, 0, false, []⟩,
    ⟨some 8, none, .mov (.k (.int .i64 0)), 0, 0, false, []⟩])
   (.cutTo [6, 7, 8] (.block 0 (.loop [6, 7, 8] [2] L150x0))))
   (.cutTo [] (.seq (.seg false [⟨some 2, none, .mov (.k (.bool true)), 0, 0, false, []⟩])
   (.ret))))⟩
def B177x0 : C := .seq (.seg false [⟨some 9, none, .bin .lss (.t 8) (.t 7), 0, 0, false, []⟩])
   (.seq (.cond (.t 9) (.skip)
   (.exit 0))
   (.seq (.block 1 (.seq (.seg false [⟨some 10, none, .mov (.t 8), 0, 0, false, []⟩,
    ⟨some 5, none, .mov (.t 10), 0, 0, false, []⟩])
   (.seq (.seg false [⟨some 11, none, .mov (.t 1), 0, 0, false, []⟩,
    ⟨some 12, none, .mov (.t 0), 0, 0, false, []⟩,
    ⟨some 13, none, .mov (.t 5), 0, 0, false, []⟩,
    ⟨some 14, none, .iaddr 3 (.t 12) (.t 13), 0, 0, false, []⟩,
    ⟨some 15, none, .load true 3 (.t 14), 0, 0, false, []⟩,
    ⟨some 16, none, .callv (.t 11) [.t 15] false, 0, 0, false, []⟩])
   (.cutTo [0, 1, 5, 7, 8, 16] (.cond (.t 16) (.seq (.seg false [⟨some 17, none, .mov (.t 5), 0, 0, false, []⟩,
    ⟨some 4, none, .mov (.t 17), 0, 0, false, []⟩])
   (.ret))
   (.skip))))))
   (.cutTo [0, 1, 7, 8] (.seg false [⟨some 18, none, .bin .add (.t 8) (.k (.int .i64 1)), 0, 0, false, []⟩,
    ⟨some 8, none, .mov (.t 18), 0, 0, false, []⟩]))))
def L177x0 : C := B177x0
theorem evL177x0 (run : Run) (draw : List I → Env → Heap → Option (Env × Heap)) (e : Env) (h : Heap) : evC run draw L177x0 e h = evC run draw B177x0 e h := rfl
/-- slices.IndexFunc<<>loop.example/tablehouse/impl.Value,loop.example/tablehouse/impl.Value> -/
def F177 : F := ⟨19, [(false, 4, 0, false)],
   .seq (.seg false [⟨some 4, none, .mov (.k (.int .i64 0)), 0, 0, false, []⟩])
   (.seq (.seq (.seg false [⟨some 6, none, .mov (.t 0), 0, 0, false, []⟩,
    ⟨some 7, none, .len false (.t 6), 0, 0, false, []⟩,
    ⟨some 8, none, .mov (.k (.int .i64 0)), 0, 0, false, []⟩])
   (.block 0 (.loop [0, 1, 7, 8] [4] L177x0)))
   (.seq (.seg false [⟨some 4, none, .mov (.k (.int .i64 (-1))), 0, 0, false, []⟩])
   (.ret)))⟩
/-- loop.example/tablehouse/laws.szValue -/
def F178 : F := ⟨13, [(false, 4, 0, false)],
   .seq (.seg false [⟨some 2, none, .box (.t 0), 0, 0, false, []⟩,
    ⟨some 4, none, .mov (.k (.int .i64 0)), 0, 0, false, []⟩])
   (.seq (.seg false [⟨some 5, none, .mov (.t 1), 0, 0, false, []⟩,
    ⟨some 6, none, .faddr 2 1 (.t 2), 0, 0, false, []⟩,
    ⟨some 7, none, .load false 1 (.t 6), 0, 0, false, []⟩,
    ⟨some 8, none, .len true (.t 7), 0, 0, false, []⟩,
    ⟨some 9, none, .bin .sub (.t 5) (.t 8), 0, 0, false, []⟩,
    ⟨some 1, none, .mov (.t 9), 0, 0, false, []⟩])
   (.cutTo [1] (.seq (.seq (.seg false [⟨some 10, none, .mov (.t 1), 0, 0, false, []⟩,
    ⟨some 11, none, .bin .lss (.t 10) (.k (.int .i64 0)), 0, 0, false, []⟩])
   (.cond (.t 11) (.seq (.seg false [⟨some 4, none, .mov (.k (.int .i64 (-1))), 0, 0, false, []⟩])
   (.ret))
   (.skip)))
   (.seq (.seg false [⟨some 12, none, .mov (.t 1), 0, 0, false, []⟩,
    ⟨some 4, none, .mov (.t 12), 0, 0, false, []⟩])
   (.ret)))))⟩
/-- loop.example/tablehouse/laws.toValue -/
def F179 : F := ⟨14, [(true, 2, 3, true)],
   .seq (.seg false [⟨some 1, none, .box (.t 0), 0, 0, false, []⟩,
    ⟨some 2, none, .alloc [.int .i64 0, .int .i64 0, .str ⟨#[]⟩], 0, 0, false, []⟩])
   (.seq (.seg false [⟨some 3, none, .alloc [.int .i64 0, .int .i64 0, .str ⟨#[]⟩], 0, 0, false, []⟩])
   (.seq (.seg false [⟨some 4, none, .faddr 0 1 (.t 1), 0, 0, false, []⟩,
    ⟨some 5, none, .load false 1 (.t 4), 0, 0, false, []⟩,
    ⟨some 6, none, .faddr 0 1 (.t 3), 0, 0, false, []⟩,
    ⟨none, none, .store 1 (.t 6) (.t 5), 0, 0, false, []⟩])
   (.cutTo [1, 2, 3] (.seq (.seg false [⟨some 7, none, .faddr 1 1 (.t 1), 0, 0, false, []⟩,
    ⟨some 8, none, .load false 1 (.t 7), 0, 0, false, []⟩,
    ⟨some 9, none, .faddr 1 1 (.t 3), 0, 0, false, []⟩,
    ⟨none, none, .store 1 (.t 9) (.t 8), 0, 0, false, []⟩])
   (.cutTo [1, 2, 3] (.seq (.seg false [⟨some 10, none, .faddr 2 1 (.t 1), 0, 0, false, []⟩,
    ⟨some 11, none, .load false 1 (.t 10), 0, 0, false, []⟩,
    ⟨some 12, none, .faddr 2 1 (.t 3), 0, 0, false, []⟩,
    ⟨none, none, .store 1 (.t 12) (.t 11), 0, 0, false, []⟩])
   (.cutTo [2, 3] (.seq (.seg false [⟨some 13, none, .load true 3 (.t 3), 0, 0, false, []⟩,
    ⟨none, none, .store 3 (.t 2) (.t 13), 0, 0, false, []⟩])
   (.ret)))))))))⟩
/-- loop.example/tablehouse/spec.ValueOk -/
def F101 : F := ⟨45, [(false, 2, 0, false)],
   .seq (.seg false [⟨some 1, none, .box (.t 0), 0, 0, false, []⟩,
    ⟨some 2, none, .mov (.k (.bool false)), 0, 0, false, []⟩])
   (.seq (.seq (.seg false [⟨some 3, none, .faddr 0 1 (.t 1), 0, 0, false, []⟩,
    ⟨some 4, none, .load false 1 (.t 3), 0, 0, false, []⟩])
   (.block 0 (.seq (.seg false [⟨some 6, none, .bin .eql (.t 4) (.k (.int .i64 0)), 0, 0, false, []⟩,
    ⟨some 5, none, .mov (.t 6), 0, 0, false, []⟩])
   (.cond (.t 5) (.seq (.seg false [⟨some 7, none, .faddr 1 1 (.t 1), 0, 0, false, []⟩,
    ⟨some 8, none, .load false 1 (.t 7), 0, 0, false, []⟩,
    ⟨some 9, none, .bin .eql (.t 8) (.k (.int .i64 0)), 0, 0, false, []⟩,
    ⟨some 10, none, .mov (.t 9), 0, 0, false, []⟩,
    ⟨some 11, some (10, true), .faddr 2 1 (.t 1), 0, 0, false, []⟩,
    ⟨some 12, some (10, true), .load false 1 (.t 11), 0, 0, false, []⟩,
    ⟨some 13, some (10, true), .bin .eql (.t 12) (.k (.str ⟨#[]⟩)), 0, 0, false, []⟩,
    ⟨some 14, none, .pick (.t 10) (.t 13) (.k (.bool false)), 0, 0, false, []⟩,
    ⟨some 2, none, .mov (.t 14), 0, 0, false, []⟩])
   (.cutTo [2] (.ret)))
   (.seq (.seg false [⟨some 16, none, .bin .eql (.t 4) (.k (.int .i64 1)), 0, 0, false, []⟩,
    ⟨some 15, none, .mov (.t 16), 0, 0, false, []⟩])
   (.cond (.t 15) (.seq (.seg false [⟨some 17, none, .faddr 1 1 (.t 1), 0, 0, false, []⟩,
    ⟨some 18, none, .load false 1 (.t 17), 0, 0, false, []⟩,
    ⟨some 19, none, .call 84 [.t 18, .k (.int .i64 (-9999)), .k (.int .i64 9999)] false false, 0, 0, false, []⟩,
    ⟨some 20, none, .mov (.t 19), 0, 0, false, []⟩,
    ⟨some 21, some (20, true), .faddr 2 1 (.t 1), 0, 0, false, []⟩,
    ⟨some 22, some (20, true), .load false 1 (.t 21), 0, 0, false, []⟩,
    ⟨some 23, some (20, true), .bin .eql (.t 22) (.k (.str ⟨#[]⟩)), 0, 0, false, []⟩,
    ⟨some 24, none, .pick (.t 20) (.t 23) (.k (.bool false)), 0, 0, false, []⟩,
    ⟨some 2, none, .mov (.t 24), 0, 0, false, []⟩])
   (.cutTo [2] (.ret)))
   (.seq (.seg false [⟨some 26, none, .bin .eql (.t 4) (.k (.int .i64 2)), 0, 0, false, []⟩,
    ⟨some 25, none, .mov (.t 26), 0, 0, false, []⟩])
   (.cond (.t 25) (.seq (.seg false [⟨some 27, none, .faddr 1 1 (.t 1), 0, 0, false, []⟩,
    ⟨some 28, none, .load false 1 (.t 27), 0, 0, false, []⟩,
    ⟨some 29, none, .bin .eql (.t 28) (.k (.int .i64 0)), 0, 0, false, []⟩,
    ⟨some 30, none, .mov (.t 29), 0, 0, false, []⟩,
    ⟨some 31, some (30, true), .faddr 2 1 (.t 1), 0, 0, false, []⟩,
    ⟨some 32, some (30, true), .load false 1 (.t 31), 0, 0, false, []⟩,
    ⟨some 33, some (30, true), .call 152 [.t 32] false false, 0, 0, false, []⟩,
    ⟨some 34, none, .pick (.t 30) (.t 33) (.k (.bool false)), 0, 0, false, []⟩,
    ⟨some 2, none, .mov (.t 34), 0, 0, false, []⟩])
   (.cutTo [2] (.ret)))
   (.seq (.seg false [⟨some 36, none, .bin .eql (.t 4) (.k (.int .i64 3)), 0, 0, false, []⟩,
    ⟨some 35, none, .mov (.t 36), 0, 0, false, []⟩])
   (.cond (.t 35) (.seq (.seg false [⟨some 37, none, .faddr 1 1 (.t 1), 0, 0, false, []⟩,
    ⟨some 38, none, .load false 1 (.t 37), 0, 0, false, []⟩,
    ⟨some 39, none, .call 84 [.t 38, .k (.int .i64 0), .k (.int .i64 1)] false false, 0, 0, false, []⟩,
    ⟨some 40, none, .mov (.t 39), 0, 0, false, []⟩,
    ⟨some 41, some (40, true), .faddr 2 1 (.t 1), 0, 0, false, []⟩,
    ⟨some 42, some (40, true), .load false 1 (.t 41), 0, 0, false, []⟩,
    ⟨some 43, some (40, true), .bin .eql (.t 42) (.k (.str ⟨#[]⟩)), 0, 0, false, []⟩,
    ⟨some 44, none, .pick (.t 40) (.t 43) (.k (.bool false)), 0, 0, false, []⟩,
    ⟨some 2, none, .mov (.t 44), 0, 0, false, []⟩])
   (.cutTo [2] (.ret)))
   (.skip)))))))))))
   (.cutTo [] (.seq (.seg false [⟨some 2, none, .mov (.k (.bool false)), 0, 0, false, []⟩])
   (.ret))))⟩
/-- loop.example/tablehouse/spec.ValueOrder -/
def F109 : F := ⟨44, [(false, 4, 0, false)],
   .seq (.seg false [⟨some 2, none, .box (.t 0), 0, 0, false, []⟩,
    ⟨some 3, none, .box (.t 1), 0, 0, false, []⟩,
    ⟨some 4, none, .mov (.k (.int .i64 0)), 0, 0, false, []⟩])
   (.seq (.seq (.seg false [⟨some 5, none, .load true 3 (.t 2), 0, 0, false, []⟩,
    ⟨some 6, none, .call 101 [.t 5] false false, 0, 0, false, []⟩,
    ⟨some 7, none, .un .not (.t 6), 0, 0, false, []⟩,
    ⟨some 8, none, .mov (.t 7), 0, 0, false, []⟩,
    ⟨some 9, some (8, false), .load true 3 (.t 3), 0, 0, false, []⟩,
    ⟨some 10, some (8, false), .call 101 [.t 9] false false, 0, 0, false, []⟩,
    ⟨some 11, some (8, false), .un .not (.t 10), 0, 0, false, []⟩,
    ⟨some 12, none, .pick (.t 8) (.k (.bool true)) (.t 11), 0, 0, false, []⟩])
   (.cutTo [2, 3, 12] (.cond (.t 12) (.seq (.seg false [⟨some 4, none, .mov (.k (.int .i64 0)), 0, 0, false, []⟩])
   (.ret))
   (.skip))))
   (.cutTo [2, 3] (.seq (.block 0 (.seq (.seg false [⟨some 14, none, .faddr 0 1 (.t 2), 0, 0, false, []⟩,
    ⟨some 15, none, .load false 1 (.t 14), 0, 0, false, []⟩,
    ⟨some 16, none, .faddr 0 1 (.t 3), 0, 0, false, []⟩,
    ⟨some 17, none, .load false 1 (.t 16), 0, 0, false, []⟩,
    ⟨some 18, none, .bin .neq (.t 15) (.t 17), 0, 0, false, []⟩,
    ⟨some 13, none, .mov (.t 18), 0, 0, false, []⟩])
   (.cutTo [2, 3, 13] (.cond (.t 13) (.seq (.seg false [⟨some 19, none, .faddr 0 1 (.t 3), 0, 0, false, []⟩,
    ⟨some 20, none, .load false 1 (.t 19), 0, 0, false, []⟩,
    ⟨some 21, none, .faddr 0 1 (.t 2), 0, 0, false, []⟩,
    ⟨some 22, none, .load false 1 (.t 21), 0, 0, false, []⟩,
    ⟨some 23, none, .call 155 [.t 20, .t 22] false false, 0, 0, false, []⟩,
    ⟨some 24, none, .bin .mul (.k (.int .i64 2)) (.t 23), 0, 0, false, []⟩,
    ⟨some 25, none, .bin .sub (.t 24) (.k (.int .i64 1)), 0, 0, false, []⟩,
    ⟨some 4, none, .mov (.t 25), 0, 0, false, []⟩])
   (.cutTo [4] (.ret)))
   (.seq (.seg false [⟨some 27, none, .faddr 1 1 (.t 2), 0, 0, false, []⟩,
    ⟨some 28, none, .load false 1 (.t 27), 0, 0, false, []⟩,
    ⟨some 29, none, .faddr 1 1 (.t 3), 0, 0, false, []⟩,
    ⟨some 30, none, .load false 1 (.t 29), 0, 0, false, []⟩,
    ⟨some 31, none, .bin .neq (.t 28) (.t 30), 0, 0, false, []⟩,
    ⟨some 26, none, .mov (.t 31), 0, 0, false, []⟩])
   (.cutTo [2, 3, 26] (.cond (.t 26) (.seq (.seg false [⟨some 32, none, .faddr 1 1 (.t 3), 0, 0, false, []⟩,
    ⟨some 33, none, .load false 1 (.t 32), 0, 0, false, []⟩,
    ⟨some 34, none, .faddr 1 1 (.t 2), 0, 0, false, []⟩,
    ⟨some 35, none, .load false 1 (.t 34), 0, 0, false, []⟩,
    ⟨some 36, none, .call 155 [.t 33, .t 35] false false, 0, 0, false, []⟩,
    ⟨some 37, none, .bin .mul (.k (.int .i64 2)) (.t 36), 0, 0, false, []⟩,
    ⟨some 38, none, .bin .sub (.t 37) (.k (.int .i64 1)), 0, 0, false, []⟩,
    ⟨some 4, none, .mov (.t 38), 0, 0, false, []⟩])
   (.cutTo [4] (.ret)))
   (.skip))))))))
   (.cutTo [2, 3] (.seq (.seg false [⟨some 39, none, .faddr 2 1 (.t 2), 0, 0, false, []⟩,
    ⟨some 40, none, .load false 1 (.t 39), 0, 0, false, []⟩,
    ⟨some 41, none, .faddr 2 1 (.t 3), 0, 0, false, []⟩,
    ⟨some 42, none, .load false 1 (.t 41), 0, 0, false, []⟩,
    ⟨some 43, none, .call 156 [.t 40, .t 42] false false, 0, 0, false, []⟩,
    ⟨some 4, none, .mov (.t 43), 0, 0, false, []⟩])
   (.cutTo [4] (.ret)))))))⟩
/-- loop.example/tablehouse/spec.l1Less -/
def F155 : F := ⟨8, [(false, 4, 0, false)],
   .seq (.seg false [⟨some 4, none, .mov (.k (.int .i64 0)), 0, 0, false, []⟩])
   (.seq (.seq (.seg false [⟨some 5, none, .mov (.t 0), 0, 0, false, []⟩,
    ⟨some 6, none, .mov (.t 1), 0, 0, false, []⟩,
    ⟨some 7, none, .bin .lss (.t 5) (.t 6), 0, 0, false, []⟩])
   (.cond (.t 7) (.seq (.seg false [⟨some 4, none, .mov (.k (.int .i64 1)), 0, 0, false, []⟩])
   (.ret))
   (.skip)))
   (.cutTo [] (.seq (.seg false [⟨some 4, none, .mov (.k (.int .i64 0)), 0, 0, false, []⟩])
   (.ret))))⟩
def B182x0 : C := .seq (.seq (.seg false [⟨some 12, none, .mov (.t 8), 0, 0, false, []⟩,
    ⟨some 13, none, .bin .gtr (.t 12) (.k (.int .i64 0)), 0, 0, false, []⟩])
   (.cond (.t 13) (.skip)
   (.exit 0)))
   (.seq (.block 1 (.seq (.seg false [⟨some 16, none, .mov (.t 7), 0, 0, false, []⟩,
    ⟨some 17, none, .len false (.t 16), 0, 0, false, []⟩,
    ⟨some 18, none, .bin .gtr (.t 17) (.k (.int .i64 0)), 0, 0, false, []⟩,
    ⟨some 19, none, .mov (.t 18), 0, 0, false, []⟩,
    ⟨some 20, some (19, true), .mov (.t 0), 0, 0, false, []⟩,
    ⟨some 21, some (19, true), .call 57 [.t 20, .k (.int .i64 3)] true false, 0, 0, false, []⟩,
    ⟨some 22, some (19, true), .bin .eql (.t 21) (.k (.int .i64 0)), 0, 0, false, []⟩,
    ⟨some 23, none, .pick (.t 19) (.t 22) (.k (.bool false)), 0, 0, false, []⟩])
   (.cutTo [0, 1, 2, 7, 8, 23] (.cond (.t 23) (.seg false [⟨some 24, none, .mov (.t 7), 0, 0, false, []⟩,
    ⟨some 25, none, .mov (.t 7), 0, 0, false, []⟩,
    ⟨some 26, none, .mov (.t 0), 0, 0, false, []⟩,
    ⟨some 27, none, .mov (.t 7), 0, 0, false, []⟩,
    ⟨some 28, none, .len false (.t 27), 0, 0, false, []⟩,
    ⟨some 29, none, .call 57 [.t 26, .t 28] true false, 0, 0, false, []⟩,
    ⟨some 30, none, .iaddr 1 (.t 25) (.t 29), 0, 0, false, []⟩,
    ⟨some 31, none, .load false 1 (.t 30), 0, 0, false, []⟩,
    ⟨some 32, none, .call 77 [.t 31] false false, 0, 0, false, []⟩,
    ⟨some 33, none, .mksl false 1 [.t 32], 0, 0, false, []⟩,
    ⟨some 34, none, .app 1 (.t 24) (.t 33), 0, 0, false, []⟩,
    ⟨some 7, none, .mov (.t 34), 0, 0, false, []⟩])
   (.seg false [⟨some 35, none, .mov (.t 7), 0, 0, false, []⟩,
    ⟨some 36, none, .mov (.t 0), 0, 0, false, []⟩,
    ⟨some 37, none, .mov (.t 1), 0, 0, false, []⟩,
    ⟨some 38, none, .mov (.t 2), 0, 0, false, []⟩,
    ⟨some 39, none, .call 194 [.t 36, .t 37, .t 38] true false, 0, 0, false, []⟩,
    ⟨some 40, none, .mksl false 1 [.t 39], 0, 0, false, []⟩,
    ⟨some 41, none, .app 1 (.t 35) (.t 40), 0, 0, false, []⟩,
    ⟨some 7, none, .mov (.t 41), 0, 0, false, []⟩])))))
   (.cutTo [0, 1, 2, 7, 8] (.seg false [⟨some 14, none, .mov (.t 8), 0, 0, false, []⟩,
    ⟨some 15, none, .bin .sub (.t 14) (.k (.int .i64 1)), 0, 0, false, []⟩,
    ⟨some 8, none, .mov (.t 15), 0, 0, false, []⟩])))
def L182x0 : C := B182x0
theorem evL182x0 (run : Run) (draw : List I → Env → Heap → Option (Env × Heap)) (e : Env) (h : Heap) : evC run draw L182x0 e h = evC run draw B182x0 e h := rfl
/-- loop.example/tablehouse/spec.l20Bag -/
def F182 : F := ⟨43, [(false, 6, 0, false)],
   .seq (.seg false [⟨some 6, none, .nilrow 1, 0, 0, false, []⟩])
   (.seq (.seg false [⟨some 9, none, .mksl true 1 [], 0, 0, false, []⟩,
    ⟨some 7, none, .mov (.t 9), 0, 0, false, []⟩])
   (.seq (.seq (.seg false [⟨some 10, none, .mov (.t 0), 0, 0, false, []⟩,
    ⟨some 11, none, .call 57 [.t 10, .k (.int .i64 7)] true false, 0, 0, false, []⟩,
    ⟨some 8, none, .mov (.t 11), 0, 0, false, []⟩])
   (.block 0 (.loop [0, 1, 2, 7, 8] [7] L182x0)))
   (.seq (.seg false [⟨some 42, none, .mov (.t 7), 0, 0, false, []⟩,
    ⟨some 6, none, .mov (.t 42), 0, 0, false, []⟩])
   (.ret))))⟩
/-- loop.example/tablehouse/spec.l32Row -/
def F180 : F := ⟨24, [(false, 2, 0, false)],
   .seq (.seg false [⟨some 2, none, .mov (.k (.bool false)), 0, 0, false, []⟩])
   (.seq (.seg false [⟨some 3, none, .mov (.t 0), 0, 0, false, []⟩,
    ⟨some 4, none, .call 138 [.t 3] false false, 0, 0, false, []⟩,
    ⟨some 5, none, .mov (.t 4), 0, 0, false, []⟩,
    ⟨some 6, some (5, true), .mov (.t 0), 0, 0, false, []⟩,
    ⟨some 7, some (5, true), .len false (.t 6), 0, 0, false, []⟩,
    ⟨some 8, some (5, true), .bin .eql (.t 7) (.k (.int .i64 2)), 0, 0, false, []⟩,
    ⟨some 9, none, .pick (.t 5) (.t 8) (.k (.bool false)), 0, 0, false, []⟩,
    ⟨some 10, none, .mov (.t 9), 0, 0, false, []⟩,
    ⟨some 11, some (10, true), .mov (.t 0), 0, 0, false, []⟩,
    ⟨some 12, some (10, true), .iaddr 3 (.t 11) (.k (.int .i64 1)), 0, 0, false, []⟩,
    ⟨some 13, some (10, true), .faddr 0 1 (.t 12), 0, 0, false, []⟩,
    ⟨some 14, some (10, true), .load false 1 (.t 13), 0, 0, false, []⟩,
    ⟨some 15, some (10, true), .bin .eql (.t 14) (.k (.int .i64 1)), 0, 0, false, []⟩,
    ⟨some 16, some (10, true), .mov (.t 15), 0, 0, false, []⟩,
    ⟨some 17, some (16, false), .mov (.t 0), 0, 0, false, []⟩,
    ⟨some 18, some (16, false), .iaddr 3 (.t 17) (.k (.int .i64 1)), 0, 0, false, []⟩,
    ⟨some 19, some (16, false), .faddr 0 1 (.t 18), 0, 0, false, []⟩,
    ⟨some 20, some (16, false), .load false 1 (.t 19), 0, 0, false, []⟩,
    ⟨some 21, some (16, false), .bin .eql (.t 20) (.k (.int .i64 0)), 0, 0, false, []⟩,
    ⟨some 22, some (10, true), .pick (.t 16) (.k (.bool true)) (.t 21), 0, 0, false, []⟩,
    ⟨some 23, none, .pick (.t 10) (.t 22) (.k (.bool false)), 0, 0, false, []⟩,
    ⟨some 2, none, .mov (.t 23), 0, 0, false, []⟩])
   (.cutTo [2] (.ret)))⟩
def B181x0 : C := .seq (.seq (.seg false [⟨some 30, none, .mov (.t 12), 0, 0, false, []⟩,
    ⟨some 31, none, .mov (.t 0), 0, 0, false, []⟩,
    ⟨some 32, none, .len false (.t 31), 0, 0, false, []⟩,
    ⟨some 33, none, .bin .lss (.t 30) (.t 32), 0, 0, false, []⟩])
   (.cutTo [0, 9, 10, 11, 12, 33] (.cond (.t 33) (.skip)
   (.exit 0))))
   (.cutTo [0, 9, 10, 11, 12] (.seq (.block 1 (.seq (.seg false [⟨some 36, none, .mov (.t 0), 0, 0, false, []⟩,
    ⟨some 37, none, .mov (.t 12), 0, 0, false, []⟩,
    ⟨some 38, none, .iaddr 4 (.t 36) (.t 37), 0, 0, false, []⟩,
    ⟨some 39, none, .load true 4 (.t 38), 0, 0, false, []⟩,
    ⟨some 13, none, .alloc [.sl true 3 [], .int .i64 0, .int .i64 0, .int .i64 0], 0, 0, false, []⟩,
    ⟨none, none, .store 4 (.t 13) (.t 39), 0, 0, false, []⟩])
   (.cutTo [0, 9, 10, 11, 12, 13] (.seq (.seg false [⟨some 40, none, .faddr 0 1 (.t 13), 0, 0, false, []⟩,
    ⟨some 41, none, .load false 1 (.t 40), 0, 0, false, []⟩,
    ⟨some 42, none, .faddr 0 1 (.t 9), 0, 0, false, []⟩,
    ⟨some 43, none, .load false 1 (.t 42), 0, 0, false, []⟩,
    ⟨some 44, none, .call 139 [.t 41, .t 43] false false, 0, 0, false, []⟩,
    ⟨some 14, none, .mov (.t 44), 0, 0, false, []⟩])
   (.cutTo [0, 9, 10, 11, 12, 13, 14] (.seq (.seq (.seg false [⟨some 45, none, .mov (.t 14), 0, 0, false, []⟩,
    ⟨some 46, none, .bin .gtr (.t 45) (.k (.int .i64 0)), 0, 0, false, []⟩,
    ⟨some 47, none, .mov (.t 46), 0, 0, false, []⟩,
    ⟨some 48, some (47, true), .mov (.t 11), 0, 0, false, []⟩,
    ⟨some 49, some (47, true), .un .not (.t 48), 0, 0, false, []⟩,
    ⟨some 50, none, .pick (.t 47) (.t 49) (.k (.bool false)), 0, 0, false, []⟩])
   (.cutTo [0, 9, 10, 11, 12, 13, 14, 50] (.cond (.t 50) (.seq (.seg false [⟨some 51, none, .mov (.t 10), 0, 0, false, []⟩,
    ⟨some 52, none, .load true 4 (.t 9), 0, 0, false, []⟩,
    ⟨some 53, none, .mksl false 4 [.t 52], 0, 0, false, []⟩,
    ⟨some 54, none, .app 4 (.t 51) (.t 53), 0, 0, false, []⟩,
    ⟨some 10, none, .mov (.t 54), 0, 0, false, []⟩])
   (.cutTo [0, 9, 10, 12, 13, 14] (.seg false [⟨some 11, none, .mov (.k (.bool true)), 0, 0, false, []⟩])))
   (.skip))))
   (.cutTo [0, 9, 10, 11, 12, 13, 14] (.seq (.seq (.seg false [⟨some 55, none, .mov (.t 14), 0, 0, false, []⟩,
    ⟨some 56, none, .bin .eql (.t 55) (.k (.int .i64 0)), 0, 0, false, []⟩])
   (.cond (.t 56) (.seq (.seg false [⟨some 57, none, .faddr 1 1 (.t 13), 0, 0, false, []⟩,
    ⟨some 58, none, .load false 1 (.t 57), 0, 0, false, []⟩,
    ⟨some 59, none, .faddr 1 1 (.t 9), 0, 0, false, []⟩,
    ⟨some 60, none, .load false 1 (.t 59), 0, 0, false, []⟩,
    ⟨some 61, none, .bin .add (.t 58) (.t 60), 0, 0, false, []⟩,
    ⟨some 62, none, .faddr 1 1 (.t 13), 0, 0, false, []⟩,
    ⟨none, none, .store 1 (.t 62) (.t 61), 0, 0, false, []⟩])
   (.cutTo [0, 9, 10, 12, 13] (.seq (.seg false [⟨some 63, none, .faddr 2 1 (.t 13), 0, 0, false, []⟩,
    ⟨some 64, none, .load false 1 (.t 63), 0, 0, false, []⟩,
    ⟨some 65, none, .faddr 2 1 (.t 9), 0, 0, false, []⟩,
    ⟨some 66, none, .load false 1 (.t 65), 0, 0, false, []⟩,
    ⟨some 67, none, .bin .add (.t 64) (.t 66), 0, 0, false, []⟩,
    ⟨some 68, none, .faddr 2 1 (.t 13), 0, 0, false, []⟩,
    ⟨none, none, .store 1 (.t 68) (.t 67), 0, 0, false, []⟩])
   (.cutTo [0, 9, 10, 12, 13] (.seq (.seg false [⟨some 69, none, .faddr 3 1 (.t 13), 0, 0, false, []⟩,
    ⟨some 70, none, .load false 1 (.t 69), 0, 0, false, []⟩,
    ⟨some 71, none, .faddr 3 1 (.t 9), 0, 0, false, []⟩,
    ⟨some 72, none, .load false 1 (.t 71), 0, 0, false, []⟩,
    ⟨some 73, none, .bin .add (.t 70) (.t 72), 0, 0, false, []⟩,
    ⟨some 74, none, .faddr 3 1 (.t 13), 0, 0, false, []⟩,
    ⟨none, none, .store 1 (.t 74) (.t 73), 0, 0, false, []⟩])
   (.cutTo [0, 9, 10, 12, 13] (.seg false [⟨some 11, none, .mov (.k (.bool true)), 0, 0, false, []⟩])))))))
   (.skip)))
   (.cutTo [0, 9, 10, 11, 12, 13] (.seq (.seg false [⟨some 75, none, .faddr 1 1 (.t 13), 0, 0, false, []⟩,
    ⟨some 76, none, .load false 1 (.t 75), 0, 0, false, []⟩,
    ⟨some 77, none, .bin .neq (.t 76) (.k (.int .i64 0)), 0, 0, false, []⟩,
    ⟨some 78, none, .mov (.t 77), 0, 0, false, []⟩,
    ⟨some 79, some (78, false), .faddr 2 1 (.t 13), 0, 0, false, []⟩,
    ⟨some 80, some (78, false), .load false 1 (.t 79), 0, 0, false, []⟩,
    ⟨some 81, some (78, false), .bin .neq (.t 80) (.k (.int .i64 0)), 0, 0, false, []⟩,
    ⟨some 82, none, .pick (.t 78) (.k (.bool true)) (.t 81), 0, 0, false, []⟩,
    ⟨some 83, none, .mov (.t 82), 0, 0, false, []⟩,
    ⟨some 84, some (83, false), .faddr 3 1 (.t 13), 0, 0, false, []⟩,
    ⟨some 85, some (83, false), .load false 1 (.t 84), 0, 0, false, []⟩,
    ⟨some 86, some (83, false), .bin .neq (.t 85) (.k (.int .i64 0)), 0, 0, false, []⟩,
    ⟨some 87, none, .pick (.t 83) (.k (.bool true)) (.t 86), 0, 0, false, []⟩])
   (.cutTo [0, 9, 10, 11, 12, 13, 87] (.cond (.t 87) (.seg false [⟨some 88, none, .mov (.t 10), 0, 0, false, []⟩,
    ⟨some 89, none, .load true 4 (.t 13), 0, 0, false, []⟩,
    ⟨some 90, none, .mksl false 4 [.t 89], 0, 0, false, []⟩,
    ⟨some 91, none, .app 4 (.t 88) (.t 90), 0, 0, false, []⟩,
    ⟨some 10, none, .mov (.t 91), 0, 0, false, []⟩])
   (.skip)))))))))))))
   (.cutTo [0, 9, 10, 11, 12] (.seg false [⟨some 34, none, .mov (.t 12), 0, 0, false, []⟩,
    ⟨some 35, none, .bin .add (.t 34) (.k (.int .i64 1)), 0, 0, false, []⟩,
    ⟨some 12, none, .mov (.t 35), 0, 0, false, []⟩]))))
def L181x0 : C := B181x0
theorem evL181x0 (run : Run) (draw : List I → Env → Heap → Option (Env × Heap)) (e : Env) (h : Heap) : evC run draw L181x0 e h = evC run draw B181x0 e h := rfl
/-- loop.example/tablehouse/spec.l32Turn -/
def F181 : F := ⟨99, [(false, 8, 0, false)],
   .seq (.seg false [⟨some 5, none, .box (.t 1), 0, 0, false, []⟩,
    ⟨some 6, none, .box (.t 2), 0, 0, false, []⟩,
    ⟨some 8, none, .nilrow 4, 0, 0, false, []⟩])
   (.seq (.seg false [⟨some 15, none, .load true 3 (.t 5), 0, 0, false, []⟩,
    ⟨some 16, none, .mksl false 3 [.t 15], 0, 0, false, []⟩,
    ⟨some 17, none, .mov (.t 3), 0, 0, false, []⟩,
    ⟨some 18, none, .build [.sl true 3 [], .int .i64 0, .int .i64 0, .int .i64 0] [(0, 1, .t 16), (1, 1, .t 17)], 0, 0, false, []⟩,
    ⟨some 9, none, .alloc [.sl true 3 [], .int .i64 0, .int .i64 0, .int .i64 0], 0, 0, false, []⟩,
    ⟨none, none, .store 4 (.t 9) (.t 18), 0, 0, false, []⟩])
   (.cutTo [0, 3, 6, 9] (.seq (.seq (.seg false [⟨some 19, none, .faddr 0 1 (.t 6), 0, 0, false, []⟩,
    ⟨some 20, none, .load false 1 (.t 19), 0, 0, false, []⟩,
    ⟨some 21, none, .bin .eql (.t 20) (.k (.int .i64 1)), 0, 0, false, []⟩])
   (.cond (.t 21) (.seq (.seg false [⟨some 22, none, .mov (.t 3), 0, 0, false, []⟩,
    ⟨some 23, none, .faddr 2 1 (.t 9), 0, 0, false, []⟩,
    ⟨none, none, .store 1 (.t 23) (.t 22), 0, 0, false, []⟩])
   (.seg false [⟨some 24, none, .mov (.t 3), 0, 0, false, []⟩,
    ⟨some 25, none, .faddr 1 1 (.t 6), 0, 0, false, []⟩,
    ⟨some 26, none, .load false 1 (.t 25), 0, 0, false, []⟩,
    ⟨some 27, none, .bin .mul (.t 24) (.t 26), 0, 0, false, []⟩,
    ⟨some 28, none, .faddr 3 1 (.t 9), 0, 0, false, []⟩,
    ⟨none, none, .store 1 (.t 28) (.t 27), 0, 0, false, []⟩]))
   (.skip)))
   (.cutTo [0, 9] (.seq (.seg false [⟨some 29, none, .mksl true 4 [], 0, 0, false, []⟩,
    ⟨some 10, none, .mov (.t 29), 0, 0, false, []⟩])
   (.seq (.seg false [⟨some 11, none, .mov (.k (.bool false)), 0, 0, false, []⟩])
   (.seq (.seq (.seg false [⟨some 12, none, .mov (.k (.int .i64 0)), 0, 0, false, []⟩])
   (.block 0 (.loop [0, 9, 10, 11, 12] [9, 10, 11] L181x0)))
   (.seq (.seq (.seg false [⟨some 92, none, .mov (.t 11), 0, 0, false, []⟩,
    ⟨some 93, none, .un .not (.t 92), 0, 0, false, []⟩])
   (.cond (.t 93) (.seg false [⟨some 94, none, .mov (.t 10), 0, 0, false, []⟩,
    ⟨some 95, none, .load true 4 (.t 9), 0, 0, false, []⟩,
    ⟨some 96, none, .mksl false 4 [.t 95], 0, 0, false, []⟩,
    ⟨some 97, none, .app 4 (.t 94) (.t 96), 0, 0, false, []⟩,
    ⟨some 10, none, .mov (.t 97), 0, 0, false, []⟩])
   (.skip)))
   (.cutTo [10] (.seq (.seg false [⟨some 98, none, .mov (.t 10), 0, 0, false, []⟩,
    ⟨some 8, none, .mov (.t 98), 0, 0, false, []⟩])
   (.ret)))))))))))⟩
/-- cmp.Compare<string> -/
def F154 : F := ⟨20, [(false, 4, 0, false)],
   .seq (.seg false [⟨some 4, none, .mov (.k (.int .i64 0)), 0, 0, false, []⟩])
   (.seq (.seg false [⟨some 7, none, .mov (.t 0), 0, 0, false, []⟩,
    ⟨some 8, none, .call 187 [.t 7] false false, 0, 0, false, []⟩,
    ⟨some 5, none, .mov (.t 8), 0, 0, false, []⟩])
   (.seq (.seg false [⟨some 9, none, .mov (.t 1), 0, 0, false, []⟩,
    ⟨some 10, none, .call 187 [.t 9] false false, 0, 0, false, []⟩,
    ⟨some 6, none, .mov (.t 10), 0, 0, false, []⟩])
   (.seq (.seq (.seg false [⟨some 11, none, .mov (.t 5), 0, 0, false, []⟩])
   (.cond (.t 11) (.seq (.seq (.seg false [⟨some 12, none, .mov (.t 6), 0, 0, false, []⟩])
   (.cond (.t 12) (.seq (.seg false [⟨some 4, none, .mov (.k (.int .i64 0)), 0, 0, false, []⟩])
   (.ret))
   (.skip)))
   (.seq (.seg false [⟨some 4, none, .mov (.k (.int .i64 (-1))), 0, 0, false, []⟩])
   (.ret)))
   (.skip)))
   (.cutTo [0, 1, 6] (.seq (.seq (.seg false [⟨some 13, none, .mov (.t 6), 0, 0, false, []⟩])
   (.cond (.t 13) (.seq (.seg false [⟨some 4, none, .mov (.k (.int .i64 1)), 0, 0, false, []⟩])
   (.ret))
   (.skip)))
   (.seq (.seq (.seg false [⟨some 14, none, .mov (.t 0), 0, 0, false, []⟩,
    ⟨some 15, none, .mov (.t 1), 0, 0, false, []⟩,
    ⟨some 16, none, .bin .lss (.t 14) (.t 15), 0, 0, false, []⟩])
   (.cond (.t 16) (.seq (.seg false [⟨some 4, none, .mov (.k (.int .i64 (-1))), 0, 0, false, []⟩])
   (.ret))
   (.skip)))
   (.cutTo [0, 1] (.seq (.seq (.seg false [⟨some 17, none, .mov (.t 0), 0, 0, false, []⟩,
    ⟨some 18, none, .mov (.t 1), 0, 0, false, []⟩,
    ⟨some 19, none, .bin .gtr (.t 17) (.t 18), 0, 0, false, []⟩])
   (.cond (.t 19) (.seq (.seg false [⟨some 4, none, .mov (.k (.int .i64 1)), 0, 0, false, []⟩])
   (.ret))
   (.skip)))
   (.cutTo [] (.seq (.seg false [⟨some 4, none, .mov (.k (.int .i64 0)), 0, 0, false, []⟩])
   (.ret)))))))))))⟩
/-- cmp.isNaN<int> -/
def F183 : F := ⟨6, [(false, 2, 0, false)],
   .seq (.seg false [⟨some 2, none, .mov (.k (.bool false)), 0, 0, false, []⟩])
   (.seq (.seg false [⟨some 3, none, .mov (.t 0), 0, 0, false, []⟩,
    ⟨some 4, none, .mov (.t 0), 0, 0, false, []⟩,
    ⟨some 5, none, .bin .neq (.t 3) (.t 4), 0, 0, false, []⟩,
    ⟨some 2, none, .mov (.t 5), 0, 0, false, []⟩])
   (.cutTo [2] (.ret)))⟩
def B194x0 : C := .seq (.seq (.seg false [⟨some 10, none, .mov (.t 8), 0, 0, false, []⟩,
    ⟨some 11, none, .mov (.t 1), 0, 0, false, []⟩,
    ⟨some 12, none, .len false (.t 11), 0, 0, false, []⟩,
    ⟨some 13, none, .bin .lss (.t 10) (.t 12), 0, 0, false, []⟩])
   (.cutTo [0, 1, 2, 7, 8, 13] (.cond (.t 13) (.skip)
   (.exit 0))))
   (.cutTo [0, 1, 2, 7, 8] (.seq (.block 1 (.seg false [⟨some 16, none, .mov (.t 7), 0, 0, false, []⟩,
    ⟨some 17, none, .mov (.t 0), 0, 0, false, []⟩,
    ⟨some 18, none, .mov (.t 1), 0, 0, false, []⟩,
    ⟨some 19, none, .mov (.t 8), 0, 0, false, []⟩,
    ⟨some 20, none, .iaddr 2 (.t 18) (.t 19), 0, 0, false, []⟩,
    ⟨some 21, none, .load true 2 (.t 20), 0, 0, false, []⟩,
    ⟨some 22, none, .call 197 [.t 17, .t 21] true false, 0, 0, false, []⟩,
    ⟨some 23, none, .mksl false 3 [.t 22], 0, 0, false, []⟩,
    ⟨some 24, none, .app 3 (.t 16) (.t 23), 0, 0, false, []⟩,
    ⟨some 7, none, .mov (.t 24), 0, 0, false, []⟩]))
   (.cutTo [0, 1, 2, 7, 8] (.seg false [⟨some 14, none, .mov (.t 8), 0, 0, false, []⟩,
    ⟨some 15, none, .bin .add (.t 14) (.k (.int .i64 1)), 0, 0, false, []⟩,
    ⟨some 8, none, .mov (.t 15), 0, 0, false, []⟩]))))
def L194x0 : C := B194x0
theorem evL194x0 (run : Run) (draw : List I → Env → Heap → Option (Env × Heap)) (e : Env) (h : Heap) : evC run draw L194x0 e h = evC run draw B194x0 e h := rfl
/-- loop.example/tablehouse/spec.l20Fit -/
def F194 : F := ⟨59, [(false, 6, 0, false)],
   .seq (.seg false [⟨some 6, none, .nilrow 3, 0, 0, false, []⟩])
   (.seq (.seg false [⟨some 9, none, .mksl true 3 [], 0, 0, false, []⟩,
    ⟨some 7, none, .mov (.t 9), 0, 0, false, []⟩])
   (.seq (.seq (.seg false [⟨some 8, none, .mov (.k (.int .i64 0)), 0, 0, false, []⟩])
   (.block 0 (.loop [0, 1, 2, 7, 8] [0, 2, 7] L194x0)))
   (.seq (.seq (.seg false [⟨some 25, none, .mov (.t 0), 0, 0, false, []⟩,
    ⟨some 26, none, .mov (.t 2), 0, 0, false, []⟩,
    ⟨some 27, none, .call 119 [.t 25, .t 26] true false, 0, 0, false, []⟩])
   (.cond (.t 27) (.seq (.seg false [⟨some 28, none, .mov (.t 0), 0, 0, false, []⟩,
    ⟨some 29, none, .call 57 [.t 28, .k (.int .i64 3)] true false, 0, 0, false, []⟩])
   (.block 2 (.seq (.seg false [⟨some 40, none, .bin .eql (.t 29) (.k (.int .i64 0)), 0, 0, false, []⟩,
    ⟨some 39, none, .mov (.t 40), 0, 0, false, []⟩])
   (.cond (.t 39) (.seg false [⟨some 41, none, .mov (.t 7), 0, 0, false, []⟩,
    ⟨some 42, none, .build [.int .i64 0, .int .i64 0, .str ⟨#[]⟩] [], 0, 0, false, []⟩,
    ⟨some 43, none, .mksl false 3 [.t 42], 0, 0, false, []⟩,
    ⟨some 44, none, .app 3 (.t 41) (.t 43), 0, 0, false, []⟩,
    ⟨some 7, none, .mov (.t 44), 0, 0, false, []⟩])
   (.seq (.seg false [⟨some 46, none, .bin .eql (.t 29) (.k (.int .i64 1)), 0, 0, false, []⟩,
    ⟨some 45, none, .mov (.t 46), 0, 0, false, []⟩])
   (.cond (.t 45) (.seq (.seg false [⟨some 47, none, .mov (.t 7), 0, 0, false, []⟩,
    ⟨some 48, none, .len false (.t 47), 0, 0, false, []⟩,
    ⟨some 49, none, .bin .gtr (.t 48) (.k (.int .i64 0)), 0, 0, false, []⟩])
   (.cond (.t 49) (.seg false [⟨some 50, none, .mov (.t 7), 0, 0, false, []⟩,
    ⟨some 51, none, .mov (.t 0), 0, 0, false, []⟩,
    ⟨some 52, none, .mov (.t 7), 0, 0, false, []⟩,
    ⟨some 53, none, .len false (.t 52), 0, 0, false, []⟩,
    ⟨some 54, none, .call 57 [.t 51, .t 53] true false, 0, 0, false, []⟩,
    ⟨some 55, none, .mov (.t 0), 0, 0, false, []⟩,
    ⟨some 56, none, .call 149 [.t 55, .k (.int .i64 3)] true false, 0, 0, false, []⟩,
    ⟨some 57, none, .iaddr 3 (.t 50) (.t 54), 0, 0, false, []⟩,
    ⟨none, none, .store 3 (.t 57) (.t 56), 0, 0, false, []⟩])
   (.skip)))
   (.seg false [⟨some 30, none, .mov (.t 7), 0, 0, false, []⟩,
    ⟨some 31, none, .mov (.t 0), 0, 0, false, []⟩,
    ⟨some 32, none, .call 149 [.t 31, .k (.int .i64 0)] true false, 0, 0, false, []⟩,
    ⟨some 33, none, .mov (.t 0), 0, 0, false, []⟩,
    ⟨some 34, none, .call 149 [.t 33, .k (.int .i64 0)] true false, 0, 0, false, []⟩,
    ⟨some 35, none, .mov (.t 0), 0, 0, false, []⟩,
    ⟨some 36, none, .call 149 [.t 35, .k (.int .i64 0)] true false, 0, 0, false, []⟩,
    ⟨some 37, none, .mksl false 3 [.t 32, .t 34, .t 36], 0, 0, false, []⟩,
    ⟨some 38, none, .app 3 (.t 30) (.t 37), 0, 0, false, []⟩,
    ⟨some 7, none, .mov (.t 38), 0, 0, false, []⟩])))))))
   (.skip)))
   (.cutTo [7] (.seq (.seg false [⟨some 58, none, .mov (.t 7), 0, 0, false, []⟩,
    ⟨some 6, none, .mov (.t 58), 0, 0, false, []⟩])
   (.ret))))))⟩
/-- slices.Clip<<>loop.example/tablehouse/impl.Column,loop.example/tablehouse/impl.Column> -/
def F195 : F := ⟨9, [(false, 2, 0, false)],
   .seq (.seg false [⟨some 2, none, .mov (.k (.sl true 2 [])), 0, 0, false, []⟩])
   (.seq (.seg false [⟨some 3, none, .mov (.t 0), 0, 0, false, []⟩,
    ⟨some 4, none, .mov (.t 0), 0, 0, false, []⟩,
    ⟨some 5, none, .len false (.t 4), 0, 0, false, []⟩,
    ⟨some 6, none, .mov (.t 0), 0, 0, false, []⟩,
    ⟨some 7, none, .len false (.t 6), 0, 0, false, []⟩,
    ⟨some 8, none, .slc false 2 (.t 3) none (some (.t 5)) (some (.t 7)), 0, 0, false, []⟩,
    ⟨some 2, none, .mov (.t 8), 0, 0, false, []⟩])
   (.cutTo [2] (.ret)))⟩
def B175x0 : C := .seq (.seg false [⟨some 9, none, .bin .lss (.t 8) (.t 7), 0, 0, false, []⟩])
   (.seq (.cond (.t 9) (.skip)
   (.exit 0))
   (.seq (.block 1 (.seq (.seg false [⟨some 10, none, .mov (.t 8), 0, 0, false, []⟩,
    ⟨some 5, none, .mov (.t 10), 0, 0, false, []⟩])
   (.seq (.seg false [⟨some 11, none, .mov (.t 1), 0, 0, false, []⟩,
    ⟨some 12, none, .mov (.t 0), 0, 0, false, []⟩,
    ⟨some 13, none, .mov (.t 5), 0, 0, false, []⟩,
    ⟨some 14, none, .iaddr 2 (.t 12) (.t 13), 0, 0, false, []⟩,
    ⟨some 15, none, .load true 2 (.t 14), 0, 0, false, []⟩,
    ⟨some 16, none, .callv (.t 11) [.t 15] false, 0, 0, false, []⟩])
   (.cutTo [0, 1, 5, 7, 8, 16] (.cond (.t 16) (.seq (.seg false [⟨some 17, none, .mov (.t 5), 0, 0, false, []⟩,
    ⟨some 4, none, .mov (.t 17), 0, 0, false, []⟩])
   (.ret))
   (.skip))))))
   (.cutTo [0, 1, 7, 8] (.seg false [⟨some 18, none, .bin .add (.t 8) (.k (.int .i64 1)), 0, 0, false, []⟩,
    ⟨some 8, none, .mov (.t 18), 0, 0, false, []⟩]))))
def L175x0 : C := B175x0
theorem evL175x0 (run : Run) (draw : List I → Env → Heap → Option (Env × Heap)) (e : Env) (h : Heap) : evC run draw L175x0 e h = evC run draw B175x0 e h := rfl
/-- slices.IndexFunc<<>loop.example/tablehouse/impl.Column,loop.example/tablehouse/impl.Column> -/
def F175 : F := ⟨19, [(false, 4, 0, false)],
   .seq (.seg false [⟨some 4, none, .mov (.k (.int .i64 0)), 0, 0, false, []⟩])
   (.seq (.seq (.seg false [⟨some 6, none, .mov (.t 0), 0, 0, false, []⟩,
    ⟨some 7, none, .len false (.t 6), 0, 0, false, []⟩,
    ⟨some 8, none, .mov (.k (.int .i64 0)), 0, 0, false, []⟩])
   (.block 0 (.loop [0, 1, 7, 8] [4] L175x0)))
   (.seq (.seg false [⟨some 4, none, .mov (.k (.int .i64 (-1))), 0, 0, false, []⟩])
   (.ret)))⟩
def E132x0 : List I := [⟨some 29, none, .faddr 0 1 (.t 6), 0, 0, false, []⟩,
    ⟨some 30, none, .load false 1 (.t 29), 0, 0, false, []⟩,
    ⟨some 31, none, .mov (.t 0), 0, 0, false, []⟩,
    ⟨some 32, none, .mov (.t 5), 0, 0, false, []⟩,
    ⟨some 33, none, .iaddr 2 (.t 31) (.t 32), 0, 0, false, []⟩,
    ⟨some 34, none, .faddr 0 1 (.t 33), 0, 0, false, []⟩,
    ⟨some 35, none, .load false 1 (.t 34), 0, 0, false, []⟩,
    ⟨some 36, none, .bin .neq (.t 30) (.t 35), 0, 0, false, []⟩,
    ⟨some 37, none, .mov (.t 36), 0, 0, false, []⟩,
    ⟨some 38, some (37, true), .faddr 0 1 (.t 6), 0, 0, false, []⟩,
    ⟨some 39, some (37, true), .load false 1 (.t 38), 0, 0, false, []⟩,
    ⟨some 40, some (37, true), .bin .neq (.t 39) (.k (.int .i64 0)), 0, 0, false, []⟩,
    ⟨some 41, some (37, true), .mov (.t 40), 0, 0, false, []⟩,
    ⟨some 42, some (41, false), .mov (.t 0), 0, 0, false, []⟩,
    ⟨some 43, some (41, false), .mov (.t 5), 0, 0, false, []⟩,
    ⟨some 44, some (41, false), .iaddr 2 (.t 42) (.t 43), 0, 0, false, []⟩,
    ⟨some 45, some (41, false), .faddr 1 1 (.t 44), 0, 0, false, []⟩,
    ⟨some 46, some (41, false), .load false 1 (.t 45), 0, 0, false, []⟩,
    ⟨some 47, some (41, false), .un .not (.t 46), 0, 0, false, []⟩,
    ⟨some 48, some (37, true), .pick (.t 41) (.k (.bool true)) (.t 47), 0, 0, false, []⟩,
    ⟨some 49, none, .pick (.t 37) (.t 48) (.k (.bool false)), 0, 0, false, []⟩]
def D132x0 : List I := E132x0
theorem evD132x0 (run : Run) (e : Env) (h : Heap) : drawI run D132x0 e h = DrawS (evQ run E132x0 e h) run E132x0 e h := drawI_quiet run _ (by rfl) e h
def B132x0 : C := .seq (.seg false [⟨some 25, none, .bin .lss (.t 24) (.t 23), 0, 0, false, []⟩])
   (.seq (.cond (.t 25) (.skip)
   (.exit 0))
   (.seq (.block 1 (.seq (.seg false [⟨some 26, none, .mov (.t 24), 0, 0, false, []⟩,
    ⟨some 27, none, .iaddr 3 (.t 22) (.t 24), 0, 0, false, []⟩,
    ⟨some 28, none, .load true 3 (.t 27), 0, 0, false, []⟩,
    ⟨some 6, none, .alloc [.int .i64 0, .int .i64 0, .str ⟨#[]⟩], 0, 0, false, []⟩,
    ⟨some 5, none, .mov (.t 26), 0, 0, false, []⟩,
    ⟨none, none, .store 3 (.t 6) (.t 28), 0, 0, false, []⟩])
   (.cutTo [0, 5, 6, 22, 23, 24] (.seq (.seg true D132x0)
   (.cutTo [0, 22, 23, 24, 49] (.cond (.t 49) (.seq (.seg false [⟨some 4, none, .mov (.k (.bool false)), 0, 0, false, []⟩])
   (.ret))
   (.skip)))))))
   (.cutTo [0, 22, 23, 24] (.seg false [⟨some 50, none, .bin .add (.t 24) (.k (.int .i64 1)), 0, 0, false, []⟩,
    ⟨some 24, none, .mov (.t 50), 0, 0, false, []⟩]))))
def L132x0 : C := B132x0
theorem evL132x0 (run : Run) (draw : List I → Env → Heap → Option (Env × Heap)) (e : Env) (h : Heap) : evC run draw L132x0 e h = evC run draw B132x0 e h := rfl
/-- loop.example/tablehouse/impl.RowFits -/
def F132 : F := ⟨51, [(false, 4, 0, false)],
   .seq (.seg false [⟨some 4, none, .mov (.k (.bool false)), 0, 0, false, []⟩])
   (.seq (.seq (.seg false [⟨some 7, none, .mov (.t 0), 0, 0, false, []⟩,
    ⟨some 8, none, .call 70 [.t 7] false false, 0, 0, false, []⟩,
    ⟨some 9, none, .un .not (.t 8), 0, 0, false, []⟩,
    ⟨some 10, none, .mov (.t 9), 0, 0, false, []⟩,
    ⟨some 11, some (10, false), .mov (.t 1), 0, 0, false, []⟩,
    ⟨some 12, some (10, false), .call 80 [.t 11] false false, 0, 0, false, []⟩,
    ⟨some 13, some (10, false), .un .not (.t 12), 0, 0, false, []⟩,
    ⟨some 14, none, .pick (.t 10) (.k (.bool true)) (.t 13), 0, 0, false, []⟩,
    ⟨some 15, none, .mov (.t 14), 0, 0, false, []⟩,
    ⟨some 16, some (15, false), .mov (.t 1), 0, 0, false, []⟩,
    ⟨some 17, some (15, false), .len false (.t 16), 0, 0, false, []⟩,
    ⟨some 18, some (15, false), .mov (.t 0), 0, 0, false, []⟩,
    ⟨some 19, some (15, false), .len false (.t 18), 0, 0, false, []⟩,
    ⟨some 20, some (15, false), .bin .neq (.t 17) (.t 19), 0, 0, false, []⟩,
    ⟨some 21, none, .pick (.t 15) (.k (.bool true)) (.t 20), 0, 0, false, []⟩])
   (.cutTo [0, 1, 21] (.cond (.t 21) (.seq (.seg false [⟨some 4, none, .mov (.k (.bool false)), 0, 0, false, []⟩])
   (.ret))
   (.skip))))
   (.cutTo [0, 1] (.seq (.seq (.seg false [⟨some 22, none, .mov (.t 1), 0, 0, false, []⟩,
    ⟨some 23, none, .len false (.t 22), 0, 0, false, []⟩,
    ⟨some 24, none, .mov (.k (.int .i64 0)), 0, 0, false, []⟩])
   (.block 0 (.loop [0, 22, 23, 24] [4] L132x0)))
   (.seq (.seg false [⟨some 4, none, .mov (.k (.bool true)), 0, 0, false, []⟩])
   (.ret)))))⟩
def B176x0 : C := .seq (.seg false [⟨some 9, none, .bin .lss (.t 8) (.t 7), 0, 0, false, []⟩])
   (.seq (.cond (.t 9) (.skip)
   (.exit 0))
   (.seq (.block 1 (.seq (.seg false [⟨some 10, none, .mov (.t 8), 0, 0, false, []⟩,
    ⟨some 5, none, .mov (.t 10), 0, 0, false, []⟩])
   (.seq (.seg false [⟨some 11, none, .mov (.t 1), 0, 0, false, []⟩,
    ⟨some 12, none, .mov (.t 0), 0, 0, false, []⟩,
    ⟨some 13, none, .mov (.t 5), 0, 0, false, []⟩,
    ⟨some 14, none, .iaddr 1 (.t 12) (.t 13), 0, 0, false, []⟩,
    ⟨some 15, none, .load false 1 (.t 14), 0, 0, false, []⟩,
    ⟨some 16, none, .callv (.t 11) [.t 15] false, 0, 0, false, []⟩])
   (.cutTo [0, 1, 5, 7, 8, 16] (.cond (.t 16) (.seq (.seg false [⟨some 17, none, .mov (.t 5), 0, 0, false, []⟩,
    ⟨some 4, none, .mov (.t 17), 0, 0, false, []⟩])
   (.ret))
   (.skip))))))
   (.cutTo [0, 1, 7, 8] (.seg false [⟨some 18, none, .bin .add (.t 8) (.k (.int .i64 1)), 0, 0, false, []⟩,
    ⟨some 8, none, .mov (.t 18), 0, 0, false, []⟩]))))
def L176x0 : C := B176x0
theorem evL176x0 (run : Run) (draw : List I → Env → Heap → Option (Env × Heap)) (e : Env) (h : Heap) : evC run draw L176x0 e h = evC run draw B176x0 e h := rfl
/-- slices.IndexFunc<<><>loop.example/tablehouse/impl.Value,<>loop.example/tablehouse/impl.Value> -/
def F176 : F := ⟨19, [(false, 4, 0, false)],
   .seq (.seg false [⟨some 4, none, .mov (.k (.int .i64 0)), 0, 0, false, []⟩])
   (.seq (.seq (.seg false [⟨some 6, none, .mov (.t 0), 0, 0, false, []⟩,
    ⟨some 7, none, .len false (.t 6), 0, 0, false, []⟩,
    ⟨some 8, none, .mov (.k (.int .i64 0)), 0, 0, false, []⟩])
   (.block 0 (.loop [0, 1, 7, 8] [4] L176x0)))
   (.seq (.seg false [⟨some 4, none, .mov (.k (.int .i64 (-1))), 0, 0, false, []⟩])
   (.ret)))⟩
def B152x0 : C := .seq (.seq (.seg false [⟨some 4, none, .mov (.t 3), 0, 0, false, []⟩,
    ⟨some 5, none, .mov (.t 0), 0, 0, false, []⟩,
    ⟨some 6, none, .len true (.t 5), 0, 0, false, []⟩,
    ⟨some 7, none, .bin .lss (.t 4) (.t 6), 0, 0, false, []⟩])
   (.cutTo [0, 3, 7] (.cond (.t 7) (.skip)
   (.exit 0))))
   (.cutTo [0, 3] (.seq (.block 1 (.seq (.seg false [⟨some 10, none, .mov (.t 0), 0, 0, false, []⟩,
    ⟨some 11, none, .mov (.t 3), 0, 0, false, []⟩,
    ⟨some 12, none, .idx (.t 10) (.t 11), 0, 0, false, []⟩,
    ⟨some 13, none, .bin .lss (.t 12) (.k (.int .u8 97)), 0, 0, false, []⟩,
    ⟨some 14, none, .mov (.t 13), 0, 0, false, []⟩,
    ⟨some 15, some (14, false), .mov (.t 0), 0, 0, false, []⟩,
    ⟨some 16, some (14, false), .mov (.t 3), 0, 0, false, []⟩,
    ⟨some 17, some (14, false), .idx (.t 15) (.t 16), 0, 0, false, []⟩,
    ⟨some 18, some (14, false), .bin .gtr (.t 17) (.k (.int .u8 122)), 0, 0, false, []⟩,
    ⟨some 19, none, .pick (.t 14) (.k (.bool true)) (.t 18), 0, 0, false, []⟩])
   (.cutTo [0, 3, 19] (.cond (.t 19) (.seq (.seg false [⟨some 2, none, .mov (.k (.bool false)), 0, 0, false, []⟩])
   (.ret))
   (.skip)))))
   (.cutTo [0, 3] (.seg false [⟨some 8, none, .mov (.t 3), 0, 0, false, []⟩,
    ⟨some 9, none, .bin .add (.t 8) (.k (.int .i64 1)), 0, 0, false, []⟩,
    ⟨some 3, none, .mov (.t 9), 0, 0, false, []⟩]))))
def L152x0 : C := B152x0
theorem evL152x0 (run : Run) (draw : List I → Env → Heap → Option (Env × Heap)) (e : Env) (h : Heap) : evC run draw L152x0 e h = evC run draw B152x0 e h := rfl
/-- loop.example/tablehouse/spec.l1Text -/
def F152 : F := ⟨23, [(false, 2, 0, false)],
   .seq (.seg false [⟨some 2, none, .mov (.k (.bool false)), 0, 0, false, []⟩])
   (.seq (.seq (.seg false [⟨some 3, none, .mov (.k (.int .i64 0)), 0, 0, false, []⟩])
   (.block 0 (.loop [0, 3] [0, 2] L152x0)))
   (.seq (.seg false [⟨some 20, none, .mov (.t 0), 0, 0, false, []⟩,
    ⟨some 21, none, .len true (.t 20), 0, 0, false, []⟩,
    ⟨some 22, none, .bin .leq (.t 21) (.k (.int .i64 6)), 0, 0, false, []⟩,
    ⟨some 2, none, .mov (.t 22), 0, 0, false, []⟩])
   (.cutTo [2] (.ret))))⟩
/-- loop.example/tablehouse/spec.l1Cmp -/
def F156 : F := ⟨11, [(false, 4, 0, false)],
   .seq (.seg false [⟨some 4, none, .mov (.k (.int .i64 0)), 0, 0, false, []⟩])
   (.seq (.seq (.seg false [⟨some 5, none, .mov (.t 0), 0, 0, false, []⟩,
    ⟨some 6, none, .mov (.t 1), 0, 0, false, []⟩,
    ⟨some 7, none, .bin .lss (.t 5) (.t 6), 0, 0, false, []⟩])
   (.cond (.t 7) (.seq (.seg false [⟨some 4, none, .mov (.k (.int .i64 (-1))), 0, 0, false, []⟩])
   (.ret))
   (.skip)))
   (.cutTo [0, 1] (.seq (.seq (.seg false [⟨some 8, none, .mov (.t 0), 0, 0, false, []⟩,
    ⟨some 9, none, .mov (.t 1), 0, 0, false, []⟩,
    ⟨some 10, none, .bin .gtr (.t 8) (.t 9), 0, 0, false, []⟩])
   (.cond (.t 10) (.seq (.seg false [⟨some 4, none, .mov (.k (.int .i64 1)), 0, 0, false, []⟩])
   (.ret))
   (.skip)))
   (.cutTo [] (.seq (.seg false [⟨some 4, none, .mov (.k (.int .i64 0)), 0, 0, false, []⟩])
   (.ret))))))⟩
/-- cmp.isNaN<string> -/
def F187 : F := ⟨6, [(false, 2, 0, false)],
   .seq (.seg false [⟨some 2, none, .mov (.k (.bool false)), 0, 0, false, []⟩])
   (.seq (.seg false [⟨some 3, none, .mov (.t 0), 0, 0, false, []⟩,
    ⟨some 4, none, .mov (.t 0), 0, 0, false, []⟩,
    ⟨some 5, none, .bin .neq (.t 3) (.t 4), 0, 0, false, []⟩,
    ⟨some 2, none, .mov (.t 5), 0, 0, false, []⟩])
   (.cutTo [2] (.ret)))⟩
/-- loop.example/tablehouse/spec.l20Like -/
def F197 : F := ⟨31, [(true, 4, 3, true)],
   .seq (.seg false [⟨some 3, none, .box (.t 1), 0, 0, false, []⟩,
    ⟨some 4, none, .alloc [.int .i64 0, .int .i64 0, .str ⟨#[]⟩], 0, 0, false, []⟩])
   (.seq (.seq (.seg false [⟨some 5, none, .faddr 1 1 (.t 3), 0, 0, false, []⟩,
    ⟨some 6, none, .load false 1 (.t 5), 0, 0, false, []⟩,
    ⟨some 7, none, .mov (.t 6), 0, 0, false, []⟩,
    ⟨some 8, some (7, true), .mov (.t 0), 0, 0, false, []⟩,
    ⟨some 9, some (7, true), .call 57 [.t 8, .k (.int .i64 5)] true false, 0, 0, false, []⟩,
    ⟨some 10, some (7, true), .bin .eql (.t 9) (.k (.int .i64 0)), 0, 0, false, []⟩,
    ⟨some 11, none, .pick (.t 7) (.t 10) (.k (.bool false)), 0, 0, false, []⟩])
   (.cutTo [0, 3, 4, 11] (.cond (.t 11) (.seq (.seg false [⟨some 12, none, .build [.int .i64 0, .int .i64 0, .str ⟨#[]⟩] [], 0, 0, false, []⟩,
    ⟨none, none, .store 3 (.t 4) (.t 12), 0, 0, false, []⟩])
   (.ret))
   (.skip))))
   (.cutTo [0, 3, 4] (.seq (.seq (.seg false [⟨some 13, none, .faddr 0 1 (.t 3), 0, 0, false, []⟩,
    ⟨some 14, none, .load false 1 (.t 13), 0, 0, false, []⟩])
   (.block 0 (.seq (.seg false [⟨some 16, none, .bin .eql (.t 14) (.k (.int .i64 1)), 0, 0, false, []⟩,
    ⟨some 15, none, .mov (.t 16), 0, 0, false, []⟩])
   (.cond (.t 15) (.seq (.seg false [⟨some 17, none, .mov (.t 0), 0, 0, false, []⟩,
    ⟨some 18, none, .call 57 [.t 17, .k (.int .i64 4)] true false, 0, 0, false, []⟩,
    ⟨some 19, none, .build [.int .i64 0, .int .i64 0, .str ⟨#[]⟩] [(0, 1, .k (.int .i64 1)), (1, 1, .t 18)], 0, 0, false, []⟩,
    ⟨none, none, .store 3 (.t 4) (.t 19), 0, 0, false, []⟩])
   (.cutTo [4] (.ret)))
   (.seq (.seg false [⟨some 21, none, .bin .eql (.t 14) (.k (.int .i64 2)), 0, 0, false, []⟩,
    ⟨some 20, none, .mov (.t 21), 0, 0, false, []⟩])
   (.cond (.t 20) (.seq (.seg false [⟨some 22, none, .mksl false 1 [.k (.str ⟨#[]⟩), .k (.str ⟨#[97]⟩), .k (.str ⟨#[98]⟩), .k (.str ⟨#[97, 98]⟩)], 0, 0, false, []⟩,
    ⟨some 23, none, .mov (.t 0), 0, 0, false, []⟩,
    ⟨some 24, none, .call 57 [.t 23, .k (.int .i64 4)] true false, 0, 0, false, []⟩,
    ⟨some 25, none, .iaddr 1 (.t 22) (.t 24), 0, 0, false, []⟩,
    ⟨some 26, none, .load false 1 (.t 25), 0, 0, false, []⟩,
    ⟨some 27, none, .build [.int .i64 0, .int .i64 0, .str ⟨#[]⟩] [(0, 1, .k (.int .i64 2)), (2, 1, .t 26)], 0, 0, false, []⟩,
    ⟨none, none, .store 3 (.t 4) (.t 27), 0, 0, false, []⟩])
   (.cutTo [4] (.ret)))
   (.skip)))))))
   (.cutTo [0, 4] (.seq (.seg false [⟨some 28, none, .mov (.t 0), 0, 0, false, []⟩,
    ⟨some 29, none, .call 57 [.t 28, .k (.int .i64 2)] true false, 0, 0, false, []⟩,
    ⟨some 30, none, .build [.int .i64 0, .int .i64 0, .str ⟨#[]⟩] [(0, 1, .k (.int .i64 3)), (1, 1, .t 29)], 0, 0, false, []⟩,
    ⟨none, none, .store 3 (.t 4) (.t 30), 0, 0, false, []⟩])
   (.cutTo [4] (.ret)))))))⟩
def E149x0 : List I := [⟨some 42, none, .faddr 2 1 (.t 5), 0, 1, false, []⟩,
    ⟨some 43, none, .load false 1 (.t 42), 0, 1, false, []⟩,
    ⟨some 44, none, .mov (.t 0), 0, 0, false, []⟩,
    ⟨some 45, none, .call 57 [.t 44, .k (.int .i64 3)] true false, 0, 0, true, []⟩,
    ⟨some 46, none, .bin .add (.k (.int .i64 97)) (.t 45), 1, 1, false, []⟩,
    ⟨some 47, none, .conv (.int .u8) (.t 46), 1, 1, false, []⟩,
    ⟨some 48, none, .mksl false 1 [.t 47], 1, 1, false, []⟩,
    ⟨some 49, none, .conv .toStr (.t 48), 1, 1, false, []⟩,
    ⟨some 50, none, .bin .add (.t 43) (.t 49), 1, 1, false, []⟩,
    ⟨some 51, none, .faddr 2 1 (.t 5), 1, 1, false, []⟩,
    ⟨none, none, .store 1 (.t 51) (.t 50), 1, 0, true, []⟩]
def D149x0 : List I := E149x0
theorem evD149x0 (run : Run) (e : Env) (h : Heap) : drawI run D149x0 e h = DrawW (evW run E149x0 e h []) run E149x0 e h := drawI_write run _ e h
def B149x0 : C := .seq (.seq (.seg false [⟨some 38, none, .mov (.t 6), 0, 0, false, []⟩,
    ⟨some 39, none, .bin .gtr (.t 38) (.k (.int .i64 0)), 0, 0, false, []⟩])
   (.cond (.t 39) (.skip)
   (.exit 1)))
   (.seq (.block 2 (.seg true D149x0))
   (.cutTo [0, 1, 4, 5, 6] (.seg false [⟨some 40, none, .mov (.t 6), 0, 0, false, []⟩,
    ⟨some 41, none, .bin .sub (.t 40) (.k (.int .i64 1)), 0, 0, false, []⟩,
    ⟨some 6, none, .mov (.t 41), 0, 0, false, []⟩])))
def L149x0 : C := B149x0
theorem evL149x0 (run : Run) (draw : List I → Env → Heap → Option (Env × Heap)) (e : Env) (h : Heap) : evC run draw L149x0 e h = evC run draw B149x0 e h := rfl
/-- loop.example/tablehouse/spec.l20Value -/
def F149 : F := ⟨77, [(true, 4, 3, true)],
   .seq (.seg false [⟨some 4, none, .alloc [.int .i64 0, .int .i64 0, .str ⟨#[]⟩], 0, 0, false, []⟩])
   (.seq (.seg false [⟨some 7, none, .build [.int .i64 0, .int .i64 0, .str ⟨#[]⟩] [], 0, 0, false, []⟩,
    ⟨some 5, none, .alloc [.int .i64 0, .int .i64 0, .str ⟨#[]⟩], 0, 0, false, []⟩,
    ⟨none, none, .store 3 (.t 5) (.t 7), 0, 0, false, []⟩])
   (.seq (.seq (.seg false [⟨some 8, none, .mov (.t 0), 0, 0, false, []⟩,
    ⟨some 9, none, .call 57 [.t 8, .k (.int .i64 7)] true false, 0, 0, false, []⟩])
   (.block 0 (.seq (.seg false [⟨some 14, none, .bin .eql (.t 9) (.k (.int .i64 0)), 0, 0, false, []⟩,
    ⟨some 13, none, .mov (.t 14), 0, 0, false, []⟩])
   (.cond (.t 13) (.skip)
   (.seq (.seq (.seg false [⟨some 16, none, .bin .eql (.t 9) (.k (.int .i64 1)), 0, 0, false, []⟩,
    ⟨some 15, none, .mov (.t 16), 0, 0, false, []⟩])
   (.cond (.t 15) (.skip)
   (.seq (.seg false [⟨some 17, none, .bin .eql (.t 9) (.k (.int .i64 2)), 0, 0, false, []⟩,
    ⟨some 15, none, .mov (.t 17), 0, 0, false, []⟩])
   (.cond (.t 15) (.skip)
   (.seg false [⟨some 18, none, .bin .eql (.t 9) (.k (.int .i64 3)), 0, 0, false, []⟩,
    ⟨some 15, none, .mov (.t 18), 0, 0, false, []⟩])))))
   (.cutTo [0, 1, 4, 5, 9, 15] (.cond (.t 15) (.seq (.seg false [⟨some 19, none, .mov (.t 0), 0, 0, false, []⟩,
    ⟨some 20, none, .call 57 [.t 19, .k (.int .i64 7)] true false, 0, 0, false, []⟩,
    ⟨some 21, none, .bin .sub (.t 20) (.k (.int .i64 3)), 0, 0, false, []⟩,
    ⟨some 22, none, .build [.int .i64 0, .int .i64 0, .str ⟨#[]⟩] [(0, 1, .k (.int .i64 1)), (1, 1, .t 21)], 0, 0, false, []⟩,
    ⟨none, none, .store 3 (.t 5) (.t 22), 0, 0, false, []⟩])
   (.cutTo [0, 1, 4, 5] (.seq (.seg false [⟨some 23, none, .mov (.t 0), 0, 0, false, []⟩,
    ⟨some 24, none, .call 57 [.t 23, .k (.int .i64 8)] true false, 0, 0, false, []⟩,
    ⟨some 25, none, .bin .eql (.t 24) (.k (.int .i64 0)), 0, 0, false, []⟩])
   (.cond (.t 25) (.seg false [⟨some 26, none, .mksl false 1 [.k (.int .i64 9999), .k (.int .i64 (-9999)), .k (.int .i64 255), .k (.int .i64 256), .k (.int .i64 (-256))], 0, 0, false, []⟩,
    ⟨some 27, none, .mov (.t 0), 0, 0, false, []⟩,
    ⟨some 28, none, .call 57 [.t 27, .k (.int .i64 5)] true false, 0, 0, false, []⟩,
    ⟨some 29, none, .iaddr 1 (.t 26) (.t 28), 0, 0, false, []⟩,
    ⟨some 30, none, .load false 1 (.t 29), 0, 0, false, []⟩,
    ⟨some 31, none, .faddr 1 1 (.t 5), 0, 0, false, []⟩,
    ⟨none, none, .store 1 (.t 31) (.t 30), 0, 0, false, []⟩])
   (.skip)))))
   (.seq (.seq (.seg false [⟨some 33, none, .bin .eql (.t 9) (.k (.int .i64 4)), 0, 0, false, []⟩,
    ⟨some 32, none, .mov (.t 33), 0, 0, false, []⟩])
   (.cond (.t 32) (.skip)
   (.seg false [⟨some 34, none, .bin .eql (.t 9) (.k (.int .i64 5)), 0, 0, false, []⟩,
    ⟨some 32, none, .mov (.t 34), 0, 0, false, []⟩])))
   (.cutTo [0, 1, 4, 5, 32] (.cond (.t 32) (.seq (.seg false [⟨some 35, none, .build [.int .i64 0, .int .i64 0, .str ⟨#[]⟩] [(0, 1, .k (.int .i64 2))], 0, 0, false, []⟩,
    ⟨none, none, .store 3 (.t 5) (.t 35), 0, 0, false, []⟩])
   (.seq (.seg false [⟨some 36, none, .mov (.t 0), 0, 0, false, []⟩,
    ⟨some 37, none, .call 57 [.t 36, .k (.int .i64 4)] true false, 0, 0, false, []⟩,
    ⟨some 6, none, .mov (.t 37), 0, 0, false, []⟩])
   (.block 1 (.loop [0, 1, 4, 5, 6] [0, 1, 4, 5] L149x0))))
   (.seg false [⟨some 10, none, .mov (.t 0), 0, 0, false, []⟩,
    ⟨some 11, none, .call 57 [.t 10, .k (.int .i64 2)] true false, 0, 0, false, []⟩,
    ⟨some 12, none, .build [.int .i64 0, .int .i64 0, .str ⟨#[]⟩] [(0, 1, .k (.int .i64 3)), (1, 1, .t 11)], 0, 0, false, []⟩,
    ⟨none, none, .store 3 (.t 5) (.t 12), 0, 0, false, []⟩])))))))))))
   (.cutTo [0, 1, 4, 5] (.seq (.seq (.seg false [⟨some 52, none, .mov (.t 0), 0, 0, false, []⟩,
    ⟨some 53, none, .mov (.t 1), 0, 0, false, []⟩,
    ⟨some 54, none, .call 119 [.t 52, .t 53] true false, 0, 0, false, []⟩])
   (.cond (.t 54) (.seq (.seg false [⟨some 55, none, .mov (.t 0), 0, 0, false, []⟩,
    ⟨some 56, none, .call 57 [.t 55, .k (.int .i64 4)] true false, 0, 0, false, []⟩])
   (.block 3 (.seq (.seg false [⟨some 62, none, .bin .eql (.t 56) (.k (.int .i64 0)), 0, 0, false, []⟩,
    ⟨some 61, none, .mov (.t 62), 0, 0, false, []⟩])
   (.cond (.t 61) (.seg false [⟨some 63, none, .faddr 1 1 (.t 5), 0, 0, false, []⟩,
    ⟨none, none, .store 1 (.t 63) (.k (.int .i64 10000)), 0, 0, false, []⟩])
   (.seq (.seg false [⟨some 65, none, .bin .eql (.t 56) (.k (.int .i64 1)), 0, 0, false, []⟩,
    ⟨some 64, none, .mov (.t 65), 0, 0, false, []⟩])
   (.cond (.t 64) (.seg false [⟨some 66, none, .faddr 2 1 (.t 5), 0, 0, false, []⟩,
    ⟨some 67, none, .load false 1 (.t 66), 0, 0, false, []⟩,
    ⟨some 68, none, .bin .add (.t 67) (.k (.str ⟨#[97, 98, 99, 100, 101, 102, 103]⟩)), 0, 0, false, []⟩,
    ⟨some 69, none, .faddr 2 1 (.t 5), 0, 0, false, []⟩,
    ⟨none, none, .store 1 (.t 69) (.t 68), 0, 0, false, []⟩])
   (.seq (.seg false [⟨some 71, none, .bin .eql (.t 56) (.k (.int .i64 2)), 0, 0, false, []⟩,
    ⟨some 70, none, .mov (.t 71), 0, 0, false, []⟩])
   (.cond (.t 70) (.seg false [⟨some 72, none, .mov (.t 0), 0, 0, false, []⟩,
    ⟨some 73, none, .call 57 [.t 72, .k (.int .i64 7)] true false, 0, 0, false, []⟩,
    ⟨some 74, none, .bin .sub (.t 73) (.k (.int .i64 1)), 0, 0, false, []⟩,
    ⟨some 75, none, .faddr 0 1 (.t 5), 0, 0, false, []⟩,
    ⟨none, none, .store 1 (.t 75) (.t 74), 0, 0, false, []⟩])
   (.seg false [⟨some 57, none, .faddr 2 1 (.t 5), 0, 0, false, []⟩,
    ⟨some 58, none, .load false 1 (.t 57), 0, 0, false, []⟩,
    ⟨some 59, none, .bin .add (.t 58) (.k (.str ⟨#[65]⟩)), 0, 0, false, []⟩,
    ⟨some 60, none, .faddr 2 1 (.t 5), 0, 0, false, []⟩,
    ⟨none, none, .store 1 (.t 60) (.t 59), 0, 0, false, []⟩])))))))))
   (.skip)))
   (.cutTo [4, 5] (.seq (.seg false [⟨some 76, none, .load true 3 (.t 5), 0, 0, false, []⟩,
    ⟨none, none, .store 3 (.t 4) (.t 76), 0, 0, false, []⟩])
   (.ret)))))))⟩
theorem chk3 : chkF Try.prog 3 F3 = true := by kernel_rfl
theorem chk4 : chkF Try.prog 4 F4 = true := by kernel_rfl
theorem chk5 : chkF Try.prog 5 F5 = true := by kernel_rfl
theorem chk6 : chkF Try.prog 6 F6 = true := by kernel_rfl
theorem chk11 : chkF Try.prog 11 F11 = true := by kernel_rfl
theorem chk12 : chkF Try.prog 12 F12 = true := by kernel_rfl
theorem chk13 : chkF Try.prog 13 F13 = true := by kernel_rfl
theorem chk14 : chkF Try.prog 14 F14 = true := by kernel_rfl
theorem chk16 : chkF Try.prog 16 F16 = true := by kernel_rfl
theorem chk15 : chkF Try.prog 15 F15 = true := by kernel_rfl
theorem chk17 : chkF Try.prog 17 F17 = true := by kernel_rfl
theorem chk18 : chkF Try.prog 18 F18 = true := by kernel_rfl
theorem chk19 : chkF Try.prog 19 F19 = true := by kernel_rfl
theorem chk20 : chkF Try.prog 20 F20 = true := by kernel_rfl
theorem chk22 : chkF Try.prog 22 F22 = true := by kernel_rfl
theorem chk21 : chkF Try.prog 21 F21 = true := by kernel_rfl
theorem chk23 : chkF Try.prog 23 F23 = true := by kernel_rfl
theorem chk24 : chkF Try.prog 24 F24 = true := by kernel_rfl
theorem chk25 : chkF Try.prog 25 F25 = true := by kernel_rfl
theorem chk27 : chkF Try.prog 27 F27 = true := by kernel_rfl
theorem chk26 : chkF Try.prog 26 F26 = true := by kernel_rfl
theorem chk28 : chkF Try.prog 28 F28 = true := by kernel_rfl
theorem chk29 : chkF Try.prog 29 F29 = true := by kernel_rfl
theorem chk30 : chkF Try.prog 30 F30 = true := by kernel_rfl
theorem chk31 : chkF Try.prog 31 F31 = true := by kernel_rfl
theorem chk32 : chkF Try.prog 32 F32 = true := by kernel_rfl
theorem chk33 : chkF Try.prog 33 F33 = true := by kernel_rfl
theorem chk34 : chkF Try.prog 34 F34 = true := by kernel_rfl
theorem chk35 : chkF Try.prog 35 F35 = true := by kernel_rfl
theorem chk36 : chkF Try.prog 36 F36 = true := by kernel_rfl
theorem chk55 : chkF Try.prog 55 F55 = true := by kernel_rfl
theorem chk56 : chkF Try.prog 56 F56 = true := by kernel_rfl
theorem chk57 : chkF Try.prog 57 F57 = true := by kernel_rfl
theorem chk58 : chkF Try.prog 58 F58 = true := by kernel_rfl
theorem chk59 : chkF Try.prog 59 F59 = true := by kernel_rfl
theorem chk60 : chkF Try.prog 60 F60 = true := by kernel_rfl
theorem chk61 : chkF Try.prog 61 F61 = true := by kernel_rfl
theorem chk62 : chkF Try.prog 62 F62 = true := by kernel_rfl
theorem chk63 : chkF Try.prog 63 F63 = true := by kernel_rfl
theorem chk64 : chkF Try.prog 64 F64 = true := by kernel_rfl
theorem chk66 : chkF Try.prog 66 F66 = true := by kernel_rfl
theorem chk67 : chkF Try.prog 67 F67 = true := by kernel_rfl
theorem chk65 : chkF Try.prog 65 F65 = true := by kernel_rfl
theorem chk68 : chkF Try.prog 68 F68 = true := by kernel_rfl
theorem chk69 : chkF Try.prog 69 F69 = true := by kernel_rfl
theorem chk72 : chkF Try.prog 72 F72 = true := by kernel_rfl
theorem chk75 : chkF Try.prog 75 F75 = true := by kernel_rfl
theorem chk76 : chkF Try.prog 76 F76 = true := by kernel_rfl
theorem chk74 : chkF Try.prog 74 F74 = true := by kernel_rfl
theorem chk73 : chkF Try.prog 73 F73 = true := by kernel_rfl
theorem chk77 : chkF Try.prog 77 F77 = true := by kernel_rfl
theorem chk78 : chkF Try.prog 78 F78 = true := by kernel_rfl
theorem chk79 : chkF Try.prog 79 F79 = true := by kernel_rfl
theorem chk80 : chkF Try.prog 80 F80 = true := by kernel_rfl
theorem chk81 : chkF Try.prog 81 F81 = true := by kernel_rfl
theorem chk82 : chkF Try.prog 82 F82 = true := by kernel_rfl
theorem chk85 : chkF Try.prog 85 F85 = true := by kernel_rfl
theorem chk83 : chkF Try.prog 83 F83 = true := by kernel_rfl
theorem chk84 : chkF Try.prog 84 F84 = true := by kernel_rfl
theorem chk86 : chkF Try.prog 86 F86 = true := by kernel_rfl
theorem chk87 : chkF Try.prog 87 F87 = true := by kernel_rfl
theorem chk88 : chkF Try.prog 88 F88 = true := by kernel_rfl
theorem chk89 : chkF Try.prog 89 F89 = true := by kernel_rfl
theorem chk90 : chkF Try.prog 90 F90 = true := by kernel_rfl
theorem chk91 : chkF Try.prog 91 F91 = true := by kernel_rfl
theorem chk92 : chkF Try.prog 92 F92 = true := by kernel_rfl
theorem chk93 : chkF Try.prog 93 F93 = true := by kernel_rfl
theorem chk94 : chkF Try.prog 94 F94 = true := by kernel_rfl
theorem chk119 : chkF Try.prog 119 F119 = true := by kernel_rfl
theorem chk121 : chkF Try.prog 121 F121 = true := by kernel_rfl
theorem chk120 : chkF Try.prog 120 F120 = true := by kernel_rfl
theorem chk122 : chkF Try.prog 122 F122 = true := by kernel_rfl
theorem chk123 : chkF Try.prog 123 F123 = true := by kernel_rfl
theorem chk102 : chkF Try.prog 102 F102 = true := by kernel_rfl
theorem chk124 : chkF Try.prog 124 F124 = true := by kernel_rfl
theorem chk125 : chkF Try.prog 125 F125 = true := by kernel_rfl
theorem chk126 : chkF Try.prog 126 F126 = true := by kernel_rfl
theorem chk127 : chkF Try.prog 127 F127 = true := by kernel_rfl
theorem chk70 : chkF Try.prog 70 F70 = true := by kernel_rfl
theorem chk71 : chkF Try.prog 71 F71 = true := by kernel_rfl
theorem chk96 : chkF Try.prog 96 F96 = true := by kernel_rfl
theorem chk134 : chkF Try.prog 134 F134 = true := by kernel_rfl
theorem chk133 : chkF Try.prog 133 F133 = true := by kernel_rfl
theorem chk135 : chkF Try.prog 135 F135 = true := by kernel_rfl
theorem chk136 : chkF Try.prog 136 F136 = true := by kernel_rfl
theorem chk137 : chkF Try.prog 137 F137 = true := by kernel_rfl
theorem chk140 : chkF Try.prog 140 F140 = true := by kernel_rfl
theorem chk138 : chkF Try.prog 138 F138 = true := by kernel_rfl
theorem chk139 : chkF Try.prog 139 F139 = true := by kernel_rfl
theorem chk141 : chkF Try.prog 141 F141 = true := by kernel_rfl
theorem chk142 : chkF Try.prog 142 F142 = true := by kernel_rfl
theorem chk144 : chkF Try.prog 144 F144 = true := by kernel_rfl
theorem chk143 : chkF Try.prog 143 F143 = true := by kernel_rfl
theorem chk146 : chkF Try.prog 146 F146 = true := by kernel_rfl
theorem chk108 : chkF Try.prog 108 F108 = true := by kernel_rfl
theorem chk147 : chkF Try.prog 147 F147 = true := by kernel_rfl
theorem chk145 : chkF Try.prog 145 F145 = true := by kernel_rfl
theorem chk170 : chkF Try.prog 170 F170 = true := by kernel_rfl
theorem chk171 : chkF Try.prog 171 F171 = true := by kernel_rfl
theorem chk158 : chkF Try.prog 158 F158 = true := by kernel_rfl
theorem chk167 : chkF Try.prog 167 F167 = true := by kernel_rfl
theorem chk168 : chkF Try.prog 168 F168 = true := by kernel_rfl
theorem chk169 : chkF Try.prog 169 F169 = true := by kernel_rfl
theorem chk172 : chkF Try.prog 172 F172 = true := by kernel_rfl
theorem chk173 : chkF Try.prog 173 F173 = true := by kernel_rfl
theorem chk174 : chkF Try.prog 174 F174 = true := by kernel_rfl
theorem chk128 : chkF Try.prog 128 F128 = true := by kernel_rfl
theorem chk129 : chkF Try.prog 129 F129 = true := by kernel_rfl
theorem chk131 : chkF Try.prog 131 F131 = true := by kernel_rfl
theorem chk130 : chkF Try.prog 130 F130 = true := by kernel_rfl
theorem chk150 : chkF Try.prog 150 F150 = true := by kernel_rfl
theorem chk177 : chkF Try.prog 177 F177 = true := by kernel_rfl
theorem chk178 : chkF Try.prog 178 F178 = true := by kernel_rfl
theorem chk179 : chkF Try.prog 179 F179 = true := by kernel_rfl
theorem chk101 : chkF Try.prog 101 F101 = true := by kernel_rfl
theorem chk109 : chkF Try.prog 109 F109 = true := by kernel_rfl
theorem chk155 : chkF Try.prog 155 F155 = true := by kernel_rfl
theorem chk182 : chkF Try.prog 182 F182 = true := by kernel_rfl
theorem chk180 : chkF Try.prog 180 F180 = true := by kernel_rfl
theorem chk181 : chkF Try.prog 181 F181 = true := by kernel_rfl
theorem chk154 : chkF Try.prog 154 F154 = true := by kernel_rfl
theorem chk183 : chkF Try.prog 183 F183 = true := by kernel_rfl
theorem chk194 : chkF Try.prog 194 F194 = true := by kernel_rfl
theorem chk195 : chkF Try.prog 195 F195 = true := by kernel_rfl
theorem chk175 : chkF Try.prog 175 F175 = true := by kernel_rfl
theorem chk132 : chkF Try.prog 132 F132 = true := by kernel_rfl
theorem chk176 : chkF Try.prog 176 F176 = true := by kernel_rfl
theorem chk152 : chkF Try.prog 152 F152 = true := by kernel_rfl
theorem chk156 : chkF Try.prog 156 F156 = true := by kernel_rfl
theorem chk187 : chkF Try.prog 187 F187 = true := by kernel_rfl
theorem chk197 : chkF Try.prog 197 F197 = true := by kernel_rfl
theorem chk149 : chkF Try.prog 149 F149 = true := by kernel_rfl
def tab : Tab := [(3, F3), (4, F4), (5, F5), (6, F6), (11, F11), (12, F12), (13, F13), (14, F14), (16, F16), (15, F15), (17, F17), (18, F18), (19, F19), (20, F20), (22, F22), (21, F21), (23, F23), (24, F24), (25, F25), (27, F27), (26, F26), (28, F28), (29, F29), (30, F30), (31, F31), (32, F32), (33, F33), (34, F34), (35, F35), (36, F36), (55, F55), (56, F56), (57, F57), (58, F58), (59, F59), (60, F60), (61, F61), (62, F62), (63, F63), (64, F64), (66, F66), (67, F67), (65, F65), (68, F68), (69, F69), (72, F72), (75, F75), (76, F76), (74, F74), (73, F73), (77, F77), (78, F78), (79, F79), (80, F80), (81, F81), (82, F82), (85, F85), (83, F83), (84, F84), (86, F86), (87, F87), (88, F88), (89, F89), (90, F90), (91, F91), (92, F92), (93, F93), (94, F94), (119, F119), (121, F121), (120, F120), (122, F122), (123, F123), (102, F102), (124, F124), (125, F125), (126, F126), (127, F127), (70, F70), (71, F71), (96, F96), (134, F134), (133, F133), (135, F135), (136, F136), (137, F137), (140, F140), (138, F138), (139, F139), (141, F141), (142, F142), (144, F144), (143, F143), (146, F146), (108, F108), (147, F147), (145, F145), (170, F170), (171, F171), (158, F158), (167, F167), (168, F168), (169, F169), (172, F172), (173, F173), (174, F174), (128, F128), (129, F129), (131, F131), (130, F130), (150, F150), (177, F177), (178, F178), (179, F179), (101, F101), (109, F109), (155, F155), (182, F182), (180, F180), (181, F181), (154, F154), (183, F183), (194, F194), (195, F195), (175, F175), (132, F132), (176, F176), (152, F152), (156, F156), (187, F187), (197, F197), (149, F149)]
theorem find3 : tab.find 3 = some F3 := rfl
theorem find4 : tab.find 4 = some F4 := rfl
theorem find5 : tab.find 5 = some F5 := rfl
theorem find6 : tab.find 6 = some F6 := rfl
theorem find11 : tab.find 11 = some F11 := rfl
theorem find12 : tab.find 12 = some F12 := rfl
theorem find13 : tab.find 13 = some F13 := rfl
theorem find14 : tab.find 14 = some F14 := rfl
theorem find16 : tab.find 16 = some F16 := rfl
theorem find15 : tab.find 15 = some F15 := rfl
theorem find17 : tab.find 17 = some F17 := rfl
theorem find18 : tab.find 18 = some F18 := rfl
theorem find19 : tab.find 19 = some F19 := rfl
theorem find20 : tab.find 20 = some F20 := rfl
theorem find22 : tab.find 22 = some F22 := rfl
theorem find21 : tab.find 21 = some F21 := rfl
theorem find23 : tab.find 23 = some F23 := rfl
theorem find24 : tab.find 24 = some F24 := rfl
theorem find25 : tab.find 25 = some F25 := rfl
theorem find27 : tab.find 27 = some F27 := rfl
theorem find26 : tab.find 26 = some F26 := rfl
theorem find28 : tab.find 28 = some F28 := rfl
theorem find29 : tab.find 29 = some F29 := rfl
theorem find30 : tab.find 30 = some F30 := rfl
theorem find31 : tab.find 31 = some F31 := rfl
theorem find32 : tab.find 32 = some F32 := rfl
theorem find33 : tab.find 33 = some F33 := rfl
theorem find34 : tab.find 34 = some F34 := rfl
theorem find35 : tab.find 35 = some F35 := rfl
theorem find36 : tab.find 36 = some F36 := rfl
theorem find55 : tab.find 55 = some F55 := rfl
theorem find56 : tab.find 56 = some F56 := rfl
theorem find57 : tab.find 57 = some F57 := rfl
theorem find58 : tab.find 58 = some F58 := rfl
theorem find59 : tab.find 59 = some F59 := rfl
theorem find60 : tab.find 60 = some F60 := rfl
theorem find61 : tab.find 61 = some F61 := rfl
theorem find62 : tab.find 62 = some F62 := rfl
theorem find63 : tab.find 63 = some F63 := rfl
theorem find64 : tab.find 64 = some F64 := rfl
theorem find66 : tab.find 66 = some F66 := rfl
theorem find67 : tab.find 67 = some F67 := rfl
theorem find65 : tab.find 65 = some F65 := rfl
theorem find68 : tab.find 68 = some F68 := rfl
theorem find69 : tab.find 69 = some F69 := rfl
theorem find72 : tab.find 72 = some F72 := rfl
theorem find75 : tab.find 75 = some F75 := rfl
theorem find76 : tab.find 76 = some F76 := rfl
theorem find74 : tab.find 74 = some F74 := rfl
theorem find73 : tab.find 73 = some F73 := rfl
theorem find77 : tab.find 77 = some F77 := rfl
theorem find78 : tab.find 78 = some F78 := rfl
theorem find79 : tab.find 79 = some F79 := rfl
theorem find80 : tab.find 80 = some F80 := rfl
theorem find81 : tab.find 81 = some F81 := rfl
theorem find82 : tab.find 82 = some F82 := rfl
theorem find85 : tab.find 85 = some F85 := rfl
theorem find83 : tab.find 83 = some F83 := rfl
theorem find84 : tab.find 84 = some F84 := rfl
theorem find86 : tab.find 86 = some F86 := rfl
theorem find87 : tab.find 87 = some F87 := rfl
theorem find88 : tab.find 88 = some F88 := rfl
theorem find89 : tab.find 89 = some F89 := rfl
theorem find90 : tab.find 90 = some F90 := rfl
theorem find91 : tab.find 91 = some F91 := rfl
theorem find92 : tab.find 92 = some F92 := rfl
theorem find93 : tab.find 93 = some F93 := rfl
theorem find94 : tab.find 94 = some F94 := rfl
theorem find119 : tab.find 119 = some F119 := rfl
theorem find121 : tab.find 121 = some F121 := rfl
theorem find120 : tab.find 120 = some F120 := rfl
theorem find122 : tab.find 122 = some F122 := rfl
theorem find123 : tab.find 123 = some F123 := rfl
theorem find102 : tab.find 102 = some F102 := rfl
theorem find124 : tab.find 124 = some F124 := rfl
theorem find125 : tab.find 125 = some F125 := rfl
theorem find126 : tab.find 126 = some F126 := rfl
theorem find127 : tab.find 127 = some F127 := rfl
theorem find70 : tab.find 70 = some F70 := rfl
theorem find71 : tab.find 71 = some F71 := rfl
theorem find96 : tab.find 96 = some F96 := rfl
theorem find134 : tab.find 134 = some F134 := rfl
theorem find133 : tab.find 133 = some F133 := rfl
theorem find135 : tab.find 135 = some F135 := rfl
theorem find136 : tab.find 136 = some F136 := rfl
theorem find137 : tab.find 137 = some F137 := rfl
theorem find140 : tab.find 140 = some F140 := rfl
theorem find138 : tab.find 138 = some F138 := rfl
theorem find139 : tab.find 139 = some F139 := rfl
theorem find141 : tab.find 141 = some F141 := rfl
theorem find142 : tab.find 142 = some F142 := rfl
theorem find144 : tab.find 144 = some F144 := rfl
theorem find143 : tab.find 143 = some F143 := rfl
theorem find146 : tab.find 146 = some F146 := rfl
theorem find108 : tab.find 108 = some F108 := rfl
theorem find147 : tab.find 147 = some F147 := rfl
theorem find145 : tab.find 145 = some F145 := rfl
theorem find170 : tab.find 170 = some F170 := rfl
theorem find171 : tab.find 171 = some F171 := rfl
theorem find158 : tab.find 158 = some F158 := rfl
theorem find167 : tab.find 167 = some F167 := rfl
theorem find168 : tab.find 168 = some F168 := rfl
theorem find169 : tab.find 169 = some F169 := rfl
theorem find172 : tab.find 172 = some F172 := rfl
theorem find173 : tab.find 173 = some F173 := rfl
theorem find174 : tab.find 174 = some F174 := rfl
theorem find128 : tab.find 128 = some F128 := rfl
theorem find129 : tab.find 129 = some F129 := rfl
theorem find131 : tab.find 131 = some F131 := rfl
theorem find130 : tab.find 130 = some F130 := rfl
theorem find150 : tab.find 150 = some F150 := rfl
theorem find177 : tab.find 177 = some F177 := rfl
theorem find178 : tab.find 178 = some F178 := rfl
theorem find179 : tab.find 179 = some F179 := rfl
theorem find101 : tab.find 101 = some F101 := rfl
theorem find109 : tab.find 109 = some F109 := rfl
theorem find155 : tab.find 155 = some F155 := rfl
theorem find182 : tab.find 182 = some F182 := rfl
theorem find180 : tab.find 180 = some F180 := rfl
theorem find181 : tab.find 181 = some F181 := rfl
theorem find154 : tab.find 154 = some F154 := rfl
theorem find183 : tab.find 183 = some F183 := rfl
theorem find194 : tab.find 194 = some F194 := rfl
theorem find195 : tab.find 195 = some F195 := rfl
theorem find175 : tab.find 175 = some F175 := rfl
theorem find132 : tab.find 132 = some F132 := rfl
theorem find176 : tab.find 176 = some F176 := rfl
theorem find152 : tab.find 152 = some F152 := rfl
theorem find156 : tab.find 156 = some F156 := rfl
theorem find187 : tab.find 187 = some F187 := rfl
theorem find197 : tab.find 197 = some F197 := rfl
theorem find149 : tab.find 149 = some F149 := rfl
theorem tab_ok : ∀ p ∈ tab, chkF Try.prog p.1 p.2 = true := by
  intro p hp
  simp only [tab, List.mem_cons, List.not_mem_nil, or_false] at hp
  rcases hp with rfl | rfl | rfl | rfl | rfl | rfl | rfl | rfl | rfl | rfl | rfl | rfl | rfl | rfl | rfl | rfl | rfl | rfl | rfl | rfl | rfl | rfl | rfl | rfl | rfl | rfl | rfl | rfl | rfl | rfl | rfl | rfl | rfl | rfl | rfl | rfl | rfl | rfl | rfl | rfl | rfl | rfl | rfl | rfl | rfl | rfl | rfl | rfl | rfl | rfl | rfl | rfl | rfl | rfl | rfl | rfl | rfl | rfl | rfl | rfl | rfl | rfl | rfl | rfl | rfl | rfl | rfl | rfl | rfl | rfl | rfl | rfl | rfl | rfl | rfl | rfl | rfl | rfl | rfl | rfl | rfl | rfl | rfl | rfl | rfl | rfl | rfl | rfl | rfl | rfl | rfl | rfl | rfl | rfl | rfl | rfl | rfl | rfl | rfl | rfl | rfl | rfl | rfl | rfl | rfl | rfl | rfl | rfl | rfl | rfl | rfl | rfl | rfl | rfl | rfl | rfl | rfl | rfl | rfl | rfl | rfl | rfl | rfl | rfl | rfl | rfl | rfl | rfl | rfl | rfl | rfl | rfl
  · exact chk3
  · exact chk4
  · exact chk5
  · exact chk6
  · exact chk11
  · exact chk12
  · exact chk13
  · exact chk14
  · exact chk16
  · exact chk15
  · exact chk17
  · exact chk18
  · exact chk19
  · exact chk20
  · exact chk22
  · exact chk21
  · exact chk23
  · exact chk24
  · exact chk25
  · exact chk27
  · exact chk26
  · exact chk28
  · exact chk29
  · exact chk30
  · exact chk31
  · exact chk32
  · exact chk33
  · exact chk34
  · exact chk35
  · exact chk36
  · exact chk55
  · exact chk56
  · exact chk57
  · exact chk58
  · exact chk59
  · exact chk60
  · exact chk61
  · exact chk62
  · exact chk63
  · exact chk64
  · exact chk66
  · exact chk67
  · exact chk65
  · exact chk68
  · exact chk69
  · exact chk72
  · exact chk75
  · exact chk76
  · exact chk74
  · exact chk73
  · exact chk77
  · exact chk78
  · exact chk79
  · exact chk80
  · exact chk81
  · exact chk82
  · exact chk85
  · exact chk83
  · exact chk84
  · exact chk86
  · exact chk87
  · exact chk88
  · exact chk89
  · exact chk90
  · exact chk91
  · exact chk92
  · exact chk93
  · exact chk94
  · exact chk119
  · exact chk121
  · exact chk120
  · exact chk122
  · exact chk123
  · exact chk102
  · exact chk124
  · exact chk125
  · exact chk126
  · exact chk127
  · exact chk70
  · exact chk71
  · exact chk96
  · exact chk134
  · exact chk133
  · exact chk135
  · exact chk136
  · exact chk137
  · exact chk140
  · exact chk138
  · exact chk139
  · exact chk141
  · exact chk142
  · exact chk144
  · exact chk143
  · exact chk146
  · exact chk108
  · exact chk147
  · exact chk145
  · exact chk170
  · exact chk171
  · exact chk158
  · exact chk167
  · exact chk168
  · exact chk169
  · exact chk172
  · exact chk173
  · exact chk174
  · exact chk128
  · exact chk129
  · exact chk131
  · exact chk130
  · exact chk150
  · exact chk177
  · exact chk178
  · exact chk179
  · exact chk101
  · exact chk109
  · exact chk155
  · exact chk182
  · exact chk180
  · exact chk181
  · exact chk154
  · exact chk183
  · exact chk194
  · exact chk195
  · exact chk175
  · exact chk132
  · exact chk176
  · exact chk152
  · exact chk156
  · exact chk187
  · exact chk197
  · exact chk149
end Go.Proofs.Ytfbjbkkcilhgjaa.PE
