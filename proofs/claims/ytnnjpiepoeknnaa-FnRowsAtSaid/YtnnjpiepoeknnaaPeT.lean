/- The compact code of the functions, and that it is the code of the machine. -/
import Derived.Test.YtnnjpiepoeknnaaPeT0
import Derived.Test.YtnnjpiepoeknnaaPeX
import Derived.Test.YtnnjpiepoeknnaaProg
namespace Go.Proofs.Ytnnjpiepoeknnaa.PE
open Go.RowKit
set_option maxRecDepth 100000
def E95x0 : List I := [⟨some 29, none, .faddr 0 1 (.t 6), 0, 0, false, []⟩,
    ⟨some 30, none, .load false 1 (.t 29), 0, 0, false, []⟩,
    ⟨some 31, none, .mov (.t 0), 0, 0, false, []⟩,
    ⟨some 32, none, .mov (.t 5), 0, 0, false, []⟩,
    ⟨some 33, none, .iaddr 2 (.t 31) (.t 32), 0, 0, false, []⟩,
    ⟨some 34, none, .faddr 0 1 (.t 33), 0, 0, false, []⟩,
    ⟨some 35, none, .load false 1 (.t 34), 0, 0, false, []⟩,
    ⟨some 36, none, .bin .neq (.t 30) (.t 35), 0, 0, false, []⟩,
    ⟨some 37, none, .mov (.t 36), 0, 0, false, []⟩,
    ⟨some 38, some (37, true), .faddr 0 1 (.t 6), 0, 0, false, []⟩,
    ⟨some 39, some (37, true), .load false 1 (.t 38), 0, 0, false, []⟩,
    ⟨some 40, some (37, true), .bin .neq (.t 39) (.k (.int .i64 0)), 0, 0, false, []⟩,
    ⟨some 41, some (37, true), .mov (.t 40), 0, 0, false, []⟩,
    ⟨some 42, some (41, false), .mov (.t 0), 0, 0, false, []⟩,
    ⟨some 43, some (41, false), .mov (.t 5), 0, 0, false, []⟩,
    ⟨some 44, some (41, false), .iaddr 2 (.t 42) (.t 43), 0, 0, false, []⟩,
    ⟨some 45, some (41, false), .faddr 1 1 (.t 44), 0, 0, false, []⟩,
    ⟨some 46, some (41, false), .load false 1 (.t 45), 0, 0, false, []⟩,
    ⟨some 47, some (41, false), .un .not (.t 46), 0, 0, false, []⟩,
    ⟨some 48, some (37, true), .pick (.t 41) (.k (.bool true)) (.t 47), 0, 0, false, []⟩,
    ⟨some 49, none, .pick (.t 37) (.t 48) (.k (.bool false)), 0, 0, false, []⟩]
def D95x0 : List I := E95x0
theorem evD95x0 (run : Run) (e : Env) (h : Heap) : drawI run D95x0 e h = DrawS (evQ run E95x0 e h) run E95x0 e h := drawI_quiet run _ (by rfl) e h
def B95x0 : C := .seq (.seg false [⟨some 25, none, .bin .lss (.t 24) (.t 23), 0, 0, false, []⟩])
   (.seq (.cond (.t 25) (.skip)
   (.exit 0))
   (.seq (.block 1 (.seq (.seg false [⟨some 26, none, .mov (.t 24), 0, 0, false, []⟩,
    ⟨some 27, none, .iaddr 3 (.t 22) (.t 24), 0, 0, false, []⟩,
    ⟨some 28, none, .load true 3 (.t 27), 0, 0, false, []⟩,
    ⟨some 6, none, .alloc [.int .i64 0, .int .i64 0, .str ⟨#[]⟩], 0, 0, false, []⟩,
    ⟨some 5, none, .mov (.t 26), 0, 0, false, []⟩,
    ⟨none, none, .store 3 (.t 6) (.t 28), 0, 0, false, []⟩])
   (.cutTo [0, 5, 6, 22, 23, 24] (.seq (.seg true D95x0)
   (.cutTo [0, 22, 23, 24, 49] (.cond (.t 49) (.seq (.seg false [⟨some 4, none, .mov (.k (.bool false)), 0, 0, false, []⟩])
   (.ret))
   (.skip)))))))
   (.cutTo [0, 22, 23, 24] (.seg false [⟨some 50, none, .bin .add (.t 24) (.k (.int .i64 1)), 0, 0, false, []⟩,
    ⟨some 24, none, .mov (.t 50), 0, 0, false, []⟩]))))
def L95x0 : C := B95x0
theorem evL95x0 (run : Run) (draw : List I → Env → Heap → Option (Env × Heap)) (e : Env) (h : Heap) : evC run draw L95x0 e h = evC run draw B95x0 e h := rfl
/-- loop.example/tablehouse/impl.RowFits -/
def F95 : F := ⟨51, [(false, 4, 0, false)],
   .seq (.seg false [⟨some 4, none, .mov (.k (.bool false)), 0, 0, false, []⟩])
   (.seq (.seq (.seg false [⟨some 7, none, .mov (.t 0), 0, 0, false, []⟩,
    ⟨some 8, none, .call 87 [.t 7] false false, 0, 0, false, []⟩,
    ⟨some 9, none, .un .not (.t 8), 0, 0, false, []⟩,
    ⟨some 10, none, .mov (.t 9), 0, 0, false, []⟩,
    ⟨some 11, some (10, false), .mov (.t 1), 0, 0, false, []⟩,
    ⟨some 12, some (10, false), .call 128 [.t 11] false false, 0, 0, false, []⟩,
    ⟨some 13, some (10, false), .un .not (.t 12), 0, 0, false, []⟩,
    ⟨some 14, none, .pick (.t 10) (.k (.bool true)) (.t 13), 0, 0, false, []⟩,
    ⟨some 15, none, .mov (.t 14), 0, 0, false, []⟩,
    ⟨some 16, some (15, false), .mov (.t 1), 0, 0, false, []⟩,
    ⟨some 17, some (15, false), .len false (.t 16), 0, 0, false, []⟩,
    ⟨some 18, some (15, false), .mov (.t 0), 0, 0, false, []⟩,
    ⟨some 19, some (15, false), .len false (.t 18), 0, 0, false, []⟩,
    ⟨some 20, some (15, false), .bin .neq (.t 17) (.t 19), 0, 0, false, []⟩,
    ⟨some 21, none, .pick (.t 15) (.k (.bool true)) (.t 20), 0, 0, false, []⟩])
   (.cutTo [0, 1, 21] (.cond (.t 21) (.seq (.seg false [⟨some 4, none, .mov (.k (.bool false)), 0, 0, false, []⟩])
   (.ret))
   (.skip))))
   (.cutTo [0, 1] (.seq (.seq (.seg false [⟨some 22, none, .mov (.t 1), 0, 0, false, []⟩,
    ⟨some 23, none, .len false (.t 22), 0, 0, false, []⟩,
    ⟨some 24, none, .mov (.k (.int .i64 0)), 0, 0, false, []⟩])
   (.block 0 (.loop [0, 22, 23, 24] [4] L95x0)))
   (.seq (.seg false [⟨some 4, none, .mov (.k (.bool true)), 0, 0, false, []⟩])
   (.ret)))))⟩
/-- loop.example/tablehouse/impl.rowAt -/
def F182 : F := ⟨8, [(false, 4, 0, false)],
   .seq (.seg false [⟨some 3, none, .box (.t 1), 0, 0, false, []⟩,
    ⟨some 4, none, .mov (.k (.int .i64 0)), 0, 0, false, []⟩])
   (.seq (.seg false [⟨some 5, none, .mov (.t 0), 0, 0, false, []⟩,
    ⟨some 6, none, .mkclo 201 [.t 3], 0, 0, false, []⟩,
    ⟨some 7, none, .call 162 [.t 5, .t 6] true false, 0, 0, false, []⟩,
    ⟨some 4, none, .mov (.t 7), 0, 0, false, []⟩])
   (.cutTo [4] (.ret)))⟩
def B183x0 : C := .seq (.seg false [⟨some 9, none, .bin .lss (.t 8) (.t 7), 0, 0, false, []⟩])
   (.seq (.cond (.t 9) (.skip)
   (.exit 0))
   (.seq (.block 1 (.seq (.seg false [⟨some 10, none, .iaddr 2 (.t 6) (.t 8), 0, 0, false, []⟩,
    ⟨some 11, none, .load true 2 (.t 10), 0, 0, false, []⟩,
    ⟨some 5, none, .alloc [.sl true 2 [], .sl true 1 []], 0, 0, false, []⟩,
    ⟨none, none, .store 2 (.t 5) (.t 11), 0, 0, false, []⟩])
   (.cutTo [3, 5, 6, 7, 8] (.seg false [⟨some 12, none, .mov (.t 3), 0, 0, false, []⟩,
    ⟨some 13, none, .load true 2 (.t 5), 0, 0, false, []⟩,
    ⟨some 14, none, .callx 0 178 [.t 13], 0, 0, false, []⟩,
    ⟨some 15, none, .mkns 2 [.t 14], 0, 0, false, []⟩,
    ⟨some 16, none, .appn 2 (.t 12) (.t 15), 0, 0, false, []⟩,
    ⟨some 3, none, .mov (.t 16), 0, 0, false, []⟩]))))
   (.cutTo [3, 6, 7, 8] (.seg false [⟨some 17, none, .bin .add (.t 8) (.k (.int .i64 1)), 0, 0, false, []⟩,
    ⟨some 8, none, .mov (.t 17), 0, 0, false, []⟩]))))
def L183x0 : C := B183x0
theorem evL183x0 (run : Run) (draw : List I → Env → Heap → Option (Env × Heap)) (e : Env) (h : Heap) : evC run draw L183x0 e h = evC run draw B183x0 e h := rfl
/-- loop.example/tablehouse/impl.tablesCopy -/
def F183 : F := ⟨20, [(false, 2, 0, false)],
   .seq (.seg false [⟨some 2, none, .mov (.k (.sl true 2 [])), 0, 0, false, []⟩])
   (.seq (.seg false [⟨some 3, none, .nilnest 2, 0, 0, false, []⟩])
   (.seq (.seq (.seg false [⟨some 6, none, .mov (.t 0), 0, 0, false, []⟩,
    ⟨some 7, none, .len false (.t 6), 0, 0, false, []⟩,
    ⟨some 8, none, .mov (.k (.int .i64 0)), 0, 0, false, []⟩])
   (.block 0 (.loopk [3, 6, 7, 8] [3] L183x0)))
   (.seq (.seg false [⟨some 18, none, .mov (.t 3), 0, 0, false, []⟩,
    ⟨some 19, none, .callx 2 202 [.t 18], 0, 0, false, []⟩,
    ⟨some 2, none, .mov (.t 19), 0, 0, false, []⟩])
   (.ret))))⟩
def E184x0 : List I := [⟨some 20, none, .mov (.t 0), 0, 0, false, [0]⟩,
    ⟨some 21, none, .mov (.t 1), 0, 0, false, []⟩,
    ⟨some 22, none, .slc false 1 (.t 20) none (some (.t 21)) none, 0, 0, false, []⟩,
    ⟨some 23, none, .mov (.t 0), 0, 0, false, [0]⟩,
    ⟨some 24, none, .mov (.t 2), 0, 0, false, []⟩,
    ⟨some 25, none, .slc false 1 (.t 23) (some (.t 24)) none none, 0, 0, false, []⟩,
    ⟨some 26, none, .app 1 (.t 22) (.t 25), 0, 0, true, []⟩,
    ⟨some 0, none, .mov (.t 26), 1, 1, false, []⟩]
def D184x0 : List I := E184x0
theorem evD184x0 (run : Run) (e : Env) (h : Heap) : drawI run D184x0 e h = DrawW (evW run E184x0 e h []) run E184x0 e h := drawI_write run _ e h
/-- slices.Delete<<><>loop.example/tablehouse/impl.Value,<>loop.example/tablehouse/impl.Value> -/
def F184 : F := ⟨33, [(false, 6, 0, false)],
   .seq (.seg false [⟨some 6, none, .nilrow 1, 0, 0, false, []⟩])
   (.seq (.seg false [⟨some 8, none, .mov (.t 0), 0, 0, false, []⟩,
    ⟨some 9, none, .mov (.t 1), 0, 0, false, []⟩,
    ⟨some 10, none, .mov (.t 2), 0, 0, false, []⟩,
    ⟨some 11, none, .mov (.t 0), 0, 0, false, []⟩,
    ⟨some 12, none, .len false (.t 11), 0, 0, false, []⟩,
    ⟨some 13, none, .slc false 1 (.t 8) (some (.t 9)) (some (.t 10)) (some (.t 12)), 0, 0, false, []⟩])
   (.cutTo [0, 1, 2] (.seq (.seq (.seg false [⟨some 14, none, .mov (.t 1), 0, 0, false, []⟩,
    ⟨some 15, none, .mov (.t 2), 0, 0, false, []⟩,
    ⟨some 16, none, .bin .eql (.t 14) (.t 15), 0, 0, false, []⟩])
   (.cond (.t 16) (.seq (.seg false [⟨some 17, none, .mov (.t 0), 0, 0, false, []⟩,
    ⟨some 6, none, .mov (.t 17), 0, 0, false, []⟩])
   (.ret))
   (.skip)))
   (.cutTo [0, 1, 2] (.seq (.seg false [⟨some 18, none, .mov (.t 0), 0, 0, false, []⟩,
    ⟨some 19, none, .len false (.t 18), 0, 0, false, []⟩,
    ⟨some 7, none, .mov (.t 19), 0, 0, false, []⟩])
   (.seq (.seg true D184x0)
   (.cutTo [0, 7] (.seq (.seg false [⟨some 27, none, .mov (.t 0), 0, 0, false, []⟩,
    ⟨some 28, none, .mov (.t 0), 0, 0, false, []⟩,
    ⟨some 29, none, .len false (.t 28), 0, 0, false, []⟩,
    ⟨some 30, none, .mov (.t 7), 0, 0, false, []⟩,
    ⟨some 31, none, .slc false 1 (.t 27) (some (.t 29)) (some (.t 30)) none, 0, 0, false, []⟩,
    ⟨none, none, .bad, 0, 0, false, []⟩])
   (.cutTo [0] (.seq (.seg false [⟨some 32, none, .mov (.t 0), 0, 0, false, []⟩,
    ⟨some 6, none, .mov (.t 32), 0, 0, false, []⟩])
   (.ret)))))))))))⟩
def E185x0 : List I := [⟨some 10, none, .mov (.t 0), 0, 0, false, []⟩,
    ⟨some 11, none, .mov (.t 3), 0, 0, false, []⟩,
    ⟨some 12, none, .iaddr 2 (.t 10) (.t 11), 0, 0, false, []⟩,
    ⟨some 13, none, .faddr 1 1 (.t 12), 0, 0, false, []⟩,
    ⟨some 14, none, .load false 1 (.t 13), 0, 0, false, []⟩,
    ⟨some 15, none, .len false (.t 14), 0, 0, false, []⟩,
    ⟨some 16, none, .bin .gtr (.t 15) (.k (.int .i64 6)), 0, 0, false, []⟩,
    ⟨some 17, none, .mov (.t 16), 0, 0, false, []⟩,
    ⟨some 18, some (17, false), .mov (.t 0), 0, 0, false, []⟩,
    ⟨some 19, some (17, false), .mov (.t 3), 0, 0, false, []⟩,
    ⟨some 20, some (17, false), .iaddr 2 (.t 18) (.t 19), 0, 0, false, []⟩,
    ⟨some 21, some (17, false), .faddr 0 1 (.t 20), 0, 0, false, []⟩,
    ⟨some 22, some (17, false), .load false 1 (.t 21), 0, 0, false, []⟩,
    ⟨some 23, some (17, false), .mov (.t 0), 0, 0, false, []⟩,
    ⟨some 24, some (17, false), .mov (.t 3), 0, 0, false, []⟩,
    ⟨some 25, some (17, false), .iaddr 2 (.t 23) (.t 24), 0, 0, false, []⟩,
    ⟨some 26, some (17, false), .faddr 1 1 (.t 25), 0, 0, false, []⟩,
    ⟨some 27, some (17, false), .load false 1 (.t 26), 0, 0, false, []⟩,
    ⟨some 28, some (17, false), .call 89 [.t 22, .t 27] false false, 0, 0, false, []⟩,
    ⟨some 29, some (17, false), .un .not (.t 28), 0, 0, false, []⟩,
    ⟨some 30, none, .pick (.t 17) (.k (.bool true)) (.t 29), 0, 0, false, []⟩]
def D185x0 : List I := E185x0
theorem evD185x0 (run : Run) (e : Env) (h : Heap) : drawI run D185x0 e h = DrawS (evQ run E185x0 e h) run E185x0 e h := drawI_quiet run _ (by rfl) e h
def B185x0 : C := .seq (.seq (.seg false [⟨some 4, none, .mov (.t 3), 0, 0, false, []⟩,
    ⟨some 5, none, .mov (.t 0), 0, 0, false, []⟩,
    ⟨some 6, none, .len false (.t 5), 0, 0, false, []⟩,
    ⟨some 7, none, .bin .lss (.t 4) (.t 6), 0, 0, false, []⟩])
   (.cutTo [0, 3, 7] (.cond (.t 7) (.skip)
   (.exit 0))))
   (.cutTo [0, 3] (.seq (.block 1 (.seq (.seg true D185x0)
   (.cutTo [0, 3, 30] (.cond (.t 30) (.seq (.seg false [⟨some 2, none, .mov (.k (.bool false)), 0, 0, false, []⟩])
   (.ret))
   (.skip)))))
   (.cutTo [0, 3] (.seg false [⟨some 8, none, .mov (.t 3), 0, 0, false, []⟩,
    ⟨some 9, none, .bin .add (.t 8) (.k (.int .i64 1)), 0, 0, false, []⟩,
    ⟨some 3, none, .mov (.t 9), 0, 0, false, []⟩]))))
def L185x0 : C := B185x0
theorem evL185x0 (run : Run) (draw : List I → Env → Heap → Option (Env × Heap)) (e : Env) (h : Heap) : evC run draw L185x0 e h = evC run draw B185x0 e h := rfl
/-- loop.example/tablehouse/spec.TablesOk -/
def F185 : F := ⟨34, [(false, 2, 0, false)],
   .seq (.seg false [⟨some 2, none, .mov (.k (.bool false)), 0, 0, false, []⟩])
   (.seq (.seq (.seg false [⟨some 3, none, .mov (.k (.int .i64 0)), 0, 0, false, []⟩])
   (.block 0 (.loop [0, 3] [0, 2] L185x0)))
   (.seq (.seg false [⟨some 31, none, .mov (.t 0), 0, 0, false, []⟩,
    ⟨some 32, none, .len false (.t 31), 0, 0, false, []⟩,
    ⟨some 33, none, .bin .leq (.t 32) (.k (.int .i64 3)), 0, 0, false, []⟩,
    ⟨some 2, none, .mov (.t 33), 0, 0, false, []⟩])
   (.cutTo [2] (.ret))))⟩
/-- loop.example/tablehouse/spec.l1In -/
def F90 : F := ⟨15, [(false, 6, 0, false)],
   .seq (.seg false [⟨some 6, none, .mov (.k (.bool false)), 0, 0, false, []⟩])
   (.seq (.seg false [⟨some 7, none, .mov (.t 0), 0, 0, false, []⟩,
    ⟨some 8, none, .mov (.t 1), 0, 0, false, []⟩,
    ⟨some 9, none, .bin .geq (.t 7) (.t 8), 0, 0, false, []⟩,
    ⟨some 10, none, .mov (.t 9), 0, 0, false, []⟩,
    ⟨some 11, some (10, true), .mov (.t 0), 0, 0, false, []⟩,
    ⟨some 12, some (10, true), .mov (.t 2), 0, 0, false, []⟩,
    ⟨some 13, some (10, true), .bin .leq (.t 11) (.t 12), 0, 0, false, []⟩,
    ⟨some 14, none, .pick (.t 10) (.t 13) (.k (.bool false)), 0, 0, false, []⟩,
    ⟨some 6, none, .mov (.t 14), 0, 0, false, []⟩])
   (.cutTo [6] (.ret)))⟩
def B186x0 : C := .seq (.seq (.seg false [⟨some 7, none, .mov (.t 6), 0, 0, false, []⟩,
    ⟨some 8, none, .mov (.t 0), 0, 0, false, []⟩,
    ⟨some 9, none, .len false (.t 8), 0, 0, false, []⟩,
    ⟨some 10, none, .bin .lss (.t 7) (.t 9), 0, 0, false, []⟩])
   (.cutTo [0, 1, 5, 6, 10] (.cond (.t 10) (.skip)
   (.exit 0))))
   (.cutTo [0, 1, 5, 6] (.seq (.block 1 (.seq (.seg false [⟨some 13, none, .mov (.t 0), 0, 0, false, []⟩,
    ⟨some 14, none, .mov (.t 6), 0, 0, false, []⟩,
    ⟨some 15, none, .iaddr 1 (.t 13) (.t 14), 0, 0, false, []⟩,
    ⟨some 16, none, .load false 1 (.t 15), 0, 0, false, []⟩,
    ⟨some 17, none, .mov (.t 1), 0, 0, false, []⟩,
    ⟨some 18, none, .call 115 [.t 16, .t 17] false false, 0, 0, false, []⟩])
   (.cutTo [0, 1, 5, 6, 18] (.cond (.t 18) (.seg false [⟨some 19, none, .mov (.t 5), 0, 0, false, []⟩,
    ⟨some 20, none, .bin .add (.t 19) (.k (.int .i64 1)), 0, 0, false, []⟩,
    ⟨some 5, none, .mov (.t 20), 0, 0, false, []⟩])
   (.skip)))))
   (.cutTo [0, 1, 5, 6] (.seg false [⟨some 11, none, .mov (.t 6), 0, 0, false, []⟩,
    ⟨some 12, none, .bin .add (.t 11) (.k (.int .i64 1)), 0, 0, false, []⟩,
    ⟨some 6, none, .mov (.t 12), 0, 0, false, []⟩]))))
def L186x0 : C := B186x0
theorem evL186x0 (run : Run) (draw : List I → Env → Heap → Option (Env × Heap)) (e : Env) (h : Heap) : evC run draw L186x0 e h = evC run draw B186x0 e h := rfl
/-- loop.example/tablehouse/spec.RowMany -/
def F186 : F := ⟨22, [(false, 4, 0, false)],
   .seq (.seg false [⟨some 4, none, .mov (.k (.int .i64 0)), 0, 0, false, []⟩])
   (.seq (.seg false [⟨some 5, none, .mov (.k (.int .i64 0)), 0, 0, false, []⟩])
   (.seq (.seq (.seg false [⟨some 6, none, .mov (.k (.int .i64 0)), 0, 0, false, []⟩])
   (.block 0 (.loop [0, 1, 5, 6] [5] L186x0)))
   (.seq (.seg false [⟨some 21, none, .mov (.t 5), 0, 0, false, []⟩,
    ⟨some 4, none, .mov (.t 21), 0, 0, false, []⟩])
   (.ret))))⟩
def E171x0 : List I := [⟨some 16, none, .mov (.t 0), 0, 0, false, []⟩,
    ⟨some 17, none, .mov (.t 5), 0, 0, false, []⟩,
    ⟨some 18, none, .iaddr 3 (.t 16) (.t 17), 0, 0, false, []⟩,
    ⟨some 19, none, .load true 3 (.t 18), 0, 0, false, []⟩,
    ⟨some 20, none, .mov (.t 1), 0, 0, false, []⟩,
    ⟨some 21, none, .mov (.t 5), 0, 0, false, []⟩,
    ⟨some 22, none, .iaddr 3 (.t 20) (.t 21), 0, 0, false, []⟩,
    ⟨some 23, none, .load true 3 (.t 22), 0, 0, false, []⟩,
    ⟨some 24, none, .eqs true [.int, .int, .str] (.t 19) (.t 23), 0, 0, false, []⟩]
def D171x0 : List I := E171x0
theorem evD171x0 (run : Run) (e : Env) (h : Heap) : drawI run D171x0 e h = DrawS (evQ run E171x0 e h) run E171x0 e h := drawI_quiet run _ (by rfl) e h
def B171x0 : C := .seq (.seg false [⟨some 14, none, .bin .lss (.t 13) (.t 12), 0, 0, false, []⟩])
   (.seq (.cond (.t 14) (.skip)
   (.exit 0))
   (.seq (.block 1 (.seq (.seg false [⟨some 15, none, .mov (.t 13), 0, 0, false, []⟩,
    ⟨some 5, none, .mov (.t 15), 0, 0, false, []⟩])
   (.seq (.seg true D171x0)
   (.cutTo [0, 1, 12, 13, 24] (.cond (.t 24) (.seq (.seg false [⟨some 4, none, .mov (.k (.bool false)), 0, 0, false, []⟩])
   (.ret))
   (.skip))))))
   (.cutTo [0, 1, 12, 13] (.seg false [⟨some 25, none, .bin .add (.t 13) (.k (.int .i64 1)), 0, 0, false, []⟩,
    ⟨some 13, none, .mov (.t 25), 0, 0, false, []⟩]))))
def L171x0 : C := B171x0
theorem evL171x0 (run : Run) (draw : List I → Env → Heap → Option (Env × Heap)) (e : Env) (h : Heap) : evC run draw L171x0 e h = evC run draw B171x0 e h := rfl
/-- slices.Equal<<>loop.example/tablehouse/impl.Value,loop.example/tablehouse/impl.Value> -/
def F171 : F := ⟨26, [(false, 4, 0, false)],
   .seq (.seg false [⟨some 4, none, .mov (.k (.bool false)), 0, 0, false, []⟩])
   (.seq (.seq (.seg false [⟨some 6, none, .mov (.t 0), 0, 0, false, []⟩,
    ⟨some 7, none, .len false (.t 6), 0, 0, false, []⟩,
    ⟨some 8, none, .mov (.t 1), 0, 0, false, []⟩,
    ⟨some 9, none, .len false (.t 8), 0, 0, false, []⟩,
    ⟨some 10, none, .bin .neq (.t 7) (.t 9), 0, 0, false, []⟩])
   (.cutTo [0, 1, 10] (.cond (.t 10) (.seq (.seg false [⟨some 4, none, .mov (.k (.bool false)), 0, 0, false, []⟩])
   (.ret))
   (.skip))))
   (.cutTo [0, 1] (.seq (.seq (.seg false [⟨some 11, none, .mov (.t 0), 0, 0, false, []⟩,
    ⟨some 12, none, .len false (.t 11), 0, 0, false, []⟩,
    ⟨some 13, none, .mov (.k (.int .i64 0)), 0, 0, false, []⟩])
   (.block 0 (.loop [0, 1, 12, 13] [4] L171x0)))
   (.seq (.seg false [⟨some 4, none, .mov (.k (.bool true)), 0, 0, false, []⟩])
   (.ret)))))⟩
/-- loop.example/tablehouse/spec.l20Small -/
def F197 : F := ⟨7, [(false, 2, 0, false)],
   .seq (.seg false [⟨some 2, none, .mov (.k (.sl true 3 [])), 0, 0, false, []⟩])
   (.seq (.seg false [⟨some 3, none, .mov (.t 0), 0, 0, false, []⟩,
    ⟨some 4, none, .call 104 [.t 3, .k (.int .i64 4)] true false, 0, 0, false, []⟩,
    ⟨some 5, none, .build [.int .i64 0, .int .i64 0, .str ⟨#[]⟩] [(0, 1, .k (.int .i64 1)), (1, 1, .t 4)], 0, 0, false, []⟩,
    ⟨some 6, none, .mksl false 3 [.t 5], 0, 0, false, []⟩,
    ⟨some 2, none, .mov (.t 6), 0, 0, false, []⟩])
   (.cutTo [2] (.ret)))⟩
/-- loop.example/tablehouse/spec.l20Any -/
def F198 : F := ⟨10, [(false, 4, 0, false)],
   .seq (.seg false [⟨some 4, none, .mov (.k (.sl true 3 [])), 0, 0, false, []⟩])
   (.seq (.seg false [⟨some 5, none, .mov (.t 0), 0, 0, false, []⟩,
    ⟨some 6, none, .mov (.t 0), 0, 0, false, []⟩,
    ⟨some 7, none, .call 130 [.t 6, .k (.int .i64 0)] true false, 0, 0, false, []⟩,
    ⟨some 8, none, .mov (.t 1), 0, 0, false, []⟩,
    ⟨some 9, none, .call 190 [.t 5, .t 7, .t 8] true false, 0, 0, false, []⟩,
    ⟨some 4, none, .mov (.t 9), 0, 0, false, []⟩])
   (.cutTo [4] (.ret)))⟩
def E193x0 : List I := [⟨some 15, none, .faddr 0 1 (.t 4), 0, 0, false, []⟩,
    ⟨some 16, none, .load false 1 (.t 15), 0, 0, false, []⟩,
    ⟨some 17, none, .call 90 [.t 16, .k (.int .i64 0), .k (.int .i64 4)] false false, 0, 0, false, []⟩,
    ⟨some 18, none, .un .not (.t 17), 0, 0, false, []⟩,
    ⟨some 19, none, .mov (.t 18), 0, 0, false, []⟩,
    ⟨some 20, some (19, false), .faddr 1 1 (.t 4), 0, 0, false, []⟩,
    ⟨some 21, some (19, false), .load false 1 (.t 20), 0, 0, false, []⟩,
    ⟨some 22, some (19, false), .call 192 [.t 21] false false, 0, 0, false, []⟩,
    ⟨some 23, some (19, false), .un .not (.t 22), 0, 0, false, []⟩,
    ⟨some 24, none, .pick (.t 19) (.k (.bool true)) (.t 23), 0, 0, false, []⟩,
    ⟨some 25, none, .mov (.t 24), 0, 0, false, []⟩,
    ⟨some 26, some (25, false), .faddr 2 1 (.t 4), 0, 0, false, []⟩,
    ⟨some 27, some (25, false), .load false 1 (.t 26), 0, 0, false, []⟩,
    ⟨some 28, some (25, false), .mov (.t 27), 0, 0, false, []⟩,
    ⟨some 29, some (28, true), .faddr 1 1 (.t 4), 0, 0, false, []⟩,
    ⟨some 30, some (28, true), .load false 1 (.t 29), 0, 0, false, []⟩,
    ⟨some 31, some (28, true), .len false (.t 30), 0, 0, false, []⟩,
    ⟨some 32, some (28, true), .bin .gtr (.t 31) (.k (.int .i64 0)), 0, 0, false, []⟩,
    ⟨some 33, some (25, false), .pick (.t 28) (.t 32) (.k (.bool false)), 0, 0, false, []⟩,
    ⟨some 34, none, .pick (.t 25) (.k (.bool true)) (.t 33), 0, 0, false, []⟩,
    ⟨some 35, none, .mov (.t 34), 0, 0, false, []⟩,
    ⟨some 36, some (35, false), .mov (.t 3), 0, 0, false, []⟩,
    ⟨some 37, some (35, false), .bin .gtr (.t 36) (.k (.int .i64 0)), 0, 0, false, []⟩,
    ⟨some 38, some (35, false), .mov (.t 37), 0, 0, false, []⟩,
    ⟨some 39, some (38, true), .mov (.t 0), 0, 0, false, []⟩,
    ⟨some 40, some (38, true), .mov (.t 3), 0, 0, false, []⟩,
    ⟨some 41, some (38, true), .bin .sub (.t 40) (.k (.int .i64 1)), 0, 0, false, []⟩,
    ⟨some 42, some (38, true), .iaddr 3 (.t 39) (.t 41), 0, 0, false, []⟩,
    ⟨some 43, some (38, true), .faddr 0 1 (.t 42), 0, 0, false, []⟩,
    ⟨some 44, some (38, true), .load false 1 (.t 43), 0, 0, false, []⟩,
    ⟨some 45, some (38, true), .faddr 0 1 (.t 4), 0, 0, false, []⟩,
    ⟨some 46, some (38, true), .load false 1 (.t 45), 0, 0, false, []⟩,
    ⟨some 47, some (38, true), .bin .geq (.t 44) (.t 46), 0, 0, false, []⟩,
    ⟨some 48, some (35, false), .pick (.t 38) (.t 47) (.k (.bool false)), 0, 0, false, []⟩,
    ⟨some 49, none, .pick (.t 35) (.k (.bool true)) (.t 48), 0, 0, false, []⟩]
def D193x0 : List I := E193x0
theorem evD193x0 (run : Run) (e : Env) (h : Heap) : drawI run D193x0 e h = DrawS (evQ run E193x0 e h) run E193x0 e h := drawI_quiet run _ (by rfl) e h
def B193x0 : C := .seq (.seq (.seg false [⟨some 5, none, .mov (.t 3), 0, 0, false, []⟩,
    ⟨some 6, none, .mov (.t 0), 0, 0, false, []⟩,
    ⟨some 7, none, .len false (.t 6), 0, 0, false, []⟩,
    ⟨some 8, none, .bin .lss (.t 5) (.t 7), 0, 0, false, []⟩])
   (.cutTo [0, 3, 8] (.cond (.t 8) (.skip)
   (.exit 0))))
   (.cutTo [0, 3] (.seq (.block 1 (.seq (.seg false [⟨some 11, none, .mov (.t 0), 0, 0, false, []⟩,
    ⟨some 12, none, .mov (.t 3), 0, 0, false, []⟩,
    ⟨some 13, none, .iaddr 3 (.t 11) (.t 12), 0, 0, false, []⟩,
    ⟨some 14, none, .load true 3 (.t 13), 0, 0, false, []⟩,
    ⟨some 4, none, .alloc [.int .i64 0, .sl true 3 [], .bool false], 0, 0, false, []⟩,
    ⟨none, none, .store 3 (.t 4) (.t 14), 0, 0, false, []⟩])
   (.cutTo [0, 3, 4] (.seq (.seg true D193x0)
   (.cutTo [0, 3, 49] (.cond (.t 49) (.seq (.seg false [⟨some 2, none, .mov (.k (.bool false)), 0, 0, false, []⟩])
   (.ret))
   (.skip)))))))
   (.cutTo [0, 3] (.seg false [⟨some 9, none, .mov (.t 3), 0, 0, false, []⟩,
    ⟨some 10, none, .bin .add (.t 9) (.k (.int .i64 1)), 0, 0, false, []⟩,
    ⟨some 3, none, .mov (.t 10), 0, 0, false, []⟩]))))
def L193x0 : C := B193x0
theorem evL193x0 (run : Run) (draw : List I → Env → Heap → Option (Env × Heap)) (e : Env) (h : Heap) : evC run draw L193x0 e h = evC run draw B193x0 e h := rfl
/-- loop.example/tablehouse/spec.WritesOk -/
def F193 : F := ⟨50, [(false, 2, 0, false)],
   .seq (.seg false [⟨some 2, none, .mov (.k (.bool false)), 0, 0, false, []⟩])
   (.seq (.seq (.seg false [⟨some 3, none, .mov (.k (.int .i64 0)), 0, 0, false, []⟩])
   (.block 0 (.loop [0, 3] [2] L193x0)))
   (.seq (.seg false [⟨some 2, none, .mov (.k (.bool true)), 0, 0, false, []⟩])
   (.ret)))⟩
def E194x0 : List I := [⟨some 24, none, .mov (.t 5), 0, 0, false, [5]⟩,
    ⟨some 25, none, .mov (.t 0), 0, 0, false, []⟩,
    ⟨some 26, none, .mov (.t 6), 0, 0, false, []⟩,
    ⟨some 27, none, .iaddr 4 (.t 25) (.t 26), 0, 0, false, []⟩,
    ⟨some 28, none, .faddr 1 1 (.t 27), 0, 0, false, []⟩,
    ⟨some 29, none, .load false 1 (.t 28), 0, 0, false, []⟩,
    ⟨some 30, none, .mov (.t 0), 0, 0, false, []⟩,
    ⟨some 31, none, .mov (.t 6), 0, 0, false, []⟩,
    ⟨some 32, none, .iaddr 4 (.t 30) (.t 31), 0, 0, false, []⟩,
    ⟨some 33, none, .faddr 2 1 (.t 32), 0, 0, false, []⟩,
    ⟨some 34, none, .load false 1 (.t 33), 0, 0, false, []⟩,
    ⟨some 35, none, .mm true (.t 24) [.t 29, .t 34], 0, 0, false, []⟩,
    ⟨some 5, none, .mov (.t 35), 0, 0, false, []⟩]
def D194x0 : List I := E194x0
theorem evD194x0 (run : Run) (e : Env) (h : Heap) : drawI run D194x0 e h = DrawW (evW run E194x0 e h []) run E194x0 e h := drawI_write run _ e h
def B194x0 : C := .seq (.seq (.seg false [⟨some 7, none, .mov (.t 6), 0, 0, false, []⟩,
    ⟨some 8, none, .mov (.t 0), 0, 0, false, []⟩,
    ⟨some 9, none, .len false (.t 8), 0, 0, false, []⟩,
    ⟨some 10, none, .bin .lss (.t 7) (.t 9), 0, 0, false, []⟩,
    ⟨some 11, none, .mov (.t 10), 0, 0, false, []⟩,
    ⟨some 12, some (11, true), .mov (.t 0), 0, 0, false, []⟩,
    ⟨some 13, some (11, true), .call 114 [.t 12] false false, 0, 0, false, []⟩,
    ⟨some 14, none, .pick (.t 11) (.t 13) (.k (.bool false)), 0, 0, false, []⟩])
   (.cutTo [0, 1, 5, 6, 14] (.cond (.t 14) (.skip)
   (.exit 0))))
   (.cutTo [0, 1, 5, 6] (.seq (.block 1 (.seq (.seg false [⟨some 17, none, .mov (.t 0), 0, 0, false, []⟩,
    ⟨some 18, none, .mov (.t 6), 0, 0, false, []⟩,
    ⟨some 19, none, .iaddr 4 (.t 17) (.t 18), 0, 0, false, []⟩,
    ⟨some 20, none, .faddr 0 1 (.t 19), 0, 0, false, []⟩,
    ⟨some 21, none, .load false 1 (.t 20), 0, 0, false, []⟩,
    ⟨some 22, none, .mov (.t 1), 0, 0, false, []⟩,
    ⟨some 23, none, .bin .eql (.t 21) (.t 22), 0, 0, false, []⟩])
   (.cutTo [0, 1, 5, 6, 23] (.cond (.t 23) (.seg true D194x0)
   (.skip)))))
   (.cutTo [0, 1, 5, 6] (.seg false [⟨some 15, none, .mov (.t 6), 0, 0, false, []⟩,
    ⟨some 16, none, .bin .add (.t 15) (.k (.int .i64 1)), 0, 0, false, []⟩,
    ⟨some 6, none, .mov (.t 16), 0, 0, false, []⟩]))))
def L194x0 : C := B194x0
theorem evL194x0 (run : Run) (draw : List I → Env → Heap → Option (Env × Heap)) (e : Env) (h : Heap) : evC run draw L194x0 e h = evC run draw B194x0 e h := rfl
/-- loop.example/tablehouse/spec.LastTurn -/
def F194 : F := ⟨37, [(false, 4, 0, false)],
   .seq (.seg false [⟨some 4, none, .mov (.k (.int .i64 0)), 0, 0, false, []⟩])
   (.seq (.seg false [⟨some 5, none, .mov (.k (.int .i64 0)), 0, 0, false, []⟩])
   (.seq (.seq (.seg false [⟨some 6, none, .mov (.k (.int .i64 0)), 0, 0, false, []⟩])
   (.block 0 (.loop [0, 1, 5, 6] [5] L194x0)))
   (.seq (.seg false [⟨some 36, none, .mov (.t 5), 0, 0, false, []⟩,
    ⟨some 4, none, .mov (.t 36), 0, 0, false, []⟩])
   (.ret))))⟩
def B195x0 : C := .seq (.seq (.seg false [⟨some 7, none, .mov (.t 4), 0, 0, false, []⟩,
    ⟨some 8, none, .mov (.t 0), 0, 0, false, []⟩,
    ⟨some 9, none, .len false (.t 8), 0, 0, false, []⟩,
    ⟨some 10, none, .bin .lss (.t 7) (.t 9), 0, 0, false, []⟩])
   (.cutTo [0, 3, 4, 10] (.cond (.t 10) (.skip)
   (.exit 0))))
   (.cutTo [0, 3, 4] (.seq (.block 1 (.seq (.seg false [⟨some 13, none, .mov (.t 0), 0, 0, false, []⟩,
    ⟨some 14, none, .mov (.t 4), 0, 0, false, []⟩,
    ⟨some 15, none, .iaddr 4 (.t 13) (.t 14), 0, 0, false, []⟩,
    ⟨some 16, none, .load true 4 (.t 15), 0, 0, false, []⟩,
    ⟨some 5, none, .alloc [.int .i64 0, .int .i64 0, .int .i64 0, .sl true 3 []], 0, 0, false, []⟩,
    ⟨none, none, .store 4 (.t 5) (.t 16), 0, 0, false, []⟩])
   (.cutTo [0, 3, 4, 5] (.seq (.seg false [⟨some 17, none, .faddr 3 1 (.t 5), 0, 0, false, []⟩,
    ⟨some 18, none, .load false 1 (.t 17), 0, 0, false, []⟩,
    ⟨some 19, none, .call 126 [.t 18] false false, 0, 0, false, []⟩,
    ⟨some 20, none, .faddr 3 1 (.t 5), 0, 0, false, []⟩,
    ⟨none, none, .store 1 (.t 20) (.t 19), 0, 0, false, []⟩])
   (.cutTo [0, 3, 4, 5] (.seg false [⟨some 21, none, .mov (.t 3), 0, 0, false, []⟩,
    ⟨some 22, none, .load true 4 (.t 5), 0, 0, false, []⟩,
    ⟨some 23, none, .mksl false 4 [.t 22], 0, 0, false, []⟩,
    ⟨some 24, none, .app 4 (.t 21) (.t 23), 0, 0, false, []⟩,
    ⟨some 3, none, .mov (.t 24), 0, 0, false, []⟩]))))))
   (.cutTo [0, 3, 4] (.seg false [⟨some 11, none, .mov (.t 4), 0, 0, false, []⟩,
    ⟨some 12, none, .bin .add (.t 11) (.k (.int .i64 1)), 0, 0, false, []⟩,
    ⟨some 4, none, .mov (.t 12), 0, 0, false, []⟩]))))
def L195x0 : C := B195x0
theorem evL195x0 (run : Run) (draw : List I → Env → Heap → Option (Env × Heap)) (e : Env) (h : Heap) : evC run draw L195x0 e h = evC run draw B195x0 e h := rfl
/-- loop.example/tablehouse/spec.l13Copy -/
def F195 : F := ⟨26, [(false, 2, 0, false)],
   .seq (.seg false [⟨some 2, none, .nilrow 4, 0, 0, false, []⟩])
   (.seq (.seg false [⟨some 6, none, .mksl true 4 [], 0, 0, false, []⟩,
    ⟨some 3, none, .mov (.t 6), 0, 0, false, []⟩])
   (.seq (.seq (.seg false [⟨some 4, none, .mov (.k (.int .i64 0)), 0, 0, false, []⟩])
   (.block 0 (.loopk [0, 3, 4] [3] L195x0)))
   (.seq (.seg false [⟨some 25, none, .mov (.t 3), 0, 0, false, []⟩,
    ⟨some 2, none, .mov (.t 25), 0, 0, false, []⟩])
   (.ret))))⟩
def E196x0 : List I := [⟨some 33, none, .mov (.t 7), 0, 0, false, [7]⟩,
    ⟨some 34, none, .faddr 0 1 (.t 4), 0, 0, false, []⟩,
    ⟨some 35, none, .load false 1 (.t 34), 0, 0, false, []⟩,
    ⟨some 36, none, .mov (.t 2), 0, 0, false, []⟩,
    ⟨some 37, none, .faddr 1 1 (.t 4), 0, 0, false, []⟩,
    ⟨some 38, none, .load false 1 (.t 37), 0, 0, false, []⟩,
    ⟨some 39, none, .call 126 [.t 38] false false, 0, 0, false, []⟩,
    ⟨some 40, none, .build [.int .i64 0, .int .i64 0, .int .i64 0, .sl true 3 []] [(0, 1, .t 35), (1, 1, .t 36), (3, 1, .t 39)], 0, 0, false, []⟩,
    ⟨some 41, none, .mksl false 4 [.t 40], 0, 0, false, []⟩,
    ⟨some 42, none, .app 4 (.t 33) (.t 41), 0, 0, true, []⟩,
    ⟨some 7, none, .mov (.t 42), 1, 1, false, []⟩]
def D196x0 : List I := E196x0
theorem evD196x0 (run : Run) (e : Env) (h : Heap) : drawI run D196x0 e h = DrawW (evW run E196x0 e h []) run E196x0 e h := drawI_write run _ e h
def E196x1 : List I := [⟨some 61, none, .mov (.t 7), 0, 0, false, [7]⟩,
    ⟨some 62, none, .faddr 0 1 (.t 4), 0, 0, false, []⟩,
    ⟨some 63, none, .load false 1 (.t 62), 0, 0, false, []⟩,
    ⟨some 64, none, .mov (.t 2), 0, 0, false, []⟩,
    ⟨some 65, none, .faddr 1 1 (.t 4), 0, 0, false, []⟩,
    ⟨some 66, none, .load false 1 (.t 65), 0, 0, false, []⟩,
    ⟨some 67, none, .call 126 [.t 66] false false, 0, 0, false, []⟩,
    ⟨some 68, none, .build [.int .i64 0, .int .i64 0, .int .i64 0, .sl true 3 []] [(0, 1, .t 63), (1, 1, .t 64), (3, 1, .t 67)], 0, 0, false, []⟩,
    ⟨some 69, none, .mksl false 4 [.t 68], 0, 0, false, []⟩,
    ⟨some 70, none, .app 4 (.t 61) (.t 69), 0, 0, true, []⟩,
    ⟨some 7, none, .mov (.t 70), 1, 1, false, []⟩]
def D196x1 : List I := E196x1
theorem evD196x1 (run : Run) (e : Env) (h : Heap) : drawI run D196x1 e h = DrawW (evW run E196x1 e h []) run E196x1 e h := drawI_write run _ e h
def B196x0 : C := .seq (.seq (.seg false [⟨some 14, none, .mov (.t 9), 0, 0, false, []⟩,
    ⟨some 15, none, .mov (.t 0), 0, 0, false, []⟩,
    ⟨some 16, none, .len false (.t 15), 0, 0, false, []⟩,
    ⟨some 17, none, .bin .lss (.t 14) (.t 16), 0, 0, false, []⟩])
   (.cutTo [0, 2, 4, 7, 8, 9, 17] (.cond (.t 17) (.skip)
   (.exit 0))))
   (.cutTo [0, 2, 4, 7, 8, 9] (.seq (.block 1 (.seq (.seg false [⟨some 20, none, .mov (.t 0), 0, 0, false, []⟩,
    ⟨some 21, none, .mov (.t 9), 0, 0, false, []⟩,
    ⟨some 22, none, .iaddr 4 (.t 20) (.t 21), 0, 0, false, []⟩,
    ⟨some 23, none, .load true 4 (.t 22), 0, 0, false, []⟩,
    ⟨some 10, none, .alloc [.int .i64 0, .int .i64 0, .int .i64 0, .sl true 3 []], 0, 0, false, []⟩,
    ⟨none, none, .store 4 (.t 10) (.t 23), 0, 0, false, []⟩])
   (.cutTo [0, 2, 4, 7, 8, 9, 10] (.seq (.seq (.seg false [⟨some 24, none, .faddr 0 1 (.t 10), 0, 0, false, []⟩,
    ⟨some 25, none, .load false 1 (.t 24), 0, 0, false, []⟩,
    ⟨some 26, none, .faddr 0 1 (.t 4), 0, 0, false, []⟩,
    ⟨some 27, none, .load false 1 (.t 26), 0, 0, false, []⟩,
    ⟨some 28, none, .bin .gtr (.t 25) (.t 27), 0, 0, false, []⟩,
    ⟨some 29, none, .mov (.t 28), 0, 0, false, []⟩,
    ⟨some 30, some (29, true), .mov (.t 8), 0, 0, false, []⟩,
    ⟨some 31, some (29, true), .un .not (.t 30), 0, 0, false, []⟩,
    ⟨some 32, none, .pick (.t 29) (.t 31) (.k (.bool false)), 0, 0, false, []⟩])
   (.cutTo [0, 2, 4, 7, 8, 9, 10, 32] (.cond (.t 32) (.seq (.seg true D196x0)
   (.cutTo [0, 2, 4, 7, 9, 10] (.seg false [⟨some 8, none, .mov (.k (.bool true)), 0, 0, false, []⟩])))
   (.skip))))
   (.cutTo [0, 2, 4, 7, 8, 9, 10] (.seq (.seq (.seg false [⟨some 43, none, .faddr 0 1 (.t 10), 0, 0, false, []⟩,
    ⟨some 44, none, .load false 1 (.t 43), 0, 0, false, []⟩,
    ⟨some 45, none, .faddr 0 1 (.t 4), 0, 0, false, []⟩,
    ⟨some 46, none, .load false 1 (.t 45), 0, 0, false, []⟩,
    ⟨some 47, none, .bin .eql (.t 44) (.t 46), 0, 0, false, []⟩,
    ⟨some 48, none, .mov (.t 47), 0, 0, false, []⟩,
    ⟨some 49, some (48, true), .faddr 2 1 (.t 10), 0, 0, false, []⟩,
    ⟨some 50, some (48, true), .load false 1 (.t 49), 0, 0, false, []⟩,
    ⟨some 51, some (48, true), .bin .eql (.t 50) (.k (.int .i64 0)), 0, 0, false, []⟩,
    ⟨some 52, none, .pick (.t 48) (.t 51) (.k (.bool false)), 0, 0, false, []⟩])
   (.cutTo [0, 2, 4, 7, 8, 9, 10, 52] (.cond (.t 52) (.seg false [⟨some 53, none, .mov (.t 2), 0, 0, false, []⟩,
    ⟨some 54, none, .faddr 2 1 (.t 10), 0, 0, false, []⟩,
    ⟨none, none, .store 1 (.t 54) (.t 53), 0, 0, false, []⟩])
   (.skip))))
   (.cutTo [0, 2, 4, 7, 8, 9, 10] (.seg false [⟨some 55, none, .mov (.t 7), 0, 0, false, []⟩,
    ⟨some 56, none, .load true 4 (.t 10), 0, 0, false, []⟩,
    ⟨some 57, none, .mksl false 4 [.t 56], 0, 0, false, []⟩,
    ⟨some 58, none, .app 4 (.t 55) (.t 57), 0, 0, false, []⟩,
    ⟨some 7, none, .mov (.t 58), 0, 0, false, []⟩]))))))))
   (.cutTo [0, 2, 4, 7, 8, 9] (.seg false [⟨some 18, none, .mov (.t 9), 0, 0, false, []⟩,
    ⟨some 19, none, .bin .add (.t 18) (.k (.int .i64 1)), 0, 0, false, []⟩,
    ⟨some 9, none, .mov (.t 19), 0, 0, false, []⟩]))))
def L196x0 : C := B196x0
theorem evL196x0 (run : Run) (draw : List I → Env → Heap → Option (Env × Heap)) (e : Env) (h : Heap) : evC run draw L196x0 e h = evC run draw B196x0 e h := rfl
/-- loop.example/tablehouse/spec.l13Written -/
def F196 : F := ⟨72, [(false, 6, 0, false)],
   .seq (.seg false [⟨some 4, none, .box (.t 1), 0, 0, false, []⟩,
    ⟨some 6, none, .nilrow 4, 0, 0, false, []⟩])
   (.seq (.seg false [⟨some 11, none, .mksl true 4 [], 0, 0, false, []⟩,
    ⟨some 7, none, .mov (.t 11), 0, 0, false, []⟩])
   (.seq (.seg false [⟨some 12, none, .faddr 2 1 (.t 4), 0, 0, false, []⟩,
    ⟨some 13, none, .load false 1 (.t 12), 0, 0, false, []⟩,
    ⟨some 8, none, .mov (.t 13), 0, 0, false, []⟩])
   (.seq (.seq (.seg false [⟨some 9, none, .mov (.k (.int .i64 0)), 0, 0, false, []⟩])
   (.block 0 (.loop [0, 2, 4, 7, 8, 9] [2, 4, 7, 8] L196x0)))
   (.seq (.seq (.seg false [⟨some 59, none, .mov (.t 8), 0, 0, false, []⟩,
    ⟨some 60, none, .un .not (.t 59), 0, 0, false, []⟩])
   (.cond (.t 60) (.seg true D196x1)
   (.skip)))
   (.cutTo [7] (.seq (.seg false [⟨some 71, none, .mov (.t 7), 0, 0, false, []⟩,
    ⟨some 6, none, .mov (.t 71), 0, 0, false, []⟩])
   (.ret)))))))⟩
def B153x0 : C := .seq (.seg false [⟨some 9, none, .bin .lss (.t 8) (.t 7), 0, 0, false, []⟩])
   (.seq (.cond (.t 9) (.skip)
   (.exit 0))
   (.seq (.block 1 (.seq (.seg false [⟨some 10, none, .iaddr 1 (.t 6) (.t 8), 0, 0, false, []⟩,
    ⟨some 11, none, .load false 1 (.t 10), 0, 0, false, []⟩,
    ⟨some 4, none, .mov (.t 11), 0, 0, false, []⟩])
   (.seq (.seg false [⟨some 12, none, .mov (.t 4), 0, 0, false, []⟩,
    ⟨some 13, none, .conv (.int .i64) (.t 12), 0, 0, false, []⟩,
    ⟨some 14, none, .call 82 [.t 13, .k (.int .i64 97), .k (.int .i64 122)] false false, 0, 0, false, []⟩,
    ⟨some 15, none, .un .not (.t 14), 0, 0, false, []⟩])
   (.cutTo [6, 7, 8, 15] (.cond (.t 15) (.seq (.seg false [⟨some 2, none, .mov (.k (.bool false)), 0, 0, false, []⟩])
   (.ret))
   (.skip))))))
   (.cutTo [6, 7, 8] (.seg false [⟨some 16, none, .bin .add (.t 8) (.k (.int .i64 1)), 0, 0, false, []⟩,
    ⟨some 8, none, .mov (.t 16), 0, 0, false, []⟩]))))
def L153x0 : C := B153x0
theorem evL153x0 (run : Run) (draw : List I → Env → Heap → Option (Env × Heap)) (e : Env) (h : Heap) : evC run draw L153x0 e h = evC run draw B153x0 e h := rfl
/-- loop.example/tablehouse/impl.letters -/
def F153 : F := ⟨17, [(false, 2, 0, false)],
   .seq (.seg false [⟨some 2, none, .mov (.k (.bool false)), 0, 0, false, []⟩])
   (.seq (.seq (.seg false [⟨some 5, none, .mov (.t 0), 0, 0, false, []⟩,
    ⟨some 6, none, .conv .toBytes (.t 5), 0, 0, false, []⟩,
    ⟨some 7, none, .len false (.t 6), 0, 0, false, []⟩,
    ⟨some 8, none, .mov (.k (.int .i64 0)), 0, 0, false, []⟩])
   (.cutTo [6, 7, 8] (.block 0 (.loop [6, 7, 8] [2] L153x0))))
   (.cutTo [] (.seq (.seg false [⟨some 2, none, .mov (.k (.bool true)), 0, 0, false, []⟩])
   (.ret))))⟩
def B192x0 : C := .seq (.seq (.seg false [⟨some 4, none, .mov (.t 3), 0, 0, false, []⟩,
    ⟨some 5, none, .mov (.t 0), 0, 0, false, []⟩,
    ⟨some 6, none, .len false (.t 5), 0, 0, false, []⟩,
    ⟨some 7, none, .bin .lss (.t 4) (.t 6), 0, 0, false, []⟩])
   (.cutTo [0, 3, 7] (.cond (.t 7) (.skip)
   (.exit 0))))
   (.cutTo [0, 3] (.seq (.block 1 (.seq (.seg false [⟨some 10, none, .mov (.t 0), 0, 0, false, []⟩,
    ⟨some 11, none, .mov (.t 3), 0, 0, false, []⟩,
    ⟨some 12, none, .iaddr 3 (.t 10) (.t 11), 0, 0, false, []⟩,
    ⟨some 13, none, .load true 3 (.t 12), 0, 0, false, []⟩,
    ⟨some 14, none, .call 80 [.t 13] false false, 0, 0, false, []⟩,
    ⟨some 15, none, .un .not (.t 14), 0, 0, false, []⟩])
   (.cutTo [0, 3, 15] (.cond (.t 15) (.seq (.seg false [⟨some 2, none, .mov (.k (.bool false)), 0, 0, false, []⟩])
   (.ret))
   (.skip)))))
   (.cutTo [0, 3] (.seg false [⟨some 8, none, .mov (.t 3), 0, 0, false, []⟩,
    ⟨some 9, none, .bin .add (.t 8) (.k (.int .i64 1)), 0, 0, false, []⟩,
    ⟨some 3, none, .mov (.t 9), 0, 0, false, []⟩]))))
def L192x0 : C := B192x0
theorem evL192x0 (run : Run) (draw : List I → Env → Heap → Option (Env × Heap)) (e : Env) (h : Heap) : evC run draw L192x0 e h = evC run draw B192x0 e h := rfl
/-- loop.example/tablehouse/spec.RowOk -/
def F192 : F := ⟨19, [(false, 2, 0, false)],
   .seq (.seg false [⟨some 2, none, .mov (.k (.bool false)), 0, 0, false, []⟩])
   (.seq (.seq (.seg false [⟨some 3, none, .mov (.k (.int .i64 0)), 0, 0, false, []⟩])
   (.block 0 (.loop [0, 3] [0, 2] L192x0)))
   (.seq (.seg false [⟨some 16, none, .mov (.t 0), 0, 0, false, []⟩,
    ⟨some 17, none, .len false (.t 16), 0, 0, false, []⟩,
    ⟨some 18, none, .bin .leq (.t 17) (.k (.int .i64 4)), 0, 0, false, []⟩,
    ⟨some 2, none, .mov (.t 18), 0, 0, false, []⟩])
   (.cutTo [2] (.ret))))⟩
def B199x0 : C := .seq (.seg false [⟨some 9, none, .bin .lss (.t 8) (.t 7), 0, 0, false, []⟩])
   (.seq (.cond (.t 9) (.skip)
   (.exit 0))
   (.seq (.block 1 (.seq (.seg false [⟨some 10, none, .mov (.t 8), 0, 0, false, []⟩,
    ⟨some 5, none, .mov (.t 10), 0, 0, false, []⟩])
   (.seq (.seg false [⟨some 11, none, .mov (.t 1), 0, 0, false, []⟩,
    ⟨some 12, none, .mov (.t 0), 0, 0, false, []⟩,
    ⟨some 13, none, .mov (.t 5), 0, 0, false, []⟩,
    ⟨some 14, none, .iaddr 3 (.t 12) (.t 13), 0, 0, false, []⟩,
    ⟨some 15, none, .load true 3 (.t 14), 0, 0, false, []⟩,
    ⟨some 16, none, .callv (.t 11) [.t 15] false, 0, 0, false, []⟩])
   (.cutTo [0, 1, 5, 7, 8, 16] (.cond (.t 16) (.seq (.seg false [⟨some 17, none, .mov (.t 5), 0, 0, false, []⟩,
    ⟨some 4, none, .mov (.t 17), 0, 0, false, []⟩])
   (.ret))
   (.skip))))))
   (.cutTo [0, 1, 7, 8] (.seg false [⟨some 18, none, .bin .add (.t 8) (.k (.int .i64 1)), 0, 0, false, []⟩,
    ⟨some 8, none, .mov (.t 18), 0, 0, false, []⟩]))))
def L199x0 : C := B199x0
theorem evL199x0 (run : Run) (draw : List I → Env → Heap → Option (Env × Heap)) (e : Env) (h : Heap) : evC run draw L199x0 e h = evC run draw B199x0 e h := rfl
/-- slices.IndexFunc<<>loop.example/tablehouse/impl.Value,loop.example/tablehouse/impl.Value> -/
def F199 : F := ⟨19, [(false, 4, 0, false)],
   .seq (.seg false [⟨some 4, none, .mov (.k (.int .i64 0)), 0, 0, false, []⟩])
   (.seq (.seq (.seg false [⟨some 6, none, .mov (.t 0), 0, 0, false, []⟩,
    ⟨some 7, none, .len false (.t 6), 0, 0, false, []⟩,
    ⟨some 8, none, .mov (.k (.int .i64 0)), 0, 0, false, []⟩])
   (.block 0 (.loop [0, 1, 7, 8] [4] L199x0)))
   (.seq (.seg false [⟨some 4, none, .mov (.k (.int .i64 (-1))), 0, 0, false, []⟩])
   (.ret)))⟩
/-- loop.example/tablehouse/impl.clone<loop.example/tablehouse/impl.Column> -/
def F200 : F := ⟨9, [(false, 2, 0, false)],
   .seq (.seg false [⟨some 2, none, .mov (.k (.sl true 2 [])), 0, 0, false, []⟩])
   (.seq (.seq (.seg false [⟨some 3, none, .mov (.t 0), 0, 0, false, []⟩,
    ⟨some 4, none, .len false (.t 3), 0, 0, false, []⟩,
    ⟨some 5, none, .bin .eql (.t 4) (.k (.int .i64 0)), 0, 0, false, []⟩])
   (.cond (.t 5) (.seq (.seg false [⟨some 2, none, .mov (.k (.sl true 2 [])), 0, 0, false, []⟩])
   (.ret))
   (.skip)))
   (.cutTo [0] (.seq (.seg false [⟨some 6, none, .mov (.t 0), 0, 0, false, []⟩,
    ⟨some 7, none, .app 2 (.k (.sl true 2 [])) (.t 6), 0, 0, false, []⟩,
    ⟨some 8, none, .callx 2 203 [.t 7], 0, 0, false, []⟩,
    ⟨some 2, none, .mov (.t 8), 0, 0, false, []⟩])
   (.cutTo [2] (.ret)))))⟩
/-- slices.ContainsFunc<<>loop.example/tablehouse/impl.Column,loop.example/tablehouse/impl.Column> -/
def F157 : F := ⟨9, [(false, 4, 0, false)],
   .seq (.seg false [⟨some 4, none, .mov (.k (.bool false)), 0, 0, false, []⟩])
   (.seq (.seg false [⟨some 5, none, .mov (.t 0), 0, 0, false, []⟩,
    ⟨some 6, none, .mov (.t 1), 0, 0, false, []⟩,
    ⟨some 7, none, .call 191 [.t 5, .t 6] true false, 0, 0, false, []⟩,
    ⟨some 8, none, .bin .geq (.t 7) (.k (.int .i64 0)), 0, 0, false, []⟩,
    ⟨some 4, none, .mov (.t 8), 0, 0, false, []⟩])
   (.cutTo [4] (.ret)))⟩
/-- loop.example/tablehouse/impl.ColumnsOk$1 -/
def F158 : F := ⟨7, [(false, 2, 0, false)],
   .seq (.seg false [⟨some 1, none, .box (.t 0), 0, 0, false, []⟩,
    ⟨some 2, none, .mov (.k (.bool false)), 0, 0, false, []⟩])
   (.seq (.seg false [⟨some 3, none, .faddr 0 1 (.t 1), 0, 0, false, []⟩,
    ⟨some 4, none, .load false 1 (.t 3), 0, 0, false, []⟩,
    ⟨some 5, none, .call 82 [.t 4, .k (.int .i64 1), .k (.int .i64 3)] false false, 0, 0, false, []⟩,
    ⟨some 6, none, .un .not (.t 5), 0, 0, false, []⟩,
    ⟨some 2, none, .mov (.t 6), 0, 0, false, []⟩])
   (.cutTo [2] (.ret)))⟩
/-- loop.example/tablehouse/impl.RowsOk$1 -/
def F94 : F := ⟨8, [(false, 3, 0, false)],
   .seq (.seg false [⟨some 3, none, .mov (.k (.bool false)), 0, 0, false, []⟩])
   (.seq (.seg false [⟨some 4, none, .load false 1 (.t 1), 0, 0, false, []⟩,
    ⟨some 5, none, .mov (.t 0), 0, 0, false, []⟩,
    ⟨some 6, none, .call 95 [.t 4, .t 5] false false, 0, 0, false, []⟩,
    ⟨some 7, none, .un .not (.t 6), 0, 0, false, []⟩,
    ⟨some 3, none, .mov (.t 7), 0, 0, false, []⟩])
   (.cutTo [3] (.ret)))⟩
/-- slices.ContainsFunc<<><>loop.example/tablehouse/impl.Value,<>loop.example/tablehouse/impl.Value> -/
def F93 : F := ⟨9, [(false, 4, 0, false)],
   .seq (.seg false [⟨some 4, none, .mov (.k (.bool false)), 0, 0, false, []⟩])
   (.seq (.seg false [⟨some 5, none, .mov (.t 0), 0, 0, false, []⟩,
    ⟨some 6, none, .mov (.t 1), 0, 0, false, []⟩,
    ⟨some 7, none, .call 162 [.t 5, .t 6] true false, 0, 0, false, []⟩,
    ⟨some 8, none, .bin .geq (.t 7) (.k (.int .i64 0)), 0, 0, false, []⟩,
    ⟨some 4, none, .mov (.t 8), 0, 0, false, []⟩])
   (.cutTo [4] (.ret)))⟩
def B156x0 : C := .seq (.seq (.seg false [⟨some 12, none, .mov (.t 8), 0, 0, false, []⟩,
    ⟨some 13, none, .bin .gtr (.t 12) (.k (.int .i64 0)), 0, 0, false, []⟩])
   (.cond (.t 13) (.skip)
   (.exit 0)))
   (.seq (.block 1 (.seq (.seg false [⟨some 16, none, .mov (.t 7), 0, 0, false, []⟩,
    ⟨some 17, none, .len false (.t 16), 0, 0, false, []⟩,
    ⟨some 18, none, .bin .gtr (.t 17) (.k (.int .i64 0)), 0, 0, false, []⟩,
    ⟨some 19, none, .mov (.t 18), 0, 0, false, []⟩,
    ⟨some 20, some (19, true), .mov (.t 0), 0, 0, false, []⟩,
    ⟨some 21, some (19, true), .call 104 [.t 20, .k (.int .i64 3)] true false, 0, 0, false, []⟩,
    ⟨some 22, some (19, true), .bin .eql (.t 21) (.k (.int .i64 0)), 0, 0, false, []⟩,
    ⟨some 23, none, .pick (.t 19) (.t 22) (.k (.bool false)), 0, 0, false, []⟩])
   (.cutTo [0, 1, 2, 7, 8, 23] (.cond (.t 23) (.seg false [⟨some 24, none, .mov (.t 7), 0, 0, false, []⟩,
    ⟨some 25, none, .mov (.t 7), 0, 0, false, []⟩,
    ⟨some 26, none, .mov (.t 0), 0, 0, false, []⟩,
    ⟨some 27, none, .mov (.t 7), 0, 0, false, []⟩,
    ⟨some 28, none, .len false (.t 27), 0, 0, false, []⟩,
    ⟨some 29, none, .call 104 [.t 26, .t 28] true false, 0, 0, false, []⟩,
    ⟨some 30, none, .iaddr 1 (.t 25) (.t 29), 0, 0, false, []⟩,
    ⟨some 31, none, .load false 1 (.t 30), 0, 0, false, []⟩,
    ⟨some 32, none, .call 126 [.t 31] false false, 0, 0, false, []⟩,
    ⟨some 33, none, .mksl false 1 [.t 32], 0, 0, false, []⟩,
    ⟨some 34, none, .app 1 (.t 24) (.t 33), 0, 0, false, []⟩,
    ⟨some 7, none, .mov (.t 34), 0, 0, false, []⟩])
   (.seg false [⟨some 35, none, .mov (.t 7), 0, 0, false, []⟩,
    ⟨some 36, none, .mov (.t 0), 0, 0, false, []⟩,
    ⟨some 37, none, .mov (.t 1), 0, 0, false, []⟩,
    ⟨some 38, none, .mov (.t 2), 0, 0, false, []⟩,
    ⟨some 39, none, .call 190 [.t 36, .t 37, .t 38] true false, 0, 0, false, []⟩,
    ⟨some 40, none, .mksl false 1 [.t 39], 0, 0, false, []⟩,
    ⟨some 41, none, .app 1 (.t 35) (.t 40), 0, 0, false, []⟩,
    ⟨some 7, none, .mov (.t 41), 0, 0, false, []⟩])))))
   (.cutTo [0, 1, 2, 7, 8] (.seg false [⟨some 14, none, .mov (.t 8), 0, 0, false, []⟩,
    ⟨some 15, none, .bin .sub (.t 14) (.k (.int .i64 1)), 0, 0, false, []⟩,
    ⟨some 8, none, .mov (.t 15), 0, 0, false, []⟩])))
def L156x0 : C := B156x0
theorem evL156x0 (run : Run) (draw : List I → Env → Heap → Option (Env × Heap)) (e : Env) (h : Heap) : evC run draw L156x0 e h = evC run draw B156x0 e h := rfl
/-- loop.example/tablehouse/spec.l20Bag -/
def F156 : F := ⟨43, [(false, 6, 0, false)],
   .seq (.seg false [⟨some 6, none, .nilrow 1, 0, 0, false, []⟩])
   (.seq (.seg false [⟨some 9, none, .mksl true 1 [], 0, 0, false, []⟩,
    ⟨some 7, none, .mov (.t 9), 0, 0, false, []⟩])
   (.seq (.seq (.seg false [⟨some 10, none, .mov (.t 0), 0, 0, false, []⟩,
    ⟨some 11, none, .call 104 [.t 10, .k (.int .i64 7)] true false, 0, 0, false, []⟩,
    ⟨some 8, none, .mov (.t 11), 0, 0, false, []⟩])
   (.block 0 (.loop [0, 1, 2, 7, 8] [7] L156x0)))
   (.seq (.seg false [⟨some 42, none, .mov (.t 7), 0, 0, false, []⟩,
    ⟨some 6, none, .mov (.t 42), 0, 0, false, []⟩])
   (.ret))))⟩
def B190x0 : C := .seq (.seq (.seg false [⟨some 10, none, .mov (.t 8), 0, 0, false, []⟩,
    ⟨some 11, none, .mov (.t 1), 0, 0, false, []⟩,
    ⟨some 12, none, .len false (.t 11), 0, 0, false, []⟩,
    ⟨some 13, none, .bin .lss (.t 10) (.t 12), 0, 0, false, []⟩])
   (.cutTo [0, 1, 2, 7, 8, 13] (.cond (.t 13) (.skip)
   (.exit 0))))
   (.cutTo [0, 1, 2, 7, 8] (.seq (.block 1 (.seg false [⟨some 16, none, .mov (.t 7), 0, 0, false, []⟩,
    ⟨some 17, none, .mov (.t 0), 0, 0, false, []⟩,
    ⟨some 18, none, .mov (.t 1), 0, 0, false, []⟩,
    ⟨some 19, none, .mov (.t 8), 0, 0, false, []⟩,
    ⟨some 20, none, .iaddr 2 (.t 18) (.t 19), 0, 0, false, []⟩,
    ⟨some 21, none, .load true 2 (.t 20), 0, 0, false, []⟩,
    ⟨some 22, none, .call 105 [.t 17, .t 21] true false, 0, 0, false, []⟩,
    ⟨some 23, none, .mksl false 3 [.t 22], 0, 0, false, []⟩,
    ⟨some 24, none, .app 3 (.t 16) (.t 23), 0, 0, false, []⟩,
    ⟨some 7, none, .mov (.t 24), 0, 0, false, []⟩]))
   (.cutTo [0, 1, 2, 7, 8] (.seg false [⟨some 14, none, .mov (.t 8), 0, 0, false, []⟩,
    ⟨some 15, none, .bin .add (.t 14) (.k (.int .i64 1)), 0, 0, false, []⟩,
    ⟨some 8, none, .mov (.t 15), 0, 0, false, []⟩]))))
def L190x0 : C := B190x0
theorem evL190x0 (run : Run) (draw : List I → Env → Heap → Option (Env × Heap)) (e : Env) (h : Heap) : evC run draw L190x0 e h = evC run draw B190x0 e h := rfl
/-- loop.example/tablehouse/spec.l20Fit -/
def F190 : F := ⟨59, [(false, 6, 0, false)],
   .seq (.seg false [⟨some 6, none, .nilrow 3, 0, 0, false, []⟩])
   (.seq (.seg false [⟨some 9, none, .mksl true 3 [], 0, 0, false, []⟩,
    ⟨some 7, none, .mov (.t 9), 0, 0, false, []⟩])
   (.seq (.seq (.seg false [⟨some 8, none, .mov (.k (.int .i64 0)), 0, 0, false, []⟩])
   (.block 0 (.loop [0, 1, 2, 7, 8] [0, 2, 7] L190x0)))
   (.seq (.seq (.seg false [⟨some 25, none, .mov (.t 0), 0, 0, false, []⟩,
    ⟨some 26, none, .mov (.t 2), 0, 0, false, []⟩,
    ⟨some 27, none, .call 155 [.t 25, .t 26] true false, 0, 0, false, []⟩])
   (.cond (.t 27) (.seq (.seg false [⟨some 28, none, .mov (.t 0), 0, 0, false, []⟩,
    ⟨some 29, none, .call 104 [.t 28, .k (.int .i64 3)] true false, 0, 0, false, []⟩])
   (.block 2 (.seq (.seg false [⟨some 40, none, .bin .eql (.t 29) (.k (.int .i64 0)), 0, 0, false, []⟩,
    ⟨some 39, none, .mov (.t 40), 0, 0, false, []⟩])
   (.cond (.t 39) (.seg false [⟨some 41, none, .mov (.t 7), 0, 0, false, []⟩,
    ⟨some 42, none, .build [.int .i64 0, .int .i64 0, .str ⟨#[]⟩] [], 0, 0, false, []⟩,
    ⟨some 43, none, .mksl false 3 [.t 42], 0, 0, false, []⟩,
    ⟨some 44, none, .app 3 (.t 41) (.t 43), 0, 0, false, []⟩,
    ⟨some 7, none, .mov (.t 44), 0, 0, false, []⟩])
   (.seq (.seg false [⟨some 46, none, .bin .eql (.t 29) (.k (.int .i64 1)), 0, 0, false, []⟩,
    ⟨some 45, none, .mov (.t 46), 0, 0, false, []⟩])
   (.cond (.t 45) (.seq (.seg false [⟨some 47, none, .mov (.t 7), 0, 0, false, []⟩,
    ⟨some 48, none, .len false (.t 47), 0, 0, false, []⟩,
    ⟨some 49, none, .bin .gtr (.t 48) (.k (.int .i64 0)), 0, 0, false, []⟩])
   (.cond (.t 49) (.seg false [⟨some 50, none, .mov (.t 7), 0, 0, false, []⟩,
    ⟨some 51, none, .mov (.t 0), 0, 0, false, []⟩,
    ⟨some 52, none, .mov (.t 7), 0, 0, false, []⟩,
    ⟨some 53, none, .len false (.t 52), 0, 0, false, []⟩,
    ⟨some 54, none, .call 104 [.t 51, .t 53] true false, 0, 0, false, []⟩,
    ⟨some 55, none, .mov (.t 0), 0, 0, false, []⟩,
    ⟨some 56, none, .call 145 [.t 55, .k (.int .i64 3)] true false, 0, 0, false, []⟩,
    ⟨some 57, none, .iaddr 3 (.t 50) (.t 54), 0, 0, false, []⟩,
    ⟨none, none, .store 3 (.t 57) (.t 56), 0, 0, false, []⟩])
   (.skip)))
   (.seg false [⟨some 30, none, .mov (.t 7), 0, 0, false, []⟩,
    ⟨some 31, none, .mov (.t 0), 0, 0, false, []⟩,
    ⟨some 32, none, .call 145 [.t 31, .k (.int .i64 0)] true false, 0, 0, false, []⟩,
    ⟨some 33, none, .mov (.t 0), 0, 0, false, []⟩,
    ⟨some 34, none, .call 145 [.t 33, .k (.int .i64 0)] true false, 0, 0, false, []⟩,
    ⟨some 35, none, .mov (.t 0), 0, 0, false, []⟩,
    ⟨some 36, none, .call 145 [.t 35, .k (.int .i64 0)] true false, 0, 0, false, []⟩,
    ⟨some 37, none, .mksl false 3 [.t 32, .t 34, .t 36], 0, 0, false, []⟩,
    ⟨some 38, none, .app 3 (.t 30) (.t 37), 0, 0, false, []⟩,
    ⟨some 7, none, .mov (.t 38), 0, 0, false, []⟩])))))))
   (.skip)))
   (.cutTo [7] (.seq (.seg false [⟨some 58, none, .mov (.t 7), 0, 0, false, []⟩,
    ⟨some 6, none, .mov (.t 58), 0, 0, false, []⟩])
   (.ret))))))⟩
/-- loop.example/tablehouse/impl.rowAt$1 -/
def F201 : F := ⟨7, [(false, 3, 0, false)],
   .seq (.seg false [⟨some 3, none, .mov (.k (.bool false)), 0, 0, false, []⟩])
   (.seq (.seg false [⟨some 4, none, .mov (.t 0), 0, 0, false, []⟩,
    ⟨some 5, none, .load false 1 (.t 1), 0, 0, false, []⟩,
    ⟨some 6, none, .call 171 [.t 4, .t 5] false false, 0, 0, false, []⟩,
    ⟨some 3, none, .mov (.t 6), 0, 0, false, []⟩])
   (.cutTo [3] (.ret)))⟩
def B162x0 : C := .seq (.seg false [⟨some 9, none, .bin .lss (.t 8) (.t 7), 0, 0, false, []⟩])
   (.seq (.cond (.t 9) (.skip)
   (.exit 0))
   (.seq (.block 1 (.seq (.seg false [⟨some 10, none, .mov (.t 8), 0, 0, false, []⟩,
    ⟨some 5, none, .mov (.t 10), 0, 0, false, []⟩])
   (.seq (.seg false [⟨some 11, none, .mov (.t 1), 0, 0, false, []⟩,
    ⟨some 12, none, .mov (.t 0), 0, 0, false, []⟩,
    ⟨some 13, none, .mov (.t 5), 0, 0, false, []⟩,
    ⟨some 14, none, .iaddr 1 (.t 12) (.t 13), 0, 0, false, []⟩,
    ⟨some 15, none, .load false 1 (.t 14), 0, 0, false, []⟩,
    ⟨some 16, none, .callv (.t 11) [.t 15] false, 0, 0, false, []⟩])
   (.cutTo [0, 1, 5, 7, 8, 16] (.cond (.t 16) (.seq (.seg false [⟨some 17, none, .mov (.t 5), 0, 0, false, []⟩,
    ⟨some 4, none, .mov (.t 17), 0, 0, false, []⟩])
   (.ret))
   (.skip))))))
   (.cutTo [0, 1, 7, 8] (.seg false [⟨some 18, none, .bin .add (.t 8) (.k (.int .i64 1)), 0, 0, false, []⟩,
    ⟨some 8, none, .mov (.t 18), 0, 0, false, []⟩]))))
def L162x0 : C := B162x0
theorem evL162x0 (run : Run) (draw : List I → Env → Heap → Option (Env × Heap)) (e : Env) (h : Heap) : evC run draw L162x0 e h = evC run draw B162x0 e h := rfl
/-- slices.IndexFunc<<><>loop.example/tablehouse/impl.Value,<>loop.example/tablehouse/impl.Value> -/
def F162 : F := ⟨19, [(false, 4, 0, false)],
   .seq (.seg false [⟨some 4, none, .mov (.k (.int .i64 0)), 0, 0, false, []⟩])
   (.seq (.seq (.seg false [⟨some 6, none, .mov (.t 0), 0, 0, false, []⟩,
    ⟨some 7, none, .len false (.t 6), 0, 0, false, []⟩,
    ⟨some 8, none, .mov (.k (.int .i64 0)), 0, 0, false, []⟩])
   (.block 0 (.loop [0, 1, 7, 8] [4] L162x0)))
   (.seq (.seg false [⟨some 4, none, .mov (.k (.int .i64 (-1))), 0, 0, false, []⟩])
   (.ret)))⟩
/-- slices.Clip<<>loop.example/tablehouse/impl.Table,loop.example/tablehouse/impl.Table> -/
def F202 : F := ⟨9, [(false, 2, 0, false)],
   .seq (.seg false [⟨some 2, none, .mov (.k (.sl true 2 [])), 0, 0, false, []⟩])
   (.seq (.seg false [⟨some 3, none, .mov (.t 0), 0, 0, false, []⟩,
    ⟨some 4, none, .mov (.t 0), 0, 0, false, []⟩,
    ⟨some 5, none, .len false (.t 4), 0, 0, false, []⟩,
    ⟨some 6, none, .mov (.t 0), 0, 0, false, []⟩,
    ⟨some 7, none, .len false (.t 6), 0, 0, false, []⟩,
    ⟨some 8, none, .slc false 2 (.t 3) none (some (.t 5)) (some (.t 7)), 0, 0, false, []⟩,
    ⟨some 2, none, .mov (.t 8), 0, 0, false, []⟩])
   (.cutTo [2] (.ret)))⟩
def E115x0 : List I := [⟨some 17, none, .mov (.t 0), 0, 0, false, []⟩,
    ⟨some 18, none, .mov (.t 5), 0, 0, false, []⟩,
    ⟨some 19, none, .iaddr 3 (.t 17) (.t 18), 0, 0, false, []⟩,
    ⟨some 20, none, .load true 3 (.t 19), 0, 0, false, []⟩,
    ⟨some 21, none, .mov (.t 1), 0, 0, false, []⟩,
    ⟨some 22, none, .mov (.t 5), 0, 0, false, []⟩,
    ⟨some 23, none, .iaddr 3 (.t 21) (.t 22), 0, 0, false, []⟩,
    ⟨some 24, none, .load true 3 (.t 23), 0, 0, false, []⟩,
    ⟨some 25, none, .eqs true [.int, .int, .str] (.t 20) (.t 24), 0, 0, false, []⟩]
def D115x0 : List I := E115x0
theorem evD115x0 (run : Run) (e : Env) (h : Heap) : drawI run D115x0 e h = DrawS (evQ run E115x0 e h) run E115x0 e h := drawI_quiet run _ (by rfl) e h
def B115x0 : C := .seq (.seq (.seg false [⟨some 11, none, .mov (.t 5), 0, 0, false, []⟩,
    ⟨some 12, none, .mov (.t 0), 0, 0, false, []⟩,
    ⟨some 13, none, .len false (.t 12), 0, 0, false, []⟩,
    ⟨some 14, none, .bin .lss (.t 11) (.t 13), 0, 0, false, []⟩])
   (.cutTo [0, 1, 5, 14] (.cond (.t 14) (.skip)
   (.exit 0))))
   (.cutTo [0, 1, 5] (.seq (.block 1 (.seq (.seg true D115x0)
   (.cutTo [0, 1, 5, 25] (.cond (.t 25) (.seq (.seg false [⟨some 4, none, .mov (.k (.bool false)), 0, 0, false, []⟩])
   (.ret))
   (.skip)))))
   (.cutTo [0, 1, 5] (.seg false [⟨some 15, none, .mov (.t 5), 0, 0, false, []⟩,
    ⟨some 16, none, .bin .add (.t 15) (.k (.int .i64 1)), 0, 0, false, []⟩,
    ⟨some 5, none, .mov (.t 16), 0, 0, false, []⟩]))))
def L115x0 : C := B115x0
theorem evL115x0 (run : Run) (draw : List I → Env → Heap → Option (Env × Heap)) (e : Env) (h : Heap) : evC run draw L115x0 e h = evC run draw B115x0 e h := rfl
/-- loop.example/tablehouse/spec.l3Same -/
def F115 : F := ⟨26, [(false, 4, 0, false)],
   .seq (.seg false [⟨some 4, none, .mov (.k (.bool false)), 0, 0, false, []⟩])
   (.seq (.seq (.seg false [⟨some 6, none, .mov (.t 0), 0, 0, false, []⟩,
    ⟨some 7, none, .len false (.t 6), 0, 0, false, []⟩,
    ⟨some 8, none, .mov (.t 1), 0, 0, false, []⟩,
    ⟨some 9, none, .len false (.t 8), 0, 0, false, []⟩,
    ⟨some 10, none, .bin .neq (.t 7) (.t 9), 0, 0, false, []⟩])
   (.cutTo [0, 1, 10] (.cond (.t 10) (.seq (.seg false [⟨some 4, none, .mov (.k (.bool false)), 0, 0, false, []⟩])
   (.ret))
   (.skip))))
   (.cutTo [0, 1] (.seq (.seq (.seg false [⟨some 5, none, .mov (.k (.int .i64 0)), 0, 0, false, []⟩])
   (.block 0 (.loop [0, 1, 5] [4] L115x0)))
   (.seq (.seg false [⟨some 4, none, .mov (.k (.bool true)), 0, 0, false, []⟩])
   (.ret)))))⟩
/-- loop.example/tablehouse/spec.ValueOk -/
def F80 : F := ⟨45, [(false, 2, 0, false)],
   .seq (.seg false [⟨some 1, none, .box (.t 0), 0, 0, false, []⟩,
    ⟨some 2, none, .mov (.k (.bool false)), 0, 0, false, []⟩])
   (.seq (.seq (.seg false [⟨some 3, none, .faddr 0 1 (.t 1), 0, 0, false, []⟩,
    ⟨some 4, none, .load false 1 (.t 3), 0, 0, false, []⟩])
   (.block 0 (.seq (.seg false [⟨some 6, none, .bin .eql (.t 4) (.k (.int .i64 0)), 0, 0, false, []⟩,
    ⟨some 5, none, .mov (.t 6), 0, 0, false, []⟩])
   (.cond (.t 5) (.seq (.seg false [⟨some 7, none, .faddr 1 1 (.t 1), 0, 0, false, []⟩,
    ⟨some 8, none, .load false 1 (.t 7), 0, 0, false, []⟩,
    ⟨some 9, none, .bin .eql (.t 8) (.k (.int .i64 0)), 0, 0, false, []⟩,
    ⟨some 10, none, .mov (.t 9), 0, 0, false, []⟩,
    ⟨some 11, some (10, true), .faddr 2 1 (.t 1), 0, 0, false, []⟩,
    ⟨some 12, some (10, true), .load false 1 (.t 11), 0, 0, false, []⟩,
    ⟨some 13, some (10, true), .bin .eql (.t 12) (.k (.str ⟨#[]⟩)), 0, 0, false, []⟩,
    ⟨some 14, none, .pick (.t 10) (.t 13) (.k (.bool false)), 0, 0, false, []⟩,
    ⟨some 2, none, .mov (.t 14), 0, 0, false, []⟩])
   (.cutTo [2] (.ret)))
   (.seq (.seg false [⟨some 16, none, .bin .eql (.t 4) (.k (.int .i64 1)), 0, 0, false, []⟩,
    ⟨some 15, none, .mov (.t 16), 0, 0, false, []⟩])
   (.cond (.t 15) (.seq (.seg false [⟨some 17, none, .faddr 1 1 (.t 1), 0, 0, false, []⟩,
    ⟨some 18, none, .load false 1 (.t 17), 0, 0, false, []⟩,
    ⟨some 19, none, .call 90 [.t 18, .k (.int .i64 (-9999)), .k (.int .i64 9999)] false false, 0, 0, false, []⟩,
    ⟨some 20, none, .mov (.t 19), 0, 0, false, []⟩,
    ⟨some 21, some (20, true), .faddr 2 1 (.t 1), 0, 0, false, []⟩,
    ⟨some 22, some (20, true), .load false 1 (.t 21), 0, 0, false, []⟩,
    ⟨some 23, some (20, true), .bin .eql (.t 22) (.k (.str ⟨#[]⟩)), 0, 0, false, []⟩,
    ⟨some 24, none, .pick (.t 20) (.t 23) (.k (.bool false)), 0, 0, false, []⟩,
    ⟨some 2, none, .mov (.t 24), 0, 0, false, []⟩])
   (.cutTo [2] (.ret)))
   (.seq (.seg false [⟨some 26, none, .bin .eql (.t 4) (.k (.int .i64 2)), 0, 0, false, []⟩,
    ⟨some 25, none, .mov (.t 26), 0, 0, false, []⟩])
   (.cond (.t 25) (.seq (.seg false [⟨some 27, none, .faddr 1 1 (.t 1), 0, 0, false, []⟩,
    ⟨some 28, none, .load false 1 (.t 27), 0, 0, false, []⟩,
    ⟨some 29, none, .bin .eql (.t 28) (.k (.int .i64 0)), 0, 0, false, []⟩,
    ⟨some 30, none, .mov (.t 29), 0, 0, false, []⟩,
    ⟨some 31, some (30, true), .faddr 2 1 (.t 1), 0, 0, false, []⟩,
    ⟨some 32, some (30, true), .load false 1 (.t 31), 0, 0, false, []⟩,
    ⟨some 33, some (30, true), .call 150 [.t 32] false false, 0, 0, false, []⟩,
    ⟨some 34, none, .pick (.t 30) (.t 33) (.k (.bool false)), 0, 0, false, []⟩,
    ⟨some 2, none, .mov (.t 34), 0, 0, false, []⟩])
   (.cutTo [2] (.ret)))
   (.seq (.seg false [⟨some 36, none, .bin .eql (.t 4) (.k (.int .i64 3)), 0, 0, false, []⟩,
    ⟨some 35, none, .mov (.t 36), 0, 0, false, []⟩])
   (.cond (.t 35) (.seq (.seg false [⟨some 37, none, .faddr 1 1 (.t 1), 0, 0, false, []⟩,
    ⟨some 38, none, .load false 1 (.t 37), 0, 0, false, []⟩,
    ⟨some 39, none, .call 90 [.t 38, .k (.int .i64 0), .k (.int .i64 1)] false false, 0, 0, false, []⟩,
    ⟨some 40, none, .mov (.t 39), 0, 0, false, []⟩,
    ⟨some 41, some (40, true), .faddr 2 1 (.t 1), 0, 0, false, []⟩,
    ⟨some 42, some (40, true), .load false 1 (.t 41), 0, 0, false, []⟩,
    ⟨some 43, some (40, true), .bin .eql (.t 42) (.k (.str ⟨#[]⟩)), 0, 0, false, []⟩,
    ⟨some 44, none, .pick (.t 40) (.t 43) (.k (.bool false)), 0, 0, false, []⟩,
    ⟨some 2, none, .mov (.t 44), 0, 0, false, []⟩])
   (.cutTo [2] (.ret)))
   (.skip)))))))))))
   (.cutTo [] (.seq (.seg false [⟨some 2, none, .mov (.k (.bool false)), 0, 0, false, []⟩])
   (.ret))))⟩
/-- slices.Clip<<>loop.example/tablehouse/impl.Column,loop.example/tablehouse/impl.Column> -/
def F203 : F := ⟨9, [(false, 2, 0, false)],
   .seq (.seg false [⟨some 2, none, .mov (.k (.sl true 2 [])), 0, 0, false, []⟩])
   (.seq (.seg false [⟨some 3, none, .mov (.t 0), 0, 0, false, []⟩,
    ⟨some 4, none, .mov (.t 0), 0, 0, false, []⟩,
    ⟨some 5, none, .len false (.t 4), 0, 0, false, []⟩,
    ⟨some 6, none, .mov (.t 0), 0, 0, false, []⟩,
    ⟨some 7, none, .len false (.t 6), 0, 0, false, []⟩,
    ⟨some 8, none, .slc false 2 (.t 3) none (some (.t 5)) (some (.t 7)), 0, 0, false, []⟩,
    ⟨some 2, none, .mov (.t 8), 0, 0, false, []⟩])
   (.cutTo [2] (.ret)))⟩
def B191x0 : C := .seq (.seg false [⟨some 9, none, .bin .lss (.t 8) (.t 7), 0, 0, false, []⟩])
   (.seq (.cond (.t 9) (.skip)
   (.exit 0))
   (.seq (.block 1 (.seq (.seg false [⟨some 10, none, .mov (.t 8), 0, 0, false, []⟩,
    ⟨some 5, none, .mov (.t 10), 0, 0, false, []⟩])
   (.seq (.seg false [⟨some 11, none, .mov (.t 1), 0, 0, false, []⟩,
    ⟨some 12, none, .mov (.t 0), 0, 0, false, []⟩,
    ⟨some 13, none, .mov (.t 5), 0, 0, false, []⟩,
    ⟨some 14, none, .iaddr 2 (.t 12) (.t 13), 0, 0, false, []⟩,
    ⟨some 15, none, .load true 2 (.t 14), 0, 0, false, []⟩,
    ⟨some 16, none, .callv (.t 11) [.t 15] false, 0, 0, false, []⟩])
   (.cutTo [0, 1, 5, 7, 8, 16] (.cond (.t 16) (.seq (.seg false [⟨some 17, none, .mov (.t 5), 0, 0, false, []⟩,
    ⟨some 4, none, .mov (.t 17), 0, 0, false, []⟩])
   (.ret))
   (.skip))))))
   (.cutTo [0, 1, 7, 8] (.seg false [⟨some 18, none, .bin .add (.t 8) (.k (.int .i64 1)), 0, 0, false, []⟩,
    ⟨some 8, none, .mov (.t 18), 0, 0, false, []⟩]))))
def L191x0 : C := B191x0
theorem evL191x0 (run : Run) (draw : List I → Env → Heap → Option (Env × Heap)) (e : Env) (h : Heap) : evC run draw L191x0 e h = evC run draw B191x0 e h := rfl
/-- slices.IndexFunc<<>loop.example/tablehouse/impl.Column,loop.example/tablehouse/impl.Column> -/
def F191 : F := ⟨19, [(false, 4, 0, false)],
   .seq (.seg false [⟨some 4, none, .mov (.k (.int .i64 0)), 0, 0, false, []⟩])
   (.seq (.seq (.seg false [⟨some 6, none, .mov (.t 0), 0, 0, false, []⟩,
    ⟨some 7, none, .len false (.t 6), 0, 0, false, []⟩,
    ⟨some 8, none, .mov (.k (.int .i64 0)), 0, 0, false, []⟩])
   (.block 0 (.loop [0, 1, 7, 8] [4] L191x0)))
   (.seq (.seg false [⟨some 4, none, .mov (.k (.int .i64 (-1))), 0, 0, false, []⟩])
   (.ret)))⟩
/-- loop.example/tablehouse/spec.l20Like -/
def F105 : F := ⟨31, [(true, 4, 3, true)],
   .seq (.seg false [⟨some 3, none, .box (.t 1), 0, 0, false, []⟩,
    ⟨some 4, none, .alloc [.int .i64 0, .int .i64 0, .str ⟨#[]⟩], 0, 0, false, []⟩])
   (.seq (.seq (.seg false [⟨some 5, none, .faddr 1 1 (.t 3), 0, 0, false, []⟩,
    ⟨some 6, none, .load false 1 (.t 5), 0, 0, false, []⟩,
    ⟨some 7, none, .mov (.t 6), 0, 0, false, []⟩,
    ⟨some 8, some (7, true), .mov (.t 0), 0, 0, false, []⟩,
    ⟨some 9, some (7, true), .call 104 [.t 8, .k (.int .i64 5)] true false, 0, 0, false, []⟩,
    ⟨some 10, some (7, true), .bin .eql (.t 9) (.k (.int .i64 0)), 0, 0, false, []⟩,
    ⟨some 11, none, .pick (.t 7) (.t 10) (.k (.bool false)), 0, 0, false, []⟩])
   (.cutTo [0, 3, 4, 11] (.cond (.t 11) (.seq (.seg false [⟨some 12, none, .build [.int .i64 0, .int .i64 0, .str ⟨#[]⟩] [], 0, 0, false, []⟩,
    ⟨none, none, .store 3 (.t 4) (.t 12), 0, 0, false, []⟩])
   (.ret))
   (.skip))))
   (.cutTo [0, 3, 4] (.seq (.seq (.seg false [⟨some 13, none, .faddr 0 1 (.t 3), 0, 0, false, []⟩,
    ⟨some 14, none, .load false 1 (.t 13), 0, 0, false, []⟩])
   (.block 0 (.seq (.seg false [⟨some 16, none, .bin .eql (.t 14) (.k (.int .i64 1)), 0, 0, false, []⟩,
    ⟨some 15, none, .mov (.t 16), 0, 0, false, []⟩])
   (.cond (.t 15) (.seq (.seg false [⟨some 17, none, .mov (.t 0), 0, 0, false, []⟩,
    ⟨some 18, none, .call 104 [.t 17, .k (.int .i64 4)] true false, 0, 0, false, []⟩,
    ⟨some 19, none, .build [.int .i64 0, .int .i64 0, .str ⟨#[]⟩] [(0, 1, .k (.int .i64 1)), (1, 1, .t 18)], 0, 0, false, []⟩,
    ⟨none, none, .store 3 (.t 4) (.t 19), 0, 0, false, []⟩])
   (.cutTo [4] (.ret)))
   (.seq (.seg false [⟨some 21, none, .bin .eql (.t 14) (.k (.int .i64 2)), 0, 0, false, []⟩,
    ⟨some 20, none, .mov (.t 21), 0, 0, false, []⟩])
   (.cond (.t 20) (.seq (.seg false [⟨some 22, none, .mksl false 1 [.k (.str ⟨#[]⟩), .k (.str ⟨#[97]⟩), .k (.str ⟨#[98]⟩), .k (.str ⟨#[97, 98]⟩)], 0, 0, false, []⟩,
    ⟨some 23, none, .mov (.t 0), 0, 0, false, []⟩,
    ⟨some 24, none, .call 104 [.t 23, .k (.int .i64 4)] true false, 0, 0, false, []⟩,
    ⟨some 25, none, .iaddr 1 (.t 22) (.t 24), 0, 0, false, []⟩,
    ⟨some 26, none, .load false 1 (.t 25), 0, 0, false, []⟩,
    ⟨some 27, none, .build [.int .i64 0, .int .i64 0, .str ⟨#[]⟩] [(0, 1, .k (.int .i64 2)), (2, 1, .t 26)], 0, 0, false, []⟩,
    ⟨none, none, .store 3 (.t 4) (.t 27), 0, 0, false, []⟩])
   (.cutTo [4] (.ret)))
   (.skip)))))))
   (.cutTo [0, 4] (.seq (.seg false [⟨some 28, none, .mov (.t 0), 0, 0, false, []⟩,
    ⟨some 29, none, .call 104 [.t 28, .k (.int .i64 2)] true false, 0, 0, false, []⟩,
    ⟨some 30, none, .build [.int .i64 0, .int .i64 0, .str ⟨#[]⟩] [(0, 1, .k (.int .i64 3)), (1, 1, .t 29)], 0, 0, false, []⟩,
    ⟨none, none, .store 3 (.t 4) (.t 30), 0, 0, false, []⟩])
   (.cutTo [4] (.ret)))))))⟩
def E145x0 : List I := [⟨some 42, none, .faddr 2 1 (.t 5), 0, 1, false, []⟩,
    ⟨some 43, none, .load false 1 (.t 42), 0, 1, false, []⟩,
    ⟨some 44, none, .mov (.t 0), 0, 0, false, []⟩,
    ⟨some 45, none, .call 104 [.t 44, .k (.int .i64 3)] true false, 0, 0, true, []⟩,
    ⟨some 46, none, .bin .add (.k (.int .i64 97)) (.t 45), 1, 1, false, []⟩,
    ⟨some 47, none, .conv (.int .u8) (.t 46), 1, 1, false, []⟩,
    ⟨some 48, none, .mksl false 1 [.t 47], 1, 1, false, []⟩,
    ⟨some 49, none, .conv .toStr (.t 48), 1, 1, false, []⟩,
    ⟨some 50, none, .bin .add (.t 43) (.t 49), 1, 1, false, []⟩,
    ⟨some 51, none, .faddr 2 1 (.t 5), 1, 1, false, []⟩,
    ⟨none, none, .store 1 (.t 51) (.t 50), 1, 0, true, []⟩]
def D145x0 : List I := E145x0
theorem evD145x0 (run : Run) (e : Env) (h : Heap) : drawI run D145x0 e h = DrawW (evW run E145x0 e h []) run E145x0 e h := drawI_write run _ e h
def B145x0 : C := .seq (.seq (.seg false [⟨some 38, none, .mov (.t 6), 0, 0, false, []⟩,
    ⟨some 39, none, .bin .gtr (.t 38) (.k (.int .i64 0)), 0, 0, false, []⟩])
   (.cond (.t 39) (.skip)
   (.exit 1)))
   (.seq (.block 2 (.seg true D145x0))
   (.cutTo [0, 1, 4, 5, 6] (.seg false [⟨some 40, none, .mov (.t 6), 0, 0, false, []⟩,
    ⟨some 41, none, .bin .sub (.t 40) (.k (.int .i64 1)), 0, 0, false, []⟩,
    ⟨some 6, none, .mov (.t 41), 0, 0, false, []⟩])))
def L145x0 : C := B145x0
theorem evL145x0 (run : Run) (draw : List I → Env → Heap → Option (Env × Heap)) (e : Env) (h : Heap) : evC run draw L145x0 e h = evC run draw B145x0 e h := rfl
/-- loop.example/tablehouse/spec.l20Value -/
def F145 : F := ⟨77, [(true, 4, 3, true)],
   .seq (.seg false [⟨some 4, none, .alloc [.int .i64 0, .int .i64 0, .str ⟨#[]⟩], 0, 0, false, []⟩])
   (.seq (.seg false [⟨some 7, none, .build [.int .i64 0, .int .i64 0, .str ⟨#[]⟩] [], 0, 0, false, []⟩,
    ⟨some 5, none, .alloc [.int .i64 0, .int .i64 0, .str ⟨#[]⟩], 0, 0, false, []⟩,
    ⟨none, none, .store 3 (.t 5) (.t 7), 0, 0, false, []⟩])
   (.seq (.seq (.seg false [⟨some 8, none, .mov (.t 0), 0, 0, false, []⟩,
    ⟨some 9, none, .call 104 [.t 8, .k (.int .i64 7)] true false, 0, 0, false, []⟩])
   (.block 0 (.seq (.seg false [⟨some 14, none, .bin .eql (.t 9) (.k (.int .i64 0)), 0, 0, false, []⟩,
    ⟨some 13, none, .mov (.t 14), 0, 0, false, []⟩])
   (.cond (.t 13) (.skip)
   (.seq (.seq (.seg false [⟨some 16, none, .bin .eql (.t 9) (.k (.int .i64 1)), 0, 0, false, []⟩,
    ⟨some 15, none, .mov (.t 16), 0, 0, false, []⟩])
   (.cond (.t 15) (.skip)
   (.seq (.seg false [⟨some 17, none, .bin .eql (.t 9) (.k (.int .i64 2)), 0, 0, false, []⟩,
    ⟨some 15, none, .mov (.t 17), 0, 0, false, []⟩])
   (.cond (.t 15) (.skip)
   (.seg false [⟨some 18, none, .bin .eql (.t 9) (.k (.int .i64 3)), 0, 0, false, []⟩,
    ⟨some 15, none, .mov (.t 18), 0, 0, false, []⟩])))))
   (.cutTo [0, 1, 4, 5, 9, 15] (.cond (.t 15) (.seq (.seg false [⟨some 19, none, .mov (.t 0), 0, 0, false, []⟩,
    ⟨some 20, none, .call 104 [.t 19, .k (.int .i64 7)] true false, 0, 0, false, []⟩,
    ⟨some 21, none, .bin .sub (.t 20) (.k (.int .i64 3)), 0, 0, false, []⟩,
    ⟨some 22, none, .build [.int .i64 0, .int .i64 0, .str ⟨#[]⟩] [(0, 1, .k (.int .i64 1)), (1, 1, .t 21)], 0, 0, false, []⟩,
    ⟨none, none, .store 3 (.t 5) (.t 22), 0, 0, false, []⟩])
   (.cutTo [0, 1, 4, 5] (.seq (.seg false [⟨some 23, none, .mov (.t 0), 0, 0, false, []⟩,
    ⟨some 24, none, .call 104 [.t 23, .k (.int .i64 8)] true false, 0, 0, false, []⟩,
    ⟨some 25, none, .bin .eql (.t 24) (.k (.int .i64 0)), 0, 0, false, []⟩])
   (.cond (.t 25) (.seg false [⟨some 26, none, .mksl false 1 [.k (.int .i64 9999), .k (.int .i64 (-9999)), .k (.int .i64 255), .k (.int .i64 256), .k (.int .i64 (-256))], 0, 0, false, []⟩,
    ⟨some 27, none, .mov (.t 0), 0, 0, false, []⟩,
    ⟨some 28, none, .call 104 [.t 27, .k (.int .i64 5)] true false, 0, 0, false, []⟩,
    ⟨some 29, none, .iaddr 1 (.t 26) (.t 28), 0, 0, false, []⟩,
    ⟨some 30, none, .load false 1 (.t 29), 0, 0, false, []⟩,
    ⟨some 31, none, .faddr 1 1 (.t 5), 0, 0, false, []⟩,
    ⟨none, none, .store 1 (.t 31) (.t 30), 0, 0, false, []⟩])
   (.skip)))))
   (.seq (.seq (.seg false [⟨some 33, none, .bin .eql (.t 9) (.k (.int .i64 4)), 0, 0, false, []⟩,
    ⟨some 32, none, .mov (.t 33), 0, 0, false, []⟩])
   (.cond (.t 32) (.skip)
   (.seg false [⟨some 34, none, .bin .eql (.t 9) (.k (.int .i64 5)), 0, 0, false, []⟩,
    ⟨some 32, none, .mov (.t 34), 0, 0, false, []⟩])))
   (.cutTo [0, 1, 4, 5, 32] (.cond (.t 32) (.seq (.seg false [⟨some 35, none, .build [.int .i64 0, .int .i64 0, .str ⟨#[]⟩] [(0, 1, .k (.int .i64 2))], 0, 0, false, []⟩,
    ⟨none, none, .store 3 (.t 5) (.t 35), 0, 0, false, []⟩])
   (.seq (.seg false [⟨some 36, none, .mov (.t 0), 0, 0, false, []⟩,
    ⟨some 37, none, .call 104 [.t 36, .k (.int .i64 4)] true false, 0, 0, false, []⟩,
    ⟨some 6, none, .mov (.t 37), 0, 0, false, []⟩])
   (.block 1 (.loop [0, 1, 4, 5, 6] [0, 1, 4, 5] L145x0))))
   (.seg false [⟨some 10, none, .mov (.t 0), 0, 0, false, []⟩,
    ⟨some 11, none, .call 104 [.t 10, .k (.int .i64 2)] true false, 0, 0, false, []⟩,
    ⟨some 12, none, .build [.int .i64 0, .int .i64 0, .str ⟨#[]⟩] [(0, 1, .k (.int .i64 3)), (1, 1, .t 11)], 0, 0, false, []⟩,
    ⟨none, none, .store 3 (.t 5) (.t 12), 0, 0, false, []⟩])))))))))))
   (.cutTo [0, 1, 4, 5] (.seq (.seq (.seg false [⟨some 52, none, .mov (.t 0), 0, 0, false, []⟩,
    ⟨some 53, none, .mov (.t 1), 0, 0, false, []⟩,
    ⟨some 54, none, .call 155 [.t 52, .t 53] true false, 0, 0, false, []⟩])
   (.cond (.t 54) (.seq (.seg false [⟨some 55, none, .mov (.t 0), 0, 0, false, []⟩,
    ⟨some 56, none, .call 104 [.t 55, .k (.int .i64 4)] true false, 0, 0, false, []⟩])
   (.block 3 (.seq (.seg false [⟨some 62, none, .bin .eql (.t 56) (.k (.int .i64 0)), 0, 0, false, []⟩,
    ⟨some 61, none, .mov (.t 62), 0, 0, false, []⟩])
   (.cond (.t 61) (.seg false [⟨some 63, none, .faddr 1 1 (.t 5), 0, 0, false, []⟩,
    ⟨none, none, .store 1 (.t 63) (.k (.int .i64 10000)), 0, 0, false, []⟩])
   (.seq (.seg false [⟨some 65, none, .bin .eql (.t 56) (.k (.int .i64 1)), 0, 0, false, []⟩,
    ⟨some 64, none, .mov (.t 65), 0, 0, false, []⟩])
   (.cond (.t 64) (.seg false [⟨some 66, none, .faddr 2 1 (.t 5), 0, 0, false, []⟩,
    ⟨some 67, none, .load false 1 (.t 66), 0, 0, false, []⟩,
    ⟨some 68, none, .bin .add (.t 67) (.k (.str ⟨#[97, 98, 99, 100, 101, 102, 103]⟩)), 0, 0, false, []⟩,
    ⟨some 69, none, .faddr 2 1 (.t 5), 0, 0, false, []⟩,
    ⟨none, none, .store 1 (.t 69) (.t 68), 0, 0, false, []⟩])
   (.seq (.seg false [⟨some 71, none, .bin .eql (.t 56) (.k (.int .i64 2)), 0, 0, false, []⟩,
    ⟨some 70, none, .mov (.t 71), 0, 0, false, []⟩])
   (.cond (.t 70) (.seg false [⟨some 72, none, .mov (.t 0), 0, 0, false, []⟩,
    ⟨some 73, none, .call 104 [.t 72, .k (.int .i64 7)] true false, 0, 0, false, []⟩,
    ⟨some 74, none, .bin .sub (.t 73) (.k (.int .i64 1)), 0, 0, false, []⟩,
    ⟨some 75, none, .faddr 0 1 (.t 5), 0, 0, false, []⟩,
    ⟨none, none, .store 1 (.t 75) (.t 74), 0, 0, false, []⟩])
   (.seg false [⟨some 57, none, .faddr 2 1 (.t 5), 0, 0, false, []⟩,
    ⟨some 58, none, .load false 1 (.t 57), 0, 0, false, []⟩,
    ⟨some 59, none, .bin .add (.t 58) (.k (.str ⟨#[65]⟩)), 0, 0, false, []⟩,
    ⟨some 60, none, .faddr 2 1 (.t 5), 0, 0, false, []⟩,
    ⟨none, none, .store 1 (.t 60) (.t 59), 0, 0, false, []⟩])))))))))
   (.skip)))
   (.cutTo [4, 5] (.seq (.seg false [⟨some 76, none, .load true 3 (.t 5), 0, 0, false, []⟩,
    ⟨none, none, .store 3 (.t 4) (.t 76), 0, 0, false, []⟩])
   (.ret)))))))⟩
def B150x0 : C := .seq (.seq (.seg false [⟨some 4, none, .mov (.t 3), 0, 0, false, []⟩,
    ⟨some 5, none, .mov (.t 0), 0, 0, false, []⟩,
    ⟨some 6, none, .len true (.t 5), 0, 0, false, []⟩,
    ⟨some 7, none, .bin .lss (.t 4) (.t 6), 0, 0, false, []⟩])
   (.cutTo [0, 3, 7] (.cond (.t 7) (.skip)
   (.exit 0))))
   (.cutTo [0, 3] (.seq (.block 1 (.seq (.seg false [⟨some 10, none, .mov (.t 0), 0, 0, false, []⟩,
    ⟨some 11, none, .mov (.t 3), 0, 0, false, []⟩,
    ⟨some 12, none, .idx (.t 10) (.t 11), 0, 0, false, []⟩,
    ⟨some 13, none, .bin .lss (.t 12) (.k (.int .u8 97)), 0, 0, false, []⟩,
    ⟨some 14, none, .mov (.t 13), 0, 0, false, []⟩,
    ⟨some 15, some (14, false), .mov (.t 0), 0, 0, false, []⟩,
    ⟨some 16, some (14, false), .mov (.t 3), 0, 0, false, []⟩,
    ⟨some 17, some (14, false), .idx (.t 15) (.t 16), 0, 0, false, []⟩,
    ⟨some 18, some (14, false), .bin .gtr (.t 17) (.k (.int .u8 122)), 0, 0, false, []⟩,
    ⟨some 19, none, .pick (.t 14) (.k (.bool true)) (.t 18), 0, 0, false, []⟩])
   (.cutTo [0, 3, 19] (.cond (.t 19) (.seq (.seg false [⟨some 2, none, .mov (.k (.bool false)), 0, 0, false, []⟩])
   (.ret))
   (.skip)))))
   (.cutTo [0, 3] (.seg false [⟨some 8, none, .mov (.t 3), 0, 0, false, []⟩,
    ⟨some 9, none, .bin .add (.t 8) (.k (.int .i64 1)), 0, 0, false, []⟩,
    ⟨some 3, none, .mov (.t 9), 0, 0, false, []⟩]))))
def L150x0 : C := B150x0
theorem evL150x0 (run : Run) (draw : List I → Env → Heap → Option (Env × Heap)) (e : Env) (h : Heap) : evC run draw L150x0 e h = evC run draw B150x0 e h := rfl
/-- loop.example/tablehouse/spec.l1Text -/
def F150 : F := ⟨23, [(false, 2, 0, false)],
   .seq (.seg false [⟨some 2, none, .mov (.k (.bool false)), 0, 0, false, []⟩])
   (.seq (.seq (.seg false [⟨some 3, none, .mov (.k (.int .i64 0)), 0, 0, false, []⟩])
   (.block 0 (.loop [0, 3] [0, 2] L150x0)))
   (.seq (.seg false [⟨some 20, none, .mov (.t 0), 0, 0, false, []⟩,
    ⟨some 21, none, .len true (.t 20), 0, 0, false, []⟩,
    ⟨some 22, none, .bin .leq (.t 21) (.k (.int .i64 6)), 0, 0, false, []⟩,
    ⟨some 2, none, .mov (.t 22), 0, 0, false, []⟩])
   (.cutTo [2] (.ret))))⟩
theorem chk9 : chkF Try.prog 9 F9 = true := by kernel_rfl
theorem chk11 : chkF Try.prog 11 F11 = true := by kernel_rfl
theorem chk12 : chkF Try.prog 12 F12 = true := by kernel_rfl
theorem chk14 : chkF Try.prog 14 F14 = true := by kernel_rfl
theorem chk41 : chkF Try.prog 41 F41 = true := by kernel_rfl
theorem chk42 : chkF Try.prog 42 F42 = true := by kernel_rfl
theorem chk44 : chkF Try.prog 44 F44 = true := by kernel_rfl
theorem chk43 : chkF Try.prog 43 F43 = true := by kernel_rfl
theorem chk45 : chkF Try.prog 45 F45 = true := by kernel_rfl
theorem chk21 : chkF Try.prog 21 F21 = true := by kernel_rfl
theorem chk55 : chkF Try.prog 55 F55 = true := by kernel_rfl
theorem chk56 : chkF Try.prog 56 F56 = true := by kernel_rfl
theorem chk58 : chkF Try.prog 58 F58 = true := by kernel_rfl
theorem chk57 : chkF Try.prog 57 F57 = true := by kernel_rfl
theorem chk59 : chkF Try.prog 59 F59 = true := by kernel_rfl
theorem chk60 : chkF Try.prog 60 F60 = true := by kernel_rfl
theorem chk61 : chkF Try.prog 61 F61 = true := by kernel_rfl
theorem chk62 : chkF Try.prog 62 F62 = true := by kernel_rfl
theorem chk63 : chkF Try.prog 63 F63 = true := by kernel_rfl
theorem chk64 : chkF Try.prog 64 F64 = true := by kernel_rfl
theorem chk65 : chkF Try.prog 65 F65 = true := by kernel_rfl
theorem chk70 : chkF Try.prog 70 F70 = true := by kernel_rfl
theorem chk71 : chkF Try.prog 71 F71 = true := by kernel_rfl
theorem chk72 : chkF Try.prog 72 F72 = true := by kernel_rfl
theorem chk73 : chkF Try.prog 73 F73 = true := by kernel_rfl
theorem chk74 : chkF Try.prog 74 F74 = true := by kernel_rfl
theorem chk76 : chkF Try.prog 76 F76 = true := by kernel_rfl
theorem chk107 : chkF Try.prog 107 F107 = true := by kernel_rfl
theorem chk104 : chkF Try.prog 104 F104 = true := by kernel_rfl
theorem chk108 : chkF Try.prog 108 F108 = true := by kernel_rfl
theorem chk109 : chkF Try.prog 109 F109 = true := by kernel_rfl
theorem chk111 : chkF Try.prog 111 F111 = true := by kernel_rfl
theorem chk110 : chkF Try.prog 110 F110 = true := by kernel_rfl
theorem chk112 : chkF Try.prog 112 F112 = true := by kernel_rfl
theorem chk19 : chkF Try.prog 19 F19 = true := by kernel_rfl
theorem chk124 : chkF Try.prog 124 F124 = true := by kernel_rfl
theorem chk125 : chkF Try.prog 125 F125 = true := by kernel_rfl
theorem chk123 : chkF Try.prog 123 F123 = true := by kernel_rfl
theorem chk122 : chkF Try.prog 122 F122 = true := by kernel_rfl
theorem chk114 : chkF Try.prog 114 F114 = true := by kernel_rfl
theorem chk126 : chkF Try.prog 126 F126 = true := by kernel_rfl
theorem chk127 : chkF Try.prog 127 F127 = true := by kernel_rfl
theorem chk82 : chkF Try.prog 82 F82 = true := by kernel_rfl
theorem chk128 : chkF Try.prog 128 F128 = true := by kernel_rfl
theorem chk129 : chkF Try.prog 129 F129 = true := by kernel_rfl
theorem chk130 : chkF Try.prog 130 F130 = true := by kernel_rfl
theorem chk131 : chkF Try.prog 131 F131 = true := by kernel_rfl
theorem chk89 : chkF Try.prog 89 F89 = true := by kernel_rfl
theorem chk132 : chkF Try.prog 132 F132 = true := by kernel_rfl
theorem chk133 : chkF Try.prog 133 F133 = true := by kernel_rfl
theorem chk137 : chkF Try.prog 137 F137 = true := by kernel_rfl
theorem chk138 : chkF Try.prog 138 F138 = true := by kernel_rfl
theorem chk139 : chkF Try.prog 139 F139 = true := by kernel_rfl
theorem chk140 : chkF Try.prog 140 F140 = true := by kernel_rfl
theorem chk141 : chkF Try.prog 141 F141 = true := by kernel_rfl
theorem chk142 : chkF Try.prog 142 F142 = true := by kernel_rfl
theorem chk143 : chkF Try.prog 143 F143 = true := by kernel_rfl
theorem chk144 : chkF Try.prog 144 F144 = true := by kernel_rfl
theorem chk166 : chkF Try.prog 166 F166 = true := by kernel_rfl
theorem chk165 : chkF Try.prog 165 F165 = true := by kernel_rfl
theorem chk155 : chkF Try.prog 155 F155 = true := by kernel_rfl
theorem chk167 : chkF Try.prog 167 F167 = true := by kernel_rfl
theorem chk168 : chkF Try.prog 168 F168 = true := by kernel_rfl
theorem chk169 : chkF Try.prog 169 F169 = true := by kernel_rfl
theorem chk83 : chkF Try.prog 83 F83 = true := by kernel_rfl
theorem chk175 : chkF Try.prog 175 F175 = true := by kernel_rfl
theorem chk174 : chkF Try.prog 174 F174 = true := by kernel_rfl
theorem chk170 : chkF Try.prog 170 F170 = true := by kernel_rfl
theorem chk176 : chkF Try.prog 176 F176 = true := by kernel_rfl
theorem chk177 : chkF Try.prog 177 F177 = true := by kernel_rfl
theorem chk178 : chkF Try.prog 178 F178 = true := by kernel_rfl
theorem chk160 : chkF Try.prog 160 F160 = true := by kernel_rfl
theorem chk161 : chkF Try.prog 161 F161 = true := by kernel_rfl
theorem chk179 : chkF Try.prog 179 F179 = true := by kernel_rfl
theorem chk87 : chkF Try.prog 87 F87 = true := by kernel_rfl
theorem chk30 : chkF Try.prog 30 F30 = true := by kernel_rfl
theorem chk180 : chkF Try.prog 180 F180 = true := by kernel_rfl
theorem chk181 : chkF Try.prog 181 F181 = true := by kernel_rfl
theorem chk95 : chkF Try.prog 95 F95 = true := by kernel_rfl
theorem chk182 : chkF Try.prog 182 F182 = true := by kernel_rfl
theorem chk183 : chkF Try.prog 183 F183 = true := by kernel_rfl
theorem chk184 : chkF Try.prog 184 F184 = true := by kernel_rfl
theorem chk185 : chkF Try.prog 185 F185 = true := by kernel_rfl
theorem chk90 : chkF Try.prog 90 F90 = true := by kernel_rfl
theorem chk186 : chkF Try.prog 186 F186 = true := by kernel_rfl
theorem chk171 : chkF Try.prog 171 F171 = true := by kernel_rfl
theorem chk197 : chkF Try.prog 197 F197 = true := by kernel_rfl
theorem chk198 : chkF Try.prog 198 F198 = true := by kernel_rfl
theorem chk193 : chkF Try.prog 193 F193 = true := by kernel_rfl
theorem chk194 : chkF Try.prog 194 F194 = true := by kernel_rfl
theorem chk195 : chkF Try.prog 195 F195 = true := by kernel_rfl
theorem chk196 : chkF Try.prog 196 F196 = true := by kernel_rfl
theorem chk153 : chkF Try.prog 153 F153 = true := by kernel_rfl
theorem chk192 : chkF Try.prog 192 F192 = true := by kernel_rfl
theorem chk199 : chkF Try.prog 199 F199 = true := by kernel_rfl
theorem chk200 : chkF Try.prog 200 F200 = true := by kernel_rfl
theorem chk157 : chkF Try.prog 157 F157 = true := by kernel_rfl
theorem chk158 : chkF Try.prog 158 F158 = true := by kernel_rfl
theorem chk94 : chkF Try.prog 94 F94 = true := by kernel_rfl
theorem chk93 : chkF Try.prog 93 F93 = true := by kernel_rfl
theorem chk156 : chkF Try.prog 156 F156 = true := by kernel_rfl
theorem chk190 : chkF Try.prog 190 F190 = true := by kernel_rfl
theorem chk201 : chkF Try.prog 201 F201 = true := by kernel_rfl
theorem chk162 : chkF Try.prog 162 F162 = true := by kernel_rfl
theorem chk202 : chkF Try.prog 202 F202 = true := by kernel_rfl
theorem chk115 : chkF Try.prog 115 F115 = true := by kernel_rfl
theorem chk80 : chkF Try.prog 80 F80 = true := by kernel_rfl
theorem chk203 : chkF Try.prog 203 F203 = true := by kernel_rfl
theorem chk191 : chkF Try.prog 191 F191 = true := by kernel_rfl
theorem chk105 : chkF Try.prog 105 F105 = true := by kernel_rfl
theorem chk145 : chkF Try.prog 145 F145 = true := by kernel_rfl
theorem chk150 : chkF Try.prog 150 F150 = true := by kernel_rfl
def tab : Tab := [(9, F9), (11, F11), (12, F12), (14, F14), (41, F41), (42, F42), (44, F44), (43, F43), (45, F45), (21, F21), (55, F55), (56, F56), (58, F58), (57, F57), (59, F59), (60, F60), (61, F61), (62, F62), (63, F63), (64, F64), (65, F65), (70, F70), (71, F71), (72, F72), (73, F73), (74, F74), (76, F76), (107, F107), (104, F104), (108, F108), (109, F109), (111, F111), (110, F110), (112, F112), (19, F19), (124, F124), (125, F125), (123, F123), (122, F122), (114, F114), (126, F126), (127, F127), (82, F82), (128, F128), (129, F129), (130, F130), (131, F131), (89, F89), (132, F132), (133, F133), (137, F137), (138, F138), (139, F139), (140, F140), (141, F141), (142, F142), (143, F143), (144, F144), (166, F166), (165, F165), (155, F155), (167, F167), (168, F168), (169, F169), (83, F83), (175, F175), (174, F174), (170, F170), (176, F176), (177, F177), (178, F178), (160, F160), (161, F161), (179, F179), (87, F87), (30, F30), (180, F180), (181, F181), (95, F95), (182, F182), (183, F183), (184, F184), (185, F185), (90, F90), (186, F186), (171, F171), (197, F197), (198, F198), (193, F193), (194, F194), (195, F195), (196, F196), (153, F153), (192, F192), (199, F199), (200, F200), (157, F157), (158, F158), (94, F94), (93, F93), (156, F156), (190, F190), (201, F201), (162, F162), (202, F202), (115, F115), (80, F80), (203, F203), (191, F191), (105, F105), (145, F145), (150, F150)]
theorem find9 : tab.find 9 = some F9 := rfl
theorem find11 : tab.find 11 = some F11 := rfl
theorem find12 : tab.find 12 = some F12 := rfl
theorem find14 : tab.find 14 = some F14 := rfl
theorem find41 : tab.find 41 = some F41 := rfl
theorem find42 : tab.find 42 = some F42 := rfl
theorem find44 : tab.find 44 = some F44 := rfl
theorem find43 : tab.find 43 = some F43 := rfl
theorem find45 : tab.find 45 = some F45 := rfl
theorem find21 : tab.find 21 = some F21 := rfl
theorem find55 : tab.find 55 = some F55 := rfl
theorem find56 : tab.find 56 = some F56 := rfl
theorem find58 : tab.find 58 = some F58 := rfl
theorem find57 : tab.find 57 = some F57 := rfl
theorem find59 : tab.find 59 = some F59 := rfl
theorem find60 : tab.find 60 = some F60 := rfl
theorem find61 : tab.find 61 = some F61 := rfl
theorem find62 : tab.find 62 = some F62 := rfl
theorem find63 : tab.find 63 = some F63 := rfl
theorem find64 : tab.find 64 = some F64 := rfl
theorem find65 : tab.find 65 = some F65 := rfl
theorem find70 : tab.find 70 = some F70 := rfl
theorem find71 : tab.find 71 = some F71 := rfl
theorem find72 : tab.find 72 = some F72 := rfl
theorem find73 : tab.find 73 = some F73 := rfl
theorem find74 : tab.find 74 = some F74 := rfl
theorem find76 : tab.find 76 = some F76 := rfl
theorem find107 : tab.find 107 = some F107 := rfl
theorem find104 : tab.find 104 = some F104 := rfl
theorem find108 : tab.find 108 = some F108 := rfl
theorem find109 : tab.find 109 = some F109 := rfl
theorem find111 : tab.find 111 = some F111 := rfl
theorem find110 : tab.find 110 = some F110 := rfl
theorem find112 : tab.find 112 = some F112 := rfl
theorem find19 : tab.find 19 = some F19 := rfl
theorem find124 : tab.find 124 = some F124 := rfl
theorem find125 : tab.find 125 = some F125 := rfl
theorem find123 : tab.find 123 = some F123 := rfl
theorem find122 : tab.find 122 = some F122 := rfl
theorem find114 : tab.find 114 = some F114 := rfl
theorem find126 : tab.find 126 = some F126 := rfl
theorem find127 : tab.find 127 = some F127 := rfl
theorem find82 : tab.find 82 = some F82 := rfl
theorem find128 : tab.find 128 = some F128 := rfl
theorem find129 : tab.find 129 = some F129 := rfl
theorem find130 : tab.find 130 = some F130 := rfl
theorem find131 : tab.find 131 = some F131 := rfl
theorem find89 : tab.find 89 = some F89 := rfl
theorem find132 : tab.find 132 = some F132 := rfl
theorem find133 : tab.find 133 = some F133 := rfl
theorem find137 : tab.find 137 = some F137 := rfl
theorem find138 : tab.find 138 = some F138 := rfl
theorem find139 : tab.find 139 = some F139 := rfl
theorem find140 : tab.find 140 = some F140 := rfl
theorem find141 : tab.find 141 = some F141 := rfl
theorem find142 : tab.find 142 = some F142 := rfl
theorem find143 : tab.find 143 = some F143 := rfl
theorem find144 : tab.find 144 = some F144 := rfl
theorem find166 : tab.find 166 = some F166 := rfl
theorem find165 : tab.find 165 = some F165 := rfl
theorem find155 : tab.find 155 = some F155 := rfl
theorem find167 : tab.find 167 = some F167 := rfl
theorem find168 : tab.find 168 = some F168 := rfl
theorem find169 : tab.find 169 = some F169 := rfl
theorem find83 : tab.find 83 = some F83 := rfl
theorem find175 : tab.find 175 = some F175 := rfl
theorem find174 : tab.find 174 = some F174 := rfl
theorem find170 : tab.find 170 = some F170 := rfl
theorem find176 : tab.find 176 = some F176 := rfl
theorem find177 : tab.find 177 = some F177 := rfl
theorem find178 : tab.find 178 = some F178 := rfl
theorem find160 : tab.find 160 = some F160 := rfl
theorem find161 : tab.find 161 = some F161 := rfl
theorem find179 : tab.find 179 = some F179 := rfl
theorem find87 : tab.find 87 = some F87 := rfl
theorem find30 : tab.find 30 = some F30 := rfl
theorem find180 : tab.find 180 = some F180 := rfl
theorem find181 : tab.find 181 = some F181 := rfl
theorem find95 : tab.find 95 = some F95 := rfl
theorem find182 : tab.find 182 = some F182 := rfl
theorem find183 : tab.find 183 = some F183 := rfl
theorem find184 : tab.find 184 = some F184 := rfl
theorem find185 : tab.find 185 = some F185 := rfl
theorem find90 : tab.find 90 = some F90 := rfl
theorem find186 : tab.find 186 = some F186 := rfl
theorem find171 : tab.find 171 = some F171 := rfl
theorem find197 : tab.find 197 = some F197 := rfl
theorem find198 : tab.find 198 = some F198 := rfl
theorem find193 : tab.find 193 = some F193 := rfl
theorem find194 : tab.find 194 = some F194 := rfl
theorem find195 : tab.find 195 = some F195 := rfl
theorem find196 : tab.find 196 = some F196 := rfl
theorem find153 : tab.find 153 = some F153 := rfl
theorem find192 : tab.find 192 = some F192 := rfl
theorem find199 : tab.find 199 = some F199 := rfl
theorem find200 : tab.find 200 = some F200 := rfl
theorem find157 : tab.find 157 = some F157 := rfl
theorem find158 : tab.find 158 = some F158 := rfl
theorem find94 : tab.find 94 = some F94 := rfl
theorem find93 : tab.find 93 = some F93 := rfl
theorem find156 : tab.find 156 = some F156 := rfl
theorem find190 : tab.find 190 = some F190 := rfl
theorem find201 : tab.find 201 = some F201 := rfl
theorem find162 : tab.find 162 = some F162 := rfl
theorem find202 : tab.find 202 = some F202 := rfl
theorem find115 : tab.find 115 = some F115 := rfl
theorem find80 : tab.find 80 = some F80 := rfl
theorem find203 : tab.find 203 = some F203 := rfl
theorem find191 : tab.find 191 = some F191 := rfl
theorem find105 : tab.find 105 = some F105 := rfl
theorem find145 : tab.find 145 = some F145 := rfl
theorem find150 : tab.find 150 = some F150 := rfl
theorem tab_ok : ∀ p ∈ tab, chkF Try.prog p.1 p.2 = true := by
  intro p hp
  simp only [tab, List.mem_cons, List.not_mem_nil, or_false] at hp
  rcases hp with rfl | rfl | rfl | rfl | rfl | rfl | rfl | rfl | rfl | rfl | rfl | rfl | rfl | rfl | rfl | rfl | rfl | rfl | rfl | rfl | rfl | rfl | rfl | rfl | rfl | rfl | rfl | rfl | rfl | rfl | rfl | rfl | rfl | rfl | rfl | rfl | rfl | rfl | rfl | rfl | rfl | rfl | rfl | rfl | rfl | rfl | rfl | rfl | rfl | rfl | rfl | rfl | rfl | rfl | rfl | rfl | rfl | rfl | rfl | rfl | rfl | rfl | rfl | rfl | rfl | rfl | rfl | rfl | rfl | rfl | rfl | rfl | rfl | rfl | rfl | rfl | rfl | rfl | rfl | rfl | rfl | rfl | rfl | rfl | rfl | rfl | rfl | rfl | rfl | rfl | rfl | rfl | rfl | rfl | rfl | rfl | rfl | rfl | rfl | rfl | rfl | rfl | rfl | rfl | rfl | rfl | rfl | rfl | rfl | rfl | rfl | rfl
  · exact chk9
  · exact chk11
  · exact chk12
  · exact chk14
  · exact chk41
  · exact chk42
  · exact chk44
  · exact chk43
  · exact chk45
  · exact chk21
  · exact chk55
  · exact chk56
  · exact chk58
  · exact chk57
  · exact chk59
  · exact chk60
  · exact chk61
  · exact chk62
  · exact chk63
  · exact chk64
  · exact chk65
  · exact chk70
  · exact chk71
  · exact chk72
  · exact chk73
  · exact chk74
  · exact chk76
  · exact chk107
  · exact chk104
  · exact chk108
  · exact chk109
  · exact chk111
  · exact chk110
  · exact chk112
  · exact chk19
  · exact chk124
  · exact chk125
  · exact chk123
  · exact chk122
  · exact chk114
  · exact chk126
  · exact chk127
  · exact chk82
  · exact chk128
  · exact chk129
  · exact chk130
  · exact chk131
  · exact chk89
  · exact chk132
  · exact chk133
  · exact chk137
  · exact chk138
  · exact chk139
  · exact chk140
  · exact chk141
  · exact chk142
  · exact chk143
  · exact chk144
  · exact chk166
  · exact chk165
  · exact chk155
  · exact chk167
  · exact chk168
  · exact chk169
  · exact chk83
  · exact chk175
  · exact chk174
  · exact chk170
  · exact chk176
  · exact chk177
  · exact chk178
  · exact chk160
  · exact chk161
  · exact chk179
  · exact chk87
  · exact chk30
  · exact chk180
  · exact chk181
  · exact chk95
  · exact chk182
  · exact chk183
  · exact chk184
  · exact chk185
  · exact chk90
  · exact chk186
  · exact chk171
  · exact chk197
  · exact chk198
  · exact chk193
  · exact chk194
  · exact chk195
  · exact chk196
  · exact chk153
  · exact chk192
  · exact chk199
  · exact chk200
  · exact chk157
  · exact chk158
  · exact chk94
  · exact chk93
  · exact chk156
  · exact chk190
  · exact chk201
  · exact chk162
  · exact chk202
  · exact chk115
  · exact chk80
  · exact chk203
  · exact chk191
  · exact chk105
  · exact chk145
  · exact chk150
end Go.Proofs.Ytnnjpiepoeknnaa.PE
