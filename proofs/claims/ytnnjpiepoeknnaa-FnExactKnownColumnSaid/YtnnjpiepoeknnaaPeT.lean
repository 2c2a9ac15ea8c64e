/- The compact code of the functions, and that it is the code of the machine. -/
import Derived.Test.YtnnjpiepoeknnaaPeT0
import Derived.Test.YtnnjpiepoeknnaaPeX
import Derived.Test.YtnnjpiepoeknnaaProg
namespace Go.Proofs.Ytnnjpiepoeknnaa.PE
open Go.RowKit
set_option maxRecDepth 100000
def B162x0 : C := .seq (.seg false [⟨some 9, none, .bin .lss (.t 8) (.t 7), 0, 0, false, []⟩])
   (.seq (.cond (.t 9) (.skip)
   (.exit 0))
   (.seq (.block 1 (.seq (.seg false [⟨some 10, none, .mov (.t 8), 0, 0, false, []⟩,
    ⟨some 5, none, .mov (.t 10), 0, 0, false, []⟩])
   (.seq (.seg false [⟨some 11, none, .mov (.t 1), 0, 0, false, []⟩,
    ⟨some 12, none, .mov (.t 0), 0, 0, false, []⟩,
    ⟨some 13, none, .mov (.t 5), 0, 0, false, []⟩,
    ⟨some 14, none, .iaddr 1 (.t 12) (.t 13), 0, 0, false, []⟩,
    ⟨some 15, none, .load false 1 (.t 14), 0, 0, false, []⟩,
    ⟨some 16, none, .callv (.t 11) [.t 15] false, 0, 0, false, []⟩])
   (.cutTo [0, 1, 5, 7, 8, 16] (.cond (.t 16) (.seq (.seg false [⟨some 17, none, .mov (.t 5), 0, 0, false, []⟩,
    ⟨some 4, none, .mov (.t 17), 0, 0, false, []⟩])
   (.ret))
   (.skip))))))
   (.cutTo [0, 1, 7, 8] (.seg false [⟨some 18, none, .bin .add (.t 8) (.k (.int .i64 1)), 0, 0, false, []⟩,
    ⟨some 8, none, .mov (.t 18), 0, 0, false, []⟩]))))
def L162x0 : C := B162x0
theorem evL162x0 (run : Run) (draw : List I → Env → Heap → Option (Env × Heap)) (e : Env) (h : Heap) : evC run draw L162x0 e h = evC run draw B162x0 e h := rfl
/-- slices.IndexFunc<<><>loop.example/tablehouse/impl.Value,<>loop.example/tablehouse/impl.Value> -/
def F162 : F := ⟨19, [(false, 4, 0, false)],
   .seq (.seg false [⟨some 4, none, .mov (.k (.int .i64 0)), 0, 0, false, []⟩])
   (.seq (.seq (.seg false [⟨some 6, none, .mov (.t 0), 0, 0, false, []⟩,
    ⟨some 7, none, .len false (.t 6), 0, 0, false, []⟩,
    ⟨some 8, none, .mov (.k (.int .i64 0)), 0, 0, false, []⟩])
   (.block 0 (.loop [0, 1, 7, 8] [4] L162x0)))
   (.seq (.seg false [⟨some 4, none, .mov (.k (.int .i64 (-1))), 0, 0, false, []⟩])
   (.ret)))⟩
theorem chk155 : chkF Try.prog 155 F155 = true := by kernel_rfl
theorem chk104 : chkF Try.prog 104 F104 = true := by kernel_rfl
theorem chk77 : chkF Try.prog 77 F77 = true := by kernel_rfl
theorem chk83 : chkF Try.prog 83 F83 = true := by kernel_rfl
theorem chk78 : chkF Try.prog 78 F78 = true := by kernel_rfl
theorem chk87 : chkF Try.prog 87 F87 = true := by kernel_rfl
theorem chk158 : chkF Try.prog 158 F158 = true := by kernel_rfl
theorem chk31 : chkF Try.prog 31 F31 = true := by kernel_rfl
theorem chk28 : chkF Try.prog 28 F28 = true := by kernel_rfl
theorem chk159 : chkF Try.prog 159 F159 = true := by kernel_rfl
theorem chk16 : chkF Try.prog 16 F16 = true := by kernel_rfl
theorem chk20 : chkF Try.prog 20 F20 = true := by kernel_rfl
theorem chk95 : chkF Try.prog 95 F95 = true := by kernel_rfl
theorem chk128 : chkF Try.prog 128 F128 = true := by kernel_rfl
theorem chk177 : chkF Try.prog 177 F177 = true := by kernel_rfl
theorem chk30 : chkF Try.prog 30 F30 = true := by kernel_rfl
theorem chk94 : chkF Try.prog 94 F94 = true := by kernel_rfl
theorem chk19 : chkF Try.prog 19 F19 = true := by kernel_rfl
theorem chk82 : chkF Try.prog 82 F82 = true := by kernel_rfl
theorem chk88 : chkF Try.prog 88 F88 = true := by kernel_rfl
theorem chk153 : chkF Try.prog 153 F153 = true := by kernel_rfl
theorem chk7 : chkF Try.prog 7 F7 = true := by kernel_rfl
theorem chk21 : chkF Try.prog 21 F21 = true := by kernel_rfl
theorem chk102 : chkF Try.prog 102 F102 = true := by kernel_rfl
theorem chk37 : chkF Try.prog 37 F37 = true := by kernel_rfl
theorem chk101 : chkF Try.prog 101 F101 = true := by kernel_rfl
theorem chk103 : chkF Try.prog 103 F103 = true := by kernel_rfl
theorem chk38 : chkF Try.prog 38 F38 = true := by kernel_rfl
theorem chk121 : chkF Try.prog 121 F121 = true := by kernel_rfl
theorem chk136 : chkF Try.prog 136 F136 = true := by kernel_rfl
theorem chk67 : chkF Try.prog 67 F67 = true := by kernel_rfl
theorem chk173 : chkF Try.prog 173 F173 = true := by kernel_rfl
theorem chk120 : chkF Try.prog 120 F120 = true := by kernel_rfl
theorem chk134 : chkF Try.prog 134 F134 = true := by kernel_rfl
theorem chk32 : chkF Try.prog 32 F32 = true := by kernel_rfl
theorem chk163 : chkF Try.prog 163 F163 = true := by kernel_rfl
theorem chk98 : chkF Try.prog 98 F98 = true := by kernel_rfl
theorem chk33 : chkF Try.prog 33 F33 = true := by kernel_rfl
theorem chk99 : chkF Try.prog 99 F99 = true := by kernel_rfl
theorem chk34 : chkF Try.prog 34 F34 = true := by kernel_rfl
theorem chk164 : chkF Try.prog 164 F164 = true := by kernel_rfl
theorem chk100 : chkF Try.prog 100 F100 = true := by kernel_rfl
theorem chk35 : chkF Try.prog 35 F35 = true := by kernel_rfl
theorem chk97 : chkF Try.prog 97 F97 = true := by kernel_rfl
theorem chk96 : chkF Try.prog 96 F96 = true := by kernel_rfl
theorem chk161 : chkF Try.prog 161 F161 = true := by kernel_rfl
theorem chk91 : chkF Try.prog 91 F91 = true := by kernel_rfl
theorem chk29 : chkF Try.prog 29 F29 = true := by kernel_rfl
theorem chk92 : chkF Try.prog 92 F92 = true := by kernel_rfl
theorem chk17 : chkF Try.prog 17 F17 = true := by kernel_rfl
theorem chk23 : chkF Try.prog 23 F23 = true := by kernel_rfl
theorem chk160 : chkF Try.prog 160 F160 = true := by kernel_rfl
theorem chk192 : chkF Try.prog 192 F192 = true := by kernel_rfl
theorem chk89 : chkF Try.prog 89 F89 = true := by kernel_rfl
theorem chk80 : chkF Try.prog 80 F80 = true := by kernel_rfl
theorem chk81 : chkF Try.prog 81 F81 = true := by kernel_rfl
theorem chk152 : chkF Try.prog 152 F152 = true := by kernel_rfl
theorem chk90 : chkF Try.prog 90 F90 = true := by kernel_rfl
theorem chk151 : chkF Try.prog 151 F151 = true := by kernel_rfl
theorem chk150 : chkF Try.prog 150 F150 = true := by kernel_rfl
theorem chk75 : chkF Try.prog 75 F75 = true := by kernel_rfl
theorem chk156 : chkF Try.prog 156 F156 = true := by kernel_rfl
theorem chk86 : chkF Try.prog 86 F86 = true := by kernel_rfl
theorem chk130 : chkF Try.prog 130 F130 = true := by kernel_rfl
theorem chk190 : chkF Try.prog 190 F190 = true := by kernel_rfl
theorem chk146 : chkF Try.prog 146 F146 = true := by kernel_rfl
theorem chk105 : chkF Try.prog 105 F105 = true := by kernel_rfl
theorem chk76 : chkF Try.prog 76 F76 = true := by kernel_rfl
theorem chk145 : chkF Try.prog 145 F145 = true := by kernel_rfl
theorem chk126 : chkF Try.prog 126 F126 = true := by kernel_rfl
theorem chk18 : chkF Try.prog 18 F18 = true := by kernel_rfl
theorem chk148 : chkF Try.prog 148 F148 = true := by kernel_rfl
theorem chk149 : chkF Try.prog 149 F149 = true := by kernel_rfl
theorem chk147 : chkF Try.prog 147 F147 = true := by kernel_rfl
theorem chk157 : chkF Try.prog 157 F157 = true := by kernel_rfl
theorem chk176 : chkF Try.prog 176 F176 = true := by kernel_rfl
theorem chk93 : chkF Try.prog 93 F93 = true := by kernel_rfl
theorem chk36 : chkF Try.prog 36 F36 = true := by kernel_rfl
theorem chk79 : chkF Try.prog 79 F79 = true := by kernel_rfl
theorem chk188 : chkF Try.prog 188 F188 = true := by kernel_rfl
theorem chk189 : chkF Try.prog 189 F189 = true := by kernel_rfl
theorem chk191 : chkF Try.prog 191 F191 = true := by kernel_rfl
theorem chk199 : chkF Try.prog 199 F199 = true := by kernel_rfl
theorem chk162 : chkF Try.prog 162 F162 = true := by kernel_rfl
def tab : Tab := [(155, F155), (104, F104), (77, F77), (83, F83), (78, F78), (87, F87), (158, F158), (31, F31), (28, F28), (159, F159), (16, F16), (20, F20), (95, F95), (128, F128), (177, F177), (30, F30), (94, F94), (19, F19), (82, F82), (88, F88), (153, F153), (7, F7), (21, F21), (102, F102), (37, F37), (101, F101), (103, F103), (38, F38), (121, F121), (136, F136), (67, F67), (173, F173), (120, F120), (134, F134), (32, F32), (163, F163), (98, F98), (33, F33), (99, F99), (34, F34), (164, F164), (100, F100), (35, F35), (97, F97), (96, F96), (161, F161), (91, F91), (29, F29), (92, F92), (17, F17), (23, F23), (160, F160), (192, F192), (89, F89), (80, F80), (81, F81), (152, F152), (90, F90), (151, F151), (150, F150), (75, F75), (156, F156), (86, F86), (130, F130), (190, F190), (146, F146), (105, F105), (76, F76), (145, F145), (126, F126), (18, F18), (148, F148), (149, F149), (147, F147), (157, F157), (176, F176), (93, F93), (36, F36), (79, F79), (188, F188), (189, F189), (191, F191), (199, F199), (162, F162)]
theorem find155 : tab.find 155 = some F155 := rfl
theorem find104 : tab.find 104 = some F104 := rfl
theorem find77 : tab.find 77 = some F77 := rfl
theorem find83 : tab.find 83 = some F83 := rfl
theorem find78 : tab.find 78 = some F78 := rfl
theorem find87 : tab.find 87 = some F87 := rfl
theorem find158 : tab.find 158 = some F158 := rfl
theorem find31 : tab.find 31 = some F31 := rfl
theorem find28 : tab.find 28 = some F28 := rfl
theorem find159 : tab.find 159 = some F159 := rfl
theorem find16 : tab.find 16 = some F16 := rfl
theorem find20 : tab.find 20 = some F20 := rfl
theorem find95 : tab.find 95 = some F95 := rfl
theorem find128 : tab.find 128 = some F128 := rfl
theorem find177 : tab.find 177 = some F177 := rfl
theorem find30 : tab.find 30 = some F30 := rfl
theorem find94 : tab.find 94 = some F94 := rfl
theorem find19 : tab.find 19 = some F19 := rfl
theorem find82 : tab.find 82 = some F82 := rfl
theorem find88 : tab.find 88 = some F88 := rfl
theorem find153 : tab.find 153 = some F153 := rfl
theorem find7 : tab.find 7 = some F7 := rfl
theorem find21 : tab.find 21 = some F21 := rfl
theorem find102 : tab.find 102 = some F102 := rfl
theorem find37 : tab.find 37 = some F37 := rfl
theorem find101 : tab.find 101 = some F101 := rfl
theorem find103 : tab.find 103 = some F103 := rfl
theorem find38 : tab.find 38 = some F38 := rfl
theorem find121 : tab.find 121 = some F121 := rfl
theorem find136 : tab.find 136 = some F136 := rfl
theorem find67 : tab.find 67 = some F67 := rfl
theorem find173 : tab.find 173 = some F173 := rfl
theorem find120 : tab.find 120 = some F120 := rfl
theorem find134 : tab.find 134 = some F134 := rfl
theorem find32 : tab.find 32 = some F32 := rfl
theorem find163 : tab.find 163 = some F163 := rfl
theorem find98 : tab.find 98 = some F98 := rfl
theorem find33 : tab.find 33 = some F33 := rfl
theorem find99 : tab.find 99 = some F99 := rfl
theorem find34 : tab.find 34 = some F34 := rfl
theorem find164 : tab.find 164 = some F164 := rfl
theorem find100 : tab.find 100 = some F100 := rfl
theorem find35 : tab.find 35 = some F35 := rfl
theorem find97 : tab.find 97 = some F97 := rfl
theorem find96 : tab.find 96 = some F96 := rfl
theorem find161 : tab.find 161 = some F161 := rfl
theorem find91 : tab.find 91 = some F91 := rfl
theorem find29 : tab.find 29 = some F29 := rfl
theorem find92 : tab.find 92 = some F92 := rfl
theorem find17 : tab.find 17 = some F17 := rfl
theorem find23 : tab.find 23 = some F23 := rfl
theorem find160 : tab.find 160 = some F160 := rfl
theorem find192 : tab.find 192 = some F192 := rfl
theorem find89 : tab.find 89 = some F89 := rfl
theorem find80 : tab.find 80 = some F80 := rfl
theorem find81 : tab.find 81 = some F81 := rfl
theorem find152 : tab.find 152 = some F152 := rfl
theorem find90 : tab.find 90 = some F90 := rfl
theorem find151 : tab.find 151 = some F151 := rfl
theorem find150 : tab.find 150 = some F150 := rfl
theorem find75 : tab.find 75 = some F75 := rfl
theorem find156 : tab.find 156 = some F156 := rfl
theorem find86 : tab.find 86 = some F86 := rfl
theorem find130 : tab.find 130 = some F130 := rfl
theorem find190 : tab.find 190 = some F190 := rfl
theorem find146 : tab.find 146 = some F146 := rfl
theorem find105 : tab.find 105 = some F105 := rfl
theorem find76 : tab.find 76 = some F76 := rfl
theorem find145 : tab.find 145 = some F145 := rfl
theorem find126 : tab.find 126 = some F126 := rfl
theorem find18 : tab.find 18 = some F18 := rfl
theorem find148 : tab.find 148 = some F148 := rfl
theorem find149 : tab.find 149 = some F149 := rfl
theorem find147 : tab.find 147 = some F147 := rfl
theorem find157 : tab.find 157 = some F157 := rfl
theorem find176 : tab.find 176 = some F176 := rfl
theorem find93 : tab.find 93 = some F93 := rfl
theorem find36 : tab.find 36 = some F36 := rfl
theorem find79 : tab.find 79 = some F79 := rfl
theorem find188 : tab.find 188 = some F188 := rfl
theorem find189 : tab.find 189 = some F189 := rfl
theorem find191 : tab.find 191 = some F191 := rfl
theorem find199 : tab.find 199 = some F199 := rfl
theorem find162 : tab.find 162 = some F162 := rfl
theorem tab_ok : ∀ p ∈ tab, chkF Try.prog p.1 p.2 = true := by
  intro p hp
  simp only [tab, List.mem_cons, List.not_mem_nil, or_false] at hp
  rcases hp with rfl | rfl | rfl | rfl | rfl | rfl | rfl | rfl | rfl | rfl | rfl | rfl | rfl | rfl | rfl | rfl | rfl | rfl | rfl | rfl | rfl | rfl | rfl | rfl | rfl | rfl | rfl | rfl | rfl | rfl | rfl | rfl | rfl | rfl | rfl | rfl | rfl | rfl | rfl | rfl | rfl | rfl | rfl | rfl | rfl | rfl | rfl | rfl | rfl | rfl | rfl | rfl | rfl | rfl | rfl | rfl | rfl | rfl | rfl | rfl | rfl | rfl | rfl | rfl | rfl | rfl | rfl | rfl | rfl | rfl | rfl | rfl | rfl | rfl | rfl | rfl | rfl | rfl | rfl | rfl | rfl | rfl | rfl | rfl
  · exact chk155
  · exact chk104
  · exact chk77
  · exact chk83
  · exact chk78
  · exact chk87
  · exact chk158
  · exact chk31
  · exact chk28
  · exact chk159
  · exact chk16
  · exact chk20
  · exact chk95
  · exact chk128
  · exact chk177
  · exact chk30
  · exact chk94
  · exact chk19
  · exact chk82
  · exact chk88
  · exact chk153
  · exact chk7
  · exact chk21
  · exact chk102
  · exact chk37
  · exact chk101
  · exact chk103
  · exact chk38
  · exact chk121
  · exact chk136
  · exact chk67
  · exact chk173
  · exact chk120
  · exact chk134
  · exact chk32
  · exact chk163
  · exact chk98
  · exact chk33
  · exact chk99
  · exact chk34
  · exact chk164
  · exact chk100
  · exact chk35
  · exact chk97
  · exact chk96
  · exact chk161
  · exact chk91
  · exact chk29
  · exact chk92
  · exact chk17
  · exact chk23
  · exact chk160
  · exact chk192
  · exact chk89
  · exact chk80
  · exact chk81
  · exact chk152
  · exact chk90
  · exact chk151
  · exact chk150
  · exact chk75
  · exact chk156
  · exact chk86
  · exact chk130
  · exact chk190
  · exact chk146
  · exact chk105
  · exact chk76
  · exact chk145
  · exact chk126
  · exact chk18
  · exact chk148
  · exact chk149
  · exact chk147
  · exact chk157
  · exact chk176
  · exact chk93
  · exact chk36
  · exact chk79
  · exact chk188
  · exact chk189
  · exact chk191
  · exact chk199
  · exact chk162
end Go.Proofs.Ytnnjpiepoeknnaa.PE
