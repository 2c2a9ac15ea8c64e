/- Each operation of the evaluator is the machine's: those that read and reckon. -/
import Derived.Test.YtfbjbkkcilhgjaaPeD
namespace Go.Proofs.Ytfbjbkkcilhgjaa.PE
open Go.RowKit

/-- What is to be shown of one operation. -/
def Ok1 (P : Program) (op : Go.Op) (o : Oper) (a : Act) (K : Ct) (γ : Gh) (w : World) (h : Heap) (x : V) (h' : Heap) : Prop :=
  ∃ v w' γ', ((execOp a.eval { o with op := op }).run P w = .ok (.value v) w' ∨ ((execOp a.eval { o with op := op }).run P w = .ok .skip w' ∧ v = undef)) ∧ Go2 K γ w h γ' w' h' ∧ VT K γ' w' h' v x

section
variable {P : Program} {o : Oper} {a : Act} {K : Ct} {γ : Gh} {w : World} {h : Heap} {N : Nat} {e : Env}

theorem ok_move (s : St K γ w h) (he : EnvOK K γ w h N a e) {x : Operand} {y : X} (hc : chkX x y = true) : Ok1 P (.move x) o a K γ w h (y.ev e) h :=
  ⟨a.eval x, w, γ, .inl rfl, Go2.refl s, chkX_ok hc he⟩
theorem ok_assign (s : St K γ w h) (he : EnvOK K γ w h N a e) {x : Operand} {y : X} (hc : chkX x y = true) : Ok1 P (.assign x) o a K γ w h (y.ev e) h :=
  ⟨a.eval x, w, γ, .inl rfl, Go2.refl s, chkX_ok hc he⟩

theorem upd_none_self (s : St K γ w h) : upd γ h.length none = γ := by
  funext i
  unfold upd
  split
  · subst_vars; exact (s.dom _ (Nat.le_refl _)).symm
  · rfl

/-- An empty row of one's own, no memory yet. -/
theorem nilrow_ok (s : St K γ w h) {sz : Nat} (hz : 0 < sz) : Go2 K γ w h γ w (h ++ [.rows 0 sz []]) ∧ VT K γ w (h ++ [.rows 0 sz []]) (.slice none 0 0) (.ref h.length 0 0 0 false) := by
  have g := st_add (w' := w) s (.rows 0 sz []) none (Below.refl _ _) (fun _ _ e => by cases e) (fun _ => ⟨hz, (fun x hx => by cases hx), by rw [upd_self]⟩)
  rw [upd_none_self s] at g
  refine ⟨Go2.of g, none, 0, rfl, Nat.le_refl _, (fun e => by cases e), ?_⟩
  rw [List.getElem?_concat_length]
  refine ⟨Nat.le_refl _, fun _ => ⟨by simp, ?_⟩⟩
  rw [s.dom _ (Nat.le_refl _)]

theorem ok_nilrow (s : St K γ w h) {sz : Nat} (hz : 0 < sz) {op : Go.Op} (ho : op = .move (.const (.slice none 0 0)) ∨ op = .assign (.const (.slice none 0 0))) :
    Ok1 P op o a K γ w h (.ref h.length 0 0 0 false) (h ++ [.rows 0 sz []]) := by
  obtain ⟨g, v⟩ := nilrow_ok s hz
  refine ⟨.slice none 0 0, w, γ, .inl ?_, g, v⟩
  rcases ho with rfl | rfl <;> rfl

theorem ok_pick (s : St K γ w h) (he : EnvOK K γ w h N a e) {c x y : Operand} {c' x' y' : X} (hc : chkX c c' = true) (hx : chkX x x' = true) (hy : chkX y y' = true) {t : Bool} (ht : c'.ev e = .bool t) :
    Ok1 P (.pick c x y) o a K γ w h (if t then x'.ev e else y'.ev e) h := by
  have h1 := chkX_ok hc he
  rw [ht] at h1
  refine ⟨if t then a.eval x else a.eval y, w, γ, .inl ?_, Go2.refl s, ?_⟩
  · simp only [execOp, h1.bool, asBool]
    rfl
  · cases t
    · exact chkX_ok hy he
    · exact chkX_ok hx he

/-- A new variable. -/
theorem box_ok (s : St K γ w h) (t : TypeId) {cells : Array Value} {cs : List V} (hs : cells.size = cs.length) (hc : ∀ (i : Nat) (c : V), cs[i]? = some c → ∃ u, cells[i]? = some u ∧ VC K γ w h u c) :
    ∃ γ', Go2 K γ w h γ' (w.alloc (.cells cells t)) (h ++ [.box cs]) ∧ VT K γ' (w.alloc (.cells cells t)) (h ++ [.box cs]) (.pointer (some ⟨w.heap.size, 0, none⟩)) (.ptr h.length 0 0 0) := by
  have hb : Below w.heap.size w (w.alloc (.cells cells t)) := (Below.refl _ _).alloc (Nat.le_refl _) _
  have g := st_add s (.box cs) (some (w.heap.size, 0)) hb (fun g o e => by injection e with e; injection e with e _; omega) (fun tr => by
    refine ⟨w.heap.size, cells, upd_self _ _ _, s.size, ⟨t, heap_alloc_new w _⟩, hs, fun c y hy => ?_⟩
    obtain ⟨u, hu, hv⟩ := hc c y hy
    exact ⟨u, hu, tr.vc hv⟩)
  refine ⟨_, Go2.of g, _, rfl, ?_⟩
  unfold PtrOK
  rw [List.getElem?_concat_length]
  exact ⟨rfl, rfl, _, upd_self _ _ _, rfl⟩

theorem ok_alloc (s : St K γ w h) {t : TypeId} {zero : List V} (hz : zeroIs P t zero = true) : Ok1 P (.alloc t) o a K γ w h (.ptr h.length 0 0 0) (h ++ [.box zero]) := by
  unfold zeroIs at hz
  split at hz
  · rename_i z hzt
    simp only [Bool.and_eq_true, decide_eq_true_eq] at hz
    obtain ⟨h1, h2⟩ := constCs_ok (K := K) (γ := γ) (w := w) (h := h) hz.1
    obtain ⟨γ', g, hv⟩ := box_ok s t (cells := z.cells) (cs := zero) (by simpa using h1) (fun i c hc => by simpa using h2 i c hc)
    refine ⟨_, _, γ', .inl ?_, g, hv⟩
    simp [execOp, Instr.alloc, run_zero hzt, newVar, newRow]
  · cases hz

theorem ok_box (s : St K γ w h) (he : EnvOK K γ w h N a e) {t : TypeId} {x : Operand} {y : X} (hc : chkX x y = true) {cs : List V} (hcs : cellsOf (y.ev e) = some cs) :
    Ok1 P (.box t x) o a K γ w h (.ptr h.length 0 0 0) (h ++ [.box cs]) := by
  obtain ⟨h1, h2⟩ := cells_ok (chkX_ok hc he) hcs
  obtain ⟨γ', g, hv⟩ := box_ok s t (cells := (a.eval x).cells) (cs := cs) h1 h2
  refine ⟨_, _, γ', .inl ?_, g, hv⟩
  simp [execOp, Instr.box, newVar, newRow]

/-! ### cells that are read -/
theorem sub_spec {cs ys : List V} {off sz : Nat} (hs : sub cs off sz = some ys) : ys.length = sz ∧ off + sz ≤ cs.length ∧ ∀ (i : Nat) (c : V), ys[i]? = some c → cs[off + i]? = some c ∧ i < sz := by
  unfold sub at hs
  split at hs
  · rename_i hl
    injection hs with hs
    subst hs
    refine ⟨by simp; omega, hl, fun i c hc => ?_⟩
    have hi : i < sz := by
      have := (List.getElem?_eq_some_iff.1 hc).1
      simp at this
      omega
    rw [List.getElem?_take_of_lt hi, List.getElem?_drop] at hc
    exact ⟨hc, hi⟩
  · cases hs

/-- What lies at an address is loaded. -/
theorem run_load_ok {t : TypeId} {agg : Bool} {sz : Nat} (hagg : aggT P t = some agg) (hsz : szT P t = some sz) {g o : Nat} {cs : List V} (hl : cs.length = sz)
    (hc : ∀ (c : Nat) (y : V), cs[c]? = some y → ∃ u, w.cell? ⟨g, o + c, none⟩ = some u ∧ VC K γ w h u y) {v : V} (hv : ofCells agg cs = some v) :
    ∃ u, (loadVar t ⟨g, o, none⟩).run P w = .ok u w ∧ VT K γ w h u v := by
  unfold ofCells at hv
  cases agg with
  | true =>
    simp at hv
    subst hv
    let us : List Value := (List.range cs.length).map fun c => (w.cell? ⟨g, o + c, none⟩).getD undef
    have hus : ∀ (c : Nat) (y : V), cs[c]? = some y → ∃ u, us[c]? = some u ∧ w.cell? ⟨g, o + c, none⟩ = some u ∧ VC K γ w h u y := by
      intro c y hy
      obtain ⟨u, hu, hv⟩ := hc c y hy
      have hlt := (List.getElem?_eq_some_iff.1 hy).1
      exact ⟨u, by simp [us, hlt, hu], hu, hv⟩
    have hrun := run_loadCells_list (P := P) w ⟨g, o, none⟩ us (fun j v hj => by
      have hlt : j < cs.length := by
        have := (List.getElem?_eq_some_iff.1 hj).1
        simpa [us] using this
      obtain ⟨u, hu1, hu2, _⟩ := hus j _ (List.getElem?_eq_getElem hlt)
      rw [hu1] at hj
      injection hj with hj
      subst hj
      rw [add0]
      exact hu2)
    have hul : us.length = sz := by simp [us, hl]
    rw [hul] at hrun
    refine ⟨.agg us.toArray, by simp [loadVar, run_agg hagg, run_sz hsz, hrun], us.toArray, rfl, by simp [hul, hl], fun i c hc => ?_⟩
    obtain ⟨u, hu1, _, hu3⟩ := hus i c hc
    exact ⟨u, by simpa using hu1, hu3⟩
  | false =>
    simp at hv
    split at hv
    · rename_i c
      injection hv with hv
      subst hv
      obtain ⟨u, hu, hv⟩ := hc 0 c rfl
      simp at hu
      exact ⟨u, by simp [loadVar, run_agg hagg, hu], hv.va.vt⟩
    · cases hv

theorem rep_vc {v : Value} {x : V} (hr : Rep w (Im K γ w) v x) : VC K γ w h v x := by
  cases hr with
  | int k n => rfl
  | bool b => rfl
  | str s => rfl
  | sl A n cap clip xs sz us h1 h2 h3 h4 h5 h6 h7 => exact Rep.sl A n cap clip xs sz us h1 h2 h3 h4 h5 h6 h7

theorem vr_vc {v : Value} {x : V} (hr : VR K γ w h v x) : VC K γ w h v x := by
  cases x with
  | ref id st off len clip => exact hr
  | _ => exact rep_vc hr
theorem vr_of_vc {v : Value} {x : V} (hx : okN x = true) (hr : VC K γ w h v x) : VR K γ w h v x := by
  cases x with
  | ref id st off len clip => exact hr
  | int k n => rw [show v = _ from hr]; exact Rep.int k n
  | bool b => rw [show v = _ from hr]; exact Rep.bool b
  | str s => rw [show v = _ from hr]; exact Rep.str s
  | sl c sz xs => exact hr
  | _ => cases hx

theorem VT.ptr {v : Value} {id st el off : Nat} (hv : VT K γ w h v (.ptr id st el off)) : ∃ a, v = .pointer (some a) ∧ PtrOK γ h a id st el off := hv
theorem VT.fp {v : Value} {cs : List V} (hv : VT K γ w h v (.fp cs)) : ∃ a, v = .pointer (some a) ∧ FpOK K γ w a cs := hv
theorem VT.ref {v : Value} {id st off len : Nat} {clip : Bool} (hv : VT K γ w h v (.ref id st off len clip)) : ∃ A cap, v = .slice A len cap ∧ RefOK K γ w h A len cap id st off clip := hv

/-- A pointer to an element of a row: where it is. -/
theorem ptr_rows (s : St K γ w h) {ad : Addr} {id st el off sz st' : Nat} {cont : List (List V)} (hp : PtrOK γ h ad id st el off) (hb : h[id]? = some (.rows st' sz cont)) (he : st' = st) :
    ∃ g o cs x, γ id = some (g, o) ∧ ad = ⟨g, o + el * sz + off, none⟩ ∧ IsBlk w g cs ∧ K.w0.heap.size ≤ g ∧ o + cont.length * sz ≤ cs.size ∧ cont[el]? = some x ∧ x.length = sz ∧ 0 < sz ∧
      (∀ y ∈ cont, y.length = sz) ∧
      ∀ (j c : Nat) (x : List V) (y : V), cont[j]? = some x → x[c]? = some y → ∃ u, cs[o + j * sz + c]? = some u ∧ Rep w (Im K γ w) u y := by
  unfold PtrOK at hp
  rw [hb] at hp
  obtain ⟨_, hp⟩ := hp
  obtain ⟨h1, g, o, h2, h3⟩ := hp he.symm
  have hB := s.blk id _ hb
  obtain ⟨hz, hl, hB⟩ := hB
  rw [h2] at hB
  obtain ⟨h4, cs, h5, h6, h7⟩ := hB
  exact ⟨g, o, cs, cont[el], h2, h3, h5, h4, h6, List.getElem?_eq_getElem h1, hl _ (List.getElem_mem h1), hz, hl, h7⟩

/-- The same of a row of rows. -/
theorem ptr_nest (s : St K γ w h) {ad : Addr} {id st el off sz st' : Nat} {cont : List (List V)} (hp : PtrOK γ h ad id st el off) (hb : h[id]? = some (.nest st' sz cont)) (he : st' = st) :
    ∃ g o cs x, γ id = some (g, o) ∧ ad = ⟨g, o + el * sz + off, none⟩ ∧ IsBlk w g cs ∧ K.w0.heap.size ≤ g ∧ o + cont.length * sz ≤ cs.size ∧ cont[el]? = some x ∧ x.length = sz ∧ 0 < sz ∧
      (∀ y ∈ cont, y.length = sz) ∧
      ∀ (j c : Nat) (x : List V) (y : V), cont[j]? = some x → x[c]? = some y → ∃ u, cs[o + j * sz + c]? = some u ∧ VR K γ w h u y := by
  unfold PtrOK at hp
  rw [hb] at hp
  obtain ⟨_, hp⟩ := hp
  obtain ⟨h1, g, o, h2, h3⟩ := hp he.symm
  have hB := s.blk id _ hb
  obtain ⟨hz, hl, hB⟩ := hB
  rw [h2] at hB
  obtain ⟨h4, cs, h5, h6, h7⟩ := hB
  exact ⟨g, o, cs, cont[el], h2, h3, h5, h4, h6, List.getElem?_eq_getElem h1, hl _ (List.getElem_mem h1), hz, hl, h7⟩

theorem ptr_box (s : St K γ w h) {ad : Addr} {id st el off : Nat} {cells : List V} (hp : PtrOK γ h ad id st el off) (hb : h[id]? = some (.box cells)) :
    ∃ g cs, γ id = some (g, 0) ∧ ad = ⟨g, off, none⟩ ∧ IsBlk w g cs ∧ K.w0.heap.size ≤ g ∧ cs.size = cells.length ∧
      ∀ (c : Nat) (y : V), cells[c]? = some y → ∃ u, cs[c]? = some u ∧ VC K γ w h u y := by
  unfold PtrOK at hp
  rw [hb] at hp
  obtain ⟨_, _, g, h1, h2⟩ := hp
  have hB := s.blk id _ hb
  obtain ⟨g', cs, h3, h4, h5, h6, h7⟩ := hB
  rw [h1] at h3
  injection h3 with h3
  injection h3 with h3 _
  subst h3
  exact ⟨g, cs, h1, h2, h5, h4, h6, h7⟩

theorem ok_load (s : St K γ w h) (he : EnvOK K γ w h N a e) {t : TypeId} {x : Operand} {y : X} {agg : Bool} {sz : Nat} (hc : chkX x y = true) (hagg : aggT P t = some agg) (hsz : szT P t = some sz) {v : V} {h' : Heap}
    (hev : evOp e h (.load agg sz y) = some (v, h')) : Ok1 P (.load t x) o a K γ w h v h' := by
  have hx := chkX_ok hc he
  have fin : ∀ {g o' : Nat} {cs : List V}, a.eval x = .pointer (some ⟨g, o', none⟩) → cs.length = sz → (∀ (c : Nat) (y : V), cs[c]? = some y → ∃ u, w.cell? ⟨g, o' + c, none⟩ = some u ∧ VC K γ w h u y) → (ofCells agg cs).map (fun v => (v, h)) = some (v, h') →
      Ok1 P (.load t x) o a K γ w h v h' := by
    intro g o' cs hax hl hcs hv
    obtain ⟨v', hv', hvv⟩ := Option.map_eq_some_iff.1 hv
    injection hvv with h1 h2
    subst h1 h2
    obtain ⟨u, hu, hvt⟩ := run_load_ok (K := K) (γ := γ) (h := h) hagg hsz hl hcs hv'
    refine ⟨u, w, γ, .inl ?_, Go2.refl s, hvt⟩
    simp [execOp, Instr.loadAt, Instr.sureAddr, hax, hu]
  simp only [evOp] at hev
  split at hev
  · rename_i cs hyx
    rw [hyx] at hx
    obtain ⟨ad, hax, g, o', rfl, hg, hcs⟩ := hx.fp
    split at hev
    · rename_i hl
      exact fin hax hl (fun c y hy => (hcs c y hy).imp fun u hu => ⟨hu.1, rep_vc hu.2⟩) hev
    · cases hev
  · rename_i id st el off hyx
    rw [hyx] at hx
    obtain ⟨ad, hax, hp⟩ := hx.ptr
    split at hev
    · rename_i st' sz' cont hb
      split at hev
      · rename_i hst
        split at hev
        · rename_i cs hcs
          split at hev
          · rename_i ys hys
            obtain ⟨g, o', cells, x', h1, rfl, h3, h4, h5, h6, h7, _, _, h8⟩ := ptr_rows s hp hb hst
            obtain ⟨h9, h10, h11⟩ := sub_spec hys
            refine fin hax h9 (fun c y hy => ?_) hev
            obtain ⟨hcy, _⟩ := h11 c y hy
            obtain ⟨u, hu, hr⟩ := h8 el (off + c) cs y hcs hcy
            refine ⟨u, ?_, rep_vc hr⟩
            rw [h3.cell, ← hu]
            congr 1
            omega
          · cases hev
        · cases hev
      · cases hev
    · rename_i cells hb
      split at hev
      · rename_i ys hys
        obtain ⟨g, cs, h1, rfl, h3, h4, h5, h6⟩ := ptr_box s hp hb
        obtain ⟨h9, h10, h11⟩ := sub_spec hys
        refine fin hax h9 (fun c y hy => ?_) hev
        obtain ⟨hcy, _⟩ := h11 c y hy
        obtain ⟨u, hu, hr⟩ := h6 (off + c) y hcy
        exact ⟨u, (h3.cell _).trans hu, hr⟩
      · cases hev
    · rename_i st' sz' cont hb
      split at hev
      · rename_i hst
        split at hev
        · rename_i cs hcs
          split at hev
          · rename_i ys hys
            obtain ⟨g, o', cells, x', h1, rfl, h3, h4, h5, h6, h7, _, _, h8⟩ := ptr_nest s hp hb hst
            obtain ⟨h9, h10, h11⟩ := sub_spec hys
            refine fin hax h9 (fun c y hy => ?_) hev
            obtain ⟨hcy, _⟩ := h11 c y hy
            obtain ⟨u, hu, hr⟩ := h8 el (off + c) cs y hcs hcy
            refine ⟨u, ?_, vr_vc hr⟩
            rw [h3.cell, ← hu]
            congr 1
            omega
          · cases hev
        · cases hev
      · cases hev
    · cases hev
  · cases hev
end
end Go.Proofs.Ytfbjbkkcilhgjaa.PE
