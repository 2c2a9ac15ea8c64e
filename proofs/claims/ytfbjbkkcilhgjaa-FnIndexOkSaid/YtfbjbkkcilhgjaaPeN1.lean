/- Each operation of the evaluator is the machine's: rows of rows, made, told by a literal, appended to. -/
import Derived.Test.YtfbjbkkcilhgjaaPeS
set_option linter.unusedVariables false
namespace Go.Proofs.Ytfbjbkkcilhgjaa.PE
open Go.RowKit

section
variable {P : Program} {o : Oper} {a : Act} {K : Ct} {γ γ' : Gh} {w : World} {h : Heap} {N : Nat} {e : Env}

theorem VR.one {v : Value} {x : V} (hv : VR K γ w h v x) : v.oneCell' = true := (vr_vc hv).one

/-- An empty row of rows of one's own, no memory yet. -/
theorem ok_nilnest (s : St K γ w h) {sz : Nat} (hz : 0 < sz) {op : Go.Op} (ho : op = .move (.const (.slice none 0 0)) ∨ op = .assign (.const (.slice none 0 0))) :
    Ok1 P op o a K γ w h (.ref h.length 0 0 0 false) (h ++ [.nest 0 sz []]) := by
  have g := st_add (w' := w) s (.nest 0 sz []) none (Below.refl _ _) (fun _ _ e => by cases e) (fun _ => ⟨hz, (fun x hx => by cases hx), by rw [upd_self]⟩)
  rw [upd_none_self s] at g
  refine ⟨.slice none 0 0, w, γ, .inl ?_, Go2.of g, none, 0, rfl, Nat.le_refl _, (fun e => by cases e), ?_⟩
  · rcases ho with rfl | rfl <;> rfl
  · rw [List.getElem?_concat_length]
    refine ⟨Nat.le_refl _, fun _ => ⟨by simp, ?_⟩⟩
    rw [s.dom _ (Nat.le_refl _)]

/-- A new row of rows. -/
theorem nest_new {γ : Gh} {h : Heap} (s : St K γ w h) {w' : World} (hb : Below w.heap.size w w') {cells : Array Value} {t : TypeId} (hcell : w'.heap[w.heap.size]? = some (.cells cells t (0, 0))) {sz : Nat} (hz : 0 < sz) {xs : List (List V)} (hl : ∀ x ∈ xs, x.length = sz) (hsz : xs.length * sz ≤ cells.size)
    (hc : ∀ (j c : Nat) (x : List V) (y : V), xs[j]? = some x → x[c]? = some y → ∃ u, cells[j * sz + c]? = some u ∧ VR K γ w h u y) {cap : Nat} (hcap : xs.length ≤ cap) (hcs : cap * sz ≤ cells.size) :
    (Go2 K γ w h γ w' h ∧ VT K γ w' h (.slice (some ⟨w.heap.size, 0, none⟩) xs.length cap) (.nsl sz xs)) ∧
    (∀ clip, (clip = true → cap = xs.length) → ∃ γ', Go2 K γ w h γ' w' (h ++ [.nest 0 sz xs]) ∧ VT K γ' w' (h ++ [.nest 0 sz xs]) (.slice (some ⟨w.heap.size, 0, none⟩) xs.length cap) (.ref h.length 0 0 xs.length clip)) := by
  have hsize : w.heap.size < w'.heap.size := (Array.getElem?_eq_some_iff.1 hcell).1
  have isb : IsBlk w' w.heap.size cells := ⟨t, hcell⟩
  constructor
  · have g := st_grow s hb
    refine ⟨Go2.of g, _, _, rfl, hcap, hz, hl, fun _ => ⟨w.heap.size, 0, rfl, ⟨hsize, fun hlt => absurd hlt (by have := s.size; omega), fun id g' o' hg => by have := (s.owned hg).2; omega⟩, fun j c x y hx hy => ?_⟩⟩
    obtain ⟨u, hu, hr⟩ := hc j c x y hx hy
    exact ⟨u, by rw [isb.cell]; simpa using hu, g.2.vr hr⟩
  · intro clip hclip
    have g := st_add s (.nest 0 sz xs) (some (w.heap.size, 0)) hb (fun g o e => by injection e with e; injection e with e _; omega) (fun tr => by
      refine ⟨hz, hl, ?_⟩
      rw [upd_self]
      refine ⟨s.size, cells, isb, by omega, fun j c x y hx hy => ?_⟩
      obtain ⟨u, hu, hr⟩ := hc j c x y hx hy
      exact ⟨u, by simpa using hu, tr.vr hr⟩)
    refine ⟨_, Go2.of g, some ⟨w.heap.size, 0, none⟩, cap, rfl, hcap, hclip, ?_⟩
    rw [List.getElem?_concat_length]
    refine ⟨Nat.le_refl _, fun _ => ⟨by simp, ?_⟩⟩
    rw [upd_self]
    exact fun _ => ⟨by simp, cells, isb, by simpa using hcs⟩

theorem ok_mkn (s : St K γ w h) (he : EnvOK K γ w h N a e) {t e' : TypeId} {l c : Operand} {n' : X} {sz : Nat} {zero : List V} (hl : chkX l n' = true) (hc : chkX c n' = true) (ht : sliceT P t = some e') (hsz : szT P e' = some sz) (hpos : 0 < sz) (hzero : zeroIs P e' zero = true) (hsm : smallT P e' = true)
    (hpure : ∀ u ∈ zero, okN u = true)
    {v : V} {h' : Heap} (hev : evOp e h (.mkn sz zero n') = some (v, h')) : Ok1 P (.makeSlice t l c) o a K γ w h v h' := by
  have hlv := chkX_ok hl he
  have hcv := chkX_ok hc he
  simp only [evOp] at hev
  split at hev
  · rename_i m hm
    rw [hm] at hlv hcv
    split at hev
    · rename_i hcond
      obtain ⟨h0, h1, h2⟩ := hcond
      injection hev with hev
      injection hev with e1 e2
      subst e1 e2
      obtain ⟨n, rfl⟩ := Int.eq_ofNat_of_zero_le h0
      simp only [Int.toNat_natCast]
      have hn : n < 4294967296 := by unfold small at h1; omega
      unfold zeroIs at hzero
      split at hzero
      · rename_i z hzt
        simp only [Bool.and_eq_true, decide_eq_true_eq] at hzero
        obtain ⟨c1, c2⟩ := constCs_ok (K := K) (γ := γ) (w := w) (h := h) hzero.1
        have hzs : z.cells.size = sz := by simp at c1; omega
        obtain ⟨ie, hie, hby⟩ : ∃ i, P.info? e' = some i ∧ i.bytes ≤ 1024 := by
          unfold smallT at hsm
          split at hsm
          · rename_i i hi; exact ⟨i, hi, by simpa using hsm⟩
          · cases hsm
        have hies : ie.size = sz := by
          unfold szT at hsz
          rw [hie] at hsz
          exact Option.some.inj hsz
        have hiz : ie.zero = some z := by
          unfold zeroT at hzt
          rw [hie] at hzt
          exact hzt
        have hbn : (ie.bytes : Int) * (n : Int) ≤ 281474976710656 := by
          have h5 : (ie.bytes : Int) * (n : Int) ≤ 1024 * (n : Int) := Int.mul_le_mul_of_nonneg_right (by omega) (by omega)
          omega
        have hrun := run_make (P := P) w t e' ie z (of_sliceT ht) hie hiz .i64 .i64 n n (by omega) (Int.le_refl _) hbn (by omega)
        simp only [Int.toNat_natCast, hies] at hrun
        have hb : Below w.heap.size w (w.alloc (.cells (madeCells z.cells (n * sz)) e')) := (Below.refl _ _).alloc (Nat.le_refl _) _
        have hms : (madeCells z.cells (n * sz)).size = n * sz := by simp [madeCells]
        have hnew := nest_new s hb (heap_alloc_new w _) hpos (xs := List.replicate n zero) (fun x hx => by rw [List.eq_of_mem_replicate hx]; exact h2) (by rw [List.length_replicate, hms]; exact Nat.le_refl _) (fun j c x y hx hy => by
          have hj : j < n := by
            have := (List.getElem?_eq_some_iff.1 hx).1
            simpa using this
          have hx0 : x = zero := by
            rw [List.getElem?_replicate, if_pos hj] at hx
            exact (Option.some.inj hx).symm
          subst hx0
          have hcl : c < sz := by
            have := (List.getElem?_eq_some_iff.1 hy).1
            omega
          obtain ⟨u, hu, hv⟩ := c2 c y hy
          refine ⟨u, ?_, vr_of_vc (hpure y (List.mem_of_getElem? hy)) hv⟩
          rw [show madeCells z.cells (n * sz) = (Array.range (n * sz)).map (z.cells[· % z.cells.size]!) from rfl, made_get hzs hj hcl]
          simpa using hu) (cap := n) (by simp) (by rw [hms]; exact Nat.le_refl _)
        obtain ⟨γ', g2, hv⟩ := hnew.2 true (fun _ => by simp)
        rw [List.length_replicate] at hv
        refine ⟨_, _, γ', .inl ?_, g2, hv⟩
        simp only [execOp, hlv.int, hcv.int, Sem.run_bind, hrun, Result.andThen_ok]
        rfl
      · cases hzero
    · cases hev
  · cases hev

theorem elemsN_spec {sz : Nat} : ∀ {vs : List V} {xs : List (List V)}, elemsN sz vs = some xs → xs.length = vs.length ∧ ∀ (i : Nat) (x : List V), xs[i]? = some x → ∃ v, vs[i]? = some v ∧ elemN sz v = some x
  | [], xs, hp => by simp [elemsN] at hp; subst hp; exact ⟨rfl, fun i c hc => by simp at hc⟩
  | v :: vs, xs, hp => by
    unfold elemsN at hp
    split at hp
    · rename_i d ds h1 h2
      injection hp with hp
      subst hp
      obtain ⟨h3, h4⟩ := elemsN_spec h2
      refine ⟨by simp [h3], fun i x hx => ?_⟩
      cases i with
      | zero => simp at hx; subst hx; exact ⟨v, rfl, h1⟩
      | succ i => simp at hx; simpa using h4 i x hx
    · cases hp

theorem elemN_ok {u : Value} {v : V} {sz : Nat} {x : List V} (hv : VT K γ w h u v) (hx : elemN sz v = some x) :
    u.cells.size = sz ∧ x.length = sz ∧ ∀ (c : Nat) (y : V), x[c]? = some y → ∃ q, u.cells[c]? = some q ∧ VR K γ w h q y := by
  unfold elemN at hx
  split at hx
  · rename_i cs hcs
    split at hx
    · rename_i hl
      injection hx with hx
      subst hx
      obtain ⟨h1, h2⟩ := cells_ok hv hcs
      refine ⟨by omega, hl.1, fun c y hy => ?_⟩
      obtain ⟨q, hq, hvq⟩ := h2 c y hy
      exact ⟨q, hq, vr_of_vc (List.all_eq_true.1 hl.2 y (List.mem_of_getElem? hy)) hvq⟩
    · cases hx
  · cases hx

theorem ok_mkns (s : St K γ w h) (he : EnvOK K γ w h N a e) {t e' : TypeId} {len : Nat} {ps : Array (Nat × Operand)} {sz : Nat} {qs : List X} (ht : sliceT P t = some e') (hsz : szT P e' = some sz) (hz : 0 < sz) (hzero : (zeroT P e').isSome = true) (hlen : len = qs.length) (hsmall : len * sz ≤ 2 ^ 24) (hc : chkElems 0 ps.toList qs = true)
    {v : V} {h' : Heap} (hev : evOp e h (.mkns sz qs) = some (v, h')) : Ok1 P (.buildSlice t len ps) o a K γ w h v h' := by
  simp only [evOp] at hev
  split at hev
  · rename_i xs hxs
    injection hev with hev
    injection hev with e1 e2
    subst e1 e2
    obtain ⟨c1, c2, c3⟩ := chkElems_ok he hc
    obtain ⟨x1, x2⟩ := elemsN_spec hxs
    have hxl : xs.length = len := by rw [x1, hlen]; simp
    generalize hvals : (ps.toList.map fun p => a.eval p.2) = vals at *
    have hvl : vals.length = len := by rw [← hvals, List.length_map, c1, hlen]
    have elem : ∀ (j : Nat) (u : Value), vals[j]? = some u → ∃ x, xs[j]? = some x ∧ u.cells.size = sz ∧ x.length = sz ∧ ∀ (c : Nat) (y : V), x[c]? = some y → ∃ q, u.cells[c]? = some q ∧ VR K γ w h q y := by
      intro j u hu
      have hj : j < len := by
        have := (List.getElem?_eq_some_iff.1 hu).1
        omega
      have hjx : j < xs.length := by omega
      obtain ⟨v, hv, hev'⟩ := x2 j _ (List.getElem?_eq_getElem hjx)
      simp only [List.getElem?_map, Option.map_eq_some_iff] at hv
      obtain ⟨q, hq, rfl⟩ := hv
      exact ⟨_, List.getElem?_eq_getElem hjx, elemN_ok (c3 j u q hu hq) hev'⟩
    obtain ⟨ie, hie, hies⟩ : ∃ i, P.info? e' = some i ∧ i.size = sz := by
      unfold szT at hsz
      exact Option.map_eq_some_iff.1 hsz
    obtain ⟨z, hzz⟩ := Option.isSome_iff_exists.1 hzero
    have hz2 : ie.zero = some z := by
      unfold zeroT at hzz
      rw [hie] at hzz
      exact hzz
    have hrep : ∀ x ∈ xs, x.length = sz := by
      intro x hx
      obtain ⟨j, hj⟩ := List.getElem?_of_mem hx
      have hjl : j < vals.length := by
        have := (List.getElem?_eq_some_iff.1 hj).1
        omega
      obtain ⟨x', hx', _, h2, _⟩ := elem j _ (List.getElem?_eq_getElem hjl)
      rw [hj] at hx'
      injection hx' with hx'
      subst hx'
      exact h2
    have hmain : ∃ cells, (Instr.buildSlice t len (ps.map fun (i, x) => (i, a.eval x))).run P w = .ok (.slice (some ⟨w.heap.size, 0, none⟩) len len) (w.alloc (.cells cells e')) ∧ cells.size = len * sz ∧
        ∀ j c u, vals[j]? = some u → c < sz → cells[j * sz + c]? = u.cells[c]? := by
      rcases Nat.eq_zero_or_pos len with h0 | h0
      · refine ⟨#[], ?_, by rw [h0]; simp, fun j c u hu => ?_⟩
        · have hps : ps.toList = [] := List.eq_nil_of_length_eq_zero (by rw [c1, ← hlen, h0])
          have hps' : ps = #[] := by apply Array.ext'; simpa using hps
          subst hps'
          simp [Instr.buildSlice, run_underlying (of_sliceT ht), sizeOf, typeInfo, hie, h0, Instr.fill, newRow]
          have hr0 : ∀ f : Nat → Value, Array.map f (Array.range 0) = #[] := fun f => by apply Array.ext'; simp
          rw [hr0]
        · have hv0 : vals = [] := List.eq_nil_of_length_eq_zero (by omega)
          subst hv0
          simp at hu
      · obtain ⟨cells', f1, f2, f3, f4⟩ := fill_elems sz vals 0 ((Array.range (len * sz)).map (z.cells[· % z.cells.size]!)) (fun v hv => by
          obtain ⟨j, hj⟩ := List.getElem?_of_mem hv
          obtain ⟨_, _, h1, _⟩ := elem j v hj
          exact h1) (by simp [hvl])
        refine ⟨cells', ?_, by rw [f2]; simp, fun j c u hu hcs => by simpa using f3 j c u hu hcs⟩
        subst hies
        refine run_buildSlice w t e' len _ cells' ie z (of_sliceT ht) hie hz2 (by omega) (fun e => by have := Nat.mul_pos h0 hz; omega) ?_
        rw [Array.toList_map]
        rw [show (ps.toList.map fun x => match x with | (i, x) => (i, a.eval x)) = ps.toList.map (fun p => (p.1, a.eval p.2)) from rfl, c2]
        exact f1
    obtain ⟨cells, hrun, hcsz, hcc⟩ := hmain
    have hb : Below w.heap.size w (w.alloc (.cells cells e')) := (Below.refl _ _).alloc (Nat.le_refl _) _
    have hnew := nest_new s hb (heap_alloc_new w _) hz hrep (by rw [hxl]; omega) (fun j c x y hx hy => by
      have hj : j < vals.length := by
        have := (List.getElem?_eq_some_iff.1 hx).1
        omega
      obtain ⟨x', hx', h1, h2, h3⟩ := elem j _ (List.getElem?_eq_getElem hj)
      rw [hx] at hx'
      injection hx' with hx'
      subst hx'
      obtain ⟨q, hq, hr⟩ := h3 c y hy
      have hcl : c < sz := by
        have := (List.getElem?_eq_some_iff.1 hy).1
        omega
      exact ⟨q, by rw [hcc j c _ (List.getElem?_eq_getElem hj) hcl]; exact hq, hr⟩) (cap := len) (by omega) (by omega)
    have hexec : (execOp a.eval { o with op := .buildSlice t len ps }).run P w = .ok (.value (.slice (some ⟨w.heap.size, 0, none⟩) len len)) (w.alloc (.cells cells e')) := by
      simp only [execOp, Sem.run_bind, hrun, Result.andThen_ok]
      rfl
    obtain ⟨g2, hv⟩ := hnew.1
    rw [hxl] at hv
    exact ⟨_, _, γ, .inl hexec, g2, hv⟩
  · cases hev

/-! ### append -/
def ElsN (K : Ct) (γ : Gh) (w : World) (h : Heap) (sz : Nat) (news : List Value) (ys : List (List V)) : Prop :=
  (∀ y ∈ ys, y.length = sz) ∧ ∀ (j c : Nat) (x : List V) (y : V), ys[j]? = some x → x[c]? = some y → ∃ u, news[j * sz + c]? = some u ∧ VR K γ w h u y
theorem rep_vr {v : Value} {x : V} (hr : Rep w (Im K γ w) v x) : VR K γ w h v x := by
  cases hr with
  | int k n => exact Rep.int k n
  | bool b => exact Rep.bool b
  | str s => exact Rep.str s
  | sl A n cap clip xs sz us h1 h2 h3 h4 h5 h6 h7 => exact Rep.sl A n cap clip xs sz us h1 h2 h3 h4 h5 h6 h7
theorem Els.n {sz : Nat} {news : List Value} {ys : List (List V)} (he : Els K γ w sz news ys) : ElsN K γ w h sz news ys :=
  ⟨he.1, fun j c x y hx hy => (he.2 j c x y hx hy).imp fun u hu => ⟨hu.1, rep_vr hu.2⟩⟩

theorem src_cells {A : Option Addr} {cap sz : Nat} {xs : List (List V)} (h3 : ∀ x ∈ xs, x.length = sz) (h5 : 0 < xs.length → ∃ g o', A = some ⟨g, o', none⟩ ∧ ∀ (j c : Nat) (x : List V) (y : V), xs[j]? = some x → x[c]? = some y → ∃ u, w.cell? ⟨g, o' + j * sz + c, none⟩ = some u ∧ VR K γ w h u y) :
    ∃ news, Src P w sz (.slice A xs.length cap) xs.length news ∧ ElsN K γ w h sz news xs := by
  have hel : ∀ j c, j < xs.length → c < sz → ∃ x y, xs[j]? = some x ∧ x[c]? = some y := by
    intro j c hj hc
    have := h3 _ (List.getElem_mem hj)
    exact ⟨xs[j], (xs[j])[c]'(by omega), List.getElem?_eq_getElem hj, List.getElem?_eq_getElem _⟩
  rcases Nat.eq_zero_or_pos xs.length with h0 | h0
  · have hx0 : xs = [] := List.eq_nil_of_length_eq_zero h0
    subst hx0
    refine ⟨[], ⟨fun w' => rfl, fun w' hw => ?_, by simp, fun v hv => by cases hv⟩, h3, fun j c x y hx => by simp at hx⟩
    cases A with
    | none => exact run_firstCells_none w' sz 0 0 cap
    | some ad => exact run_firstCells_some w' sz 0 ad 0 cap [] (by simp) (fun j v hj => by simp at hj)
  · obtain ⟨g, o', rfl, hc⟩ := h5 h0
    let us : Nat → Nat → Value := fun j c => (w.cell? ⟨g, o' + j * sz + c, none⟩).getD undef
    have key : ∀ (j c : Nat) (x : List V) (y : V), xs[j]? = some x → x[c]? = some y → w.cell? ⟨g, o' + j * sz + c, none⟩ = some (us j c) ∧ VR K γ w h (us j c) y := by
      intro j c x y hx hy
      obtain ⟨u, hu, hr⟩ := hc j c x y hx hy
      have : us j c = u := by simp [us, hu]
      rw [this]
      exact ⟨hu, hr⟩
    refine ⟨flat xs.length sz us, ⟨fun w' => rfl, fun w' hw => ?_, flat_length _ _ _, fun v hv => ?_⟩, h3, fun j c x y hx hy => ?_⟩
    · refine run_firstCells_some w' sz xs.length ⟨g, o', none⟩ xs.length cap _ (flat_length _ _ _) (fun k v hk => ?_)
      obtain ⟨k1, k2, k3, k4⟩ := flat_inv us hk
      obtain ⟨x, y, hx, hy⟩ := hel _ _ k1 k2
      have := (key _ _ x y hx hy).1
      rw [add0, cell_heap hw, k3, ← this]
      congr 2
      omega
    · obtain ⟨k, hk⟩ := List.getElem?_of_mem hv
      obtain ⟨k1, k2, k3, k4⟩ := flat_inv us hk
      obtain ⟨x, y, hx, hy⟩ := hel _ _ k1 k2
      rw [k3]
      exact (key _ _ x y hx hy).2.one
    · have hj := (List.getElem?_eq_some_iff.1 hx).1
      have hc' : c < sz := by
        have e1 := (List.getElem?_eq_some_iff.1 hy).1
        have e2 := h3 x (List.mem_of_getElem? hx)
        omega
      exact ⟨us j c, flat_get us hj hc', (key j c x y hx hy).2⟩

/-- What is appended. -/
theorem src_listN {v : Value} {x : V} {xs : List (List V)} {sz : Nat} (hv : VT K γ w h v x) (hl : listN sz x = some xs) : ∃ news, Src P w sz v xs.length news ∧ ElsN K γ w h sz news xs := by
  unfold listN at hl
  split at hl
  · rename_i sz' xs'
    split at hl
    · rename_i hz
      subst hz
      injection hl with hl
      subst hl
      obtain ⟨A, cap, rfl, h1, h2, h3, h4⟩ := hv
      exact src_cells h3 (fun hn => by
        obtain ⟨g, o', e1, _, hc⟩ := h4 hn
        exact ⟨g, o', e1, hc⟩)
    · cases hl
  · rename_i clip sz' xs'
    split at hl
    · rename_i hz
      subst hz
      injection hl with hl
      subst hl
      have hr := hv.sl
      obtain ⟨A, cap, rfl, _⟩ := rep_slice hr
      cases hr with
      | sl _ _ _ _ _ _ us h1 h2 h3 h4 h5 h6 h7 =>
        exact src_cells h5 (fun hn => by
          obtain ⟨g, o', e1, _, hc⟩ := h6 hn
          exact ⟨g, o', e1, fun j c x y hx hy => ⟨_, hc j c x y hx hy, rep_vr (h7 j c x y hx hy)⟩⟩)
    · cases hl
  · cases hl

theorem elsN_append {sz : Nat} {olds news : List Value} {xs ys : List (List V)} (h1 : ElsN K γ w h sz olds xs) (h2 : ElsN K γ w h sz news ys) (hl : olds.length = xs.length * sz) : ElsN K γ w h sz (olds ++ news) (xs ++ ys) := by
  refine ⟨fun y hy => ?_, fun j c x y hx hy => ?_⟩
  · rcases List.mem_append.1 hy with hy | hy
    · exact h1.1 y hy
    · exact h2.1 y hy
  · rcases Nat.lt_or_ge j xs.length with hj | hj
    · rw [List.getElem?_append_left hj] at hx
      obtain ⟨u, hu, hr⟩ := h1.2 j c x y hx hy
      refine ⟨u, ?_, hr⟩
      rw [List.getElem?_append_left (List.getElem?_eq_some_iff.1 hu).1]
      exact hu
    · rw [List.getElem?_append_right hj] at hx
      obtain ⟨u, hu, hr⟩ := h2.2 _ c x y hx hy
      refine ⟨u, ?_, hr⟩
      have hjs : xs.length * sz ≤ j * sz := Nat.mul_le_mul_right _ hj
      rw [List.getElem?_append_right (by omega), hl, ← hu]
      congr 1
      rw [Nat.sub_mul]
      omega

theorem grown_cellsN {sz : Nat} {olds news : List Value} {xs ys : List (List V)} {z : Value} {c : Nat} {e' : TypeId} (hzs : z.cells.size = sz) (h1 : ElsN K γ w h sz olds xs) (h2 : ElsN K γ w h sz news ys) (hl : olds.length = xs.length * sz) (hl2 : news.length = ys.length * sz) (hc : xs.length + ys.length ≤ c) :
    (w.drew.alloc (.cells (olds.toArray ++ news.toArray ++ Builtin.zeroCells z.cells (c - (xs.length + ys.length))) e')).heap[w.heap.size]? = some (.cells (olds.toArray ++ news.toArray ++ Builtin.zeroCells z.cells (c - (xs.length + ys.length))) e' (0, 0)) ∧
    (olds.toArray ++ news.toArray ++ Builtin.zeroCells z.cells (c - (xs.length + ys.length))).size = c * sz ∧
    ∀ (j k : Nat) (x : List V) (y : V), (xs ++ ys)[j]? = some x → x[k]? = some y → ∃ u, (olds.toArray ++ news.toArray ++ Builtin.zeroCells z.cells (c - (xs.length + ys.length)))[j * sz + k]? = some u ∧ VR K γ w h u y := by
  refine ⟨heap_alloc_new w.drew _, ?_, fun j k x y hx hy => ?_⟩
  · simp only [Array.size_append, List.size_toArray, size_zeroCells, hzs, hl, hl2, ← Nat.add_mul]
    congr 1
    omega
  · obtain ⟨u, hu, hr⟩ := (elsN_append h1 h2 hl).2 j k x y hx hy
    refine ⟨u, ?_, hr⟩
    have hlt := (List.getElem?_eq_some_iff.1 hu).1
    rw [Array.getElem?_append_left (by simpa using hlt), ← hu]
    simp

theorem ok_appendN (s : St K γ w h) {t0 t1 ty e' : TypeId} {sz : Nat} (ht : sliceT P t0 = some e') (h1 : appT P t1 = true) (hs : szT P e' = some sz) (hzero : zszT P e' = some sz) (hsm : smallT P e' = true)
    {vx vy : Value} {x : V} (hvx : VT K γ w h vx x) {ys : List (List V)} {news : List Value} (hy : Src P w sz vy ys.length news) (hye : ElsN K γ w h sz news ys) {v : V} {h' : Heap} (hev : appendN h sz x ys = some (v, h')) :
    ∃ u w' γ', (Builtin.append_ #[t0, t1] ty #[vx, vy]).run P w = .ok u w' ∧ Go2 K γ w h γ' w' h' ∧ VT K γ' w' h' u v := by
  obtain ⟨z, hzt, hzs⟩ : ∃ z, zeroT P e' = some z ∧ z.cells.size = sz := Option.map_eq_some_iff.1 hzero
  have growCase : ∀ {A : Option Addr} {len cap : Nat} {xs : List (List V)} {olds : List Value}, Src P w sz (.slice A len cap) len olds → xs.length = len → cap < len + ys.length → len + ys.length < small →
      (Builtin.append_ #[t0, t1] ty #[.slice A len cap, vy]).run P w = .ok (.slice (some ⟨w.heap.size, 0, none⟩) (xs ++ ys).length (grownCap w (len + ys.length) cap e')) (w.drew.alloc (.cells (olds.toArray ++ news.toArray ++ Builtin.zeroCells z.cells (grownCap w (len + ys.length) cap e' - (xs.length + ys.length))) e')) ∧ (xs ++ ys).length ≤ grownCap w (len + ys.length) cap e' := by
    intro A len cap xs olds ho hl hcap hlt
    have := run_append_grow1 (ty := ty) ht h1 hs hzt hsm hy ho hcap (by unfold small at hlt; exact hlt)
    subst hl
    rw [List.length_append]
    exact ⟨this, grownCap_ge w _ cap e'⟩
  have freshCase : ∀ {A : Option Addr} {len cap : Nat} {xs : List (List V)} {olds : List Value}, vx = .slice A len cap → 0 < sz → Src P w sz (.slice A len cap) len olds → ElsN K γ w h sz olds xs → xs.length = len → cap < len + ys.length → len + ys.length < small →
      ∃ u w' γ', (Builtin.append_ #[t0, t1] ty #[vx, vy]).run P w = .ok u w' ∧ Go2 K γ w h γ' w' (h ++ [.nest 0 sz (xs ++ ys)]) ∧ VT K γ' w' (h ++ [.nest 0 sz (xs ++ ys)]) u (.ref h.length 0 0 (len + ys.length) false) := by
    intro A len cap xs olds hvx' hpos ho he hl hcap hlt
    subst hvx'
    obtain ⟨hrun, hge⟩ := growCase ho hl hcap hlt
    obtain ⟨g1, g2, g3⟩ := grown_cellsN (w := w) (c := grownCap w (len + ys.length) cap e') (e' := e') hzs he hye (by rw [ho.size, hl]) hy.size (by rw [← List.length_append]; exact hge)
    have hnew := nest_new s (below_grow w _) g1 hpos (elsN_append he hye (by rw [ho.size, hl])).1 (by rw [g2]; exact Nat.mul_le_mul_right _ hge) g3 hge (by rw [g2]; exact Nat.le_refl _)
    obtain ⟨γ', g4, hv⟩ := hnew.2 false (fun e => by cases e)
    rw [show len + ys.length = (xs ++ ys).length by rw [List.length_append, hl]]
    rw [show len + ys.length = (xs ++ ys).length by rw [List.length_append, hl]] at hrun g4 hv
    exact ⟨_, _, γ', hrun, g4, hv⟩
  unfold appendN at hev
  split at hev
  · rename_i clip sz' xs
    obtain ⟨A, cap, rfl, g1, g2, g3⟩ := rep_slice hvx.sl
    split at hev
    · injection hev with hev
      injection hev with e1 e2
      subst e1 e2
      exact ⟨_, w, γ, run_append_room0 ht h1 hs hy g1, Go2.refl s, hvx⟩
    · rename_i y0 ys0
      split at hev
      · rename_i hcond
        simp only [Bool.and_eq_true, decide_eq_true_eq] at hcond
        obtain ⟨⟨rfl, rfl⟩, hlt⟩ := hcond
        injection hev with hev
        injection hev with e1 e2
        subst e1 e2
        obtain ⟨A', cap', olds, e3, _, hpos, ho, he⟩ := src_of (P := P) s hvx (xs := xs) (sz := sz') rfl rfl
        have hc := g2 rfl
        exact freshCase rfl hpos ho he.n rfl (by simp; omega) hlt
      · cases hev
  · rename_i id st off len clip
    obtain ⟨A, cap, rfl, g1, g2, hp⟩ := hvx.ref
    split at hev
    · rename_i st' sz' cont hb
      rw [hb] at hp
      split at hev
      · rename_i hcond
        obtain ⟨rfl, rfl, rfl, rfl, hlt⟩ := hcond
        obtain ⟨_, hp⟩ := hp
        obtain ⟨k1, k2⟩ := hp rfl
        obtain ⟨hpos, hl0, hB⟩ := s.blk id _ hb
        obtain ⟨olds, ho, he⟩ : ∃ olds, Src P w sz' (.slice A cont.length cap) cont.length olds ∧ ElsN K γ w h sz' olds cont := by
          cases hg : γ id with
          | none =>
            rw [hg] at hB
            subst hB
            exact src_cells (xs := []) hl0 (fun hn => absurd hn (by simp))
          | some p =>
            obtain ⟨g, o'⟩ := p
            rw [hg] at hB k2
            obtain ⟨_, cs, hcs, _, hrep⟩ := hB
            refine src_cells hl0 (fun hn => ?_)
            obtain ⟨e1, _⟩ := k2 (by omega)
            refine ⟨g, o', by simpa using e1, fun j c x y hx hy => ?_⟩
            obtain ⟨u, hu, hr⟩ := hrep j c x y hx hy
            exact ⟨u, (hcs.cell _).trans hu, hr⟩
        split at hev
        · injection hev with hev
          injection hev with e1 e2
          subst e1 e2
          exact ⟨_, w, γ, run_append_room0 ht h1 hs hy g1, Go2.refl s, hvx⟩
        · rename_i y0 ys0
          split at hev
          · rename_i hclip
            injection hev with hev
            injection hev with e1 e2
            subst e1 e2
            have hc := g2 hclip
            exact freshCase rfl hpos ho he rfl (by simp; omega) hlt
          · injection hev with hev
            injection hev with e1 e2
            subst e1 e2
            generalize hys : y0 :: ys0 = ys at *
            have hn : 0 < ys.length := by rw [← hys]; simp
            have hst2 : st' < st' + ys.length := by omega
            generalize hst3 : st' + ys.length = st2 at *
            have hlt' : id < h.length := (List.getElem?_eq_some_iff.1 hb).1
            have hkeep : ∀ γ1 w1, Keeps K γ w γ1 w1 id (.nest st' sz' cont) (.nest st2 sz' (cont ++ ys)) := fun γ1 w1 => ⟨by omega, fun e => absurd e (by omega)⟩
            have hnl : (cont ++ ys).length = cont.length + ys.length := by rw [List.length_append]
            have hlen : ∀ x ∈ cont ++ ys, x.length = sz' := (elsN_append he hye (by rw [ho.size])).1
            have fin : ∀ {γ1 : Gh} {w1 : World} {g o1 cap1 : Nat} {cs : Array Value}, Go2 K γ w h γ1 w1 (h.set id (.nest st2 sz' (cont ++ ys))) → γ1 id = some (g, o1) → IsBlk w1 g cs → o1 + cap1 * sz' ≤ cs.size → cont.length + ys.length ≤ cap1 →
                VT K γ1 w1 (h.set id (.nest st2 sz' (cont ++ ys))) (.slice (some ⟨g, o1, none⟩) (cont.length + ys.length) cap1) (.ref id st2 0 (cont.length + ys.length) false) := by
              intro γ1 w1 g o1 cap1 cs hgo hg hblk hfit hcap1
              refine ⟨_, _, rfl, hcap1, fun e => (by cases e), ?_⟩
              rw [List.getElem?_set_self hlt']
              refine ⟨Nat.le_refl _, fun _ => ⟨by omega, ?_⟩⟩
              rw [hg]
              exact fun _ => ⟨by simp, cs, hblk, by simpa using hfit⟩
            by_cases hroom : cont.length + ys.length ≤ cap
            · cases hg : γ id with
              | none => rw [hg] at k2; omega
              | some p =>
                obtain ⟨g, o'⟩ := p
                rw [hg] at k2
                obtain ⟨e5, cs, ⟨et, hblk⟩, hfit⟩ := k2 (by omega)
                simp only [Nat.zero_mul, Nat.add_zero, Nat.zero_add] at e5 hfit
                subst e5
                have hfit3 : o' + (cont.length + ys.length) * sz' ≤ cs.size := by
                  have : (cont.length + ys.length) * sz' ≤ cap * sz' := Nat.mul_le_mul_right _ hroom
                  omega
                have hrun := run_append_room1 (ty := ty) ht h1 hs hy hroom hblk hfit3
                rw [hg] at hB
                obtain ⟨hg0, cs', hcs', hsz0, hrep0⟩ := hB
                have := hcs'.unique ⟨et, hblk⟩
                subst this
                have hnew : o' + cont.length * sz' + news.length ≤ cs'.size := by rw [hy.size, Nat.add_assoc, ← Nat.add_mul]; exact hfit3
                have hblk' := setRow_heap w g cs' (over cs' (o' + cont.length * sz') news) et _ hblk
                have := st_upd s hb (b' := .nest st2 sz' (cont ++ ys)) (some (g, o')) (w' := w.setRow g (over cs' (o' + cont.length * sz') news)) (below_setRow s.below hg0) (by rw [setRow_size]; exact Nat.le_refl _)
                  (fun k _ hk => setRow_other w g k _ (fun e => hk o' (e ▸ hg)))
                  (fun g1 o1 e => by
                    injection e with e
                    injection e with e4 _
                    subst e4
                    exact .inl ⟨o', hg⟩)
                  (hkeep _ _)
                  (fun tr => by
                    refine ⟨hpos, hlen, ?_⟩
                    rw [upd_self]
                    refine ⟨hg0, _, ⟨et, hblk'⟩, by rw [over_size hnew, hnl]; exact hfit3, fun j c x y hx hy' => ?_⟩
                    have hcl : c < sz' := by
                      have e1 := (List.getElem?_eq_some_iff.1 hy').1
                      have e2 := hlen x (List.mem_of_getElem? hx)
                      omega
                    rw [over_get hnew]
                    rcases Nat.lt_or_ge j cont.length with hj | hj
                    · rw [List.getElem?_append_left (by omega)] at hx
                      obtain ⟨u, hu, hr⟩ := hrep0 j c x y hx hy'
                      refine ⟨u, ?_, tr.vr hr⟩
                      have hjl : (j + 1) * sz' ≤ cont.length * sz' := Nat.mul_le_mul_right _ hj
                      rw [Nat.add_mul] at hjl
                      rw [if_neg (by omega), ← hu]
                    · rw [List.getElem?_append_right (by omega)] at hx
                      obtain ⟨u, hu, hr⟩ := hye.2 (j - cont.length) c x y hx hy'
                      refine ⟨u, ?_, tr.vr hr⟩
                      have hul := (List.getElem?_eq_some_iff.1 hu).1
                      have hjl : cont.length * sz' ≤ j * sz' := Nat.mul_le_mul_right _ hj
                      rw [Nat.sub_mul] at hu hul
                      rw [if_pos (by omega), ← hu]
                      congr 1
                      omega)
                exact ⟨_, _, _, hrun, Go2.of this, fin (Go2.of this) (upd_self _ _ _) ⟨et, hblk'⟩ (by rw [over_size hnew]; exact hfit) hroom⟩
            · obtain ⟨hrun, hge⟩ := growCase ho rfl (by omega) hlt
              obtain ⟨q1, q2, q3⟩ := grown_cellsN (w := w) (c := grownCap w (cont.length + ys.length) cap e') (e' := e') hzs he hye (by rw [ho.size]) hy.size (by have h9 := hge; simp only [List.length_append] at h9; exact h9)
              have hb0 := below_grow w (.cells (olds.toArray ++ news.toArray ++ Builtin.zeroCells z.cells (grownCap w (cont.length + ys.length) cap e' - (cont.length + ys.length))) e')
              have := st_upd s hb (b' := .nest st2 sz' (cont ++ ys)) (some (w.heap.size, 0)) (s.below.trans (hb0.mono s.size)) hb0.size (fun k hk _ => hb0.block k hk)
                (fun g1 o1 e => by
                  injection e with e
                  injection e with e4 _
                  exact .inr (by omega))
                (hkeep _ _)
                (fun tr => by
                  refine ⟨hpos, hlen, ?_⟩
                  rw [upd_self]
                  refine ⟨s.size, _, ⟨e', q1⟩, by rw [q2]; simpa using Nat.mul_le_mul_right sz' hge, fun j c x y hx hy' => ?_⟩
                  obtain ⟨u, hu, hr⟩ := q3 j c x y hx hy'
                  exact ⟨u, by simpa using hu, tr.vr hr⟩)
              rw [hnl] at hrun
              exact ⟨_, _, _, hrun, Go2.of this, fin (Go2.of this) (upd_self _ _ _) ⟨e', q1⟩ (by rw [q2]; simp) (by have h9 := hge; simp only [List.length_append] at h9 ⊢; exact h9)⟩
      · cases hev
    · cases hev
  · cases hev

theorem ok_appn (s : St K γ w h) (he : EnvOK K γ w h N a e) {t0 t1 e' : TypeId} {x y : Operand} {x' y' : X} {sz : Nat} (hx : chkX x x' = true) (hy : chkX y y' = true) (ht : sliceT P t0 = some e') (h1 : appT P t1 = true) (hs : szT P e' = some sz) (hzero : zszT P e' = some sz) (hsm : smallT P e' = true)
    {v : V} {h' : Heap} (hev : evOp e h (.appn sz x' y') = some (v, h')) : Ok1 P (.call { callee := .builtin .append, args := #[x, y], argTypes := #[t0, t1] }) o a K γ w h v h' := by
  simp only [evOp] at hev
  split at hev
  · rename_i ys hys
    obtain ⟨news, hsrc, hels⟩ := src_listN (P := P) (chkX_ok hy he) hys
    obtain ⟨u, w', γ', q1, q2, q3⟩ := ok_appendN (ty := o.type) s ht h1 hs hzero hsm (chkX_ok hx he) hsrc hels hev
    refine ⟨u, w', γ', .inl ?_, q2, q3⟩
    simp [execOp, resolve, invoke, builtin, q1]
  · cases hev
end
end Go.Proofs.Ytfbjbkkcilhgjaa.PE
