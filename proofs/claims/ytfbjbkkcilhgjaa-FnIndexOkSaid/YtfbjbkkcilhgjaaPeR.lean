/- Each operation of the evaluator is the machine's: append. -/
import Derived.Test.YtfbjbkkcilhgjaaPeM
namespace Go.Proofs.Ytfbjbkkcilhgjaa.PE
open Go.RowKit

/-- A row's cells, one element behind the other. -/
def flat (n sz : Nat) (us : Nat → Nat → Value) : List Value := (List.range (n * sz)).map fun k => us (k / sz) (k % sz)
theorem flat_length (n sz : Nat) (us : Nat → Nat → Value) : (flat n sz us).length = n * sz := by simp [flat]
theorem flat_get {n sz : Nat} (us : Nat → Nat → Value) {j c : Nat} (hj : j < n) (hc : c < sz) : (flat n sz us)[j * sz + c]? = some (us j c) := by
  have hlt : j * sz + c < n * sz := by
    have : (j + 1) * sz ≤ n * sz := Nat.mul_le_mul_right _ hj
    rw [Nat.add_mul] at this
    omega
  have h1 : (j * sz + c) / sz = j := by
    rw [Nat.mul_comm, Nat.mul_add_div (by omega), Nat.div_eq_of_lt hc, Nat.add_zero]
  have h2 : (j * sz + c) % sz = c := by rw [Nat.mul_comm, Nat.mul_add_mod, Nat.mod_eq_of_lt hc]
  simp [flat, hlt, h1, h2]
theorem flat_inv {n sz : Nat} (us : Nat → Nat → Value) {k : Nat} {v : Value} (hk : (flat n sz us)[k]? = some v) : k / sz < n ∧ k % sz < sz ∧ v = us (k / sz) (k % sz) ∧ k = k / sz * sz + k % sz := by
  have hlt : k < n * sz := by
    have := (List.getElem?_eq_some_iff.1 hk).1
    simpa [flat] using this
  have hpos : 0 < sz := by
    rcases Nat.eq_zero_or_pos sz with h | h
    · subst h; simp at hlt
    · exact h
  simp [flat, hlt] at hk
  refine ⟨(Nat.div_lt_iff_lt_mul hpos).2 hlt, Nat.mod_lt _ hpos, hk.symm, ?_⟩
  have := Nat.div_add_mod k sz
  rw [Nat.mul_comm] at this
  omega

section
variable {P : Program} {o : Oper} {a : Act} {K : Ct} {γ γ' : Gh} {w : World} {h : Heap} {N : Nat} {e : Env}

/-- A source of append: its length, and its cells. -/
structure Src (P : Program) (w : World) (sz : Nat) (x : Value) (n : Nat) (news : List Value) : Prop where
  len : ∀ w' : World, (Builtin.lenOf x).run P w' = .ok n w'
  cells : ∀ w' : World, w'.heap = w.heap → (Builtin.firstCells sz n x).run P w' = .ok news.toArray w'
  size : news.length = n * sz
  one : ∀ v ∈ news, v.oneCell' = true

def zszT (P : Program) (t : TypeId) : Option Nat := (zeroT P t).map (·.cells.size)
def appT (P : Program) (t : TypeId) : Bool := match P.underlying t with
  | some (.slice _) => true
  | some .string => true
  | _ => false

theorem run_append_room0 {t0 t1 ty e' : TypeId} {sz : Nat} (ht : sliceT P t0 = some e') (h1 : appT P t1 = true) (hs : szT P e' = some sz) {A : Option Addr} {len cap : Nat} {x : Value} {news : List Value} (hx : Src P w sz x 0 news) (hl : len ≤ cap) :
    (Builtin.append_ #[t0, t1] ty #[.slice A len cap, x]).run P w = .ok (.slice A len cap) w := by
  have hn : news = [] := List.eq_nil_of_length_eq_zero (by rw [hx.size]; simp)
  subst hn
  have hc := hx.cells w rfl
  unfold appT at h1
  split at h1
  · rename_i q hu
    cases A <;> simp [Builtin.append_, run_underlying (of_sliceT ht), run_underlying hu, run_sz hs, hx.len, hl, hc, storeCells]
  · rename_i hu
    cases A <;> simp [Builtin.append_, run_underlying (of_sliceT ht), run_underlying hu, run_sz hs, hx.len, hl, hc, storeCells]
  · cases h1

theorem run_append_room1 {t0 t1 ty e' et : TypeId} {sz : Nat} (ht : sliceT P t0 = some e') (h1 : appT P t1 = true) (hs : szT P e' = some sz) {g o' len cap n : Nat} {x : Value} {news : List Value} (hx : Src P w sz x n news) (hl : len + n ≤ cap)
    {cur : Array Value} (hg : w.heap[g]? = some (.cells cur et (0, 0))) (hfit : o' + (len + n) * sz ≤ cur.size) :
    (Builtin.append_ #[t0, t1] ty #[.slice (some ⟨g, o', none⟩) len cap, x]).run P w = .ok (.slice (some ⟨g, o', none⟩) (len + n) cap) (w.setRow g (over cur (o' + len * sz) news)) := by
  have hc := hx.cells w rfl
  have hfit' : o' + len * sz + 0 + news.length ≤ cur.size := by rw [hx.size, Nat.add_zero, Nat.add_assoc, ← Nat.add_mul]; exact hfit
  have hst := run_storeCells_at P g (o' + len * sz) et news 0 cur w hg hfit' hx.one
  simp only [Nat.add_zero] at hst
  unfold appT at h1
  split at h1
  · rename_i q hu
    simp [Builtin.append_, run_underlying (of_sliceT ht), run_underlying hu, run_sz hs, hx.len, hl, hc, add0, hst, over]
  · rename_i hu
    simp [Builtin.append_, run_underlying (of_sliceT ht), run_underlying hu, run_sz hs, hx.len, hl, hc, add0, hst, over]
  · cases h1

theorem run_append_grow1 {t0 t1 ty e' : TypeId} {sz : Nat} (ht : sliceT P t0 = some e') (h1 : appT P t1 = true) (hs : szT P e' = some sz) {z : Value} (hz : zeroT P e' = some z) (hsm : smallT P e' = true) {A : Option Addr} {len cap n : Nat} {x : Value} {news olds : List Value} (hx : Src P w sz x n news) (ho : Src P w sz (.slice A len cap) len olds) (hl : cap < len + n) (hlt : len + n < 4294967296) :
    (Builtin.append_ #[t0, t1] ty #[.slice A len cap, x]).run P w = .ok (.slice (some ⟨w.heap.size, 0, none⟩) (len + n) (grownCap w (len + n) cap e')) (w.drew.alloc (.cells (olds.toArray ++ news.toArray ++ Builtin.zeroCells z.cells (grownCap w (len + n) cap e' - (len + n))) e')) := by
  have hc := hx.cells w.drew rfl
  have hco := ho.cells w.drew rfl
  obtain ⟨ie, hie, hby⟩ : ∃ i, P.info? e' = some i ∧ i.bytes ≤ 1024 := by
    unfold smallT at hsm
    split at hsm
    · rename_i i hi; exact ⟨i, hi, by simpa using hsm⟩
    · cases hsm
  have hies : ie.size = sz := by
    unfold szT at hs
    rw [hie] at hs
    exact Option.some.inj hs
  have hiz : ie.zero = some z := by
    unfold zeroT at hz
    rw [hie] at hz
    exact hz
  subst hies
  have hn : ¬ (len + n ≤ cap) := by omega
  have hfit : Builtin.nextslicecap (len + n) cap * ie.bytes ≤ 281474976710656 := growslice_fits hl (by
    have : (len + n) * ie.bytes ≤ 4294967296 * 1024 := Nat.mul_le_mul (by omega) hby
    omega)
  have h48' : ¬ (281474976710656 < Builtin.nextslicecap (len + n) cap * ie.bytes) := by omega
  have h63' : ¬ (9223372036854775807 < ((len : Int) + (n : Int))) := by omega
  have hass : ∀ zs : Array Value, olds.toArray ++ (news.toArray ++ zs) = (olds ++ news).toArray ++ zs := fun zs => by apply Array.ext'; simp
  unfold appT at h1
  split at h1
  · rename_i q hu
    simp [Builtin.append_, run_underlying (of_sliceT ht), run_underlying hu, sizeOf, typeInfo, zeroValue, hie, hiz, hx.len, hn, h63', h48', Question.forced, hc, hco, newRow, grownCap, hass]
  · rename_i hu
    simp [Builtin.append_, run_underlying (of_sliceT ht), run_underlying hu, sizeOf, typeInfo, zeroValue, hie, hiz, hx.len, hn, h63', h48', Question.forced, hc, hco, newRow, grownCap, hass]
  · cases h1

/-- Elements in a list of cells. -/
def Els (K : Ct) (γ : Gh) (w : World) (sz : Nat) (news : List Value) (ys : List (List V)) : Prop :=
  (∀ y ∈ ys, y.length = sz) ∧ ∀ (j c : Nat) (x : List V) (y : V), ys[j]? = some x → x[c]? = some y → ∃ u, news[j * sz + c]? = some u ∧ Rep w (Im K γ w) u y

theorem cell_heap {w w' : World} (hw : w'.heap = w.heap) (a : Addr) : w'.cell? a = w.cell? a := by
  unfold World.cell?
  rw [hw]

/-- A slice's value is a source. -/
theorem src_of (s : St K γ w h) {v : Value} {x : V} {xs : List (List V)} {sz : Nat} (hv : VT K γ w h v x) (hl : listOf h x = some xs) (hs : elSz h x = some sz) :
    ∃ A cap news, v = .slice A xs.length cap ∧ xs.length ≤ cap ∧ 0 < sz ∧ Src P w sz v xs.length news ∧ Els K γ w sz news xs := by
  obtain ⟨A, cap, rfl, h1, h2, h3, us, h4, h5⟩ := list_src s hv hl hs
  have hel : ∀ j c, j < xs.length → c < sz → ∃ x y, xs[j]? = some x ∧ x[c]? = some y := by
    intro j c hj hc
    have := h3 _ (List.getElem_mem hj)
    exact ⟨xs[j], (xs[j])[c]'(by omega), List.getElem?_eq_getElem hj, List.getElem?_eq_getElem _⟩
  refine ⟨A, cap, flat xs.length sz us, rfl, h1, h2, ⟨fun w' => rfl, fun w' hw => ?_, flat_length _ _ _, fun v hv => ?_⟩, h3, fun j c x y hx hy => ?_⟩
  · rcases Nat.eq_zero_or_pos xs.length with h0 | h0
    · rw [h0]
      have hf : flat 0 sz us = [] := by simp [flat]
      rw [hf]
      cases A with
      | none => exact run_firstCells_none w' sz 0 0 cap
      | some ad => exact run_firstCells_some w' sz 0 ad 0 cap [] (by simp) (fun j v hj => by simp at hj)
    · obtain ⟨g, o', rfl, _, hc⟩ := h5 h0
      refine run_firstCells_some w' sz xs.length ⟨g, o', none⟩ xs.length cap _ (flat_length _ _ _) (fun k v hk => ?_)
      obtain ⟨k1, k2, k3, k4⟩ := flat_inv us hk
      obtain ⟨x, y, hx, hy⟩ := hel _ _ k1 k2
      have := hc _ _ x y hx hy
      rw [add0, cell_heap hw, k3, ← this]
      congr 2
      omega
  · obtain ⟨k, hk⟩ := List.getElem?_of_mem hv
    obtain ⟨k1, k2, k3, k4⟩ := flat_inv us hk
    obtain ⟨x, y, hx, hy⟩ := hel _ _ k1 k2
    rw [k3]
    exact (h4 _ _ x y hx hy).one
  · have hj := (List.getElem?_eq_some_iff.1 hx).1
    have hc : c < sz := by
      have e1 := (List.getElem?_eq_some_iff.1 hy).1
      have e2 := h3 x (List.mem_of_getElem? hx)
      omega
    exact ⟨us j c, flat_get us hj hc, h4 j c x y hx hy⟩

theorem src_str (bs : ByteArray) : Src P w 1 (.string bs) (cellsOfBytes bs.data.toList).length (Lib.strCells bs) ∧ Els K γ w 1 (Lib.strCells bs) (cellsOfBytes bs.data.toList) := by
  have hlen : (cellsOfBytes bs.data.toList).length = bs.size := by
    unfold cellsOfBytes
    rw [List.length_map]
    rfl
  refine ⟨⟨fun w' => by rw [hlen]; rfl, fun w' _ => by rw [hlen]; exact Lib.run_firstCells_string w' 1 bs, by rw [hlen, Nat.mul_one]; exact Lib.strCells_length bs, Lib.strCells_oneCell bs⟩, fun y hy => ?_, fun j c x y hx hy => ?_⟩
  · simp only [cellsOfBytes, List.mem_map] at hy
    obtain ⟨b, _, rfl⟩ := hy
    rfl
  · simp only [cellsOfBytes, List.getElem?_map, Option.map_eq_some_iff] at hx
    obtain ⟨b, hb, rfl⟩ := hx
    cases c with
    | zero =>
      simp at hy
      subst hy
      refine ⟨.int .u8 b.toNat, ?_, .int _ _⟩
      simp [Lib.strCells, hb]
    | succ c => simp at hy

theorem els_append {sz : Nat} {olds news : List Value} {xs ys : List (List V)} (h1 : Els K γ w sz olds xs) (h2 : Els K γ w sz news ys) (hl : olds.length = xs.length * sz) : Els K γ w sz (olds ++ news) (xs ++ ys) := by
  refine ⟨fun y hy => ?_, fun j c x y hx hy => ?_⟩
  · rcases List.mem_append.1 hy with hy | hy
    · exact h1.1 y hy
    · exact h2.1 y hy
  · have hc : ∀ zs : List (List V), (∀ z ∈ zs, z.length = sz) → x ∈ zs → c < sz := fun zs hz hm => by
      have e1 := (List.getElem?_eq_some_iff.1 hy).1
      have e2 := hz x hm
      omega
    rcases Nat.lt_or_ge j xs.length with hj | hj
    · rw [List.getElem?_append_left hj] at hx
      obtain ⟨u, hu, hr⟩ := h1.2 j c x y hx hy
      refine ⟨u, ?_, hr⟩
      rw [List.getElem?_append_left (List.getElem?_eq_some_iff.1 hu).1]
      exact hu
    · rw [List.getElem?_append_right hj] at hx
      obtain ⟨u, hu, hr⟩ := h2.2 _ c x y hx hy
      refine ⟨u, ?_, hr⟩
      have hjs : xs.length * sz ≤ j * sz := Nat.mul_le_mul_right _ hj
      rw [List.getElem?_append_right (by omega), hl, ← hu]
      congr 1
      rw [Nat.sub_mul]
      omega

theorem below_grow (w : World) (o : Obj) : Below w.heap.size w (w.drew.alloc o) := ((Below.refl _ _).drew).alloc (Nat.le_refl _) _

/-- The new row behind an append that had no room. -/
theorem grown_cells {sz : Nat} {olds news : List Value} {xs ys : List (List V)} {z : Value} {c : Nat} {e' : TypeId} (hzs : z.cells.size = sz) (h1 : Els K γ w sz olds xs) (h2 : Els K γ w sz news ys) (hl : olds.length = xs.length * sz) (hl2 : news.length = ys.length * sz) (hc : xs.length + ys.length ≤ c) :
    (w.drew.alloc (.cells (olds.toArray ++ news.toArray ++ Builtin.zeroCells z.cells (c - (xs.length + ys.length))) e')).heap[w.heap.size]? = some (.cells (olds.toArray ++ news.toArray ++ Builtin.zeroCells z.cells (c - (xs.length + ys.length))) e' (0, 0)) ∧
    (olds.toArray ++ news.toArray ++ Builtin.zeroCells z.cells (c - (xs.length + ys.length))).size = c * sz ∧
    ∀ (j k : Nat) (x : List V) (y : V), (xs ++ ys)[j]? = some x → x[k]? = some y → ∃ u, (olds.toArray ++ news.toArray ++ Builtin.zeroCells z.cells (c - (xs.length + ys.length)))[j * sz + k]? = some u ∧ Rep w (Im K γ w) u y := by
  refine ⟨heap_alloc_new w.drew _, ?_, fun j k x y hx hy => ?_⟩
  · simp only [Array.size_append, List.size_toArray, size_zeroCells, hzs, hl, hl2, ← Nat.add_mul]
    congr 1
    omega
  · obtain ⟨u, hu, hr⟩ := (els_append h1 h2 hl).2 j k x y hx hy
    refine ⟨u, ?_, hr⟩
    have hlt := (List.getElem?_eq_some_iff.1 hu).1
    rw [Array.getElem?_append_left (by simpa using hlt), ← hu]
    simp

theorem ok_appendTo (s : St K γ w h) {t0 t1 ty e' : TypeId} {sz : Nat} (ht : sliceT P t0 = some e') (h1 : appT P t1 = true) (hs : szT P e' = some sz) (hzero : zszT P e' = some sz) (hsm : smallT P e' = true)
    {vx vy : Value} {x : V} (hvx : VT K γ w h vx x) {ys : List (List V)} {news : List Value} (hy : Src P w sz vy ys.length news) (hye : Els K γ w sz news ys) {v : V} {h' : Heap} (hev : appendTo h sz x ys = some (v, h')) :
    ∃ u w' γ', (Builtin.append_ #[t0, t1] ty #[vx, vy]).run P w = .ok u w' ∧ Go2 K γ w h γ' w' h' ∧ VT K γ' w' h' u v := by
  obtain ⟨z, hzt, hzs⟩ : ∃ z, zeroT P e' = some z ∧ z.cells.size = sz := Option.map_eq_some_iff.1 hzero
  have growCase : ∀ {A : Option Addr} {len cap : Nat} {xs : List (List V)} {olds : List Value}, Src P w sz (.slice A len cap) len olds → Els K γ w sz olds xs → xs.length = len → cap < len + ys.length → len + ys.length < small →
      (Builtin.append_ #[t0, t1] ty #[.slice A len cap, vy]).run P w = .ok (.slice (some ⟨w.heap.size, 0, none⟩) (xs ++ ys).length (grownCap w (len + ys.length) cap e')) (w.drew.alloc (.cells (olds.toArray ++ news.toArray ++ Builtin.zeroCells z.cells (grownCap w (len + ys.length) cap e' - (xs.length + ys.length))) e')) ∧ (xs ++ ys).length ≤ grownCap w (len + ys.length) cap e' := by
    intro A len cap xs olds ho he hl hcap hlt
    have := run_append_grow1 (ty := ty) ht h1 hs hzt hsm hy ho hcap (by unfold small at hlt; exact hlt)
    subst hl
    rw [List.length_append]
    exact ⟨this, grownCap_ge w _ cap e'⟩
  have freshCase : ∀ {A : Option Addr} {len cap : Nat} {xs : List (List V)} {olds : List Value}, vx = .slice A len cap → 0 < sz → Src P w sz (.slice A len cap) len olds → Els K γ w sz olds xs → xs.length = len → cap < len + ys.length → len + ys.length < small →
      ∃ u w' γ', (Builtin.append_ #[t0, t1] ty #[vx, vy]).run P w = .ok u w' ∧ Go2 K γ w h γ' w' (h ++ [.rows 0 sz (xs ++ ys)]) ∧ VT K γ' w' (h ++ [.rows 0 sz (xs ++ ys)]) u (.ref h.length 0 0 (len + ys.length) false) := by
    intro A len cap xs olds hvx' hpos ho he hl hcap hlt
    subst hvx'
    obtain ⟨hrun, hge⟩ := growCase ho he hl hcap hlt
    obtain ⟨g1, g2, g3⟩ := grown_cells (w := w) (c := grownCap w (len + ys.length) cap e') (e' := e') hzs he hye (by rw [ho.size, hl]) hy.size (by rw [← List.length_append]; exact hge)
    have hnew := row_new s (below_grow w _) g1 hpos (els_append he hye (by rw [ho.size, hl])).1 (by rw [g2]; exact Nat.mul_le_mul_right _ hge) g3 hge (by rw [g2]; exact Nat.le_refl _)
    obtain ⟨γ', g4, hv⟩ := hnew.2 false (fun e => by cases e)
    rw [show len + ys.length = (xs ++ ys).length by rw [List.length_append, hl]]
    rw [show len + ys.length = (xs ++ ys).length by rw [List.length_append, hl]] at hrun g4 hv
    exact ⟨_, _, γ', hrun, g4, hv⟩
  unfold appendTo at hev
  split at hev
  · rename_i clip sz' xs
    obtain ⟨A, cap, rfl, g1, g2, g3⟩ := rep_slice hvx.sl
    split at hev
    · injection hev with hev
      injection hev with e1 e2
      subst e1 e2
      exact ⟨_, w, γ, run_append_room0 ht h1 hs hy g1, Go2.refl s, hvx⟩
    · rename_i y0 ys0
      split at hev
      · rename_i hcond
        simp only [Bool.and_eq_true, decide_eq_true_eq] at hcond
        obtain ⟨⟨rfl, rfl⟩, hlt⟩ := hcond
        injection hev with hev
        injection hev with e1 e2
        subst e1 e2
        obtain ⟨A', cap', olds, e3, _, hpos, ho, he⟩ := src_of (P := P) s hvx (xs := xs) (sz := sz') rfl rfl
        have hc := g2 rfl
        exact freshCase rfl hpos ho he rfl (by simp; omega) hlt
      · cases hev
  · rename_i id st off len clip
    obtain ⟨A, cap, rfl, g1, g2, hp⟩ := hvx.ref
    split at hev
    · rename_i st' sz' cont hb
      rw [hb] at hp
      split at hev
      · rename_i hcond
        obtain ⟨rfl, rfl, hlt⟩ := hcond
        obtain ⟨_, hp⟩ := hp
        obtain ⟨k1, k2⟩ := hp rfl
        have hpl : ((cont.drop off).take len).length = len := by simp; omega
        obtain ⟨A', cap', olds, e3, _, hpos, ho, he⟩ := src_of (P := P) s hvx (xs := (cont.drop off).take len) (sz := sz') (by simp [listOf, hb]) (by simp [elSz, szOf, hb])
        rw [hpl] at ho
        split at hev
        · rename_i hclip
          split at hev
          · injection hev with hev
            injection hev with e1 e2
            subst e1 e2
            exact ⟨_, w, γ, run_append_room0 ht h1 hs hy g1, Go2.refl s, hvx⟩
          · injection hev with hev
            injection hev with e1 e2
            subst e1 e2
            have hc := g2 hclip
            exact freshCase rfl hpos ho he hpl (by simp; omega) hlt
        · -- its own row grows, in place or not
          have ownCase : ∀ st2, st' < st2 → 0 < ys.length → ∃ u w' γ', (Builtin.append_ #[t0, t1] ty #[.slice A len cap, vy]).run P w = .ok u w' ∧ Go2 K γ w h γ' w' (h.set id (.rows st2 sz' ((cont.drop off).take len ++ ys))) ∧
              VT K γ' w' (h.set id (.rows st2 sz' ((cont.drop off).take len ++ ys))) u (.ref id st2 0 (len + ys.length) false) := by
            intro st2 hst2 hn
            have hlt' : id < h.length := (List.getElem?_eq_some_iff.1 hb).1
            have hkeep : ∀ γ1 w1, Keeps K γ w γ1 w1 id (.rows st' sz' cont) (.rows st2 sz' ((cont.drop off).take len ++ ys)) := fun γ1 w1 => ⟨by omega, fun e => absurd e (by omega)⟩
            have hnl : ((cont.drop off).take len ++ ys).length = len + ys.length := by rw [List.length_append, hpl]
            have hlen : ∀ x ∈ (cont.drop off).take len ++ ys, x.length = sz' := (els_append he hye (by rw [ho.size, hpl])).1
            have fin : ∀ {γ1 : Gh} {w1 : World} {g o1 cap1 : Nat} {cs : Array Value}, Go2 K γ w h γ1 w1 (h.set id (.rows st2 sz' ((cont.drop off).take len ++ ys))) → γ1 id = some (g, o1) → IsBlk w1 g cs → o1 + cap1 * sz' ≤ cs.size → len + ys.length ≤ cap1 →
                VT K γ1 w1 (h.set id (.rows st2 sz' ((cont.drop off).take len ++ ys))) (.slice (some ⟨g, o1, none⟩) (len + ys.length) cap1) (.ref id st2 0 (len + ys.length) false) := by
              intro γ1 w1 g o1 cap1 cs hgo hg hblk hfit hcap1
              refine ⟨_, _, rfl, hcap1, fun e => (by cases e), ?_⟩
              rw [List.getElem?_set_self hlt']
              refine ⟨Nat.le_refl _, fun _ => ⟨by omega, ?_⟩⟩
              rw [hg]
              exact fun _ => ⟨by simp, cs, hblk, by simpa using hfit⟩
            by_cases hroom : len + ys.length ≤ cap
            · cases hg : γ id with
              | none => rw [hg] at k2; omega
              | some p =>
                obtain ⟨g, o'⟩ := p
                rw [hg] at k2
                obtain ⟨rfl, cs, ⟨et, hblk⟩, hfit⟩ := k2 (by omega)
                have hfit2 : o' + off * sz' + cap * sz' ≤ cs.size := by rw [Nat.add_assoc, ← Nat.add_mul]; exact hfit
                have hfit3 : o' + off * sz' + (len + ys.length) * sz' ≤ cs.size := by
                  have : (len + ys.length) * sz' ≤ cap * sz' := Nat.mul_le_mul_right _ hroom
                  omega
                have hrun := run_append_room1 (ty := ty) ht h1 hs hy hroom hblk hfit3
                have hB := s.blk id _ hb
                obtain ⟨_, hl0, hB⟩ := hB
                rw [hg] at hB
                obtain ⟨hg0, cs', hcs', hsz0, hrep0⟩ := hB
                have := hcs'.unique ⟨et, hblk⟩
                subst this
                have hnew : o' + off * sz' + len * sz' + news.length ≤ cs'.size := by rw [hy.size, Nat.add_assoc, ← Nat.add_mul]; exact hfit3
                have hblk' := setRow_heap w g cs' (over cs' (o' + off * sz' + len * sz') news) et _ hblk
                have := st_upd s hb (b' := .rows st2 sz' ((cont.drop off).take len ++ ys)) (some (g, o' + off * sz')) (w' := w.setRow g (over cs' (o' + off * sz' + len * sz') news)) (below_setRow s.below hg0) (by rw [setRow_size]; exact Nat.le_refl _)
                  (fun k _ hk => setRow_other w g k _ (fun e => hk o' (e ▸ hg)))
                  (fun g1 o1 e => by
                    injection e with e
                    injection e with e4 _
                    subst e4
                    exact .inl ⟨o', hg⟩)
                  (hkeep _ _)
                  (fun tr => by
                    refine ⟨hpos, hlen, ?_⟩
                    rw [upd_self]
                    refine ⟨hg0, _, ⟨et, hblk'⟩, by rw [over_size hnew, hnl]; exact hfit3, fun j c x y hx hy' => ?_⟩
                    have hcl : c < sz' := by
                      have e1 := (List.getElem?_eq_some_iff.1 hy').1
                      have e2 := hlen x (List.mem_of_getElem? hx)
                      omega
                    rw [over_get hnew]
                    rcases Nat.lt_or_ge j len with hj | hj
                    · rw [List.getElem?_append_left (by omega), List.getElem?_take_of_lt hj, List.getElem?_drop] at hx
                      obtain ⟨u, hu, hr⟩ := hrep0 (off + j) c x y hx hy'
                      refine ⟨u, ?_, tr.rep hr⟩
                      have hjl : (j + 1) * sz' ≤ len * sz' := Nat.mul_le_mul_right _ hj
                      rw [Nat.add_mul] at hjl
                      rw [if_neg (by omega), ← hu]
                      congr 1
                      rw [Nat.add_mul]
                      omega
                    · rw [List.getElem?_append_right (by omega), hpl] at hx
                      obtain ⟨u, hu, hr⟩ := hye.2 (j - len) c x y hx hy'
                      refine ⟨u, ?_, tr.rep hr⟩
                      have hul := (List.getElem?_eq_some_iff.1 hu).1
                      have hjl : len * sz' ≤ j * sz' := Nat.mul_le_mul_right _ hj
                      rw [Nat.sub_mul] at hu hul
                      rw [if_pos (by omega), ← hu]
                      congr 1
                      omega)
                exact ⟨_, _, _, hrun, Go2.of this, fin (Go2.of this) (upd_self _ _ _) ⟨et, hblk'⟩ (by rw [over_size hnew]; exact hfit2) hroom⟩
            · obtain ⟨hrun, hge⟩ := growCase ho he hpl (by omega) hlt
              obtain ⟨q1, q2, q3⟩ := grown_cells (w := w) (c := grownCap w (len + ys.length) cap e') (e' := e') hzs he hye (by rw [ho.size, hpl]) hy.size (by rw [← List.length_append]; exact hge)
              have hb0 := below_grow w (.cells (olds.toArray ++ news.toArray ++ Builtin.zeroCells z.cells (grownCap w (len + ys.length) cap e' - (((cont.drop off).take len).length + ys.length))) e')
              have := st_upd s hb (b' := .rows st2 sz' ((cont.drop off).take len ++ ys)) (some (w.heap.size, 0)) (s.below.trans (hb0.mono s.size)) hb0.size (fun k hk _ => hb0.block k hk)
                (fun g1 o1 e => by
                  injection e with e
                  injection e with e4 _
                  exact .inr (by omega))
                (hkeep _ _)
                (fun tr => by
                  refine ⟨hpos, hlen, ?_⟩
                  rw [upd_self]
                  refine ⟨s.size, _, ⟨e', q1⟩, by rw [q2]; simpa using Nat.mul_le_mul_right sz' hge, fun j c x y hx hy' => ?_⟩
                  obtain ⟨u, hu, hr⟩ := q3 j c x y hx hy'
                  exact ⟨u, by simpa using hu, tr.rep hr⟩)
              rw [hnl] at hrun
              exact ⟨_, _, _, hrun, Go2.of this, fin (Go2.of this) (upd_self _ _ _) ⟨e', q1⟩ (by rw [q2]; simp) (by have := hge; rw [hnl] at this; exact this)⟩
          have nilCase : ys = [] → ∃ u w' γ', (Builtin.append_ #[t0, t1] ty #[.slice A len cap, vy]).run P w = .ok u w' ∧ Go2 K γ w h γ' w' h ∧ VT K γ' w' h u (.ref id st' off len clip) := by
            rintro rfl
            exact ⟨_, w, γ, run_append_room0 ht h1 hs hy g1, Go2.refl s, hvx⟩
          split at hev
          · rename_i hext
            obtain ⟨rfl, rfl⟩ := hext
            injection hev with hev
            injection hev with e1 e2
            subst e1 e2
            rcases Nat.eq_zero_or_pos ys.length with h0 | h0
            · have hys : ys = [] := List.eq_nil_of_length_eq_zero h0
              obtain ⟨u, w', γ', q1, q2, q3⟩ := nilCase hys
              subst hys
              have hself : h.set id (.rows st' sz' cont) = h := by
                apply List.ext_getElem?
                intro i
                by_cases hi : i = id
                · subst hi
                  rw [List.getElem?_set_self (List.getElem?_eq_some_iff.1 hb).1, hb]
                · rw [List.getElem?_set_ne (Ne.symm hi)]
              simp only [List.length_nil, Nat.add_zero, List.append_nil, hself]
              have hcl : clip = false := by
                cases clip with
                | false => rfl
                | true => rename_i hh; exact absurd rfl hh
              subst hcl
              exact ⟨u, w', γ', q1, q2, q3⟩
            · obtain ⟨u, w', γ', q1, q2, q3⟩ := ownCase (st' + ys.length) (by omega) h0
              simp only [List.drop_zero, List.take_length] at q2 q3
              exact ⟨u, w', γ', q1, q2, q3⟩
          · split at hev
            · rename_i hext
              injection hev with hev
              injection hev with e1 e2
              subst e1 e2
              exact nilCase rfl
            · injection hev with hev
              injection hev with e1 e2
              subst e1 e2
              exact ownCase (st' + 1) (by omega) (by simp)
      · cases hev
    · cases hev
  · cases hev
end
end Go.Proofs.Ytfbjbkkcilhgjaa.PE
