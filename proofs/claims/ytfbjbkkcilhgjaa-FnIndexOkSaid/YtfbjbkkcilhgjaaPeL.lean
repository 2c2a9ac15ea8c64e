/- Each operation of the evaluator is the machine's: structs and literals put together, stores. -/
import Derived.Test.YtfbjbkkcilhgjaaPeJ
import Derived.Great.BuildSlice
namespace Go.Proofs.Ytfbjbkkcilhgjaa.PE
open Go.RowKit

/-! ### cells laid over others -/
theorem foldl_zip_get (off : Nat) : ∀ (l : List Value) (n : Nat) (cells : Array Value), off + n + l.length ≤ cells.size →
    ((l.zipIdx n).foldl (fun (cs : Array Value) (p : Value × Nat) => cs.setIfInBounds (off + p.2) p.1) cells).size = cells.size ∧
    ∀ k, ((l.zipIdx n).foldl (fun (cs : Array Value) (p : Value × Nat) => cs.setIfInBounds (off + p.2) p.1) cells)[k]? = if off + n ≤ k ∧ k < off + n + l.length then l[k - off - n]? else cells[k]?
  | [], n, cells, _ => ⟨rfl, fun k => by rw [if_neg (by simp)]; rfl⟩
  | v :: l, n, cells, hl => by
    simp only [List.zipIdx_cons, List.foldl_cons]
    obtain ⟨h1, h2⟩ := foldl_zip_get off l (n + 1) (cells.setIfInBounds (off + n) v) (by simp at hl ⊢; omega)
    refine ⟨by rw [h1]; simp, fun k => ?_⟩
    rw [h2]
    simp only [List.length_cons] at hl ⊢
    by_cases hk : k = off + n
    · subst hk
      rw [if_neg (by omega), if_pos (by omega)]
      have : off + n - off - n = 0 := by omega
      rw [this]
      simp [show off + n < cells.size by omega]
    · by_cases hk2 : off + (n + 1) ≤ k ∧ k < off + (n + 1) + l.length
      · rw [if_pos hk2, if_pos (by omega)]
        have : k - off - n = (k - off - (n + 1)) + 1 := by omega
        rw [this]
        simp
      · rw [if_neg hk2, if_neg (by omega), Array.getElem?_setIfInBounds_ne (by omega)]

theorem fold_cells (off : Nat) (vs cells : Array Value) (hl : off + vs.size ≤ cells.size) :
    (vs.zipIdx.foldl (fun cs (c, j) => cs.setIfInBounds (off + j) c) cells).size = cells.size ∧
    ∀ k, (vs.zipIdx.foldl (fun cs (c, j) => cs.setIfInBounds (off + j) c) cells)[k]? = if off ≤ k ∧ k < off + vs.size then vs[k - off]? else cells[k]? := by
  have := foldl_zip_get off vs.toList 0 cells (by simpa using hl)
  rw [← Array.foldl_toList, Array.toList_zipIdx]
  simpa using this

theorem put_get {cs ys cs' : List V} {off : Nat} (hp : put cs off ys = some cs') : off + ys.length ≤ cs.length ∧ cs'.length = cs.length ∧ ∀ k, cs'[k]? = if off ≤ k ∧ k < off + ys.length then ys[k - off]? else cs[k]? := by
  unfold put at hp
  split at hp
  · rename_i hl
    injection hp with hp
    subst hp
    refine ⟨hl, by simp; omega, fun k => ?_⟩
    by_cases h1 : k < off
    · rw [List.getElem?_append_left (by simp; omega), List.getElem?_take_of_lt h1, if_neg (by omega)]
    · rw [List.getElem?_append_right (by simp; omega)]
      simp only [List.length_take]
      have hm : min off cs.length = off := by omega
      rw [hm]
      by_cases h2 : k < off + ys.length
      · rw [List.getElem?_append_left (by omega), if_pos (by omega)]
      · rw [List.getElem?_append_right (by omega), List.getElem?_drop, if_neg (by omega)]
        congr 1
        omega
  · cases hp

section
variable {P : Program} {o : Oper} {a : Act} {K : Ct} {γ γ' : Gh} {w : World} {h : Heap} {N : Nat} {e : Env}

def Cells (K : Ct) (γ : Gh) (w : World) (h : Heap) (cells : Array Value) (cs : List V) : Prop := cells.size = cs.length ∧ ∀ (i : Nat) (c : V), cs[i]? = some c → ∃ u, cells[i]? = some u ∧ VC K γ w h u c

theorem fill_ok (place : Nat → Option (Nat × Nat)) : ∀ (ps : List (Nat × Value)) (qs : List (Nat × Nat × V)) (cells : Array Value) (cs cs' : List V), ps.length = qs.length →
    (∀ (i : Nat) (p : Nat × Value) (q : Nat × Nat × V), ps[i]? = some p → qs[i]? = some q → place p.1 = some (q.1, q.2.1) ∧ VT K γ w h p.2 q.2.2) →
    Cells K γ w h cells cs → fills cs qs = some cs' → ∃ cells', Instr.fill place cells ps = some cells' ∧ Cells K γ w h cells' cs'
  | [], [], cells, cs, cs', _, _, hc, hf => by
    simp [fills] at hf
    subst hf
    exact ⟨cells, rfl, hc⟩
  | (i, v) :: ps, (off, sz, x) :: qs, cells, cs, cs', hl, hp, hc, hf => by
    obtain ⟨h1, h2⟩ := hp 0 _ _ rfl rfl
    simp only at h1 h2
    unfold fills at hf
    split at hf
    · rename_i ys hys
      split at hf
      · rename_i hlen
        split at hf
        · rename_i cs1 hput
          obtain ⟨h3, h4⟩ := cells_ok h2 hys
          obtain ⟨h5, h6, h7⟩ := put_get hput
          have hsz : v.cells.size = sz := by omega
          have hfit : off + v.cells.size ≤ cells.size := by have := hc.1; omega
          obtain ⟨h8, h9⟩ := fold_cells off v.cells cells hfit
          have hnext := fill_ok place ps qs (v.cells.zipIdx.foldl (fun cs (c, j) => cs.setIfInBounds (off + j) c) cells) cs1 cs' (by simpa using hl)
            (fun j p q hj hq => hp (j + 1) p q (by simpa using hj) (by simpa using hq))
            ⟨by rw [h8, hc.1, h6], fun k c hk => by
              rw [h9]
              rw [h7] at hk
              by_cases hin : off ≤ k ∧ k < off + ys.length
              · rw [if_pos hin] at hk
                rw [if_pos (by omega)]
                exact h4 _ c hk
              · rw [if_neg hin] at hk
                rw [if_neg (by omega)]
                exact hc.2 k c hk⟩ hf
          obtain ⟨cells', hf', hc'⟩ := hnext
          refine ⟨cells', ?_, hc'⟩
          unfold Instr.fill
          rw [h1]
          simp only
          rw [if_neg (by simp [hsz]; omega)]
          exact hf'
        · cases hf
      · cases hf
    · cases hf
  | [], _ :: _, _, _, _, hl, _, _, _ => by cases hl
  | _ :: _, [], _, _, _, hl, _, _, _ => by cases hl

def placesT (P : Program) (t : TypeId) : Option (List (Nat × Nat)) := match P.underlying t with
  | some (.struct fields) => fields.toList.mapM (fun f => (P.info? f.type).map fun i => (f.offset, i.size))
  | _ => none

def chkParts (places : List (Nat × Nat)) : List (Nat × Operand) → List (Nat × Nat × X) → Bool
  | [], [] => true
  | (i, x) :: ps, (off, sz, y) :: qs => decide (places[i]? = some (off, sz)) && chkX x y && chkParts places ps qs
  | _, _ => false

theorem chkParts_ok (he : EnvOK K γ w h N a e) (places : List (Nat × Nat)) : ∀ {ps : List (Nat × Operand)} {qs : List (Nat × Nat × X)}, chkParts places ps qs = true →
    ps.length = qs.length ∧ ∀ (i : Nat) (p : Nat × Operand) (q : Nat × Nat × X), ps[i]? = some p → qs[i]? = some q → places[p.1]? = some (q.1, q.2.1) ∧ VT K γ w h (a.eval p.2) (q.2.2.ev e)
  | [], [], _ => ⟨rfl, fun i p q hp => by simp at hp⟩
  | (i, x) :: ps, (off, sz, y) :: qs, hc => by
    simp only [chkParts, Bool.and_eq_true, decide_eq_true_eq] at hc
    obtain ⟨h1, h2⟩ := chkParts_ok he places hc.2
    refine ⟨by simp [h1], fun j p q hp hq => ?_⟩
    cases j with
    | zero => simp at hp hq; subst hp hq; exact ⟨hc.1.1, chkX_ok hc.1.2 he⟩
    | succ j => simp at hp hq; exact h2 j p q hp hq
  | [], _ :: _, hc => by cases hc
  | _ :: _, [], hc => by cases hc

theorem ok_build (s : St K γ w h) (he : EnvOK K γ w h N a e) {t : TypeId} {ps : Array (Nat × Operand)} {zero : List V} {qs : List (Nat × Nat × X)} {places : List (Nat × Nat)} (hz : zeroIs P t zero = true) (hpl : placesT P t = some places) (hc : chkParts places ps.toList qs = true)
    {v : V} {h' : Heap} (hev : evOp e h (.build zero qs) = some (v, h')) : Ok1 P (.build t ps) o a K γ w h v h' := by
  simp only [evOp] at hev
  split at hev
  · rename_i cs hcs
    injection hev with hev
    injection hev with e1 e2
    subst e1 e2
    unfold zeroIs at hz
    split at hz
    · rename_i z hzt
      simp only [Bool.and_eq_true, decide_eq_true_eq] at hz
      obtain ⟨h1, h2⟩ := constCs_ok (K := K) (γ := γ) (w := w) (h := h) hz.1
      obtain ⟨h3, h4⟩ := chkParts_ok he places hc
      obtain ⟨cells', hf, hc'⟩ := fill_ok (K := K) (γ := γ) (w := w) (h := h) (places.toArray[·]?) (ps.map fun (i, x) => (i, a.eval x)).toList (qs.map fun p => (p.1, p.2.1, p.2.2.ev e)) z.cells zero cs (by simpa using h3)
        (fun i p q hp hq => by
          simp only [Array.toList_map, List.getElem?_map, Option.map_eq_some_iff] at hp hq
          obtain ⟨p', hp', rfl⟩ := hp
          obtain ⟨q', hq', rfl⟩ := hq
          have := h4 i p' q' hp' hq'
          simpa using this)
        ⟨by simpa using h1, fun i c hc => by simpa using h2 i c hc⟩ hcs
      refine Ok1.pure s (v := .agg cells') ?_ ⟨cells', rfl, hc'⟩
      have hb : P.built t (ps.map fun (i, x) => (i, a.eval x)).toList = some cells' := by
        unfold placesT at hpl
        split at hpl
        · rename_i fields hu
          unfold zeroT at hzt
          cases hi : P.info? t with
          | none => rw [hi] at hzt; cases hzt
          | some it =>
            rw [hi] at hzt
            have hzz : it.zero = some z := hzt
            simp only [Program.built, hi, hu, hzz, hpl]
            exact hf
        · cases hpl
      simp only [execOp, Sem.run_bind, run_build w t _ _ hb, Result.andThen_ok]
      rfl
    · cases hz
  · cases hev

/-! ### a slice's literal -/
theorem fill_elems (sz : Nat) : ∀ (vals : List Value) (k : Nat) (cells : Array Value), (∀ v ∈ vals, v.cells.size = sz) → (k + vals.length) * sz ≤ cells.size →
    ∃ cells', Instr.fill (fun i => some (i * sz, sz)) cells ((vals.zipIdx k).map fun p => (p.2, p.1)) = some cells' ∧ cells'.size = cells.size ∧
      (∀ j c v, vals[j]? = some v → c < sz → cells'[(k + j) * sz + c]? = v.cells[c]?) ∧ ∀ p, p < k * sz → cells'[p]? = cells[p]?
  | [], k, cells, _, _ => ⟨cells, rfl, rfl, fun j c v hv => by simp at hv, fun _ _ => rfl⟩
  | v :: vals, k, cells, hs, hl => by
    have hv : v.cells.size = sz := hs v List.mem_cons_self
    have hfit : k * sz + v.cells.size ≤ cells.size := by
      have : (k + 1) * sz ≤ (k + (v :: vals).length) * sz := Nat.mul_le_mul_right _ (by simp)
      rw [Nat.add_mul] at this
      omega
    obtain ⟨h8, h9⟩ := fold_cells (k * sz) v.cells cells hfit
    obtain ⟨cells', h1, h2, h3, h4⟩ := fill_elems sz vals (k + 1) (v.cells.zipIdx.foldl (fun cs (c, j) => cs.setIfInBounds (k * sz + j) c) cells) (fun u hu => hs u (List.mem_cons_of_mem _ hu)) (by
      rw [h8]
      refine Nat.le_trans (Nat.mul_le_mul_right _ ?_) hl
      simp
      omega)
    refine ⟨cells', ?_, by rw [h2, h8], fun j c u hu hc => ?_, fun p hp => ?_⟩
    · simp only [List.zipIdx_cons, List.map_cons]
      unfold Instr.fill
      simp only
      rw [if_neg (by simp [hv]; omega)]
      exact h1
    · cases j with
      | zero =>
        simp at hu
        subst hu
        rw [Nat.add_zero, h4 _ (by rw [Nat.add_mul]; omega), h9, if_pos (by omega)]
        congr 1
        omega
      | succ j =>
        simp at hu
        have := h3 j c u hu hc
        rw [← this, show k + (j + 1) = k + 1 + j by omega]
    · rw [h4 p (by rw [Nat.add_mul]; omega), h9, if_neg (by omega)]

theorem elemsOf_spec {sz : Nat} : ∀ {vs : List V} {xs : List (List V)}, elemsOf h sz vs = some xs → xs.length = vs.length ∧ ∀ (i : Nat) (x : List V), xs[i]? = some x → ∃ v, vs[i]? = some v ∧ elemOf h sz v = some x
  | [], xs, hp => by simp [elemsOf] at hp; subst hp; exact ⟨rfl, fun i c hc => by simp at hc⟩
  | v :: vs, xs, hp => by
    unfold elemsOf at hp
    split at hp
    · rename_i d ds h1 h2
      injection hp with hp
      subst hp
      obtain ⟨h3, h4⟩ := elemsOf_spec h2
      refine ⟨by simp [h3], fun i x hx => ?_⟩
      cases i with
      | zero => simp at hx; subst hx; exact ⟨v, rfl, h1⟩
      | succ i => simp at hx; simpa using h4 i x hx
    · cases hp

/-- An element made pure. -/
theorem elemOf_ok {ids : List Nat} (g : Go2 K γ w h γ' w (frzs h ids)) {u : Value} {v : V} {sz : Nat} {x : List V} (hv : VT K γ w h u v) (hx : elemOf h sz v = some x) (hm : ∀ id ∈ refsV v, id ∈ ids) :
    u.cells.size = sz ∧ x.length = sz ∧ ∀ (c : Nat) (y : V), x[c]? = some y → ∃ q, u.cells[c]? = some q ∧ Rep w (Im K γ' w) q y := by
  unfold elemOf at hx
  split at hx
  · rename_i cs hcs
    split at hx
    · rename_i hl
      obtain ⟨h1, h2⟩ := cells_ok hv hcs
      obtain ⟨h3, h4⟩ := pures_spec hx
      refine ⟨by omega, by omega, fun c y hy => ?_⟩
      obtain ⟨d, hd, hpd⟩ := h4 c y hy
      obtain ⟨q, hq, hvq⟩ := h2 c d hd
      exact ⟨q, hq, pureC_ok g hvq hpd (fun id hid => hm id (by simp only [refsV, hcs]; exact refs_mem hd id hid))⟩
    · cases hx
  · cases hx

def chkElems : Nat → List (Nat × Operand) → List X → Bool
  | _, [], [] => true
  | k, (i, x) :: ps, y :: qs => decide (i = k) && chkX x y && chkElems (k + 1) ps qs
  | _, _, _ => false

theorem chkElems_ok (he : EnvOK K γ w h N a e) : ∀ {k : Nat} {ps : List (Nat × Operand)} {qs : List X}, chkElems k ps qs = true →
    ps.length = qs.length ∧ ps.map (fun p => (p.1, a.eval p.2)) = ((ps.map fun p => a.eval p.2).zipIdx k).map (fun p => (p.2, p.1)) ∧ ∀ (i : Nat) (u : Value) (q : X), (ps.map fun p => a.eval p.2)[i]? = some u → qs[i]? = some q → VT K γ w h u (q.ev e)
  | k, [], [], _ => ⟨rfl, rfl, fun i p q hp => by simp at hp⟩
  | k, (i, x) :: ps, y :: qs, hc => by
    simp only [chkElems, Bool.and_eq_true, decide_eq_true_eq] at hc
    obtain ⟨h1, h2, h3⟩ := chkElems_ok he hc.2
    refine ⟨by simp [h1], ?_, fun j p q hp hq => ?_⟩
    · simp only [List.map_cons, List.zipIdx_cons, h2, hc.1.1]
    · cases j with
      | zero => simp at hp hq; subst hp hq; exact chkX_ok hc.1.2 he
      | succ j => simp only [List.map_cons, List.getElem?_cons_succ] at hp hq; exact h3 j p q hp hq
  | _, [], _ :: _, hc => by cases hc
  | _, _ :: _, [], hc => by cases hc

/-- A new row of pure elements: told as a list, or as a row of one's own. -/
theorem row_new {γ : Gh} {h : Heap} (s : St K γ w h) {w' : World} (hb : Below w.heap.size w w') {cells : Array Value} {t : TypeId} (hcell : w'.heap[w.heap.size]? = some (.cells cells t (0, 0))) {sz : Nat} (hz : 0 < sz) {xs : List (List V)} (hl : ∀ x ∈ xs, x.length = sz) (hsz : xs.length * sz ≤ cells.size)
    (hc : ∀ (j c : Nat) (x : List V) (y : V), xs[j]? = some x → x[c]? = some y → ∃ u, cells[j * sz + c]? = some u ∧ Rep w (Im K γ w) u y) {cap : Nat} (hcap : xs.length ≤ cap) (hcs : cap * sz ≤ cells.size) :
    (∀ clip, (clip = true → cap = xs.length) → Go2 K γ w h γ w' h ∧ VT K γ w' h (.slice (some ⟨w.heap.size, 0, none⟩) xs.length cap) (.sl clip sz xs)) ∧
    (∀ clip, (clip = true → cap = xs.length) → ∃ γ', Go2 K γ w h γ' w' (h ++ [.rows 0 sz xs]) ∧ VT K γ' w' (h ++ [.rows 0 sz xs]) (.slice (some ⟨w.heap.size, 0, none⟩) xs.length cap) (.ref h.length 0 0 xs.length clip)) := by
  have hsize : w.heap.size < w'.heap.size := (Array.getElem?_eq_some_iff.1 hcell).1
  have isb : IsBlk w' w.heap.size cells := ⟨t, hcell⟩
  constructor
  · intro clip hclip
    have g := st_grow s hb
    refine ⟨Go2.of g, ?_⟩
    have := rep_of_rows (w := w') (im := Im K γ w') (g := w.heap.size) (o := 0) (sz := sz) (cont := xs) hz hl
      ⟨hsize, fun hlt => absurd hlt (by have := s.size; omega), fun id g' o' hg => by have := (s.owned hg).2; omega⟩
      (fun j c x y hx hy => by
        obtain ⟨u, hu, hr⟩ := hc j c x y hx hy
        exact ⟨u, by rw [isb.cell]; simpa using hu, g.2.rep hr⟩)
      (off := 0) (len := xs.length) (cap := cap) (clip := clip) (A := some ⟨w.heap.size, 0, none⟩) hcap hclip (by omega) (fun _ => by simp)
    have this2 : Rep w' (Im K γ w') (.slice (some ⟨w.heap.size, 0, none⟩) xs.length cap) (.sl clip sz xs) := by simpa using this
    exact this2
  · intro clip hclip
    have g := st_add s (.rows 0 sz xs) (some (w.heap.size, 0)) hb (fun g o e => by injection e with e; injection e with e _; omega) (fun tr => by
      refine ⟨hz, hl, ?_⟩
      rw [upd_self]
      refine ⟨s.size, cells, isb, by omega, fun j c x y hx hy => ?_⟩
      obtain ⟨u, hu, hr⟩ := hc j c x y hx hy
      exact ⟨u, by simpa using hu, tr.rep hr⟩)
    refine ⟨_, Go2.of g, some ⟨w.heap.size, 0, none⟩, cap, rfl, hcap, hclip, ?_⟩
    rw [List.getElem?_concat_length]
    refine ⟨Nat.le_refl _, fun _ => ⟨by simp, ?_⟩⟩
    rw [upd_self]
    exact fun _ => ⟨by simp, cells, isb, by simpa using hcs⟩

theorem ok_mksl (s : St K γ w h) (he : EnvOK K γ w h N a e) {t e' : TypeId} {len : Nat} {ps : Array (Nat × Operand)} {row : Bool} {sz : Nat} {qs : List X} (ht : sliceT P t = some e') (hsz : szT P e' = some sz) (hz : 0 < sz) (hzero : (zeroT P e').isSome = true) (hlen : len = qs.length) (hsmall : len * sz ≤ 2 ^ 24) (hc : chkElems 0 ps.toList qs = true)
    {v : V} {h' : Heap} (hev : evOp e h (.mksl row sz qs) = some (v, h')) : Ok1 P (.buildSlice t len ps) o a K γ w h v h' := by
  simp only [evOp] at hev
  split at hev
  · rename_i xs hxs
    obtain ⟨c1, c2, c3⟩ := chkElems_ok he hc
    obtain ⟨x1, x2⟩ := elemsOf_spec hxs
    have hxl : xs.length = len := by rw [x1, hlen]; simp
    obtain ⟨γ1, g1, gs1, _⟩ := st_frzs (qs.flatMap fun x => refsV (x.ev e)) s
    generalize hids : (qs.flatMap fun x => refsV (x.ev e)) = ids at *
    generalize hvals : (ps.toList.map fun p => a.eval p.2) = vals at *
    have hvl : vals.length = len := by rw [← hvals, List.length_map, c1, hlen]
    have elem : ∀ (j : Nat) (u : Value), vals[j]? = some u → ∃ x, xs[j]? = some x ∧ u.cells.size = sz ∧ x.length = sz ∧ ∀ (c : Nat) (y : V), x[c]? = some y → ∃ q, u.cells[c]? = some q ∧ Rep w (Im K γ1 w) q y := by
      intro j u hu
      have hj : j < len := by
        have := (List.getElem?_eq_some_iff.1 hu).1
        omega
      have hjx : j < xs.length := by omega
      obtain ⟨v, hv, hev'⟩ := x2 j _ (List.getElem?_eq_getElem hjx)
      simp only [List.getElem?_map, Option.map_eq_some_iff] at hv
      obtain ⟨q, hq, rfl⟩ := hv
      have := elemOf_ok g1 (c3 j u q hu hq) hev' (fun id hid => by
        rw [← hids]
        exact List.mem_flatMap.2 ⟨q, List.mem_of_getElem? hq, hid⟩)
      exact ⟨_, List.getElem?_eq_getElem hjx, this⟩
    obtain ⟨ie, hie, hies⟩ : ∃ i, P.info? e' = some i ∧ i.size = sz := by
      unfold szT at hsz
      exact Option.map_eq_some_iff.1 hsz
    obtain ⟨z, hzz⟩ := Option.isSome_iff_exists.1 hzero
    have hz2 : ie.zero = some z := by
      unfold zeroT at hzz
      rw [hie] at hzz
      exact hzz
    have hrep : ∀ x ∈ xs, x.length = sz := by
      intro x hx
      obtain ⟨j, hj⟩ := List.getElem?_of_mem hx
      have hjl : j < vals.length := by
        have := (List.getElem?_eq_some_iff.1 hj).1
        omega
      obtain ⟨x', hx', _, h2, _⟩ := elem j _ (List.getElem?_eq_getElem hjl)
      rw [hj] at hx'
      injection hx' with hx'
      subst hx'
      exact h2
    have hmain : ∃ cells, (Instr.buildSlice t len (ps.map fun (i, x) => (i, a.eval x))).run P w = .ok (.slice (some ⟨w.heap.size, 0, none⟩) len len) (w.alloc (.cells cells e')) ∧ cells.size = len * sz ∧
        ∀ j c u, vals[j]? = some u → c < sz → cells[j * sz + c]? = u.cells[c]? := by
      rcases Nat.eq_zero_or_pos len with h0 | h0
      · refine ⟨#[], ?_, by rw [h0]; simp, fun j c u hu => ?_⟩
        · have hps : ps.toList = [] := List.eq_nil_of_length_eq_zero (by rw [c1, ← hlen, h0])
          have hps' : ps = #[] := by apply Array.ext'; simpa using hps
          subst hps'
          simp [Instr.buildSlice, run_underlying (of_sliceT ht), sizeOf, typeInfo, hie, h0, Instr.fill, newRow]
          have hr0 : ∀ f : Nat → Value, Array.map f (Array.range 0) = #[] := fun f => by apply Array.ext'; simp
          rw [hr0]
        · have hv0 : vals = [] := List.eq_nil_of_length_eq_zero (by omega)
          subst hv0
          simp at hu
      · obtain ⟨cells', f1, f2, f3, f4⟩ := fill_elems sz vals 0 ((Array.range (len * sz)).map (z.cells[· % z.cells.size]!)) (fun v hv => by
          obtain ⟨j, hj⟩ := List.getElem?_of_mem hv
          obtain ⟨_, _, h1, _⟩ := elem j v hj
          exact h1) (by simp [hvl])
        refine ⟨cells', ?_, by rw [f2]; simp, fun j c u hu hcs => by simpa using f3 j c u hu hcs⟩
        subst hies
        refine run_buildSlice w t e' len _ cells' ie z (of_sliceT ht) hie hz2 (by omega) (fun e => by have := Nat.mul_pos h0 hz; omega) ?_
        rw [Array.toList_map]
        rw [show (ps.toList.map fun x => match x with | (i, x) => (i, a.eval x)) = ps.toList.map (fun p => (p.1, a.eval p.2)) from rfl, c2]
        exact f1
    obtain ⟨cells, hrun, hcsz, hcc⟩ := hmain
    have hb : Below w.heap.size w (w.alloc (.cells cells e')) := (Below.refl _ _).alloc (Nat.le_refl _) _
    have hnew := row_new g1.st hb (heap_alloc_new w _) hz hrep (by rw [hxl]; omega) (fun j c x y hx hy => by
      have hj : j < vals.length := by
        have := (List.getElem?_eq_some_iff.1 hx).1
        omega
      obtain ⟨x', hx', h1, h2, h3⟩ := elem j _ (List.getElem?_eq_getElem hj)
      rw [hx] at hx'
      injection hx' with hx'
      subst hx'
      obtain ⟨q, hq, hr⟩ := h3 c y hy
      have hcl : c < sz := by
        have := (List.getElem?_eq_some_iff.1 hy).1
        omega
      exact ⟨q, by rw [hcc j c _ (List.getElem?_eq_getElem hj) hcl]; exact hq, hr⟩) (cap := len) (by omega) (by omega)
    have hexec : (execOp a.eval { o with op := .buildSlice t len ps }).run P w = .ok (.value (.slice (some ⟨w.heap.size, 0, none⟩) len len)) (w.alloc (.cells cells e')) := by
      simp only [execOp, Sem.run_bind, hrun, Result.andThen_ok]
      rfl
    split at hev
    · injection hev with hev
      injection hev with e1 e2
      subst e1 e2
      obtain ⟨γ', g2, hv⟩ := hnew.2 false (fun e => by cases e)
      rw [hxl] at hv
      rw [← hlen]
      exact ⟨_, _, γ', .inl hexec, g1.trans g2, hv⟩
    · injection hev with hev
      injection hev with e1 e2
      subst e1 e2
      obtain ⟨g2, hv⟩ := hnew.1 true (fun _ => hxl.symm)
      rw [hxl] at hv
      exact ⟨_, _, γ1, .inl hexec, g1.trans g2, hv⟩
  · cases hev
end
end Go.Proofs.Ytfbjbkkcilhgjaa.PE
