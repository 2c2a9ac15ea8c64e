/- Texts of this claim, one behind the other: Pnr, Pq0, Png, Pnc, Psz, Pvq, Pl2, Pl3, Pb1, Pb2, Pb3, Pu7, Pu8, Pb4, Pb5, Pb6, Pl4, Pl6, Pb8, Pb9, Pr5. -/
import Derived.Test.YteaojpfofifmnaaG0
import Derived.Deep.Slices
import Derived.ChangeArms
/- Rows and columns as trees: what their sizes say, that only their values matter. -/
set_option linter.unusedVariables false
set_option linter.unusedSimpArgs false
set_option maxHeartbeats 4000000
namespace Go.Proofs.Yteaojpfofifmnaa.PE
open Go.RowKit

def rowU (r : Row) : List U := vsU r.vs
theorem AllU_sub {α : Type} {P : List U → Prop} {g : α → List U} : ∀ {l : List α}, AllU P (l.map g) → ∀ {l2 : List α}, (∀ x ∈ l2, x ∈ l) → AllU P (l2.map g)
  | l, h, [], _ => trivial
  | l, h, x :: r, hs => by
    refine ⟨?_, AllU_sub h (fun y hy => hs y (List.mem_cons_of_mem _ hy))⟩
    obtain ⟨i, hi⟩ := List.getElem?_of_mem (hs x List.mem_cons_self)
    exact AllU_at h (map_at g hi)
theorem sum_leP {P : List U → Prop} {c : List U → Nat} {n : Nat} (h : ∀ x, P x → c x ≤ n) : ∀ {xs : List (List U)}, AllU P xs → sumU c xs ≤ n * xs.length
  | [], _ => by simp [sumU]
  | x :: xs, ⟨h1, h2⟩ => by
    have := sum_leP h h2
    have := h x h1
    simp only [sumU, List.length_cons, Nat.mul_add, Nat.mul_one]
    omega
theorem cnt_vsU (vs : List Val) : cntR fdValueS (vsU vs) ≤ 4 + 3 * vs.length := by
  have : sumU (cntR fdValue) (vs.map valU) ≤ 3 * (vs.map valU).length := by
    induction vs with
    | nil => simp [sumU]
    | cons p ls ih =>
      have e : cntR fdValue (valU p) = 3 := rfl
      simp only [List.map_cons, sumU, e, List.length_cons]
      omega
  rw [List.length_map] at this
  simp only [vsU, fdValueS, cntR, cntF]
  omega
/-- What a size says of rows. -/
theorem rows_lim {rs : List Row} (L : LenF 1048576 1048576 (.sub fdValueS) (.sub (rs.map rowU))) : Fine rs ∧ Short rs ∧ (∀ r ∈ rs, r.vs.length ≤ 1048576) ∧ rs.length ≤ 1048576 := by
  simp only [LenF, List.length_map] at L
  have key : ∀ r ∈ rs, r.vs.length ≤ 1048576 ∧ AllU (LenR 1048576 1048576 fdValue) (r.vs.map valU) := by
    intro r hr
    obtain ⟨i, hi⟩ := List.getElem?_of_mem hr
    have := AllU_at L.2 (map_at rowU hi)
    simp only [fdValueS, rowU, vsU, LenR, LenF, List.length_map, and_true] at this
    exact this
  refine ⟨⟨by omega, fun r hr => by have := (key r hr).1; omega⟩, fun r hr => ⟨by have := (key r hr).1; omega, fun v hv => ?_⟩, fun r hr => (key r hr).1, L.1⟩
  obtain ⟨i, hi⟩ := List.getElem?_of_mem hv
  have := AllU_at (key r hr).2 (map_at valU hi)
  simp only [fdValue, valU, LenR, LenF, true_and, and_true] at this
  omega
theorem rows_res {rs : List Row} (L : LenF 1048576 1048576 (.sub fdValueS) (.sub (rs.map rowU))) {l2 : List Row} (hn : l2.length ≤ rs.length) (hs : ∀ x ∈ l2, x ∈ rs) : LenF big big (.sub fdValueS) (.sub (l2.map rowU)) ∧ (cntF (.sub fdValueS) (.sub (l2.map rowU)) : Int) ≤ 2305843009213693952 := by
  obtain ⟨-, -, k1, k2⟩ := rows_lim L
  have L2 : LenF 1048576 1048576 (.sub fdValueS) (.sub (l2.map rowU)) := by
    simp only [LenF, List.length_map] at L ⊢
    exact ⟨by omega, AllU_sub L.2 hs⟩
  refine ⟨LenF_mono (by decide) (by decide) _ L2, ?_⟩
  have : AllU (fun x => cntR fdValueS x ≤ 4194304) (l2.map rowU) := by
    have : ∀ l : List Row, (∀ x ∈ l, x ∈ rs) → AllU (fun x => cntR fdValueS x ≤ 4194304) (l.map rowU) := by
      intro l
      induction l with
      | nil => intro _; trivial
      | cons r l ih =>
        intro h
        refine ⟨?_, ih (fun x hx => h x (List.mem_cons_of_mem _ hx))⟩
        have := k1 r (h r List.mem_cons_self)
        have := cnt_vsU r.vs
        unfold rowU
        omega
    exact this l2 hs
  have := sum_leP (fun x h => h) this
  rw [List.length_map] at this
  simp only [cntF]
  omega
theorem rows_each {rs : List Row} {q : V} (k : PurF (.sub fdValueS) q (.sub (rs.map rowU))) : ∃ (c : Bool) (rs2 : List Row), q = .sl c 1 (rs2.map Row.cells) ∧ rs2.map rowU = rs.map rowU := by
  obtain ⟨c, _, rfl, y0⟩ := purS_ValueS k
  obtain ⟨rs', rfl, e0⟩ := rowsU_of y0
  exact ⟨c, rs', rfl, e0.symm⟩
theorem vss_of {a b : List Row} (h : a.map rowU = b.map rowU) : a.map Row.vs = b.map Row.vs := by
  have : (a.map Row.vs).map vsU = (b.map Row.vs).map vsU := by rw [List.map_map, List.map_map]; exact h
  exact map_inj (fun _ _ => vsU_inj) this
theorem all_vs {P : List Val → Bool} : ∀ {a b : List Row}, a.map Row.vs = b.map Row.vs → (a.all fun r => P r.vs) = (b.all fun r => P r.vs)
  | [], [], _ => rfl
  | x :: a, y :: b, h => by
    simp only [List.map_cons, List.cons.injEq] at h
    rw [List.all_cons, List.all_cons, h.1, all_vs h.2]
  | [], _ :: _, h => by simp at h
  | _ :: _, [], h => by simp at h
theorem rowsOk_vs {cs : List Col} {a b : List Row} (h : a.map Row.vs = b.map Row.vs) : rowsOk cs a = rowsOk cs b := by
  unfold rowsOk rowsFit
  rw [all_vs h]
theorem cols_each {cs : List Col} {q : V} (k : PurF (.sub fdColumn) q (.sub (cs.map colU))) : ∃ c, q = .sl c 2 (cs.map Col.cells) := by
  obtain ⟨c, _, rfl, y0⟩ := purS_Column k
  obtain ⟨cs', rfl, e0⟩ := colsU_of y0
  obtain rfl := map_inj (fun _ _ => colU_inj) e0
  exact ⟨c, rfl⟩
theorem lim_of {a b : List Row} (e : a.map rowU = b.map rowU) (L : LenF 1048576 1048576 (.sub fdValueS) (.sub (b.map rowU))) : Fine a ∧ Short a := by
  rw [← e] at L
  obtain ⟨h1, h2, _⟩ := rows_lim L
  exact ⟨h1, h2⟩
end Go.Proofs.Yteaojpfofifmnaa.PE
/- Copies of rows, and whether lists of rows are the same. -/
set_option linter.unusedSimpArgs false
set_option linter.unusedVariables false
set_option maxHeartbeats 4000000
namespace Go.Proofs.Yteaojpfofifmnaa.PE
open Go.RowKit

theorem clipkVal (d : Nat) (l : List (List V)) (n : Nat) (hn : n = l.length) : callX (runD tab noExt (d + 1)) [.rows 0 3 l] 2 123 [.ref 0 0 0 n false] = some (.ref 0 0 0 n true, [.rows 0 3 l]) := by
  subst hn
  simp only [callX, callK]
  rw [runD_eq find123 _ _ _ (by simp)]
  simp -implicitDefEqProofs (disch := omega) only [go_sem, Nat.reduceBEq, Nat.reduceAdd, Nat.reduceSub, Nat.reduceMul, Nat.reduceLeDiff, Nat.reduceEqDiff, Nat.reduceLT, Int.reduceNeg, Int.reduceAdd, Int.reduceSub, Int.reduceMul, Int.reduceLE, Int.reduceLT, Int.reduceEq, Int.reduceToNat, reduceCtorEq, List.take_length, Bool.true_or, resOk]
theorem runcVal (d : Nat) (c : Bool) (l : List (List V)) (h0 : 0 < l.length) (hl : l.length < 4294967296) : runD tab noExt (d + 2) 81 [.sl c 3 l] [] = some ([.ref 0 0 0 l.length true], [.rows 0 3 l]) := by
  rw [runD_eq find81 _ _ _ (by simp)]
  match l, h0, hl with
  | [], h0, _ => exact absurd h0 (by decide)
  | x :: r, _, hl =>
    have h0 : ((r.length : Int) + 1 = 0) = False := eq_false (by omega)
    have h1 : r.length + 1 < 4294967296 := by simpa using hl
    have hc := clipkVal d (x :: r) (r.length + 1) (by simp)
    simp -implicitDefEqProofs (disch := omega) only [go_sem, Nat.reduceBEq, Nat.reduceAdd, Nat.reduceSub, Nat.reduceMul, Nat.reduceLeDiff, Nat.reduceEqDiff, Nat.reduceLT, Int.reduceNeg, Int.reduceAdd, Int.reduceSub, Int.reduceMul, Int.reduceLE, Int.reduceLT, Int.reduceEq, Int.reduceToNat, reduceCtorEq, List.length_cons, h0, h1, hc]
theorem runnVal (d : Nat) (c : Bool) : runD tab noExt (d + 2) 81 [.sl c 3 []] [] = some ([.sl true 3 []], []) := by
  rw [runD_eq find81 _ _ _ (by simp)]
  simp -implicitDefEqProofs (disch := omega) only [go_sem, Nat.reduceBEq, Nat.reduceAdd, Nat.reduceSub, Nat.reduceMul, Nat.reduceLeDiff, Nat.reduceEqDiff, Nat.reduceLT, Int.reduceNeg, Int.reduceAdd, Int.reduceSub, Int.reduceMul, Int.reduceLE, Int.reduceLT, Int.reduceEq, Int.reduceToNat, reduceCtorEq]
theorem cloneVal (d : Nat) (c : Bool) (l : List (List V)) (hl : l.length < 4294967296) : retP (runD tab noExt (d + 2)) 81 [.sl c 3 l] = some [.sl true 3 l] := by
  match l, hl with
  | [], _ => rw [retP, runnVal]; rfl
  | x :: r, hl =>
    rw [retP, runcVal d c (x :: r) (by simp) hl]
    simp -implicitDefEqProofs only [go_sem, Nat.reduceBEq, Nat.reduceAdd, Nat.reduceSub, Nat.reduceMul, Nat.reduceLeDiff, Nat.reduceEqDiff, Nat.reduceLT, Int.reduceNeg, Int.reduceAdd, Int.reduceSub, Int.reduceMul, Int.reduceLE, Int.reduceLT, Int.reduceEq, Int.reduceToNat, reduceCtorEq, List.take_length]
theorem clonexVal (d : Nat) (h : Heap) (c : Bool) (l : List (List V)) (h0 : 0 < l.length) (hl : l.length < 4294967296) (hf : l.all (fun x => x.all freshC) = true) : callX (runD tab noExt (d + 2)) h 0 81 [.sl c 3 l] = some (.ref h.length 0 0 l.length true, h ++ [.rows 0 3 l]) := by
  simp only [callX, callO, pureDAs, mapO, pureDA, pureD, deepest, runcVal d c l h0 hl, BackO, List.all_cons, List.all_nil, scalarA, scalar, freshA, freshC, Bool.false_eq_true, Bool.false_and, Bool.and_self, if_false, if_true, List.map_cons, List.map_nil, oneOf, shA, shC, Nat.zero_add, movedH, clean, hf, shB]
theorem clonenVal (d : Nat) (h : Heap) (c : Bool) : callX (runD tab noExt (d + 2)) h 0 81 [.sl c 3 []] = some (.sl true 3 [], h) := by
  simp only [callX, callO, pureDAs, mapO, pureDA, pureD, deepest, runnVal d c, BackO, List.all_cons, List.all_nil, scalarA, scalar, freshA, freshC, isNil, Bool.false_eq_true, Bool.false_and, Bool.and_self, if_false, if_true, List.map_cons, List.map_nil, oneOf, shA, shC, movedH, List.append_nil]

/-- A row of one's own. -/
def Row.own (b : Bool) (r : Row) : Row := ⟨b, r.vs⟩
def own (b : Bool) (rs : List Row) : List Row := rs.map (Row.own b)
theorem foldl_snoc {α β : Type} (g : α → β) : ∀ (l : List α) (b : List β), l.foldl (fun b x => b ++ [g x]) b = b ++ l.map g
  | [], b => by simp
  | x :: r, b => by simp [foldl_snoc g r]
theorem lt_small {n m : Nat} {i : Nat} (h1 : n ≤ i) (h2 : (i : Int) < m) (h3 : m < 4294967296) : n + 1 < 4294967296 := by omega
end Go.Proofs.Yteaojpfofifmnaa.PE
/- Rows of rows that grow, element by element, each of memory of its own. -/
set_option linter.unusedVariables false
set_option linter.unusedSimpArgs false
namespace Go.Proofs.Yteaojpfofifmnaa.PE
open Go.RowKit

/-- What has been gathered up to now. -/
def Grown (fs : List Fd) (id : Nat) (h : Heap) (done : List (List V)) (xs : List (List U)) : Prop :=
  h[id]? = some (blkOf fs done.length done) ∧ ∃ ids, Zip3 (OwnR h fs) done xs ids ∧ (id :: ids).Nodup
theorem Grown.nest {fs : List Fd} {id : Nat} {h : Heap} {done : List (List V)} {xs : List (List U)} (g : Grown fs id h done xs) (hd : fs.any Fd.deep = true) : h[id]? = some (.nest done.length fs.length done) := by
  have := g.1
  unfold blkOf at this
  rw [hd] at this
  exact this
theorem Grown.len {fs : List Fd} {id : Nat} {h : Heap} {done : List (List V)} {xs : List (List U)} (g : Grown fs id h done xs) : done.length = xs.length := by
  obtain ⟨_, ids, z, _⟩ := g
  exact Zip3_len z
theorem Grown.lt {fs : List Fd} {id : Nat} {h : Heap} {done : List (List V)} {xs : List (List U)} (g : Grown fs id h done xs) : id < h.length := (List.getElem?_eq_some_iff.1 g.1).1
theorem Grown.start {fs : List Fd} {id : Nat} {h : Heap} (hb : h[id]? = some (blkOf fs 0 [])) : Grown fs id h [] [] := ⟨hb, [], rfl, by simp⟩
theorem Grown.frame {fs : List Fd} {id : Nat} {h h1 : Heap} {done : List (List V)} {xs : List (List U)} (g : Grown fs id h done xs) (keep : ∀ j, j < h.length → h1[j]? = h[j]?) : Grown fs id h1 done xs := by
  obtain ⟨g1, ids, z, nd⟩ := g
  refine ⟨(keep id (List.getElem?_eq_some_iff.1 g1).1).trans g1, ids, ?_, nd⟩
  exact Zip3_mono (P := fun _ => True) (fun c x i hr _ => OwnR_frame _ hr (fun j hj => keep j (OwnR_lt _ hr j hj))) z (fun _ _ => trivial)
theorem Grown.add {fs : List Fd} {id : Nat} {h h1 h2 : Heap} {done : List (List V)} {xs : List (List U)} {cells : List V} {x : List U} {js : List Nat} (g : Grown fs id h done xs) (own : OwnR h1 fs cells x js) (nd : js.Nodup)
    (fresh : ∀ j ∈ js, h.length ≤ j) (keep : ∀ j, j < h.length → h1[j]? = h[j]?) (e2 : h2 = h1.set id (blkOf fs (done.length + 1) (done ++ [cells]))) : Grown fs id h2 (done ++ [cells]) (xs ++ [x]) := by
  subst e2
  have hlt := g.lt
  obtain ⟨g1, ids, z, nd1⟩ := g
  have hl1 : id < h1.length := by
    have := keep id hlt
    rw [List.getElem?_eq_getElem hlt] at this
    exact (List.getElem?_eq_some_iff.1 this).1
  obtain ⟨n1, n2⟩ := List.nodup_cons.1 nd1
  have hids : ∀ j ∈ ids, j < h.length := Zip3_all (fun c x i hr => OwnR_lt fs hr) z
  refine ⟨by rw [List.getElem?_set_self hl1, List.length_append]; rfl, ids ++ js, Zip3_app (Zip3_mono (P := fun j => j ∈ ids) (fun c x i hr hp => OwnR_frame fs hr (fun j hj => ?_)) z (fun _ hm => hm)) (Zip3_one (OwnR_frame fs own (fun j hj => ?_))), ?_⟩
  · have hne : id ≠ j := fun e => n1 (e ▸ hp j hj)
    rw [List.getElem?_set_ne hne]
    exact keep j (hids j (hp j hj))
  · have hne : id ≠ j := fun e => by have := fresh j hj; omega
    rw [List.getElem?_set_ne hne]
  · refine List.nodup_cons.2 ⟨fun hm => ?_, List.nodup_append.2 ⟨n2, nd, fun p hp q hq => ?_⟩⟩
    · rcases List.mem_append.1 hm with hm | hm
      · exact n1 hm
      · have := fresh id hm; omega
    · have := hids p hp
      have := fresh q hq
      omega
theorem Grown.set {fs : List Fd} {id : Nat} {h h1 : Heap} {done : List (List V)} {xs : List (List U)} {k : Nat} {b : Blk} (g : Grown fs id h done xs) (hk : h.length ≤ k) : Grown fs id (h.set k b) done xs := by
  rw [List.set_eq_of_length_le hk]
  exact g
theorem Grown.own {fs : List Fd} {id : Nat} {h : Heap} {done : List (List V)} {xs : List (List U)} {n : Nat} {clip : Bool} (g : Grown fs id h done xs) (hn : n = done.length) : ∃ ids, OwnF h (.sub fs) (.ref id n 0 n clip) (.sub xs) ids ∧ ids.Nodup := by
  subst hn
  obtain ⟨g1, ids, z, nd⟩ := g
  refine ⟨id :: ids, ?_, nd⟩
  simp only [OwnF]
  exact ⟨xs, rfl, .inr ⟨id, done.length, clip, done, ids, rfl, g1, rfl, z⟩⟩
end Go.Proofs.Yteaojpfofifmnaa.PE
/- Copies of rows as memory of one's own. -/
set_option linter.unusedVariables false
set_option linter.unusedSimpArgs false
set_option maxHeartbeats 4000000
namespace Go.Proofs.Yteaojpfofifmnaa.PE
open Go.RowKit

theorem val_own (h : Heap) (v : Val) : OwnR h fdValue v.cells (valU v) [] := ownR_mk_Value h v.kind v.n v.s
theorem own_cloneVal (d : Nat) (c : Bool) (vs : List Val) (hl : vs.length < 4294967296) : ∃ v hc ids, runD tab noExt (d + 2) 81 [.sl c 3 (vs.map Val.cells)] [] = some ([v], hc) ∧ OwnF hc (.sub fdValue) v (.sub (vs.map valU)) ids ∧ ids.Nodup := by
  match vs, hl with
  | [], _ => exact ⟨_, _, [], runnVal d c, own_nil rfl, List.nodup_nil⟩
  | x :: r, hl => exact ⟨_, _, [0], runcVal d c ((x :: r).map Val.cells) (by simp) (by simpa using hl), own_row rfl (x :: r) (by simp) rfl (val_own _), by simp⟩
end Go.Proofs.Yteaojpfofifmnaa.PE
/- Sizes of trees of values, rows, columns. -/
set_option linter.unusedVariables false
set_option linter.unusedSimpArgs false
namespace Go.Proofs.Yteaojpfofifmnaa.PE
open Go.RowKit

theorem sum_all {c : List U → Nat} {n : Nat} : ∀ {xs : List (List U)}, (∀ x ∈ xs, c x ≤ n) → sumU c xs ≤ n * xs.length
  | [], _ => by simp [sumU]
  | x :: xs, h => by
    have := sum_all (fun y hy => h y (List.mem_cons_of_mem _ hy)) (xs := xs)
    have := h x List.mem_cons_self
    simp only [sumU, List.length_cons, Nat.mul_add, Nat.mul_one]
    omega
theorem all_of {P : List U → Prop} : ∀ {xs : List (List U)}, (∀ x ∈ xs, P x) → AllU P xs
  | [], _ => trivial
  | x :: xs, h => ⟨h x List.mem_cons_self, all_of (fun y hy => h y (List.mem_cons_of_mem _ hy))⟩
theorem vals_len {n m : Nat} {vs : List Val} (h1 : vs.length ≤ n) (h2 : ∀ v ∈ vs, v.s.size ≤ m) : LenF n m (.sub fdValue) (.sub (vs.map valU)) := by
  simp only [LenF, List.length_map]
  refine ⟨h1, all_of (fun x hx => ?_)⟩
  obtain ⟨v, hv, rfl⟩ := List.mem_map.1 hx
  simp only [fdValue, valU, LenR, LenF, true_and, and_true]
  exact h2 v hv
theorem vals_cnt (vs : List Val) : cntF (.sub fdValue) (.sub (vs.map valU)) = 3 * vs.length := by
  simp only [cntF]
  induction vs with
  | nil => rfl
  | cons v vs ih =>
    have e : cntR fdValue (valU v) = 3 := rfl
    simp only [List.map_cons, sumU, e, ih, List.length_cons]
    omega
theorem rows_big {rs : List Row} (h1 : rs.length ≤ 1048576) (h2 : ∀ r ∈ rs, r.vs.length ≤ 1048576 ∧ ∀ w ∈ r.vs, w.s.size ≤ 1048576) : LenF big big (.sub fdValueS) (.sub (rs.map rowU)) := by
  simp only [LenF, List.length_map]
  refine ⟨by unfold big; omega, all_of (fun x hx => ?_)⟩
  obtain ⟨r, hr, rfl⟩ := List.mem_map.1 hx
  have := LenF_mono (n' := big) (m' := big) (by decide) (by decide) _ (vals_len (h2 r hr).1 (h2 r hr).2)
  simp only [fdValueS, rowU, vsU, LenR]
  exact ⟨this, trivial⟩
theorem rows_cnt {rs : List Row} {n : Nat} (h1 : rs.length ≤ n) (h2 : ∀ r ∈ rs, r.vs.length ≤ 1048576) : cntF (.sub fdValueS) (.sub (rs.map rowU)) ≤ 4000000 * n := by
  have := sum_all (c := cntR fdValueS) (n := 4000000) (xs := rs.map rowU) (fun x hx => by
    obtain ⟨r, hr, rfl⟩ := List.mem_map.1 hx
    have e : cntR fdValueS (rowU r) = cntF (.sub fdValue) (.sub (r.vs.map valU)) := by simp only [fdValueS, rowU, vsU, cntR]; omega
    have := h2 r hr
    rw [e, vals_cnt]
    omega)
  rw [List.length_map] at this
  simp only [cntF]
  have := Nat.mul_le_mul_left 4000000 h1
  omega
theorem cols_cnt (cs : List Col) : cntF (.sub fdColumn) (.sub (cs.map colU)) = 2 * cs.length := by
  simp only [cntF]
  induction cs with
  | nil => rfl
  | cons v vs ih =>
    have e : cntR fdColumn (colU v) = 2 := rfl
    simp only [List.map_cons, sumU, e, ih, List.length_cons]
    omega
end Go.Proofs.Yteaojpfofifmnaa.PE
/- Whether two lists of values are the same. -/
set_option linter.unusedVariables false
set_option linter.unusedSimpArgs false
set_option maxHeartbeats 4000000
namespace Go.Proofs.Yteaojpfofifmnaa.PE
open Go.RowKit

end Go.Proofs.Yteaojpfofifmnaa.PE
/- Copies of writes and logs: the program's, as memory of one's own; the reference's. -/
set_option linter.unusedSimpArgs false
set_option linter.unusedVariables false
set_option maxHeartbeats 4000000
namespace Go.Proofs.Yteaojpfofifmnaa.PE
open Go.RowKit

def wrU (w : Wr) : List U := [.int w.key, .sub (w.row.vs.map valU), .bool w.gone]
def entU (e : Ent) : List U := [.int e.time, .sub (e.ws.map wrU)]
def FineW (ws : List Wr) : Prop := ws.length < 1099511627776 ∧ ws.length < 4294967296 ∧ ∀ w ∈ ws, w.row.vs.length < 4294967296
theorem grow_write {h : Heap} {done : List (List V)} {xs : List (List U)} (g : Grown fdWrite 0 h done xs) (d : Nat) (key : Int) (rc : Bool) (vs : List Val) (gone : Bool) (hl : vs.length < 4294967296) :
    ∃ v h1, callX (runD tab noExt (d + 2)) (h ++ [.box [.int .i64 key, .sl rc 3 (vs.map Val.cells), .bool gone]]) 0 81 [.sl rc 3 (vs.map Val.cells)] = some (v, h1) ∧ h1[h.length]? = some (.box [.int .i64 key, .sl rc 3 (vs.map Val.cells), .bool gone]) ∧ h.length < h1.length ∧ ((∃ c, v = .sl c 3 []) ∨ ∃ id st n clip, v = .ref id st 0 n clip) ∧
      (h1.set h.length (.box [.int .i64 key, v, .bool gone]))[0]? = some (.nest done.length 3 done) ∧
      Grown fdWrite 0 ((h1.set h.length (.box [.int .i64 key, v, .bool gone])).set 0 (.nest (done.length + 1) 3 (done ++ [[.int .i64 key, v, .bool gone]]))) (done ++ [[.int .i64 key, v, .bool gone]]) (xs ++ [[.int key, .sub (vs.map valU), .bool gone]]) := by
  obtain ⟨v, hc, is0, e1, e2, e3⟩ := own_cloneVal d rc vs hl
  obtain ⟨w, h1, js, k1, k2, k3, k4, k5, k6⟩ := own_call (h := h ++ [.box [.int .i64 key, .sl rc 3 (vs.map Val.cells), .bool gone]]) (args := [.sl rc 3 (vs.map Val.cells)]) (by simp only [pureDAs, mapO, pureDA, pureD]) e1 e2 e3
  have hl0 : (h ++ [Blk.box [.int .i64 key, .sl rc 3 (vs.map Val.cells), .bool gone]]).length = h.length + 1 := by simp
  rw [hl0] at k4 k5 k6
  have hb : h1[h.length]? = some (.box [.int .i64 key, .sl rc 3 (vs.map Val.cells), .bool gone]) := (k5 _ (by omega)).trans (by simp)
  have hlt := g.lt
  have k5' : ∀ j, j < h.length → (h1.set h.length (.box [.int .i64 key, w, .bool gone]))[j]? = h[j]? := fun j hj => by
    rw [List.getElem?_set_ne (by omega), k5 j (by omega), List.getElem?_append_left hj]
  refine ⟨w, h1, k1, hb, by omega, own_cases k2, (k5' 0 hlt).trans (g.nest (by rfl)), ?_⟩
  refine g.add (OwnR_frame _ (ownR_mk_Write k2) (fun j hj => ?_)) k3 (fun j hj => by have := k4 j hj; omega) k5' rfl
  have := k4 j hj
  rw [List.getElem?_set_ne (by omega)]
-- find77
theorem own_writesCopy (d : Nat) (c : Bool) (ws : List Wr) (hf : FineW ws) : ∃ v hc ids, runD tab noExt (d + 3) 77 [.sl c 3 (ws.map Wr.cells)] [] = some ([v], hc) ∧ OwnF hc (.sub fdWrite) v (.sub (ws.map wrU)) ids ∧ ids.Nodup := by
  obtain ⟨hf0, hf1, hf2⟩ := hf
  obtain ⟨⟨h', done⟩, ⟨g1, g2⟩, e⟩ := LoopK_inv (run := runD tab noExt (d + 2)) (draw := drawI (runD tab noExt (d + 2))) (live := [3, 6, 7, 8]) (out := [3]) (c := L77x0) ws.length
    (fun i (b : Heap × List (List V)) => Grown fdWrite 0 b.1 b.2 ((ws.take i).map wrU) ∧ b.2.length = i)
    (fun i b => [(3, .ref 0 b.2.length 0 b.2.length false), (6, .sl c 3 (ws.map Wr.cells)), (7, .int .i64 ws.length), (8, .int .i64 (i : Nat))]) (fun b => b.1) (fun b => some (.exit 0, [(3, .ref 0 b.2.length 0 b.2.length false)], b.1))
    (fun b K hb => by
      rw [LoopK_eq]
      simp -implicitDefEqProofs only [go_sem, Nat.reduceBEq, Nat.reduceAdd, Nat.reduceSub, Nat.reduceMul, Nat.reduceLeDiff, Nat.reduceEqDiff, Nat.reduceLT, Int.reduceNeg, Int.reduceAdd, Int.reduceSub, Int.reduceMul, Int.reduceLE, Int.reduceLT, Int.reduceEq, Int.reduceToNat, reduceCtorEq, evL77x0, B77x0, Int.lt_irrefl]) (fun i b K hi hb => by
      obtain ⟨h, done⟩ := b
      obtain ⟨g, glen⟩ := hb
      simp only at g glen ⊢
      have hx := List.getElem?_eq_getElem hi
      generalize ws[i] = w at hx
      have hfw := hf2 w (List.mem_of_getElem? hx)
      have hi' : (i : Int) < ws.length := by omega
      have hsm : done.length + 1 < 4294967296 := by omega
      rw [take_snoc hx, List.map_append]
      obtain ⟨key, ⟨rc, vs⟩, gone⟩ := w
      obtain ⟨v, h1, k1, k2, k3, kw, k5, g2⟩ := grow_write g d key rc vs gone hfw
      refine ⟨((h1.set h.length (.box [.int .i64 key, v, .bool gone])).set 0 (.nest (done.length + 1) 3 (done ++ [[.int .i64 key, v, .bool gone]])), done ++ [[.int .i64 key, v, .bool gone]]), ⟨g2, by simp; omega⟩, ?_⟩
      rw [LoopK_eq]
      rcases kw with ⟨c', rfl⟩ | ⟨id, st, n, clip, rfl⟩ <;> simp -implicitDefEqProofs (disch := omega) only [go_sem, Nat.reduceBEq, Nat.reduceAdd, Nat.reduceSub, Nat.reduceMul, Nat.reduceLeDiff, Nat.reduceEqDiff, Nat.reduceLT, Int.reduceNeg, Int.reduceAdd, Int.reduceSub, Int.reduceMul, Int.reduceLE, Int.reduceLT, Int.reduceEq, Int.reduceToNat, reduceCtorEq, evL77x0, B77x0, hi', hx, Wr.cells, Row.v, k1, k2, k3, k5, hsm, List.getElem?_set_self, at_end, at_end_add, set_end, set_end_add, elemsN, elemN, listN, appendN, okN, small, IntWalk.i64_in]) 1099511627775 (by omega) ([.nest 0 3 []], []) ⟨Grown.start rfl, rfl⟩
  simp only at g1 g2 e
  rw [List.take_of_length_le (Nat.le_refl _)] at g1
  obtain ⟨ids, o1, o2⟩ := g1.own (n := done.length) (clip := true) rfl
  refine ⟨_, h', ids, ?_, o1, o2⟩
  have hn := g1.nest (by rfl)
  have hc : callX (runD tab noExt (d + 2)) h' 2 121 [.ref 0 done.length 0 done.length false] = some (.ref 0 done.length 0 done.length true, h') := by
    simp only [callX, callK]
    rw [runD_eq find121 _ _ _ (by simp)]
    have hn' : h'[0]? = some (.nest done.length 3 done) := hn
    simp -implicitDefEqProofs (disch := omega) only [go_sem, Nat.reduceBEq, Nat.reduceAdd, Nat.reduceSub, Nat.reduceMul, Nat.reduceLeDiff, Nat.reduceEqDiff, Nat.reduceLT, Int.reduceNeg, Int.reduceAdd, Int.reduceSub, Int.reduceMul, Int.reduceLE, Int.reduceLT, Int.reduceEq, Int.reduceToNat, reduceCtorEq, Bool.true_or, resOk, hn']
  rw [runD_eq find77 _ _ _ (by simp)]
  simp -implicitDefEqProofs (disch := omega) only [go_sem, Nat.reduceBEq, Nat.reduceAdd, Nat.reduceSub, Nat.reduceMul, Nat.reduceLeDiff, Nat.reduceEqDiff, Nat.reduceLT, Int.reduceNeg, Int.reduceAdd, Int.reduceSub, Int.reduceMul, Int.reduceLE, Int.reduceLT, Int.reduceEq, Int.reduceToNat, reduceCtorEq]
  try simp -implicitDefEqProofs only [go_sem, Nat.reduceBEq, Nat.reduceAdd, Nat.reduceSub, Nat.reduceMul, Nat.reduceLeDiff, Nat.reduceEqDiff, Nat.reduceLT, Int.reduceNeg, Int.reduceAdd, Int.reduceSub, Int.reduceMul, Int.reduceLE, Int.reduceLT, Int.reduceEq, Int.reduceToNat, reduceCtorEq] at e
  rw [e]
  simp -implicitDefEqProofs (disch := omega) only [go_sem, Nat.reduceBEq, Nat.reduceAdd, Nat.reduceSub, Nat.reduceMul, Nat.reduceLeDiff, Nat.reduceEqDiff, Nat.reduceLT, Int.reduceNeg, Int.reduceAdd, Int.reduceSub, Int.reduceMul, Int.reduceLE, Int.reduceLT, Int.reduceEq, Int.reduceToNat, reduceCtorEq, hc]
end Go.Proofs.Yteaojpfofifmnaa.PE
/- Copies of logs: the program's, as memory of one's own; the reference's. -/
set_option linter.unusedSimpArgs false
set_option linter.unusedVariables false
set_option maxHeartbeats 4000000
namespace Go.Proofs.Yteaojpfofifmnaa.PE
open Go.RowKit

def FineE (l : List Ent) : Prop := l.length < 4294967296 ∧ ∀ e ∈ l, FineW e.ws
theorem grow_ent {h : Heap} {done : List (List V)} {xs : List (List U)} (g : Grown fdEntry 0 h done xs) (d : Nat) (time : Int) (wc : Bool) (ws : List Wr) (hl : FineW ws) :
    ∃ v h1, callX (runD tab noExt (d + 3)) (h ++ [.box [.int .i64 time, .sl wc 3 (ws.map Wr.cells)]]) 0 77 [.sl wc 3 (ws.map Wr.cells)] = some (v, h1) ∧ h1[h.length]? = some (.box [.int .i64 time, .sl wc 3 (ws.map Wr.cells)]) ∧ h.length < h1.length ∧ ((∃ c, v = .sl c 3 []) ∨ ∃ id st n clip, v = .ref id st 0 n clip) ∧
      h1[0]? = some (.nest done.length 2 done) ∧
      Grown fdEntry 0 (h1.set 0 (.nest (done.length + 1) 2 (done ++ [[.int .i64 time, v]]))) (done ++ [[.int .i64 time, v]]) (xs ++ [[.int time, .sub (ws.map wrU)]]) := by
  obtain ⟨v, hc, is0, e1, e2, e3⟩ := own_writesCopy d wc ws hl
  obtain ⟨w, h1, js, k1, k2, k3, k4, k5, k6⟩ := own_call (h := h ++ [.box [.int .i64 time, .sl wc 3 (ws.map Wr.cells)]]) (args := [.sl wc 3 (ws.map Wr.cells)]) (by simp only [pureDAs, mapO, pureDA, pureD]) e1 e2 e3
  have hl0 : (h ++ [Blk.box [.int .i64 time, .sl wc 3 (ws.map Wr.cells)]]).length = h.length + 1 := by simp
  rw [hl0] at k4 k5 k6
  have hb : h1[h.length]? = some (.box [.int .i64 time, .sl wc 3 (ws.map Wr.cells)]) := (k5 _ (by omega)).trans (by simp)
  have hlt := g.lt
  have k5' : ∀ j, j < h.length → h1[j]? = h[j]? := fun j hj => by
    rw [k5 j (by omega), List.getElem?_append_left hj]
  refine ⟨w, h1, k1, hb, by omega, own_cases k2, (k5' 0 hlt).trans (g.nest (by rfl)), ?_⟩
  exact g.add (ownR_mk_Entry k2) k3 (fun j hj => by have := k4 j hj; omega) k5' rfl
-- find88
theorem own_logCopy (d : Nat) (c : Bool) (l : List Ent) (hf : FineE l) : ∃ v hc ids, runD tab noExt (d + 4) 88 [.sl c 2 (l.map Ent.cells)] [] = some ([v], hc) ∧ OwnF hc (.sub fdEntry) v (.sub (l.map entU)) ids ∧ ids.Nodup := by
  obtain ⟨hf1, hf2⟩ := hf
  obtain ⟨⟨h', done⟩, ⟨g1, g2⟩, e⟩ := LoopK_inv (run := runD tab noExt (d + 3)) (draw := drawI (runD tab noExt (d + 3))) (live := [3, 6, 7, 8]) (out := [3]) (c := L88x0) l.length
    (fun i (b : Heap × List (List V)) => Grown fdEntry 0 b.1 b.2 ((l.take i).map entU) ∧ b.2.length = i)
    (fun i b => [(3, .ref 0 b.2.length 0 b.2.length false), (6, .sl c 2 (l.map Ent.cells)), (7, .int .i64 l.length), (8, .int .i64 (i : Nat))]) (fun b => b.1) (fun b => some (.exit 0, [(3, .ref 0 b.2.length 0 b.2.length false)], b.1))
    (fun b K hb => by
      rw [LoopK_eq]
      simp -implicitDefEqProofs only [go_sem, Nat.reduceBEq, Nat.reduceAdd, Nat.reduceSub, Nat.reduceMul, Nat.reduceLeDiff, Nat.reduceEqDiff, Nat.reduceLT, Int.reduceNeg, Int.reduceAdd, Int.reduceSub, Int.reduceMul, Int.reduceLE, Int.reduceLT, Int.reduceEq, Int.reduceToNat, reduceCtorEq, evL88x0, B88x0, Int.lt_irrefl]) (fun i b K hi hb => by
      obtain ⟨h, done⟩ := b
      obtain ⟨g, glen⟩ := hb
      simp only at g glen ⊢
      have hx := List.getElem?_eq_getElem hi
      generalize l[i] = w at hx
      have hfw := hf2 w (List.mem_of_getElem? hx)
      have hi' : (i : Int) < l.length := by omega
      have hsm : done.length + 1 < 4294967296 := by omega
      rw [take_snoc hx, List.map_append]
      obtain ⟨time, wc, ws⟩ := w
      obtain ⟨v, h1, k1, k2, k3, kw, k5, g2⟩ := grow_ent g d time wc ws hfw
      refine ⟨(h1.set 0 (.nest (done.length + 1) 2 (done ++ [[.int .i64 time, v]])), done ++ [[.int .i64 time, v]]), ⟨g2, by simp; omega⟩, ?_⟩
      rw [LoopK_eq]
      rcases kw with ⟨c', rfl⟩ | ⟨id, st, n, clip, rfl⟩ <;> simp -implicitDefEqProofs (disch := omega) only [go_sem, Nat.reduceBEq, Nat.reduceAdd, Nat.reduceSub, Nat.reduceMul, Nat.reduceLeDiff, Nat.reduceEqDiff, Nat.reduceLT, Int.reduceNeg, Int.reduceAdd, Int.reduceSub, Int.reduceMul, Int.reduceLE, Int.reduceLT, Int.reduceEq, Int.reduceToNat, reduceCtorEq, evL88x0, B88x0, evC_draw, evD88x0, E88x0, hi', hx, Ent.cells, Ent.v, k1, k2, k3, k5, hsm, List.getElem?_set_self, at_end, at_end_add, set_end, set_end_add, elemsN, elemN, listN, appendN, okN, small, IntWalk.i64_in]) 1099511627775 (by omega) ([.nest 0 2 []], []) ⟨Grown.start rfl, rfl⟩
  simp only at g1 g2 e
  rw [List.take_of_length_le (Nat.le_refl _)] at g1
  obtain ⟨ids, o1, o2⟩ := g1.own (n := done.length) (clip := true) rfl
  refine ⟨_, h', ids, ?_, o1, o2⟩
  have hn' : h'[0]? = some (.nest done.length 2 done) := g1.nest (by rfl)
  have hc : callX (runD tab noExt (d + 3)) h' 2 79 [.ref 0 done.length 0 done.length false] = some (.ref 0 done.length 0 done.length true, h') := by
    simp only [callX, callK]
    rw [runD_eq find79 _ _ _ (by simp)]
    simp -implicitDefEqProofs (disch := omega) only [go_sem, Nat.reduceBEq, Nat.reduceAdd, Nat.reduceSub, Nat.reduceMul, Nat.reduceLeDiff, Nat.reduceEqDiff, Nat.reduceLT, Int.reduceNeg, Int.reduceAdd, Int.reduceSub, Int.reduceMul, Int.reduceLE, Int.reduceLT, Int.reduceEq, Int.reduceToNat, reduceCtorEq, Bool.true_or, resOk, hn']
  rw [runD_eq find88 _ _ _ (by simp)]
  simp -implicitDefEqProofs (disch := omega) only [go_sem, Nat.reduceBEq, Nat.reduceAdd, Nat.reduceSub, Nat.reduceMul, Nat.reduceLeDiff, Nat.reduceEqDiff, Nat.reduceLT, Int.reduceNeg, Int.reduceAdd, Int.reduceSub, Int.reduceMul, Int.reduceLE, Int.reduceLT, Int.reduceEq, Int.reduceToNat, reduceCtorEq]
  try simp -implicitDefEqProofs only [go_sem, Nat.reduceBEq, Nat.reduceAdd, Nat.reduceSub, Nat.reduceMul, Nat.reduceLeDiff, Nat.reduceEqDiff, Nat.reduceLT, Int.reduceNeg, Int.reduceAdd, Int.reduceSub, Int.reduceMul, Int.reduceLE, Int.reduceLT, Int.reduceEq, Int.reduceToNat, reduceCtorEq] at e
  rw [e]
  simp -implicitDefEqProofs (disch := omega) only [go_sem, Nat.reduceBEq, Nat.reduceAdd, Nat.reduceSub, Nat.reduceMul, Nat.reduceLeDiff, Nat.reduceEqDiff, Nat.reduceLT, Int.reduceNeg, Int.reduceAdd, Int.reduceSub, Int.reduceMul, Int.reduceLE, Int.reduceLT, Int.reduceEq, Int.reduceToNat, reduceCtorEq, hc]
def Wr.own (w : Wr) : Wr := ⟨w.key, ⟨false, w.row.vs⟩, w.gone⟩
def Ent.own (e : Ent) : Ent := ⟨e.time, false, e.ws.map Wr.own⟩
-- find152
theorem run_own4 (d : Nat) (c : Bool) (l : List (List V)) (hl : l.length < 4294967296) : retP (runD tab noExt (d + 1)) 152 [.sl c 3 l] = some [.sl false 3 l] := by
  rw [retP, runD_eq find152 _ _ _ (by simp)]
  have hl' : 0 + l.length < 4294967296 := by omega
  simp -implicitDefEqProofs (disch := omega) only [go_sem, Nat.reduceBEq, Nat.reduceAdd, Nat.reduceSub, Nat.reduceMul, Nat.reduceLeDiff, Nat.reduceEqDiff, Nat.reduceLT, Int.reduceNeg, Int.reduceAdd, Int.reduceSub, Int.reduceMul, Int.reduceLE, Int.reduceLT, Int.reduceEq, Int.reduceToNat, reduceCtorEq, List.take_length, hl, hl']
theorem loop_l14 (d : Nat) (c : Bool) (ws : List Wr) (hf : FineW ws) (K : Nat) (hK : (ws).length ≤ K) (b0 : List Wr) (hb0 : (fun (i : Nat) (b : List Wr) => b.length ≤ i) 0 b0) : LoopS (runD tab noExt (d + 1)) (drawI (runD tab noExt (d + 1))) [0, 3, 4] [3] L128x0 ([.rows 0 3 [], .rows (b0).length 3 ((b0).map Wr.cells)] : Heap).length K [(0, .sl c 3 (ws.map Wr.cells)), (3, .ref 1 (b0).length 0 (b0).length false), (4, .int .i64 (0 : Nat))] [.rows 0 3 [], .rows (b0).length 3 ((b0).map Wr.cells)] = (some (.exit 0, [(3, .ref 1 (((ws).foldl (fun b x => b ++ [Wr.own x]) b0)).length 0 (((ws).foldl (fun b x => b ++ [Wr.own x]) b0)).length false)], [.rows 0 3 [], .rows (((ws).foldl (fun b x => b ++ [Wr.own x]) b0)).length 3 ((((ws).foldl (fun b x => b ++ [Wr.own x]) b0)).map Wr.cells)]) : Out) ∧ (fun (i : Nat) (b : List Wr) => b.length ≤ i) (ws).length ((ws).foldl (fun b x => b ++ [Wr.own x]) b0) := by
  have key := LoopS_foldI (run := (runD tab noExt (d + 1))) (draw := drawI (runD tab noExt (d + 1))) (live := [0, 3, 4]) (out := [3]) (c := L128x0) (n0 := ([.rows 0 3 [], .rows (b0).length 3 ((b0).map Wr.cells)] : Heap).length) (ws) (fun b x => b ++ [Wr.own x]) (fun (i : Nat) (b : List Wr) => b.length ≤ i) (fun (i : Nat) (b : List Wr) => [(0, .sl c 3 (ws.map Wr.cells)), (3, .ref 1 (b).length 0 (b).length false), (4, .int .i64 (i : Nat))]) (fun (i : Nat) (b : List Wr) => [.rows 0 3 [], .rows (b).length 3 ((b).map Wr.cells)]) (fun b => (some (.exit 0, [(3, .ref 1 (b).length 0 (b).length false)], [.rows 0 3 [], .rows (b).length 3 ((b).map Wr.cells)]) : Out)) (fun b K hb => ?_) (fun (i : Nat) (x : Wr) b K hi hx hb => ?_) K hK b0 hb0
  · simp only [Int.natCast_zero] at key
    exact key
  · rw [LoopS_eq]
    simp -implicitDefEqProofs only [go_sem, Nat.reduceBEq, Nat.reduceAdd, Nat.reduceSub, Nat.reduceMul, Nat.reduceLeDiff, Nat.reduceEqDiff, Nat.reduceLT, Int.reduceNeg, Int.reduceAdd, Int.reduceSub, Int.reduceMul, Int.reduceLE, Int.reduceLT, Int.reduceEq, Int.reduceToNat, reduceCtorEq, evL128x0, B128x0, Int.lt_irrefl]
  · have hown := run_own4 d x.row.clip (x.row.vs.map Val.cells) (by have := hf.2.2 x (List.mem_of_getElem? hx); simpa using this); have hsm : b.length + 1 < 4294967296 := (by have := hf.2.1; omega); have hlen0 := hf.1
    all_goals
      refine ⟨?_, ?_⟩
      · (simp; omega)
      · rw [LoopS_eq]
        simp -implicitDefEqProofs (disch := first | omega | assumption) only [go_sem, Nat.reduceBEq, Nat.reduceAdd, Nat.reduceSub, Nat.reduceMul, Nat.reduceLeDiff, Nat.reduceEqDiff, Nat.reduceLT, Int.reduceNeg, Int.reduceAdd, Int.reduceSub, Int.reduceMul, Int.reduceLE, Int.reduceLT, Int.reduceEq, Int.reduceToNat, reduceCtorEq, evL128x0, B128x0, hi, hx, IntWalk.i64_in, List.map_append, List.foldl_cons, hx, hown, hsm, Wr.cells, Row.v, Wr.own, List.map_cons, List.map_nil]
        skip
-- find128
theorem run_l14 (d : Nat) (c : Bool) (ws : List Wr) (hf : FineW ws) : retP (runD tab noExt (d + 2)) 128 [.sl c 3 (ws.map Wr.cells)] = some [.sl false 3 ((ws.map Wr.own).map Wr.cells)] := by
  rw [retP, runD_eq find128 _ _ _ (by simp)]
  obtain ⟨hl, _⟩ := loop_l14 d c ws hf 1099511627775 (by have := hf.1; omega) [] (by simp)
  rw [foldl_snoc, List.nil_append] at hl
  simp only [List.length_nil, List.map_nil, Int.natCast_zero] at hl
  simp -implicitDefEqProofs (disch := omega) only [go_sem, Nat.reduceBEq, Nat.reduceAdd, Nat.reduceSub, Nat.reduceMul, Nat.reduceLeDiff, Nat.reduceEqDiff, Nat.reduceLT, Int.reduceNeg, Int.reduceAdd, Int.reduceSub, Int.reduceMul, Int.reduceLE, Int.reduceLT, Int.reduceEq, Int.reduceToNat, reduceCtorEq]
  try simp -implicitDefEqProofs only [go_sem, Nat.reduceBEq, Nat.reduceAdd, Nat.reduceSub, Nat.reduceMul, Nat.reduceLeDiff, Nat.reduceEqDiff, Nat.reduceLT, Int.reduceNeg, Int.reduceAdd, Int.reduceSub, Int.reduceMul, Int.reduceLE, Int.reduceLT, Int.reduceEq, Int.reduceToNat, reduceCtorEq] at hl
  rw [hl]
  simp -implicitDefEqProofs (disch := omega) only [go_sem, Nat.reduceBEq, Nat.reduceAdd, Nat.reduceSub, Nat.reduceMul, Nat.reduceLeDiff, Nat.reduceEqDiff, Nat.reduceLT, Int.reduceNeg, Int.reduceAdd, Int.reduceSub, Int.reduceMul, Int.reduceLE, Int.reduceLT, Int.reduceEq, Int.reduceToNat, reduceCtorEq]
  first | rfl | (rw [List.take_of_length_le (by simp)])
theorem loop_l18 (d : Nat) (c : Bool) (l : List Ent) (hf : FineE l) (K : Nat) (hK : (l).length ≤ K) (b0 : List Ent) (hb0 : (fun (i : Nat) (b : List Ent) => b.length ≤ i) 0 b0) : LoopS (runD tab noExt (d + 2)) (drawI (runD tab noExt (d + 2))) [0, 3, 4] [3] L87x0 ([.rows 0 2 [], .rows (b0).length 2 ((b0).map Ent.cells)] : Heap).length K [(0, .sl c 2 (l.map Ent.cells)), (3, .ref 1 (b0).length 0 (b0).length false), (4, .int .i64 (0 : Nat))] [.rows 0 2 [], .rows (b0).length 2 ((b0).map Ent.cells)] = (some (.exit 0, [(3, .ref 1 (((l).foldl (fun b x => b ++ [Ent.own x]) b0)).length 0 (((l).foldl (fun b x => b ++ [Ent.own x]) b0)).length false)], [.rows 0 2 [], .rows (((l).foldl (fun b x => b ++ [Ent.own x]) b0)).length 2 ((((l).foldl (fun b x => b ++ [Ent.own x]) b0)).map Ent.cells)]) : Out) ∧ (fun (i : Nat) (b : List Ent) => b.length ≤ i) (l).length ((l).foldl (fun b x => b ++ [Ent.own x]) b0) := by
  have key := LoopS_foldI (run := (runD tab noExt (d + 2))) (draw := drawI (runD tab noExt (d + 2))) (live := [0, 3, 4]) (out := [3]) (c := L87x0) (n0 := ([.rows 0 2 [], .rows (b0).length 2 ((b0).map Ent.cells)] : Heap).length) (l) (fun b x => b ++ [Ent.own x]) (fun (i : Nat) (b : List Ent) => b.length ≤ i) (fun (i : Nat) (b : List Ent) => [(0, .sl c 2 (l.map Ent.cells)), (3, .ref 1 (b).length 0 (b).length false), (4, .int .i64 (i : Nat))]) (fun (i : Nat) (b : List Ent) => [.rows 0 2 [], .rows (b).length 2 ((b).map Ent.cells)]) (fun b => (some (.exit 0, [(3, .ref 1 (b).length 0 (b).length false)], [.rows 0 2 [], .rows (b).length 2 ((b).map Ent.cells)]) : Out)) (fun b K hb => ?_) (fun (i : Nat) (x : Ent) b K hi hx hb => ?_) K hK b0 hb0
  · simp only [Int.natCast_zero] at key
    exact key
  · rw [LoopS_eq]
    simp -implicitDefEqProofs only [go_sem, Nat.reduceBEq, Nat.reduceAdd, Nat.reduceSub, Nat.reduceMul, Nat.reduceLeDiff, Nat.reduceEqDiff, Nat.reduceLT, Int.reduceNeg, Int.reduceAdd, Int.reduceSub, Int.reduceMul, Int.reduceLE, Int.reduceLT, Int.reduceEq, Int.reduceToNat, reduceCtorEq, evL87x0, B87x0, Int.lt_irrefl]
  · have hown := run_l14 d x.wc x.ws (hf.2 x (List.mem_of_getElem? hx)); have hsm : b.length + 1 < 4294967296 := (by have := hf.1; omega); have hlen0 := hf.1
    all_goals
      refine ⟨?_, ?_⟩
      · (simp; omega)
      · rw [LoopS_eq]
        simp -implicitDefEqProofs (disch := first | omega | assumption) only [go_sem, Nat.reduceBEq, Nat.reduceAdd, Nat.reduceSub, Nat.reduceMul, Nat.reduceLeDiff, Nat.reduceEqDiff, Nat.reduceLT, Int.reduceNeg, Int.reduceAdd, Int.reduceSub, Int.reduceMul, Int.reduceLE, Int.reduceLT, Int.reduceEq, Int.reduceToNat, reduceCtorEq, evL87x0, B87x0, hi, hx, IntWalk.i64_in, List.map_append, List.foldl_cons, evC_draw, evD87x0, E87x0, hx, hown, hsm, Ent.cells, Ent.v, Ent.own, List.map_cons, List.map_nil]
        skip
-- find87
theorem run_l18 (d : Nat) (c : Bool) (l : List Ent) (hf : FineE l) : retP (runD tab noExt (d + 3)) 87 [.sl c 2 (l.map Ent.cells)] = some [.sl false 2 ((l.map Ent.own).map Ent.cells)] := by
  rw [retP, runD_eq find87 _ _ _ (by simp)]
  obtain ⟨hl, _⟩ := loop_l18 d c l hf 1099511627775 (by have := hf.1; omega) [] (by simp)
  rw [foldl_snoc, List.nil_append] at hl
  simp only [List.length_nil, List.map_nil, Int.natCast_zero] at hl
  simp -implicitDefEqProofs (disch := omega) only [go_sem, Nat.reduceBEq, Nat.reduceAdd, Nat.reduceSub, Nat.reduceMul, Nat.reduceLeDiff, Nat.reduceEqDiff, Nat.reduceLT, Int.reduceNeg, Int.reduceAdd, Int.reduceSub, Int.reduceMul, Int.reduceLE, Int.reduceLT, Int.reduceEq, Int.reduceToNat, reduceCtorEq]
  try simp -implicitDefEqProofs only [go_sem, Nat.reduceBEq, Nat.reduceAdd, Nat.reduceSub, Nat.reduceMul, Nat.reduceLeDiff, Nat.reduceEqDiff, Nat.reduceLT, Int.reduceNeg, Int.reduceAdd, Int.reduceSub, Int.reduceMul, Int.reduceLE, Int.reduceLT, Int.reduceEq, Int.reduceToNat, reduceCtorEq] at hl
  rw [hl]
  simp -implicitDefEqProofs (disch := omega) only [go_sem, Nat.reduceBEq, Nat.reduceAdd, Nat.reduceSub, Nat.reduceMul, Nat.reduceLeDiff, Nat.reduceEqDiff, Nat.reduceLT, Int.reduceNeg, Int.reduceAdd, Int.reduceSub, Int.reduceMul, Int.reduceLE, Int.reduceLT, Int.reduceEq, Int.reduceToNat, reduceCtorEq]
  first | rfl | (rw [List.take_of_length_le (by simp)])
/-! ### logs as trees -/
theorem wr_pur (w : Wr) : PurR fdWrite w.cells (wrU w) := purR_mk_Write (pur_map val_pur _ 3 rfl _)
theorem ent_pur (e : Ent) : PurR fdEntry e.cells (entU e) := purR_mk_Entry (pur_map wr_pur _ 3 rfl _)
theorem wrs_each {y : List (List U)} {p : V} (h : PurF (.sub fdWrite) p (.sub y)) : ∃ (c : Bool) (ws : List Wr), p = .sl c 3 (ws.map Wr.cells) ∧ y = ws.map wrU := by
  obtain ⟨c, ct, rfl, hz⟩ := purS_Write h
  obtain ⟨ws, rfl, rfl⟩ := typ_of (f := Wr.cells) (g := wrU) (fun c x hr => by
    obtain ⟨a0, p1, y1, a2, rfl, rfl, g⟩ := purR_Write hr
    obtain ⟨cl, ct, rfl, hz⟩ := purS_Value g
    obtain ⟨vs, rfl, rfl⟩ := valsU_of hz
    exact ⟨⟨a0, ⟨cl, vs⟩, a2⟩, rfl, rfl⟩) hz
  exact ⟨c, ws, rfl, rfl⟩
theorem ents_each {y : List (List U)} {p : V} (h : PurF (.sub fdEntry) p (.sub y)) : ∃ (c : Bool) (l : List Ent), p = .sl c 2 (l.map Ent.cells) ∧ y = l.map entU := by
  obtain ⟨c, ct, rfl, hz⟩ := purS_Entry h
  obtain ⟨l, rfl, rfl⟩ := typ_of (f := Ent.cells) (g := entU) (fun c x hr => by
    obtain ⟨a0, p1, y1, rfl, rfl, g⟩ := purR_Entry hr
    obtain ⟨cl, ws, rfl, rfl⟩ := wrs_each g
    exact ⟨⟨a0, cl, ws⟩, rfl, rfl⟩) hz
  exact ⟨c, l, rfl, rfl⟩
theorem wrU_inj {a b : Wr} (h : wrU a = wrU b) : a.own = b.own := by
  simp only [wrU, List.cons.injEq, U.int.injEq, U.sub.injEq, U.bool.injEq, and_true] at h
  obtain ⟨h1, h2, h3⟩ := h
  have := map_inj (fun _ _ => valU_inj) h2
  simp only [Wr.own, h1, this, h3]
theorem map_same {α β γ : Type} {f : α → β} {g : α → γ} (h : ∀ a b, f a = f b → g a = g b) : ∀ {l l2 : List α}, l.map f = l2.map f → l.map g = l2.map g
  | [], [], _ => rfl
  | x :: a, y :: b, e => by
    simp only [List.map_cons, List.cons.injEq] at e
    rw [List.map_cons, List.map_cons, h _ _ e.1, map_same h e.2]
  | [], _ :: _, e => by simp at e
  | _ :: _, [], e => by simp at e
theorem entU_inj {a b : Ent} (h : entU a = entU b) : a.own = b.own := by
  simp only [entU, List.cons.injEq, U.int.injEq, U.sub.injEq, and_true] at h
  obtain ⟨h1, h2⟩ := h
  simp only [Ent.own, h1, map_same (fun _ _ => wrU_inj) h2]
theorem wrU_own (w : Wr) : wrU w.own = wrU w := rfl
theorem entU_own (e : Ent) : entU e.own = entU e := by
  simp only [entU, Ent.own, List.map_map]
  rfl
theorem prevsG_map {α β : Type} (f : α → β) : ∀ (l : List α) (o : Option α), prevsG (o.map f) (l.map f) = (prevsG o l).map fun p => (p.1.map f, f p.2)
  | [], _ => rfl
  | v :: r, o => by
    have := prevsG_map f r (some v)
    simp only [Option.map_some] at this
    simp only [List.map_cons, prevsG, this]
theorem wrsOk_own (l : List Wr) : wrsOk (l.map Wr.own) = wrsOk l := by
  have := prevsG_map Wr.own l none
  simp only [Option.map_none] at this
  unfold wrsOk
  rw [this, List.all_map]
  congr 1
  funext p
  obtain ⟨o, v⟩ := p
  cases o <;> rfl
theorem logOk_own (l : List Ent) : logOk (l.map Ent.own) = logOk l := by
  have := prevsG_map Ent.own l none
  simp only [Option.map_none] at this
  unfold logOk
  rw [this, List.all_map, List.length_map]
  congr 2
  funext p
  obtain ⟨o, v⟩ := p
  have e : v.own.one = v.one := by unfold Ent.one Ent.own; simp only [wrsOk_own]
  cases o <;> simp only [Function.comp, entOk, e, Option.map_none, Option.map_some] <;> rfl
theorem logOk_vs {a b : List Ent} (h : a.map entU = b.map entU) : logOk a = logOk b := by rw [← logOk_own a, ← logOk_own b, map_same (fun _ _ => entU_inj) h]
/-- What a size says of a log. -/
def LimE (l : List Ent) : Prop := l.length ≤ 1048576 ∧ ∀ e ∈ l, e.ws.length ≤ 1048576 ∧ ∀ w ∈ e.ws, w.row.vs.length ≤ 1048576 ∧ ∀ v ∈ w.row.vs, v.s.size ≤ 1048576
theorem wrs_lim {ws : List Wr} (L : LenF 1048576 1048576 (.sub fdWrite) (.sub (ws.map wrU))) : ws.length ≤ 1048576 ∧ ∀ w ∈ ws, w.row.vs.length ≤ 1048576 ∧ ∀ v ∈ w.row.vs, v.s.size ≤ 1048576 := by
  simp only [LenF, List.length_map] at L
  refine ⟨L.1, fun w hw => ?_⟩
  obtain ⟨i, hi⟩ := List.getElem?_of_mem hw
  have := AllU_at L.2 (map_at wrU hi)
  simp only [fdWrite, wrU, LenR, LenF, List.length_map, true_and, and_true] at this
  refine ⟨this.1, fun v hv => ?_⟩
  obtain ⟨j, hj⟩ := List.getElem?_of_mem hv
  have := AllU_at this.2 (map_at valU hj)
  simp only [fdValue, valU, LenR, LenF, true_and, and_true] at this
  exact this
theorem ents_lim {l : List Ent} (L : LenF 1048576 1048576 (.sub fdEntry) (.sub (l.map entU))) : LimE l := by
  simp only [LenF, List.length_map] at L
  refine ⟨L.1, fun e he => ?_⟩
  obtain ⟨i, hi⟩ := List.getElem?_of_mem he
  have := AllU_at L.2 (map_at entU hi)
  simp only [fdEntry, entU, LenR, LenF, true_and, and_true] at this
  exact wrs_lim (by simp only [LenF]; exact this)
theorem LimE.fine {l : List Ent} (h : LimE l) : FineE l ∧ ShortE l ∧ l.length < 1099511627776 := by
  obtain ⟨h1, h2⟩ := h
  refine ⟨⟨by omega, fun e he => ?_⟩, fun e he => ?_, by omega⟩
  · obtain ⟨h3, h4⟩ := h2 e he
    exact ⟨by omega, by omega, fun w hw => by have := (h4 w hw).1; omega⟩
  · obtain ⟨h3, h4⟩ := h2 e he
    exact ⟨by omega, fun w hw => ⟨by have := (h4 w hw).1; omega, fun v hv => by have := (h4 w hw).2 v hv; omega⟩⟩
theorem LimE.sub {l l2 : List Ent} (h : LimE l) (hn : l2.length ≤ 1048576) (hs : ∀ e ∈ l2, e ∈ l) : LimE l2 := ⟨hn, fun e he => h.2 e (hs e he)⟩
theorem wrs_len2 {n m : Nat} {ws : List Wr} (h0 : ws.length ≤ n) (h : ∀ w ∈ ws, w.row.vs.length ≤ n ∧ ∀ v ∈ w.row.vs, v.s.size ≤ m) : LenF n m (.sub fdWrite) (.sub (ws.map wrU)) := by
  simp only [LenF, List.length_map]
  refine ⟨h0, all_of (fun x hx => ?_)⟩
  obtain ⟨w, hw, rfl⟩ := List.mem_map.1 hx
  have := vals_len (h w hw).1 (h w hw).2
  simp only [fdWrite, wrU, LenR]
  exact ⟨by simp [LenF], this, by simp [LenF], trivial⟩
theorem ents_len {l : List Ent} (h : LimE l) : LenF 1048576 1048576 (.sub fdEntry) (.sub (l.map entU)) := by
  simp only [LenF, List.length_map]
  refine ⟨h.1, all_of (fun x hx => ?_)⟩
  obtain ⟨e, he, rfl⟩ := List.mem_map.1 hx
  obtain ⟨h1, h2⟩ := h.2 e he
  have := wrs_len2 h1 h2
  simp only [fdEntry, entU, LenR]
  exact ⟨by simp [LenF], this, trivial⟩
end Go.Proofs.Yteaojpfofifmnaa.PE
/- Bytes of values: both functions tell them. -/
set_option linter.unusedSimpArgs false
set_option linter.unusedVariables false
set_option maxHeartbeats 4000000
namespace Go.Proofs.Yteaojpfofifmnaa.PE
open Go.RowKit

def u8s (l : List Int) : List (List V) := l.map fun n => [.int .u8 n]
theorem u8s_app (a b : List Int) : u8s (a ++ b) = u8s a ++ u8s b := List.map_append
theorem u8s_len (a : List Int) : (u8s a).length = a.length := List.length_map _
def strB (s : ByteArray) : List Int := s.data.toList.map fun b => (b.toNat : Int)
theorem cells_strB (s : ByteArray) : cellsOfBytes s.data.toList = u8s (strB s) := by simp [cellsOfBytes, u8s, strB]
theorem strB_len (s : ByteArray) : (strB s).length = s.size := by rw [strB, List.length_map, str_len]
def Val.tail (v : Val) : List Int := if v.kind = 1 then [(v.n + 10000) / 256, (v.n + 10000) % 256] else if v.kind = 2 then (v.s.size : Int) :: strB v.s else if v.kind = 3 then [v.n] else []
def Val.bytes (v : Val) : List Int := v.kind :: v.tail
theorem ok_kinds {v : Val} (h : v.ok = true) : (v.kind = 0 ∧ v.n = 0 ∧ v.s = ⟨#[]⟩) ∨ (v.kind = 1 ∧ v.s = ⟨#[]⟩ ∧ -9999 ≤ v.n ∧ v.n ≤ 9999) ∨ (v.kind = 2 ∧ v.n = 0 ∧ (v.s.size : Int) ≤ 6) ∨ (v.kind = 3 ∧ v.s = ⟨#[]⟩ ∧ 0 ≤ v.n ∧ v.n ≤ 1) := by
  unfold Val.ok at h
  split at h
  · rename_i k; simp only [Bool.and_eq_true, decide_eq_true_eq] at h; exact .inl ⟨k, h.1, h.2⟩
  · split at h
    · rename_i k; simp only [Bool.and_eq_true, decide_eq_true_eq] at h; exact .inr (.inl ⟨k, h.1, h.2.1, h.2.2⟩)
    · split at h
      · rename_i k; simp only [Bool.and_eq_true, decide_eq_true_eq] at h; exact .inr (.inr (.inl ⟨k, h.1.1, h.1.2⟩))
      · split at h
        · rename_i k; simp only [Bool.and_eq_true, decide_eq_true_eq] at h; exact .inr (.inr (.inr ⟨k, h.1, h.2.1, h.2.2⟩))
        · cases h
theorem ok_size {v : Val} (h : v.ok = true) : v.s.size ≤ 6 := by
  rcases ok_kinds h with ⟨_, _, k⟩ | ⟨_, k, _⟩ | ⟨_, _, k⟩ | ⟨_, k, _⟩
  · rw [k]; decide
  · rw [k]; decide
  · omega
  · rw [k]; decide
theorem fdiv256 {n : Int} (h : 0 ≤ n) : n.fdiv 256 = n / 256 := Int.fdiv_eq_ediv_of_nonneg _ (by omega)
theorem tdiv256 {n : Int} (h : 0 ≤ n) : n.tdiv 256 = n / 256 := Int.tdiv_eq_ediv_of_nonneg h
theorem tmod256 {n : Int} (h : 0 ≤ n) : n.tmod 256 = n % 256 := Int.tmod_eq_emod_of_nonneg h
theorem mod_div {n : Int} (h : 0 ≤ n ∧ n < 65536) : n / 256 % 256 = n / 256 := by omega
theorem mod_mod (n : Int) : n % 256 % 256 = n % 256 := by omega
theorem mod_in {n : Int} (h : 0 ≤ n ∧ n < 256) : n % 256 = n := by omega
theorem pow8' : (2 : Int) ^ (min 8 64 : Nat) = 256 := by decide
theorem pow8 : (2 : Int) ^ (min (8 : Int).toNat IntKind.i64.bits) = 256 := by decide

-- find145
theorem run_vbytesS (d : Nat) (v : Val) (h : v.ok = true) : retP (runD tab noExt (d + 3)) 145 [.agg v.cells] = some [.sl false 1 (u8s v.bytes)] := by
  have hsz := ok_size h
  have hv := run_specValueOk d v.kind v.n v.s (by omega)
  rw [Val.eta, h] at hv
  rw [retP, runD_eq find145 _ _ _ (by simp)]
  rcases ok_kinds h with ⟨k, k1, k2⟩ | ⟨k, k1, k2⟩ | ⟨k, k1, k2⟩ | ⟨k, k1, k2⟩
  all_goals
    obtain ⟨kd, n, s⟩ := v
    simp only at k k1 k2 hsz
    have hlt : (2 + (strB s).length < 4294967296) = True := eq_true (by rw [strB_len]; omega)
    subst k
    simp only at hv
    simp -implicitDefEqProofs (disch := omega) only [go_sem, Nat.reduceBEq, Nat.reduceAdd, Nat.reduceSub, Nat.reduceMul, Nat.reduceLeDiff, Nat.reduceEqDiff, Nat.reduceLT, Int.reduceNeg, Int.reduceAdd, Int.reduceSub, Int.reduceMul, Int.reduceLE, Int.reduceLT, Int.reduceEq, Int.reduceToNat, reduceCtorEq, evC_draw, evD145x0, E145x0, Val.cells, hv, IntKind.wrap_u8, IntWalk.i64_in, fdiv256, tdiv256, tmod256, mod_div, mod_mod, mod_in, pow8, pow8', hlt, List.length_map, cells_strB, u8s, Val.bytes, Val.tail, elemsOf, elemOf]
    try rw [List.take_of_length_le (by simp only [List.length_cons, List.length_map]; omega)]
-- find84
theorem run_vbytesI (d : Nat) (v : Val) (h : v.ok = true) : retP (runD tab noExt (d + 1)) 84 [.agg v.cells] = some [.sl false 1 (u8s v.bytes)] := by
  have hsz := ok_size h
  rw [retP, runD_eq find84 _ _ _ (by simp)]
  rcases ok_kinds h with ⟨k, k1, k2⟩ | ⟨k, k1, k2⟩ | ⟨k, k1, k2⟩ | ⟨k, k1, k2⟩
  all_goals
    obtain ⟨kd, n, s⟩ := v
    simp only at k k1 k2 hsz
    have hlt : (2 + (strB s).length < 4294967296) = True := eq_true (by rw [strB_len]; omega)
    subst k
    simp -implicitDefEqProofs (disch := omega) only [go_sem, Nat.reduceBEq, Nat.reduceAdd, Nat.reduceSub, Nat.reduceMul, Nat.reduceLeDiff, Nat.reduceEqDiff, Nat.reduceLT, Int.reduceNeg, Int.reduceAdd, Int.reduceSub, Int.reduceMul, Int.reduceLE, Int.reduceLT, Int.reduceEq, Int.reduceToNat, reduceCtorEq, evC_draw, evD84x0, E84x0, Val.cells, IntKind.wrap_u8, IntWalk.i64_in, fdiv256, tdiv256, tmod256, mod_div, mod_mod, mod_in, pow8, pow8', hlt, List.length_map, cells_strB, u8s, Val.bytes, Val.tail, elemsOf, elemOf]
    try rw [List.take_of_length_le (by simp only [List.length_cons, List.length_map]; omega)]
end Go.Proofs.Yteaojpfofifmnaa.PE
/- Bytes of rows: both functions tell them. -/
set_option linter.unusedSimpArgs false
set_option linter.unusedVariables false
set_option maxHeartbeats 4000000
namespace Go.Proofs.Yteaojpfofifmnaa.PE
open Go.RowKit

theorem bytes_len {v : Val} (h : v.ok = true) : v.bytes.length ≤ 8 := by
  have := ok_size h
  unfold Val.bytes Val.tail
  split
  · simp
  · split
    · simp only [List.length_cons, strB_len]; omega
    · split <;> simp
def rowBytes (vs : List Val) : List Int := vs.foldl (fun b v => b ++ v.bytes) [(vs.length : Int)]
theorem foldl_app {α β : Type} (f : α → List β) : ∀ (l : List α) (b : List β), l.foldl (fun b v => b ++ f v) b = b ++ l.flatMap f
  | [], b => by simp
  | x :: r, b => by rw [List.foldl_cons, foldl_app f r, List.flatMap_cons, List.append_assoc]
theorem rowBytes_eq (vs : List Val) : rowBytes vs = (vs.length : Int) :: vs.flatMap Val.bytes := by rw [rowBytes, foldl_app]; rfl
theorem rowOk_at {vs : List Val} (h : rowOk vs = true) : (∀ v ∈ vs, v.ok = true) ∧ vs.length ≤ 4 := by
  simp only [rowOk, Bool.and_eq_true, List.all_eq_true, decide_eq_true_eq] at h
  exact h
-- find85
theorem run_clipB (d : Nat) (c : Bool) (l : List (List V)) (hl : l.length < 4294967296) : retP (runD tab noExt (d + 1)) 85 [.sl c 1 l] = some [.sl true 1 l] := by
  rw [retP, runD_eq find85 _ _ _ (by simp)]
  simp -implicitDefEqProofs (disch := omega) only [go_sem, Nat.reduceBEq, Nat.reduceAdd, Nat.reduceSub, Nat.reduceMul, Nat.reduceLeDiff, Nat.reduceEqDiff, Nat.reduceLT, Int.reduceNeg, Int.reduceAdd, Int.reduceSub, Int.reduceMul, Int.reduceLE, Int.reduceLT, Int.reduceEq, Int.reduceToNat, reduceCtorEq, List.take_length, Bool.true_or]
theorem loop_rbI (d : Nat) (c : Bool) (vs : List Val) (hv : vs.length ≤ 4) (hok : ∀ v ∈ vs, v.ok = true) (K : Nat) (hK : (vs).length ≤ K) (b0 : List Int) (hb0 : (fun (i : Nat) (b : List Int) => 1 ≤ b.length ∧ b.length ≤ 1 + 8 * i) 0 b0) : LoopS (runD tab noExt (d + 1)) (drawI (runD tab noExt (d + 1))) [3, 13, 14, 15] [3] L34x0 ([.rows ((b0).length - 1) 1 (u8s (b0))] : Heap).length K [(3, .ref 0 ((b0).length - 1) 0 (b0).length false), (13, .sl c 3 (vs.map Val.cells)), (14, .int .i64 vs.length), (15, .int .i64 (0 : Nat))] [.rows ((b0).length - 1) 1 (u8s (b0))] = (some (.exit 0, [(3, .ref 0 ((((vs).foldl (fun b v => b ++ v.bytes) b0)).length - 1) 0 (((vs).foldl (fun b v => b ++ v.bytes) b0)).length false)], [.rows ((((vs).foldl (fun b v => b ++ v.bytes) b0)).length - 1) 1 (u8s (((vs).foldl (fun b v => b ++ v.bytes) b0)))]) : Out) ∧ (fun (i : Nat) (b : List Int) => 1 ≤ b.length ∧ b.length ≤ 1 + 8 * i) (vs).length ((vs).foldl (fun b v => b ++ v.bytes) b0) := by
  have key := LoopS_foldI (run := (runD tab noExt (d + 1))) (draw := drawI (runD tab noExt (d + 1))) (live := [3, 13, 14, 15]) (out := [3]) (c := L34x0) (n0 := ([.rows ((b0).length - 1) 1 (u8s (b0))] : Heap).length) (vs) (fun b v => b ++ v.bytes) (fun (i : Nat) (b : List Int) => 1 ≤ b.length ∧ b.length ≤ 1 + 8 * i) (fun (i : Nat) (b : List Int) => [(3, .ref 0 ((b).length - 1) 0 (b).length false), (13, .sl c 3 (vs.map Val.cells)), (14, .int .i64 vs.length), (15, .int .i64 (i : Nat))]) (fun (i : Nat) (b : List Int) => [.rows ((b).length - 1) 1 (u8s (b))]) (fun b => (some (.exit 0, [(3, .ref 0 ((b).length - 1) 0 (b).length false)], [.rows ((b).length - 1) 1 (u8s (b))]) : Out)) (fun b K hb => ?_) (fun (i : Nat) (x : Val) b K hi hx hb => ?_) K hK b0 hb0
  · simp only [Int.natCast_zero] at key
    exact key
  · rw [LoopS_eq]
    simp -implicitDefEqProofs only [go_sem, Nat.reduceBEq, Nat.reduceAdd, Nat.reduceSub, Nat.reduceMul, Nat.reduceLeDiff, Nat.reduceEqDiff, Nat.reduceLT, Int.reduceNeg, Int.reduceAdd, Int.reduceSub, Int.reduceMul, Int.reduceLE, Int.reduceLT, Int.reduceEq, Int.reduceToNat, reduceCtorEq, evL34x0, B34x0, Int.lt_irrefl]
  · have hxo := hok x (List.mem_of_getElem? hx); have hxl := bytes_len hxo; have hsm : b.length + x.bytes.length < 4294967296 := (by have := hb.2; omega); have hst : b.length - 1 + x.bytes.length = b.length + x.bytes.length - 1 := (by have := hb.1; omega); have hvx := run_vbytesI d x hxo; simp only [Val.cells] at hvx
    all_goals
      refine ⟨?_, ?_⟩
      · (simp only [List.length_append]; omega)
      · rw [LoopS_eq]
        simp -implicitDefEqProofs (disch := first | omega | assumption) only [go_sem, Nat.reduceBEq, Nat.reduceAdd, Nat.reduceSub, Nat.reduceMul, Nat.reduceLeDiff, Nat.reduceEqDiff, Nat.reduceLT, Int.reduceNeg, Int.reduceAdd, Int.reduceSub, Int.reduceMul, Int.reduceLE, Int.reduceLT, Int.reduceEq, Int.reduceToNat, reduceCtorEq, evL34x0, B34x0, hi, hx, IntWalk.i64_in, List.map_append, List.foldl_cons, hx, hvx, Val.cells, hst, hsm, u8s_app, u8s_len, List.length_append, if_true, if_false]
        skip
-- find34
theorem run_rbytesI (d : Nat) (c : Bool) (vs : List Val) (h : rowOk vs = true) : retP (runD tab noExt (d + 8)) 34 [.sl c 3 (vs.map Val.cells)] = some [.sl true 1 (u8s (rowBytes vs))] := by
  obtain ⟨hok, hv⟩ := rowOk_at h
  have hr := run_rowOkI d c vs (by omega)
  rw [h] at hr
  obtain ⟨hl, hle⟩ := loop_rbI (d + 6) c vs hv hok 1099511627775 (by omega) [(vs.length : Int)] ⟨by simp, by simp⟩
  have hbe : rowBytes vs = vs.foldl (fun b v => b ++ v.bytes) [(vs.length : Int)] := rfl
  rw [← hbe] at hl hle
  have hc := run_clipB (d + 6) false (u8s (rowBytes vs)) (by rw [u8s_len]; omega)
  have ht : List.take (rowBytes vs).length (u8s (rowBytes vs)) = u8s (rowBytes vs) := List.take_of_length_le (by rw [u8s_len]; omega)
  have hi0 : u8s [(vs.length : Int)] = [[.int .u8 vs.length]] := rfl
  simp only [hi0, List.length_cons, List.length_nil, Int.natCast_zero] at hl
  rw [retP, runD_eq find34 _ _ _ (by simp)]
  simp -implicitDefEqProofs (disch := omega) only [go_sem, Nat.reduceBEq, Nat.reduceAdd, Nat.reduceSub, Nat.reduceMul, Nat.reduceLeDiff, Nat.reduceEqDiff, Nat.reduceLT, Int.reduceNeg, Int.reduceAdd, Int.reduceSub, Int.reduceMul, Int.reduceLE, Int.reduceLT, Int.reduceEq, Int.reduceToNat, reduceCtorEq, hr, IntKind.wrap_u8, mod_in, elemsOf, elemOf]
  try simp -implicitDefEqProofs only [go_sem, Nat.reduceBEq, Nat.reduceAdd, Nat.reduceSub, Nat.reduceMul, Nat.reduceLeDiff, Nat.reduceEqDiff, Nat.reduceLT, Int.reduceNeg, Int.reduceAdd, Int.reduceSub, Int.reduceMul, Int.reduceLE, Int.reduceLT, Int.reduceEq, Int.reduceToNat, reduceCtorEq] at hl
  rw [hl]
  simp -implicitDefEqProofs (disch := omega) only [go_sem, Nat.reduceBEq, Nat.reduceAdd, Nat.reduceSub, Nat.reduceMul, Nat.reduceLeDiff, Nat.reduceEqDiff, Nat.reduceLT, Int.reduceNeg, Int.reduceAdd, Int.reduceSub, Int.reduceMul, Int.reduceLE, Int.reduceLT, Int.reduceEq, Int.reduceToNat, reduceCtorEq, hc, ht, List.take_length]
theorem loop_rbS (d : Nat) (c : Bool) (vs : List Val) (hv : vs.length ≤ 4) (hok : ∀ v ∈ vs, v.ok = true) (K : Nat) (hK : (vs).length ≤ K) (b0 : List Int) (hb0 : (fun (i : Nat) (b : List Int) => 1 ≤ b.length ∧ b.length ≤ 1 + 8 * i) 0 b0) : LoopS (runD tab noExt (d + 3)) (drawI (runD tab noExt (d + 3))) [0, 3, 4] [3] L110x0 ([.rows 0 1 [], .rows ((b0).length - 1) 1 (u8s (b0))] : Heap).length K [(0, .sl c 3 (vs.map Val.cells)), (3, .ref 1 ((b0).length - 1) 0 (b0).length false), (4, .int .i64 (0 : Nat))] [.rows 0 1 [], .rows ((b0).length - 1) 1 (u8s (b0))] = (some (.exit 0, [(3, .ref 1 ((((vs).foldl (fun b v => b ++ v.bytes) b0)).length - 1) 0 (((vs).foldl (fun b v => b ++ v.bytes) b0)).length false)], [.rows 0 1 [], .rows ((((vs).foldl (fun b v => b ++ v.bytes) b0)).length - 1) 1 (u8s (((vs).foldl (fun b v => b ++ v.bytes) b0)))]) : Out) ∧ (fun (i : Nat) (b : List Int) => 1 ≤ b.length ∧ b.length ≤ 1 + 8 * i) (vs).length ((vs).foldl (fun b v => b ++ v.bytes) b0) := by
  have key := LoopS_foldI (run := (runD tab noExt (d + 3))) (draw := drawI (runD tab noExt (d + 3))) (live := [0, 3, 4]) (out := [3]) (c := L110x0) (n0 := ([.rows 0 1 [], .rows ((b0).length - 1) 1 (u8s (b0))] : Heap).length) (vs) (fun b v => b ++ v.bytes) (fun (i : Nat) (b : List Int) => 1 ≤ b.length ∧ b.length ≤ 1 + 8 * i) (fun (i : Nat) (b : List Int) => [(0, .sl c 3 (vs.map Val.cells)), (3, .ref 1 ((b).length - 1) 0 (b).length false), (4, .int .i64 (i : Nat))]) (fun (i : Nat) (b : List Int) => [.rows 0 1 [], .rows ((b).length - 1) 1 (u8s (b))]) (fun b => (some (.exit 0, [(3, .ref 1 ((b).length - 1) 0 (b).length false)], [.rows 0 1 [], .rows ((b).length - 1) 1 (u8s (b))]) : Out)) (fun b K hb => ?_) (fun (i : Nat) (x : Val) b K hi hx hb => ?_) K hK b0 hb0
  · simp only [Int.natCast_zero] at key
    exact key
  · rw [LoopS_eq]
    simp -implicitDefEqProofs only [go_sem, Nat.reduceBEq, Nat.reduceAdd, Nat.reduceSub, Nat.reduceMul, Nat.reduceLeDiff, Nat.reduceEqDiff, Nat.reduceLT, Int.reduceNeg, Int.reduceAdd, Int.reduceSub, Int.reduceMul, Int.reduceLE, Int.reduceLT, Int.reduceEq, Int.reduceToNat, reduceCtorEq, evL110x0, B110x0, Int.lt_irrefl]
  · have hxo := hok x (List.mem_of_getElem? hx); have hxl := bytes_len hxo; have hsm : b.length + x.bytes.length < 4294967296 := (by have := hb.2; omega); have hst : b.length - 1 + x.bytes.length = b.length + x.bytes.length - 1 := (by have := hb.1; omega); have hvx := run_vbytesS d x hxo; simp only [Val.cells] at hvx
    all_goals
      refine ⟨?_, ?_⟩
      · (simp only [List.length_append]; omega)
      · rw [LoopS_eq]
        simp -implicitDefEqProofs (disch := first | omega | assumption) only [go_sem, Nat.reduceBEq, Nat.reduceAdd, Nat.reduceSub, Nat.reduceMul, Nat.reduceLeDiff, Nat.reduceEqDiff, Nat.reduceLT, Int.reduceNeg, Int.reduceAdd, Int.reduceSub, Int.reduceMul, Int.reduceLE, Int.reduceLT, Int.reduceEq, Int.reduceToNat, reduceCtorEq, evL110x0, B110x0, hi, hx, IntWalk.i64_in, List.map_append, List.foldl_cons, hx, hvx, Val.cells, hst, hsm, u8s_app, u8s_len, List.length_append, if_true, if_false]
        skip
-- find110
theorem run_rbytesS (d : Nat) (c : Bool) (vs : List Val) (h : rowOk vs = true) : retP (runD tab noExt (d + 4)) 110 [.sl c 3 (vs.map Val.cells)] = some [.sl false 1 (u8s (rowBytes vs))] := by
  obtain ⟨hok, hv⟩ := rowOk_at h
  have hr := run_rowOk d c vs (by omega) (fun v hm => by have := ok_size (hok v hm); omega)
  rw [h] at hr
  obtain ⟨hl, hle⟩ := loop_rbS d c vs hv hok 1099511627775 (by omega) [(vs.length : Int)] ⟨by simp, by simp⟩
  have hbe : rowBytes vs = vs.foldl (fun b v => b ++ v.bytes) [(vs.length : Int)] := rfl
  rw [← hbe] at hl hle
  have ht : List.take (rowBytes vs).length (u8s (rowBytes vs)) = u8s (rowBytes vs) := List.take_of_length_le (by rw [u8s_len]; omega)
  have hi0 : u8s [(vs.length : Int)] = [[.int .u8 vs.length]] := rfl
  simp only [hi0, List.length_cons, List.length_nil, Int.natCast_zero] at hl
  rw [retP, runD_eq find110 _ _ _ (by simp)]
  simp -implicitDefEqProofs (disch := omega) only [go_sem, Nat.reduceBEq, Nat.reduceAdd, Nat.reduceSub, Nat.reduceMul, Nat.reduceLeDiff, Nat.reduceEqDiff, Nat.reduceLT, Int.reduceNeg, Int.reduceAdd, Int.reduceSub, Int.reduceMul, Int.reduceLE, Int.reduceLT, Int.reduceEq, Int.reduceToNat, reduceCtorEq, hr, IntKind.wrap_u8, mod_in, elemsOf, elemOf]
  try simp -implicitDefEqProofs only [go_sem, Nat.reduceBEq, Nat.reduceAdd, Nat.reduceSub, Nat.reduceMul, Nat.reduceLeDiff, Nat.reduceEqDiff, Nat.reduceLT, Int.reduceNeg, Int.reduceAdd, Int.reduceSub, Int.reduceMul, Int.reduceLE, Int.reduceLT, Int.reduceEq, Int.reduceToNat, reduceCtorEq] at hl
  rw [hl]
  simp -implicitDefEqProofs (disch := omega) only [go_sem, Nat.reduceBEq, Nat.reduceAdd, Nat.reduceSub, Nat.reduceMul, Nat.reduceLeDiff, Nat.reduceEqDiff, Nat.reduceLT, Int.reduceNeg, Int.reduceAdd, Int.reduceSub, Int.reduceMul, Int.reduceLE, Int.reduceLT, Int.reduceEq, Int.reduceToNat, reduceCtorEq, ht, List.take_length]
end Go.Proofs.Yteaojpfofifmnaa.PE
/- Sums of bytes, and bodies framed: both functions tell them. -/
set_option linter.unusedSimpArgs false
set_option linter.unusedVariables false
set_option maxHeartbeats 4000000
namespace Go.Proofs.Yteaojpfofifmnaa.PE
open Go.RowKit

def sumF (b : Int × Nat) (x : Int) : Int × Nat := ((b.1 + x * ((b.2 : Int) + 1)).tmod 251, b.2 + 1)
def sumB (l : List Int) : Int := (l.foldl sumF (0, 0)).1
theorem u8s_at {l : List Int} {i : Nat} {x : Int} (h : l[i]? = some x) : (u8s l)[i]? = some [.int .u8 x] := by simp [u8s, h]
theorem mul_in {x : Int} {i : Nat} (h : 0 ≤ x ∧ x < 256) (hi : i < 65536) : 0 ≤ x * ((i : Int) + 1) ∧ x * ((i : Int) + 1) ≤ 255 * 65536 := by
  constructor
  · exact Int.mul_nonneg h.1 (by omega)
  · exact Int.mul_le_mul (by omega) (by omega) (by omega) (by omega)
theorem loop_sumI (d : Nat) (c : Bool) (l : List Int) (hl : l.length < 65536) (hbs : ∀ x ∈ l, 0 ≤ x ∧ x < 256) (K : Nat) (hK : (l).length ≤ K) (b0 : Int × Nat) (hb0 : (fun (i : Nat) (b : Int × Nat) => b.2 = i ∧ 0 ≤ b.1 ∧ b.1 < 251) 0 b0) : LoopS (runD tab noExt d) (drawI (runD tab noExt d)) [3, 6, 7, 8] [3] L120x0 ([] : Heap).length K [(3, .int .i64 (b0).1), (6, .sl c 1 (u8s l)), (7, .int .i64 l.length), (8, .int .i64 (0 : Nat))] [] = (some (.exit 0, [(3, .int .i64 (((l).foldl (sumF) b0)).1)], []) : Out) ∧ (fun (i : Nat) (b : Int × Nat) => b.2 = i ∧ 0 ≤ b.1 ∧ b.1 < 251) (l).length ((l).foldl (sumF) b0) := by
  have key := LoopS_foldI (run := (runD tab noExt d)) (draw := drawI (runD tab noExt d)) (live := [3, 6, 7, 8]) (out := [3]) (c := L120x0) (n0 := ([] : Heap).length) (l) (sumF) (fun (i : Nat) (b : Int × Nat) => b.2 = i ∧ 0 ≤ b.1 ∧ b.1 < 251) (fun (i : Nat) (b : Int × Nat) => [(3, .int .i64 (b).1), (6, .sl c 1 (u8s l)), (7, .int .i64 l.length), (8, .int .i64 (i : Nat))]) (fun (i : Nat) (b : Int × Nat) => []) (fun b => (some (.exit 0, [(3, .int .i64 (b).1)], []) : Out)) (fun b K hb => ?_) (fun (i : Nat) (x : Int) b K hi hx hb => ?_) K hK b0 hb0
  · simp only [Int.natCast_zero] at key
    exact key
  · rw [LoopS_eq]
    simp -implicitDefEqProofs only [go_sem, Nat.reduceBEq, Nat.reduceAdd, Nat.reduceSub, Nat.reduceMul, Nat.reduceLeDiff, Nat.reduceEqDiff, Nat.reduceLT, Int.reduceNeg, Int.reduceAdd, Int.reduceSub, Int.reduceMul, Int.reduceLE, Int.reduceLT, Int.reduceEq, Int.reduceToNat, reduceCtorEq, evL120x0, B120x0, Int.lt_irrefl]
  · obtain ⟨n, k⟩ := b; obtain ⟨hk, h0, h1⟩ := hb; simp only at hk h0 h1; subst hk; have hxc := u8s_at hx; have hx2 := hbs x (List.mem_of_getElem? hx); have hm := mul_in hx2 (show k < 65536 by omega); have t1 := tmod_nn (show 0 ≤ n + x * ((k : Int) + 1) by omega) (show (0 : Int) < 251 by omega); have t2 := tmod_lt (show 0 ≤ n + x * ((k : Int) + 1) by omega) (show (0 : Int) < 251 by omega); have hw1 : IntKind.i64.wrap (x * ((k : Int) + 1)) = x * ((k : Int) + 1) := IntWalk.i64_in _ (by omega); have hw2 : IntKind.i64.wrap (n + x * ((k : Int) + 1)) = n + x * ((k : Int) + 1) := IntWalk.i64_in _ (by omega)
    all_goals
      refine ⟨?_, ?_⟩
      · exact ⟨rfl, t1, t2⟩
      · rw [LoopS_eq]
        simp -implicitDefEqProofs (disch := first | omega | assumption) only [go_sem, Nat.reduceBEq, Nat.reduceAdd, Nat.reduceSub, Nat.reduceMul, Nat.reduceLeDiff, Nat.reduceEqDiff, Nat.reduceLT, Int.reduceNeg, Int.reduceAdd, Int.reduceSub, Int.reduceMul, Int.reduceLE, Int.reduceLT, Int.reduceEq, Int.reduceToNat, reduceCtorEq, evL120x0, B120x0, hi, hx, IntWalk.i64_in, List.map_append, List.foldl_cons, hxc, hw1, hw2, sumF, u8s_len]
        skip
-- find120
theorem run_sumI (d : Nat) (c : Bool) (l : List Int) (hl : l.length < 65536) (hb : ∀ x ∈ l, 0 ≤ x ∧ x < 256) : retP (runD tab noExt (d + 1)) 120 [.sl c 1 (u8s l)] = some [.int .u8 (sumB l)] := by
  obtain ⟨h, _, h0, h1⟩ := loop_sumI d c l hl hb 1099511627775 (by omega) (0, 0) ⟨rfl, by decide, by decide⟩
  have e : (l.foldl sumF (0, 0)).1 = sumB l := rfl
  rw [e] at h h0 h1
  simp only [Int.natCast_zero] at h
  rw [retP, runD_eq find120 _ _ _ (by simp)]
  simp -implicitDefEqProofs (disch := omega) only [go_sem, Nat.reduceBEq, Nat.reduceAdd, Nat.reduceSub, Nat.reduceMul, Nat.reduceLeDiff, Nat.reduceEqDiff, Nat.reduceLT, Int.reduceNeg, Int.reduceAdd, Int.reduceSub, Int.reduceMul, Int.reduceLE, Int.reduceLT, Int.reduceEq, Int.reduceToNat, reduceCtorEq, u8s_len]
  try simp -implicitDefEqProofs only [go_sem, Nat.reduceBEq, Nat.reduceAdd, Nat.reduceSub, Nat.reduceMul, Nat.reduceLeDiff, Nat.reduceEqDiff, Nat.reduceLT, Int.reduceNeg, Int.reduceAdd, Int.reduceSub, Int.reduceMul, Int.reduceLE, Int.reduceLT, Int.reduceEq, Int.reduceToNat, reduceCtorEq] at h
  rw [h]
  simp -implicitDefEqProofs (disch := omega) only [go_sem, Nat.reduceBEq, Nat.reduceAdd, Nat.reduceSub, Nat.reduceMul, Nat.reduceLeDiff, Nat.reduceEqDiff, Nat.reduceLT, Int.reduceNeg, Int.reduceAdd, Int.reduceSub, Int.reduceMul, Int.reduceLE, Int.reduceLT, Int.reduceEq, Int.reduceToNat, reduceCtorEq, IntKind.wrap_u8, mod_in]
theorem loop_sumS (d : Nat) (c : Bool) (l : List Int) (hl : l.length < 65536) (hbs : ∀ x ∈ l, 0 ≤ x ∧ x < 256) (K : Nat) (hK : (l).length ≤ K) (b0 : Int × Nat) (hb0 : (fun (i : Nat) (b : Int × Nat) => b.2 = i ∧ 0 ≤ b.1 ∧ b.1 < 251) 0 b0) : LoopS (runD tab noExt d) (drawI (runD tab noExt d)) [0, 3, 4] [3] L65x0 ([] : Heap).length K [(0, .sl c 1 (u8s l)), (3, .int .i64 (b0).1), (4, .int .i64 (0 : Nat))] [] = (some (.exit 0, [(3, .int .i64 (((l).foldl (sumF) b0)).1)], []) : Out) ∧ (fun (i : Nat) (b : Int × Nat) => b.2 = i ∧ 0 ≤ b.1 ∧ b.1 < 251) (l).length ((l).foldl (sumF) b0) := by
  have key := LoopS_foldI (run := (runD tab noExt d)) (draw := drawI (runD tab noExt d)) (live := [0, 3, 4]) (out := [3]) (c := L65x0) (n0 := ([] : Heap).length) (l) (sumF) (fun (i : Nat) (b : Int × Nat) => b.2 = i ∧ 0 ≤ b.1 ∧ b.1 < 251) (fun (i : Nat) (b : Int × Nat) => [(0, .sl c 1 (u8s l)), (3, .int .i64 (b).1), (4, .int .i64 (i : Nat))]) (fun (i : Nat) (b : Int × Nat) => []) (fun b => (some (.exit 0, [(3, .int .i64 (b).1)], []) : Out)) (fun b K hb => ?_) (fun (i : Nat) (x : Int) b K hi hx hb => ?_) K hK b0 hb0
  · simp only [Int.natCast_zero] at key
    exact key
  · rw [LoopS_eq]
    simp -implicitDefEqProofs only [go_sem, Nat.reduceBEq, Nat.reduceAdd, Nat.reduceSub, Nat.reduceMul, Nat.reduceLeDiff, Nat.reduceEqDiff, Nat.reduceLT, Int.reduceNeg, Int.reduceAdd, Int.reduceSub, Int.reduceMul, Int.reduceLE, Int.reduceLT, Int.reduceEq, Int.reduceToNat, reduceCtorEq, evL65x0, B65x0, Int.lt_irrefl, u8s_len]
  · obtain ⟨n, k⟩ := b; obtain ⟨hk, h0, h1⟩ := hb; simp only at hk h0 h1; subst hk; have hxc := u8s_at hx; have hx2 := hbs x (List.mem_of_getElem? hx); have hm := mul_in hx2 (show k < 65536 by omega); have t1 := tmod_nn (show 0 ≤ n + x * ((k : Int) + 1) by omega) (show (0 : Int) < 251 by omega); have t2 := tmod_lt (show 0 ≤ n + x * ((k : Int) + 1) by omega) (show (0 : Int) < 251 by omega); have hw1 : IntKind.i64.wrap (x * ((k : Int) + 1)) = x * ((k : Int) + 1) := IntWalk.i64_in _ (by omega); have hw2 : IntKind.i64.wrap (n + x * ((k : Int) + 1)) = n + x * ((k : Int) + 1) := IntWalk.i64_in _ (by omega)
    all_goals
      refine ⟨?_, ?_⟩
      · exact ⟨rfl, t1, t2⟩
      · rw [LoopS_eq]
        simp -implicitDefEqProofs (disch := first | omega | assumption) only [go_sem, Nat.reduceBEq, Nat.reduceAdd, Nat.reduceSub, Nat.reduceMul, Nat.reduceLeDiff, Nat.reduceEqDiff, Nat.reduceLT, Int.reduceNeg, Int.reduceAdd, Int.reduceSub, Int.reduceMul, Int.reduceLE, Int.reduceLT, Int.reduceEq, Int.reduceToNat, reduceCtorEq, evL65x0, B65x0, hi, hx, IntWalk.i64_in, List.map_append, List.foldl_cons, u8s_len, hxc, hw1, hw2, sumF, u8s_len]
        skip
-- find65
theorem run_sumS (d : Nat) (c : Bool) (l : List Int) (hl : l.length < 65536) (hb : ∀ x ∈ l, 0 ≤ x ∧ x < 256) : retP (runD tab noExt (d + 1)) 65 [.sl c 1 (u8s l)] = some [.int .u8 (sumB l)] := by
  obtain ⟨h, _, h0, h1⟩ := loop_sumS d c l hl hb 1099511627775 (by omega) (0, 0) ⟨rfl, by decide, by decide⟩
  have e : (l.foldl sumF (0, 0)).1 = sumB l := rfl
  rw [e] at h h0 h1
  simp only [Int.natCast_zero] at h
  rw [retP, runD_eq find65 _ _ _ (by simp)]
  simp -implicitDefEqProofs (disch := omega) only [go_sem, Nat.reduceBEq, Nat.reduceAdd, Nat.reduceSub, Nat.reduceMul, Nat.reduceLeDiff, Nat.reduceEqDiff, Nat.reduceLT, Int.reduceNeg, Int.reduceAdd, Int.reduceSub, Int.reduceMul, Int.reduceLE, Int.reduceLT, Int.reduceEq, Int.reduceToNat, reduceCtorEq, u8s_len]
  try simp -implicitDefEqProofs only [go_sem, Nat.reduceBEq, Nat.reduceAdd, Nat.reduceSub, Nat.reduceMul, Nat.reduceLeDiff, Nat.reduceEqDiff, Nat.reduceLT, Int.reduceNeg, Int.reduceAdd, Int.reduceSub, Int.reduceMul, Int.reduceLE, Int.reduceLT, Int.reduceEq, Int.reduceToNat, reduceCtorEq] at h
  rw [h]
  simp -implicitDefEqProofs (disch := omega) only [go_sem, Nat.reduceBEq, Nat.reduceAdd, Nat.reduceSub, Nat.reduceMul, Nat.reduceLeDiff, Nat.reduceEqDiff, Nat.reduceLT, Int.reduceNeg, Int.reduceAdd, Int.reduceSub, Int.reduceMul, Int.reduceLE, Int.reduceLT, Int.reduceEq, Int.reduceToNat, reduceCtorEq, IntKind.wrap_u8, mod_in]
end Go.Proofs.Yteaojpfofifmnaa.PE
/- Calls whose results are memory of one's own, and a number beside it. -/
set_option linter.unusedVariables false
set_option linter.unusedSimpArgs false
namespace Go.Proofs.Yteaojpfofifmnaa.PE
open Go.RowKit

theorem own_callAS {run : Run} {h : Heap} {f : Nat} {args args' : List V} {cs : List V} {s : V} {hc : Heap} {fs : List Fd} {x : List U} {ids : List Nat} (hp : pureDAs h args = some args') (hr : run f args' [] = some ([.agg cs, s], hc)) (ho : OwnR hc fs cs x ids) (hn : ids.Nodup) (hs : cs.all scalar = false) (hsc : scalar s = true) :
    ∃ cs' h' ids', callX run h 0 f args = some (.tup [.agg cs', s], h') ∧ OwnR h' fs cs' x ids' ∧ ids'.Nodup ∧ (∀ j ∈ ids', h.length ≤ j) ∧ (∀ j, j < h.length → h'[j]? = h[j]?) ∧ h.length ≤ h'.length := by
  have hf := OwnR_fresh fs ho
  refine ⟨cs.map (shC h.length), h ++ movedH h.length hc, ids.map (· + h.length), ?_, OwnR_moved _ ho, ?_, fun j hj => ?_, fun j hj => by rw [List.getElem?_append_left hj], by simp⟩
  · cases s <;> first | (simp only [callX, callO, hp, hr, BackO, List.all_cons, List.all_nil, scalarA, freshA, freshC, shC, hs, hf, Bool.false_eq_true, Bool.false_and, Bool.true_and, Bool.and_self, if_false, if_true, List.map_cons, List.map_nil, oneOf, shA]; done) | cases hsc
  · exact (List.pairwise_map.2 (List.Pairwise.imp (fun {a b} hab => by simp only [ne_eq] at hab ⊢; omega) hn))
  · obtain ⟨i, _, rfl⟩ := List.mem_map.1 hj
    omega
theorem own_callFS {run : Run} {h : Heap} {f : Nat} {args args' : List V} {v s : V} {hc : Heap} {fs : List Fd} {u : U} {ids : List Nat} (hp : pureDAs h args = some args') (hr : run f args' [] = some ([v, s], hc)) (ho : OwnF hc (.sub fs) v u ids) (hn : ids.Nodup) (hsc : scalar s = true) :
    ∃ v' h' ids', callX run h 0 f args = some (.tup [v', s], h') ∧ OwnF h' (.sub fs) v' u ids' ∧ ids'.Nodup ∧ (∀ j ∈ ids', h.length ≤ j) ∧ (∀ j, j < h.length → h'[j]? = h[j]?) ∧ h.length ≤ h'.length := by
  refine ⟨shC h.length v, h ++ movedH h.length hc, ids.map (· + h.length), ?_, OwnF_moved _ ho, ?_, fun j hj => ?_, fun j hj => by rw [List.getElem?_append_left hj], by simp⟩
  · rcases own_cases ho with ⟨c, rfl⟩ | ⟨id, st, n, clip, rfl⟩ <;> cases s <;> first | (simp only [callX, callO, hp, hr, BackO, List.all_cons, List.all_nil, scalarA, scalar, freshA, freshC, isNil, shA, shC, Bool.false_eq_true, Bool.false_and, Bool.true_and, Bool.and_self, Bool.and_true, if_false, if_true, List.map_cons, List.map_nil, oneOf]; done) | cases hsc
  · exact (List.pairwise_map.2 (List.Pairwise.imp (fun {a b} hab => by simp only [ne_eq] at hab ⊢; omega) hn))
  · obtain ⟨i, _, rfl⟩ := List.mem_map.1 hj
    omega
theorem pureDA_sl (h : Heap) (c : Bool) (n : Nat) (xs : List (List V)) : pureDA h (.sl c n xs) = some (.sl c n xs) := rfl
end Go.Proofs.Yteaojpfofifmnaa.PE
/- Steps of exact statements of structs. -/
set_option linter.unusedVariables false
set_option linter.unusedSimpArgs false
namespace Go.Proofs.Yteaojpfofifmnaa.PE
open Go.RowKit

theorem pureDA_of {h : Heap} {fs : List Fd} {v q : V} {u : U} {ids : List Nat} (ho : OwnF h (.sub fs) v u ids) (e : pureD h 6 v = some q) : pureDA h v = some q := by
  rcases own_cases ho with ⟨c, rfl⟩ | ⟨id, st, n, clip, rfl⟩ <;> exact e
theorem pureDA_agg (h : Heap) (cs : List V) : pureDA h (.agg cs) = (mapO (pureD h 6) cs).map .agg := rfl
theorem pureD_intv (h : Heap) (n : Nat) (k : IntKind) (m : Int) : pureD h n (.int k m) = some (.int k m) := by cases n <;> rfl
theorem pureD_boolv (h : Heap) (n : Nat) (b : Bool) : pureD h n (.bool b) = some (.bool b) := by cases n <;> rfl
theorem pureD_strv (h : Heap) (n : Nat) (b : ByteArray) : pureD h n (.str b) = some (.str b) := by cases n <;> rfl
end Go.Proofs.Yteaojpfofifmnaa.PE
/- Bytes of entries: both functions tell them. -/
set_option linter.unusedSimpArgs false
set_option linter.unusedVariables false
set_option maxHeartbeats 8000000
set_option maxRecDepth 20000
namespace Go.Proofs.Yteaojpfofifmnaa.PE
open Go.RowKit

def byU (l : List Int) : List (List U) := l.map fun n => [U.int n]
theorem u8s_cons (n : Int) (l : List Int) : u8s (n :: l) = [.int .u8 n] :: u8s l := rfl
theorem u8s_nil : u8s [] = [] := rfl
theorem in_vbytes {v : Val} (h : v.ok = true) : ∀ x ∈ v.bytes, 0 ≤ x ∧ x < 256 := by
  intro x hx
  have hs := ok_size h
  unfold Val.bytes Val.tail at hx
  rcases ok_kinds h with ⟨k, k1, k2⟩ | ⟨k, k1, k2, k3⟩ | ⟨k, k1, k2⟩ | ⟨k, k1, k2, k3⟩ <;> rw [k] at hx <;> simp at hx
  · omega
  · rcases hx with rfl | rfl | rfl <;> omega
  · rcases hx with rfl | rfl | hx
    · omega
    · omega
    · unfold strB at hx
      obtain ⟨b, _, rfl⟩ := List.mem_map.1 hx
      have := b.toNat_lt
      omega
  · rcases hx with rfl | rfl <;> omega
theorem in_rbytes {vs : List Val} (h : rowOk vs = true) : ∀ x ∈ rowBytes vs, 0 ≤ x ∧ x < 256 := by
  obtain ⟨h1, h2⟩ := rowOk_at h
  intro x hx
  rw [rowBytes_eq] at hx
  rcases List.mem_cons.1 hx with rfl | hx
  · omega
  · obtain ⟨v, hv, hx⟩ := List.mem_flatMap.1 hx
    exact in_vbytes (h1 v hv) x hx
theorem flat_len {α : Type} {f : α → List Int} {n : Nat} : ∀ (l : List α), (∀ a ∈ l, (f a).length ≤ n) → (l.flatMap f).length ≤ n * l.length
  | [], _ => by simp
  | a :: l, h => by
    have h1 := h a (by simp)
    have h2 := flat_len l (fun b hb => h b (by simp [hb]))
    rw [List.flatMap_cons, List.length_append, List.length_cons, Nat.mul_add]
    omega
theorem rbytes_len {vs : List Val} (h : rowOk vs = true) : (rowBytes vs).length ≤ 33 := by
  obtain ⟨h1, h2⟩ := rowOk_at h
  rw [rowBytes_eq, List.length_cons]
  have : (vs.flatMap Val.bytes).length ≤ 8 * vs.length := flat_len vs (fun v hv => bytes_len (h1 v hv))
  omega
theorem wrs_one : ∀ (l : List Wr) (o : Option Wr), (prevsG o l).all wrOk = true → ∀ w ∈ l, w.one = true
  | [], _, _, w, hw => by cases hw
  | x :: l, o, h, w, hw => by
    simp only [prevsG, List.all_cons, Bool.and_eq_true] at h
    rcases List.mem_cons.1 hw with rfl | hw
    · have := h.1
      simp only [wrOk, Bool.and_eq_true] at this
      exact this.1
    · exact wrs_one l _ h.2 w hw
theorem wr_one {w : Wr} (h : w.one = true) : 0 ≤ w.key ∧ w.key ≤ 4 ∧ rowOk w.row.vs = true := by
  simp only [Wr.one, Bool.and_eq_true, decide_eq_true_eq] at h
  exact ⟨h.1.1, h.1.2, h.2.1⟩
def goneI (b : Bool) : Int := if b then 1 else 0
def wrBytes (w : Wr) : List Int := w.key :: goneI w.gone :: rowBytes w.row.vs
def bodyB (e : Ent) : List Int := e.ws.foldl (fun b w => b ++ wrBytes w) [e.time, (e.ws.length : Int)]
theorem bodyB_eq (e : Ent) : bodyB e = e.time :: (e.ws.length : Int) :: e.ws.flatMap wrBytes := by rw [bodyB, foldl_app]; rfl
theorem goneI_in (b : Bool) : 0 ≤ goneI b ∧ goneI b < 256 := by cases b <;> decide
theorem in_wr {w : Wr} (h : w.one = true) : ∀ x ∈ wrBytes w, 0 ≤ x ∧ x < 256 := by
  obtain ⟨h1, h2, h3⟩ := wr_one h
  intro x hx
  rcases List.mem_cons.1 hx with rfl | hx
  · omega
  · rcases List.mem_cons.1 hx with rfl | hx
    · exact goneI_in _
    · exact in_rbytes h3 x hx
theorem wr_len {w : Wr} (h : w.one = true) : (wrBytes w).length ≤ 35 := by
  have := rbytes_len (wr_one h).2.2
  simp only [wrBytes, List.length_cons]
  omega
theorem one_at {e : Ent} (h : logOk [e] = true) : (1 ≤ e.time ∧ e.time ≤ 40) ∧ (∀ w ∈ e.ws, w.one = true) ∧ e.ws.length ≤ 5 := by
  have : e.one = true := by
    simp only [logOk, prevsG, List.all_cons, List.all_nil, entOk, Bool.and_eq_true] at h
    exact h.1.1.1
  simp only [Ent.one, Bool.and_eq_true, decide_eq_true_eq] at this
  have h5 := wrs_len5 this.2
  exact ⟨this.1, wrs_one _ _ this.2, by omega⟩
theorem in_body {e : Ent} (h : logOk [e] = true) : ∀ x ∈ bodyB e, 0 ≤ x ∧ x < 256 := by
  obtain ⟨h1, h2, h3⟩ := one_at h
  intro x hx
  rw [bodyB_eq] at hx
  rcases List.mem_cons.1 hx with rfl | hx
  · omega
  · rcases List.mem_cons.1 hx with rfl | hx
    · omega
    · obtain ⟨w, hw, hx⟩ := List.mem_flatMap.1 hx
      exact in_wr (h2 w hw) x hx
theorem body_len {e : Ent} (h : logOk [e] = true) : (bodyB e).length ≤ 177 := by
  obtain ⟨h1, h2, h3⟩ := one_at h
  rw [bodyB_eq, List.length_cons, List.length_cons]
  have : (e.ws.flatMap wrBytes).length ≤ 35 * e.ws.length := flat_len e.ws (fun w hw => wr_len (h2 w hw))
  omega
def frB (b : List Int) : List Int := ((b.length : Int) / 256) :: ((b.length : Int) % 256) :: (b ++ [sumB b])
theorem u8s_fr (b : List Int) : u8s (frB b) = [.int .u8 ((b.length : Int) / 256)] :: [.int .u8 ((b.length : Int) % 256)] :: (u8s b ++ [[.int .u8 (sumB b)]]) := by rw [frB, u8s_cons, u8s_cons, u8s_app]; rfl
-- find85
theorem clipB_k (d st : Nat) (l : List (List V)) (n : Nat) (hn : n = l.length) : callX (runD tab noExt (d + 1)) [.rows st 1 l] 2 85 [.ref 0 st 0 n false] = some (.ref 0 st 0 n true, [.rows st 1 l]) := by
  subst hn
  simp only [callX, callK]
  rw [runD_eq find85 _ _ _ (by simp)]
  simp -implicitDefEqProofs (disch := omega) only [go_sem, Nat.reduceBEq, Nat.reduceAdd, Nat.reduceSub, Nat.reduceMul, Nat.reduceLeDiff, Nat.reduceEqDiff, Nat.reduceLT, Int.reduceNeg, Int.reduceAdd, Int.reduceSub, Int.reduceMul, Int.reduceLE, Int.reduceLT, Int.reduceEq, Int.reduceToNat, reduceCtorEq, List.take_length, Bool.true_or, resOk]
theorem own_bytes {h : Heap} {id st n : Nat} {clip : Bool} (l : List Int) (hn : n = l.length) (hb : h[id]? = some (.rows st 1 (u8s l))) : OwnF h (.sub fdByte) (.ref id st 0 n clip) (.sub (byU l)) [id] :=
  own_row (f := fun n => [.int .u8 n]) (g := fun n => [.int n]) rfl l hn hb (fun n => ownR_mk_Byte h n)
-- find113
theorem own_framed (d : Nat) (c : Bool) (b : List Int) (hl : b.length < 65536) (hb : ∀ x ∈ b, 0 ≤ x ∧ x < 256) : ∃ v hc ids, runD tab noExt (d + 2) 113 [.sl c 1 (u8s b)] [] = some ([v], hc) ∧ OwnF hc (.sub fdByte) v (.sub (byU (frB b))) ids ∧ ids.Nodup := by
  have hs := run_sumI d c b hl hb
  have hk := clipB_k d (b.length + 1) (u8s (frB b)) (2 + b.length + 1) (by rw [u8s_len]; simp [frB]; omega)
  refine ⟨.ref 0 (b.length + 1) 0 (2 + b.length + 1) true, [.rows (b.length + 1) 1 (u8s (frB b))], [0], ?_, own_bytes (frB b) (by simp [frB]; omega) rfl, by simp⟩
  have q1 : (b.length : Int).fdiv 256 = b.length / 256 := fdiv256 (by omega)
  have q2 : ((b.length : Int) / 256) % 256 = b.length / 256 := mod_div (by omega)
  have cm : (2 + b.length = b.length + 2) = True := eq_true (by omega)
  have sm1 : 2 + b.length < 4294967296 := by omega
  have sm2 : 2 + (b.length + 1) < 4294967296 := by omega
  rw [runD_eq find113 _ _ _ (by simp)]
  simp only [u8s_fr] at hk ⊢
  simp only [Nat.add_assoc] at hk ⊢
  simp -implicitDefEqProofs (disch := omega) only [go_sem, Nat.reduceBEq, Nat.reduceAdd, Nat.reduceSub, Nat.reduceMul, Nat.reduceLeDiff, Nat.reduceEqDiff, Nat.reduceLT, Int.reduceNeg, Int.reduceAdd, Int.reduceSub, Int.reduceMul, Int.reduceLE, Int.reduceLT, Int.reduceEq, Int.reduceToNat, reduceCtorEq, hs, hk, u8s_len, IntKind.wrap_u8, pow8, pow8', cm, q1, q2, sm1, sm2, elemsOf, elemOf, resOk]
end Go.Proofs.Yteaojpfofifmnaa.PE
/- Bytes of entries: both functions tell them. -/
set_option linter.unusedSimpArgs false
set_option linter.unusedVariables false
set_option maxHeartbeats 8000000
set_option maxRecDepth 20000
namespace Go.Proofs.Yteaojpfofifmnaa.PE
open Go.RowKit

theorem run_truthB (d : Nat) (b : Bool) : retP (runD tab noExt (d + 1)) 112 [.bool b] = some [.int .i64 (goneI b)] := by
  rw [retP, runD_eq find112 _ _ _ (by simp)]
  simp -implicitDefEqProofs (disch := omega) only [go_sem, Nat.reduceBEq, Nat.reduceAdd, Nat.reduceSub, Nat.reduceMul, Nat.reduceLeDiff, Nat.reduceEqDiff, Nat.reduceLT, Int.reduceNeg, Int.reduceAdd, Int.reduceSub, Int.reduceMul, Int.reduceLE, Int.reduceLT, Int.reduceEq, Int.reduceToNat, reduceCtorEq, goneI]
  repeat' ((first | rw [GuardI_ndec] | rw [CondC_ndec] | rw [GuardQ_ndec] | rw [GuardI_dec] | rw [CondC_dec] | rw [GuardQ_dec] | rw [GuardI_nby] | rw [CondC_nby] | rw [GuardQ_nby] | rw [GuardQ_by] | rw [GuardI_by] | rw [CondC_by]) <;> split <;> simp -implicitDefEqProofs (disch := omega) only [go_sem, Nat.reduceBEq, Nat.reduceAdd, Nat.reduceSub, Nat.reduceMul, Nat.reduceLeDiff, Nat.reduceEqDiff, Nat.reduceLT, Int.reduceNeg, Int.reduceAdd, Int.reduceSub, Int.reduceMul, Int.reduceLE, Int.reduceLT, Int.reduceEq, Int.reduceToNat, reduceCtorEq, goneI, *])
  all_goals simp_all
theorem run_l2B (d : Nat) (b : Bool) : retP (runD tab noExt (d + 1)) 109 [.bool b] = some [.int .i64 (goneI b)] := by
  rw [retP, runD_eq find109 _ _ _ (by simp)]
  simp -implicitDefEqProofs (disch := omega) only [go_sem, Nat.reduceBEq, Nat.reduceAdd, Nat.reduceSub, Nat.reduceMul, Nat.reduceLeDiff, Nat.reduceEqDiff, Nat.reduceLT, Int.reduceNeg, Int.reduceAdd, Int.reduceSub, Int.reduceMul, Int.reduceLE, Int.reduceLT, Int.reduceEq, Int.reduceToNat, reduceCtorEq, goneI]
  repeat' ((first | rw [GuardI_ndec] | rw [CondC_ndec] | rw [GuardQ_ndec] | rw [GuardI_dec] | rw [CondC_dec] | rw [GuardQ_dec] | rw [GuardI_nby] | rw [CondC_nby] | rw [GuardQ_nby] | rw [GuardQ_by] | rw [GuardI_by] | rw [CondC_by]) <;> split <;> simp -implicitDefEqProofs (disch := omega) only [go_sem, Nat.reduceBEq, Nat.reduceAdd, Nat.reduceSub, Nat.reduceMul, Nat.reduceLeDiff, Nat.reduceEqDiff, Nat.reduceLT, Int.reduceNeg, Int.reduceAdd, Int.reduceSub, Int.reduceMul, Int.reduceLE, Int.reduceLT, Int.reduceEq, Int.reduceToNat, reduceCtorEq, goneI, *])
  all_goals simp_all
theorem len_wr (b : List Int) (w : Wr) : (b ++ wrBytes w).length = b.length + (2 + (rowBytes w.row.vs).length) := by simp [wrBytes]; omega
theorem u8s_wr (b : List Int) (w : Wr) : u8s (b ++ wrBytes w) = u8s b ++ [.int .u8 w.key] :: [.int .u8 (goneI w.gone)] :: u8s (rowBytes w.row.vs) := by rw [u8s_app]; rfl
theorem loop_ebI (d : Nat) (t : Int) (c : Bool) (ws : List Wr) (hw5 : ws.length ≤ 5) (hok : ∀ w ∈ ws, w.one = true) (K : Nat) (hK : (ws).length ≤ K) (b0 : List Int) (hb0 : (fun (i : Nat) (b : List Int) => 2 ≤ b.length ∧ b.length ≤ 2 + 35 * i) 0 b0) : LoopS (runD tab noExt (d + 8)) (drawI (runD tab noExt (d + 8))) [3, 15, 16, 17] [3] L67x0 ([.box [.int .i64 t, .sl c 3 (ws.map Wr.cells)], .rows ((b0).length - 2) 1 (u8s (b0))] : Heap).length K [(3, .ref 1 ((b0).length - 2) 0 (b0).length false), (15, .sl c 3 (ws.map Wr.cells)), (16, .int .i64 ws.length), (17, .int .i64 (0 : Nat))] [.box [.int .i64 t, .sl c 3 (ws.map Wr.cells)], .rows ((b0).length - 2) 1 (u8s (b0))] = (some (.exit 0, [(3, .ref 1 ((((ws).foldl (fun b w => b ++ wrBytes w) b0)).length - 2) 0 (((ws).foldl (fun b w => b ++ wrBytes w) b0)).length false)], [.box [.int .i64 t, .sl c 3 (ws.map Wr.cells)], .rows ((((ws).foldl (fun b w => b ++ wrBytes w) b0)).length - 2) 1 (u8s (((ws).foldl (fun b w => b ++ wrBytes w) b0)))]) : Out) ∧ (fun (i : Nat) (b : List Int) => 2 ≤ b.length ∧ b.length ≤ 2 + 35 * i) (ws).length ((ws).foldl (fun b w => b ++ wrBytes w) b0) := by
  have key := LoopS_foldI (run := (runD tab noExt (d + 8))) (draw := drawI (runD tab noExt (d + 8))) (live := [3, 15, 16, 17]) (out := [3]) (c := L67x0) (n0 := ([.box [.int .i64 t, .sl c 3 (ws.map Wr.cells)], .rows ((b0).length - 2) 1 (u8s (b0))] : Heap).length) (ws) (fun b w => b ++ wrBytes w) (fun (i : Nat) (b : List Int) => 2 ≤ b.length ∧ b.length ≤ 2 + 35 * i) (fun (i : Nat) (b : List Int) => [(3, .ref 1 ((b).length - 2) 0 (b).length false), (15, .sl c 3 (ws.map Wr.cells)), (16, .int .i64 ws.length), (17, .int .i64 (i : Nat))]) (fun (i : Nat) (b : List Int) => [.box [.int .i64 t, .sl c 3 (ws.map Wr.cells)], .rows ((b).length - 2) 1 (u8s (b))]) (fun b => (some (.exit 0, [(3, .ref 1 ((b).length - 2) 0 (b).length false)], [.box [.int .i64 t, .sl c 3 (ws.map Wr.cells)], .rows ((b).length - 2) 1 (u8s (b))]) : Out)) (fun b K hb => ?_) (fun (i : Nat) (x : Wr) b K hi hx hb => ?_) K hK b0 hb0
  · simp only [Int.natCast_zero] at key
    exact key
  · rw [LoopS_eq]
    simp -implicitDefEqProofs only [go_sem, Nat.reduceBEq, Nat.reduceAdd, Nat.reduceSub, Nat.reduceMul, Nat.reduceLeDiff, Nat.reduceEqDiff, Nat.reduceLT, Int.reduceNeg, Int.reduceAdd, Int.reduceSub, Int.reduceMul, Int.reduceLE, Int.reduceLT, Int.reduceEq, Int.reduceToNat, reduceCtorEq, evL67x0, B67x0, Int.lt_irrefl]
  · have hxo := hok x (List.mem_of_getElem? hx); obtain ⟨o1, o2, o3⟩ := wr_one hxo; have hxl := rbytes_len o3; have sm1 : b.length + 2 < 4294967296 := (by have := hb.2; omega); have sm2 : b.length + (2 + (rowBytes x.row.vs).length) < 4294967296 := (by have := hb.2; omega); have hst : b.length - 2 + (2 + (rowBytes x.row.vs).length) = b.length + (2 + (rowBytes x.row.vs).length) - 2 := (by have := hb.1; omega); have hvx := run_rbytesI d x.row.clip x.row.vs o3; have kw1 : x.key % 256 = x.key := (by omega); have kw2 : goneI x.gone % 256 = goneI x.gone := (by have := goneI_in x.gone; omega)
    all_goals
      refine ⟨?_, ?_⟩
      · (rw [len_wr]; omega)
      · rw [LoopS_eq]
        simp -implicitDefEqProofs (disch := first | omega | assumption) only [go_sem, Nat.reduceBEq, Nat.reduceAdd, Nat.reduceSub, Nat.reduceMul, Nat.reduceLeDiff, Nat.reduceEqDiff, Nat.reduceLT, Int.reduceNeg, Int.reduceAdd, Int.reduceSub, Int.reduceMul, Int.reduceLE, Int.reduceLT, Int.reduceEq, Int.reduceToNat, reduceCtorEq, evL67x0, B67x0, hi, hx, IntWalk.i64_in, List.map_append, List.foldl_cons, evC_draw, evD67x0, E67x0, hx, hvx, run_truthB, Wr.cells, Row.v, len_wr, u8s_wr, u8s_len, hst, sm1, sm2, kw1, kw2, IntKind.wrap_u8, if_true, if_false, elemsOf, elemOf]
        skip
-- find67
theorem own_entryBytes (d : Nat) (e : Ent) (h : logOk [e] = true) : ∃ v hc ids, runD tab noExt (d + 9) 67 [.agg e.cells] [] = some ([v], hc) ∧ OwnF hc (.sub fdByte) v (.sub (byU (frB (bodyB e)))) ids ∧ ids.Nodup := by
  obtain ⟨h1, h2, h3⟩ := one_at h
  have hbl := body_len h
  obtain ⟨hl, hle, _⟩ := loop_ebI d e.time e.wc e.ws h3 h2 1099511627775 (by omega) [e.time, (e.ws.length : Int)] ⟨by simp, by simp⟩
  have hbe : bodyB e = e.ws.foldl (fun b w => b ++ wrBytes w) [e.time, (e.ws.length : Int)] := rfl
  rw [← hbe] at hl hle
  have hi0 : u8s [e.time, (e.ws.length : Int)] = [[.int .u8 e.time], [.int .u8 e.ws.length]] := rfl
  simp only [hi0, List.length_cons, List.length_nil, Int.natCast_zero] at hl
  obtain ⟨v1, hc, is0, q1, q2, q3⟩ := own_framed (d + 6) false (bodyB e) (by omega) (in_body h)
  have ht : List.take (bodyB e).length (u8s (bodyB e)) = u8s (bodyB e) := List.take_of_length_le (by rw [u8s_len]; omega)
  obtain ⟨w, hw, js, k1, k2, k3, k4, k5, k6⟩ := own_call (h := [.box [.int .i64 e.time, .sl e.wc 3 (e.ws.map Wr.cells)], .rows ((bodyB e).length - 2) 1 (u8s (bodyB e))]) (args := [.ref 1 ((bodyB e).length - 2) 0 (bodyB e).length false]) (by simp only [pureDAs, mapO, pureDA, pureD, deepest, List.getElem?_cons_succ, List.getElem?_cons_zero, if_true, List.drop_zero, ht]) q1 q2 q3
  refine ⟨w, hw, js, ?_, k2, k3⟩
  have kt : e.time % 256 = e.time := by omega
  have kl : (e.ws.length : Int) % 256 = e.ws.length := by omega
  rw [runD_eq find67 _ _ _ (by simp)]
  simp -implicitDefEqProofs (disch := omega) only [go_sem, Nat.reduceBEq, Nat.reduceAdd, Nat.reduceSub, Nat.reduceMul, Nat.reduceLeDiff, Nat.reduceEqDiff, Nat.reduceLT, Int.reduceNeg, Int.reduceAdd, Int.reduceSub, Int.reduceMul, Int.reduceLE, Int.reduceLT, Int.reduceEq, Int.reduceToNat, reduceCtorEq, Ent.cells, Ent.v, IntKind.wrap_u8, kt, kl, elemsOf, elemOf, frzs, refs, refC, refsV]
  try simp -implicitDefEqProofs only [go_sem, Nat.reduceBEq, Nat.reduceAdd, Nat.reduceSub, Nat.reduceMul, Nat.reduceLeDiff, Nat.reduceEqDiff, Nat.reduceLT, Int.reduceNeg, Int.reduceAdd, Int.reduceSub, Int.reduceMul, Int.reduceLE, Int.reduceLT, Int.reduceEq, Int.reduceToNat, reduceCtorEq] at hl
  rw [hl]
  rcases own_cases k2 with ⟨cx, rfl⟩ | ⟨id, st, m, clip, rfl⟩ <;> simp -implicitDefEqProofs (disch := first | omega | assumption) only [go_sem, Nat.reduceBEq, Nat.reduceAdd, Nat.reduceSub, Nat.reduceMul, Nat.reduceLeDiff, Nat.reduceEqDiff, Nat.reduceLT, Int.reduceNeg, Int.reduceAdd, Int.reduceSub, Int.reduceMul, Int.reduceLE, Int.reduceLT, Int.reduceEq, Int.reduceToNat, reduceCtorEq, k1, resOk]
def entBytes (e : Ent) : List Int := if logOk [e] then frB (bodyB e) else []
-- find18
theorem own_EntryBytes (d : Nat) (e : Ent) (h1 : LimE [e]) : ∃ v hc ids, runD tab noExt (d + 10) 18 [.agg e.cells] [] = some ([v], hc) ∧ OwnF hc (.sub fdByte) v (.sub (byU (entBytes e))) ids ∧ ids.Nodup := by
  obtain ⟨_, e2, e3⟩ := h1.fine
  have hv1 := run_logI d true [e] e3 e2
  simp only [List.map_cons, List.map_nil, Ent.cells, Ent.v] at hv1
  unfold entBytes
  cases o1 : logOk [e]
  · rw [o1] at hv1
    refine ⟨.sl true 1 [], [.box e.cells], [], ?_, own_nil rfl, List.nodup_nil⟩
    rw [runD_eq find18 _ _ _ (by simp)]
    simp -implicitDefEqProofs (disch := omega) only [go_sem, Nat.reduceBEq, Nat.reduceAdd, Nat.reduceSub, Nat.reduceMul, Nat.reduceLeDiff, Nat.reduceEqDiff, Nat.reduceLT, Int.reduceNeg, Int.reduceAdd, Int.reduceSub, Int.reduceMul, Int.reduceLE, Int.reduceLT, Int.reduceEq, Int.reduceToNat, reduceCtorEq, Ent.cells, Ent.v, elemsOf, elemOf, frzs, refs, refC, refsV, hv1]
  · rw [o1] at hv1
    obtain ⟨v1, hc, is0, q1, q2, q3⟩ := own_entryBytes d e o1
    obtain ⟨w, hw, js, k1, k2, k3, k4, k5, k6⟩ := own_call (h := [.box e.cells]) (args := [.agg e.cells]) (by simp only [pureDAs, mapO, pureDA, pureD, deepest, Ent.cells, Ent.v, Option.map_some]) q1 q2 q3
    refine ⟨w, hw, js, ?_, k2, k3⟩
    simp only [Ent.cells, Ent.v] at k1
    rw [runD_eq find18 _ _ _ (by simp)]
    rcases own_cases k2 with ⟨cx, rfl⟩ | ⟨id, st, m, clip, rfl⟩ <;> simp -implicitDefEqProofs (disch := first | omega | assumption) only [go_sem, Nat.reduceBEq, Nat.reduceAdd, Nat.reduceSub, Nat.reduceMul, Nat.reduceLeDiff, Nat.reduceEqDiff, Nat.reduceLT, Int.reduceNeg, Int.reduceAdd, Int.reduceSub, Int.reduceMul, Int.reduceLE, Int.reduceLT, Int.reduceEq, Int.reduceToNat, reduceCtorEq, Ent.cells, Ent.v, elemsOf, elemOf, frzs, refs, refC, refsV, hv1, k1, resOk]
theorem loop_ebS (d : Nat) (t : Int) (c : Bool) (ws : List Wr) (hw5 : ws.length ≤ 5) (hok : ∀ w ∈ ws, w.one = true) (K : Nat) (hK : (ws).length ≤ K) (b0 : List Int) (hb0 : (fun (i : Nat) (b : List Int) => 2 ≤ b.length ∧ b.length ≤ 2 + 35 * i) 0 b0) : LoopS (runD tab noExt (d + 4)) (drawI (runD tab noExt (d + 4))) [1, 3, 4] [3] L64x0 ([.box [.int .i64 t, .sl c 3 (ws.map Wr.cells)], .rows 0 1 [], .rows ((b0).length - 2) 1 (u8s (b0))] : Heap).length K [(1, .ptr 0 0 0 0), (3, .ref 2 ((b0).length - 2) 0 (b0).length false), (4, .int .i64 (0 : Nat))] [.box [.int .i64 t, .sl c 3 (ws.map Wr.cells)], .rows 0 1 [], .rows ((b0).length - 2) 1 (u8s (b0))] = (some (.exit 0, [(3, .ref 2 ((((ws).foldl (fun b w => b ++ wrBytes w) b0)).length - 2) 0 (((ws).foldl (fun b w => b ++ wrBytes w) b0)).length false)], [.box [.int .i64 t, .sl c 3 (ws.map Wr.cells)], .rows 0 1 [], .rows ((((ws).foldl (fun b w => b ++ wrBytes w) b0)).length - 2) 1 (u8s (((ws).foldl (fun b w => b ++ wrBytes w) b0)))]) : Out) ∧ (fun (i : Nat) (b : List Int) => 2 ≤ b.length ∧ b.length ≤ 2 + 35 * i) (ws).length ((ws).foldl (fun b w => b ++ wrBytes w) b0) := by
  have key := LoopS_foldI (run := (runD tab noExt (d + 4))) (draw := drawI (runD tab noExt (d + 4))) (live := [1, 3, 4]) (out := [3]) (c := L64x0) (n0 := ([.box [.int .i64 t, .sl c 3 (ws.map Wr.cells)], .rows 0 1 [], .rows ((b0).length - 2) 1 (u8s (b0))] : Heap).length) (ws) (fun b w => b ++ wrBytes w) (fun (i : Nat) (b : List Int) => 2 ≤ b.length ∧ b.length ≤ 2 + 35 * i) (fun (i : Nat) (b : List Int) => [(1, .ptr 0 0 0 0), (3, .ref 2 ((b).length - 2) 0 (b).length false), (4, .int .i64 (i : Nat))]) (fun (i : Nat) (b : List Int) => [.box [.int .i64 t, .sl c 3 (ws.map Wr.cells)], .rows 0 1 [], .rows ((b).length - 2) 1 (u8s (b))]) (fun b => (some (.exit 0, [(3, .ref 2 ((b).length - 2) 0 (b).length false)], [.box [.int .i64 t, .sl c 3 (ws.map Wr.cells)], .rows 0 1 [], .rows ((b).length - 2) 1 (u8s (b))]) : Out)) (fun b K hb => ?_) (fun (i : Nat) (x : Wr) b K hi hx hb => ?_) K hK b0 hb0
  · simp only [Int.natCast_zero] at key
    exact key
  · rw [LoopS_eq]
    simp -implicitDefEqProofs only [go_sem, Nat.reduceBEq, Nat.reduceAdd, Nat.reduceSub, Nat.reduceMul, Nat.reduceLeDiff, Nat.reduceEqDiff, Nat.reduceLT, Int.reduceNeg, Int.reduceAdd, Int.reduceSub, Int.reduceMul, Int.reduceLE, Int.reduceLT, Int.reduceEq, Int.reduceToNat, reduceCtorEq, evL64x0, B64x0, Int.lt_irrefl]
  · have hxo := hok x (List.mem_of_getElem? hx); obtain ⟨o1, o2, o3⟩ := wr_one hxo; have hxl := rbytes_len o3; have sm1 : b.length + 2 < 4294967296 := (by have := hb.2; omega); have sm2 : b.length + (2 + (rowBytes x.row.vs).length) < 4294967296 := (by have := hb.2; omega); have hst : b.length - 2 + (2 + (rowBytes x.row.vs).length) = b.length + (2 + (rowBytes x.row.vs).length) - 2 := (by have := hb.1; omega); have hvx := run_rbytesS d x.row.clip x.row.vs o3; have kw1 : x.key % 256 = x.key := (by omega); have kw2 : goneI x.gone % 256 = goneI x.gone := (by have := goneI_in x.gone; omega)
    all_goals
      refine ⟨?_, ?_⟩
      · (rw [len_wr]; omega)
      · rw [LoopS_eq]
        simp -implicitDefEqProofs (disch := first | omega | assumption) only [go_sem, Nat.reduceBEq, Nat.reduceAdd, Nat.reduceSub, Nat.reduceMul, Nat.reduceLeDiff, Nat.reduceEqDiff, Nat.reduceLT, Int.reduceNeg, Int.reduceAdd, Int.reduceSub, Int.reduceMul, Int.reduceLE, Int.reduceLT, Int.reduceEq, Int.reduceToNat, reduceCtorEq, evL64x0, B64x0, hi, hx, IntWalk.i64_in, List.map_append, List.foldl_cons, evC_draw, evD64x0, E64x0, hx, hvx, run_l2B, Wr.cells, Row.v, len_wr, u8s_wr, u8s_len, hst, sm1, sm2, kw1, kw2, IntKind.wrap_u8, if_true, if_false, elemsOf, elemOf]
        skip
-- find64
theorem run_bodyS (d : Nat) (e : Ent) (h : logOk [e] = true) : retP (runD tab noExt (d + 5)) 64 [.agg e.cells] = some [.sl false 1 (u8s (bodyB e))] := by
  obtain ⟨h1, h2, h3⟩ := one_at h
  have hbl := body_len h
  obtain ⟨hl, hle, _⟩ := loop_ebS d e.time e.wc e.ws h3 h2 1099511627775 (by omega) [e.time, (e.ws.length : Int)] ⟨by simp, by simp⟩
  have hbe : bodyB e = e.ws.foldl (fun b w => b ++ wrBytes w) [e.time, (e.ws.length : Int)] := rfl
  rw [← hbe] at hl hle
  have hi0 : u8s [e.time, (e.ws.length : Int)] = [[.int .u8 e.time], [.int .u8 e.ws.length]] := rfl
  simp only [hi0, List.length_cons, List.length_nil, Int.natCast_zero] at hl
  have ht : List.take (bodyB e).length (u8s (bodyB e)) = u8s (bodyB e) := List.take_of_length_le (by rw [u8s_len]; omega)
  have kt : e.time % 256 = e.time := by omega
  have kl : (e.ws.length : Int) % 256 = e.ws.length := by omega
  rw [retP, runD_eq find64 _ _ _ (by simp)]
  simp -implicitDefEqProofs (disch := omega) only [go_sem, Nat.reduceBEq, Nat.reduceAdd, Nat.reduceSub, Nat.reduceMul, Nat.reduceLeDiff, Nat.reduceEqDiff, Nat.reduceLT, Int.reduceNeg, Int.reduceAdd, Int.reduceSub, Int.reduceMul, Int.reduceLE, Int.reduceLT, Int.reduceEq, Int.reduceToNat, reduceCtorEq, Ent.cells, Ent.v, IntKind.wrap_u8, kt, kl, elemsOf, elemOf, frzs, refs, refC, refsV]
  try simp -implicitDefEqProofs only [go_sem, Nat.reduceBEq, Nat.reduceAdd, Nat.reduceSub, Nat.reduceMul, Nat.reduceLeDiff, Nat.reduceEqDiff, Nat.reduceLT, Int.reduceNeg, Int.reduceAdd, Int.reduceSub, Int.reduceMul, Int.reduceLE, Int.reduceLT, Int.reduceEq, Int.reduceToNat, reduceCtorEq] at hl
  rw [hl]
  simp -implicitDefEqProofs (disch := omega) only [go_sem, Nat.reduceBEq, Nat.reduceAdd, Nat.reduceSub, Nat.reduceMul, Nat.reduceLeDiff, Nat.reduceEqDiff, Nat.reduceLT, Int.reduceNeg, Int.reduceAdd, Int.reduceSub, Int.reduceMul, Int.reduceLE, Int.reduceLT, Int.reduceEq, Int.reduceToNat, reduceCtorEq, ht]
-- find16
theorem run_EntryBytesS (d : Nat) (e : Ent) (h1 : LimE [e]) : retP (runD tab noExt (d + 6)) 16 [.agg e.cells] = some [.sl false 1 (u8s (entBytes e))] := by
  obtain ⟨_, e2, e3⟩ := h1.fine
  have hv1 := run_logS d true [e] e3 e2
  simp only [List.map_cons, List.map_nil, Ent.cells, Ent.v] at hv1
  unfold entBytes
  cases o1 : logOk [e]
  · rw [o1] at hv1
    rw [retP, runD_eq find16 _ _ _ (by simp)]
    simp -implicitDefEqProofs (disch := omega) only [go_sem, Nat.reduceBEq, Nat.reduceAdd, Nat.reduceSub, Nat.reduceMul, Nat.reduceLeDiff, Nat.reduceEqDiff, Nat.reduceLT, Int.reduceNeg, Int.reduceAdd, Int.reduceSub, Int.reduceMul, Int.reduceLE, Int.reduceLT, Int.reduceEq, Int.reduceToNat, reduceCtorEq, Ent.cells, Ent.v, elemsOf, elemOf, frzs, refs, refC, refsV, hv1, u8s_nil, Bool.false_eq_true, if_false]
  · rw [o1] at hv1
    have hb := run_bodyS d e o1
    have hbl := body_len o1
    have hs := run_sumS (d + 4) false (bodyB e) (by omega) (in_body o1)
    simp only [Ent.cells, Ent.v] at hb
    have q1 : ((bodyB e).length : Int).tdiv 256 = (bodyB e).length / 256 := tdiv256 (by omega)
    have q2 : (((bodyB e).length : Int) / 256) % 256 = (bodyB e).length / 256 := mod_div (by omega)
    have q3 : ((bodyB e).length : Int).tmod 256 = (bodyB e).length % 256 := tmod256 (by omega)
    have cm : (2 + (bodyB e).length = (bodyB e).length + 2) = True := eq_true (by omega)
    have sm1 : 2 + (bodyB e).length < 4294967296 := by omega
    have sm2 : 2 + ((bodyB e).length + 1) < 4294967296 := by omega
    have ht : List.take (2 + ((bodyB e).length + 1)) (u8s (frB (bodyB e))) = u8s (frB (bodyB e)) := List.take_of_length_le (by rw [u8s_len]; simp [frB]; omega)
    rw [u8s_fr] at ht
    simp only [if_true, u8s_fr]
    rw [retP, runD_eq find16 _ _ _ (by simp)]
    simp -implicitDefEqProofs (disch := omega) only [go_sem, Nat.reduceBEq, Nat.reduceAdd, Nat.reduceSub, Nat.reduceMul, Nat.reduceLeDiff, Nat.reduceEqDiff, Nat.reduceLT, Int.reduceNeg, Int.reduceAdd, Int.reduceSub, Int.reduceMul, Int.reduceLE, Int.reduceLT, Int.reduceEq, Int.reduceToNat, reduceCtorEq, Ent.cells, Ent.v, hv1, hb, hs, u8s_len, IntKind.wrap_u8, IntWalk.i64_in, mod_mod, q1, q2, q3, cm, sm1, sm2, ht, elemsOf, elemOf, frzs, refs, refC, refsV]
end Go.Proofs.Yteaojpfofifmnaa.PE
/- Bytes of entries: what both functions tell, for the exact statement. -/
set_option linter.unusedSimpArgs false
set_option linter.unusedVariables false
namespace Go.Proofs.Yteaojpfofifmnaa.PE
open Go.RowKit

theorem wrBytes_own (w : Wr) : wrBytes w.own = wrBytes w := rfl
theorem bodyB_own (e : Ent) : bodyB e.own = bodyB e := by
  have : (e.ws.map Wr.own).flatMap wrBytes = e.ws.flatMap wrBytes := by rw [List.flatMap_map]; rfl
  rw [bodyB_eq, bodyB_eq]
  show e.time :: ((e.ws.map Wr.own).length : Int) :: (e.ws.map Wr.own).flatMap wrBytes = _
  rw [this, List.length_map]
theorem entBytes_own (e : Ent) : entBytes e.own = entBytes e := by
  have : logOk [e.own] = logOk [e] := logOk_own [e]
  rw [entBytes, entBytes, this, bodyB_own]
theorem entBytes_vs {a b : Ent} (h : entU a = entU b) : entBytes a = entBytes b := by rw [← entBytes_own a, ← entBytes_own b, entU_inj h]
theorem frB_len (b : List Int) : (frB b).length = b.length + 3 := by simp [frB]
theorem entBytes_len (e : Ent) : (entBytes e).length ≤ 180 := by
  unfold entBytes
  split
  · rename_i h
    have := body_len h
    rw [frB_len]
    omega
  · simp
theorem by_len (l : List Int) : (byU l).length = l.length := List.length_map _
theorem by_pur (c : Bool) (l : List Int) : PurF (.sub fdByte) (.sl c 1 (u8s l)) (.sub (byU l)) := pur_map (fun n => purR_mk_Byte n) c 1 rfl l
theorem by_lenF {n m : Nat} {l : List Int} (h : l.length ≤ n) : LenF n m (.sub fdByte) (.sub (byU l)) := by
  simp only [LenF]
  exact ⟨by rw [by_len]; exact h, all_flat (by simp [fdByte]) _⟩
theorem by_cnt {l : List Int} (h : l.length ≤ 1048576) : (cntF (.sub fdByte) (.sub (byU l)) : Int) ≤ 2305843009213693952 := by
  simp only [cntF, fdByte]
  have := sum_one (f := .int .u8) (fun u => by cases u <;> rfl) (byU l)
  rw [by_len] at this
  omega
theorem core_EntryBytes (s0_0 : Int) {x0_1 : List (List U)} (h0_1 : ∃ p, PurF (.sub fdWrite) p (.sub x0_1)) (L0x1 : LenF 1048576 1048576 (.sub fdWrite) (.sub x0_1)) :
    ∃ ux, LenF big big (.sub fdByte) (.sub ux) ∧ (cntF (.sub fdByte) (.sub ux) : Int) ≤ 2305843009213693952 ∧
      (∀ {q0 : V}, PurF (.sub fdWrite) q0 (.sub x0_1) → ∃ w, retP (runD tab noExt 60) 16 [.agg [.int .i64 s0_0, q0]] = some [w] ∧ PurF (.sub fdByte) w (.sub ux)) ∧
      (∀ {q0 : V}, PurF (.sub fdWrite) q0 (.sub x0_1) → ∃ v hc ids, runD tab noExt 60 18 [.agg [.int .i64 s0_0, q0]] [] = some ([v], hc) ∧ OwnF hc (.sub fdByte) v (.sub ux) ids ∧ ids.Nodup) := by
  obtain ⟨p0, g0⟩ := h0_1
  obtain ⟨wc, ws, rfl, rfl⟩ := wrs_each g0
  have limk : ∀ (c : Bool) (ws2 : List Wr), ws2.map wrU = ws.map wrU → LimE [⟨s0_0, c, ws2⟩] := by
    intro c ws2 f
    rw [← f] at L0x1
    obtain ⟨a1, a2⟩ := wrs_lim L0x1
    exact ⟨by simp, fun e he => by rw [List.mem_singleton.1 he]; exact ⟨a1, a2⟩⟩
  have hlen := entBytes_len ⟨s0_0, wc, ws⟩
  refine ⟨byU (entBytes ⟨s0_0, wc, ws⟩), LenF_mono (n := 1048576) (m := 1048576) (by decide) (by decide) _ (by_lenF (by omega)), by_cnt (by omega), fun k0 => ?_, fun k0 => ?_⟩
  all_goals
    obtain ⟨c0, ws2, rfl, f0⟩ := wrs_each k0
    have lk2 := limk c0 ws2 f0.symm
    have t : entBytes ⟨s0_0, wc, ws⟩ = entBytes ⟨s0_0, c0, ws2⟩ := entBytes_vs (by simp [entU, f0])
    rw [t]
  · exact ⟨_, run_EntryBytesS 54 ⟨s0_0, c0, ws2⟩ lk2, by_pur _ _⟩
  · exact own_EntryBytes 50 ⟨s0_0, c0, ws2⟩ lk2
end Go.Proofs.Yteaojpfofifmnaa.PE
/- What a follower has of a log; a backup and the log behind it. -/
set_option linter.unusedSimpArgs false
set_option linter.unusedVariables false
set_option maxHeartbeats 4000000
namespace Go.Proofs.Yteaojpfofifmnaa.PE
open Go.RowKit

def icell (x : Int) : List V := [.int .i64 x]
def icU (x : Int) : List U := [.int x]
theorem ints_each {y : List (List U)} {p : V} (h : PurF (.sub fdInt) p (.sub y)) : ∃ (c : Bool) (l : List Int), p = .sl c 1 (l.map icell) ∧ y = l.map icU := by
  obtain ⟨c, ct, rfl, hz⟩ := purS_Int h
  obtain ⟨l, rfl, rfl⟩ := typ_of (f := icell) (g := icU) (fun c x hr => by
    obtain ⟨a0, rfl, rfl⟩ := purR_Int hr
    exact ⟨a0, rfl, rfl⟩) hz
  exact ⟨c, l, rfl, rfl⟩
theorem icU_inj {a b : Int} (h : icU a = icU b) : a = b := by
  simp only [icU, List.cons.injEq, U.int.injEq, and_true] at h
  exact h
def fol1 (m : Nat) (b : Nat) (x : Int) : Nat := if x = b ∧ (b : Int) < m then b + 1 else b
def fol (m : Nat) (xs : List Int) : Nat := xs.foldl (fol1 m) 0
theorem fol1_le {m b : Nat} {x : Int} (h : b ≤ m) : fol1 m b x ≤ m := by
  unfold fol1
  split <;> omega
theorem loop_folI (d : Nat) (c c' : Bool) (l : List Ent) (xs : List Int) (hl : l.length < 1099511627776) (hs : xs.length < 1099511627776) (K : Nat) (hK : (xs).length ≤ K) (b0 : Nat) (hb0 : (fun (i : Nat) (b : Nat) => b ≤ l.length) 0 b0) : LoopS (runD tab noExt d) (drawI (runD tab noExt d)) [0, 5, 11, 12, 13] [0, 5] L48x0 ([] : Heap).length K [(0, .sl c 2 (l.map Ent.cells)), (5, .int .i64 (b0 : Nat)), (11, .sl c' 1 (xs.map icell)), (12, .int .i64 xs.length), (13, .int .i64 (0 : Nat))] [] = (some (.exit 0, [(0, .sl c 2 (l.map Ent.cells)), (5, .int .i64 (((xs).foldl (fol1 l.length) b0) : Nat))], []) : Out) ∧ (fun (i : Nat) (b : Nat) => b ≤ l.length) (xs).length ((xs).foldl (fol1 l.length) b0) := by
  have key := LoopS_foldI (run := (runD tab noExt d)) (draw := drawI (runD tab noExt d)) (live := [0, 5, 11, 12, 13]) (out := [0, 5]) (c := L48x0) (n0 := ([] : Heap).length) (xs) (fol1 l.length) (fun (i : Nat) (b : Nat) => b ≤ l.length) (fun (i : Nat) (b : Nat) => [(0, .sl c 2 (l.map Ent.cells)), (5, .int .i64 (b : Nat)), (11, .sl c' 1 (xs.map icell)), (12, .int .i64 xs.length), (13, .int .i64 (i : Nat))]) (fun (i : Nat) (b : Nat) => []) (fun b => (some (.exit 0, [(0, .sl c 2 (l.map Ent.cells)), (5, .int .i64 (b : Nat))], []) : Out)) (fun b K hb => ?_) (fun (i : Nat) (x : Int) b K hi hx hb => ?_) K hK b0 hb0
  · simp only [Int.natCast_zero] at key
    exact key
  · rw [LoopS_eq]
    simp -implicitDefEqProofs only [go_sem, Nat.reduceBEq, Nat.reduceAdd, Nat.reduceSub, Nat.reduceMul, Nat.reduceLeDiff, Nat.reduceEqDiff, Nat.reduceLT, Int.reduceNeg, Int.reduceAdd, Int.reduceSub, Int.reduceMul, Int.reduceLE, Int.reduceLT, Int.reduceEq, Int.reduceToNat, reduceCtorEq, evL48x0, B48x0, Int.lt_irrefl]
  · have hk : fol1 l.length b x = if x = (b : Int) ∧ (b : Int) < l.length then b + 1 else b := rfl; rw [hk]; by_cases k1 : x = (b : Int) <;> by_cases k2 : (b : Int) < l.length
    all_goals
      refine ⟨?_, ?_⟩
      · (simp only [k1, k2, true_and, and_true, and_self, if_true, if_false, false_and, and_false]; try omega)
      · rw [LoopS_eq]
        simp -implicitDefEqProofs (disch := first | omega | assumption) only [go_sem, Nat.reduceBEq, Nat.reduceAdd, Nat.reduceSub, Nat.reduceMul, Nat.reduceLeDiff, Nat.reduceEqDiff, Nat.reduceLT, Int.reduceNeg, Int.reduceAdd, Int.reduceSub, Int.reduceMul, Int.reduceLE, Int.reduceLT, Int.reduceEq, Int.reduceToNat, reduceCtorEq, evL48x0, B48x0, hi, hx, IntWalk.i64_in, List.map_append, List.foldl_cons, hx, icell, k1, k2, hk]
        skip
-- find48
theorem own_followed (d : Nat) (c c' : Bool) (l : List Ent) (xs : List Int) (h : LimE l) (hs : xs.length < 1099511627776) : ∃ v hc ids, runD tab noExt (d + 10) 48 [.sl c 2 (l.map Ent.cells), .sl c' 1 (xs.map icell)] [] = some ([v], hc) ∧ OwnF hc (.sub fdEntry) v (.sub ((if logOk l then l.take (fol l.length xs) else []).map entU)) ids ∧ ids.Nodup := by
  obtain ⟨f1, f2, f3⟩ := h.fine
  have hv := run_logI d c l f3 f2
  cases hok : logOk l
  · rw [hok] at hv
    refine ⟨.sl true 2 [], [], [], ?_, own_nil rfl, List.nodup_nil⟩
    rw [runD_eq find48 _ _ _ (by simp)]
    simp -implicitDefEqProofs (disch := omega) only [go_sem, Nat.reduceBEq, Nat.reduceAdd, Nat.reduceSub, Nat.reduceMul, Nat.reduceLeDiff, Nat.reduceEqDiff, Nat.reduceLT, Int.reduceNeg, Int.reduceAdd, Int.reduceSub, Int.reduceMul, Int.reduceLE, Int.reduceLT, Int.reduceEq, Int.reduceToNat, reduceCtorEq, hv]
  · rw [hok] at hv
    obtain ⟨hl, hle⟩ := loop_folI (d + 9) c c' l xs f3 hs 1099511627775 (by omega) 0 (Nat.zero_le _)
    have hfl : fol l.length xs = xs.foldl (fol1 l.length) 0 := rfl
    rw [← hfl] at hl hle
    generalize fol l.length xs = n at hl hle
    simp only [List.length_nil, Int.natCast_zero] at hl
    have hsub : LimE (l.take n) := h.sub (by have := h.1; simp; omega) (fun e he => List.mem_of_mem_take he)
    have et : List.take n (l.map Ent.cells) = (l.take n).map Ent.cells := (List.map_take).symm
    have hi : (n : Int) ≤ l.length := by omega
    obtain ⟨v1, hc, is0, e1, e2, e3⟩ := own_logCopy (d + 5) (c && decide ((n : Int) = l.length)) (l.take n) hsub.fine.1
    obtain ⟨w, h1, js, k1, k2, k3, k4, k5, k6⟩ := own_call (h := []) (args := [.sl (c && decide ((n : Int) = l.length)) 2 ((l.take n).map Ent.cells)]) (by simp only [pureDAs, mapO, pureDA, pureD]) e1 e2 e3
    refine ⟨w, h1, js, ?_, k2, k3⟩
    rw [runD_eq find48 _ _ _ (by simp)]
    simp -implicitDefEqProofs (disch := omega) only [go_sem, Nat.reduceBEq, Nat.reduceAdd, Nat.reduceSub, Nat.reduceMul, Nat.reduceLeDiff, Nat.reduceEqDiff, Nat.reduceLT, Int.reduceNeg, Int.reduceAdd, Int.reduceSub, Int.reduceMul, Int.reduceLE, Int.reduceLT, Int.reduceEq, Int.reduceToNat, reduceCtorEq, hv]
    try simp -implicitDefEqProofs only [go_sem, Nat.reduceBEq, Nat.reduceAdd, Nat.reduceSub, Nat.reduceMul, Nat.reduceLeDiff, Nat.reduceEqDiff, Nat.reduceLT, Int.reduceNeg, Int.reduceAdd, Int.reduceSub, Int.reduceMul, Int.reduceLE, Int.reduceLT, Int.reduceEq, Int.reduceToNat, reduceCtorEq] at hl
    rw [hl]
    rcases own_cases k2 with ⟨cx, rfl⟩ | ⟨id, st, m, clip, rfl⟩ <;> simp -implicitDefEqProofs (disch := first | omega | assumption) only [go_sem, Nat.reduceBEq, Nat.reduceAdd, Nat.reduceSub, Nat.reduceMul, Nat.reduceLeDiff, Nat.reduceEqDiff, Nat.reduceLT, Int.reduceNeg, Int.reduceAdd, Int.reduceSub, Int.reduceMul, Int.reduceLE, Int.reduceLT, Int.reduceEq, Int.reduceToNat, reduceCtorEq, hi, et, k1, resOk, Option.getD_some, Option.isSome_none, Option.isSome_some, Option.isNone_some, Nat.sub_zero]
theorem take_snoc_at {α : Type} {l : List α} {n : Nat} (h : n < l.length) : ∃ x, l[n]? = some x ∧ l.take (n + 1) = l.take n ++ [x] := ⟨l[n], List.getElem?_eq_getElem h, take_snoc (List.getElem?_eq_getElem h)⟩
-- find46
theorem run_followedS (d : Nat) (c c' : Bool) (l : List Ent) (xs : List Int) (h : LimE l) (hs : xs.length < 1099511627776) : ∃ cw, retP (runD tab noExt (d + 6)) 46 [.sl c 2 (l.map Ent.cells), .sl c' 1 (xs.map icell)] = some [.sl cw 2 (((if logOk l then l.take (fol l.length xs) else []).map Ent.own).map Ent.cells)] := by
  obtain ⟨f1, f2, f3⟩ := h.fine
  have hv := run_logS d c l f3 f2
  cases hok : logOk l
  · rw [hok] at hv
    have hcp := run_l18 (d + 2) false [] ⟨by simp, fun _ h => by cases h⟩
    simp only [List.map_nil] at hcp
    refine ⟨false, ?_⟩
    rw [retP, runD_eq find46 _ _ _ (by simp)]
    simp -implicitDefEqProofs (disch := omega) only [go_sem, Nat.reduceBEq, Nat.reduceAdd, Nat.reduceSub, Nat.reduceMul, Nat.reduceLeDiff, Nat.reduceEqDiff, Nat.reduceLT, Int.reduceNeg, Int.reduceAdd, Int.reduceSub, Int.reduceMul, Int.reduceLE, Int.reduceLT, Int.reduceEq, Int.reduceToNat, reduceCtorEq]
    rw [LoopS_eq]
    by_cases h0 : (0 : Int) < xs.length
    · simp -implicitDefEqProofs (disch := omega) only [go_sem, Nat.reduceBEq, Nat.reduceAdd, Nat.reduceSub, Nat.reduceMul, Nat.reduceLeDiff, Nat.reduceEqDiff, Nat.reduceLT, Int.reduceNeg, Int.reduceAdd, Int.reduceSub, Int.reduceMul, Int.reduceLE, Int.reduceLT, Int.reduceEq, Int.reduceToNat, reduceCtorEq, evL46x0, B46x0, h0, hv, hcp, Bool.false_eq_true, if_false, List.map_nil]
    · simp -implicitDefEqProofs (disch := omega) only [go_sem, Nat.reduceBEq, Nat.reduceAdd, Nat.reduceSub, Nat.reduceMul, Nat.reduceLeDiff, Nat.reduceEqDiff, Nat.reduceLT, Int.reduceNeg, Int.reduceAdd, Int.reduceSub, Int.reduceMul, Int.reduceLE, Int.reduceLT, Int.reduceEq, Int.reduceToNat, reduceCtorEq, evL46x0, B46x0, h0, hcp, Bool.false_eq_true, if_false, List.map_nil]
  · rw [hok] at hv
    obtain ⟨b', ⟨g1, g2⟩, e⟩ := LoopS_inv (run := runD tab noExt (d + 5)) (draw := drawI (runD tab noExt (d + 5))) (live := [0, 1, 5, 6]) (out := [5]) (c := L46x0) (n0 := 1) xs.length
      (fun i (b : Nat) => b = (xs.take i).foldl (fol1 l.length) 0 ∧ b ≤ l.length)
      (fun i b => [(0, .sl c 2 (l.map Ent.cells)), (1, .sl c' 1 (xs.map icell)), (5, .ref 0 b 0 b false), (6, .int .i64 (i : Nat))]) (fun b => [.rows b 2 ((l.take b).map Ent.cells)]) (fun b => some (.exit 0, [(5, .ref 0 b 0 b false)], [.rows b 2 ((l.take b).map Ent.cells)]))
      (fun b K hb => by
        rw [LoopS_eq]
        simp -implicitDefEqProofs only [go_sem, Nat.reduceBEq, Nat.reduceAdd, Nat.reduceSub, Nat.reduceMul, Nat.reduceLeDiff, Nat.reduceEqDiff, Nat.reduceLT, Int.reduceNeg, Int.reduceAdd, Int.reduceSub, Int.reduceMul, Int.reduceLE, Int.reduceLT, Int.reduceEq, Int.reduceToNat, reduceCtorEq, evL46x0, B46x0, Int.lt_irrefl]) (fun i b K hi hb => by
        obtain ⟨g, gle⟩ := hb
        have hx := List.getElem?_eq_getElem hi
        generalize xs[i] = x at hx
        have hi' : (i : Int) < xs.length := by omega
        refine ⟨fol1 l.length b x, ⟨?_, fol1_le gle⟩, ?_⟩
        · rw [take_snoc hx, List.foldl_append, ← g]
          rfl
        have hlt : ((l.take b).map Ent.cells).length = b := by simp; omega
        have hsm : b + 1 < 4294967296 := by have := h.1; omega
        unfold fol1
        rw [LoopS_eq]
        by_cases k1 : x = (b : Int)
        · by_cases k2 : (b : Int) < l.length
          · obtain ⟨y, hy, ht⟩ := take_snoc_at (l := l) (n := b) (by omega)
            rw [if_pos ⟨k1, k2⟩, ht]
            subst k1
            simp -implicitDefEqProofs (disch := omega) only [go_sem, Nat.reduceBEq, Nat.reduceAdd, Nat.reduceSub, Nat.reduceMul, Nat.reduceLeDiff, Nat.reduceEqDiff, Nat.reduceLT, Int.reduceNeg, Int.reduceAdd, Int.reduceSub, Int.reduceMul, Int.reduceLE, Int.reduceLT, Int.reduceEq, Int.reduceToNat, reduceCtorEq, evL46x0, B46x0, hi', hx, hv, icell, k2, hy, hlt, hsm, Ent.cells, Ent.v, IntWalk.i64_in, List.map_append, List.map_cons, List.map_nil]
          · rw [if_neg (fun h => k2 h.2)]
            subst k1
            simp -implicitDefEqProofs (disch := omega) only [go_sem, Nat.reduceBEq, Nat.reduceAdd, Nat.reduceSub, Nat.reduceMul, Nat.reduceLeDiff, Nat.reduceEqDiff, Nat.reduceLT, Int.reduceNeg, Int.reduceAdd, Int.reduceSub, Int.reduceMul, Int.reduceLE, Int.reduceLT, Int.reduceEq, Int.reduceToNat, reduceCtorEq, evL46x0, B46x0, hi', hx, hv, icell, k2, IntWalk.i64_in]
        · rw [if_neg (fun h => k1 h.1)]
          simp -implicitDefEqProofs (disch := omega) only [go_sem, Nat.reduceBEq, Nat.reduceAdd, Nat.reduceSub, Nat.reduceMul, Nat.reduceLeDiff, Nat.reduceEqDiff, Nat.reduceLT, Int.reduceNeg, Int.reduceAdd, Int.reduceSub, Int.reduceMul, Int.reduceLE, Int.reduceLT, Int.reduceEq, Int.reduceToNat, reduceCtorEq, evL46x0, B46x0, hi', hx, hv, icell, k1, IntWalk.i64_in]) 1099511627775 (by omega) 0 ⟨rfl, Nat.zero_le _⟩
    rw [List.take_of_length_le (Nat.le_refl _)] at g1
    have hfl : fol l.length xs = b' := g1.symm
    rw [hfl]
    have hsub : LimE (l.take b') := h.sub (by have := h.1; simp; omega) (fun e he => List.mem_of_mem_take he)
    have hcp := run_l18 (d + 2) false (l.take b') hsub.fine.1
    have et : List.take b' ((l.take b').map Ent.cells) = (l.take b').map Ent.cells := List.take_of_length_le (by simp; omega)
    refine ⟨false, ?_⟩
    rw [retP, runD_eq find46 _ _ _ (by simp)]
    simp -implicitDefEqProofs (disch := omega) only [go_sem, Nat.reduceBEq, Nat.reduceAdd, Nat.reduceSub, Nat.reduceMul, Nat.reduceLeDiff, Nat.reduceEqDiff, Nat.reduceLT, Int.reduceNeg, Int.reduceAdd, Int.reduceSub, Int.reduceMul, Int.reduceLE, Int.reduceLT, Int.reduceEq, Int.reduceToNat, reduceCtorEq]
    try simp -implicitDefEqProofs only [go_sem, Nat.reduceBEq, Nat.reduceAdd, Nat.reduceSub, Nat.reduceMul, Nat.reduceLeDiff, Nat.reduceEqDiff, Nat.reduceLT, Int.reduceNeg, Int.reduceAdd, Int.reduceSub, Int.reduceMul, Int.reduceLE, Int.reduceLT, Int.reduceEq, Int.reduceToNat, reduceCtorEq, List.take_zero, List.map_nil, Int.natCast_zero] at e
    rw [e]
    simp -implicitDefEqProofs (disch := omega) only [go_sem, Nat.reduceBEq, Nat.reduceAdd, Nat.reduceSub, Nat.reduceMul, Nat.reduceLeDiff, Nat.reduceEqDiff, Nat.reduceLT, Int.reduceNeg, Int.reduceAdd, Int.reduceSub, Int.reduceMul, Int.reduceLE, Int.reduceLT, Int.reduceEq, Int.reduceToNat, reduceCtorEq, et, hcp, if_true]
theorem prevsG_mem {α : Type} {f : Option α × α → Bool} : ∀ {l : List α} {o : Option α}, (prevsG o l).all f = true → ∀ x ∈ l, ∃ p, f (p, x) = true
  | [], _, _, x, hx => by cases hx
  | v :: r, o, h, x, hx => by
    simp only [prevsG, List.all_cons, Bool.and_eq_true] at h
    rcases List.mem_cons.1 hx with rfl | hx
    · exact ⟨o, h.1⟩
    · exact prevsG_mem h.2 x hx
theorem logOk_one {l : List Ent} (h : logOk l = true) : ∀ e ∈ l, e.one = true := by
  intro e he
  simp only [logOk, Bool.and_eq_true] at h
  obtain ⟨p, hp⟩ := prevsG_mem h.1 e he
  simp only [entOk, Bool.and_eq_true] at hp
  exact hp.1
theorem ent_cnt {e : Ent} (h : e.one = true) : cntR fdEntry (entU e) ≤ 100 := by
  simp only [Ent.one, Bool.and_eq_true] at h
  have h5 := wrs_len5 h.2
  have hw : ∀ w ∈ e.ws, w.row.vs.length ≤ 4 := by
    intro w hw
    simp only [wrsOk] at h
    obtain ⟨p, hp⟩ := prevsG_mem h.2 w hw
    simp only [wrOk, Wr.one, rowOk, Bool.and_eq_true, decide_eq_true_eq] at hp
    exact hp.1.2.1.2
  have := sum_all (c := cntR fdWrite) (n := 14) (xs := e.ws.map wrU) (fun x hx => by
    obtain ⟨w, hw', rfl⟩ := List.mem_map.1 hx
    have e1 : cntR fdWrite (wrU w) = 1 + cntF (.sub fdValue) (.sub (w.row.vs.map valU)) + 1 := by simp only [fdWrite, wrU, cntR, cntF_int, cntF_bool]; omega
    have := hw w hw'
    rw [e1, vals_cnt]
    omega)
  rw [List.length_map] at this
  have e2 : cntR fdEntry (entU e) = 1 + sumU (cntR fdWrite) (e.ws.map wrU) := by simp only [fdEntry, entU, cntR, cntF_int, cntF]; omega
  rw [e2]
  omega
theorem ents_cnt {l : List Ent} (h : ∀ e ∈ l, e.one = true) (hn : l.length ≤ 1048576) : (cntF (.sub fdEntry) (.sub (l.map entU)) : Int) ≤ 2305843009213693952 := by
  have := sum_all (c := cntR fdEntry) (n := 100) (xs := l.map entU) (fun x hx => by
    obtain ⟨e, he, rfl⟩ := List.mem_map.1 hx
    exact ent_cnt (h e he))
  rw [List.length_map] at this
  simp only [cntF]
  omega
theorem entsU_own (l : List Ent) : (l.map Ent.own).map entU = l.map entU := by
  rw [List.map_map]
  exact List.map_congr_left (fun e _ => entU_own e)
theorem ents_own_pur (c : Bool) (l : List Ent) : PurF (.sub fdEntry) (.sl c 2 ((l.map Ent.own).map Ent.cells)) (.sub (l.map entU)) := by
  have := pur_map ent_pur c 2 rfl (l.map Ent.own)
  rw [entsU_own] at this
  exact this
theorem take_vs {a b : List Ent} (h : a.map entU = b.map entU) (n : Nat) : (a.take n).map entU = (b.take n).map entU := by rw [List.map_take, List.map_take, h]
theorem len_vs {a b : List Ent} (h : a.map entU = b.map entU) : a.length = b.length := by have := congrArg List.length h; simpa using this
theorem core_Followed {x0 : List (List U)} (h0 : ∃ p, PurF (.sub fdEntry) p (.sub x0)) (L0 : LenF 1048576 1048576 (.sub fdEntry) (.sub x0)) {x1 : List (List U)} (h1 : ∃ p, PurF (.sub fdInt) p (.sub x1)) (L1 : LenF 1048576 1048576 (.sub fdInt) (.sub x1)) :
    ∃ ux, LenF big big (.sub fdEntry) (.sub ux) ∧ (cntF (.sub fdEntry) (.sub ux) : Int) ≤ 2305843009213693952 ∧
      (∀ {q0 q1 : V}, PurF (.sub fdEntry) q0 (.sub x0) → PurF (.sub fdInt) q1 (.sub x1) → ∃ w, retP (runD tab noExt 60) 46 [q0, q1] = some [w] ∧ PurF (.sub fdEntry) w (.sub ux)) ∧
      (∀ {q0 q1 : V}, PurF (.sub fdEntry) q0 (.sub x0) → PurF (.sub fdInt) q1 (.sub x1) → ∃ v hc ids, runD tab noExt 60 48 [q0, q1] [] = some ([v], hc) ∧ OwnF hc (.sub fdEntry) v (.sub ux) ids ∧ ids.Nodup) := by
  obtain ⟨p0, g0⟩ := h0
  obtain ⟨p1, g1⟩ := h1
  obtain ⟨_, l, rfl, rfl⟩ := ents_each g0
  obtain ⟨_, xs, rfl, rfl⟩ := ints_each g1
  have lim := ents_lim L0
  have lx : xs.length ≤ 1048576 := by simp only [LenF, List.length_map] at L1; exact L1.1
  have key : ∀ l2 : List Ent, l2.map entU = l.map entU → (if logOk l2 then l2.take (fol l2.length xs) else []).map entU = (if logOk l then l.take (fol l.length xs) else []).map entU := by
    intro l2 f
    rw [logOk_vs f, len_vs f]
    cases logOk l
    · rfl
    · exact take_vs f _
  have hsub : LimE (if logOk l then l.take (fol l.length xs) else []) := by
    cases logOk l
    · exact ⟨by simp, fun _ h => by simp at h⟩
    · exact lim.sub (by simp only [if_true, List.length_take]; have := lim.1; omega) (fun e he => List.mem_of_mem_take he)
  refine ⟨(if logOk l then l.take (fol l.length xs) else []).map entU, LenF_mono (by decide) (by decide) _ (ents_len hsub), ents_cnt (fun e he => ?_) hsub.1, fun k0 k1 => ?_, fun k0 k1 => ?_⟩
  · cases hok : logOk l
    · rw [hok] at he; simp at he
    · rw [hok] at he
      exact logOk_one hok e (List.mem_of_mem_take he)
  all_goals
    obtain ⟨c, l2, rfl, f⟩ := ents_each k0
    obtain ⟨c', xs2, rfl, f2⟩ := ints_each k1
    obtain rfl := map_inj (fun _ _ => icU_inj) f2
    have lim2 : LimE l2 := ents_lim (by rw [← f]; exact L0)
    rw [← key l2 f.symm]
  · obtain ⟨cw, e⟩ := run_followedS 54 c c' l2 xs lim2 (by omega)
    exact ⟨_, e, ents_own_pur cw _⟩
  · exact own_followed 50 c c' l2 xs lim2 (by omega)
end Go.Proofs.Yteaojpfofifmnaa.PE
/- A backup and the log behind it. -/
set_option linter.unusedSimpArgs false
set_option linter.unusedVariables false
set_option maxHeartbeats 4000000
namespace Go.Proofs.Yteaojpfofifmnaa.PE
open Go.RowKit

def behStep (t : Int) (b : List Ent) (x : Ent) : List Ent := if t < x.time then b ++ [x] else b
def beh (k : Ent) (l : List Ent) : List Ent := l.foldl (behStep k.time) [k]
theorem beh_fold (t : Int) : ∀ (l b : List Ent), l.foldl (behStep t) b = b ++ l.filter (fun x => decide (t < x.time))
  | [], b => by simp
  | x :: r, b => by
    rw [List.foldl_cons, beh_fold t r, List.filter_cons]
    unfold behStep
    by_cases h : t < x.time <;> simp [h]
theorem beh_eq (k : Ent) (l : List Ent) : beh k l = k :: l.filter (fun x => decide (k.time < x.time)) := by unfold beh; rw [beh_fold]; rfl
theorem prevs_pw : ∀ (l : List Ent) (o : Option Ent), (prevsG o l).all entOk = true ↔ (∀ e ∈ l, e.one = true) ∧ (∀ q, o = some q → ∀ e ∈ l, q.time < e.time) ∧ l.Pairwise (fun a b => a.time < b.time)
  | [], o => by simp [prevsG]
  | v :: r, o => by
    have ih := prevs_pw r (some v)
    simp only [prevsG, List.all_cons, Bool.and_eq_true, entOk, ih, List.pairwise_cons, List.mem_cons, forall_eq_or_imp, Option.some.injEq, forall_eq']
    constructor
    · rintro ⟨⟨h1, h2⟩, h3, h4, h5⟩
      refine ⟨⟨h1, h3⟩, fun q hq => ?_, h4, h5⟩
      subst hq
      have : q.time < v.time := by simpa [entAhead] using h2
      exact ⟨this, fun e he => by have := h4 e he; omega⟩
    · rintro ⟨⟨h1, h3⟩, h2, h4, h5⟩
      refine ⟨⟨h1, ?_⟩, h3, h4, h5⟩
      cases o with
      | none => rfl
      | some q => simpa [entAhead] using (h2 q rfl).1
theorem logOk_iff (l : List Ent) : logOk l = true ↔ (∀ e ∈ l, e.one = true) ∧ l.Pairwise (fun a b => a.time < b.time) ∧ l.length ≤ 12 := by
  unfold logOk
  rw [Bool.and_eq_true, prevs_pw, decide_eq_true_eq]
  constructor
  · rintro ⟨⟨h1, _, h3⟩, h4⟩
    exact ⟨h1, h3, by omega⟩
  · rintro ⟨h1, h3, h4⟩
    exact ⟨⟨h1, (fun q hq => by cases hq), h3⟩, by omega⟩
theorem beh_ok {k : Ent} {l : List Ent} (h : logOk l = true) : logOk (beh k l) = (logOk [k] && decide (((beh k l).length : Int) ≤ 12)) := by
  rw [logOk_iff] at h
  obtain ⟨h1, h2, h3⟩ := h
  rw [Bool.eq_iff_iff, Bool.and_eq_true, logOk_iff, logOk_iff, decide_eq_true_eq, beh_eq]
  constructor
  · rintro ⟨g1, g2, g3⟩
    exact ⟨⟨fun e he => by rw [List.mem_singleton.1 he]; exact g1 k List.mem_cons_self, by simp, by simp⟩, by omega⟩
  · rintro ⟨⟨g1, _, _⟩, g3⟩
    refine ⟨fun e he => ?_, List.pairwise_cons.2 ⟨fun e he => ?_, h2.filter _⟩, by omega⟩
    · rcases List.mem_cons.1 he with rfl | he
      · exact g1 _ (by simp)
      · exact h1 e (List.mem_filter.1 he).1
    · simpa using (List.mem_filter.1 he).2
def behOk (k : Ent) (l : List Ent) : Bool := logOk [k] && (logOk l && decide (((beh k l).length : Int) ≤ 12))
theorem behStep_len {t : Int} {b : List Ent} {x : Ent} {i : Nat} (h : 1 ≤ b.length ∧ b.length ≤ i + 1) : 1 ≤ (behStep t b x).length ∧ (behStep t b x).length ≤ i + 1 + 1 := by
  unfold behStep
  split
  · simp; omega
  · omega
theorem beh_lim {k : Ent} {l : List Ent} (h1 : LimE [k]) (h2 : LimE l) (hn : l.length ≤ 1048575) : LimE (beh k l) := by
  rw [beh_eq]
  refine ⟨?_, fun e he => ?_⟩
  · have := List.length_filter_le (fun x : Ent => decide (k.time < x.time)) l
    simp only [List.length_cons]
    omega
  · rcases List.mem_cons.1 he with rfl | he
    · exact h1.2 _ (by simp)
    · exact h2.2 e (List.mem_filter.1 he).1
theorem beh_fine {k : Ent} {l : List Ent} (h1 : LimE [k]) (h2 : LimE l) : FineE (beh k l) ∧ ShortE (beh k l) ∧ (beh k l).length ≤ 1048577 := by
  have hl : (beh k l).length ≤ 1048577 := by
    rw [beh_eq]
    have := List.length_filter_le (fun x : Ent => decide (k.time < x.time)) l
    have := h2.1
    simp only [List.length_cons]
    omega
  have hm : ∀ e ∈ beh k l, e ∈ [k] ∨ e ∈ l := fun e he => by
    rw [beh_eq] at he
    rcases List.mem_cons.1 he with rfl | he
    · exact .inl (by simp)
    · exact .inr (List.mem_filter.1 he).1
  obtain ⟨a1, a2, _⟩ := h1.fine
  obtain ⟨b1, b2, _⟩ := h2.fine
  exact ⟨⟨by omega, fun e he => (hm e he).elim (a1.2 e) (b1.2 e)⟩, fun e he => (hm e he).elim (a2 e) (b2 e), hl⟩
theorem loop_behI (d : Nat) (c : Bool) (k : Ent) (l : List Ent) (hl : l.length ≤ 1048576) (K : Nat) (hK : (l).length ≤ K) (b0 : List Ent) (hb0 : (fun (i : Nat) (b : List Ent) => 1 ≤ b.length ∧ b.length ≤ i + 1) 0 b0) : LoopS (runD tab noExt d) (drawI (runD tab noExt d)) [2, 6, 20, 21, 22] [6] L43x0 ([.box k.cells, .rows ((b0).length - 1) 2 ((b0).map Ent.cells)] : Heap).length K [(2, .ptr 0 0 0 0), (6, .ref 1 ((b0).length - 1) 0 (b0).length false), (20, .sl c 2 (l.map Ent.cells)), (21, .int .i64 l.length), (22, .int .i64 (0 : Nat))] [.box k.cells, .rows ((b0).length - 1) 2 ((b0).map Ent.cells)] = (some (.exit 0, [(6, .ref 1 ((((l).foldl (behStep k.time) b0)).length - 1) 0 (((l).foldl (behStep k.time) b0)).length false)], [.box k.cells, .rows ((((l).foldl (behStep k.time) b0)).length - 1) 2 ((((l).foldl (behStep k.time) b0)).map Ent.cells)]) : Out) ∧ (fun (i : Nat) (b : List Ent) => 1 ≤ b.length ∧ b.length ≤ i + 1) (l).length ((l).foldl (behStep k.time) b0) := by
  have key := LoopS_foldI (run := (runD tab noExt d)) (draw := drawI (runD tab noExt d)) (live := [2, 6, 20, 21, 22]) (out := [6]) (c := L43x0) (n0 := ([.box k.cells, .rows ((b0).length - 1) 2 ((b0).map Ent.cells)] : Heap).length) (l) (behStep k.time) (fun (i : Nat) (b : List Ent) => 1 ≤ b.length ∧ b.length ≤ i + 1) (fun (i : Nat) (b : List Ent) => [(2, .ptr 0 0 0 0), (6, .ref 1 ((b).length - 1) 0 (b).length false), (20, .sl c 2 (l.map Ent.cells)), (21, .int .i64 l.length), (22, .int .i64 (i : Nat))]) (fun (i : Nat) (b : List Ent) => [.box k.cells, .rows ((b).length - 1) 2 ((b).map Ent.cells)]) (fun b => (some (.exit 0, [(6, .ref 1 ((b).length - 1) 0 (b).length false)], [.box k.cells, .rows ((b).length - 1) 2 ((b).map Ent.cells)]) : Out)) (fun b K hb => ?_) (fun (i : Nat) (x : Ent) b K hi hx hb => ?_) K hK b0 hb0
  · simp only [Int.natCast_zero] at key
    exact key
  · rw [LoopS_eq]
    simp -implicitDefEqProofs only [go_sem, Nat.reduceBEq, Nat.reduceAdd, Nat.reduceSub, Nat.reduceMul, Nat.reduceLeDiff, Nat.reduceEqDiff, Nat.reduceLT, Int.reduceNeg, Int.reduceAdd, Int.reduceSub, Int.reduceMul, Int.reduceLE, Int.reduceLT, Int.reduceEq, Int.reduceToNat, reduceCtorEq, evL43x0, B43x0, Int.lt_irrefl]
  · have hsm : b.length + 1 < 4294967296 := (by have := hb.2; omega); have hst : b.length - 1 + 1 = b.length + 1 - 1 := (by have := hb.1; omega); have key : behStep k.time b x = if k.time < x.time then b ++ [x] else b := rfl; have hlen := behStep_len (t := k.time) (x := x) hb; revert hlen; rw [key]; by_cases k1 : k.time < x.time <;> (first | rw [if_pos k1] | rw [if_neg k1]) <;> intro hlen
    all_goals
      refine ⟨?_, ?_⟩
      · exact hlen
      · rw [LoopS_eq]
        simp -implicitDefEqProofs (disch := first | omega | assumption) only [go_sem, Nat.reduceBEq, Nat.reduceAdd, Nat.reduceSub, Nat.reduceMul, Nat.reduceLeDiff, Nat.reduceEqDiff, Nat.reduceLT, Int.reduceNeg, Int.reduceAdd, Int.reduceSub, Int.reduceMul, Int.reduceLE, Int.reduceLT, Int.reduceEq, Int.reduceToNat, reduceCtorEq, evL43x0, B43x0, hi, hx, IntWalk.i64_in, List.map_append, List.foldl_cons, hx, hsm, hst, Ent.cells, Ent.v, k1, if_true, if_false, List.map_cons, List.map_nil]
        skip
-- find43
theorem own_behind (d : Nat) (c : Bool) (k : Ent) (l : List Ent) (h1 : LimE [k]) (h2 : LimE l) : ∃ v hc ids, runD tab noExt (d + 10) 43 [.agg k.cells, .sl c 2 (l.map Ent.cells)] [] = some ([v, .bool (behOk k l)], hc) ∧ OwnF hc (.sub fdEntry) v (.sub ((if behOk k l then beh k l else []).map entU)) ids ∧ ids.Nodup := by
  obtain ⟨f1, f2, f3⟩ := h2.fine
  obtain ⟨_, e2, e3⟩ := h1.fine
  obtain ⟨b1, b2, b3⟩ := beh_fine h1 h2
  have hv1 := run_logI d true [k] e3 e2
  have hv2 := run_logI d c l f3 f2
  simp only [List.map_cons, List.map_nil, Ent.cells, Ent.v] at hv1
  unfold behOk
  cases o1 : logOk [k]
  · rw [o1] at hv1
    refine ⟨.sl true 2 [], [.box k.cells], [], ?_, own_nil rfl, List.nodup_nil⟩
    rw [runD_eq find43 _ _ _ (by simp)]
    simp -implicitDefEqProofs (disch := omega) only [go_sem, Nat.reduceBEq, Nat.reduceAdd, Nat.reduceSub, Nat.reduceMul, Nat.reduceLeDiff, Nat.reduceEqDiff, Nat.reduceLT, Int.reduceNeg, Int.reduceAdd, Int.reduceSub, Int.reduceMul, Int.reduceLE, Int.reduceLT, Int.reduceEq, Int.reduceToNat, reduceCtorEq, Ent.cells, Ent.v, elemsOf, elemOf, frzs, refs, refC, refsV, hv1]
  rw [o1] at hv1
  cases o2 : logOk l
  · rw [o2] at hv2
    refine ⟨.sl true 2 [], [.box k.cells], [], ?_, own_nil rfl, List.nodup_nil⟩
    rw [runD_eq find43 _ _ _ (by simp)]
    simp -implicitDefEqProofs (disch := omega) only [go_sem, Nat.reduceBEq, Nat.reduceAdd, Nat.reduceSub, Nat.reduceMul, Nat.reduceLeDiff, Nat.reduceEqDiff, Nat.reduceLT, Int.reduceNeg, Int.reduceAdd, Int.reduceSub, Int.reduceMul, Int.reduceLE, Int.reduceLT, Int.reduceEq, Int.reduceToNat, reduceCtorEq, Ent.cells, Ent.v, elemsOf, elemOf, frzs, refs, refC, refsV, hv1, hv2]
  rw [o2] at hv2
  obtain ⟨hl, hle⟩ := loop_behI (d + 9) c k l h2.1 1099511627775 (by omega) [k] ⟨by simp, by simp⟩
  have hbe : beh k l = l.foldl (behStep k.time) [k] := rfl
  rw [← hbe] at hl hle
  simp only [List.length_cons, List.length_nil, List.map_cons, List.map_nil, Int.natCast_zero, Ent.cells, Ent.v] at hl
  by_cases o3 : ((beh k l).length : Int) ≤ 12
  · have o3' : ¬ (12 : Int) < (beh k l).length := by omega
    have et : List.take (beh k l).length ((beh k l).map Ent.cells) = (beh k l).map Ent.cells := List.take_of_length_le (by simp)
    try simp only [Ent.cells, Ent.v] at et
    obtain ⟨v1, hc, is0, q1, q2, q3⟩ := own_logCopy (d + 5) false (beh k l) b1
    try simp only [Ent.cells, Ent.v] at q1
    obtain ⟨w, hw, js, k1, k2, k3, k4, k5, k6⟩ := own_call (h := [.box k.cells, .rows ((beh k l).length - 1) 2 ((beh k l).map Ent.cells)]) (args := [.ref 1 ((beh k l).length - 1) 0 (beh k l).length false]) (by simp only [pureDAs, mapO, pureDA, pureD, deepest, List.getElem?_cons_succ, List.getElem?_cons_zero, if_true, List.drop_zero, Ent.cells, Ent.v, et]) q1 q2 q3
    try simp only [Ent.cells, Ent.v] at k1
    rw [decide_eq_true o3]
    refine ⟨w, hw, js, ?_, k2, k3⟩
    rw [runD_eq find43 _ _ _ (by simp)]
    simp -implicitDefEqProofs (disch := omega) only [go_sem, Nat.reduceBEq, Nat.reduceAdd, Nat.reduceSub, Nat.reduceMul, Nat.reduceLeDiff, Nat.reduceEqDiff, Nat.reduceLT, Int.reduceNeg, Int.reduceAdd, Int.reduceSub, Int.reduceMul, Int.reduceLE, Int.reduceLT, Int.reduceEq, Int.reduceToNat, reduceCtorEq, Ent.cells, Ent.v, elemsOf, elemOf, frzs, refs, refC, refsV, hv1, hv2]
    try simp -implicitDefEqProofs only [go_sem, Nat.reduceBEq, Nat.reduceAdd, Nat.reduceSub, Nat.reduceMul, Nat.reduceLeDiff, Nat.reduceEqDiff, Nat.reduceLT, Int.reduceNeg, Int.reduceAdd, Int.reduceSub, Int.reduceMul, Int.reduceLE, Int.reduceLT, Int.reduceEq, Int.reduceToNat, reduceCtorEq] at hl
    rw [hl]
    rcases own_cases k2 with ⟨cx, rfl⟩ | ⟨id, st, m, clip, rfl⟩ <;> simp -implicitDefEqProofs (disch := first | omega | assumption) only [go_sem, Nat.reduceBEq, Nat.reduceAdd, Nat.reduceSub, Nat.reduceMul, Nat.reduceLeDiff, Nat.reduceEqDiff, Nat.reduceLT, Int.reduceNeg, Int.reduceAdd, Int.reduceSub, Int.reduceMul, Int.reduceLE, Int.reduceLT, Int.reduceEq, Int.reduceToNat, reduceCtorEq, (eq_false o3' : ((12 : Int) < (beh k l).length) = False), k1, resOk]
  · have o3' : (12 : Int) < (beh k l).length := by omega
    rw [decide_eq_false o3]
    refine ⟨.sl true 2 [], [.box k.cells, .rows ((beh k l).length - 1) 2 ((beh k l).map Ent.cells)], [], ?_, own_nil rfl, List.nodup_nil⟩
    rw [runD_eq find43 _ _ _ (by simp)]
    simp -implicitDefEqProofs (disch := omega) only [go_sem, Nat.reduceBEq, Nat.reduceAdd, Nat.reduceSub, Nat.reduceMul, Nat.reduceLeDiff, Nat.reduceEqDiff, Nat.reduceLT, Int.reduceNeg, Int.reduceAdd, Int.reduceSub, Int.reduceMul, Int.reduceLE, Int.reduceLT, Int.reduceEq, Int.reduceToNat, reduceCtorEq, Ent.cells, Ent.v, elemsOf, elemOf, frzs, refs, refC, refsV, hv1, hv2]
    try simp -implicitDefEqProofs only [go_sem, Nat.reduceBEq, Nat.reduceAdd, Nat.reduceSub, Nat.reduceMul, Nat.reduceLeDiff, Nat.reduceEqDiff, Nat.reduceLT, Int.reduceNeg, Int.reduceAdd, Int.reduceSub, Int.reduceMul, Int.reduceLE, Int.reduceLT, Int.reduceEq, Int.reduceToNat, reduceCtorEq] at hl
    rw [hl]
    simp -implicitDefEqProofs (disch := first | omega | assumption) only [go_sem, Nat.reduceBEq, Nat.reduceAdd, Nat.reduceSub, Nat.reduceMul, Nat.reduceLeDiff, Nat.reduceEqDiff, Nat.reduceLT, Int.reduceNeg, Int.reduceAdd, Int.reduceSub, Int.reduceMul, Int.reduceLE, Int.reduceLT, Int.reduceEq, Int.reduceToNat, reduceCtorEq, (eq_true o3' : ((12 : Int) < (beh k l).length) = True)]
theorem loop_behS (d : Nat) (c : Bool) (k : Ent) (l : List Ent) (hl : l.length ≤ 1048576) (K : Nat) (hK : (l).length ≤ K) (b0 : List Ent) (hb0 : (fun (i : Nat) (b : List Ent) => 1 ≤ b.length ∧ b.length ≤ i + 1) 0 b0) : LoopS (runD tab noExt d) (drawI (runD tab noExt d)) [1, 2, 6, 7] [1, 6] L41x0 ([.box k.cells, .rows ((b0).length - 1) 2 ((b0).map Ent.cells)] : Heap).length K [(1, .sl c 2 (l.map Ent.cells)), (2, .ptr 0 0 0 0), (6, .ref 1 ((b0).length - 1) 0 (b0).length false), (7, .int .i64 (0 : Nat))] [.box k.cells, .rows ((b0).length - 1) 2 ((b0).map Ent.cells)] = (some (.exit 0, [(1, .sl c 2 (l.map Ent.cells)), (6, .ref 1 ((((l).foldl (behStep k.time) b0)).length - 1) 0 (((l).foldl (behStep k.time) b0)).length false)], [.box k.cells, .rows ((((l).foldl (behStep k.time) b0)).length - 1) 2 ((((l).foldl (behStep k.time) b0)).map Ent.cells)]) : Out) ∧ (fun (i : Nat) (b : List Ent) => 1 ≤ b.length ∧ b.length ≤ i + 1) (l).length ((l).foldl (behStep k.time) b0) := by
  have key := LoopS_foldI (run := (runD tab noExt d)) (draw := drawI (runD tab noExt d)) (live := [1, 2, 6, 7]) (out := [1, 6]) (c := L41x0) (n0 := ([.box k.cells, .rows ((b0).length - 1) 2 ((b0).map Ent.cells)] : Heap).length) (l) (behStep k.time) (fun (i : Nat) (b : List Ent) => 1 ≤ b.length ∧ b.length ≤ i + 1) (fun (i : Nat) (b : List Ent) => [(1, .sl c 2 (l.map Ent.cells)), (2, .ptr 0 0 0 0), (6, .ref 1 ((b).length - 1) 0 (b).length false), (7, .int .i64 (i : Nat))]) (fun (i : Nat) (b : List Ent) => [.box k.cells, .rows ((b).length - 1) 2 ((b).map Ent.cells)]) (fun b => (some (.exit 0, [(1, .sl c 2 (l.map Ent.cells)), (6, .ref 1 ((b).length - 1) 0 (b).length false)], [.box k.cells, .rows ((b).length - 1) 2 ((b).map Ent.cells)]) : Out)) (fun b K hb => ?_) (fun (i : Nat) (x : Ent) b K hi hx hb => ?_) K hK b0 hb0
  · simp only [Int.natCast_zero] at key
    exact key
  · rw [LoopS_eq]
    simp -implicitDefEqProofs only [go_sem, Nat.reduceBEq, Nat.reduceAdd, Nat.reduceSub, Nat.reduceMul, Nat.reduceLeDiff, Nat.reduceEqDiff, Nat.reduceLT, Int.reduceNeg, Int.reduceAdd, Int.reduceSub, Int.reduceMul, Int.reduceLE, Int.reduceLT, Int.reduceEq, Int.reduceToNat, reduceCtorEq, evL41x0, B41x0, Int.lt_irrefl]
  · have hsm : b.length + 1 < 4294967296 := (by have := hb.2; omega); have hst : b.length - 1 + 1 = b.length + 1 - 1 := (by have := hb.1; omega); have key : behStep k.time b x = if k.time < x.time then b ++ [x] else b := rfl; have hlen := behStep_len (t := k.time) (x := x) hb; revert hlen; rw [key]; by_cases k1 : k.time < x.time <;> (first | rw [if_pos k1] | rw [if_neg k1]) <;> intro hlen
    all_goals
      refine ⟨?_, ?_⟩
      · exact hlen
      · rw [LoopS_eq]
        simp -implicitDefEqProofs (disch := first | omega | assumption) only [go_sem, Nat.reduceBEq, Nat.reduceAdd, Nat.reduceSub, Nat.reduceMul, Nat.reduceLeDiff, Nat.reduceEqDiff, Nat.reduceLT, Int.reduceNeg, Int.reduceAdd, Int.reduceSub, Int.reduceMul, Int.reduceLE, Int.reduceLT, Int.reduceEq, Int.reduceToNat, reduceCtorEq, evL41x0, B41x0, hi, hx, IntWalk.i64_in, List.map_append, List.foldl_cons, evC_draw, evD41x0, E41x0, hx, hsm, hst, Ent.cells, Ent.v, k1, if_true, if_false, List.map_cons, List.map_nil]
        skip
-- find41
theorem run_behindS (d : Nat) (c : Bool) (k : Ent) (l : List Ent) (h1 : LimE [k]) (h2 : LimE l) : ∃ cw, retP (runD tab noExt (d + 6)) 41 [.agg k.cells, .sl c 2 (l.map Ent.cells)] = some [.sl cw 2 (((if behOk k l then beh k l else []).map Ent.own).map Ent.cells), .bool (behOk k l)] := by
  obtain ⟨f1, f2, f3⟩ := h2.fine
  obtain ⟨b1, b2, b3⟩ := beh_fine h1 h2
  have hv2 := run_logS d c l f3 f2
  have hvb := run_logS d false (beh k l) (by omega) b2
  have hcp := run_l18 (d + 2) false (beh k l) b1
  obtain ⟨hl, hle⟩ := loop_behS (d + 5) c k l h2.1 1099511627775 (by omega) [k] ⟨by simp, by simp⟩
  have hbe : beh k l = l.foldl (behStep k.time) [k] := rfl
  rw [← hbe] at hl hle
  simp only [List.length_cons, List.length_nil, List.map_cons, List.map_nil, Int.natCast_zero, Ent.cells, Ent.v] at hl
  have et : List.take (beh k l).length ((beh k l).map Ent.cells) = (beh k l).map Ent.cells := List.take_of_length_le (by simp)
  try simp only [Ent.cells, Ent.v] at et hvb hcp
  have hob : behOk k l = (logOk l && logOk (beh k l)) := by
    unfold behOk
    cases o2 : logOk l
    · simp
    · rw [beh_ok o2]; simp
  rw [hob]
  cases o2 : logOk l
  · rw [o2] at hv2
    refine ⟨true, ?_⟩
    rw [retP, runD_eq find41 _ _ _ (by simp)]
    simp -implicitDefEqProofs (disch := omega) only [go_sem, Nat.reduceBEq, Nat.reduceAdd, Nat.reduceSub, Nat.reduceMul, Nat.reduceLeDiff, Nat.reduceEqDiff, Nat.reduceLT, Int.reduceNeg, Int.reduceAdd, Int.reduceSub, Int.reduceMul, Int.reduceLE, Int.reduceLT, Int.reduceEq, Int.reduceToNat, reduceCtorEq, Ent.cells, Ent.v, elemsOf, elemOf, frzs, refs, refC, refsV]
    try simp -implicitDefEqProofs only [go_sem, Nat.reduceBEq, Nat.reduceAdd, Nat.reduceSub, Nat.reduceMul, Nat.reduceLeDiff, Nat.reduceEqDiff, Nat.reduceLT, Int.reduceNeg, Int.reduceAdd, Int.reduceSub, Int.reduceMul, Int.reduceLE, Int.reduceLT, Int.reduceEq, Int.reduceToNat, reduceCtorEq] at hl
    rw [hl]
    simp -implicitDefEqProofs (disch := omega) only [go_sem, Nat.reduceBEq, Nat.reduceAdd, Nat.reduceSub, Nat.reduceMul, Nat.reduceLeDiff, Nat.reduceEqDiff, Nat.reduceLT, Int.reduceNeg, Int.reduceAdd, Int.reduceSub, Int.reduceMul, Int.reduceLE, Int.reduceLT, Int.reduceEq, Int.reduceToNat, reduceCtorEq, Ent.cells, Ent.v, hv2, elemsOf, frzs, et]
  rw [o2] at hv2
  cases o3 : logOk (beh k l)
  · rw [o3] at hvb
    refine ⟨true, ?_⟩
    rw [retP, runD_eq find41 _ _ _ (by simp)]
    simp -implicitDefEqProofs (disch := omega) only [go_sem, Nat.reduceBEq, Nat.reduceAdd, Nat.reduceSub, Nat.reduceMul, Nat.reduceLeDiff, Nat.reduceEqDiff, Nat.reduceLT, Int.reduceNeg, Int.reduceAdd, Int.reduceSub, Int.reduceMul, Int.reduceLE, Int.reduceLT, Int.reduceEq, Int.reduceToNat, reduceCtorEq, Ent.cells, Ent.v, elemsOf, elemOf, frzs, refs, refC, refsV]
    try simp -implicitDefEqProofs only [go_sem, Nat.reduceBEq, Nat.reduceAdd, Nat.reduceSub, Nat.reduceMul, Nat.reduceLeDiff, Nat.reduceEqDiff, Nat.reduceLT, Int.reduceNeg, Int.reduceAdd, Int.reduceSub, Int.reduceMul, Int.reduceLE, Int.reduceLT, Int.reduceEq, Int.reduceToNat, reduceCtorEq] at hl
    rw [hl]
    simp -implicitDefEqProofs (disch := omega) only [go_sem, Nat.reduceBEq, Nat.reduceAdd, Nat.reduceSub, Nat.reduceMul, Nat.reduceLeDiff, Nat.reduceEqDiff, Nat.reduceLT, Int.reduceNeg, Int.reduceAdd, Int.reduceSub, Int.reduceMul, Int.reduceLE, Int.reduceLT, Int.reduceEq, Int.reduceToNat, reduceCtorEq, Ent.cells, Ent.v, hv2, hvb, elemsOf, frzs, et]
  · rw [o3] at hvb
    refine ⟨false, ?_⟩
    rw [retP, runD_eq find41 _ _ _ (by simp)]
    simp -implicitDefEqProofs (disch := omega) only [go_sem, Nat.reduceBEq, Nat.reduceAdd, Nat.reduceSub, Nat.reduceMul, Nat.reduceLeDiff, Nat.reduceEqDiff, Nat.reduceLT, Int.reduceNeg, Int.reduceAdd, Int.reduceSub, Int.reduceMul, Int.reduceLE, Int.reduceLT, Int.reduceEq, Int.reduceToNat, reduceCtorEq, Ent.cells, Ent.v, elemsOf, elemOf, frzs, refs, refC, refsV]
    try simp -implicitDefEqProofs only [go_sem, Nat.reduceBEq, Nat.reduceAdd, Nat.reduceSub, Nat.reduceMul, Nat.reduceLeDiff, Nat.reduceEqDiff, Nat.reduceLT, Int.reduceNeg, Int.reduceAdd, Int.reduceSub, Int.reduceMul, Int.reduceLE, Int.reduceLT, Int.reduceEq, Int.reduceToNat, reduceCtorEq] at hl
    rw [hl]
    simp -implicitDefEqProofs (disch := omega) only [go_sem, Nat.reduceBEq, Nat.reduceAdd, Nat.reduceSub, Nat.reduceMul, Nat.reduceLeDiff, Nat.reduceEqDiff, Nat.reduceLT, Int.reduceNeg, Int.reduceAdd, Int.reduceSub, Int.reduceMul, Int.reduceLE, Int.reduceLT, Int.reduceEq, Int.reduceToNat, reduceCtorEq, Ent.cells, Ent.v, hv2, hvb, et, hcp]
theorem core_LogBehind (s0_0 : Int) {x0_1 : List (List U)} (h0_1 : ∃ p, PurF (.sub fdWrite) p (.sub x0_1)) (L0x1 : LenF 1048576 1048576 (.sub fdWrite) (.sub x0_1)) {x1 : List (List U)} (h1 : ∃ p, PurF (.sub fdEntry) p (.sub x1)) (L1 : LenF 1048576 1048576 (.sub fdEntry) (.sub x1)) :
    ∃ ux sb, LenF big big (.sub fdEntry) (.sub ux) ∧ (cntF (.sub fdEntry) (.sub ux) : Int) ≤ 2305843009213693952 ∧
      (∀ {q0 q1 : V}, PurF (.sub fdWrite) q0 (.sub x0_1) → PurF (.sub fdEntry) q1 (.sub x1) → ∃ w, retP (runD tab noExt 60) 41 [.agg [.int .i64 s0_0, q0], q1] = some [w, .bool sb] ∧ PurF (.sub fdEntry) w (.sub ux)) ∧
      (∀ {q0 q1 : V}, PurF (.sub fdWrite) q0 (.sub x0_1) → PurF (.sub fdEntry) q1 (.sub x1) → ∃ v hc ids, runD tab noExt 60 43 [.agg [.int .i64 s0_0, q0], q1] [] = some ([v, .bool sb], hc) ∧ OwnF hc (.sub fdEntry) v (.sub ux) ids ∧ ids.Nodup) := by
  obtain ⟨p0, g0⟩ := h0_1
  obtain ⟨p1, g1⟩ := h1
  obtain ⟨wc, ws, rfl, rfl⟩ := wrs_each g0
  obtain ⟨_, l, rfl, rfl⟩ := ents_each g1
  have lim := ents_lim L1
  obtain ⟨w1, w2⟩ := wrs_lim L0x1
  have limk : ∀ (c : Bool) (ws2 : List Wr), ws2.map wrU = ws.map wrU → LimE [⟨s0_0, c, ws2⟩] := by
    intro c ws2 f
    rw [← f] at L0x1
    obtain ⟨a1, a2⟩ := wrs_lim L0x1
    exact ⟨by simp, fun e he => by rw [List.mem_singleton.1 he]; exact ⟨a1, a2⟩⟩
  have key : ∀ (k k2 : Ent) (l2 : List Ent), entU k2 = entU k → l2.map entU = l.map entU → behOk k2 l2 = behOk k l ∧ (beh k2 l2).map entU = (beh k l).map entU := by
    intro k k2 l2 fk f
    have ht : k2.time = k.time := by simp only [entU, List.cons.injEq, U.int.injEq] at fk; exact fk.1
    have hb : (beh k2 l2).map entU = (beh k l).map entU := by
      rw [beh_eq, beh_eq, List.map_cons, List.map_cons, fk, ht]
      congr 1
      have : ∀ a b : List Ent, a.map entU = b.map entU → (a.filter (fun x => decide (k.time < x.time))).map entU = (b.filter (fun x => decide (k.time < x.time))).map entU := by
        intro a
        induction a with
        | nil => intro b h; cases b with
          | nil => rfl
          | cons y b => simp at h
        | cons x a ih => intro b h; cases b with
          | nil => simp at h
          | cons y b =>
            simp only [List.map_cons, List.cons.injEq] at h
            have e1 : x.time = y.time := by have := h.1; simp only [entU, List.cons.injEq, U.int.injEq] at this; exact this.1
            have ih' := ih b h.2
            rw [List.filter_cons, List.filter_cons, e1]
            split <;> simp [ih', h.1]
      exact this l2 l f
    refine ⟨?_, hb⟩
    have e1 : logOk [k2] = logOk [k] := logOk_vs (by simp [fk])
    unfold behOk
    rw [e1, logOk_vs f, len_vs hb]
  have lk := limk wc ws rfl
  obtain ⟨b1, b2, b3⟩ := beh_fine lk lim
  have hsub : LimE (if behOk ⟨s0_0, wc, ws⟩ l then beh ⟨s0_0, wc, ws⟩ l else []) := by
    cases hok : behOk ⟨s0_0, wc, ws⟩ l
    · exact ⟨by simp, fun _ h => by simp at h⟩
    · simp only [behOk, Bool.and_eq_true, decide_eq_true_eq] at hok
      refine beh_lim lk lim ?_
      have := (logOk_iff l).1 hok.2.1
      omega
  refine ⟨(if behOk ⟨s0_0, wc, ws⟩ l then beh ⟨s0_0, wc, ws⟩ l else []).map entU, behOk ⟨s0_0, wc, ws⟩ l, LenF_mono (by decide) (by decide) _ (ents_len hsub), ents_cnt (fun e he => ?_) hsub.1, fun k0 k1 => ?_, fun k0 k1 => ?_⟩
  · cases hok : behOk ⟨s0_0, wc, ws⟩ l
    · rw [hok] at he; simp at he
    · rw [hok] at he
      simp only [behOk, Bool.and_eq_true, decide_eq_true_eq] at hok
      simp only [if_true, beh_eq] at he
      rcases List.mem_cons.1 he with rfl | he
      · exact logOk_one hok.1 _ (by simp)
      · exact logOk_one hok.2.1 e (List.mem_filter.1 he).1
  all_goals
    obtain ⟨c0, ws2, rfl, f0⟩ := wrs_each k0
    obtain ⟨c, l2, rfl, f⟩ := ents_each k1
    have lim2 : LimE l2 := ents_lim (by rw [← f]; exact L1)
    have lk2 := limk c0 ws2 f0.symm
    obtain ⟨t1, t2⟩ := key ⟨s0_0, wc, ws⟩ ⟨s0_0, c0, ws2⟩ l2 (by simp [entU, f0]) f.symm
    have t3 : (if behOk ⟨s0_0, wc, ws⟩ l then beh ⟨s0_0, wc, ws⟩ l else []).map entU = (if behOk ⟨s0_0, c0, ws2⟩ l2 then beh ⟨s0_0, c0, ws2⟩ l2 else []).map entU := by
      rw [t1]
      cases behOk ⟨s0_0, wc, ws⟩ l
      · rfl
      · exact t2.symm
    rw [t3, ← t1]
  · obtain ⟨cw, e⟩ := run_behindS 54 c ⟨s0_0, c0, ws2⟩ l2 lk2 lim2
    exact ⟨_, e, ents_own_pur cw _⟩
  · exact own_behind 50 c ⟨s0_0, c0, ws2⟩ l2 lk2 lim2
end Go.Proofs.Yteaojpfofifmnaa.PE
/- Bytes of logs: both functions tell them. -/
set_option linter.unusedSimpArgs false
set_option linter.unusedVariables false
set_option maxHeartbeats 8000000
set_option maxRecDepth 20000
namespace Go.Proofs.Yteaojpfofifmnaa.PE
open Go.RowKit

theorem clipkByt (d : Nat) (l : List (List V)) (n : Nat) (hn : n = l.length) : callX (runD tab noExt (d + 1)) [.rows 0 1 l] 2 85 [.ref 0 0 0 n false] = some (.ref 0 0 0 n true, [.rows 0 1 l]) := by
  subst hn
  simp only [callX, callK]
  rw [runD_eq find85 _ _ _ (by simp)]
  simp -implicitDefEqProofs (disch := omega) only [go_sem, Nat.reduceBEq, Nat.reduceAdd, Nat.reduceSub, Nat.reduceMul, Nat.reduceLeDiff, Nat.reduceEqDiff, Nat.reduceLT, Int.reduceNeg, Int.reduceAdd, Int.reduceSub, Int.reduceMul, Int.reduceLE, Int.reduceLT, Int.reduceEq, Int.reduceToNat, reduceCtorEq, List.take_length, Bool.true_or, resOk]
theorem runcByt (d : Nat) (c : Bool) (l : List (List V)) (h0 : 0 < l.length) (hl : l.length < 4294967296) : runD tab noExt (d + 2) 80 [.sl c 1 l] [] = some ([.ref 0 0 0 l.length true], [.rows 0 1 l]) := by
  rw [runD_eq find80 _ _ _ (by simp)]
  match l, h0, hl with
  | [], h0, _ => exact absurd h0 (by decide)
  | x :: r, _, hl =>
    have h0 : ((r.length : Int) + 1 = 0) = False := eq_false (by omega)
    have h1 : r.length + 1 < 4294967296 := by simpa using hl
    have hc := clipkByt d (x :: r) (r.length + 1) (by simp)
    simp -implicitDefEqProofs (disch := omega) only [go_sem, Nat.reduceBEq, Nat.reduceAdd, Nat.reduceSub, Nat.reduceMul, Nat.reduceLeDiff, Nat.reduceEqDiff, Nat.reduceLT, Int.reduceNeg, Int.reduceAdd, Int.reduceSub, Int.reduceMul, Int.reduceLE, Int.reduceLT, Int.reduceEq, Int.reduceToNat, reduceCtorEq, List.length_cons, h0, h1, hc]
theorem runnByt (d : Nat) (c : Bool) : runD tab noExt (d + 2) 80 [.sl c 1 []] [] = some ([.sl true 1 []], []) := by
  rw [runD_eq find80 _ _ _ (by simp)]
  simp -implicitDefEqProofs (disch := omega) only [go_sem, Nat.reduceBEq, Nat.reduceAdd, Nat.reduceSub, Nat.reduceMul, Nat.reduceLeDiff, Nat.reduceEqDiff, Nat.reduceLT, Int.reduceNeg, Int.reduceAdd, Int.reduceSub, Int.reduceMul, Int.reduceLE, Int.reduceLT, Int.reduceEq, Int.reduceToNat, reduceCtorEq]
theorem cloneByt (d : Nat) (c : Bool) (l : List (List V)) (hl : l.length < 4294967296) : retP (runD tab noExt (d + 2)) 80 [.sl c 1 l] = some [.sl true 1 l] := by
  match l, hl with
  | [], _ => rw [retP, runnByt]; rfl
  | x :: r, hl =>
    rw [retP, runcByt d c (x :: r) (by simp) hl]
    simp -implicitDefEqProofs only [go_sem, Nat.reduceBEq, Nat.reduceAdd, Nat.reduceSub, Nat.reduceMul, Nat.reduceLeDiff, Nat.reduceEqDiff, Nat.reduceLT, Int.reduceNeg, Int.reduceAdd, Int.reduceSub, Int.reduceMul, Int.reduceLE, Int.reduceLT, Int.reduceEq, Int.reduceToNat, reduceCtorEq, List.take_length]
theorem clonexByt (d : Nat) (h : Heap) (c : Bool) (l : List (List V)) (h0 : 0 < l.length) (hl : l.length < 4294967296) (hf : l.all (fun x => x.all freshC) = true) : callX (runD tab noExt (d + 2)) h 0 80 [.sl c 1 l] = some (.ref h.length 0 0 l.length true, h ++ [.rows 0 1 l]) := by
  simp only [callX, callO, pureDAs, mapO, pureDA, pureD, deepest, runcByt d c l h0 hl, BackO, List.all_cons, List.all_nil, scalarA, scalar, freshA, freshC, Bool.false_eq_true, Bool.false_and, Bool.and_self, if_false, if_true, List.map_cons, List.map_nil, oneOf, shA, shC, Nat.zero_add, movedH, clean, hf, shB]
theorem clonenByt (d : Nat) (h : Heap) (c : Bool) : callX (runD tab noExt (d + 2)) h 0 80 [.sl c 1 []] = some (.sl true 1 [], h) := by
  simp only [callX, callO, pureDAs, mapO, pureDA, pureD, deepest, runnByt d c, BackO, List.all_cons, List.all_nil, scalarA, scalar, freshA, freshC, isNil, Bool.false_eq_true, Bool.false_and, Bool.and_self, if_false, if_true, List.map_cons, List.map_nil, oneOf, shA, shC, movedH, List.append_nil]

theorem own_cloneByt (d : Nat) (c : Bool) (l : List Int) (hl : l.length < 4294967296) : ∃ v hc ids, runD tab noExt (d + 2) 80 [.sl c 1 (u8s l)] [] = some ([v], hc) ∧ OwnF hc (.sub fdByte) v (.sub (byU l)) ids ∧ ids.Nodup := by
  match l, hl with
  | [], _ => exact ⟨_, _, [], runnByt d c, own_nil rfl, List.nodup_nil⟩
  | x :: r, hl => exact ⟨_, _, [0], runcByt d c (u8s (x :: r)) (by simp [u8s]) (by rw [u8s_len]; exact hl), own_bytes (x :: r) (by rw [u8s_len]) rfl, by simp⟩
theorem zip_bytes {h : Heap} : ∀ {cont : List (List V)} {l : List Int} {r : List Nat}, Zip3 (OwnR h fdByte) cont (byU l) r → cont = u8s l
  | [], [], _, _ => rfl
  | [], _ :: _, _, h => (h : False).elim
  | _ :: _, [], _, h => (h : False).elim
  | c :: cs, x :: l, r, h => by
    obtain ⟨i, j, rfl, h1, h2⟩ := h
    obtain ⟨a, rfl, h3, rfl⟩ := ownR_Byte h1
    injection h3 with h3
    injection h3 with h3
    subst h3
    rw [u8s_cons, zip_bytes h2]
theorem ent_call (d : Nat) (h : Heap) (e : Ent) (ho : logOk [e] = true) : ∃ id st clip t, callX (runD tab noExt (d + 9)) h 0 67 [.agg [.int .i64 e.time, .sl e.wc 3 (e.ws.map Wr.cells)]] = some (.ref id st 0 (frB (bodyB e)).length clip, h ++ t) ∧ (h ++ t)[id]? = some (.rows st 1 (u8s (frB (bodyB e)))) := by
  obtain ⟨v, hc, ids, q1, q2, q3⟩ := own_entryBytes d e ho
  have q1' : runD tab noExt (d + 9) 67 [.agg [.int .i64 e.time, .sl e.wc 3 (e.ws.map Wr.cells)]] [] = some ([v], hc) := q1
  obtain ⟨w, hw, js, k1, k2, k3, k4, k5, k6⟩ := own_call (h := h) (args := [.agg [.int .i64 e.time, .sl e.wc 3 (e.ws.map Wr.cells)]]) (by simp only [pureDAs, mapO, pureDA, pureD, deepest, Option.map_some]) q1' q2 q3
  have ht : hw = h ++ hw.drop h.length := by
    have : hw.take h.length = h := by
      apply List.ext_getElem?
      intro j
      rcases Nat.lt_or_ge j h.length with hj | hj
      · rw [List.getElem?_take_of_lt hj, k5 j hj]
      · rw [List.getElem?_eq_none hj, List.getElem?_eq_none (by simp; omega)]
    conv => lhs; rw [← List.take_append_drop h.length hw, this]
  simp only [OwnF] at k2
  obtain ⟨xs, e1, h2⟩ := k2
  injection e1 with e1
  subst e1
  rcases h2 with ⟨c, _, e2, _⟩ | ⟨id, st, clip, cont, r, rfl, hb, _, hz⟩
  · simp [byU, frB] at e2
  · have := zip_bytes hz
    subst this
    rw [u8s_len] at k1
    refine ⟨id, st, clip, hw.drop h.length, by rw [k1, ← ht], ?_⟩
    rw [← ht, hb]
    rfl
def entF (b : List Int) (e : Ent) : List Int := b ++ frB (bodyB e)
def logBytes (l : List Ent) : List Int := if logOk l then l.foldl entF [] else []
theorem log_one {l : List Ent} (h : logOk l = true) : ∀ e ∈ l, logOk [e] = true := by
  intro e he
  have := (logOk_iff l).1 h
  exact (logOk_iff [e]).2 ⟨fun x hx => by rw [List.mem_singleton.1 hx]; exact this.1 e he, by simp, by simp⟩
theorem fr_len {e : Ent} (h : logOk [e] = true) : 0 < (frB (bodyB e)).length ∧ (frB (bodyB e)).length ≤ 180 := by
  have := body_len h
  rw [frB_len]
  omega
theorem loop_lbI (d : Nat) (c : Bool) (l : List Ent) (hl : l.length ≤ 12) (hok : ∀ e ∈ l, logOk [e] = true) (K : Nat) (hK : (l).length ≤ K) (b0 : List Int) (hb0 : (fun (i : Nat) (b : List Int) => b.length ≤ 180 * i) 0 b0) : LoopS (runD tab noExt (d + 9)) (drawI (runD tab noExt (d + 9))) [3, 9, 10, 11] [3] L30x0 ([.rows (b0).length 1 (u8s (b0))] : Heap).length K [(3, .ref 0 (b0).length 0 (b0).length false), (9, .sl c 2 (l.map Ent.cells)), (10, .int .i64 l.length), (11, .int .i64 (0 : Nat))] [.rows (b0).length 1 (u8s (b0))] = (some (.exit 0, [(3, .ref 0 (((l).foldl (entF) b0)).length 0 (((l).foldl (entF) b0)).length false)], [.rows (((l).foldl (entF) b0)).length 1 (u8s (((l).foldl (entF) b0)))]) : Out) ∧ (fun (i : Nat) (b : List Int) => b.length ≤ 180 * i) (l).length ((l).foldl (entF) b0) := by
  have key := LoopS_foldI (run := (runD tab noExt (d + 9))) (draw := drawI (runD tab noExt (d + 9))) (live := [3, 9, 10, 11]) (out := [3]) (c := L30x0) (n0 := ([.rows (b0).length 1 (u8s (b0))] : Heap).length) (l) (entF) (fun (i : Nat) (b : List Int) => b.length ≤ 180 * i) (fun (i : Nat) (b : List Int) => [(3, .ref 0 (b).length 0 (b).length false), (9, .sl c 2 (l.map Ent.cells)), (10, .int .i64 l.length), (11, .int .i64 (i : Nat))]) (fun (i : Nat) (b : List Int) => [.rows (b).length 1 (u8s (b))]) (fun b => (some (.exit 0, [(3, .ref 0 (b).length 0 (b).length false)], [.rows (b).length 1 (u8s (b))]) : Out)) (fun b K hb => ?_) (fun (i : Nat) (x : Ent) b K hi hx hb => ?_) K hK b0 hb0
  · simp only [Int.natCast_zero] at key
    exact key
  · rw [LoopS_eq]
    simp -implicitDefEqProofs only [go_sem, Nat.reduceBEq, Nat.reduceAdd, Nat.reduceSub, Nat.reduceMul, Nat.reduceLeDiff, Nat.reduceEqDiff, Nat.reduceLT, Int.reduceNeg, Int.reduceAdd, Int.reduceSub, Int.reduceMul, Int.reduceLE, Int.reduceLT, Int.reduceEq, Int.reduceToNat, reduceCtorEq, evL30x0, B30x0, Int.lt_irrefl]
  · have hxo := hok x (List.mem_of_getElem? hx); have hxl := fr_len hxo; have sm1 : b.length + (frB (bodyB x)).length < 4294967296 := (by have := hb; omega); have hel : List.take (frB (bodyB x)).length (u8s (frB (bodyB x))) = u8s (frB (bodyB x)) := (List.take_of_length_le (by rw [u8s_len]; omega)); obtain ⟨id, st, clip, t, k1, k2⟩ := ent_call d [.rows b.length 1 (u8s b), .box [.int .i64 x.time, .sl x.wc 3 (x.ws.map Wr.cells)]] x hxo; simp only [List.cons_append, List.nil_append] at k1 k2
    all_goals
      refine ⟨?_, ?_⟩
      · (rw [entF, List.length_append]; omega)
      · rw [LoopS_eq]
        simp -implicitDefEqProofs (disch := first | omega | assumption) only [go_sem, Nat.reduceBEq, Nat.reduceAdd, Nat.reduceSub, Nat.reduceMul, Nat.reduceLeDiff, Nat.reduceEqDiff, Nat.reduceLT, Int.reduceNeg, Int.reduceAdd, Int.reduceSub, Int.reduceMul, Int.reduceLE, Int.reduceLT, Int.reduceEq, Int.reduceToNat, reduceCtorEq, evL30x0, B30x0, hi, hx, IntWalk.i64_in, List.map_append, List.foldl_cons, hx, Ent.cells, Ent.v, k1, k2, sm1, u8s_len, u8s_app, hel, List.take_length, entF, if_true, if_false]
        skip
theorem log_len {l : List Ent} (h : logOk l = true) : l.length ≤ 12 := ((logOk_iff l).1 h).2.2
-- find30
theorem own_LogBytes (d : Nat) (c : Bool) (l : List Ent) (h1 : LimE l) : ∃ v hc ids, runD tab noExt (d + 10) 30 [.sl c 2 (l.map Ent.cells)] [] = some ([v], hc) ∧ OwnF hc (.sub fdByte) v (.sub (byU (logBytes l))) ids ∧ ids.Nodup := by
  obtain ⟨e1, e2, e3⟩ := h1.fine
  have hv1 := run_logI d c l e3 e2
  unfold logBytes
  cases o1 : logOk l
  · rw [o1] at hv1
    refine ⟨.sl true 1 [], [], [], ?_, own_nil rfl, List.nodup_nil⟩
    rw [runD_eq find30 _ _ _ (by simp)]
    simp -implicitDefEqProofs (disch := omega) only [go_sem, Nat.reduceBEq, Nat.reduceAdd, Nat.reduceSub, Nat.reduceMul, Nat.reduceLeDiff, Nat.reduceEqDiff, Nat.reduceLT, Int.reduceNeg, Int.reduceAdd, Int.reduceSub, Int.reduceMul, Int.reduceLE, Int.reduceLT, Int.reduceEq, Int.reduceToNat, reduceCtorEq, hv1]
  · rw [o1] at hv1
    have hl12 := log_len o1
    obtain ⟨hl, hle⟩ := loop_lbI d c l hl12 (log_one o1) 1099511627775 (by omega) [] (by simp)
    simp only [if_true]
    generalize l.foldl entF [] = b at hl hle ⊢
    have ht : List.take b.length (u8s b) = u8s b := List.take_of_length_le (by rw [u8s_len]; omega)
    obtain ⟨v1, hc, is0, q1, q2, q3⟩ := own_cloneByt (d + 7) false b (by omega)
    obtain ⟨w, hw, js, k1, k2, k3, k4, k5, k6⟩ := own_call (h := [.rows b.length 1 (u8s b)]) (args := [.ref 0 b.length 0 b.length false]) (by simp only [pureDAs, mapO, pureDA, pureD, deepest, List.getElem?_cons_zero, if_true, List.drop_zero, ht]) q1 q2 q3
    refine ⟨w, hw, js, ?_, k2, k3⟩
    simp only [u8s_nil, List.length_nil, Int.natCast_zero] at hl
    rw [runD_eq find30 _ _ _ (by simp)]
    simp -implicitDefEqProofs (disch := omega) only [go_sem, Nat.reduceBEq, Nat.reduceAdd, Nat.reduceSub, Nat.reduceMul, Nat.reduceLeDiff, Nat.reduceEqDiff, Nat.reduceLT, Int.reduceNeg, Int.reduceAdd, Int.reduceSub, Int.reduceMul, Int.reduceLE, Int.reduceLT, Int.reduceEq, Int.reduceToNat, reduceCtorEq, hv1]
    try simp -implicitDefEqProofs only [go_sem, Nat.reduceBEq, Nat.reduceAdd, Nat.reduceSub, Nat.reduceMul, Nat.reduceLeDiff, Nat.reduceEqDiff, Nat.reduceLT, Int.reduceNeg, Int.reduceAdd, Int.reduceSub, Int.reduceMul, Int.reduceLE, Int.reduceLT, Int.reduceEq, Int.reduceToNat, reduceCtorEq] at hl
    rw [hl]
    rcases own_cases k2 with ⟨cx, rfl⟩ | ⟨id, st, m, clip, rfl⟩ <;> simp -implicitDefEqProofs (disch := first | omega | assumption) only [go_sem, Nat.reduceBEq, Nat.reduceAdd, Nat.reduceSub, Nat.reduceMul, Nat.reduceLeDiff, Nat.reduceEqDiff, Nat.reduceLT, Int.reduceNeg, Int.reduceAdd, Int.reduceSub, Int.reduceMul, Int.reduceLE, Int.reduceLT, Int.reduceEq, Int.reduceToNat, reduceCtorEq, k1, resOk]
theorem loop_lbS (d : Nat) (c : Bool) (l : List Ent) (hv1 : retP (runD tab noExt (d + 6)) 63 [.sl c 2 (l.map Ent.cells)] = some [.bool true]) (hl : l.length ≤ 12) (hok : ∀ e ∈ l, logOk [e] = true) (hlm : ∀ e ∈ l, LimE [e]) (K : Nat) (hK : (l).length ≤ K) (b0 : List Int) (hb0 : (fun (i : Nat) (b : List Int) => b.length ≤ 180 * i) 0 b0) : LoopS (runD tab noExt (d + 6)) (drawI (runD tab noExt (d + 6))) [0, 3, 4] [3] L51x0 ([.rows 0 1 [], .rows (b0).length 1 (u8s (b0))] : Heap).length K [(0, .sl c 2 (l.map Ent.cells)), (3, .ref 1 (b0).length 0 (b0).length false), (4, .int .i64 (0 : Nat))] [.rows 0 1 [], .rows (b0).length 1 (u8s (b0))] = (some (.exit 0, [(3, .ref 1 (((l).foldl (entF) b0)).length 0 (((l).foldl (entF) b0)).length false)], [.rows 0 1 [], .rows (((l).foldl (entF) b0)).length 1 (u8s (((l).foldl (entF) b0)))]) : Out) ∧ (fun (i : Nat) (b : List Int) => b.length ≤ 180 * i) (l).length ((l).foldl (entF) b0) := by
  have key := LoopS_foldI (run := (runD tab noExt (d + 6))) (draw := drawI (runD tab noExt (d + 6))) (live := [0, 3, 4]) (out := [3]) (c := L51x0) (n0 := ([.rows 0 1 [], .rows (b0).length 1 (u8s (b0))] : Heap).length) (l) (entF) (fun (i : Nat) (b : List Int) => b.length ≤ 180 * i) (fun (i : Nat) (b : List Int) => [(0, .sl c 2 (l.map Ent.cells)), (3, .ref 1 (b).length 0 (b).length false), (4, .int .i64 (i : Nat))]) (fun (i : Nat) (b : List Int) => [.rows 0 1 [], .rows (b).length 1 (u8s (b))]) (fun b => (some (.exit 0, [(3, .ref 1 (b).length 0 (b).length false)], [.rows 0 1 [], .rows (b).length 1 (u8s (b))]) : Out)) (fun b K hb => ?_) (fun (i : Nat) (x : Ent) b K hi hx hb => ?_) K hK b0 hb0
  · simp only [Int.natCast_zero] at key
    exact key
  · rw [LoopS_eq]
    simp -implicitDefEqProofs only [go_sem, Nat.reduceBEq, Nat.reduceAdd, Nat.reduceSub, Nat.reduceMul, Nat.reduceLeDiff, Nat.reduceEqDiff, Nat.reduceLT, Int.reduceNeg, Int.reduceAdd, Int.reduceSub, Int.reduceMul, Int.reduceLE, Int.reduceLT, Int.reduceEq, Int.reduceToNat, reduceCtorEq, evL51x0, B51x0, Int.lt_irrefl, hv1]
  · have hxo := hok x (List.mem_of_getElem? hx); have hxl := fr_len hxo; have sm1 : b.length + (frB (bodyB x)).length < 4294967296 := (by have := hb; omega); have k1 := run_EntryBytesS d x (hlm x (List.mem_of_getElem? hx)); rw [entBytes, if_pos hxo] at k1; simp only [Ent.cells, Ent.v] at k1
    all_goals
      refine ⟨?_, ?_⟩
      · (rw [entF, List.length_append]; omega)
      · rw [LoopS_eq]
        simp -implicitDefEqProofs (disch := first | omega | assumption) only [go_sem, Nat.reduceBEq, Nat.reduceAdd, Nat.reduceSub, Nat.reduceMul, Nat.reduceLeDiff, Nat.reduceEqDiff, Nat.reduceLT, Int.reduceNeg, Int.reduceAdd, Int.reduceSub, Int.reduceMul, Int.reduceLE, Int.reduceLT, Int.reduceEq, Int.reduceToNat, reduceCtorEq, evL51x0, B51x0, hi, hx, IntWalk.i64_in, List.map_append, List.foldl_cons, hv1, hx, Ent.cells, Ent.v, hv1, k1, sm1, u8s_len, u8s_app, entF, if_true, if_false]
        skip
-- find51
theorem run_LogBytesS (d : Nat) (c : Bool) (l : List Ent) (h1 : LimE l) : retP (runD tab noExt (d + 7)) 51 [.sl c 2 (l.map Ent.cells)] = some [.sl false 1 (u8s (logBytes l))] := by
  obtain ⟨e1, e2, e3⟩ := h1.fine
  have hv1 := run_logS (d + 1) c l e3 e2
  unfold logBytes
  cases o1 : logOk l
  · rw [o1] at hv1
    have hl : LoopS (runD tab noExt (d + 6)) (drawI (runD tab noExt (d + 6))) [0, 3, 4] [3] L51x0 2 1099511627775 [(0, .sl c 2 (l.map Ent.cells)), (3, .ref 1 0 0 0 false), (4, .int .i64 0)] [.rows 0 1 [], .rows 0 1 []] = some (.exit 0, [(3, .ref 1 0 0 0 false)], [.rows 0 1 [], .rows 0 1 []]) := by
      rw [LoopS_eq]
      by_cases h0 : (0 : Int) < l.length
      · simp -implicitDefEqProofs (disch := omega) only [go_sem, Nat.reduceBEq, Nat.reduceAdd, Nat.reduceSub, Nat.reduceMul, Nat.reduceLeDiff, Nat.reduceEqDiff, Nat.reduceLT, Int.reduceNeg, Int.reduceAdd, Int.reduceSub, Int.reduceMul, Int.reduceLE, Int.reduceLT, Int.reduceEq, Int.reduceToNat, reduceCtorEq, evL51x0, B51x0, hv1, h0]
      · simp -implicitDefEqProofs (disch := omega) only [go_sem, Nat.reduceBEq, Nat.reduceAdd, Nat.reduceSub, Nat.reduceMul, Nat.reduceLeDiff, Nat.reduceEqDiff, Nat.reduceLT, Int.reduceNeg, Int.reduceAdd, Int.reduceSub, Int.reduceMul, Int.reduceLE, Int.reduceLT, Int.reduceEq, Int.reduceToNat, reduceCtorEq, evL51x0, B51x0, hv1, h0]
    rw [retP, runD_eq find51 _ _ _ (by simp)]
    simp -implicitDefEqProofs (disch := omega) only [go_sem, Nat.reduceBEq, Nat.reduceAdd, Nat.reduceSub, Nat.reduceMul, Nat.reduceLeDiff, Nat.reduceEqDiff, Nat.reduceLT, Int.reduceNeg, Int.reduceAdd, Int.reduceSub, Int.reduceMul, Int.reduceLE, Int.reduceLT, Int.reduceEq, Int.reduceToNat, reduceCtorEq, elemsOf, elemOf]
    try simp -implicitDefEqProofs only [go_sem, Nat.reduceBEq, Nat.reduceAdd, Nat.reduceSub, Nat.reduceMul, Nat.reduceLeDiff, Nat.reduceEqDiff, Nat.reduceLT, Int.reduceNeg, Int.reduceAdd, Int.reduceSub, Int.reduceMul, Int.reduceLE, Int.reduceLT, Int.reduceEq, Int.reduceToNat, reduceCtorEq] at hl
    rw [hl]
    simp -implicitDefEqProofs (disch := omega) only [go_sem, Nat.reduceBEq, Nat.reduceAdd, Nat.reduceSub, Nat.reduceMul, Nat.reduceLeDiff, Nat.reduceEqDiff, Nat.reduceLT, Int.reduceNeg, Int.reduceAdd, Int.reduceSub, Int.reduceMul, Int.reduceLE, Int.reduceLT, Int.reduceEq, Int.reduceToNat, reduceCtorEq, u8s_nil, Bool.false_eq_true, if_false]
  · rw [o1] at hv1
    have hl12 := log_len o1
    obtain ⟨hl, hle⟩ := loop_lbS d c l hv1 hl12 (log_one o1) (fun e he => h1.sub (by simp) (fun x hx => by rw [List.mem_singleton.1 hx]; exact he)) 1099511627775 (by omega) [] (by simp)
    simp only [if_true]
    generalize l.foldl entF [] = b at hl hle ⊢
    have ht : List.take b.length (u8s b) = u8s b := List.take_of_length_le (by rw [u8s_len]; omega)
    simp only [u8s_nil, List.length_nil, Int.natCast_zero] at hl
    rw [retP, runD_eq find51 _ _ _ (by simp)]
    simp -implicitDefEqProofs (disch := omega) only [go_sem, Nat.reduceBEq, Nat.reduceAdd, Nat.reduceSub, Nat.reduceMul, Nat.reduceLeDiff, Nat.reduceEqDiff, Nat.reduceLT, Int.reduceNeg, Int.reduceAdd, Int.reduceSub, Int.reduceMul, Int.reduceLE, Int.reduceLT, Int.reduceEq, Int.reduceToNat, reduceCtorEq, elemsOf, elemOf]
    try simp -implicitDefEqProofs only [go_sem, Nat.reduceBEq, Nat.reduceAdd, Nat.reduceSub, Nat.reduceMul, Nat.reduceLeDiff, Nat.reduceEqDiff, Nat.reduceLT, Int.reduceNeg, Int.reduceAdd, Int.reduceSub, Int.reduceMul, Int.reduceLE, Int.reduceLT, Int.reduceEq, Int.reduceToNat, reduceCtorEq] at hl
    rw [hl]
    simp -implicitDefEqProofs (disch := omega) only [go_sem, Nat.reduceBEq, Nat.reduceAdd, Nat.reduceSub, Nat.reduceMul, Nat.reduceLeDiff, Nat.reduceEqDiff, Nat.reduceLT, Int.reduceNeg, Int.reduceAdd, Int.reduceSub, Int.reduceMul, Int.reduceLE, Int.reduceLT, Int.reduceEq, Int.reduceToNat, reduceCtorEq, ht]
theorem entF_vs : ∀ {a b : List Ent} (x : List Int), a.map entU = b.map entU → a.foldl entF x = b.foldl entF x
  | [], [], _, _ => rfl
  | [], _ :: _, _, h => by simp at h
  | _ :: _, [], _, h => by simp at h
  | p :: a, q :: b, x, h => by
    simp only [List.map_cons, List.cons.injEq] at h
    have e : entF x p = entF x q := by rw [entF, entF, ← bodyB_own p, ← bodyB_own q, entU_inj h.1]
    rw [List.foldl_cons, List.foldl_cons, e, entF_vs _ h.2]
theorem logBytes_vs {a b : List Ent} (h : a.map entU = b.map entU) : logBytes a = logBytes b := by rw [logBytes, logBytes, logOk_vs h, entF_vs _ h]
theorem entF_len : ∀ (l : List Ent) (x : List Int), (∀ e ∈ l, logOk [e] = true) → (l.foldl entF x).length ≤ x.length + 180 * l.length
  | [], x, _ => by simp
  | e :: l, x, h => by
    have h1 := (fr_len (h e (by simp))).2
    have h2 := entF_len l (entF x e) (fun y hy => h y (by simp [hy]))
    rw [List.foldl_cons]
    have h3 : (entF x e).length = x.length + (frB (bodyB e)).length := by rw [entF, List.length_append]
    rw [List.length_cons]
    omega
theorem logBytes_len (l : List Ent) : (logBytes l).length ≤ 2160 := by
  unfold logBytes
  split
  · rename_i h
    have h1 := entF_len l [] (log_one h)
    have h2 := log_len h
    simp only [List.length_nil] at h1
    omega
  · simp
theorem core_LogBytes {x0 : List (List U)} (h0 : ∃ p, PurF (.sub fdEntry) p (.sub x0)) (L0 : LenF 1048576 1048576 (.sub fdEntry) (.sub x0)) :
    ∃ ux, LenF big big (.sub fdByte) (.sub ux) ∧ (cntF (.sub fdByte) (.sub ux) : Int) ≤ 2305843009213693952 ∧
      (∀ {q0 : V}, PurF (.sub fdEntry) q0 (.sub x0) → ∃ w, retP (runD tab noExt 60) 51 [q0] = some [w] ∧ PurF (.sub fdByte) w (.sub ux)) ∧
      (∀ {q0 : V}, PurF (.sub fdEntry) q0 (.sub x0) → ∃ v hc ids, runD tab noExt 60 30 [q0] [] = some ([v], hc) ∧ OwnF hc (.sub fdByte) v (.sub ux) ids ∧ ids.Nodup) := by
  obtain ⟨p0, g0⟩ := h0
  obtain ⟨_, l, rfl, rfl⟩ := ents_each g0
  have hlen := logBytes_len l
  refine ⟨byU (logBytes l), LenF_mono (n := 1048576) (m := 1048576) (by decide) (by decide) _ (by_lenF (by omega)), by_cnt (by omega), fun k0 => ?_, fun k0 => ?_⟩
  all_goals
    obtain ⟨c, l2, rfl, f⟩ := ents_each k0
    have lim2 : LimE l2 := ents_lim (by rw [← f]; exact L0)
    rw [logBytes_vs f]
  · exact ⟨_, run_LogBytesS 53 c l2 lim2, by_pur _ _⟩
  · exact own_LogBytes 50 c l2 lim2
end Go.Proofs.Yteaojpfofifmnaa.PE
/- The exact statement of FnExactLogBytes. -/
set_option linter.unusedVariables false
set_option linter.unusedSimpArgs false
set_option maxHeartbeats 8000000
set_option maxRecDepth 20000
namespace Go.Proofs.Yteaojpfofifmnaa.PE
open Go.RowKit

-- find10
theorem law_FnExactLogBytes {p0 : V} {x0 : List (List U)} (g0 : PurF (.sub fdEntry) p0 (.sub x0)) (B0 : LenF 9223372036854775807 9223372036854775807 (.sub fdEntry) (.sub x0)) : ∃ d h1, runD tab noExt d 10 [p0] [] = some ([.bool true], h1) := by
  refine ⟨61, ?_⟩
  rw [runD_eq find10 _ _ _ (by simp)]
  obtain ⟨cl0, ct0, rfl, hz0⟩ := purS_Entry g0
  have hl0 := Zip2_len hz0
  have z0 := run_szEntryS 54 (1048576) g0 B0 (by omega) (by omega)
  have y0 := szF_spec (N := 1048576) (.sub fdEntry) (.sub x0) (1048576) (by decide) (by omega)
  generalize szF (.sub fdEntry) (.sub x0) (1048576) = l0 at z0 y0
  by_cases q0 : l0 < 0
  · simp -implicitDefEqProofs (disch := omega) only [go_sem, Nat.reduceBEq, Nat.reduceAdd, Nat.reduceSub, Nat.reduceMul, Nat.reduceLeDiff, Nat.reduceEqDiff, Nat.reduceLT, Int.reduceNeg, Int.reduceAdd, Int.reduceSub, Int.reduceMul, Int.reduceLE, Int.reduceLT, Int.reduceEq, Int.reduceToNat, reduceCtorEq, z0, q0]
    exact ⟨_, rfl⟩
  obtain ⟨y0a, L0, y0c⟩ := y0 (by omega) (by omega)
  have M0 := LenF_mono (n' := big) (m' := big) (by decide) (by decide) _ L0
  have P0 : x0.length ≤ 1048576 ∧ AllU (LenR 1048576 1048576 fdEntry) x0 := by simpa only [LenF] using L0
  obtain ⟨ux, C1, C2, cS, cI⟩ := core_LogBytes ⟨_, g0⟩ L0
  obtain ⟨v0, c0, d0, r0, o0, n0'⟩ := run_toEntryS 54 g0 P0.1 P0.2
  obtain ⟨t0, h0, s0, e0, a0, u0, w0, f0, m0⟩ := own_call (h := ([] : Heap)) (args := [(.sl cl0 2 ct0)]) (by simp only [pureDAs, mapO, pureDA_pur g0]) r0 o0 n0'
  have b0 := own_ids a0 w0
  obtain ⟨qsw0, zsw0, ysw0⟩ := OwnF_pure (.sub fdEntry) 6 (by decide) a0
  have xsw0 := pureDA_of a0 zsw0
  obtain ⟨w, eS, gw⟩ := cS ysw0
  have eW := call_specB (h := h0) (args := [t0]) (by simp only [pureDAs, mapO, pureDA_int, pureDA_bool, pureDA_str, pureDA_agg, pureD_intv, pureD_boolv, pureD_strv, Option.map_some, zsw0, xsw0]) eS
  obtain ⟨hd, hdE⟩ : ∃ hb : Heap, hb = h0.map deadB := ⟨_, rfl⟩
  have mD : hd.length = h0.length := by rw [hdE]; simp
  rw [← hdE] at eW
  try simp only [oneOf] at eW
  obtain ⟨v1, c1, d1, r1, o1, n1'⟩ := run_toEntryS 54 g0 P0.1 P0.2
  obtain ⟨t1, h1, s1, e1, a1, u1, w1, f1, m1⟩ := own_call (h := hd) (args := [(.sl cl0 2 ct0)]) (by simp only [pureDAs, mapO, pureDA_pur g0]) r1 o1 n1'
  have b1 := own_ids a1 w1
  obtain ⟨qgx0, zgx0, ygx0⟩ := OwnF_pure (.sub fdEntry) 6 (by decide) a1
  have xgx0 := pureDA_of a1 zgx0
  obtain ⟨v2, c2, d2, r2, o2, n2'⟩ := cI ygx0
  obtain ⟨t2, h2, s2, e2, a2, u2, w2, f2, m2⟩ := own_call (h := h1) (args := [t1]) (by simp only [pureDAs, mapO, pureDA_int, pureDA_bool, pureDA_str, pureDA_agg, pureD_intv, pureD_boolv, pureD_strv, Option.map_some, zgx0, xgx0]) r2 o2 n2'
  have b2 := own_ids a2 w2
  have o1x := OwnF_frame _ a1 (fun j hj => f2 j (OwnF_lt _ a1 j hj))
  obtain ⟨qgagR, zgagR, ygagR⟩ := OwnF_pure (.sub fdByte) 6 (by decide) a2
  have xgagR := pureDA_of a2 zgagR
  have Ega := call_bool (h := h2) (args := [t2, w]) (by simp only [pureDAs, mapO, zgagR, xgagR, pureDA_pur gw]) (run_eqByteS 59 ygagR gw C1)
  obtain ⟨v3, c3, d3, r3, o3, n3'⟩ := run_toEntryS 54 g0 P0.1 P0.2
  obtain ⟨t3, h3, s3, e3, a3, u3, w3, f3, m3⟩ := own_call (h := h2) (args := [(.sl cl0 2 ct0)]) (by simp only [pureDAs, mapO, pureDA_pur g0]) r3 o3 n3'
  have b3 := own_ids a3 w3
  have o2x := OwnF_frame _ o1x (fun j hj => f3 j (OwnF_lt _ o1x j hj))
  have o3x := OwnF_frame _ a2 (fun j hj => f3 j (OwnF_lt _ a2 j hj))
  obtain ⟨qA0x0, zA0x0, yA0x0⟩ := OwnF_pure (.sub fdEntry) 6 (by decide) o2x
  have xA0x0 := pureDA_of o2x zA0x0
  obtain ⟨qB0y0, zB0y0, yB0y0⟩ := OwnF_pure (.sub fdEntry) 6 (by decide) a3
  have xB0y0 := pureDA_of a3 zB0y0
  have EA0 := call_bool (h := h3) (args := [t1, t3]) (by simp only [pureDAs, mapO, pureDA_int, pureDA_bool, pureDA_str, pureDA_agg, pureD_intv, pureD_boolv, pureD_strv, Option.map_some, zA0x0, xA0x0, zB0y0, xB0y0]) (run_eqEntryS 54 yA0x0 yB0y0 M0)
  obtain ⟨h4, zmx0, e4, a4, k4, z4x, f4', m4⟩ := run_markEntryS 56 o2x u1 M0 (k := (1 : Int)) (by omega) (by omega)
  have f4 : ∀ j, j < h3.length → j ∉ s1 → h4[j]? = h3[j]? := fun j _ hj => f4' j hj
  have o4x := OwnF_frame _ o3x (fun j hj => f4 j (by have z := b2 j hj; first | omega | (have := OwnF_lt _ o3x j hj; omega)) (fun hm => by have z1 := b2 j hj; have z2 := b1 j hm; omega))
  have K0 : (((1 : Int) + cntF (.sub fdEntry) (.sub x0)) < 0) = False := eq_false (by omega)
  obtain ⟨qgbgR, zgbgR, ygbgR⟩ := OwnF_pure (.sub fdByte) 6 (by decide) o4x
  have xgbgR := pureDA_of o4x zgbgR
  have Egb := call_bool (h := h4) (args := [t2, w]) (by simp only [pureDAs, mapO, zgbgR, xgbgR, pureDA_pur gw]) (run_eqByteS 59 ygbgR gw C1)
  obtain ⟨h5, zG, e5, a5, k5, z5x, f5', m5⟩ := run_markByteS 59 o4x u2 C1 (k := 1) (by omega) (by omega)
  have f5 : ∀ j, j < h4.length → j ∉ s2 → h5[j]? = h4[j]? := fun j _ hj => f5' j hj
  have o5x := OwnF_frame _ a4 (fun j hj => f5 j (by have z := b1 j hj; first | omega | (have := OwnF_lt _ a4 j hj; omega)) (fun hm => by have z1 := b1 j hj; have z2 := b2 j hm; omega))
  have K1 : (((1 : Int) + cntF (.sub fdByte) (.sub ux)) < 0) = False := eq_false (by omega)
  obtain ⟨qhagR, zhagR, yhagR⟩ := OwnF_pure (.sub fdByte) 6 (by decide) a5
  have xhagR := pureDA_of a5 zhagR
  have Eha := call_int (h := h5) (args := [t2, .int .i64 1]) (by simp only [pureDAs, mapO, pureDA_int, pureDA_bool, pureDA_str, pureDA_agg, pureD_intv, pureD_boolv, pureD_strv, Option.map_some, zhagR, xhagR]) (run_heldByteS 59 yhagR k5 (by omega) (by omega) z5x)
  obtain ⟨v6, c6, d6, r6, o6, n6'⟩ := run_toEntryS 54 g0 P0.1 P0.2
  obtain ⟨t6, h6, s6, e6, a6, u6, w6, f6, m6⟩ := own_call (h := h5) (args := [(.sl cl0 2 ct0)]) (by simp only [pureDAs, mapO, pureDA_pur g0]) r6 o6 n6'
  have b6 := own_ids a6 w6
  have o6x := OwnF_frame _ a5 (fun j hj => f6 j (OwnF_lt _ a5 j hj))
  obtain ⟨qkh0, zkh0, ykh0⟩ := OwnF_pure (.sub fdEntry) 6 (by decide) a6
  have xkh0 := pureDA_of a6 zkh0
  obtain ⟨v7, c7, d7, r7, o7, n7'⟩ := cI ykh0
  obtain ⟨t7, h7, s7, e7, a7, u7, w7, f7, m7⟩ := own_call (h := h6) (args := [t6]) (by simp only [pureDAs, mapO, pureDA_int, pureDA_bool, pureDA_str, pureDA_agg, pureD_intv, pureD_boolv, pureD_strv, Option.map_some, zkh0, xkh0]) r7 o7 n7'
  have b7 := own_ids a7 w7
  have o7x := OwnF_frame _ o6x (fun j hj => f7 j (OwnF_lt _ o6x j hj))
  have o8x := OwnF_frame _ a6 (fun j hj => f7 j (OwnF_lt _ a6 j hj))
  obtain ⟨qgckR, zgckR, ygckR⟩ := OwnF_pure (.sub fdByte) 6 (by decide) a7
  have xgckR := pureDA_of a7 zgckR
  have Egc := call_bool (h := h7) (args := [t7, w]) (by simp only [pureDAs, mapO, zgckR, xgckR, pureDA_pur gw]) (run_eqByteS 59 ygckR gw C1)
  obtain ⟨qhbgR, zhbgR, yhbgR⟩ := OwnF_pure (.sub fdByte) 6 (by decide) o7x
  have xhbgR := pureDA_of o7x zhbgR
  have Ehb := call_int (h := h7) (args := [t2, .int .i64 1]) (by simp only [pureDAs, mapO, pureDA_int, pureDA_bool, pureDA_str, pureDA_agg, pureD_intv, pureD_boolv, pureD_strv, Option.map_some, zhbgR, xhbgR]) (run_heldByteS 59 yhbgR k5 (by omega) (by omega) z5x)
  simp -implicitDefEqProofs (disch := omega) only [go_sem, Nat.reduceBEq, Nat.reduceAdd, Nat.reduceSub, Nat.reduceMul, Nat.reduceLeDiff, Nat.reduceEqDiff, Nat.reduceLT, Int.reduceNeg, Int.reduceAdd, Int.reduceSub, Int.reduceMul, Int.reduceLE, Int.reduceLT, Int.reduceEq, Int.reduceToNat, reduceCtorEq, z0, q0, K0, K1, e0, eW, e1, e2, Ega, e3, EA0, e4, Egb, e5, Eha, e6, e7, Egc, Ehb]
  exact ⟨_, rfl⟩
end Go.Proofs.Yteaojpfofifmnaa.PE
/- Arguments of any plain kind, as they are read: values of the evaluator. -/
set_option linter.unusedVariables false
set_option linter.unusedSimpArgs false
namespace Go.Proofs.Yteaojpfofifmnaa.PE
open Go.RowKit

mutual
def tyF (P : Program) : Nat → TypeId → Fd → Bool
  | 0, _, _ => false
  | n + 1, t, .int k => match P.underlying t with
    | some (.int k') => decide (k' = k)
    | _ => false
  | n + 1, t, .bool => match P.underlying t with
    | some .bool => true
    | _ => false
  | n + 1, t, .str => match P.underlying t with
    | some .string => true
    | _ => false
  | n + 1, t, .sub fs => match P.underlying t with
    | some (.slice e) => decide (P.cellsOf e = fs.length) && decide (0 < fs.length) && tyR P n e fs
    | _ => false
def tyR (P : Program) : Nat → TypeId → List Fd → Bool
  | 0, _, _ => false
  | n + 1, t, fs => match P.underlying t with
    | some (.struct flds) => decide (P.cellsOf t = fs.length) && tyS P n flds.toList 0 fs
    | _ => match fs with
      | [f] => tyF P n t f
      | _ => false
def tyS (P : Program) : Nat → List Field → Nat → List Fd → Bool
  | 0, _, _, _ => false
  | n + 1, [], _, fs => fs.isEmpty
  | n + 1, fl :: r, off, fs => decide (fl.offset = off) && tyR P n fl.type (fs.take (P.cellsOf fl.type)) && decide (P.cellsOf fl.type ≤ fs.length) && tyS P n r (off + P.cellsOf fl.type) (fs.drop (P.cellsOf fl.type))
end

def B63 : Nat := 9223372036854775807
section
variable {H : Type} {enc : TypeId × Value → H} {P : Program} {w : World} {base : Nat} {spare : Nat → Bool} {held : Bool}

/-- Cells and what they are. -/
def Got (w : World) (fs : List Fd) (cs : List Value) : Prop := ∃ (ps : List V) (us : List U), PurR fs ps us ∧ LenR B63 B63 fs us ∧ ps.length = cs.length ∧ ∀ (i : Nat) (y : V), ps[i]? = some y → ∃ u, cs[i]? = some u ∧ Rep w (fun b => b < w.heap.size) u y
theorem Got.one {f : Fd} {v : Value} {p : V} {u : U} (h1 : PurF f p u) (h2 : LenF B63 B63 f u) (h3 : Rep w (fun b => b < w.heap.size) v p) : Got w [f] [v] := by
  refine ⟨[p], [u], by simp only [PurR]; exact ⟨p, [], u, [], rfl, rfl, h1, rfl, rfl⟩, by simp only [LenR]; exact ⟨h2, trivial⟩, rfl, fun i y hy => ?_⟩
  cases i with
  | zero => simp at hy; subst hy; exact ⟨v, rfl, h3⟩
  | succ i => simp at hy
theorem PurR_len : ∀ {fs : List Fd} {ps : List V} {us : List U}, PurR fs ps us → ps.length = fs.length ∧ us.length = fs.length
  | [], _, _, h => by simp only [PurR] at h; rw [h.1, h.2]; exact ⟨rfl, rfl⟩
  | f :: fs, _, _, h => by
    simp only [PurR] at h
    obtain ⟨v, c', u, x', rfl, rfl, _, h2⟩ := h
    have := PurR_len h2
    simp [this.1, this.2]
theorem PurR_app : ∀ {f1 f2 : List Fd} {p1 p2 : List V} {u1 u2 : List U}, PurR f1 p1 u1 → PurR f2 p2 u2 → PurR (f1 ++ f2) (p1 ++ p2) (u1 ++ u2)
  | [], _, _, _, _, _, h, h2 => by simp only [PurR] at h; rw [h.1, h.2]; exact h2
  | f :: f1, f2, _, p2, _, u2, h, h2 => by
    simp only [PurR] at h
    obtain ⟨v, c', u, x', rfl, rfl, h3, h4⟩ := h
    show PurR (f :: (f1 ++ f2)) _ _
    simp only [PurR]
    exact ⟨v, c' ++ p2, u, x' ++ u2, rfl, rfl, h3, PurR_app h4 h2⟩
theorem LenR_app {n m : Nat} : ∀ {f1 f2 : List Fd} {u1 u2 : List U}, u1.length = f1.length → LenR n m f1 u1 → LenR n m f2 u2 → LenR n m (f1 ++ f2) (u1 ++ u2)
  | [], _, u1, _, hl, _, h2 => by
    have : u1 = [] := List.eq_nil_of_length_eq_zero hl
    subst this
    exact h2
  | f :: f1, f2, u :: u1, u2, hl, h, h2 => by
    show LenR n m (f :: (f1 ++ f2)) (u :: (u1 ++ u2))
    simp only [LenR] at h ⊢
    exact ⟨h.1, LenR_app (by simpa using hl) h.2 h2⟩
  | _ :: _, _, [], _, hl, _, _ => by simp at hl
theorem Got.app {f1 f2 : List Fd} {c1 c2 : List Value} (h1 : Got w f1 c1) (h2 : Got w f2 c2) : Got w (f1 ++ f2) (c1 ++ c2) := by
  obtain ⟨p1, u1, a1, a2, a3, a4⟩ := h1
  obtain ⟨p2, u2, b1, b2, b3, b4⟩ := h2
  refine ⟨p1 ++ p2, u1 ++ u2, PurR_app a1 b1, LenR_app (PurR_len a1).2 a2 b2, by simp [a3, b3], fun i y hy => ?_⟩
  rcases Nat.lt_or_ge i p1.length with hi | hi
  · rw [List.getElem?_append_left hi] at hy
    obtain ⟨u, hu, hr⟩ := a4 i y hy
    exact ⟨u, by rw [List.getElem?_append_left (by omega)]; exact hu, hr⟩
  · rw [List.getElem?_append_right hi] at hy
    obtain ⟨u, hu, hr⟩ := b4 _ y hy
    exact ⟨u, by rw [List.getElem?_append_right (by omega), ← a3]; exact hu, hr⟩

theorem plain_addr {a : Addr} {v : Value} (h : w.cell? a = some v) : ∃ g o, a = ⟨g, o, none⟩ ∧ g < w.heap.size := by
  obtain ⟨g, o, sp⟩ := a
  unfold World.cell? at h
  have hg : g < w.heap.size := by
    rcases Nat.lt_or_ge g w.heap.size with h1 | h1
    · exact h1
    · rw [Array.getElem?_eq_none h1] at h; cases sp <;> simp at h
  cases sp with
  | none => exact ⟨g, o, rfl, hg⟩
  | some s => simp at h; split at h <;> cases h

/-- A slice out of its elements. -/
theorem got_slice {fs : List Fd} {a : Addr} {len cap : Nat} (hpos : 0 < fs.length) (hl : len ≤ cap) (hm : cap ≤ maxLen) (hx : ∀ i, i < len → ∃ cs', w.cells? base (a.add (i * fs.length)) fs.length = some cs' ∧ Got w fs cs') :
    Got w [.sub fs] [.slice (some a) len cap] := by
  have hx' : ∀ i, i < len → ∃ q : List V × List U × List Value, w.cells? base (a.add (i * fs.length)) fs.length = some q.2.2 ∧ PurR fs q.1 q.2.1 ∧ LenR B63 B63 fs q.2.1 ∧ q.1.length = q.2.2.length ∧ ∀ (j : Nat) (y : V), q.1[j]? = some y → ∃ u, q.2.2[j]? = some u ∧ Rep w (fun b => b < w.heap.size) u y := by
    intro i hi
    obtain ⟨cs', h1, ps, us, h2, h3, h4, h5⟩ := hx i hi
    exact ⟨(ps, us, cs'), h1, h2, h3, h4, h5⟩
  obtain ⟨q, hq⟩ := Go.Deep.choose_lt hx'
  have hzip : ∀ (n : Nat), n ≤ len → Zip2 (PurR fs) ((List.range n).map fun i => (q i).1) ((List.range n).map fun i => (q i).2.1) ∧ AllU (LenR B63 B63 fs) ((List.range n).map fun i => (q i).2.1) := by
    have z2 : ∀ {l1 : List (List V)} {l2 : List (List U)} {c : List V} {x : List U}, Zip2 (PurR fs) l1 l2 → PurR fs c x → Zip2 (PurR fs) (l1 ++ [c]) (l2 ++ [x]) := by
      intro l1
      induction l1 with
      | nil => intro l2 c x h hc; cases l2 with
        | nil => exact ⟨hc, trivial⟩
        | cons b bs => exact h.elim
      | cons a l1 ih => intro l2 c x h hc; cases l2 with
        | nil => exact h.elim
        | cons b bs => exact ⟨h.1, ih h.2 hc⟩
    have a2 : ∀ {l2 : List (List U)} {x : List U}, AllU (LenR B63 B63 fs) l2 → LenR B63 B63 fs x → AllU (LenR B63 B63 fs) (l2 ++ [x]) := by
      intro l2
      induction l2 with
      | nil => intro x _ hx; exact ⟨hx, trivial⟩
      | cons b bs ih => intro x h hx; exact ⟨h.1, ih h.2 hx⟩
    intro n
    induction n with
    | zero => intro _; exact ⟨trivial, trivial⟩
    | succ n ih =>
      intro hn
      obtain ⟨i1, i2⟩ := ih (by omega)
      obtain ⟨_, b1, b2, _⟩ := hq n (by omega)
      rw [List.range_succ, List.map_append, List.map_append]
      exact ⟨z2 i1 b1, a2 i2 b2⟩
  obtain ⟨z1, z2⟩ := hzip len (Nat.le_refl _)
  have hml : maxLen = 9223372036854775807 := by decide
  refine Got.one (p := .sl false fs.length ((List.range len).map fun i => (q i).1)) (u := .sub ((List.range len).map fun i => (q i).2.1)) ?_ ?_ ?_
  · simp only [PurF]
    exact ⟨false, _, _, rfl, rfl, z1⟩
  · simp only [LenF, List.length_map, List.length_range]
    exact ⟨by unfold B63; omega, z2⟩
  · have hlen : ∀ j x, ((List.range len).map fun i => (q i).1)[j]? = some x → j < len ∧ x = (q j).1 := by
      intro j x hx
      rw [List.getElem?_map] at hx
      obtain ⟨k, hk, rfl⟩ := Option.map_eq_some_iff.1 hx
      have hj : j < len := by
        have := (List.getElem?_eq_some_iff.1 hk).1
        simpa using this
      rw [List.getElem?_range hj] at hk
      injection hk with hk
      subst hk
      exact ⟨hj, rfl⟩
    have hcell : ∀ (j c : Nat) (y : V), j < len → (q j).1[c]? = some y → ∃ u, (q j).2.2[c]? = some u ∧ w.cell? ((a.add (j * fs.length)).add c) = some u ∧ Rep w (fun b => b < w.heap.size) u y := by
      intro j c y hj hy
      obtain ⟨h1, h2, h3, h4, h5⟩ := hq j hj
      obtain ⟨_, h6, h7⟩ := World.cells?_some h1
      obtain ⟨u, hu, hr⟩ := h5 c y hy
      have hc : c < fs.length := by
        have := (List.getElem?_eq_some_iff.1 hu).1
        omega
      exact ⟨u, hu, (h7 c hc).trans hu, hr⟩
    refine Rep.sl (some a) len cap false _ fs.length (fun j c => ((q j).2.2[c]?).getD undef) (by simp) hl (fun e => by cases e) hpos (fun x hx => ?_) (fun hn => ?_) (fun j c x y hx hy => ?_)
    · obtain ⟨j, hj⟩ := List.getElem?_of_mem hx
      obtain ⟨h1, rfl⟩ := hlen j x hj
      exact (PurR_len (hq j h1).2.1).1
    · have h0 := (PurR_len (hq 0 hn).2.1).1
      have hy0 : (q 0).1[0]? = some (q 0).1[0] := List.getElem?_eq_getElem (by omega)
      obtain ⟨u0, _, c0, _⟩ := hcell 0 0 _ hn hy0
      rw [Nat.zero_mul] at c0
      have ha : (a.add 0).add 0 = a := by simp [Addr.add]
      rw [ha] at c0
      obtain ⟨g, o, rfl, hg⟩ := plain_addr c0
      refine ⟨g, o, rfl, hg, fun j c x y hx hy => ?_⟩
      obtain ⟨h1, rfl⟩ := hlen j x hx
      obtain ⟨u, hu, hc, _⟩ := hcell j c y h1 hy
      rw [add0, add0] at hc
      rw [hc, hu]
      rfl
    · obtain ⟨h1, rfl⟩ := hlen j x hx
      obtain ⟨u, hu, _, hr⟩ := hcell j c y h1 hy
      show Rep w _ (((q j).2.2[c]?).getD undef) y
      rw [hu]
      exact hr

mutual
theorem gotF : ∀ (n : Nat) {t : TypeId} {f : Fd} {fuel : Nat} {cs : List Value} {x : DataW H × List MemPlace}, tyF P n t f = true → DataW.trod enc P w base spare held fuel t cs = some x → Got w [f] cs
  | 0, _, _, _, _, _, ht, _ => by simp [tyF] at ht
  | n + 1, t, .int k, fuel, cs, x, ht, h => by
    simp only [tyF] at ht
    split at ht
    · rename_i k' hu
      simp only [decide_eq_true_eq] at ht
      subst ht
      obtain ⟨m, rfl, _, _⟩ := DataW.trod_int hu h
      exact Got.one (p := .int k' m) (u := .int m) (by simp only [PurF]; exact ⟨m, rfl, rfl⟩) (by simp [LenF]) (.int _ _)
    · cases ht
  | n + 1, t, .bool, fuel, cs, x, ht, h => by
    simp only [tyF] at ht
    split at ht
    · rename_i hu
      obtain ⟨m, rfl, _⟩ := DataW.trod_bool hu h
      exact Got.one (p := .bool m) (u := .bool m) (by simp only [PurF]; exact ⟨m, rfl, rfl⟩) (by simp [LenF]) (.bool _)
    · cases ht
  | n + 1, t, .str, fuel, cs, x, ht, h => by
    simp only [tyF] at ht
    split at ht
    · rename_i hu
      obtain ⟨m, rfl, _, hm⟩ := DataW.trod_string hu h
      have hml : maxLen = 9223372036854775807 := by decide
      exact Got.one (p := .str m) (u := .str m) (by simp only [PurF]; exact ⟨m, rfl, rfl⟩) (by simp only [LenF]; unfold B63; omega) (.str _)
    · cases ht
  | n + 1, t, .sub fs, fuel, cs, x, ht, h => by
    simp only [tyF] at ht
    split at ht
    · rename_i e hu
      simp only [Bool.and_eq_true, decide_eq_true_eq] at ht
      obtain ⟨⟨hc, hpos⟩, hr⟩ := ht
      rcases Go.Deep.open_slice hu h with ⟨rfl, _⟩ | ⟨a, len, cap, m, k, D, Pl, rfl, hb, hl, hm, hmm, _, hx⟩
      · exact Got.one (p := .sl true fs.length []) (u := .sub []) (by rw [PurF]; exact ⟨true, [], [], rfl, rfl, trivial⟩) (by simp only [LenF]; exact ⟨Nat.zero_le _, trivial⟩) (rep_empty hpos (fun _ => rfl))
      · refine got_slice (base := base) hpos hl hm (fun i hi => ?_)
        obtain ⟨cs', h1, h2⟩ := hx i (by rw [hmm]; split <;> omega)
        rw [hc] at h1
        exact ⟨cs', h1, gotR n hr h2⟩
    · cases ht
theorem gotR : ∀ (n : Nat) {t : TypeId} {fs : List Fd} {fuel : Nat} {cs : List Value} {x : DataW H × List MemPlace}, tyR P n t fs = true → DataW.trod enc P w base spare held fuel t cs = some x → Got w fs cs
  | 0, _, _, _, _, _, ht, _ => by simp [tyR] at ht
  | n + 1, t, fs, fuel, cs, x, ht, h => by
    simp only [tyR] at ht
    split at ht
    · rename_i flds hu
      simp only [Bool.and_eq_true, decide_eq_true_eq] at ht
      obtain ⟨xs, k, _, _, hcl, hxl, hf⟩ := DataW.trod_struct hu h
      refine gotS n (cs := cs) (off := 0) (fuel := k) ht.2 (by omega) (fun i fl hi => ?_)
      have hlt : i < xs.length := by
        have := (List.getElem?_eq_some_iff.1 hi).1
        simp at this
        omega
      rw [Array.getElem?_toList] at hi
      exact ⟨xs[i], by rw [hf i fl hi, List.getElem?_eq_getElem hlt]⟩
    · split at ht
      · rename_i f
        exact gotF n ht h
      · cases ht
theorem gotS : ∀ (n : Nat) {flds : List Field} {off : Nat} {fs : List Fd} {fuel : Nat} {cs : List Value}, tyS P n flds off fs = true → cs.length = off + fs.length → (∀ (i : Nat) (fl : Field), flds[i]? = some fl → ∃ x, DataW.trod enc P w base spare held fuel fl.type ((cs.drop fl.offset).take (P.cellsOf fl.type)) = some x) → Got w fs (cs.drop off)
  | 0, _, _, _, _, _, ht, _, _ => by simp [tyS] at ht
  | n + 1, [], off, fs, fuel, cs, ht, hl, _ => by
    simp only [tyS, List.isEmpty_iff] at ht
    subst ht
    rw [List.drop_of_length_le (by simp at hl; omega)]
    exact ⟨[], [], by simp [PurR], by simp [LenR], rfl, fun i y hy => by simp at hy⟩
  | n + 1, fl :: r, off, fs, fuel, cs, ht, hl, hx => by
    simp only [tyS, Bool.and_eq_true, decide_eq_true_eq] at ht
    obtain ⟨⟨⟨ho, h1⟩, hle⟩, h2⟩ := ht
    obtain ⟨x, hx0⟩ := hx 0 fl rfl
    rw [ho] at hx0
    have g1 := gotR n h1 hx0
    have g2 := gotS n (cs := cs) (off := off + P.cellsOf fl.type) h2 (by rw [List.length_drop]; omega) (fun i f hi => hx (i + 1) f (by simpa using hi))
    have g := g1.app g2
    rw [List.take_append_drop] at g
    rw [← List.drop_drop, List.take_append_drop] at g
    exact g
end
/-- An argument of a slice's type. -/
theorem got_arg {t : TypeId} {fs : List Fd} {v : Value} {d : DataW H} {ps : List MemPlace} (n : Nat) (ht : tyF P n t (.sub fs) = true) (h : DataW.Trod enc P w base spare held t v d ps) (hv : v.cells = #[v]) :
    ∃ p xs, Rep w (fun b => b < w.heap.size) v p ∧ PurF (.sub fs) p (.sub xs) ∧ LenF B63 B63 (.sub fs) (.sub xs) := by
  obtain ⟨fuel, h⟩ := h
  obtain ⟨ps, us, h1, h2, h3, h4⟩ := gotF n ht h
  simp only [PurR] at h1
  obtain ⟨p, _, u, _, rfl, rfl, g, rfl, rfl⟩ := h1
  simp only [LenR] at h2
  obtain ⟨u', hu, hr⟩ := h4 0 p rfl
  rw [hv] at hu
  simp at hu
  subst hu
  have g' := g
  simp only [PurF] at g'
  obtain ⟨_, _, xs, _, rfl, _⟩ := g'
  exact ⟨p, xs, hr, g, h2.1⟩
/-- An argument of a struct's type. -/
theorem got_argR {t : TypeId} {fs : List Fd} {cs : Array Value} {d : DataW H} {ps : List MemPlace} (n : Nat) (ht : tyR P n t fs = true) (h : DataW.Trod enc P w base spare held t (.agg cs) d ps) :
    ∃ qs us, RepA w (fun b => b < w.heap.size) (.agg cs) (.agg qs) ∧ PurR fs qs us ∧ LenR B63 B63 fs us := by
  obtain ⟨fuel, h⟩ := h
  obtain ⟨ps, us, h1, h2, h3, h4⟩ := gotR n ht h
  refine ⟨ps, us, ⟨cs, rfl, by simpa [Value.cells] using h3.symm, fun i c hc => ?_⟩, h1, h2⟩
  obtain ⟨u, hu, hr⟩ := h4 i c hc
  exact ⟨u, by simpa [Value.cells] using hu, hr⟩
end
end Go.Proofs.Yteaojpfofifmnaa.PE
