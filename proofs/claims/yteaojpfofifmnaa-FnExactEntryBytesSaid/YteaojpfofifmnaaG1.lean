/- Texts of this claim, one behind the other: Pnr, Pq0, Png, Pnc, Psz, Pvq, Pl2, Pl3, Pb1, Pb2, Pb3, Pu7, Pu8, Pb4, Pb5, Pb6, Pb7, Pr5. -/
import Derived.Test.YteaojpfofifmnaaG0
import Derived.Deep.Slices
import Derived.ChangeArms
/- Rows and columns as trees: what their sizes say, that only their values matter. -/
set_option linter.unusedVariables false
set_option linter.unusedSimpArgs false
set_option maxHeartbeats 4000000
namespace Go.Proofs.Yteaojpfofifmnaa.PE
open Go.RowKit

def rowU (r : Row) : List U := vsU r.vs
theorem AllU_sub {α : Type} {P : List U → Prop} {g : α → List U} : ∀ {l : List α}, AllU P (l.map g) → ∀ {l2 : List α}, (∀ x ∈ l2, x ∈ l) → AllU P (l2.map g)
  | l, h, [], _ => trivial
  | l, h, x :: r, hs => by
    refine ⟨?_, AllU_sub h (fun y hy => hs y (List.mem_cons_of_mem _ hy))⟩
    obtain ⟨i, hi⟩ := List.getElem?_of_mem (hs x List.mem_cons_self)
    exact AllU_at h (map_at g hi)
theorem sum_leP {P : List U → Prop} {c : List U → Nat} {n : Nat} (h : ∀ x, P x → c x ≤ n) : ∀ {xs : List (List U)}, AllU P xs → sumU c xs ≤ n * xs.length
  | [], _ => by simp [sumU]
  | x :: xs, ⟨h1, h2⟩ => by
    have := sum_leP h h2
    have := h x h1
    simp only [sumU, List.length_cons, Nat.mul_add, Nat.mul_one]
    omega
theorem cnt_vsU (vs : List Val) : cntR fdValueS (vsU vs) ≤ 4 + 3 * vs.length := by
  have : sumU (cntR fdValue) (vs.map valU) ≤ 3 * (vs.map valU).length := by
    induction vs with
    | nil => simp [sumU]
    | cons p ls ih =>
      have e : cntR fdValue (valU p) = 3 := rfl
      simp only [List.map_cons, sumU, e, List.length_cons]
      omega
  rw [List.length_map] at this
  simp only [vsU, fdValueS, cntR, cntF]
  omega
/-- What a size says of rows. -/
theorem rows_lim {rs : List Row} (L : LenF 1048576 1048576 (.sub fdValueS) (.sub (rs.map rowU))) : Fine rs ∧ Short rs ∧ (∀ r ∈ rs, r.vs.length ≤ 1048576) ∧ rs.length ≤ 1048576 := by
  simp only [LenF, List.length_map] at L
  have key : ∀ r ∈ rs, r.vs.length ≤ 1048576 ∧ AllU (LenR 1048576 1048576 fdValue) (r.vs.map valU) := by
    intro r hr
    obtain ⟨i, hi⟩ := List.getElem?_of_mem hr
    have := AllU_at L.2 (map_at rowU hi)
    simp only [fdValueS, rowU, vsU, LenR, LenF, List.length_map, and_true] at this
    exact this
  refine ⟨⟨by omega, fun r hr => by have := (key r hr).1; omega⟩, fun r hr => ⟨by have := (key r hr).1; omega, fun v hv => ?_⟩, fun r hr => (key r hr).1, L.1⟩
  obtain ⟨i, hi⟩ := List.getElem?_of_mem hv
  have := AllU_at (key r hr).2 (map_at valU hi)
  simp only [fdValue, valU, LenR, LenF, true_and, and_true] at this
  omega
theorem rows_res {rs : List Row} (L : LenF 1048576 1048576 (.sub fdValueS) (.sub (rs.map rowU))) {l2 : List Row} (hn : l2.length ≤ rs.length) (hs : ∀ x ∈ l2, x ∈ rs) : LenF big big (.sub fdValueS) (.sub (l2.map rowU)) ∧ (cntF (.sub fdValueS) (.sub (l2.map rowU)) : Int) ≤ 2305843009213693952 := by
  obtain ⟨-, -, k1, k2⟩ := rows_lim L
  have L2 : LenF 1048576 1048576 (.sub fdValueS) (.sub (l2.map rowU)) := by
    simp only [LenF, List.length_map] at L ⊢
    exact ⟨by omega, AllU_sub L.2 hs⟩
  refine ⟨LenF_mono (by decide) (by decide) _ L2, ?_⟩
  have : AllU (fun x => cntR fdValueS x ≤ 4194304) (l2.map rowU) := by
    have : ∀ l : List Row, (∀ x ∈ l, x ∈ rs) → AllU (fun x => cntR fdValueS x ≤ 4194304) (l.map rowU) := by
      intro l
      induction l with
      | nil => intro _; trivial
      | cons r l ih =>
        intro h
        refine ⟨?_, ih (fun x hx => h x (List.mem_cons_of_mem _ hx))⟩
        have := k1 r (h r List.mem_cons_self)
        have := cnt_vsU r.vs
        unfold rowU
        omega
    exact this l2 hs
  have := sum_leP (fun x h => h) this
  rw [List.length_map] at this
  simp only [cntF]
  omega
theorem rows_each {rs : List Row} {q : V} (k : PurF (.sub fdValueS) q (.sub (rs.map rowU))) : ∃ (c : Bool) (rs2 : List Row), q = .sl c 1 (rs2.map Row.cells) ∧ rs2.map rowU = rs.map rowU := by
  obtain ⟨c, _, rfl, y0⟩ := purS_ValueS k
  obtain ⟨rs', rfl, e0⟩ := rowsU_of y0
  exact ⟨c, rs', rfl, e0.symm⟩
theorem vss_of {a b : List Row} (h : a.map rowU = b.map rowU) : a.map Row.vs = b.map Row.vs := by
  have : (a.map Row.vs).map vsU = (b.map Row.vs).map vsU := by rw [List.map_map, List.map_map]; exact h
  exact map_inj (fun _ _ => vsU_inj) this
theorem all_vs {P : List Val → Bool} : ∀ {a b : List Row}, a.map Row.vs = b.map Row.vs → (a.all fun r => P r.vs) = (b.all fun r => P r.vs)
  | [], [], _ => rfl
  | x :: a, y :: b, h => by
    simp only [List.map_cons, List.cons.injEq] at h
    rw [List.all_cons, List.all_cons, h.1, all_vs h.2]
  | [], _ :: _, h => by simp at h
  | _ :: _, [], h => by simp at h
theorem rowsOk_vs {cs : List Col} {a b : List Row} (h : a.map Row.vs = b.map Row.vs) : rowsOk cs a = rowsOk cs b := by
  unfold rowsOk rowsFit
  rw [all_vs h]
theorem cols_each {cs : List Col} {q : V} (k : PurF (.sub fdColumn) q (.sub (cs.map colU))) : ∃ c, q = .sl c 2 (cs.map Col.cells) := by
  obtain ⟨c, _, rfl, y0⟩ := purS_Column k
  obtain ⟨cs', rfl, e0⟩ := colsU_of y0
  obtain rfl := map_inj (fun _ _ => colU_inj) e0
  exact ⟨c, rfl⟩
theorem lim_of {a b : List Row} (e : a.map rowU = b.map rowU) (L : LenF 1048576 1048576 (.sub fdValueS) (.sub (b.map rowU))) : Fine a ∧ Short a := by
  rw [← e] at L
  obtain ⟨h1, h2, _⟩ := rows_lim L
  exact ⟨h1, h2⟩
end Go.Proofs.Yteaojpfofifmnaa.PE
/- Copies of rows, and whether lists of rows are the same. -/
set_option linter.unusedSimpArgs false
set_option linter.unusedVariables false
set_option maxHeartbeats 4000000
namespace Go.Proofs.Yteaojpfofifmnaa.PE
open Go.RowKit

theorem clipkVal (d : Nat) (l : List (List V)) (n : Nat) (hn : n = l.length) : callX (runD tab noExt (d + 1)) [.rows 0 3 l] 2 123 [.ref 0 0 0 n false] = some (.ref 0 0 0 n true, [.rows 0 3 l]) := by
  subst hn
  simp only [callX, callK]
  rw [runD_eq find123 _ _ _ (by simp)]
  simp -implicitDefEqProofs (disch := omega) only [go_sem, Nat.reduceBEq, Nat.reduceAdd, Nat.reduceSub, Nat.reduceMul, Nat.reduceLeDiff, Nat.reduceEqDiff, Nat.reduceLT, Int.reduceNeg, Int.reduceAdd, Int.reduceSub, Int.reduceMul, Int.reduceLE, Int.reduceLT, Int.reduceEq, Int.reduceToNat, reduceCtorEq, List.take_length, Bool.true_or, resOk]
theorem runcVal (d : Nat) (c : Bool) (l : List (List V)) (h0 : 0 < l.length) (hl : l.length < 4294967296) : runD tab noExt (d + 2) 81 [.sl c 3 l] [] = some ([.ref 0 0 0 l.length true], [.rows 0 3 l]) := by
  rw [runD_eq find81 _ _ _ (by simp)]
  match l, h0, hl with
  | [], h0, _ => exact absurd h0 (by decide)
  | x :: r, _, hl =>
    have h0 : ((r.length : Int) + 1 = 0) = False := eq_false (by omega)
    have h1 : r.length + 1 < 4294967296 := by simpa using hl
    have hc := clipkVal d (x :: r) (r.length + 1) (by simp)
    simp -implicitDefEqProofs (disch := omega) only [go_sem, Nat.reduceBEq, Nat.reduceAdd, Nat.reduceSub, Nat.reduceMul, Nat.reduceLeDiff, Nat.reduceEqDiff, Nat.reduceLT, Int.reduceNeg, Int.reduceAdd, Int.reduceSub, Int.reduceMul, Int.reduceLE, Int.reduceLT, Int.reduceEq, Int.reduceToNat, reduceCtorEq, List.length_cons, h0, h1, hc]
theorem runnVal (d : Nat) (c : Bool) : runD tab noExt (d + 2) 81 [.sl c 3 []] [] = some ([.sl true 3 []], []) := by
  rw [runD_eq find81 _ _ _ (by simp)]
  simp -implicitDefEqProofs (disch := omega) only [go_sem, Nat.reduceBEq, Nat.reduceAdd, Nat.reduceSub, Nat.reduceMul, Nat.reduceLeDiff, Nat.reduceEqDiff, Nat.reduceLT, Int.reduceNeg, Int.reduceAdd, Int.reduceSub, Int.reduceMul, Int.reduceLE, Int.reduceLT, Int.reduceEq, Int.reduceToNat, reduceCtorEq]
theorem cloneVal (d : Nat) (c : Bool) (l : List (List V)) (hl : l.length < 4294967296) : retP (runD tab noExt (d + 2)) 81 [.sl c 3 l] = some [.sl true 3 l] := by
  match l, hl with
  | [], _ => rw [retP, runnVal]; rfl
  | x :: r, hl =>
    rw [retP, runcVal d c (x :: r) (by simp) hl]
    simp -implicitDefEqProofs only [go_sem, Nat.reduceBEq, Nat.reduceAdd, Nat.reduceSub, Nat.reduceMul, Nat.reduceLeDiff, Nat.reduceEqDiff, Nat.reduceLT, Int.reduceNeg, Int.reduceAdd, Int.reduceSub, Int.reduceMul, Int.reduceLE, Int.reduceLT, Int.reduceEq, Int.reduceToNat, reduceCtorEq, List.take_length]
theorem clonexVal (d : Nat) (h : Heap) (c : Bool) (l : List (List V)) (h0 : 0 < l.length) (hl : l.length < 4294967296) (hf : l.all (fun x => x.all freshC) = true) : callX (runD tab noExt (d + 2)) h 0 81 [.sl c 3 l] = some (.ref h.length 0 0 l.length true, h ++ [.rows 0 3 l]) := by
  simp only [callX, callO, pureDAs, mapO, pureDA, pureD, deepest, runcVal d c l h0 hl, BackO, List.all_cons, List.all_nil, scalarA, scalar, freshA, freshC, Bool.false_eq_true, Bool.false_and, Bool.and_self, if_false, if_true, List.map_cons, List.map_nil, oneOf, shA, shC, Nat.zero_add, movedH, clean, hf, shB]
theorem clonenVal (d : Nat) (h : Heap) (c : Bool) : callX (runD tab noExt (d + 2)) h 0 81 [.sl c 3 []] = some (.sl true 3 [], h) := by
  simp only [callX, callO, pureDAs, mapO, pureDA, pureD, deepest, runnVal d c, BackO, List.all_cons, List.all_nil, scalarA, scalar, freshA, freshC, isNil, Bool.false_eq_true, Bool.false_and, Bool.and_self, if_false, if_true, List.map_cons, List.map_nil, oneOf, shA, shC, movedH, List.append_nil]

/-- A row of one's own. -/
def Row.own (b : Bool) (r : Row) : Row := ⟨b, r.vs⟩
def own (b : Bool) (rs : List Row) : List Row := rs.map (Row.own b)
theorem foldl_snoc {α β : Type} (g : α → β) : ∀ (l : List α) (b : List β), l.foldl (fun b x => b ++ [g x]) b = b ++ l.map g
  | [], b => by simp
  | x :: r, b => by simp [foldl_snoc g r]
theorem lt_small {n m : Nat} {i : Nat} (h1 : n ≤ i) (h2 : (i : Int) < m) (h3 : m < 4294967296) : n + 1 < 4294967296 := by omega
end Go.Proofs.Yteaojpfofifmnaa.PE
/- Rows of rows that grow, element by element, each of memory of its own. -/
set_option linter.unusedVariables false
set_option linter.unusedSimpArgs false
namespace Go.Proofs.Yteaojpfofifmnaa.PE
open Go.RowKit

/-- What has been gathered up to now. -/
def Grown (fs : List Fd) (id : Nat) (h : Heap) (done : List (List V)) (xs : List (List U)) : Prop :=
  h[id]? = some (blkOf fs done.length done) ∧ ∃ ids, Zip3 (OwnR h fs) done xs ids ∧ (id :: ids).Nodup
theorem Grown.nest {fs : List Fd} {id : Nat} {h : Heap} {done : List (List V)} {xs : List (List U)} (g : Grown fs id h done xs) (hd : fs.any Fd.deep = true) : h[id]? = some (.nest done.length fs.length done) := by
  have := g.1
  unfold blkOf at this
  rw [hd] at this
  exact this
theorem Grown.len {fs : List Fd} {id : Nat} {h : Heap} {done : List (List V)} {xs : List (List U)} (g : Grown fs id h done xs) : done.length = xs.length := by
  obtain ⟨_, ids, z, _⟩ := g
  exact Zip3_len z
theorem Grown.lt {fs : List Fd} {id : Nat} {h : Heap} {done : List (List V)} {xs : List (List U)} (g : Grown fs id h done xs) : id < h.length := (List.getElem?_eq_some_iff.1 g.1).1
theorem Grown.start {fs : List Fd} {id : Nat} {h : Heap} (hb : h[id]? = some (blkOf fs 0 [])) : Grown fs id h [] [] := ⟨hb, [], rfl, by simp⟩
theorem Grown.frame {fs : List Fd} {id : Nat} {h h1 : Heap} {done : List (List V)} {xs : List (List U)} (g : Grown fs id h done xs) (keep : ∀ j, j < h.length → h1[j]? = h[j]?) : Grown fs id h1 done xs := by
  obtain ⟨g1, ids, z, nd⟩ := g
  refine ⟨(keep id (List.getElem?_eq_some_iff.1 g1).1).trans g1, ids, ?_, nd⟩
  exact Zip3_mono (P := fun _ => True) (fun c x i hr _ => OwnR_frame _ hr (fun j hj => keep j (OwnR_lt _ hr j hj))) z (fun _ _ => trivial)
theorem Grown.add {fs : List Fd} {id : Nat} {h h1 h2 : Heap} {done : List (List V)} {xs : List (List U)} {cells : List V} {x : List U} {js : List Nat} (g : Grown fs id h done xs) (own : OwnR h1 fs cells x js) (nd : js.Nodup)
    (fresh : ∀ j ∈ js, h.length ≤ j) (keep : ∀ j, j < h.length → h1[j]? = h[j]?) (e2 : h2 = h1.set id (blkOf fs (done.length + 1) (done ++ [cells]))) : Grown fs id h2 (done ++ [cells]) (xs ++ [x]) := by
  subst e2
  have hlt := g.lt
  obtain ⟨g1, ids, z, nd1⟩ := g
  have hl1 : id < h1.length := by
    have := keep id hlt
    rw [List.getElem?_eq_getElem hlt] at this
    exact (List.getElem?_eq_some_iff.1 this).1
  obtain ⟨n1, n2⟩ := List.nodup_cons.1 nd1
  have hids : ∀ j ∈ ids, j < h.length := Zip3_all (fun c x i hr => OwnR_lt fs hr) z
  refine ⟨by rw [List.getElem?_set_self hl1, List.length_append]; rfl, ids ++ js, Zip3_app (Zip3_mono (P := fun j => j ∈ ids) (fun c x i hr hp => OwnR_frame fs hr (fun j hj => ?_)) z (fun _ hm => hm)) (Zip3_one (OwnR_frame fs own (fun j hj => ?_))), ?_⟩
  · have hne : id ≠ j := fun e => n1 (e ▸ hp j hj)
    rw [List.getElem?_set_ne hne]
    exact keep j (hids j (hp j hj))
  · have hne : id ≠ j := fun e => by have := fresh j hj; omega
    rw [List.getElem?_set_ne hne]
  · refine List.nodup_cons.2 ⟨fun hm => ?_, List.nodup_append.2 ⟨n2, nd, fun p hp q hq => ?_⟩⟩
    · rcases List.mem_append.1 hm with hm | hm
      · exact n1 hm
      · have := fresh id hm; omega
    · have := hids p hp
      have := fresh q hq
      omega
theorem Grown.set {fs : List Fd} {id : Nat} {h h1 : Heap} {done : List (List V)} {xs : List (List U)} {k : Nat} {b : Blk} (g : Grown fs id h done xs) (hk : h.length ≤ k) : Grown fs id (h.set k b) done xs := by
  rw [List.set_eq_of_length_le hk]
  exact g
theorem Grown.own {fs : List Fd} {id : Nat} {h : Heap} {done : List (List V)} {xs : List (List U)} {n : Nat} {clip : Bool} (g : Grown fs id h done xs) (hn : n = done.length) : ∃ ids, OwnF h (.sub fs) (.ref id n 0 n clip) (.sub xs) ids ∧ ids.Nodup := by
  subst hn
  obtain ⟨g1, ids, z, nd⟩ := g
  refine ⟨id :: ids, ?_, nd⟩
  simp only [OwnF]
  exact ⟨xs, rfl, .inr ⟨id, done.length, clip, done, ids, rfl, g1, rfl, z⟩⟩
end Go.Proofs.Yteaojpfofifmnaa.PE
/- Copies of rows as memory of one's own. -/
set_option linter.unusedVariables false
set_option linter.unusedSimpArgs false
set_option maxHeartbeats 4000000
namespace Go.Proofs.Yteaojpfofifmnaa.PE
open Go.RowKit

theorem val_own (h : Heap) (v : Val) : OwnR h fdValue v.cells (valU v) [] := ownR_mk_Value h v.kind v.n v.s
theorem own_cloneVal (d : Nat) (c : Bool) (vs : List Val) (hl : vs.length < 4294967296) : ∃ v hc ids, runD tab noExt (d + 2) 81 [.sl c 3 (vs.map Val.cells)] [] = some ([v], hc) ∧ OwnF hc (.sub fdValue) v (.sub (vs.map valU)) ids ∧ ids.Nodup := by
  match vs, hl with
  | [], _ => exact ⟨_, _, [], runnVal d c, own_nil rfl, List.nodup_nil⟩
  | x :: r, hl => exact ⟨_, _, [0], runcVal d c ((x :: r).map Val.cells) (by simp) (by simpa using hl), own_row rfl (x :: r) (by simp) rfl (val_own _), by simp⟩
end Go.Proofs.Yteaojpfofifmnaa.PE
/- Sizes of trees of values, rows, columns. -/
set_option linter.unusedVariables false
set_option linter.unusedSimpArgs false
namespace Go.Proofs.Yteaojpfofifmnaa.PE
open Go.RowKit

theorem sum_all {c : List U → Nat} {n : Nat} : ∀ {xs : List (List U)}, (∀ x ∈ xs, c x ≤ n) → sumU c xs ≤ n * xs.length
  | [], _ => by simp [sumU]
  | x :: xs, h => by
    have := sum_all (fun y hy => h y (List.mem_cons_of_mem _ hy)) (xs := xs)
    have := h x List.mem_cons_self
    simp only [sumU, List.length_cons, Nat.mul_add, Nat.mul_one]
    omega
theorem all_of {P : List U → Prop} : ∀ {xs : List (List U)}, (∀ x ∈ xs, P x) → AllU P xs
  | [], _ => trivial
  | x :: xs, h => ⟨h x List.mem_cons_self, all_of (fun y hy => h y (List.mem_cons_of_mem _ hy))⟩
theorem vals_len {n m : Nat} {vs : List Val} (h1 : vs.length ≤ n) (h2 : ∀ v ∈ vs, v.s.size ≤ m) : LenF n m (.sub fdValue) (.sub (vs.map valU)) := by
  simp only [LenF, List.length_map]
  refine ⟨h1, all_of (fun x hx => ?_)⟩
  obtain ⟨v, hv, rfl⟩ := List.mem_map.1 hx
  simp only [fdValue, valU, LenR, LenF, true_and, and_true]
  exact h2 v hv
theorem vals_cnt (vs : List Val) : cntF (.sub fdValue) (.sub (vs.map valU)) = 3 * vs.length := by
  simp only [cntF]
  induction vs with
  | nil => rfl
  | cons v vs ih =>
    have e : cntR fdValue (valU v) = 3 := rfl
    simp only [List.map_cons, sumU, e, ih, List.length_cons]
    omega
theorem rows_big {rs : List Row} (h1 : rs.length ≤ 1048576) (h2 : ∀ r ∈ rs, r.vs.length ≤ 1048576 ∧ ∀ w ∈ r.vs, w.s.size ≤ 1048576) : LenF big big (.sub fdValueS) (.sub (rs.map rowU)) := by
  simp only [LenF, List.length_map]
  refine ⟨by unfold big; omega, all_of (fun x hx => ?_)⟩
  obtain ⟨r, hr, rfl⟩ := List.mem_map.1 hx
  have := LenF_mono (n' := big) (m' := big) (by decide) (by decide) _ (vals_len (h2 r hr).1 (h2 r hr).2)
  simp only [fdValueS, rowU, vsU, LenR]
  exact ⟨this, trivial⟩
theorem rows_cnt {rs : List Row} {n : Nat} (h1 : rs.length ≤ n) (h2 : ∀ r ∈ rs, r.vs.length ≤ 1048576) : cntF (.sub fdValueS) (.sub (rs.map rowU)) ≤ 4000000 * n := by
  have := sum_all (c := cntR fdValueS) (n := 4000000) (xs := rs.map rowU) (fun x hx => by
    obtain ⟨r, hr, rfl⟩ := List.mem_map.1 hx
    have e : cntR fdValueS (rowU r) = cntF (.sub fdValue) (.sub (r.vs.map valU)) := by simp only [fdValueS, rowU, vsU, cntR]; omega
    have := h2 r hr
    rw [e, vals_cnt]
    omega)
  rw [List.length_map] at this
  simp only [cntF]
  have := Nat.mul_le_mul_left 4000000 h1
  omega
theorem cols_cnt (cs : List Col) : cntF (.sub fdColumn) (.sub (cs.map colU)) = 2 * cs.length := by
  simp only [cntF]
  induction cs with
  | nil => rfl
  | cons v vs ih =>
    have e : cntR fdColumn (colU v) = 2 := rfl
    simp only [List.map_cons, sumU, e, ih, List.length_cons]
    omega
end Go.Proofs.Yteaojpfofifmnaa.PE
/- Whether two lists of values are the same. -/
set_option linter.unusedVariables false
set_option linter.unusedSimpArgs false
set_option maxHeartbeats 4000000
namespace Go.Proofs.Yteaojpfofifmnaa.PE
open Go.RowKit

end Go.Proofs.Yteaojpfofifmnaa.PE
/- Copies of writes and logs: the program's, as memory of one's own; the reference's. -/
set_option linter.unusedSimpArgs false
set_option linter.unusedVariables false
set_option maxHeartbeats 4000000
namespace Go.Proofs.Yteaojpfofifmnaa.PE
open Go.RowKit

def wrU (w : Wr) : List U := [.int w.key, .sub (w.row.vs.map valU), .bool w.gone]
def entU (e : Ent) : List U := [.int e.time, .sub (e.ws.map wrU)]
def FineW (ws : List Wr) : Prop := ws.length < 1099511627776 ∧ ws.length < 4294967296 ∧ ∀ w ∈ ws, w.row.vs.length < 4294967296
theorem grow_write {h : Heap} {done : List (List V)} {xs : List (List U)} (g : Grown fdWrite 0 h done xs) (d : Nat) (key : Int) (rc : Bool) (vs : List Val) (gone : Bool) (hl : vs.length < 4294967296) :
    ∃ v h1, callX (runD tab noExt (d + 2)) (h ++ [.box [.int .i64 key, .sl rc 3 (vs.map Val.cells), .bool gone]]) 0 81 [.sl rc 3 (vs.map Val.cells)] = some (v, h1) ∧ h1[h.length]? = some (.box [.int .i64 key, .sl rc 3 (vs.map Val.cells), .bool gone]) ∧ h.length < h1.length ∧ ((∃ c, v = .sl c 3 []) ∨ ∃ id st n clip, v = .ref id st 0 n clip) ∧
      (h1.set h.length (.box [.int .i64 key, v, .bool gone]))[0]? = some (.nest done.length 3 done) ∧
      Grown fdWrite 0 ((h1.set h.length (.box [.int .i64 key, v, .bool gone])).set 0 (.nest (done.length + 1) 3 (done ++ [[.int .i64 key, v, .bool gone]]))) (done ++ [[.int .i64 key, v, .bool gone]]) (xs ++ [[.int key, .sub (vs.map valU), .bool gone]]) := by
  obtain ⟨v, hc, is0, e1, e2, e3⟩ := own_cloneVal d rc vs hl
  obtain ⟨w, h1, js, k1, k2, k3, k4, k5, k6⟩ := own_call (h := h ++ [.box [.int .i64 key, .sl rc 3 (vs.map Val.cells), .bool gone]]) (args := [.sl rc 3 (vs.map Val.cells)]) (by simp only [pureDAs, mapO, pureDA, pureD]) e1 e2 e3
  have hl0 : (h ++ [Blk.box [.int .i64 key, .sl rc 3 (vs.map Val.cells), .bool gone]]).length = h.length + 1 := by simp
  rw [hl0] at k4 k5 k6
  have hb : h1[h.length]? = some (.box [.int .i64 key, .sl rc 3 (vs.map Val.cells), .bool gone]) := (k5 _ (by omega)).trans (by simp)
  have hlt := g.lt
  have k5' : ∀ j, j < h.length → (h1.set h.length (.box [.int .i64 key, w, .bool gone]))[j]? = h[j]? := fun j hj => by
    rw [List.getElem?_set_ne (by omega), k5 j (by omega), List.getElem?_append_left hj]
  refine ⟨w, h1, k1, hb, by omega, own_cases k2, (k5' 0 hlt).trans (g.nest (by rfl)), ?_⟩
  refine g.add (OwnR_frame _ (ownR_mk_Write k2) (fun j hj => ?_)) k3 (fun j hj => by have := k4 j hj; omega) k5' rfl
  have := k4 j hj
  rw [List.getElem?_set_ne (by omega)]
-- find77
theorem own_writesCopy (d : Nat) (c : Bool) (ws : List Wr) (hf : FineW ws) : ∃ v hc ids, runD tab noExt (d + 3) 77 [.sl c 3 (ws.map Wr.cells)] [] = some ([v], hc) ∧ OwnF hc (.sub fdWrite) v (.sub (ws.map wrU)) ids ∧ ids.Nodup := by
  obtain ⟨hf0, hf1, hf2⟩ := hf
  obtain ⟨⟨h', done⟩, ⟨g1, g2⟩, e⟩ := LoopK_inv (run := runD tab noExt (d + 2)) (draw := drawI (runD tab noExt (d + 2))) (live := [3, 6, 7, 8]) (out := [3]) (c := L77x0) ws.length
    (fun i (b : Heap × List (List V)) => Grown fdWrite 0 b.1 b.2 ((ws.take i).map wrU) ∧ b.2.length = i)
    (fun i b => [(3, .ref 0 b.2.length 0 b.2.length false), (6, .sl c 3 (ws.map Wr.cells)), (7, .int .i64 ws.length), (8, .int .i64 (i : Nat))]) (fun b => b.1) (fun b => some (.exit 0, [(3, .ref 0 b.2.length 0 b.2.length false)], b.1))
    (fun b K hb => by
      rw [LoopK_eq]
      simp -implicitDefEqProofs only [go_sem, Nat.reduceBEq, Nat.reduceAdd, Nat.reduceSub, Nat.reduceMul, Nat.reduceLeDiff, Nat.reduceEqDiff, Nat.reduceLT, Int.reduceNeg, Int.reduceAdd, Int.reduceSub, Int.reduceMul, Int.reduceLE, Int.reduceLT, Int.reduceEq, Int.reduceToNat, reduceCtorEq, evL77x0, B77x0, Int.lt_irrefl]) (fun i b K hi hb => by
      obtain ⟨h, done⟩ := b
      obtain ⟨g, glen⟩ := hb
      simp only at g glen ⊢
      have hx := List.getElem?_eq_getElem hi
      generalize ws[i] = w at hx
      have hfw := hf2 w (List.mem_of_getElem? hx)
      have hi' : (i : Int) < ws.length := by omega
      have hsm : done.length + 1 < 4294967296 := by omega
      rw [take_snoc hx, List.map_append]
      obtain ⟨key, ⟨rc, vs⟩, gone⟩ := w
      obtain ⟨v, h1, k1, k2, k3, kw, k5, g2⟩ := grow_write g d key rc vs gone hfw
      refine ⟨((h1.set h.length (.box [.int .i64 key, v, .bool gone])).set 0 (.nest (done.length + 1) 3 (done ++ [[.int .i64 key, v, .bool gone]])), done ++ [[.int .i64 key, v, .bool gone]]), ⟨g2, by simp; omega⟩, ?_⟩
      rw [LoopK_eq]
      rcases kw with ⟨c', rfl⟩ | ⟨id, st, n, clip, rfl⟩ <;> simp -implicitDefEqProofs (disch := omega) only [go_sem, Nat.reduceBEq, Nat.reduceAdd, Nat.reduceSub, Nat.reduceMul, Nat.reduceLeDiff, Nat.reduceEqDiff, Nat.reduceLT, Int.reduceNeg, Int.reduceAdd, Int.reduceSub, Int.reduceMul, Int.reduceLE, Int.reduceLT, Int.reduceEq, Int.reduceToNat, reduceCtorEq, evL77x0, B77x0, hi', hx, Wr.cells, Row.v, k1, k2, k3, k5, hsm, List.getElem?_set_self, at_end, at_end_add, set_end, set_end_add, elemsN, elemN, listN, appendN, okN, small, IntWalk.i64_in]) 1099511627775 (by omega) ([.nest 0 3 []], []) ⟨Grown.start rfl, rfl⟩
  simp only at g1 g2 e
  rw [List.take_of_length_le (Nat.le_refl _)] at g1
  obtain ⟨ids, o1, o2⟩ := g1.own (n := done.length) (clip := true) rfl
  refine ⟨_, h', ids, ?_, o1, o2⟩
  have hn := g1.nest (by rfl)
  have hc : callX (runD tab noExt (d + 2)) h' 2 121 [.ref 0 done.length 0 done.length false] = some (.ref 0 done.length 0 done.length true, h') := by
    simp only [callX, callK]
    rw [runD_eq find121 _ _ _ (by simp)]
    have hn' : h'[0]? = some (.nest done.length 3 done) := hn
    simp -implicitDefEqProofs (disch := omega) only [go_sem, Nat.reduceBEq, Nat.reduceAdd, Nat.reduceSub, Nat.reduceMul, Nat.reduceLeDiff, Nat.reduceEqDiff, Nat.reduceLT, Int.reduceNeg, Int.reduceAdd, Int.reduceSub, Int.reduceMul, Int.reduceLE, Int.reduceLT, Int.reduceEq, Int.reduceToNat, reduceCtorEq, Bool.true_or, resOk, hn']
  rw [runD_eq find77 _ _ _ (by simp)]
  simp -implicitDefEqProofs (disch := omega) only [go_sem, Nat.reduceBEq, Nat.reduceAdd, Nat.reduceSub, Nat.reduceMul, Nat.reduceLeDiff, Nat.reduceEqDiff, Nat.reduceLT, Int.reduceNeg, Int.reduceAdd, Int.reduceSub, Int.reduceMul, Int.reduceLE, Int.reduceLT, Int.reduceEq, Int.reduceToNat, reduceCtorEq]
  try simp -implicitDefEqProofs only [go_sem, Nat.reduceBEq, Nat.reduceAdd, Nat.reduceSub, Nat.reduceMul, Nat.reduceLeDiff, Nat.reduceEqDiff, Nat.reduceLT, Int.reduceNeg, Int.reduceAdd, Int.reduceSub, Int.reduceMul, Int.reduceLE, Int.reduceLT, Int.reduceEq, Int.reduceToNat, reduceCtorEq] at e
  rw [e]
  simp -implicitDefEqProofs (disch := omega) only [go_sem, Nat.reduceBEq, Nat.reduceAdd, Nat.reduceSub, Nat.reduceMul, Nat.reduceLeDiff, Nat.reduceEqDiff, Nat.reduceLT, Int.reduceNeg, Int.reduceAdd, Int.reduceSub, Int.reduceMul, Int.reduceLE, Int.reduceLT, Int.reduceEq, Int.reduceToNat, reduceCtorEq, hc]
end Go.Proofs.Yteaojpfofifmnaa.PE
/- Copies of logs: the program's, as memory of one's own; the reference's. -/
set_option linter.unusedSimpArgs false
set_option linter.unusedVariables false
set_option maxHeartbeats 4000000
namespace Go.Proofs.Yteaojpfofifmnaa.PE
open Go.RowKit

def FineE (l : List Ent) : Prop := l.length < 4294967296 ∧ ∀ e ∈ l, FineW e.ws
theorem grow_ent {h : Heap} {done : List (List V)} {xs : List (List U)} (g : Grown fdEntry 0 h done xs) (d : Nat) (time : Int) (wc : Bool) (ws : List Wr) (hl : FineW ws) :
    ∃ v h1, callX (runD tab noExt (d + 3)) (h ++ [.box [.int .i64 time, .sl wc 3 (ws.map Wr.cells)]]) 0 77 [.sl wc 3 (ws.map Wr.cells)] = some (v, h1) ∧ h1[h.length]? = some (.box [.int .i64 time, .sl wc 3 (ws.map Wr.cells)]) ∧ h.length < h1.length ∧ ((∃ c, v = .sl c 3 []) ∨ ∃ id st n clip, v = .ref id st 0 n clip) ∧
      h1[0]? = some (.nest done.length 2 done) ∧
      Grown fdEntry 0 (h1.set 0 (.nest (done.length + 1) 2 (done ++ [[.int .i64 time, v]]))) (done ++ [[.int .i64 time, v]]) (xs ++ [[.int time, .sub (ws.map wrU)]]) := by
  obtain ⟨v, hc, is0, e1, e2, e3⟩ := own_writesCopy d wc ws hl
  obtain ⟨w, h1, js, k1, k2, k3, k4, k5, k6⟩ := own_call (h := h ++ [.box [.int .i64 time, .sl wc 3 (ws.map Wr.cells)]]) (args := [.sl wc 3 (ws.map Wr.cells)]) (by simp only [pureDAs, mapO, pureDA, pureD]) e1 e2 e3
  have hl0 : (h ++ [Blk.box [.int .i64 time, .sl wc 3 (ws.map Wr.cells)]]).length = h.length + 1 := by simp
  rw [hl0] at k4 k5 k6
  have hb : h1[h.length]? = some (.box [.int .i64 time, .sl wc 3 (ws.map Wr.cells)]) := (k5 _ (by omega)).trans (by simp)
  have hlt := g.lt
  have k5' : ∀ j, j < h.length → h1[j]? = h[j]? := fun j hj => by
    rw [k5 j (by omega), List.getElem?_append_left hj]
  refine ⟨w, h1, k1, hb, by omega, own_cases k2, (k5' 0 hlt).trans (g.nest (by rfl)), ?_⟩
  exact g.add (ownR_mk_Entry k2) k3 (fun j hj => by have := k4 j hj; omega) k5' rfl
-- find88
theorem own_logCopy (d : Nat) (c : Bool) (l : List Ent) (hf : FineE l) : ∃ v hc ids, runD tab noExt (d + 4) 88 [.sl c 2 (l.map Ent.cells)] [] = some ([v], hc) ∧ OwnF hc (.sub fdEntry) v (.sub (l.map entU)) ids ∧ ids.Nodup := by
  obtain ⟨hf1, hf2⟩ := hf
  obtain ⟨⟨h', done⟩, ⟨g1, g2⟩, e⟩ := LoopK_inv (run := runD tab noExt (d + 3)) (draw := drawI (runD tab noExt (d + 3))) (live := [3, 6, 7, 8]) (out := [3]) (c := L88x0) l.length
    (fun i (b : Heap × List (List V)) => Grown fdEntry 0 b.1 b.2 ((l.take i).map entU) ∧ b.2.length = i)
    (fun i b => [(3, .ref 0 b.2.length 0 b.2.length false), (6, .sl c 2 (l.map Ent.cells)), (7, .int .i64 l.length), (8, .int .i64 (i : Nat))]) (fun b => b.1) (fun b => some (.exit 0, [(3, .ref 0 b.2.length 0 b.2.length false)], b.1))
    (fun b K hb => by
      rw [LoopK_eq]
      simp -implicitDefEqProofs only [go_sem, Nat.reduceBEq, Nat.reduceAdd, Nat.reduceSub, Nat.reduceMul, Nat.reduceLeDiff, Nat.reduceEqDiff, Nat.reduceLT, Int.reduceNeg, Int.reduceAdd, Int.reduceSub, Int.reduceMul, Int.reduceLE, Int.reduceLT, Int.reduceEq, Int.reduceToNat, reduceCtorEq, evL88x0, B88x0, Int.lt_irrefl]) (fun i b K hi hb => by
      obtain ⟨h, done⟩ := b
      obtain ⟨g, glen⟩ := hb
      simp only at g glen ⊢
      have hx := List.getElem?_eq_getElem hi
      generalize l[i] = w at hx
      have hfw := hf2 w (List.mem_of_getElem? hx)
      have hi' : (i : Int) < l.length := by omega
      have hsm : done.length + 1 < 4294967296 := by omega
      rw [take_snoc hx, List.map_append]
      obtain ⟨time, wc, ws⟩ := w
      obtain ⟨v, h1, k1, k2, k3, kw, k5, g2⟩ := grow_ent g d time wc ws hfw
      refine ⟨(h1.set 0 (.nest (done.length + 1) 2 (done ++ [[.int .i64 time, v]])), done ++ [[.int .i64 time, v]]), ⟨g2, by simp; omega⟩, ?_⟩
      rw [LoopK_eq]
      rcases kw with ⟨c', rfl⟩ | ⟨id, st, n, clip, rfl⟩ <;> simp -implicitDefEqProofs (disch := omega) only [go_sem, Nat.reduceBEq, Nat.reduceAdd, Nat.reduceSub, Nat.reduceMul, Nat.reduceLeDiff, Nat.reduceEqDiff, Nat.reduceLT, Int.reduceNeg, Int.reduceAdd, Int.reduceSub, Int.reduceMul, Int.reduceLE, Int.reduceLT, Int.reduceEq, Int.reduceToNat, reduceCtorEq, evL88x0, B88x0, evC_draw, evD88x0, E88x0, hi', hx, Ent.cells, Ent.v, k1, k2, k3, k5, hsm, List.getElem?_set_self, at_end, at_end_add, set_end, set_end_add, elemsN, elemN, listN, appendN, okN, small, IntWalk.i64_in]) 1099511627775 (by omega) ([.nest 0 2 []], []) ⟨Grown.start rfl, rfl⟩
  simp only at g1 g2 e
  rw [List.take_of_length_le (Nat.le_refl _)] at g1
  obtain ⟨ids, o1, o2⟩ := g1.own (n := done.length) (clip := true) rfl
  refine ⟨_, h', ids, ?_, o1, o2⟩
  have hn' : h'[0]? = some (.nest done.length 2 done) := g1.nest (by rfl)
  have hc : callX (runD tab noExt (d + 3)) h' 2 79 [.ref 0 done.length 0 done.length false] = some (.ref 0 done.length 0 done.length true, h') := by
    simp only [callX, callK]
    rw [runD_eq find79 _ _ _ (by simp)]
    simp -implicitDefEqProofs (disch := omega) only [go_sem, Nat.reduceBEq, Nat.reduceAdd, Nat.reduceSub, Nat.reduceMul, Nat.reduceLeDiff, Nat.reduceEqDiff, Nat.reduceLT, Int.reduceNeg, Int.reduceAdd, Int.reduceSub, Int.reduceMul, Int.reduceLE, Int.reduceLT, Int.reduceEq, Int.reduceToNat, reduceCtorEq, Bool.true_or, resOk, hn']
  rw [runD_eq find88 _ _ _ (by simp)]
  simp -implicitDefEqProofs (disch := omega) only [go_sem, Nat.reduceBEq, Nat.reduceAdd, Nat.reduceSub, Nat.reduceMul, Nat.reduceLeDiff, Nat.reduceEqDiff, Nat.reduceLT, Int.reduceNeg, Int.reduceAdd, Int.reduceSub, Int.reduceMul, Int.reduceLE, Int.reduceLT, Int.reduceEq, Int.reduceToNat, reduceCtorEq]
  try simp -implicitDefEqProofs only [go_sem, Nat.reduceBEq, Nat.reduceAdd, Nat.reduceSub, Nat.reduceMul, Nat.reduceLeDiff, Nat.reduceEqDiff, Nat.reduceLT, Int.reduceNeg, Int.reduceAdd, Int.reduceSub, Int.reduceMul, Int.reduceLE, Int.reduceLT, Int.reduceEq, Int.reduceToNat, reduceCtorEq] at e
  rw [e]
  simp -implicitDefEqProofs (disch := omega) only [go_sem, Nat.reduceBEq, Nat.reduceAdd, Nat.reduceSub, Nat.reduceMul, Nat.reduceLeDiff, Nat.reduceEqDiff, Nat.reduceLT, Int.reduceNeg, Int.reduceAdd, Int.reduceSub, Int.reduceMul, Int.reduceLE, Int.reduceLT, Int.reduceEq, Int.reduceToNat, reduceCtorEq, hc]
def Wr.own (w : Wr) : Wr := ⟨w.key, ⟨false, w.row.vs⟩, w.gone⟩
def Ent.own (e : Ent) : Ent := ⟨e.time, false, e.ws.map Wr.own⟩
-- find152
theorem run_own4 (d : Nat) (c : Bool) (l : List (List V)) (hl : l.length < 4294967296) : retP (runD tab noExt (d + 1)) 152 [.sl c 3 l] = some [.sl false 3 l] := by
  rw [retP, runD_eq find152 _ _ _ (by simp)]
  have hl' : 0 + l.length < 4294967296 := by omega
  simp -implicitDefEqProofs (disch := omega) only [go_sem, Nat.reduceBEq, Nat.reduceAdd, Nat.reduceSub, Nat.reduceMul, Nat.reduceLeDiff, Nat.reduceEqDiff, Nat.reduceLT, Int.reduceNeg, Int.reduceAdd, Int.reduceSub, Int.reduceMul, Int.reduceLE, Int.reduceLT, Int.reduceEq, Int.reduceToNat, reduceCtorEq, List.take_length, hl, hl']
theorem loop_l14 (d : Nat) (c : Bool) (ws : List Wr) (hf : FineW ws) (K : Nat) (hK : (ws).length ≤ K) (b0 : List Wr) (hb0 : (fun (i : Nat) (b : List Wr) => b.length ≤ i) 0 b0) : LoopS (runD tab noExt (d + 1)) (drawI (runD tab noExt (d + 1))) [0, 3, 4] [3] L128x0 ([.rows 0 3 [], .rows (b0).length 3 ((b0).map Wr.cells)] : Heap).length K [(0, .sl c 3 (ws.map Wr.cells)), (3, .ref 1 (b0).length 0 (b0).length false), (4, .int .i64 (0 : Nat))] [.rows 0 3 [], .rows (b0).length 3 ((b0).map Wr.cells)] = (some (.exit 0, [(3, .ref 1 (((ws).foldl (fun b x => b ++ [Wr.own x]) b0)).length 0 (((ws).foldl (fun b x => b ++ [Wr.own x]) b0)).length false)], [.rows 0 3 [], .rows (((ws).foldl (fun b x => b ++ [Wr.own x]) b0)).length 3 ((((ws).foldl (fun b x => b ++ [Wr.own x]) b0)).map Wr.cells)]) : Out) ∧ (fun (i : Nat) (b : List Wr) => b.length ≤ i) (ws).length ((ws).foldl (fun b x => b ++ [Wr.own x]) b0) := by
  have key := LoopS_foldI (run := (runD tab noExt (d + 1))) (draw := drawI (runD tab noExt (d + 1))) (live := [0, 3, 4]) (out := [3]) (c := L128x0) (n0 := ([.rows 0 3 [], .rows (b0).length 3 ((b0).map Wr.cells)] : Heap).length) (ws) (fun b x => b ++ [Wr.own x]) (fun (i : Nat) (b : List Wr) => b.length ≤ i) (fun (i : Nat) (b : List Wr) => [(0, .sl c 3 (ws.map Wr.cells)), (3, .ref 1 (b).length 0 (b).length false), (4, .int .i64 (i : Nat))]) (fun (i : Nat) (b : List Wr) => [.rows 0 3 [], .rows (b).length 3 ((b).map Wr.cells)]) (fun b => (some (.exit 0, [(3, .ref 1 (b).length 0 (b).length false)], [.rows 0 3 [], .rows (b).length 3 ((b).map Wr.cells)]) : Out)) (fun b K hb => ?_) (fun (i : Nat) (x : Wr) b K hi hx hb => ?_) K hK b0 hb0
  · simp only [Int.natCast_zero] at key
    exact key
  · rw [LoopS_eq]
    simp -implicitDefEqProofs only [go_sem, Nat.reduceBEq, Nat.reduceAdd, Nat.reduceSub, Nat.reduceMul, Nat.reduceLeDiff, Nat.reduceEqDiff, Nat.reduceLT, Int.reduceNeg, Int.reduceAdd, Int.reduceSub, Int.reduceMul, Int.reduceLE, Int.reduceLT, Int.reduceEq, Int.reduceToNat, reduceCtorEq, evL128x0, B128x0, Int.lt_irrefl]
  · have hown := run_own4 d x.row.clip (x.row.vs.map Val.cells) (by have := hf.2.2 x (List.mem_of_getElem? hx); simpa using this); have hsm : b.length + 1 < 4294967296 := (by have := hf.2.1; omega); have hlen0 := hf.1
    all_goals
      refine ⟨?_, ?_⟩
      · (simp; omega)
      · rw [LoopS_eq]
        simp -implicitDefEqProofs (disch := first | omega | assumption) only [go_sem, Nat.reduceBEq, Nat.reduceAdd, Nat.reduceSub, Nat.reduceMul, Nat.reduceLeDiff, Nat.reduceEqDiff, Nat.reduceLT, Int.reduceNeg, Int.reduceAdd, Int.reduceSub, Int.reduceMul, Int.reduceLE, Int.reduceLT, Int.reduceEq, Int.reduceToNat, reduceCtorEq, evL128x0, B128x0, hi, hx, IntWalk.i64_in, List.map_append, List.foldl_cons, hx, hown, hsm, Wr.cells, Row.v, Wr.own, List.map_cons, List.map_nil]
        skip
-- find128
theorem run_l14 (d : Nat) (c : Bool) (ws : List Wr) (hf : FineW ws) : retP (runD tab noExt (d + 2)) 128 [.sl c 3 (ws.map Wr.cells)] = some [.sl false 3 ((ws.map Wr.own).map Wr.cells)] := by
  rw [retP, runD_eq find128 _ _ _ (by simp)]
  obtain ⟨hl, _⟩ := loop_l14 d c ws hf 1099511627775 (by have := hf.1; omega) [] (by simp)
  rw [foldl_snoc, List.nil_append] at hl
  simp only [List.length_nil, List.map_nil, Int.natCast_zero] at hl
  simp -implicitDefEqProofs (disch := omega) only [go_sem, Nat.reduceBEq, Nat.reduceAdd, Nat.reduceSub, Nat.reduceMul, Nat.reduceLeDiff, Nat.reduceEqDiff, Nat.reduceLT, Int.reduceNeg, Int.reduceAdd, Int.reduceSub, Int.reduceMul, Int.reduceLE, Int.reduceLT, Int.reduceEq, Int.reduceToNat, reduceCtorEq]
  try simp -implicitDefEqProofs only [go_sem, Nat.reduceBEq, Nat.reduceAdd, Nat.reduceSub, Nat.reduceMul, Nat.reduceLeDiff, Nat.reduceEqDiff, Nat.reduceLT, Int.reduceNeg, Int.reduceAdd, Int.reduceSub, Int.reduceMul, Int.reduceLE, Int.reduceLT, Int.reduceEq, Int.reduceToNat, reduceCtorEq] at hl
  rw [hl]
  simp -implicitDefEqProofs (disch := omega) only [go_sem, Nat.reduceBEq, Nat.reduceAdd, Nat.reduceSub, Nat.reduceMul, Nat.reduceLeDiff, Nat.reduceEqDiff, Nat.reduceLT, Int.reduceNeg, Int.reduceAdd, Int.reduceSub, Int.reduceMul, Int.reduceLE, Int.reduceLT, Int.reduceEq, Int.reduceToNat, reduceCtorEq]
  first | rfl | (rw [List.take_of_length_le (by simp)])
theorem loop_l18 (d : Nat) (c : Bool) (l : List Ent) (hf : FineE l) (K : Nat) (hK : (l).length ≤ K) (b0 : List Ent) (hb0 : (fun (i : Nat) (b : List Ent) => b.length ≤ i) 0 b0) : LoopS (runD tab noExt (d + 2)) (drawI (runD tab noExt (d + 2))) [0, 3, 4] [3] L87x0 ([.rows 0 2 [], .rows (b0).length 2 ((b0).map Ent.cells)] : Heap).length K [(0, .sl c 2 (l.map Ent.cells)), (3, .ref 1 (b0).length 0 (b0).length false), (4, .int .i64 (0 : Nat))] [.rows 0 2 [], .rows (b0).length 2 ((b0).map Ent.cells)] = (some (.exit 0, [(3, .ref 1 (((l).foldl (fun b x => b ++ [Ent.own x]) b0)).length 0 (((l).foldl (fun b x => b ++ [Ent.own x]) b0)).length false)], [.rows 0 2 [], .rows (((l).foldl (fun b x => b ++ [Ent.own x]) b0)).length 2 ((((l).foldl (fun b x => b ++ [Ent.own x]) b0)).map Ent.cells)]) : Out) ∧ (fun (i : Nat) (b : List Ent) => b.length ≤ i) (l).length ((l).foldl (fun b x => b ++ [Ent.own x]) b0) := by
  have key := LoopS_foldI (run := (runD tab noExt (d + 2))) (draw := drawI (runD tab noExt (d + 2))) (live := [0, 3, 4]) (out := [3]) (c := L87x0) (n0 := ([.rows 0 2 [], .rows (b0).length 2 ((b0).map Ent.cells)] : Heap).length) (l) (fun b x => b ++ [Ent.own x]) (fun (i : Nat) (b : List Ent) => b.length ≤ i) (fun (i : Nat) (b : List Ent) => [(0, .sl c 2 (l.map Ent.cells)), (3, .ref 1 (b).length 0 (b).length false), (4, .int .i64 (i : Nat))]) (fun (i : Nat) (b : List Ent) => [.rows 0 2 [], .rows (b).length 2 ((b).map Ent.cells)]) (fun b => (some (.exit 0, [(3, .ref 1 (b).length 0 (b).length false)], [.rows 0 2 [], .rows (b).length 2 ((b).map Ent.cells)]) : Out)) (fun b K hb => ?_) (fun (i : Nat) (x : Ent) b K hi hx hb => ?_) K hK b0 hb0
  · simp only [Int.natCast_zero] at key
    exact key
  · rw [LoopS_eq]
    simp -implicitDefEqProofs only [go_sem, Nat.reduceBEq, Nat.reduceAdd, Nat.reduceSub, Nat.reduceMul, Nat.reduceLeDiff, Nat.reduceEqDiff, Nat.reduceLT, Int.reduceNeg, Int.reduceAdd, Int.reduceSub, Int.reduceMul, Int.reduceLE, Int.reduceLT, Int.reduceEq, Int.reduceToNat, reduceCtorEq, evL87x0, B87x0, Int.lt_irrefl]
  · have hown := run_l14 d x.wc x.ws (hf.2 x (List.mem_of_getElem? hx)); have hsm : b.length + 1 < 4294967296 := (by have := hf.1; omega); have hlen0 := hf.1
    all_goals
      refine ⟨?_, ?_⟩
      · (simp; omega)
      · rw [LoopS_eq]
        simp -implicitDefEqProofs (disch := first | omega | assumption) only [go_sem, Nat.reduceBEq, Nat.reduceAdd, Nat.reduceSub, Nat.reduceMul, Nat.reduceLeDiff, Nat.reduceEqDiff, Nat.reduceLT, Int.reduceNeg, Int.reduceAdd, Int.reduceSub, Int.reduceMul, Int.reduceLE, Int.reduceLT, Int.reduceEq, Int.reduceToNat, reduceCtorEq, evL87x0, B87x0, hi, hx, IntWalk.i64_in, List.map_append, List.foldl_cons, evC_draw, evD87x0, E87x0, hx, hown, hsm, Ent.cells, Ent.v, Ent.own, List.map_cons, List.map_nil]
        skip
-- find87
theorem run_l18 (d : Nat) (c : Bool) (l : List Ent) (hf : FineE l) : retP (runD tab noExt (d + 3)) 87 [.sl c 2 (l.map Ent.cells)] = some [.sl false 2 ((l.map Ent.own).map Ent.cells)] := by
  rw [retP, runD_eq find87 _ _ _ (by simp)]
  obtain ⟨hl, _⟩ := loop_l18 d c l hf 1099511627775 (by have := hf.1; omega) [] (by simp)
  rw [foldl_snoc, List.nil_append] at hl
  simp only [List.length_nil, List.map_nil, Int.natCast_zero] at hl
  simp -implicitDefEqProofs (disch := omega) only [go_sem, Nat.reduceBEq, Nat.reduceAdd, Nat.reduceSub, Nat.reduceMul, Nat.reduceLeDiff, Nat.reduceEqDiff, Nat.reduceLT, Int.reduceNeg, Int.reduceAdd, Int.reduceSub, Int.reduceMul, Int.reduceLE, Int.reduceLT, Int.reduceEq, Int.reduceToNat, reduceCtorEq]
  try simp -implicitDefEqProofs only [go_sem, Nat.reduceBEq, Nat.reduceAdd, Nat.reduceSub, Nat.reduceMul, Nat.reduceLeDiff, Nat.reduceEqDiff, Nat.reduceLT, Int.reduceNeg, Int.reduceAdd, Int.reduceSub, Int.reduceMul, Int.reduceLE, Int.reduceLT, Int.reduceEq, Int.reduceToNat, reduceCtorEq] at hl
  rw [hl]
  simp -implicitDefEqProofs (disch := omega) only [go_sem, Nat.reduceBEq, Nat.reduceAdd, Nat.reduceSub, Nat.reduceMul, Nat.reduceLeDiff, Nat.reduceEqDiff, Nat.reduceLT, Int.reduceNeg, Int.reduceAdd, Int.reduceSub, Int.reduceMul, Int.reduceLE, Int.reduceLT, Int.reduceEq, Int.reduceToNat, reduceCtorEq]
  first | rfl | (rw [List.take_of_length_le (by simp)])
/-! ### logs as trees -/
theorem wr_pur (w : Wr) : PurR fdWrite w.cells (wrU w) := purR_mk_Write (pur_map val_pur _ 3 rfl _)
theorem ent_pur (e : Ent) : PurR fdEntry e.cells (entU e) := purR_mk_Entry (pur_map wr_pur _ 3 rfl _)
theorem wrs_each {y : List (List U)} {p : V} (h : PurF (.sub fdWrite) p (.sub y)) : ∃ (c : Bool) (ws : List Wr), p = .sl c 3 (ws.map Wr.cells) ∧ y = ws.map wrU := by
  obtain ⟨c, ct, rfl, hz⟩ := purS_Write h
  obtain ⟨ws, rfl, rfl⟩ := typ_of (f := Wr.cells) (g := wrU) (fun c x hr => by
    obtain ⟨a0, p1, y1, a2, rfl, rfl, g⟩ := purR_Write hr
    obtain ⟨cl, ct, rfl, hz⟩ := purS_Value g
    obtain ⟨vs, rfl, rfl⟩ := valsU_of hz
    exact ⟨⟨a0, ⟨cl, vs⟩, a2⟩, rfl, rfl⟩) hz
  exact ⟨c, ws, rfl, rfl⟩
theorem ents_each {y : List (List U)} {p : V} (h : PurF (.sub fdEntry) p (.sub y)) : ∃ (c : Bool) (l : List Ent), p = .sl c 2 (l.map Ent.cells) ∧ y = l.map entU := by
  obtain ⟨c, ct, rfl, hz⟩ := purS_Entry h
  obtain ⟨l, rfl, rfl⟩ := typ_of (f := Ent.cells) (g := entU) (fun c x hr => by
    obtain ⟨a0, p1, y1, rfl, rfl, g⟩ := purR_Entry hr
    obtain ⟨cl, ws, rfl, rfl⟩ := wrs_each g
    exact ⟨⟨a0, cl, ws⟩, rfl, rfl⟩) hz
  exact ⟨c, l, rfl, rfl⟩
theorem wrU_inj {a b : Wr} (h : wrU a = wrU b) : a.own = b.own := by
  simp only [wrU, List.cons.injEq, U.int.injEq, U.sub.injEq, U.bool.injEq, and_true] at h
  obtain ⟨h1, h2, h3⟩ := h
  have := map_inj (fun _ _ => valU_inj) h2
  simp only [Wr.own, h1, this, h3]
theorem map_same {α β γ : Type} {f : α → β} {g : α → γ} (h : ∀ a b, f a = f b → g a = g b) : ∀ {l l2 : List α}, l.map f = l2.map f → l.map g = l2.map g
  | [], [], _ => rfl
  | x :: a, y :: b, e => by
    simp only [List.map_cons, List.cons.injEq] at e
    rw [List.map_cons, List.map_cons, h _ _ e.1, map_same h e.2]
  | [], _ :: _, e => by simp at e
  | _ :: _, [], e => by simp at e
theorem entU_inj {a b : Ent} (h : entU a = entU b) : a.own = b.own := by
  simp only [entU, List.cons.injEq, U.int.injEq, U.sub.injEq, and_true] at h
  obtain ⟨h1, h2⟩ := h
  simp only [Ent.own, h1, map_same (fun _ _ => wrU_inj) h2]
theorem wrU_own (w : Wr) : wrU w.own = wrU w := rfl
theorem entU_own (e : Ent) : entU e.own = entU e := by
  simp only [entU, Ent.own, List.map_map]
  rfl
theorem prevsG_map {α β : Type} (f : α → β) : ∀ (l : List α) (o : Option α), prevsG (o.map f) (l.map f) = (prevsG o l).map fun p => (p.1.map f, f p.2)
  | [], _ => rfl
  | v :: r, o => by
    have := prevsG_map f r (some v)
    simp only [Option.map_some] at this
    simp only [List.map_cons, prevsG, this]
theorem wrsOk_own (l : List Wr) : wrsOk (l.map Wr.own) = wrsOk l := by
  have := prevsG_map Wr.own l none
  simp only [Option.map_none] at this
  unfold wrsOk
  rw [this, List.all_map]
  congr 1
  funext p
  obtain ⟨o, v⟩ := p
  cases o <;> rfl
theorem logOk_own (l : List Ent) : logOk (l.map Ent.own) = logOk l := by
  have := prevsG_map Ent.own l none
  simp only [Option.map_none] at this
  unfold logOk
  rw [this, List.all_map, List.length_map]
  congr 2
  funext p
  obtain ⟨o, v⟩ := p
  have e : v.own.one = v.one := by unfold Ent.one Ent.own; simp only [wrsOk_own]
  cases o <;> simp only [Function.comp, entOk, e, Option.map_none, Option.map_some] <;> rfl
theorem logOk_vs {a b : List Ent} (h : a.map entU = b.map entU) : logOk a = logOk b := by rw [← logOk_own a, ← logOk_own b, map_same (fun _ _ => entU_inj) h]
/-- What a size says of a log. -/
def LimE (l : List Ent) : Prop := l.length ≤ 1048576 ∧ ∀ e ∈ l, e.ws.length ≤ 1048576 ∧ ∀ w ∈ e.ws, w.row.vs.length ≤ 1048576 ∧ ∀ v ∈ w.row.vs, v.s.size ≤ 1048576
theorem wrs_lim {ws : List Wr} (L : LenF 1048576 1048576 (.sub fdWrite) (.sub (ws.map wrU))) : ws.length ≤ 1048576 ∧ ∀ w ∈ ws, w.row.vs.length ≤ 1048576 ∧ ∀ v ∈ w.row.vs, v.s.size ≤ 1048576 := by
  simp only [LenF, List.length_map] at L
  refine ⟨L.1, fun w hw => ?_⟩
  obtain ⟨i, hi⟩ := List.getElem?_of_mem hw
  have := AllU_at L.2 (map_at wrU hi)
  simp only [fdWrite, wrU, LenR, LenF, List.length_map, true_and, and_true] at this
  refine ⟨this.1, fun v hv => ?_⟩
  obtain ⟨j, hj⟩ := List.getElem?_of_mem hv
  have := AllU_at this.2 (map_at valU hj)
  simp only [fdValue, valU, LenR, LenF, true_and, and_true] at this
  exact this
theorem ents_lim {l : List Ent} (L : LenF 1048576 1048576 (.sub fdEntry) (.sub (l.map entU))) : LimE l := by
  simp only [LenF, List.length_map] at L
  refine ⟨L.1, fun e he => ?_⟩
  obtain ⟨i, hi⟩ := List.getElem?_of_mem he
  have := AllU_at L.2 (map_at entU hi)
  simp only [fdEntry, entU, LenR, LenF, true_and, and_true] at this
  exact wrs_lim (by simp only [LenF]; exact this)
theorem LimE.fine {l : List Ent} (h : LimE l) : FineE l ∧ ShortE l ∧ l.length < 1099511627776 := by
  obtain ⟨h1, h2⟩ := h
  refine ⟨⟨by omega, fun e he => ?_⟩, fun e he => ?_, by omega⟩
  · obtain ⟨h3, h4⟩ := h2 e he
    exact ⟨by omega, by omega, fun w hw => by have := (h4 w hw).1; omega⟩
  · obtain ⟨h3, h4⟩ := h2 e he
    exact ⟨by omega, fun w hw => ⟨by have := (h4 w hw).1; omega, fun v hv => by have := (h4 w hw).2 v hv; omega⟩⟩
theorem LimE.sub {l l2 : List Ent} (h : LimE l) (hn : l2.length ≤ 1048576) (hs : ∀ e ∈ l2, e ∈ l) : LimE l2 := ⟨hn, fun e he => h.2 e (hs e he)⟩
theorem wrs_len2 {n m : Nat} {ws : List Wr} (h0 : ws.length ≤ n) (h : ∀ w ∈ ws, w.row.vs.length ≤ n ∧ ∀ v ∈ w.row.vs, v.s.size ≤ m) : LenF n m (.sub fdWrite) (.sub (ws.map wrU)) := by
  simp only [LenF, List.length_map]
  refine ⟨h0, all_of (fun x hx => ?_)⟩
  obtain ⟨w, hw, rfl⟩ := List.mem_map.1 hx
  have := vals_len (h w hw).1 (h w hw).2
  simp only [fdWrite, wrU, LenR]
  exact ⟨by simp [LenF], this, by simp [LenF], trivial⟩
theorem ents_len {l : List Ent} (h : LimE l) : LenF 1048576 1048576 (.sub fdEntry) (.sub (l.map entU)) := by
  simp only [LenF, List.length_map]
  refine ⟨h.1, all_of (fun x hx => ?_)⟩
  obtain ⟨e, he, rfl⟩ := List.mem_map.1 hx
  obtain ⟨h1, h2⟩ := h.2 e he
  have := wrs_len2 h1 h2
  simp only [fdEntry, entU, LenR]
  exact ⟨by simp [LenF], this, trivial⟩
end Go.Proofs.Yteaojpfofifmnaa.PE
/- Bytes of values: both functions tell them. -/
set_option linter.unusedSimpArgs false
set_option linter.unusedVariables false
set_option maxHeartbeats 4000000
namespace Go.Proofs.Yteaojpfofifmnaa.PE
open Go.RowKit

def u8s (l : List Int) : List (List V) := l.map fun n => [.int .u8 n]
theorem u8s_app (a b : List Int) : u8s (a ++ b) = u8s a ++ u8s b := List.map_append
theorem u8s_len (a : List Int) : (u8s a).length = a.length := List.length_map _
def strB (s : ByteArray) : List Int := s.data.toList.map fun b => (b.toNat : Int)
theorem cells_strB (s : ByteArray) : cellsOfBytes s.data.toList = u8s (strB s) := by simp [cellsOfBytes, u8s, strB]
theorem strB_len (s : ByteArray) : (strB s).length = s.size := by rw [strB, List.length_map, str_len]
def Val.tail (v : Val) : List Int := if v.kind = 1 then [(v.n + 10000) / 256, (v.n + 10000) % 256] else if v.kind = 2 then (v.s.size : Int) :: strB v.s else if v.kind = 3 then [v.n] else []
def Val.bytes (v : Val) : List Int := v.kind :: v.tail
theorem ok_kinds {v : Val} (h : v.ok = true) : (v.kind = 0 ∧ v.n = 0 ∧ v.s = ⟨#[]⟩) ∨ (v.kind = 1 ∧ v.s = ⟨#[]⟩ ∧ -9999 ≤ v.n ∧ v.n ≤ 9999) ∨ (v.kind = 2 ∧ v.n = 0 ∧ (v.s.size : Int) ≤ 6) ∨ (v.kind = 3 ∧ v.s = ⟨#[]⟩ ∧ 0 ≤ v.n ∧ v.n ≤ 1) := by
  unfold Val.ok at h
  split at h
  · rename_i k; simp only [Bool.and_eq_true, decide_eq_true_eq] at h; exact .inl ⟨k, h.1, h.2⟩
  · split at h
    · rename_i k; simp only [Bool.and_eq_true, decide_eq_true_eq] at h; exact .inr (.inl ⟨k, h.1, h.2.1, h.2.2⟩)
    · split at h
      · rename_i k; simp only [Bool.and_eq_true, decide_eq_true_eq] at h; exact .inr (.inr (.inl ⟨k, h.1.1, h.1.2⟩))
      · split at h
        · rename_i k; simp only [Bool.and_eq_true, decide_eq_true_eq] at h; exact .inr (.inr (.inr ⟨k, h.1, h.2.1, h.2.2⟩))
        · cases h
theorem ok_size {v : Val} (h : v.ok = true) : v.s.size ≤ 6 := by
  rcases ok_kinds h with ⟨_, _, k⟩ | ⟨_, k, _⟩ | ⟨_, _, k⟩ | ⟨_, k, _⟩
  · rw [k]; decide
  · rw [k]; decide
  · omega
  · rw [k]; decide
theorem fdiv256 {n : Int} (h : 0 ≤ n) : n.fdiv 256 = n / 256 := Int.fdiv_eq_ediv_of_nonneg _ (by omega)
theorem tdiv256 {n : Int} (h : 0 ≤ n) : n.tdiv 256 = n / 256 := Int.tdiv_eq_ediv_of_nonneg h
theorem tmod256 {n : Int} (h : 0 ≤ n) : n.tmod 256 = n % 256 := Int.tmod_eq_emod_of_nonneg h
theorem mod_div {n : Int} (h : 0 ≤ n ∧ n < 65536) : n / 256 % 256 = n / 256 := by omega
theorem mod_mod (n : Int) : n % 256 % 256 = n % 256 := by omega
theorem mod_in {n : Int} (h : 0 ≤ n ∧ n < 256) : n % 256 = n := by omega
theorem pow8' : (2 : Int) ^ (min 8 64 : Nat) = 256 := by decide
theorem pow8 : (2 : Int) ^ (min (8 : Int).toNat IntKind.i64.bits) = 256 := by decide

-- find145
theorem run_vbytesS (d : Nat) (v : Val) (h : v.ok = true) : retP (runD tab noExt (d + 3)) 145 [.agg v.cells] = some [.sl false 1 (u8s v.bytes)] := by
  have hsz := ok_size h
  have hv := run_specValueOk d v.kind v.n v.s (by omega)
  rw [Val.eta, h] at hv
  rw [retP, runD_eq find145 _ _ _ (by simp)]
  rcases ok_kinds h with ⟨k, k1, k2⟩ | ⟨k, k1, k2⟩ | ⟨k, k1, k2⟩ | ⟨k, k1, k2⟩
  all_goals
    obtain ⟨kd, n, s⟩ := v
    simp only at k k1 k2 hsz
    have hlt : (2 + (strB s).length < 4294967296) = True := eq_true (by rw [strB_len]; omega)
    subst k
    simp only at hv
    simp -implicitDefEqProofs (disch := omega) only [go_sem, Nat.reduceBEq, Nat.reduceAdd, Nat.reduceSub, Nat.reduceMul, Nat.reduceLeDiff, Nat.reduceEqDiff, Nat.reduceLT, Int.reduceNeg, Int.reduceAdd, Int.reduceSub, Int.reduceMul, Int.reduceLE, Int.reduceLT, Int.reduceEq, Int.reduceToNat, reduceCtorEq, evC_draw, evD145x0, E145x0, Val.cells, hv, IntKind.wrap_u8, IntWalk.i64_in, fdiv256, tdiv256, tmod256, mod_div, mod_mod, mod_in, pow8, pow8', hlt, List.length_map, cells_strB, u8s, Val.bytes, Val.tail, elemsOf, elemOf]
    try rw [List.take_of_length_le (by simp only [List.length_cons, List.length_map]; omega)]
-- find84
theorem run_vbytesI (d : Nat) (v : Val) (h : v.ok = true) : retP (runD tab noExt (d + 1)) 84 [.agg v.cells] = some [.sl false 1 (u8s v.bytes)] := by
  have hsz := ok_size h
  rw [retP, runD_eq find84 _ _ _ (by simp)]
  rcases ok_kinds h with ⟨k, k1, k2⟩ | ⟨k, k1, k2⟩ | ⟨k, k1, k2⟩ | ⟨k, k1, k2⟩
  all_goals
    obtain ⟨kd, n, s⟩ := v
    simp only at k k1 k2 hsz
    have hlt : (2 + (strB s).length < 4294967296) = True := eq_true (by rw [strB_len]; omega)
    subst k
    simp -implicitDefEqProofs (disch := omega) only [go_sem, Nat.reduceBEq, Nat.reduceAdd, Nat.reduceSub, Nat.reduceMul, Nat.reduceLeDiff, Nat.reduceEqDiff, Nat.reduceLT, Int.reduceNeg, Int.reduceAdd, Int.reduceSub, Int.reduceMul, Int.reduceLE, Int.reduceLT, Int.reduceEq, Int.reduceToNat, reduceCtorEq, evC_draw, evD84x0, E84x0, Val.cells, IntKind.wrap_u8, IntWalk.i64_in, fdiv256, tdiv256, tmod256, mod_div, mod_mod, mod_in, pow8, pow8', hlt, List.length_map, cells_strB, u8s, Val.bytes, Val.tail, elemsOf, elemOf]
    try rw [List.take_of_length_le (by simp only [List.length_cons, List.length_map]; omega)]
end Go.Proofs.Yteaojpfofifmnaa.PE
/- Bytes of rows: both functions tell them. -/
set_option linter.unusedSimpArgs false
set_option linter.unusedVariables false
set_option maxHeartbeats 4000000
namespace Go.Proofs.Yteaojpfofifmnaa.PE
open Go.RowKit

theorem bytes_len {v : Val} (h : v.ok = true) : v.bytes.length ≤ 8 := by
  have := ok_size h
  unfold Val.bytes Val.tail
  split
  · simp
  · split
    · simp only [List.length_cons, strB_len]; omega
    · split <;> simp
def rowBytes (vs : List Val) : List Int := vs.foldl (fun b v => b ++ v.bytes) [(vs.length : Int)]
theorem foldl_app {α β : Type} (f : α → List β) : ∀ (l : List α) (b : List β), l.foldl (fun b v => b ++ f v) b = b ++ l.flatMap f
  | [], b => by simp
  | x :: r, b => by rw [List.foldl_cons, foldl_app f r, List.flatMap_cons, List.append_assoc]
theorem rowBytes_eq (vs : List Val) : rowBytes vs = (vs.length : Int) :: vs.flatMap Val.bytes := by rw [rowBytes, foldl_app]; rfl
theorem rowOk_at {vs : List Val} (h : rowOk vs = true) : (∀ v ∈ vs, v.ok = true) ∧ vs.length ≤ 4 := by
  simp only [rowOk, Bool.and_eq_true, List.all_eq_true, decide_eq_true_eq] at h
  exact h
-- find85
theorem run_clipB (d : Nat) (c : Bool) (l : List (List V)) (hl : l.length < 4294967296) : retP (runD tab noExt (d + 1)) 85 [.sl c 1 l] = some [.sl true 1 l] := by
  rw [retP, runD_eq find85 _ _ _ (by simp)]
  simp -implicitDefEqProofs (disch := omega) only [go_sem, Nat.reduceBEq, Nat.reduceAdd, Nat.reduceSub, Nat.reduceMul, Nat.reduceLeDiff, Nat.reduceEqDiff, Nat.reduceLT, Int.reduceNeg, Int.reduceAdd, Int.reduceSub, Int.reduceMul, Int.reduceLE, Int.reduceLT, Int.reduceEq, Int.reduceToNat, reduceCtorEq, List.take_length, Bool.true_or]
theorem loop_rbI (d : Nat) (c : Bool) (vs : List Val) (hv : vs.length ≤ 4) (hok : ∀ v ∈ vs, v.ok = true) (K : Nat) (hK : (vs).length ≤ K) (b0 : List Int) (hb0 : (fun (i : Nat) (b : List Int) => 1 ≤ b.length ∧ b.length ≤ 1 + 8 * i) 0 b0) : LoopS (runD tab noExt (d + 1)) (drawI (runD tab noExt (d + 1))) [3, 13, 14, 15] [3] L34x0 ([.rows ((b0).length - 1) 1 (u8s (b0))] : Heap).length K [(3, .ref 0 ((b0).length - 1) 0 (b0).length false), (13, .sl c 3 (vs.map Val.cells)), (14, .int .i64 vs.length), (15, .int .i64 (0 : Nat))] [.rows ((b0).length - 1) 1 (u8s (b0))] = (some (.exit 0, [(3, .ref 0 ((((vs).foldl (fun b v => b ++ v.bytes) b0)).length - 1) 0 (((vs).foldl (fun b v => b ++ v.bytes) b0)).length false)], [.rows ((((vs).foldl (fun b v => b ++ v.bytes) b0)).length - 1) 1 (u8s (((vs).foldl (fun b v => b ++ v.bytes) b0)))]) : Out) ∧ (fun (i : Nat) (b : List Int) => 1 ≤ b.length ∧ b.length ≤ 1 + 8 * i) (vs).length ((vs).foldl (fun b v => b ++ v.bytes) b0) := by
  have key := LoopS_foldI (run := (runD tab noExt (d + 1))) (draw := drawI (runD tab noExt (d + 1))) (live := [3, 13, 14, 15]) (out := [3]) (c := L34x0) (n0 := ([.rows ((b0).length - 1) 1 (u8s (b0))] : Heap).length) (vs) (fun b v => b ++ v.bytes) (fun (i : Nat) (b : List Int) => 1 ≤ b.length ∧ b.length ≤ 1 + 8 * i) (fun (i : Nat) (b : List Int) => [(3, .ref 0 ((b).length - 1) 0 (b).length false), (13, .sl c 3 (vs.map Val.cells)), (14, .int .i64 vs.length), (15, .int .i64 (i : Nat))]) (fun (i : Nat) (b : List Int) => [.rows ((b).length - 1) 1 (u8s (b))]) (fun b => (some (.exit 0, [(3, .ref 0 ((b).length - 1) 0 (b).length false)], [.rows ((b).length - 1) 1 (u8s (b))]) : Out)) (fun b K hb => ?_) (fun (i : Nat) (x : Val) b K hi hx hb => ?_) K hK b0 hb0
  · simp only [Int.natCast_zero] at key
    exact key
  · rw [LoopS_eq]
    simp -implicitDefEqProofs only [go_sem, Nat.reduceBEq, Nat.reduceAdd, Nat.reduceSub, Nat.reduceMul, Nat.reduceLeDiff, Nat.reduceEqDiff, Nat.reduceLT, Int.reduceNeg, Int.reduceAdd, Int.reduceSub, Int.reduceMul, Int.reduceLE, Int.reduceLT, Int.reduceEq, Int.reduceToNat, reduceCtorEq, evL34x0, B34x0, Int.lt_irrefl]
  · have hxo := hok x (List.mem_of_getElem? hx); have hxl := bytes_len hxo; have hsm : b.length + x.bytes.length < 4294967296 := (by have := hb.2; omega); have hst : b.length - 1 + x.bytes.length = b.length + x.bytes.length - 1 := (by have := hb.1; omega); have hvx := run_vbytesI d x hxo; simp only [Val.cells] at hvx
    all_goals
      refine ⟨?_, ?_⟩
      · (simp only [List.length_append]; omega)
      · rw [LoopS_eq]
        simp -implicitDefEqProofs (disch := first | omega | assumption) only [go_sem, Nat.reduceBEq, Nat.reduceAdd, Nat.reduceSub, Nat.reduceMul, Nat.reduceLeDiff, Nat.reduceEqDiff, Nat.reduceLT, Int.reduceNeg, Int.reduceAdd, Int.reduceSub, Int.reduceMul, Int.reduceLE, Int.reduceLT, Int.reduceEq, Int.reduceToNat, reduceCtorEq, evL34x0, B34x0, hi, hx, IntWalk.i64_in, List.map_append, List.foldl_cons, hx, hvx, Val.cells, hst, hsm, u8s_app, u8s_len, List.length_append, if_true, if_false]
        skip
-- find34
theorem run_rbytesI (d : Nat) (c : Bool) (vs : List Val) (h : rowOk vs = true) : retP (runD tab noExt (d + 8)) 34 [.sl c 3 (vs.map Val.cells)] = some [.sl true 1 (u8s (rowBytes vs))] := by
  obtain ⟨hok, hv⟩ := rowOk_at h
  have hr := run_rowOkI d c vs (by omega)
  rw [h] at hr
  obtain ⟨hl, hle⟩ := loop_rbI (d + 6) c vs hv hok 1099511627775 (by omega) [(vs.length : Int)] ⟨by simp, by simp⟩
  have hbe : rowBytes vs = vs.foldl (fun b v => b ++ v.bytes) [(vs.length : Int)] := rfl
  rw [← hbe] at hl hle
  have hc := run_clipB (d + 6) false (u8s (rowBytes vs)) (by rw [u8s_len]; omega)
  have ht : List.take (rowBytes vs).length (u8s (rowBytes vs)) = u8s (rowBytes vs) := List.take_of_length_le (by rw [u8s_len]; omega)
  have hi0 : u8s [(vs.length : Int)] = [[.int .u8 vs.length]] := rfl
  simp only [hi0, List.length_cons, List.length_nil, Int.natCast_zero] at hl
  rw [retP, runD_eq find34 _ _ _ (by simp)]
  simp -implicitDefEqProofs (disch := omega) only [go_sem, Nat.reduceBEq, Nat.reduceAdd, Nat.reduceSub, Nat.reduceMul, Nat.reduceLeDiff, Nat.reduceEqDiff, Nat.reduceLT, Int.reduceNeg, Int.reduceAdd, Int.reduceSub, Int.reduceMul, Int.reduceLE, Int.reduceLT, Int.reduceEq, Int.reduceToNat, reduceCtorEq, hr, IntKind.wrap_u8, mod_in, elemsOf, elemOf]
  try simp -implicitDefEqProofs only [go_sem, Nat.reduceBEq, Nat.reduceAdd, Nat.reduceSub, Nat.reduceMul, Nat.reduceLeDiff, Nat.reduceEqDiff, Nat.reduceLT, Int.reduceNeg, Int.reduceAdd, Int.reduceSub, Int.reduceMul, Int.reduceLE, Int.reduceLT, Int.reduceEq, Int.reduceToNat, reduceCtorEq] at hl
  rw [hl]
  simp -implicitDefEqProofs (disch := omega) only [go_sem, Nat.reduceBEq, Nat.reduceAdd, Nat.reduceSub, Nat.reduceMul, Nat.reduceLeDiff, Nat.reduceEqDiff, Nat.reduceLT, Int.reduceNeg, Int.reduceAdd, Int.reduceSub, Int.reduceMul, Int.reduceLE, Int.reduceLT, Int.reduceEq, Int.reduceToNat, reduceCtorEq, hc, ht, List.take_length]
theorem loop_rbS (d : Nat) (c : Bool) (vs : List Val) (hv : vs.length ≤ 4) (hok : ∀ v ∈ vs, v.ok = true) (K : Nat) (hK : (vs).length ≤ K) (b0 : List Int) (hb0 : (fun (i : Nat) (b : List Int) => 1 ≤ b.length ∧ b.length ≤ 1 + 8 * i) 0 b0) : LoopS (runD tab noExt (d + 3)) (drawI (runD tab noExt (d + 3))) [0, 3, 4] [3] L110x0 ([.rows 0 1 [], .rows ((b0).length - 1) 1 (u8s (b0))] : Heap).length K [(0, .sl c 3 (vs.map Val.cells)), (3, .ref 1 ((b0).length - 1) 0 (b0).length false), (4, .int .i64 (0 : Nat))] [.rows 0 1 [], .rows ((b0).length - 1) 1 (u8s (b0))] = (some (.exit 0, [(3, .ref 1 ((((vs).foldl (fun b v => b ++ v.bytes) b0)).length - 1) 0 (((vs).foldl (fun b v => b ++ v.bytes) b0)).length false)], [.rows 0 1 [], .rows ((((vs).foldl (fun b v => b ++ v.bytes) b0)).length - 1) 1 (u8s (((vs).foldl (fun b v => b ++ v.bytes) b0)))]) : Out) ∧ (fun (i : Nat) (b : List Int) => 1 ≤ b.length ∧ b.length ≤ 1 + 8 * i) (vs).length ((vs).foldl (fun b v => b ++ v.bytes) b0) := by
  have key := LoopS_foldI (run := (runD tab noExt (d + 3))) (draw := drawI (runD tab noExt (d + 3))) (live := [0, 3, 4]) (out := [3]) (c := L110x0) (n0 := ([.rows 0 1 [], .rows ((b0).length - 1) 1 (u8s (b0))] : Heap).length) (vs) (fun b v => b ++ v.bytes) (fun (i : Nat) (b : List Int) => 1 ≤ b.length ∧ b.length ≤ 1 + 8 * i) (fun (i : Nat) (b : List Int) => [(0, .sl c 3 (vs.map Val.cells)), (3, .ref 1 ((b).length - 1) 0 (b).length false), (4, .int .i64 (i : Nat))]) (fun (i : Nat) (b : List Int) => [.rows 0 1 [], .rows ((b).length - 1) 1 (u8s (b))]) (fun b => (some (.exit 0, [(3, .ref 1 ((b).length - 1) 0 (b).length false)], [.rows 0 1 [], .rows ((b).length - 1) 1 (u8s (b))]) : Out)) (fun b K hb => ?_) (fun (i : Nat) (x : Val) b K hi hx hb => ?_) K hK b0 hb0
  · simp only [Int.natCast_zero] at key
    exact key
  · rw [LoopS_eq]
    simp -implicitDefEqProofs only [go_sem, Nat.reduceBEq, Nat.reduceAdd, Nat.reduceSub, Nat.reduceMul, Nat.reduceLeDiff, Nat.reduceEqDiff, Nat.reduceLT, Int.reduceNeg, Int.reduceAdd, Int.reduceSub, Int.reduceMul, Int.reduceLE, Int.reduceLT, Int.reduceEq, Int.reduceToNat, reduceCtorEq, evL110x0, B110x0, Int.lt_irrefl]
  · have hxo := hok x (List.mem_of_getElem? hx); have hxl := bytes_len hxo; have hsm : b.length + x.bytes.length < 4294967296 := (by have := hb.2; omega); have hst : b.length - 1 + x.bytes.length = b.length + x.bytes.length - 1 := (by have := hb.1; omega); have hvx := run_vbytesS d x hxo; simp only [Val.cells] at hvx
    all_goals
      refine ⟨?_, ?_⟩
      · (simp only [List.length_append]; omega)
      · rw [LoopS_eq]
        simp -implicitDefEqProofs (disch := first | omega | assumption) only [go_sem, Nat.reduceBEq, Nat.reduceAdd, Nat.reduceSub, Nat.reduceMul, Nat.reduceLeDiff, Nat.reduceEqDiff, Nat.reduceLT, Int.reduceNeg, Int.reduceAdd, Int.reduceSub, Int.reduceMul, Int.reduceLE, Int.reduceLT, Int.reduceEq, Int.reduceToNat, reduceCtorEq, evL110x0, B110x0, hi, hx, IntWalk.i64_in, List.map_append, List.foldl_cons, hx, hvx, Val.cells, hst, hsm, u8s_app, u8s_len, List.length_append, if_true, if_false]
        skip
-- find110
theorem run_rbytesS (d : Nat) (c : Bool) (vs : List Val) (h : rowOk vs = true) : retP (runD tab noExt (d + 4)) 110 [.sl c 3 (vs.map Val.cells)] = some [.sl false 1 (u8s (rowBytes vs))] := by
  obtain ⟨hok, hv⟩ := rowOk_at h
  have hr := run_rowOk d c vs (by omega) (fun v hm => by have := ok_size (hok v hm); omega)
  rw [h] at hr
  obtain ⟨hl, hle⟩ := loop_rbS d c vs hv hok 1099511627775 (by omega) [(vs.length : Int)] ⟨by simp, by simp⟩
  have hbe : rowBytes vs = vs.foldl (fun b v => b ++ v.bytes) [(vs.length : Int)] := rfl
  rw [← hbe] at hl hle
  have ht : List.take (rowBytes vs).length (u8s (rowBytes vs)) = u8s (rowBytes vs) := List.take_of_length_le (by rw [u8s_len]; omega)
  have hi0 : u8s [(vs.length : Int)] = [[.int .u8 vs.length]] := rfl
  simp only [hi0, List.length_cons, List.length_nil, Int.natCast_zero] at hl
  rw [retP, runD_eq find110 _ _ _ (by simp)]
  simp -implicitDefEqProofs (disch := omega) only [go_sem, Nat.reduceBEq, Nat.reduceAdd, Nat.reduceSub, Nat.reduceMul, Nat.reduceLeDiff, Nat.reduceEqDiff, Nat.reduceLT, Int.reduceNeg, Int.reduceAdd, Int.reduceSub, Int.reduceMul, Int.reduceLE, Int.reduceLT, Int.reduceEq, Int.reduceToNat, reduceCtorEq, hr, IntKind.wrap_u8, mod_in, elemsOf, elemOf]
  try simp -implicitDefEqProofs only [go_sem, Nat.reduceBEq, Nat.reduceAdd, Nat.reduceSub, Nat.reduceMul, Nat.reduceLeDiff, Nat.reduceEqDiff, Nat.reduceLT, Int.reduceNeg, Int.reduceAdd, Int.reduceSub, Int.reduceMul, Int.reduceLE, Int.reduceLT, Int.reduceEq, Int.reduceToNat, reduceCtorEq] at hl
  rw [hl]
  simp -implicitDefEqProofs (disch := omega) only [go_sem, Nat.reduceBEq, Nat.reduceAdd, Nat.reduceSub, Nat.reduceMul, Nat.reduceLeDiff, Nat.reduceEqDiff, Nat.reduceLT, Int.reduceNeg, Int.reduceAdd, Int.reduceSub, Int.reduceMul, Int.reduceLE, Int.reduceLT, Int.reduceEq, Int.reduceToNat, reduceCtorEq, ht, List.take_length]
end Go.Proofs.Yteaojpfofifmnaa.PE
/- Sums of bytes, and bodies framed: both functions tell them. -/
set_option linter.unusedSimpArgs false
set_option linter.unusedVariables false
set_option maxHeartbeats 4000000
namespace Go.Proofs.Yteaojpfofifmnaa.PE
open Go.RowKit

def sumF (b : Int × Nat) (x : Int) : Int × Nat := ((b.1 + x * ((b.2 : Int) + 1)).tmod 251, b.2 + 1)
def sumB (l : List Int) : Int := (l.foldl sumF (0, 0)).1
theorem u8s_at {l : List Int} {i : Nat} {x : Int} (h : l[i]? = some x) : (u8s l)[i]? = some [.int .u8 x] := by simp [u8s, h]
theorem mul_in {x : Int} {i : Nat} (h : 0 ≤ x ∧ x < 256) (hi : i < 65536) : 0 ≤ x * ((i : Int) + 1) ∧ x * ((i : Int) + 1) ≤ 255 * 65536 := by
  constructor
  · exact Int.mul_nonneg h.1 (by omega)
  · exact Int.mul_le_mul (by omega) (by omega) (by omega) (by omega)
theorem loop_sumI (d : Nat) (c : Bool) (l : List Int) (hl : l.length < 65536) (hbs : ∀ x ∈ l, 0 ≤ x ∧ x < 256) (K : Nat) (hK : (l).length ≤ K) (b0 : Int × Nat) (hb0 : (fun (i : Nat) (b : Int × Nat) => b.2 = i ∧ 0 ≤ b.1 ∧ b.1 < 251) 0 b0) : LoopS (runD tab noExt d) (drawI (runD tab noExt d)) [3, 6, 7, 8] [3] L120x0 ([] : Heap).length K [(3, .int .i64 (b0).1), (6, .sl c 1 (u8s l)), (7, .int .i64 l.length), (8, .int .i64 (0 : Nat))] [] = (some (.exit 0, [(3, .int .i64 (((l).foldl (sumF) b0)).1)], []) : Out) ∧ (fun (i : Nat) (b : Int × Nat) => b.2 = i ∧ 0 ≤ b.1 ∧ b.1 < 251) (l).length ((l).foldl (sumF) b0) := by
  have key := LoopS_foldI (run := (runD tab noExt d)) (draw := drawI (runD tab noExt d)) (live := [3, 6, 7, 8]) (out := [3]) (c := L120x0) (n0 := ([] : Heap).length) (l) (sumF) (fun (i : Nat) (b : Int × Nat) => b.2 = i ∧ 0 ≤ b.1 ∧ b.1 < 251) (fun (i : Nat) (b : Int × Nat) => [(3, .int .i64 (b).1), (6, .sl c 1 (u8s l)), (7, .int .i64 l.length), (8, .int .i64 (i : Nat))]) (fun (i : Nat) (b : Int × Nat) => []) (fun b => (some (.exit 0, [(3, .int .i64 (b).1)], []) : Out)) (fun b K hb => ?_) (fun (i : Nat) (x : Int) b K hi hx hb => ?_) K hK b0 hb0
  · simp only [Int.natCast_zero] at key
    exact key
  · rw [LoopS_eq]
    simp -implicitDefEqProofs only [go_sem, Nat.reduceBEq, Nat.reduceAdd, Nat.reduceSub, Nat.reduceMul, Nat.reduceLeDiff, Nat.reduceEqDiff, Nat.reduceLT, Int.reduceNeg, Int.reduceAdd, Int.reduceSub, Int.reduceMul, Int.reduceLE, Int.reduceLT, Int.reduceEq, Int.reduceToNat, reduceCtorEq, evL120x0, B120x0, Int.lt_irrefl]
  · obtain ⟨n, k⟩ := b; obtain ⟨hk, h0, h1⟩ := hb; simp only at hk h0 h1; subst hk; have hxc := u8s_at hx; have hx2 := hbs x (List.mem_of_getElem? hx); have hm := mul_in hx2 (show k < 65536 by omega); have t1 := tmod_nn (show 0 ≤ n + x * ((k : Int) + 1) by omega) (show (0 : Int) < 251 by omega); have t2 := tmod_lt (show 0 ≤ n + x * ((k : Int) + 1) by omega) (show (0 : Int) < 251 by omega); have hw1 : IntKind.i64.wrap (x * ((k : Int) + 1)) = x * ((k : Int) + 1) := IntWalk.i64_in _ (by omega); have hw2 : IntKind.i64.wrap (n + x * ((k : Int) + 1)) = n + x * ((k : Int) + 1) := IntWalk.i64_in _ (by omega)
    all_goals
      refine ⟨?_, ?_⟩
      · exact ⟨rfl, t1, t2⟩
      · rw [LoopS_eq]
        simp -implicitDefEqProofs (disch := first | omega | assumption) only [go_sem, Nat.reduceBEq, Nat.reduceAdd, Nat.reduceSub, Nat.reduceMul, Nat.reduceLeDiff, Nat.reduceEqDiff, Nat.reduceLT, Int.reduceNeg, Int.reduceAdd, Int.reduceSub, Int.reduceMul, Int.reduceLE, Int.reduceLT, Int.reduceEq, Int.reduceToNat, reduceCtorEq, evL120x0, B120x0, hi, hx, IntWalk.i64_in, List.map_append, List.foldl_cons, hxc, hw1, hw2, sumF, u8s_len]
        skip
-- find120
theorem run_sumI (d : Nat) (c : Bool) (l : List Int) (hl : l.length < 65536) (hb : ∀ x ∈ l, 0 ≤ x ∧ x < 256) : retP (runD tab noExt (d + 1)) 120 [.sl c 1 (u8s l)] = some [.int .u8 (sumB l)] := by
  obtain ⟨h, _, h0, h1⟩ := loop_sumI d c l hl hb 1099511627775 (by omega) (0, 0) ⟨rfl, by decide, by decide⟩
  have e : (l.foldl sumF (0, 0)).1 = sumB l := rfl
  rw [e] at h h0 h1
  simp only [Int.natCast_zero] at h
  rw [retP, runD_eq find120 _ _ _ (by simp)]
  simp -implicitDefEqProofs (disch := omega) only [go_sem, Nat.reduceBEq, Nat.reduceAdd, Nat.reduceSub, Nat.reduceMul, Nat.reduceLeDiff, Nat.reduceEqDiff, Nat.reduceLT, Int.reduceNeg, Int.reduceAdd, Int.reduceSub, Int.reduceMul, Int.reduceLE, Int.reduceLT, Int.reduceEq, Int.reduceToNat, reduceCtorEq, u8s_len]
  try simp -implicitDefEqProofs only [go_sem, Nat.reduceBEq, Nat.reduceAdd, Nat.reduceSub, Nat.reduceMul, Nat.reduceLeDiff, Nat.reduceEqDiff, Nat.reduceLT, Int.reduceNeg, Int.reduceAdd, Int.reduceSub, Int.reduceMul, Int.reduceLE, Int.reduceLT, Int.reduceEq, Int.reduceToNat, reduceCtorEq] at h
  rw [h]
  simp -implicitDefEqProofs (disch := omega) only [go_sem, Nat.reduceBEq, Nat.reduceAdd, Nat.reduceSub, Nat.reduceMul, Nat.reduceLeDiff, Nat.reduceEqDiff, Nat.reduceLT, Int.reduceNeg, Int.reduceAdd, Int.reduceSub, Int.reduceMul, Int.reduceLE, Int.reduceLT, Int.reduceEq, Int.reduceToNat, reduceCtorEq, IntKind.wrap_u8, mod_in]
theorem loop_sumS (d : Nat) (c : Bool) (l : List Int) (hl : l.length < 65536) (hbs : ∀ x ∈ l, 0 ≤ x ∧ x < 256) (K : Nat) (hK : (l).length ≤ K) (b0 : Int × Nat) (hb0 : (fun (i : Nat) (b : Int × Nat) => b.2 = i ∧ 0 ≤ b.1 ∧ b.1 < 251) 0 b0) : LoopS (runD tab noExt d) (drawI (runD tab noExt d)) [0, 3, 4] [3] L65x0 ([] : Heap).length K [(0, .sl c 1 (u8s l)), (3, .int .i64 (b0).1), (4, .int .i64 (0 : Nat))] [] = (some (.exit 0, [(3, .int .i64 (((l).foldl (sumF) b0)).1)], []) : Out) ∧ (fun (i : Nat) (b : Int × Nat) => b.2 = i ∧ 0 ≤ b.1 ∧ b.1 < 251) (l).length ((l).foldl (sumF) b0) := by
  have key := LoopS_foldI (run := (runD tab noExt d)) (draw := drawI (runD tab noExt d)) (live := [0, 3, 4]) (out := [3]) (c := L65x0) (n0 := ([] : Heap).length) (l) (sumF) (fun (i : Nat) (b : Int × Nat) => b.2 = i ∧ 0 ≤ b.1 ∧ b.1 < 251) (fun (i : Nat) (b : Int × Nat) => [(0, .sl c 1 (u8s l)), (3, .int .i64 (b).1), (4, .int .i64 (i : Nat))]) (fun (i : Nat) (b : Int × Nat) => []) (fun b => (some (.exit 0, [(3, .int .i64 (b).1)], []) : Out)) (fun b K hb => ?_) (fun (i : Nat) (x : Int) b K hi hx hb => ?_) K hK b0 hb0
  · simp only [Int.natCast_zero] at key
    exact key
  · rw [LoopS_eq]
    simp -implicitDefEqProofs only [go_sem, Nat.reduceBEq, Nat.reduceAdd, Nat.reduceSub, Nat.reduceMul, Nat.reduceLeDiff, Nat.reduceEqDiff, Nat.reduceLT, Int.reduceNeg, Int.reduceAdd, Int.reduceSub, Int.reduceMul, Int.reduceLE, Int.reduceLT, Int.reduceEq, Int.reduceToNat, reduceCtorEq, evL65x0, B65x0, Int.lt_irrefl, u8s_len]
  · obtain ⟨n, k⟩ := b; obtain ⟨hk, h0, h1⟩ := hb; simp only at hk h0 h1; subst hk; have hxc := u8s_at hx; have hx2 := hbs x (List.mem_of_getElem? hx); have hm := mul_in hx2 (show k < 65536 by omega); have t1 := tmod_nn (show 0 ≤ n + x * ((k : Int) + 1) by omega) (show (0 : Int) < 251 by omega); have t2 := tmod_lt (show 0 ≤ n + x * ((k : Int) + 1) by omega) (show (0 : Int) < 251 by omega); have hw1 : IntKind.i64.wrap (x * ((k : Int) + 1)) = x * ((k : Int) + 1) := IntWalk.i64_in _ (by omega); have hw2 : IntKind.i64.wrap (n + x * ((k : Int) + 1)) = n + x * ((k : Int) + 1) := IntWalk.i64_in _ (by omega)
    all_goals
      refine ⟨?_, ?_⟩
      · exact ⟨rfl, t1, t2⟩
      · rw [LoopS_eq]
        simp -implicitDefEqProofs (disch := first | omega | assumption) only [go_sem, Nat.reduceBEq, Nat.reduceAdd, Nat.reduceSub, Nat.reduceMul, Nat.reduceLeDiff, Nat.reduceEqDiff, Nat.reduceLT, Int.reduceNeg, Int.reduceAdd, Int.reduceSub, Int.reduceMul, Int.reduceLE, Int.reduceLT, Int.reduceEq, Int.reduceToNat, reduceCtorEq, evL65x0, B65x0, hi, hx, IntWalk.i64_in, List.map_append, List.foldl_cons, u8s_len, hxc, hw1, hw2, sumF, u8s_len]
        skip
-- find65
theorem run_sumS (d : Nat) (c : Bool) (l : List Int) (hl : l.length < 65536) (hb : ∀ x ∈ l, 0 ≤ x ∧ x < 256) : retP (runD tab noExt (d + 1)) 65 [.sl c 1 (u8s l)] = some [.int .u8 (sumB l)] := by
  obtain ⟨h, _, h0, h1⟩ := loop_sumS d c l hl hb 1099511627775 (by omega) (0, 0) ⟨rfl, by decide, by decide⟩
  have e : (l.foldl sumF (0, 0)).1 = sumB l := rfl
  rw [e] at h h0 h1
  simp only [Int.natCast_zero] at h
  rw [retP, runD_eq find65 _ _ _ (by simp)]
  simp -implicitDefEqProofs (disch := omega) only [go_sem, Nat.reduceBEq, Nat.reduceAdd, Nat.reduceSub, Nat.reduceMul, Nat.reduceLeDiff, Nat.reduceEqDiff, Nat.reduceLT, Int.reduceNeg, Int.reduceAdd, Int.reduceSub, Int.reduceMul, Int.reduceLE, Int.reduceLT, Int.reduceEq, Int.reduceToNat, reduceCtorEq, u8s_len]
  try simp -implicitDefEqProofs only [go_sem, Nat.reduceBEq, Nat.reduceAdd, Nat.reduceSub, Nat.reduceMul, Nat.reduceLeDiff, Nat.reduceEqDiff, Nat.reduceLT, Int.reduceNeg, Int.reduceAdd, Int.reduceSub, Int.reduceMul, Int.reduceLE, Int.reduceLT, Int.reduceEq, Int.reduceToNat, reduceCtorEq] at h
  rw [h]
  simp -implicitDefEqProofs (disch := omega) only [go_sem, Nat.reduceBEq, Nat.reduceAdd, Nat.reduceSub, Nat.reduceMul, Nat.reduceLeDiff, Nat.reduceEqDiff, Nat.reduceLT, Int.reduceNeg, Int.reduceAdd, Int.reduceSub, Int.reduceMul, Int.reduceLE, Int.reduceLT, Int.reduceEq, Int.reduceToNat, reduceCtorEq, IntKind.wrap_u8, mod_in]
end Go.Proofs.Yteaojpfofifmnaa.PE
/- Calls whose results are memory of one's own, and a number beside it. -/
set_option linter.unusedVariables false
set_option linter.unusedSimpArgs false
namespace Go.Proofs.Yteaojpfofifmnaa.PE
open Go.RowKit

theorem own_callAS {run : Run} {h : Heap} {f : Nat} {args args' : List V} {cs : List V} {s : V} {hc : Heap} {fs : List Fd} {x : List U} {ids : List Nat} (hp : pureDAs h args = some args') (hr : run f args' [] = some ([.agg cs, s], hc)) (ho : OwnR hc fs cs x ids) (hn : ids.Nodup) (hs : cs.all scalar = false) (hsc : scalar s = true) :
    ∃ cs' h' ids', callX run h 0 f args = some (.tup [.agg cs', s], h') ∧ OwnR h' fs cs' x ids' ∧ ids'.Nodup ∧ (∀ j ∈ ids', h.length ≤ j) ∧ (∀ j, j < h.length → h'[j]? = h[j]?) ∧ h.length ≤ h'.length := by
  have hf := OwnR_fresh fs ho
  refine ⟨cs.map (shC h.length), h ++ movedH h.length hc, ids.map (· + h.length), ?_, OwnR_moved _ ho, ?_, fun j hj => ?_, fun j hj => by rw [List.getElem?_append_left hj], by simp⟩
  · cases s <;> first | (simp only [callX, callO, hp, hr, BackO, List.all_cons, List.all_nil, scalarA, freshA, freshC, shC, hs, hf, Bool.false_eq_true, Bool.false_and, Bool.true_and, Bool.and_self, if_false, if_true, List.map_cons, List.map_nil, oneOf, shA]; done) | cases hsc
  · exact (List.pairwise_map.2 (List.Pairwise.imp (fun {a b} hab => by simp only [ne_eq] at hab ⊢; omega) hn))
  · obtain ⟨i, _, rfl⟩ := List.mem_map.1 hj
    omega
theorem own_callFS {run : Run} {h : Heap} {f : Nat} {args args' : List V} {v s : V} {hc : Heap} {fs : List Fd} {u : U} {ids : List Nat} (hp : pureDAs h args = some args') (hr : run f args' [] = some ([v, s], hc)) (ho : OwnF hc (.sub fs) v u ids) (hn : ids.Nodup) (hsc : scalar s = true) :
    ∃ v' h' ids', callX run h 0 f args = some (.tup [v', s], h') ∧ OwnF h' (.sub fs) v' u ids' ∧ ids'.Nodup ∧ (∀ j ∈ ids', h.length ≤ j) ∧ (∀ j, j < h.length → h'[j]? = h[j]?) ∧ h.length ≤ h'.length := by
  refine ⟨shC h.length v, h ++ movedH h.length hc, ids.map (· + h.length), ?_, OwnF_moved _ ho, ?_, fun j hj => ?_, fun j hj => by rw [List.getElem?_append_left hj], by simp⟩
  · rcases own_cases ho with ⟨c, rfl⟩ | ⟨id, st, n, clip, rfl⟩ <;> cases s <;> first | (simp only [callX, callO, hp, hr, BackO, List.all_cons, List.all_nil, scalarA, scalar, freshA, freshC, isNil, shA, shC, Bool.false_eq_true, Bool.false_and, Bool.true_and, Bool.and_self, Bool.and_true, if_false, if_true, List.map_cons, List.map_nil, oneOf]; done) | cases hsc
  · exact (List.pairwise_map.2 (List.Pairwise.imp (fun {a b} hab => by simp only [ne_eq] at hab ⊢; omega) hn))
  · obtain ⟨i, _, rfl⟩ := List.mem_map.1 hj
    omega
theorem pureDA_sl (h : Heap) (c : Bool) (n : Nat) (xs : List (List V)) : pureDA h (.sl c n xs) = some (.sl c n xs) := rfl
end Go.Proofs.Yteaojpfofifmnaa.PE
/- Steps of exact statements of structs. -/
set_option linter.unusedVariables false
set_option linter.unusedSimpArgs false
namespace Go.Proofs.Yteaojpfofifmnaa.PE
open Go.RowKit

theorem pureDA_of {h : Heap} {fs : List Fd} {v q : V} {u : U} {ids : List Nat} (ho : OwnF h (.sub fs) v u ids) (e : pureD h 6 v = some q) : pureDA h v = some q := by
  rcases own_cases ho with ⟨c, rfl⟩ | ⟨id, st, n, clip, rfl⟩ <;> exact e
theorem pureDA_agg (h : Heap) (cs : List V) : pureDA h (.agg cs) = (mapO (pureD h 6) cs).map .agg := rfl
theorem pureD_intv (h : Heap) (n : Nat) (k : IntKind) (m : Int) : pureD h n (.int k m) = some (.int k m) := by cases n <;> rfl
theorem pureD_boolv (h : Heap) (n : Nat) (b : Bool) : pureD h n (.bool b) = some (.bool b) := by cases n <;> rfl
theorem pureD_strv (h : Heap) (n : Nat) (b : ByteArray) : pureD h n (.str b) = some (.str b) := by cases n <;> rfl
end Go.Proofs.Yteaojpfofifmnaa.PE
/- Bytes of entries: both functions tell them. -/
set_option linter.unusedSimpArgs false
set_option linter.unusedVariables false
set_option maxHeartbeats 8000000
set_option maxRecDepth 20000
namespace Go.Proofs.Yteaojpfofifmnaa.PE
open Go.RowKit

def byU (l : List Int) : List (List U) := l.map fun n => [U.int n]
theorem u8s_cons (n : Int) (l : List Int) : u8s (n :: l) = [.int .u8 n] :: u8s l := rfl
theorem u8s_nil : u8s [] = [] := rfl
theorem in_vbytes {v : Val} (h : v.ok = true) : ∀ x ∈ v.bytes, 0 ≤ x ∧ x < 256 := by
  intro x hx
  have hs := ok_size h
  unfold Val.bytes Val.tail at hx
  rcases ok_kinds h with ⟨k, k1, k2⟩ | ⟨k, k1, k2, k3⟩ | ⟨k, k1, k2⟩ | ⟨k, k1, k2, k3⟩ <;> rw [k] at hx <;> simp at hx
  · omega
  · rcases hx with rfl | rfl | rfl <;> omega
  · rcases hx with rfl | rfl | hx
    · omega
    · omega
    · unfold strB at hx
      obtain ⟨b, _, rfl⟩ := List.mem_map.1 hx
      have := b.toNat_lt
      omega
  · rcases hx with rfl | rfl <;> omega
theorem in_rbytes {vs : List Val} (h : rowOk vs = true) : ∀ x ∈ rowBytes vs, 0 ≤ x ∧ x < 256 := by
  obtain ⟨h1, h2⟩ := rowOk_at h
  intro x hx
  rw [rowBytes_eq] at hx
  rcases List.mem_cons.1 hx with rfl | hx
  · omega
  · obtain ⟨v, hv, hx⟩ := List.mem_flatMap.1 hx
    exact in_vbytes (h1 v hv) x hx
theorem flat_len {α : Type} {f : α → List Int} {n : Nat} : ∀ (l : List α), (∀ a ∈ l, (f a).length ≤ n) → (l.flatMap f).length ≤ n * l.length
  | [], _ => by simp
  | a :: l, h => by
    have h1 := h a (by simp)
    have h2 := flat_len l (fun b hb => h b (by simp [hb]))
    rw [List.flatMap_cons, List.length_append, List.length_cons, Nat.mul_add]
    omega
theorem rbytes_len {vs : List Val} (h : rowOk vs = true) : (rowBytes vs).length ≤ 33 := by
  obtain ⟨h1, h2⟩ := rowOk_at h
  rw [rowBytes_eq, List.length_cons]
  have : (vs.flatMap Val.bytes).length ≤ 8 * vs.length := flat_len vs (fun v hv => bytes_len (h1 v hv))
  omega
theorem wrs_one : ∀ (l : List Wr) (o : Option Wr), (prevsG o l).all wrOk = true → ∀ w ∈ l, w.one = true
  | [], _, _, w, hw => by cases hw
  | x :: l, o, h, w, hw => by
    simp only [prevsG, List.all_cons, Bool.and_eq_true] at h
    rcases List.mem_cons.1 hw with rfl | hw
    · have := h.1
      simp only [wrOk, Bool.and_eq_true] at this
      exact this.1
    · exact wrs_one l _ h.2 w hw
theorem wr_one {w : Wr} (h : w.one = true) : 0 ≤ w.key ∧ w.key ≤ 4 ∧ rowOk w.row.vs = true := by
  simp only [Wr.one, Bool.and_eq_true, decide_eq_true_eq] at h
  exact ⟨h.1.1, h.1.2, h.2.1⟩
def goneI (b : Bool) : Int := if b then 1 else 0
def wrBytes (w : Wr) : List Int := w.key :: goneI w.gone :: rowBytes w.row.vs
def bodyB (e : Ent) : List Int := e.ws.foldl (fun b w => b ++ wrBytes w) [e.time, (e.ws.length : Int)]
theorem bodyB_eq (e : Ent) : bodyB e = e.time :: (e.ws.length : Int) :: e.ws.flatMap wrBytes := by rw [bodyB, foldl_app]; rfl
theorem goneI_in (b : Bool) : 0 ≤ goneI b ∧ goneI b < 256 := by cases b <;> decide
theorem in_wr {w : Wr} (h : w.one = true) : ∀ x ∈ wrBytes w, 0 ≤ x ∧ x < 256 := by
  obtain ⟨h1, h2, h3⟩ := wr_one h
  intro x hx
  rcases List.mem_cons.1 hx with rfl | hx
  · omega
  · rcases List.mem_cons.1 hx with rfl | hx
    · exact goneI_in _
    · exact in_rbytes h3 x hx
theorem wr_len {w : Wr} (h : w.one = true) : (wrBytes w).length ≤ 35 := by
  have := rbytes_len (wr_one h).2.2
  simp only [wrBytes, List.length_cons]
  omega
theorem one_at {e : Ent} (h : logOk [e] = true) : (1 ≤ e.time ∧ e.time ≤ 40) ∧ (∀ w ∈ e.ws, w.one = true) ∧ e.ws.length ≤ 5 := by
  have : e.one = true := by
    simp only [logOk, prevsG, List.all_cons, List.all_nil, entOk, Bool.and_eq_true] at h
    exact h.1.1.1
  simp only [Ent.one, Bool.and_eq_true, decide_eq_true_eq] at this
  have h5 := wrs_len5 this.2
  exact ⟨this.1, wrs_one _ _ this.2, by omega⟩
theorem in_body {e : Ent} (h : logOk [e] = true) : ∀ x ∈ bodyB e, 0 ≤ x ∧ x < 256 := by
  obtain ⟨h1, h2, h3⟩ := one_at h
  intro x hx
  rw [bodyB_eq] at hx
  rcases List.mem_cons.1 hx with rfl | hx
  · omega
  · rcases List.mem_cons.1 hx with rfl | hx
    · omega
    · obtain ⟨w, hw, hx⟩ := List.mem_flatMap.1 hx
      exact in_wr (h2 w hw) x hx
theorem body_len {e : Ent} (h : logOk [e] = true) : (bodyB e).length ≤ 177 := by
  obtain ⟨h1, h2, h3⟩ := one_at h
  rw [bodyB_eq, List.length_cons, List.length_cons]
  have : (e.ws.flatMap wrBytes).length ≤ 35 * e.ws.length := flat_len e.ws (fun w hw => wr_len (h2 w hw))
  omega
def frB (b : List Int) : List Int := ((b.length : Int) / 256) :: ((b.length : Int) % 256) :: (b ++ [sumB b])
theorem u8s_fr (b : List Int) : u8s (frB b) = [.int .u8 ((b.length : Int) / 256)] :: [.int .u8 ((b.length : Int) % 256)] :: (u8s b ++ [[.int .u8 (sumB b)]]) := by rw [frB, u8s_cons, u8s_cons, u8s_app]; rfl
-- find85
theorem clipB_k (d st : Nat) (l : List (List V)) (n : Nat) (hn : n = l.length) : callX (runD tab noExt (d + 1)) [.rows st 1 l] 2 85 [.ref 0 st 0 n false] = some (.ref 0 st 0 n true, [.rows st 1 l]) := by
  subst hn
  simp only [callX, callK]
  rw [runD_eq find85 _ _ _ (by simp)]
  simp -implicitDefEqProofs (disch := omega) only [go_sem, Nat.reduceBEq, Nat.reduceAdd, Nat.reduceSub, Nat.reduceMul, Nat.reduceLeDiff, Nat.reduceEqDiff, Nat.reduceLT, Int.reduceNeg, Int.reduceAdd, Int.reduceSub, Int.reduceMul, Int.reduceLE, Int.reduceLT, Int.reduceEq, Int.reduceToNat, reduceCtorEq, List.take_length, Bool.true_or, resOk]
theorem own_bytes {h : Heap} {id st n : Nat} {clip : Bool} (l : List Int) (hn : n = l.length) (hb : h[id]? = some (.rows st 1 (u8s l))) : OwnF h (.sub fdByte) (.ref id st 0 n clip) (.sub (byU l)) [id] :=
  own_row (f := fun n => [.int .u8 n]) (g := fun n => [.int n]) rfl l hn hb (fun n => ownR_mk_Byte h n)
-- find113
theorem own_framed (d : Nat) (c : Bool) (b : List Int) (hl : b.length < 65536) (hb : ∀ x ∈ b, 0 ≤ x ∧ x < 256) : ∃ v hc ids, runD tab noExt (d + 2) 113 [.sl c 1 (u8s b)] [] = some ([v], hc) ∧ OwnF hc (.sub fdByte) v (.sub (byU (frB b))) ids ∧ ids.Nodup := by
  have hs := run_sumI d c b hl hb
  have hk := clipB_k d (b.length + 1) (u8s (frB b)) (2 + b.length + 1) (by rw [u8s_len]; simp [frB]; omega)
  refine ⟨.ref 0 (b.length + 1) 0 (2 + b.length + 1) true, [.rows (b.length + 1) 1 (u8s (frB b))], [0], ?_, own_bytes (frB b) (by simp [frB]; omega) rfl, by simp⟩
  have q1 : (b.length : Int).fdiv 256 = b.length / 256 := fdiv256 (by omega)
  have q2 : ((b.length : Int) / 256) % 256 = b.length / 256 := mod_div (by omega)
  have cm : (2 + b.length = b.length + 2) = True := eq_true (by omega)
  have sm1 : 2 + b.length < 4294967296 := by omega
  have sm2 : 2 + (b.length + 1) < 4294967296 := by omega
  rw [runD_eq find113 _ _ _ (by simp)]
  simp only [u8s_fr] at hk ⊢
  simp only [Nat.add_assoc] at hk ⊢
  simp -implicitDefEqProofs (disch := omega) only [go_sem, Nat.reduceBEq, Nat.reduceAdd, Nat.reduceSub, Nat.reduceMul, Nat.reduceLeDiff, Nat.reduceEqDiff, Nat.reduceLT, Int.reduceNeg, Int.reduceAdd, Int.reduceSub, Int.reduceMul, Int.reduceLE, Int.reduceLT, Int.reduceEq, Int.reduceToNat, reduceCtorEq, hs, hk, u8s_len, IntKind.wrap_u8, pow8, pow8', cm, q1, q2, sm1, sm2, elemsOf, elemOf, resOk]
end Go.Proofs.Yteaojpfofifmnaa.PE
/- Bytes of entries: both functions tell them. -/
set_option linter.unusedSimpArgs false
set_option linter.unusedVariables false
set_option maxHeartbeats 8000000
set_option maxRecDepth 20000
namespace Go.Proofs.Yteaojpfofifmnaa.PE
open Go.RowKit

theorem run_truthB (d : Nat) (b : Bool) : retP (runD tab noExt (d + 1)) 112 [.bool b] = some [.int .i64 (goneI b)] := by
  rw [retP, runD_eq find112 _ _ _ (by simp)]
  simp -implicitDefEqProofs (disch := omega) only [go_sem, Nat.reduceBEq, Nat.reduceAdd, Nat.reduceSub, Nat.reduceMul, Nat.reduceLeDiff, Nat.reduceEqDiff, Nat.reduceLT, Int.reduceNeg, Int.reduceAdd, Int.reduceSub, Int.reduceMul, Int.reduceLE, Int.reduceLT, Int.reduceEq, Int.reduceToNat, reduceCtorEq, goneI]
  repeat' ((first | rw [GuardI_ndec] | rw [CondC_ndec] | rw [GuardQ_ndec] | rw [GuardI_dec] | rw [CondC_dec] | rw [GuardQ_dec] | rw [GuardI_nby] | rw [CondC_nby] | rw [GuardQ_nby] | rw [GuardQ_by] | rw [GuardI_by] | rw [CondC_by]) <;> split <;> simp -implicitDefEqProofs (disch := omega) only [go_sem, Nat.reduceBEq, Nat.reduceAdd, Nat.reduceSub, Nat.reduceMul, Nat.reduceLeDiff, Nat.reduceEqDiff, Nat.reduceLT, Int.reduceNeg, Int.reduceAdd, Int.reduceSub, Int.reduceMul, Int.reduceLE, Int.reduceLT, Int.reduceEq, Int.reduceToNat, reduceCtorEq, goneI, *])
  all_goals simp_all
theorem run_l2B (d : Nat) (b : Bool) : retP (runD tab noExt (d + 1)) 109 [.bool b] = some [.int .i64 (goneI b)] := by
  rw [retP, runD_eq find109 _ _ _ (by simp)]
  simp -implicitDefEqProofs (disch := omega) only [go_sem, Nat.reduceBEq, Nat.reduceAdd, Nat.reduceSub, Nat.reduceMul, Nat.reduceLeDiff, Nat.reduceEqDiff, Nat.reduceLT, Int.reduceNeg, Int.reduceAdd, Int.reduceSub, Int.reduceMul, Int.reduceLE, Int.reduceLT, Int.reduceEq, Int.reduceToNat, reduceCtorEq, goneI]
  repeat' ((first | rw [GuardI_ndec] | rw [CondC_ndec] | rw [GuardQ_ndec] | rw [GuardI_dec] | rw [CondC_dec] | rw [GuardQ_dec] | rw [GuardI_nby] | rw [CondC_nby] | rw [GuardQ_nby] | rw [GuardQ_by] | rw [GuardI_by] | rw [CondC_by]) <;> split <;> simp -implicitDefEqProofs (disch := omega) only [go_sem, Nat.reduceBEq, Nat.reduceAdd, Nat.reduceSub, Nat.reduceMul, Nat.reduceLeDiff, Nat.reduceEqDiff, Nat.reduceLT, Int.reduceNeg, Int.reduceAdd, Int.reduceSub, Int.reduceMul, Int.reduceLE, Int.reduceLT, Int.reduceEq, Int.reduceToNat, reduceCtorEq, goneI, *])
  all_goals simp_all
theorem len_wr (b : List Int) (w : Wr) : (b ++ wrBytes w).length = b.length + (2 + (rowBytes w.row.vs).length) := by simp [wrBytes]; omega
theorem u8s_wr (b : List Int) (w : Wr) : u8s (b ++ wrBytes w) = u8s b ++ [.int .u8 w.key] :: [.int .u8 (goneI w.gone)] :: u8s (rowBytes w.row.vs) := by rw [u8s_app]; rfl
theorem loop_ebI (d : Nat) (t : Int) (c : Bool) (ws : List Wr) (hw5 : ws.length ≤ 5) (hok : ∀ w ∈ ws, w.one = true) (K : Nat) (hK : (ws).length ≤ K) (b0 : List Int) (hb0 : (fun (i : Nat) (b : List Int) => 2 ≤ b.length ∧ b.length ≤ 2 + 35 * i) 0 b0) : LoopS (runD tab noExt (d + 8)) (drawI (runD tab noExt (d + 8))) [3, 15, 16, 17] [3] L67x0 ([.box [.int .i64 t, .sl c 3 (ws.map Wr.cells)], .rows ((b0).length - 2) 1 (u8s (b0))] : Heap).length K [(3, .ref 1 ((b0).length - 2) 0 (b0).length false), (15, .sl c 3 (ws.map Wr.cells)), (16, .int .i64 ws.length), (17, .int .i64 (0 : Nat))] [.box [.int .i64 t, .sl c 3 (ws.map Wr.cells)], .rows ((b0).length - 2) 1 (u8s (b0))] = (some (.exit 0, [(3, .ref 1 ((((ws).foldl (fun b w => b ++ wrBytes w) b0)).length - 2) 0 (((ws).foldl (fun b w => b ++ wrBytes w) b0)).length false)], [.box [.int .i64 t, .sl c 3 (ws.map Wr.cells)], .rows ((((ws).foldl (fun b w => b ++ wrBytes w) b0)).length - 2) 1 (u8s (((ws).foldl (fun b w => b ++ wrBytes w) b0)))]) : Out) ∧ (fun (i : Nat) (b : List Int) => 2 ≤ b.length ∧ b.length ≤ 2 + 35 * i) (ws).length ((ws).foldl (fun b w => b ++ wrBytes w) b0) := by
  have key := LoopS_foldI (run := (runD tab noExt (d + 8))) (draw := drawI (runD tab noExt (d + 8))) (live := [3, 15, 16, 17]) (out := [3]) (c := L67x0) (n0 := ([.box [.int .i64 t, .sl c 3 (ws.map Wr.cells)], .rows ((b0).length - 2) 1 (u8s (b0))] : Heap).length) (ws) (fun b w => b ++ wrBytes w) (fun (i : Nat) (b : List Int) => 2 ≤ b.length ∧ b.length ≤ 2 + 35 * i) (fun (i : Nat) (b : List Int) => [(3, .ref 1 ((b).length - 2) 0 (b).length false), (15, .sl c 3 (ws.map Wr.cells)), (16, .int .i64 ws.length), (17, .int .i64 (i : Nat))]) (fun (i : Nat) (b : List Int) => [.box [.int .i64 t, .sl c 3 (ws.map Wr.cells)], .rows ((b).length - 2) 1 (u8s (b))]) (fun b => (some (.exit 0, [(3, .ref 1 ((b).length - 2) 0 (b).length false)], [.box [.int .i64 t, .sl c 3 (ws.map Wr.cells)], .rows ((b).length - 2) 1 (u8s (b))]) : Out)) (fun b K hb => ?_) (fun (i : Nat) (x : Wr) b K hi hx hb => ?_) K hK b0 hb0
  · simp only [Int.natCast_zero] at key
    exact key
  · rw [LoopS_eq]
    simp -implicitDefEqProofs only [go_sem, Nat.reduceBEq, Nat.reduceAdd, Nat.reduceSub, Nat.reduceMul, Nat.reduceLeDiff, Nat.reduceEqDiff, Nat.reduceLT, Int.reduceNeg, Int.reduceAdd, Int.reduceSub, Int.reduceMul, Int.reduceLE, Int.reduceLT, Int.reduceEq, Int.reduceToNat, reduceCtorEq, evL67x0, B67x0, Int.lt_irrefl]
  · have hxo := hok x (List.mem_of_getElem? hx); obtain ⟨o1, o2, o3⟩ := wr_one hxo; have hxl := rbytes_len o3; have sm1 : b.length + 2 < 4294967296 := (by have := hb.2; omega); have sm2 : b.length + (2 + (rowBytes x.row.vs).length) < 4294967296 := (by have := hb.2; omega); have hst : b.length - 2 + (2 + (rowBytes x.row.vs).length) = b.length + (2 + (rowBytes x.row.vs).length) - 2 := (by have := hb.1; omega); have hvx := run_rbytesI d x.row.clip x.row.vs o3; have kw1 : x.key % 256 = x.key := (by omega); have kw2 : goneI x.gone % 256 = goneI x.gone := (by have := goneI_in x.gone; omega)
    all_goals
      refine ⟨?_, ?_⟩
      · (rw [len_wr]; omega)
      · rw [LoopS_eq]
        simp -implicitDefEqProofs (disch := first | omega | assumption) only [go_sem, Nat.reduceBEq, Nat.reduceAdd, Nat.reduceSub, Nat.reduceMul, Nat.reduceLeDiff, Nat.reduceEqDiff, Nat.reduceLT, Int.reduceNeg, Int.reduceAdd, Int.reduceSub, Int.reduceMul, Int.reduceLE, Int.reduceLT, Int.reduceEq, Int.reduceToNat, reduceCtorEq, evL67x0, B67x0, hi, hx, IntWalk.i64_in, List.map_append, List.foldl_cons, evC_draw, evD67x0, E67x0, hx, hvx, run_truthB, Wr.cells, Row.v, len_wr, u8s_wr, u8s_len, hst, sm1, sm2, kw1, kw2, IntKind.wrap_u8, if_true, if_false, elemsOf, elemOf]
        skip
-- find67
theorem own_entryBytes (d : Nat) (e : Ent) (h : logOk [e] = true) : ∃ v hc ids, runD tab noExt (d + 9) 67 [.agg e.cells] [] = some ([v], hc) ∧ OwnF hc (.sub fdByte) v (.sub (byU (frB (bodyB e)))) ids ∧ ids.Nodup := by
  obtain ⟨h1, h2, h3⟩ := one_at h
  have hbl := body_len h
  obtain ⟨hl, hle, _⟩ := loop_ebI d e.time e.wc e.ws h3 h2 1099511627775 (by omega) [e.time, (e.ws.length : Int)] ⟨by simp, by simp⟩
  have hbe : bodyB e = e.ws.foldl (fun b w => b ++ wrBytes w) [e.time, (e.ws.length : Int)] := rfl
  rw [← hbe] at hl hle
  have hi0 : u8s [e.time, (e.ws.length : Int)] = [[.int .u8 e.time], [.int .u8 e.ws.length]] := rfl
  simp only [hi0, List.length_cons, List.length_nil, Int.natCast_zero] at hl
  obtain ⟨v1, hc, is0, q1, q2, q3⟩ := own_framed (d + 6) false (bodyB e) (by omega) (in_body h)
  have ht : List.take (bodyB e).length (u8s (bodyB e)) = u8s (bodyB e) := List.take_of_length_le (by rw [u8s_len]; omega)
  obtain ⟨w, hw, js, k1, k2, k3, k4, k5, k6⟩ := own_call (h := [.box [.int .i64 e.time, .sl e.wc 3 (e.ws.map Wr.cells)], .rows ((bodyB e).length - 2) 1 (u8s (bodyB e))]) (args := [.ref 1 ((bodyB e).length - 2) 0 (bodyB e).length false]) (by simp only [pureDAs, mapO, pureDA, pureD, deepest, List.getElem?_cons_succ, List.getElem?_cons_zero, if_true, List.drop_zero, ht]) q1 q2 q3
  refine ⟨w, hw, js, ?_, k2, k3⟩
  have kt : e.time % 256 = e.time := by omega
  have kl : (e.ws.length : Int) % 256 = e.ws.length := by omega
  rw [runD_eq find67 _ _ _ (by simp)]
  simp -implicitDefEqProofs (disch := omega) only [go_sem, Nat.reduceBEq, Nat.reduceAdd, Nat.reduceSub, Nat.reduceMul, Nat.reduceLeDiff, Nat.reduceEqDiff, Nat.reduceLT, Int.reduceNeg, Int.reduceAdd, Int.reduceSub, Int.reduceMul, Int.reduceLE, Int.reduceLT, Int.reduceEq, Int.reduceToNat, reduceCtorEq, Ent.cells, Ent.v, IntKind.wrap_u8, kt, kl, elemsOf, elemOf, frzs, refs, refC, refsV]
  try simp -implicitDefEqProofs only [go_sem, Nat.reduceBEq, Nat.reduceAdd, Nat.reduceSub, Nat.reduceMul, Nat.reduceLeDiff, Nat.reduceEqDiff, Nat.reduceLT, Int.reduceNeg, Int.reduceAdd, Int.reduceSub, Int.reduceMul, Int.reduceLE, Int.reduceLT, Int.reduceEq, Int.reduceToNat, reduceCtorEq] at hl
  rw [hl]
  rcases own_cases k2 with ⟨cx, rfl⟩ | ⟨id, st, m, clip, rfl⟩ <;> simp -implicitDefEqProofs (disch := first | omega | assumption) only [go_sem, Nat.reduceBEq, Nat.reduceAdd, Nat.reduceSub, Nat.reduceMul, Nat.reduceLeDiff, Nat.reduceEqDiff, Nat.reduceLT, Int.reduceNeg, Int.reduceAdd, Int.reduceSub, Int.reduceMul, Int.reduceLE, Int.reduceLT, Int.reduceEq, Int.reduceToNat, reduceCtorEq, k1, resOk]
def entBytes (e : Ent) : List Int := if logOk [e] then frB (bodyB e) else []
-- find18
theorem own_EntryBytes (d : Nat) (e : Ent) (h1 : LimE [e]) : ∃ v hc ids, runD tab noExt (d + 10) 18 [.agg e.cells] [] = some ([v], hc) ∧ OwnF hc (.sub fdByte) v (.sub (byU (entBytes e))) ids ∧ ids.Nodup := by
  obtain ⟨_, e2, e3⟩ := h1.fine
  have hv1 := run_logI d true [e] e3 e2
  simp only [List.map_cons, List.map_nil, Ent.cells, Ent.v] at hv1
  unfold entBytes
  cases o1 : logOk [e]
  · rw [o1] at hv1
    refine ⟨.sl true 1 [], [.box e.cells], [], ?_, own_nil rfl, List.nodup_nil⟩
    rw [runD_eq find18 _ _ _ (by simp)]
    simp -implicitDefEqProofs (disch := omega) only [go_sem, Nat.reduceBEq, Nat.reduceAdd, Nat.reduceSub, Nat.reduceMul, Nat.reduceLeDiff, Nat.reduceEqDiff, Nat.reduceLT, Int.reduceNeg, Int.reduceAdd, Int.reduceSub, Int.reduceMul, Int.reduceLE, Int.reduceLT, Int.reduceEq, Int.reduceToNat, reduceCtorEq, Ent.cells, Ent.v, elemsOf, elemOf, frzs, refs, refC, refsV, hv1]
  · rw [o1] at hv1
    obtain ⟨v1, hc, is0, q1, q2, q3⟩ := own_entryBytes d e o1
    obtain ⟨w, hw, js, k1, k2, k3, k4, k5, k6⟩ := own_call (h := [.box e.cells]) (args := [.agg e.cells]) (by simp only [pureDAs, mapO, pureDA, pureD, deepest, Ent.cells, Ent.v, Option.map_some]) q1 q2 q3
    refine ⟨w, hw, js, ?_, k2, k3⟩
    simp only [Ent.cells, Ent.v] at k1
    rw [runD_eq find18 _ _ _ (by simp)]
    rcases own_cases k2 with ⟨cx, rfl⟩ | ⟨id, st, m, clip, rfl⟩ <;> simp -implicitDefEqProofs (disch := first | omega | assumption) only [go_sem, Nat.reduceBEq, Nat.reduceAdd, Nat.reduceSub, Nat.reduceMul, Nat.reduceLeDiff, Nat.reduceEqDiff, Nat.reduceLT, Int.reduceNeg, Int.reduceAdd, Int.reduceSub, Int.reduceMul, Int.reduceLE, Int.reduceLT, Int.reduceEq, Int.reduceToNat, reduceCtorEq, Ent.cells, Ent.v, elemsOf, elemOf, frzs, refs, refC, refsV, hv1, k1, resOk]
theorem loop_ebS (d : Nat) (t : Int) (c : Bool) (ws : List Wr) (hw5 : ws.length ≤ 5) (hok : ∀ w ∈ ws, w.one = true) (K : Nat) (hK : (ws).length ≤ K) (b0 : List Int) (hb0 : (fun (i : Nat) (b : List Int) => 2 ≤ b.length ∧ b.length ≤ 2 + 35 * i) 0 b0) : LoopS (runD tab noExt (d + 4)) (drawI (runD tab noExt (d + 4))) [1, 3, 4] [3] L64x0 ([.box [.int .i64 t, .sl c 3 (ws.map Wr.cells)], .rows 0 1 [], .rows ((b0).length - 2) 1 (u8s (b0))] : Heap).length K [(1, .ptr 0 0 0 0), (3, .ref 2 ((b0).length - 2) 0 (b0).length false), (4, .int .i64 (0 : Nat))] [.box [.int .i64 t, .sl c 3 (ws.map Wr.cells)], .rows 0 1 [], .rows ((b0).length - 2) 1 (u8s (b0))] = (some (.exit 0, [(3, .ref 2 ((((ws).foldl (fun b w => b ++ wrBytes w) b0)).length - 2) 0 (((ws).foldl (fun b w => b ++ wrBytes w) b0)).length false)], [.box [.int .i64 t, .sl c 3 (ws.map Wr.cells)], .rows 0 1 [], .rows ((((ws).foldl (fun b w => b ++ wrBytes w) b0)).length - 2) 1 (u8s (((ws).foldl (fun b w => b ++ wrBytes w) b0)))]) : Out) ∧ (fun (i : Nat) (b : List Int) => 2 ≤ b.length ∧ b.length ≤ 2 + 35 * i) (ws).length ((ws).foldl (fun b w => b ++ wrBytes w) b0) := by
  have key := LoopS_foldI (run := (runD tab noExt (d + 4))) (draw := drawI (runD tab noExt (d + 4))) (live := [1, 3, 4]) (out := [3]) (c := L64x0) (n0 := ([.box [.int .i64 t, .sl c 3 (ws.map Wr.cells)], .rows 0 1 [], .rows ((b0).length - 2) 1 (u8s (b0))] : Heap).length) (ws) (fun b w => b ++ wrBytes w) (fun (i : Nat) (b : List Int) => 2 ≤ b.length ∧ b.length ≤ 2 + 35 * i) (fun (i : Nat) (b : List Int) => [(1, .ptr 0 0 0 0), (3, .ref 2 ((b).length - 2) 0 (b).length false), (4, .int .i64 (i : Nat))]) (fun (i : Nat) (b : List Int) => [.box [.int .i64 t, .sl c 3 (ws.map Wr.cells)], .rows 0 1 [], .rows ((b).length - 2) 1 (u8s (b))]) (fun b => (some (.exit 0, [(3, .ref 2 ((b).length - 2) 0 (b).length false)], [.box [.int .i64 t, .sl c 3 (ws.map Wr.cells)], .rows 0 1 [], .rows ((b).length - 2) 1 (u8s (b))]) : Out)) (fun b K hb => ?_) (fun (i : Nat) (x : Wr) b K hi hx hb => ?_) K hK b0 hb0
  · simp only [Int.natCast_zero] at key
    exact key
  · rw [LoopS_eq]
    simp -implicitDefEqProofs only [go_sem, Nat.reduceBEq, Nat.reduceAdd, Nat.reduceSub, Nat.reduceMul, Nat.reduceLeDiff, Nat.reduceEqDiff, Nat.reduceLT, Int.reduceNeg, Int.reduceAdd, Int.reduceSub, Int.reduceMul, Int.reduceLE, Int.reduceLT, Int.reduceEq, Int.reduceToNat, reduceCtorEq, evL64x0, B64x0, Int.lt_irrefl]
  · have hxo := hok x (List.mem_of_getElem? hx); obtain ⟨o1, o2, o3⟩ := wr_one hxo; have hxl := rbytes_len o3; have sm1 : b.length + 2 < 4294967296 := (by have := hb.2; omega); have sm2 : b.length + (2 + (rowBytes x.row.vs).length) < 4294967296 := (by have := hb.2; omega); have hst : b.length - 2 + (2 + (rowBytes x.row.vs).length) = b.length + (2 + (rowBytes x.row.vs).length) - 2 := (by have := hb.1; omega); have hvx := run_rbytesS d x.row.clip x.row.vs o3; have kw1 : x.key % 256 = x.key := (by omega); have kw2 : goneI x.gone % 256 = goneI x.gone := (by have := goneI_in x.gone; omega)
    all_goals
      refine ⟨?_, ?_⟩
      · (rw [len_wr]; omega)
      · rw [LoopS_eq]
        simp -implicitDefEqProofs (disch := first | omega | assumption) only [go_sem, Nat.reduceBEq, Nat.reduceAdd, Nat.reduceSub, Nat.reduceMul, Nat.reduceLeDiff, Nat.reduceEqDiff, Nat.reduceLT, Int.reduceNeg, Int.reduceAdd, Int.reduceSub, Int.reduceMul, Int.reduceLE, Int.reduceLT, Int.reduceEq, Int.reduceToNat, reduceCtorEq, evL64x0, B64x0, hi, hx, IntWalk.i64_in, List.map_append, List.foldl_cons, evC_draw, evD64x0, E64x0, hx, hvx, run_l2B, Wr.cells, Row.v, len_wr, u8s_wr, u8s_len, hst, sm1, sm2, kw1, kw2, IntKind.wrap_u8, if_true, if_false, elemsOf, elemOf]
        skip
-- find64
theorem run_bodyS (d : Nat) (e : Ent) (h : logOk [e] = true) : retP (runD tab noExt (d + 5)) 64 [.agg e.cells] = some [.sl false 1 (u8s (bodyB e))] := by
  obtain ⟨h1, h2, h3⟩ := one_at h
  have hbl := body_len h
  obtain ⟨hl, hle, _⟩ := loop_ebS d e.time e.wc e.ws h3 h2 1099511627775 (by omega) [e.time, (e.ws.length : Int)] ⟨by simp, by simp⟩
  have hbe : bodyB e = e.ws.foldl (fun b w => b ++ wrBytes w) [e.time, (e.ws.length : Int)] := rfl
  rw [← hbe] at hl hle
  have hi0 : u8s [e.time, (e.ws.length : Int)] = [[.int .u8 e.time], [.int .u8 e.ws.length]] := rfl
  simp only [hi0, List.length_cons, List.length_nil, Int.natCast_zero] at hl
  have ht : List.take (bodyB e).length (u8s (bodyB e)) = u8s (bodyB e) := List.take_of_length_le (by rw [u8s_len]; omega)
  have kt : e.time % 256 = e.time := by omega
  have kl : (e.ws.length : Int) % 256 = e.ws.length := by omega
  rw [retP, runD_eq find64 _ _ _ (by simp)]
  simp -implicitDefEqProofs (disch := omega) only [go_sem, Nat.reduceBEq, Nat.reduceAdd, Nat.reduceSub, Nat.reduceMul, Nat.reduceLeDiff, Nat.reduceEqDiff, Nat.reduceLT, Int.reduceNeg, Int.reduceAdd, Int.reduceSub, Int.reduceMul, Int.reduceLE, Int.reduceLT, Int.reduceEq, Int.reduceToNat, reduceCtorEq, Ent.cells, Ent.v, IntKind.wrap_u8, kt, kl, elemsOf, elemOf, frzs, refs, refC, refsV]
  try simp -implicitDefEqProofs only [go_sem, Nat.reduceBEq, Nat.reduceAdd, Nat.reduceSub, Nat.reduceMul, Nat.reduceLeDiff, Nat.reduceEqDiff, Nat.reduceLT, Int.reduceNeg, Int.reduceAdd, Int.reduceSub, Int.reduceMul, Int.reduceLE, Int.reduceLT, Int.reduceEq, Int.reduceToNat, reduceCtorEq] at hl
  rw [hl]
  simp -implicitDefEqProofs (disch := omega) only [go_sem, Nat.reduceBEq, Nat.reduceAdd, Nat.reduceSub, Nat.reduceMul, Nat.reduceLeDiff, Nat.reduceEqDiff, Nat.reduceLT, Int.reduceNeg, Int.reduceAdd, Int.reduceSub, Int.reduceMul, Int.reduceLE, Int.reduceLT, Int.reduceEq, Int.reduceToNat, reduceCtorEq, ht]
-- find16
theorem run_EntryBytesS (d : Nat) (e : Ent) (h1 : LimE [e]) : retP (runD tab noExt (d + 6)) 16 [.agg e.cells] = some [.sl false 1 (u8s (entBytes e))] := by
  obtain ⟨_, e2, e3⟩ := h1.fine
  have hv1 := run_logS d true [e] e3 e2
  simp only [List.map_cons, List.map_nil, Ent.cells, Ent.v] at hv1
  unfold entBytes
  cases o1 : logOk [e]
  · rw [o1] at hv1
    rw [retP, runD_eq find16 _ _ _ (by simp)]
    simp -implicitDefEqProofs (disch := omega) only [go_sem, Nat.reduceBEq, Nat.reduceAdd, Nat.reduceSub, Nat.reduceMul, Nat.reduceLeDiff, Nat.reduceEqDiff, Nat.reduceLT, Int.reduceNeg, Int.reduceAdd, Int.reduceSub, Int.reduceMul, Int.reduceLE, Int.reduceLT, Int.reduceEq, Int.reduceToNat, reduceCtorEq, Ent.cells, Ent.v, elemsOf, elemOf, frzs, refs, refC, refsV, hv1, u8s_nil, Bool.false_eq_true, if_false]
  · rw [o1] at hv1
    have hb := run_bodyS d e o1
    have hbl := body_len o1
    have hs := run_sumS (d + 4) false (bodyB e) (by omega) (in_body o1)
    simp only [Ent.cells, Ent.v] at hb
    have q1 : ((bodyB e).length : Int).tdiv 256 = (bodyB e).length / 256 := tdiv256 (by omega)
    have q2 : (((bodyB e).length : Int) / 256) % 256 = (bodyB e).length / 256 := mod_div (by omega)
    have q3 : ((bodyB e).length : Int).tmod 256 = (bodyB e).length % 256 := tmod256 (by omega)
    have cm : (2 + (bodyB e).length = (bodyB e).length + 2) = True := eq_true (by omega)
    have sm1 : 2 + (bodyB e).length < 4294967296 := by omega
    have sm2 : 2 + ((bodyB e).length + 1) < 4294967296 := by omega
    have ht : List.take (2 + ((bodyB e).length + 1)) (u8s (frB (bodyB e))) = u8s (frB (bodyB e)) := List.take_of_length_le (by rw [u8s_len]; simp [frB]; omega)
    rw [u8s_fr] at ht
    simp only [if_true, u8s_fr]
    rw [retP, runD_eq find16 _ _ _ (by simp)]
    simp -implicitDefEqProofs (disch := omega) only [go_sem, Nat.reduceBEq, Nat.reduceAdd, Nat.reduceSub, Nat.reduceMul, Nat.reduceLeDiff, Nat.reduceEqDiff, Nat.reduceLT, Int.reduceNeg, Int.reduceAdd, Int.reduceSub, Int.reduceMul, Int.reduceLE, Int.reduceLT, Int.reduceEq, Int.reduceToNat, reduceCtorEq, Ent.cells, Ent.v, hv1, hb, hs, u8s_len, IntKind.wrap_u8, IntWalk.i64_in, mod_mod, q1, q2, q3, cm, sm1, sm2, ht, elemsOf, elemOf, frzs, refs, refC, refsV]
end Go.Proofs.Yteaojpfofifmnaa.PE
/- Bytes of entries: what both functions tell, for the exact statement. -/
set_option linter.unusedSimpArgs false
set_option linter.unusedVariables false
namespace Go.Proofs.Yteaojpfofifmnaa.PE
open Go.RowKit

theorem wrBytes_own (w : Wr) : wrBytes w.own = wrBytes w := rfl
theorem bodyB_own (e : Ent) : bodyB e.own = bodyB e := by
  have : (e.ws.map Wr.own).flatMap wrBytes = e.ws.flatMap wrBytes := by rw [List.flatMap_map]; rfl
  rw [bodyB_eq, bodyB_eq]
  show e.time :: ((e.ws.map Wr.own).length : Int) :: (e.ws.map Wr.own).flatMap wrBytes = _
  rw [this, List.length_map]
theorem entBytes_own (e : Ent) : entBytes e.own = entBytes e := by
  have : logOk [e.own] = logOk [e] := logOk_own [e]
  rw [entBytes, entBytes, this, bodyB_own]
theorem entBytes_vs {a b : Ent} (h : entU a = entU b) : entBytes a = entBytes b := by rw [← entBytes_own a, ← entBytes_own b, entU_inj h]
theorem frB_len (b : List Int) : (frB b).length = b.length + 3 := by simp [frB]
theorem entBytes_len (e : Ent) : (entBytes e).length ≤ 180 := by
  unfold entBytes
  split
  · rename_i h
    have := body_len h
    rw [frB_len]
    omega
  · simp
theorem by_len (l : List Int) : (byU l).length = l.length := List.length_map _
theorem by_pur (c : Bool) (l : List Int) : PurF (.sub fdByte) (.sl c 1 (u8s l)) (.sub (byU l)) := pur_map (fun n => purR_mk_Byte n) c 1 rfl l
theorem by_lenF {n m : Nat} {l : List Int} (h : l.length ≤ n) : LenF n m (.sub fdByte) (.sub (byU l)) := by
  simp only [LenF]
  exact ⟨by rw [by_len]; exact h, all_flat (by simp [fdByte]) _⟩
theorem by_cnt {l : List Int} (h : l.length ≤ 1048576) : (cntF (.sub fdByte) (.sub (byU l)) : Int) ≤ 2305843009213693952 := by
  simp only [cntF, fdByte]
  have := sum_one (f := .int .u8) (fun u => by cases u <;> rfl) (byU l)
  rw [by_len] at this
  omega
theorem core_EntryBytes (s0_0 : Int) {x0_1 : List (List U)} (h0_1 : ∃ p, PurF (.sub fdWrite) p (.sub x0_1)) (L0x1 : LenF 1048576 1048576 (.sub fdWrite) (.sub x0_1)) :
    ∃ ux, LenF big big (.sub fdByte) (.sub ux) ∧ (cntF (.sub fdByte) (.sub ux) : Int) ≤ 2305843009213693952 ∧
      (∀ {q0 : V}, PurF (.sub fdWrite) q0 (.sub x0_1) → ∃ w, retP (runD tab noExt 60) 16 [.agg [.int .i64 s0_0, q0]] = some [w] ∧ PurF (.sub fdByte) w (.sub ux)) ∧
      (∀ {q0 : V}, PurF (.sub fdWrite) q0 (.sub x0_1) → ∃ v hc ids, runD tab noExt 60 18 [.agg [.int .i64 s0_0, q0]] [] = some ([v], hc) ∧ OwnF hc (.sub fdByte) v (.sub ux) ids ∧ ids.Nodup) := by
  obtain ⟨p0, g0⟩ := h0_1
  obtain ⟨wc, ws, rfl, rfl⟩ := wrs_each g0
  have limk : ∀ (c : Bool) (ws2 : List Wr), ws2.map wrU = ws.map wrU → LimE [⟨s0_0, c, ws2⟩] := by
    intro c ws2 f
    rw [← f] at L0x1
    obtain ⟨a1, a2⟩ := wrs_lim L0x1
    exact ⟨by simp, fun e he => by rw [List.mem_singleton.1 he]; exact ⟨a1, a2⟩⟩
  have hlen := entBytes_len ⟨s0_0, wc, ws⟩
  refine ⟨byU (entBytes ⟨s0_0, wc, ws⟩), LenF_mono (n := 1048576) (m := 1048576) (by decide) (by decide) _ (by_lenF (by omega)), by_cnt (by omega), fun k0 => ?_, fun k0 => ?_⟩
  all_goals
    obtain ⟨c0, ws2, rfl, f0⟩ := wrs_each k0
    have lk2 := limk c0 ws2 f0.symm
    have t : entBytes ⟨s0_0, wc, ws⟩ = entBytes ⟨s0_0, c0, ws2⟩ := entBytes_vs (by simp [entU, f0])
    rw [t]
  · exact ⟨_, run_EntryBytesS 54 ⟨s0_0, c0, ws2⟩ lk2, by_pur _ _⟩
  · exact own_EntryBytes 50 ⟨s0_0, c0, ws2⟩ lk2
end Go.Proofs.Yteaojpfofifmnaa.PE
/- The exact statement of FnExactEntryBytes. -/
set_option linter.unusedVariables false
set_option linter.unusedSimpArgs false
set_option maxHeartbeats 8000000
set_option maxRecDepth 20000
namespace Go.Proofs.Yteaojpfofifmnaa.PE
open Go.RowKit

-- find3
theorem law_FnExactEntryBytes (s0_0 : Int) {p0_1 : V} {x0_1 : List (List U)} (g0_1 : PurF (.sub fdWrite) p0_1 (.sub x0_1)) (B0x1 : LenF 9223372036854775807 9223372036854775807 (.sub fdWrite) (.sub x0_1)) : ∃ d h1, runD tab noExt d 3 [.agg [.int .i64 s0_0, p0_1]] [] = some ([.bool true], h1) := by
  refine ⟨61, ?_⟩
  rw [runD_eq find3 _ _ _ (by simp)]
  obtain ⟨cl0_1, ct0_1, rfl, hz0_1⟩ := purS_Write g0_1
  have hl0_1 := Zip2_len hz0_1
  have BR0 : LenR 9223372036854775807 9223372036854775807 fdEntry [.int s0_0, .sub x0_1] := by simp only [fdEntry, LenR]; exact ⟨(by simp [LenF]), B0x1, trivial⟩
  have z0 := run_szEntry 55 s0_0 (.sl cl0_1 3 ct0_1) _ g0_1 (1048576) BR0 (by omega) (by omega)
  have y0 := szR_spec (N := 1048576) fdEntry [.int s0_0, .sub x0_1] (1048576) (by decide) (by omega)
  generalize szR fdEntry [.int s0_0, .sub x0_1] (1048576) = l0 at z0 y0
  by_cases q0 : l0 < 0
  · simp -implicitDefEqProofs (disch := omega) only [go_sem, Nat.reduceBEq, Nat.reduceAdd, Nat.reduceSub, Nat.reduceMul, Nat.reduceLeDiff, Nat.reduceEqDiff, Nat.reduceLT, Int.reduceNeg, Int.reduceAdd, Int.reduceSub, Int.reduceMul, Int.reduceLE, Int.reduceLT, Int.reduceEq, Int.reduceToNat, reduceCtorEq, evC_draw, evD3x0, E3x0, z0, q0]
    exact ⟨_, rfl⟩
  obtain ⟨y0a, LR0, y0c⟩ := y0 (by omega) (by omega)
  simp only [fdEntry, LenR] at LR0
  simp only [fdEntry, cntR, cntF_int, cntF_bool, cntF_str, List.length_cons, List.length_nil] at y0c
  have L0x1 := LR0.2.1
  have M0_1 := LenF_mono (n' := big) (m' := big) (by decide) (by decide) _ L0x1
  have P0_1 : x0_1.length ≤ 1048576 ∧ AllU (LenR 1048576 1048576 fdWrite) x0_1 := by simpa only [LenF] using L0x1
  obtain ⟨ux, C1, C2, cS, cI⟩ := core_EntryBytes s0_0 ⟨_, g0_1⟩ L0x1
  obtain ⟨hI, hbI⟩ : ∃ hb : Heap, hb = [Blk.box [.int .i64 s0_0, (.sl cl0_1 3 ct0_1)]] := ⟨_, rfl⟩
  have mI : hI.length = 1 := by rw [hbI]; rfl
  have BI0 : hI[0]? = some (Blk.box [.int .i64 s0_0, (.sl cl0_1 3 ct0_1)]) := by rw [hbI]; rfl
  have eI := hbI.symm
  obtain ⟨cs0, h0, s0, e0, a0, u0, w0, f0, m0⟩ := run_toEntry 55 hI s0_0 g0_1 L0x1
  obtain ⟨sq0_0, t0_1, xx0_1, s0_1, rfl, ex0, es0, a0_1⟩ := ownR_Entry a0
  have es0' := es0.symm
  subst es0'
  simp only [List.cons.injEq, U.int.injEq, U.bool.injEq, U.str.injEq, U.sub.injEq, and_true] at ex0
  obtain ⟨rfl, rfl⟩ := ex0
  have B1x := (f0 _ (List.getElem?_eq_some_iff.1 BI0).1).trans BI0
  have b0_1 : ∀ j ∈ s0_1, hI.length ≤ j ∧ j < h0.length := fun j hj => ⟨w0 j (by simp [hj]), OwnF_lt _ a0_1 j hj⟩
  obtain ⟨qsw0_1, zsw0_1, ysw0_1⟩ := OwnF_pure (.sub fdWrite) 6 (by decide) a0_1
  have xsw0_1 := pureDA_of a0_1 zsw0_1
  obtain ⟨w, eS, gw⟩ := cS ysw0_1
  have eW := call_specB (h := h0) (args := [.agg [.int .i64 s0_0, t0_1]]) (by simp only [pureDAs, mapO, pureDA_int, pureDA_bool, pureDA_str, pureDA_agg, pureD_intv, pureD_boolv, pureD_strv, Option.map_some, zsw0_1, xsw0_1]) eS
  obtain ⟨hd, hdE⟩ : ∃ hb : Heap, hb = h0.map deadB := ⟨_, rfl⟩
  have mD : hd.length = h0.length := by rw [hdE]; simp
  rw [← hdE] at eW
  have B2x : hd[0]? = some (Blk.box [.int .i64 s0_0, (.sl cl0_1 3 ct0_1)]) := by rw [hdE, List.getElem?_map, B1x]; rfl
  try simp only [oneOf] at eW
  obtain ⟨cs1, h1, s1, e1, a1, u1, w1, f1, m1⟩ := run_toEntry 55 hd s0_0 g0_1 L0x1
  obtain ⟨sq1_0, t1_1, xx1_1, s1_1, rfl, ex1, es1, a1_1⟩ := ownR_Entry a1
  have es1' := es1.symm
  subst es1'
  simp only [List.cons.injEq, U.int.injEq, U.bool.injEq, U.str.injEq, U.sub.injEq, and_true] at ex1
  obtain ⟨rfl, rfl⟩ := ex1
  have B3x := (f1 _ (List.getElem?_eq_some_iff.1 B2x).1).trans B2x
  have b1_1 : ∀ j ∈ s1_1, hd.length ≤ j ∧ j < h1.length := fun j hj => ⟨w1 j (by simp [hj]), OwnF_lt _ a1_1 j hj⟩
  obtain ⟨h2, hbe2⟩ : ∃ hb : Heap, hb = h1 ++ [Blk.box [.int .i64 s0_0, t1_1]] := ⟨_, rfl⟩
  have f2 : ∀ j, j < h1.length → h2[j]? = h1[j]? := fun j hj => by rw [hbe2, List.getElem?_append_left hj]
  have m2 : h1.length < h2.length := by rw [hbe2]; simp
  have B2b : h2[h1.length]? = some (Blk.box [.int .i64 s0_0, t1_1]) := by rw [hbe2]; simp
  have e2 := hbe2.symm
  have o4x := OwnF_frame _ a1_1 (fun j hj => f2 j (OwnF_lt _ a1_1 j hj))
  have B5x := (f2 _ (List.getElem?_eq_some_iff.1 B3x).1).trans B3x
  obtain ⟨qgx0_1, zgx0_1, ygx0_1⟩ := OwnF_pure (.sub fdWrite) 6 (by decide) o4x
  have xgx0_1 := pureDA_of o4x zgx0_1
  obtain ⟨v3, c3, d3, r3, o3, n3'⟩ := cI ygx0_1
  obtain ⟨t3, h3, s3, e3, a3, u3, w3, f3, m3⟩ := own_call (h := h2) (args := [.agg [.int .i64 s0_0, t1_1]]) (by simp only [pureDAs, mapO, pureDA_int, pureDA_bool, pureDA_str, pureDA_agg, pureD_intv, pureD_boolv, pureD_strv, Option.map_some, zgx0_1, xgx0_1]) r3 o3 n3'
  have b3 := own_ids a3 w3
  have o6x := OwnF_frame _ o4x (fun j hj => f3 j (OwnF_lt _ o4x j hj))
  have B7x := (f3 _ (List.getElem?_eq_some_iff.1 B5x).1).trans B5x
  have B8x := (f3 _ (List.getElem?_eq_some_iff.1 B2b).1).trans B2b
  obtain ⟨qgagR, zgagR, ygagR⟩ := OwnF_pure (.sub fdByte) 6 (by decide) a3
  have xgagR := pureDA_of a3 zgagR
  have Ega := call_bool (h := h3) (args := [t3, w]) (by simp only [pureDAs, mapO, zgagR, xgagR, pureDA_pur gw]) (run_eqByteS 59 ygagR gw C1)
  obtain ⟨cs4, h4, s4, e4, a4, u4, w4, f4, m4⟩ := run_toEntry 55 h3 s0_0 g0_1 L0x1
  obtain ⟨sq4_0, t4_1, xx4_1, s4_1, rfl, ex4, es4, a4_1⟩ := ownR_Entry a4
  have es4' := es4.symm
  subst es4'
  simp only [List.cons.injEq, U.int.injEq, U.bool.injEq, U.str.injEq, U.sub.injEq, and_true] at ex4
  obtain ⟨rfl, rfl⟩ := ex4
  have o9x := OwnF_frame _ o6x (fun j hj => f4 j (OwnF_lt _ o6x j hj))
  have o10x := OwnF_frame _ a3 (fun j hj => f4 j (OwnF_lt _ a3 j hj))
  have B11x := (f4 _ (List.getElem?_eq_some_iff.1 B7x).1).trans B7x
  have B12x := (f4 _ (List.getElem?_eq_some_iff.1 B8x).1).trans B8x
  have b4_1 : ∀ j ∈ s4_1, h3.length ≤ j ∧ j < h4.length := fun j hj => ⟨w4 j (by simp [hj]), OwnF_lt _ a4_1 j hj⟩
  obtain ⟨qA0x0_1, zA0x0_1, yA0x0_1⟩ := OwnF_pure (.sub fdWrite) 6 (by decide) o9x
  have xA0x0_1 := pureDA_of o9x zA0x0_1
  obtain ⟨qB0y0_1, zB0y0_1, yB0y0_1⟩ := OwnF_pure (.sub fdWrite) 6 (by decide) a4_1
  have xB0y0_1 := pureDA_of a4_1 zB0y0_1
  have EA0 := call_bool (h := h4) (args := [.agg [.int .i64 s0_0, t1_1], .agg [.int .i64 s0_0, t4_1]]) (by simp only [pureDAs, mapO, pureDA_int, pureDA_bool, pureDA_str, pureDA_agg, pureD_intv, pureD_boolv, pureD_strv, Option.map_some, zA0x0_1, xA0x0_1, zB0y0_1, xB0y0_1]) (run_eqEntry 55 s0_0 yA0x0_1 yB0y0_1 M0_1)
  obtain ⟨h5, zmx0_1, e5, a5_0, k5_0, z5_0x, f5, m5⟩ := run_markEntry 56 (h := h4) (k := (1 : Int)) s0_0 o9x u1 M0_1 (by omega) (by omega)
  have o13x := OwnF_frame _ o10x (fun j hj => f5 j (by have z := b3 j hj; first | omega | (have := OwnF_lt _ o10x j hj; omega)) (fun hm => by have z1 := b3 j hj; have z2 := b1_1 j hm; omega))
  have B14x := (f5 _ (List.getElem?_eq_some_iff.1 B11x).1 (fun hm => by have z2 := b1_1 _ hm; omega)).trans B11x
  have B15x := (f5 _ (List.getElem?_eq_some_iff.1 B12x).1 (fun hm => by have z2 := b1_1 _ hm; omega)).trans B12x
  have K0 : (((1 : Int) + cntF (.sub fdWrite) (.sub x0_1)) < 0) = False := eq_false (by omega)
  obtain ⟨qgbgR, zgbgR, ygbgR⟩ := OwnF_pure (.sub fdByte) 6 (by decide) o13x
  have xgbgR := pureDA_of o13x zgbgR
  have Egb := call_bool (h := h5) (args := [t3, w]) (by simp only [pureDAs, mapO, zgbgR, xgbgR, pureDA_pur gw]) (run_eqByteS 59 ygbgR gw C1)
  obtain ⟨h6, zG, e6, a6, k6, z6x, f6', m6⟩ := run_markByteS 59 o13x u3 C1 (k := 1) (by omega) (by omega)
  have f6 : ∀ j, j < h5.length → j ∉ s3 → h6[j]? = h5[j]? := fun j _ hj => f6' j hj
  have o16x := OwnF_frame _ a5_0 (fun j hj => f6 j (by have z := b1_1 j hj; first | omega | (have := OwnF_lt _ a5_0 j hj; omega)) (fun hm => by have z1 := b1_1 j hj; have z2 := b3 j hm; omega))
  have B17x := (f6 _ (List.getElem?_eq_some_iff.1 B14x).1 (fun hm => by have z2 := b3 _ hm; omega)).trans B14x
  have B18x := (f6 _ (List.getElem?_eq_some_iff.1 B15x).1 (fun hm => by have z2 := b3 _ hm; omega)).trans B15x
  have K1 : (((1 : Int) + cntF (.sub fdByte) (.sub ux)) < 0) = False := eq_false (by omega)
  obtain ⟨qhagR, zhagR, yhagR⟩ := OwnF_pure (.sub fdByte) 6 (by decide) a6
  have xhagR := pureDA_of a6 zhagR
  have Eha := call_int (h := h6) (args := [t3, .int .i64 1]) (by simp only [pureDAs, mapO, pureDA_int, pureDA_bool, pureDA_str, pureDA_agg, pureD_intv, pureD_boolv, pureD_strv, Option.map_some, zhagR, xhagR]) (run_heldByteS 59 yhagR k6 (by omega) (by omega) z6x)
  obtain ⟨cs7, h7, s7, e7, a7, u7, w7, f7, m7⟩ := run_toEntry 55 h6 s0_0 g0_1 L0x1
  obtain ⟨sq7_0, t7_1, xx7_1, s7_1, rfl, ex7, es7, a7_1⟩ := ownR_Entry a7
  have es7' := es7.symm
  subst es7'
  simp only [List.cons.injEq, U.int.injEq, U.bool.injEq, U.str.injEq, U.sub.injEq, and_true] at ex7
  obtain ⟨rfl, rfl⟩ := ex7
  have o19x := OwnF_frame _ a6 (fun j hj => f7 j (OwnF_lt _ a6 j hj))
  have B20x := (f7 _ (List.getElem?_eq_some_iff.1 B17x).1).trans B17x
  have B21x := (f7 _ (List.getElem?_eq_some_iff.1 B18x).1).trans B18x
  have b7_1 : ∀ j ∈ s7_1, h6.length ≤ j ∧ j < h7.length := fun j hj => ⟨w7 j (by simp [hj]), OwnF_lt _ a7_1 j hj⟩
  obtain ⟨qkh0_1, zkh0_1, ykh0_1⟩ := OwnF_pure (.sub fdWrite) 6 (by decide) a7_1
  have xkh0_1 := pureDA_of a7_1 zkh0_1
  obtain ⟨v8, c8, d8, r8, o8, n8'⟩ := cI ykh0_1
  obtain ⟨t8, h8, s8, e8, a8, u8, w8, f8, m8⟩ := own_call (h := h7) (args := [.agg [.int .i64 s0_0, t7_1]]) (by simp only [pureDAs, mapO, pureDA_int, pureDA_bool, pureDA_str, pureDA_agg, pureD_intv, pureD_boolv, pureD_strv, Option.map_some, zkh0_1, xkh0_1]) r8 o8 n8'
  have b8 := own_ids a8 w8
  have o22x := OwnF_frame _ o19x (fun j hj => f8 j (OwnF_lt _ o19x j hj))
  have o23x := OwnF_frame _ a7_1 (fun j hj => f8 j (OwnF_lt _ a7_1 j hj))
  have B24x := (f8 _ (List.getElem?_eq_some_iff.1 B20x).1).trans B20x
  have B25x := (f8 _ (List.getElem?_eq_some_iff.1 B21x).1).trans B21x
  obtain ⟨qgckR, zgckR, ygckR⟩ := OwnF_pure (.sub fdByte) 6 (by decide) a8
  have xgckR := pureDA_of a8 zgckR
  have Egc := call_bool (h := h8) (args := [t8, w]) (by simp only [pureDAs, mapO, zgckR, xgckR, pureDA_pur gw]) (run_eqByteS 59 ygckR gw C1)
  obtain ⟨qhbgR, zhbgR, yhbgR⟩ := OwnF_pure (.sub fdByte) 6 (by decide) o22x
  have xhbgR := pureDA_of o22x zhbgR
  have Ehb := call_int (h := h8) (args := [t3, .int .i64 1]) (by simp only [pureDAs, mapO, pureDA_int, pureDA_bool, pureDA_str, pureDA_agg, pureD_intv, pureD_boolv, pureD_strv, Option.map_some, zhbgR, xhbgR]) (run_heldByteS 59 yhbgR k6 (by omega) (by omega) z6x)
  simp -implicitDefEqProofs (disch := omega) only [go_sem, Nat.reduceBEq, Nat.reduceAdd, Nat.reduceSub, Nat.reduceMul, Nat.reduceLeDiff, Nat.reduceEqDiff, Nat.reduceLT, Int.reduceNeg, Int.reduceAdd, Int.reduceSub, Int.reduceMul, Int.reduceLE, Int.reduceLT, Int.reduceEq, Int.reduceToNat, reduceCtorEq, evC_draw, evD3x0, E3x0, z0, q0, K0, K1, BI0, eI, B1x, e0, B2x, eW, B3x, e1, B5x, e2, B2b, B7x, B8x, e3, Ega, B11x, B12x, e4, EA0, B14x, B15x, e5, Egb, B17x, B18x, e6, Eha, B20x, B21x, e7, B24x, B25x, e8, Egc, Ehb]
  exact ⟨_, rfl⟩
end Go.Proofs.Yteaojpfofifmnaa.PE
/- Arguments of any plain kind, as they are read: values of the evaluator. -/
set_option linter.unusedVariables false
set_option linter.unusedSimpArgs false
namespace Go.Proofs.Yteaojpfofifmnaa.PE
open Go.RowKit

mutual
def tyF (P : Program) : Nat → TypeId → Fd → Bool
  | 0, _, _ => false
  | n + 1, t, .int k => match P.underlying t with
    | some (.int k') => decide (k' = k)
    | _ => false
  | n + 1, t, .bool => match P.underlying t with
    | some .bool => true
    | _ => false
  | n + 1, t, .str => match P.underlying t with
    | some .string => true
    | _ => false
  | n + 1, t, .sub fs => match P.underlying t with
    | some (.slice e) => decide (P.cellsOf e = fs.length) && decide (0 < fs.length) && tyR P n e fs
    | _ => false
def tyR (P : Program) : Nat → TypeId → List Fd → Bool
  | 0, _, _ => false
  | n + 1, t, fs => match P.underlying t with
    | some (.struct flds) => decide (P.cellsOf t = fs.length) && tyS P n flds.toList 0 fs
    | _ => match fs with
      | [f] => tyF P n t f
      | _ => false
def tyS (P : Program) : Nat → List Field → Nat → List Fd → Bool
  | 0, _, _, _ => false
  | n + 1, [], _, fs => fs.isEmpty
  | n + 1, fl :: r, off, fs => decide (fl.offset = off) && tyR P n fl.type (fs.take (P.cellsOf fl.type)) && decide (P.cellsOf fl.type ≤ fs.length) && tyS P n r (off + P.cellsOf fl.type) (fs.drop (P.cellsOf fl.type))
end

def B63 : Nat := 9223372036854775807
section
variable {H : Type} {enc : TypeId × Value → H} {P : Program} {w : World} {base : Nat} {spare : Nat → Bool} {held : Bool}

/-- Cells and what they are. -/
def Got (w : World) (fs : List Fd) (cs : List Value) : Prop := ∃ (ps : List V) (us : List U), PurR fs ps us ∧ LenR B63 B63 fs us ∧ ps.length = cs.length ∧ ∀ (i : Nat) (y : V), ps[i]? = some y → ∃ u, cs[i]? = some u ∧ Rep w (fun b => b < w.heap.size) u y
theorem Got.one {f : Fd} {v : Value} {p : V} {u : U} (h1 : PurF f p u) (h2 : LenF B63 B63 f u) (h3 : Rep w (fun b => b < w.heap.size) v p) : Got w [f] [v] := by
  refine ⟨[p], [u], by simp only [PurR]; exact ⟨p, [], u, [], rfl, rfl, h1, rfl, rfl⟩, by simp only [LenR]; exact ⟨h2, trivial⟩, rfl, fun i y hy => ?_⟩
  cases i with
  | zero => simp at hy; subst hy; exact ⟨v, rfl, h3⟩
  | succ i => simp at hy
theorem PurR_len : ∀ {fs : List Fd} {ps : List V} {us : List U}, PurR fs ps us → ps.length = fs.length ∧ us.length = fs.length
  | [], _, _, h => by simp only [PurR] at h; rw [h.1, h.2]; exact ⟨rfl, rfl⟩
  | f :: fs, _, _, h => by
    simp only [PurR] at h
    obtain ⟨v, c', u, x', rfl, rfl, _, h2⟩ := h
    have := PurR_len h2
    simp [this.1, this.2]
theorem PurR_app : ∀ {f1 f2 : List Fd} {p1 p2 : List V} {u1 u2 : List U}, PurR f1 p1 u1 → PurR f2 p2 u2 → PurR (f1 ++ f2) (p1 ++ p2) (u1 ++ u2)
  | [], _, _, _, _, _, h, h2 => by simp only [PurR] at h; rw [h.1, h.2]; exact h2
  | f :: f1, f2, _, p2, _, u2, h, h2 => by
    simp only [PurR] at h
    obtain ⟨v, c', u, x', rfl, rfl, h3, h4⟩ := h
    show PurR (f :: (f1 ++ f2)) _ _
    simp only [PurR]
    exact ⟨v, c' ++ p2, u, x' ++ u2, rfl, rfl, h3, PurR_app h4 h2⟩
theorem LenR_app {n m : Nat} : ∀ {f1 f2 : List Fd} {u1 u2 : List U}, u1.length = f1.length → LenR n m f1 u1 → LenR n m f2 u2 → LenR n m (f1 ++ f2) (u1 ++ u2)
  | [], _, u1, _, hl, _, h2 => by
    have : u1 = [] := List.eq_nil_of_length_eq_zero hl
    subst this
    exact h2
  | f :: f1, f2, u :: u1, u2, hl, h, h2 => by
    show LenR n m (f :: (f1 ++ f2)) (u :: (u1 ++ u2))
    simp only [LenR] at h ⊢
    exact ⟨h.1, LenR_app (by simpa using hl) h.2 h2⟩
  | _ :: _, _, [], _, hl, _, _ => by simp at hl
theorem Got.app {f1 f2 : List Fd} {c1 c2 : List Value} (h1 : Got w f1 c1) (h2 : Got w f2 c2) : Got w (f1 ++ f2) (c1 ++ c2) := by
  obtain ⟨p1, u1, a1, a2, a3, a4⟩ := h1
  obtain ⟨p2, u2, b1, b2, b3, b4⟩ := h2
  refine ⟨p1 ++ p2, u1 ++ u2, PurR_app a1 b1, LenR_app (PurR_len a1).2 a2 b2, by simp [a3, b3], fun i y hy => ?_⟩
  rcases Nat.lt_or_ge i p1.length with hi | hi
  · rw [List.getElem?_append_left hi] at hy
    obtain ⟨u, hu, hr⟩ := a4 i y hy
    exact ⟨u, by rw [List.getElem?_append_left (by omega)]; exact hu, hr⟩
  · rw [List.getElem?_append_right hi] at hy
    obtain ⟨u, hu, hr⟩ := b4 _ y hy
    exact ⟨u, by rw [List.getElem?_append_right (by omega), ← a3]; exact hu, hr⟩

theorem plain_addr {a : Addr} {v : Value} (h : w.cell? a = some v) : ∃ g o, a = ⟨g, o, none⟩ ∧ g < w.heap.size := by
  obtain ⟨g, o, sp⟩ := a
  unfold World.cell? at h
  have hg : g < w.heap.size := by
    rcases Nat.lt_or_ge g w.heap.size with h1 | h1
    · exact h1
    · rw [Array.getElem?_eq_none h1] at h; cases sp <;> simp at h
  cases sp with
  | none => exact ⟨g, o, rfl, hg⟩
  | some s => simp at h; split at h <;> cases h

/-- A slice out of its elements. -/
theorem got_slice {fs : List Fd} {a : Addr} {len cap : Nat} (hpos : 0 < fs.length) (hl : len ≤ cap) (hm : cap ≤ maxLen) (hx : ∀ i, i < len → ∃ cs', w.cells? base (a.add (i * fs.length)) fs.length = some cs' ∧ Got w fs cs') :
    Got w [.sub fs] [.slice (some a) len cap] := by
  have hx' : ∀ i, i < len → ∃ q : List V × List U × List Value, w.cells? base (a.add (i * fs.length)) fs.length = some q.2.2 ∧ PurR fs q.1 q.2.1 ∧ LenR B63 B63 fs q.2.1 ∧ q.1.length = q.2.2.length ∧ ∀ (j : Nat) (y : V), q.1[j]? = some y → ∃ u, q.2.2[j]? = some u ∧ Rep w (fun b => b < w.heap.size) u y := by
    intro i hi
    obtain ⟨cs', h1, ps, us, h2, h3, h4, h5⟩ := hx i hi
    exact ⟨(ps, us, cs'), h1, h2, h3, h4, h5⟩
  obtain ⟨q, hq⟩ := Go.Deep.choose_lt hx'
  have hzip : ∀ (n : Nat), n ≤ len → Zip2 (PurR fs) ((List.range n).map fun i => (q i).1) ((List.range n).map fun i => (q i).2.1) ∧ AllU (LenR B63 B63 fs) ((List.range n).map fun i => (q i).2.1) := by
    have z2 : ∀ {l1 : List (List V)} {l2 : List (List U)} {c : List V} {x : List U}, Zip2 (PurR fs) l1 l2 → PurR fs c x → Zip2 (PurR fs) (l1 ++ [c]) (l2 ++ [x]) := by
      intro l1
      induction l1 with
      | nil => intro l2 c x h hc; cases l2 with
        | nil => exact ⟨hc, trivial⟩
        | cons b bs => exact h.elim
      | cons a l1 ih => intro l2 c x h hc; cases l2 with
        | nil => exact h.elim
        | cons b bs => exact ⟨h.1, ih h.2 hc⟩
    have a2 : ∀ {l2 : List (List U)} {x : List U}, AllU (LenR B63 B63 fs) l2 → LenR B63 B63 fs x → AllU (LenR B63 B63 fs) (l2 ++ [x]) := by
      intro l2
      induction l2 with
      | nil => intro x _ hx; exact ⟨hx, trivial⟩
      | cons b bs ih => intro x h hx; exact ⟨h.1, ih h.2 hx⟩
    intro n
    induction n with
    | zero => intro _; exact ⟨trivial, trivial⟩
    | succ n ih =>
      intro hn
      obtain ⟨i1, i2⟩ := ih (by omega)
      obtain ⟨_, b1, b2, _⟩ := hq n (by omega)
      rw [List.range_succ, List.map_append, List.map_append]
      exact ⟨z2 i1 b1, a2 i2 b2⟩
  obtain ⟨z1, z2⟩ := hzip len (Nat.le_refl _)
  have hml : maxLen = 9223372036854775807 := by decide
  refine Got.one (p := .sl false fs.length ((List.range len).map fun i => (q i).1)) (u := .sub ((List.range len).map fun i => (q i).2.1)) ?_ ?_ ?_
  · simp only [PurF]
    exact ⟨false, _, _, rfl, rfl, z1⟩
  · simp only [LenF, List.length_map, List.length_range]
    exact ⟨by unfold B63; omega, z2⟩
  · have hlen : ∀ j x, ((List.range len).map fun i => (q i).1)[j]? = some x → j < len ∧ x = (q j).1 := by
      intro j x hx
      rw [List.getElem?_map] at hx
      obtain ⟨k, hk, rfl⟩ := Option.map_eq_some_iff.1 hx
      have hj : j < len := by
        have := (List.getElem?_eq_some_iff.1 hk).1
        simpa using this
      rw [List.getElem?_range hj] at hk
      injection hk with hk
      subst hk
      exact ⟨hj, rfl⟩
    have hcell : ∀ (j c : Nat) (y : V), j < len → (q j).1[c]? = some y → ∃ u, (q j).2.2[c]? = some u ∧ w.cell? ((a.add (j * fs.length)).add c) = some u ∧ Rep w (fun b => b < w.heap.size) u y := by
      intro j c y hj hy
      obtain ⟨h1, h2, h3, h4, h5⟩ := hq j hj
      obtain ⟨_, h6, h7⟩ := World.cells?_some h1
      obtain ⟨u, hu, hr⟩ := h5 c y hy
      have hc : c < fs.length := by
        have := (List.getElem?_eq_some_iff.1 hu).1
        omega
      exact ⟨u, hu, (h7 c hc).trans hu, hr⟩
    refine Rep.sl (some a) len cap false _ fs.length (fun j c => ((q j).2.2[c]?).getD undef) (by simp) hl (fun e => by cases e) hpos (fun x hx => ?_) (fun hn => ?_) (fun j c x y hx hy => ?_)
    · obtain ⟨j, hj⟩ := List.getElem?_of_mem hx
      obtain ⟨h1, rfl⟩ := hlen j x hj
      exact (PurR_len (hq j h1).2.1).1
    · have h0 := (PurR_len (hq 0 hn).2.1).1
      have hy0 : (q 0).1[0]? = some (q 0).1[0] := List.getElem?_eq_getElem (by omega)
      obtain ⟨u0, _, c0, _⟩ := hcell 0 0 _ hn hy0
      rw [Nat.zero_mul] at c0
      have ha : (a.add 0).add 0 = a := by simp [Addr.add]
      rw [ha] at c0
      obtain ⟨g, o, rfl, hg⟩ := plain_addr c0
      refine ⟨g, o, rfl, hg, fun j c x y hx hy => ?_⟩
      obtain ⟨h1, rfl⟩ := hlen j x hx
      obtain ⟨u, hu, hc, _⟩ := hcell j c y h1 hy
      rw [add0, add0] at hc
      rw [hc, hu]
      rfl
    · obtain ⟨h1, rfl⟩ := hlen j x hx
      obtain ⟨u, hu, _, hr⟩ := hcell j c y h1 hy
      show Rep w _ (((q j).2.2[c]?).getD undef) y
      rw [hu]
      exact hr

mutual
theorem gotF : ∀ (n : Nat) {t : TypeId} {f : Fd} {fuel : Nat} {cs : List Value} {x : DataW H × List MemPlace}, tyF P n t f = true → DataW.trod enc P w base spare held fuel t cs = some x → Got w [f] cs
  | 0, _, _, _, _, _, ht, _ => by simp [tyF] at ht
  | n + 1, t, .int k, fuel, cs, x, ht, h => by
    simp only [tyF] at ht
    split at ht
    · rename_i k' hu
      simp only [decide_eq_true_eq] at ht
      subst ht
      obtain ⟨m, rfl, _, _⟩ := DataW.trod_int hu h
      exact Got.one (p := .int k' m) (u := .int m) (by simp only [PurF]; exact ⟨m, rfl, rfl⟩) (by simp [LenF]) (.int _ _)
    · cases ht
  | n + 1, t, .bool, fuel, cs, x, ht, h => by
    simp only [tyF] at ht
    split at ht
    · rename_i hu
      obtain ⟨m, rfl, _⟩ := DataW.trod_bool hu h
      exact Got.one (p := .bool m) (u := .bool m) (by simp only [PurF]; exact ⟨m, rfl, rfl⟩) (by simp [LenF]) (.bool _)
    · cases ht
  | n + 1, t, .str, fuel, cs, x, ht, h => by
    simp only [tyF] at ht
    split at ht
    · rename_i hu
      obtain ⟨m, rfl, _, hm⟩ := DataW.trod_string hu h
      have hml : maxLen = 9223372036854775807 := by decide
      exact Got.one (p := .str m) (u := .str m) (by simp only [PurF]; exact ⟨m, rfl, rfl⟩) (by simp only [LenF]; unfold B63; omega) (.str _)
    · cases ht
  | n + 1, t, .sub fs, fuel, cs, x, ht, h => by
    simp only [tyF] at ht
    split at ht
    · rename_i e hu
      simp only [Bool.and_eq_true, decide_eq_true_eq] at ht
      obtain ⟨⟨hc, hpos⟩, hr⟩ := ht
      rcases Go.Deep.open_slice hu h with ⟨rfl, _⟩ | ⟨a, len, cap, m, k, D, Pl, rfl, hb, hl, hm, hmm, _, hx⟩
      · exact Got.one (p := .sl true fs.length []) (u := .sub []) (by rw [PurF]; exact ⟨true, [], [], rfl, rfl, trivial⟩) (by simp only [LenF]; exact ⟨Nat.zero_le _, trivial⟩) (rep_empty hpos (fun _ => rfl))
      · refine got_slice (base := base) hpos hl hm (fun i hi => ?_)
        obtain ⟨cs', h1, h2⟩ := hx i (by rw [hmm]; split <;> omega)
        rw [hc] at h1
        exact ⟨cs', h1, gotR n hr h2⟩
    · cases ht
theorem gotR : ∀ (n : Nat) {t : TypeId} {fs : List Fd} {fuel : Nat} {cs : List Value} {x : DataW H × List MemPlace}, tyR P n t fs = true → DataW.trod enc P w base spare held fuel t cs = some x → Got w fs cs
  | 0, _, _, _, _, _, ht, _ => by simp [tyR] at ht
  | n + 1, t, fs, fuel, cs, x, ht, h => by
    simp only [tyR] at ht
    split at ht
    · rename_i flds hu
      simp only [Bool.and_eq_true, decide_eq_true_eq] at ht
      obtain ⟨xs, k, _, _, hcl, hxl, hf⟩ := DataW.trod_struct hu h
      refine gotS n (cs := cs) (off := 0) (fuel := k) ht.2 (by omega) (fun i fl hi => ?_)
      have hlt : i < xs.length := by
        have := (List.getElem?_eq_some_iff.1 hi).1
        simp at this
        omega
      rw [Array.getElem?_toList] at hi
      exact ⟨xs[i], by rw [hf i fl hi, List.getElem?_eq_getElem hlt]⟩
    · split at ht
      · rename_i f
        exact gotF n ht h
      · cases ht
theorem gotS : ∀ (n : Nat) {flds : List Field} {off : Nat} {fs : List Fd} {fuel : Nat} {cs : List Value}, tyS P n flds off fs = true → cs.length = off + fs.length → (∀ (i : Nat) (fl : Field), flds[i]? = some fl → ∃ x, DataW.trod enc P w base spare held fuel fl.type ((cs.drop fl.offset).take (P.cellsOf fl.type)) = some x) → Got w fs (cs.drop off)
  | 0, _, _, _, _, _, ht, _, _ => by simp [tyS] at ht
  | n + 1, [], off, fs, fuel, cs, ht, hl, _ => by
    simp only [tyS, List.isEmpty_iff] at ht
    subst ht
    rw [List.drop_of_length_le (by simp at hl; omega)]
    exact ⟨[], [], by simp [PurR], by simp [LenR], rfl, fun i y hy => by simp at hy⟩
  | n + 1, fl :: r, off, fs, fuel, cs, ht, hl, hx => by
    simp only [tyS, Bool.and_eq_true, decide_eq_true_eq] at ht
    obtain ⟨⟨⟨ho, h1⟩, hle⟩, h2⟩ := ht
    obtain ⟨x, hx0⟩ := hx 0 fl rfl
    rw [ho] at hx0
    have g1 := gotR n h1 hx0
    have g2 := gotS n (cs := cs) (off := off + P.cellsOf fl.type) h2 (by rw [List.length_drop]; omega) (fun i f hi => hx (i + 1) f (by simpa using hi))
    have g := g1.app g2
    rw [List.take_append_drop] at g
    rw [← List.drop_drop, List.take_append_drop] at g
    exact g
end
/-- An argument of a slice's type. -/
theorem got_arg {t : TypeId} {fs : List Fd} {v : Value} {d : DataW H} {ps : List MemPlace} (n : Nat) (ht : tyF P n t (.sub fs) = true) (h : DataW.Trod enc P w base spare held t v d ps) (hv : v.cells = #[v]) :
    ∃ p xs, Rep w (fun b => b < w.heap.size) v p ∧ PurF (.sub fs) p (.sub xs) ∧ LenF B63 B63 (.sub fs) (.sub xs) := by
  obtain ⟨fuel, h⟩ := h
  obtain ⟨ps, us, h1, h2, h3, h4⟩ := gotF n ht h
  simp only [PurR] at h1
  obtain ⟨p, _, u, _, rfl, rfl, g, rfl, rfl⟩ := h1
  simp only [LenR] at h2
  obtain ⟨u', hu, hr⟩ := h4 0 p rfl
  rw [hv] at hu
  simp at hu
  subst hu
  have g' := g
  simp only [PurF] at g'
  obtain ⟨_, _, xs, _, rfl, _⟩ := g'
  exact ⟨p, xs, hr, g, h2.1⟩
/-- An argument of a struct's type. -/
theorem got_argR {t : TypeId} {fs : List Fd} {cs : Array Value} {d : DataW H} {ps : List MemPlace} (n : Nat) (ht : tyR P n t fs = true) (h : DataW.Trod enc P w base spare held t (.agg cs) d ps) :
    ∃ qs us, RepA w (fun b => b < w.heap.size) (.agg cs) (.agg qs) ∧ PurR fs qs us ∧ LenR B63 B63 fs us := by
  obtain ⟨fuel, h⟩ := h
  obtain ⟨ps, us, h1, h2, h3, h4⟩ := gotR n ht h
  refine ⟨ps, us, ⟨cs, rfl, by simpa [Value.cells] using h3.symm, fun i c hc => ?_⟩, h1, h2⟩
  obtain ⟨u, hu, hr⟩ := h4 i c hc
  exact ⟨u, by simpa [Value.cells] using hu, hr⟩
end
end Go.Proofs.Yteaojpfofifmnaa.PE
