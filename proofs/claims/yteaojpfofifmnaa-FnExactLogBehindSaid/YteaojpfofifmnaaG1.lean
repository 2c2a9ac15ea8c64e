/- Texts of this claim, one behind the other: Pnr, Pq0, Png, Pnc, Psz, Pvq, Pl2, Pl3, Pu7, Pu8, Pl4, Pl6, Pl7, Pr5. -/
import Derived.Test.YteaojpfofifmnaaG0
import Derived.Deep.Slices
import Derived.ChangeArms
/- Rows and columns as trees: what their sizes say, that only their values matter. -/
set_option linter.unusedVariables false
set_option linter.unusedSimpArgs false
set_option maxHeartbeats 4000000
namespace Go.Proofs.Yteaojpfofifmnaa.PE
open Go.RowKit

def rowU (r : Row) : List U := vsU r.vs
theorem AllU_sub {α : Type} {P : List U → Prop} {g : α → List U} : ∀ {l : List α}, AllU P (l.map g) → ∀ {l2 : List α}, (∀ x ∈ l2, x ∈ l) → AllU P (l2.map g)
  | l, h, [], _ => trivial
  | l, h, x :: r, hs => by
    refine ⟨?_, AllU_sub h (fun y hy => hs y (List.mem_cons_of_mem _ hy))⟩
    obtain ⟨i, hi⟩ := List.getElem?_of_mem (hs x List.mem_cons_self)
    exact AllU_at h (map_at g hi)
theorem sum_leP {P : List U → Prop} {c : List U → Nat} {n : Nat} (h : ∀ x, P x → c x ≤ n) : ∀ {xs : List (List U)}, AllU P xs → sumU c xs ≤ n * xs.length
  | [], _ => by simp [sumU]
  | x :: xs, ⟨h1, h2⟩ => by
    have := sum_leP h h2
    have := h x h1
    simp only [sumU, List.length_cons, Nat.mul_add, Nat.mul_one]
    omega
theorem cnt_vsU (vs : List Val) : cntR fdValueS (vsU vs) ≤ 4 + 3 * vs.length := by
  have : sumU (cntR fdValue) (vs.map valU) ≤ 3 * (vs.map valU).length := by
    induction vs with
    | nil => simp [sumU]
    | cons p ls ih =>
      have e : cntR fdValue (valU p) = 3 := rfl
      simp only [List.map_cons, sumU, e, List.length_cons]
      omega
  rw [List.length_map] at this
  simp only [vsU, fdValueS, cntR, cntF]
  omega
/-- What a size says of rows. -/
theorem rows_lim {rs : List Row} (L : LenF 1048576 1048576 (.sub fdValueS) (.sub (rs.map rowU))) : Fine rs ∧ Short rs ∧ (∀ r ∈ rs, r.vs.length ≤ 1048576) ∧ rs.length ≤ 1048576 := by
  simp only [LenF, List.length_map] at L
  have key : ∀ r ∈ rs, r.vs.length ≤ 1048576 ∧ AllU (LenR 1048576 1048576 fdValue) (r.vs.map valU) := by
    intro r hr
    obtain ⟨i, hi⟩ := List.getElem?_of_mem hr
    have := AllU_at L.2 (map_at rowU hi)
    simp only [fdValueS, rowU, vsU, LenR, LenF, List.length_map, and_true] at this
    exact this
  refine ⟨⟨by omega, fun r hr => by have := (key r hr).1; omega⟩, fun r hr => ⟨by have := (key r hr).1; omega, fun v hv => ?_⟩, fun r hr => (key r hr).1, L.1⟩
  obtain ⟨i, hi⟩ := List.getElem?_of_mem hv
  have := AllU_at (key r hr).2 (map_at valU hi)
  simp only [fdValue, valU, LenR, LenF, true_and, and_true] at this
  omega
theorem rows_res {rs : List Row} (L : LenF 1048576 1048576 (.sub fdValueS) (.sub (rs.map rowU))) {l2 : List Row} (hn : l2.length ≤ rs.length) (hs : ∀ x ∈ l2, x ∈ rs) : LenF big big (.sub fdValueS) (.sub (l2.map rowU)) ∧ (cntF (.sub fdValueS) (.sub (l2.map rowU)) : Int) ≤ 2305843009213693952 := by
  obtain ⟨-, -, k1, k2⟩ := rows_lim L
  have L2 : LenF 1048576 1048576 (.sub fdValueS) (.sub (l2.map rowU)) := by
    simp only [LenF, List.length_map] at L ⊢
    exact ⟨by omega, AllU_sub L.2 hs⟩
  refine ⟨LenF_mono (by decide) (by decide) _ L2, ?_⟩
  have : AllU (fun x => cntR fdValueS x ≤ 4194304) (l2.map rowU) := by
    have : ∀ l : List Row, (∀ x ∈ l, x ∈ rs) → AllU (fun x => cntR fdValueS x ≤ 4194304) (l.map rowU) := by
      intro l
      induction l with
      | nil => intro _; trivial
      | cons r l ih =>
        intro h
        refine ⟨?_, ih (fun x hx => h x (List.mem_cons_of_mem _ hx))⟩
        have := k1 r (h r List.mem_cons_self)
        have := cnt_vsU r.vs
        unfold rowU
        omega
    exact this l2 hs
  have := sum_leP (fun x h => h) this
  rw [List.length_map] at this
  simp only [cntF]
  omega
theorem rows_each {rs : List Row} {q : V} (k : PurF (.sub fdValueS) q (.sub (rs.map rowU))) : ∃ (c : Bool) (rs2 : List Row), q = .sl c 1 (rs2.map Row.cells) ∧ rs2.map rowU = rs.map rowU := by
  obtain ⟨c, _, rfl, y0⟩ := purS_ValueS k
  obtain ⟨rs', rfl, e0⟩ := rowsU_of y0
  exact ⟨c, rs', rfl, e0.symm⟩
theorem vss_of {a b : List Row} (h : a.map rowU = b.map rowU) : a.map Row.vs = b.map Row.vs := by
  have : (a.map Row.vs).map vsU = (b.map Row.vs).map vsU := by rw [List.map_map, List.map_map]; exact h
  exact map_inj (fun _ _ => vsU_inj) this
theorem all_vs {P : List Val → Bool} : ∀ {a b : List Row}, a.map Row.vs = b.map Row.vs → (a.all fun r => P r.vs) = (b.all fun r => P r.vs)
  | [], [], _ => rfl
  | x :: a, y :: b, h => by
    simp only [List.map_cons, List.cons.injEq] at h
    rw [List.all_cons, List.all_cons, h.1, all_vs h.2]
  | [], _ :: _, h => by simp at h
  | _ :: _, [], h => by simp at h
theorem rowsOk_vs {cs : List Col} {a b : List Row} (h : a.map Row.vs = b.map Row.vs) : rowsOk cs a = rowsOk cs b := by
  unfold rowsOk rowsFit
  rw [all_vs h]
theorem cols_each {cs : List Col} {q : V} (k : PurF (.sub fdColumn) q (.sub (cs.map colU))) : ∃ c, q = .sl c 2 (cs.map Col.cells) := by
  obtain ⟨c, _, rfl, y0⟩ := purS_Column k
  obtain ⟨cs', rfl, e0⟩ := colsU_of y0
  obtain rfl := map_inj (fun _ _ => colU_inj) e0
  exact ⟨c, rfl⟩
theorem lim_of {a b : List Row} (e : a.map rowU = b.map rowU) (L : LenF 1048576 1048576 (.sub fdValueS) (.sub (b.map rowU))) : Fine a ∧ Short a := by
  rw [← e] at L
  obtain ⟨h1, h2, _⟩ := rows_lim L
  exact ⟨h1, h2⟩
end Go.Proofs.Yteaojpfofifmnaa.PE
/- Copies of rows, and whether lists of rows are the same. -/
set_option linter.unusedSimpArgs false
set_option linter.unusedVariables false
set_option maxHeartbeats 4000000
namespace Go.Proofs.Yteaojpfofifmnaa.PE
open Go.RowKit

theorem clipkVal (d : Nat) (l : List (List V)) (n : Nat) (hn : n = l.length) : callX (runD tab noExt (d + 1)) [.rows 0 3 l] 2 123 [.ref 0 0 0 n false] = some (.ref 0 0 0 n true, [.rows 0 3 l]) := by
  subst hn
  simp only [callX, callK]
  rw [runD_eq find123 _ _ _ (by simp)]
  simp -implicitDefEqProofs (disch := omega) only [go_sem, Nat.reduceBEq, Nat.reduceAdd, Nat.reduceSub, Nat.reduceMul, Nat.reduceLeDiff, Nat.reduceEqDiff, Nat.reduceLT, Int.reduceNeg, Int.reduceAdd, Int.reduceSub, Int.reduceMul, Int.reduceLE, Int.reduceLT, Int.reduceEq, Int.reduceToNat, reduceCtorEq, List.take_length, Bool.true_or, resOk]
theorem runcVal (d : Nat) (c : Bool) (l : List (List V)) (h0 : 0 < l.length) (hl : l.length < 4294967296) : runD tab noExt (d + 2) 81 [.sl c 3 l] [] = some ([.ref 0 0 0 l.length true], [.rows 0 3 l]) := by
  rw [runD_eq find81 _ _ _ (by simp)]
  match l, h0, hl with
  | [], h0, _ => exact absurd h0 (by decide)
  | x :: r, _, hl =>
    have h0 : ((r.length : Int) + 1 = 0) = False := eq_false (by omega)
    have h1 : r.length + 1 < 4294967296 := by simpa using hl
    have hc := clipkVal d (x :: r) (r.length + 1) (by simp)
    simp -implicitDefEqProofs (disch := omega) only [go_sem, Nat.reduceBEq, Nat.reduceAdd, Nat.reduceSub, Nat.reduceMul, Nat.reduceLeDiff, Nat.reduceEqDiff, Nat.reduceLT, Int.reduceNeg, Int.reduceAdd, Int.reduceSub, Int.reduceMul, Int.reduceLE, Int.reduceLT, Int.reduceEq, Int.reduceToNat, reduceCtorEq, List.length_cons, h0, h1, hc]
theorem runnVal (d : Nat) (c : Bool) : runD tab noExt (d + 2) 81 [.sl c 3 []] [] = some ([.sl true 3 []], []) := by
  rw [runD_eq find81 _ _ _ (by simp)]
  simp -implicitDefEqProofs (disch := omega) only [go_sem, Nat.reduceBEq, Nat.reduceAdd, Nat.reduceSub, Nat.reduceMul, Nat.reduceLeDiff, Nat.reduceEqDiff, Nat.reduceLT, Int.reduceNeg, Int.reduceAdd, Int.reduceSub, Int.reduceMul, Int.reduceLE, Int.reduceLT, Int.reduceEq, Int.reduceToNat, reduceCtorEq]
theorem cloneVal (d : Nat) (c : Bool) (l : List (List V)) (hl : l.length < 4294967296) : retP (runD tab noExt (d + 2)) 81 [.sl c 3 l] = some [.sl true 3 l] := by
  match l, hl with
  | [], _ => rw [retP, runnVal]; rfl
  | x :: r, hl =>
    rw [retP, runcVal d c (x :: r) (by simp) hl]
    simp -implicitDefEqProofs only [go_sem, Nat.reduceBEq, Nat.reduceAdd, Nat.reduceSub, Nat.reduceMul, Nat.reduceLeDiff, Nat.reduceEqDiff, Nat.reduceLT, Int.reduceNeg, Int.reduceAdd, Int.reduceSub, Int.reduceMul, Int.reduceLE, Int.reduceLT, Int.reduceEq, Int.reduceToNat, reduceCtorEq, List.take_length]
theorem clonexVal (d : Nat) (h : Heap) (c : Bool) (l : List (List V)) (h0 : 0 < l.length) (hl : l.length < 4294967296) (hf : l.all (fun x => x.all freshC) = true) : callX (runD tab noExt (d + 2)) h 0 81 [.sl c 3 l] = some (.ref h.length 0 0 l.length true, h ++ [.rows 0 3 l]) := by
  simp only [callX, callO, pureDAs, mapO, pureDA, pureD, deepest, runcVal d c l h0 hl, BackO, List.all_cons, List.all_nil, scalarA, scalar, freshA, freshC, Bool.false_eq_true, Bool.false_and, Bool.and_self, if_false, if_true, List.map_cons, List.map_nil, oneOf, shA, shC, Nat.zero_add, movedH, clean, hf, shB]
theorem clonenVal (d : Nat) (h : Heap) (c : Bool) : callX (runD tab noExt (d + 2)) h 0 81 [.sl c 3 []] = some (.sl true 3 [], h) := by
  simp only [callX, callO, pureDAs, mapO, pureDA, pureD, deepest, runnVal d c, BackO, List.all_cons, List.all_nil, scalarA, scalar, freshA, freshC, isNil, Bool.false_eq_true, Bool.false_and, Bool.and_self, if_false, if_true, List.map_cons, List.map_nil, oneOf, shA, shC, movedH, List.append_nil]

/-- A row of one's own. -/
def Row.own (b : Bool) (r : Row) : Row := ⟨b, r.vs⟩
def own (b : Bool) (rs : List Row) : List Row := rs.map (Row.own b)
theorem foldl_snoc {α β : Type} (g : α → β) : ∀ (l : List α) (b : List β), l.foldl (fun b x => b ++ [g x]) b = b ++ l.map g
  | [], b => by simp
  | x :: r, b => by simp [foldl_snoc g r]
theorem lt_small {n m : Nat} {i : Nat} (h1 : n ≤ i) (h2 : (i : Int) < m) (h3 : m < 4294967296) : n + 1 < 4294967296 := by omega
end Go.Proofs.Yteaojpfofifmnaa.PE
/- Rows of rows that grow, element by element, each of memory of its own. -/
set_option linter.unusedVariables false
set_option linter.unusedSimpArgs false
namespace Go.Proofs.Yteaojpfofifmnaa.PE
open Go.RowKit

/-- What has been gathered up to now. -/
def Grown (fs : List Fd) (id : Nat) (h : Heap) (done : List (List V)) (xs : List (List U)) : Prop :=
  h[id]? = some (blkOf fs done.length done) ∧ ∃ ids, Zip3 (OwnR h fs) done xs ids ∧ (id :: ids).Nodup
theorem Grown.nest {fs : List Fd} {id : Nat} {h : Heap} {done : List (List V)} {xs : List (List U)} (g : Grown fs id h done xs) (hd : fs.any Fd.deep = true) : h[id]? = some (.nest done.length fs.length done) := by
  have := g.1
  unfold blkOf at this
  rw [hd] at this
  exact this
theorem Grown.len {fs : List Fd} {id : Nat} {h : Heap} {done : List (List V)} {xs : List (List U)} (g : Grown fs id h done xs) : done.length = xs.length := by
  obtain ⟨_, ids, z, _⟩ := g
  exact Zip3_len z
theorem Grown.lt {fs : List Fd} {id : Nat} {h : Heap} {done : List (List V)} {xs : List (List U)} (g : Grown fs id h done xs) : id < h.length := (List.getElem?_eq_some_iff.1 g.1).1
theorem Grown.start {fs : List Fd} {id : Nat} {h : Heap} (hb : h[id]? = some (blkOf fs 0 [])) : Grown fs id h [] [] := ⟨hb, [], rfl, by simp⟩
theorem Grown.frame {fs : List Fd} {id : Nat} {h h1 : Heap} {done : List (List V)} {xs : List (List U)} (g : Grown fs id h done xs) (keep : ∀ j, j < h.length → h1[j]? = h[j]?) : Grown fs id h1 done xs := by
  obtain ⟨g1, ids, z, nd⟩ := g
  refine ⟨(keep id (List.getElem?_eq_some_iff.1 g1).1).trans g1, ids, ?_, nd⟩
  exact Zip3_mono (P := fun _ => True) (fun c x i hr _ => OwnR_frame _ hr (fun j hj => keep j (OwnR_lt _ hr j hj))) z (fun _ _ => trivial)
theorem Grown.add {fs : List Fd} {id : Nat} {h h1 h2 : Heap} {done : List (List V)} {xs : List (List U)} {cells : List V} {x : List U} {js : List Nat} (g : Grown fs id h done xs) (own : OwnR h1 fs cells x js) (nd : js.Nodup)
    (fresh : ∀ j ∈ js, h.length ≤ j) (keep : ∀ j, j < h.length → h1[j]? = h[j]?) (e2 : h2 = h1.set id (blkOf fs (done.length + 1) (done ++ [cells]))) : Grown fs id h2 (done ++ [cells]) (xs ++ [x]) := by
  subst e2
  have hlt := g.lt
  obtain ⟨g1, ids, z, nd1⟩ := g
  have hl1 : id < h1.length := by
    have := keep id hlt
    rw [List.getElem?_eq_getElem hlt] at this
    exact (List.getElem?_eq_some_iff.1 this).1
  obtain ⟨n1, n2⟩ := List.nodup_cons.1 nd1
  have hids : ∀ j ∈ ids, j < h.length := Zip3_all (fun c x i hr => OwnR_lt fs hr) z
  refine ⟨by rw [List.getElem?_set_self hl1, List.length_append]; rfl, ids ++ js, Zip3_app (Zip3_mono (P := fun j => j ∈ ids) (fun c x i hr hp => OwnR_frame fs hr (fun j hj => ?_)) z (fun _ hm => hm)) (Zip3_one (OwnR_frame fs own (fun j hj => ?_))), ?_⟩
  · have hne : id ≠ j := fun e => n1 (e ▸ hp j hj)
    rw [List.getElem?_set_ne hne]
    exact keep j (hids j (hp j hj))
  · have hne : id ≠ j := fun e => by have := fresh j hj; omega
    rw [List.getElem?_set_ne hne]
  · refine List.nodup_cons.2 ⟨fun hm => ?_, List.nodup_append.2 ⟨n2, nd, fun p hp q hq => ?_⟩⟩
    · rcases List.mem_append.1 hm with hm | hm
      · exact n1 hm
      · have := fresh id hm; omega
    · have := hids p hp
      have := fresh q hq
      omega
theorem Grown.set {fs : List Fd} {id : Nat} {h h1 : Heap} {done : List (List V)} {xs : List (List U)} {k : Nat} {b : Blk} (g : Grown fs id h done xs) (hk : h.length ≤ k) : Grown fs id (h.set k b) done xs := by
  rw [List.set_eq_of_length_le hk]
  exact g
theorem Grown.own {fs : List Fd} {id : Nat} {h : Heap} {done : List (List V)} {xs : List (List U)} {n : Nat} {clip : Bool} (g : Grown fs id h done xs) (hn : n = done.length) : ∃ ids, OwnF h (.sub fs) (.ref id n 0 n clip) (.sub xs) ids ∧ ids.Nodup := by
  subst hn
  obtain ⟨g1, ids, z, nd⟩ := g
  refine ⟨id :: ids, ?_, nd⟩
  simp only [OwnF]
  exact ⟨xs, rfl, .inr ⟨id, done.length, clip, done, ids, rfl, g1, rfl, z⟩⟩
end Go.Proofs.Yteaojpfofifmnaa.PE
/- Copies of rows as memory of one's own. -/
set_option linter.unusedVariables false
set_option linter.unusedSimpArgs false
set_option maxHeartbeats 4000000
namespace Go.Proofs.Yteaojpfofifmnaa.PE
open Go.RowKit

theorem val_own (h : Heap) (v : Val) : OwnR h fdValue v.cells (valU v) [] := ownR_mk_Value h v.kind v.n v.s
theorem own_cloneVal (d : Nat) (c : Bool) (vs : List Val) (hl : vs.length < 4294967296) : ∃ v hc ids, runD tab noExt (d + 2) 81 [.sl c 3 (vs.map Val.cells)] [] = some ([v], hc) ∧ OwnF hc (.sub fdValue) v (.sub (vs.map valU)) ids ∧ ids.Nodup := by
  match vs, hl with
  | [], _ => exact ⟨_, _, [], runnVal d c, own_nil rfl, List.nodup_nil⟩
  | x :: r, hl => exact ⟨_, _, [0], runcVal d c ((x :: r).map Val.cells) (by simp) (by simpa using hl), own_row rfl (x :: r) (by simp) rfl (val_own _), by simp⟩
end Go.Proofs.Yteaojpfofifmnaa.PE
/- Sizes of trees of values, rows, columns. -/
set_option linter.unusedVariables false
set_option linter.unusedSimpArgs false
namespace Go.Proofs.Yteaojpfofifmnaa.PE
open Go.RowKit

theorem sum_all {c : List U → Nat} {n : Nat} : ∀ {xs : List (List U)}, (∀ x ∈ xs, c x ≤ n) → sumU c xs ≤ n * xs.length
  | [], _ => by simp [sumU]
  | x :: xs, h => by
    have := sum_all (fun y hy => h y (List.mem_cons_of_mem _ hy)) (xs := xs)
    have := h x List.mem_cons_self
    simp only [sumU, List.length_cons, Nat.mul_add, Nat.mul_one]
    omega
theorem all_of {P : List U → Prop} : ∀ {xs : List (List U)}, (∀ x ∈ xs, P x) → AllU P xs
  | [], _ => trivial
  | x :: xs, h => ⟨h x List.mem_cons_self, all_of (fun y hy => h y (List.mem_cons_of_mem _ hy))⟩
theorem vals_len {n m : Nat} {vs : List Val} (h1 : vs.length ≤ n) (h2 : ∀ v ∈ vs, v.s.size ≤ m) : LenF n m (.sub fdValue) (.sub (vs.map valU)) := by
  simp only [LenF, List.length_map]
  refine ⟨h1, all_of (fun x hx => ?_)⟩
  obtain ⟨v, hv, rfl⟩ := List.mem_map.1 hx
  simp only [fdValue, valU, LenR, LenF, true_and, and_true]
  exact h2 v hv
theorem vals_cnt (vs : List Val) : cntF (.sub fdValue) (.sub (vs.map valU)) = 3 * vs.length := by
  simp only [cntF]
  induction vs with
  | nil => rfl
  | cons v vs ih =>
    have e : cntR fdValue (valU v) = 3 := rfl
    simp only [List.map_cons, sumU, e, ih, List.length_cons]
    omega
theorem rows_big {rs : List Row} (h1 : rs.length ≤ 1048576) (h2 : ∀ r ∈ rs, r.vs.length ≤ 1048576 ∧ ∀ w ∈ r.vs, w.s.size ≤ 1048576) : LenF big big (.sub fdValueS) (.sub (rs.map rowU)) := by
  simp only [LenF, List.length_map]
  refine ⟨by unfold big; omega, all_of (fun x hx => ?_)⟩
  obtain ⟨r, hr, rfl⟩ := List.mem_map.1 hx
  have := LenF_mono (n' := big) (m' := big) (by decide) (by decide) _ (vals_len (h2 r hr).1 (h2 r hr).2)
  simp only [fdValueS, rowU, vsU, LenR]
  exact ⟨this, trivial⟩
theorem rows_cnt {rs : List Row} {n : Nat} (h1 : rs.length ≤ n) (h2 : ∀ r ∈ rs, r.vs.length ≤ 1048576) : cntF (.sub fdValueS) (.sub (rs.map rowU)) ≤ 4000000 * n := by
  have := sum_all (c := cntR fdValueS) (n := 4000000) (xs := rs.map rowU) (fun x hx => by
    obtain ⟨r, hr, rfl⟩ := List.mem_map.1 hx
    have e : cntR fdValueS (rowU r) = cntF (.sub fdValue) (.sub (r.vs.map valU)) := by simp only [fdValueS, rowU, vsU, cntR]; omega
    have := h2 r hr
    rw [e, vals_cnt]
    omega)
  rw [List.length_map] at this
  simp only [cntF]
  have := Nat.mul_le_mul_left 4000000 h1
  omega
theorem cols_cnt (cs : List Col) : cntF (.sub fdColumn) (.sub (cs.map colU)) = 2 * cs.length := by
  simp only [cntF]
  induction cs with
  | nil => rfl
  | cons v vs ih =>
    have e : cntR fdColumn (colU v) = 2 := rfl
    simp only [List.map_cons, sumU, e, ih, List.length_cons]
    omega
end Go.Proofs.Yteaojpfofifmnaa.PE
/- Whether two lists of values are the same. -/
set_option linter.unusedVariables false
set_option linter.unusedSimpArgs false
set_option maxHeartbeats 4000000
namespace Go.Proofs.Yteaojpfofifmnaa.PE
open Go.RowKit

end Go.Proofs.Yteaojpfofifmnaa.PE
/- Copies of writes and logs: the program's, as memory of one's own; the reference's. -/
set_option linter.unusedSimpArgs false
set_option linter.unusedVariables false
set_option maxHeartbeats 4000000
namespace Go.Proofs.Yteaojpfofifmnaa.PE
open Go.RowKit

def wrU (w : Wr) : List U := [.int w.key, .sub (w.row.vs.map valU), .bool w.gone]
def entU (e : Ent) : List U := [.int e.time, .sub (e.ws.map wrU)]
def FineW (ws : List Wr) : Prop := ws.length < 1099511627776 ∧ ws.length < 4294967296 ∧ ∀ w ∈ ws, w.row.vs.length < 4294967296
theorem grow_write {h : Heap} {done : List (List V)} {xs : List (List U)} (g : Grown fdWrite 0 h done xs) (d : Nat) (key : Int) (rc : Bool) (vs : List Val) (gone : Bool) (hl : vs.length < 4294967296) :
    ∃ v h1, callX (runD tab noExt (d + 2)) (h ++ [.box [.int .i64 key, .sl rc 3 (vs.map Val.cells), .bool gone]]) 0 81 [.sl rc 3 (vs.map Val.cells)] = some (v, h1) ∧ h1[h.length]? = some (.box [.int .i64 key, .sl rc 3 (vs.map Val.cells), .bool gone]) ∧ h.length < h1.length ∧ ((∃ c, v = .sl c 3 []) ∨ ∃ id st n clip, v = .ref id st 0 n clip) ∧
      (h1.set h.length (.box [.int .i64 key, v, .bool gone]))[0]? = some (.nest done.length 3 done) ∧
      Grown fdWrite 0 ((h1.set h.length (.box [.int .i64 key, v, .bool gone])).set 0 (.nest (done.length + 1) 3 (done ++ [[.int .i64 key, v, .bool gone]]))) (done ++ [[.int .i64 key, v, .bool gone]]) (xs ++ [[.int key, .sub (vs.map valU), .bool gone]]) := by
  obtain ⟨v, hc, is0, e1, e2, e3⟩ := own_cloneVal d rc vs hl
  obtain ⟨w, h1, js, k1, k2, k3, k4, k5, k6⟩ := own_call (h := h ++ [.box [.int .i64 key, .sl rc 3 (vs.map Val.cells), .bool gone]]) (args := [.sl rc 3 (vs.map Val.cells)]) (by simp only [pureDAs, mapO, pureDA, pureD]) e1 e2 e3
  have hl0 : (h ++ [Blk.box [.int .i64 key, .sl rc 3 (vs.map Val.cells), .bool gone]]).length = h.length + 1 := by simp
  rw [hl0] at k4 k5 k6
  have hb : h1[h.length]? = some (.box [.int .i64 key, .sl rc 3 (vs.map Val.cells), .bool gone]) := (k5 _ (by omega)).trans (by simp)
  have hlt := g.lt
  have k5' : ∀ j, j < h.length → (h1.set h.length (.box [.int .i64 key, w, .bool gone]))[j]? = h[j]? := fun j hj => by
    rw [List.getElem?_set_ne (by omega), k5 j (by omega), List.getElem?_append_left hj]
  refine ⟨w, h1, k1, hb, by omega, own_cases k2, (k5' 0 hlt).trans (g.nest (by rfl)), ?_⟩
  refine g.add (OwnR_frame _ (ownR_mk_Write k2) (fun j hj => ?_)) k3 (fun j hj => by have := k4 j hj; omega) k5' rfl
  have := k4 j hj
  rw [List.getElem?_set_ne (by omega)]
-- find77
theorem own_writesCopy (d : Nat) (c : Bool) (ws : List Wr) (hf : FineW ws) : ∃ v hc ids, runD tab noExt (d + 3) 77 [.sl c 3 (ws.map Wr.cells)] [] = some ([v], hc) ∧ OwnF hc (.sub fdWrite) v (.sub (ws.map wrU)) ids ∧ ids.Nodup := by
  obtain ⟨hf0, hf1, hf2⟩ := hf
  obtain ⟨⟨h', done⟩, ⟨g1, g2⟩, e⟩ := LoopK_inv (run := runD tab noExt (d + 2)) (draw := drawI (runD tab noExt (d + 2))) (live := [3, 6, 7, 8]) (out := [3]) (c := L77x0) ws.length
    (fun i (b : Heap × List (List V)) => Grown fdWrite 0 b.1 b.2 ((ws.take i).map wrU) ∧ b.2.length = i)
    (fun i b => [(3, .ref 0 b.2.length 0 b.2.length false), (6, .sl c 3 (ws.map Wr.cells)), (7, .int .i64 ws.length), (8, .int .i64 (i : Nat))]) (fun b => b.1) (fun b => some (.exit 0, [(3, .ref 0 b.2.length 0 b.2.length false)], b.1))
    (fun b K hb => by
      rw [LoopK_eq]
      simp -implicitDefEqProofs only [go_sem, Nat.reduceBEq, Nat.reduceAdd, Nat.reduceSub, Nat.reduceMul, Nat.reduceLeDiff, Nat.reduceEqDiff, Nat.reduceLT, Int.reduceNeg, Int.reduceAdd, Int.reduceSub, Int.reduceMul, Int.reduceLE, Int.reduceLT, Int.reduceEq, Int.reduceToNat, reduceCtorEq, evL77x0, B77x0, Int.lt_irrefl]) (fun i b K hi hb => by
      obtain ⟨h, done⟩ := b
      obtain ⟨g, glen⟩ := hb
      simp only at g glen ⊢
      have hx := List.getElem?_eq_getElem hi
      generalize ws[i] = w at hx
      have hfw := hf2 w (List.mem_of_getElem? hx)
      have hi' : (i : Int) < ws.length := by omega
      have hsm : done.length + 1 < 4294967296 := by omega
      rw [take_snoc hx, List.map_append]
      obtain ⟨key, ⟨rc, vs⟩, gone⟩ := w
      obtain ⟨v, h1, k1, k2, k3, kw, k5, g2⟩ := grow_write g d key rc vs gone hfw
      refine ⟨((h1.set h.length (.box [.int .i64 key, v, .bool gone])).set 0 (.nest (done.length + 1) 3 (done ++ [[.int .i64 key, v, .bool gone]])), done ++ [[.int .i64 key, v, .bool gone]]), ⟨g2, by simp; omega⟩, ?_⟩
      rw [LoopK_eq]
      rcases kw with ⟨c', rfl⟩ | ⟨id, st, n, clip, rfl⟩ <;> simp -implicitDefEqProofs (disch := omega) only [go_sem, Nat.reduceBEq, Nat.reduceAdd, Nat.reduceSub, Nat.reduceMul, Nat.reduceLeDiff, Nat.reduceEqDiff, Nat.reduceLT, Int.reduceNeg, Int.reduceAdd, Int.reduceSub, Int.reduceMul, Int.reduceLE, Int.reduceLT, Int.reduceEq, Int.reduceToNat, reduceCtorEq, evL77x0, B77x0, hi', hx, Wr.cells, Row.v, k1, k2, k3, k5, hsm, List.getElem?_set_self, at_end, at_end_add, set_end, set_end_add, elemsN, elemN, listN, appendN, okN, small, IntWalk.i64_in]) 1099511627775 (by omega) ([.nest 0 3 []], []) ⟨Grown.start rfl, rfl⟩
  simp only at g1 g2 e
  rw [List.take_of_length_le (Nat.le_refl _)] at g1
  obtain ⟨ids, o1, o2⟩ := g1.own (n := done.length) (clip := true) rfl
  refine ⟨_, h', ids, ?_, o1, o2⟩
  have hn := g1.nest (by rfl)
  have hc : callX (runD tab noExt (d + 2)) h' 2 121 [.ref 0 done.length 0 done.length false] = some (.ref 0 done.length 0 done.length true, h') := by
    simp only [callX, callK]
    rw [runD_eq find121 _ _ _ (by simp)]
    have hn' : h'[0]? = some (.nest done.length 3 done) := hn
    simp -implicitDefEqProofs (disch := omega) only [go_sem, Nat.reduceBEq, Nat.reduceAdd, Nat.reduceSub, Nat.reduceMul, Nat.reduceLeDiff, Nat.reduceEqDiff, Nat.reduceLT, Int.reduceNeg, Int.reduceAdd, Int.reduceSub, Int.reduceMul, Int.reduceLE, Int.reduceLT, Int.reduceEq, Int.reduceToNat, reduceCtorEq, Bool.true_or, resOk, hn']
  rw [runD_eq find77 _ _ _ (by simp)]
  simp -implicitDefEqProofs (disch := omega) only [go_sem, Nat.reduceBEq, Nat.reduceAdd, Nat.reduceSub, Nat.reduceMul, Nat.reduceLeDiff, Nat.reduceEqDiff, Nat.reduceLT, Int.reduceNeg, Int.reduceAdd, Int.reduceSub, Int.reduceMul, Int.reduceLE, Int.reduceLT, Int.reduceEq, Int.reduceToNat, reduceCtorEq]
  try simp -implicitDefEqProofs only [go_sem, Nat.reduceBEq, Nat.reduceAdd, Nat.reduceSub, Nat.reduceMul, Nat.reduceLeDiff, Nat.reduceEqDiff, Nat.reduceLT, Int.reduceNeg, Int.reduceAdd, Int.reduceSub, Int.reduceMul, Int.reduceLE, Int.reduceLT, Int.reduceEq, Int.reduceToNat, reduceCtorEq] at e
  rw [e]
  simp -implicitDefEqProofs (disch := omega) only [go_sem, Nat.reduceBEq, Nat.reduceAdd, Nat.reduceSub, Nat.reduceMul, Nat.reduceLeDiff, Nat.reduceEqDiff, Nat.reduceLT, Int.reduceNeg, Int.reduceAdd, Int.reduceSub, Int.reduceMul, Int.reduceLE, Int.reduceLT, Int.reduceEq, Int.reduceToNat, reduceCtorEq, hc]
end Go.Proofs.Yteaojpfofifmnaa.PE
/- Copies of logs: the program's, as memory of one's own; the reference's. -/
set_option linter.unusedSimpArgs false
set_option linter.unusedVariables false
set_option maxHeartbeats 4000000
namespace Go.Proofs.Yteaojpfofifmnaa.PE
open Go.RowKit

def FineE (l : List Ent) : Prop := l.length < 4294967296 ∧ ∀ e ∈ l, FineW e.ws
theorem grow_ent {h : Heap} {done : List (List V)} {xs : List (List U)} (g : Grown fdEntry 0 h done xs) (d : Nat) (time : Int) (wc : Bool) (ws : List Wr) (hl : FineW ws) :
    ∃ v h1, callX (runD tab noExt (d + 3)) (h ++ [.box [.int .i64 time, .sl wc 3 (ws.map Wr.cells)]]) 0 77 [.sl wc 3 (ws.map Wr.cells)] = some (v, h1) ∧ h1[h.length]? = some (.box [.int .i64 time, .sl wc 3 (ws.map Wr.cells)]) ∧ h.length < h1.length ∧ ((∃ c, v = .sl c 3 []) ∨ ∃ id st n clip, v = .ref id st 0 n clip) ∧
      h1[0]? = some (.nest done.length 2 done) ∧
      Grown fdEntry 0 (h1.set 0 (.nest (done.length + 1) 2 (done ++ [[.int .i64 time, v]]))) (done ++ [[.int .i64 time, v]]) (xs ++ [[.int time, .sub (ws.map wrU)]]) := by
  obtain ⟨v, hc, is0, e1, e2, e3⟩ := own_writesCopy d wc ws hl
  obtain ⟨w, h1, js, k1, k2, k3, k4, k5, k6⟩ := own_call (h := h ++ [.box [.int .i64 time, .sl wc 3 (ws.map Wr.cells)]]) (args := [.sl wc 3 (ws.map Wr.cells)]) (by simp only [pureDAs, mapO, pureDA, pureD]) e1 e2 e3
  have hl0 : (h ++ [Blk.box [.int .i64 time, .sl wc 3 (ws.map Wr.cells)]]).length = h.length + 1 := by simp
  rw [hl0] at k4 k5 k6
  have hb : h1[h.length]? = some (.box [.int .i64 time, .sl wc 3 (ws.map Wr.cells)]) := (k5 _ (by omega)).trans (by simp)
  have hlt := g.lt
  have k5' : ∀ j, j < h.length → h1[j]? = h[j]? := fun j hj => by
    rw [k5 j (by omega), List.getElem?_append_left hj]
  refine ⟨w, h1, k1, hb, by omega, own_cases k2, (k5' 0 hlt).trans (g.nest (by rfl)), ?_⟩
  exact g.add (ownR_mk_Entry k2) k3 (fun j hj => by have := k4 j hj; omega) k5' rfl
-- find88
theorem own_logCopy (d : Nat) (c : Bool) (l : List Ent) (hf : FineE l) : ∃ v hc ids, runD tab noExt (d + 4) 88 [.sl c 2 (l.map Ent.cells)] [] = some ([v], hc) ∧ OwnF hc (.sub fdEntry) v (.sub (l.map entU)) ids ∧ ids.Nodup := by
  obtain ⟨hf1, hf2⟩ := hf
  obtain ⟨⟨h', done⟩, ⟨g1, g2⟩, e⟩ := LoopK_inv (run := runD tab noExt (d + 3)) (draw := drawI (runD tab noExt (d + 3))) (live := [3, 6, 7, 8]) (out := [3]) (c := L88x0) l.length
    (fun i (b : Heap × List (List V)) => Grown fdEntry 0 b.1 b.2 ((l.take i).map entU) ∧ b.2.length = i)
    (fun i b => [(3, .ref 0 b.2.length 0 b.2.length false), (6, .sl c 2 (l.map Ent.cells)), (7, .int .i64 l.length), (8, .int .i64 (i : Nat))]) (fun b => b.1) (fun b => some (.exit 0, [(3, .ref 0 b.2.length 0 b.2.length false)], b.1))
    (fun b K hb => by
      rw [LoopK_eq]
      simp -implicitDefEqProofs only [go_sem, Nat.reduceBEq, Nat.reduceAdd, Nat.reduceSub, Nat.reduceMul, Nat.reduceLeDiff, Nat.reduceEqDiff, Nat.reduceLT, Int.reduceNeg, Int.reduceAdd, Int.reduceSub, Int.reduceMul, Int.reduceLE, Int.reduceLT, Int.reduceEq, Int.reduceToNat, reduceCtorEq, evL88x0, B88x0, Int.lt_irrefl]) (fun i b K hi hb => by
      obtain ⟨h, done⟩ := b
      obtain ⟨g, glen⟩ := hb
      simp only at g glen ⊢
      have hx := List.getElem?_eq_getElem hi
      generalize l[i] = w at hx
      have hfw := hf2 w (List.mem_of_getElem? hx)
      have hi' : (i : Int) < l.length := by omega
      have hsm : done.length + 1 < 4294967296 := by omega
      rw [take_snoc hx, List.map_append]
      obtain ⟨time, wc, ws⟩ := w
      obtain ⟨v, h1, k1, k2, k3, kw, k5, g2⟩ := grow_ent g d time wc ws hfw
      refine ⟨(h1.set 0 (.nest (done.length + 1) 2 (done ++ [[.int .i64 time, v]])), done ++ [[.int .i64 time, v]]), ⟨g2, by simp; omega⟩, ?_⟩
      rw [LoopK_eq]
      rcases kw with ⟨c', rfl⟩ | ⟨id, st, n, clip, rfl⟩ <;> simp -implicitDefEqProofs (disch := omega) only [go_sem, Nat.reduceBEq, Nat.reduceAdd, Nat.reduceSub, Nat.reduceMul, Nat.reduceLeDiff, Nat.reduceEqDiff, Nat.reduceLT, Int.reduceNeg, Int.reduceAdd, Int.reduceSub, Int.reduceMul, Int.reduceLE, Int.reduceLT, Int.reduceEq, Int.reduceToNat, reduceCtorEq, evL88x0, B88x0, evC_draw, evD88x0, E88x0, hi', hx, Ent.cells, Ent.v, k1, k2, k3, k5, hsm, List.getElem?_set_self, at_end, at_end_add, set_end, set_end_add, elemsN, elemN, listN, appendN, okN, small, IntWalk.i64_in]) 1099511627775 (by omega) ([.nest 0 2 []], []) ⟨Grown.start rfl, rfl⟩
  simp only at g1 g2 e
  rw [List.take_of_length_le (Nat.le_refl _)] at g1
  obtain ⟨ids, o1, o2⟩ := g1.own (n := done.length) (clip := true) rfl
  refine ⟨_, h', ids, ?_, o1, o2⟩
  have hn' : h'[0]? = some (.nest done.length 2 done) := g1.nest (by rfl)
  have hc : callX (runD tab noExt (d + 3)) h' 2 79 [.ref 0 done.length 0 done.length false] = some (.ref 0 done.length 0 done.length true, h') := by
    simp only [callX, callK]
    rw [runD_eq find79 _ _ _ (by simp)]
    simp -implicitDefEqProofs (disch := omega) only [go_sem, Nat.reduceBEq, Nat.reduceAdd, Nat.reduceSub, Nat.reduceMul, Nat.reduceLeDiff, Nat.reduceEqDiff, Nat.reduceLT, Int.reduceNeg, Int.reduceAdd, Int.reduceSub, Int.reduceMul, Int.reduceLE, Int.reduceLT, Int.reduceEq, Int.reduceToNat, reduceCtorEq, Bool.true_or, resOk, hn']
  rw [runD_eq find88 _ _ _ (by simp)]
  simp -implicitDefEqProofs (disch := omega) only [go_sem, Nat.reduceBEq, Nat.reduceAdd, Nat.reduceSub, Nat.reduceMul, Nat.reduceLeDiff, Nat.reduceEqDiff, Nat.reduceLT, Int.reduceNeg, Int.reduceAdd, Int.reduceSub, Int.reduceMul, Int.reduceLE, Int.reduceLT, Int.reduceEq, Int.reduceToNat, reduceCtorEq]
  try simp -implicitDefEqProofs only [go_sem, Nat.reduceBEq, Nat.reduceAdd, Nat.reduceSub, Nat.reduceMul, Nat.reduceLeDiff, Nat.reduceEqDiff, Nat.reduceLT, Int.reduceNeg, Int.reduceAdd, Int.reduceSub, Int.reduceMul, Int.reduceLE, Int.reduceLT, Int.reduceEq, Int.reduceToNat, reduceCtorEq] at e
  rw [e]
  simp -implicitDefEqProofs (disch := omega) only [go_sem, Nat.reduceBEq, Nat.reduceAdd, Nat.reduceSub, Nat.reduceMul, Nat.reduceLeDiff, Nat.reduceEqDiff, Nat.reduceLT, Int.reduceNeg, Int.reduceAdd, Int.reduceSub, Int.reduceMul, Int.reduceLE, Int.reduceLT, Int.reduceEq, Int.reduceToNat, reduceCtorEq, hc]
def Wr.own (w : Wr) : Wr := ⟨w.key, ⟨false, w.row.vs⟩, w.gone⟩
def Ent.own (e : Ent) : Ent := ⟨e.time, false, e.ws.map Wr.own⟩
-- find152
theorem run_own4 (d : Nat) (c : Bool) (l : List (List V)) (hl : l.length < 4294967296) : retP (runD tab noExt (d + 1)) 152 [.sl c 3 l] = some [.sl false 3 l] := by
  rw [retP, runD_eq find152 _ _ _ (by simp)]
  have hl' : 0 + l.length < 4294967296 := by omega
  simp -implicitDefEqProofs (disch := omega) only [go_sem, Nat.reduceBEq, Nat.reduceAdd, Nat.reduceSub, Nat.reduceMul, Nat.reduceLeDiff, Nat.reduceEqDiff, Nat.reduceLT, Int.reduceNeg, Int.reduceAdd, Int.reduceSub, Int.reduceMul, Int.reduceLE, Int.reduceLT, Int.reduceEq, Int.reduceToNat, reduceCtorEq, List.take_length, hl, hl']
theorem loop_l14 (d : Nat) (c : Bool) (ws : List Wr) (hf : FineW ws) (K : Nat) (hK : (ws).length ≤ K) (b0 : List Wr) (hb0 : (fun (i : Nat) (b : List Wr) => b.length ≤ i) 0 b0) : LoopS (runD tab noExt (d + 1)) (drawI (runD tab noExt (d + 1))) [0, 3, 4] [3] L128x0 ([.rows 0 3 [], .rows (b0).length 3 ((b0).map Wr.cells)] : Heap).length K [(0, .sl c 3 (ws.map Wr.cells)), (3, .ref 1 (b0).length 0 (b0).length false), (4, .int .i64 (0 : Nat))] [.rows 0 3 [], .rows (b0).length 3 ((b0).map Wr.cells)] = (some (.exit 0, [(3, .ref 1 (((ws).foldl (fun b x => b ++ [Wr.own x]) b0)).length 0 (((ws).foldl (fun b x => b ++ [Wr.own x]) b0)).length false)], [.rows 0 3 [], .rows (((ws).foldl (fun b x => b ++ [Wr.own x]) b0)).length 3 ((((ws).foldl (fun b x => b ++ [Wr.own x]) b0)).map Wr.cells)]) : Out) ∧ (fun (i : Nat) (b : List Wr) => b.length ≤ i) (ws).length ((ws).foldl (fun b x => b ++ [Wr.own x]) b0) := by
  have key := LoopS_foldI (run := (runD tab noExt (d + 1))) (draw := drawI (runD tab noExt (d + 1))) (live := [0, 3, 4]) (out := [3]) (c := L128x0) (n0 := ([.rows 0 3 [], .rows (b0).length 3 ((b0).map Wr.cells)] : Heap).length) (ws) (fun b x => b ++ [Wr.own x]) (fun (i : Nat) (b : List Wr) => b.length ≤ i) (fun (i : Nat) (b : List Wr) => [(0, .sl c 3 (ws.map Wr.cells)), (3, .ref 1 (b).length 0 (b).length false), (4, .int .i64 (i : Nat))]) (fun (i : Nat) (b : List Wr) => [.rows 0 3 [], .rows (b).length 3 ((b).map Wr.cells)]) (fun b => (some (.exit 0, [(3, .ref 1 (b).length 0 (b).length false)], [.rows 0 3 [], .rows (b).length 3 ((b).map Wr.cells)]) : Out)) (fun b K hb => ?_) (fun (i : Nat) (x : Wr) b K hi hx hb => ?_) K hK b0 hb0
  · simp only [Int.natCast_zero] at key
    exact key
  · rw [LoopS_eq]
    simp -implicitDefEqProofs only [go_sem, Nat.reduceBEq, Nat.reduceAdd, Nat.reduceSub, Nat.reduceMul, Nat.reduceLeDiff, Nat.reduceEqDiff, Nat.reduceLT, Int.reduceNeg, Int.reduceAdd, Int.reduceSub, Int.reduceMul, Int.reduceLE, Int.reduceLT, Int.reduceEq, Int.reduceToNat, reduceCtorEq, evL128x0, B128x0, Int.lt_irrefl]
  · have hown := run_own4 d x.row.clip (x.row.vs.map Val.cells) (by have := hf.2.2 x (List.mem_of_getElem? hx); simpa using this); have hsm : b.length + 1 < 4294967296 := (by have := hf.2.1; omega); have hlen0 := hf.1
    all_goals
      refine ⟨?_, ?_⟩
      · (simp; omega)
      · rw [LoopS_eq]
        simp -implicitDefEqProofs (disch := first | omega | assumption) only [go_sem, Nat.reduceBEq, Nat.reduceAdd, Nat.reduceSub, Nat.reduceMul, Nat.reduceLeDiff, Nat.reduceEqDiff, Nat.reduceLT, Int.reduceNeg, Int.reduceAdd, Int.reduceSub, Int.reduceMul, Int.reduceLE, Int.reduceLT, Int.reduceEq, Int.reduceToNat, reduceCtorEq, evL128x0, B128x0, hi, hx, IntWalk.i64_in, List.map_append, List.foldl_cons, hx, hown, hsm, Wr.cells, Row.v, Wr.own, List.map_cons, List.map_nil]
        skip
-- find128
theorem run_l14 (d : Nat) (c : Bool) (ws : List Wr) (hf : FineW ws) : retP (runD tab noExt (d + 2)) 128 [.sl c 3 (ws.map Wr.cells)] = some [.sl false 3 ((ws.map Wr.own).map Wr.cells)] := by
  rw [retP, runD_eq find128 _ _ _ (by simp)]
  obtain ⟨hl, _⟩ := loop_l14 d c ws hf 1099511627775 (by have := hf.1; omega) [] (by simp)
  rw [foldl_snoc, List.nil_append] at hl
  simp only [List.length_nil, List.map_nil, Int.natCast_zero] at hl
  simp -implicitDefEqProofs (disch := omega) only [go_sem, Nat.reduceBEq, Nat.reduceAdd, Nat.reduceSub, Nat.reduceMul, Nat.reduceLeDiff, Nat.reduceEqDiff, Nat.reduceLT, Int.reduceNeg, Int.reduceAdd, Int.reduceSub, Int.reduceMul, Int.reduceLE, Int.reduceLT, Int.reduceEq, Int.reduceToNat, reduceCtorEq]
  try simp -implicitDefEqProofs only [go_sem, Nat.reduceBEq, Nat.reduceAdd, Nat.reduceSub, Nat.reduceMul, Nat.reduceLeDiff, Nat.reduceEqDiff, Nat.reduceLT, Int.reduceNeg, Int.reduceAdd, Int.reduceSub, Int.reduceMul, Int.reduceLE, Int.reduceLT, Int.reduceEq, Int.reduceToNat, reduceCtorEq] at hl
  rw [hl]
  simp -implicitDefEqProofs (disch := omega) only [go_sem, Nat.reduceBEq, Nat.reduceAdd, Nat.reduceSub, Nat.reduceMul, Nat.reduceLeDiff, Nat.reduceEqDiff, Nat.reduceLT, Int.reduceNeg, Int.reduceAdd, Int.reduceSub, Int.reduceMul, Int.reduceLE, Int.reduceLT, Int.reduceEq, Int.reduceToNat, reduceCtorEq]
  first | rfl | (rw [List.take_of_length_le (by simp)])
theorem loop_l18 (d : Nat) (c : Bool) (l : List Ent) (hf : FineE l) (K : Nat) (hK : (l).length ≤ K) (b0 : List Ent) (hb0 : (fun (i : Nat) (b : List Ent) => b.length ≤ i) 0 b0) : LoopS (runD tab noExt (d + 2)) (drawI (runD tab noExt (d + 2))) [0, 3, 4] [3] L87x0 ([.rows 0 2 [], .rows (b0).length 2 ((b0).map Ent.cells)] : Heap).length K [(0, .sl c 2 (l.map Ent.cells)), (3, .ref 1 (b0).length 0 (b0).length false), (4, .int .i64 (0 : Nat))] [.rows 0 2 [], .rows (b0).length 2 ((b0).map Ent.cells)] = (some (.exit 0, [(3, .ref 1 (((l).foldl (fun b x => b ++ [Ent.own x]) b0)).length 0 (((l).foldl (fun b x => b ++ [Ent.own x]) b0)).length false)], [.rows 0 2 [], .rows (((l).foldl (fun b x => b ++ [Ent.own x]) b0)).length 2 ((((l).foldl (fun b x => b ++ [Ent.own x]) b0)).map Ent.cells)]) : Out) ∧ (fun (i : Nat) (b : List Ent) => b.length ≤ i) (l).length ((l).foldl (fun b x => b ++ [Ent.own x]) b0) := by
  have key := LoopS_foldI (run := (runD tab noExt (d + 2))) (draw := drawI (runD tab noExt (d + 2))) (live := [0, 3, 4]) (out := [3]) (c := L87x0) (n0 := ([.rows 0 2 [], .rows (b0).length 2 ((b0).map Ent.cells)] : Heap).length) (l) (fun b x => b ++ [Ent.own x]) (fun (i : Nat) (b : List Ent) => b.length ≤ i) (fun (i : Nat) (b : List Ent) => [(0, .sl c 2 (l.map Ent.cells)), (3, .ref 1 (b).length 0 (b).length false), (4, .int .i64 (i : Nat))]) (fun (i : Nat) (b : List Ent) => [.rows 0 2 [], .rows (b).length 2 ((b).map Ent.cells)]) (fun b => (some (.exit 0, [(3, .ref 1 (b).length 0 (b).length false)], [.rows 0 2 [], .rows (b).length 2 ((b).map Ent.cells)]) : Out)) (fun b K hb => ?_) (fun (i : Nat) (x : Ent) b K hi hx hb => ?_) K hK b0 hb0
  · simp only [Int.natCast_zero] at key
    exact key
  · rw [LoopS_eq]
    simp -implicitDefEqProofs only [go_sem, Nat.reduceBEq, Nat.reduceAdd, Nat.reduceSub, Nat.reduceMul, Nat.reduceLeDiff, Nat.reduceEqDiff, Nat.reduceLT, Int.reduceNeg, Int.reduceAdd, Int.reduceSub, Int.reduceMul, Int.reduceLE, Int.reduceLT, Int.reduceEq, Int.reduceToNat, reduceCtorEq, evL87x0, B87x0, Int.lt_irrefl]
  · have hown := run_l14 d x.wc x.ws (hf.2 x (List.mem_of_getElem? hx)); have hsm : b.length + 1 < 4294967296 := (by have := hf.1; omega); have hlen0 := hf.1
    all_goals
      refine ⟨?_, ?_⟩
      · (simp; omega)
      · rw [LoopS_eq]
        simp -implicitDefEqProofs (disch := first | omega | assumption) only [go_sem, Nat.reduceBEq, Nat.reduceAdd, Nat.reduceSub, Nat.reduceMul, Nat.reduceLeDiff, Nat.reduceEqDiff, Nat.reduceLT, Int.reduceNeg, Int.reduceAdd, Int.reduceSub, Int.reduceMul, Int.reduceLE, Int.reduceLT, Int.reduceEq, Int.reduceToNat, reduceCtorEq, evL87x0, B87x0, hi, hx, IntWalk.i64_in, List.map_append, List.foldl_cons, evC_draw, evD87x0, E87x0, hx, hown, hsm, Ent.cells, Ent.v, Ent.own, List.map_cons, List.map_nil]
        skip
-- find87
theorem run_l18 (d : Nat) (c : Bool) (l : List Ent) (hf : FineE l) : retP (runD tab noExt (d + 3)) 87 [.sl c 2 (l.map Ent.cells)] = some [.sl false 2 ((l.map Ent.own).map Ent.cells)] := by
  rw [retP, runD_eq find87 _ _ _ (by simp)]
  obtain ⟨hl, _⟩ := loop_l18 d c l hf 1099511627775 (by have := hf.1; omega) [] (by simp)
  rw [foldl_snoc, List.nil_append] at hl
  simp only [List.length_nil, List.map_nil, Int.natCast_zero] at hl
  simp -implicitDefEqProofs (disch := omega) only [go_sem, Nat.reduceBEq, Nat.reduceAdd, Nat.reduceSub, Nat.reduceMul, Nat.reduceLeDiff, Nat.reduceEqDiff, Nat.reduceLT, Int.reduceNeg, Int.reduceAdd, Int.reduceSub, Int.reduceMul, Int.reduceLE, Int.reduceLT, Int.reduceEq, Int.reduceToNat, reduceCtorEq]
  try simp -implicitDefEqProofs only [go_sem, Nat.reduceBEq, Nat.reduceAdd, Nat.reduceSub, Nat.reduceMul, Nat.reduceLeDiff, Nat.reduceEqDiff, Nat.reduceLT, Int.reduceNeg, Int.reduceAdd, Int.reduceSub, Int.reduceMul, Int.reduceLE, Int.reduceLT, Int.reduceEq, Int.reduceToNat, reduceCtorEq] at hl
  rw [hl]
  simp -implicitDefEqProofs (disch := omega) only [go_sem, Nat.reduceBEq, Nat.reduceAdd, Nat.reduceSub, Nat.reduceMul, Nat.reduceLeDiff, Nat.reduceEqDiff, Nat.reduceLT, Int.reduceNeg, Int.reduceAdd, Int.reduceSub, Int.reduceMul, Int.reduceLE, Int.reduceLT, Int.reduceEq, Int.reduceToNat, reduceCtorEq]
  first | rfl | (rw [List.take_of_length_le (by simp)])
/-! ### logs as trees -/
theorem wr_pur (w : Wr) : PurR fdWrite w.cells (wrU w) := purR_mk_Write (pur_map val_pur _ 3 rfl _)
theorem ent_pur (e : Ent) : PurR fdEntry e.cells (entU e) := purR_mk_Entry (pur_map wr_pur _ 3 rfl _)
theorem wrs_each {y : List (List U)} {p : V} (h : PurF (.sub fdWrite) p (.sub y)) : ∃ (c : Bool) (ws : List Wr), p = .sl c 3 (ws.map Wr.cells) ∧ y = ws.map wrU := by
  obtain ⟨c, ct, rfl, hz⟩ := purS_Write h
  obtain ⟨ws, rfl, rfl⟩ := typ_of (f := Wr.cells) (g := wrU) (fun c x hr => by
    obtain ⟨a0, p1, y1, a2, rfl, rfl, g⟩ := purR_Write hr
    obtain ⟨cl, ct, rfl, hz⟩ := purS_Value g
    obtain ⟨vs, rfl, rfl⟩ := valsU_of hz
    exact ⟨⟨a0, ⟨cl, vs⟩, a2⟩, rfl, rfl⟩) hz
  exact ⟨c, ws, rfl, rfl⟩
theorem ents_each {y : List (List U)} {p : V} (h : PurF (.sub fdEntry) p (.sub y)) : ∃ (c : Bool) (l : List Ent), p = .sl c 2 (l.map Ent.cells) ∧ y = l.map entU := by
  obtain ⟨c, ct, rfl, hz⟩ := purS_Entry h
  obtain ⟨l, rfl, rfl⟩ := typ_of (f := Ent.cells) (g := entU) (fun c x hr => by
    obtain ⟨a0, p1, y1, rfl, rfl, g⟩ := purR_Entry hr
    obtain ⟨cl, ws, rfl, rfl⟩ := wrs_each g
    exact ⟨⟨a0, cl, ws⟩, rfl, rfl⟩) hz
  exact ⟨c, l, rfl, rfl⟩
theorem wrU_inj {a b : Wr} (h : wrU a = wrU b) : a.own = b.own := by
  simp only [wrU, List.cons.injEq, U.int.injEq, U.sub.injEq, U.bool.injEq, and_true] at h
  obtain ⟨h1, h2, h3⟩ := h
  have := map_inj (fun _ _ => valU_inj) h2
  simp only [Wr.own, h1, this, h3]
theorem map_same {α β γ : Type} {f : α → β} {g : α → γ} (h : ∀ a b, f a = f b → g a = g b) : ∀ {l l2 : List α}, l.map f = l2.map f → l.map g = l2.map g
  | [], [], _ => rfl
  | x :: a, y :: b, e => by
    simp only [List.map_cons, List.cons.injEq] at e
    rw [List.map_cons, List.map_cons, h _ _ e.1, map_same h e.2]
  | [], _ :: _, e => by simp at e
  | _ :: _, [], e => by simp at e
theorem entU_inj {a b : Ent} (h : entU a = entU b) : a.own = b.own := by
  simp only [entU, List.cons.injEq, U.int.injEq, U.sub.injEq, and_true] at h
  obtain ⟨h1, h2⟩ := h
  simp only [Ent.own, h1, map_same (fun _ _ => wrU_inj) h2]
theorem wrU_own (w : Wr) : wrU w.own = wrU w := rfl
theorem entU_own (e : Ent) : entU e.own = entU e := by
  simp only [entU, Ent.own, List.map_map]
  rfl
theorem prevsG_map {α β : Type} (f : α → β) : ∀ (l : List α) (o : Option α), prevsG (o.map f) (l.map f) = (prevsG o l).map fun p => (p.1.map f, f p.2)
  | [], _ => rfl
  | v :: r, o => by
    have := prevsG_map f r (some v)
    simp only [Option.map_some] at this
    simp only [List.map_cons, prevsG, this]
theorem wrsOk_own (l : List Wr) : wrsOk (l.map Wr.own) = wrsOk l := by
  have := prevsG_map Wr.own l none
  simp only [Option.map_none] at this
  unfold wrsOk
  rw [this, List.all_map]
  congr 1
  funext p
  obtain ⟨o, v⟩ := p
  cases o <;> rfl
theorem logOk_own (l : List Ent) : logOk (l.map Ent.own) = logOk l := by
  have := prevsG_map Ent.own l none
  simp only [Option.map_none] at this
  unfold logOk
  rw [this, List.all_map, List.length_map]
  congr 2
  funext p
  obtain ⟨o, v⟩ := p
  have e : v.own.one = v.one := by unfold Ent.one Ent.own; simp only [wrsOk_own]
  cases o <;> simp only [Function.comp, entOk, e, Option.map_none, Option.map_some] <;> rfl
theorem logOk_vs {a b : List Ent} (h : a.map entU = b.map entU) : logOk a = logOk b := by rw [← logOk_own a, ← logOk_own b, map_same (fun _ _ => entU_inj) h]
/-- What a size says of a log. -/
def LimE (l : List Ent) : Prop := l.length ≤ 1048576 ∧ ∀ e ∈ l, e.ws.length ≤ 1048576 ∧ ∀ w ∈ e.ws, w.row.vs.length ≤ 1048576 ∧ ∀ v ∈ w.row.vs, v.s.size ≤ 1048576
theorem wrs_lim {ws : List Wr} (L : LenF 1048576 1048576 (.sub fdWrite) (.sub (ws.map wrU))) : ws.length ≤ 1048576 ∧ ∀ w ∈ ws, w.row.vs.length ≤ 1048576 ∧ ∀ v ∈ w.row.vs, v.s.size ≤ 1048576 := by
  simp only [LenF, List.length_map] at L
  refine ⟨L.1, fun w hw => ?_⟩
  obtain ⟨i, hi⟩ := List.getElem?_of_mem hw
  have := AllU_at L.2 (map_at wrU hi)
  simp only [fdWrite, wrU, LenR, LenF, List.length_map, true_and, and_true] at this
  refine ⟨this.1, fun v hv => ?_⟩
  obtain ⟨j, hj⟩ := List.getElem?_of_mem hv
  have := AllU_at this.2 (map_at valU hj)
  simp only [fdValue, valU, LenR, LenF, true_and, and_true] at this
  exact this
theorem ents_lim {l : List Ent} (L : LenF 1048576 1048576 (.sub fdEntry) (.sub (l.map entU))) : LimE l := by
  simp only [LenF, List.length_map] at L
  refine ⟨L.1, fun e he => ?_⟩
  obtain ⟨i, hi⟩ := List.getElem?_of_mem he
  have := AllU_at L.2 (map_at entU hi)
  simp only [fdEntry, entU, LenR, LenF, true_and, and_true] at this
  exact wrs_lim (by simp only [LenF]; exact this)
theorem LimE.fine {l : List Ent} (h : LimE l) : FineE l ∧ ShortE l ∧ l.length < 1099511627776 := by
  obtain ⟨h1, h2⟩ := h
  refine ⟨⟨by omega, fun e he => ?_⟩, fun e he => ?_, by omega⟩
  · obtain ⟨h3, h4⟩ := h2 e he
    exact ⟨by omega, by omega, fun w hw => by have := (h4 w hw).1; omega⟩
  · obtain ⟨h3, h4⟩ := h2 e he
    exact ⟨by omega, fun w hw => ⟨by have := (h4 w hw).1; omega, fun v hv => by have := (h4 w hw).2 v hv; omega⟩⟩
theorem LimE.sub {l l2 : List Ent} (h : LimE l) (hn : l2.length ≤ 1048576) (hs : ∀ e ∈ l2, e ∈ l) : LimE l2 := ⟨hn, fun e he => h.2 e (hs e he)⟩
theorem wrs_len2 {n m : Nat} {ws : List Wr} (h0 : ws.length ≤ n) (h : ∀ w ∈ ws, w.row.vs.length ≤ n ∧ ∀ v ∈ w.row.vs, v.s.size ≤ m) : LenF n m (.sub fdWrite) (.sub (ws.map wrU)) := by
  simp only [LenF, List.length_map]
  refine ⟨h0, all_of (fun x hx => ?_)⟩
  obtain ⟨w, hw, rfl⟩ := List.mem_map.1 hx
  have := vals_len (h w hw).1 (h w hw).2
  simp only [fdWrite, wrU, LenR]
  exact ⟨by simp [LenF], this, by simp [LenF], trivial⟩
theorem ents_len {l : List Ent} (h : LimE l) : LenF 1048576 1048576 (.sub fdEntry) (.sub (l.map entU)) := by
  simp only [LenF, List.length_map]
  refine ⟨h.1, all_of (fun x hx => ?_)⟩
  obtain ⟨e, he, rfl⟩ := List.mem_map.1 hx
  obtain ⟨h1, h2⟩ := h.2 e he
  have := wrs_len2 h1 h2
  simp only [fdEntry, entU, LenR]
  exact ⟨by simp [LenF], this, trivial⟩
end Go.Proofs.Yteaojpfofifmnaa.PE
/- Calls whose results are memory of one's own, and a number beside it. -/
set_option linter.unusedVariables false
set_option linter.unusedSimpArgs false
namespace Go.Proofs.Yteaojpfofifmnaa.PE
open Go.RowKit

theorem own_callAS {run : Run} {h : Heap} {f : Nat} {args args' : List V} {cs : List V} {s : V} {hc : Heap} {fs : List Fd} {x : List U} {ids : List Nat} (hp : pureDAs h args = some args') (hr : run f args' [] = some ([.agg cs, s], hc)) (ho : OwnR hc fs cs x ids) (hn : ids.Nodup) (hs : cs.all scalar = false) (hsc : scalar s = true) :
    ∃ cs' h' ids', callX run h 0 f args = some (.tup [.agg cs', s], h') ∧ OwnR h' fs cs' x ids' ∧ ids'.Nodup ∧ (∀ j ∈ ids', h.length ≤ j) ∧ (∀ j, j < h.length → h'[j]? = h[j]?) ∧ h.length ≤ h'.length := by
  have hf := OwnR_fresh fs ho
  refine ⟨cs.map (shC h.length), h ++ movedH h.length hc, ids.map (· + h.length), ?_, OwnR_moved _ ho, ?_, fun j hj => ?_, fun j hj => by rw [List.getElem?_append_left hj], by simp⟩
  · cases s <;> first | (simp only [callX, callO, hp, hr, BackO, List.all_cons, List.all_nil, scalarA, freshA, freshC, shC, hs, hf, Bool.false_eq_true, Bool.false_and, Bool.true_and, Bool.and_self, if_false, if_true, List.map_cons, List.map_nil, oneOf, shA]; done) | cases hsc
  · exact (List.pairwise_map.2 (List.Pairwise.imp (fun {a b} hab => by simp only [ne_eq] at hab ⊢; omega) hn))
  · obtain ⟨i, _, rfl⟩ := List.mem_map.1 hj
    omega
theorem own_callFS {run : Run} {h : Heap} {f : Nat} {args args' : List V} {v s : V} {hc : Heap} {fs : List Fd} {u : U} {ids : List Nat} (hp : pureDAs h args = some args') (hr : run f args' [] = some ([v, s], hc)) (ho : OwnF hc (.sub fs) v u ids) (hn : ids.Nodup) (hsc : scalar s = true) :
    ∃ v' h' ids', callX run h 0 f args = some (.tup [v', s], h') ∧ OwnF h' (.sub fs) v' u ids' ∧ ids'.Nodup ∧ (∀ j ∈ ids', h.length ≤ j) ∧ (∀ j, j < h.length → h'[j]? = h[j]?) ∧ h.length ≤ h'.length := by
  refine ⟨shC h.length v, h ++ movedH h.length hc, ids.map (· + h.length), ?_, OwnF_moved _ ho, ?_, fun j hj => ?_, fun j hj => by rw [List.getElem?_append_left hj], by simp⟩
  · rcases own_cases ho with ⟨c, rfl⟩ | ⟨id, st, n, clip, rfl⟩ <;> cases s <;> first | (simp only [callX, callO, hp, hr, BackO, List.all_cons, List.all_nil, scalarA, scalar, freshA, freshC, isNil, shA, shC, Bool.false_eq_true, Bool.false_and, Bool.true_and, Bool.and_self, Bool.and_true, if_false, if_true, List.map_cons, List.map_nil, oneOf]; done) | cases hsc
  · exact (List.pairwise_map.2 (List.Pairwise.imp (fun {a b} hab => by simp only [ne_eq] at hab ⊢; omega) hn))
  · obtain ⟨i, _, rfl⟩ := List.mem_map.1 hj
    omega
theorem pureDA_sl (h : Heap) (c : Bool) (n : Nat) (xs : List (List V)) : pureDA h (.sl c n xs) = some (.sl c n xs) := rfl
end Go.Proofs.Yteaojpfofifmnaa.PE
/- Steps of exact statements of structs. -/
set_option linter.unusedVariables false
set_option linter.unusedSimpArgs false
namespace Go.Proofs.Yteaojpfofifmnaa.PE
open Go.RowKit

theorem pureDA_of {h : Heap} {fs : List Fd} {v q : V} {u : U} {ids : List Nat} (ho : OwnF h (.sub fs) v u ids) (e : pureD h 6 v = some q) : pureDA h v = some q := by
  rcases own_cases ho with ⟨c, rfl⟩ | ⟨id, st, n, clip, rfl⟩ <;> exact e
theorem pureDA_agg (h : Heap) (cs : List V) : pureDA h (.agg cs) = (mapO (pureD h 6) cs).map .agg := rfl
theorem pureD_intv (h : Heap) (n : Nat) (k : IntKind) (m : Int) : pureD h n (.int k m) = some (.int k m) := by cases n <;> rfl
theorem pureD_boolv (h : Heap) (n : Nat) (b : Bool) : pureD h n (.bool b) = some (.bool b) := by cases n <;> rfl
theorem pureD_strv (h : Heap) (n : Nat) (b : ByteArray) : pureD h n (.str b) = some (.str b) := by cases n <;> rfl
end Go.Proofs.Yteaojpfofifmnaa.PE
/- What a follower has of a log; a backup and the log behind it. -/
set_option linter.unusedSimpArgs false
set_option linter.unusedVariables false
set_option maxHeartbeats 4000000
namespace Go.Proofs.Yteaojpfofifmnaa.PE
open Go.RowKit

def icell (x : Int) : List V := [.int .i64 x]
def icU (x : Int) : List U := [.int x]
theorem ints_each {y : List (List U)} {p : V} (h : PurF (.sub fdInt) p (.sub y)) : ∃ (c : Bool) (l : List Int), p = .sl c 1 (l.map icell) ∧ y = l.map icU := by
  obtain ⟨c, ct, rfl, hz⟩ := purS_Int h
  obtain ⟨l, rfl, rfl⟩ := typ_of (f := icell) (g := icU) (fun c x hr => by
    obtain ⟨a0, rfl, rfl⟩ := purR_Int hr
    exact ⟨a0, rfl, rfl⟩) hz
  exact ⟨c, l, rfl, rfl⟩
theorem icU_inj {a b : Int} (h : icU a = icU b) : a = b := by
  simp only [icU, List.cons.injEq, U.int.injEq, and_true] at h
  exact h
def fol1 (m : Nat) (b : Nat) (x : Int) : Nat := if x = b ∧ (b : Int) < m then b + 1 else b
def fol (m : Nat) (xs : List Int) : Nat := xs.foldl (fol1 m) 0
theorem fol1_le {m b : Nat} {x : Int} (h : b ≤ m) : fol1 m b x ≤ m := by
  unfold fol1
  split <;> omega
theorem loop_folI (d : Nat) (c c' : Bool) (l : List Ent) (xs : List Int) (hl : l.length < 1099511627776) (hs : xs.length < 1099511627776) (K : Nat) (hK : (xs).length ≤ K) (b0 : Nat) (hb0 : (fun (i : Nat) (b : Nat) => b ≤ l.length) 0 b0) : LoopS (runD tab noExt d) (drawI (runD tab noExt d)) [0, 5, 11, 12, 13] [0, 5] L48x0 ([] : Heap).length K [(0, .sl c 2 (l.map Ent.cells)), (5, .int .i64 (b0 : Nat)), (11, .sl c' 1 (xs.map icell)), (12, .int .i64 xs.length), (13, .int .i64 (0 : Nat))] [] = (some (.exit 0, [(0, .sl c 2 (l.map Ent.cells)), (5, .int .i64 (((xs).foldl (fol1 l.length) b0) : Nat))], []) : Out) ∧ (fun (i : Nat) (b : Nat) => b ≤ l.length) (xs).length ((xs).foldl (fol1 l.length) b0) := by
  have key := LoopS_foldI (run := (runD tab noExt d)) (draw := drawI (runD tab noExt d)) (live := [0, 5, 11, 12, 13]) (out := [0, 5]) (c := L48x0) (n0 := ([] : Heap).length) (xs) (fol1 l.length) (fun (i : Nat) (b : Nat) => b ≤ l.length) (fun (i : Nat) (b : Nat) => [(0, .sl c 2 (l.map Ent.cells)), (5, .int .i64 (b : Nat)), (11, .sl c' 1 (xs.map icell)), (12, .int .i64 xs.length), (13, .int .i64 (i : Nat))]) (fun (i : Nat) (b : Nat) => []) (fun b => (some (.exit 0, [(0, .sl c 2 (l.map Ent.cells)), (5, .int .i64 (b : Nat))], []) : Out)) (fun b K hb => ?_) (fun (i : Nat) (x : Int) b K hi hx hb => ?_) K hK b0 hb0
  · simp only [Int.natCast_zero] at key
    exact key
  · rw [LoopS_eq]
    simp -implicitDefEqProofs only [go_sem, Nat.reduceBEq, Nat.reduceAdd, Nat.reduceSub, Nat.reduceMul, Nat.reduceLeDiff, Nat.reduceEqDiff, Nat.reduceLT, Int.reduceNeg, Int.reduceAdd, Int.reduceSub, Int.reduceMul, Int.reduceLE, Int.reduceLT, Int.reduceEq, Int.reduceToNat, reduceCtorEq, evL48x0, B48x0, Int.lt_irrefl]
  · have hk : fol1 l.length b x = if x = (b : Int) ∧ (b : Int) < l.length then b + 1 else b := rfl; rw [hk]; by_cases k1 : x = (b : Int) <;> by_cases k2 : (b : Int) < l.length
    all_goals
      refine ⟨?_, ?_⟩
      · (simp only [k1, k2, true_and, and_true, and_self, if_true, if_false, false_and, and_false]; try omega)
      · rw [LoopS_eq]
        simp -implicitDefEqProofs (disch := first | omega | assumption) only [go_sem, Nat.reduceBEq, Nat.reduceAdd, Nat.reduceSub, Nat.reduceMul, Nat.reduceLeDiff, Nat.reduceEqDiff, Nat.reduceLT, Int.reduceNeg, Int.reduceAdd, Int.reduceSub, Int.reduceMul, Int.reduceLE, Int.reduceLT, Int.reduceEq, Int.reduceToNat, reduceCtorEq, evL48x0, B48x0, hi, hx, IntWalk.i64_in, List.map_append, List.foldl_cons, hx, icell, k1, k2, hk]
        skip
-- find48
theorem own_followed (d : Nat) (c c' : Bool) (l : List Ent) (xs : List Int) (h : LimE l) (hs : xs.length < 1099511627776) : ∃ v hc ids, runD tab noExt (d + 10) 48 [.sl c 2 (l.map Ent.cells), .sl c' 1 (xs.map icell)] [] = some ([v], hc) ∧ OwnF hc (.sub fdEntry) v (.sub ((if logOk l then l.take (fol l.length xs) else []).map entU)) ids ∧ ids.Nodup := by
  obtain ⟨f1, f2, f3⟩ := h.fine
  have hv := run_logI d c l f3 f2
  cases hok : logOk l
  · rw [hok] at hv
    refine ⟨.sl true 2 [], [], [], ?_, own_nil rfl, List.nodup_nil⟩
    rw [runD_eq find48 _ _ _ (by simp)]
    simp -implicitDefEqProofs (disch := omega) only [go_sem, Nat.reduceBEq, Nat.reduceAdd, Nat.reduceSub, Nat.reduceMul, Nat.reduceLeDiff, Nat.reduceEqDiff, Nat.reduceLT, Int.reduceNeg, Int.reduceAdd, Int.reduceSub, Int.reduceMul, Int.reduceLE, Int.reduceLT, Int.reduceEq, Int.reduceToNat, reduceCtorEq, hv]
  · rw [hok] at hv
    obtain ⟨hl, hle⟩ := loop_folI (d + 9) c c' l xs f3 hs 1099511627775 (by omega) 0 (Nat.zero_le _)
    have hfl : fol l.length xs = xs.foldl (fol1 l.length) 0 := rfl
    rw [← hfl] at hl hle
    generalize fol l.length xs = n at hl hle
    simp only [List.length_nil, Int.natCast_zero] at hl
    have hsub : LimE (l.take n) := h.sub (by have := h.1; simp; omega) (fun e he => List.mem_of_mem_take he)
    have et : List.take n (l.map Ent.cells) = (l.take n).map Ent.cells := (List.map_take).symm
    have hi : (n : Int) ≤ l.length := by omega
    obtain ⟨v1, hc, is0, e1, e2, e3⟩ := own_logCopy (d + 5) (c && decide ((n : Int) = l.length)) (l.take n) hsub.fine.1
    obtain ⟨w, h1, js, k1, k2, k3, k4, k5, k6⟩ := own_call (h := []) (args := [.sl (c && decide ((n : Int) = l.length)) 2 ((l.take n).map Ent.cells)]) (by simp only [pureDAs, mapO, pureDA, pureD]) e1 e2 e3
    refine ⟨w, h1, js, ?_, k2, k3⟩
    rw [runD_eq find48 _ _ _ (by simp)]
    simp -implicitDefEqProofs (disch := omega) only [go_sem, Nat.reduceBEq, Nat.reduceAdd, Nat.reduceSub, Nat.reduceMul, Nat.reduceLeDiff, Nat.reduceEqDiff, Nat.reduceLT, Int.reduceNeg, Int.reduceAdd, Int.reduceSub, Int.reduceMul, Int.reduceLE, Int.reduceLT, Int.reduceEq, Int.reduceToNat, reduceCtorEq, hv]
    try simp -implicitDefEqProofs only [go_sem, Nat.reduceBEq, Nat.reduceAdd, Nat.reduceSub, Nat.reduceMul, Nat.reduceLeDiff, Nat.reduceEqDiff, Nat.reduceLT, Int.reduceNeg, Int.reduceAdd, Int.reduceSub, Int.reduceMul, Int.reduceLE, Int.reduceLT, Int.reduceEq, Int.reduceToNat, reduceCtorEq] at hl
    rw [hl]
    rcases own_cases k2 with ⟨cx, rfl⟩ | ⟨id, st, m, clip, rfl⟩ <;> simp -implicitDefEqProofs (disch := first | omega | assumption) only [go_sem, Nat.reduceBEq, Nat.reduceAdd, Nat.reduceSub, Nat.reduceMul, Nat.reduceLeDiff, Nat.reduceEqDiff, Nat.reduceLT, Int.reduceNeg, Int.reduceAdd, Int.reduceSub, Int.reduceMul, Int.reduceLE, Int.reduceLT, Int.reduceEq, Int.reduceToNat, reduceCtorEq, hi, et, k1, resOk, Option.getD_some, Option.isSome_none, Option.isSome_some, Option.isNone_some, Nat.sub_zero]
theorem take_snoc_at {α : Type} {l : List α} {n : Nat} (h : n < l.length) : ∃ x, l[n]? = some x ∧ l.take (n + 1) = l.take n ++ [x] := ⟨l[n], List.getElem?_eq_getElem h, take_snoc (List.getElem?_eq_getElem h)⟩
-- find46
theorem run_followedS (d : Nat) (c c' : Bool) (l : List Ent) (xs : List Int) (h : LimE l) (hs : xs.length < 1099511627776) : ∃ cw, retP (runD tab noExt (d + 6)) 46 [.sl c 2 (l.map Ent.cells), .sl c' 1 (xs.map icell)] = some [.sl cw 2 (((if logOk l then l.take (fol l.length xs) else []).map Ent.own).map Ent.cells)] := by
  obtain ⟨f1, f2, f3⟩ := h.fine
  have hv := run_logS d c l f3 f2
  cases hok : logOk l
  · rw [hok] at hv
    have hcp := run_l18 (d + 2) false [] ⟨by simp, fun _ h => by cases h⟩
    simp only [List.map_nil] at hcp
    refine ⟨false, ?_⟩
    rw [retP, runD_eq find46 _ _ _ (by simp)]
    simp -implicitDefEqProofs (disch := omega) only [go_sem, Nat.reduceBEq, Nat.reduceAdd, Nat.reduceSub, Nat.reduceMul, Nat.reduceLeDiff, Nat.reduceEqDiff, Nat.reduceLT, Int.reduceNeg, Int.reduceAdd, Int.reduceSub, Int.reduceMul, Int.reduceLE, Int.reduceLT, Int.reduceEq, Int.reduceToNat, reduceCtorEq]
    rw [LoopS_eq]
    by_cases h0 : (0 : Int) < xs.length
    · simp -implicitDefEqProofs (disch := omega) only [go_sem, Nat.reduceBEq, Nat.reduceAdd, Nat.reduceSub, Nat.reduceMul, Nat.reduceLeDiff, Nat.reduceEqDiff, Nat.reduceLT, Int.reduceNeg, Int.reduceAdd, Int.reduceSub, Int.reduceMul, Int.reduceLE, Int.reduceLT, Int.reduceEq, Int.reduceToNat, reduceCtorEq, evL46x0, B46x0, h0, hv, hcp, Bool.false_eq_true, if_false, List.map_nil]
    · simp -implicitDefEqProofs (disch := omega) only [go_sem, Nat.reduceBEq, Nat.reduceAdd, Nat.reduceSub, Nat.reduceMul, Nat.reduceLeDiff, Nat.reduceEqDiff, Nat.reduceLT, Int.reduceNeg, Int.reduceAdd, Int.reduceSub, Int.reduceMul, Int.reduceLE, Int.reduceLT, Int.reduceEq, Int.reduceToNat, reduceCtorEq, evL46x0, B46x0, h0, hcp, Bool.false_eq_true, if_false, List.map_nil]
  · rw [hok] at hv
    obtain ⟨b', ⟨g1, g2⟩, e⟩ := LoopS_inv (run := runD tab noExt (d + 5)) (draw := drawI (runD tab noExt (d + 5))) (live := [0, 1, 5, 6]) (out := [5]) (c := L46x0) (n0 := 1) xs.length
      (fun i (b : Nat) => b = (xs.take i).foldl (fol1 l.length) 0 ∧ b ≤ l.length)
      (fun i b => [(0, .sl c 2 (l.map Ent.cells)), (1, .sl c' 1 (xs.map icell)), (5, .ref 0 b 0 b false), (6, .int .i64 (i : Nat))]) (fun b => [.rows b 2 ((l.take b).map Ent.cells)]) (fun b => some (.exit 0, [(5, .ref 0 b 0 b false)], [.rows b 2 ((l.take b).map Ent.cells)]))
      (fun b K hb => by
        rw [LoopS_eq]
        simp -implicitDefEqProofs only [go_sem, Nat.reduceBEq, Nat.reduceAdd, Nat.reduceSub, Nat.reduceMul, Nat.reduceLeDiff, Nat.reduceEqDiff, Nat.reduceLT, Int.reduceNeg, Int.reduceAdd, Int.reduceSub, Int.reduceMul, Int.reduceLE, Int.reduceLT, Int.reduceEq, Int.reduceToNat, reduceCtorEq, evL46x0, B46x0, Int.lt_irrefl]) (fun i b K hi hb => by
        obtain ⟨g, gle⟩ := hb
        have hx := List.getElem?_eq_getElem hi
        generalize xs[i] = x at hx
        have hi' : (i : Int) < xs.length := by omega
        refine ⟨fol1 l.length b x, ⟨?_, fol1_le gle⟩, ?_⟩
        · rw [take_snoc hx, List.foldl_append, ← g]
          rfl
        have hlt : ((l.take b).map Ent.cells).length = b := by simp; omega
        have hsm : b + 1 < 4294967296 := by have := h.1; omega
        unfold fol1
        rw [LoopS_eq]
        by_cases k1 : x = (b : Int)
        · by_cases k2 : (b : Int) < l.length
          · obtain ⟨y, hy, ht⟩ := take_snoc_at (l := l) (n := b) (by omega)
            rw [if_pos ⟨k1, k2⟩, ht]
            subst k1
            simp -implicitDefEqProofs (disch := omega) only [go_sem, Nat.reduceBEq, Nat.reduceAdd, Nat.reduceSub, Nat.reduceMul, Nat.reduceLeDiff, Nat.reduceEqDiff, Nat.reduceLT, Int.reduceNeg, Int.reduceAdd, Int.reduceSub, Int.reduceMul, Int.reduceLE, Int.reduceLT, Int.reduceEq, Int.reduceToNat, reduceCtorEq, evL46x0, B46x0, hi', hx, hv, icell, k2, hy, hlt, hsm, Ent.cells, Ent.v, IntWalk.i64_in, List.map_append, List.map_cons, List.map_nil]
          · rw [if_neg (fun h => k2 h.2)]
            subst k1
            simp -implicitDefEqProofs (disch := omega) only [go_sem, Nat.reduceBEq, Nat.reduceAdd, Nat.reduceSub, Nat.reduceMul, Nat.reduceLeDiff, Nat.reduceEqDiff, Nat.reduceLT, Int.reduceNeg, Int.reduceAdd, Int.reduceSub, Int.reduceMul, Int.reduceLE, Int.reduceLT, Int.reduceEq, Int.reduceToNat, reduceCtorEq, evL46x0, B46x0, hi', hx, hv, icell, k2, IntWalk.i64_in]
        · rw [if_neg (fun h => k1 h.1)]
          simp -implicitDefEqProofs (disch := omega) only [go_sem, Nat.reduceBEq, Nat.reduceAdd, Nat.reduceSub, Nat.reduceMul, Nat.reduceLeDiff, Nat.reduceEqDiff, Nat.reduceLT, Int.reduceNeg, Int.reduceAdd, Int.reduceSub, Int.reduceMul, Int.reduceLE, Int.reduceLT, Int.reduceEq, Int.reduceToNat, reduceCtorEq, evL46x0, B46x0, hi', hx, hv, icell, k1, IntWalk.i64_in]) 1099511627775 (by omega) 0 ⟨rfl, Nat.zero_le _⟩
    rw [List.take_of_length_le (Nat.le_refl _)] at g1
    have hfl : fol l.length xs = b' := g1.symm
    rw [hfl]
    have hsub : LimE (l.take b') := h.sub (by have := h.1; simp; omega) (fun e he => List.mem_of_mem_take he)
    have hcp := run_l18 (d + 2) false (l.take b') hsub.fine.1
    have et : List.take b' ((l.take b').map Ent.cells) = (l.take b').map Ent.cells := List.take_of_length_le (by simp; omega)
    refine ⟨false, ?_⟩
    rw [retP, runD_eq find46 _ _ _ (by simp)]
    simp -implicitDefEqProofs (disch := omega) only [go_sem, Nat.reduceBEq, Nat.reduceAdd, Nat.reduceSub, Nat.reduceMul, Nat.reduceLeDiff, Nat.reduceEqDiff, Nat.reduceLT, Int.reduceNeg, Int.reduceAdd, Int.reduceSub, Int.reduceMul, Int.reduceLE, Int.reduceLT, Int.reduceEq, Int.reduceToNat, reduceCtorEq]
    try simp -implicitDefEqProofs only [go_sem, Nat.reduceBEq, Nat.reduceAdd, Nat.reduceSub, Nat.reduceMul, Nat.reduceLeDiff, Nat.reduceEqDiff, Nat.reduceLT, Int.reduceNeg, Int.reduceAdd, Int.reduceSub, Int.reduceMul, Int.reduceLE, Int.reduceLT, Int.reduceEq, Int.reduceToNat, reduceCtorEq, List.take_zero, List.map_nil, Int.natCast_zero] at e
    rw [e]
    simp -implicitDefEqProofs (disch := omega) only [go_sem, Nat.reduceBEq, Nat.reduceAdd, Nat.reduceSub, Nat.reduceMul, Nat.reduceLeDiff, Nat.reduceEqDiff, Nat.reduceLT, Int.reduceNeg, Int.reduceAdd, Int.reduceSub, Int.reduceMul, Int.reduceLE, Int.reduceLT, Int.reduceEq, Int.reduceToNat, reduceCtorEq, et, hcp, if_true]
theorem prevsG_mem {α : Type} {f : Option α × α → Bool} : ∀ {l : List α} {o : Option α}, (prevsG o l).all f = true → ∀ x ∈ l, ∃ p, f (p, x) = true
  | [], _, _, x, hx => by cases hx
  | v :: r, o, h, x, hx => by
    simp only [prevsG, List.all_cons, Bool.and_eq_true] at h
    rcases List.mem_cons.1 hx with rfl | hx
    · exact ⟨o, h.1⟩
    · exact prevsG_mem h.2 x hx
theorem logOk_one {l : List Ent} (h : logOk l = true) : ∀ e ∈ l, e.one = true := by
  intro e he
  simp only [logOk, Bool.and_eq_true] at h
  obtain ⟨p, hp⟩ := prevsG_mem h.1 e he
  simp only [entOk, Bool.and_eq_true] at hp
  exact hp.1
theorem ent_cnt {e : Ent} (h : e.one = true) : cntR fdEntry (entU e) ≤ 100 := by
  simp only [Ent.one, Bool.and_eq_true] at h
  have h5 := wrs_len5 h.2
  have hw : ∀ w ∈ e.ws, w.row.vs.length ≤ 4 := by
    intro w hw
    simp only [wrsOk] at h
    obtain ⟨p, hp⟩ := prevsG_mem h.2 w hw
    simp only [wrOk, Wr.one, rowOk, Bool.and_eq_true, decide_eq_true_eq] at hp
    exact hp.1.2.1.2
  have := sum_all (c := cntR fdWrite) (n := 14) (xs := e.ws.map wrU) (fun x hx => by
    obtain ⟨w, hw', rfl⟩ := List.mem_map.1 hx
    have e1 : cntR fdWrite (wrU w) = 1 + cntF (.sub fdValue) (.sub (w.row.vs.map valU)) + 1 := by simp only [fdWrite, wrU, cntR, cntF_int, cntF_bool]; omega
    have := hw w hw'
    rw [e1, vals_cnt]
    omega)
  rw [List.length_map] at this
  have e2 : cntR fdEntry (entU e) = 1 + sumU (cntR fdWrite) (e.ws.map wrU) := by simp only [fdEntry, entU, cntR, cntF_int, cntF]; omega
  rw [e2]
  omega
theorem ents_cnt {l : List Ent} (h : ∀ e ∈ l, e.one = true) (hn : l.length ≤ 1048576) : (cntF (.sub fdEntry) (.sub (l.map entU)) : Int) ≤ 2305843009213693952 := by
  have := sum_all (c := cntR fdEntry) (n := 100) (xs := l.map entU) (fun x hx => by
    obtain ⟨e, he, rfl⟩ := List.mem_map.1 hx
    exact ent_cnt (h e he))
  rw [List.length_map] at this
  simp only [cntF]
  omega
theorem entsU_own (l : List Ent) : (l.map Ent.own).map entU = l.map entU := by
  rw [List.map_map]
  exact List.map_congr_left (fun e _ => entU_own e)
theorem ents_own_pur (c : Bool) (l : List Ent) : PurF (.sub fdEntry) (.sl c 2 ((l.map Ent.own).map Ent.cells)) (.sub (l.map entU)) := by
  have := pur_map ent_pur c 2 rfl (l.map Ent.own)
  rw [entsU_own] at this
  exact this
theorem take_vs {a b : List Ent} (h : a.map entU = b.map entU) (n : Nat) : (a.take n).map entU = (b.take n).map entU := by rw [List.map_take, List.map_take, h]
theorem len_vs {a b : List Ent} (h : a.map entU = b.map entU) : a.length = b.length := by have := congrArg List.length h; simpa using this
theorem core_Followed {x0 : List (List U)} (h0 : ∃ p, PurF (.sub fdEntry) p (.sub x0)) (L0 : LenF 1048576 1048576 (.sub fdEntry) (.sub x0)) {x1 : List (List U)} (h1 : ∃ p, PurF (.sub fdInt) p (.sub x1)) (L1 : LenF 1048576 1048576 (.sub fdInt) (.sub x1)) :
    ∃ ux, LenF big big (.sub fdEntry) (.sub ux) ∧ (cntF (.sub fdEntry) (.sub ux) : Int) ≤ 2305843009213693952 ∧
      (∀ {q0 q1 : V}, PurF (.sub fdEntry) q0 (.sub x0) → PurF (.sub fdInt) q1 (.sub x1) → ∃ w, retP (runD tab noExt 60) 46 [q0, q1] = some [w] ∧ PurF (.sub fdEntry) w (.sub ux)) ∧
      (∀ {q0 q1 : V}, PurF (.sub fdEntry) q0 (.sub x0) → PurF (.sub fdInt) q1 (.sub x1) → ∃ v hc ids, runD tab noExt 60 48 [q0, q1] [] = some ([v], hc) ∧ OwnF hc (.sub fdEntry) v (.sub ux) ids ∧ ids.Nodup) := by
  obtain ⟨p0, g0⟩ := h0
  obtain ⟨p1, g1⟩ := h1
  obtain ⟨_, l, rfl, rfl⟩ := ents_each g0
  obtain ⟨_, xs, rfl, rfl⟩ := ints_each g1
  have lim := ents_lim L0
  have lx : xs.length ≤ 1048576 := by simp only [LenF, List.length_map] at L1; exact L1.1
  have key : ∀ l2 : List Ent, l2.map entU = l.map entU → (if logOk l2 then l2.take (fol l2.length xs) else []).map entU = (if logOk l then l.take (fol l.length xs) else []).map entU := by
    intro l2 f
    rw [logOk_vs f, len_vs f]
    cases logOk l
    · rfl
    · exact take_vs f _
  have hsub : LimE (if logOk l then l.take (fol l.length xs) else []) := by
    cases logOk l
    · exact ⟨by simp, fun _ h => by simp at h⟩
    · exact lim.sub (by simp only [if_true, List.length_take]; have := lim.1; omega) (fun e he => List.mem_of_mem_take he)
  refine ⟨(if logOk l then l.take (fol l.length xs) else []).map entU, LenF_mono (by decide) (by decide) _ (ents_len hsub), ents_cnt (fun e he => ?_) hsub.1, fun k0 k1 => ?_, fun k0 k1 => ?_⟩
  · cases hok : logOk l
    · rw [hok] at he; simp at he
    · rw [hok] at he
      exact logOk_one hok e (List.mem_of_mem_take he)
  all_goals
    obtain ⟨c, l2, rfl, f⟩ := ents_each k0
    obtain ⟨c', xs2, rfl, f2⟩ := ints_each k1
    obtain rfl := map_inj (fun _ _ => icU_inj) f2
    have lim2 : LimE l2 := ents_lim (by rw [← f]; exact L0)
    rw [← key l2 f.symm]
  · obtain ⟨cw, e⟩ := run_followedS 54 c c' l2 xs lim2 (by omega)
    exact ⟨_, e, ents_own_pur cw _⟩
  · exact own_followed 50 c c' l2 xs lim2 (by omega)
end Go.Proofs.Yteaojpfofifmnaa.PE
/- A backup and the log behind it. -/
set_option linter.unusedSimpArgs false
set_option linter.unusedVariables false
set_option maxHeartbeats 4000000
namespace Go.Proofs.Yteaojpfofifmnaa.PE
open Go.RowKit

def behStep (t : Int) (b : List Ent) (x : Ent) : List Ent := if t < x.time then b ++ [x] else b
def beh (k : Ent) (l : List Ent) : List Ent := l.foldl (behStep k.time) [k]
theorem beh_fold (t : Int) : ∀ (l b : List Ent), l.foldl (behStep t) b = b ++ l.filter (fun x => decide (t < x.time))
  | [], b => by simp
  | x :: r, b => by
    rw [List.foldl_cons, beh_fold t r, List.filter_cons]
    unfold behStep
    by_cases h : t < x.time <;> simp [h]
theorem beh_eq (k : Ent) (l : List Ent) : beh k l = k :: l.filter (fun x => decide (k.time < x.time)) := by unfold beh; rw [beh_fold]; rfl
theorem prevs_pw : ∀ (l : List Ent) (o : Option Ent), (prevsG o l).all entOk = true ↔ (∀ e ∈ l, e.one = true) ∧ (∀ q, o = some q → ∀ e ∈ l, q.time < e.time) ∧ l.Pairwise (fun a b => a.time < b.time)
  | [], o => by simp [prevsG]
  | v :: r, o => by
    have ih := prevs_pw r (some v)
    simp only [prevsG, List.all_cons, Bool.and_eq_true, entOk, ih, List.pairwise_cons, List.mem_cons, forall_eq_or_imp, Option.some.injEq, forall_eq']
    constructor
    · rintro ⟨⟨h1, h2⟩, h3, h4, h5⟩
      refine ⟨⟨h1, h3⟩, fun q hq => ?_, h4, h5⟩
      subst hq
      have : q.time < v.time := by simpa [entAhead] using h2
      exact ⟨this, fun e he => by have := h4 e he; omega⟩
    · rintro ⟨⟨h1, h3⟩, h2, h4, h5⟩
      refine ⟨⟨h1, ?_⟩, h3, h4, h5⟩
      cases o with
      | none => rfl
      | some q => simpa [entAhead] using (h2 q rfl).1
theorem logOk_iff (l : List Ent) : logOk l = true ↔ (∀ e ∈ l, e.one = true) ∧ l.Pairwise (fun a b => a.time < b.time) ∧ l.length ≤ 12 := by
  unfold logOk
  rw [Bool.and_eq_true, prevs_pw, decide_eq_true_eq]
  constructor
  · rintro ⟨⟨h1, _, h3⟩, h4⟩
    exact ⟨h1, h3, by omega⟩
  · rintro ⟨h1, h3, h4⟩
    exact ⟨⟨h1, (fun q hq => by cases hq), h3⟩, by omega⟩
theorem beh_ok {k : Ent} {l : List Ent} (h : logOk l = true) : logOk (beh k l) = (logOk [k] && decide (((beh k l).length : Int) ≤ 12)) := by
  rw [logOk_iff] at h
  obtain ⟨h1, h2, h3⟩ := h
  rw [Bool.eq_iff_iff, Bool.and_eq_true, logOk_iff, logOk_iff, decide_eq_true_eq, beh_eq]
  constructor
  · rintro ⟨g1, g2, g3⟩
    exact ⟨⟨fun e he => by rw [List.mem_singleton.1 he]; exact g1 k List.mem_cons_self, by simp, by simp⟩, by omega⟩
  · rintro ⟨⟨g1, _, _⟩, g3⟩
    refine ⟨fun e he => ?_, List.pairwise_cons.2 ⟨fun e he => ?_, h2.filter _⟩, by omega⟩
    · rcases List.mem_cons.1 he with rfl | he
      · exact g1 _ (by simp)
      · exact h1 e (List.mem_filter.1 he).1
    · simpa using (List.mem_filter.1 he).2
def behOk (k : Ent) (l : List Ent) : Bool := logOk [k] && (logOk l && decide (((beh k l).length : Int) ≤ 12))
theorem behStep_len {t : Int} {b : List Ent} {x : Ent} {i : Nat} (h : 1 ≤ b.length ∧ b.length ≤ i + 1) : 1 ≤ (behStep t b x).length ∧ (behStep t b x).length ≤ i + 1 + 1 := by
  unfold behStep
  split
  · simp; omega
  · omega
theorem beh_lim {k : Ent} {l : List Ent} (h1 : LimE [k]) (h2 : LimE l) (hn : l.length ≤ 1048575) : LimE (beh k l) := by
  rw [beh_eq]
  refine ⟨?_, fun e he => ?_⟩
  · have := List.length_filter_le (fun x : Ent => decide (k.time < x.time)) l
    simp only [List.length_cons]
    omega
  · rcases List.mem_cons.1 he with rfl | he
    · exact h1.2 _ (by simp)
    · exact h2.2 e (List.mem_filter.1 he).1
theorem beh_fine {k : Ent} {l : List Ent} (h1 : LimE [k]) (h2 : LimE l) : FineE (beh k l) ∧ ShortE (beh k l) ∧ (beh k l).length ≤ 1048577 := by
  have hl : (beh k l).length ≤ 1048577 := by
    rw [beh_eq]
    have := List.length_filter_le (fun x : Ent => decide (k.time < x.time)) l
    have := h2.1
    simp only [List.length_cons]
    omega
  have hm : ∀ e ∈ beh k l, e ∈ [k] ∨ e ∈ l := fun e he => by
    rw [beh_eq] at he
    rcases List.mem_cons.1 he with rfl | he
    · exact .inl (by simp)
    · exact .inr (List.mem_filter.1 he).1
  obtain ⟨a1, a2, _⟩ := h1.fine
  obtain ⟨b1, b2, _⟩ := h2.fine
  exact ⟨⟨by omega, fun e he => (hm e he).elim (a1.2 e) (b1.2 e)⟩, fun e he => (hm e he).elim (a2 e) (b2 e), hl⟩
theorem loop_behI (d : Nat) (c : Bool) (k : Ent) (l : List Ent) (hl : l.length ≤ 1048576) (K : Nat) (hK : (l).length ≤ K) (b0 : List Ent) (hb0 : (fun (i : Nat) (b : List Ent) => 1 ≤ b.length ∧ b.length ≤ i + 1) 0 b0) : LoopS (runD tab noExt d) (drawI (runD tab noExt d)) [2, 6, 20, 21, 22] [6] L43x0 ([.box k.cells, .rows ((b0).length - 1) 2 ((b0).map Ent.cells)] : Heap).length K [(2, .ptr 0 0 0 0), (6, .ref 1 ((b0).length - 1) 0 (b0).length false), (20, .sl c 2 (l.map Ent.cells)), (21, .int .i64 l.length), (22, .int .i64 (0 : Nat))] [.box k.cells, .rows ((b0).length - 1) 2 ((b0).map Ent.cells)] = (some (.exit 0, [(6, .ref 1 ((((l).foldl (behStep k.time) b0)).length - 1) 0 (((l).foldl (behStep k.time) b0)).length false)], [.box k.cells, .rows ((((l).foldl (behStep k.time) b0)).length - 1) 2 ((((l).foldl (behStep k.time) b0)).map Ent.cells)]) : Out) ∧ (fun (i : Nat) (b : List Ent) => 1 ≤ b.length ∧ b.length ≤ i + 1) (l).length ((l).foldl (behStep k.time) b0) := by
  have key := LoopS_foldI (run := (runD tab noExt d)) (draw := drawI (runD tab noExt d)) (live := [2, 6, 20, 21, 22]) (out := [6]) (c := L43x0) (n0 := ([.box k.cells, .rows ((b0).length - 1) 2 ((b0).map Ent.cells)] : Heap).length) (l) (behStep k.time) (fun (i : Nat) (b : List Ent) => 1 ≤ b.length ∧ b.length ≤ i + 1) (fun (i : Nat) (b : List Ent) => [(2, .ptr 0 0 0 0), (6, .ref 1 ((b).length - 1) 0 (b).length false), (20, .sl c 2 (l.map Ent.cells)), (21, .int .i64 l.length), (22, .int .i64 (i : Nat))]) (fun (i : Nat) (b : List Ent) => [.box k.cells, .rows ((b).length - 1) 2 ((b).map Ent.cells)]) (fun b => (some (.exit 0, [(6, .ref 1 ((b).length - 1) 0 (b).length false)], [.box k.cells, .rows ((b).length - 1) 2 ((b).map Ent.cells)]) : Out)) (fun b K hb => ?_) (fun (i : Nat) (x : Ent) b K hi hx hb => ?_) K hK b0 hb0
  · simp only [Int.natCast_zero] at key
    exact key
  · rw [LoopS_eq]
    simp -implicitDefEqProofs only [go_sem, Nat.reduceBEq, Nat.reduceAdd, Nat.reduceSub, Nat.reduceMul, Nat.reduceLeDiff, Nat.reduceEqDiff, Nat.reduceLT, Int.reduceNeg, Int.reduceAdd, Int.reduceSub, Int.reduceMul, Int.reduceLE, Int.reduceLT, Int.reduceEq, Int.reduceToNat, reduceCtorEq, evL43x0, B43x0, Int.lt_irrefl]
  · have hsm : b.length + 1 < 4294967296 := (by have := hb.2; omega); have hst : b.length - 1 + 1 = b.length + 1 - 1 := (by have := hb.1; omega); have key : behStep k.time b x = if k.time < x.time then b ++ [x] else b := rfl; have hlen := behStep_len (t := k.time) (x := x) hb; revert hlen; rw [key]; by_cases k1 : k.time < x.time <;> (first | rw [if_pos k1] | rw [if_neg k1]) <;> intro hlen
    all_goals
      refine ⟨?_, ?_⟩
      · exact hlen
      · rw [LoopS_eq]
        simp -implicitDefEqProofs (disch := first | omega | assumption) only [go_sem, Nat.reduceBEq, Nat.reduceAdd, Nat.reduceSub, Nat.reduceMul, Nat.reduceLeDiff, Nat.reduceEqDiff, Nat.reduceLT, Int.reduceNeg, Int.reduceAdd, Int.reduceSub, Int.reduceMul, Int.reduceLE, Int.reduceLT, Int.reduceEq, Int.reduceToNat, reduceCtorEq, evL43x0, B43x0, hi, hx, IntWalk.i64_in, List.map_append, List.foldl_cons, hx, hsm, hst, Ent.cells, Ent.v, k1, if_true, if_false, List.map_cons, List.map_nil]
        skip
-- find43
theorem own_behind (d : Nat) (c : Bool) (k : Ent) (l : List Ent) (h1 : LimE [k]) (h2 : LimE l) : ∃ v hc ids, runD tab noExt (d + 10) 43 [.agg k.cells, .sl c 2 (l.map Ent.cells)] [] = some ([v, .bool (behOk k l)], hc) ∧ OwnF hc (.sub fdEntry) v (.sub ((if behOk k l then beh k l else []).map entU)) ids ∧ ids.Nodup := by
  obtain ⟨f1, f2, f3⟩ := h2.fine
  obtain ⟨_, e2, e3⟩ := h1.fine
  obtain ⟨b1, b2, b3⟩ := beh_fine h1 h2
  have hv1 := run_logI d true [k] e3 e2
  have hv2 := run_logI d c l f3 f2
  simp only [List.map_cons, List.map_nil, Ent.cells, Ent.v] at hv1
  unfold behOk
  cases o1 : logOk [k]
  · rw [o1] at hv1
    refine ⟨.sl true 2 [], [.box k.cells], [], ?_, own_nil rfl, List.nodup_nil⟩
    rw [runD_eq find43 _ _ _ (by simp)]
    simp -implicitDefEqProofs (disch := omega) only [go_sem, Nat.reduceBEq, Nat.reduceAdd, Nat.reduceSub, Nat.reduceMul, Nat.reduceLeDiff, Nat.reduceEqDiff, Nat.reduceLT, Int.reduceNeg, Int.reduceAdd, Int.reduceSub, Int.reduceMul, Int.reduceLE, Int.reduceLT, Int.reduceEq, Int.reduceToNat, reduceCtorEq, Ent.cells, Ent.v, elemsOf, elemOf, frzs, refs, refC, refsV, hv1]
  rw [o1] at hv1
  cases o2 : logOk l
  · rw [o2] at hv2
    refine ⟨.sl true 2 [], [.box k.cells], [], ?_, own_nil rfl, List.nodup_nil⟩
    rw [runD_eq find43 _ _ _ (by simp)]
    simp -implicitDefEqProofs (disch := omega) only [go_sem, Nat.reduceBEq, Nat.reduceAdd, Nat.reduceSub, Nat.reduceMul, Nat.reduceLeDiff, Nat.reduceEqDiff, Nat.reduceLT, Int.reduceNeg, Int.reduceAdd, Int.reduceSub, Int.reduceMul, Int.reduceLE, Int.reduceLT, Int.reduceEq, Int.reduceToNat, reduceCtorEq, Ent.cells, Ent.v, elemsOf, elemOf, frzs, refs, refC, refsV, hv1, hv2]
  rw [o2] at hv2
  obtain ⟨hl, hle⟩ := loop_behI (d + 9) c k l h2.1 1099511627775 (by omega) [k] ⟨by simp, by simp⟩
  have hbe : beh k l = l.foldl (behStep k.time) [k] := rfl
  rw [← hbe] at hl hle
  simp only [List.length_cons, List.length_nil, List.map_cons, List.map_nil, Int.natCast_zero, Ent.cells, Ent.v] at hl
  by_cases o3 : ((beh k l).length : Int) ≤ 12
  · have o3' : ¬ (12 : Int) < (beh k l).length := by omega
    have et : List.take (beh k l).length ((beh k l).map Ent.cells) = (beh k l).map Ent.cells := List.take_of_length_le (by simp)
    try simp only [Ent.cells, Ent.v] at et
    obtain ⟨v1, hc, is0, q1, q2, q3⟩ := own_logCopy (d + 5) false (beh k l) b1
    try simp only [Ent.cells, Ent.v] at q1
    obtain ⟨w, hw, js, k1, k2, k3, k4, k5, k6⟩ := own_call (h := [.box k.cells, .rows ((beh k l).length - 1) 2 ((beh k l).map Ent.cells)]) (args := [.ref 1 ((beh k l).length - 1) 0 (beh k l).length false]) (by simp only [pureDAs, mapO, pureDA, pureD, deepest, List.getElem?_cons_succ, List.getElem?_cons_zero, if_true, List.drop_zero, Ent.cells, Ent.v, et]) q1 q2 q3
    try simp only [Ent.cells, Ent.v] at k1
    rw [decide_eq_true o3]
    refine ⟨w, hw, js, ?_, k2, k3⟩
    rw [runD_eq find43 _ _ _ (by simp)]
    simp -implicitDefEqProofs (disch := omega) only [go_sem, Nat.reduceBEq, Nat.reduceAdd, Nat.reduceSub, Nat.reduceMul, Nat.reduceLeDiff, Nat.reduceEqDiff, Nat.reduceLT, Int.reduceNeg, Int.reduceAdd, Int.reduceSub, Int.reduceMul, Int.reduceLE, Int.reduceLT, Int.reduceEq, Int.reduceToNat, reduceCtorEq, Ent.cells, Ent.v, elemsOf, elemOf, frzs, refs, refC, refsV, hv1, hv2]
    try simp -implicitDefEqProofs only [go_sem, Nat.reduceBEq, Nat.reduceAdd, Nat.reduceSub, Nat.reduceMul, Nat.reduceLeDiff, Nat.reduceEqDiff, Nat.reduceLT, Int.reduceNeg, Int.reduceAdd, Int.reduceSub, Int.reduceMul, Int.reduceLE, Int.reduceLT, Int.reduceEq, Int.reduceToNat, reduceCtorEq] at hl
    rw [hl]
    rcases own_cases k2 with ⟨cx, rfl⟩ | ⟨id, st, m, clip, rfl⟩ <;> simp -implicitDefEqProofs (disch := first | omega | assumption) only [go_sem, Nat.reduceBEq, Nat.reduceAdd, Nat.reduceSub, Nat.reduceMul, Nat.reduceLeDiff, Nat.reduceEqDiff, Nat.reduceLT, Int.reduceNeg, Int.reduceAdd, Int.reduceSub, Int.reduceMul, Int.reduceLE, Int.reduceLT, Int.reduceEq, Int.reduceToNat, reduceCtorEq, (eq_false o3' : ((12 : Int) < (beh k l).length) = False), k1, resOk]
  · have o3' : (12 : Int) < (beh k l).length := by omega
    rw [decide_eq_false o3]
    refine ⟨.sl true 2 [], [.box k.cells, .rows ((beh k l).length - 1) 2 ((beh k l).map Ent.cells)], [], ?_, own_nil rfl, List.nodup_nil⟩
    rw [runD_eq find43 _ _ _ (by simp)]
    simp -implicitDefEqProofs (disch := omega) only [go_sem, Nat.reduceBEq, Nat.reduceAdd, Nat.reduceSub, Nat.reduceMul, Nat.reduceLeDiff, Nat.reduceEqDiff, Nat.reduceLT, Int.reduceNeg, Int.reduceAdd, Int.reduceSub, Int.reduceMul, Int.reduceLE, Int.reduceLT, Int.reduceEq, Int.reduceToNat, reduceCtorEq, Ent.cells, Ent.v, elemsOf, elemOf, frzs, refs, refC, refsV, hv1, hv2]
    try simp -implicitDefEqProofs only [go_sem, Nat.reduceBEq, Nat.reduceAdd, Nat.reduceSub, Nat.reduceMul, Nat.reduceLeDiff, Nat.reduceEqDiff, Nat.reduceLT, Int.reduceNeg, Int.reduceAdd, Int.reduceSub, Int.reduceMul, Int.reduceLE, Int.reduceLT, Int.reduceEq, Int.reduceToNat, reduceCtorEq] at hl
    rw [hl]
    simp -implicitDefEqProofs (disch := first | omega | assumption) only [go_sem, Nat.reduceBEq, Nat.reduceAdd, Nat.reduceSub, Nat.reduceMul, Nat.reduceLeDiff, Nat.reduceEqDiff, Nat.reduceLT, Int.reduceNeg, Int.reduceAdd, Int.reduceSub, Int.reduceMul, Int.reduceLE, Int.reduceLT, Int.reduceEq, Int.reduceToNat, reduceCtorEq, (eq_true o3' : ((12 : Int) < (beh k l).length) = True)]
theorem loop_behS (d : Nat) (c : Bool) (k : Ent) (l : List Ent) (hl : l.length ≤ 1048576) (K : Nat) (hK : (l).length ≤ K) (b0 : List Ent) (hb0 : (fun (i : Nat) (b : List Ent) => 1 ≤ b.length ∧ b.length ≤ i + 1) 0 b0) : LoopS (runD tab noExt d) (drawI (runD tab noExt d)) [1, 2, 6, 7] [1, 6] L41x0 ([.box k.cells, .rows ((b0).length - 1) 2 ((b0).map Ent.cells)] : Heap).length K [(1, .sl c 2 (l.map Ent.cells)), (2, .ptr 0 0 0 0), (6, .ref 1 ((b0).length - 1) 0 (b0).length false), (7, .int .i64 (0 : Nat))] [.box k.cells, .rows ((b0).length - 1) 2 ((b0).map Ent.cells)] = (some (.exit 0, [(1, .sl c 2 (l.map Ent.cells)), (6, .ref 1 ((((l).foldl (behStep k.time) b0)).length - 1) 0 (((l).foldl (behStep k.time) b0)).length false)], [.box k.cells, .rows ((((l).foldl (behStep k.time) b0)).length - 1) 2 ((((l).foldl (behStep k.time) b0)).map Ent.cells)]) : Out) ∧ (fun (i : Nat) (b : List Ent) => 1 ≤ b.length ∧ b.length ≤ i + 1) (l).length ((l).foldl (behStep k.time) b0) := by
  have key := LoopS_foldI (run := (runD tab noExt d)) (draw := drawI (runD tab noExt d)) (live := [1, 2, 6, 7]) (out := [1, 6]) (c := L41x0) (n0 := ([.box k.cells, .rows ((b0).length - 1) 2 ((b0).map Ent.cells)] : Heap).length) (l) (behStep k.time) (fun (i : Nat) (b : List Ent) => 1 ≤ b.length ∧ b.length ≤ i + 1) (fun (i : Nat) (b : List Ent) => [(1, .sl c 2 (l.map Ent.cells)), (2, .ptr 0 0 0 0), (6, .ref 1 ((b).length - 1) 0 (b).length false), (7, .int .i64 (i : Nat))]) (fun (i : Nat) (b : List Ent) => [.box k.cells, .rows ((b).length - 1) 2 ((b).map Ent.cells)]) (fun b => (some (.exit 0, [(1, .sl c 2 (l.map Ent.cells)), (6, .ref 1 ((b).length - 1) 0 (b).length false)], [.box k.cells, .rows ((b).length - 1) 2 ((b).map Ent.cells)]) : Out)) (fun b K hb => ?_) (fun (i : Nat) (x : Ent) b K hi hx hb => ?_) K hK b0 hb0
  · simp only [Int.natCast_zero] at key
    exact key
  · rw [LoopS_eq]
    simp -implicitDefEqProofs only [go_sem, Nat.reduceBEq, Nat.reduceAdd, Nat.reduceSub, Nat.reduceMul, Nat.reduceLeDiff, Nat.reduceEqDiff, Nat.reduceLT, Int.reduceNeg, Int.reduceAdd, Int.reduceSub, Int.reduceMul, Int.reduceLE, Int.reduceLT, Int.reduceEq, Int.reduceToNat, reduceCtorEq, evL41x0, B41x0, Int.lt_irrefl]
  · have hsm : b.length + 1 < 4294967296 := (by have := hb.2; omega); have hst : b.length - 1 + 1 = b.length + 1 - 1 := (by have := hb.1; omega); have key : behStep k.time b x = if k.time < x.time then b ++ [x] else b := rfl; have hlen := behStep_len (t := k.time) (x := x) hb; revert hlen; rw [key]; by_cases k1 : k.time < x.time <;> (first | rw [if_pos k1] | rw [if_neg k1]) <;> intro hlen
    all_goals
      refine ⟨?_, ?_⟩
      · exact hlen
      · rw [LoopS_eq]
        simp -implicitDefEqProofs (disch := first | omega | assumption) only [go_sem, Nat.reduceBEq, Nat.reduceAdd, Nat.reduceSub, Nat.reduceMul, Nat.reduceLeDiff, Nat.reduceEqDiff, Nat.reduceLT, Int.reduceNeg, Int.reduceAdd, Int.reduceSub, Int.reduceMul, Int.reduceLE, Int.reduceLT, Int.reduceEq, Int.reduceToNat, reduceCtorEq, evL41x0, B41x0, hi, hx, IntWalk.i64_in, List.map_append, List.foldl_cons, evC_draw, evD41x0, E41x0, hx, hsm, hst, Ent.cells, Ent.v, k1, if_true, if_false, List.map_cons, List.map_nil]
        skip
-- find41
theorem run_behindS (d : Nat) (c : Bool) (k : Ent) (l : List Ent) (h1 : LimE [k]) (h2 : LimE l) : ∃ cw, retP (runD tab noExt (d + 6)) 41 [.agg k.cells, .sl c 2 (l.map Ent.cells)] = some [.sl cw 2 (((if behOk k l then beh k l else []).map Ent.own).map Ent.cells), .bool (behOk k l)] := by
  obtain ⟨f1, f2, f3⟩ := h2.fine
  obtain ⟨b1, b2, b3⟩ := beh_fine h1 h2
  have hv2 := run_logS d c l f3 f2
  have hvb := run_logS d false (beh k l) (by omega) b2
  have hcp := run_l18 (d + 2) false (beh k l) b1
  obtain ⟨hl, hle⟩ := loop_behS (d + 5) c k l h2.1 1099511627775 (by omega) [k] ⟨by simp, by simp⟩
  have hbe : beh k l = l.foldl (behStep k.time) [k] := rfl
  rw [← hbe] at hl hle
  simp only [List.length_cons, List.length_nil, List.map_cons, List.map_nil, Int.natCast_zero, Ent.cells, Ent.v] at hl
  have et : List.take (beh k l).length ((beh k l).map Ent.cells) = (beh k l).map Ent.cells := List.take_of_length_le (by simp)
  try simp only [Ent.cells, Ent.v] at et hvb hcp
  have hob : behOk k l = (logOk l && logOk (beh k l)) := by
    unfold behOk
    cases o2 : logOk l
    · simp
    · rw [beh_ok o2]; simp
  rw [hob]
  cases o2 : logOk l
  · rw [o2] at hv2
    refine ⟨true, ?_⟩
    rw [retP, runD_eq find41 _ _ _ (by simp)]
    simp -implicitDefEqProofs (disch := omega) only [go_sem, Nat.reduceBEq, Nat.reduceAdd, Nat.reduceSub, Nat.reduceMul, Nat.reduceLeDiff, Nat.reduceEqDiff, Nat.reduceLT, Int.reduceNeg, Int.reduceAdd, Int.reduceSub, Int.reduceMul, Int.reduceLE, Int.reduceLT, Int.reduceEq, Int.reduceToNat, reduceCtorEq, Ent.cells, Ent.v, elemsOf, elemOf, frzs, refs, refC, refsV]
    try simp -implicitDefEqProofs only [go_sem, Nat.reduceBEq, Nat.reduceAdd, Nat.reduceSub, Nat.reduceMul, Nat.reduceLeDiff, Nat.reduceEqDiff, Nat.reduceLT, Int.reduceNeg, Int.reduceAdd, Int.reduceSub, Int.reduceMul, Int.reduceLE, Int.reduceLT, Int.reduceEq, Int.reduceToNat, reduceCtorEq] at hl
    rw [hl]
    simp -implicitDefEqProofs (disch := omega) only [go_sem, Nat.reduceBEq, Nat.reduceAdd, Nat.reduceSub, Nat.reduceMul, Nat.reduceLeDiff, Nat.reduceEqDiff, Nat.reduceLT, Int.reduceNeg, Int.reduceAdd, Int.reduceSub, Int.reduceMul, Int.reduceLE, Int.reduceLT, Int.reduceEq, Int.reduceToNat, reduceCtorEq, Ent.cells, Ent.v, hv2, elemsOf, frzs, et]
  rw [o2] at hv2
  cases o3 : logOk (beh k l)
  · rw [o3] at hvb
    refine ⟨true, ?_⟩
    rw [retP, runD_eq find41 _ _ _ (by simp)]
    simp -implicitDefEqProofs (disch := omega) only [go_sem, Nat.reduceBEq, Nat.reduceAdd, Nat.reduceSub, Nat.reduceMul, Nat.reduceLeDiff, Nat.reduceEqDiff, Nat.reduceLT, Int.reduceNeg, Int.reduceAdd, Int.reduceSub, Int.reduceMul, Int.reduceLE, Int.reduceLT, Int.reduceEq, Int.reduceToNat, reduceCtorEq, Ent.cells, Ent.v, elemsOf, elemOf, frzs, refs, refC, refsV]
    try simp -implicitDefEqProofs only [go_sem, Nat.reduceBEq, Nat.reduceAdd, Nat.reduceSub, Nat.reduceMul, Nat.reduceLeDiff, Nat.reduceEqDiff, Nat.reduceLT, Int.reduceNeg, Int.reduceAdd, Int.reduceSub, Int.reduceMul, Int.reduceLE, Int.reduceLT, Int.reduceEq, Int.reduceToNat, reduceCtorEq] at hl
    rw [hl]
    simp -implicitDefEqProofs (disch := omega) only [go_sem, Nat.reduceBEq, Nat.reduceAdd, Nat.reduceSub, Nat.reduceMul, Nat.reduceLeDiff, Nat.reduceEqDiff, Nat.reduceLT, Int.reduceNeg, Int.reduceAdd, Int.reduceSub, Int.reduceMul, Int.reduceLE, Int.reduceLT, Int.reduceEq, Int.reduceToNat, reduceCtorEq, Ent.cells, Ent.v, hv2, hvb, elemsOf, frzs, et]
  · rw [o3] at hvb
    refine ⟨false, ?_⟩
    rw [retP, runD_eq find41 _ _ _ (by simp)]
    simp -implicitDefEqProofs (disch := omega) only [go_sem, Nat.reduceBEq, Nat.reduceAdd, Nat.reduceSub, Nat.reduceMul, Nat.reduceLeDiff, Nat.reduceEqDiff, Nat.reduceLT, Int.reduceNeg, Int.reduceAdd, Int.reduceSub, Int.reduceMul, Int.reduceLE, Int.reduceLT, Int.reduceEq, Int.reduceToNat, reduceCtorEq, Ent.cells, Ent.v, elemsOf, elemOf, frzs, refs, refC, refsV]
    try simp -implicitDefEqProofs only [go_sem, Nat.reduceBEq, Nat.reduceAdd, Nat.reduceSub, Nat.reduceMul, Nat.reduceLeDiff, Nat.reduceEqDiff, Nat.reduceLT, Int.reduceNeg, Int.reduceAdd, Int.reduceSub, Int.reduceMul, Int.reduceLE, Int.reduceLT, Int.reduceEq, Int.reduceToNat, reduceCtorEq] at hl
    rw [hl]
    simp -implicitDefEqProofs (disch := omega) only [go_sem, Nat.reduceBEq, Nat.reduceAdd, Nat.reduceSub, Nat.reduceMul, Nat.reduceLeDiff, Nat.reduceEqDiff, Nat.reduceLT, Int.reduceNeg, Int.reduceAdd, Int.reduceSub, Int.reduceMul, Int.reduceLE, Int.reduceLT, Int.reduceEq, Int.reduceToNat, reduceCtorEq, Ent.cells, Ent.v, hv2, hvb, et, hcp]
theorem core_LogBehind (s0_0 : Int) {x0_1 : List (List U)} (h0_1 : ∃ p, PurF (.sub fdWrite) p (.sub x0_1)) (L0x1 : LenF 1048576 1048576 (.sub fdWrite) (.sub x0_1)) {x1 : List (List U)} (h1 : ∃ p, PurF (.sub fdEntry) p (.sub x1)) (L1 : LenF 1048576 1048576 (.sub fdEntry) (.sub x1)) :
    ∃ ux sb, LenF big big (.sub fdEntry) (.sub ux) ∧ (cntF (.sub fdEntry) (.sub ux) : Int) ≤ 2305843009213693952 ∧
      (∀ {q0 q1 : V}, PurF (.sub fdWrite) q0 (.sub x0_1) → PurF (.sub fdEntry) q1 (.sub x1) → ∃ w, retP (runD tab noExt 60) 41 [.agg [.int .i64 s0_0, q0], q1] = some [w, .bool sb] ∧ PurF (.sub fdEntry) w (.sub ux)) ∧
      (∀ {q0 q1 : V}, PurF (.sub fdWrite) q0 (.sub x0_1) → PurF (.sub fdEntry) q1 (.sub x1) → ∃ v hc ids, runD tab noExt 60 43 [.agg [.int .i64 s0_0, q0], q1] [] = some ([v, .bool sb], hc) ∧ OwnF hc (.sub fdEntry) v (.sub ux) ids ∧ ids.Nodup) := by
  obtain ⟨p0, g0⟩ := h0_1
  obtain ⟨p1, g1⟩ := h1
  obtain ⟨wc, ws, rfl, rfl⟩ := wrs_each g0
  obtain ⟨_, l, rfl, rfl⟩ := ents_each g1
  have lim := ents_lim L1
  obtain ⟨w1, w2⟩ := wrs_lim L0x1
  have limk : ∀ (c : Bool) (ws2 : List Wr), ws2.map wrU = ws.map wrU → LimE [⟨s0_0, c, ws2⟩] := by
    intro c ws2 f
    rw [← f] at L0x1
    obtain ⟨a1, a2⟩ := wrs_lim L0x1
    exact ⟨by simp, fun e he => by rw [List.mem_singleton.1 he]; exact ⟨a1, a2⟩⟩
  have key : ∀ (k k2 : Ent) (l2 : List Ent), entU k2 = entU k → l2.map entU = l.map entU → behOk k2 l2 = behOk k l ∧ (beh k2 l2).map entU = (beh k l).map entU := by
    intro k k2 l2 fk f
    have ht : k2.time = k.time := by simp only [entU, List.cons.injEq, U.int.injEq] at fk; exact fk.1
    have hb : (beh k2 l2).map entU = (beh k l).map entU := by
      rw [beh_eq, beh_eq, List.map_cons, List.map_cons, fk, ht]
      congr 1
      have : ∀ a b : List Ent, a.map entU = b.map entU → (a.filter (fun x => decide (k.time < x.time))).map entU = (b.filter (fun x => decide (k.time < x.time))).map entU := by
        intro a
        induction a with
        | nil => intro b h; cases b with
          | nil => rfl
          | cons y b => simp at h
        | cons x a ih => intro b h; cases b with
          | nil => simp at h
          | cons y b =>
            simp only [List.map_cons, List.cons.injEq] at h
            have e1 : x.time = y.time := by have := h.1; simp only [entU, List.cons.injEq, U.int.injEq] at this; exact this.1
            have ih' := ih b h.2
            rw [List.filter_cons, List.filter_cons, e1]
            split <;> simp [ih', h.1]
      exact this l2 l f
    refine ⟨?_, hb⟩
    have e1 : logOk [k2] = logOk [k] := logOk_vs (by simp [fk])
    unfold behOk
    rw [e1, logOk_vs f, len_vs hb]
  have lk := limk wc ws rfl
  obtain ⟨b1, b2, b3⟩ := beh_fine lk lim
  have hsub : LimE (if behOk ⟨s0_0, wc, ws⟩ l then beh ⟨s0_0, wc, ws⟩ l else []) := by
    cases hok : behOk ⟨s0_0, wc, ws⟩ l
    · exact ⟨by simp, fun _ h => by simp at h⟩
    · simp only [behOk, Bool.and_eq_true, decide_eq_true_eq] at hok
      refine beh_lim lk lim ?_
      have := (logOk_iff l).1 hok.2.1
      omega
  refine ⟨(if behOk ⟨s0_0, wc, ws⟩ l then beh ⟨s0_0, wc, ws⟩ l else []).map entU, behOk ⟨s0_0, wc, ws⟩ l, LenF_mono (by decide) (by decide) _ (ents_len hsub), ents_cnt (fun e he => ?_) hsub.1, fun k0 k1 => ?_, fun k0 k1 => ?_⟩
  · cases hok : behOk ⟨s0_0, wc, ws⟩ l
    · rw [hok] at he; simp at he
    · rw [hok] at he
      simp only [behOk, Bool.and_eq_true, decide_eq_true_eq] at hok
      simp only [if_true, beh_eq] at he
      rcases List.mem_cons.1 he with rfl | he
      · exact logOk_one hok.1 _ (by simp)
      · exact logOk_one hok.2.1 e (List.mem_filter.1 he).1
  all_goals
    obtain ⟨c0, ws2, rfl, f0⟩ := wrs_each k0
    obtain ⟨c, l2, rfl, f⟩ := ents_each k1
    have lim2 : LimE l2 := ents_lim (by rw [← f]; exact L1)
    have lk2 := limk c0 ws2 f0.symm
    obtain ⟨t1, t2⟩ := key ⟨s0_0, wc, ws⟩ ⟨s0_0, c0, ws2⟩ l2 (by simp [entU, f0]) f.symm
    have t3 : (if behOk ⟨s0_0, wc, ws⟩ l then beh ⟨s0_0, wc, ws⟩ l else []).map entU = (if behOk ⟨s0_0, c0, ws2⟩ l2 then beh ⟨s0_0, c0, ws2⟩ l2 else []).map entU := by
      rw [t1]
      cases behOk ⟨s0_0, wc, ws⟩ l
      · rfl
      · exact t2.symm
    rw [t3, ← t1]
  · obtain ⟨cw, e⟩ := run_behindS 54 c ⟨s0_0, c0, ws2⟩ l2 lk2 lim2
    exact ⟨_, e, ents_own_pur cw _⟩
  · exact own_behind 50 c ⟨s0_0, c0, ws2⟩ l2 lk2 lim2
end Go.Proofs.Yteaojpfofifmnaa.PE
/- The exact statement of FnExactLogBehind. -/
set_option linter.unusedVariables false
set_option linter.unusedSimpArgs false
set_option maxHeartbeats 8000000
set_option maxRecDepth 20000
namespace Go.Proofs.Yteaojpfofifmnaa.PE
open Go.RowKit

-- find7
theorem law_FnExactLogBehind (s0_0 : Int) {p0_1 : V} {x0_1 : List (List U)} {p1 : V} {x1 : List (List U)} (g0_1 : PurF (.sub fdWrite) p0_1 (.sub x0_1)) (B0x1 : LenF 9223372036854775807 9223372036854775807 (.sub fdWrite) (.sub x0_1)) (g1 : PurF (.sub fdEntry) p1 (.sub x1)) (B1 : LenF 9223372036854775807 9223372036854775807 (.sub fdEntry) (.sub x1)) : ∃ d h1, runD tab noExt d 7 [.agg [.int .i64 s0_0, p0_1], p1] [] = some ([.bool true], h1) := by
  refine ⟨61, ?_⟩
  rw [runD_eq find7 _ _ _ (by simp)]
  obtain ⟨cl0_1, ct0_1, rfl, hz0_1⟩ := purS_Write g0_1
  have hl0_1 := Zip2_len hz0_1
  obtain ⟨cl1, ct1, rfl, hz1⟩ := purS_Entry g1
  have hl1 := Zip2_len hz1
  have BR0 : LenR 9223372036854775807 9223372036854775807 fdEntry [.int s0_0, .sub x0_1] := by simp only [fdEntry, LenR]; exact ⟨(by simp [LenF]), B0x1, trivial⟩
  have z0 := run_szEntry 55 s0_0 (.sl cl0_1 3 ct0_1) _ g0_1 (1048576) BR0 (by omega) (by omega)
  have y0 := szR_spec (N := 1048576) fdEntry [.int s0_0, .sub x0_1] (1048576) (by decide) (by omega)
  generalize szR fdEntry [.int s0_0, .sub x0_1] (1048576) = l0 at z0 y0
  by_cases q0 : l0 < 0
  · simp -implicitDefEqProofs (disch := omega) only [go_sem, Nat.reduceBEq, Nat.reduceAdd, Nat.reduceSub, Nat.reduceMul, Nat.reduceLeDiff, Nat.reduceEqDiff, Nat.reduceLT, Int.reduceNeg, Int.reduceAdd, Int.reduceSub, Int.reduceMul, Int.reduceLE, Int.reduceLT, Int.reduceEq, Int.reduceToNat, reduceCtorEq, evC_draw, evD7x0, E7x0, z0, q0]
    exact ⟨_, rfl⟩
  obtain ⟨y0a, LR0, y0c⟩ := y0 (by omega) (by omega)
  simp only [fdEntry, LenR] at LR0
  simp only [fdEntry, cntR, cntF_int, cntF_bool, cntF_str, List.length_cons, List.length_nil] at y0c
  have L0x1 := LR0.2.1
  have z1 := run_szEntryS 54 (l0) g1 B1 (by omega) (by omega)
  have y1 := szF_spec (N := 1048576) (.sub fdEntry) (.sub x1) (l0) (by decide) (by omega)
  generalize szF (.sub fdEntry) (.sub x1) (l0) = l1 at z1 y1
  by_cases q1 : l1 < 0
  · simp -implicitDefEqProofs (disch := omega) only [go_sem, Nat.reduceBEq, Nat.reduceAdd, Nat.reduceSub, Nat.reduceMul, Nat.reduceLeDiff, Nat.reduceEqDiff, Nat.reduceLT, Int.reduceNeg, Int.reduceAdd, Int.reduceSub, Int.reduceMul, Int.reduceLE, Int.reduceLT, Int.reduceEq, Int.reduceToNat, reduceCtorEq, evC_draw, evD7x0, E7x0, z0, q0, z1, q1]
    exact ⟨_, rfl⟩
  obtain ⟨y1a, L1, y1c⟩ := y1 (by omega) (by omega)
  have M0_1 := LenF_mono (n' := big) (m' := big) (by decide) (by decide) _ L0x1
  have P0_1 : x0_1.length ≤ 1048576 ∧ AllU (LenR 1048576 1048576 fdWrite) x0_1 := by simpa only [LenF] using L0x1
  have M1 := LenF_mono (n' := big) (m' := big) (by decide) (by decide) _ L1
  have P1 : x1.length ≤ 1048576 ∧ AllU (LenR 1048576 1048576 fdEntry) x1 := by simpa only [LenF] using L1
  obtain ⟨ux, sb, C1, C2, cS, cI⟩ := core_LogBehind s0_0 ⟨_, g0_1⟩ L0x1 ⟨_, g1⟩ L1
  obtain ⟨hI, hbI⟩ : ∃ hb : Heap, hb = [Blk.box [.int .i64 s0_0, (.sl cl0_1 3 ct0_1)]] := ⟨_, rfl⟩
  have mI : hI.length = 1 := by rw [hbI]; rfl
  have BI0 : hI[0]? = some (Blk.box [.int .i64 s0_0, (.sl cl0_1 3 ct0_1)]) := by rw [hbI]; rfl
  have eI := hbI.symm
  obtain ⟨cs0, h0, s0, e0, a0, u0, w0, f0, m0⟩ := run_toEntry 55 hI s0_0 g0_1 L0x1
  obtain ⟨sq0_0, t0_1, xx0_1, s0_1, rfl, ex0, es0, a0_1⟩ := ownR_Entry a0
  have es0' := es0.symm
  subst es0'
  simp only [List.cons.injEq, U.int.injEq, U.bool.injEq, U.str.injEq, U.sub.injEq, and_true] at ex0
  obtain ⟨rfl, rfl⟩ := ex0
  have B1x := (f0 _ (List.getElem?_eq_some_iff.1 BI0).1).trans BI0
  have b0_1 : ∀ j ∈ s0_1, hI.length ≤ j ∧ j < h0.length := fun j hj => ⟨w0 j (by simp [hj]), OwnF_lt _ a0_1 j hj⟩
  obtain ⟨v1, c1, d1, r1, o1, n1'⟩ := run_toEntryS 54 g1 P1.1 P1.2
  obtain ⟨t1, h1, s1, e1, a1, u1, w1, f1, m1⟩ := own_call (h := h0) (args := [(.sl cl1 2 ct1)]) (by simp only [pureDAs, mapO, pureDA_pur g1]) r1 o1 n1'
  have b1 := own_ids a1 w1
  have o2x := OwnF_frame _ a0_1 (fun j hj => f1 j (OwnF_lt _ a0_1 j hj))
  have B3x := (f1 _ (List.getElem?_eq_some_iff.1 B1x).1).trans B1x
  obtain ⟨qsw0_1, zsw0_1, ysw0_1⟩ := OwnF_pure (.sub fdWrite) 6 (by decide) o2x
  have xsw0_1 := pureDA_of o2x zsw0_1
  obtain ⟨qsw1, zsw1, ysw1⟩ := OwnF_pure (.sub fdEntry) 6 (by decide) a1
  have xsw1 := pureDA_of a1 zsw1
  obtain ⟨w, eS, gw⟩ := cS ysw0_1 ysw1
  have eW := call_specB (h := h1) (args := [.agg [.int .i64 s0_0, t0_1], t1]) (by simp only [pureDAs, mapO, pureDA_int, pureDA_bool, pureDA_str, pureDA_agg, pureD_intv, pureD_boolv, pureD_strv, Option.map_some, zsw0_1, xsw0_1, zsw1, xsw1]) eS
  obtain ⟨hd, hdE⟩ : ∃ hb : Heap, hb = h1.map deadB := ⟨_, rfl⟩
  have mD : hd.length = h1.length := by rw [hdE]; simp
  rw [← hdE] at eW
  have B4x : hd[0]? = some (Blk.box [.int .i64 s0_0, (.sl cl0_1 3 ct0_1)]) := by rw [hdE, List.getElem?_map, B3x]; rfl
  try simp only [oneOf] at eW
  obtain ⟨cs2, h2, s2, e2, a2, u2, w2, f2, m2⟩ := run_toEntry 55 hd s0_0 g0_1 L0x1
  obtain ⟨sq2_0, t2_1, xx2_1, s2_1, rfl, ex2, es2, a2_1⟩ := ownR_Entry a2
  have es2' := es2.symm
  subst es2'
  simp only [List.cons.injEq, U.int.injEq, U.bool.injEq, U.str.injEq, U.sub.injEq, and_true] at ex2
  obtain ⟨rfl, rfl⟩ := ex2
  have B5x := (f2 _ (List.getElem?_eq_some_iff.1 B4x).1).trans B4x
  have b2_1 : ∀ j ∈ s2_1, hd.length ≤ j ∧ j < h2.length := fun j hj => ⟨w2 j (by simp [hj]), OwnF_lt _ a2_1 j hj⟩
  obtain ⟨h3, hbe3⟩ : ∃ hb : Heap, hb = h2 ++ [Blk.box [.int .i64 s0_0, t2_1]] := ⟨_, rfl⟩
  have f3 : ∀ j, j < h2.length → h3[j]? = h2[j]? := fun j hj => by rw [hbe3, List.getElem?_append_left hj]
  have m3 : h2.length < h3.length := by rw [hbe3]; simp
  have B3b : h3[h2.length]? = some (Blk.box [.int .i64 s0_0, t2_1]) := by rw [hbe3]; simp
  have e3 := hbe3.symm
  have o6x := OwnF_frame _ a2_1 (fun j hj => f3 j (OwnF_lt _ a2_1 j hj))
  have B7x := (f3 _ (List.getElem?_eq_some_iff.1 B5x).1).trans B5x
  obtain ⟨v4, c4, d4, r4, o4, n4'⟩ := run_toEntryS 54 g1 P1.1 P1.2
  obtain ⟨t4, h4, s4, e4, a4, u4, w4, f4, m4⟩ := own_call (h := h3) (args := [(.sl cl1 2 ct1)]) (by simp only [pureDAs, mapO, pureDA_pur g1]) r4 o4 n4'
  have b4 := own_ids a4 w4
  have o8x := OwnF_frame _ o6x (fun j hj => f4 j (OwnF_lt _ o6x j hj))
  have B9x := (f4 _ (List.getElem?_eq_some_iff.1 B7x).1).trans B7x
  have B10x := (f4 _ (List.getElem?_eq_some_iff.1 B3b).1).trans B3b
  obtain ⟨qgx0_1, zgx0_1, ygx0_1⟩ := OwnF_pure (.sub fdWrite) 6 (by decide) o8x
  have xgx0_1 := pureDA_of o8x zgx0_1
  obtain ⟨qgx1, zgx1, ygx1⟩ := OwnF_pure (.sub fdEntry) 6 (by decide) a4
  have xgx1 := pureDA_of a4 zgx1
  obtain ⟨v5, c5, d5, r5, o5, n5'⟩ := cI ygx0_1 ygx1
  obtain ⟨t5, h5, s5, e5, a5, u5, w5, f5, m5⟩ := own_callFS (h := h4) (args := [.agg [.int .i64 s0_0, t2_1], t4]) (by simp only [pureDAs, mapO, pureDA_int, pureDA_bool, pureDA_str, pureDA_agg, pureD_intv, pureD_boolv, pureD_strv, Option.map_some, zgx0_1, xgx0_1, zgx1, xgx1]) r5 o5 n5' rfl
  have b5 := own_ids a5 w5
  have o11x := OwnF_frame _ o8x (fun j hj => f5 j (OwnF_lt _ o8x j hj))
  have o12x := OwnF_frame _ a4 (fun j hj => f5 j (OwnF_lt _ a4 j hj))
  have B13x := (f5 _ (List.getElem?_eq_some_iff.1 B9x).1).trans B9x
  have B14x := (f5 _ (List.getElem?_eq_some_iff.1 B10x).1).trans B10x
  obtain ⟨qgagR, zgagR, ygagR⟩ := OwnF_pure (.sub fdEntry) 6 (by decide) a5
  have xgagR := pureDA_of a5 zgagR
  have Ega := call_bool (h := h5) (args := [t5, w]) (by simp only [pureDAs, mapO, zgagR, xgagR, pureDA_pur gw]) (run_eqEntryS 54 ygagR gw C1)
  obtain ⟨cs6, h6, s6, e6, a6, u6, w6, f6, m6⟩ := run_toEntry 55 h5 s0_0 g0_1 L0x1
  obtain ⟨sq6_0, t6_1, xx6_1, s6_1, rfl, ex6, es6, a6_1⟩ := ownR_Entry a6
  have es6' := es6.symm
  subst es6'
  simp only [List.cons.injEq, U.int.injEq, U.bool.injEq, U.str.injEq, U.sub.injEq, and_true] at ex6
  obtain ⟨rfl, rfl⟩ := ex6
  have o15x := OwnF_frame _ o11x (fun j hj => f6 j (OwnF_lt _ o11x j hj))
  have o16x := OwnF_frame _ o12x (fun j hj => f6 j (OwnF_lt _ o12x j hj))
  have o17x := OwnF_frame _ a5 (fun j hj => f6 j (OwnF_lt _ a5 j hj))
  have B18x := (f6 _ (List.getElem?_eq_some_iff.1 B13x).1).trans B13x
  have B19x := (f6 _ (List.getElem?_eq_some_iff.1 B14x).1).trans B14x
  have b6_1 : ∀ j ∈ s6_1, h5.length ≤ j ∧ j < h6.length := fun j hj => ⟨w6 j (by simp [hj]), OwnF_lt _ a6_1 j hj⟩
  obtain ⟨qA0x0_1, zA0x0_1, yA0x0_1⟩ := OwnF_pure (.sub fdWrite) 6 (by decide) o15x
  have xA0x0_1 := pureDA_of o15x zA0x0_1
  obtain ⟨qB0y0_1, zB0y0_1, yB0y0_1⟩ := OwnF_pure (.sub fdWrite) 6 (by decide) a6_1
  have xB0y0_1 := pureDA_of a6_1 zB0y0_1
  have EA0 := call_bool (h := h6) (args := [.agg [.int .i64 s0_0, t2_1], .agg [.int .i64 s0_0, t6_1]]) (by simp only [pureDAs, mapO, pureDA_int, pureDA_bool, pureDA_str, pureDA_agg, pureD_intv, pureD_boolv, pureD_strv, Option.map_some, zA0x0_1, xA0x0_1, zB0y0_1, xB0y0_1]) (run_eqEntry 55 s0_0 yA0x0_1 yB0y0_1 M0_1)
  obtain ⟨v7, c7, d7, r7, o7, n7'⟩ := run_toEntryS 54 g1 P1.1 P1.2
  obtain ⟨t7, h7, s7, e7, a7, u7, w7, f7, m7⟩ := own_call (h := h6) (args := [(.sl cl1 2 ct1)]) (by simp only [pureDAs, mapO, pureDA_pur g1]) r7 o7 n7'
  have b7 := own_ids a7 w7
  have o20x := OwnF_frame _ o15x (fun j hj => f7 j (OwnF_lt _ o15x j hj))
  have o21x := OwnF_frame _ o16x (fun j hj => f7 j (OwnF_lt _ o16x j hj))
  have o22x := OwnF_frame _ o17x (fun j hj => f7 j (OwnF_lt _ o17x j hj))
  have B23x := (f7 _ (List.getElem?_eq_some_iff.1 B18x).1).trans B18x
  have B24x := (f7 _ (List.getElem?_eq_some_iff.1 B19x).1).trans B19x
  obtain ⟨qA1x1, zA1x1, yA1x1⟩ := OwnF_pure (.sub fdEntry) 6 (by decide) o21x
  have xA1x1 := pureDA_of o21x zA1x1
  obtain ⟨qB1y1, zB1y1, yB1y1⟩ := OwnF_pure (.sub fdEntry) 6 (by decide) a7
  have xB1y1 := pureDA_of a7 zB1y1
  have EA1 := call_bool (h := h7) (args := [t4, t7]) (by simp only [pureDAs, mapO, pureDA_int, pureDA_bool, pureDA_str, pureDA_agg, pureD_intv, pureD_boolv, pureD_strv, Option.map_some, zA1x1, xA1x1, zB1y1, xB1y1]) (run_eqEntryS 54 yA1x1 yB1y1 M1)
  obtain ⟨h8, zmx0_1, e8, a8_0, k8_0, z8_0x, f8, m8⟩ := run_markEntry 56 (h := h7) (k := (1 : Int)) s0_0 o20x u2 M0_1 (by omega) (by omega)
  have o25x := OwnF_frame _ o21x (fun j hj => f8 j (by have z := b4 j hj; first | omega | (have := OwnF_lt _ o21x j hj; omega)) (fun hm => by have z1 := b4 j hj; have z2 := b2_1 j hm; omega))
  have o26x := OwnF_frame _ o22x (fun j hj => f8 j (by have z := b5 j hj; first | omega | (have := OwnF_lt _ o22x j hj; omega)) (fun hm => by have z1 := b5 j hj; have z2 := b2_1 j hm; omega))
  have B27x := (f8 _ (List.getElem?_eq_some_iff.1 B23x).1 (fun hm => by have z2 := b2_1 _ hm; omega)).trans B23x
  have B28x := (f8 _ (List.getElem?_eq_some_iff.1 B24x).1 (fun hm => by have z2 := b2_1 _ hm; omega)).trans B24x
  obtain ⟨h9, zmx1, e9, a9, k9, z9x, f9', m9⟩ := run_markEntryS 56 o25x u4 M1 (k := ((1 : Int) + cntF (.sub fdWrite) (.sub x0_1))) (by omega) (by omega)
  have f9 : ∀ j, j < h8.length → j ∉ s4 → h9[j]? = h8[j]? := fun j _ hj => f9' j hj
  have o29x := OwnF_frame _ a8_0 (fun j hj => f9 j (by have z := b2_1 j hj; first | omega | (have := OwnF_lt _ a8_0 j hj; omega)) (fun hm => by have z1 := b2_1 j hj; have z2 := b4 j hm; omega))
  have o30x := OwnF_frame _ o26x (fun j hj => f9 j (by have z := b5 j hj; first | omega | (have := OwnF_lt _ o26x j hj; omega)) (fun hm => by have z1 := b5 j hj; have z2 := b4 j hm; omega))
  have B31x := (f9 _ (List.getElem?_eq_some_iff.1 B27x).1 (fun hm => by have z2 := b4 _ hm; omega)).trans B27x
  have B32x := (f9 _ (List.getElem?_eq_some_iff.1 B28x).1 (fun hm => by have z2 := b4 _ hm; omega)).trans B28x
  have K0 : ((((1 : Int) + cntF (.sub fdWrite) (.sub x0_1)) + cntF (.sub fdEntry) (.sub x1)) < 0) = False := eq_false (by omega)
  obtain ⟨qgbgR, zgbgR, ygbgR⟩ := OwnF_pure (.sub fdEntry) 6 (by decide) o30x
  have xgbgR := pureDA_of o30x zgbgR
  have Egb := call_bool (h := h9) (args := [t5, w]) (by simp only [pureDAs, mapO, zgbgR, xgbgR, pureDA_pur gw]) (run_eqEntryS 54 ygbgR gw C1)
  obtain ⟨h10, zG, e10, a10, k10, z10x, f10', m10⟩ := run_markEntryS 56 o30x u5 C1 (k := 1) (by omega) (by omega)
  have f10 : ∀ j, j < h9.length → j ∉ s5 → h10[j]? = h9[j]? := fun j _ hj => f10' j hj
  have o33x := OwnF_frame _ o29x (fun j hj => f10 j (by have z := b2_1 j hj; first | omega | (have := OwnF_lt _ o29x j hj; omega)) (fun hm => by have z1 := b2_1 j hj; have z2 := b5 j hm; omega))
  have o34x := OwnF_frame _ a9 (fun j hj => f10 j (by have z := b4 j hj; first | omega | (have := OwnF_lt _ a9 j hj; omega)) (fun hm => by have z1 := b4 j hj; have z2 := b5 j hm; omega))
  have B35x := (f10 _ (List.getElem?_eq_some_iff.1 B31x).1 (fun hm => by have z2 := b5 _ hm; omega)).trans B31x
  have B36x := (f10 _ (List.getElem?_eq_some_iff.1 B32x).1 (fun hm => by have z2 := b5 _ hm; omega)).trans B32x
  have K1 : (((1 : Int) + cntF (.sub fdEntry) (.sub ux)) < 0) = False := eq_false (by omega)
  obtain ⟨qhagR, zhagR, yhagR⟩ := OwnF_pure (.sub fdEntry) 6 (by decide) a10
  have xhagR := pureDA_of a10 zhagR
  have Eha := call_int (h := h10) (args := [t5, .int .i64 1]) (by simp only [pureDAs, mapO, pureDA_int, pureDA_bool, pureDA_str, pureDA_agg, pureD_intv, pureD_boolv, pureD_strv, Option.map_some, zhagR, xhagR]) (run_heldEntryS 56 yhagR k10 (by omega) (by omega) z10x)
  obtain ⟨cs11, h11, s11, e11, a11, u11, w11, f11, m11⟩ := run_toEntry 55 h10 s0_0 g0_1 L0x1
  obtain ⟨sq11_0, t11_1, xx11_1, s11_1, rfl, ex11, es11, a11_1⟩ := ownR_Entry a11
  have es11' := es11.symm
  subst es11'
  simp only [List.cons.injEq, U.int.injEq, U.bool.injEq, U.str.injEq, U.sub.injEq, and_true] at ex11
  obtain ⟨rfl, rfl⟩ := ex11
  have o37x := OwnF_frame _ a10 (fun j hj => f11 j (OwnF_lt _ a10 j hj))
  have B38x := (f11 _ (List.getElem?_eq_some_iff.1 B35x).1).trans B35x
  have B39x := (f11 _ (List.getElem?_eq_some_iff.1 B36x).1).trans B36x
  have b11_1 : ∀ j ∈ s11_1, h10.length ≤ j ∧ j < h11.length := fun j hj => ⟨w11 j (by simp [hj]), OwnF_lt _ a11_1 j hj⟩
  obtain ⟨v12, c12, d12, r12, o12, n12'⟩ := run_toEntryS 54 g1 P1.1 P1.2
  obtain ⟨t12, h12, s12, e12, a12, u12, w12, f12, m12⟩ := own_call (h := h11) (args := [(.sl cl1 2 ct1)]) (by simp only [pureDAs, mapO, pureDA_pur g1]) r12 o12 n12'
  have b12 := own_ids a12 w12
  have o40x := OwnF_frame _ o37x (fun j hj => f12 j (OwnF_lt _ o37x j hj))
  have o41x := OwnF_frame _ a11_1 (fun j hj => f12 j (OwnF_lt _ a11_1 j hj))
  have B42x := (f12 _ (List.getElem?_eq_some_iff.1 B38x).1).trans B38x
  have B43x := (f12 _ (List.getElem?_eq_some_iff.1 B39x).1).trans B39x
  obtain ⟨qkh0_1, zkh0_1, ykh0_1⟩ := OwnF_pure (.sub fdWrite) 6 (by decide) o41x
  have xkh0_1 := pureDA_of o41x zkh0_1
  obtain ⟨qkh1, zkh1, ykh1⟩ := OwnF_pure (.sub fdEntry) 6 (by decide) a12
  have xkh1 := pureDA_of a12 zkh1
  obtain ⟨v13, c13, d13, r13, o13, n13'⟩ := cI ykh0_1 ykh1
  obtain ⟨t13, h13, s13, e13, a13, u13, w13, f13, m13⟩ := own_callFS (h := h12) (args := [.agg [.int .i64 s0_0, t11_1], t12]) (by simp only [pureDAs, mapO, pureDA_int, pureDA_bool, pureDA_str, pureDA_agg, pureD_intv, pureD_boolv, pureD_strv, Option.map_some, zkh0_1, xkh0_1, zkh1, xkh1]) r13 o13 n13' rfl
  have b13 := own_ids a13 w13
  have o44x := OwnF_frame _ o40x (fun j hj => f13 j (OwnF_lt _ o40x j hj))
  have o45x := OwnF_frame _ o41x (fun j hj => f13 j (OwnF_lt _ o41x j hj))
  have o46x := OwnF_frame _ a12 (fun j hj => f13 j (OwnF_lt _ a12 j hj))
  have B47x := (f13 _ (List.getElem?_eq_some_iff.1 B42x).1).trans B42x
  have B48x := (f13 _ (List.getElem?_eq_some_iff.1 B43x).1).trans B43x
  obtain ⟨qgckR, zgckR, ygckR⟩ := OwnF_pure (.sub fdEntry) 6 (by decide) a13
  have xgckR := pureDA_of a13 zgckR
  have Egc := call_bool (h := h13) (args := [t13, w]) (by simp only [pureDAs, mapO, zgckR, xgckR, pureDA_pur gw]) (run_eqEntryS 54 ygckR gw C1)
  obtain ⟨qhbgR, zhbgR, yhbgR⟩ := OwnF_pure (.sub fdEntry) 6 (by decide) o44x
  have xhbgR := pureDA_of o44x zhbgR
  have Ehb := call_int (h := h13) (args := [t5, .int .i64 1]) (by simp only [pureDAs, mapO, pureDA_int, pureDA_bool, pureDA_str, pureDA_agg, pureD_intv, pureD_boolv, pureD_strv, Option.map_some, zhbgR, xhbgR]) (run_heldEntryS 56 yhbgR k10 (by omega) (by omega) z10x)
  simp -implicitDefEqProofs (disch := omega) only [go_sem, Nat.reduceBEq, Nat.reduceAdd, Nat.reduceSub, Nat.reduceMul, Nat.reduceLeDiff, Nat.reduceEqDiff, Nat.reduceLT, Int.reduceNeg, Int.reduceAdd, Int.reduceSub, Int.reduceMul, Int.reduceLE, Int.reduceLT, Int.reduceEq, Int.reduceToNat, reduceCtorEq, evC_draw, evD7x0, E7x0, z0, q0, z1, q1, K0, K1, BI0, eI, B1x, e0, B3x, e1, B4x, eW, B5x, e2, B7x, e3, B3b, B9x, B10x, e4, B13x, B14x, e5, Ega, B18x, B19x, e6, EA0, B23x, B24x, e7, EA1, B27x, B28x, e8, B31x, B32x, e9, Egb, B35x, B36x, e10, Eha, B38x, B39x, e11, B42x, B43x, e12, B47x, B48x, e13, Egc, Ehb]
  exact ⟨_, rfl⟩
end Go.Proofs.Yteaojpfofifmnaa.PE
/- Arguments of any plain kind, as they are read: values of the evaluator. -/
set_option linter.unusedVariables false
set_option linter.unusedSimpArgs false
namespace Go.Proofs.Yteaojpfofifmnaa.PE
open Go.RowKit

mutual
def tyF (P : Program) : Nat → TypeId → Fd → Bool
  | 0, _, _ => false
  | n + 1, t, .int k => match P.underlying t with
    | some (.int k') => decide (k' = k)
    | _ => false
  | n + 1, t, .bool => match P.underlying t with
    | some .bool => true
    | _ => false
  | n + 1, t, .str => match P.underlying t with
    | some .string => true
    | _ => false
  | n + 1, t, .sub fs => match P.underlying t with
    | some (.slice e) => decide (P.cellsOf e = fs.length) && decide (0 < fs.length) && tyR P n e fs
    | _ => false
def tyR (P : Program) : Nat → TypeId → List Fd → Bool
  | 0, _, _ => false
  | n + 1, t, fs => match P.underlying t with
    | some (.struct flds) => decide (P.cellsOf t = fs.length) && tyS P n flds.toList 0 fs
    | _ => match fs with
      | [f] => tyF P n t f
      | _ => false
def tyS (P : Program) : Nat → List Field → Nat → List Fd → Bool
  | 0, _, _, _ => false
  | n + 1, [], _, fs => fs.isEmpty
  | n + 1, fl :: r, off, fs => decide (fl.offset = off) && tyR P n fl.type (fs.take (P.cellsOf fl.type)) && decide (P.cellsOf fl.type ≤ fs.length) && tyS P n r (off + P.cellsOf fl.type) (fs.drop (P.cellsOf fl.type))
end

def B63 : Nat := 9223372036854775807
section
variable {H : Type} {enc : TypeId × Value → H} {P : Program} {w : World} {base : Nat} {spare : Nat → Bool} {held : Bool}

/-- Cells and what they are. -/
def Got (w : World) (fs : List Fd) (cs : List Value) : Prop := ∃ (ps : List V) (us : List U), PurR fs ps us ∧ LenR B63 B63 fs us ∧ ps.length = cs.length ∧ ∀ (i : Nat) (y : V), ps[i]? = some y → ∃ u, cs[i]? = some u ∧ Rep w (fun b => b < w.heap.size) u y
theorem Got.one {f : Fd} {v : Value} {p : V} {u : U} (h1 : PurF f p u) (h2 : LenF B63 B63 f u) (h3 : Rep w (fun b => b < w.heap.size) v p) : Got w [f] [v] := by
  refine ⟨[p], [u], by simp only [PurR]; exact ⟨p, [], u, [], rfl, rfl, h1, rfl, rfl⟩, by simp only [LenR]; exact ⟨h2, trivial⟩, rfl, fun i y hy => ?_⟩
  cases i with
  | zero => simp at hy; subst hy; exact ⟨v, rfl, h3⟩
  | succ i => simp at hy
theorem PurR_len : ∀ {fs : List Fd} {ps : List V} {us : List U}, PurR fs ps us → ps.length = fs.length ∧ us.length = fs.length
  | [], _, _, h => by simp only [PurR] at h; rw [h.1, h.2]; exact ⟨rfl, rfl⟩
  | f :: fs, _, _, h => by
    simp only [PurR] at h
    obtain ⟨v, c', u, x', rfl, rfl, _, h2⟩ := h
    have := PurR_len h2
    simp [this.1, this.2]
theorem PurR_app : ∀ {f1 f2 : List Fd} {p1 p2 : List V} {u1 u2 : List U}, PurR f1 p1 u1 → PurR f2 p2 u2 → PurR (f1 ++ f2) (p1 ++ p2) (u1 ++ u2)
  | [], _, _, _, _, _, h, h2 => by simp only [PurR] at h; rw [h.1, h.2]; exact h2
  | f :: f1, f2, _, p2, _, u2, h, h2 => by
    simp only [PurR] at h
    obtain ⟨v, c', u, x', rfl, rfl, h3, h4⟩ := h
    show PurR (f :: (f1 ++ f2)) _ _
    simp only [PurR]
    exact ⟨v, c' ++ p2, u, x' ++ u2, rfl, rfl, h3, PurR_app h4 h2⟩
theorem LenR_app {n m : Nat} : ∀ {f1 f2 : List Fd} {u1 u2 : List U}, u1.length = f1.length → LenR n m f1 u1 → LenR n m f2 u2 → LenR n m (f1 ++ f2) (u1 ++ u2)
  | [], _, u1, _, hl, _, h2 => by
    have : u1 = [] := List.eq_nil_of_length_eq_zero hl
    subst this
    exact h2
  | f :: f1, f2, u :: u1, u2, hl, h, h2 => by
    show LenR n m (f :: (f1 ++ f2)) (u :: (u1 ++ u2))
    simp only [LenR] at h ⊢
    exact ⟨h.1, LenR_app (by simpa using hl) h.2 h2⟩
  | _ :: _, _, [], _, hl, _, _ => by simp at hl
theorem Got.app {f1 f2 : List Fd} {c1 c2 : List Value} (h1 : Got w f1 c1) (h2 : Got w f2 c2) : Got w (f1 ++ f2) (c1 ++ c2) := by
  obtain ⟨p1, u1, a1, a2, a3, a4⟩ := h1
  obtain ⟨p2, u2, b1, b2, b3, b4⟩ := h2
  refine ⟨p1 ++ p2, u1 ++ u2, PurR_app a1 b1, LenR_app (PurR_len a1).2 a2 b2, by simp [a3, b3], fun i y hy => ?_⟩
  rcases Nat.lt_or_ge i p1.length with hi | hi
  · rw [List.getElem?_append_left hi] at hy
    obtain ⟨u, hu, hr⟩ := a4 i y hy
    exact ⟨u, by rw [List.getElem?_append_left (by omega)]; exact hu, hr⟩
  · rw [List.getElem?_append_right hi] at hy
    obtain ⟨u, hu, hr⟩ := b4 _ y hy
    exact ⟨u, by rw [List.getElem?_append_right (by omega), ← a3]; exact hu, hr⟩

theorem plain_addr {a : Addr} {v : Value} (h : w.cell? a = some v) : ∃ g o, a = ⟨g, o, none⟩ ∧ g < w.heap.size := by
  obtain ⟨g, o, sp⟩ := a
  unfold World.cell? at h
  have hg : g < w.heap.size := by
    rcases Nat.lt_or_ge g w.heap.size with h1 | h1
    · exact h1
    · rw [Array.getElem?_eq_none h1] at h; cases sp <;> simp at h
  cases sp with
  | none => exact ⟨g, o, rfl, hg⟩
  | some s => simp at h; split at h <;> cases h

/-- A slice out of its elements. -/
theorem got_slice {fs : List Fd} {a : Addr} {len cap : Nat} (hpos : 0 < fs.length) (hl : len ≤ cap) (hm : cap ≤ maxLen) (hx : ∀ i, i < len → ∃ cs', w.cells? base (a.add (i * fs.length)) fs.length = some cs' ∧ Got w fs cs') :
    Got w [.sub fs] [.slice (some a) len cap] := by
  have hx' : ∀ i, i < len → ∃ q : List V × List U × List Value, w.cells? base (a.add (i * fs.length)) fs.length = some q.2.2 ∧ PurR fs q.1 q.2.1 ∧ LenR B63 B63 fs q.2.1 ∧ q.1.length = q.2.2.length ∧ ∀ (j : Nat) (y : V), q.1[j]? = some y → ∃ u, q.2.2[j]? = some u ∧ Rep w (fun b => b < w.heap.size) u y := by
    intro i hi
    obtain ⟨cs', h1, ps, us, h2, h3, h4, h5⟩ := hx i hi
    exact ⟨(ps, us, cs'), h1, h2, h3, h4, h5⟩
  obtain ⟨q, hq⟩ := Go.Deep.choose_lt hx'
  have hzip : ∀ (n : Nat), n ≤ len → Zip2 (PurR fs) ((List.range n).map fun i => (q i).1) ((List.range n).map fun i => (q i).2.1) ∧ AllU (LenR B63 B63 fs) ((List.range n).map fun i => (q i).2.1) := by
    have z2 : ∀ {l1 : List (List V)} {l2 : List (List U)} {c : List V} {x : List U}, Zip2 (PurR fs) l1 l2 → PurR fs c x → Zip2 (PurR fs) (l1 ++ [c]) (l2 ++ [x]) := by
      intro l1
      induction l1 with
      | nil => intro l2 c x h hc; cases l2 with
        | nil => exact ⟨hc, trivial⟩
        | cons b bs => exact h.elim
      | cons a l1 ih => intro l2 c x h hc; cases l2 with
        | nil => exact h.elim
        | cons b bs => exact ⟨h.1, ih h.2 hc⟩
    have a2 : ∀ {l2 : List (List U)} {x : List U}, AllU (LenR B63 B63 fs) l2 → LenR B63 B63 fs x → AllU (LenR B63 B63 fs) (l2 ++ [x]) := by
      intro l2
      induction l2 with
      | nil => intro x _ hx; exact ⟨hx, trivial⟩
      | cons b bs ih => intro x h hx; exact ⟨h.1, ih h.2 hx⟩
    intro n
    induction n with
    | zero => intro _; exact ⟨trivial, trivial⟩
    | succ n ih =>
      intro hn
      obtain ⟨i1, i2⟩ := ih (by omega)
      obtain ⟨_, b1, b2, _⟩ := hq n (by omega)
      rw [List.range_succ, List.map_append, List.map_append]
      exact ⟨z2 i1 b1, a2 i2 b2⟩
  obtain ⟨z1, z2⟩ := hzip len (Nat.le_refl _)
  have hml : maxLen = 9223372036854775807 := by decide
  refine Got.one (p := .sl false fs.length ((List.range len).map fun i => (q i).1)) (u := .sub ((List.range len).map fun i => (q i).2.1)) ?_ ?_ ?_
  · simp only [PurF]
    exact ⟨false, _, _, rfl, rfl, z1⟩
  · simp only [LenF, List.length_map, List.length_range]
    exact ⟨by unfold B63; omega, z2⟩
  · have hlen : ∀ j x, ((List.range len).map fun i => (q i).1)[j]? = some x → j < len ∧ x = (q j).1 := by
      intro j x hx
      rw [List.getElem?_map] at hx
      obtain ⟨k, hk, rfl⟩ := Option.map_eq_some_iff.1 hx
      have hj : j < len := by
        have := (List.getElem?_eq_some_iff.1 hk).1
        simpa using this
      rw [List.getElem?_range hj] at hk
      injection hk with hk
      subst hk
      exact ⟨hj, rfl⟩
    have hcell : ∀ (j c : Nat) (y : V), j < len → (q j).1[c]? = some y → ∃ u, (q j).2.2[c]? = some u ∧ w.cell? ((a.add (j * fs.length)).add c) = some u ∧ Rep w (fun b => b < w.heap.size) u y := by
      intro j c y hj hy
      obtain ⟨h1, h2, h3, h4, h5⟩ := hq j hj
      obtain ⟨_, h6, h7⟩ := World.cells?_some h1
      obtain ⟨u, hu, hr⟩ := h5 c y hy
      have hc : c < fs.length := by
        have := (List.getElem?_eq_some_iff.1 hu).1
        omega
      exact ⟨u, hu, (h7 c hc).trans hu, hr⟩
    refine Rep.sl (some a) len cap false _ fs.length (fun j c => ((q j).2.2[c]?).getD undef) (by simp) hl (fun e => by cases e) hpos (fun x hx => ?_) (fun hn => ?_) (fun j c x y hx hy => ?_)
    · obtain ⟨j, hj⟩ := List.getElem?_of_mem hx
      obtain ⟨h1, rfl⟩ := hlen j x hj
      exact (PurR_len (hq j h1).2.1).1
    · have h0 := (PurR_len (hq 0 hn).2.1).1
      have hy0 : (q 0).1[0]? = some (q 0).1[0] := List.getElem?_eq_getElem (by omega)
      obtain ⟨u0, _, c0, _⟩ := hcell 0 0 _ hn hy0
      rw [Nat.zero_mul] at c0
      have ha : (a.add 0).add 0 = a := by simp [Addr.add]
      rw [ha] at c0
      obtain ⟨g, o, rfl, hg⟩ := plain_addr c0
      refine ⟨g, o, rfl, hg, fun j c x y hx hy => ?_⟩
      obtain ⟨h1, rfl⟩ := hlen j x hx
      obtain ⟨u, hu, hc, _⟩ := hcell j c y h1 hy
      rw [add0, add0] at hc
      rw [hc, hu]
      rfl
    · obtain ⟨h1, rfl⟩ := hlen j x hx
      obtain ⟨u, hu, _, hr⟩ := hcell j c y h1 hy
      show Rep w _ (((q j).2.2[c]?).getD undef) y
      rw [hu]
      exact hr

mutual
theorem gotF : ∀ (n : Nat) {t : TypeId} {f : Fd} {fuel : Nat} {cs : List Value} {x : DataW H × List MemPlace}, tyF P n t f = true → DataW.trod enc P w base spare held fuel t cs = some x → Got w [f] cs
  | 0, _, _, _, _, _, ht, _ => by simp [tyF] at ht
  | n + 1, t, .int k, fuel, cs, x, ht, h => by
    simp only [tyF] at ht
    split at ht
    · rename_i k' hu
      simp only [decide_eq_true_eq] at ht
      subst ht
      obtain ⟨m, rfl, _, _⟩ := DataW.trod_int hu h
      exact Got.one (p := .int k' m) (u := .int m) (by simp only [PurF]; exact ⟨m, rfl, rfl⟩) (by simp [LenF]) (.int _ _)
    · cases ht
  | n + 1, t, .bool, fuel, cs, x, ht, h => by
    simp only [tyF] at ht
    split at ht
    · rename_i hu
      obtain ⟨m, rfl, _⟩ := DataW.trod_bool hu h
      exact Got.one (p := .bool m) (u := .bool m) (by simp only [PurF]; exact ⟨m, rfl, rfl⟩) (by simp [LenF]) (.bool _)
    · cases ht
  | n + 1, t, .str, fuel, cs, x, ht, h => by
    simp only [tyF] at ht
    split at ht
    · rename_i hu
      obtain ⟨m, rfl, _, hm⟩ := DataW.trod_string hu h
      have hml : maxLen = 9223372036854775807 := by decide
      exact Got.one (p := .str m) (u := .str m) (by simp only [PurF]; exact ⟨m, rfl, rfl⟩) (by simp only [LenF]; unfold B63; omega) (.str _)
    · cases ht
  | n + 1, t, .sub fs, fuel, cs, x, ht, h => by
    simp only [tyF] at ht
    split at ht
    · rename_i e hu
      simp only [Bool.and_eq_true, decide_eq_true_eq] at ht
      obtain ⟨⟨hc, hpos⟩, hr⟩ := ht
      rcases Go.Deep.open_slice hu h with ⟨rfl, _⟩ | ⟨a, len, cap, m, k, D, Pl, rfl, hb, hl, hm, hmm, _, hx⟩
      · exact Got.one (p := .sl true fs.length []) (u := .sub []) (by rw [PurF]; exact ⟨true, [], [], rfl, rfl, trivial⟩) (by simp only [LenF]; exact ⟨Nat.zero_le _, trivial⟩) (rep_empty hpos (fun _ => rfl))
      · refine got_slice (base := base) hpos hl hm (fun i hi => ?_)
        obtain ⟨cs', h1, h2⟩ := hx i (by rw [hmm]; split <;> omega)
        rw [hc] at h1
        exact ⟨cs', h1, gotR n hr h2⟩
    · cases ht
theorem gotR : ∀ (n : Nat) {t : TypeId} {fs : List Fd} {fuel : Nat} {cs : List Value} {x : DataW H × List MemPlace}, tyR P n t fs = true → DataW.trod enc P w base spare held fuel t cs = some x → Got w fs cs
  | 0, _, _, _, _, _, ht, _ => by simp [tyR] at ht
  | n + 1, t, fs, fuel, cs, x, ht, h => by
    simp only [tyR] at ht
    split at ht
    · rename_i flds hu
      simp only [Bool.and_eq_true, decide_eq_true_eq] at ht
      obtain ⟨xs, k, _, _, hcl, hxl, hf⟩ := DataW.trod_struct hu h
      refine gotS n (cs := cs) (off := 0) (fuel := k) ht.2 (by omega) (fun i fl hi => ?_)
      have hlt : i < xs.length := by
        have := (List.getElem?_eq_some_iff.1 hi).1
        simp at this
        omega
      rw [Array.getElem?_toList] at hi
      exact ⟨xs[i], by rw [hf i fl hi, List.getElem?_eq_getElem hlt]⟩
    · split at ht
      · rename_i f
        exact gotF n ht h
      · cases ht
theorem gotS : ∀ (n : Nat) {flds : List Field} {off : Nat} {fs : List Fd} {fuel : Nat} {cs : List Value}, tyS P n flds off fs = true → cs.length = off + fs.length → (∀ (i : Nat) (fl : Field), flds[i]? = some fl → ∃ x, DataW.trod enc P w base spare held fuel fl.type ((cs.drop fl.offset).take (P.cellsOf fl.type)) = some x) → Got w fs (cs.drop off)
  | 0, _, _, _, _, _, ht, _, _ => by simp [tyS] at ht
  | n + 1, [], off, fs, fuel, cs, ht, hl, _ => by
    simp only [tyS, List.isEmpty_iff] at ht
    subst ht
    rw [List.drop_of_length_le (by simp at hl; omega)]
    exact ⟨[], [], by simp [PurR], by simp [LenR], rfl, fun i y hy => by simp at hy⟩
  | n + 1, fl :: r, off, fs, fuel, cs, ht, hl, hx => by
    simp only [tyS, Bool.and_eq_true, decide_eq_true_eq] at ht
    obtain ⟨⟨⟨ho, h1⟩, hle⟩, h2⟩ := ht
    obtain ⟨x, hx0⟩ := hx 0 fl rfl
    rw [ho] at hx0
    have g1 := gotR n h1 hx0
    have g2 := gotS n (cs := cs) (off := off + P.cellsOf fl.type) h2 (by rw [List.length_drop]; omega) (fun i f hi => hx (i + 1) f (by simpa using hi))
    have g := g1.app g2
    rw [List.take_append_drop] at g
    rw [← List.drop_drop, List.take_append_drop] at g
    exact g
end
/-- An argument of a slice's type. -/
theorem got_arg {t : TypeId} {fs : List Fd} {v : Value} {d : DataW H} {ps : List MemPlace} (n : Nat) (ht : tyF P n t (.sub fs) = true) (h : DataW.Trod enc P w base spare held t v d ps) (hv : v.cells = #[v]) :
    ∃ p xs, Rep w (fun b => b < w.heap.size) v p ∧ PurF (.sub fs) p (.sub xs) ∧ LenF B63 B63 (.sub fs) (.sub xs) := by
  obtain ⟨fuel, h⟩ := h
  obtain ⟨ps, us, h1, h2, h3, h4⟩ := gotF n ht h
  simp only [PurR] at h1
  obtain ⟨p, _, u, _, rfl, rfl, g, rfl, rfl⟩ := h1
  simp only [LenR] at h2
  obtain ⟨u', hu, hr⟩ := h4 0 p rfl
  rw [hv] at hu
  simp at hu
  subst hu
  have g' := g
  simp only [PurF] at g'
  obtain ⟨_, _, xs, _, rfl, _⟩ := g'
  exact ⟨p, xs, hr, g, h2.1⟩
/-- An argument of a struct's type. -/
theorem got_argR {t : TypeId} {fs : List Fd} {cs : Array Value} {d : DataW H} {ps : List MemPlace} (n : Nat) (ht : tyR P n t fs = true) (h : DataW.Trod enc P w base spare held t (.agg cs) d ps) :
    ∃ qs us, RepA w (fun b => b < w.heap.size) (.agg cs) (.agg qs) ∧ PurR fs qs us ∧ LenR B63 B63 fs us := by
  obtain ⟨fuel, h⟩ := h
  obtain ⟨ps, us, h1, h2, h3, h4⟩ := gotR n ht h
  refine ⟨ps, us, ⟨cs, rfl, by simpa [Value.cells] using h3.symm, fun i c hc => ?_⟩, h1, h2⟩
  obtain ⟨u, hu, hr⟩ := h4 i c hc
  exact ⟨u, by simpa [Value.cells] using hu, hr⟩
end
end Go.Proofs.Yteaojpfofifmnaa.PE
