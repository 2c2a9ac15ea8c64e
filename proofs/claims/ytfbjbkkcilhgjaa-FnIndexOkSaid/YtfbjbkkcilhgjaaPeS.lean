/- Each operation of the evaluator is the machine's: append's two forms, the greater of numbers, '==' of structs. -/
import Derived.Test.YtfbjbkkcilhgjaaPeR
import Derived.Laws.StructEq
namespace Go.Proofs.Ytfbjbkkcilhgjaa.PE
open Go.RowKit

section
variable {P : Program} {o : Oper} {a : Act} {K : Ct} {γ γ' : Gh} {w : World} {h : Heap} {N : Nat} {e : Env}

theorem ok_app (s : St K γ w h) (he : EnvOK K γ w h N a e) {t0 t1 e' : TypeId} {x y : Operand} {x' y' : X} {sz : Nat} (hx : chkX x x' = true) (hy : chkX y y' = true) (ht : sliceT P t0 = some e') (h1 : appT P t1 = true) (hs : szT P e' = some sz) (hzero : zszT P e' = some sz) (hsm : smallT P e' = true)
    {v : V} {h' : Heap} (hev : evOp e h (.app sz x' y') = some (v, h')) : Ok1 P (.call { callee := .builtin .append, args := #[x, y], argTypes := #[t0, t1] }) o a K γ w h v h' := by
  simp only [evOp] at hev
  split at hev
  · rename_i ys hys
    split at hev
    · rename_i hel
      obtain ⟨A, cap, news, hyv, _, _, hsrc, hels⟩ := src_of (P := P) s (chkX_ok hy he) hys hel
      obtain ⟨u, w', γ', q1, q2, q3⟩ := ok_appendTo (ty := o.type) s ht h1 hs hzero hsm (chkX_ok hx he) hsrc hels hev
      refine ⟨u, w', γ', .inl ?_, q2, q3⟩
      simp [execOp, resolve, invoke, builtin, q1]
    · cases hev
  · cases hev

theorem clr_at {cont : List (List V)} {zero : List V} {off len : Nat} (hf : off + len ≤ cont.length) (j : Nat) : (cont.take off ++ (List.replicate len zero ++ cont.drop (off + len)))[j]? = if off ≤ j ∧ j < off + len then some zero else cont[j]? := by
  by_cases h1 : j < off
  · rw [List.getElem?_append_left (by simp; omega), List.getElem?_take_of_lt h1, if_neg (by omega)]
  · rw [List.getElem?_append_right (by simp; omega)]
    by_cases h2 : j < off + len
    · rw [List.getElem?_append_left (by simp; omega), if_pos (by omega), List.getElem?_replicate, if_pos (by simp; omega)]
    · rw [List.getElem?_append_right (by simp; omega), if_neg (by omega), List.getElem?_drop]
      congr 1
      simp
      omega
theorem ok_clr (s : St K γ w h) (he : EnvOK K γ w h N a e) {t e' : TypeId} {x : Operand} {x' : X} {sz : Nat} {zero : List V} (hx : chkX x x' = true) (ht : sliceT P t = some e') (hs : szT P e' = some sz) (hpos : 0 < sz) (hzero : zeroIs P e' zero = true)
    (hpure : ∀ u ∈ zero, ∃ u', pureC [] u = some u' ∧ u' = u)
    {v : V} {h' : Heap} (hev : evOp e h (.clr sz zero x') = some (v, h')) : Ok1 P (.call { callee := .builtin .clear, args := #[x], argTypes := #[t] }) o a K γ w h v h' := by
  have hv := chkX_ok hx he
  have hten : ∀ {γ1 : Gh} {w1 : World} {h1 : Heap}, VT K γ1 w1 h1 (.tuple #[]) (.tup []) := ⟨#[], rfl, rfl, fun i c hc => by simp at hc⟩
  have hnone : ∀ A cap, a.eval x = .slice A 0 cap → Ok1 P (.call { callee := .builtin .clear, args := #[x], argTypes := #[t] }) o a K γ w h (.tup []) h := by
    intro A cap hax
    refine ⟨.tuple #[], w, γ, .inl ?_, Go2.refl s, hten⟩
    cases A <;> simp [execOp, resolve, invoke, builtin, Builtin.clear_, run_underlying (of_sliceT ht), hax]
  simp only [evOp] at hev
  split at hev
  · rename_i q1 q2 hy
    rw [hy] at hv
    injection hev with hev
    injection hev with e1 e2
    subst e1 e2
    obtain ⟨A, cap, hax, _⟩ := rep_slice hv.sl
    exact hnone A cap hax
  · rename_i id st off len clip hy
    rw [hy] at hv
    obtain ⟨A, cap, hax, k1, k2, hp⟩ := hv.ref
    split at hev
    · rename_i h0
      subst h0
      injection hev with hev
      injection hev with e1 e2
      subst e1 e2
      exact hnone A cap hax
    · rename_i h0
      split at hev
      · rename_i st' sz' cont hb
        split at hev
        · rename_i hcond
          obtain ⟨rfl, rfl, hzl⟩ := hcond
          injection hev with hev
          injection hev with e1 e2
          subst e1 e2
          rw [hb] at hp
          obtain ⟨_, hp⟩ := hp
          obtain ⟨h3, h4⟩ := hp rfl
          cases hg : γ id with
          | none => rw [hg] at h4; omega
          | some p =>
            obtain ⟨g, o'⟩ := p
            rw [hg] at h4
            obtain ⟨rfl, cs, ⟨et, hblk⟩, hfit⟩ := h4 (by omega)
            unfold zeroIs at hzero
            split at hzero
            · rename_i z hzt
              simp only [Bool.and_eq_true, decide_eq_true_eq] at hzero
              obtain ⟨c1, c2⟩ := constCs_ok (K := K) (γ := γ) (w := w) (h := h) hzero.1
              have hzs : z.cells.size = sz' := by simp at c1; omega
              have hB := s.blk id _ hb
              obtain ⟨_, hl0, hB⟩ := hB
              rw [hg] at hB
              obtain ⟨hg0, cs', hcs', hsz0, hrep0⟩ := hB
              have := hcs'.unique ⟨et, hblk⟩
              subst this
              obtain ⟨news, hnews⟩ : ∃ news, news = (Builtin.zeroCells z.cells len).toList := ⟨_, rfl⟩
              have hnl : news.length = len * sz' := by rw [hnews]; simp [Builtin.zeroCells, hzs]
              have hfl : o' + off * sz' + len * sz' ≤ cs'.size := by
                have h5 : (off + len) * sz' ≤ (off + cap) * sz' := Nat.mul_le_mul_right _ (by omega)
                rw [Nat.add_mul] at h5
                omega
              have hng : ∀ (j c : Nat), j < len → c < sz' → news[j * sz' + c]? = z.cells[c]? := fun j c hj hc => by
                rw [hnews, Array.getElem?_toList]
                have := made_get (z := z.cells) (n := len) hzs hj hc
                rw [← this]
                unfold Builtin.zeroCells
                rw [hzs]
              have hone : ∀ v ∈ news, v.oneCell' = true := by
                intro v hv
                obtain ⟨k, hk⟩ := List.getElem?_of_mem hv
                have hkl : k < len * sz' := by rw [← hnl]; exact (List.getElem?_eq_some_iff.1 hk).1
                have hj : k / sz' < len := (Nat.div_lt_iff_lt_mul hpos).2 hkl
                have hc : k % sz' < sz' := Nat.mod_lt _ hpos
                have hkk : k / sz' * sz' + k % sz' = k := by have := Nat.div_add_mod k sz'; rw [Nat.mul_comm] at this; exact this
                have h6 := hng _ _ hj hc
                rw [hkk, hk] at h6
                have hzc : k % sz' < zero.length := by omega
                obtain ⟨u, hu, hvc⟩ := c2 _ _ (List.getElem?_eq_getElem hzc)
                have : v = u := by
                  rw [Array.getElem?_toList] at hu
                  rw [hu] at h6
                  exact Option.some.inj h6
                subst this
                obtain ⟨u', hu', e3⟩ := hpure _ (List.getElem_mem hzc)
                subst e3
                revert hu' hvc
                generalize zero[k % sz'] = q
                intro hvc hu'
                cases q with
                | int k m => rw [show v = _ from hvc]; rfl
                | bool b => rw [show v = _ from hvc]; rfl
                | str b => rw [show v = _ from hvc]; rfl
                | sl cl sz2 xs => exact (show Rep w (Im K γ w) v (.sl cl sz2 xs) from hvc).one
                | _ => simp [pureC] at hu'
              have hst := run_storeCells_at P g (o' + off * sz') et news 0 cs' w hblk (by rw [hnl]; omega) hone
              simp only [Nat.add_zero] at hst
              have hrun : (Builtin.clear_ #[t] o.type #[.slice (some ⟨g, o' + off * sz', none⟩) len cap]).run P w = .ok (.tuple #[]) (w.setRow g (over cs' (o' + off * sz') news)) := by
                obtain ⟨n, rfl⟩ : ∃ n, len = n + 1 := ⟨len - 1, by omega⟩
                rw [hnews] at hst ⊢
                unfold zeroT at hzt
                obtain ⟨ie, hie, hiz⟩ : ∃ i, P.info? e' = some i ∧ i.zero = some z := by
                  cases hie : P.info? e' with
                  | none => rw [hie] at hzt; cases hzt
                  | some i => rw [hie] at hzt; exact ⟨i, rfl, hzt⟩
                simp [Builtin.clear_, run_underlying (of_sliceT ht), typeInfo, zeroValue, hie, hiz, hst, over]
              have hnew : o' + off * sz' + news.length ≤ cs'.size := by rw [hnl]; exact hfl
              have hblk' := setRow_heap w g cs' (over cs' (o' + off * sz') news) et _ hblk
              have hcl : (cont.take off ++ (List.replicate len zero ++ cont.drop (off + len))).length = cont.length := by simp; omega
              have := st_upd s hb (b' := .rows st' sz' (cont.take off ++ (List.replicate len zero ++ cont.drop (off + len)))) (some (g, o')) (w' := w.setRow g (over cs' (o' + off * sz') news)) (below_setRow s.below hg0) (by rw [setRow_size]; exact Nat.le_refl _)
                (fun k _ hk => setRow_other w g k _ (fun e => hk o' (e ▸ hg)))
                (fun g1 o1 e => by
                  injection e with e
                  injection e with e4 _
                  subst e4
                  exact .inl ⟨o', hg⟩)
                ⟨Nat.le_refl _, fun _ => ⟨rfl, by omega, by rw [upd_self, hg], fun g1 o1 cs1 hg1 hb1 => by
                  rw [hg] at hg1
                  injection hg1 with hg1
                  injection hg1 with e4 e5
                  subst e4 e5
                  have := hb1.unique ⟨et, hblk⟩
                  subst this
                  exact ⟨_, ⟨et, hblk'⟩, over_size hnew⟩⟩⟩
                (fun tr => by
                  refine ⟨hpos, fun x hx => ?_, ?_⟩
                  · rcases List.mem_append.1 hx with hx | hx
                    · exact hl0 x (List.mem_of_mem_take hx)
                    · rcases List.mem_append.1 hx with hx | hx
                      · rw [List.eq_of_mem_replicate hx]; exact hzl
                      · exact hl0 x (List.mem_of_mem_drop hx)
                  rw [upd_self]
                  refine ⟨hg0, _, ⟨et, hblk'⟩, by rw [over_size hnew, hcl]; exact hsz0, fun j c x y hx hy' => ?_⟩
                  rw [clr_at h3] at hx
                  rw [over_get hnew]
                  split at hx
                  · rename_i hj
                    injection hx with hx
                    subst hx
                    have hc : c < sz' := by have := (List.getElem?_eq_some_iff.1 hy').1; omega
                    obtain ⟨u, hu, hvc⟩ := c2 c y hy'
                    have h6 := hng (j - off) c (by omega) hc
                    have e6 : o' + j * sz' + c - (o' + off * sz') = (j - off) * sz' + c := by
                      have : off * sz' ≤ j * sz' := Nat.mul_le_mul_right _ hj.1
                      rw [Nat.sub_mul]
                      omega
                    have hin : o' + off * sz' ≤ o' + j * sz' + c ∧ o' + j * sz' + c < o' + off * sz' + news.length := by
                      have h7 : off * sz' ≤ j * sz' := Nat.mul_le_mul_right _ hj.1
                      have h8 : (j + 1) * sz' ≤ (off + len) * sz' := Nat.mul_le_mul_right _ (by omega)
                      rw [Nat.add_mul, Nat.add_mul] at h8
                      rw [hnl]
                      omega
                    rw [if_pos hin, e6, h6]
                    refine ⟨u, by simpa using hu, ?_⟩
                    obtain ⟨u', hu', e3⟩ := hpure y (List.mem_of_getElem? hy')
                    subst e3
                    cases u' with
                    | int k m => rw [show u = _ from hvc]; exact .int k m
                    | bool b => rw [show u = _ from hvc]; exact .bool b
                    | str b => rw [show u = _ from hvc]; exact .str b
                    | sl cl sz2 xs => exact tr.rep hvc
                    | _ => simp [pureC] at hu'
                  · rename_i hj
                    have hc : c < sz' := by
                      have e1 := (List.getElem?_eq_some_iff.1 hy').1
                      have e2 := hl0 x (List.mem_of_getElem? hx)
                      omega
                    obtain ⟨u, hu, hr⟩ := hrep0 j c x y hx hy'
                    have hout : ¬ (o' + off * sz' ≤ o' + j * sz' + c ∧ o' + j * sz' + c < o' + off * sz' + news.length) := by
                      rw [hnl]
                      intro ⟨h7, h8⟩
                      apply hj
                      constructor
                      · rcases Nat.lt_or_ge j off with h9 | h9
                        · have : (j + 1) * sz' ≤ off * sz' := Nat.mul_le_mul_right _ h9
                          rw [Nat.add_mul] at this
                          omega
                        · exact h9
                      · rcases Nat.lt_or_ge j (off + len) with h9 | h9
                        · exact h9
                        · have : (off + len) * sz' ≤ j * sz' := Nat.mul_le_mul_right _ h9
                          rw [Nat.add_mul] at this
                          omega
                    rw [if_neg hout]
                    exact ⟨u, hu, tr.rep hr⟩)
              refine ⟨.tuple #[], _, _, .inl ?_, Go2.of this, hten⟩
              simp [execOp, resolve, invoke, builtin, hax, hrun]
            · cases hzero
        · cases hev
      · cases hev
  · cases hev

theorem ok_apps (s : St K γ w h) (he : EnvOK K γ w h N a e) {t0 t1 e' : TypeId} {x y : Operand} {x' y' : X} (hx : chkX x x' = true) (hy : chkX y y' = true) (ht : sliceT P t0 = some e') (h1 : appT P t1 = true) (hs : szT P e' = some 1) (hzero : zszT P e' = some 1) (hsm : smallT P e' = true)
    {v : V} {h' : Heap} (hev : evOp e h (.apps x' y') = some (v, h')) : Ok1 P (.call { callee := .builtin .append, args := #[x, y], argTypes := #[t0, t1] }) o a K γ w h v h' := by
  simp only [evOp] at hev
  split at hev
  · rename_i bs hbs
    have hyv := chkX_ok hy he
    rw [hbs] at hyv
    obtain ⟨hsrc, hels⟩ := src_str (P := P) (K := K) (γ := γ) (w := w) bs
    rw [← hyv.str] at hsrc
    obtain ⟨u, w', γ', q1, q2, q3⟩ := ok_appendTo (ty := o.type) s ht h1 hs hzero hsm (chkX_ok hx he) hsrc hels hev
    refine ⟨u, w', γ', .inl ?_, q2, q3⟩
    simp [execOp, resolve, invoke, builtin, q1]
  · cases hev

theorem mmax_ok {k : IntKind} : ∀ (ys : List V) (us : List Value) (n m : Int), us.length = ys.length → (∀ (i : Nat) (y : V), ys[i]? = some y → ∃ u, us[i]? = some u ∧ VT K γ w h u y) → mmax n ys k = some m →
    (us.foldlM Builtin.max2 (.int k n)).run P w = .ok (.int k m) w
  | [], [], n, m, _, _, hm => by
    simp [mmax] at hm
    subst hm
    rfl
  | y :: ys, u :: us, n, m, hl, hv, hm => by
    obtain ⟨u', hu', hv'⟩ := hv 0 y rfl
    simp at hu'
    subst hu'
    unfold mmax at hm
    split at hm
    · rename_i he; cases he
    · rename_i k1 q r e1
      injection e1 with e1 e2
      subst e1 e2
      split at hm
      · rename_i hk
        subst hk
        have := mmax_ok ys us _ m (by simpa using hl) (fun i z hz => by simpa using hv (i + 1) z (by simpa using hz)) hm
        rw [hv'.int]
        simp only [List.foldlM_cons, Sem.run_bind]
        show Result.andThen (.ok (Value.int k1 (if q > n then q else n)) w) _ = _
        exact this
      · cases hm
    · cases hm
  | [], _ :: _, _, _, hl, _, _ => by cases hl
  | _ :: _, [], _, _, hl, _, _ => by cases hl
theorem mmin_ok {k : IntKind} : ∀ (ys : List V) (us : List Value) (n m : Int), us.length = ys.length → (∀ (i : Nat) (y : V), ys[i]? = some y → ∃ u, us[i]? = some u ∧ VT K γ w h u y) → mmin n ys k = some m →
    (us.foldlM Builtin.min2 (.int k n)).run P w = .ok (.int k m) w
  | [], [], n, m, _, _, hm => by
    simp [mmin] at hm
    subst hm
    rfl
  | y :: ys, u :: us, n, m, hl, hv, hm => by
    obtain ⟨u', hu', hv'⟩ := hv 0 y rfl
    simp at hu'
    subst hu'
    unfold mmin at hm
    split at hm
    · rename_i he; cases he
    · rename_i k1 q r e1
      injection e1 with e1 e2
      subst e1 e2
      split at hm
      · rename_i hk
        subst hk
        have := mmin_ok ys us _ m (by simpa using hl) (fun i z hz => by simpa using hv (i + 1) z (by simpa using hz)) hm
        rw [hv'.int]
        simp only [List.foldlM_cons, Sem.run_bind]
        show Result.andThen (.ok (Value.int k1 (if q < n then q else n)) w) _ = _
        exact this
      · cases hm
    · cases hm
  | [], _ :: _, _, _, hl, _, _ => by cases hl
  | _ :: _, [], _, _, hl, _, _ => by cases hl

theorem ok_mm (s : St K γ w h) (he : EnvOK K γ w h N a e) {max : Bool} {x : Operand} {xs : List Operand} {y : X} {ys : List X} {args : Array Operand} {ts : Array TypeId} (hargs : args.toList = x :: xs) (hx : chkX x y = true) (hxs : chkXs xs ys = true)
    {v : V} {h' : Heap} (hev : evOp e h (.mm max y ys) = some (v, h')) : Ok1 P (.call { callee := .builtin (if max then .max else .min), args := args, argTypes := ts }) o a K γ w h v h' := by
  have hxv := chkX_ok hx he
  obtain ⟨c1, c2⟩ := chkXs_ok he hxs
  simp only [evOp] at hev
  split at hev
  · rename_i k n hy
    rw [hy] at hxv
    obtain ⟨m, hm, rfl, rfl⟩ := map_pair (f := fun m : Int => V.int k m) hev
    have hl : (xs.map a.eval).length = (ys.map (X.ev e)).length := by simpa using c1
    have hv : ∀ (i : Nat) (z : V), (ys.map (X.ev e))[i]? = some z → ∃ u, (xs.map a.eval)[i]? = some u ∧ VT K γ w h u z := fun i z hz => by
      rw [List.getElem?_map, Option.map_eq_some_iff] at hz
      obtain ⟨q, hq, rfl⟩ := hz
      obtain ⟨p, hp, hv⟩ := c2 i q hq
      exact ⟨a.eval p, by simp [hp], hv⟩
    have hat : (args.map a.eval).toList = a.eval x :: xs.map a.eval := by rw [Array.toList_map, hargs]; rfl
    refine Ok1.pure s (v := .int k m) ?_ rfl
    cases max with
    | true =>
      simp only [if_true] at hm ⊢
      have hrun : (Builtin.max_ ts o.type (args.map a.eval)).run P w = .ok (.int k m) w := by
        unfold Builtin.max_
        rw [hat, hxv.int]
        exact mmax_ok _ _ n m hl hv hm
      simp only [execOp, resolve, Sem.run_bind, Sem.run_pure, Result.andThen_ok, invoke, builtin, hrun]
    | false =>
      simp only [Bool.false_eq_true, if_false] at hm ⊢
      have hrun : (Builtin.min_ ts o.type (args.map a.eval)).run P w = .ok (.int k m) w := by
        unfold Builtin.min_
        rw [hat, hxv.int]
        exact mmin_ok _ _ n m hl hv hm
      simp only [execOp, resolve, Sem.run_bind, Sem.run_pure, Result.andThen_ok, invoke, builtin, hrun]
  · cases hev

/-! ### '==' of structs -/
def skFs (P : Program) (f : TypeId → Option (List Sk)) : List Field → Nat → Option (List Sk)
  | [], _ => some []
  | fl :: r, off => if (fl.name == "_") || !decide (fl.offset = off) then none else match f fl.type with
    | some ks => if szT P fl.type = some ks.length then (skFs P f r (off + ks.length)).map (ks ++ ·) else none
    | none => none
def skT (P : Program) : Nat → TypeId → Option (List Sk)
  | 0, _ => none
  | d + 1, t => match P.underlying t with
    | some (.int _) => some [.int]
    | some .bool => some [.bool]
    | some .string => some [.str]
    | some (.struct fs) => if P.stoodInHeld t then none else skFs P (skT P d) fs.toList 0
    | _ => none

theorem eqCells_cons {k : Sk} {ks : List Sk} {xs ys : List V} {b : Bool} (hq : eqCells (k :: ks) xs ys = some b) : ∃ x xs' y ys' b1 b2, xs = x :: xs' ∧ ys = y :: ys' ∧ eqCell k x y = some b1 ∧ eqCells ks xs' ys' = some b2 ∧ b = (b1 && b2) := by
  cases xs with
  | nil => cases ys <;> simp [eqCells] at hq
  | cons x xs =>
    cases ys with
    | nil => simp [eqCells] at hq
    | cons y ys =>
      simp only [eqCells] at hq
      split at hq
      · rename_i b1 b2 h1 h2
        injection hq with hq
        exact ⟨x, xs, y, ys, b1, b2, rfl, rfl, h1, h2, hq.symm⟩
      · cases hq
theorem eqCells_nil {xs ys : List V} {b : Bool} (hq : eqCells [] xs ys = some b) : xs = [] ∧ ys = [] ∧ b = true := by
  cases xs with
  | nil =>
    cases ys with
    | nil => simp [eqCells] at hq; exact ⟨rfl, rfl, hq⟩
    | cons y ys => simp [eqCells] at hq
  | cons x xs => cases ys <;> simp [eqCells] at hq

theorem eqCells_len : ∀ {ks : List Sk} {xs ys : List V} {b : Bool}, eqCells ks xs ys = some b → xs.length = ks.length ∧ ys.length = ks.length
  | [], xs, ys, b, hq => by
    obtain ⟨rfl, rfl, _⟩ := eqCells_nil hq
    exact ⟨rfl, rfl⟩
  | k :: ks, xs, ys, b, hq => by
    obtain ⟨x, xs', y, ys', b1, b2, rfl, rfl, _, h2, _⟩ := eqCells_cons hq
    obtain ⟨l1, l2⟩ := eqCells_len h2
    simp [l1, l2]

theorem eqCells_split : ∀ {k1 k2 : List Sk} {xs ys : List V} {b : Bool}, eqCells (k1 ++ k2) xs ys = some b → ∃ b1 b2, eqCells k1 (xs.take k1.length) (ys.take k1.length) = some b1 ∧ eqCells k2 (xs.drop k1.length) (ys.drop k1.length) = some b2 ∧ b = (b1 && b2)
  | [], k2, xs, ys, b, hq => ⟨true, b, by simp [eqCells], by simpa using hq, by simp⟩
  | k :: k1, k2, xs, ys, b, hq => by
    obtain ⟨x, xs', y, ys', b1, b2, rfl, rfl, h1, h2, rfl⟩ := eqCells_cons (show eqCells (k :: (k1 ++ k2)) xs ys = some b from hq)
    obtain ⟨c1, c2, h3, h4, rfl⟩ := eqCells_split h2
    refine ⟨b1 && c1, c2, ?_, by simpa using h4, by rw [Bool.and_assoc]⟩
    simp only [List.length_cons, List.take_succ_cons, eqCells, h1, h3]

/-- A value out of its cells. -/
def ofArr (agg : Bool) (cs : Array Value) : Value := if agg then .agg cs else cs.getD 0 undef

theorem ba_beq (s1 s2 : ByteArray) : (s1 == s2) = decide (s1 = s2) := by
  have : (s1 == s2) = true ↔ s1 = s2 := by
    obtain ⟨a⟩ := s1
    obtain ⟨b⟩ := s2
    show (a == b) = true ↔ _
    simp
  rw [Bool.eq_iff_iff, this]
  simp

theorem eq_scalar (D : Nat) (t : TypeId) {k : Sk} {u v : Value} {x y : V} {b : Bool} (hu : match k with | .int => ∃ ik, P.underlying t = some (.int ik) | .bool => P.underlying t = some .bool | .str => P.underlying t = some .string)
    (hx : VC K γ w h u x) (hy : VC K γ w h v y) (hq : eqCell k x y = some b) : (Op.equalIn (D + 1) t u v).run P w = .ok b w := by
  unfold eqCell at hq
  split at hq
  · rename_i k1 n k2 m
    rw [show u = _ from hx, show v = _ from hy]
    obtain ⟨ik, hu⟩ := hu
    split at hq
    · rename_i hk
      subst hk
      injection hq with hq
      subst hq
      unfold Op.equalIn
      simp only [Sem.run_bind, run_underlying hu, Result.andThen_ok, if_true]
      rfl
    · cases hq
  · rename_i b1 b2
    rw [show u = _ from hx, show v = _ from hy]
    injection hq with hq
    subst hq
    unfold Op.equalIn
    simp only [Sem.run_bind, run_underlying hu, Result.andThen_ok]
    rfl
  · rename_i s1 s2
    rw [show u = _ from hx, show v = _ from hy]
    injection hq with hq
    subst hq
    unfold Op.equalIn
    simp only [Sem.run_bind, run_underlying hu, Result.andThen_ok]
    show Result.ok (s1 == s2) w = _
    rw [ba_beq]
  · cases hq

theorem eqFields_ok (D : Nat) (f : TypeId → Option (List Sk)) (hf : ∀ t ks agg cx cy xs ys b, f t = some ks → aggT P t = some agg → Cells K γ w h cx xs → Cells K γ w h cy ys → eqCells ks xs ys = some b → (Op.equalIn D t (ofArr agg cx) (ofArr agg cy)).run P w = .ok b w)
    (hagg : ∀ t ks, f t = some ks → ∃ agg, aggT P t = some agg ∧ (agg = false → ks.length = 1)) {cx cy : Array Value} : ∀ (fs : List Field) (off : Nat) (ks : List Sk) (xs ys : List V) (b : Bool), skFs P f fs off = some ks →
      off + ks.length ≤ cx.size → off + ks.length ≤ cy.size →
      (∀ (i : Nat) (c : V), xs[i]? = some c → ∃ u, cx[off + i]? = some u ∧ VC K γ w h u c) → (∀ (i : Nat) (c : V), ys[i]? = some c → ∃ u, cy[off + i]? = some u ∧ VC K γ w h u c) → eqCells ks xs ys = some b →
      (Op.eqFields D cx cy fs).run P w = .ok b w
  | [], off, ks, xs, ys, b, hk, _, _, _, _, hq => by
    simp [skFs] at hk
    subst hk
    obtain ⟨_, _, rfl⟩ := eqCells_nil hq
    rfl
  | fl :: fs, off, ks, xs, ys, b, hk, hcx, hcy, hx, hy, hq => by
    unfold skFs at hk
    split at hk
    · cases hk
    · rename_i hname
      simp only [Bool.or_eq_true, Bool.not_eq_true', decide_eq_false_iff_not, not_or, Decidable.not_not] at hname
      obtain ⟨hn, ho⟩ := hname
      split at hk
      · rename_i k1 hk1
        split at hk
        · rename_i hsz
          obtain ⟨k2, hk2, rfl⟩ := Option.map_eq_some_iff.1 hk
          obtain ⟨b1, b2, q1, q2, rfl⟩ := eqCells_split hq
          obtain ⟨agg, ha, ha1⟩ := hagg _ _ hk1
          obtain ⟨l1, l2⟩ := eqCells_len hq
          rw [List.length_append] at hcx hcy l1 l2
          have hpart : ∀ (cz : Array Value) (zs : List V), off + (k1.length + k2.length) ≤ cz.size → zs.length = k1.length + k2.length → (∀ (i : Nat) (c : V), zs[i]? = some c → ∃ u, cz[off + i]? = some u ∧ VC K γ w h u c) →
              (part fl.type cz fl.offset).run P w = .ok (ofArr agg (cz.extract off (off + k1.length))) w ∧ Cells K γ w h (cz.extract off (off + k1.length)) (zs.take k1.length) := by
            intro cz zs hcz hzl hz
            constructor
            · cases agg with
              | true => simp [part, run_agg ha, run_sz hsz, ofArr, ho]
              | false =>
                have h1 := ha1 rfl
                have hlt : off < cz.size := by omega
                have e1 : cz[off]? = some cz[off] := Array.getElem?_eq_getElem hlt
                simp only [part, Sem.run_bind, run_agg ha, Result.andThen_ok, ho, e1, Bool.false_eq_true, if_false]
                simp only [ofArr, Bool.false_eq_true, if_false, h1, Sem.run_pure]
                rw [Array.getD_eq_getD_getElem?, Array.getElem?_extract, if_pos (by omega)]
                simp [e1]
            · refine ⟨by simp; omega, fun i c hc => ?_⟩
              have hi : i < k1.length := by
                have := (List.getElem?_eq_some_iff.1 hc).1
                simp at this
                omega
              rw [List.getElem?_take_of_lt hi] at hc
              obtain ⟨u, hu, hv⟩ := hz i c hc
              refine ⟨u, ?_, hv⟩
              rw [Array.getElem?_extract, if_pos (by omega)]
              exact hu
          obtain ⟨p1, p2⟩ := hpart cx xs hcx l1 hx
          obtain ⟨p3, p4⟩ := hpart cy ys hcy l2 hy
          have e1 := hf _ _ agg _ _ _ _ b1 hk1 ha p2 p4 q1
          have e2 := eqFields_ok D f hf hagg (cx := cx) (cy := cy) fs (off + k1.length) k2 (xs.drop k1.length) (ys.drop k1.length) b2 hk2 (by omega) (by omega)
            (fun i c hc => by
              rw [List.getElem?_drop] at hc
              rw [Nat.add_assoc]
              exact hx _ c hc)
            (fun i c hc => by
              rw [List.getElem?_drop] at hc
              rw [Nat.add_assoc]
              exact hy _ c hc) q2
          have hn' : fl.name ≠ "_" := by simpa using hn
          simp only [Op.eqFields, if_pos hn', Sem.run_bind, p1, p3, e1, Result.andThen_ok]
          cases b1 with
          | false => simp
          | true => simpa using e2
        · cases hk
      · cases hk

theorem skT_agg : ∀ {d : Nat} {t : TypeId} {ks : List Sk}, skT P d t = some ks → ∃ agg, aggT P t = some agg ∧ (agg = false → ks.length = 1)
  | 0, t, ks, hk => by cases hk
  | d + 1, t, ks, hk => by
    unfold skT at hk
    unfold aggT
    split at hk
    · rename_i hu; injection hk with hk; subst hk; rw [hu]; exact ⟨false, rfl, fun _ => rfl⟩
    · rename_i hu; injection hk with hk; subst hk; rw [hu]; exact ⟨false, rfl, fun _ => rfl⟩
    · rename_i hu; injection hk with hk; subst hk; rw [hu]; exact ⟨false, rfl, fun _ => rfl⟩
    · rename_i hu; rw [hu]; exact ⟨true, rfl, fun e => by cases e⟩
    · cases hk

theorem equalIn_ok : ∀ (d D : Nat), d ≤ D → ∀ (t : TypeId) (ks : List Sk) (agg : Bool) (cx cy : Array Value) (xs ys : List V) (b : Bool), skT P d t = some ks → aggT P t = some agg → Cells K γ w h cx xs → Cells K γ w h cy ys → eqCells ks xs ys = some b →
    (Op.equalIn D t (ofArr agg cx) (ofArr agg cy)).run P w = .ok b w
  | 0, _, _, _, _, _, _, _, _, _, _, hk, _, _, _, _ => by cases hk
  | d + 1, D, hd, t, ks, agg, cx, cy, xs, ys, b, hk, ha, hx, hy, hq => by
    obtain ⟨D, rfl⟩ : ∃ m, D = m + 1 := ⟨D - 1, by omega⟩
    have scal : ∀ k, ks = [k] → agg = false → (match k with | .int => ∃ ik, P.underlying t = some (.int ik) | .bool => P.underlying t = some .bool | .str => P.underlying t = some .string) → (Op.equalIn (D + 1) t (ofArr agg cx) (ofArr agg cy)).run P w = .ok b w := by
      intro k hk1 hag hu
      subst hk1 hag
      obtain ⟨x, xs', y, ys', b1, b2, rfl, rfl, h1, h2, rfl⟩ := eqCells_cons hq
      obtain ⟨_, _, rfl⟩ := eqCells_nil h2
      obtain ⟨u, hu1, hv1⟩ := hx.2 0 x rfl
      obtain ⟨v, hu2, hv2⟩ := hy.2 0 y rfl
      have := eq_scalar (P := P) D t hu hv1 hv2 h1
      simp only [ofArr, Bool.false_eq_true, if_false, Array.getD_eq_getD_getElem?, hu1, hu2, Option.getD_some, Bool.and_true]
      exact this
    unfold skT at hk
    unfold aggT at ha
    split at hk
    · rename_i ik hu; injection hk with hk; rw [hu] at ha; injection ha with ha; exact scal .int hk.symm ha.symm ⟨ik, hu⟩
    · rename_i hu; injection hk with hk; rw [hu] at ha; injection ha with ha; exact scal .bool hk.symm ha.symm hu
    · rename_i hu; injection hk with hk; rw [hu] at ha; injection ha with ha; exact scal .str hk.symm ha.symm hu
    · rename_i fs hu
      rw [hu] at ha
      injection ha with ha
      subst ha
      split at hk
      · cases hk
      · rename_i hst
        have hst' : P.stoodInHeld t = false := by simpa using hst
        have hfo : P.fieldsOf t = fs := by simp [Program.fieldsOf, hu]
        simp only [ofArr, if_true]
        rw [run_equalIn_struct (P := P) w D t cx cy (by rw [hfo]; exact hu) hst', hfo]
        obtain ⟨l1, l2⟩ := eqCells_len hq
        have s1 := hx.1
        have s2 := hy.1
        exact eqFields_ok D (skT P d) (fun t ks agg cx cy xs ys b h1 h2 h3 h4 h5 => equalIn_ok d D (by omega) t ks agg cx cy xs ys b h1 h2 h3 h4 h5) (fun t ks h1 => skT_agg h1) fs.toList 0 ks xs ys b hk (by omega) (by omega)
          (fun i c hc => by simpa using hx.2 i c hc) (fun i c hc => by simpa using hy.2 i c hc) hq
    · cases hk

def eqsT (P : Program) (t : TypeId) (ks : List Sk) : Bool := (skT P 20 t).isSome && (match skT P 20 t with | some ks' => decide (ks'.length = ks.length) && (ks'.zip ks).all (fun p => match p with | (.int, .int) => true | (.bool, .bool) => true | (.str, .str) => true | _ => false) | none => false) && decide (aggT P t = some true) && !P.eqGuardType P.depth t

theorem sk_same : ∀ {xs ys : List Sk}, xs.length = ys.length → (xs.zip ys).all (fun p => match p with | (.int, .int) => true | (.bool, .bool) => true | (.str, .str) => true | _ => false) = true → xs = ys
  | [], [], _, _ => rfl
  | x :: xs, y :: ys, hl, ha => by
    simp only [List.zip_cons_cons, List.all_cons, Bool.and_eq_true] at ha
    rw [sk_same (by simpa using hl) ha.2]
    have h1 := ha.1
    cases x <;> cases y <;> first | rfl | cases h1
  | [], _ :: _, hl, _ => by cases hl
  | _ :: _, [], hl, _ => by cases hl

theorem ok_eqs (s : St K γ w h) (he : EnvOK K γ w h N a e) {t t' : TypeId} {x y : Operand} {x' y' : X} {neg : Bool} {ks : List Sk} (hx : chkX x x' = true) (hy : chkX y y' = true) (ht : eqsT P t ks = true)
    {v : V} {h' : Heap} (hev : evOp e h (.eqs neg ks x' y') = some (v, h')) : Ok1 P (.binOp (if neg then .neq else .eql) t x y t') o a K γ w h v h' := by
  have hxv := chkX_ok hx he
  have hyv := chkX_ok hy he
  simp only [evOp] at hev
  split at hev
  · rename_i xs ys hxe hye
    rw [hxe] at hxv
    rw [hye] at hyv
    obtain ⟨b, hb, rfl, rfl⟩ := map_pair (f := fun b : Bool => V.bool (if neg then !b else b)) hev
    obtain ⟨cx, hax, hcx⟩ := hxv.agg
    obtain ⟨cy, hay, hcy⟩ := hyv.agg
    simp only [eqsT, Bool.and_eq_true, decide_eq_true_eq, Bool.not_eq_true'] at ht
    obtain ⟨⟨⟨h1, h2⟩, h3⟩, h4⟩ := ht
    obtain ⟨ks', hks⟩ := Option.isSome_iff_exists.1 h1
    rw [hks] at h2
    simp only [Bool.and_eq_true, decide_eq_true_eq] at h2
    have := sk_same h2.1 h2.2
    subst this
    have heq := equalIn_ok (P := P) 20 10000 (by omega) t _ true cx cy xs ys b hks h3 hcx hcy hb
    simp only [ofArr, if_true] at heq
    have heq' : (Op.equal t (.agg cx) (.agg cy)).run P w = .ok b w := heq
    have hguard : ∀ op, (eqGuard op t x y (.agg cx) (.agg cy)).run P w = .ok () w := by
      intro op
      cases op
      case eql => simp [eqGuard, h4]
      case neq => simp [eqGuard, h4]
      all_goals rfl
    refine Ok1.pure s (v := .bool (if neg then !b else b)) ?_ rfl
    cases neg with
    | true =>
      have hb2 : (binOp .neq t (.agg cx) (.agg cy)).run P w = .ok (.bool (!b)) w := by
        show Sem.run P (Op.equal t (.agg cx) (.agg cy) >>= fun r => pure (Value.bool (!r))) w = _
        rw [Sem.run_bind, heq']
        rfl
      simp only [if_true, execOp, hax, hay, Sem.run_bind, hguard, Result.andThen_ok, hb2]
      rfl
    | false =>
      have hb2 : (binOp .eql t (.agg cx) (.agg cy)).run P w = .ok (.bool b) w := by
        show Sem.run P (Op.equal t (.agg cx) (.agg cy) >>= fun r => pure (Value.bool r)) w = _
        rw [Sem.run_bind, heq']
        rfl
      simp only [Bool.false_eq_true, if_false, execOp, hax, hay, Sem.run_bind, hguard, Result.andThen_ok, hb2]
      rfl
  · cases hev
end
end Go.Proofs.Ytfbjbkkcilhgjaa.PE
