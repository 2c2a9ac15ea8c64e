/- Each operation of the evaluator is the machine's: stores, closures, made rows. -/
import Derived.Test.YtfbjbkkcilhgjaaPeL
namespace Go.Proofs.Ytfbjbkkcilhgjaa.PE
open Go.RowKit

section
variable {P : Program} {o : Oper} {a : Act} {K : Ct} {γ γ' : Gh} {w : World} {h : Heap} {N : Nat} {e : Env}

theorem setRow_size (w : World) (g : Nat) (cs : Array Value) : (w.setRow g cs).heap.size = w.heap.size := by simp [World.setRow]
theorem below_setRow {B : Nat} {w0 w : World} {g : Nat} {cs : Array Value} (hb : Below B w0 w) (hg : B ≤ g) : Below B w0 (w.setRow g cs) :=
  hb.trans ⟨rfl, rfl, rfl, by rw [setRow_size]; exact Nat.le_refl _, fun k hk => setRow_other w g k cs (by omega)⟩

/-- The cells of a block, some of them written over. -/
def over (cur : Array Value) (at_ : Nat) (vs : List Value) : Array Value := (cur.toList.take at_ ++ vs ++ cur.toList.drop (at_ + vs.length)).toArray
theorem over_size {cur : Array Value} {at_ : Nat} {vs : List Value} (hl : at_ + vs.length ≤ cur.size) : (over cur at_ vs).size = cur.size := by
  simp [over]; omega
theorem over_get {cur : Array Value} {at_ : Nat} {vs : List Value} (hl : at_ + vs.length ≤ cur.size) (k : Nat) : (over cur at_ vs)[k]? = if at_ ≤ k ∧ k < at_ + vs.length then vs[k - at_]? else cur[k]? := by
  unfold over
  simp only [List.getElem?_toArray, List.append_assoc]
  by_cases h1 : k < at_
  · rw [List.getElem?_append_left (by simp; omega), List.getElem?_take_of_lt h1, if_neg (by omega)]
    simp
  · rw [List.getElem?_append_right (by simp; omega)]
    simp only [List.length_take, Array.length_toList]
    have hm : min at_ cur.size = at_ := by omega
    rw [hm]
    by_cases h2 : k < at_ + vs.length
    · rw [List.getElem?_append_left (by omega), if_pos (by omega)]
    · rw [List.getElem?_append_right (by omega), List.getElem?_drop, if_neg (by omega), Array.getElem?_toList]
      congr 1
      omega

theorem run_store_ok {t : TypeId} {sz g o' : Nat} {cur : Array Value} {et : TypeId} {v : Value} (hs : szT P t = some sz) (hv : v.cells.size = sz) (h1 : ∀ u ∈ v.cells.toList, u.oneCell' = true) (hg : w.heap[g]? = some (.cells cur et (0, 0))) (hl : o' + sz ≤ cur.size) :
    (storeVar t ⟨g, o', none⟩ v).run P w = .ok () (w.setRow g (over cur o' v.cells.toList)) := by
  have := run_storeCells_at P g o' et v.cells.toList 0 cur w hg (by simp; omega) h1
  simp only [Nat.add_zero] at this
  simp only [storeVar, Sem.run_bind, run_sz hs, Result.andThen_ok]
  rw [if_neg (by simp [hv])]
  exact this

theorem ok_store (s : St K γ w h) (he : EnvOK K γ w h N a e) {t : TypeId} {p x : Operand} {p' x' : X} {sz : Nat} (hcp : chkX p p' = true) (hcx : chkX x x' = true) (hs : szT P t = some sz)
    {v : V} {h' : Heap} (hev : evOp e h (.store sz p' x') = some (v, h')) : Ok1 P (.store t p x) o a K γ w h v h' := by
  have hp := chkX_ok hcp he
  have hx := chkX_ok hcx he
  simp only [evOp] at hev
  split at hev
  · rename_i id st el off ys hpe hys
    rw [hpe] at hp
    obtain ⟨ad, hap, hpok⟩ := hp.ptr
    split at hev
    · rename_i hyl
      obtain ⟨hcl, hcc⟩ := cells_ok hx hys
      have hone : ∀ u ∈ (a.eval x).cells.toList, u.oneCell' = true := by
        intro u hu
        obtain ⟨j, hj⟩ := List.getElem?_of_mem hu
        have hjl : j < ys.length := by
          have := (List.getElem?_eq_some_iff.1 hj).1
          simp at this
          omega
        obtain ⟨u', hu', hv'⟩ := hcc j _ (List.getElem?_eq_getElem hjl)
        rw [Array.getElem?_toList] at hj
        rw [hj] at hu'
        injection hu' with hu'
        subst hu'
        exact hv'.one
      have hsz : (a.eval x).cells.size = sz := by omega
      have fin : ∀ {g o' : Nat} {cur : Array Value} {γ' : Gh} {h' : Heap}, ad = ⟨g, o', none⟩ → IsBlk w g cur → o' + sz ≤ cur.size → Go2 K γ w h γ' (w.setRow g (over cur o' (a.eval x).cells.toList)) h' → Ok1 P (.store t p x) o a K γ w h .undef h' := by
        intro g o' cur γ' h' had ⟨et, hblk⟩ hfit hgo
        refine ⟨undef, _, γ', .inr ⟨?_, rfl⟩, hgo, trivial⟩
        simp only [execOp, Instr.storeAt, hap, Instr.sureAddr, had, Sem.run_bind, Sem.run_pure, Result.andThen_ok, run_store_ok hs hsz hone hblk hfit]
      split at hev
      · rename_i st' sz' cont hb
        split at hev
        · rename_i hst
          split at hev
          · rename_i cs ys' hcs hpy
            split at hev
            · rename_i cs' hput hnot
              injection hev with hev
              injection hev with e1 e2
              subst e1 e2
              have hni : id ∉ refs ys := by
                intro hm
                have : (refs ys).contains id = true := by simpa using hm
                rw [this] at hnot
                cases hnot
              obtain ⟨γ1, g1, gs1, _⟩ := st_frzs (refs ys) s
              have hb1 : (frzs h (refs ys))[id]? = some (.rows st' sz' cont) := by rw [frzs_other _ _ _ hni]; exact hb
              have hp1 : VT K γ1 w (frzs h (refs ys)) (.pointer (some ad)) (.ptr id st el off) := g1.pres _ _ ⟨ad, rfl, hpok⟩
              obtain ⟨ad', had', hpok1⟩ := hp1.ptr
              injection had' with had'
              injection had' with had'
              subst had'
              obtain ⟨g, o', cur, x0, k1, k2, k3, k4, k5, k6, k7, k8, k8', k9⟩ := ptr_rows g1.st hpok1 hb1 hst
              rw [hcs] at k6
              injection k6 with k6
              subst k6
              obtain ⟨q1, q2, q3⟩ := put_get hput
              obtain ⟨r1, r2⟩ := pures_spec hpy
              have hel : el < cont.length := (List.getElem?_eq_some_iff.1 hcs).1
              have hfit : o' + el * sz' + off + sz ≤ cur.size := by
                have : (el + 1) * sz' ≤ cont.length * sz' := Nat.mul_le_mul_right _ hel
                rw [Nat.add_mul] at this
                omega
              have hvl : (a.eval x).cells.toList.length = sz := by simpa using hsz
              obtain ⟨et, hblk⟩ := k3
              have hblk' : (w.setRow g (over cur (o' + el * sz' + off) (a.eval x).cells.toList)).heap[g]? = some (.cells (over cur (o' + el * sz' + off) (a.eval x).cells.toList) et (0, 0)) := setRow_heap w g cur _ et _ hblk
              have hov : (over cur (o' + el * sz' + off) (a.eval x).cells.toList).size = cur.size := over_size (by omega)
              have hoth : ∀ k, k < w.heap.size → (∀ o1, γ1 id ≠ some (k, o1)) → (w.setRow g (over cur (o' + el * sz' + off) (a.eval x).cells.toList)).heap[k]? = w.heap[k]? :=
                fun k _ hk => setRow_other w g k _ (fun e => hk o' (e ▸ k1))
              have hpp : ∀ g1 o1, γ1 id = some (g1, o1) → (∃ o2, γ1 id = some (g1, o2)) ∨ w.heap.size ≤ g1 := fun g1 o1 e => .inl ⟨o1, e⟩
              have him := im_upd (K := K) (id := id) (γ1 id) (w := w) (w' := w.setRow g (over cur (o' + el * sz' + off) (a.eval x).cells.toList)) (by rw [setRow_size]; exact Nat.le_refl _) hoth hpp
              have hself : upd γ1 id (γ1 id) = γ1 := by funext i; unfold upd; split <;> simp_all
              have := st_upd g1.st hb1 (b' := .rows st' sz' (cont.set el cs')) (γ1 id) (w' := w.setRow g (over cur (o' + el * sz' + off) (a.eval x).cells.toList)) (below_setRow g1.st.below k4) (by rw [setRow_size]; exact Nat.le_refl _) hoth hpp
                ⟨Nat.le_refl _, fun _ => ⟨rfl, by simp, upd_self _ _ _, fun g2 o2 cs2 hg2 hb2 => by
                  rw [k1] at hg2
                  injection hg2 with hg2
                  injection hg2 with e3 _
                  subst e3
                  have := hb2.unique ⟨et, hblk⟩
                  subst this
                  exact ⟨_, ⟨et, hblk'⟩, hov⟩⟩⟩
                (fun tr => by
                  refine ⟨k8, fun z hz => ?_, ?_⟩
                  · rcases List.mem_or_eq_of_mem_set hz with hz | rfl
                    · exact k8' z hz
                    · omega
                  · have hu1 : upd γ1 id (γ1 id) id = some (g, o') := (upd_self _ _ _).trans k1
                    rw [hu1]
                    refine ⟨k4, _, ⟨et, hblk'⟩, by rw [hov]; simpa using k5, fun j c z y hz hy => ?_⟩
                    rw [over_get (by omega), hvl]
                    by_cases hje : j = el
                    · subst hje
                      rw [List.getElem?_set_self hel] at hz
                      injection hz with hz
                      subst hz
                      rw [q3] at hy
                      by_cases hin : off ≤ c ∧ c < off + ys'.length
                      · rw [if_pos hin] at hy
                        rw [if_pos (by omega)]
                        obtain ⟨d, hd, hpd⟩ := r2 _ y hy
                        obtain ⟨u, hu, hvu⟩ := hcc _ d hd
                        have hr := pureC_ok g1 hvu hpd (fun id' hid' => refs_mem hd id' hid')
                        refine ⟨u, ?_, tr.rep hr⟩
                        rw [Array.getElem?_toList, show o' + j * sz' + c - (o' + j * sz' + off) = c - off by omega]
                        exact hu
                      · rw [if_neg hin] at hy
                        rw [if_neg (by omega)]
                        obtain ⟨u, hu, hr⟩ := k9 j c cs y hcs hy
                        exact ⟨u, hu, tr.rep hr⟩
                    · rw [List.getElem?_set_ne (Ne.symm hje)] at hz
                      obtain ⟨u, hu, hr⟩ := k9 j c z y hz hy
                      refine ⟨u, ?_, tr.rep hr⟩
                      have hcz : c < sz' := by
                        have h1 := (List.getElem?_eq_some_iff.1 hy).1
                        have h2 := k8' z (List.mem_of_getElem? hz)
                        omega
                      rw [if_neg]
                      · exact hu
                      · intro ⟨hi1, hi2⟩
                        rcases Nat.lt_or_gt_of_ne hje with hlt | hgt
                        · have : (j + 1) * sz' ≤ el * sz' := Nat.mul_le_mul_right _ hlt
                          rw [Nat.add_mul] at this
                          omega
                        · have : (el + 1) * sz' ≤ j * sz' := Nat.mul_le_mul_right _ hgt
                          rw [Nat.add_mul] at this
                          omega)
              rw [hself] at this
              exact fin k2 ⟨et, hblk⟩ hfit (g1.trans (Go2.of this))
            · cases hev
          · cases hev
        · cases hev
      · rename_i cells hb
        split at hev
        · rename_i cs' hput
          injection hev with hev
          injection hev with e1 e2
          subst e1 e2
          obtain ⟨g, cur, k1, k2, k3, k4, k5, k6⟩ := ptr_box s hpok hb
          obtain ⟨q1, q2, q3⟩ := put_get hput
          have hfit : off + sz ≤ cur.size := by omega
          have hvl : (a.eval x).cells.toList.length = sz := by simpa using hsz
          obtain ⟨et, hblk⟩ := k3
          have hblk' : (w.setRow g (over cur off (a.eval x).cells.toList)).heap[g]? = some (.cells (over cur off (a.eval x).cells.toList) et (0, 0)) := setRow_heap w g cur _ et _ hblk
          have hov : (over cur off (a.eval x).cells.toList).size = cur.size := over_size (by omega)
          have hoth : ∀ k, k < w.heap.size → (∀ o1, γ id ≠ some (k, o1)) → (w.setRow g (over cur off (a.eval x).cells.toList)).heap[k]? = w.heap[k]? :=
            fun k _ hk => setRow_other w g k _ (fun e => hk 0 (e ▸ k1))
          have hpp : ∀ g1 o1, γ id = some (g1, o1) → (∃ o2, γ id = some (g1, o2)) ∨ w.heap.size ≤ g1 := fun g1 o1 e => .inl ⟨o1, e⟩
          have hself : upd γ id (γ id) = γ := by funext i; unfold upd; split <;> simp_all
          have := st_upd s hb (b' := .box cs') (γ id) (w' := w.setRow g (over cur off (a.eval x).cells.toList)) (below_setRow s.below k4) (by rw [setRow_size]; exact Nat.le_refl _) hoth hpp
            (upd_self _ _ _)
            (fun tr => by
              refine ⟨g, _, (upd_self _ _ _).trans k1, k4, ⟨et, hblk'⟩, by omega, fun c y hy => ?_⟩
              rw [over_get (by omega), hvl]
              rw [q3] at hy
              by_cases hin : off ≤ c ∧ c < off + ys.length
              · rw [if_pos hin] at hy
                rw [if_pos (by omega)]
                obtain ⟨u, hu, hvu⟩ := hcc _ y hy
                exact ⟨u, by rw [Array.getElem?_toList]; exact hu, tr.vc hvu⟩
              · rw [if_neg hin] at hy
                rw [if_neg (by omega)]
                obtain ⟨u, hu, hvu⟩ := k6 c y hy
                exact ⟨u, hu, tr.vc hvu⟩)
          rw [hself] at this
          exact fin k2 ⟨et, hblk⟩ hfit (Go2.of this)
        · cases hev
      · rename_i st' sz' cont hb
        split at hev
        · rename_i hst
          split at hev
          · rename_i cs hcs
            split at hev
            · rename_i cs' hput hokn
              injection hev with hev
              injection hev with e1 e2
              subst e1 e2
              obtain ⟨g, o', cur, x0, k1, k2, k3, k4, k5, k6, k7, k8, k8', k9⟩ := ptr_nest s hpok hb hst
              rw [hcs] at k6
              injection k6 with k6
              subst k6
              obtain ⟨q1, q2, q3⟩ := put_get hput
              have hel : el < cont.length := (List.getElem?_eq_some_iff.1 hcs).1
              have hfit : o' + el * sz' + off + sz ≤ cur.size := by
                have : (el + 1) * sz' ≤ cont.length * sz' := Nat.mul_le_mul_right _ hel
                rw [Nat.add_mul] at this
                omega
              have hvl : (a.eval x).cells.toList.length = sz := by simpa using hsz
              obtain ⟨et, hblk⟩ := k3
              have hblk' : (w.setRow g (over cur (o' + el * sz' + off) (a.eval x).cells.toList)).heap[g]? = some (.cells (over cur (o' + el * sz' + off) (a.eval x).cells.toList) et (0, 0)) := setRow_heap w g cur _ et _ hblk
              have hov : (over cur (o' + el * sz' + off) (a.eval x).cells.toList).size = cur.size := over_size (by omega)
              have hoth : ∀ k, k < w.heap.size → (∀ o1, γ id ≠ some (k, o1)) → (w.setRow g (over cur (o' + el * sz' + off) (a.eval x).cells.toList)).heap[k]? = w.heap[k]? :=
                fun k _ hk => setRow_other w g k _ (fun e => hk o' (e ▸ k1))
              have hpp : ∀ g1 o1, γ id = some (g1, o1) → (∃ o2, γ id = some (g1, o2)) ∨ w.heap.size ≤ g1 := fun g1 o1 e => .inl ⟨o1, e⟩
              have hself : upd γ id (γ id) = γ := by funext i; unfold upd; split <;> simp_all
              have := st_upd s hb (b' := .nest st' sz' (cont.set el cs')) (γ id) (w' := w.setRow g (over cur (o' + el * sz' + off) (a.eval x).cells.toList)) (below_setRow s.below k4) (by rw [setRow_size]; exact Nat.le_refl _) hoth hpp
                ⟨Nat.le_refl _, fun _ => ⟨rfl, by simp, upd_self _ _ _, fun g2 o2 cs2 hg2 hb2 => by
                  rw [k1] at hg2
                  injection hg2 with hg2
                  injection hg2 with e3 _
                  subst e3
                  have := hb2.unique ⟨et, hblk⟩
                  subst this
                  exact ⟨_, ⟨et, hblk'⟩, hov⟩⟩⟩
                (fun tr => by
                  refine ⟨k8, fun z hz => ?_, ?_⟩
                  · rcases List.mem_or_eq_of_mem_set hz with hz | rfl
                    · exact k8' z hz
                    · omega
                  · have hu1 : upd γ id (γ id) id = some (g, o') := (upd_self _ _ _).trans k1
                    rw [hu1]
                    refine ⟨k4, _, ⟨et, hblk'⟩, by rw [hov]; simpa using k5, fun j c z y hz hy => ?_⟩
                    rw [over_get (by omega), hvl]
                    by_cases hje : j = el
                    · subst hje
                      rw [List.getElem?_set_self hel] at hz
                      injection hz with hz
                      subst hz
                      rw [q3] at hy
                      by_cases hin : off ≤ c ∧ c < off + ys.length
                      · rw [if_pos hin] at hy
                        rw [if_pos (by omega)]
                        obtain ⟨u, hu, hvu⟩ := hcc _ y hy
                        refine ⟨u, ?_, vr_of_vc (List.all_eq_true.1 hokn y (List.mem_of_getElem? hy)) (tr.vc hvu)⟩
                        rw [Array.getElem?_toList, show o' + j * sz' + c - (o' + j * sz' + off) = c - off by omega]
                        exact hu
                      · rw [if_neg hin] at hy
                        rw [if_neg (by omega)]
                        obtain ⟨u, hu, hr⟩ := k9 j c cs y hcs hy
                        exact ⟨u, hu, tr.vr hr⟩
                    · rw [List.getElem?_set_ne (Ne.symm hje)] at hz
                      obtain ⟨u, hu, hr⟩ := k9 j c z y hz hy
                      refine ⟨u, ?_, tr.vr hr⟩
                      have hcz : c < sz' := by
                        have h1 := (List.getElem?_eq_some_iff.1 hy).1
                        have h2 := k8' z (List.mem_of_getElem? hz)
                        omega
                      rw [if_neg]
                      · exact hu
                      · intro ⟨hi1, hi2⟩
                        rcases Nat.lt_or_gt_of_ne hje with hlt | hgt
                        · have : (j + 1) * sz' ≤ el * sz' := Nat.mul_le_mul_right _ hlt
                          rw [Nat.add_mul] at this
                          omega
                        · have : (el + 1) * sz' ≤ j * sz' := Nat.mul_le_mul_right _ hgt
                          rw [Nat.add_mul] at this
                          omega)
              rw [hself] at this
              exact fin k2 ⟨et, hblk⟩ hfit (Go2.of this)
            · cases hev
          · cases hev
        · cases hev
      · cases hev
    · cases hev
  · cases hev

theorem vc0_of_hi {n : Nat} {v : Value} {x : V} (hv : VT K γ w h v x) (hx : hi0 n x = true) : VC0 K γ w h v x := by
  cases x with
  | clo f cs => cases hx
  | agg cs => cases hx
  | tup cs => cases hx
  | undef => cases hx
  | _ => exact hv

theorem ok_mkclo (s : St K γ w h) (he : EnvOK K γ w h N a e) {f : Nat} {first caps : Array Operand} {caps' : List X} (hfirst : first.size = 0) (hc : chkXs caps.toList caps' = true)
    {v : V} {h' : Heap} (hev : evOp e h (.mkclo f caps') = some (v, h')) : Ok1 P (.makeFunc (.func f) first caps) o a K γ w h v h' := by
  simp only [evOp] at hev
  split at hev
  · rename_i hall
    injection hev with hev
    injection hev with e1 e2
    subst e1 e2
    obtain ⟨h1, h2⟩ := chkXs_ok he hc
    have hf0 : first = #[] := Array.eq_empty_of_size_eq_zero hfirst
    subst hf0
    refine Ok1.pure s (v := .func (.func f) #[] (caps.map a.eval)) (by simp [execOp, Instr.makeFunc]) ?_
    refine (show VC K γ w h _ _ from ⟨caps.map a.eval, rfl, by simpa using h1, fun i c hc => ?_⟩ : VC K γ w h (.func (.func f) #[] (caps.map a.eval)) (.clo f (caps'.map (X.ev e)))).va.vt
    rw [List.getElem?_map, Option.map_eq_some_iff] at hc
    obtain ⟨y, hy, rfl⟩ := hc
    obtain ⟨x, hx, hv⟩ := h2 i y hy
    refine ⟨a.eval x, ?_, vc0_of_hi hv (List.all_eq_true.1 hall _ (List.mem_map.2 ⟨y, List.mem_of_getElem? hy, rfl⟩))⟩
    rw [Array.getElem?_toList] at hx
    simp [hx]
  · cases hev

theorem wrap_small {n : Int} (h0 : 0 ≤ n) (h1 : n < 4294967296) : IntKind.i64.wrap n = n := by
  have e1 : (2 : Int) ^ IntKind.i64.bits = 18446744073709551616 := rfl
  have e2 : (2 : Int) ^ (IntKind.i64.bits - 1) = 9223372036854775808 := rfl
  unfold IntKind.wrap
  simp only [e1, e2]
  have hm : n % 18446744073709551616 = n := Int.emod_eq_of_lt h0 (by omega)
  rw [hm, if_neg]
  simp only [Bool.and_eq_true, decide_eq_true_eq, not_and]
  intro _
  omega

/-- The cells of a made row. -/
theorem made_get {z : Array Value} {n sz : Nat} (hz : z.size = sz) {j c : Nat} (hj : j < n) (hc : c < sz) : ((Array.range (n * sz)).map (z[· % z.size]!))[j * sz + c]? = z[c]? := by
  have hlt : j * sz + c < n * sz := by
    have : (j + 1) * sz ≤ n * sz := Nat.mul_le_mul_right _ hj
    rw [Nat.add_mul] at this
    omega
  have hm : (j * sz + c) % z.size = c := by rw [hz, Nat.mul_comm, Nat.mul_add_mod, Nat.mod_eq_of_lt hc]
  have hcz : c < z.size := by omega
  rw [Array.getElem?_map, Array.getElem?_range, if_pos hlt]
  simp only [Option.map_some, hm]
  rw [getElem!_pos z c hcz, getElem?_pos z c hcz]

theorem ok_mk (s : St K γ w h) (he : EnvOK K γ w h N a e) {t e' : TypeId} {l c : Operand} {n' : X} {sz : Nat} {zero : List V} (hl : chkX l n' = true) (hc : chkX c n' = true) (ht : sliceT P t = some e') (hsz : szT P e' = some sz) (hpos : 0 < sz) (hzero : zeroIs P e' zero = true) (hsm : smallT P e' = true)
    (hpure : ∀ u ∈ zero, ∃ u', pureC [] u = some u' ∧ u' = u)
    {v : V} {h' : Heap} (hev : evOp e h (.mk sz zero n') = some (v, h')) : Ok1 P (.makeSlice t l c) o a K γ w h v h' := by
  have hlv := chkX_ok hl he
  have hcv := chkX_ok hc he
  simp only [evOp] at hev
  split at hev
  · rename_i m hm
    rw [hm] at hlv hcv
    split at hev
    · rename_i hcond
      obtain ⟨h0, h1, h2⟩ := hcond
      injection hev with hev
      injection hev with e1 e2
      subst e1 e2
      obtain ⟨n, rfl⟩ := Int.eq_ofNat_of_zero_le h0
      simp only [Int.toNat_natCast]
      have hn : n < 4294967296 := by unfold small at h1; omega
      unfold zeroIs at hzero
      split at hzero
      · rename_i z hzt
        simp only [Bool.and_eq_true, decide_eq_true_eq] at hzero
        obtain ⟨c1, c2⟩ := constCs_ok (K := K) (γ := γ) (w := w) (h := h) hzero.1
        have hzs : z.cells.size = sz := by simp at c1; omega
        obtain ⟨ie, hie, hby⟩ : ∃ i, P.info? e' = some i ∧ i.bytes ≤ 1024 := by
          unfold smallT at hsm
          split at hsm
          · rename_i i hi; exact ⟨i, hi, by simpa using hsm⟩
          · cases hsm
        have hies : ie.size = sz := by
          unfold szT at hsz
          rw [hie] at hsz
          exact Option.some.inj hsz
        have hiz : ie.zero = some z := by
          unfold zeroT at hzt
          rw [hie] at hzt
          exact hzt
        have hbn : (ie.bytes : Int) * (n : Int) ≤ 281474976710656 := by
          have h5 : (ie.bytes : Int) * (n : Int) ≤ 1024 * (n : Int) := Int.mul_le_mul_of_nonneg_right (by omega) (by omega)
          omega
        have hrun := run_make (P := P) w t e' ie z (of_sliceT ht) hie hiz .i64 .i64 n n (by omega) (Int.le_refl _) hbn (by omega)
        simp only [Int.toNat_natCast, hies] at hrun
        have hb : Below w.heap.size w (w.alloc (.cells (madeCells z.cells (n * sz)) e')) := (Below.refl _ _).alloc (Nat.le_refl _) _
        have hms : (madeCells z.cells (n * sz)).size = n * sz := by simp [madeCells]
        have hnew := row_new s hb (heap_alloc_new w _) hpos (xs := List.replicate n zero) (fun x hx => by rw [List.eq_of_mem_replicate hx]; exact h2) (by rw [List.length_replicate, hms]; exact Nat.le_refl _) (fun j c x y hx hy => by
          have hj : j < n := by
            have := (List.getElem?_eq_some_iff.1 hx).1
            simpa using this
          have hx0 : x = zero := by
            rw [List.getElem?_replicate, if_pos hj] at hx
            exact (Option.some.inj hx).symm
          subst hx0
          have hcl : c < sz := by
            have := (List.getElem?_eq_some_iff.1 hy).1
            omega
          obtain ⟨u, hu, hv⟩ := c2 c y hy
          refine ⟨u, ?_, ?_⟩
          · rw [show madeCells z.cells (n * sz) = (Array.range (n * sz)).map (z.cells[· % z.cells.size]!) from rfl, made_get hzs hj hcl]
            simpa using hu
          · obtain ⟨u', hu', e3⟩ := hpure y (List.mem_of_getElem? hy)
            subst e3
            cases u' with
            | int k m => rw [show u = _ from hv]; exact .int k m
            | bool b => rw [show u = _ from hv]; exact .bool b
            | str b => rw [show u = _ from hv]; exact .str b
            | sl cl sz2 xs => exact hv
            | _ => simp [pureC] at hu') (cap := n) (by simp) (by rw [hms]; exact Nat.le_refl _)
        obtain ⟨γ', g2, hv⟩ := hnew.2 true (fun _ => by simp)
        rw [List.length_replicate] at hv
        refine ⟨_, _, γ', .inl ?_, g2, hv⟩
        simp only [execOp, hlv.int, hcv.int, Sem.run_bind, hrun, Result.andThen_ok]
        rfl
      · cases hzero
    · cases hev
  · cases hev
end
end Go.Proofs.Ytfbjbkkcilhgjaa.PE
