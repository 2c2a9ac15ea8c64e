/- Each operation of the evaluator is the machine's: what is written no more, slices cut, made rows, closures, the greater of numbers. -/
import Derived.Test.YtfbjbkkcilhgjaaPeH
namespace Go.Proofs.Ytfbjbkkcilhgjaa.PE
open Go.RowKit

/-! ### cells that become pure -/
theorem frzs_frz : ∀ (ids : List Nat) (h : Heap) (id st sz : Nat) (cont : List (List V)), h[id]? = some (.frz st sz cont) → (frzs h ids)[id]? = some (.frz st sz cont)
  | [], _, _, _, _, _, hb => hb
  | i :: r, h, id, st, sz, cont, hb => by
    rw [frzs]
    apply frzs_frz r
    by_cases e : id = i
    · subst e
      simp only [frz1, hb]
    · rw [frz1_other _ _ _ e]
      exact hb
theorem frzs_rows : ∀ (ids : List Nat) (h : Heap) (id st sz : Nat) (cont : List (List V)), h[id]? = some (.rows st sz cont) → id ∈ ids → (frzs h ids)[id]? = some (.frz st sz cont)
  | [], _, _, _, _, _, _, hm => by cases hm
  | i :: r, h, id, st, sz, cont, hb, hm => by
    rw [frzs]
    by_cases e : id = i
    · subst e
      apply frzs_frz r
      have hlt : id < h.length := (List.getElem?_eq_some_iff.1 hb).1
      simp only [frz1, hb, List.getElem?_set_self hlt]
    · apply frzs_rows r
      · rw [frz1_other _ _ _ e]
        exact hb
      · rcases List.mem_cons.1 hm with hm | hm
        · exact absurd hm e
        · exact hm

section
variable {P : Program} {o : Oper} {a : Act} {K : Ct} {γ γ' : Gh} {w : World} {h : Heap} {N : Nat} {e : Env}

/-- A cell made pure, behind the freezing of what it leads to. -/
theorem pureC_ok {ids : List Nat} (g : Go2 K γ w h γ' w (frzs h ids)) {u : Value} {c c' : V} (hv : VC K γ w h u c) (hc : pureC h c = some c') (hm : ∀ id ∈ refC c, id ∈ ids) : Rep w (Im K γ' w) u c' := by
  cases c with
  | int k n => simp [pureC] at hc; subst hc; rw [show u = _ from hv]; exact .int k n
  | bool b => simp [pureC] at hc; subst hc; rw [show u = _ from hv]; exact .bool b
  | str b => simp [pureC] at hc; subst hc; rw [show u = _ from hv]; exact .str b
  | sl c sz xs => simp [pureC] at hc; subst hc; exact g.rep hv
  | ref id st off len clip =>
    have hv' : VT K γ' w (frzs h ids) u (.ref id st off len clip) := g.pres _ _ hv.va.vt
    obtain ⟨A, cap, rfl, h1, h2, hp⟩ := hv'.ref
    simp only [pureC] at hc
    split at hc
    · rename_i st' sz cont hb
      split at hc
      · rename_i e1
        subst e1
        injection hc with hc
        subst hc
        rw [frzs_rows ids h id _ _ _ hb (hm id (by simp [refC]))] at hp
        exact (hp.2.2 rfl).2
      · cases hc
    · rename_i st' sz cont hb
      split at hc
      · rename_i e1
        subst e1
        injection hc with hc
        subst hc
        rw [frzs_frz ids h id _ _ _ hb] at hp
        exact (hp.2.2 rfl).2
      · cases hc
    · cases hc
  | ptr id st el off => simp [pureC] at hc
  | nsl sz xs => simp [pureC] at hc
  | fp cs => simp [pureC] at hc
  | clo f cs => simp [pureC] at hc
  | undef => simp [pureC] at hc
  | agg cs => simp [pureC] at hc
  | tup cs => simp [pureC] at hc

theorem pures_spec : ∀ {cs cs' : List V}, pures h cs = some cs' → cs'.length = cs.length ∧ ∀ (i : Nat) (c' : V), cs'[i]? = some c' → ∃ c, cs[i]? = some c ∧ pureC h c = some c'
  | [], cs', hp => by simp [pures] at hp; subst hp; exact ⟨rfl, fun i c hc => by simp at hc⟩
  | c :: cs, cs', hp => by
    unfold pures at hp
    split at hp
    · rename_i d ds h1 h2
      injection hp with hp
      subst hp
      obtain ⟨h3, h4⟩ := pures_spec h2
      refine ⟨by simp [h3], fun i x hx => ?_⟩
      cases i with
      | zero => simp at hx; subst hx; exact ⟨c, rfl, h1⟩
      | succ i => simp at hx; simpa using h4 i x hx
    · cases hp
theorem refs_mem : ∀ {cs : List V} {i : Nat} {c : V}, cs[i]? = some c → ∀ id ∈ refC c, id ∈ refs cs
  | d :: ds, 0, c, hc, id, hid => by simp at hc; subst hc; exact List.mem_append_left _ hid
  | d :: ds, i + 1, c, hc, id, hid => by simp at hc; exact List.mem_append_right _ (refs_mem hc id hid)
  | [], i, c, hc, id, hid => by simp at hc

/-! ### slices cut -/
theorem rep_cut {im : Nat → Prop} {A : Option Addr} {n cap : Nat} {clip clip' : Bool} {sz : Nat} {xs : List (List V)} (hr : Rep w im (.slice A n cap) (.sl clip sz xs)) {l r m : Nat} (h1 : l ≤ r) (h2 : r ≤ n) (h3 : r ≤ m) (hcl : clip' = true → m = r) :
    Rep w im (.slice (if m = l then A else A.map (·.add (l * sz))) (r - l) (m - l)) (.sl clip' sz ((xs.drop l).take (r - l))) := by
  cases hr with
  | sl _ _ _ _ _ _ us e1 e2 e3 e4 e5 e6 e7 =>
    have hll : ((xs.drop l).take (r - l)).length = r - l := by simp; omega
    have hget : ∀ j x, ((xs.drop l).take (r - l))[j]? = some x → j < r - l ∧ xs[l + j]? = some x := by
      intro j x hx
      have hj : j < r - l := by
        have := (List.getElem?_eq_some_iff.1 hx).1
        omega
      rw [List.getElem?_take_of_lt hj, List.getElem?_drop] at hx
      exact ⟨hj, hx⟩
    refine .sl _ _ _ clip' _ sz (fun j c => us (l + j) c) hll (by omega) (fun hc => by have := hcl hc; omega) e4 (fun x hx => e5 x (List.mem_of_mem_drop (List.mem_of_mem_take hx))) (fun hn => ?_) (fun j c x y hx hy => e7 (l + j) c x y (hget j x hx).2 hy)
    obtain ⟨g, o', rfl, hg, hc⟩ := e6 (by omega)
    refine ⟨g, o' + l * sz, ?_, hg, fun j c x y hx hy => ?_⟩
    · rw [if_neg (by omega)]
      simp [add0]
    · have := hc (l + j) c x y (hget j x hx).2 hy
      rw [← this]
      congr 2
      rw [Nat.add_mul]
      omega

theorem run_sliceBound {v : Value} {k : IntKind} {i : Int} {y : Nat} (c : BoundsCode) (hv : v = .int k i) (h0 : 0 ≤ i) (h1 : i ≤ y) : (Instr.sliceBound v y c).run P w = .ok i.toNat w := by
  subst hv
  simp [Instr.sliceBound, asIntOf, h0, h1]

theorem run_sliceBounds {isSlice : Bool} {len cap : Nat} {lo hi mx : Option Value} {l r m : Nat}
    (hl : match lo with | none => l = 0 | some v => ∃ k, v = .int k (l : Int)) (hh : match hi with | none => r = len | some v => ∃ k, v = .int k (r : Int)) (hm : match mx with | none => m = cap | some v => ∃ k, v = .int k (m : Int))
    (hx : mx.isSome = true → hi.isSome = true) (h1 : l ≤ r) (h2 : r ≤ m) (h3 : m ≤ cap) : (Instr.sliceBounds isSlice len cap lo hi mx).run P w = .ok (l, r, m) w := by
  have pl : ∀ c, (match lo with | some v => (do let l ← Instr.sliceBound v r c; pure (l, r, m)) | none => (do let l ← (pure 0 : Sem Nat); pure (l, r, m)) : Sem (Nat × Nat × Nat)).run P w = .ok (l, r, m) w := by
    intro c
    cases lo with
    | none => simp at hl; subst hl; rfl
    | some v =>
      obtain ⟨k, hv⟩ := hl
      have := run_sliceBound (P := P) (w := w) (y := r) c hv (by omega) (by omega)
      simp only [Int.toNat_natCast] at this
      simp only [Sem.run_bind, this, Result.andThen_ok, Sem.run_pure]
  unfold Instr.sliceBounds
  cases mx with
  | none =>
    simp at hm
    subst hm
    cases hi with
    | none =>
      simp at hh
      subst hh
      simp only [Sem.run_bind, Sem.run_pure, Result.andThen_ok]; exact pl _
    | some v =>
      obtain ⟨k, hv⟩ := hh
      have hb := fun c => run_sliceBound (P := P) (w := w) (y := m) c hv (by omega) (by omega)
      simp only [Int.toNat_natCast] at hb
      simp only [Sem.run_bind, Sem.run_pure, Result.andThen_ok, hb]; exact pl _
  | some vm =>
    obtain ⟨km, hvm⟩ := hm
    have hbm := fun c => run_sliceBound (P := P) (w := w) (y := cap) c hvm (by omega) (by omega)
    simp only [Int.toNat_natCast] at hbm
    cases hi with
    | none => simp at hx
    | some v =>
      obtain ⟨k, hv⟩ := hh
      have hb := fun c => run_sliceBound (P := P) (w := w) (y := m) c hv (by omega) (by omega)
      simp only [Int.toNat_natCast] at hb
      simp only [Sem.run_bind, Result.andThen_ok, hb, hbm]; exact pl _

def chkO : Option Operand → Option X → Bool
  | none, none => true
  | some x, some y => chkX x y
  | _, _ => false

theorem chkO_lo (he : EnvOK K γ w h N a e) {x : Option Operand} {y : Option X} (hc : chkO x y = true) {l : Int} (hl : loInt e y = some l) (h0 : 0 ≤ l) :
    match x.map a.eval with | none => l.toNat = 0 | some v => ∃ k, v = .int k (l.toNat : Int) := by
  unfold chkO at hc
  split at hc
  · injection hl with hl; subst hl; rfl
  · obtain ⟨k, hk⟩ := asInt_spec (chkX_ok hc he) hl
    refine ⟨k, ?_⟩
    rw [Int.toNat_of_nonneg h0]
    exact hk
  · cases hc

theorem chkO_hi (he : EnvOK K γ w h N a e) {x : Option Operand} {y : Option X} (hc : chkO x y = true) {l : Option Int} (hl : hiInt e y = some l) {d : Nat} (h0 : 0 ≤ l.getD d) :
    (match x.map a.eval with | none => (l.getD d).toNat = d | some v => ∃ k, v = .int k ((l.getD d).toNat : Int)) ∧ (x.map a.eval).isSome = l.isSome := by
  unfold chkO at hc
  split at hc
  · injection hl with hl; subst hl; exact ⟨rfl, rfl⟩
  · simp only [hiInt] at hl
    obtain ⟨n, hn, rfl⟩ := Option.map_eq_some_iff.1 hl
    obtain ⟨k, hk⟩ := asInt_spec (chkX_ok hc he) hn
    refine ⟨⟨k, ?_⟩, rfl⟩
    simp only [Option.getD_some] at h0 ⊢
    rw [Int.toNat_of_nonneg h0]
    exact hk
  · cases hc

theorem ok_slc (s : St K γ w h) (he : EnvOK K γ w h N a e) {t : TypeId} {str : Bool} {sz : Nat} {x : Operand} {y : X} {lo hi mx : Option Operand} {lo' hi' mx' : Option X} (hc : chkX x y = true) (hlo : chkO lo lo' = true) (hhi : chkO hi hi' = true) (hmx : chkO mx mx' = true)
    (ht : if str then isStr P t = true else ∃ e', sliceT P t = some e' ∧ szT P e' = some sz)
    {v : V} {h' : Heap} (hev : evOp e h (.slc str sz y lo' hi' mx') = some (v, h')) : Ok1 P (.slice t x lo hi mx) o a K γ w h v h' := by
  have hx := chkX_ok hc he
  simp only [evOp] at hev
  split at hev
  · rename_i l r m hl hr hm
    split at hev
    · cases hev
    rename_i hmr
    have hmr' : m.isSome = true → r.isSome = true := by
      intro hms
      cases r with
      | none => simp [hms] at hmr
      | some r => rfl
    split at hev
    · rename_i bs hy
      rw [hy] at hx
      split at hev
      · rename_i hcond
        obtain ⟨h1, h2, h3, h4, h5⟩ := hcond
        subst h1
        simp only [if_true] at ht
        injection hev with hev
        injection hev with e1 e2
        subst e1 e2
        have L := chkO_lo he hlo hl h3
        have R := (chkO_hi he hhi hr (d := bs.size) (by omega)).1
        have M0 : mx = none := by
          subst h2
          unfold chkO at hmx
          split at hmx
          · rfl
          · simp only [hiInt] at hm
            obtain ⟨_, _, e⟩ := Option.map_eq_some_iff.1 hm
            cases e
          · cases hmx
        subst M0
        have hrun := run_sliceBounds (P := P) (w := w) (isSlice := false) (len := bs.size) (cap := bs.size) (lo := lo.map a.eval) (hi := hi.map a.eval) (mx := none) (l := l.toNat) (r := (r.getD (bs.size : Int)).toNat) (m := bs.size) L R rfl (fun hh => by cases hh) (by omega) (by omega) (Nat.le_refl _)
        refine Ok1.pure s (v := .string (bs.extract l.toNat (r.getD (bs.size : Int)).toNat)) ?_ rfl
        simp [execOp, Instr.sliceAt, Instr.slice, run_underlying (of_isStr ht), hx.str, hrun]
      · cases hev
    · rename_i clip sz' xs hy
      rw [hy] at hx
      split at hev
      · rename_i hcond
        obtain ⟨h1, rfl, h3, h4, h5, h6⟩ := hcond
        subst h1
        simp only [Bool.false_eq_true, if_false] at ht
        obtain ⟨e', hsl, hsz⟩ := ht
        injection hev with hev
        injection hev with e1 e2
        subst e1 e2
        have hrep := hx.sl
        obtain ⟨A, cap, hax, g1, g2, g3⟩ := rep_slice hrep
        rw [hax] at hrep
        have L := chkO_lo he hlo hl h3
        obtain ⟨R, Rs⟩ := chkO_hi he hhi hr (d := xs.length) (by omega)
        obtain ⟨M, Ms⟩ := chkO_hi he hmx hm (d := cap) (by rcases h6 with rfl | rfl <;> simp <;> omega)
        have hmc : (m.getD (cap : Int)).toNat ≤ cap := by rcases h6 with rfl | rfl <;> simp <;> omega
        have hrm : (r.getD (xs.length : Int)).toNat ≤ (m.getD (cap : Int)).toNat := by rcases h6 with rfl | rfl <;> simp <;> omega
        have hrun := run_sliceBounds (P := P) (w := w) (isSlice := true) (len := xs.length) (cap := cap) (lo := lo.map a.eval) (hi := hi.map a.eval) (mx := mx.map a.eval) (l := l.toNat) (r := (r.getD (xs.length : Int)).toNat) (m := (m.getD (cap : Int)).toNat) L R M (by rw [Ms, Rs]; exact hmr') (by omega) hrm hmc
        have hcut := rep_cut hrep (l := l.toNat) (r := (r.getD (xs.length : Int)).toNat) (m := (m.getD (cap : Int)).toNat) (clip' := m.isSome || (clip && decide (r.getD (xs.length : Int) = xs.length))) (by omega) (by omega) hrm (fun hcl => by
          simp only [Bool.or_eq_true, Bool.and_eq_true, decide_eq_true_eq] at hcl
          rcases hcl with hcl | ⟨hcl, hcr⟩
          · rcases h6 with rfl | rfl
            · cases hcl
            · rfl
          · rcases h6 with rfl | rfl
            · have := g2 hcl
              simp
              omega
            · rfl)
        refine Ok1.pure s ?_ hcut
        simp [execOp, Instr.sliceAt, Instr.slice, run_underlying (of_sliceT hsl), hax, hrun, run_sz hsz]
      · cases hev
    · rename_i id st off len clip hy
      rw [hy] at hx
      split at hev
      · rename_i hcond
        obtain ⟨h1, hsz', h3, h4, h5, h6⟩ := hcond
        subst h1
        simp only [Bool.false_eq_true, if_false] at ht
        obtain ⟨e', hsl, hsz⟩ := ht
        injection hev with hev
        injection hev with e1 e2
        subst e1 e2
        obtain ⟨A, cap, hax, g1, g2, hp⟩ := hx.ref
        have L := chkO_lo he hlo hl h3
        obtain ⟨R, Rs⟩ := chkO_hi he hhi hr (d := len) (by omega)
        obtain ⟨M, Ms⟩ := chkO_hi he hmx hm (d := cap) (by rcases h6 with rfl | rfl <;> simp <;> omega)
        have hmc : (m.getD (cap : Int)).toNat ≤ cap := by rcases h6 with rfl | rfl <;> simp <;> omega
        have hrm : (r.getD (len : Int)).toNat ≤ (m.getD (cap : Int)).toNat := by rcases h6 with rfl | rfl <;> simp <;> omega
        have hcl : (m.isSome || (clip && decide (r.getD (len : Int) = len))) = true → (m.getD (cap : Int)).toNat = (r.getD (len : Int)).toNat := by
          intro hcl
          simp only [Bool.or_eq_true, Bool.and_eq_true, decide_eq_true_eq] at hcl
          rcases hcl with hcl | ⟨hcl, hcr⟩
          · rcases h6 with rfl | rfl
            · cases hcl
            · rfl
          · rcases h6 with rfl | rfl
            · have := g2 hcl
              simp
              omega
            · rfl
        have hrun := run_sliceBounds (P := P) (w := w) (isSlice := true) (len := len) (cap := cap) (lo := lo.map a.eval) (hi := hi.map a.eval) (mx := mx.map a.eval) (l := l.toNat) (r := (r.getD (len : Int)).toNat) (m := (m.getD (cap : Int)).toNat) L R M (by rw [Ms, Rs]; exact hmr') (by omega) hrm hmc
        generalize hrr : (r.getD (len : Int)).toNat = rr at *
        generalize hmm : (m.getD (cap : Int)).toNat = mm at *
        generalize hl2 : l.toNat = ll at *
        have hlr : ll ≤ rr := by omega
        have hrl : rr ≤ len := by omega
        refine Ok1.pure s (v := .slice (if mm = ll then A else A.map (·.add (ll * sz))) (rr - ll) (mm - ll)) ?_ ?_
        · simp [execOp, Instr.sliceAt, Instr.slice, run_underlying (of_sliceT hsl), hax, hrun, run_sz hsz]
        · refine ⟨_, _, rfl, by omega, fun hc => by have := hcl hc; omega, ?_⟩
          unfold szOf at hsz'
          cases hb : h[id]? with
          | none => rw [hb] at hp; exact hp.elim
          | some b =>
            rw [hb] at hp hsz'
            cases b with
            | dead => cases hsz'
            | box cs => cases hsz'
            | rows st' sz' cont =>
              simp only at hsz'
              split at hsz'
              · rename_i hst
                subst hst
                injection hsz' with hsz'
                subst hsz'
                obtain ⟨k1, k2⟩ := hp
                obtain ⟨k3, k4⟩ := k2 rfl
                refine ⟨k1, fun _ => ⟨by omega, ?_⟩⟩
                cases hg : γ id with
                | none =>
                  rw [hg] at k4
                  exact (by omega)
                | some p =>
                  obtain ⟨g, o'⟩ := p
                  rw [hg] at k4
                  intro hcap
                  obtain ⟨rfl, cs, hcs, hfit⟩ := k4 (by omega)
                  refine ⟨?_, cs, hcs, ?_⟩
                  · rw [if_neg (by omega)]
                    simp only [Option.map_some, add0, Nat.add_mul, Nat.add_assoc]
                  · refine Nat.le_trans ?_ hfit
                    apply Nat.add_le_add_left
                    apply Nat.mul_le_mul_right
                    omega
              · cases hsz'
            | nest st' sz' cont =>
              simp only at hsz'
              split at hsz'
              · rename_i hst
                subst hst
                injection hsz' with hsz'
                subst hsz'
                obtain ⟨k1, k2⟩ := hp
                obtain ⟨k3, k4⟩ := k2 rfl
                refine ⟨k1, fun _ => ⟨by omega, ?_⟩⟩
                cases hg : γ id with
                | none =>
                  rw [hg] at k4
                  exact (by omega)
                | some p =>
                  obtain ⟨g, o'⟩ := p
                  rw [hg] at k4
                  intro hcap
                  obtain ⟨rfl, cs, hcs, hfit⟩ := k4 (by omega)
                  refine ⟨?_, cs, hcs, ?_⟩
                  · rw [if_neg (by omega)]
                    simp only [Option.map_some, add0, Nat.add_mul, Nat.add_assoc]
                  · refine Nat.le_trans ?_ hfit
                    apply Nat.add_le_add_left
                    apply Nat.mul_le_mul_right
                    omega
              · cases hsz'
            | frz st' sz' cont =>
              simp only at hsz'
              split at hsz'
              · rename_i hst
                subst hst
                injection hsz' with hsz'
                subst hsz'
                obtain ⟨k0, k1, k2⟩ := hp
                obtain ⟨k3, k4⟩ := k2 rfl
                refine ⟨k0, k1, fun _ => ⟨by omega, ?_⟩⟩
                have hcut := rep_cut k4 (l := ll) (r := rr) (m := mm) (clip' := m.isSome || (clip && decide (r.getD (len : Int) = len))) hlr hrl hrm hcl
                have hlist : (((cont.drop off).take len).drop ll).take (rr - ll) = (cont.drop (off + ll)).take (rr - ll) := by
                  rw [List.drop_take, List.drop_drop, List.take_take]
                  congr 1
                  omega
                rw [hlist] at hcut
                exact hcut
              · cases hsz'
      · cases hev
    · cases hev
  · cases hev
end
end Go.Proofs.Ytfbjbkkcilhgjaa.PE
