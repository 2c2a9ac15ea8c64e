/- Functions of a table: what the evaluator says of a call is so. -/
import Derived.Test.YtfbjbkkcilhgjaaPeW
namespace Go.Proofs.Ytfbjbkkcilhgjaa.PE
open Go.RowKit

section
variable {P : Program} {K : Ct} {γ γ' : Gh} {w w' : World} {h h' : Heap} {N : Nat} {a : Act} {e e' : Env}

theorem load_core (s : St K γ w h) {t : TypeId} {u : Value} {y : V} {agg : Bool} {sz : Nat} (hx : VT K γ w h u y) (hagg : aggT P t = some agg) (hsz : szT P t = some sz) {v : V} {h' : Heap} {q : Nat} (hq : get e q = y)
    (hev : evOp e h (.load agg sz (.t q)) = some (v, h')) : ∃ ad r, u = .pointer (some ad) ∧ (loadVar t ad).run P w = .ok r w ∧ VT K γ w h r v ∧ h' = h := by
  have fin : ∀ {g o' : Nat} {cs : List V}, u = .pointer (some ⟨g, o', none⟩) → cs.length = sz → (∀ (c : Nat) (y : V), cs[c]? = some y → ∃ u, w.cell? ⟨g, o' + c, none⟩ = some u ∧ VC K γ w h u y) → (ofCells agg cs).map (fun v => (v, h)) = some (v, h') →
      ∃ ad r, u = .pointer (some ad) ∧ (loadVar t ad).run P w = .ok r w ∧ VT K γ w h r v ∧ h' = h := by
    intro g o' cs hax hl hcs hv
    obtain ⟨v', hv', hvv⟩ := Option.map_eq_some_iff.1 hv
    injection hvv with h1 h2
    subst h1 h2
    obtain ⟨r, hu, hvt⟩ := run_load_ok (K := K) (γ := γ) (h := h) hagg hsz hl hcs hv'
    exact ⟨_, r, hax, hu, hvt, rfl⟩
  simp only [evOp, X.ev, hq] at hev
  split at hev
  · rename_i cs
    obtain ⟨ad, hax, g, o', rfl, hg, hcs⟩ := hx.fp
    split at hev
    · rename_i hl
      exact fin hax hl (fun c y hy => (hcs c y hy).imp fun u hu => ⟨hu.1, rep_vc hu.2⟩) hev
    · cases hev
  · rename_i id st el off
    obtain ⟨ad, hax, hp⟩ := hx.ptr
    split at hev
    · rename_i st' sz' cont hb
      split at hev
      · rename_i hst
        split at hev
        · rename_i cs hcs
          split at hev
          · rename_i ys hys
            obtain ⟨g, o', cells, x', h1, rfl, h3, h4, h5, h6, h7, _, _, h8⟩ := ptr_rows s hp hb hst
            obtain ⟨h9, h10, h11⟩ := sub_spec hys
            refine fin hax h9 (fun c y hy => ?_) hev
            obtain ⟨hcy, _⟩ := h11 c y hy
            obtain ⟨u, hu, hr⟩ := h8 el (off + c) cs y hcs hcy
            refine ⟨u, ?_, rep_vc hr⟩
            rw [h3.cell, ← hu]
            congr 1
            omega
          · cases hev
        · cases hev
      · cases hev
    · rename_i cells hb
      split at hev
      · rename_i ys hys
        obtain ⟨g, cs, h1, rfl, h3, h4, h5, h6⟩ := ptr_box s hp hb
        obtain ⟨h9, h10, h11⟩ := sub_spec hys
        refine fin hax h9 (fun c y hy => ?_) hev
        obtain ⟨hcy, _⟩ := h11 c y hy
        obtain ⟨u, hu, hr⟩ := h6 (off + c) y hcy
        exact ⟨u, (h3.cell _).trans hu, hr⟩
      · cases hev
    · rename_i st' sz' cont hb
      split at hev
      · rename_i hst
        split at hev
        · rename_i cs hcs
          split at hev
          · rename_i ys hys
            obtain ⟨g, o', cells, x', h1, rfl, h3, h4, h5, h6, h7, _, _, h8⟩ := ptr_nest s hp hb hst
            obtain ⟨h9, h10, h11⟩ := sub_spec hys
            refine fin hax h9 (fun c y hy => ?_) hev
            obtain ⟨hcy, _⟩ := h11 c y hy
            obtain ⟨u, hu, hr⟩ := h8 el (off + c) cs y hcs hcy
            refine ⟨u, ?_, vr_vc hr⟩
            rw [h3.cell, ← hu]
            congr 1
            omega
          · cases hev
        · cases hev
      · cases hev
    · cases hev
  · cases hev

def rvOne (tmps : Array Value) : ResultVar → Sem Value
  | .tmp t => pure (tmps.getD t undef)
  | .cell q t => do loadVar t (← asAddr (tmps.getD q undef))

/-- The results, one by one. -/
theorem run_results (s : St K γ w h) (he : EnvOK K γ w h N a e) : ∀ {rs : List (Bool × Nat × Nat × Bool)} {rv : List ResultVar} {vs : List V}, chkRes P rs rv = true → resV e h rs = some vs →
    ∃ us : List Value, (rv.mapM (rvOne a.tmps)).run P w = .ok us w ∧ us.length = vs.length ∧ ∀ (i : Nat) (x : V), vs[i]? = some x → ∃ u, us[i]? = some u ∧ VT K γ w h u x
  | [], [], vs, _, hr => by
    simp only [resV, Option.some.injEq] at hr
    subst hr
    exact ⟨[], by simp, rfl, fun i x hx => by simp at hx⟩
  | (false, t, sz, agg) :: r, .tmp t' :: r', vs, hc, hr => by
    simp only [chkRes, Bool.and_eq_true, decide_eq_true_eq] at hc
    obtain ⟨rfl, hc⟩ := hc
    simp only [resV, Bool.false_eq_true, if_false] at hr
    split at hr
    · rename_i v vs' h1 h2
      injection hr with hr
      subst hr
      injection h1 with h1
      subst h1
      obtain ⟨us, h3, h4, h5⟩ := run_results s he hc h2
      refine ⟨a.tmps.getD t undef :: us, ?_, by simp [h4], fun i x hx => ?_⟩
      · rw [List.mapM_cons]
        simp only [rvOne, Sem.run_bind, Sem.run_pure, Result.andThen_ok]
        rw [h3]
        rfl
      · cases i with
        | zero => simp at hx; subst hx; exact ⟨_, rfl, he.2.2 t⟩
        | succ i => simp at hx; simpa using h5 i x hx
    · cases hr
  | (true, t, sz, agg) :: r, .cell t' ty :: r', vs, hc, hr => by
    simp only [chkRes, Bool.and_eq_true, decide_eq_true_eq] at hc
    obtain ⟨⟨⟨rfl, h6⟩, h7⟩, hc⟩ := hc
    simp only [resV, if_true] at hr
    split at hr
    · rename_i v vs' h1 h2
      injection hr with hr
      subst hr
      split at h1
      · rename_i v' h8 h9
        injection h1 with h1
        subst h1
        obtain ⟨us, h3, h4, h5⟩ := run_results s he hc h2
        obtain ⟨ad, u, hu1, hu2, hu3, _⟩ := load_core s (he.2.2 t) h6 h7 rfl h9
        refine ⟨u :: us, ?_, by simp [h4], fun i x hx => ?_⟩
        · rw [List.mapM_cons]
          have h0 : (asAddr (a.tmps.getD t undef)).run P w = .ok ad w := by rw [hu1]; rfl
          simp only [rvOne, h0, Sem.run_bind, Sem.run_pure, Result.andThen_ok, hu2]
          rw [h3]
          rfl
        · cases i with
          | zero => simp at hx; subst hx; exact ⟨_, rfl, hu3⟩
          | succ i => simp at hx; simpa using h5 i x hx
      · cases h1
    · cases hr
  | [], _ :: _, _, hc, _ => by cases hc
  | (false, _) :: _, [], _, hc, _ => by cases hc
  | (true, _) :: _, [], _, hc, _ => by cases hc
  | (false, _) :: _, .cell _ _ :: _, _, hc, _ => by cases hc
  | (true, _) :: _, .tmp _ :: _, _, hc, _ => by cases hc

theorem results_eq {fn : Func} {tmps : Array Value} {us : List Value} (hu : (fn.results.toList.mapM (rvOne tmps)).run P w = .ok us w) : (results fn tmps).run P w = .ok (retV us.toArray) w := by
  have h0 : results fn tmps = (do
      let vs ← fn.results.mapM (rvOne tmps)
      pure (if h : vs.size = 1 then vs[0] else .tuple vs)) := by
    unfold results
    congr 2
  rw [h0, Array.mapM_eq_mapM_toList]
  simp only [Sem.run_bind, Sem.run_map, hu, Result.andThen_ok, Sem.run_pure]
  rfl

theorem get_argE : ∀ (vs : List V) (k t : Nat), get (argE k vs) t = if t < k then .undef else vs.getD (t - k) .undef
  | [], k, t => by simp [argE, get]
  | v :: r, k, t => by
    rw [argE, get_cons, get_argE r (k + 1) t]
    by_cases h1 : k = t
    · subst h1; simp
    · rw [if_neg h1]
      by_cases h2 : t < k
      · rw [if_pos h2, if_pos (by omega)]
      · rw [if_neg h2, if_neg (by omega)]
        rw [show t - k = (t - (k + 1)) + 1 by omega]
        simp

theorem env_args {args : Array Value} {vs : List V} (hv : VTs K γ w h args vs) {n : Nat} (hn : vs.length ≤ n) : EnvOK K γ w h n { tmps := args ++ Array.replicate (n - args.size) undef, defers := [] } (argE 0 vs) := by
  have h0 := hv.1
  refine ⟨rfl, by simp; omega, fun t => ?_⟩
  rw [get_argE]
  simp only [Nat.not_lt_zero, if_false, Nat.sub_zero]
  rcases Nat.lt_or_ge t vs.length with h1 | h1
  · have h2 : vs[t]? = some vs[t] := List.getElem?_eq_getElem h1
    obtain ⟨u, hu, hvu⟩ := hv.2 t _ h2
    have h3 : (args ++ Array.replicate (n - args.size) undef).getD t undef = u := by
      rw [Array.getD_eq_getD_getElem?, Array.getElem?_append_left (by omega), hu]
      rfl
    rw [h3, List.getD_eq_getElem?_getD, h2]
    exact hvu
  · rw [List.getD_eq_getElem?_getD, List.getElem?_eq_none h1]
    trivial

/-- A function. -/
theorem ok_F {run : Run} (hrun : RunOK P run) (hcal : RunCal P run) {f : Nat} {F : F} (hc : chkF P f F = true) {args rs : List V} {h1 : Heap} (hev : runF run (drawI run) F args h = some (rs, h1)) (s : St K γ w h) {vs : Array Value} (hvs : VTs K γ w h vs args) :
    Calls P f vs w fun e w' => ∃ γ' us, e = .returned (retV us) ∧ VTs K γ' w' h1 us rs ∧ Go2 K γ w h γ' w' h1 := by
  unfold chkF at hc
  split at hc
  rotate_left
  · cases hc
  rename_i fn hfn
  simp only [Bool.and_eq_true, decide_eq_true_eq] at hc
  obtain ⟨⟨⟨_, hn⟩, hres⟩, hb⟩ := hc
  split at hb
  rotate_left
  · cases hb
  rename_i code hbody
  unfold runF at hev
  split at hev
  rotate_left
  · cases hev
  rename_i hlen
  refine calls_of_wp hfn hbody ?_
  rw [hn]
  have he := env_args hvs hlen
  have fin : ∀ {e' : Env} {h' : Heap}, (resV e' h' F.res).map (fun rs => (rs, h')) = some (rs, h1) → ∀ (γ' : Gh) (a' : Act) (w' : World), Go2 K γ w h γ' w' h' → EnvOK K γ' w' h' F.n a' e' →
      a'.defers = [] ∧ ∃ v, (results fn a'.tmps).run P w' = .ok v w' ∧ ∃ γ' us, Ending.returned v = .returned (retV us) ∧ VTs K γ' w' h1 us rs ∧ Go2 K γ w h γ' w' h1 := by
    intro e' h' hr γ' a' w' g he'
    obtain ⟨rs', hr1, hr2⟩ := Option.map_eq_some_iff.1 hr
    injection hr2 with e1 e2
    subst e1 e2
    obtain ⟨us, hu1, hu2, hu3⟩ := run_results g.st he' hres hr1
    exact ⟨he'.1, _, results_eq hu1, γ', us.toArray, rfl, ⟨by simpa using hu2, fun i x hx => by simpa using hu3 i x hx⟩, g⟩
  split at hev
  · rename_i e' h' h2
    exact ok_C hrun hcal F.body hb s he h2 (fun γ' a' w' g he' => fin hev γ' a' w' g he')
  · rename_i e' h' h2
    exact ok_C hrun hcal F.body hb s he h2 (fun γ' a' w' g he' => fin hev γ' a' w' g he')
  · cases hev

theorem find_mem {tab : Tab} {f : Nat} {F : F} (hf : tab.find f = some F) : (f, F) ∈ tab := by
  induction tab with
  | nil => cases hf
  | cons p r ih =>
    obtain ⟨g, F'⟩ := p
    unfold Tab.find at hf
    split at hf
    · rename_i hg
      subst hg
      injection hf with hf
      subst hf
      exact List.mem_cons_self
    · exact List.mem_cons_of_mem _ (ih hf)

theorem runD_ok {tab : Tab} {ext : Run} (ht : ∀ p ∈ tab, chkF P p.1 p.2 = true) (hx : RunOK P ext) (hxc : RunCal P ext) : ∀ (d : Nat), RunOK P (runD tab ext d) ∧ RunCal P (runD tab ext d)
  | 0 => ⟨fun K γ w h f args rs h1 hr => by simp [runD] at hr, fun f args h r hr => by simp [runD] at hr⟩
  | d + 1 => by
    obtain ⟨i1, i2⟩ := runD_ok ht hx hxc d
    refine ⟨fun K γ w h f args rs h1 hr s vs hvs => ?_, fun f args h r hr => ?_⟩
    · unfold runD at hr
      split at hr
      · rename_i F hf
        exact ok_F i1 i2 (ht _ (find_mem hf)) hr s hvs
      · exact hx K γ w h f args rs h1 hr s vs hvs
    · unfold runD at hr
      split at hr
      · rename_i F hf
        have := ht _ (find_mem hf)
        unfold chkF at this
        split at this
        · simp only [Bool.and_eq_true] at this
          exact this.1.1.1
        · cases this
      · exact hxc f args h r hr

/-- No others. -/
def noExt : Run := fun _ _ _ => none
theorem noExt_ok : RunOK P noExt ∧ RunCal P noExt := ⟨fun K γ w h f args rs h1 hr => by simp [noExt] at hr, fun f args h r hr => by simp [noExt] at hr⟩

/-- What the evaluator says of a call that is handed values alone, as a claim about the machine. -/
theorem calls_of {tab : Tab} {ext : Run} (ht : ∀ p ∈ tab, chkF P p.1 p.2 = true) (hx : RunOK P ext) (hxc : RunCal P ext) {d f : Nat} {args rs : List V} {h1 : Heap} (hr : runD tab ext d f args [] = some (rs, h1)) {w : World} {vs : Array Value} (hn : vs.size = args.length)
    (hv : ∀ (i : Nat) (x : V), args[i]? = some x → ∃ u, vs[i]? = some u ∧ RepA w (fun b => b < w.heap.size) u x) :
    Calls P f vs w fun e w' => Below w.heap.size w w' ∧ ∃ us, e = .returned (retV us) ∧ us.size = rs.length ∧ ∀ (i : Nat) (x : V), rs[i]? = some x → ∃ u, us[i]? = some u ∧ ∃ γ, VT ⟨w, fun _ => True⟩ γ w' h1 u x := by
  have him : ∀ b, b < w.heap.size → Im ⟨w, fun _ => True⟩ (fun _ => none) w b ∧ w.heap[b]? = w.heap[b]? := fun b hb => ⟨⟨hb, fun _ => trivial, fun _ _ _ e => by cases e⟩, rfl⟩
  refine ((runD_ok ht hx hxc d).1 ⟨w, fun _ => True⟩ (fun _ => none) w [] f args rs h1 hr (st_empty w _) vs ⟨hn, fun i x hxi => ?_⟩).mono ?_
  · obtain ⟨u, hu, hvu⟩ := hv i x hxi
    exact ⟨u, hu, (hvu.mono him).vt⟩
  · rintro e w' ⟨γ', us, rfl, hus, g⟩
    exact ⟨g.st.below, us, rfl, hus.1, fun i x hxi => (hus.2 i x hxi).imp fun u hu => ⟨hu.1, γ', hu.2⟩⟩

/-- The same of a law's call: it says true. -/
theorem law_of {tab : Tab} {ext : Run} (ht : ∀ p ∈ tab, chkF P p.1 p.2 = true) (hx : RunOK P ext) (hxc : RunCal P ext) {d f : Nat} {args : List V} {h1 : Heap} (hr : runD tab ext d f args [] = some ([.bool true], h1)) {w : World} {vs : Array Value} (hn : vs.size = args.length)
    (hv : ∀ (i : Nat) (x : V), args[i]? = some x → ∃ u, vs[i]? = some u ∧ RepA w (fun b => b < w.heap.size) u x) :
    Calls P f vs w fun e w' => e = .returned (.bool true) ∧ Below w.heap.size w w' := by
  refine (calls_of ht hx hxc hr hn hv).mono ?_
  rintro e w' ⟨hb, us, rfl, hsz, hus⟩
  obtain ⟨u, hu, γ, hvu⟩ := hus 0 _ rfl
  have := us_one hsz hu
  subst this
  rw [retV_one]
  exact ⟨by rw [hvu.bool], hb⟩
end
end Go.Proofs.Ytfbjbkkcilhgjaa.PE
