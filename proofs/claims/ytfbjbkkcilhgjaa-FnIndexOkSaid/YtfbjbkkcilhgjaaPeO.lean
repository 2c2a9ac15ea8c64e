/- One operation of a region, calls among them; and a region in its order of text. -/
import Derived.Test.YtfbjbkkcilhgjaaPeN2
namespace Go.Proofs.Ytfbjbkkcilhgjaa.PE
open Go.RowKit

def callable (P : Program) (f : Nat) : Bool := match P.funcs[f]? with
  | some fn => fn.body.isSome && !(fn.name == "runtime.NumGoroutine")
  | none => false

def RunCal (P : Program) (run : Run) : Prop := ∀ f args h r, run f args h = some r → callable P f = true

def chkG (ops : Array Oper) (g : Option (Nat × Bool)) (g' : Option (Nat × Bool)) : Bool := match g, g' with
  | none, none => true
  | some (j, b), some (t, b') => (match ops[j]? with
    | some o => decide (o.dst = some t)
    | none => false) && b == b'
  | _, _ => false

def chkCall (P : Program) (i : Op) (op : Go.Op) : Bool := match i, op with
  | .call f args _ _, .call { callee := .value (.func g), args := xs, .. } => decide (g = f) && chkXs xs.toList args
  | .callv y args _, .call { callee := .value x, args := xs, .. } => chkX x y && chkXs xs.toList args
  | .callx _ f args, .call { callee := .value (.func g), args := xs, .. } => decide (g = f) && chkXs xs.toList args
  | .callvx y args, .call { callee := .value x, args := xs, .. } => chkX x y && chkXs xs.toList args
  | i, op => chkOp P i op

def chkI (P : Program) (ops : Array Oper) (N : Nat) (o : Oper) (i : I) : Bool :=
  decide (o.dst = i.d) && (match i.d with
    | some d => decide (d < N)
    | none => true) && chkG ops o.guard i.g && chkCall P i.op o.op

section
variable {P : Program} {K : Ct} {γ γ' : Gh} {w w' : World} {h h' : Heap} {N : Nat} {a : Act} {e e' : Env}

theorem chkBuiltin_call {f : Nat} {xs : List X} {s k : Bool} {b : Builtin} {as : List Operand} {ts : List TypeId} : chkBuiltin P (.call f xs s k) b as ts = false := by
  unfold chkBuiltin
  split <;> first | contradiction | rfl
theorem chkBuiltin_callv {f : X} {xs : List X} {k : Bool} {b : Builtin} {as : List Operand} {ts : List TypeId} : chkBuiltin P (.callv f xs k) b as ts = false := by
  unfold chkBuiltin
  split <;> first | contradiction | rfl
theorem chkOp_call {f : Nat} {xs : List X} {s k : Bool} {op : Go.Op} : chkOp P (.call f xs s k) op = false := by
  unfold chkOp
  split <;> first | contradiction | exact chkBuiltin_call | rfl
theorem chkOp_callv {f : X} {xs : List X} {k : Bool} {op : Go.Op} : chkOp P (.callv f xs k) op = false := by
  unfold chkOp
  split <;> first | contradiction | exact chkBuiltin_callv | rfl

theorem chkBuiltin_callx {m f : Nat} {xs : List X} {b : Builtin} {as : List Operand} {ts : List TypeId} : chkBuiltin P (.callx m f xs) b as ts = false := by
  unfold chkBuiltin
  split <;> first | contradiction | rfl
theorem chkBuiltin_callvx {f : X} {xs : List X} {b : Builtin} {as : List Operand} {ts : List TypeId} : chkBuiltin P (.callvx f xs) b as ts = false := by
  unfold chkBuiltin
  split <;> first | contradiction | rfl
theorem chkOp_callx {m f : Nat} {xs : List X} {op : Go.Op} : chkOp P (.callx m f xs) op = false := by
  unfold chkOp
  split <;> first | contradiction | exact chkBuiltin_callx | rfl
theorem chkOp_callvx {f : X} {xs : List X} {op : Go.Op} : chkOp P (.callvx f xs) op = false := by
  unfold chkOp
  split <;> first | contradiction | exact chkBuiltin_callvx | rfl

theorem get_cons (s : Nat) (v : V) (e : Env) (t : Nat) : get ((s, v) :: e) t = if s = t then v else get e t := by
  show (match s == t with | true => v | false => get e t) = _
  by_cases h : s = t
  · subst h; simp
  · have h1 : (s == t) = false := by simpa using h
    rw [h1, if_neg h]

theorem EnvOK.put (he : EnvOK K γ w h N a e) {d : Option Nat} (hd : ∀ t, d = some t → t < N) {v : Value} {x : V} (hv : VT K γ w h v x) : EnvOK K γ w h N (a.put d v) (updE e d x) := by
  cases d with
  | none => exact he
  | some t =>
    refine ⟨he.1, by simp [Act.put, he.2.1], fun u => ?_⟩
    have ht := hd t rfl
    have hN := he.2.1
    simp only [Act.put, updE, get_cons]
    by_cases e1 : t = u
    · subst e1
      rw [if_pos rfl]
      have : (a.tmps.setIfInBounds t v).getD t undef = v := by
        have h1 : t < a.tmps.size := by omega
        simp [h1]
      rw [this]
      exact hv
    · rw [if_neg e1]
      have : (a.tmps.setIfInBounds t v).getD u undef = a.tmps.getD u undef := by
        simp [Array.getElem?_setIfInBounds_ne e1]
      rw [this]
      exact he.2.2 u

theorem wants_ok (he : EnvOK K γ w h N a e) {ops : Array Oper} {o : Oper} {g : Option (Nat × Bool)} (hc : chkG ops o.guard g = true) {b : Bool} (hw : wants e g = some b) : Region.wanted o (yielded ops a.tmps) = b := by
  unfold chkG at hc
  split at hc
  · rename_i e1
    simp only [wants, Option.some.injEq] at hw
    subst hw
    unfold Region.wanted
    rw [e1]
  · rename_i j c t c' e1
    simp only [Bool.and_eq_true, beq_iff_eq] at hc
    obtain ⟨h1, rfl⟩ := hc
    unfold Region.wanted
    rw [e1]
    simp only [wants] at hw
    split at hw
    · rename_i b' hb
      injection hw with hw
      subst hw
      split at h1
      · rename_i o' ho'
        simp only [decide_eq_true_eq] at h1
        have hv := (he.2.2 t)
        rw [hb] at hv
        have hv := hv.bool
        have : a.tmps[t]? = some (.bool b') := by
          rcases Nat.lt_or_ge t a.tmps.size with hlt | hge
          · rw [Array.getElem?_eq_getElem hlt]
            simp [hlt] at hv
            rw [hv]
          · simp [Array.getElem?_eq_none hge] at hv
            cases hv
        simp only [yielded, ho', Option.bind_some, h1, this]
        cases b' <;> cases c <;> rfl
      · cases h1
    · rename_i vs hb
      split at hw
      rotate_left
      · cases hw
      rename_i hl
      have hvs : vs = [] := List.length_eq_zero_iff.1 hl
      subst hvs
      injection hw with hw
      subst hw
      split at h1
      · rename_i o' ho'
        simp only [decide_eq_true_eq] at h1
        have hv := (he.2.2 t)
        rw [hb] at hv
        obtain ⟨us, hu, hus, _⟩ := hv
        have hus0 : us = #[] := Array.eq_empty_of_size_eq_zero hus
        subst hus0
        have : yielded ops a.tmps j = none := by
          unfold yielded
          rw [ho', Option.bind_some, h1, Option.bind_some]
          rcases Nat.lt_or_ge t a.tmps.size with hlt | hge
          · rw [Array.getElem?_eq_getElem hlt]
            simp [hlt] at hu
            rw [hu]
          · rw [Array.getElem?_eq_none hge]
        show (yielded ops a.tmps j == some c) = false
        rw [this]
        rfl
      · cases h1
    · cases hw
  · cases hc

theorem run_callFunc {f : Nat} (hc : callable P f = true) (args : Array Value) (w : World) : (callFunc f args).run P w = .ok (.enter f args) w := by
  unfold callable at hc
  split at hc
  · rename_i fn hf
    simp only [Bool.and_eq_true, Bool.not_eq_true'] at hc
    have hb : fn.body.isNone = false := by
      cases hb : fn.body with
      | none => rw [hb] at hc; simp at hc
      | some c => rfl
    unfold callFunc
    simp only [Sem.run_bind, program, Sem.run, Result.andThen_ok, hf]
    simp [hc.2, hb]
  · cases hc

theorem map_arr {xs : Array Operand} {ys : List X} (he : EnvOK K γ w h N a e) (hc : chkXs xs.toList ys = true) : VTs K γ w h (xs.map a.eval) (ys.map (X.ev e)) := by
  obtain ⟨h1, h2⟩ := chkXs_ok he hc
  refine ⟨by simpa using h1, fun i x hx => ?_⟩
  rw [List.getElem?_map] at hx
  obtain ⟨y, hy, hxy⟩ := Option.map_eq_some_iff.1 hx
  subst hxy
  obtain ⟨q, hq, hv⟩ := h2 i y hy
  exact ⟨a.eval q, by simp at hq; simp [hq], hv⟩

theorem callX_cal {run : Run} (hcal : RunCal P run) {m f : Nat} {args : List V} {r : V × Heap} (hgo : callX run h m f args = some r) : callable P f = true := by
  unfold callX at hgo
  split at hgo
  · unfold callO at hgo
    split at hgo
    · cases hgo
    · split at hgo
      · rename_i hr; exact hcal _ _ _ _ hr
      · cases hgo
  · unfold callD at hgo
    split at hgo
    · cases hgo
    · split at hgo
      · rename_i hr; exact hcal _ _ _ _ hr
      · cases hgo
  · unfold callK at hgo
    split at hgo
    · rename_i hr; exact hcal _ _ _ _ hr
    · cases hgo

/-- What one operation comes to. -/
theorem ok_I {run : Run} (hrun : RunOK P run) (hcal : RunCal P run) (s : St K γ w h) (he : EnvOK K γ w h N a e) {ops : Array Oper} {o : Oper} {i : I} (hc : chkI P ops N o i = true) (hev : evI run i e h = some (e', h')) {j : Nat} (hj : ops[j]? = some o)
    {Q : Exit → Act → World → Prop} {k : Act → World → Prop} (hk : ∀ γ' a' w', Go2 K γ w h γ' w' h' → EnvOK K γ' w' h' N a' e' → k a' w') : wpOp P ops Q j k a w := by
  unfold chkI at hc
  simp only [Bool.and_eq_true, decide_eq_true_eq] at hc
  obtain ⟨⟨⟨hd, hN⟩, hg⟩, hop⟩ := hc
  have hN' : ∀ t, i.d = some t → t < N := by
    intro t ht
    rw [ht] at hN
    simpa using hN
  unfold evI at hev
  unfold wpOp
  rw [hj]
  simp only []
  split at hev
  · rename_i hw
    rw [wants_ok he hg hw, if_pos rfl]
    left
    split at hev
    · rename_i v h1 hgo
      injection hev with hev
      injection hev with e1 e2
      subst e1 e2
      have fin : ∀ γ' w' u, Go2 K γ w h γ' w' h1 → VT K γ' w' h1 u v → k (a.put o.dst u) w' := fun γ' w' u g hv => by
        rw [hd]
        exact hk γ' _ w' g ((he.pres g.pres).put hN' hv)
      unfold Oper.wp
      have plain : Ok1 P o.op o a K γ w h v h1 → o.upon P a k Q ((execOp a.eval o).run P w) := by
        rintro ⟨u, w', γ', hx | ⟨hx, rfl⟩, g, hv⟩
        · have : ({ o with op := o.op } : Oper) = o := rfl
          rw [this] at hx
          rw [hx]
          exact fin γ' w' u g hv
        · have : ({ o with op := o.op } : Oper) = o := rfl
          rw [this] at hx
          rw [hx]
          exact fin γ' w' _ g hv
      generalize i.op = iop at hop hgo
      unfold evGo at hgo
      split at hgo
      · -- a call
        rename_i f args sh keep
        unfold chkCall at hop
        split at hop
        · rename_i f' args' sh' keep' g xs ts ei eo
          injection ei with e1 e2 e3 e4
          subst e1 e2 e3 e4
          simp only [Bool.and_eq_true, decide_eq_true_eq] at hop
          obtain ⟨rfl, hxs⟩ := hop
          have hcl : callable P g = true := by
            split at hgo
            · unfold callS at hgo
              split at hgo
              · cases hgo
              · rename_i hr; exact hcal _ _ _ _ hr
            · unfold callP at hgo
              split at hgo
              · cases hgo
              · split at hgo
                · cases hgo
                · rename_i hr; exact hcal _ _ _ _ hr
          have hrun1 : (execOp a.eval o).run P w = .ok (.enter g (xs.map a.eval)) w := by
            unfold execOp
            rw [eo]
            simp only [resolve, Act.eval, Deferred.ofValue, Sem.run_bind, Sem.run_pure, Result.andThen_ok, invoke]
            simpa using run_callFunc hcl (xs.map a.eval) w
          rw [hrun1, Oper.upon_enter]
          have hvs := map_arr he hxs
          split at hgo
          · refine (callS_ok hrun s hgo hvs).mono ?_
            rintro e w' ⟨γ', u, rfl, hv, g⟩
            exact fin γ' w' u g hv
          · refine (callP_ok hrun s hgo hvs).mono ?_
            rintro e w' ⟨γ', u, rfl, hv, g⟩
            exact fin γ' w' u g hv
        · rename_i ei _; cases ei
        · rename_i ei _; cases ei
        · rename_i ei _; cases ei
        · rw [chkOp_call] at hop; cases hop
      · -- a call of a function's value
        rename_i fx args keep
        split at hgo
        · rename_i g caps hfx
          unfold chkCall at hop
          split at hop
          · rename_i ei _; cases ei
          rotate_left
          · rename_i ei _; cases ei
          · rename_i ei _; cases ei
          · rw [chkOp_callv] at hop; cases hop
          · rename_i y args' keep' x xs ts ei eo
            injection ei with e1 e2 e3
            subst e1 e2 e3
            simp only [Bool.and_eq_true] at hop
            obtain ⟨hx, hxs⟩ := hop
            have hcl : callable P g = true := by
              unfold callS at hgo
              split at hgo
              · cases hgo
              · rename_i hr; exact hcal _ _ _ _ hr
            have hvx := chkX_ok hx he
            rw [hfx] at hvx
            obtain ⟨cv, hcv, hcs, hcc⟩ := (show VC K γ w h (a.eval x) (.clo g caps) from hvx)
            have hrun1 : (execOp a.eval o).run P w = .ok (.enter g (xs.map a.eval ++ cv)) w := by
              unfold execOp
              rw [eo]
              simp only [resolve, hcv, Deferred.ofValue, Sem.run_bind, Sem.run_pure, Result.andThen_ok, invoke]
              simpa using run_callFunc hcl (xs.map a.eval ++ cv) w
            rw [hrun1, Oper.upon_enter]
            have hvs := map_arr he hxs
            have hvs2 : VTs K γ w h (xs.map a.eval ++ cv) (args.map (X.ev e) ++ caps) := by
              refine ⟨by rw [Array.size_append, hvs.1, hcs, List.length_append], fun i q hq => ?_⟩
              rcases Nat.lt_or_ge i (args.map (X.ev e)).length with hlt | hge
              · rw [List.getElem?_append_left hlt] at hq
                obtain ⟨u, hu, hv⟩ := hvs.2 i q hq
                exact ⟨u, by rw [Array.getElem?_append_left (by rw [hvs.1]; exact hlt)]; exact hu, hv⟩
              · rw [List.getElem?_append_right hge] at hq
                obtain ⟨u, hu, hv⟩ := hcc _ q hq
                exact ⟨u, by rw [Array.getElem?_append_right (by rw [hvs.1]; exact hge), hvs.1]; exact hu, hv.vc.va.vt⟩
            refine (callS_ok hrun s hgo hvs2).mono ?_
            rintro e w' ⟨γ', u, rfl, hv, g⟩
            exact fin γ' w' u g hv
        · cases hgo
      · -- a call in one of the other ways
        rename_i m f args
        unfold chkCall at hop
        split at hop
        · rename_i ei _; cases ei
        · rename_i ei _; cases ei
        · rename_i m' f' args' g xs ts ei eo
          injection ei with e1 e2 e3
          subst e1 e2 e3
          simp only [Bool.and_eq_true, decide_eq_true_eq] at hop
          obtain ⟨rfl, hxs⟩ := hop
          have hcl : callable P g = true := callX_cal hcal hgo
          have hrun1 : (execOp a.eval o).run P w = .ok (.enter g (xs.map a.eval)) w := by
            unfold execOp
            rw [eo]
            simp only [resolve, Act.eval, Deferred.ofValue, Sem.run_bind, Sem.run_pure, Result.andThen_ok, invoke]
            simpa using run_callFunc hcl (xs.map a.eval) w
          rw [hrun1, Oper.upon_enter]
          refine (callX_ok hrun s hgo (map_arr he hxs)).mono ?_
          rintro e w' ⟨γ', u, rfl, hv, g⟩
          exact fin γ' w' u g hv
        · rename_i ei _; cases ei
        · rw [chkOp_callx] at hop; cases hop
      · -- a call of a function's value that keeps the heap
        rename_i fx args
        split at hgo
        · rename_i g caps hfx
          unfold chkCall at hop
          split at hop
          · rename_i ei _; cases ei
          · rename_i ei _; cases ei
          · rename_i ei _; cases ei
          · rename_i y args' x xs ts ei eo
            injection ei with e1 e2
            subst e1 e2
            simp only [Bool.and_eq_true] at hop
            obtain ⟨hx, hxs⟩ := hop
            have hcl : callable P g = true := callX_cal (m := 2) hcal hgo
            have hvx := chkX_ok hx he
            rw [hfx] at hvx
            obtain ⟨cv, hcv, hcs, hcc⟩ := (show VC K γ w h (a.eval x) (.clo g caps) from hvx)
            have hrun1 : (execOp a.eval o).run P w = .ok (.enter g (xs.map a.eval ++ cv)) w := by
              unfold execOp
              rw [eo]
              simp only [resolve, hcv, Deferred.ofValue, Sem.run_bind, Sem.run_pure, Result.andThen_ok, invoke]
              simpa using run_callFunc hcl (xs.map a.eval ++ cv) w
            rw [hrun1, Oper.upon_enter]
            have hvs := map_arr he hxs
            have hvs2 : VTs K γ w h (xs.map a.eval ++ cv) (args.map (X.ev e) ++ caps) := by
              refine ⟨by rw [Array.size_append, hvs.1, hcs, List.length_append], fun i q hq => ?_⟩
              rcases Nat.lt_or_ge i (args.map (X.ev e)).length with hlt | hge
              · rw [List.getElem?_append_left hlt] at hq
                obtain ⟨u, hu, hv⟩ := hvs.2 i q hq
                exact ⟨u, by rw [Array.getElem?_append_left (by rw [hvs.1]; exact hlt)]; exact hu, hv⟩
              · rw [List.getElem?_append_right hge] at hq
                obtain ⟨u, hu, hv⟩ := hcc _ q hq
                exact ⟨u, by rw [Array.getElem?_append_right (by rw [hvs.1]; exact hge), hvs.1]; exact hu, hv.vc.va.vt⟩
            refine (callK_ok hrun s hgo hvs2).mono ?_
            rintro e w' ⟨γ', u, rfl, hv, g⟩
            exact fin γ' w' u g hv
          · rw [chkOp_callvx] at hop; cases hop
        · cases hgo
      · -- any other
        rename_i hn1 hn2 hn3 hn4
        refine plain (ok_op s he ?_ hgo)
        unfold chkCall at hop
        split at hop
        · rename_i eo; exact absurd rfl (hn1 _ _ _ _)
        · rename_i eo; exact absurd rfl (hn2 _ _ _)
        · rename_i eo; exact absurd rfl (hn3 _ _ _)
        · rename_i eo; exact absurd rfl (hn4 _ _)
        · exact hop
    · cases hev
  · rename_i hw
    rw [wants_ok he hg hw]
    injection hev with hev
    injection hev with e1 e2
    subst e1 e2
    simp only [Bool.false_eq_true, if_false]
    rw [hd]
    exact hk γ _ w (Go2.refl s) (he.put hN' ⟨#[], rfl, rfl, fun i c hc => by simp at hc⟩)
  · cases hev

def chkIs (P : Program) (ops : Array Oper) (N : Nat) : Nat → List I → Bool
  | j, [] => decide (j = ops.size)
  | j, i :: r => (match ops[j]? with
    | some o => chkI P ops N o i
    | none => false) && chkIs P ops N (j + 1) r

theorem ok_Is {run : Run} (hrun : RunOK P run) (hcal : RunCal P run) {ops : Array Oper} {Q : Exit → Act → World → Prop} : ∀ (is : List I) (j : Nat) {γ : Gh} {w : World} {h : Heap} {a : Act} {e : Env}, St K γ w h → EnvOK K γ w h N a e → chkIs P ops N j is = true → evIs run is e h = some (e', h') →
    (∀ γ' a' w', Go2 K γ w h γ' w' h' → EnvOK K γ' w' h' N a' e' → Q .normal a' w') → wpOps P ops Q (List.range' j is.length) a w
  | [], j, γ, w, h, a, e, s, he, hc, hev, hQ => by
    simp only [evIs, Option.some.injEq, Prod.mk.injEq] at hev
    obtain ⟨rfl, rfl⟩ := hev
    exact hQ γ a w (Go2.refl s) he
  | i :: r, j, γ, w, h, a, e, s, he, hc, hev, hQ => by
    simp only [chkIs, Bool.and_eq_true] at hc
    obtain ⟨hi, hr⟩ := hc
    unfold evIs at hev
    split at hev
    · rename_i e1 h1 h2
      split at hi
      · rename_i o ho
        rw [List.length_cons, List.range'_succ, wpOps_cons]
        refine ok_I hrun hcal s he hi h2 ho (fun γ1 a1 w1 g1 he1 => ?_)
        exact ok_Is hrun hcal r (j + 1) g1.st he1 hr hev (fun γ2 a2 w2 g2 he2 => hQ γ2 a2 w2 (g1.trans g2) he2)
      · cases hi
    · cases hev

theorem chkIs_len {ops : Array Oper} : ∀ (is : List I) (j : Nat), chkIs P ops N j is = true → j + is.length = ops.size
  | [], j, hc => by simpa [chkIs] using hc
  | i :: r, j, hc => by
    simp only [chkIs, Bool.and_eq_true] at hc
    have := chkIs_len r (j + 1) hc.2
    simp only [List.length_cons]
    omega

theorem ok_text {run : Run} (hrun : RunOK P run) (hcal : RunCal P run) {ops : Array Oper} {Q : Exit → Act → World → Prop} {is : List I} {id : Nat} (s : St K γ w h) (he : EnvOK K γ w h N a e) (hc : chkIs P ops N 0 is = true) (hev : evIs run is e h = some (e', h'))
    (hQ : ∀ γ' a' w', Go2 K γ w h γ' w' h' → EnvOK K γ' w' h' N a' e' → Q .normal a' w') : (Code.region id ops false).wp P Q a w := by
  refine wp_region ?_
  have := ok_Is hrun hcal is 0 s he hc hev hQ
  have hl := chkIs_len is 0 hc
  rw [List.range_eq_range', show ops.size = is.length by omega]
  exact this
end
end Go.Proofs.Ytfbjbkkcilhgjaa.PE
