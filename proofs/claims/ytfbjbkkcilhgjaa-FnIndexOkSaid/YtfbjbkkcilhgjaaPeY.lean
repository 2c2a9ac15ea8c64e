/- Calls: what the evaluator says of a call is what the machine does. -/
import Derived.Test.YtfbjbkkcilhgjaaPeY0
set_option linter.unusedVariables false
set_option linter.unusedSimpArgs false
namespace Go.Proofs.Ytfbjbkkcilhgjaa.PE
open Go.RowKit

/-- What a call hands back. -/
def retV (us : Array Value) : Value := if h : us.size = 1 then us[0] else .tuple us

/-- Values, one by one. -/
def VTs (K : Ct) (γ : Gh) (w : World) (h : Heap) (us : Array Value) (xs : List V) : Prop := us.size = xs.length ∧ ∀ (i : Nat) (x : V), xs[i]? = some x → ∃ u, us[i]? = some u ∧ VT K γ w h u x

theorem VTs.pres {K : Ct} {γ γ' : Gh} {w w' : World} {h h' : Heap} {us : Array Value} {xs : List V} (hp : Pres K γ w h γ' w' h') (hv : VTs K γ w h us xs) : VTs K γ' w' h' us xs :=
  ⟨hv.1, fun i x hx => (hv.2 i x hx).imp fun _ hu => ⟨hu.1, hp _ _ hu.2⟩⟩

/-- The evaluator's calls are the machine's. -/
def RunOK (P : Program) (run : Run) : Prop := ∀ (K : Ct) (γ : Gh) (w : World) (h : Heap) (f : Nat) (args : List V) (rs : List V) (h1 : Heap), run f args h = some (rs, h1) → St K γ w h → ∀ vs : Array Value, VTs K γ w h vs args →
  Calls P f vs w fun e w' => ∃ γ' us, e = .returned (retV us) ∧ VTs K γ' w' h1 us rs ∧ Go2 K γ w h γ' w' h1

section
variable {P : Program} {K : Ct} {γ γ' : Gh} {w w' : World} {h h1 : Heap}

theorem pureA_cells {v v' : V} (hp : pureA h v = some v') : (∃ cs cs', v = .agg cs ∧ v' = .agg cs' ∧ pures h cs = some cs') ∨ pureC h v = some v' := by
  unfold pureA at hp
  split at hp
  · rename_i cs
    obtain ⟨cs', h1, h2⟩ := Option.map_eq_some_iff.1 hp
    exact .inl ⟨cs, cs', rfl, h2.symm, h1⟩
  · exact .inr hp

theorem vc_of_pureC {u : Value} {c c' : V} (hv : VT K γ w h u c) (hc : pureC h c = some c') : VC K γ w h u c := by
  cases c with
  | agg cs => simp [pureC] at hc
  | tup cs => simp [pureC] at hc
  | undef => simp [pureC] at hc
  | clo f cs => simp [pureC] at hc
  | _ => exact hv

theorem pureAs_spec : ∀ {vs vs' : List V}, pureAs h vs = some vs' → vs'.length = vs.length ∧ ∀ (i : Nat) (v' : V), vs'[i]? = some v' → ∃ v, vs[i]? = some v ∧ pureA h v = some v'
  | [], vs', hp => by simp [pureAs] at hp; subst hp; exact ⟨rfl, fun i c hc => by simp at hc⟩
  | v :: vs, vs', hp => by
    unfold pureAs at hp
    split at hp
    · rename_i d ds h1 h2
      injection hp with hp
      subst hp
      obtain ⟨h3, h4⟩ := pureAs_spec h2
      refine ⟨by simp [h3], fun i x hx => ?_⟩
      cases i with
      | zero => simp at hx; subst hx; exact ⟨v, rfl, h1⟩
      | succ i => simp at hx; simpa using h4 i x hx
    · cases hp

theorem RepA.vt {u : Value} {x : V} (hr : RepA w (Im K γ w) u x) : VT K γ w h u x := by
  cases x with
  | agg cs =>
    obtain ⟨vs, rfl, h1, h2⟩ := hr
    exact VA.vt ⟨vs, rfl, h1, fun i c hc => (h2 i c hc).imp fun q hq => ⟨hq.1, rep_vc hq.2⟩⟩
  | _ => exact (rep_vc hr).va.vt
theorem RepA.mono {im im' : Nat → Prop} (hm : ∀ b, im b → im' b ∧ w'.heap[b]? = w.heap[b]?) {u : Value} {x : V} (hr : RepA w im u x) : RepA w' im' u x := by
  cases x with
  | agg cs =>
    obtain ⟨vs, rfl, h1, h2⟩ := hr
    exact ⟨vs, rfl, h1, fun i c hc => (h2 i c hc).imp fun q hq => ⟨hq.1, hq.2.mono hm⟩⟩
  | _ => exact Rep.mono hm hr

/-- Made pure: behind the freezing of what it leads to. -/
theorem pureA_ok {ids : List Nat} (g : Go2 K γ w h γ' w (frzs h ids)) {u : Value} {v v' : V} (hv : VT K γ w h u v) (hp : pureA h v = some v') (hm : ∀ id ∈ refsA v, id ∈ ids) : RepA w (Im K γ' w) u v' := by
  rcases pureA_cells hp with ⟨cs, cs', rfl, rfl, hps⟩ | hpc
  · obtain ⟨vs, rfl, h1, h2⟩ := hv.agg
    obtain ⟨h3, h4⟩ := pures_spec hps
    refine ⟨vs, rfl, by omega, fun i c hc => ?_⟩
    obtain ⟨d, hd, hpd⟩ := h4 i c hc
    obtain ⟨q, hq, hvq⟩ := h2 i d hd
    exact ⟨q, hq, pureC_ok g hvq hpd (fun id hid => hm id (refs_mem hd id hid))⟩
  · have hr := pureC_ok g (vc_of_pureC hv hpc) hpc (fun id hid => hm id (by
      cases v with
      | agg cs => simp [pureC] at hpc
      | _ => exact hid))
    cases v' with
    | agg cs => cases hr
    | _ => exact hr

theorem refsAs_mem {vs : List V} {i : Nat} {v : V} (hv : vs[i]? = some v) : ∀ id ∈ refsA v, id ∈ refsAs vs := fun id hid => List.mem_flatMap.2 ⟨v, List.mem_of_getElem? hv, hid⟩

/-- A row that is led to is one of the heap's. -/
theorem refs_rows {v v' : V} (hp : pureA h v = some v') : ∀ id ∈ refsA v, (∃ st sz cont, h[id]? = some (.rows st sz cont)) ∨ ∃ st sz cont, h[id]? = some (.frz st sz cont) := by
  have one : ∀ c c', pureC h c = some c' → ∀ id ∈ refC c, (∃ st sz cont, h[id]? = some (.rows st sz cont)) ∨ ∃ st sz cont, h[id]? = some (.frz st sz cont) := by
    intro c c' hc id hid
    cases c with
    | ref id' st off len clip =>
      simp [refC] at hid
      subst hid
      simp only [pureC] at hc
      split at hc
      · rename_i hb; exact .inl ⟨_, _, _, hb⟩
      · rename_i hb; exact .inr ⟨_, _, _, hb⟩
      · cases hc
    | _ => simp [refC] at hid
  rcases pureA_cells hp with ⟨cs, cs', rfl, rfl, hps⟩ | hpc
  · obtain ⟨h3, h4⟩ := pures_spec hps
    intro id hid
    have : ∀ (cs cs' : List V), pures h cs = some cs' → ∀ id ∈ refs cs, (∃ st sz cont, h[id]? = some (.rows st sz cont)) ∨ ∃ st sz cont, h[id]? = some (.frz st sz cont) := by
      intro cs
      induction cs with
      | nil => intro cs' _ id hid; cases hid
      | cons c cs ih =>
        intro cs' hps id hid
        unfold pures at hps
        split at hps
        · rename_i d ds h1 h2
          rcases List.mem_append.1 hid with hid | hid
          · exact one c d h1 id hid
          · exact ih ds h2 id hid
        · cases hps
    exact this cs cs' hps id hid
  · cases v with
    | agg cs => simp [pureC] at hpc
    | _ => exact one _ _ hpc

/-- The blocks that a call may read. -/
def okP (K : Ct) (γ : Gh) (w : World) (ids : List Nat) (b : Nat) : Prop := Im K γ w b ∨ ∃ id ∈ ids, ∃ o, γ id = some (b, o)

theorem st_empty (w : World) (ok : Nat → Prop) : St ⟨w, ok⟩ (fun _ => none) w [] := ⟨Below.refl _ _, fun id b hid => by simp at hid, fun _ _ => rfl, fun _ _ _ _ _ e => by cases e⟩

/-- What a pure value reads lies in what the call may read. -/
theorem rep_okP (s : St K γ w h) {ids : List Nat} {u : Value} {c c' : V} (hv : VC K γ w h u c) (hc : pureC h c = some c') (hm : ∀ id ∈ refC c, id ∈ ids) : Rep w (Im ⟨w, okP K γ w ids⟩ (fun _ => none) w) u c' := by
  have him : ∀ b, Im K γ w b → Im ⟨w, okP K γ w ids⟩ (fun _ => none) w b ∧ w.heap[b]? = w.heap[b]? := fun b hb => ⟨⟨hb.1, fun _ => .inl hb, fun _ _ _ e => by cases e⟩, rfl⟩
  cases c with
  | int k n => simp [pureC] at hc; subst hc; rw [show u = _ from hv]; exact .int k n
  | bool b => simp [pureC] at hc; subst hc; rw [show u = _ from hv]; exact .bool b
  | str b => simp [pureC] at hc; subst hc; rw [show u = _ from hv]; exact .str b
  | sl c sz xs => simp [pureC] at hc; subst hc; exact Rep.mono him hv
  | ref id st off len clip =>
    obtain ⟨A, cap, rfl, h1, h2, hp⟩ := hv
    have hid := hm id (by simp [refC])
    simp only [pureC] at hc
    split at hc
    · rename_i st' sz cont hb
      rw [hb] at hp
      split at hc
      · rename_i e1
        subst e1
        injection hc with hc
        subst hc
        obtain ⟨h3, h4⟩ := hp.2 rfl
        obtain ⟨hz, hl, hB⟩ := s.blk id _ hb
        cases hg : γ id with
        | none =>
          rw [hg] at h4 hB
          subst hB
          have hlen : len = 0 := by simp at h3; omega
          subst hlen
          have : ((([] : List (List V)).drop off).take 0) = [] := by simp
          rw [this]
          exact rep_empty hz (fun hc => h2 hc)
        | some p =>
          obtain ⟨g, o⟩ := p
          rw [hg] at h4 hB
          obtain ⟨_, cs, hcs, _, hrep⟩ := hB
          exact rep_of_rows hz hl ⟨(s.owned hg).2, fun _ => .inr ⟨id, hid, o, hg⟩, fun _ _ _ e => by cases e⟩
            (fun j c x y hx hy => by
              obtain ⟨u, hu, hr⟩ := hrep j c x y hx hy
              exact ⟨u, (hcs.cell _).trans hu, hr.mono him⟩) h1 h2 h3 (fun hcap => (h4 hcap).1)
      · cases hc
    · rename_i st' sz cont hb
      rw [hb] at hp
      split at hc
      · rename_i e1
        subst e1
        injection hc with hc
        subst hc
        exact (hp.2.2 rfl).2.mono him
      · cases hc
    · cases hc
  | ptr id st el off => simp [pureC] at hc
  | nsl sz xs => simp [pureC] at hc
  | fp cs => simp [pureC] at hc
  | clo f cs => simp [pureC] at hc
  | undef => simp [pureC] at hc
  | agg cs => simp [pureC] at hc
  | tup cs => simp [pureC] at hc

theorem repA_okP (s : St K γ w h) {ids : List Nat} {u : Value} {v v' : V} (hv : VT K γ w h u v) (hp : pureA h v = some v') (hm : ∀ id ∈ refsA v, id ∈ ids) : RepA w (Im ⟨w, okP K γ w ids⟩ (fun _ => none) w) u v' := by
  rcases pureA_cells hp with ⟨cs, cs', rfl, rfl, hps⟩ | hpc
  · obtain ⟨vs, rfl, h1, h2⟩ := hv.agg
    obtain ⟨h3, h4⟩ := pures_spec hps
    refine ⟨vs, rfl, by omega, fun i c hc => ?_⟩
    obtain ⟨d, hd, hpd⟩ := h4 i c hc
    obtain ⟨q, hq, hvq⟩ := h2 i d hd
    exact ⟨q, hq, rep_okP s hvq hpd (fun id hid => hm id (refs_mem hd id hid))⟩
  · have hr := rep_okP s (vc_of_pureC hv hpc) hpc (fun id hid => hm id (by
      cases v with
      | agg cs => simp [pureC] at hpc
      | _ => exact hid))
    cases v' with
    | agg cs => cases hr
    | _ => exact hr

theorem retV_one (u : Value) : retV #[u] = u := rfl

/-- One result, or several. -/
theorem oneOf_vt {us : Array Value} {rs : List V} (hv : us.size = rs.length) (hr : ∀ (i : Nat) (x : V), rs[i]? = some x → ∃ u, us[i]? = some u ∧ VT K γ w h u x ∧ (VA K γ w h u x ∨ rs.length = 1)) : VT K γ w h (retV us) (oneOf rs) := by
  match rs, hv, hr with
  | [r], hv, hr =>
    obtain ⟨u, hu, hvu, _⟩ := hr 0 r rfl
    have : us = #[u] := by
      apply Array.ext'
      have h1 : us.toList.length = 1 := by simpa using hv
      match hl : us.toList, h1 with
      | [x], _ =>
        rw [← Array.getElem?_toList, hl] at hu
        simp at hu
        subst hu
        rfl
    subst this
    exact hvu
  | [], hv, hr =>
    have : us = #[] := Array.eq_empty_of_size_eq_zero (by simpa using hv)
    subst this
    exact ⟨#[], rfl, rfl, fun i c hc => by simp at hc⟩
  | a :: b :: r, hv, hr =>
    have hne : ¬ us.size = 1 := by simp at hv; omega
    refine ⟨us, by unfold retV; rw [dif_neg hne], by simpa using hv, fun i c hc => ?_⟩
    obtain ⟨u, hu, _, hva⟩ := hr i c hc
    rcases hva with hva | hva
    · exact ⟨u, hu, hva⟩
    · simp at hva

theorem RepA.va {u : Value} {x : V} (hr : RepA w (Im K γ w) u x) : VA K γ w h u x := by
  cases x with
  | agg cs =>
    obtain ⟨vs, rfl, h1, h2⟩ := hr
    exact ⟨vs, rfl, h1, fun i c hc => (h2 i c hc).imp fun q hq => ⟨hq.1, rep_vc hq.2⟩⟩
  | _ => exact (rep_vc hr).va

theorem rep_scalar {im im' : Nat → Prop} {u : Value} {x : V} (hs : scalar x = true) (hr : Rep w im u x) : Rep w im' u x := by
  cases hr with
  | int k n => exact .int k n
  | bool b => exact .bool b
  | str s => exact .str s
  | sl => cases hs
theorem repA_scalar {im im' : Nat → Prop} {u : Value} {x : V} (hs : scalarA x = true) (hr : RepA w im u x) : RepA w im' u x := by
  cases x with
  | agg cs =>
    obtain ⟨vs, rfl, h1, h2⟩ := hr
    simp only [scalarA, List.all_eq_true] at hs
    exact ⟨vs, rfl, h1, fun i c hc => (h2 i c hc).imp fun q hq => ⟨hq.1, rep_scalar (hs c (List.mem_of_getElem? hc)) hq.2⟩⟩
  | _ => exact rep_scalar hs hr

/-- Results told as values. -/
theorem pureRs_rep (s : St K γ w h) {us : Array Value} {rs rs' : List V} (hus : VTs K γ w h us rs) (hp : pureRs h rs = some rs') : rs'.length = rs.length ∧ ∀ (i : Nat) (x : V), rs'[i]? = some x → ∃ u, us[i]? = some u ∧ RepA w (Im K (fun _ => none) w) u x := by
  unfold pureRs OrD at hp
  split at hp
  · rename_i r hr
    injection hp with hp
    subst hp
    obtain ⟨b1, b2⟩ := pureAs_spec hr
    refine ⟨b1, fun i x hx => ?_⟩
    obtain ⟨v, hv, hp⟩ := b2 i x hx
    obtain ⟨u, hu, hvu⟩ := hus.2 i v hv
    obtain ⟨γ2, g2, _, _⟩ := st_frzs (refsAs rs) s
    exact ⟨u, hu, (pureA_ok g2 hvu hp (refsAs_mem hv)).mono im_none⟩
  · obtain ⟨b1, b2⟩ := pureDAs_spec hp
    refine ⟨b1, fun i x hx => ?_⟩
    obtain ⟨v, hv, hp⟩ := b2 i x hx
    obtain ⟨u, hu, hvu⟩ := hus.2 i v hv
    exact ⟨u, hu, pureDA_rep s hvu hp⟩

/-- A result and numbers behind it. -/
theorem scalar_va {K' : Ct} {γ2 : Gh} {w2 : World} {h2 : Heap} {u : Value} {x : V} (hs : scalar x = true) (hv : VT K γ w h u x) : VA K' γ2 w2 h2 u x := by
  cases x with
  | int k n => exact hv
  | bool b => exact hv
  | str s => exact hv
  | _ => cases hs
theorem more_vt {K' : Ct} {γ2 : Gh} {w2 : World} {h2 : Heap} {us : Array Value} {r x : V} {ss : List V} (hus : VTs K γ w h us (r :: ss)) (hss : ss.all scalar = true) {u : Value} (hu : us[0]? = some u) (hx : VA K' γ2 w2 h2 u x) : VT K' γ2 w2 h2 (retV us) (oneOf (x :: ss)) := by
  refine oneOf_vt (by rw [hus.1, List.length_cons, List.length_cons]) (fun i y hy => ?_)
  cases i with
  | zero =>
    simp at hy
    subst hy
    exact ⟨u, hu, hx.vt, .inl hx⟩
  | succ i =>
    simp at hy
    obtain ⟨v, hv, hvt⟩ := hus.2 (i + 1) y (by simpa using hy)
    have hs : scalar y = true := by rw [List.all_eq_true] at hss; exact hss y (List.mem_of_getElem? hy)
    have := scalar_va (K' := K') (γ2 := γ2) (w2 := w2) (h2 := h2) hs hvt
    exact ⟨v, hv, this.vt, .inl this⟩

/-- A call that is handed values alone. -/
theorem callP_ok {run : Run} (hrun : RunOK P run) (s : St K γ w h) {f : Nat} {args : List V} {keep : Bool} {x : V} {h' : Heap} (hev : callP run h f args keep = some (x, h')) {vs : Array Value} (hvs : VTs K γ w h vs args) :
    Calls P f vs w fun e w' => ∃ γ' v, e = .returned v ∧ VT K γ' w' h' v x ∧ Go2 K γ w h γ' w' h' := by
  unfold callP at hev
  split at hev
  · cases hev
  rename_i args' hargs
  split at hev
  · cases hev
  rename_i rs hc hr
  obtain ⟨a1, a2⟩ := pureAs_spec hargs
  have hids : ∀ id ∈ refsAs args, (∃ st sz cont, h[id]? = some (.rows st sz cont)) ∨ ∃ st sz cont, h[id]? = some (.frz st sz cont) := by
    intro id hid
    obtain ⟨v, hv, hid⟩ := List.mem_flatMap.1 hid
    obtain ⟨i, hi⟩ := List.getElem?_of_mem hv
    have hi' : i < args'.length := by
      have := (List.getElem?_eq_some_iff.1 hi).1
      omega
    obtain ⟨v2, hv2, hp2⟩ := a2 i _ (List.getElem?_eq_getElem hi')
    rw [hi] at hv2
    injection hv2 with hv2
    subst hv2
    exact refs_rows hp2 id hid
  have hcall := hrun ⟨w, okP K γ w (refsAs args)⟩ (fun _ => none) w [] f args' rs hc hr (st_empty w _) vs ⟨by rw [hvs.1, a1], fun i x hx => by
    obtain ⟨v, hv, hp⟩ := a2 i x hx
    obtain ⟨u, hu, hvu⟩ := hvs.2 i v hv
    exact ⟨u, hu, (repA_okP s hvu hp (refsAs_mem hv)).vt⟩⟩
  refine hcall.mono ?_
  rintro e w' ⟨γc, us, rfl, hus, hgo⟩
  have hb : Below w.heap.size w w' := hgo.st.below
  obtain ⟨γ1, g1, gs1, gn1⟩ := st_frzs (refsAs args) s
  -- what the callee's results may lie in is written no more, once the arguments' rows are frozen
  have him : ∀ γx b, Im ⟨w, okP K γ w (refsAs args)⟩ γx w' b → Im K γ1 w' b := by
    intro γx b ⟨hb1, hb2, hb3⟩
    rcases Nat.lt_or_ge b w.heap.size with hlt | hge
    · rcases hb2 hlt with hi | ⟨id, hid, o, hg⟩
      · have := (g1.im b hi).1
        exact ⟨hb1, this.2.1, this.2.2⟩
      · refine ⟨hb1, fun h5 => absurd h5 (by have := (s.owned hg).1; omega), fun i g o' hi => ?_⟩
        rintro rfl
        have e1 := s.inj i id _ _ _ (gs1 i _ _ hi) hg
        subst e1
        rcases hids i hid with ⟨st, sz, cont, hrow⟩ | ⟨st, sz, cont, hfr⟩
        · rw [gn1 i hid _ _ _ hrow] at hi
          cases hi
        · have := s.blk i _ hfr
          rw [this.2.2] at hg
          cases hg
    · refine ⟨hb1, fun h5 => absurd h5 (by have := s.size; omega), fun i g o' hi => ?_⟩
      have := (s.owned (gs1 i g o' hi)).2
      omega
  split at hev
  · -- a new row of one's own
    split at hev
    · rename_i id st off len clip ss
      split at hev
      · rename_i st' sz cont hb1
        split at hev
        · rename_i hst
          obtain ⟨hst, hss⟩ := hst
          subst hst
          injection hev with hev
          injection hev with e1 e2
          subst e1 e2
          obtain ⟨u, hu, hvu⟩ := hus.2 0 _ rfl
          obtain ⟨A, cap, rfl, k1, k2, hp⟩ := hvu.ref
          rw [hb1] at hp
          obtain ⟨k3, k4⟩ := hp.2 rfl
          obtain ⟨hz, hl, hB⟩ := hgo.st.blk id _ hb1
          have hpl : ((cont.drop off).take len).length = len := by simp; omega
          rw [← frzs_length (refsAs args) h]
          cases hg : γc id with
          | none =>
            rw [hg] at k4 hB
            subst hB
            have hl0 : len = 0 := by omega
            subst hl0
            have g2 := st_add g1.st (.rows 0 sz []) none hb (fun _ _ e => by cases e) (fun _ => ⟨hz, (fun x hx => by cases hx), by rw [upd_self]⟩)
            simp only [List.drop_nil, List.take_nil]
            refine ⟨_, _, rfl, more_vt hus hss hu ⟨A, cap, rfl, k1, k2, ?_⟩, g1.trans (Go2.of g2)⟩
            rw [List.getElem?_concat_length]
            refine ⟨Nat.le_refl _, fun _ => ⟨by simp, ?_⟩⟩
            rw [upd_self]
            exact k4
          | some p =>
            obtain ⟨g, o⟩ := p
            rw [hg] at k4 hB
            obtain ⟨hg0, cs, hcs, hsz0, hrep⟩ := hB
            have hcapk : 0 < cap → A = some ⟨g, o + off * sz, none⟩ ∧ o + (off + cap) * sz ≤ cs.size := fun hcap => by
              obtain ⟨e1, cs', hcs', hfit⟩ := k4 hcap
              have := hcs.unique hcs'
              subst this
              exact ⟨e1, hfit⟩
            have g2 := st_add (w' := w') g1.st (.rows 0 sz ((cont.drop off).take len)) (some (g, o + off * sz)) hb (fun g' o' e => by
                injection e with e
                injection e with e _
                subst e
                exact hg0)
              (fun tr => by
                refine ⟨hz, fun x hx => hl x (List.mem_of_mem_drop (List.mem_of_mem_take hx)), ?_⟩
                rw [upd_self]
                refine ⟨Nat.le_trans s.size hg0, cs, hcs, ?_, fun j c x y hx hy => ?_⟩
                · rw [hpl]
                  have : (off + len) * sz ≤ cont.length * sz := Nat.mul_le_mul_right _ k3
                  rw [Nat.add_mul] at this
                  omega
                · have hj : j < len := by
                    have := (List.getElem?_eq_some_iff.1 hx).1
                    omega
                  rw [List.getElem?_take_of_lt hj, List.getElem?_drop] at hx
                  obtain ⟨q, hq, hrq⟩ := hrep (off + j) c x y hx hy
                  refine ⟨q, by rw [← hq]; congr 1; rw [Nat.add_mul]; omega, hrq.mono (fun b hb => ⟨?_, rfl⟩)⟩
                  have h1 := him _ b hb
                  refine ⟨h1.1, h1.2.1, fun i g' o' hi => ?_⟩
                  by_cases ei : i = (frzs h (refsAs args)).length
                  · subst ei
                    rw [upd_self] at hi
                    injection hi with hi
                    injection hi with hi _
                    subst hi
                    exact hb.2.2 id g o hg
                  · rw [upd_ne _ _ ei] at hi
                    exact h1.2.2 i g' o' hi)
            refine ⟨_, _, rfl, more_vt hus hss hu ⟨A, cap, rfl, k1, k2, ?_⟩, g1.trans (Go2.of g2)⟩
            rw [List.getElem?_concat_length]
            refine ⟨Nat.le_refl _, fun _ => ⟨by omega, ?_⟩⟩
            rw [upd_self]
            intro hcap
            obtain ⟨e1, e2⟩ := hcapk hcap
            refine ⟨by rw [e1]; simp, cs, hcs, ?_⟩
            rw [Nat.zero_add]
            rw [Nat.add_mul] at e2
            omega
        · cases hev
      · cases hev
    · rename_i sz ss
      split at hev
      rotate_left
      · cases hev
      rename_i hss
      injection hev with hev
      injection hev with e1 e2
      subst e1 e2
      obtain ⟨u, hu, hvu⟩ := hus.2 0 _ rfl
      obtain ⟨A, cap, rfl, _, hcap, hz⟩ := rep_slice hvu.sl
      have hc0 : cap = 0 := hcap rfl
      subst hc0
      have g2 := st_add (w' := w') s (.rows 0 sz []) none hb (fun _ _ e => by cases e) (fun _ => ⟨hz, (fun x hx => by cases hx), by rw [upd_self]⟩)
      refine ⟨_, _, rfl, more_vt hus hss hu ⟨A, 0, rfl, Nat.le_refl _, fun _ => rfl, ?_⟩, Go2.of g2⟩
      rw [List.getElem?_concat_length]
      refine ⟨Nat.le_refl _, fun _ => ⟨by simp, ?_⟩⟩
      rw [upd_self]
    · cases hev
  · split at hev
    · rename_i rs' hrs
      injection hev with hev
      injection hev with e1 e2
      subst e1
      obtain ⟨b1, hres⟩ := pureRs_rep hgo.st hus hrs
      have hsz : us.size = rs'.length := by rw [hus.1, b1]
      by_cases hsc : rs'.all scalarA = true
      · rw [if_pos hsc] at e2
        subst e2
        have g2 := st_grow s hb
        refine ⟨γ, _, rfl, oneOf_vt hsz (fun i x hx => ?_), Go2.of g2⟩
        obtain ⟨u, hu, hr⟩ := hres i x hx
        rw [List.all_eq_true] at hsc
        have hr2 : RepA w' (Im K γ w') u x := repA_scalar (hsc x (List.mem_of_getElem? hx)) hr
        exact ⟨u, hu, hr2.vt, .inl hr2.va⟩
      · rw [if_neg hsc] at e2
        subst e2
        have g2 := g1.trans (Go2.of (st_grow g1.st hb))
        refine ⟨γ1, _, rfl, oneOf_vt hsz (fun i x hx => ?_), g2⟩
        obtain ⟨u, hu, hr⟩ := hres i x hx
        have hr2 : RepA w' (Im K γ1 w') u x := hr.mono (fun b hb => ⟨him _ b hb, rfl⟩)
        exact ⟨u, hu, hr2.vt, .inl hr2.va⟩
    · cases hev
end
end Go.Proofs.Ytfbjbkkcilhgjaa.PE
