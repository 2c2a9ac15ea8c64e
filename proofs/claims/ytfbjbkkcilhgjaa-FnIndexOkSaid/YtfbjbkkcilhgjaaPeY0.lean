/- Values told to the bottom: what they say of memory. -/
import Derived.Test.YtfbjbkkcilhgjaaPeU
import Derived.Test.YtfbjbkkcilhgjaaPeK
namespace Go.Proofs.Ytfbjbkkcilhgjaa.PE
open Go.RowKit

theorem mapO_spec {α β : Type} {f : α → Option β} : ∀ {l : List α} {l' : List β}, mapO f l = some l' → l'.length = l.length ∧ ∀ (i : Nat) (y : β), l'[i]? = some y → ∃ x, l[i]? = some x ∧ f x = some y
  | [], l', hp => by simp [mapO] at hp; subst hp; exact ⟨rfl, fun i c hc => by simp at hc⟩
  | v :: vs, l', hp => by
    unfold mapO at hp
    split at hp
    · rename_i d ds h1 h2
      injection hp with hp
      subst hp
      obtain ⟨h3, h4⟩ := mapO_spec h2
      refine ⟨by simp [h3], fun i x hx => ?_⟩
      cases i with
      | zero => simp at hx; subst hx; exact ⟨v, rfl, h1⟩
      | succ i => simp at hx; simpa using h4 i x hx
    · cases hp

/-- A value of pure cells alone. -/
def RepA (w : World) (im : Nat → Prop) (u : Value) : V → Prop
  | .agg cs => ∃ vs, u = .agg vs ∧ vs.size = cs.length ∧ ∀ (i : Nat) (c : V), cs[i]? = some c → ∃ q, vs[i]? = some q ∧ Rep w im q c
  | x => Rep w im u x

section
variable {P : Program} {K : Ct} {γ γ' : Gh} {w w' : World} {h h1 : Heap}

theorem im_none (b : Nat) (hb : Im K γ w b) : Im K (fun _ => none) w b ∧ w.heap[b]? = w.heap[b]? := ⟨⟨hb.1, hb.2.1, fun _ _ _ e => by cases e⟩, rfl⟩
/-- The boxes that are left. -/
def liveG (h : Heap) (γ : Gh) : Gh := fun id => match (h.map deadB)[id]? with
  | some (.box _) => γ id
  | _ => none
theorem liveG_some {id g o : Nat} (e : liveG h γ id = some (g, o)) : γ id = some (g, o) ∧ ∃ cs, h[id]? = some (.box cs) := by
  unfold liveG at e
  rw [List.getElem?_map] at e
  cases hb : h[id]? with
  | none => rw [hb] at e; cases e
  | some b =>
    rw [hb] at e
    cases b with
    | box cs => refine ⟨?_, cs, rfl⟩; simp only [Option.map_some, deadB] at e; split at e <;> first | exact e | cases e
    | _ => cases e
theorem im_live (b : Nat) (hb : Im K γ w b) : Im K (liveG h γ) w b ∧ w.heap[b]? = w.heap[b]? := ⟨⟨hb.1, hb.2.1, fun _ _ _ e => hb.2.2 _ _ _ (liveG_some e).1⟩, rfl⟩
theorem im_own (s : St K γ w h) {id g o : Nat} {b : Blk} (hg : γ id = some (g, o)) (hb : h[id]? = some b) (hn : ∀ cs, b ≠ .box cs) : Im K (liveG h γ) w g :=
  ⟨(s.owned hg).2, fun h5 => absurd h5 (by have := (s.owned hg).1; omega), fun id' g' o' e hgg => by
    subst hgg
    obtain ⟨e1, cs, e2⟩ := liveG_some e
    have := s.inj _ _ _ _ _ e1 hg
    subst this
    rw [hb] at e2
    injection e2 with e2
    exact hn cs e2⟩

theorem pureD_rep (s : St K γ w h) : ∀ (f : Nat) {u : Value} {c c' : V}, VC K γ w h u c → pureD h f c = some c' → Rep w (Im K (liveG h γ) w) u c' := by
  intro f
  induction f with
  | zero =>
    intro u c c' hv hc
    cases c with
    | int k n => simp [pureD] at hc; subst hc; rw [show u = _ from hv]; exact .int k n
    | bool b => simp [pureD] at hc; subst hc; rw [show u = _ from hv]; exact .bool b
    | str b => simp [pureD] at hc; subst hc; rw [show u = _ from hv]; exact .str b
    | sl c sz xs => simp [pureD] at hc; subst hc; exact Rep.mono im_live hv
    | _ => simp [pureD] at hc
  | succ f ih =>
    intro u c c' hv hc
    cases c with
    | int k n => simp [pureD] at hc; subst hc; rw [show u = _ from hv]; exact .int k n
    | bool b => simp [pureD] at hc; subst hc; rw [show u = _ from hv]; exact .bool b
    | str b => simp [pureD] at hc; subst hc; rw [show u = _ from hv]; exact .str b
    | sl c sz xs => simp [pureD] at hc; subst hc; exact Rep.mono im_live hv
    | ref id st off len clip =>
      obtain ⟨A, cap, rfl, h1, h2, hp⟩ := hv
      simp only [pureD] at hc
      split at hc
      · rename_i st' sz cont hb
        rw [hb] at hp
        split at hc
        · rename_i e1
          subst e1
          injection hc with hc
          subst hc
          obtain ⟨h3, h4⟩ := hp.2 rfl
          obtain ⟨hz, hl, hB⟩ := s.blk id _ hb
          cases hg : γ id with
          | none =>
            rw [hg] at h4 hB
            subst hB
            have hlen : len = 0 := by simp at h3; omega
            subst hlen
            have : ((([] : List (List V)).drop off).take 0) = [] := by simp
            rw [this]
            exact rep_empty hz (fun hc => h2 hc)
          | some p =>
            obtain ⟨g, o⟩ := p
            rw [hg] at h4 hB
            obtain ⟨_, cs, hcs, _, hrep⟩ := hB
            exact rep_of_rows hz hl (im_own s hg hb (fun _ e => by cases e))
              (fun j c x y hx hy => by
                obtain ⟨u, hu, hr⟩ := hrep j c x y hx hy
                exact ⟨u, (hcs.cell _).trans hu, hr.mono im_live⟩) h1 h2 h3 (fun hcap => (h4 hcap).1)
        · cases hc
      · rename_i st' sz cont hb
        rw [hb] at hp
        split at hc
        · rename_i e1
          subst e1
          injection hc with hc
          subst hc
          exact (hp.2.2 rfl).2.mono im_live
        · cases hc
      · rename_i st' sz cont hb
        rw [hb] at hp
        split at hc
        · rename_i e1
          subst e1
          obtain ⟨xs, hxs, rfl⟩ := Option.map_eq_some_iff.1 hc
          obtain ⟨h3, h4⟩ := hp.2 rfl
          obtain ⟨hz, hl, hB⟩ := s.blk id _ hb
          obtain ⟨m1, m2⟩ := mapO_spec hxs
          have hll : ((cont.drop off).take len).length = len := by simp; omega
          cases hg : γ id with
          | none =>
            rw [hg] at h4 hB
            subst hB
            have hlen : len = 0 := by simp at h3; omega
            subst hlen
            have hx0 : xs = [] := List.eq_nil_of_length_eq_zero (by omega)
            subst hx0
            exact rep_empty hz (fun hc => h2 hc)
          | some p =>
            obtain ⟨g, o⟩ := p
            rw [hg] at h4 hB
            obtain ⟨_, cs, hcs, _, hrep⟩ := hB
            let us : Nat → Nat → Value := fun j c => (w.cell? ⟨g, o + off * sz + j * sz + c, none⟩).getD undef
            have key : ∀ (j c : Nat) (x : List V) (y : V), xs[j]? = some x → x[c]? = some y → w.cell? ⟨g, o + off * sz + j * sz + c, none⟩ = some (us j c) ∧ Rep w (Im K (liveG h γ) w) (us j c) y := by
              intro j c x y hx hy
              obtain ⟨x0, hx0, hx1⟩ := m2 j x hx
              obtain ⟨n1, n2⟩ := mapO_spec hx1
              obtain ⟨y0, hy0, hy1⟩ := n2 c y hy
              have hj : j < len := by
                have := (List.getElem?_eq_some_iff.1 hx0).1
                omega
              rw [List.getElem?_take_of_lt hj, List.getElem?_drop] at hx0
              obtain ⟨u, hu, hr⟩ := hrep (off + j) c x0 y0 hx0 hy0
              have e : o + (off + j) * sz + c = o + off * sz + j * sz + c := by rw [Nat.add_mul]; omega
              rw [e] at hu
              have hcell := (hcs.cell _).trans hu
              have : us j c = u := by simp [us, hcell]
              rw [this]
              exact ⟨hcell, ih (vr_vc hr) hy1⟩
            refine .sl A len cap clip xs sz us (by omega) h1 h2 hz (fun x hx => ?_) (fun hn => ?_) (fun j c x y hx hy => (key j c x y hx hy).2)
            · obtain ⟨j, hj⟩ := List.getElem?_of_mem hx
              obtain ⟨x0, hx0, hx1⟩ := m2 j x hj
              rw [(mapO_spec hx1).1]
              exact hl x0 (List.mem_of_mem_drop (List.mem_of_mem_take (List.mem_of_getElem? hx0)))
            · exact ⟨g, o + off * sz, (h4 (by omega)).1, im_own s hg hb (fun _ e => by cases e), fun j c x y hx hy => (key j c x y hx hy).1⟩
        · cases hc
      · cases hc
    | _ => simp [pureD] at hc

theorem vc_of_pureD {f : Nat} {u : Value} {c c' : V} (hv : VT K γ w h u c) (hc : pureD h f c = some c') : VC K γ w h u c := by
  cases c with
  | agg cs => cases f <;> simp [pureD] at hc
  | tup cs => cases f <;> simp [pureD] at hc
  | undef => cases f <;> simp [pureD] at hc
  | clo g cs => cases f <;> simp [pureD] at hc
  | _ => exact hv

theorem pureDA_repL (s : St K γ w h) {u : Value} {v v' : V} (hv : VT K γ w h u v) (hp : pureDA h v = some v') : RepA w (Im K (liveG h γ) w) u v' := by
  unfold pureDA at hp
  split at hp
  · rename_i cs
    obtain ⟨cs', h1, rfl⟩ := Option.map_eq_some_iff.1 hp
    obtain ⟨vs, rfl, h2, h3⟩ := hv.agg
    obtain ⟨h4, h5⟩ := mapO_spec h1
    refine ⟨vs, rfl, by omega, fun i c hc => ?_⟩
    obtain ⟨d, hd, hpd⟩ := h5 i c hc
    obtain ⟨q, hq, hvq⟩ := h3 i d hd
    exact ⟨q, hq, pureD_rep s _ hvq hpd⟩
  · have hr := pureD_rep s _ (vc_of_pureD hv hp) hp
    cases v' with
    | agg cs => cases hr
    | _ => exact hr

theorem pureDA_rep (s : St K γ w h) {u : Value} {v v' : V} (hv : VT K γ w h u v) (hp : pureDA h v = some v') : RepA w (Im K (fun _ => none) w) u v' := by
  have hr := pureDA_repL s hv hp
  cases v' with
  | agg cs =>
    obtain ⟨vs, e, h2, h3⟩ := hr
    refine ⟨vs, e, h2, fun i c hc => ?_⟩
    obtain ⟨q, hq, hr⟩ := h3 i c hc
    exact ⟨q, hq, hr.mono im_none⟩
  | _ => exact Rep.mono im_none hr

theorem pureDAs_spec {vs vs' : List V} (hp : pureDAs h vs = some vs') : vs'.length = vs.length ∧ ∀ (i : Nat) (v' : V), vs'[i]? = some v' → ∃ v, vs[i]? = some v ∧ pureDA h v = some v' := mapO_spec hp
end
end Go.Proofs.Ytfbjbkkcilhgjaa.PE
