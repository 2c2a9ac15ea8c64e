/- Calls that share the heap. -/
import Derived.Test.YtfbjbkkcilhgjaaPeY
namespace Go.Proofs.Ytfbjbkkcilhgjaa.PE
open Go.RowKit

section
variable {P : Program} {K : Ct} {γ γ' : Gh} {w w' : World} {h h1 : Heap}

theorem frzs_take : ∀ (ids : List Nat) (h : Heap) (n : Nat), (∀ id ∈ ids, n ≤ id) → (frzs h ids).take n = h.take n := by
  intro ids h n hid
  apply List.ext_getElem?
  intro i
  by_cases hi : i < n
  · rw [List.getElem?_take_of_lt hi, List.getElem?_take_of_lt hi, frzs_other]
    intro hm
    have := hid i hm
    omega
  · rw [List.getElem?_take_eq_none (by omega), List.getElem?_take_eq_none (by omega)]

/-- Back from a call: what it made for itself is forgotten. -/
theorem trim_go (g : Go2 K γ w h γ' w' h1) {p : Option (Nat × Nat)} {bs : List Blk} (hp : ∀ g o, p = some (g, o) → ∃ id o', h.length ≤ id ∧ γ' id = some (g, o')) (hn : h.length ≤ h1.length)
    (hH : hiH h.length (h1.take h.length) = true) (hbs : bs.length ≤ 1) (hpb : bs = [] → p = none) (hblk : ∀ b, bs = [b] → BlkOK K (trimG γ' h.length p) w' (h1.take h.length ++ bs) h.length b) :
    Go2 K γ w h (trimG γ' h.length p) w' (h1.take h.length ++ bs) :=
  ⟨st_trim hp hn g.st hH hbs hpb hblk, fun v x hv => trim_vt hp hn (hiT_of hv) (g.pres v x hv), fun b hb => ⟨(trim_im hp b (g.im b hb).1).1, (g.im b hb).2⟩, by simp; omega⟩

theorem resCs_spec {n0 : Nat} : ∀ {vs vs' : List V}, resCs n0 h vs = some vs' → vs'.length = vs.length ∧ ∀ (i : Nat) (v' : V), vs'[i]? = some v' → ∃ v, vs[i]? = some v ∧ resC n0 h v = some v'
  | [], vs', hp => by simp [resCs] at hp; subst hp; exact ⟨rfl, fun i c hc => by simp at hc⟩
  | v :: vs, vs', hp => by
    unfold resCs at hp
    split at hp
    · rename_i d ds h1 h2
      injection hp with hp
      subst hp
      obtain ⟨h3, h4⟩ := resCs_spec h2
      refine ⟨by simp [h3], fun i x hx => ?_⟩
      cases i with
      | zero => simp at hx; subst hx; exact ⟨v, rfl, h1⟩
      | succ i => simp at hx; simpa using h4 i x hx
    · cases hp
theorem resAs_spec {n0 : Nat} : ∀ {vs vs' : List V}, resAs n0 h vs = some vs' → vs'.length = vs.length ∧ ∀ (i : Nat) (v' : V), vs'[i]? = some v' → ∃ v, vs[i]? = some v ∧ resA n0 h v = some v'
  | [], vs', hp => by simp [resAs] at hp; subst hp; exact ⟨rfl, fun i c hc => by simp at hc⟩
  | v :: vs, vs', hp => by
    unfold resAs at hp
    split at hp
    · rename_i d ds h1 h2
      injection hp with hp
      subst hp
      obtain ⟨h3, h4⟩ := resAs_spec h2
      refine ⟨by simp [h3], fun i x hx => ?_⟩
      cases i with
      | zero => simp at hx; subst hx; exact ⟨v, rfl, h1⟩
      | succ i => simp at hx; simpa using h4 i x hx
    · cases hp

/-- A cell of a result. -/
theorem resC_ok {n : Nat} {ids : List Nat} (g : Go2 K γ w h γ' w (frzs h ids)) (hn : n ≤ h.length) (hin : ∀ id ∈ ids, n ≤ id) {u : Value} {c c' : V} (hv : VT K γ w h u c) (hc : resC n h c = some c') (hnt : ∀ cs, c ≠ .agg cs) (hnu : ∀ cs, c ≠ .tup cs) (hnd : c ≠ .undef)
    (hm : ∀ id ∈ refC c, n ≤ id → id ∈ ids) : VC K (trimG γ' n none) w (h.take n) u c' := by
  have hp : ∀ g o, (none : Option (Nat × Nat)) = some (g, o) → ∃ id o', n ≤ id ∧ γ' id = some (g, o') := fun _ _ e => by cases e
  have hn' : n ≤ (frzs h ids).length := by rw [frzs_length]; exact hn
  have htk : (frzs h ids).take n ++ [] = h.take n := by rw [List.append_nil, frzs_take ids h n hin]
  rw [← htk]
  unfold resC at hc
  split at hc
  · rename_i hhi
    injection hc with hc
    subst hc
    have hv2 := g.pres _ _ hv
    have hv3 : VC K γ' w (frzs h ids) u c := by
      cases c with
      | agg cs => exact absurd rfl (hnt cs)
      | tup cs => exact absurd rfl (hnu cs)
      | undef => exact absurd rfl hnd
      | _ => exact hv2
    exact trim_vc hp hn' hhi hv3
  · rename_i hhi
    have hr := pureC_ok g (vc_of_pureC hv hc) hc (fun id hid => hm id hid (by
      cases c with
      | ref id' st off len clip =>
        simp only [refC, List.mem_singleton] at hid
        subst hid
        simp only [hiC, hi0, decide_eq_true_eq] at hhi
        omega
      | _ => simp [refC] at hid))
    exact rep_vc (trim_rep hp hr)

/-- A result. -/
theorem resA_ok {n : Nat} {ids : List Nat} (g : Go2 K γ w h γ' w (frzs h ids)) (hn : n ≤ h.length) (hin : ∀ id ∈ ids, n ≤ id) {u : Value} {c c' : V} (hv : VT K γ w h u c) (hc : resA n h c = some c')
    (hm : ∀ id ∈ refsA c, n ≤ id → id ∈ ids) : VA K (trimG γ' n none) w (h.take n) u c' := by
  unfold resA at hc
  split at hc
  · rename_i cs
    obtain ⟨cs', h1, h2⟩ := Option.map_eq_some_iff.1 hc
    subst h2
    obtain ⟨vs, rfl, h3, h4⟩ := hv.agg
    obtain ⟨h5, h6⟩ := resCs_spec h1
    refine ⟨vs, rfl, by omega, fun i c hc => ?_⟩
    obtain ⟨d, hd, hpd⟩ := h6 i c hc
    obtain ⟨q, hq, hvq⟩ := h4 i d hd
    refine ⟨q, hq, resC_ok g hn hin hvq.va.vt hpd ?_ ?_ ?_ (fun id hid => hm id (refs_mem hd id hid))⟩
    · rintro cs rfl; exact hvq.elim
    · rintro cs rfl; exact hvq.elim
    · rintro rfl; exact hvq.elim
  · rename_i hne
    refine (resC_ok g hn hin hv hc hne ?_ ?_ (fun id hid => hm id (by
      cases c with
      | agg cs => exact absurd rfl (hne cs)
      | _ => exact hid))).va
    · rintro cs rfl
      simp [resC, hiC, hi0, pureC] at hc
    · rintro rfl
      simp [resC, hiC, hi0, pureC] at hc

theorem us_one {us : Array Value} {u : Value} (h1 : us.size = 1) (hu : us[0]? = some u) : us = #[u] := by
  apply Array.ext'
  have h2 : us.toList.length = 1 := by simpa using h1
  match hl : us.toList, h2 with
  | [x], _ =>
    rw [← Array.getElem?_toList, hl] at hu
    simp at hu
    subst hu
    rfl

/-- A call that shares the heap. -/
theorem callS_ok {run : Run} (hrun : RunOK P run) (s : St K γ w h) {f : Nat} {args : List V} {keep : Bool} {x : V} {h' : Heap} (hev : callS run h f args keep = some (x, h')) {vs : Array Value} (hvs : VTs K γ w h vs args) :
    Calls P f vs w fun e w' => ∃ γ' v, e = .returned v ∧ VT K γ' w' h' v x ∧ Go2 K γ w h γ' w' h' := by
  unfold callS at hev
  split at hev
  · cases hev
  rename_i rs h1 hr
  split at hev
  rotate_left
  · cases hev
  rename_i hH
  refine (hrun K γ w h f args rs h1 hr s vs hvs).mono ?_
  rintro e w' ⟨γc, us, rfl, hus, hgo⟩
  have hn := hgo.len
  have nop : ∀ (γ' : Gh) g o, (none : Option (Nat × Nat)) = some (g, o) → ∃ id o', h.length ≤ id ∧ γ' id = some (g, o') := fun _ _ _ e => by cases e
  split at hev
  · split at hev
    · -- a row
      rename_i id st off len clip ss
      obtain ⟨u, hu, hvu⟩ := hus.2 0 _ rfl
      split at hev
      rotate_left
      · cases hev
      rename_i hss
      split at hev
      · rename_i hid
        injection hev with hev
        injection hev with e1 e2
        subst e1 e2
        have g2 := trim_go hgo (p := none) (bs := []) (nop _) hn hH (by simp) (fun _ => rfl) (fun b e => by cases e)
        rw [List.append_nil] at g2
        have := trim_vt (bs := []) (nop γc) hn (by simp [hiT, hiA, hiC, hi0, hid]) hvu
        rw [List.append_nil] at this
        exact ⟨_, _, rfl, more_vt hus hss hu this, g2⟩
      · rename_i hid
        split at hev
        · rename_i st' sz cont hb1
          split at hev
          · rename_i hst
            subst hst
            injection hev with hev
            injection hev with e1 e2
            subst e1 e2
            obtain ⟨A, cap, rfl, k1, k2, hp⟩ := hvu.ref
            rw [hb1] at hp
            obtain ⟨k3, k4⟩ := hp.2 rfl
            obtain ⟨hz, hl, hB⟩ := hgo.st.blk id _ hb1
            have hpl : ((cont.drop off).take len).length = len := by simp; omega
            have hlen : (h1.take h.length).length = h.length := by simp; omega
            have hat : (h1.take h.length ++ [Blk.rows 0 sz ((cont.drop off).take len)])[h.length]? = some (Blk.rows 0 sz ((cont.drop off).take len)) := by
              rw [List.getElem?_append_right (by omega), hlen]
              simp
            cases hg : γc id with
            | none =>
              rw [hg] at k4 hB
              subst hB
              have hl0 : len = 0 := by simp at k3; omega
              subst hl0
              have g2 := trim_go hgo (p := none) (bs := [.rows 0 sz []]) (nop _) hn hH (by simp) (fun _ => rfl) (fun b e => by
                injection e with e _
                subst e
                exact ⟨hz, (fun x hx => by cases hx), by rw [trimG_at]⟩)
              simp only [List.drop_nil, List.take_nil] at hat ⊢
              refine ⟨_, _, rfl, more_vt hus hss hu ⟨A, cap, rfl, k1, k2, ?_⟩, g2⟩
              rw [hat]
              refine ⟨Nat.le_refl _, fun _ => ⟨by simp, ?_⟩⟩
              rw [trimG_at]
              exact k4
            | some p =>
              obtain ⟨g, o⟩ := p
              rw [hg] at k4 hB
              obtain ⟨hg0, cs, hcs, hsz0, hrep⟩ := hB
              have hcapk : 0 < cap → A = some ⟨g, o + off * sz, none⟩ ∧ o + (off + cap) * sz ≤ cs.size := fun hcap => by
                obtain ⟨e1, cs', hcs', hfit⟩ := k4 hcap
                have := hcs.unique hcs'
                subst this
                exact ⟨e1, hfit⟩
              have hp : ∀ g' o', (some (g, o + off * sz) : Option (Nat × Nat)) = some (g', o') → ∃ id o', h.length ≤ id ∧ γc id = some (g', o') := by
                intro g' o' e
                injection e with e
                injection e with e _
                subst e
                exact ⟨id, o, by omega, hg⟩
              have g2 := trim_go hgo (p := some (g, o + off * sz)) (bs := [.rows 0 sz ((cont.drop off).take len)]) hp hn hH (by simp) (fun e => by cases e) (fun b e => by
                injection e with e _
                subst e
                refine ⟨hz, fun x hx => hl x (List.mem_of_mem_drop (List.mem_of_mem_take hx)), ?_⟩
                rw [trimG_at]
                refine ⟨hg0, cs, hcs, ?_, fun j c x y hx hy => ?_⟩
                · rw [hpl]
                  have : (off + len) * sz ≤ cont.length * sz := Nat.mul_le_mul_right _ k3
                  rw [Nat.add_mul] at this
                  omega
                · have hj : j < len := by
                    have := (List.getElem?_eq_some_iff.1 hx).1
                    omega
                  rw [List.getElem?_take_of_lt hj, List.getElem?_drop] at hx
                  obtain ⟨q, hq, hrq⟩ := hrep (off + j) c x y hx hy
                  exact ⟨q, by rw [← hq]; congr 1; rw [Nat.add_mul]; omega, trim_rep hp hrq⟩)
              refine ⟨_, _, rfl, more_vt hus hss hu ⟨A, cap, rfl, k1, k2, ?_⟩, g2⟩
              rw [hat]
              refine ⟨Nat.le_refl _, fun _ => ⟨by omega, ?_⟩⟩
              rw [trimG_at]
              intro hcap
              obtain ⟨e1, e2⟩ := hcapk hcap
              refine ⟨by rw [e1]; simp, cs, hcs, ?_⟩
              rw [Nat.zero_add]
              rw [Nat.add_mul] at e2
              omega
          · cases hev
        · cases hev
    · -- no memory
      rename_i sz ss
      split at hev
      rotate_left
      · cases hev
      rename_i hss
      injection hev with hev
      injection hev with e1 e2
      subst e1 e2
      obtain ⟨u, hu, hvu⟩ := hus.2 0 _ rfl
      obtain ⟨A, cap, rfl, _, hcap, hz⟩ := rep_slice hvu.sl
      have hc0 : cap = 0 := hcap rfl
      subst hc0
      have hlen : (h1.take h.length).length = h.length := by simp; omega
      have hat : (h1.take h.length ++ [Blk.rows 0 sz []])[h.length]? = some (Blk.rows 0 sz []) := by
        rw [List.getElem?_append_right (by omega), hlen]
        simp
      have g2 := trim_go hgo (p := none) (bs := [.rows 0 sz []]) (nop _) hn hH (by simp) (fun _ => rfl) (fun b e => by
        injection e with e _
        subst e
        exact ⟨hz, (fun x hx => by cases hx), by rw [trimG_at]⟩)
      refine ⟨_, _, rfl, more_vt hus hss hu ⟨A, 0, rfl, Nat.le_refl _, fun _ => rfl, ?_⟩, g2⟩
      rw [hat]
      refine ⟨Nat.le_refl _, fun _ => ⟨by simp, ?_⟩⟩
      rw [trimG_at]
    · -- a variable
      rename_i id
      obtain ⟨u, hu, hvu⟩ := hus.2 0 _ rfl
      have := us_one hus.1 hu
      subst this
      rw [retV_one]
      split at hev
      · rename_i cs hb1
        split at hev
        · rename_i hcond
          simp only [Bool.and_eq_true, decide_eq_true_eq] at hcond
          obtain ⟨hall, hid⟩ := hcond
          injection hev with hev
          injection hev with e1 e2
          subst e1 e2
          obtain ⟨a, rfl, hp⟩ := hvu.ptr
          unfold PtrOK at hp
          rw [hb1] at hp
          obtain ⟨_, _, g, hg, rfl⟩ := hp
          obtain ⟨g', cv, hg', hge, hcv, hszv, hcells⟩ := hgo.st.blk id _ hb1
          rw [hg] at hg'
          injection hg' with hg'
          injection hg' with hg' _
          subst hg'
          have hp : ∀ g' o', (some (g, 0) : Option (Nat × Nat)) = some (g', o') → ∃ id o', h.length ≤ id ∧ γc id = some (g', o') := by
            intro g' o' e
            injection e with e
            injection e with e _
            subst e
            exact ⟨id, 0, by omega, hg⟩
          have hlen : (h1.take h.length).length = h.length := by simp; omega
          have hat : (h1.take h.length ++ [Blk.box cs])[h.length]? = some (Blk.box cs) := by
            rw [List.getElem?_append_right (by omega), hlen]
            simp
          rw [List.all_eq_true] at hall
          have g2 := trim_go hgo (p := some (g, 0)) (bs := [.box cs]) hp hn hH (by simp) (fun e => by cases e) (fun b e => by
            injection e with e _
            subst e
            refine ⟨g, cv, trimG_at, hge, hcv, hszv, fun c y hy => ?_⟩
            obtain ⟨u, hu, hvy⟩ := hcells c y hy
            exact ⟨u, hu, trim_vc hp hn (hall y (List.mem_of_getElem? hy)) hvy⟩)
          refine ⟨_, _, rfl, ⟨_, rfl, ?_⟩, g2⟩
          unfold PtrOK
          rw [hat]
          exact ⟨rfl, rfl, g, trimG_at, rfl⟩
        · cases hev
      · cases hev
    · cases hev
  · split at hev
    · rename_i rs' hrs
      obtain ⟨b1, b2⟩ := resAs_spec hrs
      injection hev with hev
      injection hev with e1 e2
      subst e1 e2
      obtain ⟨γ2, g2, _, _⟩ := st_frzs ((refsAs rs).filter fun id => decide (h.length ≤ id)) hgo.st
      have hin : ∀ id ∈ (refsAs rs).filter fun id => decide (h.length ≤ id), h.length ≤ id := fun id hid => by
        have := (List.mem_filter.1 hid).2
        simpa using this
      have hn' : h.length ≤ (frzs h1 ((refsAs rs).filter fun id => decide (h.length ≤ id))).length := by rw [frzs_length]; exact hn
      have g3 := trim_go (hgo.trans g2) (p := none) (bs := []) (nop _) hn' (by rw [frzs_take _ _ _ hin]; exact hH) (by simp) (fun _ => rfl) (fun b e => by cases e)
      rw [List.append_nil, frzs_take _ _ _ hin] at g3
      refine ⟨_, _, rfl, oneOf_vt (by rw [hus.1, b1]) (fun i x hx => ?_), g3⟩
      obtain ⟨v, hv, hp⟩ := b2 i x hx
      obtain ⟨u, hu, hvu⟩ := hus.2 i v hv
      have := resA_ok g2 hn hin hvu hp (fun id hid hge => List.mem_filter.2 ⟨refsAs_mem hv id hid, by simpa using hge⟩)
      exact ⟨u, hu, this.vt, .inl this⟩
    · cases hev
end
end Go.Proofs.Ytfbjbkkcilhgjaa.PE
