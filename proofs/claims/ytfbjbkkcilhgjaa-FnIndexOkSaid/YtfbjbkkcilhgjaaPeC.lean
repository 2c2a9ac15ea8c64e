/- From one state to the next: what is made, written, grown, frozen and forgotten. -/
import Derived.Test.YtfbjbkkcilhgjaaPeB
namespace Go.Proofs.Ytfbjbkkcilhgjaa.PE
open Go.RowKit

section
variable {K : Ct} {γ γ' : Gh} {w w' : World} {h h' : Heap}

theorem keeps_self {id : Nat} (b : Blk) (hγ : γ' id = γ id) (hh : ∀ g o, γ id = some (g, o) → w'.heap[g]? = w.heap[g]?) : Keeps K γ w γ' w' id b b := by
  cases b with
  | rows st sz cont => exact ⟨Nat.le_refl _, fun _ => ⟨rfl, Nat.le_refl _, hγ, fun g o cs hg hc => ⟨cs, hc.mono (hh g o hg), rfl⟩⟩⟩
  | frz st sz cont => exact ⟨rfl, rfl, rfl⟩
  | box cells => exact hγ
  | dead => trivial
  | nest st sz cont => exact ⟨Nat.le_refl _, fun _ => ⟨rfl, Nat.le_refl _, hγ, fun g o cs hg hc => ⟨cs, hc.mono (hh g o hg), rfl⟩⟩⟩

theorem blk_keep (t : Tr K γ w h γ' w' h') {id : Nat} {b : Blk} (hγ : γ' id = γ id) (hh : ∀ g o, γ id = some (g, o) → w'.heap[g]? = w.heap[g]?)
    (hb : BlkOK K γ w h id b) : BlkOK K γ' w' h' id b := by
  cases b with
  | rows st sz cont =>
    obtain ⟨h1, h2, h3⟩ := hb
    refine ⟨h1, h2, ?_⟩
    rw [hγ]
    cases hg : γ id with
    | none => rw [hg] at h3; exact h3
    | some p =>
      obtain ⟨g, o⟩ := p
      rw [hg] at h3
      obtain ⟨h4, cs, h5, h6, h7⟩ := h3
      exact ⟨h4, cs, h5.mono (hh g o hg), h6, fun j c x y hx hy => (h7 j c x y hx hy).imp fun u hu => ⟨hu.1, t.rep hu.2⟩⟩
  | frz st sz cont => exact ⟨hb.1, hb.2.1, hγ.trans hb.2.2⟩
  | box cells =>
    obtain ⟨g, cs, h1, h2, h3, h4, h5⟩ := hb
    exact ⟨g, cs, hγ.trans h1, h2, h3.mono (hh g 0 h1), h4, fun c y hy => (h5 c y hy).imp fun u hu => ⟨hu.1, t.vc hu.2⟩⟩
  | dead => exact hγ.trans hb
  | nest st sz cont =>
    obtain ⟨h1, h2, h3⟩ := hb
    refine ⟨h1, h2, ?_⟩
    rw [hγ]
    cases hg : γ id with
    | none => rw [hg] at h3; exact h3
    | some p =>
      obtain ⟨g, o⟩ := p
      rw [hg] at h3
      obtain ⟨h4, cs, h5, h6, h7⟩ := h3
      exact ⟨h4, cs, h5.mono (hh g o hg), h6, fun j c x y hx hy => (h7 j c x y hx hy).imp fun u hu => ⟨hu.1, t.vr hu.2⟩⟩

/-- More memory, none of it owned. -/
theorem st_grow (s : St K γ w h) (hb : Below w.heap.size w w') : St K γ w' h ∧ Tr K γ w h γ w' h := by
  have hown : ∀ id g o, γ id = some (g, o) → w'.heap[g]? = w.heap[g]? := fun id g o hg => hb.block g (s.owned hg).2
  have t : Tr K γ w h γ w' h := ⟨fun b hi => ⟨⟨Nat.lt_of_lt_of_le hi.1 hb.size, hi.2⟩, hb.block b hi.1⟩, fun id b hid => ⟨b, hid, keeps_self b rfl (hown id)⟩⟩
  exact ⟨⟨s.below.trans (hb.mono s.size), fun id b hid => blk_keep t rfl (hown id) (s.blk id b hid), s.dom, s.inj⟩, t⟩

def upd (γ : Gh) (id : Nat) (p : Option (Nat × Nat)) : Gh := fun i => if i = id then p else γ i
theorem upd_self (γ : Gh) (id : Nat) (p) : upd γ id p id = p := by simp [upd]
theorem upd_ne (γ : Gh) {id i : Nat} (p) (hne : i ≠ id) : upd γ id p i = γ i := by simp [upd, hne]

/-- A new block of the heap: memory that was made just now, or none yet. -/
theorem st_add (s : St K γ w h) (b : Blk) (p : Option (Nat × Nat)) (hb : Below w.heap.size w w') (hp : ∀ g o, p = some (g, o) → w.heap.size ≤ g)
    (blk : Tr K γ w h (upd γ h.length p) w' (h ++ [b]) → BlkOK K (upd γ h.length p) w' (h ++ [b]) h.length b) :
    St K (upd γ h.length p) w' (h ++ [b]) ∧ Tr K γ w h (upd γ h.length p) w' (h ++ [b]) := by
  have hown : ∀ id g o, γ id = some (g, o) → w'.heap[g]? = w.heap[g]? := fun id g o hg => hb.block g (s.owned hg).2
  have hlt : ∀ id b', h[id]? = some b' → id < h.length := fun id b' hid => (List.getElem?_eq_some_iff.1 hid).1
  have hγ : ∀ id, id < h.length → upd γ h.length p id = γ id := fun id hid => upd_ne γ p (by omega)
  have t : Tr K γ w h (upd γ h.length p) w' (h ++ [b]) := by
    refine ⟨fun b0 hi => ⟨⟨Nat.lt_of_lt_of_le hi.1 hb.size, hi.2.1, fun id g o hg => ?_⟩, hb.block b0 hi.1⟩, fun id b0 hid => ⟨b0, ?_, keeps_self b0 (hγ id (hlt id b0 hid)) (hown id)⟩⟩
    · by_cases e : id = h.length
      · subst e
        rw [upd_self] at hg
        have := hp g o hg
        have := hi.1
        omega
      · rw [upd_ne γ p e] at hg
        exact hi.2.2 id g o hg
    · rw [List.getElem?_append_left (hlt id b0 hid)]
      exact hid
  refine ⟨⟨s.below.trans (hb.mono s.size), fun id b0 hid => ?_, fun id hid => ?_, fun id id' g o o' h1 h2 => ?_⟩, t⟩
  · rcases Nat.lt_or_ge id h.length with hl | hl
    · rw [List.getElem?_append_left hl] at hid
      exact blk_keep t (hγ id hl) (hown id) (s.blk id b0 hid)
    · have e : id = h.length := by
        have := (List.getElem?_eq_some_iff.1 hid).1
        simp at this
        omega
      subst e
      simp at hid
      subst hid
      exact blk t
  · simp at hid
    rw [upd_ne γ p (by omega)]
    exact s.dom id (by omega)
  · by_cases e : id = h.length
    · by_cases e' : id' = h.length
      · omega
      · subst e
        rw [upd_self] at h1
        rw [upd_ne γ p e'] at h2
        have := hp g o h1
        have := (s.owned h2).2
        omega
    · by_cases e' : id' = h.length
      · subst e'
        rw [upd_self] at h2
        rw [upd_ne γ p e] at h1
        have := hp g o' h2
        have := (s.owned h1).2
        omega
      · rw [upd_ne γ p e] at h1
        rw [upd_ne γ p e'] at h2
        exact s.inj id id' g o o' h1 h2

/-- One block turns: it is written, grown, moved or frozen. -/
theorem im_upd {id : Nat} (p : Option (Nat × Nat)) (hsz : w.heap.size ≤ w'.heap.size)
    (hoth : ∀ k, k < w.heap.size → (∀ o, γ id ≠ some (k, o)) → w'.heap[k]? = w.heap[k]?)
    (hp : ∀ g o, p = some (g, o) → (∃ o', γ id = some (g, o')) ∨ w.heap.size ≤ g) : ∀ b, Im K γ w b → Im K (upd γ id p) w' b ∧ w'.heap[b]? = w.heap[b]? := by
  intro b hi
  refine ⟨⟨Nat.lt_of_lt_of_le hi.1 hsz, hi.2.1, fun i g o hg => ?_⟩, hoth b hi.1 (fun o e => hi.2.2 id b o e rfl)⟩
  by_cases e : i = id
  · subst e
    rw [upd_self] at hg
    rcases hp g o hg with ⟨o', hp⟩ | hp
    · exact hi.2.2 i g o' hp
    · have := hi.1
      omega
  · rw [upd_ne γ p e] at hg
    exact hi.2.2 i g o hg

theorem st_upd (s : St K γ w h) {id : Nat} {b b' : Blk} (hid : h[id]? = some b) (p : Option (Nat × Nat)) (hbel : Below K.w0.heap.size K.w0 w') (hsz : w.heap.size ≤ w'.heap.size)
    (hoth : ∀ k, k < w.heap.size → (∀ o, γ id ≠ some (k, o)) → w'.heap[k]? = w.heap[k]?)
    (hp : ∀ g o, p = some (g, o) → (∃ o', γ id = some (g, o')) ∨ w.heap.size ≤ g)
    (keeps : Keeps K γ w (upd γ id p) w' id b b')
    (blk : Tr K γ w h (upd γ id p) w' (h.set id b') → BlkOK K (upd γ id p) w' (h.set id b') id b') :
    St K (upd γ id p) w' (h.set id b') ∧ Tr K γ w h (upd γ id p) w' (h.set id b') := by
  have hlt : id < h.length := (List.getElem?_eq_some_iff.1 hid).1
  have hown : ∀ i, i ≠ id → ∀ g o, γ i = some (g, o) → w'.heap[g]? = w.heap[g]? := fun i hi g o hg =>
    hoth g (s.owned hg).2 (fun o' e => hi (s.inj i id g o o' hg e))
  have t : Tr K γ w h (upd γ id p) w' (h.set id b') := by
    refine ⟨im_upd p hsz hoth hp, fun i b0 hi => ?_⟩
    by_cases e : i = id
    · subst e
      rw [hid] at hi
      injection hi with hi
      subst hi
      exact ⟨b', by rw [List.getElem?_set_self hlt], keeps⟩
    · exact ⟨b0, by rw [List.getElem?_set_ne (Ne.symm e)]; exact hi, keeps_self b0 (upd_ne γ p e) (hown i e)⟩
  refine ⟨⟨hbel, fun i b0 hi => ?_, fun i hi => ?_, fun i i' g o o' h1 h2 => ?_⟩, t⟩
  · by_cases e : i = id
    · subst e
      rw [List.getElem?_set_self hlt] at hi
      injection hi with hi
      subst hi
      exact blk t
    · rw [List.getElem?_set_ne (Ne.symm e)] at hi
      exact blk_keep t (upd_ne γ p e) (hown i e) (s.blk i b0 hi)
  · rw [List.length_set] at hi
    rw [upd_ne γ p (by omega)]
    exact s.dom i hi
  · have key : ∀ i i' g o o', i = id → i' ≠ id → upd γ id p i = some (g, o) → upd γ id p i' = some (g, o') → i = i' := by
      intro i i' g o o' e e' h1 h2
      subst e
      rw [upd_self] at h1
      rw [upd_ne γ p e'] at h2
      rcases hp g o h1 with ⟨o1, hp⟩ | hp
      · exact s.inj i i' g o1 o' hp h2
      · have := (s.owned h2).2
        omega
    by_cases e : i = id
    · by_cases e' : i' = id
      · omega
      · exact key i i' g o o' e e' h1 h2
    · by_cases e' : i' = id
      · exact (key i' i g o' o e' e h2 h1).symm
      · rw [upd_ne γ p e] at h1
        rw [upd_ne γ p e'] at h2
        exact s.inj i i' g o o' h1 h2

/-- A row is written no more. -/
theorem st_frz1 (s : St K γ w h) (id : Nat) : ∃ γ', St K γ' w (frz1 h id) ∧ Tr K γ w h γ' w (frz1 h id) ∧ (∀ i g o, γ' i = some (g, o) → γ i = some (g, o)) ∧
    (∀ b sz cont, h[id]? = some (.rows b sz cont) → γ' id = none) := by
  unfold frz1
  cases hb : h[id]? with
  | none => exact ⟨γ, s, ⟨fun b hi => ⟨hi, rfl⟩, fun i b hi => ⟨b, hi, keeps_self b rfl (fun _ _ _ => rfl)⟩⟩, fun _ _ _ h => h, fun _ _ _ h => by cases h⟩
  | some b =>
    cases b with
    | rows st sz cont =>
      have hblk := s.blk id _ hb
      obtain ⟨hz, hl, hc⟩ := hblk
      have him : ∀ b, Im K γ w b → Im K (upd γ id none) w b ∧ w.heap[b]? = w.heap[b]? := im_upd (K := K) (id := id) none (Nat.le_refl _) (fun _ _ _ => rfl) (fun _ _ e => by cases e)
      have hk : Keeps K γ w (upd γ id none) w id (.rows st sz cont) (.frz st sz cont) := by
        refine ⟨rfl, rfl, rfl, hz, hl, ?_⟩
        cases hg : γ id with
        | none => rw [hg] at hc; exact hc
        | some p =>
          obtain ⟨g, o⟩ := p
          rw [hg] at hc
          obtain ⟨h1, cs, h2, h3, h4⟩ := hc
          refine ⟨⟨(s.owned hg).2, fun h5 => absurd h5 (by omega), fun i g' o' hi => ?_⟩, fun j c x y hx hy => ?_⟩
          · by_cases e : i = id
            · subst e; rw [upd_self] at hi; cases hi
            · rw [upd_ne γ none e] at hi
              rintro rfl
              exact e (s.inj i id _ _ _ hi hg)
          · obtain ⟨u, hu, hr⟩ := h4 j c x y hx hy
            exact ⟨u, (h2.cell _).trans hu, hr.mono him⟩
      have := st_upd s hb (b' := .frz st sz cont) none s.below (Nat.le_refl _) (fun _ _ _ => rfl) (fun _ _ e => by cases e) hk (fun _ => ⟨hz, hl, upd_self _ _ _⟩)
      refine ⟨_, this.1, this.2, fun i g o hi => ?_, fun _ _ _ _ => upd_self _ _ _⟩
      by_cases e : i = id
      · subst e; rw [upd_self] at hi; cases hi
      · rw [upd_ne γ none e] at hi; exact hi
    | _ => exact ⟨γ, s, ⟨fun b hi => ⟨hi, rfl⟩, fun i b hi => ⟨b, hi, keeps_self b rfl (fun _ _ _ => rfl)⟩⟩, fun _ _ _ h => h, fun _ _ _ h => by cases h⟩

theorem frz1_length (h : Heap) (id : Nat) : (frz1 h id).length = h.length := by
  unfold frz1
  split <;> simp
theorem frzs_length : ∀ (ids : List Nat) (h : Heap), (frzs h ids).length = h.length
  | [], _ => rfl
  | id :: r, h => by rw [frzs, frzs_length r, frz1_length]

theorem frz1_other (h : Heap) (id i : Nat) (hne : i ≠ id) : (frz1 h id)[i]? = h[i]? := by
  unfold frz1
  split
  · rw [List.getElem?_set_ne (Ne.symm hne)]
  · rfl
theorem frzs_other : ∀ (ids : List Nat) (h : Heap) (i : Nat), i ∉ ids → (frzs h ids)[i]? = h[i]?
  | [], _, _, _ => rfl
  | id :: r, h, i, hn => by
    rw [frzs, frzs_other r _ i (fun hm => hn (List.mem_cons_of_mem _ hm)), frz1_other _ _ _ (by rintro rfl; exact hn List.mem_cons_self)]
end

/-- Pres, St and more that holds from one state to the next, for chains. -/
structure Go2 (K : Ct) (γ : Gh) (w : World) (h : Heap) (γ' : Gh) (w' : World) (h' : Heap) : Prop where
  st : St K γ' w' h'
  pres : Pres K γ w h γ' w' h'
  im : ∀ b, Im K γ w b → Im K γ' w' b ∧ w'.heap[b]? = w.heap[b]?
  len : h.length ≤ h'.length

theorem Tr.len {K : Ct} {γ γ' : Gh} {w w' : World} {h h' : Heap} (t : Tr K γ w h γ' w' h') : h.length ≤ h'.length := by
  rcases Nat.lt_or_ge h'.length h.length with hlt | hge
  · obtain ⟨b', hb, _⟩ := t.ids h'.length _ (List.getElem?_eq_getElem hlt)
    simp at hb
  · exact hge

theorem Go2.of {K : Ct} {γ γ' : Gh} {w w' : World} {h h' : Heap} (s : St K γ' w' h' ∧ Tr K γ w h γ' w' h') : Go2 K γ w h γ' w' h' := ⟨s.1, s.2.pres, s.2.im, s.2.len⟩
theorem Go2.refl {K : Ct} {γ : Gh} {w : World} {h : Heap} (s : St K γ w h) : Go2 K γ w h γ w h := ⟨s, Pres.refl _ _ _ _, fun _ hb => ⟨hb, rfl⟩, Nat.le_refl _⟩
theorem Go2.trans {K : Ct} {γ γ1 γ2 : Gh} {w w1 w2 : World} {h h1 h2 : Heap} (a : Go2 K γ w h γ1 w1 h1) (b : Go2 K γ1 w1 h1 γ2 w2 h2) : Go2 K γ w h γ2 w2 h2 :=
  ⟨b.st, a.pres.trans b.pres, fun x hx => ⟨(b.im x (a.im x hx).1).1, ((b.im x (a.im x hx).1).2).trans (a.im x hx).2⟩, Nat.le_trans a.len b.len⟩
theorem Go2.rep {K : Ct} {γ γ' : Gh} {w w' : World} {h h' : Heap} (a : Go2 K γ w h γ' w' h') {v : Value} {x : V} (hr : Rep w (Im K γ w) v x) : Rep w' (Im K γ' w') v x := hr.mono a.im

theorem st_frzs {K : Ct} {w : World} : ∀ (ids : List Nat) {γ : Gh} {h : Heap}, St K γ w h → ∃ γ', Go2 K γ w h γ' w (frzs h ids) ∧ (∀ i g o, γ' i = some (g, o) → γ i = some (g, o)) ∧
    ∀ id ∈ ids, ∀ b sz cont, h[id]? = some (.rows b sz cont) → γ' id = none
  | [], γ, h, s => ⟨γ, Go2.refl s, fun _ _ _ h => h, fun _ hm => by cases hm⟩
  | id :: r, γ, h, s => by
    obtain ⟨γ1, s1, t1, hs1, hn1⟩ := st_frz1 s id
    obtain ⟨γ2, g2, hs2, hn2⟩ := st_frzs r s1
    refine ⟨γ2, (Go2.of ⟨s1, t1⟩).trans g2, fun i g o hi => hs1 i g o (hs2 i g o hi), fun j hj b sz cont hb => ?_⟩
    have none_of : ∀ j, γ1 j = none → γ2 j = none := fun j hj => by
      cases e : γ2 j with
      | none => rfl
      | some p => rw [hs2 j p.1 p.2 e] at hj; cases hj
    by_cases e : j = id
    · subst e
      exact none_of j (hn1 b sz cont hb)
    · rcases List.mem_cons.1 hj with hj | hj
      · exact absurd hj e
      · exact hn2 j hj b sz cont (by rw [frz1_other _ _ _ e]; exact hb)

/-! ### forgetting -/
theorem ref_lt {K : Ct} {γ : Gh} {w : World} {h : Heap} {A : Option Addr} {len cap id st off : Nat} {clip : Bool} (hp : RefOK K γ w h A len cap id st off clip) : id < h.length := by
  obtain ⟨_, _, hp⟩ := hp
  cases hb : h[id]? with
  | none => rw [hb] at hp; exact hp.elim
  | some b => exact (List.getElem?_eq_some_iff.1 hb).1
theorem hiN_of {K : Ct} {γ : Gh} {w : World} {h : Heap} {v : Value} {x : V} (hv : VR K γ w h v x) : hiN h.length x = true := by
  cases x with
  | ref id st off len clip =>
    obtain ⟨A, cap, _, hp⟩ := hv
    simp only [hiN, decide_eq_true_eq]
    exact ref_lt hp
  | _ => rfl
theorem hi0_of {K : Ct} {γ : Gh} {w : World} {h : Heap} {v : Value} {x : V} (hv : VC0 K γ w h v x) : hi0 h.length x = true := by
  cases x with
  | ref id st off len clip =>
    obtain ⟨A, cap, _, _, _, hp⟩ := hv
    simp only [hi0, decide_eq_true_eq]
    cases hb : h[id]? with
    | none => rw [hb] at hp; exact hp.elim
    | some b => exact (List.getElem?_eq_some_iff.1 hb).1
  | ptr id st el off =>
    obtain ⟨a, _, hp⟩ := hv
    simp only [hi0, decide_eq_true_eq]
    unfold PtrOK at hp
    cases hb : h[id]? with
    | none => rw [hb] at hp; exact hp.elim
    | some b => exact (List.getElem?_eq_some_iff.1 hb).1
  | undef => exact hv.elim
  | agg cs => exact hv.elim
  | tup cs => exact hv.elim
  | clo f cs => exact hv.elim
  | nsl sz xs =>
    obtain ⟨A, cap, _, _, _, _, h4⟩ := hv
    simp only [hi0, List.all_eq_true]
    intro x hx y hy
    obtain ⟨j, hj⟩ := List.getElem?_of_mem hx
    obtain ⟨c, hc⟩ := List.getElem?_of_mem hy
    obtain ⟨g, o, _, _, hh⟩ := h4 (by have := (List.getElem?_eq_some_iff.1 hj).1; omega)
    obtain ⟨u, _, hu⟩ := hh j c x y hj hc
    exact hiN_of hu
  | _ => rfl
theorem hiC_of {K : Ct} {γ : Gh} {w : World} {h : Heap} {v : Value} {x : V} (hv : VC K γ w h v x) : hiC h.length x = true := by
  cases x with
  | clo f caps =>
    obtain ⟨cv, _, _, hc⟩ := hv
    simp only [hiC, List.all_eq_true]
    intro c hm
    obtain ⟨i, hi⟩ := List.getElem?_of_mem hm
    obtain ⟨u, _, hu⟩ := hc i c hi
    exact hi0_of hu
  | _ => simp only [VC] at hv; simp only [hiC]; exact hi0_of hv
theorem hiA_of {K : Ct} {γ : Gh} {w : World} {h : Heap} {v : Value} {x : V} (hv : VA K γ w h v x) : hiA h.length x = true := by
  cases x with
  | agg caps =>
    obtain ⟨cv, _, _, hc⟩ := hv
    simp only [hiA, List.all_eq_true]
    intro c hm
    obtain ⟨i, hi⟩ := List.getElem?_of_mem hm
    obtain ⟨u, _, hu⟩ := hc i c hi
    exact hiC_of hu
  | _ => simp only [VA] at hv; simp only [hiA]; exact hiC_of hv
theorem hiT_of {K : Ct} {γ : Gh} {w : World} {h : Heap} {v : Value} {x : V} (hv : VT K γ w h v x) : hiT h.length x = true := by
  cases x with
  | tup caps =>
    obtain ⟨cv, _, _, hc⟩ := hv
    simp only [hiT, List.all_eq_true]
    intro c hm
    obtain ⟨i, hi⟩ := List.getElem?_of_mem hm
    obtain ⟨u, _, hu⟩ := hc i c hi
    exact hiA_of hu
  | undef => rfl
  | _ => simp only [VT] at hv; simp only [hiT]; exact hiA_of hv

/-- Blocks from n on are forgotten, but for one, perhaps, which is number n then. -/
def trimG (γ : Gh) (n : Nat) (p : Option (Nat × Nat)) : Gh := fun i => if i < n then γ i else if i = n then p else none
theorem trimG_lt {γ : Gh} {n i : Nat} {p : Option (Nat × Nat)} (hi : i < n) : trimG γ n p i = γ i := by simp [trimG, hi]
theorem trimG_at {γ : Gh} {n : Nat} {p : Option (Nat × Nat)} : trimG γ n p n = p := by simp [trimG]
section
variable {K : Ct} {γ : Gh} {w : World} {h : Heap} {n : Nat} {p : Option (Nat × Nat)} {bs : List Blk} (hp : ∀ g o, p = some (g, o) → ∃ id o', n ≤ id ∧ γ id = some (g, o')) (hn : n ≤ h.length)
theorem take_get (h : Heap) (bs : List Blk) (hn : n ≤ h.length) {id : Nat} (hi : id < n) : (h.take n ++ bs)[id]? = h[id]? := by
  rw [List.getElem?_append_left (by simp; omega), List.getElem?_take_of_lt hi]
include hp in
theorem trim_im (b : Nat) (hi : Im K γ w b) : Im K (trimG γ n p) w b ∧ w.heap[b]? = w.heap[b]? := by
  refine ⟨⟨hi.1, hi.2.1, fun i g o hg => ?_⟩, rfl⟩
  unfold trimG at hg
  split at hg
  · exact hi.2.2 i g o hg
  · split at hg
    · obtain ⟨id, o', _, h2⟩ := hp g o hg
      exact hi.2.2 id g o' h2
    · cases hg
include hp in
theorem trim_rep {v : Value} {x : V} (hr : Rep w (Im K γ w) v x) : Rep w (Im K (trimG γ n p) w) v x := hr.mono (trim_im hp)
include hp hn in
theorem trim_refOK {A : Option Addr} {len cap id st off : Nat} {clip : Bool} (hx : id < n) (hr : RefOK K γ w h A len cap id st off clip) : RefOK K (trimG γ n p) w (h.take n ++ bs) A len cap id st off clip := by
    obtain ⟨h1, h2, hq⟩ := hr
    refine ⟨h1, h2, ?_⟩
    rw [take_get h bs hn hx, trimG_lt hx]
    cases hb : h[id]? with
    | none => rw [hb] at hq; exact hq
    | some b =>
      rw [hb] at hq
      cases b with
      | frz st' sz cont => exact ⟨hq.1, hq.2.1, fun e => ⟨(hq.2.2 e).1, trim_rep hp (hq.2.2 e).2⟩⟩
      | _ => exact hq
include hp hn in
theorem trim_vr {v : Value} {x : V} (hx : hiN n x = true) (hv : VR K γ w h v x) : VR K (trimG γ n p) w (h.take n ++ bs) v x := by
  cases x with
  | ref id st off len clip =>
    simp only [hiN, decide_eq_true_eq] at hx
    obtain ⟨A, cap, rfl, hr⟩ := hv
    exact ⟨A, cap, rfl, trim_refOK hp hn hx hr⟩
  | _ => exact trim_rep hp hv
include hp hn in
theorem trim_vc0 {v : Value} {x : V} (hx : hi0 n x = true) (hv : VC0 K γ w h v x) : VC0 K (trimG γ n p) w (h.take n ++ bs) v x := by
  cases x with
  | int k n => exact hv
  | bool b => exact hv
  | str s => exact hv
  | sl c sz xs => exact trim_rep hp hv
  | undef => exact hv
  | agg cs => exact hv
  | tup vs => exact hv
  | clo f cs => exact hv
  | fp cs =>
    obtain ⟨a, rfl, g, o, rfl, hg, hc⟩ := hv
    exact ⟨_, rfl, g, o, rfl, (trim_im hp g hg).1, fun c y hy => (hc c y hy).imp fun u hu => ⟨hu.1, trim_rep hp hu.2⟩⟩
  | ptr id st el off =>
    simp only [hi0, decide_eq_true_eq] at hx
    obtain ⟨a, rfl, hq⟩ := hv
    refine ⟨a, rfl, ?_⟩
    unfold PtrOK at hq ⊢
    rw [take_get h bs hn hx, trimG_lt hx]
    exact hq
  | ref id st off len clip =>
    simp only [hi0, decide_eq_true_eq] at hx
    obtain ⟨A, cap, rfl, hr⟩ := hv
    exact ⟨A, cap, rfl, trim_refOK hp hn hx hr⟩
  | nsl sz xs =>
    simp only [hi0, List.all_eq_true] at hx
    obtain ⟨A, cap, rfl, h1, h2, h3, h4⟩ := hv
    refine ⟨A, cap, rfl, h1, h2, h3, fun hne => ?_⟩
    obtain ⟨g, o, rfl, hg, hc⟩ := h4 hne
    refine ⟨g, o, rfl, (trim_im hp g hg).1, fun j c x y hx1 hy => ?_⟩
    obtain ⟨u, hu, hr⟩ := hc j c x y hx1 hy
    exact ⟨u, hu, trim_vr hp hn (hx x (List.mem_of_getElem? hx1) y (List.mem_of_getElem? hy)) hr⟩
include hp hn in
theorem trim_vc {v : Value} {x : V} (hx : hiC n x = true) (hv : VC K γ w h v x) : VC K (trimG γ n p) w (h.take n ++ bs) v x := by
  cases x with
  | clo f caps =>
    obtain ⟨cv, rfl, h1, h2⟩ := hv
    simp only [hiC, List.all_eq_true] at hx
    exact ⟨cv, rfl, h1, fun i c hc => (h2 i c hc).imp fun u hu => ⟨hu.1, trim_vc0 hp hn (hx c (List.mem_of_getElem? hc)) hu.2⟩⟩
  | _ => simp only [VC] at hv ⊢; simp only [hiC] at hx; exact trim_vc0 hp hn hx hv
include hp hn in
theorem trim_va {v : Value} {x : V} (hx : hiA n x = true) (hv : VA K γ w h v x) : VA K (trimG γ n p) w (h.take n ++ bs) v x := by
  cases x with
  | agg cs =>
    obtain ⟨vs, rfl, h1, h2⟩ := hv
    simp only [hiA, List.all_eq_true] at hx
    exact ⟨vs, rfl, h1, fun i c hc => (h2 i c hc).imp fun u hu => ⟨hu.1, trim_vc hp hn (hx c (List.mem_of_getElem? hc)) hu.2⟩⟩
  | _ => simp only [VA] at hv ⊢; simp only [hiA] at hx; exact trim_vc hp hn hx hv
include hp hn in
theorem trim_vt {v : Value} {x : V} (hx : hiT n x = true) (hv : VT K γ w h v x) : VT K (trimG γ n p) w (h.take n ++ bs) v x := by
  cases x with
  | undef => trivial
  | tup cs =>
    obtain ⟨vs, rfl, h1, h2⟩ := hv
    simp only [hiT, List.all_eq_true] at hx
    exact ⟨vs, rfl, h1, fun i c hc => (h2 i c hc).imp fun u hu => ⟨hu.1, trim_va hp hn (hx c (List.mem_of_getElem? hc)) hu.2⟩⟩
  | _ => simp only [VT] at hv ⊢; simp only [hiT] at hx; exact trim_va hp hn hx hv

include hp hn in
theorem st_trim (s : St K γ w h) (hH : hiH n (h.take n) = true) (hbs : bs.length ≤ 1) (hpb : bs = [] → p = none) (hblk : ∀ b, bs = [b] → BlkOK K (trimG γ n p) w (h.take n ++ bs) n b) : St K (trimG γ n p) w (h.take n ++ bs) := by
  have hlen : (h.take n ++ bs).length = n + bs.length := by simp; omega
  refine ⟨s.below, fun id b hid => ?_, fun id hid => ?_, fun id id' g o o' h1 h2 => ?_⟩
  · rcases Nat.lt_or_ge id n with hlt | hge
    · rw [take_get h bs hn hlt] at hid
      have hB : hiB n b = true := by
        unfold hiH at hH
        rw [List.all_eq_true] at hH
        exact hH b (List.mem_of_getElem? (by rw [List.getElem?_take_of_lt hlt]; exact hid))
      have hb := s.blk id b hid
      have hg : trimG γ n p id = γ id := trimG_lt hlt
      cases b with
      | rows st sz cont =>
        obtain ⟨h1, h2, h3⟩ := hb
        refine ⟨h1, h2, ?_⟩
        rw [hg]
        cases hq : γ id with
        | none => rw [hq] at h3; exact h3
        | some q =>
          rw [hq] at h3
          obtain ⟨h4, cs, h5, h6, h7⟩ := h3
          exact ⟨h4, cs, h5, h6, fun j c x y hx hy => (h7 j c x y hx hy).imp fun u hu => ⟨hu.1, trim_rep hp hu.2⟩⟩
      | frz st sz cont => exact ⟨hb.1, hb.2.1, hg.trans hb.2.2⟩
      | dead => exact hg.trans hb
      | box cells =>
        obtain ⟨g, cs, h1, h2, h3, h4, h5⟩ := hb
        simp only [hiB, List.all_eq_true] at hB
        exact ⟨g, cs, hg.trans h1, h2, h3, h4, fun c y hy => (h5 c y hy).imp fun u hu => ⟨hu.1, trim_vc hp hn (hB y (List.mem_of_getElem? hy)) hu.2⟩⟩
      | nest st sz cont =>
        obtain ⟨h1, h2, h3⟩ := hb
        simp only [hiB, List.all_eq_true] at hB
        refine ⟨h1, h2, ?_⟩
        rw [hg]
        cases hq : γ id with
        | none => rw [hq] at h3; exact h3
        | some q =>
          rw [hq] at h3
          obtain ⟨h4, cs, h5, h6, h7⟩ := h3
          exact ⟨h4, cs, h5, h6, fun j c x y hx hy => (h7 j c x y hx hy).imp fun u hu => ⟨hu.1, trim_vr hp hn (hB x (List.mem_of_getElem? hx) y (List.mem_of_getElem? hy)) hu.2⟩⟩
    · have hl : id < n + bs.length := by
        rw [← hlen]
        exact (List.getElem?_eq_some_iff.1 hid).1
      have e1 : id = n := by omega
      subst e1
      rw [List.getElem?_append_right (by simp; omega)] at hid
      match bs, hid with
      | [b'], hid =>
        simp only [List.length_take] at hid
        rw [show id - min id h.length = 0 by omega] at hid
        simp at hid
        subst hid
        exact hblk b' rfl
      | [], hid => simp at hid
      | _ :: _ :: _, _ => simp at hbs
  · rw [hlen] at hid
    unfold trimG
    split
    · omega
    · split
      · subst_vars
        match bs with
        | [] => exact hpb rfl
        | _ :: _ => simp only [List.length_cons] at hid; omega
      · rfl
  · have key : ∀ i j g o o', i < n → ¬ j < n → trimG γ n p i = some (g, o) → trimG γ n p j = some (g, o') → False := by
      intro i j g o o' hi hj h1 h2
      rw [trimG_lt hi] at h1
      unfold trimG at h2
      rw [if_neg hj] at h2
      split at h2
      · obtain ⟨id, o2, h3, h4⟩ := hp g o' h2
        have := s.inj i id g o o2 h1 h4
        omega
      · cases h2
    by_cases c1 : id < n
    · by_cases c2 : id' < n
      · rw [trimG_lt c1] at h1
        rw [trimG_lt c2] at h2
        exact s.inj id id' g o o' h1 h2
      · exact (key id id' g o o' c1 c2 h1 h2).elim
    · by_cases c2 : id' < n
      · exact (key id' id g o' o c2 c1 h2 h1).elim
      · unfold trimG at h1 h2
        rw [if_neg c1] at h1
        rw [if_neg c2] at h2
        split at h1
        · split at h2
          · omega
          · cases h2
        · cases h1
end
end Go.Proofs.Ytfbjbkkcilhgjaa.PE
