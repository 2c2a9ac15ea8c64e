/- Calls whose results are memory of their own, calls behind which the heap is given up, calls that keep all of it. -/
import Derived.Test.YtfbjbkkcilhgjaaPeN
namespace Go.Proofs.Ytfbjbkkcilhgjaa.PE
open Go.RowKit

section
variable {P : Program} {K : Ct} {γ γ' : Gh} {w w' : World} {h h1 : Heap}

def keepB : Blk → Bool
  | .rows _ _ cont => cont.all fun x => x.all freshC
  | .nest _ _ cont => cont.all fun x => x.all freshC
  | _ => false
theorem clean_eq (b : Blk) : clean b = if keepB b then b else .dead := by
  cases b <;> simp [clean, keepB]

/-- The ghost behind a call whose blocks are added. -/
def addG (γ : Gh) (n : Nat) (γc : Gh) (hc : Heap) : Gh := fun i => if i < n then γ i else match hc[i - n]? with
  | some b => if keepB b then γc (i - n) else none
  | none => none
theorem addG_lt {γc : Gh} {hc : Heap} {n i : Nat} (hi : i < n) : addG γ n γc hc i = γ i := by simp [addG, hi]
theorem addG_at {γc : Gh} {hc : Heap} {n i : Nat} {b : Blk} (hb : hc[i]? = some b) : addG γ n γc hc (i + n) = if keepB b then γc i else none := by
  unfold addG
  rw [if_neg (by omega), Nat.add_sub_cancel, hb]
theorem addG_some {γc : Gh} {hc : Heap} {n i g o : Nat} (hg : addG γ n γc hc i = some (g, o)) (hi : ¬ i < n) : ∃ b, hc[i - n]? = some b ∧ keepB b = true ∧ γc (i - n) = some (g, o) := by
  unfold addG at hg
  rw [if_neg hi] at hg
  split at hg
  · rename_i b hb
    split at hg
    · rename_i hk; exact ⟨b, hb, hk, hg⟩
    · cases hg
  · cases hg

theorem rep_fresh {im im' : Nat → Prop} {u : Value} {x : V} (hs : freshC x = true) (hr : Rep w im u x) : Rep w im' u x := by
  cases hr with
  | int k n => exact .int k n
  | bool b => exact .bool b
  | str s => exact .str s
  | sl A n cap clip xs sz us h1 h2 h3 h4 h5 h6 h7 =>
    cases xs with
    | nil => exact .sl A n cap clip [] sz us h1 h2 h3 h4 h5 (fun hn => absurd hn (by simp at h1; omega)) (fun j c x y hx => by simp at hx)
    | cons a r => simp [freshC, isNil] at hs

theorem vt_scalar {K' : Ct} {γ γ' : Gh} {w : World} {h h' : Heap} {u : Value} {x : V} (hs : scalarA x = true) (hv : VT K γ w h u x) : VT K' γ' w h' u x ∧ VA K' γ' w h' u x := by
  cases x with
  | int k n => exact ⟨hv, hv⟩
  | bool b => exact ⟨hv, hv⟩
  | str s => exact ⟨hv, hv⟩
  | agg cs =>
    obtain ⟨vs, rfl, h1, h2⟩ := hv.agg
    simp only [scalarA, List.all_eq_true] at hs
    have : VA K' γ' w h' (.agg vs) (.agg cs) := ⟨vs, rfl, h1, fun i c hc => (h2 i c hc).imp fun q hq => ⟨hq.1, by
      have hsc := hs c (List.mem_of_getElem? hc)
      have hq2 := hq.2
      cases c with
      | int k n => exact hq2
      | bool b => exact hq2
      | str s => exact hq2
      | _ => cases hsc⟩⟩
    exact ⟨this.vt, this⟩
  | _ => cases hs

theorem moved_at {hc : Heap} {n i : Nat} {h : Heap} (hn : n = h.length) {b : Blk} (hb : hc[i]? = some b) : (h ++ movedH n hc)[i + n]? = some (shB n (clean b)) := by
  subst hn
  rw [List.getElem?_append_right (by omega), Nat.add_sub_cancel]
  simp [movedH, hb]

section
variable {γc : Gh} {hc : Heap} (n0 : h.length = h.length) (sc : St ⟨w, fun _ => True⟩ γc w' hc)

theorem ref_moved {A : Option Addr} {len cap id st off : Nat} {clip : Bool} (hr : RefOK ⟨w, fun _ => True⟩ γc w' hc A len cap id st off clip) :
    RefOK K (addG γ h.length γc hc) w' (h ++ movedH h.length hc) A len cap (id + h.length) st off clip := by
  obtain ⟨h1, h2, hp⟩ := hr
  refine ⟨h1, h2, ?_⟩
  cases hb : hc[id]? with
  | none => rw [hb] at hp; exact hp.elim
  | some b =>
    rw [hb] at hp
    rw [moved_at rfl hb, clean_eq]
    have hg := addG_at (γ := γ) (γc := γc) (n := h.length) hb
    cases hk : keepB b
    · simp only [Bool.false_eq_true, if_false, shB]
    · rw [hk] at hg
      simp only [if_true] at hg ⊢
      cases b with
      | rows st' sz cont =>
        simp only [shB]
        refine ⟨hp.1, fun e => ⟨(hp.2 e).1, ?_⟩⟩
        rw [hg]
        exact (hp.2 e).2
      | nest st' sz cont =>
        simp only [shB]
        refine ⟨hp.1, fun e => ⟨by simpa using (hp.2 e).1, ?_⟩⟩
        rw [hg]
        exact (hp.2 e).2
      | _ => cases hk

theorem vr_moved {u : Value} {y : V} (hf : freshC y = true) (hv : VR ⟨w, fun _ => True⟩ γc w' hc u y) : VR K (addG γ h.length γc hc) w' (h ++ movedH h.length hc) u (shC h.length y) := by
  cases y with
  | ref id st off len clip =>
    obtain ⟨A, cap, rfl, hr⟩ := hv
    exact ⟨A, cap, rfl, ref_moved hr⟩
  | int k n => exact rep_fresh hf hv
  | bool b => exact rep_fresh hf hv
  | str s => exact rep_fresh hf hv
  | sl c sz xs => exact rep_fresh hf hv
  | _ => cases hf

theorem vc_moved {u : Value} {y : V} (hf : freshC y = true) (hv : VC ⟨w, fun _ => True⟩ γc w' hc u y) : VC K (addG γ h.length γc hc) w' (h ++ movedH h.length hc) u (shC h.length y) := by
  refine vr_vc (vr_moved hf (vr_of_vc ?_ hv))
  cases y <;> first | rfl | cases hf

theorem va_moved {u : Value} {y : V} (hf : freshA y = true) (hv : VT ⟨w, fun _ => True⟩ γc w' hc u y) : VA K (addG γ h.length γc hc) w' (h ++ movedH h.length hc) u (shA h.length y) := by
  cases y with
  | agg cs =>
    obtain ⟨vs, rfl, h1, h2⟩ := hv.agg
    simp only [freshA, List.all_eq_true] at hf
    refine ⟨vs, rfl, by simpa using h1, fun i c hci => ?_⟩
    rw [List.getElem?_map] at hci
    obtain ⟨d, hd, rfl⟩ := Option.map_eq_some_iff.1 hci
    obtain ⟨q, hq, hvq⟩ := h2 i d hd
    exact ⟨q, hq, vc_moved (hf d (List.mem_of_getElem? hd)) hvq⟩
  | ref id st off len clip => exact VC.va (vc_moved (y := .ref id st off len clip) hf hv)
  | int k n => exact VC.va (vc_moved (w := w) (y := .int k n) hf hv)
  | bool b => exact VC.va (vc_moved (w := w) (y := .bool b) hf hv)
  | str s => exact VC.va (vc_moved (w := w) (y := .str s) hf hv)
  | sl c sz xs => exact VC.va (vc_moved (y := .sl c sz xs) hf hv)
  | _ => cases hf

include sc in
theorem st_moved (s : St K γ w h) : St K (addG γ h.length γc hc) w' (h ++ movedH h.length hc) ∧ Tr K γ w h (addG γ h.length γc hc) w' (h ++ movedH h.length hc) := by
  have hb : Below w.heap.size w w' := sc.below
  have hown : ∀ id g o, γ id = some (g, o) → w'.heap[g]? = w.heap[g]? := fun id g o hg => hb.block g (s.owned hg).2
  have hlt : ∀ id b', h[id]? = some b' → id < h.length := fun id b' hid => (List.getElem?_eq_some_iff.1 hid).1
  have hnew : ∀ i g o, γc i = some (g, o) → w.heap.size ≤ g := fun i g o hg => (sc.owned hg).1
  have t : Tr K γ w h (addG γ h.length γc hc) w' (h ++ movedH h.length hc) := by
    refine ⟨fun b0 hi => ⟨⟨Nat.lt_of_lt_of_le hi.1 hb.size, hi.2.1, fun id g o hg => ?_⟩, hb.block b0 hi.1⟩, fun id b0 hid => ⟨b0, ?_, keeps_self b0 (addG_lt (hlt id b0 hid)) (hown id)⟩⟩
    · by_cases e : id < h.length
      · rw [addG_lt e] at hg
        exact hi.2.2 id g o hg
      · obtain ⟨_, _, _, h3⟩ := addG_some hg e
        have := hnew _ _ _ h3
        have := hi.1
        omega
    · rw [List.getElem?_append_left (hlt id b0 hid)]
      exact hid
  refine ⟨⟨s.below.trans (hb.mono s.size), fun id b0 hid => ?_, fun id hid => ?_, fun id id' g o o' h1 h2 => ?_⟩, t⟩
  · rcases Nat.lt_or_ge id h.length with hl | hl
    · rw [List.getElem?_append_left hl] at hid
      exact blk_keep t (addG_lt hl) (hown id) (s.blk id b0 hid)
    · obtain ⟨j, rfl⟩ : ∃ j, id = j + h.length := ⟨id - h.length, by omega⟩
      have hj : j < hc.length := by
        have := (List.getElem?_eq_some_iff.1 hid).1
        simp [movedH] at this
        omega
      have hcj : hc[j]? = some hc[j] := List.getElem?_eq_getElem hj
      generalize hc[j] = b at hcj
      rw [moved_at rfl hcj] at hid
      injection hid with hid
      subst hid
      have hg := addG_at (γ := γ) (γc := γc) (n := h.length) hcj
      have hB := sc.blk j b hcj
      rw [clean_eq]
      cases hk : keepB b
      · rw [hk] at hg
        simp only [Bool.false_eq_true, if_false, shB] at hg ⊢
        exact hg
      · rw [hk] at hg
        simp only [if_true] at hg ⊢
        cases b with
        | rows st sz cont =>
          simp only [keepB, List.all_eq_true] at hk
          obtain ⟨h1, h2, h3⟩ := hB
          refine ⟨h1, h2, ?_⟩
          rw [hg]
          cases hq : γc j with
          | none => rw [hq] at h3; exact h3
          | some p =>
            obtain ⟨g, o⟩ := p
            rw [hq] at h3
            obtain ⟨h4, cs, h5, h6, h7⟩ := h3
            refine ⟨Nat.le_trans s.size h4, cs, h5, h6, fun j c x y hx hy => ?_⟩
            obtain ⟨u, hu, hr⟩ := h7 j c x y hx hy
            exact ⟨u, hu, rep_fresh (hk x (List.mem_of_getElem? hx) y (List.mem_of_getElem? hy)) hr⟩
        | nest st sz cont =>
          simp only [keepB, List.all_eq_true] at hk
          obtain ⟨h1, h2, h3⟩ := hB
          refine ⟨h1, fun x hx => ?_, ?_⟩
          · obtain ⟨x0, hx0, rfl⟩ := List.mem_map.1 hx
            rw [List.length_map]
            exact h2 x0 hx0
          · rw [hg]
            cases hq : γc j with
            | none => rw [hq] at h3; simp only at h3 ⊢; rw [h3]; rfl
            | some p =>
              obtain ⟨g, o⟩ := p
              rw [hq] at h3
              obtain ⟨h4, cs, h5, h6, h7⟩ := h3
              refine ⟨Nat.le_trans s.size h4, cs, h5, by simpa using h6, fun j c x y hx hy => ?_⟩
              rw [List.getElem?_map] at hx
              obtain ⟨x0, hx0, rfl⟩ := Option.map_eq_some_iff.1 hx
              rw [List.getElem?_map] at hy
              obtain ⟨y0, hy0, rfl⟩ := Option.map_eq_some_iff.1 hy
              obtain ⟨u, hu, hr⟩ := h7 j c x0 y0 hx0 hy0
              exact ⟨u, hu, vr_moved (hk x0 (List.mem_of_getElem? hx0) y0 (List.mem_of_getElem? hy0)) hr⟩
        | _ => cases hk
  · simp only [List.length_append, movedH, List.length_map] at hid
    unfold addG
    rw [if_neg (by omega), List.getElem?_eq_none (by omega)]
  · by_cases e : id < h.length
    · rw [addG_lt e] at h1
      by_cases e' : id' < h.length
      · rw [addG_lt e'] at h2
        exact s.inj id id' g o o' h1 h2
      · obtain ⟨_, _, _, h3⟩ := addG_some h2 e'
        have := hnew _ _ _ h3
        have := (s.owned h1).2
        omega
    · obtain ⟨_, _, _, h3⟩ := addG_some h1 e
      by_cases e' : id' < h.length
      · rw [addG_lt e'] at h2
        have := hnew _ _ _ h3
        have := (s.owned h2).2
        omega
      · obtain ⟨_, _, _, h4⟩ := addG_some h2 e'
        have := sc.inj _ _ g o o' h3 h4
        omega
end

/-- All of the heap given up, but boxes of flat cells. -/
theorem st_dead (s : St K γ w h) (hb : Below w.heap.size w w') : St K (liveG h γ) w' (h.map deadB) ∧ Tr K γ w h (liveG h γ) w' (h.map deadB) := by
  have him : ∀ b, Im K γ w b → Im K (liveG h γ) w' b ∧ w'.heap[b]? = w.heap[b]? := fun b hi => ⟨⟨Nat.lt_of_lt_of_le hi.1 hb.size, hi.2.1, fun _ _ _ e => hi.2.2 _ _ _ (liveG_some e).1⟩, hb.block b hi.1⟩
  refine ⟨⟨s.below.trans (hb.mono s.size), fun id b hid => ?_, fun id hid => ?_, fun _ _ _ _ _ e1 e2 => s.inj _ _ _ _ _ (liveG_some e1).1 (liveG_some e2).1⟩, ⟨him, fun id b hid => ⟨deadB b, by rw [List.getElem?_map, hid]; rfl, ?_⟩⟩⟩
  · have hid' := hid
    rw [List.getElem?_map] at hid
    obtain ⟨b0, h0, rfl⟩ := Option.map_eq_some_iff.1 hid
    have hblk := s.blk id _ h0
    cases b0 with
    | box cs =>
      by_cases hf : cs.all flatC = true
      · have e1 : deadB (.box cs) = .box cs := by simp only [deadB, hf, if_true]
        rw [e1] at hid' ⊢
        obtain ⟨g, c, g1, g2, g3, g4, g5⟩ := hblk
        refine ⟨g, c, ?_, g2, g3.mono (hb.block g (s.owned g1).2), g4, fun i y hy => ?_⟩
        · unfold liveG; rw [hid']; exact g1
        · obtain ⟨u, hu, hv⟩ := g5 i y hy
          refine ⟨u, hu, ?_⟩
          rw [List.all_eq_true] at hf
          have hfy := hf y (List.mem_of_getElem? hy)
          cases y with
          | int k n => exact hv
          | bool b => exact hv
          | str b => exact hv
          | sl c n xs => exact Rep.mono him hv
          | _ => cases hfy
      · have e1 : deadB (.box cs) = .dead := by simp only [deadB, hf, Bool.false_eq_true, if_false]
        rw [e1] at hid' ⊢
        show liveG h γ id = none
        unfold liveG; rw [hid']
    | _ => show liveG h γ id = none; unfold liveG; rw [hid']; rfl
  · unfold liveG
    rw [List.getElem?_eq_none (by simpa using hid)]
  · cases b with
    | box cs =>
      by_cases hf : cs.all flatC = true
      · have e1 : deadB (.box cs) = .box cs := by simp only [deadB, hf, if_true]
        rw [e1]
        show liveG h γ id = γ id
        unfold liveG; rw [List.getElem?_map, hid, Option.map_some, e1]
      · have e1 : deadB (.box cs) = .dead := by simp only [deadB, hf, Bool.false_eq_true, if_false]
        rw [e1]
        trivial
    | _ => simp only [deadB, Keeps]

theorem argsD {args args' : List V} {vs : Array Value} {ok : Nat → Prop} (hok : ∀ b, Im K (liveG h γ) w b → ok b) (s : St K γ w h) (hvs : VTs K γ w h vs args) (ha : pureDAs h args = some args') : VTs ⟨w, ok⟩ (fun _ => none) w [] vs args' := by
  obtain ⟨a1, a2⟩ := pureDAs_spec ha
  refine ⟨by rw [hvs.1, a1], fun i x hx => ?_⟩
  obtain ⟨v, hv, hp⟩ := a2 i x hx
  obtain ⟨u, hu, hvu⟩ := hvs.2 i v hv
  exact ⟨u, hu, ((pureDA_repL s hvu hp).mono (fun b hb => ⟨⟨hb.1, fun _ => hok b hb, fun _ _ _ e => by cases e⟩, rfl⟩)).vt⟩

theorem callO_ok {run : Run} (hrun : RunOK P run) (s : St K γ w h) {f : Nat} {args : List V} {x : V} {h' : Heap} (hev : callO run h f args = some (x, h')) {vs : Array Value} (hvs : VTs K γ w h vs args) :
    Calls P f vs w fun e w' => ∃ γ' v, e = .returned v ∧ VT K γ' w' h' v x ∧ Go2 K γ w h γ' w' h' := by
  unfold callO at hev
  split at hev
  · cases hev
  rename_i args' hargs
  split at hev
  rotate_left
  · cases hev
  rename_i rs hc hr
  refine (hrun ⟨w, fun _ => True⟩ (fun _ => none) w [] f args' rs hc hr (st_empty w _) vs (argsD (fun _ _ => trivial) s hvs hargs)).mono ?_
  rintro e w' ⟨γc, us, rfl, hus, hgo⟩
  have hb : Below w.heap.size w w' := hgo.st.below
  unfold BackO at hev
  split at hev
  · rename_i hsc
    injection hev with hev
    injection hev with e1 e2
    subst e1 e2
    rw [List.all_eq_true] at hsc
    refine ⟨γ, _, rfl, oneOf_vt hus.1 (fun i x hx => ?_), Go2.of (st_grow s hb)⟩
    obtain ⟨u, hu, hvu⟩ := hus.2 i x hx
    have := vt_scalar (K' := K) (γ' := γ) (h' := h) (hsc x (List.mem_of_getElem? hx)) hvu
    exact ⟨u, hu, this.1, .inl this.2⟩
  · split at hev
    · rename_i hfr
      injection hev with hev
      injection hev with e1 e2
      subst e1 e2
      rw [List.all_eq_true] at hfr
      have g := st_moved hgo.st s
      refine ⟨_, _, rfl, oneOf_vt (by rw [hus.1, List.length_map]) (fun i x hx => ?_), Go2.of g⟩
      rw [List.getElem?_map] at hx
      obtain ⟨x0, hx0, rfl⟩ := Option.map_eq_some_iff.1 hx
      obtain ⟨u, hu, hvu⟩ := hus.2 i x0 hx0
      have := va_moved (K := K) (γ := γ) (h := h) (hfr x0 (List.mem_of_getElem? hx0)) hvu
      exact ⟨u, hu, this.vt, .inl this⟩
    · cases hev

theorem callD_ok {run : Run} (hrun : RunOK P run) (s : St K γ w h) {f : Nat} {args : List V} {x : V} {h' : Heap} (hev : callD run h f args = some (x, h')) {vs : Array Value} (hvs : VTs K γ w h vs args) :
    Calls P f vs w fun e w' => ∃ γ' v, e = .returned v ∧ VT K γ' w' h' v x ∧ Go2 K γ w h γ' w' h' := by
  unfold callD at hev
  split at hev
  · cases hev
  rename_i args' hargs
  split at hev
  rotate_left
  · cases hev
  rename_i rs hc hr
  split at hev
  rotate_left
  · cases hev
  rename_i rs' hrs
  injection hev with hev
  injection hev with e1 e2
  subst e1 e2
  refine (hrun ⟨w, fun b => (b < K.w0.heap.size → K.ok b) ∧ ∀ id g o, liveG h γ id = some (g, o) → g ≠ b⟩ (fun _ => none) w [] f args' rs hc hr (st_empty w _) vs (argsD (fun _ hb => ⟨hb.2.1, hb.2.2⟩) s hvs hargs)).mono ?_
  rintro e w' ⟨γc, us, rfl, hus, hgo⟩
  have hb : Below w.heap.size w w' := hgo.st.below
  obtain ⟨b1, hres⟩ := pureRs_rep hgo.st hus hrs
  have g := st_dead s hb
  refine ⟨_, _, rfl, oneOf_vt (by rw [hus.1, b1]) (fun i x hx => ?_), Go2.of g⟩
  obtain ⟨u, hu, hru⟩ := hres i x hx
  have hr2 : RepA w' (Im K (liveG h γ) w') u x := hru.mono (fun b hb => ⟨⟨hb.1, fun h5 => (hb.2.1 (by show b < w.heap.size; have := s.size; omega)).1 h5, fun id g o e hgb => (hb.2.1 (by show b < w.heap.size; have := (s.owned (liveG_some e).1).2; omega)).2 id g o e hgb⟩, rfl⟩)
  exact ⟨u, hu, hr2.vt, .inl hr2.va⟩

theorem callK_ok {run : Run} (hrun : RunOK P run) (s : St K γ w h) {f : Nat} {args : List V} {x : V} {h' : Heap} (hev : callK run h f args = some (x, h')) {vs : Array Value} (hvs : VTs K γ w h vs args) :
    Calls P f vs w fun e w' => ∃ γ' v, e = .returned v ∧ VT K γ' w' h' v x ∧ Go2 K γ w h γ' w' h' := by
  unfold callK at hev
  split at hev
  rotate_left
  · cases hev
  rename_i rs h1 hr
  split at hev
  rotate_left
  · cases hev
  rename_i hok
  injection hev with hev
  injection hev with e1 e2
  subst e1 e2
  refine (hrun K γ w h f args rs h1 hr s vs hvs).mono ?_
  rintro e w' ⟨γ', us, rfl, hus, hgo⟩
  rw [List.all_eq_true] at hok
  refine ⟨γ', _, rfl, oneOf_vt hus.1 (fun i x hx => ?_), hgo⟩
  obtain ⟨u, hu, hvu⟩ := hus.2 i x hx
  refine ⟨u, hu, hvu, .inl (hvu.va ?_ ?_)⟩
  · rintro rfl; have := hok _ (List.mem_of_getElem? hx); cases this
  · rintro vs rfl; have := hok _ (List.mem_of_getElem? hx); cases this

theorem callX_ok {run : Run} (hrun : RunOK P run) (s : St K γ w h) {m f : Nat} {args : List V} {x : V} {h' : Heap} (hev : callX run h m f args = some (x, h')) {vs : Array Value} (hvs : VTs K γ w h vs args) :
    Calls P f vs w fun e w' => ∃ γ' v, e = .returned v ∧ VT K γ' w' h' v x ∧ Go2 K γ w h γ' w' h' := by
  unfold callX at hev
  split at hev
  · exact callO_ok hrun s hev hvs
  · exact callD_ok hrun s hev hvs
  · exact callK_ok hrun s hev hvs
end
end Go.Proofs.Ytfbjbkkcilhgjaa.PE
