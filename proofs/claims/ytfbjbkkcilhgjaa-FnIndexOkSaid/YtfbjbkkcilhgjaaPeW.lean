/- Code, functions, and the table of functions. -/
import Derived.Test.YtfbjbkkcilhgjaaPeQ
import Derived.LoopN
import Derived.Laws.Sem
namespace Go.Proofs.Ytfbjbkkcilhgjaa.PE
open Go.RowKit

/-- Functions of a table, others by ext; each round deeper by one. -/
noncomputable def runD (tab : Tab) (ext : Run) : Nat → Run
  | 0 => fun _ _ _ => none
  | d + 1 => fun f args h => match tab.find f with
    | some F => runF (runD tab ext d) (drawI (runD tab ext d)) F args h
    | none => ext f args h

/-! ### checks -/
def nilOp (P : Program) (t3 : Nat) : Go.Op → Bool
  | .binOp .eql t (.tmp q) (.const (.slice none 0 0)) _ => decide (q = t3) && (sliceT P t).isSome
  | _ => false
/-- Is a slice nil? -/
def chkNil (P : Program) (N : Nat) (ops : Array Oper) (t0 t3 t4 : Nat) : Bool := match ops.toList with
  | [o1, o2] => chkI P ops N o1 ⟨some t3, none, .mov (.t t0), 0, 0, false, []⟩ && decide (o2.dst = some t4) && decide (t4 < N) && o2.guard.isNone && nilOp P t3 o2.op
  | _ => false
def chkC (P : Program) (N : Nat) : C → Code → Bool
  | .prep _ c, code => chkC P N c code
  | .clone t0 t3 t4 t5 t6 t7 d sz, .seq (.seq (.region _ ops false) (.cond (.tmp c) (.seq (.region _ opsA false) .ret) .skip)) (.seq (.region _ opsB false) .ret) =>
    chkNil P N ops t0 t3 t4 && decide (c = t4) && chkIs P opsA N 0 [⟨some d, none, .mov (.k (.sl true sz [])), 0, 0, false, []⟩] && chkIs P opsB N 0 (cloneIs t0 t5 t6 t7 d sz) && decide ([t0, t3, t4, t5, t6, t7].Nodup)
  | .cutTo _ c, code => chkC P N c code
  | .frzc _ c, code => chkC P N c code
  | .bad, _ => true
  | .skip, .skip => true
  | .seg draw is, .region _ ops draw' => draw == draw' && (if draw then chkDraw P ops N is else chkIs P ops N 0 is)
  | .seq a b, .seq x y => chkC P N a x && chkC P N b y
  | .cond c a b, .cond x y z => chkX x c && chkC P N a y && chkC P N b z
  | .block id c, .block id' x => decide (id = id') && chkC P N c x
  | .loop _ _ c, .loop x => chkC P N c x
  | .loopk _ _ c, .loop x => chkC P N c x
  | .exit id, .exit id' => decide (id = id')
  | .ret, .ret => true
  | _, _ => false

def chkRes (P : Program) : List (Bool × Nat × Nat × Bool) → List ResultVar → Bool
  | [], [] => true
  | (false, t, _, _) :: r, .tmp t' :: r' => decide (t = t') && chkRes P r r'
  | (true, t, sz, agg) :: r, .cell t' ty :: r' => decide (t = t') && decide (aggT P ty = some agg) && decide (szT P ty = some sz) && chkRes P r r'
  | _, _ => false

def chkF (P : Program) (f : Nat) (F : F) : Bool := match P.funcs[f]? with
  | some fn => callable P f && decide (fn.ntmps = F.n) && chkRes P F.res fn.results.toList && (match fn.body with
    | some c => chkC P F.n F.body c
    | none => false)
  | none => false

/-- How the machine leaves a piece of code. -/
def exOf : Ex → Exit
  | .norm => .normal
  | .exit id => .exit id
  | .ret => .ret

section
variable {P : Program} {K : Ct} {γ γ' : Gh} {w w' : World} {h h' : Heap} {N : Nat} {a : Act} {e e' : Env}

theorem get_cutE (live : List Nat) (e : Env) (t : Nat) : get (cutE live e) t = if t ∈ live then get e t else .undef := by
  induction live with
  | nil => rfl
  | cons s r ih =>
    rw [cutE, List.map_cons, get_cons]
    by_cases hst : s = t
    · subst hst
      simp
    · rw [if_neg hst]
      have : get (cutE r e) t = if t ∈ r then get e t else .undef := ih
      rw [cutE] at this
      rw [this]
      by_cases htr : t ∈ r
      · simp [htr]
      · rw [if_neg htr, if_neg]
        intro hm
        rcases List.mem_cons.1 hm with h1 | h1
        · exact hst h1.symm
        · exact htr h1

theorem env_cut (he : EnvOK K γ w h N a e) (live : List Nat) : EnvOK K γ w h N a (cutE live e) := by
  refine ⟨he.1, he.2.1, fun t => ?_⟩
  rw [get_cutE]
  split
  · exact he.2.2 t
  · trivial

theorem get_mem {e : Env} {t : Nat} : get e t = .undef ∨ ∃ p ∈ e, p.2 = get e t := by
  induction e with
  | nil => exact .inl rfl
  | cons p r ih =>
    obtain ⟨s, v⟩ := p
    rw [get_cons]
    split
    · exact .inr ⟨_, List.mem_cons_self, rfl⟩
    · rcases ih with h1 | ⟨p, h1, h2⟩
      · exact .inl h1
      · exact .inr ⟨p, List.mem_cons_of_mem _ h1, h2⟩

theorem env_trim (he : EnvOK K γ w h N a e) {n : Nat} (hn : n ≤ h.length) (hE : hiE n e = true) : EnvOK K (trimG γ n none) w (h.take n) N a e := by
  refine ⟨he.1, he.2.1, fun t => ?_⟩
  have hx : hiT n (get e t) = true := by
    rcases get_mem (e := e) (t := t) with h1 | ⟨p, h1, h2⟩
    · rw [h1]; rfl
    · rw [← h2]
      exact List.all_eq_true.1 hE p h1
  have := trim_vt (bs := []) (p := none) (fun _ _ e => by cases e) hn hx (he.2.2 t)
  rwa [List.append_nil] at this

/-- Back to the blocks that there were. -/
theorem go_trim {γ0 : Gh} {w0 : World} {h0 : Heap} (g : Go2 K γ0 w0 h0 γ w h) (hH : hiH h0.length (h.take h0.length) = true) : Go2 K γ0 w0 h0 (trimG γ h0.length none) w (h.take h0.length) := by
  have := trim_go g (p := none) (bs := []) (fun _ _ e => by cases e) g.len hH (by simp) (fun _ => rfl) (fun b e => by cases e)
  rwa [List.append_nil] at this

theorem ok_cut {γ0 : Gh} {w0 : World} {h0 : Heap} {live : List Nat} (g : Go2 K γ0 w0 h0 γ w h) (he : EnvOK K γ w h N a e) (hc : cut live h0.length e h = some (e', h')) :
    ∃ γ', Go2 K γ0 w0 h0 γ' w h' ∧ EnvOK K γ' w h' N a e' := by
  unfold cut at hc
  split at hc
  · rename_i hcond
    simp only [Bool.and_eq_true] at hcond
    injection hc with hc
    injection hc with e1 e2
    subst e1 e2
    exact ⟨_, go_trim g hcond.2, env_trim (env_cut he live) g.len hcond.1⟩
  · injection hc with hc
    injection hc with e1 e2
    subst e1 e2
    exact ⟨γ, g, env_cut he live⟩

theorem ok_leave {γ0 : Gh} {w0 : World} {h0 : Heap} {out : List Nat} (g : Go2 K γ0 w0 h0 γ w h) (he : EnvOK K γ w h N a e) (hc : leave out h0.length e h = (e', h')) :
    ∃ γ', Go2 K γ0 w0 h0 γ' w h' ∧ EnvOK K γ' w h' N a e' := by
  unfold leave at hc
  split at hc
  · rename_i hcond
    simp only [Bool.and_eq_true] at hcond
    injection hc with e1 e2
    subst e1 e2
    exact ⟨_, go_trim g hcond.2, env_trim (env_cut he out) g.len hcond.1⟩
  · injection hc with e1 e2
    subst e1 e2
    exact ⟨γ, g, env_cut he out⟩

/-- Room for a row where a variable holds no slice as yet. -/
theorem ok_frzH (s : St K γ w h) (e : Env) (t : Nat) : ∃ γ', Go2 K γ w h γ' w (frzH e h t) := by
  unfold frzH
  split
  · split
    · obtain ⟨γ1, g1, _, _⟩ := st_frzs _ s
      exact ⟨γ1, g1⟩
    · exact ⟨γ, Go2.refl s⟩
  · exact ⟨γ, Go2.refl s⟩
theorem ok_prep (s : St K γ w h) {p : Nat × Nat × Nat} (hp : prepH e h p = some h') : ∃ γ', Go2 K γ w h γ' w h' := by
  unfold prepH at hp
  split at hp
  · rename_i id hg
    split at hp
    · rename_i cells hb
      split at hp
      · rename_i sz hcell
        split at hp
        · rename_i hsz
          injection hp with hp
          subst hp
          obtain ⟨g, cs, h1, h2, h3, h4, h5⟩ := s.blk id _ hb
          have hz : 0 < sz := by
            obtain ⟨u, hu, hv⟩ := h5 _ _ hcell
            have hv' : Rep w (Im K γ w) u (.sl true sz []) := hv
            obtain ⟨A, cap, rfl, _, hcap, hz⟩ := rep_slice hv'
            exact hz
          have g1 := st_add (w' := w) s (.rows 0 sz []) none (Below.refl _ _) (fun _ _ e => by cases e) (fun _ => ⟨hz, (fun x hx => by cases hx), by rw [upd_self]⟩)
          rw [upd_none_self s] at g1
          have hlt : id < h.length := (List.getElem?_eq_some_iff.1 hb).1
          have hb1 : (h ++ [Blk.rows 0 sz []])[id]? = some (.box cells) := by rw [List.getElem?_append_left hlt]; exact hb
          have hset : h.set id (.box (cells.set p.2.1 (.ref h.length 0 0 0 false))) ++ [Blk.rows 0 sz []] = (h ++ [Blk.rows 0 sz []]).set id (.box (cells.set p.2.1 (.ref h.length 0 0 0 false))) := by
            rw [List.set_append_left _ _ hlt]
          rw [hset]
          have hγ : upd γ id (some (g, 0)) = γ := by
            funext i
            unfold upd
            split
            · subst_vars; exact h1.symm
            · rfl
          have g2 := st_upd g1.1 hb1 (b' := .box (cells.set p.2.1 (.ref h.length 0 0 0 false))) (w' := w) (some (g, 0)) g1.1.below (Nat.le_refl _) (fun _ _ _ => rfl) (fun g' o' e => by
              injection e with e
              injection e with e _
              subst e
              exact .inl ⟨0, h1⟩) (by rw [hγ]; exact rfl) (fun t => by
              rw [hγ] at t ⊢
              refine ⟨g, cs, h1, h2, h3, by simpa using h4, fun c y hy => ?_⟩
              by_cases hcc : p.2.1 = c
              · subst hcc
                have hc1 : p.2.1 < cells.length := (List.getElem?_eq_some_iff.1 hcell).1
                rw [List.getElem?_set_self hc1] at hy
                injection hy with hy
                subst hy
                obtain ⟨u, hu, hv⟩ := h5 _ _ hcell
                have hv' : Rep w (Im K γ w) u (.sl true sz []) := hv
                obtain ⟨A, cap, rfl, _, hcap, _⟩ := rep_slice hv'
                have hc0 : cap = 0 := hcap rfl
                subst hc0
                refine ⟨_, hu, A, 0, rfl, Nat.le_refl _, fun _ => rfl, ?_⟩
                have : ((h ++ [Blk.rows 0 sz []]).set id (.box (cells.set p.2.1 (.ref h.length 0 0 0 false))))[h.length]? = some (Blk.rows 0 sz []) := by
                  rw [List.getElem?_set_ne (by omega), List.getElem?_concat_length]
                rw [this]
                refine ⟨Nat.le_refl _, fun _ => ⟨by simp, ?_⟩⟩
                rw [s.dom _ (Nat.le_refl _)]
              · rw [List.getElem?_set_ne hcc] at hy
                obtain ⟨u, hu, hv⟩ := h5 c y hy
                exact ⟨u, hu, t.vc (g1.2.vc hv)⟩)
          rw [hγ] at g2
          exact ⟨γ, (Go2.of g1).trans (Go2.of g2)⟩
        · cases hp
      · injection hp with hp; subst hp; exact ⟨γ, Go2.refl s⟩
      · cases hp
    · cases hp
  · cases hp

theorem run_eql_nil {t e' : TypeId} (ht : sliceT P t = some e') (A : Option Addr) (len cap : Nat) : (binOp .eql t (.slice A len cap) (.slice none 0 0)).run P w = .ok (.bool A.isNone) w := by
  have h1 : (Op.equalIn (9999 + 1) t (.slice A len cap) (.slice none 0 0)).run P w = .ok A.isNone w := by
    unfold Op.equalIn
    simp only [Sem.run_bind, run_underlying (of_sliceT ht), Result.andThen_ok]
    cases A <;> rfl
  show Sem.run P (Op.equalIn (9999 + 1) t (.slice A len cap) (.slice none 0 0) >>= fun r => pure (Value.bool r)) w = _
  rw [Sem.run_bind, h1]
  rfl
theorem ok_nil {run : Run} (hrun : RunOK P run) (hcal : RunCal P run) {ops : Array Oper} {t0 t3 t4 id : Nat} {Q : Exit → Act → World → Prop} (s : St K γ w h) (he : EnvOK K γ w h N a e) (hc : chkNil P N ops t0 t3 t4 = true) {xs : List (List V)} {sz : Nat} (hl : listOf h (get e t0) = some xs) (hs : elSz h (get e t0) = some sz)
    (hQ : ∀ γ' a' w' b, Go2 K γ w h γ' w' h → (b = true → xs = []) → EnvOK K γ' w' h N a' ((t4, .bool b) :: (t3, get e t0) :: e) → Q .normal a' w') : (Code.region id ops false).wp P Q a w := by
  unfold chkNil at hc
  split at hc
  · rename_i o1 o2 hops
    simp only [Bool.and_eq_true, decide_eq_true_eq] at hc
    obtain ⟨⟨⟨⟨h1, h2⟩, h3⟩, h4⟩, h5⟩ := hc
    have hsz : ops.size = 2 := by rw [← Array.length_toList, hops]; rfl
    have g0 : ops[0]? = some o1 := by rw [← Array.getElem?_toList, hops]; rfl
    have g1 : ops[1]? = some o2 := by rw [← Array.getElem?_toList, hops]; rfl
    refine wp_region ?_
    rw [hsz]
    show wpOps P ops Q [0, 1] a w
    rw [wpOps_cons]
    refine ok_I hrun hcal (e' := (t3, get e t0) :: e) (h' := h) s he h1 (by simp [evI, wants, evGo, evOp, updE, X.ev]) g0 (fun γ1 a1 w1 q1 he1 => ?_)
    rw [wpOps_cons]
    unfold wpOp
    rw [g1]
    simp only []
    have hw : Region.wanted o2 (yielded ops a1.tmps) = true := by
      unfold Region.wanted
      cases hg : o2.guard with
      | none => rfl
      | some _ => rw [hg] at h4; cases h4
    rw [hw, if_pos rfl]
    left
    unfold nilOp at h5
    split at h5
    · rename_i eo t q ty ho
      simp only [Bool.and_eq_true, decide_eq_true_eq] at h5
      obtain ⟨rfl, h6⟩ := h5
      obtain ⟨e', ht⟩ := Option.isSome_iff_exists.1 h6
      have hv : VT K γ1 w1 h (a1.eval (.tmp q)) (get e t0) := by
        have := he1.2.2 q
        rw [get_cons, if_pos rfl] at this
        exact this
      obtain ⟨A, cap, hax, _, _, _, us, _, hne⟩ := list_src q1.st hv hl hs
      have hrun2 : (execOp a1.eval o2).run P w1 = .ok (.value (.bool A.isNone)) w1 := by
        unfold execOp
        rw [ho]
        simp only [Sem.run_bind, hax]
        show ((binOp .eql t (.slice A xs.length cap) (.slice none 0 0)).run P w1).andThen _ = _
        rw [run_eql_nil ht]
        rfl
      unfold Oper.wp
      rw [hrun2]
      show wpOps P ops Q [] (a1.put o2.dst (.bool A.isNone)) w1
      rw [h2]
      refine hQ γ1 _ w1 A.isNone q1 (fun hb => ?_) (he1.put (d := some t4) (fun t ht => by cases ht; exact h3) (v := .bool A.isNone) (x := .bool A.isNone) rfl)
      rcases Nat.eq_zero_or_pos xs.length with h0 | h0
      · exact List.length_eq_zero_iff.1 h0
      · obtain ⟨g, o', rfl, _⟩ := hne h0
        cases hb
    · cases h5
  · cases hc
theorem clone_nil {run : Run} {t0 t5 t6 t7 d sz : Nat} (hl : listOf h (get e t0) = some []) (hs : elSz h (get e t0) = some sz) (h5 : t0 ≠ t5) (h6 : t5 ≠ t6) : evIs run (cloneIs t0 t5 t6 t7 d sz) e h = some ((d, .sl true sz []) :: (t7, .sl true sz []) :: (t6, get e t0) :: (t5, .sl true sz []) :: e, h) := by
  have g5 : get ((t5, V.sl true sz []) :: e) t0 = get e t0 := by rw [get_cons, if_neg (Ne.symm h5)]
  have g6 : get ((t6, get e t0) :: (t5, V.sl true sz []) :: e) t5 = .sl true sz [] := by rw [get_cons, if_neg (Ne.symm h6), get_cons, if_pos rfl]
  have g7 : get ((t6, get e t0) :: (t5, V.sl true sz []) :: e) t6 = get e t0 := by rw [get_cons, if_pos rfl]
  have g8 : ∀ r, get ((t7, V.sl true sz []) :: r) t7 = .sl true sz [] := fun r => by rw [get_cons, if_pos rfl]
  simp [cloneIs, evIs, evI, wants, evGo, evOp, updE, X.ev, elemsOf, frzs, g5, g6, g7, g8, hl, hs, appendTo]

/-- Code. -/
theorem ok_C {run : Run} (hrun : RunOK P run) (hcal : RunCal P run) : ∀ (c : C) {code : Code} {Q : Exit → Act → World → Prop} {γ : Gh} {w : World} {h h' : Heap} {a : Act} {e e' : Env} {ex : Ex}, chkC P N c code = true → St K γ w h → EnvOK K γ w h N a e →
    evC run (drawI run) c e h = some (ex, e', h') → (∀ γ' a' w', Go2 K γ w h γ' w' h' → EnvOK K γ' w' h' N a' e' → Q (exOf ex) a' w') → code.wp P Q a w := by
  intro c
  induction c with
  | skip =>
    intro code Q γ w h h' a e e' ex hc s he hev hQ
    cases code <;> simp only [chkC, Bool.false_eq_true] at hc
    simp only [evC, Option.some.injEq, Prod.mk.injEq] at hev
    obtain ⟨rfl, rfl, rfl⟩ := hev
    exact wp_skip (hQ γ a w (Go2.refl s) he)
  | seg draw is =>
    intro code Q γ w h h' a e e' ex hc s he hev hQ
    cases code <;> simp only [chkC, Bool.false_eq_true] at hc
    rename_i id ops draw'
    simp only [Bool.and_eq_true, beq_iff_eq] at hc
    obtain ⟨rfl, hc⟩ := hc
    cases draw with
    | true =>
      simp only [evC] at hev
      split at hev
      · rename_i e1 h1 hd
        simp only [Option.some.injEq, Prod.mk.injEq] at hev
        obtain ⟨rfl, rfl, rfl⟩ := hev
        exact ok_draw hrun hcal s he (by simpa using hc) hd hQ
      · cases hev
    | false =>
      simp only [evC] at hev
      split at hev
      · rename_i e1 h1 hd
        simp only [Option.some.injEq, Prod.mk.injEq] at hev
        obtain ⟨rfl, rfl, rfl⟩ := hev
        exact ok_text hrun hcal s he (by simpa using hc) hd hQ
      · cases hev
  | seq x y ihx ihy =>
    intro code Q γ w h h' a e e' ex hc s he hev hQ
    cases code <;> simp only [chkC, Bool.false_eq_true] at hc
    simp only [Bool.and_eq_true] at hc
    simp only [evC] at hev
    split at hev
    · rename_i e1 h1 h2
      refine wp_seq (ihx hc.1 s he h2 (fun γ1 a1 w1 g1 he1 => ?_))
      exact ihy hc.2 g1.st he1 hev (fun γ2 a2 w2 g2 he2 => hQ γ2 a2 w2 (g1.trans g2) he2)
    · rename_i hne
      refine wp_seq (ihx hc.1 s he hev (fun γ1 a1 w1 g1 he1 => ?_))
      have := hQ γ1 a1 w1 g1 he1
      cases ex with
      | norm => exact absurd hev (hne _ _)
      | exit id => exact this
      | ret => exact this
  | cond x y z ihy ihz =>
    intro code Q γ w h h' a e e' ex hc s he hev hQ
    cases code <;> simp only [chkC, Bool.false_eq_true] at hc
    simp only [Bool.and_eq_true] at hc
    simp only [evC] at hev
    split at hev
    · rename_i t ht
      have hv := chkX_ok hc.1.1 he
      rw [ht] at hv
      refine wp_cond hv.bool ?_
      cases t with
      | true => simp only [if_true] at hev ⊢; exact ihy hc.1.2 s he hev hQ
      | false => simp only [Bool.false_eq_true, if_false] at hev ⊢; exact ihz hc.2 s he hev hQ
    · cases hev
  | block id x ih =>
    intro code Q γ w h h' a e e' ex hc s he hev hQ
    cases code <;> simp only [chkC, Bool.false_eq_true] at hc
    simp only [Bool.and_eq_true, decide_eq_true_eq] at hc
    obtain ⟨rfl, hc⟩ := hc
    simp only [evC] at hev
    split at hev
    · rename_i id' e1 h1 h2
      refine wp_block (ih hc s he h2 (fun γ1 a1 w1 g1 he1 => ?_))
      split at hev
      · rename_i hid
        subst hid
        simp only [Option.some.injEq, Prod.mk.injEq] at hev
        obtain ⟨rfl, rfl, rfl⟩ := hev
        simp only [exOf, Exit.inBlock, if_true]
        exact hQ γ1 a1 w1 g1 he1
      · rename_i hid
        simp only [Option.some.injEq, Prod.mk.injEq] at hev
        obtain ⟨rfl, rfl, rfl⟩ := hev
        simp only [exOf, Exit.inBlock, if_neg hid]
        exact hQ γ1 a1 w1 g1 he1
    · rename_i hne
      refine wp_block (ih hc s he hev (fun γ1 a1 w1 g1 he1 => ?_))
      have := hQ γ1 a1 w1 g1 he1
      cases ex with
      | norm => exact this
      | exit id' => exact absurd hev (hne _ _ _)
      | ret => exact this
  | exit id =>
    intro code Q γ w h h' a e e' ex hc s he hev hQ
    cases code <;> simp only [chkC, Bool.false_eq_true, decide_eq_true_eq] at hc
    subst hc
    simp only [evC, Option.some.injEq, Prod.mk.injEq] at hev
    obtain ⟨rfl, rfl, rfl⟩ := hev
    exact wp_exit (hQ γ a w (Go2.refl s) he)
  | bad =>
    intro code Q γ w h h' a e e' ex hc s he hev hQ
    simp [evC] at hev
  | ret =>
    intro code Q γ w h h' a e e' ex hc s he hev hQ
    cases code <;> simp only [chkC, Bool.false_eq_true] at hc
    simp only [evC, Option.some.injEq, Prod.mk.injEq] at hev
    obtain ⟨rfl, rfl, rfl⟩ := hev
    exact wp_ret (hQ γ a w (Go2.refl s) he)
  | frzc t c ih =>
    intro code Q γ w h h' a e e' ex hc s he hev hQ
    have hc' : chkC P N c code = true := by simpa only [chkC] using hc
    simp only [evC] at hev
    obtain ⟨γ1, g1⟩ := ok_frzH s e t
    exact ih hc' g1.st (he.pres g1.pres) hev (fun γ2 a2 w2 g2 he2 => hQ γ2 a2 w2 (g1.trans g2) he2)
  | clone t0 t3 t4 t5 t6 t7 d sz =>
    intro code Q γ w h h' a e e' ex hc s he hev hQ
    unfold chkC at hc
    split at hc
    all_goals first | (exact absurd hc Bool.false_ne_true) | (rename_i heqC; cases heqC; done) | skip
    rename_i u0 u3 u4 u5 u6 u7 ud us i2 ops c i1 opsA i0 opsB heqC
    injection heqC with q0 q3 q4 q5 q6 q7 qd qs
    subst q0 q3 q4 q5 q6 q7 qd qs
    simp only [Bool.and_eq_true, decide_eq_true_eq] at hc
    obtain ⟨⟨⟨⟨hc1, rfl⟩, hcA⟩, hcB⟩, hnd⟩ := hc
    simp only [List.nodup_cons, List.mem_cons, List.not_mem_nil, or_false, not_or] at hnd
    obtain ⟨⟨n1, n2, n3, n4, n5⟩, ⟨n6, n7, n8, n9⟩, ⟨n10, n11, n12⟩, ⟨n13, n14⟩, _⟩ := hnd
    simp only [evC] at hev
    obtain ⟨xs, sz', hl, hs, hev⟩ : ∃ xs sz', listOf h (get e t0) = some xs ∧ elSz h (get e t0) = some sz' ∧ CloneC (some xs) (some sz') run t0 t3 c t5 t6 t7 d sz e h = some (ex, e', h') := by
      cases hl : listOf h (get e t0) with
      | none => rw [hl] at hev; cases hev
      | some xs =>
        cases hs : elSz h (get e t0) with
        | none => rw [hl, hs] at hev; cases xs <;> cases hev
        | some sz' => rw [hl, hs] at hev; exact ⟨xs, sz', rfl, rfl, hev⟩
    have hsz : sz' = sz := by
      cases xs <;> simp only [CloneC] at hev <;> split at hev <;> first | assumption | cases hev
    subst hsz
    refine wp_seq (wp_seq (ok_nil hrun hcal s he hc1 hl hs (fun γ1 a1 w1 b g1 hb he1 => ?_)))
    have hcv : a1.eval (.tmp c) = .bool b := by
      have := he1.2.2 c
      rw [get_cons, if_pos rfl] at this
      exact this.bool
    have ht0 : get ((c, V.bool b) :: (t3, get e t0) :: e) t0 = get e t0 := by rw [get_cons, if_neg (Ne.symm n2), get_cons, if_neg (Ne.symm n1)]
    refine wp_cond hcv ?_
    cases b with
    | true =>
      obtain rfl := hb rfl
      simp only [CloneC, if_true, Option.some.injEq, Prod.mk.injEq] at hev
      obtain ⟨rfl, rfl, rfl⟩ := hev
      refine wp_seq (ok_text hrun hcal (e' := (d, .sl true sz' []) :: (c, V.bool true) :: (t3, get e t0) :: e) (h' := h) g1.st he1 hcA (by simp [evIs, evI, wants, evGo, evOp, updE, X.ev]) (fun γ2 a2 w2 g2 he2 => ?_))
      refine wp_ret ?_
      have := env_cut he2 [d]
      simp only [cutE, List.map_cons, List.map_nil, get_cons, if_true] at this
      exact hQ γ2 a2 w2 (g1.trans g2) this
    | false =>
      refine wp_skip ?_
      cases xs with
      | nil =>
        simp only [CloneC, if_true, Option.some.injEq, Prod.mk.injEq] at hev
        obtain ⟨rfl, rfl, rfl⟩ := hev
        refine wp_seq (ok_text hrun hcal g1.st he1 hcB (clone_nil (by rw [ht0]; exact hl) (by rw [ht0]; exact hs) n3 n13) (fun γ2 a2 w2 g2 he2 => ?_))
        refine wp_ret ?_
        have := env_cut he2 [d]
        simp only [cutE, List.map_cons, List.map_nil, get_cons, if_true] at this
        exact hQ γ2 a2 w2 (g1.trans g2) this
      | cons y ys =>
        simp only [CloneC, if_true, CloneR] at hev
        split at hev
        · rename_i e1 h1 hB
          simp only [Option.some.injEq, Prod.mk.injEq] at hev
          obtain ⟨rfl, rfl, rfl⟩ := hev
          refine wp_seq (ok_text hrun hcal g1.st he1 hcB hB (fun γ2 a2 w2 g2 he2 => ?_))
          refine wp_ret ?_
          exact hQ γ2 a2 w2 (g1.trans g2) he2
        · cases hev
  | cutTo live c ih =>
    intro code Q γ w h h' a e e' ex hc s he hev hQ
    simp only [chkC] at hc
    simp only [evC] at hev
    exact ih hc s (env_cut he live) hev hQ
  | prep p c ih =>
    intro code Q γ w h h' a e e' ex hc s he hev hQ
    have hc' : chkC P N c code = true := by simpa only [chkC] using hc
    simp only [evC] at hev
    split at hev
    · rename_i h1 hp
      obtain ⟨γ1, g1⟩ := ok_prep s hp
      exact ih hc' g1.st (he.pres g1.pres) hev (fun γ2 a2 w2 g2 he2 => hQ γ2 a2 w2 (g1.trans g2) he2)
    · cases hev
  | loopk live out c ih =>
    intro code Q γ w h h' a e e' ex hc s he hev hQ
    cases code <;> simp only [chkC, Bool.false_eq_true] at hc
    rename_i code
    simp only [evC] at hev
    have key : ∀ (k : Nat) {γ1 : Gh} {w1 : World} {h1 : Heap} {a1 : Act} {e1 : Env}, Go2 K γ w h γ1 w1 h1 → EnvOK K γ1 w1 h1 N a1 e1 → iterk (evC run (drawI run) c) live out k e1 h1 = some (ex, e', h') → Code.rounds P code Q k a1 w1 := by
      intro k
      induction k with
      | zero => intro γ1 w1 h1 a1 e1 _ _ hi; simp [iterk] at hi
      | succ k ihk =>
        intro γ1 w1 h1 a1 e1 g1 he1 hi
        simp only [iterk] at hi
        rw [rounds_succ]
        split at hi
        · cases hi
        · rename_i e3 h3 hb
          refine ih hc g1.st (env_cut he1 live) hb (fun γ4 a4 w4 g4 he4 => ?_)
          exact ihk (g1.trans g4) he4 hi
        · rename_i ex' e3 h3 hne hb
          simp only [Option.some.injEq, Prod.mk.injEq] at hi
          obtain ⟨rfl, rfl, rfl⟩ := hi
          refine ih hc g1.st (env_cut he1 live) hb (fun γ4 a4 w4 g4 he4 => ?_)
          have := hQ γ4 a4 w4 (g1.trans g4) (env_cut he4 out)
          cases ex' with
          | norm => exact (hne rfl).elim
          | exit id => exact this
          | ret => exact this
    exact wp_loop_rounds rounds (key rounds (Go2.refl s) he hev)
  | loop live out c ih =>
    intro code Q γ w h h' a e e' ex hc s he hev hQ
    cases code <;> simp only [chkC, Bool.false_eq_true] at hc
    rename_i code
    simp only [evC] at hev
    have key : ∀ (k : Nat) {γ1 : Gh} {w1 : World} {h1 : Heap} {a1 : Act} {e1 : Env}, Go2 K γ w h γ1 w1 h1 → EnvOK K γ1 w1 h1 N a1 e1 → iter (evC run (drawI run) c) live out h.length k e1 h1 = some (ex, e', h') → Code.rounds P code Q k a1 w1 := by
      intro k
      induction k with
      | zero => intro γ1 w1 h1 a1 e1 _ _ hi; simp [iter] at hi
      | succ k ihk =>
        intro γ1 w1 h1 a1 e1 g1 he1 hi
        simp only [iter] at hi
        split at hi
        · cases hi
        · rename_i e0 h0 hcut
          obtain ⟨γ2, g2, he2⟩ := ok_cut g1 he1 hcut
          rw [rounds_succ]
          split at hi
          · cases hi
          · rename_i e3 h3 hb
            refine ih hc g2.st he2 hb (fun γ4 a4 w4 g4 he4 => ?_)
            exact ihk (g2.trans g4) he4 hi
          · rename_i ex' e3 h3 hne hb
            simp only [Option.some.injEq, Prod.mk.injEq] at hi
            obtain ⟨rfl, hl⟩ := hi
            refine ih hc g2.st he2 hb (fun γ4 a4 w4 g4 he4 => ?_)
            obtain ⟨γ5, g5, he5⟩ := ok_leave (g2.trans g4) he4 hl
            have := hQ γ5 a4 w4 g5 he5
            cases ex' with
            | norm => exact (hne rfl).elim
            | exit id => exact this
            | ret => exact this
    exact wp_loop_rounds rounds (key rounds (Go2.refl s) he hev)
end
end Go.Proofs.Ytfbjbkkcilhgjaa.PE
