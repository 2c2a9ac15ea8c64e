/- Bounds hold of the rows: the plain law. -/
import Derived.Test.YtnnjpiepoeknnaaPvf
import Derived.Test.YtnnjpiepoeknnaaPve
set_option linter.unusedSimpArgs false
set_option linter.unusedVariables false
set_option maxHeartbeats 4000000
namespace Go.Proofs.Ytnnjpiepoeknnaa.PE
open Go.RowKit

theorem count_two {α : Type} {p : α → Bool} {a b : α} : ∀ {l : List α}, a ∈ l → b ∈ l → a ≠ b → p a = true → p b = true → 2 ≤ l.countP p
  | [], h, _, _, _, _ => by cases h
  | x :: r, ha, hb, hne, pa, pb => by
    rw [List.countP_cons]
    rcases List.mem_cons.1 ha with e1 | h1
    · rcases List.mem_cons.1 hb with e2 | h2
      · exact absurd (e1.trans e2.symm) hne
      · have := List.countP_pos_iff.2 ⟨b, h2, pb⟩
        rw [if_pos (e1 ▸ pa)]; omega
    · rcases List.mem_cons.1 hb with e2 | h2
      · have := List.countP_pos_iff.2 ⟨a, h1, pa⟩
        rw [if_pos (e2 ▸ pb)]; omega
      · exact Nat.le_trans (count_two h1 h2 hne pa pb) (Nat.le_add_right _ _)
def b2n (b : Bool) : Nat := if b then 1 else 0
theorem count_one {α : Type} {p : α → Bool} {a : α} {l : List α} (ha : a ∈ l) : b2n (p a) ≤ l.countP p := by
  unfold b2n
  split
  · exact List.countP_pos_iff.2 ⟨a, ha, by assumption⟩
  · omega
theorem count_pair {α : Type} {p : α → Bool} {a b : α} {l : List α} (ha : a ∈ l) (hb : b ∈ l) (hne : a ≠ b) : b2n (p a) + b2n (p b) ≤ l.countP p := by
  have h1 := count_one (p := p) ha
  have h2 := count_one (p := p) hb
  by_cases pa : p a = true
  · by_cases pb : p b = true
    · have := count_two ha hb hne pa pb
      simp only [b2n, pa, pb, if_true]; omega
    · simp only [b2n, pb, if_false, Bool.false_eq_true] at *; omega
  · simp only [b2n, pa, if_false, Bool.false_eq_true] at *; omega
theorem count_not {α : Type} (p : α → Bool) (l : List α) : l.countP p + l.countP (fun x => !p x) = l.length := by
  rw [List.length_eq_countP_add_countP p]
  congr 1
  exact List.countP_congr (fun x _ => by cases p x <;> simp)
theorem b2n_not (b : Bool) : b2n (!b) = 1 - b2n b := by cases b <;> rfl

/-- What is known of just these values. -/
structure KnOf (k : Kn) (ws : List Val) : Prop where
  many : k.many = ws.length
  all : ∀ w ∈ ws, k.least.cmp w ≤ 0 ∧ w.cmp k.most ≤ 0
  ends : ws ≠ [] → k.least ∈ ws ∧ k.most ∈ ws
def there (v : Val) : Bool := !decide (v.kind = 0)
theorem KnOf.step {kd n : Int} {k : Kn} {ws : List Val} {v : Val} (h : KnOf k ws) (hk : Good kd n k) (hv : KdOk kd v) (hn : k.many ≤ 99) : KnOf (kstep k v) (ws ++ [v].filter there) := by
  have hg := Good.of hv
  unfold kstep
  by_cases h0 : v.kind = 0
  · have e : knOf v = Kn.zero := by unfold knOf; rw [if_pos hv.1, if_pos h0]
    rw [e, knBoth_zero hk.1]
    simpa [there, h0] using h
  · have e : knOf v = ⟨1, if v.kind = 1 then v.n else 0, v, v⟩ := by unfold knOf; rw [if_pos hv.1, if_neg h0]
    have hf : [v].filter there = [v] := by simp [there, h0]
    rw [hf]
    have hm1 : (knOf v).many ≠ 0 := by rw [e]; show (1 : Int) ≠ 0; decide
    obtain ⟨fv, kv⟩ := hg.full hm1
    by_cases hm : k.many = 0
    · rw [Kn.zero_of hk.1 hm, zero_knBoth hg.1, e]
      have hw : ws = [] := List.eq_nil_of_length_eq_zero (by have := h.many; omega)
      subst hw
      refine ⟨rfl, fun w hw => ?_, fun _ => ⟨List.mem_singleton.2 rfl, List.mem_singleton.2 rfl⟩⟩
      rw [List.mem_singleton.1 hw]
      dsimp only
      rw [Val.cmp_self]; omega
    · obtain ⟨fk, kk⟩ := hk.full hm
      have hw : ws ≠ [] := fun e => by subst e; have := h.many; simp at this; exact hm this
      obtain ⟨g1, g2⟩ := h.ends hw
      have hmv : (knOf v).many = 1 := by rw [e]
      rw [knBoth_form fk fv (by omega) (by omega), e]
      refine ⟨by dsimp only; have := h.many; simp; omega, fun w hw => ?_, fun _ => ⟨?_, ?_⟩⟩ <;> dsimp only
      · rcases List.mem_append.1 hw with hw | hw
        · obtain ⟨h1, h2⟩ := h.all w hw
          exact ⟨Val.le_le (minV_l _ _) h1, Val.le_le h2 (maxV_l _ _)⟩
        · rw [List.mem_singleton.1 hw]
          exact ⟨minV_r _ _, maxV_r _ _⟩
      · rcases minV_or k.least v with e | e <;> rw [e]
        · exact List.mem_append_left _ g1
        · exact List.mem_append_right _ (List.mem_singleton.2 rfl)
      · rcases maxV_or k.most v with e | e <;> rw [e]
        · exact List.mem_append_left _ g2
        · exact List.mem_append_right _ (List.mem_singleton.2 rfl)
theorem fold_knOf {kd : Int} : ∀ {vs ws : List Val} {k : Kn} {n : Int}, (∀ v ∈ vs, KdOk kd v) → KnOf k ws → Good kd n k → 0 ≤ n → n + vs.length ≤ 100 → KnOf (vs.foldl kstep k) (ws ++ vs.filter there)
  | [], ws, k, n, _, h, _, _, _ => by simpa using h
  | v :: r, ws, k, n, hv, h, hk, hn, hs => by
    simp only [List.length_cons, Int.natCast_add, Int.natCast_one] at hs
    have h1 := hv v List.mem_cons_self
    have h2 := h.step hk h1 (by have := hk.2.1; omega)
    have := fold_knOf (fun x hx => hv x (List.mem_cons_of_mem _ hx)) h2 (hk.both (Good.of h1) hn (by decide) (by omega)) (by omega) (by omega)
    rw [List.append_assoc, ← List.filter_append] at this
    exact this
theorem kfold_knOf {kd : Int} {vs : List Val} (h : ∀ v ∈ vs, KdOk kd v) (hs : vs.length ≤ 100) : KnOf (kfold vs) (vs.filter there) := by
  have := fold_knOf (k := Kn.zero) (ws := []) h ⟨rfl, fun w hw => (by cases hw), fun h => absurd rfl h⟩ (Good.zero kd) (by decide) (by omega)
  unfold kfold
  simpa using this

def holdsV (kd : Int) (v w : Val) : Bool := decide (cmpV kd w v = 1)
theorem y1_eq (kd : Int) (a v : Val) : y1 kd a v = b2n (holdsV kd v a) := by
  unfold y1 holdsV b2n
  by_cases h : cmpV kd a v = 1 <;> simp [h]
theorem holds_of {kd : Int} {v w : Val} (h : holdsV kd v w = true) : 1 ≤ kd ∧ kd ≤ 4 ∧ w.ok = true ∧ v.ok = true ∧ w.kind ≠ 0 ∧ w.kind = v.kind ∧ cmpT kd (w.cmp v) = true := by
  unfold holdsV at h
  simp only [decide_eq_true_eq] at h
  unfold cmpV at h
  split at h
  · split at h
    · split at h
      · split at h
        · omega
        · split at h
          · omega
          · split at h
            · split at h
              · exact ⟨by omega, by omega, by assumption, by assumption, by assumption, by assumption, by assumption⟩
              · omega
            · omega
      · omega
    · omega
  · omega
theorem holds_mk {kd : Int} {v w : Val} (h1 : 1 ≤ kd ∧ kd ≤ 4) (h2 : w.ok = true) (h3 : v.ok = true) (h4 : w.kind ≠ 0) (h5 : w.kind = v.kind) (h6 : cmpT kd (w.cmp v) = true) : holdsV kd v w = true := by
  unfold holdsV
  simp only [decide_eq_true_eq]
  unfold cmpV
  rw [if_pos h1, if_pos h2, if_pos h3, if_neg h4, if_neg (by omega), if_pos h5, if_pos h6]
/-- Of values as many as are told have a true comparison. -/
theorem bounds_hold {kd0 kd : Int} {v : Val} {k : Kn} {ws : List Val} (hk : k.ok = true) (hw : KnOf k ws) (hok : ∀ w ∈ ws, w.ok = true ∧ w.kind = kd0 ∧ w.kind ≠ 0) (hl : k.many ≠ 0 → k.least.kind = kd0) :
    (mb k kd v).1 ≤ (ws.countP (holdsV kd v) : Int) ∧ (ws.countP (holdsV kd v) : Int) ≤ (mb k kd v).2 := by
  have hnot := count_not (holdsV kd v) ws
  have hmany := hw.many
  by_cases ha : asks k kd v = true
  · have hpos := asks_many ha
    have hne : ws ≠ [] := fun e => by subst e; simp at hmany; omega
    obtain ⟨hl1, hm1⟩ := hw.ends hne
    have a1 := ha
    unfold asks at a1
    have a2 : (1 ≤ kd ∧ kd ≤ 4) ∧ v.ok = true ∧ v.kind = k.least.kind := by
      by_cases c3 : 1 ≤ kd ∧ kd ≤ 4
      · by_cases c4 : v.ok = true
        · refine ⟨c3, c4, ?_⟩
          rw [if_pos c3, if_pos c4] at a1
          rw [if_pos hk, if_pos (by omega)] at a1
          simpa using a1
        · rw [if_neg c4] at a1; simp at a1
      · rw [if_neg c3] at a1; simp at a1
    obtain ⟨hkd, hvo, hvk⟩ := a2
    have hw3 : ∀ w ∈ ws, w.ok = true ∧ w.kind ≠ 0 ∧ w.kind = v.kind := fun w hx => by
      obtain ⟨h1, h2, h3⟩ := hok w hx
      have := hl (by omega)
      exact ⟨h1, h3, by omega⟩
    unfold mb
    split
    · rename_i hmay
      split
      · rename_i hmust
        have hall : ws.countP (holdsV kd v) = ws.length := by
          rw [List.countP_eq_length]
          intro w hx
          obtain ⟨h1, h2, h3⟩ := hw3 w hx
          obtain ⟨e1, e2⟩ := hw.all w hx
          refine holds_mk hkd h1 hvo h2 h3 ?_
          unfold mustI at hmust
          rw [if_pos ha] at hmust
          unfold cmpT
          by_cases k1 : kd = 1
          · rw [if_pos k1] at hmust ⊢
            split at hmust
            · rename_i c1
              simp only [decide_eq_true_eq] at hmust ⊢
              rw [Val.cmp_eq] at c1 hmust
              rw [c1] at e1
              rw [hmust] at e2
              have := Val.cmp_swap_lt w v
              omega
            · cases hmust
          · rw [if_neg k1] at hmust ⊢
            by_cases k2 : kd = 2
            · rw [if_pos k2] at hmust ⊢
              simp only [Bool.not_eq_true', decide_eq_false_iff_not]
              intro c
              rw [Val.cmp_eq] at c
              rw [c] at e1 e2
              split at hmust
              · omega
              · simp only [decide_eq_true_eq] at hmust
                have := gt_lt (lt_gt hmust)
                have := Val.cmp_swap_lt k.most v
                omega
            · rw [if_neg k2] at hmust ⊢
              by_cases k3 : kd = 3
              · rw [if_pos k3] at hmust ⊢
                simp only [decide_eq_true_eq] at hmust ⊢
                exact Val.le_lt e2 hmust
              · rw [if_neg k3] at hmust ⊢
                simp only [decide_eq_true_eq] at hmust ⊢
                exact Val.le_le e2 hmust
        dsimp only
        omega
      · have hp1 := count_one (p := holdsV kd v) hl1
        have hq1 := count_one (p := fun x => !holdsV kd v x) hl1
        rw [b2n_not] at hq1
        have hb : ∀ b : Bool, b2n b ≤ 1 := fun b => by cases b <;> decide
        have b1 := hb (holdsV kd v k.least)
        split
        · dsimp only
          rw [y1_eq]
          omega
        · rename_i hne2
          split
          · have hp2 := count_pair (p := holdsV kd v) hl1 hm1 (fun e => hne2 e.symm)
            have hq2 := count_pair (p := fun x => !holdsV kd v x) hl1 hm1 (fun e => hne2 e.symm)
            rw [b2n_not, b2n_not] at hq2
            have b2 := hb (holdsV kd v k.most)
            dsimp only
            rw [y1_eq, y1_eq]
            omega
          · dsimp only
            rw [y1_eq]
            omega
    · rename_i hmay
      have hnone : ws.countP (holdsV kd v) = 0 := by
        rw [List.countP_eq_zero]
        intro w hx hc
        obtain ⟨e1, e2⟩ := hw.all w hx
        obtain ⟨_, _, _, _, _, _, hc⟩ := holds_of hc
        apply hmay
        unfold mayI
        rw [if_pos ha]
        unfold cmpT at hc
        by_cases k1 : kd = 1
        · rw [if_pos k1] at hc ⊢
          simp only [decide_eq_true_eq] at hc
          rw [Val.cmp_eq] at hc
          subst hc
          rw [if_pos e1]
          have := Val.cmp_swap_lt k.most w
          simp only [decide_eq_true_eq]
          omega
        · rw [if_neg k1] at hc ⊢
          by_cases k2 : kd = 2
          · rw [if_pos k2] at hc ⊢
            simp only [Bool.not_eq_true', decide_eq_false_iff_not] at hc
            by_cases c1 : k.least.cmp v = 0
            · rw [if_pos c1]
              simp only [Bool.not_eq_true', decide_eq_false_iff_not]
              intro c2
              rw [Val.cmp_eq] at c1 c2
              rw [c1] at e1
              rw [c2] at e2
              have := Val.cmp_swap_lt w v
              omega
            · rw [if_neg c1]
          · rw [if_neg k2] at hc ⊢
            by_cases k3 : kd = 3
            · rw [if_pos k3] at hc ⊢
              simp only [decide_eq_true_eq] at hc ⊢
              exact Val.le_lt e1 hc
            · rw [if_neg k3] at hc ⊢
              simp only [decide_eq_true_eq] at hc ⊢
              exact Val.le_le e1 hc
      dsimp only
      omega
  · have hmb : mb k kd v = (0, 0) := by
      unfold mb
      rw [if_neg (fun h => ha (may_asks h))]
    have hnone : ws.countP (holdsV kd v) = 0 := by
      rw [List.countP_eq_zero]
      intro w hx hc
      obtain ⟨h1, h2, h3, h4, h5, h6, h7⟩ := holds_of hc
      apply ha
      have hm0 : k.many ≠ 0 := by
        intro e
        have : ws = [] := List.eq_nil_of_length_eq_zero (by omega)
        subst this
        cases hx
      have hf := (Kn.full_of hk hm0).many
      unfold asks
      rw [if_pos hk, if_pos (by omega), if_pos ⟨h1, h2⟩, if_pos h4]
      simp only [decide_eq_true_eq]
      rw [hl hm0, ← (hok w hx).2.1, h6]
    rw [hmb, hnone]
    exact ⟨Int.le_refl _, Int.le_refl _⟩
theorem count_there (kd : Int) (v : Val) (vs : List Val) : (vs.filter there).countP (holdsV kd v) = vs.countP (holdsV kd v) := by
  rw [List.countP_filter]
  refine List.countP_congr (fun w _ => ?_)
  cases h : holdsV kd v w
  · simp
  · have := (holds_of h).2.2.2.2.1
    simp [there, this]
def cstep (kd : Int) (v : Val) (i : Int) (n : Int) (r : Row) : Int := if cmpV kd (colAt i r) v = 1 then n + 1 else n
theorem fold_count (kd : Int) (v : Val) (i : Int) : ∀ (rs : List Row) (n : Int), rs.foldl (cstep kd v i) n = n + ((colVs i rs).countP (holdsV kd v) : Int)
  | [], n => by simp [colVs]
  | r :: rs, n => by
    rw [List.foldl_cons, fold_count kd v i rs]
    simp only [colVs, List.map_cons, List.countP_cons]
    unfold cstep holdsV
    by_cases h : cmpV kd (colAt i r) v = 1
    · simp [h]; omega
    · simp [h]
theorem skipped {cs : List Col} {rs : List Row} {i kd : Int} {v : Val} (h : rowsOk cs rs = true) (hl : rs.length ≤ 100) (h0 : 0 ≤ i) (hi : i < cs.length) :
    (mb (knCol cs rs i) kd v).1 ≤ rs.foldl (cstep kd v i) 0 ∧ rs.foldl (cstep kd v i) 0 ≤ (mb (knCol cs rs i) kd v).2 := by
  have hk := colVs_kd h h0 hi
  have hlen : (colVs i rs).length ≤ 100 := by simpa [colVs] using hl
  have hg := kfold_good hk hlen
  rw [knCol_eq h hl h0 hi, fold_count, Int.zero_add, ← count_there]
  refine bounds_hold (kd0 := (cs.getD i.toNat ⟨0, false⟩).kind) hg.1 (kfold_knOf hk hlen) (fun w hw => ?_) (fun hm => (hg.full hm).2)
  obtain ⟨h1, h2⟩ := List.mem_filter.1 hw
  obtain ⟨h3, h4⟩ := hk w h1
  have h5 : w.kind ≠ 0 := by simpa [there] using h2
  exact ⟨h3, h4.resolve_right h5, h5⟩
end Go.Proofs.Ytnnjpiepoeknnaa.PE
