/- What is known of parts and of all: the plain law. -/
import Derived.Test.YtnnjpiepoeknnaaPvc
import Derived.Test.YtnnjpiepoeknnaaPv6
set_option linter.unusedSimpArgs false
set_option linter.unusedVariables false
set_option maxHeartbeats 4000000
namespace Go.Proofs.Ytnnjpiepoeknnaa.PE
open Go.RowKit

def minV (a b : Val) : Val := if b.cmp a < 0 then b else a
def maxV (a b : Val) : Val := if 0 < b.cmp a then b else a
theorem Val.cmp_self (a : Val) : a.cmp a = 0 := (Val.cmp_eq a a).2 rfl
theorem not_lt_le {v w : Val} (h : ¬ v.cmp w < 0) : w.cmp v ≤ 0 := by
  have := Val.cmp_swap_lt v w
  omega
theorem not_gt_le {v w : Val} (h : ¬ 0 < v.cmp w) : v.cmp w ≤ 0 := by omega
theorem gt_lt {v w : Val} (h : 0 < v.cmp w) : w.cmp v < 0 := (Val.cmp_swap_lt w v).2 h
theorem lt_gt {v w : Val} (h : v.cmp w < 0) : 0 < w.cmp v := (Val.cmp_swap_lt v w).1 h
theorem Val.lt_trans' {a b c : Val} (h : a.cmp b < 0) (h' : b.cmp c < 0) : a.cmp c < 0 := Val.le_lt (by omega) h'
theorem minV_or (a b : Val) : minV a b = a ∨ minV a b = b := by
  unfold minV
  split
  · exact .inr rfl
  · exact .inl rfl
theorem maxV_or (a b : Val) : maxV a b = a ∨ maxV a b = b := by
  unfold maxV
  split
  · exact .inr rfl
  · exact .inl rfl
theorem minV_l (a b : Val) : (minV a b).cmp a ≤ 0 := by
  unfold minV
  split
  · omega
  · rw [Val.cmp_self]; omega
theorem minV_r (a b : Val) : (minV a b).cmp b ≤ 0 := by
  unfold minV
  split
  · rw [Val.cmp_self]; omega
  · rename_i h
    exact not_lt_le h
theorem maxV_l (a b : Val) : a.cmp (maxV a b) ≤ 0 := by
  unfold maxV
  split
  · rename_i h
    have := gt_lt h
    omega
  · rw [Val.cmp_self]; omega
theorem maxV_r (a b : Val) : b.cmp (maxV a b) ≤ 0 := by
  unfold maxV
  split
  · rw [Val.cmp_self]; omega
  · omega
theorem minV_assoc (a b c : Val) : minV (minV a b) c = minV a (minV b c) := by
  unfold minV
  by_cases h1 : b.cmp a < 0 <;> by_cases h2 : c.cmp b < 0 <;> by_cases h3 : c.cmp a < 0 <;> simp only [h1, h2, h3, if_true, if_false]
  · exact absurd (Val.lt_trans' h2 h1) h3
  · exact absurd (Val.le_lt (not_lt_le h2) h3) h1
theorem maxV_assoc (a b c : Val) : maxV (maxV a b) c = maxV a (maxV b c) := by
  unfold maxV
  by_cases h1 : 0 < b.cmp a <;> by_cases h2 : 0 < c.cmp b <;> by_cases h3 : 0 < c.cmp a <;> simp only [h1, h2, h3, if_true, if_false]
  · exact absurd (lt_gt (Val.lt_trans' (gt_lt h1) (gt_lt h2))) h3
  · have := Val.le_le (not_gt_le h2) (not_gt_le h1)
    omega

/-- What is known of some values, at most so many, of a kind. -/
def Good (kd n : Int) (k : Kn) : Prop := k.ok = true ∧ k.many ≤ n ∧ (k.many = 0 ∨ k.least.kind = kd)
theorem Kn.zero_of {k : Kn} (h : k.ok = true) (hm : k.many = 0) : k = Kn.zero := by
  unfold Kn.ok at h
  rw [if_pos hm] at h
  simpa using h
structure Kn.Full (k : Kn) : Prop where
  many : 1 ≤ k.many ∧ k.many ≤ 100
  sum : -9999 * k.many ≤ k.sum ∧ k.sum ≤ 9999 * k.many
  least : k.least.ok = true
  most : k.most.ok = true
  kind : k.least.kind = k.most.kind
  some : k.least.kind ≠ 0
  ord : k.least.cmp k.most ≤ 0
  num : k.least.kind = 1 ∨ k.sum = 0
theorem Kn.full_of {k : Kn} (h : k.ok = true) (hm : k.many ≠ 0) : k.Full := by
  unfold Kn.ok at h
  rw [if_neg hm] at h
  simp only [Bool.and_eq_true, Bool.or_eq_true, decide_eq_true_eq, Bool.not_eq_true', decide_eq_false_iff_not] at h
  exact ⟨⟨h.1.1.1.1.1.1.1.1, h.1.1.1.1.1.1.1.2⟩, h.1.1.1.1.1.1.2, h.1.1.1.1.1.2, h.1.1.1.1.2, h.1.1.1.2, h.1.1.2, h.1.2, h.2⟩
theorem Kn.Full.ok {k : Kn} (h : k.Full) : k.ok = true := by
  have hm : k.many ≠ 0 := by have := h.many; omega
  unfold Kn.ok
  rw [if_neg hm]
  simp only [Bool.and_eq_true, Bool.or_eq_true, decide_eq_true_eq, Bool.not_eq_true', decide_eq_false_iff_not]
  exact ⟨⟨⟨⟨⟨⟨⟨h.many, h.sum⟩, h.least⟩, h.most⟩, h.kind⟩, h.some⟩, h.ord⟩, h.num⟩
theorem Kn.zero_ok : Kn.zero.ok = true := rfl
theorem Good.zero (kd : Int) : Good kd 0 Kn.zero := ⟨rfl, by decide, .inl rfl⟩
theorem knBoth_zero {a : Kn} (h : a.ok = true) : knBoth a Kn.zero = a := by
  unfold knBoth
  rw [if_pos h, if_pos Kn.zero_ok]
  split
  · rename_i hm
    rw [Kn.zero_of h hm]
  · rfl
theorem zero_knBoth {a : Kn} (h : a.ok = true) : knBoth Kn.zero a = a := by
  unfold knBoth
  rw [if_pos Kn.zero_ok, if_pos h, if_pos (show Kn.zero.many = 0 from rfl)]
theorem knBoth_form {a b : Kn} (ha : a.Full) (hb : b.Full) (hk : a.least.kind = b.least.kind) (hn : a.many + b.many ≤ 100) : knBoth a b = ⟨a.many + b.many, a.sum + b.sum, minV a.least b.least, maxV a.most b.most⟩ := by
  have h1 := ha.many
  have h2 := hb.many
  unfold knBoth
  rw [if_pos ha.ok, if_pos hb.ok, if_neg (by omega), if_neg (by omega), if_pos hk, if_neg (by omega), ord_ok hb.least ha.least, ord_ok hb.most ha.most]
  rfl
theorem full_both {a b : Kn} (ha : a.Full) (hb : b.Full) (hk : a.least.kind = b.least.kind) (hn : a.many + b.many ≤ 100) : Kn.Full ⟨a.many + b.many, a.sum + b.sum, minV a.least b.least, maxV a.most b.most⟩ := by
  have h1 := ha.many
  have h2 := hb.many
  have h3 := ha.sum
  have h4 := hb.sum
  have k1 := ha.kind
  have k2 := hb.kind
  have kl : (minV a.least b.least).kind = a.least.kind := by rcases minV_or a.least b.least with e | e <;> rw [e]; exact hk.symm
  have km : (maxV a.most b.most).kind = a.least.kind := by rcases maxV_or a.most b.most with e | e <;> rw [e] <;> omega
  refine ⟨⟨?_, hn⟩, ⟨?_, ?_⟩, ?_, ?_, ?_, ?_, ?_, ?_⟩ <;> dsimp only
  · omega
  · omega
  · omega
  · rcases minV_or a.least b.least with e | e <;> rw [e]
    · exact ha.least
    · exact hb.least
  · rcases maxV_or a.most b.most with e | e <;> rw [e]
    · exact ha.most
    · exact hb.most
  · rw [kl, km]
  · rw [kl]; exact ha.some
  · exact Val.le_le (minV_l _ _) (Val.le_le ha.ord (maxV_l _ _))
  · rw [kl]
    rcases ha.num with e | e
    · exact .inl e
    · rcases hb.num with e' | e'
      · exact .inl (by omega)
      · exact .inr (by omega)
theorem Good.full {kd n : Int} {k : Kn} (h : Good kd n k) (hm : k.many ≠ 0) : k.Full ∧ k.least.kind = kd := ⟨Kn.full_of h.1 hm, h.2.2.resolve_left hm⟩
theorem Good.both {kd n m : Int} {a b : Kn} (ha : Good kd n a) (hb : Good kd m b) (hn : 0 ≤ n) (hm : 0 ≤ m) (hs : n + m ≤ 100) : Good kd (n + m) (knBoth a b) := by
  by_cases h1 : a.many = 0
  · rw [Kn.zero_of ha.1 h1, zero_knBoth hb.1]
    exact ⟨hb.1, by have := hb.2.1; omega, hb.2.2⟩
  · by_cases h2 : b.many = 0
    · rw [Kn.zero_of hb.1 h2, knBoth_zero ha.1]
      exact ⟨ha.1, by have := ha.2.1; omega, ha.2.2⟩
    · obtain ⟨fa, ka⟩ := ha.full h1
      obtain ⟨fb, kb⟩ := hb.full h2
      have i1 := ha.2.1
      have i2 := hb.2.1
      rw [knBoth_form fa fb (by omega) (by omega)]
      refine ⟨(full_both fa fb (by omega) (by omega)).ok, by dsimp only; omega, .inr ?_⟩
      dsimp only
      rcases minV_or a.least b.least with e | e <;> rw [e] <;> assumption
theorem both_assoc {kd n m q : Int} {a b c : Kn} (ha : Good kd n a) (hb : Good kd m b) (hc : Good kd q c) (hn : 0 ≤ n) (hm : 0 ≤ m) (hq : 0 ≤ q) (hs : n + m + q ≤ 100) : knBoth (knBoth a b) c = knBoth a (knBoth b c) := by
  by_cases h1 : a.many = 0
  · rw [Kn.zero_of ha.1 h1, zero_knBoth hb.1, zero_knBoth (hb.both hc hm hq (by omega)).1]
  · by_cases h2 : b.many = 0
    · rw [Kn.zero_of hb.1 h2, knBoth_zero ha.1, zero_knBoth hc.1]
    · by_cases h3 : c.many = 0
      · rw [Kn.zero_of hc.1 h3, knBoth_zero hb.1, knBoth_zero (ha.both hb hn hm (by omega)).1]
      · obtain ⟨fa, ka⟩ := ha.full h1
        obtain ⟨fb, kb⟩ := hb.full h2
        obtain ⟨fc, kc⟩ := hc.full h3
        have i1 := ha.2.1
        have i2 := hb.2.1
        have i3 := hc.2.1
        have m1 : (minV a.least b.least).kind = kd := by rcases minV_or a.least b.least with e | e <;> rw [e] <;> assumption
        have m2 : (minV b.least c.least).kind = kd := by rcases minV_or b.least c.least with e | e <;> rw [e] <;> assumption
        rw [knBoth_form fa fb (by omega) (by omega), knBoth_form fb fc (by omega) (by omega), knBoth_form (full_both fa fb (by omega) (by omega)) fc (by dsimp only; omega) (by dsimp only; omega),
          knBoth_form fa (full_both fb fc (by omega) (by omega)) (by dsimp only; omega) (by dsimp only; omega)]
        dsimp only
        rw [minV_assoc, maxV_assoc, Int.add_assoc, Int.add_assoc]
def KdOk (kd : Int) (v : Val) : Prop := v.ok = true ∧ (v.kind = kd ∨ v.kind = 0)
theorem Good.of {kd : Int} {v : Val} (h : KdOk kd v) : Good kd 1 (knOf v) := by
  obtain ⟨h1, h2⟩ := h
  unfold knOf
  rw [if_pos h1]
  split
  · exact ⟨rfl, by decide, .inl rfl⟩
  · rename_i h3
    have hk : v.kind = kd := h2.resolve_right h3
    refine ⟨Kn.Full.ok ⟨⟨show (1 : Int) ≤ 1 by omega, show (1 : Int) ≤ 100 by omega⟩, ?_, h1, h1, rfl, h3, by dsimp only; rw [Val.cmp_self]; omega, ?_⟩, show (1 : Int) ≤ 1 by omega, .inr hk⟩ <;> dsimp only
    · split
      · rename_i h4
        have h5 := h1
        unfold Val.ok at h5
        rw [if_neg h3, if_pos h4] at h5
        simp only [Bool.and_eq_true, decide_eq_true_eq] at h5
        omega
      · omega
    · by_cases h4 : v.kind = 1
      · exact .inl h4
      · rw [if_neg h4]; exact .inr rfl
def kstep (k : Kn) (v : Val) : Kn := knBoth k (knOf v)
def kfold (vs : List Val) : Kn := vs.foldl kstep Kn.zero
theorem fold_good {kd : Int} : ∀ {vs : List Val} {k : Kn} {n : Int}, (∀ v ∈ vs, KdOk kd v) → Good kd n k → 0 ≤ n → n + vs.length ≤ 100 → Good kd (n + vs.length) (vs.foldl kstep k)
  | [], k, n, _, hk, _, _ => by simpa using hk
  | v :: r, k, n, hv, hk, hn, hs => by
    simp only [List.length_cons, Int.natCast_add, Int.natCast_one] at hs ⊢
    have := fold_good (vs := r) (fun x hx => hv x (List.mem_cons_of_mem _ hx)) (hk.both (Good.of (hv v List.mem_cons_self)) hn (by decide) (by omega)) (by omega) (by omega)
    rw [show n + (r.length + 1 : Int) = n + 1 + r.length by omega]
    exact this
theorem fold_both {kd : Int} : ∀ {vs : List Val} {a b : Kn} {n m : Int}, (∀ v ∈ vs, KdOk kd v) → Good kd n a → Good kd m b → 0 ≤ n → 0 ≤ m → n + m + vs.length ≤ 100 → vs.foldl kstep (knBoth a b) = knBoth a (vs.foldl kstep b)
  | [], a, b, n, m, _, _, _, _, _, _ => rfl
  | v :: r, a, b, n, m, hv, ha, hb, hn, hm, hs => by
    simp only [List.length_cons, Int.natCast_add, Int.natCast_one] at hs
    have hg := Good.of (hv v List.mem_cons_self)
    simp only [List.foldl_cons]
    rw [show kstep (knBoth a b) v = knBoth a (kstep b v) from both_assoc ha hb hg hn hm (by decide) (by omega)]
    exact fold_both (fun x hx => hv x (List.mem_cons_of_mem _ hx)) ha (hb.both hg hm (by decide) (by omega)) hn (by omega) (by omega)
theorem kfold_good {kd : Int} {vs : List Val} (h : ∀ v ∈ vs, KdOk kd v) (hs : vs.length ≤ 100) : Good kd vs.length (kfold vs) := by
  have := fold_good h (Good.zero kd) (by decide) (by omega)
  simpa [kfold] using this
theorem kfold_append {kd : Int} {xs ys : List Val} (hx : ∀ v ∈ xs, KdOk kd v) (hy : ∀ v ∈ ys, KdOk kd v) (hs : xs.length + ys.length ≤ 100) : kfold (xs ++ ys) = knBoth (kfold xs) (kfold ys) := by
  have hg := kfold_good hx (by omega)
  unfold kfold
  rw [List.foldl_append]
  have := fold_both hy hg (Good.zero kd) (by omega) (by decide) (by omega)
  rw [knBoth_zero hg.1] at this
  exact this

/-- The values of a column. -/
def colVs (i : Int) (rs : List Row) : List Val := rs.map (colAt i)
theorem col_fold (i : Int) (rs : List Row) : rs.foldl (fun k r => knBoth k (knOf (colAt i r))) Kn.zero = kfold (colVs i rs) := by
  unfold kfold colVs
  rw [List.foldl_map]
  rfl
theorem fits_kd {cs : List Col} {vs : List Val} (h : fitsRow cs vs = true) {i : Nat} (hi : i < cs.length) : KdOk (cs.getD i ⟨0, false⟩).kind (vs.getD i Val.zero) := by
  simp only [fitsRow, Bool.and_eq_true, rowOk, List.all_eq_true, decide_eq_true_eq] at h
  obtain ⟨⟨⟨_, h2, _⟩, hl⟩, h3⟩ := h
  have a1 := at_getD (⟨0, false⟩ : Col) hi
  have a2 := at_getD Val.zero (show i < vs.length by omega)
  refine ⟨h2 _ (List.mem_of_getElem? a2), ?_⟩
  have := h3 (cs.getD i ⟨0, false⟩, vs.getD i Val.zero) (List.mem_of_getElem? (List.getElem?_zip_eq_some.2 ⟨a1, a2⟩))
  simp only [fits1, Bool.or_eq_true, Bool.and_eq_true, decide_eq_true_eq] at this
  exact this.imp id (·.1)
theorem colVs_kd {cs : List Col} {rs : List Row} {i : Int} (h : rowsOk cs rs = true) (h0 : 0 ≤ i) (hi : i < cs.length) : ∀ v ∈ colVs i rs, KdOk (cs.getD i.toNat ⟨0, false⟩).kind v := by
  intro v hv
  obtain ⟨r, hr, rfl⟩ := List.mem_map.1 hv
  simp only [rowsOk, rowsFit, Bool.and_eq_true, List.all_eq_true] at h
  exact fits_kd (h.1 r hr) (by omega)
theorem knCol_eq {cs : List Col} {rs : List Row} {i : Int} (h : rowsOk cs rs = true) (hl : rs.length ≤ 100) (h0 : 0 ≤ i) (hi : i < cs.length) : knCol cs rs i = kfold (colVs i rs) := by
  unfold knCol
  rw [if_pos h, if_neg (by omega), if_pos (by omega), col_fold]
theorem knCol_ok (cs : List Col) (rs : List Row) (i : Int) : (knCol cs rs i).ok = true := by
  unfold knCol
  split
  · rename_i h
    split
    · rfl
    · split
      · rename_i h1 h2
        rw [col_fold]
        exact (kfold_good (colVs_kd h (by omega) (by omega)) (by simp [colVs]; omega)).1
      · rfl
  · rfl
/-- Of parts as much is known as of all. -/
theorem knCol_both {cs : List Col} {rs : List Row} {i : Int} (n : Nat) (h : rowsOk cs rs = true) (hl : rs.length ≤ 100) : knCol cs rs i = knBoth (knCol cs (rs.take n) i) (knCol cs (rs.drop n) i) := by
  have h1 : rowsOk cs (rs.take n) = true ∧ rowsOk cs (rs.drop n) = true := by
    simp only [rowsOk, rowsFit, Bool.and_eq_true, List.all_eq_true] at h ⊢
    exact ⟨⟨fun r hr => h.1 r (List.mem_of_mem_take hr), h.2⟩, ⟨fun r hr => h.1 r (List.mem_of_mem_drop hr), h.2⟩⟩
  by_cases hi : 0 ≤ i ∧ i ≤ (cs.length : Int) - 1
  · have l1 : (rs.take n).length ≤ 100 := by rw [List.length_take]; omega
    have l2 : (rs.drop n).length ≤ 100 := by rw [List.length_drop]; omega
    rw [knCol_eq h hl hi.1 (by omega), knCol_eq h1.1 l1 hi.1 (by omega), knCol_eq h1.2 l2 hi.1 (by omega)]
    have hk := colVs_kd h hi.1 (by omega)
    have e : colVs i rs = colVs i (rs.take n) ++ colVs i (rs.drop n) := by unfold colVs; rw [← List.map_append, List.take_append_drop]
    rw [e]
    refine kfold_append (colVs_kd h1.1 hi.1 (by omega)) (colVs_kd h1.2 hi.1 (by omega)) ?_
    simp only [colVs, List.length_map, List.length_take, List.length_drop]
    omega
  · have e : ∀ rs', knCol cs rs' i = Kn.zero := by
      intro rs'
      unfold knCol
      split
      · split
        · rfl
        · first | rfl | rw [if_neg hi]
      · rfl
    rw [e, e, e]
    rfl
end Go.Proofs.Ytnnjpiepoeknnaa.PE
