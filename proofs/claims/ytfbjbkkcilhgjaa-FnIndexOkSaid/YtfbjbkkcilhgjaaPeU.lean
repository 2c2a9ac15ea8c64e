/- Which operation stands for which, asked by a function; and that what it lets by is right. -/
import Derived.Test.YtfbjbkkcilhgjaaPeN1
namespace Go.Proofs.Ytfbjbkkcilhgjaa.PE
open Go.RowKit

def nilC : Value → Bool
  | .slice none 0 0 => true
  | _ => false
def pureK : V → Bool
  | .int _ _ => true
  | .bool _ => true
  | .str _ => true
  | .sl _ _ _ => true
  | _ => false

def chkBuiltin (P : Program) (op : Op) (b : Builtin) (args : List Operand) (ts : List TypeId) : Bool := match op, b, args, ts with
  | .len str y, .len, [x], [t] => chkX x y && (if str then isStr P t else (sliceT P t).isSome)
  | .cap y, .cap, [x], [t] => chkX x y && (sliceT P t).isSome
  | .clr sz z x', .clear, [x], [t] => chkX x x' && z.all pureK && (match sliceT P t with
    | some e => decide (szT P e = some sz) && decide (0 < sz) && zeroIs P e z
    | none => false)
  | .app sz x' y', .append, [x, y], [t0, t1] => chkX x x' && chkX y y' && appT P t1 && (match sliceT P t0 with
    | some e => decide (szT P e = some sz) && decide (zszT P e = some sz) && smallT P e
    | none => false)
  | .appn sz x' y', .append, [x, y], [t0, t1] => chkX x x' && chkX y y' && appT P t1 && (match sliceT P t0 with
    | some e => decide (szT P e = some sz) && decide (zszT P e = some sz) && smallT P e
    | none => false)
  | .apps x' y', .append, [x, y], [t0, t1] => chkX x x' && chkX y y' && appT P t1 && (match sliceT P t0 with
    | some e => decide (szT P e = some 1) && decide (zszT P e = some 1) && smallT P e
    | none => false)
  | .mm true y ys, .max, x :: xs, _ => chkX x y && chkXs xs ys
  | .mm false y ys, .min, x :: xs, _ => chkX x y && chkXs xs ys
  | _, _, _, _ => false

def chkOp (P : Program) : Op → Go.Op → Bool
  | .mov y, .move x => chkX x y
  | .mov y, .assign x => chkX x y
  | .nilrow sz, .move (.const c) => nilC c && decide (0 < sz)
  | .nilrow sz, .assign (.const c) => nilC c && decide (0 < sz)
  | .pick c a b, .pick c' a' b' => chkX c' c && chkX a' a && chkX b' b
  | .nilnest sz, .move (.const c) => nilC c && decide (0 < sz)
  | .nilnest sz, .assign (.const c) => nilC c && decide (0 < sz)
  | .mkns sz qs, .buildSlice t len ps => (match sliceT P t with
    | some e => decide (szT P e = some sz) && decide (0 < sz) && (zeroT P e).isSome && decide (len = qs.length) && decide (len * sz ≤ 2 ^ 24) && chkElems 0 ps.toList qs
    | none => false)
  | .mkn sz z n, .makeSlice t l c => chkX l n && chkX c n && z.all okN && (match sliceT P t with
    | some e => decide (szT P e = some sz) && decide (0 < sz) && zeroIs P e z && smallT P e
    | none => false)
  | .alloc z, .alloc t => zeroIs P t z
  | .box y, .box _ x => chkX x y
  | .build z qs, .build t ps => zeroIs P t z && (match placesT P t with
    | some pl => chkParts pl ps.toList qs
    | none => false)
  | .mksl _ sz qs, .buildSlice t len ps => (match sliceT P t with
    | some e => decide (szT P e = some sz) && decide (0 < sz) && (zeroT P e).isSome && decide (len = qs.length) && decide (len * sz ≤ 2 ^ 24) && chkElems 0 ps.toList qs
    | none => false)
  | .load agg sz y, .load t x => chkX x y && decide (aggT P t = some agg) && decide (szT P t = some sz)
  | .store sz p y, .store t a x => chkX a p && chkX x y && decide (szT P t = some sz)
  | .nilchk y, .nilCheck x => chkX x y
  | .bin op x y, .binOp op' _ x' y' _ => decide (op = op') && chkX x' x && chkX y' y
  | .eqs neg ks x y, .binOp op t x' y' _ => decide (op = if neg then .neq else .eql) && chkX x' x && chkX y' y && eqsT P t ks
  | .eqb neg x y, .binOp op t x' y' _ => decide (op = if neg then .neq else .eql) && chkX x' x && chkX y' y && boolT P t
  | .un op x, .unOp op' _ x' => decide (op = op') && chkX x' x
  | .conv c y, .convert s d x => chkX x y && convT P s d c
  | .mkclo f caps, .makeFunc (.func f') first cs => decide (f = f') && decide (first.size = 0) && chkXs cs.toList caps
  | .mk sz z n, .makeSlice t l c => chkX l n && chkX c n && z.all pureK && (match sliceT P t with
    | some e => decide (szT P e = some sz) && decide (0 < sz) && zeroIs P e z && smallT P e
    | none => false)
  | .slc str sz x lo hi mx, .slice t x' lo' hi' mx' => chkX x' x && chkO lo' lo && chkO hi' hi && chkO mx' mx && (if str then isStr P t else (match sliceT P t with
    | some e => decide (szT P e = some sz)
    | none => false))
  | .faddr off sz y, .fieldAddr t x f => chkX x y && (match fieldT P t f with
    | some fl => decide (fl.offset = off) && decide (szT P fl.type = some sz) && decide (0 < sz)
    | none => false)
  | .fld agg off sz y, .field t x f => chkX x y && (match fieldT P t f with
    | some fl => decide (fl.offset = off) && decide (aggT P fl.type = some agg) && decide (szT P fl.type = some sz)
    | none => false)
  | .iaddr sz x i, .indexAddr t x' i' => chkX x' x && chkX i' i && (match sliceT P t with
    | some e => decide (szT P e = some sz)
    | none => false)
  | .idx x i, .index t x' i' => chkX x' x && chkX i' i && isStr P t
  | .ext x i, .extract x' i' => chkX x' x && decide (i = i')
  | .bad, _ => true
  | op, .call { callee := .builtin b, args, argTypes } => chkBuiltin P op b args.toList argTypes.toList
  | _, _ => false

section
variable {P : Program} {o : Oper} {a : Act} {K : Ct} {γ γ' : Gh} {w : World} {h : Heap} {N : Nat} {e : Env}

theorem of_nilC {c : Value} (hc : nilC c = true) : c = .slice none 0 0 := by
  unfold nilC at hc
  split at hc
  · rfl
  · cases hc
theorem arr1 {α : Type} {xs : Array α} {x : α} (hx : xs.toList = [x]) : xs = #[x] := by apply Array.ext'; simpa using hx
theorem arr2 {α : Type} {xs : Array α} {x y : α} (hx : xs.toList = [x, y]) : xs = #[x, y] := by apply Array.ext'; simpa using hx

theorem ok_builtin (s : St K γ w h) (he : EnvOK K γ w h N a e) {i : Op} {b : Builtin} {args : Array Operand} {ts : Array TypeId} (hc : chkBuiltin P i b args.toList ts.toList = true) {v : V} {h' : Heap} (hev : evOp e h i = some (v, h')) :
    Ok1 P (.call { callee := .builtin b, args := args, argTypes := ts }) o a K γ w h v h' := by
  unfold chkBuiltin at hc
  split at hc
  · rename_i str y x t e1 e2
    rw [arr1 e1, arr1 e2]
    simp only [Bool.and_eq_true] at hc
    refine ok_len s he hc.1 ?_ hev
    cases str with
    | true => simpa using hc.2
    | false => simpa [Option.isSome_iff_exists] using hc.2
  · rename_i y x t e1 e2
    rw [arr1 e1, arr1 e2]
    simp only [Bool.and_eq_true] at hc
    obtain ⟨e', he'⟩ := Option.isSome_iff_exists.1 hc.2
    exact ok_cap s he hc.1 he' hev
  · rename_i sz z x' x t e1 e2
    rw [arr1 e1, arr1 e2]
    simp only [Bool.and_eq_true] at hc
    obtain ⟨⟨h1, h2⟩, h4⟩ := hc
    split at h4
    · rename_i e' he'
      simp only [Bool.and_eq_true, decide_eq_true_eq] at h4
      refine ok_clr s he h1 he' h4.1.1 h4.1.2 h4.2 (fun u hu => ?_) hev
      have := List.all_eq_true.1 h2 u hu
      cases u <;> first | exact ⟨_, rfl, rfl⟩ | simp [pureK] at this
    · cases h4
  · rename_i sz x' y' x y t0 t1 e1 e2
    rw [arr2 e1, arr2 e2]
    simp only [Bool.and_eq_true] at hc
    obtain ⟨⟨⟨h1, h2⟩, h3⟩, h4⟩ := hc
    split at h4
    · rename_i e' he'
      simp only [Bool.and_eq_true, decide_eq_true_eq] at h4
      exact ok_app s he h1 h2 he' h3 h4.1.1 h4.1.2 h4.2 hev
    · cases h4
  · rename_i sz x' y' x y t0 t1 e1 e2
    rw [arr2 e1, arr2 e2]
    simp only [Bool.and_eq_true] at hc
    obtain ⟨⟨⟨h1, h2⟩, h3⟩, h4⟩ := hc
    split at h4
    · rename_i e' he'
      simp only [Bool.and_eq_true, decide_eq_true_eq] at h4
      exact ok_appn s he h1 h2 he' h3 h4.1.1 h4.1.2 h4.2 hev
    · cases h4
  · rename_i x' y' x y t0 t1 e1 e2
    rw [arr2 e1, arr2 e2]
    simp only [Bool.and_eq_true] at hc
    obtain ⟨⟨⟨h1, h2⟩, h3⟩, h4⟩ := hc
    split at h4
    · rename_i e' he'
      simp only [Bool.and_eq_true, decide_eq_true_eq] at h4
      exact ok_apps s he h1 h2 he' h3 h4.1.1 h4.1.2 h4.2 hev
    · cases h4
  · rename_i y ys x xs _ e1
    simp only [Bool.and_eq_true] at hc
    exact ok_mm (max := true) s he e1 hc.1 hc.2 hev
  · rename_i y ys x xs _ e1
    simp only [Bool.and_eq_true] at hc
    exact ok_mm (max := false) s he e1 hc.1 hc.2 hev
  · cases hc

theorem ok_op (s : St K γ w h) (he : EnvOK K γ w h N a e) {i : Op} {op : Go.Op} (hc : chkOp P i op = true) {v : V} {h' : Heap} (hev : evOp e h i = some (v, h')) : Ok1 P op o a K γ w h v h' := by
  unfold chkOp at hc
  split at hc
  · injection hev with hev; injection hev with e1 e2; subst e1 e2; exact ok_move s he hc
  · injection hev with hev; injection hev with e1 e2; subst e1 e2; exact ok_assign s he hc
  · simp only [Bool.and_eq_true, decide_eq_true_eq] at hc
    rw [of_nilC hc.1]
    injection hev with hev; injection hev with e1 e2; subst e1 e2
    exact ok_nilrow s hc.2 (.inl rfl)
  · simp only [Bool.and_eq_true, decide_eq_true_eq] at hc
    rw [of_nilC hc.1]
    injection hev with hev; injection hev with e1 e2; subst e1 e2
    exact ok_nilrow s hc.2 (.inr rfl)
  · simp only [Bool.and_eq_true] at hc
    simp only [evOp] at hev
    split at hev
    · rename_i t ht
      injection hev with hev; injection hev with e1 e2; subst e1 e2
      exact ok_pick s he hc.1.1 hc.1.2 hc.2 ht
    · cases hev
  · simp only [Bool.and_eq_true, decide_eq_true_eq] at hc
    rw [of_nilC hc.1]
    injection hev with hev; injection hev with e1 e2; subst e1 e2
    exact ok_nilnest s hc.2 (.inl rfl)
  · simp only [Bool.and_eq_true, decide_eq_true_eq] at hc
    rw [of_nilC hc.1]
    injection hev with hev; injection hev with e1 e2; subst e1 e2
    exact ok_nilnest s hc.2 (.inr rfl)
  · split at hc
    · rename_i e' he'
      simp only [Bool.and_eq_true, decide_eq_true_eq] at hc
      obtain ⟨⟨⟨⟨⟨h1, h2⟩, h3⟩, h4⟩, h5⟩, h6⟩ := hc
      exact ok_mkns s he he' h1 h2 h3 h4 h5 h6 hev
    · cases hc
  · simp only [Bool.and_eq_true] at hc
    obtain ⟨⟨⟨h1, h2⟩, h3⟩, h4⟩ := hc
    split at h4
    · rename_i e' he'
      simp only [Bool.and_eq_true, decide_eq_true_eq] at h4
      obtain ⟨⟨⟨h5, h6⟩, h7⟩, h8⟩ := h4
      exact ok_mkn s he h1 h2 he' h5 h6 h7 h8 (fun u hu => List.all_eq_true.1 h3 u hu) hev
    · cases h4
  · injection hev with hev; injection hev with e1 e2; subst e1 e2; exact ok_alloc s hc
  · simp only [evOp] at hev
    split at hev
    · rename_i cs hcs
      injection hev with hev; injection hev with e1 e2; subst e1 e2
      exact ok_box s he hc hcs
    · cases hev
  · simp only [Bool.and_eq_true] at hc
    obtain ⟨h1, h2⟩ := hc
    split at h2
    · rename_i pl hpl; exact ok_build s he h1 hpl h2 hev
    · cases h2
  · split at hc
    · rename_i e' he'
      simp only [Bool.and_eq_true, decide_eq_true_eq] at hc
      obtain ⟨⟨⟨⟨⟨h1, h2⟩, h3⟩, h4⟩, h5⟩, h6⟩ := hc
      exact ok_mksl s he he' h1 h2 h3 h4 h5 h6 hev
    · cases hc
  · simp only [Bool.and_eq_true, decide_eq_true_eq] at hc
    exact ok_load s he hc.1.1 hc.1.2 hc.2 hev
  · simp only [Bool.and_eq_true, decide_eq_true_eq] at hc
    exact ok_store s he hc.1.1 hc.1.2 hc.2 hev
  · exact ok_nilchk s he hc hev
  · simp only [Bool.and_eq_true, decide_eq_true_eq] at hc
    obtain ⟨⟨rfl, h1⟩, h2⟩ := hc
    exact ok_bin s he h1 h2 hev
  · simp only [Bool.and_eq_true, decide_eq_true_eq] at hc
    obtain ⟨⟨⟨rfl, h1⟩, h2⟩, h3⟩ := hc
    exact ok_eqs s he h1 h2 h3 hev
  · simp only [Bool.and_eq_true, decide_eq_true_eq] at hc
    obtain ⟨⟨⟨rfl, h1⟩, h2⟩, h3⟩ := hc
    refine ok_eqb s he h1 h2 ?_ hev
    unfold boolT at h3
    split at h3
    · assumption
    · cases h3
  · simp only [Bool.and_eq_true, decide_eq_true_eq] at hc
    obtain ⟨rfl, h1⟩ := hc
    exact ok_un s he h1 hev
  · simp only [Bool.and_eq_true] at hc
    exact ok_conv s he hc.1 hc.2 hev
  · simp only [Bool.and_eq_true, decide_eq_true_eq] at hc
    obtain ⟨⟨rfl, h1⟩, h2⟩ := hc
    exact ok_mkclo s he h1 h2 hev
  · simp only [Bool.and_eq_true] at hc
    obtain ⟨⟨⟨h1, h2⟩, h3⟩, h4⟩ := hc
    split at h4
    · rename_i e' he'
      simp only [Bool.and_eq_true, decide_eq_true_eq] at h4
      obtain ⟨⟨⟨h5, h6⟩, h7⟩, h8⟩ := h4
      refine ok_mk s he h1 h2 he' h5 h6 h7 h8 (fun u hu => ?_) hev
      have := List.all_eq_true.1 h3 u hu
      cases u <;> first | exact ⟨_, rfl, rfl⟩ | cases this
    · cases h4
  · simp only [Bool.and_eq_true] at hc
    obtain ⟨⟨⟨⟨h1, h2⟩, h3⟩, h4⟩, h5⟩ := hc
    refine ok_slc s he h1 h2 h3 h4 ?_ hev
    split at h5
    · rename_i hs; rw [if_pos hs]; exact h5
    · rename_i hs
      rw [if_neg hs]
      split at h5
      · rename_i e' he'; exact ⟨e', he', by simpa using h5⟩
      · cases h5
  · simp only [Bool.and_eq_true] at hc
    obtain ⟨h1, h2⟩ := hc
    split at h2
    · rename_i fl hfl
      simp only [Bool.and_eq_true, decide_eq_true_eq] at h2
      exact ok_faddr s he h1 hfl h2.1.1 h2.1.2 h2.2 hev
    · cases h2
  · simp only [Bool.and_eq_true] at hc
    obtain ⟨h1, h2⟩ := hc
    split at h2
    · rename_i fl hfl
      simp only [Bool.and_eq_true, decide_eq_true_eq] at h2
      exact ok_fld s he h1 hfl h2.1.1 h2.1.2 h2.2 hev
    · cases h2
  · simp only [Bool.and_eq_true] at hc
    obtain ⟨⟨h1, h2⟩, h3⟩ := hc
    split at h3
    · rename_i e' he'; exact ok_iaddr s he h1 h2 he' (by simpa using h3) hev
    · cases h3
  · simp only [Bool.and_eq_true] at hc
    exact ok_idx s he hc.1.1 hc.1.2 hc.2 hev
  · simp only [Bool.and_eq_true, decide_eq_true_eq] at hc
    obtain ⟨h1, rfl⟩ := hc
    exact ok_ext s he h1 hev
  · cases hev
  · exact ok_builtin s he hc hev
  · cases hc
end
end Go.Proofs.Ytfbjbkkcilhgjaa.PE
