/- Each operation of the evaluator is the machine's: what is reckoned, turned into another kind, cut and put together. -/
import Derived.Test.YtfbjbkkcilhgjaaPeG
import Derived.Laws.BytesArg
import Derived.Lib.ConvBytes
namespace Go.Proofs.Ytfbjbkkcilhgjaa.PE
open Go.RowKit

section
variable {P : Program} {o : Oper} {a : Act} {K : Ct} {γ : Gh} {w : World} {h : Heap} {N : Nat} {e : Env}

theorem run_eqGuard_plain (op : BinOp) (t : TypeId) (x y : Operand) (u v : Value) (hu : ∀ vs, u ≠ .agg vs) (hn : u ≠ .nilIface) : (eqGuard op t x y u v).run P w = .ok () w := by
  cases op
  case eql =>
    cases u with
    | agg vs => exact absurd rfl (hu vs)
    | nilIface => exact absurd rfl hn
    | _ => cases v <;> rfl
  case neq =>
    cases u with
    | agg vs => exact absurd rfl (hu vs)
    | nilIface => exact absurd rfl hn
    | _ => cases v <;> rfl
  all_goals rfl

def boolT (P : Program) (t : TypeId) : Bool := match P.underlying t with
  | some .bool => true
  | _ => false


theorem run_eql_bool {t : TypeId} (hu : P.underlying t = some .bool) (a b : Bool) : (binOp .eql t (.bool a) (.bool b)).run P w = .ok (.bool (a == b)) w := by
  have h1 : (Op.equalIn (9999 + 1) t (.bool a) (.bool b)).run P w = .ok (a == b) w := by
    unfold Op.equalIn
    simp only [Sem.run_bind, run_underlying hu, Result.andThen_ok]
    rfl
  show Sem.run P (Op.equalIn (9999 + 1) t (.bool a) (.bool b) >>= fun r => pure (Value.bool r)) w = _
  rw [Sem.run_bind, h1]
  rfl
theorem run_neq_bool {t : TypeId} (hu : P.underlying t = some .bool) (a b : Bool) : (binOp .neq t (.bool a) (.bool b)).run P w = .ok (.bool (!(a == b))) w := by
  have h1 : (Op.equalIn (9999 + 1) t (.bool a) (.bool b)).run P w = .ok (a == b) w := by
    unfold Op.equalIn
    simp only [Sem.run_bind, run_underlying hu, Result.andThen_ok]
    rfl
  show Sem.run P (Op.equalIn (9999 + 1) t (.bool a) (.bool b) >>= fun r => pure (Value.bool (!r))) w = _
  rw [Sem.run_bind, h1]
  rfl

theorem bins_ok {op : BinOp} {x y v : V} (hb : bins op x y = some v) (t : TypeId) {vx vy : Value} (hx : VT K γ w h vx x) (hy : VT K γ w h vy y) :
    ∃ u, (binOp op t vx vy).run P w = .ok u w ∧ VT K γ w h u v ∧ (∀ vs, vx ≠ .agg vs) ∧ vx ≠ .nilIface := by
  unfold bins at hb
  split at hb
  · rename_i k n k' m
    have hx := hx.int
    have hy := hy.int
    subst hx hy
    refine (show (∃ u, _ ∧ _) → _ from fun ⟨u, h1, h2⟩ => ⟨u, h1, h2, (fun _ e => by cases e), (fun e => by cases e)⟩) ?_
    have kk : ∀ (A B : Sem Value), (if k ≠ k then A else B) = B := fun A B => if_neg (by simp)
    cases op
    case shl =>
      simp only at hb
      split at hb
      · cases hb
      · rename_i h0
        injection hb with hb
        subst hb
        refine ⟨.int k (k.wrap (n * 2 ^ (min m.toNat k.bits))), ?_, rfl⟩
        show (Op.shift .shl k n k' m).run P w = _
        unfold Op.shift
        rw [if_neg h0]
        rfl
    case shr =>
      simp only at hb
      split at hb
      · cases hb
      · rename_i h0
        injection hb with hb
        subst hb
        refine ⟨.int k (n.fdiv (2 ^ (min m.toNat k.bits))), ?_, rfl⟩
        show (Op.shift .shr k n k' m).run P w = _
        unfold Op.shift
        rw [if_neg h0]
        rfl
    case andNot =>
      simp only at hb
      split at hb <;> cases hb
    case quo =>
      simp only at hb
      split at hb
      · rename_i hk
        subst hk
        split at hb
        · cases hb
        · rename_i h0
          injection hb with hb
          subst hb
          refine ⟨.int k (k.wrap (n.tdiv m)), ?_, rfl⟩
          show Sem.run P (if k ≠ k then _ else Op.intDiv .quo k n m) w = _
          rw [kk]
          unfold Op.intDiv
          rw [if_neg h0]
          rfl
      · cases hb
    case rem =>
      simp only at hb
      split at hb
      · rename_i hk
        subst hk
        split at hb
        · cases hb
        · rename_i h0
          injection hb with hb
          subst hb
          refine ⟨.int k (n.tmod m), ?_, rfl⟩
          show Sem.run P (if k ≠ k then _ else Op.intDiv .rem k n m) w = _
          rw [kk]
          unfold Op.intDiv
          rw [if_neg h0]
          rfl
      · cases hb
    all_goals
      simp only at hb
      split at hb
      · rename_i hk
        subst hk
        injection hb with hb
        subst hb
        refine ⟨_, ?_, rfl⟩
        unfold binOp
        simp only [kk]
        rfl
      · cases hb
  · rename_i s1 s2
    have hx := hx.str
    have hy := hy.str
    subst hx hy
    refine (show (∃ u, _ ∧ _) → _ from fun ⟨u, h1, h2⟩ => ⟨u, h1, h2, (fun _ e => by cases e), (fun e => by cases e)⟩) ?_
    cases op <;> simp only at hb
    case add =>
      split at hb
      · rename_i hl
        injection hb with hb
        subst hb
        have hlt : ¬ ((((s1.size + s2.size : Nat)) : Int) > IntKind.i64.max) := by
          unfold small at hl
          have : IntKind.i64.max = 9223372036854775807 := rfl
          omega
        refine ⟨.string (s1 ++ s2), ?_, rfl⟩
        show Sem.run P (if (((s1.size + s2.size : Nat) : Int) > IntKind.i64.max) then _ else _) w = _
        rw [if_neg hlt]
        rfl
      · cases hb
    all_goals first
      | (injection hb with hb; subst hb; exact ⟨_, rfl, rfl⟩)
      | cases hb
  · cases hb

theorem ok_bin (s : St K γ w h) (he : EnvOK K γ w h N a e) {op : BinOp} {t t' : TypeId} {x y : Operand} {x' y' : X} (hx : chkX x x' = true) (hy : chkX y y' = true)
    {v : V} {h' : Heap} (hev : evOp e h (.bin op x' y') = some (v, h')) : Ok1 P (.binOp op t x y t') o a K γ w h v h' := by
  simp only [evOp] at hev
  obtain ⟨v', hv', rfl, rfl⟩ := map_pair (f := fun v => v) hev
  obtain ⟨u, h1, h2, h3, h4⟩ := bins_ok (P := P) hv' t (chkX_ok hx he) (chkX_ok hy he)
  refine Ok1.pure s (v := u) ?_ h2
  simp [execOp, run_eqGuard_plain op t x y _ _ h3 h4, h1]

theorem ok_eqb (s : St K γ w h) (he : EnvOK K γ w h N a e) {neg : Bool} {t t' : TypeId} {x y : Operand} {x' y' : X} (hx : chkX x x' = true) (hy : chkX y y' = true) (hu : P.underlying t = some .bool)
    {v : V} {h' : Heap} (hev : evOp e h (.eqb neg x' y') = some (v, h')) : Ok1 P (.binOp (if neg then .neq else .eql) t x y t') o a K γ w h v h' := by
  have hxv := chkX_ok hx he
  have hyv := chkX_ok hy he
  simp only [evOp] at hev
  split at hev
  · rename_i b1 b2 e1 e2
    rw [e1] at hxv
    rw [e2] at hyv
    injection hev with hev
    injection hev with e3 e4
    subst e3 e4
    have hg := fun op => run_eqGuard_plain (P := P) (w := w) op t x y (a.eval x) (a.eval y) (by rw [hxv.bool]; exact fun _ e => (by cases e)) (by rw [hxv.bool]; exact fun e => (by cases e))
    cases neg with
    | true => exact Ok1.pure s (v := .bool (!(b1 == b2))) (by simp only [if_true, execOp, Sem.run_bind, hg, Result.andThen_ok]; rw [hxv.bool, hyv.bool, run_neq_bool hu]; rfl) rfl
    | false => exact Ok1.pure s (v := .bool (b1 == b2)) (by simp only [Bool.false_eq_true, if_false, execOp, Sem.run_bind, hg, Result.andThen_ok]; rw [hxv.bool, hyv.bool, run_eql_bool hu]; rfl) rfl
  · cases hev

theorem ok_un (s : St K γ w h) (he : EnvOK K γ w h N a e) {op : UnOp} {t : TypeId} {x : Operand} {x' : X} (hx : chkX x x' = true)
    {v : V} {h' : Heap} (hev : evOp e h (.un op x') = some (v, h')) : Ok1 P (.unOp op t x) o a K γ w h v h' := by
  simp only [evOp] at hev
  obtain ⟨v', hv', rfl, rfl⟩ := map_pair (f := fun v => v) hev
  have hx := chkX_ok hx he
  unfold uns at hv'
  split at hv'
  · rename_i k n hy
    rw [hy] at hx
    injection hv' with hv'
    subst hv'
    exact Ok1.pure s (v := .int k (k.wrap (0 - n))) (by simp [execOp, hx.int, Op.unary, Op.intArith]) rfl
  · rename_i b hy
    rw [hy] at hx
    injection hv' with hv'
    subst hv'
    exact Ok1.pure s (v := .bool (!b)) (by simp [execOp, hx.bool, Op.unary]) rfl
  · cases hv'

/-- The list that a slice stands for, in memory. -/
theorem list_src (s : St K γ w h) {v : Value} {x : V} {xs : List (List V)} {sz : Nat} (hv : VT K γ w h v x) (hl : listOf h x = some xs) (hs : elSz h x = some sz) :
    ∃ A cap, v = .slice A xs.length cap ∧ xs.length ≤ cap ∧ 0 < sz ∧ (∀ x ∈ xs, x.length = sz) ∧ ∃ us : Nat → Nat → Value,
      (∀ (j c : Nat) (x : List V) (y : V), xs[j]? = some x → x[c]? = some y → Rep w (Im K γ w) (us j c) y) ∧
      (0 < xs.length → ∃ g o', A = some ⟨g, o', none⟩ ∧ g < w.heap.size ∧ ∀ (j c : Nat) (x : List V) (y : V), xs[j]? = some x → x[c]? = some y → w.cell? ⟨g, o' + j * sz + c, none⟩ = some (us j c)) := by
  have of_rep : ∀ {clip : Bool} {sz : Nat} {xs : List (List V)} {v : Value}, Rep w (Im K γ w) v (.sl clip sz xs) → ∃ A cap, v = .slice A xs.length cap ∧ xs.length ≤ cap ∧ 0 < sz ∧ (∀ x ∈ xs, x.length = sz) ∧ ∃ us : Nat → Nat → Value,
      (∀ (j c : Nat) (x : List V) (y : V), xs[j]? = some x → x[c]? = some y → Rep w (Im K γ w) (us j c) y) ∧
      (0 < xs.length → ∃ g o', A = some ⟨g, o', none⟩ ∧ g < w.heap.size ∧ ∀ (j c : Nat) (x : List V) (y : V), xs[j]? = some x → x[c]? = some y → w.cell? ⟨g, o' + j * sz + c, none⟩ = some (us j c)) := by
    intro clip sz xs v hr
    cases hr with
    | sl A n cap _ _ _ us h1 h2 h3 h4 h5 h6 h7 =>
      subst h1
      refine ⟨A, cap, rfl, h2, h4, h5, us, h7, fun hn => ?_⟩
      obtain ⟨g, o', e1, e2, e3⟩ := h6 hn
      exact ⟨g, o', e1, e2.1, e3⟩
  unfold listOf at hl
  split at hl
  · rename_i clip sz' xs'
    injection hl with hl
    subst hl
    injection hs with hs
    subst hs
    exact of_rep hv.sl
  · rename_i id st off len clip
    obtain ⟨A, cap, rfl, h1, h2, hp⟩ := hv.ref
    simp only [elSz, szOf] at hs
    split at hl
    · rename_i st' sz' cont hb
      rw [hb] at hs hp
      split at hl
      · rename_i hst
        subst hst
        injection hl with hl
        simp at hs
        subst hs
        obtain ⟨h3, h4⟩ := hp
        obtain ⟨h5, h6⟩ := h4 rfl
        have hB := s.blk id _ hb
        obtain ⟨hz, hlen, hB⟩ := hB
        have hll : xs.length = len := by rw [← hl]; simp; omega
        subst hll
        refine ⟨A, cap, rfl, h1, hz, fun x hx => hlen x (by rw [← hl] at hx; exact List.mem_of_mem_drop (List.mem_of_mem_take hx)), ?_⟩
        cases hg : γ id with
        | none =>
          rw [hg] at hB
          subst hB
          simp at hl
          subst hl
          exact ⟨fun _ _ => undef, fun j c x y hx => by simp at hx, fun hn => absurd hn (by simp)⟩
        | some p =>
          obtain ⟨g, o'⟩ := p
          rw [hg] at hB h6
          obtain ⟨h7, cs, h8, h9, h10⟩ := hB
          have key : ∀ (j c : Nat) (x : List V) (y : V), xs[j]? = some x → x[c]? = some y → ∃ u, cs[o' + off * sz' + j * sz' + c]? = some u ∧ Rep w (Im K γ w) u y := by
            intro j c x y hx hy
            have hj : j < xs.length := (List.getElem?_eq_some_iff.1 hx).1
            have hx' : cont[off + j]? = some x := by
              rw [← hl, List.getElem?_take_of_lt hj, List.getElem?_drop] at hx
              exact hx
            obtain ⟨u, hu, hr⟩ := h10 (off + j) c x y hx' hy
            exact ⟨u, by rw [← hu]; congr 1; rw [Nat.add_mul]; omega, hr⟩
          refine ⟨fun j c => (cs[o' + off * sz' + j * sz' + c]?).getD undef, fun j c x y hx hy => ?_, fun hn => ?_⟩
          · obtain ⟨u, hu, hr⟩ := key j c x y hx hy
            show Rep w (Im K γ w) ((cs[o' + off * sz' + j * sz' + c]?).getD undef) y
            rw [hu]
            exact hr
          · obtain ⟨e1, _⟩ := h6 (by omega)
            refine ⟨g, o' + off * sz', e1, (s.owned hg).2, fun j c x y hx hy => ?_⟩
            obtain ⟨u, hu, _⟩ := key j c x y hx hy
            show _ = some ((cs[o' + off * sz' + j * sz' + c]?).getD undef)
            rw [h8.cell, hu]
            rfl
      · cases hl
    · rename_i st' sz' cont hb
      rw [hb] at hs hp
      split at hl
      · rename_i hst
        subst hst
        injection hl with hl
        simp at hs
        subst hs
        obtain ⟨hz, h3, h4⟩ := hp
        obtain ⟨h5, h6⟩ := h4 rfl
        rw [hl] at h6
        exact of_rep h6
      · cases hl
    · cases hl
  · cases hl

theorem bytesOf_spec : ∀ {xs : List (List V)} {l : List UInt8}, bytesOf xs = some l → xs.length = l.length ∧ ∀ (j : Nat) (x : List V), xs[j]? = some x → ∃ n : Int, x = [.int .u8 n] ∧ l[j]? = some (UInt8.ofNat n.toNat)
  | [], l, hb => by
    simp [bytesOf] at hb
    subst hb
    exact ⟨rfl, fun j x hx => by simp at hx⟩
  | x :: xs, l, hb => by
    unfold bytesOf at hb
    split at hb
    · rename_i he; cases he
    · rename_i n r he
      injection he with e1 e2
      subst e1 e2
      obtain ⟨l', h1, rfl⟩ := Option.map_eq_some_iff.1 hb
      obtain ⟨h2, h3⟩ := bytesOf_spec h1
      refine ⟨by simp [h2], fun j x hx => ?_⟩
      cases j with
      | zero => simp at hx; exact ⟨n, hx.symm, rfl⟩
      | succ j => simp at hx; simpa using h3 j x hx
    · cases hb

def convT (P : Program) (src dst : TypeId) (c : Cv) : Bool := match c with
  | .int k => (P.underlying src).isSome && (match P.underlying dst with | some (.int k') => decide (k = k') | _ => false)
  | .str => (P.underlying src).isSome && isStr P dst
  | .toStr => (match sliceT P src with | some e => isByte P e | none => false) && isStr P dst
  | .toBytes => (match sliceT P dst with | some e => isByte P e | none => false) && isStr P src

theorem below_bytesWorld (w : World) (e : TypeId) (s : ByteArray) : Below w.heap.size w (Lib.bytesWorld w e s) := by
  refine ⟨rfl, rfl, rfl, ?_, fun k hk => Lib.bytesWorld_at_old w e s k hk⟩
  rw [Lib.bytesWorld_size]
  omega

theorem cellsOfBytes_rep {w : World} {im : Nat → Prop} {g cap : Nat} {l : List UInt8} (hg : im g) (hcap : l.length ≤ cap) (hc : ∀ j, j < l.length → w.cell? ⟨g, j, none⟩ = some (.int .u8 (l.getD j 0).toNat)) :
    Rep w im (.slice (some ⟨g, 0, none⟩) l.length cap) (.sl false 1 (cellsOfBytes l)) := by
  have key : ∀ (j c : Nat) (x : List V) (y : V), (cellsOfBytes l)[j]? = some x → x[c]? = some y → c = 0 ∧ j < l.length ∧ y = .int .u8 (l.getD j 0).toNat := by
    intro j c x y hx hy
    simp only [cellsOfBytes, List.getElem?_map, Option.map_eq_some_iff] at hx
    obtain ⟨b, hb, rfl⟩ := hx
    cases c with
    | zero =>
      simp at hy
      subst hy
      have hj := (List.getElem?_eq_some_iff.1 hb).1
      exact ⟨rfl, hj, by simp [List.getD, hb]⟩
    | succ c => simp at hy
  refine .sl _ _ cap false _ 1 (fun j _ => .int .u8 (l.getD j 0).toNat) (by simp [cellsOfBytes]) hcap (fun e => by cases e) (by omega) (fun x hx => ?_) (fun _ => ⟨g, 0, rfl, hg, fun j c x y hx hy => ?_⟩) (fun j c x y hx hy => ?_)
  · simp only [cellsOfBytes, List.mem_map] at hx
    obtain ⟨b, _, rfl⟩ := hx
    rfl
  · obtain ⟨rfl, hj, _⟩ := key j c x y hx hy
    simpa using hc j hj
  · obtain ⟨_, _, rfl⟩ := key j c x y hx hy
    exact .int _ _

theorem ok_conv (s : St K γ w h) (he : EnvOK K γ w h N a e) {c : Cv} {src dst : TypeId} {x : Operand} {x' : X} (hx : chkX x x' = true) (ht : convT P src dst c = true)
    {v : V} {h' : Heap} (hev : evOp e h (.conv c x') = some (v, h')) : Ok1 P (.convert src dst x) o a K γ w h v h' := by
  have hx := chkX_ok hx he
  simp only [evOp] at hev
  split at hev
  · rename_i k k' n hy
    rw [hy] at hx
    injection hev with hev
    injection hev with e1 e2
    subst e1 e2
    simp only [convT, Bool.and_eq_true] at ht
    obtain ⟨h1, h2⟩ := ht
    obtain ⟨us, hus⟩ := Option.isSome_iff_exists.1 h1
    split at h2
    · rename_i k2 hd
      simp at h2
      subst h2
      refine Ok1.pure s (v := .int k (k.wrap n)) ?_ rfl
      simp [execOp, convert, run_underlying hus, run_underlying hd, hx.int, Conv.intToInt]
    · cases h2
  · rename_i bs hy
    rw [hy] at hx
    injection hev with hev
    injection hev with e1 e2
    subst e1 e2
    simp only [convT, Bool.and_eq_true] at ht
    obtain ⟨us, hus⟩ := Option.isSome_iff_exists.1 ht.1
    refine Ok1.pure s (v := .string bs) ?_ rfl
    simp [execOp, convert, run_underlying hus, run_underlying (of_isStr ht.2), hx.str]
  · rename_i bs hy
    rw [hy] at hx
    injection hev with hev
    injection hev with e1 e2
    subst e1 e2
    simp only [convT, Bool.and_eq_true] at ht
    obtain ⟨h1, h2⟩ := ht
    split at h1
    · rename_i e' hsl
      have hrun := Lib.run_convert_string_bytes (P := P) w src dst e' bs (of_isStr h2) (of_sliceT hsl) (of_isByte h1)
      have hgrow := st_grow s (below_bytesWorld w e' bs)
      refine ⟨_, _, γ, .inl (by simp only [execOp, hx.str, Sem.run_bind, hrun, Result.andThen_ok]; rfl), Go2.of hgrow, ?_⟩
      have hrep := cellsOfBytes_rep (w := Lib.bytesWorld w e' bs) (im := Im K γ (Lib.bytesWorld w e' bs)) (g := w.heap.size) (cap := grownCap w bs.size 0 e') (l := bs.data.toList)
        ⟨by rw [Lib.bytesWorld_size]; omega, fun hlt => absurd hlt (by have := s.size; omega), fun id g o' hg => by have := (s.owned hg).2; omega⟩
        (by have := grownCap_ge w bs.size 0 e'; exact this)
        (fun j hj => Lib.bytesWorld_cell w e' bs j hj)
      exact hrep
    · cases h1
  · rename_i hcs
    split at hev
    · rename_i xs hxs
      obtain ⟨l, hl, rfl, rfl⟩ := map_pair (f := fun l : List UInt8 => V.str ⟨l.toArray⟩) hev
      simp only [convT, Bool.and_eq_true] at ht
      obtain ⟨h1, h2⟩ := ht
      split at h1
      · rename_i e' hsl
        obtain ⟨h3, h4⟩ := bytesOf_spec hl
        have hel : ∃ sz, elSz h (x'.ev e) = some sz := by
          unfold listOf at hxs
          split at hxs
          · exact ⟨_, by rw [‹x'.ev e = _›]; rfl⟩
          · rename_i hxe
            rw [hxe]
            simp only [elSz, szOf]
            split at hxs
            · rename_i hb
              split at hxs
              · rename_i hst; exact ⟨_, by simp only [hb]; exact if_pos hst⟩
              · cases hxs
            · rename_i hb
              split at hxs
              · rename_i hst; exact ⟨_, by simp only [hb]; exact if_pos hst⟩
              · cases hxs
            · cases hxs
          · cases hxs
        obtain ⟨sz, hel⟩ := hel
        obtain ⟨A, cap, hax, h5, h6, h7, us, h8, h9⟩ := list_src s hx hxs hel
        let ns : List Int := xs.map fun x => match x with | [.int _ n] => n | _ => 0
        have hns : ∀ (j : Nat) (n : Int), xs[j]? = some [.int .u8 n] → ns[j]? = some n := fun j n hj => by simp [ns, hj]
        have hstr : strOfNums ns = ⟨l.toArray⟩ := by
          unfold strOfNums
          congr 2
          apply List.ext_getElem?
          intro j
          rcases Nat.lt_or_ge j xs.length with hj | hj
          · obtain ⟨n, hn1, hn2⟩ := h4 j _ (List.getElem?_eq_getElem hj)
            have := hns j n (by rw [List.getElem?_eq_getElem hj, hn1])
            rw [List.getElem?_map, this, hn2]
            rfl
          · rw [List.getElem?_eq_none (by simp [ns]; exact hj), List.getElem?_eq_none (by omega)]
        refine Ok1.pure s (v := .string ⟨l.toArray⟩) ?_ rfl
        have hrun : (convert src dst (a.eval x)).run P w = .ok (.string ⟨l.toArray⟩) w := by
          rw [hax]
          rcases Nat.eq_zero_or_pos xs.length with h0 | h0
          · have hx0 : xs = [] := List.eq_nil_of_length_eq_zero h0
            subst hx0
            have hl0 : l = [] := List.eq_nil_of_length_eq_zero h3.symm
            subst hl0
            cases A with
            | none => exact run_convert_bytes_nil w src e' (of_sliceT hsl) (of_isByte h1) 0 cap dst (of_isStr h2)
            | some ad =>
              obtain ⟨g, o', sp⟩ := ad
              simp [convert, run_underlying (of_sliceT hsl), run_underlying (of_isStr h2), run_underlying (of_isByte h1), Conv.bytesToString, loadCells, loadCellsFrom]
              rfl
          · obtain ⟨g, o', rfl, _, hc⟩ := h9 h0
            have := run_convert_bytes_arg (P := P) w src e' (of_sliceT hsl) (of_isByte h1) g o' xs.length cap ns (by simp [ns]) (fun i hi => by
              obtain ⟨n, hn1, hn2⟩ := h4 i _ (List.getElem?_eq_getElem hi)
              have hsz : sz = 1 := by
                have := h7 _ (List.getElem_mem hi)
                rw [hn1] at this
                exact this.symm
              subst hsz
              have h10 := hc i 0 _ (.int .u8 n) (List.getElem?_eq_getElem hi) (by rw [hn1]; rfl)
              have h11 := h8 i 0 _ (.int .u8 n) (List.getElem?_eq_getElem hi) (by rw [hn1]; rfl)
              have hnv := hns i n (by rw [List.getElem?_eq_getElem hi, hn1])
              cases h12 : us i 0 <;> rw [h12] at h11 <;> cases h11
              rw [h12] at h10
              rw [Nat.mul_one, Nat.add_zero] at h10
              simp [List.getD, hnv, h10]) dst (of_isStr h2)
            rw [hstr] at this
            exact this
        simp only [execOp, Sem.run_bind, hrun, Result.andThen_ok]
        rfl
      · cases h1
    · cases hev
  · cases hev
end
end Go.Proofs.Ytfbjbkkcilhgjaa.PE
