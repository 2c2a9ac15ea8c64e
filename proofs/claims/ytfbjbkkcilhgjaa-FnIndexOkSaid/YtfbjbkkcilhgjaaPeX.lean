/- Regions of open order that write, reckoned with; calls that share the heap; the heap behind a symbolic one. -/
import Derived.Test.YtfbjbkkcilhgjaaPeI
namespace Go.Proofs.Ytfbjbkkcilhgjaa.PE

/-! ### regions of open order that write -/
def evW (run : Run) : List I → Env → Heap → List Heap → Option (Env × List Heap)
  | [], e, h, acc => some (e, (h :: acc).reverse)
  | i :: r, e, h, acc => match evV run i e h with
    | some (v, h') => if i.wr then evW run r (updE e i.d v) h' (h :: acc) else evW run r (updE e i.d v) h acc
    | none => none
theorem evW_evT {run : Run} : ∀ {is : List I} {e e' : Env} {h : Heap} {acc hs : List Heap}, evW run is e h acc = some (e', hs) → ∃ hs', evT run is e h = some (e', hs') ∧ hs = acc.reverse ++ hs'
  | [], e, e', h, acc, hs, hev => by
    simp only [evW, Option.some.injEq, Prod.mk.injEq] at hev
    obtain ⟨rfl, rfl⟩ := hev
    exact ⟨[h], rfl, by simp⟩
  | i :: r, e, e', h, acc, hs, hev => by
    simp only [evW] at hev
    split at hev
    · rename_i v h' hv
      split at hev
      · rename_i hw
        obtain ⟨hs', h1, h2⟩ := evW_evT hev
        exact ⟨h :: hs', by simp only [evT, hv, hw, if_true, h1, Option.map_some], by simp [h2]⟩
      · rename_i hw
        obtain ⟨hs', h1, h2⟩ := evW_evT hev
        exact ⟨hs', by simp only [evT, hv, hw, Bool.false_eq_true, if_false, h1], h2⟩
    · cases hev

def ThenW (x : Option (V × Heap)) (wr : Bool) (run : Run) (r : List I) (d : Option Nat) (e : Env) (h : Heap) (acc : List Heap) : Option (Env × List Heap) := match x with
  | some (v, h') => if wr then evW run r (updE e d v) h' (h :: acc) else evW run r (updE e d v) h acc
  | none => none
theorem ThenW_wr (v : V) (h' : Heap) (run : Run) (r : List I) (d : Option Nat) (e : Env) (h : Heap) (acc : List Heap) : ThenW (some (v, h')) true run r d e h acc = evW run r (updE e d v) h' (h :: acc) := rfl
theorem ThenW_rd (v : V) (h' : Heap) (run : Run) (r : List I) (d : Option Nat) (e : Env) (h : Heap) (acc : List Heap) : ThenW (some (v, h')) false run r d e h acc = evW run r (updE e d v) h acc := rfl
def GuardV (v : V) (b : Bool) (run : Run) (op : Op) (e : Env) (h : Heap) : Option (V × Heap) := match v with
  | .bool c => if c = b then evGo run e h op else some (.tup [], h)
  | .tup vs => if vs.length = 0 then some (.tup [], h) else none
  | _ => none
theorem GuardV_skip (b : Bool) (run : Run) (op : Op) (e : Env) (h : Heap) : GuardV (.tup []) b run op e h = some (.tup [], h) := rfl
theorem GuardV_tt (run : Run) (op : Op) (e : Env) (h : Heap) : GuardV (.bool true) true run op e h = evGo run e h op := rfl
theorem GuardV_ff (run : Run) (op : Op) (e : Env) (h : Heap) : GuardV (.bool false) false run op e h = evGo run e h op := rfl
theorem GuardV_tf (run : Run) (op : Op) (e : Env) (h : Heap) : GuardV (.bool true) false run op e h = some (.tup [], h) := rfl
theorem GuardV_ft (run : Run) (op : Op) (e : Env) (h : Heap) : GuardV (.bool false) true run op e h = some (.tup [], h) := rfl
theorem evV_cons (run : Run) (d : Option Nat) (op : Op) (lo hi : Nat) (wr : Bool) (old : List Nat) (e : Env) (h : Heap) : evV run ⟨d, none, op, lo, hi, wr, old⟩ e h = evGo run e h op := by
  simp only [evV, wants]
theorem evV_guard (run : Run) (d : Option Nat) (t : Nat) (b : Bool) (op : Op) (lo hi : Nat) (wr : Bool) (old : List Nat) (e : Env) (h : Heap) : evV run ⟨d, some (t, b), op, lo, hi, wr, old⟩ e h = GuardV (get e t) b run op e h := by
  simp only [evV, wants]
  cases get e t with
  | bool c => cases b <;> cases c <;> simp [GuardV]
  | tup vs =>
    simp only [GuardV]
    by_cases hv : vs.length = 0
    · simp [hv]
    · simp [hv]
  | _ => rfl
theorem evW_nil (run : Run) (e : Env) (h : Heap) (acc : List Heap) : evW run [] e h acc = some (e, (h :: acc).reverse) := rfl
theorem evW_cons (run : Run) (d : Option Nat) (g : Option (Nat × Bool)) (op : Op) (lo hi : Nat) (wr : Bool) (old : List Nat) (r : List I) (e : Env) (h : Heap) (acc : List Heap) :
    evW run (⟨d, g, op, lo, hi, wr, old⟩ :: r) e h acc = ThenW (evV run ⟨d, g, op, lo, hi, wr, old⟩ e h) wr run r d e h acc := by
  simp only [evW, ThenW]

/-- What an operation comes to at one of the heaps. -/
def Tell (x : Option (V × Heap)) (hk : Heap) (d : Option Nat) (e' : Env) : Prop := match x with
  | some (v, h') => h' = hk ∧ (match d with
    | some t => get e' t = v
    | none => True)
  | none => False
theorem Tell_some (v : V) (h' hk : Heap) (t : Nat) (e' : Env) : Tell (some (v, h')) hk (some t) e' = (h' = hk ∧ get e' t = v) := rfl
theorem Tell_none (v : V) (h' hk : Heap) (e' : Env) : Tell (some (v, h')) hk none e' = (h' = hk) := by simp [Tell]
def Tells (run : Run) (i : I) (e0 e' : Env) : List Heap → Prop
  | [] => True
  | hk :: r => Tell (evV run i e0 hk) hk i.d e' ∧ Tells run i e0 e' r
def Tell2 (x : Option Heap) (y : Option Heap) (run : Run) (i : I) (e0 e' : Env) : Prop := match x, y with
  | some hk, some hk' => Tell (evV run i e0 hk) hk' i.d e'
  | _, _ => False
theorem Tell2_some (hk hk' : Heap) (run : Run) (i : I) (e0 e' : Env) : Tell2 (some hk) (some hk') run i e0 e' = Tell (evV run i e0 hk) hk' i.d e' := rfl
def StW (run : Run) (e e' : Env) (hs : List Heap) : List I → Prop
  | [] => True
  | i :: r => (bif i.wr then Tell2 hs[i.lo]? hs[i.lo + 1]? run i (mixE i.old e e') e' else Tells run i (mixE i.old e e') e' ((hs.drop i.lo).take (i.hi + 1 - i.lo))) ∧ StW run e e' hs r

theorem Tells_mem {run : Run} {i : I} {e0 e' : Env} : ∀ {hs : List Heap}, Tells run i e0 e' hs → ∀ hk ∈ hs, Tell (evV run i e0 hk) hk i.d e'
  | hk :: r, h, x, hx => by
    rcases List.mem_cons.1 hx with rfl | hx
    · exact h.1
    · exact Tells_mem h.2 x hx
theorem Tell_spec {x : Option (V × Heap)} {hk : Heap} {d : Option Nat} {e' : Env} (h : Tell x hk d e') : ∃ v, x = some (v, hk) ∧ ∀ t, d = some t → get e' t = v := by
  unfold Tell at h
  split at h
  · rename_i v h'
    obtain ⟨rfl, h2⟩ := h
    refine ⟨v, rfl, fun t ht => ?_⟩
    subst ht
    exact h2
  · exact h.elim
theorem StW_spec {run : Run} {e e' : Env} {hs : List Heap} : ∀ {is : List I}, StW run e e' hs is → ∀ i ∈ is, Steady run e e' hs i
  | i :: r, h, j, hj => by
    rcases List.mem_cons.1 hj with rfl | hj
    · have h1 := h.1
      unfold Steady
      by_cases hw : j.wr = true
      · rw [if_pos hw]
        rw [hw] at h1
        simp only [cond_true] at h1
        unfold Tell2 at h1
        split at h1
        · rename_i hk hk' e1 e2
          obtain ⟨v, h3, h4⟩ := Tell_spec h1
          exact ⟨v, hk, hk', e1, e2, h3, h4⟩
        · exact h1.elim
      · rw [if_neg hw]
        have hw' : j.wr = false := by simpa using hw
        rw [hw'] at h1
        simp only [cond_false] at h1
        intro k hk hlo hhi hkk
        have hm : hk ∈ (hs.drop j.lo).take (j.hi + 1 - j.lo) := by
          refine List.mem_of_getElem? (i := k - j.lo) ?_
          rw [List.getElem?_take_of_lt (by omega), List.getElem?_drop, show j.lo + (k - j.lo) = k by omega]
          exact hkk
        obtain ⟨v, h3, h4⟩ := Tell_spec (Tells_mem h1 hk hm)
        exact ⟨v, h3, h4⟩
    · exact StW_spec h.2 j hj

noncomputable def CheckW (p : Prop) (e' : Env) (hl : Option Heap) (x : Option (Env × Heap)) : Option (Env × Heap) := open Classical in if p then (match hl with
  | some h => some (e', h)
  | none => x) else x
theorem CheckW_true (e' : Env) (h : Heap) (x : Option (Env × Heap)) : CheckW True e' (some h) x = some (e', h) := by simp [CheckW]
noncomputable def DrawW (x : Option (Env × List Heap)) (run : Run) (is : List I) (e : Env) (h : Heap) : Option (Env × Heap) := match x with
  | some (e', hs) => CheckW (StW run e e' hs is) e' hs.getLast? (drawI run is e h)
  | none => drawI run is e h
theorem DrawW_some (e' : Env) (hs : List Heap) (run : Run) (is : List I) (e : Env) (h : Heap) : DrawW (some (e', hs)) run is e h = CheckW (StW run e e' hs is) e' hs.getLast? (drawI run is e h) := rfl
theorem drawI_write (run : Run) (is : List I) (e : Env) (h : Heap) : drawI run is e h = DrawW (evW run is e h []) run is e h := by
  cases hev : evW run is e h [] with
  | none => rfl
  | some p =>
    obtain ⟨e', hs⟩ := p
    obtain ⟨hs', h1, h2⟩ := evW_evT hev
    simp only [List.reverse_nil, List.nil_append] at h2
    subst h2
    simp only [DrawW, CheckW]
    split
    · rename_i hst
      split
      · rename_i hl hlast
        exact drawI_of h1 (StW_spec hst) hlast
      · rfl
    · rfl

/-! ### calls that share the heap -/
def BackS (rs : List V) (h1 : Heap) (n : Nat) (keep : Bool) : Option (V × Heap) :=
  if hiH n (h1.take n) then
      (if keep then (match rs with
        | .ref id st off len clip :: ss => if ss.all scalar = true then (if id < n then some (oneOf (.ref id st off len clip :: ss), h1.take n) else (match h1[id]? with
          | some (.rows st' sz cont) => if st' = st then some (oneOf (.ref n 0 0 len clip :: ss), h1.take n ++ [.rows 0 sz ((cont.drop off).take len)]) else none
          | _ => none)) else none
        | .sl true sz [] :: ss => if ss.all scalar = true then some (oneOf (.ref n 0 0 0 false :: ss), h1.take n ++ [.rows 0 sz []]) else none
        | [.ptr id 0 0 0] => (match h1[id]? with
          | some (.box cs) => if cs.all (hiC n) && decide (n ≤ id) then some (.ptr n 0 0 0, h1.take n ++ [.box cs]) else none
          | _ => none)
        | _ => none)
      else (match resAs n h1 rs with
        | some rs' => some (oneOf rs', h1.take n)
        | none => none))
    else none
def CallS (x : Option (List V × Heap)) (n : Nat) (keep : Bool) : Option (V × Heap) := match x with
  | some (rs, h1) => BackS rs h1 n keep
  | none => none
theorem CallS_some (rs : List V) (h1 : Heap) (n : Nat) (keep : Bool) : CallS (some (rs, h1)) n keep = BackS rs h1 n keep := rfl
theorem callS_eq (run : Run) (h : Heap) (f : Nat) (args : List V) (keep : Bool) : callS run h f args keep = CallS (run f args h) h.length keep := by
  unfold callS CallS BackS
  rcases run f args h with _ | ⟨rs, h1⟩ <;> rfl

/-- A heap none of whose variables leads to a block. -/
def plainB : Blk → Bool
  | .box cs => cs.all fun c => match c with
    | .int _ _ => true
    | .bool _ => true
    | .str _ => true
    | .sl _ _ _ => true
    | _ => false
  | .nest _ _ _ => false
  | _ => true
def plainH (h : Heap) : Bool := h.all plainB
theorem plainH_nil : plainH [] = true := rfl
theorem plainH_cons (b : Blk) (h : Heap) : plainH (b :: h) = (plainB b && plainH h) := rfl
theorem plainH_append (a b : Heap) : plainH (a ++ b) = (plainH a && plainH b) := List.all_append
theorem plainB_hi {b : Blk} (hb : plainB b = true) (n : Nat) : hiB n b = true := by
  cases b with
  | box cs =>
    simp only [plainB, List.all_eq_true] at hb
    simp only [hiB, List.all_eq_true]
    intro c hc
    have := hb c hc
    cases c <;> first | rfl | cases this
  | nest st sz cont => cases hb
  | _ => rfl
theorem plainH_hi {h : Heap} (hp : plainH h = true) (n : Nat) : hiH n h = true := by
  simp only [plainH, List.all_eq_true] at hp
  simp only [hiH, List.all_eq_true]
  exact fun b hb => plainB_hi (hp b hb) n
theorem plainH_take {h : Heap} (hp : plainH h = true) (m : Nat) : plainH (h.take m) = true := by
  simp only [plainH, List.all_eq_true] at hp ⊢
  exact fun b hb => hp b (List.mem_of_mem_take hb)

/-! ### the heap behind a symbolic one -/
theorem at_end {α : Type} (t r : List α) : (t ++ r)[t.length]? = r[0]? := by rw [List.getElem?_append_right (Nat.le_refl _), Nat.sub_self]
theorem at_end_add {α : Type} (t r : List α) (k : Nat) : (t ++ r)[t.length + k]? = r[k]? := by rw [List.getElem?_append_right (by omega)]; congr 1; omega
theorem set_end {α : Type} (t r : List α) (x : α) : (t ++ r).set t.length x = t ++ r.set 0 x := by rw [List.set_append_right _ _ (Nat.le_refl _), Nat.sub_self]
theorem set_end_add {α : Type} (t r : List α) (k : Nat) (x : α) : (t ++ r).set (t.length + k) x = t ++ r.set k x := by rw [List.set_append_right _ _ (by omega)]; congr 2; omega
theorem take_end {α : Type} (t r : List α) : (t ++ r).take t.length = t := by simp
theorem take_end_add {α : Type} (t r : List α) (k : Nat) : (t ++ r).take (t.length + k) = t ++ r.take k := by rw [List.take_append, List.take_of_length_le (by omega)]; congr 2; omega
theorem take_map_len {α β : Type} (f : α → β) (l : List α) : (l.map f).take l.length = l.map f := List.take_of_length_le (by simp)
theorem take_same {α : Type} (t : List α) : t.take t.length = t := List.take_length
theorem hiH_cons (n : Nat) (b : Blk) (h : Heap) : hiH n (b :: h) = (hiB n b && hiH n h) := rfl
theorem hiH_append (n : Nat) (a b : Heap) : hiH n (a ++ b) = (hiH n a && hiH n b) := List.all_append
theorem hiH_nil (n : Nat) : hiH n [] = true := rfl
/-! ### branches on a negation -/
theorem GuardI_nby (c : Bool) (b : Bool) (run : Run) (op : Op) (r : List I) (d : Option Nat) (e : Env) (h : Heap) : GuardI (.bool (!c)) b run op r d e h = if c = true then GuardI (.bool false) b run op r d e h else GuardI (.bool true) b run op r d e h := by cases c <;> rfl
theorem GuardI_ndec (p : Prop) [Decidable p] (b : Bool) (run : Run) (op : Op) (r : List I) (d : Option Nat) (e : Env) (h : Heap) : GuardI (.bool (!decide p)) b run op r d e h = if p then GuardI (.bool false) b run op r d e h else GuardI (.bool true) b run op r d e h := by
  by_cases hp : p <;> simp [hp]
theorem GuardQ_nby (c : Bool) (b : Bool) (run : Run) (op : Op) (r : List I) (d : Option Nat) (e : Env) (h : Heap) : GuardQ (.bool (!c)) b run op r d e h = if c = true then GuardQ (.bool false) b run op r d e h else GuardQ (.bool true) b run op r d e h := by cases c <;> rfl
theorem GuardQ_ndec (p : Prop) [Decidable p] (b : Bool) (run : Run) (op : Op) (r : List I) (d : Option Nat) (e : Env) (h : Heap) : GuardQ (.bool (!decide p)) b run op r d e h = if p then GuardQ (.bool false) b run op r d e h else GuardQ (.bool true) b run op r d e h := by
  by_cases hp : p <;> simp [hp]
theorem GuardV_by (c : Bool) (b : Bool) (run : Run) (op : Op) (e : Env) (h : Heap) : GuardV (.bool c) b run op e h = if c = true then GuardV (.bool true) b run op e h else GuardV (.bool false) b run op e h := by cases c <;> rfl
theorem GuardV_dec (p : Prop) [Decidable p] (b : Bool) (run : Run) (op : Op) (e : Env) (h : Heap) : GuardV (.bool (decide p)) b run op e h = if p then GuardV (.bool true) b run op e h else GuardV (.bool false) b run op e h := by
  by_cases hp : p <;> simp [hp]
theorem GuardV_nby (c : Bool) (b : Bool) (run : Run) (op : Op) (e : Env) (h : Heap) : GuardV (.bool (!c)) b run op e h = if c = true then GuardV (.bool false) b run op e h else GuardV (.bool true) b run op e h := by cases c <;> rfl
theorem GuardV_ndec (p : Prop) [Decidable p] (b : Bool) (run : Run) (op : Op) (e : Env) (h : Heap) : GuardV (.bool (!decide p)) b run op e h = if p then GuardV (.bool false) b run op e h else GuardV (.bool true) b run op e h := by
  by_cases hp : p <;> simp [hp]
theorem CondC_nby (c : Bool) (run : Run) (draw : Draw) (a b : C) (e : Env) (h : Heap) : CondC (.bool (!c)) run draw a b e h = if c = true then evC run draw b e h else evC run draw a e h := by cases c <;> rfl
theorem CondC_ndec (p : Prop) [Decidable p] (run : Run) (draw : Draw) (a b : C) (e : Env) (h : Heap) : CondC (.bool (!decide p)) run draw a b e h = if p then evC run draw b e h else evC run draw a e h := by
  rw [CondC_nby]
  by_cases hp : p <;> simp [hp]

/-! ### numbers of blocks -/
theorem zero_lt_lit (n k : Nat) : (0 < n + (k + 1)) = True := propext ⟨fun _ => by first | trivial | omega, fun _ => by first | trivial | omega⟩
theorem self_lt_lit (n k : Nat) : (n < n + (k + 1)) = True := propext ⟨fun _ => by first | trivial | omega, fun _ => by first | trivial | omega⟩
theorem lit_lt_lit (n a b : Nat) : (n + a < n + b) = (a < b) := propext ⟨fun _ => by first | trivial | omega, fun _ => by first | trivial | omega⟩
theorem lit_le_lit (n a b : Nat) : (n + a ≤ n + b) = (a ≤ b) := propext ⟨fun _ => by first | trivial | omega, fun _ => by first | trivial | omega⟩
theorem self_le_lit (n b : Nat) : (n ≤ n + b) = True := propext ⟨fun _ => by first | trivial | omega, fun _ => by first | trivial | omega⟩
theorem lit_lt_self (n a : Nat) : (n + a < n) = False := eq_false (by omega)
theorem self_lt_self (n : Nat) : (n < n) = False := eq_false (by omega)
attribute [go_sem] List.contains_nil zero_lt_lit self_lt_lit lit_lt_lit lit_le_lit self_le_lit lit_lt_self self_lt_self elemsOf elemOf frzs List.flatMap_cons List.flatMap_nil refsV refC refs refsA refsAs listOf bytesOf small appendTo elSz szOf loInt hiInt mmax mmin ThenW_wr ThenW_rd GuardV_skip GuardV_tt GuardV_ff GuardV_tf GuardV_ft evV_cons evV_guard evW_nil evW_cons Tell_some Tell_none Tells Tell2_some StW CheckW_true DrawW_some mixE CallS_some BackS plainH_nil plainH_cons plainH_append plainB hiH_cons hiH_append hiH_nil resAs resA resCs resC at_end at_end_add set_end set_end_add take_end take_end_add take_map_len take_same List.set_cons_zero List.set_cons_succ List.reverse_cons List.reverse_nil List.getLast?_cons_cons List.getLast?_singleton cond_true cond_false
end Go.Proofs.Ytfbjbkkcilhgjaa.PE
