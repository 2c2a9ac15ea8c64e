/- Texts of this claim, one behind the other: Pu1, Pu2, Pu3, Pu4, Pu5, Pu6, Pv1, Pv2, Pv3, Pv5, Pw1, Pn1, Pnr, Pvs, Pvt, Pvw, Pvx, Pvy, Pvr, Pq0, Png, Pnc, Psz, Pvq, Ph4, Pu7, Pu8, Pru, Pv4, Pv7, Pv8, Pv9, Ph5, Ph6, Pl0, Pd1, Pd2, Pd3, Pr1, Pd4, Pvz, Pd5. -/
import Derived.Test.YtfbjbkkcilhgjaaPeZ
import Derived.Test.YtfbjbkkcilhgjaaPeT
import Derived.IntWalk
import Derived.Test.YtfbjbkkcilhgjaaPeX
/- Trees of memory of one's own: what lies in them, that they stay ays they are, how they are told ays values, how a call hands them over. -/
set_option linter.unusedVariables false
set_option linter.unusedSimpArgs false
namespace Go.Proofs.Ytfbjbkkcilhgjaa.PE
open Go.RowKit

/-- The kind of a cell. -/
inductive Fd where
  | int (k : IntKind)
  | bool
  | str
  | sub (fs : List Fd)
/-- What lies in a cell. -/
inductive U where
  | int (n : Int)
  | bool (b : Bool)
  | str (s : ByteArray)
  | sub (xs : List (List U))
def Fd.deep : Fd → Bool
  | .sub _ => true
  | _ => false
def blkOf (fs : List Fd) (st : Nat) (cont : List (List V)) : Blk := if fs.any Fd.deep then .nest st fs.length cont else .rows st fs.length cont

def Zip3 {α β : Type} (R : α → β → List Nat → Prop) : List α → List β → List Nat → Prop
  | [], [], ids => ids = []
  | a :: ays, b :: bs, ids => ∃ i j, ids = i ++ j ∧ R a b i ∧ Zip3 R ays bs j
  | _, _, _ => False
def Zip2 {α β : Type} (R : α → β → Prop) : List α → List β → Prop
  | [], [] => True
  | a :: ays, b :: bs => R a b ∧ Zip2 R ays bs
  | _, _ => False

mutual
/-- A cell whose memory is one's own: the blocks that it lies in. -/
def OwnF (h : Heap) : Fd → V → U → List Nat → Prop
  | .int k, v, u, ids => ∃ n, v = .int k n ∧ u = .int n ∧ ids = []
  | .bool, v, u, ids => ∃ b, v = .bool b ∧ u = .bool b ∧ ids = []
  | .str, v, u, ids => ∃ s, v = .str s ∧ u = .str s ∧ ids = []
  | .sub fs, v, u, ids => ∃ xs, u = .sub xs ∧ ((∃ c, v = .sl c fs.length [] ∧ xs = [] ∧ ids = []) ∨
      ∃ id st clip cont r, v = .ref id st 0 cont.length clip ∧ h[id]? = some (blkOf fs st cont) ∧ ids = id :: r ∧ Zip3 (OwnR h fs) cont xs r)
def OwnR (h : Heap) : List Fd → List V → List U → List Nat → Prop
  | [], c, x, ids => c = [] ∧ x = [] ∧ ids = []
  | f :: fs, c, x, ids => ∃ v c' u x' i j, c = v :: c' ∧ x = u :: x' ∧ ids = i ++ j ∧ OwnF h f v u i ∧ OwnR h fs c' x' j
end
mutual
/-- A cell of a value. -/
def PurF : Fd → V → U → Prop
  | .int k, v, u => ∃ n, v = .int k n ∧ u = .int n
  | .bool, v, u => ∃ b, v = .bool b ∧ u = .bool b
  | .str, v, u => ∃ s, v = .str s ∧ u = .str s
  | .sub fs, v, u => ∃ c cont xs, v = .sl c fs.length cont ∧ u = .sub xs ∧ Zip2 (PurR fs) cont xs
def PurR : List Fd → List V → List U → Prop
  | [], c, x => c = [] ∧ x = []
  | f :: fs, c, x => ∃ v c' u x', c = v :: c' ∧ x = u :: x' ∧ PurF f v u ∧ PurR fs c' x'
end

theorem Zip3_len {α β : Type} {R : α → β → List Nat → Prop} : ∀ {ays : List α} {bs : List β} {ids : List Nat}, Zip3 R ays bs ids → ays.length = bs.length
  | [], [], _, _ => rfl
  | a :: ays, b :: bs, ids, ⟨i, j, _, _, h⟩ => by simp [Zip3_len h]
  | [], _ :: _, _, h => h.elim
  | _ :: _, [], _, h => h.elim
theorem Zip3_mono {α β : Type} {R S : α → β → List Nat → Prop} {P : Nat → Prop} (f : ∀ a b i, R a b i → (∀ id ∈ i, P id) → S a b i) : ∀ {ays : List α} {bs : List β} {ids : List Nat}, Zip3 R ays bs ids → (∀ id ∈ ids, P id) → Zip3 S ays bs ids
  | [], [], _, h, _ => h
  | a :: ays, b :: bs, _, ⟨i, j, e, h1, h2⟩, hp => ⟨i, j, e, f a b i h1 (fun id hid => hp id (e ▸ List.mem_append_left _ hid)), Zip3_mono f h2 (fun id hid => hp id (e ▸ List.mem_append_right _ hid))⟩
  | [], _ :: _, _, h, _ => h.elim
  | _ :: _, [], _, h, _ => h.elim
theorem Zip3_map {α β : Type} {R S : α → β → List Nat → Prop} {g : α → α} {m : Nat → Nat} (f : ∀ a b i, R a b i → S (g a) b (i.map m)) : ∀ {ays : List α} {bs : List β} {ids : List Nat}, Zip3 R ays bs ids → Zip3 S (ays.map g) bs (ids.map m)
  | [], [], _, h => by cases h; rfl
  | a :: ays, b :: bs, _, ⟨i, j, e, h1, h2⟩ => ⟨i.map m, j.map m, by rw [e, List.map_append], f a b i h1, Zip3_map f h2⟩
  | [], _ :: _, _, h => h.elim
  | _ :: _, [], _, h => h.elim
theorem Zip3_app {α β : Type} {R : α → β → List Nat → Prop} : ∀ {ays : List α} {bs : List β} {ids : List Nat} {a2 : List α} {b2 : List β} {i2 : List Nat}, Zip3 R ays bs ids → Zip3 R a2 b2 i2 → Zip3 R (ays ++ a2) (bs ++ b2) (ids ++ i2)
  | [], [], _, _, _, _, h, h2 => by cases h; exact h2
  | a :: ays, b :: bs, _, _, _, _, ⟨i, j, e, h1, h3⟩, h2 => ⟨i, j ++ _, by rw [e, List.append_assoc], h1, Zip3_app h3 h2⟩
  | [], _ :: _, _, _, _, _, h, _ => h.elim
  | _ :: _, [], _, _, _, _, h, _ => h.elim
theorem Zip3_one {α β : Type} {R : α → β → List Nat → Prop} {a : α} {b : β} {i : List Nat} (h : R a b i) : Zip3 R [a] [b] i := ⟨i, [], by simp, h, rfl⟩

/-! ### they stay where the blocks stay -/
mutual
theorem OwnF_frame {h h' : Heap} : ∀ (f : Fd) {v : V} {u : U} {ids : List Nat}, OwnF h f v u ids → (∀ id ∈ ids, h'[id]? = h[id]?) → OwnF h' f v u ids
  | .int k, _, _, _, ho, _ => by simpa only [OwnF] using ho
  | .bool, _, _, _, ho, _ => by simpa only [OwnF] using ho
  | .str, _, _, _, ho, _ => by simpa only [OwnF] using ho
  | .sub fs, v, u, ids, ho, hk => by
    simp only [OwnF] at ho ⊢
    obtain ⟨xs, e, ho | ⟨id, st, clip, cont, r, e1, e2, e3, ho⟩⟩ := ho
    · exact ⟨xs, e, .inl ho⟩
    · subst e3
      exact ⟨xs, e, .inr ⟨id, st, clip, cont, r, e1, (hk id List.mem_cons_self).trans e2, rfl, Zip3_mono (fun c x i hr hp => OwnR_frame fs hr hp) ho (fun i hi => hk i (List.mem_cons_of_mem _ hi))⟩⟩
theorem OwnR_frame {h h' : Heap} : ∀ (fs : List Fd) {c : List V} {x : List U} {ids : List Nat}, OwnR h fs c x ids → (∀ id ∈ ids, h'[id]? = h[id]?) → OwnR h' fs c x ids
  | [], _, _, _, ho, _ => by simpa only [OwnR] using ho
  | f :: fs, c, x, ids, ho, hk => by
    simp only [OwnR] at ho ⊢
    obtain ⟨v, c', u, x', i, j, e1, e2, e3, h1, h2⟩ := ho
    subst e3
    exact ⟨v, c', u, x', i, j, e1, e2, rfl, OwnF_frame f h1 (fun id hid => hk id (List.mem_append_left _ hid)), OwnR_frame fs h2 (fun id hid => hk id (List.mem_append_right _ hid))⟩
end
theorem Zip3_all {α β : Type} {R : α → β → List Nat → Prop} {P : Nat → Prop} (f : ∀ a b i, R a b i → ∀ id ∈ i, P id) : ∀ {ays : List α} {bs : List β} {ids : List Nat}, Zip3 R ays bs ids → ∀ id ∈ ids, P id
  | [], [], _, h => by cases h; intro _ hm; cases hm
  | a :: ays, b :: bs, _, ⟨i, j, e, h1, h2⟩ => by
    subst e
    intro id hm
    rcases List.mem_append.1 hm with hm | hm
    · exact f a b i h1 id hm
    · exact Zip3_all f h2 id hm
  | [], _ :: _, _, h => h.elim
  | _ :: _, [], _, h => h.elim
mutual
theorem OwnF_lt {h : Heap} : ∀ (f : Fd) {v : V} {u : U} {ids : List Nat}, OwnF h f v u ids → ∀ id ∈ ids, id < h.length
  | .int k, _, _, _, ho => by simp only [OwnF] at ho; obtain ⟨_, _, _, rfl⟩ := ho; intro _ hm; cases hm
  | .bool, _, _, _, ho => by simp only [OwnF] at ho; obtain ⟨_, _, _, rfl⟩ := ho; intro _ hm; cases hm
  | .str, _, _, _, ho => by simp only [OwnF] at ho; obtain ⟨_, _, _, rfl⟩ := ho; intro _ hm; cases hm
  | .sub fs, v, u, ids, ho => by
    simp only [OwnF] at ho
    obtain ⟨xs, e, ⟨_, _, _, rfl⟩ | ⟨id, st, clip, cont, r, e1, e2, rfl, ho⟩⟩ := ho
    · intro _ hm; cases hm
    · intro i hm
      rcases List.mem_cons.1 hm with rfl | hm
      · exact (List.getElem?_eq_some_iff.1 e2).1
      · exact Zip3_all (fun c x i hr => OwnR_lt fs hr) ho i hm
theorem OwnR_lt {h : Heap} : ∀ (fs : List Fd) {c : List V} {x : List U} {ids : List Nat}, OwnR h fs c x ids → ∀ id ∈ ids, id < h.length
  | [], _, _, _, ho => by simp only [OwnR] at ho; obtain ⟨_, _, rfl⟩ := ho; intro _ hm; cases hm
  | f :: fs, c, x, ids, ho => by
    simp only [OwnR] at ho
    obtain ⟨v, c', u, x', i, j, e1, e2, rfl, h1, h2⟩ := ho
    intro id hm
    rcases List.mem_append.1 hm with hm | hm
    · exact OwnF_lt f h1 id hm
    · exact OwnR_lt fs h2 id hm
end

/-! ### told ays values -/
def dep : Fd → Nat
  | .sub fs => depR fs + 1
  | _ => 0
where depR : List Fd → Nat
  | [] => 0
  | f :: fs => max (dep f) (depR fs)
theorem mapO_zip {α β γ' : Type} {R : α → β → List Nat → Prop} {S : γ' → β → Prop} {f : α → Option γ'} (hf : ∀ a b i, R a b i → ∃ c, f a = some c ∧ S c b) : ∀ {ays : List α} {bs : List β} {ids : List Nat}, Zip3 R ays bs ids → ∃ cs, mapO f ays = some cs ∧ Zip2 S cs bs
  | [], [], _, _ => ⟨[], rfl, trivial⟩
  | a :: ays, b :: bs, _, ⟨i, j, _, h1, h2⟩ => by
    obtain ⟨c, e1, s1⟩ := hf a b i h1
    obtain ⟨cs, e2, s2⟩ := mapO_zip hf h2
    exact ⟨c :: cs, by simp only [mapO, e1, e2], s1, s2⟩
  | [], _ :: _, _, h => h.elim
  | _ :: _, [], _, h => h.elim
theorem Zip3_to2 {α β : Type} {R : α → β → List Nat → Prop} {S : α → β → Prop} (f : ∀ a b i, R a b i → S a b) : ∀ {ays : List α} {bs : List β} {ids : List Nat}, Zip3 R ays bs ids → Zip2 S ays bs
  | [], [], _, _ => trivial
  | a :: ays, b :: bs, _, ⟨i, j, _, h1, h2⟩ => ⟨f a b i h1, Zip3_to2 f h2⟩
  | [], _ :: _, _, h => h.elim
  | _ :: _, [], _, h => h.elim
/-- Rows whose cells are no slices lie ays they are told. -/
theorem OwnR_flat {h : Heap} : ∀ (fs : List Fd) {c : List V} {x : List U} {ids : List Nat}, fs.any Fd.deep = false → OwnR h fs c x ids → PurR fs c x
  | [], _, _, _, _, ho => by simp only [OwnR] at ho; simp only [PurR]; exact ⟨ho.1, ho.2.1⟩
  | f :: fs, c, x, ids, hd, ho => by
    simp only [OwnR] at ho
    simp only [PurR]
    simp only [List.any_cons, Bool.or_eq_false_iff] at hd
    obtain ⟨v, c', u, x', i, j, e1, e2, e3, h1, h2⟩ := ho
    refine ⟨v, c', u, x', e1, e2, ?_, OwnR_flat fs hd.2 h2⟩
    cases f with
    | int k => simp only [OwnF] at h1; simp only [PurF]; obtain ⟨n, a, b, _⟩ := h1; exact ⟨n, a, b⟩
    | bool => simp only [OwnF] at h1; simp only [PurF]; obtain ⟨n, a, b, _⟩ := h1; exact ⟨n, a, b⟩
    | str => simp only [OwnF] at h1; simp only [PurF]; obtain ⟨n, a, b, _⟩ := h1; exact ⟨n, a, b⟩
    | sub gs => simp [Fd.deep] at hd
mutual
theorem OwnF_pure {h : Heap} : ∀ (f : Fd) (d : Nat) {v : V} {u : U} {ids : List Nat}, dep f ≤ d → OwnF h f v u ids → ∃ p, pureD h d v = some p ∧ PurF f p u
  | .int k, d, _, _, _, _, ho => by
    simp only [OwnF] at ho
    obtain ⟨n, rfl, rfl, _⟩ := ho
    exact ⟨.int k n, by cases d <;> rfl, by simp only [PurF]; exact ⟨n, rfl, rfl⟩⟩
  | .bool, d, _, _, _, _, ho => by
    simp only [OwnF] at ho
    obtain ⟨n, rfl, rfl, _⟩ := ho
    exact ⟨.bool n, by cases d <;> rfl, by simp only [PurF]; exact ⟨n, rfl, rfl⟩⟩
  | .str, d, _, _, _, _, ho => by
    simp only [OwnF] at ho
    obtain ⟨n, rfl, rfl, _⟩ := ho
    exact ⟨.str n, by cases d <;> rfl, by simp only [PurF]; exact ⟨n, rfl, rfl⟩⟩
  | .sub fs, d, v, u, ids, hd, ho => by
    simp only [OwnF] at ho
    obtain ⟨xs, rfl, ⟨c, rfl, rfl, _⟩ | ⟨id, st, clip, cont, r, rfl, e2, _, ho⟩⟩ := ho
    · exact ⟨.sl c fs.length [], by cases d <;> rfl, by simp only [PurF]; exact ⟨c, [], [], rfl, rfl, trivial⟩⟩
    · obtain ⟨d, rfl⟩ : ∃ m, d = m + 1 := ⟨d - 1, by simp only [dep] at hd; omega⟩
      have hd' : dep.depR fs ≤ d := by simp only [dep] at hd; omega
      cases hdeep : fs.any Fd.deep
      · refine ⟨.sl clip fs.length cont, ?_, ?_⟩
        · simp only [pureD, e2, blkOf, hdeep, Bool.false_eq_true, if_false, if_true, List.drop_zero, List.take_length]
        · simp only [PurF]
          exact ⟨clip, cont, xs, rfl, rfl, Zip3_to2 (fun c x i hr => OwnR_flat fs hdeep hr) ho⟩
      · obtain ⟨cs, m1, m2⟩ := mapO_zip (f := mapO (pureD h d)) (S := PurR fs) (fun c x i hr => OwnR_pure fs d hd' hr) ho
        refine ⟨.sl clip fs.length cs, ?_, ?_⟩
        · simp only [pureD, e2, blkOf, hdeep, if_true, List.drop_zero, List.take_length, m1, Option.map_some]
        · simp only [PurF]
          exact ⟨clip, cs, xs, rfl, rfl, m2⟩
theorem OwnR_pure {h : Heap} : ∀ (fs : List Fd) (d : Nat) {c : List V} {x : List U} {ids : List Nat}, dep.depR fs ≤ d → OwnR h fs c x ids → ∃ p, mapO (pureD h d) c = some p ∧ PurR fs p x
  | [], d, _, _, _, _, ho => by
    simp only [OwnR] at ho
    obtain ⟨rfl, rfl, _⟩ := ho
    exact ⟨[], rfl, by simp [PurR]⟩
  | f :: fs, d, c, x, ids, hd, ho => by
    simp only [OwnR] at ho
    simp only [dep.depR] at hd
    obtain ⟨v, c', u, x', i, j, rfl, rfl, _, h1, h2⟩ := ho
    obtain ⟨p, e1, p1⟩ := OwnF_pure f d (by omega) h1
    obtain ⟨q, e2, q1⟩ := OwnR_pure fs d (by omega) h2
    exact ⟨p :: q, by simp only [mapO, e1, e2], by simp only [PurR]; exact ⟨p, q, u, x', rfl, rfl, p1, q1⟩⟩
end

/-! ### handed over by a call -/
theorem Zip3_fresh {α β : Type} {R : α → β → List Nat → Prop} {P : α → Bool} (f : ∀ a b i, R a b i → P a = true) : ∀ {ays : List α} {bs : List β} {ids : List Nat}, Zip3 R ays bs ids → ays.all P = true
  | [], [], _, _ => rfl
  | a :: ays, b :: bs, _, ⟨i, j, _, h1, h2⟩ => by rw [List.all_cons, f a b i h1, Zip3_fresh f h2]; rfl
  | [], _ :: _, _, h => h.elim
  | _ :: _, [], _, h => h.elim
theorem OwnF_fresh {h : Heap} (f : Fd) {v : V} {u : U} {ids : List Nat} (ho : OwnF h f v u ids) : freshC v = true := by
  cases f with
  | int k => simp only [OwnF] at ho; obtain ⟨_, rfl, _⟩ := ho; rfl
  | bool => simp only [OwnF] at ho; obtain ⟨_, rfl, _⟩ := ho; rfl
  | str => simp only [OwnF] at ho; obtain ⟨_, rfl, _⟩ := ho; rfl
  | sub fs =>
    simp only [OwnF] at ho
    obtain ⟨xs, _, ⟨c, rfl, _⟩ | ⟨id, st, clip, cont, r, rfl, _⟩⟩ := ho <;> rfl
theorem OwnR_fresh {h : Heap} : ∀ (fs : List Fd) {c : List V} {x : List U} {ids : List Nat}, OwnR h fs c x ids → c.all freshC = true
  | [], _, _, _, ho => by simp only [OwnR] at ho; rw [ho.1]; rfl
  | f :: fs, c, x, ids, ho => by
    simp only [OwnR] at ho
    obtain ⟨v, c', u, x', i, j, rfl, _, _, h1, h2⟩ := ho
    rw [List.all_cons, OwnF_fresh f h1, OwnR_fresh fs h2]
    rfl
theorem moved_get {h hc : Heap} {id : Nat} {b : Blk} (hb : hc[id]? = some b) : (h ++ movedH h.length hc)[id + h.length]? = some (shB h.length (clean b)) := by
  rw [List.getElem?_append_right (by omega), Nat.add_sub_cancel]
  simp [movedH, hb]
mutual
theorem OwnF_moved {h hc : Heap} : ∀ (f : Fd) {v : V} {u : U} {ids : List Nat}, OwnF hc f v u ids → OwnF (h ++ movedH h.length hc) f (shC h.length v) u (ids.map (· + h.length))
  | .int k, _, _, _, ho => by simp only [OwnF] at ho ⊢; obtain ⟨n, rfl, rfl, rfl⟩ := ho; exact ⟨n, rfl, rfl, rfl⟩
  | .bool, _, _, _, ho => by simp only [OwnF] at ho ⊢; obtain ⟨n, rfl, rfl, rfl⟩ := ho; exact ⟨n, rfl, rfl, rfl⟩
  | .str, _, _, _, ho => by simp only [OwnF] at ho ⊢; obtain ⟨n, rfl, rfl, rfl⟩ := ho; exact ⟨n, rfl, rfl, rfl⟩
  | .sub fs, v, u, ids, ho => by
    simp only [OwnF] at ho ⊢
    obtain ⟨xs, e, ⟨c, rfl, e1, rfl⟩ | ⟨id, st, clip, cont, r, rfl, e2, rfl, ho⟩⟩ := ho
    · exact ⟨xs, e, .inl ⟨c, rfl, e1, rfl⟩⟩
    · have hz := Zip3_map (S := OwnR (h ++ movedH h.length hc) fs) (g := fun x => x.map (shC h.length)) (m := (· + h.length)) (fun c x i hr => OwnR_moved fs hr) ho
      have hf : cont.all (fun x => x.all freshC) = true := Zip3_fresh (fun c x i hr => OwnR_fresh fs hr) ho
      have hg := moved_get (h := h) e2
      refine ⟨xs, e, .inr ⟨id + h.length, st, clip, cont.map (fun x => x.map (shC h.length)), r.map (· + h.length), by rw [List.length_map]; rfl, ?_, rfl, hz⟩⟩
      rw [hg]
      unfold blkOf
      cases hdeep : fs.any Fd.deep
      · have hid : cont.map (fun x => x.map (shC h.length)) = cont := by
          have := Zip3_to2 (S := fun (c : List V) (_ : List U) => c.map (shC h.length) = c) (fun c x i hr => OwnR_shift fs h.length hdeep hr) ho
          clear hz hf hg e2 ho
          revert this
          generalize xs = ys
          intro hz
          induction cont generalizing ys with
          | nil => rfl
          | cons a ays ih =>
            cases ys with
            | nil => exact hz.elim
            | cons b bs => rw [List.map_cons, hz.1, ih bs hz.2]
        simp only [Bool.false_eq_true, if_false, clean, hf, if_true, shB, hid]
      · simp only [if_true, clean, hf, shB]
theorem OwnR_moved {h hc : Heap} : ∀ (fs : List Fd) {c : List V} {x : List U} {ids : List Nat}, OwnR hc fs c x ids → OwnR (h ++ movedH h.length hc) fs (c.map (shC h.length)) x (ids.map (· + h.length))
  | [], _, _, _, ho => by simp only [OwnR] at ho ⊢; obtain ⟨rfl, rfl, rfl⟩ := ho; exact ⟨rfl, rfl, rfl⟩
  | f :: fs, c, x, ids, ho => by
    simp only [OwnR] at ho ⊢
    obtain ⟨v, c', u, x', i, j, rfl, rfl, rfl, h1, h2⟩ := ho
    exact ⟨shC h.length v, c'.map (shC h.length), u, x', i.map (· + h.length), j.map (· + h.length), rfl, rfl, by rw [List.map_append], OwnF_moved f h1, OwnR_moved fs h2⟩
theorem OwnR_shift {h : Heap} : ∀ (fs : List Fd) (n : Nat) {c : List V} {x : List U} {ids : List Nat}, fs.any Fd.deep = false → OwnR h fs c x ids → c.map (shC n) = c
  | [], _, _, _, _, _, ho => by simp only [OwnR] at ho; rw [ho.1]; rfl
  | f :: fs, n, c, x, ids, hd, ho => by
    simp only [OwnR] at ho
    simp only [List.any_cons, Bool.or_eq_false_iff] at hd
    obtain ⟨v, c', u, x', i, j, rfl, rfl, rfl, h1, h2⟩ := ho
    rw [List.map_cons, OwnR_shift fs n hd.2 h2]
    cases f with
    | int k => simp only [OwnF] at h1; obtain ⟨_, rfl, _⟩ := h1; rfl
    | bool => simp only [OwnF] at h1; obtain ⟨_, rfl, _⟩ := h1; rfl
    | str => simp only [OwnF] at h1; obtain ⟨_, rfl, _⟩ := h1; rfl
    | sub gs => simp [Fd.deep] at hd
end
end Go.Proofs.Ytfbjbkkcilhgjaa.PE
/- What the functions of an exact statement do with such trees: sizes, copies, comparisons, marks; their loops. -/
set_option linter.unusedVariables false
set_option linter.unusedSimpArgs false
namespace Go.Proofs.Ytfbjbkkcilhgjaa.PE
open Go.RowKit

/-! ### loops by what holds at their head -/
section
variable {run : Run} {draw : Draw} {live out : List Nat} {c : C} {n0 : Nat}
theorem LoopK_inv {σ : Type} (n : Nat) (Inv : Nat → σ → Prop) (E : Nat → σ → Env) (H : σ → Heap) (fin : σ → Out)
    (h0 : ∀ b K, Inv n b → LoopK run draw live out c K (E n b) (H b) = fin b)
    (h1 : ∀ (i : Nat) b K, i < n → Inv i b → ∃ b', Inv (i + 1) b' ∧ LoopK run draw live out c (K + 1) (E i b) (H b) = LoopK run draw live out c K (E (i + 1) b') (H b'))
    (K : Nat) (hK : n ≤ K) (b : σ) (hb : Inv 0 b) : ∃ b', Inv n b' ∧ LoopK run draw live out c K (E 0 b) (H b) = fin b' := by
  have key : ∀ (m i K : Nat) b, i + m = n → m ≤ K → Inv i b → ∃ b', Inv n b' ∧ LoopK run draw live out c K (E i b) (H b) = fin b' := by
    intro m
    induction m with
    | zero => intro i K b hi _ hb; have : i = n := by omega
              subst this; exact ⟨b, hb, h0 b K hb⟩
    | succ m ih =>
      intro i K b hi hK hb
      obtain ⟨K, rfl⟩ : ∃ K', K = K' + 1 := ⟨K - 1, by omega⟩
      obtain ⟨b', hb', e⟩ := h1 i b K (by omega) hb
      obtain ⟨b2, hb2, e2⟩ := ih (i + 1) K b' (by omega) (by omega) hb'
      exact ⟨b2, hb2, e.trans e2⟩
  exact key n 0 K b (by omega) hK hb
theorem LoopS_inv {σ : Type} (n : Nat) (Inv : Nat → σ → Prop) (E : Nat → σ → Env) (H : σ → Heap) (fin : σ → Out)
    (h0 : ∀ b K, Inv n b → LoopS run draw live out c n0 K (E n b) (H b) = fin b)
    (h1 : ∀ (i : Nat) b K, i < n → Inv i b → ∃ b', Inv (i + 1) b' ∧ LoopS run draw live out c n0 (K + 1) (E i b) (H b) = LoopS run draw live out c n0 K (E (i + 1) b') (H b'))
    (K : Nat) (hK : n ≤ K) (b : σ) (hb : Inv 0 b) : ∃ b', Inv n b' ∧ LoopS run draw live out c n0 K (E 0 b) (H b) = fin b' := by
  have key : ∀ (m i K : Nat) b, i + m = n → m ≤ K → Inv i b → ∃ b', Inv n b' ∧ LoopS run draw live out c n0 K (E i b) (H b) = fin b' := by
    intro m
    induction m with
    | zero => intro i K b hi _ hb; have : i = n := by omega
              subst this; exact ⟨b, hb, h0 b K hb⟩
    | succ m ih =>
      intro i K b hi hK hb
      obtain ⟨K, rfl⟩ : ∃ K', K = K' + 1 := ⟨K - 1, by omega⟩
      obtain ⟨b', hb', e⟩ := h1 i b K (by omega) hb
      obtain ⟨b2, hb2, e2⟩ := ih (i + 1) K b' (by omega) (by omega) hb'
      exact ⟨b2, hb2, e.trans e2⟩
  exact key n 0 K b (by omega) hK hb
end

/-! ### sizes -/
def szZ (R : List U → Int → Int) : List (List U) → Int → Int
  | [], l => l
  | x :: xs, l => if R x l < 0 then -1 else szZ R xs (R x l)
mutual
def szF : Fd → U → Int → Int
  | .str, .str s, l => if l - s.size < 0 then -1 else l - s.size
  | .sub fs, .sub xs, l => if l - xs.length < 0 then -1 else szZ (szR fs) xs (l - xs.length)
  | _, _, l => l
def szR : List Fd → List U → Int → Int
  | f :: fs, u :: x, l => if szF f u l < 0 then -1 else szR fs x (szF f u l)
  | _, _, l => l
end
def AllU (P : List U → Prop) : List (List U) → Prop
  | [] => True
  | x :: xs => P x ∧ AllU P xs
mutual
def LenF (n m : Nat) : Fd → U → Prop
  | .str, .str s => s.size ≤ m
  | .sub fs, .sub xs => xs.length ≤ n ∧ AllU (LenR n m fs) xs
  | _, _ => True
def LenR (n m : Nat) : List Fd → List U → Prop
  | f :: fs, u :: x => LenF n m f u ∧ LenR n m fs x
  | _, _ => True
end
/-- How many numbers are in it. -/
def sumU (c : List U → Nat) : List (List U) → Nat
  | [] => 0
  | x :: xs => c x + sumU c xs
mutual
def cntF : Fd → U → Nat
  | .sub fs, .sub xs => sumU (cntR fs) xs
  | _, _ => 1
def cntR : List Fd → List U → Nat
  | f :: fs, u :: x => cntF f u + cntR fs x
  | _, _ => 0
end
theorem AllU_mono {P Q : List U → Prop} (f : ∀ x, P x → Q x) : ∀ {xs : List (List U)}, AllU P xs → AllU Q xs
  | [], _ => trivial
  | x :: xs, ⟨h1, h2⟩ => ⟨f x h1, AllU_mono f h2⟩
mutual
theorem LenF_mono {n m n' m' : Nat} (hn : n ≤ n') (hm : m ≤ m') : ∀ (f : Fd) {u : U}, LenF n m f u → LenF n' m' f u
  | .str, .str s, h => by simp only [LenF] at h ⊢; omega
  | .sub fs, .sub xs, h => by simp only [LenF] at h ⊢; exact ⟨by omega, AllU_mono (fun x hx => LenR_mono hn hm fs hx) h.2⟩
  | .int _, _, _ => by simp [LenF]
  | .bool, _, _ => by simp [LenF]
  | .str, .int _, _ => by simp [LenF]
  | .str, .bool _, _ => by simp [LenF]
  | .str, .sub _, _ => by simp [LenF]
  | .sub _, .int _, _ => by simp [LenF]
  | .sub _, .bool _, _ => by simp [LenF]
  | .sub _, .str _, _ => by simp [LenF]
theorem LenR_mono {n m n' m' : Nat} (hn : n ≤ n') (hm : m ≤ m') : ∀ (fs : List Fd) {x : List U}, LenR n m fs x → LenR n' m' fs x
  | f :: fs, u :: x, h => by simp only [LenR] at h ⊢; exact ⟨LenF_mono hn hm f h.1, LenR_mono hn hm fs h.2⟩
  | [], _, _ => by simp [LenR]
  | _ :: _, [], _ => by simp [LenR]
end
theorem szZ_spec {N : Nat} {R : List U → Int → Int} {P : List U → Prop} {c : List U → Nat} (hR : ∀ x (l : Int), l ≤ N → 0 ≤ R x l → 0 ≤ l → R x l ≤ l ∧ P x ∧ (c x : Int) ≤ 16 * (l - R x l) + 16) : ∀ (xs : List (List U)) (l : Int), l ≤ N → 0 ≤ szZ R xs l → 0 ≤ l →
    szZ R xs l ≤ l ∧ AllU P xs ∧ (sumU c xs : Int) ≤ 16 * (l - szZ R xs l) + 16 * xs.length
  | [], l, _, _, _ => by simp [szZ, AllU, sumU]
  | x :: xs, l, hl, h, h0 => by
    simp only [szZ] at h ⊢
    by_cases hx : R x l < 0
    · rw [if_pos hx] at h; omega
    · rw [if_neg hx] at h ⊢
      obtain ⟨a1, a2, a3⟩ := hR x l hl (by omega) h0
      obtain ⟨b1, b2, b3⟩ := szZ_spec hR xs (R x l) (by omega) h (by omega)
      refine ⟨by omega, ⟨a2, b2⟩, ?_⟩
      simp only [sumU, List.length_cons]
      push_cast
      omega
mutual
def okFd : Fd → Bool
  | .sub fs => decide (fs.length ≤ 16) && okFds fs
  | _ => true
def okFds : List Fd → Bool
  | [] => true
  | f :: fs => okFd f && okFds fs
end
mutual
theorem szF_spec {N : Nat} : ∀ (f : Fd) (u : U) (l : Int), okFd f = true → l ≤ N → 0 ≤ szF f u l → 0 ≤ l → szF f u l ≤ l ∧ LenF N N f u ∧ (cntF f u : Int) ≤ 16 * (l - szF f u l) + 1
  | .str, .str s, l, _, hl, h, h0 => by
    simp only [szF, LenF, cntF] at h ⊢
    split at h
    · omega
    · rename_i hc; rw [if_neg hc]; omega
  | .sub fs, .sub xs, l, hk, hl, h, h0 => by
    simp only [szF, LenF, cntF] at h ⊢
    simp only [okFd, Bool.and_eq_true, decide_eq_true_eq] at hk
    split at h
    · omega
    · rename_i hc
      rw [if_neg hc]
      obtain ⟨b1, b2, b3⟩ := szZ_spec (N := N) (R := szR fs) (P := LenR N N fs) (c := cntR fs) (fun x l hl h h0 => by
        obtain ⟨c1, c2, c3⟩ := szR_spec (N := N) fs x l hk.2 hl h h0
        exact ⟨c1, c2, by omega⟩) xs (l - xs.length) (by omega) h (by omega)
      exact ⟨by omega, ⟨by omega, b2⟩, by omega⟩
  | .int _, _, l, _, _, h, h0 => by simp [szF, LenF, cntF]
  | .bool, _, l, _, _, h, h0 => by simp [szF, LenF, cntF]
  | .str, .int _, l, _, _, h, h0 => by simp [szF, LenF, cntF]
  | .str, .bool _, l, _, _, h, h0 => by simp [szF, LenF, cntF]
  | .str, .sub _, l, _, _, h, h0 => by simp [szF, LenF, cntF]
  | .sub _, .int _, l, _, _, h, h0 => by simp [szF, LenF, cntF]
  | .sub _, .bool _, l, _, _, h, h0 => by simp [szF, LenF, cntF]
  | .sub _, .str _, l, _, _, h, h0 => by simp [szF, LenF, cntF]
theorem szR_spec {N : Nat} : ∀ (fs : List Fd) (x : List U) (l : Int), okFds fs = true → l ≤ N → 0 ≤ szR fs x l → 0 ≤ l → szR fs x l ≤ l ∧ LenR N N fs x ∧ (cntR fs x : Int) ≤ 16 * (l - szR fs x l) + fs.length
  | f :: fs, u :: x, l, hk, hl, h, h0 => by
    simp only [szR, LenR, cntR] at h ⊢
    simp only [okFds, Bool.and_eq_true] at hk
    split at h
    · omega
    · rename_i hc
      rw [if_neg hc]
      obtain ⟨a1, a2, a3⟩ := szF_spec (N := N) f u l hk.1 hl (by omega) h0
      obtain ⟨b1, b2, b3⟩ := szR_spec (N := N) fs x (szF f u l) hk.2 (by omega) h (by omega)
      refine ⟨by omega, ⟨a2, b2⟩, ?_⟩
      simp only [List.length_cons]
      push_cast
      omega
  | [], _, l, _, _, h, h0 => by simp [szR, LenR, cntR]
  | _ :: _, [], l, _, _, h, h0 => by simp [szR, LenR, cntR]; omega
end
/-! ### marks -/
/-- The digits of a number, ahead of others. -/
def digs : Nat → Nat → ByteArray → ByteArray
  | 0, _, s => s
  | f + 1, n, s => if n = 0 then s else digs f (n / 10) (⟨#[UInt8.ofNat (48 + n % 10)]⟩ ++ s)
def txt (k : Int) : ByteArray := if k ≤ 0 then ⟨#[109, 48]⟩ else ⟨#[109]⟩ ++ digs 20 k.toNat ⟨#[]⟩
def HeldZ (R : List U → Int → Int → Prop) : List (List U) → Int → Int → Prop
  | [], k, k' => k' = k
  | x :: xs, k, k' => ∃ m, R x k m ∧ HeldZ R xs m k'
mutual
def HeldF : Fd → U → Int → Int → Prop
  | .int kk, u, k, k' => u = .int (kk.wrap k) ∧ k' = k + 1
  | .bool, u, k, k' => u = .bool (decide (k.tmod 3 = 0)) ∧ k' = k + 1
  | .str, u, k, k' => u = .str (txt k) ∧ k' = k + 1
  | .sub fs, u, k, k' => ∃ xs, u = .sub xs ∧ HeldZ (HeldR fs) xs k k'
def HeldR : List Fd → List U → Int → Int → Prop
  | [], x, k, k' => x = [] ∧ k' = k
  | f :: fs, x, k, k' => ∃ u x' m, x = u :: x' ∧ HeldF f u k m ∧ HeldR fs x' m k'
end
theorem HeldZ_le {R : List U → Int → Int → Prop} (hR : ∀ x k k', R x k k' → k ≤ k') : ∀ {xs : List (List U)} {k k' : Int}, HeldZ R xs k k' → k ≤ k'
  | [], k, k', h => by simp only [HeldZ] at h; omega
  | x :: xs, k, k', ⟨m, h1, h2⟩ => by have := hR x k m h1; have := HeldZ_le hR h2; omega
mutual
theorem HeldF_le : ∀ (f : Fd) {u : U} {k k' : Int}, HeldF f u k k' → k ≤ k'
  | .int kk, _, _, _, h => by simp only [HeldF] at h; omega
  | .bool, _, _, _, h => by simp only [HeldF] at h; omega
  | .str, _, _, _, h => by simp only [HeldF] at h; omega
  | .sub fs, _, _, _, h => by
    simp only [HeldF] at h
    obtain ⟨xs, _, h⟩ := h
    exact HeldZ_le (fun x k k' => HeldR_le fs) h
theorem HeldR_le : ∀ (fs : List Fd) {x : List U} {k k' : Int}, HeldR fs x k k' → k ≤ k'
  | [], _, _, _, h => by simp only [HeldR] at h; omega
  | f :: fs, _, _, _, h => by
    simp only [HeldR] at h
    obtain ⟨u, x', m, _, h1, h2⟩ := h
    have := HeldF_le f h1
    have := HeldR_le fs h2
    omega
end
end Go.Proofs.Ytfbjbkkcilhgjaa.PE
/- The loops of copies, comparisons, sizes and marks, by what one round does. -/
set_option linter.unusedVariables false
set_option linter.unusedSimpArgs false
namespace Go.Proofs.Ytfbjbkkcilhgjaa.PE
open Go.RowKit

def big : Nat := 1099511627775
section
variable {run : Run} {draw : Draw} {c : C} {n0 : Nat}
theorem take_snoc {α : Type} {l : List α} {i : Nat} {x : α} (hx : l[i]? = some x) : l.take (i + 1) = l.take i ++ [x] := by
  rw [List.take_add_one, hx]; rfl
end
end Go.Proofs.Ytfbjbkkcilhgjaa.PE
/- What the functions of exact statements promise; the text of a mark. -/
set_option linter.unusedVariables false
set_option linter.unusedSimpArgs false
set_option maxHeartbeats 4000000
namespace Go.Proofs.Ytfbjbkkcilhgjaa.PE
open Go.RowKit

/-! ### copies -/
def ToOK (d f : Nat) (fs : List Fd) : Prop := ∀ {p : V} {xs : List (List U)}, PurF (.sub fs) p (.sub xs) → xs.length ≤ 1048576 → AllU (LenR 1048576 1048576 fs) xs → ∃ v hc ids, runD tab noExt d f [p] [] = some ([v], hc) ∧ OwnF hc (.sub fs) v (.sub xs) ids ∧ ids.Nodup

theorem own_cases {h : Heap} {fs : List Fd} {v : V} {u : U} {ids : List Nat} (ho : OwnF h (.sub fs) v u ids) : (∃ c, v = .sl c fs.length []) ∨ ∃ id st n clip, v = .ref id st 0 n clip := by
  simp only [OwnF] at ho
  obtain ⟨xs, _, ⟨c, e, _⟩ | ⟨id, st, clip, cont, r, e, _⟩⟩ := ho
  · exact .inl ⟨c, e⟩
  · exact .inr ⟨id, st, _, clip, e⟩
theorem own_call {run : Run} {h : Heap} {f : Nat} {args args' : List V} {v : V} {hc : Heap} {fs : List Fd} {u : U} {ids : List Nat} (hp : pureDAs h args = some args') (hr : run f args' [] = some ([v], hc)) (ho : OwnF hc (.sub fs) v u ids) (hn : ids.Nodup) :
    ∃ v' h' ids', callX run h 0 f args = some (v', h') ∧ OwnF h' (.sub fs) v' u ids' ∧ ids'.Nodup ∧ (∀ j ∈ ids', h.length ≤ j) ∧ (∀ j, j < h.length → h'[j]? = h[j]?) ∧ h.length ≤ h'.length := by
  have hs : [v].all scalarA = false := by
    rcases own_cases ho with ⟨c, rfl⟩ | ⟨id, st, n, clip, rfl⟩ <;> rfl
  have hf : [v].all freshA = true := by
    rcases own_cases ho with ⟨c, rfl⟩ | ⟨id, st, n, clip, rfl⟩ <;> rfl
  have ha : shA h.length v = shC h.length v := by
    rcases own_cases ho with ⟨c, rfl⟩ | ⟨id, st, n, clip, rfl⟩ <;> rfl
  refine ⟨shC h.length v, h ++ movedH h.length hc, ids.map (· + h.length), ?_, OwnF_moved _ ho, ?_, fun j hj => ?_, fun j hj => by rw [List.getElem?_append_left hj], by simp⟩
  · simp only [callX, callO, hp, hr, BackO, hs, hf, Bool.false_eq_true, if_false, if_true, List.map_cons, List.map_nil, oneOf, ha]
  · exact (List.pairwise_map.2 (List.Pairwise.imp (fun {a b} hab => by simp only [ne_eq] at hab ⊢; omega) hn))
  · obtain ⟨i, _, rfl⟩ := List.mem_map.1 hj
    omega
def EqOK (d f : Nat) (fs : List Fd) : Prop := ∀ {p q : V} {xs : List (List U)}, PurF (.sub fs) p (.sub xs) → PurF (.sub fs) q (.sub xs) → LenF big big (.sub fs) (.sub xs) → retP (runD tab noExt d) f [p, q] = some [.bool true]

def HeldOK (d f : Nat) (fs : List Fd) : Prop := ∀ {p : V} {xs : List (List U)} {k k' : Int}, PurF (.sub fs) p (.sub xs) → HeldF (.sub fs) (.sub xs) k k' → 0 ≤ k → k' ≤ 4611686018427387904 → LenF big big (.sub fs) (.sub xs) → retP (runD tab noExt d) f [p, .int .i64 k] = some [.int .i64 k']

def MarkOK (d f : Nat) (fs : List Fd) : Prop := ∀ {h : Heap} {v : V} {xs : List (List U)} {ids : List Nat} {k : Int}, OwnF h (.sub fs) v (.sub xs) ids → ids.Nodup → LenF big big (.sub fs) (.sub xs) → 0 ≤ k → k + cntF (.sub fs) (.sub xs) ≤ 4611686018427387904 →
  ∃ h' ys, callX (runD tab noExt d) h 2 f [v, .int .i64 k] = some (.int .i64 (k + cntF (.sub fs) (.sub xs)), h') ∧ OwnF h' (.sub fs) v (.sub ys) ids ∧ HeldF (.sub fs) (.sub ys) k (k + cntF (.sub fs) (.sub xs)) ∧ LenF big big (.sub fs) (.sub ys) ∧ (∀ j, j ∉ ids → h'[j]? = h[j]?) ∧ h'.length = h.length

end Go.Proofs.Ytfbjbkkcilhgjaa.PE
/- What sizes, copies, comparisons and marks do, type by type. -/
set_option linter.unusedVariables false
set_option linter.unusedSimpArgs false
set_option maxHeartbeats 4000000
namespace Go.Proofs.Ytfbjbkkcilhgjaa.PE
open Go.RowKit

/-! ### Int -/
def fdInt : List Fd := [.int .i64]
/-! ### Column -/
def fdColumn : List Fd := [.int .i64, .bool]
/-! ### Value -/
def fdValue : List Fd := [.int .i64, .int .i64, .str]
theorem purR_Value {c : List V} {x : List U} (h : PurR fdValue c x) : ∃ (a0 : Int) (a1 : Int) (a2 : ByteArray), c = [.int .i64 a0, .int .i64 a1, .str a2] ∧ x = [.int a0, .int a1, .str a2] := by
  simp only [fdValue, PurR] at h
  obtain ⟨v0, _, u0, _, rfl, rfl, g0, v1, _, u1, _, rfl, rfl, g1, v2, _, u2, _, rfl, rfl, g2, rfl, rfl⟩ := h
  simp only [PurF] at g0
  obtain ⟨a0, rfl, rfl⟩ := g0
  simp only [PurF] at g1
  obtain ⟨a1, rfl, rfl⟩ := g1
  simp only [PurF] at g2
  obtain ⟨a2, rfl, rfl⟩ := g2
  exact ⟨a0, a1, a2, rfl, rfl⟩
theorem purS_Value {p : V} {xs : List (List U)} (hp : PurF (.sub fdValue) p (.sub xs)) : ∃ cl cont, p = .sl cl 3 cont ∧ Zip2 (PurR fdValue) cont xs := by
  simp only [PurF] at hp
  obtain ⟨cl, cont, xs', rfl, e, hz⟩ := hp
  injection e with e
  subst e
  exact ⟨cl, cont, rfl, hz⟩
theorem ownR_mk_Value (h : Heap) (a0 : Int) (a1 : Int) (a2 : ByteArray) : OwnR h fdValue [.int .i64 a0, .int .i64 a1, .str a2] [.int a0, .int a1, .str a2] [] := by
  simp only [fdValue, OwnR]
  exact ⟨_, _, _, _, [], [], rfl, rfl, (by simp), (by simp only [OwnF]; first | exact ⟨a0, rfl, rfl, rfl⟩ | exact ⟨a0, rfl, rfl, trivial⟩ | exact ⟨a0, rfl, rfl⟩ | exact ⟨a0, rfl⟩ | trivial), _, _, _, _, [], [], rfl, rfl, (by simp), (by simp only [OwnF]; first | exact ⟨a1, rfl, rfl, rfl⟩ | exact ⟨a1, rfl, rfl, trivial⟩ | exact ⟨a1, rfl, rfl⟩ | exact ⟨a1, rfl⟩ | trivial), _, _, _, _, [], [], rfl, rfl, (by simp), (by simp only [OwnF]; first | exact ⟨a2, rfl, rfl, rfl⟩ | exact ⟨a2, rfl, rfl, trivial⟩ | exact ⟨a2, rfl, rfl⟩ | exact ⟨a2, rfl⟩ | trivial), rfl, rfl, rfl⟩
/-! ### ValueS -/
def fdValueS : List Fd := [.sub fdValue]
/-! ### Version -/
def fdVersion : List Fd := [.int .i64, .int .i64, .int .i64, .sub fdValue]
theorem purR_Version {c : List V} {x : List U} (h : PurR fdVersion c x) : ∃ (a0 : Int) (a1 : Int) (a2 : Int) (p3 : V) (y3 : List (List U)), c = [.int .i64 a0, .int .i64 a1, .int .i64 a2, p3] ∧ x = [.int a0, .int a1, .int a2, .sub y3] ∧ PurF (.sub fdValue) p3 (.sub y3) := by
  simp only [fdVersion, PurR] at h
  obtain ⟨v0, _, u0, _, rfl, rfl, g0, v1, _, u1, _, rfl, rfl, g1, v2, _, u2, _, rfl, rfl, g2, v3, _, u3, _, rfl, rfl, g3, rfl, rfl⟩ := h
  simp only [PurF] at g0
  obtain ⟨a0, rfl, rfl⟩ := g0
  simp only [PurF] at g1
  obtain ⟨a1, rfl, rfl⟩ := g1
  simp only [PurF] at g2
  obtain ⟨a2, rfl, rfl⟩ := g2
  have g3' := g3
  simp only [PurF] at g3'
  obtain ⟨_, _, y3, _, rfl, _⟩ := g3'
  exact ⟨a0, a1, a2, v3, y3, rfl, rfl, g3⟩
theorem purS_Version {p : V} {xs : List (List U)} (hp : PurF (.sub fdVersion) p (.sub xs)) : ∃ cl cont, p = .sl cl 4 cont ∧ Zip2 (PurR fdVersion) cont xs := by
  simp only [PurF] at hp
  obtain ⟨cl, cont, xs', rfl, e, hz⟩ := hp
  injection e with e
  subst e
  exact ⟨cl, cont, rfl, hz⟩
theorem ownR_mk_Version {h : Heap} {a0 : Int} {a1 : Int} {a2 : Int} {p3 : V} {y3 : List (List U)} {i3 : List Nat} (g3 : OwnF h (.sub fdValue) p3 (.sub y3) i3) : OwnR h fdVersion [.int .i64 a0, .int .i64 a1, .int .i64 a2, p3] [.int a0, .int a1, .int a2, .sub y3] (i3) := by
  simp only [fdVersion, OwnR]
  exact ⟨_, _, _, _, [], i3, rfl, rfl, (by simp), (by simp only [OwnF]; first | exact ⟨a0, rfl, rfl, rfl⟩ | exact ⟨a0, rfl, rfl, trivial⟩ | exact ⟨a0, rfl, rfl⟩ | exact ⟨a0, rfl⟩ | trivial), _, _, _, _, [], i3, rfl, rfl, (by simp), (by simp only [OwnF]; first | exact ⟨a1, rfl, rfl, rfl⟩ | exact ⟨a1, rfl, rfl, trivial⟩ | exact ⟨a1, rfl, rfl⟩ | exact ⟨a1, rfl⟩ | trivial), _, _, _, _, [], i3, rfl, rfl, (by simp), (by simp only [OwnF]; first | exact ⟨a2, rfl, rfl, rfl⟩ | exact ⟨a2, rfl, rfl, trivial⟩ | exact ⟨a2, rfl, rfl⟩ | exact ⟨a2, rfl⟩ | trivial), _, _, _, _, i3, [], rfl, rfl, (by simp), g3, rfl, rfl, rfl⟩
/-! ### Table -/
def fdTable : List Fd := [.sub fdColumn, .sub fdValueS]
/-! ### Tally -/
def fdTally : List Fd := [.sub fdValue, .int .i64, .int .i64, .int .i64]
end Go.Proofs.Ytfbjbkkcilhgjaa.PE
/- Steps of an exact statement. -/
set_option linter.unusedVariables false
set_option linter.unusedSimpArgs false
namespace Go.Proofs.Ytfbjbkkcilhgjaa.PE
open Go.RowKit

end Go.Proofs.Ytfbjbkkcilhgjaa.PE
/- Values of the tables: what the small functions come to. -/
set_option linter.unusedSimpArgs false
namespace Go.Proofs.Ytfbjbkkcilhgjaa.PE
open Go.RowKit

/-- A value. -/
structure Val where
  kind : Int
  n : Int
  s : ByteArray
  deriving DecidableEq

def Val.cells (v : Val) : List V := [.int .i64 v.kind, .int .i64 v.n, .str v.s]
def Val.enc (v : Val) : V := .agg [.int .i64 v.kind, .int .i64 v.n, .str v.s]

def letterB (b : UInt8) : Bool := decide (97 ≤ (b.toNat : Int) ∧ (b.toNat : Int) ≤ 122)
def lettersB (s : ByteArray) : Bool := s.data.toList.all letterB

/-- Is a value one? -/
def Val.ok (v : Val) : Bool :=
  if v.kind = 0 then decide (v.n = 0) && decide (v.s = ⟨#[]⟩)
  else if v.kind = 1 then decide (v.s = ⟨#[]⟩) && (decide (-9999 ≤ v.n) && decide (v.n ≤ 9999))
  else if v.kind = 2 then decide (v.n = 0) && decide ((v.s.size : Int) ≤ 6) && lettersB v.s
  else if v.kind = 3 then decide (v.s = ⟨#[]⟩) && (decide (0 ≤ v.n) && decide (v.n ≤ 1))
  else false

theorem run_between (d : Nat) (n lo hi : Int) : retP (runD tab noExt (d + 1)) 79 [.int .i64 n, .int .i64 lo, .int .i64 hi] = some [.bool (decide (lo ≤ n ∧ n ≤ hi))] := by
  rw [retP, runD_eq find79 _ _ _ (by simp)]
  simp -implicitDefEqProofs (disch := omega) only [go_sem, Nat.reduceBEq, Nat.reduceAdd, Nat.reduceSub, Nat.reduceMul, Nat.reduceLeDiff, Nat.reduceEqDiff, Nat.reduceLT, Int.reduceNeg, Int.reduceAdd, Int.reduceSub, Int.reduceMul, Int.reduceLE, Int.reduceLT, Int.reduceEq, Int.reduceToNat, reduceCtorEq]
  repeat' ((first | rw [GuardI_ndec] | rw [CondC_ndec] | rw [GuardQ_ndec] | rw [GuardI_dec] | rw [CondC_dec] | rw [GuardQ_dec] | rw [GuardI_nby] | rw [CondC_nby] | rw [GuardQ_nby] | rw [GuardQ_by] | rw [GuardI_by] | rw [CondC_by]) <;> split <;> simp -implicitDefEqProofs (disch := omega) only [go_sem, Nat.reduceBEq, Nat.reduceAdd, Nat.reduceSub, Nat.reduceMul, Nat.reduceLeDiff, Nat.reduceEqDiff, Nat.reduceLT, Int.reduceNeg, Int.reduceAdd, Int.reduceSub, Int.reduceMul, Int.reduceLE, Int.reduceLT, Int.reduceEq, Int.reduceToNat, reduceCtorEq, *])
  all_goals simp_all
theorem run_l1In (d : Nat) (n lo hi : Int) : retP (runD tab noExt (d + 1)) 84 [.int .i64 n, .int .i64 lo, .int .i64 hi] = some [.bool (decide (lo ≤ n ∧ n ≤ hi))] := by
  rw [retP, runD_eq find84 _ _ _ (by simp)]
  simp -implicitDefEqProofs (disch := omega) only [go_sem, Nat.reduceBEq, Nat.reduceAdd, Nat.reduceSub, Nat.reduceMul, Nat.reduceLeDiff, Nat.reduceEqDiff, Nat.reduceLT, Int.reduceNeg, Int.reduceAdd, Int.reduceSub, Int.reduceMul, Int.reduceLE, Int.reduceLT, Int.reduceEq, Int.reduceToNat, reduceCtorEq]
  repeat' ((first | rw [GuardI_ndec] | rw [CondC_ndec] | rw [GuardQ_ndec] | rw [GuardI_dec] | rw [CondC_dec] | rw [GuardQ_dec] | rw [GuardI_nby] | rw [CondC_nby] | rw [GuardQ_nby] | rw [GuardQ_by] | rw [GuardI_by] | rw [CondC_by]) <;> split <;> simp -implicitDefEqProofs (disch := omega) only [go_sem, Nat.reduceBEq, Nat.reduceAdd, Nat.reduceSub, Nat.reduceMul, Nat.reduceLeDiff, Nat.reduceEqDiff, Nat.reduceLT, Int.reduceNeg, Int.reduceAdd, Int.reduceSub, Int.reduceMul, Int.reduceLE, Int.reduceLT, Int.reduceEq, Int.reduceToNat, reduceCtorEq, *])
  all_goals simp_all

theorem str_len (s : ByteArray) : s.data.toList.length = s.size := by rw [Array.length_toList]; rfl
/-- From an index on to the end. -/
theorem drop_ind {α : Type} (l : List α) (M : Nat → List α → Prop) (h0 : M l.length []) (h1 : ∀ i x r, i < l.length → l[i]? = some x → M (i + 1) r → M i (x :: r)) : ∀ rest i, l.drop i = rest → i ≤ l.length → M i rest
  | [], i, hd, hi => by
    have := List.drop_eq_nil_iff.1 hd
    have e : i = l.length := by omega
    subst e
    exact h0
  | x :: r, i, hd, hi => by
    have hlt : i < l.length := by
      rcases Nat.lt_or_ge i l.length with h2 | h2
      · exact h2
      · rw [List.drop_eq_nil_of_le h2] at hd; cases hd
    have hx : l[i]? = some x := by rw [← List.head?_drop, hd]; rfl
    have hr : l.drop (i + 1) = r := by rw [← List.drop_drop, hd]; rfl
    exact h1 i x r hlt hx (drop_ind l M h0 h1 r (i + 1) hr (by omega))

theorem ofBytes_at {l : List UInt8} {i : Nat} {b : UInt8} (h : l[i]? = some b) : (cellsOfBytes l)[i]? = some [.int .u8 b.toNat] := by simp [cellsOfBytes, h]

theorem loop_letters (d : Nat) (draw : Draw) (l : List UInt8) (hl : l.length < 1099511627776) : ∀ (rest : List UInt8) (i : Nat), l.drop i = rest → i ≤ l.length → ∀ k, rest.length ≤ k →
    LoopS (runD tab noExt (d + 1)) draw [6, 7, 8] [2] L150x0 0 k [(6, .sl false 1 (cellsOfBytes l)), (7, .int .i64 l.length), (8, .int .i64 i)] [] =
    if rest.all letterB then some (.exit 0, [(2, .undef)], []) else some (.ret, [(2, .bool false)], []) := by
  refine drop_ind l (fun i rest => _) ?_ ?_
  · intro k hk
    rw [LoopS_eq]
    simp [go_sem, Nat.reduceBEq, Nat.reduceAdd, Nat.reduceSub, Nat.reduceMul, Nat.reduceLeDiff, Nat.reduceEqDiff, Nat.reduceLT, Int.reduceNeg, Int.reduceAdd, Int.reduceSub, Int.reduceMul, Int.reduceLE, Int.reduceLT, Int.reduceEq, Int.reduceToNat, reduceCtorEq, evL150x0, B150x0, Int.lt_irrefl]
  · intro i b r hlt hb ih k hk
    have hi : (i : Int) < l.length := by omega
    have hb8 := b.toNat_lt
    obtain ⟨k, rfl⟩ : ∃ k', k = k' + 1 := ⟨k - 1, by simp at hk; omega⟩
    have ih' := ih k (by simp at hk; omega)
    simp only [Int.natCast_add, Int.natCast_one] at ih'
    rw [LoopS_eq]
    simp -implicitDefEqProofs (disch := omega) only [go_sem, Nat.reduceBEq, Nat.reduceAdd, Nat.reduceSub, Nat.reduceMul, Nat.reduceLeDiff, Nat.reduceEqDiff, Nat.reduceLT, Int.reduceNeg, Int.reduceAdd, Int.reduceSub, Int.reduceMul, Int.reduceLE, Int.reduceLT, Int.reduceEq, Int.reduceToNat, reduceCtorEq, evL150x0, B150x0, hi, ofBytes_at hb, run_between, IntWalk.i64_in]
    have e1 : letterB b = decide (97 ≤ (b.toNat : Int) ∧ (b.toNat : Int) ≤ 122) := rfl
    rw [← e1]
    rcases Bool.eq_false_or_eq_true (letterB b) with hlb | hlb
    · simp -implicitDefEqProofs (disch := omega) only [go_sem, Nat.reduceBEq, Nat.reduceAdd, Nat.reduceSub, Nat.reduceMul, Nat.reduceLeDiff, Nat.reduceEqDiff, Nat.reduceLT, Int.reduceNeg, Int.reduceAdd, Int.reduceSub, Int.reduceMul, Int.reduceLE, Int.reduceLT, Int.reduceEq, Int.reduceToNat, reduceCtorEq, hlb, IntWalk.i64_in, ih']
    · simp -implicitDefEqProofs only [go_sem, Nat.reduceBEq, Nat.reduceAdd, Nat.reduceSub, Nat.reduceMul, Nat.reduceLeDiff, Nat.reduceEqDiff, Nat.reduceLT, Int.reduceNeg, Int.reduceAdd, Int.reduceSub, Int.reduceMul, Int.reduceLE, Int.reduceLT, Int.reduceEq, Int.reduceToNat, reduceCtorEq, hlb]

theorem loop_l1Text (d : Nat) (draw : Draw) (s : ByteArray) (hl : s.size < 1099511627776) : ∀ (rest : List UInt8) (i : Nat), s.data.toList.drop i = rest → i ≤ s.data.toList.length → ∀ k, rest.length ≤ k →
    LoopS (runD tab noExt d) draw [0, 3] [0, 2] L152x0 0 k [(0, .str s), (3, .int .i64 i)] [] =
    if rest.all letterB then some (.exit 0, [(0, .str s), (2, .undef)], []) else some (.ret, [(0, .str s), (2, .bool false)], []) := by
  have hsz := str_len s
  refine drop_ind s.data.toList (fun i rest => _) ?_ ?_
  · intro k hk
    rw [LoopS_eq, hsz]
    simp [go_sem, Nat.reduceBEq, Nat.reduceAdd, Nat.reduceSub, Nat.reduceMul, Nat.reduceLeDiff, Nat.reduceEqDiff, Nat.reduceLT, Int.reduceNeg, Int.reduceAdd, Int.reduceSub, Int.reduceMul, Int.reduceLE, Int.reduceLT, Int.reduceEq, Int.reduceToNat, reduceCtorEq, evL152x0, B152x0, Int.lt_irrefl]
  · intro i b r hlt hb ih k hk
    have hi : (i : Int) < s.size := by omega
    have hb8 := b.toNat_lt
    obtain ⟨k, rfl⟩ : ∃ k', k = k' + 1 := ⟨k - 1, by simp at hk; omega⟩
    have ih' := ih k (by simp at hk; omega)
    simp only [Int.natCast_add, Int.natCast_one] at ih'
    rw [LoopS_eq]
    simp -implicitDefEqProofs (disch := omega) only [go_sem, Nat.reduceBEq, Nat.reduceAdd, Nat.reduceSub, Nat.reduceMul, Nat.reduceLeDiff, Nat.reduceEqDiff, Nat.reduceLT, Int.reduceNeg, Int.reduceAdd, Int.reduceSub, Int.reduceMul, Int.reduceLE, Int.reduceLT, Int.reduceEq, Int.reduceToNat, reduceCtorEq, evL152x0, B152x0, hi, hb, IntWalk.i64_in]
    have e1 : letterB b = decide (97 ≤ (b.toNat : Int) ∧ (b.toNat : Int) ≤ 122) := rfl
    by_cases h1 : (b.toNat : Int) < 97
    · have hlb : letterB b = false := by rw [e1]; simp; omega
      simp -implicitDefEqProofs (disch := omega) only [go_sem, Nat.reduceBEq, Nat.reduceAdd, Nat.reduceSub, Nat.reduceMul, Nat.reduceLeDiff, Nat.reduceEqDiff, Nat.reduceLT, Int.reduceNeg, Int.reduceAdd, Int.reduceSub, Int.reduceMul, Int.reduceLE, Int.reduceLT, Int.reduceEq, Int.reduceToNat, reduceCtorEq, h1, hlb]
    · by_cases h2 : 122 < (b.toNat : Int)
      · have hlb : letterB b = false := by rw [e1]; simp; omega
        simp -implicitDefEqProofs (disch := omega) only [go_sem, Nat.reduceBEq, Nat.reduceAdd, Nat.reduceSub, Nat.reduceMul, Nat.reduceLeDiff, Nat.reduceEqDiff, Nat.reduceLT, Int.reduceNeg, Int.reduceAdd, Int.reduceSub, Int.reduceMul, Int.reduceLE, Int.reduceLT, Int.reduceEq, Int.reduceToNat, reduceCtorEq, hb, h1, h2, hlb]
      · have hlb : letterB b = true := by rw [e1]; simp; omega
        simp -implicitDefEqProofs (disch := omega) only [go_sem, Nat.reduceBEq, Nat.reduceAdd, Nat.reduceSub, Nat.reduceMul, Nat.reduceLeDiff, Nat.reduceEqDiff, Nat.reduceLT, Int.reduceNeg, Int.reduceAdd, Int.reduceSub, Int.reduceMul, Int.reduceLE, Int.reduceLT, Int.reduceEq, Int.reduceToNat, reduceCtorEq, hb, h1, h2, hlb, IntWalk.i64_in, ih']

-- find150
theorem run_letters (d : Nat) (s : ByteArray) (hs : s.size < 1099511627776) : retP (runD tab noExt (d + 2)) 150 [.str s] = some [.bool (lettersB s)] := by
  rw [retP, runD_eq find150 _ _ _ (by simp)]
  have hl := loop_letters d (drawI (runD tab noExt (d + 1))) s.data.toList (by rw [str_len]; exact hs) s.data.toList 0 rfl (Nat.zero_le _) 1099511627775 (by rw [str_len]; omega)
  simp -implicitDefEqProofs only [go_sem, Nat.reduceBEq, Nat.reduceAdd, Nat.reduceSub, Nat.reduceMul, Nat.reduceLeDiff, Nat.reduceEqDiff, Nat.reduceLT, Int.reduceNeg, Int.reduceAdd, Int.reduceSub, Int.reduceMul, Int.reduceLE, Int.reduceLT, Int.reduceEq, Int.reduceToNat, reduceCtorEq, cellsOfBytes, List.length_map]
  simp only [cellsOfBytes, Int.natCast_zero] at hl
  rw [hl]
  split <;> simp -implicitDefEqProofs only [go_sem, Nat.reduceBEq, Nat.reduceAdd, Nat.reduceSub, Nat.reduceMul, Nat.reduceLeDiff, Nat.reduceEqDiff, Nat.reduceLT, Int.reduceNeg, Int.reduceAdd, Int.reduceSub, Int.reduceMul, Int.reduceLE, Int.reduceLT, Int.reduceEq, Int.reduceToNat, reduceCtorEq, lettersB, *]

theorem Val.eta (v : Val) : (⟨v.kind, v.n, v.s⟩ : Val) = v := rfl

theorem run_ok (d : Nat) (k n : Int) (s : ByteArray) : retP (runD tab noExt (d + 3)) 96 [.agg [.int .i64 k, .int .i64 n, .str s]] = some [.bool (Val.ok ⟨k, n, s⟩)] := by
  rw [retP, runD_eq find96 _ _ _ (by simp)]
  simp -implicitDefEqProofs (disch := omega) only [go_sem, Nat.reduceBEq, Nat.reduceAdd, Nat.reduceSub, Nat.reduceMul, Nat.reduceLeDiff, Nat.reduceEqDiff, Nat.reduceLT, Int.reduceNeg, Int.reduceAdd, Int.reduceSub, Int.reduceMul, Int.reduceLE, Int.reduceLT, Int.reduceEq, Int.reduceToNat, reduceCtorEq, run_between, run_letters]
  repeat' ((first | rw [GuardI_ndec] | rw [CondC_ndec] | rw [GuardQ_ndec] | rw [GuardI_dec] | rw [CondC_dec] | rw [GuardQ_dec] | rw [GuardI_nby] | rw [CondC_nby] | rw [GuardQ_nby] | rw [GuardQ_by] | rw [GuardI_by] | rw [CondC_by]) <;> split <;> simp -implicitDefEqProofs (disch := omega) only [go_sem, Nat.reduceBEq, Nat.reduceAdd, Nat.reduceSub, Nat.reduceMul, Nat.reduceLeDiff, Nat.reduceEqDiff, Nat.reduceLT, Int.reduceNeg, Int.reduceAdd, Int.reduceSub, Int.reduceMul, Int.reduceLE, Int.reduceLT, Int.reduceEq, Int.reduceToNat, reduceCtorEq, run_between, run_letters, *])
  all_goals (simp_all [Val.ok]; try omega)
theorem run_ValueOk (d : Nat) (k n : Int) (s : ByteArray) : retP (runD tab noExt (d + 4)) 72 [.agg [.int .i64 k, .int .i64 n, .str s]] = some [.bool (Val.ok ⟨k, n, s⟩)] := by
  rw [retP, runD_eq find72 _ _ _ (by simp)]
  simp -implicitDefEqProofs (disch := omega) only [go_sem, Nat.reduceBEq, Nat.reduceAdd, Nat.reduceSub, Nat.reduceMul, Nat.reduceLeDiff, Nat.reduceEqDiff, Nat.reduceLT, Int.reduceNeg, Int.reduceAdd, Int.reduceSub, Int.reduceMul, Int.reduceLE, Int.reduceLT, Int.reduceEq, Int.reduceToNat, reduceCtorEq, run_ok]
  repeat' ((first | rw [GuardI_ndec] | rw [CondC_ndec] | rw [GuardQ_ndec] | rw [GuardI_dec] | rw [CondC_dec] | rw [GuardQ_dec] | rw [GuardI_nby] | rw [CondC_nby] | rw [GuardQ_nby] | rw [GuardQ_by] | rw [GuardI_by] | rw [CondC_by]) <;> split <;> simp -implicitDefEqProofs (disch := omega) only [go_sem, Nat.reduceBEq, Nat.reduceAdd, Nat.reduceSub, Nat.reduceMul, Nat.reduceLeDiff, Nat.reduceEqDiff, Nat.reduceLT, Int.reduceNeg, Int.reduceAdd, Int.reduceSub, Int.reduceMul, Int.reduceLE, Int.reduceLT, Int.reduceEq, Int.reduceToNat, reduceCtorEq, run_ok, *])
  all_goals simp_all
def cmpI (a b : Int) : Int := if a < b then -1 else if b < a then 1 else 0
def ltS (a b : ByteArray) : Bool := decide (a.data.toList < b.data.toList)
def cmpS (a b : ByteArray) : Int := if ltS a b then -1 else if ltS b a then 1 else 0
/-- The order of values. -/
def Val.cmp (v w : Val) : Int := if cmpI v.kind w.kind ≠ 0 then cmpI v.kind w.kind else if cmpI v.n w.n ≠ 0 then cmpI v.n w.n else cmpS v.s w.s

theorem run_l1Text (d : Nat) (s : ByteArray) (hs : s.size < 1099511627776) : retP (runD tab noExt (d + 1)) 152 [.str s] = some [.bool (lettersB s && decide ((s.size : Int) ≤ 6))] := by
  rw [retP, runD_eq find152 _ _ _ (by simp)]
  have hl := loop_l1Text d (drawI (runD tab noExt d)) s hs s.data.toList 0 rfl (Nat.zero_le _) 1099511627775 (by rw [str_len]; omega)
  simp only [Int.natCast_zero] at hl
  simp -implicitDefEqProofs only [go_sem, Nat.reduceBEq, Nat.reduceAdd, Nat.reduceSub, Nat.reduceMul, Nat.reduceLeDiff, Nat.reduceEqDiff, Nat.reduceLT, Int.reduceNeg, Int.reduceAdd, Int.reduceSub, Int.reduceMul, Int.reduceLE, Int.reduceLT, Int.reduceEq, Int.reduceToNat, reduceCtorEq]
  rw [hl]
  split <;> simp -implicitDefEqProofs only [go_sem, Nat.reduceBEq, Nat.reduceAdd, Nat.reduceSub, Nat.reduceMul, Nat.reduceLeDiff, Nat.reduceEqDiff, Nat.reduceLT, Int.reduceNeg, Int.reduceAdd, Int.reduceSub, Int.reduceMul, Int.reduceLE, Int.reduceLT, Int.reduceEq, Int.reduceToNat, reduceCtorEq, lettersB, *]

theorem run_specValueOk (d : Nat) (k n : Int) (s : ByteArray) (hs : s.size < 1099511627776) : retP (runD tab noExt (d + 2)) 101 [.agg [.int .i64 k, .int .i64 n, .str s]] = some [.bool (Val.ok ⟨k, n, s⟩)] := by
  rw [retP, runD_eq find101 _ _ _ (by simp)]
  simp -implicitDefEqProofs (disch := omega) only [go_sem, Nat.reduceBEq, Nat.reduceAdd, Nat.reduceSub, Nat.reduceMul, Nat.reduceLeDiff, Nat.reduceEqDiff, Nat.reduceLT, Int.reduceNeg, Int.reduceAdd, Int.reduceSub, Int.reduceMul, Int.reduceLE, Int.reduceLT, Int.reduceEq, Int.reduceToNat, reduceCtorEq, run_l1In, run_l1Text]
  repeat' ((first | rw [GuardI_ndec] | rw [CondC_ndec] | rw [GuardQ_ndec] | rw [GuardI_dec] | rw [CondC_dec] | rw [GuardQ_dec] | rw [GuardI_nby] | rw [CondC_nby] | rw [GuardQ_nby] | rw [GuardQ_by] | rw [GuardI_by] | rw [CondC_by]) <;> split <;> simp -implicitDefEqProofs (disch := omega) only [go_sem, Nat.reduceBEq, Nat.reduceAdd, Nat.reduceSub, Nat.reduceMul, Nat.reduceLeDiff, Nat.reduceEqDiff, Nat.reduceLT, Int.reduceNeg, Int.reduceAdd, Int.reduceSub, Int.reduceMul, Int.reduceLE, Int.reduceLT, Int.reduceEq, Int.reduceToNat, reduceCtorEq, run_l1In, run_l1Text, *])
  all_goals (simp_all [Val.ok, Bool.and_comm]; try omega)
end Go.Proofs.Ytfbjbkkcilhgjaa.PE
/- What is known of values: what the functions come to. -/
set_option linter.unusedSimpArgs false
namespace Go.Proofs.Ytfbjbkkcilhgjaa.PE
open Go.RowKit

/-- What is known of values. -/
structure Kn where
  many : Int
  sum : Int
  least : Val
  most : Val
  deriving DecidableEq

def Val.ord (v w : Val) : Int := if v.ok && w.ok then v.cmp w else 0
def Val.zero : Val := ⟨0, 0, ⟨#[]⟩⟩
def Kn.zero : Kn := ⟨0, 0, .zero, .zero⟩
def Kn.ok (k : Kn) : Bool :=
  if k.many = 0 then decide (k = .zero)
  else decide (1 ≤ k.many) && decide (k.many ≤ 100) && (decide (-9999 * k.many ≤ k.sum) && decide (k.sum ≤ 9999 * k.many)) && k.least.ok && k.most.ok &&
    decide (k.least.kind = k.most.kind) && !decide (k.least.kind = 0) && decide (k.least.cmp k.most ≤ 0) && (decide (k.least.kind = 1) || decide (k.sum = 0))

end Go.Proofs.Ytfbjbkkcilhgjaa.PE
/- The reader of the drawn bytes. -/
set_option linter.unusedSimpArgs false
set_option linter.unusedVariables false
namespace Go.Proofs.Ytfbjbkkcilhgjaa.PE
open Go.RowKit

theorem ofBytes_lt {l : List UInt8} {i : Nat} (h : i < l.length) : (cellsOfBytes l)[i]? = some [.int .u8 ((l.getD i 0).toNat : Int)] := by
  simp [cellsOfBytes, List.getElem?_eq_getElem h, List.getD_eq_getElem?_getD]
theorem ofBytes_len (l : List UInt8) : (cellsOfBytes l).length = l.length := by simp [cellsOfBytes]
theorem tmod_idx {a : Int} {n : Nat} (h : 0 ≤ a) (hn : 0 < n) : (a.tmod (n : Int)).toNat < n := by
  rw [Int.tmod_eq_emod_of_nonneg h]
  have := Int.emod_lt_of_pos a (show (0 : Int) < n by omega)
  omega
theorem tmod_nn {a n : Int} (h : 0 ≤ a) (hn : 0 < n) : 0 ≤ a.tmod n := by
  rw [Int.tmod_eq_emod_of_nonneg h]
  exact Int.emod_nonneg a (by omega)
theorem tmod_lt {a n : Int} (h : 0 ≤ a) (hn : 0 < n) : a.tmod n < n := by
  rw [Int.tmod_eq_emod_of_nonneg h]
  exact Int.emod_lt_of_pos a (by omega)
theorem tmod_nn' {a : Int} {n : Nat} (h : 0 ≤ a) (hn : 0 < n) : (0 ≤ a.tmod (n : Int)) = True := by simp [tmod_nn h (show (0 : Int) < n by omega)]
theorem tdiv_in {a n : Int} (h : 0 ≤ a) (hn : 0 < n) : 0 ≤ a.tdiv n ∧ a.tdiv n ≤ a := by
  rw [Int.tdiv_eq_ediv_of_nonneg h]
  exact ⟨Int.ediv_nonneg h (by omega), Int.ediv_le_self n h⟩
theorem tdiv64 {a : Int} (h : 0 ≤ a) : a.tdiv 64 = a / 64 := Int.tdiv_eq_ediv_of_nonneg h
theorem xor_nn {a b : Int} (ha : 0 ≤ a) (ha' : a < 9223372036854775808) (hb : 0 ≤ b) (hb' : b < 9223372036854775808) :
    0 ≤ IntKind.i64.wrap ((BitVec.ofInt IntKind.i64.bits a ^^^ BitVec.ofInt IntKind.i64.bits b).toNat : Int) := by
  have h1 : (BitVec.ofInt IntKind.i64.bits a ^^^ BitVec.ofInt IntKind.i64.bits b).toNat < 2 ^ 63 := by
    rw [BitVec.toNat_xor]
    have e : ∀ x : Int, 0 ≤ x → x < 9223372036854775808 → (BitVec.ofInt IntKind.i64.bits x).toNat < 2 ^ 63 := by
      intro x h0 h1
      rw [BitVec.toNat_ofInt]
      have : ((2 ^ IntKind.i64.bits : Nat) : Int) = 18446744073709551616 := rfl
      rw [this, Int.emod_eq_of_lt h0 (by omega)]
      have : (2 : Nat) ^ 63 = 9223372036854775808 := rfl
      omega
    exact Nat.xor_lt_two_pow (e a ha ha') (e b hb hb')
  have h2 : (2 : Nat) ^ 63 = 9223372036854775808 := rfl
  rw [IntWalk.i64_in _ (by omega)]
  omega
theorem u8_lt (l : List UInt8) (i : Nat) : ((l.getD i 0).toNat : Int) < 256 := by
  have := (l.getD i 0).toNat_lt
  omega
theorem u8_nn (l : List UInt8) (i : Nat) : (0 : Int) ≤ ((l.getD i 0).toNat : Int) := by omega
theorem i64_u8 (l : List UInt8) (i : Nat) : IntKind.i64.wrap ((l.getD i 0).toNat : Int) = ((l.getD i 0).toNat : Int) := by
  have := u8_lt l i
  exact IntWalk.i64_in _ (by omega)

/-- A number below n, or 0. -/
def Pk (n m : Int) : Prop := 0 ≤ m ∧ (m < n ∨ m = 0 ∧ n < 1)

-- find57
theorem ex_pick {d : Nat} {hp t : Heap} {c : Bool} {bs : List UInt8} {p n : Int} {X : Option (V × Heap)} (hx : callS (runD tab noExt (d + 1)) (hp ++ .box [.sl c 1 (cellsOfBytes bs), .int .i64 (p)] :: t) 57 [.ptr hp.length 0 0 0, .int .i64 n] false = X)
    (hp0 : 0 ≤ p) (hq : p ≤ 1099511627776) (hb : bs.length ≤ 2000) (hhp : plainH hp = true) (ht : plainH t = true) :
    ∃ m, X = some (.int .i64 m, hp ++ .box [.sl c 1 (cellsOfBytes bs), .int .i64 (p+1)] :: t) ∧ Pk n m := by
  subst hx
  have hh : ∀ n, t.all (hiB n) = true := fun n => plainH_hi ht n
  have hhq : ∀ n, hp.all (hiB n) = true := fun n => plainH_hi hhp n
  rw [callS_eq, runD_eq find57 _ _ _ (by simp)]
  by_cases h1 : n < 1
  · simp -implicitDefEqProofs (disch := omega) only [go_sem, Nat.reduceBEq, Nat.reduceAdd, Nat.reduceSub, Nat.reduceMul, Nat.reduceLeDiff, Nat.reduceEqDiff, Nat.reduceLT, Int.reduceNeg, Int.reduceAdd, Int.reduceSub, Int.reduceMul, Int.reduceLE, Int.reduceLT, Int.reduceEq, Int.reduceToNat, reduceCtorEq, IntWalk.i64_in, hh, hhq, List.all_append, h1]
    exact ⟨0, rfl, by omega, .inr ⟨rfl, h1⟩⟩
  · by_cases h2 : bs.length = 0
    · have h2' : (bs.length : Int) = 0 := by omega
      simp -implicitDefEqProofs (disch := omega) only [go_sem, Nat.reduceBEq, Nat.reduceAdd, Nat.reduceSub, Nat.reduceMul, Nat.reduceLeDiff, Nat.reduceEqDiff, Nat.reduceLT, Int.reduceNeg, Int.reduceAdd, Int.reduceSub, Int.reduceMul, Int.reduceLE, Int.reduceLT, Int.reduceEq, Int.reduceToNat, reduceCtorEq, IntWalk.i64_in, hh, hhq, List.all_append, h1, h2', ofBytes_len]
      exact ⟨0, rfl, by omega, .inl (by omega)⟩
    · have h2' : ((bs.length : Int) = 0) = False := eq_false (by omega)
      by_cases h3 : p < bs.length
      · have h4 : p.toNat < bs.length := by omega
        simp -implicitDefEqProofs (disch := omega) only [go_sem, Nat.reduceBEq, Nat.reduceAdd, Nat.reduceSub, Nat.reduceMul, Nat.reduceLeDiff, Nat.reduceEqDiff, Nat.reduceLT, Int.reduceNeg, Int.reduceAdd, Int.reduceSub, Int.reduceMul, Int.reduceLE, Int.reduceLT, Int.reduceEq, Int.reduceToNat, reduceCtorEq, IntWalk.i64_in, hh, hhq, List.all_append, h1, h2', h3, ofBytes_len, ofBytes_lt h4, Int.add_sub_cancel, hp0, i64_u8, (eq_false (by omega) : (n = 0) = False)]
        exact ⟨_, rfl, tmod_nn (u8_nn _ _) (by omega), .inl (tmod_lt (u8_nn _ _) (by omega))⟩
      · have k1 := tmod_idx hp0 (show 0 < bs.length by omega)
        have k2 := tmod_idx (show 0 ≤ p * 7 + 3 by omega) (show 0 < bs.length by omega)
        have k3 := tmod_nn' hp0 (show 0 < bs.length by omega)
        have k4 := tmod_nn' (show 0 ≤ p * 7 + 3 by omega) (show 0 < bs.length by omega)
        have k5 := u8_lt bs (p.tmod bs.length).toNat
        have k6 := u8_lt bs ((p * 7 + 3).tmod bs.length).toNat
        have k7 := tdiv_in hp0 (show (0 : Int) < bs.length by omega)
        simp -implicitDefEqProofs (disch := omega) only [go_sem, Nat.reduceBEq, Nat.reduceAdd, Nat.reduceSub, Nat.reduceMul, Nat.reduceLeDiff, Nat.reduceEqDiff, Nat.reduceLT, Int.reduceNeg, Int.reduceAdd, Int.reduceSub, Int.reduceMul, Int.reduceLE, Int.reduceLT, Int.reduceEq, Int.reduceToNat, reduceCtorEq, evC_draw, evD57x0, E57x0, IntWalk.i64_in, hh, hhq, List.all_append, h1, h2', h3, ofBytes_len, Int.add_sub_cancel, hp0, i64_u8, (eq_false (by omega) : (n = 0) = False), k3, k4, ofBytes_lt k1, ofBytes_lt k2, tdiv64]
        refine ⟨_, rfl, tmod_nn (xor_nn ?_ ?_ ?_ ?_) (by omega), .inl (tmod_lt (xor_nn ?_ ?_ ?_ ?_) (by omega))⟩ <;> omega

-- find119
theorem ex_odd {d : Nat} {hp t : Heap} {c : Bool} {bs : List UInt8} {p n : Int} {X : Option (V × Heap)} (hx : callS (runD tab noExt (d + 2)) (hp ++ .box [.sl c 1 (cellsOfBytes bs), .int .i64 (p)] :: t) 119 [.ptr hp.length 0 0 0, .int .i64 n] false = X)
    (hp0 : 0 ≤ p) (hq : p ≤ 1099511627776) (hb : bs.length ≤ 2000) (hhp : plainH hp = true) (ht : plainH t = true) :
    ∃ b p', X = some (.bool b, hp ++ .box [.sl c 1 (cellsOfBytes bs), .int .i64 (p')] :: t) ∧ p ≤ p' ∧ p' ≤ p + 1 ∧ (n ≤ 0 → b = false) := by
  subst hx
  have hh : ∀ n, t.all (hiB n) = true := fun n => plainH_hi ht n
  have hhq : ∀ n, hp.all (hiB n) = true := fun n => plainH_hi hhp n
  rw [callS_eq, runD_eq find119 _ _ _ (by simp)]
  by_cases h1 : 0 < n
  · generalize hP : (fun (p' : Int) (b : Bool) => p ≤ p' ∧ p' ≤ p + 1 ∧ (n ≤ 0 → b = false)) = P
    simp -implicitDefEqProofs only [go_sem, Nat.reduceBEq, Nat.reduceAdd, Nat.reduceSub, Nat.reduceMul, Nat.reduceLeDiff, Nat.reduceEqDiff, Nat.reduceLT, Int.reduceNeg, Int.reduceAdd, Int.reduceSub, Int.reduceMul, Int.reduceLE, Int.reduceLT, Int.reduceEq, Int.reduceToNat, reduceCtorEq, h1]
    generalize hx : callS (runD tab noExt _) _ 57 _ _ = X
    obtain ⟨m, rfl, hm⟩ := ex_pick hx hp0 hq hb hhp ht
    simp -implicitDefEqProofs only [go_sem, Nat.reduceBEq, Nat.reduceAdd, Nat.reduceSub, Nat.reduceMul, Nat.reduceLeDiff, Nat.reduceEqDiff, Nat.reduceLT, Int.reduceNeg, Int.reduceAdd, Int.reduceSub, Int.reduceMul, Int.reduceLE, Int.reduceLT, Int.reduceEq, Int.reduceToNat, reduceCtorEq, hh, hhq, List.all_append]
    exact ⟨_, _, rfl, by omega, by omega, fun h => by omega⟩
  · simp -implicitDefEqProofs only [go_sem, Nat.reduceBEq, Nat.reduceAdd, Nat.reduceSub, Nat.reduceMul, Nat.reduceLeDiff, Nat.reduceEqDiff, Nat.reduceLT, Int.reduceNeg, Int.reduceAdd, Int.reduceSub, Int.reduceMul, Int.reduceLE, Int.reduceLT, Int.reduceEq, Int.reduceToNat, reduceCtorEq, hh, hhq, List.all_append, h1]
    exact ⟨_, _, rfl, by omega, by omega, fun _ => rfl⟩
end Go.Proofs.Ytfbjbkkcilhgjaa.PE
/- Columns and rows: what the reference's small functions come to. -/
set_option linter.unusedSimpArgs false
set_option linter.unusedVariables false
set_option maxHeartbeats 4000000
namespace Go.Proofs.Ytfbjbkkcilhgjaa.PE
open Go.RowKit

structure Col where
  kind : Int
  empty : Bool
  deriving DecidableEq
def Col.cells (c : Col) : List V := [.int .i64 c.kind, .bool c.empty]
def Col.ok (c : Col) : Bool := decide (1 ≤ c.kind ∧ c.kind ≤ 3)
def colsOk (cs : List Col) : Bool := cs.all Col.ok && decide (cs.length ≤ 4)
/-- A row as it lies in a list of rows: whether it is clipped, and its values. -/
structure Row where
  clip : Bool
  vs : List Val
def Row.v (r : Row) : V := .sl r.clip 3 (r.vs.map Val.cells)
def Row.cells (r : Row) : List V := [r.v]
def short (vs : List Val) : Prop := ∀ v ∈ vs, v.s.size < 1099511627776
def rowOk (vs : List Val) : Bool := vs.all Val.ok && decide (vs.length ≤ 4)
theorem short_at {vs : List Val} (h : short vs) {i : Nat} {x : Val} (hx : vs[i]? = some x) : x.s.size < 1099511627776 := h x (List.mem_of_getElem? hx)

theorem loop_rowOk (d : Nat) (c : Bool) (vs : List Val) (hs : vs.length < 1099511627776) (hsh : short vs) (K : Nat) (hK : (vs).length ≤ K) : LoopS (runD tab noExt (d + 2)) (drawI (runD tab noExt (d + 2))) [0, 3] [0, 2] L138x0 ([] : Heap).length K [(0, .sl c 3 (vs.map Val.cells)), (3, .int .i64 0)] [] = if (vs).all (Val.ok) then (some (.exit 0, [(0, .sl c 3 (vs.map Val.cells)), (2, .undef)], []) : Out) else (some (.ret, [(0, .sl c 3 (vs.map Val.cells)), (2, .bool false)], []) : Out) := by
  have key := LoopS_all (run := (runD tab noExt (d + 2))) (draw := drawI (runD tab noExt (d + 2))) (live := [0, 3]) (out := [0, 2]) (c := L138x0) (n0 := ([] : Heap).length) (vs) (Val.ok) (fun (i : Nat) => [(0, .sl c 3 (vs.map Val.cells)), (3, .int .i64 i)]) [] (some (.exit 0, [(0, .sl c 3 (vs.map Val.cells)), (2, .undef)], []) : Out) (some (.ret, [(0, .sl c 3 (vs.map Val.cells)), (2, .bool false)], []) : Out) (fun K => ?_) (fun (i : Nat) (x : Val) K hi hx => ?_) K hK
  · simp only [Int.natCast_zero] at key
    exact key
  · rw [LoopS_eq]
    simp -implicitDefEqProofs only [go_sem, Nat.reduceBEq, Nat.reduceAdd, Nat.reduceSub, Nat.reduceMul, Nat.reduceLeDiff, Nat.reduceEqDiff, Nat.reduceLT, Int.reduceNeg, Int.reduceAdd, Int.reduceSub, Int.reduceMul, Int.reduceLE, Int.reduceLT, Int.reduceEq, Int.reduceToNat, reduceCtorEq, evL138x0, B138x0, Int.lt_irrefl, run_specValueOk, Val.cells, Val.eta]
  · have hxs := short_at hsh hx
    rw [LoopS_eq]
    simp -implicitDefEqProofs (disch := omega) only [go_sem, Nat.reduceBEq, Nat.reduceAdd, Nat.reduceSub, Nat.reduceMul, Nat.reduceLeDiff, Nat.reduceEqDiff, Nat.reduceLT, Int.reduceNeg, Int.reduceAdd, Int.reduceSub, Int.reduceMul, Int.reduceLE, Int.reduceLT, Int.reduceEq, Int.reduceToNat, reduceCtorEq, evL138x0, B138x0, hi, hx, IntWalk.i64_in, run_specValueOk, Val.cells, Val.eta, *]
    repeat' ((first | rw [GuardI_ndec] | rw [CondC_ndec] | rw [GuardQ_ndec] | rw [GuardI_dec] | rw [CondC_dec] | rw [GuardQ_dec] | rw [GuardI_nby] | rw [CondC_nby] | rw [GuardQ_nby] | rw [GuardQ_by] | rw [GuardI_by] | rw [CondC_by]) <;> split <;> simp -implicitDefEqProofs (disch := omega) only [go_sem, Nat.reduceBEq, Nat.reduceAdd, Nat.reduceSub, Nat.reduceMul, Nat.reduceLeDiff, Nat.reduceEqDiff, Nat.reduceLT, Int.reduceNeg, Int.reduceAdd, Int.reduceSub, Int.reduceMul, Int.reduceLE, Int.reduceLT, Int.reduceEq, Int.reduceToNat, reduceCtorEq, hi, hx, IntWalk.i64_in, run_specValueOk, Val.cells, Val.eta, *, *])
    all_goals first | rfl | (simp_all []; done) | (simp_all []; omega)
-- find138
theorem run_rowOk (d : Nat) (c : Bool) (vs : List Val) (hs : vs.length < 1099511627776) (hsh : short vs) : retP (runD tab noExt (d + 3)) 138 [.sl c 3 (vs.map Val.cells)] = some [.bool (rowOk vs)] := by
  rw [retP, runD_eq find138 _ _ _ (by simp)]
  have hl := loop_rowOk d c vs hs hsh 1099511627775 (by omega)
  simp -implicitDefEqProofs only [go_sem, Nat.reduceBEq, Nat.reduceAdd, Nat.reduceSub, Nat.reduceMul, Nat.reduceLeDiff, Nat.reduceEqDiff, Nat.reduceLT, Int.reduceNeg, Int.reduceAdd, Int.reduceSub, Int.reduceMul, Int.reduceLE, Int.reduceLT, Int.reduceEq, Int.reduceToNat, reduceCtorEq] at hl ⊢
  rw [hl]
  split <;> simp -implicitDefEqProofs only [go_sem, Nat.reduceBEq, Nat.reduceAdd, Nat.reduceSub, Nat.reduceMul, Nat.reduceLeDiff, Nat.reduceEqDiff, Nat.reduceLT, Int.reduceNeg, Int.reduceAdd, Int.reduceSub, Int.reduceMul, Int.reduceLE, Int.reduceLT, Int.reduceEq, Int.reduceToNat, reduceCtorEq, rowOk, *]
  norm_cast

def fits1 (p : Col × Val) : Bool := decide (p.2.kind = p.1.kind) || (decide (p.2.kind = 0) && p.1.empty)
def fitsRow (cs : List Col) (vs : List Val) : Bool := colsOk cs && rowOk vs && decide (vs.length = cs.length) && (cs.zip vs).all fits1
def rowsFit (cs : List Col) (rs : List Row) : Bool := rs.all fun r => fitsRow cs r.vs
def rowsOk (cs : List Col) (rs : List Row) : Bool := rowsFit cs rs && colsOk cs
def Short (rs : List Row) : Prop := ∀ r ∈ rs, r.vs.length < 1099511627776 ∧ short r.vs
/-- Rows that are not too long for memory. -/
def Fine (rs : List Row) : Prop := rs.length < 4294967296 ∧ ∀ r ∈ rs, r.vs.length < 4294967296
end Go.Proofs.Ytfbjbkkcilhgjaa.PE
/- Lists that are looked through by a closure; columns and rows: the program's. -/
set_option linter.unusedSimpArgs false
set_option linter.unusedVariables false
set_option maxHeartbeats 4000000
namespace Go.Proofs.Ytfbjbkkcilhgjaa.PE
open Go.RowKit

def intC (n : Int) : List V := [.int .i64 n]
theorem loop_idxVal (d : Nat) (h : Heap) (c : Bool) (g : Nat) (caps : List V) (xs : List (Val)) (P : Val → Bool) (hs : xs.length < 1099511627776) (hhi : h.all (hiB h.length) = true) (hcap : caps.all (hi0 h.length) = true)
    (hg : ∀ x ∈ xs, callS (runD tab noExt d) h g (V.agg (Val.cells x) :: caps) false = some (.bool (P x), h)) (K : Nat) (hK : xs.length ≤ K) :
    LoopS (runD tab noExt d) (drawI (runD tab noExt d)) [0, 1, 7, 8] [4] L177x0 h.length K [(0, .sl c 3 (xs.map Val.cells)), (1, .clo g caps), (7, .int .i64 xs.length), (8, .int .i64 0)] h =
      (match xs.findIdx? P with
        | some k => (some (.ret, [(4, .int .i64 (k : Int))], h) : Out)
        | none => some (.exit 0, [(4, .undef)], h)) := by
  have key := LoopS_rec (run := runD tab noExt d) (draw := drawI (runD tab noExt d)) (live := [0, 1, 7, 8]) (out := [4]) (c := L177x0) (n0 := h.length) xs (fun (i : Nat) (_ : Unit) => [(0, .sl c 3 (xs.map Val.cells)), (1, .clo g caps), (7, .int .i64 xs.length), (8, .int .i64 i)]) (fun _ _ => h)
    (fun r _ => match r.findIdx? P with
        | some k => (some (.ret, [(4, .int .i64 (xs.length - r.length + k : Int))], h) : Out)
        | none => some (.exit 0, [(4, .undef)], h)) (fun _ K => ?_) (fun (i : Nat) x r _ K hi hx hr ih => ?_) K hK ()
  · simp only [Int.natCast_zero, Int.sub_self, Int.zero_add] at key
    exact key
  · rw [LoopS_eq]
    simp -implicitDefEqProofs only [go_sem, Nat.reduceBEq, Nat.reduceAdd, Nat.reduceSub, Nat.reduceMul, Nat.reduceLeDiff, Nat.reduceEqDiff, Nat.reduceLT, Int.reduceNeg, Int.reduceAdd, Int.reduceSub, Int.reduceMul, Int.reduceLE, Int.reduceLT, Int.reduceEq, Int.reduceToNat, reduceCtorEq, evL177x0, B177x0, hhi, hcap, Int.lt_irrefl, List.findIdx?_nil]
  · have hgx := hg x (List.mem_of_getElem? hx)
    try simp only [Val.cells] at hgx
    have hlen : (xs.length : Int) - (r.length + 1) = i := by omega
    rw [LoopS_eq]
    simp -implicitDefEqProofs (disch := omega) only [go_sem, Nat.reduceBEq, Nat.reduceAdd, Nat.reduceSub, Nat.reduceMul, Nat.reduceLeDiff, Nat.reduceEqDiff, Nat.reduceLT, Int.reduceNeg, Int.reduceAdd, Int.reduceSub, Int.reduceMul, Int.reduceLE, Int.reduceLT, Int.reduceEq, Int.reduceToNat, reduceCtorEq, evL177x0, B177x0, hhi, hcap, hi, hx, hgx, Val.cells, Val.cells, IntWalk.i64_in]
    rw [List.findIdx?_cons]
    cases hp : P x
    · simp -implicitDefEqProofs (disch := omega) only [go_sem, Nat.reduceBEq, Nat.reduceAdd, Nat.reduceSub, Nat.reduceMul, Nat.reduceLeDiff, Nat.reduceEqDiff, Nat.reduceLT, Int.reduceNeg, Int.reduceAdd, Int.reduceSub, Int.reduceMul, Int.reduceLE, Int.reduceLT, Int.reduceEq, Int.reduceToNat, reduceCtorEq, hhi, hcap, IntWalk.i64_in, hp]
      have ih' := ih ()
      simp only [Int.natCast_add, Int.natCast_one] at ih'
      rw [ih']
      cases hf : r.findIdx? P with
      | none => rfl
      | some k => simp; omega
    · simp -implicitDefEqProofs only [go_sem, Nat.reduceBEq, Nat.reduceAdd, Nat.reduceSub, Nat.reduceMul, Nat.reduceLeDiff, Nat.reduceEqDiff, Nat.reduceLT, Int.reduceNeg, Int.reduceAdd, Int.reduceSub, Int.reduceMul, Int.reduceLE, Int.reduceLT, Int.reduceEq, Int.reduceToNat, reduceCtorEq, hp, List.length_cons, Int.natCast_add, Int.natCast_one, hlen]
      simp
theorem idxVal (d : Nat) (h : Heap) (c : Bool) (g : Nat) (caps : List V) (xs : List (Val)) (P : Val → Bool) (hs : xs.length < 1099511627776) (hhi : h.all (hiB h.length) = true) (hcap : caps.all (hi0 h.length) = true)
    (hg : ∀ x ∈ xs, callS (runD tab noExt d) h g (V.agg (Val.cells x) :: caps) false = some (.bool (P x), h)) :
    callS (runD tab noExt (d + 1)) h 177 [.sl c 3 (xs.map Val.cells), .clo g caps] false = some (.int .i64 (match xs.findIdx? P with | some k => (k : Int) | none => -1), h) := by
  rw [callS_eq, runD_eq find177 _ _ _ (by simp)]
  have hl := loop_idxVal d h c g caps xs P hs hhi hcap hg 1099511627775 (by omega)
  simp -implicitDefEqProofs (disch := omega) only [go_sem, Nat.reduceBEq, Nat.reduceAdd, Nat.reduceSub, Nat.reduceMul, Nat.reduceLeDiff, Nat.reduceEqDiff, Nat.reduceLT, Int.reduceNeg, Int.reduceAdd, Int.reduceSub, Int.reduceMul, Int.reduceLE, Int.reduceLT, Int.reduceEq, Int.reduceToNat, reduceCtorEq, hhi, hcap]
  rw [hl]
  cases hf : xs.findIdx? P <;> simp -implicitDefEqProofs only [go_sem, Nat.reduceBEq, Nat.reduceAdd, Nat.reduceSub, Nat.reduceMul, Nat.reduceLeDiff, Nat.reduceEqDiff, Nat.reduceLT, Int.reduceNeg, Int.reduceAdd, Int.reduceSub, Int.reduceMul, Int.reduceLE, Int.reduceLT, Int.reduceEq, Int.reduceToNat, reduceCtorEq, hhi, hcap]
theorem conVal (d : Nat) (h : Heap) (c : Bool) (g : Nat) (caps : List V) (xs : List (Val)) (P : Val → Bool) (hs : xs.length < 1099511627776) (hhi : h.all (hiB h.length) = true) (hcap : caps.all (hi0 h.length) = true)
    (hg : ∀ x ∈ xs, callS (runD tab noExt d) h g (V.agg (Val.cells x) :: caps) false = some (.bool (P x), h)) :
    callS (runD tab noExt (d + 2)) h 135 [.sl c 3 (xs.map Val.cells), .clo g caps] false = some (.bool (xs.any P), h) := by
  rw [callS_eq, runD_eq find135 _ _ _ (by simp)]
  have hl := idxVal d h c g caps xs P hs hhi hcap hg
  simp -implicitDefEqProofs (disch := omega) only [go_sem, Nat.reduceBEq, Nat.reduceAdd, Nat.reduceSub, Nat.reduceMul, Nat.reduceLeDiff, Nat.reduceEqDiff, Nat.reduceLT, Int.reduceNeg, Int.reduceAdd, Int.reduceSub, Int.reduceMul, Int.reduceLE, Int.reduceLT, Int.reduceEq, Int.reduceToNat, reduceCtorEq, hl, hhi, hcap]
  have e : xs.any P = (xs.findIdx? P).isSome := by simp [List.findIdx?_isSome]
  rw [e]
  cases hf : xs.findIdx? P <;> simp -implicitDefEqProofs only [go_sem, Nat.reduceBEq, Nat.reduceAdd, Nat.reduceSub, Nat.reduceMul, Nat.reduceLeDiff, Nat.reduceEqDiff, Nat.reduceLT, Int.reduceNeg, Int.reduceAdd, Int.reduceSub, Int.reduceMul, Int.reduceLE, Int.reduceLT, Int.reduceEq, Int.reduceToNat, reduceCtorEq, Option.isSome_some, Option.isSome_none]

theorem clo_row (d : Nat) (h : Heap) (hh : h.all (hiB h.length) = true) (x : Val) : callS (runD tab noExt (d + 4)) h 136 [.agg (Val.cells x)] false = some (.bool (!x.ok), h) := by
  rw [callS_eq, runD_eq find136 _ _ _ (by simp)]
  simp -implicitDefEqProofs (disch := omega) only [go_sem, Nat.reduceBEq, Nat.reduceAdd, Nat.reduceSub, Nat.reduceMul, Nat.reduceLeDiff, Nat.reduceEqDiff, Nat.reduceLT, Int.reduceNeg, Int.reduceAdd, Int.reduceSub, Int.reduceMul, Int.reduceLE, Int.reduceLT, Int.reduceEq, Int.reduceToNat, reduceCtorEq, run_ok, Val.cells, hh, List.all_append, Val.eta]
-- find80
theorem run_rowOkI (d : Nat) (c : Bool) (vs : List Val) (hs : vs.length < 1099511627776) : retP (runD tab noExt (d + 7)) 80 [.sl c 3 (vs.map Val.cells)] = some [.bool (rowOk vs)] := by
  rw [retP, runD_eq find80 _ _ _ (by simp)]
  have hcon := conVal (d + 4) [] c 136 [] vs (fun x => !x.ok) hs rfl rfl (fun x _ => clo_row d [] rfl x)
  simp -implicitDefEqProofs (disch := omega) only [go_sem, Nat.reduceBEq, Nat.reduceAdd, Nat.reduceSub, Nat.reduceMul, Nat.reduceLeDiff, Nat.reduceEqDiff, Nat.reduceLT, Int.reduceNeg, Int.reduceAdd, Int.reduceSub, Int.reduceMul, Int.reduceLE, Int.reduceLT, Int.reduceEq, Int.reduceToNat, reduceCtorEq, hcon]
  repeat' ((first | rw [GuardI_ndec] | rw [CondC_ndec] | rw [GuardQ_ndec] | rw [GuardI_dec] | rw [CondC_dec] | rw [GuardQ_dec] | rw [GuardI_nby] | rw [CondC_nby] | rw [GuardQ_nby] | rw [GuardQ_by] | rw [GuardI_by] | rw [CondC_by]) <;> split <;> simp -implicitDefEqProofs (disch := omega) only [go_sem, Nat.reduceBEq, Nat.reduceAdd, Nat.reduceSub, Nat.reduceMul, Nat.reduceLeDiff, Nat.reduceEqDiff, Nat.reduceLT, Int.reduceNeg, Int.reduceAdd, Int.reduceSub, Int.reduceMul, Int.reduceLE, Int.reduceLT, Int.reduceEq, Int.reduceToNat, reduceCtorEq, hcon, *])
  all_goals (simp_all [rowOk, List.any_eq_not_all_not]; try omega)
end Go.Proofs.Ytfbjbkkcilhgjaa.PE
/- Contents of trees as columns, values, rows, numbers. -/
set_option linter.unusedVariables false
set_option linter.unusedSimpArgs false
namespace Go.Proofs.Ytfbjbkkcilhgjaa.PE
open Go.RowKit

def colU (c : Col) : List U := [.int c.kind, .bool c.empty]
def valU (v : Val) : List U := [.int v.kind, .int v.n, .str v.s]
def vsU (vs : List Val) : List U := [.sub (vs.map valU)]
theorem typ_of {α : Type} {R : List V → List U → Prop} {f : α → List V} {g : α → List U} (h : ∀ c x, R c x → ∃ a, c = f a ∧ x = g a) : ∀ {l1 : List (List V)} {l2 : List (List U)}, Zip2 R l1 l2 → ∃ ls : List α, l1 = ls.map f ∧ l2 = ls.map g
  | [], [], _ => ⟨[], rfl, rfl⟩
  | c :: l1, x :: l2, ⟨h1, h2⟩ => by
    obtain ⟨a, rfl, rfl⟩ := h c x h1
    obtain ⟨ls, rfl, rfl⟩ := typ_of h h2
    exact ⟨a :: ls, rfl, rfl⟩
  | [], _ :: _, h => h.elim
  | _ :: _, [], h => h.elim
theorem valsU_of {l1 : List (List V)} {l2 : List (List U)} (h : Zip2 (PurR fdValue) l1 l2) : ∃ vs : List Val, l1 = vs.map Val.cells ∧ l2 = vs.map valU :=
  typ_of (fun c x hr => by obtain ⟨a, b, s, rfl, rfl⟩ := purR_Value hr; exact ⟨⟨a, b, s⟩, rfl, rfl⟩) h
theorem valU_inj {a b : Val} (h : valU a = valU b) : a = b := by
  cases a; cases b
  simp only [valU, List.cons.injEq, U.int.injEq, U.str.injEq, and_true] at h
  obtain ⟨rfl, rfl, rfl⟩ := h
  rfl
theorem map_inj {α β : Type} {g : α → β} (hg : ∀ a b, g a = g b → a = b) {l1 l2 : List α} (h : l1.map g = l2.map g) : l1 = l2 := (List.map_inj_right hg).1 h
/-- Values of one's own. -/
theorem own_flat {α : Type} {fs : List Fd} {f : α → List V} {g : α → List U} {h : Heap} (ho : ∀ a, OwnR h fs (f a) (g a) []) : ∀ (ls : List α), Zip3 (OwnR h fs) (ls.map f) (ls.map g) []
  | [] => rfl
  | a :: ls => ⟨[], [], rfl, ho a, own_flat ho ls⟩
theorem own_row {α : Type} {fs : List Fd} {f : α → List V} {g : α → List U} {h : Heap} {id st n : Nat} {clip : Bool} (hd : fs.any Fd.deep = false) (ls : List α) (hn : n = ls.length) (hb : h[id]? = some (.rows st fs.length (ls.map f))) (ho : ∀ a, OwnR h fs (f a) (g a) []) : OwnF h (.sub fs) (.ref id st 0 n clip) (.sub (ls.map g)) [id] := by
  simp only [OwnF]
  refine ⟨_, rfl, .inr ⟨id, st, clip, ls.map f, [], by rw [hn, List.length_map], ?_, rfl, own_flat ho ls⟩⟩
  rw [hb]
  unfold blkOf
  rw [hd]
  rfl
theorem own_nil {fs : List Fd} {h : Heap} {c : Bool} {n : Nat} (hn : n = fs.length) : OwnF h (.sub fs) (.sl c n []) (.sub []) [] := by
  subst hn
  rw [OwnF]
  exact ⟨[], rfl, .inl ⟨c, rfl, rfl, rfl⟩⟩
end Go.Proofs.Ytfbjbkkcilhgjaa.PE
/- Rows and columns as trees: what their sizes say, that only their values matter. -/
set_option linter.unusedVariables false
set_option linter.unusedSimpArgs false
set_option maxHeartbeats 4000000
namespace Go.Proofs.Ytfbjbkkcilhgjaa.PE
open Go.RowKit

def rowU (r : Row) : List U := vsU r.vs
end Go.Proofs.Ytfbjbkkcilhgjaa.PE
/- Versions: what is ok, in plain words. -/
set_option linter.unusedVariables false
set_option linter.unusedSimpArgs false
set_option maxHeartbeats 4000000
namespace Go.Proofs.Ytfbjbkkcilhgjaa.PE
open Go.RowKit

structure Ver where
  key : Int
  born : Int
  died : Int
  row : Row
def Ver.cells (v : Ver) : List V := [.int .i64 v.key, .int .i64 v.born, .int .i64 v.died, v.row.v]
def Ver.plain (v : Ver) : Ver := ⟨v.key, v.born, v.died, ⟨false, v.row.vs⟩⟩
def Ver.one (v : Ver) : Bool := decide (0 ≤ v.key ∧ v.key ≤ 4) && (decide (1 ≤ v.born ∧ v.born ≤ 40) && ((decide (v.died = 0) || decide (v.born + 1 ≤ v.died ∧ v.died ≤ 40)) && rowOk v.row.vs))
def ordS (w v : Ver) : Bool := !(decide (v.key ≤ w.key) && (decide (v.key < w.key) || (decide (w.died = 0) || decide (v.born < w.died))))
def ordI (w v : Ver) : Bool := !(decide (v.key < w.key) || (decide (w.key = v.key) && (decide (v.born ≤ w.born) || (decide (w.died = 0) || decide (v.born < w.died)))))
theorem ord_same {w v : Ver} (h : w.one = true) : ordI w v = ordS w v := by
  have h' : w.died = 0 ∨ w.born + 1 ≤ w.died := by
    simp only [Ver.one, Bool.and_eq_true, Bool.or_eq_true, decide_eq_true_eq] at h
    omega
  rw [Bool.eq_iff_iff]
  simp only [ordI, ordS, Bool.not_eq_true', Bool.or_eq_false_iff, Bool.and_eq_false_iff, decide_eq_false_iff_not]
  omega
/-- Each version with the one ahead of it. -/
def prevs : Option Ver → List Ver → List (Option Ver × Ver)
  | _, [] => []
  | o, v :: r => (o, v) :: prevs (some v) r
theorem prevs_len : ∀ (l : List Ver) (o : Option Ver), (prevs o l).length = l.length
  | [], _ => rfl
  | v :: r, o => by simp [prevs, prevs_len r]
theorem prevs_at : ∀ {l : List Ver} {o : Option Ver} {i : Nat} {p : Option Ver} {v : Ver}, (prevs o l)[i]? = some (p, v) → l[i]? = some v ∧ (i = 0 → p = o) ∧ ∀ j, i = j + 1 → p = l[j]?
  | [], _, i, _, _, h => by simp [prevs] at h
  | w :: r, o, 0, p, v, h => by
    simp only [prevs, List.getElem?_cons_zero, Option.some.injEq, Prod.mk.injEq] at h
    obtain ⟨rfl, rfl⟩ := h
    exact ⟨rfl, fun _ => rfl, fun j hj => by omega⟩
  | w :: r, o, i + 1, p, v, h => by
    simp only [prevs, List.getElem?_cons_succ] at h
    obtain ⟨h1, h2, h3⟩ := prevs_at h
    refine ⟨by simpa using h1, fun e => by omega, fun j hj => ?_⟩
    have : j = i := by omega
    subst this
    cases j with
    | zero => rw [h2 rfl]; rfl
    | succ j => rw [h3 j rfl]; simp
def okBy (f : Ver → Ver → Bool) (p : Option Ver × Ver) : Bool := p.2.one && (match p.1 with | none => true | some w => f w p.2)
theorem vers_same : ∀ (l : List Ver) (o : Option Ver), (∀ w, o = some w → w.one = true) → (prevs o l).all (okBy ordI) = (prevs o l).all (okBy ordS)
  | [], _, _ => rfl
  | v :: r, o, h => by
    simp only [prevs, List.all_cons]
    have e : okBy ordI (o, v) = okBy ordS (o, v) := by
      unfold okBy
      cases o with
      | none => rfl
      | some w => simp only [ord_same (h w rfl)]
    rw [e]
    cases hv : v.one
    · have : okBy ordS (o, v) = false := by simp [okBy, hv]
      rw [this, Bool.false_and, Bool.false_and]
    · rw [vers_same r (some v) (fun w hw => by cases hw; exact hv)]
def versOk (l : List Ver) : Bool := (prevs none l).all (okBy ordS) && decide ((l.length : Int) ≤ 60)
end Go.Proofs.Ytfbjbkkcilhgjaa.PE
/- Versions: both functions tell whether they are ok. -/
set_option linter.unusedVariables false
set_option linter.unusedSimpArgs false
set_option maxHeartbeats 4000000
namespace Go.Proofs.Ytfbjbkkcilhgjaa.PE
open Go.RowKit

-- find102
theorem run_l13 (d : Nat) (v : Ver) (h1 : v.row.vs.length < 1099511627776) (h2 : short v.row.vs) : retP (runD tab noExt (d + 4)) 102 [.agg [.int .i64 v.key, .int .i64 v.born, .int .i64 v.died, .sl v.row.clip 3 (v.row.vs.map Val.cells)]] = some [.bool v.one] := by
  rw [retP, runD_eq find102 _ _ _ (by simp)]
  have hr := run_rowOk d v.row.clip v.row.vs h1 h2
  obtain ⟨key, born, died, row⟩ := v
  simp only at hr h1 h2 ⊢
  unfold Ver.one
  simp only
  by_cases k1 : 0 ≤ key ∧ key ≤ 4
  · by_cases k2 : 1 ≤ born ∧ born ≤ 40
    · have k3 := k2.1
      have k4 := k2.2
      by_cases k5 : died = 0
      · simp -implicitDefEqProofs (disch := omega) only [go_sem, Nat.reduceBEq, Nat.reduceAdd, Nat.reduceSub, Nat.reduceMul, Nat.reduceLeDiff, Nat.reduceEqDiff, Nat.reduceLT, Int.reduceNeg, Int.reduceAdd, Int.reduceSub, Int.reduceMul, Int.reduceLE, Int.reduceLT, Int.reduceEq, Int.reduceToNat, reduceCtorEq, run_l1In, hr, Bool.true_or, Bool.false_or, (eq_true k1 : (0 ≤ key ∧ key ≤ 4) = True), (eq_true k2 : (1 ≤ born ∧ born ≤ 40) = True), (eq_true k5 : (died = 0) = True), IntWalk.i64_in]
      · by_cases k6 : born + 1 ≤ died ∧ died ≤ 40
        · simp -implicitDefEqProofs (disch := omega) only [go_sem, Nat.reduceBEq, Nat.reduceAdd, Nat.reduceSub, Nat.reduceMul, Nat.reduceLeDiff, Nat.reduceEqDiff, Nat.reduceLT, Int.reduceNeg, Int.reduceAdd, Int.reduceSub, Int.reduceMul, Int.reduceLE, Int.reduceLT, Int.reduceEq, Int.reduceToNat, reduceCtorEq, run_l1In, hr, Bool.true_or, Bool.false_or, (eq_true k1 : (0 ≤ key ∧ key ≤ 4) = True), (eq_true k2 : (1 ≤ born ∧ born ≤ 40) = True), (eq_false k5 : (died = 0) = False), (eq_true k6 : (born + 1 ≤ died ∧ died ≤ 40) = True), IntWalk.i64_in]
        · simp -implicitDefEqProofs (disch := omega) only [go_sem, Nat.reduceBEq, Nat.reduceAdd, Nat.reduceSub, Nat.reduceMul, Nat.reduceLeDiff, Nat.reduceEqDiff, Nat.reduceLT, Int.reduceNeg, Int.reduceAdd, Int.reduceSub, Int.reduceMul, Int.reduceLE, Int.reduceLT, Int.reduceEq, Int.reduceToNat, reduceCtorEq, run_l1In, hr, Bool.true_or, Bool.false_or, (eq_true k1 : (0 ≤ key ∧ key ≤ 4) = True), (eq_true k2 : (1 ≤ born ∧ born ≤ 40) = True), (eq_false k5 : (died = 0) = False), (eq_false k6 : (born + 1 ≤ died ∧ died ≤ 40) = False), IntWalk.i64_in]
    · simp -implicitDefEqProofs (disch := omega) only [go_sem, Nat.reduceBEq, Nat.reduceAdd, Nat.reduceSub, Nat.reduceMul, Nat.reduceLeDiff, Nat.reduceEqDiff, Nat.reduceLT, Int.reduceNeg, Int.reduceAdd, Int.reduceSub, Int.reduceMul, Int.reduceLE, Int.reduceLT, Int.reduceEq, Int.reduceToNat, reduceCtorEq, run_l1In, hr, Bool.true_or, Bool.false_or, (eq_true k1 : (0 ≤ key ∧ key ≤ 4) = True), (eq_false k2 : (1 ≤ born ∧ born ≤ 40) = False), IntWalk.i64_in]
  · simp -implicitDefEqProofs (disch := omega) only [go_sem, Nat.reduceBEq, Nat.reduceAdd, Nat.reduceSub, Nat.reduceMul, Nat.reduceLeDiff, Nat.reduceEqDiff, Nat.reduceLT, Int.reduceNeg, Int.reduceAdd, Int.reduceSub, Int.reduceMul, Int.reduceLE, Int.reduceLT, Int.reduceEq, Int.reduceToNat, reduceCtorEq, run_l1In, hr, Bool.true_or, Bool.false_or, (eq_false k1 : (0 ≤ key ∧ key ≤ 4) = False), IntWalk.i64_in]
def ShortVs (l : List Ver) : Prop := ∀ v ∈ l, v.row.vs.length < 1099511627776 ∧ short v.row.vs
theorem loop_versS (d : Nat) (c : Bool) (l : List Ver) (hs : l.length < 1099511627776) (hsh : ShortVs l) (K : Nat) (hK : (prevs none l).length ≤ K) :
    LoopS (runD tab noExt (d + 4)) (drawI (runD tab noExt (d + 4))) [0, 3] [0, 2] L62x0 0 K [(0, .sl c 4 (l.map Ver.cells)), (3, .int .i64 0)] [] = if (prevs none l).all (okBy ordS) then (some (.exit 0, [(0, .sl c 4 (l.map Ver.cells)), (2, .undef)], []) : Out) else some (.ret, [(0, .sl c 4 (l.map Ver.cells)), (2, .bool false)], []) := by
  have key := LoopS_all (run := runD tab noExt (d + 4)) (draw := drawI (runD tab noExt (d + 4))) (live := [0, 3]) (out := [0, 2]) (c := L62x0) (n0 := 0) (prevs none l) (okBy ordS) (fun (i : Nat) => [(0, .sl c 4 (l.map Ver.cells)), (3, .int .i64 (i : Int))]) [] (some (.exit 0, [(0, .sl c 4 (l.map Ver.cells)), (2, .undef)], [])) (some (.ret, [(0, .sl c 4 (l.map Ver.cells)), (2, .bool false)], [])) (fun K => ?_) (fun (i : Nat) x K hi hx => ?_) K hK
  · simp only [Int.natCast_zero] at key
    exact key
  · rw [LoopS_eq, prevs_len]
    simp -implicitDefEqProofs only [go_sem, Nat.reduceBEq, Nat.reduceAdd, Nat.reduceSub, Nat.reduceMul, Nat.reduceLeDiff, Nat.reduceEqDiff, Nat.reduceLT, Int.reduceNeg, Int.reduceAdd, Int.reduceSub, Int.reduceMul, Int.reduceLE, Int.reduceLT, Int.reduceEq, Int.reduceToNat, reduceCtorEq, evL62x0, B62x0, Int.lt_irrefl]
  · obtain ⟨p, v⟩ := x
    rw [prevs_len] at hi
    obtain ⟨g1, g2, g3⟩ := prevs_at hx
    obtain ⟨h1, h2⟩ := hsh v (List.mem_of_getElem? g1)
    have hv := run_l13 d v h1 h2
    rw [LoopS_eq]
    unfold okBy
    cases hone : v.one
    · rw [hone] at hv
      simp -implicitDefEqProofs (disch := omega) only [go_sem, Nat.reduceBEq, Nat.reduceAdd, Nat.reduceSub, Nat.reduceMul, Nat.reduceLeDiff, Nat.reduceEqDiff, Nat.reduceLT, Int.reduceNeg, Int.reduceAdd, Int.reduceSub, Int.reduceMul, Int.reduceLE, Int.reduceLT, Int.reduceEq, Int.reduceToNat, reduceCtorEq, evL62x0, B62x0, hi, g1, hv, Ver.cells, Row.v, IntWalk.i64_in]
    · rw [hone] at hv
      cases i with
      | zero =>
        obtain rfl := g2 rfl
        have hi0 : (0 : Int) < l.length := by omega
        simp -implicitDefEqProofs (disch := omega) only [go_sem, Nat.reduceBEq, Nat.reduceAdd, Nat.reduceSub, Nat.reduceMul, Nat.reduceLeDiff, Nat.reduceEqDiff, Nat.reduceLT, Int.reduceNeg, Int.reduceAdd, Int.reduceSub, Int.reduceMul, Int.reduceLE, Int.reduceLT, Int.reduceEq, Int.reduceToNat, reduceCtorEq, evL62x0, B62x0, evC_draw, evD62x0, E62x0, hi0, g1, hv, Ver.cells, Row.v, IntWalk.i64_in, Int.natCast_zero]
      | succ j =>
        have hj : j < l.length := by omega
        have hw := List.getElem?_eq_getElem hj
        obtain rfl := (g3 j rfl).trans hw
        generalize l[j] = w at hw
        have hp : (0 : Int) < (j : Int) + 1 := by omega
        have hj' : (j : Int) < l.length := by omega
        have hp0 : (0 : Int) ≤ (j : Int) + 1 := by omega
        have htn : ((j : Int) + 1).toNat = j + 1 := by omega
        have hi' : (j : Int) + 1 < l.length := by omega
        unfold ordS
        by_cases k1 : v.key ≤ w.key
        · by_cases k2 : v.key < w.key
          · simp -implicitDefEqProofs (disch := omega) only [go_sem, Nat.reduceBEq, Nat.reduceAdd, Nat.reduceSub, Nat.reduceMul, Nat.reduceLeDiff, Nat.reduceEqDiff, Nat.reduceLT, Int.reduceNeg, Int.reduceAdd, Int.reduceSub, Int.reduceMul, Int.reduceLE, Int.reduceLT, Int.reduceEq, Int.reduceToNat, reduceCtorEq, evL62x0, B62x0, evC_draw, evD62x0, E62x0, hi', hj', hp0, htn, hp, hw, g1, hv, Ver.cells, Row.v, IntWalk.i64_in, Int.add_sub_cancel, Int.add_assoc, Bool.true_or, Bool.false_or, (eq_true k1 : (v.key ≤ w.key) = True), (eq_true k2 : (v.key < w.key) = True)]
          · by_cases k3 : w.died = 0
            · simp -implicitDefEqProofs (disch := omega) only [go_sem, Nat.reduceBEq, Nat.reduceAdd, Nat.reduceSub, Nat.reduceMul, Nat.reduceLeDiff, Nat.reduceEqDiff, Nat.reduceLT, Int.reduceNeg, Int.reduceAdd, Int.reduceSub, Int.reduceMul, Int.reduceLE, Int.reduceLT, Int.reduceEq, Int.reduceToNat, reduceCtorEq, evL62x0, B62x0, evC_draw, evD62x0, E62x0, hi', hj', hp0, htn, hp, hw, g1, hv, Ver.cells, Row.v, IntWalk.i64_in, Int.add_sub_cancel, Int.add_assoc, Bool.true_or, Bool.false_or, (eq_true k1 : (v.key ≤ w.key) = True), (eq_false k2 : (v.key < w.key) = False), (eq_true k3 : (w.died = 0) = True)]
            · by_cases k4 : v.born < w.died
              · simp -implicitDefEqProofs (disch := omega) only [go_sem, Nat.reduceBEq, Nat.reduceAdd, Nat.reduceSub, Nat.reduceMul, Nat.reduceLeDiff, Nat.reduceEqDiff, Nat.reduceLT, Int.reduceNeg, Int.reduceAdd, Int.reduceSub, Int.reduceMul, Int.reduceLE, Int.reduceLT, Int.reduceEq, Int.reduceToNat, reduceCtorEq, evL62x0, B62x0, evC_draw, evD62x0, E62x0, hi', hj', hp0, htn, hp, hw, g1, hv, Ver.cells, Row.v, IntWalk.i64_in, Int.add_sub_cancel, Int.add_assoc, Bool.true_or, Bool.false_or, (eq_true k1 : (v.key ≤ w.key) = True), (eq_false k2 : (v.key < w.key) = False), (eq_false k3 : (w.died = 0) = False), (eq_true k4 : (v.born < w.died) = True)]
              · simp -implicitDefEqProofs (disch := omega) only [go_sem, Nat.reduceBEq, Nat.reduceAdd, Nat.reduceSub, Nat.reduceMul, Nat.reduceLeDiff, Nat.reduceEqDiff, Nat.reduceLT, Int.reduceNeg, Int.reduceAdd, Int.reduceSub, Int.reduceMul, Int.reduceLE, Int.reduceLT, Int.reduceEq, Int.reduceToNat, reduceCtorEq, evL62x0, B62x0, evC_draw, evD62x0, E62x0, hi', hj', hp0, htn, hp, hw, g1, hv, Ver.cells, Row.v, IntWalk.i64_in, Int.add_sub_cancel, Int.add_assoc, Bool.true_or, Bool.false_or, (eq_true k1 : (v.key ≤ w.key) = True), (eq_false k2 : (v.key < w.key) = False), (eq_false k3 : (w.died = 0) = False), (eq_false k4 : (v.born < w.died) = False)]
        · simp -implicitDefEqProofs (disch := omega) only [go_sem, Nat.reduceBEq, Nat.reduceAdd, Nat.reduceSub, Nat.reduceMul, Nat.reduceLeDiff, Nat.reduceEqDiff, Nat.reduceLT, Int.reduceNeg, Int.reduceAdd, Int.reduceSub, Int.reduceMul, Int.reduceLE, Int.reduceLT, Int.reduceEq, Int.reduceToNat, reduceCtorEq, evL62x0, B62x0, evC_draw, evD62x0, E62x0, hi', hj', hp0, htn, hp, hw, g1, hv, Ver.cells, Row.v, IntWalk.i64_in, Int.add_sub_cancel, Int.add_assoc, Bool.true_or, Bool.false_or, (eq_false k1 : (v.key ≤ w.key) = False)]
-- find62
theorem run_versS (d : Nat) (c : Bool) (l : List Ver) (hs : l.length < 1099511627776) (hsh : ShortVs l) : retP (runD tab noExt (d + 5)) 62 [.sl c 4 (l.map Ver.cells)] = some [.bool (versOk l)] := by
  rw [retP, runD_eq find62 _ _ _ (by simp)]
  have hl := loop_versS d c l hs hsh 1099511627775 (by rw [prevs_len]; omega)
  simp -implicitDefEqProofs (disch := omega) only [go_sem, Nat.reduceBEq, Nat.reduceAdd, Nat.reduceSub, Nat.reduceMul, Nat.reduceLeDiff, Nat.reduceEqDiff, Nat.reduceLT, Int.reduceNeg, Int.reduceAdd, Int.reduceSub, Int.reduceMul, Int.reduceLE, Int.reduceLT, Int.reduceEq, Int.reduceToNat, reduceCtorEq]
  rw [hl]
  unfold versOk
  cases h : (prevs none l).all (okBy ordS)
  · simp -implicitDefEqProofs (disch := omega) only [go_sem, Nat.reduceBEq, Nat.reduceAdd, Nat.reduceSub, Nat.reduceMul, Nat.reduceLeDiff, Nat.reduceEqDiff, Nat.reduceLT, Int.reduceNeg, Int.reduceAdd, Int.reduceSub, Int.reduceMul, Int.reduceLE, Int.reduceLT, Int.reduceEq, Int.reduceToNat, reduceCtorEq]
  · by_cases h60 : (l.length : Int) ≤ 60 <;> simp -implicitDefEqProofs (disch := omega) only [go_sem, Nat.reduceBEq, Nat.reduceAdd, Nat.reduceSub, Nat.reduceMul, Nat.reduceLeDiff, Nat.reduceEqDiff, Nat.reduceLT, Int.reduceNeg, Int.reduceAdd, Int.reduceSub, Int.reduceMul, Int.reduceLE, Int.reduceLT, Int.reduceEq, Int.reduceToNat, reduceCtorEq, h60]
theorem run_keyOk (d : Nat) (n : Int) : retP (runD tab noExt (d + 2)) 78 [.int .i64 n] = some [.bool (decide (0 ≤ n ∧ n ≤ 4))] := by
  rw [retP, runD_eq find78 _ _ _ (by simp)]
  simp -implicitDefEqProofs (disch := omega) only [go_sem, Nat.reduceBEq, Nat.reduceAdd, Nat.reduceSub, Nat.reduceMul, Nat.reduceLeDiff, Nat.reduceEqDiff, Nat.reduceLT, Int.reduceNeg, Int.reduceAdd, Int.reduceSub, Int.reduceMul, Int.reduceLE, Int.reduceLT, Int.reduceEq, Int.reduceToNat, reduceCtorEq, run_between]
  repeat' ((first | rw [GuardI_ndec] | rw [CondC_ndec] | rw [GuardQ_ndec] | rw [GuardI_dec] | rw [CondC_dec] | rw [GuardQ_dec] | rw [GuardI_nby] | rw [CondC_nby] | rw [GuardQ_nby] | rw [GuardQ_by] | rw [GuardI_by] | rw [CondC_by]) <;> split <;> simp -implicitDefEqProofs (disch := omega) only [go_sem, Nat.reduceBEq, Nat.reduceAdd, Nat.reduceSub, Nat.reduceMul, Nat.reduceLeDiff, Nat.reduceEqDiff, Nat.reduceLT, Int.reduceNeg, Int.reduceAdd, Int.reduceSub, Int.reduceMul, Int.reduceLE, Int.reduceLT, Int.reduceEq, Int.reduceToNat, reduceCtorEq, run_between, *])
  all_goals simp_all
theorem loop_versI (d : Nat) (c : Bool) (l : List Ver) (hs : l.length < 1099511627776) (hsh : ShortVs l) (K : Nat) (hK : (prevs none l).length ≤ K) :
    LoopS (runD tab noExt (d + 7)) (drawI (runD tab noExt (d + 7))) [0, 6, 7, 8] [0, 2] L23x0 0 K [(0, .sl c 4 (l.map Ver.cells)), (6, .sl c 4 (l.map Ver.cells)), (7, .int .i64 l.length), (8, .int .i64 0)] [] = if (prevs none l).all (okBy ordI) then (some (.exit 0, [(0, .sl c 4 (l.map Ver.cells)), (2, .undef)], []) : Out) else some (.ret, [(0, .sl c 4 (l.map Ver.cells)), (2, .bool false)], []) := by
  have key := LoopS_all (run := runD tab noExt (d + 7)) (draw := drawI (runD tab noExt (d + 7))) (live := [0, 6, 7, 8]) (out := [0, 2]) (c := L23x0) (n0 := 0) (prevs none l) (okBy ordI) (fun (i : Nat) => [(0, .sl c 4 (l.map Ver.cells)), (6, .sl c 4 (l.map Ver.cells)), (7, .int .i64 l.length), (8, .int .i64 (i : Int))]) [] (some (.exit 0, [(0, .sl c 4 (l.map Ver.cells)), (2, .undef)], [])) (some (.ret, [(0, .sl c 4 (l.map Ver.cells)), (2, .bool false)], [])) (fun K => ?_) (fun (i : Nat) x K hi hx => ?_) K hK
  · simp only [Int.natCast_zero] at key
    exact key
  · rw [LoopS_eq, prevs_len]
    simp -implicitDefEqProofs only [go_sem, Nat.reduceBEq, Nat.reduceAdd, Nat.reduceSub, Nat.reduceMul, Nat.reduceLeDiff, Nat.reduceEqDiff, Nat.reduceLT, Int.reduceNeg, Int.reduceAdd, Int.reduceSub, Int.reduceMul, Int.reduceLE, Int.reduceLT, Int.reduceEq, Int.reduceToNat, reduceCtorEq, evL23x0, B23x0, Int.lt_irrefl]
  · obtain ⟨p, v⟩ := x
    rw [prevs_len] at hi
    obtain ⟨g1, g2, g3⟩ := prevs_at hx
    obtain ⟨h1, h2⟩ := hsh v (List.mem_of_getElem? g1)
    have hr := run_rowOkI d v.row.clip v.row.vs h1
    rw [LoopS_eq]
    have bad : v.one = false → ∀ (A B : Out), (if okBy ordI (p, v) = true then A else B) = B := fun h A B => by simp only [okBy, h, Bool.false_and, Bool.false_eq_true, if_false]
    by_cases k1 : 0 ≤ v.key ∧ v.key ≤ 4
    rotate_left
    · rw [bad (by simp [Ver.one, k1])]
      simp -implicitDefEqProofs (disch := omega) only [go_sem, Nat.reduceBEq, Nat.reduceAdd, Nat.reduceSub, Nat.reduceMul, Nat.reduceLeDiff, Nat.reduceEqDiff, Nat.reduceLT, Int.reduceNeg, Int.reduceAdd, Int.reduceSub, Int.reduceMul, Int.reduceLE, Int.reduceLT, Int.reduceEq, Int.reduceToNat, reduceCtorEq, evL23x0, B23x0, run_keyOk, run_between, hr, g1, Ver.cells, Row.v, IntWalk.i64_in, Int.add_sub_cancel, Int.add_assoc, Bool.true_or, Bool.false_or, hi, (eq_false k1 : (0 ≤ v.key ∧ v.key ≤ 4) = False)]
    by_cases k2 : 1 ≤ v.born ∧ v.born ≤ 40
    rotate_left
    · rw [bad (by simp [Ver.one, k2])]
      simp -implicitDefEqProofs (disch := omega) only [go_sem, Nat.reduceBEq, Nat.reduceAdd, Nat.reduceSub, Nat.reduceMul, Nat.reduceLeDiff, Nat.reduceEqDiff, Nat.reduceLT, Int.reduceNeg, Int.reduceAdd, Int.reduceSub, Int.reduceMul, Int.reduceLE, Int.reduceLT, Int.reduceEq, Int.reduceToNat, reduceCtorEq, evL23x0, B23x0, run_keyOk, run_between, hr, g1, Ver.cells, Row.v, IntWalk.i64_in, Int.add_sub_cancel, Int.add_assoc, Bool.true_or, Bool.false_or, hi, (eq_true k1 : (0 ≤ v.key ∧ v.key ≤ 4) = True), (eq_false k2 : (1 ≤ v.born ∧ v.born ≤ 40) = False)]
    have k3 := k2.1
    have k4 := k2.2
    have hd : (v.died = 0 ∨ (¬ v.died = 0 ∧ (v.born + 1 ≤ v.died ∧ v.died ≤ 40))) ∨ (¬ v.died = 0 ∧ ¬ (v.born + 1 ≤ v.died ∧ v.died ≤ 40)) := by omega
    rcases hd with hd | ⟨k5, k6⟩
    rotate_left
    · rw [bad (by simp [Ver.one, k5, k6])]
      simp -implicitDefEqProofs (disch := omega) only [go_sem, Nat.reduceBEq, Nat.reduceAdd, Nat.reduceSub, Nat.reduceMul, Nat.reduceLeDiff, Nat.reduceEqDiff, Nat.reduceLT, Int.reduceNeg, Int.reduceAdd, Int.reduceSub, Int.reduceMul, Int.reduceLE, Int.reduceLT, Int.reduceEq, Int.reduceToNat, reduceCtorEq, evL23x0, B23x0, run_keyOk, run_between, hr, g1, Ver.cells, Row.v, IntWalk.i64_in, Int.add_sub_cancel, Int.add_assoc, Bool.true_or, Bool.false_or, hi, (eq_true k1 : (0 ≤ v.key ∧ v.key ≤ 4) = True), (eq_true k2 : (1 ≤ v.born ∧ v.born ≤ 40) = True), (eq_false k5 : (v.died = 0) = False), (eq_false k6 : (v.born + 1 ≤ v.died ∧ v.died ≤ 40) = False)]
    cases hro : rowOk v.row.vs
    · rw [bad (by simp [Ver.one, hro])]
      rw [hro] at hr
      rcases hd with k5 | ⟨k5, k6⟩
      · simp -implicitDefEqProofs (disch := omega) only [go_sem, Nat.reduceBEq, Nat.reduceAdd, Nat.reduceSub, Nat.reduceMul, Nat.reduceLeDiff, Nat.reduceEqDiff, Nat.reduceLT, Int.reduceNeg, Int.reduceAdd, Int.reduceSub, Int.reduceMul, Int.reduceLE, Int.reduceLT, Int.reduceEq, Int.reduceToNat, reduceCtorEq, evL23x0, B23x0, run_keyOk, run_between, hr, g1, Ver.cells, Row.v, IntWalk.i64_in, Int.add_sub_cancel, Int.add_assoc, Bool.true_or, Bool.false_or, hi, (eq_true k1 : (0 ≤ v.key ∧ v.key ≤ 4) = True), (eq_true k2 : (1 ≤ v.born ∧ v.born ≤ 40) = True), (eq_true k5 : (v.died = 0) = True)]
      · simp -implicitDefEqProofs (disch := omega) only [go_sem, Nat.reduceBEq, Nat.reduceAdd, Nat.reduceSub, Nat.reduceMul, Nat.reduceLeDiff, Nat.reduceEqDiff, Nat.reduceLT, Int.reduceNeg, Int.reduceAdd, Int.reduceSub, Int.reduceMul, Int.reduceLE, Int.reduceLT, Int.reduceEq, Int.reduceToNat, reduceCtorEq, evL23x0, B23x0, run_keyOk, run_between, hr, g1, Ver.cells, Row.v, IntWalk.i64_in, Int.add_sub_cancel, Int.add_assoc, Bool.true_or, Bool.false_or, hi, (eq_true k1 : (0 ≤ v.key ∧ v.key ≤ 4) = True), (eq_true k2 : (1 ≤ v.born ∧ v.born ≤ 40) = True), (eq_false k5 : (v.died = 0) = False), (eq_true k6 : (v.born + 1 ≤ v.died ∧ v.died ≤ 40) = True)]
    have hone : v.one = true := by
      rcases hd with k5 | ⟨k5, k6⟩ <;> simp [Ver.one, k1, k2, k5, hro]
      exact k6
    rw [hro] at hr
    cases i with
    | zero =>
      obtain rfl := g2 rfl
      have hi0 : (0 : Int) < l.length := by omega
      have e : okBy ordI (none, v) = true := by simp [okBy, hone]
      rw [e]
      rcases hd with k5 | ⟨k5, k6⟩
      · simp -implicitDefEqProofs (disch := omega) only [go_sem, Nat.reduceBEq, Nat.reduceAdd, Nat.reduceSub, Nat.reduceMul, Nat.reduceLeDiff, Nat.reduceEqDiff, Nat.reduceLT, Int.reduceNeg, Int.reduceAdd, Int.reduceSub, Int.reduceMul, Int.reduceLE, Int.reduceLT, Int.reduceEq, Int.reduceToNat, reduceCtorEq, evL23x0, B23x0, run_keyOk, run_between, hr, g1, Ver.cells, Row.v, IntWalk.i64_in, Int.add_sub_cancel, Int.add_assoc, Bool.true_or, Bool.false_or, hi0, (eq_true k1 : (0 ≤ v.key ∧ v.key ≤ 4) = True), (eq_true k2 : (1 ≤ v.born ∧ v.born ≤ 40) = True), (eq_true k5 : (v.died = 0) = True), Int.natCast_zero]
      · simp -implicitDefEqProofs (disch := omega) only [go_sem, Nat.reduceBEq, Nat.reduceAdd, Nat.reduceSub, Nat.reduceMul, Nat.reduceLeDiff, Nat.reduceEqDiff, Nat.reduceLT, Int.reduceNeg, Int.reduceAdd, Int.reduceSub, Int.reduceMul, Int.reduceLE, Int.reduceLT, Int.reduceEq, Int.reduceToNat, reduceCtorEq, evL23x0, B23x0, run_keyOk, run_between, hr, g1, Ver.cells, Row.v, IntWalk.i64_in, Int.add_sub_cancel, Int.add_assoc, Bool.true_or, Bool.false_or, hi0, (eq_true k1 : (0 ≤ v.key ∧ v.key ≤ 4) = True), (eq_true k2 : (1 ≤ v.born ∧ v.born ≤ 40) = True), (eq_false k5 : (v.died = 0) = False), (eq_true k6 : (v.born + 1 ≤ v.died ∧ v.died ≤ 40) = True), Int.natCast_zero]
    | succ j =>
      have hj : j < l.length := by omega
      have hw := List.getElem?_eq_getElem hj
      obtain rfl := (g3 j rfl).trans hw
      generalize l[j] = w at hw
      have hp : ((j : Int) + 1 = 0) = False := eq_false (by omega)
      have hj' : (j : Int) < l.length := by omega
      have hp0 : (0 : Int) ≤ (j : Int) + 1 := by omega
      have htn : ((j : Int) + 1).toNat = j + 1 := by omega
      have hi' : (j : Int) + 1 < l.length := by omega
      have e : okBy ordI (some w, v) = ordI w v := by simp [okBy, hone]
      rw [e]
      unfold ordI
      have cases5 : v.key < w.key ∨ (¬ v.key < w.key ∧ ¬ w.key = v.key) ∨ (¬ v.key < w.key ∧ w.key = v.key ∧ v.born ≤ w.born) ∨ (¬ v.key < w.key ∧ w.key = v.key ∧ ¬ v.born ≤ w.born ∧ w.died = 0) ∨ (¬ v.key < w.key ∧ w.key = v.key ∧ ¬ v.born ≤ w.born ∧ ¬ w.died = 0 ∧ v.born < w.died) ∨ (¬ v.key < w.key ∧ w.key = v.key ∧ ¬ v.born ≤ w.born ∧ ¬ w.died = 0 ∧ ¬ v.born < w.died) := by omega
      rcases cases5 with c1 | ⟨c1, c2⟩ | ⟨c1, c2, c3⟩ | ⟨c1, c2, c3, c4⟩ | ⟨c1, c2, c3, c4, c5⟩ | ⟨c1, c2, c3, c4, c5⟩
      · rcases hd with k5 | ⟨k5, k6⟩
        · simp -implicitDefEqProofs (disch := omega) only [go_sem, Nat.reduceBEq, Nat.reduceAdd, Nat.reduceSub, Nat.reduceMul, Nat.reduceLeDiff, Nat.reduceEqDiff, Nat.reduceLT, Int.reduceNeg, Int.reduceAdd, Int.reduceSub, Int.reduceMul, Int.reduceLE, Int.reduceLT, Int.reduceEq, Int.reduceToNat, reduceCtorEq, evL23x0, B23x0, run_keyOk, run_between, hr, g1, Ver.cells, Row.v, IntWalk.i64_in, Int.add_sub_cancel, Int.add_assoc, Bool.true_or, Bool.false_or, hi', hj', hp0, htn, hp, hw, (eq_true k1 : (0 ≤ v.key ∧ v.key ≤ 4) = True), (eq_true k2 : (1 ≤ v.born ∧ v.born ≤ 40) = True), (eq_true k5 : (v.died = 0) = True), (eq_true c1 : (v.key < w.key) = True)]
        · simp -implicitDefEqProofs (disch := omega) only [go_sem, Nat.reduceBEq, Nat.reduceAdd, Nat.reduceSub, Nat.reduceMul, Nat.reduceLeDiff, Nat.reduceEqDiff, Nat.reduceLT, Int.reduceNeg, Int.reduceAdd, Int.reduceSub, Int.reduceMul, Int.reduceLE, Int.reduceLT, Int.reduceEq, Int.reduceToNat, reduceCtorEq, evL23x0, B23x0, run_keyOk, run_between, hr, g1, Ver.cells, Row.v, IntWalk.i64_in, Int.add_sub_cancel, Int.add_assoc, Bool.true_or, Bool.false_or, hi', hj', hp0, htn, hp, hw, (eq_true k1 : (0 ≤ v.key ∧ v.key ≤ 4) = True), (eq_true k2 : (1 ≤ v.born ∧ v.born ≤ 40) = True), (eq_false k5 : (v.died = 0) = False), (eq_true k6 : (v.born + 1 ≤ v.died ∧ v.died ≤ 40) = True), (eq_true c1 : (v.key < w.key) = True)]
      · rcases hd with k5 | ⟨k5, k6⟩
        · simp -implicitDefEqProofs (disch := omega) only [go_sem, Nat.reduceBEq, Nat.reduceAdd, Nat.reduceSub, Nat.reduceMul, Nat.reduceLeDiff, Nat.reduceEqDiff, Nat.reduceLT, Int.reduceNeg, Int.reduceAdd, Int.reduceSub, Int.reduceMul, Int.reduceLE, Int.reduceLT, Int.reduceEq, Int.reduceToNat, reduceCtorEq, evL23x0, B23x0, run_keyOk, run_between, hr, g1, Ver.cells, Row.v, IntWalk.i64_in, Int.add_sub_cancel, Int.add_assoc, Bool.true_or, Bool.false_or, hi', hj', hp0, htn, hp, hw, (eq_true k1 : (0 ≤ v.key ∧ v.key ≤ 4) = True), (eq_true k2 : (1 ≤ v.born ∧ v.born ≤ 40) = True), (eq_true k5 : (v.died = 0) = True), (eq_false c1 : (v.key < w.key) = False), (eq_false c2 : (w.key = v.key) = False)]
        · simp -implicitDefEqProofs (disch := omega) only [go_sem, Nat.reduceBEq, Nat.reduceAdd, Nat.reduceSub, Nat.reduceMul, Nat.reduceLeDiff, Nat.reduceEqDiff, Nat.reduceLT, Int.reduceNeg, Int.reduceAdd, Int.reduceSub, Int.reduceMul, Int.reduceLE, Int.reduceLT, Int.reduceEq, Int.reduceToNat, reduceCtorEq, evL23x0, B23x0, run_keyOk, run_between, hr, g1, Ver.cells, Row.v, IntWalk.i64_in, Int.add_sub_cancel, Int.add_assoc, Bool.true_or, Bool.false_or, hi', hj', hp0, htn, hp, hw, (eq_true k1 : (0 ≤ v.key ∧ v.key ≤ 4) = True), (eq_true k2 : (1 ≤ v.born ∧ v.born ≤ 40) = True), (eq_false k5 : (v.died = 0) = False), (eq_true k6 : (v.born + 1 ≤ v.died ∧ v.died ≤ 40) = True), (eq_false c1 : (v.key < w.key) = False), (eq_false c2 : (w.key = v.key) = False)]
      · rcases hd with k5 | ⟨k5, k6⟩
        · simp -implicitDefEqProofs (disch := omega) only [go_sem, Nat.reduceBEq, Nat.reduceAdd, Nat.reduceSub, Nat.reduceMul, Nat.reduceLeDiff, Nat.reduceEqDiff, Nat.reduceLT, Int.reduceNeg, Int.reduceAdd, Int.reduceSub, Int.reduceMul, Int.reduceLE, Int.reduceLT, Int.reduceEq, Int.reduceToNat, reduceCtorEq, evL23x0, B23x0, run_keyOk, run_between, hr, g1, Ver.cells, Row.v, IntWalk.i64_in, Int.add_sub_cancel, Int.add_assoc, Bool.true_or, Bool.false_or, hi', hj', hp0, htn, hp, hw, (eq_true k1 : (0 ≤ v.key ∧ v.key ≤ 4) = True), (eq_true k2 : (1 ≤ v.born ∧ v.born ≤ 40) = True), (eq_true k5 : (v.died = 0) = True), (eq_false c1 : (v.key < w.key) = False), (eq_true c2 : (w.key = v.key) = True), (eq_true c3 : (v.born ≤ w.born) = True)]
        · simp -implicitDefEqProofs (disch := omega) only [go_sem, Nat.reduceBEq, Nat.reduceAdd, Nat.reduceSub, Nat.reduceMul, Nat.reduceLeDiff, Nat.reduceEqDiff, Nat.reduceLT, Int.reduceNeg, Int.reduceAdd, Int.reduceSub, Int.reduceMul, Int.reduceLE, Int.reduceLT, Int.reduceEq, Int.reduceToNat, reduceCtorEq, evL23x0, B23x0, run_keyOk, run_between, hr, g1, Ver.cells, Row.v, IntWalk.i64_in, Int.add_sub_cancel, Int.add_assoc, Bool.true_or, Bool.false_or, hi', hj', hp0, htn, hp, hw, (eq_true k1 : (0 ≤ v.key ∧ v.key ≤ 4) = True), (eq_true k2 : (1 ≤ v.born ∧ v.born ≤ 40) = True), (eq_false k5 : (v.died = 0) = False), (eq_true k6 : (v.born + 1 ≤ v.died ∧ v.died ≤ 40) = True), (eq_false c1 : (v.key < w.key) = False), (eq_true c2 : (w.key = v.key) = True), (eq_true c3 : (v.born ≤ w.born) = True)]
      · rcases hd with k5 | ⟨k5, k6⟩
        · simp -implicitDefEqProofs (disch := omega) only [go_sem, Nat.reduceBEq, Nat.reduceAdd, Nat.reduceSub, Nat.reduceMul, Nat.reduceLeDiff, Nat.reduceEqDiff, Nat.reduceLT, Int.reduceNeg, Int.reduceAdd, Int.reduceSub, Int.reduceMul, Int.reduceLE, Int.reduceLT, Int.reduceEq, Int.reduceToNat, reduceCtorEq, evL23x0, B23x0, run_keyOk, run_between, hr, g1, Ver.cells, Row.v, IntWalk.i64_in, Int.add_sub_cancel, Int.add_assoc, Bool.true_or, Bool.false_or, hi', hj', hp0, htn, hp, hw, (eq_true k1 : (0 ≤ v.key ∧ v.key ≤ 4) = True), (eq_true k2 : (1 ≤ v.born ∧ v.born ≤ 40) = True), (eq_true k5 : (v.died = 0) = True), (eq_false c1 : (v.key < w.key) = False), (eq_true c2 : (w.key = v.key) = True), (eq_false c3 : (v.born ≤ w.born) = False), (eq_true c4 : (w.died = 0) = True)]
        · simp -implicitDefEqProofs (disch := omega) only [go_sem, Nat.reduceBEq, Nat.reduceAdd, Nat.reduceSub, Nat.reduceMul, Nat.reduceLeDiff, Nat.reduceEqDiff, Nat.reduceLT, Int.reduceNeg, Int.reduceAdd, Int.reduceSub, Int.reduceMul, Int.reduceLE, Int.reduceLT, Int.reduceEq, Int.reduceToNat, reduceCtorEq, evL23x0, B23x0, run_keyOk, run_between, hr, g1, Ver.cells, Row.v, IntWalk.i64_in, Int.add_sub_cancel, Int.add_assoc, Bool.true_or, Bool.false_or, hi', hj', hp0, htn, hp, hw, (eq_true k1 : (0 ≤ v.key ∧ v.key ≤ 4) = True), (eq_true k2 : (1 ≤ v.born ∧ v.born ≤ 40) = True), (eq_false k5 : (v.died = 0) = False), (eq_true k6 : (v.born + 1 ≤ v.died ∧ v.died ≤ 40) = True), (eq_false c1 : (v.key < w.key) = False), (eq_true c2 : (w.key = v.key) = True), (eq_false c3 : (v.born ≤ w.born) = False), (eq_true c4 : (w.died = 0) = True)]
      · rcases hd with k5 | ⟨k5, k6⟩
        · simp -implicitDefEqProofs (disch := omega) only [go_sem, Nat.reduceBEq, Nat.reduceAdd, Nat.reduceSub, Nat.reduceMul, Nat.reduceLeDiff, Nat.reduceEqDiff, Nat.reduceLT, Int.reduceNeg, Int.reduceAdd, Int.reduceSub, Int.reduceMul, Int.reduceLE, Int.reduceLT, Int.reduceEq, Int.reduceToNat, reduceCtorEq, evL23x0, B23x0, run_keyOk, run_between, hr, g1, Ver.cells, Row.v, IntWalk.i64_in, Int.add_sub_cancel, Int.add_assoc, Bool.true_or, Bool.false_or, hi', hj', hp0, htn, hp, hw, (eq_true k1 : (0 ≤ v.key ∧ v.key ≤ 4) = True), (eq_true k2 : (1 ≤ v.born ∧ v.born ≤ 40) = True), (eq_true k5 : (v.died = 0) = True), (eq_false c1 : (v.key < w.key) = False), (eq_true c2 : (w.key = v.key) = True), (eq_false c3 : (v.born ≤ w.born) = False), (eq_false c4 : (w.died = 0) = False), (eq_true c5 : (v.born < w.died) = True)]
        · simp -implicitDefEqProofs (disch := omega) only [go_sem, Nat.reduceBEq, Nat.reduceAdd, Nat.reduceSub, Nat.reduceMul, Nat.reduceLeDiff, Nat.reduceEqDiff, Nat.reduceLT, Int.reduceNeg, Int.reduceAdd, Int.reduceSub, Int.reduceMul, Int.reduceLE, Int.reduceLT, Int.reduceEq, Int.reduceToNat, reduceCtorEq, evL23x0, B23x0, run_keyOk, run_between, hr, g1, Ver.cells, Row.v, IntWalk.i64_in, Int.add_sub_cancel, Int.add_assoc, Bool.true_or, Bool.false_or, hi', hj', hp0, htn, hp, hw, (eq_true k1 : (0 ≤ v.key ∧ v.key ≤ 4) = True), (eq_true k2 : (1 ≤ v.born ∧ v.born ≤ 40) = True), (eq_false k5 : (v.died = 0) = False), (eq_true k6 : (v.born + 1 ≤ v.died ∧ v.died ≤ 40) = True), (eq_false c1 : (v.key < w.key) = False), (eq_true c2 : (w.key = v.key) = True), (eq_false c3 : (v.born ≤ w.born) = False), (eq_false c4 : (w.died = 0) = False), (eq_true c5 : (v.born < w.died) = True)]
      · rcases hd with k5 | ⟨k5, k6⟩
        · simp -implicitDefEqProofs (disch := omega) only [go_sem, Nat.reduceBEq, Nat.reduceAdd, Nat.reduceSub, Nat.reduceMul, Nat.reduceLeDiff, Nat.reduceEqDiff, Nat.reduceLT, Int.reduceNeg, Int.reduceAdd, Int.reduceSub, Int.reduceMul, Int.reduceLE, Int.reduceLT, Int.reduceEq, Int.reduceToNat, reduceCtorEq, evL23x0, B23x0, run_keyOk, run_between, hr, g1, Ver.cells, Row.v, IntWalk.i64_in, Int.add_sub_cancel, Int.add_assoc, Bool.true_or, Bool.false_or, hi', hj', hp0, htn, hp, hw, (eq_true k1 : (0 ≤ v.key ∧ v.key ≤ 4) = True), (eq_true k2 : (1 ≤ v.born ∧ v.born ≤ 40) = True), (eq_true k5 : (v.died = 0) = True), (eq_false c1 : (v.key < w.key) = False), (eq_true c2 : (w.key = v.key) = True), (eq_false c3 : (v.born ≤ w.born) = False), (eq_false c4 : (w.died = 0) = False), (eq_false c5 : (v.born < w.died) = False)]
        · simp -implicitDefEqProofs (disch := omega) only [go_sem, Nat.reduceBEq, Nat.reduceAdd, Nat.reduceSub, Nat.reduceMul, Nat.reduceLeDiff, Nat.reduceEqDiff, Nat.reduceLT, Int.reduceNeg, Int.reduceAdd, Int.reduceSub, Int.reduceMul, Int.reduceLE, Int.reduceLT, Int.reduceEq, Int.reduceToNat, reduceCtorEq, evL23x0, B23x0, run_keyOk, run_between, hr, g1, Ver.cells, Row.v, IntWalk.i64_in, Int.add_sub_cancel, Int.add_assoc, Bool.true_or, Bool.false_or, hi', hj', hp0, htn, hp, hw, (eq_true k1 : (0 ≤ v.key ∧ v.key ≤ 4) = True), (eq_true k2 : (1 ≤ v.born ∧ v.born ≤ 40) = True), (eq_false k5 : (v.died = 0) = False), (eq_true k6 : (v.born + 1 ≤ v.died ∧ v.died ≤ 40) = True), (eq_false c1 : (v.key < w.key) = False), (eq_true c2 : (w.key = v.key) = True), (eq_false c3 : (v.born ≤ w.born) = False), (eq_false c4 : (w.died = 0) = False), (eq_false c5 : (v.born < w.died) = False)]
-- find23
theorem run_versI (d : Nat) (c : Bool) (l : List Ver) (hs : l.length < 1099511627776) (hsh : ShortVs l) : retP (runD tab noExt (d + 8)) 23 [.sl c 4 (l.map Ver.cells)] = some [.bool (versOk l)] := by
  rw [retP, runD_eq find23 _ _ _ (by simp)]
  have hl := loop_versI d c l hs hsh 1099511627775 (by rw [prevs_len]; omega)
  rw [vers_same l none (fun w h => by cases h)] at hl
  simp -implicitDefEqProofs (disch := omega) only [go_sem, Nat.reduceBEq, Nat.reduceAdd, Nat.reduceSub, Nat.reduceMul, Nat.reduceLeDiff, Nat.reduceEqDiff, Nat.reduceLT, Int.reduceNeg, Int.reduceAdd, Int.reduceSub, Int.reduceMul, Int.reduceLE, Int.reduceLT, Int.reduceEq, Int.reduceToNat, reduceCtorEq]
  rw [hl]
  unfold versOk
  cases h : (prevs none l).all (okBy ordS)
  · simp -implicitDefEqProofs (disch := omega) only [go_sem, Nat.reduceBEq, Nat.reduceAdd, Nat.reduceSub, Nat.reduceMul, Nat.reduceLeDiff, Nat.reduceEqDiff, Nat.reduceLT, Int.reduceNeg, Int.reduceAdd, Int.reduceSub, Int.reduceMul, Int.reduceLE, Int.reduceLT, Int.reduceEq, Int.reduceToNat, reduceCtorEq]
  · by_cases h60 : (l.length : Int) ≤ 60 <;> simp -implicitDefEqProofs (disch := omega) only [go_sem, Nat.reduceBEq, Nat.reduceAdd, Nat.reduceSub, Nat.reduceMul, Nat.reduceLeDiff, Nat.reduceEqDiff, Nat.reduceLT, Int.reduceNeg, Int.reduceAdd, Int.reduceSub, Int.reduceMul, Int.reduceLE, Int.reduceLT, Int.reduceEq, Int.reduceToNat, reduceCtorEq, h60]
end Go.Proofs.Ytfbjbkkcilhgjaa.PE
/- The version that a key has at a time: the program's. -/
set_option linter.unusedVariables false
set_option linter.unusedSimpArgs false
set_option maxHeartbeats 4000000
namespace Go.Proofs.Ytfbjbkkcilhgjaa.PE
open Go.RowKit

def Ver.at (key time : Int) (v : Ver) : Bool := decide (v.key = key) && (decide (v.born ≤ time) && (decide (v.died = 0) || decide (time < v.died)))
def Ver.zero : Ver := ⟨0, 0, 0, ⟨true, []⟩⟩
def seenO (o : Option Ver) : Out := match o with
  | some v => some (.ret, [(6, .ptr 0 0 0 0), (7, .bool true)], [.box v.cells])
  | none => some (.exit 0, [(6, .ptr 0 0 0 0), (7, .undef)], [.box Ver.zero.cells])
theorem loop_seen (d : Nat) (c : Bool) (l : List Ver) (key time : Int) (hs : l.length < 1099511627776) (K : Nat) (hK : l.length ≤ K) :
    LoopS (runD tab noExt d) (drawI (runD tab noExt d)) [1, 2, 6, 10, 11, 12] [6, 7] L66x0 1 K [(1, .int .i64 key), (2, .int .i64 time), (6, .ptr 0 0 0 0), (10, .sl c 4 (l.map Ver.cells)), (11, .int .i64 l.length), (12, .int .i64 0)] [.box Ver.zero.cells] = seenO (l.find? (Ver.at key time)) := by
  have key1 := LoopS_rec (run := runD tab noExt d) (draw := drawI (runD tab noExt d)) (live := [1, 2, 6, 10, 11, 12]) (out := [6, 7]) (c := L66x0) (n0 := 1) l (fun (i : Nat) (_ : Unit) => [(1, .int .i64 key), (2, .int .i64 time), (6, .ptr 0 0 0 0), (10, .sl c 4 (l.map Ver.cells)), (11, .int .i64 l.length), (12, .int .i64 (i : Int))]) (fun _ _ => [.box Ver.zero.cells])
    (fun r _ => seenO (r.find? (Ver.at key time))) (fun _ K => ?_) (fun (i : Nat) v r _ K hi hx hr ih => ?_) K hK ()
  · simp only [Int.natCast_zero] at key1
    exact key1
  · rw [LoopS_eq]
    simp -implicitDefEqProofs only [go_sem, Nat.reduceBEq, Nat.reduceAdd, Nat.reduceSub, Nat.reduceMul, Nat.reduceLeDiff, Nat.reduceEqDiff, Nat.reduceLT, Int.reduceNeg, Int.reduceAdd, Int.reduceSub, Int.reduceMul, Int.reduceLE, Int.reduceLT, Int.reduceEq, Int.reduceToNat, reduceCtorEq, evL66x0, B66x0, Int.lt_irrefl, List.find?_nil, seenO]
  · have ih' := ih ()
    simp only [Int.natCast_add, Int.natCast_one, Ver.cells, Row.v, Ver.zero, List.map_nil] at ih'
    rw [LoopS_eq, List.find?_cons]
    have h5 : ¬ v.key = key ∨ (v.key = key ∧ ¬ v.born ≤ time) ∨ (v.key = key ∧ v.born ≤ time ∧ v.died = 0) ∨ (v.key = key ∧ v.born ≤ time ∧ ¬ v.died = 0 ∧ time < v.died) ∨ (v.key = key ∧ v.born ≤ time ∧ ¬ v.died = 0 ∧ ¬ time < v.died) := by omega
    rcases h5 with h1 | ⟨h1, h2⟩ | ⟨h1, h2, h3⟩ | ⟨h1, h2, h3, h4⟩ | ⟨h1, h2, h3, h4⟩
    · have e : Ver.at key time v = false := by simp [Ver.at, h1]
      rw [e]
      simp -implicitDefEqProofs (disch := omega) only [go_sem, Nat.reduceBEq, Nat.reduceAdd, Nat.reduceSub, Nat.reduceMul, Nat.reduceLeDiff, Nat.reduceEqDiff, Nat.reduceLT, Int.reduceNeg, Int.reduceAdd, Int.reduceSub, Int.reduceMul, Int.reduceLE, Int.reduceLT, Int.reduceEq, Int.reduceToNat, reduceCtorEq, evL66x0, B66x0, hi, hx, Ver.cells, Row.v, Ver.zero, IntWalk.i64_in, (eq_false h1 : (v.key = key) = False)]
      exact ih'
    · have e : Ver.at key time v = false := by simp [Ver.at, h1, h2]
      rw [e]
      simp -implicitDefEqProofs (disch := omega) only [go_sem, Nat.reduceBEq, Nat.reduceAdd, Nat.reduceSub, Nat.reduceMul, Nat.reduceLeDiff, Nat.reduceEqDiff, Nat.reduceLT, Int.reduceNeg, Int.reduceAdd, Int.reduceSub, Int.reduceMul, Int.reduceLE, Int.reduceLT, Int.reduceEq, Int.reduceToNat, reduceCtorEq, evL66x0, B66x0, hi, hx, Ver.cells, Row.v, Ver.zero, IntWalk.i64_in, (eq_true h1 : (v.key = key) = True), (eq_false h2 : (v.born ≤ time) = False)]
      exact ih'
    · have e : Ver.at key time v = true := by simp [Ver.at, h1, h2, h3]
      rw [e]
      simp -implicitDefEqProofs (disch := omega) only [go_sem, Nat.reduceBEq, Nat.reduceAdd, Nat.reduceSub, Nat.reduceMul, Nat.reduceLeDiff, Nat.reduceEqDiff, Nat.reduceLT, Int.reduceNeg, Int.reduceAdd, Int.reduceSub, Int.reduceMul, Int.reduceLE, Int.reduceLT, Int.reduceEq, Int.reduceToNat, reduceCtorEq, evL66x0, B66x0, hi, hx, Ver.cells, Row.v, Ver.zero, IntWalk.i64_in, (eq_true h1 : (v.key = key) = True), (eq_true h2 : (v.born ≤ time) = True), (eq_true h3 : (v.died = 0) = True), seenO]
    · have e : Ver.at key time v = true := by simp [Ver.at, h1, h2, h3, h4]
      rw [e]
      simp -implicitDefEqProofs (disch := omega) only [go_sem, Nat.reduceBEq, Nat.reduceAdd, Nat.reduceSub, Nat.reduceMul, Nat.reduceLeDiff, Nat.reduceEqDiff, Nat.reduceLT, Int.reduceNeg, Int.reduceAdd, Int.reduceSub, Int.reduceMul, Int.reduceLE, Int.reduceLT, Int.reduceEq, Int.reduceToNat, reduceCtorEq, evL66x0, B66x0, hi, hx, Ver.cells, Row.v, Ver.zero, IntWalk.i64_in, (eq_true h1 : (v.key = key) = True), (eq_true h2 : (v.born ≤ time) = True), (eq_false h3 : (v.died = 0) = False), (eq_true h4 : (time < v.died) = True), Bool.false_or, seenO]
    · have e : Ver.at key time v = false := by simp [Ver.at, h1, h2, h3, h4]
      rw [e]
      simp -implicitDefEqProofs (disch := omega) only [go_sem, Nat.reduceBEq, Nat.reduceAdd, Nat.reduceSub, Nat.reduceMul, Nat.reduceLeDiff, Nat.reduceEqDiff, Nat.reduceLT, Int.reduceNeg, Int.reduceAdd, Int.reduceSub, Int.reduceMul, Int.reduceLE, Int.reduceLT, Int.reduceEq, Int.reduceToNat, reduceCtorEq, evL66x0, B66x0, hi, hx, Ver.cells, Row.v, Ver.zero, IntWalk.i64_in, (eq_true h1 : (v.key = key) = True), (eq_true h2 : (v.born ≤ time) = True), (eq_false h3 : (v.died = 0) = False), (eq_false h4 : (time < v.died) = False), Bool.false_or]
      exact ih'
-- find66
theorem run_seen (d : Nat) (c : Bool) (l : List Ver) (key time : Int) (hs : l.length < 1099511627776) : retP (runD tab noExt (d + 1)) 66 [.sl c 4 (l.map Ver.cells), .int .i64 key, .int .i64 time] = some [.agg ((l.find? (Ver.at key time)).getD Ver.zero).cells, .bool (l.find? (Ver.at key time)).isSome] := by
  rw [retP, runD_eq find66 _ _ _ (by simp)]
  have hl := loop_seen d c l key time hs 1099511627775 (by omega)
  simp only [Ver.cells, Ver.zero, Row.v, List.map_nil] at hl
  simp -implicitDefEqProofs (disch := omega) only [go_sem, Nat.reduceBEq, Nat.reduceAdd, Nat.reduceSub, Nat.reduceMul, Nat.reduceLeDiff, Nat.reduceEqDiff, Nat.reduceLT, Int.reduceNeg, Int.reduceAdd, Int.reduceSub, Int.reduceMul, Int.reduceLE, Int.reduceLT, Int.reduceEq, Int.reduceToNat, reduceCtorEq]
  rw [hl]
  cases h : l.find? (Ver.at key time) with
  | none => simp -implicitDefEqProofs only [go_sem, Nat.reduceBEq, Nat.reduceAdd, Nat.reduceSub, Nat.reduceMul, Nat.reduceLeDiff, Nat.reduceEqDiff, Nat.reduceLT, Int.reduceNeg, Int.reduceAdd, Int.reduceSub, Int.reduceMul, Int.reduceLE, Int.reduceLT, Int.reduceEq, Int.reduceToNat, reduceCtorEq, seenO, Ver.cells, Ver.zero, Row.v, Option.getD_none, Option.isSome_none]
  | some v => simp -implicitDefEqProofs only [go_sem, Nat.reduceBEq, Nat.reduceAdd, Nat.reduceSub, Nat.reduceMul, Nat.reduceLeDiff, Nat.reduceEqDiff, Nat.reduceLT, Int.reduceNeg, Int.reduceAdd, Int.reduceSub, Int.reduceMul, Int.reduceLE, Int.reduceLT, Int.reduceEq, Int.reduceToNat, reduceCtorEq, seenO, Ver.cells, Ver.zero, Row.v, Option.getD_some, Option.isSome_some]
end Go.Proofs.Ytfbjbkkcilhgjaa.PE
/- The row that a key has at a time: the reference's. -/
set_option linter.unusedVariables false
set_option linter.unusedSimpArgs false
set_option maxHeartbeats 4000000
namespace Go.Proofs.Ytfbjbkkcilhgjaa.PE
open Go.RowKit

-- find77
theorem run_own3 (d : Nat) (c : Bool) (l : List (List V)) (hl : l.length < 4294967296) : retP (runD tab noExt (d + 1)) 77 [.sl c 3 l] = some [.sl false 3 l] := by
  rw [retP, runD_eq find77 _ _ _ (by simp)]
  have hl' : 0 + l.length < 4294967296 := by omega
  simp -implicitDefEqProofs (disch := omega) only [go_sem, Nat.reduceBEq, Nat.reduceAdd, Nat.reduceSub, Nat.reduceMul, Nat.reduceLeDiff, Nat.reduceEqDiff, Nat.reduceLT, Int.reduceNeg, Int.reduceAdd, Int.reduceSub, Int.reduceMul, Int.reduceLE, Int.reduceLT, Int.reduceEq, Int.reduceToNat, reduceCtorEq, List.take_length, hl, hl']
-- find173
def seenS (o : Option Ver) : Out := match o with
  | some v => some (.ret, [(6, .sl false 3 (v.row.vs.map Val.cells)), (7, .bool true)], [])
  | none => some (.exit 0, [(6, .undef), (7, .undef)], [])
/-- What a key has at a time. -/
def rowAt (l : List Ver) (key time : Int) : Option Ver := if versOk l then l.find? (Ver.at key time) else none
-- find123
end Go.Proofs.Ytfbjbkkcilhgjaa.PE
/- The rows at a time: the reference's. -/
set_option linter.unusedVariables false
set_option linter.unusedSimpArgs false
set_option maxHeartbeats 4000000
namespace Go.Proofs.Ytfbjbkkcilhgjaa.PE
open Go.RowKit

def keys5 : List Int := [0, 1, 2, 3, 4]
def addRow (l : List Ver) (time : Int) (b : List Row) (k : Int) : List Row := if (rowAt l k time).isSome then b ++ [⟨false, ((rowAt l k time).getD Ver.zero).row.vs⟩] else b
def rowsAtV (l : List Ver) (time : Int) : List Row := keys5.foldl (addRow l time) []
/-- What a key has at a time, as values. -/
def rowV (l : List Ver) (k time : Int) : Option (List Val) := (rowAt l k time).map fun v => v.row.vs
end Go.Proofs.Ytfbjbkkcilhgjaa.PE
/- Versions as trees: what their sizes say, that only their values matter. -/
set_option linter.unusedVariables false
set_option linter.unusedSimpArgs false
set_option maxHeartbeats 4000000
namespace Go.Proofs.Ytfbjbkkcilhgjaa.PE
open Go.RowKit

def verU (v : Ver) : List U := [.int v.key, .int v.born, .int v.died, .sub (v.row.vs.map valU)]
theorem vals_each {y : List (List U)} {p : V} (h : PurF (.sub fdValue) p (.sub y)) : ∃ (r : Row), p = r.v ∧ y = r.vs.map valU := by
  obtain ⟨cl, ct, rfl, hz⟩ := purS_Value h
  obtain ⟨vs, rfl, rfl⟩ := valsU_of hz
  exact ⟨⟨cl, vs⟩, rfl, rfl⟩
theorem versU_of {l1 : List (List V)} {l2 : List (List U)} (h : Zip2 (PurR fdVersion) l1 l2) : ∃ vs : List Ver, l1 = vs.map Ver.cells ∧ l2 = vs.map verU :=
  typ_of (fun c x hr => by
    obtain ⟨a0, a1, a2, p3, y3, rfl, rfl, g⟩ := purR_Version hr
    obtain ⟨r, rfl, rfl⟩ := vals_each g
    exact ⟨⟨a0, a1, a2, r⟩, rfl, rfl⟩) h
theorem verU_inj {a b : Ver} (h : verU a = verU b) : a.plain = b.plain := by
  simp only [verU, List.cons.injEq, U.int.injEq, U.sub.injEq, and_true] at h
  obtain ⟨h1, h2, h3, h4⟩ := h
  have := map_inj (fun _ _ => valU_inj) h4
  simp only [Ver.plain, h1, h2, h3, this]
theorem plain_of : ∀ {a b : List Ver}, a.map verU = b.map verU → a.map Ver.plain = b.map Ver.plain
  | [], [], _ => rfl
  | x :: a, y :: b, h => by
    simp only [List.map_cons, List.cons.injEq] at h
    rw [List.map_cons, List.map_cons, verU_inj h.1, plain_of h.2]
  | [], _ :: _, h => by simp at h
  | _ :: _, [], h => by simp at h
theorem vers_each {l : List Ver} {q : V} (k : PurF (.sub fdVersion) q (.sub (l.map verU))) : ∃ (c : Bool) (l2 : List Ver), q = .sl c 4 (l2.map Ver.cells) ∧ l2.map verU = l.map verU := by
  obtain ⟨c, _, rfl, y0⟩ := purS_Version k
  obtain ⟨l', rfl, e0⟩ := versU_of y0
  exact ⟨c, l', rfl, e0.symm⟩
theorem prevs_plain : ∀ (l : List Ver) (o : Option Ver), prevs (o.map Ver.plain) (l.map Ver.plain) = (prevs o l).map fun p => (p.1.map Ver.plain, p.2.plain)
  | [], _ => rfl
  | v :: r, o => by
    have := prevs_plain r (some v)
    simp only [Option.map_some] at this
    simp only [List.map_cons, prevs, this]
theorem versOk_plain (l : List Ver) : versOk (l.map Ver.plain) = versOk l := by
  have := prevs_plain l none
  simp only [Option.map_none] at this
  unfold versOk
  rw [this, List.all_map, List.length_map]
  congr 2
  funext p
  obtain ⟨o, v⟩ := p
  cases o <;> rfl
theorem find_plain (k t : Int) : ∀ (l : List Ver), (l.map Ver.plain).find? (Ver.at k t) = (l.find? (Ver.at k t)).map Ver.plain
  | [] => rfl
  | v :: r => by
    have e : Ver.at k t v.plain = Ver.at k t v := rfl
    rw [List.map_cons, List.find?_cons, List.find?_cons, e, find_plain k t r]
    cases Ver.at k t v <;> rfl
theorem rowV_plain (l : List Ver) (k t : Int) : rowV (l.map Ver.plain) k t = rowV l k t := by
  unfold rowV rowAt
  rw [versOk_plain, find_plain]
  cases versOk l
  · rfl
  · simp only [if_true, Option.map_map]
    rfl
theorem rowV_vs {a b : List Ver} (h : a.map verU = b.map verU) (k t : Int) : rowV a k t = rowV b k t := by rw [← rowV_plain a, ← rowV_plain b, plain_of h]
theorem versOk_vs {a b : List Ver} (h : a.map verU = b.map verU) : versOk a = versOk b := by rw [← versOk_plain a, ← versOk_plain b, plain_of h]
end Go.Proofs.Ytfbjbkkcilhgjaa.PE
/- Copies of rows, and whether lists of rows are the same. -/
set_option linter.unusedSimpArgs false
set_option linter.unusedVariables false
set_option maxHeartbeats 4000000
namespace Go.Proofs.Ytfbjbkkcilhgjaa.PE
open Go.RowKit

theorem clipkVal (d : Nat) (l : List (List V)) (n : Nat) (hn : n = l.length) : callX (runD tab noExt (d + 1)) [.rows 0 3 l] 2 174 [.ref 0 0 0 n false] = some (.ref 0 0 0 n true, [.rows 0 3 l]) := by
  subst hn
  simp only [callX, callK]
  rw [runD_eq find174 _ _ _ (by simp)]
  simp -implicitDefEqProofs (disch := omega) only [go_sem, Nat.reduceBEq, Nat.reduceAdd, Nat.reduceSub, Nat.reduceMul, Nat.reduceLeDiff, Nat.reduceEqDiff, Nat.reduceLT, Int.reduceNeg, Int.reduceAdd, Int.reduceSub, Int.reduceMul, Int.reduceLE, Int.reduceLT, Int.reduceEq, Int.reduceToNat, reduceCtorEq, List.take_length, Bool.true_or, resOk]
theorem runcVal (d : Nat) (c : Bool) (l : List (List V)) (h0 : 0 < l.length) (hl : l.length < 4294967296) : runD tab noExt (d + 2) 126 [.sl c 3 l] [] = some ([.ref 0 0 0 l.length true], [.rows 0 3 l]) := by
  rw [runD_eq find126 _ _ _ (by simp)]
  match l, h0, hl with
  | [], h0, _ => exact absurd h0 (by decide)
  | x :: r, _, hl =>
    have h0 : ((r.length : Int) + 1 = 0) = False := eq_false (by omega)
    have h1 : r.length + 1 < 4294967296 := by simpa using hl
    have hc := clipkVal d (x :: r) (r.length + 1) (by simp)
    simp -implicitDefEqProofs (disch := omega) only [go_sem, Nat.reduceBEq, Nat.reduceAdd, Nat.reduceSub, Nat.reduceMul, Nat.reduceLeDiff, Nat.reduceEqDiff, Nat.reduceLT, Int.reduceNeg, Int.reduceAdd, Int.reduceSub, Int.reduceMul, Int.reduceLE, Int.reduceLT, Int.reduceEq, Int.reduceToNat, reduceCtorEq, List.length_cons, h0, h1, hc]
theorem runnVal (d : Nat) (c : Bool) : runD tab noExt (d + 2) 126 [.sl c 3 []] [] = some ([.sl true 3 []], []) := by
  rw [runD_eq find126 _ _ _ (by simp)]
  simp -implicitDefEqProofs (disch := omega) only [go_sem, Nat.reduceBEq, Nat.reduceAdd, Nat.reduceSub, Nat.reduceMul, Nat.reduceLeDiff, Nat.reduceEqDiff, Nat.reduceLT, Int.reduceNeg, Int.reduceAdd, Int.reduceSub, Int.reduceMul, Int.reduceLE, Int.reduceLT, Int.reduceEq, Int.reduceToNat, reduceCtorEq]
theorem clonexVal (d : Nat) (h : Heap) (c : Bool) (l : List (List V)) (h0 : 0 < l.length) (hl : l.length < 4294967296) (hf : l.all (fun x => x.all freshC) = true) : callX (runD tab noExt (d + 2)) h 0 126 [.sl c 3 l] = some (.ref h.length 0 0 l.length true, h ++ [.rows 0 3 l]) := by
  simp only [callX, callO, pureDAs, mapO, pureDA, pureD, deepest, runcVal d c l h0 hl, BackO, List.all_cons, List.all_nil, scalarA, scalar, freshA, freshC, Bool.false_eq_true, Bool.false_and, Bool.and_self, if_false, if_true, List.map_cons, List.map_nil, oneOf, shA, shC, Nat.zero_add, movedH, clean, hf, shB]
theorem clonenVal (d : Nat) (h : Heap) (c : Bool) : callX (runD tab noExt (d + 2)) h 0 126 [.sl c 3 []] = some (.sl true 3 [], h) := by
  simp only [callX, callO, pureDAs, mapO, pureDA, pureD, deepest, runnVal d c, BackO, List.all_cons, List.all_nil, scalarA, scalar, freshA, freshC, isNil, Bool.false_eq_true, Bool.false_and, Bool.and_self, if_false, if_true, List.map_cons, List.map_nil, oneOf, shA, shC, movedH, List.append_nil]

/-- A row of one's own. -/
def Row.own (b : Bool) (r : Row) : Row := ⟨b, r.vs⟩
def own (b : Bool) (rs : List Row) : List Row := rs.map (Row.own b)
def sameVs (a b : List Val) : Bool := decide (a = b)
theorem loop_sameRow (d : Nat) (c c' : Bool) (a b : List Val) (hs : a.length < 1099511627776) (hlen : a.length = b.length) (K : Nat) (hK : (a.zip b).length ≤ K) : LoopS (runD tab noExt d) (drawI (runD tab noExt d)) [0, 1, 5] [4] L65x0 ([] : Heap).length K [(0, .sl c 3 (a.map Val.cells)), (1, .sl c' 3 (b.map Val.cells)), (5, .int .i64 0)] [] = if (a.zip b).all (fun p => decide (p.1 = p.2)) then (some (.exit 0, [(4, .undef)], []) : Out) else (some (.ret, [(4, .bool false)], []) : Out) := by
  have key := LoopS_all (run := (runD tab noExt d)) (draw := drawI (runD tab noExt d)) (live := [0, 1, 5]) (out := [4]) (c := L65x0) (n0 := ([] : Heap).length) (a.zip b) (fun p => decide (p.1 = p.2)) (fun (i : Nat) => [(0, .sl c 3 (a.map Val.cells)), (1, .sl c' 3 (b.map Val.cells)), (5, .int .i64 i)]) [] (some (.exit 0, [(4, .undef)], []) : Out) (some (.ret, [(4, .bool false)], []) : Out) (fun K => ?_) (fun (i : Nat) (x : Val × Val) K hi hx => ?_) K hK
  · simp only [Int.natCast_zero] at key
    exact key
  · rw [LoopS_eq]
    simp -implicitDefEqProofs only [go_sem, Nat.reduceBEq, Nat.reduceAdd, Nat.reduceSub, Nat.reduceMul, Nat.reduceLeDiff, Nat.reduceEqDiff, Nat.reduceLT, Int.reduceNeg, Int.reduceAdd, Int.reduceSub, Int.reduceMul, Int.reduceLE, Int.reduceLT, Int.reduceEq, Int.reduceToNat, reduceCtorEq, evL65x0, B65x0, Int.lt_irrefl, List.length_zip, hlen, Nat.min_self, evC_draw, evD65x0, E65x0, Val.cells]
  · obtain ⟨g1, g2⟩ := List.getElem?_zip_eq_some.1 hx; rw [List.length_zip, hlen, Nat.min_self] at hi; obtain ⟨⟨k1, n1, s1⟩, ⟨k2, n2, s2⟩⟩ := x
    rw [LoopS_eq]
    simp -implicitDefEqProofs (disch := omega) only [go_sem, Nat.reduceBEq, Nat.reduceAdd, Nat.reduceSub, Nat.reduceMul, Nat.reduceLeDiff, Nat.reduceEqDiff, Nat.reduceLT, Int.reduceNeg, Int.reduceAdd, Int.reduceSub, Int.reduceMul, Int.reduceLE, Int.reduceLT, Int.reduceEq, Int.reduceToNat, reduceCtorEq, evL65x0, B65x0, hi, hx, IntWalk.i64_in, List.length_zip, hlen, Nat.min_self, evC_draw, evD65x0, E65x0, Val.cells, *]
    repeat' ((first | rw [GuardI_ndec] | rw [CondC_ndec] | rw [GuardQ_ndec] | rw [GuardI_dec] | rw [CondC_dec] | rw [GuardQ_dec] | rw [GuardI_nby] | rw [CondC_nby] | rw [GuardQ_nby] | rw [GuardQ_by] | rw [GuardI_by] | rw [CondC_by]) <;> split <;> simp -implicitDefEqProofs (disch := omega) only [go_sem, Nat.reduceBEq, Nat.reduceAdd, Nat.reduceSub, Nat.reduceMul, Nat.reduceLeDiff, Nat.reduceEqDiff, Nat.reduceLT, Int.reduceNeg, Int.reduceAdd, Int.reduceSub, Int.reduceMul, Int.reduceLE, Int.reduceLT, Int.reduceEq, Int.reduceToNat, reduceCtorEq, hi, hx, IntWalk.i64_in, List.length_zip, hlen, Nat.min_self, evC_draw, evD65x0, E65x0, Val.cells, *, *])
    all_goals first | rfl | (simp_all [Val.mk.injEq]; done) | (simp_all [Val.mk.injEq]; omega)
theorem zip_same {α : Type} [DecidableEq α] : ∀ (a b : List α), a.length = b.length → ((a.zip b).all fun p => decide (p.1 = p.2)) = decide (a = b)
  | [], [], _ => by simp
  | x :: a, y :: b, h => by
    have := zip_same a b (by simpa using h)
    simp only [List.zip_cons_cons, List.all_cons, this]
    by_cases h1 : x = y <;> by_cases h2 : a = b <;> simp [h1, h2]
  | [], _ :: _, h => by simp at h
  | _ :: _, [], h => by simp at h
-- find65
theorem run_sameRow (d : Nat) (c c' : Bool) (a b : List Val) (hs : a.length < 1099511627776) : retP (runD tab noExt (d + 1)) 65 [.sl c 3 (a.map Val.cells), .sl c' 3 (b.map Val.cells)] = some [.bool (decide (a = b))] := by
  rw [retP, runD_eq find65 _ _ _ (by simp)]
  by_cases hlen : a.length = b.length
  · have hl := loop_sameRow d c c' a b hs hlen 1099511627775 (by simp; omega)
    simp -implicitDefEqProofs only [go_sem, Nat.reduceBEq, Nat.reduceAdd, Nat.reduceSub, Nat.reduceMul, Nat.reduceLeDiff, Nat.reduceEqDiff, Nat.reduceLT, Int.reduceNeg, Int.reduceAdd, Int.reduceSub, Int.reduceMul, Int.reduceLE, Int.reduceLT, Int.reduceEq, Int.reduceToNat, reduceCtorEq, hlen] at hl ⊢
    rw [hl, zip_same a b hlen]
    by_cases h : a = b <;> simp -implicitDefEqProofs only [go_sem, Nat.reduceBEq, Nat.reduceAdd, Nat.reduceSub, Nat.reduceMul, Nat.reduceLeDiff, Nat.reduceEqDiff, Nat.reduceLT, Int.reduceNeg, Int.reduceAdd, Int.reduceSub, Int.reduceMul, Int.reduceLE, Int.reduceLT, Int.reduceEq, Int.reduceToNat, reduceCtorEq, h]
  · have h1 : ((a.length : Int) = b.length) = False := eq_false (by omega)
    have h2 : ¬ a = b := fun e => hlen (by rw [e])
    simp -implicitDefEqProofs only [go_sem, Nat.reduceBEq, Nat.reduceAdd, Nat.reduceSub, Nat.reduceMul, Nat.reduceLeDiff, Nat.reduceEqDiff, Nat.reduceLT, Int.reduceNeg, Int.reduceAdd, Int.reduceSub, Int.reduceMul, Int.reduceLE, Int.reduceLT, Int.reduceEq, Int.reduceToNat, reduceCtorEq, h1, h2]
def vss (rs : List Row) : List (List Val) := rs.map Row.vs
end Go.Proofs.Ytfbjbkkcilhgjaa.PE
/- Rows of rows that grow, element by element, each of memory of its own. -/
set_option linter.unusedVariables false
set_option linter.unusedSimpArgs false
namespace Go.Proofs.Ytfbjbkkcilhgjaa.PE
open Go.RowKit

/-- What has been gathered up to now. -/
def Grown (fs : List Fd) (id : Nat) (h : Heap) (done : List (List V)) (xs : List (List U)) : Prop :=
  h[id]? = some (blkOf fs done.length done) ∧ ∃ ids, Zip3 (OwnR h fs) done xs ids ∧ (id :: ids).Nodup
theorem Grown.nest {fs : List Fd} {id : Nat} {h : Heap} {done : List (List V)} {xs : List (List U)} (g : Grown fs id h done xs) (hd : fs.any Fd.deep = true) : h[id]? = some (.nest done.length fs.length done) := by
  have := g.1
  unfold blkOf at this
  rw [hd] at this
  exact this
theorem Grown.len {fs : List Fd} {id : Nat} {h : Heap} {done : List (List V)} {xs : List (List U)} (g : Grown fs id h done xs) : done.length = xs.length := by
  obtain ⟨_, ids, z, _⟩ := g
  exact Zip3_len z
theorem Grown.lt {fs : List Fd} {id : Nat} {h : Heap} {done : List (List V)} {xs : List (List U)} (g : Grown fs id h done xs) : id < h.length := (List.getElem?_eq_some_iff.1 g.1).1
theorem Grown.start {fs : List Fd} {id : Nat} {h : Heap} (hb : h[id]? = some (blkOf fs 0 [])) : Grown fs id h [] [] := ⟨hb, [], rfl, by simp⟩
theorem Grown.frame {fs : List Fd} {id : Nat} {h h1 : Heap} {done : List (List V)} {xs : List (List U)} (g : Grown fs id h done xs) (keep : ∀ j, j < h.length → h1[j]? = h[j]?) : Grown fs id h1 done xs := by
  obtain ⟨g1, ids, z, nd⟩ := g
  refine ⟨(keep id (List.getElem?_eq_some_iff.1 g1).1).trans g1, ids, ?_, nd⟩
  exact Zip3_mono (P := fun _ => True) (fun c x i hr _ => OwnR_frame _ hr (fun j hj => keep j (OwnR_lt _ hr j hj))) z (fun _ _ => trivial)
theorem Grown.add {fs : List Fd} {id : Nat} {h h1 h2 : Heap} {done : List (List V)} {xs : List (List U)} {cells : List V} {x : List U} {js : List Nat} (g : Grown fs id h done xs) (own : OwnR h1 fs cells x js) (nd : js.Nodup)
    (fresh : ∀ j ∈ js, h.length ≤ j) (keep : ∀ j, j < h.length → h1[j]? = h[j]?) (e2 : h2 = h1.set id (blkOf fs (done.length + 1) (done ++ [cells]))) : Grown fs id h2 (done ++ [cells]) (xs ++ [x]) := by
  subst e2
  have hlt := g.lt
  obtain ⟨g1, ids, z, nd1⟩ := g
  have hl1 : id < h1.length := by
    have := keep id hlt
    rw [List.getElem?_eq_getElem hlt] at this
    exact (List.getElem?_eq_some_iff.1 this).1
  obtain ⟨n1, n2⟩ := List.nodup_cons.1 nd1
  have hids : ∀ j ∈ ids, j < h.length := Zip3_all (fun c x i hr => OwnR_lt fs hr) z
  refine ⟨by rw [List.getElem?_set_self hl1, List.length_append]; rfl, ids ++ js, Zip3_app (Zip3_mono (P := fun j => j ∈ ids) (fun c x i hr hp => OwnR_frame fs hr (fun j hj => ?_)) z (fun _ hm => hm)) (Zip3_one (OwnR_frame fs own (fun j hj => ?_))), ?_⟩
  · have hne : id ≠ j := fun e => n1 (e ▸ hp j hj)
    rw [List.getElem?_set_ne hne]
    exact keep j (hids j (hp j hj))
  · have hne : id ≠ j := fun e => by have := fresh j hj; omega
    rw [List.getElem?_set_ne hne]
  · refine List.nodup_cons.2 ⟨fun hm => ?_, List.nodup_append.2 ⟨n2, nd, fun p hp q hq => ?_⟩⟩
    · rcases List.mem_append.1 hm with hm | hm
      · exact n1 hm
      · have := fresh id hm; omega
    · have := hids p hp
      have := fresh q hq
      omega
theorem Grown.set {fs : List Fd} {id : Nat} {h h1 : Heap} {done : List (List V)} {xs : List (List U)} {k : Nat} {b : Blk} (g : Grown fs id h done xs) (hk : h.length ≤ k) : Grown fs id (h.set k b) done xs := by
  rw [List.set_eq_of_length_le hk]
  exact g
theorem Grown.own {fs : List Fd} {id : Nat} {h : Heap} {done : List (List V)} {xs : List (List U)} {n : Nat} {clip : Bool} (g : Grown fs id h done xs) (hn : n = done.length) : ∃ ids, OwnF h (.sub fs) (.ref id n 0 n clip) (.sub xs) ids ∧ ids.Nodup := by
  subst hn
  obtain ⟨g1, ids, z, nd⟩ := g
  refine ⟨id :: ids, ?_, nd⟩
  simp only [OwnF]
  exact ⟨xs, rfl, .inr ⟨id, done.length, clip, done, ids, rfl, g1, rfl, z⟩⟩
end Go.Proofs.Ytfbjbkkcilhgjaa.PE
/- Copies of rows as memory of one's own. -/
set_option linter.unusedVariables false
set_option linter.unusedSimpArgs false
set_option maxHeartbeats 4000000
namespace Go.Proofs.Ytfbjbkkcilhgjaa.PE
open Go.RowKit

theorem val_own (h : Heap) (v : Val) : OwnR h fdValue v.cells (valU v) [] := ownR_mk_Value h v.kind v.n v.s
theorem own_cloneVal (d : Nat) (c : Bool) (vs : List Val) (hl : vs.length < 4294967296) : ∃ v hc ids, runD tab noExt (d + 2) 126 [.sl c 3 (vs.map Val.cells)] [] = some ([v], hc) ∧ OwnF hc (.sub fdValue) v (.sub (vs.map valU)) ids ∧ ids.Nodup := by
  match vs, hl with
  | [], _ => exact ⟨_, _, [], runnVal d c, own_nil rfl, List.nodup_nil⟩
  | x :: r, hl => exact ⟨_, _, [0], runcVal d c ((x :: r).map Val.cells) (by simp) (by simpa using hl), own_row rfl (x :: r) (by simp) rfl (val_own _), by simp⟩
-- find67
end Go.Proofs.Ytfbjbkkcilhgjaa.PE
/- Sizes of trees of values, rows, columns. -/
set_option linter.unusedVariables false
set_option linter.unusedSimpArgs false
namespace Go.Proofs.Ytfbjbkkcilhgjaa.PE
open Go.RowKit

end Go.Proofs.Ytfbjbkkcilhgjaa.PE
/- Whether two lists of values are the same. -/
set_option linter.unusedVariables false
set_option linter.unusedSimpArgs false
set_option maxHeartbeats 4000000
namespace Go.Proofs.Ytfbjbkkcilhgjaa.PE
open Go.RowKit

end Go.Proofs.Ytfbjbkkcilhgjaa.PE
/- Copies of versions, as memory of one's own. -/
set_option linter.unusedSimpArgs false
set_option linter.unusedVariables false
set_option maxHeartbeats 4000000
namespace Go.Proofs.Ytfbjbkkcilhgjaa.PE
open Go.RowKit

def FineVr (ws : List Ver) : Prop := ws.length < 1099511627776 ∧ ws.length < 4294967296 ∧ ∀ w ∈ ws, w.row.vs.length < 4294967296
theorem grow_ver {h : Heap} {done : List (List V)} {xs : List (List U)} (g : Grown fdVersion 0 h done xs) (d : Nat) (key born died : Int) (rc : Bool) (vs : List Val) (hl : vs.length < 4294967296) :
    ∃ v h1, callX (runD tab noExt (d + 2)) (h ++ [.box [.int .i64 key, .int .i64 born, .int .i64 died, .sl rc 3 (vs.map Val.cells)]]) 0 126 [.sl rc 3 (vs.map Val.cells)] = some (v, h1) ∧ h1[h.length]? = some (.box [.int .i64 key, .int .i64 born, .int .i64 died, .sl rc 3 (vs.map Val.cells)]) ∧ h.length < h1.length ∧ ((∃ c, v = .sl c 3 []) ∨ ∃ id st n clip, v = .ref id st 0 n clip) ∧
      (h1.set h.length (.box [.int .i64 key, .int .i64 born, .int .i64 died, v]))[0]? = some (.nest done.length 4 done) ∧
      Grown fdVersion 0 ((h1.set h.length (.box [.int .i64 key, .int .i64 born, .int .i64 died, v])).set 0 (.nest (done.length + 1) 4 (done ++ [[.int .i64 key, .int .i64 born, .int .i64 died, v]]))) (done ++ [[.int .i64 key, .int .i64 born, .int .i64 died, v]]) (xs ++ [[.int key, .int born, .int died, .sub (vs.map valU)]]) := by
  obtain ⟨v, hc, is0, e1, e2, e3⟩ := own_cloneVal d rc vs hl
  obtain ⟨w, h1, js, k1, k2, k3, k4, k5, k6⟩ := own_call (h := h ++ [.box [.int .i64 key, .int .i64 born, .int .i64 died, .sl rc 3 (vs.map Val.cells)]]) (args := [.sl rc 3 (vs.map Val.cells)]) (by simp only [pureDAs, mapO, pureDA, pureD]) e1 e2 e3
  have hl0 : (h ++ [Blk.box [.int .i64 key, .int .i64 born, .int .i64 died, .sl rc 3 (vs.map Val.cells)]]).length = h.length + 1 := by simp
  rw [hl0] at k4 k5 k6
  have hb : h1[h.length]? = some (.box [.int .i64 key, .int .i64 born, .int .i64 died, .sl rc 3 (vs.map Val.cells)]) := (k5 _ (by omega)).trans (by simp)
  have hlt := g.lt
  have k5' : ∀ j, j < h.length → (h1.set h.length (.box [.int .i64 key, .int .i64 born, .int .i64 died, w]))[j]? = h[j]? := fun j hj => by
    rw [List.getElem?_set_ne (by omega), k5 j (by omega), List.getElem?_append_left hj]
  refine ⟨w, h1, k1, hb, by omega, own_cases k2, (k5' 0 hlt).trans (g.nest (by rfl)), ?_⟩
  refine g.add (OwnR_frame _ (ownR_mk_Version k2) (fun j hj => ?_)) k3 (fun j hj => by have := k4 j hj; omega) k5' rfl
  have := k4 j hj
  rw [List.getElem?_set_ne (by omega)]
-- find73
theorem own_versionsCopy (d : Nat) (c : Bool) (ws : List Ver) (hf : FineVr ws) : ∃ v hc ids, runD tab noExt (d + 3) 73 [.sl c 4 (ws.map Ver.cells)] [] = some ([v], hc) ∧ OwnF hc (.sub fdVersion) v (.sub (ws.map verU)) ids ∧ ids.Nodup := by
  obtain ⟨hf0, hf1, hf2⟩ := hf
  obtain ⟨⟨h', done⟩, ⟨g1, g2⟩, e⟩ := LoopK_inv (run := runD tab noExt (d + 2)) (draw := drawI (runD tab noExt (d + 2))) (live := [3, 6, 7, 8]) (out := [3]) (c := L73x0) ws.length
    (fun i (b : Heap × List (List V)) => Grown fdVersion 0 b.1 b.2 ((ws.take i).map verU) ∧ b.2.length = i)
    (fun i b => [(3, .ref 0 b.2.length 0 b.2.length false), (6, .sl c 4 (ws.map Ver.cells)), (7, .int .i64 ws.length), (8, .int .i64 (i : Nat))]) (fun b => b.1) (fun b => some (.exit 0, [(3, .ref 0 b.2.length 0 b.2.length false)], b.1))
    (fun b K hb => by
      rw [LoopK_eq]
      simp -implicitDefEqProofs only [go_sem, Nat.reduceBEq, Nat.reduceAdd, Nat.reduceSub, Nat.reduceMul, Nat.reduceLeDiff, Nat.reduceEqDiff, Nat.reduceLT, Int.reduceNeg, Int.reduceAdd, Int.reduceSub, Int.reduceMul, Int.reduceLE, Int.reduceLT, Int.reduceEq, Int.reduceToNat, reduceCtorEq, evL73x0, B73x0, Int.lt_irrefl]) (fun i b K hi hb => by
      obtain ⟨h, done⟩ := b
      obtain ⟨g, glen⟩ := hb
      simp only at g glen ⊢
      have hx := List.getElem?_eq_getElem hi
      generalize ws[i] = w at hx
      have hfw := hf2 w (List.mem_of_getElem? hx)
      have hi' : (i : Int) < ws.length := by omega
      have hsm : done.length + 1 < 4294967296 := by omega
      rw [take_snoc hx, List.map_append]
      obtain ⟨key, born, died, ⟨rc, vs⟩⟩ := w
      obtain ⟨v, h1, k1, k2, k3, kw, k5, g2⟩ := grow_ver g d key born died rc vs hfw
      refine ⟨((h1.set h.length (.box [.int .i64 key, .int .i64 born, .int .i64 died, v])).set 0 (.nest (done.length + 1) 4 (done ++ [[.int .i64 key, .int .i64 born, .int .i64 died, v]])), done ++ [[.int .i64 key, .int .i64 born, .int .i64 died, v]]), ⟨g2, by simp; omega⟩, ?_⟩
      rw [LoopK_eq]
      rcases kw with ⟨c', rfl⟩ | ⟨id, st, n, clip, rfl⟩ <;> simp -implicitDefEqProofs (disch := omega) only [go_sem, Nat.reduceBEq, Nat.reduceAdd, Nat.reduceSub, Nat.reduceMul, Nat.reduceLeDiff, Nat.reduceEqDiff, Nat.reduceLT, Int.reduceNeg, Int.reduceAdd, Int.reduceSub, Int.reduceMul, Int.reduceLE, Int.reduceLT, Int.reduceEq, Int.reduceToNat, reduceCtorEq, evL73x0, B73x0, hi', hx, Ver.cells, Row.v, k1, k2, k3, k5, hsm, List.getElem?_set_self, at_end, at_end_add, set_end, set_end_add, elemsN, elemN, listN, appendN, okN, small, IntWalk.i64_in]) 1099511627775 (by omega) ([.nest 0 4 []], []) ⟨Grown.start rfl, rfl⟩
  simp only at g1 g2 e
  rw [List.take_of_length_le (Nat.le_refl _)] at g1
  obtain ⟨ids, o1, o2⟩ := g1.own (n := done.length) (clip := true) rfl
  refine ⟨_, h', ids, ?_, o1, o2⟩
  have hn := g1.nest (by rfl)
  have hc : callX (runD tab noExt (d + 2)) h' 2 133 [.ref 0 done.length 0 done.length false] = some (.ref 0 done.length 0 done.length true, h') := by
    simp only [callX, callK]
    rw [runD_eq find133 _ _ _ (by simp)]
    have hn' : h'[0]? = some (.nest done.length 4 done) := hn
    simp -implicitDefEqProofs (disch := omega) only [go_sem, Nat.reduceBEq, Nat.reduceAdd, Nat.reduceSub, Nat.reduceMul, Nat.reduceLeDiff, Nat.reduceEqDiff, Nat.reduceLT, Int.reduceNeg, Int.reduceAdd, Int.reduceSub, Int.reduceMul, Int.reduceLE, Int.reduceLT, Int.reduceEq, Int.reduceToNat, reduceCtorEq, Bool.true_or, resOk, hn']
  rw [runD_eq find73 _ _ _ (by simp)]
  simp -implicitDefEqProofs (disch := omega) only [go_sem, Nat.reduceBEq, Nat.reduceAdd, Nat.reduceSub, Nat.reduceMul, Nat.reduceLeDiff, Nat.reduceEqDiff, Nat.reduceLT, Int.reduceNeg, Int.reduceAdd, Int.reduceSub, Int.reduceMul, Int.reduceLE, Int.reduceLT, Int.reduceEq, Int.reduceToNat, reduceCtorEq]
  try simp -implicitDefEqProofs only [go_sem, Nat.reduceBEq, Nat.reduceAdd, Nat.reduceSub, Nat.reduceMul, Nat.reduceLeDiff, Nat.reduceEqDiff, Nat.reduceLT, Int.reduceNeg, Int.reduceAdd, Int.reduceSub, Int.reduceMul, Int.reduceLE, Int.reduceLT, Int.reduceEq, Int.reduceToNat, reduceCtorEq] at e
  rw [e]
  simp -implicitDefEqProofs (disch := omega) only [go_sem, Nat.reduceBEq, Nat.reduceAdd, Nat.reduceSub, Nat.reduceMul, Nat.reduceLeDiff, Nat.reduceEqDiff, Nat.reduceLT, Int.reduceNeg, Int.reduceAdd, Int.reduceSub, Int.reduceMul, Int.reduceLE, Int.reduceLT, Int.reduceEq, Int.reduceToNat, reduceCtorEq, hc]
end Go.Proofs.Ytfbjbkkcilhgjaa.PE
/- Calls whose results are memory of one's own, and a number beside it. -/
set_option linter.unusedVariables false
set_option linter.unusedSimpArgs false
namespace Go.Proofs.Ytfbjbkkcilhgjaa.PE
open Go.RowKit

end Go.Proofs.Ytfbjbkkcilhgjaa.PE
/- Steps of exact statements of structs. -/
set_option linter.unusedVariables false
set_option linter.unusedSimpArgs false
namespace Go.Proofs.Ytfbjbkkcilhgjaa.PE
open Go.RowKit

theorem pureDA_of {h : Heap} {fs : List Fd} {v q : V} {u : U} {ids : List Nat} (ho : OwnF h (.sub fs) v u ids) (e : pureD h 6 v = some q) : pureDA h v = some q := by
  rcases own_cases ho with ⟨c, rfl⟩ | ⟨id, st, n, clip, rfl⟩ <;> exact e
end Go.Proofs.Ytfbjbkkcilhgjaa.PE
/- Results that are memory of one's own, told as values. -/
set_option linter.unusedSimpArgs false
set_option linter.unusedVariables false
namespace Go.Proofs.Ytfbjbkkcilhgjaa.PE
open Go.RowKit

theorem retP_own {run : Run} {f : Nat} {args : List V} {v : V} {hc : Heap} {fs : List Fd} {u : U} {ids : List Nat} (hr : run f args [] = some ([v], hc)) (ho : OwnF hc (.sub fs) v u ids) (hd : dep (.sub fs) ≤ 6) : ∃ q, retP run f args = some [q] ∧ PurF (.sub fs) q u := by
  obtain ⟨q, e1, e2⟩ := OwnF_pure (.sub fs) 6 hd ho
  have e3 := pureDA_of ho e1
  refine ⟨q, ?_, e2⟩
  unfold retP
  rw [hr, PureR_some]
  have hA : pureAs hc [v] = none ∨ pureAs hc [v] = some [q] := by
    simp only [OwnF] at ho
    obtain ⟨xs, rfl, ⟨c, rfl, rfl, _⟩ | ⟨id, st, clip, cont, r, rfl, e, _, _⟩⟩ := ho
    · right
      simp only [pureD, Option.some.injEq] at e1
      subst e1
      rfl
    · simp only [pureAs, pureA, pureC, e, blkOf]
      cases hdeep : fs.any Fd.deep
      · right
        simp only [pureD, e, blkOf, hdeep, Bool.false_eq_true, if_false, if_true, Option.some.injEq] at e1
        subst e1
        simp
      · left
        simp
  rcases hA with hA | hA
  · rw [hA, OrD_none]
    simp only [pureDAs, mapO, e3]
  · rw [hA, OrD_some]
end Go.Proofs.Ytfbjbkkcilhgjaa.PE
/- Values that are drawn. -/
set_option linter.unusedSimpArgs false
set_option linter.unusedVariables false
set_option maxHeartbeats 4000000
namespace Go.Proofs.Ytfbjbkkcilhgjaa.PE
open Go.RowKit

/-- A drawn value's text is short. -/
def GV (v : Val) : Prop := v.s.size ≤ 20

-- find197
def ValPost (p q : Int) (s s' : ByteArray) (p' : Int) : Prop := p ≤ p' ∧ p' ≤ p + q ∧ s'.size ≤ s.size + q
-- find149
end Go.Proofs.Ytfbjbkkcilhgjaa.PE
/- Values, columns and rows that are drawn. -/
set_option linter.unusedSimpArgs false
set_option linter.unusedVariables false
set_option maxHeartbeats 4000000
namespace Go.Proofs.Ytfbjbkkcilhgjaa.PE
open Go.RowKit

end Go.Proofs.Ytfbjbkkcilhgjaa.PE
/- Columns and rows that are drawn. -/
set_option linter.unusedSimpArgs false
set_option linter.unusedVariables false
set_option maxHeartbeats 4000000
namespace Go.Proofs.Ytfbjbkkcilhgjaa.PE
open Go.RowKit

def IsCol (x : List V) : Prop := ∃ k e, x = [.int .i64 k, .bool e]
def AllP (P : List V → Prop) (l : List (List V)) : Prop := ∀ x ∈ l, P x
theorem AllP.nil {P : List V → Prop} : AllP P [] := fun _ h => by cases h
theorem AllP.snoc {P : List V → Prop} {l : List (List V)} {x : List V} (h : AllP P l) (hx : P x) : AllP P (l ++ [x]) := fun y hy => by
  rcases List.mem_append.1 hy with h1 | h1
  · exact h y h1
  · rw [List.mem_singleton.1 h1]; exact hx
def ColsPost (j : Nat) (cont : List (List V)) (p : Int) (cont' : List (List V)) (p' : Int) : Prop := AllP IsCol cont' ∧ cont'.length = cont.length + j ∧ p ≤ p' ∧ p' ≤ p + 2 * j
-- find58
end Go.Proofs.Ytfbjbkkcilhgjaa.PE
/- Rows and bags that are drawn. -/
set_option linter.unusedSimpArgs false
set_option linter.unusedVariables false
set_option maxHeartbeats 4000000
namespace Go.Proofs.Ytfbjbkkcilhgjaa.PE
open Go.RowKit

def IsVal (x : List V) : Prop := ∃ (k n : Int) (s : ByteArray), s.size ≤ 20 ∧ x = [.int .i64 k, .int .i64 n, .str s]
def ValsPost (j q : Nat) (cont : List (List V)) (p : Int) (cont' : List (List V)) (p' : Int) : Prop := AllP IsVal cont' ∧ cont'.length = cont.length + j ∧ p ≤ p' ∧ p' ≤ p + q * j
theorem AllP.set {P : List V → Prop} {l : List (List V)} {x : List V} (h : AllP P l) (hx : P x) (i : Nat) : AllP P (l.set i x) := fun y hy => by
  rcases List.mem_or_eq_of_mem_set hy with h1 | h1
  · exact h y h1
  · rw [h1]; exact hx
/-- A drawn row. -/
def GR (vs : List Val) : Prop := vs.length ≤ 20 ∧ ∀ v ∈ vs, GV v
-- find194
theorem run_own (d : Nat) (c : Bool) (l : List (List V)) (hl : l.length < 4294967296) : retP (runD tab noExt (d + 1)) 77 [.sl c 3 l] = some [.sl false 3 l] := by
  rw [retP, runD_eq find77 _ _ _ (by simp)]
  have hl' : 0 + l.length < 4294967296 := by omega
  simp -implicitDefEqProofs (disch := omega) only [go_sem, Nat.reduceBEq, Nat.reduceAdd, Nat.reduceSub, Nat.reduceMul, Nat.reduceLeDiff, Nat.reduceEqDiff, Nat.reduceLT, Int.reduceNeg, Int.reduceAdd, Int.reduceSub, Int.reduceMul, Int.reduceLE, Int.reduceLT, Int.reduceEq, Int.reduceToNat, reduceCtorEq, List.take_length, hl, hl']

def IsRow1 (x : List V) : Prop := ∃ (c : Bool) (vs : List Val), GR vs ∧ x = [.sl c 3 (vs.map Val.cells)]
def RowsPost (j : Nat) (cont : List (List V)) (p : Int) (cont' : List (List V)) (p' : Int) : Prop := AllP IsRow1 cont' ∧ cont'.length = cont.length + j ∧ p ≤ p' ∧ p' ≤ p + 110 * j
def BagPost (rs : List Row) : Prop := rs.length ≤ 6 ∧ ∀ r ∈ rs, GR r.vs
end Go.Proofs.Ytfbjbkkcilhgjaa.PE
/- Versions that are swept: both functions. -/
set_option linter.unusedSimpArgs false
set_option linter.unusedVariables false
set_option maxHeartbeats 4000000
set_option maxRecDepth 20000
namespace Go.Proofs.Ytfbjbkkcilhgjaa.PE
open Go.RowKit

theorem loop_idrVer (d : Nat) (t : Int) (g : Nat) (xs : List (Ver)) (P : Ver → Bool) (hs : xs.length < 4294967296)
    (hg : ∀ x ∈ xs, callS (runD tab noExt d) [.box [.int .i64 t], .rows 0 4 (xs.map Ver.cells)] g [V.agg (Ver.cells x), .ptr 0 0 0 0] false = some (.bool (P x), [.box [.int .i64 t], .rows 0 4 (xs.map Ver.cells)])) (K : Nat) (hK : xs.length ≤ K) :
    LoopS (runD tab noExt d) (drawI (runD tab noExt d)) [0, 1, 7, 8] [4] L134x0 2 K [(0, .ref 1 0 0 xs.length false), (1, .clo g [.ptr 0 0 0 0]), (7, .int .i64 xs.length), (8, .int .i64 0)] [.box [.int .i64 t], .rows 0 4 (xs.map Ver.cells)] =
      (match xs.findIdx? P with
        | some k => (some (.ret, [(4, .int .i64 (k : Int))], [.box [.int .i64 t], .rows 0 4 (xs.map Ver.cells)]) : Out)
        | none => some (.exit 0, [(4, .undef)], [.box [.int .i64 t], .rows 0 4 (xs.map Ver.cells)])) := by
  have key := LoopS_rec (run := runD tab noExt d) (draw := drawI (runD tab noExt d)) (live := [0, 1, 7, 8]) (out := [4]) (c := L134x0) (n0 := 2) xs (fun (i : Nat) (_ : Unit) => [(0, .ref 1 0 0 xs.length false), (1, .clo g [.ptr 0 0 0 0]), (7, .int .i64 xs.length), (8, .int .i64 i)]) (fun _ _ => [.box [.int .i64 t], .rows 0 4 (xs.map Ver.cells)])
    (fun r _ => match r.findIdx? P with
        | some k => (some (.ret, [(4, .int .i64 (xs.length - r.length + k : Int))], [.box [.int .i64 t], .rows 0 4 (xs.map Ver.cells)]) : Out)
        | none => some (.exit 0, [(4, .undef)], [.box [.int .i64 t], .rows 0 4 (xs.map Ver.cells)])) (fun _ K => ?_) (fun (i : Nat) x r _ K hi hx hr ih => ?_) K hK ()
  · simp only [Int.natCast_zero, Int.sub_self, Int.zero_add] at key
    exact key
  · rw [LoopS_eq]
    simp -implicitDefEqProofs only [go_sem, Nat.reduceBEq, Nat.reduceAdd, Nat.reduceSub, Nat.reduceMul, Nat.reduceLeDiff, Nat.reduceEqDiff, Nat.reduceLT, Int.reduceNeg, Int.reduceAdd, Int.reduceSub, Int.reduceMul, Int.reduceLE, Int.reduceLT, Int.reduceEq, Int.reduceToNat, reduceCtorEq, evL134x0, B134x0, Int.lt_irrefl, List.findIdx?_nil]
  · have hgx := hg x (List.mem_of_getElem? hx)
    try simp only [Ver.cells, Row.v] at hgx
    have hlen : (xs.length : Int) - (r.length + 1) = i := by omega
    have hiN : i < xs.length := by omega
    rw [LoopS_eq]
    simp -implicitDefEqProofs (disch := omega) only [go_sem, Nat.reduceBEq, Nat.reduceAdd, Nat.reduceSub, Nat.reduceMul, Nat.reduceLeDiff, Nat.reduceEqDiff, Nat.reduceLT, Int.reduceNeg, Int.reduceAdd, Int.reduceSub, Int.reduceMul, Int.reduceLE, Int.reduceLT, Int.reduceEq, Int.reduceToNat, reduceCtorEq, evL134x0, B134x0, hi, hiN, hx, hgx, Ver.cells, Row.v, IntWalk.i64_in]
    rw [List.findIdx?_cons]
    cases hp : P x
    · simp -implicitDefEqProofs (disch := omega) only [go_sem, Nat.reduceBEq, Nat.reduceAdd, Nat.reduceSub, Nat.reduceMul, Nat.reduceLeDiff, Nat.reduceEqDiff, Nat.reduceLT, Int.reduceNeg, Int.reduceAdd, Int.reduceSub, Int.reduceMul, Int.reduceLE, Int.reduceLT, Int.reduceEq, Int.reduceToNat, reduceCtorEq, IntWalk.i64_in, hp]
      have ih' := ih ()
      simp only [Int.natCast_add, Int.natCast_one, Ver.cells, Row.v] at ih'
      rw [ih']
      cases hf : r.findIdx? P with
      | none => rfl
      | some k => simp; omega
    · simp -implicitDefEqProofs only [go_sem, Nat.reduceBEq, Nat.reduceAdd, Nat.reduceSub, Nat.reduceMul, Nat.reduceLeDiff, Nat.reduceEqDiff, Nat.reduceLT, Int.reduceNeg, Int.reduceAdd, Int.reduceSub, Int.reduceMul, Int.reduceLE, Int.reduceLT, Int.reduceEq, Int.reduceToNat, reduceCtorEq, hp, List.length_cons, Int.natCast_add, Int.natCast_one, hlen]
      simp
theorem idrVer (d : Nat) (t : Int) (g : Nat) (xs : List (Ver)) (P : Ver → Bool) (hs : xs.length < 4294967296)
    (hg : ∀ x ∈ xs, callS (runD tab noExt d) [.box [.int .i64 t], .rows 0 4 (xs.map Ver.cells)] g [V.agg (Ver.cells x), .ptr 0 0 0 0] false = some (.bool (P x), [.box [.int .i64 t], .rows 0 4 (xs.map Ver.cells)])) :
    callS (runD tab noExt (d + 1)) [.box [.int .i64 t], .rows 0 4 (xs.map Ver.cells)] 134 [.ref 1 0 0 xs.length false, .clo g [.ptr 0 0 0 0]] false = some (.int .i64 (match xs.findIdx? P with | some k => (k : Int) | none => -1), [.box [.int .i64 t], .rows 0 4 (xs.map Ver.cells)]) := by
  rw [callS_eq, runD_eq find134 _ _ _ (by simp)]
  have hl := loop_idrVer d t g xs P hs hg 1099511627775 (by omega)
  simp -implicitDefEqProofs (disch := omega) only [go_sem, Nat.reduceBEq, Nat.reduceAdd, Nat.reduceSub, Nat.reduceMul, Nat.reduceLeDiff, Nat.reduceEqDiff, Nat.reduceLT, Int.reduceNeg, Int.reduceAdd, Int.reduceSub, Int.reduceMul, Int.reduceLE, Int.reduceLT, Int.reduceEq, Int.reduceToNat, reduceCtorEq]
  try simp -implicitDefEqProofs only [go_sem, Nat.reduceBEq, Nat.reduceAdd, Nat.reduceSub, Nat.reduceMul, Nat.reduceLeDiff, Nat.reduceEqDiff, Nat.reduceLT, Int.reduceNeg, Int.reduceAdd, Int.reduceSub, Int.reduceMul, Int.reduceLE, Int.reduceLT, Int.reduceEq, Int.reduceToNat, reduceCtorEq] at hl
  rw [hl]
  cases hf : xs.findIdx? P <;> simp -implicitDefEqProofs only [go_sem, Nat.reduceBEq, Nat.reduceAdd, Nat.reduceSub, Nat.reduceMul, Nat.reduceLeDiff, Nat.reduceEqDiff, Nat.reduceLT, Int.reduceNeg, Int.reduceAdd, Int.reduceSub, Int.reduceMul, Int.reduceLE, Int.reduceLT, Int.reduceEq, Int.reduceToNat, reduceCtorEq]
/-- What lies in memory behind so many elements: those that are kept, and the rest as it was. -/
structure KeptVer (xs : List (Ver)) (P : Ver → Bool) (i k : Nat) (cont : List (List V)) : Prop where
  len : cont.length = xs.length
  lt : k < i
  le : i ≤ xs.length
  kept : cont.take k = ((xs.take i).filter fun x => !P x).map Ver.cells
  rest : cont.drop i = (xs.drop i).map Ver.cells
  form : ∀ c ∈ cont, ∃ y : Ver, c = Ver.cells y
theorem loop_delVer (d : Nat) (t : Int) (g : Nat) (xs : List (Ver)) (P : Ver → Bool) (hs : xs.length < 4294967296)
    (hg : ∀ x ∈ xs, ∀ cont, callS (runD tab noExt d) [.box [.int .i64 t], .rows 0 4 cont, .box (Ver.cells x)] g [V.agg (Ver.cells x), .ptr 0 0 0 0] false = some (.bool (P x), [.box [.int .i64 t], .rows 0 4 cont, .box (Ver.cells x)])) : ∀ (m i k : Nat) (cont : List (List V)), i + m = xs.length → KeptVer xs P i k cont → ∀ K, m ≤ K →
    ∃ k' cont', KeptVer xs P xs.length k' cont' ∧ LoopS (runD tab noExt d) (drawI (runD tab noExt d)) [0, 1, 5, 6] [0, 5] L74x0 2 K [(0, .ref 1 0 0 xs.length false), (1, .clo g [.ptr 0 0 0 0]), (5, .int .i64 k), (6, .int .i64 i)] [.box [.int .i64 t], .rows 0 4 cont] = some (.exit 0, [(0, .ref 1 0 0 xs.length false), (5, .int .i64 k')], [.box [.int .i64 t], .rows 0 4 cont'])
  | 0, i, k, cont, hi, hk, K, hK => by
    have e : i = xs.length := by omega
    subst e
    refine ⟨k, cont, hk, ?_⟩
    rw [LoopS_eq]
    simp -implicitDefEqProofs (disch := omega) only [go_sem, Nat.reduceBEq, Nat.reduceAdd, Nat.reduceSub, Nat.reduceMul, Nat.reduceLeDiff, Nat.reduceEqDiff, Nat.reduceLT, Int.reduceNeg, Int.reduceAdd, Int.reduceSub, Int.reduceMul, Int.reduceLE, Int.reduceLT, Int.reduceEq, Int.reduceToNat, reduceCtorEq, evL74x0, B74x0, Int.lt_irrefl]
  | m + 1, i, k, cont, hi, hk, K, hK => by
    obtain ⟨K, rfl⟩ : ∃ k', K = k' + 1 := ⟨K - 1, by omega⟩
    obtain ⟨h1, h2, h3, h4, h5, h6⟩ := hk
    have hx := List.getElem?_eq_getElem (show i < xs.length by omega)
    generalize xs[i]'(by omega) = x at hx
    have hcx : cont[i]? = some (Ver.cells x) := by
      have := congrArg (fun l : List (List V) => l[0]?) h5
      simpa [List.getElem?_drop, hx] using this
    have hgx := hg x (List.mem_of_getElem? hx) cont
    have hkl : k < cont.length := by omega
    have hkn : (k : Int) < xs.length := by omega
    have hin : (i : Int) < xs.length := by omega
    have hk1 : k < xs.length := by omega
    have hiN : i < xs.length := by omega
    obtain ⟨y, hy⟩ := h6 _ (List.getElem_mem hkl)
    have hck : cont[k]? = some (Ver.cells y) := by rw [List.getElem?_eq_getElem hkl, hy]
    clear hy
    have hsx : (xs.take (i + 1)) = xs.take i ++ [x] := take_snoc hx
    cases hp : P x
    · have hk' : KeptVer xs P (i + 1) (k + 1) (cont.set k (Ver.cells x)) := by
        refine ⟨by simp [h1], by omega, by omega, ?_, ?_, fun c hc => (List.mem_or_eq_of_mem_set hc).elim (h6 c) (fun e => ⟨x, e⟩)⟩
        · rw [hsx, List.filter_append, List.map_append, ← h4, List.take_add_one, List.take_set_of_le (Nat.le_refl _), List.getElem?_set_self hkl]
          simp [hp]
        · rw [List.drop_set_of_lt (by omega), ← List.drop_drop, h5, ← List.map_drop, List.drop_drop]
      obtain ⟨k', cont', q1, q2⟩ := loop_delVer d t g xs P hs hg m (i + 1) (k + 1) _ (by omega) hk' K (by omega)
      refine ⟨k', cont', q1, ?_⟩
      rw [← q2, LoopS_eq]
      rw [hp] at hgx
      try simp only [Ver.cells, Row.v] at hgx hcx hck
      simp -implicitDefEqProofs (disch := omega) only [go_sem, Nat.reduceBEq, Nat.reduceAdd, Nat.reduceSub, Nat.reduceMul, Nat.reduceLeDiff, Nat.reduceEqDiff, Nat.reduceLT, Int.reduceNeg, Int.reduceAdd, Int.reduceSub, Int.reduceMul, Int.reduceLE, Int.reduceLT, Int.reduceEq, Int.reduceToNat, reduceCtorEq, evL74x0, B74x0, hin, hiN, frzs, refs, refC, hcx, hck, hgx, hkn, hkl, hk1, Ver.cells, Row.v, IntWalk.i64_in, List.contains_nil, List.set_cons_succ, List.set_cons_zero]
    · have hk' : KeptVer xs P (i + 1) k cont := by
        refine ⟨h1, by omega, by omega, ?_, ?_, h6⟩
        · rw [hsx, List.filter_append, List.map_append, h4]
          simp [hp]
        · rw [← List.drop_drop, h5, ← List.map_drop, List.drop_drop]
      obtain ⟨k', cont', q1, q2⟩ := loop_delVer d t g xs P hs hg m (i + 1) k _ (by omega) hk' K (by omega)
      refine ⟨k', cont', q1, ?_⟩
      rw [← q2, LoopS_eq]
      rw [hp] at hgx
      try simp only [Ver.cells, Row.v] at hgx hcx
      simp -implicitDefEqProofs (disch := omega) only [go_sem, Nat.reduceBEq, Nat.reduceAdd, Nat.reduceSub, Nat.reduceMul, Nat.reduceLeDiff, Nat.reduceEqDiff, Nat.reduceLT, Int.reduceNeg, Int.reduceAdd, Int.reduceSub, Int.reduceMul, Int.reduceLE, Int.reduceLT, Int.reduceEq, Int.reduceToNat, reduceCtorEq, evL74x0, B74x0, hin, hiN, frzs, refs, refC, hcx, hgx, hkn, hkl, hk1, Ver.cells, Row.v, IntWalk.i64_in, List.contains_nil]
theorem find_keptVer {xs : List (Ver)} {P : Ver → Bool} {k : Nat} (h : xs.findIdx? P = some k) : KeptVer xs P (k + 1) k (xs.map Ver.cells) := by
  obtain ⟨h1, h2, h3⟩ := List.findIdx?_eq_some_iff_getElem.1 h
  refine ⟨by simp, by omega, by omega, ?_, List.map_drop.symm, fun c hc => by obtain ⟨y, _, rfl⟩ := List.mem_map.1 hc; exact ⟨y, rfl⟩⟩
  have e : (xs.take k).filter (fun x => !P x) = xs.take k := List.filter_eq_self.2 (fun x hx => by
    obtain ⟨j, hj⟩ := List.getElem?_of_mem hx
    have hjl := (List.getElem?_eq_some_iff.1 hj).1
    rw [List.length_take] at hjl
    rw [List.getElem?_take_of_lt (by omega), List.getElem?_eq_getElem (by omega)] at hj
    have := h3 j (by omega)
    rw [Option.some.inj hj] at this
    simpa using this)
  rw [take_snoc (List.getElem?_eq_getElem h1), List.filter_append, e]
  simp [h2, List.map_take]
theorem delVer (d : Nat) (t : Int) (g : Nat) (xs : List (Ver)) (P : Ver → Bool) (hs : xs.length < 4294967296)
    (hg0 : ∀ x ∈ xs, callS (runD tab noExt d) [.box [.int .i64 t], .rows 0 4 (xs.map Ver.cells)] g [V.agg (Ver.cells x), .ptr 0 0 0 0] false = some (.bool (P x), [.box [.int .i64 t], .rows 0 4 (xs.map Ver.cells)]))
    (hg : ∀ x ∈ xs, ∀ cont, callS (runD tab noExt (d + 1)) [.box [.int .i64 t], .rows 0 4 cont, .box (Ver.cells x)] g [V.agg (Ver.cells x), .ptr 0 0 0 0] false = some (.bool (P x), [.box [.int .i64 t], .rows 0 4 cont, .box (Ver.cells x)])) :
    ∃ h', callS (runD tab noExt (d + 2)) [.box [.int .i64 t], .rows 0 4 (xs.map Ver.cells)] 74 [.ref 1 0 0 xs.length false, .clo g [.ptr 0 0 0 0]] false = some (.ref 1 0 0 ((xs.filter fun x => !P x).length) false, [.box [.int .i64 t], .rows 0 4 h']) ∧ h'.take ((xs.filter fun x => !P x).length) = (xs.filter fun x => !P x).map Ver.cells := by
  have hi := idrVer d t g xs P hs hg0
  cases hf : xs.findIdx? P with
  | none =>
    rw [hf] at hi
    have hall : xs.filter (fun x => !P x) = xs := List.filter_eq_self.2 (fun x hx => by
      have := List.findIdx?_eq_none_iff.1 hf x hx
      simp [this])
    rw [hall]
    refine ⟨xs.map Ver.cells, ?_, List.take_of_length_le (by simp)⟩
    rw [callS_eq, runD_eq find74 _ _ _ (by simp)]
    simp -implicitDefEqProofs (disch := omega) only [go_sem, Nat.reduceBEq, Nat.reduceAdd, Nat.reduceSub, Nat.reduceMul, Nat.reduceLeDiff, Nat.reduceEqDiff, Nat.reduceLT, Int.reduceNeg, Int.reduceAdd, Int.reduceSub, Int.reduceMul, Int.reduceLE, Int.reduceLT, Int.reduceEq, Int.reduceToNat, reduceCtorEq, hi]
  | some k =>
    rw [hf] at hi
    have hk0 := find_keptVer hf
    have hkl : k + 1 ≤ xs.length := hk0.le
    obtain ⟨k', cont', q1, q2⟩ := loop_delVer (d + 1) t g xs P hs hg (xs.length - (k + 1)) (k + 1) k _ (by omega) hk0 1099511627775 (by omega)
    obtain ⟨r1, r2, r3, r4, r5, _⟩ := q1
    rw [List.take_length] at r4
    have hkk : k' = (xs.filter fun x => !P x).length := by
      have := congrArg List.length r4
      rw [List.length_take, List.length_map] at this
      omega
    have hk2 : (k' : Int) ≤ xs.length := by omega
    have hk3 : xs.length - k' ≠ 0 := by omega
    have hk4 : (xs.length - k' = 0) = False := eq_false hk3
    refine ⟨cont'.take k' ++ (List.replicate (xs.length - k') [.int .i64 0, .int .i64 0, .int .i64 0, .sl true 3 []] ++ cont'.drop (k' + (xs.length - k'))), ?_, ?_⟩
    · rw [← hkk, callS_eq, runD_eq find74 _ _ _ (by simp)]
      simp -implicitDefEqProofs (disch := omega) only [go_sem, Nat.reduceBEq, Nat.reduceAdd, Nat.reduceSub, Nat.reduceMul, Nat.reduceLeDiff, Nat.reduceEqDiff, Nat.reduceLT, Int.reduceNeg, Int.reduceAdd, Int.reduceSub, Int.reduceMul, Int.reduceLE, Int.reduceLT, Int.reduceEq, Int.reduceToNat, reduceCtorEq, hi, IntWalk.i64_in]
      try simp -implicitDefEqProofs only [go_sem, Nat.reduceBEq, Nat.reduceAdd, Nat.reduceSub, Nat.reduceMul, Nat.reduceLeDiff, Nat.reduceEqDiff, Nat.reduceLT, Int.reduceNeg, Int.reduceAdd, Int.reduceSub, Int.reduceMul, Int.reduceLE, Int.reduceLT, Int.reduceEq, Int.reduceToNat, reduceCtorEq] at q2
      rw [q2]
      simp -implicitDefEqProofs (disch := omega) only [go_sem, Nat.reduceBEq, Nat.reduceAdd, Nat.reduceSub, Nat.reduceMul, Nat.reduceLeDiff, Nat.reduceEqDiff, Nat.reduceLT, Int.reduceNeg, Int.reduceAdd, Int.reduceSub, Int.reduceMul, Int.reduceLE, Int.reduceLT, Int.reduceEq, Int.reduceToNat, reduceCtorEq, hk2, hk4, List.set_cons_succ, List.set_cons_zero]
    · rw [← hkk, List.take_left' (by rw [List.length_take]; omega)]
      exact r4

def gone (t : Int) (x : Ver) : Bool := !decide (x.died = 0) && decide (x.died ≤ t)
def swept (t : Int) (l : List Ver) : List Ver := l.filter fun x => !gone t x
theorem swept_mem {t : Int} {l : List Ver} : ∀ e ∈ swept t l, e ∈ l := fun e he => (List.mem_filter.1 he).1
theorem swept_len (t : Int) (l : List Ver) : (swept t l).length ≤ l.length := List.length_filter_le _ _
theorem swept_twice (t : Int) (l : List Ver) : swept t (swept t l) = swept t l := by
  unfold swept
  rw [List.filter_filter]
  simp
-- find76
theorem clo_swept (d : Nat) (t : Int) (x : Ver) (cont : List (List V)) : callS (runD tab noExt (d + 1)) [.box [.int .i64 t], .rows 0 4 cont] 76 [.agg (Ver.cells x), .ptr 0 0 0 0] false = some (.bool (gone t x), [.box [.int .i64 t], .rows 0 4 cont]) := by
  rw [callS_eq, runD_eq find76 _ _ _ (by simp)]
  by_cases h : x.died = 0 <;> simp -implicitDefEqProofs (disch := omega) only [go_sem, Nat.reduceBEq, Nat.reduceAdd, Nat.reduceSub, Nat.reduceMul, Nat.reduceLeDiff, Nat.reduceEqDiff, Nat.reduceLT, Int.reduceNeg, Int.reduceAdd, Int.reduceSub, Int.reduceMul, Int.reduceLE, Int.reduceLT, Int.reduceEq, Int.reduceToNat, reduceCtorEq, Ver.cells, Row.v, gone, h]
theorem clo_swept3 (d : Nat) (t : Int) (x : Ver) (cont : List (List V)) : callS (runD tab noExt (d + 1)) [.box [.int .i64 t], .rows 0 4 cont, .box (Ver.cells x)] 76 [.agg (Ver.cells x), .ptr 0 0 0 0] false = some (.bool (gone t x), [.box [.int .i64 t], .rows 0 4 cont, .box (Ver.cells x)]) := by
  rw [callS_eq, runD_eq find76 _ _ _ (by simp)]
  by_cases h : x.died = 0 <;> simp -implicitDefEqProofs (disch := omega) only [go_sem, Nat.reduceBEq, Nat.reduceAdd, Nat.reduceSub, Nat.reduceMul, Nat.reduceLeDiff, Nat.reduceEqDiff, Nat.reduceLT, Int.reduceNeg, Int.reduceAdd, Int.reduceSub, Int.reduceMul, Int.reduceLE, Int.reduceLT, Int.reduceEq, Int.reduceToNat, reduceCtorEq, Ver.cells, Row.v, gone, h]
theorem clone_Ver (d : Nat) (c : Bool) (l : List Ver) (hl : l.length < 4294967296) : runD tab noExt (d + 1) 75 [.sl c 4 (l.map Ver.cells)] [] = some (match l with
    | [] => ([.sl true 4 []], [])
    | _ :: _ => ([.ref 0 0 0 l.length false], [.rows 0 4 (l.map Ver.cells)])) := by
  rw [runD_eq find75 _ _ _ (by simp)]
  cases l with
  | nil => simp -implicitDefEqProofs (disch := omega) only [go_sem, Nat.reduceBEq, Nat.reduceAdd, Nat.reduceSub, Nat.reduceMul, Nat.reduceLeDiff, Nat.reduceEqDiff, Nat.reduceLT, Int.reduceNeg, Int.reduceAdd, Int.reduceSub, Int.reduceMul, Int.reduceLE, Int.reduceLT, Int.reduceEq, Int.reduceToNat, reduceCtorEq, elemsOf]
  | cons x l =>
    have h1 : l.length + 1 < 4294967296 := by simpa using hl
    simp -implicitDefEqProofs (disch := omega) only [go_sem, Nat.reduceBEq, Nat.reduceAdd, Nat.reduceSub, Nat.reduceMul, Nat.reduceLeDiff, Nat.reduceEqDiff, Nat.reduceLT, Int.reduceNeg, Int.reduceAdd, Int.reduceSub, Int.reduceMul, Int.reduceLE, Int.reduceLT, Int.reduceEq, Int.reduceToNat, reduceCtorEq, elemsOf, h1, frzs, List.flatMap_nil, appendTo, small]
-- find20
theorem own_SweptAt (d : Nat) (c : Bool) (l : List Ver) (t : Int) (hs : l.length ≤ 1048576) (hsh : ShortVs l) (hfn : ∀ v ∈ l, v.row.vs.length < 4294967296) : ∃ v hc ids, runD tab noExt (d + 9) 20 [.sl c 4 (l.map Ver.cells), .int .i64 t] [] = some ([v], hc) ∧ OwnF hc (.sub fdVersion) v (.sub ((if versOk l then swept t l else []).map verU)) ids ∧ ids.Nodup := by
  have hv := run_versI d c l (by omega) hsh
  cases hok : versOk l
  · rw [hok] at hv
    refine ⟨.sl true 4 [], [.box [.int .i64 t]], [], ?_, own_nil rfl, List.nodup_nil⟩
    rw [runD_eq find20 _ _ _ (by simp)]
    simp -implicitDefEqProofs (disch := omega) only [go_sem, Nat.reduceBEq, Nat.reduceAdd, Nat.reduceSub, Nat.reduceMul, Nat.reduceLeDiff, Nat.reduceEqDiff, Nat.reduceLT, Int.reduceNeg, Int.reduceAdd, Int.reduceSub, Int.reduceMul, Int.reduceLE, Int.reduceLT, Int.reduceEq, Int.reduceToNat, reduceCtorEq, hv]
  · rw [hok] at hv
    have hcl := clone_Ver (d + 7) c l (by omega)
    obtain ⟨h', q1, q2⟩ := delVer (d + 6) t 76 l (gone t) (by omega) (fun x _ => clo_swept (d + 5) t x _) (fun x _ cont => clo_swept3 (d + 6) t x cont)
    have hsl := swept_len t l
    obtain ⟨v1, hc, is0, e1, e2, e3⟩ := own_versionsCopy (d + 5) false (swept t l) ⟨by omega, by omega, fun w hw => hfn w (swept_mem w hw)⟩
    have q2' : List.take (swept t l).length h' = (swept t l).map Ver.cells := q2
    have q1' : callS (runD tab noExt (d + 8)) [.box [.int .i64 t], .rows 0 4 (l.map Ver.cells)] 74 [.ref 1 0 0 l.length false, .clo 76 [.ptr 0 0 0 0]] false = some (.ref 1 0 0 (swept t l).length false, [.box [.int .i64 t], .rows 0 4 h']) := q1
    obtain ⟨w, h1, js, k1, k2, k3, k4, k5, k6⟩ := own_call (h := [.box [.int .i64 t], .rows 0 4 h']) (args := [.ref 1 0 0 (swept t l).length false]) (by simp only [pureDAs, mapO, pureDA, pureD, deepest, List.getElem?_cons_succ, List.getElem?_cons_zero, if_true, List.drop_zero, q2']) e1 e2 e3
    refine ⟨w, h1, js, ?_, k2, k3⟩
    have htl : List.take l.length (l.map Ver.cells) = l.map Ver.cells := List.take_of_length_le (by simp)
    clear e1 e2 e3 q1 q2
    rw [runD_eq find20 _ _ _ (by simp)]
    have hk := own_cases k2
    clear k2
    cases l with
    | nil =>
      simp only [List.map_nil, List.length_nil] at hcl q1' hv
      rcases hk with ⟨cx, rfl⟩ | ⟨id, st, m, clip, rfl⟩ <;> simp -implicitDefEqProofs (disch := first | omega | assumption) only [go_sem, Nat.reduceBEq, Nat.reduceAdd, Nat.reduceSub, Nat.reduceMul, Nat.reduceLeDiff, Nat.reduceEqDiff, Nat.reduceLT, Int.reduceNeg, Int.reduceAdd, Int.reduceSub, Int.reduceMul, Int.reduceLE, Int.reduceLT, Int.reduceEq, Int.reduceToNat, reduceCtorEq, hv, hcl, q1', k1, resOk]
    | cons x r =>
      simp only [List.map_cons, List.length_cons] at hcl q1' htl hv
      rcases hk with ⟨cx, rfl⟩ | ⟨id, st, m, clip, rfl⟩ <;> simp -implicitDefEqProofs (disch := first | omega | assumption) only [go_sem, Nat.reduceBEq, Nat.reduceAdd, Nat.reduceSub, Nat.reduceMul, Nat.reduceLeDiff, Nat.reduceEqDiff, Nat.reduceLT, Int.reduceNeg, Int.reduceAdd, Int.reduceSub, Int.reduceMul, Int.reduceLE, Int.reduceLT, Int.reduceEq, Int.reduceToNat, reduceCtorEq, hv, hcl, q1', htl, k1, resOk, frzs, refsAs, refsA, refC, List.flatMap_cons, List.flatMap_nil]
def sweptStep (t : Int) (b : List Ver) (x : Ver) : List Ver := if x.died = 0 ∨ t < x.died then b ++ [x.plain] else b
theorem swept_fold (t : Int) : ∀ (l b : List Ver), l.foldl (sweptStep t) b = b ++ (swept t l).map Ver.plain
  | [], b => by simp [swept]
  | x :: r, b => by
    rw [List.foldl_cons, swept_fold t r]
    unfold sweptStep swept
    rw [List.filter_cons]
    by_cases h0 : x.died = 0
    · simp [gone, h0]
    · by_cases h : t < x.died
      · have h2 : ¬ x.died ≤ t := by omega
        simp [gone, h0, h, h2]
      · have h2 : x.died ≤ t := by omega
        simp [gone, h0, h, h2]
theorem loop_sweptS (d : Nat) (c : Bool) (t : Int) (l : List Ver) (hl : l.length ≤ 1048576) (hfn : ∀ v ∈ l, v.row.vs.length < 4294967296) (hv : retP (runD tab noExt (d + 5)) 62 [.sl c 4 (l.map Ver.cells)] = some [.bool true]) (K : Nat) (hK : (l).length ≤ K) (b0 : List Ver) (hb0 : (fun (i : Nat) (b : List Ver) => b.length ≤ i) 0 b0) : LoopS (runD tab noExt (d + 5)) (drawI (runD tab noExt (d + 5))) [0, 1, 5, 6] [5] L22x0 ([.rows 0 4 [], .rows (b0).length 4 ((b0).map Ver.cells)] : Heap).length K [(0, .sl c 4 (l.map Ver.cells)), (1, .int .i64 t), (5, .ref 1 (b0).length 0 (b0).length false), (6, .int .i64 (0 : Nat))] [.rows 0 4 [], .rows (b0).length 4 ((b0).map Ver.cells)] = (some (.exit 0, [(5, .ref 1 (((l).foldl (sweptStep t) b0)).length 0 (((l).foldl (sweptStep t) b0)).length false)], [.rows 0 4 [], .rows (((l).foldl (sweptStep t) b0)).length 4 ((((l).foldl (sweptStep t) b0)).map Ver.cells)]) : Out) ∧ (fun (i : Nat) (b : List Ver) => b.length ≤ i) (l).length ((l).foldl (sweptStep t) b0) := by
  have key := LoopS_foldI (run := (runD tab noExt (d + 5))) (draw := drawI (runD tab noExt (d + 5))) (live := [0, 1, 5, 6]) (out := [5]) (c := L22x0) (n0 := ([.rows 0 4 [], .rows (b0).length 4 ((b0).map Ver.cells)] : Heap).length) (l) (sweptStep t) (fun (i : Nat) (b : List Ver) => b.length ≤ i) (fun (i : Nat) (b : List Ver) => [(0, .sl c 4 (l.map Ver.cells)), (1, .int .i64 t), (5, .ref 1 (b).length 0 (b).length false), (6, .int .i64 (i : Nat))]) (fun (i : Nat) (b : List Ver) => [.rows 0 4 [], .rows (b).length 4 ((b).map Ver.cells)]) (fun b => (some (.exit 0, [(5, .ref 1 (b).length 0 (b).length false)], [.rows 0 4 [], .rows (b).length 4 ((b).map Ver.cells)]) : Out)) (fun b K hb => ?_) (fun (i : Nat) (x : Ver) b K hi hx hb => ?_) K hK b0 hb0
  · simp only [Int.natCast_zero] at key
    exact key
  · rw [LoopS_eq]
    simp -implicitDefEqProofs only [go_sem, Nat.reduceBEq, Nat.reduceAdd, Nat.reduceSub, Nat.reduceMul, Nat.reduceLeDiff, Nat.reduceEqDiff, Nat.reduceLT, Int.reduceNeg, Int.reduceAdd, Int.reduceSub, Int.reduceMul, Int.reduceLE, Int.reduceLT, Int.reduceEq, Int.reduceToNat, reduceCtorEq, evL22x0, B22x0, Int.lt_irrefl]
  · have hsm : b.length + 1 < 4294967296 := (by omega); have how := run_own (d + 4) x.row.clip (x.row.vs.map Val.cells) (by rw [List.length_map]; exact hfn x (List.mem_of_getElem? hx)); have key : sweptStep t b x = if x.died = 0 ∨ t < x.died then b ++ [x.plain] else b := rfl; rw [key]; by_cases k1 : x.died = 0 <;> by_cases k2 : t < x.died
    all_goals
      refine ⟨?_, ?_⟩
      · (simp only [k1, k2, or_true, true_or, or_self, or_false, if_true, if_false]; first | omega | (simp; done) | (simp; omega))
      · rw [LoopS_eq]
        simp -implicitDefEqProofs (disch := first | omega | assumption) only [go_sem, Nat.reduceBEq, Nat.reduceAdd, Nat.reduceSub, Nat.reduceMul, Nat.reduceLeDiff, Nat.reduceEqDiff, Nat.reduceLT, Int.reduceNeg, Int.reduceAdd, Int.reduceSub, Int.reduceMul, Int.reduceLE, Int.reduceLT, Int.reduceEq, Int.reduceToNat, reduceCtorEq, evL22x0, B22x0, hi, hx, IntWalk.i64_in, List.map_append, List.foldl_cons, hv, hx, hsm, how, Ver.cells, Ver.plain, Row.v, k1, k2, or_true, true_or, or_self, or_false, if_true, if_false, List.map_cons, List.map_nil, elemsOf, elemOf, frzs, refs, refC, refsV]
        skip
-- find22
theorem run_SweptS (d : Nat) (c : Bool) (l : List Ver) (t : Int) (hs : l.length ≤ 1048576) (hsh : ShortVs l) (hfn : ∀ v ∈ l, v.row.vs.length < 4294967296) : ∃ (cw : Bool) (l2 : List Ver), retP (runD tab noExt (d + 6)) 22 [.sl c 4 (l.map Ver.cells), .int .i64 t] = some [.sl cw 4 (l2.map Ver.cells)] ∧ l2.map verU = (if versOk l then swept t l else []).map verU := by
  have hv := run_versS d c l (by omega) hsh
  cases hok : versOk l
  · rw [hok] at hv
    refine ⟨false, [], ?_, by simp⟩
    have hl : LoopS (runD tab noExt (d + 5)) (drawI (runD tab noExt (d + 5))) [0, 1, 5, 6] [5] L22x0 2 1099511627775 [(0, .sl c 4 (l.map Ver.cells)), (1, .int .i64 t), (5, .ref 1 0 0 0 false), (6, .int .i64 0)] [.rows 0 4 [], .rows 0 4 []] = some (.exit 0, [(5, .ref 1 0 0 0 false)], [.rows 0 4 [], .rows 0 4 []]) := by
      rw [LoopS_eq]
      by_cases h0 : (0 : Int) < l.length
      · simp -implicitDefEqProofs (disch := omega) only [go_sem, Nat.reduceBEq, Nat.reduceAdd, Nat.reduceSub, Nat.reduceMul, Nat.reduceLeDiff, Nat.reduceEqDiff, Nat.reduceLT, Int.reduceNeg, Int.reduceAdd, Int.reduceSub, Int.reduceMul, Int.reduceLE, Int.reduceLT, Int.reduceEq, Int.reduceToNat, reduceCtorEq, evL22x0, B22x0, hv, h0]
      · simp -implicitDefEqProofs (disch := omega) only [go_sem, Nat.reduceBEq, Nat.reduceAdd, Nat.reduceSub, Nat.reduceMul, Nat.reduceLeDiff, Nat.reduceEqDiff, Nat.reduceLT, Int.reduceNeg, Int.reduceAdd, Int.reduceSub, Int.reduceMul, Int.reduceLE, Int.reduceLT, Int.reduceEq, Int.reduceToNat, reduceCtorEq, evL22x0, B22x0, hv, h0]
    rw [retP, runD_eq find22 _ _ _ (by simp)]
    simp -implicitDefEqProofs (disch := omega) only [go_sem, Nat.reduceBEq, Nat.reduceAdd, Nat.reduceSub, Nat.reduceMul, Nat.reduceLeDiff, Nat.reduceEqDiff, Nat.reduceLT, Int.reduceNeg, Int.reduceAdd, Int.reduceSub, Int.reduceMul, Int.reduceLE, Int.reduceLT, Int.reduceEq, Int.reduceToNat, reduceCtorEq, elemsOf, elemOf]
    try simp -implicitDefEqProofs only [go_sem, Nat.reduceBEq, Nat.reduceAdd, Nat.reduceSub, Nat.reduceMul, Nat.reduceLeDiff, Nat.reduceEqDiff, Nat.reduceLT, Int.reduceNeg, Int.reduceAdd, Int.reduceSub, Int.reduceMul, Int.reduceLE, Int.reduceLT, Int.reduceEq, Int.reduceToNat, reduceCtorEq] at hl
    rw [hl]
    simp -implicitDefEqProofs (disch := omega) only [go_sem, Nat.reduceBEq, Nat.reduceAdd, Nat.reduceSub, Nat.reduceMul, Nat.reduceLeDiff, Nat.reduceEqDiff, Nat.reduceLT, Int.reduceNeg, Int.reduceAdd, Int.reduceSub, Int.reduceMul, Int.reduceLE, Int.reduceLT, Int.reduceEq, Int.reduceToNat, reduceCtorEq, List.map_nil]
  · rw [hok] at hv
    obtain ⟨hl, hle⟩ := loop_sweptS d c t l hs hfn hv 1099511627775 (by omega) [] (by simp)
    rw [swept_fold, List.nil_append] at hl
    refine ⟨false, (swept t l).map Ver.plain, ?_, ?_⟩
    · have et : List.take ((swept t l).map Ver.plain).length (((swept t l).map Ver.plain).map Ver.cells) = ((swept t l).map Ver.plain).map Ver.cells := List.take_of_length_le (by simp)
      generalize (swept t l).map Ver.plain = L at hl et ⊢
      simp only [List.length_nil, List.map_nil, Int.natCast_zero] at hl
      rw [retP, runD_eq find22 _ _ _ (by simp)]
      simp -implicitDefEqProofs (disch := omega) only [go_sem, Nat.reduceBEq, Nat.reduceAdd, Nat.reduceSub, Nat.reduceMul, Nat.reduceLeDiff, Nat.reduceEqDiff, Nat.reduceLT, Int.reduceNeg, Int.reduceAdd, Int.reduceSub, Int.reduceMul, Int.reduceLE, Int.reduceLT, Int.reduceEq, Int.reduceToNat, reduceCtorEq, elemsOf, elemOf]
      try simp -implicitDefEqProofs only [go_sem, Nat.reduceBEq, Nat.reduceAdd, Nat.reduceSub, Nat.reduceMul, Nat.reduceLeDiff, Nat.reduceEqDiff, Nat.reduceLT, Int.reduceNeg, Int.reduceAdd, Int.reduceSub, Int.reduceMul, Int.reduceLE, Int.reduceLT, Int.reduceEq, Int.reduceToNat, reduceCtorEq] at hl
      rw [hl]
      simp -implicitDefEqProofs (disch := omega) only [go_sem, Nat.reduceBEq, Nat.reduceAdd, Nat.reduceSub, Nat.reduceMul, Nat.reduceLeDiff, Nat.reduceEqDiff, Nat.reduceLT, Int.reduceNeg, Int.reduceAdd, Int.reduceSub, Int.reduceMul, Int.reduceLE, Int.reduceLT, Int.reduceEq, Int.reduceToNat, reduceCtorEq, et]
    · simp only [if_true, List.map_map]
      congr 1
theorem run_SweptI (d : Nat) (c : Bool) (l : List Ver) (t : Int) (hs : l.length ≤ 1048576) (hsh : ShortVs l) (hfn : ∀ v ∈ l, v.row.vs.length < 4294967296) : ∃ (cl : Bool) (l2 : List Ver), retP (runD tab noExt (d + 9)) 20 [.sl c 4 (l.map Ver.cells), .int .i64 t] = some [.sl cl 4 (l2.map Ver.cells)] ∧ l2.map verU = (if versOk l then swept t l else []).map verU := by
  obtain ⟨v, hc, ids, r, o, _⟩ := own_SweptAt d c l t hs hsh hfn
  obtain ⟨q, e, g⟩ := retP_own r o (by decide)
  obtain ⟨cl, l2, rfl, h⟩ := vers_each g
  exact ⟨cl, l2, e, h⟩
end Go.Proofs.Ytfbjbkkcilhgjaa.PE
/- What is swept away could not be seen: in plain words. -/
set_option linter.unusedSimpArgs false
set_option linter.unusedVariables false
namespace Go.Proofs.Ytfbjbkkcilhgjaa.PE
open Go.RowKit

theorem ordS_iff (w v : Ver) : ordS w v = true ↔ ¬ (v.key ≤ w.key ∧ (v.key < w.key ∨ w.died = 0 ∨ v.born < w.died)) := by
  simp only [ordS, Bool.not_eq_true', Bool.and_eq_false_iff, Bool.or_eq_false_iff, decide_eq_false_iff_not]
  omega
theorem ord_trans {a b c : Ver} (hb : b.one = true) (h1 : ordS a b = true) (h2 : ordS b c = true) : ordS a c = true := by
  have hb' : b.died = 0 ∨ b.born + 1 ≤ b.died := by
    simp only [Ver.one, Bool.and_eq_true, Bool.or_eq_true, decide_eq_true_eq] at hb
    omega
  rw [ordS_iff] at h1 h2 ⊢
  omega
theorem prevs_pwV : ∀ (l : List Ver) (o : Option Ver), (prevs o l).all (okBy ordS) = true ↔ (∀ e ∈ l, e.one = true) ∧ (∀ q, o = some q → ∀ e ∈ l, ordS q e = true) ∧ l.Pairwise (fun a b => ordS a b = true)
  | [], o => by simp [prevs]
  | v :: r, o => by
    have ih := prevs_pwV r (some v)
    simp only [prevs, List.all_cons, Bool.and_eq_true, okBy, ih, List.pairwise_cons, List.mem_cons, forall_eq_or_imp, Option.some.injEq, forall_eq']
    constructor
    · rintro ⟨⟨h1, h2⟩, h3, h4, h5⟩
      refine ⟨⟨h1, h3⟩, fun q hq => ?_, h4, h5⟩
      subst hq
      exact ⟨h2, fun e he => ord_trans h1 h2 (h4 e he)⟩
    · rintro ⟨⟨h1, h3⟩, h2, h4, h5⟩
      refine ⟨⟨h1, ?_⟩, h3, h4, h5⟩
      cases o with
      | none => rfl
      | some q => exact (h2 q rfl).1
theorem versOk_iff (l : List Ver) : versOk l = true ↔ (∀ e ∈ l, e.one = true) ∧ l.Pairwise (fun a b => ordS a b = true) ∧ l.length ≤ 60 := by
  unfold versOk
  rw [Bool.and_eq_true, prevs_pwV, decide_eq_true_eq]
  constructor
  · rintro ⟨⟨h1, _, h3⟩, h4⟩
    exact ⟨h1, h3, by omega⟩
  · rintro ⟨h1, h3, h4⟩
    exact ⟨⟨h1, (fun q hq => by cases hq), h3⟩, by omega⟩
theorem versOk_swept {l : List Ver} (t : Int) (h : versOk l = true) : versOk (swept t l) = true := by
  rw [versOk_iff] at h ⊢
  obtain ⟨h1, h2, h3⟩ := h
  exact ⟨fun e he => h1 e (swept_mem e he), h2.filter _, by have := swept_len t l; omega⟩
theorem find_swept {t time : Int} (ht : t ≤ time) (key : Int) : ∀ l : List Ver, (swept t l).find? (Ver.at key time) = l.find? (Ver.at key time)
  | [] => rfl
  | v :: r => by
    have ih := find_swept ht key r
    unfold swept at ih ⊢
    rw [List.filter_cons]
    cases hg : gone t v
    · simp only [Bool.not_false, if_true, List.find?_cons, ih]
    · have hn : Ver.at key time v = false := by
        simp only [gone, Bool.and_eq_true, Bool.not_eq_true', decide_eq_true_eq, decide_eq_false_iff_not] at hg
        obtain ⟨h0, h1⟩ := hg
        have h2 : ¬ time < v.died := by omega
        simp [Ver.at, h0, h2]
      simp only [Bool.not_true, Bool.false_eq_true, if_false, List.find?_cons, hn, ih]
theorem rowV_swept {t time : Int} (ht : t ≤ time) {l : List Ver} (h : versOk l = true) (key : Int) : rowV (swept t l) key time = rowV l key time := by
  unfold rowV rowAt
  rw [h, versOk_swept t h]
  simp only [if_true, find_swept ht key l]
end Go.Proofs.Ytfbjbkkcilhgjaa.PE
/- Writes: what is ok, in plain words; both functions tell it. -/
set_option linter.unusedSimpArgs false
set_option linter.unusedVariables false
set_option maxHeartbeats 4000000
namespace Go.Proofs.Ytfbjbkkcilhgjaa.PE
open Go.RowKit

structure Wr where
  key : Int
  row : Row
  gone : Bool
def Wr.cells (w : Wr) : List V := [.int .i64 w.key, w.row.v, .bool w.gone]
/-- Each element with the one ahead of it. -/
def prevsG {α : Type} : Option α → List α → List (Option α × α)
  | _, [] => []
  | o, v :: r => (o, v) :: prevsG (some v) r
theorem prevsG_len {α : Type} : ∀ (l : List α) (o : Option α), (prevsG o l).length = l.length
  | [], _ => rfl
  | v :: r, o => by simp [prevsG, prevsG_len r]
theorem prevsG_at {α : Type} : ∀ {l : List α} {o : Option α} {i : Nat} {p : Option α} {v : α}, (prevsG o l)[i]? = some (p, v) → l[i]? = some v ∧ (i = 0 → p = o) ∧ ∀ j, i = j + 1 → p = l[j]?
  | [], _, i, _, _, h => by simp [prevsG] at h
  | w :: r, o, 0, p, v, h => by
    simp only [prevsG, List.getElem?_cons_zero, Option.some.injEq, Prod.mk.injEq] at h
    obtain ⟨rfl, rfl⟩ := h
    exact ⟨rfl, fun _ => rfl, fun j hj => by omega⟩
  | w :: r, o, i + 1, p, v, h => by
    simp only [prevsG, List.getElem?_cons_succ] at h
    obtain ⟨h1, h2, h3⟩ := prevsG_at h
    refine ⟨by simpa using h1, fun e => by omega, fun j hj => ?_⟩
    have : j = i := by omega
    subst this
    cases j with
    | zero => rw [h2 rfl]; rfl
    | succ j => rw [h3 j rfl]; simp
def Wr.one (w : Wr) : Bool := decide (0 ≤ w.key ∧ w.key ≤ 4) && (rowOk w.row.vs && !(w.gone && decide ((0 : Int) < w.row.vs.length)))
def wrAhead (p : Option Wr) (v : Wr) : Bool := match p with
  | none => true
  | some q => decide (q.key < v.key)
def wrOk (p : Option Wr × Wr) : Bool := p.2.one && wrAhead p.1 p.2
def wrsOk (ws : List Wr) : Bool := (prevsG none ws).all wrOk
def ShortWs (ws : List Wr) : Prop := ∀ w ∈ ws, w.row.vs.length < 1099511627776 ∧ short w.row.vs
theorem loop_wrsS (d : Nat) (c : Bool) (l : List Wr) (hs : l.length < 1099511627776) (hsh : ShortWs l) (K : Nat) (hK : (prevsG none l).length ≤ K) :
    LoopS (runD tab noExt (d + 3)) (drawI (runD tab noExt (d + 3))) [0, 3] [2] L158x0 0 K [(0, .sl c 3 (l.map Wr.cells)), (3, .int .i64 0)] [] = if (prevsG none l).all wrOk then (some (.exit 0, [(2, .undef)], []) : Out) else some (.ret, [(2, .bool false)], []) := by
  have key := LoopS_all (run := (runD tab noExt (d + 3))) (draw := drawI (runD tab noExt (d + 3))) (live := [0, 3]) (out := [2]) (c := L158x0) (n0 := 0) (prevsG none l) wrOk (fun (i : Nat) => [(0, .sl c 3 (l.map Wr.cells)), (3, .int .i64 (i : Int))]) [] (some (.exit 0, [(2, .undef)], [])) (some (.ret, [(2, .bool false)], [])) (fun K => ?_) (fun (i : Nat) x K hi hx0 => ?_) K hK
  · simp only [Int.natCast_zero] at key
    exact key
  · rw [LoopS_eq, prevsG_len]
    simp -implicitDefEqProofs only [go_sem, Nat.reduceBEq, Nat.reduceAdd, Nat.reduceSub, Nat.reduceMul, Nat.reduceLeDiff, Nat.reduceEqDiff, Nat.reduceLT, Int.reduceNeg, Int.reduceAdd, Int.reduceSub, Int.reduceMul, Int.reduceLE, Int.reduceLT, Int.reduceEq, Int.reduceToNat, reduceCtorEq, evL158x0, B158x0, Int.lt_irrefl]
  · obtain ⟨p, v⟩ := x
    rw [prevsG_len] at hi
    obtain ⟨hx, g2, g3⟩ := prevsG_at hx0
    obtain ⟨h1, h2⟩ := hsh v (List.mem_of_getElem? hx)
    have hr := run_rowOk d v.row.clip v.row.vs h1 h2
    clear hx0
    rw [LoopS_eq]
    have bad : v.one = false → ∀ (A B : Out), (if wrOk (p, v) = true then A else B) = B := fun h A B => by simp only [wrOk, h, Bool.false_and, Bool.false_eq_true, if_false]
    by_cases k1 : 0 ≤ v.key ∧ v.key ≤ 4
    rotate_left
    · rw [bad (by simp [Wr.one, k1])]
      simp -implicitDefEqProofs (disch := omega) only [go_sem, Nat.reduceBEq, Nat.reduceAdd, Nat.reduceSub, Nat.reduceMul, Nat.reduceLeDiff, Nat.reduceEqDiff, Nat.reduceLT, Int.reduceNeg, Int.reduceAdd, Int.reduceSub, Int.reduceMul, Int.reduceLE, Int.reduceLT, Int.reduceEq, Int.reduceToNat, reduceCtorEq, evL158x0, B158x0, evC_draw, evD158x0, E158x0, IntWalk.i64_in, Wr.cells, Row.v, hr, hx, beq_ft, beq_tf, Bool.true_or, Bool.false_or, run_l1In, wrAhead, hi, (eq_false k1 : (0 ≤ v.key ∧ v.key ≤ 4) = False)]
    cases k2 : rowOk v.row.vs
    · rw [bad (by simp [Wr.one, k2])]
      rw [k2] at hr
      simp -implicitDefEqProofs (disch := omega) only [go_sem, Nat.reduceBEq, Nat.reduceAdd, Nat.reduceSub, Nat.reduceMul, Nat.reduceLeDiff, Nat.reduceEqDiff, Nat.reduceLT, Int.reduceNeg, Int.reduceAdd, Int.reduceSub, Int.reduceMul, Int.reduceLE, Int.reduceLT, Int.reduceEq, Int.reduceToNat, reduceCtorEq, evL158x0, B158x0, evC_draw, evD158x0, E158x0, IntWalk.i64_in, Wr.cells, Row.v, hr, hx, beq_ft, beq_tf, Bool.true_or, Bool.false_or, run_l1In, wrAhead, hi, (eq_true k1 : (0 ≤ v.key ∧ v.key ≤ 4) = True)]
    rw [k2] at hr
    have hg : (v.gone = true ∧ (0 : Int) < v.row.vs.length) ∨ (v.gone = true ∧ ¬ (0 : Int) < v.row.vs.length) ∨ v.gone = false := by
      cases hgo : v.gone
      · exact .inr (.inr rfl)
      · by_cases h0 : (0 : Int) < v.row.vs.length
        · exact .inl ⟨rfl, h0⟩
        · exact .inr (.inl ⟨rfl, h0⟩)
    rcases hg with ⟨k3, k4⟩ | hg
    · rw [bad (by unfold Wr.one; rw [k3, decide_eq_true k4]; simp)]
      simp -implicitDefEqProofs (disch := omega) only [go_sem, Nat.reduceBEq, Nat.reduceAdd, Nat.reduceSub, Nat.reduceMul, Nat.reduceLeDiff, Nat.reduceEqDiff, Nat.reduceLT, Int.reduceNeg, Int.reduceAdd, Int.reduceSub, Int.reduceMul, Int.reduceLE, Int.reduceLT, Int.reduceEq, Int.reduceToNat, reduceCtorEq, evL158x0, B158x0, evC_draw, evD158x0, E158x0, IntWalk.i64_in, Wr.cells, Row.v, hr, hx, beq_ft, beq_tf, Bool.true_or, Bool.false_or, run_l1In, wrAhead, hi, k3, k4, (eq_true k1 : (0 ≤ v.key ∧ v.key ≤ 4) = True)]
    have hone : v.one = true := by
      unfold Wr.one
      rw [decide_eq_true k1, k2]
      rcases hg with ⟨k3, k4⟩ | k3
      · rw [k3, decide_eq_false k4]; rfl
      · rw [k3]; rfl
    have e : wrOk (p, v) = wrAhead p v := by simp [wrOk, hone]
    clear bad
    rw [e]
    cases i with
    | zero =>
      obtain rfl := g2 rfl
      have hi0 : (0 : Int) < l.length := by omega
      rcases hg with ⟨k3, k4⟩ | k3
      · simp -implicitDefEqProofs (disch := omega) only [go_sem, Nat.reduceBEq, Nat.reduceAdd, Nat.reduceSub, Nat.reduceMul, Nat.reduceLeDiff, Nat.reduceEqDiff, Nat.reduceLT, Int.reduceNeg, Int.reduceAdd, Int.reduceSub, Int.reduceMul, Int.reduceLE, Int.reduceLT, Int.reduceEq, Int.reduceToNat, reduceCtorEq, evL158x0, B158x0, evC_draw, evD158x0, E158x0, IntWalk.i64_in, Wr.cells, Row.v, hr, hx, beq_ft, beq_tf, Bool.true_or, Bool.false_or, run_l1In, wrAhead, hi0, k3, k4, (eq_true k1 : (0 ≤ v.key ∧ v.key ≤ 4) = True), Int.natCast_zero, Int.lt_irrefl]
      · simp -implicitDefEqProofs (disch := omega) only [go_sem, Nat.reduceBEq, Nat.reduceAdd, Nat.reduceSub, Nat.reduceMul, Nat.reduceLeDiff, Nat.reduceEqDiff, Nat.reduceLT, Int.reduceNeg, Int.reduceAdd, Int.reduceSub, Int.reduceMul, Int.reduceLE, Int.reduceLT, Int.reduceEq, Int.reduceToNat, reduceCtorEq, evL158x0, B158x0, evC_draw, evD158x0, E158x0, IntWalk.i64_in, Wr.cells, Row.v, hr, hx, beq_ft, beq_tf, Bool.true_or, Bool.false_or, run_l1In, wrAhead, hi0, k3, (eq_true k1 : (0 ≤ v.key ∧ v.key ≤ 4) = True), Int.natCast_zero, Int.lt_irrefl]
    | succ j =>
      have hj : j < l.length := by omega
      have hw := List.getElem?_eq_getElem hj
      obtain rfl := (g3 j rfl).trans hw
      generalize l[j] = w at hw
      have hp : (0 : Int) < (j : Int) + 1 := by omega
      have hj' : (j : Int) < l.length := by omega
      have hp0 : (0 : Int) ≤ (j : Int) + 1 := by omega
      have htn : ((j : Int) + 1).toNat = j + 1 := by omega
      have hi' : (j : Int) + 1 < l.length := by omega
      by_cases k5 : w.key < v.key
      · have k6 : ¬ v.key ≤ w.key := by omega
        rcases hg with ⟨k3, k4⟩ | k3
        · simp -implicitDefEqProofs (disch := omega) only [go_sem, Nat.reduceBEq, Nat.reduceAdd, Nat.reduceSub, Nat.reduceMul, Nat.reduceLeDiff, Nat.reduceEqDiff, Nat.reduceLT, Int.reduceNeg, Int.reduceAdd, Int.reduceSub, Int.reduceMul, Int.reduceLE, Int.reduceLT, Int.reduceEq, Int.reduceToNat, reduceCtorEq, evL158x0, B158x0, evC_draw, evD158x0, E158x0, IntWalk.i64_in, Wr.cells, Row.v, hr, hx, beq_ft, beq_tf, Bool.true_or, Bool.false_or, run_l1In, wrAhead, hi', hj', hp0, htn, hp, hw, Int.add_sub_cancel, Int.add_assoc, k3, k4, (eq_true k1 : (0 ≤ v.key ∧ v.key ≤ 4) = True), (eq_true k5 : (w.key < v.key) = True), (eq_false k6 : (v.key ≤ w.key) = False)]
        · simp -implicitDefEqProofs (disch := omega) only [go_sem, Nat.reduceBEq, Nat.reduceAdd, Nat.reduceSub, Nat.reduceMul, Nat.reduceLeDiff, Nat.reduceEqDiff, Nat.reduceLT, Int.reduceNeg, Int.reduceAdd, Int.reduceSub, Int.reduceMul, Int.reduceLE, Int.reduceLT, Int.reduceEq, Int.reduceToNat, reduceCtorEq, evL158x0, B158x0, evC_draw, evD158x0, E158x0, IntWalk.i64_in, Wr.cells, Row.v, hr, hx, beq_ft, beq_tf, Bool.true_or, Bool.false_or, run_l1In, wrAhead, hi', hj', hp0, htn, hp, hw, Int.add_sub_cancel, Int.add_assoc, k3, (eq_true k1 : (0 ≤ v.key ∧ v.key ≤ 4) = True), (eq_true k5 : (w.key < v.key) = True), (eq_false k6 : (v.key ≤ w.key) = False)]
      · have k6 : v.key ≤ w.key := by omega
        rcases hg with ⟨k3, k4⟩ | k3
        · simp -implicitDefEqProofs (disch := omega) only [go_sem, Nat.reduceBEq, Nat.reduceAdd, Nat.reduceSub, Nat.reduceMul, Nat.reduceLeDiff, Nat.reduceEqDiff, Nat.reduceLT, Int.reduceNeg, Int.reduceAdd, Int.reduceSub, Int.reduceMul, Int.reduceLE, Int.reduceLT, Int.reduceEq, Int.reduceToNat, reduceCtorEq, evL158x0, B158x0, evC_draw, evD158x0, E158x0, IntWalk.i64_in, Wr.cells, Row.v, hr, hx, beq_ft, beq_tf, Bool.true_or, Bool.false_or, run_l1In, wrAhead, hi', hj', hp0, htn, hp, hw, Int.add_sub_cancel, Int.add_assoc, k3, k4, (eq_true k1 : (0 ≤ v.key ∧ v.key ≤ 4) = True), (eq_false k5 : (w.key < v.key) = False), (eq_true k6 : (v.key ≤ w.key) = True)]
        · simp -implicitDefEqProofs (disch := omega) only [go_sem, Nat.reduceBEq, Nat.reduceAdd, Nat.reduceSub, Nat.reduceMul, Nat.reduceLeDiff, Nat.reduceEqDiff, Nat.reduceLT, Int.reduceNeg, Int.reduceAdd, Int.reduceSub, Int.reduceMul, Int.reduceLE, Int.reduceLT, Int.reduceEq, Int.reduceToNat, reduceCtorEq, evL158x0, B158x0, evC_draw, evD158x0, E158x0, IntWalk.i64_in, Wr.cells, Row.v, hr, hx, beq_ft, beq_tf, Bool.true_or, Bool.false_or, run_l1In, wrAhead, hi', hj', hp0, htn, hp, hw, Int.add_sub_cancel, Int.add_assoc, k3, (eq_true k1 : (0 ≤ v.key ∧ v.key ≤ 4) = True), (eq_false k5 : (w.key < v.key) = False), (eq_true k6 : (v.key ≤ w.key) = True)]
theorem run_wrsS (d : Nat) (c : Bool) (l : List Wr) (hs : l.length < 1099511627776) (hsh : ShortWs l) : retP (runD tab noExt (d + 4)) 158 [.sl c 3 (l.map Wr.cells)] = some [.bool (wrsOk l)] := by
  rw [retP, runD_eq find158 _ _ _ (by simp)]
  have hl := loop_wrsS d c l hs hsh 1099511627775 (by rw [prevsG_len]; omega)
  simp -implicitDefEqProofs (disch := omega) only [go_sem, Nat.reduceBEq, Nat.reduceAdd, Nat.reduceSub, Nat.reduceMul, Nat.reduceLeDiff, Nat.reduceEqDiff, Nat.reduceLT, Int.reduceNeg, Int.reduceAdd, Int.reduceSub, Int.reduceMul, Int.reduceLE, Int.reduceLT, Int.reduceEq, Int.reduceToNat, reduceCtorEq]
  rw [hl]
  unfold wrsOk
  cases h : (prevsG none l).all wrOk <;> simp -implicitDefEqProofs (disch := omega) only [go_sem, Nat.reduceBEq, Nat.reduceAdd, Nat.reduceSub, Nat.reduceMul, Nat.reduceLeDiff, Nat.reduceEqDiff, Nat.reduceLT, Int.reduceNeg, Int.reduceAdd, Int.reduceSub, Int.reduceMul, Int.reduceLE, Int.reduceLT, Int.reduceEq, Int.reduceToNat, reduceCtorEq]
end Go.Proofs.Ytfbjbkkcilhgjaa.PE
/- Writes that are drawn. -/
set_option linter.unusedSimpArgs false
set_option linter.unusedVariables false
set_option maxHeartbeats 4000000
namespace Go.Proofs.Ytfbjbkkcilhgjaa.PE
open Go.RowKit

/-- A short row. -/
def GS (vs : List Val) : Prop := vs.length ≤ 20 ∧ ∀ v ∈ vs, v.s.size ≤ 20
theorem GS.nil : GS [] := ⟨by simp, fun _ h => by cases h⟩
theorem GS.short {vs : List Val} (h : GS vs) : vs.length < 1099511627776 ∧ short vs := ⟨by have := h.1; omega, fun v hv => by have := h.2 v hv; omega⟩
-- find170
theorem ex_small {d : Nat} {hp t : Heap} {c : Bool} {bs : List UInt8} {p : Int} {X : Option (V × Heap)} (hx : callS (runD tab noExt (d + 2)) (hp ++ .box [.sl c 1 (cellsOfBytes bs), .int .i64 (p)] :: t) 170 [.ptr hp.length 0 0 0] false = X)
    (hp0 : 0 ≤ p) (hq : p ≤ 1099511000000) (hb : bs.length ≤ 2000) (hhp : plainH hp = true) (ht : plainH t = true) :
    ∃ m p', X = some (.sl true 3 [[.int .i64 1, .int .i64 m, .str ⟨#[]⟩]], hp ++ .box [.sl c 1 (cellsOfBytes bs), .int .i64 (p')] :: t) ∧ p ≤ p' ∧ p' ≤ p + 1 := by
  subst hx
  have hh : ∀ n, t.all (hiB n) = true := fun n => plainH_hi ht n
  have hhq : ∀ n, hp.all (hiB n) = true := fun n => plainH_hi hhp n
  rw [callS_eq, runD_eq find170 _ _ _ (by simp)]
  simp -implicitDefEqProofs only [go_sem, Nat.reduceBEq, Nat.reduceAdd, Nat.reduceSub, Nat.reduceMul, Nat.reduceLeDiff, Nat.reduceEqDiff, Nat.reduceLT, Int.reduceNeg, Int.reduceAdd, Int.reduceSub, Int.reduceMul, Int.reduceLE, Int.reduceLT, Int.reduceEq, Int.reduceToNat, reduceCtorEq]
  repeat' (first | ((conv in (callS _ _ 57 _ false) => skip); generalize hx : callS (runD tab noExt _) (_ ++ _ :: _) 57 _ false = X; obtain ⟨m, rfl, hm1, hm2⟩ := ex_pick hx (by omega) (by omega) hb hhp (by simp only [ht, plainH_nil, plainH_cons, plainH_append, plainB, List.all_cons, List.all_nil, Bool.and_self, Bool.and_true]) ; skip; clear hx; simp -implicitDefEqProofs (disch := omega) only [go_sem, Nat.reduceBEq, Nat.reduceAdd, Nat.reduceSub, Nat.reduceMul, Nat.reduceLeDiff, Nat.reduceEqDiff, Nat.reduceLT, Int.reduceNeg, Int.reduceAdd, Int.reduceSub, Int.reduceMul, Int.reduceLE, Int.reduceLT, Int.reduceEq, Int.reduceToNat, reduceCtorEq, IntWalk.i64_in, hh, hhq, List.all_append, elemsOf, elemOf, frzs, refs, refC, refsV, *]) | ((first | rw [GuardI_ndec] | rw [CondC_ndec] | rw [GuardQ_ndec] | rw [GuardV_ndec] | rw [GuardI_dec] | rw [CondC_dec] | rw [GuardQ_dec] | rw [GuardV_dec] | rw [GuardI_nby] | rw [CondC_nby] | rw [GuardQ_nby] | rw [GuardV_nby] | rw [GuardQ_by] | rw [GuardI_by] | rw [GuardV_by] | rw [CondC_by]) <;> split <;> simp -implicitDefEqProofs (disch := omega) only [go_sem, Nat.reduceBEq, Nat.reduceAdd, Nat.reduceSub, Nat.reduceMul, Nat.reduceLeDiff, Nat.reduceEqDiff, Nat.reduceLT, Int.reduceNeg, Int.reduceAdd, Int.reduceSub, Int.reduceMul, Int.reduceLE, Int.reduceLT, Int.reduceEq, Int.reduceToNat, reduceCtorEq, IntWalk.i64_in, hh, hhq, List.all_append, elemsOf, elemOf, frzs, refs, refC, refsV, *]))
  exact ⟨m, _, rfl, by omega, by omega⟩
def WrsPost (i : Nat) (ws : List Wr) : Prop := ws.length ≤ i ∧ ∀ w ∈ ws, GS w.row.vs
theorem WrsPost.snoc {i : Nat} {ws : List Wr} (h : WrsPost i ws) {w : Wr} (hw : GS w.row.vs) : WrsPost (i + 1) (ws ++ [w]) := ⟨by have := h.1; simp; omega, fun x hx => by
  rcases List.mem_append.1 hx with hx | hx
  · exact h.2 x hx
  · rw [List.mem_singleton.1 hx]; exact hw⟩
theorem WrsPost.skip {i : Nat} {ws : List Wr} (h : WrsPost i ws) : WrsPost (i + 1) ws := ⟨by have := h.1; omega, h.2⟩
-- find121
theorem loop_writes {d : Nat} {hp t : Heap} {c : Bool} {bs : List UInt8} {n : Int} (hb : bs.length ≤ 2000) (hhp : plainH hp = true) (ht : plainH t = true) : ∀ (j K i : Nat) {p : Int} {st len : Nat} {ws : List Wr} {Y : Out},
    LoopS (runD tab noExt (d + 2)) (drawI (runD tab noExt (d + 2))) [0, 1, 5, 6] [0, 1, 5] L121x0 (hp.length + (t.length + 3)) K [(0, .ptr hp.length 0 0 0), (1, .int .i64 n), (5, .ref (hp.length + (t.length + 2)) st 0 len false), (6, .int .i64 (i : Nat))]
      (hp ++ .box [.sl c 1 (cellsOfBytes bs), .int .i64 (p)] :: (t ++ [.rows 0 3 [], .rows st 3 (ws.map Wr.cells)])) = Y →
    i + j = 5 → j ≤ K → len = ws.length → WrsPost i ws → 0 ≤ p → p ≤ 1099500000000 + 3 * i → ∃ (ws' : List Wr) (st' : Nat) (p' : Int), Y = some (.exit 0, [(0, .ptr hp.length 0 0 0), (1, .int .i64 n), (5, .ref (hp.length + (t.length + 2)) st' 0 ws'.length false)],
      hp ++ .box [.sl c 1 (cellsOfBytes bs), .int .i64 (p')] :: (t ++ [.rows 0 3 [], .rows st' 3 (ws'.map Wr.cells)])) ∧ WrsPost 5 ws' ∧ p ≤ p' ∧ p' ≤ p + 3 * j := by
  have hh : ∀ n, t.all (hiB n) = true := fun n => plainH_hi ht n
  have hhq : ∀ n, hp.all (hiB n) = true := fun n => plainH_hi hhp n
  intro j
  induction j with
  | zero =>
    intro K i p st len ws Y hL hk hK hlen hs hp0 hq
    obtain rfl : i = 5 := by omega
    subst hL hlen
    rw [LoopS_eq]
    simp -implicitDefEqProofs only [go_sem, Nat.reduceBEq, Nat.reduceAdd, Nat.reduceSub, Nat.reduceMul, Nat.reduceLeDiff, Nat.reduceEqDiff, Nat.reduceLT, Int.reduceNeg, Int.reduceAdd, Int.reduceSub, Int.reduceMul, Int.reduceLE, Int.reduceLT, Int.reduceEq, Int.reduceToNat, reduceCtorEq, evL121x0, B121x0, hh, hhq, List.all_append, Int.lt_irrefl, Int.cast_ofNat_Int]
    exact ⟨ws, st, p, rfl, hs, by omega, by omega⟩
  | succ j ih =>
    intro K i p st len ws Y hL hk hK hlen hs hp0 hq
    obtain ⟨K, rfl⟩ : ∃ K', K = K' + 1 := ⟨K - 1, by omega⟩
    subst hL hlen
    have hk0 : (i : Int) < 5 := by omega
    have hws : ws.length ≤ 5 := by have := hs.1; omega
    have h1 : ws.length + 1 < 4294967296 := by omega
    rw [LoopS_eq]
    simp -implicitDefEqProofs (disch := omega) only [go_sem, Nat.reduceBEq, Nat.reduceAdd, Nat.reduceSub, Nat.reduceMul, Nat.reduceLeDiff, Nat.reduceEqDiff, Nat.reduceLT, Int.reduceNeg, Int.reduceAdd, Int.reduceSub, Int.reduceMul, Int.reduceLE, Int.reduceLT, Int.reduceEq, Int.reduceToNat, reduceCtorEq, evL121x0, B121x0, hh, hhq, hk0, List.all_append]
    repeat' (first | ((conv in (callS _ _ 170 _ false) => skip); generalize hx : callS (runD tab noExt _) (_ ++ _ :: _) 170 _ false = X; obtain ⟨m2, p', rfl, hv1, hv2⟩ := ex_small hx (by omega) (by omega) hb hhp (by simp only [ht, plainH_nil, plainH_cons, plainH_append, plainB, List.all_cons, List.all_nil, Bool.and_self, Bool.and_true]) ; skip; clear hx; simp -implicitDefEqProofs (disch := omega) only [go_sem, Nat.reduceBEq, Nat.reduceAdd, Nat.reduceSub, Nat.reduceMul, Nat.reduceLeDiff, Nat.reduceEqDiff, Nat.reduceLT, Int.reduceNeg, Int.reduceAdd, Int.reduceSub, Int.reduceMul, Int.reduceLE, Int.reduceLT, Int.reduceEq, Int.reduceToNat, reduceCtorEq, IntWalk.i64_in, hh, hhq, List.all_append, elemsOf, elemOf, frzs, refs, refC, refsV, List.contains_nil, *]) | ((conv in (callS _ _ 57 _ false) => skip); generalize hx : callS (runD tab noExt _) (_ ++ _ :: _) 57 _ false = X; obtain ⟨m, rfl, hm1, hm2⟩ := ex_pick hx (by omega) (by omega) hb hhp (by simp only [ht, plainH_nil, plainH_cons, plainH_append, plainB, List.all_cons, List.all_nil, Bool.and_self, Bool.and_true]) ; skip; clear hx; simp -implicitDefEqProofs (disch := omega) only [go_sem, Nat.reduceBEq, Nat.reduceAdd, Nat.reduceSub, Nat.reduceMul, Nat.reduceLeDiff, Nat.reduceEqDiff, Nat.reduceLT, Int.reduceNeg, Int.reduceAdd, Int.reduceSub, Int.reduceMul, Int.reduceLE, Int.reduceLT, Int.reduceEq, Int.reduceToNat, reduceCtorEq, IntWalk.i64_in, hh, hhq, List.all_append, elemsOf, elemOf, frzs, refs, refC, refsV, List.contains_nil, *]) | ((first | rw [GuardI_ndec] | rw [CondC_ndec] | rw [GuardQ_ndec] | rw [GuardV_ndec] | rw [GuardI_dec] | rw [CondC_dec] | rw [GuardQ_dec] | rw [GuardV_dec] | rw [GuardI_nby] | rw [CondC_nby] | rw [GuardQ_nby] | rw [GuardV_nby] | rw [GuardQ_by] | rw [GuardI_by] | rw [GuardV_by] | rw [CondC_by]) <;> split <;> simp -implicitDefEqProofs (disch := omega) only [go_sem, Nat.reduceBEq, Nat.reduceAdd, Nat.reduceSub, Nat.reduceMul, Nat.reduceLeDiff, Nat.reduceEqDiff, Nat.reduceLT, Int.reduceNeg, Int.reduceAdd, Int.reduceSub, Int.reduceMul, Int.reduceLE, Int.reduceLT, Int.reduceEq, Int.reduceToNat, reduceCtorEq, IntWalk.i64_in, hh, hhq, List.all_append, elemsOf, elemOf, frzs, refs, refC, refsV, List.contains_nil, *]))
    · have e : (ws ++ [(⟨i, ⟨true, []⟩, true⟩ : Wr)]).map Wr.cells = ws.map Wr.cells ++ [[.int .i64 i, .sl true 3 [], .bool true]] := by simp [Wr.cells, Row.v]
      rw [← e]
      generalize hL : LoopS _ _ _ _ _ _ _ _ _ = Y
      obtain ⟨ws', st', p', h2, h3, h4, h5⟩ := ih K (i + 1) (ws := ws ++ [(⟨i, ⟨true, []⟩, true⟩ : Wr)]) hL (by omega) (by omega) (by simp) (hs.snoc GS.nil) (by omega) (by omega)
      exact ⟨ws', st', p', h2, h3, by omega, by omega⟩
    · have e : (ws ++ [(⟨i, ⟨true, [⟨1, m2, ⟨#[]⟩⟩]⟩, false⟩ : Wr)]).map Wr.cells = ws.map Wr.cells ++ [[.int .i64 i, .sl true 3 [[.int .i64 1, .int .i64 m2, .str ⟨#[]⟩]], .bool false]] := by simp [Wr.cells, Row.v, Val.cells]
      rw [← e]
      generalize hL : LoopS _ _ _ _ _ _ _ _ _ = Y
      obtain ⟨ws', st', p', h2, h3, h4, h5⟩ := ih K (i + 1) (ws := ws ++ [(⟨i, ⟨true, [⟨1, m2, ⟨#[]⟩⟩]⟩, false⟩ : Wr)]) hL (by omega) (by omega) (by simp) (hs.snoc ⟨by simp, fun v hv => by rw [List.mem_singleton.1 hv]; exact Nat.zero_le _⟩) (by omega) (by omega)
      exact ⟨ws', st', p', h2, h3, by omega, by omega⟩
    · generalize hL : LoopS _ _ _ _ _ _ _ _ _ = Y
      obtain ⟨ws', st', p', h2, h3, h4, h5⟩ := ih K (i + 1) (ws := ws) hL (by omega) (by omega) rfl hs.skip (by omega) (by omega)
      exact ⟨ws', st', p', h2, h3, by omega, by omega⟩
theorem ex_writes0 {d : Nat} {hp t : Heap} {c : Bool} {bs : List UInt8} {p : Int} {X : Option (V × Heap)} (hx : callS (runD tab noExt (d + 3)) (hp ++ .box [.sl c 1 (cellsOfBytes bs), .int .i64 (p)] :: t) 121 [.ptr hp.length 0 0 0, .int .i64 0] false = X)
    (hp0 : 0 ≤ p) (hq : p ≤ 1099500000000) (hb : bs.length ≤ 2000) (hhp : plainH hp = true) (ht : plainH t = true) :
    ∃ (ws : List Wr) (p' : Int), X = some (.sl false 3 (ws.map Wr.cells), hp ++ .box [.sl c 1 (cellsOfBytes bs), .int .i64 (p')] :: t) ∧ p ≤ p' ∧ p' ≤ p + 20 ∧ WrsPost 5 ws := by
  subst hx
  have hh : ∀ n, t.all (hiB n) = true := fun n => plainH_hi ht n
  have hhq : ∀ n, hp.all (hiB n) = true := fun n => plainH_hi hhp n
  rw [callS_eq, runD_eq find121 _ _ _ (by simp)]
  simp -implicitDefEqProofs (disch := omega) only [go_sem, Nat.reduceBEq, Nat.reduceAdd, Nat.reduceSub, Nat.reduceMul, Nat.reduceLeDiff, Nat.reduceEqDiff, Nat.reduceLT, Int.reduceNeg, Int.reduceAdd, Int.reduceSub, Int.reduceMul, Int.reduceLE, Int.reduceLT, Int.reduceEq, Int.reduceToNat, reduceCtorEq, hh, hhq, List.all_append]
  generalize hx : LoopS _ _ _ _ _ _ _ _ _ = Y
  obtain ⟨ws, st, p1, rfl, h1, h2, h3⟩ := loop_writes hb hhp ht 5 _ 0 (ws := []) hx (by omega) (by omega) rfl ⟨by simp, fun _ h => by cases h⟩ (by omega) (by omega)
  clear hx
  simp -implicitDefEqProofs (disch := omega) only [go_sem, Nat.reduceBEq, Nat.reduceAdd, Nat.reduceSub, Nat.reduceMul, Nat.reduceLeDiff, Nat.reduceEqDiff, Nat.reduceLT, Int.reduceNeg, Int.reduceAdd, Int.reduceSub, Int.reduceMul, Int.reduceLE, Int.reduceLT, Int.reduceEq, Int.reduceToNat, reduceCtorEq, hh, hhq, List.all_append]
  repeat' (first | ((conv in (callS _ _ 119 _ false) => skip); generalize hx : callS (runD tab noExt _) (_ ++ _ :: _) 119 _ false = X; obtain ⟨b, p', rfl, hm1, hm2, hm3⟩ := ex_odd hx (by omega) (by omega) hb hhp (by simp only [ht, plainH_nil, plainH_cons, plainH_append, plainB, List.all_cons, List.all_nil, Bool.and_self, Bool.and_true]) ; skip; clear hx; have hb0 := hm3 (by omega); subst hb0; simp -implicitDefEqProofs (disch := omega) only [go_sem, Nat.reduceBEq, Nat.reduceAdd, Nat.reduceSub, Nat.reduceMul, Nat.reduceLeDiff, Nat.reduceEqDiff, Nat.reduceLT, Int.reduceNeg, Int.reduceAdd, Int.reduceSub, Int.reduceMul, Int.reduceLE, Int.reduceLT, Int.reduceEq, Int.reduceToNat, reduceCtorEq, IntWalk.i64_in, hh, hhq, List.all_append, take_map_len, *]) | ((first | rw [GuardI_ndec] | rw [CondC_ndec] | rw [GuardQ_ndec] | rw [GuardV_ndec] | rw [GuardI_dec] | rw [CondC_dec] | rw [GuardQ_dec] | rw [GuardV_dec] | rw [GuardI_nby] | rw [CondC_nby] | rw [GuardQ_nby] | rw [GuardV_nby] | rw [GuardQ_by] | rw [GuardI_by] | rw [GuardV_by] | rw [CondC_by]) <;> split <;> simp -implicitDefEqProofs (disch := omega) only [go_sem, Nat.reduceBEq, Nat.reduceAdd, Nat.reduceSub, Nat.reduceMul, Nat.reduceLeDiff, Nat.reduceEqDiff, Nat.reduceLT, Int.reduceNeg, Int.reduceAdd, Int.reduceSub, Int.reduceMul, Int.reduceLE, Int.reduceLT, Int.reduceEq, Int.reduceToNat, reduceCtorEq, IntWalk.i64_in, hh, hhq, List.all_append, take_map_len, *]))
  exact ⟨ws, _, rfl, by omega, by omega, h1⟩
end Go.Proofs.Ytfbjbkkcilhgjaa.PE
/- Versions after writes: what the reference's functions come to, and how much at most. -/
set_option linter.unusedSimpArgs false
set_option linter.unusedVariables false
set_option maxHeartbeats 4000000
namespace Go.Proofs.Ytfbjbkkcilhgjaa.PE
open Go.RowKit

/-- Versions of short rows. -/
def GVs (n : Nat) (l : List Ver) : Prop := l.length ≤ n ∧ ∀ v ∈ l, GS v.row.vs
theorem GVs.short {n : Nat} {l : List Ver} (h : GVs n l) : ShortVs l ∧ ∀ v ∈ l, v.row.vs.length < 4294967296 := ⟨fun v hv => (h.2 v hv).short, fun v hv => by have := (h.2 v hv).1; omega⟩
-- find167
theorem run_lastTurn (d : Nat) (c : Bool) (l : List Ver) (key : Int) (hs : l.length < 1099511627776) (hsh : ShortVs l) : ∃ n, retP (runD tab noExt (d + 6)) 167 [.sl c 4 (l.map Ver.cells), .int .i64 key] = some [.int .i64 n] := by
  have hv := run_versS d c l hs hsh
  cases hok : versOk l
  · rw [hok] at hv
    refine ⟨0, ?_⟩
    rw [retP, runD_eq find167 _ _ _ (by simp)]
    simp -implicitDefEqProofs (disch := omega) only [go_sem, Nat.reduceBEq, Nat.reduceAdd, Nat.reduceSub, Nat.reduceMul, Nat.reduceLeDiff, Nat.reduceEqDiff, Nat.reduceLT, Int.reduceNeg, Int.reduceAdd, Int.reduceSub, Int.reduceMul, Int.reduceLE, Int.reduceLT, Int.reduceEq, Int.reduceToNat, reduceCtorEq]
    rw [LoopS_eq]
    by_cases h0 : (0 : Int) < l.length
    · simp -implicitDefEqProofs (disch := omega) only [go_sem, Nat.reduceBEq, Nat.reduceAdd, Nat.reduceSub, Nat.reduceMul, Nat.reduceLeDiff, Nat.reduceEqDiff, Nat.reduceLT, Int.reduceNeg, Int.reduceAdd, Int.reduceSub, Int.reduceMul, Int.reduceLE, Int.reduceLT, Int.reduceEq, Int.reduceToNat, reduceCtorEq, evL167x0, B167x0, h0, hv]
    · simp -implicitDefEqProofs (disch := omega) only [go_sem, Nat.reduceBEq, Nat.reduceAdd, Nat.reduceSub, Nat.reduceMul, Nat.reduceLeDiff, Nat.reduceEqDiff, Nat.reduceLT, Int.reduceNeg, Int.reduceAdd, Int.reduceSub, Int.reduceMul, Int.reduceLE, Int.reduceLT, Int.reduceEq, Int.reduceToNat, reduceCtorEq, evL167x0, B167x0, h0]
  · rw [hok] at hv
    obtain ⟨n, _, e⟩ := LoopS_inv (run := runD tab noExt (d + 5)) (draw := drawI (runD tab noExt (d + 5))) (live := [0, 1, 5, 6]) (out := [5]) (c := L167x0) (n0 := 0) l.length (fun _ (_ : Int) => True)
      (fun i b => [(0, .sl c 4 (l.map Ver.cells)), (1, .int .i64 key), (5, .int .i64 b), (6, .int .i64 (i : Nat))]) (fun _ => []) (fun b => some (.exit 0, [(5, .int .i64 b)], []))
      (fun b K _ => by
        rw [LoopS_eq]
        simp -implicitDefEqProofs only [go_sem, Nat.reduceBEq, Nat.reduceAdd, Nat.reduceSub, Nat.reduceMul, Nat.reduceLeDiff, Nat.reduceEqDiff, Nat.reduceLT, Int.reduceNeg, Int.reduceAdd, Int.reduceSub, Int.reduceMul, Int.reduceLE, Int.reduceLT, Int.reduceEq, Int.reduceToNat, reduceCtorEq, evL167x0, B167x0, Int.lt_irrefl]) (fun i b K hi _ => by
        have hi' : (i : Int) < l.length := by omega
        have hx := List.getElem?_eq_getElem hi
        generalize l[i] = v at hx
        rw [LoopS_eq]
        by_cases hk : v.key = key
        · refine ⟨if v.died > (if v.born > b then v.born else b) then v.died else (if v.born > b then v.born else b), trivial, ?_⟩
          simp -implicitDefEqProofs (disch := omega) only [go_sem, Nat.reduceBEq, Nat.reduceAdd, Nat.reduceSub, Nat.reduceMul, Nat.reduceLeDiff, Nat.reduceEqDiff, Nat.reduceLT, Int.reduceNeg, Int.reduceAdd, Int.reduceSub, Int.reduceMul, Int.reduceLE, Int.reduceLT, Int.reduceEq, Int.reduceToNat, reduceCtorEq, evL167x0, B167x0, evC_draw, evD167x0, E167x0, hi', hx, hv, Ver.cells, Row.v, IntWalk.i64_in, mmax, (eq_true hk : (v.key = key) = True)]
        · refine ⟨b, trivial, ?_⟩
          simp -implicitDefEqProofs (disch := omega) only [go_sem, Nat.reduceBEq, Nat.reduceAdd, Nat.reduceSub, Nat.reduceMul, Nat.reduceLeDiff, Nat.reduceEqDiff, Nat.reduceLT, Int.reduceNeg, Int.reduceAdd, Int.reduceSub, Int.reduceMul, Int.reduceLE, Int.reduceLT, Int.reduceEq, Int.reduceToNat, reduceCtorEq, evL167x0, B167x0, hi', hx, hv, Ver.cells, Row.v, IntWalk.i64_in, (eq_false hk : (v.key = key) = False)]) 1099511627775 (by omega) 0 trivial
    refine ⟨n, ?_⟩
    rw [retP, runD_eq find167 _ _ _ (by simp)]
    simp -implicitDefEqProofs (disch := omega) only [go_sem, Nat.reduceBEq, Nat.reduceAdd, Nat.reduceSub, Nat.reduceMul, Nat.reduceLeDiff, Nat.reduceEqDiff, Nat.reduceLT, Int.reduceNeg, Int.reduceAdd, Int.reduceSub, Int.reduceMul, Int.reduceLE, Int.reduceLT, Int.reduceEq, Int.reduceToNat, reduceCtorEq]
    try simp -implicitDefEqProofs only [go_sem, Nat.reduceBEq, Nat.reduceAdd, Nat.reduceSub, Nat.reduceMul, Nat.reduceLeDiff, Nat.reduceEqDiff, Nat.reduceLT, Int.reduceNeg, Int.reduceAdd, Int.reduceSub, Int.reduceMul, Int.reduceLE, Int.reduceLT, Int.reduceEq, Int.reduceToNat, reduceCtorEq, Int.natCast_zero] at e
    rw [e]
    simp -implicitDefEqProofs (disch := omega) only [go_sem, Nat.reduceBEq, Nat.reduceAdd, Nat.reduceSub, Nat.reduceMul, Nat.reduceLeDiff, Nat.reduceEqDiff, Nat.reduceLT, Int.reduceNeg, Int.reduceAdd, Int.reduceSub, Int.reduceMul, Int.reduceLE, Int.reduceLT, Int.reduceEq, Int.reduceToNat, reduceCtorEq]
theorem take_frame {h h1 : Heap} (hk : ∀ j, j < h.length → h1[j]? = h[j]?) : h1.take h.length = h := by
  apply List.ext_getElem?
  intro i
  by_cases hi : i < h.length
  · rw [List.getElem?_take_of_lt hi, hk i hi]
  · rw [List.getElem?_take_eq_none (by omega), List.getElem?_eq_none (by omega)]
-- find168
theorem ex_copy13 {d : Nat} {h : Heap} {id st n : Nat} (l : List Ver) (hid : h[id]? = some (.rows st 4 (l.map Ver.cells))) (hn : n = l.length) (hsz : l.length < 4294967295) (hfn : ∀ v ∈ l, v.row.vs.length < 4294967296) (hp : plainH h = true) :
    callS (runD tab noExt (d + 2)) h 168 [.ref id st 0 n false] true = some (.ref h.length 0 0 l.length false, h ++ [.rows 0 4 ((l.map Ver.plain).map Ver.cells)]) := by
  subst hn
  have hlt : id < h.length := (List.getElem?_eq_some_iff.1 hid).1
  obtain ⟨h', ⟨f1, f2⟩, e⟩ := LoopK_inv (run := runD tab noExt (d + 1)) (draw := drawI (runD tab noExt (d + 1))) (live := [0, 3, 4]) (out := [3]) (c := L168x0) l.length
    (fun i (h1 : Heap) => (∀ j, j < h.length → h1[j]? = h[j]?) ∧ h1[h.length + 1]? = some (.rows i 4 (((l.take i).map Ver.plain).map Ver.cells)))
    (fun i _ => [(0, .ref id st 0 l.length false), (3, .ref (h.length + 1) i 0 i false), (4, .int .i64 (i : Nat))]) (fun h1 => h1) (fun h1 => some (.exit 0, [(3, .ref (h.length + 1) l.length 0 l.length false)], h1))
    (fun h1 K hb => by
      rw [LoopK_eq]
      simp -implicitDefEqProofs only [go_sem, Nat.reduceBEq, Nat.reduceAdd, Nat.reduceSub, Nat.reduceMul, Nat.reduceLeDiff, Nat.reduceEqDiff, Nat.reduceLT, Int.reduceNeg, Int.reduceAdd, Int.reduceSub, Int.reduceMul, Int.reduceLE, Int.reduceLT, Int.reduceEq, Int.reduceToNat, reduceCtorEq, evL168x0, B168x0, Int.lt_irrefl]) (fun i h1 K hi hb => by
      obtain ⟨f1, f2⟩ := hb
      have hi' : (i : Int) < l.length := by omega
      have hx := List.getElem?_eq_getElem hi
      generalize l[i] = v at hx
      have hown := run_own3 d v.row.clip (v.row.vs.map Val.cells) (by have := hfn v (List.mem_of_getElem? hx); simpa using this)
      have q0 : h1[id]? = some (.rows st 4 (l.map Ver.cells)) := (f1 id hlt).trans hid
      have z1 : h.length + 1 < h1.length := (List.getElem?_eq_some_iff.1 f2).1
      have q2 : ∀ b : Blk, (h1 ++ [b])[h.length + 1]? = some (.rows i 4 (((l.take i).map Ver.plain).map Ver.cells)) := fun b => by rw [List.getElem?_append_left z1]; exact f2
      have hlen : (((l.take i).map Ver.plain).map Ver.cells).length = i := by simp; omega
      have hsm : i + 1 < 4294967296 := by omega
      refine ⟨(h1 ++ [Blk.box v.plain.cells]).set (h.length + 1) (.rows (i + 1) 4 (((l.take i).map Ver.plain).map Ver.cells ++ [v.plain.cells])), ⟨fun j hj => ?_, ?_⟩, ?_⟩
      · rw [List.getElem?_set_ne (by omega), List.getElem?_append_left (by omega)]
        exact f1 j hj
      · rw [List.getElem?_set_self (by simp; omega), take_snoc hx]
        simp
      · rw [LoopK_eq]
        simp -implicitDefEqProofs (disch := omega) only [go_sem, Nat.reduceBEq, Nat.reduceAdd, Nat.reduceSub, Nat.reduceMul, Nat.reduceLeDiff, Nat.reduceEqDiff, Nat.reduceLT, Int.reduceNeg, Int.reduceAdd, Int.reduceSub, Int.reduceMul, Int.reduceLE, Int.reduceLT, Int.reduceEq, Int.reduceToNat, reduceCtorEq, evL168x0, B168x0, hi', hi, q0, hx, q2, hlen, hsm, hown, Ver.cells, Ver.plain, Row.v, IntWalk.i64_in, at_end, at_end_add, set_end, set_end_add]) 1099511627775 (by omega) (h ++ [.rows 0 4 [], .rows 0 4 []]) ⟨fun j hj => List.getElem?_append_left hj, by rw [at_end_add]; rfl⟩
  have z1 : h.length + 1 < h'.length := (List.getElem?_eq_some_iff.1 f2).1
  have htk := take_frame f1
  have hh : ∀ n, h.all (hiB n) = true := fun n => plainH_hi hp n
  rw [List.take_of_length_le (Nat.le_refl _)] at f2
  have et : List.take l.length ((l.map Ver.plain).map Ver.cells) = (l.map Ver.plain).map Ver.cells := List.take_of_length_le (by simp)
  rw [callS_eq, runD_eq find168 _ _ _ (by simp)]
  simp -implicitDefEqProofs (disch := omega) only [go_sem, Nat.reduceBEq, Nat.reduceAdd, Nat.reduceSub, Nat.reduceMul, Nat.reduceLeDiff, Nat.reduceEqDiff, Nat.reduceLT, Int.reduceNeg, Int.reduceAdd, Int.reduceSub, Int.reduceMul, Int.reduceLE, Int.reduceLT, Int.reduceEq, Int.reduceToNat, reduceCtorEq]
  try simp -implicitDefEqProofs only [go_sem, Nat.reduceBEq, Nat.reduceAdd, Nat.reduceSub, Nat.reduceMul, Nat.reduceLeDiff, Nat.reduceEqDiff, Nat.reduceLT, Int.reduceNeg, Int.reduceAdd, Int.reduceSub, Int.reduceMul, Int.reduceLE, Int.reduceLT, Int.reduceEq, Int.reduceToNat, reduceCtorEq, Int.natCast_zero] at e
  rw [e]
  simp -implicitDefEqProofs (disch := omega) only [go_sem, Nat.reduceBEq, Nat.reduceAdd, Nat.reduceSub, Nat.reduceMul, Nat.reduceLeDiff, Nat.reduceEqDiff, Nat.reduceLT, Int.reduceNeg, Int.reduceAdd, Int.reduceSub, Int.reduceMul, Int.reduceLE, Int.reduceLT, Int.reduceEq, Int.reduceToNat, reduceCtorEq, f2, htk, hh, et]
def wrStep (w : Wr) (time : Int) (b : List Ver × Bool) (v : Ver) : List Ver × Bool :=
  ((if w.key < v.key ∧ b.2 = false then b.1 ++ [⟨w.key, time, 0, ⟨false, w.row.vs⟩⟩] else b.1) ++ [if v.key = w.key ∧ v.died = 0 then ⟨v.key, v.born, time, v.row⟩ else v], b.2 || decide (w.key < v.key))
def WrInv (w : Wr) (i : Nat) (b : List Ver × Bool) : Prop := b.1.length ≤ i + 1 ∧ (b.2 = false → b.1.length ≤ i) ∧ ∀ v ∈ b.1, GS v.row.vs
theorem wrStep_inv {w : Wr} {time : Int} {i : Nat} {b : List Ver × Bool} {v : Ver} (hb : WrInv w i b) (hw : GS w.row.vs) (hv : GS v.row.vs) : WrInv w (i + 1) (wrStep w time b v) := by
  obtain ⟨h1, h2, h3⟩ := hb
  obtain ⟨out, dn⟩ := b
  simp only at h1 h2 h3
  have g : ∀ x ∈ [if v.key = w.key ∧ v.died = 0 then (⟨v.key, v.born, time, v.row⟩ : Ver) else v], GS x.row.vs := by
    intro x hx
    rw [List.mem_singleton.1 hx]
    split <;> exact hv
  unfold wrStep WrInv
  simp only
  by_cases hc : w.key < v.key ∧ dn = false
  · rw [if_pos hc]
    have := h2 hc.2
    refine ⟨by simp only [List.length_append, List.length_cons, List.length_nil]; omega, fun h => ?_, fun x hx => ?_⟩
    · simp [hc.1] at h
    · rcases List.mem_append.1 hx with hx | hx
      · rcases List.mem_append.1 hx with hx | hx
        · exact h3 x hx
        · rw [List.mem_singleton.1 hx]; exact hw
      · exact g x hx
  · rw [if_neg hc]
    refine ⟨by simp only [List.length_append, List.length_cons, List.length_nil]; omega, fun h => ?_, fun x hx => ?_⟩
    · have hd : dn = false := by cases dn <;> simp_all
      have := h2 hd
      simp only [List.length_append, List.length_cons, List.length_nil]
      omega
    · rcases List.mem_append.1 hx with hx | hx
      · exact h3 x hx
      · exact g x hx
-- find169
theorem run_written13 (d : Nat) (c : Bool) (l : List Ver) (w : Wr) (time : Int) {n : Nat} (hl : GVs n l) (hw : GS w.row.vs) (hn : n ≤ 1000) : ∃ id st out hc, runD tab noExt (d + 2) 169 [.sl c 4 (l.map Ver.cells), .agg w.cells, .int .i64 time] [] = some ([.ref id st 0 out.length false], hc) ∧ hc[id]? = some (.rows st 4 (out.map Ver.cells)) ∧ GVs (n + 1) out := by
  have hln := hl.1
  have hown := run_own3 d w.row.clip (w.row.vs.map Val.cells) (by have := hw.1; simp; omega)
  obtain ⟨⟨out, dn⟩, ⟨g1, g2, g3⟩, e⟩ := LoopS_inv (run := runD tab noExt (d + 1)) (draw := drawI (runD tab noExt (d + 1))) (live := [0, 2, 4, 7, 8, 9]) (out := [2, 4, 7, 8]) (c := L169x0) (n0 := 3) l.length (fun i (b : List Ver × Bool) => WrInv w i b)
    (fun i b => [(0, .sl c 4 (l.map Ver.cells)), (2, .int .i64 time), (4, .ptr 0 0 0 0), (7, .ref 2 b.1.length 0 b.1.length false), (8, .bool b.2), (9, .int .i64 (i : Nat))]) (fun b => [.box w.cells, .rows 0 4 [], .rows b.1.length 4 (b.1.map Ver.cells)]) (fun b => some (.exit 0, [(2, .int .i64 time), (4, .ptr 0 0 0 0), (7, .ref 2 b.1.length 0 b.1.length false), (8, .bool b.2)], [.box w.cells, .rows 0 4 [], .rows b.1.length 4 (b.1.map Ver.cells)]))
    (fun b K _ => by
      rw [LoopS_eq]
      simp -implicitDefEqProofs only [go_sem, Nat.reduceBEq, Nat.reduceAdd, Nat.reduceSub, Nat.reduceMul, Nat.reduceLeDiff, Nat.reduceEqDiff, Nat.reduceLT, Int.reduceNeg, Int.reduceAdd, Int.reduceSub, Int.reduceMul, Int.reduceLE, Int.reduceLT, Int.reduceEq, Int.reduceToNat, reduceCtorEq, evL169x0, B169x0, Int.lt_irrefl, Wr.cells, Row.v]) (fun i b K hi hb => by
      have hi' : (i : Int) < l.length := by omega
      have hx := List.getElem?_eq_getElem hi
      generalize l[i] = v at hx
      have hgv := hl.2 v (List.mem_of_getElem? hx)
      refine ⟨wrStep w time b v, wrStep_inv hb hw hgv, ?_⟩
      obtain ⟨b1, b2, b3⟩ := hb
      obtain ⟨out, dn⟩ := b
      simp only at b1 b2 b3
      have hsm : out.length + 1 < 4294967296 := by omega
      have hsm2 : out.length + 1 + 1 < 4294967296 := by omega
      unfold wrStep
      simp only
      rw [LoopS_eq]
      by_cases k1 : w.key < v.key
      · have k2 : ¬ v.key = w.key := by omega
        cases dn
        · simp -implicitDefEqProofs (disch := omega) only [go_sem, Nat.reduceBEq, Nat.reduceAdd, Nat.reduceSub, Nat.reduceMul, Nat.reduceLeDiff, Nat.reduceEqDiff, Nat.reduceLT, Int.reduceNeg, Int.reduceAdd, Int.reduceSub, Int.reduceMul, Int.reduceLE, Int.reduceLT, Int.reduceEq, Int.reduceToNat, reduceCtorEq, evL169x0, B169x0, evC_draw, evD169x0, E169x0, hi', hx, hown, hsm, hsm2, Bool.true_or, Bool.false_or, Ver.cells, Wr.cells, Row.v, IntWalk.i64_in, (eq_true k1 : (w.key < v.key) = True), (eq_false k2 : (v.key = w.key) = False), List.map_append]
        · simp -implicitDefEqProofs (disch := omega) only [go_sem, Nat.reduceBEq, Nat.reduceAdd, Nat.reduceSub, Nat.reduceMul, Nat.reduceLeDiff, Nat.reduceEqDiff, Nat.reduceLT, Int.reduceNeg, Int.reduceAdd, Int.reduceSub, Int.reduceMul, Int.reduceLE, Int.reduceLT, Int.reduceEq, Int.reduceToNat, reduceCtorEq, evL169x0, B169x0, evC_draw, evD169x0, E169x0, hi', hx, hown, hsm, hsm2, Bool.true_or, Bool.false_or, Ver.cells, Wr.cells, Row.v, IntWalk.i64_in, (eq_true k1 : (w.key < v.key) = True), (eq_false k2 : (v.key = w.key) = False), List.map_append]
      · by_cases k2 : v.key = w.key
        · by_cases k3 : v.died = 0
          · simp -implicitDefEqProofs (disch := omega) only [go_sem, Nat.reduceBEq, Nat.reduceAdd, Nat.reduceSub, Nat.reduceMul, Nat.reduceLeDiff, Nat.reduceEqDiff, Nat.reduceLT, Int.reduceNeg, Int.reduceAdd, Int.reduceSub, Int.reduceMul, Int.reduceLE, Int.reduceLT, Int.reduceEq, Int.reduceToNat, reduceCtorEq, evL169x0, B169x0, evC_draw, evD169x0, E169x0, hi', hx, hown, hsm, hsm2, Bool.true_or, Bool.false_or, Ver.cells, Wr.cells, Row.v, IntWalk.i64_in, (eq_false k1 : (w.key < v.key) = False), (eq_true k2 : (v.key = w.key) = True), (eq_true k3 : (v.died = 0) = True), List.map_append]
          · simp -implicitDefEqProofs (disch := omega) only [go_sem, Nat.reduceBEq, Nat.reduceAdd, Nat.reduceSub, Nat.reduceMul, Nat.reduceLeDiff, Nat.reduceEqDiff, Nat.reduceLT, Int.reduceNeg, Int.reduceAdd, Int.reduceSub, Int.reduceMul, Int.reduceLE, Int.reduceLT, Int.reduceEq, Int.reduceToNat, reduceCtorEq, evL169x0, B169x0, evC_draw, evD169x0, E169x0, hi', hx, hown, hsm, hsm2, Bool.true_or, Bool.false_or, Ver.cells, Wr.cells, Row.v, IntWalk.i64_in, (eq_false k1 : (w.key < v.key) = False), (eq_true k2 : (v.key = w.key) = True), (eq_false k3 : (v.died = 0) = False), List.map_append]
        · simp -implicitDefEqProofs (disch := omega) only [go_sem, Nat.reduceBEq, Nat.reduceAdd, Nat.reduceSub, Nat.reduceMul, Nat.reduceLeDiff, Nat.reduceEqDiff, Nat.reduceLT, Int.reduceNeg, Int.reduceAdd, Int.reduceSub, Int.reduceMul, Int.reduceLE, Int.reduceLT, Int.reduceEq, Int.reduceToNat, reduceCtorEq, evL169x0, B169x0, evC_draw, evD169x0, E169x0, hi', hx, hown, hsm, hsm2, Bool.true_or, Bool.false_or, Ver.cells, Wr.cells, Row.v, IntWalk.i64_in, (eq_false k1 : (w.key < v.key) = False), (eq_false k2 : (v.key = w.key) = False), List.map_append]) 1099511627775 (by omega) ([], w.gone) ⟨by simp, fun _ => by simp, fun _ h => by cases h⟩
  simp only at g1 g2 g3 e
  have hsm : out.length + 1 < 4294967296 := by omega
  simp only [Wr.cells, Row.v, List.length_nil, List.map_nil, Int.natCast_zero] at e
  cases dn
  · have := g2 rfl
    refine ⟨2, out.length + 1, out ++ [⟨w.key, time, 0, ⟨false, w.row.vs⟩⟩], [.box w.cells, .rows 0 4 [], .rows (out.length + 1) 4 ((out ++ [(⟨w.key, time, 0, ⟨false, w.row.vs⟩⟩ : Ver)]).map Ver.cells)], ?_, rfl, by simp only [List.length_append, List.length_cons, List.length_nil]; omega, fun x hx => ?_⟩
    · rw [runD_eq find169 _ _ _ (by simp)]
      simp -implicitDefEqProofs (disch := omega) only [go_sem, Nat.reduceBEq, Nat.reduceAdd, Nat.reduceSub, Nat.reduceMul, Nat.reduceLeDiff, Nat.reduceEqDiff, Nat.reduceLT, Int.reduceNeg, Int.reduceAdd, Int.reduceSub, Int.reduceMul, Int.reduceLE, Int.reduceLT, Int.reduceEq, Int.reduceToNat, reduceCtorEq, Wr.cells, Row.v]
      try simp -implicitDefEqProofs only [go_sem, Nat.reduceBEq, Nat.reduceAdd, Nat.reduceSub, Nat.reduceMul, Nat.reduceLeDiff, Nat.reduceEqDiff, Nat.reduceLT, Int.reduceNeg, Int.reduceAdd, Int.reduceSub, Int.reduceMul, Int.reduceLE, Int.reduceLT, Int.reduceEq, Int.reduceToNat, reduceCtorEq] at e
      rw [e]
      simp -implicitDefEqProofs (disch := omega) only [go_sem, Nat.reduceBEq, Nat.reduceAdd, Nat.reduceSub, Nat.reduceMul, Nat.reduceLeDiff, Nat.reduceEqDiff, Nat.reduceLT, Int.reduceNeg, Int.reduceAdd, Int.reduceSub, Int.reduceMul, Int.reduceLE, Int.reduceLT, Int.reduceEq, Int.reduceToNat, reduceCtorEq, evC_draw, evD169x1, E169x1, hown, hsm, Ver.cells, Row.v, List.map_append]
    · rcases List.mem_append.1 hx with hx | hx
      · exact g3 x hx
      · rw [List.mem_singleton.1 hx]; exact hw
  · refine ⟨2, out.length, out, [.box w.cells, .rows 0 4 [], .rows out.length 4 (out.map Ver.cells)], ?_, rfl, by omega, g3⟩
    rw [runD_eq find169 _ _ _ (by simp)]
    simp -implicitDefEqProofs (disch := omega) only [go_sem, Nat.reduceBEq, Nat.reduceAdd, Nat.reduceSub, Nat.reduceMul, Nat.reduceLeDiff, Nat.reduceEqDiff, Nat.reduceLT, Int.reduceNeg, Int.reduceAdd, Int.reduceSub, Int.reduceMul, Int.reduceLE, Int.reduceLT, Int.reduceEq, Int.reduceToNat, reduceCtorEq, Wr.cells, Row.v]
    try simp -implicitDefEqProofs only [go_sem, Nat.reduceBEq, Nat.reduceAdd, Nat.reduceSub, Nat.reduceMul, Nat.reduceLeDiff, Nat.reduceEqDiff, Nat.reduceLT, Int.reduceNeg, Int.reduceAdd, Int.reduceSub, Int.reduceMul, Int.reduceLE, Int.reduceLT, Int.reduceEq, Int.reduceToNat, reduceCtorEq] at e
    rw [e]
    simp -implicitDefEqProofs (disch := omega) only [go_sem, Nat.reduceBEq, Nat.reduceAdd, Nat.reduceSub, Nat.reduceMul, Nat.reduceLeDiff, Nat.reduceEqDiff, Nat.reduceLT, Int.reduceNeg, Int.reduceAdd, Int.reduceSub, Int.reduceMul, Int.reduceLE, Int.reduceLT, Int.reduceEq, Int.reduceToNat, reduceCtorEq]
end Go.Proofs.Ytfbjbkkcilhgjaa.PE
/- Versions that are drawn. -/
set_option linter.unusedSimpArgs false
set_option linter.unusedVariables false
set_option maxHeartbeats 4000000
namespace Go.Proofs.Ytfbjbkkcilhgjaa.PE
open Go.RowKit

theorem WrsPost.shortWs {n : Nat} {ws : List Wr} (h : WrsPost n ws) : ShortWs ws := fun w hw => (h.2 w hw).short
-- find120
theorem loop_written0 {d : Nat} {h : Heap} {id st n : Nat} (cw : Bool) (l : List Ver) (ws : List Wr) (time : Int) (hid : h[id]? = some (.rows st 4 (l.map Ver.cells))) (hn : n = l.length) (hs : l.length < 1099511627776) (hsh : ShortVs l) : ∀ (j i K : Nat), i + j = 5 → j ≤ K →
    LoopK (runD tab noExt (d + 6)) (drawI (runD tab noExt (d + 6))) [0, 1, 2, 8] [0, 1, 2, 6, 7] L120x0 K [(0, .ref id st 0 n false), (1, .sl cw 3 (ws.map Wr.cells)), (2, .int .i64 time), (8, .int .i64 (i : Nat))] h = some (.exit 0, [(0, .ref id st 0 n false), (1, .sl cw 3 (ws.map Wr.cells)), (2, .int .i64 time), (6, .undef), (7, .undef)], h) ∨
    LoopK (runD tab noExt (d + 6)) (drawI (runD tab noExt (d + 6))) [0, 1, 2, 8] [0, 1, 2, 6, 7] L120x0 K [(0, .ref id st 0 n false), (1, .sl cw 3 (ws.map Wr.cells)), (2, .int .i64 time), (8, .int .i64 (i : Nat))] h = some (.ret, [(0, .ref id st 0 n false), (1, .sl cw 3 (ws.map Wr.cells)), (2, .int .i64 time), (6, .sl true 4 []), (7, .bool false)], h) := by
  subst hn
  intro j
  induction j with
  | zero =>
    intro i K hi hK
    obtain rfl : i = 5 := by omega
    left
    rw [LoopK_eq]
    simp -implicitDefEqProofs only [go_sem, Nat.reduceBEq, Nat.reduceAdd, Nat.reduceSub, Nat.reduceMul, Nat.reduceLeDiff, Nat.reduceEqDiff, Nat.reduceLT, Int.reduceNeg, Int.reduceAdd, Int.reduceSub, Int.reduceMul, Int.reduceLE, Int.reduceLT, Int.reduceEq, Int.reduceToNat, reduceCtorEq, evL120x0, B120x0, Int.lt_irrefl, Int.cast_ofNat_Int]
  | succ j ih =>
    intro i K hi hK
    obtain ⟨K, rfl⟩ : ∃ K', K = K' + 1 := ⟨K - 1, by omega⟩
    have hi5 : (i : Int) < 5 := by omega
    obtain ⟨n, hlt⟩ := run_lastTurn d false l i hs hsh
    have ih' := ih (i + 1) K (by omega) (by omega)
    simp only [Int.natCast_add, Int.natCast_one] at ih'
    rw [LoopK_eq]
    by_cases hc : time ≤ n
    · right
      simp -implicitDefEqProofs (disch := omega) only [go_sem, Nat.reduceBEq, Nat.reduceAdd, Nat.reduceSub, Nat.reduceMul, Nat.reduceLeDiff, Nat.reduceEqDiff, Nat.reduceLT, Int.reduceNeg, Int.reduceAdd, Int.reduceSub, Int.reduceMul, Int.reduceLE, Int.reduceLT, Int.reduceEq, Int.reduceToNat, reduceCtorEq, evL120x0, B120x0, hi5, hid, take_map_len, hlt, (eq_true hc : (time ≤ n) = True), elemsOf, frzs]
    · simp -implicitDefEqProofs (disch := omega) only [go_sem, Nat.reduceBEq, Nat.reduceAdd, Nat.reduceSub, Nat.reduceMul, Nat.reduceLeDiff, Nat.reduceEqDiff, Nat.reduceLT, Int.reduceNeg, Int.reduceAdd, Int.reduceSub, Int.reduceMul, Int.reduceLE, Int.reduceLT, Int.reduceEq, Int.reduceToNat, reduceCtorEq, evL120x0, B120x0, hi5, hid, take_map_len, hlt, (eq_false hc : (time ≤ n) = False), IntWalk.i64_in]
      exact ih'
theorem loop_written1 {d : Nat} {h : Heap} (cw : Bool) (ws : List Wr) (time : Int) (hw : WrsPost 5 ws) {n : Nat} (hn : n ≤ 900) : ∀ (j i K : Nat) {h1 : Heap} {id st : Nat} {out : List Ver}, i + j = ws.length → j ≤ K → GVs (n + i) out → (∀ k, k < h.length → h1[k]? = h[k]?) → h.length ≤ id → h1[id]? = some (.rows st 4 (out.map Ver.cells)) →
    ∃ h2 id' st' out', LoopK (runD tab noExt (d + 3)) (drawI (runD tab noExt (d + 3))) [1, 2, 9, 10] [9] L120x1 K [(1, .sl cw 3 (ws.map Wr.cells)), (2, .int .i64 time), (9, .ref id st 0 out.length false), (10, .int .i64 (i : Nat))] h1 = some (.exit 2, [(9, .ref id' st' 0 out'.length false)], h2) ∧
      GVs (n + ws.length) out' ∧ (∀ k, k < h.length → h2[k]? = h[k]?) ∧ h.length ≤ id' ∧ h2[id']? = some (.rows st' 4 (out'.map Ver.cells)) := by
  intro j
  induction j with
  | zero =>
    intro i K h1 id st out hi hK hg f hid hb
    obtain rfl : i = ws.length := by omega
    refine ⟨h1, id, st, out, ?_, hg, f, hid, hb⟩
    rw [LoopK_eq]
    simp -implicitDefEqProofs only [go_sem, Nat.reduceBEq, Nat.reduceAdd, Nat.reduceSub, Nat.reduceMul, Nat.reduceLeDiff, Nat.reduceEqDiff, Nat.reduceLT, Int.reduceNeg, Int.reduceAdd, Int.reduceSub, Int.reduceMul, Int.reduceLE, Int.reduceLT, Int.reduceEq, Int.reduceToNat, reduceCtorEq, evL120x1, B120x1, Int.lt_irrefl]
  | succ j ih =>
    intro i K h1 id st out hi hK hg f hid hb
    obtain ⟨K, rfl⟩ : ∃ K', K = K' + 1 := ⟨K - 1, by omega⟩
    have hi' : (i : Int) < ws.length := by omega
    have hx := List.getElem?_eq_getElem (show i < ws.length by omega)
    generalize ws[i] = w at hx
    have hws := hw.1
    obtain ⟨id2, st2, out2, hc, e1, e2, e3⟩ := run_written13 (d + 1) false out w time hg (hw.2 w (List.mem_of_getElem? hx)) (by omega)
    have hlt : id < h1.length := (List.getElem?_eq_some_iff.1 hb).1
    obtain ⟨h2, id', st', out', g1, g2, g3, g4, g5⟩ := ih (i + 1) K (h1 := h1.set id (.frz st 4 (out.map Ver.cells)) ++ [.rows 0 4 (out2.map Ver.cells)]) (id := h1.length) (st := 0) (out := out2) (by omega) (by omega) (by rw [show n + (i + 1) = n + i + 1 by omega]; exact e3) (fun k hk => by
      have hk1 : k < h1.length := by
        have := f k hk
        rw [List.getElem?_eq_getElem hk] at this
        exact (List.getElem?_eq_some_iff.1 this).1
      rw [List.getElem?_append_left (by simpa using hk1), List.getElem?_set_ne (by omega)]
      exact f k hk) (by
      rcases Nat.lt_or_ge h1.length h.length with h5 | h5
      · have := f h1.length h5
        rw [List.getElem?_eq_getElem h5, List.getElem?_eq_none (Nat.le_refl _)] at this
        cases this
      · exact h5) (by rw [List.getElem?_append_right (by simp), List.length_set, Nat.sub_self]; rfl)
    simp only [Int.natCast_add, Int.natCast_one] at g1
    have hln := hg.1
    refine ⟨h2, id', st', out', ?_, g2, g3, g4, g5⟩
    rw [LoopK_eq]
    simp only [Wr.cells, Row.v] at e1
    simp -implicitDefEqProofs (disch := omega) only [go_sem, Nat.reduceBEq, Nat.reduceAdd, Nat.reduceSub, Nat.reduceMul, Nat.reduceLeDiff, Nat.reduceEqDiff, Nat.reduceLT, Int.reduceNeg, Int.reduceAdd, Int.reduceSub, Int.reduceMul, Int.reduceLE, Int.reduceLT, Int.reduceEq, Int.reduceToNat, reduceCtorEq, evL120x1, B120x1, hi', hx, Wr.cells, Row.v, hb, take_map_len, e1, e2, refsAs, refsA, refC, frzs, frz1, IntWalk.i64_in, List.length_set]
    exact g1
theorem ex_written {d : Nat} {h : Heap} {id st n m : Nat} (cw : Bool) {l : List Ver} {ws : List Wr} {time : Int} {X : Option (V × Heap)} (hx : callS (runD tab noExt (d + 8)) h 120 [.ref id st 0 n false, .sl cw 3 (ws.map Wr.cells), .int .i64 time] true = X)
    (hid : h[id]? = some (.rows st 4 (l.map Ver.cells))) (hn : n = l.length) (hl : GVs m l) (hm : m ≤ 800) (hw : WrsPost 5 ws) (hp : plainH h = true) :
    ∃ (out : List Ver) (ok : Bool), X = some (.tup [.ref h.length 0 0 out.length false, .bool ok], h ++ [.rows 0 4 (out.map Ver.cells)]) ∧ GVs (m + 5) out := by
  subst hx hn
  have hlm := hl.1
  have hwl := hw.1
  have hh : ∀ n, h.all (hiB n) = true := fun n => plainH_hi hp n
  have hlt : id < h.length := (List.getElem?_eq_some_iff.1 hid).1
  obtain ⟨s1, s2⟩ := hl.short
  have hv := run_versS (d + 2) false l (by omega) s1
  have hwo := run_wrsS (d + 3) cw ws (by omega) hw.shortWs
  have hb := run_l1In (d + 6) time 1 40
  have fail : ∃ (out : List Ver) (ok : Bool), (some (.tup [.ref h.length 0 0 0 false, .bool false], h ++ [.rows 0 4 []]) : Option (V × Heap)) = some (.tup [.ref h.length 0 0 out.length false, .bool ok], h ++ [.rows 0 4 (out.map Ver.cells)]) ∧ GVs (m + 5) out := ⟨[], false, rfl, by simp, fun _ h => by cases h⟩
  rw [callS_eq, runD_eq find120 _ _ _ (by simp)]
  cases c1 : versOk l
  · rw [c1] at hv
    simp -implicitDefEqProofs (disch := omega) only [go_sem, Nat.reduceBEq, Nat.reduceAdd, Nat.reduceSub, Nat.reduceMul, Nat.reduceLeDiff, Nat.reduceEqDiff, Nat.reduceLT, Int.reduceNeg, Int.reduceAdd, Int.reduceSub, Int.reduceMul, Int.reduceLE, Int.reduceLT, Int.reduceEq, Int.reduceToNat, reduceCtorEq, hid, take_map_len, hv, elemsOf, frzs, hh, take_same, List.append_nil]
    exact fail
  rw [c1] at hv
  cases c2 : wrsOk ws
  · rw [c2] at hwo
    simp -implicitDefEqProofs (disch := omega) only [go_sem, Nat.reduceBEq, Nat.reduceAdd, Nat.reduceSub, Nat.reduceMul, Nat.reduceLeDiff, Nat.reduceEqDiff, Nat.reduceLT, Int.reduceNeg, Int.reduceAdd, Int.reduceSub, Int.reduceMul, Int.reduceLE, Int.reduceLT, Int.reduceEq, Int.reduceToNat, reduceCtorEq, hid, take_map_len, hv, hwo, elemsOf, frzs, hh, take_same, List.append_nil]
    exact fail
  rw [c2] at hwo
  by_cases c3 : 1 ≤ time ∧ time ≤ 40
  rotate_left
  · simp -implicitDefEqProofs (disch := omega) only [go_sem, Nat.reduceBEq, Nat.reduceAdd, Nat.reduceSub, Nat.reduceMul, Nat.reduceLeDiff, Nat.reduceEqDiff, Nat.reduceLT, Int.reduceNeg, Int.reduceAdd, Int.reduceSub, Int.reduceMul, Int.reduceLE, Int.reduceLT, Int.reduceEq, Int.reduceToNat, reduceCtorEq, hid, take_map_len, hv, hwo, hb, (eq_false c3 : (1 ≤ time ∧ time ≤ 40) = False), elemsOf, frzs, hh, take_same, List.append_nil]
    exact fail
  simp -implicitDefEqProofs (disch := omega) only [go_sem, Nat.reduceBEq, Nat.reduceAdd, Nat.reduceSub, Nat.reduceMul, Nat.reduceLeDiff, Nat.reduceEqDiff, Nat.reduceLT, Int.reduceNeg, Int.reduceAdd, Int.reduceSub, Int.reduceMul, Int.reduceLE, Int.reduceLT, Int.reduceEq, Int.reduceToNat, reduceCtorEq, hid, take_map_len, hv, hwo, hb, (eq_true c3 : (1 ≤ time ∧ time ≤ 40) = True)]
  have hl0 := loop_written0 (d := d + 1) cw l ws time hid rfl (by omega) s1 5 0 1099511627775 (by omega) (by omega)
  simp only [Int.natCast_zero] at hl0
  rcases hl0 with hl0 | hl0
  rotate_left
  · rw [hl0]
    simp -implicitDefEqProofs (disch := omega) only [go_sem, Nat.reduceBEq, Nat.reduceAdd, Nat.reduceSub, Nat.reduceMul, Nat.reduceLeDiff, Nat.reduceEqDiff, Nat.reduceLT, Int.reduceNeg, Int.reduceAdd, Int.reduceSub, Int.reduceMul, Int.reduceLE, Int.reduceLT, Int.reduceEq, Int.reduceToNat, reduceCtorEq, elemsOf, frzs, hh, take_same, List.append_nil]
    exact fail
  rw [hl0]
  have hcp := ex_copy13 (d := d + 5) l hid rfl (by omega) s2 hp
  simp -implicitDefEqProofs (disch := omega) only [go_sem, Nat.reduceBEq, Nat.reduceAdd, Nat.reduceSub, Nat.reduceMul, Nat.reduceLeDiff, Nat.reduceEqDiff, Nat.reduceLT, Int.reduceNeg, Int.reduceAdd, Int.reduceSub, Int.reduceMul, Int.reduceLE, Int.reduceLT, Int.reduceEq, Int.reduceToNat, reduceCtorEq, hcp]
  obtain ⟨h2, id', st', out', g1, g2, g3, g4, g5⟩ := loop_written1 (d := d + 4) (h := h) cw ws time hw (n := m) (by omega) ws.length 0 1099511627775 (h1 := h ++ [.rows 0 4 ((l.map Ver.plain).map Ver.cells)]) (id := h.length) (st := 0) (out := l.map Ver.plain) (by omega) (by omega) (by
    refine ⟨by simp; omega, fun v hv => ?_⟩
    obtain ⟨u, hu, rfl⟩ := List.mem_map.1 hv
    exact hl.2 u hu) (fun k hk => List.getElem?_append_left hk) (Nat.le_refl _) (by simp)
  simp only [Int.natCast_zero, List.length_map] at g1
  rw [g1]
  have htk := take_frame g3
  have hge : ¬ id' < h.length := by omega
  have hout := g2.1
  by_cases c4 : (60 : Int) < out'.length
  · simp -implicitDefEqProofs (disch := omega) only [go_sem, Nat.reduceBEq, Nat.reduceAdd, Nat.reduceSub, Nat.reduceMul, Nat.reduceLeDiff, Nat.reduceEqDiff, Nat.reduceLT, Int.reduceNeg, Int.reduceAdd, Int.reduceSub, Int.reduceMul, Int.reduceLE, Int.reduceLT, Int.reduceEq, Int.reduceToNat, reduceCtorEq, (eq_true c4 : ((60 : Int) < out'.length) = True), elemsOf, frzs, hh, htk, List.append_nil]
    exact fail
  · simp -implicitDefEqProofs (disch := omega) only [go_sem, Nat.reduceBEq, Nat.reduceAdd, Nat.reduceSub, Nat.reduceMul, Nat.reduceLeDiff, Nat.reduceEqDiff, Nat.reduceLT, Int.reduceNeg, Int.reduceAdd, Int.reduceSub, Int.reduceMul, Int.reduceLE, Int.reduceLT, Int.reduceEq, Int.reduceToNat, reduceCtorEq, (eq_false c4 : ((60 : Int) < out'.length) = False), hh, htk, hge, g5, take_map_len]
    exact ⟨out', true, rfl, by omega, g2.2⟩
end Go.Proofs.Ytfbjbkkcilhgjaa.PE
/- The reader is opened; a fixed answer. -/
set_option linter.unusedSimpArgs false
set_option linter.unusedVariables false
set_option maxHeartbeats 4000000
namespace Go.Proofs.Ytfbjbkkcilhgjaa.PE
open Go.RowKit

theorem ofBytes_take (l : List UInt8) (k : Nat) : (cellsOfBytes l).take k = cellsOfBytes (l.take k) := by simp [cellsOfBytes, List.map_take]
-- find55
theorem ex_open {d : Nat} {h : Heap} {c : Bool} {l : List UInt8} {X : Option (V × Heap)} (hx : callS (runD tab noExt (d + 1)) h 55 [.sl c 1 (cellsOfBytes l)] true = X) (hh : plainH h = true) :
    ∃ (c' : Bool) (bs : List UInt8), X = some (.ptr h.length 0 0 0, h ++ [.box [.sl c' 1 (cellsOfBytes bs), .int .i64 0]]) ∧ bs.length ≤ 2000 := by
  subst hx
  have hh : ∀ n, h.all (hiB n) = true := fun n => plainH_hi hh n
  rw [callS_eq, runD_eq find55 _ _ _ (by simp)]
  by_cases h1 : (2000 : Int) < l.length
  · have h2 : (2000 : Int) ≤ l.length := by omega
    have h3 : ((2000 : Int) = l.length) = False := eq_false (by omega)
    simp -implicitDefEqProofs (disch := omega) only [go_sem, Nat.reduceBEq, Nat.reduceAdd, Nat.reduceSub, Nat.reduceMul, Nat.reduceLeDiff, Nat.reduceEqDiff, Nat.reduceLT, Int.reduceNeg, Int.reduceAdd, Int.reduceSub, Int.reduceMul, Int.reduceLE, Int.reduceLT, Int.reduceEq, Int.reduceToNat, reduceCtorEq, hh, List.all_append, ofBytes_len, h1, h2, h3, Option.getD_some, Option.isSome_none, Option.isSome_some, Option.isNone_some, List.drop_zero, ofBytes_take, Nat.sub_zero, Int.toNat_zero, Nat.le_refl, Int.le_refl]
    exact ⟨_, _, rfl, by simp; omega⟩
  · simp -implicitDefEqProofs (disch := omega) only [go_sem, Nat.reduceBEq, Nat.reduceAdd, Nat.reduceSub, Nat.reduceMul, Nat.reduceLeDiff, Nat.reduceEqDiff, Nat.reduceLT, Int.reduceNeg, Int.reduceAdd, Int.reduceSub, Int.reduceMul, Int.reduceLE, Int.reduceLT, Int.reduceEq, Int.reduceToNat, reduceCtorEq, hh, List.all_append, ofBytes_len, h1, Nat.le_refl]
    exact ⟨_, _, rfl, by omega⟩

-- find18
theorem run_alive (d : Nat) : retP (runD tab noExt (d + 5)) 18 [] = some [.bool true] := by
  rw [retP, runD_eq find18 _ _ _ (by simp)]
  simp -implicitDefEqProofs (disch := omega) only [go_sem, Nat.reduceBEq, Nat.reduceAdd, Nat.reduceSub, Nat.reduceMul, Nat.reduceLeDiff, Nat.reduceEqDiff, Nat.reduceLT, Int.reduceNeg, Int.reduceAdd, Int.reduceSub, Int.reduceMul, Int.reduceLE, Int.reduceLT, Int.reduceEq, Int.reduceToNat, reduceCtorEq, run_ValueOk]
  have h1 : Val.ok ⟨1, 3, ⟨#[]⟩⟩ = true := rfl
  have h2 : Val.ok ⟨9, 0, ⟨#[]⟩⟩ = false := rfl
  simp -implicitDefEqProofs only [go_sem, Nat.reduceBEq, Nat.reduceAdd, Nat.reduceSub, Nat.reduceMul, Nat.reduceLeDiff, Nat.reduceEqDiff, Nat.reduceLT, Int.reduceNeg, Int.reduceAdd, Int.reduceSub, Int.reduceMul, Int.reduceLE, Int.reduceLT, Int.reduceEq, Int.reduceToNat, reduceCtorEq, h1, h2, run_ValueOk]

end Go.Proofs.Ytfbjbkkcilhgjaa.PE
/- Versions that are drawn, and a time. -/
set_option linter.unusedSimpArgs false
set_option linter.unusedVariables false
set_option maxHeartbeats 4000000
namespace Go.Proofs.Ytfbjbkkcilhgjaa.PE
open Go.RowKit

theorem map_set' {α β : Type} (f : α → β) (l : List α) (i : Nat) (x : α) : (l.map f).set i (f x) = (l.set i x).map f := (List.map_set).symm
-- find59
theorem loop_versions {d : Nat} {hp t : Heap} {c : Bool} {bs : List UInt8} {n : Int} (hb : bs.length ≤ 2000) (hhp : plainH hp = true) (ht : plainH t = true) : ∀ (j K : Nat) {p k time : Int} {s : Heap} {id st len : Nat} {l : List Ver} {Y : Out},
    LoopK (runD tab noExt (d + 8)) (drawI (runD tab noExt (d + 8))) [0, 1, 6, 7, 8] [0, 1, 6, 7] L59x0 K [(0, .ptr hp.length 0 0 0), (1, .int .i64 n), (6, .ref id st 0 len false), (7, .int .i64 time), (8, .int .i64 k)] (hp ++ .box [.sl c 1 (cellsOfBytes bs), .int .i64 (p)] :: (t ++ s)) = Y →
    k = j → j ≤ K → j ≤ 6 → len = l.length → GVs (5 * (6 - j)) l → plainH s = true → (∀ p, (hp ++ .box [.sl c 1 (cellsOfBytes bs), .int .i64 (p)] :: (t ++ s))[id]? = some (.rows st 4 (l.map Ver.cells))) → hp.length + (t.length + 1) ≤ id → 0 ≤ p → p + 25 * j ≤ 1099400000000 → 0 ≤ time → time + 3 * j ≤ 100 →
    ∃ (s' : Heap) (id' st' : Nat) (l' : List Ver) (p' time' : Int), Y = some (.exit 0, [(0, .ptr hp.length 0 0 0), (1, .int .i64 n), (6, .ref id' st' 0 l'.length false), (7, .int .i64 time')], hp ++ .box [.sl c 1 (cellsOfBytes bs), .int .i64 (p')] :: (t ++ s')) ∧ GVs 30 l' ∧ plainH s' = true ∧ (∀ p, (hp ++ .box [.sl c 1 (cellsOfBytes bs), .int .i64 (p)] :: (t ++ s'))[id']? = some (.rows st' 4 (l'.map Ver.cells))) ∧ hp.length + (t.length + 1) ≤ id' ∧ p ≤ p' ∧ p' ≤ p + 25 * j ∧ time ≤ time' ∧ time' ≤ time + 3 * j := by
  intro j
  induction j with
  | zero =>
    intro K p k time s id st len l Y hL hk hK hj hlen hl hs hget hid hp0 hq ht0 htq
    subst hL hk hlen
    rw [LoopK_eq]
    simp -implicitDefEqProofs only [go_sem, Nat.reduceBEq, Nat.reduceAdd, Nat.reduceSub, Nat.reduceMul, Nat.reduceLeDiff, Nat.reduceEqDiff, Nat.reduceLT, Int.reduceNeg, Int.reduceAdd, Int.reduceSub, Int.reduceMul, Int.reduceLE, Int.reduceLT, Int.reduceEq, Int.reduceToNat, reduceCtorEq, evL59x0, B59x0, Int.lt_irrefl, Int.natCast_zero]
    exact ⟨s, id, st, l, p, time, rfl, hl, hs, hget, hid, by omega, by omega, by omega, by omega⟩
  | succ j ih =>
    intro K p k time s id st len l Y hL hk hK hj hlen hl hs hget hid hp0 hq ht0 htq
    obtain ⟨K, rfl⟩ : ∃ K', K = K' + 1 := ⟨K - 1, by omega⟩
    subst hL hlen
    have hk0 : 0 < k := by omega
    have hts : plainH (t ++ s) = true := by rw [plainH_append, ht, hs]; rfl
    rw [LoopK_eq]
    simp -implicitDefEqProofs (disch := omega) only [go_sem, Nat.reduceBEq, Nat.reduceAdd, Nat.reduceSub, Nat.reduceMul, Nat.reduceLeDiff, Nat.reduceEqDiff, Nat.reduceLT, Int.reduceNeg, Int.reduceAdd, Int.reduceSub, Int.reduceMul, Int.reduceLE, Int.reduceLT, Int.reduceEq, Int.reduceToNat, reduceCtorEq, evL59x0, B59x0, hk0]
    generalize hx : callS (runD tab noExt _) _ 121 _ _ = X
    obtain ⟨ws, p1, rfl, w1, w2, w3⟩ := ex_writes0 hx (by omega) (by omega) hb hhp hts
    clear hx
    simp -implicitDefEqProofs (disch := omega) only [go_sem, Nat.reduceBEq, Nat.reduceAdd, Nat.reduceSub, Nat.reduceMul, Nat.reduceLeDiff, Nat.reduceEqDiff, Nat.reduceLT, Int.reduceNeg, Int.reduceAdd, Int.reduceSub, Int.reduceMul, Int.reduceLE, Int.reduceLT, Int.reduceEq, Int.reduceToNat, reduceCtorEq]
    generalize hx : callS (runD tab noExt _) _ 120 _ _ = X
    have hpl : plainH (hp ++ .box [.sl c 1 (cellsOfBytes bs), .int .i64 (p1)] :: (t ++ s)) = true := by simp only [plainH_append, plainH_cons, hhp, ht, hs, plainB, List.all_cons, List.all_nil, Bool.and_self, Bool.and_true]
    obtain ⟨out, ok, rfl, g1⟩ := ex_written (h := hp ++ .box [.sl c 1 (cellsOfBytes bs), .int .i64 (p1)] :: (t ++ s)) false hx (hget p1) rfl hl (by omega) w3 hpl
    clear hx
    have hs2 : plainH (s ++ [.rows 0 4 (out.map Ver.cells)]) = true := by simp only [plainH_append, plainH_cons, plainH_nil, hs, plainB, Bool.and_self, Bool.and_true]
    have hts2 : plainH (t ++ (s ++ [.rows 0 4 (out.map Ver.cells)])) = true := by rw [plainH_append, ht, hs2]; rfl
    have hgn : ∀ p, (hp ++ .box [.sl c 1 (cellsOfBytes bs), .int .i64 (p)] :: (t ++ (s ++ [.rows 0 4 (out.map Ver.cells)])))[hp.length + (t.length + (s.length + 1))]? = some (.rows 0 4 (out.map Ver.cells)) := by
      intro p
      have e : hp ++ .box [.sl c 1 (cellsOfBytes bs), .int .i64 (p)] :: (t ++ (s ++ [.rows 0 4 (out.map Ver.cells)])) = (hp ++ .box [.sl c 1 (cellsOfBytes bs), .int .i64 (p)] :: (t ++ s)) ++ [.rows 0 4 (out.map Ver.cells)] := by simp
      rw [e, List.getElem?_append_right (by simp <;> omega)]
      simp
      rw [show hp.length + (t.length + (s.length + 1)) - (hp.length + (t.length + s.length + 1)) = 0 by omega]
      rfl
    have hgo : ∀ p, (hp ++ .box [.sl c 1 (cellsOfBytes bs), .int .i64 (p)] :: (t ++ (s ++ [.rows 0 4 (out.map Ver.cells)])))[id]? = some (.rows st 4 (l.map Ver.cells)) := by
      intro p
      have e : hp ++ .box [.sl c 1 (cellsOfBytes bs), .int .i64 (p)] :: (t ++ (s ++ [.rows 0 4 (out.map Ver.cells)])) = (hp ++ .box [.sl c 1 (cellsOfBytes bs), .int .i64 (p)] :: (t ++ s)) ++ [.rows 0 4 (out.map Ver.cells)] := by simp
      have hlt := (List.getElem?_eq_some_iff.1 (hget p)).1
      rw [e, List.getElem?_append_left hlt]
      exact hget p
    cases ok <;> simp -implicitDefEqProofs (disch := omega) only [go_sem, Nat.reduceBEq, Nat.reduceAdd, Nat.reduceSub, Nat.reduceMul, Nat.reduceLeDiff, Nat.reduceEqDiff, Nat.reduceLT, Int.reduceNeg, Int.reduceAdd, Int.reduceSub, Int.reduceMul, Int.reduceLE, Int.reduceLT, Int.reduceEq, Int.reduceToNat, reduceCtorEq]
    all_goals
      generalize hx : callS (runD tab noExt _) _ 57 _ _ = X
      obtain ⟨m, rfl, hm1, hm2⟩ := ex_pick hx (by omega) (by omega) hb hhp hts2
      clear hx
      simp -implicitDefEqProofs (disch := omega) only [go_sem, Nat.reduceBEq, Nat.reduceAdd, Nat.reduceSub, Nat.reduceMul, Nat.reduceLeDiff, Nat.reduceEqDiff, Nat.reduceLT, Int.reduceNeg, Int.reduceAdd, Int.reduceSub, Int.reduceMul, Int.reduceLE, Int.reduceLT, Int.reduceEq, Int.reduceToNat, reduceCtorEq, IntWalk.i64_in]
      generalize hL : LoopK _ _ _ _ _ _ _ _ = Y
    · obtain ⟨s', id', st', l', p', time', h2, h3, h4, h5, h6, h7, h8, h9, h10⟩ := ih K hL (by omega) (by omega) (by omega) rfl ⟨by have := hl.1; omega, hl.2⟩ hs2 hgo hid (by omega) (by omega) (by omega) (by omega)
      exact ⟨s', id', st', l', p', time', h2, h3, h4, h5, h6, by omega, by omega, by omega, by omega⟩
    · obtain ⟨s', id', st', l', p', time', h2, h3, h4, h5, h6, h7, h8, h9, h10⟩ := ih K hL (by omega) (by omega) (by omega) rfl ⟨by have := g1.1; omega, g1.2⟩ hs2 hgn (by omega) (by omega) (by omega) (by omega) (by omega)
      exact ⟨s', id', st', l', p', time', h2, h3, h4, h5, h6, by omega, by omega, by omega, by omega⟩
theorem ex_versions {d : Nat} {hp t : Heap} {c : Bool} {bs : List UInt8} {p n : Int} {X : Option (V × Heap)} (hx : callS (runD tab noExt (d + 9)) (hp ++ .box [.sl c 1 (cellsOfBytes bs), .int .i64 (p)] :: t) 59 [.ptr hp.length 0 0 0, .int .i64 n] false = X)
    (hp0 : 0 ≤ p) (hq : p ≤ 1099300000000) (hb : bs.length ≤ 2000) (hhp : plainH hp = true) (ht : plainH t = true) :
    ∃ (l : List Ver) (time p' : Int), X = some (.tup [.sl false 4 (l.map Ver.cells), .int .i64 time], hp ++ .box [.sl c 1 (cellsOfBytes bs), .int .i64 (p')] :: t) ∧ p ≤ p' ∧ p' ≤ p + 200 ∧ GVs 31 l ∧ 1 ≤ time ∧ time ≤ 30 := by
  subst hx
  have hh : ∀ n, t.all (hiB n) = true := fun n => plainH_hi ht n
  have hhq : ∀ n, hp.all (hiB n) = true := fun n => plainH_hi hhp n
  rw [callS_eq, runD_eq find59 _ _ _ (by simp)]
  simp -implicitDefEqProofs (disch := omega) only [go_sem, Nat.reduceBEq, Nat.reduceAdd, Nat.reduceSub, Nat.reduceMul, Nat.reduceLeDiff, Nat.reduceEqDiff, Nat.reduceLT, Int.reduceNeg, Int.reduceAdd, Int.reduceSub, Int.reduceMul, Int.reduceLE, Int.reduceLT, Int.reduceEq, Int.reduceToNat, reduceCtorEq]
  generalize hx : callS (runD tab noExt _) _ 57 _ _ = X
  obtain ⟨m, rfl, hm1, hm2⟩ := ex_pick hx (by omega) (by omega) hb hhp (by simp only [ht, plainH_append, plainH_cons, plainH_nil, plainB, Bool.and_self, Bool.and_true])
  clear hx
  simp -implicitDefEqProofs (disch := omega) only [go_sem, Nat.reduceBEq, Nat.reduceAdd, Nat.reduceSub, Nat.reduceMul, Nat.reduceLeDiff, Nat.reduceEqDiff, Nat.reduceLT, Int.reduceNeg, Int.reduceAdd, Int.reduceSub, Int.reduceMul, Int.reduceLE, Int.reduceLT, Int.reduceEq, Int.reduceToNat, reduceCtorEq, IntWalk.i64_in]
  generalize hx : LoopK _ _ _ _ _ _ _ _ = Y
  obtain ⟨s, id, st, l, p1, time, rfl, hl, hs, hget, hid, h1, h2, h3, h4⟩ := loop_versions hb hhp ht m.toNat _ (l := []) hx (by omega) (by omega) (by omega) rfl ⟨by simp, fun _ h => by cases h⟩ (by rfl) (fun p => by
    have e : ∀ (x y : Blk), hp ++ .box [.sl c 1 (cellsOfBytes bs), .int .i64 (p)] :: (t ++ [x, y]) = (hp ++ .box [.sl c 1 (cellsOfBytes bs), .int .i64 (p)] :: t) ++ [x, y] := fun x y => by simp
    rw [e, List.getElem?_append_right (by simp <;> omega)]
    simp
    rw [show hp.length + (t.length + 2) - (hp.length + (t.length + 1)) = 1 by omega]
    rfl) (by omega) (by omega) (by omega) (by omega) (by omega)
  clear hx
  obtain ⟨T, hT⟩ : ∃ T, T = t ++ s := ⟨_, rfl⟩
  have hTt : T.take t.length = t := by rw [hT]; simp
  have hTp : plainH T = true := by rw [hT, plainH_append, ht, hs]; rfl
  rw [← hT] at hget ⊢
  have hln := hl.1
  have htkl : ∀ X p, ((hp ++ .box [.sl c 1 (cellsOfBytes bs), .int .i64 (p)] :: T).set id X).take (hp.length + (t.length + 1)) = hp ++ .box [.sl c 1 (cellsOfBytes bs), .int .i64 (p)] :: t := fun X p => by
    rw [List.take_set_of_le (by omega), take_end_add, List.take_succ_cons, hTt]
  have hgs : ∀ X p, ((hp ++ .box [.sl c 1 (cellsOfBytes bs), .int .i64 (p)] :: T).set id X)[id]? = some X := fun X p => List.getElem?_set_self (List.getElem?_eq_some_iff.1 (hget p)).1
  have hge : ¬ id < hp.length + (t.length + 1) := by omega
  have fin : ∀ (l2 : List Ver) (p' : Int), p ≤ p' → p' ≤ p + 200 → GVs 31 l2 → ∃ (l3 : List Ver) (time' p'' : Int), (some (.tup [.sl false 4 (l2.map Ver.cells), .int .i64 time], hp ++ .box [.sl c 1 (cellsOfBytes bs), .int .i64 (p')] :: t) : Option (V × Heap)) = some (.tup [.sl false 4 (l3.map Ver.cells), .int .i64 time'], hp ++ .box [.sl c 1 (cellsOfBytes bs), .int .i64 (p'')] :: t) ∧ p ≤ p'' ∧ p'' ≤ p + 200 ∧ GVs 31 l3 ∧ 1 ≤ time' ∧ time' ≤ 30 := fun l2 p' a b e => ⟨l2, time, p', rfl, a, b, e, by omega, by omega⟩
  have setG : ∀ (m : Int) (v : Ver), GS v.row.vs → GVs 31 (l.set m.toNat v) := fun m v hv => ⟨by simp; omega, fun x hx => by
    rcases List.mem_or_eq_of_mem_set hx with h | h
    · exact hl.2 x h
    · rw [h]; exact hv⟩
  have hcase : ∀ p', (hp ++ .box [.sl c 1 (cellsOfBytes bs), .int .i64 (p')] :: T).take (hp.length + (t.length + 1)) = hp ++ .box [.sl c 1 (cellsOfBytes bs), .int .i64 (p')] :: t := fun p' => by rw [take_end_add, List.take_succ_cons, hTt]
  have h1sm : l.length + 1 < 4294967296 := by omega
  by_cases h0 : (0 : Int) < l.length
  rotate_left
  · simp -implicitDefEqProofs (disch := omega) only [go_sem, Nat.reduceBEq, Nat.reduceAdd, Nat.reduceSub, Nat.reduceMul, Nat.reduceLeDiff, Nat.reduceEqDiff, Nat.reduceLT, Int.reduceNeg, Int.reduceAdd, Int.reduceSub, Int.reduceMul, Int.reduceLE, Int.reduceLT, Int.reduceEq, Int.reduceToNat, reduceCtorEq, (eq_false h0 : ((0 : Int) < l.length) = False), hh, hhq, List.all_append, hcase, hge, hget, take_map_len]
    exact fin l p1 (by omega) (by omega) ⟨by omega, hl.2⟩
  simp -implicitDefEqProofs (disch := omega) only [go_sem, Nat.reduceBEq, Nat.reduceAdd, Nat.reduceSub, Nat.reduceMul, Nat.reduceLeDiff, Nat.reduceEqDiff, Nat.reduceLT, Int.reduceNeg, Int.reduceAdd, Int.reduceSub, Int.reduceMul, Int.reduceLE, Int.reduceLT, Int.reduceEq, Int.reduceToNat, reduceCtorEq, (eq_true h0 : ((0 : Int) < l.length) = True)]
  generalize hx : callS (runD tab noExt _) _ 119 _ _ = X
  obtain ⟨b, p2, rfl, o1, o2, o3⟩ := ex_odd hx (by omega) (by omega) hb hhp hTp
  clear hx
  cases b
  · simp -implicitDefEqProofs (disch := omega) only [go_sem, Nat.reduceBEq, Nat.reduceAdd, Nat.reduceSub, Nat.reduceMul, Nat.reduceLeDiff, Nat.reduceEqDiff, Nat.reduceLT, Int.reduceNeg, Int.reduceAdd, Int.reduceSub, Int.reduceMul, Int.reduceLE, Int.reduceLT, Int.reduceEq, Int.reduceToNat, reduceCtorEq, hh, hhq, List.all_append, hcase, hge, hget, take_map_len]
    exact fin l p2 (by omega) (by omega) ⟨by omega, hl.2⟩
  simp -implicitDefEqProofs (disch := omega) only [go_sem, Nat.reduceBEq, Nat.reduceAdd, Nat.reduceSub, Nat.reduceMul, Nat.reduceLeDiff, Nat.reduceEqDiff, Nat.reduceLT, Int.reduceNeg, Int.reduceAdd, Int.reduceSub, Int.reduceMul, Int.reduceLE, Int.reduceLT, Int.reduceEq, Int.reduceToNat, reduceCtorEq]
  generalize hx : callS (runD tab noExt _) _ 57 _ _ = X
  obtain ⟨ix, rfl, i1, i2⟩ := ex_pick hx (by omega) (by omega) hb hhp hTp
  clear hx
  have hix : ix.toNat < l.length := by omega
  have hv := List.getElem?_eq_getElem hix
  have hvg := hl.2 _ (List.getElem_mem hix)
  generalize l[ix.toNat] = v at hv hvg
  have hixi : ix < l.length := by omega
  simp -implicitDefEqProofs (disch := omega) only [go_sem, Nat.reduceBEq, Nat.reduceAdd, Nat.reduceSub, Nat.reduceMul, Nat.reduceLeDiff, Nat.reduceEqDiff, Nat.reduceLT, Int.reduceNeg, Int.reduceAdd, Int.reduceSub, Int.reduceMul, Int.reduceLE, Int.reduceLT, Int.reduceEq, Int.reduceToNat, reduceCtorEq]
  generalize hx : callS (runD tab noExt _) _ 57 _ _ = X
  obtain ⟨w, rfl, j1, j2⟩ := ex_pick hx (by omega) (by omega) hb hhp hTp
  clear hx
  simp -implicitDefEqProofs (disch := omega) only [go_sem, Nat.reduceBEq, Nat.reduceAdd, Nat.reduceSub, Nat.reduceMul, Nat.reduceLeDiff, Nat.reduceEqDiff, Nat.reduceLT, Int.reduceNeg, Int.reduceAdd, Int.reduceSub, Int.reduceMul, Int.reduceLE, Int.reduceLT, Int.reduceEq, Int.reduceToNat, reduceCtorEq]
  by_cases c0 : w = 0
  · subst c0
    simp -implicitDefEqProofs (disch := omega) only [go_sem, Nat.reduceBEq, Nat.reduceAdd, Nat.reduceSub, Nat.reduceMul, Nat.reduceLeDiff, Nat.reduceEqDiff, Nat.reduceLT, Int.reduceNeg, Int.reduceAdd, Int.reduceSub, Int.reduceMul, Int.reduceLE, Int.reduceLT, Int.reduceEq, Int.reduceToNat, reduceCtorEq]
    generalize hx : callS (runD tab noExt _) _ 57 _ _ = X
    obtain ⟨q, rfl, q1, q2⟩ := ex_pick hx (by omega) (by omega) hb hhp hTp
    clear hx
    have e1 := map_set' Ver.cells l ix.toNat ⟨v.key, v.born, q - 1, v.row⟩
    simp only [Ver.cells, Row.v] at e1
    simp -implicitDefEqProofs (disch := omega) only [go_sem, Nat.reduceBEq, Nat.reduceAdd, Nat.reduceSub, Nat.reduceMul, Nat.reduceLeDiff, Nat.reduceEqDiff, Nat.reduceLT, Int.reduceNeg, Int.reduceAdd, Int.reduceSub, Int.reduceMul, Int.reduceLE, Int.reduceLT, Int.reduceEq, Int.reduceToNat, reduceCtorEq, hget, hv, Ver.cells, Row.v, IntWalk.i64_in, List.contains_nil, hgs, htkl, hh, hhq, List.all_append, hge, hixi, hix, i1, refs, refC, frzs, e1]
    have et : List.take l.length ((l.set ix.toNat ⟨v.key, v.born, q - 1, v.row⟩).map Ver.cells) = (l.set ix.toNat ⟨v.key, v.born, q - 1, v.row⟩).map Ver.cells := List.take_of_length_le (by simp)
    have := fin (l.set ix.toNat ⟨v.key, v.born, q - 1, v.row⟩) (p2 + 1 + 1 + 1) (by omega) (by omega) (setG ix _ hvg)
    try simp only [Ver.cells, Row.v] at et
    first | (rw [et]; exact this) | exact this | (simp only [Ver.cells, Row.v, Int.add_assoc, Int.reduceAdd] at this et ⊢; rw [et]; exact this)
  by_cases c1 : w = 1
  · subst c1
    simp -implicitDefEqProofs (disch := omega) only [go_sem, Nat.reduceBEq, Nat.reduceAdd, Nat.reduceSub, Nat.reduceMul, Nat.reduceLeDiff, Nat.reduceEqDiff, Nat.reduceLT, Int.reduceNeg, Int.reduceAdd, Int.reduceSub, Int.reduceMul, Int.reduceLE, Int.reduceLT, Int.reduceEq, Int.reduceToNat, reduceCtorEq]
    generalize hx : callS (runD tab noExt _) _ 57 _ _ = X
    obtain ⟨q, rfl, q1, q2⟩ := ex_pick hx (by omega) (by omega) hb hhp hTp
    clear hx
    have e1 := map_set' Ver.cells l ix.toNat ⟨q - 1, v.born, v.died, v.row⟩
    simp only [Ver.cells, Row.v] at e1
    simp -implicitDefEqProofs (disch := omega) only [go_sem, Nat.reduceBEq, Nat.reduceAdd, Nat.reduceSub, Nat.reduceMul, Nat.reduceLeDiff, Nat.reduceEqDiff, Nat.reduceLT, Int.reduceNeg, Int.reduceAdd, Int.reduceSub, Int.reduceMul, Int.reduceLE, Int.reduceLT, Int.reduceEq, Int.reduceToNat, reduceCtorEq, hget, hv, Ver.cells, Row.v, IntWalk.i64_in, List.contains_nil, hgs, htkl, hh, hhq, List.all_append, hge, hixi, hix, i1, refs, refC, frzs, e1]
    have et : List.take l.length ((l.set ix.toNat ⟨q - 1, v.born, v.died, v.row⟩).map Ver.cells) = (l.set ix.toNat ⟨q - 1, v.born, v.died, v.row⟩).map Ver.cells := List.take_of_length_le (by simp)
    have := fin (l.set ix.toNat ⟨q - 1, v.born, v.died, v.row⟩) (p2 + 1 + 1 + 1) (by omega) (by omega) (setG ix _ hvg)
    try simp only [Ver.cells, Row.v] at et
    first | (rw [et]; exact this) | exact this | (simp only [Ver.cells, Row.v, Int.add_assoc, Int.reduceAdd] at this et ⊢; rw [et]; exact this)
  by_cases c2 : w = 2
  · subst c2
    simp -implicitDefEqProofs (disch := omega) only [go_sem, Nat.reduceBEq, Nat.reduceAdd, Nat.reduceSub, Nat.reduceMul, Nat.reduceLeDiff, Nat.reduceEqDiff, Nat.reduceLT, Int.reduceNeg, Int.reduceAdd, Int.reduceSub, Int.reduceMul, Int.reduceLE, Int.reduceLT, Int.reduceEq, Int.reduceToNat, reduceCtorEq]
    generalize hx : callS (runD tab noExt _) _ 57 _ _ = X
    obtain ⟨q, rfl, q1, q2⟩ := ex_pick hx (by omega) (by omega) hb hhp hTp
    clear hx
    have e1 := map_set' Ver.cells l ix.toNat ⟨v.key, q - 1, v.died, v.row⟩
    simp only [Ver.cells, Row.v] at e1
    simp -implicitDefEqProofs (disch := omega) only [go_sem, Nat.reduceBEq, Nat.reduceAdd, Nat.reduceSub, Nat.reduceMul, Nat.reduceLeDiff, Nat.reduceEqDiff, Nat.reduceLT, Int.reduceNeg, Int.reduceAdd, Int.reduceSub, Int.reduceMul, Int.reduceLE, Int.reduceLT, Int.reduceEq, Int.reduceToNat, reduceCtorEq, hget, hv, Ver.cells, Row.v, IntWalk.i64_in, List.contains_nil, hgs, htkl, hh, hhq, List.all_append, hge, hixi, hix, i1, refs, refC, frzs, e1]
    have et : List.take l.length ((l.set ix.toNat ⟨v.key, q - 1, v.died, v.row⟩).map Ver.cells) = (l.set ix.toNat ⟨v.key, q - 1, v.died, v.row⟩).map Ver.cells := List.take_of_length_le (by simp)
    have := fin (l.set ix.toNat ⟨v.key, q - 1, v.died, v.row⟩) (p2 + 1 + 1 + 1) (by omega) (by omega) (setG ix _ hvg)
    try simp only [Ver.cells, Row.v] at et
    first | (rw [et]; exact this) | exact this | (simp only [Ver.cells, Row.v, Int.add_assoc, Int.reduceAdd] at this et ⊢; rw [et]; exact this)
  have ea : List.map Ver.cells l ++ [v.cells] = (l ++ [v]).map Ver.cells := by simp
  simp only [Ver.cells, Row.v] at ea
  simp -implicitDefEqProofs (disch := omega) only [go_sem, Nat.reduceBEq, Nat.reduceAdd, Nat.reduceSub, Nat.reduceMul, Nat.reduceLeDiff, Nat.reduceEqDiff, Nat.reduceLT, Int.reduceNeg, Int.reduceAdd, Int.reduceSub, Int.reduceMul, Int.reduceLE, Int.reduceLT, Int.reduceEq, Int.reduceToNat, reduceCtorEq, hget, hv, Ver.cells, Row.v, (eq_false c0 : (w = 0) = False), (eq_false c1 : (w = 1) = False), (eq_false c2 : (w = 2) = False), h1sm, hgs, htkl, hh, hhq, List.all_append, hge, hixi, hix, i1, elemsOf, elemOf, refsV, refs, refC, frzs, listOf, ea]
  have et : List.take (l.length + 1) ((l ++ [v]).map Ver.cells) = (l ++ [v]).map Ver.cells := List.take_of_length_le (by simp)
  have := fin (l ++ [v]) (p2 + 1 + 1) (by omega) (by omega) ⟨by simp; omega, fun x hx => by
    rcases List.mem_append.1 hx with h | h
    · exact hl.2 x h
    · rw [List.mem_singleton.1 h]; exact hvg⟩
  try simp only [Ver.cells, Row.v] at et
  first | (rw [et]; exact this) | exact this | (simp only [Ver.cells, Row.v, Int.add_assoc, Int.reduceAdd] at this et ⊢; rw [et]; exact this)
end Go.Proofs.Ytfbjbkkcilhgjaa.PE
/- The row that a key has at a time, and the rows at a time: the program's. -/
set_option linter.unusedVariables false
set_option linter.unusedSimpArgs false
set_option maxHeartbeats 4000000
namespace Go.Proofs.Ytfbjbkkcilhgjaa.PE
open Go.RowKit

-- find81
theorem run_seenI (d : Nat) (c : Bool) (l : List Ver) (key time : Int) (hs : l.length < 1099511627776) (hsh : ShortVs l) (hfn : ∀ v ∈ l, v.row.vs.length < 4294967296) : ∃ cl, retP (runD tab noExt (d + 9)) 81 [.sl c 4 (l.map Ver.cells), .int .i64 key, .int .i64 time] = some [.sl cl 3 (((rowAt l key time).getD Ver.zero).row.vs.map Val.cells), .bool (rowAt l key time).isSome] := by
  rw [retP, runD_eq find81 _ _ _ (by simp)]
  have hv := run_versI d c l hs hsh
  have hse := run_seen (d + 7) c l key time hs
  have hmem : ∀ v, l.find? (Ver.at key time) = some v → v ∈ l := fun v hv => List.mem_of_find?_eq_some hv
  unfold rowAt
  cases hok : versOk l
  · rw [hok] at hv
    exact ⟨true, by simp -implicitDefEqProofs (disch := omega) only [go_sem, Nat.reduceBEq, Nat.reduceAdd, Nat.reduceSub, Nat.reduceMul, Nat.reduceLeDiff, Nat.reduceEqDiff, Nat.reduceLT, Int.reduceNeg, Int.reduceAdd, Int.reduceSub, Int.reduceMul, Int.reduceLE, Int.reduceLT, Int.reduceEq, Int.reduceToNat, reduceCtorEq, hv, Option.getD_none, Option.isSome_none, Ver.zero, List.map_nil]⟩
  · rw [hok] at hv
    generalize hw : (l.find? (Ver.at key time)) = o at hse hmem ⊢
    have hlen : (o.getD Ver.zero).row.vs.length < 4294967296 := by
      cases o with
      | none => simp [Ver.zero]
      | some v => exact hfn v (hmem v rfl)
    simp only [if_true]
    generalize o.getD Ver.zero = w at hse hlen ⊢
    clear hw hmem
    obtain ⟨key', born, died, ⟨rc, vs⟩⟩ := w
    try simp only at hlen
    try simp only [if_true]
    cases vs with
    | nil =>
      have hcl := clonenVal (d + 6) [.box [.int .i64 key', .int .i64 born, .int .i64 died, .sl rc 3 []]] rc
      exact ⟨true, by simp -implicitDefEqProofs (disch := omega) only [go_sem, Nat.reduceBEq, Nat.reduceAdd, Nat.reduceSub, Nat.reduceMul, Nat.reduceLeDiff, Nat.reduceEqDiff, Nat.reduceLT, Int.reduceNeg, Int.reduceAdd, Int.reduceSub, Int.reduceMul, Int.reduceLE, Int.reduceLT, Int.reduceEq, Int.reduceToNat, reduceCtorEq, hv, hse, Ver.cells, Row.v, List.map_nil, hcl]⟩
    | cons x r =>
      have hcl := clonexVal (d + 6) [.box [.int .i64 key', .int .i64 born, .int .i64 died, .sl rc 3 ((x :: r).map Val.cells)]] rc ((x :: r).map Val.cells) (by simp) (by simpa using hlen) (by simp [Val.cells, freshC])
      simp only [List.length_map, List.length_cons, List.map_cons, Val.cells] at hcl
      exact ⟨true, by simp -implicitDefEqProofs (disch := omega) only [go_sem, Nat.reduceBEq, Nat.reduceAdd, Nat.reduceSub, Nat.reduceMul, Nat.reduceLeDiff, Nat.reduceEqDiff, Nat.reduceLT, Int.reduceNeg, Int.reduceAdd, Int.reduceSub, Int.reduceMul, Int.reduceLE, Int.reduceLT, Int.reduceEq, Int.reduceToNat, reduceCtorEq, hv, hse, Ver.cells, Row.v, List.map_cons, Val.cells, hcl]⟩
def addRowI (l : List Ver) (time : Int) (b : List Row) (k : Int) : List Row := match l.find? (Ver.at k time) with
  | some v => b ++ [v.row]
  | none => b
end Go.Proofs.Ytfbjbkkcilhgjaa.PE
/- The law of rows at a time. -/
set_option linter.unusedSimpArgs false
set_option linter.unusedVariables false
set_option maxHeartbeats 4000000
namespace Go.Proofs.Ytfbjbkkcilhgjaa.PE
open Go.RowKit

def cnt1 (l : List Ver) (time : Int) (n : Int) (k : Int) : Int := if (rowAt l k time).isSome then n + 1 else n
def turn1 (t : Int) (b : Bool) (v : Ver) : Bool := b || (decide (v.born = t + 1) || decide (v.died = t + 1))
end Go.Proofs.Ytfbjbkkcilhgjaa.PE
