/- Loops over lists. -/
import Derived.Test.YtfbjbkkcilhgjaaPeX
namespace Go.Proofs.Ytfbjbkkcilhgjaa.PE

/-- From an index on to the end. -/
theorem drop_to {α : Type} (l : List α) (M : Nat → List α → Prop) (h0 : M l.length []) (h1 : ∀ i x r, i < l.length → l[i]? = some x → M (i + 1) r → M i (x :: r)) : ∀ rest i, l.drop i = rest → i ≤ l.length → M i rest
  | [], i, hd, hi => by
    have := List.drop_eq_nil_iff.1 hd
    have e : i = l.length := by omega
    subst e
    exact h0
  | x :: r, i, hd, hi => by
    have hlt : i < l.length := by
      rcases Nat.lt_or_ge i l.length with h2 | h2
      · exact h2
      · rw [List.drop_eq_nil_of_le h2] at hd; cases hd
    have hx : l[i]? = some x := by rw [← List.head?_drop, hd]; rfl
    have hr : l.drop (i + 1) = r := by rw [← List.drop_drop, hd]; rfl
    exact h1 i x r hlt hx (drop_to l M h0 h1 r (i + 1) hr (by omega))

section
variable {run : Run} {draw : Draw} {live out : List Nat} {c : C} {n0 : Nat}
/-- A loop over a list, by what it comes to from an element on. -/
theorem LoopS_rec {α β : Type} (l : List α) (E : Nat → β → Env) (H : Nat → β → Heap) (rec : List α → β → Out)
    (h0 : ∀ b K, LoopS run draw live out c n0 K (E l.length b) (H l.length b) = rec [] b)
    (h1 : ∀ (i : Nat) x r b K, (i : Int) < l.length → l[i]? = some x → i + r.length + 1 = l.length → (∀ b', LoopS run draw live out c n0 K (E (i + 1) b') (H (i + 1) b') = rec r b') → LoopS run draw live out c n0 (K + 1) (E i b) (H i b) = rec (x :: r) b)
    (K : Nat) (hK : l.length ≤ K) (b : β) : LoopS run draw live out c n0 K (E 0 b) (H 0 b) = rec l b := by
  have key := drop_to l (fun i rest => i + rest.length = l.length → ∀ K b, rest.length ≤ K → LoopS run draw live out c n0 K (E i b) (H i b) = rec rest b)
    (fun _ K b _ => h0 b K) (fun i x r hi hx ih he K b hK => by
      obtain ⟨K, rfl⟩ : ∃ K', K = K' + 1 := ⟨K - 1, by simp at hK; omega⟩
      exact h1 i x r b K (by omega) hx (by simp at he; omega) (fun b' => ih (by simp at he; omega) K b' (by simp at hK; omega))) l 0 rfl (Nat.zero_le _)
  exact key (by simp) K b hK
/-- A loop that ends early at an element that fails. -/
theorem LoopS_all {α : Type} (l : List α) (P : α → Bool) (E : Nat → Env) (H : Heap) (fin R : Out)
    (h0 : ∀ K, LoopS run draw live out c n0 K (E l.length) H = fin)
    (h1 : ∀ (i : Nat) x K, (i : Int) < l.length → l[i]? = some x → LoopS run draw live out c n0 (K + 1) (E i) H = if P x then LoopS run draw live out c n0 K (E (i + 1)) H else R)
    (K : Nat) (hK : l.length ≤ K) : LoopS run draw live out c n0 K (E 0) H = if l.all P then fin else R := by
  have key := LoopS_rec (run := run) (draw := draw) (live := live) (out := out) (c := c) (n0 := n0) l (fun i (_ : Unit) => E i) (fun _ _ => H) (fun r _ => if r.all P then fin else R)
    (fun _ K => by simpa using h0 K) (fun i x r _ K hi hx _ ih => by
      rw [h1 i x K hi hx, ih ()]
      cases hp : P x <;> simp [hp]) K hK ()
  exact key
/-- A loop that ends early at an element that fails; at each element all ahead of it held. -/
theorem LoopS_allP {α : Type} (l : List α) (P : α → Bool) (E : Nat → Env) (H : Heap) (fin R : Out)
    (h0 : ∀ K, LoopS run draw live out c n0 K (E l.length) H = fin)
    (h1 : ∀ (i : Nat) x K, (i : Int) < l.length → l[i]? = some x → (∀ j y, j < i → l[j]? = some y → P y = true) → LoopS run draw live out c n0 (K + 1) (E i) H = if P x then LoopS run draw live out c n0 K (E (i + 1)) H else R)
    (K : Nat) (hK : l.length ≤ K) : LoopS run draw live out c n0 K (E 0) H = if l.all P then fin else R := by
  have key := drop_to l (fun i rest => (∀ j y, j < i → l[j]? = some y → P y = true) → ∀ K, rest.length ≤ K → LoopS run draw live out c n0 K (E i) H = if rest.all P then fin else R)
    (fun _ K _ => by simpa using h0 K) (fun i x r hi hx ih hp K hK => by
      obtain ⟨K, rfl⟩ : ∃ K', K = K' + 1 := ⟨K - 1, by simp at hK; omega⟩
      rw [h1 i x K (by omega) hx hp]
      cases hpx : P x
      · simp [hpx]
      · have := ih (fun j y hj hy => by
          rcases Nat.lt_or_ge j i with h | h
          · exact hp j y h hy
          · have e : j = i := by omega
            subst e
            rw [hx] at hy
            injection hy with hy
            subst hy
            exact hpx) K (by simp at hK; omega)
        rw [if_pos rfl, this]
        simp [hpx]) l 0 rfl (Nat.zero_le _)
  exact key (fun j y hj => by omega) K hK
/-- A loop that gathers. -/
theorem LoopS_fold {α β : Type} (l : List α) (f : β → α → β) (E : Nat → β → Env) (H : Nat → β → Heap) (fin : β → Out)
    (h0 : ∀ b K, LoopS run draw live out c n0 K (E l.length b) (H l.length b) = fin b)
    (h1 : ∀ (i : Nat) x b K, (i : Int) < l.length → l[i]? = some x → LoopS run draw live out c n0 (K + 1) (E i b) (H i b) = LoopS run draw live out c n0 K (E (i + 1) (f b x)) (H (i + 1) (f b x)))
    (K : Nat) (hK : l.length ≤ K) (b : β) : LoopS run draw live out c n0 K (E 0 b) (H 0 b) = fin (l.foldl f b) := by
  refine LoopS_rec l E H (fun r b => fin (r.foldl f b)) h0 (fun i x r b K hi hx _ ih => ?_) K hK b
  rw [h1 i x b K hi hx, ih]
  rfl
/-- The same with what holds of what is gathered. -/
theorem LoopS_foldI {α β : Type} (l : List α) (f : β → α → β) (Inv : Nat → β → Prop) (E : Nat → β → Env) (H : Nat → β → Heap) (fin : β → Out)
    (h0 : ∀ b K, Inv l.length b → LoopS run draw live out c n0 K (E l.length b) (H l.length b) = fin b)
    (h1 : ∀ (i : Nat) x b K, (i : Int) < l.length → l[i]? = some x → Inv i b → Inv (i + 1) (f b x) ∧ LoopS run draw live out c n0 (K + 1) (E i b) (H i b) = LoopS run draw live out c n0 K (E (i + 1) (f b x)) (H (i + 1) (f b x)))
    (K : Nat) (hK : l.length ≤ K) (b : β) (hb : Inv 0 b) : LoopS run draw live out c n0 K (E 0 b) (H 0 b) = fin (l.foldl f b) ∧ Inv l.length (l.foldl f b) := by
  have key := drop_to l (fun i rest => ∀ K b, rest.length ≤ K → Inv i b → LoopS run draw live out c n0 K (E i b) (H i b) = fin (rest.foldl f b) ∧ Inv l.length (rest.foldl f b))
    (fun K b _ hb => ⟨h0 b K hb, hb⟩) (fun i x r hi hx ih K b hK hb => by
      obtain ⟨K, rfl⟩ : ∃ K', K = K' + 1 := ⟨K - 1, by simp at hK; omega⟩
      obtain ⟨g1, g2⟩ := h1 i x b K (by omega) hx hb
      rw [g2]
      exact ih K (f b x) (by simp at hK; omega) g1) l 0 rfl (Nat.zero_le _)
  exact key K b hK hb
end
theorem map_at {α β : Type} {l : List α} {i : Nat} {x : α} (f : α → β) (h : l[i]? = some x) : (l.map f)[i]? = some (f x) := by rw [List.getElem?_map, h]; rfl
end Go.Proofs.Ytfbjbkkcilhgjaa.PE
