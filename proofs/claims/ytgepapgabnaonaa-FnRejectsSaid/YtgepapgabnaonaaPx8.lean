/- Laws of truths over expressions that are put together. -/
import Derived.Test.YtgepapgabnaonaaPx7
import Derived.Test.YtgepapgabnaonaaPy6
set_option linter.unusedSimpArgs false
set_option linter.unusedVariables false
set_option maxHeartbeats 4000000
namespace Go.Proofs.Ytgepapgabnaonaa.PE
open Go.RowKit

/-- An expression that has a value. -/
def Has (cs : List Col) (row : List Val) (kd : Int) (e : List Prt) (v : Val) : Prop := Puts cs kd e ∧ TyOk kd v ∧ ∀ st, runStp (evS row) st e = some (st ++ [v])
theorem Has.val {cs : List Col} {row : List Val} {kd : Int} {e : List Prt} {v : Val} (h : Has cs row kd e v) (hf : fitsRow cs row = true) (hl : e.length ≤ 12) (h0 : 0 ≤ kd) : exprVal cs row e = v := by
  have hc : colsOk cs = true := by simp only [fitsRow, Bool.and_eq_true] at hf; exact hf.1.1.1
  have hk : exprKind cs e = kd := by
    unfold exprKind
    have := h.1.1 []
    simp only [List.nil_append] at this
    rw [if_pos hc, if_neg (by omega), this]
  have hv := h.2.2 []
  simp only [List.nil_append] at hv
  unfold exprVal
  rw [hk, if_neg (by omega), if_pos hf]
  simp [evExpr, hv]
theorem Has.two {cs : List Col} {row : List Val} {a b : Int} {e f : List Prt} {v w : Val} {k n r : Int} (he : Has cs row a e v) (hf' : Has cs row b f w) (hk : k = 3 ∨ k = 4 ∨ k = 5 ∨ k = 6) (ht : Prt.tells cs.length (z3 k n) = true) (hkd : kindOf cs (z3 k n) [a, b] = (r, true)) (hty : TyOk r (val2 k n v w)) : Has cs row r (e ++ f ++ [z3 k n]) (val2 k n v w) := by
  have htk : (z3 k n).takes = 2 := by rcases hk with rfl | rfl | rfl | rfl <;> rfl
  refine ⟨Puts.two he.1 hf'.1 ht htk hkd (z3_size _ _), hty, fun st => ?_⟩
  rw [runStp_append, runStp_append, he.2.2]
  simp only []
  rw [hf'.2.2]
  have hz : (z3 k n).kind = k := rfl
  have hz' : (z3 k n).n = n := rfl
  simp only [runStp, evS, hz, hz']
  rw [if_pos hk, if_pos (by simp)]
  simp
theorem Has.one {cs : List Col} {row : List Val} {a : Int} {e : List Prt} {v : Val} {k r : Int} (he : Has cs row a e v) (hk : k = 7 ∨ k = 8) (hkd : kindOf cs (z3 k 0) [a] = (r, true)) (hty : TyOk r (val1 k v)) : Has cs row r (e ++ [z3 k 0]) (val1 k v) := by
  have ht : Prt.tells cs.length (z3 k 0) = true := by rcases hk with rfl | rfl <;> rfl
  have htk : (z3 k 0).takes = 1 := by rcases hk with rfl | rfl <;> rfl
  refine ⟨Puts.one he.1 ht htk hkd (z3_size _ _), hty, fun st => ?_⟩
  rw [runStp_append, he.2.2]
  have hz : (z3 k 0).kind = k := rfl
  simp only [runStp, evS, hz]
  rw [if_neg (by omega), if_pos hk, if_pos (by simp)]
  simp
theorem truth_of {v : Val} (h : TyOk 3 v) : v = valT (truthV v) ∧ (truthV v = 0 ∨ truthV v = 1 ∨ truthV v = 2) := by
  obtain ⟨k, n, s⟩ := v
  obtain ⟨h1, h2⟩ := h
  rcases h2 with h2 | h2
  · dsimp only at h2
    subst h2
    have h3 := h1
    simp [Val.ok] at h3
    obtain ⟨rfl, h4, h5⟩ := h3
    have e : truthV ⟨3, n, ⟨#[]⟩⟩ = n := by simp [truthV, h1]
    rw [e]
    exact ⟨by simp [valT, h4, h5], by omega⟩
  · dsimp only at h2
    subst h2
    have h3 := h1
    simp [Val.ok] at h3
    obtain ⟨rfl, rfl⟩ := h3
    have e : truthV ⟨0, 0, ⟨#[]⟩⟩ = 2 := by simp [truthV, h1]
    rw [e]
    exact ⟨by simp [valT, Val.zero], .inr (.inr rfl)⟩
theorem truth_val {t : Int} (h : t = 0 ∨ t = 1 ∨ t = 2) : truthV (valT t) = t := by
  rcases h with rfl | rfl | rfl <;> decide +kernel
theorem fold_in {a b c : Int} (ha : a = 0 ∨ a = 1 ∨ a = 2) (hb : b = 0 ∨ b = 1 ∨ b = 2) (hc : c = 0 ∨ c = 1) : foldT a b c = 0 ∨ foldT a b c = 1 ∨ foldT a b c = 2 := by
  rcases ha with rfl | rfl | rfl <;> rcases hb with rfl | rfl | rfl <;> rcases hc with rfl | rfl <;> decide
theorem Has.and {cs : List Col} {row : List Val} {e f : List Prt} {v w : Val} (he : Has cs row 3 e v) (hf : Has cs row 3 f w) : Has cs row 3 (withP e f 5) (valT (foldT (truthV v) (truthV w) 0)) := Has.two he hf (.inr (.inr (.inl rfl))) rfl rfl (valT_ty _)
theorem Has.or {cs : List Col} {row : List Val} {e f : List Prt} {v w : Val} (he : Has cs row 3 e v) (hf : Has cs row 3 f w) : Has cs row 3 (withP e f 6) (valT (foldT (truthV v) (truthV w) 1)) := Has.two he hf (.inr (.inr (.inr rfl))) rfl rfl (valT_ty _)
theorem Has.not {cs : List Col} {row : List Val} {e : List Prt} {v : Val} (he : Has cs row 3 e v) : Has cs row 3 (withP e [] 7) (valT (notT (truthV v))) := by
  have h := Has.one he (.inl rfl) rfl (valT_ty (notT (truthV v)))
  have e : val1 7 v = valT (notT (truthV v)) := rfl
  rw [e] at h
  simpa [withP] using h
/-- What is asked for anyway adds nothing. -/
theorem absorb {cs : List Col} {row : List Val} {a b : List Prt} (hf : fitsRow cs row = true) (ha : Puts cs 3 a) (hb : Puts cs 3 b) (hl : (withP a (withP a b 6) 5).length ≤ 12) : exprVal cs row (withP a (withP a b 6) 5) = exprVal cs row a := by
  obtain ⟨v, v1, v2⟩ := puts_val hf ha
  obtain ⟨w, w1, w2⟩ := puts_val hf hb
  have h1 : Has cs row 3 a v := ⟨ha, v1, v2⟩
  have h2 : Has cs row 3 b w := ⟨hb, w1, w2⟩
  rw [(h1.and (h1.or h2)).val hf hl (by decide), h1.val hf (by simp [withP] at hl; omega) (by decide)]
  obtain ⟨e1, t1⟩ := truth_of v1
  obtain ⟨e2, t2⟩ := truth_of w1
  rw [truth_val (fold_in t1 t2 (.inr rfl))]
  conv => rhs; rw [e1]
  congr 1
  generalize truthV v = x at t1
  generalize truthV w = y at t2
  rcases t1 with rfl | rfl | rfl <;> rcases t2 with rfl | rfl | rfl <;> decide
end Go.Proofs.Ytgepapgabnaonaa.PE
