/- The statement FnExactTalliesRows: whatever values come in, the call answers true and leaves them as they were. No condition. -/
import Derived.Test.YtfbjbkkcilhgjaaG0
import Derived.Test.YtfbjbkkcilhgjaaRows
import Derived.Test.YtfbjbkkcilhgjaaChecked
import Derived.WalkKit
import Derived.ProofKit
import Derived.OpenShut
import Derived.ShutString
import Derived.ChangeOld
import Derived.Below
import Derived.SizedLaws
namespace Go.Proofs.Ytfbjbkkcilhgjaa.fnExactTalliesRows
open Go.ChangeShapes Go.WideShapes Go.ChangeAt Go.RowKit Go.Proofs.Ytfbjbkkcilhgjaa.PE
open Go.ChangeMaps (open_string shut_string)
set_option linter.unusedVariables false
theorem own : ownKnob Try.prog.godebug = none := by kernel_rfl
theorem laidOut : laidOutB Try.prog = true := by kernel_rfl
theorem repA {w : World} {im : Nat → Prop} {u : Value} {x : V} (h : Rep w im u x) : RepA w im u x := by cases h <;> first | exact .int _ _ | exact .bool _ | exact .str _ | (apply Rep.sl <;> assumption)
theorem walk (w : World) (v0 : Value) (h0 : ∃ p xs, Rep w (fun b => b < w.heap.size) v0 p ∧ PurF (.sub fdTally) p (.sub xs) ∧ LenF B63 B63 (.sub fdTally) (.sub xs)) : Calls Try.prog 5 #[v0] w fun e w' => e = .returned (.bool true) ∧ Below w.heap.size w w' := by
  obtain ⟨p0, x0, r0, g0, b0⟩ := h0
  obtain ⟨d, h1, hrun⟩ := law_FnExactTalliesRows g0 b0
  refine law_of tab_ok noExt_ok.1 noExt_ok.2 hrun rfl fun i x hx => ?_
  match i, hx with
  | 0, hx => simp at hx; subst hx; exact ⟨_, rfl, repA r0⟩
  | i + 1, hx => simp at hx
set_option maxRecDepth 100000 in
theorem lifted (os : Os) (started : os.Started) (H : Type) (enc : TypeId × Value → H) :
    ReturnsInHanded {} Try.checked os 5 .any (Rows.fnExactTalliesRowsSpec.pre6 enc Try.prog Try.f5 Rows.fnExactTalliesRowsRow.domain false) (Rows.fnExactTalliesRowsSpec.post enc Try.prog Try.f5 false true false false) := by
  refine returnsInHanded_of_change_sized (C := Try.checked) own started (by kernel_rfl) Try.func5
    (ChangeSpec.witness6 (enc := enc) (C := Try.checked) false ⟨#[], #[.slice none 0 0], []⟩ 8 (by kernel_rfl) (by kernel_rfl) (by kernel_rfl) (by kernel_rfl)) ?_
  intro W base args ds gs before hval0 hW hcnd hsz0 _
  have hval : ∀ (j : Nat) t v, Try.f5.params[j]? = some t → args[j]? = some v → Value.okWide Try.prog W .any base t v := hval0
  have hW' := hW
  obtain ⟨p, q, hA0, hV, rfl, hfz, hnd⟩ := hW
  have hA : DataW.TrodAll enc Try.prog W 0 (fun _ => true) true Try.f5.params.toList args.toList ds p := hA0
  rw [Try.params5] at hA hval
  obtain ⟨v0, vs0, d0, ds0, p0, q0, ha0, rfl, rfl, k0, s0⟩ := trodAll_cons hA
  obtain ⟨rfl, rfl, rfl⟩ := trodAll_nil s0
  obtain rfl : args = #[v0] := by apply Array.ext'; rw [ha0]
  obtain ⟨rfl, rfl⟩ := trodVars_none hV
  obtain ⟨a0, len0, cap0, rfl⟩ := okWide_slice Try.underlying45 (hval 0 45 v0 rfl rfl)
  have lt0 : ∀ x ∈ p0, x.block < W.heap.size := by obtain ⟨m, hm⟩ := k0; exact DataW.trod_lt m _ _ _ hm
  have w0 := got_arg (fs := fdTally) 40 (by kernel_rfl) k0 rfl
  clear hA0 hval0 hsz0
  refine (walk W _ w0).mono fun e W' ⟨he, bel⟩ => ?_
  subst he
  exact ⟨_, rfl, _, _, _, [], _, [], hW', trodAll_mk1 (shut_bool Try.underlying4 _), (trodAll_cons_mk (Below.trod laidOut (by kernel_rfl) (of_decide_eq_true (by kernel_rfl)) k0 bel lt0) trodAll_mk0), rfl, bel.frame _, fun h => by cases h⟩
theorem over : Rows.fnExactTalliesRowsRow.holds Try.pinned (OpenSpec.ofChange Rows.fnExactTalliesRowsSpec) :=
  OpenClaim.holds_of_wide 5 Try.f5 rfl rfl rfl rfl rfl rfl rfl ⟨rfl, rfl, rfl, rfl, rfl⟩ rfl rfl rfl rfl rfl (by kernel_rfl) Try.func5 (by kernel_rfl)
    (of_decide_eq_true (by kernel_rfl)) (by unfold Func.isWrapper; first | (rw [if_pos (by decide +kernel)]; kernel_rfl) | (rw [if_neg (by decide +kernel)]; exact ⟨rfl, rfl⟩))
    (fun os started H enc _ => lifted os started H enc)
theorem proved : Rows.FnExactTalliesRowsSaid := over
#print axioms proved
end Go.Proofs.Ytfbjbkkcilhgjaa.fnExactTalliesRows
namespace Go.Proofs.Ytfbjbkkcilhgjaa
/-- The row, under a short name, for the claim. -/
theorem fnExactTalliesRows_holds : Rows.FnExactTalliesRowsSaid := fnExactTalliesRows.proved
end Go.Proofs.Ytfbjbkkcilhgjaa
