/- The statement FnExactTableAt: whatever values come in, the call answers true and leaves them as they were. No condition. -/
import Derived.Test.YtnnjpiepoeknnaaG1
import Derived.Test.YtnnjpiepoeknnaaRows
import Derived.Test.YtnnjpiepoeknnaaChecked
import Derived.WalkKit
import Derived.ProofKit
import Derived.OpenShut
import Derived.ShutString
import Derived.ChangeOld
import Derived.Below
import Derived.SizedLaws
namespace Go.Proofs.Ytnnjpiepoeknnaa.fnExactTableAt
open Go.ChangeShapes Go.WideShapes Go.ChangeAt Go.RowKit Go.Proofs.Ytnnjpiepoeknnaa.PE
open Go.ChangeMaps (open_string shut_string)
set_option linter.unusedVariables false
theorem own : ownKnob Try.prog.godebug = none := by kernel_rfl
theorem laidOut : laidOutB Try.prog = true := by kernel_rfl
theorem repA {w : World} {im : Nat → Prop} {u : Value} {x : V} (h : Rep w im u x) : RepA w im u x := by cases h <;> first | exact .int _ _ | exact .bool _ | exact .str _ | (apply Rep.sl <;> assumption)
theorem walk (w : World) (v0 v1 v2 : Value) (h0 : ∃ p xs, Rep w (fun b => b < w.heap.size) v0 p ∧ PurF (.sub fdColumn) p (.sub xs) ∧ LenF B63 B63 (.sub fdColumn) (.sub xs)) (h1 : ∃ p xs, Rep w (fun b => b < w.heap.size) v1 p ∧ PurF (.sub fdVersion) p (.sub xs) ∧ LenF B63 B63 (.sub fdVersion) (.sub xs)) (h2 : ∃ m, v2 = .int .i64 m ∧ (-9223372036854775808 ≤ m ∧ m ≤ 9223372036854775807)) : Calls Try.prog 13 #[v0, v1, v2] w fun e w' => e = .returned (.bool true) ∧ Below w.heap.size w w' := by
  obtain ⟨p0, x0, r0, g0, b0⟩ := h0
  obtain ⟨p1, x1, r1, g1, b1⟩ := h1
  obtain ⟨m2, rfl, i2⟩ := h2
  obtain ⟨d, h1, hrun⟩ := law_FnExactTableAt m2 g0 b0 g1 b1 i2
  refine law_of tab_ok noExt_ok.1 noExt_ok.2 hrun rfl fun i x hx => ?_
  match i, hx with
  | 0, hx => simp at hx; subst hx; exact ⟨_, rfl, repA r0⟩
  | 1, hx => simp at hx; subst hx; exact ⟨_, rfl, repA r1⟩
  | 2, hx => simp at hx; subst hx; exact ⟨_, rfl, (show RepA w _ _ (.int _ _) from Rep.int _ _)⟩
  | i + 3, hx => simp at hx
set_option maxRecDepth 100000 in
theorem lifted (os : Os) (started : os.Started) (H : Type) (enc : TypeId × Value → H) :
    ReturnsInHanded {} Try.checked os 13 .any (Rows.fnExactTableAtSpec.pre6 enc Try.prog Try.f13 Rows.fnExactTableAtRow.domain false) (Rows.fnExactTableAtSpec.post enc Try.prog Try.f13 false true false false) := by
  refine returnsInHanded_of_change_sized (C := Try.checked) own started (by kernel_rfl) Try.func13
    (ChangeSpec.witness6 (enc := enc) (C := Try.checked) false ⟨#[], #[.slice none 0 0, .slice none 0 0, .int .i64 0], []⟩ 8 (by kernel_rfl) (by kernel_rfl) (by kernel_rfl) (by kernel_rfl)) ?_
  intro W base args ds gs before hval0 hW hcnd hsz0 _
  have hval : ∀ (j : Nat) t v, Try.f13.params[j]? = some t → args[j]? = some v → Value.okWide Try.prog W .any base t v := hval0
  have hW' := hW
  obtain ⟨p, q, hA0, hV, rfl, hfz, hnd⟩ := hW
  have hA : DataW.TrodAll enc Try.prog W 0 (fun _ => true) true Try.f13.params.toList args.toList ds p := hA0
  rw [Try.params13] at hA hval
  obtain ⟨v0, vs0, d0, ds0, p0, q0, ha0, rfl, rfl, k0, s0⟩ := trodAll_cons hA
  obtain ⟨v1, vs1, d1, ds1, p1, q1, ha1, rfl, rfl, k1, s1⟩ := trodAll_cons s0
  obtain ⟨v2, vs2, d2, ds2, p2, q2, ha2, rfl, rfl, k2, s2⟩ := trodAll_cons s1
  obtain ⟨rfl, rfl, rfl⟩ := trodAll_nil s2
  obtain rfl : args = #[v0, v1, v2] := by apply Array.ext'; rw [ha0]; simp only [ha1, ha2]
  obtain ⟨rfl, rfl⟩ := trodVars_none hV
  obtain ⟨a0, len0, cap0, rfl⟩ := okWide_slice Try.underlying43 (hval 0 43 v0 rfl rfl)
  obtain ⟨a1, len1, cap1, rfl⟩ := okWide_slice Try.underlying65 (hval 1 65 v1 rfl rfl)
  obtain ⟨m2, rfl, _, _, wf2⟩ := open_int Try.underlying3 (hval 2 3 v2 rfl rfl) k2
  have lt0 : ∀ x ∈ p0, x.block < W.heap.size := by obtain ⟨m, hm⟩ := k0; exact DataW.trod_lt m _ _ _ hm
  have w0 := got_arg (fs := fdColumn) 40 (by kernel_rfl) k0 rfl
  have lt1 : ∀ x ∈ p1, x.block < W.heap.size := by obtain ⟨m, hm⟩ := k1; exact DataW.trod_lt m _ _ _ hm
  have w1 := got_arg (fs := fdVersion) 40 (by kernel_rfl) k1 rfl
  have lt2 : ∀ x ∈ p2, x.block < W.heap.size := by obtain ⟨m, hm⟩ := k2; exact DataW.trod_lt m _ _ _ hm
  clear hA0 hval0 hsz0
  refine (walk W _ _ _ w0 w1 ⟨m2, rfl, bounds_i64 wf2⟩).mono fun e W' ⟨he, bel⟩ => ?_
  subst he
  exact ⟨_, rfl, _, _, _, [], _, [], hW', trodAll_mk1 (shut_bool Try.underlying4 _), (trodAll_cons_mk (Below.trod laidOut (by kernel_rfl) (of_decide_eq_true (by kernel_rfl)) k0 bel lt0) (trodAll_cons_mk (Below.trod laidOut (by kernel_rfl) (of_decide_eq_true (by kernel_rfl)) k1 bel lt1) (trodAll_cons_mk (Below.trod laidOut (by kernel_rfl) (of_decide_eq_true (by kernel_rfl)) k2 bel lt2) trodAll_mk0))), rfl, bel.frame _, fun h => by cases h⟩
theorem over : Rows.fnExactTableAtRow.holds Try.pinned (OpenSpec.ofChange Rows.fnExactTableAtSpec) :=
  OpenClaim.holds_of_wide 13 Try.f13 rfl rfl rfl rfl rfl rfl rfl ⟨rfl, rfl, rfl, rfl, rfl⟩ rfl rfl rfl rfl rfl (by kernel_rfl) Try.func13 (by kernel_rfl)
    (of_decide_eq_true (by kernel_rfl)) (by unfold Func.isWrapper; first | (rw [if_pos (by decide +kernel)]; kernel_rfl) | (rw [if_neg (by decide +kernel)]; exact ⟨rfl, rfl⟩))
    (fun os started H enc _ => lifted os started H enc)
theorem proved : Rows.FnExactTableAtSaid := over
#print axioms proved
end Go.Proofs.Ytnnjpiepoeknnaa.fnExactTableAt
namespace Go.Proofs.Ytnnjpiepoeknnaa
/-- The row, under a short name, for the claim. -/
theorem fnExactTableAt_holds : Rows.FnExactTableAtSaid := fnExactTableAt.proved
end Go.Proofs.Ytnnjpiepoeknnaa
