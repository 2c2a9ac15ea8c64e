/- The statement FnExactLogCut: whatever values come in, the call answers true and leaves them as they were. No condition. -/
import Derived.Test.YteaojpfofifmnaaG1
import Derived.Test.YteaojpfofifmnaaRows
import Derived.Test.YteaojpfofifmnaaChecked
import Derived.WalkKit
import Derived.ProofKit
import Derived.OpenShut
import Derived.ShutString
import Derived.ChangeOld
import Derived.Below
import Derived.SizedLaws
namespace Go.Proofs.Yteaojpfofifmnaa.fnExactLogCut
open Go.ChangeShapes Go.WideShapes Go.ChangeAt Go.RowKit Go.Proofs.Yteaojpfofifmnaa.PE
open Go.ChangeMaps (open_string shut_string)
set_option linter.unusedVariables false
theorem own : ownKnob Try.prog.godebug = none := by kernel_rfl
theorem laidOut : laidOutB Try.prog = true := by kernel_rfl
theorem repA {w : World} {im : Nat → Prop} {u : Value} {x : V} (h : Rep w im u x) : RepA w im u x := by cases h <;> first | exact .int _ _ | exact .bool _ | exact .str _ | (apply Rep.sl <;> assumption)
theorem walk (w : World) (v0 v1 : Value) (h0 : ∃ p xs, Rep w (fun b => b < w.heap.size) v0 p ∧ PurF (.sub fdEntry) p (.sub xs) ∧ LenF B63 B63 (.sub fdEntry) (.sub xs)) (h1 : ∃ m, v1 = .int .i64 m ∧ (-9223372036854775808 ≤ m ∧ m ≤ 9223372036854775807)) : Calls Try.prog 8 #[v0, v1] w fun e w' => e = .returned (.bool true) ∧ Below w.heap.size w w' := by
  obtain ⟨p0, x0, r0, g0, b0⟩ := h0
  obtain ⟨m1, rfl, i1⟩ := h1
  obtain ⟨d, h1, hrun⟩ := law_FnExactLogCut m1 g0 b0 i1
  refine law_of tab_ok noExt_ok.1 noExt_ok.2 hrun rfl fun i x hx => ?_
  match i, hx with
  | 0, hx => simp at hx; subst hx; exact ⟨_, rfl, repA r0⟩
  | 1, hx => simp at hx; subst hx; exact ⟨_, rfl, (show RepA w _ _ (.int _ _) from Rep.int _ _)⟩
  | i + 2, hx => simp at hx
set_option maxRecDepth 100000 in
theorem lifted (os : Os) (started : os.Started) (H : Type) (enc : TypeId × Value → H) :
    ReturnsInHanded {} Try.checked os 8 .any (Rows.fnExactLogCutSpec.pre6 enc Try.prog Try.f8 Rows.fnExactLogCutRow.domain false) (Rows.fnExactLogCutSpec.post enc Try.prog Try.f8 false true false false) := by
  refine returnsInHanded_of_change_sized (C := Try.checked) own started (by kernel_rfl) Try.func8
    (ChangeSpec.witness6 (enc := enc) (C := Try.checked) false ⟨#[], #[.slice none 0 0, .int .i64 0], []⟩ 8 (by kernel_rfl) (by kernel_rfl) (by kernel_rfl) (by kernel_rfl)) ?_
  intro W base args ds gs before hval0 hW hcnd hsz0 _
  have hval : ∀ (j : Nat) t v, Try.f8.params[j]? = some t → args[j]? = some v → Value.okWide Try.prog W .any base t v := hval0
  have hW' := hW
  obtain ⟨p, q, hA0, hV, rfl, hfz, hnd⟩ := hW
  have hA : DataW.TrodAll enc Try.prog W 0 (fun _ => true) true Try.f8.params.toList args.toList ds p := hA0
  rw [Try.params8] at hA hval
  obtain ⟨v0, vs0, d0, ds0, p0, q0, ha0, rfl, rfl, k0, s0⟩ := trodAll_cons hA
  obtain ⟨v1, vs1, d1, ds1, p1, q1, ha1, rfl, rfl, k1, s1⟩ := trodAll_cons s0
  obtain ⟨rfl, rfl, rfl⟩ := trodAll_nil s1
  obtain rfl : args = #[v0, v1] := by apply Array.ext'; rw [ha0]; simp only [ha1]
  obtain ⟨rfl, rfl⟩ := trodVars_none hV
  obtain ⟨a0, len0, cap0, rfl⟩ := okWide_slice Try.underlying58 (hval 0 58 v0 rfl rfl)
  obtain ⟨m1, rfl, _, _, wf1⟩ := open_int Try.underlying3 (hval 1 3 v1 rfl rfl) k1
  have lt0 : ∀ x ∈ p0, x.block < W.heap.size := by obtain ⟨m, hm⟩ := k0; exact DataW.trod_lt m _ _ _ hm
  have w0 := got_arg (fs := fdEntry) 40 (by kernel_rfl) k0 rfl
  have lt1 : ∀ x ∈ p1, x.block < W.heap.size := by obtain ⟨m, hm⟩ := k1; exact DataW.trod_lt m _ _ _ hm
  clear hA0 hval0 hsz0
  refine (walk W _ _ w0 ⟨m1, rfl, bounds_i64 wf1⟩).mono fun e W' ⟨he, bel⟩ => ?_
  subst he
  exact ⟨_, rfl, _, _, _, [], _, [], hW', trodAll_mk1 (shut_bool Try.underlying4 _), (trodAll_cons_mk (Below.trod laidOut (by kernel_rfl) (of_decide_eq_true (by kernel_rfl)) k0 bel lt0) (trodAll_cons_mk (Below.trod laidOut (by kernel_rfl) (of_decide_eq_true (by kernel_rfl)) k1 bel lt1) trodAll_mk0)), rfl, bel.frame _, fun h => by cases h⟩
theorem over : Rows.fnExactLogCutRow.holds Try.pinned (OpenSpec.ofChange Rows.fnExactLogCutSpec) :=
  OpenClaim.holds_of_wide 8 Try.f8 rfl rfl rfl rfl rfl rfl rfl ⟨rfl, rfl, rfl, rfl, rfl⟩ rfl rfl rfl rfl rfl (by kernel_rfl) Try.func8 (by kernel_rfl)
    (of_decide_eq_true (by kernel_rfl)) (by unfold Func.isWrapper; first | (rw [if_pos (by decide +kernel)]; kernel_rfl) | (rw [if_neg (by decide +kernel)]; exact ⟨rfl, rfl⟩))
    (fun os started H enc _ => lifted os started H enc)
theorem proved : Rows.FnExactLogCutSaid := over
#print axioms proved
end Go.Proofs.Yteaojpfofifmnaa.fnExactLogCut
namespace Go.Proofs.Yteaojpfofifmnaa
/-- The row, under a short name, for the claim. -/
theorem fnExactLogCut_holds : Rows.FnExactLogCutSaid := fnExactLogCut.proved
end Go.Proofs.Yteaojpfofifmnaa
