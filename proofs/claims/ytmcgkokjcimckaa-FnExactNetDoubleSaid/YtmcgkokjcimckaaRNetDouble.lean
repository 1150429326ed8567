/- Steps of the functions that a law of this seat reaches, and what they come to, for all arguments of the shapes that are named. -/
import Derived.Test.YtmcgkokjcimckaaP3
import Derived.Test.YtmcgkokjcimckaaRows
import Derived.WalkKit
import Derived.ProofKit
import Derived.OpenShut
import Derived.ShutString
import Derived.ChangeOld
import Derived.Below
import Derived.Carry
import Derived.SizedLaws
set_option linter.all false
namespace Go.X
open Go
theorem row_NetDouble (a : D.Net) (b : Int) (w : World) (v0 v1 : Value) (hv0 : VRel (readCx w) (AV.agg (D.Net.cs a)) v0) (hv1 : VRel (readCx w) (AV.one (AC.int .i64 b)) v1) : Calls Proofs.Try.prog 11 #[v0, v1] w fun e w' => e = .returned (.bool true) ∧ RowKit.Below w.heap.size w w' := by
  have ok_a : D.Net.ok a := D.Net.okOf hv0.ok
  have ok_b : i64 b := wf_i64.1 hv1.ok
  refine law_calls (E := V43) V43_ok hm (k := 0) (d := 9) (args := [AV.agg (D.Net.cs a), AV.one (AC.int .i64 b)]) (laws_FnExactNetDouble_true a b ok_a ok_b (law_NetDouble a b ok_a ok_b)) rfl (fun i x hx => ?_)
  · match i, hx with
    | 0, hx => cases hx; exact hv0
    | 1, hx => cases hx; exact hv1
    | i + 2, hx => simp at hx
end Go.X
namespace Go.Proofs.Ytmcgkokjcimckaa.fnExactNetDouble
open Go.ChangeShapes Go.WideShapes Go.ChangeAt Go.RowKit
set_option linter.unusedVariables false
theorem own : ownKnob Try.prog.godebug = none := by kernel_rfl
set_option maxRecDepth 100000 in
theorem lifted (os : Os) (started : os.Started) (H : Type) (enc : TypeId × Value → H) :
    ReturnsInHanded {} Try.checked os 11 .any (Rows.fnExactNetDoubleSpec.pre6 enc Try.prog Try.f11 Rows.fnExactNetDoubleRow.domain false) (Rows.fnExactNetDoubleSpec.post enc Try.prog Try.f11 false true false false) := by
  refine returnsInHanded_of_change_sized (C := Try.checked) own started (by kernel_rfl) Try.func11
    (ChangeSpec.witness6 (enc := enc) (C := Try.checked) false ⟨#[], #[.agg #[.int .i64 0, .slice none 0 0], .int .i64 0], []⟩ 8 (by kernel_rfl) (by kernel_rfl) (by kernel_rfl) (by kernel_rfl)) ?_
  intro W base args ds gs before hval0 hW hcnd hsz0 _
  have hval : ∀ (j : Nat) t v, Try.f11.params[j]? = some t → args[j]? = some v → Value.okWide Try.prog W .any base t v := hval0
  have hW' := hW
  obtain ⟨p, q, hA0, hV, rfl, hfz, hnd⟩ := hW
  have hA : DataW.TrodAll enc Try.prog W 0 (fun _ => true) true Try.f11.params.toList args.toList ds p := hA0
  rw [Try.params11] at hA hval
  obtain ⟨v0, vs0, d0, ds0, p0, q0, hargs, rfl, rfl, h0, r0⟩ := trodAll_cons hA
  obtain ⟨v1, vs1, d1, ds1, p1, q1, hargs1, rfl, rfl, h1, r1⟩ := trodAll_cons r0
  obtain ⟨rfl, rfl, rfl⟩ := trodAll_nil r1
  subst hargs1
  obtain rfl : args = #[v0, v1] := by cases args; simp_all
  obtain ⟨rfl, rfl⟩ := trodVars_none hV
  have h0k := h0
  have hlt0 : ∀ x ∈ p0, x.block < W.heap.size := fun x hx => by
    obtain ⟨fuel, hf⟩ := h0
    exact DataW.trod_lt fuel _ _ _ hf x hx
  have h1k := h1
  have hlt1 : ∀ x ∈ p1, x.block < W.heap.size := fun x hx => by
    obtain ⟨fuel, hf⟩ := h1
    exact DataW.trod_lt fuel _ _ _ hf x hx
  obtain ⟨l0, hv0, hp0⟩ := Go.X.arg_struct Go.X.tab_ok0 (n := 9) Try.underlying40 (by kernel_rfl) (hval 0 40 v0 rfl rfl) h0
  obtain ⟨a, rfl⟩ := Go.X.D.Net.of hp0
  obtain ⟨b, hv1⟩ := Go.X.arg_int Try.underlying3 (hval 1 3 v1 rfl rfl) h1
  clear hA0 hval0 hsz0
  refine (Go.X.row_NetDouble a b W v0 v1 hv0 hv1).mono fun e W' ⟨he, bel⟩ => ?_
  subst he
  exact ⟨_, rfl, _, _, _, [], _, [], hW', trodAll_mk1 (shut_bool Try.underlying4 _), (trodAll_cons_mk (Below.trod (by kernel_rfl) (by kernel_rfl) (of_decide_eq_true (by kernel_rfl)) h0k bel hlt0) (trodAll_cons_mk (Below.trod (by kernel_rfl) (by kernel_rfl) (of_decide_eq_true (by kernel_rfl)) h1k bel hlt1) trodAll_mk0)), rfl, bel.frame _, fun h => by cases h⟩
theorem over : Rows.fnExactNetDoubleRow.holds Try.pinned (OpenSpec.ofChange Rows.fnExactNetDoubleSpec) :=
  OpenClaim.holds_of_wide 11 Try.f11 rfl rfl rfl rfl rfl rfl rfl ⟨rfl, rfl, rfl, rfl, rfl⟩ rfl rfl rfl rfl rfl (by kernel_rfl) Try.func11 (by kernel_rfl)
    (of_decide_eq_true (by kernel_rfl)) (by unfold Func.isWrapper; first | (rw [if_pos (by decide +kernel)]; kernel_rfl) | (rw [if_neg (by decide +kernel)]; exact ⟨rfl, rfl⟩))
    (fun os started H enc _ => lifted os started H enc)
theorem proved : Rows.FnExactNetDoubleSaid := over
end Go.Proofs.Ytmcgkokjcimckaa.fnExactNetDouble
namespace Go.Proofs.Ytmcgkokjcimckaa
/-- The row. -/
theorem fnExactNetDouble_holds : Rows.FnExactNetDoubleSaid := fnExactNetDouble.proved
end Go.Proofs.Ytmcgkokjcimckaa
