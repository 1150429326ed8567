/- Steps of the functions that a law of this seat reaches, and what they come to, for all arguments of the shapes that are named. -/
import Derived.Test.YtmcgkokjcimckaaP4
import Derived.Test.YtmcgkokjcimckaaRows
import Derived.WalkKit
import Derived.ProofKit
import Derived.OpenShut
import Derived.ShutString
import Derived.ChangeOld
import Derived.Below
import Derived.Carry
import Derived.SizedLaws
set_option linter.all false
namespace Go.X
open Go
theorem row_JudgeNonces (a : List D.Told) (w : World) (v0 : Value) (hv0 : VRel (readCx w) (AV.one (AC.dat .told a)) v0) : Calls Proofs.Try.prog 4 #[v0] w fun e w' => e = .returned (.bool true) ∧ RowKit.Below w.heap.size w w' := by
  have ok_a : okL (okD .told) a := hv0.ok
  refine law_calls (E := V18) V18_ok hm (k := 0) (d := 9) (args := [AV.one (AC.dat .told a)]) (laws_FnExactJudgeNonces_true a ok_a (law_JudgeNonces a ok_a)) rfl (fun i x hx => ?_)
  · match i, hx with
    | 0, hx => cases hx; exact hv0
    | i + 1, hx => simp at hx
end Go.X
namespace Go.Proofs.Ytmcgkokjcimckaa.fnExactJudgeNonces
open Go.ChangeShapes Go.WideShapes Go.ChangeAt Go.RowKit
set_option linter.unusedVariables false
theorem own : ownKnob Try.prog.godebug = none := by kernel_rfl
set_option maxRecDepth 100000 in
theorem lifted (os : Os) (started : os.Started) (H : Type) (enc : TypeId × Value → H) :
    ReturnsInHanded {} Try.checked os 4 .any (Rows.fnExactJudgeNoncesSpec.pre6 enc Try.prog Try.f4 Rows.fnExactJudgeNoncesRow.domain false) (Rows.fnExactJudgeNoncesSpec.post enc Try.prog Try.f4 false true false false) := by
  refine returnsInHanded_of_change_sized (C := Try.checked) own started (by kernel_rfl) Try.func4
    (ChangeSpec.witness6 (enc := enc) (C := Try.checked) false ⟨#[], #[.slice none 0 0], []⟩ 8 (by kernel_rfl) (by kernel_rfl) (by kernel_rfl) (by kernel_rfl)) ?_
  intro W base args ds gs before hval0 hW hcnd hsz0 _
  have hval : ∀ (j : Nat) t v, Try.f4.params[j]? = some t → args[j]? = some v → Value.okWide Try.prog W .any base t v := hval0
  have hW' := hW
  obtain ⟨p, q, hA0, hV, rfl, hfz, hnd⟩ := hW
  have hA : DataW.TrodAll enc Try.prog W 0 (fun _ => true) true Try.f4.params.toList args.toList ds p := hA0
  rw [Try.params4] at hA hval
  obtain ⟨v0, vs0, d0, ds0, p0, q0, hargs, rfl, rfl, h0, r0⟩ := trodAll_cons hA
  obtain ⟨rfl, rfl, rfl⟩ := trodAll_nil r0
  obtain rfl : args = #[v0] := by cases args; simp_all
  obtain ⟨rfl, rfl⟩ := trodVars_none hV
  have h0k := h0
  have hlt0 : ∀ x ∈ p0, x.block < W.heap.size := fun x hx => by
    obtain ⟨fuel, hf⟩ := h0
    exact DataW.trod_lt fuel _ _ _ hf x hx
  obtain ⟨a, hv0⟩ := Go.X.arg_slice Go.X.tab_ok0 (n := 9) (c := .told) Try.underlying24 (by kernel_rfl) (by kernel_rfl) (hval 0 24 v0 rfl rfl) h0
  clear hA0 hval0 hsz0
  refine (Go.X.row_JudgeNonces a W v0 hv0).mono fun e W' ⟨he, bel⟩ => ?_
  subst he
  exact ⟨_, rfl, _, _, _, [], _, [], hW', trodAll_mk1 (shut_bool Try.underlying4 _), (trodAll_cons_mk (Below.trod (by kernel_rfl) (by kernel_rfl) (of_decide_eq_true (by kernel_rfl)) h0k bel hlt0) trodAll_mk0), rfl, bel.frame _, fun h => by cases h⟩
theorem over : Rows.fnExactJudgeNoncesRow.holds Try.pinned (OpenSpec.ofChange Rows.fnExactJudgeNoncesSpec) :=
  OpenClaim.holds_of_wide 4 Try.f4 rfl rfl rfl rfl rfl rfl rfl ⟨rfl, rfl, rfl, rfl, rfl⟩ rfl rfl rfl rfl rfl (by kernel_rfl) Try.func4 (by kernel_rfl)
    (of_decide_eq_true (by kernel_rfl)) (by unfold Func.isWrapper; first | (rw [if_pos (by decide +kernel)]; kernel_rfl) | (rw [if_neg (by decide +kernel)]; exact ⟨rfl, rfl⟩))
    (fun os started H enc _ => lifted os started H enc)
theorem proved : Rows.FnExactJudgeNoncesSaid := over
end Go.Proofs.Ytmcgkokjcimckaa.fnExactJudgeNonces
namespace Go.Proofs.Ytmcgkokjcimckaa
/-- The row. -/
theorem fnExactJudgeNonces_holds : Rows.FnExactJudgeNoncesSaid := fnExactJudgeNonces.proved
end Go.Proofs.Ytmcgkokjcimckaa
