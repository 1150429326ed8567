/- FnExactJudgeFuses: the law that the program's JudgeFuses returns what the reference's returns holds, for every list that the statement lets in. -/
import Derived.Test.YtejllbmokmibkaaH3
import Derived.Test.YtejllbmokmibkaaRows
import Derived.WalkKit
import Derived.ProofKit
import Derived.OpenShut
import Derived.ShutString
import Derived.ChangeOld
import Derived.Below
import Derived.Carry
import Derived.SizedLaws
namespace Go.X
theorem law5 (d0 : List (List AC)) (hl : d0.length ≤ maxLen) (w : World) (v : Value) (hv : VRel Proofs.Try.prog (readCx w) (.one (.dat 65 d0)) v) : Calls Proofs.Try.prog 5 #[v] w fun e w' => e = .returned (.bool true) ∧ RowKit.Below w.heap.size w w' := by
  refine law_calls (E := V18) V18_ok hm (k := 0) (d := 9) (args := [AV.one (AC.dat 65 d0)]) (law5_true d0 hl) rfl (fun i x hx => ?_)
  cases i with
  | zero => simp at hx; subst hx; exact hv
  | succ i => simp at hx
end Go.X
namespace Go.Proofs.Ytejllbmokmibkaa.fnExactJudgeFuses
open Go.ChangeShapes Go.WideShapes Go.ChangeAt Go.RowKit
set_option linter.unusedVariables false
theorem own : ownKnob Try.prog.godebug = none := by kernel_rfl
set_option maxRecDepth 100000 in
theorem lifted (os : Os) (started : os.Started) (H : Type) (enc : TypeId × Value → H) :
    ReturnsInHanded {} Try.checked os 5 .any (Rows.fnExactJudgeFusesSpec.pre6 enc Try.prog Try.f5 Rows.fnExactJudgeFusesRow.domain false) (Rows.fnExactJudgeFusesSpec.post enc Try.prog Try.f5 false true false false) := by
  refine returnsInHanded_of_change_sized (C := Try.checked) own started (by kernel_rfl) Try.func5
    (ChangeSpec.witness6 (enc := enc) (C := Try.checked) false ⟨#[], #[.slice none 0 0], []⟩ 8 (by kernel_rfl) (by kernel_rfl) (by kernel_rfl) (by kernel_rfl)) ?_
  intro W base args ds gs before hval0 hW hcnd hsz0 _
  have hval : ∀ (j : Nat) t v, Try.f5.params[j]? = some t → args[j]? = some v → Value.okWide Try.prog W .any base t v := hval0
  have hW' := hW
  obtain ⟨p, q, hA0, hV, rfl, hfz, hnd⟩ := hW
  have hA : DataW.TrodAll enc Try.prog W 0 (fun _ => true) true Try.f5.params.toList args.toList ds p := hA0
  rw [Try.params5] at hA hval
  obtain ⟨v0, vs0, d0, ds0, p0, q0, hargs, rfl, rfl, h0, r0⟩ := trodAll_cons hA
  obtain ⟨rfl, rfl, rfl⟩ := trodAll_nil r0
  obtain rfl : args = #[v0] := by cases args; simp_all
  obtain ⟨rfl, rfl⟩ := trodVars_none hV
  have h0k := h0
  have hlt : ∀ x ∈ p0, x.block < W.heap.size := fun x hx => by
    obtain ⟨fuel, hf⟩ := h0
    exact DataW.trod_lt fuel _ _ _ hf x hx
  obtain ⟨rows, hv, hl⟩ := Go.X.arg_slice (n := 6) Try.underlying24 (by kernel_rfl) (hval 0 24 v0 rfl rfl) h0
  clear hA0 hval0 hsz0
  refine (Go.X.law5 rows hl W v0 hv).mono fun e W' ⟨he, bel⟩ => ?_
  subst he
  exact ⟨_, rfl, _, _, _, [], _, [], hW', trodAll_mk1 (shut_bool Try.underlying4 _), (trodAll_cons_mk (Below.trod (by kernel_rfl) (by kernel_rfl) (of_decide_eq_true (by kernel_rfl)) h0k bel hlt) trodAll_mk0), rfl, bel.frame _, fun h => by cases h⟩
theorem over : Rows.fnExactJudgeFusesRow.holds Try.pinned (OpenSpec.ofChange Rows.fnExactJudgeFusesSpec) :=
  OpenClaim.holds_of_wide 5 Try.f5 rfl rfl rfl rfl rfl rfl rfl ⟨rfl, rfl, rfl, rfl, rfl⟩ rfl rfl rfl rfl rfl (by kernel_rfl) Try.func5 (by kernel_rfl)
    (of_decide_eq_true (by kernel_rfl)) (by unfold Func.isWrapper; first | (rw [if_pos (by decide +kernel)]; kernel_rfl) | (rw [if_neg (by decide +kernel)]; exact ⟨rfl, rfl⟩))
    (fun os started H enc _ => lifted os started H enc)
theorem proved : Rows.FnExactJudgeFusesSaid := over
end Go.Proofs.Ytejllbmokmibkaa.fnExactJudgeFuses
namespace Go.Proofs.Ytejllbmokmibkaa
/-- The row. -/
theorem fnExactJudgeFuses_holds : Rows.FnExactJudgeFusesSaid := fnExactJudgeFuses.proved
end Go.Proofs.Ytejllbmokmibkaa
