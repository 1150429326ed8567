/- Steps of the functions that a law of this seat reaches, and what they come to, for all arguments of the shapes that are named. -/
import Derived.Test.YtmcgkokjcimckaaY1
import Derived.Test.YtmcgkokjcimckaaYLaw
set_option linter.all false
namespace Go.X
open Go
set_option linter.unusedVariables false
set_option linter.unusedSimpArgs false
theorem toIval_eq (x : D.Ival) : laws_toIval x = x := rfl
theorem toTold_eq (x : D.Told) : laws_toTold x = x := rfl
theorem toToldS_eq (a : List D.Told) : laws_toToldS a = a := by
  refine (forL_map (done := fun s => (laws_toToldS_l3_done a s).val) laws_toTold (fun i x s hi => ?_) (by simp)).trans ?_
  · rfl
  · simp [laws_toToldS_l3_done, T.val, show laws_toTold = id from funext toTold_eq]
theorem eqIval_refl (x : D.Ival) : laws_eqIval x x = true := by
  simp [laws_eqIval, laws_eqIval_T, T.val]
theorem eqTold_refl (x : D.Told) : laws_eqTold x x = true := by
  simp [laws_eqTold, laws_eqTold_T, T.val, eqIval_refl]
theorem eqToldS_refl (a : List D.Told) : laws_eqToldS a a = true := by
  unfold laws_eqToldS
  simp only [laws_eqToldS_T, T.val, bne_self_eq_false, cond_false, S.res]
  refine (forL_same (l := a) fun i x hx => ?_).trans rfl
  have e : elem .told a i = x := by simp [elem, List.getD_eq_getElem?_getD, hx]
  simp [laws_eqToldS_l4_body, T.val, e, eqTold_refl]
theorem eqIntS_refl (a : List Int) : laws_eqIntS a a = true := by
  unfold laws_eqIntS
  simp only [laws_eqIntS_T, T.val, bne_self_eq_false, cond_false, S.res]
  refine (forL_same (l := a) fun i x hx => ?_).trans rfl
  have e : elem .int a i = x := by simp [elem, List.getD_eq_getElem?_getD, hx]
  simp [laws_eqIntS_l4_body, T.val, e]

/-- Marks of numbers. -/
@[reducible] def mI := nxtOf (fun i s => (laws_markIntS_l2_body i s).val) (0 : Int)
@[reducible] def rI := rowOf (fun i s => (laws_markIntS_l2_body i s).val) (0 : Int)
theorem markIntS_eq (a : List Int) (k : Int) : laws_markIntS a k = (itK mI a.length k, rowsK mI rI a.length k) := by
  refine (forN_mark (nxt := mI) (row := rI) (done := fun s => (laws_markIntS_l2_done s).val) (fun i k l hi => ?_) a.length 0 k a (by omega)).trans ?_
  · rfl
  · simp [laws_markIntS_l2_done, T.val]
theorem heldIntS_eq (n : Nat) (k : Int) : laws_heldIntS (rowsK mI rI n k) k = itK mI n k := by
  refine (forL_held (nxt := mI) (row := rI) (done := fun s => (laws_heldIntS_l2_done _ s).val) (fun i k => ?_) n 0 k).trans rfl
  simp [laws_heldIntS_l2_body, T.val, rI, rowOf, mI, nxtOf, S.get, laws_markIntS_l2_body]
theorem mI_lin (n : Nat) (h : 1 + 1 * (n : Int) ≤ 4611686018427387904) : itK mI n 1 = 1 + 1 * n := by
  refine itK_lin 1 (by omega) (fun k h0 h1 => ?_) n 1 (by omega) h
  exact wrap64 (by omega) (by omega)

/-- Marks of answers. -/
@[reducible] def mT := nxtOf (fun i s => (laws_markToldS_l2_body i s).val) (dflt .told)
@[reducible] def rT := rowOf (fun i s => (laws_markToldS_l2_body i s).val) (dflt .told)
theorem markToldS_eq (a : List D.Told) (k : Int) : laws_markToldS a k = (itK mT a.length k, rowsK mT rT a.length k) := by
  refine (forN_mark (nxt := mT) (row := rT) (done := fun s => (laws_markToldS_l2_done s).val) (fun i k l hi => ?_) a.length 0 k a (by omega)).trans ?_
  · simp only [laws_markToldS_l2_body, T.val, mT, rT, nxtOf, rowOf, S.get, Int.toNat_natCast, Int.toNat_zero]
    simp [elem_set, hi, elem, List.set_set]
  · simp [laws_markToldS_l2_done, T.val]
theorem heldToldS_eq (n : Nat) (k : Int) : laws_heldToldS (rowsK mT rT n k) k = itK mT n k := by
  refine (forL_held (nxt := mT) (row := rT) (done := fun s => (laws_heldToldS_l2_done _ s).val) (fun i k => ?_) n 0 k).trans rfl
  simp [laws_heldToldS_l2_body, T.val, rT, rowOf, mT, nxtOf, S.get, laws_markToldS_l2_body, elem]
theorem mT_lin (n : Nat) (h : 1 + 10 * (n : Int) ≤ 4611686018427387904) : itK mT n 1 = 1 + 10 * n := by
  refine itK_lin 10 (by omega) (fun k h0 h1 => ?_) n 1 (by omega) h
  have w : ∀ j, 0 ≤ j → j ≤ 1000 → w64 (k + j) = k + j := fun j h0 h1 => wrap64 (by omega) (by omega)
  simp only [mT, nxtOf, S.get, laws_markToldS_l2_body, T.val, w, Int.add_assoc, Int.reduceAdd, Int.reduceLE]

theorem JudgeTally_eq (a : List D.Told) (b : Int) : impl_JudgeTally a b = spec_JudgeTally a b := by
  unfold impl_JudgeTally spec_JudgeTally
  have e : impl_JudgeTally_l5 a b = spec_JudgeTally_l5 a b := by
    funext s
    refine forL_congr (fun i x s => ?_) (fun s => rfl) _ _ _
    simp only [impl_JudgeTally_l5_body, spec_JudgeTally_l5_body, T.val, impl_in, impl_in_T, spec_l1In, spec_l1In_T]
  rw [e]
  rfl
theorem JudgeTally_length (a : List D.Told) (b : Int) : (spec_JudgeTally a b).length ≤ 15 := by
  unfold spec_JudgeTally
  simp only [spec_JudgeTally_T, T.val]
  cases decide ((200 : Int) < (a.length : Int)) with
  | true => simp [S.res]
  | false =>
    simp only [cond_false, S.res]
    refine forL_ind (fun _ (s : List Int) => s.length = 15) (fun (r : List Int) => r.length ≤ 15) (fun i x s hi => ⟨fun s' h => ?_, fun r h => ?_⟩) a 0 _ rfl (fun s hs => by simp [spec_JudgeTally_l5_done, T.val, hs])
    · simp only [spec_JudgeTally_l5_body, T.val, Bool.cond_eq_ite] at h
      repeat' split at h
      all_goals (cases h; simp [hi])
    · simp only [spec_JudgeTally_l5_body, T.val, Bool.cond_eq_ite] at h
      repeat' split at h
      all_goals cases h
theorem law_JudgeTally (a : List D.Told) (b : Int) (ok_a : okL (okD .told) a) (ok_b : i64 b) : laws_FnExactJudgeTally a b = true := by
  unfold laws_FnExactJudgeTally laws_FnExactJudgeTally_T
  have hml := maxLen_eq
  have ha := ok_a.1
  have hz := szToldS_le a 1048576 (by omega) (by omega) (by omega)
  have hl := JudgeTally_length a b
  simp only [T.val, toToldS_eq, eqToldS_refl, eqIntS_refl, JudgeTally_eq, markToldS_eq, markIntS_eq, heldIntS_eq, Bool.cond_eq_ite]
  split
  · rfl
  · rename_i hs
    simp at hs
    rw [mT_lin _ (by omega), mI_lin _ (by omega)]
    rw [show decide (1 + 10 * (a.length : Int) < 0) = false by simp; omega, show decide (1 + 1 * ((spec_JudgeTally a b).length : Int) < 0) = false by simp; omega]
    simp

theorem ofNode_eq (a : List D.Told) (b : Int) (h : a.length ≤ 200) : spec_TellsOf a b = impl_ofNode a b := by
  have e : spec_TellsOf_l3 a b = impl_ofNode_l3 a b := by
    funext s
    refine forL_congr (fun i x s => ?_) (fun s => rfl) _ _ _
    simp only [impl_ofNode_l3_body, spec_TellsOf_l3_body, T.val, show decide ((a.length : Int) ≤ 200) = true by simp; omega, cond_true]
  unfold spec_TellsOf impl_ofNode
  rw [e]
  rfl
theorem TellsOf_eq (a : List D.Told) (b : Int) : impl_TellsOf a b = spec_TellsOf a b := by
  unfold impl_TellsOf
  simp only [impl_TellsOf_T, T.val]
  by_cases h : a.length ≤ 200
  · rw [show decide ((200 : Int) < (a.length : Int)) = false by simp; omega, ofNode_eq a b h]
    rfl
  · rw [show decide ((200 : Int) < (a.length : Int)) = true by simp; omega]
    unfold spec_TellsOf
    cases a with
    | nil => simp at h
    | cons x l =>
      simp only [spec_TellsOf_T, T.val, S.res, spec_TellsOf_l3, forL, spec_TellsOf_l3_body, show decide (((x :: l).length : Int) ≤ 200) = false by simp at h ⊢; omega, cond_true, cond_false]
theorem TellsOf_length (a : List D.Told) (b : Int) : (spec_TellsOf a b).length ≤ a.length := by
  have := forL_ind (body := fun i x s => (spec_TellsOf_l3_body a b i x s).val) (done := fun s => (spec_TellsOf_l3_done a b s).val) (fun i (s : List D.Told) => (s.length : Int) ≤ i ∧ 0 ≤ i ∧ (s = [] ∨ a.length ≤ 200)) (fun (r : List D.Told) => r.length ≤ a.length) (fun i x s hi => ⟨fun s' h => ?_, fun r h => ?_⟩) a 0 [] (by simp) (fun s hs => by simp only [spec_TellsOf_l3_done, T.val]; omega)
  · exact this
  · simp only [spec_TellsOf_l3_body, T.val, Bool.cond_eq_ite] at h
    split at h
    · rename_i h2
      replace h2 : a.length ≤ 200 := by first | (simp at h2; omega) | omega
      split at h <;> cases h <;> (refine ⟨?_, by omega, .inr h2⟩) <;> first | omega | (simp; omega)
    · cases h
  · simp only [spec_TellsOf_l3_body, T.val, Bool.cond_eq_ite] at h
    split at h
    · split at h <;> cases h
    · rename_i h2
      simp at h2
      cases h
      rcases hi.2.2 with rfl | h3
      · simp
      · omega
theorem law_TellsOf (a : List D.Told) (b : Int) (ok_a : okL (okD .told) a) (ok_b : i64 b) : laws_FnExactTellsOf a b = true := by
  unfold laws_FnExactTellsOf laws_FnExactTellsOf_T
  have hml := maxLen_eq
  have ha := ok_a.1
  have hz := szToldS_le a 1048576 (by omega) (by omega) (by omega)
  have hl := TellsOf_length a b
  simp only [T.val, toToldS_eq, eqToldS_refl, TellsOf_eq, markToldS_eq, heldToldS_eq, Bool.cond_eq_ite]
  split
  · rfl
  · rename_i hs
    simp at hs
    rw [mT_lin _ (by omega), mT_lin _ (by omega)]
    rw [show decide (1 + 10 * (a.length : Int) < 0) = false by simp; omega, show decide (1 + 10 * ((spec_TellsOf a b).length : Int) < 0) = false by simp; omega]
    simp
end Go.X
