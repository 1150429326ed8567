/- Steps of the functions that a law of this seat reaches, and what they come to, for all arguments of the shapes that are named. -/
import Derived.Test.YtmcgkokjcimckaaY4
import Derived.Test.YtmcgkokjcimckaaYLaw
set_option linter.all false
namespace Go.X
open Go
set_option linter.unusedVariables false
set_option linter.unusedSimpArgs false
theorem toTold_eq (x : D.Told) : laws_toTold x = x := rfl
theorem toToldS_eq (a : List D.Told) : laws_toToldS a = a := by
  refine (forL_map (done := fun s => (laws_toToldS_l3_done a s).val) laws_toTold (fun i x s hi => ?_) (by simp)).trans ?_
  · rfl
  · simp [laws_toToldS_l3_done, T.val, show laws_toTold = id from funext toTold_eq]
theorem eqIval_refl (x : D.Ival) : laws_eqIval x x = true := by
  simp [laws_eqIval, laws_eqIval_T, T.val]
theorem eqTold_refl (x : D.Told) : laws_eqTold x x = true := by
  simp [laws_eqTold, laws_eqTold_T, T.val, eqIval_refl]
theorem eqToldS_refl (a : List D.Told) : laws_eqToldS a a = true := by
  unfold laws_eqToldS
  simp only [laws_eqToldS_T, T.val, bne_self_eq_false, cond_false, S.res]
  refine (forL_same (l := a) fun i x hx => ?_).trans rfl
  have e : elem .told a i = x := by simp [elem, List.getD_eq_getElem?_getD, hx]
  simp [laws_eqToldS_l4_body, T.val, e, eqTold_refl]
theorem findM_put {α : Type} (k j : Int) (x : α) : ∀ m : List (Int × α), findM j (putM k x m) = if j = k then some x else findM j m
  | [] => by
    by_cases h : j = k
    · simp [putM, findM, h]
    · simp only [putM, findM, show (j == k) = false by simpa using h, if_neg h]
  | (i, y) :: r => by
    have ih := findM_put k j x r
    unfold putM
    by_cases hki : k = i
    · subst hki
      by_cases h : j = k
      · simp [findM, h]
      · simp only [beq_self_eq_true, findM, show (j == k) = false by simpa using h, if_neg h]
    · simp only [show (k == i) = false by simpa using hki, findM]
      by_cases hji : j = i
      · subst hji
        simp [show ¬ j = k from fun h => hki h.symm]
      · simp only [show (j == i) = false by simpa using hji, ih]
/-- Two answers of one node whose numbers do not rise. -/
def clash (x y : D.Told) : Bool := x.kind == 5 && (y.kind == 5 && (x.code == 0 && (y.code == 0 && (x.node == y.node && decide (y.value ≤ x.value)))))
def pairsOk : List D.Told → Bool
  | [] => true
  | x :: r => !(r.any (clash x)) && pairsOk r
theorem inner_any (a : List D.Told) (i4 : Int) : ∀ (r : List D.Told) (i : Int), forL (fun i x s => (spec_JudgeNonces_l7_body a i4 i x s).val) (fun s => (spec_JudgeNonces_l7_done a i4 s).val) r i () = bif r.any (clash (elem .told a i4.toNat)) then .out false else .on ()
  | [], i => rfl
  | x :: r, i => by
    have hv : (spec_JudgeNonces_l7_body a i4 i x ()).val = bif clash (elem .told a i4.toNat) x then .out (.out false) else .on () := by
      simp only [spec_JudgeNonces_l7_body, T.val, clash]
      cases (elem .told a i4.toNat).kind == 5 <;> cases x.kind == 5 <;> cases (elem .told a i4.toNat).code == 0 <;> cases x.code == 0 <;> cases (elem .told a i4.toNat).node == x.node <;> cases decide (x.value ≤ (elem .told a i4.toNat).value) <;> rfl
    have ih := inner_any a i4 r (i + 1)
    simp only [forL, List.any_cons]
    rw [hv]
    cases clash (elem .told a i4.toNat) x with
    | true => rfl
    | false => simp only [cond_false, Bool.false_or]; exact ih
theorem outer_ok (a : List D.Told) : ∀ (n k : Nat), k + n = a.length →
    forN (fun i s => S.join (fun t => spec_JudgeNonces_l7 a i t) (spec_JudgeNonces_l4_body a i s).val) (fun s => (spec_JudgeNonces_l4_done a s).val) n k () = pairsOk (a.drop k)
  | 0, k, h => by
    rw [List.drop_eq_nil_of_le (by omega)]
    rfl
  | n + 1, k, h => by
    have hlt : k < a.length := by omega
    have hel : elem .told a k = a[k] := by simp [elem, List.getD_eq_getElem?_getD, hlt]
    have ih := outer_ok a n (k + 1) (by omega)
    rw [show (((k + 1 : Nat)) : Int) = (k : Int) + 1 by omega] at ih
    have hin : spec_JudgeNonces_l7 a k () = bif (a.drop (k + 1)).any (clash a[k]) then .out false else .on () := by
      unfold spec_JudgeNonces_l7
      rw [inner_any, show ((k : Int) + 1).toNat = k + 1 by omega, Int.toNat_natCast, hel]
    rw [List.drop_eq_getElem_cons hlt]
    simp only [forN, spec_JudgeNonces_l4_body, T.val, S.join, hin, pairsOk]
    cases (a.drop (k + 1)).any (clash a[k]) with
    | true => rfl
    | false => simp only [cond_false, Bool.not_false, Bool.true_and]; exact ih
/-- An answer that is not above what is kept of its node. -/
def low (s : List (Int × Int)) (y : D.Told) : Bool := y.kind == 5 && (y.code == 0 && ((findM y.node s).isSome && decide (y.value ≤ findD y.node s 0)))
theorem any_or (p q r : D.Told → Bool) (h : ∀ y, p y = (q y || r y)) : ∀ l : List D.Told, l.any p = (l.any q || l.any r)
  | [] => rfl
  | y :: l => by
    simp only [List.any_cons, h y, any_or p q r h l]
    cases q y <;> cases r y <;> cases l.any q <;> rfl
theorem findD_put (k j x d : Int) (m : List (Int × Int)) : findD j (putM k x m) d = if j = k then x else findD j m d := by
  unfold findD
  rw [findM_put]
  by_cases h : j = k
  · rw [if_pos h, if_pos h]
  · rw [if_neg h, if_neg h]
theorem low_put (s : List (Int × Int)) (x : D.Told) (hx : x.kind = 5) (hc : x.code = 0) (hl : low s x = false) (y : D.Told) : low (putM x.node x.value s) y = (clash x y || low s y) := by
  simp only [low, clash, hx, hc, findD_put, findM_put, beq_self_eq_true, Bool.true_and] at hl ⊢
  by_cases hn : y.node = x.node
  · rw [hn]
    simp only [if_true, beq_self_eq_true, Bool.true_and, Option.isSome_some]
    cases h1 : (findM x.node s).isSome with
    | false => simp
    | true =>
      rw [h1] at hl
      simp only [Bool.true_and, decide_eq_false_iff_not] at hl
      by_cases h2 : y.value ≤ findD x.node s 0
      · simp [h2, show y.value ≤ x.value by omega]
      · simp [h2]
  · rw [if_neg hn, if_neg hn, show (x.node == y.node) = false by simp; exact fun h => hn h.symm]
    simp only [Bool.false_and, Bool.and_false, Bool.false_or]
theorem impl_body_val (a : List D.Told) (i : Int) (x : D.Told) (s : List (Int × Int)) : (impl_JudgeNonces_l5_body a i x s).val = bif x.kind == 5 && x.code == 0 then (bif low s x then .out false else .on (putM x.node x.value s)) else .on s := by
  simp only [impl_JudgeNonces_l5_body, T.val, low, bne]
  cases x.kind == 5 <;> cases x.code == 0 <;> cases (findM x.node s).isSome <;> cases decide (x.value ≤ findD x.node s 0) <;> rfl
theorem impl_ok (a : List D.Told) : ∀ (r : List D.Told) (i : Int) (s : List (Int × Int)), forL (fun i x s => (impl_JudgeNonces_l5_body a i x s).val) (fun s => (impl_JudgeNonces_l5_done a s).val) r i s = (pairsOk r && !(r.any (low s)))
  | [], i, s => rfl
  | x :: r, i, s => by
    have ih := impl_ok a r (i + 1)
    simp only [forL, pairsOk, List.any_cons]
    rw [impl_body_val]
    cases hkc : x.kind == 5 && x.code == 0 with
    | true =>
      simp only [Bool.and_eq_true, beq_iff_eq] at hkc
      obtain ⟨hk, hc⟩ := hkc
      cases hl : low s x with
      | true => simp
      | false =>
        simp only [cond_true, cond_false]
        rw [ih, any_or _ _ _ (low_put s x hk hc hl) r]
        cases r.any (clash x) <;> cases pairsOk r <;> cases r.any (low s) <;> rfl
    | false =>
      have hcl : clash x = fun _ => false := by
        funext y
        unfold clash
        revert hkc
        cases x.kind == 5 <;> cases x.code == 0 <;> simp
      have hlo : low s x = false := by
        unfold low
        revert hkc
        cases x.kind == 5 <;> cases x.code == 0 <;> simp
      have hn : r.any (fun _ : D.Told => false) = false := by simp
      simp only [cond_false, hcl, hlo, hn, Bool.not_false, Bool.true_and, Bool.false_or]
      exact ih s
theorem JudgeNonces_eq (a : List D.Told) : impl_JudgeNonces a = spec_JudgeNonces a := by
  unfold impl_JudgeNonces spec_JudgeNonces
  simp only [impl_JudgeNonces_T, spec_JudgeNonces_T, T.val]
  cases decide ((200 : Int) < (a.length : Int)) with
  | true => rfl
  | false =>
    simp only [cond_false, S.res, impl_JudgeNonces_l5, spec_JudgeNonces_l4]
    have h := outer_ok a a.length 0 (by omega)
    rw [List.drop_zero] at h
    rw [impl_ok, show ((a.length : Int) - 0).toNat = a.length by omega]
    refine Eq.trans ?_ h.symm
    have : low [] = fun _ => false := by funext y; simp [low, findM]
    rw [this]
    simp
theorem law_JudgeNonces (a : List D.Told) (ok_a : okL (okD .told) a) : laws_FnExactJudgeNonces a = true := by
  rw [laws_FnExactJudgeNonces_eqn]
  simp only [toToldS_eq, JudgeNonces_eq]
  simp only [eqToldS_refl, Bool.not_true, bne_self_eq_false, cond_false, beq_self_eq_true]
  cases decide (laws_szToldS a 1048576 < 0) <;> simp
end Go.X
