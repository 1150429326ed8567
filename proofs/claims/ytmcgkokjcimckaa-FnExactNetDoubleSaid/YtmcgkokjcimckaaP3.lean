/- Steps of the functions that a law of this seat reaches, and what they come to, for all arguments of the shapes that are named. -/
import Derived.Test.YtmcgkokjcimckaaY2
import Derived.Test.YtmcgkokjcimckaaYLaw
set_option linter.all false
namespace Go.X
open Go
set_option linter.unusedVariables false
set_option linter.unusedSimpArgs false
theorem eqFlight_refl (x : D.Flight) : laws_eqFlight x x = true := by
  simp [laws_eqFlight, laws_eqFlight_T, T.val]
theorem eqFlightS_refl (a : List D.Flight) : laws_eqFlightS a a = true := by
  unfold laws_eqFlightS
  simp only [laws_eqFlightS_T, T.val, bne_self_eq_false, cond_false, S.res]
  refine (forL_same (l := a) fun i x hx => ?_).trans rfl
  have e : elem .flight a i = x := by simp [elem, List.getD_eq_getElem?_getD, hx]
  simp [laws_eqFlightS_l4_body, T.val, e, eqFlight_refl]
theorem eqNet_refl (a : D.Net) : laws_eqNet a a = true := by
  simp [laws_eqNet, laws_eqNet_T, T.val, eqFlightS_refl]

@[reducible] def mF := nxtOf (fun i s => (laws_markFlightS_l2_body i s).val) (dflt .flight)
@[reducible] def rF := rowOf (fun i s => (laws_markFlightS_l2_body i s).val) (dflt .flight)
theorem markFlightS_eq (a : List D.Flight) (k : Int) : laws_markFlightS a k = (itK mF a.length k, rowsK mF rF a.length k) := by
  refine (forN_mark (nxt := mF) (row := rF) (done := fun s => (laws_markFlightS_l2_done s).val) (fun i k l hi => ?_) a.length 0 k a (by omega)).trans ?_
  · simp only [laws_markFlightS_l2_body, T.val, mF, rF, nxtOf, rowOf, S.get, Int.toNat_natCast, Int.toNat_zero]
    simp [elem_set, hi, elem, List.set_set]
  · simp [laws_markFlightS_l2_done, T.val]
theorem heldFlightS_eq (n : Nat) (k : Int) : laws_heldFlightS (rowsK mF rF n k) k = itK mF n k := by
  refine (forL_held (nxt := mF) (row := rF) (done := fun s => (laws_heldFlightS_l2_done _ s).val) (fun i k => ?_) n 0 k).trans rfl
  simp [laws_heldFlightS_l2_body, T.val, rF, rowOf, mF, nxtOf, S.get, laws_markFlightS_l2_body, elem]
theorem mF_lin (n : Nat) (h : 1 + 5 * (n : Int) ≤ 4611686018427387904) : itK mF n 1 = 1 + 5 * n := by
  refine itK_lin 5 (by omega) (fun k h0 h1 => ?_) n 1 (by omega) h
  have w : ∀ j, 0 ≤ j → j ≤ 1000 → w64 (k + j) = k + j := fun j h0 h1 => wrap64 (by omega) (by omega)
  simp only [mF, nxtOf, S.get, laws_markFlightS_l2_body, T.val, w, Int.add_assoc, Int.reduceAdd, Int.reduceLE]
theorem markNet_eq (a : D.Net) (k : Int) : laws_markNet a k = (itK mF a.list.length k, rowsK mF rF a.list.length k) := by
  simp only [laws_markNet, laws_markNet_T, T.val, markFlightS_eq]
theorem heldNet_eq (m : Int) (n : Nat) (h : 1 + 5 * (n : Int) ≤ 4611686018427387904) : laws_heldNet ⟨m, rowsK mF rF n 1⟩ 1 = 1 + 5 * n := by
  simp only [laws_heldNet, laws_heldNet_T, T.val, heldFlightS_eq, mF_lin n h, Bool.cond_eq_ite]
  rw [if_neg (by simp; omega)]

/-! nets that are well made -/
theorem in_eq : impl_in = spec_l1In := rfl
theorem flightOk_eq : impl_flightOk = spec_l5Flight := rfl
theorem findM_put {α : Type} (k j : Int) (x : α) : ∀ m : List (Int × α), findM j (putM k x m) = if j = k then some x else findM j m
  | [] => by
    by_cases h : j = k
    · simp [putM, findM, h]
    · simp only [putM, findM, show (j == k) = false by simpa using h, if_neg h]
  | (i, y) :: r => by
    have ih := findM_put k j x r
    unfold putM
    by_cases hki : k = i
    · subst hki
      by_cases h : j = k
      · simp [findM, h]
      · simp only [beq_self_eq_true, findM, show (j == k) = false by simpa using h, if_neg h]
    · simp only [show (k == i) = false by simpa using hki, findM]
      by_cases hji : j = i
      · subst hji
        simp [show ¬ j = k from fun h => hki h.symm]
      · simp only [show (j == i) = false by simpa using hji, ih]
/-- Is there one of this number? -/
def hasId (v : Int) (l : List D.Flight) : Bool := l.any fun f => f.id == v
theorem inner_eq (a : D.Net) (i4 : Int) (v : Int) (hv : (elem .flight a.list i4.toNat).id = v) : ∀ (n k : Nat), k + n ≤ a.list.length →
    forN (fun i s => (spec_NetOk_l9_body a i4 i s).val) (fun s => (spec_NetOk_l9_done a i4 s).val) n k () = bif hasId v ((a.list.drop k).take n) then .out false else .on ()
  | 0, k, _ => rfl
  | n + 1, k, h => by
    have hlt : k < a.list.length := by omega
    have hel : elem .flight a.list k = a.list[k] := by simp [elem, List.getD_eq_getElem?_getD, hlt]
    rw [List.drop_eq_getElem_cons hlt, List.take_succ_cons]
    simp only [forN, spec_NetOk_l9_body, T.val, Int.toNat_natCast, hv, hel, hasId, List.any_cons]
    cases a.list[k].id == v with
    | true => rfl
    | false =>
      have ih := inner_eq a i4 v hv n (k + 1) (by omega)
      rw [show (((k + 1 : Nat)) : Int) = (k : Int) + 1 by omega] at ih
      simpa only [cond_false, Bool.false_or, spec_NetOk_l9_body, T.val, hasId, hv] using ih
theorem NetOk_loop (a : D.Net) : ∀ (r : List D.Flight) (i : Nat) (s : List (Int × Bool)), a.list.drop i = r → (∀ v, findD v s false = hasId v (a.list.take i)) →
    forL (fun i x s => S.join (fun t => spec_NetOk_l9 a i t) (spec_NetOk_l4_body a i x s).val) (fun s => (spec_NetOk_l4_done a s).val) r i () =
    forL (fun i x s => (impl_NetOk_l5_body a i x s).val) (fun s => (impl_NetOk_l5_done a s).val) r i s
  | [], i, s, _, _ => rfl
  | x :: r, i, s, hr, hs => by
    have hlt : i < a.list.length := by
      rcases Nat.lt_or_ge i a.list.length with h | h
      · exact h
      · rw [List.drop_eq_nil_of_le h] at hr; cases hr
    have hr2 := hr
    rw [List.drop_eq_getElem_cons hlt] at hr2
    obtain ⟨hx, hr2⟩ := List.cons.inj hr2
    have hel : elem .flight a.list i = x := by simp [elem, List.getD_eq_getElem?_getD, hlt, hx]
    have hin : spec_NetOk_l9 a i () = bif hasId x.id (a.list.take i) then .out false else .on () := by
      have := inner_eq a i x.id (by simp [hel]) i 0 (by omega)
      simpa [spec_NetOk_l9] using this
    simp only [forL, spec_NetOk_l4_body, impl_NetOk_l5_body, T.val, in_eq, flightOk_eq]
    cases spec_l5Flight x with
    | false => rfl
    | true =>
      cases spec_l1In x.id 0 (w64 (a.next - 1)) with
      | false => rfl
      | true =>
        simp only [Bool.not_true, cond_false, S.join, hin, hs]
        cases hh : hasId x.id (a.list.take i) with
        | true => rfl
        | false =>
          simp only [cond_false]
          refine NetOk_loop a r (i + 1) _ hr2 fun v => ?_
          rw [List.take_add_one, List.getElem?_eq_getElem hlt, hx]
          have h1 := hs v
          simp only [findD, findM_put] at h1 ⊢
          simp only [hasId, List.any_append, Option.toList, List.any_cons, List.any_nil, Bool.or_false]
          simp only [hasId] at h1
          by_cases hv : v = x.id
          · simp [hv]
          · rw [if_neg hv, h1, show (x.id == v) = false by simp; omega, Bool.or_false]
theorem NetOk_eq (a : D.Net) : impl_NetOk a = spec_NetOk a := by
  unfold impl_NetOk spec_NetOk
  have e : spec_NetOk_l4 a () = impl_NetOk_l5 a [] := NetOk_loop a a.list 0 [] rfl (fun v => rfl)
  simp only [impl_NetOk_T, spec_NetOk_T, T.val, in_eq]
  cases spec_l1In a.next 0 1000000 with
  | false => rfl
  | true =>
    cases decide ((40 : Int) < (a.list.length : Int)) with
    | true => rfl
    | false => exact e.symm

/-! taking from a net -/
theorem dropLoop (a : D.Net) (b : Int) (hb : 0 ≤ b) (hlt : b < (a.list.length : Int)) : ∀ (r : List D.Flight) (i : Nat) (s : List D.Flight), a.list.drop i = r →
    forL (fun i x s => (spec_NetTake_l7_body a b i x s).val) (fun s => (spec_NetTake_l7_done a b s).val) r i s =
      (⟨a.next, s ++ (bif decide ((i : Int) ≤ b) then (r.take (b.toNat - i) ++ r.drop (b.toNat - i + 1)) else r)⟩, elem .flight a.list b.toNat, 0)
  | [], i, s, hr => by
    simp only [forL, spec_NetTake_l7_done, T.val]
    cases decide ((i : Int) ≤ b) <;> simp
  | x :: r, i, s, hr => by
    have hi : i < a.list.length := by
      rcases Nat.lt_or_ge i a.list.length with h | h
      · exact h
      · rw [List.drop_eq_nil_of_le h] at hr; cases hr
    have hr2 : a.list.drop (i + 1) = r := by
      rw [List.drop_eq_getElem_cons hi] at hr
      exact (List.cons.inj hr).2
    have ih := dropLoop a b hb hlt r (i + 1)
    simp only [forL]
    rw [show (((i + 1 : Nat)) : Int) = (i : Int) + 1 by omega] at ih
    by_cases hib : (i : Int) = b
    · have hv : (spec_NetTake_l7_body a b i x s).val = .on s := by
        simp only [spec_NetTake_l7_body, T.val, hib, bne_self_eq_false, cond_false]
      rw [hv]
      simp only
      rw [ih s hr2, show decide ((i : Int) + 1 ≤ b) = false by simp; omega, show decide ((i : Int) ≤ b) = true by simp; omega, show b.toNat - i = 0 by omega]
      simp
    · have hv : (spec_NetTake_l7_body a b i x s).val = .on (s ++ [x]) := by
        simp only [spec_NetTake_l7_body, T.val, show ((i : Int) != b) = true by simpa using hib, cond_true]
      rw [hv]
      simp only
      rw [ih (s ++ [x]) hr2]
      by_cases hle : (i : Int) + 1 ≤ b
      · rw [show decide ((i : Int) + 1 ≤ b) = true by simpa using hle, show decide ((i : Int) ≤ b) = true by simp; omega, show b.toNat - i = (b.toNat - (i + 1)) + 1 by omega]
        simp
      · rw [show decide ((i : Int) + 1 ≤ b) = false by simpa using hle, show decide ((i : Int) ≤ b) = false by simp; omega]
        simp
theorem own_eq (a : D.Net) : impl_Net_own a = a := by
  have hcl := Clone_Flight_eq a.list
  simp [impl_Net_own, impl_Net_own_T, T.val, hcl]
theorem at_val (a : D.Net) (b : Int) (ha : a.list.length ≤ maxLen) : impl_Net_at a [b] = bif spec_NetOk a then (bif decide (0 ≤ b) && decide (b < (a.list.length : Int)) then 0 else 2) else 1 := by
  have hml := maxLen_eq
  unfold impl_Net_at
  simp only [impl_Net_at_T, T.val, NetOk_eq]
  cases spec_NetOk a with
  | false => rfl
  | true =>
    have hw : w64 ((a.list.length : Int) - 1) = (a.list.length : Int) - 1 := w64_id (by omega) (by omega)
    simp only [Bool.not_true, cond_false, cond_true, S.res, impl_Net_at_l4, forL, impl_Net_at_l4_body, impl_Net_at_l4_done, T.val, hw, impl_in, impl_in_T]
    by_cases h0 : 0 ≤ b
    · by_cases h1 : b < (a.list.length : Int)
      · simp [h0, h1, show b ≤ (a.list.length : Int) - 1 by omega]
      · simp [h0, h1, show ¬ b ≤ (a.list.length : Int) - 1 by omega]
    · simp [h0]
theorem drop_val (a : D.Net) (b : Int) (ha : a.list.length ≤ maxLen) : impl_NetDrop a b = bif spec_NetOk a then (bif decide (0 ≤ b) && decide (b < (a.list.length : Int)) then (⟨a.next, a.list.take b.toNat ++ a.list.drop (b.toNat + 1)⟩, 0) else (a, 2)) else (D.Net.zero, 1) := by
  have hml := maxLen_eq
  have hcl := Clone_Flight_eq a.list
  have hown := own_eq a
  have hat := at_val a b ha
  unfold impl_NetDrop impl_NetDrop_T
  simp only [T.val, hat]
  cases spec_NetOk a with
  | false => rfl
  | true =>
    by_cases h0 : 0 ≤ b
    · by_cases h1 : b < (a.list.length : Int)
      · have hw : w64 (b + 1) = b + 1 := w64_id (by omega) (by omega)
        have hc : (decide (0 ≤ b) && decide (b < (a.list.length : Int))) = true := by simp [h0, h1]
        simp only [hc, cond_true, cond_false, bne_self_eq_false, hcl, hw, show (b == b + 1) = false by simp; omega]
        congr 1
        have e1 : (b + 1).toNat = b.toNat + 1 := by omega
        simp only [e1, Nat.sub_zero, List.drop_zero]
        have e2 : (a.list.drop (b.toNat + 1)).take (a.list.length - (b.toNat + 1)) = a.list.drop (b.toNat + 1) := by
          rw [List.take_of_length_le (by simp)]
        simp only [e2]
        obtain ⟨P, hP⟩ : ∃ P, P = a.list.take b.toNat ++ a.list.drop (b.toNat + 1) := ⟨_, rfl⟩
        have hm : b.toNat + (a.list.drop (b.toNat + 1)).length = P.length := by rw [hP]; simp; omega
        rw [← hP, hm]
        have ht : ∀ Q : List D.Flight, (P ++ Q).take P.length = P := fun Q => List.take_left
        simp only [ht, Int.toNat_natCast, List.append_assoc]
      · have hc : (decide (0 ≤ b) && decide (b < (a.list.length : Int))) = false := by simp [h1]
        simp only [hc, cond_true, cond_false]
        simp [impl_Net_refused, impl_Net_refused_T, T.val, hown]
    · have hc : (decide (0 ≤ b) && decide (b < (a.list.length : Int))) = false := by simp [h0]
      simp only [hc, cond_true, cond_false]
      simp [impl_Net_refused, impl_Net_refused_T, T.val, hown]
theorem take_eq (a : D.Net) (b : Int) (ha : a.list.length ≤ maxLen) : impl_NetTake a b = spec_NetTake a b := by
  have hml := maxLen_eq
  have hdrop := drop_val a b ha
  unfold impl_NetTake spec_NetTake impl_NetTake_T
  simp only [T.val, hdrop, spec_NetTake_T, l5Copy_eq]
  cases spec_NetOk a with
  | false => rfl
  | true =>
    by_cases h0 : 0 ≤ b
    · by_cases h1 : b < (a.list.length : Int)
      · have hc : (decide (0 ≤ b) && decide (b < (a.list.length : Int))) = true := by simp [h0, h1]
        simp only [hc, cond_true, cond_false, bne_self_eq_false, Bool.not_true, show decide (b < 0) = false by simp; omega, show decide ((a.list.length : Int) ≤ b) = false by simp; omega, S.res]
        have := dropLoop a b h0 h1 a.list 0 [] rfl
        rw [show ((0 : Nat) : Int) = 0 from rfl, show decide ((0 : Int) ≤ b) = true by simpa using h0] at this
        unfold spec_NetTake_l7
        rw [this]
        simp
      · have hc : (decide (0 ≤ b) && decide (b < (a.list.length : Int))) = false := by simp [h1]
        simp only [hc, cond_true, cond_false, Bool.not_true, show decide (b < 0) = false by simp; omega, show decide ((a.list.length : Int) ≤ b) = true by simp; omega, S.res]
        rfl
    · have hc : (decide (0 ≤ b) && decide (b < (a.list.length : Int))) = false := by simp [h0]
      simp only [hc, cond_true, cond_false, Bool.not_true, show decide (b < 0) = true by simp; omega, S.res]
      rfl

theorem drop_eq (a : D.Net) (b : Int) (ha : a.list.length ≤ maxLen) : impl_NetDrop a b = spec_NetDrop a b := by
  simp only [spec_NetDrop, spec_NetDrop_T, T.val, ← take_eq a b ha, impl_NetTake, impl_NetTake_T]
  cases ((impl_NetDrop a b).2 != 0) <;> rfl
theorem drop_length (a : D.Net) (b : Int) (ha : a.list.length ≤ maxLen) : (spec_NetDrop a b).1.list.length ≤ a.list.length := by
  rw [← drop_eq a b ha, drop_val a b ha]
  cases spec_NetOk a with
  | false => simp [D.Net.zero]
  | true =>
    cases decide (0 ≤ b) && decide (b < (a.list.length : Int)) with
    | false => simp
    | true => simp; omega
theorem take_fst (a : D.Net) (b : Int) : (spec_NetTake a b).1 = (spec_NetDrop a b).1 := by
  simp only [spec_NetDrop, spec_NetDrop_T, T.val]
theorem law_NetDrop (a : D.Net) (b : Int) (ok_a : D.Net.ok a) (ok_b : i64 b) : laws_FnExactNetDrop a b = true := by
  rw [laws_FnExactNetDrop_eqn]
  have hml := maxLen_eq
  have ha := (ok_a.2).1
  have hz := szNet_le a 1048576 ha (by omega) (by omega)
  have hl := drop_length a b ha
  have h1 := drop_eq a b ha
  simp only [toNet_eq, h1]
  simp only [eqNet_refl, eqFlight_refl]
  simp only [Bool.not_true, bne_self_eq_false, cond_false]
  simp only [markNet_eq]
  cases hs : decide (laws_szNet a 1048576 < 0) with
  | true => rfl
  | false =>
    simp only [decide_eq_false_iff_not] at hs
    have hn := hz (by omega)
    rw [heldNet_eq _ _ (by omega), mF_lin _ (by omega), mF_lin _ (by omega)]
    rw [show decide (1 + 5 * (a.list.length : Int) < 0) = false by simp; omega, show decide (1 + 5 * ((spec_NetDrop a b).1.list.length : Int) < 0) = false by simp; omega]
    simp only [bne_self_eq_false, cond_false]
theorem law_NetTake (a : D.Net) (b : Int) (ok_a : D.Net.ok a) (ok_b : i64 b) : laws_FnExactNetTake a b = true := by
  rw [laws_FnExactNetTake_eqn]
  have hml := maxLen_eq
  have ha := (ok_a.2).1
  have hz := szNet_le a 1048576 ha (by omega) (by omega)
  have hl := drop_length a b ha
  rw [← take_fst] at hl
  have h1 := take_eq a b ha
  simp only [toNet_eq, h1]
  simp only [eqNet_refl, eqFlight_refl]
  simp only [Bool.not_true, bne_self_eq_false, cond_false]
  simp only [markNet_eq]
  cases hs : decide (laws_szNet a 1048576 < 0) with
  | true => rfl
  | false =>
    simp only [decide_eq_false_iff_not] at hs
    have hn := hz (by omega)
    rw [heldNet_eq _ _ (by omega), mF_lin _ (by omega), mF_lin _ (by omega)]
    rw [show decide (1 + 5 * (a.list.length : Int) < 0) = false by simp; omega, show decide (1 + 5 * ((spec_NetTake a b).1.list.length : Int) < 0) = false by simp; omega]
    simp only [bne_self_eq_false, cond_false]

/-! doubling -/
theorem NetOk_all_at (a : D.Net) : ∀ (r : List D.Flight) (i : Int) (s : List (Int × Bool)), forL (fun i x s => (impl_NetOk_l5_body a i x s).val) (fun s => (impl_NetOk_l5_done a s).val) r i s = true → ∀ x ∈ r, spec_l5Flight x = true
  | [], i, s, h, x, hx => by cases hx
  | y :: r, i, s, h, x, hx => by
    simp only [forL, impl_NetOk_l5_body, T.val, flightOk_eq] at h
    cases hy : spec_l5Flight y with
    | false => rw [hy] at h; cases h
    | true =>
      rw [hy] at h
      cases h2 : impl_in y.id 0 (w64 (a.next - 1)) with
      | false => rw [h2] at h; cases h
      | true =>
        rw [h2] at h
        cases h3 : findD y.id s false with
        | true => rw [h3] at h; cases h
        | false =>
          rw [h3] at h
          rcases List.mem_cons.1 hx with rfl | hx
          · exact hy
          · exact NetOk_all_at a r (i + 1) _ h x hx
theorem NetOk_all (a : D.Net) (h : spec_NetOk a = true) : ∀ x ∈ a.list, spec_l5Flight x = true := by
  rw [← NetOk_eq] at h
  unfold impl_NetOk at h
  simp only [impl_NetOk_T, T.val] at h
  cases h1 : impl_in a.next 0 1000000 with
  | false => rw [h1] at h; cases h
  | true =>
    rw [h1] at h
    cases h2 : decide ((40 : Int) < (a.list.length : Int)) with
    | true => rw [h2] at h; cases h
    | false =>
      rw [h2] at h
      exact NetOk_all_at a a.list 0 [] h
theorem put_val (a : D.Net) (f : D.Flight) : impl_Net_put a f = bif (a.list.length : Int) == 40 then (a, 3) else bif (a.next : Int) == 1000000 then (a, 3) else (⟨w64 (a.next + 1), a.list ++ [⟨a.next, f.frm, f.to, f.bytes, f.at_⟩]⟩, 0) := by
  rw [impl_Net_put_eqn]
  simp only [own_eq, Clone_Flight_eq]
theorem take_val (a : D.Net) (b : Int) (ha : a.list.length ≤ maxLen) : spec_NetTake a b = bif spec_NetOk a then (bif decide (0 ≤ b) && decide (b < (a.list.length : Int)) then (⟨a.next, a.list.take b.toNat ++ a.list.drop (b.toNat + 1)⟩, elem .flight a.list b.toNat, 0) else (a, D.Flight.zero, 2)) else (D.Net.zero, D.Flight.zero, 1) := by
  rw [← take_eq a b ha, impl_NetTake_eqn, drop_val a b ha]
  cases spec_NetOk a with
  | false => rfl
  | true => cases decide (0 ≤ b) && decide (b < (a.list.length : Int)) <;> rfl
theorem double_eq (a : D.Net) (b : Int) (ha : a.list.length ≤ maxLen) : impl_NetDouble a b = spec_NetDouble a b := by
  rw [impl_NetDouble_eqn, spec_NetDouble_eqn]
  rw [at_val a b ha, take_val a b ha]
  cases hok : spec_NetOk a with
  | false => rfl
  | true =>
    cases hc : decide (0 ≤ b) && decide (b < (a.list.length : Int)) with
    | false =>
      simp only [cond_true, cond_false]
      simp [impl_Net_refused_eqn, own_eq]
    | true =>
      simp only [Bool.and_eq_true, decide_eq_true_eq] at hc
      have hlt : b.toNat < a.list.length := by omega
      have hel : elem .flight a.list b.toNat = a.list[b.toNat] := by simp [elem, List.getD_eq_getElem?_getD, hlt]
      have hfl := NetOk_all a hok a.list[b.toNat] (List.getElem_mem hlt)
      have hfl2 : spec_l5Flight ⟨a.next, a.list[b.toNat].frm, a.list[b.toNat].to, a.list[b.toNat].bytes, a.list[b.toNat].at_⟩ = true := hfl
      simp only [cond_true, bne_self_eq_false, cond_false, hel, put_val, spec_NetSend_eqn, hok, hfl2, l5Copy_eq, Bool.not_true]
theorem double_length (a : D.Net) (b : Int) (ha : a.list.length ≤ maxLen) : (spec_NetDouble a b).1.list.length ≤ a.list.length + 1 := by
  rw [← double_eq a b ha, impl_NetDouble_eqn]
  cases (impl_Net_at a [b] != 0) with
  | true =>
    simp only [cond_true, impl_Net_refused_eqn, own_eq]
    cases (impl_Net_at a [b] == 1) <;> simp [D.Net.zero]
  | false =>
    simp only [cond_false, put_val]
    cases ((a.list.length : Int) == 40) with
    | true => simp
    | false => cases (a.next == 1000000) <;> simp
theorem law_NetDouble (a : D.Net) (b : Int) (ok_a : D.Net.ok a) (ok_b : i64 b) : laws_FnExactNetDouble a b = true := by
  rw [laws_FnExactNetDouble_eqn]
  have hml := maxLen_eq
  have ha := (ok_a.2).1
  have hz := szNet_le a 1048576 ha (by omega) (by omega)
  have hl := double_length a b ha
  have h1 := double_eq a b ha
  simp only [toNet_eq, h1]
  simp only [eqNet_refl, eqFlight_refl]
  simp only [Bool.not_true, bne_self_eq_false, cond_false]
  simp only [markNet_eq]
  cases hs : decide (laws_szNet a 1048576 < 0) with
  | true => rfl
  | false =>
    simp only [decide_eq_false_iff_not] at hs
    have hn := hz (by omega)
    rw [heldNet_eq _ _ (by omega), mF_lin _ (by omega), mF_lin _ (by omega)]
    rw [show decide (1 + 5 * (a.list.length : Int) < 0) = false by simp; omega, show decide (1 + 5 * ((spec_NetDouble a b).1.list.length : Int) < 0) = false by simp; omega]
    simp only [bne_self_eq_false, cond_false]
end Go.X
