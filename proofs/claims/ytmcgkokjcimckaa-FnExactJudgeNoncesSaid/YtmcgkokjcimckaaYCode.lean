/- The run of a function's code does what the abstract run says, if the answer of that is true. -/
import Derived.Test.YtmcgkokjcimckaaYFirst
set_option linter.all false
namespace Go.X
open Go
set_option linter.unusedSimpArgs false
set_option linter.unusedVariables false

section
variable {E : Env} {call : FuncId → List AV → List Blk → Kont → Bool} {w0 : World} {M : Nat → Prop} {c0 : Cx} {n0 N : Nat} {Q : Exit → Act → World → Prop}

theorem wanted_some {o : Oper} {f : Nat → Option Bool} {j : Nat} {want : Bool} (hg : o.guard = some (j, want)) : Region.wanted o f = (f j == some want) := by simp [Region.wanted, hg]

theorem yielded_bool {c : Cx} {a : Act} {ops : Array Oper} {j : Nat} {t : Tmp} {b : Bool} (ht : (ops[j]?).bind (·.dst) = some t) (hv : VRel c (.one (.bool b)) (a.tmps.getD t undef)) : yielded ops a.tmps j = some b := by
  have hv := bool_of' hv
  unfold yielded
  rw [ht]
  simp only [Option.bind_some]
  rw [Array.getD_eq_getD_getElem?] at hv
  cases h : a.tmps[t]? with
  | none => rw [h] at hv; cases hv
  | some v => rw [h] at hv; simp at hv; subst hv; rfl

theorem yielded_undef {c : Cx} {a : Act} {ops : Array Oper} {j : Nat} {t : Tmp} (ht : (ops[j]?).bind (·.dst) = some t) (hv : VRel c .undef (a.tmps.getD t undef)) : yielded ops a.tmps j = none := by
  unfold yielded
  rw [ht]
  simp only [Option.bind_some]
  rw [Array.getD_eq_getD_getElem?] at hv
  cases h : a.tmps[t]? with
  | none => rfl
  | some v =>
    rw [h] at hv
    simp only [Option.getD_some] at hv
    generalize hu : v = u at hv
    cases hv
    rfl

/-- The cases of an operation behind its guard. -/
theorem guard_cases {ops : Array Oper} {o : Oper} {rest : List Oper} {st : St} {K : St → Bool} (hk : exOps E call n0 ops (o :: rest) st K = true) {c : Cx} {a : Act} (h : Good w0 M c0 n0 c N st a) (hd : ∀ n, o.dst = some n → n < N) :
    (Region.wanted o (yielded ops a.tmps) = true ∧ ∃ st', Good w0 M c0 n0 c N st' a ∧ exOp E call n0 o st' (fun st' => exOps E call n0 ops rest st' K) = true) ∨
    (Region.wanted o (yielded ops a.tmps) = false ∧ ∃ st', Good w0 M c0 n0 c N st' (a.put o.dst undef) ∧ exOps E call n0 ops rest st' K = true) := by
  unfold exOps at hk
  split at hk
  · rename_i hg
    exact .inl ⟨by simp [Region.wanted, hg], st, h, hk⟩
  · rename_i j want hg
    split at hk
    · cases hk
    · rename_i t ht
      split at hk
      · rename_i b hb
        have hv := h.t t
        rw [hb] at hv
        have hy := yielded_bool ht hv
        rw [wanted_some hg, hy]
        have hs := h.sub hb rfl
        cases b <;> cases want <;> simp only [br] at hk
        · exact .inl ⟨rfl, _, hs, hk⟩
        · exact .inr ⟨rfl, _, hs.set hd .undef, hk⟩
        · exact .inr ⟨rfl, _, hs.set hd .undef, hk⟩
        · exact .inl ⟨rfl, _, hs, hk⟩
      · rename_i hb
        have hv := h.t t
        rw [hb] at hv
        have hy := yielded_undef ht hv
        rw [wanted_some hg, hy]
        exact .inr ⟨rfl, _, h.set hd .undef, hk⟩
      · cases hk

theorem exOps_ok (hT : tabOk E.P E.T = true) (hc : CallOk E.P call) (ops : Array Oper) : ∀ (l : List Oper) (st : St) (K : St → Bool) (c : Cx) (a : Act), (∀ o ∈ l, ∀ n, o.dst = some n → n < N) → exOps E call n0 ops l st K = true → Good w0 M c0 n0 c N st a →
    (∀ (c' : Cx) (st' : St) (a' : Act), K st' = true → Good w0 M c0 n0 c' N st' a' → Q .normal a' c'.w) → wpList E.P ops Q l a c.w
  | [], st, K, c, a, hd, hk, h, hq => hq c st a hk h
  | o :: rest, st, K, c, a, hd, hk, h, hq => by
    have hdo := hd o (by simp)
    have hdr : ∀ o ∈ rest, ∀ n, o.dst = some n → n < N := fun o ho => hd o (by simp [ho])
    unfold wpList
    rcases guard_cases hk h hdo with ⟨hw, st', h', hk'⟩ | ⟨hw, st', h', hk'⟩
    · rw [if_pos hw]
      exact .inl (exOp_ok hT hc h' hdo (fun c' st2 a' hk2 h2 => exOps_ok hT hc ops rest st2 K c' a' hdr hk2 h2 hq) hk')
    · rw [if_neg (by rw [hw]; simp)]
      exact exOps_ok hT hc ops rest st' K c _ hdr hk' h' hq

theorem exOps_append (ops : Array Oper) (m : List Oper) (K : St → Bool) : ∀ (l : List Oper) (st : St), exOps E call n0 ops (l ++ m) st K = exOps E call n0 ops l st (fun st' => exOps E call n0 ops m st' K)
  | [], st => rfl
  | o :: l, st => by
    have ih : (fun st' => exOps E call n0 ops (l ++ m) st' K) = fun st' => exOps E call n0 ops l st' (fun st' => exOps E call n0 ops m st' K) := funext fun st' => exOps_append ops m K l st'
    have ih' := exOps_append ops m K l
    simp only [List.cons_append, exOps, ih']

theorem pickPure_ok {P : Program} {ops : Array Oper} {listed : Array Bool} : ∀ {r : List Nat} {i : Nat}, pickPure P ops listed r = some i → i ∈ r ∧ ∃ o, ops[i]? = some o ∧ pureO P o = true ∧ Region.free .any ops listed i = true
  | [], i, h => by cases h
  | j :: r, i, h => by
    unfold pickPure at h
    split at h
    · rename_i o ho
      split at h
      · rename_i hp
        cases h
        simp only [Bool.and_eq_true] at hp
        exact ⟨by simp, o, ho, hp.1, hp.2⟩
      · obtain ⟨h1, h2⟩ := pickPure_ok h
        exact ⟨by simp [h1], h2⟩
    · obtain ⟨h1, h2⟩ := pickPure_ok h
      exact ⟨by simp [h1], h2⟩

theorem allOf_ok {f : Nat → Bool} : ∀ {r : List Nat}, allOf r f = true → ∀ i ∈ r, f i = true
  | [], _, i, hi => by cases hi
  | [j], h, i, hi => by simp at hi; subst hi; exact h
  | j :: k :: r, h, i, hi => by
    simp only [allOf, Bool.and_eq_true] at h
    rcases List.mem_cons.1 hi with rfl | hi
    · exact h.1
    · exact allOf_ok (r := k :: r) h.2 i hi

/-- Left by its end alone. -/
def endOnly (Q : Exit → Act → World → Prop) : Exit → Act → World → Prop
  | .normal, a, w => Q .normal a w
  | _, _, _ => False

theorem pickFar_ok {st : St} {ops : Array Oper} {listed : Array Bool} : ∀ {r : List Nat} {i : Nat}, pickFar E st ops listed r = some i → i ∈ r ∧ ∃ o t x d y k, ops[i]? = some o ∧ o.op = .load t x ∧ o.guard = none ∧ ev E 2 st x = .one (.pdat d y k) ∧ Region.free .any ops listed i = true
  | [], i, h => by cases h
  | j :: r, i, h => by
    have next : pickFar E st ops listed r = some i → i ∈ j :: r ∧ ∃ o t x d y k, ops[i]? = some o ∧ o.op = .load t x ∧ o.guard = none ∧ ev E 2 st x = .one (.pdat d y k) ∧ Region.free .any ops listed i = true := fun h => by
      obtain ⟨h1, h2⟩ := pickFar_ok h
      exact ⟨by simp [h1], h2⟩
    unfold pickFar at h
    split at h
    · rename_i o ho
      split at h
      · rename_i t x hop hg
        split at h
        · rename_i d y k hev
          split at h
          · rename_i hf
            cases h
            exact ⟨by simp, o, t, x, d, y, k, ho, hop, hg, hev, hf⟩
          · exact next h
        · exact next h
      · exact next h
    · exact next h
theorem exDraw_ok (hT : tabOk E.P E.T = true) (hc : CallOk E.P call) {ops : Array Oper} (hd : ∀ o ∈ ops.toList, ∀ n, o.dst = some n → n < N) (hsel : Region.noSelect ops = true) {K : St → Bool}
    (hq : ∀ (c' : Cx) (st' : St) (a' : Act), K st' = true → Good w0 M c0 n0 c' N st' a' → Q .normal a' c'.w) :
    ∀ (f : Nat) (listed : Array Bool) (st : St) (c : Cx) (a : Act), exDraw E call n0 ops f listed st K = true → Good w0 M c0 n0 c N st a → wpAnyI E.P .any ops (endOnly Q) (Keep c) f listed a c.w
  | 0, listed, st, c, a, hk, h => by
    unfold exDraw at hk
    split at hk
    · rename_i hr
      exact ⟨Keep.refl c, hr, hq c st a hk h⟩
    · cases hk
  | f + 1, listed, st, c, a, hk, h => by
    unfold exDraw at hk
    split at hk
    · rename_i hr
      exact ⟨Keep.refl c, fun _ => hq c st a hk h, fun i hi => by rw [hr] at hi; cases hi⟩
    · rename_i hne
      split at hk
      · rename_i i hp
        obtain ⟨hin, o, ho, hpu, hfr⟩ := pickPure_ok hp
        rw [ho] at hk
        simp only at hk
        have hdo := hd o (Array.mem_toList_iff.2 (Array.mem_of_getElem? ho))
        have hsp := Region.noSelect_spec hsel
        rcases guard_cases hk h hdo with ⟨hw, st', h', hk'⟩ | ⟨hw, st', h', hk'⟩
        · obtain ⟨v, st2, hr, hk2, h2⟩ := exOp_pure hT h' hdo hpu hk'
          exact wpAnyI_first ho hsp (fun _ _ _ hh => hh) f listed a c.w (fun j oj => Region.free_spec ho hfr j oj) hin (.inl ⟨hw, fun w _ => hr w (.inl hpu)⟩) (exDraw_ok hT hc hd hsel hq f _ st2 c _ hk2 h2)
        · exact wpAnyI_first ho hsp (fun _ _ _ hh => hh) f listed a c.w (fun j oj => Region.free_spec ho hfr j oj) hin (.inr ⟨hw, rfl⟩) (exDraw_ok hT hc hd hsel hq f _ st' c _ hk' h')
      · split at hk
        · rename_i i hp
          obtain ⟨hin, o, t, x, d, y, kk, ho, hop, hg, hev, hfr⟩ := pickFar_ok hp
          rw [ho] at hk
          simp only at hk
          have hdo := hd o (Array.mem_toList_iff.2 (Array.mem_of_getElem? ho))
          have hsp := Region.noSelect_spec hsel
          obtain ⟨v, st2, hr, hk2, h2⟩ := op_load_far h hdo hop hev hk
          exact wpAnyI_first ho hsp (fun _ _ _ hh => hh) f listed a c.w (fun j oj => Region.free_spec ho hfr j oj) hin (.inl ⟨by simp [Region.wanted, hg], hr⟩) (exDraw_ok hT hc hd hsel hq f _ st2 c _ hk2 h2)
        · refine ⟨Keep.refl c, fun hr => absurd hr hne, fun i hi => ?_⟩
          have hk := allOf_ok hk i hi
          split at hk
          · rename_i o ho
            have hdo := hd o (Array.mem_toList_iff.2 (Array.mem_of_getElem? ho))
            unfold wpOp
            rw [ho]
            simp only
            rcases guard_cases hk h hdo with ⟨hw, st', h', hk'⟩ | ⟨hw, st', h', hk'⟩
            · rw [if_pos hw]
              exact .inl (exOp_ok hT hc h'.rebase hdo (fun c' st2 a' hk2 h2 => (exDraw_ok hT hc hd hsel hq f _ st2 c' a' hk2 (h'.back h2)).mono fun w hw => hw.trans h2.up) hk')
            · rw [if_neg (by rw [hw]; simp)]
              exact exDraw_ok hT hc hd hsel hq f _ st' c _ hk' h'
          · cases hk

theorem wpStill_mono {P : Program} {ops : Array Oper} {w : World} {Q Q' : Act → Prop} (h : ∀ a, Q a → Q' a) : ∀ {l : List Oper} {a : Act}, wpStill P ops w Q l a → wpStill P ops w Q' l a
  | [], a, hh => h a hh
  | o :: l, a, hh => by
    unfold wpStill at hh ⊢
    split
    · rename_i hw
      rw [if_pos hw] at hh
      exact Oper.still_mono (fun a ha => wpStill_mono h ha) hh
    · rename_i hw
      rw [if_neg hw] at hh
      exact wpStill_mono h hh
theorem exOps_still (hT : tabOk E.P E.T = true) (ops : Array Oper) (rest : List Oper) {K : St → Bool} {c : Cx} : ∀ (l : List Oper) (st : St) (a : Act), (∀ o ∈ l, stillOp o.op || pureO E.P o) → (∀ o ∈ l, ∀ n, o.dst = some n → n < N) → exOps E call n0 ops (l ++ rest) st K = true → Good w0 M c0 n0 c N st a →
    wpStill E.P ops c.w (fun a' => ∃ st', exOps E call n0 ops rest st' K = true ∧ Good w0 M c0 n0 c N st' a') l a
  | [], st, a, hs, hd, hk, h => ⟨st, hk, h⟩
  | o :: l, st, a, hs, hd, hk, h => by
    have hdo := hd o (by simp)
    have hdr : ∀ o ∈ l, ∀ n, o.dst = some n → n < N := fun o ho => hd o (by simp [ho])
    have hsr : ∀ o ∈ l, stillOp o.op || pureO E.P o := fun o ho => hs o (by simp [ho])
    have hso : (stillOp o.op || pureO E.P o) = true := hs o (by simp)
    rw [List.cons_append] at hk
    unfold wpStill
    rcases guard_cases hk h hdo with ⟨hw, st', h', hk'⟩ | ⟨hw, st', h', hk'⟩
    · rw [if_pos hw]
      have hto : ∃ v st2, (execOp a.eval o).run E.P c.w = .ok (.value v) c.w ∧ exOps E call n0 ops (l ++ rest) st2 K = true ∧ Good w0 M c0 n0 c N st2 (a.put o.dst v) := by
        by_cases hp : stillOp o.op = true
        · obtain ⟨v, st2, hr, h2, h3⟩ := exOp_still hT h' hdo hp hk'
          exact ⟨v, st2, hr c.w (.inr rfl), h2, h3⟩
        · rw [Bool.eq_false_iff.2 hp, Bool.false_or] at hso
          obtain ⟨v, st2, hr, h2, h3⟩ := exOp_pure hT h' hdo hso hk'
          exact ⟨v, st2, hr c.w (.inr rfl), h2, h3⟩
      obtain ⟨v, st2, hr, h2, h3⟩ := hto
      unfold Oper.still
      rw [hr, Oper.stillUpon_value]
      exact exOps_still hT ops rest l st2 _ hsr hdr h2 h3
    · rw [if_neg (by rw [hw]; simp)]
      exact exOps_still hT ops rest l st' _ hsr hdr hk' h'
theorem stillHead_le {P : Program} : ∀ l : List Oper, stillHead P l ≤ l.length
  | [] => Nat.le_refl _
  | o :: r => by
    unfold stillHead
    split
    · have := stillHead_le (P := P) r; simp only [List.length_cons]; omega
    · exact Nat.zero_le _
theorem stillHead_ok {P : Program} : ∀ (l : List Oper), ∀ o ∈ l.take (stillHead P l), stillOp o.op || pureO P o
  | [], o, ho => by simp [stillHead] at ho
  | p :: r, o, ho => by
    unfold stillHead at ho
    split at ho
    · rename_i hp
      rw [List.take_succ_cons] at ho
      rcases List.mem_cons.1 ho with rfl | ho
      · exact hp
      · exact stillHead_ok r o ho
    · simp at ho
theorem region_lex_ok (hT : tabOk E.P E.T = true) (hc : CallOk E.P call) (hm : E.P.follows .mixedOrders = true) {id : Nat} {ops : Array Oper} {st : St} {K : St → Bool} {c : Cx} {a : Act} (hd : ∀ o ∈ ops.toList, ∀ n, o.dst = some n → n < N) (hl : lexOk E.P ops = true)
    (hk : exOps E call n0 ops ops.toList st K = true) (h : Good w0 M c0 n0 c N st a) (hq : ∀ (c' : Cx) (st' : St) (a' : Act), K st' = true → Good w0 M c0 n0 c' N st' a' → Q .normal a' c'.w) : (Code.region id ops true).wp E.P Q a c.w := by
  have hG := h.drew
  have hcut : ops.toList = ops.toList.take (stillHead E.P ops.toList) ++ ops.toList.drop (stillHead E.P ops.toList) := (List.take_append_drop _ _).symm
  have hk2 := hk
  rw [hcut] at hk2
  have hst := exOps_still hT ops (ops.toList.drop (stillHead E.P ops.toList)) (ops.toList.take (stillHead E.P ops.toList)) st a (stillHead_ok ops.toList) (fun o ho => hd o (List.mem_of_mem_take ho)) hk2 hG
  unfold lexOk at hl
  split at hl
  · rename_i hn
    have hn : stillHead E.P ops.toList = ops.size := Nat.eq_of_beq_eq_true hn
    have hn' : stillHead E.P ops.toList = ops.toList.length := by rw [hn]; simp
    rw [hn'] at hst
    rw [List.take_length, List.drop_length] at hst
    refine wp_region_still hm hl (wpStill_mono (fun a' ⟨st', h1, h2⟩ => hq _ st' a' h1 h2) hst)
  · have := wp_region_still_tail (Q := Q) (id := id) (l := ops.toList) (stillHead E.P ops.toList) hm hl (wpStill_mono (fun a' ⟨st', h1, h2⟩ => exOps_ok hT hc ops _ st' K _ a' (fun o ho => hd o (List.mem_of_mem_drop ho)) h1 h2 hq) hst)
    exact this

theorem region_draw_ok (hT : tabOk E.P E.T = true) (hc : CallOk E.P call) (hm : E.P.follows .mixedOrders = true) {id : Nat} {ops : Array Oper} {st : St} {K : St → Bool} {c : Cx} {a : Act} (hd : ∀ o ∈ ops.toList, ∀ n, o.dst = some n → n < N) (hsel : Region.noSelect ops = true)
    (hk : exDraw E call n0 ops ops.size (Array.replicate ops.size false) st K = true) (h : Good w0 M c0 n0 c N st a) (hq : ∀ (c' : Cx) (st' : St) (a' : Act), K st' = true → Good w0 M c0 n0 c' N st' a' → Q .normal a' c'.w) : (Code.region id ops true).wp E.P Q a c.w := by
  have hG := h.drew
  have := (exDraw_ok hT hc hd hsel hq ops.size _ st _ a hk hG).any
  refine Code.wp_mono (fun e a w hh => ?_) (wp_region_any hm this)
  cases e <;> first | exact hh | exact hh.elim

/-- One function's calls. -/
def CallOk1 (P : Program) (f : FuncId) (call : List AV → List Blk → Kont → Bool) : Prop :=
  ∀ (args : List AV) (B : List Blk) (K : Kont), call args B K = true →
  ∀ (w0 : World) (M : Nat → Prop) (c : Cx) (vs : Array Value), Own w0 M c → c.B = B → vs.size = args.length → (∀ (i : Nat) (x : AV), args[i]? = some x → VRel c x (vs.getD i undef)) →
  Calls P f vs c.w fun e w' => ∃ v c' rs, e = .returned v ∧ w' = c'.w ∧ K rs c'.B = true ∧ Own w0 M c' ∧ ImmUp c c' ∧ (∀ j, j < B.length → At c c' j j) ∧ VRel c' (resV rs) v

/-! ### the head of a loop -/
theorem get_mem (l : List (Nat × AV)) (n : Nat) : get l n = .any ∨ (n, get l n) ∈ l := by
  induction l with
  | nil => exact .inl rfl
  | cons x r ih =>
    obtain ⟨m, v⟩ := x
    simp only [get]
    cases h : Nat.beq m n with
    | true => have := Nat.eq_of_beq_eq_true h; subst this; exact .inr (by simp)
    | false =>
      rcases ih with h' | h'
      · exact .inl h'
      · exact .inr (by simp [h'])

theorem promC_ok {T : Tab} {w0 : World} {M : Nat → Prop} : ∀ (l : List AC) (f : Nat → Value) (c : Cx), Own w0 M c → (∀ (i : Nat) (x : AC), l[i]? = some x → CRel c x (f i)) →
    ∃ c', c'.w = c.w ∧ c'.B = (promC T l c.B).2 ∧ Own w0 M c' ∧ ImmUp c c' ∧ (∀ j, At c c' j j) ∧ (promC T l c.B).1.length = l.length ∧ ∀ (i : Nat) (x : AC), (promC T l c.B).1[i]? = some x → CRel c' x (f i)
  | [], f, c, hO, hl => ⟨c, rfl, rfl, hO, .refl c, fun j => .refl c j, rfl, fun i x hx => by simp [promC] at hx⟩
  | x :: r, f, c, hO, hl => by
    have hv := hl 0 x rfl
    have hr : ∀ (i : Nat) (y : AC), r[i]? = some y → CRel c y (f (i + 1)) := fun i y hy => hl (i + 1) y (by simpa using hy)
    have plain : promC T (x :: r) c.B = (x :: (promC T r c.B).1, (promC T r c.B).2) →
        ∃ c', c'.w = c.w ∧ c'.B = (promC T (x :: r) c.B).2 ∧ Own w0 M c' ∧ ImmUp c c' ∧ (∀ j, At c c' j j) ∧ (promC T (x :: r) c.B).1.length = (x :: r).length ∧ ∀ (i : Nat) (y : AC), (promC T (x :: r) c.B).1[i]? = some y → CRel c' y (f i) := by
      intro e
      obtain ⟨c', h1, h2, h3, h4, h5, h6, h7⟩ := promC_ok (T := T) r (fun i => f (i + 1)) c hO hr
      rw [e]
      refine ⟨c', h1, h2, h3, h4, h5, by simp [h6], fun i y hy => ?_⟩
      cases i with
      | zero => simp at hy; subst hy; exact hv.mono h4 h5
      | succ i => exact h7 i y (by simpa using hy)
    by_cases hn : ∃ d t, x = .nilS d ∧ tyOf T d = some t
    · obtain ⟨d, t, rfl, ht⟩ := hn
      have e : promC T (.nilS d :: r) c.B = (.own c.B.length :: (promC T r (c.B ++ [.rows t d []])).1, (promC T r (c.B ++ [.rows t d []])).2) := by
        simp only [promC, ht]
      rw [e]
      obtain ⟨g1, g2, g3⟩ := hO.pushN t d
      obtain ⟨c', h1, h2, h3, h4, h5, h6, h7⟩ := promC_ok (T := T) r (fun i => f (i + 1)) ⟨c.w, c.I, c.φ ++ [none], c.B ++ [.rows t d []]⟩ g3 (fun i y hy => (hr i y hy).mono g1 g2)
      refine ⟨c', h1, h2, h3, g1.trans h4, fun j => (g2 j).trans (h5 j), by simp [h6], fun i y hy => ?_⟩
      cases i with
      | zero =>
        simp at hy
        subst hy
        refine CRel.mono h4 h5 ?_
        generalize f 0 = q at hv
        cases hv
        exact .ownN (t := t) (d := d) (by simp) (by show (c.φ ++ [none])[c.B.length]? = _; rw [← hO.len]; simp)
      | succ i => exact h7 i y (by simpa using hy)
    · apply plain
      conv => lhs; unfold promC
      split
      · rename_i d
        split
        · rename_i t ht; exact absurd ⟨d, t, rfl, ht⟩ hn
        · rfl
      · rfl

theorem promV_ok {T : Tab} {w0 : World} {M : Nat → Prop} {v : AV} {u : Value} {c : Cx} (hO : Own w0 M c) (hv : VRel c v u) :
    ∃ c', c'.w = c.w ∧ c'.B = (promV T v c.B).2 ∧ Own w0 M c' ∧ ImmUp c c' ∧ (∀ j, At c c' j j) ∧ VRel c' (promV T v c.B).1 u := by
  have same : promV T v c.B = (v, c.B) → ∃ c', c'.w = c.w ∧ c'.B = (promV T v c.B).2 ∧ Own w0 M c' ∧ ImmUp c c' ∧ (∀ j, At c c' j j) ∧ VRel c' (promV T v c.B).1 u := fun e => by
    rw [e]; exact ⟨c, rfl, rfl, hO, .refl c, fun j => .refl c j, hv⟩
  cases v with
  | one x =>
    cases hv with
    | one hx =>
      obtain ⟨c', h1, h2, h3, h4, h5, h6, h7⟩ := promC_ok (T := T) [x] (fun _ => u) c hO (fun i y hy => by
        cases i with
        | zero => simp at hy; subst hy; exact hx
        | succ i => simp at hy)
      unfold promV
      simp only
      split
      · rename_i y B' he
        rw [he] at h2 h7
        exact ⟨c', h1, h2, h3, h4, h5, .one (h7 0 y rfl)⟩
      · exact ⟨c, rfl, rfl, hO, .refl c, fun j => .refl c j, .one hx⟩
  | agg l =>
    cases hv with
    | @agg _ cs hs hr =>
      obtain ⟨c', h1, h2, h3, h4, h5, h6, h7⟩ := promC_ok (T := T) l (fun i => cs.getD i undef) c hO hr
      exact ⟨c', h1, h2, h3, h4, h5, .agg (by rw [hs]; exact h6.symm) h7⟩
  | _ => exact same rfl

theorem promote_ok {T : Tab} {w0 : World} {M : Nat → Prop} (f : Nat → Value) : ∀ (l : List (Nat × AV)) (c : Cx), Own w0 M c → (∀ x ∈ l, VRel c x.2 (f x.1)) →
    ∃ c', c'.w = c.w ∧ c'.B = (promote T l c.B).2 ∧ Own w0 M c' ∧ ImmUp c c' ∧ (∀ j, At c c' j j) ∧ ∀ x ∈ (promote T l c.B).1, VRel c' x.2 (f x.1)
  | [], c, hO, hl => ⟨c, rfl, rfl, hO, .refl c, fun j => .refl c j, hl⟩
  | (n, v) :: r, c, hO, hl => by
    obtain ⟨c1, h1, h2, h3, h4, h5, h6⟩ := promV_ok (T := T) hO (hl (n, v) (by simp))
    obtain ⟨c2, g1, g2, g3, g4, g5, g6⟩ := promote_ok (T := T) f r c1 h3 (fun x hx => (hl x (by simp [hx])).mono h4 h5)
    rw [h2] at g2 g6
    refine ⟨c2, g1.trans h1, g2, g3, h4.trans g4, fun j => (h5 j).trans (g5 j), fun x hx => ?_⟩
    rcases List.mem_cons.1 hx with rfl | hx
    · exact h6.mono g4 g5
    · exact g6 x hx

/-- The cells of a box, told in other words. -/
theorem Own.rebox {w0 : World} {M : Nat → Prop} {c : Cx} (h : Own w0 M c) {j : Nat} {cs cs' : List AC} (hB : c.B[j]? = some (.box cs)) (hl : cs'.length = cs.length)
    (hr : ∀ {b : Nat} {cur : Array Value} {t : TypeId}, c.φ[j]? = some (some b) → c.w.heap[b]? = some (.cells cur t (0, 0)) → ∀ (i : Nat) (x : AC), cs'[i]? = some x → CRel c x (cur.getD i undef)) :
    let c' : Cx := ⟨c.w, c.I, c.φ, c.B.set j (.box cs')⟩
    ImmUp c c' ∧ (∀ i, At c c' i i) ∧ Own w0 M c' := by
  intro c'
  have hjl : j < c.B.length := (List.getElem?_eq_some_iff.1 hB).1
  have hi : ImmUp c c' := ⟨fun _ h => h, fun _ _ => rfl, fun _ h => .inl h, Nat.le_refl _⟩
  have hBj : c'.B[j]? = some (.box cs') := by simp [c', hjl]
  have hBi : ∀ i, i ≠ j → c'.B[i]? = c.B[i]? := fun i hij => List.getElem?_set_ne (Ne.symm hij)
  have ha : ∀ i, At c c' i i := fun i => by
    by_cases hij : i = j
    · subst hij
      refine ⟨fun x hx => hx, fun t d l hr => (by rw [hB] at hr; cases hr), fun cs2 hc => ⟨cs', hBj, by rw [hB] at hc; cases hc; exact hl⟩, fun d m hm => (by rw [hB] at hm; cases hm), fun _ _ _ _ h => h⟩
    · exact At.same rfl (hBi i hij) (fun _ _ => rfl)
  refine ⟨hi, ha, by simp [c', h.len], h.new, h.inj, h.imm, fun i x hx => ?_, h.os, h.tape, h.output, h.size, h.keep⟩
  by_cases hij : i = j
  · subst hij
    rw [hBj] at hx
    cases hx
    have := h.blk _ _ hB
    cases this with
    | box h1 h2 h3 h4 => exact .box h1 h2 (by omega) (fun m x hx => (hr h1 h2 m x hx).mono hi ha)
  · rw [hBi i hij] at hx
    exact (h.blk i x hx).mono hi ha rfl (fun _ _ => rfl)

theorem promB_ok {T : Tab} {w0 : World} {M : Nat → Prop} : ∀ (n i : Nat) (c : Cx), Own w0 M c →
    ∃ c', c'.w = c.w ∧ c'.B = promB T n i c.B ∧ Own w0 M c' ∧ ImmUp c c' ∧ (∀ j, At c c' j j)
  | 0, i, c, hO => ⟨c, rfl, rfl, hO, .refl c, fun j => .refl c j⟩
  | n + 1, i, c, hO => by
    unfold promB
    split
    · rename_i cs hB
      have hbl := hO.blk _ _ hB
      cases hbl with
      | @box _ b cur t h1 h2 h3 h4 =>
        obtain ⟨c1, g1, g2, g3, g4, g5, g6, g7⟩ := promC_ok (T := T) cs (fun i => cur.getD i undef) c hO h4
        obtain ⟨cs1, k1, k2⟩ := (g5 i).box _ hB
        have hφ1 := (g5 i).φ _ h1
        obtain ⟨r1, r2, r3⟩ := g3.rebox (cs' := (promC T cs c.B).1) k1 (by omega) (fun {b' cur' t'} q1 q2 m x hx => by
          rw [hφ1] at q1
          cases q1
          rw [g1, h2] at q2
          cases q2
          exact g7 m x hx)
        obtain ⟨c2, s1, s2, s3, s4, s5⟩ := promB_ok (T := T) n (i + 1) ⟨c1.w, c1.I, c1.φ, c1.B.set i (.box (promC T cs c.B).1)⟩ r3
        refine ⟨c2, s1.trans g1, ?_, s3, g4.trans (r1.trans s4), fun j => (g5 j).trans ((r2 j).trans (s5 j))⟩
        rw [s2]
        simp only [g2]
    · exact promB_ok (T := T) n (i + 1) c hO

theorem promR_ok {T : Tab} {w0 : World} {M : Nat → Prop} : ∀ (rs : List AV) (f : Nat → Value) (c : Cx), Own w0 M c → (∀ (i : Nat) (x : AV), rs[i]? = some x → VRel c x (f i)) →
    ∃ c', c'.w = c.w ∧ c'.B = (promR T rs c.B).2 ∧ Own w0 M c' ∧ ImmUp c c' ∧ (∀ j, At c c' j j) ∧ (promR T rs c.B).1.length = rs.length ∧ ∀ (i : Nat) (x : AV), (promR T rs c.B).1[i]? = some x → VRel c' x (f i)
  | [], f, c, hO, hl => ⟨c, rfl, rfl, hO, .refl c, fun j => .refl c j, rfl, fun i x hx => by simp [promR] at hx⟩
  | v :: r, f, c, hO, hl => by
    obtain ⟨c1, h1, h2, h3, h4, h5, h6⟩ := promV_ok (T := T) hO (hl 0 v rfl)
    obtain ⟨c2, g1, g2, g3, g4, g5, g6, g7⟩ := promR_ok (T := T) r (fun i => f (i + 1)) c1 h3 (fun i x hx => (hl (i + 1) x (by simpa using hx)).mono h4 h5)
    rw [h2] at g2 g6 g7
    refine ⟨c2, g1.trans h1, g2, g3, h4.trans g4, fun j => (h5 j).trans (g5 j), by simp [promR, g6], fun i x hx => ?_⟩
    cases i with
    | zero => simp [promR] at hx; subst hx; exact h6.mono g4 g5
    | succ i => exact g7 i x (by simpa [promR] using hx)

theorem placeOf_ok : ∀ (ρ : List Nat) (j k i : Nat), placeOf ρ j k = some i → k ≤ i ∧ ρ[i - k]? = some j
  | [], j, k, i, h => by simp [placeOf] at h
  | r :: ρ, j, k, i, h => by
    unfold placeOf at h
    split at h
    · rename_i hb
      have := Nat.eq_of_beq_eq_true hb
      subst this
      cases h
      simp
    · obtain ⟨h1, h2⟩ := placeOf_ok ρ j (k + 1) i h
      refine ⟨by omega, ?_⟩
      rw [show i - k = (i - (k + 1)) + 1 by omega]
      exact h2
theorem rename_ok {ρ : List Nat} {j i : Nat} (h : rename ρ j = some i) : ρ[i]? = some j := by
  have := (placeOf_ok ρ j 0 i h).2
  simpa using this

theorem addRefs_ok (l : List Nat) : ∀ (acc : List Nat), acc.Nodup → (addRefs acc l).Nodup ∧ ∃ m, addRefs acc l = acc ++ m := by
  induction l with
  | nil => intro acc h; exact ⟨h, [], by simp [addRefs]⟩
  | cons j l ih =>
    intro acc h
    unfold addRefs
    simp only [List.foldl_cons]
    split
    · exact ih acc h
    · rename_i hj
      have hj : j ∉ acc := by simpa using hj
      obtain ⟨h1, m, h2⟩ := ih (acc ++ [j]) (by
        rw [List.nodup_append]
        exact ⟨h, by simp, fun a ha b hb => by simp at hb; subst hb; exact fun e => hj (e ▸ ha)⟩)
      exact ⟨h1, j :: m, by rw [show List.foldl _ (acc ++ [j]) l = addRefs (acc ++ [j]) l from rfl, h2]; simp⟩
theorem closeRefs_ok (B : List Blk) : ∀ (n : Nat) (acc : List Nat), acc.Nodup → (closeRefs B n acc).Nodup ∧ ∃ m, closeRefs B n acc = acc ++ m
  | 0, acc, h => ⟨h, [], by simp [closeRefs]⟩
  | n + 1, acc, h => by
    obtain ⟨h1, m, h2⟩ := addRefs_ok (acc.flatMap (blkRefs B)) acc h
    obtain ⟨h3, m', h4⟩ := closeRefs_ok B n _ h1
    unfold closeRefs
    exact ⟨h3, m ++ m', by rw [h4, h2]; simp⟩
theorem upto_eq : ∀ n, upto n = List.range n
  | 0 => rfl
  | n + 1 => by rw [upto, upto_eq n, List.range_succ]

/-- Blocks anew. -/
theorem renew_ok {w0 : World} {M : Nat → Prop} {c : Cx} (hO : Own w0 M c) {ρ : List Nat} (hρ : ρ.Nodup) :
    let c' : Cx := ⟨c.w, c.I, ρ.map fun j => c.φ.getD j none, newB ρ c.B⟩
    ImmUp c c' ∧ (∀ j i : Nat, ρ[i]? = some j → At c c' j i) ∧ Own w0 M c' := by
  intro c'
  have hi : ImmUp c c' := ⟨fun _ h => h, fun _ _ => rfl, fun _ h => .inl h, Nat.le_refl _⟩
  have hφ : ∀ (j i : Nat), ρ[i]? = some j → c'.φ[i]? = some (c.φ.getD j none) := fun j i h => by
    show (ρ.map _)[i]? = _
    rw [List.getElem?_map, h]; rfl
  have hB : ∀ (j i : Nat), ρ[i]? = some j → c'.B[i]? = some ((c.B.getD j .dead).rn (rename ρ)) := fun j i h => by
    show (newB ρ c.B)[i]? = _
    unfold newB
    rw [List.getElem?_map, h]; rfl
  have ha : ∀ j i : Nat, ρ[i]? = some j → At c c' j i := fun j i h =>
    ⟨fun x hx => by rw [hφ j i h, List.getD_eq_getElem?_getD, hx]; rfl,
     fun t d rs hr => ⟨rs, by rw [hB j i h, List.getD_eq_getElem?_getD, hr]; rfl, rfl⟩,
     fun cs hc => ⟨cs.map (AC.rn (rename ρ)), by rw [hB j i h, List.getD_eq_getElem?_getD, hc]; rfl, by simp⟩,
     fun d m hm => ⟨m, by rw [hB j i h, List.getD_eq_getElem?_getD, hm]; rfl⟩, fun b t k _ h => h⟩
  have hg : ∀ j n, rename ρ j = some n → At c c' j n := fun j n h => ha j n (rename_ok h)
  have hback : ∀ (i b : Nat), c'.φ[i]? = some (some b) → ∃ j : Nat, ρ[i]? = some j ∧ c.φ[j]? = some (some b) := fun i b hb => by
    have hb' : (ρ.map fun j => c.φ.getD j none)[i]? = some (some b) := hb
    rw [List.getElem?_map] at hb'
    cases hr : ρ[i]? with
    | none => rw [hr] at hb'; cases hb'
    | some j =>
      rw [hr] at hb'
      simp only [Option.map_some, Option.some.injEq] at hb'
      refine ⟨j, rfl, ?_⟩
      rw [List.getD_eq_getElem?_getD] at hb'
      cases hp : c.φ[j]? with
      | none => rw [hp] at hb'; cases hb'
      | some p => rw [hp] at hb'; simp at hb'; rw [hb']
  refine ⟨hi, ha, by simp [c', newB], fun i b hb => ?_, fun i k b hb hk => ?_, hO.imm, fun i x hx => ?_, hO.os, hO.tape, hO.output, hO.size, hO.keep⟩
  · obtain ⟨j, _, h2⟩ := hback i b hb
    exact hO.new j b h2
  · obtain ⟨j, h1, h2⟩ := hback i b hb
    obtain ⟨j', h3, h4⟩ := hback k b hk
    have := hO.inj _ _ _ h2 h4
    subst this
    exact (List.getElem?_inj (List.getElem?_eq_some_iff.1 h1).1 hρ).1 (h1.trans h3.symm)
  · have hx' : (newB ρ c.B)[i]? = some x := hx
    unfold newB at hx'
    rw [List.getElem?_map] at hx'
    cases hr : ρ[i]? with
    | none => rw [hr] at hx'; cases hx'
    | some j =>
      rw [hr] at hx'
      simp only [Option.map_some, Option.some.injEq] at hx'
      subst hx'
      cases hb : c.B[j]? with
      | none => rw [List.getD_eq_getElem?_getD, hb]; exact .dead
      | some q =>
        rw [List.getD_eq_getElem?_getD, hb]
        simp only [Option.getD_some]
        have hA := ha j i hr
        cases hO.blk j q hb with
        | box h1 h2 h3 h4 =>
          refine .box (hA.φ _ h1) h2 (by simpa using h3) (fun m z hz => ?_)
          rw [List.getElem?_map] at hz
          cases hq2 : (_ : List AC)[m]? with
          | none => rw [hq2] at hz; cases hz
          | some q2 => rw [hq2] at hz; cases hz; exact (h4 m q2 hq2).rn hi hg
        | rows h1 h2 h3 h4 h5 h8 =>
          refine .rows (hA.φ _ h1) h2 h3 h4 h5 (fun m o z hz hy => ?_)
          have := (h8 m o z hz hy).rn hi hg
          rwa [plain_rn (enc_mem hy)] at this
        | none h1 => exact .none (hA.φ _ h1)
        | map h1 h2 h3 h4 =>
          refine .map (hA.φ _ h1) h2 h3 (fun i k v hm => ?_)
          obtain ⟨e, z, g1, g2, g3, g4⟩ := h4 i k v hm
          have := g4.rn hi hg
          rw [plain_rn (enc_mem (o := 0) (by rw [g3]; rfl))] at this
          exact ⟨e, z, g1, g2, g3, this⟩
        | dead => exact .dead

theorem canon_ok {T : Tab} {keep : List Nat} {st : St} {c : Cx} {a : Act} (h : Good w0 M c0 n0 c N st a) :
    ∃ c', c'.w = c.w ∧ Good w0 M c0 n0 c' N (canon T n0 keep st) a := by
  obtain ⟨c1, h1, h2, h3, h4, h5, h6⟩ := promote_ok (T := T) (fun n => a.tmps.getD n undef) (keep.map fun n => (n, get st.t n)) c h.own (fun x hx => by
    obtain ⟨n, _, rfl⟩ := List.mem_map.1 hx
    exact h.t n)
  rw [h.b] at h2 h6
  unfold canon
  generalize hq : promote T (keep.map fun n => (n, get st.t n)) st.b = q at h2 h6
  simp only
  generalize hz : q.1.flatMap (fun x => x.2.refs) = z
  have hn0 : (upto n0).Nodup := by rw [upto_eq]; exact List.nodup_range
  obtain ⟨g1, m1, g2⟩ := addRefs_ok z (upto n0) hn0
  obtain ⟨g3, m2, g4⟩ := closeRefs_ok q.2 3 _ g1
  generalize hρ : closeRefs q.2 3 (addRefs (upto n0) z) = ρ at g3 g4
  obtain ⟨r1, r2, r3⟩ := renew_ok h3 g3
  rw [h2] at r1 r2 r3
  have hpre : ∀ j, j < n0 → ρ[j]? = some j := fun j hj => by
    rw [g4, g2, upto_eq, List.append_assoc, List.getElem?_append_left (by simpa using hj)]
    simp [hj]
  obtain ⟨c3, s1, s2, s3, s4, s5⟩ := promB_ok (T := T) (newB ρ q.2).length 0 ⟨c1.w, c1.I, ρ.map fun j => c1.φ.getD j none, newB ρ q.2⟩ r3
  refine ⟨c3, s1.trans h1, s3, h.up.trans (h4.trans (r1.trans s4)), fun j hj => (h.old j hj).trans ((h5 j).trans ((r2 j j (hpre j hj)).trans (s5 j))), s2, h.size, h.defers, fun n => ?_⟩
  show VRel _ (get (q.1.map fun x => (x.1, x.2.rn (rename ρ))) n) _
  rcases get_rn (rename ρ) q.1 n with e | e
  · rw [e]
    rcases get_mem q.1 n with e2 | e2
    · rw [e2]; exact .any
    · exact ((h6 _ e2).rn r1 (fun j i hji => r2 j i (rename_ok hji))).mono s4 s5
  · rw [e]; exact .any

/-- How the code is left. -/
def X.out : X → Exit
  | .normal => .normal
  | .exit i => .exit i
  | .ret => .ret

theorem codeOk_region {n id : Nat} {ops : Array Oper} {draw : Bool} (h : codeOk n (.region id ops draw) = true) : ∀ o ∈ ops.toList, ∀ d, o.dst = some d → d < n := by
  intro o ho d hd
  have := List.all_eq_true.1 h o ho
  unfold dstOk at this
  rw [hd] at this
  simpa [Nat.blt_eq] using this

def Done (E : Env) (w0 : World) (M : Nat → Prop) (c0 : Cx) (n0 N : Nat) (K : X → St → Bool) (Q : Exit → Act → World → Prop) : Prop :=
  ∀ (x : X) (c' : Cx) (st' : St) (a' : Act), K x st' = true → Good w0 M c0 n0 c' N st' a' → Q x.out a' c'.w

theorem iter_ok {body : St → (X → St → Bool) → Bool} {code : Code} {keep : List Nat}
    (hb : ∀ (st : St) (K : X → St → Bool) (c : Cx) (a : Act) (Q : Exit → Act → World → Prop), body st K = true → Good w0 M c0 n0 c N st a → Done E w0 M c0 n0 N K Q → code.wp E.P Q a c.w) :
    ∀ (k : Nat) (st : St) (K : X → St → Bool) (c : Cx) (a : Act), iter E.T n0 body keep k st K = true → Good w0 M c0 n0 c N st a → Done E w0 M c0 n0 N K Q → Code.rounds E.P code Q k a c.w
  | 0, st, K, c, a, hk, h, hq => by simp [iter] at hk
  | k + 1, st, K, c, a, hk, h, hq => by
    rw [rounds_succ]
    refine hb st _ c a _ hk h (fun x c' st' a' hk' h' => ?_)
    cases x with
    | normal =>
      obtain ⟨c2, hw, h2⟩ := canon_ok (keep := keep) h'
      have := iter_ok hb k _ K c2 a' hk' h2 hq
      rw [hw] at this
      exact this
    | exit i => exact hq (.exit i) c' st' a' hk' h'
    | ret => exact hq .ret c' st' a' hk' h'

theorem exC_ok (hT : tabOk E.P E.T = true) (hc : CallOk E.P call) (hm : E.P.follows .mixedOrders = true) (fid k : Nat) : ∀ (code : Code) (st : St) (K : X → St → Bool) (c : Cx) (a : Act) (Q : Exit → Act → World → Prop), codeOk N code = true → exC E call n0 fid k code st K = true → Good w0 M c0 n0 c N st a →
    Done E w0 M c0 n0 N K Q → code.wp E.P Q a c.w
  | .skip, st, K, c, a, Q, hok, hk, h, hq => wp_skip (hq .normal c st a hk h)
  | .region id ops draw, st, K, c, a, Q, hok, hk, h, hq => by
    unfold exC at hk
    cases draw with
    | false => exact wp_region_list (exOps_ok hT hc ops ops.toList st _ c a (codeOk_region hok) hk h (fun c' st' a' hk' h' => hq .normal c' st' a' hk' h'))
    | true =>
     simp only at hk
     split at hk
     · rename_i hlx
       exact region_lex_ok hT hc hm (codeOk_region hok) hlx hk h (fun c' st' a' hk' h' => hq .normal c' st' a' hk' h')
     · split at hk
       · rename_i hsel
         exact region_draw_ok hT hc hm (codeOk_region hok) hsel hk h (fun c' st' a' hk' h' => hq .normal c' st' a' hk' h')
       · cases hk
  | .seq p q, st, K, c, a, Q, hok, hk, h, hq => by
    unfold exC at hk
    simp only [codeOk, Bool.and_eq_true] at hok
    refine wp_seq_k fun K' hK' => ?_
    refine exC_ok hT hc hm fid k p st _ c a _ hok.1 hk h (fun x c' st' a' hk' h' => ?_)
    cases x with
    | normal => exact hK' _ _ (exC_ok hT hc hm fid k q st' K c' a' Q hok.2 hk' h' hq)
    | exit i => exact hq (.exit i) c' st' a' hk' h'
    | ret => exact hq .ret c' st' a' hk' h'
  | .cond t p q, st, K, c, a, Q, hok, hk, h, hq => by
    unfold exC at hk
    simp only [codeOk, Bool.and_eq_true] at hok
    split at hk
    · rename_i b hb
      have hv := ev_ok (E := E) h 4 t
      have hbv := bool_of hv hb
      have key : Good w0 M c0 n0 c N (subT st t b) a := by
        cases t with
        | tmp n => exact h.sub (b := b) hb rfl
        | _ => exact h
      cases b with
      | true => exact wp_cond_true hbv (exC_ok hT hc hm fid k p _ K c a Q hok.1 hk key hq)
      | false => exact wp_cond_false hbv (exC_ok hT hc hm fid k q _ K c a Q hok.2 hk key hq)
    · cases hk
  | .block id p, st, K, c, a, Q, hok, hk, h, hq => by
    unfold exC at hk
    refine wp_block ?_
    refine exC_ok hT hc hm fid k p st _ c a _ hok hk h (fun x c' st' a' hk' h' => ?_)
    cases x with
    | normal => exact hq .normal c' st' a' hk' h'
    | exit i =>
      change (match Nat.beq i id with | true => K .normal st' | false => K (.exit i) st') = true at hk'
      show (if i = id then Q .normal a' c'.w else Q (.exit i) a' c'.w)
      split at hk'
      · rename_i hb; rw [if_pos (Nat.eq_of_beq_eq_true hb)]; exact hq .normal c' st' a' hk' h'
      · rename_i hb; rw [if_neg (fun e => by rw [e, nbeq_self] at hb; cases hb)]; exact hq (.exit i) c' st' a' hk' h'
    | ret => exact hq .ret c' st' a' hk' h'
  | .loop p, st, K, c, a, Q, hok, hk, h, hq => by
    unfold exC at hk
    refine wp_loop_rounds k ?_
    obtain ⟨c2, hw, h2⟩ := canon_ok (keep := E.ann fid (keyOf p)) h
    have := iter_ok (Q := Q) (fun st K c a Q hk h hq => exC_ok hT hc hm fid k p st K c a Q hok hk h hq) k _ K c2 a hk h2 hq
    rw [hw] at this
    exact this
  | .exit id, st, K, c, a, Q, hok, hk, h, hq => wp_exit (hq (.exit id) c st a hk h)
  | .ret, st, K, c, a, Q, hok, hk, h, hq => wp_ret (hq .ret c st a hk h)
  | .rangeFunc .., st, K, c, a, Q, hok, hk, h, hq => by simp [exC] at hk
  | .scope _, st, K, c, a, Q, hok, hk, h, hq => by simp [exC] at hk
  | .label _, st, K, c, a, Q, hok, hk, h, hq => by simp [exC] at hk
  | .goto _, st, K, c, a, Q, hok, hk, h, hq => by simp [exC] at hk

theorem resA_ok {P : Program} {c : Cx} {st : St} {a : Act} (h : Good w0 M c0 n0 c N st a) : ∀ (l : List ResultVar) (rs : List AV), resA P st l = some rs →
    ∃ vs : List Value, (l.mapM (fun x => match x with | .tmp t => pure (a.tmps.getD t undef) | .cell b t => do loadVar t (← asAddr (a.tmps.getD b undef)) : ResultVar → Sem Value)).run P c.w = .ok vs c.w ∧ vs.length = rs.length ∧ ∀ (i : Nat) (x : AV), rs[i]? = some x → VRel c x (vs.getD i undef)
  | [], rs, hr => by cases hr; exact ⟨[], by simp, rfl, fun i x hx => by simp at hx⟩
  | .tmp t :: l, rs, hr => by
    unfold resA at hr
    split at hr
    · rename_i s hs
      cases hr
      obtain ⟨vs, h1, h2, h3⟩ := resA_ok h l s hs
      refine ⟨a.tmps.getD t undef :: vs, ?_, by simp [h2], fun i x hx => ?_⟩
      · rw [List.mapM_cons]
        simp only [Sem.run_bind, Sem.run_pure, Result.andThen_ok, h1]
      · cases i with
        | zero => simp at hx; subst hx; exact h.t t
        | succ i => have := h3 i x (by simpa using hx); simpa using this
    · cases hr
  | .cell b t :: l, rs, hr => by
    unfold resA at hr
    split at hr
    · rename_i v s hv hs
      cases hr
      obtain ⟨vs, h1, h2, h3⟩ := resA_ok h l s hs
      rw [← h.b] at hv
      obtain ⟨u, h4, h5⟩ := loadA_ok h.own (h.t b) hv
      have h6 : (do loadVar t (← asAddr (a.tmps.getD b undef)) : Sem Value).run P c.w = .ok u c.w := by
        rw [← h4]
        unfold Instr.loadAt
        have hp : ∃ ad, a.tmps.getD b undef = .pointer (some ad) := by
          have hbt := h.t b
          revert hv hbt
          generalize get st.t b = q
          generalize a.tmps.getD b undef = z
          intro hv hbt
          unfold loadA at hv
          split at hv
          · cases hbt with
            | one hbt => cases hbt <;> exact ⟨_, rfl⟩
          · cases hbt with
            | one hbt => cases hbt; exact ⟨_, rfl⟩
          · cases hv
        obtain ⟨ad, hp⟩ := hp
        rw [hp]
        simp [asAddr, Instr.sureAddr]
      refine ⟨u :: vs, ?_, by simp [h2], fun i x hx => ?_⟩
      · rw [List.mapM_cons]
        simp only [Sem.run_bind] at h6 ⊢
        rw [h6]
        simp only [Sem.run_pure, Result.andThen_ok, h1]
      · cases i with
        | zero => simp at hx; subst hx; exact h5
        | succ i => have := h3 i x (by simpa using hx); simpa using this
    · cases hr

theorem results_ok {P : Program} {c : Cx} {st : St} {a : Act} {fn : Func} (h : Good w0 M c0 n0 c N st a) {rs : List AV} (hr : resA P st fn.results.toList = some rs) : ∃ v, (results fn a.tmps).run P c.w = .ok v c.w ∧ VRel c (resV rs) v := by
  obtain ⟨vs, h1, h2, h3⟩ := resA_ok h _ _ hr
  have h4 : (fn.results.mapM (fun x => match x with | .tmp t => pure (a.tmps.getD t undef) | .cell b t => do loadVar t (← asAddr (a.tmps.getD b undef)) : ResultVar → Sem Value)).run P c.w = .ok vs.toArray c.w := by
    rw [Array.mapM_eq_mapM_toList, Sem.run_map, h1]
    rfl
  unfold results
  simp only [Sem.run_bind]
  refine ⟨if hz : vs.toArray.size = 1 then vs.toArray[0] else .tuple vs.toArray, ?_, ?_⟩
  · refine (congrArg (fun r => Result.andThen r _) h4).trans ?_
    simp
  · unfold resV
    split
    · rename_i v
      have hv : vs.length = 1 := by simpa using h2
      have := h3 0 v rfl
      rw [dif_pos (by simpa using hv)]
      match vs, hv with
      | [u], _ => simpa using this
    · rename_i hne
      have hv : vs.length ≠ 1 := fun e => by
        rw [h2] at e
        match rs, e with
        | [v], _ => exact hne v rfl
      rw [dif_neg (by simpa using hv)]
      exact .tup (by simpa using h2) (fun i x hx => by have := h3 i x hx; simpa [Array.getD_eq_getD_getElem?, List.getD_eq_getElem?_getD] using this)

theorem argsT_ok {c : Cx} : ∀ (args : List AV) (k : Nat) (vs : List Value) (rest : List Value), vs.length = args.length → (∀ (i : Nat) (x : AV), args[i]? = some x → VRel c x (vs.getD i undef)) → ∀ n, VRel c (get (argsT k args) n) (if k ≤ n then vs.getD (n - k) undef else undef)
  | [], k, vs, rest, hl, hr, n => .any
  | x :: args, k, [], rest, hl, hr, n => by simp at hl
  | x :: args, k, v :: vs, rest, hl, hr, n => by
    simp only [argsT, get]
    have ih := argsT_ok args (k + 1) vs rest (by simpa using hl) (fun i x hx => by have := hr (i + 1) x (by simpa using hx); simpa using this) n
    cases h : Nat.beq k n with
    | true =>
      have := Nat.eq_of_beq_eq_true h
      subst this
      have := hr 0 x rfl
      simpa using this
    | false =>
      have hne : k ≠ n := fun e => by subst e; rw [nbeq_self] at h; cases h
      by_cases hk : k ≤ n
      · rw [if_pos (by omega)] at ih
        rw [if_pos hk, show n - k = (n - (k + 1)) + 1 by omega]
        simpa using ih
      · rw [if_neg (by omega)] at ih
        rw [if_neg hk]
        exact ih

theorem body_ok (hT : tabOk E.P E.T = true) (hc : CallOk E.P call) (hm : E.P.follows .mixedOrders = true) (k : Nat) {f : FuncId} {args : List AV} {B : List Blk} {K : Kont} (hk : bodyA E call f k args B K = true) {c : Cx} {vs : Array Value} (hO : Own w0 M c) (hB : c.B = B) (hsz : vs.size = args.length)
    (hr : ∀ (i : Nat) (x : AV), args[i]? = some x → VRel c x (vs.getD i undef)) :
    Calls E.P f vs c.w fun e w' => ∃ v c' rs, e = .returned v ∧ w' = c'.w ∧ K rs c'.B = true ∧ Own w0 M c' ∧ ImmUp c c' ∧ (∀ j, j < B.length → At c c' j j) ∧ VRel c' (resV rs) v := by
  unfold bodyA at hk
  split at hk
  · rename_i fn hf
    split at hk
    · rename_i code hb
      split at hk
      · rename_i hok
        simp only [Bool.and_eq_true] at hok
        have hle := Nat.le_of_ble_eq_true hok.2
        refine calls_of_wp hf hb ?_
        refine exC_ok (w0 := w0) (M := M) (c0 := c) (n0 := B.length) (N := fn.ntmps) hT hc hm f k code _ _ c _ _ hok.1 hk ?_ ?_
        · refine ⟨hO, .refl c, fun j _ => .refl c j, hB, by simp; omega, rfl, fun n => ?_⟩
          have := argsT_ok args 0 vs.toList [] (by simpa using hsz) (fun i x hx => by have := hr i x hx; simpa [Array.getD_eq_getD_getElem?, List.getD_eq_getElem?_getD] using this) n
          simp only [Nat.zero_le, if_true, Nat.sub_zero] at this
          show VRel c (get (argsT 0 args) n) _
          have e : (vs ++ Array.replicate (fn.ntmps - vs.size) undef).getD n undef = vs.toList.getD n undef := by
            rw [Array.getD_eq_getD_getElem?, List.getD_eq_getElem?_getD]
            by_cases hn : n < vs.size
            · rw [Array.getElem?_append_left hn]; simp
            · rw [Array.getElem?_append_right (by omega), Array.getElem?_replicate, List.getElem?_eq_none (by simp; omega)]
              split <;> rfl
          rw [e]
          exact this
        · intro x c' st' a' hk' h'
          have fin : ∀ rs, resA E.P st' fn.results.toList = some rs → K rs st'.b = true → a'.defers = [] ∧ ∃ v, (results fn a'.tmps).run E.P c'.w = .ok v c'.w ∧ ∃ v' c'' rs, Ending.returned v = .returned v' ∧ c'.w = c''.w ∧ K rs c''.B = true ∧ Own w0 M c'' ∧ ImmUp c c'' ∧ (∀ j, j < B.length → At c c'' j j) ∧ VRel c'' (resV rs) v' := by
            intro rs hrs hK
            obtain ⟨v, h1, h2⟩ := results_ok h' hrs
            exact ⟨h'.defers, v, h1, v, c', rs, rfl, rfl, by rw [h'.b]; exact hK, h'.own, h'.up, h'.old, h2⟩
          cases x with
          | exit i => simp [kBody] at hk'
          | normal =>
            simp only [kBody] at hk'
            split at hk'
            · rename_i rs hrs; exact fin rs hrs hk'
            · cases hk'
          | ret =>
            simp only [kBody] at hk'
            split at hk'
            · rename_i rs hrs; exact fin rs hrs hk'
            · cases hk'
      · cases hk
    · cases hk
  · cases hk

/-- What is known of functions holds. -/
structure EnvOk (E : Env) : Prop where
  tab : tabOk E.P E.T = true
  call : ∀ f, ∀ en ∈ E.ent f, CallOk1 E.P f (callEnt en)

theorem entFor_ok : ∀ {l : List Ent} {args : List AV} {en : Ent}, entFor l args = some en → en ∈ l
  | [], _, _, h => by cases h
  | e :: r, args, en, h => by
    unfold entFor at h
    split at h
    · cases h; simp
    · simp [entFor_ok h]

theorem run_ok (he : EnvOk E) (hm : E.P.follows .mixedOrders = true) (k : Nat) : ∀ d, CallOk E.P (run E k d)
  | 0 => by
    intro f args B K hk w0 M c vs hO hB hsz hr
    unfold run at hk
    split at hk
    · rename_i en hen
      exact he.call f en (entFor_ok hen) args B K hk w0 M c vs hO hB hsz hr
    · cases hk
  | d + 1 => by
    intro f args B K hk w0 M c vs hO hB hsz hr
    unfold run at hk
    split at hk
    · rename_i en hen
      exact he.call f en (entFor_ok hen) args B K hk w0 M c vs hO hB hsz hr
    · exact body_ok he.tab (run_ok he hm k d) hm k hk hO hB hsz hr
end
end Go.X
