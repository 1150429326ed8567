/- The run of a function's code does what the abstract run says, if the answer of that is true. -/
import Derived.Test.YtejllbmokmibkaaXRun
namespace Go.X
open Go
set_option linter.unusedSimpArgs false
set_option linter.unusedVariables false

section
variable {E : Env} {call : FuncId → List AV → List Blk → Kont → Bool} {w0 : World} {M : Nat → Prop} {c0 : Cx} {n0 N : Nat} {Q : Exit → Act → World → Prop}

theorem wanted_some {o : Oper} {f : Nat → Option Bool} {j : Nat} {want : Bool} (hg : o.guard = some (j, want)) : Region.wanted o f = (f j == some want) := by simp [Region.wanted, hg]

theorem yielded_bool {P : Program} {c : Cx} {a : Act} {ops : Array Oper} {j : Nat} {t : Tmp} {b : Bool} (ht : (ops[j]?).bind (·.dst) = some t) (hv : VRel P c (.one (.bool b)) (a.tmps.getD t undef)) : yielded ops a.tmps j = some b := by
  have hv := bool_of' hv
  unfold yielded
  rw [ht]
  simp only [Option.bind_some]
  rw [Array.getD_eq_getD_getElem?] at hv
  cases h : a.tmps[t]? with
  | none => rw [h] at hv; cases hv
  | some v => rw [h] at hv; simp at hv; subst hv; rfl

theorem yielded_undef {P : Program} {c : Cx} {a : Act} {ops : Array Oper} {j : Nat} {t : Tmp} (ht : (ops[j]?).bind (·.dst) = some t) (hv : VRel P c .undef (a.tmps.getD t undef)) : yielded ops a.tmps j = none := by
  unfold yielded
  rw [ht]
  simp only [Option.bind_some]
  rw [Array.getD_eq_getD_getElem?] at hv
  cases h : a.tmps[t]? with
  | none => rfl
  | some v =>
    rw [h] at hv
    simp only [Option.getD_some] at hv
    generalize hu : v = u at hv
    cases hv
    rfl

/-- The cases of an operation behind its guard. -/
theorem guard_cases {ops : Array Oper} {o : Oper} {rest : List Oper} {st : St} {K : St → Bool} (hk : exOps E call n0 ops (o :: rest) st K = true) {c : Cx} {a : Act} (h : Good E.P w0 M c0 n0 c N st a) (hd : ∀ n, o.dst = some n → n < N) :
    (Region.wanted o (yielded ops a.tmps) = true ∧ ∃ st', Good E.P w0 M c0 n0 c N st' a ∧ exOp E call n0 o st' (fun st' => exOps E call n0 ops rest st' K) = true) ∨
    (Region.wanted o (yielded ops a.tmps) = false ∧ ∃ st', Good E.P w0 M c0 n0 c N st' (a.put o.dst undef) ∧ exOps E call n0 ops rest st' K = true) := by
  unfold exOps at hk
  split at hk
  · rename_i hg
    exact .inl ⟨by simp [Region.wanted, hg], st, h, hk⟩
  · rename_i j want hg
    split at hk
    · cases hk
    · rename_i t ht
      split at hk
      · rename_i b hb
        have hv := h.t t
        rw [hb] at hv
        have hy := yielded_bool ht hv
        rw [wanted_some hg, hy]
        have hs := h.sub hb rfl
        cases b <;> cases want <;> simp only [br] at hk
        · exact .inl ⟨rfl, _, hs, hk⟩
        · exact .inr ⟨rfl, _, hs.set hd .undef, hk⟩
        · exact .inr ⟨rfl, _, hs.set hd .undef, hk⟩
        · exact .inl ⟨rfl, _, hs, hk⟩
      · rename_i hb
        have hv := h.t t
        rw [hb] at hv
        have hy := yielded_undef ht hv
        rw [wanted_some hg, hy]
        exact .inr ⟨rfl, _, h.set hd .undef, hk⟩
      · cases hk

theorem exOps_ok (hc : CallOk E.P call) (ops : Array Oper) : ∀ (l : List Oper) (st : St) (K : St → Bool) (c : Cx) (a : Act), (∀ o ∈ l, ∀ n, o.dst = some n → n < N) → exOps E call n0 ops l st K = true → Good E.P w0 M c0 n0 c N st a →
    (∀ (c' : Cx) (st' : St) (a' : Act), K st' = true → Good E.P w0 M c0 n0 c' N st' a' → Q .normal a' c'.w) → wpList E.P ops Q l a c.w
  | [], st, K, c, a, hd, hk, h, hq => hq c st a hk h
  | o :: rest, st, K, c, a, hd, hk, h, hq => by
    have hdo := hd o (by simp)
    have hdr : ∀ o ∈ rest, ∀ n, o.dst = some n → n < N := fun o ho => hd o (by simp [ho])
    unfold wpList
    rcases guard_cases hk h hdo with ⟨hw, st', h', hk'⟩ | ⟨hw, st', h', hk'⟩
    · rw [if_pos hw]
      exact .inl (exOp_ok hc h' hdo (fun c' st2 a' hk2 h2 => exOps_ok hc ops rest st2 K c' a' hdr hk2 h2 hq) hk')
    · rw [if_neg (by rw [hw]; simp)]
      exact exOps_ok hc ops rest st' K c _ hdr hk' h' hq

theorem exOps_append (ops : Array Oper) (m : List Oper) (K : St → Bool) : ∀ (l : List Oper) (st : St), exOps E call n0 ops (l ++ m) st K = exOps E call n0 ops l st (fun st' => exOps E call n0 ops m st' K)
  | [], st => rfl
  | o :: l, st => by
    have ih : (fun st' => exOps E call n0 ops (l ++ m) st' K) = fun st' => exOps E call n0 ops l st' (fun st' => exOps E call n0 ops m st' K) := funext fun st' => exOps_append ops m K l st'
    have ih' := exOps_append ops m K l
    simp only [List.cons_append, exOps, ih']

theorem pickPure_ok {P : Program} {ops : Array Oper} {listed : Array Bool} : ∀ {r : List Nat} {i : Nat}, pickPure P ops listed r = some i → i ∈ r ∧ ∃ o, ops[i]? = some o ∧ pureO P o = true ∧ Region.free .any ops listed i = true
  | [], i, h => by cases h
  | j :: r, i, h => by
    unfold pickPure at h
    split at h
    · rename_i o ho
      split at h
      · rename_i hp
        cases h
        simp only [Bool.and_eq_true] at hp
        exact ⟨by simp, o, ho, hp.1, hp.2⟩
      · obtain ⟨h1, h2⟩ := pickPure_ok h
        exact ⟨by simp [h1], h2⟩
    · obtain ⟨h1, h2⟩ := pickPure_ok h
      exact ⟨by simp [h1], h2⟩

theorem allOf_ok {f : Nat → Bool} : ∀ {r : List Nat}, allOf r f = true → ∀ i ∈ r, f i = true
  | [], _, i, hi => by cases hi
  | [j], h, i, hi => by simp at hi; subst hi; exact h
  | j :: k :: r, h, i, hi => by
    simp only [allOf, Bool.and_eq_true] at h
    rcases List.mem_cons.1 hi with rfl | hi
    · exact h.1
    · exact allOf_ok (r := k :: r) h.2 i hi

/-- Left by its end alone. -/
def endOnly (Q : Exit → Act → World → Prop) : Exit → Act → World → Prop
  | .normal, a, w => Q .normal a w
  | _, _, _ => False

theorem exDraw_ok (hc : CallOk E.P call) {ops : Array Oper} (hd : ∀ o ∈ ops.toList, ∀ n, o.dst = some n → n < N) (hsel : Region.noSelect ops = true) {K : St → Bool}
    (hq : ∀ (c' : Cx) (st' : St) (a' : Act), K st' = true → Good E.P w0 M c0 n0 c' N st' a' → Q .normal a' c'.w) :
    ∀ (f : Nat) (listed : Array Bool) (st : St) (c : Cx) (a : Act), exDraw E call n0 ops f listed st K = true → Good E.P w0 M c0 n0 c N st a → wpAny E.P .any ops (endOnly Q) f listed a c.w
  | 0, listed, st, c, a, hk, h => by
    unfold exDraw at hk
    split at hk
    · rename_i hr
      exact ⟨hr, hq c st a hk h⟩
    · cases hk
  | f + 1, listed, st, c, a, hk, h => by
    unfold exDraw at hk
    split at hk
    · rename_i hr
      exact ⟨fun _ => hq c st a hk h, fun i hi => by rw [hr] at hi; cases hi⟩
    · rename_i hne
      split at hk
      · rename_i i hp
        obtain ⟨hin, o, ho, hpu, hfr⟩ := pickPure_ok hp
        rw [ho] at hk
        simp only at hk
        have hdo := hd o (Array.mem_toList_iff.2 (Array.mem_of_getElem? ho))
        have hsp := Region.noSelect_spec hsel
        rcases guard_cases hk h hdo with ⟨hw, st', h', hk'⟩ | ⟨hw, st', h', hk'⟩
        · obtain ⟨v, st2, hr, hk2, h2⟩ := exOp_pure h' hdo hpu hk'
          exact wpAny_first ho hsp (fun _ _ _ hh => hh) f listed a c.w (fun j oj => Region.free_spec ho hfr j oj) hin (.inl ⟨hw, fun w => hr w (.inl hpu)⟩) (exDraw_ok hc hd hsel hq f _ st2 c _ hk2 h2)
        · exact wpAny_first ho hsp (fun _ _ _ hh => hh) f listed a c.w (fun j oj => Region.free_spec ho hfr j oj) hin (.inr ⟨hw, rfl⟩) (exDraw_ok hc hd hsel hq f _ st' c _ hk' h')
      · refine ⟨fun hr => absurd hr hne, fun i hi => ?_⟩
        have hk := allOf_ok hk i hi
        split at hk
        · rename_i o ho
          have hdo := hd o (Array.mem_toList_iff.2 (Array.mem_of_getElem? ho))
          unfold wpOp
          rw [ho]
          simp only
          rcases guard_cases hk h hdo with ⟨hw, st', h', hk'⟩ | ⟨hw, st', h', hk'⟩
          · rw [if_pos hw]
            exact .inl (exOp_ok hc h' hdo (fun c' st2 a' hk2 h2 => exDraw_ok hc hd hsel hq f _ st2 c' a' hk2 h2) hk')
          · rw [if_neg (by rw [hw]; simp)]
            exact exDraw_ok hc hd hsel hq f _ st' c _ hk' h'
        · cases hk

theorem region_draw_ok (hc : CallOk E.P call) (hm : E.P.follows .mixedOrders = true) {id : Nat} {ops : Array Oper} {st : St} {K : St → Bool} {c : Cx} {a : Act} (hd : ∀ o ∈ ops.toList, ∀ n, o.dst = some n → n < N) (hsel : Region.noSelect ops = true)
    (hk : exDraw E call n0 ops ops.size (Array.replicate ops.size false) st K = true) (h : Good E.P w0 M c0 n0 c N st a) (hq : ∀ (c' : Cx) (st' : St) (a' : Act), K st' = true → Good E.P w0 M c0 n0 c' N st' a' → Q .normal a' c'.w) : (Code.region id ops true).wp E.P Q a c.w := by
  have hG := h.drew
  have := exDraw_ok hc hd hsel hq ops.size _ st _ a hk hG
  refine Code.wp_mono (fun e a w hh => ?_) (wp_region_any hm this)
  cases e <;> first | exact hh | exact hh.elim

/-- One function's calls. -/
def CallOk1 (P : Program) (f : FuncId) (call : List AV → List Blk → Kont → Bool) : Prop :=
  ∀ (args : List AV) (B : List Blk) (K : Kont), call args B K = true →
  ∀ (w0 : World) (M : Nat → Prop) (c : Cx) (vs : Array Value), Own P w0 M c → c.B = B → vs.size = args.length → (∀ (i : Nat) (x : AV), args[i]? = some x → VRel P c x (vs.getD i undef)) →
  Calls P f vs c.w fun e w' => ∃ v c' rs, e = .returned v ∧ w' = c'.w ∧ K rs c'.B = true ∧ Own P w0 M c' ∧ ImmUp c c' ∧ (∀ j, j < B.length → At P c c' j j) ∧ VRel P c' (resV rs) v

/-! ### the head of a loop -/
theorem get_mem (l : List (Nat × AV)) (n : Nat) : get l n = .any ∨ (n, get l n) ∈ l := by
  induction l with
  | nil => exact .inl rfl
  | cons x r ih =>
    obtain ⟨m, v⟩ := x
    simp only [get]
    cases h : Nat.beq m n with
    | true => have := Nat.eq_of_beq_eq_true h; subst this; exact .inr (by simp)
    | false =>
      rcases ih with h' | h'
      · exact .inl h'
      · exact .inr (by simp [h'])

theorem promote_ok {P : Program} {w0 : World} {M : Nat → Prop} (f : Nat → Value) : ∀ (l : List (Nat × AV)) (c : Cx), Own P w0 M c → (∀ x ∈ l, VRel P c x.2 (f x.1)) →
    ∃ c', c'.w = c.w ∧ c'.B = (promote P l c.B).2 ∧ Own P w0 M c' ∧ ImmUp c c' ∧ (∀ j, At P c c' j j) ∧ ∀ x ∈ (promote P l c.B).1, VRel P c' x.2 (f x.1)
  | [], c, hO, hl => ⟨c, rfl, rfl, hO, .refl c, fun j => .refl c j, hl⟩
  | (n, v) :: r, c, hO, hl => by
    have hv := hl (n, v) (by simp)
    have hr : ∀ x ∈ r, VRel P c x.2 (f x.1) := fun x hx => hl x (by simp [hx])
    have plain : promote P ((n, v) :: r) c.B = ((n, v) :: (promote P r c.B).1, (promote P r c.B).2) →
        ∃ c', c'.w = c.w ∧ c'.B = (promote P ((n, v) :: r) c.B).2 ∧ Own P w0 M c' ∧ ImmUp c c' ∧ (∀ j, At P c c' j j) ∧ ∀ x ∈ (promote P ((n, v) :: r) c.B).1, VRel P c' x.2 (f x.1) := by
      intro e
      obtain ⟨c', h1, h2, h3, h4, h5, h6⟩ := promote_ok f r c hO hr
      rw [e]
      refine ⟨c', h1, h2, h3, h4, h5, fun x hx => ?_⟩
      rcases List.mem_cons.1 hx with rfl | hx
      · exact hv.mono h4 h5
      · exact h6 x hx
    by_cases hn : ∃ t, v = .one (.nilS t) ∧ rowTy P t = true
    · obtain ⟨t, rfl, ht⟩ := hn
      have e : promote P ((n, .one (.nilS t)) :: r) c.B = ((n, .one (.own c.B.length)) :: (promote P r (c.B ++ [.rows t []])).1, (promote P r (c.B ++ [.rows t []])).2) := by
        simp only [promote, ht]
      rw [e]
      obtain ⟨g1, g2, g3⟩ := hO.pushN t ht
      obtain ⟨c', h1, h2, h3, h4, h5, h6⟩ := promote_ok f r ⟨c.w, c.I, c.φ ++ [none], c.B ++ [.rows t []]⟩ g3 (fun x hx => (hr x hx).mono g1 g2)
      refine ⟨c', h1, h2, h3, g1.trans h4, fun j => (g2 j).trans (h5 j), fun x hx => ?_⟩
      rcases List.mem_cons.1 hx with rfl | hx
      · refine VRel.mono h4 h5 (.one ?_)
        cases hv with
        | one hv =>
          generalize hq : f n = q at hv
          cases hv
          exact .ownN (t := t) (by simp) (by show (c.φ ++ [none])[c.B.length]? = _; rw [← hO.len]; simp)
      · exact h6 x hx
    · apply plain
      conv => lhs; unfold promote
      split
      · rename_i t
        split
        · rename_i ht; exact absurd ⟨t, rfl, ht⟩ hn
        · rfl
      · rfl

theorem placeOf_ok : ∀ (ρ : List Nat) (j k i : Nat), placeOf ρ j k = some i → k ≤ i ∧ ρ[i - k]? = some j
  | [], j, k, i, h => by simp [placeOf] at h
  | r :: ρ, j, k, i, h => by
    unfold placeOf at h
    split at h
    · rename_i hb
      have := Nat.eq_of_beq_eq_true hb
      subst this
      cases h
      simp
    · obtain ⟨h1, h2⟩ := placeOf_ok ρ j (k + 1) i h
      refine ⟨by omega, ?_⟩
      rw [show i - k = (i - (k + 1)) + 1 by omega]
      exact h2
theorem rename_ok {ρ : List Nat} {j i : Nat} (h : rename ρ j = some i) : ρ[i]? = some j := by
  have := (placeOf_ok ρ j 0 i h).2
  simpa using this

theorem addRefs_ok (l : List Nat) : ∀ (acc : List Nat), acc.Nodup → (addRefs acc l).Nodup ∧ ∃ m, addRefs acc l = acc ++ m := by
  induction l with
  | nil => intro acc h; exact ⟨h, [], by simp [addRefs]⟩
  | cons j l ih =>
    intro acc h
    unfold addRefs
    simp only [List.foldl_cons]
    split
    · exact ih acc h
    · rename_i hj
      have hj : j ∉ acc := by simpa using hj
      obtain ⟨h1, m, h2⟩ := ih (acc ++ [j]) (by
        rw [List.nodup_append]
        exact ⟨h, by simp, fun a ha b hb => by simp at hb; subst hb; exact fun e => hj (e ▸ ha)⟩)
      exact ⟨h1, j :: m, by rw [show List.foldl _ (acc ++ [j]) l = addRefs (acc ++ [j]) l from rfl, h2]; simp⟩
theorem closeRefs_ok (B : List Blk) : ∀ (n : Nat) (acc : List Nat), acc.Nodup → (closeRefs B n acc).Nodup ∧ ∃ m, closeRefs B n acc = acc ++ m
  | 0, acc, h => ⟨h, [], by simp [closeRefs]⟩
  | n + 1, acc, h => by
    obtain ⟨h1, m, h2⟩ := addRefs_ok (acc.flatMap (blkRefs B)) acc h
    obtain ⟨h3, m', h4⟩ := closeRefs_ok B n _ h1
    unfold closeRefs
    exact ⟨h3, m ++ m', by rw [h4, h2]; simp⟩
theorem upto_eq : ∀ n, upto n = List.range n
  | 0 => rfl
  | n + 1 => by rw [upto, upto_eq n, List.range_succ]

/-- Blocks anew. -/
theorem renew_ok {P : Program} {w0 : World} {M : Nat → Prop} {c : Cx} (hO : Own P w0 M c) {ρ : List Nat} (hρ : ρ.Nodup) :
    let c' : Cx := ⟨c.w, c.I, ρ.map fun j => c.φ.getD j none, newB ρ c.B⟩
    ImmUp c c' ∧ (∀ j i : Nat, ρ[i]? = some j → At P c c' j i) ∧ Own P w0 M c' := by
  intro c'
  have hi : ImmUp c c' := ⟨fun _ h => h, fun _ _ => rfl, fun _ h => .inl h, Nat.le_refl _⟩
  have hφ : ∀ (j i : Nat), ρ[i]? = some j → c'.φ[i]? = some (c.φ.getD j none) := fun j i h => by
    show (ρ.map _)[i]? = _
    rw [List.getElem?_map, h]; rfl
  have hB : ∀ (j i : Nat), ρ[i]? = some j → c'.B[i]? = some ((c.B.getD j .dead).rn (rename ρ)) := fun j i h => by
    show (newB ρ c.B)[i]? = _
    unfold newB
    rw [List.getElem?_map, h]; rfl
  have ha : ∀ j i : Nat, ρ[i]? = some j → At P c c' j i := fun j i h =>
    ⟨fun x hx => by rw [hφ j i h, List.getD_eq_getElem?_getD, hx]; rfl,
     fun t rs hr => ⟨rs, by rw [hB j i h, List.getD_eq_getElem?_getD, hr]; rfl, rfl⟩,
     fun cs hc => ⟨cs.map (AC.rn (rename ρ)), by rw [hB j i h, List.getD_eq_getElem?_getD, hc]; rfl, by simp⟩, fun b t k _ h => h⟩
  have hg : ∀ j n, rename ρ j = some n → At P c c' j n := fun j n h => ha j n (rename_ok h)
  have hback : ∀ (i b : Nat), c'.φ[i]? = some (some b) → ∃ j : Nat, ρ[i]? = some j ∧ c.φ[j]? = some (some b) := fun i b hb => by
    have hb' : (ρ.map fun j => c.φ.getD j none)[i]? = some (some b) := hb
    rw [List.getElem?_map] at hb'
    cases hr : ρ[i]? with
    | none => rw [hr] at hb'; cases hb'
    | some j =>
      rw [hr] at hb'
      simp only [Option.map_some, Option.some.injEq] at hb'
      refine ⟨j, rfl, ?_⟩
      rw [List.getD_eq_getElem?_getD] at hb'
      cases hp : c.φ[j]? with
      | none => rw [hp] at hb'; cases hb'
      | some p => rw [hp] at hb'; simp at hb'; rw [hb']
  refine ⟨hi, ha, by simp [c', newB], fun i b hb => ?_, fun i k b hb hk => ?_, hO.imm, fun i x hx => ?_, hO.os, hO.tape, hO.output, hO.size, hO.keep⟩
  · obtain ⟨j, _, h2⟩ := hback i b hb
    exact hO.new j b h2
  · obtain ⟨j, h1, h2⟩ := hback i b hb
    obtain ⟨j', h3, h4⟩ := hback k b hk
    have := hO.inj _ _ _ h2 h4
    subst this
    exact (List.getElem?_inj (List.getElem?_eq_some_iff.1 h1).1 hρ).1 (h1.trans h3.symm)
  · have hx' : (newB ρ c.B)[i]? = some x := hx
    unfold newB at hx'
    rw [List.getElem?_map] at hx'
    cases hr : ρ[i]? with
    | none => rw [hr] at hx'; cases hx'
    | some j =>
      rw [hr] at hx'
      simp only [Option.map_some, Option.some.injEq] at hx'
      subst hx'
      cases hb : c.B[j]? with
      | none => rw [List.getD_eq_getElem?_getD, hb]; exact .dead
      | some q =>
        rw [List.getD_eq_getElem?_getD, hb]
        simp only [Option.getD_some]
        have hA := ha j i hr
        cases hO.blk j q hb with
        | box h1 h2 h3 h4 =>
          refine .box (hA.φ _ h1) h2 (by simpa using h3) (fun m z hz => ?_)
          rw [List.getElem?_map] at hz
          cases hq2 : (_ : List AC)[m]? with
          | none => rw [hq2] at hz; cases hz
          | some q2 => rw [hq2] at hz; cases hz; exact (h4 m q2 hq2).rn hi hg
        | rows h1 h2 h3 h4 h5 h6 h7 h8 =>
          refine .rows (hA.φ _ h1) h2 h3 h4 h5 h6 h7 (fun m row o z hz hy => ?_)
          obtain ⟨_, _, hw⟩ := h7.cell hz hy
          have := (h8 m row o z hz hy).rn hi hg
          rwa [hw.rn] at this
        | none h1 h2 => exact .none (hA.φ _ h1) h2
        | dead => exact .dead

theorem canon_ok {P : Program} {keep : List Nat} {st : St} {c : Cx} {a : Act} (h : Good P w0 M c0 n0 c N st a) :
    ∃ c', c'.w = c.w ∧ Good P w0 M c0 n0 c' N (canon P n0 keep st) a := by
  obtain ⟨c1, h1, h2, h3, h4, h5, h6⟩ := promote_ok (fun n => a.tmps.getD n undef) (keep.map fun n => (n, get st.t n)) c h.own (fun x hx => by
    obtain ⟨n, _, rfl⟩ := List.mem_map.1 hx
    exact h.t n)
  rw [h.b] at h2 h6
  unfold canon
  generalize hq : promote P (keep.map fun n => (n, get st.t n)) st.b = q at h2 h6
  simp only
  generalize hz : q.1.flatMap (fun x => x.2.refs) = z
  have hn0 : (upto n0).Nodup := by rw [upto_eq]; exact List.nodup_range
  obtain ⟨g1, m1, g2⟩ := addRefs_ok z (upto n0) hn0
  obtain ⟨g3, m2, g4⟩ := closeRefs_ok q.2 3 _ g1
  generalize hρ : closeRefs q.2 3 (addRefs (upto n0) z) = ρ at g3 g4
  obtain ⟨r1, r2, r3⟩ := renew_ok h3 g3
  rw [h2] at r1 r2 r3
  have hpre : ∀ j, j < n0 → ρ[j]? = some j := fun j hj => by
    rw [g4, g2, upto_eq, List.append_assoc, List.getElem?_append_left (by simpa using hj)]
    simp [hj]
  refine ⟨⟨c1.w, c1.I, ρ.map fun j => c1.φ.getD j none, newB ρ q.2⟩, h1, r3, h.up.trans (h4.trans r1), fun j hj => (h.old j hj).trans ((h5 j).trans (r2 j j (hpre j hj))), rfl, h.size, h.defers, fun n => ?_⟩
  show VRel P _ (get (q.1.map fun x => (x.1, x.2.rn (rename ρ))) n) _
  rcases get_rn (rename ρ) q.1 n with e | e
  · rw [e]
    rcases get_mem q.1 n with e2 | e2
    · rw [e2]; exact .any
    · exact (h6 _ e2).rn r1 (fun j i hji => r2 j i (rename_ok hji))
  · rw [e]; exact .any

/-- How the code is left. -/
def X.out : X → Exit
  | .normal => .normal
  | .exit i => .exit i
  | .ret => .ret

theorem codeOk_region {n id : Nat} {ops : Array Oper} {draw : Bool} (h : codeOk n (.region id ops draw) = true) : ∀ o ∈ ops.toList, ∀ d, o.dst = some d → d < n := by
  intro o ho d hd
  have := List.all_eq_true.1 h o ho
  unfold dstOk at this
  rw [hd] at this
  simpa [Nat.blt_eq] using this

def Done (E : Env) (w0 : World) (M : Nat → Prop) (c0 : Cx) (n0 N : Nat) (K : X → St → Bool) (Q : Exit → Act → World → Prop) : Prop :=
  ∀ (x : X) (c' : Cx) (st' : St) (a' : Act), K x st' = true → Good E.P w0 M c0 n0 c' N st' a' → Q x.out a' c'.w

theorem iter_ok {body : St → (X → St → Bool) → Bool} {code : Code} {keep : List Nat}
    (hb : ∀ (st : St) (K : X → St → Bool) (c : Cx) (a : Act) (Q : Exit → Act → World → Prop), body st K = true → Good E.P w0 M c0 n0 c N st a → Done E w0 M c0 n0 N K Q → code.wp E.P Q a c.w) :
    ∀ (k : Nat) (st : St) (K : X → St → Bool) (c : Cx) (a : Act), iter E.P n0 body keep k st K = true → Good E.P w0 M c0 n0 c N st a → Done E w0 M c0 n0 N K Q → Code.rounds E.P code Q k a c.w
  | 0, st, K, c, a, hk, h, hq => by simp [iter] at hk
  | k + 1, st, K, c, a, hk, h, hq => by
    rw [rounds_succ]
    refine hb st _ c a _ hk h (fun x c' st' a' hk' h' => ?_)
    cases x with
    | normal =>
      obtain ⟨c2, hw, h2⟩ := canon_ok (keep := keep) h'
      have := iter_ok hb k _ K c2 a' hk' h2 hq
      rw [hw] at this
      exact this
    | exit i => exact hq (.exit i) c' st' a' hk' h'
    | ret => exact hq .ret c' st' a' hk' h'

theorem exC_ok (hc : CallOk E.P call) (hm : E.P.follows .mixedOrders = true) (fid k : Nat) : ∀ (code : Code) (st : St) (K : X → St → Bool) (c : Cx) (a : Act) (Q : Exit → Act → World → Prop), codeOk N code = true → exC E call n0 fid k code st K = true → Good E.P w0 M c0 n0 c N st a →
    Done E w0 M c0 n0 N K Q → code.wp E.P Q a c.w
  | .skip, st, K, c, a, Q, hok, hk, h, hq => wp_skip (hq .normal c st a hk h)
  | .region id ops draw, st, K, c, a, Q, hok, hk, h, hq => by
    unfold exC at hk
    cases draw with
    | false => exact wp_region_list (exOps_ok hc ops ops.toList st _ c a (codeOk_region hok) hk h (fun c' st' a' hk' h' => hq .normal c' st' a' hk' h'))
    | true =>
      simp only at hk
      split at hk
      · rename_i hsel
        exact region_draw_ok hc hm (codeOk_region hok) hsel hk h (fun c' st' a' hk' h' => hq .normal c' st' a' hk' h')
      · cases hk
  | .seq p q, st, K, c, a, Q, hok, hk, h, hq => by
    unfold exC at hk
    simp only [codeOk, Bool.and_eq_true] at hok
    refine wp_seq_k fun K' hK' => ?_
    refine exC_ok hc hm fid k p st _ c a _ hok.1 hk h (fun x c' st' a' hk' h' => ?_)
    cases x with
    | normal => exact hK' _ _ (exC_ok hc hm fid k q st' K c' a' Q hok.2 hk' h' hq)
    | exit i => exact hq (.exit i) c' st' a' hk' h'
    | ret => exact hq .ret c' st' a' hk' h'
  | .cond t p q, st, K, c, a, Q, hok, hk, h, hq => by
    unfold exC at hk
    simp only [codeOk, Bool.and_eq_true] at hok
    split at hk
    · rename_i b hb
      have hv := ev_ok h 4 t
      have hbv := bool_of hv hb
      have key : Good E.P w0 M c0 n0 c N (subT st t b) a := by
        cases t with
        | tmp n => exact h.sub (b := b) hb rfl
        | _ => exact h
      cases b with
      | true => exact wp_cond_true hbv (exC_ok hc hm fid k p _ K c a Q hok.1 hk key hq)
      | false => exact wp_cond_false hbv (exC_ok hc hm fid k q _ K c a Q hok.2 hk key hq)
    · cases hk
  | .block id p, st, K, c, a, Q, hok, hk, h, hq => by
    unfold exC at hk
    refine wp_block ?_
    refine exC_ok hc hm fid k p st _ c a _ hok hk h (fun x c' st' a' hk' h' => ?_)
    cases x with
    | normal => exact hq .normal c' st' a' hk' h'
    | exit i =>
      change (match Nat.beq i id with | true => K .normal st' | false => K (.exit i) st') = true at hk'
      show (if i = id then Q .normal a' c'.w else Q (.exit i) a' c'.w)
      split at hk'
      · rename_i hb; rw [if_pos (Nat.eq_of_beq_eq_true hb)]; exact hq .normal c' st' a' hk' h'
      · rename_i hb; rw [if_neg (fun e => by rw [e, nbeq_self] at hb; cases hb)]; exact hq (.exit i) c' st' a' hk' h'
    | ret => exact hq .ret c' st' a' hk' h'
  | .loop p, st, K, c, a, Q, hok, hk, h, hq => by
    unfold exC at hk
    refine wp_loop_rounds k ?_
    obtain ⟨c2, hw, h2⟩ := canon_ok (keep := E.ann fid (keyOf p)) h
    have := iter_ok (Q := Q) (fun st K c a Q hk h hq => exC_ok hc hm fid k p st K c a Q hok hk h hq) k _ K c2 a hk h2 hq
    rw [hw] at this
    exact this
  | .exit id, st, K, c, a, Q, hok, hk, h, hq => wp_exit (hq (.exit id) c st a hk h)
  | .ret, st, K, c, a, Q, hok, hk, h, hq => wp_ret (hq .ret c st a hk h)
  | .rangeFunc .., st, K, c, a, Q, hok, hk, h, hq => by simp [exC] at hk
  | .scope _, st, K, c, a, Q, hok, hk, h, hq => by simp [exC] at hk
  | .label _, st, K, c, a, Q, hok, hk, h, hq => by simp [exC] at hk
  | .goto _, st, K, c, a, Q, hok, hk, h, hq => by simp [exC] at hk

theorem resA_ok {P : Program} {c : Cx} {st : St} {a : Act} (h : Good P w0 M c0 n0 c N st a) : ∀ (l : List ResultVar) (rs : List AV), resA P st l = some rs →
    ∃ vs : List Value, (l.mapM (fun x => match x with | .tmp t => pure (a.tmps.getD t undef) | .cell b t => do loadVar t (← asAddr (a.tmps.getD b undef)) : ResultVar → Sem Value)).run P c.w = .ok vs c.w ∧ vs.length = rs.length ∧ ∀ (i : Nat) (x : AV), rs[i]? = some x → VRel P c x (vs.getD i undef)
  | [], rs, hr => by cases hr; exact ⟨[], by simp, rfl, fun i x hx => by simp at hx⟩
  | .tmp t :: l, rs, hr => by
    unfold resA at hr
    split at hr
    · rename_i s hs
      cases hr
      obtain ⟨vs, h1, h2, h3⟩ := resA_ok h l s hs
      refine ⟨a.tmps.getD t undef :: vs, ?_, by simp [h2], fun i x hx => ?_⟩
      · rw [List.mapM_cons]
        simp only [Sem.run_bind, Sem.run_pure, Result.andThen_ok, h1]
      · cases i with
        | zero => simp at hx; subst hx; exact h.t t
        | succ i => have := h3 i x (by simpa using hx); simpa using this
    · cases hr
  | .cell b t :: l, rs, hr => by
    unfold resA at hr
    split at hr
    · rename_i v s hv hs
      cases hr
      obtain ⟨vs, h1, h2, h3⟩ := resA_ok h l s hs
      rw [← h.b] at hv
      obtain ⟨u, h4, h5⟩ := loadA_ok h.own (h.t b) hv
      have h6 : (do loadVar t (← asAddr (a.tmps.getD b undef)) : Sem Value).run P c.w = .ok u c.w := by
        rw [← h4]
        unfold Instr.loadAt
        have hp : ∃ ad, a.tmps.getD b undef = .pointer (some ad) := by
          have hbt := h.t b
          revert hv hbt
          generalize get st.t b = q
          generalize a.tmps.getD b undef = z
          intro hv hbt
          unfold loadA at hv
          split at hv
          · cases hbt with
            | one hbt => cases hbt <;> exact ⟨_, rfl⟩
          · cases hbt with
            | one hbt => cases hbt; exact ⟨_, rfl⟩
          · cases hv
        obtain ⟨ad, hp⟩ := hp
        rw [hp]
        simp [asAddr, Instr.sureAddr]
      refine ⟨u :: vs, ?_, by simp [h2], fun i x hx => ?_⟩
      · rw [List.mapM_cons]
        simp only [Sem.run_bind] at h6 ⊢
        rw [h6]
        simp only [Sem.run_pure, Result.andThen_ok, h1]
      · cases i with
        | zero => simp at hx; subst hx; exact h5
        | succ i => have := h3 i x (by simpa using hx); simpa using this
    · cases hr

theorem results_ok {P : Program} {c : Cx} {st : St} {a : Act} {fn : Func} (h : Good P w0 M c0 n0 c N st a) {rs : List AV} (hr : resA P st fn.results.toList = some rs) : ∃ v, (results fn a.tmps).run P c.w = .ok v c.w ∧ VRel P c (resV rs) v := by
  obtain ⟨vs, h1, h2, h3⟩ := resA_ok h _ _ hr
  have h4 : (fn.results.mapM (fun x => match x with | .tmp t => pure (a.tmps.getD t undef) | .cell b t => do loadVar t (← asAddr (a.tmps.getD b undef)) : ResultVar → Sem Value)).run P c.w = .ok vs.toArray c.w := by
    rw [Array.mapM_eq_mapM_toList, Sem.run_map, h1]
    rfl
  unfold results
  simp only [Sem.run_bind]
  refine ⟨if hz : vs.toArray.size = 1 then vs.toArray[0] else .tuple vs.toArray, ?_, ?_⟩
  · refine (congrArg (fun r => Result.andThen r _) h4).trans ?_
    simp
  · unfold resV
    split
    · rename_i v
      have hv : vs.length = 1 := by simpa using h2
      have := h3 0 v rfl
      rw [dif_pos (by simpa using hv)]
      match vs, hv with
      | [u], _ => simpa using this
    · rename_i hne
      have hv : vs.length ≠ 1 := fun e => by
        rw [h2] at e
        match rs, e with
        | [v], _ => exact hne v rfl
      rw [dif_neg (by simpa using hv)]
      exact .tup (by simpa using h2) (fun i x hx => by have := h3 i x hx; simpa [Array.getD_eq_getD_getElem?, List.getD_eq_getElem?_getD] using this)

theorem argsT_ok {P : Program} {c : Cx} : ∀ (args : List AV) (k : Nat) (vs : List Value) (rest : List Value), vs.length = args.length → (∀ (i : Nat) (x : AV), args[i]? = some x → VRel P c x (vs.getD i undef)) → ∀ n, VRel P c (get (argsT k args) n) (if k ≤ n then vs.getD (n - k) undef else undef)
  | [], k, vs, rest, hl, hr, n => .any
  | x :: args, k, [], rest, hl, hr, n => by simp at hl
  | x :: args, k, v :: vs, rest, hl, hr, n => by
    simp only [argsT, get]
    have ih := argsT_ok args (k + 1) vs rest (by simpa using hl) (fun i x hx => by have := hr (i + 1) x (by simpa using hx); simpa using this) n
    cases h : Nat.beq k n with
    | true =>
      have := Nat.eq_of_beq_eq_true h
      subst this
      have := hr 0 x rfl
      simpa using this
    | false =>
      have hne : k ≠ n := fun e => by subst e; rw [nbeq_self] at h; cases h
      by_cases hk : k ≤ n
      · rw [if_pos (by omega)] at ih
        rw [if_pos hk, show n - k = (n - (k + 1)) + 1 by omega]
        simpa using ih
      · rw [if_neg (by omega)] at ih
        rw [if_neg hk]
        exact ih

theorem body_ok (hc : CallOk E.P call) (hm : E.P.follows .mixedOrders = true) (k : Nat) {f : FuncId} {args : List AV} {B : List Blk} {K : Kont} (hk : bodyA E call f k args B K = true) {c : Cx} {vs : Array Value} (hO : Own E.P w0 M c) (hB : c.B = B) (hsz : vs.size = args.length)
    (hr : ∀ (i : Nat) (x : AV), args[i]? = some x → VRel E.P c x (vs.getD i undef)) :
    Calls E.P f vs c.w fun e w' => ∃ v c' rs, e = .returned v ∧ w' = c'.w ∧ K rs c'.B = true ∧ Own E.P w0 M c' ∧ ImmUp c c' ∧ (∀ j, j < B.length → At E.P c c' j j) ∧ VRel E.P c' (resV rs) v := by
  unfold bodyA at hk
  split at hk
  · rename_i fn hf
    split at hk
    · rename_i code hb
      split at hk
      · rename_i hok
        simp only [Bool.and_eq_true] at hok
        have hle := Nat.le_of_ble_eq_true hok.2
        refine calls_of_wp hf hb ?_
        refine exC_ok (w0 := w0) (M := M) (c0 := c) (n0 := B.length) (N := fn.ntmps) hc hm f k code _ _ c _ _ hok.1 hk ?_ ?_
        · refine ⟨hO, .refl c, fun j _ => .refl c j, hB, by simp; omega, rfl, fun n => ?_⟩
          have := argsT_ok args 0 vs.toList [] (by simpa using hsz) (fun i x hx => by have := hr i x hx; simpa [Array.getD_eq_getD_getElem?, List.getD_eq_getElem?_getD] using this) n
          simp only [Nat.zero_le, if_true, Nat.sub_zero] at this
          show VRel E.P c (get (argsT 0 args) n) _
          have e : (vs ++ Array.replicate (fn.ntmps - vs.size) undef).getD n undef = vs.toList.getD n undef := by
            rw [Array.getD_eq_getD_getElem?, List.getD_eq_getElem?_getD]
            by_cases hn : n < vs.size
            · rw [Array.getElem?_append_left hn]; simp
            · rw [Array.getElem?_append_right (by omega), Array.getElem?_replicate, List.getElem?_eq_none (by simp; omega)]
              split <;> rfl
          rw [e]
          exact this
        · intro x c' st' a' hk' h'
          have fin : ∀ rs, resA E.P st' fn.results.toList = some rs → K rs st'.b = true → a'.defers = [] ∧ ∃ v, (results fn a'.tmps).run E.P c'.w = .ok v c'.w ∧ ∃ v' c'' rs, Ending.returned v = .returned v' ∧ c'.w = c''.w ∧ K rs c''.B = true ∧ Own E.P w0 M c'' ∧ ImmUp c c'' ∧ (∀ j, j < B.length → At E.P c c'' j j) ∧ VRel E.P c'' (resV rs) v' := by
            intro rs hrs hK
            obtain ⟨v, h1, h2⟩ := results_ok h' hrs
            exact ⟨h'.defers, v, h1, v, c', rs, rfl, rfl, by rw [h'.b]; exact hK, h'.own, h'.up, h'.old, h2⟩
          cases x with
          | exit i => simp [kBody] at hk'
          | normal =>
            simp only [kBody] at hk'
            split at hk'
            · rename_i rs hrs; exact fin rs hrs hk'
            · cases hk'
          | ret =>
            simp only [kBody] at hk'
            split at hk'
            · rename_i rs hrs; exact fin rs hrs hk'
            · cases hk'
      · cases hk
    · cases hk
  · cases hk

/-- What is known of functions holds. -/
structure EnvOk (E : Env) : Prop where
  call : ∀ f en, E.ent f = some en → CallOk1 E.P f (callEnt E.P en)

theorem run_ok (he : EnvOk E) (hm : E.P.follows .mixedOrders = true) (k : Nat) : ∀ d, CallOk E.P (run E k d)
  | 0 => by
    intro f args B K hk w0 M c vs hO hB hsz hr
    unfold run at hk
    split at hk
    · rename_i en hen
      exact he.call f en hen args B K hk w0 M c vs hO hB hsz hr
    · cases hk
  | d + 1 => by
    intro f args B K hk w0 M c vs hO hB hsz hr
    unfold run at hk
    split at hk
    · rename_i en hen
      exact he.call f en hen args B K hk w0 M c vs hO hB hsz hr
    · exact body_ok (run_ok he hm k d) hm k hk hO hB hsz hr
end
end Go.X
