/- Builtins, calls and all operations do what their abstract ones say. -/
import Derived.Test.YtejllbmokmibkaaXApp
namespace Go.X
open Go
set_option linter.unusedSimpArgs false
set_option linter.unusedVariables false

section
variable {E : Env} {call : FuncId → List AV → List Blk → Kont → Bool} {w0 : World} {M : Nat → Prop} {c0 c : Cx} {n0 N : Nat} {st : St} {a : Act} {o : Oper} {next : Act → World → Prop} {Q : Exit → Act → World → Prop} {K : St → Bool}

theorem zeroOk_ok {P : Program} {t : TypeId} (h : zeroOk P t = true) : (∃ z i, P.info? t = some i ∧ i.zero = some z ∧ z.cells.size = P.cellsOf t) ∧ 1 ≤ P.bytesOf t := by
  unfold zeroOk at h
  split at h
  · rename_i z hz
    simp only [Bool.and_eq_true] at h
    obtain ⟨i, v, hi, hiz, hvs, _, _⟩ := zeroOf_ok (c := ⟨default, fun _ => False, [], []⟩) hz
    have := Nat.eq_of_beq_eq_true h.1
    exact ⟨⟨v, i, hi, hiz, by omega⟩, Nat.le_of_ble_eq_true h.2⟩
  · cases h

/-- A block of no rows that has no place yet. -/
theorem Own.pushN {P : Program} {w0 : World} {M : Nat → Prop} {c : Cx} (h : Own P w0 M c) (t : TypeId) (ht : rowTy P t = true) :
    let c' : Cx := ⟨c.w, c.I, c.φ ++ [none], c.B ++ [.rows t []]⟩
    ImmUp c c' ∧ (∀ j, At P c c' j j) ∧ Own P w0 M c' := by
  intro c'
  have hi : ImmUp c c' := ⟨fun _ h => h, fun _ _ => rfl, fun _ h => .inl h, Nat.le_refl _⟩
  have hφ : ∀ (j : Nat) x, c.φ[j]? = some x → c'.φ[j]? = some x := fun j x hx => by
    have hj := (List.getElem?_eq_some_iff.1 hx).1
    show (c.φ ++ [none])[j]? = _
    rw [List.getElem?_append_left hj]; exact hx
  have hB : ∀ (j : Nat) x, c.B[j]? = some x → c'.B[j]? = some x := fun j x hx => by
    have hj := (List.getElem?_eq_some_iff.1 hx).1
    show (c.B ++ [Blk.rows t []])[j]? = _
    rw [List.getElem?_append_left hj]; exact hx
  have ha : ∀ j, At P c c' j j := fun j => ⟨fun x hx => hφ j x hx, fun t rs hr => ⟨rs, hB j _ hr, rfl⟩, fun cs hc => ⟨cs, hB j _ hc, rfl⟩, fun b t k _ h => h⟩
  have hback : ∀ (j b : Nat), c'.φ[j]? = some (some b) → c.φ[j]? = some (some b) := fun j b hb => by
    by_cases hj : j < c.φ.length
    · rw [← hb]; exact (List.getElem?_append_left hj).symm
    · have h1 : j = c.φ.length := by have := (List.getElem?_eq_some_iff.1 hb).1; simp [c'] at this; omega
      subst h1
      simp [c'] at hb
  refine ⟨hi, ha, by simp [c', h.len], fun j b hb => h.new j b (hback j b hb), fun i j b hb hc => h.inj _ _ _ (hback i b hb) (hback j b hc), h.imm, fun j x hx => ?_, h.os, h.tape, h.output, h.size, h.keep⟩
  by_cases hj : j < c.B.length
  · have hx' : c.B[j]? = some x := by rw [← hx]; exact (List.getElem?_append_left hj).symm
    exact (h.blk j x hx').mono hi ha (List.getElem?_append_left (h.len ▸ hj)) (fun _ _ => rfl)
  · have h1 : j = c.B.length := by have := (List.getElem?_eq_some_iff.1 hx).1; simp [c'] at this; omega
    subst h1
    simp [c'] at hx
    subst hx
    exact .none (by simp [c', ← h.len]) ht

/-- append to nil. -/
theorem app_nil (h : Good E.P w0 M c0 n0 c N st a) {e t u ty : TypeId} {rs : List (List AC)} {x : Value} {news : List Value} (hrt : rowTy E.P e = true) (ht : E.P.underlying t = some (.slice e)) (hu : ∃ d, E.P.underlying u = some d ∧ ∀ k, d ≠ .int k)
    (hz : ∃ z i, E.P.info? e = some i ∧ i.zero = some z ∧ z.cells.size = E.P.cellsOf e) (hsrc : Src E.P c.w (E.P.cellsOf e) x rs.length news) (hsh : Shows E.P c e rs news) (hwt : WT E.P (.sl e) (.dat e rs))
    (hroom : rs.length * E.P.bytesOf e ≤ maxRows) (hlen : rs.length ≤ maxLen) :
    ∃ c' v', (Builtin.append_ #[t, u] ty #[.slice none 0 0, x]).run E.P c.w = .ok v' c'.w ∧ Good E.P w0 M c0 n0 c' N { st with b := st.b ++ [.rows e rs] } a ∧ CRel E.P c' (.own st.b.length) v' := by
  obtain ⟨z, i, hi, hiz, hzs⟩ := hz
  obtain ⟨hby, hsz⟩ := bytes_of_info hi
  have hrtl := rowTy_len hrt
  rw [hsz] at hsrc
  have es : st.b.length = c.B.length := by rw [h.b]
  by_cases hne : rs = []
  · subst hne
    obtain ⟨hi', ha, hO⟩ := h.own.pushN e hrt
    refine ⟨⟨c.w, c.I, c.φ ++ [none], c.B ++ [.rows e []]⟩, .slice none 0 0, ?_, h.move hi' ha hO { st with b := st.b ++ [.rows e []] } (by rw [h.b]) rfl, ?_⟩
    · have hl := hsrc.len c.w rfl
      have hf := hsrc.first c.w rfl
      obtain ⟨d, hud, hnk⟩ := hu
      have hm : (match d with | TypeDesc.int k => true | x => false) = false := by cases d <;> first | rfl | exact absurd rfl (hnk _)
      simp only [List.length_nil] at hl hf
      simp [Builtin.append_, run_underlying ht, run_underlying hud, sizeOf, typeInfo, hi, hl, hf, hm]
    · rw [es]
      exact .ownN (t := e) (by simp) (by show (c.φ ++ [none])[c.B.length]? = _; rw [← h.own.len]; simp)
  · have hpos : 0 < rs.length := List.length_pos_iff.2 hne
    have hml : maxLen = 9223372036854775807 := rfl
    have hfits : Builtin.nextslicecap (0 + rs.length) 0 * i.bytes ≤ 281474976710656 := growslice_fits (by simpa using hpos) (by rw [← hby]; unfold maxRows at hroom; simpa using (by omega : rs.length * E.P.bytesOf e ≤ 140737488355328))
    have hrun := run_app_grow (P := E.P) (w := c.w) (ty := ty) ht hu hi hiz (base := none) (sLen := 0) (sCap := 0) (olds := []) (fun w' _ => by simp [Builtin.firstCells]) hsrc (by omega) (by omega) hfits
    have hge := grownCap_ge c.w (0 + rs.length) 0 e
    have hcm := grownCap_le_maxLen c.w (0 + rs.length) 0 e (by omega)
    simp only [Nat.zero_add, List.nil_append] at hrun hge hcm
    let cur : Array Value := news.toArray ++ Builtin.zeroCells z.cells (grownCap c.w rs.length 0 e - rs.length)
    have hcur : cur.size = grownCap c.w rs.length 0 e * E.P.cellsOf e := by
      simp only [cur, Array.size_append, List.size_toArray, size_zeroCells, hzs, hsh.1, ← Nat.add_mul]
      congr 1
      omega
    have hG := h.drew
    let c1 : Cx := { c with w := { c.w with drawn := c.w.drawn + 1 } }
    obtain ⟨d1, d2, d3⟩ := h.own.drawn (w' := { c.w with drawn := c.w.drawn + 1 }) rfl rfl rfl rfl
    have hφ := hG.own.push_top (.cells cur e) (.rows e rs)
    have hcurnew := heap_alloc_new c1.w (.cells cur e)
    have hG2 := hG.push (.cells cur e) (.rows e rs) (.rows (cap := grownCap c.w rs.length 0 e) hφ hcurnew hcur (by omega) hcm hrt hwt (fun i' row o' q hx hy => by
      obtain ⟨ho', hi'⟩ := wt_row_lt hwt hx hy
      have h9 : (i' + 1) * E.P.cellsOf e ≤ rs.length * E.P.cellsOf e := Nat.mul_le_mul_right _ hi'
      rw [Nat.add_mul] at h9
      have := ((hsh.2 _ _ _ _ hx hy).mono d1 d2).mono (hG.own.immUp_push (.cells cur e) (.rows e rs)) (hG.own.at_push _ _)
      have e1 : cur.getD (i' * E.P.cellsOf e + o') undef = news.getD (i' * E.P.cellsOf e + o') undef := by
        rw [← tl_getD, List.getD_eq_getElem?_getD, List.getD_eq_getElem?_getD]
        congr 1
        simp only [cur, Array.toList_append]
        exact List.getElem?_append_left (by simp [hsh.1]; omega)
      rw [e1]
      exact this))
    refine ⟨_, _, hrun, hG2, ?_⟩
    rw [es]
    exact .own (t := e) (cap := grownCap c.w rs.length 0 e) (Cx.push_top c1 _ _) hφ hge hcm ⟨cur, hcurnew, hcur⟩

/-- A call of a builtin. -/
theorem run_builtin {P : Program} {a : Act} {o : Oper} {b : Builtin} {args : Array Operand} {argTypes : Array TypeId} {w : World} (ho : o.op = .call { callee := .builtin b, args := args, argTypes := argTypes }) :
    ∃ consts, (execOp a.eval o).run P w = (Go.builtin b argTypes o.type consts (args.map a.eval)).run P w :=
  ⟨_, by simp only [execOp, ho, resolve, invoke, Sem.run_bind, Sem.run_pure, Result.andThen_ok]; rfl⟩

theorem evs_ok (h : Good E.P w0 M c0 n0 c N st a) : ∀ (xs : List Operand) (ts : List TypeId), (evs E st xs ts).length = xs.length ∧ ∀ (i : Nat) (x : AV), (evs E st xs ts)[i]? = some x → VRel E.P c x ((xs.map a.eval).getD i undef)
  | [], ts => ⟨by cases ts <;> rfl, fun i x hx => by cases ts <;> simp [evs] at hx⟩
  | x :: xs, ts => by
    have key : ∀ (t : TypeId) (ts' : List TypeId), (ev E t st x :: evs E st xs ts').length = (x :: xs).length ∧ ∀ (i : Nat) (z : AV), (ev E t st x :: evs E st xs ts')[i]? = some z → VRel E.P c z (((x :: xs).map a.eval).getD i undef) := by
      intro t ts'
      obtain ⟨h1, h2⟩ := evs_ok h xs ts'
      refine ⟨by simp [h1], fun i z hz => ?_⟩
      cases i with
      | zero => simp at hz; subst hz; exact ev_ok h t x
      | succ i => have := h2 i z (by simpa using hz); simpa using this
    cases ts with
    | nil => exact key 0 []
    | cons t ts => exact key t ts

theorem op_append (h : Good E.P w0 M c0 n0 c N st a) (hd : ∀ n, o.dst = some n → n < N) (hx : Nx E w0 M c0 n0 N K next) {t u : TypeId} {X Z : Operand} (ho : o.op = .call { callee := .builtin .append, args := #[X, Z], argTypes := #[t, u] })
    {s x : AV} (hs : VRel E.P c s (a.eval X)) (hv : VRel E.P c x (a.eval Z)) (hu : ∃ d, E.P.underlying u = some d ∧ ∀ k, d ≠ .int k) {b : Bool} {st' : St} (hap : appendA E.P n0 t st o.dst s x = some (b, st')) (hk : grd b (K st') = true) : o.wp E.P a c.w next Q := by
  obtain ⟨hb, hk⟩ := grd_ok hk
  subst hb
  unfold appendA at hap
  have hrun : ∀ (v : Value) (w' : World), (Builtin.append_ #[t, u] o.type #[a.eval X, a.eval Z]).run E.P c.w = .ok v w' → (execOp a.eval o).run E.P c.w = .ok (.value v) w' := by
    intro v w' hr
    obtain ⟨consts, hc⟩ := run_builtin (a := a) (P := E.P) (w := c.w) ho
    rw [hc]
    simp [Go.builtin, hr]
  split at hap
  · rename_i e ht
    split at hap
    · rename_i rs t' hck hsr
      simp only [Bool.and_eq_true] at hck
      obtain ⟨hz, hby⟩ := zeroOk_ok hck.2
      split at hap
      · rename_i hte
        have hte := Nat.eq_of_beq_eq_true hte
        subst hte
        simp only [Option.some.injEq, Prod.mk.injEq, decide_eq_true_eq] at hap
        obtain ⟨hroom, rfl⟩ := hap
        rw [← h.b] at hsr
        obtain ⟨news, h1, h2, h3⟩ := src_ok h.own hck.1 hv hsr
        generalize hX : a.eval X = vX at hs hrun
        cases hs with
        | one hs =>
          cases hs
          have hlen : rs.length ≤ maxLen := by
            have : rs.length * 1 ≤ rs.length * E.P.bytesOf t' := Nat.mul_le_mul_left _ hby
            unfold maxLen; unfold maxRows at hroom; omega
          obtain ⟨c', v', hr, hG, hrel⟩ := app_nil h (ty := o.type) hck.1 ht hu hz h1 h2 h3 hroom hlen
          exact wp_val (hrun _ _ hr) (hx c' _ _ hk (hG.set hd (.one hrel)))
      · cases hap
    · rename_i rs j hck hsr
      simp only [Bool.and_eq_true] at hck
      obtain ⟨hz, hby⟩ := zeroOk_ok hck.2
      split at hap
      · rename_i t' r0 hj hnj
        split at hap
        · rename_i hte
          have hte := Nat.eq_of_beq_eq_true hte
          subst hte
          have hnj := Nat.le_of_ble_eq_true hnj
          simp only [Option.some.injEq, Prod.mk.injEq, decide_eq_true_eq] at hap
          obtain ⟨hroom, rfl⟩ := hap
          rw [← h.b] at hsr hj
          obtain ⟨news, h1, h2, h3⟩ := src_ok h.own hck.1 hv hsr
          generalize hX : a.eval X = vX at hs hrun
          cases hs with
          | one hs =>
            have hlen : r0.length + rs.length ≤ maxLen := by
              have : (r0.length + rs.length) * 1 ≤ (r0.length + rs.length) * E.P.bytesOf t' := Nat.mul_le_mul_left _ hby
              unfold maxLen; unfold maxRows at hroom; omega
            obtain ⟨w', ob, v', hr, hi, ha, hO, hrel⟩ := app_core h.own (ty := o.type) (fun b hb => (h.own.new j b hb).1) hj hs hck.1 ht hu hz h1 h2 h3 hroom hlen
            refine wp_val (hrun _ _ hr) (hx _ _ _ hk (Good.set ?_ hd (.one hrel)))
            have hg : ∀ i n, forget j i = some n → At E.P c _ i n := fun i n hn => by
              obtain ⟨rfl, hne⟩ := forget_ne hn
              exact ha _ hne
            refine ⟨hO, h.up.trans hi, fun i hin => (h.old i hin).trans (ha i (by omega)), by simp [dropRef, h.b], h.size, h.defers, fun n => ?_⟩
            show VRel E.P _ (get (st.t.map fun x => (x.1, x.2.rn (forget j))) n) _
            rcases get_rn (forget j) st.t n with e | e
            · rw [e]; exact (h.t n).rn hi hg
            · rw [e]; exact .any
        · cases hap
      · cases hap
    · cases hap
  · cases hap

theorem op_len (h : Good E.P w0 M c0 n0 c N st a) (hd : ∀ n, o.dst = some n → n < N) {t : TypeId} {X : Operand} (ho : o.op = .call { callee := .builtin .len, args := #[X], argTypes := #[t] })
    {x : AV} (hv : VRel E.P c x (a.eval X)) {n : Int} (hl : lenA E.P t st.b x = some n) (hk : K (setT st o.dst (.one (.int .i64 n))) = true) : StillTo E w0 M c0 n0 N c a o K := by
  rw [← h.b] at hl
  obtain ⟨h1, h2⟩ := lenA_ok h.own hv hl o.type
  refine done_pure h hd (.one (.int h2)) (fun w => ?_) hk
  obtain ⟨consts, hc⟩ := run_builtin (a := a) (P := E.P) (w := w) ho
  rw [hc]
  simp [Go.builtin, h1 w]

theorem op_min (h : Good E.P w0 M c0 n0 c N st a) (hd : ∀ n, o.dst = some n → n < N) {args : Array Operand} {ts : Array TypeId} (ho : o.op = .call { callee := .builtin .min, args := args, argTypes := ts })
    {k : IntKind} {p : Int} {r : List AV} {v : AV} (he : evs E st args.toList ts.toList = .one (.int k p) :: r) (hm : minF k p r = some v) (hk : K (setT st o.dst v) = true) : StillTo E w0 M c0 n0 N c a o K := by
  obtain ⟨h1, h2⟩ := evs_ok h args.toList ts.toList
  rw [he] at h1 h2
  cases hal : args.toList with
  | nil => rw [hal] at h1; simp at h1
  | cons X xs =>
    rw [hal] at h1 h2
    have h0 := h2 0 _ rfl
    simp only [List.map_cons, List.getD_cons_zero] at h0
    obtain ⟨e0, hw⟩ := int_of h0
    obtain ⟨u, h3, h4⟩ := minF_ok (c := c) r p (xs.map a.eval) v (by simpa using h1) (fun i x hx => by have := h2 (i + 1) x (by simpa using hx); simpa using this) hw hm
    refine done_still h hd h4 (by simp [pureO, pureOp, ho]) ?_ hk
    obtain ⟨consts, hc⟩ := run_builtin (a := a) (P := E.P) (w := c.w) ho
    rw [hc]
    have hargs : args.map a.eval = (Value.int k p :: xs.map a.eval).toArray := by
      apply Array.ext'
      simp [hal, e0]
    rw [hargs]
    simp [Go.builtin, Builtin.min_, h3]

theorem op_max (h : Good E.P w0 M c0 n0 c N st a) (hd : ∀ n, o.dst = some n → n < N) {args : Array Operand} {ts : Array TypeId} (ho : o.op = .call { callee := .builtin .max, args := args, argTypes := ts })
    {k : IntKind} {p : Int} {r : List AV} {v : AV} (he : evs E st args.toList ts.toList = .one (.int k p) :: r) (hm : maxF k p r = some v) (hk : K (setT st o.dst v) = true) : StillTo E w0 M c0 n0 N c a o K := by
  obtain ⟨h1, h2⟩ := evs_ok h args.toList ts.toList
  rw [he] at h1 h2
  cases hal : args.toList with
  | nil => rw [hal] at h1; simp at h1
  | cons X xs =>
    rw [hal] at h1 h2
    have h0 := h2 0 _ rfl
    simp only [List.map_cons, List.getD_cons_zero] at h0
    obtain ⟨e0, hw⟩ := int_of h0
    obtain ⟨u, h3, h4⟩ := maxF_ok (c := c) r p (xs.map a.eval) v (by simpa using h1) (fun i x hx => by have := h2 (i + 1) x (by simpa using hx); simpa using this) hw hm
    refine done_still h hd h4 (by simp [pureO, pureOp, ho]) ?_ hk
    obtain ⟨consts, hc⟩ := run_builtin (a := a) (P := E.P) (w := c.w) ho
    rw [hc]
    have hargs : args.map a.eval = (Value.int k p :: xs.map a.eval).toArray := by
      apply Array.ext'
      simp [hal, e0]
    rw [hargs]
    simp [Go.builtin, Builtin.max_, h3]

/-- What results show. -/
def resV (rs : List AV) : AV := match rs with | [v] => v | vs => .tup vs

/-- What a call is held to. -/
def CallOk (P : Program) (call : FuncId → List AV → List Blk → Kont → Bool) : Prop :=
  ∀ (f : FuncId) (args : List AV) (B : List Blk) (K : Kont), call f args B K = true →
  ∀ (w0 : World) (M : Nat → Prop) (c : Cx) (vs : Array Value), Own P w0 M c → c.B = B → vs.size = args.length → (∀ (i : Nat) (x : AV), args[i]? = some x → VRel P c x (vs.getD i undef)) →
  Calls P f vs c.w fun e w' => ∃ v c' rs, e = .returned v ∧ w' = c'.w ∧ K rs c'.B = true ∧ Own P w0 M c' ∧ ImmUp c c' ∧ (∀ j, j < B.length → At P c c' j j) ∧ VRel P c' (resV rs) v

theorem At.vac {P : Program} {w0 : World} {M : Nat → Prop} {c : Cx} (h : Own P w0 M c) (c' : Cx) {j n : Nat} (hj : c.B.length ≤ j) : At P c c' j n := by
  have h1 : c.φ[j]? = none := List.getElem?_eq_none (by rw [h.len]; exact hj)
  have h2 : c.B[j]? = none := List.getElem?_eq_none hj
  exact ⟨fun x hx => (by rw [h1] at hx; cases hx), fun t rs hx => (by rw [h2] at hx; cases hx), fun cs hx => (by rw [h2] at hx; cases hx), fun b t k hx => (by rw [h1] at hx; cases hx)⟩

theorem callable_ok {P : Program} {f : FuncId} (h : callable P f = true) : ∃ fn, P.funcs[f]? = some fn ∧ (fn.name == "runtime.NumGoroutine") = false ∧ fn.body.isNone = false := by
  unfold callable at h
  split at h
  · rename_i fn hf
    simp only [Bool.and_eq_true, Bool.not_eq_true'] at h
    exact ⟨fn, hf, h.2, by simpa using h.1⟩
  · cases h

theorem op_call (hc : CallOk E.P call) (h : Good E.P w0 M c0 n0 c N st a) (hd : ∀ n, o.dst = some n → n < N) (hx : Nx E w0 M c0 n0 N K next) {F : Operand} {args : Array Operand} {ts : Array TypeId} (ho : o.op = .call { callee := .value F, args := args, argTypes := ts })
    {g : FuncId} {cap : List AC} (hF : VRel E.P c (.one (.fn g cap)) (a.eval F)) (hg : callable E.P g = true) (hk : callV call o g (evs E st args.toList ts.toList ++ cap.map AV.one) st K = true) : o.wp E.P a c.w next Q := by
  obtain ⟨fn, hf, hn, hb⟩ := callable_ok hg
  generalize hv : a.eval F = vf at hF
  cases hF with
  | one hF =>
    cases hF with
    | @fn _ _ vs hsz hcap =>
      have hn' : fn.name ≠ "runtime.NumGoroutine" := by simpa using hn
      have hb' : fn.body ≠ none := fun e => by simp [e] at hb
      have hrun : (execOp a.eval o).run E.P c.w = .ok (.enter g (args.map a.eval ++ vs)) c.w := by
        simp [execOp, ho, resolve, invoke, Deferred.ofValue, hv, callFunc, hf, hn', hb']
      unfold Oper.wp
      rw [hrun, Oper.upon_enter]
      unfold callV at hk
      obtain ⟨h1, h2⟩ := evs_ok h args.toList ts.toList
      rw [Array.length_toList (xs := args)] at h1
      have key := hc g _ st.b _ hk w0 M c (args.map a.eval ++ vs) h.own h.b (by simp [h1, hsz]) (fun i x hx => by
        by_cases hi : i < (evs E st args.toList ts.toList).length
        · rw [List.getElem?_append_left hi] at hx
          have := h2 i x hx
          rw [List.getD_eq_getElem?_getD] at this
          rw [Array.getD_eq_getD_getElem?, Array.getElem?_append_left (by simp; omega)]
          simpa using this
        · rw [List.getElem?_append_right (by omega)] at hx
          rw [List.getElem?_map] at hx
          cases hq : cap[i - (evs E st args.toList ts.toList).length]? with
          | none => rw [hq] at hx; cases hx
          | some q =>
            rw [hq] at hx
            cases hx
            have := hcap _ q hq
            rw [Array.getD_eq_getD_getElem?, Array.getElem?_append_right (by simp; omega)]
            rw [Array.getD_eq_getD_getElem?] at this
            refine .one ?_
            simpa [h1] using this)
      refine key.mono fun e w' ⟨v, c', rs, he, hw, hK, hO, hi, ha, hr⟩ => ?_
      subst he; subst hw
      have hall : ∀ j, At E.P c c' j j := fun j => by
        by_cases hj : j < st.b.length
        · exact ha j hj
        · exact .vac h.own c' (by rw [h.b]; omega)
      exact hx c' _ _ hK ((h.move hi hall hO { st with b := c'.B } rfl rfl).set hd (x := resV rs) hr)

/-- Operations that leave the world. -/
theorem exOp_still (h : Good E.P w0 M c0 n0 c N st a) (hd : ∀ n, o.dst = some n → n < N) (hs : stillOp o.op = true) (hk : exOp E call n0 o st K = true) : StillTo E w0 M c0 n0 N c a o K := by
  cases ho : o.op with
  | move x => exact op_move h hd (.inl ho) (by unfold exOp at hk; simpa only [ho] using hk)
  | assign x => exact op_move h hd (.inr ho) (by unfold exOp at hk; simpa only [ho] using hk)
  | pick p q r => exact op_pick (call := call) h hd ho hk
  | load t x => exact op_load (call := call) h hd ho hk
  | nilCheck x => exact op_nilCheck (call := call) h hd ho hk
  | binOp op xT x z yT => exact op_binOp (call := call) h hd ho hk
  | unOp op xT x => exact op_unOp (call := call) h hd ho hk
  | fieldAddr s x f => exact op_fieldAddr (call := call) h hd ho hk
  | field s x f => exact op_field (call := call) h hd ho hk
  | indexAddr t x i => exact op_indexAddr (call := call) h hd ho hk
  | index t x i => exact op_index (call := call) h hd ho hk
  | extract x i => exact op_extract (call := call) h hd ho hk
  | slice t x lo hi mx =>
    cases mx with
    | none => exact op_slice (call := call) h hd ho hk
    | some m => unfold exOp at hk; simp only [ho] at hk; cases hk
  | makeFunc fn first cap => exact op_makeFunc (call := call) h hd ho hk
  | call cl =>
    obtain ⟨callee, args, ts⟩ := cl
    rw [ho] at hs
    cases callee with
    | builtin b =>
      unfold exOp at hk
      simp only [ho] at hk
      unfold builtinA at hk
      split at hk
      · rename_i x t he ht
        have h2 := (evs_ok h args.toList ts.toList)
        rw [he] at h2
        obtain ⟨X, hX⟩ : ∃ X, args.toList = [X] := by
          have := h2.1
          match hl : args.toList with
          | [X] => exact ⟨X, rfl⟩
          | [] => rw [hl] at this; simp at this
          | _ :: _ :: _ => rw [hl] at this; simp at this
        split at hk
        · rename_i n hn
          have h0 := h2.2 0 _ rfl
          rw [hX] at h0
          exact op_len h hd (t := t) (X := X) (by rw [ho]; congr 2 <;> exact Array.ext' (by simp [hX, ht])) (by simpa using h0) hn hk
        · cases hk
      · simp [stillOp] at hs
      · rename_i k p r he
        split at hk
        · rename_i v hm; exact op_min h hd ho he hm hk
        · cases hk
      · rename_i k p r he
        split at hk
        · rename_i v hm; exact op_max h hd ho he hm hk
        · cases hk
      · cases hk
    | _ => simp [stillOp] at hs
  | _ => rw [ho] at hs; simp [stillOp] at hs

/-- Operations that do not look at memory. -/
theorem exOp_pure (h : Good E.P w0 M c0 n0 c N st a) (hd : ∀ n, o.dst = some n → n < N) (hp : pureO E.P o = true) (hk : exOp E call n0 o st K = true) : StillTo E w0 M c0 n0 N c a o K := by
  by_cases hs : stillOp o.op = true
  · exact exOp_still h hd hs hk
  · cases ho : o.op with
    | convert src dst x =>
      simp only [pureO, pureOp, ho, Bool.false_or] at hp
      split at hp
      · rename_i k hu2
        unfold exOp at hk
        simp only [ho] at hk
        have hv := ev_ok h src x
        split at hk
        · rename_i r hcv
          unfold convA at hcv
          split at hcv
          · rename_i d1 k2 k' n hu hu3 he
            rw [hu2] at hu3
            cases hu3
            cases hcv
            rw [he] at hv
            obtain ⟨he, _⟩ := int_of hv
            exact done_pure h hd (.one (.int (wrap_wf _ _))) (fun w => by simp [execOp, ho, he, convert, run_underlying hu, run_underlying hu2, Conv.intToInt]) hk
          · rename_i hu3 _; rw [hu2] at hu3; cases hu3
          · rename_i hu3 _; rw [hu2] at hu3; cases hu3
          · rename_i hu3 _; rw [hu2] at hu3; cases hu3
          · cases hcv
        · cases hk
      · cases hp
    | call cl =>
      obtain ⟨callee, args, ts⟩ := cl
      cases callee with
      | builtin b =>
        cases b with
        | len => rw [ho] at hs; exact absurd rfl hs
        | _ => simp [pureO, pureOp, ho] at hp
      | _ => simp [pureO, pureOp, ho] at hp
    | _ =>
      first
        | (rw [ho] at hs; exact absurd rfl hs)
        | (simp [pureO, pureOp, ho] at hp; done)

theorem exOp_ok (hc : CallOk E.P call) (h : Good E.P w0 M c0 n0 c N st a) (hd : ∀ n, o.dst = some n → n < N) (hx : Nx E w0 M c0 n0 N K next) (hk : exOp E call n0 o st K = true) : o.wp E.P a c.w next Q := by
  by_cases hs : stillOp o.op = true
  · exact (exOp_still h hd hs hk).wp hx
  cases ho : o.op with
  | alloc t => exact op_alloc (call := call) h hd hx ho hk
  | box t x => exact op_box (call := call) h hd hx ho hk
  | build t ps => exact op_build (call := call) h hd hx ho hk
  | buildSlice t n ps => exact op_buildSlice (call := call) h hd hx ho hk
  | store t x z => exact op_store (call := call) h hd hx ho hk
  | convert s t x => exact op_convert (call := call) h hd hx ho hk
  | makeSlice t l k => exact op_makeSlice (call := call) h hd hx ho hk
  | call cl =>
    obtain ⟨callee, args, ts⟩ := cl
    cases callee with
    | builtin b =>
      unfold exOp at hk
      simp only [ho] at hk
      unfold builtinA at hk
      split at hk
      · rw [ho] at hs; simp [stillOp] at hs
      · rename_i s x t u he ht
        have h2 := (evs_ok h args.toList ts.toList)
        rw [he] at h2
        obtain ⟨X, Z, hX⟩ : ∃ X Z, args.toList = [X, Z] := by
          have := h2.1
          match hl : args.toList with
          | [X, Z] => exact ⟨X, Z, rfl⟩
          | [] => rw [hl] at this; simp at this
          | [_] => rw [hl] at this; simp at this
          | _ :: _ :: _ :: _ => rw [hl] at this; simp at this
        have h0 := h2.2 0 _ rfl
        have h1 := h2.2 1 _ rfl
        rw [hX] at h0 h1
        have ho' : o.op = .call { callee := .builtin .append, args := #[X, Z], argTypes := #[t, u] } := by rw [ho]; congr 2 <;> exact Array.ext' (by simp [hX, ht])
        split at hk
        · rename_i hu
          split at hk
          · rename_i b st' hap
            exact op_append h hd hx ho' (by simpa using h0) (by simpa using h1) ⟨_, hu, fun k hk => by cases hk⟩ hap hk
          · cases hk
        · rename_i hu
          split at hk
          · rename_i b st' hap
            exact op_append h hd hx ho' (by simpa using h0) (by simpa using h1) ⟨_, hu, fun k hk => by cases hk⟩ hap hk
          · cases hk
        · cases hk
      · rw [ho] at hs; simp [stillOp] at hs
      · rw [ho] at hs; simp [stillOp] at hs
      · cases hk
    | value F =>
      unfold exOp at hk
      simp only [ho] at hk
      split at hk
      · rename_i g cap hF
        split at hk
        · rename_i hg
          exact op_call hc h hd hx ho (by rw [← hF]; exact ev_ok h 2 F) hg hk
        · cases hk
      · cases hk
    | invoke _ _ => unfold exOp at hk; simp only [ho] at hk; cases hk
  | slice t x lo hi mx =>
    cases mx with
    | none => rw [ho] at hs; simp [stillOp] at hs
    | some m => unfold exOp at hk; simp only [ho] at hk; cases hk
  | _ => first | (rw [ho] at hs; simp [stillOp] at hs; done) | (unfold exOp at hk; simp only [ho] at hk; cases hk)
end
end Go.X
