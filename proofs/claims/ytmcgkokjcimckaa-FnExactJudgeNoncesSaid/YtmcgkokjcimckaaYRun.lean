/- Builtins, calls and all operations do what their abstract ones say. -/
import Derived.Test.YtmcgkokjcimckaaYApp
import Derived.MapKept
set_option linter.all false
namespace Go.X
open Go
set_option linter.unusedSimpArgs false
set_option linter.unusedVariables false

section
variable {E : Env} {call : FuncId → List AV → List Blk → Kont → Bool} {w0 : World} {M : Nat → Prop} {c0 c : Cx} {n0 N : Nat} {st : St} {a : Act} {o : Oper} {next : Act → World → Prop} {Q : Exit → Act → World → Prop} {K : St → Bool}

theorem zero_info {P : Program} {T : Tab} {t : TypeId} {n : Nat} {z : List AC} (h : zeroOf P T t = some z) (hl : z.length = n) : ∃ z i, P.info? t = some i ∧ i.zero = some z ∧ z.cells.size = n := by
  obtain ⟨i, v, hi, hiz, hvs, _, _⟩ := zeroOf_ok (c := ⟨default, fun _ => False, [], []⟩) h
  exact ⟨v, i, hi, hiz, by omega⟩

/-- A block of no rows that has no place yet. -/
theorem Own.pushN {w0 : World} {M : Nat → Prop} {c : Cx} (h : Own w0 M c) (t : TypeId) (d : Cd) :
    let c' : Cx := ⟨c.w, c.I, c.φ ++ [none], c.B ++ [.rows t d []]⟩
    ImmUp c c' ∧ (∀ j, At c c' j j) ∧ Own w0 M c' := by
  intro c'
  have hi : ImmUp c c' := ⟨fun _ h => h, fun _ _ => rfl, fun _ h => .inl h, Nat.le_refl _⟩
  have hφ : ∀ (j : Nat) x, c.φ[j]? = some x → c'.φ[j]? = some x := fun j x hx => by
    have hj := (List.getElem?_eq_some_iff.1 hx).1
    show (c.φ ++ [none])[j]? = _
    rw [List.getElem?_append_left hj]; exact hx
  have hB : ∀ (j : Nat) x, c.B[j]? = some x → c'.B[j]? = some x := fun j x hx => by
    have hj := (List.getElem?_eq_some_iff.1 hx).1
    show (c.B ++ [Blk.rows t d []])[j]? = _
    rw [List.getElem?_append_left hj]; exact hx
  have ha : ∀ j, At c c' j j := fun j => ⟨fun x hx => hφ j x hx, fun t d rs hr => ⟨rs, hB j _ hr, rfl⟩, fun cs hc => ⟨cs, hB j _ hc, rfl⟩, fun d m hm => ⟨m, hB j _ hm⟩, fun b t k _ h => h⟩
  have hback : ∀ (j b : Nat), c'.φ[j]? = some (some b) → c.φ[j]? = some (some b) := fun j b hb => by
    by_cases hj : j < c.φ.length
    · rw [← hb]; exact (List.getElem?_append_left hj).symm
    · have h1 : j = c.φ.length := by have := (List.getElem?_eq_some_iff.1 hb).1; simp [c'] at this; omega
      subst h1
      simp [c'] at hb
  refine ⟨hi, ha, by simp [c', h.len], fun j b hb => h.new j b (hback j b hb), fun i j b hb hc => h.inj _ _ _ (hback i b hb) (hback j b hc), h.imm, fun j x hx => ?_, h.os, h.tape, h.output, h.size, h.keep⟩
  by_cases hj : j < c.B.length
  · have hx' : c.B[j]? = some x := by rw [← hx]; exact (List.getElem?_append_left hj).symm
    exact (h.blk j x hx').mono hi ha (List.getElem?_append_left (h.len ▸ hj)) (fun _ _ => rfl)
  · have h1 : j = c.B.length := by have := (List.getElem?_eq_some_iff.1 hx).1; simp [c'] at this; omega
    subst h1
    simp [c'] at hx
    subst hx
    exact .none (by simp [c', ← h.len])

/-- append to nil. -/
theorem app_nil (h : Good w0 M c0 n0 c N st a) {d : Cd} {e t u ty : TypeId} {rs : List (den d)} {x : Value} {news : List Value} {ad : Option Addr} (hcs : E.P.cellsOf e = size d) (ht : E.P.underlying t = some (.slice e)) (hu : ∃ d, E.P.underlying u = some d ∧ ∀ k, d ≠ .int k)
    (hz : ∃ z i, E.P.info? e = some i ∧ i.zero = some z ∧ z.cells.size = size d) (hsrc : Src E.P c.w (size d) x rs.length news) (hsh : Shows c d rs news)
    (hroom : rs.length * E.P.bytesOf e ≤ maxRows) (hlen : rs.length ≤ maxLen) :
    ∃ c' v', (Builtin.append_ #[t, u] ty #[.slice ad 0 0, x]).run E.P c.w = .ok v' c'.w ∧ Good w0 M c0 n0 c' N { st with b := st.b ++ [.rows e d rs] } a ∧ CRel c' (.own st.b.length) v' := by
  obtain ⟨z, i, hi, hiz, hzs⟩ := hz
  obtain ⟨hby, hsz⟩ := bytes_of_info hi
  rw [hcs] at hsz
  rw [hsz] at hsrc
  have es : st.b.length = c.B.length := by rw [h.b]
  by_cases hne : rs = []
  · subst hne
    obtain ⟨hi', ha, hO⟩ := h.own.pushN e d
    obtain rfl : news = [] := List.eq_nil_of_length_eq_zero (by have := hsrc.size; simpa using this)
    refine ⟨⟨c.w, c.I, c.φ ++ [none], c.B ++ [.rows e d []]⟩, .slice ad 0 0, ?_, h.move hi' ha hO { st with b := st.b ++ [.rows e d []] } (by rw [h.b]) rfl, ?_⟩
    · have hl := hsrc.len c.w rfl
      have hf := hsrc.first c.w rfl
      obtain ⟨dd, hud, hnk⟩ := hu
      have hm : (match dd with | TypeDesc.int k => true | x => false) = false := by cases dd <;> first | rfl | exact absurd rfl (hnk _)
      simp only [List.length_nil] at hl hf
      cases ad with
      | none => simp [Builtin.append_, run_underlying ht, run_underlying hud, sizeOf, typeInfo, hi, hl, hf, hm]
      | some ad => simp [Builtin.append_, run_underlying ht, run_underlying hud, sizeOf, typeInfo, hi, hl, hf, hm, storeCells]
    · rw [es]
      exact .ownN (t := e) (d := d) (by simp) (by show (c.φ ++ [none])[c.B.length]? = _; rw [← h.own.len]; simp)
  · have hpos : 0 < rs.length := List.length_pos_iff.2 hne
    have hml : maxLen = 9223372036854775807 := rfl
    have hfits : Builtin.nextslicecap (0 + rs.length) 0 * i.bytes ≤ 281474976710656 := growslice_fits (by simpa using hpos) (by rw [← hby]; unfold maxRows at hroom; simpa using (by omega : rs.length * E.P.bytesOf e ≤ 140737488355328))
    have hrun := run_app_grow (P := E.P) (w := c.w) (ty := ty) ht hu hi hiz (base := ad) (sLen := 0) (sCap := 0) (olds := []) (fun w' _ => by cases ad <;> simp [Builtin.firstCells, loadCells, loadCellsFrom]) hsrc (by omega) (by omega) hfits
    have hge := grownCap_ge c.w (0 + rs.length) 0 e
    have hcm := grownCap_le_maxLen c.w (0 + rs.length) 0 e (by omega)
    simp only [Nat.zero_add, List.nil_append] at hrun hge hcm
    let cur : Array Value := news.toArray ++ Builtin.zeroCells z.cells (grownCap c.w rs.length 0 e - rs.length)
    have hcur : cur.size = grownCap c.w rs.length 0 e * size d := by
      simp only [cur, Array.size_append, List.size_toArray, size_zeroCells, hzs, hsh.1, ← Nat.add_mul]
      congr 1
      omega
    have hG := h.drew
    let c1 : Cx := { c with w := { c.w with drawn := c.w.drawn + 1 } }
    obtain ⟨d1, d2, d3⟩ := h.own.drawn (w' := { c.w with drawn := c.w.drawn + 1 }) rfl rfl rfl rfl
    have hφ := hG.own.push_top (.cells cur e) (.rows e d rs)
    have hcurnew := heap_alloc_new c1.w (.cells cur e)
    have hG2 := hG.push (.cells cur e) (.rows e d rs) (.rows (cap := grownCap c.w rs.length 0 e) hφ hcurnew hcur (by omega) hcm (fun i' o' q hx hy => by
      have ho' := enc_lt hy
      have h9 : (i' + 1) * size d ≤ rs.length * size d := Nat.mul_le_mul_right _ hx
      rw [Nat.add_mul] at h9
      have := ((hsh.2 _ _ _ hx hy).mono d1 d2).mono (hG.own.immUp_push (.cells cur e) (.rows e d rs)) (hG.own.at_push _ _)
      have e1 : cur.getD (i' * size d + o') undef = news.getD (i' * size d + o') undef := by
        rw [← tl_getD, List.getD_eq_getElem?_getD, List.getD_eq_getElem?_getD]
        congr 1
        simp only [cur, Array.toList_append]
        exact List.getElem?_append_left (by simp [hsh.1]; omega)
      rw [e1]
      exact this))
    refine ⟨_, _, hrun, hG2, ?_⟩
    rw [es]
    exact .own (t := e) (cap := grownCap c.w rs.length 0 e) (Cx.push_top c1 _ _) hφ hge hcm ⟨cur, hcurnew, hcur⟩

/-- append within rows of one's own. -/
theorem app_sub (h : Good w0 M c0 n0 c N st a) {d : Cd} {e t u ty : TypeId} {j n : Nat} {l rs : List (den d)} {s x : Value} {news : List Value} (hB : c.B[j]? = some (.rows e d l)) (hs : CRel c (.sub j 0 n) s)
    (hcs : E.P.cellsOf e = size d) (ht : E.P.underlying t = some (.slice e)) (hu : ∃ d, E.P.underlying u = some d ∧ ∀ k, d ≠ .int k) (hi : ∃ i, E.P.info? e = some i)
    (hsrc : Src E.P c.w (size d) x rs.length news) (hsh : Shows c d rs news) (hle : n + rs.length ≤ l.length) :
    ∃ c' v', (Builtin.append_ #[t, u] ty #[s, x]).run E.P c.w = .ok v' c'.w ∧ Good w0 M c0 n0 c' N { st with b := st.b.set j (.rows e d (l.take n ++ rs ++ l.drop (n + rs.length))) } a ∧ CRel c' (.sub j 0 (n + rs.length)) v' := by
  obtain ⟨i, hi⟩ := hi
  obtain ⟨hby, hsz⟩ := bytes_of_info hi
  rw [hcs] at hsz
  have hjl : j < c.B.length := (List.getElem?_eq_some_iff.1 hB).1
  have hlen : (l.take n ++ rs ++ l.drop (n + rs.length)).length = l.length := by simp; omega
  cases hs with
  | @sub _ b t2 _ l2 _ _ cap hB2 hφ hl hl2 hc hcap =>
    rw [hB] at hB2
    cases hB2
    simp only [Nat.zero_add, Nat.zero_mul] at hl hl2 hc hcap ⊢
    have hblk := h.own.blk _ _ hB
    cases hblk with
    | @rows _ _ _ b2 cap2 cur h1 h2 h3 h4 h5 h8 =>
      rw [h1] at hφ
      cases hφ
      obtain ⟨cu, h9, h10⟩ := hcap
      rw [h2] at h9
      cases h9
      have hcc : cap = cap2 := Nat.eq_of_mul_eq_mul_right (size_pos d) (by omega)
      subst hcc
      have hfit : n * size d + news.length ≤ cur.size := by
        rw [hsh.1, h3, ← Nat.add_mul]
        exact Nat.mul_le_mul_right _ (by omega)
      rw [hsz] at hsrc
      have hrun := run_app_room (P := E.P) (w := c.w) (ty := ty) ht hu hi h2 hsrc (sLen := n) (sCap := cap) (by omega) (by rw [← hsz]; exact hfit)
      rw [← hsz] at hrun
      have hpc := fun m => put_cells (i := m) hfit
      obtain ⟨hi', ha, hO⟩ := h.own.write (cur' := (cur.toList.take (n * size d) ++ news ++ cur.toList.drop (n * size d + news.length)).toArray) (bl' := .rows e d (l.take n ++ rs ++ l.drop (n + rs.length))) hB h1 h2 (hpc 0).1
        (fun t' d' rs' e' => by cases e'; exact ⟨_, rfl, hlen⟩) (fun cs' e' => by cases e') (fun d m e' => by cases e')
      have hcells : ∀ (m o2 : Nat) (q : AC), m < l.length → (enc d (elem d (l.take n ++ rs ++ l.drop (n + rs.length)) m))[o2]? = some q →
          CRel ⟨c.w.setRow b (cur.toList.take (n * size d) ++ news ++ cur.toList.drop (n * size d + news.length)).toArray, c.I, c.φ, c.B.set j (.rows e d (l.take n ++ rs ++ l.drop (n + rs.length)))⟩ q ((cur.toList.take (n * size d) ++ news ++ cur.toList.drop (n * size d + news.length)).toArray.getD (m * size d + o2) undef) := by
        intro m o2 q hm hq
        have ho2 := enc_lt hq
        have e3 : news.length = rs.length * size d := hsh.1
        rcases Nat.lt_or_ge m n with hmn | hmn
        · rw [List.append_assoc, elem_left (by simp; omega)] at hq
          have e1 : elem d (l.take n) m = elem d l m := by
            simp [elem, List.getD_eq_getElem?_getD, List.getElem?_take, hmn]
          rw [e1] at hq
          have h9 : (m + 1) * size d ≤ n * size d := Nat.mul_le_mul_right _ hmn
          rw [Nat.add_mul] at h9
          rw [(hpc _).2.2 (by omega)]
          exact (h8 _ _ _ hm hq).mono hi' ha
        · rw [List.append_assoc, elem_right (by simp; omega)] at hq
          have e0 : (l.take n).length = n := by simp; omega
          rw [e0] at hq
          have h9 : n * size d ≤ m * size d := Nat.mul_le_mul_right _ hmn
          have e4 : m * size d = n * size d + (m - n) * size d := by rw [← Nat.add_mul]; congr 1; omega
          rcases Nat.lt_or_ge (m - n) rs.length with hr | hr
          · rw [elem_left hr] at hq
            have h10 : (m - n + 1) * size d ≤ rs.length * size d := Nat.mul_le_mul_right _ hr
            rw [Nat.add_mul] at h10
            rw [(hpc _).2.1 (by omega), show m * size d + o2 - n * size d = (m - n) * size d + o2 by omega]
            exact (hsh.2 _ _ _ hr hq).mono hi' ha
          · rw [elem_right hr] at hq
            have e1 : elem d (l.drop (n + rs.length)) (m - n - rs.length) = elem d l m := by
              simp only [elem, List.getD_eq_getElem?_getD, List.getElem?_drop]
              rw [show n + rs.length + (m - n - rs.length) = m by omega]
            rw [e1] at hq
            have h10 : rs.length * size d ≤ (m - n) * size d := Nat.mul_le_mul_right _ hr
            rw [(hpc _).2.2 (by omega)]
            exact (h8 _ _ _ hm hq).mono hi' ha
      have hO := hO (.rows (b := b) (cap := cap) h1 (setRow_heap _ _ _ _ _ _ h2) (by rw [(hpc 0).1]; exact h3) (by rw [hlen]; exact h4) h5 (fun m o2 q hm hq => hcells m o2 q (by rw [hlen] at hm; exact hm) hq))
      refine ⟨⟨c.w.setRow b (cur.toList.take (n * size d) ++ news ++ cur.toList.drop (n * size d + news.length)).toArray, c.I, c.φ, c.B.set j (.rows e d (l.take n ++ rs ++ l.drop (n + rs.length)))⟩, _, hrun, h.move hi' ha hO _ (by rw [← h.b]) rfl, ?_⟩
      have := CRel.sub (c := ⟨c.w.setRow b (cur.toList.take (n * size d) ++ news ++ cur.toList.drop (n * size d + news.length)).toArray, c.I, c.φ, c.B.set j (.rows e d (l.take n ++ rs ++ l.drop (n + rs.length)))⟩) (j := j) (off := 0) (n := n + rs.length) (cap := cap) (l := l.take n ++ rs ++ l.drop (n + rs.length)) (t := e) (by simp [hjl]) h1 (by rw [hlen]; omega) (by rw [hlen]; omega) (by omega) ⟨_, setRow_heap _ _ _ _ _ _ h2, by rw [(hpc 0).1, h3]; simp⟩
      simpa using this
    | none h1 => rw [h1] at hφ; cases hφ
  | @subE _ t2 _ l2 _ ad hB2 hl ha =>
    rw [hB] at hB2
    cases hB2
    have hφ := ha rfl
    have hln : l = [] := by
      have := h.own.blk _ _ hB
      cases this with
      | rows h1 _ _ _ _ _ => rw [hφ] at h1; cases h1
      | none _ => rfl
    subst hln
    have hrs : rs = [] := List.eq_nil_of_length_eq_zero (by simpa using hle)
    subst hrs
    obtain rfl : news = [] := List.eq_nil_of_length_eq_zero (by have := hsrc.size; simpa using this)
    rw [hsz] at hsrc
    refine ⟨c, .slice ad 0 0, ?_, ?_, .subE hB (Nat.zero_le _) (fun _ => hφ)⟩
    · have hl := hsrc.len c.w rfl
      have hf := hsrc.first c.w rfl
      obtain ⟨dd, hud, hnk⟩ := hu
      have hm : (match dd with | TypeDesc.int k => true | x => false) = false := by cases dd <;> first | rfl | exact absurd rfl (hnk _)
      simp only [List.length_nil] at hl hf
      cases ad with
      | none => simp [Builtin.append_, run_underlying ht, run_underlying hud, sizeOf, typeInfo, hi, hl, hf, hm]
      | some ad => simp [Builtin.append_, run_underlying ht, run_underlying hud, sizeOf, typeInfo, hi, hl, hf, hm, storeCells]
    · have e : st.b.set j (.rows e d (([] : List (den d)).take 0 ++ [] ++ ([] : List (den d)).drop (0 + ([] : List (den d)).length))) = st.b := by
        rw [h.b] at hB hjl
        apply List.ext_getElem?
        intro m
        by_cases hm : m = j
        · subst hm; rw [List.getElem?_set_self hjl]; simpa using hB.symm
        · rw [List.getElem?_set_ne (Ne.symm hm)]
      rw [e]
      exact h

/-- A call of a builtin. -/
theorem run_builtin {P : Program} {a : Act} {o : Oper} {b : Builtin} {args : Array Operand} {argTypes : Array TypeId} {w : World} (ho : o.op = .call { callee := .builtin b, args := args, argTypes := argTypes }) :
    ∃ consts, (execOp a.eval o).run P w = (Go.builtin b argTypes o.type consts (args.map a.eval)).run P w :=
  ⟨_, by simp only [execOp, ho, resolve, invoke, Sem.run_bind, Sem.run_pure, Result.andThen_ok]; rfl⟩

theorem evs_ok (h : Good w0 M c0 n0 c N st a) : ∀ (xs : List Operand) (ts : List TypeId), (evs E st xs ts).length = xs.length ∧ ∀ (i : Nat) (x : AV), (evs E st xs ts)[i]? = some x → VRel c x ((xs.map a.eval).getD i undef)
  | [], ts => ⟨by cases ts <;> rfl, fun i x hx => by cases ts <;> simp [evs] at hx⟩
  | x :: xs, ts => by
    have key : ∀ (t : TypeId) (ts' : List TypeId), (ev E t st x :: evs E st xs ts').length = (x :: xs).length ∧ ∀ (i : Nat) (z : AV), (ev E t st x :: evs E st xs ts')[i]? = some z → VRel c z (((x :: xs).map a.eval).getD i undef) := by
      intro t ts'
      obtain ⟨h1, h2⟩ := evs_ok h xs ts'
      refine ⟨by simp [h1], fun i z hz => ?_⟩
      cases i with
      | zero => simp at hz; subst hz; exact ev_ok (E := E) h t x
      | succ i => have := h2 i z (by simpa using hz); simpa using this
    cases ts with
    | nil => exact key 0 []
    | cons t ts => exact key t ts

theorem op_append (hT : tabOk E.P E.T = true) (h : Good w0 M c0 n0 c N st a) (hd : ∀ n, o.dst = some n → n < N) (hx : Nx E w0 M c0 n0 N K next) {t u : TypeId} {X Z : Operand} (ho : o.op = .call { callee := .builtin .append, args := #[X, Z], argTypes := #[t, u] })
    {s x : AV} (hs : VRel c s (a.eval X)) (hv : VRel c x (a.eval Z)) (hu : ∃ d, E.P.underlying u = some d ∧ ∀ k, d ≠ .int k) {b : Bool} {st' : St} (hap : appendA E.P E.T n0 t st o.dst s x = some (b, st')) (hk : grd b (K st') = true) : o.wp E.P a c.w next Q := by
  obtain ⟨hb, hk⟩ := grd_ok hk
  subst hb
  unfold appendA at hap
  have hrun : ∀ (v : Value) (w' : World), (Builtin.append_ #[t, u] o.type #[a.eval X, a.eval Z]).run E.P c.w = .ok v w' → (execOp a.eval o).run E.P c.w = .ok (.value v) w' := by
    intro v w' hr
    obtain ⟨consts, hc⟩ := run_builtin (a := a) (P := E.P) (w := c.w) ho
    rw [hc]
    simp [Go.builtin, hr]
  split at hap
  · rename_i e ht
    split at hap
    · rename_i d hcd
      obtain ⟨_, hcs, hby, _, ⟨zz, hzz, hzl⟩, _⟩ := tab_ok hT hcd
      have hz := zero_info hzz hzl
      split at hap
      · rename_i rs d' hsr
        split at hap
        · rename_i hdd
          simp only [decide_eq_true_eq] at hdd
          subst hdd
          simp only [Option.some.injEq, Prod.mk.injEq, decide_eq_true_eq] at hap
          obtain ⟨hroom, rfl⟩ := hap
          rw [← h.b] at hsr
          obtain ⟨news, h1, h2⟩ := src_ok (P := E.P) h.own hv hsr
          generalize hX : a.eval X = vX at hs hrun
          cases hs with
          | one hs =>
            cases hs
            have hlen : rs.length ≤ maxLen := by
              have : rs.length * 1 ≤ rs.length * E.P.bytesOf e := Nat.mul_le_mul_left _ hby
              unfold maxLen; unfold maxRows at hroom; omega
            obtain ⟨c', v', hr, hG, hrel⟩ := app_nil h (ty := o.type) hcs ht hu hz h1 h2 hroom hlen
            exact wp_val (hrun _ _ hr) (hx c' _ _ hk (hG.set hd (.one hrel)))
        · cases hap
      · rename_i rs j hsr
        split at hap
        · rename_i t' d' r0 hj hnj
          split at hap
          · rename_i r1 hte hca
            have hte := Nat.eq_of_beq_eq_true hte
            subst hte
            obtain ⟨hdd, hca⟩ := castL_ok hca
            subst hdd
            simp only at hca
            subst hca
            have hnj := Nat.le_of_ble_eq_true hnj
            simp only [Option.some.injEq, Prod.mk.injEq, decide_eq_true_eq] at hap
            obtain ⟨hroom, rfl⟩ := hap
            rw [← h.b] at hsr hj
            obtain ⟨news, h1, h2⟩ := src_ok (P := E.P) h.own hv hsr
            generalize hX : a.eval X = vX at hs hrun
            cases hs with
            | one hs =>
              have hlen : r0.length + rs.length ≤ maxLen := by
                have : (r0.length + rs.length) * 1 ≤ (r0.length + rs.length) * E.P.bytesOf t' := Nat.mul_le_mul_left _ hby
                unfold maxLen; unfold maxRows at hroom; omega
              obtain ⟨w', ob, v', hr, hi, ha, hO, hrel⟩ := app_core h.own (ty := o.type) hj hs hcs ht hu hz h1 h2 hroom hlen
              refine wp_val (hrun _ _ hr) (hx _ _ _ hk (Good.set ?_ hd (.one hrel)))
              have hg : ∀ i n, forget j i = some n → At c _ i n := fun i n hn => by
                obtain ⟨rfl, hne⟩ := forget_ne hn
                exact ha _ hne
              refine ⟨hO, h.up.trans hi, fun i hin => (h.old i hin).trans (ha i (by omega)), by simp [dropRef, h.b], h.size, h.defers, fun n => ?_⟩
              show VRel _ (get (st.t.map fun x => (x.1, x.2.rn (forget j))) n) _
              rcases get_rn (forget j) st.t n with e | e
              · rw [e]; exact (h.t n).rn hi hg
              · rw [e]; exact .any
          · cases hap
        · cases hap
      · rename_i rs j n hsr
        split at hap
        · rename_i t' d' r0 hj
          split at hap
          · rename_i r1 hte hca
            have hte := Nat.eq_of_beq_eq_true hte
            subst hte
            obtain ⟨hdd, hca⟩ := castL_ok hca
            subst hdd
            simp only at hca
            subst hca
            simp only [Option.some.injEq, Prod.mk.injEq] at hap
            obtain ⟨hle, rfl⟩ := hap
            have hle := Nat.le_of_ble_eq_true hle
            rw [← h.b] at hsr hj
            obtain ⟨news, h1, h2⟩ := src_ok (P := E.P) h.own hv hsr
            generalize hX : a.eval X = vX at hs hrun
            cases hs with
            | one hs =>
              obtain ⟨_, i, hi, _⟩ := hz
              obtain ⟨c', v', hr, hG, hrel⟩ := app_sub h (ty := o.type) hj hs hcs ht hu ⟨i, hi⟩ h1 h2 hle
              exact wp_val (hrun _ _ hr) (hx c' _ _ hk (hG.set hd (.one hrel)))
          · cases hap
        · cases hap
      · cases hap
    · cases hap
  · cases hap

theorem op_len (h : Good w0 M c0 n0 c N st a) (hd : ∀ n, o.dst = some n → n < N) {t : TypeId} {X : Operand} (ho : o.op = .call { callee := .builtin .len, args := #[X], argTypes := #[t] })
    {x : AV} (hv : VRel c x (a.eval X)) {n : Int} (hl : lenA E.P t st.b x = some n) (hk : K (setT st o.dst (.one (.int .i64 n))) = true) : StillTo E w0 M c0 n0 N c a o K := by
  rw [← h.b] at hl
  obtain ⟨h1, h2⟩ := lenA_ok h.own hv hl o.type
  refine done_pure h hd (.one (.int h2)) (fun w => ?_) hk
  obtain ⟨consts, hc⟩ := run_builtin (a := a) (P := E.P) (w := w) ho
  rw [hc]
  simp [Go.builtin, h1 w]

theorem op_min (h : Good w0 M c0 n0 c N st a) (hd : ∀ n, o.dst = some n → n < N) {args : Array Operand} {ts : Array TypeId} (ho : o.op = .call { callee := .builtin .min, args := args, argTypes := ts })
    {k : IntKind} {p : Int} {r : List AV} {v : AV} (he : evs E st args.toList ts.toList = .one (.int k p) :: r) (hm : minF k p r = some v) (hk : K (setT st o.dst v) = true) : StillTo E w0 M c0 n0 N c a o K := by
  obtain ⟨h1, h2⟩ := evs_ok (E := E) h args.toList ts.toList
  rw [he] at h1 h2
  cases hal : args.toList with
  | nil => rw [hal] at h1; simp at h1
  | cons X xs =>
    rw [hal] at h1 h2
    have h0 := h2 0 _ rfl
    simp only [List.map_cons, List.getD_cons_zero] at h0
    obtain ⟨e0, hw⟩ := int_of h0
    obtain ⟨u, h3, h4⟩ := minF_ok (P := E.P) (c := c) r p (xs.map a.eval) v (by simpa using h1) (fun i x hx => by have := h2 (i + 1) x (by simpa using hx); simpa using this) hw hm
    refine done_still h hd h4 (by simp [pureO, pureOp, ho]) ?_ hk
    obtain ⟨consts, hc⟩ := run_builtin (a := a) (P := E.P) (w := c.w) ho
    rw [hc]
    have hargs : args.map a.eval = (Value.int k p :: xs.map a.eval).toArray := by
      apply Array.ext'
      simp [hal, e0]
    rw [hargs]
    simp [Go.builtin, Builtin.min_, h3]

theorem op_max (h : Good w0 M c0 n0 c N st a) (hd : ∀ n, o.dst = some n → n < N) {args : Array Operand} {ts : Array TypeId} (ho : o.op = .call { callee := .builtin .max, args := args, argTypes := ts })
    {k : IntKind} {p : Int} {r : List AV} {v : AV} (he : evs E st args.toList ts.toList = .one (.int k p) :: r) (hm : maxF k p r = some v) (hk : K (setT st o.dst v) = true) : StillTo E w0 M c0 n0 N c a o K := by
  obtain ⟨h1, h2⟩ := evs_ok (E := E) h args.toList ts.toList
  rw [he] at h1 h2
  cases hal : args.toList with
  | nil => rw [hal] at h1; simp at h1
  | cons X xs =>
    rw [hal] at h1 h2
    have h0 := h2 0 _ rfl
    simp only [List.map_cons, List.getD_cons_zero] at h0
    obtain ⟨e0, hw⟩ := int_of h0
    obtain ⟨u, h3, h4⟩ := maxF_ok (P := E.P) (c := c) r p (xs.map a.eval) v (by simpa using h1) (fun i x hx => by have := h2 (i + 1) x (by simpa using hx); simpa using this) hw hm
    refine done_still h hd h4 (by simp [pureO, pureOp, ho]) ?_ hk
    obtain ⟨consts, hc⟩ := run_builtin (a := a) (P := E.P) (w := c.w) ho
    rw [hc]
    have hargs : args.map a.eval = (Value.int k p :: xs.map a.eval).toArray := by
      apply Array.ext'
      simp [hal, e0]
    rw [hargs]
    simp [Go.builtin, Builtin.max_, h3]

theorem op_clear (hT : tabOk E.P E.T = true) (h : Good w0 M c0 n0 c N st a) (hd : ∀ n, o.dst = some n → n < N) (hx : Nx E w0 M c0 n0 N K next) {t : TypeId} {X : Operand} (ho : o.op = .call { callee := .builtin .clear, args := #[X], argTypes := #[t] })
    {x : AV} (hv : VRel c x (a.eval X)) {B : List Blk} (hc : clearA E.P E.T t st.b x = some B) (hk : K (setT { st with b := B } o.dst (.tup [])) = true) : o.wp E.P a c.w next Q := by
  rw [← h.b] at hc
  have hrun : ∀ (v : Value) (w' : World), (Builtin.clear_ #[t] o.type #[a.eval X]).run E.P c.w = .ok v w' → (execOp a.eval o).run E.P c.w = .ok (.value v) w' := by
    intro v w' hr
    obtain ⟨consts, hc⟩ := run_builtin (a := a) (P := E.P) (w := c.w) ho
    rw [hc]
    simp [Go.builtin, hr]
  have htup : ∀ c' : Cx, VRel c' (.tup []) (.tuple #[]) := fun c' => .tup rfl (fun i x hx => by simp at hx)
  unfold clearA at hc
  split at hc
  · rename_i e j off n hu
    split at hc
    · rename_i u d l hB
      split at hc
      · rename_i d' z hcd hz
        split at hc
        · rename_i hchk
          simp only [Bool.and_eq_true, decide_eq_true_eq] at hchk
          obtain ⟨rfl, hpl⟩ := hchk
          cases hc
          obtain ⟨_, hcs, _, _, ⟨z', hz', hzl⟩, _⟩ := tab_ok hT hcd
          rw [hz] at hz'
          cases hz'
          generalize hg : a.eval X = vX at hv hrun
          have hnoop : n = 0 → (Builtin.clear_ #[t] o.type #[vX]).run E.P c.w = .ok (.tuple #[]) c.w → o.wp E.P a c.w next Q := by
            intro hn hr
            subst hn
            refine wp_val (hrun _ _ hr) (hx c _ _ hk (Good.set ?_ hd (htup c)))
            have e : c.B.set j (.rows u d (l.take off ++ List.replicate 0 (mk d (z.map toPlain)) ++ l.drop (off + 0))) = c.B := by
              apply List.ext_getElem?
              intro m
              by_cases hm : m = j
              · subst hm; rw [List.getElem?_set_self (List.getElem?_eq_some_iff.1 hB).1]; simpa using hB.symm
              · rw [List.getElem?_set_ne (Ne.symm hm)]
            rw [e, h.b]
            exact h
          cases hv with
          | one hv =>
            cases hv with
            | @subE _ t2 _ l2 _ ad hB2 hl ha =>
              refine hnoop rfl ?_
              cases ad <;> simp [Builtin.clear_, run_underlying hu]
            | @sub _ b t2 _ l2 _ _ cap hB2 hφ hl hl2 hc2 hcap =>
              rw [hB] at hB2
              cases hB2
              cases n with
              | zero => exact hnoop rfl (by simp [Builtin.clear_, run_underlying hu])
              | succ n =>
                have hblk := h.own.blk _ _ hB
                cases hblk with
                | @rows _ _ _ b2 cap2 cur h1 h2 h3 h4 h5 h8 =>
                  rw [h1] at hφ
                  cases hφ
                  obtain ⟨i, v, hi, hiz, hvs, _, hone⟩ := zeroOf_ok (c := c) hz
                  have hvsz : v.cells.size = size d := by omega
                  have hsz : (Builtin.zeroCells v.cells (n + 1)).toList.length = (n + 1) * size d := by simp [size_zeroCells, hvsz]
                  have h9 : (off + (n + 1)) * size d ≤ cap2 * size d := Nat.mul_le_mul_right _ (by omega)
                  rw [Nat.add_mul] at h9
                  have hzg : ∀ m, m < (n + 1) * size d → (Builtin.zeroCells v.cells (n + 1)).toList.getD m undef = v.cells.getD (m % size d) undef := by
                    intro m hm
                    have hml : m % size d < size d := Nat.mod_lt _ (size_pos d)
                    rw [tl_getD]
                    simp only [Builtin.zeroCells, Array.getD_eq_getD_getElem?]
                    rw [Array.getElem?_map, Array.getElem?_range, if_pos (by rw [hvsz]; exact hm)]
                    simp only [Option.map_some, Option.getD_some, hvsz]
                    rw [Array.getElem?_eq_getElem (by omega), Option.getD_some, getElem!_pos]
                  have hones : ∀ x ∈ (Builtin.zeroCells v.cells (n + 1)).toList, x.oneCell' = true := by
                    intro x hx
                    obtain ⟨m, hm⟩ := List.getElem?_of_mem hx
                    have hlt := (List.getElem?_eq_some_iff.1 hm).1
                    have := hzg m (by omega)
                    rw [List.getD_eq_getElem?_getD, hm] at this
                    simp only [Option.getD_some] at this
                    rw [this]
                    have hml : m % size d < size d := Nat.mod_lt _ (size_pos d)
                    rw [Array.getD_eq_getD_getElem?, Array.getElem?_eq_getElem (by omega), Option.getD_some]
                    exact hone _ (by simp)
                  have hst := run_storeCells_at E.P b (off * size d) u (Builtin.zeroCells v.cells (n + 1)).toList 0 cur c.w h2 (by omega) hones
                  simp only [Nat.add_zero] at hst
                  have hpc := fun m => put_cells (i := m) (cur := cur) (vs := (Builtin.zeroCells v.cells (n + 1)).toList) (o := off * size d) (by omega)
                  have hlen : (l.take off ++ List.replicate (n + 1) (mk d (z.map toPlain)) ++ l.drop (off + (n + 1))).length = l.length := by simp; omega
                  obtain ⟨hi', ha, hO⟩ := h.own.write (cur' := (cur.toList.take (off * size d) ++ (Builtin.zeroCells v.cells (n + 1)).toList ++ cur.toList.drop (off * size d + (Builtin.zeroCells v.cells (n + 1)).toList.length)).toArray) (bl' := .rows u d (l.take off ++ List.replicate (n + 1) (mk d (z.map toPlain)) ++ l.drop (off + (n + 1)))) hB h1 h2 (hpc 0).1
                    (fun t' d' rs' e' => by cases e'; exact ⟨_, rfl, hlen⟩) (fun cs' e' => by cases e') (fun d m e' => by cases e')
                  have hrel : ∀ c' : Cx, ∀ (o' : Nat) (x : AC), (z.map toPlain)[o']? = some x → CRel c' x (v.cells.getD o' undef) := by
                    intro c'
                    obtain ⟨i', v', hi', hiz', _, h4, _⟩ := zeroOf_ok (c := c') hz
                    rw [hi] at hi'; cases hi'
                    rw [hiz] at hiz'; cases hiz'
                    exact map_rel h4
                  have henc : enc d (mk d (z.map toPlain)) = z.map toPlain := enc_mk (c := c) d _ hpl (fun i x hx => ⟨_, hrel c i x hx⟩)
                  have hO := hO (.rows (b := b) (cap := cap2) h1 (setRow_heap _ _ _ _ _ _ h2) (by rw [(hpc 0).1]; exact h3) (by rw [hlen]; exact h4) h5 (fun m o2 q hm hq => by
                    rw [hlen] at hm
                    have ho2 := enc_lt hq
                    rcases Nat.lt_or_ge m off with hmn | hmn
                    · rw [List.append_assoc, elem_left (by simp; omega)] at hq
                      have e1 : elem d (l.take off) m = elem d l m := by
                        simp [elem, List.getD_eq_getElem?_getD, List.getElem?_take, hmn]
                      rw [e1] at hq
                      have h9 : (m + 1) * size d ≤ off * size d := Nat.mul_le_mul_right _ hmn
                      rw [Nat.add_mul] at h9
                      rw [(hpc _).2.2 (by omega)]
                      exact (h8 _ _ _ hm hq).mono hi' ha
                    · rw [List.append_assoc, elem_right (by simp; omega)] at hq
                      have e0 : (l.take off).length = off := by simp; omega
                      rw [e0] at hq
                      have h9 : off * size d ≤ m * size d := Nat.mul_le_mul_right _ hmn
                      have e4 : m * size d = off * size d + (m - off) * size d := by rw [← Nat.add_mul]; congr 1; omega
                      rcases Nat.lt_or_ge (m - off) (n + 1) with hr | hr
                      · rw [elem_left (by simpa using hr), elem_replicate hr, henc] at hq
                        have h10 : (m - off + 1) * size d ≤ (n + 1) * size d := Nat.mul_le_mul_right _ hr
                        rw [Nat.add_mul] at h10
                        rw [(hpc _).2.1 (by omega), show m * size d + o2 - off * size d = (m - off) * size d + o2 by omega, hzg _ (by omega), show ((m - off) * size d + o2) % size d = o2 by rw [Nat.mul_comm, Nat.mul_add_mod]; exact Nat.mod_eq_of_lt ho2]
                        exact hrel _ _ _ hq
                      · rw [elem_right (by simpa using hr)] at hq
                        have e1 : elem d (l.drop (off + (n + 1))) (m - off - (List.replicate (n + 1) (mk d (z.map toPlain))).length) = elem d l m := by
                          simp only [elem, List.getD_eq_getElem?_getD, List.getElem?_drop, List.length_replicate]
                          rw [show off + (n + 1) + (m - off - (n + 1)) = m by omega]
                        rw [e1] at hq
                        have h10 : (n + 1) * size d ≤ (m - off) * size d := Nat.mul_le_mul_right _ hr
                        rw [(hpc _).2.2 (by omega)]
                        exact (h8 _ _ _ hm hq).mono hi' ha))
                  refine wp_val (hrun _ (c.w.setRow b _) ?_) (hx ⟨c.w.setRow b _, c.I, c.φ, _⟩ _ _ hk (Good.set (h.move hi' ha hO { st with b := c.B.set j (.rows u d (l.take off ++ List.replicate (n + 1) (mk d (z.map toPlain)) ++ l.drop (off + (n + 1)))) } rfl rfl) hd (htup _)))
                  have hcl : (Builtin.clear_ #[t] o.type #[.slice (some ⟨b, off * size d, none⟩) (n + 1) cap]).run E.P c.w = ((storeCells ⟨b, off * size d, none⟩ (Builtin.zeroCells v.cells (n + 1)).toList).run E.P c.w).andThen fun _ w' => .ok (.tuple #[]) w' := by
                    simp [Builtin.clear_, run_underlying hu, zeroValue, typeInfo, hi, hiz]
                  rw [hcl, hst]
                  rfl
                | none h1 => rw [h1] at hφ; cases hφ
        · cases hc
      · cases hc
    · cases hc
  · rename_i e d hu
    cases hc
    generalize hg : a.eval X = vX at hv hrun
    cases hv with
    | one hv =>
      cases hv with
      | @nilS _ ad =>
        refine wp_val (hrun (.tuple #[]) c.w ?_) (hx c _ _ hk (Good.set (by rw [h.b]; exact h) hd (htup c)))
        cases ad <;> simp [Builtin.clear_, run_underlying hu]
  · cases hc

/-! ### maps from int -/
theorem one_cells {v : Value} (h : v.oneCell' = true) : v.cells = #[v] := by cases v <;> first | rfl | cases h

theorem mapOf_ok (hT : tabOk E.P E.T = true) {t e : TypeId} {d : Cd} (h : mapOf E.P E.T t = some (e, d)) : ∃ k i v, E.P.underlying t = some (.map k e) ∧ E.P.underlying k = some (.int .i64) ∧ E.P.info? e = some i ∧ i.zero = some v ∧ ∀ c : Cx, ∃ x, enc d (zeroM E.P E.T e d) = [x] ∧ CRel c x v := by
  unfold mapOf at h
  split at h
  · rename_i k e' hu
    split at h
    · rename_i d' hk hcd
      split at h
      · rename_i z hz
        split at h
        · rename_i hp
          cases h
          simp only [Bool.and_eq_true] at hk
          obtain ⟨i, v, hi, hiz, hvs, _, _⟩ := zeroOf_ok (c := ⟨default, fun _ => False, [], []⟩) hz
          have ho : v.oneCell' = true := by
            have := hk.2
            unfold zeroOne at this
            rw [hi] at this
            simp only [hiz] at this
            exact this
          refine ⟨k, i, v, hu, ?_, hi, hiz, fun c => ?_⟩
          · have := hk.1
            unfold isI64 at this
            split at this
            · assumption
            · cases this
          · obtain ⟨i', v', hi', hiz', hvs', hvr, _⟩ := zeroOf_ok (c := c) hz
            rw [hi] at hi'; cases hi'
            rw [hiz] at hiz'; cases hiz'
            have henc : enc d (mk d (z.map toPlain)) = z.map toPlain := enc_mk (c := c) d _ hp (fun i x hx => ⟨_, map_rel hvr i x hx⟩)
            rw [one_cells ho] at hvs hvr
            match z, hvs with
            | [x], _ =>
              refine ⟨toPlain x, by rw [zeroM, hz]; exact henc, ?_⟩
              exact (hvr 0 x rfl).toPlain
        · cases h
      · cases h
    · cases h
  · cases h

theorem op_makeMap (h : Good w0 M c0 n0 c N st a) (hd : ∀ n, o.dst = some n → n < N) (hx : Nx E w0 M c0 n0 N K next) {t : TypeId} (ho : o.op = .makeMap t none)
    (hk : exOp E call n0 o st K = true) : o.wp E.P a c.w next Q := by
  unfold exOp at hk
  simp only [ho] at hk
  split at hk
  · rename_i e d hm
    have hφ := h.own.push_top (.map #[] 0) (.map d [])
    have es : st.b.length = c.B.length := by rw [h.b]
    refine done_new (ob := .map #[] 0) (v := .map (some c.w.heap.size)) h hd hx (.map hφ (heap_alloc_new _ _) rfl (fun i k v hm => by simp at hm)) ?_ ?_ hk
    · rw [es]
      exact .map (Cx.push_top _ _ _) hφ
    · simp [execOp, ho, Instr.makeMap, run_newObj]
  · cases hk

theorem findNow_map {α : Type} {Rel : α → Value → Prop} (k : Int) : ∀ (m : List (Int × α)) (es : List MapEntry) (i0 : Nat), es.length = m.length → (∀ (i : Nat) (j : Int) (x : α), m[i]? = some (j, x) → ∃ e, es[i]? = some e ∧ e.key = .int .i64 j ∧ Rel x e.val) →
    (findM k m = none ∧ Instr.findNow (.int .i64) (.int .i64 k) es i0 = some none ∧ (∀ (x : α), putM k x m = m ++ [(k, x)])) ∨
    ∃ (i : Nat) (x : α) (e : MapEntry), findM k m = some x ∧ Instr.findNow (.int .i64) (.int .i64 k) es i0 = some (some (i0 + i, e.val)) ∧ m[i]? = some (k, x) ∧ es[i]? = some e ∧ e.key = .int .i64 k ∧ Rel x e.val ∧ (∀ (y : α), putM k y m = m.set i (k, y))
  | [], [], i0, _, _ => .inl ⟨rfl, rfl, fun x => rfl⟩
  | (j, x) :: m, e :: es, i0, hl, h => by
    obtain ⟨e', he, hk, hr⟩ := h 0 j x rfl
    simp at he
    subst he
    by_cases hj : k = j
    · subst hj
      refine .inr ⟨0, x, e, by simp [findM], ?_, rfl, rfl, hk, hr, fun y => by simp [putM]⟩
      simp [Instr.findNow, Instr.sameNow, hk]
    · have hjb : (k == j) = false := by simpa using hj
      rcases findNow_map k m es (i0 + 1) (by simpa using hl) (fun i j x hi => by simpa using h (i + 1) j x (by simpa using hi)) with ⟨h1, h2, h3⟩ | ⟨i, y, e', h1, h2, h3, h4, h5, h6, h7⟩
      · refine .inl ⟨by simp [findM, hjb, h1], ?_, fun y => by simp [putM, hjb, h3]⟩
        simp [Instr.findNow, Instr.sameNow, hk, hjb, h2]
      · refine .inr ⟨i + 1, y, e', by simp [findM, hjb, h1], ?_, by simpa using h3, by simpa using h4, h5, h6, fun y => by simp [putM, hjb, h7]⟩
        simp [Instr.findNow, Instr.sameNow, hk, hjb, h2]
        omega
  | [], _ :: _, _, hl, _ => by simp at hl
  | _ :: _, [], _, hl, _ => by simp at hl

theorem checkKey_int {P : Program} {k : TypeId} (hk : P.underlying k = some (.int .i64)) (b : Bool) (n : Nat) (v : Int) (w : World) : (Instr.checkKey b (n + 1) k (.int .i64 v)).run P w = .ok () w := by
  simp [Instr.checkKey, run_underlying hk]

theorem run_findKey {P : Program} {kt : TypeId} (hku : P.underlying kt = some (.int .i64)) {k : Int} {es : List MapEntry} {r : Option (Nat × Value)} (h : Instr.findNow (.int .i64) (.int .i64 k) es 0 = some r) (w : World) :
    (Instr.findKey kt (.int .i64 k) es).run P w = .ok r w := by
  simp [Instr.findKey, run_underlying hku, h]

theorem map_entries {c : Cx} {d : Cd} {m : List (Int × den d)} {es : Array MapEntry} (h3 : es.size = m.length)
    (h4 : ∀ (i : Nat) (k : Int) (v : den d), m[i]? = some (k, v) → ∃ e z, es[i]? = some e ∧ e.key = .int .i64 k ∧ enc d v = [z] ∧ CRel c z e.val) :
    es.toList.length = m.length ∧ ∀ (i : Nat) (j : Int) (x : den d), m[i]? = some (j, x) → ∃ e, es.toList[i]? = some e ∧ e.key = .int .i64 j ∧ (∃ z, enc d x = [z] ∧ CRel c z e.val) := by
  refine ⟨by simpa using h3, fun i j x hi => ?_⟩
  obtain ⟨e, z, g1, g2, g3, g4⟩ := h4 i j x hi
  exact ⟨e, by simpa using g1, g2, z, g3, g4⟩

theorem op_lookup (hT : tabOk E.P E.T = true) (h : Good w0 M c0 n0 c N st a) (hd : ∀ n, o.dst = some n → n < N) {t : TypeId} {x i : Operand} {ok : Bool} (ho : o.op = .lookup t x i ok)
    (hk : exOp E call n0 o st K = true) : StillTo E w0 M c0 n0 N c a o K := by
  unfold exOp at hk
  simp only [ho] at hk
  have hv := ev_ok (E := E) h 2 x
  have hiv := ev_ok (E := E) h 3 i
  split at hk
  · rename_i e d j n hm hxe hie
    rw [hxe] at hv
    rw [hie] at hiv
    obtain ⟨hiv, _⟩ := int_of hiv
    obtain ⟨kt, iz, vz, hu, hku, hi, hiz, hzero⟩ := mapOf_ok hT hm
    split at hk
    · rename_i d' m hB
      rw [← h.b] at hB
      split at hk
      · rename_i hdd
        simp only [decide_eq_true_eq] at hdd
        subst hdd
        split at hk
        · rename_i z henc
          generalize hg : a.eval x = vx at hv
          cases hv with
          | one hv =>
            cases hv with
            | @map _ b _ m2 hB2 hφ =>
              rw [hB] at hB2
              cases hB2
              have hblk := h.own.blk _ _ hB
              cases hblk with
              | @map _ _ b2 es clk h1 h2 h3 h4 =>
                rw [h1] at hφ
                cases hφ
                obtain ⟨e1, e2⟩ := map_entries h3 h4
                have hck : ∀ b w, (Instr.checkKey b 10000 kt (.int .i64 n)).run E.P w = .ok () w := fun b w => checkKey_int hku b 9999 n w
                rcases findNow_map (Rel := fun x v => ∃ z, enc d' x = [z] ∧ CRel c z v) n m es.toList 0 e1 e2 with ⟨g1, g2, _⟩ | ⟨q, y, e', g1, g2, g3, g4, g5, ⟨zz, g6, g7⟩, _⟩
                · obtain ⟨x0, hx0, hrel⟩ := hzero c
                  have hf : findD n m (zeroM E.P E.T e d') = zeroM E.P E.T e d' := by simp [findD, g1]
                  rw [hf, hx0] at henc
                  cases henc
                  have hrun : (Instr.lookup t (.map (some b)) (.int .i64 n) ok).run E.P c.w = .ok (if ok then .tuple #[vz, .bool false] else vz) c.w := by
                    simp [Instr.lookup, run_underlying hu, MapKept.run_getObj_map h2, hck, run_findKey hku g2, zeroValue, typeInfo, hi, hiz]
                  refine done_still (v := if ok then .tuple #[vz, .bool false] else vz) h hd ?_ (by simp [pureO, pureOp, ho]) (by simp [execOp, ho, hg, hiv, hrun]) hk
                  cases ok with
                  | true =>
                    refine .tup rfl (fun i x hx => ?_)
                    match i with
                    | 0 => simp at hx; subst hx; exact .one hrel
                    | 1 => simp at hx; subst hx; simp [g1]; exact .one .bool
                    | i + 2 => simp at hx
                  | false => exact .one hrel
                · have hf : findD n m (zeroM E.P E.T e d') = y := by simp [findD, g1]
                  rw [hf, g6] at henc
                  cases henc
                  have hrun : (Instr.lookup t (.map (some b)) (.int .i64 n) ok).run E.P c.w = .ok (if ok then .tuple #[e'.val, .bool true] else e'.val) c.w := by
                    simp [Instr.lookup, run_underlying hu, MapKept.run_getObj_map h2, hck, run_findKey hku g2]
                  refine done_still (v := if ok then .tuple #[e'.val, .bool true] else e'.val) h hd ?_ (by simp [pureO, pureOp, ho]) (by simp [execOp, ho, hg, hiv, hrun]) hk
                  cases ok with
                  | true =>
                    refine .tup rfl (fun i x hx => ?_)
                    match i with
                    | 0 => simp at hx; subst hx; exact .one g7
                    | 1 => simp at hx; subst hx; simp [g1]; exact .one .bool
                    | i + 2 => simp at hx
                  | false => exact .one g7
        · cases hk
      · cases hk
    · cases hk
  · cases hk

/-- A map of one's own is written. -/
theorem Own.writeM {w0 : World} {M : Nat → Prop} {c : Cx} (h : Own w0 M c) {j b : Nat} {d : Cd} {m m' : List (Int × den d)} {es es' : Array MapEntry} {clk clk' : Nat} (hB : c.B[j]? = some (.map d m)) (hφ : c.φ[j]? = some (some b))
    (hb : c.w.heap[b]? = some (.map es clk)) :
    let c' : Cx := ⟨{ c.w with heap := c.w.heap.setIfInBounds b (.map es' clk') }, c.I, c.φ, c.B.set j (.map d m')⟩
    ImmUp c c' ∧ (∀ i, At c c' i i) ∧ c'.w.heap[b]? = some (.map es' clk') ∧ (BRel c' j (.map d m') → Own w0 M c') := by
  intro c'
  have hbn := h.new j b hφ
  have hoth : ∀ k, k ≠ b → c'.w.heap[k]? = c.w.heap[k]? := fun k hk => by
    show (c.w.heap.setIfInBounds b _)[k]? = _
    rw [Array.getElem?_setIfInBounds_ne (Ne.symm hk)]
  have hself : c'.w.heap[b]? = some (.map es' clk') := by
    show (c.w.heap.setIfInBounds b _)[b]? = _
    rw [Array.getElem?_setIfInBounds_self_of_lt hbn.2.1]
  have hi : ImmUp c c' := ⟨fun _ h => h, fun k hk => hoth k (fun e => hbn.2.2 (e ▸ hk)), fun _ h => .inl h, by simp [c']⟩
  have hjl : j < c.B.length := (List.getElem?_eq_some_iff.1 hB).1
  have hBj : c'.B[j]? = some (.map d m') := by simp [c', hjl]
  have hBi : ∀ i, i ≠ j → c'.B[i]? = c.B[i]? := fun i hij => List.getElem?_set_ne (Ne.symm hij)
  have ha : ∀ i, At c c' i i := fun i => by
    by_cases hij : i = j
    · subst hij
      refine ⟨fun x hx => hx, fun t' d rs hr => (by rw [hB] at hr; cases hr), fun cs hc => (by rw [hB] at hc; cases hc), fun d2 m2 hm => ?_, fun b' t' k hb' hcap => ?_⟩
      · rw [hB] at hm; cases hm; exact ⟨m', hBj⟩
      · rw [hφ] at hb'; cases hb'
        obtain ⟨cu, h1, h2⟩ := hcap
        rw [hb] at h1; cases h1
    · exact At.same rfl (hBi i hij) (fun b' hb' => hoth _ (fun e => hij (h.inj _ _ _ hb' (by rw [e]; exact hφ))))
  refine ⟨hi, ha, hself, fun hbr => ⟨by simp [c', h.len], fun i k hk => ?_, h.inj, fun k hk => ?_, fun i x hx => ?_, h.os, h.tape, h.output, ?_, fun k hk hM => ?_⟩⟩
  · have := h.new i k hk
    simpa [c'] using this
  · have := h.imm k hk
    simpa [c'] using this
  · by_cases hij : i = j
    · subst hij
      rw [hBj] at hx
      cases hx
      exact hbr
    · rw [hBi i hij] at hx
      exact (h.blk i x hx).mono hi ha rfl (fun b' hb' => hoth _ (fun e => hij (h.inj _ _ _ hb' (by rw [e]; exact hφ))))
  · have := h.size
    simpa [c'] using this
  · rw [← h.keep k hk hM]
    refine hoth _ (fun e => ?_)
    subst e
    rcases hbn.1 with h1 | h1
    · exact hM h1
    · omega

theorem op_mapUpdate (hT : tabOk E.P E.T = true) (h : Good w0 M c0 n0 c N st a) (hd : ∀ n, o.dst = some n → n < N) (hx : Nx E w0 M c0 n0 N K next) {t : TypeId} {x i z : Operand} (ho : o.op = .mapUpdate t x i z)
    (hk : exOp E call n0 o st K = true) : o.wp E.P a c.w next Q := by
  unfold exOp at hk
  simp only [ho] at hk
  have hv := ev_ok (E := E) h 2 x
  have hiv := ev_ok (E := E) h 3 i
  split at hk
  · rename_i e d j n hm hxe hie
    rw [hxe] at hv
    rw [hie] at hiv
    obtain ⟨hiv, _⟩ := int_of hiv
    have hzv := ev_ok (E := E) h e z
    obtain ⟨kt, iz, vz, hu, hku, hi, hiz, hzero⟩ := mapOf_ok hT hm
    split at hk
    · rename_i d' m y hB hye
      rw [← h.b] at hB
      split at hk
      · rename_i hchk
        simp only [Bool.and_eq_true, decide_eq_true_eq] at hchk
        obtain ⟨rfl, hpl⟩ := hchk
        have hy : CRel c y (a.eval z) := by
          rw [hye] at hzv
          generalize a.eval z = q at hzv
          cases hzv with
          | one hy => exact hy
        generalize hg : a.eval x = vx at hv
        cases hv with
        | one hv =>
          cases hv with
          | @map _ b _ m2 hB2 hφ =>
            rw [hB] at hB2
            cases hB2
            have hblk := h.own.blk _ _ hB
            cases hblk with
            | @map _ _ b2 es clk h1 h2 h3 h4 =>
              rw [h1] at hφ
              cases hφ
              obtain ⟨e1, e2⟩ := map_entries h3 h4
              have hck : ∀ b w, (Instr.checkKey b 10000 kt (.int .i64 n)).run E.P w = .ok () w := fun b w => checkKey_int hku b 9999 n w
              have henc : enc d' (mk d' [toPlain y]) = [toPlain y] := enc_mk (c := c) d' _ hpl (fun i x hx => by
                cases i with
                | zero => simp at hx; subst hx; exact ⟨_, hy.toPlain⟩
                | succ i => simp at hx)
              have fin : ∀ es' clk', (Instr.mapUpdate t (.map (some b)) (.int .i64 n) (a.eval z)).run E.P c.w = .ok () { c.w with heap := c.w.heap.setIfInBounds b (.map es' clk') } →
                  es'.size = (putM n (mk d' [toPlain y]) m).length →
                  (∀ (c' : Cx), (∀ x v, CRel c x v → isPlain x = true → CRel c' x v) → ∀ (i : Nat) (k : Int) (v : den d'), (putM n (mk d' [toPlain y]) m)[i]? = some (k, v) → ∃ e z, es'[i]? = some e ∧ e.key = .int .i64 k ∧ enc d' v = [z] ∧ CRel c' z e.val) →
                  o.wp E.P a c.w next Q := by
                intro es' clk' hrun hsz hent
                obtain ⟨g1, g2, g3, g4⟩ := h.own.writeM (m' := putM n (mk d' [toPlain y]) m) (es' := es') (clk' := clk') hB h1 h2
                have hO := g4 (.map h1 g3 hsz (hent _ (fun x v hxv _ => hxv.mono g1 g2)))
                have hG := h.move g1 g2 hO { st with b := st.b.set j (.map d' (putM n (mk d' [toPlain y]) m)) } (by rw [← h.b]) rfl
                exact wp_nop (w' := { c.w with heap := c.w.heap.setIfInBounds b (.map es' clk') }) (by simp [execOp, ho, hg, hiv, hrun]) (hx _ _ _ hk (hG.set hd .undef))
              have hyp : isPlain (toPlain y) = true := enc_mem (d := d') (x := mk d' [toPlain y]) (o := 0) (by rw [henc]; rfl)
              rcases findNow_map (Rel := fun x v => ∃ z, enc d' x = [z] ∧ CRel c z v) n m es.toList 0 e1 e2 with ⟨g1, g2, g3⟩ | ⟨q, y', e', g1, g2, g3, g4, g5, ⟨zz, g6, g7⟩, g8⟩
              · refine fin (es.push { key := .int .i64 n, val := a.eval z, born := clk }) (clk + 1) ?_ ?_ ?_
                · simp [Instr.mapUpdate, run_underlying hu, MapKept.run_getObj_map h2, hck, run_findKey hku g2, MapKept.run_setObj_map _ h2]
                · rw [g3]; simp [h3]
                · intro c' hc' i k v hi
                  rw [g3] at hi
                  by_cases hil : i < m.length
                  · rw [List.getElem?_append_left hil] at hi
                    obtain ⟨e, z, q1, q2, q3, q4⟩ := h4 i k v hi
                    exact ⟨e, z, by rw [Array.getElem?_push, if_neg (by omega)]; exact q1, q2, q3, hc' _ _ q4 (enc_mem (o := 0) (by rw [q3]; rfl))⟩
                  · rw [List.getElem?_append_right (by omega)] at hi
                    have : i = m.length := by have := (List.getElem?_eq_some_iff.1 hi).1; simp at this; omega
                    subst this
                    simp at hi
                    obtain ⟨rfl, rfl⟩ := hi
                    exact ⟨_, _, by rw [Array.getElem?_push, if_pos h3.symm], rfl, henc, hc' _ _ hy.toPlain hyp⟩
              · rw [Nat.zero_add] at g2
                refine fin (es.modify q fun e => { e with key := .int .i64 n, val := a.eval z }) clk ?_ ?_ ?_
                · have hkey : ((es[q]?).map (·.key)).getD (.int .i64 n) = .int .i64 n := by
                    have : es[q]? = some e' := by simpa using g4
                    rw [this]; exact g5
                  simp [Instr.mapUpdate, run_underlying hu, MapKept.run_getObj_map h2, hck, run_findKey hku g2, MapKept.run_setObj_map _ h2, Instr.keyThatStays, hkey, Instr.sameBits]
                · rw [g8]; simp [h3]
                · intro c' hc' i k v hi
                  rw [g8, List.getElem?_set] at hi
                  split at hi
                  · rename_i hqi
                    subst hqi
                    split at hi
                    · cases hi
                      have : es[q]? = some e' := by simpa using g4
                      exact ⟨_, _, by rw [Array.getElem?_modify, if_pos rfl, this]; rfl, rfl, henc, hc' _ _ hy.toPlain hyp⟩
                    · cases hi
                  · rename_i hqi
                    obtain ⟨e, z, q1, q2, q3, q4⟩ := h4 i k v hi
                    exact ⟨e, z, by rw [Array.getElem?_modify, if_neg hqi]; exact q1, q2, q3, hc' _ _ q4 (enc_mem (o := 0) (by rw [q3]; rfl))⟩
      · cases hk
    · cases hk
  · cases hk

/-- What results show. -/
def resV (rs : List AV) : AV := match rs with | [v] => v | vs => .tup vs

/-- What a call is held to. -/
def CallOk (P : Program) (call : FuncId → List AV → List Blk → Kont → Bool) : Prop :=
  ∀ (f : FuncId) (args : List AV) (B : List Blk) (K : Kont), call f args B K = true →
  ∀ (w0 : World) (M : Nat → Prop) (c : Cx) (vs : Array Value), Own w0 M c → c.B = B → vs.size = args.length → (∀ (i : Nat) (x : AV), args[i]? = some x → VRel c x (vs.getD i undef)) →
  Calls P f vs c.w fun e w' => ∃ v c' rs, e = .returned v ∧ w' = c'.w ∧ K rs c'.B = true ∧ Own w0 M c' ∧ ImmUp c c' ∧ (∀ j, j < B.length → At c c' j j) ∧ VRel c' (resV rs) v

theorem At.vac {w0 : World} {M : Nat → Prop} {c : Cx} (h : Own w0 M c) (c' : Cx) {j n : Nat} (hj : c.B.length ≤ j) : At c c' j n := by
  have h1 : c.φ[j]? = none := List.getElem?_eq_none (by rw [h.len]; exact hj)
  have h2 : c.B[j]? = none := List.getElem?_eq_none hj
  exact ⟨fun x hx => (by rw [h1] at hx; cases hx), fun t d rs hx => (by rw [h2] at hx; cases hx), fun cs hx => (by rw [h2] at hx; cases hx), fun d m hx => (by rw [h2] at hx; cases hx), fun b t k hx => (by rw [h1] at hx; cases hx)⟩

theorem callable_ok {P : Program} {f : FuncId} (h : callable P f = true) : ∃ fn, P.funcs[f]? = some fn ∧ (fn.name == "runtime.NumGoroutine") = false ∧ fn.body.isNone = false := by
  unfold callable at h
  split at h
  · rename_i fn hf
    simp only [Bool.and_eq_true, Bool.not_eq_true'] at h
    exact ⟨fn, hf, h.2, by simpa using h.1⟩
  · cases h

theorem op_call (hc : CallOk E.P call) (h : Good w0 M c0 n0 c N st a) (hd : ∀ n, o.dst = some n → n < N) (hx : Nx E w0 M c0 n0 N K next) {F : Operand} {args : Array Operand} {ts : Array TypeId} (ho : o.op = .call { callee := .value F, args := args, argTypes := ts })
    {g : FuncId} {cap : List AC} (hF : VRel c (.one (.fn g cap)) (a.eval F)) (hg : callable E.P g = true) (hk : callV call o g (evs E st args.toList ts.toList ++ cap.map AV.one) st K = true) : o.wp E.P a c.w next Q := by
  obtain ⟨fn, hf, hn, hb⟩ := callable_ok hg
  generalize hv : a.eval F = vf at hF
  cases hF with
  | one hF =>
    cases hF with
    | @fn _ _ vs hsz hcap =>
      have hn' : fn.name ≠ "runtime.NumGoroutine" := by simpa using hn
      have hb' : fn.body ≠ none := fun e => by simp [e] at hb
      have hrun : (execOp a.eval o).run E.P c.w = .ok (.enter g (args.map a.eval ++ vs)) c.w := by
        simp [execOp, ho, resolve, invoke, Deferred.ofValue, hv, callFunc, hf, hn', hb']
      unfold Oper.wp
      rw [hrun, Oper.upon_enter]
      unfold callV at hk
      obtain ⟨h1, h2⟩ := evs_ok (E := E) h args.toList ts.toList
      rw [Array.length_toList (xs := args)] at h1
      have key := hc g _ st.b _ hk w0 M c (args.map a.eval ++ vs) h.own h.b (by simp [h1, hsz]) (fun i x hx => by
        by_cases hi : i < (evs E st args.toList ts.toList).length
        · rw [List.getElem?_append_left hi] at hx
          have := h2 i x hx
          rw [List.getD_eq_getElem?_getD] at this
          rw [Array.getD_eq_getD_getElem?, Array.getElem?_append_left (by simp; omega)]
          simpa using this
        · rw [List.getElem?_append_right (by omega)] at hx
          rw [List.getElem?_map] at hx
          cases hq : cap[i - (evs E st args.toList ts.toList).length]? with
          | none => rw [hq] at hx; cases hx
          | some q =>
            rw [hq] at hx
            cases hx
            have := hcap _ q hq
            rw [Array.getD_eq_getD_getElem?, Array.getElem?_append_right (by simp; omega)]
            rw [Array.getD_eq_getD_getElem?] at this
            refine .one ?_
            simpa [h1] using this)
      refine key.mono fun e w' ⟨v, c', rs, he, hw, hK, hO, hi, ha, hr⟩ => ?_
      subst he; subst hw
      have hall : ∀ j, At c c' j j := fun j => by
        by_cases hj : j < st.b.length
        · exact ha j hj
        · exact .vac h.own c' (by rw [h.b]; omega)
      exact hx c' _ _ hK ((h.move hi hall hO { st with b := c'.B } rfl rfl).set hd (x := resV rs) hr)

/-- Operations that leave the world. -/
theorem exOp_still (hT : tabOk E.P E.T = true) (h : Good w0 M c0 n0 c N st a) (hd : ∀ n, o.dst = some n → n < N) (hs : stillOp o.op = true) (hk : exOp E call n0 o st K = true) : StillTo E w0 M c0 n0 N c a o K := by
  cases ho : o.op with
  | move x => exact op_move h hd (.inl ho) (by unfold exOp at hk; simpa only [ho] using hk)
  | assign x => exact op_move h hd (.inr ho) (by unfold exOp at hk; simpa only [ho] using hk)
  | pick p q r => exact op_pick (call := call) h hd ho hk
  | load t x => exact op_load (call := call) h hd ho hk
  | nilCheck x => exact op_nilCheck (call := call) h hd ho hk
  | binOp op xT x z yT => exact op_binOp (call := call) h hd ho hk
  | unOp op xT x => exact op_unOp (call := call) h hd ho hk
  | fieldAddr s x f => exact op_fieldAddr (call := call) h hd ho hk
  | field s x f => exact op_field (call := call) h hd ho hk
  | indexAddr t x i => exact op_indexAddr (call := call) hT h hd ho hk
  | index t x i => exact op_index (call := call) h hd ho hk
  | extract x i => exact op_extract (call := call) h hd ho hk
  | slice t x lo hi mx =>
    cases mx with
    | none => exact op_slice (call := call) hT h hd ho hk
    | some m => exact op_sliceM (call := call) hT h hd ho hk
  | lookup t x i ok => exact op_lookup (call := call) hT h hd ho hk
  | makeFunc fn first cap => exact op_makeFunc (call := call) h hd ho hk
  | call cl =>
    obtain ⟨callee, args, ts⟩ := cl
    rw [ho] at hs
    cases callee with
    | builtin b =>
      unfold exOp at hk
      simp only [ho] at hk
      unfold builtinA at hk
      split at hk
      · rename_i x t he ht
        have h2 := (evs_ok (E := E) h args.toList ts.toList)
        rw [he] at h2
        obtain ⟨X, hX⟩ : ∃ X, args.toList = [X] := by
          have := h2.1
          match hl : args.toList with
          | [X] => exact ⟨X, rfl⟩
          | [] => rw [hl] at this; simp at this
          | _ :: _ :: _ => rw [hl] at this; simp at this
        split at hk
        · rename_i n hn
          have h0 := h2.2 0 _ rfl
          rw [hX] at h0
          exact op_len h hd (t := t) (X := X) (by rw [ho]; congr 2 <;> exact Array.ext' (by simp [hX, ht])) (by simpa using h0) hn hk
        · cases hk
      · simp [stillOp] at hs
      · rename_i k p r he
        split at hk
        · rename_i v hm; exact op_min h hd ho he hm hk
        · cases hk
      · rename_i k p r he
        split at hk
        · rename_i v hm; exact op_max h hd ho he hm hk
        · cases hk
      · simp [stillOp] at hs
      · cases hk
    | _ => simp [stillOp] at hs
  | _ => rw [ho] at hs; simp [stillOp] at hs

/-- Operations that do not look at memory. -/
theorem exOp_pure (hT : tabOk E.P E.T = true) (h : Good w0 M c0 n0 c N st a) (hd : ∀ n, o.dst = some n → n < N) (hp : pureO E.P o = true) (hk : exOp E call n0 o st K = true) : StillTo E w0 M c0 n0 N c a o K := by
  by_cases hs : stillOp o.op = true
  · exact exOp_still hT h hd hs hk
  · cases ho : o.op with
    | convert src dst x =>
      simp only [pureO, pureOp, ho, Bool.false_or] at hp
      split at hp
      · rename_i k hu2
        unfold exOp at hk
        simp only [ho] at hk
        have hv := ev_ok (E := E) h src x
        split at hk
        · rename_i r hcv
          unfold convA at hcv
          split at hcv
          · rename_i d1 k2 k' n hu hu3 he
            rw [hu2] at hu3
            cases hu3
            cases hcv
            rw [he] at hv
            obtain ⟨he, _⟩ := int_of hv
            exact done_pure h hd (.one (.int (wrap_wf _ _))) (fun w => by simp [execOp, ho, he, convert, run_underlying hu, run_underlying hu2, Conv.intToInt]) hk
          · rename_i hu3 _; rw [hu2] at hu3; cases hu3
          · rename_i hu3 _; rw [hu2] at hu3; cases hu3
          · rename_i hu3 _; rw [hu2] at hu3; cases hu3
          · cases hcv
        · cases hk
      · cases hp
    | call cl =>
      obtain ⟨callee, args, ts⟩ := cl
      cases callee with
      | builtin b =>
        cases b with
        | len => rw [ho] at hs; exact absurd rfl hs
        | _ => simp [pureO, pureOp, ho] at hp
      | _ => simp [pureO, pureOp, ho] at hp
    | _ =>
      first
        | (rw [ho] at hs; exact absurd rfl hs)
        | (simp [pureO, pureOp, ho] at hp; done)

theorem exOp_ok (hT : tabOk E.P E.T = true) (hc : CallOk E.P call) (h : Good w0 M c0 n0 c N st a) (hd : ∀ n, o.dst = some n → n < N) (hx : Nx E w0 M c0 n0 N K next) (hk : exOp E call n0 o st K = true) : o.wp E.P a c.w next Q := by
  by_cases hs : stillOp o.op = true
  · exact (exOp_still hT h hd hs hk).wp hx
  cases ho : o.op with
  | alloc t => exact op_alloc (call := call) h hd hx ho hk
  | box t x => exact op_box (call := call) h hd hx ho hk
  | build t ps => exact op_build (call := call) h hd hx ho hk
  | buildSlice t n ps => exact op_buildSlice (call := call) hT h hd hx ho hk
  | store t x z => exact op_store (call := call) h hd hx ho hk
  | convert s t x => exact op_convert (call := call) hT h hd hx ho hk
  | mapUpdate t x i z => exact op_mapUpdate (call := call) hT h hd hx ho hk
  | makeMap t r =>
    cases r with
    | none => exact op_makeMap (call := call) h hd hx ho hk
    | some r => unfold exOp at hk; simp only [ho] at hk; cases hk
  | makeSlice t l k => exact op_makeSlice (call := call) hT h hd hx ho hk
  | call cl =>
    obtain ⟨callee, args, ts⟩ := cl
    cases callee with
    | builtin b =>
      unfold exOp at hk
      simp only [ho] at hk
      unfold builtinA at hk
      split at hk
      · rw [ho] at hs; simp [stillOp] at hs
      · rename_i s x t u he ht
        have h2 := (evs_ok (E := E) h args.toList ts.toList)
        rw [he] at h2
        obtain ⟨X, Z, hX⟩ : ∃ X Z, args.toList = [X, Z] := by
          have := h2.1
          match hl : args.toList with
          | [X, Z] => exact ⟨X, Z, rfl⟩
          | [] => rw [hl] at this; simp at this
          | [_] => rw [hl] at this; simp at this
          | _ :: _ :: _ :: _ => rw [hl] at this; simp at this
        have h0 := h2.2 0 _ rfl
        have h1 := h2.2 1 _ rfl
        rw [hX] at h0 h1
        have ho' : o.op = .call { callee := .builtin .append, args := #[X, Z], argTypes := #[t, u] } := by rw [ho]; congr 2 <;> exact Array.ext' (by simp [hX, ht])
        split at hk
        · rename_i hu
          split at hk
          · rename_i b st' hap
            exact op_append hT h hd hx ho' (by simpa using h0) (by simpa using h1) ⟨_, hu, fun k hk => by cases hk⟩ hap hk
          · cases hk
        · rename_i hu
          split at hk
          · rename_i b st' hap
            exact op_append hT h hd hx ho' (by simpa using h0) (by simpa using h1) ⟨_, hu, fun k hk => by cases hk⟩ hap hk
          · cases hk
        · cases hk
      · rw [ho] at hs; simp [stillOp] at hs
      · rw [ho] at hs; simp [stillOp] at hs
      · rename_i x t he ht
        have h2 := (evs_ok (E := E) h args.toList ts.toList)
        rw [he] at h2
        obtain ⟨X, hX⟩ : ∃ X, args.toList = [X] := by
          have := h2.1
          match hl : args.toList with
          | [X] => exact ⟨X, rfl⟩
          | [] => rw [hl] at this; simp at this
          | _ :: _ :: _ => rw [hl] at this; simp at this
        have h0 := h2.2 0 _ rfl
        rw [hX] at h0
        split at hk
        · rename_i B hcl
          exact op_clear hT h hd hx (t := t) (X := X) (by rw [ho]; congr 2 <;> exact Array.ext' (by simp [hX, ht])) (by simpa using h0) hcl hk
        · cases hk
      · cases hk
    | value F =>
      unfold exOp at hk
      simp only [ho] at hk
      split at hk
      · rename_i g cap hF
        split at hk
        · rename_i hg
          exact op_call hc h hd hx ho (by rw [← hF]; exact ev_ok (E := E) h 2 F) hg hk
        · cases hk
      · cases hk
    | invoke _ _ => unfold exOp at hk; simp only [ho] at hk; cases hk
  | slice t x lo hi mx =>
    cases mx with
    | none => rw [ho] at hs; simp [stillOp] at hs
    | some m => rw [ho] at hs; simp [stillOp] at hs
  | _ => first | (rw [ho] at hs; simp [stillOp] at hs; done) | (unfold exOp at hk; simp only [ho] at hk; cases hk)
end
end Go.X
