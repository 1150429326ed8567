/- Each operation that is carried out does what its abstract one says, where the values are of their types. -/
import Derived.Test.YtmcgkokjcimckaaYRel
import Derived.Lib.ConvBytes
import Derived.Laws.BytesArg
set_option linter.all false
namespace Go.X
open Go
set_option linter.unusedSimpArgs false
set_option linter.unusedVariables false

theorem wp_val {P : Program} {o : Oper} {a : Act} {w w' : World} {next : Act → World → Prop} {Q : Exit → Act → World → Prop} {v : Value}
    (h : (execOp a.eval o).run P w = .ok (.value v) w') (hn : next (a.put o.dst v) w') : o.wp P a w next Q := by
  unfold Oper.wp; rw [h]; exact hn
theorem wp_nop {P : Program} {o : Oper} {a : Act} {w w' : World} {next : Act → World → Prop} {Q : Exit → Act → World → Prop}
    (h : (execOp a.eval o).run P w = .ok .skip w') (hn : next (a.put o.dst undef) w') : o.wp P a w next Q := by
  unfold Oper.wp; rw [h]; exact hn

section
variable {P : Program} {T : Tab} {c : Cx}

theorem absCell_ok (ct : CT) (v : Value) (h : v.oneCell' = true) : CRel c (absCell ct v) v := by
  unfold absCell
  split
  · split
    · rename_i hw; exact .int hw
    · exact .any h
  · exact .bool
  · split
    · rename_i hw; exact .str (by have := Nat.le_of_ble_eq_true hw; unfold maxLen; omega)
    · exact .any h
  · exact .nilS
  · exact .any h

theorem zipCells_ok : ∀ (cts : List CT) (vs : List Value), (∀ v ∈ vs, v.oneCell' = true) → (zipCells cts vs).length = vs.length ∧ ∀ (i : Nat) (x : AC), (zipCells cts vs)[i]? = some x → CRel c x (vs.getD i undef)
  | cts, [], _ => by cases cts <;> exact ⟨rfl, fun i x h => by simp [zipCells] at h⟩
  | ct :: cts, v :: vs, h => by
    obtain ⟨h1, h2⟩ := zipCells_ok cts vs (fun v hv => h v (by simp [hv]))
    refine ⟨by simp [zipCells, h1], fun i x hx => ?_⟩
    cases i with
    | zero => simp [zipCells] at hx; subst hx; exact absCell_ok ct v (h v (by simp))
    | succ i => simp [zipCells] at hx; exact h2 i x hx
  | [], v :: vs, h => by
    obtain ⟨h1, h2⟩ := zipCells_ok [] vs (fun v hv => h v (by simp [hv]))
    refine ⟨by simp [zipCells, h1], fun i x hx => ?_⟩
    cases i with
    | zero => simp [zipCells] at hx; subst hx; exact absCell_ok .oth v (h v (by simp))
    | succ i => simp [zipCells] at hx; exact h2 i x hx

theorem allOne_ok {cs : Array Value} (h : allOne cs = true) : ∀ v ∈ cs.toList, v.oneCell' = true := by
  unfold allOne at h
  exact List.all_eq_true.1 h

theorem constAV_ok (t : TypeId) (v : Value) : VRel c (constAV P T t v) v := by
  cases v with
  | agg cs =>
    show VRel c (match allOne cs with | true => .agg (zipCells (ctsOf P T t) cs.toList) | false => .any) _
    cases h : allOne cs with
    | false => exact .any
    | true =>
      obtain ⟨h1, h2⟩ := zipCells_ok (c := c) (ctsOf P T t) cs.toList (allOne_ok h)
      exact .agg (by simp [h1]) (fun i x hx => by have := h2 i x hx; simpa [Array.getD_eq_getD_getElem?, List.getD_eq_getElem?_getD] using this)
  | tuple _ => exact .any
  | _ => exact .one (absCell_ok _ _ rfl)

theorem zeroOf_ok {t : TypeId} {z : List AC} (h : zeroOf P T t = some z) : ∃ i v, P.info? t = some i ∧ i.zero = some v ∧ v.cells.size = z.length ∧
    (∀ (i : Nat) (x : AC), z[i]? = some x → CRel c x (v.cells.getD i undef)) ∧ ∀ x ∈ v.cells.toList, x.oneCell' = true := by
  unfold zeroOf at h
  cases hi : P.info? t with
  | none => rw [hi] at h; cases h
  | some i =>
    rw [hi] at h
    simp only at h
    cases hz : i.zero with
    | none => rw [hz] at h; cases h
    | some v =>
      rw [hz] at h
      simp only at h
      cases ho : allOne v.cells with
      | false => rw [ho] at h; cases h
      | true =>
        rw [ho] at h
        simp only [Option.some.injEq] at h
        subst h
        obtain ⟨h1, h2⟩ := zipCells_ok (c := c) (ctsOf P T t) v.cells.toList (allOne_ok ho)
        exact ⟨i, v, rfl, hz, by simp [h1], fun i x hx => by have := h2 i x hx; simpa [Array.getD_eq_getD_getElem?, List.getD_eq_getElem?_getD] using this, allOne_ok ho⟩
end

section
variable {E : Env} {call : FuncId → List AV → List Blk → Kont → Bool} {w0 : World} {M : Nat → Prop} {c0 c : Cx} {n0 N : Nat} {st : St} {a : Act} {o : Oper} {next : Act → World → Prop} {Q : Exit → Act → World → Prop} {K : St → Bool}

theorem ev_ok (h : Good w0 M c0 n0 c N st a) (t : TypeId) (x : Operand) : VRel c (ev E t st x) (a.eval x) := by
  cases x with
  | tmp n => exact h.t n
  | const v => exact constAV_ok t v
  | global _ => exact .any
  | func f => exact .one (.fn rfl (fun i x hx => by simp at hx))

/-- What is to be shown behind an operation. -/
def Nx (E : Env) (w0 : World) (M : Nat → Prop) (c0 : Cx) (n0 N : Nat) (K : St → Bool) (next : Act → World → Prop) : Prop :=
  ∀ (c' : Cx) (st' : St) (a' : Act), K st' = true → Good w0 M c0 n0 c' N st' a' → next a' c'.w

theorem done_val (h : Good w0 M c0 n0 c N st a) (hd : ∀ n, o.dst = some n → n < N) (hx : Nx E w0 M c0 n0 N K next) {x : AV} {v : Value} (hv : VRel c x v)
    (hr : (execOp a.eval o).run E.P c.w = .ok (.value v) c.w) (hk : K (setT st o.dst x) = true) : o.wp E.P a c.w next Q :=
  wp_val hr (hx c _ _ hk (h.set hd hv))

/-- An operation that leaves the world. -/
def StillTo (E : Env) (w0 : World) (M : Nat → Prop) (c0 : Cx) (n0 N : Nat) (c : Cx) (a : Act) (o : Oper) (K : St → Bool) : Prop :=
  ∃ v st', (∀ w : World, (pureO E.P o = true ∨ w = c.w) → (execOp a.eval o).run E.P w = .ok (.value v) w) ∧ K st' = true ∧ Good w0 M c0 n0 c N st' (a.put o.dst v)

theorem done_still (h : Good w0 M c0 n0 c N st a) (hd : ∀ n, o.dst = some n → n < N) {x : AV} {v : Value} (hv : VRel c x v) (np : pureO E.P o = false)
    (hr : (execOp a.eval o).run E.P c.w = .ok (.value v) c.w) (hk : K (setT st o.dst x) = true) : StillTo E w0 M c0 n0 N c a o K :=
  ⟨v, _, fun w hw => by
    have e := hw.resolve_left (by rw [np]; exact Bool.false_ne_true)
    rw [e]; exact hr, hk, h.set hd hv⟩

theorem done_pure (h : Good w0 M c0 n0 c N st a) (hd : ∀ n, o.dst = some n → n < N) {x : AV} {v : Value} (hv : VRel c x v)
    (hr : ∀ w, (execOp a.eval o).run E.P w = .ok (.value v) w) (hk : K (setT st o.dst x) = true) : StillTo E w0 M c0 n0 N c a o K :=
  ⟨v, _, fun w _ => hr w, hk, h.set hd hv⟩

theorem StillTo.wp (h : StillTo E w0 M c0 n0 N c a o K) (hx : Nx E w0 M c0 n0 N K next) : o.wp E.P a c.w next Q :=
  let ⟨_, st', hr, hk, hg⟩ := h
  wp_val (hr c.w (.inr rfl)) (hx c st' _ hk hg)

/-- Behind a new object. -/
theorem done_new (h : Good w0 M c0 n0 c N st a) (hd : ∀ n, o.dst = some n → n < N) (hx : Nx E w0 M c0 n0 N K next) {ob : Obj} {b : Blk} {x : AC} {v : Value} (hb : BRel (c.push ob b) c.B.length b) (hv : CRel (c.push ob b) x v)
    (hr : (execOp a.eval o).run E.P c.w = .ok (.value v) (c.w.alloc ob)) (hk : K (boxOf st o.dst b x) = true) : o.wp E.P a c.w next Q :=
  wp_val hr (hx (c.push ob b) _ _ hk ((h.push ob b hb).set hd (.one hv)))

theorem op_move (h : Good w0 M c0 n0 c N st a) (hd : ∀ n, o.dst = some n → n < N) {x : Operand} (ho : o.op = .move x ∨ o.op = .assign x)
    (hk : K (setT st o.dst (ev E o.type st x)) = true) : StillTo E w0 M c0 n0 N c a o K := by
  refine done_pure h hd (ev_ok (E := E) h o.type x) ?_ hk
  intro w
  rcases ho with ho | ho <;> simp [execOp, ho]

theorem bool_of {x : AV} {v : Value} {t : Bool} (hv : VRel c x v) (hx : x = .one (.bool t)) : v = .bool t := by
  subst hx
  cases hv with
  | one h => cases h; rfl

theorem op_pick (h : Good w0 M c0 n0 c N st a) (hd : ∀ n, o.dst = some n → n < N) {p q r : Operand} (ho : o.op = .pick p q r)
    (hk : exOp E call n0 o st K = true) : StillTo E w0 M c0 n0 N c a o K := by
  unfold exOp at hk
  simp only [ho] at hk
  have hp := ev_ok (E := E) h 4 p
  have key : ∀ t, ev E 4 st p = .one (.bool t) → Good w0 M c0 n0 c N (subT st p t) a := by
    intro t ht
    cases p with
    | tmp n => exact h.sub (b := t) ht rfl
    | _ => exact h
  split at hk
  · rename_i t ht
    have hpv := bool_of hp ht
    have hg := key t ht
    cases t with
    | true =>
      refine done_pure (st := subT st p true) hg hd (ev_ok (E := E) hg o.type q) ?_ hk
      intro w
      simp [execOp, ho, hpv, asBool]
    | false =>
      refine done_pure (st := subT st p false) hg hd (ev_ok (E := E) hg o.type r) ?_ hk
      intro w
      simp [execOp, ho, hpv, asBool]
  · cases hk

/-- The cells of a value. -/
theorem cells_of {c : Cx} {x : AV} {v : Value} {cs : List AC} (h : VRel c x v) (hc : x.cells = some cs) :
    v.cells.size = cs.length ∧ ∀ (i : Nat) (z : AC), cs[i]? = some z → CRel c z (v.cells.getD i undef) := by
  cases h with
  | @one z v hz =>
    cases hc
    have h1 := hz.oneCell
    have e : v.cells = #[v] := by cases v <;> first | rfl | cases h1
    rw [e]
    refine ⟨rfl, fun i z' hi => ?_⟩
    cases i with
    | zero => cases hi; exact hz
    | succ i => simp at hi
  | agg hs hr => cases hc; exact ⟨hs, hr⟩
  | _ => cases hc

theorem Own.push_top {w0 : World} {M : Nat → Prop} {c : Cx} (h : Own w0 M c) (ob : Obj) (b : Blk) : (c.push ob b).φ[c.B.length]? = some (some c.w.heap.size) := by simp [Cx.push, ← h.len]
theorem Cx.push_top (c : Cx) (ob : Obj) (b : Blk) : (c.push ob b).B[c.B.length]? = some b := by simp [Cx.push]

theorem op_alloc (h : Good w0 M c0 n0 c N st a) (hd : ∀ n, o.dst = some n → n < N) (hx : Nx E w0 M c0 n0 N K next) {t : TypeId} (ho : o.op = .alloc t)
    (hk : exOp E call n0 o st K = true) : o.wp E.P a c.w next Q := by
  unfold exOp at hk
  simp only [ho] at hk
  cases hz : zeroOf E.P E.T t with
  | none => rw [hz] at hk; cases hk
  | some z =>
    rw [hz] at hk
    simp only at hk
    obtain ⟨i, v, h1, h2, h3, _, _⟩ := zeroOf_ok (c := c) hz
    have hφ := h.own.push_top (.cells v.cells t) (.box z)
    have e : st.b.length = c.B.length := by rw [h.b]
    refine done_new (ob := .cells v.cells t) (v := .pointer (some ⟨c.w.heap.size, 0, none⟩)) h hd hx (.box hφ (heap_alloc_new _ _) h3 ?_) ?_ ?_ hk
    · intro i x hx
      obtain ⟨i', v', h1', h2', h3', h4', h5'⟩ := zeroOf_ok (c := c.push (.cells v.cells t) (.box z)) hz
      rw [h1] at h1'; cases h1'
      rw [h2] at h2'; cases h2'
      exact h4' i x hx
    · rw [e]
      exact .ptrB (Cx.push_top _ _ _) hφ
    · simp [execOp, ho, Instr.alloc, zeroValue, typeInfo, h1, h2, newVar, newRow]

theorem op_box (h : Good w0 M c0 n0 c N st a) (hd : ∀ n, o.dst = some n → n < N) (hx : Nx E w0 M c0 n0 N K next) {t : TypeId} {x : Operand} (ho : o.op = .box t x)
    (hk : exOp E call n0 o st K = true) : o.wp E.P a c.w next Q := by
  unfold exOp at hk
  simp only [ho] at hk
  have hv := ev_ok (E := E) h t x
  cases hz : (ev E t st x).cells with
  | none => rw [hz] at hk; cases hk
  | some cs =>
    rw [hz] at hk
    simp only at hk
    obtain ⟨h1, h2⟩ := cells_of hv hz
    have hφ := h.own.push_top (.cells (a.eval x).cells t) (.box cs)
    have e : st.b.length = c.B.length := by rw [h.b]
    refine done_new (ob := .cells (a.eval x).cells t) (v := .pointer (some ⟨c.w.heap.size, 0, none⟩)) h hd hx (.box hφ (heap_alloc_new _ _) h1 ?_) ?_ ?_ hk
    · intro i z hz
      exact (h2 i z hz).mono (h.own.immUp_push _ _) (h.own.at_push _ _)
    · rw [e]
      exact .ptrB (Cx.push_top _ _ _) hφ
    · simp [execOp, ho, Instr.box, newVar, newRow]

theorem run_isAgg {P : Program} {t : TypeId} {b : Bool} (h : aggTy P t = some b) (w : World) : (isAgg t).run P w = .ok b w := by
  unfold aggTy at h
  cases hu : P.underlying t with
  | none => rw [hu] at h; cases h
  | some d =>
    rw [hu] at h
    cases d <;> cases h <;> simp [isAgg, run_underlying hu]

theorem info_of {P : Program} {t : TypeId} {d : TypeDesc} (h : P.underlying t = some d) : ∃ i, P.info? t = some i := by
  unfold Program.underlying at h
  cases hi : P.info? t with
  | none => rw [hi] at h; cases h
  | some i => exact ⟨i, rfl⟩

theorem run_sizeOf {P : Program} {t : TypeId} {d : TypeDesc} (h : P.underlying t = some d) (w : World) : (sizeOf t).run P w = .ok (P.cellsOf t) w := by
  obtain ⟨i, hi⟩ := info_of h
  simp [sizeOf, typeInfo, hi, Program.cellsOf]

theorem aggTy_some {P : Program} {t : TypeId} {b : Bool} (h : aggTy P t = some b) : ∃ d, P.underlying t = some d := by
  unfold aggTy at h
  cases hu : P.underlying t with
  | none => rw [hu] at h; cases h
  | some d => exact ⟨d, rfl⟩

/-- Cells that lie in a row are read. -/
theorem load_row {P : Program} {c : Cx} {t : TypeId} {b o : Nat} {xs : List AC} {r : AV} (hr : loadRow P t xs = some r)
    (h : ∀ (m : Nat) (x : AC), xs[m]? = some x → ∃ u, c.w.cell? ⟨b, o + m, none⟩ = some u ∧ CRel c x u) :
    ∃ u, (loadVar t ⟨b, o, none⟩).run P c.w = .ok u c.w ∧ VRel c r u := by
  unfold loadRow at hr
  split at hr
  · rename_i hl ha
    cases hr
    obtain ⟨d, hd⟩ := aggTy_some ha
    have hn := Nat.eq_of_beq_eq_true hl
    let f : Nat → Value := fun m => (c.w.cell? ⟨b, o + m, none⟩).getD undef
    have hf : ∀ m, m < P.cellsOf t → c.w.cell? ((⟨b, o, none⟩ : Addr).add m) = some (f m) := by
      intro m hm
      rw [Addr.add_lit]
      obtain ⟨u, hu, _⟩ := h m _ (List.getElem?_eq_getElem (by omega))
      simp [f, hu]
    have := run_loadCells (P := P) c.w ⟨b, o, none⟩ (P.cellsOf t) f hf
    refine ⟨.agg ((List.range (P.cellsOf t)).map f).toArray, by simp [loadVar, run_isAgg ha, run_sizeOf hd, this], .agg (by simp [hn]) (fun i x hx => ?_)⟩
    obtain ⟨u, hu, hc⟩ := h i x hx
    have hi : i < P.cellsOf t := by have := (List.getElem?_eq_some_iff.1 hx).1; omega
    simpa [Array.getD_eq_getD_getElem?, hi, f, hu] using hc
  · rename_i hl ha
    split at hr
    · cases hr
      obtain ⟨u, hu, hc⟩ := h 0 _ rfl
      have hu : c.w.cell? ⟨b, o, none⟩ = some u := hu
      exact ⟨u, by simp [loadVar, run_isAgg ha, run_load, hu] , .one hc⟩
    · cases hr
  · cases hr

theorem getD_some {α : Type} {l : List α} {i : Nat} (d : α) (h : i < l.length) : l[i]? = some (l.getD i d) := by
  simp [List.getD_eq_getElem?_getD, h]

theorem elem_some {d : Cd} {l : List (den d)} {i : Nat} (h : i < l.length) : l[i]? = some (elem d l i) := getD_some _ h

/-- Facts of a type that is listed. -/
theorem tab_ok {P : Program} {T : Tab} (hT : tabOk P T = true) {t : TypeId} {d : Cd} (h : cdOf T t = some d) :
    ctsOf P T t = cts d ∧ P.cellsOf t = size d ∧ 1 ≤ P.bytesOf t ∧ P.bytesOf t ≤ 1000000 ∧ (∃ z, zeroOf P T t = some z ∧ z.length = size d) ∧ ∃ b, aggTy P t = some b := by
  have : ∃ x ∈ T, x = (t, d) := by
    clear hT
    induction T with
    | nil => cases h
    | cons y r ih =>
      obtain ⟨u, e⟩ := y
      unfold cdOf at h
      split at h
      · rename_i hb
        cases h
        exact ⟨(u, d), by simp, by rw [Nat.eq_of_beq_eq_true hb]⟩
      · obtain ⟨z, h1, h2⟩ := ih h
        exact ⟨z, by simp [h1], h2⟩
  obtain ⟨x, hx, rfl⟩ := this
  have := List.all_eq_true.1 hT _ hx
  unfold rowTy at this
  simp only [Bool.and_eq_true, decide_eq_true_eq] at this
  obtain ⟨⟨⟨⟨⟨h1, h2⟩, h3⟩, h4⟩, h5⟩, h6⟩ := this
  refine ⟨h1, Nat.eq_of_beq_eq_true h2, Nat.le_of_ble_eq_true h3, Nat.le_of_ble_eq_true h4, ?_, ?_⟩
  · split at h5
    · rename_i z hz; exact ⟨z, hz, Nat.eq_of_beq_eq_true h5⟩
    · cases h5
  · split at h6
    · rename_i b hb; exact ⟨b, hb⟩
    · cases h6

theorem enc_some {d : Cd} {x : den d} {o : Nat} (h : o < size d) : ∃ z, (enc d x)[o]? = some z := ⟨_, List.getElem?_eq_getElem (by rw [enc_len]; exact h)⟩

theorem loadA_ok {P : Program} {w0 : World} {M : Nat → Prop} {c : Cx} (hO : Own w0 M c) {t : TypeId} {x r : AV} {v : Value} (hv : VRel c x v) (h : loadA P t c.B x = some r) :
    ∃ u, (Instr.loadAt t v).run P c.w = .ok u c.w ∧ VRel c r u := by
  unfold loadA at h
  split at h
  · rename_i j i o'
    cases hv with
    | one hv =>
      cases hv with
      | @ptrB _ b _ cs hB hφ =>
        rw [hB] at h
        simp only at h
        have hb := hO.blk _ _ hB
        cases hb with
        | @box _ b' cur t' h1 h2 h3 h4 =>
          rw [h1] at hφ
          cases hφ
          obtain ⟨u, hu, hr⟩ := load_row (c := c) (b := b) (o := o') h (fun m x hx => by
            have hlt := (List.getElem?_eq_some_iff.1 hx).1
            rw [List.getElem?_take, List.getElem?_drop] at hx
            split at hx
            · have hlt2 := (List.getElem?_eq_some_iff.1 hx).1
              have := h4 _ _ hx
              refine ⟨_, ?_, this⟩
              rw [cell_of_row _ _ _ _ _ _ h2]
              simp [Array.getD_eq_getD_getElem?, show o' + m < cur.size by omega]
            · cases hx)
          exact ⟨u, by simpa [Instr.loadAt, Instr.sureAddr] using hu, hr⟩
      | @ptrR _ b i _ e d l hB hφ hi =>
        rw [hB] at h
        simp only at h
        have hb := hO.blk _ _ hB
        cases hb with
        | @rows _ _ _ b' cap cur h1 h2 h3 h4 h5 h8 =>
          rw [h1] at hφ
          cases hφ
          obtain ⟨u, hu, hr⟩ := load_row (c := c) (b := b) (o := i * size d + o') h (fun m x hx => by
            rw [List.getElem?_take, List.getElem?_drop] at hx
            split at hx
            · have hs := enc_lt hx
              have := h8 _ _ _ hi hx
              refine ⟨_, ?_, this⟩
              have h9 : (i + 1) * size d ≤ cap * size d := Nat.mul_le_mul_right _ (by omega)
              rw [Nat.add_mul] at h9
              rw [cell_of_row _ _ _ _ _ _ h2, Nat.add_assoc]
              simp [Array.getD_eq_getD_getElem?, show i * size d + (o' + m) < cur.size by omega]
            · cases hx)
          exact ⟨u, by simpa [Instr.loadAt, Instr.sureAddr] using hu, hr⟩
        | none h1 => rw [h1] at hφ; cases hφ
  · rename_i d x o'
    cases hv with
    | one hv =>
      cases hv with
      | @pdat _ _ _ b off vals hI hcell hr =>
        obtain ⟨u, hu, hr⟩ := load_row (c := c) (b := b) (o := off + o') h (fun m z hx => by
          rw [List.getElem?_take, List.getElem?_drop] at hx
          split at hx
          · exact ⟨_, by rw [Nat.add_assoc]; exact hcell _ (enc_lt hx), hr _ _ hx⟩
          · cases hx)
        exact ⟨u, by simpa [Instr.loadAt, Instr.sureAddr] using hu, hr⟩
  · cases h

theorem op_load (h : Good w0 M c0 n0 c N st a) (hd : ∀ n, o.dst = some n → n < N) {t : TypeId} {x : Operand} (ho : o.op = .load t x)
    (hk : exOp E call n0 o st K = true) : StillTo E w0 M c0 n0 N c a o K := by
  unfold exOp at hk
  simp only [ho] at hk
  split at hk
  · rename_i v hv
    rw [← h.b] at hv
    obtain ⟨u, hu, hr⟩ := loadA_ok h.own (ev_ok (E := E) h 2 x) hv
    exact done_still h hd hr (by simp [pureO, pureOp, ho]) (by simp [execOp, ho, hu]) hk
  · cases hk

theorem agetD {us : Array Value} {i : Nat} (h : i < us.size) : us[i]? = some (us.getD i undef) := by
  rw [Array.getD_eq_getD_getElem?, Array.getElem?_eq_getElem h]; rfl

theorem op_nilCheck (h : Good w0 M c0 n0 c N st a) (hd : ∀ n, o.dst = some n → n < N) {x : Operand} (ho : o.op = .nilCheck x)
    (hk : exOp E call n0 o st K = true) : StillTo E w0 M c0 n0 N c a o K := by
  unfold exOp at hk
  simp only [ho] at hk
  have hv := ev_ok (E := E) h 2 x
  split at hk
  · rename_i he
    rw [he] at hv
    have hr := hv
    have fin : ∀ u, a.eval x = u → (execOp a.eval o).run E.P c.w = (match u with
        | .pointer none | .nilIface | .nilFunc => (runtimePanic .nilDeref : Sem Next)
        | .func (.method name) first captured =>
          match (first[0]? : Option Value) with
          | some .nilIface => runtimePanic .nilDeref
          | some (.iface t w) => do
            if (← nilAhead ((← program).types.size + Made.depth) t w name) != some false then
              unsupported (.noEntry "op/nilCheck.the method's receiver behind this interface value is a nil pointer, or cannot be seen to be none, and the arguments act or may panic (ledger 612)")
            pure (.value (.func (.method name) first captured))
          | _ => pure (.value (.func (.method name) first captured))
        | x => pure (.value x)).run E.P c.w := fun u hu => by
      subst hu; simp [execOp, ho]; rfl
    generalize hg : a.eval x = vx at hv hr
    cases hv with
    | one hv =>
      refine done_still (v := vx) h hd hr (by simp [pureO, pureOp, ho]) ?_ hk
      rw [fin _ hg]
      cases hv with
      | ptrB _ _ => rfl
      | ptrR _ _ _ => rfl
  · rename_i he
    rw [he] at hv
    have hr := hv
    have fin : ∀ u, a.eval x = u → (execOp a.eval o).run E.P c.w = (match u with
        | .pointer none | .nilIface | .nilFunc => (runtimePanic .nilDeref : Sem Next)
        | .func (.method name) first captured =>
          match (first[0]? : Option Value) with
          | some .nilIface => runtimePanic .nilDeref
          | some (.iface t w) => do
            if (← nilAhead ((← program).types.size + Made.depth) t w name) != some false then
              unsupported (.noEntry "op/nilCheck.the method's receiver behind this interface value is a nil pointer, or cannot be seen to be none, and the arguments act or may panic (ledger 612)")
            pure (.value (.func (.method name) first captured))
          | _ => pure (.value (.func (.method name) first captured))
        | x => pure (.value x)).run E.P c.w := fun u hu => by
      subst hu; simp [execOp, ho]; rfl
    generalize hg : a.eval x = vx at hv hr
    cases hv with
    | one hv =>
      refine done_still (v := vx) h hd hr (by simp [pureO, pureOp, ho]) ?_ hk
      rw [fin _ hg]
      cases hv with
      | pdat _ _ _ _ => rfl
  · rename_i he
    rw [he] at hv
    have hr := hv
    have fin : ∀ u, a.eval x = u → (execOp a.eval o).run E.P c.w = (match u with
        | .pointer none | .nilIface | .nilFunc => (runtimePanic .nilDeref : Sem Next)
        | .func (.method name) first captured =>
          match (first[0]? : Option Value) with
          | some .nilIface => runtimePanic .nilDeref
          | some (.iface t w) => do
            if (← nilAhead ((← program).types.size + Made.depth) t w name) != some false then
              unsupported (.noEntry "op/nilCheck.the method's receiver behind this interface value is a nil pointer, or cannot be seen to be none, and the arguments act or may panic (ledger 612)")
            pure (.value (.func (.method name) first captured))
          | _ => pure (.value (.func (.method name) first captured))
        | x => pure (.value x)).run E.P c.w := fun u hu => by
      subst hu; simp [execOp, ho]; rfl
    generalize hg : a.eval x = vx at hv hr
    cases hv with
    | one hv =>
      refine done_still (v := vx) h hd hr (by simp [pureO, pureOp, ho]) ?_ hk
      rw [fin _ hg]
      cases hv with
      | fn _ _ => rfl
  · cases hk

theorem op_extract (h : Good w0 M c0 n0 c N st a) (hd : ∀ n, o.dst = some n → n < N) {x : Operand} {i : Nat} (ho : o.op = .extract x i)
    (hk : exOp E call n0 o st K = true) : StillTo E w0 M c0 n0 N c a o K := by
  unfold exOp at hk
  simp only [ho] at hk
  have hv := ev_ok (E := E) h 2 x
  split at hk
  · rename_i vs he
    rw [he] at hv
    split at hk
    · rename_i v hi
      generalize hg : a.eval x = vx at hv
      cases hv with
      | @tup _ us hs hr =>
        have hlt := (List.getElem?_eq_some_iff.1 hi).1
        have := hr i v hi
        have e1 := agetD (us := us) (i := i) (by omega)
        generalize us.getD i undef = u at this e1
        refine done_pure (v := u) h hd this ?_ hk
        intro w
        simp [execOp, ho, hg, Instr.extract, e1]
    · cases hk
  · cases hk

theorem op_fieldAddr (h : Good w0 M c0 n0 c N st a) (hd : ∀ n, o.dst = some n → n < N) {s : TypeId} {x : Operand} {i : Nat} (ho : o.op = .fieldAddr s x i)
    (hk : exOp E call n0 o st K = true) : StillTo E w0 M c0 n0 N c a o K := by
  unfold exOp at hk
  simp only [ho] at hk
  have hv := ev_ok (E := E) h 2 x
  split at hk
  · rename_i fs hu
    split at hk
    · rename_i fd hf
      split at hk
      · rename_i v hao
        split at hk
        · cases hk
        · rename_i hz
          have hz : E.P.cellsOf fd.type ≠ 0 := fun e => by rw [e] at hz; cases hz
          obtain ⟨i1, hi1⟩ : ∃ i1, E.P.info? fd.type = some i1 := by
            cases hq : E.P.info? fd.type with
            | none => simp [Program.cellsOf, hq] at hz
            | some i => exact ⟨i, rfl⟩
          have hz' : i1.size ≠ 0 := by simpa [Program.cellsOf, hi1] using hz
          have fin : ∀ (b p : Nat), a.eval x = .pointer (some ⟨b, p, none⟩) → ∀ w, (execOp a.eval o).run E.P w = .ok (.value (.pointer (some ⟨b, p + fd.offset, none⟩))) w := by
            intro b p he w
            simp [execOp, ho, he, Instr.fieldAt, run_underlying hu, hf, Instr.sureAddr, fieldPlace, sizeOf, typeInfo, hi1, hz', Addr.add_lit]
          unfold addO at hao
          split at hao
          · rename_i he
            cases hao
            rw [he] at hv
            generalize hg : a.eval x = vx at hv fin
            cases hv with
            | one hv =>
              cases hv with
              | ptrB hB hφ => exact done_pure h hd (.one (.ptrB hB hφ)) (fin _ _ rfl) hk
              | ptrR hB hφ hi => exact done_pure h hd (.one (.ptrR hB hφ hi)) (fun w => by rw [fin _ _ rfl, Nat.add_assoc]) hk
          · rename_i he
            cases hao
            rw [he] at hv
            generalize hg : a.eval x = vx at hv fin
            cases hv with
            | one hv =>
              cases hv with
              | pdat vals h4 h5 h6 => exact done_pure h hd (.one (.pdat vals h4 h5 h6)) (fun w => by rw [fin _ _ rfl, Nat.add_assoc]) hk
          · cases hao
      · cases hk
    · cases hk
  · cases hk

theorem op_field (h : Good w0 M c0 n0 c N st a) (hd : ∀ n, o.dst = some n → n < N) {s : TypeId} {x : Operand} {i : Nat} (ho : o.op = .field s x i)
    (hk : exOp E call n0 o st K = true) : StillTo E w0 M c0 n0 N c a o K := by
  unfold exOp at hk
  simp only [ho] at hk
  have hv := ev_ok (E := E) h s x
  split at hk
  · rename_i fs cs hu he
    rw [he] at hv
    split at hk
    · rename_i fd hf
      split at hk
      · rename_i v hl
        generalize hg : a.eval x = vx at hv
        cases hv with
        | @agg _ us hs hr =>
          have key : ∃ u, (∀ w, (part fd.type us fd.offset).run E.P w = .ok u w) ∧ VRel c v u := by
            unfold loadRow at hl
            split at hl
            · rename_i hb ha
              cases hl
              obtain ⟨d, hd'⟩ := aggTy_some ha
              have hn := Nat.eq_of_beq_eq_true hb
              refine ⟨.agg (us.extract fd.offset (fd.offset + E.P.cellsOf fd.type)), fun w => by simp [part, run_isAgg ha, run_sizeOf hd'], .agg ?_ (fun m z hz => ?_)⟩
              · simp only [List.length_take, List.length_drop, Array.size_extract] at hn ⊢; omega
              · have hlt := (List.getElem?_eq_some_iff.1 hz).1
                rw [List.getElem?_take, List.getElem?_drop] at hz
                split at hz
                · have := hr _ _ hz
                  have hlt2 := (List.getElem?_eq_some_iff.1 hz).1
                  have e1 : (us.extract fd.offset (fd.offset + E.P.cellsOf fd.type)).getD m undef = us.getD (fd.offset + m) undef := by
                    have h4 : fd.offset + m < us.size := by omega
                    rw [Array.getD_eq_getD_getElem?, Array.getD_eq_getD_getElem?, Array.getElem?_extract]
                    rw [if_pos (by omega)]
                  rw [e1]; exact this
                · cases hz
            · rename_i hb ha
              split at hl
              · rename_i z heq
                cases hl
                have h0 : ((cs.drop fd.offset).take (E.P.cellsOf fd.type))[0]? = some z := by rw [heq]; rfl
                rw [List.getElem?_take, List.getElem?_drop] at h0
                split at h0
                · have := hr _ _ h0
                  have hlt2 := (List.getElem?_eq_some_iff.1 h0).1
                  have e1 := agetD (us := us) (i := fd.offset) (by omega)
                  simp only [Nat.add_zero] at this
                  generalize us.getD fd.offset undef = u at this e1
                  exact ⟨_, fun w => by simp [part, run_isAgg ha, e1], .one this⟩
                · cases h0
              · cases hl
            · cases hl
          obtain ⟨u, hu', hr'⟩ := key
          exact done_pure h hd hr' (fun w => by simp [execOp, ho, hg, Instr.field, run_underlying hu, asAgg, hf, hu']) hk
      · cases hk
    · cases hk
  · cases hk

theorem grd_ok {b : Bool} {x : Bool} (h : grd b x = true) : b = true ∧ x = true := by
  cases b with
  | true => exact ⟨rfl, h⟩
  | false => cases h

theorem int_of {c : Cx} {v : Value} {k : IntKind} {n : Int} (hv : VRel c (.one (.int k n)) v) : v = .int k n ∧ (Lit.int k n).wf = true := by
  cases hv with
  | one h => cases h with | int h => exact ⟨rfl, h⟩

/-- Where a slice's element stands. -/
theorem iaddr_ok {w0 : World} {M : Nat → Prop} {c : Cx} (hO : Own w0 M c) {s : Nat} {x r : AV} {v : Value} {i : Int} {b : Bool} (hv : VRel c x v)
    (h : iaddrA c.B x i = some (b, r)) (hb : b = true) (he : ∀ d, elemC c.B x = some d → size d = s) :
    ∃ a n cap u, v = .slice (some a) n cap ∧ 0 ≤ i ∧ i < n ∧ u = Value.pointer (some (a.add (i.toNat * s))) ∧ VRel c r u := by
  unfold iaddrA at h
  split at h
  · rename_i d l
    cases h
    simp only [Bool.and_eq_true, decide_eq_true_eq] at hb
    have hs := he d rfl
    subst hs
    cases hv with
    | one hv =>
      have hlt : i.toNat < l.length := by omega
      cases hv with
      | emp _ _ => simp at hlt
      | @dat _ _ a cap vals hl hc hs hI hcell hr =>
        obtain ⟨bl, off, sp⟩ := a
        simp only at hs
        subst hs
        refine ⟨_, _, _, _, rfl, hb.1, hb.2, rfl, ?_⟩
        rw [Addr.add_lit]
        exact .one (.pdat (off := off + i.toNat * size d) (fun o => vals i.toNat o) hI (fun o hx => by rw [Nat.add_assoc]; exact hcell _ _ hlt hx) (fun o z hx => hr _ _ _ hlt hx))
  · rename_i j
    cases hv with
    | one hv =>
      cases hv with
      | @own _ b' t d l cap hB hφ hl hc hcap =>
        rw [hB] at h
        cases h
        simp only [Bool.and_eq_true, decide_eq_true_eq] at hb
        refine ⟨_, _, _, _, rfl, hb.1, hb.2, rfl, ?_⟩
        rw [Addr.add_lit, ← he d (by simp [elemC, rowsV, hB]), Nat.zero_add]
        exact .one (.ptrR (o := 0) hB hφ (by omega))
      | ownN hB hφ =>
        rw [hB] at h
        cases h
        simp at hb
        omega
  · rename_i j off n
    cases hv with
    | one hv =>
      cases hv with
      | @sub _ b' t d l _ _ cap hB hφ hl hl2 hc hcap =>
        rw [hB] at h
        cases h
        simp only [Bool.and_eq_true, decide_eq_true_eq] at hb
        refine ⟨_, _, _, _, rfl, hb.1, hb.2, rfl, ?_⟩
        rw [Addr.add_lit, ← he d (by simp [elemC, rowsV, hB]), ← Nat.add_mul]
        exact .one (.ptrR (o := 0) hB hφ (by omega))
      | subE hB _ _ =>
        rw [hB] at h
        cases h
        simp at hb
        omega
  · cases h

theorem run_sizeOf' {P : Program} {t : TypeId} (h : 1 ≤ P.cellsOf t) (w : World) : (sizeOf t).run P w = .ok (P.cellsOf t) w := by
  cases hi : P.info? t with
  | none => simp [Program.cellsOf, hi] at h
  | some i => simp [sizeOf, typeInfo, hi, Program.cellsOf]

theorem op_indexAddr (hT : tabOk E.P E.T = true) (h : Good w0 M c0 n0 c N st a) (hd : ∀ n, o.dst = some n → n < N) {t : TypeId} {x i : Operand} (ho : o.op = .indexAddr t x i)
    (hk : exOp E call n0 o st K = true) : StillTo E w0 M c0 n0 N c a o K := by
  unfold exOp at hk
  simp only [ho] at hk
  have hv := ev_ok (E := E) h 2 x
  have hiv := ev_ok (E := E) h 3 i
  split at hk
  · rename_i e k n hu hi
    rw [hi] at hiv
    obtain ⟨hiv, _⟩ := int_of hiv
    split at hk
    · rename_i d d' b r hcd hcd' hia
      split at hk
      · rename_i hdd
        simp only [decide_eq_true_eq] at hdd
        subst hdd
        obtain ⟨hb, hk⟩ := grd_ok hk
        rw [← h.b] at hia hcd
        obtain ⟨_, hsz, _⟩ := tab_ok hT hcd'
        obtain ⟨ad, m, cap, u, h1, h2, h3, h4, h5⟩ := iaddr_ok h.own hv hia hb (s := E.P.cellsOf e) (fun d2 hr => by
          rw [hcd] at hr
          cases hr
          exact hsz.symm)
        refine done_pure h hd h5 ?_ hk
        subst h4
        intro w
        simp [execOp, ho, h1, hiv, Instr.indexAt, asIntOf, run_underlying hu, h2, h3]
        simp [run_sizeOf' (show 1 ≤ E.P.cellsOf e by rw [hsz]; exact size_pos _)]
      · cases hk
    · cases hk
  · cases hk

/-! numbers -/
theorem wrap_wf (k : IntKind) (n : Int) : (Lit.int k (k.wrap n)).wf = true := by
  cases k <;> simp [Lit.wf, IntKind.wrap, IntKind.min, IntKind.max, IntKind.bits, IntKind.signed] <;> (try split) <;> omega

theorem wf_iff (k : IntKind) (n : Int) : (Lit.int k n).wf = true ↔ k.min ≤ n ∧ n ≤ k.max := by
  simp [Lit.wf]

theorem min_le_zero (k : IntKind) : k.min ≤ 0 := by cases k <;> decide
theorem zero_le_max (k : IntKind) : 0 ≤ k.max := by cases k <;> decide

theorem wf_tmod {k : IntKind} {a b : Int} (h : (Lit.int k a).wf = true) : (Lit.int k (a.tmod b)).wf = true := by
  rw [wf_iff] at *
  have h1 : (a.tmod b).natAbs ≤ a.natAbs := by rw [Int.natAbs_tmod]; exact Nat.mod_le _ _
  have hm := min_le_zero k
  have hM := zero_le_max k
  by_cases ha : 0 ≤ a
  · have := Int.tmod_nonneg b ha
    omega
  · have h2 : 0 ≤ (-a).tmod b := Int.tmod_nonneg b (by omega)
    rw [Int.neg_tmod] at h2
    omega

theorem wf_fdiv {k : IntKind} {a : Int} (n : Nat) (h : (Lit.int k a).wf = true) : (Lit.int k (a.fdiv (2 ^ n))).wf = true := by
  rw [wf_iff] at *
  have hm := min_le_zero k
  have hM := zero_le_max k
  have hp : (0 : Int) < 2 ^ n := Int.pow_pos (by decide)
  rw [Int.fdiv_eq_ediv_of_nonneg _ (by omega)]
  by_cases ha : 0 ≤ a
  · have h1 := Int.ediv_le_self (2 ^ n) ha
    have h2 := Int.ediv_nonneg ha (by omega : (0 : Int) ≤ 2 ^ n)
    omega
  · have h1 : a / 2 ^ n < 0 := Int.ediv_neg_of_neg_of_pos (by omega) hp
    have h2 : a ≤ a / 2 ^ n := by
      rw [Int.le_ediv_iff_mul_le hp]
      have : a * 2 ^ n ≤ a * 1 := Int.mul_le_mul_of_nonpos_left (by omega) (by omega)
      omega
    omega

/-- Ints. -/
theorem bin_int {P : Program} (w : World) (t : TypeId) (op : BinOp) (X Y : Operand) (k k' : IntKind) (a b : Int) :
    (do eqGuard op t X Y (.int k a) (.int k' b); binOp op t (.int k a) (.int k' b) : Sem Value).run P w = (binOp op t (.int k a) (.int k' b)).run P w := by
  unfold eqGuard
  cases op <;> simp

theorem str_of {c : Cx} {v : Value} {s : List UInt8} (hv : VRel c (.one (.str s)) v) : ∃ q, v = .string q ∧ q.data.toList = s ∧ q.size = s.length ∧ q.size ≤ maxLen := by
  cases hv with
  | one h => cases h with | str h => exact ⟨_, rfl, rfl, by simp, h⟩

theorem size_append_bytes (a b : ByteArray) : (a ++ b).size = a.size + b.size := ByteArray.size_append ..

theorem bool_of' {c : Cx} {v : Value} {b : Bool} (hv : VRel c (.one (.bool b)) v) : v = .bool b := by
  cases hv with
  | one h => cases h; rfl

/-- The cells of a value. -/
def Vals (P : Program) (c : Cx) (t : TypeId) (u : Value) (l : List AC) : Prop := (aggTy P t = some true ∧ VRel c (.agg l) u) ∨ (aggTy P t = some false ∧ ∃ x, l = [x] ∧ CRel c x u)

theorem equal_int {P : Program} {t : TypeId} {k k' : IntKind} (h : P.underlying t = some (.int k')) (D : Nat) (a b : Int) (w : World) : (Op.equalIn (D + 1) t (.int k a) (.int k b)).run P w = .ok (a == b) w := run_equalIn_int w D t k k' a b h
theorem equal_bool {P : Program} {t : TypeId} (h : P.underlying t = some .bool) (D : Nat) (a b : Bool) (w : World) : (Op.equalIn (D + 1) t (.bool a) (.bool b)).run P w = .ok (a == b) w := run_equalIn_bool' w D t a b h
theorem beq_bytes (a b : ByteArray) : (a == b) = (a.data.toList == b.data.toList) := by
  rw [beq_toListBytes, ByteArray.toList_eq, ByteArray.toList_eq]
theorem equal_str {P : Program} {t : TypeId} (h : P.underlying t = some .string) (D : Nat) (a b : ByteArray) (w : World) : (Op.equalIn (D + 1) t (.string a) (.string b)).run P w = .ok (a.data.toList == b.data.toList) w := by
  rw [run_equalIn_string w D t a b h, ByteArray.toList_eq, ByteArray.toList_eq]

theorem eqIn_agg {P : Program} {d : Nat} {t : TypeId} {l m : List AC} {b : Bool} (h : eqIn P (d + 1) t l m = some b) : (∃ fs, P.underlying t = some (.struct fs)) ∨ (aggTy P t = some false ∧ ∃ x y, l = [x] ∧ m = [y]) := by
  unfold eqIn at h
  split at h
  · rename_i hu; split at h
    · exact .inr ⟨by simp [aggTy, hu], _, _, rfl, rfl⟩
    · cases h
  · rename_i hu; split at h
    · exact .inr ⟨by simp [aggTy, hu], _, _, rfl, rfl⟩
    · cases h
  · rename_i hu; split at h
    · exact .inr ⟨by simp [aggTy, hu], _, _, rfl, rfl⟩
    · cases h
  · rename_i fs hu; exact .inl ⟨fs, hu⟩
  · cases h

theorem part_vals {P : Program} {c : Cx} {t : TypeId} {xs : Array Value} {l : List AC} {o : Nat} (hr : VRel c (.agg l) (.agg xs))
    (h : (∃ fs, P.underlying t = some (.struct fs)) ∨ (aggTy P t = some false ∧ ∃ x, ((l.drop o).take (P.cellsOf t)) = [x])) :
    ∃ u, (∀ w, (part t xs o).run P w = .ok u w) ∧ Vals P c t u ((l.drop o).take (P.cellsOf t)) := by
  cases hr with
  | agg hs hr =>
    rcases h with ⟨fs, hu⟩ | ⟨ha, x, hx⟩
    · have ha : aggTy P t = some true := by simp [aggTy, hu]
      refine ⟨.agg (xs.extract o (o + P.cellsOf t)), fun w => by simp [part, run_isAgg ha, run_sizeOf hu], .inl ⟨ha, .agg ?_ fun i x hx => ?_⟩⟩
      · simp only [Array.size_extract, List.length_take, List.length_drop]; omega
      · have hlt := (List.getElem?_eq_some_iff.1 hx).1
        simp only [List.length_take, List.length_drop] at hlt
        rw [List.getElem?_take, if_pos (by omega), List.getElem?_drop] at hx
        have := hr _ _ hx
        rw [Array.getD_eq_getD_getElem?, Array.getElem?_extract, if_pos (by omega), ← Array.getD_eq_getD_getElem?]
        exact this
    · have h0 : ((l.drop o).take (P.cellsOf t))[0]? = some x := by rw [hx]; rfl
      have hlt := (List.getElem?_eq_some_iff.1 h0).1
      simp only [List.length_take, List.length_drop] at hlt
      rw [List.getElem?_take, if_pos (by omega), List.getElem?_drop, Nat.add_zero] at h0
      have h2 := hr _ _ h0
      have e1 := agetD (us := xs) (i := o) (by omega)
      generalize xs.getD o undef = u at h2 e1
      exact ⟨u, fun w => by simp [part, run_isAgg ha, e1], .inr ⟨ha, x, hx, h2⟩⟩

theorem eqFs_cons {eq : TypeId → List AC → List AC → Option Bool} {P : Program} {l m : List AC} {f : Field} {fs : List Field} {r : Bool} (h : eqFs eq P l m (f :: fs) = some r) :
    ∃ p q, (f.name == "_") = false ∧ eq f.type ((l.drop f.offset).take (P.cellsOf f.type)) ((m.drop f.offset).take (P.cellsOf f.type)) = some p ∧ eqFs eq P l m fs = some q ∧ r = (p && q) := by
  unfold eqFs at h
  split at h
  · rename_i a hn ha
    split at h
    · cases h; exact ⟨_, true, hn, ha, rfl, by simp⟩
    · split at h
      · rename_i b hb; cases h; exact ⟨a, b, hn, ha, hb, rfl⟩
      · cases h
  · cases h

theorem eqIn_ok {P : Program} {c : Cx} : ∀ (d : Nat) (t : TypeId) (l m : List AC) (b : Bool) (u v : Value) (D : Nat) (w : World), d ≤ D → eqIn P d t l m = some b → Vals P c t u l → Vals P c t v m → (Op.equalIn D t u v).run P w = .ok b w
  | 0, t, l, m, b, u, v, D, w, _, h, _, _ => by cases h
  | d + 1, t, l, m, b, u, v, D, w, hD, h, hu, hv => by
    obtain ⟨D, rfl⟩ : ∃ k, D = k + 1 := ⟨D - 1, by omega⟩
    have sing : ∀ {x : AC} {u : Value}, aggTy P t = some false → Vals P c t u [x] → CRel c x u := by
      intro x u ha h
      rcases h with ⟨h1, _⟩ | ⟨_, y, h1, h2⟩
      · rw [ha] at h1; cases h1
      · cases h1; exact h2
    unfold eqIn at h
    split at h
    · rename_i ht
      have ha : aggTy P t = some false := by simp [aggTy, ht]
      split at h
      · cases h
        cases sing ha hu with | bool => ?_
        cases sing ha hv with | bool => ?_
        exact equal_bool ht _ _ _ _
      · cases h
    · rename_i k0 ht
      have ha : aggTy P t = some false := by simp [aggTy, ht]
      split at h
      · split at h
        · rename_i hkk
          simp only [decide_eq_true_eq] at hkk
          subst hkk
          cases h
          cases sing ha hu with | int _ => ?_
          cases sing ha hv with | int _ => ?_
          exact equal_int ht _ _ _ _
        · cases h
      · cases h
    · rename_i ht
      have ha : aggTy P t = some false := by simp [aggTy, ht]
      split at h
      · cases h
        cases sing ha hu with | str _ => ?_
        cases sing ha hv with | str _ => ?_
        exact equal_str ht _ _ _ _
      · cases h
    · rename_i fs ht
      have ha : aggTy P t = some true := by simp [aggTy, ht]
      split at h
      · cases h
      · rename_i hst
        have hf : P.fieldsOf t = fs := by simp [Program.fieldsOf, ht]
        have hagg : ∀ {u : Value} {l : List AC}, Vals P c t u l → ∃ xs, u = .agg xs ∧ VRel c (.agg l) (.agg xs) := by
          intro u l h
          rcases h with ⟨_, h⟩ | ⟨h1, _⟩
          · cases h with | agg hs hr => exact ⟨_, rfl, .agg hs hr⟩
          · rw [ha] at h1; cases h1
        obtain ⟨xs, rfl, hx⟩ := hagg hu
        obtain ⟨ys, rfl, hy⟩ := hagg hv
        rw [run_equalIn_struct w D t xs ys (by rw [hf]; exact ht) hst, hf]
        generalize fs.toList = fl at h
        clear hf ht
        induction fl generalizing b with
        | nil => cases h; simp [Op.eqFields]
        | cons f fl ih =>
          obtain ⟨p, q, hn, hp, hq, rfl⟩ := eqFs_cons h
          obtain ⟨d, rfl⟩ : ∃ k, d = k + 1 := by
            cases d with
            | zero => cases hp
            | succ d => exact ⟨d, rfl⟩
          have hca := eqIn_agg hp
          obtain ⟨u1, hu1, hv1⟩ := part_vals (o := f.offset) (t := f.type) hx (hca.imp id fun ⟨h1, x, y, h2, h3⟩ => ⟨h1, x, h2⟩)
          obtain ⟨u2, hu2, hv2⟩ := part_vals (o := f.offset) (t := f.type) hy (hca.imp id fun ⟨h1, x, y, h2, h3⟩ => ⟨h1, y, h3⟩)
          have he := eqIn_ok (d + 1) f.type _ _ _ _ _ D w (by omega) hp hv1 hv2
          have hn' : f.name ≠ "_" := by simpa using hn
          have hih := ih q hq
          simp only [Op.eqFields, hn', ne_eq, not_false_eq_true, if_true, Sem.run_bind, hu1 w, hu2 w, he, Result.andThen_ok, Sem.run_ite]
          cases p with
          | true => simpa using hih
          | false => simp
    · cases h

theorem binA_ok {P : Program} {c : Cx} {x y r : AV} {u v : Value} {t : TypeId} {op : BinOp} {X Y : Operand} (hx : VRel c x u) (hy : VRel c y v) (h : binA P t op x y = some (true, r)) :
    ∃ z, (∀ w, (do eqGuard op t X Y u v; binOp op t u v : Sem Value).run P w = .ok z w) ∧ VRel c r z := by
  unfold binA at h
  split at h
  · rename_i k a k' b
    obtain ⟨rfl, ha⟩ := int_of hx
    obtain ⟨rfl, hb⟩ := int_of hy
    simp only [bin_int]
    split at h
    · simp only [Option.some.injEq, Prod.mk.injEq, decide_eq_true_eq] at h
      obtain ⟨h0, rfl⟩ := h
      exact ⟨_, fun w => by simp [binOp, Op.shift, show ¬ b < 0 by omega], .one (.int (wrap_wf _ _))⟩
    · simp only [Option.some.injEq, Prod.mk.injEq, decide_eq_true_eq] at h
      obtain ⟨h0, rfl⟩ := h
      exact ⟨_, fun w => by simp [binOp, Op.shift, show ¬ b < 0 by omega], .one (.int (wf_fdiv _ ha))⟩
    · split at h
      · cases h
      · rename_i hkk
        simp only [decide_eq_true_eq] at hkk
        subst hkk
        split at h <;> simp only [Option.some.injEq, Prod.mk.injEq, true_and, Bool.not_eq_true', beq_eq_false_iff_ne, reduceCtorEq] at h
        · subst h; exact ⟨_, fun w => by simp [binOp, Op.intArith], .one (.int (wrap_wf _ _))⟩
        · subst h; exact ⟨_, fun w => by simp [binOp, Op.intArith], .one (.int (wrap_wf _ _))⟩
        · subst h; exact ⟨_, fun w => by simp [binOp, Op.intArith], .one (.int (wrap_wf _ _))⟩
        · obtain ⟨h0, rfl⟩ := h; exact ⟨_, fun w => by simp [binOp, Op.intDiv, h0], .one (.int (wrap_wf _ _))⟩
        · obtain ⟨h0, rfl⟩ := h; exact ⟨_, fun w => by simp [binOp, Op.intDiv, h0], .one (.int (wf_tmod ha))⟩
        · subst h; exact ⟨_, fun w => by simp [binOp, Op.intBits], .one (.int (wrap_wf _ _))⟩
        · subst h; exact ⟨_, fun w => by simp [binOp, Op.intBits], .one (.int (wrap_wf _ _))⟩
        · subst h; exact ⟨_, fun w => by simp [binOp, Op.intBits], .one (.int (wrap_wf _ _))⟩
        · subst h; exact ⟨_, fun w => by simp [binOp, Op.intCmp], .one .bool⟩
        · subst h; exact ⟨_, fun w => by simp [binOp, Op.intCmp], .one .bool⟩
        · subst h; exact ⟨_, fun w => by simp [binOp, Op.intCmp], .one .bool⟩
        · subst h; exact ⟨_, fun w => by simp [binOp, Op.intCmp], .one .bool⟩
        · subst h; exact ⟨_, fun w => by simp [binOp, Op.intCmp], .one .bool⟩
        · subst h; exact ⟨_, fun w => by simp [binOp, Op.intCmp], .one .bool⟩
  · rename_i a b
    obtain ⟨a, rfl, rfl, la, ha⟩ := str_of hx
    obtain ⟨b, rfl, rfl, lb, hb⟩ := str_of hy
    split at h <;> simp only [Option.some.injEq, Prod.mk.injEq, true_and, decide_eq_true_eq, reduceCtorEq] at h
    · obtain ⟨h0, rfl⟩ := h
      refine ⟨.string (a ++ b), ?_, ?_⟩
      · have : ¬ (9223372036854775807 : Int) < ((a.size : Int) + (b.size : Int)) := by omega
        intro w
        simp [eqGuard, binOp, Op.stringOp, this]
      · have e : a.data.toList ++ b.data.toList = (a ++ b).data.toList := by simp
        rw [e]
        exact .one (.str (by rw [size_append_bytes]; unfold maxLen; omega))
    · subst h; exact ⟨.bool (a.toList == b.toList), fun w => by simp [eqGuard, binOp, Op.stringOp], by rw [ByteArray.toList_eq, ByteArray.toList_eq]; exact .one .bool⟩
    · subst h; exact ⟨.bool (!(a.toList == b.toList)), fun w => by simp [eqGuard, binOp, Op.stringOp], by rw [ByteArray.toList_eq, ByteArray.toList_eq]; exact .one .bool⟩
  · rename_i a b
    obtain rfl := bool_of' hx
    obtain rfl := bool_of' hy
    split at h <;> simp only [Option.some.injEq, Prod.mk.injEq, true_and, reduceCtorEq] at h
    · rename_i hu; subst h
      exact ⟨.bool (a == b), fun w => by simp only [eqGuard, binOp, Op.equal]; simp [equal_bool hu, Op.maxDepth], .one .bool⟩
    · rename_i hu; subst h
      exact ⟨.bool (!(a == b)), fun w => by simp only [eqGuard, binOp, Op.equal]; simp [equal_bool hu, Op.maxDepth], .one .bool⟩
  · rename_i l m
    split at h
    · rename_i hg ha
      have hx' := hx
      have hy' := hy
      cases hx with
      | @agg _ xs h1 h2 =>
      cases hy with
      | @agg _ ys h3 h4 =>
      have key : ∀ b, eqIn P 8 t l m = some b → ∀ w, (Op.equalIn 10000 t (.agg xs) (.agg ys)).run P w = .ok b w := fun b hb w =>
        eqIn_ok 8 t l m b _ _ 10000 w (by omega) hb (.inl ⟨ha, hx'⟩) (.inl ⟨ha, hy'⟩)
      split at h
      · rename_i b hb
        cases h
        exact ⟨.bool b, fun w => by simp [run_eqGuard_agg w _ t X Y xs ys hg, run_eql_struct w t xs ys, key b hb], .one .bool⟩
      · rename_i b hb
        cases h
        exact ⟨.bool (!b), fun w => by simp [run_eqGuard_agg w _ t X Y xs ys hg, run_neq_struct w t xs ys, key b hb], .one .bool⟩
      · cases h
    · cases h
  · cases h

theorem op_unOp (h : Good w0 M c0 n0 c N st a) (hd : ∀ n, o.dst = some n → n < N) {op : UnOp} {xT : TypeId} {x : Operand} (ho : o.op = .unOp op xT x)
    (hk : exOp E call n0 o st K = true) : StillTo E w0 M c0 n0 N c a o K := by
  unfold exOp at hk
  simp only [ho] at hk
  have hv := ev_ok (E := E) h xT x
  split at hk
  · rename_i v hun
    unfold unA at hun
    split at hun
    · rename_i he
      rw [he] at hv
      cases hun
      obtain ⟨he, _⟩ := int_of hv
      exact done_pure h hd (.one (.int (wrap_wf _ _))) (fun w => by simp [execOp, ho, he, Op.unary, Op.intArith]) hk
    · rename_i he
      rw [he] at hv
      cases hun
      have he := bool_of' hv
      exact done_pure h hd (.one .bool) (fun w => by simp [execOp, ho, he, Op.unary]) hk
    · cases hun
  · cases hk

theorem byteAt_wf (s : List UInt8) (i : Nat) : (Lit.int .u8 (byteAt s i)).wf = true := by
  unfold byteAt
  generalize s.getD i 0 = b
  have := b.toNat_lt
  rw [wf_iff]
  simp [IntKind.min, IntKind.max, IntKind.signed, IntKind.bits]
  omega

theorem proj_plain {ct : CT} {z : AC} (hf : flatCt ct = true) (h : plainC ct z = true) : proj ct z = z := by
  cases ct <;> cases z <;> simp_all [plainC, proj, AC.toInt, AC.toBool, AC.toStr, flatCt]

theorem op_index (h : Good w0 M c0 n0 c N st a) (hd : ∀ n, o.dst = some n → n < N) {t : TypeId} {x i : Operand} (ho : o.op = .index t x i)
    (hk : exOp E call n0 o st K = true) : StillTo E w0 M c0 n0 N c a o K := by
  unfold exOp at hk
  simp only [ho] at hk
  have hv := ev_ok (E := E) h t x
  have hiv := ev_ok (E := E) h 3 i
  split at hk
  · rename_i k n hi
    rw [hi] at hiv
    obtain ⟨hiv, _⟩ := int_of hiv
    split at hk
    · rename_i b r hia
      obtain ⟨hb, hk⟩ := grd_ok hk
      subst hb
      unfold indexA at hia
      split at hia
      · rename_i s hu he
        rw [he] at hv
        obtain ⟨q, hs, rfl, hq, _⟩ := str_of hv
        simp only [Option.some.injEq, Prod.mk.injEq, Bool.and_eq_true, decide_eq_true_eq] at hia
        obtain ⟨⟨h1, h2⟩, rfl⟩ := hia
        have hsz : n.toNat < q.data.toList.length := by omega
        have e1 : q[n.toNat]? = some (q.data.toList.getD n.toNat 0) := by
          have : n.toNat < q.size := by omega
          rw [getElem?_pos q n.toNat this]
          rw [List.getD_eq_getElem?_getD, List.getElem?_eq_getElem hsz]
          rfl
        have hw := byteAt_wf q.data.toList n.toNat
        unfold byteAt at hw hk
        generalize q.data.toList.getD n.toNat 0 = bv at e1 hw hk
        exact done_pure h hd (.one (.int hw)) (fun w => by simp only [execOp, ho, hs, hiv, Instr.index, asIntOf, Sem.run_bind, Sem.run_pure, Result.andThen_ok, run_underlying hu, h1, if_true, e1]) hk
      · rename_i m e cs hu he
        rw [he] at hv
        split at hia
        · rename_i ct hct hagg
          split at hia
          · rename_i hchk
            simp only [Bool.and_eq_true] at hchk
            obtain ⟨⟨⟨hl, hc1⟩, hfl⟩, hpl⟩ := hchk
            have hl := Nat.eq_of_beq_eq_true hl
            have hc1 := Nat.eq_of_beq_eq_true hc1
            simp only [Option.some.injEq, Prod.mk.injEq, Bool.and_eq_true, decide_eq_true_eq] at hia
            obtain ⟨⟨h1, h2⟩, rfl⟩ := hia
            generalize hg : a.eval x = vx at hv
            cases hv with
            | @agg _ us hs hr =>
              have hlt : n.toNat < cs.length := by omega
              have hcell := getD_some (l := cs) (i := n.toNat) .any hlt
              have hrel := hr _ _ hcell
              have hpc : plainC ct (cs.getD n.toNat .any) = true := by
                have : ∀ (k : Nat) (l : List AC) (i : Nat) (x : AC), plainL (repCells [ct] k) l = true → l[i]? = some x → plainC ct x = true := by
                  intro k
                  induction k with
                  | zero => intro l i x h hx; cases l <;> simp [repCells, plainL] at h hx
                  | succ k ih =>
                    intro l i x h hx
                    cases l with
                    | nil => simp at hx
                    | cons y l =>
                      simp [repCells, plainL] at h
                      cases i with
                      | zero => simp at hx; subst hx; exact h.1
                      | succ i => exact ih l i x h.2 (by simpa using hx)
                exact this _ _ _ _ hpl hcell
              have e2 : proj ct (cs.getD n.toNat .any) = cs.getD n.toNat .any := by
                generalize cs.getD n.toNat .any = z at hpc
                exact proj_plain hfl hpc
              have e1 := agetD (us := us) (i := n.toNat) (by omega)
              generalize us.getD n.toNat undef = u at hrel e1
              rw [e2] at hk
              refine done_pure h hd (.one hrel) ?_ hk
              intro w
              simp [execOp, ho, hg, hiv, Instr.index, asIntOf, run_underlying hu, h1, h2, part, run_isAgg hagg, run_sizeOf' (show 1 ≤ E.P.cellsOf e by omega), hc1, e1]
          · cases hia
        · cases hia
      · cases hia
    · cases hk
  · cases hk

/-! slices -/
theorem bound_of {P : Program} {c : Cx} {v : Value} {k : IntKind} {n : Int} {y : Nat} (code : BoundsCode) (hv : VRel c (.one (.int k n)) v) (h0 : 0 ≤ n) (h1 : n ≤ (y : Int)) : (Instr.sliceBound v y code).run P c.w = .ok n.toNat c.w := by
  obtain ⟨rfl, _⟩ := int_of hv
  simp [Instr.sliceBound, asIntOf, h0, h1]

/-- Bounds that hold: k is how far a given high may go, and where it ends without one. -/
theorem bnd_ok (h : Good w0 M c0 n0 c N st a) {lo hi : Option Operand} {k len cap : Nat} {l hh : Nat} {isS : Bool}
    (hb : bnd k (optEv E st lo) (optEv E st hi) = some (true, l, hh)) (hk : hi = none → k = len) (hcap : k ≤ cap) :
    (Instr.sliceBounds isS len cap (lo.map a.eval) (hi.map a.eval) none).run E.P c.w = .ok (l, hh, cap) c.w ∧ l ≤ hh ∧ hh ≤ k := by
  unfold bnd at hb
  split at hb
  · rename_i b1 hh' h1
    split at hb
    · rename_i b2 l' h2
      simp only [Option.some.injEq, Prod.mk.injEq, Bool.and_eq_true] at hb
      obtain ⟨⟨rfl, rfl⟩, rfl, rfl⟩ := hb
      have H : ∀ (code : BoundsCode), ((match hi.map a.eval with | some v => Instr.sliceBound v cap code | none => pure len : Sem Nat).run E.P c.w = .ok hh' c.w) ∧ hh' ≤ k := by
        intro code
        cases hi with
        | none =>
          simp only [optEv, hiOf, Option.some.injEq, Prod.mk.injEq, true_and] at h1
          subst h1
          exact ⟨by simp [hk rfl], Nat.le_refl _⟩
        | some hi =>
          have hv := ev_ok (E := E) h 2 hi
          simp only [optEv] at h1
          unfold hiOf at h1
          split at h1
          · rename_i he; cases he
          · rename_i he
            simp only [Option.some.injEq] at he
            rw [he] at hv
            simp only [Option.some.injEq, Prod.mk.injEq, Bool.and_eq_true, decide_eq_true_eq] at h1
            obtain ⟨⟨h3, h4⟩, rfl⟩ := h1
            exact ⟨bound_of code hv h3 (by omega), by omega⟩
          · cases h1
      have L : ∀ (code : BoundsCode), ((match lo.map a.eval with | some v => Instr.sliceBound v hh' code | none => pure 0 : Sem Nat).run E.P c.w = .ok l' c.w) ∧ l' ≤ hh' := by
        intro code
        cases lo with
        | none =>
          simp only [optEv, loOf, Option.some.injEq, Prod.mk.injEq, true_and] at h2
          subst h2
          exact ⟨by simp, Nat.zero_le _⟩
        | some lo =>
          have hv := ev_ok (E := E) h 2 lo
          simp only [optEv] at h2
          unfold loOf at h2
          split at h2
          · rename_i he; cases he
          · rename_i he
            simp only [Option.some.injEq] at he
            rw [he] at hv
            simp only [Option.some.injEq, Prod.mk.injEq, Bool.and_eq_true, decide_eq_true_eq] at h2
            obtain ⟨⟨h3, h4⟩, rfl⟩ := h2
            exact ⟨bound_of code hv h3 h4, by omega⟩
          · cases h2
      refine ⟨?_, (L .index).2, (H .index).2⟩
      have H1 := (H (if isS = true then .sliceAcap else .sliceAlen)).1
      have L1 := (L .sliceB).1
      have L2 : ∀ (x : Nat), x = hh' → ((match lo.map a.eval with | some v => Instr.sliceBound v x .sliceB | none => pure 0 : Sem Nat).run E.P c.w = .ok l' c.w) := fun x e => by subst e; exact L1
      cases hi with
      | none =>
        have e : len = hh' := by simpa using H1
        have e2 := L2 len e
        subst e
        cases lo <;> simp only [Instr.sliceBounds, Option.map_none, Option.map_some, Sem.run_bind, Sem.run_pure, Result.andThen_ok, Option.isSome_none, Bool.false_eq_true, if_false] at e2 ⊢
        · simp only [Result.ok.injEq, and_true] at e2; subst e2; rfl
        · rw [e2]; rfl
      | some hi =>
        cases lo <;> simp only [Instr.sliceBounds, Option.map_none, Option.map_some, Sem.run_bind, Sem.run_pure, Result.andThen_ok, Option.isSome_none, Bool.false_eq_true, if_false] at H1 L1 ⊢ <;> rw [H1] <;> simp only [Result.andThen_ok]
        · simp only [Result.ok.injEq, and_true] at L1; subst L1; rfl
        · rw [L1]; rfl
    · cases hb
  · cases hb

theorem slice_rows_rel {c : Cx} {d : Cd} {l : List (den d)} {v : Value} (hv : CRel c (.dat d l) v) :
    ∃ a n cap, v = .slice a n cap ∧ n = l.length ∧ n ≤ cap ∧ cap ≤ maxLen ∧ (a = none → cap = 0) := by
  cases hv with
  | emp h h2 => exact ⟨_, _, _, rfl, rfl, Nat.zero_le _, h, h2⟩
  | dat vals hl hc _ _ _ _ => exact ⟨_, _, _, rfl, rfl, hl, hc, fun h => by cases h⟩

theorem elem_td {d : Cd} {l : List (den d)} {lo hh i : Nat} (h : i < ((l.take hh).drop lo).length) : elem d ((l.take hh).drop lo) i = elem d l (lo + i) ∧ lo + i < l.length := by
  have hl : lo + i < l.length := by simp only [List.length_drop, List.length_take] at h; omega
  refine ⟨?_, hl⟩
  have h1 := elem_some h
  have h2 := elem_some hl
  rw [List.getElem?_drop, List.getElem?_take] at h1
  split at h1
  · rw [h2] at h1; exact (Option.some.inj h1).symm
  · cases h1

theorem slice_dat {c : Cx} {d : Cd} {rows : List (den d)} {a : Option Addr} {n cap l hh : Nat} (hv : CRel c (.dat d rows) (.slice a n cap)) (h1 : l ≤ hh) (h2 : hh ≤ rows.length) :
    CRel c (.dat d ((rows.take hh).drop l)) (.slice (if cap = l then a else a.map (·.add (l * size d))) (hh - l) (cap - l)) := by
  by_cases he : l = hh
  · subst he
    have e1 : (rows.take l).drop l = [] := by simp
    rw [e1, Nat.sub_self]
    obtain ⟨a', n', cap', h3, h4, h5, h6, h7⟩ := slice_rows_rel hv
    cases h3
    exact .emp (by omega) (fun h => by
      split at h
      · have := h7 h; omega
      · cases a with
        | none => have := h7 rfl; omega
        | some a => cases h)
  · have hlen : ((rows.take hh).drop l).length = hh - l := by simp only [List.length_drop, List.length_take]; omega
    cases hv with
    | emp _ _ => simp at h2; omega
    | @dat _ _ a cap vals hl hc hsp hI hcell hr =>
      rw [if_neg (by omega), ← hlen]
      obtain ⟨b, off, sp⟩ := a
      simp only at hsp
      subst hsp
      rw [Option.map_some, Addr.add_lit]
      refine .dat (fun i o => vals (l + i) o) (by omega) (by omega) rfl hI ?_ ?_
      · intro i o hx hy
        obtain ⟨_, hx⟩ := elem_td hx
        have := hcell _ _ hx hy
        rw [← this, Nat.add_mul]
        congr 2
        simp only [Addr.mk.injEq, true_and, and_true]
        omega
      · intro i o x hx hy
        obtain ⟨e, hx⟩ := elem_td hx
        rw [e] at hy
        exact hr _ _ _ hx hy

theorem op_slice (hT : tabOk E.P E.T = true) (h : Good w0 M c0 n0 c N st a) (hd : ∀ n, o.dst = some n → n < N) {t : TypeId} {x : Operand} {lo hi : Option Operand} (ho : o.op = .slice t x lo hi none)
    (hk : exOp E call n0 o st K = true) : StillTo E w0 M c0 n0 N c a o K := by
  unfold exOp at hk
  simp only [ho] at hk
  have hv := ev_ok (E := E) h 2 x
  split at hk
  · rename_i b r hty hsl
    obtain ⟨hb, hk⟩ := grd_ok hk
    subst hb
    rw [← h.b] at hty hsl
    have hst : ∀ {s : List UInt8}, ev E 2 st x = .one (.str s) → E.P.underlying t = some .string := by
      intro s he
      unfold sliceTy at hty
      split at hty
      · assumption
      · rw [he] at hty; simp [elemC, rowsV] at hty
      · cases hty
    have hsl' : ∀ {z : AC} {d : Cd} {rs : List (den d)}, ev E 2 st x = .one z → rowsV c.B z = some ⟨d, rs⟩ → ∃ e, E.P.underlying t = some (.slice e) ∧ E.P.cellsOf e = size d := by
      intro z e rs he hr
      unfold sliceTy at hty
      split at hty
      · rw [he] at hty; cases z <;> simp [rowsV] at hr hty
      · rename_i e' hu
        rw [he] at hty
        simp only [elemC, hr] at hty
        split at hty
        · rename_i d1 d2 h1 h2
          cases h1
          simp only [decide_eq_true_eq] at hty
          subst hty
          exact ⟨e', hu, (tab_ok hT h2).2.1⟩
        · cases hty
      · cases hty
    have fin : ∀ {d : Cd} {ad : Option Addr} {n cap l hh : Nat}, (∃ e, E.P.underlying t = some (.slice e) ∧ E.P.cellsOf e = size d) → a.eval x = .slice ad n cap →
        (Instr.sliceBounds true n cap (lo.map a.eval) (hi.map a.eval) none).run E.P c.w = .ok (l, hh, cap) c.w →
        (execOp a.eval o).run E.P c.w = .ok (.value (.slice (if cap = l then ad else ad.map (·.add (l * size d))) (hh - l) (cap - l))) c.w := by
      intro d ad n cap l hh ⟨e, hu, hs⟩ hav hbd
      simp [execOp, ho, Instr.sliceAt, run_underlying hu, Instr.slice, hav, hbd, run_sizeOf' (show 1 ≤ E.P.cellsOf e by rw [hs]; exact size_pos d), hs]
    unfold sliceA at hsl
    split at hsl
    · rename_i s he
      have hu := hst he
      rw [he] at hv
      obtain ⟨q, hs, rfl, hq, hsm⟩ := str_of hv
      split at hsl
      · rename_i cc l hh hbd
        cases hsl
        obtain ⟨h1, h2, h3⟩ := bnd_ok (isS := false) (len := q.data.toList.length) (cap := q.data.toList.length) h hbd (fun _ => rfl) (Nat.le_refl _)
        have e : (q.data.toList.take hh).drop l = (q.extract l hh).data.toList := by simp [List.extract_eq_take_drop, List.drop_take]
        rw [e] at hk
        refine done_still h hd (.one (.str ?_)) (by simp [pureO, pureOp, ho]) ?_ hk
        · have : (q.extract l hh).size ≤ q.size := by rw [ByteArray.size_extract]; omega
          omega
        · rw [← hq] at h1
          simp [execOp, ho, Instr.sliceAt, run_underlying hu, Instr.slice, hs, h1]
      · cases hsl
    · rename_i d rows he
      have hu := hsl' he rfl
      rw [he] at hv
      split at hsl
      · rename_i cc l hh hbd
        cases hsl
        generalize hg : a.eval x = vx at hv
        cases hv with
        | one hv =>
          obtain ⟨ad, n, cap, rfl, rfl, h5, h6, h7⟩ := slice_rows_rel hv
          obtain ⟨h1, h2, h3⟩ := bnd_ok (isS := true) (len := rows.length) (cap := cap) h hbd (fun _ => rfl) h5
          exact done_still h hd (.one (slice_dat hv h2 h3)) (by simp [pureO, pureOp, ho]) (fin hu hg h1) hk
      · cases hsl
    · rename_i j he
      rw [he] at hv
      split at hsl
      · rename_i t' d rs hB
        have hu := hsl' he (by simp only [rowsV, hB]; rfl)
        split at hsl
        · rename_i cc l hh hbd
          cases hsl
          generalize hg : a.eval x = vx at hv
          cases hv with
          | one hv =>
            cases hv with
            | @own _ b' t2 _ rs2 cap hB2 hφ hl hc hcap =>
              rw [hB] at hB2
              cases hB2
              obtain ⟨h1, h2, h3⟩ := bnd_ok (isS := true) (len := rs.length) (cap := cap) h hbd (fun _ => rfl) hl
              refine done_still h hd (.one ?_) (by simp [pureO, pureOp, ho]) (fin hu hg h1) hk
              by_cases he : cap = l
              · rw [if_pos he]
                have e1 : hh = l := by omega
                subst e1
                rw [Nat.sub_self, he, Nat.sub_self]
                by_cases h0 : hh = 0
                · subst h0
                  have := CRel.sub (c := c) (off := 0) (n := 0) (cap := 0) hB hφ (by omega) (by omega) (by omega) (by subst he; simpa using hcap)
                  simpa using this
                · exact .subE hB (by omega) (fun e => absurd e h0)
              · rw [if_neg he, Option.map_some, Addr.add_lit, Nat.zero_add]
                exact .sub hB hφ (by omega) (by omega) (by omega) (by rw [show l + (cap - l) = cap by omega]; exact hcap)
            | @ownN _ t2 _ ad hB2 hφ =>
              rw [hB] at hB2
              cases hB2
              obtain ⟨h1, h2, h3⟩ := bnd_ok (isS := true) (len := 0) (cap := 0) h hbd (fun _ => rfl) (Nat.le_refl _)
              have e1 : hh = 0 := by simpa using h3
              subst e1
              have e2 : l = 0 := by omega
              subst e2
              exact done_still h hd (.one (.subE hB (Nat.zero_le _) (fun _ => hφ))) (by simp [pureO, pureOp, ho]) (by simpa using fin hu hg h1) hk
        · cases hsl
      · cases hsl
    · rename_i j n he
      rw [he] at hv
      split at hsl
      · rename_i t' d rs hB
        have hu := hsl' he (by simp only [rowsV, hB]; rfl)
        have main : ∀ {k : Nat} {l hh : Nat}, bnd k (optEv E st lo) (optEv E st hi) = some (true, l, hh) → k ≤ rs.length → (hi = none → k = n) → K (setT st o.dst (.one (.sub j l (hh - l)))) = true → StillTo E w0 M c0 n0 N c a o K := by
          intro k l hh hbd hkr hkn hk
          generalize hg : a.eval x = vx at hv
          cases hv with
          | one hv =>
            cases hv with
            | @sub _ b' t2 _ rs2 _ _ cap hB2 hφ hl hl2 hc hcap =>
              rw [hB] at hB2
              cases hB2
              rw [Nat.zero_mul] at hg
              simp only [Nat.zero_add] at hl hl2 hc hcap
              obtain ⟨h1, h2, h3⟩ := bnd_ok (isS := true) (len := n) (cap := cap) h hbd hkn (by omega)
              refine done_still h hd (.one ?_) (by simp [pureO, pureOp, ho]) (fin hu hg h1) hk
              by_cases he : cap = l
              · rw [if_pos he]
                have e1 : hh = l := by omega
                subst e1
                rw [Nat.sub_self, he, Nat.sub_self]
                by_cases h0 : hh = 0
                · subst h0
                  have := CRel.sub (c := c) (off := 0) (n := 0) (cap := 0) hB hφ (by omega) (by omega) (by omega) (by subst he; simpa using hcap)
                  simpa using this
                · exact .subE hB (by omega) (fun e => absurd e h0)
              · rw [if_neg he, Option.map_some, Addr.add_lit, Nat.zero_add]
                exact .sub hB hφ (by omega) (by omega) (by omega) (by rw [show l + (cap - l) = cap by omega]; exact hcap)
            | @subE _ t2 _ rs2 _ ad hB2 hl ha =>
              rw [hB] at hB2
              cases hB2
              have hφ := ha rfl
              have hrs : rs = [] := by
                have := h.own.blk _ _ hB
                cases this with
                | rows h1 _ _ _ _ _ => rw [hφ] at h1; cases h1
                | none _ => rfl
              subst hrs
              have hk0 : k = 0 := by simpa using hkr
              subst hk0
              obtain ⟨h1, h2, h3⟩ := bnd_ok (isS := true) (len := 0) (cap := 0) h hbd (fun _ => rfl) (Nat.le_refl _)
              have e1 : hh = 0 := by omega
              subst e1
              have e2 : l = 0 := by omega
              subst e2
              exact done_still h hd (.one (.subE hB (Nat.zero_le _) (fun _ => hφ))) (by simp [pureO, pureOp, ho]) (by simpa using fin hu hg h1) hk
        split at hsl
        · rename_i hi' hhi
          split at hsl
          · rename_i cc l hh hbd
            cases hsl
            exact main hbd (Nat.le_refl _) (fun e => by subst e; cases hhi) hk
          · cases hsl
        · rename_i hhi
          split at hsl
          · rename_i cc l hh hbd
            cases hsl
            have hn : n ≤ rs.length := by
              generalize hg : a.eval x = vx at hv
              clear hg
              cases hv with
              | one hv =>
                cases hv with
                | sub hB2 _ hl _ _ _ => rw [hB] at hB2; cases hB2; omega
                | subE hB2 _ _ => exact Nat.zero_le _
            exact main hbd hn (fun _ => rfl) hk
          · cases hsl
      · cases hsl
    · cases hsl
  · cases hk

theorem caps_ok {c : Cx} : ∀ (xs : List AV) (vs : List Value) (cs : List AC), xs.length = vs.length → (∀ (i : Nat) (x : AV), xs[i]? = some x → VRel c x (vs.getD i undef)) → capsOf xs = some cs →
    cs.length = vs.length ∧ ∀ (i : Nat) (x : AC), cs[i]? = some x → CRel c x (vs.getD i undef)
  | [], [], cs, _, _, h => by cases h; exact ⟨rfl, fun i x h => by simp at h⟩
  | x :: xs, v :: vs, cs, hl, hr, h => by
    have step : ∀ z s, x = .one z → capsOf xs = some s → cs = z :: s → cs.length = (v :: vs).length ∧ ∀ (i : Nat) (x : AC), cs[i]? = some x → CRel c x ((v :: vs).getD i undef) := by
      intro z s hx hs e
      subst e
      obtain ⟨h1, h2⟩ := caps_ok xs vs s (by simpa using hl) (fun i x hx => by have := hr (i + 1) x (by simpa using hx); simpa using this) hs
      refine ⟨by simp [h1], fun i y hy => ?_⟩
      cases i with
      | zero =>
        simp at hy
        subst hy
        have := hr 0 x rfl
        rw [hx] at this
        cases this with
        | one h => simpa using h
      | succ i => exact h2 i y (by simpa using hy)
    unfold capsOf at h
    split at h
    · rename_i he; cases he
    · cases h
    · rename_i z r hne he
      cases he
      split at h
      · rename_i s hs
        cases h
        exact step _ _ rfl hs rfl
      · cases h
    · cases h

theorem op_makeFunc (h : Good w0 M c0 n0 c N st a) (hd : ∀ n, o.dst = some n → n < N) {fn : Fn} {first cap : Array Operand} (ho : o.op = .makeFunc fn first cap)
    (hk : exOp E call n0 o st K = true) : StillTo E w0 M c0 n0 N c a o K := by
  unfold exOp at hk
  simp only [ho] at hk
  split at hk
  · rename_i f cs hf hcs
    · skip
      obtain ⟨h1, h2⟩ := caps_ok (c := c) _ (cap.toList.map a.eval) _ (by simp) (fun i x hx => by
        rw [List.getElem?_map] at hx
        cases hi : cap.toList[i]? with
        | none => rw [hi] at hx; cases hx
        | some z =>
          rw [hi] at hx
          cases hx
          rw [List.getD_eq_getElem?_getD, List.getElem?_map, hi]
          exact ev_ok (E := E) h 2 z) hcs
      have hfirst : first = #[] := by simpa using hf
      refine done_still h hd (.one (.fn (vs := cap.map a.eval) (by simpa using h1.symm) (fun i x hx => by have := h2 i x hx; simpa [Array.getD_eq_getD_getElem?, List.getD_eq_getElem?_getD] using this))) (by simp [pureO, pureOp, ho]) ?_ hk
      simp [execOp, ho, Instr.makeFunc, hfirst]
  · cases hk

theorem rowsV_rel {w0 : World} {M : Nat → Prop} {c : Cx} (hO : Own w0 M c) {x : AC} {v : Value} {d : Cd} {rs : List (den d)} (hv : CRel c x v) (h : rowsV c.B x = some ⟨d, rs⟩) :
    ∃ a n cap, v = .slice a n cap ∧ n = rs.length ∧ n ≤ cap ∧ cap ≤ maxLen ∧ (rs ≠ [] → ∃ b off, a = some ⟨b, off, none⟩ ∧
      ∀ (i o : Nat) (z : AC), i < rs.length → (enc d (elem d rs i))[o]? = some z → ∃ u, c.w.cell? ⟨b, off + (i * size d + o), none⟩ = some u ∧ CRel c z u) := by
  cases x with
  | dat t' r =>
    cases h
    cases hv with
    | emp h h2 => exact ⟨_, _, _, rfl, rfl, Nat.zero_le _, h, fun h => absurd rfl h⟩
    | @dat _ _ a cap vals hl hc hs hI hcell hr =>
      obtain ⟨b, off, sp⟩ := a
      simp only at hs
      subst hs
      exact ⟨_, _, _, rfl, rfl, hl, hc, fun _ => ⟨b, off, rfl, fun i o z hx hy => ⟨_, hcell _ _ hx (enc_lt hy), hr _ _ _ hx hy⟩⟩⟩
  | nilS t' =>
    cases h
    cases hv
    exact ⟨_, _, _, rfl, rfl, Nat.le_refl _, Nat.zero_le _, fun h => absurd rfl h⟩
  | own j =>
    simp only [rowsV] at h
    split at h
    · rename_i t' d' rs' hB
      cases h
      cases hv with
      | @own _ b t2 _ rs2 cap hB2 hφ hl hc hcap =>
        rw [hB] at hB2
        cases hB2
        refine ⟨_, _, _, rfl, rfl, hl, hc, fun hne => ⟨b, 0, rfl, fun i o z hx hy => ?_⟩⟩
        have := hO.blk _ _ hB
        cases this with
        | @rows _ _ _ b2 cap2 cur h1 h2 h3 h4 h5 h8 =>
          rw [h1] at hφ
          cases hφ
          have := h8 _ _ _ hx hy
          have ho := enc_lt hy
          have h9 : (i + 1) * size d ≤ cap2 * size d := Nat.mul_le_mul_right _ (by omega)
          rw [Nat.add_mul] at h9
          have e1 := agetD (us := cur) (i := i * size d + o) (by omega)
          refine ⟨_, ?_, this⟩
          rw [cell_of_row _ _ _ _ _ _ h2, Nat.zero_add]
          exact e1
        | none h1 => exact absurd rfl hne
      | @ownN _ t2 _ ad hB2 hφ =>
        rw [hB] at hB2
        cases hB2
        exact ⟨_, _, _, rfl, rfl, Nat.le_refl _, Nat.zero_le _, fun h => absurd rfl h⟩
    · cases h
  | sub j off n =>
    simp only [rowsV] at h
    split at h
    · rename_i t' d' rs' hB
      cases h
      cases hv with
      | @sub _ b t2 _ rs2 _ _ cap hB2 hφ hl hl2 hc hcap =>
        rw [hB] at hB2
        cases hB2
        have hlen : ((rs'.drop off).take n).length = n := by simp only [List.length_take, List.length_drop]; omega
        have hblk := hO.blk _ _ hB
        refine ⟨_, _, _, rfl, hlen.symm, by omega, by omega, fun hne => ⟨b, off * size d, rfl, fun i o z hx hy => ?_⟩⟩
        rw [hlen] at hx
        have he : elem d ((rs'.drop off).take n) i = elem d rs' (off + i) := by
          have h1 := elem_some (d := d) (l := (rs'.drop off).take n) (i := i) (by omega)
          have h2 := elem_some (d := d) (l := rs') (i := off + i) (by omega)
          rw [List.getElem?_take, if_pos hx, List.getElem?_drop, h2] at h1
          exact (Option.some.inj h1).symm
        rw [he] at hy
        cases hblk with
        | @rows _ _ _ b2 cap2 cur h1 h2 h3 h4 h5 h8 =>
          rw [h1] at hφ
          cases hφ
          have := h8 _ _ _ (by omega) hy
          have ho := enc_lt hy
          have h9 : (off + i + 1) * size d ≤ cap2 * size d := Nat.mul_le_mul_right _ (by omega)
          rw [Nat.add_mul] at h9
          have e1 := agetD (us := cur) (i := (off + i) * size d + o) (by omega)
          refine ⟨_, ?_, this⟩
          rw [cell_of_row _ _ _ _ _ _ h2, ← e1]
          congr 1
          rw [Nat.add_mul]
          omega
        | none h1 => simp at hne
      | @subE _ t2 _ rs2 _ ad hB2 hl ha =>
        rw [hB] at hB2
        cases hB2
        have e1 : (rs'.drop off).take 0 = [] := by simp
        rw [e1]
        exact ⟨_, _, _, rfl, rfl, Nat.le_refl _, Nat.zero_le _, fun h => absurd rfl h⟩
    · cases h
  | _ => cases h

theorem sb_ok {P : Program} {w : World} {k : IntKind} {n : Int} {y : Nat} (code : BoundsCode) (h0 : 0 ≤ n) (h1 : n ≤ (y : Int)) : (Instr.sliceBound (.int k n) y code).run P w = .ok n.toNat w := by
  simp [Instr.sliceBound, asIntOf, h0, h1]

theorem bnd3_ok (h : Good w0 M c0 n0 c N st a) {lo : Option Operand} {hi : Operand} {k : Nat} {l hh : Nat} (hb : bnd k (optEv E st lo) (optEv E st (some hi)) = some (true, l, hh)) :
    (∀ code, (Instr.sliceBound (a.eval hi) k code).run E.P c.w = .ok hh c.w) ∧ (∀ code, (match lo.map a.eval with | some v => Instr.sliceBound v hh code | none => pure 0 : Sem Nat).run E.P c.w = .ok l c.w) ∧ l ≤ hh ∧ hh ≤ k := by
  unfold bnd at hb
  split at hb
  · rename_i b1 hh' h1
    split at hb
    · rename_i b2 l' h2
      simp only [Option.some.injEq, Prod.mk.injEq, Bool.and_eq_true] at hb
      obtain ⟨⟨rfl, rfl⟩, rfl, rfl⟩ := hb
      have hv := ev_ok (E := E) h 2 hi
      simp only [optEv] at h1
      unfold hiOf at h1
      split at h1
      · rename_i he; cases he
      · rename_i he
        simp only [Option.some.injEq] at he
        rw [he] at hv
        simp only [Option.some.injEq, Prod.mk.injEq, Bool.and_eq_true, decide_eq_true_eq] at h1
        obtain ⟨⟨h3, h4⟩, rfl⟩ := h1
        refine ⟨fun code => bound_of code hv h3 (by omega), ?_⟩
        cases lo with
        | none =>
          simp only [optEv, loOf, Option.some.injEq, Prod.mk.injEq, true_and] at h2
          subst h2
          exact ⟨fun _ => by simp, Nat.zero_le _, by omega⟩
        | some lo =>
          have hv2 := ev_ok (E := E) h 2 lo
          simp only [optEv] at h2
          unfold loOf at h2
          split at h2
          · rename_i he; cases he
          · rename_i he
            simp only [Option.some.injEq] at he
            rw [he] at hv2
            simp only [Option.some.injEq, Prod.mk.injEq, Bool.and_eq_true, decide_eq_true_eq] at h2
            obtain ⟨⟨h5, h6⟩, rfl⟩ := h2
            exact ⟨fun code => bound_of code hv2 h5 h6, by omega, by omega⟩
          · cases h2
      · cases h1
    · cases hb
  · cases hb

/-- x[lo:hi:max]. -/
theorem op_sliceM (hT : tabOk E.P E.T = true) (h : Good w0 M c0 n0 c N st a) (hd : ∀ n, o.dst = some n → n < N) {t : TypeId} {x mx : Operand} {lo hi : Option Operand} (ho : o.op = .slice t x lo hi (some mx))
    (hk : exOp E call n0 o st K = true) : StillTo E w0 M c0 n0 N c a o K := by
  unfold exOp at hk
  simp only [ho] at hk
  have hv := ev_ok (E := E) h 2 x
  have hmv := ev_ok (E := E) h 3 mx
  split at hk
  · rename_i b r hty hsl
    obtain ⟨hb, hk⟩ := grd_ok hk
    subst hb
    rw [← h.b] at hty hsl
    unfold sliceM at hsl
    split at hsl
    · rename_i z k m hz hm
      simp only [Option.some.injEq] at hm
      split at hsl
      · rename_i d l hr
        have hu : ∃ e, E.P.underlying t = some (.slice e) ∧ E.P.cellsOf e = size d := by
          unfold sliceTy at hty
          split at hty
          · rw [hz] at hty; cases z <;> simp [rowsV] at hr hty
          · rename_i e' hu
            rw [hz] at hty
            simp only [elemC, hr] at hty
            split at hty
            · rename_i d1 d2 h1 h2
              cases h1
              simp only [decide_eq_true_eq] at hty
              subst hty
              exact ⟨e', hu, (tab_ok hT h2).2.1⟩
            · cases hty
          · cases hty
        obtain ⟨e, hu, hs⟩ := hu
        rw [hz] at hv
        rw [hm] at hmv
        obtain ⟨hmv, _⟩ := int_of hmv
        generalize hg : a.eval x = vx at hv
        cases hv with
        | one hv =>
          obtain ⟨ad, n, cap, rfl, rfl, hnc, hcm, _⟩ := rowsV_rel h.own hv hr
          have fin : ∀ {lo' hi' mx' : Nat}, (Instr.sliceBounds true l.length cap (lo.map a.eval) (hi.map a.eval) (some (a.eval mx))).run E.P c.w = .ok (lo', hi', mx') c.w → lo' ≤ hi' → hi' ≤ mx' →
              (execOp a.eval o).run E.P c.w = .ok (.value (.slice (if mx' = lo' then ad else ad.map (·.add (lo' * size d))) (hi' - lo') (mx' - lo'))) c.w := by
            intro lo' hi' mx' hbd h1 h2
            simp [execOp, ho, Instr.sliceAt, run_underlying hu, Instr.slice, hg, hbd, run_sizeOf' (show 1 ≤ E.P.cellsOf e by rw [hs]; exact size_pos d), hs]
          split at hsl
          · rename_i hzc
            cases hsl
            simp only [Bool.and_eq_true] at hzc
            obtain ⟨⟨z1, z2⟩, z3⟩ := hzc
            have key : ∀ y : Operand, zeroC y = true → ∃ k, a.eval y = .int k 0 := by
              intro y hy
              unfold zeroC at hy
              split at hy
              · rename_i k; exact ⟨k, rfl⟩
              · cases hy
            obtain ⟨k1, e1⟩ := key _ z1
            cases hi with
            | none => cases z2
            | some hi =>
              obtain ⟨k2, e2⟩ := key _ z2
              have hm0 : (Instr.sliceBound (a.eval mx) cap .slice3Acap).run E.P c.w = .ok 0 c.w := by rw [e1]; exact sb_ok (n := 0) _ (by omega) (by omega)
              have hh0 : (Instr.sliceBound (a.eval hi) 0 .slice3B).run E.P c.w = .ok 0 c.w := by rw [e2]; exact sb_ok (n := 0) _ (by omega) (by omega)
              refine done_still h hd (.one (.nilS (d := d) (a := ad))) (by simp [pureO, pureOp, ho]) ?_ hk
              have := fin (lo' := 0) (hi' := 0) (mx' := 0) (by
                cases lo with
                | none => simp only [Instr.sliceBounds, Option.map_some, Option.map_none, if_true, Sem.run_bind, hm0, hh0, Sem.run_pure, Result.andThen_ok]
                | some lo =>
                  obtain ⟨k3, e3⟩ := key _ z3
                  have hl0 : (Instr.sliceBound (a.eval lo) 0 .slice3C).run E.P c.w = .ok 0 c.w := by rw [e3]; exact sb_ok (n := 0) _ (by omega) (by omega)
                  simp only [Instr.sliceBounds, Option.map_some, if_true, Sem.run_bind, hm0, hh0, hl0, Sem.run_pure, Result.andThen_ok, Option.isSome_some]) (Nat.le_refl _) (Nat.le_refl _)
              simpa using this
          · split at hsl
            · rename_i hav bb ll hh hhi hbd
              simp only [Option.some.injEq, Prod.mk.injEq, Bool.and_eq_true, decide_eq_true_eq] at hsl
              obtain ⟨⟨⟨h0, h1⟩, rfl⟩, rfl⟩ := hsl
              cases hi with
              | none => cases hhi
              | some hi =>
                obtain ⟨g1, g2, g3, g4⟩ := bnd3_ok h hbd
                have hm0 : (Instr.sliceBound (a.eval mx) cap .slice3Acap).run E.P c.w = .ok m.toNat c.w := by rw [hmv]; exact sb_ok _ h0 (by omega)
                refine done_still h hd .any (by simp [pureO, pureOp, ho]) (fin (lo' := ll) (hi' := hh) (mx' := m.toNat) ?_ g3 g4) hk
                have g1 := g1 .slice3B
                have g2 := g2 .slice3C
                cases lo with
                | none =>
                  simp only [Option.map_none, Sem.run_pure, Result.ok.injEq, and_true] at g2
                  subst g2
                  simp only [Instr.sliceBounds, Option.map_some, Option.map_none, if_true, Sem.run_bind, hm0, g1, Sem.run_pure, Result.andThen_ok]
                | some lo =>
                  simp only [Option.map_some] at g2
                  simp only [Instr.sliceBounds, Option.map_some, if_true, Sem.run_bind, hm0, g1, g2, Sem.run_pure, Result.andThen_ok, Option.isSome_some]
            · cases hsl
      · cases hsl
    · cases hsl
  · cases hk

theorem wf_len {n : Nat} (h : n ≤ maxLen) : (Lit.int .i64 (n : Int)).wf = true := by
  rw [wf_iff]
  unfold maxLen at h
  simp [IntKind.min, IntKind.max, IntKind.signed, IntKind.bits]
  omega

theorem run_nilcmp {P : Program} {t e : TypeId} (hu : P.underlying t = some (.slice e)) (a : Option Addr) (n c n' c' : Nat) (X Y : Operand) (w : World) :
    ((do eqGuard .eql t X Y (.slice a n c) (.slice none n' c'); binOp .eql t (.slice a n c) (.slice none n' c') : Sem Value).run P w = .ok (.bool a.isNone) w) ∧
    ((do eqGuard .neq t X Y (.slice a n c) (.slice none n' c'); binOp .neq t (.slice a n c) (.slice none n' c') : Sem Value).run P w = .ok (.bool (!a.isNone)) w) := by
  have key : ∀ d, (Op.equalIn (d + 1) t (.slice a n c) (.slice none n' c')).run P w = .ok a.isNone w := fun d => by
    cases a <;> simp [Op.equalIn, run_underlying hu]
  constructor
  · simp only [binOp]
    simp [eqGuard, Op.equal, Op.maxDepth, key 9999]
  · simp only [binOp]
    simp [eqGuard, Op.equal, Op.maxDepth, key 9999]
theorem nilCmp_ok {P : Program} {w0 : World} {M : Nat → Prop} {c : Cx} (hO : Own w0 M c) {x : AV} {u : Value} {t : TypeId} {op : BinOp} {X Y : Operand} {a : Act} (hx : VRel c x u) {F : Bool → Bool} (h : nilCmp P t c.B op x Y F = true) :
    ∃ b, (∀ w, (do eqGuard op t X Y u (a.eval Y); binOp op t u (a.eval Y) : Sem Value).run P w = .ok (.bool b) w) ∧ F b = true := by
  unfold nilCmp at h
  split at h
  · rename_i z e hy hu
    have hY : ∃ n' c', a.eval Y = .slice none n' c' := by
      unfold isNilC at hy
      split at hy
      · exact ⟨_, _, rfl⟩
      · cases hy
    obtain ⟨n', c', hY⟩ := hY
    rw [hY]
    split at h
    · rename_i d r hr
      cases hx with
      | one hv =>
        obtain ⟨ad, n, cap, rfl, rfl, hm, hc, hx⟩ := rowsV_rel hO hv hr
        have hs : ad = none → r.length = 0 := fun ha => by
          subst ha
          cases r with
          | nil => rfl
          | cons y r =>
            obtain ⟨b, off, hb, _⟩ := hx (by simp)
            cases hb
        split at h
        · refine ⟨_, fun w => (run_nilcmp hu ad r.length cap n' c' X Y w).1, ?_⟩
          cases ad with
          | none =>
            simp only [hs rfl] at h
            have h : (F true && F false) = true := h
            simp only [Bool.and_eq_true] at h
            exact h.1
          | some ad =>
            cases hb : Nat.beq r.length 0 with
            | true => rw [hb] at h; have h : (F true && F false) = true := h; simp only [Bool.and_eq_true] at h; exact h.2
            | false => rw [hb] at h; exact h
        · refine ⟨_, fun w => (run_nilcmp hu ad r.length cap n' c' X Y w).2, ?_⟩
          cases ad with
          | none =>
            simp only [hs rfl] at h
            have h : (F false && F true) = true := h
            simp only [Bool.and_eq_true] at h
            exact h.1
          | some ad =>
            cases hb : Nat.beq r.length 0 with
            | true => rw [hb] at h; have h : (F false && F true) = true := h; simp only [Bool.and_eq_true] at h; exact h.2
            | false => rw [hb] at h; exact h
        · cases h
    · cases h
  · cases h

theorem op_binOp (h : Good w0 M c0 n0 c N st a) (hd : ∀ n, o.dst = some n → n < N) {op : BinOp} {xT yT : TypeId} {x z : Operand} (ho : o.op = .binOp op xT x z yT)
    (hk : exOp E call n0 o st K = true) : StillTo E w0 M c0 n0 N c a o K := by
  unfold exOp at hk
  simp only [ho] at hk
  have hv := ev_ok (E := E) h xT x
  have hw := ev_ok (E := E) h yT z
  split at hk
  · rename_i b v hb
    obtain ⟨hb1, hk⟩ := grd_ok hk
    subst hb1
    obtain ⟨u, hu, hr⟩ := binA_ok (X := x) (Y := z) hv hw hb
    refine done_pure h hd hr ?_ hk
    intro w
    have hu := hu w
    simp only [Sem.run_bind] at hu
    simp only [execOp, ho, Sem.run_bind]
    rw [hu]; rfl
  · rw [← h.b] at hk
    obtain ⟨b, hu, hk⟩ := nilCmp_ok (X := x) (Y := z) (a := a) h.own hv hk
    refine done_pure h hd (.one .bool) ?_ hk
    intro w
    have hu := hu w
    simp only [Sem.run_bind] at hu
    simp only [execOp, ho, Sem.run_bind]
    rw [hu]; rfl

theorem lenA_ok {P : Program} {w0 : World} {M : Nat → Prop} {c : Cx} (hO : Own w0 M c) {x : AV} {v : Value} {n : Int} {t : TypeId} (hv : VRel c x v) (h : lenA P t c.B x = some n) (ty : TypeId) :
    (∀ w, (Builtin.len_ #[t] ty #[v]).run P w = .ok (.int .i64 n) w) ∧ (Lit.int .i64 n).wf = true := by
  unfold lenA at h
  split at h
  · rename_i s hu
    cases h
    obtain ⟨q, rfl, rfl, hq, hs⟩ := str_of hv
    rw [← hq]
    exact ⟨fun w => by simp [Builtin.len_, run_underlying hu, goInt], wf_len hs⟩
  · rename_i e z hu
    split at h
    · rename_i t' rs hr
      cases h
      cases hv with
      | one hv =>
        obtain ⟨ad, n, cap, rfl, rfl, hm, hc, _⟩ := rowsV_rel hO hv hr
        exact ⟨fun w => by simp [Builtin.len_, run_underlying hu, goInt], wf_len (Nat.le_trans hm hc)⟩
    · cases h
  · cases h

theorem minF_ok {P : Program} {c : Cx} {k : IntKind} : ∀ (r : List AV) (a : Int) (vs : List Value) (v : AV), r.length = vs.length → (∀ (i : Nat) (x : AV), r[i]? = some x → VRel c x (vs.getD i undef)) → (Lit.int k a).wf = true → minF k a r = some v →
    ∃ u, (vs.foldlM Builtin.min2 (.int k a)).run P c.w = .ok u c.w ∧ VRel c v u
  | [], a, [], v, _, _, hw, h => by cases h; exact ⟨_, rfl, .one (.int hw)⟩
  | x :: r, a, u :: vs, v, hl, hr, hw, h => by
    unfold minF at h
    split at h
    · rename_i he; cases he
    · rename_i k' b r' he
      cases he
      have h0 := hr 0 _ rfl
      simp only [List.getD_cons_zero] at h0
      obtain ⟨rfl, hb⟩ := int_of h0
      split at h
      · rename_i hkk
        simp only [decide_eq_true_eq] at hkk
        subst hkk
        obtain ⟨u, h1, h2⟩ := minF_ok (P := P) r (if b < a then b else a) vs v (by simpa using hl) (fun i x hx => by have := hr (i + 1) x (by simpa using hx); simpa using this) (by split <;> assumption) h
        exact ⟨u, by simp [List.foldlM_cons, Builtin.min2, h1], h2⟩
      · cases h
    · cases h

theorem maxF_ok {P : Program} {c : Cx} {k : IntKind} : ∀ (r : List AV) (a : Int) (vs : List Value) (v : AV), r.length = vs.length → (∀ (i : Nat) (x : AV), r[i]? = some x → VRel c x (vs.getD i undef)) → (Lit.int k a).wf = true → maxF k a r = some v →
    ∃ u, (vs.foldlM Builtin.max2 (.int k a)).run P c.w = .ok u c.w ∧ VRel c v u
  | [], a, [], v, _, _, hw, h => by cases h; exact ⟨_, rfl, .one (.int hw)⟩
  | x :: r, a, u :: vs, v, hl, hr, hw, h => by
    unfold maxF at h
    split at h
    · rename_i he; cases he
    · rename_i k' b r' he
      cases he
      have h0 := hr 0 _ rfl
      simp only [List.getD_cons_zero] at h0
      obtain ⟨rfl, hb⟩ := int_of h0
      split at h
      · rename_i hkk
        simp only [decide_eq_true_eq] at hkk
        subst hkk
        obtain ⟨u, h1, h2⟩ := maxF_ok (P := P) r (if b > a then b else a) vs v (by simpa using hl) (fun i x hx => by have := hr (i + 1) x (by simpa using hx); simpa using this) (by split <;> assumption) h
        refine ⟨u, ?_, h2⟩
        simp only [List.foldlM_cons, Builtin.max2, Sem.run_bind, Sem.run_pure, Result.andThen_ok]
        exact h1
      · cases h
    · cases h

theorem bytes_wf (b : UInt8) : (Lit.int .u8 (b.toNat : Int)).wf = true := by
  have := b.toNat_lt
  rw [wf_iff]
  simp [IntKind.min, IntKind.max, IntKind.signed, IntKind.bits]
  omega

theorem isU8_ok {P : Program} {t : TypeId} (h : isU8 P t = true) : P.underlying t = some (.int .u8) := by
  unfold isU8 at h
  split at h
  · assumption
  · cases h

/-- New memory that nobody writes. -/
theorem Own.grow {w0 : World} {M : Nat → Prop} {c : Cx} (h : Own w0 M c) {w' : World} (hos : w'.os = c.w.os) (ht : w'.tape = c.w.tape) (hout : w'.output = c.w.output) (hsz : c.w.heap.size ≤ w'.heap.size)
    (hh : ∀ b, b < c.w.heap.size → w'.heap[b]? = c.w.heap[b]?) :
    let c' : Cx := ⟨w', fun b => c.I b ∨ (c.w.heap.size ≤ b ∧ b < w'.heap.size), c.φ, c.B⟩
    ImmUp c c' ∧ (∀ j, At c c' j j) ∧ Own w0 M c' := by
  intro c'
  have hi : ImmUp c c' := ⟨fun _ h => .inl h, fun b hb => hh b (h.imm b hb), fun b hb => hb.elim .inl (fun e => .inr e.1), hsz⟩
  have ha : ∀ j, At c c' j j := fun j => At.same rfl rfl (fun b hb => hh b (h.new j b hb).2.1)
  refine ⟨hi, ha, h.len, fun j b hb => ?_, h.inj, fun b hb => ?_, fun j x hx => (h.blk j x hx).mono hi ha rfl (fun b hb => hh b (h.new j b hb).2.1), hos.trans h.os, ht.trans h.tape, hout.trans h.output, Nat.le_trans h.size hsz, fun b hb hM => (hh b (Nat.lt_of_lt_of_le hb h.size)).trans (h.keep b hb hM)⟩
  · obtain ⟨h1, h2, h3⟩ := h.new j b hb
    exact ⟨h1, Nat.lt_of_lt_of_le h2 hsz, fun hI => by
      rcases hI with hI | hI
      · exact h3 hI
      · omega⟩
  · rcases hb with hb | hb
    · exact Nat.lt_of_lt_of_le (h.imm b hb) hsz
    · exact hb.2

theorem op_convert (hT : tabOk E.P E.T = true) (h : Good w0 M c0 n0 c N st a) (hd : ∀ n, o.dst = some n → n < N) (hx : Nx E w0 M c0 n0 N K next) {src dst : TypeId} {x : Operand} (ho : o.op = .convert src dst x)
    (hk : exOp E call n0 o st K = true) : o.wp E.P a c.w next Q := by
  unfold exOp at hk
  simp only [ho] at hk
  have hv := ev_ok (E := E) h src x
  split at hk
  · rename_i r hcv
    rw [← h.b] at hcv
    unfold convA at hcv
    split at hcv
    · rename_i d1 k k' n hu hu2 he
      cases hcv
      rw [he] at hv
      obtain ⟨he, _⟩ := int_of hv
      exact done_val h hd hx (.one (.int (wrap_wf _ _))) (by simp [execOp, ho, he, convert, run_underlying hu, run_underlying hu2, Conv.intToInt]) hk
    · rename_i s hu hu2 he
      cases hcv
      rw [he] at hv
      obtain ⟨q, hqe, rfl, hq, hs⟩ := str_of hv
      exact done_val h hd hx (.one (.str hs)) (by simp [execOp, ho, hqe, convert, run_underlying hu, run_underlying hu2]) hk
    · rename_i e z hu hu2 he
      rw [he] at hv
      split at hcv
      · rename_i l hr
        split at hcv
        · rename_i hchk
          cases hcv
          have hu8e := isU8_ok hchk
          generalize hg : a.eval x = vx at hv
          cases hv with
          | one hv =>
            obtain ⟨ad, n, cap, rfl, rfl, hnc, hcm, hcells⟩ := rowsV_rel h.own hv hr
            let xs : List Int := l.map fun b => (b.toNat : Int)
            have hxs : xs.length = l.length := by simp [xs]
            have hstr : (strOfNums xs).data.toList = l := by
              simp only [strOfNums, xs, List.map_map]
              conv => rhs; rw [← List.map_id l]
              apply List.map_congr_left
              intro b _
              show UInt8.ofNat (Int.toNat (b.toNat : Int)) = b
              simp
            have hsz : (strOfNums xs).size ≤ maxLen := by rw [strOfNums_size, hxs]; omega
            by_cases hne : l = []
            · subst hne
              have e0 : ([] : List UInt8) = ByteArray.empty.data.toList := rfl
              rw [e0] at hk
              refine done_val h hd hx (v := .string ByteArray.empty) (.one (.str (by unfold maxLen; simp))) ?_ hk
              cases ad with
              | none => simp [execOp, ho, hg, run_convert_bytes_nil c.w src e hu hu8e _ _ dst hu2]
              | some ad =>
                have : (loadCells ad ([] : List (List AC)).length).run E.P c.w = .ok (([] : List Int).map (Value.int .u8)).toArray c.w := by simp [loadCells, loadCellsFrom]
                have h2 := run_bytesToString (P := E.P) c.w ad _ cap [] this
                have h3 : (Conv.bytesToString (Value.slice (some ad) 0 cap)).run E.P c.w = .ok (.string ByteArray.empty) c.w := by simpa using h2
                simp [execOp, ho, hg, run_convert_bytes_string c.w src dst e (some ad) _ cap hu hu8e hu2, h3]
            · obtain ⟨b, off, rfl, hc⟩ := hcells hne
              have := run_convert_bytes_arg (P := E.P) c.w src e hu hu8e b off l.length cap xs hxs (fun i hi => by
                obtain ⟨u, h1, h2⟩ := hc i 0 (.int .u8 ((elem .byte l i).toNat : Int)) hi rfl
                cases h2
                have e1 : size .byte = 1 := rfl
                rw [e1, Nat.mul_one, Nat.add_zero] at h1
                rw [h1]
                have e2 : xs.getD i 0 = ((elem .byte l i).toNat : Int) := by
                  have := elem_some (d := .byte) (l := l) hi
                  simp only [xs]
                  rw [List.getD_eq_getElem?_getD, List.getElem?_map, this]
                  rfl
                rw [e2]) dst hu2
              rw [← hstr] at hk
              exact done_val h hd hx (v := .string (strOfNums xs)) (.one (.str hsz)) (by simp [execOp, ho, hg, this]) hk
        · cases hcv
      · cases hcv
    · rename_i e s hu hu2 he
      rw [he] at hv
      split at hcv
      · rename_i hchk hcd
        cases hcv
        have hu8 := isU8_ok hchk
        obtain ⟨q, hqe, rfl, hq, hs⟩ := str_of hv
        obtain ⟨hi, ha, hO⟩ := h.own.grow (w' := Lib.bytesWorld c.w e q) rfl rfl rfl (by rw [Lib.bytesWorld_size]; omega) (fun b hb => Lib.bytesWorld_at_old c.w e q b hb)
        have hG := h.move hi ha hO st h.b rfl
        have hge := grownCap_ge c.w q.size 0 e
        have hle := grownCap_le_maxLen c.w q.size 0 e hs
        have hrel : CRel ⟨Lib.bytesWorld c.w e q, fun b => c.I b ∨ (c.w.heap.size ≤ b ∧ b < (Lib.bytesWorld c.w e q).heap.size), c.φ, c.B⟩ (.dat .byte q.data.toList) (.slice (some ⟨c.w.heap.size, 0, none⟩) q.data.toList.length (grownCap c.w q.size 0 e)) := by
          have e1 : size .byte = 1 := rfl
          refine .dat (fun i _ => .int .u8 (elem .byte q.data.toList i).toNat) (by omega) hle rfl (.inr ⟨Nat.le_refl _, by rw [Lib.bytesWorld_size]; exact Nat.lt_succ_self _⟩) ?_ ?_
          · intro i o hx hy
            have := Lib.bytesWorld_cell c.w e q i (by omega)
            have ho : o = 0 := by omega
            subst ho
            rw [e1]
            have e3 : elem .byte q.data.toList i = q.data[i]?.getD 0 := by
              simp [elem, dflt, List.getD_eq_getElem?_getD]
            rw [e3]
            simpa using this
          · intro i o z hx hy
            cases o with
            | zero => cases hy; exact .int (bytes_wf _)
            | succ o => simp [enc] at hy
        refine wp_val (v := .slice (some ⟨c.w.heap.size, 0, none⟩) q.data.toList.length (grownCap c.w q.size 0 e)) (w' := Lib.bytesWorld c.w e q) ?_ (hx _ _ _ hk (hG.set hd (.one hrel)))
        rw [← hq]
        simp [execOp, ho, hqe, Lib.run_convert_string_bytes c.w src dst e q hu hu2 hu8]
      · cases hcv
    · cases hcv
  · cases hk
end
end Go.X
