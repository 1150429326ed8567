/- Operations that make memory or write to memory of their own do what their abstract ones say. -/
import Derived.Test.YtmcgkokjcimckaaYMk
set_option linter.all false
namespace Go.X
open Go
set_option linter.unusedSimpArgs false
set_option linter.unusedVariables false

theorem CRel.toPlain {c : Cx} {x : AC} {v : Value} (h : CRel c x v) : CRel c (toPlain x) v := by
  cases x <;> first | exact h | (cases h; exact .emp (Nat.zero_le _) (fun _ => rfl))

theorem plainL_get : ∀ {cts : List CT} {xs : List AC}, plainL cts xs = true → cts.length = xs.length ∧ ∀ (i : Nat) (ct : CT) (x : AC), cts[i]? = some ct → xs[i]? = some x → plainC ct x = true
  | [], [], _ => ⟨rfl, fun i ct x h => by simp at h⟩
  | ct :: cts, x :: xs, h => by
    simp only [plainL, Bool.and_eq_true] at h
    obtain ⟨h1, h2⟩ := plainL_get h.2
    refine ⟨by simp [h1], fun i ct' x' hc hx => ?_⟩
    cases i with
    | zero => simp at hc hx; subst hc; subst hx; exact h.1
    | succ i => exact h2 i ct' x' (by simpa using hc) (by simpa using hx)
  | [], _ :: _, h => by cases h
  | _ :: _, [], h => by cases h

theorem elem_replicate {d : Cd} {n : Nat} {x : den d} {i : Nat} (h : i < n) : elem d (List.replicate n x) i = x := by
  simp [elem, List.getD_eq_getElem?_getD, List.getElem?_replicate, h]

theorem map_rel {c : Cx} {l : List AC} {f : Nat → Value} (h : ∀ (i : Nat) (x : AC), l[i]? = some x → CRel c x (f i)) : ∀ (i : Nat) (x : AC), (l.map X.toPlain)[i]? = some x → CRel c x (f i) := by
  intro i x hx
  rw [List.getElem?_map] at hx
  cases hq : l[i]? with
  | none => rw [hq] at hx; cases hx
  | some q => rw [hq] at hx; cases hx; exact (h i q hq).toPlain

section
variable {E : Env} {call : FuncId → List AV → List Blk → Kont → Bool} {w0 : World} {M : Nat → Prop} {c0 c : Cx} {n0 N : Nat} {st : St} {a : Act} {o : Oper} {next : Act → World → Prop} {Q : Exit → Act → World → Prop} {K : St → Bool}

theorem wf64 {n : Int} (h : (Lit.int .i64 n).wf = true) : -9223372036854775808 ≤ n ∧ n ≤ 9223372036854775807 := by
  rw [wf_iff] at h
  simpa [IntKind.min, IntKind.max, IntKind.signed, IntKind.bits] using h

theorem op_makeSlice (hT : tabOk E.P E.T = true) (h : Good w0 M c0 n0 c N st a) (hd : ∀ n, o.dst = some n → n < N) (hx : Nx E w0 M c0 n0 N K next) {t : TypeId} {l k : Operand} (ho : o.op = .makeSlice t l k)
    (hk : exOp E call n0 o st K = true) : o.wp E.P a c.w next Q := by
  unfold exOp at hk
  simp only [ho] at hk
  have hl := ev_ok (E := E) h 3 l
  have hc := ev_ok (E := E) h 3 k
  split at hk
  · rename_i e n m hu hle hme
    rw [hle] at hl
    rw [hme] at hc
    obtain ⟨hl, hln⟩ := int_of hl
    obtain ⟨hc, hcm⟩ := int_of hc
    split at hk
    · rename_i d z hcd hz
      split at hk
      · rename_i hchk
        obtain ⟨hb, hk⟩ := grd_ok hk
        simp only [Bool.and_eq_true, decide_eq_true_eq] at hb
        obtain ⟨⟨h1, h2⟩, h3⟩ := hb
        obtain ⟨i, v, hi, hiz, hvs, _, _⟩ := zeroOf_ok (c := c) hz
        obtain ⟨_, hcs, _, _, _, _⟩ := tab_ok hT hcd
        have hm63 := (wf64 hcm).2
        have hby : (i.bytes : Int) = E.P.bytesOf e := by simp [Program.bytesOf, hi]
        have hsz : i.size = size d := by rw [← hcs]; simp [Program.cellsOf, hi]
        have hzl : z.length = size d := by have := plainL_len hchk; simpa [size] using this
        have hmk := run_make (P := E.P) c.w t e i v hu hi hiz .i64 .i64 n m h1 h2 (by rw [hby, Int.mul_comm]; unfold maxRows at h3; omega) hm63
        have hφ := h.own.push_top (.cells (madeCells v.cells (m.toNat * i.size)) e) (.rows e d (List.replicate n.toNat (mk d (z.map toPlain))))
        have es : st.b.length = c.B.length := by rw [h.b]
        have hrel : ∀ c' : Cx, ∀ (o' : Nat) (x : AC), (z.map toPlain)[o']? = some x → CRel c' x (v.cells.getD o' undef) := by
          intro c'
          obtain ⟨i', v', hi', hiz', _, h4, _⟩ := zeroOf_ok (c := c') hz
          rw [hi] at hi'; cases hi'
          rw [hiz] at hiz'; cases hiz'
          exact map_rel h4
        have henc : enc d (mk d (z.map toPlain)) = z.map toPlain := enc_mk (c := c) d _ hchk (fun i x hx => ⟨_, hrel c i x hx⟩)
        refine done_new (ob := .cells (madeCells v.cells (m.toNat * i.size)) e) (v := .slice (some ⟨c.w.heap.size, 0, none⟩) n.toNat m.toNat) h hd hx
          (.rows (cap := m.toNat) hφ (heap_alloc_new _ _) (by rw [size_madeCells, hsz]) (by simp; omega) (by unfold maxLen; omega) ?_) ?_ ?_ hk
        · intro i' o' x hx hy
          have hlt : i' < n.toNat := by simpa using hx
          rw [elem_replicate hlt, henc] at hy
          have ho' : o' < size d := by have := (List.getElem?_eq_some_iff.1 hy).1; simp at this; omega
          have h9 : (i' + 1) * size d ≤ m.toNat * size d := Nat.mul_le_mul_right _ (by omega)
          rw [Nat.add_mul] at h9
          have e1 : (madeCells v.cells (m.toNat * i.size)).getD (i' * size d + o') undef = v.cells.getD o' undef := by
            have hvsz : v.cells.size = size d := by omega
            have hmod : (i' * size d + o') % v.cells.size = o' := by rw [hvsz, Nat.mul_comm, Nat.mul_add_mod]; exact Nat.mod_eq_of_lt ho'
            have hlt2 : i' * size d + o' < m.toNat * i.size := by rw [hsz]; omega
            simp only [madeCells, Array.getD_eq_getD_getElem?]
            rw [Array.getElem?_map, Array.getElem?_range, if_pos hlt2]
            simp only [Option.map_some, Option.getD_some, hmod]
            rw [Array.getElem?_eq_getElem (by omega), Option.getD_some, getElem!_pos]
          rw [e1]
          exact hrel _ o' x hy
        · rw [es]
          have := CRel.own (c := c.push (.cells (madeCells v.cells (m.toNat * i.size)) e) (.rows e d (List.replicate n.toNat (mk d (z.map toPlain))))) (cap := m.toNat) (Cx.push_top _ _ _) hφ (by simp; omega) (by unfold maxLen; omega)
            ⟨_, heap_alloc_new _ _, by rw [size_madeCells, hsz]⟩
          simpa using this
        · simp [execOp, ho, hl, hc, hmk]
      · cases hk
    · cases hk
  · cases hk

/-! ### composite literals -/
theorem foldl_set (off : Nat) : ∀ (vs : List Value) (k : Nat) (cs : Array Value) (m : Nat), ((vs.zipIdx k).foldl (fun (cs : Array Value) (x : Value × Nat) => cs.setIfInBounds (off + x.2) x.1) cs).size = cs.size ∧
    (off + k + vs.length ≤ cs.size → ((vs.zipIdx k).foldl (fun (cs : Array Value) (x : Value × Nat) => cs.setIfInBounds (off + x.2) x.1) cs)[m]? = if off + k ≤ m ∧ m < off + k + vs.length then vs[m - (off + k)]? else cs[m]?)
  | [], k, cs, m => ⟨rfl, fun _ => by rw [if_neg (by simp)]; rfl⟩
  | v :: vs, k, cs, m => by
    obtain ⟨h1, h2⟩ := foldl_set off vs (k + 1) (cs.setIfInBounds (off + k) v) m
    refine ⟨by simpa using h1, fun h => ?_⟩
    simp only [List.length_cons] at h
    have := h2 (by simp; omega)
    simp only [List.zipIdx_cons, List.foldl_cons]
    rw [this]
    by_cases hm : off + k = m
    · subst hm
      rw [if_neg (by omega), if_pos (by simp), Array.getElem?_setIfInBounds_self_of_lt (by omega)]
      simp
    · by_cases hr : off + (k + 1) ≤ m ∧ m < off + (k + 1) + vs.length
      · rw [if_pos hr, if_pos (by simp; omega)]
        obtain ⟨q, hq⟩ : ∃ q, m = off + k + 1 + q := ⟨m - (off + k + 1), by omega⟩
        subst hq
        rw [show off + k + 1 + q - (off + (k + 1)) = q by omega, show off + k + 1 + q - (off + k) = q + 1 by omega]
        rfl
      · rw [if_neg hr, if_neg (by simp; omega), Array.getElem?_setIfInBounds_ne hm]

/-- An array's cells, as a list's. -/
def CL (c : Cx) (l : List AC) (cs : Array Value) : Prop := cs.size = l.length ∧ ∀ (i : Nat) (x : AC), l[i]? = some x → CRel c x (cs.getD i undef)

theorem splice_get {l m : List AC} {o i : Nat} {x : AC} (h : o + m.length ≤ l.length) (hx : (splice l o m)[i]? = some x) :
    (o ≤ i ∧ i < o + m.length ∧ m[i - o]? = some x) ∨ (¬ (o ≤ i ∧ i < o + m.length) ∧ l[i]? = some x) := by
  unfold splice at hx
  have h1 : (l.take o).length = o := by rw [List.length_take]; omega
  by_cases hi : i < o
  · rw [List.append_assoc, List.getElem?_append_left (by omega), List.getElem?_take, if_pos hi] at hx
    exact .inr ⟨by omega, hx⟩
  · by_cases hi2 : i < o + m.length
    · rw [List.getElem?_append_left (by simp; omega), List.getElem?_append_right (by omega), h1] at hx
      exact .inl ⟨by omega, hi2, hx⟩
    · rw [List.getElem?_append_right (by simp; omega), List.getElem?_drop] at hx
      refine .inr ⟨by omega, ?_⟩
      rw [← hx]
      congr 1
      simp
      omega

theorem splice_len {l m : List AC} {o : Nat} (h : o + m.length ≤ l.length) : (splice l o m).length = l.length := by
  unfold splice; simp; omega

theorem fill_ok {c : Cx} {pl : Nat → Option (Nat × Nat)} : ∀ (ps : List (Nat × AV)) (vs : List (Nat × Value)) (l : List AC) (cs : Array Value) (r : List AC), ps.length = vs.length →
    (∀ (i : Nat) (p : Nat × AV), ps[i]? = some p → ∃ v, vs[i]? = some (p.1, v) ∧ VRel c p.2 v) → CL c l cs → fillA pl l ps = some r → ∃ cs', Instr.fill pl cs vs = some cs' ∧ CL c r cs' ∧ r.length = l.length
  | [], [], l, cs, r, _, _, hc, h => by cases h; exact ⟨cs, rfl, hc, rfl⟩
  | (i, p) :: ps, v0 :: vs, l, cs, r, hl, hr, hc, h => by
    obtain ⟨v, hv, hrel⟩ := hr 0 (i, p) rfl
    simp at hv
    subst hv
    unfold fillA at h
    split at h
    · rename_i off size vc hpl hvc
      split at h
      · rename_i hchk
        simp only [Bool.and_eq_true] at hchk
        have h1 := Nat.eq_of_beq_eq_true hchk.1
        have h2 := Nat.le_of_ble_eq_true hchk.2
        obtain ⟨h3, h4⟩ := cells_of hrel hvc
        obtain ⟨hcs, hcr⟩ := hc
        have hf := fun m => foldl_set off v.cells.toList 0 cs m
        have hsz : v.cells.toList.length = vc.length := by simpa using h3
        let cs2 := (v.cells.toList.zipIdx 0).foldl (fun (cs : Array Value) (x : Value × Nat) => cs.setIfInBounds (off + x.2) x.1) cs
        have hcl : CL c (splice l off vc) cs2 := by
          refine ⟨by rw [splice_len (by omega)]; exact (hf 0).1.trans hcs, fun m x hx => ?_⟩
          have hg := (hf m).2 (by omega)
          rcases splice_get (by omega) hx with ⟨h5, h6, h7⟩ | ⟨h5, h7⟩
          · have := h4 _ _ h7
            rw [if_pos (by omega)] at hg
            have e1 : cs2.getD m undef = v.cells.getD (m - off) undef := by
              simp only [Array.getD_eq_getD_getElem?]
              rw [show cs2[m]? = _ from hg, Nat.add_zero]
              simp
            rw [e1]; exact this
          · have := hcr _ _ h7
            rw [if_neg (by omega)] at hg
            have e1 : cs2.getD m undef = cs.getD m undef := by
              simp only [Array.getD_eq_getD_getElem?]
              rw [show cs2[m]? = _ from hg]
            rw [e1]; exact this
        obtain ⟨cs', h8, h9, h10⟩ := fill_ok ps vs _ cs2 r (by simpa using hl) (fun j q hq => by
          obtain ⟨v', hv', hr'⟩ := hr (j + 1) q (by simpa using hq)
          exact ⟨v', by simpa using hv', hr'⟩) hcl h
        refine ⟨cs', ?_, h9, by rw [h10, splice_len (by omega)]⟩
        unfold Instr.fill
        simp only [hpl]
        rw [if_neg (by simp; omega)]
        have e2 : v.cells.zipIdx.foldl (fun cs (x : Value × Nat) => match x with | (c, j) => cs.setIfInBounds (off + j) c) cs = cs2 := by
          rw [← Array.foldl_toList]
          simp [cs2, Array.toList_zipIdx]
        rw [← h8]
        congr 1
      · cases h
    · cases h

theorem run_places_l {P : Program} (w : World) : ∀ (fs : List Field), (∀ f ∈ fs, 1 ≤ P.cellsOf f.type) → (fs.mapM fun f => do pure (f.offset, ← sizeOf f.type) : Sem (List (Nat × Nat))).run P w = .ok (fs.map fun f => (f.offset, P.cellsOf f.type)) w
  | [], _ => by simp
  | f :: fs, h => by
    have := run_places_l w fs (fun g hg => h g (by simp [hg]))
    simp only [List.mapM_cons, Sem.run_bind, run_sizeOf' (h f (by simp)), Sem.run_pure, Result.andThen_ok, this, List.map_cons]

theorem run_places {P : Program} {fs : Array Field} (fl : List Field) (h : ∀ f ∈ fs.toList, 1 ≤ P.cellsOf f.type) (w : World) : ((fs.mapM fun f => do pure (f.offset, ← sizeOf f.type) : Sem (Array (Nat × Nat)))).run P w = .ok (fs.map fun f => (f.offset, P.cellsOf f.type)) w := by
  rw [Array.mapM_eq_mapM_toList]
  simp only [Sem.run_map, run_places_l w fs.toList h, Result.andThen_ok]
  congr 1
  apply Array.ext'
  simp

theorem op_build (h : Good w0 M c0 n0 c N st a) (hd : ∀ n, o.dst = some n → n < N) (hx : Nx E w0 M c0 n0 N K next) {t : TypeId} {parts : Array (Nat × Operand)} (ho : o.op = .build t parts)
    (hk : exOp E call n0 o st K = true) : o.wp E.P a c.w next Q := by
  unfold exOp at hk
  simp only [ho] at hk
  have hparts : ∀ (g : Nat → TypeId), ∀ (i : Nat) (p : Nat × AV), (parts.toList.map fun x => (x.1, ev E (g x.1) st x.2))[i]? = some p → ∃ v, (parts.toList.map fun x => (x.1, a.eval x.2))[i]? = some (p.1, v) ∧ VRel c p.2 v := by
    intro g i p hp
    rw [List.getElem?_map] at hp ⊢
    cases hq : parts.toList[i]? with
    | none => rw [hq] at hp; cases hp
    | some q => rw [hq] at hp; cases hp; exact ⟨_, rfl, ev_ok (E := E) h _ _⟩
  split at hk
  · rename_i fs z hu hz
    split at hk
    · cases hk
    · rename_i hall
      split at hk
      · rename_i cs hf
        obtain ⟨i, v, hi, hiz, hvs, hvr, _⟩ := zeroOf_ok (c := c) hz
        obtain ⟨cs', h1, h2, h3⟩ := fill_ok _ (parts.toList.map fun x => (x.1, a.eval x.2)) z v.cells cs (by simp) (hparts fun i => ((fs[i]?).map (·.type)).getD 0) ⟨hvs, hvr⟩ hf
        have hpl : ∀ w : World, ((fs.mapM fun f => do pure (f.offset, ← sizeOf f.type) : Sem (Array (Nat × Nat)))).run E.P w = .ok (fs.map fun f => (f.offset, E.P.cellsOf f.type)) w := by
          intro w
          exact run_places fs.toList (fun f hf => Nat.le_of_ble_eq_true (List.all_eq_true.1 hall f hf)) w
        have hpe : (fun i => (fs.map fun f => (f.offset, E.P.cellsOf f.type))[i]?) = placeF E.P fs := by
          funext i
          simp only [placeF, Array.getElem?_map]
          cases fs[i]? <;> rfl
        refine done_val (v := .agg cs') h hd hx (.agg h2.1 h2.2) ?_ hk
        have e1 : (parts.map fun x => match x with | (i, x) => (i, a.eval x)).toList = parts.toList.map fun x => (x.1, a.eval x.2) := by simp
        simp only [execOp, ho, Instr.build, Sem.run_bind, zeroValue, typeInfo, hi, hiz, Sem.run_pure, run_program, Result.andThen_ok, run_underlying hu, hpl, hpe, e1, h1]
      · cases hk
  · rename_i n e z hu hz
    split at hk
    · cases hk
    · rename_i hall
      have hall := Nat.le_of_ble_eq_true hall
      split at hk
      · rename_i cs hf
        obtain ⟨i, v, hi, hiz, hvs, hvr, _⟩ := zeroOf_ok (c := c) hz
        obtain ⟨cs', h1, h2, h3⟩ := fill_ok _ (parts.toList.map fun x => (x.1, a.eval x.2)) z v.cells cs (by simp) (hparts fun _ => e) ⟨hvs, hvr⟩ hf
        refine done_val (v := .agg cs') h hd hx (.agg h2.1 h2.2) ?_ hk
        have e1 : (parts.map fun x => match x with | (i, x) => (i, a.eval x)).toList = parts.toList.map fun x => (x.1, a.eval x.2) := by simp
        simp only [execOp, ho, Instr.build, Sem.run_bind, zeroValue, typeInfo, hi, hiz, Sem.run_pure, run_program, Result.andThen_ok, run_underlying hu, run_sizeOf' hall, e1, h1]
      · cases hk
  · cases hk

theorem repCells_get {α : Type} (z : List α) : ∀ (n i : Nat), i < n * z.length → (repCells z n)[i]? = z[i % z.length]?
  | 0, i, h => by simp at h
  | n + 1, i, h => by
    rw [Nat.add_mul] at h
    simp only [repCells]
    by_cases hi : i < z.length
    · rw [List.getElem?_append_left hi, Nat.mod_eq_of_lt hi]
    · rw [List.getElem?_append_right (by omega), repCells_get z n (i - z.length) (by omega)]
      congr 1
      rw [← Nat.mod_eq_sub_mod (by omega)]

theorem repCells_len {α : Type} (z : List α) : ∀ (n : Nat), (repCells z n).length = n * z.length
  | 0 => by simp [repCells]
  | n + 1 => by simp [repCells, repCells_len z n, Nat.add_mul, Nat.add_comm]

theorem chop_len (d : Cd) : ∀ (n : Nat) (l : List AC), (chop d n l).length = n
  | 0, _ => rfl
  | n + 1, l => by simp [chop, chop_len d n]

theorem chop_get (d : Cd) : ∀ (n : Nat) (l : List AC) (i : Nat), i < n → elem d (chop d n l) i = mk d ((l.drop (i * size d)).take (size d))
  | 0, l, i, h => by omega
  | n + 1, l, 0, h => by simp [chop, elem]
  | n + 1, l, i + 1, h => by
    have := chop_get d n (l.drop (size d)) i (by omega)
    rw [List.drop_drop] at this
    rw [show (i + 1) * size d = size d + i * size d by rw [Nat.add_mul]; omega, ← this]
    simp [chop, elem]

theorem plainL_part {ts : List CT} : ∀ (n : Nat) {xs : List AC}, plainL (repCells ts n) xs = true → ∀ i, i < n → plainL ts ((xs.drop (i * ts.length)).take ts.length) = true
  | 0, xs, h, i, hi => by omega
  | n + 1, xs, h, i, hi => by
    have app : ∀ (a b : List CT) (xs : List AC), plainL (a ++ b) xs = true → plainL a (xs.take a.length) = true ∧ plainL b (xs.drop a.length) = true := by
      intro a
      induction a with
      | nil => intro b xs h; exact ⟨rfl, by simpa using h⟩
      | cons c a ih =>
        intro b xs h
        cases xs with
        | nil => cases h
        | cons x xs =>
          simp only [List.cons_append, plainL, Bool.and_eq_true] at h
          obtain ⟨h1, h2⟩ := ih b xs h.2
          exact ⟨by simp [plainL, h.1, h1], by simpa using h2⟩
    obtain ⟨h1, h2⟩ := app _ _ _ h
    cases i with
    | zero => simpa using h1
    | succ i =>
      have := plainL_part n h2 i (by omega)
      rw [List.drop_drop] at this
      rw [show (i + 1) * ts.length = ts.length + i * ts.length by rw [Nat.add_mul]; omega]
      exact this

theorem op_buildSlice (hT : tabOk E.P E.T = true) (h : Good w0 M c0 n0 c N st a) (hd : ∀ n, o.dst = some n → n < N) (hx : Nx E w0 M c0 n0 N K next) {t : TypeId} {len : Nat} {parts : Array (Nat × Operand)} (ho : o.op = .buildSlice t len parts)
    (hk : exOp E call n0 o st K = true) : o.wp E.P a c.w next Q := by
  unfold exOp at hk
  simp only [ho] at hk
  split at hk
  · rename_i e hu
    split at hk
    · rename_i d z hcd hz
      split at hk
      · rename_i cs hf
        split at hk
        · rename_i hchk
          simp only [Bool.and_eq_true] at hchk
          obtain ⟨hpl, hcap⟩ := hchk
          have hcap := Nat.le_of_ble_eq_true hcap
          obtain ⟨_, hcs, _, _, ⟨z', hz', hzl⟩, _⟩ := tab_ok hT hcd
          rw [hz] at hz'
          cases hz'
          rw [hcs] at hf hcap
          let zero : Array Value → Array Value := fun z => (Array.range (len * size d)).map (fun i => z[i % z.size]!)
          obtain ⟨i, v, hi, hiz, hvs, hvr0, _⟩ := zeroOf_ok (c := c) hz
          have hsz : i.size = size d := by rw [← hcs]; simp [Program.cellsOf, hi]
          have hzv : v.cells.size = size d := by omega
          have hz0 : CL c (repCells z len) (zero v.cells) := by
            refine ⟨by simp [zero, repCells_len, hzl], fun m x hx => ?_⟩
            have hm : m < len * z.length := by have := (List.getElem?_eq_some_iff.1 hx).1; rwa [repCells_len] at this
            rw [repCells_get z len m hm] at hx
            have := hvr0 _ _ hx
            have e1 : (zero v.cells).getD m undef = v.cells.getD (m % z.length) undef := by
              have hml : m % z.length < z.length := Nat.mod_lt _ (by have := size_pos d; omega)
              simp only [zero, Array.getD_eq_getD_getElem?]
              rw [Array.getElem?_map, Array.getElem?_range, if_pos (by rw [← hzl]; exact hm)]
              simp only [Option.map_some, Option.getD_some, hvs]
              rw [Array.getElem?_eq_getElem (by omega), Option.getD_some, getElem!_pos]
            rw [e1]; exact this
          obtain ⟨cs', h1, h2, h3⟩ := fill_ok _ (parts.toList.map fun x => (x.1, a.eval x.2)) (repCells z len) (zero v.cells) cs (by simp) (by
            intro i p hp
            rw [List.getElem?_map] at hp ⊢
            cases hq : parts.toList[i]? with
            | none => rw [hq] at hp; cases hp
            | some q => rw [hq] at hp; cases hp; exact ⟨_, rfl, ev_ok (E := E) h _ _⟩) hz0 hf
          have hcsl : cs.length = len * size d := by rw [h3, repCells_len, hzl]
          have hφ := h.own.push_top (.cells cs' e) (.rows e d (chop d len (cs.map toPlain)))
          have es : st.b.length = c.B.length := by rw [h.b]
          have hrel := map_rel h2.2
          have hcell : ∀ (i o' : Nat) (x : AC), i < len → (enc d (elem d (chop d len (cs.map toPlain)) i))[o']? = some x → o' < size d ∧ (cs.map toPlain)[i * size d + o']? = some x := by
            intro i o' x hi hy
            have ho := enc_lt hy
            have hpp : plainL (cts d) (((cs.map toPlain).drop (i * size d)).take (size d)) = true := plainL_part len hpl i hi
            have hen := enc_mk (c := c) d _ hpp (fun m x hx => by
              rw [List.getElem?_take] at hx
              split at hx
              · rw [List.getElem?_drop] at hx; exact ⟨_, hrel _ _ hx⟩
              · cases hx)
            rw [chop_get d len _ i hi, hen, List.getElem?_take, if_pos ho, List.getElem?_drop] at hy
            exact ⟨ho, hy⟩
          have hlm : len ≤ maxLen := by have : len * 1 ≤ len * size d := Nat.mul_le_mul_left _ (size_pos d); unfold maxLen; omega
          refine done_new (ob := .cells cs' e) (v := .slice (some ⟨c.w.heap.size, 0, none⟩) len len) h hd hx
            (.rows (cap := len) hφ (heap_alloc_new _ _) (by rw [h2.1, hcsl]) (by rw [chop_len]; exact Nat.le_refl _) hlm ?_) ?_ ?_ hk
          · intro i o' x hx hy
            rw [chop_len] at hx
            obtain ⟨h7, h8⟩ := hcell _ _ _ hx hy
            exact (hrel _ _ h8).mono (h.own.immUp_push _ _) (h.own.at_push _ _)
          · rw [es]
            have := CRel.own (c := c.push (.cells cs' e) (.rows e d (chop d len (cs.map toPlain)))) (cap := len) (Cx.push_top _ _ _) hφ (by rw [chop_len]; exact Nat.le_refl _) hlm
              ⟨_, heap_alloc_new _ _, by rw [h2.1, hcsl]⟩
            rw [chop_len] at this
            exact this
          · have e1 : (parts.map fun x => match x with | (i, x) => (i, a.eval x)).toList = parts.toList.map fun x => (x.1, a.eval x.2) := by simp
            have hlim : ¬ (len * size d > 2 ^ 24) := by omega
            have hso : ∀ w, (sizeOf e).run E.P w = .ok (size d) w := fun w => by rw [← hcs]; exact run_sizeOf' (by rw [hcs]; exact size_pos d) w
            by_cases h0 : len * size d = 0
            · have hl0 : len = 0 := by
                rcases Nat.mul_eq_zero.1 h0 with h | h
                · exact h
                · have := size_pos d; omega
              have hze : zero v.cells = (Array.range (len * size d)).map (fun i => (#[] : Array Value)[i % (#[] : Array Value).size]!) := by
                subst hl0; simp [zero]
              rw [hze] at h1
              simp only [execOp, ho, Instr.buildSlice, Sem.run_bind, run_underlying hu, hso, Result.andThen_ok, Sem.run_ite, if_neg hlim, if_pos h0, Sem.run_pure, e1, h1, newRow, run_newObj]
              rfl
            · simp only [execOp, ho, Instr.buildSlice, Sem.run_bind, run_underlying hu, hso, Result.andThen_ok, Sem.run_ite, if_neg hlim, if_neg h0, zeroValue, typeInfo, hi, hiz, run_program, Sem.run_pure, e1, newRow, run_newObj]
              rw [show Instr.fill (fun i => some (i * size d, size d)) (Array.map (fun i => v.cells[i % v.cells.size]!) (Array.range (len * size d))) (parts.toList.map fun x => (x.1, a.eval x.2)) = some cs' from h1]
              rfl
        · cases hk
      · cases hk
    · cases hk
  · cases hk

/-! ### stores -/
/-- The block j of one's own is written. -/
theorem Own.write {w0 : World} {M : Nat → Prop} {c : Cx} (h : Own w0 M c) {j b : Nat} {cur cur' : Array Value} {t : TypeId} {bl bl' : Blk} (hB : c.B[j]? = some bl) (hφ : c.φ[j]? = some (some b))
    (hb : c.w.heap[b]? = some (.cells cur t (0, 0))) (hsz : cur'.size = cur.size)
    (hrows : ∀ t' d rs, bl = .rows t' d rs → ∃ rs', bl' = .rows t' d rs' ∧ rs'.length = rs.length) (hbox : ∀ cs, bl = .box cs → ∃ cs', bl' = .box cs' ∧ cs'.length = cs.length) (hmap : ∀ d m, bl ≠ .map d m) :
    let c' : Cx := ⟨c.w.setRow b cur', c.I, c.φ, c.B.set j bl'⟩
    ImmUp c c' ∧ (∀ i, At c c' i i) ∧ (BRel c' j bl' → Own w0 M c') := by
  intro c'
  have hbn := h.new j b hφ
  have hi : ImmUp c c' := ⟨fun _ h => h, fun k hk => setRow_other _ _ _ _ (fun e => hbn.2.2 (e ▸ hk)), fun _ h => .inl h, by simp [c']⟩
  have hjl : j < c.B.length := (List.getElem?_eq_some_iff.1 hB).1
  have hBj : c'.B[j]? = some bl' := by simp [c', hjl]
  have hBi : ∀ i, i ≠ j → c'.B[i]? = c.B[i]? := fun i hij => List.getElem?_set_ne (Ne.symm hij)
  have ha : ∀ i, At c c' i i := fun i => by
    by_cases hij : i = j
    · subst hij
      refine ⟨fun x hx => hx, fun t' d rs hr => ?_, fun cs hc => ?_, fun d m hm => absurd (by rw [hB] at hm; exact Option.some.inj hm) (hmap d m), fun b' t' k hb' hcap => ?_⟩
      · rw [hB] at hr; cases hr
        obtain ⟨rs', h1, h2⟩ := hrows _ _ _ rfl
        exact ⟨rs', by rw [hBj, h1], h2⟩
      · rw [hB] at hc; cases hc
        obtain ⟨cs', h1, h2⟩ := hbox _ rfl
        exact ⟨cs', by rw [hBj, h1], h2⟩
      · rw [hφ] at hb'; cases hb'
        obtain ⟨cu, h1, h2⟩ := hcap
        rw [hb] at h1; cases h1
        exact ⟨cur', setRow_heap _ _ _ _ _ _ hb, by omega⟩
    · exact At.same rfl (hBi i hij) (fun b' hb' => setRow_other _ _ _ _ (fun e => hij (h.inj _ _ _ hb' (by rw [e]; exact hφ))))
  refine ⟨hi, ha, fun hbr => ⟨by simp [c', h.len], fun i k hk => ?_, h.inj, fun k hk => ?_, fun i x hx => ?_, h.os, h.tape, h.output, ?_, fun k hk hM => ?_⟩⟩
  · have := h.new i k hk
    simpa [c'] using this
  · have := h.imm k hk
    simpa [c'] using this
  · by_cases hij : i = j
    · subst hij
      rw [hBj] at hx
      cases hx
      exact hbr
    · rw [hBi i hij] at hx
      exact (h.blk i x hx).mono hi ha rfl (fun b' hb' => setRow_other _ _ _ _ (fun e => hij (h.inj _ _ _ hb' (by rw [e]; exact hφ))))
  · have := h.size
    simpa [c'] using this
  · rw [← h.keep k hk hM]
    refine setRow_other _ _ _ _ (fun e => ?_)
    subst e
    rcases hbn.1 with h1 | h1
    · exact hM h1
    · omega

/-- The cells of an array in which some were written. -/
theorem put_cells {cur : Array Value} {vs : List Value} {o i : Nat} (h : o + vs.length ≤ cur.size) :
    let cur' := (cur.toList.take o ++ vs ++ cur.toList.drop (o + vs.length)).toArray
    cur'.size = cur.size ∧ ((o ≤ i ∧ i < o + vs.length) → cur'.getD i undef = vs.getD (i - o) undef) ∧ (¬ (o ≤ i ∧ i < o + vs.length) → cur'.getD i undef = cur.getD i undef) := by
  intro cur'
  have h1 : (cur.toList.take o).length = o := by rw [List.length_take, Array.length_toList]; omega
  have hg : ∀ i, cur'.getD i undef = (cur.toList.take o ++ vs ++ cur.toList.drop (o + vs.length)).getD i undef := fun i => by
    simp [cur', Array.getD_eq_getD_getElem?, List.getD_eq_getElem?_getD]
  refine ⟨by simp only [cur', List.size_toArray, List.length_append, h1, List.length_drop, Array.length_toList]; omega, fun hi => ?_, fun hi => ?_⟩
  · rw [hg, List.getD_eq_getElem?_getD, List.getElem?_append_left (by simp only [List.length_append, h1]; omega), List.getElem?_append_right (by omega), h1, ← List.getD_eq_getElem?_getD]
  · rw [hg, List.getD_eq_getElem?_getD, Array.getD_eq_getD_getElem?]
    by_cases hlt : i < o
    · rw [List.append_assoc, List.getElem?_append_left (by omega), List.getElem?_take, if_pos hlt, Array.getElem?_toList]
    · rw [List.getElem?_append_right (by simp only [List.length_append, h1]; omega), List.getElem?_drop, List.length_append, h1, Array.getElem?_toList]
      congr 2
      omega

theorem tl_getD (cs : Array Value) (k : Nat) : cs.toList.getD k undef = cs.getD k undef := by
  rw [List.getD_eq_getElem?_getD, Array.getD_eq_getD_getElem?, Array.getElem?_toList]

theorem plainL_iff : ∀ {ts : List CT} {xs : List AC}, (xs.length = ts.length ∧ ∀ (i : Nat) (ct : CT) (x : AC), ts[i]? = some ct → xs[i]? = some x → plainC ct x = true) → plainL ts xs = true
  | [], [], _ => rfl
  | t :: ts, x :: xs, h => by
    simp only [plainL, Bool.and_eq_true]
    exact ⟨h.2 0 t x rfl rfl, plainL_iff ⟨by simpa using h.1, fun i ct x hc hx => h.2 (i + 1) ct x (by simpa using hc) (by simpa using hx)⟩⟩
  | [], _ :: _, h => by simp at h
  | _ :: _, [], h => by simp at h
theorem plainL_splice {ts : List CT} {l vc : List AC} {o : Nat} (hl : plainL ts l = true) (h : o + vc.length ≤ l.length) (hv : plainL ((ts.drop o).take vc.length) vc = true) : plainL ts (splice l o vc) = true := by
  have h1 := plainL_get hl
  have h2 := plainL_get hv
  refine plainL_iff ⟨by rw [splice_len h, h1.1], fun i ct x hc hx => ?_⟩
  rcases splice_get h hx with ⟨g1, g2, g3⟩ | ⟨g1, g3⟩
  · refine h2.2 (i - o) ct x ?_ g3
    rw [List.getElem?_take, if_pos (by omega), List.getElem?_drop, show o + (i - o) = i by omega]
    exact hc
  · exact h1.2 i ct x hc g3

theorem op_store (h : Good w0 M c0 n0 c N st a) (hd : ∀ n, o.dst = some n → n < N) (hx : Nx E w0 M c0 n0 N K next) {t : TypeId} {x z : Operand} (ho : o.op = .store t x z)
    (hk : exOp E call n0 o st K = true) : o.wp E.P a c.w next Q := by
  unfold exOp at hk
  simp only [ho] at hk
  have hxv := ev_ok (E := E) h 2 x
  have hzv := ev_ok (E := E) h t z
  split at hk
  · rename_i B' hst
    rw [← h.b] at hst
    unfold storeA at hst
    split at hst
    · rename_i j i o' vc hxe hvc
      rw [hxe] at hxv
      split at hst
      · rename_i hlen
        simp only [Bool.and_eq_true] at hlen
        have hct1 := Nat.le_of_ble_eq_true hlen.2
        have hlen := Nat.eq_of_beq_eq_true hlen.1
        obtain ⟨hv1, hv2⟩ := cells_of hzv hvc
        have hvl : (a.eval z).cells.toList.length = vc.length := by simpa using hv1
        have hone : ∀ v ∈ (a.eval z).cells.toList, v.oneCell' = true := by
          intro v hv
          obtain ⟨i, hi⟩ := List.getElem?_of_mem hv
          have hlt := (List.getElem?_eq_some_iff.1 hi).1
          have hq := getD_some (l := vc) (i := i) .any (by omega)
          have := (hv2 _ _ hq).oneCell
          have e1 : (a.eval z).cells.getD i undef = v := by
            rw [Array.getElem?_toList] at hi
            rw [Array.getD_eq_getD_getElem?, hi]; rfl
          rwa [e1] at this
        generalize hg : a.eval x = vx at hxv
        -- the store itself
        have fin : ∀ {b p : Nat} {cur : Array Value} {tt : TypeId}, vx = .pointer (some ⟨b, p, none⟩) → c.w.heap[b]? = some (.cells cur tt (0, 0)) → p + vc.length ≤ cur.size → 1 ≤ E.P.cellsOf t →
            (execOp a.eval o).run E.P c.w = .ok .skip (c.w.setRow b (cur.toList.take p ++ (a.eval z).cells.toList ++ cur.toList.drop (p + (a.eval z).cells.toList.length)).toArray) := by
          intro b p cur tt hvx hb hp h1
          subst hvx
          have hs := run_storeCells_at E.P b p tt (a.eval z).cells.toList 0 cur c.w hb (by omega) hone
          simp only [Nat.add_zero] at hs
          simp only [execOp, ho, hg, Instr.storeAt, Instr.sureAddr, storeVar, Sem.run_bind, Sem.run_pure, Result.andThen_ok, run_sizeOf' h1, Sem.run_ite]
          rw [if_neg (by simp; omega), hs]
          rfl
        cases hxv with
        | one hxv =>
          cases hxv with
          | @ptrB _ b _ cs hB hφ =>
            rw [hB] at hst
            simp only at hst
            split at hst
            · rename_i hle
              have hle := Nat.le_of_ble_eq_true hle
              cases hst
              have hbl := h.own.blk _ _ hB
              cases hbl with
              | @box _ b' cur tt h1 h2 h3 h4 =>
                rw [h1] at hφ
                cases hφ
                by_cases hz : E.P.cellsOf t = 0
                · omega
                · have hpc := fun i => put_cells (i := i) (cur := cur) (vs := (a.eval z).cells.toList) (o := o') (by omega)
                  obtain ⟨hi, ha, hO⟩ := h.own.write (cur' := (cur.toList.take o' ++ (a.eval z).cells.toList ++ cur.toList.drop (o' + (a.eval z).cells.toList.length)).toArray) (bl' := .box (splice cs o' vc)) hB h1 h2 (hpc 0).1 (fun _ _ _ e => by cases e) (fun cs' e => by cases e; exact ⟨_, rfl, splice_len (by omega)⟩) (fun _ _ e => by cases e)
                  have hO := hO (.box (b := b) h1 (setRow_heap _ _ _ _ _ _ h2) (by rw [(hpc 0).1, splice_len (by omega)]; exact h3) (fun m q hq => by
                    rcases splice_get (by omega) hq with ⟨h5, h6, h7⟩ | ⟨h5, h7⟩
                    · rw [(hpc m).2.1 (by omega)]
                      have := (hv2 _ _ h7).mono hi ha
                      rw [tl_getD]
                      exact this
                    · rw [(hpc m).2.2 (by omega)]
                      exact (h4 _ _ h7).mono hi ha))
                  have hG := h.move hi ha hO { st with b := c.B.set j (.box (splice cs o' vc)) } rfl rfl
                  exact wp_nop (fin rfl h2 (by omega) (by omega)) (hx _ _ _ hk (hG.set hd .undef))
            · cases hst
          | @ptrR _ b i _ e d l hB hφ hi =>
            rw [hB] at hst
            simp only at hst
            split at hst
            · rename_i hle
              simp only [Bool.and_eq_true] at hle
              have hpl := hle.2
              have hle := Nat.le_of_ble_eq_true hle.1
              cases hst
              have hbl := h.own.blk _ _ hB
              cases hbl with
              | @rows _ _ _ b' cap cur h1 h2 h3 h4 h5 h8 =>
                rw [h1] at hφ
                cases hφ
                have h9 : (i + 1) * size d ≤ cap * size d := Nat.mul_le_mul_right _ (by omega)
                rw [Nat.add_mul] at h9
                have hpc := fun m => put_cells (i := m) (cur := cur) (vs := (a.eval z).cells.toList) (o := i * size d + o') (by omega)
                have hml : (vc.map toPlain).length = vc.length := by simp
                have hvp : ∀ (m : Nat) (q : AC), (vc.map toPlain)[m]? = some q → CRel c q ((a.eval z).cells.getD m undef) := map_rel hv2
                have hel : (enc d (elem d l i)).length = size d := enc_len _ _
                have hspl : plainL (cts d) (splice (enc d (elem d l i)) o' (vc.map toPlain)) = true := plainL_splice (enc_plainL d _) (by rw [hml, hel]; exact hle) (by rw [hml]; exact hpl)
                have hscell : ∀ (o2 : Nat) (q : AC), (splice (enc d (elem d l i)) o' (vc.map toPlain))[o2]? = some q →
                    (o' ≤ o2 ∧ o2 < o' + vc.length ∧ (vc.map toPlain)[o2 - o']? = some q) ∨ (¬ (o' ≤ o2 ∧ o2 < o' + vc.length) ∧ (enc d (elem d l i))[o2]? = some q) := by
                  intro o2 q hq
                  rcases splice_get (by omega) hq with ⟨h10, h11, h12⟩ | ⟨h10, h12⟩
                  · exact .inl ⟨h10, by omega, h12⟩
                  · exact .inr ⟨by omega, h12⟩
                have henc : enc d (mk d (splice (enc d (elem d l i)) o' (vc.map toPlain))) = splice (enc d (elem d l i)) o' (vc.map toPlain) := enc_mk (c := c) d _ hspl (fun m q hq => by
                  rcases hscell m q hq with ⟨_, _, h12⟩ | ⟨_, h12⟩
                  · exact ⟨_, hvp _ _ h12⟩
                  · exact ⟨_, h8 _ _ _ hi h12⟩)
                obtain ⟨hi', ha, hO⟩ := h.own.write (cur' := (cur.toList.take (i * size d + o') ++ (a.eval z).cells.toList ++ cur.toList.drop (i * size d + o' + (a.eval z).cells.toList.length)).toArray) (bl' := .rows e d (l.set i (mk d (splice (enc d (elem d l i)) o' (vc.map toPlain))))) hB h1 h2 (hpc 0).1 (fun t' d' rs' e' => by cases e'; exact ⟨_, rfl, by simp⟩) (fun cs' e' => by cases e') (fun d m e' => by cases e')
                have hO := hO (.rows (b := b) (cap := cap) h1 (setRow_heap _ _ _ _ _ _ h2) (by rw [(hpc 0).1]; exact h3) (by simp; exact h4) h5 (fun m o2 q hm hq => by
                  have hlt : m < l.length := by simpa using hm
                  have ho2 := enc_lt hq
                  by_cases hmi : m = i
                  · subst hmi
                    have e1 : elem d (l.set m (mk d (splice (enc d (elem d l m)) o' (vc.map toPlain)))) m = mk d (splice (enc d (elem d l m)) o' (vc.map toPlain)) := by
                      conv => lhs; unfold elem
                      rw [List.getD_eq_getElem?_getD, List.getElem?_set_self hlt]; rfl
                    rw [e1, henc] at hq
                    rcases hscell o2 q hq with ⟨h10, h11, h12⟩ | ⟨h10, h12⟩
                    · rw [(hpc _).2.1 (by omega)]
                      have := (hvp _ _ h12).mono hi' ha
                      rw [tl_getD, show m * size d + o2 - (m * size d + o') = o2 - o' by omega]
                      exact this
                    · rw [(hpc _).2.2 (by omega)]
                      exact (h8 _ _ _ hlt h12).mono hi' ha
                  · have e1 : elem d (l.set i (mk d (splice (enc d (elem d l i)) o' (vc.map toPlain)))) m = elem d l m := by
                      conv => lhs; unfold elem
                      rw [List.getD_eq_getElem?_getD, List.getElem?_set_ne (Ne.symm hmi)]; rw [← List.getD_eq_getElem?_getD]; rfl
                    rw [e1] at hq
                    have hne : ¬ (i * size d + o' ≤ m * size d + o2 ∧ m * size d + o2 < i * size d + o' + (a.eval z).cells.toList.length) := by
                      intro ⟨h15, h16⟩
                      rcases Nat.lt_trichotomy m i with hmi | hmi | hmi
                      · have : (m + 1) * size d ≤ i * size d := Nat.mul_le_mul_right _ hmi
                        rw [Nat.add_mul] at this
                        omega
                      · omega
                      · have : (i + 1) * size d ≤ m * size d := Nat.mul_le_mul_right _ hmi
                        rw [Nat.add_mul] at this
                        omega
                    rw [(hpc _).2.2 hne]
                    exact (h8 _ _ _ hlt hq).mono hi' ha))
                have hG := h.move hi' ha hO { st with b := c.B.set j (.rows e d (l.set i (mk d (splice (enc d (elem d l i)) o' (vc.map toPlain))))) } rfl rfl
                exact wp_nop (fin rfl h2 (by omega) (by omega)) (hx _ _ _ hk (hG.set hd .undef))
              | none h1 => rw [h1] at hφ; cases hφ
            · cases hst
      · cases hst
    · cases hst
  · cases hk
end
end Go.X
