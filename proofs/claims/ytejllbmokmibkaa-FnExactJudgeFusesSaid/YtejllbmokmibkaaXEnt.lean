/- What is known of a function may stand in the place of its code. -/
import Derived.Test.YtejllbmokmibkaaXCode
namespace Go.X
open Go
set_option linter.unusedSimpArgs false
set_option linter.unusedVariables false

/-- Plain data is read in any memory that holds it. -/
theorem CRel.plain_up {P : Program} {c c1 : Cx} (hw : ∀ b, c.I b → c1.w.heap[b]? = c.w.heap[b]?) (hI : ∀ b, c.I b → c1.I b) {x : AC} {v : Value} (h : CRel P c x v) : ∀ {t : CT}, WT P t x → CRel P c1 x v := by
  induction h with
  | int h => intro t _; exact .int h
  | bool => intro t _; exact .bool
  | str h => intro t _; exact .str h
  | emp h h' => intro t _; exact .emp h h'
  | dat vals hwt hl hc hs hIb hcell hr ih =>
    intro t _
    refine .dat vals hwt hl hc hs (hI _ hIb) (fun i row o x hx hy => ?_) (fun i row o x hx hy => ?_)
    · exact (World.cell?_of_block (a := ⟨_, _, none⟩) (hw _ hIb)).trans (hcell i row o x hx hy)
    · obtain ⟨_, _, hw'⟩ := hwt.cell hx hy
      exact ih i row o x hx hy hw'
  | any h => intro t _; exact .any h
  | nnE _ => intro t ht; cases ht
  | nn _ _ _ => intro t ht; cases ht
  | nilS => intro t ht; cases ht
  | own _ _ _ _ _ => intro t ht; cases ht
  | ownN _ _ => intro t ht; cases ht
  | sub _ _ _ _ _ _ => intro t ht; cases ht
  | subE _ _ _ => intro t ht; cases ht
  | ptrB _ _ => intro t ht; cases ht
  | ptrR _ _ _ => intro t ht; cases ht
  | pdat _ _ _ _ _ _ _ _ => intro t ht; cases ht
  | fn _ _ _ => intro t ht; cases ht

/-- Rows of a block, as plain data. -/
theorem rows_dat {P : Program} {c c1 : Cx} {t : TypeId} {rs : List (List AC)} {b off cap : Nat} {cur : Array Value} (hw : c1.w = c.w) (hI : ∀ b, c.I b → c1.I b) (hIb : c1.I b) (hh : c.w.heap[b]? = some (.cells cur t (0, 0)))
    (hwt : WT P (.sl t) (.dat t rs)) (hl : rs.length ≤ cap) (hc : cap ≤ maxLen) (hsz : off + rs.length * P.cellsOf t ≤ cur.size)
    (hr : ∀ (i : Nat) (row : List AC) (o : Nat) (x : AC), rs[i]? = some row → row[o]? = some x → CRel P c x (cur.getD (off + (i * P.cellsOf t + o)) undef)) : CRel P c1 (.dat t rs) (.slice (some ⟨b, off, none⟩) rs.length cap) := by
  refine .dat (fun i o => cur.getD (off + (i * P.cellsOf t + o)) undef) hwt hl hc rfl hIb (fun i row o x hx hy => ?_) (fun i row o x hx hy => ?_)
  · obtain ⟨ho, hi⟩ := wt_row_lt hwt hx hy
    have h9 : (i + 1) * P.cellsOf t ≤ rs.length * P.cellsOf t := Nat.mul_le_mul_right _ hi
    rw [Nat.add_mul] at h9
    show c1.w.cell? ⟨b, off + (i * P.cellsOf t + o), none⟩ = _
    rw [hw, cell_of_row _ _ _ _ _ _ hh]
    exact agetD (by omega)
  · obtain ⟨_, _, hw'⟩ := hwt.cell hx hy
    exact (hr i row o x hx hy).plain_up (fun b _ => by rw [hw]) hI hw'

theorem view_rows {P : Program} {w0 : World} {M : Nat → Prop} {c c1 : Cx} (hO : Own P w0 M c) (hw : c1.w = c.w) (hI : ∀ b, c.I b → c1.I b) {x : AC} {v : Value} {t : TypeId} {rs : List (List AC)} (hx : CRel P c x v) (h : rowsV c.B x = some (t, rs))
    (hrf : ∀ j ∈ x.refs, ∀ b, c.φ[j]? = some (some b) → c1.I b) : CRel P c1 (.dat t rs) v := by
  unfold rowsV at h
  split at h
  · cases h
    cases hx with
    | emp h h' => exact .emp h h'
    | dat vals hwt hl hc hs hIb hcell hr => exact (CRel.dat vals hwt hl hc hs hIb hcell hr).plain_up (fun b _ => by rw [hw]) hI hwt
  · cases h
    cases hx with
    | nnE h => exact .emp h (fun e => by cases e)
    | nn hne hx =>
      cases hx with
      | emp h h' => exact absurd rfl hne
      | dat vals hwt hl hc hs hIb hcell hr => exact (CRel.dat vals hwt hl hc hs hIb hcell hr).plain_up (fun b _ => by rw [hw]) hI hwt
  · cases h
    cases hx
    exact .emp (Nat.zero_le _) (fun _ => rfl)
  · rename_i j
    split at h
    · rename_i t' rs' hB
      cases h
      cases hx with
      | @own _ b t2 rs2 cap hB2 hφ hl hc hcap =>
        rw [hB] at hB2
        cases hB2
        cases hO.blk _ _ hB with
        | @rows _ _ b2 cap2 cur h1 h2 h3 h4 h5 h6 h7 h8 =>
          rw [h1] at hφ
          cases hφ
          have h9 : rs.length * P.cellsOf t ≤ cap2 * P.cellsOf t := Nat.mul_le_mul_right _ h4
          have := rows_dat (c1 := c1) (off := 0) hw hI (hrf j (by simp [AC.refs, AC.refs0]) _ h1) h2 h7 hl hc (by omega) (fun i row o x hx hy => by rw [Nat.zero_add]; exact h8 i row o x hx hy)
          exact this
        | none h1 _ => rw [h1] at hφ; cases hφ
      | ownN hB2 hφ =>
        rw [hB] at hB2
        cases hB2
        exact .emp (Nat.zero_le _) (fun _ => rfl)
    · cases h
  · rename_i j off n
    split at h
    · rename_i t' rs' hB
      cases h
      cases hx with
      | @sub _ b t2 rs2 _ _ cap hB2 hφ hl hl2 hc hcap =>
        rw [hB] at hB2
        cases hB2
        cases hO.blk _ _ hB with
        | @rows _ _ b2 cap2 cur h1 h2 h3 h4 h5 h6 h7 h8 =>
          rw [h1] at hφ
          cases hφ
          have hlen : ((rs'.drop off).take n).length = n := by rw [List.length_take, List.length_drop]; omega
          have h9 : (off + n) * P.cellsOf t ≤ cap2 * P.cellsOf t := Nat.mul_le_mul_right _ (by omega)
          rw [Nat.add_mul] at h9
          have hwt : WT P (.sl t) (.dat t ((rs'.drop off).take n)) := h7.mono_rows (by rw [hlen]; omega) (fun r hr => List.mem_of_mem_drop (List.mem_of_mem_take hr))
          have hnc : n ≤ cap := by omega
          have hcm : cap ≤ maxLen := by omega
          have := rows_dat (c1 := c1) (cap := cap) (off := off * P.cellsOf t) hw hI (hrf j (by simp [AC.refs, AC.refs0]) _ h1) h2 hwt (by rw [hlen]; exact hnc) hcm (by rw [hlen, h3]; exact h9) (fun i row o x hx hy => by
            rw [List.getElem?_take] at hx
            split at hx
            · rw [List.getElem?_drop] at hx
              have := h8 (off + i) row o x hx hy
              rw [Nat.add_mul, Nat.add_assoc] at this
              exact this
            · cases hx)
          rw [hlen] at this
          exact this
        | none h1 _ => rw [h1] at hφ; cases hφ
      | subE hB2 hl ha =>
        rw [hB] at hB2
        cases hB2
        simp only [List.take_zero]
        exact .emp (Nat.zero_le _) (fun _ => rfl)
    · cases h
  · cases h

theorem view_cell {P : Program} {w0 : World} {M : Nat → Prop} {c c1 : Cx} (hO : Own P w0 M c) (hw : c1.w = c.w) (hI : ∀ b, c.I b → c1.I b) {x y : AC} {v : Value} (hx : CRel P c x v) (h : x.view c.B = some y)
    (hrf : ∀ j ∈ x.refs, ∀ b, c.φ[j]? = some (some b) → c1.I b) : CRel P c1 y v := by
  unfold AC.view at h
  split at h
  · cases h; cases hx with | int h => exact .int h
  · cases h; cases hx; exact .bool
  · cases h; cases hx with | str h => exact .str h
  · split at h
    · rename_i t rs hr
      cases h
      exact view_rows hO hw hI hx hr hrf
    · cases h

theorem viewL_get {B : List Blk} : ∀ {xs ys : List AC}, viewL B xs = some ys → ys.length = xs.length ∧ ∀ (i : Nat) (y : AC), ys[i]? = some y → ∃ x, xs[i]? = some x ∧ x.view B = some y
  | [], ys, h => by cases h; exact ⟨rfl, fun i y hy => by simp at hy⟩
  | x :: xs, ys, h => by
    unfold viewL at h
    split at h
    · rename_i y s hy hs
      cases h
      obtain ⟨h1, h2⟩ := viewL_get hs
      refine ⟨by simp [h1], fun i z hz => ?_⟩
      cases i with
      | zero => simp at hz; subst hz; exact ⟨x, rfl, hy⟩
      | succ i => exact h2 i z (by simpa using hz)
    · cases h
theorem viewA_get {B : List Blk} : ∀ {xs ys : List AV}, viewA B xs = some ys → ys.length = xs.length ∧ ∀ (i : Nat) (y : AV), ys[i]? = some y → ∃ x, xs[i]? = some x ∧ x.view B = some y
  | [], ys, h => by cases h; exact ⟨rfl, fun i y hy => by simp at hy⟩
  | x :: xs, ys, h => by
    unfold viewA at h
    split at h
    · rename_i y s hy hs
      cases h
      obtain ⟨h1, h2⟩ := viewA_get hs
      refine ⟨by simp [h1], fun i z hz => ?_⟩
      cases i with
      | zero => simp at hz; subst hz; exact ⟨x, rfl, hy⟩
      | succ i => exact h2 i z (by simpa using hz)
    · cases h

theorem view_val {P : Program} {w0 : World} {M : Nat → Prop} {c c1 : Cx} (hO : Own P w0 M c) (hw : c1.w = c.w) (hI : ∀ b, c.I b → c1.I b) {x y : AV} {v : Value} (hx : VRel P c x v) (h : x.view c.B = some y)
    (hrf : ∀ j ∈ x.refs, ∀ b, c.φ[j]? = some (some b) → c1.I b) : VRel P c1 y v := by
  unfold AV.view at h
  split at h
  · split at h
    · rename_i z hz
      cases h
      cases hx with
      | one hx => exact .one (view_cell hO hw hI hx hz hrf)
    · cases h
  · rename_i l
    split at h
    · rename_i s hs
      cases h
      obtain ⟨h1, h2⟩ := viewL_get hs
      cases hx with
      | agg hsz hr =>
        refine .agg (by omega) (fun i z hz => ?_)
        obtain ⟨q, hq, hv⟩ := h2 i z hz
        exact view_cell hO hw hI (hr i q hq) hv (fun j hj => hrf j (by
          show j ∈ l.flatMap AC.refs
          exact List.mem_flatMap.2 ⟨q, List.mem_of_getElem? hq, hj⟩))
    · cases h
  · cases h

/-- A function that is handed plain data: from what holds where there is nothing else. -/
def RoOk (P : Program) (f : FuncId) (go : List AV → List Blk → Kont → Bool) : Prop :=
  ∀ (args : List AV) (K : Kont), go args [] K = true →
  ∀ (w0 : World) (M : Nat → Prop) (c : Cx) (vs : Array Value), Own P w0 M c → c.B = [] → vs.size = args.length → (∀ (i : Nat) (x : AV), args[i]? = some x → VRel P c x (vs.getD i undef)) →
  Calls P f vs c.w fun e w' => ∃ v c' rs, e = .returned v ∧ w' = c'.w ∧ K rs c'.B = true ∧ Own P w0 M c' ∧ ImmUp c c' ∧ VRel P c' (resV rs) v

theorem flatC_rn {P : Program} {c c' : Cx} {n : Nat} {x : AC} {v : Value} (hf : flatC x = true) (hA : ∀ j, At P c c' j (n + j)) (h : CRel P c x v) : CRel P c' (x.rn (shiftN n)) v := by
  cases x with
  | int k m => cases h with | int h => exact .int h
  | bool b => cases h; exact .bool
  | str s => cases h with | str h => exact .str h
  | own j =>
    cases h with
    | @own _ b t rs cap hB hφ hl hc hcap =>
      obtain ⟨rs', h1, h2⟩ := (hA j).rows _ _ hB
      rw [← h2]
      exact .own h1 ((hA j).φ _ hφ) (by omega) hc ((hA j).cap _ _ _ hφ hcap)
    | ownN hB hφ =>
      obtain ⟨rs', h1, h2⟩ := (hA j).rows _ _ hB
      have : rs' = [] := by simpa using h2
      subst this
      exact .ownN h1 ((hA j).φ _ hφ)
  | _ => simp [flatC] at hf

theorem resV_map (g : Nat → Option Nat) (rs : List AV) (h : ∀ r ∈ rs, ∀ l, r ≠ .tup l) : resV (rs.map fun x => x.rn g) = (resV rs).rn g := by
  match rs with
  | [] => rfl
  | [v] => rfl
  | v :: u :: r =>
    show AV.tup ((v :: u :: r).map fun x => x.rn g) = AV.tup ((v :: u :: r).map (AV.rn1 g))
    congr 1
    apply List.map_congr_left
    intro x hx
    cases x with
    | tup l => exact absurd rfl (h _ hx l)
    | _ => rfl

theorem noRefs_ok {args : List AV} (h : noRefs args = true) {x : AV} (hx : x ∈ args) : ∀ j, j ∉ x.refs := by
  intro j hj
  have := List.all_eq_true.1 h x hx
  cases hr : x.refs with
  | nil => rw [hr] at hj; cases hj
  | cons a l => rw [hr] at this; cases this

theorem flat_rows {P : Program} {c c' : Cx} {t : TypeId} (hf : (ctsOf P t).all (fun c => match c with | .int _ | .bool | .str => true | _ => false) = true) {rs : List (List AC)} (hw : WT P (.sl t) (.dat t rs)) {i o : Nat} {row : List AC} {x : AC} {v : Value} (hx : rs[i]? = some row) (hy : row[o]? = some x) (h : CRel P c x v) : CRel P c' x v := by
  obtain ⟨ct, hct, hw'⟩ := hw.cell hx hy
  have := List.all_eq_true.1 hf ct (List.mem_of_getElem? hct)
  cases hw' with
  | int _ => cases h with | int h => exact .int h
  | bool => cases h; exact .bool
  | str _ => cases h with | str h => exact .str h
  | sl _ _ _ _ => cases this
  | oth => cases this

theorem flatV_rn {P : Program} {c c' : Cx} {n : Nat} {x : AV} {v : Value} (hf : flatV x = true) (hA : ∀ j, At P c c' j (n + j)) (h : VRel P c x v) : VRel P c' (x.rn (shiftN n)) v := by
  cases x with
  | one x => cases h with | one h => exact .one (flatC_rn hf hA h)
  | agg l =>
    cases h with
    | agg hs hr =>
      refine .agg (by simpa using hs) (fun i z hz => ?_)
      rw [List.getElem?_map] at hz
      cases hq : l[i]? with
      | none => rw [hq] at hz; cases hz
      | some q =>
        rw [hq] at hz; cases hz
        exact flatC_rn (List.all_eq_true.1 hf q (List.mem_of_getElem? hq)) hA (hr i q hq)
  | _ => simp [flatV] at hf

/-- The results of one's call, behind one's own blocks. -/
theorem ro_ok {P : Program} {f : FuncId} {go : List AV → List Blk → Kont → Bool} (h : RoOk P f go) : CallOk1 P f (callEnt P ⟨true, go⟩) := by
  intro args B K hk w0 M c vs hO hB hsz hr
  unfold callEnt at hk
  simp only at hk
  split at hk
  · rename_i args' hargs
    obtain ⟨g1, g2⟩ := viewA_get hargs
    let c1 : Cx := ⟨c.w, fun b => c.I b ∨ (noRefs args = false ∧ ∃ j : Nat, c.φ[j]? = some (some b)), [], []⟩
    have hO1 : Own P c.w (fun _ => False) c1 := ⟨rfl, fun j b hb => by simp [c1] at hb, fun i j b hb => by simp [c1] at hb, fun b hb => hb.elim (hO.imm b) (fun ⟨_, j, hj⟩ => (hO.new j b hj).2.1), fun j x hx => by simp [c1] at hx, rfl, rfl, rfl, Nat.le_refl _, fun b _ _ => rfl⟩
    refine (h args' _ hk c.w (fun _ => False) c1 vs hO1 rfl (by omega) (fun i x' hx' => ?_)).mono fun e w' ⟨v, c', rs, he, hw, hK, hO', hi, hres⟩ => ?_
    · obtain ⟨x, hx, hv⟩ := g2 i x' hx'
      rw [← hB] at hv
      refine view_val (c1 := c1) hO rfl (fun b hb => .inl hb) (hr i x hx) hv (fun j hj b hb => ?_)
      refine .inr ⟨?_, j, hb⟩
      cases hn : noRefs args with
      | false => rfl
      | true => exact absurd hj (noRefs_ok hn (List.mem_of_getElem? hx) j)
    · subst he; subst hw
      split at hK
      · rename_i hfl
        simp only [Bool.and_eq_true] at hfl
        obtain ⟨hrs, hfl⟩ := hfl
        have hrs : ∀ r ∈ rs, ∀ l, r ≠ AV.tup l := fun r hr l e => by
          have := List.all_eq_true.1 hrs r hr
          rw [e] at this
          cases this
        · skip
          -- the blocks of the caller are as they were
          have hkeep : ∀ b, b < c.w.heap.size → c'.w.heap[b]? = c.w.heap[b]? := fun b hb => hO'.keep b hb (fun hh => hh)
          let I' : Nat → Prop := fun b => c.I b ∨ (noRefs args = true ∧ c'.I b)
          let cf : Cx := ⟨c'.w, I', c.φ ++ c'.φ, c.B ++ c'.B.map fun b => b.rn (shiftN B.length)⟩
          have hlen := hO.len
          have hφo : ∀ j, j < c.B.length → cf.φ[j]? = c.φ[j]? := fun j hj => List.getElem?_append_left (by omega)
          have hBo : ∀ j, j < c.B.length → cf.B[j]? = c.B[j]? := fun j hj => List.getElem?_append_left hj
          have hφn : ∀ j, cf.φ[c.B.length + j]? = c'.φ[j]? := fun j => by
            show (c.φ ++ c'.φ)[c.B.length + j]? = _
            rw [List.getElem?_append_right (by omega), hlen, Nat.add_sub_cancel_left]
          have hBn : ∀ j, cf.B[c.B.length + j]? = (c'.B[j]?).map (fun b => b.rn (shiftN B.length)) := fun j => by
            show (c.B ++ _)[c.B.length + j]? = _
            rw [List.getElem?_append_right (by omega), Nat.add_sub_cancel_left, List.getElem?_map]
          have hiu : ImmUp c cf := ⟨fun b hb => .inl hb, fun b hb => hkeep b (hO.imm b hb), fun b hb => by
            rcases hb with hb | ⟨hn, hb⟩
            · exact .inl hb
            · rcases hi.new b hb with hb | hb
              · rcases hb with hb | ⟨hn', _⟩
                · exact .inl hb
                · rw [hn] at hn'; cases hn'
              · exact .inr hb, hi.grow⟩
          have hao : ∀ j, j < c.B.length → At P c cf j j := fun j hj => At.same (hφo j hj) (hBo j hj) (fun b hb => hkeep b (hO.new j b hb).2.1)
          have haall : ∀ j, At P c cf j j := fun j => by
            by_cases hj : j < c.B.length
            · exact hao j hj
            · exact .vac hO cf (by omega)
          have han : ∀ j, At P c' cf j (c.B.length + j) := fun j =>
            ⟨fun x hx => by rw [hφn]; exact hx, fun t rs hr => ⟨rs, by rw [hBn, hr]; rfl, rfl⟩, fun cs hc => ⟨cs.map (AC.rn (shiftN B.length)), by rw [hBn, hc]; rfl, by simp⟩, fun b t k _ h => h⟩
          have hg : ∀ j n, shiftN B.length j = some n → At P c' cf j n := fun j n hn => by
            cases hn
            have := han j
            rw [hB] at this
            exact this
          -- where what was handed in leads nowhere
          have hiu' : noRefs args = true → ImmUp c' cf := fun hn => ⟨fun b hb => .inr ⟨hn, hb⟩, fun _ _ => rfl, fun b hb => by
            rcases hb with hb | ⟨_, hb⟩
            · exact .inl (hi.up b (.inl hb))
            · exact .inl hb, Nat.le_refl _⟩
          have hOf : Own P w0 M cf := by
            refine ⟨by simp [cf, hlen, hO'.len], fun j b hb => ?_, fun i j b hb hb' => ?_, fun b hb => ?_, fun j x hx => ?_, hO'.os.trans hO.os, hO'.tape.trans hO.tape, hO'.output.trans hO.output, Nat.le_trans hO.size hi.grow, fun b hb hM => ?_⟩
            · by_cases hj : j < c.B.length
              · rw [hφo j hj] at hb
                obtain ⟨h1, h2, h3⟩ := hO.new j b hb
                refine ⟨h1, Nat.lt_of_lt_of_le h2 hi.grow, fun hI => ?_⟩
                rcases hiu.new b hI with h4 | h4
                · exact h3 h4
                · omega
              · obtain ⟨j', rfl⟩ : ∃ j', j = c.B.length + j' := ⟨j - c.B.length, by omega⟩
                rw [hφn] at hb
                obtain ⟨h1, h2, h3⟩ := hO'.new j' b hb
                have h4 : c.w.heap.size ≤ b := h1.elim (fun e => e.elim) id
                refine ⟨.inr (Nat.le_trans hO.size h4), h2, fun hI => ?_⟩
                rcases hI with hI | ⟨_, hI⟩
                · have := hO.imm b hI; omega
                · exact h3 hI
            · have key : ∀ i b, cf.φ[i]? = some (some b) → (i < c.B.length ∧ c.φ[i]? = some (some b) ∧ b < c.w.heap.size) ∨ (∃ i', i = c.B.length + i' ∧ c'.φ[i']? = some (some b) ∧ c.w.heap.size ≤ b) := fun i b hb => by
                by_cases hj : i < c.B.length
                · rw [hφo i hj] at hb
                  exact .inl ⟨hj, hb, (hO.new i b hb).2.1⟩
                · obtain ⟨j', rfl⟩ : ∃ j', i = c.B.length + j' := ⟨i - c.B.length, by omega⟩
                  rw [hφn] at hb
                  exact .inr ⟨j', rfl, hb, (hO'.new j' b hb).1.elim (fun e => e.elim) id⟩
              rcases key i b hb with ⟨_, h2, h3⟩ | ⟨i', rfl, h2, h3⟩ <;> rcases key j b hb' with ⟨_, h5, h6⟩ | ⟨j', rfl, h5, h6⟩
              · exact hO.inj _ _ _ h2 h5
              · omega
              · omega
              · rw [hO'.inj _ _ _ h2 h5]
            · rcases hb with hb | ⟨_, hb⟩
              · exact Nat.lt_of_lt_of_le (hO.imm b hb) hi.grow
              · exact hO'.imm b hb
            · by_cases hj : j < c.B.length
              · rw [hBo j hj] at hx
                exact (hO.blk j x hx).mono hiu haall (hφo j hj) (fun b hb => hkeep b (hO.new j b hb).2.1)
              · obtain ⟨j', rfl⟩ : ∃ j', j = c.B.length + j' := ⟨j - c.B.length, by omega⟩
                rw [hBn] at hx
                cases hq : c'.B[j']? with
                | none => rw [hq] at hx; cases hx
                | some q =>
                  rw [hq] at hx
                  cases hx
                  have hb := hO'.blk j' q hq
                  by_cases hn : noRefs args = true
                  · cases hb with
                    | box h1 h2 h3 h4 =>
                      refine .box (by rw [hφn]; exact h1) h2 (by simpa using h3) (fun m z hz => ?_)
                      rw [List.getElem?_map] at hz
                      cases hq2 : (_ : List AC)[m]? with
                      | none => rw [hq2] at hz; cases hz
                      | some q2 => rw [hq2] at hz; cases hz; exact (h4 m q2 hq2).rn (hiu' hn) hg
                    | rows h1 h2 h3 h4 h5 h6 h7 h8 =>
                      refine .rows (by rw [hφn]; exact h1) h2 h3 h4 h5 h6 h7 (fun m row o z hz hy => ?_)
                      obtain ⟨_, _, hw⟩ := h7.cell hz hy
                      have := (h8 m row o z hz hy).rn (hiu' hn) hg
                      rwa [hw.rn] at this
                    | none h1 h2 => exact .none (by rw [hφn]; exact h1) h2
                    | dead => exact .dead
                  · have hn : noRefs args = false := by simpa using hn
                    rw [hn] at hfl
                    simp only [Bool.false_or, Bool.and_eq_true] at hfl
                    have hfb := List.all_eq_true.1 hfl.2 q (List.mem_of_getElem? hq)
                    cases hb with
                    | box _ _ _ _ => simp [flatB] at hfb
                    | rows h1 h2 h3 h4 h5 h6 h7 h8 => exact .rows (by rw [hφn]; exact h1) h2 h3 h4 h5 h6 h7 (fun m row o z hz hy => flat_rows hfb h7 hz hy (h8 m row o z hz hy))
                    | none h1 h2 => exact .none (by rw [hφn]; exact h1) h2
                    | dead => exact .dead
            · rw [← hO.keep b hb hM]
              exact hkeep b (Nat.lt_of_lt_of_le hb hO.size)
          refine ⟨v, cf, _, rfl, rfl, by rw [show cf.B = B ++ c'.B.map fun b => b.rn (shiftN B.length) by simp [cf, hB]]; exact hK, hOf, hiu, fun j hj => hao j (by rw [hB]; exact hj), ?_⟩
          rw [resV_map _ _ hrs]
          by_cases hn : noRefs args = true
          · exact hres.rn (hiu' hn) hg
          · have hn : noRefs args = false := by simpa using hn
            rw [hn] at hfl
            simp only [Bool.false_or, Bool.and_eq_true] at hfl
            have hfv := List.all_eq_true.1 hfl.1
            have han' : ∀ j, At P c' cf j (B.length + j) := fun j => by rw [← hB]; exact han j
            match rs, hres with
            | [x], hres => exact flatV_rn (hfv x (by simp)) han' hres
            | [], hres => 
              cases hres with
              | tup hs hr => exact .tup hs (fun i x hx => by simp at hx)
            | x :: z :: r, hres =>
              cases hres with
              | tup hs hr =>
                show VRel P cf (.tup ((x :: z :: r).map (AV.rn1 (shiftN B.length)))) _
                refine .tup (by simpa using hs) (fun i q hq => ?_)
                rw [List.getElem?_map] at hq
                cases hp : (x :: z :: r)[i]? with
                | none => rw [hp] at hq; cases hq
                | some p =>
                  rw [hp] at hq
                  cases hq
                  have hm := List.mem_of_getElem? hp
                  have := flatV_rn (hfv p hm) han' (hr i p hp)
                  cases p with
                  | tup l => exact absurd rfl (hrs _ hm l)
                  | _ => exact this
      · cases hK
  · cases hk

/-! ### what is known, one by one -/
def Env.add (E : Env) (f : FuncId) (en : Ent) : Env := { E with ent := fun g => match Nat.beq f g with | true => some en | false => E.ent g }

theorem EnvOk.base (P : Program) (ann : FuncId → Nat → List Nat) : EnvOk ⟨P, ann, fun _ => none⟩ := ⟨fun f en h => by simp at h⟩

theorem EnvOk.add {E : Env} (he : EnvOk E) {f : FuncId} {en : Ent} (h : CallOk1 E.P f (callEnt E.P en)) : EnvOk (E.add f en) := by
  refine ⟨fun g en' h' => ?_⟩
  change (match Nat.beq f g with | true => some en | false => E.ent g) = some en' at h'
  split at h'
  · rename_i hb
    have := Nat.eq_of_beq_eq_true hb
    subst this
    cases h'
    exact h
  · exact he.call g en' h'

/-- Results, without the blocks that they do not lead to. -/
def clean (K : Kont) : Kont := fun rs B => match noTup rs with | true => K (canonR rs B).1 (canonR rs B).2 | false => false

theorem clean_ok {P : Program} {w0 : World} {M : Nat → Prop} {c : Cx} (hO : Own P w0 M c) {rs : List AV} {v : Value} {K : Kont} (hK : clean K rs c.B = true) (hv : VRel P c (resV rs) v) :
    ∃ c' rs', c'.w = c.w ∧ K rs' c'.B = true ∧ Own P w0 M c' ∧ ImmUp c c' ∧ VRel P c' (resV rs') v := by
  unfold clean at hK
  split at hK
  · rename_i hnt
    have hnt : ∀ r ∈ rs, ∀ l, r ≠ AV.tup l := fun r hr l e => by
      have := List.all_eq_true.1 hnt r hr
      rw [e] at this
      cases this
    unfold canonR at hK
    simp only at hK
    obtain ⟨g1, m1, g2⟩ := addRefs_ok (rs.flatMap AV.refs) [] List.nodup_nil
    obtain ⟨g3, m2, g4⟩ := closeRefs_ok c.B 3 _ g1
    generalize hρ : closeRefs c.B 3 (addRefs [] (rs.flatMap AV.refs)) = ρ at g3 g4 hK
    obtain ⟨r1, r2, r3⟩ := renew_ok hO g3
    refine ⟨⟨c.w, c.I, ρ.map fun j => c.φ.getD j none, newB ρ c.B⟩, _, rfl, hK, r3, r1, ?_⟩
    rw [resV_map _ _ hnt]
    exact hv.rn r1 (fun j i hji => r2 j i (rename_ok hji))
  · cases hK

/-- What the code does, in the place of the code. -/
theorem EnvOk.put {E : Env} (he : EnvOk E) (hm : E.P.follows .mixedOrders = true) (f : FuncId) (go : List AV → List Blk → Kont → Bool)
    (h : ∀ args K, go args [] K = true → ∃ k d, bodyA E (run E k d) f k args [] (clean K) = true) : EnvOk (E.add f ⟨true, go⟩) := by
  refine he.add (ro_ok (fun args K hk w0 M c vs hO hB hsz hr => ?_))
  obtain ⟨k, d, hb⟩ := h args K hk
  refine (body_ok (run_ok he hm k d) hm k hb hO hB hsz hr).mono fun e w' ⟨v, c', rs, h1, h2, h3, h4, h5, _, h6⟩ => ?_
  obtain ⟨c2, rs2, g1, g2, g3, g4, g5⟩ := clean_ok h4 h3 h6
  exact ⟨v, c2, rs2, h1, by rw [g1]; exact h2, g2, g3, h5.trans g4, g5⟩

def isTrue : Kont := fun rs _ => match rs with | [.one (.bool b)] => b | _ => false

/-- A law's call. -/
theorem law_calls {E : Env} (he : EnvOk E) (hm : E.P.follows .mixedOrders = true) {f : FuncId} {k d : Nat} {args : List AV} (hk : bodyA E (run E k d) f k args [] isTrue = true) {w : World} {vs : Array Value} (hsz : vs.size = args.length)
    (hr : ∀ (i : Nat) (x : AV), args[i]? = some x → VRel E.P ⟨w, fun b => b < w.heap.size, [], []⟩ x (vs.getD i undef)) : Calls E.P f vs w fun e w' => e = .returned (.bool true) ∧ RowKit.Below w.heap.size w w' := by
  have hO : Own E.P w (fun _ => False) ⟨w, fun b => b < w.heap.size, [], []⟩ := ⟨rfl, fun j b hb => by simp at hb, fun i j b hb => by simp at hb, fun b hb => hb, fun j x hx => by simp at hx, rfl, rfl, rfl, Nat.le_refl _, fun b _ _ => rfl⟩
  refine (body_ok (run_ok he hm k d) hm k hk hO rfl hsz hr).mono fun e w' ⟨v, c', rs, h1, h2, h3, h4, h5, _, h6⟩ => ?_
  subst h1; subst h2
  refine ⟨?_, h4.os, h4.tape, h4.output, h4.size, fun b hb => h4.keep b hb (fun hh => hh)⟩
  unfold isTrue at h3
  split at h3
  · subst h3
    cases h6 with
    | one h6 => cases h6; rfl
  · cases h3
end Go.X
