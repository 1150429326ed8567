/- What is known of a function may stand in the place of its code. -/
import Derived.Test.YtmcgkokjcimckaaYCode
set_option linter.all false
namespace Go.X
open Go
set_option linter.unusedSimpArgs false
set_option linter.unusedVariables false

theorem CRel.wide {c : Cx} {I' : Nat → Prop} (hI : ∀ b, c.I b → I' b) {x : AC} {v : Value} (h : CRel c x v) : CRel ⟨c.w, I', c.φ, c.B⟩ x v := by
  induction h with
  | int h => exact .int h
  | bool => exact .bool
  | str h => exact .str h
  | emp h h' => exact .emp h h'
  | dat vals hl hc hs hIb hcell hr ih => exact .dat vals hl hc hs (hI _ hIb) hcell ih
  | nilS => exact .nilS
  | own a b c d e => exact .own a b c d e
  | ownN a b => exact .ownN a b
  | sub a b c d e f => exact .sub a b c d e f
  | subE a b c => exact .subE a b c
  | ptrB a b => exact .ptrB a b
  | ptrR a b c => exact .ptrR a b c
  | pdat vals hIb hcell _ ih => exact .pdat vals (hI _ hIb) hcell ih
  | fn h _ ih => exact .fn h ih
  | map a b => exact .map a b
  | any h => exact .any h
theorem VRel.wide {c : Cx} {I' : Nat → Prop} (hI : ∀ b, c.I b → I' b) {x : AV} {v : Value} (h : VRel c x v) : VRel ⟨c.w, I', c.φ, c.B⟩ x v := by
  induction h with
  | one h => exact .one (h.wide hI)
  | agg hs hr => exact .agg hs fun i x hx => (hr i x hx).wide hI
  | tup hs _ ih => exact .tup hs ih
  | undef => exact .undef
  | any => exact .any
theorem BRel.wide {c : Cx} {I' : Nat → Prop} (hI : ∀ b, c.I b → I' b) {j : Nat} {x : Blk} (h : BRel c j x) : BRel ⟨c.w, I', c.φ, c.B⟩ j x := by
  cases h with
  | box h1 h2 h3 h4 => exact .box h1 h2 h3 fun i x hx => (h4 i x hx).wide hI
  | rows h1 h2 h3 h4 h5 h8 => exact .rows h1 h2 h3 h4 h5 fun i o x hx hy => (h8 i o x hx hy).wide hI
  | none h1 => exact .none h1
  | map h1 h2 h3 h4 => exact .map h1 h2 h3 fun i k v hm => let ⟨e, z, g1, g2, g3, g4⟩ := h4 i k v hm; ⟨e, z, g1, g2, g3, g4.wide hI⟩
  | dead => exact .dead

/-- Plain data is read in any memory that holds it. -/
theorem CRel.plain_up {c c1 : Cx} (hw : ∀ b, c.I b → c1.w.heap[b]? = c.w.heap[b]?) (hI : ∀ b, c.I b → c1.I b) {x : AC} {v : Value} (h : CRel c x v) : isPlain x = true → CRel c1 x v := by
  induction h with
  | int h => intro _; exact .int h
  | bool => intro _; exact .bool
  | str h => intro _; exact .str h
  | emp h h' => intro _; exact .emp h h'
  | dat vals hl hc hs hIb hcell hr ih =>
    intro _
    refine .dat vals hl hc hs (hI _ hIb) (fun i o hx hy => ?_) (fun i o x hx hy => ih i o x hx hy (enc_mem hy))
    exact (World.cell?_of_block (a := ⟨_, _, none⟩) (hw _ hIb)).trans (hcell i o hx hy)
  | _ => intro h; cases h

/-- Rows of a block, as plain data. -/
theorem view_rows {w0 : World} {M : Nat → Prop} {c c1 : Cx} (hO : Own w0 M c) (hw : c1.w = c.w) (hI : ∀ b, c.I b → c1.I b) {x : AC} {v : Value} {d : Cd} {rs : List (den d)} (hx : CRel c x v) (h : rowsV c.B x = some ⟨d, rs⟩)
    (hrf : ∀ j ∈ x.refs, ∀ b, c.φ[j]? = some (some b) → c1.I b) : CRel c1 (.dat d rs) v := by
  have hup : ∀ {z : AC} {u : Value}, isPlain z = true → CRel c z u → CRel c1 z u := fun hz h => h.plain_up (fun b _ => by rw [hw]) hI hz
  cases x with
  | dat d' l =>
    cases h
    exact hup rfl hx
  | nilS d' =>
    cases h
    cases hx
    exact .emp (Nat.zero_le _) (fun _ => rfl)
  | own j =>
    simp only [rowsV] at h
    split at h
    · rename_i t d' l hB
      cases h
      cases hx with
      | @own _ b t2 _ l2 cap hB2 hφ hl hc hcap =>
        rw [hB] at hB2
        cases hB2
        cases hO.blk _ _ hB with
        | @rows _ _ _ b2 cap2 cur h1 h2 h3 h4 h5 h8 =>
          rw [h1] at hφ
          cases hφ
          have h9 : rs.length * size d ≤ cap2 * size d := Nat.mul_le_mul_right _ h4
          refine .dat (fun i o => cur.getD (i * size d + o) undef) hl hc rfl (hrf j (by simp [AC.refs, AC.refs0]) _ h1) (fun i o hi ho => ?_) (fun i o z hi hz => hup (enc_mem hz) (h8 i o z hi hz))
          have h10 : (i + 1) * size d ≤ rs.length * size d := Nat.mul_le_mul_right _ hi
          rw [Nat.add_mul] at h10
          show c1.w.cell? ⟨b, 0 + (i * size d + o), none⟩ = _
          rw [hw, cell_of_row _ _ _ _ _ _ h2, Nat.zero_add]
          exact agetD (by omega)
        | none h1 => rw [h1] at hφ; cases hφ
      | @ownN _ t2 _ ad hB2 hφ =>
        rw [hB] at hB2
        cases hB2
        exact .emp (Nat.zero_le _) (fun _ => rfl)
    · cases h
  | sub j off n =>
    simp only [rowsV] at h
    split at h
    · rename_i t d' l hB
      cases h
      cases hx with
      | @sub _ b t2 _ l2 _ _ cap hB2 hφ hl hl2 hc hcap =>
        rw [hB] at hB2
        cases hB2
        cases hO.blk _ _ hB with
        | @rows _ _ _ b2 cap2 cur h1 h2 h3 h4 h5 h8 =>
          rw [h1] at hφ
          cases hφ
          have hlen : ((l.drop off).take n).length = n := by rw [List.length_take, List.length_drop]; omega
          have he : ∀ i, i < n → elem d ((l.drop off).take n) i = elem d l (off + i) := fun i hi => by
            simp only [elem, List.getD_eq_getElem?_getD, List.getElem?_take, if_pos hi, List.getElem?_drop]
          have key : CRel c1 (.dat d ((l.drop off).take n)) (.slice (some ⟨b, off * size d, none⟩) ((l.drop off).take n).length cap) := by
            refine .dat (fun i o => cur.getD ((off + i) * size d + o) undef) (by rw [hlen]; omega) (by omega) rfl (hrf j (by simp [AC.refs, AC.refs0]) _ h1) (fun i o hi ho => ?_) (fun i o z hi hz => ?_)
            · rw [hlen] at hi
              have h10 : (off + i + 1) * size d ≤ cap2 * size d := Nat.mul_le_mul_right _ (by omega)
              rw [Nat.add_mul] at h10
              show c1.w.cell? ⟨b, off * size d + (i * size d + o), none⟩ = _
              rw [hw, cell_of_row _ _ _ _ _ _ h2, show off * size d + (i * size d + o) = (off + i) * size d + o by rw [Nat.add_mul]; omega]
              exact agetD (by omega)
            · rw [hlen] at hi
              rw [he i hi] at hz
              exact hup (enc_mem hz) (h8 _ o z (by omega) hz)
          rw [hlen] at key
          exact key
        | none h1 => rw [h1] at hφ; cases hφ
      | @subE _ t2 _ l2 _ ad hB2 hl ha =>
        rw [hB] at hB2
        cases hB2
        have e1 : (l.drop off).take 0 = [] := by simp
        rw [e1]
        exact .emp (Nat.zero_le _) (fun _ => rfl)
    · cases h
  | _ => cases h

theorem view_cell {w0 : World} {M : Nat → Prop} {c c1 : Cx} (hO : Own w0 M c) (hw : c1.w = c.w) (hI : ∀ b, c.I b → c1.I b) {x y : AC} {v : Value} (hx : CRel c x v) (h : x.view c.B = some y)
    (hrf : ∀ j ∈ x.refs, ∀ b, c.φ[j]? = some (some b) → c1.I b) : CRel c1 y v ∧ isPlain y = true := by
  unfold AC.view at h
  split at h
  · cases h; cases hx with | int h => exact ⟨.int h, rfl⟩
  · cases h; cases hx; exact ⟨.bool, rfl⟩
  · cases h; cases hx with | str h => exact ⟨.str h, rfl⟩
  · split at h
    · rename_i d rs hr
      cases h
      exact ⟨view_rows hO hw hI hx hr hrf, rfl⟩
    · cases h

theorem viewL_get {B : List Blk} : ∀ {xs ys : List AC}, viewL B xs = some ys → ys.length = xs.length ∧ ∀ (i : Nat) (y : AC), ys[i]? = some y → ∃ x, xs[i]? = some x ∧ x.view B = some y
  | [], ys, h => by cases h; exact ⟨rfl, fun i y hy => by simp at hy⟩
  | x :: xs, ys, h => by
    unfold viewL at h
    split at h
    · rename_i y s hy hs
      cases h
      obtain ⟨h1, h2⟩ := viewL_get hs
      refine ⟨by simp [h1], fun i z hz => ?_⟩
      cases i with
      | zero => simp at hz; subst hz; exact ⟨x, rfl, hy⟩
      | succ i => exact h2 i z (by simpa using hz)
    · cases h

theorem plainAgg_rn {l : List AC} (h : ∀ x ∈ l, isPlain x = true) (g : Nat → Option Nat) : l.map (AC.rn g) = l := by
  conv => rhs; rw [← List.map_id l]
  exact List.map_congr_left fun x hx => plain_rn (h x hx) g

/-- What is looked at as plain data; and renaming leaves it. -/
theorem view_val {w0 : World} {M : Nat → Prop} {c c1 : Cx} (hO : Own w0 M c) (hw : c1.w = c.w) (hI : ∀ b, c.I b → c1.I b) {x y : AV} {v : Value} (hx : VRel c x v) (h : x.view c.B = some y)
    (hrf : ∀ j ∈ x.refs, ∀ b, c.φ[j]? = some (some b) → c1.I b) (g : Nat → Option Nat) : VRel c1 (y.rn g) v := by
  unfold AV.view at h
  split at h
  · split at h
    · rename_i z hz
      cases h
      cases hx with
      | one hx =>
        obtain ⟨h1, h2⟩ := view_cell hO hw hI hx hz hrf
        show VRel c1 (.one (z.rn g)) v
        rw [plain_rn h2]
        exact .one h1
    · cases h
  · rename_i l
    split at h
    · rename_i s hs
      cases h
      obtain ⟨h1, h2⟩ := viewL_get hs
      cases hx with
      | @agg _ cs hsz hr =>
        have key : ∀ (i : Nat) (z : AC), s[i]? = some z → CRel c1 z (cs.getD i undef) ∧ isPlain z = true := fun i z hz => by
          obtain ⟨q, hq, hv⟩ := h2 i z hz
          exact view_cell hO hw hI (hr i q hq) hv (fun j hj => hrf j (by
            show j ∈ l.flatMap AC.refs
            exact List.mem_flatMap.2 ⟨q, List.mem_of_getElem? hq, hj⟩))
        show VRel c1 (.agg (s.map (AC.rn g))) _
        rw [plainAgg_rn (fun x hx => by
          obtain ⟨i, hi⟩ := List.getElem?_of_mem hx
          exact (key i x hi).2)]
        exact .agg (by omega) (fun i z hz => (key i z hz).1)
    · cases h
  · cases h

/-- How arguments are handed on. -/
theorem hand_get {B : List Blk} : ∀ {m : List Bool} {xs ys : List AV}, handA B m xs = some ys → ys.length = xs.length ∧
    ∀ (i : Nat) (y : AV), ys[i]? = some y → ∃ x, xs[i]? = some x ∧ ((y = x ∧ ∀ j ∈ x.refs, j ∈ kept m xs) ∨ (x.view B = some y ∧ ∀ j ∈ x.refs, j ∈ looked m xs))
  | m, [], ys, h => by
    have : ys = [] := by unfold handA at h; cases h; rfl
    subst this
    exact ⟨rfl, fun i y hy => by simp at hy⟩
  | true :: m, x :: xs, ys, h => by
    unfold handA at h
    split at h
    · rename_i s hs
      cases h
      obtain ⟨h1, h2⟩ := hand_get hs
      refine ⟨by simp [h1], fun i z hz => ?_⟩
      cases i with
      | zero => simp at hz; subst hz; exact ⟨x, rfl, .inl ⟨rfl, fun j hj => by simp [kept, hj]⟩⟩
      | succ i =>
        obtain ⟨q, g1, g2⟩ := h2 i z (by simpa using hz)
        refine ⟨q, g1, g2.imp (fun g => ⟨g.1, fun j hj => by simp [kept, g.2 j hj]⟩) (fun g => ⟨g.1, fun j hj => by simp [looked, g.2 j hj]⟩)⟩
    · cases h
  | false :: m, x :: xs, ys, h => by
    unfold handA at h
    split at h
    · rename_i y s hy hs
      cases h
      obtain ⟨h1, h2⟩ := hand_get hs
      refine ⟨by simp [h1], fun i z hz => ?_⟩
      cases i with
      | zero => simp at hz; subst hz; exact ⟨x, rfl, .inr ⟨hy, fun j hj => by simp [looked, hj]⟩⟩
      | succ i =>
        obtain ⟨q, g1, g2⟩ := h2 i z (by simpa using hz)
        refine ⟨q, g1, g2.imp (fun g => ⟨g.1, fun j hj => by simp [kept, g.2 j hj]⟩) (fun g => ⟨g.1, fun j hj => by simp [looked, g.2 j hj]⟩)⟩
    · cases h
  | [], x :: xs, ys, h => by
    unfold handA at h
    split at h
    · rename_i y s hy hs
      cases h
      obtain ⟨h1, h2⟩ := hand_get hs
      refine ⟨by simp [h1], fun i z hz => ?_⟩
      cases i with
      | zero => simp at hz; subst hz; exact ⟨x, rfl, .inr ⟨hy, fun j hj => by simp [looked, hj]⟩⟩
      | succ i =>
        obtain ⟨q, g1, g2⟩ := h2 i z (by simpa using hz)
        refine ⟨q, g1, g2.imp (fun g => ⟨g.1, fun j hj => by simp [kept, g.2 j hj]⟩) (fun g => ⟨g.1, fun j hj => by simp [looked, g.2 j hj]⟩)⟩
    · cases h

/-! results that lead to nothing that was handed in -/
theorem flatC_rn {c c' : Cx} {g : Nat → Option Nat} {x : AC} {v : Value} (hf : flatC x = true) (hA : ∀ j n, g j = some n → At c c' j n) (h : CRel c x v) : CRel c' (x.rn g) v := by
  cases x with
  | int k m => cases h with | int h => exact .int h
  | bool b => cases h; exact .bool
  | str s => cases h with | str h => exact .str h
  | nilS d => cases h; exact .nilS
  | own j =>
    show CRel c' (match g j with | some n => .own n | none => .any) _
    cases hj : g j with
    | none => exact .any h.oneCell
    | some n =>
      have A := hA j n hj
      cases h with
      | own hB hφ hl hc hcap =>
        obtain ⟨l', h1, h2⟩ := A.rows _ _ _ hB
        rw [← h2]
        exact .own h1 (A.φ _ hφ) (by omega) hc (A.cap _ _ _ hφ hcap)
      | ownN hB hφ =>
        obtain ⟨l', h1, h2⟩ := A.rows _ _ _ hB
        have : l' = [] := by simpa using h2
        subst this
        exact .ownN h1 (A.φ _ hφ)
  | ptr j i o =>
    show CRel c' (match g j with | some n => .ptr n i o | none => .any) _
    cases hj : g j with
    | none => exact .any h.oneCell
    | some n =>
      have A := hA j n hj
      cases h with
      | ptrB hB hφ =>
        obtain ⟨cs', h1, h2⟩ := A.box _ hB
        exact .ptrB h1 (A.φ _ hφ)
      | ptrR hB hφ hl =>
        obtain ⟨l', h1, h2⟩ := A.rows _ _ _ hB
        exact .ptrR h1 (A.φ _ hφ) (by omega)
  | map j =>
    show CRel c' (match g j with | some n => .map n | none => .any) _
    cases hj : g j with
    | none => exact .any h.oneCell
    | some n =>
      have A := hA j n hj
      cases h with
      | map hB hφ =>
        obtain ⟨m', h1⟩ := A.map _ _ hB
        exact .map h1 (A.φ _ hφ)
  | _ => simp [flatC] at hf

theorem flatV_rn {c c' : Cx} {g : Nat → Option Nat} {x : AV} {v : Value} (hf : flatV x = true) (hA : ∀ j n, g j = some n → At c c' j n) (h : VRel c x v) : VRel c' (x.rn g) v ∧ VRel c' (x.rn1 g) v := by
  cases x with
  | one x => cases h with | one h => exact ⟨.one (flatC_rn hf hA h), .one (flatC_rn hf hA h)⟩
  | agg l =>
    cases h with
    | agg hs hr =>
      have key : VRel c' (.agg (l.map (AC.rn g))) _ := VRel.agg (by simpa using hs) (fun i z hz => by
        rw [List.getElem?_map] at hz
        cases hq : l[i]? with
        | none => rw [hq] at hz; cases hz
        | some q =>
          rw [hq] at hz; cases hz
          exact flatC_rn (List.all_eq_true.1 hf q (List.mem_of_getElem? hq)) hA (hr i q hq))
      exact ⟨key, key⟩
  | _ => simp [flatV] at hf

theorem flat_row {c c' : Cx} {d : Cd} {x : den d} (hf : (cts d).all flatCt = true) {o : Nat} {z : AC} {v : Value} (hy : (enc d x)[o]? = some z) (h : CRel c z v) : CRel c' z v := by
  have h1 := plainL_get (enc_plainL d x)
  have ho := enc_lt hy
  have hct : (cts d)[o]? = some ((cts d).getD o .oth) := getD_some _ ho
  have h2 := h1.2 o _ z hct hy
  have h3 := List.all_eq_true.1 hf _ (List.mem_of_getElem? hct)
  generalize (cts d).getD o .oth = ct at h2 h3
  cases ct <;> cases z <;> simp [plainC, flatCt] at h2 h3
  · cases h with | int h => exact .int h
  · cases h; exact .bool
  · cases h with | str h => exact .str h

theorem resV_map (g : Nat → Option Nat) (rs : List AV) (h : ∀ r ∈ rs, ∀ l, r ≠ .tup l) : resV (rs.map fun x => x.rn g) = (resV rs).rn g := by
  match rs with
  | [] => rfl
  | [v] => rfl
  | v :: u :: r =>
    show AV.tup ((v :: u :: r).map fun x => x.rn g) = AV.tup ((v :: u :: r).map (AV.rn1 g))
    congr 1
    apply List.map_congr_left
    intro x hx
    cases x with
    | tup l => exact absurd rfl (h _ hx l)
    | _ => rfl

theorem noTup_ne {rs : List AV} (h : noTup rs = true) : ∀ r ∈ rs, ∀ l, r ≠ AV.tup l := fun r hr l e => by
  have := List.all_eq_true.1 h r hr
  rw [e] at this
  cases this

theorem setAll_len : ∀ (ρ : List Nat) (bs B : List Blk), (setAll ρ bs B).length = B.length
  | [], bs, B => by cases bs <;> rfl
  | j :: ρ, [], B => rfl
  | j :: ρ, b :: bs, B => by simp [setAll, setAll_len ρ bs]
theorem setAll_other : ∀ (ρ : List Nat) (bs B : List Blk) (j : Nat), j ∉ ρ → (setAll ρ bs B)[j]? = B[j]?
  | [], bs, B, j, h => by cases bs <;> rfl
  | i :: ρ, [], B, j, h => rfl
  | i :: ρ, b :: bs, B, j, h => by
    simp only [List.mem_cons, not_or] at h
    rw [setAll, setAll_other ρ bs _ j h.2, List.getElem?_set_ne (fun e => h.1 e.symm)]
theorem setAll_at : ∀ (ρ : List Nat) (bs B : List Blk) (i j : Nat) (b : Blk), ρ.Nodup → ρ[i]? = some j → bs[i]? = some b → j < B.length → (setAll ρ bs B)[j]? = some b
  | [], bs, B, i, j, b, _, h, _, _ => by simp at h
  | k :: ρ, [], B, i, j, b, _, _, h, _ => by simp at h
  | k :: ρ, b' :: bs, B, i, j, b, hn, h, hb, hl => by
    rw [List.nodup_cons] at hn
    cases i with
    | zero =>
      simp at h hb
      subst h; subst hb
      rw [setAll, setAll_other ρ bs _ _ hn.1, List.getElem?_set_self hl]
    | succ i =>
      rw [setAll]
      exact setAll_at ρ bs _ i j b hn.2 (by simpa using h) (by simpa using hb) (by simpa using hl)

theorem inB_ok {ρ : List Nat} {n : Nat} (h : inB ρ n = true) : ∀ j ∈ ρ, j < n := fun j hj => by
  have := List.all_eq_true.1 h j hj
  simpa [Nat.blt_eq] using this
theorem disj_ok {a b : List Nat} (h : disj a b = true) : ∀ j ∈ a, j ∉ b := fun j hj hb => by
  have := List.all_eq_true.1 h j hj
  simp at this
  exact this hb

theorem mem_addRefs : ∀ (l acc : List Nat) (j : Nat), j ∈ l → j ∈ addRefs acc l
  | [], _, _, h => by cases h
  | x :: l, acc, j, h => by
    have keep : ∀ (l acc : List Nat), j ∈ acc → j ∈ addRefs acc l := by
      intro l
      induction l with
      | nil => intro acc h; exact h
      | cons y l ih =>
        intro acc h
        unfold addRefs
        simp only [List.foldl_cons]
        split
        · exact ih _ h
        · exact ih _ (by simp [h])
    unfold addRefs
    simp only [List.foldl_cons]
    rcases List.mem_cons.1 h with rfl | h
    · split
      · rename_i hc; exact keep l _ (by simpa using hc)
      · exact keep l _ (by simp)
    · exact mem_addRefs l _ j h

/-- A call of a function of which something is known, within its caller's memory. -/
theorem ent_ok {P : Program} {f : FuncId} {en : Ent} (h : CallOk1 P f en.go) : CallOk1 P f (callEnt en) := by
  intro args B K hk w0 M c vs hO hB hsz hr
  unfold callEnt at hk
  split at hk
  · rename_i args' hargs
    generalize hρ : closeRefs B 3 (addRefs [] (kept en.ref args)) = ρ at hk
    simp only at hk
    split at hk
    · rename_i hchk
      simp only [Bool.and_eq_true] at hchk
      have hdis := disj_ok hchk.1
      have hin := inB_ok hchk.2
      obtain ⟨q1, m1, q2⟩ := addRefs_ok (kept en.ref args) [] List.nodup_nil
      obtain ⟨hnd, m2, q4⟩ := closeRefs_ok B 3 _ q1
      rw [hρ] at hnd q4
      subst hB
      obtain ⟨g1, g2⟩ := hand_get hargs
      obtain ⟨r1, r2, r3⟩ := renew_ok hO hnd
      have hlen := hO.len
      -- the callee's memory
      let I1 : Nat → Prop := fun b => c.I b ∨ ∃ j ∈ looked en.ref args, c.φ[j]? = some (some b)
      let M1 : Nat → Prop := fun b => ∃ j ∈ ρ, c.φ[j]? = some (some b)
      let c1 : Cx := ⟨c.w, I1, ρ.map fun j => c.φ.getD j none, newB ρ c.B⟩
      have hφ1 : ∀ (i b : Nat), c1.φ[i]? = some (some b) → ∃ j : Nat, ρ[i]? = some j ∧ c.φ[j]? = some (some b) := fun i b hb => by
        have hb' : (ρ.map fun j => c.φ.getD j none)[i]? = some (some b) := hb
        rw [List.getElem?_map] at hb'
        cases hr : ρ[i]? with
        | none => rw [hr] at hb'; cases hb'
        | some j =>
          rw [hr] at hb'
          simp only [Option.map_some, Option.some.injEq] at hb'
          refine ⟨j, rfl, ?_⟩
          rw [List.getD_eq_getElem?_getD] at hb'
          cases hp : c.φ[j]? with
          | none => rw [hp] at hb'; cases hb'
          | some p => rw [hp] at hb'; simp at hb'; rw [hb']
      have hO1 : Own c.w M1 c1 := by
        refine ⟨r3.len, fun i b hb => ?_, r3.inj, fun b hb => ?_, fun i x hx => (r3.blk i x hx).wide (fun b hb => .inl hb), rfl, rfl, rfl, Nat.le_refl _, fun b _ _ => rfl⟩
        · obtain ⟨j, h1, h2⟩ := hφ1 i b hb
          obtain ⟨_, h4, h5⟩ := hO.new j b h2
          refine ⟨.inl ⟨j, List.mem_of_getElem? h1, h2⟩, h4, fun hI => ?_⟩
          rcases hI with hI | ⟨j', hj', hI⟩
          · exact h5 hI
          · have := hO.inj _ _ _ h2 hI
            subst this
            exact hdis _ hj' (List.mem_of_getElem? h1)
        · rcases hb with hb | ⟨j, _, hb⟩
          · exact hO.imm b hb
          · exact (hO.new j b hb).2.1
      have hA1 : ∀ j i : Nat, ρ[i]? = some j → At c c1 j i := fun j i hji => by
        have := r2 j i hji
        exact ⟨this.φ, this.rows, this.box, this.map, this.cap⟩
      refine (h _ (newB ρ c.B) _ hk c.w M1 c1 vs hO1 rfl (by rw [List.length_map, g1]; exact hsz) (fun i x hx => ?_)).mono fun e w' ⟨v, c', rs, he, hw, hK, hO', hi, ha, hres⟩ => ?_
      · rw [List.getElem?_map] at hx
        cases hy : args'[i]? with
        | none => rw [hy] at hx; cases hx
        | some y =>
          rw [hy] at hx
          cases hx
          obtain ⟨x, hx, hcase⟩ := g2 i y hy
          rcases hcase with ⟨rfl, _⟩ | ⟨hv, hlk⟩
          · exact VRel.wide (c := ⟨c.w, c.I, ρ.map fun j => c.φ.getD j none, newB ρ c.B⟩) (I' := I1) (fun b hb => .inl hb) ((hr i y hx).rn r1 (fun j n hn => r2 j n (rename_ok hn)))
          · exact view_val (c1 := c1) hO rfl (fun b hb => .inl hb) (hr i x hx) hv (fun j hj b hb => .inr ⟨j, hlk j hj, hb⟩) _
      · subst he; subst hw
        unfold kBack at hK
        split at hK
        · rename_i hfl
          simp only [Bool.and_eq_true] at hfl
          obtain ⟨hnt, hfl⟩ := hfl
          have hnt := noTup_ne hnt
          have hn1 : (newB ρ c.B).length = ρ.length := by simp [newB]
          have hρB : ρ.length ≤ c'.B.length ∧ ∀ i j : Nat, ρ[i]? = some j → c'.φ[i]? = c.φ[j]? := by
            have key : ∀ i j : Nat, ρ[i]? = some j → c'.φ[i]? = c.φ[j]? := fun i j hji => by
              have hil := (List.getElem?_eq_some_iff.1 hji).1
              have hj := hin j (List.mem_of_getElem? hji)
              have h1 : c.φ[j]? = some (c.φ.getD j none) := getD_some _ (by omega)
              rw [h1]
              exact (ha i (by rw [hn1]; exact hil)).φ _ ((hA1 j i hji).φ _ h1)
            refine ⟨?_, key⟩
            rcases Nat.eq_zero_or_pos ρ.length with h0 | h0
            · omega
            · obtain ⟨j, hj⟩ : ∃ j, ρ[ρ.length - 1]? = some j := ⟨_, List.getElem?_eq_getElem (by omega)⟩
              have h1 := key _ j hj
              have h2 : c.φ[j]? = some (c.φ.getD j none) := getD_some _ (by have := hin j (List.mem_of_getElem? hj); omega)
              rw [h2] at h1
              have := (List.getElem?_eq_some_iff.1 h1).1
              rw [hO'.len] at this
              omega
          obtain ⟨hρl, hρφ⟩ := hρB
          generalize hflat : (looked en.ref args).isEmpty = flat at hK hfl
          let back := backN ρ c.B.length
          let If : Nat → Prop := fun b => c.I b ∨ (flat = true ∧ c'.I b)
          let Bf : List Blk := setAll ρ (c'.B.map fun b => b.rn back) c.B ++ (c'.B.drop ρ.length).map fun b => b.rn back
          let cf : Cx := ⟨c'.w, If, c.φ ++ c'.φ.drop ρ.length, Bf⟩
          have hsl : (setAll ρ (c'.B.map fun b => b.rn back) c.B).length = c.B.length := setAll_len _ _ _
          have hI1 : ∀ b, c1.I b → flat = true → c.I b := fun b hb hf => by
            rcases hb with hb | ⟨j, hj, _⟩
            · exact hb
            · rw [← hflat] at hf
              have : looked en.ref args = [] := by simpa using hf
              rw [this] at hj; cases hj
          have hkeep : ∀ b, b < c.w.heap.size → ¬ M1 b → c'.w.heap[b]? = c.w.heap[b]? := fun b hb hM => hO'.keep b hb hM
          have hIM : ∀ b, c.I b → ¬ M1 b := fun b hb ⟨j, _, hj⟩ => (hO.new j b hj).2.2 hb
          have hiu : ImmUp c cf := ⟨fun b hb => .inl hb, fun b hb => hkeep b (hO.imm b hb) (hIM b hb), fun b hb => by
            rcases hb with hb | ⟨hf, hb⟩
            · exact .inl hb
            · rcases hi.new b hb with hb | hb
              · exact .inl (hI1 b hb hf)
              · exact .inr hb, hi.grow⟩
          have hφo : ∀ j, j < c.B.length → cf.φ[j]? = c.φ[j]? := fun j hj => List.getElem?_append_left (by omega)
          have hφn : ∀ i, ρ.length ≤ i → cf.φ[c.B.length + (i - ρ.length)]? = c'.φ[i]? := fun i hil => by
            show (c.φ ++ c'.φ.drop ρ.length)[_]? = _
            rw [List.getElem?_append_right (by omega), List.getElem?_drop]
            congr 1
            omega
          have hBo : ∀ j, j < c.B.length → j ∉ ρ → cf.B[j]? = c.B[j]? := fun j hj hjρ => by
            show (setAll _ _ _ ++ _)[j]? = _
            rw [List.getElem?_append_left (by omega), setAll_other _ _ _ _ hjρ]
          have hBρ : ∀ i j : Nat, ρ[i]? = some j → cf.B[j]? = (c'.B[i]?).map fun b => b.rn back := fun i j hji => by
            have hil := (List.getElem?_eq_some_iff.1 hji).1
            have hj := hin j (List.mem_of_getElem? hji)
            obtain ⟨b, hb⟩ : ∃ b, c'.B[i]? = some b := ⟨_, List.getElem?_eq_getElem (by omega)⟩
            show (setAll _ _ _ ++ _)[j]? = _
            rw [List.getElem?_append_left (by omega), setAll_at ρ _ _ i j (b.rn back) hnd hji (by rw [List.getElem?_map, hb]; rfl) hj, hb]
            rfl
          have hBn : ∀ i, ρ.length ≤ i → cf.B[c.B.length + (i - ρ.length)]? = (c'.B[i]?).map fun b => b.rn back := fun i hil => by
            show (setAll _ _ _ ++ _)[_]? = _
            rw [List.getElem?_append_right (by omega), hsl, List.getElem?_map, List.getElem?_drop]
            congr 2
            omega
          have hback : ∀ i n, back i = some n → cf.φ[n]? = c'.φ[i]? ∧ cf.B[n]? = (c'.B[i]?).map fun b => b.rn back := fun i n hn => by
            have hn' : (match ρ[i]? with | some i => some i | none => some (c.B.length + (i - ρ.length))) = some n := hn
            cases hρi : ρ[i]? with
            | some j =>
              rw [hρi] at hn'
              cases hn'
              have hj := hin n (List.mem_of_getElem? hρi)
              exact ⟨by rw [hφo n hj, hρφ i n hρi], hBρ i n hρi⟩
            | none =>
              rw [hρi] at hn'
              cases hn'
              have hil : ρ.length ≤ i := by
                rcases Nat.lt_or_ge i ρ.length with h | h
                · rw [List.getElem?_eq_getElem h] at hρi; cases hρi
                · exact h
              exact ⟨hφn i hil, hBn i hil⟩
          have hAb : ∀ i n, back i = some n → At c' cf i n := fun i n hn => by
            obtain ⟨h1, h2⟩ := hback i n hn
            exact ⟨fun x hx => by rw [h1]; exact hx, fun t d l hl => ⟨l, by rw [h2, hl]; rfl, rfl⟩, fun cs hc => ⟨cs.map (AC.rn back), by rw [h2, hc]; rfl, by simp⟩,
              fun d m hm => ⟨m, by rw [h2, hm]; rfl⟩, fun b t k _ hcap => hcap⟩
          have hbackρ : ∀ i j : Nat, ρ[i]? = some j → back i = some j := fun i j hji => by
            show (match ρ[i]? with | some i => some i | none => some (c.B.length + (i - ρ.length))) = some j
            rw [hji]
          have hbackn : ∀ i, ρ.length ≤ i → back i = some (c.B.length + (i - ρ.length)) := fun i hil => by
            show (match ρ[i]? with | some i => some i | none => some (c.B.length + (i - ρ.length))) = _
            rw [List.getElem?_eq_none hil]
          have hao : ∀ j, j < c.B.length → At c cf j j := fun j hj => by
            by_cases hjρ : j ∈ ρ
            · obtain ⟨i, hi'⟩ := List.getElem?_of_mem hjρ
              exact ((hA1 j i hi').trans (ha i (by rw [hn1]; exact (List.getElem?_eq_some_iff.1 hi').1))).trans (hAb i j (hbackρ i j hi'))
            · exact At.same (hφo j hj) (hBo j hj hjρ) (fun b hb => hkeep b (hO.new j b hb).2.1 (fun ⟨j', hj', hb'⟩ => hjρ ((hO.inj _ _ _ hb hb') ▸ hj')))
          have haall : ∀ j, At c cf j j := fun j => by
            by_cases hj : j < c.B.length
            · exact hao j hj
            · exact .vac hO cf (by omega)
          -- what the callee's cells say
          have hiu' : flat = true → ImmUp c' cf := fun hf => ⟨fun b hb => .inr ⟨hf, hb⟩, fun _ _ => rfl, fun b hb => by
            rcases hb with hb | ⟨_, hb⟩
            · exact .inl (hi.up b (.inl hb))
            · exact .inl hb, Nat.le_refl _⟩
          have hblk : ∀ (i n : Nat) (q : Blk), back i = some n → c'.B[i]? = some q → BRel cf n (q.rn back) := fun i n q hn hq => by
            have hA := hAb i n hn
            have hcell : ∀ {x : AC} {u : Value}, (flat = true ∨ flatC x = true) → CRel c' x u → CRel cf (x.rn back) u := fun hx h => by
              rcases hx with hx | hx
              · exact h.rn (hiu' hx) hAb
              · exact flatC_rn hx hAb h
            have hfb : flat = true ∨ flatB q = true := by
              cases hf : flat with
              | true => exact .inl rfl
              | false =>
                rw [hf] at hfl
                simp only [Bool.false_or, Bool.and_eq_true] at hfl
                exact .inr (List.all_eq_true.1 hfl.2 q (List.mem_of_getElem? hq))
            cases hO'.blk i q hq with
            | @box cs b cur t h1 h2 h3 h4 =>
              refine .box (hA.φ _ h1) h2 (by simpa using h3) (fun m x hx => ?_)
              rw [List.getElem?_map] at hx
              cases hy : cs[m]? with
              | none => rw [hy] at hx; cases hx
              | some y =>
                rw [hy] at hx
                cases hx
                exact hcell (hfb.imp id (fun hfb => List.all_eq_true.1 hfb y (List.mem_of_getElem? hy))) (h4 m y hy)
            | rows h1 h2 h3 h4 h5 h8 =>
              refine .rows (hA.φ _ h1) h2 h3 h4 h5 (fun m o x hx hy => ?_)
              rcases hfb with hf | hfb
              · have := (h8 m o x hx hy).rn (hiu' hf) hAb
                rwa [plain_rn (enc_mem hy)] at this
              · exact flat_row hfb hy (h8 m o x hx hy)
            | none h1 => exact .none (hA.φ _ h1)
            | map h1 h2 h3 h4 =>
              refine .map (hA.φ _ h1) h2 h3 (fun i k v hm => ?_)
              obtain ⟨e, z, k1, k2, k3, k4⟩ := h4 i k v hm
              rcases hfb with hf | hfb
              · have := k4.rn (hiu' hf) hAb
                rw [plain_rn (enc_mem (o := 0) (by rw [k3]; rfl))] at this
                exact ⟨e, z, k1, k2, k3, this⟩
              · cases hfb
            | dead => exact .dead
          have hOf : Own w0 M cf := by
            have hnewC : ∀ (i b : Nat), ρ.length ≤ i → c'.φ[i]? = some (some b) → c.w.heap.size ≤ b := fun i b hil hb => by
              rcases (hO'.new i b hb).1 with ⟨j, hj, hjb⟩ | h1
              · obtain ⟨i', hi'⟩ := List.getElem?_of_mem hj
                have := hO'.inj _ _ _ hb ((hρφ i' j hi').trans hjb)
                have := (List.getElem?_eq_some_iff.1 hi').1
                omega
              · exact h1
            have split : ∀ (n b : Nat), cf.φ[n]? = some (some b) → (n < c.B.length ∧ c.φ[n]? = some (some b)) ∨ ∃ i, ρ.length ≤ i ∧ n = c.B.length + (i - ρ.length) ∧ c'.φ[i]? = some (some b) := fun n b hb => by
              by_cases hn : n < c.B.length
              · exact .inl ⟨hn, by rw [← hφo n hn]; exact hb⟩
              · refine .inr ⟨ρ.length + (n - c.B.length), by omega, by omega, ?_⟩
                rw [← hφn _ (by omega), show c.B.length + (ρ.length + (n - c.B.length) - ρ.length) = n by omega]
                exact hb
            refine ⟨?_, fun n b hb => ?_, fun m n b hm hn => ?_, fun b hb => ?_, fun n x hx => ?_, hO'.os.trans hO.os, hO'.tape.trans hO.tape, hO'.output.trans hO.output, Nat.le_trans hO.size hi.grow, fun b hb hM => ?_⟩
            · show (c.φ ++ c'.φ.drop ρ.length).length = Bf.length
              have := hO'.len
              simp only [Bf, List.length_append, hsl, List.length_drop, List.length_map]
              omega
            · rcases split n b hb with ⟨hn, hb2⟩ | ⟨i, hil, rfl, hb2⟩
              · obtain ⟨k1, k2, k3⟩ := hO.new n b hb2
                refine ⟨k1, Nat.lt_of_lt_of_le k2 hi.grow, fun hI => ?_⟩
                rcases hI with hI | ⟨hf, hI⟩
                · exact k3 hI
                · rcases hi.new b hI with hI | hI
                  · exact k3 (hI1 b hI hf)
                  · have : c.w.heap.size ≤ b := hI
                    omega
              · obtain ⟨_, k2, k3⟩ := hO'.new i b hb2
                have hge := hnewC i b hil hb2
                refine ⟨.inr (Nat.le_trans hO.size hge), k2, fun hI => ?_⟩
                rcases hI with hI | ⟨_, hI⟩
                · have := hO.imm b hI; omega
                · exact k3 hI
            · rcases split m b hm with ⟨hm, hmb⟩ | ⟨i, hil, rfl, hmb⟩ <;> rcases split n b hn with ⟨hn, hnb⟩ | ⟨k, hkl, rfl, hnb⟩
              · exact hO.inj _ _ _ hmb hnb
              · have := (hO.new m b hmb).2.1; have := hnewC k b hkl hnb; omega
              · have := (hO.new n b hnb).2.1; have := hnewC i b hil hmb; omega
              · rw [hO'.inj _ _ _ hmb hnb]
            · rcases hb with hb | ⟨_, hb⟩
              · exact Nat.lt_of_lt_of_le (hO.imm b hb) hi.grow
              · exact hO'.imm b hb
            · by_cases hn : n < c.B.length
              · by_cases hnρ : n ∈ ρ
                · obtain ⟨i, hi'⟩ := List.getElem?_of_mem hnρ
                  rw [hBρ i n hi'] at hx
                  cases hq : c'.B[i]? with
                  | none => rw [hq] at hx; cases hx
                  | some q => rw [hq] at hx; cases hx; exact hblk i n q (hbackρ i n hi') hq
                · rw [hBo n hn hnρ] at hx
                  exact (hO.blk n x hx).mono hiu haall (hφo n hn) (fun b hb => hkeep b (hO.new n b hb).2.1 (fun ⟨j', hj', hb'⟩ => hnρ ((hO.inj _ _ _ hb hb') ▸ hj')))
              · have hil : ρ.length ≤ ρ.length + (n - c.B.length) := by omega
                have hnn : c.B.length + (ρ.length + (n - c.B.length) - ρ.length) = n := by omega
                have := hBn _ hil
                rw [hnn] at this
                rw [this] at hx
                cases hq : c'.B[ρ.length + (n - c.B.length)]? with
                | none => rw [hq] at hx; cases hx
                | some q =>
                  rw [hq] at hx
                  cases hx
                  exact hblk _ n q (by rw [hbackn _ hil, hnn]) hq
            · rw [← hO.keep b hb hM]
              refine hkeep b (Nat.lt_of_lt_of_le hb hO.size) (fun ⟨j, _, hjb⟩ => ?_)
              rcases (hO.new j b hjb).1 with k | k
              · exact hM k
              · omega
          refine ⟨v, cf, _, rfl, rfl, hK, hOf, hiu, hao, ?_⟩
          rw [resV_map _ _ hnt]
          cases hf : flat with
          | true => exact hres.rn (hiu' hf) hAb
          | false =>
            rw [hf] at hfl
            simp only [Bool.false_or, Bool.and_eq_true] at hfl
            have hfv := List.all_eq_true.1 hfl.1
            match rs, hres with
            | [x], hres => exact (flatV_rn (hfv x (by simp)) hAb hres).1
            | [], hres =>
              cases hres with
              | tup hs hr => exact .tup hs (fun i x hx => by simp at hx)
            | x :: z :: r, hres =>
              cases hres with
              | tup hs hr =>
                show VRel cf (.tup ((x :: z :: r).map (AV.rn1 back))) _
                refine .tup (by simpa using hs) (fun i q hq => ?_)
                rw [List.getElem?_map] at hq
                cases hp : (x :: z :: r)[i]? with
                | none => rw [hp] at hq; cases hq
                | some p =>
                  rw [hp] at hq
                  cases hq
                  exact (flatV_rn (hfv p (List.mem_of_getElem? hp)) hAb (hr i p hp)).2
        · cases hK
    · cases hk
  · cases hk

/-! ### what is known, one by one -/
def Env.add (E : Env) (f : FuncId) (en : Ent) : Env := { E with ent := fun g => match Nat.beq f g with | true => en :: E.ent g | false => E.ent g }

theorem EnvOk.base {P : Program} {T : Tab} (h : tabOk P T = true) (ann : FuncId → Nat → List Nat) : EnvOk ⟨P, T, ann, fun _ => []⟩ := ⟨h, fun f en h => by simp at h⟩

theorem EnvOk.add {E : Env} (he : EnvOk E) {f : FuncId} {en : Ent} (h : CallOk1 E.P f en.go) : EnvOk (E.add f en) := by
  refine ⟨he.tab, fun g en' h' => ?_⟩
  change en' ∈ (match Nat.beq f g with | true => en :: E.ent g | false => E.ent g) at h'
  split at h'
  · rename_i hb
    have := Nat.eq_of_beq_eq_true hb
    subst this
    rcases List.mem_cons.1 h' with rfl | h'
    · exact ent_ok h
    · exact he.call _ en' h'
  · exact he.call g en' h'

/-! results -/
theorem CRel.plainN {c : Cx} {x : AC} {v : Value} (h : CRel c x v) : CRel c (plainN x) v := by
  cases x <;> first | exact h | (cases h; exact .emp (Nat.zero_le _) (fun _ => rfl))
theorem VRel.plainN {c : Cx} {x : AV} {v : Value} (h : VRel c x v) : VRel c x.plainN v := by
  cases h with
  | one h => exact .one h.plainN
  | agg hs hr =>
    refine .agg (by simpa using hs) (fun i x hx => ?_)
    rw [List.getElem?_map] at hx
    cases hq : (_ : List AC)[i]? with
    | none => rw [hq] at hx; cases hx
    | some q => rw [hq] at hx; cases hx; exact (hr i q hq).plainN
  | tup hs hr => exact .tup hs hr
  | undef => exact .undef
  | any => exact .any

theorem resV_get {c : Cx} {rs : List AV} {v : Value} (h : VRel c (resV rs) v) : ∃ vs : List Value, vs.length = rs.length ∧ (∀ (i : Nat) (x : AV), rs[i]? = some x → VRel c x (vs.getD i undef)) ∧
    ∀ (c' : Cx) (rs' : List AV), rs'.length = rs.length → (∀ (i : Nat) (x : AV), rs'[i]? = some x → VRel c' x (vs.getD i undef)) → VRel c' (resV rs') v := by
  match rs, h with
  | [x], h =>
    refine ⟨[v], rfl, fun i z hz => ?_, fun c' rs' hl hr => ?_⟩
    · cases i with
      | zero => simp at hz; subst hz; exact h
      | succ i => simp at hz
    · match rs', hl with
      | [y], _ => exact hr 0 y rfl
  | [], h =>
    cases h with
    | @tup _ vs hs hr =>
      refine ⟨vs.toList, by simpa using hs, fun i z hz => by simp at hz, fun c' rs' hl hr' => ?_⟩
      match rs', hl with
      | [], _ => exact .tup hs (fun i x hx => by simp at hx)
  | x :: z :: r, h =>
    cases h with
    | @tup _ vs hs hr =>
      refine ⟨vs.toList, by simpa using hs, fun i q hq => by have := hr i q hq; simpa [Array.getD_eq_getD_getElem?, List.getD_eq_getElem?_getD] using this, fun c' rs' hl hr' => ?_⟩
      match rs', hl with
      | y :: y' :: r', hl => exact .tup (by rw [hs]; exact hl.symm) (fun i q hq => by have := hr' i q hq; simpa [Array.getD_eq_getD_getElem?, List.getD_eq_getElem?_getD] using this)

theorem plainN_ne {x : AV} (h : ∀ l, x ≠ .tup l) : ∀ l, x.plainN ≠ .tup l := by
  cases x with
  | tup y => exact absurd rfl (h y)
  | _ => intro l e; cases e

theorem canonR_ok {T : Tab} {n0 : Nat} {w0 : World} {M : Nat → Prop} {c : Cx} (hO : Own w0 M c) {rs : List AV} (hnt : ∀ r ∈ rs, ∀ l, r ≠ AV.tup l) {v : Value} {K : Kont}
    (hK : K (canonR n0 rs c.B).1 (promB T (canonR n0 rs c.B).2.length 0 (canonR n0 rs c.B).2) = true) (hv : VRel c (resV rs) v) :
    ∃ c' rs', c'.w = c.w ∧ K rs' c'.B = true ∧ Own w0 M c' ∧ ImmUp c c' ∧ (∀ j, j < n0 → At c c' j j) ∧ VRel c' (resV rs') v := by
  unfold canonR at hK
  simp only at hK
  have hn0 : (upto n0).Nodup := by rw [upto_eq]; exact List.nodup_range
  obtain ⟨g1, m1, g2⟩ := addRefs_ok (rs.flatMap AV.refs) (upto n0) hn0
  obtain ⟨g3, m2, g4⟩ := closeRefs_ok c.B 3 _ g1
  generalize hρ : closeRefs c.B 3 (addRefs (upto n0) (rs.flatMap AV.refs)) = ρ at g3 g4 hK
  obtain ⟨r1, r2, r3⟩ := renew_ok hO g3
  have hpre : ∀ j, j < n0 → ρ[j]? = some j := fun j hj => by
    rw [g4, g2, upto_eq, List.append_assoc, List.getElem?_append_left (by simpa using hj)]
    simp [hj]
  obtain ⟨c3, s1, s2, s3, s4, s5⟩ := promB_ok (T := T) (newB ρ c.B).length 0 ⟨c.w, c.I, ρ.map fun j => c.φ.getD j none, newB ρ c.B⟩ r3
  refine ⟨c3, _, s1, by rw [s2]; exact hK, s3, r1.trans s4, fun j hj => (r2 j j (hpre j hj)).trans (s5 j), ?_⟩
  rw [resV_map _ _ hnt]
  exact (hv.rn r1 (fun j i hji => r2 j i (rename_ok hji))).mono s4 s5

theorem promV_ne {T : Tab} {x : AV} {B : List Blk} (h : ∀ l, x ≠ .tup l) : ∀ l, (promV T x B).1 ≠ .tup l := by
  intro l e
  cases x with
  | one y =>
    unfold promV at e
    simp only at e
    split at e <;> cases e
  | agg y => cases e
  | tup y => exact h y rfl
  | undef => cases e
  | any => cases e
theorem promR_ne {T : Tab} : ∀ {rs : List AV} {B : List Blk}, (∀ r ∈ rs, ∀ l, r ≠ AV.tup l) → ∀ r ∈ (promR T rs B).1, ∀ l, r ≠ AV.tup l
  | [], B, h, r, hr => by cases hr
  | x :: rs, B, h, r, hr => by
    simp only [promR] at hr
    rcases List.mem_cons.1 hr with rfl | hr
    · exact promV_ne (h x (by simp))
    · exact promR_ne (fun r hr => h r (by simp [hr])) r hr

/-- Fewer rows of a block are told of. -/
theorem Own.trim {w0 : World} {M : Nat → Prop} {c : Cx} (h : Own w0 M c) {j n : Nat} {t : TypeId} {d : Cd} {l : List (den d)} {v : Value} (hB : c.B[j]? = some (.rows t d l)) (hv : CRel c (.sub j 0 n) v) :
    let c' : Cx := ⟨c.w, c.I, c.φ, (c.B.map fun b => b.rn (forget j)).set j (.rows t d (l.take n))⟩
    ImmUp c c' ∧ Own w0 M c' ∧ (∀ i, i ≠ j → At c c' i i) ∧ CRel c' (.own j) v := by
  intro c'
  have hjl : j < c.B.length := (List.getElem?_eq_some_iff.1 hB).1
  have hφeq : c.φ.set j (c.φ.getD j none) = c.φ := by
    apply List.ext_getElem?
    intro m
    by_cases hm : m = j
    · subst hm
      rw [List.getElem?_set_self (by rw [h.len]; exact hjl)]
      exact (getD_some _ (by rw [h.len]; exact hjl)).symm
    · rw [List.getElem?_set_ne (Ne.symm hm)]
  obtain ⟨g1, g2, g3⟩ := h.rebind (w' := c.w) (j := j) (ob := c.φ.getD j none) (bl' := .rows t d (l.take n)) hjl rfl rfl rfl (Nat.le_refl _) (fun _ _ _ => rfl) (fun b hb => by
    have hφ : c.φ[j]? = some (some b) := by rw [← hb]; exact getD_some _ (by rw [h.len]; exact hjl)
    obtain ⟨k1, k2, k3⟩ := h.new j b hφ
    exact ⟨k1, k2, k3, fun i hij hi => hij (h.inj _ _ _ hi hφ)⟩)
  rw [hφeq] at g1 g2 g3
  have hBj : c'.B[j]? = some (.rows t d (l.take n)) := by simp [c', hjl]
  cases hv with
  | @sub _ b t2 _ l2 _ _ cap hB2 hφ hl hl2 hc hcap =>
    rw [hB] at hB2
    cases hB2
    simp only [Nat.zero_add, Nat.zero_mul] at hl hl2 hc hcap ⊢
    have hlen : (l.take n).length = n := by simp; omega
    have hblk := h.blk _ _ hB
    cases hblk with
    | @rows _ _ _ b2 cap2 cur h1 h2 h3 h4 h5 h8 =>
      refine ⟨g1, g3 (.rows (cap := cap2) h1 h2 h3 (by rw [hlen]; omega) h5 (fun i o x hi hx => ?_)), g2, ?_⟩
      · rw [hlen] at hi
        have e1 : elem d (l.take n) i = elem d l i := by
          simp [elem, List.getD_eq_getElem?_getD, List.getElem?_take, hi]
        rw [e1] at hx
        have := (h8 i o x (by omega) hx).rn g1 (g := forget j) (fun i n hn => by obtain ⟨rfl, hne⟩ := forget_ne hn; exact g2 _ hne)
        rwa [plain_rn (enc_mem hx)] at this
      · have := CRel.own (c := c') (j := j) (b := b) (cap := cap) hBj hφ (by rw [hlen]; omega) hc hcap
        rw [hlen] at this
        exact this
    | none h1 => rw [h1] at hφ; cases hφ
  | @subE _ t2 _ l2 _ ad hB2 hl ha =>
    rw [hB] at hB2
    cases hB2
    have hφ := ha rfl
    have hln : l = [] := by
      have := h.blk _ _ hB
      cases this with
      | rows h1 _ _ _ _ _ => rw [hφ] at h1; cases h1
      | none _ => rfl
    subst hln
    have hBj' : c'.B[j]? = some (.rows t d []) := by rw [hBj]; simp
    have hbn : BRel c' j (.rows t d []) := .none hφ
    have e0 : ([] : List (den d)).take 0 = [] := by simp
    exact ⟨g1, g3 (by rw [e0]; simp only [c', e0] at hbn ⊢; exact hbn), g2, .ownN hBj' hφ⟩

theorem trimC_ok {n0 : Nat} : ∀ {l : List AC} {j n : Nat} {s : List AC}, trimC n0 l = some (j, n, s) → n0 ≤ j ∧ s.length = l.length ∧ ∃ i : Nat, l[i]? = some (.sub j 0 n) ∧
    ∀ (m : Nat) (y : AC), s[m]? = some y → (m = i ∧ y = .own j) ∨ ∃ x, l[m]? = some x ∧ y = x.rn (forget j)
  | [], j, n, s, h => by cases h
  | x :: r, j, n, s, h => by
    have rest : (match trimC n0 r with | some (i, m, s) => some (i, m, x.rn (forget i) :: s) | none => none) = some (j, n, s) → n0 ≤ j ∧ s.length = (x :: r).length ∧ ∃ i : Nat, (x :: r)[i]? = some (.sub j 0 n) ∧
        ∀ (m : Nat) (y : AC), s[m]? = some y → (m = i ∧ y = .own j) ∨ ∃ z, (x :: r)[m]? = some z ∧ y = z.rn (forget j) := by
      intro h
      split at h
      · rename_i i m s' hs
        cases h
        obtain ⟨h1, h2, q, h3, h4⟩ := trimC_ok hs
        refine ⟨h1, by simp [h2], q + 1, by simpa using h3, fun m y hy => ?_⟩
        cases m with
        | zero => simp at hy; exact .inr ⟨x, rfl, hy.symm⟩
        | succ m =>
          rcases h4 m y (by simpa using hy) with ⟨e1, e2⟩ | ⟨z, e1, e2⟩
          · exact .inl ⟨by omega, e2⟩
          · exact .inr ⟨z, by simpa using e1, e2⟩
      · cases h
    unfold trimC at h
    split at h
    · rename_i j' n'
      split at h
      · rename_i hb
        cases h
        refine ⟨Nat.le_of_ble_eq_true hb, by simp, 0, rfl, fun m y hy => ?_⟩
        cases m with
        | zero => simp at hy; exact .inl ⟨rfl, hy.symm⟩
        | succ m =>
          simp at hy
          obtain ⟨z, hz, rfl⟩ := hy
          exact .inr ⟨z, by simpa using hz, rfl⟩
      · exact rest h
    · exact rest h

/-- A cell that is told of as all rows; the others forget the block. -/
structure Trims (n0 j n : Nat) (v u : AV) : Prop where
  le : n0 ≤ j
  sub : ∀ {c : Cx} {x : Value}, VRel c v x → ∃ y, CRel c (.sub j 0 n) y
  ok : ∀ {c c' : Cx} {x : Value}, ImmUp c c' → (∀ i, i ≠ j → At c c' i i) → (∀ y, CRel c (.sub j 0 n) y → CRel c' (.own j) y) → VRel c v x → VRel c' u x
  ne : ∀ l, u ≠ .tup l

theorem forget_at {c c' : Cx} {j : Nat} (ha : ∀ i, i ≠ j → At c c' i i) : ∀ i n, forget j i = some n → At c c' i n := fun i n hn => by
  obtain ⟨rfl, hne⟩ := forget_ne hn
  exact ha _ hne

theorem trimV_ok {n0 : Nat} {v u : AV} {j n : Nat} (h : trimV n0 v = some (j, n, u)) : Trims n0 j n v u := by
  cases v with
  | one x =>
    simp only [trimV] at h
    split at h
    · rename_i j' n' y hs
      cases h
      obtain ⟨h1, h2, i, h3, h4⟩ := trimC_ok hs
      have hi : i = 0 := by have := (List.getElem?_eq_some_iff.1 h3).1; simp at this; exact this
      subst hi
      simp at h3
      subst h3
      have hy : y = .own j := by
        simp only [trimC] at hs
        split at hs
        · simp at hs; exact hs.symm
        · cases hs
      subst hy
      refine ⟨h1, fun hv => ?_, fun hi ha hs hv => ?_, fun l e => by cases e⟩
      · cases hv with | one hv => exact ⟨_, hv⟩
      · cases hv with | one hv => exact .one (hs _ hv)
    · cases h
  | agg l =>
    simp only [trimV] at h
    split at h
    · rename_i j' n' s hs
      cases h
      obtain ⟨h1, h2, i, h3, h4⟩ := trimC_ok hs
      refine ⟨h1, fun hv => ?_, fun hi ha hsub hv => ?_, fun l e => by cases e⟩
      · cases hv with | agg _ hr => exact ⟨_, hr i _ h3⟩
      · cases hv with
        | agg hsz hr =>
          refine .agg (by omega) (fun m y hy => ?_)
          rcases h4 m y hy with ⟨rfl, rfl⟩ | ⟨z, e1, rfl⟩
          · exact hsub _ (hr _ _ h3)
          · exact (hr m z e1).rn hi (forget_at ha)
    · cases h
  | _ => cases h

theorem AV.rn_ne {g : Nat → Option Nat} {x : AV} (h : ∀ l, x ≠ .tup l) : ∀ l, x.rn g ≠ .tup l := by
  cases x with
  | tup y => exact absurd rfl (h y)
  | _ => intro l e; cases e

theorem trimL_ok {n0 : Nat} : ∀ {rs : List AV} {j n : Nat} {s : List AV}, trimL n0 rs = some (j, n, s) → (∀ r ∈ rs, ∀ l, r ≠ AV.tup l) → n0 ≤ j ∧ s.length = rs.length ∧ (∀ r ∈ s, ∀ l, r ≠ AV.tup l) ∧
    (∀ {c : Cx} {f : Nat → Value}, (∀ (i : Nat) (x : AV), rs[i]? = some x → VRel c x (f i)) → ∃ y, CRel c (.sub j 0 n) y) ∧
    ∀ {c c' : Cx} {f : Nat → Value}, ImmUp c c' → (∀ i, i ≠ j → At c c' i i) → (∀ y, CRel c (.sub j 0 n) y → CRel c' (.own j) y) → (∀ (i : Nat) (x : AV), rs[i]? = some x → VRel c x (f i)) → ∀ (i : Nat) (x : AV), s[i]? = some x → VRel c' x (f i)
  | [], j, n, s, h, hnt => by cases h
  | v :: r, j, n, s, h, hnt => by
    unfold trimL at h
    split at h
    · rename_i j' n' u hv
      cases h
      have T := trimV_ok hv
      refine ⟨T.le, by simp, fun q hq l => ?_, fun hr => T.sub (hr 0 v rfl), fun hi ha hs hr i x hx => ?_⟩
      · rcases List.mem_cons.1 hq with rfl | hq
        · exact T.ne l
        · obtain ⟨z, hz, rfl⟩ := List.mem_map.1 hq
          exact AV.rn_ne (hnt z (by simp [hz])) l
      · cases i with
        | zero => simp at hx; subst hx; exact T.ok hi ha hs (hr 0 v rfl)
        | succ i =>
          simp at hx
          obtain ⟨z, hz, rfl⟩ := hx
          exact (hr (i + 1) z (by simpa using hz)).rn hi (forget_at ha)
    · split at h
      · rename_i j' n' s' hs'
        cases h
        obtain ⟨h1, h2, h3, h4, h5⟩ := trimL_ok hs' (fun q hq => hnt q (by simp [hq]))
        refine ⟨h1, by simp [h2], fun q hq l => ?_, fun {c f} hr => h4 (f := fun i => f (i + 1)) (fun i x hx => hr (i + 1) x (by simpa using hx)), fun {c c' f} hi ha hs hr i x hx => ?_⟩
        · rcases List.mem_cons.1 hq with rfl | hq
          · exact AV.rn_ne (hnt v (by simp)) l
          · exact h3 q hq l
        · cases i with
          | zero => simp at hx; subst hx; exact (hr 0 v rfl).rn hi (forget_at ha)
          | succ i => exact h5 (f := fun i => f (i + 1)) hi ha hs (fun i x hx => hr (i + 1) x (by simpa using hx)) i x (by simpa using hx)
      · cases h

theorem trim1_ok {n0 : Nat} {w0 : World} {M : Nat → Prop} {c : Cx} (hO : Own w0 M c) {rs : List AV} {f : Nat → Value} (hnt : ∀ r ∈ rs, ∀ l, r ≠ AV.tup l) (g2 : ∀ (i : Nat) (x : AV), rs[i]? = some x → VRel c x (f i)) :
    ∃ c1, c1.w = c.w ∧ c1.B = (trim1 n0 rs c.B).2 ∧ Own w0 M c1 ∧ ImmUp c c1 ∧ (∀ j, j < n0 → At c c1 j j) ∧ (trim1 n0 rs c.B).1.length = rs.length ∧ (∀ r ∈ (trim1 n0 rs c.B).1, ∀ l, r ≠ AV.tup l) ∧ ∀ (i : Nat) (x : AV), (trim1 n0 rs c.B).1[i]? = some x → VRel c1 x (f i) := by
  unfold trim1
  split
  · rename_i j n s hs
    obtain ⟨h1, h2, h3, h4, h5⟩ := trimL_ok hs hnt
    split
    · rename_i t d l hB
      obtain ⟨y, hy⟩ := h4 g2
      obtain ⟨k1, k2, k4, k3⟩ := hO.trim hB hy
      refine ⟨⟨c.w, c.I, c.φ, (c.B.map fun b => b.rn (forget j)).set j (.rows t d (l.take n))⟩, rfl, rfl, k2, k1, fun i hi => k4 i (by omega), h2, h3, fun i x hx => h5 k1 k4 (fun y hy => (hO.trim hB hy).2.2.2) g2 i x hx⟩
    · exact ⟨c, rfl, rfl, hO, .refl c, fun j _ => .refl c j, rfl, hnt, g2⟩
  · exact ⟨c, rfl, rfl, hO, .refl c, fun j _ => .refl c j, rfl, hnt, g2⟩

theorem trim_ok {n0 : Nat} {w0 : World} {M : Nat → Prop} {c : Cx} (hO : Own w0 M c) {rs : List AV} {f : Nat → Value} (hnt : ∀ r ∈ rs, ∀ l, r ≠ AV.tup l) (g2 : ∀ (i : Nat) (x : AV), rs[i]? = some x → VRel c x (f i)) :
    ∃ c1, c1.w = c.w ∧ c1.B = (trim n0 rs c.B).2 ∧ Own w0 M c1 ∧ ImmUp c c1 ∧ (∀ j, j < n0 → At c c1 j j) ∧ (trim n0 rs c.B).1.length = rs.length ∧ (∀ r ∈ (trim n0 rs c.B).1, ∀ l, r ≠ AV.tup l) ∧ ∀ (i : Nat) (x : AV), (trim n0 rs c.B).1[i]? = some x → VRel c1 x (f i) := by
  obtain ⟨c1, h1, h2, h3, h4, h5, h6, h7, h8⟩ := trim1_ok (n0 := n0) hO hnt g2
  obtain ⟨c2, k1, k2, k3, k4, k5, k6, k7, k8⟩ := trim1_ok (n0 := n0) h3 h7 h8
  rw [h2] at k2 k6 k7 k8
  exact ⟨c2, k1.trans h1, k2, k3, h4.trans k4, fun j hj => (h5 j hj).trans (k5 j hj), k6.trans h6, k7, k8⟩

theorem clean_ok {T : Tab} {dat : Bool} {n0 : Nat} {w0 : World} {M : Nat → Prop} {c : Cx} (hO : Own w0 M c) {rs : List AV} {v : Value} {K : Kont} (hK : clean T dat n0 K rs c.B = true) (hv : VRel c (resV rs) v) :
    ∃ c' rs', c'.w = c.w ∧ K rs' c'.B = true ∧ Own w0 M c' ∧ ImmUp c c' ∧ (∀ j, j < n0 → At c c' j j) ∧ VRel c' (resV rs') v := by
  unfold clean at hK
  split at hK
  · rename_i hnt
    have hnt := noTup_ne hnt
    obtain ⟨vs, g1, g2, g3⟩ := resV_get hv
    split at hK
    · refine canonR_ok (T := T) hO (fun r hr l => ?_) hK (g3 c _ (by simp) (fun i x hx => ?_))
      · obtain ⟨q, hq, rfl⟩ := List.mem_map.1 hr
        exact plainN_ne (hnt q hq) l
      · rw [List.getElem?_map] at hx
        cases hq : rs[i]? with
        | none => rw [hq] at hx; cases hx
        | some q => rw [hq] at hx; cases hx; exact (g2 i q hq).plainN
    · obtain ⟨c1, h1, h2, h3, h4, h8, h5, h6, h7⟩ := trim_ok (n0 := n0) (f := fun i => vs.getD i undef) hO hnt g2
      obtain ⟨c2, k1, k2, k3, k4, k5, k6, k7⟩ := promR_ok (T := T) _ (fun i => vs.getD i undef) c1 h3 h7
      rw [h2] at k2 k6 k7
      simp only at hK
      rw [← k2] at hK
      obtain ⟨c3, rs', s1, s2, s3, s4, s5, s6⟩ := canonR_ok (T := T) k3 (promR_ne h6) hK (g3 c2 _ (by rw [k6, h5]) k7)
      exact ⟨c3, rs', s1.trans (k1.trans h1), s2, s3, h4.trans (k4.trans s4), fun j hj => (h8 j hj).trans ((k5 j).trans (s5 j hj)), s6⟩
  · cases hK

/-! ### what is so of data that a machine holds -/
def okC : AC → Prop
  | .int k n => (Lit.int k n).wf = true
  | .str s => okS s
  | .dat c l => okL (okD c) l
  | .pdat c x _ => okD c x
  | _ => True
def okV : AV → Prop
  | .one x => okC x
  | .agg l => ∀ x ∈ l, okC x
  | _ => True
def okB : Blk → Prop
  | .box cs => ∀ x ∈ cs, okC x
  | .rows _ c l => okL (okD c) l
  | _ => True
theorem wf_i64 {n : Int} : (Lit.int .i64 n).wf = true ↔ i64 n := by
  rw [wf_iff]
  simp [IntKind.min, IntKind.max, IntKind.signed, IntKind.bits, i64]
theorem okD_of {d : Cd} {x : den d} (h : ∀ z ∈ enc d x, okC z) : okD d x := by
  cases d <;> simp only [enc, D.Ival.cs, D.Drift.cs, D.Osc.cs, D.Stride.cs, D.Mark.cs, D.Msg.cs, D.Flight.cs, D.Net.cs, D.Local.cs, D.Ask.cs, D.Table.cs, D.Trip.cs, D.Peer.cs, D.Frac.cs, D.App.cs, D.Look.cs, D.Reading.cs, D.Slot.cs, D.Plan.cs, D.Frame.cs, D.Clash.cs, D.Heard.cs, D.Life.cs, D.Event.cs, D.Cfg.cs, D.Node.cs, D.World.cs, D.Op.cs, D.Told.cs, List.mem_cons, List.not_mem_nil, or_false, forall_eq_or_imp, forall_eq, okC, wf_i64, true_and, and_true] at h <;> simp only [okD, okD.int, okD.byte, okD.bool, okD.str, okD.ival, okD.stride, okD.mark, okD.msg, okD.flight, okD.ask, okD.trip, okD.peer, okD.look, okD.reading, okD.slot, okD.frame, okD.clash, okD.heard, okD.event, okD.node, okD.op, okD.told, D.Ival.ok, D.Drift.ok, D.Osc.ok, D.Stride.ok, D.Mark.ok, D.Msg.ok, D.Flight.ok, D.Net.ok, D.Local.ok, D.Ask.ok, D.Table.ok, D.Trip.ok, D.Peer.ok, D.Frac.ok, D.App.ok, D.Look.ok, D.Reading.ok, D.Slot.ok, D.Plan.ok, D.Frame.ok, D.Clash.ok, D.Heard.ok, D.Life.ok, D.Event.ok, D.Cfg.ok, D.Node.ok, D.World.ok, D.Op.ok, D.Told.ok, true_and, and_true] <;> simp_all [okD]
theorem elem_mem {d : Cd} {l : List (den d)} {x : den d} (h : x ∈ l) : ∃ i, i < l.length ∧ elem d l i = x := by
  obtain ⟨i, hi⟩ := List.getElem?_of_mem h
  have hl := (List.getElem?_eq_some_iff.1 hi).1
  have := elem_some (d := d) hl
  rw [hi] at this
  exact ⟨i, hl, (Option.some.inj this).symm⟩
theorem enc_all {d : Cd} {x : den d} {p : AC → Prop} (h : ∀ (o : Nat) (z : AC), (enc d x)[o]? = some z → p z) : ∀ z ∈ enc d x, p z := fun z hz => by
  obtain ⟨o, ho⟩ := List.getElem?_of_mem hz
  exact h o z ho
theorem CRel.ok {c : Cx} {x : AC} {v : Value} (h : CRel c x v) : okC x := by
  induction h with
  | int h => exact h
  | str h => show okS _; unfold okS; simpa using h
  | emp _ _ => exact ⟨Nat.zero_le _, fun x hx => by cases hx⟩
  | dat vals hl hc hs hI hcell hr ih =>
    refine ⟨Nat.le_trans hl hc, fun x hx => ?_⟩
    obtain ⟨i, hi, rfl⟩ := elem_mem hx
    exact okD_of (enc_all fun o z hz => ih i o z hi hz)
  | pdat vals hI hcell hr ih => exact okD_of (enc_all ih)
  | _ => trivial
theorem VRel.ok {c : Cx} {x : AV} {v : Value} (h : VRel c x v) : okV x := by
  cases h with
  | one h => exact h.ok
  | agg hs hr =>
    intro x hx
    obtain ⟨i, hi⟩ := List.getElem?_of_mem hx
    exact (hr i x hi).ok
  | _ => trivial
theorem BRel.ok {c : Cx} {j : Nat} {x : Blk} (h : BRel c j x) : okB x := by
  cases h with
  | box h1 h2 h3 h4 =>
    intro x hx
    obtain ⟨i, hi⟩ := List.getElem?_of_mem hx
    exact (h4 i x hi).ok
  | rows h1 h2 h3 h4 h5 h8 =>
    refine ⟨Nat.le_trans h4 h5, fun x hx => ?_⟩
    obtain ⟨i, hi, rfl⟩ := elem_mem hx
    exact okD_of (enc_all fun o z hz => (h8 i o z hi hz).ok)
  | none _ => exact ⟨Nat.zero_le _, fun x hx => by cases hx⟩
  | map _ _ _ _ => trivial
  | dead => trivial

/-- What the code does, in the place of the code. -/
theorem EnvOk.put {E : Env} (he : EnvOk E) (hm : E.P.follows .mixedOrders = true) (f : FuncId) (fits : List AV → Bool) (ref : List Bool) (go : List AV → List Blk → Kont → Bool)
    (h : ∀ args B K, go args B K = true → (∀ x ∈ args, okV x) → (∀ b ∈ B, okB b) → ∃ k d dat, bodyA E (run E k d) f k args B (clean E.T dat B.length K) = true) : EnvOk (E.add f ⟨fits, ref, go⟩) := by
  refine he.add (fun args B K hk w0 M c vs hO hB hsz hr => ?_)
  obtain ⟨k, d, dat, hb⟩ := h args B K hk (fun x hx => by
    obtain ⟨i, hi⟩ := List.getElem?_of_mem hx
    exact (hr i x hi).ok) (fun b hb => by
    subst hB
    obtain ⟨i, hi⟩ := List.getElem?_of_mem hb
    exact (hO.blk i b hi).ok)
  refine (body_ok he.tab (run_ok he hm k d) hm k hb hO hB hsz hr).mono fun e w' ⟨v, c', rs, h1, h2, h3, h4, h5, h7, h6⟩ => ?_
  obtain ⟨c2, rs2, g1, g2, g3, g4, g6, g5⟩ := clean_ok h4 h3 h6
  exact ⟨v, c2, rs2, h1, by rw [g1]; exact h2, g2, g3, h5.trans g4, fun j hj => (h7 j hj).trans (g6 j hj), g5⟩

def isTrue : Kont := fun rs _ => match rs with | [.one (.bool b)] => b | _ => false

/-- A law's call. -/
theorem law_calls {E : Env} (he : EnvOk E) (hm : E.P.follows .mixedOrders = true) {f : FuncId} {k d : Nat} {args : List AV} (hk : bodyA E (run E k d) f k args [] isTrue = true) {w : World} {vs : Array Value} (hsz : vs.size = args.length)
    (hr : ∀ (i : Nat) (x : AV), args[i]? = some x → VRel ⟨w, fun b => b < w.heap.size, [], []⟩ x (vs.getD i undef)) : Calls E.P f vs w fun e w' => e = .returned (.bool true) ∧ RowKit.Below w.heap.size w w' := by
  have hO : Own w (fun _ => False) ⟨w, fun b => b < w.heap.size, [], []⟩ := ⟨rfl, fun j b hb => by simp at hb, fun i j b hb => by simp at hb, fun b hb => hb, fun j x hx => by simp at hx, rfl, rfl, rfl, Nat.le_refl _, fun b _ _ => rfl⟩
  refine (body_ok he.tab (run_ok he hm k d) hm k hk hO rfl hsz hr).mono fun e w' ⟨v, c', rs, h1, h2, h3, h4, h5, _, h6⟩ => ?_
  subst h1; subst h2
  refine ⟨?_, h4.os, h4.tape, h4.output, h4.size, fun b hb => h4.keep b hb (fun hh => hh)⟩
  unfold isTrue at h3
  split at h3
  · subst h3
    cases h6 with
    | one h6 => cases h6; rfl
  · cases h3
end Go.X
